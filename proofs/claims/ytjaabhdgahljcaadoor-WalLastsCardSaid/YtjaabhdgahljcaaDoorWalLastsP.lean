/- A log that is torn, or not, and found again: the plain part of WalLasts. Plain Lean, no Go. -/
import Derived.Test.YtjaabhdgahljcaaDoorWalKeeps
namespace Go.Proofs.YtjaabhdgahljcaaDoor

/-- Before the power may go: a log, what it had, what it is to have. -/
structure LastOk (σ : Dk) (l : Lg) (reset : Bool) (was is : List (List UInt8)) : Prop where
  ok : StepOk σ l 25
  recs : l.recs = was
  is : is = if reset then [] else was ++ l.waiting
  wait : reset = true → l.waiting = []

theorem StepOk.addM {σ : Dk} {l : Lg} {k : Nat} (h : StepOk σ l k) (r : List UInt8) (hr : r.length ≤ 150) :
    (l.add r = (0, { l with waiting := l.waiting ++ [r] }) ∧ StepOk σ { l with waiting := l.waiting ++ [r] } k) ∨ l.add r = (7, l) := by
  have hok := Lg.add_ok h.sat.log r
  by_cases hf : l.room < (8 + r.length : Int)
  · refine .inr ?_
    unfold Lg.add
    rw [h.sat.lost, if_neg (by simp), if_neg (by omega), if_pos (by omega)]
  · have e : l.add r = (0, { l with waiting := l.waiting ++ [r] }) := by
      unfold Lg.add
      rw [h.sat.lost, if_neg (by simp), if_neg (by omega), if_neg (by omega)]
    rw [e] at hok
    refine .inl ⟨e, ⟨⟨h.sat.ok, hok, h.sat.lost, h.sat.down, h.sat.pend, h.sat.room, ⟨h.sat.fits.head, h.sat.fits.data⟩⟩, h.armed, h.base, h.n, h.epoch, h.len⟩⟩

theorem StepOk.drop {σ : Dk} {l : Lg} {k : Nat} (h : StepOk σ l k) : StepOk σ l.drop k :=
  ⟨⟨h.sat.ok, Lg.drop_ok h.sat.log, h.sat.lost, h.sat.down, h.sat.pend, h.sat.room, ⟨h.sat.fits.head, h.sat.fits.data⟩⟩, h.armed, h.base, h.n, h.epoch, h.len⟩

theorem LastOk.begin {σ : Dk} {l : Lg} (h : StepOk σ l 25) (reset : Bool) : LastOk σ l.drop reset l.recs (if reset then [] else l.recs) :=
  ⟨h.drop, rfl, by cases reset <;> simp [Lg.drop], fun _ => rfl⟩

theorem Sat.arm {σ : Dk} {l : Lg} (S : Sat σ l) (n : Int) (hn : n ≤ 9223372036854775807) : Sat (σ.arm n).2 l := by
  have hok := Dk.arm_ok S.ok hn
  unfold Dk.arm at hok ⊢
  rw [S.down] at hok ⊢
  exact ⟨hok, S.log, S.lost, rfl, S.pend, S.room, S.fits⟩

/-- Behind the sync, or the reset: it went well, or the power went. -/
structure Hit (e : Int) (σ : Dk) (lv l lz : Lg) (was is : List (List UInt8)) : Prop where
  way : (e = 0 ∧ lv = lz ∧ Sat σ lz) ∨ (e = 10 ∧ lv = { l with lost := true } ∧ Torn σ l lz)
  l1 : l.Ok
  l2 : l.lost = false
  l3 : l.base = 2
  l4 : l.n = 16
  l5 : l.recs = was
  z1 : lz.Ok
  z2 : lz.lost = false
  z3 : lz.base = 2
  z4 : lz.n = 16
  z5 : lz.recs = is
  pend : σ.pend.length ≤ 70000

theorem synced_ok {l : Lg} (lo : l.Ok) : l.synced.Ok := by
  have h := lo.fits
  refine ⟨lo.two, lo.most, lo.base, lo.epoch, ?_, ?_, ?_, ?_⟩
  · simp only [Lg.synced, List.length_append, frames, List.flatMap_nil, List.length_nil, Nat.add_zero] at h ⊢; exact h
  · simp only [Lg.synced]; rw [frames_append, lo.form]
  · intro r hr
    simp only [Lg.synced, List.mem_append] at hr
    exact hr.elim (lo.recs r) (lo.waits r)
  · intro r hr; simp [Lg.synced] at hr

theorem fresh_ok {l : Lg} (lo : l.Ok) (he : l.epoch < 2 ^ 62) (hw : l.waiting = []) : l.fresh.Ok := by
  refine ⟨lo.two, lo.most, lo.base, ?_, ?_, ?_, ?_, ?_⟩
  · simp only [Lg.fresh]; omega
  · simp [Lg.fresh, hw, frames]
  · simp [Lg.fresh, frames]
  · intro r hr; simp [Lg.fresh] at hr
  · intro r hr; simp [Lg.fresh, hw] at hr

theorem LastOk.sync {σ : Dk} {l : Lg} {was is : List (List UInt8)} (h : LastOk σ l false was is) (n : Int) (hn : n ≤ 9223372036854775807) :
    Hit (l.sync (σ.arm n).2).1 (l.sync (σ.arm n).2).2.2 (l.sync (σ.arm n).2).2.1 l l.synced was is := by
  have hS := h.ok.sat.arm n hn
  have hp := Lg.sync_pend h.ok.sat.log (σ.arm n).2
  rw [hS.pend, List.length_nil] at hp
  have hz := synced_ok h.ok.sat.log
  have hr := h.recs
  have hi := h.is
  refine ⟨?_, h.ok.sat.log, h.ok.sat.lost, h.ok.base, h.ok.n, hr, hz, h.ok.sat.lost, h.ok.base, h.ok.n, ?_, by omega⟩
  · rcases sync_run hS with ⟨h1, h2, h3, -⟩ | ⟨-, h1, h2, h3⟩
    · exact .inl ⟨h1, h2, h3⟩
    · exact .inr ⟨h1, h2, h3⟩
  · rw [hi, ← hr]; rfl

theorem LastOk.reset {σ : Dk} {l : Lg} {was is : List (List UInt8)} (h : LastOk σ l true was is) (n : Int) (hn : n ≤ 9223372036854775807) :
    Hit (l.reset (σ.arm n).2).1 (l.reset (σ.arm n).2).2.2 (l.reset (σ.arm n).2).2.1 l l.fresh was is := by
  have hS := h.ok.sat.arm n hn
  have hp := Lg.reset_pend l (σ.arm n).2
  rw [hS.pend, List.length_nil] at hp
  have hw := h.wait rfl
  have hep := h.ok.epoch
  have hz := fresh_ok h.ok.sat.log (by omega) hw
  have hr := h.recs
  have hi := h.is
  refine ⟨?_, h.ok.sat.log, h.ok.sat.lost, h.ok.base, h.ok.n, hr, hz, h.ok.sat.lost, h.ok.base, h.ok.n, ?_, by omega⟩
  · rcases reset_run hS hw (by omega) with ⟨h1, h2, h3, -⟩ | ⟨-, h1, h2, h3⟩
    · exact .inl ⟨h1, h2, h3⟩
    · exact .inr ⟨h1, h2, h3⟩
  · rw [hi]; rfl

/-- The disk without power. -/
structure Dark (e : Int) (σ : Dk) (la lz : Lg) (was is : List (List UInt8)) : Prop where
  torn : Torn σ la lz
  err : e = 0 ∨ e = 10
  a1 : la.Ok
  a2 : la.lost = false
  a3 : la.base = 2
  a4 : la.n = 16
  a5 : e = 0 → la.recs = is
  a6 : e = 10 → la.recs = was
  z1 : lz.Ok
  z2 : lz.lost = false
  z3 : lz.base = 2
  z4 : lz.n = 16
  z5 : lz.recs = is

theorem Hit.off {σ : Dk} {lv l lz : Lg} {was is : List (List UInt8)} (h : Hit 0 σ lv l lz was is) : σ.down = false ∧ σ.off.1 = 0 ∧ Dark 0 σ.off.2 lz lz was is := by
  rcases h.way with ⟨-, -, S⟩ | ⟨e, -⟩
  · obtain ⟨h1, h2⟩ := S.off
    exact ⟨S.down, h1, h2, .inl rfl, h.z1, h.z2, h.z3, h.z4, fun _ => h.z5, fun e => (by omega), h.z1, h.z2, h.z3, h.z4, h.z5⟩
  · omega

theorem Hit.dark {σ : Dk} {lv l lz : Lg} {was is : List (List UInt8)} (h : Hit 10 σ lv l lz was is) : σ.down = true ∧ Dark 10 σ l lz was is := by
  rcases h.way with ⟨e, -⟩ | ⟨-, -, T⟩
  · omega
  · exact ⟨T.down, T, .inr rfl, h.l1, h.l2, h.l3, h.l4, fun e => (by omega), fun _ => h.l5, h.z1, h.z2, h.z3, h.z4, h.z5⟩

/-- Found again. -/
theorem Dark.on {e : Int} {σ : Dk} {la lz : Lg} {was is : List (List UInt8)} (h : Dark e σ la lz was is) (keep : List Bool) :
    (σ.on keep).1 = 0 ∧ ∃ m : Lg, openLg (σ.on keep).2 2 16 = (0, some m) ∧ (m.recs = is ∨ e = 10 ∧ m.recs = was) := by
  obtain ⟨h1, -, h2⟩ := h.torn.on h.a1 h.z1 h.a2 h.z2 (by rw [h.z3, h.a3]) (by rw [h.z4, h.a4]) keep
  refine ⟨h1, ?_⟩
  rcases h2 with S | S
  · have ho := S.open
    rw [h.a3, h.a4] at ho
    refine ⟨la.still, ho, ?_⟩
    rcases h.err with e0 | e0
    · exact .inl (h.a5 e0)
    · exact .inr ⟨e0, h.a6 e0⟩
  · have ho := S.open
    rw [h.z3, h.z4] at ho
    exact ⟨lz.still, ho, .inl h.z5⟩

theorem lost_add (l : Lg) (r : List UInt8) : ({ l with lost := true } : Lg).add r = (10, { l with lost := true }) := by simp [Lg.add]
theorem lost_sync (l : Lg) (σ : Dk) : ({ l with lost := true } : Lg).sync σ = (10, { l with lost := true }, σ) := by simp [Lg.sync]
theorem lost_reset (l : Lg) (σ : Dk) : ({ l with lost := true } : Lg).reset σ = (10, { l with lost := true }, σ) := by simp [Lg.reset]

end Go.Proofs.YtjaabhdgahljcaaDoor
