/- Parts of the proof: A disk under writes, wherever the power goes: what holds of each image that may be left. Plain Lean, no Go. -/
import Derived.Test.YtnffnpndnaofhaaGreatDoorQaf
import Derived.Test.YtnffnpndnaofhaaGreatDoorQac
import Derived.Test.YtnffnpndnaofhaaGreatDoorChecked
import Derived.Outline

/- A disk under writes, wherever the power goes: what holds of each image that may be left. Plain Lean, no Go. -/
namespace Go.Proofs.YtnffnpndnaofhaaGreatDoor

abbrev Img := Nat → List UInt8

/-- One sector is another one. -/
def updI (img : Img) (i : Nat) (s : List UInt8) : Img := fun j => if i = j then s else img j

/-- Whatever part of what waits is kept: Q. -/
def Crash (σ : Dk) (Q : Img → Prop) : Prop := ∀ ps, ps.Sublist σ.pend → Q (lookP σ.kept ps)

structure Up (σ : Dk) (N : Nat) : Prop where
  ok : σ.Ok
  down : σ.down = false
  len : σ.kept.length = N

structure Dn (σ : Dk) (N : Nat) : Prop where
  ok : σ.Ok
  down : σ.down = true
  len : σ.kept.length = N

/-- It is done (A), or the power goes (B). -/
def Out (r : Int × Dk) (σ : Dk) (N : Nat) (A B : Dk → Prop) : Prop :=
  (r.1 = 0 ∧ Up r.2 N ∧ r.2.armed = σ.armed ∧ A r.2) ∨ (σ.armed = true ∧ r.1 = 10 ∧ Dn r.2 N ∧ B r.2)

theorem Out.mono {r : Int × Dk} {σ : Dk} {N : Nat} {A B A' B' : Dk → Prop} (h : Out r σ N A B) (ha : A r.2 → A' r.2) (hb : B r.2 → B' r.2) : Out r σ N A' B' := by
  rcases h with ⟨h1, h2, h3, h4⟩ | ⟨h1, h2, h3, h4⟩
  · exact .inl ⟨h1, h2, h3, ha h4⟩
  · exact .inr ⟨h1, h2, h3, hb h4⟩

/-- One after the other. -/
theorem Out.then {q r : Int × Dk} {σ : Dk} {N : Nat} {A B A' : Dk → Prop} (h : Out q σ N A B) (hr : q.1 = 0 → Up q.2 N → q.2.armed = σ.armed → A q.2 → Out r q.2 N A' B) (hz : q.1 ≠ 0 → r = q) : Out r σ N A' B := by
  rcases h with ⟨h1, h2, h3, h4⟩ | ⟨h1, h2, h3, h4⟩
  · rcases hr h1 h2 h3 h4 with ⟨g1, g2, g3, g4⟩ | ⟨g1, g2, g3, g4⟩
    · exact .inl ⟨g1, g2, by rw [g3, h3], g4⟩
    · exact .inr ⟨by rw [← h3]; exact g1, g2, g3, g4⟩
  · have e := hz (by omega)
    subst e
    exact .inr ⟨h1, h2, h3, h4⟩

theorem Crash.mono {σ : Dk} {Q R : Img → Prop} (h : Crash σ Q) (hi : ∀ img, Q img → R img) : Crash σ R := fun ps hp => hi _ (h ps hp)

theorem Crash.look {σ : Dk} {Q : Img → Prop} (h : Crash σ Q) : Q σ.look := by
  have := h σ.pend (List.Sublist.refl _)
  exact this

theorem imgK_nil (K : List (List UInt8)) : lookP K [] = imgK K := rfl

theorem Crash.of_look {σ : Dk} {Q : Img → Prop} (hp : σ.pend = []) (h : Q σ.look) : Crash σ Q := by
  intro ps hs
  rw [hp] at hs
  obtain rfl := List.eq_nil_of_sublist_nil hs
  have e : σ.look = lookP σ.kept [] := by funext i; rw [look_eq, hp]
  rw [← e]
  exact h

theorem sublist_snoc {α : Type} {l : List α} {xs : List α} {x : α} (h : l.Sublist (xs ++ [x])) : l.Sublist xs ∨ ∃ ys, l = ys ++ [x] ∧ ys.Sublist xs := by
  obtain ⟨l1, l2, rfl, h1, h2⟩ := List.sublist_append_iff.1 h
  rcases List.sublist_cons_iff.1 h2 with h3 | ⟨r, rfl, h3⟩
  · obtain rfl := List.eq_nil_of_sublist_nil h3
    exact .inl (by simpa using h1)
  · obtain rfl := List.eq_nil_of_sublist_nil h3
    exact .inr ⟨l1, rfl, h1⟩

theorem lookP_snoc (K : List (List UInt8)) (ps : List (Nat × List UInt8)) (i : Nat) (s : List UInt8) : lookP K (ps ++ [(i, s)]) = updI (lookP K ps) i s := by
  funext j
  simp [lookP, updI, List.foldl_append]

theorem Crash.write {σ : Dk} {N : Nat} {Q : Img → Prop} (u : Up σ N) {i : Nat} (hi : i < N) {s : List UInt8} (hs : s.length ≤ 64) (h : Crash σ Q) (hq : ∀ img, Q img → Q (updI img i (pad s))) :
    Out (σ.write (i : Int) s) σ N (fun τ => τ.pend.length = σ.pend.length + 1 ∧ τ.look = updI σ.look i (pad s) ∧ Crash τ Q) (fun τ => Crash τ Q) := by
  have hok := Dk.write_ok u.ok (i : Int) s
  rcases write_run u.down (i := i) (by rw [u.len]; exact hi) hs with ⟨h1, h2, h3, h4, h5⟩ | ⟨h0, h1, h2, h3, h4⟩
  · refine .inl ⟨h1, ⟨hok, h2, by rw [h4, u.len]⟩, h3, by rw [h5]; simp, ?_, ?_⟩
    · funext j
      rw [look_eq, h4, h5]
      exact congrFun (lookP_snoc σ.kept σ.pend i (pad s)) j
    · intro ps hp
      rw [h5] at hp
      rw [h4]
      rcases sublist_snoc hp with h9 | ⟨ys, rfl, h9⟩
      · exact h ps h9
      · rw [lookP_snoc]
        exact hq _ (h ys h9)
  · refine .inr ⟨h0, h1, ⟨hok, h2, by rw [h3, u.len]⟩, fun ps hp => ?_⟩
    rw [h4] at hp
    rw [h3]
    exact h ps hp

theorem Crash.flush {σ : Dk} {N : Nat} {Q : Img → Prop} (u : Up σ N) (h : Crash σ Q) :
    Out σ.flush σ N (fun τ => τ.pend = [] ∧ τ.look = σ.look ∧ Crash τ Q) (fun τ => Crash τ Q) := by
  have hok := Dk.flush_ok u.ok
  rcases flush_run u.down with ⟨h1, h2, h3, h4, h5⟩ | ⟨h0, h1, h2, h3, h4⟩
  · have hl : σ.flush.2.look = σ.look := by
      funext j
      rw [look_nil h5, look_eq, h4]
      exact keepAll_look _ _ _ (fun p hp => (u.ok.pend p hp).1)
    exact .inl ⟨h1, ⟨hok, h2, by rw [h4, keepAll_length, u.len]⟩, h3, h5, hl, Crash.of_look h5 (by rw [hl]; exact h.look)⟩
  · refine .inr ⟨h0, h1, ⟨hok, h2, by rw [h3, u.len]⟩, fun ps hp => ?_⟩
    rw [h4] at hp
    rw [h3]
    exact h ps hp

theorem Up.off {σ : Dk} {N : Nat} (u : Up σ N) {Q : Img → Prop} (h : Crash σ Q) : σ.off.1 = 0 ∧ Dn σ.off.2 N ∧ Crash σ.off.2 Q := by
  have hok := Dk.off_ok u.ok
  have e : σ.off = (0, { σ with down := true }) := by simp [Dk.off, u.down]
  rw [e] at hok ⊢
  exact ⟨rfl, ⟨hok, rfl, u.len⟩, h⟩

/-- The power comes back: what is kept is one of the images. -/
theorem Dn.on {σ : Dk} {N : Nat} (u : Dn σ N) {Q : Img → Prop} (h : Crash σ Q) (keep : List Bool) :
    (σ.on keep).1 = 0 ∧ Up (σ.on keep).2 N ∧ (σ.on keep).2.armed = false ∧ (σ.on keep).2.pend = [] ∧ Q (σ.on keep).2.look ∧ Crash (σ.on keep).2 Q := by
  have hok := Dk.on_ok u.ok keep
  have e : σ.on keep = (0, { σ with kept := keepAll σ.kept (Go.Proofs.YtnffnpndnaofhaaGreatDoor.marked keep 0 σ.pend), pend := [], down := false, armed := false, left := 0 }) := by simp [Dk.on, u.down]
  rw [e] at hok ⊢
  have hl : Q (Dk.look { σ with kept := keepAll σ.kept (Go.Proofs.YtnffnpndnaofhaaGreatDoor.marked keep 0 σ.pend), pend := [], down := false, armed := false, left := 0 }) := by
    have e2 : Dk.look { σ with kept := keepAll σ.kept (Go.Proofs.YtnffnpndnaofhaaGreatDoor.marked keep 0 σ.pend), pend := [], down := false, armed := false, left := 0 } = lookP σ.kept (Go.Proofs.YtnffnpndnaofhaaGreatDoor.marked keep 0 σ.pend) := by
      funext j
      rw [look_nil rfl]
      exact keepAll_look _ _ _ (fun p hp => (u.ok.pend p ((marked_sublist keep σ.pend 0).mem hp)).1)
    rw [e2]
    exact h _ (marked_sublist keep σ.pend 0)
  exact ⟨rfl, ⟨hok, rfl, by simp only []; rw [keepAll_length, u.len]⟩, rfl, rfl, hl, Crash.of_look rfl hl⟩

/-! ## Sectors laid one after the other -/

/-- Sector i behind a laying of 'all' from the k-th piece on. -/
def laid (base : Nat) (all : List UInt8) (k : Nat) (img : Img) : Img := fun i => if base + 1 + k ≤ i ∧ 64 * (i - (base + 1)) < all.length then pad ((all.drop (64 * (i - (base + 1)))).take 64) else img i

theorem Crash.layN {base N : Nat} {all : List UInt8} {Q : Img → Prop} (hr : ∀ j, 64 * j < all.length → base + 1 + j < N) : ∀ (f k : Nat) (σ : Dk), Up σ N → Crash σ Q → all.length ≤ 64 * (f + k) →
    (∀ img j, k ≤ j → 64 * j < all.length → Q img → Q (updI img (base + 1 + j) (pad ((all.drop (64 * j)).take 64)))) →
    Out (Go.Proofs.YtnffnpndnaofhaaGreatDoor.layN base all f k σ) σ N (fun τ => τ.pend.length ≤ σ.pend.length + f ∧ τ.look = laid base all k σ.look ∧ Crash τ Q) (fun τ => Crash τ Q)
  | 0, k, σ, u, h, hf, _ => .inl ⟨rfl, u, rfl, Nat.le_refl _, by
      funext i
      simp only [laid]
      rw [if_neg (by omega)]
      rfl, h⟩
  | f + 1, k, σ, u, h, hf, hq => by
    unfold Go.Proofs.YtnffnpndnaofhaaGreatDoor.layN
    by_cases hlt : 64 * k < all.length
    · rw [if_pos hlt]
      have hw := Crash.write u (i := base + 1 + k) (hr k hlt) (s := (all.drop (64 * k)).take 64) (by rw [List.length_take]; omega) h (fun img hi => hq img k (Nat.le_refl _) hlt hi)
      refine hw.then (fun h1 u2 _ ⟨hp, hl, hc⟩ => ?_) (fun hne => by rw [if_neg hne])
      rw [if_pos h1]
      refine (Crash.layN hr f (k + 1) _ u2 hc (by omega) (fun img j hj => hq img j (by omega))).mono (fun ⟨a1, a2, a3⟩ => ⟨by omega, ?_, a3⟩) id
      rw [a2, hl]
      funext i
      simp only [laid, updI]
      by_cases e : base + 1 + k = i
      · subst e
        rw [if_neg (by omega), if_pos rfl, if_pos (by omega), show base + 1 + k - (base + 1) = k by omega]
      · rw [if_neg e]
        by_cases hc : base + 1 + (k + 1) ≤ i ∧ 64 * (i - (base + 1)) < all.length
        · rw [if_pos hc, if_pos (by omega)]
        · rw [if_neg hc, if_neg (by omega)]
    · rw [if_neg hlt]
      refine .inl ⟨rfl, u, rfl, by simp only []; omega, ?_, h⟩
      funext i
      simp only [laid]
      rw [if_neg (by omega)]

/-! ## The log -/

/-- What looks at no sector of the log's. -/
def Outer (base n : Nat) (F : Img → Prop) : Prop := ∀ img img' : Img, (∀ i, (i < base ∨ base + n ≤ i) → img' i = img i) → F img → F img'

theorem Outer.upd {base n : Nat} {F : Img → Prop} (o : Outer base n F) {img : Img} {i : Nat} {s : List UInt8} (h1 : base ≤ i) (h2 : i < base + n) (h : F img) : F (updI img i s) :=
  o img _ (fun j hj => by simp only [updI]; rw [if_neg (by omega)]) h

theorem Fits.mixed1 {l : Lg} {x : List UInt8} {img : Img} {j : Nat} (h : Fits img l) (hj : l.bytes.length / 64 ≤ j) : Fits (updI img (l.base + 1 + j) (pad (((l.bytes ++ x).drop (64 * j)).take 64))) l := by
  refine ⟨?_, h.data.mixed (x := x) (fun i => ?_)⟩
  · simp only [updI]
    rw [if_neg (by omega)]
    exact h.head
  · simp only [updI]
    by_cases e : l.base + 1 + j = i
    · rw [if_pos e]
      exact .inr ⟨j, hj, e.symm, rfl⟩
    · rw [if_neg e]
      exact .inl rfl

structure Lg.Fine (l : Lg) (N : Nat) : Prop where
  ok : l.Ok
  lost : l.lost = false
  room : l.base + l.n ≤ N

theorem Crash.head {σ : Dk} {N : Nat} {l l' : Lg} {F : Img → Prop} (u : Up σ N) (hb : l.base < N) (hn : 0 < l.n) (hF : Outer l.base l.n F) (e n : Nat)
    (hl : Crash σ (fun img => Fits img l ∧ F img)) (hnew : ∀ img, F img → Fits img l → (σ.pend = [] → ∀ i, l.base < i → i < l.base + l.n → img i = σ.look i) → Fits (updI img l.base (headB e n)) l') (hp : σ.pend = []) :
    Out (writeHead l.base e n σ) σ N (fun τ => τ.pend = [] ∧ τ.look = updI σ.look l.base (headB e n) ∧ Crash τ (fun img => Fits img l' ∧ F img)) (fun τ => Crash τ (fun img => (Fits img l ∨ Fits img l') ∧ F img)) := by
  have hpd := pad_full (length_headB e n)
  have hlk := hl.look
  have hfit' : Fits (updI σ.look l.base (headB e n)) l' := hnew _ hlk.2 hlk.1 (fun _ i _ _ => rfl)
  have hF' : F (updI σ.look l.base (headB e n)) := hF.upd (Nat.le_refl _) (by omega) hlk.2
  have h0 : Crash σ (fun img => (img = σ.look ∨ img = updI σ.look l.base (headB e n))) := Crash.of_look hp (.inl rfl)
  have hall : ∀ img, (img = σ.look ∨ img = updI σ.look l.base (headB e n)) → (Fits img l ∨ Fits img l') ∧ F img := by
    rintro img (rfl | rfl)
    · exact ⟨.inl hlk.1, hlk.2⟩
    · exact ⟨.inr hfit', hF'⟩
  have hw := Crash.write u (i := l.base) hb (s := headB e n) (by rw [length_headB]; omega) h0 (by
    rw [hpd]
    rintro img (rfl | rfl)
    · exact .inr rfl
    · right
      funext j
      simp only [updI]
      split <;> rfl)
  unfold writeHead
  simp only []
  rw [hpd] at hw
  have hw2 : Out (σ.write (l.base : Int) (headB e n)) σ N (fun τ => τ.pend.length = σ.pend.length + 1 ∧ τ.look = updI σ.look l.base (headB e n) ∧ Crash τ (fun img => img = σ.look ∨ img = updI σ.look l.base (headB e n))) (fun τ => Crash τ (fun img => (Fits img l ∨ Fits img l') ∧ F img)) := hw.mono id (fun h => h.mono hall)
  refine hw2.then (fun h1 u2 _ ⟨_, hl2, hc2⟩ => ?_) (fun hne => by rw [if_neg hne])
  rw [if_pos h1]
  refine (Crash.flush u2 hc2).mono (fun ⟨a1, a2, a3⟩ => ⟨a1, by rw [a2, hl2], Crash.of_look a1 ?_⟩) (fun h => h.mono hall)
  rw [a2, hl2]
  exact ⟨hfit', hF'⟩

theorem sync_crash {σ : Dk} {N : Nat} {l : Lg} {F : Img → Prop} (u : Up σ N) (lf : l.Fine N) (hF : Outer l.base l.n F) (hc : Crash σ (fun img => Fits img l ∧ F img)) :
    ((l.sync σ).1 = 0 ∧ (l.sync σ).2.1 = l.synced ∧ Up (l.sync σ).2.2 N ∧ (l.sync σ).2.2.armed = σ.armed ∧ (l.waiting ≠ [] → (l.sync σ).2.2.pend = []) ∧ (l.sync σ).2.2.pend.length ≤ σ.pend.length ∧
      (∀ i, (i < l.base ∨ l.base + l.n ≤ i) → (l.sync σ).2.2.look i = σ.look i) ∧ Crash (l.sync σ).2.2 (fun img => Fits img l.synced ∧ F img)) ∨
    (σ.armed = true ∧ (l.sync σ).1 = 10 ∧ (l.sync σ).2.1 = { l with lost := true } ∧ Dn (l.sync σ).2.2 N ∧ Crash (l.sync σ).2.2 (fun img => (Fits img l ∨ Fits img l.synced) ∧ F img)) := by
  have lo := lf.ok
  have hfit := lo.fits
  have h2 := lo.two
  have hroom := lf.room
  by_cases hw : l.waiting = []
  · have e : l.sync σ = (0, l, σ) := by simp [Lg.sync, lf.lost, hw]
    have es : l.synced = l := by
      cases l
      simp only at hw
      subst hw
      simp [Lg.synced, frames]
    rw [e, es]
    exact .inl ⟨rfl, rfl, u, rfl, fun h => absurd hw h, Nat.le_refl _, fun _ _ => rfl, hc⟩
  · have hall : (l.bytes ++ frames l.waiting).length ≤ 64 * (l.n - 1) := by rw [List.length_append]; exact hfit
    have e : l.sync σ = (if (layB l.base (l.bytes ++ frames l.waiting) (l.bytes.length / 64) σ).1 = 0 then
              (if (writeHead l.base l.epoch (l.bytes ++ frames l.waiting).length (layB l.base (l.bytes ++ frames l.waiting) (l.bytes.length / 64) σ).2).1 = 0 then
                (0, l.synced, (writeHead l.base l.epoch (l.bytes ++ frames l.waiting).length (layB l.base (l.bytes ++ frames l.waiting) (l.bytes.length / 64) σ).2).2)
              else ((writeHead l.base l.epoch (l.bytes ++ frames l.waiting).length (layB l.base (l.bytes ++ frames l.waiting) (l.bytes.length / 64) σ).2).1, { l with lost := true }, (writeHead l.base l.epoch (l.bytes ++ frames l.waiting).length (layB l.base (l.bytes ++ frames l.waiting) (l.bytes.length / 64) σ).2).2))
            else ((layB l.base (l.bytes ++ frames l.waiting) (l.bytes.length / 64) σ).1, { l with lost := true }, (layB l.base (l.bytes ++ frames l.waiting) (l.bytes.length / 64) σ).2)) := by
      simp only [Lg.sync, lf.lost, Bool.false_eq_true, if_false, if_neg hw, Lg.synced]
    have hlay := Crash.layN (base := l.base) (N := N) (all := l.bytes ++ frames l.waiting) (Q := fun img => Fits img l ∧ F img) (fun j hj => by omega) ((l.bytes ++ frames l.waiting).length / 64 + 1) (l.bytes.length / 64) σ u hc (by omega)
      (fun img j hj hlt hi => ⟨hi.1.mixed1 hj, hF.upd (by omega) (by omega) hi.2⟩)
    have hB : Out (layB l.base (l.bytes ++ frames l.waiting) (l.bytes.length / 64) σ) σ N (fun τ => τ.pend = [] ∧ τ.look = laid l.base (l.bytes ++ frames l.waiting) (l.bytes.length / 64) σ.look ∧ Crash τ (fun img => Fits img l ∧ F img)) (fun τ => Crash τ (fun img => Fits img l ∧ F img)) := by
      unfold layB
      simp only []
      refine hlay.then (fun h1 u2 _ ⟨_, hl2, hc2⟩ => ?_) (fun hne => by rw [if_neg hne])
      rw [if_pos h1]
      exact (Crash.flush u2 hc2).mono (fun ⟨a1, a2, a3⟩ => ⟨a1, by rw [a2, hl2], a3⟩) id
    rw [e]
    clear e hlay
    generalize layB l.base (l.bytes ++ frames l.waiting) (l.bytes.length / 64) σ = r at *
    rcases hB with ⟨r1, r2, r3, r4, r5, r6⟩ | ⟨r0, r1, r2, r3⟩
    · rw [if_pos r1]
      have hd : Data r.2.look l.base (l.bytes ++ frames l.waiting) := by
        refine hc.look.1.data.full (m := ((l.bytes ++ frames l.waiting).length + 63) / 64) (fun i => ?_) (fun j j1 j2 => ?_) (by omega)
        · rw [r5]
          simp only [laid]
          split
          · rename_i hcnd
            exact .inr ⟨i - (l.base + 1), by omega, by omega, rfl⟩
          · exact .inl rfl
        · rw [r5]
          simp only [laid]
          rw [if_pos (by omega), show l.base + 1 + j - (l.base + 1) = j by omega]
          rfl
      have hout : ∀ i, (i < l.base ∨ l.base + l.n ≤ i) → r.2.look i = σ.look i := by
        intro i hi
        rw [r5]
        simp only [laid]
        rw [if_neg (by omega)]
      have hH := Crash.head (l' := l.synced) r2 (by omega) (by omega) hF l.epoch (l.bytes ++ frames l.waiting).length r6 (fun img _ _ hsame => ⟨.inr (by simp [updI, Lg.synced]), by
        have hsm := hsame r4
        intro p hp
        have hp' : p < (l.bytes ++ frames l.waiting).length := hp
        have := hd p hp'
        unfold byteAt at this ⊢
        show (updI img l.base _ (l.base + 1 + p / 64))[p % 64]? = (l.bytes ++ frames l.waiting)[p]?
        simp only [updI]
        rw [if_neg (by omega), hsm _ (by omega) (by omega)]
        exact this⟩) r4
      generalize writeHead l.base l.epoch (l.bytes ++ frames l.waiting).length r.2 = q at *
      rcases hH with ⟨q1, q2, q3, q4, q5, q6⟩ | ⟨q0, q1, q2, q3⟩
      · rw [if_pos q1]
        refine .inl ⟨rfl, rfl, q2, by rw [q3, r3], fun _ => q4, by simp only []; rw [q4]; simp, fun i hi => ?_, q6⟩
        simp only []
        rw [q5]
        simp only [updI]
        rw [if_neg (by omega)]
        exact hout i hi
      · rw [if_neg (by omega)]
        exact .inr ⟨by rw [← r3]; exact q0, q1, rfl, q2, q3⟩
    · rw [if_neg (by omega)]
      exact .inr ⟨r0, r1, rfl, r2, r3.mono (fun img h => ⟨.inl h.1, h.2⟩)⟩

theorem reset_crash {σ : Dk} {N : Nat} {l : Lg} {F : Img → Prop} (u : Up σ N) (lf : l.Fine N) (hw : l.waiting = []) (he : l.epoch < 2 ^ 62) (hp : σ.pend = []) (hF : Outer l.base l.n F) (hc : Crash σ (fun img => Fits img l ∧ F img)) :
    ((l.reset σ).1 = 0 ∧ (l.reset σ).2.1 = l.fresh ∧ Up (l.reset σ).2.2 N ∧ (l.reset σ).2.2.armed = σ.armed ∧ (l.reset σ).2.2.pend = [] ∧
      (∀ i, (i < l.base ∨ l.base + l.n ≤ i) → (l.reset σ).2.2.look i = σ.look i) ∧ Crash (l.reset σ).2.2 (fun img => Fits img l.fresh ∧ F img)) ∨
    (σ.armed = true ∧ (l.reset σ).1 = 10 ∧ (l.reset σ).2.1 = { l with lost := true } ∧ Dn (l.reset σ).2.2 N ∧ Crash (l.reset σ).2.2 (fun img => (Fits img l ∨ Fits img l.fresh) ∧ F img)) := by
  have lo := lf.ok
  have h2 := lo.two
  have hroom := lf.room
  have e : l.reset σ = (if (writeHead l.base (l.epoch + 1) 0 σ).1 = 0 then (0, l.fresh, (writeHead l.base (l.epoch + 1) 0 σ).2) else ((writeHead l.base (l.epoch + 1) 0 σ).1, { l with lost := true }, (writeHead l.base (l.epoch + 1) 0 σ).2)) := by
    have hne : ¬ l.epoch = 2 ^ 62 := by omega
    simp only [Lg.reset, lf.lost, Bool.false_eq_true, if_false, hw, ne_eq, not_true_eq_false, if_neg hne, Lg.fresh]
  have hH := Crash.head (l' := l.fresh) u (by omega) (by omega) hF (l.epoch + 1) 0 hc (fun img _ _ _ => ⟨.inr (by simp [updI, Lg.fresh]), by intro p hp; simp [Lg.fresh] at hp⟩) hp
  rw [e]
  clear e
  generalize writeHead l.base (l.epoch + 1) 0 σ = q at *
  rcases hH with ⟨q1, q2, q3, q4, q5, q6⟩ | ⟨q0, q1, q2, q3⟩
  · rw [if_pos q1]
    refine .inl ⟨rfl, rfl, q2, q3, q4, fun i hi => ?_, q6⟩
    simp only []
    rw [q5]
    simp only [updI]
    rw [if_neg (by omega)]
  · rw [if_neg (by omega)]
    exact .inr ⟨q0, q1, rfl, q2, q3⟩

end Go.Proofs.YtnffnpndnaofhaaGreatDoor

/- The small methods of a disk: each returns what Dk says; all conditions stand in DiskAt. -/
namespace Go.Proofs.YtnffnpndnaofhaaGreatDoor
open Go.RowKit

theorem ret_i {k : IntKind} {a b : Int} (h : a = b) : Ending.returned (.int k a) = .returned (.int k b) := by rw [h]

theorem disk_none {w : World} {d : Nat} {fp : List Nat} {σ : Dk} (h : DiskAt w d fp σ) :
    Calls Tryz.prog 64 #[.pointer (some ⟨d, 0, none⟩)] w fun e w' => e = .returned (.bool false) ∧ w = w' := by
  obtain ⟨kb, pv, -, -, -, -, hd, -, -, ok⟩ := h
  have h0 := hd.cell 0
  simp only [diskCells, List.getElem?_cons_zero] at h0
  have hp := ok.pos
  have hz : ((σ.kept.length : Int) == 0) = false := by rw [beq_eq_false_iff_ne]; omega
  clear ok
  go_enter Tryz.func64, Tryz.ntmps64
  go_wp2
  go_ret
  exact ⟨rfl, rfl⟩

theorem disk_up {w : World} {d : Nat} {fp : List Nat} {σ : Dk} (h : DiskAt w d fp σ) :
    Calls Tryz.prog 40 #[.pointer (some ⟨d, 0, none⟩)] w fun e w' => e = .returned (.int .i64 σ.up) ∧ w = w' := by
  have hn := fun W (hW : W = w) => hW ▸ disk_none h
  obtain ⟨kb, pv, -, -, -, -, hd, -, -, ok⟩ := h
  have h2 := hd.cell 2
  simp only [diskCells, List.getElem?_cons_succ, List.getElem?_cons_zero] at h2
  clear ok
  unfold Dk.up
  cases hdn : σ.down
  all_goals
    rw [hdn] at h2
    clear hd
    go_enter Tryz.func40, Tryz.ntmps40
    go_wp2_with (go_at_call 64; refine (hn _ rfl).mono ?_; rintro e w' ⟨rfl, rfl⟩)
    go_ret
    exact ⟨rfl, rfl⟩

theorem disk_is {w : World} {d : Nat} {fp : List Nat} {σ : Dk} (h : DiskAt w d fp σ) (i : Int) :
    Calls Tryz.prog 101 #[.pointer (some ⟨d, 0, none⟩), .int .i64 i] w fun e w' => e = .returned (.bool (σ.has i)) ∧ w = w' := by
  obtain ⟨kb, pv, -, -, -, -, hd, -, -, ok⟩ := h
  have h0 := hd.cell 0
  simp only [diskCells, List.getElem?_cons_zero] at h0
  clear ok hd
  unfold Dk.has
  by_cases hi : 0 ≤ i
  · have e : decide (0 ≤ i) = true := by simpa using hi
    rw [e, Bool.true_and]
    go_enter Tryz.func101, Tryz.ntmps101
    go_wp2
    all_goals
      go_ret
      exact ⟨rfl, rfl⟩
  · have e : decide (0 ≤ i) = false := by simpa using hi
    rw [e, Bool.false_and]
    go_enter Tryz.func101, Tryz.ntmps101
    go_wp2
    go_ret
    exact ⟨rfl, rfl⟩

end Go.Proofs.YtnffnpndnaofhaaGreatDoor

/- The methods of a disk that write its own cells alone: each comes to what Dk says; all conditions stand in DiskAt. -/
namespace Go.Proofs.YtnffnpndnaofhaaGreatDoor
open Go.RowKit

theorem DiskAt.mk' {w : World} {d kb : Nat} {pv : Value} {σ : Dk} (h1 : d ≠ kb) (h2 : d ∉ fpv pv) (h3 : kb ∉ fpv pv) (hd : At w d (diskCells kb pv σ) 88) (hk : At w kb (keptCells σ.kept) 111)
    (hs : Sl w 113 65 pv σ.pend.length (pendCells σ.pend)) (ok : σ.Ok) : DiskAt w d (d :: kb :: fpv pv) σ := ⟨kb, pv, rfl, h1, h2, h3, hd, hk, hs, ok⟩

/-- The struct's own block is written: cells of another σ with the same slices. -/
theorem DiskAt.own {w w' : World} {d kb : Nat} {pv : Value} {σ τ : Dk} (h1 : d ≠ kb) (h2 : d ∉ fpv pv) (h3 : kb ∉ fpv pv) (hk : At w kb (keptCells σ.kept) 111)
    (hs : Sl w 113 65 pv σ.pend.length (pendCells σ.pend)) (hp : Pres [d] w w') (hd : At w' d (diskCells kb pv τ) 88) (ek : τ.kept = σ.kept) (ep : τ.pend = σ.pend) (ok : τ.Ok) :
    DiskStep w d (d :: kb :: fpv pv) τ w' :=
  ⟨_, DiskAt.mk' h1 h2 h3 hd (by rw [ek]; exact hk.pres hp (by simpa using Ne.symm h1)) (by rw [ep]; exact hs.pres hp (by intro k hk hm; simp at hm; subst hm; exact h2 hk)) ok,
    hp.wider (by simp), fun _ hm => .inl hm⟩

theorem disk_size {w : World} {d : Nat} {fp : List Nat} {σ : Dk} (h : DiskAt w d fp σ) :
    Calls Tryz.prog 62 #[.pointer (some ⟨d, 0, none⟩)] w fun e w' => e = .returned (.int .i64 (σ.kept.length : Int)) ∧ w = w' := by
  have hn := fun W (hW : W = w) => hW ▸ disk_none h
  obtain ⟨kb, pv, -, -, -, -, hd, -, -, ok⟩ := h
  have h0 := hd.cell 0
  simp only [diskCells, List.getElem?_cons_zero] at h0
  clear ok hd
  go_enter Tryz.func62, Tryz.ntmps62
  go_wp2_with (go_at_call 64; refine (hn _ rfl).mono ?_; rintro e w' ⟨rfl, rfl⟩)
  go_ret
  exact ⟨rfl, rfl⟩

theorem disk_down {w : World} {d : Nat} {fp : List Nat} {σ : Dk} (h : DiskAt w d fp σ) :
    Calls Tryz.prog 33 #[.pointer (some ⟨d, 0, none⟩)] w fun e w' => e = .returned (.bool σ.down) ∧ w = w' := by
  have hn := fun W (hW : W = w) => hW ▸ disk_none h
  obtain ⟨kb, pv, -, -, -, -, hd, -, -, ok⟩ := h
  have h2 := hd.cell 2
  simp only [diskCells, List.getElem?_cons_succ, List.getElem?_cons_zero] at h2
  clear ok hd
  go_enter Tryz.func33, Tryz.ntmps33
  go_wp2_with (go_at_call 64; refine (hn _ rfl).mono ?_; rintro e w' ⟨rfl, rfl⟩)
  go_ret
  exact ⟨rfl, rfl⟩

theorem disk_does {w : World} {d : Nat} {fp : List Nat} {σ : Dk} (h : DiskAt w d fp σ) :
    Calls Tryz.prog 112 #[.pointer (some ⟨d, 0, none⟩)] w fun e w' => e = .returned (.int .i64 σ.does.1) ∧ DiskStep w d fp σ.does.2 w' := by
  obtain ⟨kb, pv, rfl, n1, n2, n3, hd, hkb, hs, ok⟩ := h
  have h2 := hd.cell 2
  have h3 := hd.cell 3
  have h4 := hd.cell 4
  have h5 := hd.cell 5
  simp only [diskCells, List.getElem?_cons_succ, List.getElem?_cons_zero] at h2 h3 h4 h5
  have f2 := hd.frozen 2
  have f4 := hd.frozen 4
  have f5 := hd.frozen 5
  have b0 := ok.left0
  have b1 := ok.left1
  have hok := Dk.does_ok ok
  have H : (∀ τ, σ.does.2 = τ → τ.Ok) := fun τ e => e ▸ hok
  have HH := And.intro ok (And.intro H hd)
  clear ok H hok
  by_cases ha : σ.armed = true
  · by_cases hl : σ.left = 0
    · have e : σ.does = (10, { σ with down := true }) := by simp [Dk.does, ha, hl]
      rw [e]
      have hl' : (σ.left == 0) = true := by simpa using hl
      rw [ha] at h3
      clear hl
      go_enter Tryz.func112, Tryz.ntmps112
      go_wp2
      go_ret
      refine ⟨rfl, DiskAt.own n1 n2 n3 hkb hs ((Pres.refl _ _).setCell (by simp) _) ?_ rfl rfl (HH.2.1 _ (by rw [e]))⟩
      exact HH.2.2.setCell 2 _
    · have e : σ.does = (0, { σ with left := σ.left - 1, done := wrap64 (σ.done + 1) }) := by simp [Dk.does, ha, hl]
      rw [e]
      have hl' : (σ.left == 0) = false := by simpa using hl
      have hl2 : 1 ≤ σ.left := by omega
      rw [ha] at h3
      clear hl
      go_enter Tryz.func112, Tryz.ntmps112
      go_wp2
      go_ret
      refine ⟨rfl, DiskAt.own n1 n2 n3 hkb hs (((Pres.refl _ _).setCell (by simp) _).setCell (by simp) _) ?_ rfl rfl (HH.2.1 _ (by rw [e]))⟩
      exact (HH.2.2.setCell 4 _).setCell 5 _
  · have ha' : σ.armed = false := by simpa using ha
    have e : σ.does = (0, { σ with left := σ.left, done := wrap64 (σ.done + 1) }) := by simp [Dk.does, ha']
    rw [e]
    rw [ha'] at h3
    go_enter Tryz.func112, Tryz.ntmps112
    go_wp2
    go_ret
    refine ⟨rfl, DiskAt.own n1 n2 n3 hkb hs ((Pres.refl _ _).setCell (by simp) _) ?_ rfl rfl (HH.2.1 _ (by rw [e]))⟩
    exact HH.2.2.setCell 5 _

theorem disk_off {w : World} {d : Nat} {fp : List Nat} {σ : Dk} (h : DiskAt w d fp σ) :
    Calls Tryz.prog 10 #[.pointer (some ⟨d, 0, none⟩)] w fun e w' => e = .returned (.int .i64 σ.off.1) ∧ DiskStep w d fp σ.off.2 w' := by
  have hn := fun W (hW : W = w) => hW ▸ disk_up h
  have h' := h
  obtain ⟨kb, pv, rfl, n1, n2, n3, hd, hkb, hs, ok⟩ := h
  have h2 := hd.cell 2
  simp only [diskCells, List.getElem?_cons_succ, List.getElem?_cons_zero] at h2
  have f2 := hd.frozen 2
  have hok := Dk.off_ok ok
  cases hdn : σ.down
  · have e : σ.off = (0, { σ with down := true }) := by simp [Dk.off, hdn]
    have eu : σ.up = 0 := by simp [Dk.up, hdn]
    rw [e] at hok ⊢
    rw [eu] at hn
    have HH := And.intro hd hok
    clear hd ok hok h'
    go_enter Tryz.func10, Tryz.ntmps10
    go_wp2_with (go_at_call 40; refine (hn _ rfl).mono ?_; rintro e w' ⟨rfl, rfl⟩)
    go_ret
    exact ⟨rfl, DiskAt.own n1 n2 n3 hkb hs ((Pres.refl _ _).setCell (by simp) _) (HH.1.setCell 2 _) rfl rfl HH.2⟩
  · have e : σ.off = (10, σ) := by simp [Dk.off, hdn]
    have eu : σ.up = 10 := by simp [Dk.up, hdn]
    rw [e]
    rw [eu] at hn
    have HH := And.intro h' h'
    clear hd ok hok h'
    go_enter Tryz.func10, Tryz.ntmps10
    go_wp2_with (go_at_call 40; refine (hn _ rfl).mono ?_; rintro e w' ⟨rfl, rfl⟩)
    go_ret
    exact ⟨rfl, DiskStep.refl HH.1⟩

theorem disk_arm {w : World} {d : Nat} {fp : List Nat} {σ : Dk} (h : DiskAt w d fp σ) (n : Int) (hb : n ≤ 9223372036854775807) :
    Calls Tryz.prog 32 #[.pointer (some ⟨d, 0, none⟩), .int .i64 n] w fun e w' => e = .returned (.int .i64 (σ.arm n).1) ∧ DiskStep w d fp (σ.arm n).2 w' := by
  have hn := fun W (hW : W = w) => hW ▸ disk_up h
  have h' := h
  obtain ⟨kb, pv, rfl, n1, n2, n3, hd, hkb, hs, ok⟩ := h
  have h3 := hd.cell 3
  have h4 := hd.cell 4
  simp only [diskCells, List.getElem?_cons_succ, List.getElem?_cons_zero] at h3 h4
  have f3 := hd.frozen 3
  have f4 := hd.frozen 4
  have hok := Dk.arm_ok ok hb
  clear hb
  cases hdn : σ.down
  · have eu : σ.up = 0 := by simp [Dk.up, hdn]
    rw [eu] at hn
    by_cases h0 : 0 ≤ n
    · have e : σ.arm n = (0, { σ with armed := true, left := n }) := by simp [Dk.arm, hdn, h0]; omega
      rw [e] at hok ⊢
      have HH := And.intro hd hok
      clear hd ok hok h' hdn e
      go_enter Tryz.func32, Tryz.ntmps32
      go_wp2_with (go_at_call 40; refine (hn _ rfl).mono ?_; rintro e w' ⟨rfl, rfl⟩)
      go_ret
      exact ⟨rfl, DiskAt.own n1 n2 n3 hkb hs (((Pres.refl _ _).setCell (by simp) _).setCell (by simp) _) ((HH.1.setCell 3 _).setCell 4 _) rfl rfl HH.2⟩
    · have e : σ.arm n = (0, { σ with armed := false, left := 0 }) := by simp [Dk.arm, hdn]; omega
      have hd0 : decide (0 ≤ n) = false := by simpa using h0
      rw [e] at hok ⊢
      have HH := And.intro hd hok
      clear hd ok hok h' hdn e
      go_enter Tryz.func32, Tryz.ntmps32
      go_wp2_with (go_at_call 40; refine (hn _ rfl).mono ?_; rintro e w' ⟨rfl, rfl⟩)
      go_ret
      exact ⟨rfl, DiskAt.own n1 n2 n3 hkb hs (((Pres.refl _ _).setCell (by simp) _).setCell (by simp) _) ((HH.1.setCell 3 _).setCell 4 _) rfl rfl HH.2⟩
  · have e : σ.arm n = (10, σ) := by simp [Dk.arm, hdn]
    have eu : σ.up = 10 := by simp [Dk.up, hdn]
    rw [e]
    rw [eu] at hn
    have HH := And.intro h' h'
    clear hd ok hok h'
    go_enter Tryz.func32, Tryz.ntmps32
    go_wp2_with (go_at_call 40; refine (hn _ rfl).mono ?_; rintro e w' ⟨rfl, rfl⟩)
    go_ret
    exact ⟨rfl, DiskStep.refl HH.1⟩

end Go.Proofs.YtnffnpndnaofhaaGreatDoor
