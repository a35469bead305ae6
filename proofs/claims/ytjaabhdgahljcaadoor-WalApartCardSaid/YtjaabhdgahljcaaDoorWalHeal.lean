/- A healthy disk, with writes that wait: a sync goes well, and leaves the sectors outside the log's part as they were. Plain Lean, no Go. -/
import Derived.Test.YtjaabhdgahljcaaDoorWalSafe2
namespace Go.Proofs.YtjaabhdgahljcaaDoor

structure Heal (σ : Dk) (N : Nat) : Prop where
  ok : σ.Ok
  down : σ.down = false
  armed : σ.armed = false
  len : σ.kept.length = N

theorem Heal.write {σ : Dk} {N : Nat} (h : Heal σ N) {i : Nat} (hi : i < N) {s : List UInt8} (hs : s.length ≤ 64) :
    (σ.write (i : Int) s).1 = 0 ∧ Heal (σ.write (i : Int) s).2 N ∧ (σ.write (i : Int) s).2.pend = σ.pend ++ [(i, pad s)] ∧ ∀ j, (σ.write (i : Int) s).2.look j = if i = j then pad s else σ.look j := by
  have hok := Dk.write_ok h.ok (i : Int) s
  rcases write_run h.down (i := i) (by rw [h.len]; exact hi) hs with ⟨h1, h2, h3, h4, h5⟩ | ⟨h0, -⟩
  · refine ⟨h1, ⟨hok, h2, by rw [h3, h.armed], by rw [h4, h.len]⟩, h5, fun j => ?_⟩
    rw [look_eq, look_eq, h4, h5]
    simp [lookP]
  · rw [h.armed] at h0; cases h0

theorem Heal.flush {σ : Dk} {N : Nat} (h : Heal σ N) : σ.flush.1 = 0 ∧ Heal σ.flush.2 N ∧ σ.flush.2.pend = [] ∧ ∀ j, σ.flush.2.look j = σ.look j := by
  have hok := Dk.flush_ok h.ok
  rcases flush_run h.down with ⟨h1, h2, h3, h4, h5⟩ | ⟨h0, -⟩
  · refine ⟨h1, ⟨hok, h2, by rw [h3, h.armed], by rw [h4, keepAll_length, h.len]⟩, h5, fun j => ?_⟩
    rw [look_nil h5, look_eq, h4]
    exact keepAll_look _ _ _ (fun p hp => (h.ok.pend p hp).1)
  · rw [h.armed] at h0; cases h0

theorem Heal.layN {base N top : Nat} {all : List UInt8} (hr : ∀ j, 64 * j < all.length → base + 1 + j < top) (ht : top ≤ N) : ∀ (f k : Nat) (σ : Dk), Heal σ N →
    (layN base all f k σ).1 = 0 ∧ Heal (layN base all f k σ).2 N ∧ ∀ i, (i ≤ base ∨ top ≤ i) → (layN base all f k σ).2.look i = σ.look i
  | 0, _, _, h => ⟨rfl, h, fun _ _ => rfl⟩
  | f + 1, k, σ, h => by
    unfold Go.Proofs.YtjaabhdgahljcaaDoor.layN
    by_cases hlt : 64 * k < all.length
    · rw [if_pos hlt]
      have := hr k hlt
      obtain ⟨w1, w2, -, w4⟩ := h.write (i := base + 1 + k) (by omega) (s := (all.drop (64 * k)).take 64) (by rw [List.length_take]; omega)
      rw [if_pos w1]
      obtain ⟨h1, h2, h3⟩ := Heal.layN hr ht f (k + 1) _ w2
      refine ⟨h1, h2, fun i hi => ?_⟩
      rw [h3 i hi, w4, if_neg (by omega)]
    · rw [if_neg hlt]
      exact ⟨rfl, h, fun _ _ => rfl⟩

theorem Heal.sync {σ : Dk} {N : Nat} {l : Lg} (h : Heal σ N) (lo : l.Ok) (hl : l.lost = false) (hr : l.base + l.n ≤ N) :
    (l.sync σ).1 = 0 ∧ (l.sync σ).2.1 = l.synced ∧ Heal (l.sync σ).2.2 N ∧ (l.sync σ).2.2.pend.length ≤ σ.pend.length ∧ ∀ i, (i < l.base ∨ l.base + l.n ≤ i) → (l.sync σ).2.2.look i = σ.look i := by
  have h2 := lo.two
  by_cases hw : l.waiting = []
  · have e : l.sync σ = (0, l, σ) := by simp [Lg.sync, hl, hw]
    have es : l.synced = l := by
      cases l
      simp only at hw
      subst hw
      simp [Lg.synced, frames]
    rw [e, es]
    exact ⟨rfl, rfl, h, Nat.le_refl _, fun _ _ => rfl⟩
  · have hall : (l.bytes ++ frames l.waiting).length ≤ 64 * (l.n - 1) := by rw [List.length_append]; exact lo.fits
    obtain ⟨n1, n2, n3⟩ := Heal.layN (base := l.base) (top := l.base + l.n) (all := l.bytes ++ frames l.waiting) (fun j hj => by omega) hr ((l.bytes ++ frames l.waiting).length / 64 + 1) (l.bytes.length / 64) σ h
    have hlB : layB l.base (l.bytes ++ frames l.waiting) (l.bytes.length / 64) σ = (Go.Proofs.YtjaabhdgahljcaaDoor.layN l.base (l.bytes ++ frames l.waiting) ((l.bytes ++ frames l.waiting).length / 64 + 1) (l.bytes.length / 64) σ).2.flush := by
      unfold layB
      simp only []
      rw [if_pos n1]
    generalize Go.Proofs.YtjaabhdgahljcaaDoor.layN l.base (l.bytes ++ frames l.waiting) ((l.bytes ++ frames l.waiting).length / 64 + 1) (l.bytes.length / 64) σ = r at *
    obtain ⟨f1, f2, f3, f4⟩ := n2.flush
    obtain ⟨w1, w2, -, w4⟩ := f2.write (i := l.base) (by omega) (s := headB l.epoch (l.bytes ++ frames l.waiting).length) (by rw [length_headB]; omega)
    have hwH : writeHead l.base l.epoch (l.bytes ++ frames l.waiting).length r.2.flush.2 = (r.2.flush.2.write (l.base : Int) (headB l.epoch (l.bytes ++ frames l.waiting).length)).2.flush := by
      unfold writeHead
      simp only []
      rw [if_pos w1]
    obtain ⟨g1, g2, g3, g4⟩ := w2.flush
    have e : l.sync σ = (0, l.synced, (r.2.flush.2.write (l.base : Int) (headB l.epoch (l.bytes ++ frames l.waiting).length)).2.flush.2) := by
      simp only [Lg.sync, hl, Bool.false_eq_true, if_false, if_neg hw, hlB, f1, if_true, hwH, g1, Lg.synced]
    rw [e]
    refine ⟨rfl, rfl, g2, by simp only []; rw [g3]; simp, fun i hi => ?_⟩
    simp only []
    rw [g4, w4, if_neg (by omega), f4]
    exact n3 i (by omega)

end Go.Proofs.YtjaabhdgahljcaaDoor
