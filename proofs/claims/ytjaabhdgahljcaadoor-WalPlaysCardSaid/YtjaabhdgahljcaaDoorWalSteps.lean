/- aquiferlaw08.begin and steps: a log on a healthy disk behind some calls; whatever comes in. -/
import Derived.Test.YtjaabhdgahljcaaDoorWalWorks
import Derived.Test.YtjaabhdgahljcaaDoorWalTexts
import Derived.Test.YtjaabhdgahljcaaDoorWalActs
import Derived.Test.YtjaabhdgahljcaaDoorWalSafe2
namespace Go.Proofs.YtjaabhdgahljcaaDoor
open Go.RowKit
set_option maxRecDepth 100000

def logZ : Lg := ⟨2, 16, 0, [], [], [], false⟩

theorem sat_zero : Sat (Dk.new 20) logZ :=
  ⟨Dk.new_ok (by omega) (by omega), Lg.start_ok (by omega) (by omega) (by omega), rfl, rfl, rfl, by simp [Dk.new, logZ], ⟨.inl ⟨rfl, rfl, rfl⟩, fun p hp => by simp [logZ] at hp⟩⟩

theorem begin_wal (w : World) (hh : HalfAt w) :
    Calls Tryd.prog 8 #[] w fun e w' => ∃ d b, e = .returned (.tuple #[.pointer (some ⟨d, 0, none⟩), .pointer (some ⟨b, 0, none⟩)]) ∧ St w w' [logP b d logZ, diskP d (Dk.new 20)] := by
  go_enter Tryd.func8, Tryd.ntmps8
  go_wp2_with fail
  refine (sd_new (St.start _) 20 (by omega) (by omega)).mono ?_
  rintro e w1 ⟨d, rfl, H1⟩
  go_wp2_with fail
  refine (wal_open hh H1 2 16 (by omega) (by omega) (by omega) (by omega)).mono ?_
  rintro e w2 hE
  rw [show Int.toNat 20 = 20 from rfl, show openLg (Dk.new 20) 2 16 = (0, some logZ) from sat_zero.open] at hE
  obtain ⟨b, rfl, H2⟩ := hE
  clear H1
  go_wp2
  go_ret2
  exact ⟨d, b, rfl, H2⟩

/-- What holds between the steps. -/
structure StepOk (σ : Dk) (l : Lg) (k : Nat) : Prop where
  sat : Sat σ l
  armed : σ.armed = false
  base : l.base = 2
  n : l.n = 16
  epoch : l.epoch ≤ k
  len : σ.kept.length = 20

theorem StepOk.more {σ : Dk} {l : Lg} {k m : Nat} (h : StepOk σ l k) (hm : k ≤ m) : StepOk σ l m := ⟨h.sat, h.armed, h.base, h.n, by have := h.epoch; omega, h.len⟩

theorem sync_len (σ : Dk) (l : Lg) : (l.sync σ).2.2.kept.length = σ.kept.length := by
  have hdoes := fun τ : Dk => (Dk.does_kept τ).1
  have hwr : ∀ (τ : Dk) (i : Int) (s : List UInt8), (τ.write i s).2.kept = τ.kept := by
    intro τ i s
    unfold Dk.write
    split
    · rfl
    split
    · split
      · rfl
      split
      · exact hdoes τ
      · exact hdoes τ
    · rfl
  have hfl : ∀ τ : Dk, τ.flush.2.kept.length = τ.kept.length := by
    intro τ
    unfold Dk.flush
    split
    · rfl
    split
    · simp only [Dk.settle, keepAll_length, hdoes τ]
    · rw [hdoes τ]
  have hlay : ∀ (f k base : Nat) (all : List UInt8) (τ : Dk), (layN base all f k τ).2.kept = τ.kept := by
    intro f
    induction f with
    | zero => intro k base all τ; rfl
    | succ f ih =>
      intro k base all τ
      unfold layN
      split
      · split
        · rw [ih, hwr]
        · exact hwr _ _ _
      · rfl
  have hB : ∀ (base k : Nat) (all : List UInt8) (τ : Dk), (layB base all k τ).2.kept.length = τ.kept.length := by
    intro base k all τ
    unfold layB
    simp only []
    split
    · rw [hfl, hlay]
    · rw [hlay]
  have hH : ∀ (base e n : Nat) (τ : Dk), (writeHead base e n τ).2.kept.length = τ.kept.length := by
    intro base e n τ
    unfold writeHead
    simp only []
    split
    · rw [hfl, hwr]
    · rw [hwr]
  unfold Lg.sync
  split
  · rfl
  split
  · rfl
  · simp only []
    split
    · split
      · rw [hH, hB]
      · rw [hH, hB]
    · rw [hB]

theorem reset_len (σ : Dk) (l : Lg) : (l.reset σ).2.2.kept.length = σ.kept.length := by
  have hdoes := fun τ : Dk => (Dk.does_kept τ).1
  have hwr : ∀ (τ : Dk) (i : Int) (s : List UInt8), (τ.write i s).2.kept = τ.kept := by
    intro τ i s
    unfold Dk.write
    split
    · rfl
    split
    · split
      · rfl
      split
      · exact hdoes τ
      · exact hdoes τ
    · rfl
  have hfl : ∀ τ : Dk, τ.flush.2.kept.length = τ.kept.length := by
    intro τ
    unfold Dk.flush
    split
    · rfl
    split
    · simp only [Dk.settle, keepAll_length, hdoes τ]
    · rw [hdoes τ]
  have hH : ∀ (base e n : Nat) (τ : Dk), (writeHead base e n τ).2.kept.length = τ.kept.length := by
    intro base e n τ
    unfold writeHead
    simp only []
    split
    · rw [hfl, hwr]
    · rw [hwr]
  unfold Lg.reset
  split
  · rfl
  split
  · rfl
  split
  · rfl
  · simp only []
    split
    · exact hH _ _ _ _
    · exact hH _ _ _ _

theorem StepOk.sync {σ : Dk} {l : Lg} {k : Nat} (h : StepOk σ l k) : (l.sync σ).1 = 0 ∧ (l.sync σ).2.1 = l.synced ∧ StepOk (l.sync σ).2.2 l.synced k := by
  have hl := sync_len σ l
  rcases sync_run h.sat with ⟨h1, h2, h3, h4⟩ | ⟨h0, -⟩
  · exact ⟨h1, h2, h3, by rw [h4, h.armed], h.base, h.n, h.epoch, by rw [hl, h.len]⟩
  · rw [h.armed] at h0; cases h0

end Go.Proofs.YtjaabhdgahljcaaDoor
