/- SectorArms, the plain part: an armed disk of three sectors under writes and flushes. No Go. -/
import Derived.Test.YtanjlfppppghpaaDisk
namespace Go.Proofs.Ytanjlfppppghpaa
open Go.RowKit

def xText : List UInt8 := [120]

/-- One call: a write (to sector k mod 3) or a flush: what it answers, what it makes. -/
def armStep (σ : Dk) (write : Bool) (k : Nat) : Int × Dk := if write then σ.write ((k : Int) % 3) xText else σ.flush

def armDk (n : Nat) (kinds : List Bool) : Nat → Dk
  | 0 => ((Dk.new 3).arm (n : Int)).2
  | k + 1 => (armStep (armDk n kinds k) (kinds.getD k false) k).2

/-- Ahead of call k. -/
structure Armed (n k : Nat) (σ : Dk) : Prop where
  len : σ.kept.length = 3
  pend : σ.pend.length ≤ k
  up : k ≤ n → σ.down = false ∧ σ.armed = true ∧ σ.left = (n : Int) - k ∧ σ.done = k
  off : n < k → σ.down = true ∧ σ.done = n

theorem armed_step {n k : Nat} {σ : Dk} (hn : n < 20) (h : Armed n k σ) (b : Bool) :
    (armStep σ b k).1 = (if k < n then 0 else 10) ∧ Armed n (k + 1) (armStep σ b k).2 ∧ (armStep σ b k).2.down = decide (n ≤ k) ∧ (armStep σ b k).2.done = min (k + 1) n := by
  have hhas : σ.has ((k : Int) % 3) = true := by simp [Dk.has, h.len]; omega
  by_cases hk : k ≤ n
  · obtain ⟨h1, h2, h3, h4⟩ := h.up hk
    by_cases hlt : k < n
    · have hd : σ.does = (0, { σ with left := σ.left - 1, done := wrap64 (σ.done + 1) }) := by
        have : (σ.left == 0) = false := by rw [h3]; simp; omega
        simp [Dk.does, h2, this]
      have hw : wrap64 (σ.done + 1) = (k : Int) + 1 := by rw [h4]; unfold wrap64; omega
      rw [hw] at hd
      have ef : σ.flush = (0, ({ σ with left := σ.left - 1, done := (k : Int) + 1 } : Dk).settle) := by
        unfold Dk.flush; rw [if_neg (by simp [h1]), hd]; simp
      have ew : σ.write ((k : Int) % 3) xText = (0, ({ σ with left := σ.left - 1, done := (k : Int) + 1 } : Dk).put (k % 3) xText) := by
        unfold Dk.write
        rw [if_neg (by simp [h1]), if_pos hhas, if_neg (by simp [xText]), hd]
        simp only [↓reduceIte]
        congr 1
      rw [if_pos hlt, show decide (n ≤ k) = false by simp; omega]
      cases b
      · have e : armStep σ false k = (0, ({ σ with left := σ.left - 1, done := (k : Int) + 1 } : Dk).settle) := by simp [armStep, ef]
        rw [e]
        refine ⟨rfl, ⟨by simp [Dk.settle, keepAll_length, h.len], by simp [Dk.settle], fun _ => ⟨h1, h2, by simp only [Dk.settle]; rw [h3]; omega, by simp [Dk.settle]⟩, fun hh => by omega⟩, h1, by simp only [Dk.settle]; omega⟩
      · have e : armStep σ true k = (0, ({ σ with left := σ.left - 1, done := (k : Int) + 1 } : Dk).put (k % 3) xText) := by simp [armStep, ew]
        rw [e]
        refine ⟨rfl, ⟨h.len, by simp [Dk.put]; have := h.pend; omega, fun _ => ⟨h1, h2, by simp only [Dk.put]; rw [h3]; omega, by simp [Dk.put]⟩, fun hh => by omega⟩, h1, by simp only [Dk.put]; omega⟩
    · have ek : k = n := by omega
      subst ek
      have hd : σ.does = (10, { σ with down := true }) := by
        have : (σ.left == 0) = true := by rw [h3]; simp
        simp [Dk.does, h2, this]
      have ef : σ.flush = (10, { σ with down := true }) := by unfold Dk.flush; rw [if_neg (by simp [h1]), hd]; simp
      have ew : σ.write ((k : Int) % 3) xText = (10, { σ with down := true }) := by
        unfold Dk.write
        rw [if_neg (by simp [h1]), if_pos hhas, if_neg (by simp [xText]), hd]
        simp
      have e : armStep σ b k = (10, { σ with down := true }) := by cases b <;> simp [armStep, ef, ew]
      rw [e, if_neg (by omega), show decide (k ≤ k) = true by simp]
      exact ⟨rfl, ⟨h.len, by have := h.pend; simp only []; omega, fun hh => by omega, fun _ => ⟨rfl, h4⟩⟩, rfl, by simp only []; rw [h4]; omega⟩
  · obtain ⟨h1, h2⟩ := h.off (by omega)
    have ef : σ.flush = (10, σ) := by unfold Dk.flush; rw [if_pos h1]
    have ew : σ.write ((k : Int) % 3) xText = (10, σ) := by unfold Dk.write; rw [if_pos h1]
    have e : armStep σ b k = (10, σ) := by cases b <;> simp [armStep, ef, ew]
    rw [e, if_neg (by omega), show decide (n ≤ k) = true by simp; omega]
    exact ⟨rfl, ⟨h.len, Nat.le_succ_of_le h.pend, fun hh => by omega, fun _ => ⟨h1, h2⟩⟩, h1, by rw [h2]; omega⟩

theorem armDk_inv {n : Nat} (hn : n < 20) (kinds : List Bool) (k : Nat) : Armed n k (armDk n kinds k) := by
  induction k with
  | zero =>
    refine ⟨by simp [armDk, Dk.arm, Dk.new], by simp [armDk, Dk.arm, Dk.new], fun _ => ⟨by simp [armDk, Dk.arm, Dk.new], by simp [armDk, Dk.arm, Dk.new], ?_, by simp [armDk, Dk.arm, Dk.new]⟩, fun h => by omega⟩
    simp [armDk, Dk.arm, Dk.new]
  | succ k ih => exact (armed_step hn ih _).2.1

/-- A disk of three sectors with power, not armed, with few writes pending. -/
structure Calm (σ : Dk) (m : Nat) : Prop where
  len : σ.kept.length = 3
  down : σ.down = false
  armed : σ.armed = false
  pend : σ.pend.length ≤ m

def yText : List UInt8 := [121]

theorem Calm.write {σ : Dk} {m : Nat} (h : Calm σ m) : (σ.write 0 yText).1 = 0 ∧ Calm (σ.write 0 yText).2 (m + 1) := by
  have hd : σ.does = (0, { σ with done := wrap64 (σ.done + 1) }) := by simp [Dk.does, h.armed]
  have hhas : σ.has 0 = true := by simp [Dk.has, h.len]
  have e : σ.write 0 yText = (0, ({ σ with done := wrap64 (σ.done + 1) } : Dk).put 0 yText) := by
    unfold Dk.write
    rw [if_neg (by simp [h.down]), if_pos hhas, if_neg (by simp [yText]), hd]
    simp
  rw [e]
  exact ⟨rfl, h.len, h.down, h.armed, by have := h.pend; simp [Dk.put]; omega⟩

/-- Behind On, if it was down, and Arm(-1). -/
def calmed (σ : Dk) : Dk := ((if σ.down then (σ.on []).2 else σ).arm (-1)).2

theorem calmed_calm {n k : Nat} {σ : Dk} (h : Armed n k σ) : (σ.down = true → (σ.on []).1 = 0) ∧ ((if σ.down then (σ.on []).2 else σ).arm (-1)).1 = 0 ∧ Calm (calmed σ) k := by
  unfold calmed
  cases hd : σ.down
  · refine ⟨(fun h => by cases h), by simp [Dk.arm, hd], ?_⟩
    simp only [Bool.false_eq_true, ↓reduceIte, Dk.arm, hd]
    exact ⟨h.len, by first | exact hd | simp_all, by simp, h.pend⟩
  · have e : σ.on [] = (0, { σ with kept := keepAll σ.kept (marked [] 0 σ.pend), pend := [], down := false, armed := false, left := 0 }) := by simp [Dk.on, hd]
    refine ⟨fun _ => by rw [e], by rw [e]; simp [Dk.arm], ?_⟩
    rw [e]
    simp only [↓reduceIte, Dk.arm, Bool.false_eq_true]
    exact ⟨by simp [keepAll_length, h.len], rfl, by simp, by simp⟩

end Go.Proofs.Ytanjlfppppghpaa
