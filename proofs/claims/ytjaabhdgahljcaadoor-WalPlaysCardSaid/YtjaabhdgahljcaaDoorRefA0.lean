/- The sum bit by bit is the sum by half bytes. Plain Lean, no Go. -/
import Derived.Test.YtjaabhdgahljcaaDoorWalPure
namespace Go.Proofs.YtjaabhdgahljcaaDoor

def bitStep (r : Nat) : Nat := if r % 2 = 1 then r / 2 ^^^ 0x82f63b78 else r / 2

def bitN : Nat → Nat → Nat
  | 0, r => r
  | k + 1, r => bitStep (bitN k r)

theorem bitStep_xor (x y : Nat) : bitStep (x ^^^ y) = bitStep x ^^^ bitStep y := by
  unfold bitStep
  have h1 : (x ^^^ y) / 2 = x / 2 ^^^ y / 2 := Nat.xor_div_two
  have h3 : (x ^^^ y) % 2 = (x % 2) ^^^ (y % 2) := Nat.xor_mod_two_pow (n := 1)
  have h2 : (x ^^^ y) % 2 = (x + y) % 2 := by
    rw [h3]
    rcases Nat.mod_two_eq_zero_or_one x with hx | hx <;> rcases Nat.mod_two_eq_zero_or_one y with hy | hy <;> rw [hx, hy, Nat.add_mod, hx, hy] <;> rfl
  rw [h1, h2]
  have hx : x % 2 = 0 ∨ x % 2 = 1 := by omega
  have hy : y % 2 = 0 ∨ y % 2 = 1 := by omega
  have hP : ∀ a b p : Nat, (a ^^^ p) ^^^ b = a ^^^ b ^^^ p := fun a b p => by rw [Nat.xor_assoc, Nat.xor_assoc, Nat.xor_comm p b]
  rcases hx with hx | hx <;> rcases hy with hy | hy
  · rw [if_neg (by omega), if_neg (by omega), if_neg (by omega)]
  · rw [if_pos (by omega), if_neg (by omega), if_pos (by omega), Nat.xor_assoc]
  · rw [if_pos (by omega), if_pos (by omega), if_neg (by omega), hP]
  · rw [if_neg (by omega), if_pos (by omega), if_pos (by omega), hP, Nat.xor_assoc, Nat.xor_assoc, Nat.xor_self, Nat.xor_zero]

theorem bitN_xor (k x y : Nat) : bitN k (x ^^^ y) = bitN k x ^^^ bitN k y := by
  induction k with
  | zero => rfl
  | succ k ih => simp only [bitN, ih, bitStep_xor]

theorem bitStep_two (a : Nat) : bitStep (2 * a) = a := by unfold bitStep; rw [if_neg (by omega)]; omega

theorem sixteen_xor (r : Nat) : r = 16 * (r / 16) ^^^ r % 16 := by
  refine Nat.eq_of_testBit_eq fun j => ?_
  rw [Nat.testBit_xor]
  have e : r = 2 ^ 4 * (r / 16) + r % 16 := by omega
  have hl : r % 16 < 2 ^ 4 := by omega
  have h1 : (16 * (r / 16)).testBit j = (decide (j ≥ 4) && (r / 16).testBit (j - 4)) := by
    have := Nat.testBit_two_pow_mul (i := 4) (a := r / 16) (j := j)
    exact this
  have h2 : r.testBit j = if j < 4 then (r % 16).testBit j else (r / 16).testBit (j - 4) := by
    conv => lhs; rw [e]
    exact Nat.testBit_two_pow_mul_add _ hl j
  rw [h1, h2]
  by_cases hj : j < 4
  · rw [if_pos hj, decide_eq_false (by omega)]; simp
  · rw [if_neg hj, decide_eq_true (by omega), Nat.testBit_lt_two_pow (Nat.lt_of_lt_of_le hl (Nat.pow_le_pow_right (by omega) (by omega)))]; simp

theorem bitN_four (r : Nat) : bitN 4 r = crcHalf r := by
  have h0 : ∀ m, m < 16 → bitN 4 m = half.getD m 0 := by decide
  have h1 : bitN 4 (16 * (r / 16)) = r / 16 := by
    have e : 16 * (r / 16) = 2 * (2 * (2 * (2 * (r / 16)))) := by omega
    rw [e]
    simp only [bitN, bitStep_two]
  conv => lhs; rw [sixteen_xor r]
  rw [bitN_xor, h0 (r % 16) (by omega), h1]
  rfl

theorem bitN_add (j k r : Nat) : bitN (k + j) r = bitN k (bitN j r) := by
  induction k with
  | zero => rw [Nat.zero_add]; rfl
  | succ k ih => rw [Nat.succ_add]; simp only [bitN, ih]

theorem bitN_eight (r : Nat) (x : UInt8) : bitN 8 (r ^^^ x.toNat) = crcStep r x := by
  rw [show (8 : Nat) = 4 + 4 from rfl, bitN_add, bitN_four, bitN_four]
  rfl

theorem bitStep_lt {r : Nat} (h : r < 2 ^ 32) : bitStep r < 2 ^ 32 := by
  unfold bitStep
  split
  · exact Nat.xor_lt_two_pow (by omega) (by decide)
  · omega

theorem bitN_lt (k : Nat) {r : Nat} (h : r < 2 ^ 32) : bitN k r < 2 ^ 32 := by
  induction k with
  | zero => exact h
  | succ k ih => exact bitStep_lt ih

/-- A number that is read: none above 2^62. -/
def getB (l : List UInt8) : Int := if valLE l ≤ 2 ^ 62 then (valLE l : Int) else -1

theorem valLE_ge : ∀ (l : List UInt8) (k : Nat), 256 ^ k * valLE (l.drop k) ≤ valLE l
  | l, 0 => by simp
  | [], k + 1 => by simp [valLE]
  | x :: l, k + 1 => by
    have := valLE_ge l k
    rw [List.drop_succ_cons, Nat.pow_succ]
    show _ ≤ x.toNat + 256 * valLE l
    calc 256 ^ k * 256 * valLE (l.drop k) = 256 * (256 ^ k * valLE (l.drop k)) := by rw [Nat.mul_right_comm, Nat.mul_comm]
      _ ≤ 256 * valLE l := Nat.mul_le_mul_left _ this
      _ ≤ _ := Nat.le_add_left _ _

end Go.Proofs.YtjaabhdgahljcaaDoor
