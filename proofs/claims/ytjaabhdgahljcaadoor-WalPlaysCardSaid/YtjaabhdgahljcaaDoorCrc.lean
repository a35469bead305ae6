/- Castagnoli's sum: Update and Sum come to crc; the table is as the program's text lays it. -/
import Derived.Test.YtjaabhdgahljcaaDoorApp
import Derived.Test.YtjaabhdgahljcaaDoorWalPure
import Derived.Test.YtjaabhdgahljcaaDoorChecked
import Derived.Outline
namespace Go.Proofs.YtjaabhdgahljcaaDoor
open Go.RowKit
set_option maxRecDepth 20000

/-- The table as it is laid. -/
def HalfAt (w : World) : Prop := ∀ i, i < 16 → w.cell? ⟨1, i, none⟩ = some (.int .u32 ((half.getD i 0 : Nat) : Int))

theorem HalfAt.pres {w w' : World} (h : HalfAt w) (hp : Pres [] w w') : HalfAt w' := fun i hi => hp.cell (h i hi) (by simp)

theorem ofInt_nat32 {a : Nat} (h : a < 2 ^ 32) : (BitVec.ofInt 32 (a : Int)).toNat = a := by
  rw [BitVec.toNat_ofInt]
  omega

theorem bits_xor32 {a b : Nat} (ha : a < 2 ^ 32) (hb : b < 2 ^ 32) : bits .xor .u32 (a : Int) (b : Int) = ((a ^^^ b : Nat) : Int) := by
  have h := Nat.xor_lt_two_pow ha hb
  have e : (BitVec.ofInt 32 (a : Int) ^^^ BitVec.ofInt 32 (b : Int)).toNat = a ^^^ b := by rw [BitVec.toNat_xor, ofInt_nat32 ha, ofInt_nat32 hb]
  change IntKind.u32.wrap (((BitVec.ofInt 32 (a : Int)) ^^^ (BitVec.ofInt 32 (b : Int))).toNat : Int) = _
  rw [e, IntKind.wrap_u32]
  omega

theorem bits_and15 {a : Nat} (ha : a < 2 ^ 32) : bits .and .u32 (a : Int) 15 = ((a % 16 : Nat) : Int) := by
  have h15 : BitVec.ofInt 32 15 = BitVec.ofNat 32 15 := by decide
  have h2 : a &&& 15 = a % 16 := Nat.and_two_pow_sub_one_eq_mod a 4
  have e : (BitVec.ofInt 32 (a : Int) &&& BitVec.ofInt 32 15).toNat = a % 16 := by rw [BitVec.toNat_and, ofInt_nat32 ha, h15]; exact h2
  change IntKind.u32.wrap (((BitVec.ofInt 32 (a : Int)) &&& (BitVec.ofInt 32 15)).toNat : Int) = _
  rw [e, IntKind.wrap_u32]
  omega

theorem crc_zero : bits .xor .u32 IntKind.u32.max 0 = ((0xffffffff : Nat) : Int) := by decide +kernel
theorem crc_last {r : Nat} (h : r < 2 ^ 32) : bits .xor .u32 IntKind.u32.max (r : Int) = ((r ^^^ 0xffffffff : Nat) : Int) := by
  have := bits_xor32 (a := 0xffffffff) (b := r) (by decide) h
  rw [Nat.xor_comm]
  exact this

set_option maxRecDepth 10000 in
theorem crc_update (w : World) (hh : HalfAt w) (v : Value) (bs : List UInt8) (hv : Reads w v (bs.map byteV)) :
    Calls Tryd.prog 90 #[.int .u32 0, v] w fun e w' => e = .returned (.int .u32 ((crc bs : Nat) : Int)) ∧ w = w' := by
  obtain ⟨ao, cap, rfl, h1, h2, hr⟩ := hv
  rw [List.length_map] at h1 ⊢
  have hmax : (bs.length : Int) ≤ 9223372036854775807 := by simp only [maxLen] at h2; omega
  have hz := crc_zero
  have HH := hid (And.intro hh hr)
  clear hh hr
  go_enter Tryd.func90, Tryd.ntmps90
  go_wp2
  clear hz
  go_loop [5, 12] (fun rv iv => ∃ k : Nat, k ≤ bs.length ∧ iv = .int .i64 (k : Int) ∧ rv = .int .u32 (((bs.take k).foldl crcStep 0xffffffff : Nat) : Int)) (fun _ iv => bs.length - (intOf iv).toNat)
  case atStart => exact ⟨0, Nat.zero_le _, rfl, rfl⟩
  case round =>
    obtain ⟨k, hk, rfl, rfl⟩ := hrel
    have hlt32 := crcFold_lt (bs.take k) (r := 0xffffffff) (by decide)
    obtain ⟨r, hrd⟩ : ∃ r, (bs.take k).foldl crcStep 0xffffffff = r := ⟨_, rfl⟩
    rw [hrd] at hlt32 ⊢
    have HR := hid hrd
    clear hrd
    by_cases hlt : k < bs.length
    · have hlt' : (k : Int) < (bs.length : Int) := by omega
      obtain ⟨b, off, rfl, hc⟩ := HH.out.2 k (byteV bs[k]) (by rw [List.getElem?_map, List.getElem?_eq_getElem hlt]; rfl)
      unfold byteV at hc
      have hstep : (bs.take (k + 1)).foldl crcStep 0xffffffff = crcStep r bs[k] := by
        rw [List.take_succ_eq_append_getElem hlt, List.foldl_append, HR.out]; rfl
      have HS := hid hstep
      have hx : bs[k].toNat < 256 := bs[k].toNat_lt
      obtain ⟨x, hxd⟩ : ∃ x, Hid (bs[k].toNat = x) := ⟨_, hid rfl⟩
      rw [hxd.out] at hc hx
      have hx32 : (x : Int) % 4294967296 = (x : Int) := by omega
      obtain ⟨r1, h1d⟩ : ∃ y, Hid (r ^^^ x = y) := ⟨_, hid rfl⟩
      have e1 : bits .xor .u32 (r : Int) (x : Int) = (r1 : Int) := by rw [← h1d.out]; exact bits_xor32 hlt32 (by omega)
      have l1 : r1 < 2 ^ 32 := by rw [← h1d.out]; exact Nat.xor_lt_two_pow hlt32 (by omega)
      obtain ⟨d1, hd1⟩ : ∃ y, Hid (r1 % 16 = y) := ⟨_, hid rfl⟩
      have e2 : bits .and .u32 (r1 : Int) 15 = (d1 : Int) := by rw [← hd1.out]; exact bits_and15 l1
      have ld1 : d1 < 16 := by rw [← hd1.out]; omega
      have c1 := HH.out.1 d1 ld1
      obtain ⟨r2, h2d⟩ : ∃ y, Hid (crcHalf r1 = y) := ⟨_, hid rfl⟩
      obtain ⟨t1, ht1⟩ : ∃ y, Hid (half.getD d1 0 = y) := ⟨_, hid rfl⟩
      rw [ht1.out] at c1
      obtain ⟨q1, hq1⟩ : ∃ y, Hid (r1 / 16 = y) := ⟨_, hid rfl⟩
      have eq1 : (r1 : Int) / 16 = (q1 : Int) := by rw [← hq1.out]; omega
      have e3 : bits .xor .u32 (q1 : Int) (t1 : Int) = (r2 : Int) := by
        rw [← h2d.out, crcHalf, hd1.out, ht1.out, hq1.out]
        exact bits_xor32 (by rw [← hq1.out]; omega) (by rw [← ht1.out]; exact half_lt _)
      have l2 : r2 < 2 ^ 32 := by rw [← h2d.out]; exact crcHalf_lt l1
      obtain ⟨d2, hd2⟩ : ∃ y, Hid (r2 % 16 = y) := ⟨_, hid rfl⟩
      have e4 : bits .and .u32 (r2 : Int) 15 = (d2 : Int) := by rw [← hd2.out]; exact bits_and15 l2
      have ld2 : d2 < 16 := by rw [← hd2.out]; omega
      have c2 := HH.out.1 d2 ld2
      obtain ⟨r3, h3d⟩ : ∃ y, Hid (crcHalf r2 = y) := ⟨_, hid rfl⟩
      obtain ⟨t2, ht2⟩ : ∃ y, Hid (half.getD d2 0 = y) := ⟨_, hid rfl⟩
      rw [ht2.out] at c2
      obtain ⟨q2, hq2⟩ : ∃ y, Hid (r2 / 16 = y) := ⟨_, hid rfl⟩
      have eq2 : (r2 : Int) / 16 = (q2 : Int) := by rw [← hq2.out]; omega
      have e5 : bits .xor .u32 (q2 : Int) (t2 : Int) = (r3 : Int) := by
        rw [← h3d.out, crcHalf, hd2.out, ht2.out, hq2.out]
        exact bits_xor32 (by rw [← hq2.out]; omega) (by rw [← ht2.out]; exact half_lt _)
      have ld1' : (d1 : Int) < 16 := by omega
      have ld2' : (d2 : Int) < 16 := by omega
      have HF : crcStep r bs[k] = r3 := by rw [crcStep, hxd.out, h1d.out, h2d.out, h3d.out]
      have HF := hid HF
      clear hstep l1 l2 hx hlt32
      go_wp2
      go_round
      case rel => exact ⟨k + 1, by omega, by go_num, congrArg (fun n : Nat => Value.int .u32 (n : Int)) (HS.out.trans HF.out).symm⟩
      case measure => first | (simp [intOf]; done) | (simp [intOf]; omega)
    · have hend : ¬ (k : Int) < (bs.length : Int) := by omega
      have ek : k = bs.length := by omega
      subst ek
      have hl := crc_last hlt32
      rw [List.take_length] at HR
      have HF : r ^^^ 0xffffffff = crc bs := congrArg (fun n : Nat => n ^^^ 0xffffffff) HR.out.symm
      rw [HF] at hl
      have HF := hid HF
      clear hlt32
      go_wp2
      go_ret
      exact ⟨rfl, rfl⟩

theorem crc_sum (w : World) (hh : HalfAt w) (v : Value) (bs : List UInt8) (hv : Reads w v (bs.map byteV)) :
    Calls Tryd.prog 85 #[v] w fun e w' => e = .returned (.int .u32 ((crc bs : Nat) : Int)) ∧ w = w' := by
  have hu := fun W (hW : W = w) => hW ▸ crc_update w hh v bs hv
  obtain ⟨ao, cap, rfl, -, -, -⟩ := hv
  simp only [List.length_map] at hu ⊢
  clear hh
  go_enter Tryd.func85, Tryd.ntmps85
  go_wp2_with (go_at_call 90; refine (hu _ rfl).mono ?_; rintro e w' ⟨rfl, rfl⟩)
  go_ret
  exact ⟨rfl, rfl⟩

end Go.Proofs.YtjaabhdgahljcaaDoor
