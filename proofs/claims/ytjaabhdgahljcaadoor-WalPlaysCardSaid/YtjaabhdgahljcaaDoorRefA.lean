/- The small functions of the document's log (aquiferref08, aquiferref01): put, sum, noughts, Head, Frame, get come to their data; conditions stand in the theorems. -/
import Derived.Test.YtjaabhdgahljcaaDoorWalA
import Derived.Test.YtjaabhdgahljcaaDoorRefA0
namespace Go.Proofs.YtjaabhdgahljcaaDoor
open Go.RowKit
set_option maxRecDepth 100000

theorem rf_take (w : World) (r : Nat) (x : UInt8) (hr : r < 2 ^ 32) :
    Calls Tryd.prog 93 #[.int .u32 (r : Int), byteV x] w fun e w' => e = .returned (.int .u32 ((crcStep r x : Nat) : Int)) ∧ w = w' := by
  have hx : x.toNat < 256 := x.toNat_lt
  have hx32 : IntKind.u32.wrap (x.toNat : Int) = (x.toNat : Int) := by rw [IntKind.wrap_u32]; omega
  have e1 : bits .xor .u32 (r : Int) (x.toNat : Int) = ((r ^^^ x.toNat : Nat) : Int) := bits_xor32 hr (by omega)
  have HL := hid (show r ^^^ x.toNat < 2 ^ 32 from Nat.xor_lt_two_pow hr (by omega))
  have HE := hid (bitN_eight r x)
  unfold byteV
  generalize r ^^^ x.toNat = r1 at *
  generalize x.toNat = xn at *
  clear hx hr
  go_enter Tryd.func93, Tryd.ntmps93
  go_wp2
  go_loop [0, 5] (fun rv iv => ∃ k : Nat, k ≤ 8 ∧ iv = .int .i64 (k : Int) ∧ rv = .int .u32 ((bitN k r1 : Nat) : Int)) (fun _ iv => 8 - (intOf iv).toNat)
  case atStart => exact ⟨0, Nat.zero_le _, rfl, rfl⟩
  case round =>
    obtain ⟨k, hk, rfl, rfl⟩ := hrel
    have hlt := bitN_lt k HL.out
    have hst : bitN (k + 1) r1 = bitStep (bitN k r1) := rfl
    obtain ⟨q, hqd⟩ : ∃ q, Hid (bitN k r1 = q) := ⟨_, hid rfl⟩
    rw [hqd.out] at hlt hst ⊢
    have HQ := hid hlt
    have HS := hid hst
    clear hst hlt
    by_cases hlt : k < 8
    · have hlt' : (k : Int) < 8 := by omega
      obtain ⟨qh, hqh⟩ : ∃ y, Hid (q / 2 = y) := ⟨_, hid rfl⟩
      have hq := HQ.out
      have eq1 : (q : Int) / 2 = (qh : Int) := by rw [← hqh.out]; omega
      have eq2 : (qh : Int) % 4294967296 = (qh : Int) := by have := hqh.out; omega
      obtain ⟨qx, hqx⟩ : ∃ y, Hid (qh ^^^ 0x82f63b78 = y) := ⟨_, hid rfl⟩
      have e2 : bits .xor .u32 (qh : Int) 2197175160 = (qx : Int) := by
        rw [← hqx.out]
        exact bits_xor32 (a := qh) (b := 0x82f63b78) (by have := hqh.out; omega) (by decide)
      clear hq
      by_cases h2 : q % 2 = 1
      · have h2' : ((q : Int) % 2 == 1) = true := by rw [beq_iff_eq]; omega
        have HF := hid (show bitStep q = qx by rw [bitStep, if_pos h2, hqh.out, hqx.out])
        clear h2
        go_wp2
        refine ⟨⟨k + 1, by omega, by go_num, ?_⟩, by simp [intOf]; omega⟩
        rw [HS.out, HF.out]
      · have h2' : ((q : Int) % 2 == 1) = false := by rw [beq_eq_false_iff_ne]; omega
        have HF := hid (show bitStep q = qh by rw [bitStep, if_neg h2, hqh.out])
        clear h2
        go_wp2
        refine ⟨⟨k + 1, by omega, by go_num, ?_⟩, by simp [intOf]; omega⟩
        rw [HS.out, HF.out]
    · obtain rfl : k = 8 := by omega
      have hend : ¬ ((8 : Nat) : Int) < 8 := by omega
      have HQ8 := hid (show q = crcStep r x from hqd.out.symm.trans HE.out)
      go_wp2
      go_ret
      exact ⟨by rw [HQ8.out]; rfl, rfl⟩

theorem rf_update (w : World) (v : Value) (bs : List UInt8) (hv : Reads w v (bs.map byteV)) :
    Calls Tryd.prog 92 #[.int .u32 0, v] w fun e w' => e = .returned (.int .u32 ((crc bs : Nat) : Int)) ∧ w = w' := by
  obtain ⟨ao, cap, rfl, h1, h2, hr⟩ := hv
  rw [List.length_map] at h1 ⊢
  have hmax : (bs.length : Int) ≤ 9223372036854775807 := by simp only [maxLen] at h2; omega
  have HH := hid hr
  clear hr
  have hz : bits .xor .u32 0 4294967295 = ((0xffffffff : Nat) : Int) := by decide +kernel
  have hz2 : bits .xor .u32 0 IntKind.u32.max = ((0xffffffff : Nat) : Int) := by decide +kernel
  go_enter Tryd.func92, Tryd.ntmps92
  go_wp2
  clear hz hz2
  go_loop [5, 6] (fun rv iv => ∃ k : Nat, k ≤ bs.length ∧ iv = .int .i64 (k : Int) ∧ rv = .int .u32 (((bs.take k).foldl crcStep 0xffffffff : Nat) : Int)) (fun _ iv => bs.length - (intOf iv).toNat)
  case atStart => exact ⟨0, Nat.zero_le _, rfl, rfl⟩
  case round =>
    obtain ⟨k, hk, rfl, rfl⟩ := hrel
    have hlt32 := crcFold_lt (bs.take k) (r := 0xffffffff) (by decide)
    obtain ⟨r, hrd⟩ : ∃ r, (bs.take k).foldl crcStep 0xffffffff = r := ⟨_, rfl⟩
    rw [hrd] at hlt32 ⊢
    have HR := hid hrd
    clear hrd
    by_cases hlt : k < bs.length
    · have hlt' : (k : Int) < (bs.length : Int) := by omega
      obtain ⟨b, off, rfl, hc⟩ := HH.out k (byteV bs[k]) (by rw [List.getElem?_map, List.getElem?_eq_getElem hlt]; rfl)
      have hstep : (bs.take (k + 1)).foldl crcStep 0xffffffff = crcStep r bs[k] := by
        rw [List.take_succ_eq_append_getElem hlt, List.foldl_append, HR.out]; rfl
      have HS := hid hstep
      have ht := fun W => rf_take W r bs[k] hlt32
      generalize byteV bs[k] = xv at *
      obtain ⟨r2, hr2⟩ : ∃ y, Hid (crcStep r bs[k] = y) := ⟨_, hid rfl⟩
      rw [hr2.out] at ht
      clear hstep hlt32
      go_wp2_with (go_at_call 93; refine (ht _).mono ?_; rintro e w' ⟨rfl, rfl⟩)
      go_round
      case rel => exact ⟨k + 1, by omega, by go_num, congrArg (fun n : Nat => Value.int .u32 (n : Int)) (HS.out.trans hr2.out).symm⟩
      case measure => first | (simp [intOf]; done) | (simp [intOf]; omega)
    · have hend : ¬ (k : Int) < (bs.length : Int) := by omega
      have ek : k = bs.length := by omega
      subst ek
      have hl : bits .xor .u32 (r : Int) 4294967295 = ((r ^^^ 0xffffffff : Nat) : Int) := bits_xor32 (b := 0xffffffff) hlt32 (by decide)
      have hl2 : bits .xor .u32 (r : Int) IntKind.u32.max = ((r ^^^ 0xffffffff : Nat) : Int) := hl
      rw [List.take_length] at HR
      have HF : r ^^^ 0xffffffff = crc bs := congrArg (fun n : Nat => n ^^^ 0xffffffff) HR.out.symm
      replace HF := hid HF
      clear hlt32
      obtain ⟨q, hq⟩ : ∃ q, Hid (r ^^^ 0xffffffff = q) := ⟨_, hid rfl⟩
      rw [hq.out] at hl hl2
      go_wp2
      go_ret
      exact ⟨by rw [← HF.out, hq.out]; rfl, rfl⟩

theorem rf_sum0 (w : World) (v : Value) (bs : List UInt8) (hv : Reads w v (bs.map byteV)) :
    Calls Tryd.prog 91 #[v] w fun e w' => e = .returned (.int .u32 ((crc bs : Nat) : Int)) ∧ w = w' := by
  have hu := fun W (hW : W = w) => hW ▸ rf_update w v bs hv
  obtain ⟨ao, cap, rfl, -, -, -⟩ := hv
  simp only [List.length_map] at hu ⊢
  go_enter Tryd.func91, Tryd.ntmps91
  go_wp2_with (go_at_call 92; refine (hu _ rfl).mono ?_; rintro e w' ⟨rfl, rfl⟩)
  go_ret
  exact ⟨rfl, rfl⟩

theorem rf_put (n k : Nat) (w : World) (hn : n < 2 ^ 63) (hk : k ≤ 8) :
    Calls Tryd.prog 86 #[.int .i64 (n : Int), .int .i64 (k : Int)] w fun e w' => e = .returned (.string ⟨(numLE n k).toArray⟩) ∧ Pres [] w w' := by
  go_enter Tryd.func86, Tryd.ntmps86
  go_wp2
  go_loopw [0, 5, 6] (fun nv sv iv wr => ∃ j : Nat, j ≤ k ∧ iv = .int .i64 (j : Int) ∧ nv = .int .i64 ((n / 256 ^ j : Nat) : Int) ∧ sv = .string ⟨(numLE n j).toArray⟩ ∧ Pres [] w wr) (fun _ _ iv _ => k - (intOf iv).toNat)
  case atStart => exact ⟨0, Nat.zero_le _, rfl, by simp, rfl, Pres.refl _ _⟩
  case round =>
    obtain ⟨j, hj, rfl, rfl, rfl, P⟩ := hrel
    have HP := hid P
    clear P
    by_cases hlt : j < k
    · have hlt' : (j : Int) < (k : Int) := by omega
      obtain ⟨m, hm⟩ : ∃ y, Hid (n / 256 ^ j = y) := ⟨_, hid rfl⟩
      rw [hm.out]
      obtain ⟨z, hz⟩ : ∃ z : ByteArray, Hid (z = ⟨(numLE n j).toArray⟩) := ⟨_, hid rfl⟩
      rw [← hz.out]
      have hzs : z.size = j := by rw [ba_size, hz.out, ba_mk, length_numLE]
      have hj8 : j < 8 := by omega
      have hx1 : (⟨[UInt8.ofNat m].toArray⟩ : ByteArray).size = 1 := rfl
      have A := At.new wr [.int .u8 ((m : Int) % 256)] 5
      have hcell : [Value.int .u8 ((m : Int) % 256)] = [UInt8.ofNat m].map byteV := by
        show [Value.int .u8 ((m : Int) % 256)] = [byteV (UInt8.ofNat m)]
        rw [byteV, UInt8.toNat_ofNat']
        rfl
      have HCE := hid hcell
      clear hcell
      go_wp2_with (((with_reducible refine at_conv ?_); refine wpL_bytes_string rfl 43 9 _ rfl 5 Tryd.underlying43 Tryd.underlying5 Tryd.underlying9 wr.heap.size 0 1 1 rfl [UInt8.ofNat m] rfl _ _ A (by rw [List.drop_zero, List.take_of_length_le (by simp)]; exact HCE.out) ?_))
      go_roundw
      case rel =>
        refine ⟨j + 1, by omega, by go_num, ?_, ?_, HP.out.alloc _⟩
        · rw [Nat.pow_succ, ← Nat.div_div_eq_div_mul, hm.out]
          have hm63 : m < 2 ^ 63 := by
            rw [← hm.out]
            exact Nat.lt_of_le_of_lt (Nat.div_le_self _ _) hn
          rw [show wrap64 ((m : Int) / 256) = (m : Int) / 256 by unfold wrap64; omega]
          congr 1
        · have e : UInt8.ofNat m = UInt8.ofNat (n / 2 ^ (8 * j)) := by rw [← hm.out, show (256 : Nat) = 2 ^ 8 from rfl, ← Nat.pow_mul]
          congr 1
          refine ba_ext ?_
          rw [ba_append, hz.out, ba_mk, ba_mk, ba_mk, e]
          simp [numLE, List.range_succ]
      case measure => first | (simp [intOf]; done) | (simp [intOf]; omega)
    · obtain rfl : j = k := by omega
      have hend : ¬ (j : Int) < (j : Int) := by omega
      go_wp2
      go_ret
      exact ⟨rfl, HP.out⟩

theorem rf_sum (s : ByteArray) (w : World) (hs : s.size ≤ maxLen) :
    Calls Tryd.prog 87 #[.string s] w fun e w' => e = .returned (.string ⟨(sum4 s.data.toList).toArray⟩) ∧ Pres [] w w' := by
  have HS := hid hs
  clear hs
  have hc := crc_lt s.data.toList
  have hn := fun W => rf_put (crc s.data.toList) 4 W (by omega) (by omega)
  have HN : ∀ W, Calls Tryd.prog 86 #[.int .i64 ((crc s.data.toList : Nat) : Int), .int .i64 4] W fun e w' => e = .returned (.string ⟨(sum4 s.data.toList).toArray⟩) ∧ Pres [] W w' := hn
  generalize (sum4 s.data.toList).toArray = z at *
  obtain ⟨n, hnd⟩ : ∃ n, Hid (crc s.data.toList = n) := ⟨_, hid rfl⟩
  rw [hnd.out] at HN hc
  clear hn
  have hw : IntKind.i64.wrap (n : Int) = (n : Int) := by rw [IntKind.wrap_i64]; omega
  have hc' : (n : Int) < 9223372036854775808 := by omega
  go_enter Tryd.func87, Tryd.ntmps87
  go_wp2_with (first
    | ((with_reducible refine at_conv ?_); refine wpL_string_bytes rfl 9 43 _ rfl 5 Tryd.underlying9 Tryd.underlying43 Tryd.underlying5 s rfl HS.out ?_; intro cap w1 R1 P1)
    | (go_at_call 91; refine (rf_sum0 w1 _ s.data.toList R1).mono ?_; rw [hnd.out]; rintro e w2 ⟨rfl, rfl⟩)
    | (go_at_call 86; refine (HN _).mono ?_; rintro e w3 ⟨rfl, P3⟩))
  go_ret
  exact ⟨rfl, P1.then P3⟩

theorem rf_noughts (n : Nat) (w : World) (hn : n ≤ 1000000) :
    Calls Tryd.prog 71 #[.int .i64 (n : Int)] w fun e w' => e = .returned (.string ⟨(List.replicate n (0 : UInt8)).toArray⟩) ∧ w = w' := by
  go_enter Tryd.func71, Tryd.ntmps71
  go_wp2
  go_loop [3, 4] (fun sv iv => ∃ j : Nat, j ≤ n ∧ iv = .int .i64 (j : Int) ∧ sv = .string ⟨(List.replicate j (0 : UInt8)).toArray⟩) (fun _ iv => n - (intOf iv).toNat)
  case atStart => exact ⟨0, Nat.zero_le _, rfl, rfl⟩
  case round =>
    obtain ⟨j, hj, rfl, rfl⟩ := hrel
    by_cases hlt : j < n
    · have hlt' : (j : Int) < (n : Int) := by omega
      obtain ⟨z, hz⟩ : ∃ z : ByteArray, Hid (z = ⟨(List.replicate j (0 : UInt8)).toArray⟩) := ⟨_, hid rfl⟩
      rw [← hz.out]
      have hzs : z.size = j := by rw [ba_size, hz.out, ba_mk, List.length_replicate]
      have hjn : (j : Int) < 1000000 := by omega
      go_wp2
      refine ⟨⟨j + 1, by omega, by go_num, ?_⟩, by simp [intOf]; omega⟩
      congr 1
      refine ba_ext ?_
      rw [ba_append, hz.out, ba_mk, ba_mk, List.replicate_succ']
    · obtain rfl : j = n := by omega
      have hend : ¬ (j : Int) < (j : Int) := by omega
      go_wp2
      go_ret
      exact ⟨rfl, rfl⟩

theorem rf_head (e l : Nat) (w : World) (he : e < 2 ^ 63) (hl : l < 2 ^ 63) :
    Calls Tryd.prog 73 #[.int .i64 (e : Int), .int .i64 (l : Int)] w fun en w' => en = .returned (.string ⟨(headB e l).toArray⟩) ∧ Pres [] w w' := by
  have n8 := fun W => rf_put e 8 W (by omega) (by omega)
  have n4 := fun W => rf_put l 4 W (by omega) (by omega)
  obtain ⟨z8, hz8⟩ : ∃ z : ByteArray, Hid (z = ⟨(numLE e 8).toArray⟩) := ⟨_, hid rfl⟩
  obtain ⟨z4, hz4⟩ : ∃ z : ByteArray, Hid (z = ⟨(numLE l 4).toArray⟩) := ⟨_, hid rfl⟩
  obtain ⟨zr, hzr⟩ : ∃ z : ByteArray, Hid (z = ⟨(List.replicate 44 (0 : UInt8)).toArray⟩) := ⟨_, hid rfl⟩
  have nr := fun W => rf_noughts 44 W (by omega)
  rw [← hz8.out] at n8
  rw [← hz4.out] at n4
  rw [← hzr.out] at nr
  obtain ⟨t, htd⟩ : ∃ t : ByteArray, (⟨#[65, 81, 87, 76]⟩ : ByteArray) ++ z8 ++ z4 = t := ⟨_, rfl⟩
  have ht : t.data.toList = headTop e l := by
    rw [← htd, ba_append, ba_append, hz8.out, hz4.out, ba_mk, ba_mk]; rfl
  have hts : t.size ≤ maxLen := by rw [ba_size, ht]; simp [headTop, length_numLE, maxLen]
  have ns := fun W => rf_sum t W hts
  obtain ⟨zs, hzs⟩ : ∃ z : ByteArray, Hid (z = ⟨(sum4 t.data.toList).toArray⟩) := ⟨_, hid rfl⟩
  rw [← hzs.out] at ns
  have q8 : z8.size = 8 := by rw [ba_size, hz8.out, ba_mk, length_numLE]
  have q4 : z4.size = 4 := by rw [ba_size, hz4.out, ba_mk, length_numLE]
  have qs : zs.size = 4 := by rw [ba_size, hzs.out, ba_mk, length_sum4]
  have qr : zr.size = 44 := by rw [ba_size, hzr.out, ba_mk, List.length_replicate]
  have qt : t.size = 16 := by rw [ba_size, ht]; simp [headTop, length_numLE]
  have HE := hid (show (t ++ zs ++ zr).data.toList = headB e l by rw [ba_append, ba_append, hzs.out, hzr.out, ba_mk, ba_mk, ht]; rfl)
  clear ht hts he hl
  go_enter Tryd.func73, Tryd.ntmps73
  go_wp2_with fail
  refine (n8 _).mono ?_
  rintro en w1 ⟨rfl, P1⟩
  go_wp2_with fail
  refine (n4 _).mono ?_
  rintro en w2 ⟨rfl, P2⟩
  have P := hid (P1.then P2)
  clear P1 P2
  go_wp2_with fail
  refine (ns _).mono ?_
  rintro en w3 ⟨rfl, P3⟩
  have P := hid (P.out.then P3)
  clear P3
  go_wp2_with fail
  refine (nr _).mono ?_
  rintro en w4 ⟨rfl, rfl⟩
  go_wp2
  go_ret
  exact ⟨ret_str (by rw [ba_mk]; exact HE.out), P.out⟩

theorem rf_frame (s : ByteArray) (w : World) (hs : s.size ≤ 1000000000) :
    Calls Tryd.prog 75 #[.string s] w fun e w' => e = .returned (.string ⟨(frameB s.data.toList).toArray⟩) ∧ Pres [] w w' := by
  have n4 := fun W => rf_put s.size 4 W (by omega) (by omega)
  obtain ⟨z4, hz4⟩ : ∃ z : ByteArray, Hid (z = ⟨(numLE s.size 4).toArray⟩) := ⟨_, hid rfl⟩
  rw [← hz4.out] at n4
  have hs1 : (s.size : Int) ≤ 1000000000 := by omega
  obtain ⟨t, htd⟩ : ∃ t : ByteArray, z4 ++ s = t := ⟨_, rfl⟩
  have ht : t.data.toList = numLE s.size 4 ++ s.data.toList := by rw [← htd, ba_append, hz4.out, ba_mk]
  have hts : t.size ≤ maxLen := by rw [ba_size, ht]; simp [length_numLE, maxLen]; omega
  have ns := fun W => rf_sum t W hts
  obtain ⟨zs, hzs⟩ : ∃ z : ByteArray, Hid (z = ⟨(sum4 t.data.toList).toArray⟩) := ⟨_, hid rfl⟩
  rw [← hzs.out] at ns
  have q4 : z4.size = 4 := by rw [ba_size, hz4.out, ba_mk, length_numLE]
  have qs : zs.size = 4 := by rw [ba_size, hzs.out, ba_mk, length_sum4]
  have qt : t.size = 4 + s.size := by rw [ba_size, ht, ba_size s]; simp [length_numLE]
  have HE := hid (show (z4 ++ zs ++ s).data.toList = frameB s.data.toList by
    rw [ba_append, ba_append, hzs.out, hz4.out, ba_mk, ba_mk, ht, ba_size s]; rfl)
  clear ht hts hs
  go_enter Tryd.func75, Tryd.ntmps75
  go_wp2_with fail
  refine (n4 _).mono ?_
  rintro en w1 ⟨rfl, P1⟩
  go_wp2_with fail
  refine (ns _).mono ?_
  rintro en w3 ⟨rfl, P3⟩
  have P := hid (P1.then P3)
  clear P1 P3
  go_wp2
  go_ret
  exact ⟨ret_str (by rw [ba_mk]; exact HE.out), P.out⟩

theorem rf_get (s : ByteArray) (w : World) (hs : s.size ≤ 8) :
    Calls Tryd.prog 72 #[.string s] w fun e w' => e = .returned (.int .i64 (getB s.data.toList)) ∧ w = w' := by
  obtain ⟨F, hF⟩ : ∃ F, Hid (getB s.data.toList = F) := ⟨_, hid rfl⟩
  rw [hF.out]
  go_enter Tryd.func72, Tryd.ntmps72
  go_wp2
  go_loop [3, 4] (fun nv iv => ∃ k : Nat, k ≤ s.size ∧ iv = .int .i64 ((k : Int) - 1) ∧ nv = .int .i64 ((valLE (s.data.toList.drop k) : Nat) : Int) ∧ valLE (s.data.toList.drop k) ≤ 4611686018427388159) (fun _ iv => (intOf iv + 1).toNat)
  case atStart => exact ⟨s.size, Nat.le_refl _, by first | rfl | go_num, by rw [List.drop_of_length_le (by simp)]; rfl, by rw [List.drop_of_length_le (by simp)]; simp [valLE]⟩
  case round =>
    obtain ⟨k, hk, rfl, rfl, hb⟩ := hrel
    cases k with
    | zero =>
      have hend : ¬ (0 : Int) ≤ ((0 : Nat) : Int) - 1 := by omega
      rw [List.drop_zero] at hb ⊢
      obtain ⟨a, had⟩ : ∃ a, valLE s.data.toList = a := ⟨_, rfl⟩
      rw [had] at hb ⊢
      have hFa : F = if a ≤ 2 ^ 62 then (a : Int) else -1 := by rw [← hF.out, getB, had]
      have hn0 : ¬ (a : Int) < 0 := by omega
      by_cases hbig : a ≤ 2 ^ 62
      · have hbig' : ¬ 4611686018427387904 < (a : Int) := by omega
        rw [if_pos hbig] at hFa
        have HFA := hid hFa
        have d1 : decide ((a : Int) < 0) = false := by simp
        clear hFa had hb hbig
        go_wp2
        go_ret
        exact ⟨by rw [HFA.out]; rfl, rfl⟩
      · have hbig' : 4611686018427387904 < (a : Int) := by omega
        rw [if_neg hbig] at hFa
        have HFA := hid hFa
        have d1 : decide ((a : Int) < 0) = false := by simp
        clear hFa had hb hbig
        go_wp2
        go_ret
        exact ⟨by rw [HFA.out]; rfl, rfl⟩
    | succ k =>
      have hkl : k < s.data.toList.length := by simp; omega
      have hstep := valLE_drop hkl
      have hwhole := valLE_ge s.data.toList (k + 1)
      obtain ⟨a, had⟩ : ∃ a, valLE (s.data.toList.drop (k + 1)) = a := ⟨_, rfl⟩
      rw [had] at hb hstep hwhole ⊢
      have hx : s.data.toList[k].toNat < 256 := s.data.toList[k].toNat_lt
      have hge : (0 : Int) ≤ ((k + 1 : Nat) : Int) - 1 := by omega
      have hks : k < s.size := by omega
      have hkk : ((k + 1 : Nat) : Int) - 1 = (k : Int) := by omega
      rw [hkk] at *
      by_cases hbig : 18014398509481984 < a
      · have hbig' : 18014398509481984 < (a : Int) := by omega
        have h256 : 256 ≤ 256 ^ (k + 1) := by rw [Nat.pow_succ]; exact Nat.le_mul_of_pos_left _ (Nat.pow_pos (by omega))
        have h2 := Nat.mul_le_mul_right a h256
        have hFa : F = -1 := by rw [← hF.out, getB, if_neg (by omega)]
        have HFA := hid hFa
        clear hFa hwhole h256 h2 hstep had hb hbig
        go_wp2
        go_ret
        exact ⟨by rw [HFA.out]; rfl, rfl⟩
      · have hbig' : ¬ 18014398509481984 < (a : Int) := by omega
        obtain ⟨x, hxd⟩ : ∃ x, Hid (s.data.toList[k].toNat = x) := ⟨_, hid rfl⟩
        have HL := hid (show s[k].toNat = s.data.toList[k].toNat from rfl)
        rw [hxd.out] at hstep hx
        have HST := hid hstep
        have hr : 256 * a + x < 9223372036854775808 := by omega
        have hr1 : (a : Int) * 256 < 9223372036854775808 := by omega
        have hr2 : (a : Int) * 256 + (x : Int) < 9223372036854775808 := by omega
        have HB := hid (show x + 256 * a ≤ 4611686018427388159 by omega)
        have hxx : IntKind.i64.wrap (s[k].toNat : Int) = (x : Int) := by rw [HL.out, hxd.out, IntKind.wrap_i64]; omega
        have hxn : ((s[k].toNat : Nat) : Int) = (x : Int) := by rw [HL.out, hxd.out]
        clear hstep hwhole had hb hbig hr
        go_wp2
        refine ⟨⟨k, by omega, rfl, ?_, by rw [HST.out]; exact HB.out⟩, by simp [intOf]⟩
        rw [HST.out]
        go_num

end Go.Proofs.YtjaabhdgahljcaaDoor
