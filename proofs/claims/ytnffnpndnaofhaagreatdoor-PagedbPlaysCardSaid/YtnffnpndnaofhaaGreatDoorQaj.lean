/- Parts of the proof: The small functions of a log: number, value, sum, head, frame, unframe come to their data; conditions stand in the theorems. -/
import Derived.Test.YtnffnpndnaofhaaGreatDoorQad
import Derived.Test.YtnffnpndnaofhaaGreatDoorQai
import Derived.Test.YtnffnpndnaofhaaGreatDoorQae
import Derived.Test.YtnffnpndnaofhaaGreatDoorShelf
import Derived.Deep.DeepMust
import Derived.Laws.DeepStrings4
import Derived.WalkSpells

/- The small functions of a log: number, value, sum, head, frame, unframe come to their data; conditions stand in the theorems. -/
namespace Go.Proofs.YtnffnpndnaofhaaGreatDoor
open Go.RowKit
set_option maxRecDepth 100000

theorem info_u8 : ∃ i, Tryz.prog.info? 5 = some i ∧ i.zero = some (.int .u8 0) ∧ i.size = 1 ∧ i.bytes = 1 := by
  have h : (Tryz.prog.info? 5).map (fun i => (i.zero, i.size, i.bytes)) = some (some (.int .u8 0), 1, 1) := by kernel_rfl
  cases hq : Tryz.prog.info? 5 with
  | none => simp [hq] at h
  | some i => exact ⟨i, rfl, by simpa [hq] using h⟩

def numTo (n k j : Nat) : List UInt8 := numLE n j ++ List.replicate (k - j) 0

theorem numTo_succ {n k j : Nat} (h : j < k) : (numTo n k j).set j (UInt8.ofNat (n / 2 ^ (8 * j))) = numTo n k (j + 1) := by
  unfold numTo
  rw [List.set_append_right _ _ (by rw [length_numLE]; omega), length_numLE, Nat.sub_self]
  have e : k - j = (k - (j + 1)) + 1 := by omega
  rw [e, List.replicate_succ, List.set_cons_zero]
  simp [numLE, List.range_succ]

theorem numTo_zero (n k : Nat) : numTo n k 0 = List.replicate k 0 := by simp [numTo, numLE]
theorem numTo_all (n k : Nat) : numTo n k k = numLE n k := by simp [numTo]

theorem map_byte_set (l : List UInt8) (j : Nat) (x : UInt8) : (l.map byteV).set j (byteV x) = (l.set j x).map byteV := by rw [List.map_set]

theorem num_cell (n j : Nat) : Value.int .u8 ((n : Int) / 2 ^ (8 * j) % 256) = byteV (UInt8.ofNat (n / 2 ^ (8 * j))) := by
  have h : ((n : Int) / 2 ^ (8 * j)) = ((n / 2 ^ (8 * j) : Nat) : Int) := by
    rw [Int.natCast_ediv, Int.natCast_pow]; rfl
  rw [h, byteV, UInt8.toNat_ofNat']
  congr 1

theorem wal_number (n k : Nat) (w : World) (hn : n < 2 ^ 64) (hk : k ≤ 8) :
    Calls Tryz.prog 108 #[.int .u64 (n : Int), .int .i64 (k : Int)] w fun e w' => e = .returned (.string ⟨(numLE n k).toArray⟩) ∧ Pres [] w w' := by
  obtain ⟨i, hi, hz, hs, hb⟩ := info_u8
  have HI := hid (And.intro hi (And.intro hz (And.intro hs hb)))
  clear hi hz hs hb
  go_enter Tryz.func108, Tryz.ntmps108
  go_wp2_with (((with_reducible refine at_mk ?_); refine wpL_make rfl 122 _ _ rfl 5 i _ (byteV 0) Tryz.underlying122 HI.out.1 HI.out.2.1 (by rw [HI.out.2.2.1]; rfl) (by rw [HI.out.2.2.1]; omega) k rfl rfl (by rw [HI.out.2.2.2]; omega) (by omega) ?_; intro w1 A1 P1 S1))
  have HM : St w w1 [objP w.heap.size ((numTo n k 0).map byteV) 5] := by
    have := (St.start w).made A1 P1
    rw [HI.out.2.2.1, Nat.mul_one] at this
    simpa [numTo_zero] using this
  clear A1 P1 S1
  generalize w.heap.size = b at *
  go_loopw [11] (fun iv wr => ∃ j : Nat, j ≤ k ∧ iv = .int .i64 (j : Int) ∧ St w wr [objP b ((numTo n k j).map byteV) 5]) (fun iv _ => k - (intOf iv).toNat)
  case atStart => exact ⟨0, Nat.zero_le _, rfl, HM⟩
  case round =>
    obtain ⟨j, hj, rfl, hH⟩ := hrel
    clear HM
    by_cases hlt : j < k
    · have hlt' : (j : Int) < (k : Int) := by omega
      have hd := hH.obj 0 rfl
      have f0 := hd.frozen j
      obtain ⟨u, c0⟩ : ∃ u, wr.cell? ⟨b, j, none⟩ = some u := ⟨_, (hd.cell j).trans (List.getElem?_eq_getElem (by simp [numTo, length_numLE]; omega))⟩
      have HH := hid hH
      clear hH hd
      have HS := hid (numTo_succ (n := n) hlt)
      go_wp2
      refine ⟨⟨j + 1, by omega, by go_num, ?_⟩, by simp [intOf]; omega⟩
      have := HH.out.set 0 rfl j (byteV (UInt8.ofNat (n / 2 ^ (8 * j))))
      rw [map_byte_set, HS.out] at this
      rw [num_cell]
      exact this
    · have ek : j = k := by omega
      have hend : ¬ (j : Int) < (k : Int) := by omega
      subst ek
      rw [numTo_all] at hH
      have hd := hH.obj 0 rfl
      have HP := hid hH.pres
      have HL := hid (length_numLE n j)
      clear hH
      go_wp2_with (((with_reducible refine at_conv ?_); refine wpL_bytes_string rfl 122 9 _ rfl 5 Tryz.underlying122 Tryz.underlying5 Tryz.underlying9 b 0 j j rfl (numLE n j) HL.out _ _ hd (by rw [List.drop_zero, List.take_of_length_le (by rw [List.length_map, HL.out]; omega)]) ?_))
      go_ret
      exact ⟨rfl, HP.out⟩

/-! value -/
theorem bits_or64 {a b : Nat} (hb : b < 256) (h : a * 256 < 2 ^ 64) : bits .or .u64 ((a : Int) * 256) (b : Int) = ((b + 256 * a : Nat) : Int) := by
  have e1 : (BitVec.ofInt 64 ((a : Int) * 256)).toNat = a * 256 := by rw [BitVec.toNat_ofInt]; omega
  have e2 : (BitVec.ofInt 64 (b : Int)).toNat = b := by rw [BitVec.toNat_ofInt]; omega
  have e3 : a * 256 ||| b = a * 256 + b := by
    have := Nat.two_pow_add_eq_or_of_lt (i := 8) hb a
    rw [Nat.mul_comm] at this
    exact this.symm
  have e : (BitVec.ofInt 64 ((a : Int) * 256) ||| BitVec.ofInt 64 (b : Int)).toNat = b + 256 * a := by rw [BitVec.toNat_or, e1, e2, e3]; omega
  change IntKind.u64.wrap ((BitVec.ofInt 64 ((a : Int) * 256) ||| BitVec.ofInt 64 (b : Int)).toNat : Int) = _
  rw [e, IntKind.wrap_u64]
  omega

theorem valLE_drop {l : List UInt8} {k : Nat} (h : k < l.length) : valLE (l.drop k) = l[k].toNat + 256 * valLE (l.drop (k + 1)) := by
  rw [List.drop_eq_getElem_cons h]; rfl

theorem wal_value (s : ByteArray) (w : World) (hs : s.size ≤ 8) :
    Calls Tryz.prog 77 #[.string s] w fun e w' => e = .returned (.int .u64 ((valLE s.data.toList : Nat) : Int)) ∧ w = w' := by
  go_enter Tryz.func77, Tryz.ntmps77
  go_wp2
  go_loop [3, 4] (fun nv iv => ∃ k : Nat, k ≤ s.size ∧ iv = .int .i64 ((k : Int) - 1) ∧ nv = .int .u64 ((valLE (s.data.toList.drop k) : Nat) : Int)) (fun _ iv => (intOf iv + 1).toNat)
  case atStart => exact ⟨s.size, Nat.le_refl _, by first | rfl | go_num, by rw [List.drop_of_length_le (by simp)]; rfl⟩
  case round =>
    obtain ⟨k, hk, rfl, rfl⟩ := hrel
    cases k with
    | zero =>
      have hend : ¬ (0 : Int) ≤ ((0 : Nat) : Int) - 1 := by omega
      go_wp2
      go_ret
      exact ⟨rfl, rfl⟩
    | succ k =>
      have hkl : k < s.data.toList.length := by simp; omega
      have hstep := valLE_drop hkl
      have hlt := valLE_lt (s.data.toList.drop (k + 1))
      have hlen : (s.data.toList.drop (k + 1)).length ≤ 7 := by simp; omega
      have hp : 256 ^ (s.data.toList.drop (k + 1)).length ≤ 256 ^ 7 := Nat.pow_le_pow_right (by omega) hlen
      generalize valLE (s.data.toList.drop (k + 1)) = a at *
      have ha : a < 2 ^ 56 := by omega
      have hx : s.data.toList[k].toNat < 256 := s.data.toList[k].toNat_lt
      obtain ⟨x, hxd⟩ : ∃ x, Hid (s.data.toList[k].toNat = x) := ⟨_, hid rfl⟩
      have hor := bits_or64 (a := a) (b := s.data.toList[k].toNat) hx (by omega)
      rw [← hstep] at hor
      have hw : (a : Int) * 256 % 18446744073709551616 = (a : Int) * 256 := by omega
      have hge : (0 : Int) ≤ ((k + 1 : Nat) : Int) - 1 := by omega
      have hks : k < s.size := by omega
      have hkk : ((k + 1 : Nat) : Int) - 1 = (k : Int) := by omega
      rw [hkk] at *
      have HO := hid hor
      have HL := hid (show s[k].toNat = s.data.toList[k].toNat from rfl)
      clear hor hstep hxd
      go_wp2
      refine ⟨⟨k, by omega, rfl, ?_⟩, by simp [intOf]⟩
      rw [show IntKind.u64.wrap (s[k].toNat : Int) = (s.data.toList[k].toNat : Int) from by rw [IntKind.wrap_u64, HL.out]; omega, HO.out]

/-! sum, head, frame -/
theorem string_bytes (s : ByteArray) : s.data.toList.map byteV = s.data.toList.map fun b => Value.int .u8 (b.toNat : Int) := rfl

theorem wal_sum (s : ByteArray) (w : World) (hh : HalfAt w) (hs : s.size ≤ maxLen) :
    Calls Tryz.prog 109 #[.string s] w fun e w' => e = .returned (.string ⟨(sum4 s.data.toList).toArray⟩) ∧ Pres [] w w' := by
  have HH := hid hh
  have HS := hid hs
  clear hh hs
  have hc := crc_lt s.data.toList
  have hm : ((crc s.data.toList : Nat) : Int) % 18446744073709551616 = ((crc s.data.toList : Nat) : Int) := by omega
  have hn := fun W => wal_number (crc s.data.toList) 4 W (by omega) (by omega)
  have HN : ∀ W, Calls Tryz.prog 108 #[.int .u64 ((crc s.data.toList : Nat) : Int), .int .i64 4] W fun e w' => e = .returned (.string ⟨(sum4 s.data.toList).toArray⟩) ∧ Pres [] W w' := hn
  generalize (sum4 s.data.toList).toArray = z at *
  obtain ⟨n, hnd⟩ : ∃ n, Hid (crc s.data.toList = n) := ⟨_, hid rfl⟩
  rw [hnd.out] at hm HN hc
  clear hn
  have hc' : (n : Int) < 18446744073709551616 := by omega
  go_enter Tryz.func109, Tryz.ntmps109
  go_wp2_with (first
    | ((with_reducible refine at_conv ?_); refine wpL_string_bytes rfl 9 122 _ rfl 5 Tryz.underlying9 Tryz.underlying122 Tryz.underlying5 s rfl HS.out ?_; intro cap w1 R1 P1)
    | (go_at_call 86; refine (crc_sum w1 (HH.out.pres P1) _ s.data.toList R1).mono ?_; rw [hnd.out]; rintro e w2 ⟨rfl, rfl⟩)
    | (go_at_call 108; refine (HN _).mono ?_; rintro e w3 ⟨rfl, P3⟩))
  go_ret
  exact ⟨rfl, P1.then P3⟩

theorem ba_ext {a b : ByteArray} (h : a.data.toList = b.data.toList) : a = b := ByteArray.ext (Array.ext' h)
theorem ba_mk (l : List UInt8) : (⟨l.toArray⟩ : ByteArray).data.toList = l := by simp
theorem ba_append (a b : ByteArray) : (a ++ b).data.toList = a.data.toList ++ b.data.toList := by simp [ByteArray.data_append]
theorem ba_size (a : ByteArray) : a.size = a.data.toList.length := by simp
theorem ret_str {a b : ByteArray} (h : a.data.toList = b.data.toList) : Ending.returned (.string a) = .returned (.string b) := by rw [ba_ext h]

theorem repeat_nought (c : Nat) (w : World) (hc : c ≤ 1000000) :
    Calls Tryz.prog 76 #[.string ⟨#[0]⟩, .int .i64 (c : Int)] w fun e w' => e = .returned (.string ⟨(List.replicate c (0 : UInt8)).toArray⟩) ∧ Pres [] w w' := by
  refine (Tryz.strings_Repeat ⟨#[0]⟩ c w (by omega) (by show 1 * c ≤ _; omega)).mono ?_
  rintro e w' ⟨rfl, hb⟩
  refine ⟨ret_str ?_, Pres.of_below hb⟩
  rw [ba_mk, ba_mk]
  have : ∀ n : Nat, Lib.repeatL [(0 : UInt8)] n = List.replicate n 0 := by
    intro n
    induction n with
    | zero => rfl
    | succ n ih => first | (rw [List.replicate_succ, ← ih]; rfl) | (rw [List.replicate_succ', ← ih]; rfl)
  exact this c

theorem wal_head (e l : Nat) (w : World) (hh : HalfAt w) (he : e < 2 ^ 63) (hl : l < 2 ^ 63) :
    Calls Tryz.prog 78 #[.int .i64 (e : Int), .int .i64 (l : Int)] w fun en w' => en = .returned (.string ⟨(headB e l).toArray⟩) ∧ Pres [] w w' := by
  have HH := hid hh
  have n8 := fun W => wal_number e 8 W (by omega) (by omega)
  have n4 := fun W => wal_number l 4 W (by omega) (by omega)
  obtain ⟨z8, hz8⟩ : ∃ z : ByteArray, Hid (z = ⟨(numLE e 8).toArray⟩) := ⟨_, hid rfl⟩
  obtain ⟨z4, hz4⟩ : ∃ z : ByteArray, Hid (z = ⟨(numLE l 4).toArray⟩) := ⟨_, hid rfl⟩
  obtain ⟨zr, hzr⟩ : ∃ z : ByteArray, Hid (z = ⟨(List.replicate 44 (0 : UInt8)).toArray⟩) := ⟨_, hid rfl⟩
  have nr := fun W => repeat_nought 44 W (by omega)
  rw [← hz8.out] at n8
  rw [← hz4.out] at n4
  rw [← hzr.out] at nr
  have he1 : (e : Int) < 9223372036854775808 := by omega
  have hl1 : (l : Int) < 9223372036854775808 := by omega
  obtain ⟨t, htd⟩ : ∃ t : ByteArray, (⟨#[65, 81, 87, 76]⟩ : ByteArray) ++ z8 ++ z4 = t := ⟨_, rfl⟩
  have ht : t.data.toList = headTop e l := by
    rw [← htd, ba_append, ba_append, hz8.out, hz4.out, ba_mk, ba_mk]; rfl
  have hts : t.size ≤ maxLen := by rw [ba_size, ht]; simp [headTop, length_numLE, maxLen]
  have ns := fun W (hW : HalfAt W) => wal_sum t W hW hts
  obtain ⟨zs, hzs⟩ : ∃ z : ByteArray, Hid (z = ⟨(sum4 t.data.toList).toArray⟩) := ⟨_, hid rfl⟩
  rw [← hzs.out] at ns
  have HT := hid ht
  have q8 : z8.size = 8 := by rw [ba_size, hz8.out, ba_mk, length_numLE]
  have q4 : z4.size = 4 := by rw [ba_size, hz4.out, ba_mk, length_numLE]
  have qs : zs.size = 4 := by rw [ba_size, hzs.out, ba_mk, length_sum4]
  have qr : zr.size = 44 := by rw [ba_size, hzr.out, ba_mk, List.length_replicate]
  have qt : t.size = 16 := by rw [ba_size, ht]; simp [headTop, length_numLE]
  have HE := hid (show (t ++ zs ++ zr).data.toList = headB e l by rw [ba_append, ba_append, hzs.out, hzr.out, ba_mk, ba_mk, ht]; rfl)
  clear hh ht hts he hl
  go_enter Tryz.func78, Tryz.ntmps78
  go_wp2_with fail
  refine (n8 _).mono ?_
  rintro en w1 ⟨rfl, P1⟩
  go_wp2_with fail
  refine (n4 _).mono ?_
  rintro en w2 ⟨rfl, P2⟩
  have P := hid (P1.then P2)
  clear P1 P2
  go_wp2_with fail
  refine (ns _ (HH.out.pres P.out)).mono ?_
  rintro en w3 ⟨rfl, P3⟩
  have P := hid (P.out.then P3)
  clear P3
  go_wp2_with fail
  refine (nr _).mono ?_
  rintro en w4 ⟨rfl, P4⟩
  have P := hid (P.out.then P4)
  clear P4
  go_wp2
  go_ret
  exact ⟨ret_str (by rw [ba_mk]; exact HE.out), P.out⟩

theorem wal_frame (s : ByteArray) (w : World) (hh : HalfAt w) (hs : s.size ≤ 1000000000) :
    Calls Tryz.prog 95 #[.string s] w fun e w' => e = .returned (.string ⟨(frameB s.data.toList).toArray⟩) ∧ Pres [] w w' := by
  have HH := hid hh
  have n4 := fun W => wal_number s.size 4 W (by omega) (by omega)
  obtain ⟨z4, hz4⟩ : ∃ z : ByteArray, Hid (z = ⟨(numLE s.size 4).toArray⟩) := ⟨_, hid rfl⟩
  rw [← hz4.out] at n4
  have hs1 : (s.size : Int) ≤ 1000000000 := by omega
  obtain ⟨t, htd⟩ : ∃ t : ByteArray, z4 ++ s = t := ⟨_, rfl⟩
  have ht : t.data.toList = numLE s.size 4 ++ s.data.toList := by rw [← htd, ba_append, hz4.out, ba_mk]
  have hts : t.size ≤ maxLen := by rw [ba_size, ht]; simp [length_numLE, maxLen]; omega
  have ns := fun W (hW : HalfAt W) => wal_sum t W hW hts
  obtain ⟨zs, hzs⟩ : ∃ z : ByteArray, Hid (z = ⟨(sum4 t.data.toList).toArray⟩) := ⟨_, hid rfl⟩
  rw [← hzs.out] at ns
  have q4 : z4.size = 4 := by rw [ba_size, hz4.out, ba_mk, length_numLE]
  have qs : zs.size = 4 := by rw [ba_size, hzs.out, ba_mk, length_sum4]
  have qt : t.size = 4 + s.size := by rw [ba_size, ht, ba_size s]; simp [length_numLE]
  have HE := hid (show (z4 ++ zs ++ s).data.toList = frameB s.data.toList by
    rw [ba_append, ba_append, hzs.out, hz4.out, ba_mk, ba_mk, ht, ba_size s]; rfl)
  clear hh ht hts hs
  go_enter Tryz.func95, Tryz.ntmps95
  go_wp2_with fail
  refine (n4 _).mono ?_
  rintro en w1 ⟨rfl, P1⟩
  go_wp2_with fail
  refine (ns _ (HH.out.pres P1)).mono ?_
  rintro en w3 ⟨rfl, P3⟩
  have P := hid (P1.then P3)
  clear P1 P3
  go_wp2
  go_ret
  exact ⟨ret_str (by rw [ba_mk]; exact HE.out), P.out⟩

theorem toList_ne {a b : ByteArray} (h : ¬ a = b) : (a.toList == b.toList) = false := by
  rw [beq_eq_false_iff_ne, ByteArray.toList_eq, ByteArray.toList_eq]
  exact fun e => h (ba_ext e)

/-- What unframe answers. -/
def Unframed (b : List UInt8) (e : Ending) : Prop :=
  match unframeB b with
  | some (r, k) => e = .returned (.tuple #[.string ⟨r.toArray⟩, .int .i64 (k : Int), .bool true])
  | none => ∃ x y, e = .returned (.tuple #[.string x, .int .i64 y, .bool false])

theorem ba_take (s : ByteArray) (a b : Nat) : (s.extract a b).data.toList = (s.data.toList.take b).drop a := by
  rw [ByteArray.data_extract, Array.toList_extract, List.extract_eq_take_drop, List.take_drop]
  rcases Nat.le_total a b with h | h
  · rw [show a + (b - a) = b by omega]
  · rw [show a + (b - a) = a by omega, List.drop_of_length_le (by rw [List.length_take]; omega), List.drop_of_length_le (by rw [List.length_take]; omega)]

theorem wal_unframe (s : ByteArray) (w : World) (hh : HalfAt w) (hs : s.size ≤ 140737488351232) :
    Calls Tryz.prog 79 #[.string s] w fun e w' => Unframed s.data.toList e ∧ Pres [] w w' := by
  have HH := hid hh
  have hl : s.data.toList.length = s.size := by simp
  clear hh
  by_cases h8 : s.size < 8
  · have hu : unframeB s.data.toList = none := by unfold unframeB; rw [if_pos (by omega)]
    have h8' : (s.size : Int) < 8 := by omega
    have HU := hid hu
    clear hu hl
    go_enter Tryz.func79, Tryz.ntmps79
    go_wp2
    go_ret3
    exact ⟨by unfold Unframed; rw [HU.out]; exact ⟨_, _, rfl⟩, Pres.refl _ _⟩
  · have h8' : ¬ (s.size : Int) < 8 := by omega
    have hv := fun W => wal_value (s.extract 0 4) W (by rw [ByteArray.size_extract]; omega)
    obtain ⟨n, hn⟩ : ∃ n, Hid (valLE ((s.extract 0 4).data.toList) = n) := ⟨_, hid rfl⟩
    rw [hn.out] at hv
    have hn4 : n < 2 ^ 32 := by
      rw [← hn.out]
      have := valLE_lt (s.extract 0 4).data.toList
      have h4 : (s.extract 0 4).data.toList.length = 4 := by rw [← ba_size, ByteArray.size_extract]; omega
      rw [h4] at this
      omega
    have e4 : (s.extract 0 4).data.toList = s.data.toList.take 4 := by rw [ba_take]; simp
    have hn' : valLE (s.data.toList.take 4) = n := by rw [← e4]; exact hn.out
    have hn64 : (n : Int) < 9223372036854775808 := by omega
    by_cases hbig : n > 65536 ∨ n > s.size - 8
    · have hu : unframeB s.data.toList = none := by unfold unframeB; rw [if_neg (by omega), hn', if_pos (by omega)]
      have HU := hid hu
      clear hu hl e4 hn' hn4
      by_cases hb1 : n > 65536
      · have hb1' : 65536 < (n : Int) := by omega
        clear hbig hb1
        go_enter Tryz.func79, Tryz.ntmps79
        go_wp2_with (go_at_call 77; refine (hv _).mono ?_; rintro e w1 ⟨rfl, rfl⟩)
        go_ret3
        exact ⟨by unfold Unframed; rw [HU.out]; exact ⟨_, _, rfl⟩, Pres.refl _ _⟩
      · have hb1' : ¬ 65536 < (n : Int) := by omega
        have hb2' : (s.size : Int) - 8 < (n : Int) := by omega
        clear hbig hb1
        go_enter Tryz.func79, Tryz.ntmps79
        go_wp2_with (go_at_call 77; refine (hv _).mono ?_; rintro e w1 ⟨rfl, rfl⟩)
        go_ret3
        exact ⟨by unfold Unframed; rw [HU.out]; exact ⟨_, _, rfl⟩, Pres.refl _ _⟩
    · have hb1' : ¬ 65536 < (n : Int) := by omega
      have hb2' : ¬ (s.size : Int) - 8 < (n : Int) := by omega
      have hb3 : 8 + (n : Int) ≤ (s.size : Int) := by omega
      have hw8 : ((8 : Int) + (n : Int)).toNat = 8 + n := by omega
      obtain ⟨x4, hx4⟩ : ∃ x, s.extract 0 4 = x := ⟨_, rfl⟩
      obtain ⟨xr, hxr⟩ : ∃ x, s.extract 8 (8 + n) = x := ⟨_, rfl⟩
      obtain ⟨xs, hxs⟩ : ∃ x, s.extract 4 8 = x := ⟨_, rfl⟩
      obtain ⟨t, htd⟩ : ∃ t : ByteArray, x4 ++ xr = t := ⟨_, rfl⟩
      have er : xr.data.toList = (s.data.toList.drop 8).take n := by rw [← hxr, ba_take, ← List.take_drop]
      have es : xs.data.toList = (s.data.toList.drop 4).take 4 := by rw [← hxs, ba_take]; exact (List.take_drop (i := 4) (j := 4) (l := s.data.toList)).symm
      rw [hx4] at e4 hv
      have ht : t.data.toList = s.data.toList.take 4 ++ (s.data.toList.drop 8).take n := by rw [← htd, ba_append, e4, er]
      have q4 : x4.size = 4 := by rw [ba_size, e4]; simp; omega
      have qr : xr.size = n := by rw [ba_size, er]; simp; omega
      have qs : xs.size = 4 := by rw [ba_size, es]; simp; omega
      have hts : t.size ≤ maxLen := by rw [ba_size, ht]; simp [maxLen]; omega
      have ns := fun W (hW : HalfAt W) => wal_sum t W hW hts
      obtain ⟨zs, hzs⟩ : ∃ z : ByteArray, Hid (z = ⟨(sum4 t.data.toList).toArray⟩) := ⟨_, hid rfl⟩
      rw [← hzs.out] at ns
      have hu : unframeB s.data.toList = if sum4 t.data.toList = xs.data.toList then some (xr.data.toList, 8 + n) else none := by
        unfold unframeB
        rw [if_neg (by omega), hn', if_neg (by omega), ht, es, er]
      have hze : zs.data.toList = sum4 t.data.toList := by rw [hzs.out, ba_mk]
      have HU := hid hu
      have HZ := hid hze
      have hq4 : (4 : Int) ≤ (s.size : Int) := by omega
      have hq8 : (8 : Int) ≤ (s.size : Int) := by omega
      have hbn : ¬ 9223372036854775807 < 4 + n := by omega
      have hwn : IntKind.i64.wrap (n : Int) = (n : Int) := by rw [IntKind.wrap_i64]; omega
      have hwm : IntKind.i64.wrap (8 + (n : Int)) = 8 + (n : Int) := by rw [IntKind.wrap_i64]; omega
      have d1 : decide (65536 < (n : Int)) = false := by simpa using hb1'
      have d2 : decide ((s.size : Int) - 8 < (n : Int)) = false := by simp; omega
      clear hbig e4 er es ht hts hu hze hn4 hn' hl hb1' hb2'
      by_cases hq : zs = xs
      · subst hq
        go_enter Tryz.func79, Tryz.ntmps79
        go_upto_region 7 with (go_at_call 77; refine (hv _).mono ?_; rintro e w1 ⟨rfl, rfl⟩)
        refine wp_stages (by kernel_rfl) ?_
        refine wp_pures [(0, true), (1, true), (9, true), (10, true)] 11 rfl (by kernel_rfl) (by kernel_rfl) (by intro c a dd v w h; cases dd <;> exact h) ?_
        iterate 4 (refine wpOrd_read (v := _) rfl rfl (by intro w' hS; skip; clear hS; go_simp; rfl) ?_; (try simp only [Act.put, List.setIfInBounds_toArray, List.set_cons_succ, List.set_cons_zero, List.getElem_toArray, List.getElem_cons_succ, List.getElem_cons_zero]))
        refine wpOrd_end ?_
        refine wp_stage (fun _ => True) [(2, true), (3, true), (4, true), (5, true), (6, true), (7, true), (8, false), (11, true), (12, false), (13, false)] 1 rfl (by kernel_rfl) (by intro c a dd v w h; cases dd <;> exact h) (trivial) ?_
        iterate 6 (refine wpOrd_read (v := _) rfl rfl (by intro w' hS; skip; clear hS; go_simp; rfl) ?_; (try simp only [Act.put, List.setIfInBounds_toArray, List.set_cons_succ, List.set_cons_zero, List.getElem_toArray, List.getElem_cons_succ, List.getElem_cons_zero]))
        refine wpOrd_do rfl rfl (fun K hK => ?_)
        go_simp
        refine (ns _ (HH.out.pres (Pres.refl _ _).drew)).mono ?_
        rintro e w2 ⟨rfl, P2⟩
        refine hK _ _ ⟨trivial, ?_⟩
        clear hK K
        (try simp only [Act.put, List.setIfInBounds_toArray, List.set_cons_succ, List.set_cons_zero, List.getElem_toArray, List.getElem_cons_succ, List.getElem_cons_zero])
        iterate 1 (refine wpOrd_read (v := _) rfl rfl (by intro w' hS; skip; clear hS; go_simp; rfl) ?_; (try simp only [Act.put, List.setIfInBounds_toArray, List.set_cons_succ, List.set_cons_zero, List.getElem_toArray, List.getElem_cons_succ, List.getElem_cons_zero]))
        refine wpOrd_do rfl rfl (fun K hK => ?_)
        go_simp
        refine hK _ _ ⟨trivial, ?_⟩
        clear hK K
        (try simp only [Act.put, List.setIfInBounds_toArray, List.set_cons_succ, List.set_cons_zero, List.getElem_toArray, List.getElem_cons_succ, List.getElem_cons_zero])
        refine wpOrd_do rfl rfl (fun K hK => ?_)
        go_simp
        refine hK _ _ ⟨trivial, ?_⟩
        clear hK K
        (try simp only [Act.put, List.setIfInBounds_toArray, List.set_cons_succ, List.set_cons_zero, List.getElem_toArray, List.getElem_cons_succ, List.getElem_cons_zero])
        refine wpOrd_end ?_
        refine wp_stages_end 14 (by rfl) (by kernel_rfl) ?_
        simp only [List.drop_succ_cons, List.drop_zero]
        clear hwn hwm
        go_wp2
        go_ret3
        refine ⟨?_, (Pres.refl _ _).drew.then P2⟩
        unfold Unframed
        rw [HU.out, if_pos HZ.out.symm]
        exact congrArg Ending.returned (by rw [show (⟨xr.data.toList.toArray⟩ : ByteArray) = xr from ba_ext (ba_mk _)]; rfl)
      · have hqb : (zs.toList == xs.toList) = false := toList_ne hq
        have HQ := hid (show ¬ sum4 t.data.toList = xs.data.toList from fun e => hq (ba_ext (HZ.out.trans e)))
        clear hq
        go_enter Tryz.func79, Tryz.ntmps79
        go_upto_region 7 with (go_at_call 77; refine (hv _).mono ?_; rintro e w1 ⟨rfl, rfl⟩)
        refine wp_stages (by kernel_rfl) ?_
        refine wp_pures [(0, true), (1, true), (9, true), (10, true)] 11 rfl (by kernel_rfl) (by kernel_rfl) (by intro c a dd v w h; cases dd <;> exact h) ?_
        iterate 4 (refine wpOrd_read (v := _) rfl rfl (by intro w' hS; skip; clear hS; go_simp; rfl) ?_; (try simp only [Act.put, List.setIfInBounds_toArray, List.set_cons_succ, List.set_cons_zero, List.getElem_toArray, List.getElem_cons_succ, List.getElem_cons_zero]))
        refine wpOrd_end ?_
        refine wp_stage (fun _ => True) [(2, true), (3, true), (4, true), (5, true), (6, true), (7, true), (8, false), (11, true), (12, false), (13, false)] 1 rfl (by kernel_rfl) (by intro c a dd v w h; cases dd <;> exact h) (trivial) ?_
        iterate 6 (refine wpOrd_read (v := _) rfl rfl (by intro w' hS; skip; clear hS; go_simp; rfl) ?_; (try simp only [Act.put, List.setIfInBounds_toArray, List.set_cons_succ, List.set_cons_zero, List.getElem_toArray, List.getElem_cons_succ, List.getElem_cons_zero]))
        refine wpOrd_do rfl rfl (fun K hK => ?_)
        go_simp
        refine (ns _ (HH.out.pres (Pres.refl _ _).drew)).mono ?_
        rintro e w2 ⟨rfl, P2⟩
        refine hK _ _ ⟨trivial, ?_⟩
        clear hK K
        (try simp only [Act.put, List.setIfInBounds_toArray, List.set_cons_succ, List.set_cons_zero, List.getElem_toArray, List.getElem_cons_succ, List.getElem_cons_zero])
        iterate 1 (refine wpOrd_read (v := _) rfl rfl (by intro w' hS; skip; clear hS; go_simp; rfl) ?_; (try simp only [Act.put, List.setIfInBounds_toArray, List.set_cons_succ, List.set_cons_zero, List.getElem_toArray, List.getElem_cons_succ, List.getElem_cons_zero]))
        refine wpOrd_do rfl rfl (fun K hK => ?_)
        go_simp
        refine hK _ _ ⟨trivial, ?_⟩
        clear hK K
        (try simp only [Act.put, List.setIfInBounds_toArray, List.set_cons_succ, List.set_cons_zero, List.getElem_toArray, List.getElem_cons_succ, List.getElem_cons_zero])
        refine wpOrd_do rfl rfl (fun K hK => ?_)
        go_simp
        refine hK _ _ ⟨trivial, ?_⟩
        clear hK K
        (try simp only [Act.put, List.setIfInBounds_toArray, List.set_cons_succ, List.set_cons_zero, List.getElem_toArray, List.getElem_cons_succ, List.getElem_cons_zero])
        refine wpOrd_end ?_
        refine wp_stages_end 14 (by rfl) (by kernel_rfl) ?_
        simp only [List.drop_succ_cons, List.drop_zero]
        clear hwn hwm
        go_wp2
        go_ret3
        refine ⟨?_, (Pres.refl _ _).drew.then P2⟩
        unfold Unframed
        rw [HU.out, if_neg HQ.out]
        exact ⟨_, _, rfl⟩

end Go.Proofs.YtnffnpndnaofhaaGreatDoor

/- A page's bytes (layer 9), and what is read of them. Plain Lean, no Go. -/
namespace Go.Proofs.YtnffnpndnaofhaaGreatDoor

/-- What is summed: number, kind, length, body, noughts. -/
def pageTop (id kind : Nat) (body : List UInt8) : List UInt8 :=
  numLE id 4 ++ ([UInt8.ofNat kind, 0, UInt8.ofNat body.length, UInt8.ofNat (body.length / 256)] ++ (body ++ List.replicate (500 - body.length) 0))

def pageB (id kind : Nat) (body : List UInt8) : List UInt8 := pageTop id kind body ++ sum4 (pageTop id kind body)

theorem length_pageTop {id kind : Nat} {body : List UInt8} (h : body.length ≤ 500) : (pageTop id kind body).length = 508 := by
  simp only [pageTop, List.length_append, length_numLE, List.length_cons, List.length_nil, List.length_replicate]
  omega

theorem length_pageB {id kind : Nat} {body : List UInt8} (h : body.length ≤ 500) : (pageB id kind body).length = 512 := by
  rw [pageB, List.length_append, length_pageTop h, length_sum4]

theorem pageB_top {id kind : Nat} {body : List UInt8} (h : body.length ≤ 500) : (pageB id kind body).take 508 = pageTop id kind body := by
  rw [pageB, List.take_left' (length_pageTop h)]

theorem pageB_sum {id kind : Nat} {body : List UInt8} (h : body.length ≤ 500) : (pageB id kind body).drop 508 = sum4 (pageTop id kind body) := by
  rw [pageB, List.drop_left' (length_pageTop h)]

theorem pageB_id {id kind : Nat} {body : List UInt8} : (pageB id kind body).take 4 = numLE id 4 := by
  rw [pageB, pageTop, List.append_assoc, List.take_left' (length_numLE _ _)]

theorem pageB_tail {id kind : Nat} {body : List UInt8} : (pageB id kind body).drop 4 = [UInt8.ofNat kind, 0, UInt8.ofNat body.length, UInt8.ofNat (body.length / 256)] ++ (body ++ List.replicate (500 - body.length) 0) ++ sum4 (pageTop id kind body) := by
  rw [pageB]
  generalize sum4 (pageTop id kind body) = z
  rw [pageTop, List.append_assoc, List.drop_left' (length_numLE _ _), List.append_assoc]

theorem pageB_byte {id kind : Nat} {body : List UInt8} (j : Nat) (hj : j < 4) : (pageB id kind body)[4 + j]? = [UInt8.ofNat kind, 0, UInt8.ofNat body.length, UInt8.ofNat (body.length / 256)][j]? := by
  rw [← List.getElem?_drop, pageB_tail, List.append_assoc, List.getElem?_append_left (by simpa using hj)]

theorem pageB_rest {id kind : Nat} {body : List UInt8} : (pageB id kind body).drop 8 = body ++ (List.replicate (500 - body.length) 0 ++ sum4 (pageTop id kind body)) := by
  rw [show (8 : Nat) = 4 + 4 from rfl, ← List.drop_drop, pageB_tail, List.append_assoc, List.drop_left' (by simp), List.append_assoc]

theorem pageB_body {id kind : Nat} {body : List UInt8} : ((pageB id kind body).drop 8).take body.length = body := by
  rw [pageB_rest, List.take_left' rfl]

theorem pageB_noughts {id kind : Nat} {body : List UInt8} (h : body.length ≤ 500) : ((pageB id kind body).drop (8 + body.length)).take (500 - body.length) = List.replicate (500 - body.length) 0 := by
  rw [← List.drop_drop, pageB_rest, List.drop_left' rfl, List.take_left' (by simp)]

/-- A page is not of noughts alone. -/
theorem pageB_nonzero {id kind : Nat} {body : List UInt8} (h1 : 1 ≤ kind) (h2 : kind ≤ 255) : ∃ x ∈ pageB id kind body, x ≠ 0 := by
  have h := pageB_byte (id := id) (kind := kind) (body := body) 0 (by omega)
  refine ⟨UInt8.ofNat kind, List.mem_of_getElem? h, fun e => ?_⟩
  have := congrArg UInt8.toNat e
  rw [UInt8.toNat_ofNat'] at this
  simp at this
  omega

def zeroPg : List UInt8 := List.replicate 512 0

end Go.Proofs.YtnffnpndnaofhaaGreatDoor
