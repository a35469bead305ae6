/- Parts of the proof: aquiferlaw10.change and build: some changes by one call, and transactions of them; conditions stand in the theorems. -/
import Derived.Test.YtnffnpndnaofhaaGreatDoorQbc
import Derived.Test.YtnffnpndnaofhaaGreatDoorQbb

/- aquiferlaw10.change and build: some changes by one call, and transactions of them; conditions stand in the theorems. -/
namespace Go.Proofs.YtnffnpndnaofhaaGreatDoor
open Go.RowKit
set_option maxRecDepth 100000

theorem cut_extract (s : ByteArray) (m M : Nat) (h : M = min m s.size) : (s.extract 0 M).data.toList = s.data.toList.take m := by
  subst h
  rw [ba_take, List.drop_zero]
  rcases Nat.le_total m s.size with h | h
  · rw [Nat.min_eq_left h]
  · rw [Nat.min_eq_right h, List.take_of_length_le (by rw [← ba_size]; omega), List.take_of_length_le (by rw [← ba_size]; omega)]

/-- A transaction as data. -/
structure TS where
  T : PSt
  tk : Nat → Bool
  mark : Bool

def TS.alloc (X : TS) (cnt : Nat) : TS := ⟨(X.T.alloc cnt).2.2, if (X.T.alloc cnt).2.1 = 0 then tchK X.tk (X.T.alloc cnt).1 else X.tk, if (X.T.alloc cnt).2.1 = 0 then true else X.mark⟩
def TS.write (X : TS) (k kind : Int) (s : List UInt8) : TS := ⟨if X.T.writeE k kind s.length = 0 then X.T.write k.toNat (kind.toNat, s) else X.T, if X.T.writeE k kind s.length = 0 then tchK X.tk k.toNat else X.tk, X.mark⟩
def TS.free (X : TS) (k : Int) : TS := ⟨if X.T.there k = 0 then X.T.free k.toNat else X.T, if X.T.there k = 0 then tchK X.tk k.toNat else X.tk, if X.T.there k = 0 then true else X.mark⟩
def TS.root (X : TS) (i v : Nat) : TS := ⟨X.T.setRoot i v, X.tk, true⟩

def actS (a : ActD) : List UInt8 := a.s.data.toList.take 100
theorem cat120 (xs : ByteArray) : (xs ++ (⟨#[120]⟩ : ByteArray)).data.toList = xs.data.toList ++ [120] := by simp

def wrp (x m : Int) : Int := (x.tmod m + m).tmod m
def othK (a : ActD) (k : Nat) : Int := 1 + (wrp a.pid 9 + (k : Int)).tmod 9

/-- One round of changes. -/
def TS.chg1 (X : TS) (cnt : Nat) (a : ActD) (k : Nat) : TS :=
  let Y := if (X.T.alloc cnt).2.1 = 0 then (X.alloc cnt).write ((X.T.alloc cnt).1 : Int) (1 + wrp a.kd 200) (actS a) else X.alloc cnt
  if a.kind.tmod 3 = 0 then Y.free (othK a k) else Y.write (othK a k) 7 (actS a ++ [120])

def TS.chgTo (X : TS) (cnt : Nat) (a : ActD) : Nat → TS
  | 0 => X
  | k + 1 => (X.chgTo cnt a k).chg1 cnt a k

def TS.chg (X : TS) (cnt : Nat) (a : ActD) : TS := (X.chgTo cnt a (1 + wrp a.kd 3).toNat).root (wrp a.pid 4).toNat (wrp a.kd 100).toNat

theorem wrp_bounds (x : Int) {m : Int} (h : 0 < m) : 0 ≤ wrp x m ∧ wrp x m < m := by
  unfold wrp
  have h1 := Int.lt_tmod_of_pos x h
  have h2 : 0 ≤ x.tmod m + m := by omega
  exact ⟨Int.tmod_nonneg _ h2, Int.tmod_lt_of_pos _ h⟩

section
variable {w0 w : World} {ps : List HP} {x d t N log cnt E : Nat} {arm sp : Bool} {S : PSt}

theorem txP_pa {tk : Nat → Bool} {mk : Bool} {T : PSt} (H : St w0 w (txP x d t N log cnt E arm S T tk mk sp :: ps)) : (T.alloc cnt).1 ≤ 8192 := by
  obtain ⟨X, h1, h2, -⟩ := txP_open H
  have hm := h2.views.most
  have hc := h1.rest.sh.few
  unfold PSt.alloc
  split
  · split <;> simp only [] <;> omega
  · rename_i hf
    simp only []
    have hl : T.freed.getLastD 0 ∈ T.freed := by
      rw [List.getLastD_eq_getLast?, List.getLast?_eq_some_getLast hf]
      exact List.getLast_mem hf
    have := (h2.views.mem hl).2
    omega

set_option maxHeartbeats 8000000 in
theorem law_change (hh : HalfAt w0) (X : TS) (a : ActD) (hs : a.s.size ≤ maxLen) (H : St w0 w (txP x d t N log cnt E arm S X.T X.tk X.mark sp :: ps)) :
    Calls Tryz.prog 16 #[.pointer (some ⟨t, 0, none⟩), .agg a.cells.toArray] w fun e w' => e = .returned (.tuple #[]) ∧
      St w0 w' (txP x d t N log cnt E arm S (X.chg cnt a).T (X.chg cnt a).tk (X.chg cnt a).mark sp :: ps) := by
  have H0 := hid (H.alloc a.cells 46)
  simp only [ActD.cells] at H0
  obtain ⟨Y, hY⟩ : ∃ Y, Hid (X.chg cnt a = Y) := ⟨_, hid rfl⟩
  rw [hY.out]
  unfold ActD.cells
  have HA := hid hs
  clear H
  obtain ⟨M, hM⟩ : ∃ M : Nat, M = min 100 a.s.size := ⟨_, rfl⟩
  have hM1 : min (a.s.size : Int) 100 = (M : Int) := by omega
  have hM2 : M ≤ a.s.size := by omega
  have hM3 : M ≤ 100 := by omega
  have hxl := hid (cut_extract a.s 100 (min 100 a.s.size) rfl)
  have hxsz := hid (show (a.s.extract 0 (min 100 a.s.size)).size ≤ 100 by rw [ByteArray.size_extract]; omega)
  obtain ⟨r3, hr3⟩ : ∃ r, a.kd.tmod 3 = r := ⟨_, rfl⟩
  have r3b := Int.lt_tmod_of_pos a.kd (show (0 : Int) < 3 by omega)
  have r3c := Int.tmod_lt_of_pos a.kd (show (0 : Int) < 3 by omega)
  rw [hr3] at r3b r3c
  obtain ⟨n3, hn3⟩ : ∃ n : Nat, 1 + r3 % 3 = (n : Int) := ⟨(1 + r3 % 3).toNat, by omega⟩
  have e3 : (r3 + 3).tmod 3 = (r3 + 3) % 3 := Int.tmod_eq_emod_of_nonneg (by omega)
  go_enter Tryz.func16, Tryz.ntmps16
  go_upto_region 1 with fail
  generalize w.heap.size = ab at *
  generalize (w.alloc _) = w1 at *
  have d0 := (H0.out.obj 0 rfl).cell 0
  have d1 := (H0.out.obj 0 rfl).cell 1
  have d2 := (H0.out.obj 0 rfl).cell 2
  have d3 := (H0.out.obj 0 rfl).cell 3
  simp only [List.getElem?_cons_succ, List.getElem?_cons_zero] at d0 d1 d2 d3
  have e0 : X.chgTo cnt a 0 = X := rfl
  rw [← e0] at H0
  clear e0
  obtain ⟨r200, hr200⟩ : ∃ r, a.kd.tmod 200 = r := ⟨_, rfl⟩
  have r200b := Int.lt_tmod_of_pos a.kd (show (0 : Int) < 200 by omega)
  have r200c := Int.tmod_lt_of_pos a.kd (show (0 : Int) < 200 by omega)
  rw [hr200] at r200b r200c
  have e200 : (r200 + 200).tmod 200 = (r200 + 200) % 200 := Int.tmod_eq_emod_of_nonneg (by omega)
  obtain ⟨n200, hn200⟩ : ∃ n : Nat, r200 % 200 = (n : Int) := ⟨(r200 % 200).toNat, by omega⟩
  obtain ⟨r9, hr9⟩ : ∃ r, a.pid.tmod 9 = r := ⟨_, rfl⟩
  have r9b := Int.lt_tmod_of_pos a.pid (show (0 : Int) < 9 by omega)
  have r9c := Int.tmod_lt_of_pos a.pid (show (0 : Int) < 9 by omega)
  rw [hr9] at r9b r9c
  have e9 : (r9 + 9).tmod 9 = (r9 + 9) % 9 := Int.tmod_eq_emod_of_nonneg (by omega)
  obtain ⟨n9, hn9⟩ : ∃ n : Nat, r9 % 9 = (n : Int) := ⟨(r9 % 9).toNat, by omega⟩
  have w3 : 1 + wrp a.kd 3 = (n3 : Int) := by unfold wrp; rw [hr3, e3, ← hn3]; omega
  have w200 : wrp a.kd 200 = (n200 : Int) := by unfold wrp; rw [hr200, e200, ← hn200]; omega
  have w9 : wrp a.pid 9 = (n9 : Int) := by unfold wrp; rw [hr9, e9, ← hn9]; omega
  have W200 := hid w200
  have W9 := hid w9
  have W3 := hid w3
  clear w3 w200 w9
  go_wp2
  generalize a.s.extract 0 (min 100 a.s.size) = xs at *
  go_loopw [22] (fun kv wr => ∃ k : Nat, k ≤ n3 ∧ kv = .int .i64 (k : Int) ∧ St w0 wr (objP ab a.cells 46 :: txP x d t N log cnt E arm S (X.chgTo cnt a k).T (X.chgTo cnt a k).tk (X.chgTo cnt a k).mark sp :: ps)) (fun kv _ => n3 - (intOf kv).toNat)
  case atStart => exact ⟨0, Nat.zero_le _, rfl, H0.out⟩
  case round =>
    obtain ⟨k, hk, rfl, hM⟩ := hrel
    clear H0
    have HH := hid hM
    clear hM
    have d0 := (HH.out.obj 0 rfl).cell 0
    have d1 := (HH.out.obj 0 rfl).cell 1
    have d2 := (HH.out.obj 0 rfl).cell 2
    simp only [ActD.cells, List.getElem?_cons_succ, List.getElem?_cons_zero] at d0 d1 d2
    by_cases hlt : k < n3
    · have hl1 : (k : Int) < (n3 : Int) := by omega
      have hal := tp_alloc hh (HH.out.pull 1 rfl)
      clear d0 d1 d2
      obtain ⟨Z, hZ⟩ : ∃ Z, Hid (X.chgTo cnt a k = Z) := ⟨_, hid rfl⟩
      rw [hZ.out] at hal HH
      have hA : (Z.T.alloc cnt).2.1 = 0 ∨ (Z.T.alloc cnt).2.1 = 7 := by
        unfold PSt.alloc
        split
        · split
          · exact .inr rfl
          · exact .inl rfl
        · exact .inl rfl
      have hn3b : (n3 : Int) ≤ 3 := by omega
      have hn9b : (n9 : Int) < 9 := by omega
      have hn9c : n9 < 9 := by omega
      clear hr3 r3b r3c e3 hn3 hM1 hM2 hM3
      obtain ⟨o, ho⟩ : ∃ o : Nat, ((n9 : Int) + (k : Int)).tmod 9 = (o : Int) := ⟨(n9 + k) % 9, by rw [Int.tmod_eq_emod_of_nonneg (by omega)]; omega⟩
      have ho9 : o < 9 := by rw [Int.tmod_eq_emod_of_nonneg (by omega)] at ho; omega
      have g1 := txP_pa (HH.out.pull 1 rfl)
      obtain ⟨pa, ea, Ta, hpe⟩ : ∃ p e T, Hid (Z.T.alloc cnt = (p, e, T)) := ⟨(Z.T.alloc cnt).1, (Z.T.alloc cnt).2.1, (Z.T.alloc cnt).2.2, hid rfl⟩
      rw [hpe.out] at hal hA g1
      simp only [] at hal hA g1
      rcases hA with rfl | rfl
      · simp only [if_true] at hal
        obtain ⟨nk, hnk⟩ : ∃ n : Nat, 1 + (n200 : Int) = (n : Int) := ⟨1 + n200, by omega⟩
        have g3 : (1 : Int) + (o : Int) < 9223372036854775808 := by omega
        obtain ⟨rk, hrk⟩ : ∃ r, a.kind.tmod 3 = r := ⟨_, rfl⟩
        by_cases hk0 : rk = 0
        · have hk1 : (rk == 0) = true := by simpa using hk0
          go_wp2_with (first
            | (go_at_call 21; refine hal.mono ?_; rintro e w2 ⟨rfl, H2⟩; have H2 := hid (H2.pull 1 rfl); have d2 : w2.cell? _ = _ := (H2.out.obj 0 rfl).cell 2; simp only [ActD.cells, List.getElem?_cons_succ, List.getElem?_cons_zero] at d2; have hwr := tp_write hh (H2.out.pull 1 rfl) (pa : Int) (nk : Int) (by omega) xs)
            | (go_at_call 22; refine hwr.mono ?_; rintro e w3 ⟨rfl, H3⟩; have H3 := hid (H3.pull 1 rfl); clear hwr; have d0 : w3.cell? _ = _ := (H3.out.obj 0 rfl).cell 0; have d1 : w3.cell? _ = _ := (H3.out.obj 0 rfl).cell 1; simp only [ActD.cells, List.getElem?_cons_succ, List.getElem?_cons_zero] at d0 d1; have hop := tp_free hh (H3.out.pull 1 rfl) (1 + (o : Int)) (by omega))
            | (go_at_call 28; refine hop.mono ?_; rintro e w4 ⟨rfl, H4⟩; have H4 := hid (H4.pull 1 rfl)))
          go_roundw
          case rel =>
            refine ⟨k + 1, by omega, by go_num, ?_⟩
            have ea := hxl.out.symm
            have eo : othK a k = 1 + (o : Int) := by unfold othK; rw [W9.out, ho]
            have ek : 1 + wrp a.kd 200 = (nk : Int) := by rw [W200.out, hnk]
            have H5 := H4.out
            rw [show X.chgTo cnt a (k + 1) = Z.chg1 cnt a k by rw [TS.chgTo, hZ.out]]
            unfold TS.chg1 TS.alloc TS.free TS.write actS
            rw [hpe.out, ea, hrk, ek, eo]
            try simp only [ba_size] at H5
            simp only [if_true, if_pos hk0]
            exact H5
          case measure => first | (simp [intOf]; done) | (simp [intOf]; omega)
        · have hk1 : (rk == 0) = false := by simpa using hk0
          have hcat : xs.size + (⟨#[120]⟩ : ByteArray).size ≤ 9223372036854775807 := by have h1 := hxsz.out; have h2 : (⟨#[120]⟩ : ByteArray).size = 1 := rfl; omega
          go_wp2_with (first
            | (go_at_call 21; refine hal.mono ?_; rintro e w2 ⟨rfl, H2⟩; have H2 := hid (H2.pull 1 rfl); have d2 : w2.cell? _ = _ := (H2.out.obj 0 rfl).cell 2; simp only [ActD.cells, List.getElem?_cons_succ, List.getElem?_cons_zero] at d2; have hwr := tp_write hh (H2.out.pull 1 rfl) (pa : Int) (nk : Int) (by omega) xs)
            | (go_at_call 22; refine hwr.mono ?_; rintro e w3 ⟨rfl, H3⟩; have H3 := hid (H3.pull 1 rfl); clear hwr; have d0 : w3.cell? _ = _ := (H3.out.obj 0 rfl).cell 0; have d1 : w3.cell? _ = _ := (H3.out.obj 0 rfl).cell 1; simp only [ActD.cells, List.getElem?_cons_succ, List.getElem?_cons_zero] at d0 d1; have hop := tp_write hh (H3.out.pull 1 rfl) (1 + (o : Int)) 7 (by omega) (xs ++ ⟨#[120]⟩))
            | (go_at_call 22; refine hop.mono ?_; rintro e w4 ⟨rfl, H4⟩; have H4 := hid (H4.pull 1 rfl)))
          go_roundw
          case rel =>
            refine ⟨k + 1, by omega, by go_num, ?_⟩
            have ea := hxl.out.symm
            have eo : othK a k = 1 + (o : Int) := by unfold othK; rw [W9.out, ho]
            have ek : 1 + wrp a.kd 200 = (nk : Int) := by rw [W200.out, hnk]
            have H5 := H4.out
            rw [show X.chgTo cnt a (k + 1) = Z.chg1 cnt a k by rw [TS.chgTo, hZ.out]]
            unfold TS.chg1 TS.alloc TS.free TS.write actS
            rw [hpe.out, ea, hrk, ek, eo]
            simp only [ba_size, cat120] at H5
            simp only [if_true, if_neg hk0]
            exact H5
          case measure => first | (simp [intOf]; done) | (simp [intOf]; omega)
      · simp only [show ((7 : Int) = 0) = False by simp, if_false] at hal
        have g3 : (1 : Int) + (o : Int) < 9223372036854775808 := by omega
        obtain ⟨rk, hrk⟩ : ∃ r, a.kind.tmod 3 = r := ⟨_, rfl⟩
        by_cases hk0 : rk = 0
        · have hk1 : (rk == 0) = true := by simpa using hk0
          go_wp2_with (first
            | (go_at_call 21; refine hal.mono ?_; rintro e w3 ⟨rfl, H3⟩; have H3 := hid (H3.pull 1 rfl); have d0 : w3.cell? _ = _ := (H3.out.obj 0 rfl).cell 0; have d1 : w3.cell? _ = _ := (H3.out.obj 0 rfl).cell 1; simp only [ActD.cells, List.getElem?_cons_succ, List.getElem?_cons_zero] at d0 d1; have hop := tp_free hh (H3.out.pull 1 rfl) (1 + (o : Int)) (by omega))
            | (go_at_call 28; refine hop.mono ?_; rintro e w4 ⟨rfl, H4⟩; have H4 := hid (H4.pull 1 rfl)))
          go_roundw
          case rel =>
            refine ⟨k + 1, by omega, by go_num, ?_⟩
            have ea := hxl.out.symm
            have eo : othK a k = 1 + (o : Int) := by unfold othK; rw [W9.out, ho]
            have H5 := H4.out
            rw [show X.chgTo cnt a (k + 1) = Z.chg1 cnt a k by rw [TS.chgTo, hZ.out]]
            unfold TS.chg1 TS.alloc TS.free TS.write actS
            rw [hpe.out, ea, hrk, eo]
            try simp only [ba_size] at H5
            simp only [if_true, if_pos hk0, show ((7 : Int) = 0) = False by simp, if_false]
            exact H5
          case measure => first | (simp [intOf]; done) | (simp [intOf]; omega)
        · have hk1 : (rk == 0) = false := by simpa using hk0
          have hcat : xs.size + (⟨#[120]⟩ : ByteArray).size ≤ 9223372036854775807 := by have h1 := hxsz.out; have h2 : (⟨#[120]⟩ : ByteArray).size = 1 := rfl; omega
          go_wp2_with (first
            | (go_at_call 21; refine hal.mono ?_; rintro e w3 ⟨rfl, H3⟩; have H3 := hid (H3.pull 1 rfl); have d0 : w3.cell? _ = _ := (H3.out.obj 0 rfl).cell 0; have d1 : w3.cell? _ = _ := (H3.out.obj 0 rfl).cell 1; simp only [ActD.cells, List.getElem?_cons_succ, List.getElem?_cons_zero] at d0 d1; have hop := tp_write hh (H3.out.pull 1 rfl) (1 + (o : Int)) 7 (by omega) (xs ++ ⟨#[120]⟩))
            | (go_at_call 22; refine hop.mono ?_; rintro e w4 ⟨rfl, H4⟩; have H4 := hid (H4.pull 1 rfl)))
          go_roundw
          case rel =>
            refine ⟨k + 1, by omega, by go_num, ?_⟩
            have ea := hxl.out.symm
            have eo : othK a k = 1 + (o : Int) := by unfold othK; rw [W9.out, ho]
            have H5 := H4.out
            rw [show X.chgTo cnt a (k + 1) = Z.chg1 cnt a k by rw [TS.chgTo, hZ.out]]
            unfold TS.chg1 TS.alloc TS.free TS.write actS
            rw [hpe.out, ea, hrk, eo]
            simp only [ba_size, cat120] at H5
            simp only [if_true, if_neg hk0, show ((7 : Int) = 0) = False by simp, if_false]
            exact H5
          case measure => first | (simp [intOf]; done) | (simp [intOf]; omega)
    · have hl1 : ¬ (k : Int) < (n3 : Int) := by omega
      obtain rfl : k = n3 := by omega
      clear hlt
      obtain ⟨r4, hr4⟩ : ∃ r, a.pid.tmod 4 = r := ⟨_, rfl⟩
      have r4b := Int.lt_tmod_of_pos a.pid (show (0 : Int) < 4 by omega)
      have r4c := Int.tmod_lt_of_pos a.pid (show (0 : Int) < 4 by omega)
      rw [hr4] at r4b r4c
      have e4 : (r4 + 4).tmod 4 = (r4 + 4) % 4 := Int.tmod_eq_emod_of_nonneg (by omega)
      obtain ⟨n4, hn4⟩ : ∃ n : Nat, r4 % 4 = (n : Int) := ⟨(r4 % 4).toNat, by omega⟩
      obtain ⟨r100, hr100⟩ : ∃ r, a.kd.tmod 100 = r := ⟨_, rfl⟩
      have r100b := Int.lt_tmod_of_pos a.kd (show (0 : Int) < 100 by omega)
      have r100c := Int.tmod_lt_of_pos a.kd (show (0 : Int) < 100 by omega)
      rw [hr100] at r100b r100c
      have e100 : (r100 + 100).tmod 100 = (r100 + 100) % 100 := Int.tmod_eq_emod_of_nonneg (by omega)
      obtain ⟨n100, hn100⟩ : ∃ n : Nat, r100 % 100 = (n : Int) := ⟨(r100 % 100).toNat, by omega⟩
      have W4 := hid (show (wrp a.pid 4).toNat = n4 by unfold wrp; rw [hr4, e4]; omega)
      have W100 := hid (show (wrp a.kd 100).toNat = n100 by unfold wrp; rw [hr100, e100]; omega)
      have hsr := tp_setroot (HH.out.pull 1 rfl) n4 n100 (by omega) (by omega)
      clear hr3 r3b r3c e3 hr200 r200b r200c e200 hn200 hr9 r9b r9c e9 hn9 hn3 hM1 hM2 hM3
      go_wp2_with (go_at_call 30; refine hsr.mono ?_; rintro e w2 ⟨rfl, H2⟩)
      go_wp2
      go_end0
      refine ⟨rfl, ?_⟩
      rw [← hY.out]
      unfold TS.chg TS.root
      rw [W4.out, W100.out, W3.out, Int.toNat_natCast]
      exact (H2.pull 1 rfl).drop
end

end Go.Proofs.YtnffnpndnaofhaaGreatDoor

/- A state is built anew: pages, what comes free, roots. Plain Lean, no Go. -/
namespace Go.Proofs.YtnffnpndnaofhaaGreatDoor

def mkS (n : Nat) (f : Nat → Option Leaf) (fr : List Nat) : PSt := ⟨(List.range n).map f, fr, 0, 0, 0, 0⟩

theorem mkS_congr {n : Nat} {f g : Nat → Option Leaf} {fr : List Nat} (h : ∀ j, j < n → f j = g j) : mkS n f fr = mkS n g fr := by
  unfold mkS
  rw [List.map_congr_left (fun j hj => h j (List.mem_range.1 hj))]

theorem mkS_len {n : Nat} {f : Nat → Option Leaf} {fr : List Nat} : (mkS n f fr).pages.length = n := by simp [mkS]

theorem mkS_page {n : Nat} {f : Nat → Option Leaf} {fr : List Nat} {k : Nat} (h : k < n) : (mkS n f fr).pages[k]? = some (f k) := by
  simp [mkS, h]

theorem mkS_there {n : Nat} {f : Nat → Option Leaf} {fr : List Nat} {k : Nat} (h1 : 1 ≤ k) (h : k < n) (hf : f k ≠ none) : (mkS n f fr).there (k : Int) = 0 := by
  unfold PSt.there
  rw [mkS_len, if_neg (by omega), Int.toNat_natCast, mkS_page h, if_neg (by intro e; exact hf (Option.some.inj e))]

theorem range_set {α : Type} (n : Nat) (f : Nat → α) (k : Nat) (a : α) : ((List.range n).map f).set k a = (List.range n).map (fun j => if j = k then a else f j) := by
  apply List.ext_getElem?
  intro i
  rw [List.getElem?_set]
  by_cases hi : i < n
  · by_cases e : k = i
    · subst e
      simp [hi]
    · have e' : ¬ i = k := fun h => e h.symm
      simp [hi, e, e']
  · by_cases e : k = i
    · subst e
      simp [hi]
    · simp [hi, e]

theorem mkS_write {n : Nat} {f : Nat → Option Leaf} {fr : List Nat} (k : Nat) (p : Leaf) : (mkS n f fr).write k p = mkS n (fun j => if j = k then some p else f j) fr := by
  unfold PSt.write mkS
  simp only [range_set]

theorem mkS_free {n : Nat} {f : Nat → Option Leaf} {fr : List Nat} (k : Nat) : (mkS n f fr).free k = mkS n (fun j => if j = k then none else f j) (fr ++ [k]) := by
  unfold PSt.free mkS
  simp only [range_set]

theorem mkS_alloc {n cnt : Nat} {f : Nat → Option Leaf} (h : n < cnt) : (mkS n f []).alloc cnt = (n, 0, mkS (n + 1) (fun j => if j = n then some (1, []) else f j) []) := by
  unfold PSt.alloc
  rw [if_pos (by rfl), mkS_len, if_neg (by omega)]
  unfold PSt.grow mkS
  simp only [List.range_succ, List.map_append, List.map_cons, List.map_nil, if_true]
  rw [List.map_congr_left (f := fun j => if j = n then some (1, []) else f j) (g := f) (fun j hj => if_neg (by have := List.mem_range.1 hj; omega))]

theorem mkS_new : PSt.new = mkS 1 (fun _ => some (0, [])) [] := rfl

/-- What is written to page j. -/
def fillL (S : PSt) (j : Nat) : Leaf := match S.pages[j]? with | some (some p) => p | _ => (1, [])

/-- Pages were allocated. -/
def seedS (n : Nat) : PSt := mkS n (fun j => if j = 0 then some (0, []) else some (1, [])) []
/-- Those ahead of page k are written. -/
def wrS (S : PSt) (n k : Nat) : PSt := mkS n (fun j => if j = 0 then some (0, []) else if j < k then some (fillL S j) else some (1, [])) []
/-- The first k that came free are free. -/
def frS (S : PSt) (n k : Nat) : PSt := mkS n (fun j => if j ∈ S.freed.take k then none else if j = 0 then some (0, []) else some (fillL S j)) (S.freed.take k)
/-- The first k roots are set. -/
def rtS (S T : PSt) (k : Nat) : PSt := ⟨T.pages, T.freed, if 0 < k then S.r0 else T.r0, if 1 < k then S.r1 else T.r1, if 2 < k then S.r2 else T.r2, if 3 < k then S.r3 else T.r3⟩

theorem seed_one : PSt.new = seedS 1 := by
  rw [mkS_new]
  exact mkS_congr (fun j hj => by rw [if_pos (by omega)])

theorem seed_alloc {n cnt : Nat} (h1 : 1 ≤ n) (h : n < cnt) : (seedS n).alloc cnt = (n, 0, seedS (n + 1)) := by
  unfold seedS
  rw [mkS_alloc h]
  have e : mkS (n + 1) (fun j => if j = n then some (1, []) else if j = 0 then some (0, []) else some (1, [])) [] = mkS (n + 1) (fun j => if j = 0 then some (0, []) else some (1, [])) [] :=
    mkS_congr (fun j _ => by
      by_cases e : j = n
      · rw [if_pos e, if_neg (by omega)]
      · rw [if_neg e])
  rw [e]

theorem wr_one (S : PSt) (n : Nat) : seedS n = wrS S n 1 :=
  mkS_congr (fun j _ => by
    by_cases e : j = 0
    · rw [if_pos e, if_pos e]
    · rw [if_neg e, if_neg e, if_neg (by omega)])

theorem wr_write (S : PSt) (n : Nat) {k : Nat} (h1 : 1 ≤ k) : (wrS S n k).write k (fillL S k) = wrS S n (k + 1) := by
  unfold wrS
  rw [mkS_write]
  refine mkS_congr (fun j _ => ?_)
  by_cases e : j = k
  · subst e
    rw [if_pos rfl, if_neg (by omega), if_pos (by omega)]
  · rw [if_neg e]
    by_cases e0 : j = 0
    · rw [if_pos e0, if_pos e0]
    · rw [if_neg e0, if_neg e0]
      by_cases e1 : j < k
      · rw [if_pos e1, if_pos (by omega)]
      · rw [if_neg e1, if_neg (by omega)]

theorem fr_zero (S : PSt) (n : Nat) : wrS S n n = frS S n 0 := by
  unfold wrS frS
  rw [List.take_zero]
  refine mkS_congr (fun j hj => ?_)
  rw [if_neg (by simp : ¬ j ∈ ([] : List Nat)), if_pos hj]

theorem fr_free (S : PSt) (n : Nat) {k a : Nat} (ha : S.freed[k]? = some a) : (frS S n k).free a = frS S n (k + 1) := by
  unfold frS
  rw [mkS_free]
  have e : S.freed.take (k + 1) = S.freed.take k ++ [a] := by rw [List.take_add_one, ha]; rfl
  rw [e]
  refine mkS_congr (fun j _ => ?_)
  by_cases e : j = a
  · rw [if_pos e, if_pos (show j ∈ S.freed.take k ++ [a] by simp [e])]
  · rw [if_neg e]
    by_cases e2 : j ∈ S.freed.take k
    · rw [if_pos e2, if_pos (show j ∈ S.freed.take k ++ [a] by simp [e2])]
    · rw [if_neg e2, if_neg (show ¬ j ∈ S.freed.take k ++ [a] by simp [e, e2])]

theorem fr_there (S : PSt) (n : Nat) {k a : Nat} (hn : S.freed.Nodup) (ha : S.freed[k]? = some a) (h1 : 1 ≤ a) (h : a < n) : (frS S n k).there (a : Int) = 0 := by
  refine mkS_there h1 h ?_
  have hni : a ∉ S.freed.take k := by
    intro hm
    obtain ⟨i, hi⟩ := List.mem_iff_getElem?.1 hm
    rw [List.getElem?_take] at hi
    split at hi
    · rename_i hik
      have := (List.getElem?_inj (List.getElem?_eq_some_iff.1 hi).1 hn).1 (hi.trans ha.symm)
      omega
    · cases hi
  show (if a ∈ S.freed.take k then none else if a = 0 then some (0, []) else some (fillL S a)) ≠ none
  rw [if_neg hni]
  split <;> simp

theorem fr_all {m : Meta} {v : Nat → Leaf} {cnt : Nat} (S : PSt) (V : Views m v S cnt) : rtS S (frS S S.pages.length S.freed.length) 4 = S := by
  refine pst_eq ?_ ?_ ?_ ?_ ?_ ?_
  · apply List.ext_getElem?
    intro j
    simp only [rtS, frS]
    by_cases hj : j < S.pages.length
    · rw [mkS_page hj, List.take_length]
      obtain ⟨o, ho⟩ : ∃ o, S.pages[j]? = some o := ⟨_, List.getElem?_eq_getElem hj⟩
      by_cases hf : j ∈ S.freed
      · rw [if_pos hf, (V.free j).2 hf]
      · rw [if_neg hf]
        by_cases h0 : j = 0
        · rw [if_pos h0, h0, V.zero]
        · rw [if_neg h0]
          cases o with
          | none => exact absurd ((V.free j).1 ho) hf
          | some p => simp only [fillL]; rw [ho]
    · rw [List.getElem?_eq_none (by rw [mkS_len]; omega), List.getElem?_eq_none (by omega)]
  · simp only [rtS, frS, mkS, List.take_length]
  · simp [rtS]
  · simp [rtS]
  · simp [rtS]
  · simp [rtS]

theorem rt_zero (S T : PSt) : T = rtS S T 0 := by simp [rtS]

theorem rt_set (S T : PSt) {k : Nat} (h : k < 4) : (rtS S T k).setRoot k (S.root k) = rtS S T (k + 1) := by
  obtain rfl | rfl | rfl | rfl : k = 0 ∨ k = 1 ∨ k = 2 ∨ k = 3 := by omega
  · simp [rtS, PSt.setRoot, PSt.root]
  · simp [rtS, PSt.setRoot, PSt.root]
  · simp [rtS, PSt.setRoot, PSt.root]
  · simp [rtS, PSt.setRoot, PSt.root]

/-! ## What a transaction changes hangs on what is there alone -/

theorem chg1_T (X Y : TS) (h : X.T = Y.T) (cnt : Nat) (a : ActD) (k : Nat) : (X.chg1 cnt a k).T = (Y.chg1 cnt a k).T := by
  unfold TS.chg1 TS.alloc TS.write TS.free
  simp only [h]
  split <;> split <;> rfl

theorem chgTo_T (X Y : TS) (h : X.T = Y.T) (cnt : Nat) (a : ActD) : ∀ k, (X.chgTo cnt a k).T = (Y.chgTo cnt a k).T
  | 0 => h
  | k + 1 => chg1_T _ _ (chgTo_T X Y h cnt a k) cnt a k

theorem chg_T (X Y : TS) (h : X.T = Y.T) (cnt : Nat) (a : ActD) : (X.chg cnt a).T = (Y.chg cnt a).T := by
  unfold TS.chg TS.root
  simp only [chgTo_T X Y h cnt a]

/-- The free ones, by their numbers. -/
def frees (S : PSt) (k : Nat) : List Nat := (List.range k).filter fun j => decide (S.pages[j]? = some none)

theorem frees_len {m : Meta} {v : Nat → Leaf} {cnt : Nat} {S : PSt} (V : Views m v S cnt) : (frees S S.pages.length).length = S.freed.length := by
  refine List.Perm.length_eq ((List.perm_ext_iff_of_nodup (List.nodup_range.filter _) V.nodup).2 (fun j => ?_))
  rw [List.mem_filter, decide_eq_true_eq, V.free j, List.mem_range]
  exact ⟨fun h => h.2, fun h => ⟨(V.mem h).2, h⟩⟩

theorem frees_free {S : PSt} {k : Nat} (h : S.pages[k]? = some none) : frees S (k + 1) = frees S k ++ [k] := by
  unfold frees
  rw [List.range_succ, List.filter_append]
  simp [h]

theorem frees_not {S : PSt} {k : Nat} (h : S.pages[k]? ≠ some none) : frees S (k + 1) = frees S k := by
  unfold frees
  rw [List.range_succ, List.filter_append]
  simp [h]

end Go.Proofs.YtnffnpndnaofhaaGreatDoor

/- The document's database with a transaction: what its calls that read come to, and Write, SetRoot; conditions stand in the theorems. -/
namespace Go.Proofs.YtnffnpndnaofhaaGreatDoor
open Go.RowKit
set_option maxRecDepth 100000

/-- A whole element of an owned slice is written. -/
theorem wpL_row {P : Program} {ops : Array Oper} {rest : List Oper} {o : Oper} {a : Act} {w w0 : World} {ps : List HP} {Q : Exit → Act → World → Prop} (hgd : o.guard = none) (ty : TypeId) (x y : Operand) (ho : o.op = .store ty x y)
    (i : Nat) {g n cap sz : Nat} {E : TypeId} {xs : List Value} (h : ps[i]? = some (slP (.slice (some ⟨g, 0, none⟩) n cap) E sz n xs)) (H : St w0 w ps) (k : Nat) (hk : k < n) (hx : a.eval x = .pointer (some ⟨g, k * sz, none⟩)) (vs : List Value) (hy : a.eval y = .agg vs.toArray)
    (hs : (P.info? ty).map (·.size) = some sz) (hn : vs.length = sz) (h1 : ∀ v ∈ vs, v.oneCell' = true)
    (hq : ∀ w', St w0 w' (ps.set i (slP (.slice (some ⟨g, 0, none⟩) n cap) E sz n (splice xs (k * sz) vs))) → wpList P ops Q rest (a.put o.dst undef) w') : wpList P ops Q (o :: rest) a w := by
  have hS := H.sl i h
  obtain ⟨hl, hS2⟩ := hS
  rcases hS2 with ⟨e, -⟩ | ⟨g', cap', cur, e, hg, hnc, hcm, hcs, ht⟩
  · cases e
  · simp only [Value.slice.injEq, Option.some.injEq, Addr.mk.injEq, and_true, true_and] at e
    obtain ⟨rfl, rfl⟩ := e
    have hfit : k * sz + sz ≤ n * sz := by
      have := Nat.mul_le_mul_right sz (show k + 1 ≤ n from hk)
      rw [Nat.add_mul, Nat.one_mul] at this
      exact this
    have hcap : n * sz ≤ cap * sz := Nat.mul_le_mul_right sz hnc
    refine wpL_store hgd ty x y ho g (k * sz) sz hx vs hy cur E hg hs hn (by omega) h1 ?_
    intro w' A' P' S'
    refine hq w' (H.grow i h (n' := n) ⟨?_, .inr ⟨g, cap, _, rfl, A', hnc, hcm, ?_, ?_⟩⟩ (by simpa [fpv] using P') (by simp [fpv]))
    · unfold splice
      simp only [List.length_append, List.length_take, List.length_drop]
      omega
    · unfold splice
      simp only [List.length_append, List.length_take, List.length_drop]
      omega
    · rw [← ht]
      unfold splice
      have e1 : (cur.take (n * sz)).take (k * sz) = cur.take (k * sz) := by rw [List.take_take, Nat.min_eq_left (by omega)]
      have e2 : (cur.take (n * sz)).drop (k * sz + vs.length) = (cur.drop (k * sz + vs.length)).take (n * sz - (k * sz + vs.length)) := by rw [List.drop_take]
      rw [e1, e2, List.take_append, List.take_append]
      have l1 : (cur.take (k * sz)).length = k * sz := by rw [List.length_take]; omega
      have t1 : (cur.take (k * sz)).take (n * sz) = cur.take (k * sz) := List.take_of_length_le (by rw [l1]; omega)
      have t2 : vs.take (n * sz - k * sz) = vs := List.take_of_length_le (by omega)
      rw [l1, hn, t1, t2, Nat.sub_sub]

section
variable {w0 w : World} {ps : List HP} {r cnt log : Nat} {S T : PSt} {tk : Nat → Bool} {mk sp : Bool}

theorem there_ge {T : PSt} {id : Int} (h : (T.pages.length : Int) ≤ id) : T.there id = 2 := by
  unfold PSt.there
  rw [if_pos (.inr h)]

theorem there_lt {T : PSt} {id : Int} (h : id < 1) : T.there id = 2 := by
  unfold PSt.there
  rw [if_pos (.inl h)]

theorem rf_there (H : St w0 w (rfoP r cnt log S T tk mk sp :: ps)) (id : Int) (hp : T.pages.length ≤ 1000000) :
    Calls Tryz.prog 100 #[.pointer (some ⟨r, 0, none⟩), .int .i64 id] w fun e w' => e = .returned (.int .i64 (T.there id)) ∧ w = w' := by
  obtain ⟨v, -, -, H1⟩ := rfoP_open H
  obtain ⟨at', ct, et, -, -⟩ := (H1.sl 2 rfl).shape
  have c5 : w.cell? ⟨r, 5, none⟩ = some (.bool true) := (H1.obj 0 rfl).cell 5
  have c6 : w.cell? ⟨r, 6, none⟩ = some (.slice at' T.pages.length ct) := by rw [← et]; exact (H1.obj 0 rfl).cell 6
  have hsl := H1.sl 2 rfl
  rw [et] at hsl
  have HS := hid hsl
  obtain ⟨L, hL⟩ : ∃ L, Hid (T.pages.length = L) := ⟨_, hid rfl⟩
  have hp := hp
  rw [hL.out] at c6 hp
  clear H1 H hsl et
  by_cases h1 : id < 1
  · rw [there_lt h1]
    go_enter Tryz.func100, Tryz.ntmps100
    go_wp2
    go_ret
    exact ⟨rfl, rfl⟩
  · by_cases h2 : (L : Int) ≤ id
    · rw [there_ge (by rw [hL.out]; exact h2)]
      have h3 : decide (id < 1) = false := by simpa using h1
      clear h1
      go_enter Tryz.func100, Tryz.ntmps100
      go_wp2
      go_ret
      exact ⟨rfl, rfl⟩
    · obtain ⟨k, rfl⟩ : ∃ k : Nat, id = (k : Int) := ⟨id.toNat, by omega⟩
      have hk1 : 1 ≤ k := by omega
      have hkL : k < L := by omega
      have h3 : decide ((k : Int) < 1) = false := by simp; omega
      have h4 : decide ((L : Int) ≤ (k : Int)) = false := by simp; omega
      have hkL2 : (k : Int) < (L : Int) := by omega
      obtain ⟨o, ho⟩ : ∃ o, T.pages[k]? = some o := ⟨_, List.getElem?_eq_getElem (by rw [hL.out]; exact hkL)⟩
      have hsl := HS.out
      obtain ⟨g, cap, cur, hg, -⟩ := hsl.get (by rw [hL.out]; omega)
      simp only [Value.slice.injEq] at hg
      obtain ⟨rfl, -, rfl⟩ := hg
      have hcs := pages_cell hsl ho
      clear h1 h2 hsl HS
      cases o with
      | none =>
        have c2 : w.cell? ⟨g, k * 3 + 2, none⟩ = some (.bool true) := hcs 2 _ rfl
        rw [there_none hk1 ho]
        clear hcs ho
        go_enter Tryz.func100, Tryz.ntmps100
        go_wp2
        go_ret
        exact ⟨rfl, rfl⟩
      | some p =>
        have c2 : w.cell? ⟨g, k * 3 + 2, none⟩ = some (.bool false) := hcs 2 _ rfl
        rw [(there_some hk1 ho).1]
        clear hcs ho
        go_enter Tryz.func100, Tryz.ntmps100
        go_wp2
        go_ret
        exact ⟨rfl, rfl⟩

end
end Go.Proofs.YtnffnpndnaofhaaGreatDoor
