/- Parts of the proof: The document's database: Changed, Commit, Begin, New; conditions stand in the theorems. -/
import Derived.Test.YtnffnpndnaofhaaGreatDoorQbe
import Derived.Test.YtnffnpndnaofhaaGreatDoorQaz
import Derived.Test.YtnffnpndnaofhaaGreatDoorQbd

/- The document's database: Changed, Commit, Begin, New; conditions stand in the theorems. -/
namespace Go.Proofs.YtnffnpndnaofhaaGreatDoor
open Go.RowKit
set_option maxRecDepth 100000

theorem count_more {tk : Nat → Bool} {cnt : Nat} (h : ∀ k, tk k = true → k < cnt) : (List.range (cnt + 1)).countP tk = (List.range cnt).countP tk := by
  rw [List.range_succ, List.countP_append]
  have : tk cnt = false := by
    cases hq : tk cnt with
    | false => rfl
    | true => exact absurd (h cnt hq) (Nat.lt_irrefl _)
  simp [this]

theorem db_size : (Tryz.prog.info? 83).map (·.size) = some 12 := by kernel_rfl

theorem info_boolR : ∃ i, Tryz.prog.info? 4 = some i ∧ i.zero = some (.bool false) ∧ i.size = 1 ∧ i.bytes = 1 := by
  obtain ⟨i, h1, h2, h3, h4⟩ := info_parts (P := Tryz.prog) (show (Tryz.prog.info? 4).map (fun i => (i.zero, i.size, i.bytes)) = some (some (.bool false), 1, 1) by kernel_rfl)
  exact ⟨i, h1, h2, h3, h4⟩

section
variable {w0 w : World} {ps : List HP} {r cnt log : Nat} {S T : PSt} {tk : Nat → Bool} {mk sp : Bool}

set_option maxHeartbeats 4000000 in
theorem rf_changed (H : St w0 w (rfoP r cnt log S T tk mk sp :: ps)) (hp1 : 1 ≤ T.pages.length) (hc : cnt ≤ 8192) (htk : ∀ k, tk k = true → k < cnt) :
    Calls Tryz.prog 38 #[.pointer (some ⟨r, 0, none⟩)] w fun e w' => e = .returned (.int .i64 (changes tk mk cnt : Int)) ∧ w = w' := by
  obtain ⟨pv, fv, rv, ft, rt, g, cap, gt, ct, H1⟩ := rfo_parts hp1 H
  have c5 : w.cell? ⟨r, 5, none⟩ = some (.bool true) := (H1.obj 0 rfl).cell 5
  have c9 : w.cell? ⟨r, 9, none⟩ = some (.slice (some ⟨gt, 0, none⟩) (cnt + 1) ct) := (H1.obj 0 rfl).cell 9
  have c10 : w.cell? ⟨r, 10, none⟩ = some (.bool mk) := (H1.obj 0 rfl).cell 10
  have HC := hid (fun k (hk : k < cnt + 1) => (sl_cells (H1.sl 5 rfl) (tk_cell hk) : w.cell? ⟨gt, k, none⟩ = some (.bool (tk k))))
  have HT := hid (count_more htk)
  obtain ⟨C, hC⟩ : ∃ C, Hid (changes tk mk cnt = C) := ⟨_, hid rfl⟩
  rw [hC.out]
  clear H H1 hp1 htk
  go_enter Tryz.func38, Tryz.ntmps38
  go_wp2_with fail
  go_loopw [3, 4] (fun nv iv wr => ∃ k n : Nat, k ≤ cnt + 1 ∧ n ≤ k ∧ (List.range k).countP tk = n ∧ nv = .int .i64 (n : Int) ∧ iv = .int .i64 (k : Int) ∧ w = wr) (fun _ iv _ => cnt + 1 - (intOf iv).toNat)
  case atStart => exact ⟨0, 0, Nat.zero_le _, Nat.le_refl _, by simp, rfl, rfl, rfl⟩
  case round =>
    obtain ⟨k, n, hk, hn, hcn, rfl, rfl, rfl⟩ := hrel
    have HN := hid hcn
    clear hcn
    by_cases hlt : k < cnt + 1
    · have hl1 : (k : Int) < ((cnt : Int) + 1) := by omega
      have d0 := HC.out k hlt
      have hr : (List.range (k + 1)).countP tk = n + (if tk k then 1 else 0) := by
        rw [List.range_succ, List.countP_append, HN.out]
        simp
      have HR := hid hr
      clear hr
      cases hb : tk k with
      | true =>
        rw [hb] at d0
        have HBK := hid hb
        clear hb
        go_wp2_with fail
        go_roundw
        case rel =>
          refine ⟨k + 1, n + 1, by omega, by omega, ?_, by go_num, by go_num, by simp⟩
          rw [HR.out, HBK.out]
          rfl
        case measure => first | (simp [intOf]; done) | (simp [intOf]; omega)
      | false =>
        rw [hb] at d0
        have HBK := hid hb
        clear hb
        go_wp2_with fail
        go_roundw
        case rel =>
          refine ⟨k + 1, n, by omega, by omega, ?_, rfl, by go_num, by simp⟩
          rw [HR.out, HBK.out]
          rfl
        case measure => first | (simp [intOf]; done) | (simp [intOf]; omega)
    · obtain rfl : k = cnt + 1 := by omega
      have hn2 : (List.range cnt).countP tk = n := by rw [← HT.out]; exact HN.out
      have hl1 : ¬ ((cnt + 1 : Nat) : Int) < ((cnt : Int) + 1) := by omega
      cases mk with
      | true =>
        obtain rfl : C = n + 1 := by rw [← hC.out]; unfold changes; rw [hn2]; rfl
        clear hn2 hC
        go_wp2_with fail
        go_ret
        exact ⟨by first | rfl | go_num, by simp⟩
      | false =>
        obtain rfl : C = n := by rw [← hC.out]; unfold changes; rw [hn2]; rfl
        clear hn2 hC
        go_wp2_with fail
        go_ret
        exact ⟨by first | rfl | go_num, by simp⟩

theorem changes_le {tk : Nat → Bool} {mk : Bool} {cnt : Nat} : changes tk mk cnt ≤ cnt + 1 := by
  unfold changes
  have := List.countP_le_length (p := tk) (l := List.range cnt)
  rw [List.length_range] at this
  split <;> omega

set_option maxHeartbeats 4000000 in
theorem rf_commit (hp1 : 1 ≤ T.pages.length) (hl1 : 1 ≤ log) (hl2 : log ≤ 100000) (hc : cnt ≤ 8192) (htk : ∀ k, tk k = true → k < cnt) (H : St w0 w (rfoP r cnt log S T tk mk sp :: ps)) :
    Calls Tryz.prog 72 #[.pointer (some ⟨r, 0, none⟩)] w fun e w' => e = .returned (.int .i64 (commitE log sp (changes tk mk cnt))) ∧
      St w0 w' (rfP r cnt log (if commitE log sp (changes tk mk cnt) = 0 then T else S) :: ps) := by
  have hch := rf_changed H hp1 hc htk
  obtain ⟨pv, fv, rv, ft, rt, g, cap, gt, ct, H1⟩ := rfo_parts hp1 H
  have H1 := hid H1
  have c5 : w.cell? ⟨r, 5, none⟩ = some (.bool true) := (H1.out.obj 0 rfl).cell 5
  have f5 := (H1.out.obj 0 rfl).frozen 5
  have l0 := (H1.out.obj 0 rfl).lt
  have H2 := hid (H1.out.set 0 rfl 5 (.bool false))
  obtain ⟨K, hK⟩ : ∃ K, Hid (changes tk mk cnt = K) := ⟨_, hid rfl⟩
  have hK8 : K ≤ 8193 := by rw [← hK.out]; exact Nat.le_trans changes_le (by omega)
  rw [hK.out] at hch ⊢
  obtain ⟨E2, hE2⟩ : ∃ E2, Hid (commitE log sp K = E2) := ⟨_, hid rfl⟩
  rw [hE2.out]
  obtain ⟨S2, hS2⟩ : ∃ S2, Hid ((if E2 = 0 then T else S) = S2) := ⟨_, hid rfl⟩
  rw [hS2.out]
  clear H hp1 htk
  go_enter Tryz.func72, Tryz.ntmps72
  go_upto_region 5 with (go_at_call 38; refine hch.mono ?_; rintro e w' ⟨rfl, rfl⟩)
  generalize (w.setCell _ _) = w2 at *
  clear c5 f5 l0 hch H1
  have c11 : w2.cell? ⟨r, 11, none⟩ = some (.bool sp) := (H2.out.obj 0 rfl).cell 11
  have c1 : w2.cell? ⟨r, 1, none⟩ = some (.int .i64 (log : Int)) := (H2.out.obj 0 rfl).cell 1
  have hold : St w0 w2 (rfP r cnt log S :: ps) := rfP_mk ⟨pv, fv, rv, .slice (some ⟨g, 0, none⟩) T.pages.length cap, ft, rt, .slice (some ⟨gt, 0, none⟩) (cnt + 1) ct, mk, sp⟩ ⟨_, _, _, rfl⟩ (((((H2.out.pull 2 rfl).drop.pull 2 rfl).drop.pull 2 rfl).drop.pull 2 rfl).drop)
  have HO := hid hold
  clear hold
  cases sp with
  | true =>
    obtain rfl : E2 = 9 := hE2.out.symm
    go_wp2
    go_ret
    refine ⟨rfl, ?_⟩
    rw [← hS2.out, if_neg (by decide)]
    exact HO.out
  | false =>
    have c6 : w2.cell? ⟨r, 6, none⟩ = some (.slice (some ⟨g, 0, none⟩) T.pages.length cap) := (H2.out.obj 0 rfl).cell 6
    have c7 : w2.cell? ⟨r, 7, none⟩ = some ft := (H2.out.obj 0 rfl).cell 7
    have c8 : w2.cell? ⟨r, 8, none⟩ = some rt := (H2.out.obj 0 rfl).cell 8
    have hone : Hid (∀ u ∈ [Value.slice (some ⟨g, 0, none⟩) T.pages.length cap, ft, rt], u.oneCell' = true) := hid (by
      obtain ⟨_, _, g1, -⟩ := (H2.out.sl 3 rfl).shape
      obtain ⟨_, _, g2, -⟩ := (H2.out.sl 4 rfl).shape
      rw [g1, g2]
      simp [Value.oneCell'])
    by_cases k0 : 0 < K
    · have k0i : (0 : Int) < (K : Int) := by omega
      by_cases k1 : 4 + 516 * K + 8 > 64 * (log - 1)
      · obtain rfl : E2 = 7 := by rw [← hE2.out]; unfold commitE; rw [if_neg (by simp), if_pos ⟨k0, .inr k1⟩]
        have k1i : (64 : Int) * ((log : Int) - 1) < 12 + 516 * (K : Int) := by omega
        clear c6 c7 c8
        go_wp2
        go_ret
        refine ⟨rfl, ?_⟩
        rw [← hS2.out, if_neg (by decide)]
        exact HO.out
      · have k1i : ¬ (64 : Int) * ((log : Int) - 1) < 12 + 516 * (K : Int) := by omega
        have k1d : decide ((64 : Int) * ((log : Int) - 1) < 12 + 516 * (K : Int)) = false := by simpa using k1i
        by_cases k2 : 4 + 516 * K > 65536
        · obtain rfl : E2 = 7 := by rw [← hE2.out]; unfold commitE; rw [if_neg (by simp), if_pos ⟨k0, .inl k2⟩]
          have k2i : (65536 : Int) < 4 + 516 * (K : Int) := by omega
          clear k1i c6 c7 c8
          go_wp2
          go_ret
          refine ⟨rfl, ?_⟩
          rw [← hS2.out, if_neg (by decide)]
          exact HO.out
        · obtain rfl : E2 = 0 := by rw [← hE2.out]; unfold commitE; rw [if_neg (by simp), if_neg (by omega)]
          have k2i : ¬ (65536 : Int) < 4 + 516 * (K : Int) := by omega
          have k2d : decide ((65536 : Int) < 4 + 516 * (K : Int)) = false := by simpa using k2i
          clear k1i k2i k0 k1 k2
          go_wp2_with ((with_reducible refine at_store ?_); refine wpL_store rfl 37 (.tmp 44) (.tmp 42) rfl r 2 3 rfl [_, _, _] rfl _ _ (H2.out.obj 0 rfl) state_size rfl (by simp [rfCells]) hone.out ?_; intro w3 A3 P3 S3; have H3 := hid (H2.out.put 0 rfl A3 P3))
          go_ret
          refine ⟨rfl, ?_⟩
          rw [← hS2.out]
          simp only [if_true]
          have h4 := ((H3.out.pull 1 rfl).drop.pull 4 rfl).drop
          have h5 := St.pack [_, _, _] ((h4.pull 3 rfl |>.pull 3 rfl |>.pull 3 rfl))
          exact rfP_mk ⟨.slice (some ⟨g, 0, none⟩) T.pages.length cap, ft, rt, .slice (some ⟨g, 0, none⟩) T.pages.length cap, ft, rt, .slice (some ⟨gt, 0, none⟩) (cnt + 1) ct, mk, false⟩ ⟨_, _, _, rfl⟩ (h5.pull 1 rfl)
    · obtain rfl : E2 = 0 := by rw [← hE2.out]; unfold commitE; rw [if_neg (by simp), if_neg (by omega)]
      have k0i : ¬ (0 : Int) < (K : Int) := by omega
      have k0d : decide ((0 : Int) < (K : Int)) = false := by simpa using k0i
      clear k0
      go_wp2_with ((with_reducible refine at_store ?_); refine wpL_store rfl 37 (.tmp 44) (.tmp 42) rfl r 2 3 rfl [_, _, _] rfl _ _ (H2.out.obj 0 rfl) state_size rfl (by simp [rfCells]) hone.out ?_; intro w3 A3 P3 S3; have H3 := hid (H2.out.put 0 rfl A3 P3))
      go_ret
      refine ⟨rfl, ?_⟩
      rw [← hS2.out]
      simp only [if_true]
      have h4 := ((H3.out.pull 1 rfl).drop.pull 4 rfl).drop
      have h5 := St.pack [_, _, _] ((h4.pull 3 rfl |>.pull 3 rfl |>.pull 3 rfl))
      exact rfP_mk ⟨.slice (some ⟨g, 0, none⟩) T.pages.length cap, ft, rt, .slice (some ⟨g, 0, none⟩) T.pages.length cap, ft, rt, .slice (some ⟨gt, 0, none⟩) (cnt + 1) ct, mk, false⟩ ⟨_, _, _, rfl⟩ (h5.pull 1 rfl)

theorem rf_begin_busy (H : St w0 w (rfoP r cnt log S T tk mk sp :: ps)) :
    Calls Tryz.prog 66 #[.pointer (some ⟨r, 0, none⟩)] w fun e w' => e = .returned (.int .i64 9) ∧ w = w' := by
  obtain ⟨v, -, -, H1⟩ := rfoP_open H
  have c5 : w.cell? ⟨r, 5, none⟩ = some (.bool true) := (H1.obj 0 rfl).cell 5
  clear H1 H
  go_enter Tryz.func66, Tryz.ntmps66
  go_wp2
  go_ret
  exact ⟨rfl, rfl⟩

set_option maxHeartbeats 4000000 in
theorem rf_begin (hp : S.pages.length ≤ 1000000) (hf : S.freed.length ≤ 1000000) (hc : cnt ≤ 8192) (H : St w0 w (rfP r cnt log S :: ps)) :
    Calls Tryz.prog 66 #[.pointer (some ⟨r, 0, none⟩)] w fun e w' => e = .returned (.int .i64 0) ∧ St w0 w' (rfoP r cnt log S S (fun _ => false) false false :: ps) := by
  obtain ⟨⟨pv, fv, rv, pt, ft, rt, tv, md, sp'⟩, -, H1⟩ := rfP_open H
  have H1 : St w0 w (objP r (rfCells cnt log false ⟨pv, fv, rv, pt, ft, rt, tv, md, sp'⟩) 83 :: statP pv fv rv S :: ps) := H1
  have c5 : w.cell? ⟨r, 5, none⟩ = some (.bool false) := (H1.obj 0 rfl).cell 5
  have f5 := (H1.obj 0 rfl).frozen 5
  have l0 := (H1.obj 0 rfl).lt
  have H2 := hid (H1.set 0 rfl 5 (.bool true))
  have HP := hid (And.intro hp hf)
  obtain ⟨ib, i1, i2, i3, i4⟩ := info_boolR
  have HI := hid (And.intro i1 (And.intro i2 (And.intro i3 i4)))
  clear i1 i2 i3 i4 H H1 hp hf
  go_enter Tryz.func66, Tryz.ntmps66
  go_upto_region 4 with fail
  generalize (w.setCell _ _) = w2 at *
  clear c5 f5 l0
  have c2 : w2.cell? ⟨r, 2, none⟩ = some pv := (H2.out.obj 0 rfl).cell 2
  have c3 : w2.cell? ⟨r, 3, none⟩ = some fv := (H2.out.obj 0 rfl).cell 3
  have c4 : w2.cell? ⟨r, 4, none⟩ = some rv := (H2.out.obj 0 rfl).cell 4
  have hcp := rf_copied HP.out.1 HP.out.2 (H2.out.pull 1 rfl)
  go_upto_region 5 with (first
    | (go_at_call 99; refine hcp.mono ?_; rintro e w3 ⟨pn, fn, rn, rfl, H3⟩; have H3 := hid H3; clear hcp; have hone : Hid (∀ u ∈ [pn, fn, rn], u.oneCell' = true) := hid (by
        obtain ⟨_, _, g0, -⟩ := (statP_read H3.out).pages.shape
        obtain ⟨_, _, g1, -⟩ := (statP_read H3.out).freed.shape
        obtain ⟨_, _, g2, -⟩ := (statP_read H3.out).roots.shape
        rw [g0, g1, g2]
        simp [Value.oneCell']))
    | ((with_reducible refine at_store ?_); refine wpL_store rfl 37 (.tmp 17) (.tmp 15) rfl r 6 3 rfl [_, _, _] rfl _ _ (H3.out.obj 2 rfl) state_size rfl (by simp [rfCells]) hone.out ?_; intro w4 A4 P4 S4; have H4 := hid (H3.out.put 2 rfl A4 P4)))
  clear H2 H3 c2 c3 c4 A4 P4 S4
  have H5 : St w0 w4 (statP pn fn rn S :: statP pv fv rv S :: objP r (rfCells cnt log true ⟨pv, fv, rv, pn, fn, rn, tv, md, sp'⟩) 83 :: ps) := H4.out
  have H5 := hid H5
  clear H4
  have c0 : w4.cell? ⟨r, 0, none⟩ = some (.int .i64 (cnt : Int)) := (H5.out.obj 2 rfl).cell 0
  have c9 : w4.cell? ⟨r, 9, none⟩ = some tv := (H5.out.obj 2 rfl).cell 9
  have l4 := (H5.out.obj 2 rfl).lt
  go_upto_region 6 with (((with_reducible refine at_mk ?_); refine wpL_make rfl 44 _ _ rfl 4 ib _ (.bool false) Tryz.underlying44 HI.out.1 HI.out.2.1 (by rw [HI.out.2.2.1]; rfl) (by rw [HI.out.2.2.1]; omega) (cnt + 1) rfl rfl (by rw [HI.out.2.2.2]; omega) (by omega) ?_; intro w5 A5 P5 S5; rw [HI.out.2.2.1] at A5; have H6 := hid (H5.out.made A5 P5); have f9 := (H6.out.obj 3 rfl).frozen 9; have c9' : w5.cell? ⟨r, 9, none⟩ = some tv := (H6.out.obj 3 rfl).cell 9; have l5 := (H6.out.obj 3 rfl).lt))
  have H7 := hid ((H6.out.set 3 rfl 9 (.slice (some ⟨w4.heap.size, 0, none⟩) (cnt + 1) (cnt + 1))).see (q := slP (.slice (some ⟨w4.heap.size, 0, none⟩) (cnt + 1) (cnt + 1)) 4 1 (cnt + 1) (tkCells cnt fun _ => false)) (by
    rintro fp ⟨rfl, hA⟩
    refine ⟨rfl, by simp [tkCells], .inr ⟨_, cnt + 1, _, rfl, hA, Nat.le_refl _, by simp only [maxLen]; omega, by simp, ?_⟩⟩
    simp [tkCells, List.map_const', List.take_of_length_le]))
  generalize (w5.setCell _ _) = w6 at *
  generalize w4.heap.size = tb at *
  clear c9' f9 l5 H6 A5 P5 S5 H5 l4 c0 c9
  have c10 : w6.cell? ⟨r, 10, none⟩ = some (.bool md) := (H7.out.obj 3 rfl).cell 10
  have c11 : w6.cell? ⟨r, 11, none⟩ = some (.bool sp') := (H7.out.obj 3 rfl).cell 11
  have f10 := (H7.out.obj 3 rfl).frozen 10
  have f11 := (H7.out.obj 3 rfl).frozen 11
  have l6 := (H7.out.obj 3 rfl).lt
  have H8 := hid ((H7.out.set 3 rfl 10 (.bool false)).set 3 rfl 11 (.bool false))
  clear H7
  go_wp2
  go_ret
  refine ⟨rfl, ?_⟩
  have h9 := (H8.out.pull 1 rfl).unpack
  exact rfoP_mk ⟨pv, fv, rv, pn, fn, rn, _, false, false⟩ ((h9.pull 4 rfl).pull 5 rfl)

set_option maxHeartbeats 4000000 in
theorem rf_new (H : St w0 w ps) (cnt log : Nat) :
    Calls Tryz.prog 65 #[.int .i64 (cnt : Int), .int .i64 (log : Int)] w fun e w' => ∃ r, e = .returned (.pointer (some ⟨r, 0, none⟩)) ∧ St w0 w' (rfP r cnt log PSt.new :: ps) := by
  have A2 := At.new w [.int .i64 0, .string ⟨#[]⟩, .bool false] 54
  have H2 := hid (H.slice (v := .slice (some ⟨w.heap.size, 0, none⟩) 1 1) (E := 54) (sz := 3) (n := 1) (xs := [.int .i64 0, .string ⟨#[]⟩, .bool false]) ⟨rfl, .inr ⟨_, 1, _, rfl, A2, Nat.le_refl _, by simp [maxLen], rfl, rfl⟩⟩ ((Pres.refl [] w).alloc _) (by simp [fpv]))
  clear H A2
  go_enter Tryz.func65, Tryz.ntmps65
  go_wp2_with ((with_reducible refine at_slit ?_); refine wpList_plain rfl fun K hK => wp_value (run_slit_one (n := 3) (v := .agg #[.int .i64 0, .string ⟨#[]⟩, .bool false]) rfl rfl Tryz.underlying34 page_size page_zero rfl (by omega) (by omega) rfl) (hK _ _ ?_); clear hK K)
  have h3 := (H2.out.alloc [numV 0, numV 0, numV 0, numV 0] 3).see (q := slP (.slice (some ⟨(w.alloc (.cells #[.int .i64 0, .string ⟨#[]⟩, .bool false] 54)).heap.size, 0, none⟩) 4 4) 3 1 4 [numV 0, numV 0, numV 0, numV 0]) (by
    rintro fp ⟨rfl, hA⟩
    exact ⟨rfl, rfl, .inr ⟨_, 4, _, rfl, hA, Nat.le_refl _, by simp [maxLen], rfl, rfl⟩⟩)
  have h4 := (((h3.nil 3 1).alloc (rfCells cnt log false ⟨.slice (some ⟨w.heap.size, 0, none⟩) 1 1, .slice none 0 0, .slice (some ⟨w.heap.size + 1, 0, none⟩) 4 4, .slice none 0 0, .slice none 0 0, .slice none 0 0, .slice none 0 0, false, false⟩) 83).pull 2 rfl).pull 2 rfl |>.pull 3 rfl
  rw [show (w.alloc (.cells #[.int .i64 0, .string ⟨#[]⟩, .bool false] 54)).heap.size = w.heap.size + 1 by simp] at h4
  simp only [List.eraseIdx] at h4
  have h5 := St.pack [_, _, _] h4
  go_ret
  refine ⟨_, rfl, ?_⟩
  have e : ((w.alloc (Obj.cells #[Value.int .i64 0, .string ⟨#[]⟩, .bool false] 54)).alloc (.cells [numV 0, numV 0, numV 0, numV 0].toArray 3)).heap.size = w.heap.size + 1 + 1 := by simp
  rw [e] at h5
  exact rfP_mk (S := PSt.new) ⟨_, _, _, _, _, _, _, false, false⟩ ⟨_, _, _, rfl⟩ (h5.pull 1 rfl)

end
end Go.Proofs.YtnffnpndnaofhaaGreatDoor

/- A database and the power: Arm, Down, Off, On, Checkpoint, in the document's words; conditions stand in the theorems. -/
namespace Go.Proofs.YtnffnpndnaofhaaGreatDoor
open Go.RowKit
set_option maxRecDepth 100000

theorem Up.arm {σ : Dk} {N : Nat} (u : Up σ N) (n : Int) : σ.arm n = (0, { σ with armed := decide (0 ≤ n), left := max n 0 }) := by
  unfold Dk.arm
  rw [u.down]
  rfl

theorem Up.armed {σ : Dk} {N : Nat} (u : Up σ N) {n : Int} (hn : n ≤ 9223372036854775807) : Up { σ with armed := decide (0 ≤ n), left := max n 0 } N := by
  have h := Dk.arm_ok u.ok hn
  rw [u.arm n] at h
  exact ⟨h, u.down, u.len⟩

section
variable {w0 w : World} {ps : List HP} {x d t N log cnt E : Nat} {arm : Bool} {S T : PSt}

theorem DbOk.armed {D : DbD} (h : DbOk N log cnt E arm S D) {n : Int} (hn : n ≤ 9223372036854775807) : DbOk N log cnt E (decide (0 ≤ n)) S { D with σ := { D.σ with armed := decide (0 ≤ n), left := max n 0 } } := by
  obtain ⟨rs, h1, h2⟩ := h.rest.lg
  exact ⟨⟨⟨h.rest.sh, h.rest.up.armed hn, ⟨rs, h1, h2⟩, h.rest.pages⟩, h.rest.room⟩, h.view, rfl⟩

theorem tp_arm {tk : Nat → Bool} {mk spoilt : Bool} (H : St w0 w (txP x d t N log cnt E arm S T tk mk spoilt :: ps)) (n : Int) (hb : n ≤ 9223372036854775807) :
    Calls Tryz.prog 32 #[.pointer (some ⟨d, 0, none⟩), .int .i64 n] w fun e w' => e = .returned (.int .i64 0) ∧ St w0 w' (txP x d t N log cnt E (decide (0 ≤ n)) S T tk mk spoilt :: ps) := by
  obtain ⟨X, h1, h2, HX⟩ := txP_open H
  have ha := sd_arm (HX.pull 2 rfl) n hb
  rw [h1.rest.up.arm] at ha
  refine ha.mono ?_
  rintro en w' ⟨rfl, H2⟩
  exact ⟨rfl, txP_mk { X with D := { X.D with σ := { X.D.σ with armed := decide (0 ≤ n), left := max n 0 } } } (h1.armed hb) ⟨h2.views, h2.seen, h2.ids, h2.clean, h2.none, h2.touch, h2.mark, h2.high, h2.nodup, h2.keys⟩ ((H2.pull 2 rfl).pull 2 rfl)⟩

theorem cold_arm (H : St w0 w (coldP d N log cnt E arm S :: ps)) (n : Int) (hb : n ≤ 9223372036854775807) :
    Calls Tryz.prog 32 #[.pointer (some ⟨d, 0, none⟩), .int .i64 n] w fun e w' => e = .returned (.int .i64 0) ∧ St w0 w' (coldP d N log cnt E (decide (0 ≤ n)) S :: ps) := by
  obtain ⟨σ, H⟩ := H.ex
  obtain ⟨⟨P, m, v, C, V, -⟩, H⟩ := H.fact
  have ha := sd_arm H n hb
  rw [C.up.arm] at ha
  refine ha.mono ?_
  rintro en w' ⟨rfl, H2⟩
  obtain ⟨l, rs, h1, h2⟩ := C.lg
  exact ⟨rfl, St.any (F := fun σ : Dk => ifP (∃ P m v, Cold N log cnt E P σ ∧ PgView cnt P m v S ∧ σ.armed = decide (0 ≤ n)) (diskP d σ)) { σ with armed := decide (0 ≤ n), left := max n 0 } (H2.with ⟨P, m, v, ⟨C.sh, C.up.armed hb, ⟨l, rs, h1, h2⟩, C.room⟩, V, rfl⟩)⟩

theorem db_down (H : St w0 w (dbP x d N log cnt E arm S :: ps)) : Calls Tryz.prog 33 #[.pointer (some ⟨d, 0, none⟩)] w fun e w' => e = .returned (.bool false) ∧ w = w' := by
  obtain ⟨D, h, H1⟩ := dbP_open H
  have hd := sd_down (H1.pull 1 rfl)
  rw [h.rest.up.down] at hd
  exact hd

theorem dark_down {Q : PSt → Prop} (H : St w0 w (darkP d N log cnt E Q :: ps)) : Calls Tryz.prog 33 #[.pointer (some ⟨d, 0, none⟩)] w fun e w' => e = .returned (.bool true) ∧ w = w' := by
  obtain ⟨σ, H⟩ := H.ex
  obtain ⟨⟨h, -⟩, H1⟩ := H.fact
  have hd := sd_down H1
  rw [h.down] at hd
  exact hd

theorem db_off (H : St w0 w (dbP x d N log cnt E arm S :: ps)) : Calls Tryz.prog 10 #[.pointer (some ⟨d, 0, none⟩)] w fun e w' => e = .returned (.int .i64 0) ∧ St w0 w' (darkP d N log cnt E (fun s => s = S) :: ps) := by
  obtain ⟨D, h, H1⟩ := dbP_open H
  have ho := sd_off (H1.pull 1 rfl)
  obtain ⟨e1, e2, e3⟩ := h.rest.up.off h.rest.crash
  rw [e1] at ho
  refine ho.mono ?_
  rintro en w' ⟨rfl, H2⟩
  have H3 := (H2.pull 1 rfl).drop.pull 1 rfl |>.drop
  exact ⟨rfl, St.any (F := fun σ : Dk => ifP (Dn σ N ∧ Crash σ (fun img => ∃ P m v S', S' = S ∧ RecI log cnt E P img ∧ PgView cnt P m v S')) (diskP d σ)) _ (H3.with ⟨e2, e3.mono (fun img hi => ⟨D.P, D.m, D.v, S, rfl, hi, h.view⟩)⟩)⟩

theorem dark_on {Q : PSt → Prop} (sh : Shape N log cnt) (H : St w0 w (darkP d N log cnt E Q :: ps)) {v : Value} {keep : List Bool} (hs : Safe w0 ps v (keep.map Value.bool)) :
    Calls Tryz.prog 34 #[.pointer (some ⟨d, 0, none⟩), v] w fun e w' => e = .returned (.int .i64 0) ∧ ∃ S', Q S' ∧ St w0 w' (coldP d N log cnt E false S' :: ps) := by
  obtain ⟨σ, H⟩ := H.ex
  obtain ⟨⟨hd, hc⟩, H1⟩ := H.fact
  have ho := sd_on H1 hs
  obtain ⟨e1, e2, e3, e4, ⟨P, m, v', S', hQ, hR, hV⟩, -⟩ := hd.on hc keep
  rw [e1] at ho
  refine ho.mono ?_
  rintro en w' ⟨rfl, H2⟩
  exact ⟨rfl, S', hQ, St.any (F := fun σ : Dk => ifP (∃ P m v, Cold N log cnt E P σ ∧ PgView cnt P m v S' ∧ σ.armed = false) (diskP d σ)) _ (H2.with ⟨P, m, v', Cold.of_rec sh e2 e4 hR, hV, e3⟩)⟩

theorem db_checkpoint (hh : HalfAt w0) (H : St w0 w (dbP x d N log cnt E arm S :: ps)) (hE : E < 1000000) :
    Calls Tryz.prog 23 #[.pointer (some ⟨x, 0, none⟩)] w fun e w' =>
      (e = .returned (.int .i64 0) ∧ St w0 w' (dbP x d N log cnt (E + 1) arm S :: ps)) ∨ (arm = true ∧ e = .returned (.int .i64 10) ∧ St w0 w' (darkP d N log cnt (E + 1) (fun s => s = S) :: ps)) := by
  obtain ⟨D, h, H1⟩ := dbP_open H
  refine (pd_checkpoint hh ((H1.pull 2 rfl).pull 1 rfl) h.rest.up.down (by have := h.rest.room; omega)).mono ?_
  rintro en w' ⟨rfl, H2⟩
  rcases settle_run h.rest.toRest0 (by omega) with ⟨s1, s2, s3, s4, s5⟩ | ⟨s0, s1, s2, s3⟩
  · rw [s1] at H2 ⊢
    refine .inl ⟨rfl, dbP_mk ⟨D.b, D.m, (settleB D.l D.σ).2.1, (settleB D.l D.σ).2.2, D.P, D.v⟩ ⟨⟨s2, ?_⟩, h.view, by rw [← h.arm]; exact s4⟩ ((H2.pull 2 rfl).pull 1 rfl)⟩
    rcases s5 with s5 | ⟨-, s5⟩
    · simp only []; rw [s5]; simp
    · simp only []; rw [s5]; exact h.rest.room
  · rw [s1] at H2 ⊢
    have H3 := H2.drop.drop
    exact .inr ⟨by rw [← h.arm]; exact s0, rfl, St.any (F := fun σ : Dk => ifP (Dn σ N ∧ Crash σ (fun img => ∃ P m v S', S' = S ∧ RecI log cnt (E + 1) P img ∧ PgView cnt P m v S')) (diskP d σ)) _ (H3.with ⟨s2, s3.mono (fun img hi => ⟨D.P, D.m, D.v, S, rfl, hi, h.view⟩)⟩)⟩
end

end Go.Proofs.YtnffnpndnaofhaaGreatDoor

/- aquiferlaw10.build: transactions, each of one call's changes; conditions stand in the theorem. -/
namespace Go.Proofs.YtnffnpndnaofhaaGreatDoor
open Go.RowKit
set_option maxRecDepth 100000

theorem act_agg : IsAgg Tryz.prog 46 := ⟨_, Tryz.underlying46, rfl⟩
theorem act_size : (Tryz.prog.info? 46).map (·.size) = some 5 := by kernel_rfl

theorem commitE_no {log K : Nat} : commitE log false K = 0 ∨ commitE log false K = 7 := by
  unfold commitE
  simp only [Bool.false_eq_true, if_false]
  split
  · exact .inr rfl
  · exact .inl rfl

section
variable {w0 w : World} {ps : List HP} {x d N log cnt E : Nat} {S : PSt}

set_option maxHeartbeats 8000000 in
theorem law_build (hh : HalfAt w0) (H : St w0 w (dbP x d N log cnt E false S :: ps)) (v : Value) (acts : List ActD) (ha : ActsAt w0 v acts) (most : Nat) (hm : E + most < 1000000) :
    Calls Tryz.prog 13 #[.pointer (some ⟨x, 0, none⟩), v, .int .i64 (most : Int)] w fun e w' => e = .returned (.bool true) ∧ ∃ E' S', E' ≤ E + most ∧ St w0 w' (dbP x d N log cnt E' false S' :: ps) := by
  obtain ⟨am, capm, em, hm1, hm2, -⟩ := id ha.1
  rw [List.length_map] at em hm1
  subst em
  have hmax : acts.length ≤ 9223372036854775807 := by simp only [maxLen] at hm2; omega
  have HA := hid ha
  have H0 := hid H
  clear H ha hm1 hm2
  go_enter Tryz.func13, Tryz.ntmps13
  go_wp2_with fail
  go_loopw [7] (fun iv wr => ∃ (k E' : Nat) (S' : PSt), k ≤ most ∧ E' ≤ E + k ∧ iv = .int .i64 (k : Int) ∧ St w0 wr (dbP x d N log cnt E' false S' :: ps)) (fun iv _ => most - (intOf iv).toNat)
  case atStart => exact ⟨0, E, S, Nat.zero_le _, Nat.le_refl _, rfl, H0.out⟩
  case round =>
    obtain ⟨k, E', S', hk, hE, rfl, hM⟩ := hrel
    clear H0
    have HH := hid hM
    clear hM
    by_cases hlt : k < acts.length ∧ k < most
    · obtain ⟨hlt, hkm⟩ := hlt
      have hl1 : (k : Int) < (acts.length : Int) := by omega
      have hl2 : (k : Int) < (most : Int) := by omega
      obtain ⟨a, ha⟩ : ∃ a, acts[k]? = some a := ⟨_, List.getElem?_eq_getElem hlt⟩
      have hok : a.Ok w0 := HA.out.2 a (List.mem_of_getElem? ha)
      have has := hok.s
      obtain ⟨g, off, capb, eb, -, -, hcb, hbw⟩ := HA.out.get ha
      simp only [Value.slice.injEq] at eb
      obtain ⟨rfl, -, rfl⟩ := eb
      have hbg := db_begin HH.out
      clear hok ha
      go_upto_region 5 with (go_at_call 15; refine hbg.mono ?_; rintro e w2 ⟨t, rfl, H2⟩)
      have hch := law_change hh ⟨S', fun _ => false, false⟩ a has H2
      have c0 : w2.cell? ⟨g, off + k * 5 + 0, none⟩ = some (.int .i64 a.kind) := (St.pres H2).cell (hcb 0 _ rfl) (by simp)
      have c1 : w2.cell? ⟨g, off + k * 5 + 1, none⟩ = some (.int .i64 a.pid) := (St.pres H2).cell (hcb 1 _ rfl) (by simp)
      have c2 : w2.cell? ⟨g, off + k * 5 + 2, none⟩ = some (.int .i64 a.kd) := (St.pres H2).cell (hcb 2 _ rfl) (by simp)
      have c3 : w2.cell? ⟨g, off + k * 5 + 3, none⟩ = some (.string a.s) := (St.pres H2).cell (hcb 3 _ rfl) (by simp)
      have c4 : w2.cell? ⟨g, off + k * 5 + 4, none⟩ = some a.kv := (St.pres H2).cell (hcb 4 _ rfl) (by simp)
      rw [Nat.add_zero] at c0
      clear hbg HH H2 hcb has
      obtain ⟨Y, hY⟩ : ∃ Y, TS.chg ⟨S', fun _ => false, false⟩ cnt a = Y := ⟨_, rfl⟩
      rw [hY] at hch
      clear hY
      go_upto_region 8 with (go_at_call 16; refine hch.mono ?_; rintro e w3 ⟨rfl, H3⟩)
      have hcm := tp_commit hh H3 (by omega)
      obtain ⟨ce, hce⟩ : ∃ ce, Hid (commitE log false (changes Y.tk Y.mark cnt) = ce) := ⟨_, hid rfl⟩
      rw [hce.out] at hcm
      obtain ⟨S2, hS2⟩ : ∃ S2, (if ce = 0 then Y.T else S') = S2 := ⟨_, rfl⟩
      rw [hS2] at hcm
      have hcc : ce = 0 ∨ ce = 7 := by rw [← hce.out]; exact commitE_no
      clear hch H3 c0 c1 c2 c3 c4 hS2
      rcases hcc with rfl | rfl
      · go_wp2_with (go_at_call 20; refine hcm.mono ?_; rintro e w4 (⟨rfl, H4⟩ | ⟨h9, -⟩); rotate_left; (cases h9))
        go_roundw
        case rel => exact ⟨k + 1, E' + 1, S2, by omega, by omega, by go_num, (H4.pull 1 rfl).drop⟩
        case measure => first | (simp [intOf]; done) | (simp [intOf]; omega)
      · go_wp2_with (go_at_call 20; refine hcm.mono ?_; rintro e w4 (⟨rfl, H4⟩ | ⟨h9, -⟩); rotate_left; (cases h9))
        go_roundw
        case rel => exact ⟨k + 1, E' + 1, S2, by omega, by omega, by go_num, (H4.pull 1 rfl).drop⟩
        case measure => first | (simp [intOf]; done) | (simp [intOf]; omega)
    · have hend : ¬ (k : Int) < (acts.length : Int) ∨ ((k : Int) < (acts.length : Int) ∧ ¬ (k : Int) < (most : Int)) := by omega
      rcases hend with h1 | ⟨h1, h2⟩
      · go_wp2
        go_ret
        exact ⟨rfl, E', by omega, S', HH.out⟩
      · go_wp2
        go_ret
        exact ⟨rfl, E', by omega, S', HH.out⟩
end

end Go.Proofs.YtnffnpndnaofhaaGreatDoor
