/- Parts of the proof: A database of pages (layer 10): the body of page 0 is written; conditions stand in the theorem. -/
import Derived.Test.YtnffnpndnaofhaaGreatDoorQas

/- A database of pages (layer 10): the body of page 0 is written; conditions stand in the theorem. -/
namespace Go.Proofs.YtnffnpndnaofhaaGreatDoor
open Go.RowKit
set_option maxRecDepth 100000

theorem size_roots : (Tryz.prog.info? 58).map (·.size) = some 4 := by kernel_rfl
theorem agg_roots : IsAgg Tryz.prog 58 := ⟨_, Tryz.underlying58, rfl⟩

theorem at_index {P : Program} {ops : Array Oper} {rest : List Oper} {a : Act} {w : World} {Q : Exit → Act → World → Prop} {d : Option Tmp} {ty : TypeId} {pos : String} {af : Array Edge} {g : Option (Nat × Bool)} {t : TypeId} {x y : Operand} (h : wpList P ops Q (⟨d, .index t x y, ty, pos, af, g⟩ :: rest) a w) : wpList P ops Q (⟨d, .index t x y, ty, pos, af, g⟩ :: rest) a w := h

theorem wpL_val' {P : Program} {ops : Array Oper} {rest : List Oper} {o : Oper} {a : Act} {w : World} {Q : Exit → Act → World → Prop} (hgd : o.guard = none) (v : Value) (h : (execOp a.eval o).run P w = .ok (.value v) w)
    (hk : wpList P ops Q rest (a.put o.dst v) w) : wpList P ops Q (o :: rest) a w :=
  wpList_plain hgd fun _ hK => wp_value h (hK _ _ hk)

theorem run_index_op {P : Program} {w : World} {o : Oper} {a : Act} {t : TypeId} {x y : Operand} {cs : Array Value} {i : Int} {v : Value} (ho : o.op = .index t x y) (hx : a.eval x = .agg cs) (hy : a.eval y = .int .i64 i) (h : (Instr.index t (.agg cs) (.int .i64 i)).run P w = .ok v w) : (execOp a.eval o).run P w = .ok (.value v) w := by
  unfold execOp
  simp only [ho, hx, hy, Sem.run_bind, Sem.run_pure, Result.andThen_ok, h]

theorem root0 (w : World) (a b c d : Int) : (Instr.index 58 (.agg #[.int .i64 a, .int .i64 b, .int .i64 c, .int .i64 d]) (.int .i64 ((0 : Nat) : Int))).run Tryz.prog w = .ok (.int .i64 a) w := by kernel_rfl
theorem root1 (w : World) (a b c d : Int) : (Instr.index 58 (.agg #[.int .i64 a, .int .i64 b, .int .i64 c, .int .i64 d]) (.int .i64 ((1 : Nat) : Int))).run Tryz.prog w = .ok (.int .i64 b) w := by kernel_rfl
theorem root2 (w : World) (a b c d : Int) : (Instr.index 58 (.agg #[.int .i64 a, .int .i64 b, .int .i64 c, .int .i64 d]) (.int .i64 ((2 : Nat) : Int))).run Tryz.prog w = .ok (.int .i64 c) w := by kernel_rfl
theorem root3 (w : World) (a b c d : Int) : (Instr.index 58 (.agg #[.int .i64 a, .int .i64 b, .int .i64 c, .int .i64 d]) (.int .i64 ((3 : Nat) : Int))).run Tryz.prog w = .ok (.int .i64 d) w := by kernel_rfl

set_option maxHeartbeats 4000000 in
theorem pd_body (m : Meta) (w : World) (ok : m.Ok) :
    Calls Tryz.prog 90 #[.agg m.cells.toArray] w fun e w' => e = .returned (.string ⟨(metaB m).toArray⟩) ∧ Pres [] w w' := by
  have H0 := hid ((St.start w).alloc m.cells 60)
  have nh := fun W => pd_number m.high W ok.high
  have nf := fun W => pd_number m.free W ok.free
  have nc := fun W => pd_number m.count W ok.count
  have n0 := fun W => pd_number m.r0 W ok.r0
  have n1 := fun W => pd_number m.r1 W ok.r1
  have n2 := fun W => pd_number m.r2 W ok.r2
  have n3 := fun W => pd_number m.r3 W ok.r3
  obtain ⟨zh, hzh, ezh, szh⟩ := str_z (numLE m.high 4)
  obtain ⟨zf, hzf, ezf, szf⟩ := str_z (numLE m.free 4)
  obtain ⟨zc, hzc, ezc, szc⟩ := str_z (numLE m.count 4)
  rw [length_numLE] at szh szf szc
  rw [← hzh.out] at nh
  rw [← hzf.out] at nf
  rw [← hzc.out] at nc
  have nr : ∀ k, k < 4 → ∀ W, Calls Tryz.prog 63 #[.int .i64 (m.root k : Int)] W fun e w' => e = .returned (.string ⟨(numLE (m.root k) 4).toArray⟩) ∧ Pres [] W w' := by
    intro k hk
    match k, hk with
    | 0, _ => exact n0
    | 1, _ => exact n1
    | 2, _ => exact n2
    | 3, _ => exact n3
  have NR := hid nr
  clear n0 n1 n2 n3 nr ezh ezf ezc
  have c4 := (H0.out.obj 0 rfl).cell 4
  have c5 := (H0.out.obj 0 rfl).cell 5
  have c6 := (H0.out.obj 0 rfl).cell 6
  simp only [Meta.cells, List.getElem?_cons_succ, List.getElem?_cons_zero] at c4 c5 c6
  go_enter Tryz.func90, Tryz.ntmps90
  go_upto_region 1 with fail
  refine wp_stages (by kernel_rfl) ?_
  refine wp_pures [(3, true), (7, true)] 10 rfl (by kernel_rfl) (by kernel_rfl) (by intro c a dd v w h; cases dd <;> exact h) ?_
  iterate 2 (refine wpOrd_read (v := _) rfl rfl (by intro w' hS; skip; clear hS; go_simp; rfl) ?_; (try simp only [Act.put, List.setIfInBounds_toArray, List.set_cons_succ, List.set_cons_zero, List.getElem_toArray, List.getElem_cons_succ, List.getElem_cons_zero]))
  refine wpOrd_end ?_
  have HD := hid H0.out.drew
  clear H0
  unfold Meta.cells at *
  generalize w.heap.size = b at *
  generalize (w.alloc _) = w1 at *
  have S0 : w1.drew.cell? ⟨b, 4, none⟩ = some (.int .i64 (m.high : Int)) ∧ w1.drew.cell? ⟨b, 5, none⟩ = some (.int .i64 (m.free : Int)) ∧ w1.drew.cell? ⟨b, 6, none⟩ = some (.int .i64 (m.count : Int)) := ⟨c4, c5, c6⟩
  clear c4 c5 c6
  generalize w1.drew = w2 at *
  refine wp_stage (fun W => W.cell? ⟨b, 4, none⟩ = some (.int .i64 (m.high : Int)) ∧ W.cell? ⟨b, 5, none⟩ = some (.int .i64 (m.free : Int)) ∧ W.cell? ⟨b, 6, none⟩ = some (.int .i64 (m.count : Int))) [(0, true), (1, true), (4, true), (8, true), (2, false), (5, false), (6, true), (9, false)] 2 rfl (by kernel_rfl) (by intro c a dd v w h; cases dd <;> exact h) (S0) ?_
  iterate 4 (refine wpOrd_read (v := _) rfl rfl (by intro w' hS; obtain ⟨s1, s2, s3⟩ := id hS; clear hS; go_simp; rfl) ?_; (try simp only [Act.put, List.setIfInBounds_toArray, List.set_cons_succ, List.set_cons_zero, List.getElem_toArray, List.getElem_cons_succ, List.getElem_cons_zero]))
  refine wpOrd_do rfl rfl (fun K hK => ?_)
  go_simp
  refine (nh _).mono ?_
  rintro e w3 ⟨rfl, P3⟩
  have S3 : w3.cell? ⟨b, 4, none⟩ = some (.int .i64 (m.high : Int)) ∧ w3.cell? ⟨b, 5, none⟩ = some (.int .i64 (m.free : Int)) ∧ w3.cell? ⟨b, 6, none⟩ = some (.int .i64 (m.count : Int)) := ⟨P3.cell S0.1 (by simp), P3.cell S0.2.1 (by simp), P3.cell S0.2.2 (by simp)⟩
  refine hK _ _ ⟨S3, ?_⟩
  clear hK K
  (try simp only [Act.put, List.setIfInBounds_toArray, List.set_cons_succ, List.set_cons_zero, List.getElem_toArray, List.getElem_cons_succ, List.getElem_cons_zero])
  refine wpOrd_do rfl rfl (fun K hK => ?_)
  go_simp
  refine (nf _).mono ?_
  rintro e w4 ⟨rfl, P4⟩
  have S4 : w4.cell? ⟨b, 4, none⟩ = some (.int .i64 (m.high : Int)) ∧ w4.cell? ⟨b, 5, none⟩ = some (.int .i64 (m.free : Int)) ∧ w4.cell? ⟨b, 6, none⟩ = some (.int .i64 (m.count : Int)) := ⟨P4.cell S3.1 (by simp), P4.cell S3.2.1 (by simp), P4.cell S3.2.2 (by simp)⟩
  refine hK _ _ ⟨S4, ?_⟩
  clear hK K
  (try simp only [Act.put, List.setIfInBounds_toArray, List.set_cons_succ, List.set_cons_zero, List.getElem_toArray, List.getElem_cons_succ, List.getElem_cons_zero])
  iterate 1 (refine wpOrd_read (v := _) rfl rfl (by intro w' hS; skip; clear hS; go_simp; rfl) ?_; (try simp only [Act.put, List.setIfInBounds_toArray, List.set_cons_succ, List.set_cons_zero, List.getElem_toArray, List.getElem_cons_succ, List.getElem_cons_zero]))
  refine wpOrd_do rfl rfl (fun K hK => ?_)
  go_simp
  refine (nc _).mono ?_
  rintro e w5 ⟨rfl, P5⟩
  refine hK _ _ ⟨⟨P5.cell S4.1 (by simp), P5.cell S4.2.1 (by simp), P5.cell S4.2.2 (by simp)⟩, ?_⟩
  clear hK K
  (try simp only [Act.put, List.setIfInBounds_toArray, List.set_cons_succ, List.set_cons_zero, List.getElem_toArray, List.getElem_cons_succ, List.getElem_cons_zero])
  refine wpOrd_end ?_
  refine wp_stages_end 10 (by rfl) (by kernel_rfl) ?_
  simp only [List.drop_succ_cons, List.drop_zero]
  have H5 := hid (((HD.out.quiet P3).quiet P4).quiet P5)
  clear S0 S3 S4 P3 P4 P5 HD nh nf nc
  go_wp2_with ((with_reducible refine at_load ?_); refine wpL_load rfl 58 _ rfl b 0 4 rfl _ _ (H5.out.obj 0 rfl) agg_roots size_roots (by simp) ?_)
  try simp only [List.drop_zero, List.take_succ_cons, List.take_zero]
  obtain ⟨z0, hz0⟩ : ∃ z : ByteArray, zh ++ zf ++ zc = z := ⟨_, rfl⟩
  rw [hz0]
  have hz0l : z0.data.toList = metaTo m 0 := by
    rw [← hz0, ba_append, ba_append, hzh.out, hzf.out, hzc.out, ba_mk, ba_mk, ba_mk]
    simp [metaTo]
  have HZ := hid hz0l
  have HP := hid H5.out.pres
  clear hz0 hz0l H5 szh szf szc
  go_loopw [3, 19] (fun sv iv wr => ∃ (k : Nat) (z : ByteArray), k ≤ 4 ∧ iv = .int .i64 (k : Int) ∧ sv = .string z ∧ z.data.toList = metaTo m k ∧ Pres [] w wr) (fun _ iv _ => 4 - (intOf iv).toNat)
  case atStart => exact ⟨0, z0, Nat.zero_le _, rfl, rfl, HZ.out, HP.out⟩
  case round =>
    obtain ⟨k, z, hk, rfl, rfl, hz, hP⟩ := hrel
    clear HP HZ
    have hzs : z.size = 12 + 4 * k := by rw [ba_size, hz, length_metaTo]
    have HZ := hid hz
    have HP := hid hP
    clear hz hP
    by_cases hlt : k < 4
    · have hnum := NR.out k hlt
      obtain ⟨zn, hzn, ezn, szn⟩ := str_z (numLE (m.root k) 4)
      rw [length_numLE] at szn
      rw [← hzn.out] at hnum
      clear ezn
      have hk4 : k = 0 ∨ k = 1 ∨ k = 2 ∨ k = 3 := by omega
      rcases hk4 with rfl | rfl | rfl | rfl
      · simp only [Meta.root] at hnum
        go_wp2_with (first
          | (go_at_call 63; refine (hnum _).mono ?_; rintro e w7 ⟨rfl, P7⟩)
          | ((with_reducible refine at_index ?_); refine wpL_val' rfl _ (run_index_op rfl rfl rfl (root0 _ _ _ _ _)) ?_))
        go_roundw
        case rel =>
          refine ⟨1, z ++ zn, by omega, by first | rfl | go_num, rfl, ?_, HP.out.then P7⟩
          rw [ba_append, HZ.out, hzn.out, ba_mk]
          exact (metaTo_succ m 0).symm
        case measure => first | (simp [intOf]; done) | (simp [intOf]; omega)
      · simp only [Meta.root] at hnum
        go_wp2_with (first
          | (go_at_call 63; refine (hnum _).mono ?_; rintro e w7 ⟨rfl, P7⟩)
          | ((with_reducible refine at_index ?_); refine wpL_val' rfl _ (run_index_op rfl rfl rfl (root1 _ _ _ _ _)) ?_))
        go_roundw
        case rel =>
          refine ⟨2, z ++ zn, by omega, by first | rfl | go_num, rfl, ?_, HP.out.then P7⟩
          rw [ba_append, HZ.out, hzn.out, ba_mk]
          exact (metaTo_succ m 1).symm
        case measure => first | (simp [intOf]; done) | (simp [intOf]; omega)
      · simp only [Meta.root] at hnum
        go_wp2_with (first
          | (go_at_call 63; refine (hnum _).mono ?_; rintro e w7 ⟨rfl, P7⟩)
          | ((with_reducible refine at_index ?_); refine wpL_val' rfl _ (run_index_op rfl rfl rfl (root2 _ _ _ _ _)) ?_))
        go_roundw
        case rel =>
          refine ⟨3, z ++ zn, by omega, by first | rfl | go_num, rfl, ?_, HP.out.then P7⟩
          rw [ba_append, HZ.out, hzn.out, ba_mk]
          exact (metaTo_succ m 2).symm
        case measure => first | (simp [intOf]; done) | (simp [intOf]; omega)
      · simp only [Meta.root] at hnum
        go_wp2_with (first
          | (go_at_call 63; refine (hnum _).mono ?_; rintro e w7 ⟨rfl, P7⟩)
          | ((with_reducible refine at_index ?_); refine wpL_val' rfl _ (run_index_op rfl rfl rfl (root3 _ _ _ _ _)) ?_))
        go_roundw
        case rel =>
          refine ⟨4, z ++ zn, by omega, by first | rfl | go_num, rfl, ?_, HP.out.then P7⟩
          rw [ba_append, HZ.out, hzn.out, ba_mk]
          exact (metaTo_succ m 3).symm
        case measure => first | (simp [intOf]; done) | (simp [intOf]; omega)
    · obtain rfl : k = 4 := by omega
      have hend : ¬ ((4 : Nat) : Int) < 4 := by omega
      go_wp2
      go_ret
      exact ⟨ret_str (by rw [ba_mk, HZ.out, metaTo_all]), HP.out⟩

end Go.Proofs.YtnffnpndnaofhaaGreatDoor
