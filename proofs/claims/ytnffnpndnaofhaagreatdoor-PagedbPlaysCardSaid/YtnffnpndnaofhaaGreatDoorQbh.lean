/- Parts of the proof: aquiferlaw10.two.does without a transaction: each kind of call; conditions stand in the theorems. -/
import Derived.Test.YtnffnpndnaofhaaGreatDoorQbg

/- aquiferlaw10.two.does without a transaction: each kind of call; conditions stand in the theorems. -/
namespace Go.Proofs.YtnffnpndnaofhaaGreatDoor
open Go.RowKit
set_option maxRecDepth 100000

def TwoAt (w0 w : World) (ps : List HP) (tb N log cnt E : Nat) : Prop := (∃ S, TwoC w0 w ps tb N log cnt E S) ∨ ∃ S T tk mk sp, TwoO w0 w ps tb N log cnt E S T tk mk sp

/-- What the calls read of the pair, and of the act. -/
def PairS (tb ab d x r : Nat) (tv : Value) (pid kd : Int) (W : World) : Prop :=
  W.cell? ⟨tb, 0, none⟩ = some (.pointer (some ⟨d, 0, none⟩)) ∧ W.cell? ⟨tb, 1, none⟩ = some (.pointer (some ⟨x, 0, none⟩)) ∧ W.cell? ⟨tb, 2, none⟩ = some tv ∧ W.cell? ⟨tb, 3, none⟩ = some (.pointer (some ⟨r, 0, none⟩)) ∧ W.cell? ⟨ab, 1, none⟩ = some (.int .i64 pid) ∧ W.cell? ⟨ab, 2, none⟩ = some (.int .i64 kd)

theorem pairS_of {W : World} {tb ab d x r : Nat} {tv : Value} {k pid kd : Int} {s : ByteArray} {kv : Value} (h1 : At W tb [(.pointer (some ⟨d, 0, none⟩)), (.pointer (some ⟨x, 0, none⟩)), tv, (.pointer (some ⟨r, 0, none⟩))] 81) (h2 : At W ab [.int .i64 k, .int .i64 pid, .int .i64 kd, .string s, kv] 46) : PairS tb ab d x r tv pid kd W :=
  ⟨h1.cell 0, h1.cell 1, h1.cell 2, h1.cell 3, h2.cell 1, h2.cell 2⟩

section
variable {w0 w : World} {ps : List HP} {tb N log cnt E : Nat} {S T : PSt} {tk : Nat → Bool} {mk sp : Bool}

set_option maxHeartbeats 4000000 in
theorem does_c0 (hh : HalfAt w0) (sh : Shape N log cnt) (hE : E < 900000) (h : TwoC w0 w ps tb N log cnt E S) (pid kd : Int) (s : ByteArray) (kv : Value) (keep : List Bool) (hs : s.size ≤ maxLen) (hb : pid < 9223372036854775808) (hkv : Reads w0 kv (keep.map Value.bool)) :
    Calls Tryz.prog 37 #[(.pointer (some ⟨tb, 0, none⟩)), .agg #[.int .i64 0, .int .i64 pid, .int .i64 kd, .string s, kv]] w fun e w' => e = .returned (.bool true) ∧ ∃ E', E' ≤ E + 1 ∧ TwoAt w0 w' ps tb N log cnt E' := by
  obtain ⟨d, x, r, tv, q, hq, H⟩ := h
  have HQ := hid hq
  have H0 := hid (H.alloc [.int .i64 0, .int .i64 pid, .int .i64 kd, .string s, kv] 46)
  obtain ⟨M, hM⟩ : ∃ M : Nat, M = min 510 s.size := ⟨_, rfl⟩
  have hM1 : min (s.size : Int) 510 = (M : Int) := by omega
  have hM2 : (M : Int) ≤ (s.size : Int) := by omega
  have hM3 : (s.size : Int) ≤ 9223372036854775807 := by simp only [maxLen] at hs; omega
  have hxs : (s.extract 0 M).size ≤ maxLen := by rw [ByteArray.size_extract]; simp only [maxLen] at hs ⊢; omega
  have HX := hid hxs
  have HC := hid (And.intro hh (And.intro sh (And.intro hE (And.intro hb hkv))))
  clear hM hs hxs H hh sh hE hb hkv hq
  go_enter Tryz.func37, Tryz.ntmps37
  go_upto_region 4 with fail
  generalize s.extract 0 M = z at *
  generalize w.heap.size = ab at *
  generalize (w.alloc _) = w1 at *
  clear hM1 hM2 hM3
  have c1 : w1.cell? ⟨tb, 1, none⟩ = some (.pointer (some ⟨x, 0, none⟩)) := (H0.out.obj 1 rfl).cell 1
  have hbg := db_begin (H0.out.pull 2 rfl)
  have hsm := hid (dbP_small (H0.out.pull 2 rfl))
  go_upto_region 5 with (go_at_call 15; refine hbg.mono ?_; rintro e w2 ⟨t, rfl, H2⟩)
  have H2 := hid (show St w0 w2 (txP x d t N log cnt E false S S (fun _ => false) false false :: objP ab _ 46 :: objP tb [(.pointer (some ⟨d, 0, none⟩)), (.pointer (some ⟨x, 0, none⟩)), tv, (.pointer (some ⟨r, 0, none⟩))] 81 :: q :: rfP r cnt log S :: ps) from H2)
  clear hbg c1 H0
  have c3 : w2.cell? ⟨tb, 3, none⟩ = some (.pointer (some ⟨r, 0, none⟩)) := (H2.out.obj 2 rfl).cell 3
  have hrb := rf_begin (by have := hsm.out; omega) (by have := hsm.out; omega) hsm.out.2.2 (H2.out.pull 4 rfl)
  go_upto_region 7 with (go_at_call 66; refine hrb.mono ?_; rintro e w3 ⟨rfl, H3⟩)
  have H3 := hid (show St w0 w3 (rfoP r cnt log S S (fun _ => false) false false :: txP x d t N log cnt E false S S (fun _ => false) false false :: objP ab _ 46 :: objP tb [(.pointer (some ⟨d, 0, none⟩)), (.pointer (some ⟨x, 0, none⟩)), tv, (.pointer (some ⟨r, 0, none⟩))] 81 :: q :: ps) from H3)
  clear hrb c3 H2
  have c2 : w3.cell? ⟨tb, 2, none⟩ = some tv := (H3.out.obj 3 rfl).cell 2
  have f2 := (H3.out.obj 3 rfl).frozen 2
  have l2 := (H3.out.obj 3 rfl).lt
  have H4 := hid (H3.out.set 3 rfl 2 (.pointer (some ⟨t, 0, none⟩)))
  clear H3
  go_wp2
  go_ret
  have h5 := (((H4.out.pull 2 rfl).drop).pull 3 rfl).drop
  exact ⟨rfl, E, Nat.le_succ _, .inr ⟨S, S, _, _, _, d, x, r, t, ((h5.pull 2 rfl).pull 2 rfl).pull 1 rfl⟩⟩

set_option maxHeartbeats 4000000 in
theorem does_c1 (hh : HalfAt w0) (sh : Shape N log cnt) (hE : E < 900000) (h : TwoC w0 w ps tb N log cnt E S) (pid kd : Int) (s : ByteArray) (kv : Value) (keep : List Bool) (hs : s.size ≤ maxLen) (hb : pid < 9223372036854775808) (hkv : Reads w0 kv (keep.map Value.bool)) :
    Calls Tryz.prog 37 #[(.pointer (some ⟨tb, 0, none⟩)), .agg #[.int .i64 1, .int .i64 pid, .int .i64 kd, .string s, kv]] w fun e w' => e = .returned (.bool true) ∧ ∃ E', E' ≤ E + 1 ∧ TwoAt w0 w' ps tb N log cnt E' := by
  obtain ⟨d, x, r, tv, q, hq, H⟩ := h
  have HQ := hid hq
  have H0 := hid (H.alloc [.int .i64 1, .int .i64 pid, .int .i64 kd, .string s, kv] 46)
  obtain ⟨M, hM⟩ : ∃ M : Nat, M = min 510 s.size := ⟨_, rfl⟩
  have hM1 : min (s.size : Int) 510 = (M : Int) := by omega
  have hM2 : (M : Int) ≤ (s.size : Int) := by omega
  have hM3 : (s.size : Int) ≤ 9223372036854775807 := by simp only [maxLen] at hs; omega
  have hxs : (s.extract 0 M).size ≤ maxLen := by rw [ByteArray.size_extract]; simp only [maxLen] at hs ⊢; omega
  have HX := hid hxs
  have HC := hid (And.intro hh (And.intro sh (And.intro hE (And.intro hb hkv))))
  clear hM hs hxs H hh sh hE hb hkv hq
  go_enter Tryz.func37, Tryz.ntmps37
  go_upto_region 10 with fail
  generalize s.extract 0 M = z at *
  generalize w.heap.size = ab at *
  generalize (w.alloc _) = w1 at *
  clear hM1 hM2 hM3
  have hno := over_no HQ.out ((H0.out.pull 3 rfl).pull 3 rfl)
  have hno2 := hid (hno.pres ((Pres.refl [] w1).drew))
  clear hno
  refine wp_stages (by kernel_rfl) ?_
  have HD := hid (St.drew H0.out)
  generalize w1.drew = wd at *
  clear H0
  refine wp_stage (PairS tb ab d x r tv pid kd) [(0, true), (1, true), (2, true), (3, true), (4, true), (5, true), (6, false)] 7 rfl (by kernel_rfl) (by intro c a dd v w h; cases dd <;> exact h) ((pairS_of ((HD).out.obj 1 rfl) ((HD).out.obj 0 rfl))) ?_
  iterate 6 (refine wpOrd_read (v := _) rfl rfl (by intro w' hS; obtain ⟨s0, s1, s2, s3, s4, s5⟩ := id hS; clear hS; go_simp; rfl) ?_; (try simp only [Act.put, List.setIfInBounds_toArray, List.set_cons_succ, List.set_cons_zero, List.getElem_toArray, List.getElem_cons_succ, List.getElem_cons_zero]))
  refine wpOrd_do rfl rfl (fun K hK => ?_)
  go_simp
  refine (no_read hno2.out pid).mono ?_
  rintro en w2 ⟨rfl, P2⟩
  have H2 := hid (HD.out.quiet P2)
  refine hK _ _ ⟨(pairS_of ((H2).out.obj 1 rfl) ((H2).out.obj 0 rfl)), ?_⟩
  clear hK K HD
  (try simp only [Act.put, List.setIfInBounds_toArray, List.set_cons_succ, List.set_cons_zero, List.getElem_toArray, List.getElem_cons_succ, List.getElem_cons_zero])
  refine wpOrd_end ?_
  refine wp_stage (fun _ => True) [(7, true), (8, true), (9, true), (10, true), (11, false), (12, false)] 1 rfl (by kernel_rfl) (by intro c a dd v w h; cases dd <;> exact h) (trivial) ?_
  iterate 4 (refine wpOrd_read (v := _) rfl rfl (by intro w' hS; skip; clear hS; go_simp; rfl) ?_; (try simp only [Act.put, List.setIfInBounds_toArray, List.set_cons_succ, List.set_cons_zero, List.getElem_toArray, List.getElem_cons_succ, List.getElem_cons_zero]))
  refine wpOrd_do rfl rfl (fun K hK => ?_)
  go_simp
  refine hK _ _ ⟨trivial, ?_⟩
  clear hK K
  (try simp only [Act.put, List.setIfInBounds_toArray, List.set_cons_succ, List.set_cons_zero, List.getElem_toArray, List.getElem_cons_succ, List.getElem_cons_zero])
  refine wpOrd_do rfl rfl (fun K hK => ?_)
  go_simp
  refine hK _ _ ⟨trivial, ?_⟩
  clear hK K
  (try simp only [Act.put, List.setIfInBounds_toArray, List.set_cons_succ, List.set_cons_zero, List.getElem_toArray, List.getElem_cons_succ, List.getElem_cons_zero])
  refine wpOrd_end ?_
  refine wp_stages_end 13 (by rfl) (by kernel_rfl) ?_
  simp only [List.drop_succ_cons, List.drop_zero]
  go_upto_region 11 with fail
  refine wp_stages (by kernel_rfl) ?_
  have HE := hid (St.drew H2.out)
  generalize w2.drew = we at *
  clear H2
  refine wp_stage (PairS tb ab d x r tv pid kd) [(0, true), (1, true), (2, true), (3, true), (4, true), (5, true), (6, false)] 7 rfl (by kernel_rfl) (by intro c a dd v w h; cases dd <;> exact h) ((pairS_of ((HE).out.obj 1 rfl) ((HE).out.obj 0 rfl))) ?_
  iterate 6 (refine wpOrd_read (v := _) rfl rfl (by intro w' hS; obtain ⟨s0, s1, s2, s3, s4, s5⟩ := id hS; clear hS; go_simp; rfl) ?_; (try simp only [Act.put, List.setIfInBounds_toArray, List.set_cons_succ, List.set_cons_zero, List.getElem_toArray, List.getElem_cons_succ, List.getElem_cons_zero]))
  refine wpOrd_do rfl rfl (fun K hK => ?_)
  go_simp
  refine (rf_read_no (HE.out.pull 4 rfl) pid).mono ?_
  rintro en w3 ⟨rfl, rfl⟩
  have H3 := HE
  refine hK _ _ ⟨(pairS_of ((H3).out.obj 1 rfl) ((H3).out.obj 0 rfl)), ?_⟩
  clear hK K HE
  (try simp only [Act.put, List.setIfInBounds_toArray, List.set_cons_succ, List.set_cons_zero, List.getElem_toArray, List.getElem_cons_succ, List.getElem_cons_zero])
  refine wpOrd_end ?_
  refine wp_stage (fun _ => True) [(7, true), (8, true), (9, true), (10, true), (11, false), (12, false)] 1 rfl (by kernel_rfl) (by intro c a dd v w h; cases dd <;> exact h) (trivial) ?_
  iterate 4 (refine wpOrd_read (v := _) rfl rfl (by intro w' hS; skip; clear hS; go_simp; rfl) ?_; (try simp only [Act.put, List.setIfInBounds_toArray, List.set_cons_succ, List.set_cons_zero, List.getElem_toArray, List.getElem_cons_succ, List.getElem_cons_zero]))
  refine wpOrd_do rfl rfl (fun K hK => ?_)
  go_simp
  refine hK _ _ ⟨trivial, ?_⟩
  clear hK K
  (try simp only [Act.put, List.setIfInBounds_toArray, List.set_cons_succ, List.set_cons_zero, List.getElem_toArray, List.getElem_cons_succ, List.getElem_cons_zero])
  refine wpOrd_do rfl rfl (fun K hK => ?_)
  go_simp
  refine hK _ _ ⟨trivial, ?_⟩
  clear hK K
  (try simp only [Act.put, List.setIfInBounds_toArray, List.set_cons_succ, List.set_cons_zero, List.getElem_toArray, List.getElem_cons_succ, List.getElem_cons_zero])
  refine wpOrd_end ?_
  refine wp_stages_end 13 (by rfl) (by kernel_rfl) ?_
  simp only [List.drop_succ_cons, List.drop_zero]
  go_wp2
  go_ret
  exact ⟨rfl, E, Nat.le_succ _, .inl ⟨S, d, x, r, tv, q, HQ.out, H3.out.drop⟩⟩

set_option maxHeartbeats 4000000 in
theorem does_c2 (hh : HalfAt w0) (sh : Shape N log cnt) (hE : E < 900000) (h : TwoC w0 w ps tb N log cnt E S) (pid kd : Int) (s : ByteArray) (kv : Value) (keep : List Bool) (hs : s.size ≤ maxLen) (hb : pid < 9223372036854775808) (hkv : Reads w0 kv (keep.map Value.bool)) :
    Calls Tryz.prog 37 #[(.pointer (some ⟨tb, 0, none⟩)), .agg #[.int .i64 2, .int .i64 pid, .int .i64 kd, .string s, kv]] w fun e w' => e = .returned (.bool true) ∧ ∃ E', E' ≤ E + 1 ∧ TwoAt w0 w' ps tb N log cnt E' := by
  obtain ⟨d, x, r, tv, q, hq, H⟩ := h
  have HQ := hid hq
  have H0 := hid (H.alloc [.int .i64 2, .int .i64 pid, .int .i64 kd, .string s, kv] 46)
  obtain ⟨M, hM⟩ : ∃ M : Nat, M = min 510 s.size := ⟨_, rfl⟩
  have hM1 : min (s.size : Int) 510 = (M : Int) := by omega
  have hM2 : (M : Int) ≤ (s.size : Int) := by omega
  have hM3 : (s.size : Int) ≤ 9223372036854775807 := by simp only [maxLen] at hs; omega
  have hxs : (s.extract 0 M).size ≤ maxLen := by rw [ByteArray.size_extract]; simp only [maxLen] at hs ⊢; omega
  have HX := hid hxs
  have HC := hid (And.intro hh (And.intro sh (And.intro hE (And.intro hb hkv))))
  clear hM hs hxs H hh sh hE hb hkv hq
  go_enter Tryz.func37, Tryz.ntmps37
  go_upto_region 14 with fail
  generalize s.extract 0 M = z at *
  generalize w.heap.size = ab at *
  generalize (w.alloc _) = w1 at *
  clear hM1 hM2 hM3
  have hno := over_no HQ.out ((H0.out.pull 3 rfl).pull 3 rfl)
  have hno2 := hid (hno.pres ((Pres.refl [] w1).drew))
  clear hno
  refine wp_stages (by kernel_rfl) ?_
  have HD := hid (St.drew H0.out)
  generalize w1.drew = wd at *
  clear H0
  refine wp_stage (PairS tb ab d x r tv pid kd) [(0, true), (1, true), (2, true), (3, true), (4, true), (5, true), (6, true), (7, true), (8, true), (10, true), (11, true), (12, true), (13, true), (14, true), (15, true), (16, true), (17, true), (18, true), (9, false)] 3 rfl (by kernel_rfl) (by intro c a dd v w h; cases dd <;> exact h) ((pairS_of ((HD).out.obj 1 rfl) ((HD).out.obj 0 rfl))) ?_
  iterate 18 (refine wpOrd_read (v := _) rfl rfl (by intro w' hS; obtain ⟨s0, s1, s2, s3, s4, s5⟩ := id hS; clear hS; go_simp; rfl) ?_; (try simp only [Act.put, List.setIfInBounds_toArray, List.set_cons_succ, List.set_cons_zero, List.getElem_toArray, List.getElem_cons_succ, List.getElem_cons_zero]))
  refine wpOrd_do rfl rfl (fun K hK => ?_)
  go_simp
  refine (no_write hno2.out pid kd (.string z)).mono ?_
  rintro en w2 ⟨rfl, P2⟩
  have H2 := hid (HD.out.quiet P2)
  refine hK _ _ ⟨(pairS_of ((H2).out.obj 1 rfl) ((H2).out.obj 0 rfl)), ?_⟩
  clear hK K HD
  (try simp only [Act.put, List.setIfInBounds_toArray, List.set_cons_succ, List.set_cons_zero, List.getElem_toArray, List.getElem_cons_succ, List.getElem_cons_zero])
  refine wpOrd_end ?_
  refine wp_stages_end 19 (by rfl) (by kernel_rfl) ?_
  simp only [List.drop_succ_cons, List.drop_zero]
  have hc2 := rf_write_no (H2.out.pull 4 rfl) pid kd z
  go_wp2_with (go_at_call 68; refine hc2.mono ?_; rintro e w3 ⟨rfl, rfl⟩)
  go_ret
  exact ⟨by simp, E, Nat.le_succ _, .inl ⟨S, d, x, r, tv, q, HQ.out, H2.out.drop⟩⟩

set_option maxHeartbeats 4000000 in
theorem does_c4 (hh : HalfAt w0) (sh : Shape N log cnt) (hE : E < 900000) (h : TwoC w0 w ps tb N log cnt E S) (pid kd : Int) (s : ByteArray) (kv : Value) (keep : List Bool) (hs : s.size ≤ maxLen) (hb : pid < 9223372036854775808) (hkv : Reads w0 kv (keep.map Value.bool)) :
    Calls Tryz.prog 37 #[(.pointer (some ⟨tb, 0, none⟩)), .agg #[.int .i64 4, .int .i64 pid, .int .i64 kd, .string s, kv]] w fun e w' => e = .returned (.bool true) ∧ ∃ E', E' ≤ E + 1 ∧ TwoAt w0 w' ps tb N log cnt E' := by
  obtain ⟨d, x, r, tv, q, hq, H⟩ := h
  have HQ := hid hq
  have H0 := hid (H.alloc [.int .i64 4, .int .i64 pid, .int .i64 kd, .string s, kv] 46)
  obtain ⟨M, hM⟩ : ∃ M : Nat, M = min 510 s.size := ⟨_, rfl⟩
  have hM1 : min (s.size : Int) 510 = (M : Int) := by omega
  have hM2 : (M : Int) ≤ (s.size : Int) := by omega
  have hM3 : (s.size : Int) ≤ 9223372036854775807 := by simp only [maxLen] at hs; omega
  have hxs : (s.extract 0 M).size ≤ maxLen := by rw [ByteArray.size_extract]; simp only [maxLen] at hs ⊢; omega
  have HX := hid hxs
  have HC := hid (And.intro hh (And.intro sh (And.intro hE (And.intro hb hkv))))
  clear hM hs hxs H hh sh hE hb hkv hq
  go_enter Tryz.func37, Tryz.ntmps37
  go_upto_region 20 with fail
  generalize s.extract 0 M = z at *
  generalize w.heap.size = ab at *
  generalize (w.alloc _) = w1 at *
  clear hM1 hM2 hM3
  have hno := over_no HQ.out ((H0.out.pull 3 rfl).pull 3 rfl)
  have hno2 := hid (hno.pres ((Pres.refl [] w1).drew))
  clear hno
  refine wp_stages (by kernel_rfl) ?_
  have HD := hid (St.drew H0.out)
  generalize w1.drew = wd at *
  clear H0
  refine wp_stage (PairS tb ab d x r tv pid kd) [(0, true), (1, true), (2, true), (3, true), (4, true), (5, true), (7, true), (8, true), (9, true), (10, true), (11, true), (12, true), (6, false)] 3 rfl (by kernel_rfl) (by intro c a dd v w h; cases dd <;> exact h) ((pairS_of ((HD).out.obj 1 rfl) ((HD).out.obj 0 rfl))) ?_
  iterate 12 (refine wpOrd_read (v := _) rfl rfl (by intro w' hS; obtain ⟨s0, s1, s2, s3, s4, s5⟩ := id hS; clear hS; go_simp; rfl) ?_; (try simp only [Act.put, List.setIfInBounds_toArray, List.set_cons_succ, List.set_cons_zero, List.getElem_toArray, List.getElem_cons_succ, List.getElem_cons_zero]))
  refine wpOrd_do rfl rfl (fun K hK => ?_)
  go_simp
  refine (no_free hno2.out pid).mono ?_
  rintro en w2 ⟨rfl, P2⟩
  have H2 := hid (HD.out.quiet P2)
  refine hK _ _ ⟨(pairS_of ((H2).out.obj 1 rfl) ((H2).out.obj 0 rfl)), ?_⟩
  clear hK K HD
  (try simp only [Act.put, List.setIfInBounds_toArray, List.set_cons_succ, List.set_cons_zero, List.getElem_toArray, List.getElem_cons_succ, List.getElem_cons_zero])
  refine wpOrd_end ?_
  refine wp_stages_end 13 (by rfl) (by kernel_rfl) ?_
  simp only [List.drop_succ_cons, List.drop_zero]
  have hc2 := rf_free_no (H2.out.pull 4 rfl) pid
  go_wp2_with (go_at_call 70; refine hc2.mono ?_; rintro e w3 ⟨rfl, rfl⟩)
  go_ret
  exact ⟨by simp, E, Nat.le_succ _, .inl ⟨S, d, x, r, tv, q, HQ.out, H2.out.drop⟩⟩

set_option maxHeartbeats 4000000 in
theorem does_c5 (hh : HalfAt w0) (sh : Shape N log cnt) (hE : E < 900000) (h : TwoC w0 w ps tb N log cnt E S) (pid kd : Int) (s : ByteArray) (kv : Value) (keep : List Bool) (hs : s.size ≤ maxLen) (hb : pid < 9223372036854775808) (hkv : Reads w0 kv (keep.map Value.bool)) :
    Calls Tryz.prog 37 #[(.pointer (some ⟨tb, 0, none⟩)), .agg #[.int .i64 5, .int .i64 pid, .int .i64 kd, .string s, kv]] w fun e w' => e = .returned (.bool true) ∧ ∃ E', E' ≤ E + 1 ∧ TwoAt w0 w' ps tb N log cnt E' := by
  obtain ⟨d, x, r, tv, q, hq, H⟩ := h
  have HQ := hid hq
  have H0 := hid (H.alloc [.int .i64 5, .int .i64 pid, .int .i64 kd, .string s, kv] 46)
  obtain ⟨M, hM⟩ : ∃ M : Nat, M = min 510 s.size := ⟨_, rfl⟩
  have hM1 : min (s.size : Int) 510 = (M : Int) := by omega
  have hM2 : (M : Int) ≤ (s.size : Int) := by omega
  have hM3 : (s.size : Int) ≤ 9223372036854775807 := by simp only [maxLen] at hs; omega
  have hxs : (s.extract 0 M).size ≤ maxLen := by rw [ByteArray.size_extract]; simp only [maxLen] at hs ⊢; omega
  have HX := hid hxs
  have HC := hid (And.intro hh (And.intro sh (And.intro hE (And.intro hb hkv))))
  clear hM hs hxs H hh sh hE hb hkv hq
  go_enter Tryz.func37, Tryz.ntmps37
  go_upto_region 22 with fail
  generalize s.extract 0 M = z at *
  generalize w.heap.size = ab at *
  generalize (w.alloc _) = w1 at *
  clear hM1 hM2 hM3
  have hno := over_no HQ.out ((H0.out.pull 3 rfl).pull 3 rfl)
  have hno2 := hid (hno.pres ((Pres.refl [] w1).drew))
  clear hno
  refine wp_stages (by kernel_rfl) ?_
  have HD := hid (St.drew H0.out)
  generalize w1.drew = wd at *
  clear H0
  refine wp_stage (PairS tb ab d x r tv pid kd) [(0, true), (1, true), (2, true), (3, true), (4, true), (5, true), (6, true), (7, true), (9, true), (10, true), (11, true), (12, true), (13, true), (14, true), (15, true), (16, true), (8, false)] 3 rfl (by kernel_rfl) (by intro c a dd v w h; cases dd <;> exact h) ((pairS_of ((HD).out.obj 1 rfl) ((HD).out.obj 0 rfl))) ?_
  iterate 16 (refine wpOrd_read (v := _) rfl rfl (by intro w' hS; obtain ⟨s0, s1, s2, s3, s4, s5⟩ := id hS; clear hS; go_simp; rfl) ?_; (try simp only [Act.put, List.setIfInBounds_toArray, List.set_cons_succ, List.set_cons_zero, List.getElem_toArray, List.getElem_cons_succ, List.getElem_cons_zero]))
  refine wpOrd_do rfl rfl (fun K hK => ?_)
  go_simp
  refine (no_setroot hno2.out pid kd).mono ?_
  rintro en w2 ⟨rfl, rfl⟩
  have H2 := HD
  refine hK _ _ ⟨(pairS_of ((H2).out.obj 1 rfl) ((H2).out.obj 0 rfl)), ?_⟩
  clear hK K HD
  (try simp only [Act.put, List.setIfInBounds_toArray, List.set_cons_succ, List.set_cons_zero, List.getElem_toArray, List.getElem_cons_succ, List.getElem_cons_zero])
  refine wpOrd_end ?_
  refine wp_stages_end 17 (by rfl) (by kernel_rfl) ?_
  simp only [List.drop_succ_cons, List.drop_zero]
  have hc2 := rf_setroot_no (H2.out.pull 4 rfl) pid kd
  go_wp2_with (go_at_call 71; refine hc2.mono ?_; rintro e w3 ⟨rfl, rfl⟩)
  go_ret
  exact ⟨by simp, E, Nat.le_succ _, .inl ⟨S, d, x, r, tv, q, HQ.out, H2.out.drop⟩⟩

set_option maxHeartbeats 4000000 in
theorem does_c6 (hh : HalfAt w0) (sh : Shape N log cnt) (hE : E < 900000) (h : TwoC w0 w ps tb N log cnt E S) (pid kd : Int) (s : ByteArray) (kv : Value) (keep : List Bool) (hs : s.size ≤ maxLen) (hb : pid < 9223372036854775808) (hkv : Reads w0 kv (keep.map Value.bool)) :
    Calls Tryz.prog 37 #[(.pointer (some ⟨tb, 0, none⟩)), .agg #[.int .i64 6, .int .i64 pid, .int .i64 kd, .string s, kv]] w fun e w' => e = .returned (.bool true) ∧ ∃ E', E' ≤ E + 1 ∧ TwoAt w0 w' ps tb N log cnt E' := by
  obtain ⟨d, x, r, tv, q, hq, H⟩ := h
  have HQ := hid hq
  have H0 := hid (H.alloc [.int .i64 6, .int .i64 pid, .int .i64 kd, .string s, kv] 46)
  obtain ⟨M, hM⟩ : ∃ M : Nat, M = min 510 s.size := ⟨_, rfl⟩
  have hM1 : min (s.size : Int) 510 = (M : Int) := by omega
  have hM2 : (M : Int) ≤ (s.size : Int) := by omega
  have hM3 : (s.size : Int) ≤ 9223372036854775807 := by simp only [maxLen] at hs; omega
  have hxs : (s.extract 0 M).size ≤ maxLen := by rw [ByteArray.size_extract]; simp only [maxLen] at hs ⊢; omega
  have HX := hid hxs
  have HC := hid (And.intro hh (And.intro sh (And.intro hE (And.intro hb hkv))))
  clear hM hs hxs H hh sh hE hb hkv hq
  go_enter Tryz.func37, Tryz.ntmps37
  go_upto_region 24 with fail
  generalize s.extract 0 M = z at *
  generalize w.heap.size = ab at *
  generalize (w.alloc _) = w1 at *
  clear hM1 hM2 hM3
  have hno := over_no HQ.out ((H0.out.pull 3 rfl).pull 3 rfl)
  have hno2 := hid (hno.pres ((Pres.refl [] w1).drew))
  clear hno
  refine wp_stages (by kernel_rfl) ?_
  have HD := hid (St.drew H0.out)
  generalize w1.drew = wd at *
  clear H0
  refine wp_stage (PairS tb ab d x r tv pid kd) [(0, true), (1, true), (2, true), (3, true), (5, true), (6, true), (7, true), (8, true), (4, false)] 3 rfl (by kernel_rfl) (by intro c a dd v w h; cases dd <;> exact h) ((pairS_of ((HD).out.obj 1 rfl) ((HD).out.obj 0 rfl))) ?_
  iterate 8 (refine wpOrd_read (v := _) rfl rfl (by intro w' hS; obtain ⟨s0, s1, s2, s3, s4, s5⟩ := id hS; clear hS; go_simp; rfl) ?_; (try simp only [Act.put, List.setIfInBounds_toArray, List.set_cons_succ, List.set_cons_zero, List.getElem_toArray, List.getElem_cons_succ, List.getElem_cons_zero]))
  refine wpOrd_do rfl rfl (fun K hK => ?_)
  go_simp
  refine (no_commit hno2.out).mono ?_
  rintro en w2 ⟨rfl, rfl⟩
  have H2 := HD
  refine hK _ _ ⟨(pairS_of ((H2).out.obj 1 rfl) ((H2).out.obj 0 rfl)), ?_⟩
  clear hK K HD
  (try simp only [Act.put, List.setIfInBounds_toArray, List.set_cons_succ, List.set_cons_zero, List.getElem_toArray, List.getElem_cons_succ, List.getElem_cons_zero])
  refine wpOrd_end ?_
  refine wp_stages_end 9 (by rfl) (by kernel_rfl) ?_
  simp only [List.drop_succ_cons, List.drop_zero]
  have hc2 := rf_commit_no (H2.out.pull 4 rfl)
  go_wp2_with (go_at_call 72; refine hc2.mono ?_; rintro e w3 ⟨rfl, rfl⟩)
  go_ret
  exact ⟨by simp, E, Nat.le_succ _, .inl ⟨S, d, x, r, tv, q, HQ.out, H2.out.drop⟩⟩

set_option maxHeartbeats 4000000 in
theorem does_c3 (hh : HalfAt w0) (sh : Shape N log cnt) (hE : E < 900000) (h : TwoC w0 w ps tb N log cnt E S) (pid kd : Int) (s : ByteArray) (kv : Value) (keep : List Bool) (hs : s.size ≤ maxLen) (hb : pid < 9223372036854775808) (hkv : Reads w0 kv (keep.map Value.bool)) :
    Calls Tryz.prog 37 #[(.pointer (some ⟨tb, 0, none⟩)), .agg #[.int .i64 3, .int .i64 pid, .int .i64 kd, .string s, kv]] w fun e w' => e = .returned (.bool true) ∧ ∃ E', E' ≤ E + 1 ∧ TwoAt w0 w' ps tb N log cnt E' := by
  obtain ⟨d, x, r, tv, q, hq, H⟩ := h
  have HQ := hid hq
  have H0 := hid (H.alloc [.int .i64 3, .int .i64 pid, .int .i64 kd, .string s, kv] 46)
  obtain ⟨M, hM⟩ : ∃ M : Nat, M = min 510 s.size := ⟨_, rfl⟩
  have hM1 : min (s.size : Int) 510 = (M : Int) := by omega
  have hM2 : (M : Int) ≤ (s.size : Int) := by omega
  have hM3 : (s.size : Int) ≤ 9223372036854775807 := by simp only [maxLen] at hs; omega
  have hxs : (s.extract 0 M).size ≤ maxLen := by rw [ByteArray.size_extract]; simp only [maxLen] at hs ⊢; omega
  have HX := hid hxs
  have HC := hid (And.intro hh (And.intro sh (And.intro hE (And.intro hb hkv))))
  clear hM hs hxs H hh sh hE hb hkv hq
  go_enter Tryz.func37, Tryz.ntmps37
  go_upto_region 16 with fail
  generalize s.extract 0 M = z at *
  generalize w.heap.size = ab at *
  generalize (w.alloc _) = w1 at *
  clear hM1 hM2 hM3
  have hno := over_no HQ.out ((H0.out.pull 3 rfl).pull 3 rfl)
  have c2 : w1.cell? ⟨tb, 2, none⟩ = some tv := (H0.out.obj 1 rfl).cell 2
  have c3 : w1.cell? ⟨tb, 3, none⟩ = some (.pointer (some ⟨r, 0, none⟩)) := (H0.out.obj 1 rfl).cell 3
  have h1 := no_alloc hno
  have h2 := rf_alloc_no (H0.out.pull 4 rfl)
  clear hno
  go_wp2_with (first
    | (go_at_call 21; refine h1.mono ?_; rintro e w2 ⟨rfl, rfl⟩)
    | (go_at_call 69; refine h2.mono ?_; rintro e w2 ⟨rfl, rfl⟩))
  go_ret
  exact ⟨rfl, E, Nat.le_succ _, .inl ⟨S, d, x, r, tv, q, HQ.out, H0.out.drop⟩⟩

set_option maxHeartbeats 4000000 in
theorem does_c7 (hh : HalfAt w0) (sh : Shape N log cnt) (hE : E < 900000) (h : TwoC w0 w ps tb N log cnt E S) (pid kd : Int) (s : ByteArray) (kv : Value) (keep : List Bool) (hs : s.size ≤ maxLen) (hb : pid < 9223372036854775808) (hkv : Reads w0 kv (keep.map Value.bool)) :
    Calls Tryz.prog 37 #[(.pointer (some ⟨tb, 0, none⟩)), .agg #[.int .i64 7, .int .i64 pid, .int .i64 kd, .string s, kv]] w fun e w' => e = .returned (.bool true) ∧ ∃ E', E' ≤ E + 1 ∧ TwoAt w0 w' ps tb N log cnt E' := by
  obtain ⟨d, x, r, tv, q, hq, H⟩ := h
  have HQ := hid hq
  have H0 := hid (H.alloc [.int .i64 7, .int .i64 pid, .int .i64 kd, .string s, kv] 46)
  obtain ⟨M, hM⟩ : ∃ M : Nat, M = min 510 s.size := ⟨_, rfl⟩
  have hM1 : min (s.size : Int) 510 = (M : Int) := by omega
  have hM2 : (M : Int) ≤ (s.size : Int) := by omega
  have hM3 : (s.size : Int) ≤ 9223372036854775807 := by simp only [maxLen] at hs; omega
  have hxs : (s.extract 0 M).size ≤ maxLen := by rw [ByteArray.size_extract]; simp only [maxLen] at hs ⊢; omega
  have HX := hid hxs
  have HC := hid (And.intro hh (And.intro sh (And.intro hE (And.intro hb hkv))))
  clear hM hs hxs H hh sh hE hb hkv hq
  go_enter Tryz.func37, Tryz.ntmps37
  go_upto_region 26 with fail
  generalize s.extract 0 M = z at *
  generalize w.heap.size = ab at *
  generalize (w.alloc _) = w1 at *
  clear hM1 hM2 hM3
  have hno := over_no HQ.out ((H0.out.pull 3 rfl).pull 3 rfl)
  have c2 : w1.cell? ⟨tb, 2, none⟩ = some tv := (H0.out.obj 1 rfl).cell 2
  have c3 : w1.cell? ⟨tb, 3, none⟩ = some (.pointer (some ⟨r, 0, none⟩)) := (H0.out.obj 1 rfl).cell 3
  have h1 := no_abort hno
  have h2 := rf_abort_no (H0.out.pull 4 rfl)
  clear hno
  go_wp2_with (first
    | (go_at_call 17; refine h1.mono ?_; rintro e w2 ⟨rfl, rfl⟩)
    | (go_at_call 73; refine h2.mono ?_; rintro e w2 ⟨rfl, H2⟩; have H2 := hid H2))
  go_ret
  exact ⟨rfl, E, Nat.le_succ _, .inl ⟨S, d, x, r, tv, q, HQ.out, (((((H2.out.pull 1 rfl).drop).pull 3 rfl).pull 3 rfl).pull 3 rfl)⟩⟩

set_option maxHeartbeats 4000000 in
theorem does_c8 (hh : HalfAt w0) (sh : Shape N log cnt) (hE : E < 900000) (h : TwoC w0 w ps tb N log cnt E S) (pid kd : Int) (s : ByteArray) (kv : Value) (keep : List Bool) (hs : s.size ≤ maxLen) (hb : pid < 9223372036854775808) (hkv : Reads w0 kv (keep.map Value.bool)) :
    Calls Tryz.prog 37 #[(.pointer (some ⟨tb, 0, none⟩)), .agg #[.int .i64 8, .int .i64 pid, .int .i64 kd, .string s, kv]] w fun e w' => e = .returned (.bool true) ∧ ∃ E', E' ≤ E + 1 ∧ TwoAt w0 w' ps tb N log cnt E' := by
  obtain ⟨d, x, r, tv, q, hq, H⟩ := h
  have HQ := hid hq
  have H0 := hid (H.alloc [.int .i64 8, .int .i64 pid, .int .i64 kd, .string s, kv] 46)
  obtain ⟨M, hM⟩ : ∃ M : Nat, M = min 510 s.size := ⟨_, rfl⟩
  have hM1 : min (s.size : Int) 510 = (M : Int) := by omega
  have hM2 : (M : Int) ≤ (s.size : Int) := by omega
  have hM3 : (s.size : Int) ≤ 9223372036854775807 := by simp only [maxLen] at hs; omega
  have hxs : (s.extract 0 M).size ≤ maxLen := by rw [ByteArray.size_extract]; simp only [maxLen] at hs ⊢; omega
  have HX := hid hxs
  have HC := hid (And.intro hh (And.intro sh (And.intro hE (And.intro hb hkv))))
  clear hM hs hxs H hh sh hE hb hkv hq
  go_enter Tryz.func37, Tryz.ntmps37
  go_upto_region 34 with fail
  generalize s.extract 0 M = z at *
  generalize w.heap.size = ab at *
  generalize (w.alloc _) = w1 at *
  clear hM1 hM2 hM3
  have c1 : w1.cell? ⟨tb, 1, none⟩ = some (.pointer (some ⟨x, 0, none⟩)) := (H0.out.obj 1 rfl).cell 1
  have hck := db_checkpoint HC.out.1 (H0.out.pull 2 rfl) (by have := HC.out.2.2.1; omega)
  go_upto_region 35 with (go_at_call 23; refine hck.mono ?_; rintro e w2 (⟨rfl, H2⟩ | ⟨h9, -⟩); rotate_left; · cases h9)
  have H2 := hid (show St w0 w2 (dbP x d N log cnt (E + 1) false S :: objP ab _ 46 :: objP tb [(.pointer (some ⟨d, 0, none⟩)), (.pointer (some ⟨x, 0, none⟩)), tv, (.pointer (some ⟨r, 0, none⟩))] 81 :: q :: rfP r cnt log S :: ps) from H2)
  clear hck c1 H0
  have c3 : w2.cell? ⟨tb, 3, none⟩ = some (.pointer (some ⟨r, 0, none⟩)) := (H2.out.obj 2 rfl).cell 3
  obtain ⟨v, -, HR⟩ := rfP_open (H2.out.pull 4 rfl)
  have c5 : w2.cell? ⟨r, 5, none⟩ = some (.bool false) := (HR.obj 0 rfl).cell 5
  clear HR
  go_wp2
  go_ret
  exact ⟨rfl, E + 1, Nat.le_refl _, .inl ⟨S, d, x, r, tv, q, HQ.out, ((H2.out.pull 1 rfl).drop.pull 1 rfl)⟩⟩

set_option maxHeartbeats 4000000 in
theorem does_c10 (hh : HalfAt w0) (sh : Shape N log cnt) (hE : E < 900000) (h : TwoC w0 w ps tb N log cnt E S) (pid kd : Int) (s : ByteArray) (kv : Value) (keep : List Bool) (hs : s.size ≤ maxLen) (hb : pid < 9223372036854775808) (hkv : Reads w0 kv (keep.map Value.bool)) :
    Calls Tryz.prog 37 #[(.pointer (some ⟨tb, 0, none⟩)), .agg #[.int .i64 10, .int .i64 pid, .int .i64 kd, .string s, kv]] w fun e w' => e = .returned (.bool true) ∧ ∃ E', E' ≤ E + 1 ∧ TwoAt w0 w' ps tb N log cnt E' := by
  obtain ⟨d, x, r, tv, q, hq, H⟩ := h
  have HQ := hid hq
  have H0 := hid (H.alloc [.int .i64 10, .int .i64 pid, .int .i64 kd, .string s, kv] 46)
  obtain ⟨M, hM⟩ : ∃ M : Nat, M = min 510 s.size := ⟨_, rfl⟩
  have hM1 : min (s.size : Int) 510 = (M : Int) := by omega
  have hM2 : (M : Int) ≤ (s.size : Int) := by omega
  have hM3 : (s.size : Int) ≤ 9223372036854775807 := by simp only [maxLen] at hs; omega
  have hxs : (s.extract 0 M).size ≤ maxLen := by rw [ByteArray.size_extract]; simp only [maxLen] at hs ⊢; omega
  have HX := hid hxs
  have HC := hid (And.intro hh (And.intro sh (And.intro hE (And.intro hb hkv))))
  clear hM hs hxs H hh sh hE hb hkv hq
  go_enter Tryz.func37, Tryz.ntmps37
  go_upto_region 30 with fail
  generalize s.extract 0 M = z at *
  generalize w.heap.size = ab at *
  generalize (w.alloc _) = w1 at *
  clear hM1 hM2 hM3
  have c2 : w1.cell? ⟨tb, 2, none⟩ = some tv := (H0.out.obj 1 rfl).cell 2
  have hsp : Calls Tryz.prog 27 #[tv] w1 fun e w' => e = .returned (.tuple #[]) ∧ St w0 w' (q :: objP ab [.int .i64 10, .int .i64 pid, .int .i64 kd, .string s, kv] 46 :: objP tb [(.pointer (some ⟨d, 0, none⟩)), (.pointer (some ⟨x, 0, none⟩)), tv, (.pointer (some ⟨r, 0, none⟩))] 81 :: dbP x d N log cnt E false S :: rfP r cnt log S :: ps) := by
    rcases HQ.out with ⟨rfl, rfl⟩ | ⟨t, rfl, rfl⟩
    · refine (no_spoil w1).mono ?_
      rintro e w' ⟨rfl, rfl⟩
      exact ⟨rfl, H0.out.pull 3 rfl⟩
    · exact stale_spoil (H0.out.pull 3 rfl)
  go_upto_region 31 with (go_at_call 27; refine hsp.mono ?_; rintro e w2 ⟨rfl, H2⟩)
  have H2 := hid H2
  clear hsp c2 H0
  obtain ⟨v, hv, HR⟩ := rfP_open (H2.out.pull 4 rfl)
  have HR := hid HR
  have HV := hid hv
  clear hv H2
  refine wp_stages (by kernel_rfl) ?_
  have HD := hid (St.drew HR.out)
  generalize w2.drew = wd at *
  clear HR
  have S0 : Hid (wd.cell? ⟨tb, 3, none⟩ = some (.pointer (some ⟨r, 0, none⟩)) ∧ wd.cell? ⟨r, 5, none⟩ = some (.bool false)) := hid ⟨(HD.out.obj 4 rfl).cell 3, (HD.out.obj 0 rfl).cell 5⟩
  refine wp_stage (fun W => W.cell? ⟨tb, 3, none⟩ = some (.pointer (some ⟨r, 0, none⟩)) ∧ W.cell? ⟨r, 5, none⟩ = some (.bool false)) [(0, true), (1, true), (2, true), (3, true), (4, true), (5, true), (6, true), (7, true), (8, true), (9, true), (10, true)] 3 rfl (by kernel_rfl) (by intro c a dd v w h; cases dd <;> exact h) (S0.out) ?_
  iterate 11 (refine wpOrd_read (v := _) rfl rfl (by intro w' hS; obtain ⟨s0, s1⟩ := id hS; clear hS; go_simp; rfl) ?_; (try simp only [Act.put, List.setIfInBounds_toArray, List.set_cons_succ, List.set_cons_zero, List.getElem_toArray, List.getElem_cons_succ, List.getElem_cons_zero]))
  refine wpOrd_end ?_
  refine wp_stages_end 11 (by rfl) (by kernel_rfl) ?_
  simp only [List.drop_succ_cons, List.drop_zero]
  have c11 : wd.cell? ⟨r, 11, none⟩ = some (.bool v.sp) := (HD.out.obj 0 rfl).cell 11
  have f11 := (HD.out.obj 0 rfl).frozen 11
  have l11 := (HD.out.obj 0 rfl).lt
  have H5 := hid (HD.out.set 0 rfl 11 (.bool false))
  clear HD S0
  go_wp2
  go_ret
  have h6 := rfP_mk (S := S) (cnt := cnt) (log := log) (r := r) ⟨v.pv, v.fv, v.rv, v.pt, v.ft, v.rt, v.tv, v.md, false⟩ HV.out H5.out
  have h7 := (h6.pull 2 rfl).drop
  exact ⟨rfl, E, Nat.le_succ _, .inl ⟨S, d, x, r, tv, q, HQ.out, ((h7.pull 1 rfl).pull 3 rfl).pull 3 rfl⟩⟩

end
end Go.Proofs.YtnffnpndnaofhaaGreatDoor
