/- Parts of the proof: aquiferlaw10.two.does with a transaction: each kind of call; conditions stand in the theorems. -/
import Derived.Test.YtnffnpndnaofhaaGreatDoorQbh

/- aquiferlaw10.two.does with a transaction: each kind of call; conditions stand in the theorems. -/
namespace Go.Proofs.YtnffnpndnaofhaaGreatDoor
open Go.RowKit
set_option maxRecDepth 100000

section
variable {w0 w : World} {ps : List HP} {tb N log cnt E : Nat} {S T : PSt} {tk : Nat → Bool} {mk sp : Bool}

theorem tp_setroot_any {x d t : Nat} {arm spoilt : Bool} (H : St w0 w (txP x d t N log cnt E arm S T tk mk spoilt :: ps)) (i v : Int) :
    Calls Tryz.prog 30 #[(.pointer (some ⟨t, 0, none⟩)), .int .i64 i, .int .i64 v] w fun e w' => e = .returned (.int .i64 (setE i v)) ∧
      St w0 w' (txP x d t N log cnt E arm S (if setE i v = 0 then T.setRoot i.toNat v.toNat else T) tk (if setE i v = 0 then true else mk) spoilt :: ps) := by
  by_cases hbad : i < 0 ∨ 3 < i ∨ v < 0 ∨ 2147483647 < v
  · rw [show setE i v = 2 from if_pos hbad]
    simp only [show ¬ ((2 : Int) = 0) by decide, if_false]
    refine (tp_setroot_bad H i v hbad).mono ?_
    rintro e w' ⟨rfl, rfl⟩
    exact ⟨rfl, H⟩
  · rw [show setE i v = 0 from if_neg hbad]
    simp only [if_true]
    obtain ⟨k, rfl⟩ : ∃ k : Nat, i = (k : Int) := ⟨i.toNat, by omega⟩
    obtain ⟨m, rfl⟩ : ∃ m : Nat, v = (m : Int) := ⟨v.toNat, by omega⟩
    rw [Int.toNat_natCast, Int.toNat_natCast]
    exact tp_setroot H k m (by omega) (by omega)

set_option maxHeartbeats 4000000 in
theorem does_o0 (hh : HalfAt w0) (sh : Shape N log cnt) (hE : E < 900000) (h : TwoO w0 w ps tb N log cnt E S T tk mk sp) (pid kd : Int) (s : ByteArray) (kv : Value) (keep : List Bool) (hs : s.size ≤ maxLen) (hb : pid < 9223372036854775808) (hkv : Reads w0 kv (keep.map Value.bool)) :
    Calls Tryz.prog 37 #[(.pointer (some ⟨tb, 0, none⟩)), .agg #[.int .i64 0, .int .i64 pid, .int .i64 kd, .string s, kv]] w fun e w' => e = .returned (.bool true) ∧ ∃ E', E' ≤ E + 1 ∧ TwoAt w0 w' ps tb N log cnt E' := by
  obtain ⟨d, x, r, t, H⟩ := h
  have H0 := hid (H.alloc [.int .i64 0, .int .i64 pid, .int .i64 kd, .string s, kv] 46)
  obtain ⟨M, hM⟩ : ∃ M : Nat, M = min 510 s.size := ⟨_, rfl⟩
  have hM1 : min (s.size : Int) 510 = (M : Int) := by omega
  have hM2 : (M : Int) ≤ (s.size : Int) := by omega
  have hM3 : (s.size : Int) ≤ 9223372036854775807 := by simp only [maxLen] at hs; omega
  have hxs : (s.extract 0 M).size ≤ maxLen := by rw [ByteArray.size_extract]; simp only [maxLen] at hs ⊢; omega
  have HX := hid hxs
  have HC := hid (And.intro hh (And.intro sh (And.intro hE (And.intro hb hkv))))
  clear hM hs hxs H hh sh hE hb hkv
  go_enter Tryz.func37, Tryz.ntmps37
  go_upto_region 4 with fail
  generalize s.extract 0 M = z at *
  generalize w.heap.size = ab at *
  generalize (w.alloc _) = w1 at *
  clear hM1 hM2 hM3
  have c1 : w1.cell? ⟨tb, 1, none⟩ = some (.pointer (some ⟨x, 0, none⟩)) := (H0.out.obj 1 rfl).cell 1
  have c3 : w1.cell? ⟨tb, 3, none⟩ = some (.pointer (some ⟨r, 0, none⟩)) := (H0.out.obj 1 rfl).cell 3
  have h1 := tp_begin_busy (H0.out.pull 2 rfl)
  have h2 := rf_begin_busy (H0.out.pull 3 rfl)
  go_wp2_with (first
    | (go_at_call 15; refine h1.mono ?_; rintro e w2 ⟨rfl, rfl⟩)
    | (go_at_call 66; refine h2.mono ?_; rintro e w2 ⟨rfl, rfl⟩))
  go_ret
  exact ⟨rfl, E, Nat.le_succ _, .inr ⟨S, T, tk, mk, sp, d, x, r, t, H0.out.drop⟩⟩

set_option maxHeartbeats 4000000 in
theorem does_o1 (hh : HalfAt w0) (sh : Shape N log cnt) (hE : E < 900000) (h : TwoO w0 w ps tb N log cnt E S T tk mk sp) (pid kd : Int) (s : ByteArray) (kv : Value) (keep : List Bool) (hs : s.size ≤ maxLen) (hb : pid < 9223372036854775808) (hkv : Reads w0 kv (keep.map Value.bool)) :
    Calls Tryz.prog 37 #[(.pointer (some ⟨tb, 0, none⟩)), .agg #[.int .i64 1, .int .i64 pid, .int .i64 kd, .string s, kv]] w fun e w' => e = .returned (.bool true) ∧ ∃ E', E' ≤ E + 1 ∧ TwoAt w0 w' ps tb N log cnt E' := by
  obtain ⟨d, x, r, t, H⟩ := h
  have H0 := hid (H.alloc [.int .i64 1, .int .i64 pid, .int .i64 kd, .string s, kv] 46)
  obtain ⟨M, hM⟩ : ∃ M : Nat, M = min 510 s.size := ⟨_, rfl⟩
  have hM1 : min (s.size : Int) 510 = (M : Int) := by omega
  have hM2 : (M : Int) ≤ (s.size : Int) := by omega
  have hM3 : (s.size : Int) ≤ 9223372036854775807 := by simp only [maxLen] at hs; omega
  have hxs : (s.extract 0 M).size ≤ maxLen := by rw [ByteArray.size_extract]; simp only [maxLen] at hs ⊢; omega
  have HX := hid hxs
  have HC := hid (And.intro hh (And.intro sh (And.intro hE (And.intro hb hkv))))
  clear hM hs hxs H hh sh hE hb hkv
  go_enter Tryz.func37, Tryz.ntmps37
  go_upto_region 10 with fail
  generalize s.extract 0 M = z at *
  generalize w.heap.size = ab at *
  generalize (w.alloc _) = w1 at *
  clear hM1 hM2 hM3
  have hf := hid (tp_facts (H0.out.pull 2 rfl))
  obtain ⟨k1, z1, e1, q1, q2, q3⟩ : ∃ (k1 : Int) (z1 : ByteArray) (e1 : Int), Hid ((if T.there pid = 0 then ((T.page pid).1 : Int) else 0) = k1) ∧ Hid (strV (if T.there pid = 0 then (T.page pid).2 else []) = .string z1) ∧ Hid (T.there pid = e1) := ⟨_, _, _, hid rfl, hid rfl, hid rfl⟩
  have hr1 := fun W (h : St w0 W _) => tp_read (k := pid) (w := W) HC.out.1 (show St w0 W (txP x d t N log cnt E false S T tk mk sp :: objP ab [.int .i64 1, .int .i64 pid, .int .i64 kd, .string s, kv] 46 :: objP tb [(.pointer (some ⟨d, 0, none⟩)), (.pointer (some ⟨x, 0, none⟩)), (.pointer (some ⟨t, 0, none⟩)), (.pointer (some ⟨r, 0, none⟩))] 81 :: rfoP r cnt log S T tk mk sp :: ps) from h) HC.out.2.2.2.1
  have hr2 := fun W (h : St w0 W _) => rf_read (id := pid) (w := W) (show St w0 W (rfoP r cnt log S T tk mk sp :: objP ab [.int .i64 1, .int .i64 pid, .int .i64 kd, .string s, kv] 46 :: objP tb [(.pointer (some ⟨d, 0, none⟩)), (.pointer (some ⟨x, 0, none⟩)), (.pointer (some ⟨t, 0, none⟩)), (.pointer (some ⟨r, 0, none⟩))] 81 :: txP x d t N log cnt E false S T tk mk sp :: ps) from h) (by have := hf.out.2.2.1; have := hf.out.2.2.2.2.2.1; omega)
  rw [q1.out, q2.out, q3.out] at hr1 hr2
  have HR := hid (And.intro hr1 hr2)
  clear hr1 hr2
  refine wp_stages (by kernel_rfl) ?_
  have HD := hid (St.drew H0.out)
  generalize w1.drew = wd at *
  clear H0
  refine wp_stage (PairS tb ab d x r (.pointer (some ⟨t, 0, none⟩)) pid kd) [(0, true), (1, true), (2, true), (3, true), (4, true), (5, true), (6, false)] 7 rfl (by kernel_rfl) (by intro c a dd v w h; cases dd <;> exact h) ((pairS_of (HD.out.obj 1 rfl) (HD.out.obj 0 rfl))) ?_
  iterate 6 (refine wpOrd_read (v := _) rfl rfl (by intro w' hS; obtain ⟨s0, s1, s2, s3, s4, s5⟩ := id hS; clear hS; go_simp; rfl) ?_; (try simp only [Act.put, List.setIfInBounds_toArray, List.set_cons_succ, List.set_cons_zero, List.getElem_toArray, List.getElem_cons_succ, List.getElem_cons_zero]))
  refine wpOrd_do rfl rfl (fun K hK => ?_)
  go_simp
  refine (HR.out.1 _ (HD.out.pull 2 rfl)).mono ?_
  rintro en w2 ⟨rfl, H2⟩
  have H2 := hid ((H2.pull 2 rfl).pull 2 rfl)
  refine hK _ _ ⟨pairS_of (H2.out.obj 1 rfl) (H2.out.obj 0 rfl), ?_⟩
  clear hK K HD
  (try simp only [Act.put, List.setIfInBounds_toArray, List.set_cons_succ, List.set_cons_zero, List.getElem_toArray, List.getElem_cons_succ, List.getElem_cons_zero])
  refine wpOrd_end ?_
  refine wp_stage (fun _ => True) [(7, true), (8, true), (9, true), (10, true), (11, false), (12, false)] 1 rfl (by kernel_rfl) (by intro c a dd v w h; cases dd <;> exact h) (trivial) ?_
  iterate 4 (refine wpOrd_read (v := _) rfl rfl (by intro w' hS; skip; clear hS; go_simp; rfl) ?_; (try simp only [Act.put, List.setIfInBounds_toArray, List.set_cons_succ, List.set_cons_zero, List.getElem_toArray, List.getElem_cons_succ, List.getElem_cons_zero]))
  refine wpOrd_do rfl rfl (fun K hK => ?_)
  go_simp
  refine hK _ _ ⟨trivial, ?_⟩
  clear hK K
  (try simp only [Act.put, List.setIfInBounds_toArray, List.set_cons_succ, List.set_cons_zero, List.getElem_toArray, List.getElem_cons_succ, List.getElem_cons_zero])
  refine wpOrd_do rfl rfl (fun K hK => ?_)
  go_simp
  refine hK _ _ ⟨trivial, ?_⟩
  clear hK K
  (try simp only [Act.put, List.setIfInBounds_toArray, List.set_cons_succ, List.set_cons_zero, List.getElem_toArray, List.getElem_cons_succ, List.getElem_cons_zero])
  refine wpOrd_end ?_
  refine wp_stages_end 13 (by rfl) (by kernel_rfl) ?_
  simp only [List.drop_succ_cons, List.drop_zero]
  go_upto_region 11 with fail
  refine wp_stages (by kernel_rfl) ?_
  have HE := hid (St.drew H2.out)
  generalize w2.drew = we at *
  clear H2
  refine wp_stage (PairS tb ab d x r (.pointer (some ⟨t, 0, none⟩)) pid kd) [(0, true), (1, true), (2, true), (3, true), (4, true), (5, true), (6, false)] 7 rfl (by kernel_rfl) (by intro c a dd v w h; cases dd <;> exact h) ((pairS_of (HE.out.obj 1 rfl) (HE.out.obj 0 rfl))) ?_
  iterate 6 (refine wpOrd_read (v := _) rfl rfl (by intro w' hS; obtain ⟨s0, s1, s2, s3, s4, s5⟩ := id hS; clear hS; go_simp; rfl) ?_; (try simp only [Act.put, List.setIfInBounds_toArray, List.set_cons_succ, List.set_cons_zero, List.getElem_toArray, List.getElem_cons_succ, List.getElem_cons_zero]))
  refine wpOrd_do rfl rfl (fun K hK => ?_)
  go_simp
  refine (HR.out.2 _ (HE.out.pull 3 rfl)).mono ?_
  rintro en w3 ⟨rfl, H3⟩
  have H3 := hid (((H3.pull 3 rfl).pull 3 rfl).pull 3 rfl)
  refine hK _ _ ⟨pairS_of (H3.out.obj 1 rfl) (H3.out.obj 0 rfl), ?_⟩
  clear hK K HE
  (try simp only [Act.put, List.setIfInBounds_toArray, List.set_cons_succ, List.set_cons_zero, List.getElem_toArray, List.getElem_cons_succ, List.getElem_cons_zero])
  refine wpOrd_end ?_
  refine wp_stage (fun _ => True) [(7, true), (8, true), (9, true), (10, true), (11, false), (12, false)] 1 rfl (by kernel_rfl) (by intro c a dd v w h; cases dd <;> exact h) (trivial) ?_
  iterate 4 (refine wpOrd_read (v := _) rfl rfl (by intro w' hS; skip; clear hS; go_simp; rfl) ?_; (try simp only [Act.put, List.setIfInBounds_toArray, List.set_cons_succ, List.set_cons_zero, List.getElem_toArray, List.getElem_cons_succ, List.getElem_cons_zero]))
  refine wpOrd_do rfl rfl (fun K hK => ?_)
  go_simp
  refine hK _ _ ⟨trivial, ?_⟩
  clear hK K
  (try simp only [Act.put, List.setIfInBounds_toArray, List.set_cons_succ, List.set_cons_zero, List.getElem_toArray, List.getElem_cons_succ, List.getElem_cons_zero])
  refine wpOrd_do rfl rfl (fun K hK => ?_)
  go_simp
  refine hK _ _ ⟨trivial, ?_⟩
  clear hK K
  (try simp only [Act.put, List.setIfInBounds_toArray, List.set_cons_succ, List.set_cons_zero, List.getElem_toArray, List.getElem_cons_succ, List.getElem_cons_zero])
  refine wpOrd_end ?_
  refine wp_stages_end 13 (by rfl) (by kernel_rfl) ?_
  simp only [List.drop_succ_cons, List.drop_zero]
  go_wp2
  go_ret
  exact ⟨by simp, E, Nat.le_succ _, .inr ⟨S, T, tk, mk, sp, d, x, r, t, H3.out.drop⟩⟩

set_option maxHeartbeats 4000000 in
theorem does_o2 (hh : HalfAt w0) (sh : Shape N log cnt) (hE : E < 900000) (h : TwoO w0 w ps tb N log cnt E S T tk mk sp) (pid kd : Int) (s : ByteArray) (kv : Value) (keep : List Bool) (hs : s.size ≤ maxLen) (hb : pid < 9223372036854775808) (hkv : Reads w0 kv (keep.map Value.bool)) :
    Calls Tryz.prog 37 #[(.pointer (some ⟨tb, 0, none⟩)), .agg #[.int .i64 2, .int .i64 pid, .int .i64 kd, .string s, kv]] w fun e w' => e = .returned (.bool true) ∧ ∃ E', E' ≤ E + 1 ∧ TwoAt w0 w' ps tb N log cnt E' := by
  obtain ⟨d, x, r, t, H⟩ := h
  have H0 := hid (H.alloc [.int .i64 2, .int .i64 pid, .int .i64 kd, .string s, kv] 46)
  obtain ⟨M, hM⟩ : ∃ M : Nat, M = min 510 s.size := ⟨_, rfl⟩
  have hM1 : min (s.size : Int) 510 = (M : Int) := by omega
  have hM2 : (M : Int) ≤ (s.size : Int) := by omega
  have hM3 : (s.size : Int) ≤ 9223372036854775807 := by simp only [maxLen] at hs; omega
  have hxs : (s.extract 0 M).size ≤ maxLen := by rw [ByteArray.size_extract]; simp only [maxLen] at hs ⊢; omega
  have HX := hid hxs
  have HC := hid (And.intro hh (And.intro sh (And.intro hE (And.intro hb hkv))))
  clear hM hs hxs H hh sh hE hb hkv
  go_enter Tryz.func37, Tryz.ntmps37
  go_upto_region 14 with fail
  generalize s.extract 0 M = z at *
  generalize w.heap.size = ab at *
  generalize (w.alloc _) = w1 at *
  clear hM1 hM2 hM3
  have hf := hid (tp_facts (H0.out.pull 2 rfl))
  obtain ⟨E1, hE1⟩ : ∃ E1, Hid (T.writeE pid kd z.size = E1) := ⟨_, hid rfl⟩
  have hr1 := fun W (h : St w0 W _) => tp_write (w := W) HC.out.1 (show St w0 W (txP x d t N log cnt E false S T tk mk sp :: objP ab [.int .i64 2, .int .i64 pid, .int .i64 kd, .string s, kv] 46 :: objP tb [(.pointer (some ⟨d, 0, none⟩)), (.pointer (some ⟨x, 0, none⟩)), (.pointer (some ⟨t, 0, none⟩)), (.pointer (some ⟨r, 0, none⟩))] 81 :: rfoP r cnt log S T tk mk sp :: ps) from h) pid kd HC.out.2.2.2.1 z
  have hr2 := fun W T' tk' mk' (h : St w0 W _) => rf_write (w := W) (show St w0 W (rfoP r cnt log S T tk mk sp :: objP ab [.int .i64 2, .int .i64 pid, .int .i64 kd, .string s, kv] 46 :: objP tb [(.pointer (some ⟨d, 0, none⟩)), (.pointer (some ⟨x, 0, none⟩)), (.pointer (some ⟨t, 0, none⟩)), (.pointer (some ⟨r, 0, none⟩))] 81 :: txP x d t N log cnt E false S T' tk' mk' sp :: ps) from h) pid kd z HX.out hf.out.2.2.1 hf.out.2.2.2.2.2.1
  simp only [hE1.out] at hr1 hr2
  have HR := hid (And.intro hr1 hr2)
  clear hr1 hr2
  refine wp_stages (by kernel_rfl) ?_
  have HD := hid (St.drew H0.out)
  generalize w1.drew = wd at *
  clear H0
  refine wp_stage (PairS tb ab d x r (.pointer (some ⟨t, 0, none⟩)) pid kd) [(0, true), (1, true), (2, true), (3, true), (4, true), (5, true), (6, true), (7, true), (8, true), (10, true), (11, true), (12, true), (13, true), (14, true), (15, true), (16, true), (17, true), (18, true), (9, false)] 3 rfl (by kernel_rfl) (by intro c a dd v w h; cases dd <;> exact h) ((pairS_of (HD.out.obj 1 rfl) (HD.out.obj 0 rfl))) ?_
  iterate 18 (refine wpOrd_read (v := _) rfl rfl (by intro w' hS; obtain ⟨s0, s1, s2, s3, s4, s5⟩ := id hS; clear hS; go_simp; rfl) ?_; (try simp only [Act.put, List.setIfInBounds_toArray, List.set_cons_succ, List.set_cons_zero, List.getElem_toArray, List.getElem_cons_succ, List.getElem_cons_zero]))
  refine wpOrd_do rfl rfl (fun K hK => ?_)
  go_simp
  refine (HR.out.1 _ (HD.out.pull 2 rfl)).mono ?_
  rintro en w2 ⟨rfl, H2⟩
  have H2 := hid ((H2.pull 2 rfl).pull 2 rfl)
  refine hK _ _ ⟨pairS_of (H2.out.obj 1 rfl) (H2.out.obj 0 rfl), ?_⟩
  clear hK K HD
  (try simp only [Act.put, List.setIfInBounds_toArray, List.set_cons_succ, List.set_cons_zero, List.getElem_toArray, List.getElem_cons_succ, List.getElem_cons_zero])
  refine wpOrd_end ?_
  refine wp_stages_end 19 (by rfl) (by kernel_rfl) ?_
  simp only [List.drop_succ_cons, List.drop_zero]
  have hc2 := HR.out.2 _ _ _ _ (H2.out.pull 3 rfl)
  clear HR
  go_wp2_with (go_at_call 68; refine hc2.mono ?_; rintro e w3 ⟨rfl, H3⟩; have H3 := hid H3)
  go_ret
  exact ⟨by simp, E, Nat.le_succ _, .inr ⟨S, _, _, mk, sp, d, x, r, t, ((H3.out.pull 1 rfl).drop.pull 2 rfl).pull 2 rfl⟩⟩

set_option maxHeartbeats 4000000 in
theorem does_o4 (hh : HalfAt w0) (sh : Shape N log cnt) (hE : E < 900000) (h : TwoO w0 w ps tb N log cnt E S T tk mk sp) (pid kd : Int) (s : ByteArray) (kv : Value) (keep : List Bool) (hs : s.size ≤ maxLen) (hb : pid < 9223372036854775808) (hkv : Reads w0 kv (keep.map Value.bool)) :
    Calls Tryz.prog 37 #[(.pointer (some ⟨tb, 0, none⟩)), .agg #[.int .i64 4, .int .i64 pid, .int .i64 kd, .string s, kv]] w fun e w' => e = .returned (.bool true) ∧ ∃ E', E' ≤ E + 1 ∧ TwoAt w0 w' ps tb N log cnt E' := by
  obtain ⟨d, x, r, t, H⟩ := h
  have H0 := hid (H.alloc [.int .i64 4, .int .i64 pid, .int .i64 kd, .string s, kv] 46)
  obtain ⟨M, hM⟩ : ∃ M : Nat, M = min 510 s.size := ⟨_, rfl⟩
  have hM1 : min (s.size : Int) 510 = (M : Int) := by omega
  have hM2 : (M : Int) ≤ (s.size : Int) := by omega
  have hM3 : (s.size : Int) ≤ 9223372036854775807 := by simp only [maxLen] at hs; omega
  have hxs : (s.extract 0 M).size ≤ maxLen := by rw [ByteArray.size_extract]; simp only [maxLen] at hs ⊢; omega
  have HX := hid hxs
  have HC := hid (And.intro hh (And.intro sh (And.intro hE (And.intro hb hkv))))
  clear hM hs hxs H hh sh hE hb hkv
  go_enter Tryz.func37, Tryz.ntmps37
  go_upto_region 20 with fail
  generalize s.extract 0 M = z at *
  generalize w.heap.size = ab at *
  generalize (w.alloc _) = w1 at *
  clear hM1 hM2 hM3
  have hf := hid (tp_facts (H0.out.pull 2 rfl))
  obtain ⟨E1, hE1⟩ : ∃ E1, Hid (T.there pid = E1) := ⟨_, hid rfl⟩
  have hr1 := fun W (h : St w0 W _) => tp_free (w := W) HC.out.1 (show St w0 W (txP x d t N log cnt E false S T tk mk sp :: objP ab [.int .i64 4, .int .i64 pid, .int .i64 kd, .string s, kv] 46 :: objP tb [(.pointer (some ⟨d, 0, none⟩)), (.pointer (some ⟨x, 0, none⟩)), (.pointer (some ⟨t, 0, none⟩)), (.pointer (some ⟨r, 0, none⟩))] 81 :: rfoP r cnt log S T tk mk sp :: ps) from h) pid HC.out.2.2.2.1
  have hr2 := fun W T' tk' mk' (h : St w0 W _) => rf_free (w := W) (show St w0 W (rfoP r cnt log S T tk mk sp :: objP ab [.int .i64 4, .int .i64 pid, .int .i64 kd, .string s, kv] 46 :: objP tb [(.pointer (some ⟨d, 0, none⟩)), (.pointer (some ⟨x, 0, none⟩)), (.pointer (some ⟨t, 0, none⟩)), (.pointer (some ⟨r, 0, none⟩))] 81 :: txP x d t N log cnt E false S T' tk' mk' sp :: ps) from h) pid hf.out.2.2.1 hf.out.2.2.2.1 hf.out.2.2.2.2.2.1
  simp only [hE1.out] at hr1 hr2
  have HR := hid (And.intro hr1 hr2)
  clear hr1 hr2
  refine wp_stages (by kernel_rfl) ?_
  have HD := hid (St.drew H0.out)
  generalize w1.drew = wd at *
  clear H0
  refine wp_stage (PairS tb ab d x r (.pointer (some ⟨t, 0, none⟩)) pid kd) [(0, true), (1, true), (2, true), (3, true), (4, true), (5, true), (7, true), (8, true), (9, true), (10, true), (11, true), (12, true), (6, false)] 3 rfl (by kernel_rfl) (by intro c a dd v w h; cases dd <;> exact h) ((pairS_of (HD.out.obj 1 rfl) (HD.out.obj 0 rfl))) ?_
  iterate 12 (refine wpOrd_read (v := _) rfl rfl (by intro w' hS; obtain ⟨s0, s1, s2, s3, s4, s5⟩ := id hS; clear hS; go_simp; rfl) ?_; (try simp only [Act.put, List.setIfInBounds_toArray, List.set_cons_succ, List.set_cons_zero, List.getElem_toArray, List.getElem_cons_succ, List.getElem_cons_zero]))
  refine wpOrd_do rfl rfl (fun K hK => ?_)
  go_simp
  refine (HR.out.1 _ (HD.out.pull 2 rfl)).mono ?_
  rintro en w2 ⟨rfl, H2⟩
  have H2 := hid ((H2.pull 2 rfl).pull 2 rfl)
  refine hK _ _ ⟨pairS_of (H2.out.obj 1 rfl) (H2.out.obj 0 rfl), ?_⟩
  clear hK K HD
  (try simp only [Act.put, List.setIfInBounds_toArray, List.set_cons_succ, List.set_cons_zero, List.getElem_toArray, List.getElem_cons_succ, List.getElem_cons_zero])
  refine wpOrd_end ?_
  refine wp_stages_end 13 (by rfl) (by kernel_rfl) ?_
  simp only [List.drop_succ_cons, List.drop_zero]
  have hc2 := HR.out.2 _ _ _ _ (H2.out.pull 3 rfl)
  clear HR
  go_wp2_with (go_at_call 70; refine hc2.mono ?_; rintro e w3 ⟨rfl, H3⟩; have H3 := hid H3)
  go_ret
  exact ⟨by simp, E, Nat.le_succ _, .inr ⟨S, _, _, _, sp, d, x, r, t, ((H3.out.pull 1 rfl).drop.pull 2 rfl).pull 2 rfl⟩⟩

set_option maxHeartbeats 4000000 in
theorem does_o5 (hh : HalfAt w0) (sh : Shape N log cnt) (hE : E < 900000) (h : TwoO w0 w ps tb N log cnt E S T tk mk sp) (pid kd : Int) (s : ByteArray) (kv : Value) (keep : List Bool) (hs : s.size ≤ maxLen) (hb : pid < 9223372036854775808) (hkv : Reads w0 kv (keep.map Value.bool)) :
    Calls Tryz.prog 37 #[(.pointer (some ⟨tb, 0, none⟩)), .agg #[.int .i64 5, .int .i64 pid, .int .i64 kd, .string s, kv]] w fun e w' => e = .returned (.bool true) ∧ ∃ E', E' ≤ E + 1 ∧ TwoAt w0 w' ps tb N log cnt E' := by
  obtain ⟨d, x, r, t, H⟩ := h
  have H0 := hid (H.alloc [.int .i64 5, .int .i64 pid, .int .i64 kd, .string s, kv] 46)
  obtain ⟨M, hM⟩ : ∃ M : Nat, M = min 510 s.size := ⟨_, rfl⟩
  have hM1 : min (s.size : Int) 510 = (M : Int) := by omega
  have hM2 : (M : Int) ≤ (s.size : Int) := by omega
  have hM3 : (s.size : Int) ≤ 9223372036854775807 := by simp only [maxLen] at hs; omega
  have hxs : (s.extract 0 M).size ≤ maxLen := by rw [ByteArray.size_extract]; simp only [maxLen] at hs ⊢; omega
  have HX := hid hxs
  have HC := hid (And.intro hh (And.intro sh (And.intro hE (And.intro hb hkv))))
  clear hM hs hxs H hh sh hE hb hkv
  go_enter Tryz.func37, Tryz.ntmps37
  go_upto_region 22 with fail
  generalize s.extract 0 M = z at *
  generalize w.heap.size = ab at *
  generalize (w.alloc _) = w1 at *
  clear hM1 hM2 hM3
  have hf := hid (tp_facts (H0.out.pull 2 rfl))
  obtain ⟨E1, hE1⟩ : ∃ E1, Hid (setE pid kd = E1) := ⟨_, hid rfl⟩
  have hr1 := fun W (h : St w0 W _) => tp_setroot_any (w := W) (show St w0 W (txP x d t N log cnt E false S T tk mk sp :: objP ab [.int .i64 5, .int .i64 pid, .int .i64 kd, .string s, kv] 46 :: objP tb [(.pointer (some ⟨d, 0, none⟩)), (.pointer (some ⟨x, 0, none⟩)), (.pointer (some ⟨t, 0, none⟩)), (.pointer (some ⟨r, 0, none⟩))] 81 :: rfoP r cnt log S T tk mk sp :: ps) from h) pid kd
  have hr2 := fun W T' tk' mk' (h : St w0 W _) => rf_setroot (w := W) (show St w0 W (rfoP r cnt log S T tk mk sp :: objP ab [.int .i64 5, .int .i64 pid, .int .i64 kd, .string s, kv] 46 :: objP tb [(.pointer (some ⟨d, 0, none⟩)), (.pointer (some ⟨x, 0, none⟩)), (.pointer (some ⟨t, 0, none⟩)), (.pointer (some ⟨r, 0, none⟩))] 81 :: txP x d t N log cnt E false S T' tk' mk' sp :: ps) from h) pid kd
  simp only [hE1.out] at hr1 hr2
  have HR := hid (And.intro hr1 hr2)
  clear hr1 hr2
  refine wp_stages (by kernel_rfl) ?_
  have HD := hid (St.drew H0.out)
  generalize w1.drew = wd at *
  clear H0
  refine wp_stage (PairS tb ab d x r (.pointer (some ⟨t, 0, none⟩)) pid kd) [(0, true), (1, true), (2, true), (3, true), (4, true), (5, true), (6, true), (7, true), (9, true), (10, true), (11, true), (12, true), (13, true), (14, true), (15, true), (16, true), (8, false)] 3 rfl (by kernel_rfl) (by intro c a dd v w h; cases dd <;> exact h) ((pairS_of (HD.out.obj 1 rfl) (HD.out.obj 0 rfl))) ?_
  iterate 16 (refine wpOrd_read (v := _) rfl rfl (by intro w' hS; obtain ⟨s0, s1, s2, s3, s4, s5⟩ := id hS; clear hS; go_simp; rfl) ?_; (try simp only [Act.put, List.setIfInBounds_toArray, List.set_cons_succ, List.set_cons_zero, List.getElem_toArray, List.getElem_cons_succ, List.getElem_cons_zero]))
  refine wpOrd_do rfl rfl (fun K hK => ?_)
  go_simp
  refine (HR.out.1 _ (HD.out.pull 2 rfl)).mono ?_
  rintro en w2 ⟨rfl, H2⟩
  have H2 := hid ((H2.pull 2 rfl).pull 2 rfl)
  refine hK _ _ ⟨pairS_of (H2.out.obj 1 rfl) (H2.out.obj 0 rfl), ?_⟩
  clear hK K HD
  (try simp only [Act.put, List.setIfInBounds_toArray, List.set_cons_succ, List.set_cons_zero, List.getElem_toArray, List.getElem_cons_succ, List.getElem_cons_zero])
  refine wpOrd_end ?_
  refine wp_stages_end 17 (by rfl) (by kernel_rfl) ?_
  simp only [List.drop_succ_cons, List.drop_zero]
  have hc2 := HR.out.2 _ _ _ _ (H2.out.pull 3 rfl)
  clear HR
  go_wp2_with (go_at_call 71; refine hc2.mono ?_; rintro e w3 ⟨rfl, H3⟩; have H3 := hid H3)
  go_ret
  exact ⟨by simp, E, Nat.le_succ _, .inr ⟨S, _, tk, _, sp, d, x, r, t, ((H3.out.pull 1 rfl).drop.pull 2 rfl).pull 2 rfl⟩⟩

set_option maxHeartbeats 4000000 in
theorem does_o3 (hh : HalfAt w0) (sh : Shape N log cnt) (hE : E < 900000) (h : TwoO w0 w ps tb N log cnt E S T tk mk sp) (pid kd : Int) (s : ByteArray) (kv : Value) (keep : List Bool) (hs : s.size ≤ maxLen) (hb : pid < 9223372036854775808) (hkv : Reads w0 kv (keep.map Value.bool)) :
    Calls Tryz.prog 37 #[(.pointer (some ⟨tb, 0, none⟩)), .agg #[.int .i64 3, .int .i64 pid, .int .i64 kd, .string s, kv]] w fun e w' => e = .returned (.bool true) ∧ ∃ E', E' ≤ E + 1 ∧ TwoAt w0 w' ps tb N log cnt E' := by
  obtain ⟨d, x, r, t, H⟩ := h
  have H0 := hid (H.alloc [.int .i64 3, .int .i64 pid, .int .i64 kd, .string s, kv] 46)
  obtain ⟨M, hM⟩ : ∃ M : Nat, M = min 510 s.size := ⟨_, rfl⟩
  have hM1 : min (s.size : Int) 510 = (M : Int) := by omega
  have hM2 : (M : Int) ≤ (s.size : Int) := by omega
  have hM3 : (s.size : Int) ≤ 9223372036854775807 := by simp only [maxLen] at hs; omega
  have hxs : (s.extract 0 M).size ≤ maxLen := by rw [ByteArray.size_extract]; simp only [maxLen] at hs ⊢; omega
  have HX := hid hxs
  have HC := hid (And.intro hh (And.intro sh (And.intro hE (And.intro hb hkv))))
  clear hM hs hxs H hh sh hE hb hkv
  go_enter Tryz.func37, Tryz.ntmps37
  go_upto_region 16 with fail
  generalize s.extract 0 M = z at *
  generalize w.heap.size = ab at *
  generalize (w.alloc _) = w1 at *
  clear hM1 hM2 hM3
  have hf := hid (tp_facts (H0.out.pull 2 rfl))
  have c2 : w1.cell? ⟨tb, 2, none⟩ = some (.pointer (some ⟨t, 0, none⟩)) := (H0.out.obj 1 rfl).cell 2
  have h1 := tp_alloc HC.out.1 (H0.out.pull 2 rfl)
  have h2 := fun W T' tk' mk' (h : St w0 W _) => rf_alloc (w := W) (show St w0 W (rfoP r cnt log S T tk mk sp :: objP ab [.int .i64 3, .int .i64 pid, .int .i64 kd, .string s, kv] 46 :: objP tb [(.pointer (some ⟨d, 0, none⟩)), (.pointer (some ⟨x, 0, none⟩)), (.pointer (some ⟨t, 0, none⟩)), (.pointer (some ⟨r, 0, none⟩))] 81 :: txP x d t N log cnt E false S T' tk' mk' sp :: ps) from h) hf.out.2.1 hf.out.2.2.1 hf.out.2.2.2.2.1 hf.out.2.2.2.1 hf.out.2.2.2.2.2.1
  obtain ⟨p, ea, T2, hpe⟩ : ∃ p e T2, Hid (T.alloc cnt = (p, e, T2)) := ⟨(T.alloc cnt).1, (T.alloc cnt).2.1, (T.alloc cnt).2.2, hid rfl⟩
  rw [hpe.out] at h1 h2
  dsimp only at h1 h2
  have HR := hid h2
  clear h2
  go_upto_region 17 with (go_at_call 21; refine h1.mono ?_; rintro e w2 ⟨rfl, H2⟩)
  have H2 := hid ((H2.pull 2 rfl).pull 2 rfl)
  clear h1 c2 H0
  have c3 : w2.cell? ⟨tb, 3, none⟩ = some (.pointer (some ⟨r, 0, none⟩)) := (H2.out.obj 1 rfl).cell 3
  have h3 := HR.out _ _ _ _ (H2.out.pull 3 rfl)
  clear HR
  go_wp2_with (go_at_call 69; refine h3.mono ?_; rintro e w3 ⟨rfl, H3⟩; have H3 := hid H3)
  go_ret
  exact ⟨by simp, E, Nat.le_succ _, .inr ⟨S, _, _, _, sp, d, x, r, t, ((H3.out.pull 1 rfl).drop.pull 2 rfl).pull 2 rfl⟩⟩

set_option maxHeartbeats 4000000 in
theorem does_o6 (hh : HalfAt w0) (sh : Shape N log cnt) (hE : E < 900000) (h : TwoO w0 w ps tb N log cnt E S T tk mk sp) (pid kd : Int) (s : ByteArray) (kv : Value) (keep : List Bool) (hs : s.size ≤ maxLen) (hb : pid < 9223372036854775808) (hkv : Reads w0 kv (keep.map Value.bool)) :
    Calls Tryz.prog 37 #[(.pointer (some ⟨tb, 0, none⟩)), .agg #[.int .i64 6, .int .i64 pid, .int .i64 kd, .string s, kv]] w fun e w' => e = .returned (.bool true) ∧ ∃ E', E' ≤ E + 1 ∧ TwoAt w0 w' ps tb N log cnt E' := by
  obtain ⟨d, x, r, t, H⟩ := h
  have H0 := hid (H.alloc [.int .i64 6, .int .i64 pid, .int .i64 kd, .string s, kv] 46)
  obtain ⟨M, hM⟩ : ∃ M : Nat, M = min 510 s.size := ⟨_, rfl⟩
  have hM1 : min (s.size : Int) 510 = (M : Int) := by omega
  have hM2 : (M : Int) ≤ (s.size : Int) := by omega
  have hM3 : (s.size : Int) ≤ 9223372036854775807 := by simp only [maxLen] at hs; omega
  have hxs : (s.extract 0 M).size ≤ maxLen := by rw [ByteArray.size_extract]; simp only [maxLen] at hs ⊢; omega
  have HX := hid hxs
  have HC := hid (And.intro hh (And.intro sh (And.intro hE (And.intro hb hkv))))
  clear hM hs hxs H hh sh hE hb hkv
  go_enter Tryz.func37, Tryz.ntmps37
  go_upto_region 24 with fail
  generalize s.extract 0 M = z at *
  generalize w.heap.size = ab at *
  generalize (w.alloc _) = w1 at *
  clear hM1 hM2 hM3
  have hf := hid (tp_facts (H0.out.pull 2 rfl))
  obtain ⟨E1, hE1⟩ : ∃ E1, Hid (commitE log sp (changes tk mk cnt) = E1) := ⟨_, hid rfl⟩
  have hr1 := fun W (h : St w0 W _) => tp_commit (w := W) HC.out.1 (show St w0 W (txP x d t N log cnt E false S T tk mk sp :: objP ab [.int .i64 6, .int .i64 pid, .int .i64 kd, .string s, kv] 46 :: objP tb [(.pointer (some ⟨d, 0, none⟩)), (.pointer (some ⟨x, 0, none⟩)), (.pointer (some ⟨t, 0, none⟩)), (.pointer (some ⟨r, 0, none⟩))] 81 :: rfoP r cnt log S T tk mk sp :: ps) from h) (by have := HC.out.2.2.1; omega)
  have hr2 := fun W P2 P3 (h : St w0 W _) => rf_commit (w := W) hf.out.2.1 hf.out.2.2.2.2.2.2.2 (by have := hf.out.2.2.2.2.2.2.1; omega) hf.out.2.2.2.2.2.1 hf.out.1 (show St w0 W (rfoP r cnt log S T tk mk sp :: P2 :: P3 :: objP ab [.int .i64 6, .int .i64 pid, .int .i64 kd, .string s, kv] 46 :: objP tb [(.pointer (some ⟨d, 0, none⟩)), (.pointer (some ⟨x, 0, none⟩)), (.pointer (some ⟨t, 0, none⟩)), (.pointer (some ⟨r, 0, none⟩))] 81 :: ps) from h)
  simp only [hE1.out] at hr1 hr2
  have HR := hid (And.intro hr1 hr2)
  clear hr1 hr2
  refine wp_stages (by kernel_rfl) ?_
  have HD := hid (St.drew H0.out)
  generalize w1.drew = wd at *
  clear H0
  refine wp_stage (PairS tb ab d x r (.pointer (some ⟨t, 0, none⟩)) pid kd) [(0, true), (1, true), (2, true), (3, true), (5, true), (6, true), (7, true), (8, true), (4, false)] 3 rfl (by kernel_rfl) (by intro c a dd v w h; cases dd <;> exact h) ((pairS_of (HD.out.obj 1 rfl) (HD.out.obj 0 rfl))) ?_
  iterate 8 (refine wpOrd_read (v := _) rfl rfl (by intro w' hS; obtain ⟨s0, s1, s2, s3, s4, s5⟩ := id hS; clear hS; go_simp; rfl) ?_; (try simp only [Act.put, List.setIfInBounds_toArray, List.set_cons_succ, List.set_cons_zero, List.getElem_toArray, List.getElem_cons_succ, List.getElem_cons_zero]))
  refine wpOrd_do rfl rfl (fun K hK => ?_)
  go_simp
  refine (HR.out.1 _ (HD.out.pull 2 rfl)).mono ?_
  rintro en w2 (⟨rfl, H2⟩ | ⟨h9, -⟩)
  rotate_left
  · cases h9
  have H2 := hid H2
  refine hK _ _ ⟨pairS_of (H2.out.obj 3 rfl) (H2.out.obj 2 rfl), ?_⟩
  clear hK K HD
  (try simp only [Act.put, List.setIfInBounds_toArray, List.set_cons_succ, List.set_cons_zero, List.getElem_toArray, List.getElem_cons_succ, List.getElem_cons_zero])
  refine wpOrd_end ?_
  refine wp_stages_end 9 (by rfl) (by kernel_rfl) ?_
  simp only [List.drop_succ_cons, List.drop_zero]
  have hc2 := HR.out.2 _ _ _ (H2.out.pull 4 rfl)
  clear HR
  go_wp2_with (go_at_call 72; refine hc2.mono ?_; rintro e w3 ⟨rfl, H3⟩; have H3 := hid H3)
  go_ret
  exact ⟨by simp, E + 1, Nat.le_refl _, .inl ⟨_, d, x, r, (.pointer (some ⟨t, 0, none⟩)), staleP t x, .inr ⟨t, rfl, rfl⟩, ((((H3.out.pull 3 rfl).drop).pull 2 rfl).pull 2 rfl).pull 3 rfl⟩⟩

set_option maxHeartbeats 4000000 in
theorem does_o7 (hh : HalfAt w0) (sh : Shape N log cnt) (hE : E < 900000) (h : TwoO w0 w ps tb N log cnt E S T tk mk sp) (pid kd : Int) (s : ByteArray) (kv : Value) (keep : List Bool) (hs : s.size ≤ maxLen) (hb : pid < 9223372036854775808) (hkv : Reads w0 kv (keep.map Value.bool)) :
    Calls Tryz.prog 37 #[(.pointer (some ⟨tb, 0, none⟩)), .agg #[.int .i64 7, .int .i64 pid, .int .i64 kd, .string s, kv]] w fun e w' => e = .returned (.bool true) ∧ ∃ E', E' ≤ E + 1 ∧ TwoAt w0 w' ps tb N log cnt E' := by
  obtain ⟨d, x, r, t, H⟩ := h
  have H0 := hid (H.alloc [.int .i64 7, .int .i64 pid, .int .i64 kd, .string s, kv] 46)
  obtain ⟨M, hM⟩ : ∃ M : Nat, M = min 510 s.size := ⟨_, rfl⟩
  have hM1 : min (s.size : Int) 510 = (M : Int) := by omega
  have hM2 : (M : Int) ≤ (s.size : Int) := by omega
  have hM3 : (s.size : Int) ≤ 9223372036854775807 := by simp only [maxLen] at hs; omega
  have hxs : (s.extract 0 M).size ≤ maxLen := by rw [ByteArray.size_extract]; simp only [maxLen] at hs ⊢; omega
  have HX := hid hxs
  have HC := hid (And.intro hh (And.intro sh (And.intro hE (And.intro hb hkv))))
  clear hM hs hxs H hh sh hE hb hkv
  go_enter Tryz.func37, Tryz.ntmps37
  go_upto_region 26 with fail
  generalize s.extract 0 M = z at *
  generalize w.heap.size = ab at *
  generalize (w.alloc _) = w1 at *
  clear hM1 hM2 hM3
  have c2 : w1.cell? ⟨tb, 2, none⟩ = some (.pointer (some ⟨t, 0, none⟩)) := (H0.out.obj 1 rfl).cell 2
  have h1 := tp_abort (H0.out.pull 2 rfl)
  go_upto_region 27 with (go_at_call 17; refine h1.mono ?_; rintro e w2 ⟨rfl, H2⟩)
  have H2 := hid H2
  clear h1 c2 H0
  have c3 : w2.cell? ⟨tb, 3, none⟩ = some (.pointer (some ⟨r, 0, none⟩)) := (H2.out.obj 3 rfl).cell 3
  have h3 := rf_abort (H2.out.pull 4 rfl)
  go_wp2_with (go_at_call 73; refine h3.mono ?_; rintro e w3 ⟨rfl, H3⟩; have H3 := hid H3)
  go_ret
  exact ⟨rfl, E, Nat.le_succ _, .inl ⟨_, d, x, r, (.pointer (some ⟨t, 0, none⟩)), staleP t x, .inr ⟨t, rfl, rfl⟩, ((((H3.out.pull 3 rfl).drop).pull 2 rfl).pull 2 rfl).pull 3 rfl⟩⟩

set_option maxHeartbeats 4000000 in
theorem does_o8 (hh : HalfAt w0) (sh : Shape N log cnt) (hE : E < 900000) (h : TwoO w0 w ps tb N log cnt E S T tk mk sp) (pid kd : Int) (s : ByteArray) (kv : Value) (keep : List Bool) (hs : s.size ≤ maxLen) (hb : pid < 9223372036854775808) (hkv : Reads w0 kv (keep.map Value.bool)) :
    Calls Tryz.prog 37 #[(.pointer (some ⟨tb, 0, none⟩)), .agg #[.int .i64 8, .int .i64 pid, .int .i64 kd, .string s, kv]] w fun e w' => e = .returned (.bool true) ∧ ∃ E', E' ≤ E + 1 ∧ TwoAt w0 w' ps tb N log cnt E' := by
  obtain ⟨d, x, r, t, H⟩ := h
  have H0 := hid (H.alloc [.int .i64 8, .int .i64 pid, .int .i64 kd, .string s, kv] 46)
  obtain ⟨M, hM⟩ : ∃ M : Nat, M = min 510 s.size := ⟨_, rfl⟩
  have hM1 : min (s.size : Int) 510 = (M : Int) := by omega
  have hM2 : (M : Int) ≤ (s.size : Int) := by omega
  have hM3 : (s.size : Int) ≤ 9223372036854775807 := by simp only [maxLen] at hs; omega
  have hxs : (s.extract 0 M).size ≤ maxLen := by rw [ByteArray.size_extract]; simp only [maxLen] at hs ⊢; omega
  have HX := hid hxs
  have HC := hid (And.intro hh (And.intro sh (And.intro hE (And.intro hb hkv))))
  clear hM hs hxs H hh sh hE hb hkv
  go_enter Tryz.func37, Tryz.ntmps37
  go_upto_region 34 with fail
  generalize s.extract 0 M = z at *
  generalize w.heap.size = ab at *
  generalize (w.alloc _) = w1 at *
  clear hM1 hM2 hM3
  have c1 : w1.cell? ⟨tb, 1, none⟩ = some (.pointer (some ⟨x, 0, none⟩)) := (H0.out.obj 1 rfl).cell 1
  have c3 : w1.cell? ⟨tb, 3, none⟩ = some (.pointer (some ⟨r, 0, none⟩)) := (H0.out.obj 1 rfl).cell 3
  have hck := tp_checkpoint_busy (H0.out.pull 2 rfl)
  obtain ⟨v, -, -, HR⟩ := rfoP_open (H0.out.pull 3 rfl)
  have c5 : w1.cell? ⟨r, 5, none⟩ = some (.bool true) := (HR.obj 0 rfl).cell 5
  clear HR
  go_wp2_with (go_at_call 23; refine hck.mono ?_; rintro e w2 ⟨rfl, rfl⟩)
  go_ret
  exact ⟨rfl, E, Nat.le_succ _, .inr ⟨S, T, tk, mk, sp, d, x, r, t, H0.out.drop⟩⟩

set_option maxHeartbeats 4000000 in
theorem does_o10 (hh : HalfAt w0) (sh : Shape N log cnt) (hE : E < 900000) (h : TwoO w0 w ps tb N log cnt E S T tk mk sp) (pid kd : Int) (s : ByteArray) (kv : Value) (keep : List Bool) (hs : s.size ≤ maxLen) (hb : pid < 9223372036854775808) (hkv : Reads w0 kv (keep.map Value.bool)) :
    Calls Tryz.prog 37 #[(.pointer (some ⟨tb, 0, none⟩)), .agg #[.int .i64 10, .int .i64 pid, .int .i64 kd, .string s, kv]] w fun e w' => e = .returned (.bool true) ∧ ∃ E', E' ≤ E + 1 ∧ TwoAt w0 w' ps tb N log cnt E' := by
  obtain ⟨d, x, r, t, H⟩ := h
  have H0 := hid (H.alloc [.int .i64 10, .int .i64 pid, .int .i64 kd, .string s, kv] 46)
  obtain ⟨M, hM⟩ : ∃ M : Nat, M = min 510 s.size := ⟨_, rfl⟩
  have hM1 : min (s.size : Int) 510 = (M : Int) := by omega
  have hM2 : (M : Int) ≤ (s.size : Int) := by omega
  have hM3 : (s.size : Int) ≤ 9223372036854775807 := by simp only [maxLen] at hs; omega
  have hxs : (s.extract 0 M).size ≤ maxLen := by rw [ByteArray.size_extract]; simp only [maxLen] at hs ⊢; omega
  have HX := hid hxs
  have HC := hid (And.intro hh (And.intro sh (And.intro hE (And.intro hb hkv))))
  clear hM hs hxs H hh sh hE hb hkv
  go_enter Tryz.func37, Tryz.ntmps37
  go_upto_region 30 with fail
  generalize s.extract 0 M = z at *
  generalize w.heap.size = ab at *
  generalize (w.alloc _) = w1 at *
  clear hM1 hM2 hM3
  have c2 : w1.cell? ⟨tb, 2, none⟩ = some (.pointer (some ⟨t, 0, none⟩)) := (H0.out.obj 1 rfl).cell 2
  have hsp := tp_spoil (H0.out.pull 2 rfl)
  go_upto_region 31 with (go_at_call 27; refine hsp.mono ?_; rintro e w2 ⟨rfl, H2⟩)
  have H2 := hid H2
  clear hsp c2 H0
  obtain ⟨v, e1, e2, HR⟩ := rfoP_open (H2.out.pull 3 rfl)
  have HR := hid HR
  have HV := hid e1
  clear e1 e2 H2
  refine wp_stages (by kernel_rfl) ?_
  have HD := hid (St.drew HR.out)
  generalize w2.drew = wd at *
  clear HR
  have S0 : Hid (wd.cell? ⟨tb, 3, none⟩ = some (.pointer (some ⟨r, 0, none⟩)) ∧ wd.cell? ⟨r, 5, none⟩ = some (.bool true)) := hid ⟨(HD.out.obj 8 rfl).cell 3, (HD.out.obj 0 rfl).cell 5⟩
  refine wp_stage (fun W => W.cell? ⟨tb, 3, none⟩ = some (.pointer (some ⟨r, 0, none⟩)) ∧ W.cell? ⟨r, 5, none⟩ = some (.bool true)) [(0, true), (1, true), (2, true), (3, true), (4, true), (5, true), (6, true), (7, true), (8, true), (9, true), (10, true)] 3 rfl (by kernel_rfl) (by intro c a dd v w h; cases dd <;> exact h) (S0.out) ?_
  iterate 11 (refine wpOrd_read (v := _) rfl rfl (by intro w' hS; obtain ⟨s0, s1⟩ := id hS; clear hS; go_simp; rfl) ?_; (try simp only [Act.put, List.setIfInBounds_toArray, List.set_cons_succ, List.set_cons_zero, List.getElem_toArray, List.getElem_cons_succ, List.getElem_cons_zero]))
  refine wpOrd_end ?_
  refine wp_stages_end 11 (by rfl) (by kernel_rfl) ?_
  simp only [List.drop_succ_cons, List.drop_zero]
  have c11 : wd.cell? ⟨r, 11, none⟩ = some (.bool v.sp) := (HD.out.obj 0 rfl).cell 11
  have f11 := (HD.out.obj 0 rfl).frozen 11
  have l11 := (HD.out.obj 0 rfl).lt
  have H5 := hid (HD.out.set 0 rfl 11 (.bool true))
  clear HD S0
  go_wp2
  go_ret
  have h6 := rfoP_mk (S := S) (T := T) (tk := tk) (cnt := cnt) (log := log) (r := r) ⟨v.pv, v.fv, v.rv, v.pt, v.ft, v.rt, v.tv, v.md, true⟩ H5.out
  dsimp only at h6
  rw [HV.out] at h6
  have h7 := (h6.pull 2 rfl).drop
  exact ⟨rfl, E, Nat.le_succ _, .inr ⟨S, T, tk, mk, true, d, x, r, t, ((h7.pull 2 rfl).pull 2 rfl).pull 1 rfl⟩⟩

set_option maxHeartbeats 4000000 in
theorem does_c9 (hh : HalfAt w0) (sh : Shape N log cnt) (hE : E < 900000) (h : TwoC w0 w ps tb N log cnt E S) (pid kd : Int) (s : ByteArray) (kv : Value) (keep : List Bool) (hs : s.size ≤ maxLen) (hb : pid < 9223372036854775808) (hkv : Reads w0 kv (keep.map Value.bool)) (K : Int) (n0 : ¬ K = 0) (n1 : ¬ K = 1) (n2 : ¬ K = 2) (n3 : ¬ K = 3) (n4 : ¬ K = 4) (n5 : ¬ K = 5) (n6 : ¬ K = 6) (n7 : ¬ K = 7) (n8 : ¬ K = 8) (n10 : ¬ K = 10) :
    Calls Tryz.prog 37 #[(.pointer (some ⟨tb, 0, none⟩)), .agg #[.int .i64 K, .int .i64 pid, .int .i64 kd, .string s, kv]] w fun e w' => e = .returned (.bool true) ∧ ∃ E', E' ≤ E + 1 ∧ TwoAt w0 w' ps tb N log cnt E' := by
  obtain ⟨d, x, r, tv, q, hq, H⟩ := h
  have HQ := hid hq
  have H0 := hid (H.alloc [.int .i64 K, .int .i64 pid, .int .i64 kd, .string s, kv] 46)
  obtain ⟨M, hM⟩ : ∃ M : Nat, M = min 510 s.size := ⟨_, rfl⟩
  have hM1 : min (s.size : Int) 510 = (M : Int) := by omega
  have hM2 : (M : Int) ≤ (s.size : Int) := by omega
  have hM3 : (s.size : Int) ≤ 9223372036854775807 := by simp only [maxLen] at hs; omega
  have hxs : (s.extract 0 M).size ≤ maxLen := by rw [ByteArray.size_extract]; simp only [maxLen] at hs ⊢; omega
  have HX := hid hxs
  have HC := hid (And.intro hh (And.intro sh (And.intro hE (And.intro hb hkv))))
  clear hM hs hxs H hh sh hE hb hkv hq
  go_enter Tryz.func37, Tryz.ntmps37
  go_upto_region 36 with fail
  generalize s.extract 0 M = z at *
  generalize w.heap.size = ab at *
  generalize (w.alloc _) = w1 at *
  clear hM1 hM2 hM3
  have H1 := hid ((((H0.out.pull 3 rfl).drop.pull 3 rfl).pull 3 rfl).pull 3 rfl)
  have c4 : w1.cell? ⟨ab, 4, none⟩ = some kv := (H1.out.obj 3 rfl).cell 4
  have hag := two_again (keep := keep) HC.out.1 HC.out.2.1 (by have := HC.out.2.2.1; omega) H1.out (fun h => db_off h) (fun h => by obtain ⟨v, -, h1⟩ := rfP_open h; exact (h1.obj 0 rfl).cell 1) (fun h => rf_abort_no h) HC.out.2.2.2.2
  clear H0 H1
  go_wp2_with (go_at_call 74; refine hag.mono ?_; rintro e w2 ⟨rfl, y, H2⟩; have H2 := hid H2)
  go_ret
  exact ⟨rfl, E + 1, Nat.le_refl _, .inl ⟨S, d, y, r, .pointer none, noneP, .inl ⟨rfl, rfl⟩, (((((H2.out.pull 3 rfl).drop).none1).pull 2 rfl).pull 2 rfl)⟩⟩

set_option maxHeartbeats 4000000 in
theorem does_o9 (hh : HalfAt w0) (sh : Shape N log cnt) (hE : E < 900000) (h : TwoO w0 w ps tb N log cnt E S T tk mk sp) (pid kd : Int) (s : ByteArray) (kv : Value) (keep : List Bool) (hs : s.size ≤ maxLen) (hb : pid < 9223372036854775808) (hkv : Reads w0 kv (keep.map Value.bool)) (K : Int) (n0 : ¬ K = 0) (n1 : ¬ K = 1) (n2 : ¬ K = 2) (n3 : ¬ K = 3) (n4 : ¬ K = 4) (n5 : ¬ K = 5) (n6 : ¬ K = 6) (n7 : ¬ K = 7) (n8 : ¬ K = 8) (n10 : ¬ K = 10) :
    Calls Tryz.prog 37 #[(.pointer (some ⟨tb, 0, none⟩)), .agg #[.int .i64 K, .int .i64 pid, .int .i64 kd, .string s, kv]] w fun e w' => e = .returned (.bool true) ∧ ∃ E', E' ≤ E + 1 ∧ TwoAt w0 w' ps tb N log cnt E' := by
  obtain ⟨d, x, r, t, H⟩ := h
  have H0 := hid (H.alloc [.int .i64 K, .int .i64 pid, .int .i64 kd, .string s, kv] 46)
  obtain ⟨M, hM⟩ : ∃ M : Nat, M = min 510 s.size := ⟨_, rfl⟩
  have hM1 : min (s.size : Int) 510 = (M : Int) := by omega
  have hM2 : (M : Int) ≤ (s.size : Int) := by omega
  have hM3 : (s.size : Int) ≤ 9223372036854775807 := by simp only [maxLen] at hs; omega
  have hxs : (s.extract 0 M).size ≤ maxLen := by rw [ByteArray.size_extract]; simp only [maxLen] at hs ⊢; omega
  have HX := hid hxs
  have HC := hid (And.intro hh (And.intro sh (And.intro hE (And.intro hb hkv))))
  clear hM hs hxs H hh sh hE hb hkv
  go_enter Tryz.func37, Tryz.ntmps37
  go_upto_region 36 with fail
  generalize s.extract 0 M = z at *
  generalize w.heap.size = ab at *
  generalize (w.alloc _) = w1 at *
  clear hM1 hM2 hM3
  have H1 := hid (((H0.out.pull 3 rfl).pull 3 rfl).pull 3 rfl)
  have c4 : w1.cell? ⟨ab, 4, none⟩ = some kv := (H1.out.obj 3 rfl).cell 4
  have hag := two_again (keep := keep) HC.out.1 HC.out.2.1 (by have := HC.out.2.2.1; omega) H1.out (fun h => tp_off h) (fun h => by obtain ⟨v, -, -, h1⟩ := rfoP_open h; exact (h1.obj 0 rfl).cell 1) (fun h => rf_abort h) HC.out.2.2.2.2
  clear H0 H1
  go_wp2_with (go_at_call 74; refine hag.mono ?_; rintro e w2 ⟨rfl, y, H2⟩; have H2 := hid H2)
  go_ret
  exact ⟨rfl, E + 1, Nat.le_refl _, .inl ⟨S, d, y, r, .pointer none, noneP, .inl ⟨rfl, rfl⟩, (((((H2.out.pull 3 rfl).drop).none1).pull 2 rfl).pull 2 rfl)⟩⟩

end
end Go.Proofs.YtnffnpndnaofhaaGreatDoor
