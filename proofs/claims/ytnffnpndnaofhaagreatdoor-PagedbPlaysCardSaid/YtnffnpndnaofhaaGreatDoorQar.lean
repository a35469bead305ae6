/- Parts of the proof: A transaction (layer 10): Alloc; conditions stand in the theorems. -/
import Derived.Test.YtnffnpndnaofhaaGreatDoorQaq

/- A transaction (layer 10): Alloc; conditions stand in the theorems. -/
namespace Go.Proofs.YtnffnpndnaofhaaGreatDoor
open Go.RowKit
set_option maxRecDepth 100000

def Meta.pop (n : Meta) (nxt : Nat) : Meta := { n with free := nxt, count := n.count - 1 }
def Meta.more (n : Meta) : Meta := { n with high := n.high + 1 }

theorem St.setT {w0 w : World} {ps : List HP} {b : Nat} {cs : List Value} {E : TypeId} (H : St w0 w (objP b cs E :: ps)) (j : Nat) (v : Value) : St w0 (w.setCell ⟨b, j, none⟩ v) (objP b (cs.set j v) E :: ps) := H.set 0 rfl j v

section
variable {w0 w : World} {ps : List HP} {t x d b log mb : Nat} {m n : Meta} {M : Nat → Option Leaf} {ks : List Nat} {marked spoilt : Bool} {σ : Dk}

set_option maxHeartbeats 4000000 in
theorem tx_alloc_full (H : St w0 w (objP t (txCells x n (.map (some mb)) marked spoilt) 67 :: objP x (dbCells d b log m (.pointer (some ⟨t, 0, none⟩)) false) 62 :: diskP d σ :: mapP leafR leafD mb M ks :: ps))
    (hd : σ.down = false) (hf : n.free = 0) (hl : log ≤ σ.kept.length) (hc : n.high = (σ.kept.length - log) / 8) :
    Calls Tryz.prog 21 #[.pointer (some ⟨t, 0, none⟩)] w fun e w' => e = .returned (.tuple #[.int .i64 0, .int .i64 7]) ∧
      St w0 w' (objP t (txCells x n (.map (some mb)) marked spoilt) 67 :: objP x (dbCells d b log m (.pointer (some ⟨t, 0, none⟩)) false) 62 :: diskP d σ :: mapP leafR leafD mb M ks :: ps) := by
  have hu := fun W (hW : W = w) => hW ▸ tx_up H hd
  have hcn := fun W (h : St w0 W _) => pd_count (w := W) (H := (show St w0 W (objP x (dbCells d b log m (.pointer (some ⟨t, 0, none⟩)) false) 62 :: diskP d σ :: objP t (txCells x n (.map (some mb)) marked spoilt) 67 :: mapP leafR leafD mb M ks :: ps) from h)) hl
  rw [← hc] at hcn
  have c0 := (H.obj 0 rfl).cell 0
  have c5 := (H.obj 0 rfl).cell 5
  have c6 := (H.obj 0 rfl).cell 6
  simp only [txCells, List.getElem?_cons_succ, List.getElem?_cons_zero, hf] at c0 c5 c6
  have HH := hid H
  clear H
  go_enter Tryz.func21, Tryz.ntmps21
  go_upto_region 13 with (go_at_call 53; refine (hu _ rfl).mono ?_; rintro e w' ⟨rfl, rfl⟩)
  refine wp_stages (by kernel_rfl) ?_
  have HD := hid HH.out.drew
  have S0 : w.drew.cell? ⟨t, 0, none⟩ = some (.pointer (some ⟨x, 0, none⟩)) ∧ w.drew.cell? ⟨t, 5, none⟩ = some (.int .i64 (n.high : Int)) := ⟨c0, c5⟩
  clear hu HH c0 c5 c6
  generalize w.drew = wd at *
  refine wp_stage (fun W => W.cell? ⟨t, 0, none⟩ = some (.pointer (some ⟨x, 0, none⟩)) ∧ W.cell? ⟨t, 5, none⟩ = some (.int .i64 (n.high : Int))) [(0, true), (1, true), (2, true), (3, true), (4, true), (5, true), (6, true), (7, true), (8, true), (9, false)] 2 rfl (by kernel_rfl) (by intro c a dd v w h; cases dd <;> exact h) (S0) ?_
  iterate 9 (refine wpOrd_read (v := _) rfl rfl (by intro w' hS; obtain ⟨s1, s2⟩ := id hS; clear hS; go_simp; rfl) ?_; (try simp only [Act.put, List.setIfInBounds_toArray, List.set_cons_succ, List.set_cons_zero, List.getElem_toArray, List.getElem_cons_succ, List.getElem_cons_zero]))
  refine wpOrd_do rfl rfl (fun K hK => ?_)
  go_simp
  refine (hcn _ (HD.out.pull 2 rfl |>.pull 2 rfl)).mono ?_
  rintro e w2 ⟨rfl, P2⟩
  have H2 := hid (HD.out.quiet P2)
  refine hK _ _ ⟨⟨P2.cell S0.1 (by simp), P2.cell S0.2 (by simp)⟩, ?_⟩
  clear hK K
  (try simp only [Act.put, List.setIfInBounds_toArray, List.set_cons_succ, List.set_cons_zero, List.getElem_toArray, List.getElem_cons_succ, List.getElem_cons_zero])
  refine wpOrd_end ?_
  refine wp_stages_end 10 (by rfl) (by kernel_rfl) ?_
  simp only [List.drop_succ_cons, List.drop_zero]
  go_wp2
  go_ret2
  exact ⟨rfl, H2.out⟩

set_option maxHeartbeats 4000000 in
theorem tx_alloc_new (H : St w0 w (objP t (txCells x n (.map (some mb)) marked spoilt) 67 :: objP x (dbCells d b log m (.pointer (some ⟨t, 0, none⟩)) false) 62 :: diskP d σ :: mapP leafR leafD mb M ks :: ps))
    (hd : σ.down = false) (hf : n.free = 0) (hl : log ≤ σ.kept.length) (hc : n.high ≠ (σ.kept.length - log) / 8) (hh : n.high < 2147483648) (hks : ks.length < 1000000) :
    Calls Tryz.prog 21 #[.pointer (some ⟨t, 0, none⟩)] w fun e w' => e = .returned (.tuple #[.int .i64 (n.high : Int), .int .i64 0]) ∧
      St w0 w' (objP t (txCells x n.more (.map (some mb)) true spoilt) 67 :: objP x (dbCells d b log m (.pointer (some ⟨t, 0, none⟩)) false) 62 :: diskP d σ :: mapP leafR leafD mb (putM M n.high (1, [])) (putK ks n.high) :: ps) := by
  have hu := fun W (hW : W = w) => hW ▸ tx_up H hd
  have hcn := fun W (h : St w0 W _) => pd_count (w := W) (H := (show St w0 W (objP x (dbCells d b log m (.pointer (some ⟨t, 0, none⟩)) false) 62 :: diskP d σ :: objP t (txCells x n (.map (some mb)) marked spoilt) 67 :: mapP leafR leafD mb M ks :: ps) from h)) hl
  obtain ⟨C, hC⟩ : ∃ C, Hid ((σ.kept.length - log) / 8 = C) := ⟨_, hid rfl⟩
  rw [hC.out] at hcn hc
  have c0 := (H.obj 0 rfl).cell 0
  have c5 := (H.obj 0 rfl).cell 5
  have c6 := (H.obj 0 rfl).cell 6
  simp only [txCells, List.getElem?_cons_succ, List.getElem?_cons_zero, hf] at c0 c5 c6
  have hkey := hid (key_of n.high (by omega))
  obtain ⟨M2, hM2⟩ : ∃ M2, Hid (putM M n.high (1, []) = M2) := ⟨_, hid rfl⟩
  rw [hM2.out]
  have HH := hid H
  have hne : ((n.high : Int) == (C : Int)) = false := by rw [beq_eq_false_iff_ne]; omega
  have hhi : (n.high : Int) < 2147483648 := by omega
  have hw1 : IntKind.i64.wrap ((n.high : Int) + 1) = (n.high : Int) + 1 := by rw [IntKind.wrap_i64]; omega
  obtain ⟨h, hhd⟩ : ∃ h, Hid (n.high = h) := ⟨_, hid rfl⟩
  rw [hhd.out] at c5 hne hhi hw1 hkey
  rw [hhd.out]
  clear H hf hl hc hh
  go_enter Tryz.func21, Tryz.ntmps21
  go_upto_region 13 with (go_at_call 53; refine (hu _ rfl).mono ?_; rintro e w' ⟨rfl, rfl⟩)
  refine wp_stages (by kernel_rfl) ?_
  have HD := hid HH.out.drew
  have S0 : w.drew.cell? ⟨t, 0, none⟩ = some (.pointer (some ⟨x, 0, none⟩)) ∧ w.drew.cell? ⟨t, 5, none⟩ = some (.int .i64 (h : Int)) := ⟨c0, c5⟩
  clear hu HH c0 c5 c6
  generalize w.drew = wd at *
  refine wp_stage (fun W => W.cell? ⟨t, 0, none⟩ = some (.pointer (some ⟨x, 0, none⟩)) ∧ W.cell? ⟨t, 5, none⟩ = some (.int .i64 (h : Int))) [(0, true), (1, true), (2, true), (3, true), (4, true), (5, true), (6, true), (7, true), (8, true), (9, false)] 2 rfl (by kernel_rfl) (by intro c a dd v w h; cases dd <;> exact h) (S0) ?_
  iterate 9 (refine wpOrd_read (v := _) rfl rfl (by intro w' hS; obtain ⟨s1, s2⟩ := id hS; clear hS; go_simp; rfl) ?_; (try simp only [Act.put, List.setIfInBounds_toArray, List.set_cons_succ, List.set_cons_zero, List.getElem_toArray, List.getElem_cons_succ, List.getElem_cons_zero]))
  refine wpOrd_do rfl rfl (fun K hK => ?_)
  go_simp
  refine (hcn _ (HD.out.pull 2 rfl |>.pull 2 rfl)).mono ?_
  rintro e w2 ⟨rfl, P2⟩
  have H2 := hid (HD.out.quiet P2)
  refine hK _ _ ⟨⟨P2.cell S0.1 (by simp), P2.cell S0.2 (by simp)⟩, ?_⟩
  clear hK K
  (try simp only [Act.put, List.setIfInBounds_toArray, List.set_cons_succ, List.set_cons_zero, List.getElem_toArray, List.getElem_cons_succ, List.getElem_cons_zero])
  refine wpOrd_end ?_
  refine wp_stages_end 10 (by rfl) (by kernel_rfl) ?_
  simp only [List.drop_succ_cons, List.drop_zero]
  have c5 := (H2.out.obj 0 rfl).cell 5
  have c8 := (H2.out.obj 0 rfl).cell 8
  have c9 := (H2.out.obj 0 rfl).cell 9
  have f5 := (H2.out.obj 0 rfl).frozen 5
  have f9 := (H2.out.obj 0 rfl).frozen 9
  have hlt := (H2.out.obj 0 rfl).lt
  simp only [txCells, List.getElem?_cons_succ, List.getElem?_cons_zero] at c5 c8 c9
  rw [hhd.out] at c5
  clear S0 HD P2 hcn
  go_upto_region 16 with fail
  have H3 := hid (show St w0 ((w2.setCell ⟨t, 5, none⟩ (.int .i64 ((h : Int) + 1))).setCell ⟨t, 9, none⟩ (.bool true)) (objP t (txCells x n.more (.map (some mb)) true spoilt) 67 :: objP x (dbCells d b log m (.pointer (some ⟨t, 0, none⟩)) false) 62 :: diskP d σ :: mapP leafR leafD mb M ks :: ps) by
    have h3 := (H2.out.setT 5 (.int .i64 ((h : Int) + 1))).setT 9 (.bool true)
    have e : ((txCells x n (.map (some mb)) marked spoilt).set 5 (.int .i64 ((h : Int) + 1))).set 9 (.bool true) = txCells x n.more (.map (some mb)) true spoilt := by
      simp [txCells, Meta.more, hhd.out]
    rw [← e]
    exact h3)
  clear H2 c5 c8 c9 f5 f9 hlt
  generalize ((w2.setCell ⟨t, 5, none⟩ (.int .i64 ((h : Int) + 1))).setCell ⟨t, 9, none⟩ (.bool true)) = w3 at *
  have c8 := (H3.out.obj 0 rfl).cell 8
  simp only [txCells, List.getElem?_cons_succ, List.getElem?_cons_zero] at c8
  obtain ⟨D, hown, hmi⟩ := H3.out.map 3 rfl
  have HM := hid hmi
  have HO := hid hown
  clear hmi hown
  go_wp2_with (at_mapUpdate; refine wpList_mapUpdate_own _ rfl _ _ _ 65 rfl 3 101 int_key Tryz.underlying65 leafR mb ks.length D rfl HO.out (by unfold maxLen; omega) _ _ _ rfl rfl hkey.out (leafD (1, [])) [] (leafR_mk (1, [])) ?_; intro w4 hown4 hg4; have H4 := hid (H3.out.mapPut 3 rfl HM.out hown4 hg4))
  go_ret2
  refine ⟨rfl, ?_⟩
  rw [← hM2.out, hhd.out]
  exact H4.out

set_option maxHeartbeats 4000000 in
theorem tx_alloc_free (hh : HalfAt w0) (H : St w0 w (objP t (txCells x n (.map (some mb)) marked spoilt) 67 :: objP x (dbCells d b log m (.pointer (some ⟨t, 0, none⟩)) false) 62 :: diskP d σ :: mapP leafR leafD mb M ks :: ps))
    (hd : σ.down = false) {v : Nat → Leaf} (hv : Sees n M σ log v) (h1 : 1 ≤ n.free) (h2 : n.free < n.high) (h3 : n.high < 2147483648) (nxt : Nat) (hnx : nxt < 2147483648) (hb : (v n.free).2 = numLE nxt 4) (hc1 : 1 ≤ n.count) (hc2 : n.count < 2147483648) (hks : ks.length < 1000000) :
    Calls Tryz.prog 21 #[.pointer (some ⟨t, 0, none⟩)] w fun e w' => e = .returned (.tuple #[.int .i64 (n.free : Int), .int .i64 0]) ∧
      St w0 w' (objP t (txCells x (n.pop nxt) (.map (some mb)) true spoilt) 67 :: objP x (dbCells d b log m (.pointer (some ⟨t, 0, none⟩)) false) 62 :: diskP d σ :: mapP leafR leafD mb (putM M n.free (1, [])) (putK ks n.free) :: ps) := by
  have hu := fun W (hW : W = w) => hW ▸ tx_up H hd
  have hg := tx_get hh H hd hv (n.free : Int) (by omega)
  rw [show getR n v (n.free : Int) = (v n.free, 0) by rw [getR, if_neg (by omega), Int.toNat_natCast]] at hg
  obtain ⟨⟨k, l⟩, hp⟩ : ∃ p, v n.free = p := ⟨_, rfl⟩
  rw [hp] at hg hb
  simp only [] at hb
  subst hb
  obtain ⟨z, hz, ez⟩ := leafV_str k (numLE nxt 4)
  rw [ez] at hg
  simp only [] at hg
  have hzl : z.data.toList = numLE nxt 4 := by rw [hz.out, ba_mk]
  have hval := fun W => pd_value z W (by rw [ba_size, hzl, length_numLE]; exact Nat.le_refl _)
  rw [hzl, List.take_of_length_le (by rw [length_numLE]; exact Nat.le_refl _), valLE_numLE, Nat.mod_eq_of_lt (by omega)] at hval
  have c6 := (H.obj 0 rfl).cell 6
  simp only [txCells, List.getElem?_cons_succ, List.getElem?_cons_zero] at c6
  have hkey := hid (key_of n.free (by omega))
  obtain ⟨M2, hM2⟩ : ∃ M2, Hid (putM M n.free (1, []) = M2) := ⟨_, hid rfl⟩
  rw [hM2.out]
  obtain ⟨h, hhd⟩ : ∃ h, Hid (n.free = h) := ⟨_, hid rfl⟩
  obtain ⟨c, hcd⟩ : ∃ c, Hid (n.count = c) := ⟨_, hid rfl⟩
  rw [hhd.out] at c6 hkey hg h1
  rw [hhd.out]
  rw [hcd.out] at hc1 hc2
  have hpos : (0 : Int) < (h : Int) := by omega
  have hw1 : IntKind.i64.wrap ((c : Int) - 1) = (c : Int) - 1 := by rw [IntKind.wrap_i64]; omega
  clear H hv hp ez hz hzl h1 h2 h3 hnx
  go_enter Tryz.func21, Tryz.ntmps21
  go_upto_region 9 with (first
    | (go_at_call 53; refine (hu _ rfl).mono ?_; rintro e w' ⟨rfl, rfl⟩)
    | (go_at_call 59; refine hg.mono ?_; rintro e w1 ⟨rfl, H1⟩))
  have H2 := hid (H1.alloc [.int .i64 (k : Int), .string z] 101)
  generalize (w1.alloc _) = w2 at *
  generalize w1.heap.size = q at *
  clear hu hg c6 H1
  have q1 := (H2.out.obj 0 rfl).cell 1
  have c6 := (H2.out.obj 1 rfl).cell 6
  have c7 := (H2.out.obj 1 rfl).cell 7
  have f6 := (H2.out.obj 1 rfl).frozen 6
  have f7 := (H2.out.obj 1 rfl).frozen 7
  have f9 := (H2.out.obj 1 rfl).frozen 9
  have c9 := (H2.out.obj 1 rfl).cell 9
  have hlt := (H2.out.obj 1 rfl).lt
  simp only [txCells, List.getElem?_cons_succ, List.getElem?_cons_zero] at c6 c7 c9 q1
  rw [hcd.out] at c7
  rw [hhd.out] at c6
  go_upto_region 16 with (go_at_call 60; refine (hval _).mono ?_; rintro e w3 ⟨rfl, rfl⟩)
  have H3 := hid (show St w0 (((w2.setCell ⟨t, 6, none⟩ (.int .i64 (nxt : Int))).setCell ⟨t, 7, none⟩ (.int .i64 ((c : Int) - 1))).setCell ⟨t, 9, none⟩ (.bool true)).drew (objP t (txCells x (n.pop nxt) (.map (some mb)) true spoilt) 67 :: objP x (dbCells d b log m (.pointer (some ⟨t, 0, none⟩)) false) 62 :: diskP d σ :: mapP leafR leafD mb M ks :: ps) by
    have h3 := (((H2.out.drop.setT 6 (.int .i64 (nxt : Int))).setT 7 (.int .i64 ((c : Int) - 1))).setT 9 (.bool true)).drew
    have e : (((txCells x n (.map (some mb)) marked spoilt).set 6 (.int .i64 (nxt : Int))).set 7 (.int .i64 ((c : Int) - 1))).set 9 (.bool true) = txCells x (n.pop nxt) (.map (some mb)) true spoilt := by
      have ec : ((c : Int) - 1) = ((n.count - 1 : Nat) : Int) := by have := hcd.out; omega
      rw [ec]
      rfl
    rw [← e]
    exact h3)
  clear H2 c6 c7 c9 f6 f7 f9 q1 hlt
  generalize (((w2.setCell ⟨t, 6, none⟩ (.int .i64 (nxt : Int))).setCell ⟨t, 7, none⟩ (.int .i64 ((c : Int) - 1))).setCell ⟨t, 9, none⟩ (.bool true)).drew = w3 at *
  have c8 := (H3.out.obj 0 rfl).cell 8
  simp only [txCells, List.getElem?_cons_succ, List.getElem?_cons_zero] at c8
  obtain ⟨D, hown, hmi⟩ := H3.out.map 3 rfl
  have HM := hid hmi
  have HO := hid hown
  clear hmi hown
  go_wp2_with (at_mapUpdate; refine wpList_mapUpdate_own _ rfl _ _ _ 65 rfl 3 101 int_key Tryz.underlying65 leafR mb ks.length D rfl HO.out (by unfold maxLen; omega) _ _ _ rfl rfl hkey.out (leafD (1, [])) [] (leafR_mk (1, [])) ?_; intro w4 hown4 hg4; have H4 := hid (H3.out.mapPut 3 rfl HM.out hown4 hg4))
  go_ret2
  refine ⟨rfl, ?_⟩
  rw [← hM2.out, hhd.out]
  exact H4.out

end

end Go.Proofs.YtnffnpndnaofhaaGreatDoor

/- A transaction (layer 10): Free; conditions stand in the theorems. -/
namespace Go.Proofs.YtnffnpndnaofhaaGreatDoor
open Go.RowKit
set_option maxRecDepth 100000

def Meta.push (n : Meta) (k : Nat) : Meta := { n with free := k, count := n.count + 1 }

section
variable {w0 w : World} {ps : List HP} {t x d b log mb : Nat} {m n : Meta} {M : Nat → Option Leaf} {ks : List Nat} {marked spoilt : Bool} {σ : Dk}

set_option maxHeartbeats 4000000 in
theorem tx_free_no (hh : HalfAt w0) (H : St w0 w (objP t (txCells x n (.map (some mb)) marked spoilt) 67 :: objP x (dbCells d b log m (.pointer (some ⟨t, 0, none⟩)) false) 62 :: diskP d σ :: mapP leafR leafD mb M ks :: ps))
    (hd : σ.down = false) {v : Nat → Leaf} (hv : Sees n M σ log v) (pid : Int) (hpid : pid < 9223372036854775808) (hno : (thereR n v pid).2 ≠ 0) :
    Calls Tryz.prog 28 #[.pointer (some ⟨t, 0, none⟩), .int .i64 pid] w fun e w' => e = .returned (.int .i64 (thereR n v pid).2) ∧
      St w0 w' (objP t (txCells x n (.map (some mb)) marked spoilt) 67 :: objP x (dbCells d b log m (.pointer (some ⟨t, 0, none⟩)) false) 62 :: diskP d σ :: mapP leafR leafD mb M ks :: ps) := by
  have ht := tx_there hh H hd hv pid hpid
  generalize thereR n v pid = T at *
  obtain ⟨⟨k, l⟩, te⟩ := T
  simp only [] at ht hno ⊢
  obtain ⟨z, hz, ez⟩ := leafV_str k l
  rw [ez] at ht
  have hb0 : (te != 0) = true := by simpa using hno
  clear H hv ez hz hno
  go_enter Tryz.func28, Tryz.ntmps28
  go_upto_region 2 with (go_at_call 52; refine ht.mono ?_; rintro e w2 ⟨rfl, H2⟩)
  have H3 := hid (H2.alloc [.int .i64 (k : Int), .string z] 101)
  clear H2 ht
  go_wp2
  go_ret
  exact ⟨rfl, H3.out.drop⟩

set_option maxHeartbeats 4000000 in
theorem tx_free (hh : HalfAt w0) (H : St w0 w (objP t (txCells x n (.map (some mb)) marked spoilt) 67 :: objP x (dbCells d b log m (.pointer (some ⟨t, 0, none⟩)) false) 62 :: diskP d σ :: mapP leafR leafD mb M ks :: ps))
    (hd : σ.down = false) {v : Nat → Leaf} (hv : Sees n M σ log v) (q : Nat) (hq : q < 2147483648) (hno : (thereR n v (q : Int)).2 = 0) (hf : n.free < 2147483648) (hc : n.count < 2147483647) (hks : ks.length < 1000000) :
    Calls Tryz.prog 28 #[.pointer (some ⟨t, 0, none⟩), .int .i64 (q : Int)] w fun e w' => e = .returned (.int .i64 0) ∧
      St w0 w' (objP t (txCells x (n.push q) (.map (some mb)) true spoilt) 67 :: objP x (dbCells d b log m (.pointer (some ⟨t, 0, none⟩)) false) 62 :: diskP d σ :: mapP leafR leafD mb (putM M q (255, numLE n.free 4)) (putK ks q) :: ps) := by
  have ht := tx_there hh H hd hv (q : Int) (by omega)
  generalize thereR n v (q : Int) = T at *
  obtain ⟨⟨k, l⟩, te⟩ := T
  simp only [] at ht hno
  subst hno
  obtain ⟨z, hz, ez⟩ := leafV_str k l
  rw [ez] at ht
  have hnum := fun W => pd_number n.free W (by omega)
  obtain ⟨z2, hz2, ez2, -⟩ := str_z (numLE n.free 4)
  rw [← hz2.out] at hnum
  have hkey := hid (key_of q (by omega))
  obtain ⟨M2, hM2⟩ : ∃ M2, Hid (putM M q (255, numLE n.free 4) = M2) := ⟨_, hid rfl⟩
  rw [hM2.out]
  have hz2l : z2.data.toList = numLE n.free 4 := by rw [hz2.out, ba_mk]
  have HZ := hid hz2l
  obtain ⟨h, hhd⟩ : ∃ h, Hid (n.free = h) := ⟨_, hid rfl⟩
  obtain ⟨c, hcd⟩ : ∃ c, Hid (n.count = c) := ⟨_, hid rfl⟩
  rw [hcd.out] at hc
  rw [hhd.out] at hnum
  have hw1 : IntKind.i64.wrap ((c : Int) + 1) = (c : Int) + 1 := by rw [IntKind.wrap_i64]; omega
  clear H hv ez hz hz2l hz2 ez2
  go_enter Tryz.func28, Tryz.ntmps28
  go_upto_region 2 with (go_at_call 52; refine ht.mono ?_; rintro e w2 ⟨rfl, H2⟩)
  have H3 := hid (H2.alloc [.int .i64 (k : Int), .string z] 101).drop
  clear H2 ht
  generalize (w2.alloc _) = w3 at *
  generalize w2.heap.size = qq at *
  go_upto_region 4 with fail
  refine wp_stages (by kernel_rfl) ?_
  have H4 := hid H3.out.drew
  clear H3
  generalize w3.drew = w4 at *
  have c6 := (H4.out.obj 0 rfl).cell 6
  have c8 := (H4.out.obj 0 rfl).cell 8
  simp only [txCells, List.getElem?_cons_succ, List.getElem?_cons_zero] at c6 c8
  rw [hhd.out] at c6
  have S0 : w4.cell? ⟨t, 6, none⟩ = some (.int .i64 (h : Int)) ∧ w4.cell? ⟨t, 8, none⟩ = some (.map (some mb)) := ⟨c6, c8⟩
  clear c6 c8
  refine wp_stage (fun W => W.cell? ⟨t, 6, none⟩ = some (.int .i64 (h : Int)) ∧ W.cell? ⟨t, 8, none⟩ = some (.map (some mb))) [(0, true), (1, true), (2, true), (3, true), (4, true), (5, true), (6, true), (7, true), (8, true), (9, true), (10, false), (11, true)] 1 rfl (by kernel_rfl) (by intro c a dd v w h; cases dd <;> exact h) (S0) ?_
  iterate 10 (refine wpOrd_read (v := _) rfl rfl (by intro w' hS; obtain ⟨s0, s1⟩ := id hS; clear hS; go_simp; rfl) ?_; (try simp only [Act.put, List.setIfInBounds_toArray, List.set_cons_succ, List.set_cons_zero, List.getElem_toArray, List.getElem_cons_succ, List.getElem_cons_zero]))
  refine wpOrd_do rfl rfl (fun K hK => ?_)
  go_simp
  refine (hnum _).mono ?_
  rintro e w5 ⟨rfl, P5⟩
  refine hK _ _ ⟨⟨P5.cell S0.1 (by simp), P5.cell S0.2 (by simp)⟩, ?_⟩
  clear hK K
  have H5 := hid (H4.out.quiet P5)
  (try simp only [Act.put, List.setIfInBounds_toArray, List.set_cons_succ, List.set_cons_zero, List.getElem_toArray, List.getElem_cons_succ, List.getElem_cons_zero])
  iterate 1 (refine wpOrd_read (v := _) rfl rfl (by intro w' hS; skip; clear hS; go_simp; rfl) ?_; (try simp only [Act.put, List.setIfInBounds_toArray, List.set_cons_succ, List.set_cons_zero, List.getElem_toArray, List.getElem_cons_succ, List.getElem_cons_zero]))
  refine wpOrd_end ?_
  refine wp_stages_end 12 (by rfl) (by kernel_rfl) ?_
  simp only [List.drop_succ_cons, List.drop_zero]
  clear S0 H4 P5 hnum
  obtain ⟨D, hown, hmi⟩ := H5.out.map 3 rfl
  have HM := hid hmi
  have HO := hid hown
  clear hmi hown
  go_upto_region 5 with (at_mapUpdate; refine wpList_mapUpdate_own _ rfl _ _ _ 65 rfl 3 101 int_key Tryz.underlying65 leafR mb ks.length D rfl HO.out (by unfold maxLen; omega) _ _ _ rfl rfl hkey.out (leafD (255, z2.data.toList)) [] (leafR_mk (255, z2.data.toList)) ?_; intro w6 hown6 hg6; have H6 := hid (H5.out.mapPut 3 rfl HM.out hown6 hg6))
  clear H5 hown6 hg6 HO HM
  have c7 := (H6.out.obj 0 rfl).cell 7
  have f6 := (H6.out.obj 0 rfl).frozen 6
  have f7 := (H6.out.obj 0 rfl).frozen 7
  have f9 := (H6.out.obj 0 rfl).frozen 9
  have hlt := (H6.out.obj 0 rfl).lt
  have c6 := (H6.out.obj 0 rfl).cell 6
  have c9 := (H6.out.obj 0 rfl).cell 9
  simp only [List.set, txCells, List.getElem?_cons_succ, List.getElem?_cons_zero] at c6 c7 c9
  rw [hcd.out] at c7
  go_wp2
  go_ret
  refine ⟨rfl, ?_⟩
  have h3 := ((H6.out.setT 6 (.int .i64 (q : Int))).setT 7 (.int .i64 ((c : Int) + 1))).setT 9 (.bool true)
  have e : (((txCells x n (.map (some mb)) marked spoilt).set 6 (.int .i64 (q : Int))).set 7 (.int .i64 ((c : Int) + 1))).set 9 (.bool true) = txCells x (n.push q) (.map (some mb)) true spoilt := by
    simp [txCells, Meta.push, hcd.out]
  rw [← e, ← hM2.out, ← HZ.out]
  exact h3

end

end Go.Proofs.YtnffnpndnaofhaaGreatDoor

/- A database of pages (layer 10): Begin, Abort, Changed, Spoil, High, Free; conditions stand in the theorems. -/
namespace Go.Proofs.YtnffnpndnaofhaaGreatDoor
open Go.RowKit
set_option maxRecDepth 100000

theorem meta_agg : IsAgg Tryz.prog 60 := ⟨_, Tryz.underlying60, rfl⟩
theorem meta_size : (Tryz.prog.info? 60).map (·.size) = some 7 := by kernel_rfl

theorem build_tx (w : World) (x mb : Nat) (a b c d e f g : Int) :
    (Instr.build 67 #[(0, .pointer (some ⟨x, 0, none⟩)), (1, .agg #[.int .i64 a, .int .i64 b, .int .i64 c, .int .i64 d, .int .i64 e, .int .i64 f, .int .i64 g]), (2, .map (some mb))]).run Tryz.prog w =
      .ok (.agg #[.pointer (some ⟨x, 0, none⟩), .int .i64 a, .int .i64 b, .int .i64 c, .int .i64 d, .int .i64 e, .int .i64 f, .int .i64 g, .map (some mb), .bool false, .bool false]) w := by kernel_rfl

theorem St.sink3 {w0 w : World} {a p q r : HP} {ps : List HP} (H : St w0 w (a :: p :: q :: r :: ps)) : St w0 w (p :: q :: r :: a :: ps) := ((H.pull 3 rfl).pull 3 rfl).pull 3 rfl

theorem ptr_eqB (W : World) (t : Nat) : (binOp .eql 40 (.pointer (some ⟨t, 0, none⟩)) (.pointer (some ⟨t, 0, none⟩))).run Tryz.prog W = .ok (.bool true) W := by
  simp only [binOp]
  simp [ptr_eq W t]

section
variable {w0 w : World} {ps : List HP} {t x d b log mb : Nat} {m n : Meta} {M : Nat → Option Leaf} {ks : List Nat} {marked spoilt lost : Bool} {opn : Value} {σ : Dk}

set_option maxHeartbeats 4000000 in
theorem pd_begin (H : St w0 w (objP x (dbCells d b log m (.pointer none) false) 62 :: diskP d σ :: ps)) (hd : σ.down = false) :
    Calls Tryz.prog 15 #[.pointer (some ⟨x, 0, none⟩)] w fun e w' => ∃ t mb, e = .returned (.tuple #[.pointer (some ⟨t, 0, none⟩), .int .i64 0]) ∧
      St w0 w' (objP t (txCells x m (.map (some mb)) false false) 67 :: objP x (dbCells d b log m (.pointer (some ⟨t, 0, none⟩)) false) 62 :: diskP d σ :: mapP leafR leafD mb (fun _ => none) [] :: ps) := by
  have hu := fun W (hW : W = w) => hW ▸ pd_up H
  rw [hd] at hu
  have c10 := (H.obj 0 rfl).cell 10
  simp only [dbCells, List.getElem?_cons_succ, List.getElem?_cons_zero] at c10
  have f10 := (H.obj 0 rfl).frozen 10
  have hlt := (H.obj 0 rfl).lt
  have HH := hid H
  have hmm : ∀ W, (Instr.makeMap 65 none).run Tryz.prog W = .ok (.map (some W.heap.size)) (W.alloc (.map #[] 0)) := fun W => run_makeMap _ W
  clear H
  go_enter Tryz.func15, Tryz.ntmps15
  go_upto_region 6 with (go_at_call 50; refine (hu _ rfl).mono ?_; rintro e w' ⟨rfl, rfl⟩)
  go_wp2_with (first
    | ((with_reducible refine at_load ?_); refine wpL_load rfl 60 (.tmp 19) rfl x 3 7 rfl _ 62 (HH.out.obj 0 rfl) meta_agg meta_size (by simp [dbCells]) ?_)
    | ((with_reducible refine at_build ?_); refine wpL_build rfl 67 _ rfl _ (by exact build_tx _ _ _ _ _ _ _ _ _ _) ?_))
  go_ret2
  refine ⟨w.heap.size + 1, w.heap.size, rfl, ?_⟩
  have h2 := ((HH.out.set 0 rfl 10 (.pointer (some ⟨w.heap.size + 1, 0, none⟩))).mapNew leafR leafD).alloc (txCells x m (.map (some w.heap.size)) false false) 67
  rw [show ((w.setCell ⟨x, 10, none⟩ (.pointer (some ⟨w.heap.size + 1, 0, none⟩))).alloc (.map #[] 0)).heap.size = w.heap.size + 1 by simp, show (w.setCell ⟨x, 10, none⟩ (.pointer (some ⟨w.heap.size + 1, 0, none⟩))).heap.size = w.heap.size by simp] at h2
  exact (h2.pull 1 rfl).sink3

set_option maxHeartbeats 4000000 in
theorem tx_end (H : St w0 w (objP t (txCells x n (.map (some mb)) marked spoilt) 67 :: objP x (dbCells d b log m opn lost) 62 :: ps)) :
    Calls Tryz.prog 51 #[.pointer (some ⟨t, 0, none⟩)] w fun e w' => e = .returned (.tuple #[]) ∧
      St w0 w' (objP t (txCells x n (.map (some mb)) marked spoilt) 67 :: objP x (dbCells d b log m (.pointer none) lost) 62 :: ps) := by
  have c0 := (H.obj 0 rfl).cell 0
  have c10 := (H.obj 1 rfl).cell 10
  have f10 := (H.obj 1 rfl).frozen 10
  have hlt := (H.obj 1 rfl).lt
  simp only [txCells, dbCells, List.getElem?_cons_succ, List.getElem?_cons_zero] at c0 c10
  have HH := hid H
  clear H
  go_enter Tryz.func51, Tryz.ntmps51
  go_wp2
  go_end0
  exact ⟨rfl, HH.out.set 1 rfl 10 (.pointer none)⟩

set_option maxHeartbeats 4000000 in
theorem tx_abort (H : St w0 w (objP t (txCells x n (.map (some mb)) marked spoilt) 67 :: objP x (dbCells d b log m (.pointer (some ⟨t, 0, none⟩)) lost) 62 :: ps)) :
    Calls Tryz.prog 17 #[.pointer (some ⟨t, 0, none⟩)] w fun e w' => e = .returned (.tuple #[]) ∧
      St w0 w' (objP t (txCells x n (.map (some mb)) marked spoilt) 67 :: objP x (dbCells d b log m (.pointer none) lost) 62 :: ps) := by
  have c0 := (H.obj 0 rfl).cell 0
  have c10 := (H.obj 1 rfl).cell 10
  have f10 := (H.obj 1 rfl).frozen 10
  have hlt := (H.obj 1 rfl).lt
  simp only [txCells, dbCells, List.getElem?_cons_succ, List.getElem?_cons_zero] at c0 c10
  have heq := fun W => ptr_eqB W t
  have he := tx_end H
  clear H
  go_enter Tryz.func17, Tryz.ntmps17
  go_wp2_with (go_at_call 51; refine he.mono ?_; rintro e w2 ⟨rfl, H2⟩)
  go_end0
  exact ⟨rfl, H2⟩

theorem tx_changed (H : St w0 w (objP t (txCells x n (.map (some mb)) marked spoilt) 67 :: objP x (dbCells d b log m (.pointer (some ⟨t, 0, none⟩)) lost) 62 :: diskP d σ :: mapP leafR leafD mb M ks :: ps)) (hks : ks.length < 1000000) :
    Calls Tryz.prog 31 #[.pointer (some ⟨t, 0, none⟩)] w fun e w' => e = .returned (.int .i64 ((ks.length + (if marked then 1 else 0) : Nat) : Int)) ∧ w = w' := by
  have c0 := (H.obj 0 rfl).cell 0
  have c8 := (H.obj 0 rfl).cell 8
  have c9 := (H.obj 0 rfl).cell 9
  have c10 := (H.obj 1 rfl).cell 10
  simp only [txCells, dbCells, List.getElem?_cons_succ, List.getElem?_cons_zero] at c0 c8 c9 c10
  have hpp := fun W => ptr_neq W t
  obtain ⟨D, hown, hmi⟩ := H.map 3 rfl
  have hlen := fun ty => hown.len Tryz.underlying65 ty
  rw [hmi.size] at hlen
  have hw1 : IntKind.i64.wrap ((ks.length : Int) + 1) = (ks.length : Int) + 1 := by rw [IntKind.wrap_i64]; omega
  clear H hown hmi
  cases marked
  · go_enter Tryz.func31, Tryz.ntmps31
    go_wp2
    go_ret
    exact ⟨by simp, rfl⟩
  · go_enter Tryz.func31, Tryz.ntmps31
    go_wp2
    go_ret
    exact ⟨by simp, rfl⟩

theorem tx_spoil (H : St w0 w (objP t (txCells x n (.map (some mb)) marked spoilt) 67 :: ps)) :
    Calls Tryz.prog 27 #[.pointer (some ⟨t, 0, none⟩)] w fun e w' => e = .returned (.tuple #[]) ∧ St w0 w' (objP t (txCells x n (.map (some mb)) marked true) 67 :: ps) := by
  have f10 := (H.obj 0 rfl).frozen 10
  have c10 := (H.obj 0 rfl).cell 10
  have hlt := (H.obj 0 rfl).lt
  simp only [txCells, List.getElem?_cons_succ, List.getElem?_cons_zero] at c10
  have HH := hid H
  clear H
  go_enter Tryz.func27, Tryz.ntmps27
  go_wp2
  go_end0
  exact ⟨rfl, HH.out.set 0 rfl 10 (.bool true)⟩

theorem pd_high (H : St w0 w (objP x (dbCells d b log m opn lost) 62 :: ps)) :
    Calls Tryz.prog 25 #[.pointer (some ⟨x, 0, none⟩)] w fun e w' => e = .returned (.int .i64 (m.high : Int)) ∧ w = w' := by
  have hn := fun W (hW : W = w) => hW ▸ pd_none H
  have c7 := (H.obj 0 rfl).cell 7
  simp only [dbCells, List.getElem?_cons_succ, List.getElem?_cons_zero] at c7
  clear H
  go_enter Tryz.func25, Tryz.ntmps25
  go_wp2_with (go_at_call 61; refine (hn _ rfl).mono ?_; rintro e w' ⟨rfl, rfl⟩)
  go_ret
  exact ⟨rfl, rfl⟩

theorem pd_frees (H : St w0 w (objP x (dbCells d b log m opn lost) 62 :: ps)) :
    Calls Tryz.prog 26 #[.pointer (some ⟨x, 0, none⟩)] w fun e w' => e = .returned (.int .i64 (m.count : Int)) ∧ w = w' := by
  have hn := fun W (hW : W = w) => hW ▸ pd_none H
  have c9 := (H.obj 0 rfl).cell 9
  simp only [dbCells, List.getElem?_cons_succ, List.getElem?_cons_zero] at c9
  clear H
  go_enter Tryz.func26, Tryz.ntmps26
  go_wp2_with (go_at_call 61; refine (hn _ rfl).mono ?_; rintro e w' ⟨rfl, rfl⟩)
  go_ret
  exact ⟨rfl, rfl⟩

end

end Go.Proofs.YtnffnpndnaofhaaGreatDoor
