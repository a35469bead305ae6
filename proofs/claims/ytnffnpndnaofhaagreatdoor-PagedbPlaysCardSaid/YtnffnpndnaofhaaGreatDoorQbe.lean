/- Parts of the proof: The document's database with a transaction: Read, Root, SetRoot, Write; conditions stand in the theorems. -/
import Derived.Test.YtnffnpndnaofhaaGreatDoorQbd

/- The document's database with a transaction: Read, Root, SetRoot, Write; conditions stand in the theorems. -/
namespace Go.Proofs.YtnffnpndnaofhaaGreatDoor
open Go.RowKit
set_option maxRecDepth 100000

section
variable {w0 w : World} {ps : List HP} {r cnt log : Nat} {S T : PSt} {tk : Nat → Bool} {mk sp : Bool}

theorem there_kinds (T : PSt) (id : Int) : T.there id = 0 ∨ T.there id = 2 ∨ T.there id = 8 := by
  unfold PSt.there
  split
  · exact .inr (.inl rfl)
  · split
    · exact .inr (.inr rfl)
    · exact .inl rfl

set_option maxHeartbeats 2000000 in
theorem rf_read (H : St w0 w (rfoP r cnt log S T tk mk sp :: ps)) (id : Int) (hp : T.pages.length ≤ 1000000) :
    Calls Tryz.prog 67 #[.pointer (some ⟨r, 0, none⟩), .int .i64 id] w fun e w' => e = .returned (.tuple #[.int .i64 (if T.there id = 0 then ((T.page id).1 : Int) else 0), strV (if T.there id = 0 then (T.page id).2 else []), .int .i64 (T.there id)]) ∧ St w0 w' (rfoP r cnt log S T tk mk sp :: ps) := by
  have ht := rf_there H id hp
  by_cases h0 : T.there id = 0
  · obtain ⟨b1, b2, b3⟩ := there_bounds h0
    obtain ⟨k, rfl⟩ : ∃ k : Nat, id = (k : Int) := ⟨id.toNat, b3⟩
    have hk1 : 1 ≤ k := by omega
    rw [Int.toNat_natCast] at b2
    obtain ⟨o, ho⟩ : ∃ o, T.pages[k]? = some o := ⟨_, List.getElem?_eq_getElem b2⟩
    cases o with
    | none => rw [there_none hk1 ho] at h0; cases h0
    | some p =>
      obtain ⟨q1, q2⟩ := there_some hk1 ho
      obtain ⟨pk, pl⟩ := p
      obtain ⟨z, hz, ez, -⟩ := str_z pl
      have ecs : pageCells (some (pk, pl)) = [.int .i64 (pk : Int), .string z, .bool false] := by simp only [pageCells]; rw [ez]
      rw [q1] at ht
      rw [q1, q2]
      simp only [if_true]
      rw [ez]
      obtain ⟨v, h1, h2, H1⟩ := rfoP_open H
      obtain ⟨at', ct, et, -, -⟩ := (H1.sl 2 rfl).shape
      have c6 : w.cell? ⟨r, 6, none⟩ = some (.slice at' T.pages.length ct) := by rw [← et]; exact (H1.obj 0 rfl).cell 6
      have hsl := H1.sl 2 rfl
      rw [et] at hsl
      obtain ⟨g, cap, cur, hg, -⟩ := hsl.get (by omega)
      simp only [Value.slice.injEq] at hg
      obtain ⟨rfl, -, rfl⟩ := hg
      have hcs := pages_cell hsl ho
      rw [ecs] at hcs
      have d0 : w.cell? ⟨g, k * 3 + 0, none⟩ = some (.int .i64 (pk : Int)) := hcs 0 _ rfl
      have d1 : w.cell? ⟨g, k * 3 + 1, none⟩ = some (.string z) := hcs 1 _ rfl
      rw [Nat.add_zero] at d0
      obtain ⟨L, hL⟩ : ∃ L, T.pages.length = L := ⟨_, rfl⟩
      rw [hL] at c6 b2 hp
      have hkL : (k : Int) < (L : Int) := by omega
      have S0 : w.drew.cell? ⟨r, 6, none⟩ = some (.slice (some ⟨g, 0, none⟩) L ct) ∧ w.drew.cell? ⟨g, k * 3, none⟩ = some (.int .i64 (pk : Int)) ∧ w.drew.cell? ⟨g, k * 3 + 1, none⟩ = some (.string z) := ⟨c6, d0, d1⟩
      have S0 := hid S0
      have HD := hid H.drew
      clear H H1 hsl hcs d0 d1 c6 ecs ho q1 q2 ez hz b1 b3 h0 h1 h2 hL et
      go_enter Tryz.func67, Tryz.ntmps67
      go_upto_region 4 with (go_at_call 100; refine ht.mono ?_; rintro e w' ⟨rfl, rfl⟩)
      clear ht
      refine wp_stages (by kernel_rfl) ?_
      generalize w.drew = wd at *
      refine wp_stage (fun W => W.cell? ⟨r, 6, none⟩ = some (.slice (some ⟨g, 0, none⟩) L ct) ∧ W.cell? ⟨g, k * 3, none⟩ = some (.int .i64 (pk : Int)) ∧ W.cell? ⟨g, k * 3 + 1, none⟩ = some (.string z)) [(0, true), (1, true), (2, true), (3, true), (4, true), (5, true), (6, true), (7, true), (8, true), (9, true), (10, true), (11, true), (12, true), (13, true), (14, true), (15, true), (16, true), (17, true), (18, false)] 2 rfl (by kernel_rfl) (by intro c a dd v w h; cases dd <;> exact h) (S0.out) ?_
      iterate 18 (refine wpOrd_read (v := _) rfl rfl (by intro w' hS; obtain ⟨s1, s2, s3⟩ := id hS; clear hS; go_simp; rfl) ?_; (try simp only [Act.put, List.setIfInBounds_toArray, List.set_cons_succ, List.set_cons_zero, List.getElem_toArray, List.getElem_cons_succ, List.getElem_cons_zero]))
      refine wpOrd_do rfl rfl (fun K hK => ?_)
      go_simp
      refine hK _ _ ⟨S0.out, ?_⟩
      clear hK K
      (try simp only [Act.put, List.setIfInBounds_toArray, List.set_cons_succ, List.set_cons_zero, List.getElem_toArray, List.getElem_cons_succ, List.getElem_cons_zero])
      refine wpOrd_end ?_
      refine wp_stages_end 19 (by rfl) (by kernel_rfl) ?_
      simp only [List.drop_succ_cons, List.drop_zero]
      go_wp2
      go_ret3
      exact ⟨rfl, HD.out⟩
  · have HH := hid H
    obtain ⟨q, hq⟩ : ∃ q, T.there id = q := ⟨_, rfl⟩
    rw [if_neg h0, if_neg h0]
    rw [hq] at h0 ht ⊢
    clear H hq
    go_enter Tryz.func67, Tryz.ntmps67
    go_wp2_with (go_at_call 100; refine ht.mono ?_; rintro e w' ⟨rfl, rfl⟩)
    go_ret3
    exact ⟨rfl, HH.out⟩

theorem rf_root (H : St w0 w (rfoP r cnt log S T tk mk sp :: ps)) (i : Int) :
    Calls Tryz.prog 39 #[.pointer (some ⟨r, 0, none⟩), .int .i64 i] w fun e w' => e = .returned (.int .i64 (if 0 ≤ i ∧ i ≤ 3 then (T.root i.toNat : Int) else 0)) ∧ w = w' := by
  obtain ⟨v, -, -, H1⟩ := rfoP_open H
  have c5 : w.cell? ⟨r, 5, none⟩ = some (.bool true) := (H1.obj 0 rfl).cell 5
  by_cases h1 : i < 0
  · rw [if_neg (by omega)]
    clear H H1
    go_enter Tryz.func39, Tryz.ntmps39
    go_wp2
    go_ret
    exact ⟨rfl, rfl⟩
  · have h3 : decide (i < 0) = false := by simpa using h1
    by_cases h2 : 3 < i
    · rw [if_neg (by omega)]
      clear H H1 h1
      go_enter Tryz.func39, Tryz.ntmps39
      go_wp2
      go_ret
      exact ⟨rfl, rfl⟩
    · have h4 : decide (3 < i) = false := by simpa using h2
      rw [if_pos (by omega)]
      obtain ⟨k, rfl⟩ : ∃ k : Nat, i = (k : Int) := ⟨i.toNat, by omega⟩
      rw [Int.toNat_natCast]
      have hk4 : (k : Int) < 4 := by omega
      obtain ⟨g, cap, cur, hg, -⟩ := (H1.sl 4 rfl).get (by omega)
      have hsl := H1.sl 4 rfl
      have c8 : w.cell? ⟨r, 8, none⟩ = some (.slice (some ⟨g, 0, none⟩) 4 cap) := by rw [← hg]; exact (H1.obj 0 rfl).cell 8
      rw [hg] at hsl
      have d0 : w.cell? ⟨g, k, none⟩ = some (.int .i64 (T.root k : Int)) := sl_cells hsl (by
        obtain rfl | rfl | rfl | rfl : k = 0 ∨ k = 1 ∨ k = 2 ∨ k = 3 := by omega
        all_goals rfl)
      generalize T.root k = q at *
      clear H H1 h1 h2 hsl hg
      go_enter Tryz.func39, Tryz.ntmps39
      go_wp2
      go_ret
      exact ⟨rfl, rfl⟩

/-- SetRoot's error. -/
def setE (i n : Int) : Int := if i < 0 ∨ 3 < i ∨ n < 0 ∨ 2147483647 < n then 2 else 0

set_option maxHeartbeats 2000000 in
theorem rf_setroot (H : St w0 w (rfoP r cnt log S T tk mk sp :: ps)) (i n : Int) :
    Calls Tryz.prog 71 #[.pointer (some ⟨r, 0, none⟩), .int .i64 i, .int .i64 n] w fun e w' => e = .returned (.int .i64 (setE i n)) ∧
      St w0 w' (rfoP r cnt log S (if setE i n = 0 then T.setRoot i.toNat n.toNat else T) tk (if setE i n = 0 then true else mk) sp :: ps) := by
  have HH := hid H
  obtain ⟨v, e1, e2, H1⟩ := rfoP_open H
  have c5 : w.cell? ⟨r, 5, none⟩ = some (.bool true) := (H1.obj 0 rfl).cell 5
  by_cases h1 : i < 0
  · rw [show setE i n = 2 from if_pos (.inl h1)]
    simp only [show ¬ ((2 : Int) = 0) by decide, if_false]
    clear H H1 e1 e2
    go_enter Tryz.func71, Tryz.ntmps71
    go_wp2
    go_ret
    exact ⟨rfl, HH.out⟩
  · have k1 : decide (i < 0) = false := by simpa using h1
    by_cases h2 : 3 < i
    · rw [show setE i n = 2 from if_pos (.inr (.inl h2))]
      simp only [show ¬ ((2 : Int) = 0) by decide, if_false]
      clear H H1 h1 e1 e2
      go_enter Tryz.func71, Tryz.ntmps71
      go_wp2
      go_ret
      exact ⟨rfl, HH.out⟩
    · have k2 : decide (3 < i) = false := by simpa using h2
      by_cases h3 : n < 0
      · rw [show setE i n = 2 from if_pos (.inr (.inr (.inl h3)))]
        simp only [show ¬ ((2 : Int) = 0) by decide, if_false]
        clear H H1 h1 h2 e1 e2
        go_enter Tryz.func71, Tryz.ntmps71
        go_wp2
        go_ret
        exact ⟨rfl, HH.out⟩
      · have k3 : decide (n < 0) = false := by simpa using h3
        by_cases h4 : 2147483647 < n
        · rw [show setE i n = 2 from if_pos (.inr (.inr (.inr h4)))]
          simp only [show ¬ ((2 : Int) = 0) by decide, if_false]
          clear H H1 h1 h2 h3 e1 e2
          go_enter Tryz.func71, Tryz.ntmps71
          go_wp2
          go_ret
          exact ⟨rfl, HH.out⟩
        · have k4 : decide (2147483647 < n) = false := by simpa using h4
          rw [show setE i n = 0 from if_neg (by omega)]
          simp only [if_true]
          obtain ⟨k, rfl⟩ : ∃ k : Nat, i = (k : Int) := ⟨i.toNat, by omega⟩
          obtain ⟨m, rfl⟩ : ∃ m : Nat, n = (m : Int) := ⟨n.toNat, by omega⟩
          rw [Int.toNat_natCast, Int.toNat_natCast]
          have hk4 : (k : Int) < 4 := by omega
          obtain ⟨pv, fv, rv, pt, ft, rt, tv, md, sp'⟩ := v
          obtain rfl : md = mk := e1
          obtain rfl : sp' = sp := e2
          have H1 : St w0 w (objP r (rfCells cnt log true ⟨pv, fv, rv, pt, ft, rt, tv, md, sp'⟩) 83 :: statP pv fv rv S :: slP pt 54 3 T.pages.length (T.pages.flatMap pageCells) :: slP ft 3 1 T.freed.length (T.freed.map numV) :: slP rt 3 1 4 [numV T.r0, numV T.r1, numV T.r2, numV T.r3] :: slP tv 4 1 (cnt + 1) (tkCells cnt tk) :: ps) := H1
          obtain ⟨g, cap, cur, hg, -⟩ := (H1.sl 4 rfl).get (by omega)
          subst hg
          have c8 : w.cell? ⟨r, 8, none⟩ = some (.slice (some ⟨g, 0, none⟩) 4 cap) := (H1.obj 0 rfl).cell 8
          have c10 : w.cell? ⟨r, 10, none⟩ = some (.bool md) := (H1.obj 0 rfl).cell 10
          have hsl := H1.sl 4 rfl
          have fr := hsl.frozen k
          have lg : g < w.heap.size := hsl.lt g (by simp [fpv])
          have f10 := (H1.obj 0 rfl).frozen 10
          have l0 := (H1.obj 0 rfl).lt
          obtain ⟨q, d0⟩ : ∃ q : Nat, w.cell? ⟨g, k, none⟩ = some (.int .i64 (q : Int)) := ⟨T.root k, sl_cells hsl (by
            obtain rfl | rfl | rfl | rfl : k = 0 ∨ k = 1 ∨ k = 2 ∨ k = 3 := by omega
            all_goals rfl)⟩
          have hne : g ≠ r := by
            obtain ⟨fp, hs, hb⟩ := H1.sep
            obtain ⟨f1, f2, ⟨rfl, -⟩, ⟨rfl, -⟩, h3, -⟩ := hs.apart 0 4 (by omega) rfl rfl
            intro e
            subst e
            exact h3 g (by simp) (by simp [fpv])
          have HZ := hid ((H1.sset 4 rfl k (by omega) (numV m)).set 0 rfl 10 (.bool true))
          clear H H1 HH hsl h1 h2 h3 h4
          go_enter Tryz.func71, Tryz.ntmps71
          go_wp2
          go_ret
          refine ⟨rfl, ?_⟩
          have hfin := HZ.out
          have el : [numV T.r0, numV T.r1, numV T.r2, numV T.r3].set k (numV m) = [numV (T.setRoot k m).r0, numV (T.setRoot k m).r1, numV (T.setRoot k m).r2, numV (T.setRoot k m).r3] := by
            obtain rfl | rfl | rfl | rfl : k = 0 ∨ k = 1 ∨ k = 2 ∨ k = 3 := by omega
            all_goals rfl
          have ep : (T.setRoot k m).pages = T.pages ∧ (T.setRoot k m).freed = T.freed := by
            unfold PSt.setRoot
            split <;> exact ⟨rfl, rfl⟩
          rw [el, ← ep.1, ← ep.2] at hfin
          exact rfoP_mk ⟨pv, fv, rv, pt, ft, .slice (some ⟨g, 0, none⟩) 4 cap, tv, true, sp'⟩ hfin

end
end Go.Proofs.YtnffnpndnaofhaaGreatDoor

/- The document's database with a transaction: Write, Free; conditions stand in the theorems. -/
namespace Go.Proofs.YtnffnpndnaofhaaGreatDoor
open Go.RowKit
set_option maxRecDepth 100000

theorem tk_set {cnt k : Nat} {tk : Nat → Bool} : (tkCells cnt tk).set k (.bool true) = tkCells cnt (tchK tk k) := by
  unfold tkCells
  apply List.ext_getElem?
  intro j
  rw [List.getElem?_set]
  by_cases h : k = j
  · subst h
    by_cases hl : k < cnt + 1
    · simp [hl, tchK]
    · simp [hl]
  · simp only [h, if_false]
    by_cases hl : j < cnt + 1
    · simp only [List.getElem?_map, List.getElem?_range hl, Option.map_some, tchK]
      rw [decide_eq_false (fun e : j = k => h e.symm), Bool.false_or]
    · simp [hl]

theorem tk_cell {cnt k : Nat} {tk : Nat → Bool} (h : k < cnt + 1) : (tkCells cnt tk)[k]? = some (.bool (tk k)) := by
  unfold tkCells
  simp [h]

theorem St.apart2 {w0 w : World} {ps : List HP} (H : St w0 w ps) (i j : Nat) (hij : i < j) {b g n cap sz : Nat} {cs xs : List Value} {E F : TypeId} (h1 : ps[i]? = some (objP b cs E)) (h2 : ps[j]? = some (slP (.slice (some ⟨g, 0, none⟩) n cap) F sz n xs)) : g ≠ b := by
  obtain ⟨fp, hs, hb⟩ := H.sep
  obtain ⟨f1, f2, ⟨rfl, -⟩, ⟨rfl, -⟩, h3, -⟩ := hs.apart i j hij h1 h2
  intro e
  subst e
  exact h3 g (by simp) (by simp [fpv])

section
variable {w0 w : World} {ps : List HP} {r cnt log : Nat} {S T : PSt} {tk : Nat → Bool} {mk sp : Bool}

/-- The pieces of the document's database, its slices told. -/
theorem rfo_parts (hl : 1 ≤ T.pages.length) (H : St w0 w (rfoP r cnt log S T tk mk sp :: ps)) : ∃ (pv fv rv ft rt : Value) (g cap gt ct : Nat), St w0 w (objP r (rfCells cnt log true ⟨pv, fv, rv, .slice (some ⟨g, 0, none⟩) T.pages.length cap, ft, rt, .slice (some ⟨gt, 0, none⟩) (cnt + 1) ct, mk, sp⟩) 83 :: statP pv fv rv S :: slP (.slice (some ⟨g, 0, none⟩) T.pages.length cap) 54 3 T.pages.length (T.pages.flatMap pageCells) :: slP ft 3 1 T.freed.length (T.freed.map numV) :: slP rt 3 1 4 [numV T.r0, numV T.r1, numV T.r2, numV T.r3] :: slP (.slice (some ⟨gt, 0, none⟩) (cnt + 1) ct) 4 1 (cnt + 1) (tkCells cnt tk) :: ps) := by
  obtain ⟨⟨pv, fv, rv, pt, ft, rt, tv, md, sp'⟩, e1, e2, H1⟩ := rfoP_open H
  obtain rfl : md = mk := e1
  obtain rfl : sp' = sp := e2
  obtain ⟨g, cap, cur, hg, -⟩ := (H1.sl 2 rfl).get (by omega)
  obtain ⟨gt, ct, cut, hgt, -⟩ := (H1.sl 5 rfl).get (by omega)
  simp only at hg hgt
  subst hg hgt
  exact ⟨pv, fv, rv, ft, rt, g, cap, gt, ct, H1⟩

set_option maxHeartbeats 4000000 in
theorem rf_write (H : St w0 w (rfoP r cnt log S T tk mk sp :: ps)) (id kind : Int) (s : ByteArray) (hs : s.size ≤ maxLen) (hp : T.pages.length ≤ cnt) (hc : cnt ≤ 8192) :
    Calls Tryz.prog 68 #[.pointer (some ⟨r, 0, none⟩), .int .i64 id, .int .i64 kind, .string s] w fun e w' => e = .returned (.int .i64 (T.writeE id kind s.size)) ∧
      St w0 w' (rfoP r cnt log S (if T.writeE id kind s.size = 0 then T.write id.toNat (kind.toNat, s.data.toList) else T) (if T.writeE id kind s.size = 0 then tchK tk id.toNat else tk) mk sp :: ps) := by
  have ht := rf_there H id (by omega)
  have HH := hid H
  have hsz : s.size ≤ 9223372036854775807 := by simp only [maxLen] at hs; omega
  by_cases h0 : T.there id = 0
  · by_cases k1 : kind < 1
    · rw [show T.writeE id kind s.size = 2 by unfold PSt.writeE; rw [if_pos h0, if_pos (.inl k1)]]
      simp only [show ¬ ((2 : Int) = 0) by decide, if_false]
      rw [h0] at ht
      clear H h0
      go_enter Tryz.func68, Tryz.ntmps68
      go_wp2_with (go_at_call 100; refine ht.mono ?_; rintro e w' ⟨rfl, rfl⟩)
      go_ret
      exact ⟨rfl, HH.out⟩
    · have d1 : decide (kind < 1) = false := by simpa using k1
      by_cases k2 : 254 < kind
      · rw [show T.writeE id kind s.size = 2 by unfold PSt.writeE; rw [if_pos h0, if_pos (.inr (by omega))]]
        simp only [show ¬ ((2 : Int) = 0) by decide, if_false]
        rw [h0] at ht
        clear H h0 k1
        go_enter Tryz.func68, Tryz.ntmps68
        go_wp2_with (go_at_call 100; refine ht.mono ?_; rintro e w' ⟨rfl, rfl⟩)
        go_ret
        exact ⟨rfl, HH.out⟩
      · have d2 : decide (254 < kind) = false := by simpa using k2
        by_cases k3 : 500 < s.size
        · rw [show T.writeE id kind s.size = 3 by unfold PSt.writeE; rw [if_pos h0, if_neg (by omega), if_pos k3]]
          simp only [show ¬ ((3 : Int) = 0) by decide, if_false]
          have k3' : (500 : Int) < (s.size : Int) := by omega
          rw [h0] at ht
          clear H h0 k1 k2 k3
          go_enter Tryz.func68, Tryz.ntmps68
          go_wp2_with (go_at_call 100; refine ht.mono ?_; rintro e w' ⟨rfl, rfl⟩)
          go_ret
          exact ⟨rfl, HH.out⟩
        · rw [show T.writeE id kind s.size = 0 by unfold PSt.writeE; rw [if_pos h0, if_neg (by omega), if_neg k3]]
          simp only [if_true]
          have k3' : ¬ (500 : Int) < (s.size : Int) := by omega
          obtain ⟨b1, b2, b3⟩ := there_bounds h0
          obtain ⟨k, rfl⟩ : ∃ k : Nat, id = (k : Int) := ⟨id.toNat, b3⟩
          obtain ⟨q, rfl⟩ : ∃ q : Nat, kind = (q : Int) := ⟨kind.toNat, by omega⟩
          rw [Int.toNat_natCast] at b2
          rw [Int.toNat_natCast, Int.toNat_natCast]
          rw [h0] at ht
          obtain ⟨pv, fv, rv, ft, rt, g, cap, gt, ct, H1⟩ := rfo_parts (by omega) H
          obtain ⟨L, hL⟩ : ∃ L, Hid (T.pages.length = L) := ⟨_, hid rfl⟩
          have c6 : w.cell? ⟨r, 6, none⟩ = some (.slice (some ⟨g, 0, none⟩) L cap) := by rw [← hL.out]; exact (H1.obj 0 rfl).cell 6
          have hkL : (k : Int) < (L : Int) := by rw [← hL.out]; omega
          have hkc : (k : Int) < ((cnt : Int) + 1) := by omega
          have hkc2 : k < cnt + 1 := by omega
          have HP := hid b2
          have H1 := hid H1
          clear H HH h0 k1 k2 k3 b1 b2 b3 hp
          go_enter Tryz.func68, Tryz.ntmps68
          go_wp2_with (first
            | (go_at_call 100; refine ht.mono ?_; rintro e w' ⟨rfl, rfl⟩)
            | ((with_reducible refine at_store ?_); refine wpL_row rfl 54 (.tmp 34) (.tmp 33) rfl 2 rfl H1.out k HP.out rfl [.int .i64 (q : Int), .string s, .bool false] rfl page_size rfl (by simp [Value.oneCell']) ?_; intro w2 H2; have c9 : w2.cell? ⟨r, 9, none⟩ = some (.slice (some ⟨gt, 0, none⟩) (cnt + 1) ct) := (H2.obj 0 rfl).cell 9; have fr := (H2.sl 5 rfl).frozen k; have lg : gt < w2.heap.size := (H2.sl 5 rfl).lt gt (by simp [fpv]); have d0 : w2.cell? ⟨gt, k, none⟩ = some (.bool (tk k)) := sl_cells (H2.sl 5 rfl) (tk_cell hkc2); have H3 := hid (H2.sset 5 rfl k hkc2 (.bool true)); clear H2 c6))
          go_ret
          refine ⟨rfl, ?_⟩
          have H4 := H3.out
          have e1 : strV s.data.toList = .string s := congrArg Value.string (ba_ext (ba_mk _))
          have e2 : splice (T.pages.flatMap pageCells) (k * 3) [.int .i64 (q : Int), .string s, .bool false] = (T.write k (q, s.data.toList)).pages.flatMap pageCells := by
            rw [← e1]
            exact flat_splice (f := pageCells) (fun x _ => pageCells_length x) (pageCells_length _) HP.out (y := some (q, s.data.toList))
          simp only [List.set_cons_succ, List.set_cons_zero] at H4
          rw [e2, tk_set] at H4
          have e3 : T.pages.length = (T.write k (q, s.data.toList)).pages.length := by simp [PSt.write]
          rw [e3] at H4
          exact rfoP_mk (T := T.write k (q, s.data.toList)) ⟨pv, fv, rv, _, ft, rt, _, mk, sp⟩ H4
  · rw [show T.writeE id kind s.size = T.there id by unfold PSt.writeE; rw [if_neg h0], if_neg h0, if_neg h0]
    obtain ⟨q, hq⟩ : ∃ q, T.there id = q := ⟨_, rfl⟩
    rw [hq] at h0 ht ⊢
    clear H hq
    go_enter Tryz.func68, Tryz.ntmps68
    go_wp2_with (go_at_call 100; refine ht.mono ?_; rintro e w' ⟨rfl, rfl⟩)
    go_ret
    exact ⟨rfl, HH.out⟩

set_option maxHeartbeats 4000000 in
theorem rf_free (H : St w0 w (rfoP r cnt log S T tk mk sp :: ps)) (id : Int) (hp : T.pages.length ≤ cnt) (hf : T.freed.length ≤ cnt) (hc : cnt ≤ 8192) :
    Calls Tryz.prog 70 #[.pointer (some ⟨r, 0, none⟩), .int .i64 id] w fun e w' => e = .returned (.int .i64 (T.there id)) ∧
      St w0 w' (rfoP r cnt log S (if T.there id = 0 then T.free id.toNat else T) (if T.there id = 0 then tchK tk id.toNat else tk) (if T.there id = 0 then true else mk) sp :: ps) := by
  have ht := rf_there H id (by omega)
  have HH := hid H
  by_cases h0 : T.there id = 0
  · simp only [h0, if_true]
    obtain ⟨b1, b2, b3⟩ := there_bounds h0
    obtain ⟨k, rfl⟩ : ∃ k : Nat, id = (k : Int) := ⟨id.toNat, b3⟩
    rw [Int.toNat_natCast] at b2
    rw [Int.toNat_natCast]
    rw [h0] at ht
    obtain ⟨pv, fv, rv, ft, rt, g, cap, gt, ct, H1⟩ := rfo_parts (by omega) H
    obtain ⟨L, hL⟩ : ∃ L, Hid (T.pages.length = L) := ⟨_, hid rfl⟩
    have c6 : w.cell? ⟨r, 6, none⟩ = some (.slice (some ⟨g, 0, none⟩) L cap) := by rw [← hL.out]; exact (H1.obj 0 rfl).cell 6
    have hkL : (k : Int) < (L : Int) := by rw [← hL.out]; omega
    have hkc : (k : Int) < ((cnt : Int) + 1) := by omega
    have hkc2 : k < cnt + 1 := by omega
    have HP := hid (And.intro b2 hf)
    obtain ⟨ni, ji', jz', js2, jb2⟩ := info_intS
    have HJ := hid (And.intro ji' (And.intro jz' (And.intro js2 jb2)))
    clear ji' jz' js2 jb2
    have H1 := hid H1
    clear H HH h0 b1 b2 b3 hp hf
    go_enter Tryz.func70, Tryz.ntmps70
    go_upto_region 5 with (first
      | (go_at_call 100; refine ht.mono ?_; rintro e w' ⟨rfl, rfl⟩)
      | ((with_reducible refine at_store ?_); refine wpL_row rfl 54 (.tmp 19) (.tmp 18) rfl 2 rfl H1.out k HP.out.1 rfl [.int .i64 0, .string ⟨#[]⟩, .bool true] rfl page_size rfl (by simp [Value.oneCell']) ?_; intro w2 H2))
    have H2 := hid H2
    clear c6 ht H1
    obtain ⟨aft, cft, rfl, -, -⟩ := (H2.out.sl 3 rfl).shape
    have c7 : w2.cell? ⟨r, 7, none⟩ = some (.slice aft T.freed.length cft) := (H2.out.obj 0 rfl).cell 7
    have l2 := (H2.out.obj 0 rfl).lt
    have S0 : Sl (w2.alloc (.cells #[] 3)) 3 1 (.slice (some ⟨w2.heap.size, 0, none⟩) 0 0) 0 [] := ⟨rfl, .inr ⟨_, 0, [], rfl, At.new w2 [] _, Nat.le_refl _, by simp [maxLen], rfl, rfl⟩⟩
    have H3 := hid (H2.out.slice S0 ((Pres.refl [] w2).alloc _) (by simp [fpv]))
    clear S0
    have A0 := H3.out.sl 0 rfl
    have X0 := H3.out.sl 4 rfl
    generalize hF : T.freed.length = F at *
    have HF := hid hF
    clear hF
    have hF8 : F ≤ 8192 := Nat.le_trans HP.out.2 hc
    go_upto_region 6 with (first
      | ((with_reducible refine at_append ?_); (refine wpL_app rfl (.tmp 21) (.tmp 26) 35 35 rfl 3 ni _ 1 Tryz.underlying35 HJ.out.1 HJ.out.2.1 HJ.out.2.2.1 rfl (.slice (some ⟨w2.heap.size, 0, none⟩) 0 0) 0 [] rfl A0 F _ (Src.sl Tryz.underlying35 X0 nums_one) (by simp only [maxLen]; omega) (by rw [HJ.out.2.2.2]; omega) ?_); intro v3 w3 Y1 Y2 Y3; have H4 := hid (H3.out.grow 0 rfl Y1 Y2 Y3); simp only [Nat.zero_add, List.nil_append, List.set_cons_zero] at H4; clear Y1 Y2 Y3 A0 X0 c7; have A1 := At.new w3 [.int .i64 (k : Int)] 3; have H5 := hid (H4.out.quiet ((Pres.refl [] w3).alloc (.cells [.int .i64 (k : Int)].toArray 3))); have X1 := H5.out.sl 0 rfl)
      | ((with_reducible refine at_append ?_); go_must (refine wpL_app rfl (.tmp 27) (.tmp 29) 35 35 rfl 3 ni _ 1 Tryz.underlying35 HJ.out.1 HJ.out.2.1 HJ.out.2.2.1 rfl v3 F _ rfl X1 1 [.int .i64 (k : Int)] (Src.at Tryz.underlying35 A1 rfl (by simp [Value.oneCell'])) (by simp only [maxLen]; omega) (by rw [HJ.out.2.2.2]; omega) ?_); intro v4 w4 Y1 Y2 Y3; have H6 := hid (H5.out.grow 0 rfl Y1 Y2 Y3); obtain ⟨a4, c4, rfl, -, -⟩ := Y1.shape; have f7 := (H6.out.obj 1 rfl).frozen 7; have l7 := (H6.out.obj 1 rfl).lt; have c7 : w4.cell? ⟨r, 7, none⟩ = some (.slice aft F cft) := (H6.out.obj 1 rfl).cell 7; clear Y1 Y2 Y3 A1 X1))
    clear l2
    have H7 := hid (H6.out.set 1 rfl 7 (.slice a4 (F + 1) c4))
    clear H2 H3 H4 H5
    generalize (w4.setCell _ _) = w5 at *
    clear H6 c7 f7 l7
    have c9 : w5.cell? ⟨r, 9, none⟩ = some (.slice (some ⟨gt, 0, none⟩) (cnt + 1) ct) := (H7.out.obj 1 rfl).cell 9
    have c10 : w5.cell? ⟨r, 10, none⟩ = some (.bool mk) := (H7.out.obj 1 rfl).cell 10
    have fr := (H7.out.sl 6 rfl).frozen k
    have lg : gt < w5.heap.size := (H7.out.sl 6 rfl).lt gt (by simp [fpv])
    have d0 : w5.cell? ⟨gt, k, none⟩ = some (.bool (tk k)) := sl_cells (H7.out.sl 6 rfl) (tk_cell hkc2)
    have f10 := (H7.out.obj 1 rfl).frozen 10
    have l10 := (H7.out.obj 1 rfl).lt
    have hne : gt ≠ r := H7.out.apart2 1 6 (by omega) rfl rfl
    have H8 := hid ((H7.out.sset 6 rfl k hkc2 (.bool true)).set 1 rfl 10 (.bool true))
    clear H7
    go_wp2
    go_ret
    refine ⟨rfl, ?_⟩
    have H9 := H8.out
    simp only [List.set_cons_succ, List.set_cons_zero] at H9
    have e2 : splice (T.pages.flatMap pageCells) (k * 3) [.int .i64 0, .string ⟨#[]⟩, .bool true] = (T.free k).pages.flatMap pageCells :=
      flat_splice (f := pageCells) (fun x _ => pageCells_length x) (pageCells_length _) HP.out.1 (y := none)
    rw [e2, tk_set] at H9
    have e3 : T.pages.length = (T.free k).pages.length := by simp [PSt.free]
    have e4 : F + 1 = (T.free k).freed.length := by simp [PSt.free, HF.out]
    have e5 : T.freed.map numV ++ [.int .i64 (k : Int)] = (T.free k).freed.map numV := by simp [PSt.free, numV]
    rw [e3, e4, e5] at H9
    have h10 := ((H9.pull 4 rfl).drop).pull 3 rfl
    exact rfoP_mk (T := T.free k) ⟨pv, fv, rv, _, _, rt, _, true, sp⟩ ((h10.pull 3 rfl).pull 3 rfl)
  · rw [if_neg h0, if_neg h0, if_neg h0]
    obtain ⟨q, hq⟩ : ∃ q, T.there id = q := ⟨_, rfl⟩
    rw [hq] at h0 ht ⊢
    clear H hq
    go_enter Tryz.func70, Tryz.ntmps70
    go_wp2_with (go_at_call 100; refine ht.mono ?_; rintro e w' ⟨rfl, rfl⟩)
    go_ret
    exact ⟨rfl, HH.out⟩

end
end Go.Proofs.YtnffnpndnaofhaaGreatDoor

/- The document's database with a transaction: Alloc; conditions stand in the theorem. -/
namespace Go.Proofs.YtnffnpndnaofhaaGreatDoor
open Go.RowKit
set_option maxRecDepth 100000

theorem Sl.short {w : World} {E : TypeId} {g n cap m sz : Nat} {xs : List Value} (h : Sl w E sz (.slice (some ⟨g, 0, none⟩) n cap) n xs) (hm : m ≤ n) : Sl w E sz (.slice (some ⟨g, 0, none⟩) m cap) m (xs.take (m * sz)) := by
  obtain ⟨hl, h2⟩ := h
  have hle := Nat.mul_le_mul_right sz hm
  rcases h2 with ⟨e, -⟩ | ⟨g', cap', cur, e, hg, hnc, hcm, hcs, ht⟩
  · cases e
  · simp only [Value.slice.injEq, Option.some.injEq, Addr.mk.injEq, and_true, true_and] at e
    obtain ⟨rfl, rfl⟩ := e
    refine ⟨by rw [List.length_take]; omega, .inr ⟨g, cap, cur, rfl, hg, by omega, hcm, hcs, ?_⟩⟩
    rw [← ht, List.take_take, Nat.min_eq_left hle]

section
variable {w0 w : World} {ps : List HP} {r cnt log : Nat} {S T : PSt} {tk : Nat → Bool} {mk sp : Bool}

theorem alloc_nil {T : PSt} {cnt : Nat} (hf : T.freed = []) (h : T.pages.length = cnt) : T.alloc cnt = (0, 7, T) := by
  unfold PSt.alloc
  rw [if_pos hf, if_pos h]

theorem alloc_grow {T : PSt} {cnt : Nat} (hf : T.freed = []) (h : T.pages.length ≠ cnt) : T.alloc cnt = (T.pages.length, 0, T.grow) := by
  unfold PSt.alloc
  rw [if_pos hf, if_neg h]

theorem alloc_take {T : PSt} {cnt b : Nat} {l : List Nat} (hf : T.freed = l ++ [b]) : T.alloc cnt = (b, 0, T.take b) := by
  unfold PSt.alloc
  rw [if_neg (by rw [hf]; simp), hf]
  simp

set_option maxHeartbeats 4000000 in
theorem rf_alloc (H : St w0 w (rfoP r cnt log S T tk mk sp :: ps)) (hp1 : 1 ≤ T.pages.length) (hp : T.pages.length ≤ cnt) (hfr : ∀ a ∈ T.freed, a < T.pages.length) (hf : T.freed.length ≤ cnt) (hc : cnt ≤ 8192) :
    Calls Tryz.prog 69 #[.pointer (some ⟨r, 0, none⟩)] w fun e w' => e = .returned (.tuple #[.int .i64 ((T.alloc cnt).1 : Int), .int .i64 (T.alloc cnt).2.1]) ∧
      St w0 w' (rfoP r cnt log S (T.alloc cnt).2.2 (if (T.alloc cnt).2.1 = 0 then tchK tk (T.alloc cnt).1 else tk) (if (T.alloc cnt).2.1 = 0 then true else mk) sp :: ps) := by
  obtain ⟨pv, fv, rv, ft, rt, g, cap, gt, ct, H1⟩ := rfo_parts hp1 H
  have H1 := hid H1
  obtain ⟨aft, cft, rfl, hfc, -⟩ := (H1.out.sl 3 rfl).shape
  have HFC := hid hfc
  clear hfc
  obtain ⟨L, hL⟩ : ∃ L, Hid (T.pages.length = L) := ⟨_, hid rfl⟩
  have c5 : w.cell? ⟨r, 5, none⟩ = some (.bool true) := (H1.out.obj 0 rfl).cell 5
  have c6 : w.cell? ⟨r, 6, none⟩ = some (.slice (some ⟨g, 0, none⟩) L cap) := by rw [← hL.out]; exact (H1.out.obj 0 rfl).cell 6
  have c0 : w.cell? ⟨r, 0, none⟩ = some (.int .i64 (cnt : Int)) := (H1.out.obj 0 rfl).cell 0
  have HH := hid H
  have HP := hid (And.intro hp (And.intro hfr hf))
  have hL8 : L ≤ 8192 := by rw [← hL.out]; omega
  clear H hp1 hp hfr hf
  obtain ⟨nf, hi', hz', hs2, hb2⟩ := info_page
  have HI := hid (And.intro hi' (And.intro hz' (And.intro hs2 hb2)))
  clear hi' hz' hs2 hb2
  rcases List.eq_nil_or_concat T.freed with hfn | ⟨l, b, hfn⟩
  · have c7 : w.cell? ⟨r, 7, none⟩ = some (.slice aft 0 cft) := by
      have : w.cell? ⟨r, 7, none⟩ = some (.slice aft T.freed.length cft) := (H1.out.obj 0 rfl).cell 7
      rwa [hfn] at this
    by_cases hlc : L = cnt
    · rw [alloc_nil hfn (by rw [hL.out]; exact hlc)]
      simp only [show ¬ ((7 : Int) = 0) by decide, if_false]
      subst hlc
      clear hfn H1
      go_enter Tryz.func69, Tryz.ntmps69
      go_wp2
      go_ret2
      exact ⟨rfl, HH.out⟩
    · rw [alloc_grow hfn (by rw [hL.out]; exact hlc)]
      dsimp only
      simp only [if_true]
      have hlci : ¬ (L : Int) = (cnt : Int) := by omega
      have hkc2 : L < cnt + 1 := by have := HP.out.1; have := hL.out; omega
      have hkc : (L : Int) < ((cnt : Int) + 1) := by omega
      have HFN := hid hfn
      rw [hL.out]
      clear hfn hlc HH
      have A7 := At.new w [.int .i64 1, .string ⟨#[]⟩, .bool false] 54
      have H2 := hid (H1.out.quiet ((Pres.refl [] w).alloc (.cells [.int .i64 1, .string ⟨#[]⟩, .bool false].toArray 54)))
      have hsl := H2.out.sl 2 rfl
      rw [hL.out] at hsl
      have l0 := (H1.out.obj 0 rfl).lt
      go_enter Tryz.func69, Tryz.ntmps69
      go_upto_region 12 with (first
        | ((with_reducible refine at_slit ?_); refine wpList_plain rfl fun K hK => wp_value (run_slit_one (n := 3) (v := .agg #[.int .i64 1, .string ⟨#[]⟩, .bool false]) rfl rfl Tryz.underlying34 page_size page_zero rfl (by omega) (by omega) rfl) (hK _ _ ?_); clear hK K)
        | ((with_reducible refine at_append ?_); go_must (refine wpL_app rfl (.tmp 65) (.tmp 67) 34 34 rfl 54 nf _ 3 Tryz.underlying34 HI.out.1 HI.out.2.1 HI.out.2.2.1 rfl _ L _ rfl hsl 1 [.int .i64 1, .string ⟨#[]⟩, .bool false] (Src.at Tryz.underlying34 A7 rfl (by simp [Value.oneCell'])) (by simp only [maxLen]; omega) (by rw [HI.out.2.2.2]; omega) ?_); intro v8 w8 Y1 Y2 Y3; have H8 := hid (H2.out.grow 2 (by rw [← hL.out]; rfl) Y1 Y2 Y3); obtain ⟨ao8, cap8, rfl, -, -⟩ := Y1.shape; have f8 := (H8.out.obj 0 rfl).frozen 6; have c8 : w8.cell? ⟨r, 6, none⟩ = some (.slice (some ⟨g, 0, none⟩) T.pages.length cap) := (H8.out.obj 0 rfl).cell 6; have l8 := (H8.out.obj 0 rfl).lt; clear Y1 Y2 Y3 hsl A7))
      have H9 := hid (H8.out.set 0 rfl 6 (.slice ao8 (L + 1) cap8))
      clear H8 H2
      generalize (w8.setCell _ _) = w9 at *
      clear c8 f8 l8 c6 c7 c5 c0 l0 H1
      have c9 : w9.cell? ⟨r, 9, none⟩ = some (.slice (some ⟨gt, 0, none⟩) (cnt + 1) ct) := (H9.out.obj 0 rfl).cell 9
      have c10 : w9.cell? ⟨r, 10, none⟩ = some (.bool mk) := (H9.out.obj 0 rfl).cell 10
      have fr := (H9.out.sl 5 rfl).frozen L
      have lg : gt < w9.heap.size := (H9.out.sl 5 rfl).lt gt (by simp [fpv])
      have d0 : w9.cell? ⟨gt, L, none⟩ = some (.bool (tk L)) := sl_cells (H9.out.sl 5 rfl) (tk_cell hkc2)
      have f10 := (H9.out.obj 0 rfl).frozen 10
      have l10 := (H9.out.obj 0 rfl).lt
      have hne : gt ≠ r := H9.out.apart2 0 5 (by omega) rfl rfl
      have HA := hid ((H9.out.sset 5 rfl L hkc2 (.bool true)).set 0 rfl 10 (.bool true))
      clear H9
      go_wp2
      go_ret2
      refine ⟨rfl, ?_⟩
      have HB := HA.out
      simp only [List.set_cons_succ, List.set_cons_zero] at HB
      have e1 : T.pages.flatMap pageCells ++ [.int .i64 1, .string ⟨#[]⟩, .bool false] = T.grow.pages.flatMap pageCells := by
        simp only [PSt.grow, List.flatMap_append, List.flatMap_cons, List.flatMap_nil, List.append_nil]
        rfl
      have e2 : L + 1 = T.grow.pages.length := by simp [PSt.grow, hL.out]
      rw [tk_set, e1, e2] at HB
      exact rfoP_mk (T := T.grow) ⟨pv, fv, rv, _, _, rt, _, true, sp⟩ HB
  · rw [List.concat_eq_append] at hfn
    rw [alloc_take hfn]
    dsimp only
    simp only [if_true]
    obtain ⟨m, hm⟩ : ∃ m, Hid (l.length = m) := ⟨_, hid rfl⟩
    have hFm : T.freed.length = m + 1 := by rw [hfn, List.length_append, hm.out]; rfl
    obtain ⟨gf, cf, cuf, hgf, -⟩ := (H1.out.sl 3 rfl).get (by rw [hFm]; omega)
    simp only [Value.slice.injEq] at hgf
    obtain ⟨rfl, -, rfl⟩ := hgf
    have hbl : b < L := by rw [← hL.out]; exact HP.out.2.1 b (by rw [hfn]; simp)
    have hbli : (b : Int) < (L : Int) := by omega
    have hm8 : m + 1 ≤ 8192 := by have := HP.out.2.2; omega
    have hkc2 : b < cnt + 1 := by have := HP.out.1; have := hL.out; omega
    have hkc : (b : Int) < ((cnt : Int) + 1) := by omega
    have c7 : w.cell? ⟨r, 7, none⟩ = some (.slice (some ⟨gf, 0, none⟩) (m + 1) cft) := by rw [← hFm]; exact (H1.out.obj 0 rfl).cell 7
    have d7 : w.cell? ⟨gf, m, none⟩ = some (.int .i64 (b : Int)) := by
      have := H1.out.sl 3 rfl
      exact sl_cells this (by rw [hfn, List.map_append, List.getElem?_append_right (by simp [hm.out])]; simp [hm.out, numV])
    have f7 := (H1.out.obj 0 rfl).frozen 7
    have l0 := (H1.out.obj 0 rfl).lt
    have H2 := hid (H1.out.set 0 rfl 7 (.slice (some ⟨gf, 0, none⟩) m cft))
    have HF := hid (And.intro hfn hFm)
    have HBL := hid hbl
    have hmc : (m : Int) ≤ (cft : Int) := by have := HFC.out; omega
    have hmc2 : m ≤ cft := by omega
    clear hfn hFm HH H1 hbl
    go_enter Tryz.func69, Tryz.ntmps69
    go_upto_region 8 with fail
    clear c5 c6 c0 d7 f7 c7 l0
    generalize (w.setCell _ _) = w2 at *
    have c6 : w2.cell? ⟨r, 6, none⟩ = some (.slice (some ⟨g, 0, none⟩) L cap) := by rw [← hL.out]; exact (H2.out.obj 0 rfl).cell 6
    go_wp2_with (((with_reducible refine at_store ?_); refine wpL_row rfl 54 (.tmp 53) (.tmp 52) rfl 2 rfl H2.out b (by rw [hL.out]; exact HBL.out) rfl [.int .i64 1, .string ⟨#[]⟩, .bool false] rfl page_size rfl (by simp [Value.oneCell']) ?_; intro w3 H3; have c9 : w3.cell? ⟨r, 9, none⟩ = some (.slice (some ⟨gt, 0, none⟩) (cnt + 1) ct) := (H3.obj 0 rfl).cell 9; have c10 : w3.cell? ⟨r, 10, none⟩ = some (.bool mk) := (H3.obj 0 rfl).cell 10; have fr := (H3.sl 5 rfl).frozen b; have lg : gt < w3.heap.size := (H3.sl 5 rfl).lt gt (by simp [fpv]); have d0 : w3.cell? ⟨gt, b, none⟩ = some (.bool (tk b)) := sl_cells (H3.sl 5 rfl) (tk_cell hkc2); have f10 := (H3.obj 0 rfl).frozen 10; have l10 := (H3.obj 0 rfl).lt; have hne : gt ≠ r := H3.apart2 0 5 (by omega) rfl rfl; have H4 := hid ((H3.sset 5 rfl b hkc2 (.bool true)).set 0 rfl 10 (.bool true)); clear H3 c6))
    go_ret2
    refine ⟨rfl, ?_⟩
    have H5 := H4.out
    simp only [List.set_cons_succ, List.set_cons_zero] at H5
    have e2 : splice (T.pages.flatMap pageCells) (b * 3) [.int .i64 1, .string ⟨#[]⟩, .bool false] = (T.take b).pages.flatMap pageCells :=
      flat_splice (f := pageCells) (fun x _ => pageCells_length x) (pageCells_length _) (by rw [hL.out]; exact HBL.out) (y := some (1, []))
    have e3 : T.pages.length = (T.take b).pages.length := by simp [PSt.take]
    rw [e2, tk_set, e3] at H5
    have h6 := (H5.pull 3 rfl).see (q := slP (.slice (some ⟨gf, 0, none⟩) m cft) 3 1 m ((T.freed.map numV).take (m * 1))) (by
      rintro fp ⟨rfl, hs⟩
      rw [HF.out.2] at hs
      exact ⟨by simp [fpv], hs.short (by omega)⟩)
    have e4 : (T.freed.map numV).take (m * 1) = (T.take b).freed.map numV := by
      rw [Nat.mul_one, HF.out.1]
      simp [PSt.take, HF.out.1, hm.out]
    have e5 : m = (T.take b).freed.length := by
      simp [PSt.take, HF.out.2]
    rw [e4] at h6
    have h7 := ((h6.pull 3 rfl).pull 3 rfl).pull 3 rfl
    simp only [List.eraseIdx] at h7
    generalize hmm : m = m' at *
    subst hmm
    rw [e5] at h7
    exact rfoP_mk (T := T.take b) ⟨pv, fv, rv, _, _, rt, _, true, sp⟩ h7

end
end Go.Proofs.YtnffnpndnaofhaaGreatDoor
