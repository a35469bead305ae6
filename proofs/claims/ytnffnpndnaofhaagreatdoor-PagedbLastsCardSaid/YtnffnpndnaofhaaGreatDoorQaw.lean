/- Parts of the proof: A state is built anew: pages, what comes free, roots. Plain Lean, no Go. -/
import Derived.Test.YtnffnpndnaofhaaGreatDoorQav
import Derived.Test.YtnffnpndnaofhaaGreatDoorQat

/- A state is built anew: pages, what comes free, roots. Plain Lean, no Go. -/
namespace Go.Proofs.YtnffnpndnaofhaaGreatDoor

def mkS (n : Nat) (f : Nat → Option Leaf) (fr : List Nat) : PSt := ⟨(List.range n).map f, fr, 0, 0, 0, 0⟩

theorem mkS_congr {n : Nat} {f g : Nat → Option Leaf} {fr : List Nat} (h : ∀ j, j < n → f j = g j) : mkS n f fr = mkS n g fr := by
  unfold mkS
  rw [List.map_congr_left (fun j hj => h j (List.mem_range.1 hj))]

theorem mkS_len {n : Nat} {f : Nat → Option Leaf} {fr : List Nat} : (mkS n f fr).pages.length = n := by simp [mkS]

theorem mkS_page {n : Nat} {f : Nat → Option Leaf} {fr : List Nat} {k : Nat} (h : k < n) : (mkS n f fr).pages[k]? = some (f k) := by
  simp [mkS, h]

theorem mkS_there {n : Nat} {f : Nat → Option Leaf} {fr : List Nat} {k : Nat} (h1 : 1 ≤ k) (h : k < n) (hf : f k ≠ none) : (mkS n f fr).there (k : Int) = 0 := by
  unfold PSt.there
  rw [mkS_len, if_neg (by omega), Int.toNat_natCast, mkS_page h, if_neg (by intro e; exact hf (Option.some.inj e))]

theorem range_set {α : Type} (n : Nat) (f : Nat → α) (k : Nat) (a : α) : ((List.range n).map f).set k a = (List.range n).map (fun j => if j = k then a else f j) := by
  apply List.ext_getElem?
  intro i
  rw [List.getElem?_set]
  by_cases hi : i < n
  · by_cases e : k = i
    · subst e
      simp [hi]
    · have e' : ¬ i = k := fun h => e h.symm
      simp [hi, e, e']
  · by_cases e : k = i
    · subst e
      simp [hi]
    · simp [hi, e]

theorem mkS_write {n : Nat} {f : Nat → Option Leaf} {fr : List Nat} (k : Nat) (p : Leaf) : (mkS n f fr).write k p = mkS n (fun j => if j = k then some p else f j) fr := by
  unfold PSt.write mkS
  simp only [range_set]

theorem mkS_free {n : Nat} {f : Nat → Option Leaf} {fr : List Nat} (k : Nat) : (mkS n f fr).free k = mkS n (fun j => if j = k then none else f j) (fr ++ [k]) := by
  unfold PSt.free mkS
  simp only [range_set]

theorem mkS_alloc {n cnt : Nat} {f : Nat → Option Leaf} (h : n < cnt) : (mkS n f []).alloc cnt = (n, 0, mkS (n + 1) (fun j => if j = n then some (1, []) else f j) []) := by
  unfold PSt.alloc
  rw [if_pos (by rfl), mkS_len, if_neg (by omega)]
  unfold PSt.grow mkS
  simp only [List.range_succ, List.map_append, List.map_cons, List.map_nil, if_true]
  rw [List.map_congr_left (f := fun j => if j = n then some (1, []) else f j) (g := f) (fun j hj => if_neg (by have := List.mem_range.1 hj; omega))]

theorem mkS_new : PSt.new = mkS 1 (fun _ => some (0, [])) [] := rfl

/-- What is written to page j. -/
def fillL (S : PSt) (j : Nat) : Leaf := match S.pages[j]? with | some (some p) => p | _ => (1, [])

/-- Pages were allocated. -/
def seedS (n : Nat) : PSt := mkS n (fun j => if j = 0 then some (0, []) else some (1, [])) []
/-- Those ahead of page k are written. -/
def wrS (S : PSt) (n k : Nat) : PSt := mkS n (fun j => if j = 0 then some (0, []) else if j < k then some (fillL S j) else some (1, [])) []
/-- The first k that came free are free. -/
def frS (S : PSt) (n k : Nat) : PSt := mkS n (fun j => if j ∈ S.freed.take k then none else if j = 0 then some (0, []) else some (fillL S j)) (S.freed.take k)
/-- The first k roots are set. -/
def rtS (S T : PSt) (k : Nat) : PSt := ⟨T.pages, T.freed, if 0 < k then S.r0 else T.r0, if 1 < k then S.r1 else T.r1, if 2 < k then S.r2 else T.r2, if 3 < k then S.r3 else T.r3⟩

theorem seed_one : PSt.new = seedS 1 := by
  rw [mkS_new]
  exact mkS_congr (fun j hj => by rw [if_pos (by omega)])

theorem seed_alloc {n cnt : Nat} (h1 : 1 ≤ n) (h : n < cnt) : (seedS n).alloc cnt = (n, 0, seedS (n + 1)) := by
  unfold seedS
  rw [mkS_alloc h]
  have e : mkS (n + 1) (fun j => if j = n then some (1, []) else if j = 0 then some (0, []) else some (1, [])) [] = mkS (n + 1) (fun j => if j = 0 then some (0, []) else some (1, [])) [] :=
    mkS_congr (fun j _ => by
      by_cases e : j = n
      · rw [if_pos e, if_neg (by omega)]
      · rw [if_neg e])
  rw [e]

theorem wr_one (S : PSt) (n : Nat) : seedS n = wrS S n 1 :=
  mkS_congr (fun j _ => by
    by_cases e : j = 0
    · rw [if_pos e, if_pos e]
    · rw [if_neg e, if_neg e, if_neg (by omega)])

theorem wr_write (S : PSt) (n : Nat) {k : Nat} (h1 : 1 ≤ k) : (wrS S n k).write k (fillL S k) = wrS S n (k + 1) := by
  unfold wrS
  rw [mkS_write]
  refine mkS_congr (fun j _ => ?_)
  by_cases e : j = k
  · subst e
    rw [if_pos rfl, if_neg (by omega), if_pos (by omega)]
  · rw [if_neg e]
    by_cases e0 : j = 0
    · rw [if_pos e0, if_pos e0]
    · rw [if_neg e0, if_neg e0]
      by_cases e1 : j < k
      · rw [if_pos e1, if_pos (by omega)]
      · rw [if_neg e1, if_neg (by omega)]

theorem fr_zero (S : PSt) (n : Nat) : wrS S n n = frS S n 0 := by
  unfold wrS frS
  rw [List.take_zero]
  refine mkS_congr (fun j hj => ?_)
  rw [if_neg (by simp : ¬ j ∈ ([] : List Nat)), if_pos hj]

theorem fr_free (S : PSt) (n : Nat) {k a : Nat} (ha : S.freed[k]? = some a) : (frS S n k).free a = frS S n (k + 1) := by
  unfold frS
  rw [mkS_free]
  have e : S.freed.take (k + 1) = S.freed.take k ++ [a] := by rw [List.take_add_one, ha]; rfl
  rw [e]
  refine mkS_congr (fun j _ => ?_)
  by_cases e : j = a
  · rw [if_pos e, if_pos (show j ∈ S.freed.take k ++ [a] by simp [e])]
  · rw [if_neg e]
    by_cases e2 : j ∈ S.freed.take k
    · rw [if_pos e2, if_pos (show j ∈ S.freed.take k ++ [a] by simp [e2])]
    · rw [if_neg e2, if_neg (show ¬ j ∈ S.freed.take k ++ [a] by simp [e, e2])]

theorem fr_there (S : PSt) (n : Nat) {k a : Nat} (hn : S.freed.Nodup) (ha : S.freed[k]? = some a) (h1 : 1 ≤ a) (h : a < n) : (frS S n k).there (a : Int) = 0 := by
  refine mkS_there h1 h ?_
  have hni : a ∉ S.freed.take k := by
    intro hm
    obtain ⟨i, hi⟩ := List.mem_iff_getElem?.1 hm
    rw [List.getElem?_take] at hi
    split at hi
    · rename_i hik
      have := (List.getElem?_inj (List.getElem?_eq_some_iff.1 hi).1 hn).1 (hi.trans ha.symm)
      omega
    · cases hi
  show (if a ∈ S.freed.take k then none else if a = 0 then some (0, []) else some (fillL S a)) ≠ none
  rw [if_neg hni]
  split <;> simp

theorem fr_all {m : Meta} {v : Nat → Leaf} {cnt : Nat} (S : PSt) (V : Views m v S cnt) : rtS S (frS S S.pages.length S.freed.length) 4 = S := by
  refine pst_eq ?_ ?_ ?_ ?_ ?_ ?_
  · apply List.ext_getElem?
    intro j
    simp only [rtS, frS]
    by_cases hj : j < S.pages.length
    · rw [mkS_page hj, List.take_length]
      obtain ⟨o, ho⟩ : ∃ o, S.pages[j]? = some o := ⟨_, List.getElem?_eq_getElem hj⟩
      by_cases hf : j ∈ S.freed
      · rw [if_pos hf, (V.free j).2 hf]
      · rw [if_neg hf]
        by_cases h0 : j = 0
        · rw [if_pos h0, h0, V.zero]
        · rw [if_neg h0]
          cases o with
          | none => exact absurd ((V.free j).1 ho) hf
          | some p => simp only [fillL]; rw [ho]
    · rw [List.getElem?_eq_none (by rw [mkS_len]; omega), List.getElem?_eq_none (by omega)]
  · simp only [rtS, frS, mkS, List.take_length]
  · simp [rtS]
  · simp [rtS]
  · simp [rtS]
  · simp [rtS]

theorem rt_zero (S T : PSt) : T = rtS S T 0 := by simp [rtS]

theorem rt_set (S T : PSt) {k : Nat} (h : k < 4) : (rtS S T k).setRoot k (S.root k) = rtS S T (k + 1) := by
  obtain rfl | rfl | rfl | rfl : k = 0 ∨ k = 1 ∨ k = 2 ∨ k = 3 := by omega
  · simp [rtS, PSt.setRoot, PSt.root]
  · simp [rtS, PSt.setRoot, PSt.root]
  · simp [rtS, PSt.setRoot, PSt.root]
  · simp [rtS, PSt.setRoot, PSt.root]

/-! ## What a transaction changes hangs on what is there alone -/

theorem chg1_T (X Y : TS) (h : X.T = Y.T) (cnt : Nat) (a : ActD) (k : Nat) : (X.chg1 cnt a k).T = (Y.chg1 cnt a k).T := by
  unfold TS.chg1 TS.alloc TS.write TS.free
  simp only [h]
  split <;> split <;> rfl

theorem chgTo_T (X Y : TS) (h : X.T = Y.T) (cnt : Nat) (a : ActD) : ∀ k, (X.chgTo cnt a k).T = (Y.chgTo cnt a k).T
  | 0 => h
  | k + 1 => chg1_T _ _ (chgTo_T X Y h cnt a k) cnt a k

theorem chg_T (X Y : TS) (h : X.T = Y.T) (cnt : Nat) (a : ActD) : (X.chg cnt a).T = (Y.chg cnt a).T := by
  unfold TS.chg TS.root
  simp only [chgTo_T X Y h cnt a]

/-- The free ones, by their numbers. -/
def frees (S : PSt) (k : Nat) : List Nat := (List.range k).filter fun j => decide (S.pages[j]? = some none)

theorem frees_len {m : Meta} {v : Nat → Leaf} {cnt : Nat} {S : PSt} (V : Views m v S cnt) : (frees S S.pages.length).length = S.freed.length := by
  refine List.Perm.length_eq ((List.perm_ext_iff_of_nodup (List.nodup_range.filter _) V.nodup).2 (fun j => ?_))
  rw [List.mem_filter, decide_eq_true_eq, V.free j, List.mem_range]
  exact ⟨fun h => h.2, fun h => ⟨(V.mem h).2, h⟩⟩

theorem frees_free {S : PSt} {k : Nat} (h : S.pages[k]? = some none) : frees S (k + 1) = frees S k ++ [k] := by
  unfold frees
  rw [List.range_succ, List.filter_append]
  simp [h]

theorem frees_not {S : PSt} {k : Nat} (h : S.pages[k]? ≠ some none) : frees S (k + 1) = frees S k := by
  unfold frees
  rw [List.range_succ, List.filter_append]
  simp [h]

end Go.Proofs.YtnffnpndnaofhaaGreatDoor

/- aquiferlaw10.build: transactions, each of one call's changes; conditions stand in the theorem. -/
namespace Go.Proofs.YtnffnpndnaofhaaGreatDoor
open Go.RowKit
set_option maxRecDepth 100000

theorem act_agg : IsAgg Tryz.prog 46 := ⟨_, Tryz.underlying46, rfl⟩
theorem act_size : (Tryz.prog.info? 46).map (·.size) = some 5 := by kernel_rfl

theorem commitE_no {log K : Nat} : commitE log false K = 0 ∨ commitE log false K = 7 := by
  unfold commitE
  simp only [Bool.false_eq_true, if_false]
  split
  · exact .inr rfl
  · exact .inl rfl

section
variable {w0 w : World} {ps : List HP} {x d N log cnt E : Nat} {S : PSt}

set_option maxHeartbeats 8000000 in
theorem law_build (hh : HalfAt w0) (H : St w0 w (dbP x d N log cnt E false S :: ps)) (v : Value) (acts : List ActD) (ha : ActsAt w0 v acts) (most : Nat) (hm : E + most < 1000000) :
    Calls Tryz.prog 13 #[.pointer (some ⟨x, 0, none⟩), v, .int .i64 (most : Int)] w fun e w' => e = .returned (.bool true) ∧ ∃ E' S', E' ≤ E + most ∧ St w0 w' (dbP x d N log cnt E' false S' :: ps) := by
  obtain ⟨am, capm, em, hm1, hm2, -⟩ := id ha.1
  rw [List.length_map] at em hm1
  subst em
  have hmax : acts.length ≤ 9223372036854775807 := by simp only [maxLen] at hm2; omega
  have HA := hid ha
  have H0 := hid H
  clear H ha hm1 hm2
  go_enter Tryz.func13, Tryz.ntmps13
  go_wp2_with fail
  go_loopw [7] (fun iv wr => ∃ (k E' : Nat) (S' : PSt), k ≤ most ∧ E' ≤ E + k ∧ iv = .int .i64 (k : Int) ∧ St w0 wr (dbP x d N log cnt E' false S' :: ps)) (fun iv _ => most - (intOf iv).toNat)
  case atStart => exact ⟨0, E, S, Nat.zero_le _, Nat.le_refl _, rfl, H0.out⟩
  case round =>
    obtain ⟨k, E', S', hk, hE, rfl, hM⟩ := hrel
    clear H0
    have HH := hid hM
    clear hM
    by_cases hlt : k < acts.length ∧ k < most
    · obtain ⟨hlt, hkm⟩ := hlt
      have hl1 : (k : Int) < (acts.length : Int) := by omega
      have hl2 : (k : Int) < (most : Int) := by omega
      obtain ⟨a, ha⟩ : ∃ a, acts[k]? = some a := ⟨_, List.getElem?_eq_getElem hlt⟩
      have hok : a.Ok w0 := HA.out.2 a (List.mem_of_getElem? ha)
      have has := hok.s
      obtain ⟨g, off, capb, eb, -, -, hcb, hbw⟩ := HA.out.get ha
      simp only [Value.slice.injEq] at eb
      obtain ⟨rfl, -, rfl⟩ := eb
      have hbg := db_begin HH.out
      clear hok ha
      go_upto_region 5 with (go_at_call 15; refine hbg.mono ?_; rintro e w2 ⟨t, rfl, H2⟩)
      have hch := law_change hh ⟨S', fun _ => false, false⟩ a has H2
      have c0 : w2.cell? ⟨g, off + k * 5 + 0, none⟩ = some (.int .i64 a.kind) := (St.pres H2).cell (hcb 0 _ rfl) (by simp)
      have c1 : w2.cell? ⟨g, off + k * 5 + 1, none⟩ = some (.int .i64 a.pid) := (St.pres H2).cell (hcb 1 _ rfl) (by simp)
      have c2 : w2.cell? ⟨g, off + k * 5 + 2, none⟩ = some (.int .i64 a.kd) := (St.pres H2).cell (hcb 2 _ rfl) (by simp)
      have c3 : w2.cell? ⟨g, off + k * 5 + 3, none⟩ = some (.string a.s) := (St.pres H2).cell (hcb 3 _ rfl) (by simp)
      have c4 : w2.cell? ⟨g, off + k * 5 + 4, none⟩ = some a.kv := (St.pres H2).cell (hcb 4 _ rfl) (by simp)
      rw [Nat.add_zero] at c0
      clear hbg HH H2 hcb has
      obtain ⟨Y, hY⟩ : ∃ Y, TS.chg ⟨S', fun _ => false, false⟩ cnt a = Y := ⟨_, rfl⟩
      rw [hY] at hch
      clear hY
      go_upto_region 8 with (go_at_call 16; refine hch.mono ?_; rintro e w3 ⟨rfl, H3⟩)
      have hcm := tp_commit hh H3 (by omega)
      obtain ⟨ce, hce⟩ : ∃ ce, Hid (commitE log false (changes Y.tk Y.mark cnt) = ce) := ⟨_, hid rfl⟩
      rw [hce.out] at hcm
      obtain ⟨S2, hS2⟩ : ∃ S2, (if ce = 0 then Y.T else S') = S2 := ⟨_, rfl⟩
      rw [hS2] at hcm
      have hcc : ce = 0 ∨ ce = 7 := by rw [← hce.out]; exact commitE_no
      clear hch H3 c0 c1 c2 c3 c4 hS2
      rcases hcc with rfl | rfl
      · go_wp2_with (go_at_call 20; refine hcm.mono ?_; rintro e w4 (⟨rfl, H4⟩ | ⟨h9, -⟩); rotate_left; (cases h9))
        go_roundw
        case rel => exact ⟨k + 1, E' + 1, S2, by omega, by omega, by go_num, (H4.pull 1 rfl).drop⟩
        case measure => first | (simp [intOf]; done) | (simp [intOf]; omega)
      · go_wp2_with (go_at_call 20; refine hcm.mono ?_; rintro e w4 (⟨rfl, H4⟩ | ⟨h9, -⟩); rotate_left; (cases h9))
        go_roundw
        case rel => exact ⟨k + 1, E' + 1, S2, by omega, by omega, by go_num, (H4.pull 1 rfl).drop⟩
        case measure => first | (simp [intOf]; done) | (simp [intOf]; omega)
    · have hend : ¬ (k : Int) < (acts.length : Int) ∨ ((k : Int) < (acts.length : Int) ∧ ¬ (k : Int) < (most : Int)) := by omega
      rcases hend with h1 | ⟨h1, h2⟩
      · go_wp2
        go_ret
        exact ⟨rfl, E', by omega, S', HH.out⟩
      · go_wp2
        go_ret
        exact ⟨rfl, E', by omega, S', HH.out⟩
end

end Go.Proofs.YtnffnpndnaofhaaGreatDoor

/- PagedbAborts: what an aborted transaction changed is not there; the heap's condition on the table of half bytes stands in the theorem. -/
namespace Go.Proofs.YtnffnpndnaofhaaGreatDoor
open Go.RowKit
set_option maxRecDepth 100000

theorem stale_no {w0 w : World} {ps : List HP} {x d t N log cnt E : Nat} {arm : Bool} {S : PSt} (H : St w0 w (dbP x d N log cnt E arm S :: staleP t x :: ps)) : NoTx w (.pointer (some ⟨t, 0, none⟩)) := by
  obtain ⟨D, -, H1⟩ := dbP_open H
  obtain ⟨q, H2⟩ := (H1.pull 3 rfl).ex
  have c0 := (H2.obj 0 rfl).cell 0
  have c1 := (H2.obj 1 rfl).cell 10
  simp only [txCells, dbCells, List.getElem?_cons_succ, List.getElem?_cons_zero] at c0 c1
  exact .inr ⟨t, rfl, .inr ⟨x, c0, c1⟩⟩

theorem dbP_small {w0 w : World} {ps : List HP} {x d N log cnt E : Nat} {arm : Bool} {S : PSt} (H : St w0 w (dbP x d N log cnt E arm S :: ps)) : S.pages.length ≤ cnt ∧ S.freed.length ≤ cnt ∧ cnt ≤ 8192 := by
  obtain ⟨D, h, -⟩ := dbP_open H
  have V := h.view.views
  have h1 : S.freed.length ≤ S.pages.length := nodup_len _ _ V.nodup (fun a ha => (V.mem ha).2)
  have h2 := V.most
  have h3 := h.rest.sh.few
  exact ⟨h2, by omega, h3⟩

theorem sh156 : Shape 156 60 12 := ⟨by omega, by omega, by omega, by omega, by omega⟩

set_option maxHeartbeats 8000000 in
theorem pdb_aborts_walk (w : World) (hh : HalfAt w) (va vb : Value) (la lb : List ActD) (ha : ActsAt w va la) (hb : ActsAt w vb lb) :
    Calls Tryz.prog 4 #[va, vb] w fun e w' => e = .returned (.bool true) ∧ Pres [] w w' := by
  obtain ⟨am, capm, em, hm1, hm2, -⟩ := id hb.1
  rw [List.length_map] at em hm1
  subst em
  have hmax : lb.length ≤ 9223372036854775807 := by simp only [maxLen] at hm2; omega
  have HA := hid ha
  have HB := hid hb
  clear ha hb hm1 hm2
  have hnew := sd_new (St.start w) 156 (by omega) (by omega)
  go_enter Tryz.func4, Tryz.ntmps4
  go_upto_region 2 with (go_at_call 9; refine hnew.mono ?_; rintro e w1 ⟨d, rfl, H1⟩)
  have H1 := coldP_new sh156 H1
  have hop := db_open hh H1 (by omega)
  rw [show ((60 : Nat) : Int) = 60 from rfl] at hop
  clear hnew H1
  go_upto_region 3 with (go_at_call 11; refine hop.mono ?_; rintro e w2 (⟨x, rfl, H2⟩ | ⟨h9, -⟩); rotate_left; · cases h9)
  have hbd := law_build hh H2 va la HA.out 10 (by omega)
  rw [show ((10 : Nat) : Int) = 10 from rfl] at hbd
  clear hop H2
  go_wp2_with (first
    | (go_at_call 13; refine hbd.mono ?_; rintro e w3 ⟨rfl, E', S', hE, H3⟩; have hst := law_state hh H3; clear hbd)
    | (go_at_call 14; refine hst.mono ?_; rintro e w4 ⟨pv, fv, rv, rfl, H4⟩; obtain ⟨pa, ca, pe, -, -⟩ := (statP_read H4).pages.shape; obtain ⟨fa, cf, fe, -, -⟩ := (statP_read H4).freed.shape; obtain ⟨ra, cr, re, -, -⟩ := (statP_read H4).roots.shape; subst pe fe re; have H4 := hid (H4.alloc [.slice none 0 0, .slice none 0 0, .slice none 0 0] 37); clear hst)
    | ((with_reducible refine at_store ?_); refine wpL_store rfl 37 (.tmp 9) (.tmp 39) rfl _ 0 3 rfl [_, _, _] rfl _ _ (H4.out.obj 0 rfl) state_size rfl (by simp) (by simp [Value.oneCell']) ?_; intro w5 A5 P5 S5; have H5 := hid (H4.out.put 0 rfl A5 P5); have hbg := db_begin (H5.out.pull 2 rfl))
    | (go_at_call 15; refine hbg.mono ?_; rintro e w6 ⟨t, rfl, H6⟩; clear hbg H3))
  generalize w4.heap.size = wb at *
  have HM : St w w6 (txP x d t 156 60 12 E' false S' S' (fun _ => false) false false :: [objP wb [.slice pa S'.pages.length ca, .slice fa S'.freed.length cf, .slice ra 4 cr] 37, statP (.slice pa S'.pages.length ca) (.slice fa S'.freed.length cf) (.slice ra 4 cr) S']) := H6
  have HM := hid HM
  clear H6 H5 H4 A5 P5 S5 H1
  go_loopw [13] (fun iv wr => ∃ (k : Nat) (X : TS), k ≤ 10 ∧ iv = .int .i64 (k : Int) ∧ St w wr (txP x d t 156 60 12 E' false S' X.T X.tk X.mark false :: [objP wb [.slice pa S'.pages.length ca, .slice fa S'.freed.length cf, .slice ra 4 cr] 37, statP (.slice pa S'.pages.length ca) (.slice fa S'.freed.length cf) (.slice ra 4 cr) S'])) (fun iv _ => 10 - (intOf iv).toNat)
  case atStart => exact ⟨0, ⟨S', fun _ => false, false⟩, Nat.zero_le _, rfl, HM.out⟩
  case round =>
    obtain ⟨k, X, hk, rfl, hM⟩ := hrel
    clear HM
    have HH := hid hM
    clear hM
    by_cases hlt : k < lb.length ∧ k < 10
    · obtain ⟨hlt, hkm⟩ := hlt
      have hl1 : (k : Int) < (lb.length : Int) := by omega
      have hl2 : (k : Int) < 10 := by omega
      obtain ⟨a, ha⟩ : ∃ a, lb[k]? = some a := ⟨_, List.getElem?_eq_getElem hlt⟩
      have has := (HB.out.2 a (List.mem_of_getElem? ha)).s
      obtain ⟨g, off, capb, eb, -, -, hcb, hbw⟩ := HB.out.get ha
      simp only [Value.slice.injEq] at eb
      obtain ⟨rfl, -, rfl⟩ := eb
      have hch := law_change hh X a has HH.out
      have c0 : wr.cell? ⟨g, off + k * 5 + 0, none⟩ = some (.int .i64 a.kind) := (St.pres HH.out).cell (hcb 0 _ rfl) (by simp)
      have c1 : wr.cell? ⟨g, off + k * 5 + 1, none⟩ = some (.int .i64 a.pid) := (St.pres HH.out).cell (hcb 1 _ rfl) (by simp)
      have c2 : wr.cell? ⟨g, off + k * 5 + 2, none⟩ = some (.int .i64 a.kd) := (St.pres HH.out).cell (hcb 2 _ rfl) (by simp)
      have c3 : wr.cell? ⟨g, off + k * 5 + 3, none⟩ = some (.string a.s) := (St.pres HH.out).cell (hcb 3 _ rfl) (by simp)
      have c4 : wr.cell? ⟨g, off + k * 5 + 4, none⟩ = some a.kv := (St.pres HH.out).cell (hcb 4 _ rfl) (by simp)
      rw [Nat.add_zero] at c0
      clear hcb has ha
      go_wp2_with (go_at_call 16; refine hch.mono ?_; rintro e w3 ⟨rfl, H3⟩)
      go_roundw
      case rel => exact ⟨k + 1, X.chg 12 a, by omega, by go_num, H3⟩
      case measure => first | (simp [intOf]; done) | (simp [intOf]; omega)
    · have hend : ¬ (k : Int) < (lb.length : Int) ∨ ((k : Int) < (lb.length : Int) ∧ ¬ (k : Int) < 10) := by omega
      have hab := tp_abort HH.out
      rcases hend with h1 | ⟨h1, h2⟩
      · go_wp2_with (first
          | (go_at_call 17; refine hab.mono ?_; rintro e w7 ⟨rfl, H7⟩; have hst := law_state hh H7)
          | (go_at_call 14; refine hst.mono ?_; rintro e w8 ⟨pw, fw, rw', rfl, H8⟩; obtain ⟨pb, cb, pe, -, -⟩ := (statP_read H8).pages.shape; obtain ⟨fb, cg, fe, -, -⟩ := (statP_read H8).freed.shape; obtain ⟨rb, cs, re, -, -⟩ := (statP_read H8).roots.shape; subst pe fe re; have hsm := hid (dbP_small (H8.pull 1 rfl)); have H8 := hid (H8.alloc [.slice none 0 0, .slice none 0 0, .slice none 0 0] 37); clear hst H7)
          | ((with_reducible refine at_store ?_); refine wpL_store rfl 37 (.tmp 14) (.tmp 73) rfl _ 0 3 rfl [_, _, _] rfl _ _ (H8.out.obj 0 rfl) state_size rfl (by simp) (by simp [Value.oneCell']) ?_; intro w9 A9 P9 S9; have H9 := hid (H8.out.put 0 rfl A9 P9); have hno := stale_no ((H9.out.pull 3 rfl).pull 3 rfl); have hrd := no_read hno 1)
          | (go_at_call 18; refine hrd.mono ?_; rintro e wa ⟨rfl, PA⟩; have hno := hid (hno.pres PA); have HX := hid (St.quiet H9.out PA); have hsame := same_call wa _ _ _ _ _ _ S' S' (statP_read (HX.out.pull 5 rfl)) (statP_read (HX.out.pull 1 rfl)) (by have := hsm.out; omega) (by have := hsm.out; omega)
             have c0 : wa.cell? _ = _ := (HX.out.obj 0 rfl).cell 0; have c1 : wa.cell? _ = _ := (HX.out.obj 0 rfl).cell 1; have c2 : wa.cell? _ = _ := (HX.out.obj 0 rfl).cell 2; have d0 : wa.cell? _ = _ := (HX.out.obj 4 rfl).cell 0; have d1 : wa.cell? _ = _ := (HX.out.obj 4 rfl).cell 1; have d2 : wa.cell? _ = _ := (HX.out.obj 4 rfl).cell 2
             simp only [splice, List.length_cons, List.length_nil, List.take_zero, List.nil_append, List.drop_succ_cons, List.drop_zero, List.append_nil, List.getElem?_cons_succ, List.getElem?_cons_zero, List.cons_append, Nat.zero_add, Nat.reduceAdd, List.drop_nil] at c0 c1 c2 d0 d1 d2; clear hrd)
          | (go_at_call 19; refine hsame.mono ?_; rintro e wb' ⟨bb, rfl, hbb, PB⟩; obtain rfl : bb = true := (by simpa using hbb); have hcm := no_commit (hno.out.pres PB); have HY := hid (St.quiet HX.out PB); have hwk := pdb_works wb' (hh.pres HY.out.pres); clear hsame c0 c1 c2 d0 d1 d2)
          | (go_at_call 20; refine hcm.mono ?_; rintro e wc ⟨rfl, rfl⟩)
          | (go_at_call 12; refine hwk.mono ?_; rintro e wd ⟨rfl, PD⟩))
        go_ret
        exact ⟨rfl, HY.out.pres.then PD⟩
      · go_wp2_with (first
          | (go_at_call 17; refine hab.mono ?_; rintro e w7 ⟨rfl, H7⟩; have hst := law_state hh H7)
          | (go_at_call 14; refine hst.mono ?_; rintro e w8 ⟨pw, fw, rw', rfl, H8⟩; obtain ⟨pb, cb, pe, -, -⟩ := (statP_read H8).pages.shape; obtain ⟨fb, cg, fe, -, -⟩ := (statP_read H8).freed.shape; obtain ⟨rb, cs, re, -, -⟩ := (statP_read H8).roots.shape; subst pe fe re; have hsm := hid (dbP_small (H8.pull 1 rfl)); have H8 := hid (H8.alloc [.slice none 0 0, .slice none 0 0, .slice none 0 0] 37); clear hst H7)
          | ((with_reducible refine at_store ?_); refine wpL_store rfl 37 (.tmp 14) (.tmp 73) rfl _ 0 3 rfl [_, _, _] rfl _ _ (H8.out.obj 0 rfl) state_size rfl (by simp) (by simp [Value.oneCell']) ?_; intro w9 A9 P9 S9; have H9 := hid (H8.out.put 0 rfl A9 P9); have hno := stale_no ((H9.out.pull 3 rfl).pull 3 rfl); have hrd := no_read hno 1)
          | (go_at_call 18; refine hrd.mono ?_; rintro e wa ⟨rfl, PA⟩; have hno := hid (hno.pres PA); have HX := hid (St.quiet H9.out PA); have hsame := same_call wa _ _ _ _ _ _ S' S' (statP_read (HX.out.pull 5 rfl)) (statP_read (HX.out.pull 1 rfl)) (by have := hsm.out; omega) (by have := hsm.out; omega)
             have c0 : wa.cell? _ = _ := (HX.out.obj 0 rfl).cell 0; have c1 : wa.cell? _ = _ := (HX.out.obj 0 rfl).cell 1; have c2 : wa.cell? _ = _ := (HX.out.obj 0 rfl).cell 2; have d0 : wa.cell? _ = _ := (HX.out.obj 4 rfl).cell 0; have d1 : wa.cell? _ = _ := (HX.out.obj 4 rfl).cell 1; have d2 : wa.cell? _ = _ := (HX.out.obj 4 rfl).cell 2
             simp only [splice, List.length_cons, List.length_nil, List.take_zero, List.nil_append, List.drop_succ_cons, List.drop_zero, List.append_nil, List.getElem?_cons_succ, List.getElem?_cons_zero, List.cons_append, Nat.zero_add, Nat.reduceAdd, List.drop_nil] at c0 c1 c2 d0 d1 d2; clear hrd)
          | (go_at_call 19; refine hsame.mono ?_; rintro e wb' ⟨bb, rfl, hbb, PB⟩; obtain rfl : bb = true := (by simpa using hbb); have hcm := no_commit (hno.out.pres PB); have HY := hid (St.quiet HX.out PB); have hwk := pdb_works wb' (hh.pres HY.out.pres); clear hsame c0 c1 c2 d0 d1 d2)
          | (go_at_call 20; refine hcm.mono ?_; rintro e wc ⟨rfl, rfl⟩)
          | (go_at_call 12; refine hwk.mono ?_; rintro e wd ⟨rfl, PD⟩))
        go_ret
        exact ⟨rfl, HY.out.pres.then PD⟩

end Go.Proofs.YtnffnpndnaofhaaGreatDoor
