/- Parts of the proof: PagedbAborts: what an aborted transaction changed is not there; the heap's condition on the table of half bytes stands in the theorem. -/
import Derived.Test.YtnffnpndnaofhaaGreatDoorQba
import Derived.Test.YtnffnpndnaofhaaGreatDoorQbf

/- PagedbAborts: what an aborted transaction changed is not there; the heap's condition on the table of half bytes stands in the theorem. -/
namespace Go.Proofs.YtnffnpndnaofhaaGreatDoor
open Go.RowKit
set_option maxRecDepth 100000

theorem stale_no {w0 w : World} {ps : List HP} {x d t N log cnt E : Nat} {arm : Bool} {S : PSt} (H : St w0 w (dbP x d N log cnt E arm S :: staleP t x :: ps)) : NoTx w (.pointer (some ⟨t, 0, none⟩)) := by
  obtain ⟨D, -, H1⟩ := dbP_open H
  obtain ⟨q, H2⟩ := (H1.pull 3 rfl).ex
  have c0 := (H2.obj 0 rfl).cell 0
  have c1 := (H2.obj 1 rfl).cell 10
  simp only [txCells, dbCells, List.getElem?_cons_succ, List.getElem?_cons_zero] at c0 c1
  exact .inr ⟨t, rfl, .inr ⟨x, c0, c1⟩⟩

theorem dbP_small {w0 w : World} {ps : List HP} {x d N log cnt E : Nat} {arm : Bool} {S : PSt} (H : St w0 w (dbP x d N log cnt E arm S :: ps)) : S.pages.length ≤ cnt ∧ S.freed.length ≤ cnt ∧ cnt ≤ 8192 := by
  obtain ⟨D, h, -⟩ := dbP_open H
  have V := h.view.views
  have h1 : S.freed.length ≤ S.pages.length := nodup_len _ _ V.nodup (fun a ha => (V.mem ha).2)
  have h2 := V.most
  have h3 := h.rest.sh.few
  exact ⟨h2, by omega, h3⟩

theorem sh156 : Shape 156 60 12 := ⟨by omega, by omega, by omega, by omega, by omega⟩

set_option maxHeartbeats 8000000 in
theorem pdb_aborts_walk (w : World) (hh : HalfAt w) (va vb : Value) (la lb : List ActD) (ha : ActsAt w va la) (hb : ActsAt w vb lb) :
    Calls Tryz.prog 4 #[va, vb] w fun e w' => e = .returned (.bool true) ∧ Pres [] w w' := by
  obtain ⟨am, capm, em, hm1, hm2, -⟩ := id hb.1
  rw [List.length_map] at em hm1
  subst em
  have hmax : lb.length ≤ 9223372036854775807 := by simp only [maxLen] at hm2; omega
  have HA := hid ha
  have HB := hid hb
  clear ha hb hm1 hm2
  have hnew := sd_new (St.start w) 156 (by omega) (by omega)
  go_enter Tryz.func4, Tryz.ntmps4
  go_upto_region 2 with (go_at_call 9; refine hnew.mono ?_; rintro e w1 ⟨d, rfl, H1⟩)
  have H1 := coldP_new sh156 H1
  have hop := db_open hh H1 (by omega)
  rw [show ((60 : Nat) : Int) = 60 from rfl] at hop
  clear hnew H1
  go_upto_region 3 with (go_at_call 11; refine hop.mono ?_; rintro e w2 (⟨x, rfl, H2⟩ | ⟨h9, -⟩); rotate_left; · cases h9)
  have hbd := law_build hh H2 va la HA.out 10 (by omega)
  rw [show ((10 : Nat) : Int) = 10 from rfl] at hbd
  clear hop H2
  go_wp2_with (first
    | (go_at_call 13; refine hbd.mono ?_; rintro e w3 ⟨rfl, E', S', hE, H3⟩; have hst := law_state hh H3; clear hbd)
    | (go_at_call 14; refine hst.mono ?_; rintro e w4 ⟨pv, fv, rv, rfl, H4⟩; obtain ⟨pa, ca, pe, -, -⟩ := (statP_read H4).pages.shape; obtain ⟨fa, cf, fe, -, -⟩ := (statP_read H4).freed.shape; obtain ⟨ra, cr, re, -, -⟩ := (statP_read H4).roots.shape; subst pe fe re; have H4 := hid (H4.alloc [.slice none 0 0, .slice none 0 0, .slice none 0 0] 37); clear hst)
    | ((with_reducible refine at_store ?_); refine wpL_store rfl 37 (.tmp 9) (.tmp 39) rfl _ 0 3 rfl [_, _, _] rfl _ _ (H4.out.obj 0 rfl) state_size rfl (by simp) (by simp [Value.oneCell']) ?_; intro w5 A5 P5 S5; have H5 := hid (H4.out.put 0 rfl A5 P5); have hbg := db_begin (H5.out.pull 2 rfl))
    | (go_at_call 15; refine hbg.mono ?_; rintro e w6 ⟨t, rfl, H6⟩; clear hbg H3))
  generalize w4.heap.size = wb at *
  have HM : St w w6 (txP x d t 156 60 12 E' false S' S' (fun _ => false) false false :: [objP wb [.slice pa S'.pages.length ca, .slice fa S'.freed.length cf, .slice ra 4 cr] 37, statP (.slice pa S'.pages.length ca) (.slice fa S'.freed.length cf) (.slice ra 4 cr) S']) := H6
  have HM := hid HM
  clear H6 H5 H4 A5 P5 S5 H1
  go_loopw [13] (fun iv wr => ∃ (k : Nat) (X : TS), k ≤ 10 ∧ iv = .int .i64 (k : Int) ∧ St w wr (txP x d t 156 60 12 E' false S' X.T X.tk X.mark false :: [objP wb [.slice pa S'.pages.length ca, .slice fa S'.freed.length cf, .slice ra 4 cr] 37, statP (.slice pa S'.pages.length ca) (.slice fa S'.freed.length cf) (.slice ra 4 cr) S'])) (fun iv _ => 10 - (intOf iv).toNat)
  case atStart => exact ⟨0, ⟨S', fun _ => false, false⟩, Nat.zero_le _, rfl, HM.out⟩
  case round =>
    obtain ⟨k, X, hk, rfl, hM⟩ := hrel
    clear HM
    have HH := hid hM
    clear hM
    by_cases hlt : k < lb.length ∧ k < 10
    · obtain ⟨hlt, hkm⟩ := hlt
      have hl1 : (k : Int) < (lb.length : Int) := by omega
      have hl2 : (k : Int) < 10 := by omega
      obtain ⟨a, ha⟩ : ∃ a, lb[k]? = some a := ⟨_, List.getElem?_eq_getElem hlt⟩
      have has := (HB.out.2 a (List.mem_of_getElem? ha)).s
      obtain ⟨g, off, capb, eb, -, -, hcb, hbw⟩ := HB.out.get ha
      simp only [Value.slice.injEq] at eb
      obtain ⟨rfl, -, rfl⟩ := eb
      have hch := law_change hh X a has HH.out
      have c0 : wr.cell? ⟨g, off + k * 5 + 0, none⟩ = some (.int .i64 a.kind) := (St.pres HH.out).cell (hcb 0 _ rfl) (by simp)
      have c1 : wr.cell? ⟨g, off + k * 5 + 1, none⟩ = some (.int .i64 a.pid) := (St.pres HH.out).cell (hcb 1 _ rfl) (by simp)
      have c2 : wr.cell? ⟨g, off + k * 5 + 2, none⟩ = some (.int .i64 a.kd) := (St.pres HH.out).cell (hcb 2 _ rfl) (by simp)
      have c3 : wr.cell? ⟨g, off + k * 5 + 3, none⟩ = some (.string a.s) := (St.pres HH.out).cell (hcb 3 _ rfl) (by simp)
      have c4 : wr.cell? ⟨g, off + k * 5 + 4, none⟩ = some a.kv := (St.pres HH.out).cell (hcb 4 _ rfl) (by simp)
      rw [Nat.add_zero] at c0
      clear hcb has ha
      go_wp2_with (go_at_call 16; refine hch.mono ?_; rintro e w3 ⟨rfl, H3⟩)
      go_roundw
      case rel => exact ⟨k + 1, X.chg 12 a, by omega, by go_num, H3⟩
      case measure => first | (simp [intOf]; done) | (simp [intOf]; omega)
    · have hend : ¬ (k : Int) < (lb.length : Int) ∨ ((k : Int) < (lb.length : Int) ∧ ¬ (k : Int) < 10) := by omega
      have hab := tp_abort HH.out
      rcases hend with h1 | ⟨h1, h2⟩
      · go_wp2_with (first
          | (go_at_call 17; refine hab.mono ?_; rintro e w7 ⟨rfl, H7⟩; have hst := law_state hh H7)
          | (go_at_call 14; refine hst.mono ?_; rintro e w8 ⟨pw, fw, rw', rfl, H8⟩; obtain ⟨pb, cb, pe, -, -⟩ := (statP_read H8).pages.shape; obtain ⟨fb, cg, fe, -, -⟩ := (statP_read H8).freed.shape; obtain ⟨rb, cs, re, -, -⟩ := (statP_read H8).roots.shape; subst pe fe re; have hsm := hid (dbP_small (H8.pull 1 rfl)); have H8 := hid (H8.alloc [.slice none 0 0, .slice none 0 0, .slice none 0 0] 37); clear hst H7)
          | ((with_reducible refine at_store ?_); refine wpL_store rfl 37 (.tmp 14) (.tmp 73) rfl _ 0 3 rfl [_, _, _] rfl _ _ (H8.out.obj 0 rfl) state_size rfl (by simp) (by simp [Value.oneCell']) ?_; intro w9 A9 P9 S9; have H9 := hid (H8.out.put 0 rfl A9 P9); have hno := stale_no ((H9.out.pull 3 rfl).pull 3 rfl); have hrd := no_read hno 1)
          | (go_at_call 18; refine hrd.mono ?_; rintro e wa ⟨rfl, PA⟩; have hno := hid (hno.pres PA); have HX := hid (St.quiet H9.out PA); have hsame := same_call wa _ _ _ _ _ _ S' S' (statP_read (HX.out.pull 5 rfl)) (statP_read (HX.out.pull 1 rfl)) (by have := hsm.out; omega) (by have := hsm.out; omega)
             have c0 : wa.cell? _ = _ := (HX.out.obj 0 rfl).cell 0; have c1 : wa.cell? _ = _ := (HX.out.obj 0 rfl).cell 1; have c2 : wa.cell? _ = _ := (HX.out.obj 0 rfl).cell 2; have d0 : wa.cell? _ = _ := (HX.out.obj 4 rfl).cell 0; have d1 : wa.cell? _ = _ := (HX.out.obj 4 rfl).cell 1; have d2 : wa.cell? _ = _ := (HX.out.obj 4 rfl).cell 2
             simp only [splice, List.length_cons, List.length_nil, List.take_zero, List.nil_append, List.drop_succ_cons, List.drop_zero, List.append_nil, List.getElem?_cons_succ, List.getElem?_cons_zero, List.cons_append, Nat.zero_add, Nat.reduceAdd, List.drop_nil] at c0 c1 c2 d0 d1 d2; clear hrd)
          | (go_at_call 19; refine hsame.mono ?_; rintro e wb' ⟨bb, rfl, hbb, PB⟩; obtain rfl : bb = true := (by simpa using hbb); have hcm := no_commit (hno.out.pres PB); have HY := hid (St.quiet HX.out PB); have hwk := pdb_works wb' (hh.pres HY.out.pres); clear hsame c0 c1 c2 d0 d1 d2)
          | (go_at_call 20; refine hcm.mono ?_; rintro e wc ⟨rfl, rfl⟩)
          | (go_at_call 12; refine hwk.mono ?_; rintro e wd ⟨rfl, PD⟩))
        go_ret
        exact ⟨rfl, HY.out.pres.then PD⟩
      · go_wp2_with (first
          | (go_at_call 17; refine hab.mono ?_; rintro e w7 ⟨rfl, H7⟩; have hst := law_state hh H7)
          | (go_at_call 14; refine hst.mono ?_; rintro e w8 ⟨pw, fw, rw', rfl, H8⟩; obtain ⟨pb, cb, pe, -, -⟩ := (statP_read H8).pages.shape; obtain ⟨fb, cg, fe, -, -⟩ := (statP_read H8).freed.shape; obtain ⟨rb, cs, re, -, -⟩ := (statP_read H8).roots.shape; subst pe fe re; have hsm := hid (dbP_small (H8.pull 1 rfl)); have H8 := hid (H8.alloc [.slice none 0 0, .slice none 0 0, .slice none 0 0] 37); clear hst H7)
          | ((with_reducible refine at_store ?_); refine wpL_store rfl 37 (.tmp 14) (.tmp 73) rfl _ 0 3 rfl [_, _, _] rfl _ _ (H8.out.obj 0 rfl) state_size rfl (by simp) (by simp [Value.oneCell']) ?_; intro w9 A9 P9 S9; have H9 := hid (H8.out.put 0 rfl A9 P9); have hno := stale_no ((H9.out.pull 3 rfl).pull 3 rfl); have hrd := no_read hno 1)
          | (go_at_call 18; refine hrd.mono ?_; rintro e wa ⟨rfl, PA⟩; have hno := hid (hno.pres PA); have HX := hid (St.quiet H9.out PA); have hsame := same_call wa _ _ _ _ _ _ S' S' (statP_read (HX.out.pull 5 rfl)) (statP_read (HX.out.pull 1 rfl)) (by have := hsm.out; omega) (by have := hsm.out; omega)
             have c0 : wa.cell? _ = _ := (HX.out.obj 0 rfl).cell 0; have c1 : wa.cell? _ = _ := (HX.out.obj 0 rfl).cell 1; have c2 : wa.cell? _ = _ := (HX.out.obj 0 rfl).cell 2; have d0 : wa.cell? _ = _ := (HX.out.obj 4 rfl).cell 0; have d1 : wa.cell? _ = _ := (HX.out.obj 4 rfl).cell 1; have d2 : wa.cell? _ = _ := (HX.out.obj 4 rfl).cell 2
             simp only [splice, List.length_cons, List.length_nil, List.take_zero, List.nil_append, List.drop_succ_cons, List.drop_zero, List.append_nil, List.getElem?_cons_succ, List.getElem?_cons_zero, List.cons_append, Nat.zero_add, Nat.reduceAdd, List.drop_nil] at c0 c1 c2 d0 d1 d2; clear hrd)
          | (go_at_call 19; refine hsame.mono ?_; rintro e wb' ⟨bb, rfl, hbb, PB⟩; obtain rfl : bb = true := (by simpa using hbb); have hcm := no_commit (hno.out.pres PB); have HY := hid (St.quiet HX.out PB); have hwk := pdb_works wb' (hh.pres HY.out.pres); clear hsame c0 c1 c2 d0 d1 d2)
          | (go_at_call 20; refine hcm.mono ?_; rintro e wc ⟨rfl, rfl⟩)
          | (go_at_call 12; refine hwk.mono ?_; rintro e wd ⟨rfl, PD⟩))
        go_ret
        exact ⟨rfl, HY.out.pres.then PD⟩

end Go.Proofs.YtnffnpndnaofhaaGreatDoor

/- A database with a transaction: the calls that are refused, the power going, a transaction that is over; conditions stand in the theorems. -/
namespace Go.Proofs.YtnffnpndnaofhaaGreatDoor
open Go.RowKit
set_option maxRecDepth 100000

theorem tx_setroot_bad {w0 w : World} {ps : List HP} {t x d b log : Nat} {m n : Meta} {mv : Value} {marked spoilt : Bool} {σ : Dk} (H : St w0 w (objP t (txCells x n mv marked spoilt) 67 :: objP x (dbCells d b log m (.pointer (some ⟨t, 0, none⟩)) false) 62 :: diskP d σ :: ps)) (hd : σ.down = false) (i v : Int) (hbad : i < 0 ∨ 3 < i ∨ v < 0 ∨ 2147483647 < v) :
    Calls Tryz.prog 30 #[.pointer (some ⟨t, 0, none⟩), .int .i64 i, .int .i64 v] w fun e w' => e = .returned (.int .i64 2) ∧ w = w' := by
  have hu := fun W (hW : W = w) => hW ▸ tx_up H hd
  clear H hd
  by_cases h1 : i < 0
  · clear hbad
    go_enter Tryz.func30, Tryz.ntmps30
    go_wp2_with (go_at_call 53; refine (hu _ rfl).mono ?_; rintro e w' ⟨rfl, rfl⟩)
    go_ret
    exact ⟨rfl, rfl⟩
  · have k1 : decide (i < 0) = false := by simpa using h1
    by_cases h2 : 4 ≤ i
    · clear hbad h1
      go_enter Tryz.func30, Tryz.ntmps30
      go_wp2_with (go_at_call 53; refine (hu _ rfl).mono ?_; rintro e w' ⟨rfl, rfl⟩)
      go_ret
      exact ⟨rfl, rfl⟩
    · have k2 : decide (4 ≤ i) = false := by simpa using h2
      by_cases h3 : v < 0
      · clear hbad h1 h2
        go_enter Tryz.func30, Tryz.ntmps30
        go_wp2_with (go_at_call 53; refine (hu _ rfl).mono ?_; rintro e w' ⟨rfl, rfl⟩)
        go_ret
        exact ⟨rfl, rfl⟩
      · have k3 : decide (v < 0) = false := by simpa using h3
        have h4 : 2147483648 ≤ v := by omega
        clear hbad h1 h2 h3
        go_enter Tryz.func30, Tryz.ntmps30
        go_wp2_with (go_at_call 53; refine (hu _ rfl).mono ?_; rintro e w' ⟨rfl, rfl⟩)
        go_ret
        exact ⟨rfl, rfl⟩

theorem tx_root_bad {w0 w : World} {ps : List HP} {t x d b log : Nat} {m n : Meta} {mv : Value} {marked spoilt : Bool} {σ : Dk} (H : St w0 w (objP t (txCells x n mv marked spoilt) 67 :: objP x (dbCells d b log m (.pointer (some ⟨t, 0, none⟩)) false) 62 :: diskP d σ :: ps)) (hd : σ.down = false) (i : Int) (hbad : i < 0 ∨ 4 ≤ i) :
    Calls Tryz.prog 29 #[.pointer (some ⟨t, 0, none⟩), .int .i64 i] w fun e w' => e = .returned (.int .i64 0) ∧ w = w' := by
  have hu := fun W (hW : W = w) => hW ▸ tx_up H hd
  clear H hd
  by_cases h1 : i < 0
  · clear hbad
    go_enter Tryz.func29, Tryz.ntmps29
    go_wp2_with (go_at_call 53; refine (hu _ rfl).mono ?_; rintro e w' ⟨rfl, rfl⟩)
    go_ret
    exact ⟨rfl, rfl⟩
  · have k1 : decide (i < 0) = false := by simpa using h1
    have h2 : 4 ≤ i := by omega
    clear hbad h1
    go_enter Tryz.func29, Tryz.ntmps29
    go_wp2_with (go_at_call 53; refine (hu _ rfl).mono ?_; rintro e w' ⟨rfl, rfl⟩)
    go_ret
    exact ⟨rfl, rfl⟩

theorem pd_begin_busy {w0 w : World} {ps : List HP} {t x d b log : Nat} {m : Meta} {σ : Dk} (H : St w0 w (objP x (dbCells d b log m (.pointer (some ⟨t, 0, none⟩)) false) 62 :: diskP d σ :: ps)) (hd : σ.down = false) :
    Calls Tryz.prog 15 #[.pointer (some ⟨x, 0, none⟩)] w fun e w' => e = .returned (.tuple #[.pointer none, .int .i64 9]) ∧ w = w' := by
  have hu := fun W (hW : W = w) => hW ▸ pd_up H
  rw [hd] at hu
  have c10 := (H.obj 0 rfl).cell 10
  simp only [dbCells, List.getElem?_cons_succ, List.getElem?_cons_zero] at c10
  clear H hd
  go_enter Tryz.func15, Tryz.ntmps15
  go_wp2_with (go_at_call 50; refine (hu _ rfl).mono ?_; rintro e w' ⟨rfl, rfl⟩)
  go_ret2
  exact ⟨rfl, rfl⟩

theorem pd_checkpoint_busy {w0 w : World} {ps : List HP} {t x d b log : Nat} {m : Meta} {σ : Dk} (H : St w0 w (objP x (dbCells d b log m (.pointer (some ⟨t, 0, none⟩)) false) 62 :: diskP d σ :: ps)) (hd : σ.down = false) :
    Calls Tryz.prog 23 #[.pointer (some ⟨x, 0, none⟩)] w fun e w' => e = .returned (.int .i64 9) ∧ w = w' := by
  have hu := fun W (hW : W = w) => hW ▸ pd_up H
  rw [hd] at hu
  have c10 := (H.obj 0 rfl).cell 10
  simp only [dbCells, List.getElem?_cons_succ, List.getElem?_cons_zero] at c10
  clear H hd
  go_enter Tryz.func23, Tryz.ntmps23
  go_wp2_with (go_at_call 50; refine (hu _ rfl).mono ?_; rintro e w' ⟨rfl, rfl⟩)
  go_ret
  exact ⟨rfl, rfl⟩

section
variable {w0 w : World} {ps : List HP} {x d t N log cnt E : Nat} {arm spoilt mk : Bool} {S T : PSt} {tk : Nat → Bool}

theorem tp_setroot_bad (H : St w0 w (txP x d t N log cnt E arm S T tk mk spoilt :: ps)) (i v : Int) (hbad : i < 0 ∨ 3 < i ∨ v < 0 ∨ 2147483647 < v) :
    Calls Tryz.prog 30 #[.pointer (some ⟨t, 0, none⟩), .int .i64 i, .int .i64 v] w fun e w' => e = .returned (.int .i64 2) ∧ w = w' := by
  obtain ⟨X, h1, h2, HX⟩ := txP_open H
  exact tx_setroot_bad HX h1.rest.up.down i v hbad

theorem tp_root_bad (H : St w0 w (txP x d t N log cnt E arm S T tk mk spoilt :: ps)) (i : Int) (hbad : i < 0 ∨ 4 ≤ i) :
    Calls Tryz.prog 29 #[.pointer (some ⟨t, 0, none⟩), .int .i64 i] w fun e w' => e = .returned (.int .i64 0) ∧ w = w' := by
  obtain ⟨X, h1, h2, HX⟩ := txP_open H
  exact tx_root_bad HX h1.rest.up.down i hbad

theorem tp_begin_busy (H : St w0 w (txP x d t N log cnt E arm S T tk mk spoilt :: ps)) :
    Calls Tryz.prog 15 #[.pointer (some ⟨x, 0, none⟩)] w fun e w' => e = .returned (.tuple #[.pointer none, .int .i64 9]) ∧ w = w' := by
  obtain ⟨X, h1, h2, HX⟩ := txP_open H
  exact pd_begin_busy ((HX.pull 2 rfl).pull 2 rfl) h1.rest.up.down

theorem tp_checkpoint_busy (H : St w0 w (txP x d t N log cnt E arm S T tk mk spoilt :: ps)) :
    Calls Tryz.prog 23 #[.pointer (some ⟨x, 0, none⟩)] w fun e w' => e = .returned (.int .i64 9) ∧ w = w' := by
  obtain ⟨X, h1, h2, HX⟩ := txP_open H
  exact pd_checkpoint_busy ((HX.pull 2 rfl).pull 2 rfl) h1.rest.up.down

theorem tp_off (H : St w0 w (txP x d t N log cnt E arm S T tk mk spoilt :: ps)) : Calls Tryz.prog 10 #[.pointer (some ⟨d, 0, none⟩)] w fun e w' => e = .returned (.int .i64 0) ∧ St w0 w' (darkP d N log cnt E (fun s => s = S) :: ps) := by
  obtain ⟨X, h, h2, HX⟩ := txP_open H
  have ho := sd_off (HX.pull 2 rfl)
  obtain ⟨e1, e2, e3⟩ := h.rest.up.off h.rest.crash
  rw [e1] at ho
  refine ho.mono ?_
  rintro en w' ⟨rfl, H2⟩
  have H3 := (((H2.pull 1 rfl).drop.pull 1 rfl).drop.pull 1 rfl).drop.pull 1 rfl |>.drop
  exact ⟨rfl, St.any (F := fun σ : Dk => ifP (Dn σ N ∧ Crash σ (fun img => ∃ P m v S', S' = S ∧ RecI log cnt E P img ∧ PgView cnt P m v S')) (diskP d σ)) _ (H3.with ⟨e2, e3.mono (fun img hi => ⟨X.D.P, X.D.m, X.D.v, S, rfl, hi, h.view⟩)⟩)⟩

theorem tp_facts (H : St w0 w (txP x d t N log cnt E arm S T tk mk spoilt :: ps)) : (∀ k, tk k = true → k < cnt) ∧ 1 ≤ T.pages.length ∧ T.pages.length ≤ cnt ∧ T.freed.length ≤ cnt ∧ (∀ a ∈ T.freed, a < T.pages.length) ∧ cnt ≤ 8192 ∧ log ≤ 65536 ∧ 1 ≤ log := by
  obtain ⟨X, h1, h2, -⟩ := txP_open H
  have V := h2.views
  have hm := V.most
  have hfl : T.freed.length ≤ T.pages.length := nodup_len _ _ V.nodup (fun a ha => (V.mem ha).2)
  have s1 := h1.rest.sh.two
  have s2 := h1.rest.sh.fits
  have s3 := h1.rest.sh.most
  refine ⟨fun k hk => ?_, V.pos, hm, by omega, fun a ha => (V.mem ha).2, h1.rest.sh.few, by omega, by omega⟩
  rw [h2.touch k] at hk
  have := h2.ids k (by intro e; rw [e] at hk; cases hk)
  rw [V.high] at this
  omega

theorem stale_spoil (H : St w0 w (staleP t x :: ps)) : Calls Tryz.prog 27 #[.pointer (some ⟨t, 0, none⟩)] w fun e w' => e = .returned (.tuple #[]) ∧ St w0 w' (staleP t x :: ps) := by
  obtain ⟨⟨n, mv, b1, b2⟩, H1⟩ := H.ex
  have f10 := (H1.obj 0 rfl).frozen 10
  have c10 := (H1.obj 0 rfl).cell 10
  have hlt := (H1.obj 0 rfl).lt
  simp only [txCells, List.getElem?_cons_succ, List.getElem?_cons_zero] at c10
  have H2 := hid (H1.set 0 rfl 10 (.bool true))
  clear H H1
  go_enter Tryz.func27, Tryz.ntmps27
  go_wp2
  go_end0
  exact ⟨rfl, St.any (F := fun q : Meta × Value × Bool × Bool => objP t (txCells x q.1 q.2.1 q.2.2.1 q.2.2.2) 67) (n, mv, b1, true) H2.out⟩
end

end Go.Proofs.YtnffnpndnaofhaaGreatDoor

/- aquiferlaw10: a database on both sides: begin, and again (the power goes, and the database is opened anew); conditions stand in the theorems. -/
namespace Go.Proofs.YtnffnpndnaofhaaGreatDoor
open Go.RowKit
set_option maxRecDepth 100000

/-- No transaction, or one that is over. -/
def Over (tv : Value) (x : Nat) (q : HP) : Prop := (tv = .pointer none ∧ q = noneP) ∨ ∃ t, tv = (.pointer (some ⟨t, 0, none⟩)) ∧ q = staleP t x

/-- Both sides, without a transaction. -/
def TwoC (w0 w : World) (ps : List HP) (tb N log cnt E : Nat) (S : PSt) : Prop :=
  ∃ (d x r : Nat) (tv : Value) (q : HP), Over tv x q ∧ St w0 w (objP tb [(.pointer (some ⟨d, 0, none⟩)), (.pointer (some ⟨x, 0, none⟩)), tv, (.pointer (some ⟨r, 0, none⟩))] 81 :: dbP x d N log cnt E false S :: q :: rfP r cnt log S :: ps)

/-- Both sides, with one. -/
def TwoO (w0 w : World) (ps : List HP) (tb N log cnt E : Nat) (S T : PSt) (tk : Nat → Bool) (mk sp : Bool) : Prop :=
  ∃ (d x r t : Nat), St w0 w (objP tb [(.pointer (some ⟨d, 0, none⟩)), (.pointer (some ⟨x, 0, none⟩)), (.pointer (some ⟨t, 0, none⟩)), (.pointer (some ⟨r, 0, none⟩))] 81 :: txP x d t N log cnt E false S T tk mk sp :: rfoP r cnt log S T tk mk sp :: ps)

theorem over_no {w0 w : World} {ps : List HP} {x d N log cnt E : Nat} {arm : Bool} {S : PSt} {tv : Value} {q : HP} (h : Over tv x q) (H : St w0 w (dbP x d N log cnt E arm S :: q :: ps)) : NoTx w tv := by
  rcases h with ⟨rfl, rfl⟩ | ⟨t, rfl, rfl⟩
  · exact .inl rfl
  · exact stale_no H

set_option maxHeartbeats 4000000 in
theorem two_begin {w0 w : World} {ps : List HP} (hh : HalfAt w0) (H : St w0 w ps) (log cnt : Nat) (h1 : 2 ≤ log) (h2 : 4 ≤ cnt) (h3 : log ≤ 1000) (h4 : cnt ≤ 1000) :
    Calls Tryz.prog 36 #[.int .i64 (log : Int), .int .i64 (cnt : Int)] w fun e w' => ∃ tb, e = .returned ((.pointer (some ⟨tb, 0, none⟩))) ∧ TwoC w0 w' ps tb (log + 8 * cnt) log cnt 1 PSt.new := by
  have sh : Shape (log + 8 * cnt) log cnt := ⟨by omega, by omega, by omega, by omega, by omega⟩
  have hnew := sd_new H ((log + 8 * cnt : Nat) : Int) (by omega) (by omega)
  rw [Int.toNat_natCast] at hnew
  have e1 : ((log + 8 * cnt : Nat) : Int) = (log : Int) + 8 * (cnt : Int) := by omega
  rw [e1] at hnew
  have g1 : (log : Int) + 8 * (cnt : Int) ≤ 9223372036854775807 := by omega
  have g2 : (0 : Int) ≤ (log : Int) + 8 * (cnt : Int) := by omega
  have g3 : (8 : Int) * (cnt : Int) ≤ 9223372036854775807 := by omega
  clear e1 H
  go_enter Tryz.func36, Tryz.ntmps36
  go_upto_region 2 with (go_at_call 9; refine hnew.mono ?_; rintro e w1 ⟨d, rfl, H1⟩)
  have H1 := coldP_new sh H1
  have hop := db_open hh H1 (by omega)
  clear hnew H1
  go_upto_region 5 with (go_at_call 11; refine hop.mono ?_; rintro e w2 (⟨x, rfl, H2⟩ | ⟨h9, -⟩); rotate_left; · cases h9)
  have hrn := rf_new H2 cnt log
  clear hop H2
  go_wp2_with (go_at_call 65; refine hrn.mono ?_; rintro e w3 ⟨r, rfl, H3⟩)
  have H4 := H3.alloc [(.pointer (some ⟨d, 0, none⟩)), (.pointer (some ⟨x, 0, none⟩)), .pointer none, (.pointer (some ⟨r, 0, none⟩))] 81
  go_ret
  refine ⟨_, rfl, d, x, r, .pointer none, noneP, .inl ⟨rfl, rfl⟩, ?_⟩
  have H5 := (H4.pull 2 rfl).none1
  exact ((H5.pull 2 rfl).pull 2 rfl).pull 1 rfl

/-- What again reads. -/
def AgS (tb d x r log : Nat) (tv : Value) (W : World) : Prop :=
  W.cell? ⟨tb, 0, none⟩ = some ((.pointer (some ⟨d, 0, none⟩))) ∧ W.cell? ⟨tb, 3, none⟩ = some ((.pointer (some ⟨r, 0, none⟩))) ∧ W.cell? ⟨r, 1, none⟩ = some (.int .i64 (log : Int))

set_option maxHeartbeats 8000000 in
theorem two_again {w0 w : World} {ps : List HP} {tb d x r N log cnt E : Nat} {S : PSt} {tv kv : Value} {keep : List Bool} {p pr : HP} (hh : HalfAt w0) (sh : Shape N log cnt) (hE : E < 999999)
    (H : St w0 w (objP tb [(.pointer (some ⟨d, 0, none⟩)), (.pointer (some ⟨x, 0, none⟩)), tv, (.pointer (some ⟨r, 0, none⟩))] 81 :: p :: pr :: ps))
    (hp : ∀ {W : World} {qs : List HP}, St w0 W (p :: qs) → Calls Tryz.prog 10 #[(.pointer (some ⟨d, 0, none⟩))] W fun e w' => e = .returned (.int .i64 0) ∧ St w0 w' (darkP d N log cnt E (fun s => s = S) :: qs))
    (hl : ∀ {W : World} {qs : List HP}, St w0 W (pr :: qs) → W.cell? ⟨r, 1, none⟩ = some (.int .i64 (log : Int)))
    (ha : ∀ {W : World} {qs : List HP}, St w0 W (pr :: qs) → Calls Tryz.prog 73 #[(.pointer (some ⟨r, 0, none⟩))] W fun e w' => e = .returned (.tuple #[]) ∧ St w0 w' (rfP r cnt log S :: qs))
    (hk : Reads w0 kv (keep.map Value.bool)) :
    Calls Tryz.prog 74 #[(.pointer (some ⟨tb, 0, none⟩)), kv] w fun e w' => e = .returned (.bool true) ∧ ∃ y, St w0 w' (objP tb [(.pointer (some ⟨d, 0, none⟩)), (.pointer (some ⟨y, 0, none⟩)), .pointer none, (.pointer (some ⟨r, 0, none⟩))] 81 :: dbP y d N log cnt (E + 1) false S :: rfP r cnt log S :: ps) := by
  have c0 : w.cell? ⟨tb, 0, none⟩ = some ((.pointer (some ⟨d, 0, none⟩))) := (H.obj 0 rfl).cell 0
  have hof := hp (H.pull 1 rfl)
  have HH := hid (And.intro @hl @ha)
  have HS := hid (And.intro sh hh)
  have HK := hid hk
  clear hp hl ha H sh hk hh
  go_enter Tryz.func74, Tryz.ntmps74
  go_upto_region 2 with (go_at_call 10; refine hof.mono ?_; rintro e w1 ⟨rfl, H1⟩)
  have H1 := hid H1
  clear hof c0
  have c0 : w1.cell? ⟨tb, 0, none⟩ = some (.pointer (some ⟨d, 0, none⟩)) := (H1.out.obj 1 rfl).cell 0
  have hon := dark_on HS.out.1 H1.out (.inl HK.out)
  go_upto_region 4 with (go_at_call 34; refine hon.mono ?_; rintro e w2 ⟨rfl, S2, rfl, H2⟩)
  have H2 := hid (show St w0 w2 (coldP d N log cnt E false S2 :: objP tb [(.pointer (some ⟨d, 0, none⟩)), (.pointer (some ⟨x, 0, none⟩)), tv, (.pointer (some ⟨r, 0, none⟩))] 81 :: pr :: ps) from H2)
  clear H1 hon c0
  refine wp_stages (by kernel_rfl) ?_
  have HD := hid H2.out.drew
  clear H2
  generalize w2.drew = wd at *
  have S0 : Hid (AgS tb d x r log tv wd) := hid ⟨(HD.out.obj 1 rfl).cell 0, (HD.out.obj 1 rfl).cell 3, HH.out.1 (HD.out.pull 2 rfl)⟩
  have hop := db_open HS.out.2 HD.out (by omega)
  refine wp_stage (AgS tb d x r log tv) [(0, true), (1, true), (2, true), (3, true), (4, true), (5, true), (6, true), (7, true), (8, true), (9, true), (10, true), (11, false)] 5 rfl (by kernel_rfl) (by intro c a dd v w h; cases dd <;> exact h) (S0.out) ?_
  iterate 11 (refine wpOrd_read (v := _) rfl rfl (by intro w' hS; obtain ⟨s0, s3, l1⟩ := id hS; clear hS; go_simp; rfl) ?_; (try simp only [Act.put, List.setIfInBounds_toArray, List.set_cons_succ, List.set_cons_zero, List.getElem_toArray, List.getElem_cons_succ, List.getElem_cons_zero]))
  refine wpOrd_do rfl rfl (fun K hK => ?_)
  go_simp
  refine hop.mono ?_
  rintro e w3 (⟨y, rfl, H3⟩ | ⟨h9, -⟩)
  rotate_left
  · cases h9
  have H3 := hid (show St w0 w3 (dbP y d N log cnt (E + 1) false S2 :: objP tb [(.pointer (some ⟨d, 0, none⟩)), (.pointer (some ⟨x, 0, none⟩)), tv, (.pointer (some ⟨r, 0, none⟩))] 81 :: pr :: ps) from H3)
  refine hK _ _ ⟨⟨(H3.out.obj 1 rfl).cell 0, (H3.out.obj 1 rfl).cell 3, HH.out.1 (H3.out.pull 2 rfl)⟩, ?_⟩
  clear hK K hop S0 HD
  (try simp only [Act.put, List.setIfInBounds_toArray, List.set_cons_succ, List.set_cons_zero, List.getElem_toArray, List.getElem_cons_succ, List.getElem_cons_zero])
  refine wpOrd_end ?_
  refine wp_stage (fun _ => True) [(12, true), (13, true), (14, true), (15, false)] 1 rfl (by kernel_rfl) (by intro c a dd v w h; cases dd <;> exact h) (trivial) ?_
  iterate 3 (refine wpOrd_read (v := _) rfl rfl (by intro w' hS; skip; clear hS; go_simp; rfl) ?_; (try simp only [Act.put, List.setIfInBounds_toArray, List.set_cons_succ, List.set_cons_zero, List.getElem_toArray, List.getElem_cons_succ, List.getElem_cons_zero]))
  refine wpOrd_do rfl rfl (fun K hK => ?_)
  go_simp
  refine hK _ _ ⟨trivial, ?_⟩
  clear hK K
  (try simp only [Act.put, List.setIfInBounds_toArray, List.set_cons_succ, List.set_cons_zero, List.getElem_toArray, List.getElem_cons_succ, List.getElem_cons_zero])
  refine wpOrd_end ?_
  refine wp_stages_end 16 (by rfl) (by kernel_rfl) ?_
  simp only [List.drop_succ_cons, List.drop_zero]
  have c3 : w3.cell? ⟨tb, 3, none⟩ = some (.pointer (some ⟨r, 0, none⟩)) := (H3.out.obj 1 rfl).cell 3
  have hab := HH.out.2 (H3.out.pull 2 rfl)
  go_upto_region 8 with (go_at_call 73; refine hab.mono ?_; rintro e w4 ⟨rfl, H4⟩)
  have H4 := hid (show St w0 w4 (rfP r cnt log S2 :: dbP y d N log cnt (E + 1) false S2 :: objP tb [(.pointer (some ⟨d, 0, none⟩)), (.pointer (some ⟨x, 0, none⟩)), tv, (.pointer (some ⟨r, 0, none⟩))] 81 :: ps) from H4)
  clear H3 hab c3
  have c1 : w4.cell? ⟨tb, 1, none⟩ = some (.pointer (some ⟨x, 0, none⟩)) := (H4.out.obj 2 rfl).cell 1
  have c2 : w4.cell? ⟨tb, 2, none⟩ = some tv := (H4.out.obj 2 rfl).cell 2
  have f1 := (H4.out.obj 2 rfl).frozen 1
  have f2 := (H4.out.obj 2 rfl).frozen 2
  have l1 := (H4.out.obj 2 rfl).lt
  have H5 := hid ((H4.out.set 2 rfl 1 (.pointer (some ⟨y, 0, none⟩))).set 2 rfl 2 (.pointer none))
  clear H4
  go_wp2
  go_ret
  exact ⟨rfl, y, ((H5.out.pull 2 rfl).pull 2 rfl).pull 1 rfl⟩

end Go.Proofs.YtnffnpndnaofhaaGreatDoor
