/- Parts of the proof: PagedbPlays: the walk: a database under any calls answers, and has, what the document says; conditions stand in the theorem. -/
import Derived.Test.YtnffnpndnaofhaaGreatDoorQbi
import Derived.Deep.DeepCutAuto

/- PagedbPlays: the walk: a database under any calls answers, and has, what the document says; conditions stand in the theorem. -/
namespace Go.Proofs.YtnffnpndnaofhaaGreatDoor
open Go.RowKit
set_option maxRecDepth 100000

theorem two_does {w0 w : World} {ps : List HP} {tb N log cnt E : Nat} (hh : HalfAt w0) (sh : Shape N log cnt) (hE : E < 900000) (h : TwoAt w0 w ps tb N log cnt E) (a : ActD) (ha : a.Ok w0) (hb : a.pid < 9223372036854775808) :
    Calls Tryz.prog 37 #[(.pointer (some ⟨tb, 0, none⟩)), .agg a.cells.toArray] w fun e w' => e = .returned (.bool true) ∧ ∃ E', E' ≤ E + 1 ∧ TwoAt w0 w' ps tb N log cnt E' := by
  obtain ⟨K, pid, kd, s, kv, keep⟩ := a
  have hs := ha.s
  have hk := ha.keep
  clear ha
  rcases h with ⟨S, h⟩ | ⟨S, T, tk, mk, sp, h⟩
  · by_cases n0 : K = 0
    · subst n0; exact does_c0 hh sh hE h pid kd s kv keep hs hb hk
    by_cases n1 : K = 1
    · subst n1; exact does_c1 hh sh hE h pid kd s kv keep hs hb hk
    by_cases n2 : K = 2
    · subst n2; exact does_c2 hh sh hE h pid kd s kv keep hs hb hk
    by_cases n3 : K = 3
    · subst n3; exact does_c3 hh sh hE h pid kd s kv keep hs hb hk
    by_cases n4 : K = 4
    · subst n4; exact does_c4 hh sh hE h pid kd s kv keep hs hb hk
    by_cases n5 : K = 5
    · subst n5; exact does_c5 hh sh hE h pid kd s kv keep hs hb hk
    by_cases n6 : K = 6
    · subst n6; exact does_c6 hh sh hE h pid kd s kv keep hs hb hk
    by_cases n7 : K = 7
    · subst n7; exact does_c7 hh sh hE h pid kd s kv keep hs hb hk
    by_cases n8 : K = 8
    · subst n8; exact does_c8 hh sh hE h pid kd s kv keep hs hb hk
    by_cases n10 : K = 10
    · subst n10; exact does_c10 hh sh hE h pid kd s kv keep hs hb hk
    exact does_c9 hh sh hE h pid kd s kv keep hs hb hk K n0 n1 n2 n3 n4 n5 n6 n7 n8 n10
  · by_cases n0 : K = 0
    · subst n0; exact does_o0 hh sh hE h pid kd s kv keep hs hb hk
    by_cases n1 : K = 1
    · subst n1; exact does_o1 hh sh hE h pid kd s kv keep hs hb hk
    by_cases n2 : K = 2
    · subst n2; exact does_o2 hh sh hE h pid kd s kv keep hs hb hk
    by_cases n3 : K = 3
    · subst n3; exact does_o3 hh sh hE h pid kd s kv keep hs hb hk
    by_cases n4 : K = 4
    · subst n4; exact does_o4 hh sh hE h pid kd s kv keep hs hb hk
    by_cases n5 : K = 5
    · subst n5; exact does_o5 hh sh hE h pid kd s kv keep hs hb hk
    by_cases n6 : K = 6
    · subst n6; exact does_o6 hh sh hE h pid kd s kv keep hs hb hk
    by_cases n7 : K = 7
    · subst n7; exact does_o7 hh sh hE h pid kd s kv keep hs hb hk
    by_cases n8 : K = 8
    · subst n8; exact does_o8 hh sh hE h pid kd s kv keep hs hb hk
    by_cases n10 : K = 10
    · subst n10; exact does_o10 hh sh hE h pid kd s kv keep hs hb hk
    exact does_o9 hh sh hE h pid kd s kv keep hs hb hk K n0 n1 n2 n3 n4 n5 n6 n7 n8 n10

theorem wf_low {n : Int} (h : (Lit.int .i64 n).wf = true) : n < 9223372036854775808 := by
  simp only [Lit.wf, decide_eq_true_eq, Bool.and_eq_true] at h
  have h2 : n ≤ 9223372036854775807 := h.2
  omega

set_option maxHeartbeats 16000000 in
theorem pdb_plays_walk (w : World) (hh : HalfAt w) (l0 p0 : Int) (va : Value) (la : List ActD) (ha : ActsAt w va la) :
    Calls Tryz.prog 8 #[.int .i64 l0, .int .i64 p0, va] w fun e w' => e = .returned (.bool true) ∧ Pres [] w w' := by
  obtain ⟨am, capm, em, hm1, hm2, -⟩ := id ha.1
  rw [List.length_map] at em hm1
  subst em
  have hmax : la.length ≤ 9223372036854775807 := by simp only [maxLen] at hm2; omega
  have HA := hid ha
  obtain ⟨r4, hr4⟩ : ∃ r, l0.tmod 40 = r := ⟨_, rfl⟩
  have r4b := Int.lt_tmod_of_pos l0 (show (0 : Int) < 40 by omega)
  have r4c := Int.tmod_lt_of_pos l0 (show (0 : Int) < 40 by omega)
  rw [hr4] at r4b r4c
  have e4 : (r4 + 40).tmod 40 = (r4 + 40) % 40 := Int.tmod_eq_emod_of_nonneg (by omega)
  obtain ⟨o4, ho4⟩ : ∃ n : Nat, r4 % 40 = (n : Int) := ⟨(r4 % 40).toNat, by omega⟩
  have ho4b : o4 < 40 := by omega
  obtain ⟨r5, hr5⟩ : ∃ r, p0.tmod 12 = r := ⟨_, rfl⟩
  have r5b := Int.lt_tmod_of_pos p0 (show (0 : Int) < 12 by omega)
  have r5c := Int.tmod_lt_of_pos p0 (show (0 : Int) < 12 by omega)
  rw [hr5] at r5b r5c
  have e5 : (r5 + 12).tmod 12 = (r5 + 12) % 12 := Int.tmod_eq_emod_of_nonneg (by omega)
  obtain ⟨o5, ho5⟩ : ∃ n : Nat, r5 % 12 = (n : Int) := ⟨(r5 % 12).toNat, by omega⟩
  have ho5b : o5 < 12 := by omega
  have hbg := two_begin hh (St.start w) (20 + o4) (4 + o5) (by omega) (by omega) (by omega) (by omega)
  rw [show ((20 + o4 : Nat) : Int) = 20 + (o4 : Int) by omega, show ((4 + o5 : Nat) : Int) = 4 + (o5 : Int) by omega] at hbg
  clear ha hm1 hm2
  go_enter Tryz.func8, Tryz.ntmps8
  go_upto_region 5 with (go_at_call 36; refine hbg.mono ?_; rintro e w1 ⟨tb, rfl, H1⟩)
  have sh : Shape ((20 + o4) + 8 * (4 + o5)) (20 + o4) (4 + o5) := ⟨by omega, by omega, by omega, by omega, by omega⟩
  have HSH := hid sh
  have HT1 := hid (show TwoAt w w1 [] tb ((20 + o4) + 8 * (4 + o5)) (20 + o4) (4 + o5) 1 from .inl ⟨_, H1⟩)
  clear sh H1 hbg e4 e5 ho4 ho5 r4b r4c r5b r5c hr4 hr5
  generalize ((20 + o4) + 8 * (4 + o5)) = N at *
  obtain ⟨L, hL⟩ : ∃ L, 20 + o4 = L := ⟨_, rfl⟩
  obtain ⟨P, hP⟩ : ∃ P, 4 + o5 = P := ⟨_, rfl⟩
  rw [show (20 : Int) + (o4 : Int) = (L : Int) by omega, show (4 : Int) + (o5 : Int) = (P : Int) by omega]
  rw [hL, hP] at HSH HT1
  clear ho4b ho5b hL hP
  go_wp2
  go_loopw [8] (fun iv wr => ∃ (k E : Nat), k ≤ 50 ∧ E ≤ 1 + k ∧ iv = .int .i64 (k : Int) ∧ TwoAt w wr [] tb N L P E) (fun iv _ => 50 - (intOf iv).toNat)
  case atStart => exact ⟨0, 1, Nat.zero_le _, Nat.le_refl _, rfl, HT1.out⟩
  case round =>
    obtain ⟨k, E, hk, hE, rfl, hM⟩ := hrel
    clear HT1
    have HH := hid hM
    clear hM
    by_cases hlt : k < la.length ∧ k < 50
    · obtain ⟨hlt, hkm⟩ := hlt
      have hl1 : (k : Int) < (la.length : Int) := by omega
      have hl2 : (k : Int) < 50 := by omega
      obtain ⟨a, ha⟩ : ∃ a, la[k]? = some a := ⟨_, List.getElem?_eq_getElem hlt⟩
      have hok := HA.out.2 a (List.mem_of_getElem? ha)
      obtain ⟨g, off, capb, eb, -, -, hcb, hbw⟩ := HA.out.get ha
      simp only [Value.slice.injEq] at eb
      obtain ⟨rfl, -, rfl⟩ := eb
      have hpr : Pres [] w wr := by
        rcases HH.out with ⟨S, d, x, r, tv, q, -, h⟩ | ⟨S, T, tk, mk, sp, d, x, r, t, h⟩
        · exact h.pres
        · exact h.pres
      have c0 : wr.cell? ⟨g, off + k * 5 + 0, none⟩ = some (.int .i64 a.kind) := hpr.cell (hcb 0 _ rfl) (by simp)
      have c1 : wr.cell? ⟨g, off + k * 5 + 1, none⟩ = some (.int .i64 a.pid) := hpr.cell (hcb 1 _ rfl) (by simp)
      have c2 : wr.cell? ⟨g, off + k * 5 + 2, none⟩ = some (.int .i64 a.kd) := hpr.cell (hcb 2 _ rfl) (by simp)
      have c3 : wr.cell? ⟨g, off + k * 5 + 3, none⟩ = some (.string a.s) := hpr.cell (hcb 3 _ rfl) (by simp)
      have c4 : wr.cell? ⟨g, off + k * 5 + 4, none⟩ = some a.kv := hpr.cell (hcb 4 _ rfl) (by simp)
      rw [Nat.add_zero] at c0
      have hdo := two_does hh HSH.out (by omega) HH.out a hok (wf_low hok.pid)
      unfold ActD.cells at hdo
      have HE := hid hE
      clear hcb hok ha hpr hE
      go_upto_region 10 with (go_at_call 37; refine hdo.mono ?_; rintro e w2 ⟨rfl, E', hE', hT⟩)
      clear c0 c1 c2 c3 c4 hdo HH
      have HE2 : Hid (E' ≤ 1 + (k + 1)) := hid (by have := HE.out; omega)
      clear hE' HE
      obtain ⟨m5, hm5⟩ : ∃ m : Nat, (k : Int).tmod 5 = (m : Int) := ⟨k % 5, by rw [Int.tmod_eq_emod_of_nonneg (by omega)]; omega⟩
      have hm5b : m5 < 5 := by rw [Int.tmod_eq_emod_of_nonneg (by omega)] at hm5; omega
      rcases hT with ⟨S, d, x, r, tv, q, hq, H2⟩ | ⟨S, T, tk, mk, sp, d, x, r, t, H2⟩
      · as_aux_lemma =>
        have HQ := hid hq
        have H2 := hid H2
        clear hq
        simp only [List.append_eq, List.cons_append, List.nil_append]
        refine wp_stages (by kernel_rfl) ?_
        have HD := hid (St.drew H2.out)
        generalize w2.drew = wd at *
        clear H2
        obtain ⟨v, -, HR⟩ := rfP_open (HD.out.pull 3 rfl)
        obtain ⟨ap, cp, ep, -, -⟩ := (statP_read (HR.pull 1 rfl)).pages.shape
        obtain ⟨af, cf, ef, -, -⟩ := (statP_read (HR.pull 1 rfl)).freed.shape
        have S0 : Hid (wd.cell? ⟨tb, 1, none⟩ = some (.pointer (some ⟨x, 0, none⟩)) ∧ wd.cell? ⟨tb, 2, none⟩ = some tv ∧ wd.cell? ⟨tb, 3, none⟩ = some (.pointer (some ⟨r, 0, none⟩)) ∧ wd.cell? ⟨r, 2, none⟩ = some (.slice ap S.pages.length cp) ∧ wd.cell? ⟨r, 3, none⟩ = some (.slice af S.freed.length cf)) :=
          hid ⟨(HD.out.obj 0 rfl).cell 1, (HD.out.obj 0 rfl).cell 2, (HD.out.obj 0 rfl).cell 3, by rw [← ep]; exact (HR.obj 0 rfl).cell 2, by rw [← ef]; exact (HR.obj 0 rfl).cell 3⟩
        have hct := db_count (HD.out.pull 1 rfl)
        clear HR ep ef
        refine wp_stage (fun W => W.cell? ⟨tb, 1, none⟩ = some (.pointer (some ⟨x, 0, none⟩)) ∧ W.cell? ⟨tb, 2, none⟩ = some tv ∧ W.cell? ⟨tb, 3, none⟩ = some (.pointer (some ⟨r, 0, none⟩)) ∧ W.cell? ⟨r, 2, none⟩ = some (.slice ap S.pages.length cp) ∧ W.cell? ⟨r, 3, none⟩ = some (.slice af S.freed.length cf)) [(0, true), (1, true), (2, true), (3, true), (5, true), (4, false)] 65 rfl (by kernel_rfl) (by intro c a dd v w h; cases dd <;> exact h) (S0.out) ?_
        iterate 5 (refine wpOrd_read (v := _) rfl rfl (by intro w' hS; obtain ⟨s1, s2, s3, s4, s5⟩ := id hS; clear hS; go_simp; rfl) ?_; (try simp only [Act.put, List.setIfInBounds_toArray, List.set_cons_succ, List.set_cons_zero, List.getElem_toArray, List.getElem_cons_succ, List.getElem_cons_zero]))
        refine wpOrd_do rfl rfl (fun K hK => ?_)
        go_simp
        refine hct.mono ?_
        rintro e w3 ⟨rfl, P3⟩
        have S1 : Hid (w3.cell? ⟨tb, 1, none⟩ = some (.pointer (some ⟨x, 0, none⟩)) ∧ w3.cell? ⟨tb, 2, none⟩ = some tv ∧ w3.cell? ⟨tb, 3, none⟩ = some (.pointer (some ⟨r, 0, none⟩)) ∧ w3.cell? ⟨r, 2, none⟩ = some (.slice ap S.pages.length cp) ∧ w3.cell? ⟨r, 3, none⟩ = some (.slice af S.freed.length cf)) :=
          hid ⟨P3.cell S0.out.1 (by simp), P3.cell S0.out.2.1 (by simp), P3.cell S0.out.2.2.1 (by simp), P3.cell S0.out.2.2.2.1 (by simp), P3.cell S0.out.2.2.2.2 (by simp)⟩
        have H3 := hid (HD.out.quiet P3)
        refine hK _ _ ⟨S1.out, ?_⟩
        clear hK K hct S0 HD P3
        (try simp only [Act.put, List.setIfInBounds_toArray, List.set_cons_succ, List.set_cons_zero, List.getElem_toArray, List.getElem_cons_succ, List.getElem_cons_zero])
        refine wpOrd_end ?_
        have HNO := hid (over_no HQ.out ((H3.out.pull 2 rfl).pull 2 rfl))
        refine wp_stage (fun W => W.cell? ⟨tb, 1, none⟩ = some (.pointer (some ⟨x, 0, none⟩)) ∧ W.cell? ⟨tb, 2, none⟩ = some tv ∧ W.cell? ⟨tb, 3, none⟩ = some (.pointer (some ⟨r, 0, none⟩)) ∧ W.cell? ⟨r, 2, none⟩ = some (.slice ap S.pages.length cp) ∧ W.cell? ⟨r, 3, none⟩ = some (.slice af S.freed.length cf)) [(6, true), (7, true), (8, true), (9, true), (10, true), (11, true), (13, true), (14, true), (15, true), (16, true), (17, true), (18, true), (19, true), (20, true), (21, true), (12, false)] 49 rfl (by kernel_rfl) (by intro c a dd v w h; cases dd <;> exact h) (S1.out) ?_
        iterate 15 (refine wpOrd_readw (v := _) rfl rfl (by intro w' hS; obtain ⟨s1, s2, s3, s4, s5⟩ := id hS; clear hS; go_simp; rfl) ?_; (try simp only [Act.put, List.setIfInBounds_toArray, List.set_cons_succ, List.set_cons_zero, List.getElem_toArray, List.getElem_cons_succ, List.getElem_cons_zero]))
        refine wpOrd_dow rfl rfl (fun K hK => ?_)
        go_simp
        refine (db_high (H3.out.pull 1 rfl)).mono ?_
        rintro e w4 ⟨rfl, rfl⟩
        refine hK _ _ ⟨S1.out, ?_⟩
        clear hK K
        (try simp only [Act.put, List.setIfInBounds_toArray, List.set_cons_succ, List.set_cons_zero, List.getElem_toArray, List.getElem_cons_succ, List.getElem_cons_zero])
        refine wpOrd_end ?_
        refine wp_stage (fun W => W.cell? ⟨tb, 1, none⟩ = some (.pointer (some ⟨x, 0, none⟩)) ∧ W.cell? ⟨tb, 2, none⟩ = some tv ∧ W.cell? ⟨tb, 3, none⟩ = some (.pointer (some ⟨r, 0, none⟩)) ∧ W.cell? ⟨r, 2, none⟩ = some (.slice ap S.pages.length cp) ∧ W.cell? ⟨r, 3, none⟩ = some (.slice af S.freed.length cf)) [(22, true), (23, true), (24, true), (25, true), (26, true), (27, true), (28, true), (30, true), (31, true), (32, true), (33, true), (34, true), (35, true), (36, true), (37, true), (38, true), (29, false)] 32 rfl (by kernel_rfl) (by intro c a dd v w h; cases dd <;> exact h) (S1.out) ?_
        iterate 16 (refine wpOrd_readw (v := _) rfl rfl (by intro w' hS; obtain ⟨s1, s2, s3, s4, s5⟩ := id hS; clear hS; go_simp; rfl) ?_; (try simp only [Act.put, List.setIfInBounds_toArray, List.set_cons_succ, List.set_cons_zero, List.getElem_toArray, List.getElem_cons_succ, List.getElem_cons_zero]))
        refine wpOrd_dow rfl rfl (fun K hK => ?_)
        go_simp
        refine (db_frees (H3.out.pull 1 rfl)).mono ?_
        rintro e w4 ⟨rfl, rfl⟩
        refine hK _ _ ⟨S1.out, ?_⟩
        clear hK K
        (try simp only [Act.put, List.setIfInBounds_toArray, List.set_cons_succ, List.set_cons_zero, List.getElem_toArray, List.getElem_cons_succ, List.getElem_cons_zero])
        refine wpOrd_end ?_
        refine wp_stage (fun W => W.cell? ⟨tb, 1, none⟩ = some (.pointer (some ⟨x, 0, none⟩)) ∧ W.cell? ⟨tb, 2, none⟩ = some tv ∧ W.cell? ⟨tb, 3, none⟩ = some (.pointer (some ⟨r, 0, none⟩)) ∧ W.cell? ⟨r, 2, none⟩ = some (.slice ap S.pages.length cp) ∧ W.cell? ⟨r, 3, none⟩ = some (.slice af S.freed.length cf)) [(39, true), (40, true), (41, true), (42, true), (43, true), (44, true), (45, true), (47, true), (48, true), (49, true), (50, true), (46, false)] 20 rfl (by kernel_rfl) (by intro c a dd v w h; cases dd <;> exact h) (S1.out) ?_
        iterate 11 (refine wpOrd_readw (v := _) rfl rfl (by intro w' hS; obtain ⟨s1, s2, s3, s4, s5⟩ := id hS; clear hS; go_simp; rfl) ?_; (try simp only [Act.put, List.setIfInBounds_toArray, List.set_cons_succ, List.set_cons_zero, List.getElem_toArray, List.getElem_cons_succ, List.getElem_cons_zero]))
        refine wpOrd_dow rfl rfl (fun K hK => ?_)
        go_simp
        refine (no_changed HNO.out).mono ?_
        rintro e w4 ⟨rfl, rfl⟩
        refine hK _ _ ⟨S1.out, ?_⟩
        clear hK K
        (try simp only [Act.put, List.setIfInBounds_toArray, List.set_cons_succ, List.set_cons_zero, List.getElem_toArray, List.getElem_cons_succ, List.getElem_cons_zero])
        refine wpOrd_end ?_
        refine wp_stage (fun W => W.cell? ⟨tb, 1, none⟩ = some (.pointer (some ⟨x, 0, none⟩)) ∧ W.cell? ⟨tb, 2, none⟩ = some tv ∧ W.cell? ⟨tb, 3, none⟩ = some (.pointer (some ⟨r, 0, none⟩)) ∧ W.cell? ⟨r, 2, none⟩ = some (.slice ap S.pages.length cp) ∧ W.cell? ⟨r, 3, none⟩ = some (.slice af S.freed.length cf)) [(51, false)] 19 rfl (by kernel_rfl) (by intro c a dd v w h; cases dd <;> exact h) (S1.out) ?_
        refine wpOrd_dow rfl rfl (fun K hK => ?_)
        go_simp
        refine (rf_changed_no (H3.out.pull 3 rfl)).mono ?_
        rintro e w4 ⟨rfl, rfl⟩
        refine hK _ _ ⟨S1.out, ?_⟩
        clear hK K
        (try simp only [Act.put, List.setIfInBounds_toArray, List.set_cons_succ, List.set_cons_zero, List.getElem_toArray, List.getElem_cons_succ, List.getElem_cons_zero])
        refine wpOrd_end ?_
        refine wp_stage (fun W => W.cell? ⟨tb, 1, none⟩ = some (.pointer (some ⟨x, 0, none⟩)) ∧ W.cell? ⟨tb, 2, none⟩ = some tv ∧ W.cell? ⟨tb, 3, none⟩ = some (.pointer (some ⟨r, 0, none⟩)) ∧ W.cell? ⟨r, 2, none⟩ = some (.slice ap S.pages.length cp) ∧ W.cell? ⟨r, 3, none⟩ = some (.slice af S.freed.length cf)) [(52, true), (53, true), (54, true), (55, true), (56, true), (57, true), (58, true), (59, true), (60, true), (62, true), (63, true), (64, true), (65, true), (66, true), (67, true), (61, false)] 3 rfl (by kernel_rfl) (by intro c a dd v w h; cases dd <;> exact h) (S1.out) ?_
        iterate 15 (refine wpOrd_readw (v := _) rfl rfl (by intro w' hS; obtain ⟨s1, s2, s3, s4, s5⟩ := id hS; clear hS; go_simp; rfl) ?_; (try simp only [Act.put, List.setIfInBounds_toArray, List.set_cons_succ, List.set_cons_zero, List.getElem_toArray, List.getElem_cons_succ, List.getElem_cons_zero]))
        refine wpOrd_dow rfl rfl (fun K hK => ?_)
        go_simp
        refine (no_root HNO.out (m5 : Int)).mono ?_
        rintro e w4 ⟨rfl, rfl⟩
        refine hK _ _ ⟨S1.out, ?_⟩
        clear hK K
        (try simp only [Act.put, List.setIfInBounds_toArray, List.set_cons_succ, List.set_cons_zero, List.getElem_toArray, List.getElem_cons_succ, List.getElem_cons_zero])
        refine wpOrd_end ?_
        refine wp_stages_end 68 (by rfl) (by kernel_rfl) ?_
        simp only [List.drop_succ_cons, List.drop_zero]
        have h6 := rf_root_no (H3.out.pull 3 rfl) (m5 : Int)
        go_upto_region 12 with (go_at_call 39; refine h6.mono ?_; rintro e w4 ⟨rfl, rfl⟩)
        clear h6
        obtain ⟨v, -, HR⟩ := rfP_open (H3.out.pull 3 rfl)
        have r5 : w3.cell? ⟨r, 5, none⟩ = some (.bool false) := (HR.obj 0 rfl).cell 5
        clear HR
        have c1 : w3.cell? ⟨tb, 1, none⟩ = some (.pointer (some ⟨x, 0, none⟩)) := (H3.out.obj 0 rfl).cell 1
        have c3 : w3.cell? ⟨tb, 3, none⟩ = some (.pointer (some ⟨r, 0, none⟩)) := (H3.out.obj 0 rfl).cell 3
        have hst := law_state hh (H3.out.pull 1 rfl)
        have hsm := hid (dbP_small (H3.out.pull 1 rfl))
        clear S1 HNO
        go_upto_region 14 with (first
          | (go_at_call 14; refine hst.mono ?_; rintro e w4 ⟨pv, fv, rv, rfl, H4⟩; obtain ⟨pa, ca, pe, -, -⟩ := (statP_read H4).pages.shape; obtain ⟨fa, cfa, fe, -, -⟩ := (statP_read H4).freed.shape; obtain ⟨ra, cra, re, -, -⟩ := (statP_read H4).roots.shape; subst pe fe re; have H4 := hid (H4.alloc [.slice none 0 0, .slice none 0 0, .slice none 0 0] 37); clear hst r5 c1 c3)
          | ((with_reducible refine at_store ?_); refine wpL_store rfl 37 (.tmp 9) (.tmp 127) rfl _ 0 3 rfl [_, _, _] rfl _ _ (H4.out.obj 0 rfl) state_size rfl (by simp) (by simp [Value.oneCell']) ?_; intro w5 A5 P5 S5; have H5 := hid (H4.out.put 0 rfl A5 P5)))
        generalize w4.heap.size = nb at *
        have H5 := hid (show St w w5 (objP nb [.slice pa S.pages.length ca, .slice fa S.freed.length cfa, .slice ra 4 cra] 37 :: statP (.slice pa S.pages.length ca) (.slice fa S.freed.length cfa) (.slice ra 4 cra) S :: dbP x d N L P E' false S :: objP tb [(.pointer (some ⟨d, 0, none⟩)), (.pointer (some ⟨x, 0, none⟩)), tv, (.pointer (some ⟨r, 0, none⟩))] 81 :: q :: rfP r P L S :: []) from H5.out)
        clear H4 H3 A5 P5 S5
        refine wp_stages (by kernel_rfl) ?_
        have HD := hid (St.drew H5.out)
        generalize w5.drew = wd at *
        clear H5
        obtain ⟨⟨pv, fv, rv, z1, z2, z3, z4, z5, z6⟩, -, HR⟩ := rfP_open (HD.out.pull 5 rfl)
        obtain ⟨ap, cp, ep, -, -⟩ := (statP_read (HR.pull 1 rfl)).pages.shape
        obtain ⟨af, cf, ef, -, -⟩ := (statP_read (HR.pull 1 rfl)).freed.shape
        obtain ⟨ar, cr, er, -, -⟩ := (statP_read (HR.pull 1 rfl)).roots.shape
        simp only at ep ef er
        subst ep ef er
        have S0 : Hid ((wd.cell? ⟨nb, 0, none⟩ = some (.slice pa S.pages.length ca) ∧ wd.cell? ⟨nb, 1, none⟩ = some (.slice fa S.freed.length cfa) ∧ wd.cell? ⟨nb, 2, none⟩ = some (.slice ra 4 cra)) ∧ wd.cell? ⟨tb, 3, none⟩ = some (.pointer (some ⟨r, 0, none⟩)) ∧ wd.cell? ⟨r, 2, none⟩ = some (.slice ap S.pages.length cp) ∧ wd.cell? ⟨r, 3, none⟩ = some (.slice af S.freed.length cf) ∧ wd.cell? ⟨r, 4, none⟩ = some (.slice ar 4 cr)) :=
          hid ⟨⟨(HD.out.obj 0 rfl).cell 0, (HD.out.obj 0 rfl).cell 1, (HD.out.obj 0 rfl).cell 2⟩, (HD.out.obj 3 rfl).cell 3, (HR.obj 0 rfl).cell 2, (HR.obj 0 rfl).cell 3, (HR.obj 0 rfl).cell 4⟩
        have hsame := same_call wd _ _ _ _ _ _ S S (statP_read (HD.out.pull 1 rfl)) (statP_read (HR.pull 1 rfl)) (by have := hsm.out; omega) (by have := hsm.out; omega)
        dsimp only at hsame
        clear HR
        refine wp_stage (fun W => (W.cell? ⟨nb, 0, none⟩ = some (.slice pa S.pages.length ca) ∧ W.cell? ⟨nb, 1, none⟩ = some (.slice fa S.freed.length cfa) ∧ W.cell? ⟨nb, 2, none⟩ = some (.slice ra 4 cra)) ∧ W.cell? ⟨tb, 3, none⟩ = some (.pointer (some ⟨r, 0, none⟩)) ∧ W.cell? ⟨r, 2, none⟩ = some (.slice ap S.pages.length cp) ∧ W.cell? ⟨r, 3, none⟩ = some (.slice af S.freed.length cf) ∧ W.cell? ⟨r, 4, none⟩ = some (.slice ar 4 cr)) [(0, true), (1, true), (2, true), (3, true), (4, true), (5, true), (6, true), (7, true), (8, true), (9, true), (10, true)] 3 rfl (by kernel_rfl) (by intro c a dd v w h; cases dd <;> exact h) (S0.out) ?_
        iterate 11 (refine wpOrd_readw (v := _) rfl rfl (by intro w' hS; obtain ⟨⟨a1, a2, a3⟩, s1, s2, s3, s4⟩ := id hS; clear hS; go_simp; rfl) ?_; (try simp only [Act.put, List.setIfInBounds_toArray, List.set_cons_succ, List.set_cons_zero, List.getElem_toArray, List.getElem_cons_succ, List.getElem_cons_zero]))
        refine wpOrd_end ?_
        refine wp_stages_end 11 (by rfl) (by kernel_rfl) ?_
        simp only [List.drop_succ_cons, List.drop_zero]
        go_wp2_with (go_at_call 19; refine hsame.mono ?_; rintro e we ⟨bb, rfl, hbb, PB⟩; obtain rfl : bb = true := (by simpa using hbb); have H6 := hid ((St.quiet HD.out PB).drop.drop.pull 1 rfl); clear hsame S0 HD PB)
        go_roundw
        case rel => exact ⟨k + 1, E', by omega, HE2.out, by go_num, .inl ⟨S, d, x, r, tv, q, HQ.out, H6.out⟩⟩
        case measure => first | (simp [intOf]; done) | (simp [intOf]; omega)
      · as_aux_lemma =>
        have H2 := hid H2
        simp only [List.append_eq, List.cons_append, List.nil_append]
        refine wp_stages (by kernel_rfl) ?_
        have HD := hid (St.drew H2.out)
        generalize w2.drew = wd at *
        clear H2
        obtain ⟨v, -, -, HR⟩ := rfoP_open (HD.out.pull 2 rfl)
        obtain ⟨ap, cp, ep, -, -⟩ := (statP_read (HR.pull 1 rfl)).pages.shape
        obtain ⟨af, cf, ef, -, -⟩ := (statP_read (HR.pull 1 rfl)).freed.shape
        have S0 : Hid (wd.cell? ⟨tb, 1, none⟩ = some (.pointer (some ⟨x, 0, none⟩)) ∧ wd.cell? ⟨tb, 2, none⟩ = some (.pointer (some ⟨t, 0, none⟩)) ∧ wd.cell? ⟨tb, 3, none⟩ = some (.pointer (some ⟨r, 0, none⟩)) ∧ wd.cell? ⟨r, 2, none⟩ = some (.slice ap S.pages.length cp) ∧ wd.cell? ⟨r, 3, none⟩ = some (.slice af S.freed.length cf)) :=
          hid ⟨(HD.out.obj 0 rfl).cell 1, (HD.out.obj 0 rfl).cell 2, (HD.out.obj 0 rfl).cell 3, by rw [← ep]; exact (HR.obj 0 rfl).cell 2, by rw [← ef]; exact (HR.obj 0 rfl).cell 3⟩
        have hct := tp_count (HD.out.pull 1 rfl)
        clear HR ep ef
        refine wp_stage (fun W => W.cell? ⟨tb, 1, none⟩ = some (.pointer (some ⟨x, 0, none⟩)) ∧ W.cell? ⟨tb, 2, none⟩ = some (.pointer (some ⟨t, 0, none⟩)) ∧ W.cell? ⟨tb, 3, none⟩ = some (.pointer (some ⟨r, 0, none⟩)) ∧ W.cell? ⟨r, 2, none⟩ = some (.slice ap S.pages.length cp) ∧ W.cell? ⟨r, 3, none⟩ = some (.slice af S.freed.length cf)) [(0, true), (1, true), (2, true), (3, true), (5, true), (4, false)] 65 rfl (by kernel_rfl) (by intro c a dd v w h; cases dd <;> exact h) (S0.out) ?_
        iterate 5 (refine wpOrd_read (v := _) rfl rfl (by intro w' hS; obtain ⟨s1, s2, s3, s4, s5⟩ := id hS; clear hS; go_simp; rfl) ?_; (try simp only [Act.put, List.setIfInBounds_toArray, List.set_cons_succ, List.set_cons_zero, List.getElem_toArray, List.getElem_cons_succ, List.getElem_cons_zero]))
        refine wpOrd_do rfl rfl (fun K hK => ?_)
        go_simp
        refine hct.mono ?_
        rintro e w3 ⟨rfl, P3⟩
        have S1 : Hid (w3.cell? ⟨tb, 1, none⟩ = some (.pointer (some ⟨x, 0, none⟩)) ∧ w3.cell? ⟨tb, 2, none⟩ = some (.pointer (some ⟨t, 0, none⟩)) ∧ w3.cell? ⟨tb, 3, none⟩ = some (.pointer (some ⟨r, 0, none⟩)) ∧ w3.cell? ⟨r, 2, none⟩ = some (.slice ap S.pages.length cp) ∧ w3.cell? ⟨r, 3, none⟩ = some (.slice af S.freed.length cf)) :=
          hid ⟨P3.cell S0.out.1 (by simp), P3.cell S0.out.2.1 (by simp), P3.cell S0.out.2.2.1 (by simp), P3.cell S0.out.2.2.2.1 (by simp), P3.cell S0.out.2.2.2.2 (by simp)⟩
        have H3 := hid (HD.out.quiet P3)
        refine hK _ _ ⟨S1.out, ?_⟩
        clear hK K hct S0 HD P3
        (try simp only [Act.put, List.setIfInBounds_toArray, List.set_cons_succ, List.set_cons_zero, List.getElem_toArray, List.getElem_cons_succ, List.getElem_cons_zero])
        refine wpOrd_end ?_
        have hf := hid (tp_facts (H3.out.pull 1 rfl))
        obtain ⟨q5, h5, h6⟩ : ∃ q5 : Int, Calls Tryz.prog 29 #[(.pointer (some ⟨t, 0, none⟩)), .int .i64 (m5 : Int)] w3 (fun e w' => e = .returned (.int .i64 q5) ∧ w3 = w') ∧ Calls Tryz.prog 39 #[(.pointer (some ⟨r, 0, none⟩)), .int .i64 (m5 : Int)] w3 (fun e w' => e = .returned (.int .i64 q5) ∧ w3 = w') := by
          have h6 := rf_root (H3.out.pull 2 rfl) (m5 : Int)
          by_cases h4 : m5 < 4
          · rw [if_pos (by omega), Int.toNat_natCast] at h6
            exact ⟨_, tp_root (H3.out.pull 1 rfl) m5 h4, h6⟩
          · rw [if_neg (by omega)] at h6
            exact ⟨_, tp_root_bad (H3.out.pull 1 rfl) (m5 : Int) (by omega), h6⟩
        have HRT := hid (And.intro h5 h6)
        clear h5 h6
        obtain ⟨C5, hC5⟩ : ∃ C5, Hid (changes tk mk P = C5) := ⟨_, hid rfl⟩
        refine wp_stage (fun W => W.cell? ⟨tb, 1, none⟩ = some (.pointer (some ⟨x, 0, none⟩)) ∧ W.cell? ⟨tb, 2, none⟩ = some (.pointer (some ⟨t, 0, none⟩)) ∧ W.cell? ⟨tb, 3, none⟩ = some (.pointer (some ⟨r, 0, none⟩)) ∧ W.cell? ⟨r, 2, none⟩ = some (.slice ap S.pages.length cp) ∧ W.cell? ⟨r, 3, none⟩ = some (.slice af S.freed.length cf)) [(6, true), (7, true), (8, true), (9, true), (10, true), (11, true), (13, true), (14, true), (15, true), (16, true), (17, true), (18, true), (19, true), (20, true), (21, true), (12, false)] 49 rfl (by kernel_rfl) (by intro c a dd v w h; cases dd <;> exact h) (S1.out) ?_
        iterate 15 (refine wpOrd_readw (v := _) rfl rfl (by intro w' hS; obtain ⟨s1, s2, s3, s4, s5⟩ := id hS; clear hS; go_simp; rfl) ?_; (try simp only [Act.put, List.setIfInBounds_toArray, List.set_cons_succ, List.set_cons_zero, List.getElem_toArray, List.getElem_cons_succ, List.getElem_cons_zero]))
        refine wpOrd_dow rfl rfl (fun K hK => ?_)
        go_simp
        refine (tp_high (H3.out.pull 1 rfl)).mono ?_
        rintro e w4 ⟨rfl, rfl⟩
        refine hK _ _ ⟨S1.out, ?_⟩
        clear hK K
        (try simp only [Act.put, List.setIfInBounds_toArray, List.set_cons_succ, List.set_cons_zero, List.getElem_toArray, List.getElem_cons_succ, List.getElem_cons_zero])
        refine wpOrd_end ?_
        refine wp_stage (fun W => W.cell? ⟨tb, 1, none⟩ = some (.pointer (some ⟨x, 0, none⟩)) ∧ W.cell? ⟨tb, 2, none⟩ = some (.pointer (some ⟨t, 0, none⟩)) ∧ W.cell? ⟨tb, 3, none⟩ = some (.pointer (some ⟨r, 0, none⟩)) ∧ W.cell? ⟨r, 2, none⟩ = some (.slice ap S.pages.length cp) ∧ W.cell? ⟨r, 3, none⟩ = some (.slice af S.freed.length cf)) [(22, true), (23, true), (24, true), (25, true), (26, true), (27, true), (28, true), (30, true), (31, true), (32, true), (33, true), (34, true), (35, true), (36, true), (37, true), (38, true), (29, false)] 32 rfl (by kernel_rfl) (by intro c a dd v w h; cases dd <;> exact h) (S1.out) ?_
        iterate 16 (refine wpOrd_readw (v := _) rfl rfl (by intro w' hS; obtain ⟨s1, s2, s3, s4, s5⟩ := id hS; clear hS; go_simp; rfl) ?_; (try simp only [Act.put, List.setIfInBounds_toArray, List.set_cons_succ, List.set_cons_zero, List.getElem_toArray, List.getElem_cons_succ, List.getElem_cons_zero]))
        refine wpOrd_dow rfl rfl (fun K hK => ?_)
        go_simp
        refine (tp_frees (H3.out.pull 1 rfl)).mono ?_
        rintro e w4 ⟨rfl, rfl⟩
        refine hK _ _ ⟨S1.out, ?_⟩
        clear hK K
        (try simp only [Act.put, List.setIfInBounds_toArray, List.set_cons_succ, List.set_cons_zero, List.getElem_toArray, List.getElem_cons_succ, List.getElem_cons_zero])
        refine wpOrd_end ?_
        refine wp_stage (fun W => W.cell? ⟨tb, 1, none⟩ = some (.pointer (some ⟨x, 0, none⟩)) ∧ W.cell? ⟨tb, 2, none⟩ = some (.pointer (some ⟨t, 0, none⟩)) ∧ W.cell? ⟨tb, 3, none⟩ = some (.pointer (some ⟨r, 0, none⟩)) ∧ W.cell? ⟨r, 2, none⟩ = some (.slice ap S.pages.length cp) ∧ W.cell? ⟨r, 3, none⟩ = some (.slice af S.freed.length cf)) [(39, true), (40, true), (41, true), (42, true), (43, true), (44, true), (45, true), (47, true), (48, true), (49, true), (50, true), (46, false)] 20 rfl (by kernel_rfl) (by intro c a dd v w h; cases dd <;> exact h) (S1.out) ?_
        iterate 11 (refine wpOrd_readw (v := _) rfl rfl (by intro w' hS; obtain ⟨s1, s2, s3, s4, s5⟩ := id hS; clear hS; go_simp; rfl) ?_; (try simp only [Act.put, List.setIfInBounds_toArray, List.set_cons_succ, List.set_cons_zero, List.getElem_toArray, List.getElem_cons_succ, List.getElem_cons_zero]))
        refine wpOrd_dow rfl rfl (fun K hK => ?_)
        go_simp
        refine (tp_changed (H3.out.pull 1 rfl)).mono ?_
        rintro e w4 ⟨rfl, rfl⟩
        refine hK _ _ ⟨S1.out, ?_⟩
        clear hK K
        (try simp only [Act.put, List.setIfInBounds_toArray, List.set_cons_succ, List.set_cons_zero, List.getElem_toArray, List.getElem_cons_succ, List.getElem_cons_zero])
        refine wpOrd_end ?_
        refine wp_stage (fun W => W.cell? ⟨tb, 1, none⟩ = some (.pointer (some ⟨x, 0, none⟩)) ∧ W.cell? ⟨tb, 2, none⟩ = some (.pointer (some ⟨t, 0, none⟩)) ∧ W.cell? ⟨tb, 3, none⟩ = some (.pointer (some ⟨r, 0, none⟩)) ∧ W.cell? ⟨r, 2, none⟩ = some (.slice ap S.pages.length cp) ∧ W.cell? ⟨r, 3, none⟩ = some (.slice af S.freed.length cf)) [(51, false)] 19 rfl (by kernel_rfl) (by intro c a dd v w h; cases dd <;> exact h) (S1.out) ?_
        refine wpOrd_dow rfl rfl (fun K hK => ?_)
        go_simp
        refine (rf_changed (H3.out.pull 2 rfl) hf.out.2.1 hf.out.2.2.2.2.2.1 hf.out.1).mono ?_
        rintro e w4 ⟨rfl, rfl⟩
        refine hK _ _ ⟨S1.out, ?_⟩
        clear hK K
        (try simp only [Act.put, List.setIfInBounds_toArray, List.set_cons_succ, List.set_cons_zero, List.getElem_toArray, List.getElem_cons_succ, List.getElem_cons_zero])
        refine wpOrd_end ?_
        refine wp_stage (fun W => W.cell? ⟨tb, 1, none⟩ = some (.pointer (some ⟨x, 0, none⟩)) ∧ W.cell? ⟨tb, 2, none⟩ = some (.pointer (some ⟨t, 0, none⟩)) ∧ W.cell? ⟨tb, 3, none⟩ = some (.pointer (some ⟨r, 0, none⟩)) ∧ W.cell? ⟨r, 2, none⟩ = some (.slice ap S.pages.length cp) ∧ W.cell? ⟨r, 3, none⟩ = some (.slice af S.freed.length cf)) [(52, true), (53, true), (54, true), (55, true), (56, true), (57, true), (58, true), (59, true), (60, true), (62, true), (63, true), (64, true), (65, true), (66, true), (67, true), (61, false)] 3 rfl (by kernel_rfl) (by intro c a dd v w h; cases dd <;> exact h) (S1.out) ?_
        iterate 15 (refine wpOrd_readw (v := _) rfl rfl (by intro w' hS; obtain ⟨s1, s2, s3, s4, s5⟩ := id hS; clear hS; go_simp; rfl) ?_; (try simp only [Act.put, List.setIfInBounds_toArray, List.set_cons_succ, List.set_cons_zero, List.getElem_toArray, List.getElem_cons_succ, List.getElem_cons_zero]))
        refine wpOrd_dow rfl rfl (fun K hK => ?_)
        go_simp
        refine (HRT.out.1).mono ?_
        rintro e w4 ⟨rfl, rfl⟩
        refine hK _ _ ⟨S1.out, ?_⟩
        clear hK K
        (try simp only [Act.put, List.setIfInBounds_toArray, List.set_cons_succ, List.set_cons_zero, List.getElem_toArray, List.getElem_cons_succ, List.getElem_cons_zero])
        refine wpOrd_end ?_
        refine wp_stages_end 68 (by rfl) (by kernel_rfl) ?_
        simp only [List.drop_succ_cons, List.drop_zero]
        have h6 := HRT.out.2
        go_upto_region 12 with (go_at_call 39; refine h6.mono ?_; rintro e w4 ⟨rfl, rfl⟩)
        clear h6
        obtain ⟨v, -, -, HR⟩ := rfoP_open (H3.out.pull 2 rfl)
        have r5 : w3.cell? ⟨r, 5, none⟩ = some (.bool true) := (HR.obj 0 rfl).cell 5
        clear HR
        have c3 : w3.cell? ⟨tb, 3, none⟩ = some (.pointer (some ⟨r, 0, none⟩)) := (H3.out.obj 0 rfl).cell 3
        clear S1
        go_wp2_with fail
        go_roundw
        case rel => exact ⟨k + 1, E', by omega, HE2.out, by go_num, .inr ⟨S, T, tk, mk, sp, d, x, r, t, H3.out⟩⟩
        case measure => first | (simp [intOf]; done) | (simp [intOf]; omega)
    · have hwk := fun W (h : Pres [] w W) => pdb_works W (hh.pres h)
      have hpr : Pres [] w wr := by
        rcases HH.out with ⟨S, d, x, r, tv, q, -, h⟩ | ⟨S, T, tk, mk, sp, d, x, r, t, h⟩
        · exact h.pres
        · exact h.pres
      have HP := hid hpr
      clear hpr
      by_cases hlt1 : k < la.length
      · have hl1 : (k : Int) < (la.length : Int) := by omega
        have hl2 : ¬ (k : Int) < 50 := by omega
        clear hlt
        go_wp2_with (go_at_call 12; refine (hwk _ HP.out).mono ?_; rintro e wd ⟨rfl, PD⟩)
        go_ret
        exact ⟨rfl, HP.out.then PD⟩
      · have hl1 : ¬ (k : Int) < (la.length : Int) := by omega
        clear hlt
        go_wp2_with (go_at_call 12; refine (hwk _ HP.out).mono ?_; rintro e wd ⟨rfl, PD⟩)
        go_ret
        exact ⟨rfl, HP.out.then PD⟩

end Go.Proofs.YtnffnpndnaofhaaGreatDoor
