/- Parts of the proof: aquiferlaw10.whole: a state is what a transaction makes of another one; conditions stand in the theorem. -/
import Derived.Test.YtnffnpndnaofhaaGreatDoorQaw
import Derived.Test.YtnffnpndnaofhaaGreatDoorQat

/- aquiferlaw10.whole: a state is what a transaction makes of another one; conditions stand in the theorem. -/
namespace Go.Proofs.YtnffnpndnaofhaaGreatDoor
open Go.RowKit
set_option maxRecDepth 100000

theorem fill_cells {m : Meta} {v : Nat → Leaf} {S : PSt} {cnt : Nat} (V : Views m v S cnt) {k : Nat} (h1 : 1 ≤ k) (h : k < S.pages.length) :
    ∃ (k0 kd : Nat) (z : ByteArray) (f : Bool) (o : Option Leaf), S.pages[k]? = some o ∧ pageCells o = [.int .i64 (k0 : Int), .string z, .bool f] ∧ max (1 : Int) (k0 : Int) = (kd : Int) ∧ fillL S k = (kd, z.data.toList) ∧ 1 ≤ kd ∧ kd ≤ 254 ∧ z.size ≤ 500 := by
  obtain ⟨o, ho⟩ : ∃ o, S.pages[k]? = some o := ⟨_, List.getElem?_eq_getElem h⟩
  cases o with
  | none => exact ⟨0, 1, ⟨#[]⟩, true, none, ho, rfl, by omega, by unfold fillL; rw [ho], by omega, by omega, by decide⟩
  | some p =>
    obtain ⟨-, a, b, c⟩ := V.page k p h1 ho
    refine ⟨p.1, p.1, ⟨p.2.toArray⟩, false, some p, ho, rfl, by omega, by unfold fillL; rw [ho], a, b, ?_⟩
    rw [ba_size]
    exact c

theorem wr_there (S : PSt) {n k : Nat} (h1 : 1 ≤ k) (h : k < n) : (wrS S n k).there (k : Int) = 0 := by
  refine mkS_there h1 h ?_
  show (if k = 0 then some (0, []) else if k < k then some (fillL S k) else some (1, [])) ≠ none
  rw [if_neg (by omega), if_neg (by omega)]
  simp

theorem wr_put (S : PSt) {n k kd len : Nat} {l : List UInt8} (h1 : 1 ≤ k) (h : k < n) (hf : fillL S k = (kd, l)) (ha : 1 ≤ kd) (hb : kd ≤ 254) (hl : len ≤ 500) :
    (wrS S n k).writeE (k : Int) (kd : Int) len = 0 ∧ (wrS S n k).write k (kd, l) = wrS S n (k + 1) := by
  refine ⟨?_, by rw [← hf]; exact wr_write S n h1⟩
  unfold PSt.writeE
  rw [if_pos (wr_there S h1 h), if_neg (by omega), if_neg (by omega)]

theorem roots_get (S : PSt) {k : Nat} (h : k < 4) : ([S.r0, S.r1, S.r2, S.r3] : List Nat)[k]? = some (S.root k) := by
  obtain rfl | rfl | rfl | rfl : k = 0 ∨ k = 1 ∨ k = 2 ∨ k = 3 := by omega
  all_goals rfl

theorem root_small {m : Meta} {v : Nat → Leaf} {S : PSt} {cnt : Nat} (V : Views m v S cnt) {k : Nat} (h : k < 4) : S.root k < 2147483648 := by
  obtain rfl | rfl | rfl | rfl : k = 0 ∨ k = 1 ∨ k = 2 ∨ k = 3 := by omega
  · exact V.small0
  · exact V.small1
  · exact V.small2
  · exact V.small3

set_option maxHeartbeats 8000000 in
theorem law_whole (w : World) (hh : HalfAt w) (pn fn rn pw fw rw' : Value) (Sw : PSt) (a : ActD) (n : Int) (has : a.s.size ≤ maxLen) (hn : n.tmod 3 ≠ 0)
    (m : Meta) (v : Nat → Leaf) (V : Views m v Sw 12) (tk0 : Nat → Bool) (mk0 : Bool)
    (hnow : SlSt w pn fn rn (TS.chg ⟨Sw, tk0, mk0⟩ 12 a).T) (hwas : SlSt w pw fw rw' Sw) :
    Calls Tryz.prog 35 #[.agg #[pn, fn, rn], .agg #[pw, fw, rw'], .agg a.cells.toArray, .int .i64 n] w fun e w' => e = .returned (.bool true) ∧ Pres [] w w' := by
  obtain ⟨Tc, hTc⟩ : ∃ T, Hid ((TS.chg ⟨Sw, tk0, mk0⟩ 12 a).T = T) := ⟨_, hid rfl⟩
  rw [hTc.out] at hnow
  have HN := hid hnow
  have HW := hid hwas
  obtain ⟨apn, cpn, epn, -, -⟩ := hnow.pages.shape
  obtain ⟨afn, cfn, efn, -, -⟩ := hnow.freed.shape
  obtain ⟨arn, crn, ern, -, -⟩ := hnow.roots.shape
  obtain ⟨apw, cpw, epw, -, -⟩ := hwas.pages.shape
  obtain ⟨afw, cfw, efw, -, -⟩ := hwas.freed.shape
  obtain ⟨arw, crw, erw, -, -⟩ := hwas.roots.shape
  subst epn efn ern epw efw erw
  clear hnow hwas
  have HV := hid V
  obtain ⟨F, hF⟩ : ∃ F, Hid (Sw.freed.length = F) := ⟨_, hid rfl⟩
  have hF12 : F ≤ 12 := by have h1 := nodup_len _ _ V.nodup (fun a ha => (V.mem ha).2); have h2 := V.most; have h3 := hF.out; omega
  obtain ⟨L, hL⟩ : ∃ L, Hid (Sw.pages.length = L) := ⟨_, hid rfl⟩
  have hL1 : 1 ≤ L := by rw [← hL.out]; exact V.pos
  have hL2 : L ≤ 12 := by rw [← hL.out]; exact V.most
  obtain ⟨gp, cgp, curp, hgp, -⟩ := (hL.out ▸ HW.out.pages : Sl w 54 3 (.slice apw L cpw) L (Sw.pages.flatMap pageCells)).get (by omega)
  simp only [Value.slice.injEq] at hgp
  obtain ⟨rfl, -, rfl⟩ := hgp
  clear V
  have H0 := hid ((((St.start w).alloc [.slice apn Tc.pages.length cpn, .slice afn Tc.freed.length cfn, .slice arn 4 crn] 37).alloc [.slice (some ⟨gp, 0, none⟩) Sw.pages.length cpw, .slice afw Sw.freed.length cfw, .slice arw 4 crw] 37).alloc a.cells 46)
  simp only [ActD.cells] at H0
  rw [show (w.alloc (.cells [Value.slice apn Tc.pages.length cpn, .slice afn Tc.freed.length cfn, .slice arn 4 crn].toArray 37)).heap.size = w.heap.size + 1 by simp] at H0
  rw [show ((w.alloc (.cells [Value.slice apn Tc.pages.length cpn, .slice afn Tc.freed.length cfn, .slice arn 4 crn].toArray 37)).alloc (.cells [Value.slice (some ⟨gp, 0, none⟩) Sw.pages.length cpw, .slice afw Sw.freed.length cfw, .slice arw 4 crw].toArray 37)).heap.size = w.heap.size + 1 + 1 by simp] at H0
  have hn1 : (n.tmod 3 == 0) = false := by simpa using hn
  unfold ActD.cells
  go_enter Tryz.func35, Tryz.ntmps35
  go_upto_region 1 with fail
  rw [hL.out, hF.out] at H0 ⊢
  generalize w.heap.size + 1 + 1 = lb at *
  generalize w.heap.size + 1 = sb at *
  generalize w.heap.size = nb at *
  generalize (((w.alloc _).alloc _).alloc _) = w3 at *
  have hnew := sd_new H0.out 156 (by omega) (by omega)
  go_upto_region 2 with (go_at_call 9; refine hnew.mono ?_; rintro e w4 ⟨d, rfl, H4⟩)
  have H4 := coldP_new sh156 H4
  have hop := db_open hh H4 (by omega)
  rw [show ((60 : Nat) : Int) = 60 from rfl] at hop
  clear hnew H4
  go_upto_region 3 with (go_at_call 11; refine hop.mono ?_; rintro e w5 (⟨x, rfl, H5⟩ | ⟨h9, -⟩); rotate_left; · cases h9)
  have hbg := db_begin H5
  clear hop H5
  go_upto_region 6 with (go_at_call 15; refine hbg.mono ?_; rintro e w6 ⟨t, rfl, H6⟩)
  have H6 := hid H6
  clear hbg
  have a0 : w6.cell? ⟨sb, 0, none⟩ = some (.slice (some ⟨gp, 0, none⟩) L cpw) := (H6.out.obj 2 rfl).cell 0
  obtain ⟨L1, hL3⟩ : ∃ k : Nat, (L : Int) - 1 = (k : Int) := ⟨L - 1, by omega⟩
  go_wp2
  go_loopw [49] (fun iv wr => ∃ (k : Nat) (X : TS), k ≤ L1 ∧ iv = .int .i64 (k : Int) ∧ X.T = seedS (k + 1) ∧ St w wr (txP x d t 156 60 12 (0 + 1) false PSt.new X.T X.tk X.mark false :: [objP lb [.int .i64 a.kind, .int .i64 a.pid, .int .i64 a.kd, .string a.s, a.kv] 46, objP sb [.slice (some ⟨gp, 0, none⟩) L cpw, .slice afw F cfw, .slice arw 4 crw] 37, objP nb [.slice apn Tc.pages.length cpn, .slice afn Tc.freed.length cfn, .slice arn 4 crn] 37])) (fun iv _ => L1 - (intOf iv).toNat)
  case atStart => exact ⟨0, ⟨PSt.new, fun _ => false, false⟩, Nat.zero_le _, rfl, seed_one, H6.out⟩
  case round =>
    obtain ⟨k, X, hk, rfl, hXT, hS⟩ := hrel
    clear H6 a0
    have HH := hid hS
    clear hS
    by_cases hlt : k < L1
    · have hl1 : (k : Int) < (L1 : Int) := by omega
      have hal := tp_alloc hh HH.out
      rw [hXT, seed_alloc (by omega) (by omega)] at hal
      dsimp only at hal
      simp only [if_true] at hal
      clear hXT
      go_wp2_with (go_at_call 21; refine hal.mono ?_; rintro e w7 ⟨rfl, H7⟩)
      go_roundw
      case rel => exact ⟨k + 1, ⟨seedS (k + 1 + 1), tchK X.tk (k + 1), true⟩, by omega, by go_num, rfl, H7⟩
      case measure => first | (simp [intOf]; done) | (simp [intOf]; omega)
    · obtain rfl : k = L1 := by omega
      have hl1 : ¬ (k : Int) < (k : Int) := by omega
      rw [show seedS (k + 1) = wrS Sw L 1 by rw [show k + 1 = L by omega]; exact wr_one Sw L] at hXT
      have HX := hid hXT
      clear hXT hlt
      have a0 : wr.cell? ⟨sb, 0, none⟩ = some (.slice (some ⟨gp, 0, none⟩) L cpw) := (HH.out.obj 2 rfl).cell 0
      go_wp2
      go_loopw [15] (fun iv wr => ∃ (i : Nat) (X : TS), 1 ≤ i ∧ i ≤ L ∧ iv = .int .i64 (i : Int) ∧ X.T = wrS Sw L i ∧ St w wr (txP x d t 156 60 12 (0 + 1) false PSt.new X.T X.tk X.mark false :: [objP lb [.int .i64 a.kind, .int .i64 a.pid, .int .i64 a.kd, .string a.s, a.kv] 46, objP sb [.slice (some ⟨gp, 0, none⟩) L cpw, .slice afw F cfw, .slice arw 4 crw] 37, objP nb [.slice apn Tc.pages.length cpn, .slice afn Tc.freed.length cfn, .slice arn 4 crn] 37])) (fun iv _ => L - (intOf iv).toNat)
      case atStart => exact ⟨1, X, Nat.le_refl _, hL1, rfl, HX.out, HH.out⟩
      case round =>
        clear HH HX a0
        obtain ⟨i, X, hi1, hi, rfl, hXT, hS⟩ := hrel
        have HH := hid hS
        clear hS
        have a0 : wr.cell? ⟨sb, 0, none⟩ = some (.slice (some ⟨gp, 0, none⟩) L cpw) := (HH.out.obj 2 rfl).cell 0
        by_cases hlt : i < L
        · have hl1 : (i : Int) < (L : Int) := by omega
          obtain ⟨k0, kd, z, f, o, ho, ecs, hmx, hfl, hk1, hk2, hz⟩ := fill_cells HV.out hi1 (by rw [hL.out]; exact hlt)
          have hcs := pages_cell ((hL.out ▸ HW.out.pages : Sl w 54 3 (.slice (some ⟨gp, 0, none⟩) L cpw) L (Sw.pages.flatMap pageCells)).pres HH.out.pres (by simp)) ho
          rw [ecs] at hcs
          have c0 : wr.cell? ⟨gp, i * 3 + 0, none⟩ = some (.int .i64 (k0 : Int)) := hcs 0 _ rfl
          have c1 : wr.cell? ⟨gp, i * 3 + 1, none⟩ = some (.string z) := hcs 1 _ rfl
          rw [Nat.add_zero] at c0
          obtain ⟨hE, hput⟩ := wr_put Sw hi1 hlt hfl hk1 hk2 hz
          have HD := hid (St.drew HH.out)
          have S0 : wr.drew.cell? ⟨sb, 0, none⟩ = some (.slice (some ⟨gp, 0, none⟩) L cpw) ∧ wr.drew.cell? ⟨gp, i * 3, none⟩ = some (.int .i64 (k0 : Int)) ∧ wr.drew.cell? ⟨gp, i * 3 + 1, none⟩ = some (.string z) := ⟨a0, c0, c1⟩
          have S0 := hid S0
          have HF := hid (And.intro hE hput)
          clear hcs ecs ho hfl hE hput hz c0 c1
          go_upto_region 13 with fail
          refine wp_stages (by kernel_rfl) ?_
          clear a0 HH
          generalize wr.drew = wd at *
          refine wp_stage (fun W => W.cell? ⟨sb, 0, none⟩ = some (.slice (some ⟨gp, 0, none⟩) L cpw) ∧ W.cell? ⟨gp, i * 3, none⟩ = some (.int .i64 (k0 : Int)) ∧ W.cell? ⟨gp, i * 3 + 1, none⟩ = some (.string z)) [(0, true), (1, true), (2, true), (3, true), (4, true), (5, true), (6, true), (7, true), (8, true), (9, true), (10, true), (11, true), (12, true), (13, true), (14, true)] 1 rfl (by kernel_rfl) (by intro c a dd v w h; cases dd <;> exact h) (S0.out) ?_
          iterate 15 (refine wpOrd_read (v := _) rfl rfl (by intro w' hS; obtain ⟨s1, s2, s3⟩ := id hS; clear hS; go_simp; rfl) ?_; (try simp only [Act.put, List.setIfInBounds_toArray, List.set_cons_succ, List.set_cons_zero, List.getElem_toArray, List.getElem_cons_succ, List.getElem_cons_zero]))
          refine wpOrd_end ?_
          refine wp_stages_end 15 (by rfl) (by kernel_rfl) ?_
          simp only [List.drop_succ_cons, List.drop_zero]
          have hwr := tp_write hh HD.out (i : Int) (kd : Int) (by omega) z
          rw [hXT, HF.out.1] at hwr
          simp only [if_true, Int.toNat_natCast] at hwr
          rw [HF.out.2] at hwr
          clear hXT HF S0
          go_wp2_with (go_at_call 22; refine hwr.mono ?_; rintro e w7 ⟨rfl, H7⟩)
          go_roundw
          case rel => exact ⟨i + 1, ⟨wrS Sw L (i + 1), tchK X.tk i, X.mark⟩, by omega, by omega, by go_num, rfl, H7⟩
          case measure => first | (simp [intOf]; done) | (simp [intOf]; omega)
        · obtain rfl : L = i := by omega
          have hl1 : ¬ (L : Int) < (L : Int) := by omega
          rw [fr_zero] at hXT
          have HX := hid hXT
          clear hXT hlt
          have a1 : wr.cell? ⟨sb, 1, none⟩ = some (.slice afw F cfw) := (HH.out.obj 2 rfl).cell 1
          go_wp2
          go_loopw [80] (fun iv wr => ∃ (k : Nat) (X : TS), k ≤ F ∧ iv = .int .i64 (k : Int) ∧ X.T = frS Sw L k ∧ St w wr (txP x d t 156 60 12 (0 + 1) false PSt.new X.T X.tk X.mark false :: [objP lb [.int .i64 a.kind, .int .i64 a.pid, .int .i64 a.kd, .string a.s, a.kv] 46, objP sb [.slice (some ⟨gp, 0, none⟩) L cpw, .slice afw F cfw, .slice arw 4 crw] 37, objP nb [.slice apn Tc.pages.length cpn, .slice afn Tc.freed.length cfn, .slice arn 4 crn] 37])) (fun iv _ => F - (intOf iv).toNat)
          case atStart => exact ⟨0, X, Nat.zero_le _, rfl, HX.out, HH.out⟩
          case round =>
            clear HH HX a0 a1
            obtain ⟨k, X, hk, rfl, hXT, hS⟩ := hrel
            have HH := hid hS
            clear hS
            by_cases hlt : k < F
            · have hl1 : (k : Int) < (F : Int) := by omega
              obtain ⟨b, hb⟩ : ∃ b, Sw.freed[k]? = some b := ⟨_, List.getElem?_eq_getElem (by rw [hF.out]; exact hlt)⟩
              have hbm := List.mem_of_getElem? hb
              have hb1 : b < L := by rw [← hL.out]; exact (HV.out.mem hbm).2
              have hb2 : 1 ≤ b := (HV.out.mem hbm).1
              have hsl : Sl wr 3 1 (.slice afw F cfw) F (Sw.freed.map numV) := (hF.out ▸ HW.out.freed : Sl w 3 1 (.slice afw F cfw) F (Sw.freed.map numV)).pres HH.out.pres (by simp)
              obtain ⟨gf, cgf, curf, hgf, -⟩ := hsl.get (by omega)
              simp only [Value.slice.injEq] at hgf
              obtain ⟨rfl, -, rfl⟩ := hgf
              have c0 := nums_cell hsl hb
              have hfr := tp_free hh HH.out (b : Int) (by omega)
              rw [hXT, fr_there Sw L HV.out.nodup hb hb2 hb1] at hfr
              simp only [if_true, Int.toNat_natCast] at hfr
              rw [fr_free Sw L hb] at hfr
              clear hsl hb hbm hXT
              go_wp2_with (go_at_call 28; refine hfr.mono ?_; rintro e w7 ⟨rfl, H7⟩)
              go_roundw
              case rel => exact ⟨k + 1, ⟨frS Sw L (k + 1), tchK X.tk b, true⟩, by omega, by go_num, rfl, H7⟩
              case measure => first | (simp [intOf]; done) | (simp [intOf]; omega)
            · obtain rfl : F = k := by omega
              have hl1 : ¬ (F : Int) < (F : Int) := by omega
              have HX := hid hXT
              clear hXT hlt
              go_wp2
              obtain ⟨gr, cgr, curr, hgr, -⟩ := HW.out.roots.get (by omega)
              simp only [Value.slice.injEq] at hgr
              obtain ⟨rfl, -, rfl⟩ := hgr
              go_loopw [88] (fun iv wr => ∃ (k : Nat) (X : TS), k ≤ 4 ∧ iv = .int .i64 (k : Int) ∧ X.T = rtS Sw (frS Sw L F) k ∧ St w wr (txP x d t 156 60 12 (0 + 1) false PSt.new X.T X.tk X.mark false :: [objP lb [.int .i64 a.kind, .int .i64 a.pid, .int .i64 a.kd, .string a.s, a.kv] 46, objP sb [.slice (some ⟨gp, 0, none⟩) L cpw, .slice afw F cfw, .slice (some ⟨gr, 0, none⟩) 4 crw] 37, objP nb [.slice apn Tc.pages.length cpn, .slice afn Tc.freed.length cfn, .slice arn 4 crn] 37])) (fun iv _ => 4 - (intOf iv).toNat)
              case atStart => exact ⟨0, X, Nat.zero_le _, rfl, by rw [HX.out]; exact rt_zero _ _, HH.out⟩
              case round =>
                clear HH HX
                obtain ⟨k, X, hk, rfl, hXT, hS⟩ := hrel
                have HH := hid hS
                clear hS
                by_cases hlt : k < 4
                · have hl1 : (k : Int) < 4 := by omega
                  have hsl : Sl wr 3 1 (.slice (some ⟨gr, 0, none⟩) 4 crw) 4 ([Sw.r0, Sw.r1, Sw.r2, Sw.r3].map numV) := HW.out.roots.pres HH.out.pres (by simp)
                  have c0 := nums_cell hsl (roots_get Sw hlt)
                  have a2 : wr.cell? ⟨sb, 2, none⟩ = some (.slice (some ⟨gr, 0, none⟩) 4 crw) := (HH.out.obj 2 rfl).cell 2
                  have hsr := tp_setroot HH.out k (Sw.root k) hlt (root_small HV.out hlt)
                  rw [hXT, rt_set Sw _ hlt] at hsr
                  clear hsl hXT
                  generalize Sw.root k = rk at *
                  go_wp2_with (go_at_call 30; refine hsr.mono ?_; rintro e w7 ⟨rfl, H7⟩)
                  go_roundw
                  case rel => exact ⟨k + 1, ⟨rtS Sw (frS Sw L F) (k + 1), X.tk, true⟩, by omega, by go_num, rfl, H7⟩
                  case measure => first | (simp [intOf]; done) | (simp [intOf]; omega)
                · obtain rfl : k = 4 := by omega
                  have hl1 : ¬ ((4 : Nat) : Int) < 4 := by omega
                  rw [← hL.out, ← hF.out, fr_all Sw HV.out] at hXT
                  have hch := law_change hh X a has HH.out
                  rw [← chg_T ⟨Sw, tk0, mk0⟩ X hXT.symm 12 a, hTc.out] at hch
                  clear hXT hlt
                  generalize (X.chg 12 a).tk = tkc at *
                  generalize (X.chg 12 a).mark = mkc at *
                  unfold ActD.cells at hch
                  have c0 : wr.cell? ⟨lb, 0, none⟩ = some (.int .i64 a.kind) := (HH.out.obj 1 rfl).cell 0
                  have c1 : wr.cell? ⟨lb, 1, none⟩ = some (.int .i64 a.pid) := (HH.out.obj 1 rfl).cell 1
                  have c2 : wr.cell? ⟨lb, 2, none⟩ = some (.int .i64 a.kd) := (HH.out.obj 1 rfl).cell 2
                  have c3 : wr.cell? ⟨lb, 3, none⟩ = some (.string a.s) := (HH.out.obj 1 rfl).cell 3
                  have c4 : wr.cell? ⟨lb, 4, none⟩ = some a.kv := (HH.out.obj 1 rfl).cell 4
                  go_upto_region 25 with (go_at_call 16; refine hch.mono ?_; rintro e w8 ⟨rfl, H8⟩)
                  have H8 := hid H8
                  clear hch HH c0 c1 c2 c3 c4
                  obtain ⟨R, hR⟩ : ∃ R : List HP, Hid ([objP lb [.int .i64 a.kind, .int .i64 a.pid, .int .i64 a.kd, .string a.s, a.kv] 46, objP sb [.slice (some ⟨gp, 0, none⟩) L cpw, .slice afw F cfw, .slice (some ⟨gr, 0, none⟩) 4 crw] 37, objP nb [.slice apn Tc.pages.length cpn, .slice afn Tc.freed.length cfn, .slice arn 4 crn] 37] = R) := ⟨_, hid rfl⟩
                  have H8 : St w w8 (txP x d t 156 60 12 (0 + 1) false PSt.new Tc tkc mkc false :: R) := by rw [← hR.out]; exact H8.out
                  have H8 := hid H8
                  have A2 := At.new w8 [.int .i64 0, .string ⟨#[]⟩, .bool false] 54
                  have H2 := hid (H8.out.slice (v := .slice (some ⟨w8.heap.size, 0, none⟩) 1 1) (E := 54) (sz := 3) (n := 1) (xs := [.int .i64 0, .string ⟨#[]⟩, .bool false]) ⟨rfl, .inr ⟨_, 1, _, rfl, A2, Nat.le_refl _, by simp [maxLen], rfl, rfl⟩⟩ ((Pres.refl [] w8).alloc _) (by simp [fpv]))
                  have hr := fun W (hW : St w W (txP x d t 156 60 12 (0 + 1) false PSt.new Tc tkc mkc false :: slP (.slice (some ⟨w8.heap.size, 0, none⟩) 1 1) 54 3 1 [.int .i64 0, .string ⟨#[]⟩, .bool false] :: R)) =>
                    (show (Calls Tryz.prog 29 #[.pointer (some ⟨t, 0, none⟩), .int .i64 0] W fun e w' => e = .returned (.int .i64 (Tc.r0 : Int)) ∧ W = w') ∧ (Calls Tryz.prog 29 #[.pointer (some ⟨t, 0, none⟩), .int .i64 1] W fun e w' => e = .returned (.int .i64 (Tc.r1 : Int)) ∧ W = w') ∧ (Calls Tryz.prog 29 #[.pointer (some ⟨t, 0, none⟩), .int .i64 2] W fun e w' => e = .returned (.int .i64 (Tc.r2 : Int)) ∧ W = w') ∧ (Calls Tryz.prog 29 #[.pointer (some ⟨t, 0, none⟩), .int .i64 3] W fun e w' => e = .returned (.int .i64 (Tc.r3 : Int)) ∧ W = w') from
                      ⟨tp_root hW 0 (by omega), tp_root hW 1 (by omega), tp_root hW 2 (by omega), tp_root hW 3 (by omega)⟩)
                  have H2 := hid (H2.out.pull 1 rfl)
                  have hr := hr _ H2.out
                  go_wp2_with ((with_reducible refine at_slit ?_); refine wpList_plain rfl fun K hK => wp_value (run_slit_one (n := 3) (v := .agg #[.int .i64 0, .string ⟨#[]⟩, .bool false]) rfl rfl Tryz.underlying34 page_size page_zero rfl (by omega) (by omega) rfl) (hK _ _ ?_); clear hK K)
                  refine hr.1.mono ?_
                  rintro e wr2 ⟨rfl, rfl⟩
                  go_wp2_with fail
                  refine hr.2.1.mono ?_
                  rintro e wr2 ⟨rfl, rfl⟩
                  go_wp2_with fail
                  refine hr.2.2.1.mono ?_
                  rintro e wr2 ⟨rfl, rfl⟩
                  go_wp2_with fail
                  refine hr.2.2.2.mono ?_
                  rintro e wr2 ⟨rfl, rfl⟩
                  clear hr H8 A2
                  generalize w8.heap.size = pb at *
                  generalize (w8.alloc _) = w9 at *
                  go_upto_region 26 with fail
                  have H3 := hid ((((H2.out.alloc [numV Tc.r0, numV Tc.r1, numV Tc.r2, numV Tc.r3] 3).see (q := slP (.slice (some ⟨w9.heap.size, 0, none⟩) 4 4) 3 1 4 [numV Tc.r0, numV Tc.r1, numV Tc.r2, numV Tc.r3]) (by
                    rintro fp ⟨rfl, hA⟩
                    exact ⟨rfl, rfl, .inr ⟨_, 4, _, rfl, hA, Nat.le_refl _, by simp [maxLen], rfl, rfl⟩⟩)).alloc [.slice (some ⟨pb, 0, none⟩) 1 1, .slice none 0 0, .slice (some ⟨w9.heap.size, 0, none⟩) 4 4] 37))
                  rw [show (w9.alloc (.cells [numV Tc.r0, numV Tc.r1, numV Tc.r2, numV Tc.r3].toArray 3)).heap.size = w9.heap.size + 1 by simp] at H3
                  simp only [numV] at H3
                  generalize w9.heap.size + 1 = ss at *
                  generalize (Value.slice (some ⟨w9.heap.size, 0, none⟩) 4 4) = rv at *
                  generalize ((w9.alloc _).alloc _) = wa at *
                  clear H2
                  obtain ⟨LT, hLT⟩ : ∃ LT, Hid (Tc.pages.length = LT) := ⟨_, hid rfl⟩
                  obtain ⟨X3, hx1, hx2, HX3⟩ := txP_open ((H3.out.pull 2 rfl))
                  have hLT1 : 1 ≤ LT := by rw [← hLT.out]; exact hx2.views.pos
                  have hLT2 : LT ≤ 12 := by rw [← hLT.out]; exact hx2.views.most
                  have HVT := hid hx2.views
                  clear HX3 hx1 hx2
                  obtain ⟨nf, hi', hz', hs2, hb2⟩ := info_page
                  have HI := hid (And.intro hi' (And.intro hz' (And.intro hs2 hb2)))
                  clear hi' hz' hs2 hb2
                  have HM : ∃ pv fv, St w wa (txP x d t 156 60 12 (0 + 1) false PSt.new Tc tkc mkc false :: objP ss [pv, fv, rv] 37 :: slP pv 54 3 1 ((Tc.pages.take 1).flatMap pageCells) :: slP fv 3 1 (frees Tc 1).length ((frees Tc 1).map numV) :: slP rv 3 1 4 [numV Tc.r0, numV Tc.r1, numV Tc.r2, numV Tc.r3] :: R) := by
                    refine ⟨.slice (some ⟨pb, 0, none⟩) 1 1, .slice none 0 0, ?_⟩
                    have e : (Tc.pages.take 1).flatMap pageCells = [.int .i64 0, .string ⟨#[]⟩, .bool false] := by
                      rw [List.take_add_one, List.take_zero, HVT.out.zero]
                      rfl
                    have e2 : frees Tc 1 = [] := by
                      rw [frees_not (k := 0) (by rw [HVT.out.zero]; simp)]
                      rfl
                    rw [e, e2]
                    exact (((((H3.out.nil 3 1).pull 2 rfl).pull 1 rfl).pull 4 rfl).pull 3 rfl).pull 4 rfl
                  have HM := hid HM
                  clear H3
                  go_wp2
                  go_loopw [20] (fun iv wr => ∃ (k : Nat), 1 ≤ k ∧ k ≤ LT ∧ iv = .int .i64 (k : Int) ∧ ∃ pv fv, St w wr (txP x d t 156 60 12 (0 + 1) false PSt.new Tc tkc mkc false :: objP ss [pv, fv, rv] 37 :: slP pv 54 3 k ((Tc.pages.take k).flatMap pageCells) :: slP fv 3 1 (frees Tc k).length ((frees Tc k).map numV) :: slP rv 3 1 4 [numV Tc.r0, numV Tc.r1, numV Tc.r2, numV Tc.r3] :: R)) (fun iv _ => LT - (intOf iv).toNat)
                  case atStart => exact ⟨1, Nat.le_refl _, hLT1, rfl, HM.out⟩
                  case round =>
                    clear HM
                    obtain ⟨k, hk1, hk, rfl, pv, fv, hS⟩ := hrel
                    have HH := hid hS
                    clear hS
                    by_cases hlt : k < LT
                    · have hl1 : (k : Int) < 12 := by omega
                      obtain ⟨o, ho⟩ : ∃ o, Tc.pages[k]? = some o := ⟨_, List.getElem?_eq_getElem (by have := hLT.out; omega)⟩
                      have HO := hid ho
                      have hrd := tp_read hh HH.out (k : Int) (by omega)
                      cases o with
                      | some p =>
                        obtain ⟨q1, q2⟩ := there_some hk1 ho
                        obtain ⟨pk, pl⟩ := p
                        obtain ⟨z, hz, ez, -⟩ := str_z pl
                        have ecs : pageCells (some (pk, pl)) = [.int .i64 (pk : Int), .string z, .bool false] := by simp only [pageCells]; rw [ez]
                        have ECS := hid ecs
                        rw [q1, q2] at hrd
                        simp only [if_true] at hrd
                        rw [ez] at hrd
                        clear q1 q2 ez hz ho ecs
                        go_wp2_with (first
                          | (go_at_call 18; refine hrd.mono ?_; rintro e w6 ⟨rfl, H6⟩; have H6 := hid H6; clear hrd HH
                             have c0 := (H6.out.obj 1 rfl).cell 0; have f0 := (H6.out.obj 1 rfl).frozen 0; have hlt0 := (H6.out.obj 1 rfl).lt; simp only [List.getElem?_cons_zero] at c0
                             have A7 := At.new w6 [.int .i64 (pk : Int), .string z, .bool false] 54
                             have H7 := hid (H6.out.quiet ((Pres.refl [] w6).alloc (.cells [.int .i64 (pk : Int), .string z, .bool false].toArray 54)))
                             have hsl := H7.out.sl 2 rfl)
                          | ((with_reducible refine at_slit ?_); refine wpList_plain rfl fun K hK => wp_value (run_slit_one (n := 3) (v := .agg #[.int .i64 (pk : Int), .string z, .bool false]) rfl rfl Tryz.underlying34 page_size page_zero rfl (by omega) (by omega) rfl) (hK _ _ ?_); clear hK K)
                          | ((with_reducible refine at_append ?_); go_must (refine wpL_app rfl (.tmp 129) (.tmp 135) 34 34 rfl 54 nf _ 3 Tryz.underlying34 HI.out.1 HI.out.2.1 HI.out.2.2.1 rfl _ k _ rfl hsl 1 [.int .i64 (pk : Int), .string z, .bool false] (Src.at Tryz.underlying34 A7 rfl (by simp [Value.oneCell'])) (by simp only [maxLen]; omega) (by rw [HI.out.2.2.2]; omega) ?_); intro v8 w8 Y1 Y2 Y3; have H8 := hid (H7.out.grow 2 rfl Y1 Y2 Y3); obtain ⟨ao8, cap8, rfl, -, -⟩ := Y1.shape; have f8 := (H8.out.obj 1 rfl).frozen 0; have c8 := (H8.out.obj 1 rfl).cell 0; have l8 := (H8.out.obj 1 rfl).lt; simp only [List.getElem?_cons_zero] at c8; clear Y1 Y2 Y3 hsl A7 f0 c0 hlt0))
                        go_roundw
                        case rel =>
                          refine ⟨k + 1, by omega, by omega, by go_num, .slice ao8 (k + 1) cap8, fv, ?_⟩
                          rw [List.take_add_one, HO.out, Option.toList_some, List.flatMap_append, List.flatMap_cons, List.flatMap_nil, List.append_nil, ECS.out, frees_not (k := k) (by rw [HO.out]; simp)]
                          exact H8.out.set 1 rfl 0 (.slice ao8 (k + 1) cap8)
                        case measure => first | (simp [intOf]; done) | (simp [intOf]; omega)
                      | none =>
                        have q1 := there_none hk1 ho
                        rw [q1] at hrd
                        simp only [show ¬ ((8 : Int) = 0) by decide, if_false] at hrd
                        rw [show strV [] = .string ⟨#[]⟩ from rfl] at hrd
                        clear q1 ho
                        go_upto_region 32 with (first
                          | (go_at_call 18; refine hrd.mono ?_; rintro e w6 ⟨rfl, H6⟩; have H6 := hid H6; clear hrd HH
                             have c0 := (H6.out.obj 1 rfl).cell 0; have f0 := (H6.out.obj 1 rfl).frozen 0; have hlt0 := (H6.out.obj 1 rfl).lt; simp only [List.getElem?_cons_zero] at c0
                             have A7 := At.new w6 [.int .i64 0, .string ⟨#[]⟩, .bool true] 54
                             have H7 := hid (H6.out.quiet ((Pres.refl [] w6).alloc (.cells [.int .i64 0, .string ⟨#[]⟩, .bool true].toArray 54)))
                             have hsl := H7.out.sl 2 rfl)
                          | ((with_reducible refine at_slit ?_); refine wpList_plain rfl fun K hK => wp_value (run_slit_one (n := 3) (v := .agg #[.int .i64 0, .string ⟨#[]⟩, .bool true]) rfl rfl Tryz.underlying34 page_size page_zero rfl (by omega) (by omega) rfl) (hK _ _ ?_); clear hK K)
                          | ((with_reducible refine at_append ?_); go_must (refine wpL_app rfl (.tmp 129) (.tmp 135) 34 34 rfl 54 nf _ 3 Tryz.underlying34 HI.out.1 HI.out.2.1 HI.out.2.2.1 rfl _ k _ rfl hsl 1 [.int .i64 0, .string ⟨#[]⟩, .bool true] (Src.at Tryz.underlying34 A7 rfl (by simp [Value.oneCell'])) (by simp only [maxLen]; omega) (by rw [HI.out.2.2.2]; omega) ?_); intro v8 w8 Y1 Y2 Y3; have H8 := hid (H7.out.grow 2 rfl Y1 Y2 Y3); obtain ⟨ao8, cap8, rfl, -, -⟩ := Y1.shape; have f8 := (H8.out.obj 1 rfl).frozen 0; have c8 := (H8.out.obj 1 rfl).cell 0; have l8 := (H8.out.obj 1 rfl).lt; simp only [List.getElem?_cons_zero] at c8; clear Y1 Y2 Y3 hsl A7 f0 c0 hlt0))
                        have H9 := hid (H8.out.set 1 rfl 0 (.slice ao8 (k + 1) cap8))
                        generalize (w8.setCell _ _) = wc at *
                        clear H8 H7 f8 c8 l8
                        have c1 : wc.cell? ⟨ss, 1, none⟩ = some fv := (H9.out.obj 1 rfl).cell 1
                        have f1 := (H9.out.obj 1 rfl).frozen 1
                        have l1 := (H9.out.obj 1 rfl).lt
                        obtain ⟨afv, cfv, rfl, -, -⟩ := (H9.out.sl 3 rfl).shape
                        have A9 := At.new wc [.int .i64 (k : Int)] 3
                        have HB := hid (H9.out.quiet ((Pres.refl [] wc).alloc (.cells [.int .i64 (k : Int)].toArray 3)))
                        have hfv := HB.out.sl 3 rfl
                        have hfl : (frees Tc k).length ≤ k := by
                          have := List.length_filter_le (fun j => decide (Tc.pages[j]? = some none)) (List.range k)
                          rw [List.length_range] at this
                          exact this
                        obtain ⟨ni, ji', jz', js2, jb2⟩ := info_intS
                        have HJ := hid (And.intro ji' (And.intro jz' (And.intro js2 jb2)))
                        clear ji' jz' js2 jb2
                        go_wp2_with ((with_reducible refine at_append ?_); go_must (refine wpL_app rfl (.tmp 141) (.tmp 143) 35 35 rfl 3 ni _ 1 Tryz.underlying35 HJ.out.1 HJ.out.2.1 HJ.out.2.2.1 rfl _ (frees Tc k).length _ rfl hfv 1 [.int .i64 (k : Int)] (Src.at Tryz.underlying35 A9 rfl (by simp [Value.oneCell'])) (by simp only [maxLen]; omega) (by rw [HJ.out.2.2.2]; omega) ?_); intro v9 wd Y1 Y2 Y3; have HC := hid (HB.out.grow 3 rfl Y1 Y2 Y3); obtain ⟨ao9, cap9, rfl, -, -⟩ := Y1.shape; have f9 := (HC.out.obj 1 rfl).frozen 1; have c9 := (HC.out.obj 1 rfl).cell 1; have l9 := (HC.out.obj 1 rfl).lt; simp only [List.set_cons_zero, List.getElem?_cons_succ, List.getElem?_cons_zero] at c9; clear Y1 Y2 Y3 hfv A9 f1 c1 l1)
                        go_roundw
                        case rel =>
                          refine ⟨k + 1, by omega, by omega, by go_num, .slice ao8 (k + 1) cap8, .slice ao9 ((frees Tc k).length + 1) cap9, ?_⟩
                          rw [List.take_add_one, HO.out, Option.toList_some, List.flatMap_append, List.flatMap_cons, List.flatMap_nil, List.append_nil, frees_free (k := k) HO.out, List.map_append, List.length_append]
                          exact HC.out.set 1 rfl 1 (.slice ao9 ((frees Tc k).length + 1) cap9)
                        case measure => first | (simp [intOf]; done) | (simp [intOf]; omega)
                    · obtain rfl : LT = k := by omega
                      have hfe : (frees Tc LT).length = Tc.freed.length := by rw [← hLT.out]; exact frees_len HVT.out
                      have H5 := HH.out
                      rw [← hR.out, hfe] at H5
                      have H5 := hid H5
                      have HFE := hid hfe
                      clear HH hfe hlt
                      obtain ⟨afv, cfv, rfl, -, -⟩ := (H5.out.sl 3 rfl).shape
                      by_cases h12 : LT < 12
                      · have hl1 : (LT : Int) < 12 := by omega
                        have q1 : Tc.there (LT : Int) = 2 := by
                          unfold PSt.there
                          rw [if_pos (.inr (by rw [hLT.out]; omega))]
                        have hrd := tp_read hh H5.out (LT : Int) (by omega)
                        rw [q1] at hrd
                        simp only [show ¬ ((2 : Int) = 0) by decide, if_false] at hrd
                        clear q1
                        go_upto_region 34 with (go_at_call 18; refine hrd.mono ?_; rintro e w6 ⟨rfl, H6⟩)
                        have H6 := hid H6
                        have c1 : w6.cell? ⟨ss, 1, none⟩ = some (.slice afv Tc.freed.length cfv) := (H6.out.obj 1 rfl).cell 1
                        have n1 : w6.cell? ⟨nb, 1, none⟩ = some (.slice afn Tc.freed.length cfn) := (H6.out.obj 7 rfl).cell 1
                        have f1 := (H6.out.obj 1 rfl).frozen 1
                        have l1 := (H6.out.obj 1 rfl).lt
                        have H7 := hid (H6.out.set 1 rfl 1 (.slice afn Tc.freed.length cfn))
                        go_upto_region 37 with fail
                        clear c1 n1 f1 l1 H6 H5
                        generalize (w6.setCell _ _) = w7 at *
                        have H7 := hid H7.out
                        have hf12 : Tc.freed.length ≤ 1000000 := by have h1 := nodup_len _ _ HVT.out.nodup (fun a ha => (HVT.out.mem ha).2); have h2 := HVT.out.most; omega
                        have hsame := same_call w7 pv (.slice afn Tc.freed.length cfn) rv (.slice apn Tc.pages.length cpn) (.slice afn Tc.freed.length cfn) (.slice arn 4 crn) Tc Tc ⟨by have h := H7.out.sl 2 rfl; rw [← hLT.out, List.take_length] at h; exact h, (HN.out.pres H7.out.pres).freed, H7.out.sl 4 rfl⟩ (HN.out.pres H7.out.pres) (by have := HVT.out.most; omega) hf12
                        have c0 : w7.cell? ⟨ss, 0, none⟩ = some pv := (H7.out.obj 1 rfl).cell 0
                        have c1 : w7.cell? ⟨ss, 1, none⟩ = some (.slice afn Tc.freed.length cfn) := (H7.out.obj 1 rfl).cell 1
                        have c2 : w7.cell? ⟨ss, 2, none⟩ = some rv := (H7.out.obj 1 rfl).cell 2
                        have d0 : w7.cell? ⟨nb, 0, none⟩ = some (.slice apn Tc.pages.length cpn) := (H7.out.obj 7 rfl).cell 0
                        have d1 : w7.cell? ⟨nb, 1, none⟩ = some (.slice afn Tc.freed.length cfn) := (H7.out.obj 7 rfl).cell 1
                        have d2 : w7.cell? ⟨nb, 2, none⟩ = some (.slice arn 4 crn) := (H7.out.obj 7 rfl).cell 2
                        go_wp2_with (go_at_call 19; refine hsame.mono ?_; rintro e wz ⟨bb, rfl, hbb, PB⟩; obtain rfl : bb = true := (by simpa using hbb))
                        go_ret
                        exact ⟨rfl, H7.out.pres.then PB⟩
                      · have hl1 : ¬ (LT : Int) < 12 := by omega
                        go_upto_region 34 with fail
                        have H6 := hid H5.out
                        have c1 : wr.cell? ⟨ss, 1, none⟩ = some (.slice afv Tc.freed.length cfv) := (H6.out.obj 1 rfl).cell 1
                        have n1 : wr.cell? ⟨nb, 1, none⟩ = some (.slice afn Tc.freed.length cfn) := (H6.out.obj 7 rfl).cell 1
                        have f1 := (H6.out.obj 1 rfl).frozen 1
                        have l1 := (H6.out.obj 1 rfl).lt
                        have H7 := hid (H6.out.set 1 rfl 1 (.slice afn Tc.freed.length cfn))
                        go_upto_region 37 with fail
                        clear c1 n1 f1 l1 H6 H5
                        generalize (wr.setCell _ _) = w7 at *
                        have H7 := hid H7.out
                        have hf12 : Tc.freed.length ≤ 1000000 := by have h1 := nodup_len _ _ HVT.out.nodup (fun a ha => (HVT.out.mem ha).2); have h2 := HVT.out.most; omega
                        have hsame := same_call w7 pv (.slice afn Tc.freed.length cfn) rv (.slice apn Tc.pages.length cpn) (.slice afn Tc.freed.length cfn) (.slice arn 4 crn) Tc Tc ⟨by have h := H7.out.sl 2 rfl; rw [← hLT.out, List.take_length] at h; exact h, (HN.out.pres H7.out.pres).freed, H7.out.sl 4 rfl⟩ (HN.out.pres H7.out.pres) (by have := HVT.out.most; omega) hf12
                        have c0 : w7.cell? ⟨ss, 0, none⟩ = some pv := (H7.out.obj 1 rfl).cell 0
                        have c1 : w7.cell? ⟨ss, 1, none⟩ = some (.slice afn Tc.freed.length cfn) := (H7.out.obj 1 rfl).cell 1
                        have c2 : w7.cell? ⟨ss, 2, none⟩ = some rv := (H7.out.obj 1 rfl).cell 2
                        have d0 : w7.cell? ⟨nb, 0, none⟩ = some (.slice apn Tc.pages.length cpn) := (H7.out.obj 7 rfl).cell 0
                        have d1 : w7.cell? ⟨nb, 1, none⟩ = some (.slice afn Tc.freed.length cfn) := (H7.out.obj 7 rfl).cell 1
                        have d2 : w7.cell? ⟨nb, 2, none⟩ = some (.slice arn 4 crn) := (H7.out.obj 7 rfl).cell 2
                        go_wp2_with (go_at_call 19; refine hsame.mono ?_; rintro e wz ⟨bb, rfl, hbb, PB⟩; obtain rfl : bb = true := (by simpa using hbb))
                        go_ret
                        exact ⟨rfl, H7.out.pres.then PB⟩

end Go.Proofs.YtnffnpndnaofhaaGreatDoor

/- A database and the power: Arm, Down, Off, On, Checkpoint, in the document's words; conditions stand in the theorems. -/
namespace Go.Proofs.YtnffnpndnaofhaaGreatDoor
open Go.RowKit
set_option maxRecDepth 100000

theorem Up.arm {σ : Dk} {N : Nat} (u : Up σ N) (n : Int) : σ.arm n = (0, { σ with armed := decide (0 ≤ n), left := max n 0 }) := by
  unfold Dk.arm
  rw [u.down]
  rfl

theorem Up.armed {σ : Dk} {N : Nat} (u : Up σ N) {n : Int} (hn : n ≤ 9223372036854775807) : Up { σ with armed := decide (0 ≤ n), left := max n 0 } N := by
  have h := Dk.arm_ok u.ok hn
  rw [u.arm n] at h
  exact ⟨h, u.down, u.len⟩

section
variable {w0 w : World} {ps : List HP} {x d t N log cnt E : Nat} {arm : Bool} {S T : PSt}

theorem DbOk.armed {D : DbD} (h : DbOk N log cnt E arm S D) {n : Int} (hn : n ≤ 9223372036854775807) : DbOk N log cnt E (decide (0 ≤ n)) S { D with σ := { D.σ with armed := decide (0 ≤ n), left := max n 0 } } := by
  obtain ⟨rs, h1, h2⟩ := h.rest.lg
  exact ⟨⟨⟨h.rest.sh, h.rest.up.armed hn, ⟨rs, h1, h2⟩, h.rest.pages⟩, h.rest.room⟩, h.view, rfl⟩

theorem tp_arm {tk : Nat → Bool} {mk spoilt : Bool} (H : St w0 w (txP x d t N log cnt E arm S T tk mk spoilt :: ps)) (n : Int) (hb : n ≤ 9223372036854775807) :
    Calls Tryz.prog 32 #[.pointer (some ⟨d, 0, none⟩), .int .i64 n] w fun e w' => e = .returned (.int .i64 0) ∧ St w0 w' (txP x d t N log cnt E (decide (0 ≤ n)) S T tk mk spoilt :: ps) := by
  obtain ⟨X, h1, h2, HX⟩ := txP_open H
  have ha := sd_arm (HX.pull 2 rfl) n hb
  rw [h1.rest.up.arm] at ha
  refine ha.mono ?_
  rintro en w' ⟨rfl, H2⟩
  exact ⟨rfl, txP_mk { X with D := { X.D with σ := { X.D.σ with armed := decide (0 ≤ n), left := max n 0 } } } (h1.armed hb) ⟨h2.views, h2.seen, h2.ids, h2.clean, h2.none, h2.touch, h2.mark, h2.high, h2.nodup, h2.keys⟩ ((H2.pull 2 rfl).pull 2 rfl)⟩

theorem cold_arm (H : St w0 w (coldP d N log cnt E arm S :: ps)) (n : Int) (hb : n ≤ 9223372036854775807) :
    Calls Tryz.prog 32 #[.pointer (some ⟨d, 0, none⟩), .int .i64 n] w fun e w' => e = .returned (.int .i64 0) ∧ St w0 w' (coldP d N log cnt E (decide (0 ≤ n)) S :: ps) := by
  obtain ⟨σ, H⟩ := H.ex
  obtain ⟨⟨P, m, v, C, V, -⟩, H⟩ := H.fact
  have ha := sd_arm H n hb
  rw [C.up.arm] at ha
  refine ha.mono ?_
  rintro en w' ⟨rfl, H2⟩
  obtain ⟨l, rs, h1, h2⟩ := C.lg
  exact ⟨rfl, St.any (F := fun σ : Dk => ifP (∃ P m v, Cold N log cnt E P σ ∧ PgView cnt P m v S ∧ σ.armed = decide (0 ≤ n)) (diskP d σ)) { σ with armed := decide (0 ≤ n), left := max n 0 } (H2.with ⟨P, m, v, ⟨C.sh, C.up.armed hb, ⟨l, rs, h1, h2⟩, C.room⟩, V, rfl⟩)⟩

theorem db_down (H : St w0 w (dbP x d N log cnt E arm S :: ps)) : Calls Tryz.prog 33 #[.pointer (some ⟨d, 0, none⟩)] w fun e w' => e = .returned (.bool false) ∧ w = w' := by
  obtain ⟨D, h, H1⟩ := dbP_open H
  have hd := sd_down (H1.pull 1 rfl)
  rw [h.rest.up.down] at hd
  exact hd

theorem dark_down {Q : PSt → Prop} (H : St w0 w (darkP d N log cnt E Q :: ps)) : Calls Tryz.prog 33 #[.pointer (some ⟨d, 0, none⟩)] w fun e w' => e = .returned (.bool true) ∧ w = w' := by
  obtain ⟨σ, H⟩ := H.ex
  obtain ⟨⟨h, -⟩, H1⟩ := H.fact
  have hd := sd_down H1
  rw [h.down] at hd
  exact hd

theorem db_off (H : St w0 w (dbP x d N log cnt E arm S :: ps)) : Calls Tryz.prog 10 #[.pointer (some ⟨d, 0, none⟩)] w fun e w' => e = .returned (.int .i64 0) ∧ St w0 w' (darkP d N log cnt E (fun s => s = S) :: ps) := by
  obtain ⟨D, h, H1⟩ := dbP_open H
  have ho := sd_off (H1.pull 1 rfl)
  obtain ⟨e1, e2, e3⟩ := h.rest.up.off h.rest.crash
  rw [e1] at ho
  refine ho.mono ?_
  rintro en w' ⟨rfl, H2⟩
  have H3 := (H2.pull 1 rfl).drop.pull 1 rfl |>.drop
  exact ⟨rfl, St.any (F := fun σ : Dk => ifP (Dn σ N ∧ Crash σ (fun img => ∃ P m v S', S' = S ∧ RecI log cnt E P img ∧ PgView cnt P m v S')) (diskP d σ)) _ (H3.with ⟨e2, e3.mono (fun img hi => ⟨D.P, D.m, D.v, S, rfl, hi, h.view⟩)⟩)⟩

theorem dark_on {Q : PSt → Prop} (sh : Shape N log cnt) (H : St w0 w (darkP d N log cnt E Q :: ps)) {v : Value} {keep : List Bool} (hs : Safe w0 ps v (keep.map Value.bool)) :
    Calls Tryz.prog 34 #[.pointer (some ⟨d, 0, none⟩), v] w fun e w' => e = .returned (.int .i64 0) ∧ ∃ S', Q S' ∧ St w0 w' (coldP d N log cnt E false S' :: ps) := by
  obtain ⟨σ, H⟩ := H.ex
  obtain ⟨⟨hd, hc⟩, H1⟩ := H.fact
  have ho := sd_on H1 hs
  obtain ⟨e1, e2, e3, e4, ⟨P, m, v', S', hQ, hR, hV⟩, -⟩ := hd.on hc keep
  rw [e1] at ho
  refine ho.mono ?_
  rintro en w' ⟨rfl, H2⟩
  exact ⟨rfl, S', hQ, St.any (F := fun σ : Dk => ifP (∃ P m v, Cold N log cnt E P σ ∧ PgView cnt P m v S' ∧ σ.armed = false) (diskP d σ)) _ (H2.with ⟨P, m, v', Cold.of_rec sh e2 e4 hR, hV, e3⟩)⟩

theorem db_checkpoint (hh : HalfAt w0) (H : St w0 w (dbP x d N log cnt E arm S :: ps)) (hE : E < 1000000) :
    Calls Tryz.prog 23 #[.pointer (some ⟨x, 0, none⟩)] w fun e w' =>
      (e = .returned (.int .i64 0) ∧ St w0 w' (dbP x d N log cnt (E + 1) arm S :: ps)) ∨ (arm = true ∧ e = .returned (.int .i64 10) ∧ St w0 w' (darkP d N log cnt (E + 1) (fun s => s = S) :: ps)) := by
  obtain ⟨D, h, H1⟩ := dbP_open H
  refine (pd_checkpoint hh ((H1.pull 2 rfl).pull 1 rfl) h.rest.up.down (by have := h.rest.room; omega)).mono ?_
  rintro en w' ⟨rfl, H2⟩
  rcases settle_run h.rest.toRest0 (by omega) with ⟨s1, s2, s3, s4, s5⟩ | ⟨s0, s1, s2, s3⟩
  · rw [s1] at H2 ⊢
    refine .inl ⟨rfl, dbP_mk ⟨D.b, D.m, (settleB D.l D.σ).2.1, (settleB D.l D.σ).2.2, D.P, D.v⟩ ⟨⟨s2, ?_⟩, h.view, by rw [← h.arm]; exact s4⟩ ((H2.pull 2 rfl).pull 1 rfl)⟩
    rcases s5 with s5 | ⟨-, s5⟩
    · simp only []; rw [s5]; simp
    · simp only []; rw [s5]; exact h.rest.room
  · rw [s1] at H2 ⊢
    have H3 := H2.drop.drop
    exact .inr ⟨by rw [← h.arm]; exact s0, rfl, St.any (F := fun σ : Dk => ifP (Dn σ N ∧ Crash σ (fun img => ∃ P m v S', S' = S ∧ RecI log cnt (E + 1) P img ∧ PgView cnt P m v S')) (diskP d σ)) _ (H3.with ⟨s2, s3.mono (fun img hi => ⟨D.P, D.m, D.v, S, rfl, hi, h.view⟩)⟩)⟩
end

end Go.Proofs.YtnffnpndnaofhaaGreatDoor
