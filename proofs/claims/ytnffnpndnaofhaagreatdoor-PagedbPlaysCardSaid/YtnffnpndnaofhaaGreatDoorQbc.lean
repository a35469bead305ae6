/- Parts of the proof: aquiferref10.Same: are two states alike; conditions stand in the theorem. -/
import Derived.Test.YtnffnpndnaofhaaGreatDoorQba
import Derived.Test.YtnffnpndnaofhaaGreatDoorQab
import Derived.Test.YtnffnpndnaofhaaGreatDoorChecked

/- aquiferref10.Same: are two states alike; conditions stand in the theorem. -/
namespace Go.Proofs.YtnffnpndnaofhaaGreatDoor
open Go.RowKit
set_option maxRecDepth 100000

theorem pst_eq {a b : PSt} (h1 : a.pages = b.pages) (h2 : a.freed = b.freed) (h3 : a.r0 = b.r0) (h4 : a.r1 = b.r1) (h5 : a.r2 = b.r2) (h6 : a.r3 = b.r3) : a = b := by
  cases a
  cases b
  simp only at h1 h2 h3 h4 h5 h6
  subst h1 h2 h3 h4 h5 h6
  rfl

theorem nums_cell {w : World} {g n cap : Nat} {l : List Nat} (h : Sl w 3 1 (.slice (some ⟨g, 0, none⟩) n cap) n (l.map numV)) {i x : Nat} (hx : l[i]? = some x) : w.cell? ⟨g, i, none⟩ = some (.int .i64 (x : Int)) :=
  sl_cells h (by rw [List.getElem?_map, hx]; rfl)

set_option maxHeartbeats 16000000 in
theorem same_call (w : World) (pa fa ra pb fb rb : Value) (Sa Sb : PSt) (ha : SlSt w pa fa ra Sa) (hb : SlSt w pb fb rb Sb) (hla : Sa.pages.length ≤ 1000000) (hfa : Sa.freed.length ≤ 1000000) :
    Calls Tryz.prog 19 #[.agg #[pa, fa, ra], .agg #[pb, fb, rb]] w fun e w' => ∃ b, e = .returned (.bool b) ∧ (b = true ↔ Sa = Sb) ∧ Pres [] w w' := by
  obtain ⟨Post, hPost⟩ : ∃ Post : Ending → World → Prop, Hid (Post = fun e w' => ∃ b, e = .returned (.bool b) ∧ (b = true ↔ Sa = Sb) ∧ Pres [] w w') := ⟨_, hid rfl⟩
  rw [← hPost.out]
  have hno : ∀ w', ¬ Sa = Sb → Pres [] w w' → Post (.returned (.bool false)) w' := fun w' h hp => by rw [hPost.out]; exact ⟨false, rfl, by simp [h], hp⟩
  have hyes : ∀ w', Sa = Sb → Pres [] w w' → Post (.returned (.bool true)) w' := fun w' h hp => by rw [hPost.out]; exact ⟨true, rfl, by simp [h], hp⟩
  have HE := hid (And.intro hno hyes)
  have HA := hid ha
  have HB := hid hb
  obtain ⟨apa, cpa, epa, -, -⟩ := ha.pages.shape
  obtain ⟨afa, cfa, efa, -, -⟩ := ha.freed.shape
  obtain ⟨ara, cra, era, -, -⟩ := ha.roots.shape
  obtain ⟨apb, cpb, epb, -, -⟩ := hb.pages.shape
  obtain ⟨afb, cfb, efb, -, -⟩ := hb.freed.shape
  obtain ⟨arb, crb, erb, -, -⟩ := hb.roots.shape
  obtain ⟨na, hna⟩ : ∃ n, Hid (Sa.pages.length = n) := ⟨_, hid rfl⟩
  obtain ⟨nb, hnb⟩ : ∃ n, Hid (Sb.pages.length = n) := ⟨_, hid rfl⟩
  obtain ⟨ma, hma⟩ : ∃ n, Hid (Sa.freed.length = n) := ⟨_, hid rfl⟩
  obtain ⟨mb, hmb⟩ : ∃ n, Hid (Sb.freed.length = n) := ⟨_, hid rfl⟩
  rw [hna.out] at epa hla
  rw [hnb.out] at epb
  rw [hma.out] at efa hfa
  rw [hmb.out] at efb
  clear ha hb hno hyes
  subst epa efa era epb efb erb
  have H0 := hid (((St.start w).alloc [.slice apa na cpa, .slice afa ma cfa, .slice ara 4 cra] 37).alloc [.slice apb nb cpb, .slice afb mb cfb, .slice arb 4 crb] 37)
  rw [show (w.alloc (.cells [.slice apa na cpa, .slice afa ma cfa, .slice ara 4 cra].toArray 37)).heap.size = w.heap.size + 1 by simp] at H0
  go_enter Tryz.func19, Tryz.ntmps19
  go_upto_region 1 with fail
  generalize w.heap.size + 1 = b2 at *
  generalize w.heap.size = b1 at *
  generalize ((w.alloc _).alloc _) = w1 at *
  have H0 := hid (show St w w1 [objP b2 [.slice apb nb cpb, .slice afb mb cfb, .slice arb 4 crb] 37, objP b1 [.slice apa na cpa, .slice afa ma cfa, .slice ara 4 cra] 37] from H0.out)
  have a0 := (H0.out.obj 1 rfl).cell 0
  have a1 := (H0.out.obj 1 rfl).cell 1
  have b0 := (H0.out.obj 0 rfl).cell 0
  have b1' := (H0.out.obj 0 rfl).cell 1
  simp only [List.getElem?_cons_succ, List.getElem?_cons_zero] at a0 a1 b0 b1'
  by_cases hn : na = nb
  · subst hn
    have e1 : ((na : Int) == (na : Int)) = true := by simp
    by_cases hm : ma = mb
    · subst hm
      have e2 : ((ma : Int) == (ma : Int)) = true := by simp
      clear a0 a1 b0 b1'
      have a0 := (H0.out.obj 1 rfl).cell 0
      have a1 := (H0.out.obj 1 rfl).cell 1
      have b0 := (H0.out.obj 0 rfl).cell 0
      have b1' := (H0.out.obj 0 rfl).cell 1
      simp only [List.getElem?_cons_succ, List.getElem?_cons_zero] at a0 a1 b0 b1'
      go_upto_region 3 with fail
      clear a0 a1 b0 b1' e1 e2
      go_wp2
      go_loopw [5] (fun iv wr => ∃ i : Nat, i ≤ na ∧ iv = .int .i64 (i : Int) ∧ (∀ j, j < i → Sa.pages[j]? = Sb.pages[j]?) ∧ St w wr [objP b2 [.slice apb na cpb, .slice afb ma cfb, .slice arb 4 crb] 37, objP b1 [.slice apa na cpa, .slice afa ma cfa, .slice ara 4 cra] 37]) (fun iv _ => na - (intOf iv).toNat)
      case atStart => exact ⟨0, Nat.zero_le _, rfl, by simp, H0.out⟩
      case round =>
        obtain ⟨i, hi, rfl, hsame, hS⟩ := hrel
        clear H0
        have HS := hid hS
        have HQ := hid hsame
        clear hS hsame
        have a0 := (HS.out.obj 1 rfl).cell 0
        have b0 := (HS.out.obj 0 rfl).cell 0
        simp only [List.getElem?_cons_zero] at a0 b0
        by_cases hlt : i < na
        · have hlt' : (i : Int) < (na : Int) := by omega
          obtain ⟨oa, hoa⟩ : ∃ o, Sa.pages[i]? = some o := ⟨_, List.getElem?_eq_getElem (by have := hna.out; omega)⟩
          obtain ⟨ob, hob⟩ : ∃ o, Sb.pages[i]? = some o := ⟨_, List.getElem?_eq_getElem (by have := hnb.out; omega)⟩
          have hpa := HA.out.pages.pres HS.out.pres (by simp)
          have hpb := HB.out.pages.pres HS.out.pres (by simp)
          rw [hna.out] at hpa
          rw [hnb.out] at hpb
          obtain ⟨ga, cga, cura, ea, -⟩ := hpa.get (by omega)
          obtain ⟨gb, cgb, curb, eb, -⟩ := hpb.get (by omega)
          simp only [Value.slice.injEq] at ea eb
          obtain ⟨rfl, -, rfl⟩ := ea
          obtain ⟨rfl, -, rfl⟩ := eb
          have ca := pages_cell hpa hoa
          have cb := pages_cell hpb hob
          obtain ⟨ka, za, fa', epa⟩ := pageCells_three oa
          obtain ⟨kb, zb, fb', epb⟩ := pageCells_three ob
          rw [epa] at ca
          rw [epb] at cb
          obtain ⟨q, hq⟩ : ∃ q, Hid ((decide ((ka : Int) = (kb : Int)) && (za == zb) && decide (fa' = fb')) = q) := ⟨_, hid rfl⟩
          have hneq := fun W => page_neq W (ka : Int) (kb : Int) za zb fa' fb' q hq.out
          have HO := hid (And.intro hoa (And.intro hob (And.intro epa epb)))
          clear hpa hpb hoa hob epa epb
          go_upto_region 6 with fail
          refine wp_stages (by kernel_rfl) ?_
          have HS2 := hid HS.out.drew
          have S0 : wr.drew.cell? ⟨b1, 0, none⟩ = some (.slice (some ⟨ga, 0, none⟩) na cpa) ∧ wr.drew.cell? ⟨b2, 0, none⟩ = some (.slice (some ⟨gb, 0, none⟩) na cpb) ∧ (∀ (j : Nat) (v : Value), [Value.int .i64 (ka : Int), .string za, .bool fa'][j]? = some v → wr.drew.cell? ⟨ga, i * 3 + j, none⟩ = some v) ∧ (∀ (j : Nat) (v : Value), [Value.int .i64 (kb : Int), .string zb, .bool fb'][j]? = some v → wr.drew.cell? ⟨gb, i * 3 + j, none⟩ = some v) := ⟨a0, b0, ca, cb⟩
          clear HS a0 b0 ca cb
          generalize wr.drew = wd at *
          refine wp_stage (fun W => W.cell? ⟨b1, 0, none⟩ = some (.slice (some ⟨ga, 0, none⟩) na cpa) ∧ W.cell? ⟨b2, 0, none⟩ = some (.slice (some ⟨gb, 0, none⟩) na cpb) ∧ (∀ (j : Nat) (v : Value), [Value.int .i64 (ka : Int), .string za, .bool fa'][j]? = some v → W.cell? ⟨ga, i * 3 + j, none⟩ = some v) ∧ (∀ (j : Nat) (v : Value), [Value.int .i64 (kb : Int), .string zb, .bool fb'][j]? = some v → W.cell? ⟨gb, i * 3 + j, none⟩ = some v)) [(0, true), (1, true), (2, true), (3, true), (4, true), (5, true), (6, true), (7, true), (8, true), (9, true)] 1 rfl (by kernel_rfl) (by intro c a dd v w h; cases dd <;> exact h) (S0) ?_
          iterate 4 (refine wpOrd_read (v := _) rfl rfl (by intro w' hS; obtain ⟨s1, s2, -, -⟩ := id hS; clear hS; go_simp; rfl) ?_; (try simp only [Act.put, List.setIfInBounds_toArray, List.set_cons_succ, List.set_cons_zero, List.getElem_toArray, List.getElem_cons_succ, List.getElem_cons_zero]))
          refine wpOrd_read (v := _) rfl rfl (by intro w' hS; obtain ⟨-, -, s3, -⟩ := id hS; exact run_loadc 54 (.tmp 34) rfl ga (i * 3) rfl [.int .i64 (ka : Int), .string za, .bool fa'] page_agg page_size s3) ?_
          (try simp only [Act.put, List.setIfInBounds_toArray, List.set_cons_succ, List.set_cons_zero, List.getElem_toArray, List.getElem_cons_succ, List.getElem_cons_zero])
          iterate 4 (refine wpOrd_read (v := _) rfl rfl (by intro w' hS; obtain ⟨s1, s2, -, -⟩ := id hS; clear hS; go_simp; rfl) ?_; (try simp only [Act.put, List.setIfInBounds_toArray, List.set_cons_succ, List.set_cons_zero, List.getElem_toArray, List.getElem_cons_succ, List.getElem_cons_zero]))
          refine wpOrd_read (v := _) rfl rfl (by intro w' hS; obtain ⟨-, -, -, s4⟩ := id hS; exact run_loadc 54 (.tmp 39) rfl gb (i * 3) rfl [.int .i64 (kb : Int), .string zb, .bool fb'] page_agg page_size s4) ?_
          (try simp only [Act.put, List.setIfInBounds_toArray, List.set_cons_succ, List.set_cons_zero, List.getElem_toArray, List.getElem_cons_succ, List.getElem_cons_zero])
          refine wpOrd_end ?_
          refine wp_stages_end 10 (by rfl) (by kernel_rfl) ?_
          simp only [List.drop_succ_cons, List.drop_zero]
          clear S0
          cases hqq : q
          · rw [hqq] at hneq hq
            go_wp2
            refine HE.out.1 _ (fun h => ?_) HS2.out.pres
            have h1 := HO.out.1
            rw [h] at h1
            have h2 : oa = ob := Option.some.inj (h1.symm.trans HO.out.2.1)
            have h3 := HO.out.2.2.1
            rw [h2, HO.out.2.2.2] at h3
            simp only [List.cons.injEq, Value.int.injEq, true_and, Value.string.injEq, Value.bool.injEq, and_true] at h3
            have h4 := hq.out
            rw [h3.1, h3.2.1, h3.2.2] at h4
            simp [(ba_beq za za).2 rfl] at h4
          · rw [hqq] at hneq hq
            go_wp2
            go_roundw
            case rel =>
              refine ⟨i + 1, by omega, by go_num, fun j hj => ?_, HS2.out⟩
              by_cases hji : j = i
              · subst hji
                rw [HO.out.1, HO.out.2.1]
                have h4 := hq.out
                simp only [Bool.and_eq_true, decide_eq_true_eq] at h4
                obtain ⟨⟨h5, h6⟩, h7⟩ := h4
                have h8 : oa = ob := pageCells_inj (by rw [HO.out.2.2.1, HO.out.2.2.2, h5, (ba_beq _ _).1 h6, h7])
                rw [h8]
              · exact HQ.out j (by omega)
            case measure => first | (simp [intOf]; done) | (simp [intOf]; omega)
        · obtain rfl : na = i := by omega
          have hend : ¬ (na : Int) < (na : Int) := by omega
          have HPg : Hid (Sa.pages = Sb.pages) := hid (List.ext_getElem? fun j => by
            by_cases hj : j < na
            · exact HQ.out j hj
            · rw [List.getElem?_eq_none (by have := hna.out; omega), List.getElem?_eq_none (by have := hnb.out; omega)])
          clear HQ
          have a1 := (HS.out.obj 1 rfl).cell 1
          have b1' := (HS.out.obj 0 rfl).cell 1
          simp only [List.getElem?_cons_succ, List.getElem?_cons_zero] at a1 b1'
          go_wp2
          clear a0 b0 a1 b1'
          go_loopw [6] (fun iv wr => ∃ i : Nat, i ≤ ma ∧ iv = .int .i64 (i : Int) ∧ (∀ j, j < i → Sa.freed[j]? = Sb.freed[j]?) ∧ St w wr [objP b2 [.slice apb na cpb, .slice afb ma cfb, .slice arb 4 crb] 37, objP b1 [.slice apa na cpa, .slice afa ma cfa, .slice ara 4 cra] 37]) (fun iv _ => ma - (intOf iv).toNat)
          case atStart => exact ⟨0, Nat.zero_le _, rfl, by simp, HS.out⟩
          case round =>
            obtain ⟨i, hi, rfl, hsame, hS⟩ := hrel
            clear HS
            have HS := hid hS
            have HQ := hid hsame
            clear hS hsame
            have a0 := (HS.out.obj 1 rfl).cell 1
            have b0 := (HS.out.obj 0 rfl).cell 1
            simp only [List.getElem?_cons_succ, List.getElem?_cons_zero] at a0 b0
            by_cases hlt : i < ma
            · have hlt' : (i : Int) < (ma : Int) := by omega
              obtain ⟨xa, hxa⟩ : ∃ x, Sa.freed[i]? = some x := ⟨_, List.getElem?_eq_getElem (by have := hma.out; omega)⟩
              obtain ⟨xb, hxb⟩ : ∃ x, Sb.freed[i]? = some x := ⟨_, List.getElem?_eq_getElem (by have := hmb.out; omega)⟩
              have hpa := (by have h := HA.out.freed.pres HS.out.pres (by simp); rw [hma.out] at h; exact h)
              have hpb := (by have h := HB.out.freed.pres HS.out.pres (by simp); rw [hmb.out] at h; exact h)
              obtain ⟨ga, cga, cura, ea, -⟩ := hpa.get (by omega)
              obtain ⟨gb, cgb, curb, eb, -⟩ := hpb.get (by omega)
              simp only [Value.slice.injEq] at ea eb
              obtain ⟨rfl, -, rfl⟩ := ea
              obtain ⟨rfl, -, rfl⟩ := eb
              have ca := nums_cell hpa hxa
              have cb := nums_cell hpb hxb
              have HO := hid (And.intro hxa hxb)
              clear hpa hpb hxa hxb
              go_upto_region 11 with fail
              refine wp_stages (by kernel_rfl) ?_
              have HS2 := hid HS.out.drew
              have S0 : wr.drew.cell? ⟨b1, 1, none⟩ = some (.slice (some ⟨ga, 0, none⟩) ma cfa) ∧ wr.drew.cell? ⟨b2, 1, none⟩ = some (.slice (some ⟨gb, 0, none⟩) ma cfb) ∧ wr.drew.cell? ⟨ga, i, none⟩ = some (.int .i64 (xa : Int)) ∧ wr.drew.cell? ⟨gb, i, none⟩ = some (.int .i64 (xb : Int)) := ⟨a0, b0, ca, cb⟩
              clear HS a0 b0 ca cb
              generalize wr.drew = wd at *
              refine wp_stage (fun W => W.cell? ⟨b1, 1, none⟩ = some (.slice (some ⟨ga, 0, none⟩) ma cfa) ∧ W.cell? ⟨b2, 1, none⟩ = some (.slice (some ⟨gb, 0, none⟩) ma cfb) ∧ W.cell? ⟨ga, i, none⟩ = some (.int .i64 (xa : Int)) ∧ W.cell? ⟨gb, i, none⟩ = some (.int .i64 (xb : Int))) [(0, true), (1, true), (2, true), (3, true), (4, true), (5, true), (6, true), (7, true), (8, true), (9, true)] 1 rfl (by kernel_rfl) (by intro c a dd v w h; cases dd <;> exact h) (S0) ?_
              iterate 10 (refine wpOrd_read (v := _) rfl rfl (by intro w' hS; obtain ⟨s1, s2, s3, s4⟩ := id hS; clear hS; go_simp; rfl) ?_; (try simp only [Act.put, List.setIfInBounds_toArray, List.set_cons_succ, List.set_cons_zero, List.getElem_toArray, List.getElem_cons_succ, List.getElem_cons_zero]))
              refine wpOrd_end ?_
              refine wp_stages_end 10 (by rfl) (by kernel_rfl) ?_
              simp only [List.drop_succ_cons, List.drop_zero]
              clear S0
              by_cases hx : xa = xb
              · have e1 : ((xa : Int) == (xb : Int)) = true := by rw [hx]; simp
                have HX := hid hx
                clear hx
                go_wp2
                go_roundw
                case rel =>
                  refine ⟨i + 1, by omega, by go_num, fun j hj => ?_, HS2.out⟩
                  by_cases hji : j = i
                  · subst hji
                    rw [HO.out.1, HO.out.2, HX.out]
                  · exact HQ.out j (by omega)
                case measure => first | (simp [intOf]; done) | (simp [intOf]; omega)
              · have e1 : ((xa : Int) == (xb : Int)) = false := by rw [beq_eq_false_iff_ne]; omega
                have HX := hid hx
                clear hx
                go_wp2
                refine HE.out.1 _ (fun h => HX.out ?_) HS2.out.pres
                have h1 := HO.out.1
                rw [h] at h1
                exact Option.some.inj (h1.symm.trans HO.out.2)
            · obtain rfl : ma = i := by omega
              have hend : ¬ (ma : Int) < (ma : Int) := by omega
              have HFr : Hid (Sa.freed = Sb.freed) := hid (List.ext_getElem? fun j => by
                by_cases hj : j < ma
                · exact HQ.out j hj
                · rw [List.getElem?_eq_none (by have := hma.out; omega), List.getElem?_eq_none (by have := hmb.out; omega)])
              clear HQ
              go_wp2
              clear a0 b0
              go_loopw [7] (fun iv wr => ∃ i : Nat, i ≤ 4 ∧ iv = .int .i64 (i : Int) ∧ (∀ j, j < i → [Sa.r0, Sa.r1, Sa.r2, Sa.r3][j]? = [Sb.r0, Sb.r1, Sb.r2, Sb.r3][j]?) ∧ St w wr [objP b2 [.slice apb na cpb, .slice afb ma cfb, .slice arb 4 crb] 37, objP b1 [.slice apa na cpa, .slice afa ma cfa, .slice ara 4 cra] 37]) (fun iv _ => 4 - (intOf iv).toNat)
              case atStart => exact ⟨0, Nat.zero_le _, rfl, by simp, HS.out⟩
              case round =>
                obtain ⟨i, hi, rfl, hsame, hS⟩ := hrel
                clear HS
                have HS := hid hS
                have HQ := hid hsame
                clear hS hsame
                have a0 := (HS.out.obj 1 rfl).cell 2
                have b0 := (HS.out.obj 0 rfl).cell 2
                simp only [List.getElem?_cons_succ, List.getElem?_cons_zero] at a0 b0
                by_cases hlt : i < 4
                · have hlt' : (i : Int) < (4 : Int) := by omega
                  obtain ⟨xa, hxa⟩ : ∃ x, [Sa.r0, Sa.r1, Sa.r2, Sa.r3][i]? = some x := ⟨_, List.getElem?_eq_getElem (by simp; omega)⟩
                  obtain ⟨xb, hxb⟩ : ∃ x, [Sb.r0, Sb.r1, Sb.r2, Sb.r3][i]? = some x := ⟨_, List.getElem?_eq_getElem (by simp; omega)⟩
                  have hpa := HA.out.roots.pres HS.out.pres (by simp)
                  have hpb := HB.out.roots.pres HS.out.pres (by simp)
                  obtain ⟨ga, cga, cura, ea, -⟩ := hpa.get (by omega)
                  obtain ⟨gb, cgb, curb, eb, -⟩ := hpb.get (by omega)
                  simp only [Value.slice.injEq] at ea eb
                  obtain ⟨rfl, -, rfl⟩ := ea
                  obtain ⟨rfl, -, rfl⟩ := eb
                  have ca := nums_cell hpa hxa
                  have cb := nums_cell hpb hxb
                  have HO := hid (And.intro hxa hxb)
                  clear hpa hpb hxa hxb
                  go_upto_region 16 with fail
                  refine wp_stages (by kernel_rfl) ?_
                  have HS2 := hid HS.out.drew
                  have S0 : wr.drew.cell? ⟨b1, 2, none⟩ = some (.slice (some ⟨ga, 0, none⟩) 4 cra) ∧ wr.drew.cell? ⟨b2, 2, none⟩ = some (.slice (some ⟨gb, 0, none⟩) 4 crb) ∧ wr.drew.cell? ⟨ga, i, none⟩ = some (.int .i64 (xa : Int)) ∧ wr.drew.cell? ⟨gb, i, none⟩ = some (.int .i64 (xb : Int)) := ⟨a0, b0, ca, cb⟩
                  clear HS a0 b0 ca cb
                  generalize wr.drew = wd at *
                  refine wp_stage (fun W => W.cell? ⟨b1, 2, none⟩ = some (.slice (some ⟨ga, 0, none⟩) 4 cra) ∧ W.cell? ⟨b2, 2, none⟩ = some (.slice (some ⟨gb, 0, none⟩) 4 crb) ∧ W.cell? ⟨ga, i, none⟩ = some (.int .i64 (xa : Int)) ∧ W.cell? ⟨gb, i, none⟩ = some (.int .i64 (xb : Int))) [(0, true), (1, true), (2, true), (3, true), (4, true), (5, true), (6, true), (7, true), (8, true), (9, true)] 1 rfl (by kernel_rfl) (by intro c a dd v w h; cases dd <;> exact h) (S0) ?_
                  iterate 10 (refine wpOrd_read (v := _) rfl rfl (by intro w' hS; obtain ⟨s1, s2, s3, s4⟩ := id hS; clear hS; go_simp; rfl) ?_; (try simp only [Act.put, List.setIfInBounds_toArray, List.set_cons_succ, List.set_cons_zero, List.getElem_toArray, List.getElem_cons_succ, List.getElem_cons_zero]))
                  refine wpOrd_end ?_
                  refine wp_stages_end 10 (by rfl) (by kernel_rfl) ?_
                  simp only [List.drop_succ_cons, List.drop_zero]
                  clear S0
                  by_cases hx : xa = xb
                  · have e1 : ((xa : Int) == (xb : Int)) = true := by rw [hx]; simp
                    have HX := hid hx
                    clear hx
                    go_wp2
                    go_roundw
                    case rel =>
                      refine ⟨i + 1, by omega, by go_num, fun j hj => ?_, HS2.out⟩
                      by_cases hji : j = i
                      · subst hji
                        rw [HO.out.1, HO.out.2, HX.out]
                      · exact HQ.out j (by omega)
                    case measure => first | (simp [intOf]; done) | (simp [intOf]; omega)
                  · have e1 : ((xa : Int) == (xb : Int)) = false := by rw [beq_eq_false_iff_ne]; omega
                    have HX := hid hx
                    clear hx
                    go_wp2
                    refine HE.out.1 _ (fun h => HX.out ?_) HS2.out.pres
                    have h1 := HO.out.1
                    rw [h] at h1
                    exact Option.some.inj (h1.symm.trans HO.out.2)
                · obtain rfl : i = 4 := by omega
                  have hend : ¬ ((4 : Nat) : Int) < 4 := by omega
                  have HRt : Hid ([Sa.r0, Sa.r1, Sa.r2, Sa.r3] = [Sb.r0, Sb.r1, Sb.r2, Sb.r3]) := hid (List.ext_getElem? fun j => by
                    by_cases hj : j < 4
                    · exact HQ.out j hj
                    · rw [List.getElem?_eq_none (by simp; omega), List.getElem?_eq_none (by simp; omega)])
                  go_wp2
                  have h := HRt.out
                  simp only [List.cons.injEq, and_true] at h
                  exact HE.out.2 _ (pst_eq HPg.out HFr.out h.1 h.2.1 h.2.2.1 h.2.2.2) HS.out.pres
    · have e2 : ((ma : Int) == (mb : Int)) = false := by rw [beq_eq_false_iff_ne]; omega
      have HM := hid hm
      clear hm
      go_wp2
      refine HE.out.1 _ (fun h => HM.out (by rw [← hma.out, ← hmb.out, h])) H0.out.pres
  · have e1 : ((na : Int) == (nb : Int)) = false := by rw [beq_eq_false_iff_ne]; omega
    have HN := hid hn
    clear hn
    go_wp2
    refine HE.out.1 _ (fun h => HN.out (by rw [← hna.out, ← hnb.out, h])) H0.out.pres

end Go.Proofs.YtnffnpndnaofhaaGreatDoor

/- What a []Act (aquiferlaw10) reads as: a list of calls. No condition. -/
namespace Go.Proofs.YtnffnpndnaofhaaGreatDoor
open Go.RowKit Go.WideShapes Go.ChangeShapes Go.Deep
set_option maxRecDepth 100000

structure ActD where
  kind : Int
  pid : Int
  kd : Int
  s : ByteArray
  kv : Value
  keep : List Bool

def ActD.cells (a : ActD) : List Value := [.int .i64 a.kind, .int .i64 a.pid, .int .i64 a.kd, .string a.s, a.kv]

structure ActD.Ok (w : World) (a : ActD) : Prop where
  kind : (Lit.int .i64 a.kind).wf = true
  pid : (Lit.int .i64 a.pid).wf = true
  kd : (Lit.int .i64 a.kd).wf = true
  s : a.s.size ≤ maxLen
  keep : Reads w a.kv (a.keep.map Value.bool)

/-- Slice v reads as these calls. -/
def ActsAt (w : World) (v : Value) (l : List ActD) : Prop := ReadsN w v 5 (l.map ActD.cells) ∧ ∀ a ∈ l, a.Ok w

theorem act_of_trod {H : Type} {enc : TypeId × Value → H} {w : World} {held : Bool} {n : Nat} {cs : List Value} {x : DataW H × List MemPlace}
    (h : DataW.trod enc Tryz.prog w 0 (fun _ => true) held n 46 cs = some x) : ∃ a : ActD, cs = a.cells ∧ a.Ok w := by
  obtain ⟨xs, m, _, _, hl, hlen, hf⟩ := DataW.trod_struct Tryz.underlying46 h
  have hc : Tryz.prog.cellsOf 46 = 5 := by kernel_rfl
  have ci : Tryz.prog.cellsOf 3 = 1 := by kernel_rfl
  have cst : Tryz.prog.cellsOf 9 = 1 := by kernel_rfl
  have cb : Tryz.prog.cellsOf 44 = 1 := by kernel_rfl
  have cbo : Tryz.prog.cellsOf 4 = 1 := by kernel_rfl
  rw [hc] at hl
  obtain ⟨c0, c1, c2, c3, c4, rfl⟩ : ∃ c0 c1 c2 c3 c4, cs = [c0, c1, c2, c3, c4] := by
    match cs, hl with
    | [c0, c1, c2, c3, c4], _ => exact ⟨c0, c1, c2, c3, c4, rfl⟩
  have f0 : DataW.trod enc Tryz.prog w 0 (fun _ => true) held m 3 (([c0, c1, c2, c3, c4].drop 0).take (Tryz.prog.cellsOf 3)) = xs[0]? := hf 0 _ rfl
  have f1 : DataW.trod enc Tryz.prog w 0 (fun _ => true) held m 3 (([c0, c1, c2, c3, c4].drop 1).take (Tryz.prog.cellsOf 3)) = xs[1]? := hf 1 _ rfl
  have f2 : DataW.trod enc Tryz.prog w 0 (fun _ => true) held m 3 (([c0, c1, c2, c3, c4].drop 2).take (Tryz.prog.cellsOf 3)) = xs[2]? := hf 2 _ rfl
  have f3 : DataW.trod enc Tryz.prog w 0 (fun _ => true) held m 9 (([c0, c1, c2, c3, c4].drop 3).take (Tryz.prog.cellsOf 9)) = xs[3]? := hf 3 _ rfl
  have f4 : DataW.trod enc Tryz.prog w 0 (fun _ => true) held m 44 (([c0, c1, c2, c3, c4].drop 4).take (Tryz.prog.cellsOf 44)) = xs[4]? := hf 4 _ rfl
  rw [ci] at f0 f1 f2
  rw [cst] at f3
  rw [cb] at f4
  have hx : ∀ i, i < 5 → ∃ y, xs[i]? = some y := fun i hi => ⟨_, List.getElem?_eq_getElem (by rw [hlen]; exact hi)⟩
  obtain ⟨y0, e0⟩ := hx 0 (by omega)
  obtain ⟨y1, e1⟩ := hx 1 (by omega)
  obtain ⟨y2, e2⟩ := hx 2 (by omega)
  obtain ⟨y3, e3⟩ := hx 3 (by omega)
  obtain ⟨y4, e4⟩ := hx 4 (by omega)
  rw [e0] at f0
  rw [e1] at f1
  rw [e2] at f2
  rw [e3] at f3
  rw [e4] at f4
  obtain ⟨a, ea, _, wa⟩ := DataW.trod_int Tryz.underlying3 f0
  obtain ⟨b, eb, _, wb⟩ := DataW.trod_int Tryz.underlying3 f1
  obtain ⟨c, ec, _, wc⟩ := DataW.trod_int Tryz.underlying3 f2
  obtain ⟨s, es, _, hs⟩ := DataW.trod_string Tryz.underlying9 f3
  simp only [List.drop_zero, List.drop_succ_cons, List.take_succ_cons, List.take_zero, List.cons.injEq, and_true] at ea eb ec es f4
  subst ea eb ec es
  obtain ⟨bs, hb⟩ := bools_of_slice Tryz.underlying44 Tryz.underlying4 cbo f4
  exact ⟨⟨a, b, c, s, c4, bs⟩, rfl, ⟨wa, wb, wc, hs, hb⟩⟩

theorem acts_of_slice {H : Type} {enc : TypeId × Value → H} {w : World} {held : Bool} {fuel : Nat} {v : Value} {x : DataW H × List MemPlace}
    (h : DataW.trod enc Tryz.prog w 0 (fun _ => true) held fuel 32 [v] = some x) : ∃ l : List ActD, ActsAt w v l := by
  have hc : Tryz.prog.cellsOf 46 = 5 := by kernel_rfl
  obtain ⟨cs, h1, h2⟩ := readsN_of_slice Tryz.underlying32 (by omega) h
  rw [hc] at h1
  obtain ⟨l, rfl, hl⟩ := map_of_forall (f := ActD.cells) (p := fun a => a.Ok w) (fun y hy => by
    obtain ⟨n, d, hd⟩ := h2 y hy
    exact act_of_trod hd)
  exact ⟨l, h1, hl⟩

theorem ActsAt.pres {fp : List Nat} {w w' : World} {v : Value} {l : List ActD} (h : ActsAt w v l) (hp : Pres fp w w') (hn : ∀ k < w.heap.size, k ∉ fp) : ActsAt w' v l := by
  have hlt : ∀ {m : Nat} {cs : List (List Value)}, 0 < m → ReadsN w v m cs → cs ≠ [] → ∀ k ∈ fpv v, k < w.heap.size := by
    intro m cs hm h hc k hk
    obtain ⟨ao, cap, rfl, _, _, h3⟩ := h
    obtain ⟨x, r, rfl⟩ := List.exists_cons_of_ne_nil hc
    obtain ⟨hl, b, off, rfl, h4⟩ := h3 0 x rfl
    simp [fpv] at hk
    subst hk
    obtain ⟨y, hy⟩ : ∃ y, x[0]? = some y := ⟨_, List.getElem?_eq_getElem (by omega)⟩
    exact World.block_lt_of_cell? w _ (h4 0 y hy)
  exact ⟨h.1.pres hp (fun hc k hk => hn k (hlt (by omega) h.1 hc k hk)), fun a ha => ⟨(h.2 a ha).kind, (h.2 a ha).pid, (h.2 a ha).kd, (h.2 a ha).s, (h.2 a ha).keep.pres hp (fun hc k hk => hn k ((h.2 a ha).keep.lt hc k hk))⟩⟩

/-- One call's cells. -/
theorem ActsAt.get {w : World} {v : Value} {l : List ActD} (h : ActsAt w v l) {k : Nat} {a : ActD} (ha : l[k]? = some a) :
    ∃ b off cap, v = .slice (some ⟨b, off, none⟩) l.length cap ∧ l.length ≤ cap ∧ cap ≤ maxLen ∧ (∀ i x, a.cells[i]? = some x → w.cell? ⟨b, off + k * 5 + i, none⟩ = some x) ∧ b < w.heap.size := by
  obtain ⟨ao, cap, rfl, h1, h2, h3⟩ := h.1
  rw [List.length_map] at h1
  obtain ⟨_, b, off, rfl, h4⟩ := h3 k a.cells (by simp [ha])
  exact ⟨b, off, cap, by simp, h1, h2, h4, World.block_lt_of_cell? w _ (h4 0 _ rfl)⟩

end Go.Proofs.YtnffnpndnaofhaaGreatDoor
