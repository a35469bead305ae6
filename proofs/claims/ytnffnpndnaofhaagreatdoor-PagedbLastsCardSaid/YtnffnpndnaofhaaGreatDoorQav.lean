/- Parts of the proof: aquiferref10.Same: are two states alike; conditions stand in the theorem. -/
import Derived.Test.YtnffnpndnaofhaaGreatDoorQau
import Derived.Test.YtnffnpndnaofhaaGreatDoorQab
import Derived.Test.YtnffnpndnaofhaaGreatDoorChecked

/- aquiferref10.Same: are two states alike; conditions stand in the theorem. -/
namespace Go.Proofs.YtnffnpndnaofhaaGreatDoor
open Go.RowKit
set_option maxRecDepth 100000

theorem pst_eq {a b : PSt} (h1 : a.pages = b.pages) (h2 : a.freed = b.freed) (h3 : a.r0 = b.r0) (h4 : a.r1 = b.r1) (h5 : a.r2 = b.r2) (h6 : a.r3 = b.r3) : a = b := by
  cases a
  cases b
  simp only at h1 h2 h3 h4 h5 h6
  subst h1 h2 h3 h4 h5 h6
  rfl

theorem nums_cell {w : World} {g n cap : Nat} {l : List Nat} (h : Sl w 3 1 (.slice (some ⟨g, 0, none⟩) n cap) n (l.map numV)) {i x : Nat} (hx : l[i]? = some x) : w.cell? ⟨g, i, none⟩ = some (.int .i64 (x : Int)) :=
  sl_cells h (by rw [List.getElem?_map, hx]; rfl)

set_option maxHeartbeats 16000000 in
theorem same_call (w : World) (pa fa ra pb fb rb : Value) (Sa Sb : PSt) (ha : SlSt w pa fa ra Sa) (hb : SlSt w pb fb rb Sb) (hla : Sa.pages.length ≤ 1000000) (hfa : Sa.freed.length ≤ 1000000) :
    Calls Tryz.prog 19 #[.agg #[pa, fa, ra], .agg #[pb, fb, rb]] w fun e w' => ∃ b, e = .returned (.bool b) ∧ (b = true ↔ Sa = Sb) ∧ Pres [] w w' := by
  obtain ⟨Post, hPost⟩ : ∃ Post : Ending → World → Prop, Hid (Post = fun e w' => ∃ b, e = .returned (.bool b) ∧ (b = true ↔ Sa = Sb) ∧ Pres [] w w') := ⟨_, hid rfl⟩
  rw [← hPost.out]
  have hno : ∀ w', ¬ Sa = Sb → Pres [] w w' → Post (.returned (.bool false)) w' := fun w' h hp => by rw [hPost.out]; exact ⟨false, rfl, by simp [h], hp⟩
  have hyes : ∀ w', Sa = Sb → Pres [] w w' → Post (.returned (.bool true)) w' := fun w' h hp => by rw [hPost.out]; exact ⟨true, rfl, by simp [h], hp⟩
  have HE := hid (And.intro hno hyes)
  have HA := hid ha
  have HB := hid hb
  obtain ⟨apa, cpa, epa, -, -⟩ := ha.pages.shape
  obtain ⟨afa, cfa, efa, -, -⟩ := ha.freed.shape
  obtain ⟨ara, cra, era, -, -⟩ := ha.roots.shape
  obtain ⟨apb, cpb, epb, -, -⟩ := hb.pages.shape
  obtain ⟨afb, cfb, efb, -, -⟩ := hb.freed.shape
  obtain ⟨arb, crb, erb, -, -⟩ := hb.roots.shape
  obtain ⟨na, hna⟩ : ∃ n, Hid (Sa.pages.length = n) := ⟨_, hid rfl⟩
  obtain ⟨nb, hnb⟩ : ∃ n, Hid (Sb.pages.length = n) := ⟨_, hid rfl⟩
  obtain ⟨ma, hma⟩ : ∃ n, Hid (Sa.freed.length = n) := ⟨_, hid rfl⟩
  obtain ⟨mb, hmb⟩ : ∃ n, Hid (Sb.freed.length = n) := ⟨_, hid rfl⟩
  rw [hna.out] at epa hla
  rw [hnb.out] at epb
  rw [hma.out] at efa hfa
  rw [hmb.out] at efb
  clear ha hb hno hyes
  subst epa efa era epb efb erb
  have H0 := hid (((St.start w).alloc [.slice apa na cpa, .slice afa ma cfa, .slice ara 4 cra] 37).alloc [.slice apb nb cpb, .slice afb mb cfb, .slice arb 4 crb] 37)
  rw [show (w.alloc (.cells [.slice apa na cpa, .slice afa ma cfa, .slice ara 4 cra].toArray 37)).heap.size = w.heap.size + 1 by simp] at H0
  go_enter Tryz.func19, Tryz.ntmps19
  go_upto_region 1 with fail
  generalize w.heap.size + 1 = b2 at *
  generalize w.heap.size = b1 at *
  generalize ((w.alloc _).alloc _) = w1 at *
  have H0 := hid (show St w w1 [objP b2 [.slice apb nb cpb, .slice afb mb cfb, .slice arb 4 crb] 37, objP b1 [.slice apa na cpa, .slice afa ma cfa, .slice ara 4 cra] 37] from H0.out)
  have a0 := (H0.out.obj 1 rfl).cell 0
  have a1 := (H0.out.obj 1 rfl).cell 1
  have b0 := (H0.out.obj 0 rfl).cell 0
  have b1' := (H0.out.obj 0 rfl).cell 1
  simp only [List.getElem?_cons_succ, List.getElem?_cons_zero] at a0 a1 b0 b1'
  by_cases hn : na = nb
  · subst hn
    have e1 : ((na : Int) == (na : Int)) = true := by simp
    by_cases hm : ma = mb
    · subst hm
      have e2 : ((ma : Int) == (ma : Int)) = true := by simp
      clear a0 a1 b0 b1'
      have a0 := (H0.out.obj 1 rfl).cell 0
      have a1 := (H0.out.obj 1 rfl).cell 1
      have b0 := (H0.out.obj 0 rfl).cell 0
      have b1' := (H0.out.obj 0 rfl).cell 1
      simp only [List.getElem?_cons_succ, List.getElem?_cons_zero] at a0 a1 b0 b1'
      go_upto_region 3 with fail
      clear a0 a1 b0 b1' e1 e2
      go_wp2
      go_loopw [5] (fun iv wr => ∃ i : Nat, i ≤ na ∧ iv = .int .i64 (i : Int) ∧ (∀ j, j < i → Sa.pages[j]? = Sb.pages[j]?) ∧ St w wr [objP b2 [.slice apb na cpb, .slice afb ma cfb, .slice arb 4 crb] 37, objP b1 [.slice apa na cpa, .slice afa ma cfa, .slice ara 4 cra] 37]) (fun iv _ => na - (intOf iv).toNat)
      case atStart => exact ⟨0, Nat.zero_le _, rfl, by simp, H0.out⟩
      case round =>
        obtain ⟨i, hi, rfl, hsame, hS⟩ := hrel
        clear H0
        have HS := hid hS
        have HQ := hid hsame
        clear hS hsame
        have a0 := (HS.out.obj 1 rfl).cell 0
        have b0 := (HS.out.obj 0 rfl).cell 0
        simp only [List.getElem?_cons_zero] at a0 b0
        by_cases hlt : i < na
        · have hlt' : (i : Int) < (na : Int) := by omega
          obtain ⟨oa, hoa⟩ : ∃ o, Sa.pages[i]? = some o := ⟨_, List.getElem?_eq_getElem (by have := hna.out; omega)⟩
          obtain ⟨ob, hob⟩ : ∃ o, Sb.pages[i]? = some o := ⟨_, List.getElem?_eq_getElem (by have := hnb.out; omega)⟩
          have hpa := HA.out.pages.pres HS.out.pres (by simp)
          have hpb := HB.out.pages.pres HS.out.pres (by simp)
          rw [hna.out] at hpa
          rw [hnb.out] at hpb
          obtain ⟨ga, cga, cura, ea, -⟩ := hpa.get (by omega)
          obtain ⟨gb, cgb, curb, eb, -⟩ := hpb.get (by omega)
          simp only [Value.slice.injEq] at ea eb
          obtain ⟨rfl, -, rfl⟩ := ea
          obtain ⟨rfl, -, rfl⟩ := eb
          have ca := pages_cell hpa hoa
          have cb := pages_cell hpb hob
          obtain ⟨ka, za, fa', epa⟩ := pageCells_three oa
          obtain ⟨kb, zb, fb', epb⟩ := pageCells_three ob
          rw [epa] at ca
          rw [epb] at cb
          obtain ⟨q, hq⟩ : ∃ q, Hid ((decide ((ka : Int) = (kb : Int)) && (za == zb) && decide (fa' = fb')) = q) := ⟨_, hid rfl⟩
          have hneq := fun W => page_neq W (ka : Int) (kb : Int) za zb fa' fb' q hq.out
          have HO := hid (And.intro hoa (And.intro hob (And.intro epa epb)))
          clear hpa hpb hoa hob epa epb
          go_upto_region 6 with fail
          refine wp_stages (by kernel_rfl) ?_
          have HS2 := hid HS.out.drew
          have S0 : wr.drew.cell? ⟨b1, 0, none⟩ = some (.slice (some ⟨ga, 0, none⟩) na cpa) ∧ wr.drew.cell? ⟨b2, 0, none⟩ = some (.slice (some ⟨gb, 0, none⟩) na cpb) ∧ (∀ (j : Nat) (v : Value), [Value.int .i64 (ka : Int), .string za, .bool fa'][j]? = some v → wr.drew.cell? ⟨ga, i * 3 + j, none⟩ = some v) ∧ (∀ (j : Nat) (v : Value), [Value.int .i64 (kb : Int), .string zb, .bool fb'][j]? = some v → wr.drew.cell? ⟨gb, i * 3 + j, none⟩ = some v) := ⟨a0, b0, ca, cb⟩
          clear HS a0 b0 ca cb
          generalize wr.drew = wd at *
          refine wp_stage (fun W => W.cell? ⟨b1, 0, none⟩ = some (.slice (some ⟨ga, 0, none⟩) na cpa) ∧ W.cell? ⟨b2, 0, none⟩ = some (.slice (some ⟨gb, 0, none⟩) na cpb) ∧ (∀ (j : Nat) (v : Value), [Value.int .i64 (ka : Int), .string za, .bool fa'][j]? = some v → W.cell? ⟨ga, i * 3 + j, none⟩ = some v) ∧ (∀ (j : Nat) (v : Value), [Value.int .i64 (kb : Int), .string zb, .bool fb'][j]? = some v → W.cell? ⟨gb, i * 3 + j, none⟩ = some v)) [(0, true), (1, true), (2, true), (3, true), (4, true), (5, true), (6, true), (7, true), (8, true), (9, true)] 1 rfl (by kernel_rfl) (by intro c a dd v w h; cases dd <;> exact h) (S0) ?_
          iterate 4 (refine wpOrd_read (v := _) rfl rfl (by intro w' hS; obtain ⟨s1, s2, -, -⟩ := id hS; clear hS; go_simp; rfl) ?_; (try simp only [Act.put, List.setIfInBounds_toArray, List.set_cons_succ, List.set_cons_zero, List.getElem_toArray, List.getElem_cons_succ, List.getElem_cons_zero]))
          refine wpOrd_read (v := _) rfl rfl (by intro w' hS; obtain ⟨-, -, s3, -⟩ := id hS; exact run_loadc 54 (.tmp 34) rfl ga (i * 3) rfl [.int .i64 (ka : Int), .string za, .bool fa'] page_agg page_size s3) ?_
          (try simp only [Act.put, List.setIfInBounds_toArray, List.set_cons_succ, List.set_cons_zero, List.getElem_toArray, List.getElem_cons_succ, List.getElem_cons_zero])
          iterate 4 (refine wpOrd_read (v := _) rfl rfl (by intro w' hS; obtain ⟨s1, s2, -, -⟩ := id hS; clear hS; go_simp; rfl) ?_; (try simp only [Act.put, List.setIfInBounds_toArray, List.set_cons_succ, List.set_cons_zero, List.getElem_toArray, List.getElem_cons_succ, List.getElem_cons_zero]))
          refine wpOrd_read (v := _) rfl rfl (by intro w' hS; obtain ⟨-, -, -, s4⟩ := id hS; exact run_loadc 54 (.tmp 39) rfl gb (i * 3) rfl [.int .i64 (kb : Int), .string zb, .bool fb'] page_agg page_size s4) ?_
          (try simp only [Act.put, List.setIfInBounds_toArray, List.set_cons_succ, List.set_cons_zero, List.getElem_toArray, List.getElem_cons_succ, List.getElem_cons_zero])
          refine wpOrd_end ?_
          refine wp_stages_end 10 (by rfl) (by kernel_rfl) ?_
          simp only [List.drop_succ_cons, List.drop_zero]
          clear S0
          cases hqq : q
          · rw [hqq] at hneq hq
            go_wp2
            refine HE.out.1 _ (fun h => ?_) HS2.out.pres
            have h1 := HO.out.1
            rw [h] at h1
            have h2 : oa = ob := Option.some.inj (h1.symm.trans HO.out.2.1)
            have h3 := HO.out.2.2.1
            rw [h2, HO.out.2.2.2] at h3
            simp only [List.cons.injEq, Value.int.injEq, true_and, Value.string.injEq, Value.bool.injEq, and_true] at h3
            have h4 := hq.out
            rw [h3.1, h3.2.1, h3.2.2] at h4
            simp [(ba_beq za za).2 rfl] at h4
          · rw [hqq] at hneq hq
            go_wp2
            go_roundw
            case rel =>
              refine ⟨i + 1, by omega, by go_num, fun j hj => ?_, HS2.out⟩
              by_cases hji : j = i
              · subst hji
                rw [HO.out.1, HO.out.2.1]
                have h4 := hq.out
                simp only [Bool.and_eq_true, decide_eq_true_eq] at h4
                obtain ⟨⟨h5, h6⟩, h7⟩ := h4
                have h8 : oa = ob := pageCells_inj (by rw [HO.out.2.2.1, HO.out.2.2.2, h5, (ba_beq _ _).1 h6, h7])
                rw [h8]
              · exact HQ.out j (by omega)
            case measure => first | (simp [intOf]; done) | (simp [intOf]; omega)
        · obtain rfl : na = i := by omega
          have hend : ¬ (na : Int) < (na : Int) := by omega
          have HPg : Hid (Sa.pages = Sb.pages) := hid (List.ext_getElem? fun j => by
            by_cases hj : j < na
            · exact HQ.out j hj
            · rw [List.getElem?_eq_none (by have := hna.out; omega), List.getElem?_eq_none (by have := hnb.out; omega)])
          clear HQ
          have a1 := (HS.out.obj 1 rfl).cell 1
          have b1' := (HS.out.obj 0 rfl).cell 1
          simp only [List.getElem?_cons_succ, List.getElem?_cons_zero] at a1 b1'
          go_wp2
          clear a0 b0 a1 b1'
          go_loopw [6] (fun iv wr => ∃ i : Nat, i ≤ ma ∧ iv = .int .i64 (i : Int) ∧ (∀ j, j < i → Sa.freed[j]? = Sb.freed[j]?) ∧ St w wr [objP b2 [.slice apb na cpb, .slice afb ma cfb, .slice arb 4 crb] 37, objP b1 [.slice apa na cpa, .slice afa ma cfa, .slice ara 4 cra] 37]) (fun iv _ => ma - (intOf iv).toNat)
          case atStart => exact ⟨0, Nat.zero_le _, rfl, by simp, HS.out⟩
          case round =>
            obtain ⟨i, hi, rfl, hsame, hS⟩ := hrel
            clear HS
            have HS := hid hS
            have HQ := hid hsame
            clear hS hsame
            have a0 := (HS.out.obj 1 rfl).cell 1
            have b0 := (HS.out.obj 0 rfl).cell 1
            simp only [List.getElem?_cons_succ, List.getElem?_cons_zero] at a0 b0
            by_cases hlt : i < ma
            · have hlt' : (i : Int) < (ma : Int) := by omega
              obtain ⟨xa, hxa⟩ : ∃ x, Sa.freed[i]? = some x := ⟨_, List.getElem?_eq_getElem (by have := hma.out; omega)⟩
              obtain ⟨xb, hxb⟩ : ∃ x, Sb.freed[i]? = some x := ⟨_, List.getElem?_eq_getElem (by have := hmb.out; omega)⟩
              have hpa := (by have h := HA.out.freed.pres HS.out.pres (by simp); rw [hma.out] at h; exact h)
              have hpb := (by have h := HB.out.freed.pres HS.out.pres (by simp); rw [hmb.out] at h; exact h)
              obtain ⟨ga, cga, cura, ea, -⟩ := hpa.get (by omega)
              obtain ⟨gb, cgb, curb, eb, -⟩ := hpb.get (by omega)
              simp only [Value.slice.injEq] at ea eb
              obtain ⟨rfl, -, rfl⟩ := ea
              obtain ⟨rfl, -, rfl⟩ := eb
              have ca := nums_cell hpa hxa
              have cb := nums_cell hpb hxb
              have HO := hid (And.intro hxa hxb)
              clear hpa hpb hxa hxb
              go_upto_region 11 with fail
              refine wp_stages (by kernel_rfl) ?_
              have HS2 := hid HS.out.drew
              have S0 : wr.drew.cell? ⟨b1, 1, none⟩ = some (.slice (some ⟨ga, 0, none⟩) ma cfa) ∧ wr.drew.cell? ⟨b2, 1, none⟩ = some (.slice (some ⟨gb, 0, none⟩) ma cfb) ∧ wr.drew.cell? ⟨ga, i, none⟩ = some (.int .i64 (xa : Int)) ∧ wr.drew.cell? ⟨gb, i, none⟩ = some (.int .i64 (xb : Int)) := ⟨a0, b0, ca, cb⟩
              clear HS a0 b0 ca cb
              generalize wr.drew = wd at *
              refine wp_stage (fun W => W.cell? ⟨b1, 1, none⟩ = some (.slice (some ⟨ga, 0, none⟩) ma cfa) ∧ W.cell? ⟨b2, 1, none⟩ = some (.slice (some ⟨gb, 0, none⟩) ma cfb) ∧ W.cell? ⟨ga, i, none⟩ = some (.int .i64 (xa : Int)) ∧ W.cell? ⟨gb, i, none⟩ = some (.int .i64 (xb : Int))) [(0, true), (1, true), (2, true), (3, true), (4, true), (5, true), (6, true), (7, true), (8, true), (9, true)] 1 rfl (by kernel_rfl) (by intro c a dd v w h; cases dd <;> exact h) (S0) ?_
              iterate 10 (refine wpOrd_read (v := _) rfl rfl (by intro w' hS; obtain ⟨s1, s2, s3, s4⟩ := id hS; clear hS; go_simp; rfl) ?_; (try simp only [Act.put, List.setIfInBounds_toArray, List.set_cons_succ, List.set_cons_zero, List.getElem_toArray, List.getElem_cons_succ, List.getElem_cons_zero]))
              refine wpOrd_end ?_
              refine wp_stages_end 10 (by rfl) (by kernel_rfl) ?_
              simp only [List.drop_succ_cons, List.drop_zero]
              clear S0
              by_cases hx : xa = xb
              · have e1 : ((xa : Int) == (xb : Int)) = true := by rw [hx]; simp
                have HX := hid hx
                clear hx
                go_wp2
                go_roundw
                case rel =>
                  refine ⟨i + 1, by omega, by go_num, fun j hj => ?_, HS2.out⟩
                  by_cases hji : j = i
                  · subst hji
                    rw [HO.out.1, HO.out.2, HX.out]
                  · exact HQ.out j (by omega)
                case measure => first | (simp [intOf]; done) | (simp [intOf]; omega)
              · have e1 : ((xa : Int) == (xb : Int)) = false := by rw [beq_eq_false_iff_ne]; omega
                have HX := hid hx
                clear hx
                go_wp2
                refine HE.out.1 _ (fun h => HX.out ?_) HS2.out.pres
                have h1 := HO.out.1
                rw [h] at h1
                exact Option.some.inj (h1.symm.trans HO.out.2)
            · obtain rfl : ma = i := by omega
              have hend : ¬ (ma : Int) < (ma : Int) := by omega
              have HFr : Hid (Sa.freed = Sb.freed) := hid (List.ext_getElem? fun j => by
                by_cases hj : j < ma
                · exact HQ.out j hj
                · rw [List.getElem?_eq_none (by have := hma.out; omega), List.getElem?_eq_none (by have := hmb.out; omega)])
              clear HQ
              go_wp2
              clear a0 b0
              go_loopw [7] (fun iv wr => ∃ i : Nat, i ≤ 4 ∧ iv = .int .i64 (i : Int) ∧ (∀ j, j < i → [Sa.r0, Sa.r1, Sa.r2, Sa.r3][j]? = [Sb.r0, Sb.r1, Sb.r2, Sb.r3][j]?) ∧ St w wr [objP b2 [.slice apb na cpb, .slice afb ma cfb, .slice arb 4 crb] 37, objP b1 [.slice apa na cpa, .slice afa ma cfa, .slice ara 4 cra] 37]) (fun iv _ => 4 - (intOf iv).toNat)
              case atStart => exact ⟨0, Nat.zero_le _, rfl, by simp, HS.out⟩
              case round =>
                obtain ⟨i, hi, rfl, hsame, hS⟩ := hrel
                clear HS
                have HS := hid hS
                have HQ := hid hsame
                clear hS hsame
                have a0 := (HS.out.obj 1 rfl).cell 2
                have b0 := (HS.out.obj 0 rfl).cell 2
                simp only [List.getElem?_cons_succ, List.getElem?_cons_zero] at a0 b0
                by_cases hlt : i < 4
                · have hlt' : (i : Int) < (4 : Int) := by omega
                  obtain ⟨xa, hxa⟩ : ∃ x, [Sa.r0, Sa.r1, Sa.r2, Sa.r3][i]? = some x := ⟨_, List.getElem?_eq_getElem (by simp; omega)⟩
                  obtain ⟨xb, hxb⟩ : ∃ x, [Sb.r0, Sb.r1, Sb.r2, Sb.r3][i]? = some x := ⟨_, List.getElem?_eq_getElem (by simp; omega)⟩
                  have hpa := HA.out.roots.pres HS.out.pres (by simp)
                  have hpb := HB.out.roots.pres HS.out.pres (by simp)
                  obtain ⟨ga, cga, cura, ea, -⟩ := hpa.get (by omega)
                  obtain ⟨gb, cgb, curb, eb, -⟩ := hpb.get (by omega)
                  simp only [Value.slice.injEq] at ea eb
                  obtain ⟨rfl, -, rfl⟩ := ea
                  obtain ⟨rfl, -, rfl⟩ := eb
                  have ca := nums_cell hpa hxa
                  have cb := nums_cell hpb hxb
                  have HO := hid (And.intro hxa hxb)
                  clear hpa hpb hxa hxb
                  go_upto_region 16 with fail
                  refine wp_stages (by kernel_rfl) ?_
                  have HS2 := hid HS.out.drew
                  have S0 : wr.drew.cell? ⟨b1, 2, none⟩ = some (.slice (some ⟨ga, 0, none⟩) 4 cra) ∧ wr.drew.cell? ⟨b2, 2, none⟩ = some (.slice (some ⟨gb, 0, none⟩) 4 crb) ∧ wr.drew.cell? ⟨ga, i, none⟩ = some (.int .i64 (xa : Int)) ∧ wr.drew.cell? ⟨gb, i, none⟩ = some (.int .i64 (xb : Int)) := ⟨a0, b0, ca, cb⟩
                  clear HS a0 b0 ca cb
                  generalize wr.drew = wd at *
                  refine wp_stage (fun W => W.cell? ⟨b1, 2, none⟩ = some (.slice (some ⟨ga, 0, none⟩) 4 cra) ∧ W.cell? ⟨b2, 2, none⟩ = some (.slice (some ⟨gb, 0, none⟩) 4 crb) ∧ W.cell? ⟨ga, i, none⟩ = some (.int .i64 (xa : Int)) ∧ W.cell? ⟨gb, i, none⟩ = some (.int .i64 (xb : Int))) [(0, true), (1, true), (2, true), (3, true), (4, true), (5, true), (6, true), (7, true), (8, true), (9, true)] 1 rfl (by kernel_rfl) (by intro c a dd v w h; cases dd <;> exact h) (S0) ?_
                  iterate 10 (refine wpOrd_read (v := _) rfl rfl (by intro w' hS; obtain ⟨s1, s2, s3, s4⟩ := id hS; clear hS; go_simp; rfl) ?_; (try simp only [Act.put, List.setIfInBounds_toArray, List.set_cons_succ, List.set_cons_zero, List.getElem_toArray, List.getElem_cons_succ, List.getElem_cons_zero]))
                  refine wpOrd_end ?_
                  refine wp_stages_end 10 (by rfl) (by kernel_rfl) ?_
                  simp only [List.drop_succ_cons, List.drop_zero]
                  clear S0
                  by_cases hx : xa = xb
                  · have e1 : ((xa : Int) == (xb : Int)) = true := by rw [hx]; simp
                    have HX := hid hx
                    clear hx
                    go_wp2
                    go_roundw
                    case rel =>
                      refine ⟨i + 1, by omega, by go_num, fun j hj => ?_, HS2.out⟩
                      by_cases hji : j = i
                      · subst hji
                        rw [HO.out.1, HO.out.2, HX.out]
                      · exact HQ.out j (by omega)
                    case measure => first | (simp [intOf]; done) | (simp [intOf]; omega)
                  · have e1 : ((xa : Int) == (xb : Int)) = false := by rw [beq_eq_false_iff_ne]; omega
                    have HX := hid hx
                    clear hx
                    go_wp2
                    refine HE.out.1 _ (fun h => HX.out ?_) HS2.out.pres
                    have h1 := HO.out.1
                    rw [h] at h1
                    exact Option.some.inj (h1.symm.trans HO.out.2)
                · obtain rfl : i = 4 := by omega
                  have hend : ¬ ((4 : Nat) : Int) < 4 := by omega
                  have HRt : Hid ([Sa.r0, Sa.r1, Sa.r2, Sa.r3] = [Sb.r0, Sb.r1, Sb.r2, Sb.r3]) := hid (List.ext_getElem? fun j => by
                    by_cases hj : j < 4
                    · exact HQ.out j hj
                    · rw [List.getElem?_eq_none (by simp; omega), List.getElem?_eq_none (by simp; omega)])
                  go_wp2
                  have h := HRt.out
                  simp only [List.cons.injEq, and_true] at h
                  exact HE.out.2 _ (pst_eq HPg.out HFr.out h.1 h.2.1 h.2.2.1 h.2.2.2) HS.out.pres
    · have e2 : ((ma : Int) == (mb : Int)) = false := by rw [beq_eq_false_iff_ne]; omega
      have HM := hid hm
      clear hm
      go_wp2
      refine HE.out.1 _ (fun h => HM.out (by rw [← hma.out, ← hmb.out, h])) H0.out.pres
  · have e1 : ((na : Int) == (nb : Int)) = false := by rw [beq_eq_false_iff_ne]; omega
    have HN := hid hn
    clear hn
    go_wp2
    refine HE.out.1 _ (fun h => HN.out (by rw [← hna.out, ← hnb.out, h])) H0.out.pres

end Go.Proofs.YtnffnpndnaofhaaGreatDoor

/- What a []Act (aquiferlaw10) reads as: a list of calls. No condition. -/
namespace Go.Proofs.YtnffnpndnaofhaaGreatDoor
open Go.RowKit Go.WideShapes Go.ChangeShapes Go.Deep
set_option maxRecDepth 100000

structure ActD where
  kind : Int
  pid : Int
  kd : Int
  s : ByteArray
  kv : Value
  keep : List Bool

def ActD.cells (a : ActD) : List Value := [.int .i64 a.kind, .int .i64 a.pid, .int .i64 a.kd, .string a.s, a.kv]

structure ActD.Ok (w : World) (a : ActD) : Prop where
  kind : (Lit.int .i64 a.kind).wf = true
  pid : (Lit.int .i64 a.pid).wf = true
  kd : (Lit.int .i64 a.kd).wf = true
  s : a.s.size ≤ maxLen
  keep : Reads w a.kv (a.keep.map Value.bool)

/-- Slice v reads as these calls. -/
def ActsAt (w : World) (v : Value) (l : List ActD) : Prop := ReadsN w v 5 (l.map ActD.cells) ∧ ∀ a ∈ l, a.Ok w

theorem act_of_trod {H : Type} {enc : TypeId × Value → H} {w : World} {held : Bool} {n : Nat} {cs : List Value} {x : DataW H × List MemPlace}
    (h : DataW.trod enc Tryz.prog w 0 (fun _ => true) held n 46 cs = some x) : ∃ a : ActD, cs = a.cells ∧ a.Ok w := by
  obtain ⟨xs, m, _, _, hl, hlen, hf⟩ := DataW.trod_struct Tryz.underlying46 h
  have hc : Tryz.prog.cellsOf 46 = 5 := by kernel_rfl
  have ci : Tryz.prog.cellsOf 3 = 1 := by kernel_rfl
  have cst : Tryz.prog.cellsOf 9 = 1 := by kernel_rfl
  have cb : Tryz.prog.cellsOf 44 = 1 := by kernel_rfl
  have cbo : Tryz.prog.cellsOf 4 = 1 := by kernel_rfl
  rw [hc] at hl
  obtain ⟨c0, c1, c2, c3, c4, rfl⟩ : ∃ c0 c1 c2 c3 c4, cs = [c0, c1, c2, c3, c4] := by
    match cs, hl with
    | [c0, c1, c2, c3, c4], _ => exact ⟨c0, c1, c2, c3, c4, rfl⟩
  have f0 : DataW.trod enc Tryz.prog w 0 (fun _ => true) held m 3 (([c0, c1, c2, c3, c4].drop 0).take (Tryz.prog.cellsOf 3)) = xs[0]? := hf 0 _ rfl
  have f1 : DataW.trod enc Tryz.prog w 0 (fun _ => true) held m 3 (([c0, c1, c2, c3, c4].drop 1).take (Tryz.prog.cellsOf 3)) = xs[1]? := hf 1 _ rfl
  have f2 : DataW.trod enc Tryz.prog w 0 (fun _ => true) held m 3 (([c0, c1, c2, c3, c4].drop 2).take (Tryz.prog.cellsOf 3)) = xs[2]? := hf 2 _ rfl
  have f3 : DataW.trod enc Tryz.prog w 0 (fun _ => true) held m 9 (([c0, c1, c2, c3, c4].drop 3).take (Tryz.prog.cellsOf 9)) = xs[3]? := hf 3 _ rfl
  have f4 : DataW.trod enc Tryz.prog w 0 (fun _ => true) held m 44 (([c0, c1, c2, c3, c4].drop 4).take (Tryz.prog.cellsOf 44)) = xs[4]? := hf 4 _ rfl
  rw [ci] at f0 f1 f2
  rw [cst] at f3
  rw [cb] at f4
  have hx : ∀ i, i < 5 → ∃ y, xs[i]? = some y := fun i hi => ⟨_, List.getElem?_eq_getElem (by rw [hlen]; exact hi)⟩
  obtain ⟨y0, e0⟩ := hx 0 (by omega)
  obtain ⟨y1, e1⟩ := hx 1 (by omega)
  obtain ⟨y2, e2⟩ := hx 2 (by omega)
  obtain ⟨y3, e3⟩ := hx 3 (by omega)
  obtain ⟨y4, e4⟩ := hx 4 (by omega)
  rw [e0] at f0
  rw [e1] at f1
  rw [e2] at f2
  rw [e3] at f3
  rw [e4] at f4
  obtain ⟨a, ea, _, wa⟩ := DataW.trod_int Tryz.underlying3 f0
  obtain ⟨b, eb, _, wb⟩ := DataW.trod_int Tryz.underlying3 f1
  obtain ⟨c, ec, _, wc⟩ := DataW.trod_int Tryz.underlying3 f2
  obtain ⟨s, es, _, hs⟩ := DataW.trod_string Tryz.underlying9 f3
  simp only [List.drop_zero, List.drop_succ_cons, List.take_succ_cons, List.take_zero, List.cons.injEq, and_true] at ea eb ec es f4
  subst ea eb ec es
  obtain ⟨bs, hb⟩ := bools_of_slice Tryz.underlying44 Tryz.underlying4 cbo f4
  exact ⟨⟨a, b, c, s, c4, bs⟩, rfl, ⟨wa, wb, wc, hs, hb⟩⟩

theorem acts_of_slice {H : Type} {enc : TypeId × Value → H} {w : World} {held : Bool} {fuel : Nat} {v : Value} {x : DataW H × List MemPlace}
    (h : DataW.trod enc Tryz.prog w 0 (fun _ => true) held fuel 32 [v] = some x) : ∃ l : List ActD, ActsAt w v l := by
  have hc : Tryz.prog.cellsOf 46 = 5 := by kernel_rfl
  obtain ⟨cs, h1, h2⟩ := readsN_of_slice Tryz.underlying32 (by omega) h
  rw [hc] at h1
  obtain ⟨l, rfl, hl⟩ := map_of_forall (f := ActD.cells) (p := fun a => a.Ok w) (fun y hy => by
    obtain ⟨n, d, hd⟩ := h2 y hy
    exact act_of_trod hd)
  exact ⟨l, h1, hl⟩

theorem ActsAt.pres {fp : List Nat} {w w' : World} {v : Value} {l : List ActD} (h : ActsAt w v l) (hp : Pres fp w w') (hn : ∀ k < w.heap.size, k ∉ fp) : ActsAt w' v l := by
  have hlt : ∀ {m : Nat} {cs : List (List Value)}, 0 < m → ReadsN w v m cs → cs ≠ [] → ∀ k ∈ fpv v, k < w.heap.size := by
    intro m cs hm h hc k hk
    obtain ⟨ao, cap, rfl, _, _, h3⟩ := h
    obtain ⟨x, r, rfl⟩ := List.exists_cons_of_ne_nil hc
    obtain ⟨hl, b, off, rfl, h4⟩ := h3 0 x rfl
    simp [fpv] at hk
    subst hk
    obtain ⟨y, hy⟩ : ∃ y, x[0]? = some y := ⟨_, List.getElem?_eq_getElem (by omega)⟩
    exact World.block_lt_of_cell? w _ (h4 0 y hy)
  exact ⟨h.1.pres hp (fun hc k hk => hn k (hlt (by omega) h.1 hc k hk)), fun a ha => ⟨(h.2 a ha).kind, (h.2 a ha).pid, (h.2 a ha).kd, (h.2 a ha).s, (h.2 a ha).keep.pres hp (fun hc k hk => hn k ((h.2 a ha).keep.lt hc k hk))⟩⟩

/-- One call's cells. -/
theorem ActsAt.get {w : World} {v : Value} {l : List ActD} (h : ActsAt w v l) {k : Nat} {a : ActD} (ha : l[k]? = some a) :
    ∃ b off cap, v = .slice (some ⟨b, off, none⟩) l.length cap ∧ l.length ≤ cap ∧ cap ≤ maxLen ∧ (∀ i x, a.cells[i]? = some x → w.cell? ⟨b, off + k * 5 + i, none⟩ = some x) ∧ b < w.heap.size := by
  obtain ⟨ao, cap, rfl, h1, h2, h3⟩ := h.1
  rw [List.length_map] at h1
  obtain ⟨_, b, off, rfl, h4⟩ := h3 k a.cells (by simp [ha])
  exact ⟨b, off, cap, by simp, h1, h2, h4, World.block_lt_of_cell? w _ (h4 0 _ rfl)⟩

end Go.Proofs.YtnffnpndnaofhaaGreatDoor

/- aquiferlaw10.change and build: some changes by one call, and transactions of them; conditions stand in the theorems. -/
namespace Go.Proofs.YtnffnpndnaofhaaGreatDoor
open Go.RowKit
set_option maxRecDepth 100000

theorem cut_extract (s : ByteArray) (m M : Nat) (h : M = min m s.size) : (s.extract 0 M).data.toList = s.data.toList.take m := by
  subst h
  rw [ba_take, List.drop_zero]
  rcases Nat.le_total m s.size with h | h
  · rw [Nat.min_eq_left h]
  · rw [Nat.min_eq_right h, List.take_of_length_le (by rw [← ba_size]; omega), List.take_of_length_le (by rw [← ba_size]; omega)]

/-- A transaction as data. -/
structure TS where
  T : PSt
  tk : Nat → Bool
  mark : Bool

def TS.alloc (X : TS) (cnt : Nat) : TS := ⟨(X.T.alloc cnt).2.2, if (X.T.alloc cnt).2.1 = 0 then tchK X.tk (X.T.alloc cnt).1 else X.tk, if (X.T.alloc cnt).2.1 = 0 then true else X.mark⟩
def TS.write (X : TS) (k kind : Int) (s : List UInt8) : TS := ⟨if X.T.writeE k kind s.length = 0 then X.T.write k.toNat (kind.toNat, s) else X.T, if X.T.writeE k kind s.length = 0 then tchK X.tk k.toNat else X.tk, X.mark⟩
def TS.free (X : TS) (k : Int) : TS := ⟨if X.T.there k = 0 then X.T.free k.toNat else X.T, if X.T.there k = 0 then tchK X.tk k.toNat else X.tk, if X.T.there k = 0 then true else X.mark⟩
def TS.root (X : TS) (i v : Nat) : TS := ⟨X.T.setRoot i v, X.tk, true⟩

def actS (a : ActD) : List UInt8 := a.s.data.toList.take 100
theorem cat120 (xs : ByteArray) : (xs ++ (⟨#[120]⟩ : ByteArray)).data.toList = xs.data.toList ++ [120] := by simp

def wrp (x m : Int) : Int := (x.tmod m + m).tmod m
def othK (a : ActD) (k : Nat) : Int := 1 + (wrp a.pid 9 + (k : Int)).tmod 9

/-- One round of changes. -/
def TS.chg1 (X : TS) (cnt : Nat) (a : ActD) (k : Nat) : TS :=
  let Y := if (X.T.alloc cnt).2.1 = 0 then (X.alloc cnt).write ((X.T.alloc cnt).1 : Int) (1 + wrp a.kd 200) (actS a) else X.alloc cnt
  if a.kind.tmod 3 = 0 then Y.free (othK a k) else Y.write (othK a k) 7 (actS a ++ [120])

def TS.chgTo (X : TS) (cnt : Nat) (a : ActD) : Nat → TS
  | 0 => X
  | k + 1 => (X.chgTo cnt a k).chg1 cnt a k

def TS.chg (X : TS) (cnt : Nat) (a : ActD) : TS := (X.chgTo cnt a (1 + wrp a.kd 3).toNat).root (wrp a.pid 4).toNat (wrp a.kd 100).toNat

theorem wrp_bounds (x : Int) {m : Int} (h : 0 < m) : 0 ≤ wrp x m ∧ wrp x m < m := by
  unfold wrp
  have h1 := Int.lt_tmod_of_pos x h
  have h2 : 0 ≤ x.tmod m + m := by omega
  exact ⟨Int.tmod_nonneg _ h2, Int.tmod_lt_of_pos _ h⟩

section
variable {w0 w : World} {ps : List HP} {x d t N log cnt E : Nat} {arm sp : Bool} {S : PSt}

theorem txP_pa {tk : Nat → Bool} {mk : Bool} {T : PSt} (H : St w0 w (txP x d t N log cnt E arm S T tk mk sp :: ps)) : (T.alloc cnt).1 ≤ 8192 := by
  obtain ⟨X, h1, h2, -⟩ := txP_open H
  have hm := h2.views.most
  have hc := h1.rest.sh.few
  unfold PSt.alloc
  split
  · split <;> simp only [] <;> omega
  · rename_i hf
    simp only []
    have hl : T.freed.getLastD 0 ∈ T.freed := by
      rw [List.getLastD_eq_getLast?, List.getLast?_eq_some_getLast hf]
      exact List.getLast_mem hf
    have := (h2.views.mem hl).2
    omega

set_option maxHeartbeats 8000000 in
theorem law_change (hh : HalfAt w0) (X : TS) (a : ActD) (hs : a.s.size ≤ maxLen) (H : St w0 w (txP x d t N log cnt E arm S X.T X.tk X.mark sp :: ps)) :
    Calls Tryz.prog 16 #[.pointer (some ⟨t, 0, none⟩), .agg a.cells.toArray] w fun e w' => e = .returned (.tuple #[]) ∧
      St w0 w' (txP x d t N log cnt E arm S (X.chg cnt a).T (X.chg cnt a).tk (X.chg cnt a).mark sp :: ps) := by
  have H0 := hid (H.alloc a.cells 46)
  simp only [ActD.cells] at H0
  obtain ⟨Y, hY⟩ : ∃ Y, Hid (X.chg cnt a = Y) := ⟨_, hid rfl⟩
  rw [hY.out]
  unfold ActD.cells
  have HA := hid hs
  clear H
  obtain ⟨M, hM⟩ : ∃ M : Nat, M = min 100 a.s.size := ⟨_, rfl⟩
  have hM1 : min (a.s.size : Int) 100 = (M : Int) := by omega
  have hM2 : M ≤ a.s.size := by omega
  have hM3 : M ≤ 100 := by omega
  have hxl := hid (cut_extract a.s 100 (min 100 a.s.size) rfl)
  have hxsz := hid (show (a.s.extract 0 (min 100 a.s.size)).size ≤ 100 by rw [ByteArray.size_extract]; omega)
  obtain ⟨r3, hr3⟩ : ∃ r, a.kd.tmod 3 = r := ⟨_, rfl⟩
  have r3b := Int.lt_tmod_of_pos a.kd (show (0 : Int) < 3 by omega)
  have r3c := Int.tmod_lt_of_pos a.kd (show (0 : Int) < 3 by omega)
  rw [hr3] at r3b r3c
  obtain ⟨n3, hn3⟩ : ∃ n : Nat, 1 + r3 % 3 = (n : Int) := ⟨(1 + r3 % 3).toNat, by omega⟩
  have e3 : (r3 + 3).tmod 3 = (r3 + 3) % 3 := Int.tmod_eq_emod_of_nonneg (by omega)
  go_enter Tryz.func16, Tryz.ntmps16
  go_upto_region 1 with fail
  generalize w.heap.size = ab at *
  generalize (w.alloc _) = w1 at *
  have d0 := (H0.out.obj 0 rfl).cell 0
  have d1 := (H0.out.obj 0 rfl).cell 1
  have d2 := (H0.out.obj 0 rfl).cell 2
  have d3 := (H0.out.obj 0 rfl).cell 3
  simp only [List.getElem?_cons_succ, List.getElem?_cons_zero] at d0 d1 d2 d3
  have e0 : X.chgTo cnt a 0 = X := rfl
  rw [← e0] at H0
  clear e0
  obtain ⟨r200, hr200⟩ : ∃ r, a.kd.tmod 200 = r := ⟨_, rfl⟩
  have r200b := Int.lt_tmod_of_pos a.kd (show (0 : Int) < 200 by omega)
  have r200c := Int.tmod_lt_of_pos a.kd (show (0 : Int) < 200 by omega)
  rw [hr200] at r200b r200c
  have e200 : (r200 + 200).tmod 200 = (r200 + 200) % 200 := Int.tmod_eq_emod_of_nonneg (by omega)
  obtain ⟨n200, hn200⟩ : ∃ n : Nat, r200 % 200 = (n : Int) := ⟨(r200 % 200).toNat, by omega⟩
  obtain ⟨r9, hr9⟩ : ∃ r, a.pid.tmod 9 = r := ⟨_, rfl⟩
  have r9b := Int.lt_tmod_of_pos a.pid (show (0 : Int) < 9 by omega)
  have r9c := Int.tmod_lt_of_pos a.pid (show (0 : Int) < 9 by omega)
  rw [hr9] at r9b r9c
  have e9 : (r9 + 9).tmod 9 = (r9 + 9) % 9 := Int.tmod_eq_emod_of_nonneg (by omega)
  obtain ⟨n9, hn9⟩ : ∃ n : Nat, r9 % 9 = (n : Int) := ⟨(r9 % 9).toNat, by omega⟩
  have w3 : 1 + wrp a.kd 3 = (n3 : Int) := by unfold wrp; rw [hr3, e3, ← hn3]; omega
  have w200 : wrp a.kd 200 = (n200 : Int) := by unfold wrp; rw [hr200, e200, ← hn200]; omega
  have w9 : wrp a.pid 9 = (n9 : Int) := by unfold wrp; rw [hr9, e9, ← hn9]; omega
  have W200 := hid w200
  have W9 := hid w9
  have W3 := hid w3
  clear w3 w200 w9
  go_wp2
  generalize a.s.extract 0 (min 100 a.s.size) = xs at *
  go_loopw [22] (fun kv wr => ∃ k : Nat, k ≤ n3 ∧ kv = .int .i64 (k : Int) ∧ St w0 wr (objP ab a.cells 46 :: txP x d t N log cnt E arm S (X.chgTo cnt a k).T (X.chgTo cnt a k).tk (X.chgTo cnt a k).mark sp :: ps)) (fun kv _ => n3 - (intOf kv).toNat)
  case atStart => exact ⟨0, Nat.zero_le _, rfl, H0.out⟩
  case round =>
    obtain ⟨k, hk, rfl, hM⟩ := hrel
    clear H0
    have HH := hid hM
    clear hM
    have d0 := (HH.out.obj 0 rfl).cell 0
    have d1 := (HH.out.obj 0 rfl).cell 1
    have d2 := (HH.out.obj 0 rfl).cell 2
    simp only [ActD.cells, List.getElem?_cons_succ, List.getElem?_cons_zero] at d0 d1 d2
    by_cases hlt : k < n3
    · have hl1 : (k : Int) < (n3 : Int) := by omega
      have hal := tp_alloc hh (HH.out.pull 1 rfl)
      clear d0 d1 d2
      obtain ⟨Z, hZ⟩ : ∃ Z, Hid (X.chgTo cnt a k = Z) := ⟨_, hid rfl⟩
      rw [hZ.out] at hal HH
      have hA : (Z.T.alloc cnt).2.1 = 0 ∨ (Z.T.alloc cnt).2.1 = 7 := by
        unfold PSt.alloc
        split
        · split
          · exact .inr rfl
          · exact .inl rfl
        · exact .inl rfl
      have hn3b : (n3 : Int) ≤ 3 := by omega
      have hn9b : (n9 : Int) < 9 := by omega
      have hn9c : n9 < 9 := by omega
      clear hr3 r3b r3c e3 hn3 hM1 hM2 hM3
      obtain ⟨o, ho⟩ : ∃ o : Nat, ((n9 : Int) + (k : Int)).tmod 9 = (o : Int) := ⟨(n9 + k) % 9, by rw [Int.tmod_eq_emod_of_nonneg (by omega)]; omega⟩
      have ho9 : o < 9 := by rw [Int.tmod_eq_emod_of_nonneg (by omega)] at ho; omega
      have g1 := txP_pa (HH.out.pull 1 rfl)
      obtain ⟨pa, ea, Ta, hpe⟩ : ∃ p e T, Hid (Z.T.alloc cnt = (p, e, T)) := ⟨(Z.T.alloc cnt).1, (Z.T.alloc cnt).2.1, (Z.T.alloc cnt).2.2, hid rfl⟩
      rw [hpe.out] at hal hA g1
      simp only [] at hal hA g1
      rcases hA with rfl | rfl
      · simp only [if_true] at hal
        obtain ⟨nk, hnk⟩ : ∃ n : Nat, 1 + (n200 : Int) = (n : Int) := ⟨1 + n200, by omega⟩
        have g3 : (1 : Int) + (o : Int) < 9223372036854775808 := by omega
        obtain ⟨rk, hrk⟩ : ∃ r, a.kind.tmod 3 = r := ⟨_, rfl⟩
        by_cases hk0 : rk = 0
        · have hk1 : (rk == 0) = true := by simpa using hk0
          go_wp2_with (first
            | (go_at_call 21; refine hal.mono ?_; rintro e w2 ⟨rfl, H2⟩; have H2 := hid (H2.pull 1 rfl); have d2 : w2.cell? _ = _ := (H2.out.obj 0 rfl).cell 2; simp only [ActD.cells, List.getElem?_cons_succ, List.getElem?_cons_zero] at d2; have hwr := tp_write hh (H2.out.pull 1 rfl) (pa : Int) (nk : Int) (by omega) xs)
            | (go_at_call 22; refine hwr.mono ?_; rintro e w3 ⟨rfl, H3⟩; have H3 := hid (H3.pull 1 rfl); clear hwr; have d0 : w3.cell? _ = _ := (H3.out.obj 0 rfl).cell 0; have d1 : w3.cell? _ = _ := (H3.out.obj 0 rfl).cell 1; simp only [ActD.cells, List.getElem?_cons_succ, List.getElem?_cons_zero] at d0 d1; have hop := tp_free hh (H3.out.pull 1 rfl) (1 + (o : Int)) (by omega))
            | (go_at_call 28; refine hop.mono ?_; rintro e w4 ⟨rfl, H4⟩; have H4 := hid (H4.pull 1 rfl)))
          go_roundw
          case rel =>
            refine ⟨k + 1, by omega, by go_num, ?_⟩
            have ea := hxl.out.symm
            have eo : othK a k = 1 + (o : Int) := by unfold othK; rw [W9.out, ho]
            have ek : 1 + wrp a.kd 200 = (nk : Int) := by rw [W200.out, hnk]
            have H5 := H4.out
            rw [show X.chgTo cnt a (k + 1) = Z.chg1 cnt a k by rw [TS.chgTo, hZ.out]]
            unfold TS.chg1 TS.alloc TS.free TS.write actS
            rw [hpe.out, ea, hrk, ek, eo]
            try simp only [ba_size] at H5
            simp only [if_true, if_pos hk0]
            exact H5
          case measure => first | (simp [intOf]; done) | (simp [intOf]; omega)
        · have hk1 : (rk == 0) = false := by simpa using hk0
          have hcat : xs.size + (⟨#[120]⟩ : ByteArray).size ≤ 9223372036854775807 := by have h1 := hxsz.out; have h2 : (⟨#[120]⟩ : ByteArray).size = 1 := rfl; omega
          go_wp2_with (first
            | (go_at_call 21; refine hal.mono ?_; rintro e w2 ⟨rfl, H2⟩; have H2 := hid (H2.pull 1 rfl); have d2 : w2.cell? _ = _ := (H2.out.obj 0 rfl).cell 2; simp only [ActD.cells, List.getElem?_cons_succ, List.getElem?_cons_zero] at d2; have hwr := tp_write hh (H2.out.pull 1 rfl) (pa : Int) (nk : Int) (by omega) xs)
            | (go_at_call 22; refine hwr.mono ?_; rintro e w3 ⟨rfl, H3⟩; have H3 := hid (H3.pull 1 rfl); clear hwr; have d0 : w3.cell? _ = _ := (H3.out.obj 0 rfl).cell 0; have d1 : w3.cell? _ = _ := (H3.out.obj 0 rfl).cell 1; simp only [ActD.cells, List.getElem?_cons_succ, List.getElem?_cons_zero] at d0 d1; have hop := tp_write hh (H3.out.pull 1 rfl) (1 + (o : Int)) 7 (by omega) (xs ++ ⟨#[120]⟩))
            | (go_at_call 22; refine hop.mono ?_; rintro e w4 ⟨rfl, H4⟩; have H4 := hid (H4.pull 1 rfl)))
          go_roundw
          case rel =>
            refine ⟨k + 1, by omega, by go_num, ?_⟩
            have ea := hxl.out.symm
            have eo : othK a k = 1 + (o : Int) := by unfold othK; rw [W9.out, ho]
            have ek : 1 + wrp a.kd 200 = (nk : Int) := by rw [W200.out, hnk]
            have H5 := H4.out
            rw [show X.chgTo cnt a (k + 1) = Z.chg1 cnt a k by rw [TS.chgTo, hZ.out]]
            unfold TS.chg1 TS.alloc TS.free TS.write actS
            rw [hpe.out, ea, hrk, ek, eo]
            simp only [ba_size, cat120] at H5
            simp only [if_true, if_neg hk0]
            exact H5
          case measure => first | (simp [intOf]; done) | (simp [intOf]; omega)
      · simp only [show ((7 : Int) = 0) = False by simp, if_false] at hal
        have g3 : (1 : Int) + (o : Int) < 9223372036854775808 := by omega
        obtain ⟨rk, hrk⟩ : ∃ r, a.kind.tmod 3 = r := ⟨_, rfl⟩
        by_cases hk0 : rk = 0
        · have hk1 : (rk == 0) = true := by simpa using hk0
          go_wp2_with (first
            | (go_at_call 21; refine hal.mono ?_; rintro e w3 ⟨rfl, H3⟩; have H3 := hid (H3.pull 1 rfl); have d0 : w3.cell? _ = _ := (H3.out.obj 0 rfl).cell 0; have d1 : w3.cell? _ = _ := (H3.out.obj 0 rfl).cell 1; simp only [ActD.cells, List.getElem?_cons_succ, List.getElem?_cons_zero] at d0 d1; have hop := tp_free hh (H3.out.pull 1 rfl) (1 + (o : Int)) (by omega))
            | (go_at_call 28; refine hop.mono ?_; rintro e w4 ⟨rfl, H4⟩; have H4 := hid (H4.pull 1 rfl)))
          go_roundw
          case rel =>
            refine ⟨k + 1, by omega, by go_num, ?_⟩
            have ea := hxl.out.symm
            have eo : othK a k = 1 + (o : Int) := by unfold othK; rw [W9.out, ho]
            have H5 := H4.out
            rw [show X.chgTo cnt a (k + 1) = Z.chg1 cnt a k by rw [TS.chgTo, hZ.out]]
            unfold TS.chg1 TS.alloc TS.free TS.write actS
            rw [hpe.out, ea, hrk, eo]
            try simp only [ba_size] at H5
            simp only [if_true, if_pos hk0, show ((7 : Int) = 0) = False by simp, if_false]
            exact H5
          case measure => first | (simp [intOf]; done) | (simp [intOf]; omega)
        · have hk1 : (rk == 0) = false := by simpa using hk0
          have hcat : xs.size + (⟨#[120]⟩ : ByteArray).size ≤ 9223372036854775807 := by have h1 := hxsz.out; have h2 : (⟨#[120]⟩ : ByteArray).size = 1 := rfl; omega
          go_wp2_with (first
            | (go_at_call 21; refine hal.mono ?_; rintro e w3 ⟨rfl, H3⟩; have H3 := hid (H3.pull 1 rfl); have d0 : w3.cell? _ = _ := (H3.out.obj 0 rfl).cell 0; have d1 : w3.cell? _ = _ := (H3.out.obj 0 rfl).cell 1; simp only [ActD.cells, List.getElem?_cons_succ, List.getElem?_cons_zero] at d0 d1; have hop := tp_write hh (H3.out.pull 1 rfl) (1 + (o : Int)) 7 (by omega) (xs ++ ⟨#[120]⟩))
            | (go_at_call 22; refine hop.mono ?_; rintro e w4 ⟨rfl, H4⟩; have H4 := hid (H4.pull 1 rfl)))
          go_roundw
          case rel =>
            refine ⟨k + 1, by omega, by go_num, ?_⟩
            have ea := hxl.out.symm
            have eo : othK a k = 1 + (o : Int) := by unfold othK; rw [W9.out, ho]
            have H5 := H4.out
            rw [show X.chgTo cnt a (k + 1) = Z.chg1 cnt a k by rw [TS.chgTo, hZ.out]]
            unfold TS.chg1 TS.alloc TS.free TS.write actS
            rw [hpe.out, ea, hrk, eo]
            simp only [ba_size, cat120] at H5
            simp only [if_true, if_neg hk0, show ((7 : Int) = 0) = False by simp, if_false]
            exact H5
          case measure => first | (simp [intOf]; done) | (simp [intOf]; omega)
    · have hl1 : ¬ (k : Int) < (n3 : Int) := by omega
      obtain rfl : k = n3 := by omega
      clear hlt
      obtain ⟨r4, hr4⟩ : ∃ r, a.pid.tmod 4 = r := ⟨_, rfl⟩
      have r4b := Int.lt_tmod_of_pos a.pid (show (0 : Int) < 4 by omega)
      have r4c := Int.tmod_lt_of_pos a.pid (show (0 : Int) < 4 by omega)
      rw [hr4] at r4b r4c
      have e4 : (r4 + 4).tmod 4 = (r4 + 4) % 4 := Int.tmod_eq_emod_of_nonneg (by omega)
      obtain ⟨n4, hn4⟩ : ∃ n : Nat, r4 % 4 = (n : Int) := ⟨(r4 % 4).toNat, by omega⟩
      obtain ⟨r100, hr100⟩ : ∃ r, a.kd.tmod 100 = r := ⟨_, rfl⟩
      have r100b := Int.lt_tmod_of_pos a.kd (show (0 : Int) < 100 by omega)
      have r100c := Int.tmod_lt_of_pos a.kd (show (0 : Int) < 100 by omega)
      rw [hr100] at r100b r100c
      have e100 : (r100 + 100).tmod 100 = (r100 + 100) % 100 := Int.tmod_eq_emod_of_nonneg (by omega)
      obtain ⟨n100, hn100⟩ : ∃ n : Nat, r100 % 100 = (n : Int) := ⟨(r100 % 100).toNat, by omega⟩
      have W4 := hid (show (wrp a.pid 4).toNat = n4 by unfold wrp; rw [hr4, e4]; omega)
      have W100 := hid (show (wrp a.kd 100).toNat = n100 by unfold wrp; rw [hr100, e100]; omega)
      have hsr := tp_setroot (HH.out.pull 1 rfl) n4 n100 (by omega) (by omega)
      clear hr3 r3b r3c e3 hr200 r200b r200c e200 hn200 hr9 r9b r9c e9 hn9 hn3 hM1 hM2 hM3
      go_wp2_with (go_at_call 30; refine hsr.mono ?_; rintro e w2 ⟨rfl, H2⟩)
      go_wp2
      go_end0
      refine ⟨rfl, ?_⟩
      rw [← hY.out]
      unfold TS.chg TS.root
      rw [W4.out, W100.out, W3.out, Int.toNat_natCast]
      exact (H2.pull 1 rfl).drop
end

end Go.Proofs.YtnffnpndnaofhaaGreatDoor
