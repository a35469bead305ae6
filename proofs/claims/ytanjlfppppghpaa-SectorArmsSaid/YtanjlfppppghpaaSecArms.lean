/- SectorArms: the walk: it returns true, whatever number and kinds come in, and nothing that was there is changed. -/
import Derived.Test.YtanjlfppppghpaaSecLaw
import Derived.Test.YtanjlfppppghpaaSecArmsPure
namespace Go.Proofs.Ytanjlfppppghpaa
open Go.RowKit

/-- The number in the variable that a pointer leads to. -/
def numAt (w : World) (v : Value) : Int := match v with
  | .pointer (some a) => intOf ((w.cell? a).getD (.int .i64 0))
  | _ => 0

theorem closure_ok {w : World} {d db ib : Nat} {fp : List Nat} {σ : Dk} (h : DiskAt w d fp σ) (k : Nat) (hd : w.cell? ⟨db, 0, none⟩ = some (.pointer (some ⟨d, 0, none⟩))) (hi : w.cell? ⟨ib, 0, none⟩ = some (.int .i64 (k : Int))) (hroom : σ.pend.length ≤ 1000000000) :
    Calls Try.prog 20 #[.pointer (some ⟨db, 0, none⟩), .pointer (some ⟨ib, 0, none⟩)] w fun e w' => e = .returned (.int .i64 (σ.write ((k : Int) % 3) xText).1) ∧ DiskStep w d fp (σ.write ((k : Int) % 3) xText).2 w' := by
  have hW := fun W (hW : W = w) => hW ▸ disk_write h ((k : Int) % 3) ⟨#[120]⟩ hroom
  clear h
  go_enter Try.func20, Try.ntmps20
  go_wp2_with (go_at_call 10; refine (hW _ rfl).mono ?_; rintro e w' ⟨rfl, S⟩)
  go_ret
  exact ⟨rfl, S⟩

/-- At the head of a round: the variables d (block db) and i (block ib). -/
def ArmMid (w wr : World) (d db ib : Nat) (n : Nat) (kinds : List Bool) (k : Nat) : Prop :=
  ∃ fp, Own w wr d fp (armDk n kinds k) ∧ At wr db [.pointer (some ⟨d, 0, none⟩)] 24 ∧ At wr ib [.int .i64 (k : Int)] 3 ∧ db ∉ fp ∧ ib ∉ fp ∧ ib ≠ db ∧ w.heap.size ≤ ib

set_option maxHeartbeats 4000000 in
set_option maxRecDepth 100000 in
theorem arms_walk (w : World) (n0 : Int) (kv : Value) (kinds : List Bool) (hk : Reads w kv (kinds.map Value.bool)) (hb1 : -9223372036854775808 ≤ n0) (hb2 : n0 ≤ 9223372036854775807) :
    Calls Try.prog 5 #[.int .i64 n0, kv] w fun e w' => e = .returned (.bool true) ∧ Pres [] w w' := by
  obtain ⟨ak, capk, ek, hk1, hk2, -⟩ := id hk
  rw [List.length_map] at ek hk1
  subst ek
  have hmax : kinds.length ≤ 9223372036854775807 := by simp only [maxLen] at hk2; omega
  have HK := hid hk
  have t1 : -19 ≤ n0.tmod 20 := by have := Int.lt_tmod_of_pos n0 (show (0 : Int) < 20 by omega); omega
  have t2 : n0.tmod 20 ≤ 19 := by have := Int.tmod_lt_of_pos n0 (show (0 : Int) < 20 by omega); omega
  obtain ⟨n, hn⟩ := Int.eq_ofNat_of_zero_le (show 0 ≤ n0.tmod 20 % 20 by omega)
  have hn20 : (n : Int) < 20 := by omega
  clear hk hk1 hk2 hb1 hb2
  go_enter Try.func5, Try.ntmps5
  go_wp2_with fail
  refine (new_ok' 3 _ (by omega) (by omega)).mono ?_
  rintro e w1 ⟨d, fp, rfl, D0, P0, F0⟩
  have H0 : Own w w1 d fp (Dk.new 3) := ⟨D0, P0, F0⟩
  clear D0 P0 F0
  go_wp2_with fail
  have B1 := At.new w1 [.pointer (some ⟨d, 0, none⟩)] 24
  have N1 : w1.heap.size ∉ fp := fun hm => by have := H0.1.lt _ hm; omega
  have G1 := H0.2.1.size
  have H1 := H0.quiet ((Pres.refl [] w1).alloc (.cells [.pointer (some ⟨d, 0, none⟩)].toArray 24))
  have S1 : w1.heap.size < (w1.alloc (.cells [.pointer (some ⟨d, 0, none⟩)].toArray 24)).heap.size := by simp
  change Calls Try.prog _ _ (w1.alloc (.cells [.pointer (some ⟨d, 0, none⟩)].toArray 24)) _
  generalize w1.alloc (.cells [.pointer (some ⟨d, 0, none⟩)].toArray 24) = w2 at *
  generalize w1.heap.size = db at *
  clear H0
  refine (disk_arm H1.1 _ (by omega)).mono ?_
  rintro e w3 ⟨rfl, S⟩
  obtain ⟨fp3, H3, P3, F3⟩ := H1.step' S
  have B3 := B1.pres P3 N1
  have N3 := F3 db N1 S1
  have z0 : (((Dk.new 3).arm (n : Int)).1 != 0) = false := by simp [Dk.arm, Dk.new]
  have H3' : Own w w3 d fp3 (armDk n kinds 0) := H3
  have L3 := B3.lt
  clear H1 B1 P3 F3 N1 S1 S H3 t1 t2
  go_wp2_with fail
  have HM : ArmMid w (w3.alloc (.cells #[.int .i64 0] 3)) d db w3.heap.size n kinds 0 := by
    refine ⟨fp3, H3'.quiet ((Pres.refl [] w3).alloc _), B3.alloc _, At.new w3 [.int .i64 0] 3, N3, fun hm => by have := H3'.1.lt _ hm; omega, by omega, H3'.2.1.size⟩
  clear B3 N3 H3' L3 z0
  go_loopw [7] (fun iv wr => ∃ (k ib : Nat), k ≤ kinds.length ∧ k ≤ 40 ∧ iv = .pointer (some ⟨ib, 0, none⟩) ∧ ArmMid w wr d db ib n kinds k) (fun iv wr => (40 - numAt wr iv).toNat)
  case atStart => exact ⟨0, _, Nat.zero_le _, Nat.zero_le _, rfl, HM⟩
  case round =>
    obtain ⟨k, ib, hk, h40, rfl, fpk, hO, hD, hI, hF1, hF2, hne, hG⟩ := hrel
    clear HM
    have c0 := hD.cell 0
    have c1 := hI.cell 0
    simp only [List.getElem?_cons_zero] at c0 c1
    have hnum : numAt wr (.pointer (some ⟨ib, 0, none⟩)) = k := by simp [numAt, c1, intOf]
    have HN := hid hnum
    clear hnum
    have hinv := armDk_inv (by omega) kinds k (n := n)
    by_cases hlt : k < kinds.length ∧ k < 40
    · obtain ⟨hlt, h40'⟩ := hlt
      have hl1 : (k : Int) < (kinds.length : Int) := by omega
      have hl2 : (k : Int) < 40 := by omega
      obtain ⟨av', capv', ev, -, -, hv⟩ := HK.out.pres hO.2.1 (by simp)
      obtain ⟨b, off, ea, hcb⟩ := hv k (.bool kinds[k]) (by rw [List.getElem?_map, List.getElem?_eq_getElem hlt]; rfl)
      simp only [List.length_map, Value.slice.injEq] at ev
      obtain ⟨rfl, -, rfl⟩ := ev
      subst ea
      obtain ⟨s1, s2, s3, s4⟩ := armed_step (by omega) hinv kinds[k]
      have hroom : (armDk n kinds k).pend.length ≤ 1000000000 := by have := hinv.pend; omega
      have hnext : armDk n kinds (k + 1) = (armStep (armDk n kinds k) kinds[k] k).2 := by
        simp only [armDk]; rw [List.getD_eq_getElem?_getD, List.getElem?_eq_getElem hlt]; rfl
      have hcl := fun W (hW : W = wr) => hW ▸ closure_ok hO.1 k c0 c1 hroom
      have hfl := fun W (hW : W = wr) => hW ▸ disk_flush hO.1
      have HX := And.intro hO (And.intro hD (And.intro hI (And.intro hF1 (And.intro hF2 (And.intro hne (And.intro hG (And.intro s1 (And.intro s2 (And.intro s3 (And.intro s4 hnext))))))))))
      clear hO hD hI hF1 hF2 hne hG s1 s2 s3 s4 hnext hinv hv hroom
      have hstep : ∀ W, W = wr → True := fun _ _ => trivial
      clear hstep
      cases hkk : kinds[k]
      all_goals
        rw [hkk] at hcb HX
        go_upto_region 14 with (first | (go_at_call 16; refine (hfl _ rfl).mono ?_; rintro e wA ⟨rfl, S⟩) | (go_at_call 20; refine (hcl _ rfl).mono ?_; rintro e wA ⟨rfl, S⟩))
        obtain ⟨hO, hD, hI, hF1, hF2, hne, hG, s1, s2, s3, s4, hnext⟩ := HX
        have S' : DiskStep wr d fpk (armDk n kinds (k + 1)) wA := by rw [hnext]; exact S
        rw [← hnext] at s2 s3 s4
        obtain ⟨fpA, hOA, PA, FA⟩ := hO.step' S'
        have hDA := hD.pres PA hF1
        have hIA := hI.pres PA hF2
        have hFd := FA db hF1 hD.lt
        have hFi := FA ib hF2 hI.lt
        have hdw := fun W (hW : W = wA.drew) => hW ▸ disk_down ((hOA.quiet (Pres.refl _ _).drew).1)
        have hdn := fun W (hW : W = wA.drew) => hW ▸ disk_done ((hOA.quiet (Pres.refl _ _).drew).1)
        rw [s3] at hdw
        rw [s4] at hdn
        have c0A : wA.cell? ⟨db, 0, none⟩ = some (.pointer (some ⟨d, 0, none⟩)) := hDA.cell 0
        have c1A : wA.cell? ⟨ib, 0, none⟩ = some (.int .i64 (k : Int)) := hIA.cell 0
        simp only [armStep, ↓reduceIte, Bool.false_eq_true] at s1
        rw [s1]
        have HY := And.intro hOA (And.intro hDA (And.intro hIA (And.intro hFd (And.intro hFi (And.intro hne hG)))))
        have hLI : ib < wA.heap.size := hIA.lt
        clear S S' hOA hDA hIA hFd hFi hne hG hcl hfl s1 s2 s3 s4 hnext hO hD hI hF1 hF2 PA FA hcb c0 c1
        by_cases hkn : k < n
        · rw [if_pos hkn]
          have hkn' : (k : Int) < (n : Int) := by omega
          have hmn : ((min (k + 1) n : Nat) : Int) = (k : Int) + 1 := by omega
          have hmi : (if (n : Int) < (k : Int) + 1 then (n : Int) else (k : Int) + 1) = (k : Int) + 1 := by rw [if_neg (by omega)]
          have hge : decide ((n : Int) ≤ (k : Int)) = false := by simp; omega
          have hge2 : decide (n ≤ k) = false := by simp; omega
          rw [show decide (n ≤ k) = false by simp; omega] at hdw
          rw [hmn] at hdn
          clear hmn
          go_upto_region 16 with (fail)
          have hwk : IntKind.i64.wrap ((k : Int) + 1) = (k : Int) + 1 := by rw [IntKind.wrap_i64]; omega
          refine wp_region_ord (by kernel_rfl) (fun W => W = wA.drew) 15
            [(0, true), (2, true), (3, true), (4, true), (1, false), (5, true), (6, true), (7, true), (9, true), (10, true), (11, true), (12, true), (8, false), (13, true), (14, true)] (by kernel_rfl) ?hq rfl ?_
          case hq => intro c a dd v w h; cases dd <;> exact h
          iterate 4 (refine wpOrd_readw (v := _) rfl rfl (by intro w' hS; subst hS; go_simp; rfl) ?_; (try simp only [Act.put, List.setIfInBounds_toArray, List.set_cons_succ, List.set_cons_zero, List.getElem_toArray, List.getElem_cons_succ, List.getElem_cons_zero]))
          refine wpOrd_dow rfl rfl (fun K hK => ?_)
          go_simp
          refine (hdw _ rfl).mono ?_
          rintro e w6 ⟨rfl, rfl⟩
          refine hK _ _ ⟨rfl, ?_⟩
          clear hK K
          (try simp only [Act.put, List.setIfInBounds_toArray, List.set_cons_succ, List.set_cons_zero, List.getElem_toArray, List.getElem_cons_succ, List.getElem_cons_zero])
          iterate 7 (refine wpOrd_readw (v := _) rfl rfl (by intro w' hS; subst hS; go_simp; rfl) ?_; (try simp only [Act.put, List.setIfInBounds_toArray, List.set_cons_succ, List.set_cons_zero, List.getElem_toArray, List.getElem_cons_succ, List.getElem_cons_zero]))
          refine wpOrd_dow rfl rfl (fun K hK => ?_)
          go_simp
          refine (hdn _ rfl).mono ?_
          rintro e w6 ⟨rfl, rfl⟩
          refine hK _ _ ⟨rfl, ?_⟩
          clear hK K
          (try simp only [Act.put, List.setIfInBounds_toArray, List.set_cons_succ, List.set_cons_zero, List.getElem_toArray, List.getElem_cons_succ, List.getElem_cons_zero])
          iterate 2 (refine wpOrd_readw (v := _) rfl rfl (by intro w' hS; subst hS; go_simp; rfl) ?_; (try simp only [Act.put, List.setIfInBounds_toArray, List.set_cons_succ, List.set_cons_zero, List.getElem_toArray, List.getElem_cons_succ, List.getElem_cons_zero]))
          refine wpOrd_end ?_
          simp only [List.drop_succ_cons, List.drop_zero]
          clear hdw hdn hmi hge hge2 hwk
          go_wp2
          go_roundw
          case rel =>
            obtain ⟨hOA, hDA, hIA, hFd, hFi, hne, hG⟩ := HY
            have PN : Pres [] wA (wA.alloc (.cells #[.int .i64 ((k : Int) + 1)] 3)).drew := ((Pres.refl [] wA).alloc _).drew
            refine ⟨k + 1, wA.heap.size, by omega, by omega, rfl, fpA, hOA.quiet PN, hDA.pres PN (by simp), ?_, hFd, fun hm => by have := hOA.1.lt _ hm; omega, by have := hDA.lt; omega, hOA.2.1.size⟩
            exact (At.new wA [.int .i64 ((k : Int) + 1)] 3).drew
          case measure => rw [HN.out]; simp [numAt, intOf]; omega
        · rw [if_neg hkn]
          have hkn' : ¬ (k : Int) < (n : Int) := by omega
          have hmn : ((min (k + 1) n : Nat) : Int) = (n : Int) := by omega
          have hmi : (if (n : Int) < (k : Int) + 1 then (n : Int) else (k : Int) + 1) = (n : Int) := by rw [if_pos (by omega)]
          have hge : decide ((n : Int) ≤ (k : Int)) = true := by simp; omega
          have hge2 : decide (n ≤ k) = true := by simp; omega
          rw [show decide (n ≤ k) = true by simp; omega] at hdw
          rw [hmn] at hdn
          clear hmn
          go_upto_region 16 with (fail)
          have hwk : IntKind.i64.wrap ((k : Int) + 1) = (k : Int) + 1 := by rw [IntKind.wrap_i64]; omega
          refine wp_region_ord (by kernel_rfl) (fun W => W = wA.drew) 15
            [(0, true), (2, true), (3, true), (4, true), (1, false), (5, true), (6, true), (7, true), (9, true), (10, true), (11, true), (12, true), (8, false), (13, true), (14, true)] (by kernel_rfl) ?hq rfl ?_
          case hq => intro c a dd v w h; cases dd <;> exact h
          iterate 4 (refine wpOrd_readw (v := _) rfl rfl (by intro w' hS; subst hS; go_simp; rfl) ?_; (try simp only [Act.put, List.setIfInBounds_toArray, List.set_cons_succ, List.set_cons_zero, List.getElem_toArray, List.getElem_cons_succ, List.getElem_cons_zero]))
          refine wpOrd_dow rfl rfl (fun K hK => ?_)
          go_simp
          refine (hdw _ rfl).mono ?_
          rintro e w6 ⟨rfl, rfl⟩
          refine hK _ _ ⟨rfl, ?_⟩
          clear hK K
          (try simp only [Act.put, List.setIfInBounds_toArray, List.set_cons_succ, List.set_cons_zero, List.getElem_toArray, List.getElem_cons_succ, List.getElem_cons_zero])
          iterate 7 (refine wpOrd_readw (v := _) rfl rfl (by intro w' hS; subst hS; go_simp; rfl) ?_; (try simp only [Act.put, List.setIfInBounds_toArray, List.set_cons_succ, List.set_cons_zero, List.getElem_toArray, List.getElem_cons_succ, List.getElem_cons_zero]))
          refine wpOrd_dow rfl rfl (fun K hK => ?_)
          go_simp
          refine (hdn _ rfl).mono ?_
          rintro e w6 ⟨rfl, rfl⟩
          refine hK _ _ ⟨rfl, ?_⟩
          clear hK K
          (try simp only [Act.put, List.setIfInBounds_toArray, List.set_cons_succ, List.set_cons_zero, List.getElem_toArray, List.getElem_cons_succ, List.getElem_cons_zero])
          iterate 2 (refine wpOrd_readw (v := _) rfl rfl (by intro w' hS; subst hS; go_simp; rfl) ?_; (try simp only [Act.put, List.setIfInBounds_toArray, List.set_cons_succ, List.set_cons_zero, List.getElem_toArray, List.getElem_cons_succ, List.getElem_cons_zero]))
          refine wpOrd_end ?_
          simp only [List.drop_succ_cons, List.drop_zero]
          clear hdw hdn hmi hge hge2 hwk
          go_wp2
          go_roundw
          case rel =>
            obtain ⟨hOA, hDA, hIA, hFd, hFi, hne, hG⟩ := HY
            have PN : Pres [] wA (wA.alloc (.cells #[.int .i64 ((k : Int) + 1)] 3)).drew := ((Pres.refl [] wA).alloc _).drew
            refine ⟨k + 1, wA.heap.size, by omega, by omega, rfl, fpA, hOA.quiet PN, hDA.pres PN (by simp), ?_, hFd, fun hm => by have := hOA.1.lt _ hm; omega, by have := hDA.lt; omega, hOA.2.1.size⟩
            exact (At.new wA [.int .i64 ((k : Int) + 1)] 3).drew
          case measure => rw [HN.out]; simp [numAt, intOf]; omega
    · have hOut : ¬ k < kinds.length ∨ (k < kinds.length ∧ ¬ k < 40) := by omega
      obtain ⟨q1, q2, q3⟩ := calmed_calm hinv
      have H40 := hid h40
      have HLT := hid hlt
      clear hlt h40
      have HY := And.intro hO (And.intro hD (And.intro hF1 (And.intro q1 (And.intro q2 q3))))
      have hdw := fun W (hW : W = wr) => hW ▸ disk_down hO.1
      clear hO hD hI hF1 hF2 hne hG q1 q2 q3
      cases hdn : (armDk n kinds k).down
      · rw [hdn] at hdw HY
        have HDN := hid hdn
        clear hdn hinv
        rcases hOut with hq | ⟨hq, hq2⟩
        all_goals
          go_wp2_with (go_at_call 18; refine (hdw _ rfl).mono ?_; rintro e wA ⟨rfl, rfl⟩)
          clear hdw
          obtain ⟨hO, hD, hF1, q1, q2, q3⟩ := HY
          have hDA := hD
          have hFA := hF1
          refine (disk_arm hO.1 (-1) (by omega)).mono ?_
          rintro e wB ⟨rfl, S⟩
          obtain ⟨fpB, hB, PB, FB⟩ := hO.step' S
          have hC : Calm ((armDk n kinds k).arm (-1)).2 (k + 0) := by simpa [calmed, HDN.out] using q3
          clear S
          have hDB := hDA.pres PB hFA
          have HB : ∃ (fp : List Nat) (σ : Dk), Own w wB d fp σ ∧ Calm σ (k + 0) ∧ At wB db [.pointer (some ⟨d, 0, none⟩)] 24 ∧ db ∉ fp := ⟨fpB, _, hB, hC, hDB, FB db hFA hDA.lt⟩
          clear hO hD hF1 q1 q2 q3 hB PB FB hC hDB hDA hFA
          go_wp2_with fail
          go_loopw [86] (fun iv wr' => ∃ j : Nat, j ≤ 30 ∧ iv = .int .i64 (j : Int) ∧ ∃ (fp : List Nat) (σ : Dk), Own w wr' d fp σ ∧ Calm σ (k + j) ∧ At wr' db [.pointer (some ⟨d, 0, none⟩)] 24 ∧ db ∉ fp) (fun iv _ => 30 - (intOf iv).toNat)
          case atStart => exact ⟨0, by omega, rfl, HB⟩
          case round =>
            obtain ⟨j, hj, rfl, fpj, σ, hO, hC, hD, hF⟩ := hrel
            clear HB
            have c0 := hD.cell 0
            simp only [List.getElem?_cons_zero] at c0
            by_cases hj30 : j < 30
            · have hj' : (j : Int) < 30 := by omega
              have hw := hC.write
              have HZ := And.intro hO (And.intro hD (And.intro hF hw.2))
              have hW := fun W (hW : W = wr) => hW ▸ disk_write hO.1 0 ⟨#[121]⟩ (by have := hC.pend; have := H40.out; omega)
              have hW' : ∀ W : World, W = wr → Calls Try.prog 10 #[.pointer (some ⟨d, 0, none⟩), .int .i64 0, .string ⟨#[121]⟩] W fun e w' => e = .returned (.int .i64 0) ∧ DiskStep W d fpj (σ.write 0 yText).2 w' := by
                intro W hW0
                have := hW W hW0
                rw [show (⟨#[121]⟩ : ByteArray).data.toList = yText from rfl, hw.1] at this
                exact this
              clear hO hD hF hw hW hC
              go_wp2_with (go_at_call 10; refine (hW' _ rfl).mono ?_; rintro e wC ⟨rfl, S⟩)
              go_roundw
              case rel =>
                obtain ⟨hO, hD, hF, hC⟩ := HZ
                obtain ⟨fpC, h1, h2, h3⟩ := hO.step' S
                exact ⟨j + 1, by omega, by go_num, fpC, _, h1, hC, hD.pres h2 hF, h3 db hF hD.lt⟩
              case measure => simp [intOf]; omega
            · have hj' : ¬ (j : Int) < 30 := by omega
              have HPC := hid hO.2.1
              go_wp2_with (go_at_call 14; refine (works_ok _).mono ?_; rintro e wZ ⟨rfl, QZ⟩)
              go_ret
              exact ⟨rfl, HPC.out.then QZ⟩
      · rw [hdn] at hdw HY
        have HDN := hid hdn
        clear hdn hinv
        rcases hOut with hq | ⟨hq, hq2⟩
        all_goals
          go_wp2_with (go_at_call 18; refine (hdw _ rfl).mono ?_; rintro e wA ⟨rfl, rfl⟩)
          clear hdw
          obtain ⟨hO, hD, hF1, q1, q2, q3⟩ := HY
          refine (disk_on (keep := []) hO.1 (Reads.nil _) (fun h => absurd rfl h)).mono ?_
          rw [q1 trivial]
          rintro e wA ⟨rfl, S0⟩
          obtain ⟨fpA, hA, PA, FA⟩ := hO.step' S0
          have hDA := hD.pres PA hF1
          have hFA := FA db hF1 hD.lt
          have c0A := hDA.cell 0
          simp only [List.getElem?_cons_zero] at c0A
          clear S0 PA FA
          go_wp2_with fail
          refine (disk_arm hA.1 (-1) (by omega)).mono ?_
          rintro e wB ⟨rfl, S⟩
          obtain ⟨fpB, hB, PB, FB⟩ := hA.step' S
          have hC : Calm (((armDk n kinds k).on []).2.arm (-1)).2 (k + 0) := by simpa [calmed, HDN.out] using q3
          clear S hA c0A
          have hDB := hDA.pres PB hFA
          have HB : ∃ (fp : List Nat) (σ : Dk), Own w wB d fp σ ∧ Calm σ (k + 0) ∧ At wB db [.pointer (some ⟨d, 0, none⟩)] 24 ∧ db ∉ fp := ⟨fpB, _, hB, hC, hDB, FB db hFA hDA.lt⟩
          clear hO hD hF1 q1 q2 q3 hB PB FB hC hDB hDA hFA
          go_wp2_with fail
          go_loopw [86] (fun iv wr' => ∃ j : Nat, j ≤ 30 ∧ iv = .int .i64 (j : Int) ∧ ∃ (fp : List Nat) (σ : Dk), Own w wr' d fp σ ∧ Calm σ (k + j) ∧ At wr' db [.pointer (some ⟨d, 0, none⟩)] 24 ∧ db ∉ fp) (fun iv _ => 30 - (intOf iv).toNat)
          case atStart => exact ⟨0, by omega, rfl, HB⟩
          case round =>
            obtain ⟨j, hj, rfl, fpj, σ, hO, hC, hD, hF⟩ := hrel
            clear HB
            have c0 := hD.cell 0
            simp only [List.getElem?_cons_zero] at c0
            by_cases hj30 : j < 30
            · have hj' : (j : Int) < 30 := by omega
              have hw := hC.write
              have HZ := And.intro hO (And.intro hD (And.intro hF hw.2))
              have hW := fun W (hW : W = wr) => hW ▸ disk_write hO.1 0 ⟨#[121]⟩ (by have := hC.pend; have := H40.out; omega)
              have hW' : ∀ W : World, W = wr → Calls Try.prog 10 #[.pointer (some ⟨d, 0, none⟩), .int .i64 0, .string ⟨#[121]⟩] W fun e w' => e = .returned (.int .i64 0) ∧ DiskStep W d fpj (σ.write 0 yText).2 w' := by
                intro W hW0
                have := hW W hW0
                rw [show (⟨#[121]⟩ : ByteArray).data.toList = yText from rfl, hw.1] at this
                exact this
              clear hO hD hF hw hW hC
              go_wp2_with (go_at_call 10; refine (hW' _ rfl).mono ?_; rintro e wC ⟨rfl, S⟩)
              go_roundw
              case rel =>
                obtain ⟨hO, hD, hF, hC⟩ := HZ
                obtain ⟨fpC, h1, h2, h3⟩ := hO.step' S
                exact ⟨j + 1, by omega, by go_num, fpC, _, h1, hC, hD.pres h2 hF, h3 db hF hD.lt⟩
              case measure => simp [intOf]; omega
            · have hj' : ¬ (j : Int) < 30 := by omega
              have HPC := hid hO.2.1
              go_wp2_with (go_at_call 14; refine (works_ok _).mono ?_; rintro e wZ ⟨rfl, QZ⟩)
              go_ret
              exact ⟨rfl, HPC.out.then QZ⟩

end Go.Proofs.Ytanjlfppppghpaa
