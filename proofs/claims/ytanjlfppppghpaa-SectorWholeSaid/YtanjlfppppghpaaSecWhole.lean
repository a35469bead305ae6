/- SectorWhole: the walk: it returns true, whatever texts and marks come in, and nothing that was there is changed. -/
import Derived.Test.YtanjlfppppghpaaSecLaw
import Derived.Test.YtanjlfppppghpaaSecWholePure
namespace Go.Proofs.Ytanjlfppppghpaa
open Go.RowKit

def wantCells (l : List (List UInt8)) : List Value := l.map fun b => .string ⟨b.toArray⟩

/-- What holds at the head of a round. -/
def WholeMid (w wr : World) (d wb : Nat) (ss : List ByteArray) (keep : List Bool) (k : Nat) : Prop :=
  ∃ fp, Own w wr d fp (wholeDk ss k) ∧ At wr wb (wantCells (wholeWant ss keep k)) 9 ∧ wb ∉ fp ∧ w.heap.size ≤ wb

theorem extract_take (s : ByteArray) : (s.extract 0 (min 64 s.size)).data.toList = s.data.toList.take 64 := by
  rw [ByteArray.data_extract, Array.toList_extract]
  simp only [List.extract_eq_take_drop, List.drop_zero, Nat.sub_zero]
  rcases Nat.le_total 64 s.size with h | h
  · rw [Nat.min_eq_left h]
  · rw [Nat.min_eq_right h]
    have : s.data.toList.length = s.size := by simp
    rw [List.take_of_length_le (by omega), List.take_of_length_le (by omega)]

set_option maxHeartbeats 2000000 in
set_option maxRecDepth 100000 in
theorem whole_walk (w : World) (tv kv : Value) (ss : List ByteArray) (keep : List Bool) (ht : Reads w tv (ss.map Value.string)) (hk : Reads w kv (keep.map Value.bool)) (hs : ∀ (k : Nat) (h : k < ss.length), (ss[k].size : Int) ≤ 9223372036854775807) :
    Calls Try.prog 3 #[tv, kv] w fun e w' => e = .returned (.bool true) ∧ Pres [] w w' := by
  obtain ⟨at_, capt, et, ht1, ht2, ht3⟩ := id ht
  obtain ⟨ak, capk, ek, hk1, hk2, hk3⟩ := id hk
  rw [List.length_map] at et ht1 ek hk1
  subst et ek
  have hmt : ss.length ≤ 9223372036854775807 := by simp only [maxLen] at ht2; omega
  have hmk : keep.length ≤ 9223372036854775807 := by simp only [maxLen] at hk2; omega
  have HT := hid ht
  have HK := hid hk
  have HS := hid hs
  clear ht hk hs ht1 ht2 ht3 hk1 hk2 hk3
  go_enter Try.func3, Try.ntmps3
  go_wp2_with fail
  refine (new_ok' 4 _ (by omega) (by omega)).mono ?_
  rintro e w1 ⟨d, fp, rfl, D0, P0, F0⟩
  have H0 : Own w w1 d fp (Dk.new 4) := ⟨D0, P0, F0⟩
  clear D0 P0 F0
  go_wp2_with fail
  refine (fill_ok _ _).mono ?_
  rintro e w2 ⟨rfl, Q1⟩
  go_wp2_with fail
  refine (fill_ok _ _).mono ?_
  rintro e w3 ⟨rfl, Q2⟩
  go_wp2_with fail
  refine (fill_ok _ _).mono ?_
  rintro e w4 ⟨rfl, Q3⟩
  go_wp2_with fail
  refine (fill_ok _ _).mono ?_
  rintro e w5 ⟨rfl, Q4⟩
  have H1 := (((H0.quiet Q1).quiet Q2).quiet Q3).quiet Q4
  clear H0 Q1 Q2 Q3 Q4
  go_wp2_with fail
  have B6 := At.new w5 (wantCells (wholeWant ss keep 0)) 9
  have H6 := H1.quiet ((Pres.refl [] w5).alloc (.cells (wantCells (wholeWant ss keep 0)).toArray 9))
  have F6 : w5.heap.size ∉ fp := fun hm => by have := H1.1.lt _ hm; omega
  have G6 : w.heap.size ≤ w5.heap.size := H1.2.1.size
  have HM : WholeMid w (w5.alloc (.cells (wantCells (wholeWant ss keep 0)).toArray 9)) d w5.heap.size ss keep 0 := ⟨fp, H6, B6, F6, G6⟩
  clear B6 H6 F6 G6 H1
  generalize w5.heap.size = wb at *
  go_loopw [8] (fun iv wr => ∃ k : Nat, k ≤ ss.length ∧ k ≤ 30 ∧ iv = .int .i64 (k : Int) ∧ WholeMid w wr d wb ss keep k) (fun iv _ => 30 - (intOf iv).toNat)
  case atStart => exact ⟨0, Nat.zero_le _, Nat.zero_le _, rfl, HM⟩
  case round =>
    obtain ⟨k, hk, h30, rfl, fpk, hO, hA, hF, hG⟩ := hrel
    clear HM
    by_cases hlt : k < ss.length ∧ k < 30
    · obtain ⟨hlt, h30'⟩ := hlt
      have hl1 : (k : Int) < (ss.length : Int) := by omega
      have hl2 : (k : Int) < 30 := by omega
      obtain ⟨at', capt', et, -, -, hv⟩ := HT.out.pres hO.2.1 (by simp)
      obtain ⟨b, off, ea, hcb⟩ := hv k (.string ss[k]) (by rw [List.getElem?_map, List.getElem?_eq_getElem hlt]; rfl)
      simp only [List.length_map, Value.slice.injEq] at et
      obtain ⟨rfl, -, rfl⟩ := et
      subst ea
      have hsz : (ss[k].size : Int) ≤ 9223372036854775807 := HS.out k hlt
      have HX := And.intro hO (And.intro hA (And.intro hF hG))
      clear hv hO hA hF hG
      go_upto_region 8 with (fail)
      refine wp_region_ord (by kernel_rfl) (fun W => W.cell? ⟨b, off + k, none⟩ = some (.string ss[k])) 11
        [(0, true), (1, true), (2, true), (3, true), (4, true), (5, true), (6, true), (7, true), (8, true), (9, true), (10, true)] (by kernel_rfl) ?hq hcb ?_
      case hq => intro c a dd v w h; cases dd <;> exact h
      obtain ⟨M, hM⟩ : ∃ M : Nat, M = min 64 ss[k].size := ⟨_, rfl⟩
      have hM1 : (if (64 : Int) < (ss[k].size : Int) then 64 else (ss[k].size : Int)) = (M : Int) := by split <;> omega
      have hM2 : (M : Int) ≤ (ss[k].size : Int) := by omega
      have HMM := hid hM
      clear hM
      iterate 11 (refine wpOrd_read (v := _) rfl rfl (by intro w' hS; have hs1 := hS; clear hS; go_simp; rfl) ?_; simp only [Act.put, List.setIfInBounds_toArray, List.set_cons_succ, List.set_cons_zero, List.getElem_toArray, List.getElem_cons_succ, List.getElem_cons_zero])
      refine wpOrd_end ?_
      simp only [List.drop_succ_cons, List.drop_zero]
      have hx : (ss[k].extract 0 M).data.toList = cut64 ss k := by
        rw [cut64, List.getD_eq_getElem?_getD, List.getElem?_eq_getElem hlt, HMM.out]
        exact extract_take _
      clear hM1 hM2 hcb
      generalize ss[k].extract 0 M = x at *
      have HX2 := hid hx
      clear hx hsz HMM
      have hW := fun W (hW : W = wr.drew) => hW ▸ disk_write ((HX.1.quiet (Pres.refl _ _).drew).1) ((k : Int) % 4) x (by rw [wholeDk_room]; omega)
      rw [HX2.out] at hW
      have z0 : (((wholeDk ss k).write ((k : Int) % 4) (cut64 ss k)).1 != 0) = false := by rw [wholeDk_write]; rfl
      rw [wholeDk_write] at hW
      go_upto_region 11 with (go_at_call 10; refine (hW _ rfl).mono ?_; rintro e wA ⟨rfl, S⟩)
      obtain ⟨fpA, hOA, hPA, hFA⟩ := (HX.1.quiet (Pres.refl _ _).drew).step' S
      have hAA : At wA wb (wantCells (wholeWant ss keep k)) 9 := HX.2.1.drew.pres hPA HX.2.2.1
      have hFA2 := hFA wb HX.2.2.1 HX.2.1.lt
      have hG := HX.2.2.2
      have KA : Reads wA (.slice ak keep.length capk) (keep.map Value.bool) := HK.out.pres hOA.2.1 (by simp)
      have hOA' : Own w wA d fpA (wholeDk ss (k + 1)) := hOA
      clear HX S hPA hFA hOA hW z0
      by_cases hkk : keep.getD k false = true
      · have hkl2 : k < keep.length := by
          rcases Nat.lt_or_ge k keep.length with h1 | h1
          · exact h1
          · rw [List.getD_eq_getElem?_getD, List.getElem?_eq_none h1] at hkk; cases hkk
        have hkl3 : (k : Int) < (keep.length : Int) := by omega
        have hke : keep[k] = true := by rw [List.getD_eq_getElem?_getD, List.getElem?_eq_getElem hkl2] at hkk; exact hkk
        obtain ⟨av', capv', ev, -, -, hv3⟩ := KA
        obtain ⟨b2, off2, ea, hcb⟩ := hv3 k (.bool true) (by rw [List.getElem?_map, List.getElem?_eq_getElem hkl2, hke]; rfl)
        simp only [List.length_map, Value.slice.injEq] at ev
        obtain ⟨rfl, -, rfl⟩ := ev
        subst ea
        have hwant : wholeWant ss keep (k + 1) = (wholeWant ss keep k).set (k % 4) (pad (cut64 ss k)) := by rw [wholeWant, if_pos hkk]
        have HW := hid hwant
        clear hv3 hkk hke hwant
        go_upto_region 12 with (fail)
        have hfl := fun W (hW : W = wA) => hW ▸ fill_ok x wA
        rw [HX2.out, List.take_of_length_le (cut64_le ss k)] at hfl
        have hlen : (wantCells (wholeWant ss keep k)).length = 4 := by simp [wantCells, wholeWant_length]
        have HL := hid hlen
        clear hlen
        go_wp2_with (go_at_call 9; refine (hfl _ rfl).mono ?_; rintro e wB ⟨rfl, QB⟩; have hAB := hAA.pres QB (by simp); have f1 := hAB.frozen (k % 4); obtain ⟨ov, hov⟩ : ∃ ov, (wantCells (wholeWant ss keep k))[k % 4]? = some ov := ⟨_, List.getElem?_eq_getElem (by rw [HL.out]; omega)⟩; have c1 := (hAB.cell (k % 4)).trans hov)
        go_roundw
        case rel =>
          refine ⟨k + 1, by omega, by omega, by go_num, fpA, ?_, ?_, hFA2, hG⟩
          · exact (hOA'.quiet QB).other ((Pres.refl _ _).setCell (by simp) _) hFA2 hG
          · have := hAB.setCell (k % 4) (.string ⟨(pad (cut64 ss k)).toArray⟩)
            rw [HW.out]
            simpa [wantCells, List.map_set] using this
        case measure => simp [intOf]; omega
      · have hkf : keep.getD k false = false := by simpa using hkk
        have hwant : wholeWant ss keep (k + 1) = wholeWant ss keep k := by rw [wholeWant, if_neg hkk]
        have HW := hid hwant
        clear hwant
        by_cases hkl2 : k < keep.length
        · have hkl3 : (k : Int) < (keep.length : Int) := by omega
          have hke : keep[k] = false := by rw [List.getD_eq_getElem?_getD, List.getElem?_eq_getElem hkl2] at hkf; exact hkf
          obtain ⟨av', capv', ev, -, -, hv3⟩ := KA
          obtain ⟨b2, off2, ea, hcb⟩ := hv3 k (.bool false) (by rw [List.getElem?_map, List.getElem?_eq_getElem hkl2, hke]; rfl)
          simp only [List.length_map, Value.slice.injEq] at ev
          obtain ⟨rfl, -, rfl⟩ := ev
          subst ea
          clear hv3 hkk hke hkf
          go_wp2
          go_roundw
          case rel => exact ⟨k + 1, by omega, by omega, by go_num, fpA, hOA', by rw [HW.out]; exact hAA, hFA2, hG⟩
          case measure => simp [intOf]; omega
        · have hkl3 : ¬ (k : Int) < (keep.length : Int) := by omega
          clear hkk hkf KA
          go_wp2
          go_roundw
          case rel => exact ⟨k + 1, by omega, by omega, by go_num, fpA, hOA', by rw [HW.out]; exact hAA, hFA2, hG⟩
          case measure => simp [intOf]; omega
    · have hOut : ¬ k < ss.length ∨ (k < ss.length ∧ ¬ k < 30) := by omega
      have KA : Reads wr (.slice ak keep.length capk) (keep.map Value.bool) := HK.out.pres hO.2.1 (by simp)
      have hoff := fun W (hW : W = wr) => hW ▸ disk_off hO.1
      have eoff : (wholeDk ss k).off.1 = 0 := by simp [Dk.off, (wholeDk_inv ss k).1]
      rw [eoff] at hoff
      have H30 := hid h30
      have HLT := hid hlt
      clear eoff hlt h30
      rcases hOut with hq | ⟨hq, hq2⟩
      all_goals
        have hq' := hq
        clear hq'
        go_wp2_with (go_at_call 11; refine (hoff _ rfl).mono ?_; rintro e wA ⟨rfl, S⟩)
        clear hoff
        obtain ⟨fpA, hOA, hPA, hFA⟩ := hO.step' S
        have hAA := hA.pres hPA hF
        have hFA2 := hFA wb hF hA.lt
        have KB := KA.pres hPA (fun hne x hx hm => by have h1 := hO.2.2 x hm; have h2 := KA.lt hne x hx; have h3 := HK.out.lt hne x hx; omega)
        refine (disk_on hOA.1 KB (fun hne x hx hm => by have h1 := hOA.2.2 x hm; have h3 := HK.out.lt (by simpa using hne) x hx; omega)).mono ?_
        rintro e wB ⟨rfl, S2⟩
        obtain ⟨fpB, hOB, hPB, hFB⟩ := hOA.step' S2
        have hAB := hAA.pres hPB hFA2
        rw [whole_off]
        have hOB' : Own w wB d fpB (wholeEnd ss keep k) := hOB
        have hal := fun W (hW : W = wB) => hW ▸ all_ok hOB'.1
        have ekl : (wholeEnd ss keep k).kept.length = 4 := by rw [(wholeEnd_eq ss keep k).1, wholeWant_length]
        rw [ekl] at hal
        have HG := hid hG
        clear S S2 hOB hOA hPA hFA hAA hFA2 KB KA hPB hFB hO hA hF hG ekl
        go_wp2_with (go_at_call 13; refine (hal _ rfl).mono ?_; rintro e wC ⟨va, rfl, SC, QC, FC⟩; obtain ⟨g, capa, cura, rfl, -⟩ := SC.get (by omega))
        have hAC := hAB.pres QC (by simp)
        have hPC : Pres [] w wC := hOB'.2.1.then QC
        have hcells : ∀ j : Nat, j < 4 → wC.cell? ⟨g, j, none⟩ = some (.string ⟨((wholeWant ss keep k).getD j []).toArray⟩) ∧ wC.cell? ⟨wb, j, none⟩ = some (.string ⟨((wholeWant ss keep k).getD j []).toArray⟩) := by
          intro j hj
          constructor
          · obtain ⟨_, _, e1, -, -, hr⟩ := SC.reads
            obtain ⟨b3, off3, e2, h3⟩ := hr j (.string ⟨((wholeWant ss keep k).getD j []).toArray⟩) (by
              rw [← wholeEnd_read ss keep k j hj]
              simp [allOf, hj])
            simp only [Value.slice.injEq] at e1
            obtain ⟨e1, -, -⟩ := e1
            rw [e2] at e1
            simp only [Option.some.injEq, Addr.mk.injEq, and_true] at e1
            obtain ⟨rfl, rfl⟩ := e1
            rw [Nat.zero_add] at h3
            exact h3
          · rw [hAC.cell]
            have hl := wholeWant_length ss keep k
            simp [wantCells, List.getD_eq_getElem?_getD, List.getElem?_eq_getElem (show j < (wholeWant ss keep k).length by omega)]
        have HC := hid hcells
        have HPC := hid hPC
        clear hAC hPC hcells hAB hOB' hal SC QC FC
        go_loop [79] (fun iv => ∃ j : Nat, j ≤ 4 ∧ iv = .int .i64 (j : Int)) (fun iv => 4 - (intOf iv).toNat)
        case atStart => exact ⟨0, by omega, rfl⟩
        case round =>
          obtain ⟨j, hj, rfl⟩ := hrel
          by_cases hj4 : j < 4
          · obtain ⟨c1, c2⟩ := HC.out j hj4
            have hj4' : (j : Int) < 4 := by omega
            generalize (wholeWant ss keep k).getD j [] = y at *
            go_wp2
            go_round
            case rel => exact ⟨j + 1, by omega, by go_num⟩
            case measure => simp [intOf]; omega
          · have hj4' : ¬ (j : Int) < 4 := by omega
            go_wp2_with (go_at_call 14; refine (works_ok _).mono ?_; rintro e wZ ⟨rfl, QZ⟩)
            go_ret
            exact ⟨rfl, HPC.out.then QZ⟩

end Go.Proofs.Ytanjlfppppghpaa
