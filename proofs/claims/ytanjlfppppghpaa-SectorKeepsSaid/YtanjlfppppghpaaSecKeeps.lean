/- SectorKeeps: the walk: it returns true, whatever calls and marks come in, and nothing that was there is changed. -/
import Derived.Test.YtanjlfppppghpaaSecBegin
namespace Go.Proofs.Ytanjlfppppghpaa
open Go.RowKit

theorem sl_cell {w : World} {E : TypeId} {g n cap : Nat} {xs : List Value} (h : Sl w E 1 (.slice (some ⟨g, 0, none⟩) n cap) n xs) {j : Nat} {x : Value} (hj : xs[j]? = some x) : w.cell? ⟨g, j, none⟩ = some x := by
  obtain ⟨_, _, e1, -, -, hr⟩ := h.reads
  obtain ⟨b3, off3, e2, h3⟩ := hr j x hj
  simp only [Value.slice.injEq] at e1
  obtain ⟨e1, -, -⟩ := e1
  rw [e2] at e1
  simp only [Option.some.injEq, Addr.mk.injEq, and_true] at e1
  obtain ⟨rfl, rfl⟩ := e1
  rwa [Nat.zero_add] at h3

theorem build_touched (w : World) : (Instr.build 37 #[]).run Try.prog w = .ok (.agg (List.replicate 6 (Value.bool false)).toArray) w := by kernel_rfl
theorem zero_touched : (Try.prog.info? 37).bind (·.zero) = some (.agg (List.replicate 6 (Value.bool false)).toArray) := by kernel_rfl
theorem size_touched : (Try.prog.info? 37).map (·.size) = some 6 := by kernel_rfl

def touchCells (l : List Bool) : List Value := l.map Value.bool

/-- What holds at the head of a round. -/
def KeepMid (w wr : World) (d g capg tb : Nat) (σ : Dk) (more : List ActD) (k : Nat) : Prop :=
  ∃ fp, Own w wr d fp (moreDk σ more k) ∧ Sl wr 9 1 (.slice (some ⟨g, 0, none⟩) 6 capg) 6 (allOf σ 6) ∧ At wr tb (touchCells (touchL more k)) 37 ∧ tb ∉ fp ∧ g ∉ fp ∧ w.heap.size ≤ tb ∧ tb ≠ g

set_option maxHeartbeats 4000000 in
set_option maxRecDepth 100000 in
theorem keeps_walk (w : World) (av mv kv : Value) (acts more : List ActD) (keep : List Bool) (ha : ActsAt w av acts) (hm : ActsAt w mv more) (hk : Reads w kv (keep.map Value.bool)) :
    Calls Try.prog 4 #[av, mv, kv] w fun e w' => e = .returned (.bool true) ∧ Pres [] w w' := by
  obtain ⟨am, capm, em, hm1, hm2, -⟩ := id hm.1
  rw [List.length_map] at em hm1
  subst em
  have hmax : more.length ≤ 9223372036854775807 := by simp only [maxLen] at hm2; omega
  have HA := hid ha
  have HMO := hid hm
  have HK := hid hk
  clear ha hm hk hm1 hm2
  go_enter Try.func4, Try.ntmps4
  go_wp2_with fail
  refine (begin_ok w av acts HA.out).mono ?_
  rintro e w1 ⟨d, fp, rfl, H0⟩
  obtain ⟨hs0, hp0⟩ := beginDk_six acts (min acts.length 30)
  generalize beginDk acts (min acts.length 30) = σ0 at *
  have hf0 := hs0.flush
  go_wp2_with fail
  refine (disk_flush H0.1).mono ?_
  rintro e w2 ⟨rfl, S⟩
  obtain ⟨fp1, H1⟩ := H0.step S
  rw [hf0.1]
  generalize σ0.flush.2 = σ at *
  have HF := hid hf0.2
  have ekl : σ.kept.length = 6 := hf0.2.1.len
  have hal := fun W (hW : W = w2) => hW ▸ all_ok H1.1
  rw [ekl] at hal
  clear hf0 hs0 hp0 H0 S ekl
  go_wp2_with fail
  refine (hal _ rfl).mono ?_
  rintro e w3 ⟨va, rfl, SC, QC, FC⟩
  obtain ⟨g, capg, cura, rfl, -⟩ := SC.get (by omega)
  have H3 := H1.quiet QC
  have G3 : g ∉ fp1 := fun hm => by have := FC g (by simp [fpv]); have := H1.1.lt g hm; omega
  have L3 : g < w3.heap.size := SC.lt g (by simp [fpv])
  clear H1 hal FC QC
  go_upto_region 6 with (first | ((with_reducible refine at_build ?_); refine wpL_build rfl 37 [] rfl _ (by exact build_touched _) ?_) | ((with_reducible refine at_alloc ?_); refine wpL_alloc rfl 37 rfl _ zero_touched ?_; intro w4 A4 P4 S4) | ((with_reducible refine at_store ?_); refine wpL_store rfl 37 (.tmp 9) (.tmp 25) rfl w3.heap.size 0 6 rfl _ rfl _ 37 A4 size_touched rfl (by simp) (by intro v hv; simp only [List.mem_replicate] at hv; rw [hv.2]; rfl) ?_; intro w5 A5 P5 S5; rw [splice_all _ _ rfl] at A5))
  have HM : KeepMid w w5 d g capg w3.heap.size σ more 0 := by
    have Q5 : Pres [] w3 w5 := P4.trans P5 (by simp)
    refine ⟨fp1, H3.quiet Q5, SC.pres Q5 (by simp), ?_, fun hm => by have := H3.1.lt _ hm; omega, G3, H3.2.1.size, by omega⟩
    simpa [touchCells, touchL] using A5
  generalize w3.heap.size = tb at *
  clear A4 P4 S4 A5 P5 S5 H3 G3 L3 SC
  go_wp2_with fail
  go_loopw [10] (fun iv wr => ∃ k : Nat, k ≤ more.length ∧ k ≤ 20 ∧ iv = .int .i64 (k : Int) ∧ KeepMid w wr d g capg tb σ more k) (fun iv _ => 20 - (intOf iv).toNat)
  case atStart => exact ⟨0, Nat.zero_le _, Nat.zero_le _, rfl, HM⟩
  case round =>
    obtain ⟨k, hk, h20, rfl, fpk, hO, hS, hT, hF1, hF2, hG, hne⟩ := hrel
    clear HM
    by_cases hlt : k < more.length ∧ k < 20
    · obtain ⟨hlt, h20'⟩ := hlt
      have hl1 : (k : Int) < (more.length : Int) := by omega
      have hl2 : (k : Int) < 20 := by omega
      obtain ⟨a, ha⟩ : ∃ a, more[k]? = some a := ⟨_, List.getElem?_eq_getElem hlt⟩
      have hok : a.Ok w := HMO.out.2 a (List.mem_of_getElem? ha)
      obtain ⟨b, off, capb, eb, -, -, hcb, hbw⟩ := HMO.out.get ha
      simp only [Value.slice.injEq] at eb
      obtain ⟨rfl, -, rfl⟩ := eb
      have c1 : wr.cell? ⟨b, off + k * 4 + 1, none⟩ = some (.int .i64 a.pos) := hO.2.1.cell (hcb 1 _ rfl) (by simp)
      have c2 : wr.cell? ⟨b, off + k * 4 + 2, none⟩ = some (.string a.s) := hO.2.1.cell (hcb 2 _ rfl) (by simp)
      have hstep : moreDk σ more (k + 1) = ((moreDk σ more k).write (sec6 a.pos) (cutS a.s)).2 := by simp only [moreDk, ha]
      have htouch : touchL more (k + 1) = (touchL more k).set (sec6 a.pos).toNat true := by simp only [touchL, ha]
      have hinv := moreDk_inv HF.out.1 HF.out.2 more k
      have hwr := hinv.1.write (sec6_range a.pos).1 (sec6_range a.pos).2 (cutS_le a.s)
      obtain ⟨M, hM⟩ : ∃ M : Nat, M = min 64 a.s.size := ⟨_, rfl⟩
      have hM1 : (if (64 : Int) < (a.s.size : Int) then 64 else (a.s.size : Int)) = (M : Int) := by split <;> omega
      have hM2 : (M : Int) ≤ (a.s.size : Int) := by omega
      have hM3 : (a.s.size : Int) ≤ 9223372036854775807 := by have := hok.s; simp only [maxLen] at this; omega
      have hM4 := hid (cutS_extract a.s M hM)
      obtain ⟨t1, t2⟩ := tmod6 a.pos
      obtain ⟨n, hn⟩ := Int.eq_ofNat_of_zero_le (sec6_range a.pos).1
      have hn6 : (n : Int) < 6 := by have := (sec6_range a.pos).2; omega
      rw [hn] at hstep htouch hwr
      rw [Int.toNat_natCast] at htouch
      have hn' : a.pos.tmod 6 % 6 = (n : Int) := hn
      have hbf : b ∉ fpk := fun hm => by have := hO.2.2 b hm; omega
      have HX := And.intro hO (And.intro hS (And.intro hT (And.intro hF1 (And.intro hF2 (And.intro hG (And.intro hne (And.intro hstep (And.intro htouch (And.intro hwr (And.intro hinv.2.1 hbf))))))))))
      clear hO hS hT hF1 hF2 hG hne hstep htouch hwr hinv hok hcb ha hM hn hbf
      go_upto_region 10 with (fail)
      rw [show (a.pos.tmod 6 + 6) % 6 = (n : Int) by omega]
      clear t1 t2 hn' c1
      refine wp_region_ord (by kernel_rfl) (fun W => W.cell? ⟨b, off + k * 4 + 2, none⟩ = some (.string a.s)) 16
        [(0, true), (1, true), (2, true), (3, true), (4, true), (5, true), (6, true), (7, true), (8, true), (9, true), (10, true), (11, true), (12, true), (13, true), (14, true), (15, false)] (by kernel_rfl) ?hq c2 ?_
      case hq => intro c a dd v w h; cases dd <;> exact h
      iterate 15 (refine wpOrd_read (v := _) rfl rfl (by intro w' hS; have hs1 := hS; clear hS; go_simp; rfl) ?_; simp only [Act.put, List.setIfInBounds_toArray, List.set_cons_succ, List.set_cons_zero, List.getElem_toArray, List.getElem_cons_succ, List.getElem_cons_zero])
      have hOB := HX.1.quiet (Pres.refl _ _).drew
      have hTB := HX.2.2.1.drew
      have hSB := HX.2.1.pres (Pres.refl [] wr).drew (by simp)
      have c2' : wr.drew.cell? ⟨b, off + k * 4 + 2, none⟩ = some (.string a.s) := c2
      have hTL : tb < wr.drew.heap.size := HX.2.2.1.lt
      have hGL : g < wr.drew.heap.size := HX.2.1.lt g (by simp [fpv])
      generalize wr.drew = w5 at *
      generalize a.s.extract 0 M = x at *
      clear hM1 hM2 hM3
      refine wpOrd_do rfl rfl (fun K hK => ?_)
      go_simp
      refine (disk_write hOB.1 _ _ (by have := HX.2.2.2.2.2.2.2.2.2.2.1; omega)).mono ?_
      rw [hM4.out]
      rintro e w6 ⟨rfl, S⟩
      obtain ⟨fp6, h6, p6, f6⟩ := hOB.step' S
      refine hK _ _ ⟨p6.cell c2' HX.2.2.2.2.2.2.2.2.2.2.2, ?_⟩
      clear hK K
      refine wpOrd_end ?_
      have hT6 := hTB.pres p6 HX.2.2.2.1
      have hS6 := hSB.pres p6 (by simpa [fpv] using HX.2.2.2.2.1)
      have hFt := f6 tb HX.2.2.2.1 hTL
      have hFg := f6 g HX.2.2.2.2.1 hGL
      have fz := hT6.frozen n
      obtain ⟨ov, hov⟩ : ∃ ov, (touchCells (touchL more k))[n]? = some ov := ⟨_, List.getElem?_eq_getElem (by simp [touchCells, touchL_length]; omega)⟩
      have cz := (hT6.cell n).trans hov
      have HH := And.intro h6 (And.intro hS6 (And.intro hT6 (And.intro hFt hFg)))
      clear h6 hS6 hT6 hFt hFg hov p6 f6 S hOB hTB hSB c2' hTL hGL c2
      simp only [List.drop_succ_cons, List.drop_zero]
      go_wp2
      go_roundw
      case rel =>
        obtain ⟨h6, hS6, hT6, hFt, hFg⟩ := HH
        obtain ⟨-, -, -, -, -, hG, hne, hstep, htouch, -, -, -⟩ := HX
        have PZ : Pres [tb] w6 (w6.setCell ⟨tb, n, none⟩ (.bool true)) := (Pres.refl _ _).setCell (by simp) _
        refine ⟨k + 1, by omega, by omega, by go_num, fp6, ?_, ?_, ?_, hFt, hFg, hG, hne⟩
        · rw [hstep]; exact h6.other PZ hFt hG
        · exact hS6.pres PZ (by simp [fpv, Ne.symm hne])
        · rw [htouch]
          have := hT6.setCell n (.bool true)
          simpa [touchCells, List.map_set] using this
      case measure => simp [intOf]; omega
    · have hOut : ¬ k < more.length ∨ (k < more.length ∧ ¬ k < 20) := by omega
      have KA : Reads wr kv (keep.map Value.bool) := HK.out.pres hO.2.1 (by simp)
      obtain ⟨e1, e2, e3, e4, e5, e6⟩ := keepsEnd_eq HF.out.1 HF.out.2 more keep k
      have hoff := fun W (hW : W = wr) => hW ▸ disk_off hO.1
      rw [e1] at hoff
      have H20 := hid h20
      have HLT := hid hlt
      have HE := And.intro e3 (And.intro e4 (And.intro e5 e6))
      have HE2 := hid e2
      clear e1 e2 e3 e4 e5 e6 hlt h20
      have hl6 := hid HF.out.1.len
      rcases hOut with hq | ⟨hq, hq2⟩
      all_goals
        go_wp2_with (go_at_call 11; refine (hoff _ rfl).mono ?_; rintro e wA ⟨rfl, S⟩)
        clear hoff
        obtain ⟨fpA, hOA, hPA, hFA⟩ := hO.step' S
        have hTA := hT.pres hPA hF1
        have hSA := hS.pres hPA (by simpa [fpv] using hF2)
        have hFt := hFA tb hF1 hT.lt
        have hFg := hFA g hF2 (hS.lt g (by simp [fpv]))
        have KB := KA.pres hPA (fun hne x hx hm => by have h1 := hO.2.2 x hm; have h3 := HK.out.lt hne x hx; omega)
        refine (disk_on hOA.1 KB (fun hne x hx hm => by have h1 := hOA.2.2 x hm; have h3 := HK.out.lt (by simpa using hne) x hx; omega)).mono ?_
        rw [HE2.out]
        rintro e wB ⟨rfl, S2⟩
        obtain ⟨fpB, hOB, hPB, hFB⟩ := hOA.step' S2
        have hTB := hTA.pres hPB hFt
        have hSB := hSA.pres hPB (by simpa [fpv] using hFg)
        have hOB' : Own w wB d fpB (keepsEnd σ more keep k) := hOB
        have hal := fun W (hW : W = wB) => hW ▸ all_ok hOB'.1
        rw [HE.2.2.1] at hal
        clear S S2 hOB hOA hPA hFA hTA hSA hFt hFg KB KA hPB hFB hO hS hT hF1 hF2 hG
        go_wp2_with (go_at_call 13; refine (hal _ rfl).mono ?_; rintro e wC ⟨va, rfl, SC, QC, FC⟩; obtain ⟨g2, capa, cura, rfl, -⟩ := SC.get (by omega))
        have hTC := hTB.pres QC (by simp)
        have hSC := hSB.pres QC (by simp)
        have hOC := hOB'.quiet QC
        have hcells : ∀ j : Nat, j < 6 → wC.cell? ⟨tb, j, none⟩ = some (.bool ((touchL more k).getD j false)) ∧ wC.cell? ⟨g2, j, none⟩ = some (.string ⟨((keepsEnd σ more keep k).kept.getD j []).toArray⟩) ∧ wC.cell? ⟨g, j, none⟩ = some (.string ⟨(σ.kept.getD j []).toArray⟩) := by
          intro j hj
          refine ⟨?_, sl_cell SC ?_, sl_cell hSC ?_⟩
          · rw [hTC.cell]
            have hl := touchL_length more k
            simp [touchCells, List.getD_eq_getElem?_getD, List.getElem?_eq_getElem (show j < (touchL more k).length by omega)]
          · rw [← read_kept HE.2.1 HE.1 HE.2.2.1 hj]
            simp [allOf, hj]
          · rw [← read_kept HF.out.1.down HF.out.2 hl6.out hj]
            simp [allOf, hj]
        have HC := hid hcells
        have hpd := fun W (hW : W = wC) => hW ▸ disk_pending hOC.1
        have hdw := fun W (hW : W = wC) => hW ▸ disk_down hOC.1
        rw [HE.1] at hpd
        rw [HE.2.1] at hdw
        have HPC := hid hOC.2.1
        have HE6 := hid HE.2.2.2
        clear hTC hSC hOC hcells hTB hSB hOB' SC QC FC HE HE2
        go_loop [74] (fun iv => ∃ j : Nat, j ≤ 6 ∧ iv = .int .i64 (j : Int)) (fun iv => 6 - (intOf iv).toNat)
        case atStart => exact ⟨0, by omega, rfl⟩
        case round =>
          obtain ⟨j, hj, rfl⟩ := hrel
          by_cases hj6 : j < 6
          · obtain ⟨c1, c2, c3⟩ := HC.out j hj6
            have hj6' : (j : Int) < 6 := by omega
            cases htj : (touchL more k).getD j false
            · have he := HE6.out j htj
              rw [he] at c2
              rw [htj] at c1
              clear he htj
              generalize σ.kept.getD j [] = y at *
              go_wp2
              go_round
              case rel => exact ⟨j + 1, by omega, by go_num⟩
              case measure => simp [intOf]; omega
            · rw [htj] at c1
              clear htj
              go_wp2
              go_round
              case rel => exact ⟨j + 1, by omega, by go_num⟩
              case measure => simp [intOf]; omega
          · have hj6' : ¬ (j : Int) < 6 := by omega
            go_wp2_with (first | (go_at_call 17; refine (hpd _ rfl).mono ?_; rintro e wP ⟨rfl, rfl⟩) | (go_at_call 18; refine (hdw _ rfl).mono ?_; rintro e wP ⟨rfl, rfl⟩) | (go_at_call 14; refine (works_ok _).mono ?_; rintro e wZ ⟨rfl, QZ⟩))
            go_ret
            exact ⟨rfl, HPC.out.then QZ⟩

end Go.Proofs.Ytanjlfppppghpaa
