/- WalPlays: the walk: a log under any calls tells the document's records, and writes what it says; whatever comes in. -/
import Derived.Test.YtjaabhdgahljcaaDoorLawB
import Derived.Deep.DeepCutAuto
namespace Go.Proofs.YtjaabhdgahljcaaDoor
open Go.RowKit
set_option maxRecDepth 100000

theorem size_act8 : (Tryd.prog.info? 35).map (·.size) = some 4 := by kernel_rfl
theorem agg_act8 : IsAgg Tryd.prog 35 := ⟨_, Tryd.underlying35, rfl⟩

theorem run_load_cells8 {P : Program} {w : World} {o : Oper} {a : Act} {b off : Nat} {cs : List Value} {ty : TypeId} {x : Operand} (ho : o.op = .load ty x) (hx : a.eval x = .pointer (some ⟨b, off, none⟩)) (ha : IsAgg P ty) (hs : (P.info? ty).map (·.size) = some cs.length)
    (h : ∀ j v, cs[j]? = some v → w.cell? ⟨b, off + j, none⟩ = some v) : (execOp a.eval o).run P w = .ok (.value (.agg cs.toArray)) w := by
  have := run_loadVar_cells (P := P) (w := w) (ad := ⟨b, off, none⟩) (ty := ty) ha hs (fun j v hj => by rw [addr_add]; exact h j v hj)
  unfold execOp
  simp only [ho, hx, Instr.loadAt, Instr.sureAddr, Sem.run_bind, Sem.run_pure, Result.andThen_ok, this]

/-- The pair, open or not. -/
def TwoAny (w0 wr : World) (t d r : Nat) (k : Nat) (qv : Value) : Prop :=
  ∃ σ : Dk, σ.pend.length ≤ 70000 * k ∧ σ.kept.length = 24 ∧
    ((qv = .pointer none ∧ St w0 wr [objP t [pt d, .pointer none, pt r, .pointer none] 64, diskP d σ, refP r σ]) ∨ ∃ b q l, qv = pt q ∧ TwoMid w0 wr [] t d r b q l σ)

/-- What is left of the pair. -/
def TwoLeft (w0 wr : World) (d r : Nat) : Prop := ∃ σ : Dk, σ.kept.length = 24 ∧ St w0 wr [diskP d σ, refP r σ]

theorem TwoAny.left {w0 wr : World} {t d r k : Nat} {qv : Value} (h : TwoAny w0 wr t d r k qv) : TwoLeft w0 wr d r := by
  obtain ⟨σ, -, h2, ⟨-, h⟩ | ⟨b, q, l, -, h⟩⟩ := h
  · exact ⟨σ, h2, h.drop⟩
  · exact ⟨σ, h2, ((St.drop h).drop.pull 1 rfl).drop⟩

set_option maxHeartbeats 16000000 in
theorem wal_plays_walk (w : World) (hh : HalfAt w) (base n : Int) (v : Value) (l : List ActD) (hl : ActsAt w v l)
    (hb0 : -9223372036854775808 ≤ base) (hb1 : base ≤ 9223372036854775807) (hn0 : -9223372036854775808 ≤ n) (hn1 : n ≤ 9223372036854775807) :
    Calls Tryd.prog 7 #[.int .i64 base, .int .i64 n, v] w fun e w' => e = .returned (.bool true) ∧ Pres [] w w' := by
  obtain ⟨av, capv, ev, hv1, hv2, -⟩ := id hl.1
  rw [List.length_map] at ev hv1
  subst ev
  have hmax : l.length ≤ 9223372036854775807 := by simp only [maxLen] at hv2; omega
  have HA := hid hl
  have HB := hid (And.intro hb0 (And.intro hb1 (And.intro hn0 hn1)))
  clear hl hv1 hv2 hb0 hb1 hn0 hn1
  go_enter Tryd.func7, Tryd.ntmps7
  go_wp2_with fail
  refine (sd_new (St.start w) 24 (by omega) (by omega)).mono ?_
  rintro e w1 ⟨d, rfl, H1⟩
  have H1 := hid H1
  go_wp2_with fail
  refine (ref_new_ok H1.out 24 (by omega) (by omega)).mono ?_
  rintro e w2 ⟨r, rfl, H2⟩
  have H2 := hid (H2.pull 1 rfl)
  clear H1
  go_wp2_with fail
  have H3 := hid (H2.out.alloc [pt d, .pointer none, pt r, .pointer none] 64)
  unfold pt at H3
  generalize w2.heap.size = t at *
  generalize w2.alloc _ = w3 at *
  have hop := two_open hh H3.out base n HB.out.1 HB.out.2.1 HB.out.2.2.1 HB.out.2.2.2
  refine hop.mono ?_
  rintro e w4 ⟨rfl, H4⟩
  have HM : ∃ qv, w4.cell? ⟨t, 3, none⟩ = some qv ∧ TwoAny w w4 t d r 0 qv := by
    generalize (openLg (Dk.new (Int.toNat 24)) base n).2 = o at *
    cases o with
    | none => exact ⟨_, (St.obj H4 0 rfl).cell 3, Dk.new 24, by simp [Dk.new], by simp [Dk.new], .inl ⟨rfl, H4⟩⟩
    | some l =>
      obtain ⟨b, q, h⟩ := H4
      exact ⟨_, (St.obj h 0 rfl).cell 3, Dk.new 24, by simp [Dk.new], by simp [Dk.new], .inr ⟨b, q, l, rfl, h⟩⟩
  have HM := hid HM
  clear hop H4 H3 H2 H1
  go_upto_block 0 with fail
  go_cut [] (fun w' => TwoLeft w w' d r)
  case first =>
    go_wp2_with fail
    go_loopw [12] (fun iv wr => ∃ k : Nat, k ≤ 50 ∧ iv = .int .i64 (k : Int) ∧ ∃ qv, wr.cell? ⟨t, 3, none⟩ = some qv ∧ TwoAny w wr t d r k qv) (fun iv _ => 50 - (intOf iv).toNat)
    case atStart => exact ⟨0, Nat.zero_le _, rfl, HM.out⟩
    case round =>
      obtain ⟨k, hk, rfl, qv, hqv, hM⟩ := hrel
      clear HM
      have HLF := hid hM.left
      by_cases hka : k < l.length
      · have hl1 : (k : Int) < (l.length : Int) := by omega
        by_cases hk5 : k < 50
        · have hl2 : (k : Int) < 50 := by omega
          obtain ⟨σ, hpe, hke, ⟨rfl, -⟩ | ⟨b, q, lg, rfl, H⟩⟩ := hM
          · clear hk5 hka hpe hke
            go_wp2_with fail
            go_meet
            case rel => exact HLF.out
          · obtain ⟨a, ha⟩ : ∃ a, l[k]? = some a := ⟨_, List.getElem?_eq_getElem hka⟩
            have hok : a.Ok w := HA.out.2 a (List.mem_of_getElem? ha)
            obtain ⟨g, off, capb, eb, -, -, hcb, hbw⟩ := HA.out.get ha
            simp only [Value.slice.injEq] at eb
            obtain ⟨rfl, -, rfl⟩ := eb
            have HX := hid (And.intro hok (And.intro hpe (And.intro hke hcb)))
            have HH := hid H
            unfold pt at hqv
            clear hok hcb ha hpe hke H HLF
            go_upto_region 11 with (fail)
            clear hqv
            refine wp_stages (by kernel_rfl) ?_
            have hS1 : ∀ j u, a.cells[j]? = some u → wr.drew.cell? ⟨g, off + k * 4 + j, none⟩ = some u := fun j u hu => (St.pres HH.out).drew.cell (HX.out.2.2.2 j u hu) (by simp)
            refine wp_stage (fun W => ∀ j u, a.cells[j]? = some u → W.cell? ⟨g, off + k * 4 + j, none⟩ = some u) [(0, true), (1, true), (2, true), (3, true), (4, true), (5, true), (6, true), (7, false)] 25 rfl (by kernel_rfl) (by intro c a dd v w h; cases dd <;> exact h) (hS1) ?_
            iterate 4 (refine wpOrd_read (v := _) rfl rfl (by intro w' hS; skip; clear hS; go_simp; rfl) ?_; (try simp only [Act.put, List.setIfInBounds_toArray, List.set_cons_succ, List.set_cons_zero, List.getElem_toArray, List.getElem_cons_succ, List.getElem_cons_zero]))
            refine wpOrd_read (v := .agg a.cells.toArray) rfl rfl (by intro w' hS; exact run_load_cells8 rfl rfl agg_act8 size_act8 hS) ?_
            (try simp only [Act.put, List.setIfInBounds_toArray, List.set_cons_succ, List.set_cons_zero, List.getElem_toArray, List.getElem_cons_succ, List.getElem_cons_zero])
            iterate 2 (refine wpOrd_read (v := _) rfl rfl (by intro w' hS; skip; clear hS; go_simp; rfl) ?_; (try simp only [Act.put, List.setIfInBounds_toArray, List.set_cons_succ, List.set_cons_zero, List.getElem_toArray, List.getElem_cons_succ, List.getElem_cons_zero]))
            have HD := hid (show TwoMid w wr.drew [] t d r b q lg σ from St.drew HH.out)
            generalize wr.drew = wd at *
            refine wpOrd_do rfl rfl (fun K hK => ?_)
            go_simp
            refine (two_does hh HD.out a HX.out.1 base n HB.out.1 HB.out.2.1 HB.out.2.2.1 HB.out.2.2.2 (by have := HX.out.2.1; omega)).mono ?_
            rintro e w5 ⟨rfl, b5, q5, l5, τ, hp5, hk5', H5⟩
            refine hK _ _ ⟨fun j u hu => (St.pres H5).cell (HX.out.2.2.2 j u hu) (by simp), ?_⟩
            have HN := hid (show τ.pend.length ≤ 70000 * (k + 1) ∧ τ.kept.length = 24 from ⟨by have := HX.out.2.1; omega, by rw [hk5', HX.out.2.2.1]⟩)
            clear hK K hS1 hp5 hk5' HD HH
            have H5 := hid H5
            (try simp only [Act.put, List.setIfInBounds_toArray, List.set_cons_succ, List.set_cons_zero, List.getElem_toArray, List.getElem_cons_succ, List.getElem_cons_zero])
            refine wpOrd_end ?_
            refine wp_stage (fun _ => True) [(8, true), (9, true), (10, true), (11, false)] 21 rfl (by kernel_rfl) (by intro c a dd v w h; cases dd <;> exact h) (trivial) ?_
            iterate 3 (refine wpOrd_readw (v := _) rfl rfl (by intro w' hS; skip; clear hS; go_simp; rfl) ?_; (try simp only [Act.put, List.setIfInBounds_toArray, List.set_cons_succ, List.set_cons_zero, List.getElem_toArray, List.getElem_cons_succ, List.getElem_cons_zero]))
            refine wpOrd_dow rfl rfl (fun K hK => ?_)
            go_simp
            refine (two_same H5.out).mono ?_
            rintro e w7 ⟨rfl, H7⟩
            refine hK _ _ ⟨trivial, ?_⟩
            clear hK K H5
            have H7 := hid H7
            (try simp only [Act.put, List.setIfInBounds_toArray, List.set_cons_succ, List.set_cons_zero, List.getElem_toArray, List.getElem_cons_succ, List.getElem_cons_zero])
            refine wpOrd_end ?_
            have hdn := fun W (hW : W = w7) => hW ▸ sd_done (St.pull H7.out 2 rfl)
            have hpd := fun W (hW : W = w7) => hW ▸ sd_pending (St.pull H7.out 2 rfl)
            obtain ⟨kv, pv, -, HO⟩ := ref_open (St.pull H7.out 4 rfl)
            obtain ⟨ap, cp, rfl, -, -⟩ := (HO.sl 2 rfl).shape
            have z1 := (HO.obj 0 rfl).cell 1
            have z4 := (HO.obj 0 rfl).cell 4
            simp only [refCells, List.getElem?_cons_succ, List.getElem?_cons_zero] at z1 z4
            clear HO
            refine wp_stage (fun W => W = w7) [(12, true), (13, true), (14, true), (15, true), (17, true), (18, true), (19, true), (20, true), (16, false), (21, true), (22, true), (23, true), (24, true), (26, true), (27, true), (28, true), (29, true), (30, true), (25, false)] 2 rfl (by kernel_rfl) (by intro c a dd v w h; cases dd <;> exact h) (rfl) ?_
            iterate 8 (refine wpOrd_readw (v := _) rfl rfl (by intro w' hS; subst hS; go_simp; rfl) ?_; (try simp only [Act.put, List.setIfInBounds_toArray, List.set_cons_succ, List.set_cons_zero, List.getElem_toArray, List.getElem_cons_succ, List.getElem_cons_zero]))
            refine wpOrd_dow rfl rfl (fun K hK => ?_)
            go_simp
            refine (hdn _ rfl).mono ?_
            rintro e w6 ⟨rfl, rfl⟩
            refine hK _ _ ⟨rfl, ?_⟩
            clear hK K
            (try simp only [Act.put, List.setIfInBounds_toArray, List.set_cons_succ, List.set_cons_zero, List.getElem_toArray, List.getElem_cons_succ, List.getElem_cons_zero])
            iterate 9 (refine wpOrd_readw (v := _) rfl rfl (by intro w' hS; subst hS; go_simp; rfl) ?_; (try simp only [Act.put, List.setIfInBounds_toArray, List.set_cons_succ, List.set_cons_zero, List.getElem_toArray, List.getElem_cons_succ, List.getElem_cons_zero]))
            refine wpOrd_dow rfl rfl (fun K hK => ?_)
            go_simp
            refine (hpd _ rfl).mono ?_
            rintro e w6 ⟨rfl, rfl⟩
            refine hK _ _ ⟨rfl, ?_⟩
            clear hK K
            (try simp only [Act.put, List.setIfInBounds_toArray, List.set_cons_succ, List.set_cons_zero, List.getElem_toArray, List.getElem_cons_succ, List.getElem_cons_zero])
            refine wpOrd_end ?_
            refine wp_stages_end 31 (by rfl) (by kernel_rfl) ?_
            simp only [List.drop_succ_cons, List.drop_zero]
            clear hdn hpd z1 z4
            go_wp2_with fail
            go_roundw
            case rel => exact ⟨k + 1, by omega, by go_num, _, (St.obj H7.out 0 rfl).cell 3, τ, HN.out.1, HN.out.2, .inr ⟨b5, q5, l5, rfl, H7.out⟩⟩
            case measure => first | (simp [intOf]; done) | (simp [intOf]; omega)
        · have hl2 : ¬ (k : Int) < 50 := by omega
          clear hM hk5 hka
          go_wp2_with fail
          go_meet
          case rel => exact HLF.out
      · have hl1 : ¬ (k : Int) < (l.length : Int) := by omega
        clear hM hka
        go_wp2_with fail
        go_meet
        case rel => exact HLF.out
  case rest =>
    obtain ⟨σ, hke, H⟩ := hcut
    clear HM
    obtain ⟨kv, pv, -, HO⟩ := ref_open (H.pull 1 rfl)
    obtain ⟨ak, ck, rfl, -, -⟩ := (HO.sl 1 rfl).shape
    have z0 := (HO.obj 0 rfl).cell 0
    simp only [refCells, List.getElem?_cons_succ, List.getElem?_cons_zero, hke] at z0
    have HH := hid H
    clear HO H
    go_wp2_with fail
    clear z0
    go_loopw [96] (fun iv wr' => ∃ j : Nat, j ≤ 24 ∧ iv = .int .i64 (j : Int) ∧ St w wr' [diskP d σ, refP r σ]) (fun iv _ => 24 - (intOf iv).toNat)
    case atStart => exact ⟨0, Nat.zero_le _, rfl, HH.out⟩
    case round =>
      obtain ⟨j, hj, rfl, hM⟩ := hrel
      clear HH
      have HH := hid hM
      clear hM
      by_cases hjm : j < 24
      · have hjm' : (j : Int) < 24 := by omega
        have hr1 := sd_read HH.out (j : Int)
        go_wp2_with fail
        refine hr1.mono ?_
        rintro e w4 ⟨rfl, H4, -⟩
        have H4 := hid (H4.pull 1 rfl)
        have hr2 := fun W (hW : W = w4) => hW ▸ ref_read H4.out (j : Int)
        unfold strV at hr2
        generalize σ.read (j : Int) = xy at *
        obtain ⟨x, y⟩ := xy
        simp only [] at hr2
        generalize x.toArray = xa at *
        clear hr1 HH
        go_wp2_with (go_at_call 34; refine (hr2 _ rfl).mono ?_; rintro e w5 ⟨rfl, rfl⟩)
        go_roundw
        case rel => exact ⟨j + 1, by omega, by go_num, H4.out.pull 1 rfl⟩
        case measure => first | (simp [intOf]; done) | (simp [intOf]; omega)
      · have hjm' : ¬ (j : Int) < 24 := by omega
        go_wp2_with (go_at_call 16; refine (wal_works _ (hh.pres (St.pres HH.out))).mono ?_; rintro e wZ ⟨rfl, QZ⟩)
        go_ret
        exact ⟨rfl, (St.pres HH.out).then QZ⟩

end Go.Proofs.YtjaabhdgahljcaaDoor
