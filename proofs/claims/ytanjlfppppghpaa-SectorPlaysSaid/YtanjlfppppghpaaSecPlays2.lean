/- SectorPlays: the walk: whatever number and calls come in, it returns true. -/
import Derived.Test.YtanjlfppppghpaaSecPlays
import Derived.Test.YtanjlfppppghpaaOrder2
namespace Go.Proofs.Ytanjlfppppghpaa
open Go.RowKit

theorem run_load_cells {P : Program} {w : World} {o : Oper} {a : Act} {b off : Nat} {cs : List Value} {ty : TypeId} {x : Operand} (ho : o.op = .load ty x) (hx : a.eval x = .pointer (some ⟨b, off, none⟩)) (ha : IsAgg P ty) (hs : (P.info? ty).map (·.size) = some cs.length)
    (h : ∀ j v, cs[j]? = some v → w.cell? ⟨b, off + j, none⟩ = some v) : (execOp a.eval o).run P w = .ok (.value (.agg cs.toArray)) w := by
  have := run_loadVar_cells (P := P) (w := w) (ad := ⟨b, off, none⟩) (ty := ty) ha hs (fun j v hj => by rw [addr_add]; exact h j v hj)
  unfold execOp
  simp only [ho, hx, Instr.loadAt, Instr.sureAddr, Sem.run_bind, Sem.run_pure, Result.andThen_ok, this]

theorem playDk_inv {σ : Dk} (a : ActD) : (playDk σ a).kept.length = σ.kept.length ∧ (playDk σ a).pend.length ≤ σ.pend.length + 1 := by
  have hd := Dk.does_kept σ
  unfold playDk
  split
  · exact ⟨rfl, Nat.le_succ _⟩
  split
  · unfold Dk.write
    split
    · exact ⟨rfl, Nat.le_succ _⟩
    split
    · split
      · exact ⟨rfl, Nat.le_succ _⟩
      split
      · simp [Dk.put, hd.1, hd.2]
      · simp [hd.1, hd.2]
    · exact ⟨rfl, Nat.le_succ _⟩
  split
  · unfold Dk.flush
    split
    · exact ⟨rfl, Nat.le_succ _⟩
    split
    · simp [Dk.settle, keepAll_length, hd.1]
    · simp [hd.1, hd.2]
  split
  · unfold Dk.arm
    split <;> exact ⟨rfl, by simp⟩
  split
  · unfold Dk.off
    split <;> exact ⟨rfl, by simp⟩
  · unfold Dk.on
    split
    · simp [keepAll_length]
    · exact ⟨rfl, Nat.le_succ _⟩

def playTo (m : Nat) (l : List ActD) : Nat → Dk
  | 0 => Dk.new m
  | k + 1 => match l[k]? with
    | none => playTo m l k
    | some a => playDk (playTo m l k) a

theorem playTo_inv (m : Nat) (l : List ActD) (k : Nat) : (playTo m l k).kept.length = m ∧ (playTo m l k).pend.length ≤ k := by
  induction k with
  | zero => simp [playTo, Dk.new]
  | succ k ih =>
    simp only [playTo]
    split
    · exact ⟨ih.1, by omega⟩
    · rename_i a _
      have := playDk_inv (σ := playTo m l k) a
      exact ⟨by rw [this.1, ih.1], by omega⟩

/-- The loop's state. -/
def PlayMid (w wr : World) (d r m : Nat) (l : List ActD) (k : Nat) : Prop := St w wr [diskP d (playTo m l k), refP r (playTo m l k)]

set_option maxRecDepth 10000 in
set_option maxHeartbeats 2000000 in
theorem plays_bad (w : World) (n : Int) (v : Value) (l : List ActD) (hl : ActsAt w v l) (h : n < 1 ∨ 65536 < n) :
    Calls Try.prog 6 #[.int .i64 n, v] w fun e w' => e = .returned (.bool true) ∧ Pres [] w w' := by
  obtain ⟨av, capv, ev, hv1, hv2, -⟩ := id hl.1
  rw [List.length_map] at ev hv1
  subst ev
  have hn := new_bad n w h
  have hr := ref_new_bad n w h
  clear hl hv1 hv2
  by_cases h1 : 12 < n
  · have h2 : ¬ n ≤ 65536 := by omega
    clear h
    go_enter Try.func6, Try.ntmps6
    go_wp2_with (first | (go_at_call 8; refine hn.mono ?_; rintro e w1 ⟨rfl, rfl⟩) | (go_at_call 22; refine hr.mono ?_; rintro e w1 ⟨rfl, rfl⟩))
    refine wp_loop_once ?_
    go_wp2_with (go_at_call 14; refine (works_ok _).mono ?_; rintro e wZ ⟨rfl, QZ⟩)
    all_goals
      go_ret
      exact ⟨rfl, QZ⟩
  · clear h
    go_enter Try.func6, Try.ntmps6
    go_wp2_with (first | (go_at_call 8; refine hn.mono ?_; rintro e w1 ⟨rfl, rfl⟩) | (go_at_call 22; refine hr.mono ?_; rintro e w1 ⟨rfl, rfl⟩))
    refine wp_loop_once ?_
    go_wp2_with (go_at_call 14; refine (works_ok _).mono ?_; rintro e wZ ⟨rfl, QZ⟩)
    all_goals
      go_ret
      exact ⟨rfl, QZ⟩

set_option maxRecDepth 10000 in
set_option maxHeartbeats 2000000 in
theorem plays_good (w : World) (n : Int) (m : Nat) (v : Value) (l : List ActD) (hl : ActsAt w v l) (h1 : 1 ≤ n) (h2 : n ≤ 65536) (hm : (m : Int) = if 12 < n then 1 + n % 12 else n) :
    Calls Try.prog 6 #[.int .i64 n, v] w fun e w' => e = .returned (.bool true) ∧ Pres [] w w' := by
  obtain ⟨av, capv, ev, hv1, hv2, -⟩ := id hl.1
  rw [List.length_map] at ev hv1
  subst ev
  have hmax : l.length ≤ 9223372036854775807 := by simp only [maxLen] at hv2; omega
  have HA := hid hl
  have hm1 : 1 ≤ m := by split at hm <;> omega
  have hm2 : m ≤ 12 := by split at hm <;> omega
  clear hl hv1 hv2
  by_cases h12 : 12 < n
  all_goals
    first | rw [if_pos h12] at hm | rw [if_neg h12] at hm
    go_enter Try.func6, Try.ntmps6
    go_wp2_with fail
    try rw [← hm]
    try rw [show n = (m : Int) from hm.symm]
    have hmi : (m : Int) ≤ 65536 := by omega
    have hz := hid hm
    clear hm h12 h1 h2
    refine (sd_new (St.start w) (m : Int) (by omega) hmi).mono ?_
    rintro e w1 ⟨d, rfl, H1⟩
    rw [Int.toNat_natCast] at H1
    have H1 := hid H1
    go_wp2_with fail
    refine (ref_new_ok H1.out m hm1 (by omega)).mono ?_
    rintro e w2 ⟨r, rfl, H2⟩
    have HM : PlayMid w w2 d r m l 0 := H2.pull 1 rfl
    clear H1 H2
    go_wp2_with fail
    go_loopw [9] (fun iv wr => ∃ k : Nat, k ≤ l.length ∧ k ≤ 60 ∧ iv = .int .i64 (k : Int) ∧ PlayMid w wr d r m l k) (fun iv _ => 60 - (intOf iv).toNat)
    case atStart => exact ⟨0, Nat.zero_le _, Nat.zero_le _, rfl, HM⟩
    case round =>
      obtain ⟨k, hk, h60, rfl, hM⟩ := hrel
      clear HM
      have HH := hid hM
      clear hM
      by_cases hlt : k < l.length ∧ k < 60
      · obtain ⟨hlt, h60'⟩ := hlt
        have hl1 : (k : Int) < (l.length : Int) := by omega
        have hl2 : (k : Int) < 60 := by omega
        obtain ⟨a, ha⟩ : ∃ a, l[k]? = some a := ⟨_, List.getElem?_eq_getElem hlt⟩
        have hok : a.Ok w := HA.out.2 a (List.mem_of_getElem? ha)
        obtain ⟨b, off, capb, eb, -, -, hcb, hbw⟩ := HA.out.get ha
        simp only [Value.slice.injEq] at eb
        obtain ⟨rfl, -, rfl⟩ := eb
        have hstep : playTo m l (k + 1) = playDk (playTo m l k) a := by simp only [playTo, ha]
        have hinv := playTo_inv m l k
        have hinv' := playTo_inv m l (k + 1)
        have HX := hid (And.intro hok (And.intro hstep (And.intro hinv (And.intro hinv' hcb))))
        clear hok hstep hinv hinv' hcb ha
        go_upto_region 10 with (fail)
        refine wp_stages (by kernel_rfl) ?_
        have hS1 : ∀ j u, a.cells[j]? = some u → wr.drew.cell? ⟨b, off + k * 4 + j, none⟩ = some u := fun j u hu => (St.pres HH.out).drew.cell (HX.out.2.2.2.2 j u hu) (by simp)
        refine wp_stage (fun W => ∀ j u, a.cells[j]? = some u → W.cell? ⟨b, off + k * 4 + j, none⟩ = some u) [(0, true), (1, true), (2, true), (3, true), (4, true), (5, true), (6, false)] 39 rfl (by kernel_rfl) (by intro c a dd v w h; cases dd <;> exact h) (hS1) ?_
        iterate 5 (refine wpOrd_read (v := _) rfl rfl (by intro w' hS; skip; clear hS; go_simp; rfl) ?_; (try simp only [Act.put, List.setIfInBounds_toArray, List.set_cons_succ, List.set_cons_zero, List.getElem_toArray, List.getElem_cons_succ, List.getElem_cons_zero]))
        refine wpOrd_read (v := .agg a.cells.toArray) rfl rfl (by intro w' hS; exact run_load_cells rfl rfl agg_act size_act hS) ?_
        (try simp only [Act.put, List.setIfInBounds_toArray, List.set_cons_succ, List.set_cons_zero, List.getElem_toArray, List.getElem_cons_succ, List.getElem_cons_zero])
        have HD := hid (St.drew HH.out)
        generalize wr.drew = wd at *
        refine wpOrd_do rfl rfl (fun K hK => ?_)
        go_simp
        refine (play_does HD.out a HX.out.1 (by have := HX.out.2.2.1.2; omega)).mono ?_
        rintro e w3 ⟨rfl, H3⟩
        rw [← HX.out.2.1] at H3
        refine hK _ _ ⟨fun j u hu => (St.pres H3).cell (HX.out.2.2.2.2 j u hu) (by simp), ?_⟩
        clear hK K hS1
        have H3 := hid H3
        (try simp only [Act.put, List.setIfInBounds_toArray, List.set_cons_succ, List.set_cons_zero, List.getElem_toArray, List.getElem_cons_succ, List.getElem_cons_zero])
        refine wpOrd_end ?_
        have hpd := fun W (hW : W = w3) => hW ▸ sd_pending H3.out
        have hdw := fun W (hW : W = w3) => hW ▸ sd_down H3.out
        have hdn := fun W (hW : W = w3) => hW ▸ sd_done H3.out
        have hsz := fun W (hW : W = w3) => hW ▸ sd_size H3.out
        obtain ⟨kv, pv, -, HO⟩ := ref_open (H3.out.pull 1 rfl)
        obtain ⟨ak, ck, rfl, -, -⟩ := (HO.sl 1 rfl).shape
        obtain ⟨ap, cp, rfl, -, -⟩ := (HO.sl 2 rfl).shape
        have z0 := (HO.obj 0 rfl).cell 0
        have z1 := (HO.obj 0 rfl).cell 1
        have z2 := (HO.obj 0 rfl).cell 2
        have z4 := (HO.obj 0 rfl).cell 4
        simp only [refCells, List.getElem?_cons_succ, List.getElem?_cons_zero] at z0 z1 z2 z4
        clear HO
        have H3' := hid (show PlayMid w w3 d r m l (k + 1) from H3.out)
        have hkl := HX.out.2.2.2.1.1
        generalize playTo m l (k + 1) = τ at *
        clear HH HD H3
        refine wp_stage (fun W => W = w3) [(7, true), (8, true), (9, true), (11, true), (12, true), (13, true), (14, true), (15, true), (10, false), (16, true), (17, true), (18, true), (19, true), (21, true), (22, true), (23, true), (24, true), (20, false), (25, true), (26, true), (27, true), (28, true), (30, true), (31, true), (32, true), (33, true), (29, false), (34, true), (35, true), (36, true), (37, true), (39, true), (40, true), (41, true), (42, true), (43, true), (38, false)] 2 rfl (by kernel_rfl) (by intro c a dd v w h; cases dd <;> exact h) (rfl) ?_
        iterate 8 (refine wpOrd_readw (v := _) rfl rfl (by intro w' hS; subst hS; go_simp; rfl) ?_; (try simp only [Act.put, List.setIfInBounds_toArray, List.set_cons_succ, List.set_cons_zero, List.getElem_toArray, List.getElem_cons_succ, List.getElem_cons_zero]))
        refine wpOrd_dow rfl rfl (fun K hK => ?_)
        go_simp
        refine (hpd _ rfl).mono ?_
        rintro e w6 ⟨rfl, rfl⟩
        refine hK _ _ ⟨rfl, ?_⟩
        clear hK K
        (try simp only [Act.put, List.setIfInBounds_toArray, List.set_cons_succ, List.set_cons_zero, List.getElem_toArray, List.getElem_cons_succ, List.getElem_cons_zero])
        iterate 8 (refine wpOrd_readw (v := _) rfl rfl (by intro w' hS; subst hS; go_simp; rfl) ?_; (try simp only [Act.put, List.setIfInBounds_toArray, List.set_cons_succ, List.set_cons_zero, List.getElem_toArray, List.getElem_cons_succ, List.getElem_cons_zero]))
        refine wpOrd_dow rfl rfl (fun K hK => ?_)
        go_simp
        refine (hdw _ rfl).mono ?_
        rintro e w6 ⟨rfl, rfl⟩
        refine hK _ _ ⟨rfl, ?_⟩
        clear hK K
        (try simp only [Act.put, List.setIfInBounds_toArray, List.set_cons_succ, List.set_cons_zero, List.getElem_toArray, List.getElem_cons_succ, List.getElem_cons_zero])
        iterate 8 (refine wpOrd_readw (v := _) rfl rfl (by intro w' hS; subst hS; go_simp; rfl) ?_; (try simp only [Act.put, List.setIfInBounds_toArray, List.set_cons_succ, List.set_cons_zero, List.getElem_toArray, List.getElem_cons_succ, List.getElem_cons_zero]))
        refine wpOrd_dow rfl rfl (fun K hK => ?_)
        go_simp
        refine (hdn _ rfl).mono ?_
        rintro e w6 ⟨rfl, rfl⟩
        refine hK _ _ ⟨rfl, ?_⟩
        clear hK K
        (try simp only [Act.put, List.setIfInBounds_toArray, List.set_cons_succ, List.set_cons_zero, List.getElem_toArray, List.getElem_cons_succ, List.getElem_cons_zero])
        iterate 9 (refine wpOrd_readw (v := _) rfl rfl (by intro w' hS; subst hS; go_simp; rfl) ?_; (try simp only [Act.put, List.setIfInBounds_toArray, List.set_cons_succ, List.set_cons_zero, List.getElem_toArray, List.getElem_cons_succ, List.getElem_cons_zero]))
        refine wpOrd_dow rfl rfl (fun K hK => ?_)
        go_simp
        refine (hsz _ rfl).mono ?_
        rintro e w6 ⟨rfl, rfl⟩
        refine hK _ _ ⟨rfl, ?_⟩
        clear hK K
        (try simp only [Act.put, List.setIfInBounds_toArray, List.set_cons_succ, List.set_cons_zero, List.getElem_toArray, List.getElem_cons_succ, List.getElem_cons_zero])
        refine wpOrd_end ?_
        refine wp_stages_end 44 (by rfl) (by kernel_rfl) ?_
        simp only [List.drop_succ_cons, List.drop_zero]
        clear hpd hdw hdn hsz z1 z2 z4
        go_upto_if 103 with (fail)
        rw [hkl] at z0
        clear hkl
        go_wp2_with fail
        go_loopw [109] (fun iv wr' => ∃ j : Nat, j ≤ m ∧ iv = .int .i64 (j : Int) ∧ PlayMid w wr' d r m l (k + 1)) (fun iv _ => m - (intOf iv).toNat)
        case atStart => exact ⟨0, Nat.zero_le _, rfl, H3'.out⟩
        case round =>
          obtain ⟨j, hj, rfl, hM⟩ := hrel
          clear H3' z0
          have HH := hid hM
          clear hM
          by_cases hjm : j < m
          · have hjm' : (j : Int) < (m : Int) := by omega
            have hr1 := sd_read HH.out (j : Int)
            go_wp2_with fail
            refine hr1.mono ?_
            rintro e w4 ⟨rfl, H4, -⟩
            have H4 := hid (H4.pull 1 rfl)
            have hr2 := fun W (hW : W = w4) => hW ▸ ref_read H4.out (j : Int)
            unfold strV at hr2
            generalize (playTo m l (k + 1)).read (j : Int) = xy at *
            obtain ⟨x, y⟩ := xy
            simp only [] at hr2
            generalize x.toArray = xa at *
            clear hr1 HH
            go_wp2_with (go_at_call 26; refine (hr2 _ rfl).mono ?_; rintro e w5 ⟨rfl, rfl⟩)
            go_roundw
            case rel => exact ⟨j + 1, by omega, by go_num, H4.out.pull 1 rfl⟩
            case measure => first | (simp [intOf]; done) | (simp [intOf]; omega)
          · have hjm' : ¬ (j : Int) < (m : Int) := by omega
            go_wp2
            go_roundw
            case rel => exact ⟨k + 1, by omega, by omega, by go_num, HH.out⟩
            case measure => first | (simp [intOf]; done) | (simp [intOf]; omega)
      · have hOut : ¬ k < l.length ∨ (k < l.length ∧ ¬ k < 60) := by omega
        have HP := hid (St.pres HH.out)
        clear hlt
        rcases hOut with hq | ⟨hq, hq2⟩
        all_goals
          go_wp2_with (go_at_call 14; refine (works_ok _).mono ?_; rintro e wZ ⟨rfl, QZ⟩)
          go_ret
          exact ⟨rfl, HP.out.then QZ⟩

theorem plays_walk (w : World) (n : Int) (v : Value) (l : List ActD) (hl : ActsAt w v l) :
    Calls Try.prog 6 #[.int .i64 n, v] w fun e w' => e = .returned (.bool true) ∧ Pres [] w w' := by
  by_cases h : n < 1 ∨ 65536 < n
  · exact plays_bad w n v l hl h
  · obtain ⟨m, hm⟩ : ∃ m : Nat, (m : Int) = if 12 < n then 1 + n % 12 else n := ⟨(if 12 < n then 1 + n % 12 else n).toNat, by split <;> omega⟩
    exact plays_good w n m v l hl (by omega) (by omega) hm

end Go.Proofs.Ytanjlfppppghpaa
