/- aquiferlaw08: a call of a log on both sides: both answer alike, and have the same behind it; conditions stand in the theorem. -/
import Derived.Test.YtjaabhdgahljcaaDoorLawA
import Derived.Test.YtjaabhdgahljcaaDoorWalSteps
namespace Go.Proofs.YtjaabhdgahljcaaDoor
open Go.RowKit
set_option maxRecDepth 100000

theorem wf_i64' {n : Int} (h : (Lit.int .i64 n).wf = true) : -9223372036854775808 ≤ n ∧ n ≤ 9223372036854775807 := by
  simp only [Lit.wf, decide_eq_true_eq, Bool.and_eq_true] at h
  exact ⟨h.1, h.2⟩

/-- What the calls read of the pair, and of the act. -/
def PlayS (t ab d b r q : Nat) (a : ActD) (W : World) : Prop :=
  W.cell? ⟨t, 0, none⟩ = some (.pointer (some ⟨d, 0, none⟩)) ∧ W.cell? ⟨t, 1, none⟩ = some (.pointer (some ⟨b, 0, none⟩)) ∧ W.cell? ⟨t, 2, none⟩ = some (.pointer (some ⟨r, 0, none⟩)) ∧ W.cell? ⟨t, 3, none⟩ = some (.pointer (some ⟨q, 0, none⟩)) ∧
    W.cell? ⟨ab, 1, none⟩ = some (.int .i64 a.pos) ∧ W.cell? ⟨ab, 3, none⟩ = some a.kv

theorem playS_of {w0 W : World} {ps : List HP} {t ab d b r q : Nat} {a : ActD} (H : St w0 W (objP ab a.cells 35 :: objP t [pt d, pt b, pt r, pt q] 64 :: ps)) : PlayS t ab d b r q a W :=
  ⟨(H.obj 1 rfl).cell 0, (H.obj 1 rfl).cell 1, (H.obj 1 rfl).cell 2, (H.obj 1 rfl).cell 3, (H.obj 0 rfl).cell 1, (H.obj 0 rfl).cell 3⟩

/-- What a call comes to. -/
def TwoDone (w0 w' : World) (ps : List HP) (t d r : Nat) (σ : Dk) : Prop :=
  ∃ (b q : Nat) (l : Lg) (τ : Dk), τ.pend.length ≤ σ.pend.length + 70000 ∧ τ.kept.length = σ.kept.length ∧ TwoMid w0 w' ps t d r b q l τ

theorem arm_same (σ : Dk) (n : Int) : (σ.arm n).2.pend.length ≤ σ.pend.length + 70000 ∧ (σ.arm n).2.kept.length = σ.kept.length := by
  unfold Dk.arm
  split <;> exact ⟨by simp, rfl⟩

theorem off_same (σ : Dk) : σ.off.2.pend.length ≤ σ.pend.length + 70000 ∧ σ.off.2.kept.length = σ.kept.length := by
  unfold Dk.off
  split <;> exact ⟨by simp, rfl⟩

theorem on_same (σ : Dk) (keep : List Bool) : (σ.on keep).2.pend.length ≤ σ.pend.length + 70000 ∧ (σ.on keep).2.kept.length = σ.kept.length := by
  unfold Dk.on
  split
  · exact ⟨by simp, keepAll_length _ _⟩
  · exact ⟨by simp, rfl⟩

theorem write_same (σ : Dk) (i : Int) (s : List UInt8) : (σ.write i s).2.kept.length = σ.kept.length := by
  have hd := Dk.does_kept σ
  unfold Dk.write
  split
  · rfl
  split
  · split
    · rfl
    split
    · simp [Dk.put, hd.1]
    · simp [hd.1]
  · rfl

theorem TwoOpened.done {w0 w' : World} {ps : List HP} {t d r b q : Nat} {l : Lg} {σ τ : Dk} {o : Option Lg} (h : TwoOpened w0 w' (logP b d l :: qlogP q r l :: ps) t d r (pt b) (pt q) τ o)
    (h1 : τ.pend.length ≤ σ.pend.length + 70000) (h2 : τ.kept.length = σ.kept.length) : TwoDone w0 w' ps t d r σ := by
  cases o with
  | none => exact ⟨b, q, l, τ, h1, h2, (((St.pull h 4 rfl).pull 2 rfl).pull 4 rfl).pull 3 rfl⟩
  | some l2 =>
    obtain ⟨b2, q2, h3⟩ := h
    exact ⟨b2, q2, l2, τ, h1, h2, ((h3.pull 5 rfl).drop.pull 5 rfl).drop⟩

set_option maxHeartbeats 8000000 in
theorem two_does {w0 w : World} {ps : List HP} {t d r b q : Nat} {l : Lg} {σ : Dk} (hh : HalfAt w0) (H : TwoMid w0 w ps t d r b q l σ) (a : ActD) (ha : a.Ok w0) (base n : Int)
    (hb0 : -9223372036854775808 ≤ base) (hb1 : base ≤ 9223372036854775807) (hn0 : -9223372036854775808 ≤ n) (hn1 : n ≤ 9223372036854775807) (hroom : σ.pend.length ≤ 700000000) :
    Calls Tryd.prog 30 #[.pointer (some ⟨t, 0, none⟩), .agg #[.int .i64 a.kind, .int .i64 a.pos, .string a.s, a.kv], .int .i64 base, .int .i64 n] w fun en w' => en = .returned (.bool true) ∧ TwoDone w0 w' ps t d r σ := by
  have H1 : Hid (St w0 (w.alloc (.cells #[.int .i64 a.kind, .int .i64 a.pos, .string a.s, a.kv] 35)) (objP w.heap.size a.cells 35 :: objP t [pt d, pt b, pt r, pt q] 64 :: logP b d l :: diskP d σ :: qlogP q r l :: refP r σ :: ps)) := hid (St.alloc H a.cells 35)
  have c0 := (H1.out.obj 0 rfl).cell 0
  have c1 := (H1.out.obj 0 rfl).cell 1
  have c2 := (H1.out.obj 0 rfl).cell 2
  have c3 := (H1.out.obj 0 rfl).cell 3
  simp only [ActD.cells, List.getElem?_cons_succ, List.getElem?_cons_zero] at c0 c1 c2 c3
  obtain ⟨_, _, _, hlog, -⟩ := log_open (St.pull H1.out 2 rfl)
  obtain ⟨M, hM⟩ : ∃ M : Nat, M = min 300 a.s.size := ⟨_, rfl⟩
  have hM1 : min (a.s.size : Int) 300 = (M : Int) := by omega
  have hM1' : (if (300 : Int) < (a.s.size : Int) then 300 else (a.s.size : Int)) = (M : Int) := by split <;> omega
  have hM2 : (M : Int) ≤ (a.s.size : Int) := by omega
  have hM3 : (a.s.size : Int) ≤ 9223372036854775807 := by have := ha.s; simp only [maxLen] at this; omega
  have hxs : (a.s.extract 0 M).size = M := by rw [ByteArray.size_extract]; omega
  have hM300 : M ≤ 300 := by omega
  have HP := hid (And.intro (wf_i64' ha.pos) (And.intro ha.keep (And.intro hb0 (And.intro hb1 (And.intro hn0 hn1)))))
  have HLOG := hid hlog
  obtain ⟨x, hx⟩ : ∃ x, a.s.extract 0 M = x := ⟨_, rfl⟩
  rw [hx] at hxs
  have hxm : x.size ≤ maxLen := by simp only [maxLen]; omega
  have HXM := hid hxm
  clear H hM hlog hb0 hb1 hn0 hn1 hxm
  generalize hab : w.heap.size = ab at *
  by_cases k0 : a.kind = 0
  · have j0 : (a.kind == 0) = true := by simpa using k0
    clear k0
    go_enter Tryd.func30, Tryd.ntmps30
    go_upto_region 4 with (fail)
    refine wp_stages (by kernel_rfl) ?_
    have HD := hid (St.drew H1.out)
    generalize (w.alloc (.cells #[.int .i64 a.kind, .int .i64 a.pos, .string a.s, a.kv] 35)).drew = wd at *
    clear H1 c0 c1 c2 c3
    refine wp_stage (PlayS t ab d b r q a) [(0, true), (1, true), (2, true), (3, true), (4, true), (6, true), (7, true), (8, true), (9, true), (10, true), (5, false)] 3 rfl (by kernel_rfl) (by intro c a dd v w h; cases dd <;> exact h) (playS_of HD.out) ?_
    iterate 10 (refine wpOrd_read (v := _) rfl rfl (by intro w' hS; obtain ⟨s0, s1, s2, s3, s4, s5⟩ := id hS; clear hS; go_simp; rfl) ?_; (try simp only [Act.put, List.setIfInBounds_toArray, List.set_cons_succ, List.set_cons_zero, List.getElem_toArray, List.getElem_cons_succ, List.getElem_cons_zero]))
    refine wpOrd_do rfl rfl (fun K hK => ?_)
    go_simp
    refine (log_add (HD.out.pull 2 rfl) x HXM.out).mono ?_
    rintro en w2 ⟨rfl, H2⟩
    have H2 := hid ((H2.pull 2 rfl).pull 2 rfl)
    refine hK _ _ ⟨playS_of H2.out, ?_⟩
    clear hK K HD
    (try simp only [Act.put, List.setIfInBounds_toArray, List.set_cons_succ, List.set_cons_zero, List.getElem_toArray, List.getElem_cons_succ, List.getElem_cons_zero])
    refine wpOrd_end ?_
    refine wp_stages_end 11 (by rfl) (by kernel_rfl) ?_
    simp only [List.drop_succ_cons, List.drop_zero]
    have hc2 := q_add (H2.out.pull 4 rfl) x HXM.out
    go_wp2_with (go_at_call 54; refine hc2.mono ?_; rintro e w3 ⟨rfl, H3⟩)
    go_ret
    exact ⟨by simp, b, q, _, σ, by omega, rfl, ((((H3.pull 1 rfl).drop.pull 3 rfl).pull 3 rfl).pull 3 rfl)⟩
  by_cases k1 : a.kind = 1
  · have j0 : (a.kind == 0) = false := by simpa using k0
    have j1 : (a.kind == 1) = true := by simpa using k1
    clear k0 k1
    go_enter Tryd.func30, Tryd.ntmps30
    go_upto_region 6 with (fail)
    refine wp_stages (by kernel_rfl) ?_
    have HD := hid (St.drew H1.out)
    generalize (w.alloc (.cells #[.int .i64 a.kind, .int .i64 a.pos, .string a.s, a.kv] 35)).drew = wd at *
    clear H1 c0 c1 c2 c3
    refine wp_stage (PlayS t ab d b r q a) [(0, true), (1, true), (2, true), (3, true), (5, true), (6, true), (7, true), (8, true), (4, false)] 3 rfl (by kernel_rfl) (by intro c a dd v w h; cases dd <;> exact h) (playS_of HD.out) ?_
    iterate 8 (refine wpOrd_read (v := _) rfl rfl (by intro w' hS; obtain ⟨s0, s1, s2, s3, s4, s5⟩ := id hS; clear hS; go_simp; rfl) ?_; (try simp only [Act.put, List.setIfInBounds_toArray, List.set_cons_succ, List.set_cons_zero, List.getElem_toArray, List.getElem_cons_succ, List.getElem_cons_zero]))
    refine wpOrd_do rfl rfl (fun K hK => ?_)
    go_simp
    refine (log_sync hh ((HD.out.pull 3 rfl).pull 3 rfl) (by omega)).mono ?_
    rintro en w2 ⟨rfl, H2⟩
    have H2 := hid ((H2.pull 3 rfl).pull 3 rfl)
    refine hK _ _ ⟨playS_of H2.out, ?_⟩
    clear hK K HD
    (try simp only [Act.put, List.setIfInBounds_toArray, List.set_cons_succ, List.set_cons_zero, List.getElem_toArray, List.getElem_cons_succ, List.getElem_cons_zero])
    refine wpOrd_end ?_
    refine wp_stages_end 9 (by rfl) (by kernel_rfl) ?_
    simp only [List.drop_succ_cons, List.drop_zero]
    have hc2 := q_sync ((H2.out.pull 5 rfl).pull 5 rfl) (by omega)
    go_wp2_with (go_at_call 55; refine hc2.mono ?_; rintro e w3 ⟨rfl, H3⟩)
    go_ret
    exact ⟨by simp, b, q, _, _, Lg.sync_pend HLOG.out σ, sync_len σ l, (((H3.pull 2 rfl).drop.pull 4 rfl).pull 4 rfl).pull 4 rfl⟩
  by_cases k2 : a.kind = 2
  · have j0 : (a.kind == 0) = false := by simpa using k0
    have j1 : (a.kind == 1) = false := by simpa using k1
    have j2 : (a.kind == 2) = true := by simpa using k2
    clear k0 k1 k2
    go_enter Tryd.func30, Tryd.ntmps30
    go_upto_region 8 with (fail)
    refine wp_stages (by kernel_rfl) ?_
    have HD := hid (St.drew H1.out)
    generalize (w.alloc (.cells #[.int .i64 a.kind, .int .i64 a.pos, .string a.s, a.kv] 35)).drew = wd at *
    clear H1 c0 c1 c2 c3
    refine wp_stage (PlayS t ab d b r q a) [(0, true), (1, true), (2, true), (3, true), (5, true), (6, true), (7, true), (8, true), (4, false)] 3 rfl (by kernel_rfl) (by intro c a dd v w h; cases dd <;> exact h) (playS_of HD.out) ?_
    iterate 8 (refine wpOrd_read (v := _) rfl rfl (by intro w' hS; obtain ⟨s0, s1, s2, s3, s4, s5⟩ := id hS; clear hS; go_simp; rfl) ?_; (try simp only [Act.put, List.setIfInBounds_toArray, List.set_cons_succ, List.set_cons_zero, List.getElem_toArray, List.getElem_cons_succ, List.getElem_cons_zero]))
    refine wpOrd_do rfl rfl (fun K hK => ?_)
    go_simp
    refine (log_reset hh ((HD.out.pull 3 rfl).pull 3 rfl) (by omega)).mono ?_
    rintro en w2 ⟨rfl, H2⟩
    have H2 := hid ((H2.pull 3 rfl).pull 3 rfl)
    refine hK _ _ ⟨playS_of H2.out, ?_⟩
    clear hK K HD
    (try simp only [Act.put, List.setIfInBounds_toArray, List.set_cons_succ, List.set_cons_zero, List.getElem_toArray, List.getElem_cons_succ, List.getElem_cons_zero])
    refine wpOrd_end ?_
    refine wp_stages_end 9 (by rfl) (by kernel_rfl) ?_
    simp only [List.drop_succ_cons, List.drop_zero]
    have hc2 := q_reset ((H2.out.pull 5 rfl).pull 5 rfl) (by omega)
    go_wp2_with (go_at_call 56; refine hc2.mono ?_; rintro e w3 ⟨rfl, H3⟩)
    go_ret
    exact ⟨by simp, b, q, _, _, Nat.le_trans (Lg.reset_pend l σ) (by omega), reset_len σ l, (((H3.pull 2 rfl).drop.pull 4 rfl).pull 4 rfl).pull 4 rfl⟩
  by_cases k3 : a.kind = 3
  · have j0 : (a.kind == 0) = false := by simpa using k0
    have j1 : (a.kind == 1) = false := by simpa using k1
    have j2 : (a.kind == 2) = false := by simpa using k2
    have j3 : (a.kind == 3) = true := by simpa using k3
    clear k0 k1 k2 k3
    have t1 := (H1.out.obj 1 rfl).cell 1
    simp only [pt, List.getElem?_cons_succ, List.getElem?_cons_zero] at t1
    go_enter Tryd.func30, Tryd.ntmps30
    go_wp2_with fail
    refine (log_drop (H1.out.pull 2 rfl)).mono ?_
    rintro en w2 ⟨rfl, H2⟩
    have H2 := hid ((H2.pull 2 rfl).pull 2 rfl)
    have d3 := (H2.out.obj 1 rfl).cell 3
    simp only [pt, List.getElem?_cons_succ, List.getElem?_cons_zero] at d3
    obtain ⟨rv, wv, ok, HO⟩ := q_open (H2.out.pull 4 rfl)
    have c6 := (HO.obj 0 rfl).cell 6
    have f6 := (HO.obj 0 rfl).frozen 6
    have hltq := (HO.obj 0 rfl).lt
    simp only [qCells, List.getElem?_cons_succ, List.getElem?_cons_zero] at c6
    have HO := hid HO
    have HOK := hid ok
    clear H1 c0 c1 c2 c3 H2 ok t1
    go_wp2
    go_ret
    have h1 := HO.out.set 0 rfl 6 (.slice none 0 0)
    have h2 := ((h1.pull 2 rfl).drop.nil 9 1).pull 2 rfl
    have h3 := q_close (l := l.drop) (Lg.drop_ok HOK.out) (rv := rv) (wv := .slice none 0 0) (h2.pull 2 rfl)
    exact ⟨rfl, b, q, l.drop, σ, by omega, rfl, ((((h3.pull 1 rfl).drop.pull 3 rfl).pull 3 rfl).pull 3 rfl)⟩
  by_cases k4 : a.kind = 4
  · have j0 : (a.kind == 0) = false := by simpa using k0
    have j1 : (a.kind == 1) = false := by simpa using k1
    have j2 : (a.kind == 2) = false := by simpa using k2
    have j3 : (a.kind == 3) = false := by simpa using k3
    have j4 : (a.kind == 4) = true := by simpa using k4
    clear k0 k1 k2 k3 k4
    go_enter Tryd.func30, Tryd.ntmps30
    go_upto_region 14 with (fail)
    refine wp_stages (by kernel_rfl) ?_
    have HD := hid (St.drew H1.out)
    generalize (w.alloc (.cells #[.int .i64 a.kind, .int .i64 a.pos, .string a.s, a.kv] 35)).drew = wd at *
    clear H1 c0 c1 c2 c3
    refine wp_stage (PlayS t ab d b r q a) [(0, true), (1, true), (2, true), (3, true), (4, true), (5, true), (7, true), (8, true), (9, true), (10, true), (11, true), (12, true), (6, false)] 3 rfl (by kernel_rfl) (by intro c a dd v w h; cases dd <;> exact h) (playS_of HD.out) ?_
    iterate 12 (refine wpOrd_read (v := _) rfl rfl (by intro w' hS; obtain ⟨s0, s1, s2, s3, s4, s5⟩ := id hS; clear hS; go_simp; rfl) ?_; (try simp only [Act.put, List.setIfInBounds_toArray, List.set_cons_succ, List.set_cons_zero, List.getElem_toArray, List.getElem_cons_succ, List.getElem_cons_zero]))
    refine wpOrd_do rfl rfl (fun K hK => ?_)
    go_simp
    refine (sd_arm (HD.out.pull 3 rfl) a.pos HP.out.1.2).mono ?_
    rintro en w2 ⟨rfl, H2⟩
    have H2 := hid (((H2.pull 3 rfl).pull 3 rfl).pull 3 rfl)
    refine hK _ _ ⟨playS_of H2.out, ?_⟩
    clear hK K HD
    (try simp only [Act.put, List.setIfInBounds_toArray, List.set_cons_succ, List.set_cons_zero, List.getElem_toArray, List.getElem_cons_succ, List.getElem_cons_zero])
    refine wpOrd_end ?_
    refine wp_stages_end 13 (by rfl) (by kernel_rfl) ?_
    simp only [List.drop_succ_cons, List.drop_zero]
    have hc2 := ref_arm (H2.out.pull 5 rfl) a.pos HP.out.1.2
    go_wp2_with (go_at_call 57; refine hc2.mono ?_; rintro e w3 ⟨rfl, H3⟩)
    go_ret
    exact ⟨by simp, b, q, l, _, (arm_same σ a.pos).1, (arm_same σ a.pos).2, ((((H3.pull 1 rfl).drop.pull 4 rfl).pull 4 rfl).pull 4 rfl).pull 4 rfl⟩
  by_cases k5 : a.kind = 5
  · have j0 : (a.kind == 0) = false := by simpa using k0
    have j1 : (a.kind == 1) = false := by simpa using k1
    have j2 : (a.kind == 2) = false := by simpa using k2
    have j3 : (a.kind == 3) = false := by simpa using k3
    have j4 : (a.kind == 4) = false := by simpa using k4
    have j5 : (a.kind == 5) = true := by simpa using k5
    clear k0 k1 k2 k3 k4 k5
    go_enter Tryd.func30, Tryd.ntmps30
    go_upto_region 16 with (fail)
    refine wp_stages (by kernel_rfl) ?_
    have HD := hid (St.drew H1.out)
    generalize (w.alloc (.cells #[.int .i64 a.kind, .int .i64 a.pos, .string a.s, a.kv] 35)).drew = wd at *
    clear H1 c0 c1 c2 c3
    refine wp_stage (PlayS t ab d b r q a) [(0, true), (1, true), (2, true), (3, true), (5, true), (6, true), (7, true), (8, true), (4, false)] 3 rfl (by kernel_rfl) (by intro c a dd v w h; cases dd <;> exact h) (playS_of HD.out) ?_
    iterate 8 (refine wpOrd_read (v := _) rfl rfl (by intro w' hS; obtain ⟨s0, s1, s2, s3, s4, s5⟩ := id hS; clear hS; go_simp; rfl) ?_; (try simp only [Act.put, List.setIfInBounds_toArray, List.set_cons_succ, List.set_cons_zero, List.getElem_toArray, List.getElem_cons_succ, List.getElem_cons_zero]))
    refine wpOrd_do rfl rfl (fun K hK => ?_)
    go_simp
    refine (sd_off (HD.out.pull 3 rfl)).mono ?_
    rintro en w2 ⟨rfl, H2⟩
    have H2 := hid (((H2.pull 3 rfl).pull 3 rfl).pull 3 rfl)
    refine hK _ _ ⟨playS_of H2.out, ?_⟩
    clear hK K HD
    (try simp only [Act.put, List.setIfInBounds_toArray, List.set_cons_succ, List.set_cons_zero, List.getElem_toArray, List.getElem_cons_succ, List.getElem_cons_zero])
    refine wpOrd_end ?_
    refine wp_stages_end 9 (by rfl) (by kernel_rfl) ?_
    simp only [List.drop_succ_cons, List.drop_zero]
    have hc2 := ref_off (H2.out.pull 5 rfl)
    go_wp2_with (go_at_call 58; refine hc2.mono ?_; rintro e w3 ⟨rfl, H3⟩)
    go_ret
    exact ⟨by simp, b, q, l, _, (off_same σ).1, (off_same σ).2, ((((H3.pull 1 rfl).drop.pull 4 rfl).pull 4 rfl).pull 4 rfl).pull 4 rfl⟩
  by_cases k6 : a.kind = 6
  · have j0 : (a.kind == 0) = false := by simpa using k0
    have j1 : (a.kind == 1) = false := by simpa using k1
    have j2 : (a.kind == 2) = false := by simpa using k2
    have j3 : (a.kind == 3) = false := by simpa using k3
    have j4 : (a.kind == 4) = false := by simpa using k4
    have j5 : (a.kind == 5) = false := by simpa using k5
    have j6 : (a.kind == 6) = true := by simpa using k6
    clear k0 k1 k2 k3 k4 k5 k6
    go_enter Tryd.func30, Tryd.ntmps30
    go_upto_region 18 with (fail)
    refine wp_stages (by kernel_rfl) ?_
    have HD := hid (St.drew H1.out)
    generalize (w.alloc (.cells #[.int .i64 a.kind, .int .i64 a.pos, .string a.s, a.kv] 35)).drew = wd at *
    clear H1 c0 c1 c2 c3
    refine wp_stage (PlayS t ab d b r q a) [(0, true), (1, true), (2, true), (3, true), (4, true), (5, true), (7, true), (8, true), (9, true), (10, true), (11, true), (12, true), (6, false)] 3 rfl (by kernel_rfl) (by intro c a dd v w h; cases dd <;> exact h) (playS_of HD.out) ?_
    iterate 12 (refine wpOrd_read (v := _) rfl rfl (by intro w' hS; obtain ⟨s0, s1, s2, s3, s4, s5⟩ := id hS; clear hS; go_simp; rfl) ?_; (try simp only [Act.put, List.setIfInBounds_toArray, List.set_cons_succ, List.set_cons_zero, List.getElem_toArray, List.getElem_cons_succ, List.getElem_cons_zero]))
    refine wpOrd_do rfl rfl (fun K hK => ?_)
    go_simp
    refine (sd_on (HD.out.pull 3 rfl) (.inl HP.out.2.1)).mono ?_
    rintro en w2 ⟨rfl, H2⟩
    have H2 := hid (((H2.pull 3 rfl).pull 3 rfl).pull 3 rfl)
    refine hK _ _ ⟨playS_of H2.out, ?_⟩
    clear hK K HD
    (try simp only [Act.put, List.setIfInBounds_toArray, List.set_cons_succ, List.set_cons_zero, List.getElem_toArray, List.getElem_cons_succ, List.getElem_cons_zero])
    refine wpOrd_end ?_
    refine wp_stages_end 13 (by rfl) (by kernel_rfl) ?_
    simp only [List.drop_succ_cons, List.drop_zero]
    have hc2 := ref_on (H2.out.pull 5 rfl) _ a.keep (.inl HP.out.2.1)
    go_wp2_with (go_at_call 59; refine hc2.mono ?_; rintro e w3 ⟨rfl, H3⟩)
    go_ret
    exact ⟨by simp, b, q, l, _, (on_same σ a.keep).1, (on_same σ a.keep).2, ((((H3.pull 1 rfl).drop.pull 4 rfl).pull 4 rfl).pull 4 rfl).pull 4 rfl⟩
  by_cases k8 : a.kind = 8
  · have j0 : (a.kind == 0) = false := by simpa using k0
    have j1 : (a.kind == 1) = false := by simpa using k1
    have j2 : (a.kind == 2) = false := by simpa using k2
    have j3 : (a.kind == 3) = false := by simpa using k3
    have j4 : (a.kind == 4) = false := by simpa using k4
    have j5 : (a.kind == 5) = false := by simpa using k5
    have j6 : (a.kind == 6) = false := by simpa using k6
    have j8 : (a.kind == 8) = true := by simpa using k8
    clear k0 k1 k2 k3 k4 k5 k6 k8
    obtain ⟨M2, hM2e⟩ : ∃ M2 : Nat, M2 = min 64 M := ⟨_, rfl⟩
    have m1 : min (M : Int) 64 = (M2 : Int) := by omega
    have m1' : (if (64 : Int) < (M : Int) then 64 else (M : Int)) = (M2 : Int) := by split <;> omega
    have m2 : (M2 : Int) ≤ (M : Int) := by omega
    obtain ⟨x2, hx2⟩ : ∃ y, x.extract 0 M2 = y := ⟨_, rfl⟩
    have hx2s : x2.size ≤ 64 := by rw [← hx2, ByteArray.size_extract]; omega
    have HX2 := hid hx2s
    clear hM2e hx2s
    go_enter Tryd.func30, Tryd.ntmps30
    go_upto_region 21 with (fail)
    refine wp_stages (by kernel_rfl) ?_
    have HD := hid (St.drew H1.out)
    generalize (w.alloc (.cells #[.int .i64 a.kind, .int .i64 a.pos, .string a.s, a.kv] 35)).drew = wd at *
    clear H1 c0 c1 c2 c3
    refine wp_stage (PlayS t ab d b r q a) [(0, true), (1, true), (2, true), (3, true), (4, true), (5, true), (6, true), (8, true), (9, true), (10, true), (11, true), (12, true), (13, true), (14, true), (7, false)] 2 rfl (by kernel_rfl) (by intro c a dd v w h; cases dd <;> exact h) (playS_of HD.out) ?_
    iterate 14 (refine wpOrd_read (v := _) rfl rfl (by intro w' hS; obtain ⟨s0, s1, s2, s3, s4, s5⟩ := id hS; clear hS; go_simp; rfl) ?_; (try simp only [Act.put, List.setIfInBounds_toArray, List.set_cons_succ, List.set_cons_zero, List.getElem_toArray, List.getElem_cons_succ, List.getElem_cons_zero]))
    refine wpOrd_do rfl rfl (fun K hK => ?_)
    go_simp
    refine (sd_write (HD.out.pull 3 rfl) a.pos x2 (by omega)).mono ?_
    rintro en w2 ⟨rfl, H2⟩
    have H2 := hid (((H2.pull 3 rfl).pull 3 rfl).pull 3 rfl)
    refine hK _ _ ⟨playS_of H2.out, ?_⟩
    clear hK K HD
    (try simp only [Act.put, List.setIfInBounds_toArray, List.set_cons_succ, List.set_cons_zero, List.getElem_toArray, List.getElem_cons_succ, List.getElem_cons_zero])
    refine wpOrd_end ?_
    refine wp_stages_end 15 (by rfl) (by kernel_rfl) ?_
    simp only [List.drop_succ_cons, List.drop_zero]
    have hc2 := ref_write (H2.out.pull 5 rfl) a.pos x2 (by have := HX2.out; simp only [maxLen]; omega) (by omega)
    have hp1 := hid (Nat.le_trans (Dk.write_pend σ a.pos x2.data.toList) (show σ.pend.length + 1 ≤ σ.pend.length + 70000 by omega))
    have hp2 := hid (write_same σ a.pos x2.data.toList)
    generalize σ.write a.pos x2.data.toList = wr at *
    go_wp2_with (go_at_call 60; refine hc2.mono ?_; rintro e w3 ⟨rfl, H3⟩; have H3 := hid (((H3.pull 1 rfl).drop.pull 3 rfl).pull 2 rfl))
    refine (two_open hh H3.out base n HP.out.2.2.1 HP.out.2.2.2.1 HP.out.2.2.2.2.1 HP.out.2.2.2.2.2).mono ?_
    rintro e w4 ⟨rfl, H4⟩
    have H4 := hid H4
    go_wp2
    go_ret
    exact ⟨rfl, TwoOpened.done H4.out hp1.out hp2.out⟩
  have j0 : (a.kind == 0) = false := by simpa using k0
  have j1 : (a.kind == 1) = false := by simpa using k1
  have j2 : (a.kind == 2) = false := by simpa using k2
  have j3 : (a.kind == 3) = false := by simpa using k3
  have j4 : (a.kind == 4) = false := by simpa using k4
  have j5 : (a.kind == 5) = false := by simpa using k5
  have j6 : (a.kind == 6) = false := by simpa using k6
  have j8 : (a.kind == 8) = false := by simpa using k8
  clear k0 k1 k2 k3 k4 k5 k6 k8
  have H3 := hid ((((H1.out.drop.pull 4 rfl).pull 3 rfl).pull 2 rfl))
  have hop := two_open hh H3.out base n HP.out.2.2.1 HP.out.2.2.2.1 HP.out.2.2.2.2.1 HP.out.2.2.2.2.2
  go_enter Tryd.func30, Tryd.ntmps30
  go_wp2_with (go_at_call 29; refine hop.mono ?_; rintro e w4 ⟨rfl, H4⟩; have H4 := hid H4)
  go_ret
  exact ⟨rfl, TwoOpened.done H4.out (by omega) rfl⟩

end Go.Proofs.YtjaabhdgahljcaaDoor
