/- aquiferlaw08: a log on both sides: open and same answer alike, whatever the disk has; conditions stand in the theorems. -/
import Derived.Test.YtjaabhdgahljcaaDoorRefE
import Derived.Test.YtjaabhdgahljcaaDoorRefF
import Derived.Test.YtjaabhdgahljcaaDoorWalTexts
import Derived.Test.YtjaabhdgahljcaaDoorWalActs
import Derived.Test.YtjaabhdgahljcaaDoorWalWorks
namespace Go.Proofs.YtjaabhdgahljcaaDoor
open Go.RowKit
set_option maxRecDepth 100000

def pt (b : Nat) : Value := .pointer (some ⟨b, 0, none⟩)

/-- What an opening of both comes to. -/
def TwoOpened (w0 w' : World) (ps : List HP) (t d r : Nat) (lv qv : Value) (σ : Dk) : Option Lg → Prop
  | none => St w0 w' (objP t [pt d, lv, pt r, qv] 64 :: diskP d σ :: refP r σ :: ps)
  | some l => ∃ b q, St w0 w' (objP t [pt d, pt b, pt r, pt q] 64 :: logP b d l :: diskP d σ :: qlogP q r l :: refP r σ :: ps)

theorem two_open {w0 w : World} {ps : List HP} {t d r : Nat} {lv qv : Value} {σ : Dk} (hh : HalfAt w0) (H : St w0 w (objP t [pt d, lv, pt r, qv] 64 :: diskP d σ :: refP r σ :: ps)) (base n : Int)
    (hb0 : -9223372036854775808 ≤ base) (hb1 : base ≤ 9223372036854775807) (hn0 : -9223372036854775808 ≤ n) (hn1 : n ≤ 9223372036854775807) :
    Calls Tryd.prog 29 #[.pointer (some ⟨t, 0, none⟩), .int .i64 base, .int .i64 n] w fun en w' => en = .returned (.bool true) ∧ TwoOpened w0 w' ps t d r lv qv σ (openLg σ base n).2 := by
  have c0 := (H.obj 0 rfl).cell 0
  simp only [pt, List.getElem?_cons_zero] at c0
  have h1 := fun W ps' (h : St w0 W (diskP d σ :: ps')) => wal_open hh h base n hb0 hb1 hn0 hn1
  have h2 := fun W ps' (h : St w0 W (refP r σ :: ps')) => q_openlog h base n hb0 hb1 hn0 hn1
  generalize openLg σ base n = R at *
  obtain ⟨e, ol⟩ := R
  have H1 := hid h1
  have H2 := hid h2
  have HH := hid (H.pull 1 rfl)
  clear hh H h1 h2 hb0 hb1 hn0 hn1
  cases ol with
  | none =>
    go_enter Tryd.func29, Tryd.ntmps29
    go_wp2_with fail
    refine (H1.out _ _ HH.out).mono ?_
    rintro en w1 ⟨rfl, H3⟩
    have H3 := hid (H3.pull 2 rfl)
    have c2 := (H3.out.obj 2 rfl).cell 2
    simp only [pt, List.getElem?_cons_succ, List.getElem?_cons_zero] at c2
    clear HH
    go_wp2_with fail
    refine (H2.out _ _ H3.out).mono ?_
    rintro en w2 ⟨rfl, H4⟩
    have H4 := hid H4
    clear H3
    go_wp2
    go_ret
    exact ⟨rfl, (H4.out.pull 1 rfl).pull 2 rfl⟩
  | some l =>
    go_enter Tryd.func29, Tryd.ntmps29
    go_wp2_with fail
    refine (H1.out _ _ HH.out).mono ?_
    rintro en w1 ⟨b, rfl, H3⟩
    have H3 := hid (H3.pull 3 rfl)
    have c2 := (H3.out.obj 3 rfl).cell 2
    simp only [pt, List.getElem?_cons_succ, List.getElem?_cons_zero] at c2
    clear HH
    go_wp2_with fail
    refine (H2.out _ _ H3.out).mono ?_
    rintro en w2 ⟨q, rfl, H4⟩
    have H4 := hid H4
    have c1 := (H4.out.obj 4 rfl).cell 1
    have c3 := (H4.out.obj 4 rfl).cell 3
    have f1 := (H4.out.obj 4 rfl).frozen 1
    have f3 := (H4.out.obj 4 rfl).frozen 3
    have hlt := (H4.out.obj 4 rfl).lt
    simp only [List.getElem?_cons_succ, List.getElem?_cons_zero] at c1 c3
    clear H3
    go_wp2
    go_ret
    refine ⟨rfl, b, q, ?_⟩
    have h1 := St.set (St.set H4.out 4 rfl 1 (pt b)) 4 rfl 3 (pt q)
    exact ((h1.pull 3 rfl).pull 3 rfl).pull 4 rfl

/-- A log on both sides. -/
def TwoMid (w0 wr : World) (ps : List HP) (t d r b q : Nat) (l : Lg) (σ : Dk) : Prop :=
  St w0 wr (objP t [pt d, pt b, pt r, pt q] 64 :: logP b d l :: diskP d σ :: qlogP q r l :: refP r σ :: ps)

set_option maxHeartbeats 8000000 in
theorem two_same {w0 w : World} {ps : List HP} {t d r b q : Nat} {l : Lg} {σ : Dk} (H : TwoMid w0 w ps t d r b q l σ) :
    Calls Tryd.prog 31 #[.pointer (some ⟨t, 0, none⟩)] w fun en w' => en = .returned (.bool true) ∧ TwoMid w0 w' ps t d r b q l σ := by
  have H' : St w0 w (qlogP q r l :: objP t [pt d, pt b, pt r, pt q] 64 :: logP b d l :: diskP d σ :: refP r σ :: ps) := St.pull H 3 rfl
  obtain ⟨rv, wv, ok, HO⟩ := q_open H'
  obtain ⟨ar, cr, rfl, -, -⟩ := (HO.sl 1 rfl).shape
  obtain ⟨aw, cw, rfl, -, -⟩ := (HO.sl 2 rfl).shape
  have HH := hid HO
  have HC := hid ok
  have hS : ∀ W, Pres [] w W → (W.cell? ⟨t, 1, none⟩ = some (.pointer (some ⟨b, 0, none⟩)) ∧ W.cell? ⟨t, 3, none⟩ = some (.pointer (some ⟨q, 0, none⟩)) ∧ W.cell? ⟨q, 3, none⟩ = some (.int .i64 (l.epoch : Int)) ∧ W.cell? ⟨q, 5, none⟩ = some (.slice ar l.recs.length cr) ∧ W.cell? ⟨q, 6, none⟩ = some (.slice aw l.waiting.length cw)) := by
    intro W hP
    have hQ := HO.quiet hP
    exact ⟨(hQ.obj 3 rfl).cell 1, (hQ.obj 3 rfl).cell 3, (hQ.obj 0 rfl).cell 3, (hQ.obj 0 rfl).cell 5, (hQ.obj 0 rfl).cell 6⟩
  have HS := hid hS
  clear hS H H' HO ok
  go_enter Tryd.func31, Tryd.ntmps31
  go_upto_region 1 with fail
  refine wp_stages (by kernel_rfl) ?_
  have HD := hid (St.drew HH.out)
  have P0 := hid ((Pres.refl [] w).drew)
  generalize w.drew = wd at *
  refine wp_stage (fun W => (W.cell? ⟨t, 1, none⟩ = some (.pointer (some ⟨b, 0, none⟩)) ∧ W.cell? ⟨t, 3, none⟩ = some (.pointer (some ⟨q, 0, none⟩)) ∧ W.cell? ⟨q, 3, none⟩ = some (.int .i64 (l.epoch : Int)) ∧ W.cell? ⟨q, 5, none⟩ = some (.slice ar l.recs.length cr) ∧ W.cell? ⟨q, 6, none⟩ = some (.slice aw l.waiting.length cw))) [(0, true), (1, true), (2, true), (3, true), (5, true), (6, true), (7, true), (8, true), (9, true), (10, true), (11, true), (4, false)] 46 rfl (by kernel_rfl) (by intro c a dd v w h; cases dd <;> exact h) (HS.out _ P0.out) ?_
  iterate 11 (refine wpOrd_read (v := _) rfl rfl (by intro w' hS; obtain ⟨s1, s2, s3, s4, s5⟩ := id hS; clear hS; go_simp; rfl) ?_; (try simp only [Act.put, List.setIfInBounds_toArray, List.set_cons_succ, List.set_cons_zero, List.getElem_toArray, List.getElem_cons_succ, List.getElem_cons_zero]))
  refine wpOrd_do rfl rfl (fun K hK => ?_)
  go_simp
  refine (log_records (St.pull HD.out 4 rfl)).mono ?_
  rintro en w2 ⟨v2, rfl, H2, P2⟩
  have P1 := hid (P0.out.then P2)
  refine hK _ _ ⟨HS.out _ P1.out, ?_⟩
  clear hK K P2 HD P0
  (try simp only [Act.put, List.setIfInBounds_toArray, List.set_cons_succ, List.set_cons_zero, List.getElem_toArray, List.getElem_cons_succ, List.getElem_cons_zero])
  have H2 := hid H2
  refine wpOrd_end ?_
  have hsm := same_texts w2 v2 (.slice ar l.recs.length cr) l.recs l.recs (H2.out.sl 0 rfl).reads (H2.out.sl 3 rfl).reads
  rw [decide_eq_true rfl] at hsm
  refine wp_stage (fun W => (W.cell? ⟨t, 1, none⟩ = some (.pointer (some ⟨b, 0, none⟩)) ∧ W.cell? ⟨t, 3, none⟩ = some (.pointer (some ⟨q, 0, none⟩)) ∧ W.cell? ⟨q, 3, none⟩ = some (.int .i64 (l.epoch : Int)) ∧ W.cell? ⟨q, 5, none⟩ = some (.slice ar l.recs.length cr) ∧ W.cell? ⟨q, 6, none⟩ = some (.slice aw l.waiting.length cw))) [(12, false)] 45 rfl (by kernel_rfl) (by intro c a dd v w h; cases dd <;> exact h) (HS.out _ P1.out) ?_
  refine wpOrd_do rfl rfl (fun K hK => ?_)
  go_simp
  refine hsm.mono ?_
  rintro en w3 ⟨rfl, P3⟩
  have P2 := hid (P1.out.then P3)
  refine hK _ _ ⟨HS.out _ P2.out, ?_⟩
  clear hK K hsm P1
  have H3 := hid (H2.out.drop.quiet P3)
  clear H2 P3
  (try simp only [Act.put, List.setIfInBounds_toArray, List.set_cons_succ, List.set_cons_zero, List.getElem_toArray, List.getElem_cons_succ, List.getElem_cons_zero])
  refine wpOrd_end ?_
  refine wp_stage (fun W => (W.cell? ⟨t, 1, none⟩ = some (.pointer (some ⟨b, 0, none⟩)) ∧ W.cell? ⟨t, 3, none⟩ = some (.pointer (some ⟨q, 0, none⟩)) ∧ W.cell? ⟨q, 3, none⟩ = some (.int .i64 (l.epoch : Int)) ∧ W.cell? ⟨q, 5, none⟩ = some (.slice ar l.recs.length cr) ∧ W.cell? ⟨q, 6, none⟩ = some (.slice aw l.waiting.length cw))) [(13, true), (14, true), (15, true), (16, true), (17, true), (19, true), (20, true), (21, true), (22, true), (23, true), (24, true), (25, true), (26, true), (18, false)] 31 rfl (by kernel_rfl) (by intro c a dd v w h; cases dd <;> exact h) (HS.out _ P2.out) ?_
  iterate 13 (refine wpOrd_readw (v := _) rfl rfl (by intro w' hS; obtain ⟨s1, s2, s3, s4, s5⟩ := id hS; clear hS; go_simp; rfl) ?_; (try simp only [Act.put, List.setIfInBounds_toArray, List.set_cons_succ, List.set_cons_zero, List.getElem_toArray, List.getElem_cons_succ, List.getElem_cons_zero]))
  refine wpOrd_dow rfl rfl (fun K hK => ?_)
  go_simp
  refine (log_waiting H3.out).mono ?_
  rintro en w6 ⟨rfl, rfl⟩
  refine hK _ _ ⟨HS.out _ P2.out, ?_⟩
  clear hK K
  (try simp only [Act.put, List.setIfInBounds_toArray, List.set_cons_succ, List.set_cons_zero, List.getElem_toArray, List.getElem_cons_succ, List.getElem_cons_zero])
  refine wpOrd_end ?_
  refine wp_stage (fun W => (W.cell? ⟨t, 1, none⟩ = some (.pointer (some ⟨b, 0, none⟩)) ∧ W.cell? ⟨t, 3, none⟩ = some (.pointer (some ⟨q, 0, none⟩)) ∧ W.cell? ⟨q, 3, none⟩ = some (.int .i64 (l.epoch : Int)) ∧ W.cell? ⟨q, 5, none⟩ = some (.slice ar l.recs.length cr) ∧ W.cell? ⟨q, 6, none⟩ = some (.slice aw l.waiting.length cw))) [(27, true), (28, true), (29, true), (30, true), (31, true), (32, true), (33, true), (35, true), (36, true), (37, true), (38, true), (39, true), (40, true), (41, true), (34, false)] 16 rfl (by kernel_rfl) (by intro c a dd v w h; cases dd <;> exact h) (HS.out _ P2.out) ?_
  iterate 14 (refine wpOrd_readw (v := _) rfl rfl (by intro w' hS; obtain ⟨s1, s2, s3, s4, s5⟩ := id hS; clear hS; go_simp; rfl) ?_; (try simp only [Act.put, List.setIfInBounds_toArray, List.set_cons_succ, List.set_cons_zero, List.getElem_toArray, List.getElem_cons_succ, List.getElem_cons_zero]))
  refine wpOrd_dow rfl rfl (fun K hK => ?_)
  go_simp
  refine (log_epoch H3.out).mono ?_
  rintro en w6 ⟨rfl, rfl⟩
  refine hK _ _ ⟨HS.out _ P2.out, ?_⟩
  clear hK K
  (try simp only [Act.put, List.setIfInBounds_toArray, List.set_cons_succ, List.set_cons_zero, List.getElem_toArray, List.getElem_cons_succ, List.getElem_cons_zero])
  refine wpOrd_end ?_
  refine wp_stage (fun W => (W.cell? ⟨t, 1, none⟩ = some (.pointer (some ⟨b, 0, none⟩)) ∧ W.cell? ⟨t, 3, none⟩ = some (.pointer (some ⟨q, 0, none⟩)) ∧ W.cell? ⟨q, 3, none⟩ = some (.int .i64 (l.epoch : Int)) ∧ W.cell? ⟨q, 5, none⟩ = some (.slice ar l.recs.length cr) ∧ W.cell? ⟨q, 6, none⟩ = some (.slice aw l.waiting.length cw))) [(42, true), (43, true), (44, true), (45, true), (46, true), (47, true), (48, true), (50, true), (51, true), (52, true), (53, true), (49, false)] 4 rfl (by kernel_rfl) (by intro c a dd v w h; cases dd <;> exact h) (HS.out _ P2.out) ?_
  iterate 11 (refine wpOrd_readw (v := _) rfl rfl (by intro w' hS; obtain ⟨s1, s2, s3, s4, s5⟩ := id hS; clear hS; go_simp; rfl) ?_; (try simp only [Act.put, List.setIfInBounds_toArray, List.set_cons_succ, List.set_cons_zero, List.getElem_toArray, List.getElem_cons_succ, List.getElem_cons_zero]))
  refine wpOrd_dow rfl rfl (fun K hK => ?_)
  go_simp
  refine (log_room H3.out).mono ?_
  rintro en w4 ⟨rfl, P4⟩
  refine hK _ _ ⟨HS.out _ (P2.out.then P4), ?_⟩
  clear hK K
  (try simp only [Act.put, List.setIfInBounds_toArray, List.set_cons_succ, List.set_cons_zero, List.getElem_toArray, List.getElem_cons_succ, List.getElem_cons_zero])
  have H4 := hid (H3.out.quiet P4)
  have H5 := hid (q_close HC.out (((H4.out.pull 3 rfl).pull 3 rfl).pull 3 rfl))
  clear H3 H4 P4 HS P2
  refine wpOrd_end ?_
  refine wp_stages_end 54 (by rfl) (by kernel_rfl) ?_
  simp only [List.drop_succ_cons, List.drop_zero]
  have hqr := q_room H5.out
  generalize l.room = m at *
  go_wp2_with (go_at_call 61; refine hqr.mono ?_; rintro e w7 ⟨rfl, P7⟩)
  go_ret
  exact ⟨by simp, ((((H5.out.quiet P7).pull 3 rfl).pull 2 rfl).pull 3 rfl)⟩

end Go.Proofs.YtjaabhdgahljcaaDoor
