/- Parts of the proof: PagedbLasts: what a commit, a checkpoint, an opening come to where the power may go; conditions stand in the theorems. -/
import Derived.Test.YtnffnpndnaofhaaGreatDoorQax
import Derived.Deep.DeepCutAuto

/- PagedbLasts: what a commit, a checkpoint, an opening come to where the power may go; conditions stand in the theorems. -/
namespace Go.Proofs.YtnffnpndnaofhaaGreatDoor
open Go.RowKit
set_option maxRecDepth 100000

/-- A database that has power, or a disk that has none: behind the commit, and the checkpoint. -/
def LivesP (B x d : Nat) (S T : PSt) (g : Int) (p : HP) : Prop :=
  (∃ (E : Nat) (am : Bool) (S2 : PSt), (g = 0 ∨ g = 7) ∧ (S2 = S ∨ S2 = T) ∧ E ≤ B ∧ p = dbP x d 156 60 12 E am S2) ∨
  (g = 10 ∧ ∃ (E : Nat) (Q : PSt → Prop), E ≤ B ∧ (∀ s, Q s → s = S ∨ s = T) ∧ p = darkP d 156 60 12 E Q)

/-- The same, behind an opening. -/
def MayP (d : Nat) (S : PSt) (h : Int) (p : HP) : Prop :=
  (∃ (x E : Nat) (am : Bool), h = 0 ∧ E ≤ 40 ∧ p = dbP x d 156 60 12 E am S) ∨ (∃ E : Nat, h = 10 ∧ E ≤ 40 ∧ p = darkP d 156 60 12 E (fun s => s = S))

section
variable {w0 w : World} {ps : List HP} {x d t E : Nat} {arm mk : Bool} {S T : PSt} {tk : Nat → Bool} {g : Int} {p : HP}

theorem lasts_commit (hh : HalfAt w0) (H : St w0 w (txP x d t 156 60 12 E arm S T tk mk false :: ps)) (hE : E ≤ 20) :
    Calls Tryz.prog 20 #[.pointer (some ⟨t, 0, none⟩)] w fun e w' => ∃ g, e = .returned (.int .i64 g) ∧ ∃ p, LivesP 25 x d S T g p ∧ St w0 w' (p :: ps) := by
  refine (tp_commit hh H (by omega)).mono ?_
  rintro e w' (⟨rfl, H2⟩ | ⟨-, -, rfl, H2⟩)
  · refine ⟨_, rfl, _, .inl ⟨E + 1, arm, _, commitE_no, ?_, by omega, rfl⟩, (H2.pull 1 rfl).drop⟩
    split
    · exact .inr rfl
    · exact .inl rfl
  · exact ⟨_, rfl, _, .inr ⟨rfl, E + 1, _, by omega, fun s h => h, rfl⟩, H2⟩

theorem lasts_checkpoint (hh : HalfAt w0) (hl : LivesP 25 x d S T 0 p) (H : St w0 w (p :: ps)) :
    Calls Tryz.prog 23 #[.pointer (some ⟨x, 0, none⟩)] w fun e w' => ∃ g, e = .returned (.int .i64 g) ∧ ∃ p, LivesP 30 x d S T g p ∧ St w0 w' (p :: ps) := by
  rcases hl with ⟨E, am, S2, -, hS, hE, rfl⟩ | ⟨h, -⟩
  · have hE2 : E + 1 ≤ 30 := by omega
    refine (db_checkpoint hh H (by omega)).mono ?_
    rintro e w' (⟨rfl, H2⟩ | ⟨-, rfl, H2⟩)
    · exact ⟨_, rfl, _, .inl ⟨E + 1, am, S2, .inl rfl, hS, by omega, rfl⟩, H2⟩
    · exact ⟨_, rfl, _, .inr ⟨rfl, E + 1, _, by omega, fun s h => by rw [h]; exact hS, rfl⟩, H2⟩
  · cases h

theorem LivesP.more (hl : LivesP 25 x d S T g p) : LivesP 30 x d S T g p := by
  rcases hl with ⟨E, am, S2, h1, h2, h3, h4⟩ | ⟨h1, E, Q, h2, h3, h4⟩
  · exact .inl ⟨E, am, S2, h1, h2, by omega, h4⟩
  · exact .inr ⟨h1, E, Q, by omega, h3, h4⟩

theorem lives_down (hl : LivesP 30 x d S T g p) (H : St w0 w (p :: ps)) : ∃ dn : Bool, (dn = true ↔ g = 10) ∧ Calls Tryz.prog 33 #[.pointer (some ⟨d, 0, none⟩)] w fun e w' => e = .returned (.bool dn) ∧ w = w' := by
  rcases hl with ⟨E, am, S2, hg, -, -, rfl⟩ | ⟨rfl, E, Q, -, -, rfl⟩
  · exact ⟨false, by rcases hg with rfl | rfl <;> simp, db_down H⟩
  · exact ⟨true, by simp, dark_down H⟩

theorem may_open (hh : HalfAt w0) (H : St w0 w (coldP d 156 60 12 E arm S :: ps)) (hE : E < 40) :
    Calls Tryz.prog 11 #[.pointer (some ⟨d, 0, none⟩), .int .i64 60] w fun e w' => ∃ v h, e = .returned (.tuple #[v, .int .i64 h]) ∧ (h = 0 ∨ h = 10) ∧ ∃ p, MayP d S h p ∧ St w0 w' (p :: ps) := by
  have hop := db_open hh H (by omega)
  rw [show ((60 : Nat) : Int) = 60 from rfl] at hop
  refine hop.mono ?_
  rintro e w' (⟨y, rfl, H2⟩ | ⟨-, rfl, H2⟩)
  · exact ⟨_, _, rfl, .inl rfl, _, .inl ⟨y, E + 1, arm, rfl, by omega, rfl⟩, H2⟩
  · exact ⟨_, _, rfl, .inr rfl, _, .inr ⟨E + 1, rfl, by omega, rfl⟩, H2⟩

theorem may_down (hl : MayP d S g p) (H : St w0 w (p :: ps)) : ∃ dn : Bool, Calls Tryz.prog 33 #[.pointer (some ⟨d, 0, none⟩)] w (fun e w' => e = .returned (.bool dn) ∧ w = w') ∧
    (dn = false → Calls Tryz.prog 10 #[.pointer (some ⟨d, 0, none⟩)] w fun e w' => e = .returned (.int .i64 0) ∧ ∃ E, E ≤ 40 ∧ St w0 w' (darkP d 156 60 12 E (fun s => s = S) :: ps)) ∧
    (dn = true → ∃ E, E ≤ 40 ∧ St w0 w (darkP d 156 60 12 E (fun s => s = S) :: ps)) := by
  rcases hl with ⟨x, E, am, rfl, hE, rfl⟩ | ⟨E, rfl, hE, rfl⟩
  · refine ⟨false, db_down H, fun _ => ?_, fun h => by cases h⟩
    refine (db_off H).mono ?_
    rintro e w' ⟨rfl, H2⟩
    exact ⟨rfl, E, hE, H2⟩
  · exact ⟨true, dark_down H, (fun h => by cases h), fun _ => ⟨E, hE, H⟩⟩

theorem alive_off (hl : LivesP 30 x d S T g p) (hg : g ≠ 10) : ∃ (E : Nat) (am : Bool) (I : PSt), E ≤ 30 ∧ (g = 0 ∨ g = 7) ∧ p = dbP x d 156 60 12 E am I := by
  rcases hl with ⟨E, am, S2, h, -, hE, rfl⟩ | ⟨h, -⟩
  · exact ⟨E, am, S2, hE, h, rfl⟩
  · exact absurd h hg

theorem dark_is (hl : LivesP 30 x d S T 10 p) : ∃ (E : Nat) (Q : PSt → Prop), E ≤ 30 ∧ (∀ s, Q s → s = S ∨ s = T) ∧ p = darkP d 156 60 12 E Q := by
  rcases hl with ⟨E, am, S2, h, -⟩ | ⟨-, h⟩
  · rcases h with h | h <;> cases h
  · exact h

theorem dbP_views {y N log cnt : Nat} (H : St w0 w (dbP y d N log cnt E arm S :: ps)) : ∃ m v, Views m v S cnt := by
  obtain ⟨D, h, -⟩ := dbP_open H
  exact ⟨_, _, h.view.views⟩
end

/-- The end of a slice, read. -/
theorem safe_tail {w0 : World} {ps : List HP} {g n cap k : Nat} {E : TypeId} {xs : List Value} (hk : k ≤ n) (i : Nat) (h : ps[i]? = some (slP (.slice (some ⟨g, 0, none⟩) n cap) E 1 n xs)) : Safe w0 ps (.slice (some ⟨g, k, none⟩) (n - k) (cap - k)) (xs.drop k) := by
  refine .inr (.inr ⟨i, _, h, ?_⟩)
  rintro w fp ⟨rfl, hs⟩
  have hl : xs.length = n := by have := hs.1; omega
  refine ⟨⟨_, cap - k, by rw [List.length_drop, hl], ?_, ?_, fun j x hj => ⟨g, k, rfl, ?_⟩⟩, fun q hq => by simpa [fpv] using hq⟩
  · obtain ⟨_, _, e, h1, _⟩ := hs.shape
    simp only [Value.slice.injEq] at e
    obtain ⟨-, -, rfl⟩ := e
    rw [List.length_drop, hl]
    omega
  · obtain ⟨_, _, e, h1, h2⟩ := hs.shape
    simp only [Value.slice.injEq] at e
    obtain ⟨-, -, rfl⟩ := e
    omega
  · exact sl_cells hs (by rwa [List.getElem?_drop] at hj)

end Go.Proofs.YtnffnpndnaofhaaGreatDoor

/- PagedbLasts: the walk: wherever the power is lost within a commit, a checkpoint or an opening, what is found is what was there ahead of it, or what it makes; conditions stand in the theorem. -/
namespace Go.Proofs.YtnffnpndnaofhaaGreatDoor
open Go.RowKit
set_option maxRecDepth 100000

/-- Without power. -/
def LastsDark (w0 wr : World) (d ta wb ib : Nat) (t0 t1 t2 : Int) (j0 j1 j2 : Value) (R : List HP) (S T : PSt) (g : Int) : Prop :=
  ∃ (i0 i1 i2 : Value) (E : Nat) (Q : PSt → Prop) (RR : List HP), E ≤ 30 ∧ ((∃ I, (g = 0 ∨ g = 7) ∧ (∀ s, Q s → s = I) ∧ RR = statP i0 i1 i2 I :: R) ∨ (g = 10 ∧ (∀ s, Q s → s = S ∨ s = T) ∧ RR = R)) ∧
    St w0 wr (darkP d 156 60 12 E Q :: objP ta [.int .i64 t0, .int .i64 t1, .int .i64 t2] 73 :: objP ib [i0, i1, i2] 37 :: objP wb [j0, j1, j2] 37 :: RR)

theorem info_boolD : ∃ i, Tryz.prog.info? 4 = some i ∧ i.zero = some (.bool false) ∧ i.size = 1 ∧ i.bytes = 1 := by
  refine ⟨_, rfl, ?_, ?_, ?_⟩ <;> kernel_rfl

set_option maxHeartbeats 16000000 in
theorem pdb_lasts_walk (w : World) (hh : HalfAt w) (va : Value) (la : List ActD) (a : ActD) (t0 t1 t2 : Int) (ha : ActsAt w va la) (hok : a.Ok w) :
    Calls Tryz.prog 7 #[va, .agg a.cells.toArray, .agg #[.int .i64 t0, .int .i64 t1, .int .i64 t2]] w fun e w' => e = .returned (.bool true) ∧ Pres [] w w' := by
  have H0 := hid (((St.start w).alloc a.cells 46).alloc [.int .i64 t0, .int .i64 t1, .int .i64 t2] 73)
  have has := hok.s
  rw [show (w.alloc (.cells a.cells.toArray 46)).heap.size = w.heap.size + 1 by simp] at H0
  simp only [ActD.cells] at H0
  unfold ActD.cells
  have HA := hid ha
  clear ha hok
  go_enter Tryz.func7, Tryz.ntmps7
  go_upto_region 1 with fail
  generalize w.heap.size + 1 = ta at *
  generalize w.heap.size = ab at *
  generalize ((w.alloc _).alloc _) = w0 at *
  have hnew := sd_new H0.out 156 (by omega) (by omega)
  go_upto_region 2 with (go_at_call 9; refine hnew.mono ?_; rintro e w1 ⟨d, rfl, H1⟩)
  have H1 := coldP_new sh156 H1
  have hop := db_open hh H1 (by omega)
  rw [show ((60 : Nat) : Int) = 60 from rfl] at hop
  clear hnew H1
  go_upto_region 3 with (go_at_call 11; refine hop.mono ?_; rintro e w2 (⟨x, rfl, H2⟩ | ⟨h9, -⟩); rotate_left; · cases h9)
  have hbd := law_build hh H2 va la HA.out 10 (by omega)
  rw [show ((10 : Nat) : Int) = 10 from rfl] at hbd
  clear hop H2
  go_upto_region 11 with (first
    | (go_at_call 13; refine hbd.mono ?_; rintro e w3 ⟨rfl, E', S', hE, H3⟩; have hst := law_state hh H3; have HV := hid (dbP_views H3); clear hbd)
    | (go_at_call 14; refine hst.mono ?_; rintro e w4 ⟨pv, fv, rv, rfl, H4⟩; obtain ⟨pa, ca, pe, -, -⟩ := (statP_read H4).pages.shape; obtain ⟨fa, cf, fe, -, -⟩ := (statP_read H4).freed.shape; obtain ⟨ra, cr, re, -, -⟩ := (statP_read H4).roots.shape; subst pe fe re; have hsm := hid (dbP_small (H4.pull 1 rfl)); have H4 := hid (H4.alloc [.slice none 0 0, .slice none 0 0, .slice none 0 0] 37); clear hst)
    | ((with_reducible refine at_store ?_); refine wpL_store rfl 37 (.tmp 11) (.tmp 45) rfl _ 0 3 rfl [_, _, _] rfl _ _ (H4.out.obj 0 rfl) state_size rfl (by simp) (by simp [Value.oneCell']) ?_; intro w5 A5 P5 S5; have H5 := hid (H4.out.put 0 rfl A5 P5); have hbg := db_begin (H5.out.pull 2 rfl))
    | (go_at_call 15; refine hbg.mono ?_; rintro e w6 ⟨t, rfl, H6⟩; clear hbg H3))
  generalize w4.heap.size = wb at *
  have hE20 : E' ≤ 20 := by omega
  obtain ⟨R, hR⟩ : ∃ R, Hid ([statP (.slice pa S'.pages.length ca) (.slice fa S'.freed.length cf) (.slice ra 4 cr) S', objP ab [.int .i64 a.kind, .int .i64 a.pid, .int .i64 a.kd, .string a.s, a.kv] 46] = R) := ⟨_, hid rfl⟩
  have HM : St w w6 (txP x d t 156 60 12 E' false S' S' (fun _ => false) false false :: objP ta [.int .i64 t0, .int .i64 t1, .int .i64 t2] 73 :: objP wb [.slice pa S'.pages.length ca, .slice fa S'.freed.length cf, .slice ra 4 cr] 37 :: R) := by rw [← hR.out]; exact (H6.pull 3 rfl).pull 1 rfl
  have HM := hid HM
  clear H6 H5 H4 A5 P5 S5 H0
  have c0 : w6.cell? ⟨ta, 0, none⟩ = some (.int .i64 t0) := (HM.out.obj 1 rfl).cell 0
  go_upto_if 59 with fail
  clear c0
  obtain ⟨b0, hb0⟩ : ∃ b, (t0.tmod 3 != 0) = b := ⟨_, rfl⟩
  rw [hb0]
  have HB0 := hid hb0
  clear hb0
  obtain ⟨Tc, hT0, hT1⟩ : ∃ Tc : PSt, (b0 = false → S' = Tc) ∧ (b0 = true → (TS.chg ⟨S', fun _ => false, false⟩ 12 a).T = Tc) := by
    cases b0 with
    | true => exact ⟨_, fun h => (by cases h), fun _ => rfl⟩
    | false => exact ⟨_, fun _ => rfl, fun h => (by cases h)⟩
  have HT := hid (And.intro hT0 hT1)
  clear hT0 hT1
  go_cut [] (fun w' => ∃ X : TS, X.T = Tc ∧ St w w' (txP x d t 156 60 12 E' false S' X.T X.tk X.mark false :: objP ta [.int .i64 t0, .int .i64 t1, .int .i64 t2] 73 :: objP wb [.slice pa S'.pages.length ca, .slice fa S'.freed.length cf, .slice ra 4 cr] 37 :: R))
  case first =>
    cases b0 with
    | true =>
      have hTc := HT.out.2 rfl
      have HTc := hid hTc
      clear hTc
      have H1 := hid HM.out
      rw [← hR.out] at H1
      have hch := law_change hh ⟨S', fun _ => false, false⟩ a has H1.out
      unfold ActD.cells at hch
      have z0 : w6.cell? ⟨ab, 0, none⟩ = some (.int .i64 a.kind) := (H1.out.obj 4 rfl).cell 0
      have z1 : w6.cell? ⟨ab, 1, none⟩ = some (.int .i64 a.pid) := (H1.out.obj 4 rfl).cell 1
      have z2 : w6.cell? ⟨ab, 2, none⟩ = some (.int .i64 a.kd) := (H1.out.obj 4 rfl).cell 2
      have z3 : w6.cell? ⟨ab, 3, none⟩ = some (.string a.s) := (H1.out.obj 4 rfl).cell 3
      have z4 : w6.cell? ⟨ab, 4, none⟩ = some a.kv := (H1.out.obj 4 rfl).cell 4
      go_wp2_with (go_at_call 16; refine hch.mono ?_; rintro e w8 ⟨rfl, H8⟩; rw [hR.out] at H8; have H8 := hid H8)
      go_meet
      case rel => exact ⟨TS.chg ⟨S', fun _ => false, false⟩ 12 a, HTc.out, H8.out⟩
    | false =>
      have hTc := HT.out.1 rfl
      have HTc := hid hTc
      clear hTc
      go_wp2_with fail
      go_meet
      case rel => exact ⟨⟨S', fun _ => false, false⟩, HTc.out, HM.out⟩
  case rest =>
    clear HM
    obtain ⟨X, hX, HX⟩ := hcut
    rw [hX] at HX
    have HS := hid HX
    clear hX HX
    have c1 : wc.cell? ⟨ta, 1, none⟩ = some (.int .i64 t1) := (HS.out.obj 1 rfl).cell 1
    have hb : (wrap64 (t1.tmod 60 + 60)).tmod 60 ≤ 9223372036854775807 := by
      have := Int.tmod_lt_of_pos (wrap64 (t1.tmod 60 + 60)) (show (0 : Int) < 60 by omega)
      omega
    have HN := hid hb
    clear hb
    go_upto_region 15 with (first
      | (go_at_call 32; generalize (wrap64 (t1.tmod 60 + 60)).tmod 60 = n at *; refine (tp_arm HS.out n HN.out).mono ?_; rintro e wa ⟨rfl, H1⟩; have H1 := hid H1; clear HS c1 HN; generalize (decide (0 ≤ n)) = am at *; have hcm := lasts_commit hh H1.out hE20)
      | (go_at_call 20; refine hcm.mono ?_; rintro e wb1 ⟨g, rfl, p, hl, H2⟩; have HL := hid hl; have HS := hid H2; clear hcm hl H2 H1))
    go_cut [79] (fun s79 w' => ∃ b : Bool, s79 = .bool b ∧ (b = true → g = 0) ∧ w' = wb1)
    case first =>
      have c0 : wb1.cell? ⟨ta, 0, none⟩ = some (.int .i64 t0) := (HS.out.obj 1 rfl).cell 0
      by_cases hg : g = 0
      · subst hg
        go_wp2_with fail
        go_meet
        case rel => exact ⟨_, rfl, fun _ => by simp, rfl⟩
      · go_wp2_with fail
        go_meet
        case rel => exact ⟨false, rfl, fun h => (by cases h), rfl⟩
    case rest =>
      obtain ⟨b, rfl, hbg, rfl⟩ := hcut
      have HBG := hid hbg
      clear hbg
      go_upto_if 79 with fail
      go_cut [15] (fun s15 w' => ∃ (g : Int) (p : HP), s15 = .int .i64 g ∧ LivesP 30 x d S' Tc g p ∧ St w w' (p :: objP ta [.int .i64 t0, .int .i64 t1, .int .i64 t2] 73 :: objP wb [.slice pa S'.pages.length ca, .slice fa S'.freed.length cf, .slice ra 4 cr] 37 :: R))
      case first =>
        cases b with
        | true =>
          have hg := HBG.out rfl
          subst hg
          have hcp := lasts_checkpoint hh HL.out HS.out
          go_wp2_with (go_at_call 23; refine hcp.mono ?_; rintro e wb2 ⟨g2, rfl, p2, hl2, H2⟩; have HL2 := hid hl2; have H2 := hid H2; clear hl2)
          go_meet
          case rel => exact ⟨g2, p2, rfl, HL2.out, H2.out⟩
        | false =>
          go_wp2_with fail
          go_meet
          case rel => exact ⟨g, p, rfl, HL.out.more, HS.out⟩
      case rest =>
        clear HBG HL HS
        clear p g
        obtain ⟨g, p, rfl, hl, HX⟩ := hcut
        have HL := hid hl
        have HS := hid HX
        clear hl HX
        have c0 : wc.cell? ⟨wb, 0, none⟩ = some (.slice pa S'.pages.length ca) := (HS.out.obj 2 rfl).cell 0
        have c1 : wc.cell? ⟨wb, 1, none⟩ = some (.slice fa S'.freed.length cf) := (HS.out.obj 2 rfl).cell 1
        have c2 : wc.cell? ⟨wb, 2, none⟩ = some (.slice ra 4 cr) := (HS.out.obj 2 rfl).cell 2
        have HA4 := hid (HS.out.alloc [.slice none 0 0, .slice none 0 0, .slice none 0 0] 37)
        go_upto_region 18 with (((with_reducible refine at_store ?_); refine wpL_store rfl 37 (.tmp 16) (.tmp 82) rfl _ 0 3 rfl [_, _, _] rfl _ _ (HA4.out.obj 0 rfl) state_size rfl (by simp) (by simp [Value.oneCell']) ?_; intro w5 A5 P5 S5; have H5 := hid ((HA4.out.put 0 rfl A5 P5).pull 1 rfl |>.pull 2 rfl |>.pull 1 rfl)))
        clear c0 c1 c2 HA4 A5 P5 S5
        generalize wc.heap.size = ib at *
        simp only [splice, List.length_cons, List.length_nil, List.take_zero, List.nil_append, List.drop_succ_cons, List.drop_zero, List.append_nil, Nat.zero_add, Nat.reduceAdd, List.drop_nil, List.set_cons_zero, List.eraseIdx, List.cons_append] at H5
        obtain ⟨dn, hdn, hdw⟩ := lives_down HL.out H5.out
        have HDN := hid hdn
        clear hdn HS
        go_upto_if 85 with (go_at_call 33; refine hdw.mono ?_; rintro e w6 ⟨rfl, rfl⟩)
        clear hdw
        have HL2 := hid HL.out
        go_cut [12] (fun s12 w' => s12 = .bool true ∧ LastsDark w w' d ta wb ib t0 t1 t2 (.slice pa S'.pages.length ca) (.slice fa S'.freed.length cf) (.slice ra 4 cr) R S' Tc g)
        case first =>
          clear HL
          cases dn with
          | true =>
            have hg := HDN.out.1 rfl
            subst hg
            obtain ⟨E2, Q, hE2, hQ, rfl⟩ := dark_is HL2.out
            have HQ := hid (And.intro hE2 hQ)
            clear hE2 hQ HL2 HDN
            go_wp2_with fail
            go_meet
            case rel => exact ⟨rfl, _, _, _, E2, Q, R, HQ.out.1, .inr ⟨rfl, HQ.out.2, rfl⟩, H5.out⟩
          | false =>
            have hg : g ≠ 10 := fun h => by have := HDN.out.2 h; cases this
            obtain ⟨E2, am2, I, hE2, hg2, rfl⟩ := alive_off HL2.out hg
            have HQ := hid (And.intro hE2 hg2)
            clear hE2 hg hg2 HL2 HDN
            have hst := law_state hh H5.out
            go_wp2_with (first
              | (go_at_call 14; refine hst.mono ?_; rintro e w4 ⟨qv, gv, sv, rfl, H4⟩; obtain ⟨pi, ci, pe, -, -⟩ := (statP_read H4).pages.shape; obtain ⟨fi, cfi, fe, -, -⟩ := (statP_read H4).freed.shape; obtain ⟨ri, cri, re, -, -⟩ := (statP_read H4).roots.shape; subst pe fe re; have H4 := hid H4; clear hst)
              | ((with_reducible refine at_store ?_); refine wpL_store rfl 37 (.tmp 16) (.tmp 89) rfl _ 0 3 rfl [_, _, _] rfl _ _ (H4.out.obj 3 rfl) state_size rfl (by simp) (by simp [Value.oneCell']) ?_; intro w7 A7 P7 S7; have H7 := hid (H4.out.put 3 rfl A7 P7); have hof := db_off (H7.out.pull 1 rfl))
              | (go_at_call 10; refine hof.mono ?_; rintro e w8 ⟨rfl, H8⟩; have H8 := hid H8))
            go_meet
            case rel => exact ⟨rfl, _, _, _, E2, _, _, HQ.out.1, .inl ⟨I, HQ.out.2, fun s h => h, rfl⟩, ((H8.out.pull 1 rfl).pull 4 rfl |>.pull 4 rfl |>.pull 4 rfl |>.pull 4 rfl)⟩
        case rest =>
          as_aux_lemma =>
          clear HL2 HL H5 HDN
          obtain ⟨rfl, i0, i1, i2, E3, Q, RR, hE3, hRR, HX⟩ := hcut
          have HRR := hid hRR
          have HE3 := hid hE3
          have HK0 := hid (HX.nil 4 1)
          obtain ⟨jb, hj, hjz, hjs, hjb⟩ := info_boolD
          have HJB := hid (And.intro hj (And.intro hjz (And.intro hjs hjb)))
          clear hj hjz hjs hjb HX hRR hE3
          go_wp2_with fail
          go_loopw [17, 93] (fun kv iv wr => ∃ (k : Nat) (bs : List Bool), k ≤ 62 ∧ bs.length = k ∧ iv = .int .i64 (k : Int) ∧ St w wr (slP kv 4 1 k (bs.map Value.bool) :: darkP d 156 60 12 E3 Q :: objP ta [.int .i64 t0, .int .i64 t1, .int .i64 t2] 73 :: objP ib [i0, i1, i2] 37 :: objP wb [.slice pa S'.pages.length ca, .slice fa S'.freed.length cf, .slice ra 4 cr] 37 :: RR)) (fun _ iv _ => 62 - (intOf iv).toNat)
          case atStart => exact ⟨0, [], Nat.zero_le _, rfl, rfl, HK0.out⟩
          case round =>
            obtain ⟨k, bs, hk, hbl, rfl, hM⟩ := hrel
            clear HK0
            have HH := hid hM
            have HBL := hid hbl
            obtain ⟨akv, ckv, rfl, -, -⟩ := (hM.sl 0 rfl).shape
            clear hM hbl
            by_cases hlt : k < 62
            · have hk62 : (k : Int) < 62 := by omega
              have c2 : wr.cell? ⟨ta, 2, none⟩ = some (.int .i64 t2) := (HH.out.obj 2 rfl).cell 2
              have A3 := At.new wr [.bool (bits BinOp.and IntKind.i64 (t2 / 2 ^ k) 1 == 1)] 4
              have H4 := hid (St.quiet HH.out ((Pres.refl [] wr).alloc (.cells #[.bool (bits BinOp.and IntKind.i64 (t2 / 2 ^ k) 1 == 1)] 4)))
              have X3 := St.sl H4.out 0 rfl
              go_wp2_with (((with_reducible refine at_append ?_); go_must (refine wpL_app rfl (.tmp 96) (.tmp 103) 44 44 rfl 4 jb _ 1 Tryz.underlying44 HJB.out.1 HJB.out.2.1 HJB.out.2.2.1 rfl (.slice akv k ckv) k _ rfl X3 1 [.bool (bits BinOp.and IntKind.i64 (t2 / 2 ^ k) 1 == 1)] (Src.at Tryz.underlying44 A3 rfl (by simp [Value.oneCell'])) (by simp only [maxLen]; omega) (by rw [HJB.out.2.2.2]; omega) ?_); intro v5 w5 Y1 Y2 Y3; have H5 := hid (St.grow H4.out 0 rfl Y1 Y2 Y3); clear Y1 Y2 Y3))
              go_roundw
              case rel =>
                refine ⟨k + 1, bs ++ [bits BinOp.and IntKind.i64 (t2 / 2 ^ k) 1 == 1], by omega, by rw [List.length_append, HBL.out]; rfl, by go_num, ?_⟩
                rw [List.map_append]
                exact H5.out
              case measure => first | (simp [intOf]; done) | (simp [intOf]; omega)
            · have hk62 : ¬ (k : Int) < 62 := by omega
              obtain rfl : k = 62 := by omega
              have hon := dark_on sh156 (HH.out.pull 1 rfl) (v := .slice akv 62 ckv) (keep := bs) (.inr (.inl ⟨0, 4, 62, rfl⟩))
              go_wp2_with fail
              refine hon.mono ?_
              rintro e6 w6 ⟨rfl, S3, hQ3, H6⟩
              have H6 := hid H6
              have HQ3 := hid hQ3
              clear hon HH hQ3 hk62 hlt hk
              have c2 : w6.cell? ⟨ta, 2, none⟩ = some (.int .i64 t2) := (H6.out.obj 2 rfl).cell 2
              have hb : (wrap64 (t2.tmod 40 + 40)).tmod 40 ≤ 9223372036854775807 := by
                have := Int.tmod_lt_of_pos (wrap64 (t2.tmod 40 + 40)) (show (0 : Int) < 40 by omega)
                omega
              have HN := hid hb
              clear hb
              have hE3 : E3 < 40 := by have := HE3.out; omega
              go_upto_region 31 with (first
                | (go_at_call 32; generalize (wrap64 (t2.tmod 40 + 40)).tmod 40 = n at *; refine (cold_arm H6.out n HN.out).mono ?_; rintro e wa ⟨rfl, H7⟩; have H7 := hid H7; clear H6 c2 HN; generalize (decide (0 ≤ n)) = am2 at *; have hop := may_open hh H7.out hE3)
                | (go_at_call 11; refine hop.mono ?_; rintro e w8 ⟨yv, h, rfl, hh0, p, hl, H8⟩; have HL := hid hl; have HS := hid H8; clear hop hl H8 H7))
              go_cut [131] (fun s131 w' => s131 = .bool false ∧ w' = w8)
              case first =>
                rcases hh0 with rfl | rfl
                · go_wp2_with fail
                  go_meet
                  case rel => exact ⟨rfl, rfl⟩
                · go_wp2_with fail
                  go_meet
                  case rel => exact ⟨rfl, rfl⟩
              case rest =>
                as_aux_lemma =>
                obtain ⟨rfl, rfl⟩ := hcut
                obtain ⟨dn, hdw, hoff, hdk⟩ := may_down HL.out HS.out
                have HOF := hid hoff
                have HDK := hid hdk
                clear hoff hdk hh0
                go_upto_if 134 with (go_at_call 33; refine hdw.mono ?_; rintro e w9 ⟨rfl, rfl⟩)
                clear hdw
                go_cut [] (fun w' => ∃ E, E ≤ 40 ∧ St w w' (darkP d 156 60 12 E (fun s => s = S3) :: slP (.slice akv 62 ckv) 4 1 62 (bs.map Value.bool) :: objP ta [.int .i64 t0, .int .i64 t1, .int .i64 t2] 73 :: objP ib [i0, i1, i2] 37 :: objP wb [.slice pa S'.pages.length ca, .slice fa S'.freed.length cf, .slice ra 4 cr] 37 :: RR))
                case first =>
                  clear HL HS
                  cases dn with
                  | true =>
                    obtain ⟨E4, hE4, H9⟩ := HDK.out rfl
                    have HQ := hid (And.intro hE4 H9)
                    clear HDK HOF hE4 H9
                    go_wp2_with fail
                    go_meet
                    case rel => exact ⟨E4, HQ.out.1, HQ.out.2⟩
                  | false =>
                    have hof := HOF.out rfl
                    clear HDK HOF
                    go_wp2_with (go_at_call 10; refine hof.mono ?_; rintro e w9 ⟨rfl, E4, hE4, H9⟩; have HQ := hid (And.intro hE4 H9); clear hE4 H9)
                    go_meet
                    case rel => exact ⟨E4, HQ.out.1, HQ.out.2⟩
                case rest =>
                  clear HL HS HOF HDK
                  obtain ⟨E4, hE4, HX⟩ := hcut
                  have HS := hid HX
                  clear HX
                  have hE4' : E4 < 1000000 := by omega
                  obtain ⟨gk, cgk, curk, hgk, -⟩ := (HS.out.sl 1 rfl).get (by omega)
                  simp only [Value.slice.injEq] at hgk
                  obtain ⟨rfl, -, rfl⟩ := hgk
                  have hck : 62 ≤ ckv := by
                    obtain ⟨_, _, e, h1, -⟩ := (HS.out.sl 1 rfl).shape
                    simp only [Value.slice.injEq] at e
                    rw [e.2.2]
                    exact h1
                  have c1 : wc.cell? ⟨ta, 1, none⟩ = some (.int .i64 t1) := (HS.out.obj 2 rfl).cell 1
                  obtain ⟨r9, hr9⟩ : ∃ r, t1.tmod 9 = r := ⟨_, rfl⟩
                  have r9b := Int.lt_tmod_of_pos t1 (show (0 : Int) < 9 by omega)
                  have r9c := Int.tmod_lt_of_pos t1 (show (0 : Int) < 9 by omega)
                  rw [hr9] at r9b r9c
                  have e9 : (r9 + 9).tmod 9 = (r9 + 9) % 9 := Int.tmod_eq_emod_of_nonneg (by omega)
                  obtain ⟨o, ho⟩ : ∃ n : Nat, r9 % 9 = (n : Int) := ⟨(r9 % 9).toNat, by omega⟩
                  have ho62 : o ≤ 62 := by omega
                  have ho62i : (o : Int) ≤ 62 := by omega
                  have hco : ¬ ckv = o := by omega
                  have hsf := safe_tail (w0 := w) (ps := slP (.slice (some ⟨gk, 0, none⟩) 62 ckv) 4 1 62 (bs.map Value.bool) :: objP ta [.int .i64 t0, .int .i64 t1, .int .i64 t2] 73 :: objP ib [i0, i1, i2] 37 :: objP wb [.slice pa S'.pages.length ca, .slice fa S'.freed.length cf, .slice ra 4 cr] 37 :: RR) ho62 0 rfl
                  rw [← List.map_drop] at hsf
                  have hon := dark_on sh156 HS.out hsf
                  clear hsf
                  clear hE4
                  clear hck
                  go_wp2_with fail
                  refine hon.mono ?_
                  rintro ea wa ⟨rfl, S4, hs4, HA1⟩
                  obtain rfl : S3 = S4 := hs4.symm
                  have HA1 := hid HA1
                  clear hon HS c1
                  have hop := db_open hh HA1.out hE4'
                  rw [show ((60 : Nat) : Int) = 60 from rfl] at hop
                  go_upto_region 37 with (go_at_call 11; refine hop.mono ?_; rintro eb wb2 (⟨y, rfl, HB1⟩ | ⟨h9, -⟩); rotate_left; · cases h9)
                  have HB1 := hid HB1
                  clear hop HA1
                  have hst := law_state hh HB1.out
                  go_upto_region 42 with (first
                    | (go_at_call 14; refine hst.mono ?_; rintro e w4 ⟨qv, gv, sv, rfl, H4⟩; obtain ⟨pn, cpn, pe, -, -⟩ := (statP_read H4).pages.shape; obtain ⟨fn, cfn, fe, -, -⟩ := (statP_read H4).freed.shape; obtain ⟨rn, crn, re, -, -⟩ := (statP_read H4).roots.shape; subst pe fe re; have hsn := hid (dbP_small (H4.pull 1 rfl)); have H4 := hid (H4.alloc [.slice none 0 0, .slice none 0 0, .slice none 0 0] 37); clear hst)
                    | ((with_reducible refine at_store ?_); refine wpL_store rfl 37 (.tmp 23) (.tmp 160) rfl _ 0 3 rfl [_, _, _] rfl _ _ (H4.out.obj 0 rfl) state_size rfl (by simp) (by simp [Value.oneCell']) ?_; intro w5 A5 P5 S5; have H5 := hid (H4.out.put 0 rfl A5 P5)))
                  simp only [splice, List.length_cons, List.length_nil, List.take_zero, List.nil_append, List.drop_succ_cons, List.drop_zero, List.append_nil, Nat.zero_add, Nat.reduceAdd, List.drop_nil, List.set_cons_zero, List.cons_append] at H5
                  generalize w4.heap.size = nb at *
                  clear H4 A5 P5 S5 HB1
                  rcases HRR.out with ⟨I, hg, hQ, hRRe⟩ | ⟨hg, hQ, hRRe⟩
                  · have hI := hQ _ HQ3.out
                    have HX := H5.out
                    rw [hRRe, ← hI] at HX
                    have HX := hid HX
                    obtain ⟨pi, ci, ei, -, -⟩ := (statP_read (HX.out.pull 7 rfl)).pages.shape
                    obtain ⟨fi, cfi, ej, -, -⟩ := (statP_read (HX.out.pull 7 rfl)).freed.shape
                    obtain ⟨ri, cri, ek, -, -⟩ := (statP_read (HX.out.pull 7 rfl)).roots.shape
                    subst ei ej ek
                    clear hI hQ hRRe HRR HQ3 H5
                    have hsame := same_call w5 _ _ _ _ _ _ S3 S3 (statP_read (HX.out.pull 1 rfl)) (statP_read (HX.out.pull 7 rfl)) (by have := hsn.out; omega) (by have := hsn.out; omega)
                    have c0 : w5.cell? ⟨nb, 0, none⟩ = some (.slice pn S3.pages.length cpn) := (HX.out.obj 0 rfl).cell 0
                    have c1 : w5.cell? ⟨nb, 1, none⟩ = some (.slice fn S3.freed.length cfn) := (HX.out.obj 0 rfl).cell 1
                    have c2 : w5.cell? ⟨nb, 2, none⟩ = some (.slice rn 4 crn) := (HX.out.obj 0 rfl).cell 2
                    have d0 : w5.cell? ⟨ib, 0, none⟩ = some (.slice pi S3.pages.length ci) := (HX.out.obj 5 rfl).cell 0
                    have d1 : w5.cell? ⟨ib, 1, none⟩ = some (.slice fi S3.freed.length cfi) := (HX.out.obj 5 rfl).cell 1
                    have d2 : w5.cell? ⟨ib, 2, none⟩ = some (.slice ri 4 cri) := (HX.out.obj 5 rfl).cell 2
                    rcases hg with rfl | rfl
                    · as_aux_lemma =>
                      go_wp2_with (first
                        | (go_at_call 19; refine hsame.mono ?_; rintro e wz ⟨bb, rfl, hbb, PB⟩; obtain rfl : bb = true := (by simpa using hbb); have HY := hid (St.quiet HX.out PB); have hwk := pdb_works wz (hh.pres HY.out.pres); clear hsame c0 c1 c2 d0 d1 d2)
                        | (go_at_call 12; refine hwk.mono ?_; rintro e wd ⟨rfl, PD⟩))
                      go_ret
                      exact ⟨rfl, HY.out.pres.then PD⟩
                    · as_aux_lemma =>
                      go_wp2_with (first
                        | (go_at_call 19; refine hsame.mono ?_; rintro e wz ⟨bb, rfl, hbb, PB⟩; obtain rfl : bb = true := (by simpa using hbb); have HY := hid (St.quiet HX.out PB); have hwk := pdb_works wz (hh.pres HY.out.pres); clear hsame c0 c1 c2 d0 d1 d2)
                        | (go_at_call 12; refine hwk.mono ?_; rintro e wd ⟨rfl, PD⟩))
                      go_ret
                      exact ⟨rfl, HY.out.pres.then PD⟩
                  · subst hg
                    have hQ := hQ _ HQ3.out
                    have HX := H5.out
                    rw [hRRe, ← hR.out] at HX
                    have HX := hid HX
                    have HQ := hid hQ
                    clear hQ hRRe HRR HQ3 H5
                    have hsame := same_call w5 _ _ _ _ _ _ S3 S' (statP_read (HX.out.pull 1 rfl)) (statP_read (HX.out.pull 7 rfl)) (by have := hsn.out; omega) (by have := hsn.out; omega)
                    have c0 : w5.cell? ⟨nb, 0, none⟩ = some (.slice pn S3.pages.length cpn) := (HX.out.obj 0 rfl).cell 0
                    have c1 : w5.cell? ⟨nb, 1, none⟩ = some (.slice fn S3.freed.length cfn) := (HX.out.obj 0 rfl).cell 1
                    have c2 : w5.cell? ⟨nb, 2, none⟩ = some (.slice rn 4 crn) := (HX.out.obj 0 rfl).cell 2
                    have d0 : w5.cell? ⟨wb, 0, none⟩ = some (.slice pa S'.pages.length ca) := (HX.out.obj 6 rfl).cell 0
                    have d1 : w5.cell? ⟨wb, 1, none⟩ = some (.slice fa S'.freed.length cf) := (HX.out.obj 6 rfl).cell 1
                    have d2 : w5.cell? ⟨wb, 2, none⟩ = some (.slice ra 4 cr) := (HX.out.obj 6 rfl).cell 2
                    by_cases hs : S3 = S'
                    · subst hs
                      as_aux_lemma =>
                      go_wp2_with (first
                        | (go_at_call 19; refine hsame.mono ?_; rintro e wz ⟨bb, rfl, hbb, PB⟩; obtain rfl : bb = true := (by simpa using hbb); have HY := hid (St.quiet HX.out PB); have hwk := pdb_works wz (hh.pres HY.out.pres); clear hsame c0 c1 c2 d0 d1 d2)
                        | (go_at_call 12; refine hwk.mono ?_; rintro e wd ⟨rfl, PD⟩))
                      go_ret
                      exact ⟨rfl, HY.out.pres.then PD⟩
                    · have htc : S3 = Tc := by
                        rcases HQ.out with h | h
                        · exact absurd h hs
                        · exact h
                      obtain rfl : b0 = true := by
                        cases b0 with
                        | true => rfl
                        | false => exact absurd (htc.trans (HT.out.1 rfl).symm) hs
                      have htc2 := HT.out.2 rfl
                      obtain ⟨m, v, hV⟩ := HV.out
                      have hn0 : t0.tmod 3 ≠ 0 := by simpa using HB0.out
                      have HNZ := hid hn0
                      have HVV := hid hV
                      have hst3 := htc2.trans htc.symm
                      have HST := hid hst3
                      have HSN := hid hs
                      clear hn0 hV hst3 htc htc2 HT HQ HV HB0
                      as_aux_lemma =>
                      have e0 : w5.cell? ⟨ab, 0, none⟩ = some (.int .i64 a.kind) := (HX.out.obj 8 rfl).cell 0
                      have e1 : w5.cell? ⟨ab, 1, none⟩ = some (.int .i64 a.pid) := (HX.out.obj 8 rfl).cell 1
                      have e2 : w5.cell? ⟨ab, 2, none⟩ = some (.int .i64 a.kd) := (HX.out.obj 8 rfl).cell 2
                      have e3 : w5.cell? ⟨ab, 3, none⟩ = some (.string a.s) := (HX.out.obj 8 rfl).cell 3
                      have e4 : w5.cell? ⟨ab, 4, none⟩ = some a.kv := (HX.out.obj 8 rfl).cell 4
                      have e5 : w5.cell? ⟨ta, 0, none⟩ = some (.int .i64 t0) := (HX.out.obj 4 rfl).cell 0
                      clear hs
                      go_wp2_with (first
                        | (go_at_call 19; refine hsame.mono ?_; rintro e wz ⟨bb, rfl, hbb, PB⟩; obtain rfl : bb = false := (by have := HSN.out; cases bb <;> simp_all); have HY := hid (St.quiet HX.out PB); clear hsame c0 c1 c2 d0 d1 d2 e0 e1 e2 e3 e4 e5
                           have c0 : wz.cell? ⟨nb, 0, none⟩ = some (.slice pn S3.pages.length cpn) := (HY.out.obj 0 rfl).cell 0
                           have c1 : wz.cell? ⟨nb, 1, none⟩ = some (.slice fn S3.freed.length cfn) := (HY.out.obj 0 rfl).cell 1
                           have c2 : wz.cell? ⟨nb, 2, none⟩ = some (.slice rn 4 crn) := (HY.out.obj 0 rfl).cell 2
                           have d0 : wz.cell? ⟨wb, 0, none⟩ = some (.slice pa S'.pages.length ca) := (HY.out.obj 6 rfl).cell 0
                           have d1 : wz.cell? ⟨wb, 1, none⟩ = some (.slice fa S'.freed.length cf) := (HY.out.obj 6 rfl).cell 1
                           have d2 : wz.cell? ⟨wb, 2, none⟩ = some (.slice ra 4 cr) := (HY.out.obj 6 rfl).cell 2
                           have e0 : wz.cell? ⟨ab, 0, none⟩ = some (.int .i64 a.kind) := (HY.out.obj 8 rfl).cell 0
                           have e1 : wz.cell? ⟨ab, 1, none⟩ = some (.int .i64 a.pid) := (HY.out.obj 8 rfl).cell 1
                           have e2 : wz.cell? ⟨ab, 2, none⟩ = some (.int .i64 a.kd) := (HY.out.obj 8 rfl).cell 2
                           have e3 : wz.cell? ⟨ab, 3, none⟩ = some (.string a.s) := (HY.out.obj 8 rfl).cell 3
                           have e4 : wz.cell? ⟨ab, 4, none⟩ = some a.kv := (HY.out.obj 8 rfl).cell 4
                           have e5 : wz.cell? ⟨ta, 0, none⟩ = some (.int .i64 t0) := (HY.out.obj 4 rfl).cell 0
                           have hwh := law_whole wz (hh.pres HY.out.pres) (.slice pn S3.pages.length cpn) (.slice fn S3.freed.length cfn) (.slice rn 4 crn) (.slice pa S'.pages.length ca) (.slice fa S'.freed.length cf) (.slice ra 4 cr) S' a t0 has HNZ.out m v HVV.out (fun _ => false) false (by rw [HST.out]; exact statP_read (HY.out.pull 1 rfl)) (statP_read (HY.out.pull 7 rfl))
                           unfold ActD.cells at hwh)
                        | (go_at_call 35; refine hwh.mono ?_; rintro e wy ⟨rfl, PW⟩; have HZ := hid (St.quiet HY.out PW); have hwk := pdb_works wy (hh.pres HZ.out.pres); clear hwh c0 c1 c2 d0 d1 d2 e0 e1 e2 e3 e4 e5)
                        | (go_at_call 12; refine hwk.mono ?_; rintro e wd ⟨rfl, PD⟩))
                      go_ret
                      exact ⟨rfl, HZ.out.pres.then PD⟩

end Go.Proofs.YtnffnpndnaofhaaGreatDoor
