/- WalApart: the walk: two logs on one disk know nothing of one another; whatever comes in. -/
import Derived.Test.YtjaabhdgahljcaaDoorWalSteps2
import Derived.Test.YtjaabhdgahljcaaDoorWalHeal
import Derived.Deep.DeepCutAuto
namespace Go.Proofs.YtjaabhdgahljcaaDoor
open Go.RowKit
set_option maxRecDepth 100000

def logY : Lg := ⟨18, 2, 0, [], [], [], false⟩

/-- What holds of both logs, and of their disk. -/
structure ApartOk (σ : Dk) (l m : Lg) : Prop where
  heal : Heal σ 20
  l1 : l.lost = false
  l2 : l.base = 2
  l3 : l.n = 16
  m1 : m.lost = false
  m2 : m.base = 18
  m3 : m.n = 2
  x : σ.look 0 = pad [120]
  y : σ.look 1 = pad [121]
  pend : σ.pend.length ≤ 2

theorem Lg.add_same (l : Lg) (r : List UInt8) : (l.add r).2.lost = l.lost ∧ (l.add r).2.base = l.base ∧ (l.add r).2.n = l.n ∧ (l.add r).2.recs = l.recs := by
  unfold Lg.add
  split
  · exact ⟨rfl, rfl, rfl, rfl⟩
  split
  · exact ⟨rfl, rfl, rfl, rfl⟩
  split <;> exact ⟨rfl, rfl, rfl, rfl⟩

theorem ApartOk.addL {σ : Dk} {l m : Lg} (h : ApartOk σ l m) (r : List UInt8) : ApartOk σ (l.add r).2 m := by
  obtain ⟨e1, e2, e3, -⟩ := l.add_same r
  exact ⟨h.heal, by rw [e1, h.l1], by rw [e2, h.l2], by rw [e3, h.l3], h.m1, h.m2, h.m3, h.x, h.y, h.pend⟩

theorem ApartOk.addM {σ : Dk} {l m : Lg} (h : ApartOk σ l m) (r : List UInt8) : ApartOk σ l (m.add r).2 := by
  obtain ⟨e1, e2, e3, -⟩ := m.add_same r
  exact ⟨h.heal, h.l1, h.l2, h.l3, by rw [e1, h.m1], by rw [e2, h.m2], by rw [e3, h.m3], h.x, h.y, h.pend⟩

theorem ApartOk.syncL {σ : Dk} {l m : Lg} (h : ApartOk σ l m) (lo : l.Ok) : (l.sync σ).1 = 0 ∧ (l.sync σ).2.1 = l.synced ∧ ApartOk (l.sync σ).2.2 l.synced m := by
  obtain ⟨h1, h2, h3, h4, h5⟩ := h.heal.sync lo h.l1 (by rw [h.l2, h.l3]; omega)
  exact ⟨h1, h2, h3, h.l1, h.l2, h.l3, h.m1, h.m2, h.m3, by rw [h5 0 (by rw [h.l2]; omega), h.x], by rw [h5 1 (by rw [h.l2]; omega), h.y], Nat.le_trans h4 h.pend⟩

theorem ApartOk.syncM {σ : Dk} {l m : Lg} (h : ApartOk σ l m) (mo : m.Ok) : (m.sync σ).1 = 0 ∧ (m.sync σ).2.1 = m.synced ∧ ApartOk (m.sync σ).2.2 l m.synced := by
  obtain ⟨h1, h2, h3, h4, h5⟩ := h.heal.sync mo h.m1 (by rw [h.m2, h.m3]; omega)
  exact ⟨h1, h2, h3, h.l1, h.l2, h.l3, h.m1, h.m2, h.m3, by rw [h5 0 (by rw [h.m2]; omega), h.x], by rw [h5 1 (by rw [h.m2]; omega), h.y], Nat.le_trans h4 h.pend⟩

theorem Lg.add_small {m : Lg} (hl : m.lost = false) (r : List UInt8) (hr : r.length ≤ 100) : m.add r = (0, { m with waiting := m.waiting ++ [r] }) ∨ m.add r = (7, m) := by
  unfold Lg.add
  rw [hl, if_neg (by simp), if_neg (by omega)]
  split
  · exact .inr rfl
  · exact .inl rfl

/-- What holds at the head of a round, and between its halves. -/
def ApartMid (w0 wr : World) (b c d : Nat) (yv : Value) : Prop :=
  ∃ (l m : Lg) (σ : Dk), ApartOk σ l m ∧ m.waiting = [] ∧ St w0 wr [logP b d l, logP c d m, diskP d σ, slP yv 9 1 m.recs.length (m.recs.map strV)]

theorem first_byte (x : UInt8) (z : ByteArray) (h : 0 < z.size) (e : (⟨(pad [x]).toArray⟩ : ByteArray) = z) : (((z[0]'h).toNat : Nat) : Int) = (x.toNat : Int) := by
  subst e
  rfl

theorem log_ok {w0 w : World} {ps : List HP} {b d : Nat} {l : Lg} (H : St w0 w (logP b d l :: ps)) : l.Ok := by
  obtain ⟨_, _, _, ok, -⟩ := log_open H
  exact ok

set_option maxHeartbeats 8000000 in
theorem wal_apart_walk (w : World) (hh : HalfAt w) (va vb : Value) (as' bs' : List ActD) (ha : ActsAt w va as') (hb : ActsAt w vb bs') :
    Calls Tryd.prog 3 #[va, vb] w fun e w' => e = .returned (.bool true) ∧ Pres [] w w' := by
  obtain ⟨aa, ca, ea, ha1, ha2, -⟩ := id ha.1
  obtain ⟨ab, cb, eb, hb1, hb2, -⟩ := id hb.1
  rw [List.length_map] at ea eb ha1 hb1
  have hmax1 : as'.length ≤ 9223372036854775807 := by simp only [maxLen] at ha2; omega
  have hmax2 : bs'.length ≤ 9223372036854775807 := by simp only [maxLen] at hb2; omega
  subst ea eb
  have HA := hid ha
  have HB := hid hb
  clear ha hb ha1 ha2 hb1 hb2
  go_enter Tryd.func3, Tryd.ntmps3
  go_wp2_with fail
  refine (begin_wal _ hh).mono ?_
  rintro e w1 ⟨d, b, rfl, H1⟩
  have H1 := hid H1
  go_wp2_with fail
  refine (wal_open hh (H1.out.pull 1 rfl) 18 2 (by omega) (by omega) (by omega) (by omega)).mono ?_
  rintro e w2 hE
  rw [show openLg (Dk.new 20) 18 2 = (0, some logY) by kernel_rfl] at hE
  obtain ⟨c, rfl, H2⟩ := hE
  have H2 := hid H2
  clear H1
  have hz : Heal (Dk.new 20) 20 := ⟨Dk.new_ok (by omega) (by omega), rfl, rfl, by simp [Dk.new]⟩
  obtain ⟨x1, x2, x3, x4⟩ := hz.write (i := 0) (by omega) (s := (⟨#[120]⟩ : ByteArray).data.toList) (by decide)
  obtain ⟨y1, y2, y3, y4⟩ := x2.write (i := 1) (by omega) (s := (⟨#[121]⟩ : ByteArray).data.toList) (by decide)
  have HX := hid (And.intro x1 (And.intro x3 (And.intro x4 (And.intro y1 (And.intro y2 (And.intro y3 y4))))))
  clear hz x1 x2 x3 x4 y1 y2 y3 y4
  go_wp2_with fail
  have hw1 := sd_write (H2.out.pull 1 rfl) 0 ⟨#[120]⟩ (by simp [Dk.new])
  rw [show ((Dk.new 20).write 0 (⟨#[120]⟩ : ByteArray).data.toList).1 = 0 from HX.out.1] at hw1
  refine hw1.mono ?_
  rintro e w3 ⟨rfl, H3⟩
  have H3 := hid H3
  clear H2 hw1
  go_wp2_with fail
  have hw2 := sd_write H3.out 1 ⟨#[121]⟩ (by rw [show ((Dk.new 20).write 0 (⟨#[120]⟩ : ByteArray).data.toList).2.pend = _ from HX.out.2.1]; simp [Dk.new])
  rw [show (((Dk.new 20).write 0 (⟨#[120]⟩ : ByteArray).data.toList).2.write 1 (⟨#[121]⟩ : ByteArray).data.toList).1 = 0 from HX.out.2.2.2.1] at hw2
  refine hw2.mono ?_
  rintro e w4 ⟨rfl, H4⟩
  have HM : ApartMid w w4 b c d (.slice none 0 0) := by
    obtain ⟨-, x3, x4, -, y2, y3, y4⟩ := HX.out
    refine ⟨logZ, logY, _, ⟨y2, rfl, rfl, rfl, rfl, rfl, rfl, ?_, ?_, ?_⟩, rfl, ?_⟩
    · exact (y4 0).trans ((if_neg (by omega)).trans ((x4 0).trans (if_pos rfl)))
    · exact (y4 1).trans (if_pos rfl)
    · have e : (((Dk.new 20).write ((0 : Nat) : Int) (⟨#[120]⟩ : ByteArray).data.toList).2.write ((1 : Nat) : Int) (⟨#[121]⟩ : ByteArray).data.toList).2.pend.length = 2 := by rw [y3, x3]; rfl
      exact Nat.le_of_eq e
    · have h1 := H4.nil 9 1
      exact ((h1.pull 1 rfl).pull 2 rfl).pull 3 rfl
  clear HX H3 hw2 H4
  go_wp2_with fail
  go_loopw [9, 10] (fun yv iv wr => ∃ k : Nat, k ≤ 20 ∧ iv = .int .i64 (k : Int) ∧ ApartMid w wr b c d yv) (fun _ iv _ => 20 - (intOf iv).toNat)
  case atStart => exact ⟨0, Nat.zero_le _, rfl, HM⟩
  case round =>
    obtain ⟨k, hk, rfl, hM⟩ := hrel
    clear HM
    have HH := hid hM
    clear hM
    obtain ⟨j, hj, hjz, hjs, hjb⟩ := info_str
    have HJ := hid (And.intro hj (And.intro hjz (And.intro hjs hjb)))
    clear hj hjz hjs hjb
    by_cases hlt : k < 20
    · have hk20 : (k : Int) < 20 := by omega
      go_upto_if 52 with fail
      go_cut [9] (fun s9 w' => ApartMid w w' b c d s9)
      case first =>
        obtain ⟨l, m, σ, ok, hmw, H⟩ := HH.out
        have HOK := hid (And.intro ok hmw)
        have HS := hid H
        clear ok hmw H
        by_cases hka : k < as'.length
        · have hl1 : (k : Int) < (as'.length : Int) := by omega
          obtain ⟨a, ha⟩ : ∃ a, as'[k]? = some a := ⟨_, List.getElem?_eq_getElem hka⟩
          have hok : a.Ok w := HA.out.2 a (List.mem_of_getElem? ha)
          obtain ⟨g, off, capb, eb, -, -, hcb, hbw⟩ := HA.out.get ha
          simp only [Value.slice.injEq] at eb
          obtain ⟨rfl, -, rfl⟩ := eb
          have c0 : w.cell? ⟨g, off + k * 4 + 0, none⟩ = some (.int .i64 a.kind) := hcb 0 _ rfl
          rw [Nat.add_zero] at c0
          have HC0 := hid c0
          have c2 : wr.cell? ⟨g, off + k * 4 + 2, none⟩ = some (.string a.s) := (St.pres HS.out).cell (hcb 2 _ rfl) (by simp)
          obtain ⟨M, hM⟩ : ∃ M : Nat, M = min 100 a.s.size := ⟨_, rfl⟩
          have hM1 : min (a.s.size : Int) 100 = (M : Int) := by omega
          have hM2 : (M : Int) ≤ (a.s.size : Int) := by omega
          have hM3 : (a.s.size : Int) ≤ 9223372036854775807 := by have := hok.s; simp only [maxLen] at this; omega
          have hxs : (a.s.extract 0 M).size = M := by rw [ByteArray.size_extract]; omega
          have hM100 : M ≤ 100 := by omega
          have hpe : σ.pend.length ≤ 2 := HOK.out.1.pend
          clear hok hcb ha hM c0
          go_upto_region 10 with (fail)
          refine wp_stages (by kernel_rfl) ?_
          have S0 : wr.drew.cell? ⟨g, off + k * 4 + 2, none⟩ = some (.string a.s) := c2
          refine wp_stage (fun W => W.cell? ⟨g, off + k * 4 + 2, none⟩ = some (.string a.s)) [(0, true), (1, true), (2, true), (3, true), (4, true), (5, true), (6, true), (7, true), (8, true), (9, true), (10, true), (11, true), (12, true), (13, true)] 1 rfl (by kernel_rfl) (by intro c a dd v w h; cases dd <;> exact h) (S0) ?_
          iterate 14 (refine wpOrd_read (v := _) rfl rfl (by intro w' hS; have hs1 := hS; clear hS; go_simp; rfl) ?_; (try simp only [Act.put, List.setIfInBounds_toArray, List.set_cons_succ, List.set_cons_zero, List.getElem_toArray, List.getElem_cons_succ, List.getElem_cons_zero]))
          refine wpOrd_end ?_
          refine wp_stages_end 14 (by rfl) (by kernel_rfl) ?_
          simp only [List.drop_succ_cons, List.drop_zero]
          have HD := hid (St.drew HS.out)
          generalize wr.drew = wd at *
          clear S0 c2 HS hM1
          by_cases k1 : a.kind = 1
          · have e1 : (a.kind == 1) = true := by simpa using k1
            clear k1
            go_wp2_with (first
              | (go_at_call 11; refine (log_add HD.out _ (by simp only [maxLen]; omega)).mono ?_; rintro e w3 ⟨rfl, H3⟩; have H3 := hid H3; have c0 := (St.pres H3.out).cell HC0.out (by simp); have hs := ((HOK.out.1.addL _).syncL (log_ok H3.out)); have hc := log_sync hh ((H3.out.pull 2 rfl).pull 1 rfl) (by omega); rw [hs.1, hs.2.1] at hc; have HY := hid hs.2.2)
              | (go_at_call 12; refine hc.mono ?_; rintro e w5 ⟨rfl, H5⟩; have H5 := hid H5))
            go_meet
            case rel => exact ⟨_, m, _, HY.out, HOK.out.2, (H5.out.pull 2 rfl).pull 1 rfl⟩
          · have e1 : (a.kind == 1) = false := by simpa using k1
            clear k1
            go_wp2_with (first
              | (go_at_call 11; refine (log_add HD.out _ (by simp only [maxLen]; omega)).mono ?_; rintro e w3 ⟨rfl, H3⟩; have H3 := hid H3; have c0 := (St.pres H3.out).cell HC0.out (by simp)))
            go_meet
            case rel => exact ⟨_, m, σ, HOK.out.1.addL _, HOK.out.2, H3.out⟩
        · have hl1 : ¬ (k : Int) < (as'.length : Int) := by omega
          go_wp2_with fail
          go_meet
          case rel => exact ⟨l, m, σ, HOK.out.1, HOK.out.2, HS.out⟩
      case rest =>
        clear HH
        obtain ⟨l, m, σ, ok, hmw, H⟩ := hcut
        have HOK := hid (And.intro ok hmw)
        have HS := hid H
        obtain ⟨ayv, cyv, rfl, -, -⟩ := (H.sl 3 rfl).shape
        have hmk := hid (Lg.Ok.counts (log_ok (H.pull 1 rfl)))
        have hpe : σ.pend.length ≤ 2 := HOK.out.1.pend
        clear ok hmw H
        by_cases hkb : k < bs'.length
        · have hl1 : (k : Int) < (bs'.length : Int) := by omega
          obtain ⟨a, ha⟩ : ∃ a, bs'[k]? = some a := ⟨_, List.getElem?_eq_getElem hkb⟩
          have hok : a.Ok w := HB.out.2 a (List.mem_of_getElem? ha)
          obtain ⟨g, off, capb, eb, -, -, hcb, hbw⟩ := HB.out.get ha
          simp only [Value.slice.injEq] at eb
          obtain ⟨rfl, -, rfl⟩ := eb
          have c2 : wc.cell? ⟨g, off + k * 4 + 2, none⟩ = some (.string a.s) := (St.pres HS.out).cell (hcb 2 _ rfl) (by simp)
          obtain ⟨M, hM⟩ : ∃ M : Nat, M = min 30 a.s.size := ⟨_, rfl⟩
          have hM1 : min (a.s.size : Int) 30 = (M : Int) := by omega
          have hM2 : (M : Int) ≤ (a.s.size : Int) := by omega
          have hM3 : (a.s.size : Int) ≤ 9223372036854775807 := by have := hok.s; simp only [maxLen] at this; omega
          have hxs : (a.s.extract 0 M).size = M := by rw [ByteArray.size_extract]; omega
          have hM30 : M ≤ 30 := by omega
          clear hok hcb ha hM
          go_upto_region 14 with (fail)
          refine wp_stages (by kernel_rfl) ?_
          have S0 : wc.drew.cell? ⟨g, off + k * 4 + 2, none⟩ = some (.string a.s) := c2
          refine wp_stage (fun W => W.cell? ⟨g, off + k * 4 + 2, none⟩ = some (.string a.s)) [(0, true), (1, true), (2, true), (3, true), (4, true), (5, true), (6, true), (7, true), (8, true), (9, true), (10, true), (11, true)] 2 rfl (by kernel_rfl) (by intro c a dd v w h; cases dd <;> exact h) (S0) ?_
          iterate 12 (refine wpOrd_read (v := _) rfl rfl (by intro w' hS; have hs1 := hS; clear hS; go_simp; rfl) ?_; (try simp only [Act.put, List.setIfInBounds_toArray, List.set_cons_succ, List.set_cons_zero, List.getElem_toArray, List.getElem_cons_succ, List.getElem_cons_zero]))
          refine wpOrd_end ?_
          refine wp_stages_end 12 (by rfl) (by kernel_rfl) ?_
          simp only [List.drop_succ_cons, List.drop_zero]
          have HD := hid ((St.drew HS.out).pull 1 rfl)
          generalize wc.drew = wd at *
          clear S0 c2 HS hM1
          go_upto_region 15 with fail
          generalize a.s.extract 0 M = x at *
          have hadd := log_add HD.out x (by simp only [maxLen]; omega)
          have hsm := Lg.add_small HOK.out.1.m1 x.data.toList (by rw [← ba_size]; omega)
          have hoa := HOK.out.1.addM x.data.toList
          rcases hsm with e | e
          · rw [e] at hadd hoa
            have HOA := hid hoa
            clear e hoa
            have e2 : ({ m with waiting := m.waiting ++ [x.data.toList] } : Lg).synced.recs = m.recs ++ [x.data.toList] := by simp [Lg.synced, HOK.out.2]
            have HE2 := hid e2
            clear e2
            go_wp2_with (first
              | (go_at_call 11; refine hadd.mono ?_; rintro e w3 ⟨rfl, H3⟩; have H3 := hid H3; have A3 := At.new w3 [.string x] 9; have H4 := hid (St.quiet H3.out ((Pres.refl [] w3).alloc (.cells #[.string x] 9))); have X3 := St.sl H4.out 3 rfl)
              | ((with_reducible refine at_append ?_); go_must (refine wpL_app rfl (.tmp 100) (.tmp 102) 31 31 rfl 9 j _ 1 Tryd.underlying31 HJ.out.1 HJ.out.2.1 HJ.out.2.2.1 rfl (.slice ayv m.recs.length cyv) m.recs.length _ rfl X3 1 [.string x] (Src.at Tryd.underlying31 A3 rfl (by simp [Value.oneCell'])) (by have := hmk.out; simp only [maxLen]; omega) (by have := hmk.out; rw [HJ.out.2.2.2]; omega) ?_); intro v5 w5 Y1 Y2 Y3; have H5 := hid (St.grow H4.out 3 rfl Y1 Y2 Y3); clear Y1 Y2 Y3; have hs := HOA.out.syncM (log_ok H5.out); have hc := log_sync hh (H5.out.pull 2 rfl |>.pull 1 rfl) (by omega); rw [hs.1, hs.2.1] at hc; have HY := hid hs.2.2)
              | (go_at_call 12; refine hc.mono ?_; rintro e w6 ⟨rfl, H6⟩; have H6 := hid H6))
            go_roundw
            case rel =>
              refine ⟨k + 1, by omega, by go_num, l, _, _, HY.out, rfl, ?_⟩
              have e1 : strV x.data.toList = .string x := congrArg Value.string (ba_ext (ba_mk _))
              rw [HE2.out, List.length_append, List.map_append, List.map_cons, List.map_nil, e1]
              exact (H6.out.pull 2 rfl)
            case measure => first | (simp [intOf]; done) | (simp [intOf]; omega)
          · rw [e] at hadd
            clear e hoa
            go_wp2_with (first
              | (go_at_call 11; refine hadd.mono ?_; rintro e w3 ⟨rfl, H3⟩; have H3 := hid H3; have hs := HOK.out.1.syncM (log_ok H3.out); have hc := log_sync hh (H3.out.pull 2 rfl |>.pull 1 rfl) (by omega); rw [hs.1, hs.2.1] at hc; have HY := hid hs.2.2)
              | (go_at_call 12; refine hc.mono ?_; rintro e w6 ⟨rfl, H6⟩; have H6 := hid H6))
            go_roundw
            case rel =>
              refine ⟨k + 1, by omega, by go_num, l, _, _, HY.out, rfl, ?_⟩
              have e2 : m.synced.recs = m.recs := by simp [Lg.synced, HOK.out.2]
              rw [e2]
              exact (H6.out.pull 2 rfl)
            case measure => first | (simp [intOf]; done) | (simp [intOf]; omega)
        · have hl1 : ¬ (k : Int) < (bs'.length : Int) := by omega
          go_wp2_with fail
          go_roundw
          case rel => exact ⟨k + 1, by omega, by go_num, l, m, σ, HOK.out.1, HOK.out.2, HS.out⟩
          case measure => first | (simp [intOf]; done) | (simp [intOf]; omega)
    · have hk20 : ¬ (k : Int) < 20 := by omega
      obtain ⟨l, m, σ, ok, hmw, H⟩ := HH.out
      have HOK := hid (And.intro ok hmw)
      have HS := hid H
      clear ok hmw H HH
      obtain ⟨ayv, cyv, rfl, -, -⟩ := (HS.out.sl 3 rfl).shape
      have r0 := sd_read (HS.out.pull 2 rfl) ((0 : Nat) : Int)
      rw [read_has HOK.out.1.heal.down (by rw [HOK.out.1.heal.len]; omega), HOK.out.1.x] at r0
      obtain ⟨z0, hz0⟩ : ∃ z : ByteArray, Hid ((⟨(pad [120]).toArray⟩ : ByteArray) = z) := ⟨_, hid rfl⟩
      obtain ⟨z1, hz1⟩ : ∃ z : ByteArray, Hid ((⟨(pad [121]).toArray⟩ : ByteArray) = z) := ⟨_, hid rfl⟩
      rw [hz0.out] at r0
      have s0 : z0.size = 64 := by rw [← hz0.out]; rfl
      have s1 : z1.size = 64 := by rw [← hz1.out]; rfl
      have q0 : (((z0[0]'(by omega)).toNat : Nat) : Int) = 120 := first_byte 120 z0 (by omega) hz0.out
      have q1 : (((z1[0]'(by omega)).toNat : Nat) : Int) = 121 := first_byte 121 z1 (by omega) hz1.out
      go_wp2_with fail
      refine r0.mono ?_
      rintro e w3 ⟨rfl, H3, P3⟩
      have H3 := hid H3
      clear r0 P3
      have r1 := sd_read H3.out ((1 : Nat) : Int)
      rw [read_has HOK.out.1.heal.down (by rw [HOK.out.1.heal.len]; omega), HOK.out.1.y, hz1.out] at r1
      go_wp2_with fail
      refine r1.mono ?_
      rintro e w4 ⟨rfl, H4, P4⟩
      have H4 := hid H4
      clear r1 P4 H3
      go_wp2_with fail
      refine (log_records (H4.out.pull 2 rfl)).mono ?_
      rintro e w5 ⟨v5, rfl, H5, -⟩
      have H5 := hid H5
      clear H4 q0 q1
      go_wp2_with fail
      have hsm := same_texts w5 v5 (.slice ayv m.recs.length cyv) m.recs m.recs (H5.out.sl 0 rfl).reads (H5.out.sl 4 rfl).reads
      rw [decide_eq_true rfl] at hsm
      refine hsm.mono ?_
      rintro e w9 ⟨rfl, P9⟩
      have H9 := hid (H5.out.quiet P9)
      clear H5 P9 hsm
      go_wp2_with fail
      refine (wal_works _ (hh.pres H9.out.pres)).mono ?_
      rintro e w11 ⟨rfl, P11⟩
      go_wp2
      go_ret
      exact ⟨rfl, H9.out.pres.then P11⟩

end Go.Proofs.YtjaabhdgahljcaaDoor
