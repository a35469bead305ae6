/- WalLasts: the walk: wherever the power is lost within a sync or a reset, what is found is what was there ahead of it, or what it makes; whatever comes in. -/
import Derived.Test.YtjaabhdgahljcaaDoorWalLastsP
import Derived.Deep.DeepCutAuto
namespace Go.Proofs.YtjaabhdgahljcaaDoor
open Go.RowKit
set_option maxRecDepth 100000

theorem begin_walH {w0 w : World} {ps : List HP} (hh : HalfAt w0) (H : St w0 w ps) :
    Calls Tryd.prog 8 #[] w fun e w' => ∃ d b, e = .returned (.tuple #[.pointer (some ⟨d, 0, none⟩), .pointer (some ⟨b, 0, none⟩)]) ∧ St w0 w' (logP b d logZ :: diskP d (Dk.new 20) :: ps) := by
  go_enter Tryd.func8, Tryd.ntmps8
  go_wp2_with fail
  refine (sd_new H 20 (by omega) (by omega)).mono ?_
  rintro e w1 ⟨d, rfl, H1⟩
  go_wp2_with fail
  refine (wal_open hh H1 2 16 (by omega) (by omega) (by omega) (by omega)).mono ?_
  rintro e w2 hE
  rw [show Int.toNat 20 = 20 from rfl, show openLg (Dk.new 20) 2 16 = (0, some logZ) from sat_zero.open] at hE
  obtain ⟨b, rfl, H2⟩ := hE
  clear H1
  go_wp2
  go_ret2
  exact ⟨d, b, rfl, H2⟩

/-- The log, the disk, what was there, what is to be, the three numbers. -/
def LastMid (w0 wr : World) (b d a : Nat) (t0 t1 t2 : Int) (wv isv : Value) (reset : Bool) : Prop :=
  ∃ (l : Lg) (σ : Dk) (was is : List (List UInt8)), LastOk σ l reset was is ∧ St w0 wr [slP isv 9 1 is.length (is.map strV), logP b d l, diskP d σ, slP wv 9 1 was.length (was.map strV), objP a [.int .i64 t0, .int .i64 t1, .int .i64 t2] 53]

/-- Behind the sync, or the reset. -/
def HitMid (w0 wr : World) (b d a : Nat) (t0 t1 t2 : Int) (wv isv ev : Value) : Prop :=
  ∃ (e : Int) (σ : Dk) (lv l lz : Lg) (was is : List (List UInt8)), ev = .int .i64 e ∧ Hit e σ lv l lz was is ∧ St w0 wr [slP isv 9 1 is.length (is.map strV), logP b d lv, diskP d σ, slP wv 9 1 was.length (was.map strV), objP a [.int .i64 t0, .int .i64 t1, .int .i64 t2] 53]

/-- The same, the error known. -/
def HitAt (w0 wr : World) (b d a : Nat) (t0 t1 t2 : Int) (wv isv : Value) (e : Int) : Prop :=
  ∃ (σ : Dk) (lv l lz : Lg) (was is : List (List UInt8)), Hit e σ lv l lz was is ∧ St w0 wr [slP isv 9 1 is.length (is.map strV), logP b d lv, diskP d σ, slP wv 9 1 was.length (was.map strV), objP a [.int .i64 t0, .int .i64 t1, .int .i64 t2] 53]

/-- Without power. -/
def DarkAt (w0 wr : World) (d a : Nat) (t0 t1 t2 : Int) (wv isv : Value) (e : Int) : Prop :=
  ∃ (σ : Dk) (la lz : Lg) (was is : List (List UInt8)), Dark e σ la lz was is ∧ St w0 wr [slP isv 9 1 is.length (is.map strV), diskP d σ, slP wv 9 1 was.length (was.map strV), objP a [.int .i64 t0, .int .i64 t1, .int .i64 t2] 53]

theorem info_boolW : ∃ i, Tryd.prog.info? 4 = some i ∧ i.zero = some (.bool false) ∧ i.size = 1 ∧ i.bytes = 1 := by
  refine ⟨_, rfl, ?_, ?_, ?_⟩ <;> kernel_rfl

set_option maxHeartbeats 8000000 in
theorem wal_lasts_walk (w : World) (hh : HalfAt w) (v rv : Value) (t0 t1 t2 : Int) (acts : List ActD) (ss : List ByteArray) (ha : ActsAt w v acts) (hr : Reads w rv (ss.map Value.string)) (hsz : ∀ s ∈ ss, s.size ≤ maxLen)
    (b1 : -9223372036854775808 ≤ t1) (b2 : t1 ≤ 9223372036854775807) :
    Calls Tryd.prog 6 #[v, rv, .agg #[.int .i64 t0, .int .i64 t1, .int .i64 t2]] w fun e w' => e = .returned (.bool true) ∧ Pres [] w w' := by
  obtain ⟨ar, cr, er, hr1, hr2, -⟩ := id hr
  rw [List.length_map] at er hr1
  have hmax : ss.length ≤ 9223372036854775807 := by simp only [maxLen] at hr2; omega
  subst er
  have HA := hid ha
  have HR := hid hr
  have HZ := hid hsz
  have HB := hid (And.intro b1 b2)
  clear ha hr hr1 hr2 hsz b1 b2
  have H0 := hid ((St.start w).alloc [.int .i64 t0, .int .i64 t1, .int .i64 t2] 53)
  go_enter Tryd.func6, Tryd.ntmps6
  go_wp2_with fail
  refine (begin_walH hh H0.out).mono ?_
  rintro e w1 ⟨d, b, rfl, H1⟩
  have H1 := hid H1
  have hlt := H0.out.obj 0 rfl |>.lt
  clear H0
  go_wp2_with fail
  have hst := steps_ok hh H1.out stepOk_zero rfl rfl v acts HA.out 25 (by omega)
  refine hst.mono ?_
  rintro e w2 ⟨l, σ, wv, rfl, ok, H2⟩
  have H2 := hid H2
  have OK := hid ok
  clear hst H1 ok
  go_wp2_with fail
  refine (log_drop (H2.out.pull 1 rfl)).mono ?_
  rintro e w3 ⟨rfl, H3⟩
  have H3 := hid H3
  clear H2
  obtain ⟨awv, cwv, rfl, -, -⟩ := (H3.out.sl 1 rfl).shape
  have hcn := hid (Lg.Ok.counts OK.out.sat.log)
  obtain ⟨j, hj, hjz, hjs, hjb⟩ := info_str
  have HJ := hid (And.intro hj (And.intro hjz (And.intro hjs hjb)))
  clear hj hjz hjs hjb
  have A0 : Sl (w3.alloc (.cells #[] 9)) 9 1 (.slice (some ⟨w3.heap.size, 0, none⟩) 0 0) 0 [] := ⟨rfl, .inr ⟨_, 0, [], rfl, At.new w3 [] _, Nat.le_refl _, by simp [maxLen], rfl, rfl⟩⟩
  have H4 := hid (H3.out.slice A0 ((Pres.refl [] w3).alloc (.cells #[] 9)) (by simp [fpv]))
  clear H3 A0
  have A4 := St.sl H4.out 0 rfl
  have X4 := St.sl H4.out 2 rfl
  go_upto_region 9 with (((with_reducible refine at_append ?_); go_must (refine wpL_app rfl (.tmp 43) (.tmp 44) 31 31 rfl 9 j _ 1 Tryd.underlying31 HJ.out.1 HJ.out.2.1 HJ.out.2.2.1 rfl (.slice (some ⟨w3.heap.size, 0, none⟩) 0 0) 0 [] rfl A4 l.recs.length _ (Src.sl Tryd.underlying31 X4 (strs_one _)) (by have := hcn.out; simp only [maxLen]; omega) (by have := hcn.out; rw [HJ.out.2.2.2]; omega) ?_); intro isv w5 Y1 Y2 Y3; simp only [Nat.zero_add, List.nil_append] at Y1; have H5 := hid (St.grow H4.out 0 rfl Y1 Y2 Y3); clear Y1 Y2 Y3 A4 X4))
  have c0 : w5.cell? ⟨w.heap.size, 0, none⟩ = some (.int .i64 t0) := (H5.out.obj 4 rfl).cell 0
  go_upto_region 10 with fail
  clear c0
  generalize (t0.tmod 2 != 0) = reset at *
  obtain ⟨a, ha⟩ : ∃ a, w.heap.size = a := ⟨_, rfl⟩
  have HM0 := hid (LastOk.begin OK.out reset)
  rw [ha] at H5 ⊢
  clear ha hlt H1 hcn H4 H2 H3
  go_upto_if 50 with fail
  go_cut [11] (fun s11 w' => LastMid w w' b d a t0 t1 t2 (.slice awv l.recs.length cwv) s11 reset)
  case first =>
    cases reset with
    | true =>
      go_wp2_with fail
      go_meet
      case rel => exact ⟨_, σ, _, _, HM0.out, (((H5.out.drop.nil 9 1).pull 3 rfl).pull 2 rfl).pull 2 rfl⟩
    | false =>
      go_wp2_with fail
      go_meet
      case rel => exact ⟨_, σ, _, _, HM0.out, ((H5.out.pull 3 rfl).pull 2 rfl).pull 2 rfl⟩
  case rest =>
    clear H5 HM0
    generalize l.recs.length = nw at *
    clear OK
    clear l σ
    have HC := hid hcut
    clear hcut
    go_upto_block 0 with fail
    go_cut [11] (fun s11 w' => LastMid w w' b d a t0 t1 t2 (.slice awv nw cwv) s11 reset)
    case first =>
      go_wp2_with fail
      go_loopw [11, 13] (fun s11 iv wr => ∃ k : Nat, k ≤ 5 ∧ iv = .int .i64 (k : Int) ∧ LastMid w wr b d a t0 t1 t2 (.slice awv nw cwv) s11 reset) (fun _ iv _ => 5 - (intOf iv).toNat)
      case atStart => exact ⟨0, Nat.zero_le _, rfl, HC.out⟩
      case round =>
        obtain ⟨k, hk, rfl, hM⟩ := hrel
        clear HC
        have HH := hid hM
        clear hM
        by_cases hka : k < ss.length
        · have hl1 : (k : Int) < (ss.length : Int) := by omega
          by_cases hk5 : k < 5
          · have hl2 : (k : Int) < 5 := by omega
            cases reset with
            | true =>
              go_wp2_with fail
              go_meet
              case rel => exact HH.out
            | false =>
              obtain ⟨l, σ, was, is, ok, H⟩ := HH.out
              have HOK := hid ok
              have HS := hid H
              obtain ⟨aiv, civ, rfl, -, -⟩ := (H.sl 0 rfl).shape
              have hcn := hid (And.intro (Lg.Ok.counts ok.ok.sat.log) (And.intro ok.recs ok.is))
              clear ok H
              obtain ⟨z, hz⟩ : ∃ z, ss[k]? = some z := ⟨_, List.getElem?_eq_getElem hka⟩
              have hzs : z.size ≤ maxLen := HZ.out z (List.mem_of_getElem? hz)
              obtain ⟨g, off, capb, eb, hcb⟩ := reads_cell HR.out (by rw [List.length_map]; omega)
              simp only [Value.slice.injEq] at eb
              obtain ⟨rfl, -, rfl⟩ := eb
              have c2 : wr.cell? ⟨g, off + k, none⟩ = some (.string z) := (St.pres HS.out).cell (hcb k _ (by rw [List.getElem?_map, hz]; rfl)) (by simp)
              obtain ⟨M, hM⟩ : ∃ M : Nat, M = min 150 z.size := ⟨_, rfl⟩
              have hM1 : min (z.size : Int) 150 = (M : Int) := by omega
              have hM2 : (M : Int) ≤ (z.size : Int) := by omega
              have hM3 : (z.size : Int) ≤ 9223372036854775807 := by simp only [maxLen] at hzs; omega
              have hxs : (z.extract 0 M).size = M := by rw [ByteArray.size_extract]; omega
              have hM150 : M ≤ 150 := by omega
              clear hzs hcb hz hM
              go_upto_region 15 with (fail)
              refine wp_stages (by kernel_rfl) ?_
              have S0 : wr.drew.cell? ⟨g, off + k, none⟩ = some (.string z) := c2
              refine wp_stage (fun W => W.cell? ⟨g, off + k, none⟩ = some (.string z)) [(0, true), (1, true), (2, true), (3, true), (4, true), (5, true), (6, true), (7, true), (8, true), (9, true)] 2 rfl (by kernel_rfl) (by intro c a dd v w h; cases dd <;> exact h) (S0) ?_
              iterate 10 (refine wpOrd_read (v := _) rfl rfl (by intro w' hS; have hs1 := hS; clear hS; go_simp; rfl) ?_; (try simp only [Act.put, List.setIfInBounds_toArray, List.set_cons_succ, List.set_cons_zero, List.getElem_toArray, List.getElem_cons_succ, List.getElem_cons_zero]))
              refine wpOrd_end ?_
              refine wp_stages_end 10 (by rfl) (by kernel_rfl) ?_
              simp only [List.drop_succ_cons, List.drop_zero]
              have HD := hid ((St.drew HS.out).pull 1 rfl)
              generalize wr.drew = wd at *
              clear S0 c2 HS hM1
              go_upto_region 16 with fail
              generalize z.extract 0 M = x at *
              have hadd := log_add HD.out x (by simp only [maxLen]; omega)
              have hoa := HOK.out.ok.addM x.data.toList (by rw [← ba_size]; omega)
              rcases hoa with ⟨e, e2⟩ | e
              · rw [e] at hadd
                have HOA := hid e2
                clear e e2
                have hisl : is.length ≤ 4194304 + 4194304 := by
                  have := hcn.out
                  rw [this.2.2, if_neg (by simp), List.length_append, ← this.2.1]
                  omega
                have HISL := hid hisl
                clear hisl
                go_wp2_with (first
                  | (go_at_call 11; refine hadd.mono ?_; rintro e w3 ⟨rfl, H3⟩; have H3 := hid H3; have A3 := At.new w3 [.string x] 9; have H4 := hid (St.quiet H3.out ((Pres.refl [] w3).alloc (.cells #[.string x] 9))); have X3 := St.sl H4.out 1 rfl)
                  | ((with_reducible refine at_append ?_); go_must (refine wpL_app rfl (.tmp 80) (.tmp 82) 31 31 rfl 9 j _ 1 Tryd.underlying31 HJ.out.1 HJ.out.2.1 HJ.out.2.2.1 rfl (.slice aiv is.length civ) is.length _ rfl X3 1 [.string x] (Src.at Tryd.underlying31 A3 rfl (by simp [Value.oneCell'])) (by have := HISL.out; simp only [maxLen]; omega) (by have := HISL.out; rw [HJ.out.2.2.2]; omega) ?_); intro v5 w5 Y1 Y2 Y3; have H5 := hid (St.grow H4.out 1 rfl Y1 Y2 Y3); clear Y1 Y2 Y3))
                go_roundw
                case rel =>
                  refine ⟨k + 1, by omega, by go_num, _, σ, was, is ++ [x.data.toList], ⟨HOA.out, HOK.out.recs, ?_, fun h => by cases h⟩, ?_⟩
                  · have := HOK.out.is
                    simp only [Bool.false_eq_true, if_false] at this ⊢
                    rw [this, List.append_assoc]
                  · have e1 : strV x.data.toList = .string x := congrArg Value.string (ba_ext (ba_mk _))
                    rw [List.length_append, List.map_append, List.map_cons, List.map_nil, e1]
                    exact H5.out.pull 1 rfl
                case measure => first | (simp [intOf]; done) | (simp [intOf]; omega)
              · rw [e] at hadd
                clear e
                go_wp2_with (first
                  | (go_at_call 11; refine hadd.mono ?_; rintro e w3 ⟨rfl, H3⟩; have H3 := hid H3))
                go_roundw
                case rel =>
                  exact ⟨k + 1, by omega, by go_num, l, σ, was, is, HOK.out, H3.out.pull 1 rfl⟩
                case measure => first | (simp [intOf]; done) | (simp [intOf]; omega)
          · have hl2 : ¬ (k : Int) < 5 := by omega
            go_wp2_with fail
            go_meet
            case rel => exact HH.out
        · have hl1 : ¬ (k : Int) < (ss.length : Int) := by omega
          go_wp2_with fail
          go_meet
          case rel => exact HH.out
    case rest =>
      have HC2 := hid hcut
      clear hcut HC
      obtain ⟨l, σ, was, is, ok, H⟩ := HC2.out
      have c1 : wc.cell? ⟨a, 1, none⟩ = some (.int .i64 t1) := (H.obj 4 rfl).cell 1
      have HS := hid (H.pull 2 rfl)
      have HOK := hid ok
      clear ok H HC2
      have hb : (wrap64 (t1.tmod 20 + 20)).tmod 20 ≤ 9223372036854775807 := by
        have := Int.tmod_lt_of_pos (wrap64 (t1.tmod 20 + 20)) (show (0 : Int) < 20 by omega)
        omega
      have HN := hid hb
      clear hb
      go_wp2_with fail
      generalize (wrap64 (t1.tmod 20 + 20)).tmod 20 = n at *
      refine (sd_arm HS.out n HN.out).mono ?_
      rintro e wa ⟨rfl, H1⟩
      replace H1 := hid (H1.pull 2 rfl)
      have hpe : (σ.arm n).2.pend.length ≤ 800000000 := by rw [(HOK.out.ok.sat.arm n HN.out).pend]; simp
      clear HS c1
      go_upto_if 91 with fail
      go_cut [15] (fun s15 w' => HitMid w w' b d a t0 t1 t2 (.slice awv nw cwv) u11 s15)
      case first =>
        cases reset with
        | true =>
          have HHIT := hid (HOK.out.reset n HN.out)
          have hc := log_reset hh H1.out hpe
          clear hpe
          go_wp2_with (go_at_call 18; refine hc.mono ?_; rintro e w5 ⟨rfl, H5⟩; have H5 := hid H5)
          go_meet
          case rel => exact ⟨_, _, _, l, _, was, is, rfl, HHIT.out, H5.out.pull 2 rfl⟩
        | false =>
          have HHIT := hid (HOK.out.sync n HN.out)
          have hc := log_sync hh H1.out hpe
          clear hpe
          go_wp2_with (go_at_call 12; refine hc.mono ?_; rintro e w5 ⟨rfl, H5⟩; have H5 := hid H5)
          go_meet
          case rel => exact ⟨_, _, _, l, _, was, is, rfl, HHIT.out, H5.out.pull 2 rfl⟩
      case rest =>
        clear hpe H1 HOK HN
        clear l σ was is
        obtain ⟨e, σ, lv, l, lz, was, is, rfl, hit, H⟩ := hcut
        have HIT := hid hit
        have HS := hid H
        clear hit H
        go_upto_region 23 with fail
        go_cut [116] (fun s116 w' => s116 = .bool false ∧ HitAt w w' b d a t0 t1 t2 (.slice awv nw cwv) u11 e)
        case first =>
          rcases HIT.out.way with ⟨rfl, -, -⟩ | ⟨rfl, hlv, -⟩
          · go_wp2_with fail
            go_meet
            case rel => exact ⟨rfl, σ, lv, l, lz, was, is, HIT.out, HS.out⟩
          · subst hlv
            have hadd := log_add (HS.out.pull 1 rfl) ⟨#[]⟩ (Nat.zero_le _)
            rw [lost_add] at hadd
            have hpe : σ.pend.length ≤ 800000000 := Nat.le_trans HIT.out.pend (by omega)
            have HPE := hid hpe
            clear hpe
            go_wp2_with (first
              | (go_at_call 11; refine hadd.mono ?_; rintro e w3 ⟨rfl, H3⟩; have H3 := hid (H3.pull 2 rfl |>.pull 1 rfl); have hs := log_sync hh H3.out HPE.out; rw [lost_sync] at hs)
              | (go_at_call 12; refine hs.mono ?_; rintro e w4 ⟨rfl, H4⟩; have H4 := hid H4; have hr := log_reset hh H4.out HPE.out; rw [lost_reset] at hr)
              | (go_at_call 18; refine hr.mono ?_; rintro e w5 ⟨rfl, H5⟩; have H5 := hid H5))
            go_meet
            case rel => exact ⟨rfl, σ, _, l, lz, was, is, HIT.out, H5.out.pull 2 rfl⟩
        case rest =>
          clear HIT HS
          clear l lv lz σ was is
          obtain ⟨rfl, σ, lv, l, lz, was, is, hit, H⟩ := hcut
          have HIT := hid hit
          have HS := hid (H.pull 2 rfl)
          clear hit H
          have hdw := sd_down HS.out
          have hof := sd_off HS.out
          obtain ⟨dn, hdn⟩ : ∃ dn, σ.down = dn := ⟨_, rfl⟩
          rw [hdn] at hdw
          have HDN := hid hdn
          clear hdn
          go_upto_if 119 with (go_at_call 26; refine hdw.mono ?_; rintro e w3 ⟨rfl, rfl⟩)
          go_cut [] (fun w' => DarkAt w w' d a t0 t1 t2 (.slice awv nw cwv) u11 e)
          case first =>
            rcases HIT.out.way with ⟨rfl, -, -⟩ | ⟨rfl, -, -⟩
            · obtain ⟨h1, h2, h3⟩ := HIT.out.off
              obtain rfl : dn = false := HDN.out.symm.trans h1
              rw [h2] at hof
              have HDK := hid h3
              clear h1 h2 h3
              go_wp2_with (go_at_call 23; refine hof.mono ?_; rintro e w4 ⟨rfl, H4⟩; have H4 := hid H4)
              go_meet
              case rel => exact ⟨_, lz, lz, was, is, HDK.out, (H4.out.pull 2 rfl).drop.pull 1 rfl⟩
            · obtain ⟨h1, h3⟩ := HIT.out.dark
              obtain rfl : dn = true := HDN.out.symm.trans h1
              have HDK := hid h3
              clear h1 h3 hof
              go_wp2_with fail
              go_meet
              case rel => exact ⟨_, l, lz, was, is, HDK.out, (HS.out.pull 2 rfl).drop.pull 1 rfl⟩
          case rest =>
            clear HIT HS hdw hof HDN
            clear l lv lz σ was is
            obtain ⟨σ, la, lz, was, is, dark, H⟩ := hcut
            have HDK := hid dark
            have HS := hid H
            clear dark H
            have HK0 := hid (HS.out.nil 4 1)
            obtain ⟨jb, hj, hjz, hjs, hjb⟩ := info_boolW
            have HJB := hid (And.intro hj (And.intro hjz (And.intro hjs hjb)))
            clear hj hjz hjs hjb HS
            go_wp2_with fail
            go_loopw [16, 122] (fun kv iv wr => ∃ (k : Nat) (bs : List Bool), k ≤ 20 ∧ bs.length = k ∧ iv = .int .i64 (k : Int) ∧ St w wr [slP kv 4 1 k (bs.map Value.bool), slP u11 9 1 is.length (is.map strV), diskP d σ, slP (.slice awv nw cwv) 9 1 was.length (was.map strV), objP a [.int .i64 t0, .int .i64 t1, .int .i64 t2] 53]) (fun _ iv _ => 20 - (intOf iv).toNat)
            case atStart => exact ⟨0, [], Nat.zero_le _, rfl, rfl, HK0.out⟩
            case round =>
              obtain ⟨k, bs, hk, hbl, rfl, hM⟩ := hrel
              clear HK0
              have HH := hid hM
              have HBL := hid hbl
              obtain ⟨akv, ckv, rfl, -, -⟩ := (hM.sl 0 rfl).shape
              clear hM hbl
              by_cases hlt : k < 20
              · have hk20 : (k : Int) < 20 := by omega
                have c2 : wr.cell? ⟨a, 2, none⟩ = some (.int .i64 t2) := (HH.out.obj 4 rfl).cell 2
                have A3 := At.new wr [.bool (bits BinOp.and IntKind.i64 (t2 / 2 ^ k) 1 == 1)] 4
                have H4 := hid (St.quiet HH.out ((Pres.refl [] wr).alloc (.cells #[.bool (bits BinOp.and IntKind.i64 (t2 / 2 ^ k) 1 == 1)] 4)))
                have X3 := St.sl H4.out 0 rfl
                go_wp2_with (((with_reducible refine at_append ?_); go_must (refine wpL_app rfl (.tmp 125) (.tmp 132) 33 33 rfl 4 jb _ 1 Tryd.underlying33 HJB.out.1 HJB.out.2.1 HJB.out.2.2.1 rfl (.slice akv k ckv) k _ rfl X3 1 [.bool (bits BinOp.and IntKind.i64 (t2 / 2 ^ k) 1 == 1)] (Src.at Tryd.underlying33 A3 rfl (by simp [Value.oneCell'])) (by simp only [maxLen]; omega) (by rw [HJB.out.2.2.2]; omega) ?_); intro v5 w5 Y1 Y2 Y3; have H5 := hid (St.grow H4.out 0 rfl Y1 Y2 Y3); clear Y1 Y2 Y3))
                go_roundw
                case rel =>
                  refine ⟨k + 1, bs ++ [bits BinOp.and IntKind.i64 (t2 / 2 ^ k) 1 == 1], by omega, by rw [List.length_append, HBL.out]; rfl, by go_num, ?_⟩
                  rw [List.map_append]
                  exact H5.out
                case measure => first | (simp [intOf]; done) | (simp [intOf]; omega)
              · have hk20 : ¬ (k : Int) < 20 := by omega
                obtain rfl : k = 20 := by omega
                have hon := sd_on (HH.out.pull 2 rfl) (v := .slice akv 20 ckv) (keep := bs) (.inr ⟨0, 4, 20, rfl⟩)
                obtain ⟨h1, m, ho, hm⟩ := HDK.out.on bs
                rw [h1] at hon
                have HO := hid ho
                have HMM := hid hm
                clear h1 ho hm HBL HDK hk hlt
                generalize (σ.on bs).2 = τ at *
                go_wp2_with fail
                refine hon.mono ?_
                rintro e6 w6 ⟨rfl, H6⟩
                have H6 := hid H6
                clear hon HH
                go_wp2_with fail
                refine (wal_open hh H6.out 2 16 (by omega) (by omega) (by omega) (by omega)).mono ?_
                rintro e7 w7 hE
                rw [HO.out] at hE
                obtain ⟨c, rfl, H7⟩ := hE
                have H7 := hid H7
                clear H6
                go_wp2_with fail
                refine (wal_open hh (H7.out.pull 1 rfl) 2 16 (by omega) (by omega) (by omega) (by omega)).mono ?_
                rintro e8 w8 hE
                rw [HO.out] at hE
                obtain ⟨c2, rfl, H8⟩ := hE
                have H8 := hid H8
                clear H7
                go_wp2_with fail
                refine (log_records (H8.out.pull 2 rfl)).mono ?_
                rintro e9 w9 ⟨v9, rfl, H9, -⟩
                have H9 := hid H9
                clear H8
                go_wp2_with fail
                refine (log_records (H9.out.pull 2 rfl)).mono ?_
                rintro e10 w10 ⟨v10, rfl, H10, -⟩
                have H10 := hid H10
                clear H9
                go_wp2_with fail
                have hsm := same_texts w10 v9 v10 m.recs m.recs (H10.out.sl 2 rfl).reads (H10.out.sl 0 rfl).reads
                rw [decide_eq_true rfl] at hsm
                refine hsm.mono ?_
                rintro e11 w11 ⟨rfl, P11⟩
                have H11 := hid (H10.out.quiet P11)
                clear H10 P11 hsm
                go_wp2_with fail
                refine (log_records (H11.out.pull 3 rfl)).mono ?_
                rintro e12 w12 ⟨v12, rfl, H12, -⟩
                have H12 := hid H12
                clear H11
                go_wp2_with fail
                have hsm := same_texts w12 v12 u11 m.recs is (H12.out.sl 0 rfl).reads (H12.out.sl 7 rfl).reads
                by_cases hf : m.recs = is
                · rw [decide_eq_true hf] at hsm
                  clear hf
                  refine hsm.mono ?_
                  rintro e13 w13 ⟨rfl, P13⟩
                  have H13 := hid (H12.out.quiet P13)
                  clear H12 P13 hsm
                  go_wp2_with fail
                  refine (wal_works _ (hh.pres H13.out.pres)).mono ?_
                  rintro e14 w14 ⟨rfl, P14⟩
                  go_wp2
                  go_ret
                  exact ⟨rfl, H13.out.pres.then P14⟩
                · rw [decide_eq_false hf] at hsm
                  obtain ⟨rfl, hwas⟩ : e = 10 ∧ m.recs = was := by
                    rcases HMM.out with h | h
                    · exact absurd h hf
                    · exact h
                  have HW := hid hwas
                  clear hf hwas
                  refine hsm.mono ?_
                  rintro e13 w13 ⟨rfl, P13⟩
                  have H13 := hid (H12.out.quiet P13)
                  clear H12 P13 hsm
                  go_wp2_with fail
                  refine (log_records (H13.out.pull 1 rfl)).mono ?_
                  rintro e14 w14 ⟨v14, rfl, H14, -⟩
                  have H14 := hid H14
                  clear H13
                  go_wp2_with fail
                  have hsm := same_texts w14 v14 (.slice awv nw cwv) m.recs was (H14.out.sl 0 rfl).reads (H14.out.sl 9 rfl).reads
                  rw [decide_eq_true HW.out] at hsm
                  refine hsm.mono ?_
                  rintro e15 w15 ⟨rfl, P15⟩
                  have H15 := hid (H14.out.quiet P15)
                  clear H14 P15 hsm
                  go_wp2_with fail
                  refine (wal_works _ (hh.pres H15.out.pres)).mono ?_
                  rintro e16 w16 ⟨rfl, P16⟩
                  go_wp2
                  go_ret
                  exact ⟨rfl, H15.out.pres.then P16⟩

end Go.Proofs.YtjaabhdgahljcaaDoor
