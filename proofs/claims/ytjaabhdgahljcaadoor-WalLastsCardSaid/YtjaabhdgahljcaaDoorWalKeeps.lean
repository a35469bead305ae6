/- WalKeeps: the walk: what was synced is there behind any loss of power; whatever calls and marks come in. -/
import Derived.Test.YtjaabhdgahljcaaDoorWalSteps2
namespace Go.Proofs.YtjaabhdgahljcaaDoor
open Go.RowKit
set_option maxRecDepth 100000

theorem stepOk_zero : StepOk (Dk.new 20) logZ 0 := ⟨sat_zero, rfl, rfl, rfl, Nat.le_refl _, by simp [Dk.new]⟩

theorem Sat.off {σ : Dk} {l : Lg} (S : Sat σ l) : σ.off.1 = 0 ∧ Torn σ.off.2 l l := by
  have hok := Dk.off_ok S.ok
  have e : σ.off = (0, { σ with down := true }) := by unfold Dk.off; rw [S.down]; rfl
  rw [e] at hok ⊢
  refine ⟨rfl, hok, rfl, S.room, fun ps hps => .inl ?_⟩
  simp only [S.pend] at hps
  obtain rfl := List.eq_nil_of_sublist_nil hps
  exact S.fits

theorem Sat.back {σ : Dk} {l : Lg} (S : Sat σ l) (keep : List Bool) : (σ.off.2.on keep).1 = 0 ∧ Sat (σ.off.2.on keep).2 l := by
  obtain ⟨h1, -, h2⟩ := S.off.2.on S.log S.log S.lost S.lost rfl rfl keep
  exact ⟨h1, h2.elim id id⟩

set_option maxHeartbeats 4000000 in
theorem wal_keeps_walk (w : World) (hh : HalfAt w) (v kv : Value) (acts : List ActD) (keep : List Bool) (ha : ActsAt w v acts) (hk : Reads w kv (keep.map Value.bool)) :
    Calls Tryd.prog 5 #[v, kv] w fun e w' => e = .returned (.bool true) ∧ Pres [] w w' := by
  have HA := hid ha
  have HK := hid hk
  clear ha hk
  go_enter Tryd.func5, Tryd.ntmps5
  go_wp2_with fail
  refine (begin_wal _ hh).mono ?_
  rintro e w1 ⟨d, b, rfl, H1⟩
  have H1 := hid H1
  go_wp2_with fail
  have hst := steps_ok hh H1.out stepOk_zero rfl rfl v acts HA.out 40 (by omega)
  refine hst.mono ?_
  rintro e w2 ⟨l, σ, rv, rfl, ok, H2⟩
  have H2 := hid H2
  have OK := hid ok
  clear hst H1 ok
  go_wp2_with fail
  refine (log_records (H2.out.pull 1 rfl)).mono ?_
  rintro e w3 ⟨v3, rfl, H3, -⟩
  have H3 := hid H3
  clear H2
  go_wp2_with fail
  have hsm := same_texts w3 v3 rv l.recs l.recs (H3.out.sl 0 rfl).reads (H3.out.sl 2 rfl).reads
  rw [decide_eq_true rfl] at hsm
  refine hsm.mono ?_
  rintro e w4 ⟨rfl, P4⟩
  have H4 := hid (H3.out.quiet P4)
  clear H3 P4 hsm
  go_wp2_with fail
  have hof := sd_off (H4.out.pull 3 rfl)
  have hs := OK.out.sat.off
  rw [hs.1] at hof
  refine hof.mono ?_
  rintro e w5 ⟨rfl, H5⟩
  have H5 := hid H5
  clear hof H4
  go_wp2_with fail
  have hon := sd_on H5.out (v := kv) (keep := keep) (.inl HK.out)
  have hb := OK.out.sat.back keep
  rw [hb.1] at hon
  have HS := hid hb.2
  generalize (σ.off.2.on keep).2 = τ at *
  refine hon.mono ?_
  rintro e w6 ⟨rfl, H6⟩
  have H6 := hid H6
  clear hon hb hs H5
  go_wp2_with fail
  have hop := HS.out.open
  rw [OK.out.base, OK.out.n] at hop
  refine (wal_open hh H6.out 2 16 (by omega) (by omega) (by omega) (by omega)).mono ?_
  rintro e w7 hE
  rw [show openLg τ 2 16 = (0, some l.still) from hop] at hE
  obtain ⟨c, rfl, H7⟩ := hE
  have H7 := hid H7
  clear H6 hop
  go_wp2_with fail
  refine (log_records H7.out).mono ?_
  rintro e w8 ⟨v8, rfl, H8, -⟩
  have H8 := hid H8
  clear H7
  go_wp2_with fail
  have hsm := same_texts w8 v8 rv l.recs l.recs (H8.out.sl 0 rfl).reads (H8.out.sl 5 rfl).reads
  rw [decide_eq_true rfl] at hsm
  refine hsm.mono ?_
  rintro e w9 ⟨rfl, P9⟩
  have H9 := hid (H8.out.quiet P9)
  clear H8 P9 hsm
  go_wp2_with fail
  have hwt := log_waiting (H9.out.pull 1 rfl)
  rw [show ((l.still.waiting.length : Nat) : Int) = 0 from rfl] at hwt
  refine hwt.mono ?_
  rintro e w10 ⟨rfl, rfl⟩
  go_wp2_with fail
  refine (wal_works _ (hh.pres H9.out.pres)).mono ?_
  rintro e w11 ⟨rfl, P11⟩
  go_wp2
  go_ret
  exact ⟨rfl, H9.out.pres.then P11⟩

end Go.Proofs.YtjaabhdgahljcaaDoor
