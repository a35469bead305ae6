/- The chapter's example (works): it returns true; no condition but the table's. -/
import Derived.Test.YtjaabhdgahljcaaDoorWalE
import Derived.Test.YtjaabhdgahljcaaDoorWalF
namespace Go.Proofs.YtjaabhdgahljcaaDoor
open Go.RowKit

def exL0 : Lg := ⟨0, 4, 0, [], [], [], false⟩
def exL1 : Lg := ⟨0, 4, 0, [], [], [[120]], false⟩
def exL2 : Lg := (exL1.sync (Dk.new 4)).2.1
def exD2 : Dk := (exL1.sync (Dk.new 4)).2.2
def exL3 : Lg := ⟨0, 4, 0, frameB [120], [[120]], [], false⟩

theorem ex_open : openLg (Dk.new 4) 0 4 = (0, some exL0) := by kernel_rfl
theorem ex_room0 : exL0.room = 192 := by kernel_rfl
theorem ex_add : exL0.add (⟨#[120]⟩ : ByteArray).data.toList = (0, exL1) := by kernel_rfl
theorem ex_room1 : exL1.room = 183 := by kernel_rfl
theorem ex_sync : (exL1.sync (Dk.new 4)).1 = 0 := by kernel_rfl
theorem ex_open2 : openLg exD2 0 4 = (0, some exL3) := by kernel_rfl
theorem ex_done : exD2.done = 4 := by kernel_rfl

set_option maxRecDepth 100000 in
set_option maxHeartbeats 2000000 in
theorem wal_works (w : World) (hh : HalfAt w) : Calls Tryd.prog 16 #[] w fun e w' => e = .returned (.bool true) ∧ Pres [] w w' := by
  go_enter Tryd.func16, Tryd.ntmps16
  go_wp2_with fail
  refine (sd_new (St.start _) 4 (by omega) (by omega)).mono ?_
  rintro e w1 ⟨d, rfl, H1⟩
  go_wp2_with fail
  refine (wal_open hh H1 0 4 (by omega) (by omega) (by omega) (by omega)).mono ?_
  rintro e w2 hE
  rw [show Int.toNat 4 = 4 from rfl, ex_open] at hE
  obtain ⟨b, rfl, H2⟩ := hE
  have H2 := hid H2
  clear H1
  go_wp2_with fail
  have hr := log_room H2.out
  rw [ex_room0] at hr
  refine hr.mono ?_
  rintro e w3 ⟨rfl, P3⟩
  have H3 := hid (H2.out.quiet P3)
  clear H2 P3 hr
  go_wp2_with fail
  have hr := log_add H3.out ⟨#[120]⟩ (by decide)
  rw [ex_add] at hr
  refine hr.mono ?_
  rintro e w4 ⟨rfl, H4⟩
  have H4 := hid H4
  clear H3 hr
  go_wp2_with fail
  have hr := log_room H4.out
  rw [ex_room1] at hr
  refine hr.mono ?_
  rintro e w5 ⟨rfl, P5⟩
  have H5 := hid (H4.out.quiet P5)
  clear H4 P5 hr
  go_wp2_with fail
  have hr := log_sync hh H5.out (by decide)
  rw [ex_sync] at hr
  refine hr.mono ?_
  rintro e w6 ⟨rfl, H6⟩
  have H6 : Hid (St w w6 [logP b d exL2, diskP d exD2]) := hid H6
  clear H5 hr
  go_wp2_with fail
  refine (wal_open hh (H6.out.pull 1 rfl) 0 4 (by omega) (by omega) (by omega) (by omega)).mono ?_
  rintro e w7 hE
  rw [ex_open2] at hE
  obtain ⟨c, rfl, H7⟩ := hE
  have H7 := hid H7
  clear H6
  go_wp2_with fail
  refine (log_records H7.out).mono ?_
  rintro e w8 ⟨v8, rfl, H8, -⟩
  have H8 := hid H8
  obtain ⟨a8, cap8, cur8, rfl, -⟩ := (H8.out.sl 0 rfl).get (by decide)
  have g8 := sl_cells (H8.out.sl 0 rfl) (j := 0) (x := strV [120]) rfl
  clear H7
  go_wp2_with fail
  have H9 := hid H8.out.drop
  refine (log_records H9.out).mono ?_
  rintro e w9 ⟨v9, rfl, H10, -⟩
  have H10 := hid H10
  obtain ⟨a9, cap9, cur9, rfl, -⟩ := (H10.out.sl 0 rfl).get (by decide)
  have g9 := sl_cells (H10.out.sl 0 rfl) (j := 0) (x := strV [120]) rfl
  clear H8 H9 g8
  have hdn := sd_done (H10.out.pull 2 rfl)
  rw [ex_done] at hdn
  unfold strV at g9
  go_wp2_with fail
  refine hdn.mono ?_
  rintro e w10 ⟨rfl, rfl⟩
  go_wp2
  go_ret
  exact ⟨rfl, H10.out.pres⟩

end Go.Proofs.YtjaabhdgahljcaaDoor
