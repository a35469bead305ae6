/- The small methods of a disk: each returns what Dk says; all conditions stand in DiskAt. -/
import Derived.Test.YtjaabhdgahljcaaDoorDisk
import Derived.Test.YtjaabhdgahljcaaDoorChecked
import Derived.Outline
namespace Go.Proofs.YtjaabhdgahljcaaDoor
open Go.RowKit

theorem ret_i {k : IntKind} {a b : Int} (h : a = b) : Ending.returned (.int k a) = .returned (.int k b) := by rw [h]

theorem disk_none {w : World} {d : Nat} {fp : List Nat} {σ : Dk} (h : DiskAt w d fp σ) :
    Calls Tryd.prog 51 #[.pointer (some ⟨d, 0, none⟩)] w fun e w' => e = .returned (.bool false) ∧ w = w' := by
  obtain ⟨kb, pv, -, -, -, -, hd, -, -, ok⟩ := h
  have h0 := hd.cell 0
  simp only [diskCells, List.getElem?_cons_zero] at h0
  have hp := ok.pos
  have hz : ((σ.kept.length : Int) == 0) = false := by rw [beq_eq_false_iff_ne]; omega
  clear ok
  go_enter Tryd.func51, Tryd.ntmps51
  go_wp2
  go_ret
  exact ⟨rfl, rfl⟩

theorem disk_up {w : World} {d : Nat} {fp : List Nat} {σ : Dk} (h : DiskAt w d fp σ) :
    Calls Tryd.prog 40 #[.pointer (some ⟨d, 0, none⟩)] w fun e w' => e = .returned (.int .i64 σ.up) ∧ w = w' := by
  have hn := fun W (hW : W = w) => hW ▸ disk_none h
  obtain ⟨kb, pv, -, -, -, -, hd, -, -, ok⟩ := h
  have h2 := hd.cell 2
  simp only [diskCells, List.getElem?_cons_succ, List.getElem?_cons_zero] at h2
  clear ok
  unfold Dk.up
  cases hdn : σ.down
  all_goals
    rw [hdn] at h2
    clear hd
    go_enter Tryd.func40, Tryd.ntmps40
    go_wp2_with (go_at_call 51; refine (hn _ rfl).mono ?_; rintro e w' ⟨rfl, rfl⟩)
    go_ret
    exact ⟨rfl, rfl⟩

theorem disk_is {w : World} {d : Nat} {fp : List Nat} {σ : Dk} (h : DiskAt w d fp σ) (i : Int) :
    Calls Tryd.prog 41 #[.pointer (some ⟨d, 0, none⟩), .int .i64 i] w fun e w' => e = .returned (.bool (σ.has i)) ∧ w = w' := by
  obtain ⟨kb, pv, -, -, -, -, hd, -, -, ok⟩ := h
  have h0 := hd.cell 0
  simp only [diskCells, List.getElem?_cons_zero] at h0
  clear ok hd
  unfold Dk.has
  by_cases hi : 0 ≤ i
  · have e : decide (0 ≤ i) = true := by simpa using hi
    rw [e, Bool.true_and]
    go_enter Tryd.func41, Tryd.ntmps41
    go_wp2
    all_goals
      go_ret
      exact ⟨rfl, rfl⟩
  · have e : decide (0 ≤ i) = false := by simpa using hi
    rw [e, Bool.false_and]
    go_enter Tryd.func41, Tryd.ntmps41
    go_wp2
    go_ret
    exact ⟨rfl, rfl⟩

end Go.Proofs.YtjaabhdgahljcaaDoor
