/- What the rows' condition gives the walks: the table of half bytes, cell by cell; and that the door's own heap meets it. -/
import Derived.Test.YtjaabhdgahljcaaDoorRowBase
import Derived.Test.YtjaabhdgahljcaaDoorCrc
import Derived.ProofKit
import Derived.LaidMore
import Derived.OpenShut
import Derived.Stop.Joined
namespace Go.Proofs.YtjaabhdgahljcaaDoor
open Go.ChangeShapes Go.WideShapes Go.ChangeAt Go.RowKit

/-- What the rows list. -/
def laidHalf : List (String × DataW Unit) := [("aquifer/castagnoli.half", Rows.laid_aquifer_castagnoli_half)]

theorem gHalf : Tryd.prog.globalNamed "aquifer/castagnoli.half" = some 1 := by kernel_rfl
theorem tHalf : (Tryd.prog.globals[1]?).map (·.type) = some 133 := by kernel_rfl

theorem door_met (os : Os) (args : Array Value) : laidMetH Tryd.prog laidHalf ((World.doorLaid Tryd.prog 400 os).forCall (fun _ _ => 0) ⟨#[], args, []⟩).memory :=
  laidMetH_of_parts3 (fuel := 8) (laidMet_of_run' 8 (by kernel_rfl) (by kernel_rfl)) (by kernel_rfl) (by kernel_rfl)

theorem half_data (i : Nat) (h : i < 16) : ∃ l, Rows.laid_aquifer_castagnoli_half (H := Unit) = .agg l ∧ l.length = 16 ∧ l[i]? = some (.lit (.int .u32 ((half.getD i 0 : Nat) : Int))) := by
  refine ⟨_, rfl, rfl, ?_⟩
  match i, h with
  | 0, _ | 1, _ | 2, _ | 3, _ | 4, _ | 5, _ | 6, _ | 7, _ | 8, _ | 9, _ | 10, _ | 11, _ | 12, _ | 13, _ | 14, _ | 15, _ => rfl
  | n + 16, h => exact absurd h (by omega)

theorem of_laid {W : World} (h : laidMetH Tryd.prog laidHalf W) : HalfAt W := by
  rw [MakeChecks.laidMetH_plain _ _ _ (by kernel_rfl)] at h
  obtain ⟨ps, ⟨g0, t0, cs0, f0, p0, q0, hg0, ht0, hv0, hd0, _, _⟩, _, _⟩ := h
  obtain rfl := Option.some.inj (gHalf.symm.trans hg0)
  obtain rfl := Option.some.inj (tHalf.symm.trans ht0)
  obtain ⟨xs, m1, rfl, hx1, hlen, hn3, hel⟩ := DataW.trod_array Tryd.underlying133 hd0
  have c3 : Tryd.prog.cellsOf 122 = 1 := by kernel_rfl
  intro i hi
  obtain ⟨l, hl, -, hli⟩ := half_data i hi
  have he := hel i hi
  simp only [Prod.mk.injEq, hl, DataW.agg.injEq] at hx1
  have hxl := hx1.1
  rw [hxl, List.getElem?_map] at hli
  cases hxi : xs[i]? with
  | none => rw [hxi] at hli; cases hli
  | some x =>
    rw [hxi] at hli he
    simp only [Option.map_some, Option.some.injEq] at hli
    obtain ⟨k, e1, e2, -⟩ := DataW.trod_int Tryd.underlying122 he
    rw [e2] at hli
    cases hli
    have hcell := World.var?_cell hg0 hv0 i
    rw [hcell]
    rw [c3, Nat.mul_one] at e1
    have h1 : (cs0.toList.drop i)[0]? = some (.int .u32 ((half.getD i 0 : Nat) : Int)) := by
      cases hd : cs0.toList.drop i with
      | nil => rw [hd] at e1; simp at e1
      | cons y ys => rw [hd] at e1; simp at e1; simp [e1]
    rw [List.getElem?_drop, Nat.add_zero, Array.getElem?_toList] at h1
    exact h1

end Go.Proofs.YtjaabhdgahljcaaDoor
