/- Two closed facts of the program that every row asks. No condition. -/
import Derived.Test.YtjaabhdgahljcaaDoorRows
import Derived.Test.YtjaabhdgahljcaaDoorArgs
import Derived.OpenShut
namespace Go.Proofs.YtjaabhdgahljcaaDoor
open Go.RowKit

theorem own : ownKnob Tryd.prog.godebug = none := by kernel_rfl
theorem laidOut : laidOutB Tryd.prog = true := by kernel_rfl

theorem wf_bounds {n : Int} (h : (Lit.int .i64 n).wf = true) : -9223372036854775808 ≤ n ∧ n ≤ 9223372036854775807 := by
  simp only [Lit.wf, decide_eq_true_eq, Bool.and_eq_true] at h
  exact ⟨h.1, h.2⟩

end Go.Proofs.YtjaabhdgahljcaaDoor
