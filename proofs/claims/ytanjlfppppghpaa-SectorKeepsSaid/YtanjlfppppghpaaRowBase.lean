/- Two closed facts of the program that every row asks. No condition. -/
import Derived.Test.YtanjlfppppghpaaRows
import Derived.Test.YtanjlfppppghpaaArgs
import Derived.OpenShut
namespace Go.Proofs.Ytanjlfppppghpaa
open Go.RowKit

theorem own : ownKnob Try.prog.godebug = none := by kernel_rfl
theorem laidOut : laidOutB Try.prog = true := by kernel_rfl

end Go.Proofs.Ytanjlfppppghpaa
