/- A part of the proof: contracts of functions of this seat, and lemmas. No condition beyond those stated. -/
import Derived.Test.YtadfcljoocjhdaaGreatWtts
import Derived.Test.YtadfcljoocjhdaaGreatG4
import Derived.Test.YtadfcljoocjhdaaGreatRows
import Derived.OpenShut
import Derived.WalkKit
set_option linter.unusedVariables false
set_option linter.unusedSimpArgs false
set_option linter.unusedSectionVars false
set_option linter.unnecessarySimpa false
set_option maxRecDepth 100000
namespace Go.Proofs
open Go.AM Go.ChangeShapes Go.WideShapes Go.ChangeAt Go.RowKit
namespace YtadfcljoocjhdaaGreat
variable {Gl : Globs}
theorem own : ownKnob Tryz.prog.godebug = none := by kernel_rfl
theorem laidOut : laidOutB Tryz.prog = true := by kernel_rfl
end YtadfcljoocjhdaaGreat
end Go.Proofs
