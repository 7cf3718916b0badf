/- A part of the proof: contracts of functions of this seat, and lemmas. No condition beyond those stated. -/
import Derived.Test.YtfmbadfdbjhekaaDoorWdnz
import Derived.Test.YtfmbadfdbjhekaaDoorWdod
set_option linter.unusedVariables false
set_option linter.unusedSimpArgs false
set_option linter.unusedSectionVars false
set_option linter.unnecessarySimpa false
set_option maxRecDepth 100000
namespace Go.Proofs
open Go.AM Go.ChangeShapes Go.WideShapes Go.ChangeAt Go.RowKit
namespace YtfmbadfdbjhekaaDoor
variable {Gl : Globs}
end YtfmbadfdbjhekaaDoor
end Go.Proofs
