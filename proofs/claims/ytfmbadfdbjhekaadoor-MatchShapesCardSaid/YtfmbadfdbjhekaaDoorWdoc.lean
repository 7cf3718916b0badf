/- A part of the proof: contracts of functions of this seat, and lemmas. No condition beyond those stated. -/
import Derived.Test.YtfmbadfdbjhekaaDoorWdob
set_option linter.unusedVariables false
set_option linter.unusedSimpArgs false
set_option linter.unusedSectionVars false
set_option linter.unnecessarySimpa false
set_option maxRecDepth 100000
namespace Go.Proofs
open Go.AM
namespace YtfmbadfdbjhekaaDoor
variable {Gl : Globs}
def fdS (at_ : Int) (s : List UInt8) : Sto := [.box 1 (.d (.int .i64 at_)), .box 1 (.d (.str s))]
def pathI (l : List NodeT) (i : Int) : List (List UInt8) := (upN l (i + 1).toNat i).reverse
end YtfmbadfdbjhekaaDoor
end Go.Proofs
