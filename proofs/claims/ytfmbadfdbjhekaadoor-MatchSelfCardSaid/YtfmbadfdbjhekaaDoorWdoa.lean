/- A part of the proof: contracts of functions of this seat, and lemmas. No condition beyond those stated. -/
import Derived.Test.YtfmbadfdbjhekaaDoorWdnx
set_option linter.unusedVariables false
set_option linter.unusedSimpArgs false
set_option linter.unusedSectionVars false
set_option linter.unnecessarySimpa false
set_option maxRecDepth 100000
namespace Go.Proofs
open Go.AM
namespace YtfmbadfdbjhekaaDoor
variable {Gl : Globs}
def rvL (xs : List (List UInt8)) (k : Nat) : List D := (List.range xs.length).map fun p => .str (if p < k ∨ xs.length ≤ p + k then xs.getD (xs.length - 1 - p) [] else xs.getD p [])
end YtfmbadfdbjhekaaDoor
end Go.Proofs
