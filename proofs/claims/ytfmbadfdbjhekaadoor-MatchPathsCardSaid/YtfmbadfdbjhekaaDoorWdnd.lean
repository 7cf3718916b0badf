/- A part of the proof: contracts of functions of this seat, and lemmas. No condition beyond those stated. -/
import Derived.Test.YtfmbadfdbjhekaaDoorWdnc
set_option linter.unusedVariables false
set_option linter.unusedSimpArgs false
set_option linter.unusedSectionVars false
set_option linter.unnecessarySimpa false
set_option maxRecDepth 100000
namespace Go.Proofs
open Go.AM
namespace YtfmbadfdbjhekaaDoor
variable {Gl : Globs}
def kidsTo (l : List NodeT) (i j : Nat) : List Nat := (List.range j).filter fun k => par l k == (i : Int)
def sumTo (l : List NodeT) (i j : Nat) : Int := W64 (sf l i + ((kidsTo l i j).map (tt l)).sum)
end YtfmbadfdbjhekaaDoor
end Go.Proofs
