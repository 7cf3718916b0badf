/- A part of the proof: contracts of functions of this seat, and lemmas. No condition beyond those stated. -/
import Derived.Test.YtfmbadfdbjhekaaDoorWdoa
set_option linter.unusedVariables false
set_option linter.unusedSimpArgs false
set_option linter.unusedSectionVars false
set_option linter.unnecessarySimpa false
set_option maxRecDepth 100000
namespace Go.Proofs
open Go.AM
namespace YtfmbadfdbjhekaaDoor
variable {Gl : Globs}
def upN (l : List NodeT) : Nat → Int → List (List UInt8)
 | 0, _ => []
 | f + 1, i => if 0 ≤ i then nm l i.toNat :: upN l f (par l i.toNat) else []
def pathN (l : List NodeT) (i : Nat) : List (List UInt8) := (upN l (i + 1) i).reverse
def pathF (l : List NodeT) (i : Int) : List (List UInt8) := if checkF l = 0 ∧ 0 ≤ i ∧ i < l.length then pathN l i.toNat else []
end YtfmbadfdbjhekaaDoor
end Go.Proofs
