/- A part of the proof: contracts of functions of this seat, and lemmas. No condition beyond those stated. -/
import Derived.Test.YtfmbadfdbjhekaaDoorWdny
set_option linter.unusedVariables false
set_option linter.unusedSimpArgs false
set_option linter.unusedSectionVars false
set_option linter.unnecessarySimpa false
set_option maxRecDepth 100000
namespace Go.Proofs
open Go.AM Go.ChangeShapes Go.WideShapes Go.ChangeAt Go.RowKit
namespace YtfmbadfdbjhekaaDoor
variable {Gl : Globs}
theorem ofF_len (a b : List NodeT) (ha : a.length ≤ 100) (hb : b.length ≤ 100) : (ofF a b).1.length ≤ 200 := by
 unfold ofF
 split
 ·split
  ·have := pairsC_len (finS a b) a.length b.length
   show (pairsC (finS a b) a.length b.length).length ≤ 200
   omega
  ·exact Nat.zero_le _
 ·exact Nat.zero_le _
end YtfmbadfdbjhekaaDoor
end Go.Proofs
