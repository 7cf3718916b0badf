/- A part of the proof: contracts of functions of this seat, and lemmas. No condition beyond those stated. -/
import Derived.Test.YtadfcljoocjhdaaGreatWttr
import Derived.Test.YtadfcljoocjhdaaGreatWtx
set_option linter.unusedVariables false
set_option linter.unusedSimpArgs false
set_option linter.unusedSectionVars false
set_option linter.unnecessarySimpa false
set_option maxRecDepth 100000
namespace Go.Proofs
open Go.AM
namespace YtadfcljoocjhdaaGreat
variable {Gl : Globs}
def kindF (nm : List UInt8) : Int := if (nm == [110, 97, 109, 101] || nm == [108, 101, 97, 102]) = true then 3 else if (nm == [111, 112, 101, 110] || nm == [108, 105, 118, 101]) = true then 1 else 2
def kcols (l : List (List UInt8)) : List ColT := l.map fun nm => ⟨nm, kindF nm⟩
end YtadfcljoocjhdaaGreat
end Go.Proofs
