/- A part of the proof: contracts of functions of this seat, and lemmas. No condition beyond those stated. -/
import Derived.Test.YtfmbadfdbjhekaaDoorWdnx
import Derived.Test.YtfmbadfdbjhekaaDoorG4
import Derived.Test.YtfmbadfdbjhekaaDoorRows
import Derived.Test.YtfmbadfdbjhekaaDoorCards
import Derived.Test.YtfmbadfdbjhekaaDoorTie
import Derived.ProofKit
import Derived.LaidMore
import Derived.OpenShut
import Derived.Stop.Joined
import Derived.Stop.LaidErr
import Derived.SevenTiedAt
import Derived.MakeChecks
set_option linter.unusedVariables false
set_option linter.unusedSimpArgs false
set_option linter.unusedSectionVars false
set_option linter.unnecessarySimpa false
set_option maxRecDepth 100000
namespace Go.Proofs
open Go.AM Go.ChangeShapes Go.WideShapes Go.ChangeAt Go.RowKit
namespace YtfmbadfdbjhekaaDoor
variable {Gl : Globs}
theorem own : ownKnob Tryd.prog.godebug = none := by kernel_rfl
theorem laidOut : laidOutB Tryd.prog = true := by kernel_rfl
def laid3 : List (String × DataW Unit) := [("math/bits.deBruijn32tab", Rows.laid_math_bits_deBruijn32tab), ("math/bits.deBruijn64tab", Rows.laid_math_bits_deBruijn64tab), ("internal/strconv.uint64pow10", Rows.laid_internal_strconv_uint64pow10)]
theorem door_met (os : Os) (args : Array Value) : laidMetH Tryd.prog laid3 ((World.doorLaid Tryd.prog 400 os).forCall (fun _ _ => 0) ⟨#[], args, []⟩).memory :=
 laidMetH_of_parts3 (fuel := 8) (laidMet_of_run' 8 (by kernel_rfl) (by kernel_rfl)) (by kernel_rfl) (by kernel_rfl)
theorem node_of {x : D} (h : ConfL [.int .i64, .str, .int .i64, .int .i64, .int .i64] x.cells) (hg : x.isAgg = true) : ∃ b : NodeT, x = b.toD := by
 obtain ⟨_, _, e1, ⟨a0, rfl, _⟩, _, _, rfl, ⟨a1, rfl, _⟩, _, _, rfl, ⟨a2, rfl, _⟩, _, _, rfl, ⟨a3, rfl, _⟩, _, _, rfl, ⟨a4, rfl, _⟩, rfl⟩ := h
 exact ⟨⟨a0, a1, a2, a3, a4⟩, agg_of hg e1⟩
theorem parNodes {x : D} (h : TypedV Tryd.prog 5 22 x) : ∃ l : List NodeT, x = .sl (l.map NodeT.toD) := by
 obtain ⟨xs, rfl, _, hx⟩ := param1_of h (c := .sl [.int .i64, .str, .int .i64, .int .i64, .int .i64] true) (by kernel_rfl) (by kernel_rfl)
 obtain ⟨d, rfl⟩ := list_of fun y hy => node_of (hx y hy).1 (hx y hy).2
 exact ⟨d, rfl⟩
end YtfmbadfdbjhekaaDoor
end Go.Proofs
