/- A part of the proof: contracts of functions of this seat, and lemmas. No condition beyond those stated. -/
import Derived.Test.YtfmbadfdbjhekaaDoorWdoh
set_option linter.unusedVariables false
set_option linter.unusedSimpArgs false
set_option linter.unusedSectionVars false
set_option linter.unnecessarySimpa false
set_option maxRecDepth 100000
namespace Go.Proofs
open Go.AM Go.ChangeShapes Go.WideShapes Go.ChangeAt Go.RowKit
namespace YtfmbadfdbjhekaaDoor
variable {Gl : Globs}
theorem matchShape_main (xs : List D) (h : TypedAll Tryd.prog 5 Tryd.f7.params.toList xs) : ACalls Tryd.prog [] 7 (xs.map AV.d) [] (fun r _ => r = .d (.bool true)) := by
 rw [Tryd.params7] at h
 obtain ⟨x, _, rfl, h1, y, _, rfl, h2, rfl⟩ := h
 obtain ⟨a, rfl⟩ := parNodes h1
 obtain ⟨i, rfl, _⟩ := parInt h2
 exact (k_LShape a i []).mono fun r s h => h.1
end YtfmbadfdbjhekaaDoor
end Go.Proofs
