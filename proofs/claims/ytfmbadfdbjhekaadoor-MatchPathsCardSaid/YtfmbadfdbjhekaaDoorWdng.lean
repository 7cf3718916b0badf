/- A part of the proof: contracts of functions of this seat, and lemmas. No condition beyond those stated. -/
import Derived.Test.YtfmbadfdbjhekaaDoorWdnf
set_option linter.unusedVariables false
set_option linter.unusedSimpArgs false
set_option linter.unusedSectionVars false
set_option linter.unnecessarySimpa false
set_option maxRecDepth 100000
namespace Go.Proofs
open Go.AM
namespace YtfmbadfdbjhekaaDoor
variable {Gl : Globs}
def stR (a b : List NodeT) (s : Al) : Sto := [.box 4 (.agg [.d (.sl (a.map NodeT.toD)), .d (.sl (b.map NodeT.toD)), .osl 1 0 a.length, .osl 2 0 b.length]), .arr 1 (s.toB.map (.int .i64)), .arr 1 (s.toA.map (.int .i64))]
def Sz (a b : List NodeT) (s : Al) : Prop := s.toB.length = a.length ∧ s.toA.length = b.length
theorem Sz.op {a b : List NodeT} {s : Al} (h : Sz a b s) (p : Nat) (o : Option Nat) : Sz a b (opS s p o) := by
 have := op_len s p o
 exact ⟨this.1.trans h.1, this.2.trans h.2⟩
theorem b_get {s : Al} {p : Nat} (h : p < s.toB.length) : (s.toB.map (D.int .i64)).getD p default = .int .i64 (s.b p) := by
 simp [Al.b, h]
end YtfmbadfdbjhekaaDoor
end Go.Proofs
