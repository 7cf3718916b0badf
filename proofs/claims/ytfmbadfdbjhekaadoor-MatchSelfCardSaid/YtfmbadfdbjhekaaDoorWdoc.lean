/- A part of the proof: contracts of functions of this seat, and lemmas. No condition beyond those stated. -/
import Derived.Test.YtfmbadfdbjhekaaDoorWdob
set_option linter.unusedVariables false
set_option linter.unusedSimpArgs false
set_option linter.unusedSectionVars false
set_option linter.unnecessarySimpa false
set_option maxRecDepth 100000
namespace Go.Proofs
open Go.AM
namespace YtfmbadfdbjhekaaDoor
variable {Gl : Globs}
def fdS (at_ : Int) (s : List UInt8) : Sto := [.box 1 (.d (.int .i64 at_)), .box 1 (.d (.str s))]
def pathI (l : List NodeT) (i : Int) : List (List UInt8) := (upN l (i + 1).toNat i).reverse
theorem pathI_nat (l : List NodeT) (i : Nat) : pathI l i = pathN l i := by
 rw [pathI, pathN, show ((i : Int) + 1).toNat = i + 1 by omega]
theorem pathI_neg (l : List NodeT) {i : Int} (h : i < 0) : pathI l i = [] := by rw [pathI, upN_neg l _ h]; rfl
theorem pathI_kid {l : List NodeT} (ht : TreeUp l l.length) {q : Nat} (hq : q < l.length) : pathI l q = pathI l (par l q) ++ [nm l q] := by
 have tp := tree_par ht hq
 rw [pathI_nat, pathN, upN_nat, List.reverse_cons, pathI, upN_fuel ht (par l q + 1).toNat q (par l q) (by omega) (by omega) (by omega)]
end YtfmbadfdbjhekaaDoor
end Go.Proofs
