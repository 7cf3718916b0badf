/- A part of the proof: contracts of functions of this seat, and lemmas. No condition beyond those stated. -/
import Derived.Test.YtfmbadfdbjhekaaDoorWdoa
set_option linter.unusedVariables false
set_option linter.unusedSimpArgs false
set_option linter.unusedSectionVars false
set_option linter.unnecessarySimpa false
set_option maxRecDepth 100000
namespace Go.Proofs
open Go.AM
namespace YtfmbadfdbjhekaaDoor
variable {Gl : Globs}
def upN (l : List NodeT) : Nat → Int → List (List UInt8)
 | 0, _ => []
 | f + 1, i => if 0 ≤ i then nm l i.toNat :: upN l f (par l i.toNat) else []
theorem upN_neg (l : List NodeT) (f : Nat) {i : Int} (h : i < 0) : upN l f i = [] := by
 cases f with
 | zero => rfl
 | succ f => rw [upN, if_neg (by omega)]
theorem upN_nat (l : List NodeT) (f i : Nat) : upN l (f + 1) i = nm l i :: upN l f (par l i) := by
 rw [upN, if_pos (by omega), Int.toNat_natCast]
theorem upN_fuel {l : List NodeT} (h : TreeUp l l.length) : ∀ (f g : Nat) (i : Int), i < l.length → i < f → i < g → upN l f i = upN l g i := by
 intro f
 induction f with
 | zero =>
  intro g i hi hf hg
  rw [upN_neg l _ (by omega), upN_neg l _ (by omega)]
 | succ f ih =>
  intro g i hi hf hg
  cases g with
  | zero => rw [upN_neg l _ (by omega), upN_neg l _ (by omega)]
  | succ g =>
   by_cases h0 : 0 ≤ i
   ·obtain ⟨k, rfl⟩ : ∃ k : Nat, i = k := ⟨i.toNat, by omega⟩
    have tp := tree_par h (show k < l.length by omega)
    rw [upN_nat, upN_nat, ih g (par l k) (by omega) (by omega) (by omega)]
   ·rw [upN_neg l _ (by omega), upN_neg l _ (by omega)]
def pathN (l : List NodeT) (i : Nat) : List (List UInt8) := (upN l (i + 1) i).reverse
def pathF (l : List NodeT) (i : Int) : List (List UInt8) := if checkF l = 0 ∧ 0 ≤ i ∧ i < l.length then pathN l i.toNat else []
end YtfmbadfdbjhekaaDoor
end Go.Proofs
