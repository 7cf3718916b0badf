/- A part of the proof: contracts of functions of this seat, and lemmas. No condition beyond those stated. -/
import Derived.Test.YtfmbadfdbjhekaaDoorWdnk
set_option linter.unusedVariables false
set_option linter.unusedSimpArgs false
set_option linter.unusedSectionVars false
set_option linter.unnecessarySimpa false
set_option maxRecDepth 100000
namespace Go.Proofs
open Go.AM
namespace YtfmbadfdbjhekaaDoor
variable {Gl : Globs}
theorem chk_err {a b : List NodeT} {l : List PairT} (h : ¬ (checkF a = 0 ∧ checkF b = 0 ∧ a.length ≤ l.length)) : checkAl a b l = false := by
 rw [Bool.eq_false_iff]
 intro e
 simp only [checkAl, Bool.and_eq_true, decide_eq_true_eq] at e
 exact h ⟨e.1.1.1.1.1, e.1.1.1.1.2, e.1.1.1.2⟩
theorem chk_pre {a b : List NodeT} {l : List PairT} {i : Nat} (hi : i < a.length) (h : preI b.length l i = false) : checkAl a b l = false := by
 rw [Bool.eq_false_iff]
 intro e
 simp only [checkAl, Bool.and_eq_true] at e
 rw [all_bad hi h] at e; cases e.1.1.2
theorem chk_par {a b : List NodeT} {l : List PairT} {i : Nat} (hi : i < a.length) (h : parI a b l i = false) : checkAl a b l = false := by
 rw [Bool.eq_false_iff]
 intro e
 simp only [checkAl, Bool.and_eq_true] at e
 rw [all_bad hi h] at e; cases e.1.2
theorem chk_tail {a b : List NodeT} {l : List PairT} (h : l.drop a.length ≠ tailP (unt l a.length b.length)) : checkAl a b l = false := by
 rw [Bool.eq_false_iff]
 intro e
 simp only [checkAl, Bool.and_eq_true, decide_eq_true_eq] at e
 exact h e.2
theorem chk_all {a b : List NodeT} {l : List PairT} (h1 : checkF a = 0) (h2 : checkF b = 0) (h3 : a.length ≤ l.length) (h4 : (List.range a.length).all (preI b.length l) = true) (h5 : (List.range a.length).all (parI a b l) = true) (h6 : TailOk l a.length b.length) :
  checkAl a b l = decide ((l.drop a.length).length = (unt l a.length b.length).length) := by
 rw [checkAl, h4, h5, decide_eq_true h1, decide_eq_true h2, decide_eq_true h3, Bool.true_and, Bool.true_and, Bool.true_and, Bool.true_and, Bool.true_and, decide_eq_decide]
 exact tail_end h6
def toL (l : List PairT) (i m : Nat) : List D := (List.range m).map fun k : Nat => .int .i64 (toF l i (k : Int))
def tailN (l : List PairT) (n k : Nat) : Nat := n + (unt l n k).length
end YtfmbadfdbjhekaaDoor
end Go.Proofs
