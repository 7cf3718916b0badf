/- A part of the proof: contracts of functions of this seat, and lemmas. No condition beyond those stated. -/
import Derived.Test.YtfmbadfdbjhekaaDoorWdne
set_option linter.unusedVariables false
set_option linter.unusedSimpArgs false
set_option linter.unusedSectionVars false
set_option linter.unnecessarySimpa false
set_option maxRecDepth 100000
namespace Go.Proofs
open Go.AM
namespace YtfmbadfdbjhekaaDoor
variable {Gl : Globs}
def depthF (l : List NodeT) (a k : Nat) : Nat := if upW l a k = true then depW l a l.length k else 0
theorem name_len {l : List NodeT} (h : checkF l = 0) {k : Nat} (hk : k < l.length) : (nm l k).length ≤ 40 := by
 obtain ⟨_, h2, _⟩ := checkF_ok h
 have h0 : firstErr (fun k => nodeE (l.getD k default)) l.length = 0 := by
  unfold rangesF at h2
  split at h2
  ·assumption
  ·contradiction
 have := (nodeE_ok (firstErr_zero h0 k hk)).1
 have hb : nameB (nm l k) = true := by
  unfold nameF at this
  split at this
  ·assumption
  ·omega
 simp only [nameB, Bool.and_eq_true, decide_eq_true_eq] at hb
 exact hb.1.2
def belowTo (l : List NodeT) (i j : Nat) : List Nat := (List.range j).filter fun k => decide (i < k) && upW l i k
def shTo (l : List NodeT) (i j : Nat) : List (List UInt8) := (belowTo l i j).map fun k => txtN (depW l i l.length k) ++ 32 :: nm l k
theorem shTo_len (l : List NodeT) (i j : Nat) : (shTo l i j).length ≤ j := by
 simp only [shTo, List.length_map, belowTo]
 exact Nat.le_trans (List.length_filter_le _ _) (by simp)
def kidsN (l : List NodeT) (p : Int) (j : Nat) : List Nat := (List.range j).filter fun k => par l k == p
theorem kidsN_step (l : List NodeT) (p : Int) (j : Nat) : kidsN l p (j + 1) = kidsN l p j ++ if par l j = p then [j] else [] := by
 rw [kidsN, List.range_succ, List.filter_append]
 congr 1
 by_cases e : par l j = p
 ·simp [e]
 ·simp [e]
theorem kidsN_len (l : List NodeT) (p : Int) (j : Nat) : (kidsN l p j).length ≤ j := by
 rw [kidsN]
 exact Nat.le_trans (List.length_filter_le _ _) (by simp)
def intD (k : Nat) : D := .int .i64 k
def idxD (l : List Nat) : D := .sl (l.map intD)
end YtfmbadfdbjhekaaDoor
end Go.Proofs
