/- A part of the proof: contracts of functions of this seat, and lemmas. No condition beyond those stated. -/
import Derived.Test.YtfmbadfdbjhekaaDoorWdni
set_option linter.unusedVariables false
set_option linter.unusedSimpArgs false
set_option linter.unusedSectionVars false
set_option linter.unnecessarySimpa false
set_option maxRecDepth 100000
namespace Go.Proofs
open Go.AM
namespace YtfmbadfdbjhekaaDoor
variable {Gl : Globs}
def pairsA (s : Al) (j : Nat) : List PairT := (List.range j).map fun i : Nat => (⟨(i : Int), s.b i⟩ : PairT)
def pairsB (s : Al) (j : Nat) : List PairT := ((List.range j).filter fun k : Nat => decide (s.a k < 0)).map fun k : Nat => (⟨-1, (k : Int)⟩ : PairT)
def pairsOf (a b : List NodeT) : List PairT := pairsA (finS a b) a.length ++ pairsB (finS a b) b.length
theorem pairsA_step (s : Al) (j : Nat) : pairsA s (j + 1) = pairsA s j ++ [⟨j, s.b j⟩] := by
 rw [pairsA, List.range_succ, List.map_append]; rfl
theorem pairsA_len (s : Al) (j : Nat) : (pairsA s j).length = j := by simp [pairsA]
theorem pairsB_step (s : Al) (j : Nat) : pairsB s (j + 1) = pairsB s j ++ if s.a j < 0 then [⟨-1, j⟩] else [] := by
 rw [pairsB, List.range_succ, List.filter_append, List.map_append]
 congr 1
 by_cases e : s.a j < 0
 ·rw [if_pos e, List.filter_cons_of_pos (by simpa using e)]; rfl
 ·rw [if_neg e, List.filter_cons_of_neg (by simpa using e)]; rfl
theorem pairsB_len (s : Al) (j : Nat) : (pairsB s j).length ≤ j := by
 rw [pairsB, List.length_map]
 exact Nat.le_trans (List.length_filter_le _ _) (by simp)
def pairsC (t : Al) (n j : Nat) : List PairT := pairsA t n ++ pairsB t j
theorem pairsC_0 (t : Al) (n : Nat) : pairsC t n 0 = pairsA t n := by rw [pairsC, show pairsB t 0 = [] from rfl, List.append_nil]
theorem pairsC_step (t : Al) (n j : Nat) : pairsC t n (j + 1) = if t.a j < 0 then pairsC t n j ++ [⟨-1, j⟩] else pairsC t n j := by
 rw [pairsC, pairsB_step]
 by_cases e : t.a j < 0
 ·rw [if_pos e, if_pos e, pairsC, List.append_assoc]
 ·rw [if_neg e, if_neg e, pairsC, List.append_nil]
theorem pairsC_len (t : Al) (n j : Nat) : (pairsC t n j).length ≤ n + j := by
 have := pairsB_len t j
 rw [pairsC, List.length_append, pairsA_len]; omega
def ofF (a b : List NodeT) : List PairT × Int := if checkF a = 0 then (if checkF b = 0 then (pairsOf a b, 0) else ([], checkF b)) else ([], checkF a)
def ofD (a b : List NodeT) : AV := .tup [.d (.sl ((ofF a b).1.map PairT.toD)), .d (.int .i64 (ofF a b).2)]
theorem ini_sz (a b : List NodeT) : Sz a b (iniS a.length b.length) := by simp [Sz, iniS]
end YtfmbadfdbjhekaaDoor
end Go.Proofs
