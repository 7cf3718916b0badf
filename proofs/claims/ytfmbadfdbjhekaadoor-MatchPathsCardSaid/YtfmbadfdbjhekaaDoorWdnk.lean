/- A part of the proof: contracts of functions of this seat, and lemmas. No condition beyond those stated. -/
import Derived.Test.YtfmbadfdbjhekaaDoorWdnj
set_option linter.unusedVariables false
set_option linter.unusedSimpArgs false
set_option linter.unusedSectionVars false
set_option linter.unnecessarySimpa false
set_option maxRecDepth 100000
namespace Go.Proofs
open Go.AM
namespace YtfmbadfdbjhekaaDoor
variable {Gl : Globs}
def pa (l : List PairT) (i : Nat) : Int := (l.getD i default).a
def pb (l : List PairT) (i : Nat) : Int := (l.getD i default).b
def tkn (l : List PairT) (i : Nat) (k : Int) : Bool := (List.range i).any fun j => pb l j == k
def preI (m : Nat) (l : List PairT) (i : Nat) : Bool := pa l i == (i : Int) && decide (-1 ≤ pb l i) && decide (pb l i < m) && (decide (pb l i < 0) || !tkn l i (pb l i))
def parB (l : List PairT) (up other : Int) : Bool := ((up == -1) == (other == -1)) && ((if up = -1 then -1 else pb l up.toNat) == other)
def parI (a b : List NodeT) (l : List PairT) (i : Nat) : Bool := decide (pb l i < 0) || parB l (par a i) (par b (pb l i).toNat)
def unt (l : List PairT) (n j : Nat) : List Nat := (List.range j).filter fun k : Nat => !tkn l n k
def tailP (us : List Nat) : List PairT := us.map fun k : Nat => (⟨-1, (k : Int)⟩ : PairT)
def checkAl (a b : List NodeT) (l : List PairT) : Bool := decide (checkF a = 0) && decide (checkF b = 0) && decide (a.length ≤ l.length) && (List.range a.length).all (preI b.length l) && (List.range a.length).all (parI a b l) && decide (l.drop a.length = tailP (unt l a.length b.length))
theorem all_step (P : Nat → Bool) (j : Nat) : (List.range (j + 1)).all P = ((List.range j).all P && P j) := by rw [List.range_succ, List.all_append]; simp
theorem any_step (P : Nat → Bool) (j : Nat) : (List.range (j + 1)).any P = ((List.range j).any P || P j) := by rw [List.range_succ, List.any_append]; simp
theorem all_bad {P : Nat → Bool} {n j : Nat} (hj : j < n) (h : P j = false) : (List.range n).all P = false := by
 rw [List.all_eq_false]; exact ⟨j, by simpa using hj, by simp [h]⟩
theorem tkn_step (l : List PairT) (i : Nat) (k : Int) : tkn l (i + 1) k = (tkn l i k || (pb l i == k)) := any_step _ _
theorem unt_step (l : List PairT) (n j : Nat) : unt l n (j + 1) = unt l n j ++ if tkn l n j = true then [] else [j] := by
 rw [unt, List.range_succ, List.filter_append]
 congr 1
 by_cases e : tkn l n j = true
 ·rw [if_pos e, List.filter_cons_of_neg (by simp [e])]; rfl
 ·rw [if_neg e, List.filter_cons_of_pos (by simpa using e)]; rfl
theorem unt_len (l : List PairT) (n j : Nat) : (unt l n j).length ≤ j := Nat.le_trans (List.length_filter_le _ _) (by simp)
theorem unt_pre (l : List PairT) (n : Nat) {j m : Nat} (h : j ≤ m) : ∃ t, unt l n m = unt l n j ++ t := by
 induction m with
 | zero => exact ⟨[], by rw [show j = 0 by omega]; rfl⟩
 | succ m ih =>
  by_cases e : j = m + 1
  ·exact ⟨[], by rw [e]; simp⟩
  ·obtain ⟨t, ht⟩ := ih (by omega)
   rw [unt_step, ht, List.append_assoc]
   exact ⟨_, rfl⟩
def TailOk (l : List PairT) (n j : Nat) : Prop := (unt l n j).length ≤ (l.drop n).length ∧ (l.drop n).take (unt l n j).length = tailP (unt l n j)
theorem tail_zero (l : List PairT) (n : Nat) : TailOk l n 0 := ⟨Nat.zero_le _, rfl⟩
theorem tail_skip {l : List PairT} {n j : Nat} (h : TailOk l n j) (ht : tkn l n j = true) : TailOk l n (j + 1) := by
 unfold TailOk at *
 rw [unt_step, if_pos ht, List.append_nil]; exact h
theorem tail_next {l : List PairT} {n j : Nat} (h : TailOk l n j) (ht : tkn l n j = false) (hl : n + (unt l n j).length < l.length) (he : l.getD (n + (unt l n j).length) default = ⟨-1, j⟩) : TailOk l n (j + 1) := by
 unfold TailOk at *
 rw [unt_step, if_neg (by rw [ht]; simp)]
 have hd : (unt l n j).length < (l.drop n).length := by rw [List.length_drop]; omega
 have e : (l.drop n).getD (unt l n j).length default = ⟨-1, j⟩ := by
  rw [← he]; simp [List.getD_eq_getElem?_getD, List.getElem?_drop]
 refine ⟨by simp; simp at hd; omega, ?_⟩
 rw [List.length_append, List.length_singleton, take_step _ _ hd, e, h.2, tailP, tailP, List.map_append]; rfl
theorem tail_bad {l : List PairT} {n j m : Nat} (hj : j < m) (ht : tkn l n j = false) (h : l.length ≤ n + (unt l n j).length ∨ l.getD (n + (unt l n j).length) default ≠ ⟨-1, j⟩) : l.drop n ≠ tailP (unt l n m) := by
 intro e
 obtain ⟨t, hu⟩ := unt_pre l n (show j + 1 ≤ m by omega)
 rw [unt_step, if_neg (by rw [ht]; simp)] at hu
 have e1 : (l.drop n)[(unt l n j).length]? = some ⟨-1, j⟩ := by
  rw [e, hu]; simp [tailP]
 rw [List.getElem?_drop] at e1
 rcases h with h | h
 ·rw [List.getElem?_eq_none h] at e1; cases e1
 ·apply h
  rw [List.getD_eq_getElem?_getD, e1]; rfl
theorem tail_end {l : List PairT} {n m : Nat} (h : TailOk l n m) : l.drop n = tailP (unt l n m) ↔ (l.drop n).length = (unt l n m).length := by
 constructor
 ·intro e; rw [e]; simp [tailP]
 ·intro e
  rw [← h.2, ← e, List.take_length]
def toF (l : List PairT) : Nat → Int → Int
 | 0, _ => -1
 | i + 1, k => if pb l i = k then i else toF l i k
end YtfmbadfdbjhekaaDoor
end Go.Proofs
