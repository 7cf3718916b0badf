/- A part of the proof: contracts of functions of this seat, and lemmas. No condition beyond those stated. -/
import Derived.Test.YtfmbadfdbjhekaaDoorWda
import Derived.Test.YtfmbadfdbjhekaaDoorG4
set_option linter.unusedVariables false
set_option linter.unusedSimpArgs false
set_option linter.unusedSectionVars false
set_option linter.unnecessarySimpa false
namespace Go.Proofs
open Go.AM
namespace YtfmbadfdbjhekaaDoor
structure NodeT where
 parent : Int
 name : List UInt8
 self : Int
 total : Int
 count : Int
deriving Inhabited, DecidableEq
def par (l : List NodeT) (i : Nat) : Int := (l.getD i default).parent
def upW (l : List NodeT) (p a : Int) : Bool :=
 if h : 0 ≤ a then (if a = p then true else if h2 : par l a.toNat < a then upW l p (par l a.toNat) else false) else false
termination_by (a + 1).toNat
decreasing_by omega
def formOk (l : List NodeT) (i : Nat) : Bool := par l i == -1 || (decide (0 ≤ par l i) && decide (par l i < i) && upW l (par l i) ((i : Int) - 1))
def TreeUp (l : List NodeT) (n : Nat) : Prop := ∀ i, i < n → formOk l i = true
theorem tree_par {l : List NodeT} {n : Nat} (h : TreeUp l n) {i : Nat} (hi : i < n) : -1 ≤ par l i ∧ par l i < i := by
 have := h i hi
 simp only [formOk, Bool.or_eq_true, Bool.and_eq_true, decide_eq_true_eq, beq_iff_eq] at this
 omega
theorem upW_self {l : List NodeT} {i : Nat} : upW l i i = true := by rw [upW, dif_pos (by omega), if_pos rfl]
theorem upW_neg {l : List NodeT} {p a : Int} (h : a < 0) : upW l p a = false := by rw [upW, dif_neg (by omega)]
theorem upW_step {l : List NodeT} {n : Nat} (h : TreeUp l n) {p : Int} {i : Nat} (hi : i < n) (hp : (i : Int) ≠ p) : upW l p i = upW l p (par l i) := by
 obtain ⟨h1, h2⟩ := tree_par h hi
 rw [upW, dif_pos (by omega), if_neg hp]
 have e : ((i : Int)).toNat = i := by omega
 rw [e, dif_pos (by omega)]
theorem upW_le {l : List NodeT} {p : Int} : ∀ (m : Nat) {a : Int}, (a + 1).toNat ≤ m → upW l p a = true → p ≤ a := by
 intro m
 induction m with
 | zero =>
  intro a hm h
  rw [upW, dif_neg (by omega)] at h; cases h
 | succ m ih =>
  intro a hm h
  rw [upW] at h
  split at h
  ·split at h
   ·omega
   ·split at h
    ·have := ih (by omega) h; omega
    ·cases h
  ·cases h
theorem upW_ge {l : List NodeT} {p a : Int} (h : upW l p a = true) : p ≤ a := upW_le _ (Nat.le_refl _) h
theorem upW_nn {l : List NodeT} {p : Int} : ∀ (m : Nat) {a : Int}, (a + 1).toNat ≤ m → upW l p a = true → 0 ≤ p := by
 intro m
 induction m with
 | zero =>
  intro a hm h
  rw [upW, dif_neg (by omega)] at h; cases h
 | succ m ih =>
  intro a hm h
  rw [upW] at h
  split at h
  ·split at h
   ·omega
   ·split at h
    ·exact ih (by omega) h
    ·cases h
  ·cases h
theorem up_between {l : List NodeT} {n : Nat} (h : TreeUp l n) {i : Nat} : ∀ (d : Nat) {j : Nat}, i ≤ j → j + d < n → upW l i ((j + d : Nat) : Int) = true → upW l i (j : Int) = true := by
 intro d
 induction d with
 | zero => intro j _ _ h; exact h
 | succ d ih =>
  intro j hij hn hu
  have h1 : upW l i ((j + 1 + d : Nat) : Int) = true := by rw [show j + 1 + d = j + (d + 1) by omega]; exact hu
  have h2 := ih (j := j + 1) (by omega) (by omega) h1
  have hne : ((j + 1 : Nat) : Int) ≠ (i : Int) := by omega
  rw [upW_step h (show j + 1 < n by omega) hne] at h2
  have hf := h (j + 1) (by omega)
  simp only [formOk, Bool.or_eq_true, Bool.and_eq_true, decide_eq_true_eq, beq_iff_eq] at hf
  rcases hf with hf | ⟨⟨hf1, hf2⟩, hf3⟩
  ·rw [hf, upW_neg (by omega)] at h2; cases h2
  ·rw [show (((j + 1 : Nat) : Int) - 1) = (j : Int) by omega] at hf3
   have gen : ∀ (m : Nat) {a : Int}, (a + 1).toNat ≤ m → a < n → upW l (par l (j + 1)) a = true → upW l i a = true := by
    intro m
    induction m with
    | zero =>
     intro a hm _ h
     rw [upW, dif_neg (by omega)] at h; cases h
    | succ m ihm =>
     intro a hm ha hq
     have hq' := hq
     rw [upW] at hq
     split at hq
     ·rename_i h0
      obtain ⟨b, rfl⟩ : ∃ b : Nat, a = b := ⟨a.toNat, by omega⟩
      have hb : b < n := by omega
      by_cases e : (b : Int) = par l (j + 1)
      ·rw [e]; exact h2
      ·rw [if_neg e] at hq
       have eb : ((b : Int)).toNat = b := by omega
       rw [eb] at hq
       obtain ⟨t1, t2⟩ := tree_par h hb
       rw [dif_pos t2] at hq
       by_cases e2 : (b : Int) = i
       ·rw [e2]; exact upW_self
       ·rw [upW_step h hb e2]
        exact ihm (by omega) (by omega) hq
     ·cases hq
   exact gen _ (Nat.le_refl _) (by omega) hf3
end YtfmbadfdbjhekaaDoor
end Go.Proofs
