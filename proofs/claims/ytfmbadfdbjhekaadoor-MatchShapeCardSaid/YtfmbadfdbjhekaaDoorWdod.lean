/- A part of the proof: contracts of functions of this seat, and lemmas. No condition beyond those stated. -/
import Derived.Test.YtfmbadfdbjhekaaDoorWdoc
set_option linter.unusedVariables false
set_option linter.unusedSimpArgs false
set_option linter.unusedSectionVars false
set_option linter.unnecessarySimpa false
namespace Go.Proofs
open Go.AM
namespace YtfmbadfdbjhekaaDoor
theorem pathI_nn (l : List NodeT) (i : Nat) : pathI l i ≠ [] := by
 rw [pathI_nat, pathN, upN_nat, List.reverse_cons]
 simp
theorem pathN_kid {l : List NodeT} (ht : TreeUp l l.length) {q : Nat} (hq : q < l.length) : pathN l q = pathI l (par l q) ++ [nm l q] := by
 rw [← pathI_nat]; exact pathI_kid ht hq
theorem path_cpt {a b : List NodeT} (hA : Tr a) (hB : Tr b) : ∀ (i k : Nat), i < a.length → k < b.length → pathN a i = pathN b k → cpt a b i = k := by
 intro i
 induction i using Nat.strongRecOn with
 | _ i ih =>
  intro k hi hk h
  rw [pathN_kid hA.up hi, pathN_kid hB.up hk] at h
  obtain ⟨h1, h2⟩ := List.append_inj' h rfl
  have hn : nm b k = nm a i := by simpa using h2.symm
  have ta := tree_par hA.up hi
  have tb := tree_par hB.up hk
  refine cpt_name hA hB hi hk ?_ hn
  by_cases e : par a i = -1
  ·rw [e, pathI_neg a (by decide)] at h1
   refine .inl ⟨e, ?_⟩
   by_cases e2 : par b k = -1
   ·exact e2
   ·obtain ⟨m, hm⟩ : ∃ m : Nat, par b k = m := ⟨(par b k).toNat, by omega⟩
    rw [hm] at h1
    exact absurd h1.symm (pathI_nn b m)
  ·obtain ⟨m, hm⟩ : ∃ m : Nat, par a i = m := ⟨(par a i).toNat, by omega⟩
   rw [hm] at h1
   have e2 : ¬ par b k = -1 := fun e2 => by
    rw [e2, pathI_neg b (by decide)] at h1
    exact pathI_nn a m h1
   obtain ⟨n, hn2⟩ : ∃ n : Nat, par b k = n := ⟨(par b k).toNat, by omega⟩
   rw [hn2, pathI_nat, pathI_nat] at h1
   exact .inr ⟨m, n, hm, hn2, ih m (by omega) n (by omega) (by omega) h1, by omega⟩
theorem path_inj {a : List NodeT} (hA : Tr a) {i k : Nat} (hi : i < a.length) (hk : k < a.length) (h : pathN a i = pathN a k) : i = k := by
 have h1 := path_cpt hA hA i k hi hk h
 have h2 := path_cpt hA hA i i hi hi rfl
 omega
def belP (l : List NodeT) (i k : Nat) : Bool := decide ((pathN l i).length < (pathN l k).length) && decide ((pathN l k).take (pathN l i).length = pathN l i)
theorem belP_iff {l : List NodeT} (hT : Tr l) {i : Nat} (hi : i < l.length) : ∀ k, k < l.length → (belP l i k = true ↔ i < k ∧ upW l i k = true) := by
 have h1 : 1 ≤ (pathN l i).length := by rw [pathN, List.length_reverse, upN_nat, List.length_cons]; omega
 intro k
 induction k using Nat.strongRecOn with
 | _ k ih =>
  intro hk
  have tp := tree_par hT.up hk
  have hp := pathN_kid hT.up hk
  have hl : (pathN l k).length = (pathI l (par l k)).length + 1 := by rw [hp, List.length_append]; rfl
  simp only [belP, Bool.and_eq_true, decide_eq_true_eq]
  by_cases e : par l k = -1
  ·rw [e, pathI_neg l (by decide)] at hl
   constructor
   ·rintro ⟨g, _⟩
    simp only [List.length_nil] at hl
    omega
   ·rintro ⟨g1, g2⟩
    rw [upW_step hT.up hk (by omega), e, upW_neg (by decide)] at g2
    cases g2
  ·obtain ⟨p, hpp⟩ : ∃ p : Nat, par l k = p := ⟨(par l k).toNat, by omega⟩
   rw [hpp, pathI_nat] at hl hp
   have hpk : p < k := by omega
   have ih := ih p hpk (by omega)
   simp only [belP, Bool.and_eq_true, decide_eq_true_eq] at ih
   constructor
   ·rintro ⟨g1, g2⟩
    have hle : (pathN l i).length ≤ (pathN l p).length := by omega
    rw [hp, List.take_append_of_le_length hle] at g2
    by_cases e2 : (pathN l i).length = (pathN l p).length
    ·rw [e2, List.take_length] at g2
     have : i = p := path_inj hT hi (by omega) g2.symm
     subst this
     exact ⟨hpk, by rw [upW_step hT.up hk (by omega), hpp]; exact upW_self⟩
    ·obtain ⟨q1, q2⟩ := ih.1 ⟨by omega, g2⟩
     exact ⟨by omega, by rw [upW_step hT.up hk (by omega), hpp]; exact q2⟩
   ·rintro ⟨g1, g2⟩
    rw [upW_step hT.up hk (by omega), hpp] at g2
    by_cases e2 : i = p
    ·subst e2
     exact ⟨by omega, by rw [hp, List.take_append_of_le_length (Nat.le_refl _), List.take_length]⟩
    ·have := upW_ge g2
     obtain ⟨q1, q2⟩ := ih.2 ⟨by omega, g2⟩
     exact ⟨by omega, by rw [hp, List.take_append_of_le_length (by omega)]; exact q2⟩
theorem belP_count {l : List NodeT} (hc : checkF l = 0) {i : Nat} (hi : i < l.length) : ((List.range l.length).filter (belP l i)).length = (shp l i).length := by
 rw [shp, List.length_map, belowL]
 congr 1
 refine List.filter_congr fun k hk => ?_
 have hk := List.mem_range.1 hk
 rw [Bool.eq_iff_iff, belP_iff (Tr.of hc) hi k hk]
 simp
end YtfmbadfdbjhekaaDoor
end Go.Proofs
