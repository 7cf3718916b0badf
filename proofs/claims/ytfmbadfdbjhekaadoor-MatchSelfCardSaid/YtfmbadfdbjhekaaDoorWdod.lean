/- A part of the proof: contracts of functions of this seat, and lemmas. No condition beyond those stated. -/
import Derived.Test.YtfmbadfdbjhekaaDoorWdoc
set_option linter.unusedVariables false
set_option linter.unusedSimpArgs false
set_option linter.unusedSectionVars false
set_option linter.unnecessarySimpa false
namespace Go.Proofs
open Go.AM
namespace YtfmbadfdbjhekaaDoor
theorem pathI_nn (l : List NodeT) (i : Nat) : pathI l i ≠ [] := by
 rw [pathI_nat, pathN, upN_nat, List.reverse_cons]
 simp
theorem pathN_kid {l : List NodeT} (ht : TreeUp l l.length) {q : Nat} (hq : q < l.length) : pathN l q = pathI l (par l q) ++ [nm l q] := by
 rw [← pathI_nat]; exact pathI_kid ht hq
theorem path_cpt {a b : List NodeT} (hA : Tr a) (hB : Tr b) : ∀ (i k : Nat), i < a.length → k < b.length → pathN a i = pathN b k → cpt a b i = k := by
 intro i
 induction i using Nat.strongRecOn with
 | _ i ih =>
  intro k hi hk h
  rw [pathN_kid hA.up hi, pathN_kid hB.up hk] at h
  obtain ⟨h1, h2⟩ := List.append_inj' h rfl
  have hn : nm b k = nm a i := by simpa using h2.symm
  have ta := tree_par hA.up hi
  have tb := tree_par hB.up hk
  refine cpt_name hA hB hi hk ?_ hn
  by_cases e : par a i = -1
  ·rw [e, pathI_neg a (by decide)] at h1
   refine .inl ⟨e, ?_⟩
   by_cases e2 : par b k = -1
   ·exact e2
   ·obtain ⟨m, hm⟩ : ∃ m : Nat, par b k = m := ⟨(par b k).toNat, by omega⟩
    rw [hm] at h1
    exact absurd h1.symm (pathI_nn b m)
  ·obtain ⟨m, hm⟩ : ∃ m : Nat, par a i = m := ⟨(par a i).toNat, by omega⟩
   rw [hm] at h1
   have e2 : ¬ par b k = -1 := fun e2 => by
    rw [e2, pathI_neg b (by decide)] at h1
    exact pathI_nn a m h1
   obtain ⟨n, hn2⟩ : ∃ n : Nat, par b k = n := ⟨(par b k).toNat, by omega⟩
   rw [hn2, pathI_nat, pathI_nat] at h1
   exact .inr ⟨m, n, hm, hn2, ih m (by omega) n (by omega) (by omega) h1, by omega⟩
theorem pairs_get (a b : List NodeT) {i : Nat} (hi : i < a.length) : (pairsOf a b).getD i default = ⟨(i : Int), (finS a b).b i⟩ := by
 rw [pairsOf, List.getD_eq_getElem?_getD, List.getElem?_append_left (by rw [pairsA_len]; exact hi), ← List.getD_eq_getElem?_getD]
 exact rg_get _ hi
theorem of_err {a b : List NodeT} (h : (ofF a b).2 ≠ 0) : (ofF a b).1 = [] ∧ (checkF a = (ofF a b).2 ∨ (checkF a = 0 ∧ checkF b = (ofF a b).2)) := by
 unfold ofF at h ⊢
 by_cases h1 : checkF a = 0
 ·rw [if_pos h1] at h ⊢
  by_cases h2 : checkF b = 0
  ·rw [if_pos h2] at h; exact absurd rfl h
  ·rw [if_neg h2]; exact ⟨rfl, .inr ⟨h1, rfl⟩⟩
 ·rw [if_neg h1]; exact ⟨rfl, .inl rfl⟩
theorem of_ok {a b : List NodeT} (h : (ofF a b).2 = 0) : checkF a = 0 ∧ checkF b = 0 ∧ (ofF a b).1 = pairsOf a b := by
 unfold ofF at h ⊢
 by_cases h1 : checkF a = 0
 ·rw [if_pos h1] at h ⊢
  by_cases h2 : checkF b = 0
  ·rw [if_pos h2]; exact ⟨h1, h2, rfl⟩
  ·rw [if_neg h2] at h; exact absurd h h2
 ·rw [if_neg h1] at h; exact absurd h h1
theorem of_self {a : List NodeT} (hca : checkF a = 0) : pairsOf a a = pairsA (finS a a) a.length ∧ ∀ i, i < a.length → (finS a a).b i = i := by
 have hA := Tr.of hca
 obtain ⟨hm, hc⟩ := fin_spec hA hA
 have hb : ∀ i, i < a.length → (finS a a).b i = i := fun i hi => by rw [hc i hi]; exact path_cpt hA hA i i hi hi rfl
 refine ⟨?_, hb⟩
 have : pairsB (finS a a) a.length = [] := by
  rw [pairsB, List.map_eq_nil_iff, List.filter_eq_nil_iff]
  intro k hk
  have hk := List.mem_range.1 hk
  have := (hm.iff k k hk hk).1 (hb k hk)
  simp; omega
 rw [pairsOf, this, List.append_nil]
theorem ren_self {a : List NodeT} (hca : checkF a = 0) : renamedF a a (pairsOf a a) = [] := by
 obtain ⟨h1, h2⟩ := of_self hca
 rw [h1, renamedF, List.filter_eq_nil_iff]
 intro x hx
 obtain ⟨i, hi, rfl⟩ := List.mem_map.1 hx
 have hi := List.mem_range.1 hi
 rw [h2 i hi, rnB]
 simp
def belP (l : List NodeT) (i k : Nat) : Bool := decide ((pathN l i).length < (pathN l k).length) && decide ((pathN l k).take (pathN l i).length = pathN l i)
end YtfmbadfdbjhekaaDoor
end Go.Proofs
