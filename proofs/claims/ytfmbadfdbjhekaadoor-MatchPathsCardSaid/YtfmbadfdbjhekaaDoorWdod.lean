/- A part of the proof: contracts of functions of this seat, and lemmas. No condition beyond those stated. -/
import Derived.Test.YtfmbadfdbjhekaaDoorWdoc
set_option linter.unusedVariables false
set_option linter.unusedSimpArgs false
set_option linter.unusedSectionVars false
set_option linter.unnecessarySimpa false
namespace Go.Proofs
open Go.AM
namespace YtfmbadfdbjhekaaDoor
theorem pathI_nn (l : List NodeT) (i : Nat) : pathI l i ≠ [] := by
 rw [pathI_nat, pathN, upN_nat, List.reverse_cons]
 simp
theorem pathN_kid {l : List NodeT} (ht : TreeUp l l.length) {q : Nat} (hq : q < l.length) : pathN l q = pathI l (par l q) ++ [nm l q] := by
 rw [← pathI_nat]; exact pathI_kid ht hq
theorem path_cpt {a b : List NodeT} (hA : Tr a) (hB : Tr b) : ∀ (i k : Nat), i < a.length → k < b.length → pathN a i = pathN b k → cpt a b i = k := by
 intro i
 induction i using Nat.strongRecOn with
 | _ i ih =>
  intro k hi hk h
  rw [pathN_kid hA.up hi, pathN_kid hB.up hk] at h
  obtain ⟨h1, h2⟩ := List.append_inj' h rfl
  have hn : nm b k = nm a i := by simpa using h2.symm
  have ta := tree_par hA.up hi
  have tb := tree_par hB.up hk
  refine cpt_name hA hB hi hk ?_ hn
  by_cases e : par a i = -1
  ·rw [e, pathI_neg a (by decide)] at h1
   refine .inl ⟨e, ?_⟩
   by_cases e2 : par b k = -1
   ·exact e2
   ·obtain ⟨m, hm⟩ : ∃ m : Nat, par b k = m := ⟨(par b k).toNat, by omega⟩
    rw [hm] at h1
    exact absurd h1.symm (pathI_nn b m)
  ·obtain ⟨m, hm⟩ : ∃ m : Nat, par a i = m := ⟨(par a i).toNat, by omega⟩
   rw [hm] at h1
   have e2 : ¬ par b k = -1 := fun e2 => by
    rw [e2, pathI_neg b (by decide)] at h1
    exact pathI_nn a m h1
   obtain ⟨n, hn2⟩ : ∃ n : Nat, par b k = n := ⟨(par b k).toNat, by omega⟩
   rw [hn2, pathI_nat, pathI_nat] at h1
   exact .inr ⟨m, n, hm, hn2, ih m (by omega) n (by omega) (by omega) h1, by omega⟩
theorem pairs_get (a b : List NodeT) {i : Nat} (hi : i < a.length) : (pairsOf a b).getD i default = ⟨(i : Int), (finS a b).b i⟩ := by
 rw [pairsOf, List.getD_eq_getElem?_getD, List.getElem?_append_left (by rw [pairsA_len]; exact hi), ← List.getD_eq_getElem?_getD]
 exact rg_get _ hi
theorem pairs_pa (a b : List NodeT) {i : Nat} (hi : i < a.length) : pa (pairsOf a b) i = i := by rw [pa, pairs_get a b hi]
theorem pairs_pb (a b : List NodeT) {i : Nat} (hi : i < a.length) : pb (pairsOf a b) i = (finS a b).b i := by rw [pb, pairs_get a b hi]
theorem pairs_len (a b : List NodeT) : a.length ≤ (pairsOf a b).length := by rw [pairsOf, List.length_append, pairsA_len]; omega
theorem tkn_mut {a b : List NodeT} (hm : Mut a.length b.length (finS a b)) {i : Nat} (hi : i ≤ a.length) {k : Nat} (hk : k < b.length) : tkn (pairsOf a b) i k = decide (0 ≤ (finS a b).a k ∧ (finS a b).a k < i) := by
 rw [Bool.eq_iff_iff, tkn, List.any_eq_true, decide_eq_true_iff]
 constructor
 ·rintro ⟨j, hj, e⟩
  have hj := List.mem_range.1 hj
  rw [pairs_pb a b (by omega)] at e
  have e : (finS a b).b j = k := by simpa using e
  have := (hm.iff j k (by omega) hk).1 e
  omega
 ·rintro ⟨h1, h2⟩
  refine ⟨((finS a b).a k).toNat, List.mem_range.2 (by omega), ?_⟩
  rw [pairs_pb a b (by omega)]
  have := (hm.iff ((finS a b).a k).toNat k (by omega) hk).2 (by omega)
  rw [this]; simp
theorem check_of {a b : List NodeT} (hca : checkF a = 0) (hcb : checkF b = 0) : checkAl a b (pairsOf a b) = true := by
 have hA := Tr.of hca
 have hB := Tr.of hcb
 obtain ⟨hm, hc⟩ := fin_spec hA hB
 simp only [checkAl, Bool.and_eq_true, decide_eq_true_eq, List.all_eq_true, List.mem_range]
 refine ⟨⟨⟨⟨⟨hca, hcb⟩, pairs_len a b⟩, fun i hi => ?_⟩, fun i hi => ?_⟩, ?_⟩
 ·have hr := hm.rb i
  unfold preI
  rw [pairs_pa a b hi, pairs_pb a b hi]
  simp only [beq_self_eq_true, Bool.true_and, Bool.and_eq_true, decide_eq_true_eq, Bool.or_eq_true, Bool.not_eq_true']
  refine ⟨⟨hr.1, hr.2⟩, ?_⟩
  by_cases h0 : (finS a b).b i < 0
  ·exact .inl h0
  ·obtain ⟨q, hq⟩ : ∃ q : Nat, (finS a b).b i = q := ⟨((finS a b).b i).toNat, by omega⟩
   right
   rw [hq, tkn_mut hm (by omega) (by omega)]
   have := (hm.iff i q hi (by omega)).1 hq
   rw [decide_eq_false (by omega)]
 ·unfold parI
  rw [pairs_pb a b hi, hc i hi]
  by_cases h0 : cpt a b i < 0
  ·rw [decide_eq_true h0]; rfl
  ·obtain ⟨q, hq, e, hcr, _⟩ := (cpt_val hA hB hi).2 (by omega)
   rw [e, Int.toNat_natCast]
   rw [Bool.or_eq_true]
   right
   rcases hcr with ⟨h1, h2⟩ | ⟨i', k', h1, h2, h3, h4⟩
   ·rw [h1, h2]; rfl
   ·rw [h1, h2, parB, if_neg (by omega), Int.toNat_natCast, pairs_pb a b (by omega), hc i' (by omega), h3]
    have e1 : ((i' : Int) == -1) = false := by rw [beq_eq_false_iff_ne]; omega
    have e2 : ((k' : Int) == -1) = false := by rw [beq_eq_false_iff_ne]; omega
    rw [e1, e2]; simp
 ·have : (pairsOf a b).drop a.length = pairsB (finS a b) b.length := by
   rw [pairsOf, List.drop_append_of_le_length (by rw [pairsA_len]; exact Nat.le_refl _), List.drop_of_length_le (by rw [pairsA_len]; exact Nat.le_refl _)]; rfl
  rw [this, pairsB, tailP, unt]
  congr 1
  refine List.filter_congr fun k hk => ?_
  have hk := List.mem_range.1 hk
  have hr := hm.ra k
  rw [tkn_mut hm (Nat.le_refl _) hk, Bool.eq_iff_iff, Bool.not_eq_true', decide_eq_true_iff, decide_eq_false_iff_not]
  omega
theorem of_err {a b : List NodeT} (h : (ofF a b).2 ≠ 0) : (ofF a b).1 = [] ∧ (checkF a = (ofF a b).2 ∨ (checkF a = 0 ∧ checkF b = (ofF a b).2)) := by
 unfold ofF at h ⊢
 by_cases h1 : checkF a = 0
 ·rw [if_pos h1] at h ⊢
  by_cases h2 : checkF b = 0
  ·rw [if_pos h2] at h; exact absurd rfl h
  ·rw [if_neg h2]; exact ⟨rfl, .inr ⟨h1, rfl⟩⟩
 ·rw [if_neg h1]; exact ⟨rfl, .inl rfl⟩
theorem of_ok {a b : List NodeT} (h : (ofF a b).2 = 0) : checkF a = 0 ∧ checkF b = 0 ∧ (ofF a b).1 = pairsOf a b := by
 unfold ofF at h ⊢
 by_cases h1 : checkF a = 0
 ·rw [if_pos h1] at h ⊢
  by_cases h2 : checkF b = 0
  ·rw [if_pos h2]; exact ⟨h1, h2, rfl⟩
  ·rw [if_neg h2] at h; exact absurd h h2
 ·rw [if_neg h1] at h; exact absurd h h1
def belP (l : List NodeT) (i k : Nat) : Bool := decide ((pathN l i).length < (pathN l k).length) && decide ((pathN l k).take (pathN l i).length = pathN l i)
end YtfmbadfdbjhekaaDoor
end Go.Proofs
