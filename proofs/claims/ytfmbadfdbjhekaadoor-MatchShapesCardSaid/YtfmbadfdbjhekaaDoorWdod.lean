/- A part of the proof: contracts of functions of this seat, and lemmas. No condition beyond those stated. -/
import Derived.Test.YtfmbadfdbjhekaaDoorWdoc
set_option linter.unusedVariables false
set_option linter.unusedSimpArgs false
set_option linter.unusedSectionVars false
set_option linter.unnecessarySimpa false
namespace Go.Proofs
open Go.AM
namespace YtfmbadfdbjhekaaDoor
theorem of_ok {a b : List NodeT} (h : (ofF a b).2 = 0) : checkF a = 0 ∧ checkF b = 0 ∧ (ofF a b).1 = pairsOf a b := by
 unfold ofF at h ⊢
 by_cases h1 : checkF a = 0
 ·rw [if_pos h1] at h ⊢
  by_cases h2 : checkF b = 0
  ·rw [if_pos h2]; exact ⟨h1, h2, rfl⟩
  ·rw [if_neg h2] at h; exact absurd h h2
 ·rw [if_neg h1] at h; exact absurd h h1
theorem ren_shape {a b : List NodeT} (hca : checkF a = 0) (hcb : checkF b = 0) {x : PairT} (hx : x ∈ renamedF a b (pairsOf a b)) : shapeF a x.a ≠ [] ∧ shapeF b x.b = shapeF a x.a := by
 have hA := Tr.of hca
 have hB := Tr.of hcb
 obtain ⟨hm, hc⟩ := fin_spec hA hB
 obtain ⟨h1, h2⟩ := List.mem_filter.1 hx
 simp only [rnB, Bool.and_eq_true, decide_eq_true_eq, bne_iff_ne, ne_eq] at h2
 obtain ⟨⟨⟨⟨g1, g2⟩, g3⟩, g4⟩, g5⟩ := h2
 rw [pairsOf, List.mem_append] at h1
 rcases h1 with h1 | h1
 ·obtain ⟨i, hi, rfl⟩ := List.mem_map.1 h1
  have hi := List.mem_range.1 hi
  simp only at g1 g2 g3 g4 g5 ⊢
  rw [hc i hi] at g3 g4 g5 ⊢
  obtain ⟨q, hq, e, _, hw⟩ := (cpt_val hA hB hi).2 g3
  rw [e] at g4 g5 ⊢
  rw [Int.toNat_natCast, Int.toNat_natCast] at g5
  rw [shapeF, if_pos ⟨hca, by omega, by omega⟩, shapeF, if_pos ⟨hcb, by omega, by omega⟩, Int.toNat_natCast, Int.toNat_natCast]
  rcases hw with hw | ⟨w1, w2⟩
  ·exact absurd hw.symm g5
  ·exact ⟨w2, w1⟩
 ·obtain ⟨i, _, rfl⟩ := List.mem_map.1 h1
  simp only at g1
  omega
def belP (l : List NodeT) (i k : Nat) : Bool := decide ((pathN l i).length < (pathN l k).length) && decide ((pathN l k).take (pathN l i).length = pathN l i)
end YtfmbadfdbjhekaaDoor
end Go.Proofs
