/- A part of the proof: contracts of functions of this seat, and lemmas. No condition beyond those stated. -/
import Derived.Test.YtfmbadfdbjhekaaDoorWdnz
import Derived.Test.YtfmbadfdbjhekaaDoorWdod
set_option linter.unusedVariables false
set_option linter.unusedSimpArgs false
set_option linter.unusedSectionVars false
set_option linter.unnecessarySimpa false
set_option maxRecDepth 100000
namespace Go.Proofs
open Go.AM Go.ChangeShapes Go.WideShapes Go.ChangeAt Go.RowKit
namespace YtfmbadfdbjhekaaDoor
variable {Gl : Globs}
theorem k_LShapes (a b : List NodeT) : Pure Tryd.prog Gl 6 [.d (.sl (a.map NodeT.toD)), .d (.sl (b.map NodeT.toD))] (.d (.bool true)) := by
 refine Pure.of2 ?_
 refine acalls_of Tryd.func6 rfl rfl (by simp [Tryd.ntmps6]) (evC_sound rfl _ _ _ _ ?_)
 simp only [Tryd.ntmps6, Tryd.results6, argEnv, List.length_nil]
 simp only [zN, seval, implies_true, Nat.reduceLeDiff, Nat.reduceEqDiff, reduceCtorEq, reduceIte, intD]
 refine callF_pure (k_sml a b) ?_
 simp only [zN, seval, implies_true, Nat.reduceLeDiff, Nat.reduceEqDiff, reduceCtorEq, reduceIte, intD]
 repeat ((with_reducible refine And.intro ?_ ?_); (focus (first | omega | (simp only [lenR]; omega) | (refine qq ?_; rfl) | (refine dq ?_; kernel_rfl) | (intros; simp_all; done))))
 refine ifC.mk (fun h1 => ?_) (fun h1 => ?_)
 ·refine callF_pure k_awake ?_
  simp only [zN, seval, implies_true, Nat.reduceLeDiff, Nat.reduceEqDiff, reduceCtorEq, reduceIte, intD]
  exact ⟨_, _, ret_d, rfl, rfl⟩
 have h1 : a.length ≤ 100 ∧ b.length ≤ 100 := by simpa using h1
 obtain ⟨ha, hb⟩ := h1
 have hl := ofF_len a b ha hb
 repeat ((with_reducible refine And.intro ?_ ?_); (focus (first | omega | (simp only [lenR]; omega) | (refine qq ?_; rfl) | (refine dq ?_; kernel_rfl) | (intros; simp_all; done))))
 refine callF_pure (k_MOf a b ha hb) ?_
 simp only [zN, seval, implies_true, Nat.reduceLeDiff, Nat.reduceEqDiff, reduceCtorEq, reduceIte, intD, ofD]
 repeat ((with_reducible refine And.intro ?_ ?_); (focus (first | omega | (simp only [lenR]; omega) | (refine qq ?_; rfl) | (refine dq ?_; kernel_rfl) | (intros; simp_all; done))))
 refine ifC.mk (fun h2 => ?_) (fun h2 => ?_)
 ·refine callF_pure k_awake ?_
  simp only [zN, seval, implies_true, Nat.reduceLeDiff, Nat.reduceEqDiff, reduceCtorEq, reduceIte, intD]
  exact ⟨_, _, ret_d, rfl, rfl⟩
 have h2 : (ofF a b).2 = 0 := by simpa using h2
 obtain ⟨hca, hcb, h3⟩ := of_ok h2
 repeat ((with_reducible refine And.intro ?_ ?_); (focus (first | omega | (simp only [lenR]; omega) | (refine qq ?_; rfl) | (refine dq ?_; kernel_rfl) | (intros; simp_all; done))))
 refine callF_pure (k_Renamed a b (ofF a b).1 (by omega) (by omega) (by omega)) ?_
 rw [h3]
 have hsh : ∀ x ∈ renamedF a b (pairsOf a b), shapeF a x.a ≠ [] ∧ shapeF b x.b = shapeF a x.a := fun x hx => ren_shape hca hcb hx
 have hml := ren_len a b (pairsOf a b)
 rw [h3] at hl
 obtain ⟨m, hm⟩ : ∃ m, m = renamedF a b (pairsOf a b) := ⟨_, rfl⟩
 rw [← hm] at hsh hml ⊢
 simp only [zN, seval, implies_true, Nat.reduceLeDiff, Nat.reduceEqDiff, reduceCtorEq, reduceIte, intD]
 refine for_of m.length (fun i => [(0, .d (.sl (a.map NodeT.toD))), (1, .d (.sl (b.map NodeT.toD))), (7, .d (.sl (m.map PairT.toD))), (8, .d (.int .i64 i))]) (fun _ => []) (fun _ => True) trivial ?_ ?_
 ·refine weak_to [] [] rfl List.nodup_nil ?_ rfl
  simp only [zN, seval, implies_true, Nat.reduceLeDiff, Nat.reduceEqDiff, reduceCtorEq, reduceIte, intD, Int.cast_ofNat_Int]
 ·intro i _ hi
  by_cases h : i < m.length
  ·obtain ⟨x, hx⟩ : ∃ x, x = m.getD i default := ⟨_, rfl⟩
   have hxm : x ∈ m := by
    rw [hx, List.getD_eq_getElem?_getD, List.getElem?_eq_getElem h]; exact List.getElem_mem h
   obtain ⟨s1, s2⟩ := hsh x hxm
   have hsl : (shapeF a x.a).length ≤ 100 := by
    unfold shapeF
    split
    ·exact Nat.le_trans (shTo_len a _ a.length) ha
    ·exact Nat.zero_le _
   have gm : (m.map PairT.toD).getD i default = .agg [.int .i64 x.a, .int .i64 x.b] := by rw [a_getD _ _ _ h, ← hx]; rfl
   have hn0 : (((shapeF a x.a).length : Int) == 0) = false := by
    rw [beq_eq_false_iff_ne]
    exact fun e => s1 (List.eq_nil_of_length_eq_zero (by omega))
   simp only [zN, seval, implies_true, Nat.reduceLeDiff, Nat.reduceEqDiff, reduceCtorEq, reduceIte, intD, (show (i:Int) < m.length by omega), h, gm]
   repeat ((with_reducible refine And.intro ?_ ?_); (focus (first | omega | (simp only [lenR]; omega) | (refine qq ?_; rfl) | (refine dq ?_; kernel_rfl) | (intros; simp_all; done))))
   refine callF_pure (k_MShape a ha x.a) ?_
   simp only [zN, seval, implies_true, Nat.reduceLeDiff, Nat.reduceEqDiff, reduceCtorEq, reduceIte, intD, h, gm, (show (i:Int) < m.length by omega), hn0]
   repeat ((with_reducible refine And.intro ?_ ?_); (focus (first | omega | (simp only [lenR]; omega) | (refine qq ?_; rfl) | (refine dq ?_; kernel_rfl) | (intros; simp_all; done))))
   refine callG_pure (fun _ => k_MShape b hb x.b) ?_
   simp only [zN, seval, implies_true, Nat.reduceLeDiff, Nat.reduceEqDiff, reduceCtorEq, reduceIte, intD, s2]
   repeat ((with_reducible refine And.intro ?_ ?_); (focus (first | omega | (simp only [lenR]; omega) | (refine qq ?_; rfl) | (refine dq ?_; kernel_rfl) | (intros; simp_all; done))))
   refine callG_pure (fun _ => k_SameTexts (shapeF a x.a) (shapeF a x.a) (by omega) (by omega)) ?_
   simp only [zN, seval, implies_true, Nat.reduceLeDiff, Nat.reduceEqDiff, reduceCtorEq, reduceIte, intD, decide_true]
   repeat ((with_reducible refine And.intro ?_ ?_); (focus (first | omega | (simp only [lenR]; omega) | (refine qq ?_; rfl) | (refine dq ?_; kernel_rfl) | (intros; simp_all; done))))
   refine weak_to [] [] rfl List.nodup_nil ?_ rfl
   simp only [zN, seval, implies_true, Nat.reduceLeDiff, Nat.reduceEqDiff, reduceCtorEq, reduceIte, intD, @a_wrap ((i:Int) + 1) (by omega)]
  ·have : i = m.length := by omega
   subst this
   simp only [zN, seval, implies_true, Nat.reduceLeDiff, Nat.reduceEqDiff, reduceCtorEq, reduceIte, intD, (show ¬ (m.length:Int) < m.length by omega)]
   refine callF_pure k_awake ?_
   simp only [zN, seval, implies_true, Nat.reduceLeDiff, Nat.reduceEqDiff, reduceCtorEq, reduceIte, intD]
   exact ⟨_, _, ret_d, rfl, rfl⟩
theorem matchShapes_main (xs : List D) (h : TypedAll Tryd.prog 5 Tryd.f6.params.toList xs) : ACalls Tryd.prog [] 6 (xs.map AV.d) [] (fun r _ => r = .d (.bool true)) := by
 rw [Tryd.params6] at h
 obtain ⟨x, _, rfl, h1, y, _, rfl, h2, rfl⟩ := h
 obtain ⟨a, rfl⟩ := parNodes h1
 obtain ⟨b, rfl⟩ := parNodes h2
 exact (k_LShapes a b []).mono fun r s h => h.1
end YtfmbadfdbjhekaaDoor
end Go.Proofs
