/- A part of the proof: contracts of functions of this seat, and lemmas. No condition beyond those stated. -/
import Derived.Test.YtfmbadfdbjhekaaDoorWdnz
import Derived.Test.YtfmbadfdbjhekaaDoorWdod
set_option linter.unusedVariables false
set_option linter.unusedSimpArgs false
set_option linter.unusedSectionVars false
set_option linter.unnecessarySimpa false
set_option maxRecDepth 100000
namespace Go.Proofs
open Go.AM Go.ChangeShapes Go.WideShapes Go.ChangeAt Go.RowKit
namespace YtfmbadfdbjhekaaDoor
variable {Gl : Globs}
theorem k_LSelf (a : List NodeT) : Pure Tryd.prog Gl 5 [.d (.sl (a.map NodeT.toD))] (.d (.bool true)) := by
 refine Pure.of1 ?_
 refine acalls_of Tryd.func5 rfl rfl (by simp [Tryd.ntmps5]) (evC_sound rfl _ _ _ _ ?_)
 simp only [Tryd.ntmps5, Tryd.results5, argEnv, List.length_nil]
 simp only [zN, seval, implies_true, Nat.reduceLeDiff, Nat.reduceEqDiff, reduceCtorEq, reduceIte, intD]
 refine callF_dataE (k_sml a []) rfl rfl ?_
 simp only [zN, seval, implies_true, Nat.reduceLeDiff, Nat.reduceEqDiff, reduceCtorEq, reduceIte, intD]
 repeat ((with_reducible refine And.intro ?_ ?_); (focus (first | omega | (simp only [lenR]; omega) | (refine qq ?_; rfl) | (refine dq ?_; kernel_rfl) | (intros; simp_all; done))))
 refine ifC.mk (fun h1 => ?_) (fun h1 => ?_)
 ·refine callF_pure k_awake ?_
  simp only [zN, seval, implies_true, Nat.reduceLeDiff, Nat.reduceEqDiff, reduceCtorEq, reduceIte, intD]
  exact ⟨_, _, ret_d, rfl, rfl⟩
 have ha : a.length ≤ 100 := by simpa using h1
 have hl := ofF_len a a ha ha
 repeat ((with_reducible refine And.intro ?_ ?_); (focus (first | omega | (simp only [lenR]; omega) | (refine qq ?_; rfl) | (refine dq ?_; kernel_rfl) | (intros; simp_all; done))))
 refine callF_pure (k_MOf a a ha ha) ?_
 simp only [zN, seval, implies_true, Nat.reduceLeDiff, Nat.reduceEqDiff, reduceCtorEq, reduceIte, intD, ofD]
 repeat ((with_reducible refine And.intro ?_ ?_); (focus (first | omega | (simp only [lenR]; omega) | (refine qq ?_; rfl) | (refine dq ?_; kernel_rfl) | (intros; simp_all; done))))
 refine ifC.mk (fun h2 => ?_) (fun h2 => ?_)
 ·have h2 : (ofF a a).2 ≠ 0 := by simpa using h2
  obtain ⟨h3, h4⟩ := of_err h2
  have h4 : checkF a = (ofF a a).2 := by
   rcases h4 with h | ⟨_, h⟩ <;> exact h
  rw [h3]
  repeat ((with_reducible refine And.intro ?_ ?_); (focus (first | omega | (simp only [lenR]; omega) | (refine qq ?_; rfl) | (refine dq ?_; kernel_rfl) | (intros; simp_all; done))))
  refine callF_pure (k_flameCheck a (by omega)) ?_
  simp only [zN, seval, implies_true, Nat.reduceLeDiff, Nat.reduceEqDiff, reduceCtorEq, reduceIte, intD, h4, beq_self_eq_true]
  repeat ((with_reducible refine And.intro ?_ ?_); (focus (first | omega | (simp only [lenR]; omega) | (refine qq ?_; rfl) | (refine dq ?_; kernel_rfl) | (intros; simp_all; done))))
  refine callG_pure (fun _ => k_awake) ?_
  simp only [zN, seval, implies_true, Nat.reduceLeDiff, Nat.reduceEqDiff, reduceCtorEq, reduceIte, intD]
  repeat ((with_reducible refine And.intro ?_ ?_); (focus (first | omega | (simp only [lenR]; omega) | (refine qq ?_; rfl) | (refine dq ?_; kernel_rfl) | (intros; simp_all; done))))
  exact ⟨_, _, ret_d, rfl, rfl⟩
 have h2 : (ofF a a).2 = 0 := by simpa using h2
 obtain ⟨hca, _, h3⟩ := of_ok h2
 obtain ⟨h4, h5⟩ := of_self hca
 have h6 := ren_self hca
 rw [h3]
 obtain ⟨l, hld⟩ : ∃ l, l = pairsOf a a := ⟨_, rfl⟩
 rw [← hld] at h4 h6 ⊢
 have hll : l.length = a.length := by rw [h4, pairsA_len]
 (try simp only [zN, seval, implies_true, Nat.reduceLeDiff, Nat.reduceEqDiff, reduceCtorEq, reduceIte, intD])
 refine for_of a.length (fun i => [(0, .d (.sl (a.map NodeT.toD))), (3, .d (.sl (l.map PairT.toD))), (5, .d (.int .i64 i))]) (fun _ => []) (fun _ => True) trivial ?_ ?_
 ·refine weak_to [] [] rfl List.nodup_nil ?_ rfl
  simp only [zN, seval, implies_true, Nat.reduceLeDiff, Nat.reduceEqDiff, reduceCtorEq, reduceIte, intD, Int.cast_ofNat_Int]
 ·intro i _ hi
  by_cases h : i < a.length
  ·have hli : i < l.length := by omega
   have gl : (l.map PairT.toD).getD i default = .agg [.int .i64 i, .int .i64 i] := by
    rw [a_getD _ _ _ hli, hld, pairs_get a a h, h5 i h]; rfl
   simp only [zN, seval, implies_true, Nat.reduceLeDiff, Nat.reduceEqDiff, reduceCtorEq, reduceIte, intD, hll, (show (i:Int) < a.length by omega), h, gl, bne_self_eq_false]
   repeat ((with_reducible refine And.intro ?_ ?_); (focus (first | omega | (simp only [lenR]; omega) | (refine qq ?_; rfl) | (refine dq ?_; kernel_rfl) | (intros; simp_all; done))))
   refine weak_to [] [] rfl List.nodup_nil ?_ rfl
   simp only [zN, seval, implies_true, Nat.reduceLeDiff, Nat.reduceEqDiff, reduceCtorEq, reduceIte, intD, @a_wrap ((i:Int) + 1) (by omega)]
  ·have : i = a.length := by omega
   subst this
   simp only [zN, seval, implies_true, Nat.reduceLeDiff, Nat.reduceEqDiff, reduceCtorEq, reduceIte, intD, hll, (show ¬ (a.length:Int) < a.length by omega), beq_self_eq_true]
   repeat ((with_reducible refine And.intro ?_ ?_); (focus (first | omega | (simp only [lenR]; omega) | (refine qq ?_; rfl) | (refine dq ?_; kernel_rfl) | (intros; simp_all; done))))
   refine callG_pure (fun _ => k_Renamed a a l (by omega) (by omega) (by omega)) ?_
   simp only [zN, seval, implies_true, Nat.reduceLeDiff, Nat.reduceEqDiff, reduceCtorEq, reduceIte, intD, h6]
   repeat ((with_reducible refine And.intro ?_ ?_); (focus (first | omega | (simp only [lenR]; omega) | (refine qq ?_; rfl) | (refine dq ?_; kernel_rfl) | (intros; simp_all; done))))
   refine callG_pure (fun _ => k_awake) ?_
   simp only [zN, seval, implies_true, Nat.reduceLeDiff, Nat.reduceEqDiff, reduceCtorEq, reduceIte, intD]
   repeat ((with_reducible refine And.intro ?_ ?_); (focus (first | omega | (simp only [lenR]; omega) | (refine qq ?_; rfl) | (refine dq ?_; kernel_rfl) | (intros; simp_all; done))))
   exact ⟨_, _, ret_d, rfl, rfl⟩
theorem matchSelf_main (xs : List D) (h : TypedAll Tryd.prog 5 Tryd.f5.params.toList xs) : ACalls Tryd.prog [] 5 (xs.map AV.d) [] (fun r _ => r = .d (.bool true)) := by
 rw [Tryd.params5] at h
 obtain ⟨x, _, rfl, h1, rfl⟩ := h
 obtain ⟨a, rfl⟩ := parNodes h1
 exact (k_LSelf a []).mono fun r s h => h.1
end YtfmbadfdbjhekaaDoor
end Go.Proofs
