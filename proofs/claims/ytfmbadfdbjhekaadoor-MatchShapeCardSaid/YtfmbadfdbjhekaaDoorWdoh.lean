/- A part of the proof: contracts of functions of this seat, and lemmas. No condition beyond those stated. -/
import Derived.Test.YtfmbadfdbjhekaaDoorWdoe
set_option linter.unusedVariables false
set_option linter.unusedSimpArgs false
set_option linter.unusedSectionVars false
set_option linter.unnecessarySimpa false
set_option maxRecDepth 100000
namespace Go.Proofs
open Go.AM Go.ChangeShapes Go.WideShapes Go.ChangeAt Go.RowKit
namespace YtfmbadfdbjhekaaDoor
variable {Gl : Globs}
theorem shapeF_le (a : List NodeT) (ha : a.length ≤ 100) (i : Int) : (shapeF a i).length ≤ 100 := by
 unfold shapeF
 split
 ·exact Nat.le_trans (shTo_len a _ a.length) ha
 ·exact Nat.zero_le _
def cntB (l : List NodeT) (i k : Nat) : Nat := ((List.range k).filter (belP l i)).length
theorem cntB_step (l : List NodeT) (i k : Nat) : cntB l i (k + 1) = cntB l i k + if belP l i k = true then 1 else 0 := by
 rw [cntB, List.range_succ, List.filter_append, List.length_append]
 congr 1
 by_cases h : belP l i k = true
 ·rw [List.filter_cons_of_pos h, if_pos h]; rfl
 ·rw [List.filter_cons_of_neg h, if_neg h]; rfl
theorem cntB_le (l : List NodeT) (i k : Nat) : cntB l i k ≤ k := by
 rw [cntB]
 exact Nat.le_trans (List.length_filter_le _ _) (by simp)
theorem k_LShape (a : List NodeT) (i : Int) : Pure Tryd.prog Gl 7 [.d (.sl (a.map NodeT.toD)), .d (.int .i64 i)] (.d (.bool true)) := by
 refine Pure.of2 ?_
 refine acalls_of Tryd.func7 rfl rfl (by simp [Tryd.ntmps7]) (evC_sound rfl _ _ _ _ ?_)
 simp only [Tryd.ntmps7, Tryd.results7, argEnv, List.length_nil]
 simp only [zN, seval, implies_true, Nat.reduceLeDiff, Nat.reduceEqDiff, reduceCtorEq, reduceIte, intD]
 refine callF_dataE (k_sml a []) rfl rfl ?_
 simp only [zN, seval, implies_true, Nat.reduceLeDiff, Nat.reduceEqDiff, reduceCtorEq, reduceIte, intD]
 repeat ((with_reducible refine And.intro ?_ ?_); (focus (first | omega | (simp only [lenR]; omega) | (refine qq ?_; rfl) | (refine dq ?_; kernel_rfl) | (intros; simp_all; done))))
 refine ifC.mk (fun h1 => ?_) (fun h1 => ?_)
 ·refine callF_pure k_awake ?_
  simp only [zN, seval, implies_true, Nat.reduceLeDiff, Nat.reduceEqDiff, reduceCtorEq, reduceIte, intD]
  exact ⟨_, _, ret_d, rfl, rfl⟩
 have ha : a.length ≤ 100 := by simpa using h1
 have hsl := shapeF_le a ha i
 repeat ((with_reducible refine And.intro ?_ ?_); (focus (first | omega | (simp only [lenR]; omega) | (refine qq ?_; rfl) | (refine dq ?_; kernel_rfl) | (intros; simp_all; done))))
 refine callF_pure (k_MShape a ha i) ?_
 simp only [zN, seval, implies_true, Nat.reduceLeDiff, Nat.reduceEqDiff, reduceCtorEq, reduceIte, intD]
 repeat ((with_reducible refine And.intro ?_ ?_); (focus (first | omega | (simp only [lenR]; omega) | (refine qq ?_; rfl) | (refine dq ?_; kernel_rfl) | (intros; simp_all; done))))
 refine callF_pure (k_RShape a ha i) ?_
 simp only [zN, seval, implies_true, Nat.reduceLeDiff, Nat.reduceEqDiff, reduceCtorEq, reduceIte, intD]
 repeat ((with_reducible refine And.intro ?_ ?_); (focus (first | omega | (simp only [lenR]; omega) | (refine qq ?_; rfl) | (refine dq ?_; kernel_rfl) | (intros; simp_all; done))))
 refine callF_pure (k_SameTexts (shapeF a i) (shapeF a i) (by omega) (by omega)) ?_
 simp only [zN, seval, implies_true, Nat.reduceLeDiff, Nat.reduceEqDiff, reduceCtorEq, reduceIte, intD, decide_true]
 repeat ((with_reducible refine And.intro ?_ ?_); (focus (first | omega | (simp only [lenR]; omega) | (refine qq ?_; rfl) | (refine dq ?_; kernel_rfl) | (intros; simp_all; done))))
 refine callF_pure (k_flameCheck a (by omega)) ?_
 simp only [zN, seval, implies_true, Nat.reduceLeDiff, Nat.reduceEqDiff, reduceCtorEq, reduceIte, intD]
 repeat ((with_reducible refine And.intro ?_ ?_); (focus (first | omega | (simp only [lenR]; omega) | (refine qq ?_; rfl) | (refine dq ?_; kernel_rfl) | (intros; simp_all; done))))
 refine ifC.mk (fun h2 => ?_) (fun h2 => ?_)
 ·have h2 : ¬ (checkF a = 0 ∧ 0 ≤ i ∧ i < a.length) := by
   simp only [Bool.or_eq_true, bne_iff_ne, decide_eq_true_eq] at h2
   omega
  rw [shapeF, if_neg h2]
  repeat ((with_reducible refine And.intro ?_ ?_); (focus (first | omega | (simp only [lenR]; omega) | (refine qq ?_; rfl) | (refine dq ?_; kernel_rfl) | (intros; simp_all; done))))
  refine callG_pure (fun _ => k_awake) ?_
  simp only [zN, seval, implies_true, Nat.reduceLeDiff, Nat.reduceEqDiff, reduceCtorEq, reduceIte, intD]
  repeat ((with_reducible refine And.intro ?_ ?_); (focus (first | omega | (simp only [lenR]; omega) | (refine qq ?_; rfl) | (refine dq ?_; kernel_rfl) | (intros; simp_all; done))))
  exact ⟨_, _, ret_d, rfl, rfl⟩
 have h2 : checkF a = 0 ∧ 0 ≤ i ∧ i < a.length := by
  simp only [Bool.or_eq_false_iff, bne_eq_false_iff_eq, decide_eq_false_iff_not] at h2
  omega
 obtain ⟨hc, hi0, hil⟩ := h2
 obtain ⟨m, rfl⟩ : ∃ m : Nat, i = m := ⟨i.toNat, by omega⟩
 have hml : m < a.length := by omega
 have hsh : shapeF a m = shp a m := by rw [shapeF, if_pos ⟨hc, by omega, by omega⟩, Int.toNat_natCast]
 have hpf : ∀ k : Nat, k < a.length → pathF a k = pathN a k := fun k hk => by rw [pathF, if_pos ⟨hc, by omega, by omega⟩, Int.toNat_natCast]
 have hcnt : cntB a m a.length = (shp a m).length := belP_count hc hml
 have hpl := pathN_len a m
 rw [hsh] at hsl ⊢
 repeat ((with_reducible refine And.intro ?_ ?_); (focus (first | omega | (simp only [lenR]; omega) | (refine qq ?_; rfl) | (refine dq ?_; kernel_rfl) | (intros; simp_all; done))))
 refine callF_pure (k_Path a (by omega) m) ?_
 rw [hpf m hml]
 simp only [zN, seval, implies_true, Nat.reduceLeDiff, Nat.reduceEqDiff, reduceCtorEq, reduceIte, intD]
 refine for_of a.length (fun k => [(0, .d (.sl (a.map NodeT.toD))), (5, .d (.sl ((shp a m).map .str))), (6, .d (.int .i64 (cntB a m k))), (7, .d (.sl ((pathN a m).map .str))), (8, .d (.int .i64 k))]) (fun _ => []) (fun _ => True) trivial ?_ ?_
 ·refine weak_to [] [] rfl List.nodup_nil ?_ rfl
  simp only [zN, seval, implies_true, Nat.reduceLeDiff, Nat.reduceEqDiff, reduceCtorEq, reduceIte, intD, Int.cast_ofNat_Int]
  try rfl
 ·intro k _ hk
  by_cases h : k < a.length
  ·have hkl := pathN_len a k
   have hst := cntB_step a m k
   have hcl := cntB_le a m k
   simp only [zN, seval, implies_true, Nat.reduceLeDiff, Nat.reduceEqDiff, reduceCtorEq, reduceIte, intD, (show (k:Int) < a.length by omega)]
   repeat ((with_reducible refine And.intro ?_ ?_); (focus (first | omega | (simp only [lenR]; omega) | (refine qq ?_; rfl) | (refine dq ?_; kernel_rfl) | (intros; simp_all; done))))
   refine callF_pure (k_Path a (by omega) k) ?_
   rw [hpf k h]
   simp only [zN, seval, implies_true, Nat.reduceLeDiff, Nat.reduceEqDiff, reduceCtorEq, reduceIte, intD]
   repeat ((with_reducible refine And.intro ?_ ?_); (focus (first | omega | (simp only [lenR]; omega) | (refine qq ?_; rfl) | (refine dq ?_; kernel_rfl) | (intros; simp_all; done))))
   by_cases hlt : (pathN a m).length < (pathN a k).length
   ·have e1 : decide (((pathN a m).length : Int) < ((pathN a k).length : Int)) = true := decide_eq_true (by omega)
    simp only [zN, seval, implies_true, Nat.reduceLeDiff, Nat.reduceEqDiff, reduceCtorEq, reduceIte, intD, e1, (show ((pathN a m).length : Int) < ((pathN a k).length : Int) by omega)]
    repeat ((with_reducible refine And.intro ?_ ?_); (focus (first | omega | (simp only [lenR]; omega) | (refine qq ?_; rfl) | (refine dq ?_; kernel_rfl) | (intros; simp_all; done))))
    rw [← List.map_take]
    refine callG_pure (fun _ => k_SameTexts ((pathN a k).take (pathN a m).length) (pathN a m) (by rw [List.length_take]; omega) (by omega)) ?_
    have hbe : belP a m k = decide ((pathN a k).take (pathN a m).length = pathN a m) := by rw [belP, decide_eq_true hlt, Bool.true_and]
    rw [← hbe]
    simp only [zN, seval, implies_true, Nat.reduceLeDiff, Nat.reduceEqDiff, reduceCtorEq, reduceIte, intD]
    repeat ((with_reducible refine And.intro ?_ ?_); (focus (first | omega | (simp only [lenR]; omega) | (refine qq ?_; rfl) | (refine dq ?_; kernel_rfl) | (intros; simp_all; done))))
    refine ifC.mk (fun hc2 => ?_) (fun hc2 => ?_)
    ·rw [if_pos hc2] at hst
     rw [hst]
     refine ⟨h, ?_⟩
     refine weak_to [] [] rfl List.nodup_nil ?_ rfl
     simp only [zN, seval, implies_true, Nat.reduceLeDiff, Nat.reduceEqDiff, reduceCtorEq, reduceIte, intD, @a_wrap ((k:Int) + 1) (by omega), @a_wrap ((cntB a m k:Int) + 1) (by omega)]
    ·rw [if_neg (by rw [hc2]; simp), Nat.add_zero] at hst
     rw [hst]
     refine ⟨h, ?_⟩
     refine weak_to [] [] rfl List.nodup_nil ?_ rfl
     simp only [zN, seval, implies_true, Nat.reduceLeDiff, Nat.reduceEqDiff, reduceCtorEq, reduceIte, intD, @a_wrap ((k:Int) + 1) (by omega)]
   ·have e1 : decide (((pathN a m).length : Int) < ((pathN a k).length : Int)) = false := decide_eq_false (by omega)
    simp only [zN, seval, implies_true, Nat.reduceLeDiff, Nat.reduceEqDiff, reduceCtorEq, reduceIte, intD, e1]
    repeat ((with_reducible refine And.intro ?_ ?_); (focus (first | omega | (simp only [lenR]; omega) | (refine qq ?_; rfl) | (refine dq ?_; kernel_rfl) | (intros; simp_all; done))))
    refine callG_of (v := .undef) (fun h => by cases h) ?_
    simp only [zN, seval, implies_true, Nat.reduceLeDiff, Nat.reduceEqDiff, reduceCtorEq, reduceIte, intD]
    repeat ((with_reducible refine And.intro ?_ ?_); (focus (first | omega | (simp only [lenR]; omega) | (refine qq ?_; rfl) | (refine dq ?_; kernel_rfl) | (intros; simp_all; done))))
    have hbe : belP a m k = false := by rw [belP, decide_eq_false hlt, Bool.false_and]
    rw [hbe, if_neg (by simp)] at hst
    simp only [Nat.add_zero] at hst
    rw [hst]
    refine weak_to [] [] rfl List.nodup_nil ?_ rfl
    simp only [zN, seval, implies_true, Nat.reduceLeDiff, Nat.reduceEqDiff, reduceCtorEq, reduceIte, intD, @a_wrap ((k:Int) + 1) (by omega)]
  ·have : k = a.length := by omega
   subst this
   rw [hcnt]
   simp only [zN, seval, implies_true, Nat.reduceLeDiff, Nat.reduceEqDiff, reduceCtorEq, reduceIte, intD, (show ¬ (a.length:Int) < a.length by omega), beq_self_eq_true]
   repeat ((with_reducible refine And.intro ?_ ?_); (focus (first | omega | (simp only [lenR]; omega) | (refine qq ?_; rfl) | (refine dq ?_; kernel_rfl) | (intros; simp_all; done))))
   refine callG_pure (fun _ => k_awake) ?_
   simp only [zN, seval, implies_true, Nat.reduceLeDiff, Nat.reduceEqDiff, reduceCtorEq, reduceIte, intD]
   repeat ((with_reducible refine And.intro ?_ ?_); (focus (first | omega | (simp only [lenR]; omega) | (refine qq ?_; rfl) | (refine dq ?_; kernel_rfl) | (intros; simp_all; done))))
   exact ⟨_, _, ret_d, rfl, rfl⟩
end YtfmbadfdbjhekaaDoor
end Go.Proofs
