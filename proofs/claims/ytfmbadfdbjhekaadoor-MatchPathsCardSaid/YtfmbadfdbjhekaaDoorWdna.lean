/- A part of the proof: contracts of functions of this seat, and lemmas. No condition beyond those stated. -/
import Derived.Test.YtfmbadfdbjhekaaDoorWdyb
import Derived.Test.YtfmbadfdbjhekaaDoorG4
set_option linter.unusedVariables false
set_option linter.unusedSimpArgs false
set_option linter.unusedSectionVars false
set_option linter.unnecessarySimpa false
set_option maxRecDepth 100000
namespace Go.Proofs
open Go.AM
namespace YtfmbadfdbjhekaaDoor
variable {Gl : Globs}
def NodeT.toD (x : NodeT) : D := .agg [.int .i64 x.parent, .str x.name, .int .i64 x.self, .int .i64 x.total, .int .i64 x.count]
theorem nd_isAgg (x : NodeT) : x.toD.isAgg = true := rfl
theorem nd_cells (x : NodeT) : x.toD.cells = [.int .i64 x.parent, .str x.name, .int .i64 x.self, .int .i64 x.total, .int .i64 x.count] := rfl
structure PairT where
 a : Int
 b : Int
deriving Inhabited, DecidableEq
def PairT.toD (x : PairT) : D := .agg [.int .i64 x.a, .int .i64 x.b]
theorem pp_isAgg (x : PairT) : x.toD.isAgg = true := rfl
theorem pp_cells (x : PairT) : x.toD.cells = [.int .i64 x.a, .int .i64 x.b] := rfl
theorem zN : type_of% (And.intro @zA (And.intro @nd_isAgg (And.intro @nd_cells (And.intro @pp_isAgg (And.intro @pp_cells @yRules))))) := And.intro @zA (And.intro @nd_isAgg (And.intro @nd_cells (And.intro @pp_isAgg (And.intro @pp_cells @yRules))))
def nodesD (l : List NodeT) : D := .sl (l.map NodeT.toD)
theorem selfS_step (l : List NodeT) {k : Nat} (h : k < l.length) : selfS (l.take (k + 1)) = selfS (l.take k) + (l.getD k default).self := by
 simp only [selfS, take_step l k h, List.map_append, List.sum_append, List.map_cons, List.map_nil, List.sum_cons, List.sum_nil]; omega
theorem countS_step (l : List NodeT) {k : Nat} (h : k < l.length) : countS (l.take (k + 1)) = countS (l.take k) + (l.getD k default).count := by
 simp only [countS, take_step l k h, List.map_append, List.sum_append, List.map_cons, List.map_nil, List.sum_cons, List.sum_nil]; omega
theorem rangesF_bad {l : List NodeT} {k : Nat} (h : k < l.length) (hi : firstErr (fun k => nodeE (l.getD k default)) k = 0) {e : Int} (he : nodeE (l.getD k default) = e) (h0 : e ≠ 0) : rangesF l = e := by
 subst he
 have := firstErr_at (f := fun k => nodeE (l.getD k default)) hi h0 h
 rw [rangesF, if_neg (by rw [this]; exact h0), this]
theorem k_ranges (l : List NodeT) (hl : l.length ≤ 2000) : Pure Tryd.prog Gl 33 [.d (.sl (l.map NodeT.toD))] (.d (.int .i64 (rangesF l))) := by
 refine Pure.of1 ?_
 refine acalls_of Tryd.func33 rfl rfl (by simp [Tryd.ntmps33]) (evC_sound rfl _ _ _ _ ?_)
 simp only [Tryd.ntmps33, Tryd.results33, argEnv, List.length_nil]
 simp only [zN, seval, implies_true, Nat.reduceLeDiff, Nat.reduceEqDiff, reduceCtorEq, reduceIte]
 refine for_of l.length (fun k => [(3, .d (.int .i64 (selfS (l.take k)))), (4, .d (.int .i64 (countS (l.take k)))), (8, .d (.sl (l.map NodeT.toD))), (9, .d (.int .i64 l.length)), (10, .d (.int .i64 k))]) (fun _ => []) (fun k => firstErr (fun k => nodeE (l.getD k default)) k = 0) rfl ?_ ?_
 ·refine weak_to [] [] rfl List.nodup_nil ?_ rfl
  simp only [zN, seval, implies_true, Nat.reduceLeDiff, Nat.reduceEqDiff, reduceCtorEq, reduceIte, Int.cast_ofNat_Int]
  rfl
 ·intro k hi hk
  obtain ⟨b1, b2, b3, b4⟩ := sums_take hk hi
  by_cases h : k < l.length
  ·obtain ⟨x, hx⟩ : ∃ x, x = l.getD k default := ⟨_, rfl⟩
   have hs1 := selfS_step l h
   have hs2 := countS_step l h
   rw [← hx] at hs1 hs2
   simp only [zN, seval, implies_true, Nat.reduceLeDiff, Nat.reduceEqDiff, reduceCtorEq, reduceIte, (show (k:Int) < l.length by omega), h, a_getD _ _ _ (show k < l.length by omega)]
   rw [← hx]
   repeat ((with_reducible refine And.intro ?_ ?_); (focus (first | omega | (simp only [lenR]; omega) | (refine qq ?_; rfl) | (refine dq ?_; kernel_rfl) | (intros; simp_all; done))))
   refine callF_pure (k_Name _) ?_
   simp only [zN, seval, implies_true, Nat.reduceLeDiff, Nat.reduceEqDiff, reduceCtorEq, reduceIte]
   repeat ((with_reducible refine And.intro ?_ ?_); (focus (first | omega | (simp only [lenR]; omega) | (refine qq ?_; rfl) | (refine dq ?_; kernel_rfl) | (intros; simp_all; done))))
   refine ifC.mk (fun h1 => ?_) (fun h1 => ?_)
   ·have h1 : nameF x.name ≠ 0 := by simpa using h1
    refine ⟨_, _, ret_d, ?_, rfl⟩
    rw [rangesF_bad h hi (e := nameF x.name) (by rw [← hx, nodeE, if_neg h1]) h1]
   have h1 : nameF x.name = 0 := by simpa using h1
   repeat ((with_reducible refine And.intro ?_ ?_); (focus (first | omega | (simp only [lenR]; omega) | (refine qq ?_; rfl) | (refine dq ?_; kernel_rfl) | (intros; simp_all; done))))
   refine ifC.mk (fun h2 => ?_) (fun h2 => ?_)
   ·refine ⟨_, _, ret_d, ?_, rfl⟩
    rw [rangesF_bad h hi (e := 2) (by
     rw [← hx, nodeE, if_pos h1, if_pos]
     simp only [Bool.or_eq_true, Bool.and_eq_true, decide_eq_true_eq, beq_iff_eq, bne_iff_ne] at h2
     omega) (by decide)]
   ·have h2' : ¬ (x.self < 0 ∨ x.self > 100000000000000 ∨ x.count < 0 ∨ x.count > 20000 ∨ (x.count = 0 ∧ x.self ≠ 0)) := fun g => by
     simp only [Bool.or_eq_false_iff, Bool.and_eq_false_iff, decide_eq_false_iff_not, beq_eq_false_iff_ne, bne_eq_false_iff_eq] at h2
     omega
    repeat ((with_reducible refine And.intro ?_ ?_); (focus (first | omega | (simp only [lenR]; omega) | (refine qq ?_; rfl) | (refine dq ?_; kernel_rfl) | (intros; simp_all; done))))
    have hb : nodeE x = 0 := by rw [nodeE, if_pos h1, if_neg h2']
    refine ⟨firstErr_step hi (by rw [← hx]; exact hb), ?_⟩
    rw [hs1, hs2]
    refine weak_to [] [] rfl List.nodup_nil ?_ rfl
    simp only [zN, seval, implies_true, Nat.reduceLeDiff, Nat.reduceEqDiff, reduceCtorEq, reduceIte, @a_wrap ((k:Int) + 1) (by omega), @a_wrap (selfS (l.take k) + x.self) (by omega), @a_wrap (countS (l.take k) + x.count) (by omega)]
  ·simp only [zN, seval, implies_true, Nat.reduceLeDiff, Nat.reduceEqDiff, reduceCtorEq, reduceIte, (show ¬ (k:Int) < l.length by omega)]
   have : k = l.length := by omega
   subst this
   rw [List.take_length] at b1 b2 b3 b4 ⊢
   repeat ((with_reducible refine And.intro ?_ ?_); (focus (first | omega | (simp only [lenR]; omega) | (refine qq ?_; rfl) | (refine dq ?_; kernel_rfl) | (intros; simp_all; done))))
   refine ifC.mk (fun h1 => ?_) (fun h1 => ?_)
   ·refine ⟨_, _, ret_d, ?_, rfl⟩
    rw [rangesF, if_pos hi, if_pos (by simpa using h1)]
   ·refine ⟨_, _, ret_d, ?_, rfl⟩
    rw [rangesF, if_pos hi, if_neg (by simpa using h1)]
end YtfmbadfdbjhekaaDoor
end Go.Proofs
