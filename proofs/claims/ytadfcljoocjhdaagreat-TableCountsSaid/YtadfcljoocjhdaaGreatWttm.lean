/- A part of the proof: contracts of functions of this seat, and lemmas. No condition beyond those stated. -/
import Derived.Test.YtadfcljoocjhdaaGreatWttb
import Derived.Test.YtadfcljoocjhdaaGreatG4
import Derived.Test.YtadfcljoocjhdaaGreatWttq
set_option linter.unusedVariables false
set_option linter.unusedSimpArgs false
set_option linter.unusedSectionVars false
set_option linter.unnecessarySimpa false
set_option maxRecDepth 100000
namespace Go.Proofs
open Go.AM
namespace YtadfcljoocjhdaaGreat
variable {Gl : Globs}
theorem map_snoc {α β : Type} (f : α → β) (l : List α) (x : α) {n : Nat} (h : l.length = n) : List.map f (l ++ [x]) = List.take n (List.map f l) ++ [f x] := by
 subst h; rw [List.map_append, List.take_of_length_le (by simp)]; rfl
theorem k_row (cols : List ColT) (rows : List (List ValT)) (r : List ValT) (hc : rows.length < 1000000) : ACalls Tryz.prog Gl 45 [.ptr 0 0, .d (rowD r)]
  [.box 2 (.agg [.osl 1 0 cols.length, .osl 2 0 rows.length]), .arr 2 (cols.map ColT.toD), .arr 1 (rows.map rowD)]
  (fun u s => u = .tup [] ∧ s = [.box 2 (.agg [.osl 1 0 cols.length, .osl 3 0 (rows ++ [r]).length]), .arr 2 (cols.map ColT.toD), .dead, .arr 1 ((rows ++ [r]).map rowD)]) := by
 refine acalls_of Tryz.func45 rfl rfl (by simp [Tryz.ntmps45]) (evC_sound rfl _ _ _ _ ?_)
 simp only [Tryz.ntmps45, Tryz.results45, argEnv, List.length_nil]
 simp only [zT, seval, implies_true, Nat.reduceLeDiff, Nat.reduceEqDiff, reduceCtorEq, reduceIte]
 repeat ((with_reducible refine And.intro ?_ ?_); (focus (first | omega | (simp only [lenR]; omega) | (refine qq ?_; rfl) | (refine dq ?_; kernel_rfl) | (intros; simp_all; done))))
 simp only [zT, seval, implies_true, Nat.reduceLeDiff, Nat.reduceEqDiff, reduceCtorEq, reduceIte, take_all]
 refine ⟨_, _, weakR_to [] [0, 1, 2, 4] rfl (by simp) rfl rfl, rfl, ?_⟩
 rw [map_snoc rowD rows r rfl, take_all]
 rfl
def colsOf (k : Int) (l : List (List UInt8)) : List ColT := l.map fun nm => ⟨nm, k⟩
theorem colsOf_step (k : Int) (l : List (List UInt8)) {j : Nat} (h : j < l.length) : colsOf k (l.take (j + 1)) = colsOf k (l.take j) ++ [⟨l.getD j default, k⟩] := by
 rw [colsOf, List.take_add_one, List.map_append]
 simp [colsOf, h]
theorem k_cols0 (k : Int) (names : List (List UInt8)) (hn : names.length < 1000) : ACalls Tryz.prog Gl 44 [.ptr 0 0, .d (.int .i64 k), .d (.sl (names.map .str))]
  [.box 2 (.agg [.nils, .nils])]
  (fun u s => u = .ptr 0 0 ∧ s = [.box 2 (.agg [.osl 1 0 (colsOf k names).length, .nils]), .arr 2 ((colsOf k names).map ColT.toD)]) := by
 refine acalls_of Tryz.func44 rfl rfl (by simp [Tryz.ntmps44]) (evC_sound rfl _ _ _ _ ?_)
 simp only [Tryz.ntmps44, Tryz.results44, argEnv, List.length_nil]
 simp only [zT, seval, implies_true, Nat.reduceLeDiff, Nat.reduceEqDiff, reduceCtorEq, reduceIte]
 repeat ((with_reducible refine And.intro ?_ ?_); (focus (first | omega | (simp only [lenR]; omega) | (refine qq ?_; rfl) | (refine dq ?_; kernel_rfl) | (intros; simp_all; done))))
 refine for_of names.length (fun j => [(0, .ptr 0 0), (1, .d (.int .i64 k)), (9, .d (.sl (names.map .str))), (10, .d (.int .i64 names.length)), (11, .d (.int .i64 j))]) (fun j => [.box 2 (.agg [.osl 1 0 (colsOf k (names.take j)).length, .nils]), .arr 2 ((colsOf k (names.take j)).map ColT.toD)]) (fun j => True) trivial ?_ ?_
 ·refine (weak_boxNil (σ := [.box 2 (.agg [.nils, .nils])]) 0 2 0 (by simp) rfl rfl (by simp) (by simp)).trans ?_
  refine weak_to [] [0, 1] rfl (by simp) ?_ rfl
  simp only [zT, seval, implies_true, Nat.reduceLeDiff, Nat.reduceEqDiff, reduceCtorEq, reduceIte]
  all_goals rfl
 ·intro j hij hj
  by_cases g : j < names.length
  ·have hg : (List.map D.str names).getD j default = .str (names.getD j default) := by simp [g]
   have hs := colsOf_step k names g
   have hle : (colsOf k (names.take j)).length = j := by simp [colsOf]; omega
   have hle2 : (colsOf k (names.take (j + 1))).length = j + 1 := by simp [colsOf]; omega
   have hm : List.map ColT.toD (colsOf k (names.take (j + 1))) = List.take j (List.map ColT.toD (colsOf k (names.take j))) ++ [D.agg [.str (names.getD j default), .int .i64 k]] := by
    rw [hs]; exact map_snoc _ _ _ hle
   simp only [zT, seval, implies_true, Nat.reduceLeDiff, Nat.reduceEqDiff, reduceCtorEq, reduceIte, (show (j:Int) < names.length by omega), g, hg, hle]
   repeat ((with_reducible refine And.intro ?_ ?_); (focus (first | omega | (simp only [lenR]; omega) | (refine qq ?_; rfl) | (refine dq ?_; kernel_rfl) | (intros; simp_all; done))))
   rw [hle2, hm]
   refine weak_to [] [0, 3] rfl (by simp) ?_ rfl
   simp only [zT, seval, implies_true, Nat.reduceLeDiff, Nat.reduceEqDiff, reduceCtorEq, reduceIte, @a_wrap ((j:Int) + 1) (by omega)]
   all_goals rfl
  ·simp only [zT, seval, implies_true, Nat.reduceLeDiff, Nat.reduceEqDiff, reduceCtorEq, reduceIte, (show ¬ (j:Int) < names.length by omega)]
   have : j = names.length := by omega
   subst this
   rw [List.take_length]
   refine ⟨_, _, weakR_to [] [0, 1] rfl (by simp) rfl rfl, rfl, ?_⟩
   rfl
theorem k_cols (k : Int) (cs : List ColT) (names : List (List UInt8)) (hc : cs.length < 1000) (hn : names.length < 1000) (hn0 : 0 < names.length) : ACalls Tryz.prog Gl 44 [.ptr 0 0, .d (.int .i64 k), .d (.sl (names.map .str))]
  [.box 2 (.agg [.osl 1 0 cs.length, .nils]), .arr 2 (cs.map ColT.toD)]
  (fun u s => u = .ptr 0 0 ∧ s = [.box 2 (.agg [.osl 2 0 (cs ++ colsOf k names).length, .nils]), .dead, .arr 2 ((cs ++ colsOf k names).map ColT.toD)]) := by
 refine acalls_of Tryz.func44 rfl rfl (by simp [Tryz.ntmps44]) (evC_sound rfl _ _ _ _ ?_)
 simp only [Tryz.ntmps44, Tryz.results44, argEnv, List.length_nil]
 simp only [zT, seval, implies_true, Nat.reduceLeDiff, Nat.reduceEqDiff, reduceCtorEq, reduceIte]
 repeat ((with_reducible refine And.intro ?_ ?_); (focus (first | omega | (simp only [lenR]; omega) | (refine qq ?_; rfl) | (refine dq ?_; kernel_rfl) | (intros; simp_all; done))))
 refine for_of names.length (fun j => [(0, .ptr 0 0), (1, .d (.int .i64 k)), (9, .d (.sl (names.map .str))), (10, .d (.int .i64 names.length)), (11, .d (.int .i64 j))])
  (fun j => if j = 0 then [.box 2 (.agg [.osl 1 0 cs.length, .nils]), .arr 2 (cs.map ColT.toD)] else [.box 2 (.agg [.osl 2 0 (cs ++ colsOf k (names.take j)).length, .nils]), .dead, .arr 2 ((cs ++ colsOf k (names.take j)).map ColT.toD)]) (fun j => True) trivial ?_ ?_
 ·refine weak_to [] [0, 1] rfl (by simp) ?_ rfl
  simp only [zT, seval, implies_true, Nat.reduceLeDiff, Nat.reduceEqDiff, reduceCtorEq, reduceIte]
  all_goals rfl
 ·intro j hij hj
  rcases Nat.eq_zero_or_pos j with e | e
  ·subst e
   have hg : (List.map D.str names).getD 0 default = .str (names.getD 0 default) := by simp [hn0]
   have hs := colsOf_step k names hn0
   rw [if_pos rfl, if_neg (by decide)]
   have hn1 : decide ((0:Int) < (names.length : Int)) = true := decide_eq_true (by omega)
   have hl : (cs ++ colsOf k (List.take (0 + 1) names)).length = cs.length + 1 := by simp [colsOf]; omega
   have hm : List.map ColT.toD (cs ++ colsOf k (List.take (0 + 1) names)) = List.take cs.length (List.map ColT.toD cs) ++ [D.agg [.str (names.getD 0 default), .int .i64 k]] := by
    rw [hs]; exact map_snoc ColT.toD cs _ rfl
   rw [hl, hm]
   simp only [zT, seval, implies_true, Nat.reduceLeDiff, Nat.reduceEqDiff, reduceCtorEq, reduceIte, hn1, hn0, hg]
   repeat ((with_reducible refine And.intro ?_ ?_); (focus (first | omega | (simp only [lenR]; omega) | (refine qq ?_; rfl) | (refine dq ?_; kernel_rfl) | (intros; simp_all; done))))
   refine weak_to [] [0, 1, 3] rfl (by simp) ?_ rfl
   simp only [zT, seval, implies_true, Nat.reduceLeDiff, Nat.reduceEqDiff, reduceCtorEq, reduceIte, @a_wrap ((1:Int)) (by omega)]
   all_goals rfl
  rw [if_neg (by omega)]
  by_cases g : j < names.length
  ·have hg : (List.map D.str names).getD j default = .str (names.getD j default) := by simp [g]
   have hs := colsOf_step k names g
   have hl : (cs ++ colsOf k (List.take (j + 1) names)).length = cs.length + (colsOf k (names.take j)).length + 1 := by simp [colsOf]; omega
   have hlj : (colsOf k (names.take j)).length ≤ j := by simp [colsOf]; omega
   have hm : List.map ColT.toD (cs ++ colsOf k (List.take (j + 1) names)) = List.take (cs.length + (colsOf k (names.take j)).length) (List.map ColT.toD (cs ++ colsOf k (names.take j))) ++ [D.agg [.str (names.getD j default), .int .i64 k]] := by
    rw [hs, ← List.append_assoc]; exact map_snoc _ _ _ (by rw [List.length_append])
   rw [if_neg (by omega), hl, hm]
   simp only [zT, seval, implies_true, Nat.reduceLeDiff, Nat.reduceEqDiff, reduceCtorEq, reduceIte, (show (j:Int) < names.length by omega), g, hg]
   repeat ((with_reducible refine And.intro ?_ ?_); (focus (first | omega | (simp only [lenR]; omega) | (refine qq ?_; rfl) | (refine dq ?_; kernel_rfl) | (intros; simp_all; done))))
   refine weak_to [] [0, 1, 4] rfl (by simp) ?_ rfl
   simp only [zT, seval, implies_true, Nat.reduceLeDiff, Nat.reduceEqDiff, reduceCtorEq, reduceIte, @a_wrap ((j:Int) + 1) (by omega)]
   all_goals rfl
  ·simp only [zT, seval, implies_true, Nat.reduceLeDiff, Nat.reduceEqDiff, reduceCtorEq, reduceIte, (show ¬ (j:Int) < names.length by omega)]
   have : j = names.length := by omega
   subst this
   rw [List.take_length]
   refine ⟨_, _, weakR_to [] [0, 1, 2] rfl (by simp) rfl rfl, rfl, ?_⟩
   rfl
end YtadfcljoocjhdaaGreat
end Go.Proofs
