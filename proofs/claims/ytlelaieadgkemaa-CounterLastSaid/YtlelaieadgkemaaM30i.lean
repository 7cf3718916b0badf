/- A part of the proof: contracts of functions of this seat, and lemmas. No condition beyond those stated. -/
import Derived.Test.YtlelaieadgkemaaM30h
import Derived.Test.YtlelaieadgkemaaG5
set_option linter.unusedVariables false
set_option linter.unusedSimpArgs false
set_option linter.unusedSectionVars false
set_option linter.unnecessarySimpa false
set_option linter.unusedSimpArgs false
set_option linter.unusedVariables false
set_option maxRecDepth 100000
namespace Go.Proofs
open Go.AM
namespace Ytlelaieadgkemaa

def atT (s t n : Int) : TimedT := ⟨1, s, t, 4, [99], n, 0, [], t, t⟩
theorem c23 (s t n : Int) : Pure Try.prog 23 [.d (.int .i64 s), .d (.int .i64 t), .d (.int .i64 n)] (.d (atT s t n).toD) := by
  refine Pure.of3 ?_
  refine acalls_of Try.func23 rfl rfl (by simp [Try.ntmps23]) (evC_sound rfl _ _ _ _ ?_)
  simp only [Try.ntmps23, Try.results23, argEnv, List.length_nil]
  simp only [vcRules, dRules, bRules, tyRules, xRules, pickV_true, pickV_false, implies_true, Nat.reduceLT, Nat.reduceLeDiff, Nat.reduceEqDiff, Nat.reduceAdd, Nat.reduceSub, Nat.reduceMul, Int.reduceToNat, Int.reduceLT, Int.reduceLE, Int.reduceEq, Int.reduceAdd, Int.reduceSub, Int.reduceNeg, Int.reduceBEq, Int.reduceBNe, Int.reduceMul, Int.natCast_add, Int.natCast_one, reduceCtorEq, reduceIte, s_isAgg, s_cells, t_isAgg, t_cells, yRules, bytes_lit]
  repeat ((with_reducible refine And.intro ?_ ?_); (focus (first | omega | (simp only [List.length_take, List.length_drop, List.length_map, List.length_append, List.length_cons]; omega) | (intros; simp_all; done) | (refine (show drawChk _ = true from ?_); kernel_rfl))))
  exact ⟨_, _, ret_data rfl rfl, rfl, rfl⟩
def wl : List StepT := [⟨[99], 2, 1⟩, ⟨[99], 4, 3⟩]
theorem w_of : ofF [atT 0 2 1, atT 1 4 5, atT 2 4 3] = wl := by kernel_rfl
theorem w_int : intF wl [99] 0 6 = (8, true) := by kernel_rfl
theorem w_at : atF wl [99] 3 wl.length = (1, true) := by kernel_rfl
theorem w_peak : peakF wl [99] wl.length = (⟨[99], 4, 3⟩, true) := by kernel_rfl
theorem w_chk : checkF wl = 0 := by kernel_rfl
theorem w_in : ∀ b ∈ wl, inB b.value = true := by
  intro b hb
  unfold wl at hb
  simp only [List.mem_cons, List.not_mem_nil, or_false] at hb
  rcases hb with rfl | rfl <;> rfl
theorem w_len : wl.length = 2 := rfl
theorem w_g1 : (wl.map StepT.toD).getD 1 default = (⟨[99], 4, 3⟩ : StepT).toD := rfl
theorem z_wl : [D.agg [.str [99], .int .i64 2, .int .i64 1], .agg [.str [99], .int .i64 4, .int .i64 3]] = wl.map StepT.toD := rfl
theorem c10 : Pure Try.prog 10 [] (.d (.bool true)) := by
  refine Pure.of0 ?_
  refine acalls_of Try.func10 rfl rfl (by simp [Try.ntmps10]) (evC_sound rfl _ _ _ _ ?_)
  simp only [Try.ntmps10, Try.results10, argEnv, List.length_nil]
  simp only [vcRules, dRules, bRules, tyRules, xRules, pickV_true, pickV_false, implies_true, Nat.reduceLT, Nat.reduceLeDiff, Nat.reduceEqDiff, Nat.reduceAdd, Nat.reduceSub, Nat.reduceMul, Int.reduceToNat, Int.reduceLT, Int.reduceLE, Int.reduceEq, Int.reduceAdd, Int.reduceSub, Int.reduceNeg, Int.reduceBEq, Int.reduceBNe, Int.reduceMul, Int.natCast_add, Int.natCast_one, reduceCtorEq, reduceIte, s_isAgg, s_cells, t_isAgg, t_cells, yRules, bytes_lit]
  refine callF_pure (c23 _ _ _) ?_
  simp only [vcRules, dRules, bRules, tyRules, xRules, pickV_true, pickV_false, implies_true, Nat.reduceLT, Nat.reduceLeDiff, Nat.reduceEqDiff, Nat.reduceAdd, Nat.reduceSub, Nat.reduceMul, Int.reduceToNat, Int.reduceLT, Int.reduceLE, Int.reduceEq, Int.reduceAdd, Int.reduceSub, Int.reduceNeg, Int.reduceBEq, Int.reduceBNe, Int.reduceMul, Int.natCast_add, Int.natCast_one, reduceCtorEq, reduceIte, s_isAgg, s_cells, t_isAgg, t_cells, yRules]
  refine callF_pure (c23 _ _ _) ?_
  simp only [vcRules, dRules, bRules, tyRules, xRules, pickV_true, pickV_false, implies_true, Nat.reduceLT, Nat.reduceLeDiff, Nat.reduceEqDiff, Nat.reduceAdd, Nat.reduceSub, Nat.reduceMul, Int.reduceToNat, Int.reduceLT, Int.reduceLE, Int.reduceEq, Int.reduceAdd, Int.reduceSub, Int.reduceNeg, Int.reduceBEq, Int.reduceBNe, Int.reduceMul, Int.natCast_add, Int.natCast_one, reduceCtorEq, reduceIte, s_isAgg, s_cells, t_isAgg, t_cells, yRules]
  refine callF_pure (c23 _ _ _) ?_
  simp only [vcRules, dRules, bRules, tyRules, xRules, pickV_true, pickV_false, implies_true, Nat.reduceLT, Nat.reduceLeDiff, Nat.reduceEqDiff, Nat.reduceAdd, Nat.reduceSub, Nat.reduceMul, Int.reduceToNat, Int.reduceLT, Int.reduceLE, Int.reduceEq, Int.reduceAdd, Int.reduceSub, Int.reduceNeg, Int.reduceBEq, Int.reduceBNe, Int.reduceMul, Int.natCast_add, Int.natCast_one, reduceCtorEq, reduceIte, s_isAgg, s_cells, t_isAgg, t_cells, yRules]
  repeat ((with_reducible refine And.intro ?_ ?_); (focus (first | omega | (simp only [List.length_take, List.length_drop, List.length_map, List.length_append, List.length_cons]; omega) | (intros; simp_all; done) | (refine (show drawChk _ = true from ?_); kernel_rfl))))
  refine callF_dataE (σ' := [.frz 10 [(atT 0 2 1).toD, (atT 1 4 5).toD, (atT 2 4 3).toD]]) (c11 [atT 0 2 1, atT 1 4 5, atT 2 4 3] (by simp)) rfl rfl ?_
  rw [w_of]
  simp only [vcRules, dRules, bRules, tyRules, xRules, pickV_true, pickV_false, implies_true, Nat.reduceLT, Nat.reduceLeDiff, Nat.reduceEqDiff, Nat.reduceAdd, Nat.reduceSub, Nat.reduceMul, Int.reduceToNat, Int.reduceLT, Int.reduceLE, Int.reduceEq, Int.reduceAdd, Int.reduceSub, Int.reduceNeg, Int.reduceBEq, Int.reduceBNe, Int.reduceMul, Int.natCast_add, Int.natCast_one, reduceCtorEq, reduceIte, s_isAgg, s_cells, t_isAgg, t_cells, yRules, bytes_lit]
  repeat ((with_reducible refine And.intro ?_ ?_); (focus (first | omega | (simp only [List.length_take, List.length_drop, List.length_map, List.length_append, List.length_cons]; omega) | (intros; simp_all; done) | (refine (show drawChk _ = true from ?_); kernel_rfl))))
  rw [z_wl]
  refine callF_dataE (σ' := [.frz 10 [(atT 0 2 1).toD, (atT 1 4 5).toD, (atT 2 4 3).toD], .frz 3 (wl.map StepT.toD)]) (c20 wl [99] 0 6 (by simp [wl]) w_in) rfl rfl ?_
  rw [w_int]
  simp only [vcRules, dRules, bRules, tyRules, xRules, pickV_true, pickV_false, implies_true, Nat.reduceLT, Nat.reduceLeDiff, Nat.reduceEqDiff, Nat.reduceAdd, Nat.reduceSub, Nat.reduceMul, Int.reduceToNat, Int.reduceLT, Int.reduceLE, Int.reduceEq, Int.reduceAdd, Int.reduceSub, Int.reduceNeg, Int.reduceBEq, Int.reduceBNe, Int.reduceMul, Int.natCast_add, Int.natCast_one, reduceCtorEq, reduceIte, s_isAgg, s_cells, t_isAgg, t_cells, yRules, bytes_lit]
  repeat ((with_reducible refine And.intro ?_ ?_); (focus (first | omega | (simp only [List.length_take, List.length_drop, List.length_map, List.length_append, List.length_cons]; omega) | (intros; simp_all; done) | (refine (show drawChk _ = true from ?_); kernel_rfl))))
  refine callF_rd (xs := [.sl (wl.map StepT.toD), .str [99], .int .i64 3]) (c15 wl [99] 3 (by simp [wl])) (.cons (.osl rfl rfl) (.cons (.d _) (.cons (.d _) .nil))) ?_
  rw [w_at]
  simp only [vcRules, dRules, bRules, tyRules, xRules, pickV_true, pickV_false, implies_true, Nat.reduceLT, Nat.reduceLeDiff, Nat.reduceEqDiff, Nat.reduceAdd, Nat.reduceSub, Nat.reduceMul, Int.reduceToNat, Int.reduceLT, Int.reduceLE, Int.reduceEq, Int.reduceAdd, Int.reduceSub, Int.reduceNeg, Int.reduceBEq, Int.reduceBNe, Int.reduceMul, Int.natCast_add, Int.natCast_one, reduceCtorEq, reduceIte, s_isAgg, s_cells, t_isAgg, t_cells, yRules, bytes_lit]
  repeat ((with_reducible refine And.intro ?_ ?_); (focus (first | omega | (simp only [List.length_take, List.length_drop, List.length_map, List.length_append, List.length_cons]; omega) | (intros; simp_all; done) | (refine (show drawChk _ = true from ?_); kernel_rfl))))
  refine callF_rd (xs := [.sl (wl.map StepT.toD), .str [99]]) (c18 wl [99] (by simp [wl])) (.cons (.osl rfl rfl) (.cons (.d _) .nil)) ?_
  rw [w_peak]
  simp only [vcRules, dRules, bRules, tyRules, xRules, pickV_true, pickV_false, implies_true, Nat.reduceLT, Nat.reduceLeDiff, Nat.reduceEqDiff, Nat.reduceAdd, Nat.reduceSub, Nat.reduceMul, Int.reduceToNat, Int.reduceLT, Int.reduceLE, Int.reduceEq, Int.reduceAdd, Int.reduceSub, Int.reduceNeg, Int.reduceBEq, Int.reduceBNe, Int.reduceMul, Int.natCast_add, Int.natCast_one, reduceCtorEq, reduceIte, s_isAgg, s_cells, t_isAgg, t_cells, yRules, bytes_lit]
  repeat ((with_reducible refine And.intro ?_ ?_); (focus (first | omega | (simp only [List.length_take, List.length_drop, List.length_map, List.length_append, List.length_cons]; omega) | (intros; simp_all; done) | (refine (show drawChk _ = true from ?_); kernel_rfl))))
  refine callF_rd (xs := [.sl (wl.map StepT.toD), .sl (wl.map StepT.toD)]) (c12 wl wl (by simp [wl]) (by simp [wl])) (.cons (.d _) (.cons (.osl rfl rfl) .nil)) ?_
  rw [decide_eq_true rfl]
  simp only [vcRules, dRules, bRules, tyRules, xRules, pickV_true, pickV_false, implies_true, Nat.reduceLT, Nat.reduceLeDiff, Nat.reduceEqDiff, Nat.reduceAdd, Nat.reduceSub, Nat.reduceMul, Int.reduceToNat, Int.reduceLT, Int.reduceLE, Int.reduceEq, Int.reduceAdd, Int.reduceSub, Int.reduceNeg, Int.reduceBEq, Int.reduceBNe, Int.reduceMul, Int.natCast_add, Int.natCast_one, reduceCtorEq, reduceIte, s_isAgg, s_cells, t_isAgg, t_cells, yRules]
  repeat ((with_reducible refine And.intro ?_ ?_); (focus (first | omega | (simp only [List.length_take, List.length_drop, List.length_map, List.length_append, List.length_cons]; omega) | (intros; simp_all; done) | (refine (show drawChk _ = true from ?_); kernel_rfl))))
  refine callG_rd (xs := [.sl (wl.map StepT.toD)]) (fun _ => c14 wl (by simp [wl])) (.cons (.osl rfl rfl) .nil) ?_
  rw [w_chk]
  simp only [vcRules, dRules, bRules, tyRules, xRules, pickV_true, pickV_false, implies_true, Nat.reduceLT, Nat.reduceLeDiff, Nat.reduceEqDiff, Nat.reduceAdd, Nat.reduceSub, Nat.reduceMul, Int.reduceToNat, Int.reduceLT, Int.reduceLE, Int.reduceEq, Int.reduceAdd, Int.reduceSub, Int.reduceNeg, Int.reduceBEq, Int.reduceBNe, Int.reduceMul, Int.natCast_add, Int.natCast_one, reduceCtorEq, reduceIte, s_isAgg, s_cells, t_isAgg, t_cells, yRules, w_len, w_g1, Int.cast_ofNat_Int, StepT.toD]
  repeat ((with_reducible refine And.intro ?_ ?_); (focus (first | omega | (simp only [List.length_take, List.length_drop, List.length_map, List.length_append, List.length_cons]; omega) | (intros; simp_all; done) | (refine (show drawChk _ = true from ?_); kernel_rfl))))
  exact ⟨_, _, ret_d, rfl, rfl⟩
end Ytlelaieadgkemaa
end Go.Proofs
