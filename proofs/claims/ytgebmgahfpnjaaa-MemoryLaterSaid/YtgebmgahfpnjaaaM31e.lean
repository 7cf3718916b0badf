/- A part of the proof: contracts of functions of this seat, and lemmas. No condition beyond those stated. -/
import Derived.Test.YtgebmgahfpnjaaaM31d
set_option linter.unusedVariables false
set_option linter.unusedSimpArgs false
set_option linter.unusedSectionVars false
set_option linter.unnecessarySimpa false
set_option linter.unusedSimpArgs false
set_option linter.unusedVariables false
set_option maxRecDepth 100000
namespace Go.Proofs
open Go.AM
namespace Ytgebmgahfpnjaaa

theorem c30 : PredOk 30 (fun b => decide (b.hi ≤ b.lo)) := fun b => by
  refine Pure.of1 ?_
  refine acalls_of Try.func30 rfl rfl (by simp [Try.ntmps30]) (evC_sound rfl _ _ _ _ ?_)
  simp only [Try.ntmps30, Try.results30, argEnv, List.length_nil]
  simp only [vcRules, dRules, bRules, tyRules, xRules, pickV_true, pickV_false, implies_true, Nat.reduceLT, Nat.reduceLeDiff, Nat.reduceEqDiff, Nat.reduceAdd, Nat.reduceSub, Nat.reduceMul, Int.reduceToNat, Int.reduceLT, Int.reduceLE, Int.reduceEq, Int.reduceAdd, Int.reduceSub, Int.reduceNeg, Int.reduceBEq, Int.reduceBNe, Int.reduceMul, Int.natCast_add, Int.natCast_one, reduceCtorEq, reduceIte, b_isAgg, b_cells, t_isAgg, t_cells]
  exact ⟨_, _, ret_d, rfl, rfl⟩
theorem c41 : PredOk 41 (fun b => !b.live) := fun b => by
  refine Pure.of1 ?_
  refine acalls_of Try.func41 rfl rfl (by simp [Try.ntmps41]) (evC_sound rfl _ _ _ _ ?_)
  simp only [Try.ntmps41, Try.results41, argEnv, List.length_nil]
  simp only [vcRules, dRules, bRules, tyRules, xRules, pickV_true, pickV_false, implies_true, Nat.reduceLT, Nat.reduceLeDiff, Nat.reduceEqDiff, Nat.reduceAdd, Nat.reduceSub, Nat.reduceMul, Int.reduceToNat, Int.reduceLT, Int.reduceLE, Int.reduceEq, Int.reduceAdd, Int.reduceSub, Int.reduceNeg, Int.reduceBEq, Int.reduceBNe, Int.reduceMul, Int.natCast_add, Int.natCast_one, reduceCtorEq, reduceIte, b_isAgg, b_cells, t_isAgg, t_cells]
  exact ⟨_, _, ret_d, rfl, rfl⟩
theorem c45 (a : Int) : Pure Try.prog 45 [.d (.int .i64 a)] (.d (.bool false)) := by
  refine Pure.of1 ?_
  refine acalls_of Try.func45 rfl rfl (by simp [Try.ntmps45]) (evC_sound rfl _ _ _ _ ?_)
  simp only [Try.ntmps45, Try.results45, argEnv, List.length_nil]
  simp only [vcRules, dRules, bRules, tyRules, xRules, pickV_true, pickV_false, implies_true, Nat.reduceLT, Nat.reduceLeDiff, Nat.reduceEqDiff, Nat.reduceAdd, Nat.reduceSub, Nat.reduceMul, Int.reduceToNat, Int.reduceLT, Int.reduceLE, Int.reduceEq, Int.reduceAdd, Int.reduceSub, Int.reduceNeg, Int.reduceBEq, Int.reduceBNe, Int.reduceMul, Int.natCast_add, Int.natCast_one, reduceCtorEq, reduceIte, b_isAgg, b_cells, t_isAgg, t_cells]
  refine ⟨_, _, ret_d, ?_, rfl⟩
  simp
def cmpI (a b : Int) : Int := if a < b then -1 else if b < a then 1 else 0
theorem c33 (a b : Int) : Pure Try.prog 33 [.d (.int .i64 a), .d (.int .i64 b)] (.d (.int .i64 (cmpI a b))) := by
  refine Pure.of2 ?_
  refine acalls_of Try.func33 rfl rfl (by simp [Try.ntmps33]) (evC_sound rfl _ _ _ _ ?_)
  simp only [Try.ntmps33, Try.results33, argEnv, List.length_nil]
  simp only [vcRules, dRules, bRules, tyRules, xRules, pickV_true, pickV_false, implies_true, Nat.reduceLT, Nat.reduceLeDiff, Nat.reduceEqDiff, Nat.reduceAdd, Nat.reduceSub, Nat.reduceMul, Int.reduceToNat, Int.reduceLT, Int.reduceLE, Int.reduceEq, Int.reduceAdd, Int.reduceSub, Int.reduceNeg, Int.reduceBEq, Int.reduceBNe, Int.reduceMul, Int.natCast_add, Int.natCast_one, reduceCtorEq, reduceIte, b_isAgg, b_cells, t_isAgg, t_cells]
  refine callF_pure (c45 _) ?_
  simp only [vcRules, dRules, bRules, tyRules, xRules, pickV_true, pickV_false, implies_true, Nat.reduceLT, Nat.reduceLeDiff, Nat.reduceEqDiff, Nat.reduceAdd, Nat.reduceSub, Nat.reduceMul, Int.reduceToNat, Int.reduceLT, Int.reduceLE, Int.reduceEq, Int.reduceAdd, Int.reduceSub, Int.reduceNeg, Int.reduceBEq, Int.reduceBNe, Int.reduceMul, Int.natCast_add, Int.natCast_one, reduceCtorEq, reduceIte, b_isAgg, b_cells, t_isAgg, t_cells]
  refine callF_pure (c45 _) ?_
  simp only [vcRules, dRules, bRules, tyRules, xRules, pickV_true, pickV_false, implies_true, Nat.reduceLT, Nat.reduceLeDiff, Nat.reduceEqDiff, Nat.reduceAdd, Nat.reduceSub, Nat.reduceMul, Int.reduceToNat, Int.reduceLT, Int.reduceLE, Int.reduceEq, Int.reduceAdd, Int.reduceSub, Int.reduceNeg, Int.reduceBEq, Int.reduceBNe, Int.reduceMul, Int.natCast_add, Int.natCast_one, reduceCtorEq, reduceIte, b_isAgg, b_cells, t_isAgg, t_cells]
  refine ifC.mk (fun h1 => ?_) (fun h1 => ?_)
  · refine ⟨_, _, ret_d, ?_, rfl⟩
    rw [cmpI, if_pos (by simpa using h1)]
  · refine ifC.mk (fun h2 => ?_) (fun h2 => ?_)
    · refine ⟨_, _, ret_d, ?_, rfl⟩
      rw [cmpI, if_neg (by simpa using h1), if_pos (by simpa using h2)]
    · refine ⟨_, _, ret_d, ?_, rfl⟩
      rw [cmpI, if_neg (by simpa using h1), if_neg (by simpa using h2)]
theorem c32 (a b : BlockT) : Pure Try.prog 32 [.d a.toD, .d b.toD] (.d (.int .i64 (cmpI a.lo b.lo))) := by
  refine Pure.of2 ?_
  refine acalls_of Try.func32 rfl rfl (by simp [Try.ntmps32]) (evC_sound rfl _ _ _ _ ?_)
  simp only [Try.ntmps32, Try.results32, argEnv, List.length_nil]
  simp only [vcRules, dRules, bRules, tyRules, xRules, pickV_true, pickV_false, implies_true, Nat.reduceLT, Nat.reduceLeDiff, Nat.reduceEqDiff, Nat.reduceAdd, Nat.reduceSub, Nat.reduceMul, Int.reduceToNat, Int.reduceLT, Int.reduceLE, Int.reduceEq, Int.reduceAdd, Int.reduceSub, Int.reduceNeg, Int.reduceBEq, Int.reduceBNe, Int.reduceMul, Int.natCast_add, Int.natCast_one, reduceCtorEq, reduceIte, b_isAgg, b_cells, t_isAgg, t_cells]
  refine callF_pure (c33 _ _) ?_
  simp only [vcRules, dRules, bRules, tyRules, xRules, pickV_true, pickV_false, implies_true, Nat.reduceLT, Nat.reduceLeDiff, Nat.reduceEqDiff, Nat.reduceAdd, Nat.reduceSub, Nat.reduceMul, Int.reduceToNat, Int.reduceLT, Int.reduceLE, Int.reduceEq, Int.reduceAdd, Int.reduceSub, Int.reduceNeg, Int.reduceBEq, Int.reduceBNe, Int.reduceMul, Int.natCast_add, Int.natCast_one, reduceCtorEq, reduceIte, b_isAgg, b_cells, t_isAgg, t_cells]
  exact ⟨_, _, ret_d, rfl, rfl⟩

def atT (a b c d e : Int) : TimedT := ⟨a, 0, b, c, [], d, e, [], b, b⟩
theorem c27 (a b c d e : Int) : Pure Try.prog 27 [.d (.int .i64 a), .d (.int .i64 b), .d (.int .i64 c), .d (.int .i64 d), .d (.int .i64 e)] (.d (atT a b c d e).toD) := by
  refine Pure.of5 ?_
  refine acalls_of Try.func27 rfl rfl (by simp [Try.ntmps27]) (evC_sound rfl _ _ _ _ ?_)
  simp only [Try.ntmps27, Try.results27, argEnv, List.length_nil]
  simp only [vcRules, dRules, bRules, tyRules, xRules, pickV_true, pickV_false, implies_true, Nat.reduceLT, Nat.reduceLeDiff, Nat.reduceEqDiff, Nat.reduceAdd, Nat.reduceSub, Nat.reduceMul, Int.reduceToNat, Int.reduceLT, Int.reduceLE, Int.reduceEq, Int.reduceAdd, Int.reduceSub, Int.reduceNeg, Int.reduceBEq, Int.reduceBNe, Int.reduceMul, Int.natCast_add, Int.natCast_one, reduceCtorEq, reduceIte, b_isAgg, b_cells, t_isAgg, t_cells]
  repeat ((with_reducible refine And.intro ?_ ?_); (focus (first | omega | (intros; simp_all; done) | kernel_rfl)))
  exact ⟨_, _, ret_data rfl rfl, rfl, rfl⟩
end Ytgebmgahfpnjaaa
end Go.Proofs
