/- A part of the proof: contracts of functions of this seat, and lemmas. No condition beyond those stated. -/
import Derived.Test.YtlelaieadgkemaaM30h
set_option linter.unusedVariables false
set_option linter.unusedSimpArgs false
set_option linter.unusedSectionVars false
set_option linter.unnecessarySimpa false
set_option linter.unusedSimpArgs false
set_option linter.unusedVariables false
set_option maxRecDepth 100000
namespace Go.Proofs
open Go.AM
namespace Ytlelaieadgkemaa

def evD (o : TimedT) : D := .agg [.int .i64 o.at_, .int .i64 o.kind, .str o.name, .int .i64 o.n, .int .i64 o.m, .sl (o.stack.map .str)]
theorem e_isAgg (o : TimedT) : (evD o).isAgg = true := rfl
theorem e_cells (o : TimedT) : (evD o).cells = [.int .i64 o.at_, .int .i64 o.kind, .str o.name, .int .i64 o.n, .int .i64 o.m, .sl (o.stack.map .str)] := rfl
def idD (o : TimedT) : D := .agg [.int .i64 o.thread, .int .i64 o.serial]
theorem i_isAgg (o : TimedT) : (idD o).isAgg = true := rfl
theorem i_cells (o : TimedT) : (idD o).cells = [.int .i64 o.thread, .int .i64 o.serial] := rfl

def wiI (n lo hi : Int) : Int := if (decide (n < lo) || decide (hi < n)) = true then 2 else 0
theorem c65 (n lo hi : Int) : Pure Try.prog 65 [.d (.int .i64 n), .d (.int .i64 lo), .d (.int .i64 hi)] (.d (.int .i64 (wiI n lo hi))) := by
  refine Pure.of3 ?_
  refine acalls_of Try.func65 rfl rfl (by simp [Try.ntmps65]) (evC_sound rfl _ _ _ _ ?_)
  simp only [Try.ntmps65, Try.results65, argEnv, List.length_nil]
  simp only [vcRules, dRules, bRules, tyRules, xRules, pickV_true, pickV_false, implies_true, Nat.reduceLT, Nat.reduceLeDiff, Nat.reduceEqDiff, Nat.reduceAdd, Nat.reduceSub, Nat.reduceMul, Int.reduceToNat, Int.reduceLT, Int.reduceLE, Int.reduceEq, Int.reduceAdd, Int.reduceSub, Int.reduceNeg, Int.reduceBEq, Int.reduceBNe, Int.reduceMul, Int.natCast_add, Int.natCast_one, reduceCtorEq, reduceIte, s_isAgg, s_cells, t_isAgg, t_cells, e_isAgg, e_cells, i_isAgg, i_cells, yRules]
  refine ifC.mk (fun h => ?_) (fun h => ?_)
  · refine ⟨_, _, ret_d, ?_, rfl⟩
    rw [wiI, if_pos h]
  · refine ⟨_, _, ret_d, ?_, rfl⟩
    rw [wiI, if_neg (by rw [h]; simp)]
def uName (k : Int) : Bool := k == 1 || k == 3 || k == 4
def uN (k : Int) : Bool := decide (4 ≤ k)
def uM (k : Int) : Bool := k == 9 || k == 11
def uSt (k : Int) : Bool := k == 5 || k == 11
theorem back_t4 (x y z w : D) (b : Nat → Nat) : back b (.tup [.d x, .d y, .d z, .d w]) = .tup [.d x, .d y, .d z, .d w] := by simp [back, backL]
theorem c52 (k : Int) : Pure Try.prog 52 [.d (.int .i64 k)] (.tup [.d (.bool (uName k)), .d (.bool (uN k)), .d (.bool (uM k)), .d (.bool (uSt k))]) := by
  refine Pure.ofT (args := [_]) (back_t4 _ _ _ _) ?_
  simp only [List.map_cons, List.map_nil]
  refine acalls_of Try.func52 rfl rfl (by simp [Try.ntmps52]) (evC_sound rfl _ _ _ _ ?_)
  simp only [Try.ntmps52, Try.results52, argEnv, List.length_nil]
  simp only [vcRules, dRules, bRules, tyRules, xRules, pickV_true, pickV_false, implies_true, Nat.reduceLT, Nat.reduceLeDiff, Nat.reduceEqDiff, Nat.reduceAdd, Nat.reduceSub, Nat.reduceMul, Int.reduceToNat, Int.reduceLT, Int.reduceLE, Int.reduceEq, Int.reduceAdd, Int.reduceSub, Int.reduceNeg, Int.reduceBEq, Int.reduceBNe, Int.reduceMul, Int.natCast_add, Int.natCast_one, reduceCtorEq, reduceIte, s_isAgg, s_cells, t_isAgg, t_cells, e_isAgg, e_cells, i_isAgg, i_cells, yRules]
  exact ⟨_, _, weakR_to [] [] rfl List.nodup_nil rfl rfl, rfl, rfl⟩
def numF (o : TimedT) : Int :=
  if (o.kind == 1 || o.kind == 2 || o.kind == 3) = true then 0
  else if o.kind = 4 then wiI o.n (-1000000000000000) 1000000000000000
  else if o.kind = 5 then wiI o.n 1 1000000000000
  else if o.kind = 8 then wiI o.n 0 63
  else if o.kind = 9 then (if (wiI o.n 0 3 == 0 && o.n == 2) = true then wiI o.m 0 1000000000000000 else if (wiI o.n 0 3 == 0 && o.m != 0) = true then 1 else wiI o.n 0 3)
  else if (wiI o.n 0 1000000000000000 == 0 && o.kind == 11) = true then wiI o.m 1 1000000000000 else wiI o.n 0 1000000000000000
theorem c54 (o : TimedT) : Pure Try.prog 54 [.d (evD o)] (.d (.int .i64 (numF o))) := by
  refine Pure.of1 ?_
  by_cases h1 : o.kind = 1
  · refine acalls_of Try.func54 rfl rfl (by simp [Try.ntmps54]) (evC_sound rfl _ _ _ _ ?_)
    simp only [Try.ntmps54, Try.results54, argEnv, List.length_nil]
    simp only [vcRules, dRules, bRules, tyRules, xRules, pickV_true, pickV_false, implies_true, Nat.reduceLT, Nat.reduceLeDiff, Nat.reduceEqDiff, Nat.reduceAdd, Nat.reduceSub, Nat.reduceMul, Int.reduceToNat, Int.reduceLT, Int.reduceLE, Int.reduceEq, Int.reduceAdd, Int.reduceSub, Int.reduceNeg, Int.reduceBEq, Int.reduceBNe, Int.reduceMul, Int.natCast_add, Int.natCast_one, reduceCtorEq, reduceIte, s_isAgg, s_cells, t_isAgg, t_cells, e_isAgg, e_cells, i_isAgg, i_cells, yRules, h1]
    refine ⟨_, _, ret_d, ?_, rfl⟩
    rw [numF, h1]; rfl
  by_cases h2 : o.kind = 2
  · refine acalls_of Try.func54 rfl rfl (by simp [Try.ntmps54]) (evC_sound rfl _ _ _ _ ?_)
    simp only [Try.ntmps54, Try.results54, argEnv, List.length_nil]
    simp only [vcRules, dRules, bRules, tyRules, xRules, pickV_true, pickV_false, implies_true, Nat.reduceLT, Nat.reduceLeDiff, Nat.reduceEqDiff, Nat.reduceAdd, Nat.reduceSub, Nat.reduceMul, Int.reduceToNat, Int.reduceLT, Int.reduceLE, Int.reduceEq, Int.reduceAdd, Int.reduceSub, Int.reduceNeg, Int.reduceBEq, Int.reduceBNe, Int.reduceMul, Int.natCast_add, Int.natCast_one, reduceCtorEq, reduceIte, s_isAgg, s_cells, t_isAgg, t_cells, e_isAgg, e_cells, i_isAgg, i_cells, yRules, h2]
    refine ⟨_, _, ret_d, ?_, rfl⟩
    rw [numF, h2]; rfl
  by_cases h3 : o.kind = 3
  · refine acalls_of Try.func54 rfl rfl (by simp [Try.ntmps54]) (evC_sound rfl _ _ _ _ ?_)
    simp only [Try.ntmps54, Try.results54, argEnv, List.length_nil]
    simp only [vcRules, dRules, bRules, tyRules, xRules, pickV_true, pickV_false, implies_true, Nat.reduceLT, Nat.reduceLeDiff, Nat.reduceEqDiff, Nat.reduceAdd, Nat.reduceSub, Nat.reduceMul, Int.reduceToNat, Int.reduceLT, Int.reduceLE, Int.reduceEq, Int.reduceAdd, Int.reduceSub, Int.reduceNeg, Int.reduceBEq, Int.reduceBNe, Int.reduceMul, Int.natCast_add, Int.natCast_one, reduceCtorEq, reduceIte, s_isAgg, s_cells, t_isAgg, t_cells, e_isAgg, e_cells, i_isAgg, i_cells, yRules, h3]
    refine ⟨_, _, ret_d, ?_, rfl⟩
    rw [numF, h3]; rfl
  by_cases h4 : o.kind = 4
  · refine acalls_of Try.func54 rfl rfl (by simp [Try.ntmps54]) (evC_sound rfl _ _ _ _ ?_)
    simp only [Try.ntmps54, Try.results54, argEnv, List.length_nil]
    simp only [vcRules, dRules, bRules, tyRules, xRules, pickV_true, pickV_false, implies_true, Nat.reduceLT, Nat.reduceLeDiff, Nat.reduceEqDiff, Nat.reduceAdd, Nat.reduceSub, Nat.reduceMul, Int.reduceToNat, Int.reduceLT, Int.reduceLE, Int.reduceEq, Int.reduceAdd, Int.reduceSub, Int.reduceNeg, Int.reduceBEq, Int.reduceBNe, Int.reduceMul, Int.natCast_add, Int.natCast_one, reduceCtorEq, reduceIte, s_isAgg, s_cells, t_isAgg, t_cells, e_isAgg, e_cells, i_isAgg, i_cells, yRules, h4]
    refine callF_pure (c65 _ _ _) ?_
    simp only [vcRules, dRules, bRules, tyRules, xRules, pickV_true, pickV_false, implies_true, Nat.reduceLT, Nat.reduceLeDiff, Nat.reduceEqDiff, Nat.reduceAdd, Nat.reduceSub, Nat.reduceMul, Int.reduceToNat, Int.reduceLT, Int.reduceLE, Int.reduceEq, Int.reduceAdd, Int.reduceSub, Int.reduceNeg, Int.reduceBEq, Int.reduceBNe, Int.reduceMul, Int.natCast_add, Int.natCast_one, reduceCtorEq, reduceIte, s_isAgg, s_cells, t_isAgg, t_cells, e_isAgg, e_cells, i_isAgg, i_cells, yRules]
    refine ⟨_, _, ret_d, ?_, rfl⟩
    rw [numF, h4]; rfl
  by_cases h5 : o.kind = 5
  · refine acalls_of Try.func54 rfl rfl (by simp [Try.ntmps54]) (evC_sound rfl _ _ _ _ ?_)
    simp only [Try.ntmps54, Try.results54, argEnv, List.length_nil]
    simp only [vcRules, dRules, bRules, tyRules, xRules, pickV_true, pickV_false, implies_true, Nat.reduceLT, Nat.reduceLeDiff, Nat.reduceEqDiff, Nat.reduceAdd, Nat.reduceSub, Nat.reduceMul, Int.reduceToNat, Int.reduceLT, Int.reduceLE, Int.reduceEq, Int.reduceAdd, Int.reduceSub, Int.reduceNeg, Int.reduceBEq, Int.reduceBNe, Int.reduceMul, Int.natCast_add, Int.natCast_one, reduceCtorEq, reduceIte, s_isAgg, s_cells, t_isAgg, t_cells, e_isAgg, e_cells, i_isAgg, i_cells, yRules, h5]
    refine callF_pure (c65 _ _ _) ?_
    simp only [vcRules, dRules, bRules, tyRules, xRules, pickV_true, pickV_false, implies_true, Nat.reduceLT, Nat.reduceLeDiff, Nat.reduceEqDiff, Nat.reduceAdd, Nat.reduceSub, Nat.reduceMul, Int.reduceToNat, Int.reduceLT, Int.reduceLE, Int.reduceEq, Int.reduceAdd, Int.reduceSub, Int.reduceNeg, Int.reduceBEq, Int.reduceBNe, Int.reduceMul, Int.natCast_add, Int.natCast_one, reduceCtorEq, reduceIte, s_isAgg, s_cells, t_isAgg, t_cells, e_isAgg, e_cells, i_isAgg, i_cells, yRules]
    refine ⟨_, _, ret_d, ?_, rfl⟩
    rw [numF, h5]; rfl
  by_cases h8 : o.kind = 8
  · refine acalls_of Try.func54 rfl rfl (by simp [Try.ntmps54]) (evC_sound rfl _ _ _ _ ?_)
    simp only [Try.ntmps54, Try.results54, argEnv, List.length_nil]
    simp only [vcRules, dRules, bRules, tyRules, xRules, pickV_true, pickV_false, implies_true, Nat.reduceLT, Nat.reduceLeDiff, Nat.reduceEqDiff, Nat.reduceAdd, Nat.reduceSub, Nat.reduceMul, Int.reduceToNat, Int.reduceLT, Int.reduceLE, Int.reduceEq, Int.reduceAdd, Int.reduceSub, Int.reduceNeg, Int.reduceBEq, Int.reduceBNe, Int.reduceMul, Int.natCast_add, Int.natCast_one, reduceCtorEq, reduceIte, s_isAgg, s_cells, t_isAgg, t_cells, e_isAgg, e_cells, i_isAgg, i_cells, yRules, h8]
    refine callF_pure (c65 _ _ _) ?_
    simp only [vcRules, dRules, bRules, tyRules, xRules, pickV_true, pickV_false, implies_true, Nat.reduceLT, Nat.reduceLeDiff, Nat.reduceEqDiff, Nat.reduceAdd, Nat.reduceSub, Nat.reduceMul, Int.reduceToNat, Int.reduceLT, Int.reduceLE, Int.reduceEq, Int.reduceAdd, Int.reduceSub, Int.reduceNeg, Int.reduceBEq, Int.reduceBNe, Int.reduceMul, Int.natCast_add, Int.natCast_one, reduceCtorEq, reduceIte, s_isAgg, s_cells, t_isAgg, t_cells, e_isAgg, e_cells, i_isAgg, i_cells, yRules]
    refine ⟨_, _, ret_d, ?_, rfl⟩
    rw [numF, h8]; rfl
  by_cases h9 : o.kind = 9
  · refine acalls_of Try.func54 rfl rfl (by simp [Try.ntmps54]) (evC_sound rfl _ _ _ _ ?_)
    simp only [Try.ntmps54, Try.results54, argEnv, List.length_nil]
    simp only [vcRules, dRules, bRules, tyRules, xRules, pickV_true, pickV_false, implies_true, Nat.reduceLT, Nat.reduceLeDiff, Nat.reduceEqDiff, Nat.reduceAdd, Nat.reduceSub, Nat.reduceMul, Int.reduceToNat, Int.reduceLT, Int.reduceLE, Int.reduceEq, Int.reduceAdd, Int.reduceSub, Int.reduceNeg, Int.reduceBEq, Int.reduceBNe, Int.reduceMul, Int.natCast_add, Int.natCast_one, reduceCtorEq, reduceIte, s_isAgg, s_cells, t_isAgg, t_cells, e_isAgg, e_cells, i_isAgg, i_cells, yRules, h9]
    refine callF_pure (c65 _ _ _) ?_
    simp only [vcRules, dRules, bRules, tyRules, xRules, pickV_true, pickV_false, implies_true, Nat.reduceLT, Nat.reduceLeDiff, Nat.reduceEqDiff, Nat.reduceAdd, Nat.reduceSub, Nat.reduceMul, Int.reduceToNat, Int.reduceLT, Int.reduceLE, Int.reduceEq, Int.reduceAdd, Int.reduceSub, Int.reduceNeg, Int.reduceBEq, Int.reduceBNe, Int.reduceMul, Int.natCast_add, Int.natCast_one, reduceCtorEq, reduceIte, s_isAgg, s_cells, t_isAgg, t_cells, e_isAgg, e_cells, i_isAgg, i_cells, yRules]
    have e : numF o = (if (wiI o.n 0 3 == 0 && o.n == 2) = true then wiI o.m 0 1000000000000000 else if (wiI o.n 0 3 == 0 && o.m != 0) = true then 1 else wiI o.n 0 3) := by rw [numF, h9]; rfl
    rw [e]
    refine ifC.mk (fun q1 => ?_) (fun q1 => ?_)
    · (try simp only [vcRules, dRules, bRules, tyRules, xRules, pickV_true, pickV_false, implies_true, Nat.reduceLT, Nat.reduceLeDiff, Nat.reduceEqDiff, Nat.reduceAdd, Nat.reduceSub, Nat.reduceMul, Int.reduceToNat, Int.reduceLT, Int.reduceLE, Int.reduceEq, Int.reduceAdd, Int.reduceSub, Int.reduceNeg, Int.reduceBEq, Int.reduceBNe, Int.reduceMul, Int.natCast_add, Int.natCast_one, reduceCtorEq, reduceIte, s_isAgg, s_cells, t_isAgg, t_cells, e_isAgg, e_cells, i_isAgg, i_cells, yRules])
      refine callF_pure (c65 _ _ _) ?_
      simp only [vcRules, dRules, bRules, tyRules, xRules, pickV_true, pickV_false, implies_true, Nat.reduceLT, Nat.reduceLeDiff, Nat.reduceEqDiff, Nat.reduceAdd, Nat.reduceSub, Nat.reduceMul, Int.reduceToNat, Int.reduceLT, Int.reduceLE, Int.reduceEq, Int.reduceAdd, Int.reduceSub, Int.reduceNeg, Int.reduceBEq, Int.reduceBNe, Int.reduceMul, Int.natCast_add, Int.natCast_one, reduceCtorEq, reduceIte, s_isAgg, s_cells, t_isAgg, t_cells, e_isAgg, e_cells, i_isAgg, i_cells, yRules]
      refine ⟨_, _, ret_d, ?_, rfl⟩
      rw [if_pos q1]
    · rw [if_neg (by rw [q1]; simp)]
      (try simp only [vcRules, dRules, bRules, tyRules, xRules, pickV_true, pickV_false, implies_true, Nat.reduceLT, Nat.reduceLeDiff, Nat.reduceEqDiff, Nat.reduceAdd, Nat.reduceSub, Nat.reduceMul, Int.reduceToNat, Int.reduceLT, Int.reduceLE, Int.reduceEq, Int.reduceAdd, Int.reduceSub, Int.reduceNeg, Int.reduceBEq, Int.reduceBNe, Int.reduceMul, Int.natCast_add, Int.natCast_one, reduceCtorEq, reduceIte, s_isAgg, s_cells, t_isAgg, t_cells, e_isAgg, e_cells, i_isAgg, i_cells, yRules])
      refine ifC.mk (fun q2 => ?_) (fun q2 => ?_)
      · refine ⟨_, _, ret_d, ?_, rfl⟩
        rw [if_pos q2]
      · refine ⟨_, _, ret_d, ?_, rfl⟩
        rw [if_neg (by rw [q2]; simp)]
  have b1 : (o.kind == 1) = false := by simpa using h1
  have b2 : (o.kind == 2) = false := by simpa using h2
  have b3 : (o.kind == 3) = false := by simpa using h3
  have b4 : (o.kind == 4) = false := by simpa using h4
  have b5 : (o.kind == 5) = false := by simpa using h5
  have b8 : (o.kind == 8) = false := by simpa using h8
  have b9 : (o.kind == 9) = false := by simpa using h9
  have e : numF o = (if (wiI o.n 0 1000000000000000 == 0 && o.kind == 11) = true then wiI o.m 1 1000000000000 else wiI o.n 0 1000000000000000) := by
    rw [numF, b1, b2, b3, if_neg h4, if_neg h5, if_neg h8, if_neg h9]; rfl
  rw [e]
  refine acalls_of Try.func54 rfl rfl (by simp [Try.ntmps54]) (evC_sound rfl _ _ _ _ ?_)
  simp only [Try.ntmps54, Try.results54, argEnv, List.length_nil]
  simp only [vcRules, dRules, bRules, tyRules, xRules, pickV_true, pickV_false, implies_true, Nat.reduceLT, Nat.reduceLeDiff, Nat.reduceEqDiff, Nat.reduceAdd, Nat.reduceSub, Nat.reduceMul, Int.reduceToNat, Int.reduceLT, Int.reduceLE, Int.reduceEq, Int.reduceAdd, Int.reduceSub, Int.reduceNeg, Int.reduceBEq, Int.reduceBNe, Int.reduceMul, Int.natCast_add, Int.natCast_one, reduceCtorEq, reduceIte, s_isAgg, s_cells, t_isAgg, t_cells, e_isAgg, e_cells, i_isAgg, i_cells, yRules, b1, b2, b3, b4, b5, b8, b9]
  refine callF_pure (c65 _ _ _) ?_
  simp only [vcRules, dRules, bRules, tyRules, xRules, pickV_true, pickV_false, implies_true, Nat.reduceLT, Nat.reduceLeDiff, Nat.reduceEqDiff, Nat.reduceAdd, Nat.reduceSub, Nat.reduceMul, Int.reduceToNat, Int.reduceLT, Int.reduceLE, Int.reduceEq, Int.reduceAdd, Int.reduceSub, Int.reduceNeg, Int.reduceBEq, Int.reduceBNe, Int.reduceMul, Int.natCast_add, Int.natCast_one, reduceCtorEq, reduceIte, s_isAgg, s_cells, t_isAgg, t_cells, e_isAgg, e_cells, i_isAgg, i_cells, yRules]
  refine ifC.mk (fun q1 => ?_) (fun q1 => ?_)
  · (try simp only [vcRules, dRules, bRules, tyRules, xRules, pickV_true, pickV_false, implies_true, Nat.reduceLT, Nat.reduceLeDiff, Nat.reduceEqDiff, Nat.reduceAdd, Nat.reduceSub, Nat.reduceMul, Int.reduceToNat, Int.reduceLT, Int.reduceLE, Int.reduceEq, Int.reduceAdd, Int.reduceSub, Int.reduceNeg, Int.reduceBEq, Int.reduceBNe, Int.reduceMul, Int.natCast_add, Int.natCast_one, reduceCtorEq, reduceIte, s_isAgg, s_cells, t_isAgg, t_cells, e_isAgg, e_cells, i_isAgg, i_cells, yRules])
    refine callF_pure (c65 _ _ _) ?_
    simp only [vcRules, dRules, bRules, tyRules, xRules, pickV_true, pickV_false, implies_true, Nat.reduceLT, Nat.reduceLeDiff, Nat.reduceEqDiff, Nat.reduceAdd, Nat.reduceSub, Nat.reduceMul, Int.reduceToNat, Int.reduceLT, Int.reduceLE, Int.reduceEq, Int.reduceAdd, Int.reduceSub, Int.reduceNeg, Int.reduceBEq, Int.reduceBNe, Int.reduceMul, Int.natCast_add, Int.natCast_one, reduceCtorEq, reduceIte, s_isAgg, s_cells, t_isAgg, t_cells, e_isAgg, e_cells, i_isAgg, i_cells, yRules]
    refine ⟨_, _, ret_d, ?_, rfl⟩
    rw [if_pos q1]
  · refine ⟨_, _, ret_d, ?_, rfl⟩
    rw [if_neg (by rw [q1]; simp)]

def useB (o : TimedT) : Bool := (!uName o.kind && !(o.name == [])) || (!uN o.kind && o.n != 0) || (!uM o.kind && o.m != 0) || (!uSt o.kind && decide ((0:Int) < o.stack.length))
def sub0 (o : TimedT) : Int := if uName o.kind = true then nameF o.name else 0
def subF (o : TimedT) : Int := if uSt o.kind = true then framesF o.stack else sub0 o
def evErr (o : TimedT) : Int :=
  if (decide (o.at_ < 0) || decide (1000000000000 < o.at_)) = true then 2
  else if (decide (o.kind < 1) || decide (12 < o.kind)) = true then 1
  else if useB o = true then 1
  else if subF o ≠ 0 then subF o else numF o
theorem c39 (o : TimedT) (hst : o.stack.length < 1000000) : Pure Try.prog 39 [.d (evD o)] (.d (.int .i64 (evErr o))) := by
  refine Pure.of1 ?_
  refine acalls_of Try.func39 rfl rfl (by simp [Try.ntmps39]) (evC_sound rfl _ _ _ _ ?_)
  simp only [Try.ntmps39, Try.results39, argEnv, List.length_nil]
  simp only [vcRules, dRules, bRules, tyRules, xRules, pickV_true, pickV_false, implies_true, Nat.reduceLT, Nat.reduceLeDiff, Nat.reduceEqDiff, Nat.reduceAdd, Nat.reduceSub, Nat.reduceMul, Int.reduceToNat, Int.reduceLT, Int.reduceLE, Int.reduceEq, Int.reduceAdd, Int.reduceSub, Int.reduceNeg, Int.reduceBEq, Int.reduceBNe, Int.reduceMul, Int.natCast_add, Int.natCast_one, reduceCtorEq, reduceIte, s_isAgg, s_cells, t_isAgg, t_cells, e_isAgg, e_cells, i_isAgg, i_cells, yRules]
  refine ifC.mk (fun h1 => ?_) (fun h1 => ?_)
  · refine ⟨_, _, ret_d, ?_, rfl⟩
    rw [evErr, if_pos h1]
  · (try simp only [vcRules, dRules, bRules, tyRules, xRules, pickV_true, pickV_false, implies_true, Nat.reduceLT, Nat.reduceLeDiff, Nat.reduceEqDiff, Nat.reduceAdd, Nat.reduceSub, Nat.reduceMul, Int.reduceToNat, Int.reduceLT, Int.reduceLE, Int.reduceEq, Int.reduceAdd, Int.reduceSub, Int.reduceNeg, Int.reduceBEq, Int.reduceBNe, Int.reduceMul, Int.natCast_add, Int.natCast_one, reduceCtorEq, reduceIte, s_isAgg, s_cells, t_isAgg, t_cells, e_isAgg, e_cells, i_isAgg, i_cells, yRules])
    repeat ((with_reducible refine And.intro ?_ ?_); (focus (first | omega | (simp only [List.length_take, List.length_drop, List.length_map, List.length_append, List.length_cons]; omega) | (refine (show quietOp _ = true from ?_); rfl) | (refine (show drawChk _ = true from ?_); kernel_rfl) | (intros; simp_all; done))))
    refine ifC.mk (fun h2 => ?_) (fun h2 => ?_)
    · refine ⟨_, _, ret_d, ?_, rfl⟩
      rw [evErr, if_neg (by rw [h1]; simp), if_pos h2]
    · (try simp only [vcRules, dRules, bRules, tyRules, xRules, pickV_true, pickV_false, implies_true, Nat.reduceLT, Nat.reduceLeDiff, Nat.reduceEqDiff, Nat.reduceAdd, Nat.reduceSub, Nat.reduceMul, Int.reduceToNat, Int.reduceLT, Int.reduceLE, Int.reduceEq, Int.reduceAdd, Int.reduceSub, Int.reduceNeg, Int.reduceBEq, Int.reduceBNe, Int.reduceMul, Int.natCast_add, Int.natCast_one, reduceCtorEq, reduceIte, s_isAgg, s_cells, t_isAgg, t_cells, e_isAgg, e_cells, i_isAgg, i_cells, yRules])
      refine callF_pure (c52 _) ?_
      simp only [vcRules, dRules, bRules, tyRules, xRules, pickV_true, pickV_false, implies_true, Nat.reduceLT, Nat.reduceLeDiff, Nat.reduceEqDiff, Nat.reduceAdd, Nat.reduceSub, Nat.reduceMul, Int.reduceToNat, Int.reduceLT, Int.reduceLE, Int.reduceEq, Int.reduceAdd, Int.reduceSub, Int.reduceNeg, Int.reduceBEq, Int.reduceBNe, Int.reduceMul, Int.natCast_add, Int.natCast_one, reduceCtorEq, reduceIte, s_isAgg, s_cells, t_isAgg, t_cells, e_isAgg, e_cells, i_isAgg, i_cells, yRules, bytes_lit]
      repeat ((with_reducible refine And.intro ?_ ?_); (focus (first | omega | (simp only [List.length_take, List.length_drop, List.length_map, List.length_append, List.length_cons]; omega) | (refine (show quietOp _ = true from ?_); rfl) | (refine (show drawChk _ = true from ?_); kernel_rfl) | (intros; simp_all; done))))
      refine ifC.mk (fun h3 => ?_) (fun h3 => ?_)
      · refine ⟨_, _, ret_d, ?_, rfl⟩
        rw [evErr, if_neg (by rw [h1]; simp), if_neg (by rw [h2]; simp), if_pos (show useB o = true from h3)]
      · have h3 : useB o = false := h3
        have e : evErr o = if subF o ≠ 0 then subF o else numF o := by rw [evErr, if_neg (by rw [h1]; simp), if_neg (by rw [h2]; simp), if_neg (by rw [h3]; simp)]
        rw [e]
        have fin : ∀ x, subF o = x → (if x ≠ 0 then x else numF o) = (if subF o ≠ 0 then subF o else numF o) := fun x hx => by rw [hx]
        (try simp only [vcRules, dRules, bRules, tyRules, xRules, pickV_true, pickV_false, implies_true, Nat.reduceLT, Nat.reduceLeDiff, Nat.reduceEqDiff, Nat.reduceAdd, Nat.reduceSub, Nat.reduceMul, Int.reduceToNat, Int.reduceLT, Int.reduceLE, Int.reduceEq, Int.reduceAdd, Int.reduceSub, Int.reduceNeg, Int.reduceBEq, Int.reduceBNe, Int.reduceMul, Int.natCast_add, Int.natCast_one, reduceCtorEq, reduceIte, s_isAgg, s_cells, t_isAgg, t_cells, e_isAgg, e_cells, i_isAgg, i_cells, yRules])
        refine ifC.mk (fun u1 => ?_) (fun u1 => ?_)
        · (try simp only [vcRules, dRules, bRules, tyRules, xRules, pickV_true, pickV_false, implies_true, Nat.reduceLT, Nat.reduceLeDiff, Nat.reduceEqDiff, Nat.reduceAdd, Nat.reduceSub, Nat.reduceMul, Int.reduceToNat, Int.reduceLT, Int.reduceLE, Int.reduceEq, Int.reduceAdd, Int.reduceSub, Int.reduceNeg, Int.reduceBEq, Int.reduceBNe, Int.reduceMul, Int.natCast_add, Int.natCast_one, reduceCtorEq, reduceIte, s_isAgg, s_cells, t_isAgg, t_cells, e_isAgg, e_cells, i_isAgg, i_cells, yRules])
          refine callF_pure (c31 _) ?_
          simp only [vcRules, dRules, bRules, tyRules, xRules, pickV_true, pickV_false, implies_true, Nat.reduceLT, Nat.reduceLeDiff, Nat.reduceEqDiff, Nat.reduceAdd, Nat.reduceSub, Nat.reduceMul, Int.reduceToNat, Int.reduceLT, Int.reduceLE, Int.reduceEq, Int.reduceAdd, Int.reduceSub, Int.reduceNeg, Int.reduceBEq, Int.reduceBNe, Int.reduceMul, Int.natCast_add, Int.natCast_one, reduceCtorEq, reduceIte, s_isAgg, s_cells, t_isAgg, t_cells, e_isAgg, e_cells, i_isAgg, i_cells, yRules]
          refine ifC.mk (fun u2 => ?_) (fun u2 => ?_)
          · (try simp only [vcRules, dRules, bRules, tyRules, xRules, pickV_true, pickV_false, implies_true, Nat.reduceLT, Nat.reduceLeDiff, Nat.reduceEqDiff, Nat.reduceAdd, Nat.reduceSub, Nat.reduceMul, Int.reduceToNat, Int.reduceLT, Int.reduceLE, Int.reduceEq, Int.reduceAdd, Int.reduceSub, Int.reduceNeg, Int.reduceBEq, Int.reduceBNe, Int.reduceMul, Int.natCast_add, Int.natCast_one, reduceCtorEq, reduceIte, s_isAgg, s_cells, t_isAgg, t_cells, e_isAgg, e_cells, i_isAgg, i_cells, yRules])
            refine callF_pure (c53 o.stack hst) ?_
            simp only [vcRules, dRules, bRules, tyRules, xRules, pickV_true, pickV_false, implies_true, Nat.reduceLT, Nat.reduceLeDiff, Nat.reduceEqDiff, Nat.reduceAdd, Nat.reduceSub, Nat.reduceMul, Int.reduceToNat, Int.reduceLT, Int.reduceLE, Int.reduceEq, Int.reduceAdd, Int.reduceSub, Int.reduceNeg, Int.reduceBEq, Int.reduceBNe, Int.reduceMul, Int.natCast_add, Int.natCast_one, reduceCtorEq, reduceIte, s_isAgg, s_cells, t_isAgg, t_cells, e_isAgg, e_cells, i_isAgg, i_cells, yRules]
            have hs : subF o = framesF o.stack := by rw [subF, if_pos u2]
            rw [hs]
            refine ifC.mk (fun q => ?_) (fun q => ?_)
            · (try simp only [vcRules, dRules, bRules, tyRules, xRules, pickV_true, pickV_false, implies_true, Nat.reduceLT, Nat.reduceLeDiff, Nat.reduceEqDiff, Nat.reduceAdd, Nat.reduceSub, Nat.reduceMul, Int.reduceToNat, Int.reduceLT, Int.reduceLE, Int.reduceEq, Int.reduceAdd, Int.reduceSub, Int.reduceNeg, Int.reduceBEq, Int.reduceBNe, Int.reduceMul, Int.natCast_add, Int.natCast_one, reduceCtorEq, reduceIte, s_isAgg, s_cells, t_isAgg, t_cells, e_isAgg, e_cells, i_isAgg, i_cells, yRules])
              refine ⟨_, _, ret_d, ?_, rfl⟩
              rw [if_pos (by simpa using q)]
            · rw [if_neg (by simpa using q)]
              (try simp only [vcRules, dRules, bRules, tyRules, xRules, pickV_true, pickV_false, implies_true, Nat.reduceLT, Nat.reduceLeDiff, Nat.reduceEqDiff, Nat.reduceAdd, Nat.reduceSub, Nat.reduceMul, Int.reduceToNat, Int.reduceLT, Int.reduceLE, Int.reduceEq, Int.reduceAdd, Int.reduceSub, Int.reduceNeg, Int.reduceBEq, Int.reduceBNe, Int.reduceMul, Int.natCast_add, Int.natCast_one, reduceCtorEq, reduceIte, s_isAgg, s_cells, t_isAgg, t_cells, e_isAgg, e_cells, i_isAgg, i_cells, yRules])
              refine callF_pure (c54 o) ?_
              simp only [vcRules, dRules, bRules, tyRules, xRules, pickV_true, pickV_false, implies_true, Nat.reduceLT, Nat.reduceLeDiff, Nat.reduceEqDiff, Nat.reduceAdd, Nat.reduceSub, Nat.reduceMul, Int.reduceToNat, Int.reduceLT, Int.reduceLE, Int.reduceEq, Int.reduceAdd, Int.reduceSub, Int.reduceNeg, Int.reduceBEq, Int.reduceBNe, Int.reduceMul, Int.natCast_add, Int.natCast_one, reduceCtorEq, reduceIte, s_isAgg, s_cells, t_isAgg, t_cells, e_isAgg, e_cells, i_isAgg, i_cells, yRules]
              exact ⟨_, _, ret_d, rfl, rfl⟩
          · (try simp only [vcRules, dRules, bRules, tyRules, xRules, pickV_true, pickV_false, implies_true, Nat.reduceLT, Nat.reduceLeDiff, Nat.reduceEqDiff, Nat.reduceAdd, Nat.reduceSub, Nat.reduceMul, Int.reduceToNat, Int.reduceLT, Int.reduceLE, Int.reduceEq, Int.reduceAdd, Int.reduceSub, Int.reduceNeg, Int.reduceBEq, Int.reduceBNe, Int.reduceMul, Int.natCast_add, Int.natCast_one, reduceCtorEq, reduceIte, s_isAgg, s_cells, t_isAgg, t_cells, e_isAgg, e_cells, i_isAgg, i_cells, yRules])
            have hs : subF o = nameF o.name := by rw [subF, if_neg (by rw [u2]; simp), sub0, if_pos u1]
            rw [hs]
            refine ifC.mk (fun q => ?_) (fun q => ?_)
            · (try simp only [vcRules, dRules, bRules, tyRules, xRules, pickV_true, pickV_false, implies_true, Nat.reduceLT, Nat.reduceLeDiff, Nat.reduceEqDiff, Nat.reduceAdd, Nat.reduceSub, Nat.reduceMul, Int.reduceToNat, Int.reduceLT, Int.reduceLE, Int.reduceEq, Int.reduceAdd, Int.reduceSub, Int.reduceNeg, Int.reduceBEq, Int.reduceBNe, Int.reduceMul, Int.natCast_add, Int.natCast_one, reduceCtorEq, reduceIte, s_isAgg, s_cells, t_isAgg, t_cells, e_isAgg, e_cells, i_isAgg, i_cells, yRules])
              refine ⟨_, _, ret_d, ?_, rfl⟩
              rw [if_pos (by simpa using q)]
            · rw [if_neg (by simpa using q)]
              (try simp only [vcRules, dRules, bRules, tyRules, xRules, pickV_true, pickV_false, implies_true, Nat.reduceLT, Nat.reduceLeDiff, Nat.reduceEqDiff, Nat.reduceAdd, Nat.reduceSub, Nat.reduceMul, Int.reduceToNat, Int.reduceLT, Int.reduceLE, Int.reduceEq, Int.reduceAdd, Int.reduceSub, Int.reduceNeg, Int.reduceBEq, Int.reduceBNe, Int.reduceMul, Int.natCast_add, Int.natCast_one, reduceCtorEq, reduceIte, s_isAgg, s_cells, t_isAgg, t_cells, e_isAgg, e_cells, i_isAgg, i_cells, yRules])
              refine callF_pure (c54 o) ?_
              simp only [vcRules, dRules, bRules, tyRules, xRules, pickV_true, pickV_false, implies_true, Nat.reduceLT, Nat.reduceLeDiff, Nat.reduceEqDiff, Nat.reduceAdd, Nat.reduceSub, Nat.reduceMul, Int.reduceToNat, Int.reduceLT, Int.reduceLE, Int.reduceEq, Int.reduceAdd, Int.reduceSub, Int.reduceNeg, Int.reduceBEq, Int.reduceBNe, Int.reduceMul, Int.natCast_add, Int.natCast_one, reduceCtorEq, reduceIte, s_isAgg, s_cells, t_isAgg, t_cells, e_isAgg, e_cells, i_isAgg, i_cells, yRules]
              exact ⟨_, _, ret_d, rfl, rfl⟩
        · (try simp only [vcRules, dRules, bRules, tyRules, xRules, pickV_true, pickV_false, implies_true, Nat.reduceLT, Nat.reduceLeDiff, Nat.reduceEqDiff, Nat.reduceAdd, Nat.reduceSub, Nat.reduceMul, Int.reduceToNat, Int.reduceLT, Int.reduceLE, Int.reduceEq, Int.reduceAdd, Int.reduceSub, Int.reduceNeg, Int.reduceBEq, Int.reduceBNe, Int.reduceMul, Int.natCast_add, Int.natCast_one, reduceCtorEq, reduceIte, s_isAgg, s_cells, t_isAgg, t_cells, e_isAgg, e_cells, i_isAgg, i_cells, yRules])
          refine ifC.mk (fun u2 => ?_) (fun u2 => ?_)
          · (try simp only [vcRules, dRules, bRules, tyRules, xRules, pickV_true, pickV_false, implies_true, Nat.reduceLT, Nat.reduceLeDiff, Nat.reduceEqDiff, Nat.reduceAdd, Nat.reduceSub, Nat.reduceMul, Int.reduceToNat, Int.reduceLT, Int.reduceLE, Int.reduceEq, Int.reduceAdd, Int.reduceSub, Int.reduceNeg, Int.reduceBEq, Int.reduceBNe, Int.reduceMul, Int.natCast_add, Int.natCast_one, reduceCtorEq, reduceIte, s_isAgg, s_cells, t_isAgg, t_cells, e_isAgg, e_cells, i_isAgg, i_cells, yRules])
            refine callF_pure (c53 o.stack hst) ?_
            simp only [vcRules, dRules, bRules, tyRules, xRules, pickV_true, pickV_false, implies_true, Nat.reduceLT, Nat.reduceLeDiff, Nat.reduceEqDiff, Nat.reduceAdd, Nat.reduceSub, Nat.reduceMul, Int.reduceToNat, Int.reduceLT, Int.reduceLE, Int.reduceEq, Int.reduceAdd, Int.reduceSub, Int.reduceNeg, Int.reduceBEq, Int.reduceBNe, Int.reduceMul, Int.natCast_add, Int.natCast_one, reduceCtorEq, reduceIte, s_isAgg, s_cells, t_isAgg, t_cells, e_isAgg, e_cells, i_isAgg, i_cells, yRules]
            have hs : subF o = framesF o.stack := by rw [subF, if_pos u2]
            rw [hs]
            refine ifC.mk (fun q => ?_) (fun q => ?_)
            · (try simp only [vcRules, dRules, bRules, tyRules, xRules, pickV_true, pickV_false, implies_true, Nat.reduceLT, Nat.reduceLeDiff, Nat.reduceEqDiff, Nat.reduceAdd, Nat.reduceSub, Nat.reduceMul, Int.reduceToNat, Int.reduceLT, Int.reduceLE, Int.reduceEq, Int.reduceAdd, Int.reduceSub, Int.reduceNeg, Int.reduceBEq, Int.reduceBNe, Int.reduceMul, Int.natCast_add, Int.natCast_one, reduceCtorEq, reduceIte, s_isAgg, s_cells, t_isAgg, t_cells, e_isAgg, e_cells, i_isAgg, i_cells, yRules])
              refine ⟨_, _, ret_d, ?_, rfl⟩
              rw [if_pos (by simpa using q)]
            · rw [if_neg (by simpa using q)]
              (try simp only [vcRules, dRules, bRules, tyRules, xRules, pickV_true, pickV_false, implies_true, Nat.reduceLT, Nat.reduceLeDiff, Nat.reduceEqDiff, Nat.reduceAdd, Nat.reduceSub, Nat.reduceMul, Int.reduceToNat, Int.reduceLT, Int.reduceLE, Int.reduceEq, Int.reduceAdd, Int.reduceSub, Int.reduceNeg, Int.reduceBEq, Int.reduceBNe, Int.reduceMul, Int.natCast_add, Int.natCast_one, reduceCtorEq, reduceIte, s_isAgg, s_cells, t_isAgg, t_cells, e_isAgg, e_cells, i_isAgg, i_cells, yRules])
              refine callF_pure (c54 o) ?_
              simp only [vcRules, dRules, bRules, tyRules, xRules, pickV_true, pickV_false, implies_true, Nat.reduceLT, Nat.reduceLeDiff, Nat.reduceEqDiff, Nat.reduceAdd, Nat.reduceSub, Nat.reduceMul, Int.reduceToNat, Int.reduceLT, Int.reduceLE, Int.reduceEq, Int.reduceAdd, Int.reduceSub, Int.reduceNeg, Int.reduceBEq, Int.reduceBNe, Int.reduceMul, Int.natCast_add, Int.natCast_one, reduceCtorEq, reduceIte, s_isAgg, s_cells, t_isAgg, t_cells, e_isAgg, e_cells, i_isAgg, i_cells, yRules]
              exact ⟨_, _, ret_d, rfl, rfl⟩
          · have hs : subF o = 0 := by rw [subF, if_neg (by rw [u2]; simp), sub0, if_neg (by rw [u1]; simp)]
            rw [hs, if_neg (by simp)]
            (try simp only [vcRules, dRules, bRules, tyRules, xRules, pickV_true, pickV_false, implies_true, Nat.reduceLT, Nat.reduceLeDiff, Nat.reduceEqDiff, Nat.reduceAdd, Nat.reduceSub, Nat.reduceMul, Int.reduceToNat, Int.reduceLT, Int.reduceLE, Int.reduceEq, Int.reduceAdd, Int.reduceSub, Int.reduceNeg, Int.reduceBEq, Int.reduceBNe, Int.reduceMul, Int.natCast_add, Int.natCast_one, reduceCtorEq, reduceIte, s_isAgg, s_cells, t_isAgg, t_cells, e_isAgg, e_cells, i_isAgg, i_cells, yRules])
            refine callF_pure (c54 o) ?_
            simp only [vcRules, dRules, bRules, tyRules, xRules, pickV_true, pickV_false, implies_true, Nat.reduceLT, Nat.reduceLeDiff, Nat.reduceEqDiff, Nat.reduceAdd, Nat.reduceSub, Nat.reduceMul, Int.reduceToNat, Int.reduceLT, Int.reduceLE, Int.reduceEq, Int.reduceAdd, Int.reduceSub, Int.reduceNeg, Int.reduceBEq, Int.reduceBNe, Int.reduceMul, Int.natCast_add, Int.natCast_one, reduceCtorEq, reduceIte, s_isAgg, s_cells, t_isAgg, t_cells, e_isAgg, e_cells, i_isAgg, i_cells, yRules]
            exact ⟨_, _, ret_d, rfl, rfl⟩
end Ytlelaieadgkemaa
end Go.Proofs
