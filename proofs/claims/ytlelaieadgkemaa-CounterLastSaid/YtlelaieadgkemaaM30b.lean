/- A part of the proof: contracts of functions of this seat, and lemmas. No condition beyond those stated. -/
import Derived.Test.YtlelaieadgkemaaM30a
import Derived.Test.YtlelaieadgkemaaG5
set_option linter.unusedVariables false
set_option linter.unusedSimpArgs false
set_option linter.unusedSectionVars false
set_option linter.unnecessarySimpa false
set_option linter.unusedSimpArgs false
set_option linter.unusedVariables false
set_option maxRecDepth 100000
namespace Go.Proofs
open Go.AM
namespace Ytlelaieadgkemaa
structure StepT where
  name : List UInt8
  at_ : Int
  value : Int
deriving Inhabited, DecidableEq
def StepT.toD (b : StepT) : D := .agg [.str b.name, .int .i64 b.at_, .int .i64 b.value]
theorem s_isAgg (b : StepT) : b.toD.isAgg = true := rfl
theorem s_cells (b : StepT) : b.toD.cells = [.str b.name, .int .i64 b.at_, .int .i64 b.value] := rfl
structure TimedT where
  thread : Int
  serial : Int
  at_ : Int
  kind : Int
  name : List UInt8
  n : Int
  m : Int
  stack : List (List UInt8)
  lo : Int
  hi : Int
deriving Inhabited
def TimedT.toD (b : TimedT) : D := .agg [.int .i64 b.thread, .int .i64 b.serial, .int .i64 b.at_, .int .i64 b.kind, .str b.name, .int .i64 b.n, .int .i64 b.m, .sl (b.stack.map .str), .int .i64 b.lo, .int .i64 b.hi]
theorem t_isAgg (b : TimedT) : b.toD.isAgg = true := rfl
theorem t_cells (b : TimedT) : b.toD.cells = [.int .i64 b.thread, .int .i64 b.serial, .int .i64 b.at_, .int .i64 b.kind, .str b.name, .int .i64 b.n, .int .i64 b.m, .sl (b.stack.map .str), .int .i64 b.lo, .int .i64 b.hi] := rfl

def timeF (t : TimedT) : Int := max 0 (min t.lo 1000000000000)
theorem c24 (t : TimedT) : Pure Try.prog 24 [.d t.toD] (.d (.int .i64 (timeF t))) := by
  refine Pure.of1 ?_
  refine acalls_of Try.func24 rfl rfl (by simp [Try.ntmps24]) (evC_sound rfl _ _ _ _ ?_)
  simp only [Try.ntmps24, Try.results24, argEnv, List.length_nil]
  simp only [vcRules, dRules, bRules, tyRules, xRules, pickV_true, pickV_false, implies_true, Nat.reduceLT, Nat.reduceLeDiff, Nat.reduceEqDiff, Nat.reduceAdd, Nat.reduceSub, Nat.reduceMul, Int.reduceToNat, Int.reduceLT, Int.reduceLE, Int.reduceEq, Int.reduceAdd, Int.reduceSub, Int.reduceNeg, Int.reduceBEq, Int.reduceBNe, Int.reduceMul, Int.natCast_add, Int.natCast_one, reduceCtorEq, reduceIte, s_isAgg, s_cells, t_isAgg, t_cells, yRules]
  refine ⟨_, _, ret_d, ?_, rfl⟩
  unfold timeF; congr 2; omega
theorem c40 (t : TimedT) : Pure Try.prog 40 [.d t.toD] (.d (.int .i64 (timeF t))) := by
  refine Pure.of1 ?_
  refine acalls_of Try.func40 rfl rfl (by simp [Try.ntmps40]) (evC_sound rfl _ _ _ _ ?_)
  simp only [Try.ntmps40, Try.results40, argEnv, List.length_nil]
  simp only [vcRules, dRules, bRules, tyRules, xRules, pickV_true, pickV_false, implies_true, Nat.reduceLT, Nat.reduceLeDiff, Nat.reduceEqDiff, Nat.reduceAdd, Nat.reduceSub, Nat.reduceMul, Int.reduceToNat, Int.reduceLT, Int.reduceLE, Int.reduceEq, Int.reduceAdd, Int.reduceSub, Int.reduceNeg, Int.reduceBEq, Int.reduceBNe, Int.reduceMul, Int.natCast_add, Int.natCast_one, reduceCtorEq, reduceIte, s_isAgg, s_cells, t_isAgg, t_cells, yRules]
  refine ifC.mk (fun h1 => ?_) (fun h1 => ?_)
  · refine ⟨_, _, ret_d, ?_, rfl⟩
    simp at h1
    unfold timeF; congr 2; omega
  · refine ifC.mk (fun h2 => ?_) (fun h2 => ?_)
    · refine ⟨_, _, ret_d, ?_, rfl⟩
      simp at h1 h2
      unfold timeF; congr 2; omega
    · refine ⟨_, _, ret_d, ?_, rfl⟩
      simp at h1 h2
      unfold timeF; congr 2; omega
theorem c57 (a : List UInt8) : Pure Try.prog 57 [.d (.str a)] (.d (.bool false)) := by
  refine Pure.of1 ?_
  refine acalls_of Try.func57 rfl rfl (by simp [Try.ntmps57]) (evC_sound rfl _ _ _ _ ?_)
  simp only [Try.ntmps57, Try.results57, argEnv, List.length_nil]
  simp only [vcRules, dRules, bRules, tyRules, xRules, pickV_true, pickV_false, implies_true, Nat.reduceLT, Nat.reduceLeDiff, Nat.reduceEqDiff, Nat.reduceAdd, Nat.reduceSub, Nat.reduceMul, Int.reduceToNat, Int.reduceLT, Int.reduceLE, Int.reduceEq, Int.reduceAdd, Int.reduceSub, Int.reduceNeg, Int.reduceBEq, Int.reduceBNe, Int.reduceMul, Int.natCast_add, Int.natCast_one, reduceCtorEq, reduceIte, s_isAgg, s_cells, t_isAgg, t_cells, yRules]
  refine ⟨_, _, ret_d, ?_, rfl⟩
  simp
theorem c58 (a : Int) : Pure Try.prog 58 [.d (.int .i64 a)] (.d (.bool false)) := by
  refine Pure.of1 ?_
  refine acalls_of Try.func58 rfl rfl (by simp [Try.ntmps58]) (evC_sound rfl _ _ _ _ ?_)
  simp only [Try.ntmps58, Try.results58, argEnv, List.length_nil]
  simp only [vcRules, dRules, bRules, tyRules, xRules, pickV_true, pickV_false, implies_true, Nat.reduceLT, Nat.reduceLeDiff, Nat.reduceEqDiff, Nat.reduceAdd, Nat.reduceSub, Nat.reduceMul, Int.reduceToNat, Int.reduceLT, Int.reduceLE, Int.reduceEq, Int.reduceAdd, Int.reduceSub, Int.reduceNeg, Int.reduceBEq, Int.reduceBNe, Int.reduceMul, Int.natCast_add, Int.natCast_one, reduceCtorEq, reduceIte, s_isAgg, s_cells, t_isAgg, t_cells, yRules]
  refine ⟨_, _, ret_d, ?_, rfl⟩
  simp
def cmpI (a b : Int) : Int := if a < b then -1 else if b < a then 1 else 0
theorem c45 (a b : Int) : Pure Try.prog 45 [.d (.int .i64 a), .d (.int .i64 b)] (.d (.int .i64 (cmpI a b))) := by
  refine Pure.of2 ?_
  refine acalls_of Try.func45 rfl rfl (by simp [Try.ntmps45]) (evC_sound rfl _ _ _ _ ?_)
  simp only [Try.ntmps45, Try.results45, argEnv, List.length_nil]
  simp only [vcRules, dRules, bRules, tyRules, xRules, pickV_true, pickV_false, implies_true, Nat.reduceLT, Nat.reduceLeDiff, Nat.reduceEqDiff, Nat.reduceAdd, Nat.reduceSub, Nat.reduceMul, Int.reduceToNat, Int.reduceLT, Int.reduceLE, Int.reduceEq, Int.reduceAdd, Int.reduceSub, Int.reduceNeg, Int.reduceBEq, Int.reduceBNe, Int.reduceMul, Int.natCast_add, Int.natCast_one, reduceCtorEq, reduceIte, s_isAgg, s_cells, t_isAgg, t_cells, yRules]
  refine callF_pure (c58 _) ?_
  simp only [vcRules, dRules, bRules, tyRules, xRules, pickV_true, pickV_false, implies_true, Nat.reduceLT, Nat.reduceLeDiff, Nat.reduceEqDiff, Nat.reduceAdd, Nat.reduceSub, Nat.reduceMul, Int.reduceToNat, Int.reduceLT, Int.reduceLE, Int.reduceEq, Int.reduceAdd, Int.reduceSub, Int.reduceNeg, Int.reduceBEq, Int.reduceBNe, Int.reduceMul, Int.natCast_add, Int.natCast_one, reduceCtorEq, reduceIte, s_isAgg, s_cells, t_isAgg, t_cells, yRules]
  refine callF_pure (c58 _) ?_
  simp only [vcRules, dRules, bRules, tyRules, xRules, pickV_true, pickV_false, implies_true, Nat.reduceLT, Nat.reduceLeDiff, Nat.reduceEqDiff, Nat.reduceAdd, Nat.reduceSub, Nat.reduceMul, Int.reduceToNat, Int.reduceLT, Int.reduceLE, Int.reduceEq, Int.reduceAdd, Int.reduceSub, Int.reduceNeg, Int.reduceBEq, Int.reduceBNe, Int.reduceMul, Int.natCast_add, Int.natCast_one, reduceCtorEq, reduceIte, s_isAgg, s_cells, t_isAgg, t_cells, yRules]
  refine ifC.mk (fun h1 => ?_) (fun h1 => ?_)
  · refine ⟨_, _, ret_d, ?_, rfl⟩
    rw [cmpI, if_pos (by simpa using h1)]
  · refine ifC.mk (fun h2 => ?_) (fun h2 => ?_)
    · refine ⟨_, _, ret_d, ?_, rfl⟩
      rw [cmpI, if_neg (by simpa using h1), if_pos (by simpa using h2)]
    · refine ⟨_, _, ret_d, ?_, rfl⟩
      rw [cmpI, if_neg (by simpa using h1), if_neg (by simpa using h2)]
def ltS (a b : List UInt8) : Bool := Op.bytesLess a b
def cmpS (a b : List UInt8) : Int := if ltS a b = true then -1 else if (!(ltS a b || a == b)) = true then 1 else 0
theorem c44 (a b : List UInt8) : Pure Try.prog 44 [.d (.str a), .d (.str b)] (.d (.int .i64 (cmpS a b))) := by
  refine Pure.of2 ?_
  refine acalls_of Try.func44 rfl rfl (by simp [Try.ntmps44]) (evC_sound rfl _ _ _ _ ?_)
  simp only [Try.ntmps44, Try.results44, argEnv, List.length_nil]
  simp only [vcRules, dRules, bRules, tyRules, xRules, pickV_true, pickV_false, implies_true, Nat.reduceLT, Nat.reduceLeDiff, Nat.reduceEqDiff, Nat.reduceAdd, Nat.reduceSub, Nat.reduceMul, Int.reduceToNat, Int.reduceLT, Int.reduceLE, Int.reduceEq, Int.reduceAdd, Int.reduceSub, Int.reduceNeg, Int.reduceBEq, Int.reduceBNe, Int.reduceMul, Int.natCast_add, Int.natCast_one, reduceCtorEq, reduceIte, s_isAgg, s_cells, t_isAgg, t_cells, yRules]
  refine callF_pure (c57 _) ?_
  simp only [vcRules, dRules, bRules, tyRules, xRules, pickV_true, pickV_false, implies_true, Nat.reduceLT, Nat.reduceLeDiff, Nat.reduceEqDiff, Nat.reduceAdd, Nat.reduceSub, Nat.reduceMul, Int.reduceToNat, Int.reduceLT, Int.reduceLE, Int.reduceEq, Int.reduceAdd, Int.reduceSub, Int.reduceNeg, Int.reduceBEq, Int.reduceBNe, Int.reduceMul, Int.natCast_add, Int.natCast_one, reduceCtorEq, reduceIte, s_isAgg, s_cells, t_isAgg, t_cells, yRules]
  refine callF_pure (c57 _) ?_
  simp only [vcRules, dRules, bRules, tyRules, xRules, pickV_true, pickV_false, implies_true, Nat.reduceLT, Nat.reduceLeDiff, Nat.reduceEqDiff, Nat.reduceAdd, Nat.reduceSub, Nat.reduceMul, Int.reduceToNat, Int.reduceLT, Int.reduceLE, Int.reduceEq, Int.reduceAdd, Int.reduceSub, Int.reduceNeg, Int.reduceBEq, Int.reduceBNe, Int.reduceMul, Int.natCast_add, Int.natCast_one, reduceCtorEq, reduceIte, s_isAgg, s_cells, t_isAgg, t_cells, yRules]
  refine ifC.mk (fun h1 => ?_) (fun h1 => ?_)
  · refine ⟨_, _, ret_d, ?_, rfl⟩
    rw [cmpS, if_pos (show ltS a b = true from h1)]
  · refine ifC.mk (fun h2 => ?_) (fun h2 => ?_)
    · refine ⟨_, _, ret_d, ?_, rfl⟩
      rw [cmpS, if_neg (by rw [show ltS a b = false from h1]; simp), if_pos (show (!(ltS a b || a == b)) = true from h2)]
    · refine ⟨_, _, ret_d, ?_, rfl⟩
      rw [cmpS, if_neg (by rw [show ltS a b = false from h1]; simp), if_neg (show ¬ (!(ltS a b || a == b)) = true from by rw [show (!(ltS a b || a == b)) = false from h2]; simp)]
def orF (a b : Int) : Int := if a = 0 then b else a
theorem c43 (a b : Int) (B : Blk) (hB : ArrOrFrz 1 [.int .i64 a, .int .i64 b] B) : ACalls Try.prog [] 43 [.osl 0 0 2] [B] (fun r s => r = .d (.int .i64 (orF a b)) ∧ s = [B]) := by
  rcases hB with rfl | rfl
  · refine acalls_of Try.func43 rfl rfl (by simp [Try.ntmps43]) (evC_sound rfl _ _ _ _ ?_)
    simp only [Try.ntmps43, Try.results43, argEnv, List.length_nil]
    simp only [vcRules, dRules, bRules, tyRules, xRules, pickV_true, pickV_false, implies_true, Nat.reduceLT, Nat.reduceLeDiff, Nat.reduceEqDiff, Nat.reduceAdd, Nat.reduceSub, Nat.reduceMul, Int.reduceToNat, Int.reduceLT, Int.reduceLE, Int.reduceEq, Int.reduceAdd, Int.reduceSub, Int.reduceNeg, Int.reduceBEq, Int.reduceBNe, Int.reduceMul, Int.natCast_add, Int.natCast_one, reduceCtorEq, reduceIte, s_isAgg, s_cells, t_isAgg, t_cells, yRules]
    refine for_of 2 (fun k => [(3, .d (.int .i64 0)), (6, .osl 0 0 2), (7, .d (.int .i64 2)), (8, .d (.int .i64 k))]) (fun _ => [.arr 1 [.int .i64 a, .int .i64 b]]) (fun k => (0 < k → a = 0) ∧ (1 < k → b = 0)) ⟨by omega, by omega⟩ ?_ ?_
    · refine weak_to [] [0] rfl (by simp) ?_ rfl
      simp only [vcRules, dRules, bRules, tyRules, xRules, pickV_true, pickV_false, implies_true, Nat.reduceLT, Nat.reduceLeDiff, Nat.reduceEqDiff, Nat.reduceAdd, Nat.reduceSub, Nat.reduceMul, Int.reduceToNat, Int.reduceLT, Int.reduceLE, Int.reduceEq, Int.reduceAdd, Int.reduceSub, Int.reduceNeg, Int.reduceBEq, Int.reduceBNe, Int.reduceMul, Int.natCast_add, Int.natCast_one, reduceCtorEq, reduceIte, s_isAgg, s_cells, t_isAgg, t_cells, yRules, Int.cast_ofNat_Int]
    · intro k hi hk
      match k, hk, hi with
      | 0, _, hi =>
        simp only [vcRules, dRules, bRules, tyRules, xRules, pickV_true, pickV_false, implies_true, Nat.reduceLT, Nat.reduceLeDiff, Nat.reduceEqDiff, Nat.reduceAdd, Nat.reduceSub, Nat.reduceMul, Int.reduceToNat, Int.reduceLT, Int.reduceLE, Int.reduceEq, Int.reduceAdd, Int.reduceSub, Int.reduceNeg, Int.reduceBEq, Int.reduceBNe, Int.reduceMul, Int.natCast_add, Int.natCast_one, reduceCtorEq, reduceIte, s_isAgg, s_cells, t_isAgg, t_cells, yRules, Int.cast_ofNat_Int]
        repeat ((with_reducible refine And.intro ?_ ?_); (focus (first | omega | (simp only [List.length_take, List.length_drop, List.length_map, List.length_append, List.length_cons]; omega) | (intros; simp_all; done) | kernel_rfl)))
        refine ifC.mk (fun h => ?_) (fun h => ?_)
        · refine ⟨_, _, WeakR.refl _ _ _, ?_, rfl⟩
          rw [orF, if_neg (by simpa using h)]
        · refine ⟨by simpa using h, ?_⟩
          refine weak_to [] [0] rfl (by simp) ?_ rfl
          simp only [vcRules, dRules, bRules, tyRules, xRules, pickV_true, pickV_false, implies_true, Nat.reduceLT, Nat.reduceLeDiff, Nat.reduceEqDiff, Nat.reduceAdd, Nat.reduceSub, Nat.reduceMul, Int.reduceToNat, Int.reduceLT, Int.reduceLE, Int.reduceEq, Int.reduceAdd, Int.reduceSub, Int.reduceNeg, Int.reduceBEq, Int.reduceBNe, Int.reduceMul, Int.natCast_add, Int.natCast_one, reduceCtorEq, reduceIte, s_isAgg, s_cells, t_isAgg, t_cells, yRules, Int.cast_ofNat_Int, @a_wrap ((0:Int) + 1) (by omega)]
          kernel_rfl
      | 1, _, hi =>
        simp only [vcRules, dRules, bRules, tyRules, xRules, pickV_true, pickV_false, implies_true, Nat.reduceLT, Nat.reduceLeDiff, Nat.reduceEqDiff, Nat.reduceAdd, Nat.reduceSub, Nat.reduceMul, Int.reduceToNat, Int.reduceLT, Int.reduceLE, Int.reduceEq, Int.reduceAdd, Int.reduceSub, Int.reduceNeg, Int.reduceBEq, Int.reduceBNe, Int.reduceMul, Int.natCast_add, Int.natCast_one, reduceCtorEq, reduceIte, s_isAgg, s_cells, t_isAgg, t_cells, yRules, Int.cast_ofNat_Int]
        repeat ((with_reducible refine And.intro ?_ ?_); (focus (first | omega | (simp only [List.length_take, List.length_drop, List.length_map, List.length_append, List.length_cons]; omega) | (intros; simp_all; done) | kernel_rfl)))
        refine ifC.mk (fun h => ?_) (fun h => ?_)
        · refine ⟨_, _, WeakR.refl _ _ _, ?_, rfl⟩
          rw [orF, if_pos (hi.1 (by omega))]
        · refine ⟨⟨hi.1 (by omega), by simpa using h⟩, ?_⟩
          refine weak_to [] [0] rfl (by simp) ?_ rfl
          simp only [vcRules, dRules, bRules, tyRules, xRules, pickV_true, pickV_false, implies_true, Nat.reduceLT, Nat.reduceLeDiff, Nat.reduceEqDiff, Nat.reduceAdd, Nat.reduceSub, Nat.reduceMul, Int.reduceToNat, Int.reduceLT, Int.reduceLE, Int.reduceEq, Int.reduceAdd, Int.reduceSub, Int.reduceNeg, Int.reduceBEq, Int.reduceBNe, Int.reduceMul, Int.natCast_add, Int.natCast_one, reduceCtorEq, reduceIte, s_isAgg, s_cells, t_isAgg, t_cells, yRules, Int.cast_ofNat_Int, @a_wrap ((1:Int) + 1) (by omega)]
          kernel_rfl
      | 2, _, hi =>
        simp only [vcRules, dRules, bRules, tyRules, xRules, pickV_true, pickV_false, implies_true, Nat.reduceLT, Nat.reduceLeDiff, Nat.reduceEqDiff, Nat.reduceAdd, Nat.reduceSub, Nat.reduceMul, Int.reduceToNat, Int.reduceLT, Int.reduceLE, Int.reduceEq, Int.reduceAdd, Int.reduceSub, Int.reduceNeg, Int.reduceBEq, Int.reduceBNe, Int.reduceMul, Int.natCast_add, Int.natCast_one, reduceCtorEq, reduceIte, s_isAgg, s_cells, t_isAgg, t_cells, yRules, Int.cast_ofNat_Int]
        refine ⟨_, _, WeakR.refl _ _ _, ?_, rfl⟩
        rw [orF, if_pos (hi.1 (by omega)), hi.2 (by omega)]
  · refine acalls_of Try.func43 rfl rfl (by simp [Try.ntmps43]) (evC_sound rfl _ _ _ _ ?_)
    simp only [Try.ntmps43, Try.results43, argEnv, List.length_nil]
    simp only [vcRules, dRules, bRules, tyRules, xRules, pickV_true, pickV_false, implies_true, Nat.reduceLT, Nat.reduceLeDiff, Nat.reduceEqDiff, Nat.reduceAdd, Nat.reduceSub, Nat.reduceMul, Int.reduceToNat, Int.reduceLT, Int.reduceLE, Int.reduceEq, Int.reduceAdd, Int.reduceSub, Int.reduceNeg, Int.reduceBEq, Int.reduceBNe, Int.reduceMul, Int.natCast_add, Int.natCast_one, reduceCtorEq, reduceIte, s_isAgg, s_cells, t_isAgg, t_cells, yRules]
    refine for_of 2 (fun k => [(3, .d (.int .i64 0)), (6, .osl 0 0 2), (7, .d (.int .i64 2)), (8, .d (.int .i64 k))]) (fun _ => [.frz 1 [.int .i64 a, .int .i64 b]]) (fun k => (0 < k → a = 0) ∧ (1 < k → b = 0)) ⟨by omega, by omega⟩ ?_ ?_
    · refine weak_to [] [0] rfl (by simp) ?_ rfl
      simp only [vcRules, dRules, bRules, tyRules, xRules, pickV_true, pickV_false, implies_true, Nat.reduceLT, Nat.reduceLeDiff, Nat.reduceEqDiff, Nat.reduceAdd, Nat.reduceSub, Nat.reduceMul, Int.reduceToNat, Int.reduceLT, Int.reduceLE, Int.reduceEq, Int.reduceAdd, Int.reduceSub, Int.reduceNeg, Int.reduceBEq, Int.reduceBNe, Int.reduceMul, Int.natCast_add, Int.natCast_one, reduceCtorEq, reduceIte, s_isAgg, s_cells, t_isAgg, t_cells, yRules, Int.cast_ofNat_Int]
    · intro k hi hk
      match k, hk, hi with
      | 0, _, hi =>
        simp only [vcRules, dRules, bRules, tyRules, xRules, pickV_true, pickV_false, implies_true, Nat.reduceLT, Nat.reduceLeDiff, Nat.reduceEqDiff, Nat.reduceAdd, Nat.reduceSub, Nat.reduceMul, Int.reduceToNat, Int.reduceLT, Int.reduceLE, Int.reduceEq, Int.reduceAdd, Int.reduceSub, Int.reduceNeg, Int.reduceBEq, Int.reduceBNe, Int.reduceMul, Int.natCast_add, Int.natCast_one, reduceCtorEq, reduceIte, s_isAgg, s_cells, t_isAgg, t_cells, yRules, Int.cast_ofNat_Int]
        repeat ((with_reducible refine And.intro ?_ ?_); (focus (first | omega | (simp only [List.length_take, List.length_drop, List.length_map, List.length_append, List.length_cons]; omega) | (intros; simp_all; done) | kernel_rfl)))
        refine ifC.mk (fun h => ?_) (fun h => ?_)
        · refine ⟨_, _, WeakR.refl _ _ _, ?_, rfl⟩
          rw [orF, if_neg (by simpa using h)]
        · refine ⟨by simpa using h, ?_⟩
          refine weak_to [] [0] rfl (by simp) ?_ rfl
          simp only [vcRules, dRules, bRules, tyRules, xRules, pickV_true, pickV_false, implies_true, Nat.reduceLT, Nat.reduceLeDiff, Nat.reduceEqDiff, Nat.reduceAdd, Nat.reduceSub, Nat.reduceMul, Int.reduceToNat, Int.reduceLT, Int.reduceLE, Int.reduceEq, Int.reduceAdd, Int.reduceSub, Int.reduceNeg, Int.reduceBEq, Int.reduceBNe, Int.reduceMul, Int.natCast_add, Int.natCast_one, reduceCtorEq, reduceIte, s_isAgg, s_cells, t_isAgg, t_cells, yRules, Int.cast_ofNat_Int, @a_wrap ((0:Int) + 1) (by omega)]
          kernel_rfl
      | 1, _, hi =>
        simp only [vcRules, dRules, bRules, tyRules, xRules, pickV_true, pickV_false, implies_true, Nat.reduceLT, Nat.reduceLeDiff, Nat.reduceEqDiff, Nat.reduceAdd, Nat.reduceSub, Nat.reduceMul, Int.reduceToNat, Int.reduceLT, Int.reduceLE, Int.reduceEq, Int.reduceAdd, Int.reduceSub, Int.reduceNeg, Int.reduceBEq, Int.reduceBNe, Int.reduceMul, Int.natCast_add, Int.natCast_one, reduceCtorEq, reduceIte, s_isAgg, s_cells, t_isAgg, t_cells, yRules, Int.cast_ofNat_Int]
        repeat ((with_reducible refine And.intro ?_ ?_); (focus (first | omega | (simp only [List.length_take, List.length_drop, List.length_map, List.length_append, List.length_cons]; omega) | (intros; simp_all; done) | kernel_rfl)))
        refine ifC.mk (fun h => ?_) (fun h => ?_)
        · refine ⟨_, _, WeakR.refl _ _ _, ?_, rfl⟩
          rw [orF, if_pos (hi.1 (by omega))]
        · refine ⟨⟨hi.1 (by omega), by simpa using h⟩, ?_⟩
          refine weak_to [] [0] rfl (by simp) ?_ rfl
          simp only [vcRules, dRules, bRules, tyRules, xRules, pickV_true, pickV_false, implies_true, Nat.reduceLT, Nat.reduceLeDiff, Nat.reduceEqDiff, Nat.reduceAdd, Nat.reduceSub, Nat.reduceMul, Int.reduceToNat, Int.reduceLT, Int.reduceLE, Int.reduceEq, Int.reduceAdd, Int.reduceSub, Int.reduceNeg, Int.reduceBEq, Int.reduceBNe, Int.reduceMul, Int.natCast_add, Int.natCast_one, reduceCtorEq, reduceIte, s_isAgg, s_cells, t_isAgg, t_cells, yRules, Int.cast_ofNat_Int, @a_wrap ((1:Int) + 1) (by omega)]
          kernel_rfl
      | 2, _, hi =>
        simp only [vcRules, dRules, bRules, tyRules, xRules, pickV_true, pickV_false, implies_true, Nat.reduceLT, Nat.reduceLeDiff, Nat.reduceEqDiff, Nat.reduceAdd, Nat.reduceSub, Nat.reduceMul, Int.reduceToNat, Int.reduceLT, Int.reduceLE, Int.reduceEq, Int.reduceAdd, Int.reduceSub, Int.reduceNeg, Int.reduceBEq, Int.reduceBNe, Int.reduceMul, Int.natCast_add, Int.natCast_one, reduceCtorEq, reduceIte, s_isAgg, s_cells, t_isAgg, t_cells, yRules, Int.cast_ofNat_Int]
        refine ⟨_, _, WeakR.refl _ _ _, ?_, rfl⟩
        rw [orF, if_pos (hi.1 (by omega)), hi.2 (by omega)]

def orderF (a b : StepT) : Int := orF (cmpS a.name b.name) (cmpI a.at_ b.at_)
theorem c26 (a b : StepT) : Pure Try.prog 26 [.d a.toD, .d b.toD] (.d (.int .i64 (orderF a b))) := by
  refine Pure.of2 ?_
  refine acalls_of Try.func26 rfl rfl (by simp [Try.ntmps26]) (evC_sound rfl _ _ _ _ ?_)
  simp only [Try.ntmps26, Try.results26, argEnv, List.length_nil]
  simp only [vcRules, dRules, bRules, tyRules, xRules, pickV_true, pickV_false, implies_true, Nat.reduceLT, Nat.reduceLeDiff, Nat.reduceEqDiff, Nat.reduceAdd, Nat.reduceSub, Nat.reduceMul, Int.reduceToNat, Int.reduceLT, Int.reduceLE, Int.reduceEq, Int.reduceAdd, Int.reduceSub, Int.reduceNeg, Int.reduceBEq, Int.reduceBNe, Int.reduceMul, Int.natCast_add, Int.natCast_one, reduceCtorEq, reduceIte, s_isAgg, s_cells, t_isAgg, t_cells, yRules]
  refine ⟨by kernel_rfl, callF_pure (c44 _ _) ?_⟩
  simp only [vcRules, dRules, bRules, tyRules, xRules, pickV_true, pickV_false, implies_true, Nat.reduceLT, Nat.reduceLeDiff, Nat.reduceEqDiff, Nat.reduceAdd, Nat.reduceSub, Nat.reduceMul, Int.reduceToNat, Int.reduceLT, Int.reduceLE, Int.reduceEq, Int.reduceAdd, Int.reduceSub, Int.reduceNeg, Int.reduceBEq, Int.reduceBNe, Int.reduceMul, Int.natCast_add, Int.natCast_one, reduceCtorEq, reduceIte, s_isAgg, s_cells, t_isAgg, t_cells, yRules]
  refine callF_pure (c45 _ _) ?_
  simp only [vcRules, dRules, bRules, tyRules, xRules, pickV_true, pickV_false, implies_true, Nat.reduceLT, Nat.reduceLeDiff, Nat.reduceEqDiff, Nat.reduceAdd, Nat.reduceSub, Nat.reduceMul, Int.reduceToNat, Int.reduceLT, Int.reduceLE, Int.reduceEq, Int.reduceAdd, Int.reduceSub, Int.reduceNeg, Int.reduceBEq, Int.reduceBNe, Int.reduceMul, Int.natCast_add, Int.natCast_one, reduceCtorEq, reduceIte, s_isAgg, s_cells, t_isAgg, t_cells, yRules]
  repeat ((with_reducible refine And.intro ?_ ?_); (focus (first | omega | (simp only [List.length_take, List.length_drop, List.length_map, List.length_append, List.length_cons]; omega) | (intros; simp_all; done) | kernel_rfl)))
  refine callD_at1 2 (c43 _ _) (fun _ => rfl) rfl ?_
  simp only [vcRules, dRules, bRules, tyRules, xRules, pickV_true, pickV_false, implies_true, Nat.reduceLT, Nat.reduceLeDiff, Nat.reduceEqDiff, Nat.reduceAdd, Nat.reduceSub, Nat.reduceMul, Int.reduceToNat, Int.reduceLT, Int.reduceLE, Int.reduceEq, Int.reduceAdd, Int.reduceSub, Int.reduceNeg, Int.reduceBEq, Int.reduceBNe, Int.reduceMul, Int.natCast_add, Int.natCast_one, reduceCtorEq, reduceIte, s_isAgg, s_cells, t_isAgg, t_cells, yRules]
  exact ⟨_, _, ret_d, rfl, rfl⟩
theorem c30 (a : Int) : Pure Try.prog 30 [.d (.int .i64 a)] (.d (.bool (decide (-1000000000000000 ≤ a) && decide (a ≤ 1000000000000000)))) := by
  refine Pure.of1 ?_
  refine acalls_of Try.func30 rfl rfl (by simp [Try.ntmps30]) (evC_sound rfl _ _ _ _ ?_)
  simp only [Try.ntmps30, Try.results30, argEnv, List.length_nil]
  simp only [vcRules, dRules, bRules, tyRules, xRules, pickV_true, pickV_false, implies_true, Nat.reduceLT, Nat.reduceLeDiff, Nat.reduceEqDiff, Nat.reduceAdd, Nat.reduceSub, Nat.reduceMul, Int.reduceToNat, Int.reduceLT, Int.reduceLE, Int.reduceEq, Int.reduceAdd, Int.reduceSub, Int.reduceNeg, Int.reduceBEq, Int.reduceBNe, Int.reduceMul, Int.natCast_add, Int.natCast_one, reduceCtorEq, reduceIte, s_isAgg, s_cells, t_isAgg, t_cells, yRules]
  exact ⟨_, _, ret_d, rfl, rfl⟩

/-! ### checks -/
def inB (a : Int) : Bool := decide (-1000000000000000 ≤ a) && decide (a ≤ 1000000000000000)
def badS (b : StepT) : Bool := decide (b.at_ < 0) || decide (1000000000000 < b.at_) || !inB b.value
def ordS (a b : StepT) : Bool := decide (0 ≤ orderF a b) || (a.name == b.name && a.value == b.value)
def checkAt (l : List StepT) (k : Nat) : Int :=
  if nameF (l.getD k default).name ≠ 0 then nameF (l.getD k default).name else if badS (l.getD k default) = true then 2
  else if (decide (0 < k) && ordS (l.getD (k - 1) default) (l.getD k default)) = true then 11 else 0
def checkF (l : List StepT) : Int := firstErr (checkAt l) l.length
theorem checkAt_n {l : List StepT} {k : Nat} (h : nameF (l.getD k default).name ≠ 0) : checkAt l k = nameF (l.getD k default).name := by rw [checkAt, if_pos h]
theorem checkAt_b {l : List StepT} {k : Nat} (h : nameF (l.getD k default).name = 0) (h2 : badS (l.getD k default) = true) : checkAt l k = 2 := by rw [checkAt, if_neg (by rw [h]; simp), if_pos h2]
theorem checkAt_o {l : List StepT} {k : Nat} (h : nameF (l.getD k default).name = 0) (h2 : badS (l.getD k default) = false) : checkAt l k = if (decide (0 < k) && ordS (l.getD (k - 1) default) (l.getD k default)) = true then 11 else 0 := by
  rw [checkAt, if_neg (by rw [h]; simp), if_neg (by rw [h2]; simp)]

theorem c14 (l : List StepT) (hl : l.length < 1000000) : Pure Try.prog 14 [.d (.sl (l.map StepT.toD))] (.d (.int .i64 (checkF l))) := by
  refine Pure.of1 ?_
  refine acalls_of Try.func14 rfl rfl (by simp [Try.ntmps14]) (evC_sound rfl _ _ _ _ ?_)
  simp only [Try.ntmps14, Try.results14, argEnv, List.length_nil]
  simp only [vcRules, dRules, bRules, tyRules, xRules, pickV_true, pickV_false, implies_true, Nat.reduceLT, Nat.reduceLeDiff, Nat.reduceEqDiff, Nat.reduceAdd, Nat.reduceSub, Nat.reduceMul, Int.reduceToNat, Int.reduceLT, Int.reduceLE, Int.reduceEq, Int.reduceAdd, Int.reduceSub, Int.reduceNeg, Int.reduceBEq, Int.reduceBNe, Int.reduceMul, Int.natCast_add, Int.natCast_one, reduceCtorEq, reduceIte, s_isAgg, s_cells, t_isAgg, t_cells, yRules]
  refine for_of l.length (fun k => [(0, .d (.sl (l.map StepT.toD))), (6, .d (.sl (l.map StepT.toD))), (7, .d (.int .i64 l.length)), (8, .d (.int .i64 k))]) (fun _ => []) (fun k => firstErr (checkAt l) k = 0) rfl ?_ ?_
  · refine weak_to [] [] rfl List.nodup_nil ?_ rfl
    simp only [vcRules, dRules, bRules, tyRules, xRules, pickV_true, pickV_false, implies_true, Nat.reduceLT, Nat.reduceLeDiff, Nat.reduceEqDiff, Nat.reduceAdd, Nat.reduceSub, Nat.reduceMul, Int.reduceToNat, Int.reduceLT, Int.reduceLE, Int.reduceEq, Int.reduceAdd, Int.reduceSub, Int.reduceNeg, Int.reduceBEq, Int.reduceBNe, Int.reduceMul, Int.natCast_add, Int.natCast_one, reduceCtorEq, reduceIte, s_isAgg, s_cells, t_isAgg, t_cells, yRules, Int.cast_ofNat_Int]
  · intro k hi hk
    by_cases h : k < l.length
    · have hb : ∀ e, checkAt l k = e → e ≠ 0 → checkF l = e := fun e h1 h2 => by rw [checkF, firstErr_at hi (by rw [h1]; exact h2) h, h1]
      obtain ⟨b, eb⟩ : ∃ b, b = l.getD k default := ⟨_, rfl⟩
      simp only [vcRules, dRules, bRules, tyRules, xRules, pickV_true, pickV_false, implies_true, Nat.reduceLT, Nat.reduceLeDiff, Nat.reduceEqDiff, Nat.reduceAdd, Nat.reduceSub, Nat.reduceMul, Int.reduceToNat, Int.reduceLT, Int.reduceLE, Int.reduceEq, Int.reduceAdd, Int.reduceSub, Int.reduceNeg, Int.reduceBEq, Int.reduceBNe, Int.reduceMul, Int.natCast_add, Int.natCast_one, reduceCtorEq, reduceIte, s_isAgg, s_cells, t_isAgg, t_cells, yRules, (show (k:Int) < l.length by omega), h, a_getD _ _ _ (show k < l.length by omega), ← eb]
      repeat ((with_reducible refine And.intro ?_ ?_); (focus (first | omega | (simp only [List.length_take, List.length_drop, List.length_map, List.length_append, List.length_cons]; omega) | (intros; simp_all; done) | kernel_rfl)))
      refine callF_pure (c29 _) ?_
      simp only [vcRules, dRules, bRules, tyRules, xRules, pickV_true, pickV_false, implies_true, Nat.reduceLT, Nat.reduceLeDiff, Nat.reduceEqDiff, Nat.reduceAdd, Nat.reduceSub, Nat.reduceMul, Int.reduceToNat, Int.reduceLT, Int.reduceLE, Int.reduceEq, Int.reduceAdd, Int.reduceSub, Int.reduceNeg, Int.reduceBEq, Int.reduceBNe, Int.reduceMul, Int.natCast_add, Int.natCast_one, reduceCtorEq, reduceIte, s_isAgg, s_cells, t_isAgg, t_cells, yRules]
      refine ifC.mk (fun h1 => ?_) (fun h1 => ?_)
      · have h1 : nameF b.name ≠ 0 := by simpa using h1
        refine ⟨_, _, ret_d, ?_, rfl⟩
        rw [hb _ (checkAt_n (by rw [← eb]; exact h1)) (by rw [← eb]; exact h1), ← eb]
      · have h1 : nameF b.name = 0 := by simpa using h1
        repeat ((with_reducible refine And.intro ?_ ?_); (focus (first | omega | (simp only [List.length_take, List.length_drop, List.length_map, List.length_append, List.length_cons]; omega) | (intros; simp_all; done) | kernel_rfl)))
        refine callG_pure (fun _ => c30 _) ?_
        simp only [vcRules, dRules, bRules, tyRules, xRules, pickV_true, pickV_false, implies_true, Nat.reduceLT, Nat.reduceLeDiff, Nat.reduceEqDiff, Nat.reduceAdd, Nat.reduceSub, Nat.reduceMul, Int.reduceToNat, Int.reduceLT, Int.reduceLE, Int.reduceEq, Int.reduceAdd, Int.reduceSub, Int.reduceNeg, Int.reduceBEq, Int.reduceBNe, Int.reduceMul, Int.natCast_add, Int.natCast_one, reduceCtorEq, reduceIte, s_isAgg, s_cells, t_isAgg, t_cells, yRules]
        repeat ((with_reducible refine And.intro ?_ ?_); (focus (first | omega | (simp only [List.length_take, List.length_drop, List.length_map, List.length_append, List.length_cons]; omega) | (intros; simp_all; done) | kernel_rfl)))
        refine ifC.mk (fun h2 => ?_) (fun h2 => ?_)
        · refine ⟨_, _, ret_d, ?_, rfl⟩
          rw [hb 2 (checkAt_b (by rw [← eb]; exact h1) (by rw [← eb]; exact h2)) (by omega)]
        · have h2 : badS b = false := h2
          have ho := checkAt_o (l := l) (k := k) (by rw [← eb]; exact h1) (by rw [← eb]; exact h2)
          rw [← eb] at ho
          by_cases hk0 : 0 < k
          · have e1 : IntKind.i64.wrap ((k : Int) - 1) = ((k - 1 : Nat) : Int) := by rw [wrap64 (by omega) (by omega)]; omega
            obtain ⟨a, ea⟩ : ∃ a, a = l.getD (k - 1) default := ⟨_, rfl⟩
            rw [decide_eq_true hk0, Bool.true_and, ← ea] at ho
            simp only [vcRules, dRules, bRules, tyRules, xRules, pickV_true, pickV_false, implies_true, Nat.reduceLT, Nat.reduceLeDiff, Nat.reduceEqDiff, Nat.reduceAdd, Nat.reduceSub, Nat.reduceMul, Int.reduceToNat, Int.reduceLT, Int.reduceLE, Int.reduceEq, Int.reduceAdd, Int.reduceSub, Int.reduceNeg, Int.reduceBEq, Int.reduceBNe, Int.reduceMul, Int.natCast_add, Int.natCast_one, reduceCtorEq, reduceIte, s_isAgg, s_cells, t_isAgg, t_cells, yRules, (show (0:Int) < k by omega), e1, (show ((k - 1 : Nat) : Int) < l.length by omega), (show k - 1 < l.length by omega), a_getD _ _ _ (show k - 1 < l.length by omega), ← ea]
            repeat ((with_reducible refine And.intro ?_ ?_); (focus (first | omega | (simp only [List.length_take, List.length_drop, List.length_map, List.length_append, List.length_cons]; omega) | (intros; simp_all; done) | kernel_rfl)))
            refine callG_pure (fun _ => c26 _ _) ?_
            simp only [vcRules, dRules, bRules, tyRules, xRules, pickV_true, pickV_false, implies_true, Nat.reduceLT, Nat.reduceLeDiff, Nat.reduceEqDiff, Nat.reduceAdd, Nat.reduceSub, Nat.reduceMul, Int.reduceToNat, Int.reduceLT, Int.reduceLE, Int.reduceEq, Int.reduceAdd, Int.reduceSub, Int.reduceNeg, Int.reduceBEq, Int.reduceBNe, Int.reduceMul, Int.natCast_add, Int.natCast_one, reduceCtorEq, reduceIte, s_isAgg, s_cells, t_isAgg, t_cells, yRules, (show (0:Int) < k by omega), e1, (show ((k - 1 : Nat) : Int) < l.length by omega), (show k - 1 < l.length by omega), a_getD _ _ _ (show k - 1 < l.length by omega), ← ea]
            repeat ((with_reducible refine And.intro ?_ ?_); (focus (first | omega | (simp only [List.length_take, List.length_drop, List.length_map, List.length_append, List.length_cons]; omega) | (intros; simp_all; done) | kernel_rfl)))
            refine ifC.mk (fun h3 => ?_) (fun h3 => ?_)
            · refine ⟨_, _, ret_d, ?_, rfl⟩
              rw [if_pos (show ordS a b = true from h3)] at ho
              rw [hb 11 ho (by omega)]
            · rw [if_neg (by rw [show ordS a b = false from h3]; simp)] at ho
              refine ⟨firstErr_step hi ho, ?_⟩
              refine weak_to [] [] rfl List.nodup_nil ?_ rfl
              simp only [vcRules, dRules, bRules, tyRules, xRules, pickV_true, pickV_false, implies_true, Nat.reduceLT, Nat.reduceLeDiff, Nat.reduceEqDiff, Nat.reduceAdd, Nat.reduceSub, Nat.reduceMul, Int.reduceToNat, Int.reduceLT, Int.reduceLE, Int.reduceEq, Int.reduceAdd, Int.reduceSub, Int.reduceNeg, Int.reduceBEq, Int.reduceBNe, Int.reduceMul, Int.natCast_add, Int.natCast_one, reduceCtorEq, reduceIte, s_isAgg, s_cells, t_isAgg, t_cells, yRules, @a_wrap ((k:Int) + 1) (by omega)]
          · rw [decide_eq_false hk0, Bool.false_and, if_neg (by simp)] at ho
            have e0 : (IntKind.i64.wrap ((k : Int) - 1)).toNat = 0 := by rw [wrap64 (by omega) (by omega)]; omega
            simp only [vcRules, dRules, bRules, tyRules, xRules, pickV_true, pickV_false, implies_true, Nat.reduceLT, Nat.reduceLeDiff, Nat.reduceEqDiff, Nat.reduceAdd, Nat.reduceSub, Nat.reduceMul, Int.reduceToNat, Int.reduceLT, Int.reduceLE, Int.reduceEq, Int.reduceAdd, Int.reduceSub, Int.reduceNeg, Int.reduceBEq, Int.reduceBNe, Int.reduceMul, Int.natCast_add, Int.natCast_one, reduceCtorEq, reduceIte, s_isAgg, s_cells, t_isAgg, t_cells, yRules, (show ¬ (0:Int) < k by omega), e0, a_getD _ _ _ (show 0 < l.length by omega)]
            repeat ((with_reducible refine And.intro ?_ ?_); (focus (first | omega | (simp only [List.length_take, List.length_drop, List.length_map, List.length_append, List.length_cons]; omega) | (intros; simp_all; done) | kernel_rfl)))
            refine callG_pure (v := .d (.int .i64 0)) (fun h => by cases h) ?_
            simp only [vcRules, dRules, bRules, tyRules, xRules, pickV_true, pickV_false, implies_true, Nat.reduceLT, Nat.reduceLeDiff, Nat.reduceEqDiff, Nat.reduceAdd, Nat.reduceSub, Nat.reduceMul, Int.reduceToNat, Int.reduceLT, Int.reduceLE, Int.reduceEq, Int.reduceAdd, Int.reduceSub, Int.reduceNeg, Int.reduceBEq, Int.reduceBNe, Int.reduceMul, Int.natCast_add, Int.natCast_one, reduceCtorEq, reduceIte, s_isAgg, s_cells, t_isAgg, t_cells, yRules, e0, a_getD _ _ _ (show 0 < l.length by omega)]
            refine ⟨firstErr_step hi ho, ?_⟩
            refine weak_to [] [] rfl List.nodup_nil ?_ rfl
            simp only [vcRules, dRules, bRules, tyRules, xRules, pickV_true, pickV_false, implies_true, Nat.reduceLT, Nat.reduceLeDiff, Nat.reduceEqDiff, Nat.reduceAdd, Nat.reduceSub, Nat.reduceMul, Int.reduceToNat, Int.reduceLT, Int.reduceLE, Int.reduceEq, Int.reduceAdd, Int.reduceSub, Int.reduceNeg, Int.reduceBEq, Int.reduceBNe, Int.reduceMul, Int.natCast_add, Int.natCast_one, reduceCtorEq, reduceIte, s_isAgg, s_cells, t_isAgg, t_cells, yRules, @a_wrap ((k:Int) + 1) (by omega)]
    · simp only [vcRules, dRules, bRules, tyRules, xRules, pickV_true, pickV_false, implies_true, Nat.reduceLT, Nat.reduceLeDiff, Nat.reduceEqDiff, Nat.reduceAdd, Nat.reduceSub, Nat.reduceMul, Int.reduceToNat, Int.reduceLT, Int.reduceLE, Int.reduceEq, Int.reduceAdd, Int.reduceSub, Int.reduceNeg, Int.reduceBEq, Int.reduceBNe, Int.reduceMul, Int.natCast_add, Int.natCast_one, reduceCtorEq, reduceIte, s_isAgg, s_cells, t_isAgg, t_cells, yRules, (show ¬ (k:Int) < l.length by omega)]
      refine ⟨_, _, ret_d, ?_, rfl⟩
      have : k = l.length := by omega
      rw [checkF, ← this, hi]
end Ytlelaieadgkemaa
end Go.Proofs
