/- A part of the proof: contracts of functions of this seat, and lemmas. No condition beyond those stated. -/
import Derived.Test.YtlelaieadgkemaaM30c
set_option linter.unusedVariables false
set_option linter.unusedSimpArgs false
set_option linter.unusedSectionVars false
set_option linter.unnecessarySimpa false
set_option linter.unusedSimpArgs false
set_option linter.unusedVariables false
set_option maxRecDepth 100000
namespace Go.Proofs
open Go.AM
namespace Ytlelaieadgkemaa

def atB (b : StepT) (name : List UInt8) (t : Int) : Bool := b.name == name && decide (b.at_ ≤ t)
def atF (l : List StepT) (name : List UInt8) (t : Int) : Nat → Int × Bool
  | 0 => (0, false)
  | k + 1 => if atB (l.getD k default) name t = true then ((l.getD k default).value, true) else atF l name t k

theorem c15 (l : List StepT) (name : List UInt8) (t : Int) (hl : l.length < 1000000) : Pure Try.prog 15 [.d (.sl (l.map StepT.toD)), .d (.str name), .d (.int .i64 t)] (.tup [.d (.int .i64 (atF l name t l.length).1), .d (.bool (atF l name t l.length).2)]) := by
  refine Pure.of3t2 ?_
  refine acalls_of Try.func15 rfl rfl (by simp [Try.ntmps15]) (evC_sound rfl _ _ _ _ ?_)
  simp only [Try.ntmps15, Try.results15, argEnv, List.length_nil]
  simp only [vcRules, dRules, bRules, tyRules, xRules, pickV_true, pickV_false, implies_true, Nat.reduceLT, Nat.reduceLeDiff, Nat.reduceEqDiff, Nat.reduceAdd, Nat.reduceSub, Nat.reduceMul, Int.reduceToNat, Int.reduceLT, Int.reduceLE, Int.reduceEq, Int.reduceAdd, Int.reduceSub, Int.reduceNeg, Int.reduceBEq, Int.reduceBNe, Int.reduceMul, Int.natCast_add, Int.natCast_one, reduceCtorEq, reduceIte, s_isAgg, s_cells, t_isAgg, t_cells, yRules]
  refine for_of l.length (fun k => [(1, .d (.str name)), (2, .d (.int .i64 t)), (8, .d (.int .i64 (atF l name t k).1)), (9, .d (.bool (atF l name t k).2)), (12, .d (.sl (l.map StepT.toD))), (13, .d (.int .i64 l.length)), (14, .d (.int .i64 k))]) (fun _ => []) (fun _ => True) trivial ?_ ?_
  · refine weak_to [] [] rfl List.nodup_nil ?_ rfl
    simp only [vcRules, dRules, bRules, tyRules, xRules, pickV_true, pickV_false, implies_true, Nat.reduceLT, Nat.reduceLeDiff, Nat.reduceEqDiff, Nat.reduceAdd, Nat.reduceSub, Nat.reduceMul, Int.reduceToNat, Int.reduceLT, Int.reduceLE, Int.reduceEq, Int.reduceAdd, Int.reduceSub, Int.reduceNeg, Int.reduceBEq, Int.reduceBNe, Int.reduceMul, Int.natCast_add, Int.natCast_one, reduceCtorEq, reduceIte, s_isAgg, s_cells, t_isAgg, t_cells, yRules, Int.cast_ofNat_Int, atF]
  · intro k _ hk
    by_cases h : k < l.length
    · simp only [vcRules, dRules, bRules, tyRules, xRules, pickV_true, pickV_false, implies_true, Nat.reduceLT, Nat.reduceLeDiff, Nat.reduceEqDiff, Nat.reduceAdd, Nat.reduceSub, Nat.reduceMul, Int.reduceToNat, Int.reduceLT, Int.reduceLE, Int.reduceEq, Int.reduceAdd, Int.reduceSub, Int.reduceNeg, Int.reduceBEq, Int.reduceBNe, Int.reduceMul, Int.natCast_add, Int.natCast_one, reduceCtorEq, reduceIte, s_isAgg, s_cells, t_isAgg, t_cells, yRules, (show (k:Int) < l.length by omega), h, a_getD _ _ _ (show k < l.length by omega)]
      repeat ((with_reducible refine And.intro ?_ ?_); (focus (first | omega | (simp only [List.length_take, List.length_drop, List.length_map, List.length_append, List.length_cons]; omega) | (intros; simp_all; done) | (refine (show drawChk _ = true from ?_); kernel_rfl))))
      refine ifC.mk (fun hc => ?_) (fun hc => ?_)
      · repeat ((with_reducible refine And.intro ?_ ?_); (focus (first | omega | (simp only [List.length_take, List.length_drop, List.length_map, List.length_append, List.length_cons]; omega) | (intros; simp_all; done) | (refine (show drawChk _ = true from ?_); kernel_rfl))))
        refine weak_to [] [] rfl List.nodup_nil ?_ rfl
        simp only [vcRules, dRules, bRules, tyRules, xRules, pickV_true, pickV_false, implies_true, Nat.reduceLT, Nat.reduceLeDiff, Nat.reduceEqDiff, Nat.reduceAdd, Nat.reduceSub, Nat.reduceMul, Int.reduceToNat, Int.reduceLT, Int.reduceLE, Int.reduceEq, Int.reduceAdd, Int.reduceSub, Int.reduceNeg, Int.reduceBEq, Int.reduceBNe, Int.reduceMul, Int.natCast_add, Int.natCast_one, reduceCtorEq, reduceIte, s_isAgg, s_cells, t_isAgg, t_cells, yRules, @a_wrap ((k:Int) + 1) (by omega), atF]
        rw [if_pos (show atB (l.getD k default) name t = true from hc)]
      · refine weak_to [] [] rfl List.nodup_nil ?_ rfl
        simp only [vcRules, dRules, bRules, tyRules, xRules, pickV_true, pickV_false, implies_true, Nat.reduceLT, Nat.reduceLeDiff, Nat.reduceEqDiff, Nat.reduceAdd, Nat.reduceSub, Nat.reduceMul, Int.reduceToNat, Int.reduceLT, Int.reduceLE, Int.reduceEq, Int.reduceAdd, Int.reduceSub, Int.reduceNeg, Int.reduceBEq, Int.reduceBNe, Int.reduceMul, Int.natCast_add, Int.natCast_one, reduceCtorEq, reduceIte, s_isAgg, s_cells, t_isAgg, t_cells, yRules, @a_wrap ((k:Int) + 1) (by omega), atF]
        rw [if_neg (by rw [show atB (l.getD k default) name t = false from hc]; simp)]
    · have : k = l.length := by omega
      subst this
      simp only [vcRules, dRules, bRules, tyRules, xRules, pickV_true, pickV_false, implies_true, Nat.reduceLT, Nat.reduceLeDiff, Nat.reduceEqDiff, Nat.reduceAdd, Nat.reduceSub, Nat.reduceMul, Int.reduceToNat, Int.reduceLT, Int.reduceLE, Int.reduceEq, Int.reduceAdd, Int.reduceSub, Int.reduceNeg, Int.reduceBEq, Int.reduceBNe, Int.reduceMul, Int.natCast_add, Int.natCast_one, reduceCtorEq, reduceIte, s_isAgg, s_cells, t_isAgg, t_cells, yRules, (show ¬ (l.length:Int) < l.length by omega)]
      exact ⟨_, _, ret_t2, rfl, rfl⟩
theorem c17 (l : List StepT) (name : List UInt8) (t : Int) (hl : l.length < 1000000) : Pure Try.prog 17 [.d (.sl (l.map StepT.toD)), .d (.str name), .d (.int .i64 t)] (.tup [.d (.int .i64 (atF l name t l.length).1), .d (.bool (atF l name t l.length).2)]) := by
  refine Pure.of3t2 ?_
  refine acalls_of Try.func17 rfl rfl (by simp [Try.ntmps17]) (evC_sound rfl _ _ _ _ ?_)
  simp only [Try.ntmps17, Try.results17, argEnv, List.length_nil]
  simp only [vcRules, dRules, bRules, tyRules, xRules, pickV_true, pickV_false, implies_true, Nat.reduceLT, Nat.reduceLeDiff, Nat.reduceEqDiff, Nat.reduceAdd, Nat.reduceSub, Nat.reduceMul, Int.reduceToNat, Int.reduceLT, Int.reduceLE, Int.reduceEq, Int.reduceAdd, Int.reduceSub, Int.reduceNeg, Int.reduceBEq, Int.reduceBNe, Int.reduceMul, Int.natCast_add, Int.natCast_one, reduceCtorEq, reduceIte, s_isAgg, s_cells, t_isAgg, t_cells, yRules]
  refine for_of l.length (fun k => [(0, .d (.sl (l.map StepT.toD))), (1, .d (.str name)), (2, .d (.int .i64 t)), (8, .d (.int .i64 (atF l name t k).1)), (9, .d (.bool (atF l name t k).2)), (10, .d (.int .i64 k))]) (fun _ => []) (fun _ => True) trivial ?_ ?_
  · refine weak_to [] [] rfl List.nodup_nil ?_ rfl
    simp only [vcRules, dRules, bRules, tyRules, xRules, pickV_true, pickV_false, implies_true, Nat.reduceLT, Nat.reduceLeDiff, Nat.reduceEqDiff, Nat.reduceAdd, Nat.reduceSub, Nat.reduceMul, Int.reduceToNat, Int.reduceLT, Int.reduceLE, Int.reduceEq, Int.reduceAdd, Int.reduceSub, Int.reduceNeg, Int.reduceBEq, Int.reduceBNe, Int.reduceMul, Int.natCast_add, Int.natCast_one, reduceCtorEq, reduceIte, s_isAgg, s_cells, t_isAgg, t_cells, yRules, Int.cast_ofNat_Int, atF]
  · intro k _ hk
    by_cases h : k < l.length
    · simp only [vcRules, dRules, bRules, tyRules, xRules, pickV_true, pickV_false, implies_true, Nat.reduceLT, Nat.reduceLeDiff, Nat.reduceEqDiff, Nat.reduceAdd, Nat.reduceSub, Nat.reduceMul, Int.reduceToNat, Int.reduceLT, Int.reduceLE, Int.reduceEq, Int.reduceAdd, Int.reduceSub, Int.reduceNeg, Int.reduceBEq, Int.reduceBNe, Int.reduceMul, Int.natCast_add, Int.natCast_one, reduceCtorEq, reduceIte, s_isAgg, s_cells, t_isAgg, t_cells, yRules, (show (k:Int) < l.length by omega), h, a_getD _ _ _ (show k < l.length by omega)]
      repeat ((with_reducible refine And.intro ?_ ?_); (focus (first | omega | (simp only [List.length_take, List.length_drop, List.length_map, List.length_append, List.length_cons]; omega) | (intros; simp_all; done) | (refine (show drawChk _ = true from ?_); kernel_rfl))))
      refine ifC.mk (fun hc => ?_) (fun hc => ?_)
      · (try simp only [vcRules, dRules, bRules, tyRules, xRules, pickV_true, pickV_false, implies_true, Nat.reduceLT, Nat.reduceLeDiff, Nat.reduceEqDiff, Nat.reduceAdd, Nat.reduceSub, Nat.reduceMul, Int.reduceToNat, Int.reduceLT, Int.reduceLE, Int.reduceEq, Int.reduceAdd, Int.reduceSub, Int.reduceNeg, Int.reduceBEq, Int.reduceBNe, Int.reduceMul, Int.natCast_add, Int.natCast_one, reduceCtorEq, reduceIte, s_isAgg, s_cells, t_isAgg, t_cells, yRules, (show (k:Int) < l.length by omega), h, a_getD _ _ _ (show k < l.length by omega)])
        repeat ((with_reducible refine And.intro ?_ ?_); (focus (first | omega | (simp only [List.length_take, List.length_drop, List.length_map, List.length_append, List.length_cons]; omega) | (intros; simp_all; done) | (refine (show drawChk _ = true from ?_); kernel_rfl))))
        refine weak_to [] [] rfl List.nodup_nil ?_ rfl
        simp only [vcRules, dRules, bRules, tyRules, xRules, pickV_true, pickV_false, implies_true, Nat.reduceLT, Nat.reduceLeDiff, Nat.reduceEqDiff, Nat.reduceAdd, Nat.reduceSub, Nat.reduceMul, Int.reduceToNat, Int.reduceLT, Int.reduceLE, Int.reduceEq, Int.reduceAdd, Int.reduceSub, Int.reduceNeg, Int.reduceBEq, Int.reduceBNe, Int.reduceMul, Int.natCast_add, Int.natCast_one, reduceCtorEq, reduceIte, s_isAgg, s_cells, t_isAgg, t_cells, yRules, @a_wrap ((k:Int) + 1) (by omega), atF]
        rw [if_pos (show atB (l.getD k default) name t = true from hc)]
      · refine weak_to [] [] rfl List.nodup_nil ?_ rfl
        simp only [vcRules, dRules, bRules, tyRules, xRules, pickV_true, pickV_false, implies_true, Nat.reduceLT, Nat.reduceLeDiff, Nat.reduceEqDiff, Nat.reduceAdd, Nat.reduceSub, Nat.reduceMul, Int.reduceToNat, Int.reduceLT, Int.reduceLE, Int.reduceEq, Int.reduceAdd, Int.reduceSub, Int.reduceNeg, Int.reduceBEq, Int.reduceBNe, Int.reduceMul, Int.natCast_add, Int.natCast_one, reduceCtorEq, reduceIte, s_isAgg, s_cells, t_isAgg, t_cells, yRules, @a_wrap ((k:Int) + 1) (by omega), atF]
        rw [if_neg (by rw [show atB (l.getD k default) name t = false from hc]; simp)]
    · have : k = l.length := by omega
      subst this
      simp only [vcRules, dRules, bRules, tyRules, xRules, pickV_true, pickV_false, implies_true, Nat.reduceLT, Nat.reduceLeDiff, Nat.reduceEqDiff, Nat.reduceAdd, Nat.reduceSub, Nat.reduceMul, Int.reduceToNat, Int.reduceLT, Int.reduceLE, Int.reduceEq, Int.reduceAdd, Int.reduceSub, Int.reduceNeg, Int.reduceBEq, Int.reduceBNe, Int.reduceMul, Int.natCast_add, Int.natCast_one, reduceCtorEq, reduceIte, s_isAgg, s_cells, t_isAgg, t_cells, yRules, (show ¬ (l.length:Int) < l.length by omega)]
      exact ⟨_, _, ret_t2, rfl, rfl⟩

def zeroS : StepT := ⟨[], 0, 0⟩
def moreB (b : StepT) (name : List UInt8) (p : StepT × Bool) : Bool := b.name == name && (!p.2 || decide (p.1.value < b.value))
def peakF (l : List StepT) (name : List UInt8) : Nat → StepT × Bool
  | 0 => (zeroS, false)
  | k + 1 => if moreB (l.getD k default) name (peakF l name k) = true then (l.getD k default, true) else peakF l name k
theorem c18 (l : List StepT) (name : List UInt8) (hl : l.length < 1000000) : Pure Try.prog 18 [.d (.sl (l.map StepT.toD)), .d (.str name)] (.tup [.d (peakF l name l.length).1.toD, .d (.bool (peakF l name l.length).2)]) := by
  refine Pure.of2t2 ?_
  refine acalls_of Try.func18 rfl rfl (by simp [Try.ntmps18]) (evC_sound rfl _ _ _ _ ?_)
  simp only [Try.ntmps18, Try.results18, argEnv, List.length_nil]
  simp only [vcRules, dRules, bRules, tyRules, xRules, pickV_true, pickV_false, implies_true, Nat.reduceLT, Nat.reduceLeDiff, Nat.reduceEqDiff, Nat.reduceAdd, Nat.reduceSub, Nat.reduceMul, Int.reduceToNat, Int.reduceLT, Int.reduceLE, Int.reduceEq, Int.reduceAdd, Int.reduceSub, Int.reduceNeg, Int.reduceBEq, Int.reduceBNe, Int.reduceMul, Int.natCast_add, Int.natCast_one, reduceCtorEq, reduceIte, s_isAgg, s_cells, t_isAgg, t_cells, yRules]
  refine for_of l.length (fun k => [(1, .d (.str name)), (4, .ptr 0 0), (6, .ptr 1 0), (7, .d (.bool (peakF l name k).2)), (10, .d (.sl (l.map StepT.toD))), (11, .d (.int .i64 l.length)), (12, .d (.int .i64 k))]) (fun k => [.box 3 (.d zeroS.toD), .box 3 (.d (peakF l name k).1.toD)]) (fun _ => True) trivial ?_ ?_
  · refine weak_to [] [0, 1] rfl (by simp) ?_ ?_
    · simp only [vcRules, dRules, bRules, tyRules, xRules, pickV_true, pickV_false, implies_true, Nat.reduceLT, Nat.reduceLeDiff, Nat.reduceEqDiff, Nat.reduceAdd, Nat.reduceSub, Nat.reduceMul, Int.reduceToNat, Int.reduceLT, Int.reduceLE, Int.reduceEq, Int.reduceAdd, Int.reduceSub, Int.reduceNeg, Int.reduceBEq, Int.reduceBNe, Int.reduceMul, Int.natCast_add, Int.natCast_one, reduceCtorEq, reduceIte, s_isAgg, s_cells, t_isAgg, t_cells, yRules, Int.cast_ofNat_Int, peakF]
    · rfl
  · intro k _ hk
    by_cases h : k < l.length
    · obtain ⟨b, hb⟩ : ∃ b, b = l.getD k default := ⟨_, rfl⟩
      obtain ⟨p, hp⟩ : ∃ p, p = peakF l name k := ⟨_, rfl⟩
      have hst : peakF l name (k + 1) = if moreB b name p = true then (b, true) else p := by rw [peakF, hb, hp]
      rw [hst, ← hp]
      simp only [vcRules, dRules, bRules, tyRules, xRules, pickV_true, pickV_false, implies_true, Nat.reduceLT, Nat.reduceLeDiff, Nat.reduceEqDiff, Nat.reduceAdd, Nat.reduceSub, Nat.reduceMul, Int.reduceToNat, Int.reduceLT, Int.reduceLE, Int.reduceEq, Int.reduceAdd, Int.reduceSub, Int.reduceNeg, Int.reduceBEq, Int.reduceBNe, Int.reduceMul, Int.natCast_add, Int.natCast_one, reduceCtorEq, reduceIte, s_isAgg, s_cells, t_isAgg, t_cells, yRules, (show (k:Int) < l.length by omega), h, a_getD _ _ _ (show k < l.length by omega), ← hb]
      repeat ((with_reducible refine And.intro ?_ ?_); (focus (first | omega | (simp only [List.length_take, List.length_drop, List.length_map, List.length_append, List.length_cons]; omega) | (intros; simp_all; done) | (refine (show drawChk _ = true from ?_); kernel_rfl))))
      refine ifC.mk (fun hc => ?_) (fun hc => ?_)
      · rw [if_pos (show moreB b name p = true from hc)]
        refine weak_to [] [0, 1] rfl (by simp) ?_ ?_
        · simp only [vcRules, dRules, bRules, tyRules, xRules, pickV_true, pickV_false, implies_true, Nat.reduceLT, Nat.reduceLeDiff, Nat.reduceEqDiff, Nat.reduceAdd, Nat.reduceSub, Nat.reduceMul, Int.reduceToNat, Int.reduceLT, Int.reduceLE, Int.reduceEq, Int.reduceAdd, Int.reduceSub, Int.reduceNeg, Int.reduceBEq, Int.reduceBNe, Int.reduceMul, Int.natCast_add, Int.natCast_one, reduceCtorEq, reduceIte, s_isAgg, s_cells, t_isAgg, t_cells, yRules, @a_wrap ((k:Int) + 1) (by omega)]
        · rfl
      · rw [if_neg (by rw [show moreB b name p = false from hc]; simp)]
        refine weak_to [] [0, 1] rfl (by simp) ?_ ?_
        · simp only [vcRules, dRules, bRules, tyRules, xRules, pickV_true, pickV_false, implies_true, Nat.reduceLT, Nat.reduceLeDiff, Nat.reduceEqDiff, Nat.reduceAdd, Nat.reduceSub, Nat.reduceMul, Int.reduceToNat, Int.reduceLT, Int.reduceLE, Int.reduceEq, Int.reduceAdd, Int.reduceSub, Int.reduceNeg, Int.reduceBEq, Int.reduceBNe, Int.reduceMul, Int.natCast_add, Int.natCast_one, reduceCtorEq, reduceIte, s_isAgg, s_cells, t_isAgg, t_cells, yRules, @a_wrap ((k:Int) + 1) (by omega)]
        · rfl
    · have : k = l.length := by omega
      subst this
      simp only [vcRules, dRules, bRules, tyRules, xRules, pickV_true, pickV_false, implies_true, Nat.reduceLT, Nat.reduceLeDiff, Nat.reduceEqDiff, Nat.reduceAdd, Nat.reduceSub, Nat.reduceMul, Int.reduceToNat, Int.reduceLT, Int.reduceLE, Int.reduceEq, Int.reduceAdd, Int.reduceSub, Int.reduceNeg, Int.reduceBEq, Int.reduceBNe, Int.reduceMul, Int.natCast_add, Int.natCast_one, reduceCtorEq, reduceIte, s_isAgg, s_cells, t_isAgg, t_cells, yRules, (show ¬ (l.length:Int) < l.length by omega)]
      exact ⟨_, _, ret_t2, rfl, rfl⟩

def bestO (l : List StepT) (name : List UInt8) : Nat → Option Nat
  | 0 => none
  | k + 1 => match bestO l name k with
    | none => if ((l.getD k default).name == name) = true then some k else none
    | some j => if ((l.getD k default).name == name && decide ((l.getD j default).value < (l.getD k default).value)) = true then some k else some j
theorem bestO_lt {l : List StepT} {name : List UInt8} : ∀ {k j : Nat}, bestO l name k = some j → j < k
  | 0, j, h => by cases h
  | k + 1, j, h => by
    unfold bestO at h
    cases hk : bestO l name k with
    | none =>
      rw [hk] at h
      simp only at h
      split at h
      · simp only [Option.some.injEq] at h; omega
      · cases h
    | some i =>
      have := bestO_lt hk
      rw [hk] at h
      simp only at h
      split at h <;> simp only [Option.some.injEq] at h <;> omega
theorem peak_best (l : List StepT) (name : List UInt8) : ∀ k, peakF l name k = match bestO l name k with | none => (zeroS, false) | some j => (l.getD j default, true)
  | 0 => rfl
  | k + 1 => by
    rw [peakF, peak_best l name k, bestO]
    cases hk : bestO l name k with
    | none =>
      simp only [moreB, Bool.not_false, Bool.true_or, Bool.and_true]
      split <;> rfl
    | some j =>
      simp only [moreB, Bool.not_true, Bool.false_or]
      split <;> rfl
theorem c19 (l : List StepT) (name : List UInt8) (hl : l.length < 1000000) : Pure Try.prog 19 [.d (.sl (l.map StepT.toD)), .d (.str name)] (.tup [.d (peakF l name l.length).1.toD, .d (.bool (peakF l name l.length).2)]) := by
  refine Pure.of2t2 ?_
  refine acalls_of Try.func19 rfl rfl (by simp [Try.ntmps19]) (evC_sound rfl _ _ _ _ ?_)
  simp only [Try.ntmps19, Try.results19, argEnv, List.length_nil]
  simp only [vcRules, dRules, bRules, tyRules, xRules, pickV_true, pickV_false, implies_true, Nat.reduceLT, Nat.reduceLeDiff, Nat.reduceEqDiff, Nat.reduceAdd, Nat.reduceSub, Nat.reduceMul, Int.reduceToNat, Int.reduceLT, Int.reduceLE, Int.reduceEq, Int.reduceAdd, Int.reduceSub, Int.reduceNeg, Int.reduceBEq, Int.reduceBNe, Int.reduceMul, Int.natCast_add, Int.natCast_one, reduceCtorEq, reduceIte, s_isAgg, s_cells, t_isAgg, t_cells, yRules]
  refine for_of l.length (fun k => [(0, .d (.sl (l.map StepT.toD))), (1, .d (.str name)), (4, .ptr 0 0), (6, .d (.int .i64 (match bestO l name k with | none => -1 | some j => ((j : Nat) : Int)))), (7, .d (.int .i64 k))]) (fun k => [.box 3 (.d zeroS.toD)]) (fun _ => True) trivial ?_ ?_
  · refine weak_to [] [0] rfl (by simp) ?_ ?_
    · simp only [vcRules, dRules, bRules, tyRules, xRules, pickV_true, pickV_false, implies_true, Nat.reduceLT, Nat.reduceLeDiff, Nat.reduceEqDiff, Nat.reduceAdd, Nat.reduceSub, Nat.reduceMul, Int.reduceToNat, Int.reduceLT, Int.reduceLE, Int.reduceEq, Int.reduceAdd, Int.reduceSub, Int.reduceNeg, Int.reduceBEq, Int.reduceBNe, Int.reduceMul, Int.natCast_add, Int.natCast_one, reduceCtorEq, reduceIte, s_isAgg, s_cells, t_isAgg, t_cells, yRules, Int.cast_ofNat_Int, bestO]
    · rfl
  · intro k _ hk
    have hlt : ∀ j, bestO l name k = some j → j < k := fun j => bestO_lt
    by_cases h : k < l.length
    · obtain ⟨b, hb⟩ : ∃ b, b = l.getD k default := ⟨_, rfl⟩
      cases hj : bestO l name k with
      | none =>
        have hst : bestO l name (k + 1) = if (b.name == name) = true then some k else none := by rw [bestO, hj, hb]
        rw [hst]
        simp only
        have e0 : (-1 : Int).toNat = 0 := rfl
        simp only [vcRules, dRules, bRules, tyRules, xRules, pickV_true, pickV_false, implies_true, Nat.reduceLT, Nat.reduceLeDiff, Nat.reduceEqDiff, Nat.reduceAdd, Nat.reduceSub, Nat.reduceMul, Int.reduceToNat, Int.reduceLT, Int.reduceLE, Int.reduceEq, Int.reduceAdd, Int.reduceSub, Int.reduceNeg, Int.reduceBEq, Int.reduceBNe, Int.reduceMul, Int.natCast_add, Int.natCast_one, reduceCtorEq, reduceIte, s_isAgg, s_cells, t_isAgg, t_cells, yRules, (show (k:Int) < l.length by omega), h, a_getD _ _ _ (show k < l.length by omega), ← hb, e0, a_getD _ _ _ (show 0 < l.length by omega)]
        repeat ((with_reducible refine And.intro ?_ ?_); (focus (first | omega | (simp only [List.length_take, List.length_drop, List.length_map, List.length_append, List.length_cons]; omega) | (intros; simp_all; done) | (refine (show drawChk _ = true from ?_); kernel_rfl))))
        refine ifC.mk (fun hc => ?_) (fun hc => ?_)
        · rw [if_pos hc]
          refine weak_to [] [0] rfl (by simp) ?_ rfl
          simp only [vcRules, dRules, bRules, tyRules, xRules, pickV_true, pickV_false, implies_true, Nat.reduceLT, Nat.reduceLeDiff, Nat.reduceEqDiff, Nat.reduceAdd, Nat.reduceSub, Nat.reduceMul, Int.reduceToNat, Int.reduceLT, Int.reduceLE, Int.reduceEq, Int.reduceAdd, Int.reduceSub, Int.reduceNeg, Int.reduceBEq, Int.reduceBNe, Int.reduceMul, Int.natCast_add, Int.natCast_one, reduceCtorEq, reduceIte, s_isAgg, s_cells, t_isAgg, t_cells, yRules, @a_wrap ((k:Int) + 1) (by omega)]
        · rw [if_neg (by rw [hc]; simp)]
          refine weak_to [] [0] rfl (by simp) ?_ rfl
          simp only [vcRules, dRules, bRules, tyRules, xRules, pickV_true, pickV_false, implies_true, Nat.reduceLT, Nat.reduceLeDiff, Nat.reduceEqDiff, Nat.reduceAdd, Nat.reduceSub, Nat.reduceMul, Int.reduceToNat, Int.reduceLT, Int.reduceLE, Int.reduceEq, Int.reduceAdd, Int.reduceSub, Int.reduceNeg, Int.reduceBEq, Int.reduceBNe, Int.reduceMul, Int.natCast_add, Int.natCast_one, reduceCtorEq, reduceIte, s_isAgg, s_cells, t_isAgg, t_cells, yRules, @a_wrap ((k:Int) + 1) (by omega)]
      | some j =>
        have hjk := hlt j hj
        have hst : bestO l name (k + 1) = if (b.name == name && decide ((l.getD j default).value < b.value)) = true then some k else some j := by rw [bestO, hj, hb]
        rw [hst]
        simp only
        simp only [vcRules, dRules, bRules, tyRules, xRules, pickV_true, pickV_false, implies_true, Nat.reduceLT, Nat.reduceLeDiff, Nat.reduceEqDiff, Nat.reduceAdd, Nat.reduceSub, Nat.reduceMul, Int.reduceToNat, Int.reduceLT, Int.reduceLE, Int.reduceEq, Int.reduceAdd, Int.reduceSub, Int.reduceNeg, Int.reduceBEq, Int.reduceBNe, Int.reduceMul, Int.natCast_add, Int.natCast_one, reduceCtorEq, reduceIte, s_isAgg, s_cells, t_isAgg, t_cells, yRules, (show (k:Int) < l.length by omega), h, a_getD _ _ _ (show k < l.length by omega), ← hb, (show (j:Int) < l.length by omega), (show j < l.length by omega), a_getD _ _ _ (show j < l.length by omega), (show ¬ (j:Int) < 0 by omega)]
        repeat ((with_reducible refine And.intro ?_ ?_); (focus (first | omega | (simp only [List.length_take, List.length_drop, List.length_map, List.length_append, List.length_cons]; omega) | (intros; simp_all; done) | (refine (show drawChk _ = true from ?_); kernel_rfl))))
        refine ifC.mk (fun hc => ?_) (fun hc => ?_)
        · rw [if_pos hc]
          refine weak_to [] [0] rfl (by simp) ?_ rfl
          simp only [vcRules, dRules, bRules, tyRules, xRules, pickV_true, pickV_false, implies_true, Nat.reduceLT, Nat.reduceLeDiff, Nat.reduceEqDiff, Nat.reduceAdd, Nat.reduceSub, Nat.reduceMul, Int.reduceToNat, Int.reduceLT, Int.reduceLE, Int.reduceEq, Int.reduceAdd, Int.reduceSub, Int.reduceNeg, Int.reduceBEq, Int.reduceBNe, Int.reduceMul, Int.natCast_add, Int.natCast_one, reduceCtorEq, reduceIte, s_isAgg, s_cells, t_isAgg, t_cells, yRules, @a_wrap ((k:Int) + 1) (by omega)]
        · rw [if_neg (by rw [hc]; simp)]
          refine weak_to [] [0] rfl (by simp) ?_ rfl
          simp only [vcRules, dRules, bRules, tyRules, xRules, pickV_true, pickV_false, implies_true, Nat.reduceLT, Nat.reduceLeDiff, Nat.reduceEqDiff, Nat.reduceAdd, Nat.reduceSub, Nat.reduceMul, Int.reduceToNat, Int.reduceLT, Int.reduceLE, Int.reduceEq, Int.reduceAdd, Int.reduceSub, Int.reduceNeg, Int.reduceBEq, Int.reduceBNe, Int.reduceMul, Int.natCast_add, Int.natCast_one, reduceCtorEq, reduceIte, s_isAgg, s_cells, t_isAgg, t_cells, yRules, @a_wrap ((k:Int) + 1) (by omega)]
    · have : k = l.length := by omega
      subst this
      rw [peak_best]
      cases hj : bestO l name l.length with
      | none =>
        simp only
        simp only [vcRules, dRules, bRules, tyRules, xRules, pickV_true, pickV_false, implies_true, Nat.reduceLT, Nat.reduceLeDiff, Nat.reduceEqDiff, Nat.reduceAdd, Nat.reduceSub, Nat.reduceMul, Int.reduceToNat, Int.reduceLT, Int.reduceLE, Int.reduceEq, Int.reduceAdd, Int.reduceSub, Int.reduceNeg, Int.reduceBEq, Int.reduceBNe, Int.reduceMul, Int.natCast_add, Int.natCast_one, reduceCtorEq, reduceIte, s_isAgg, s_cells, t_isAgg, t_cells, yRules, (show ¬ (l.length:Int) < l.length by omega)]
        exact ⟨_, _, ret_t2, rfl, rfl⟩
      | some j =>
        have hjk := hlt j hj
        simp only
        simp only [vcRules, dRules, bRules, tyRules, xRules, pickV_true, pickV_false, implies_true, Nat.reduceLT, Nat.reduceLeDiff, Nat.reduceEqDiff, Nat.reduceAdd, Nat.reduceSub, Nat.reduceMul, Int.reduceToNat, Int.reduceLT, Int.reduceLE, Int.reduceEq, Int.reduceAdd, Int.reduceSub, Int.reduceNeg, Int.reduceBEq, Int.reduceBNe, Int.reduceMul, Int.natCast_add, Int.natCast_one, reduceCtorEq, reduceIte, s_isAgg, s_cells, t_isAgg, t_cells, yRules, (show ¬ (l.length:Int) < l.length by omega), (show (j:Int) < l.length by omega), (show j < l.length by omega), a_getD _ _ _ (show j < l.length by omega), (show ¬ (j:Int) < 0 by omega)]
        exact ⟨_, _, ret_t2, rfl, rfl⟩
end Ytlelaieadgkemaa
end Go.Proofs
