/- A part of the proof: contracts of functions of this seat, and lemmas. No condition beyond those stated. -/
import Derived.Test.YtkoebmjenkajdaaDoorR02v
set_option linter.unusedVariables false
set_option linter.unusedSimpArgs false
set_option linter.unusedSectionVars false
set_option linter.unnecessarySimpa false
set_option linter.unusedSimpArgs false
set_option linter.unusedVariables false
set_option maxRecDepth 100000
namespace Go.Proofs
open Go.AM
namespace YtkoebmjenkajdaaDoor
/-! ### many ones -/
def onesF (n : Nat) : List FracT := List.replicate n ⟨1, 1⟩
theorem ones_com : ∀ n, comF (onesF n) 1 = some 1
  | 0 => rfl
  | n + 1 => by
    unfold onesF
    rw [List.replicate_succ, comF, if_pos (by decide +kernel), if_pos (by decide +kernel)]
    exact ones_com n
theorem ones_pm : ∀ (n k : Nat), (onesF n).foldl (pmF 1) (k, 0) = (k + n, 0)
  | 0, k => rfl
  | n + 1, k => by
    unfold onesF
    rw [List.replicate_succ, List.foldl_cons]
    have e : pmF 1 (k, 0) ⟨1, 1⟩ = (k + 1, 0) := rfl
    rw [e]
    have := ones_pm n (k + 1)
    unfold onesF at this
    rw [this]
    congr 1; omega
theorem ones_sum (n : Nat) (h : n ≤ 20000) : sumL (onesF n) = (⟨n, 1⟩, true) := by
  unfold sumL
  rw [if_neg (by simp [onesF]; omega), ones_com]
  simp only
  rw [fin_norm (tot_val (onesF n) 1) (by omega)]
  have e : pmL (onesF n) 1 = (n, 0) := by unfold pmL; rw [ones_pm]; congr 1; omega
  rw [e]
  unfold finF
  simp only [Nat.sub_zero, Nat.zero_sub, Nat.add_zero]
  by_cases hz : n = 0
  · subst hz; rfl
  · rw [if_neg hz, Nat.gcd_one_right, Nat.div_one, Nat.div_one]
    unfold madeP
    rw [if_pos ⟨by omega, by omega⟩, decide_eq_false (by omega)]
    rfl
theorem ones_long (n : Nat) (h : 20000 < n) : sumL (onesF n) = (⟨0, 0⟩, false) := by
  unfold sumL
  rw [if_pos (by simp [onesF]; exact h)]
  rfl
theorem ones_succ (k : Nat) : onesF (k + 1) = onesF k ++ [⟨1, 1⟩] := by
  unfold onesF
  rw [List.replicate_succ']
theorem c6 (n : Int) (h1 : -9223372036854775808 ≤ n) (h2 : n ≤ 9223372036854775807) : Pure Tryd.prog G2 6 [.d (.int .i64 n)] (.d (.bool true)) := by
  refine Pure.of1 ?_
  refine acalls_of Tryd.func6 rfl rfl (by simp [Tryd.ntmps6]) (evC_sound rfl _ _ _ _ ?_)
  simp only [Tryd.ntmps6, Tryd.results6, argEnv, List.length_nil]
  simp only [vcRules, dRules, bRules, tyRules, xRules, pickV_true, pickV_false, implies_true, Nat.reduceLT, Nat.reduceLeDiff, Nat.reduceEqDiff, Nat.reduceAdd, Nat.reduceSub, Nat.reduceMul, Int.reduceToNat, Int.reduceLT, Int.reduceLE, Int.reduceEq, Int.reduceAdd, Int.reduceSub, Int.reduceNeg, Int.reduceBEq, Int.reduceBNe, Int.reduceMul, Int.natCast_add, Int.natCast_one, reduceCtorEq, reduceIte, wN_isAgg, wN_cells, f_isAgg, f_cells, cRules, yRules]
  refine ifC.mk (fun hc => ?_) (fun hc => ?_)
  · refine callF_pure c14 ?_
    simp only [vcRules, dRules, bRules, tyRules, xRules, pickV_true, pickV_false, implies_true, Nat.reduceLT, Nat.reduceLeDiff, Nat.reduceEqDiff, Nat.reduceAdd, Nat.reduceSub, Nat.reduceMul, Int.reduceToNat, Int.reduceLT, Int.reduceLE, Int.reduceEq, Int.reduceAdd, Int.reduceSub, Int.reduceNeg, Int.reduceBEq, Int.reduceBNe, Int.reduceMul, Int.natCast_add, Int.natCast_one, reduceCtorEq, reduceIte, wN_isAgg, wN_cells, f_isAgg, f_cells, cRules, yRules]
    exact ⟨_, _, ret_d, rfl, rfl⟩
  · have hc : 0 ≤ n ∧ n ≤ 20100 := by
      have := Bool.eq_false_iff.1 hc
      simp only [ne_eq, Bool.or_eq_true, decide_eq_true_eq] at this
      omega
    obtain ⟨m, rfl⟩ : ∃ m : Nat, n = (m : Int) := ⟨n.toNat, by omega⟩
    have hm : m ≤ 20100 := by omega
    refine for_of m (fun k => [(0, .d (.int .i64 (m : Nat))), (3, .osl 0 0 k), (4, .d (.int .i64 k))]) (fun k => [.arr 2 ((onesF k).map FracT.toD)]) (fun _ => True) trivial ?_ ?_
    · refine (weak_nils 3 2 rfl).trans ?_
      refine weak_to [] [0] rfl (by simp) ?_ ?_
      · simp only [vcRules, dRules, bRules, tyRules, xRules, pickV_true, pickV_false, implies_true, Nat.reduceLT, Nat.reduceLeDiff, Nat.reduceEqDiff, Nat.reduceAdd, Nat.reduceSub, Nat.reduceMul, Int.reduceToNat, Int.reduceLT, Int.reduceLE, Int.reduceEq, Int.reduceAdd, Int.reduceSub, Int.reduceNeg, Int.reduceBEq, Int.reduceBNe, Int.reduceMul, Int.natCast_add, Int.natCast_one, reduceCtorEq, reduceIte, wN_isAgg, wN_cells, f_isAgg, f_cells, cRules, yRules, Int.cast_ofNat_Int]
      · rfl
    · intro k _ hk
      have hkl : ((onesF k).map FracT.toD).length = k := by simp [onesF]
      by_cases h : k < m
      · rw [ones_succ]
        simp only [vcRules, dRules, bRules, tyRules, xRules, pickV_true, pickV_false, implies_true, Nat.reduceLT, Nat.reduceLeDiff, Nat.reduceEqDiff, Nat.reduceAdd, Nat.reduceSub, Nat.reduceMul, Int.reduceToNat, Int.reduceLT, Int.reduceLE, Int.reduceEq, Int.reduceAdd, Int.reduceSub, Int.reduceNeg, Int.reduceBEq, Int.reduceBNe, Int.reduceMul, Int.natCast_add, Int.natCast_one, reduceCtorEq, reduceIte, wN_isAgg, wN_cells, f_isAgg, f_cells, cRules, yRules, (show (k:Int) < m by omega), h]
        refine callF_pure (c21 1 1) ?_
        simp only [vcRules, dRules, bRules, tyRules, xRules, pickV_true, pickV_false, implies_true, Nat.reduceLT, Nat.reduceLeDiff, Nat.reduceEqDiff, Nat.reduceAdd, Nat.reduceSub, Nat.reduceMul, Int.reduceToNat, Int.reduceLT, Int.reduceLE, Int.reduceEq, Int.reduceAdd, Int.reduceSub, Int.reduceNeg, Int.reduceBEq, Int.reduceBNe, Int.reduceMul, Int.natCast_add, Int.natCast_one, reduceCtorEq, reduceIte, wN_isAgg, wN_cells, f_isAgg, f_cells, cRules, yRules]
        repeat ((with_reducible refine And.intro ?_ ?_); (focus (first | omega | (simp only [List.length_take, List.length_drop, List.length_map, List.length_append, List.length_cons]; omega) | (refine (show quietOp _ = true from ?_); rfl) | (refine (show drawOk _ _ _ _ _ _ from Or.inl ?_); kernel_rfl) | (intros; simp_all; done))))
        refine weak_to [] [2] rfl (by simp) ?_ ?_
        · simp only [vcRules, dRules, bRules, tyRules, xRules, pickV_true, pickV_false, implies_true, Nat.reduceLT, Nat.reduceLeDiff, Nat.reduceEqDiff, Nat.reduceAdd, Nat.reduceSub, Nat.reduceMul, Int.reduceToNat, Int.reduceLT, Int.reduceLE, Int.reduceEq, Int.reduceAdd, Int.reduceSub, Int.reduceNeg, Int.reduceBEq, Int.reduceBNe, Int.reduceMul, Int.natCast_add, Int.natCast_one, reduceCtorEq, reduceIte, wN_isAgg, wN_cells, f_isAgg, f_cells, cRules, yRules, @a_wrap ((k:Int) + 1) (by omega)]
        · simp only [vcRules, dRules, bRules, tyRules, xRules, pickV_true, pickV_false, implies_true, Nat.reduceLT, Nat.reduceLeDiff, Nat.reduceEqDiff, Nat.reduceAdd, Nat.reduceSub, Nat.reduceMul, Int.reduceToNat, Int.reduceLT, Int.reduceLE, Int.reduceEq, Int.reduceAdd, Int.reduceSub, Int.reduceNeg, Int.reduceBEq, Int.reduceBNe, Int.reduceMul, Int.natCast_add, Int.natCast_one, reduceCtorEq, reduceIte, wN_isAgg, wN_cells, f_isAgg, f_cells, cRules, yRules, List.map_append, take_allF ((onesF k).map FracT.toD) k hkl.symm]
      · have : k = m := by omega
        subst this
        simp only [vcRules, dRules, bRules, tyRules, xRules, pickV_true, pickV_false, implies_true, Nat.reduceLT, Nat.reduceLeDiff, Nat.reduceEqDiff, Nat.reduceAdd, Nat.reduceSub, Nat.reduceMul, Int.reduceToNat, Int.reduceLT, Int.reduceLE, Int.reduceEq, Int.reduceAdd, Int.reduceSub, Int.reduceNeg, Int.reduceBEq, Int.reduceBNe, Int.reduceMul, Int.natCast_add, Int.natCast_one, reduceCtorEq, reduceIte, wN_isAgg, wN_cells, f_isAgg, f_cells, cRules, yRules, (show ¬ (k:Int) < k by omega)]
        have k1 := c18 (Gl := G2) (onesF k) (fun a ha => by
          have := (List.mem_replicate.1 ha).2
          subst this
          exact ⟨by decide, by decide, by decide, by decide⟩)
        have e1 : (([AV.osl 0 0 k] : List AV) ++ []).map (dataA [.arr 2 ((onesF k).map FracT.toD)]) = [.d (.sl ((onesF k).map FracT.toD))] := by
          simp only [List.append_nil, List.map_cons, List.map_nil]
          rw [y_dataA_osl 0 0 k _ rfl]
          show [AV.d (.sl ((((onesF k).map FracT.toD).drop 0).take k))] = _
          rw [List.drop_zero, take_allF _ k hkl.symm]
        by_cases hb : 20000 < k
        · rw [ones_long k hb] at k1
          simp only [resD] at k1
          refine callF_dataE (σ' := [.frz 2 ((onesF k).map FracT.toD)]) k1 e1 rfl ?_
          simp only [vcRules, dRules, bRules, tyRules, xRules, pickV_true, pickV_false, implies_true, Nat.reduceLT, Nat.reduceLeDiff, Nat.reduceEqDiff, Nat.reduceAdd, Nat.reduceSub, Nat.reduceMul, Int.reduceToNat, Int.reduceLT, Int.reduceLE, Int.reduceEq, Int.reduceAdd, Int.reduceSub, Int.reduceNeg, Int.reduceBEq, Int.reduceBNe, Int.reduceMul, Int.natCast_add, Int.natCast_one, reduceCtorEq, reduceIte, wN_isAgg, wN_cells, f_isAgg, f_cells, cRules, yRules, (show (20000:Int) < k by omega)]
          repeat ((with_reducible refine And.intro ?_ ?_); (focus (first | omega | (simp only [List.length_take, List.length_drop, List.length_map, List.length_append, List.length_cons]; omega) | (refine (show quietOp _ = true from ?_); rfl) | (refine (show drawOk _ _ _ _ _ _ from Or.inl ?_); kernel_rfl) | (intros; simp_all; done))))
          refine callF_pure (c21 0 0) ?_
          simp only [vcRules, dRules, bRules, tyRules, xRules, pickV_true, pickV_false, implies_true, Nat.reduceLT, Nat.reduceLeDiff, Nat.reduceEqDiff, Nat.reduceAdd, Nat.reduceSub, Nat.reduceMul, Int.reduceToNat, Int.reduceLT, Int.reduceLE, Int.reduceEq, Int.reduceAdd, Int.reduceSub, Int.reduceNeg, Int.reduceBEq, Int.reduceBNe, Int.reduceMul, Int.natCast_add, Int.natCast_one, reduceCtorEq, reduceIte, wN_isAgg, wN_cells, f_isAgg, f_cells, cRules, yRules, dec_self, Bool.not_false, Bool.and_true, Bool.true_and]
          repeat ((with_reducible refine And.intro ?_ ?_); (focus (first | omega | (simp only [List.length_take, List.length_drop, List.length_map, List.length_append, List.length_cons]; omega) | (refine (show quietOp _ = true from ?_); rfl) | (refine (show drawOk _ _ _ _ _ _ from Or.inl ?_); kernel_rfl) | (intros; simp_all; done))))
          refine callG_pure (fun _ => c14) ?_
          simp only [vcRules, dRules, bRules, tyRules, xRules, pickV_true, pickV_false, implies_true, Nat.reduceLT, Nat.reduceLeDiff, Nat.reduceEqDiff, Nat.reduceAdd, Nat.reduceSub, Nat.reduceMul, Int.reduceToNat, Int.reduceLT, Int.reduceLE, Int.reduceEq, Int.reduceAdd, Int.reduceSub, Int.reduceNeg, Int.reduceBEq, Int.reduceBNe, Int.reduceMul, Int.natCast_add, Int.natCast_one, reduceCtorEq, reduceIte, wN_isAgg, wN_cells, f_isAgg, f_cells, cRules, yRules, Bool.and_true, Bool.true_and]
          exact ⟨_, _, ret_d, rfl, rfl⟩
        · rw [ones_sum k (by omega)] at k1
          simp only [resD] at k1
          refine callF_dataE (σ' := [.frz 2 ((onesF k).map FracT.toD)]) k1 e1 rfl ?_
          simp only [vcRules, dRules, bRules, tyRules, xRules, pickV_true, pickV_false, implies_true, Nat.reduceLT, Nat.reduceLeDiff, Nat.reduceEqDiff, Nat.reduceAdd, Nat.reduceSub, Nat.reduceMul, Int.reduceToNat, Int.reduceLT, Int.reduceLE, Int.reduceEq, Int.reduceAdd, Int.reduceSub, Int.reduceNeg, Int.reduceBEq, Int.reduceBNe, Int.reduceMul, Int.natCast_add, Int.natCast_one, reduceCtorEq, reduceIte, wN_isAgg, wN_cells, f_isAgg, f_cells, cRules, yRules, (show ¬ (20000:Int) < k by omega)]
          repeat ((with_reducible refine And.intro ?_ ?_); (focus (first | omega | (simp only [List.length_take, List.length_drop, List.length_map, List.length_append, List.length_cons]; omega) | (refine (show quietOp _ = true from ?_); rfl) | (refine (show drawOk _ _ _ _ _ _ from Or.inl ?_); kernel_rfl) | (intros; simp_all; done))))
          refine callF_pure (c21 k 1) ?_
          simp only [vcRules, dRules, bRules, tyRules, xRules, pickV_true, pickV_false, implies_true, Nat.reduceLT, Nat.reduceLeDiff, Nat.reduceEqDiff, Nat.reduceAdd, Nat.reduceSub, Nat.reduceMul, Int.reduceToNat, Int.reduceLT, Int.reduceLE, Int.reduceEq, Int.reduceAdd, Int.reduceSub, Int.reduceNeg, Int.reduceBEq, Int.reduceBNe, Int.reduceMul, Int.natCast_add, Int.natCast_one, reduceCtorEq, reduceIte, wN_isAgg, wN_cells, f_isAgg, f_cells, cRules, yRules, dec_self, Bool.and_true, Bool.true_and]
          repeat ((with_reducible refine And.intro ?_ ?_); (focus (first | omega | (simp only [List.length_take, List.length_drop, List.length_map, List.length_append, List.length_cons]; omega) | (refine (show quietOp _ = true from ?_); rfl) | (refine (show drawOk _ _ _ _ _ _ from Or.inl ?_); kernel_rfl) | (intros; simp_all; done))))
          refine callG_pure (fun _ => c14) ?_
          simp only [vcRules, dRules, bRules, tyRules, xRules, pickV_true, pickV_false, implies_true, Nat.reduceLT, Nat.reduceLeDiff, Nat.reduceEqDiff, Nat.reduceAdd, Nat.reduceSub, Nat.reduceMul, Int.reduceToNat, Int.reduceLT, Int.reduceLE, Int.reduceEq, Int.reduceAdd, Int.reduceSub, Int.reduceNeg, Int.reduceBEq, Int.reduceBNe, Int.reduceMul, Int.natCast_add, Int.natCast_one, reduceCtorEq, reduceIte, wN_isAgg, wN_cells, f_isAgg, f_cells, cRules, yRules, Bool.and_true, Bool.true_and]
          exact ⟨_, _, ret_d, rfl, rfl⟩
end YtkoebmjenkajdaaDoor
end Go.Proofs
