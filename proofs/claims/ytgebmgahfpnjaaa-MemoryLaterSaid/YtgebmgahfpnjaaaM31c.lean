/- A part of the proof: contracts of functions of this seat, and lemmas. No condition beyond those stated. -/
import Derived.Test.YtgebmgahfpnjaaaM31b
set_option linter.unusedVariables false
set_option linter.unusedSimpArgs false
set_option linter.unusedSectionVars false
set_option linter.unnecessarySimpa false
set_option linter.unusedSimpArgs false
set_option linter.unusedVariables false
set_option maxRecDepth 100000
namespace Go.Proofs
open Go.AM
namespace Ytgebmgahfpnjaaa

theorem badB_ref (b : BlockT) : (decide (b.id < 0) || decide (1000000000000000 < b.id) || decide (b.thread < 0) || decide (1000000000000000 < b.thread) || decide (b.size < 1) || decide (1000000000000 < b.size) || decide (b.lo < 0) || decide (b.hi ≤ b.lo) || decide (1000000000000 < b.hi)) = badB b := by
  unfold badB
  rw [Bool.eq_iff_iff]; simp; omega

theorem c15 (l : List BlockT) (hs : ∀ x ∈ l, x.stack.length < 1000000) (hl : l.length < 1000000) : Pure Try.prog 15 [.d (.sl (l.map BlockT.toD))] (.d (.int .i64 (checkF l))) := by
  refine Pure.of1 ?_
  refine acalls_of Try.func15 rfl rfl (by simp [Try.ntmps15]) (evC_sound rfl _ _ _ _ ?_)
  simp only [Try.ntmps15, Try.results15, argEnv, List.length_nil]
  simp only [vcRules, dRules, bRules, tyRules, xRules, pickV_true, pickV_false, implies_true, Nat.reduceLT, Nat.reduceLeDiff, Nat.reduceEqDiff, Nat.reduceAdd, Nat.reduceSub, Nat.reduceMul, Int.reduceToNat, Int.reduceLT, Int.reduceLE, Int.reduceEq, Int.reduceAdd, Int.reduceSub, Int.reduceNeg, Int.reduceBEq, Int.reduceBNe, Int.reduceMul, Int.natCast_add, Int.natCast_one, reduceCtorEq, reduceIte, b_isAgg, b_cells, t_isAgg, t_cells]
  refine for_of l.length (fun k => [(0, .d (.sl (l.map BlockT.toD))), (3, .d (.int .i64 k))]) (fun _ => []) (fun k => firstErr (checkAt l) k = 0) rfl ?_ ?_
  · refine weak_to [] [] rfl List.nodup_nil ?_ rfl
    simp only [vcRules, dRules, bRules, tyRules, xRules, pickV_true, pickV_false, implies_true, Nat.reduceLT, Nat.reduceLeDiff, Nat.reduceEqDiff, Nat.reduceAdd, Nat.reduceSub, Nat.reduceMul, Int.reduceToNat, Int.reduceLT, Int.reduceLE, Int.reduceEq, Int.reduceAdd, Int.reduceSub, Int.reduceNeg, Int.reduceBEq, Int.reduceBNe, Int.reduceMul, Int.natCast_add, Int.natCast_one, reduceCtorEq, reduceIte, b_isAgg, b_cells, t_isAgg, t_cells, Int.cast_ofNat_Int]
  · intro k hi hk
    by_cases h : k < l.length
    · have hb : ∀ e, checkAt l k = e → e ≠ 0 → checkF l = e := fun e h1 h2 => by rw [checkF, firstErr_at hi (by rw [h1]; exact h2) h, h1]
      obtain ⟨b, eb⟩ : ∃ b, b = l.getD k default := ⟨_, rfl⟩
      simp only [vcRules, dRules, bRules, tyRules, xRules, pickV_true, pickV_false, implies_true, Nat.reduceLT, Nat.reduceLeDiff, Nat.reduceEqDiff, Nat.reduceAdd, Nat.reduceSub, Nat.reduceMul, Int.reduceToNat, Int.reduceLT, Int.reduceLE, Int.reduceEq, Int.reduceAdd, Int.reduceSub, Int.reduceNeg, Int.reduceBEq, Int.reduceBNe, Int.reduceMul, Int.natCast_add, Int.natCast_one, reduceCtorEq, reduceIte, b_isAgg, b_cells, t_isAgg, t_cells, (show (k:Int) < l.length by omega), h, a_getD _ _ _ (show k < l.length by omega), ← eb]
      repeat ((with_reducible refine And.intro ?_ ?_); (focus (first | omega | (intros; simp_all; done) | kernel_rfl)))
      refine ifC.mk (fun h1 => ?_) (fun h1 => ?_)
      · refine ⟨_, _, ret_d, ?_, rfl⟩
        rw [hb 2 (checkAt_bad (by rw [← eb, ← badB_ref]; exact h1)) (by omega)]
      · have hb1 : badB (l.getD k default) = false := by rw [← eb, ← badB_ref]; exact h1
        refine callF_pure (c38 _ (by rw [eb]; exact hs _ (mem_getD h))) ?_
        simp only [vcRules, dRules, bRules, tyRules, xRules, pickV_true, pickV_false, implies_true, Nat.reduceLT, Nat.reduceLeDiff, Nat.reduceEqDiff, Nat.reduceAdd, Nat.reduceSub, Nat.reduceMul, Int.reduceToNat, Int.reduceLT, Int.reduceLE, Int.reduceEq, Int.reduceAdd, Int.reduceSub, Int.reduceNeg, Int.reduceBEq, Int.reduceBNe, Int.reduceMul, Int.natCast_add, Int.natCast_one, reduceCtorEq, reduceIte, b_isAgg, b_cells, t_isAgg, t_cells]
        refine ifC.mk (fun h2 => ?_) (fun h2 => ?_)
        · have h2 : framesF (l.getD k default).stack ≠ 0 := by rw [← eb]; simpa using h2
          refine ⟨_, _, ret_d, ?_, rfl⟩
          rw [hb _ (checkAt_fr hb1 h2) h2, eb]
        · have hb2 : framesF (l.getD k default).stack = 0 := by rw [← eb]; simpa using h2
          by_cases hk0 : 0 < k
          · have e1 : IntKind.i64.wrap ((k : Int) - 1) = ((k - 1 : Nat) : Int) := by rw [wrap64 (by omega) (by omega)]; omega
            simp only [vcRules, dRules, bRules, tyRules, xRules, pickV_true, pickV_false, implies_true, Nat.reduceLT, Nat.reduceLeDiff, Nat.reduceEqDiff, Nat.reduceAdd, Nat.reduceSub, Nat.reduceMul, Int.reduceToNat, Int.reduceLT, Int.reduceLE, Int.reduceEq, Int.reduceAdd, Int.reduceSub, Int.reduceNeg, Int.reduceBEq, Int.reduceBNe, Int.reduceMul, Int.natCast_add, Int.natCast_one, reduceCtorEq, reduceIte, b_isAgg, b_cells, t_isAgg, t_cells, (show (0:Int) < k by omega), e1, (show ((k - 1 : Nat) : Int) < l.length by omega), (show k - 1 < l.length by omega), a_getD _ _ _ (show k - 1 < l.length by omega)]
            repeat ((with_reducible refine And.intro ?_ ?_); (focus (first | omega | (intros; simp_all; done) | kernel_rfl)))
            refine ifC.mk (fun h3 => ?_) (fun h3 => ?_)
            · refine ⟨_, _, ret_d, ?_, rfl⟩
              rw [hb 11 (checkAt_ord hb1 hb2 (by rw [← eb]; simp [hk0]; simpa using h3)) (by omega)]
            · have hb3 : (decide (0 < k) && decide ((l.getD k default).lo < (l.getD (k - 1) default).lo)) = false := by rw [← eb]; simp [hk0]; simpa using h3
              have hcl := checkAt_cl (l := l) (k := k) hb1 hb2 hb3
              refine for_of k (fun j => [(0, .d (.sl (l.map BlockT.toD))), (3, .d (.int .i64 k)), (4, .ptr 0 0), (6, .d (.int .i64 j))]) (fun _ => [.box 7 (.d b.toD)]) (fun j => (l.take j).any (fun a => clashB a (l.getD k default)) = false) rfl ?_ ?_
              · refine weak_to [] [0] rfl (by simp) ?_ rfl
                simp only [vcRules, dRules, bRules, tyRules, xRules, pickV_true, pickV_false, implies_true, Nat.reduceLT, Nat.reduceLeDiff, Nat.reduceEqDiff, Nat.reduceAdd, Nat.reduceSub, Nat.reduceMul, Int.reduceToNat, Int.reduceLT, Int.reduceLE, Int.reduceEq, Int.reduceAdd, Int.reduceSub, Int.reduceNeg, Int.reduceBEq, Int.reduceBNe, Int.reduceMul, Int.natCast_add, Int.natCast_one, reduceCtorEq, reduceIte, b_isAgg, b_cells, t_isAgg, t_cells, Int.cast_ofNat_Int]
              · intro j hj hjk
                by_cases h5 : j < k
                · have hs := any_take (fun a => clashB a (l.getD k default)) l j (by omega)
                  simp only [vcRules, dRules, bRules, tyRules, xRules, pickV_true, pickV_false, implies_true, Nat.reduceLT, Nat.reduceLeDiff, Nat.reduceEqDiff, Nat.reduceAdd, Nat.reduceSub, Nat.reduceMul, Int.reduceToNat, Int.reduceLT, Int.reduceLE, Int.reduceEq, Int.reduceAdd, Int.reduceSub, Int.reduceNeg, Int.reduceBEq, Int.reduceBNe, Int.reduceMul, Int.natCast_add, Int.natCast_one, reduceCtorEq, reduceIte, b_isAgg, b_cells, t_isAgg, t_cells, (show (j:Int) < k by omega), (show (j:Int) < l.length by omega), (show j < l.length by omega), a_getD _ _ _ (show j < l.length by omega), h5]
                  repeat ((with_reducible refine And.intro ?_ ?_); (focus (first | omega | (intros; simp_all; done) | kernel_rfl)))
                  refine callG_pure (fun _ => c39 _ _ _ _) ?_
                  simp only [vcRules, dRules, bRules, tyRules, xRules, pickV_true, pickV_false, implies_true, Nat.reduceLT, Nat.reduceLeDiff, Nat.reduceEqDiff, Nat.reduceAdd, Nat.reduceSub, Nat.reduceMul, Int.reduceToNat, Int.reduceLT, Int.reduceLE, Int.reduceEq, Int.reduceAdd, Int.reduceSub, Int.reduceNeg, Int.reduceBEq, Int.reduceBNe, Int.reduceMul, Int.natCast_add, Int.natCast_one, reduceCtorEq, reduceIte, b_isAgg, b_cells, t_isAgg, t_cells]
                  repeat ((with_reducible refine And.intro ?_ ?_); (focus (first | omega | (intros; simp_all; done) | kernel_rfl)))
                  refine ifC.mk (fun hc => ?_) (fun hc => ?_)
                  · refine ⟨_, _, ret_d, ?_, rfl⟩
                    rw [hb 4 (by rw [hcl, if_pos]; rw [List.any_eq_true]; refine ⟨l.getD j default, mem_take_getD h5 (by omega), ?_⟩; rw [← eb]; unfold clashB; rw [Bool.and_assoc]; exact hc) (by omega)]
                  · refine ⟨by rw [hs, hj, ← eb]; unfold clashB; rw [Bool.and_assoc]; exact hc, ?_⟩
                    refine weak_to [] [0] rfl (by simp) ?_ rfl
                    simp only [vcRules, dRules, bRules, tyRules, xRules, pickV_true, pickV_false, implies_true, Nat.reduceLT, Nat.reduceLeDiff, Nat.reduceEqDiff, Nat.reduceAdd, Nat.reduceSub, Nat.reduceMul, Int.reduceToNat, Int.reduceLT, Int.reduceLE, Int.reduceEq, Int.reduceAdd, Int.reduceSub, Int.reduceNeg, Int.reduceBEq, Int.reduceBNe, Int.reduceMul, Int.natCast_add, Int.natCast_one, reduceCtorEq, reduceIte, b_isAgg, b_cells, t_isAgg, t_cells, @a_wrap ((j:Int) + 1) (by omega)]
                · simp only [vcRules, dRules, bRules, tyRules, xRules, pickV_true, pickV_false, implies_true, Nat.reduceLT, Nat.reduceLeDiff, Nat.reduceEqDiff, Nat.reduceAdd, Nat.reduceSub, Nat.reduceMul, Int.reduceToNat, Int.reduceLT, Int.reduceLE, Int.reduceEq, Int.reduceAdd, Int.reduceSub, Int.reduceNeg, Int.reduceBEq, Int.reduceBNe, Int.reduceMul, Int.natCast_add, Int.natCast_one, reduceCtorEq, reduceIte, b_isAgg, b_cells, t_isAgg, t_cells, (show ¬ (j:Int) < k by omega)]
                  have hjk : j = k := by omega
                  subst hjk
                  refine ⟨firstErr_step hi (by rw [hcl, if_neg (by rw [hj]; simp)]), ?_⟩
                  refine weak_to [] [] rfl List.nodup_nil ?_ rfl
                  simp only [vcRules, dRules, bRules, tyRules, xRules, pickV_true, pickV_false, implies_true, Nat.reduceLT, Nat.reduceLeDiff, Nat.reduceEqDiff, Nat.reduceAdd, Nat.reduceSub, Nat.reduceMul, Int.reduceToNat, Int.reduceLT, Int.reduceLE, Int.reduceEq, Int.reduceAdd, Int.reduceSub, Int.reduceNeg, Int.reduceBEq, Int.reduceBNe, Int.reduceMul, Int.natCast_add, Int.natCast_one, reduceCtorEq, reduceIte, b_isAgg, b_cells, t_isAgg, t_cells, @a_wrap ((j:Int) + 1) (by omega)]
          · simp only [vcRules, dRules, bRules, tyRules, xRules, pickV_true, pickV_false, implies_true, Nat.reduceLT, Nat.reduceLeDiff, Nat.reduceEqDiff, Nat.reduceAdd, Nat.reduceSub, Nat.reduceMul, Int.reduceToNat, Int.reduceLT, Int.reduceLE, Int.reduceEq, Int.reduceAdd, Int.reduceSub, Int.reduceNeg, Int.reduceBEq, Int.reduceBNe, Int.reduceMul, Int.natCast_add, Int.natCast_one, reduceCtorEq, reduceIte, b_isAgg, b_cells, t_isAgg, t_cells, (show ¬ (0:Int) < k by omega)]
            repeat ((with_reducible refine And.intro ?_ ?_); (focus (first | omega | (intros; simp_all; done) | kernel_rfl)))
            have hb3 : (decide (0 < k) && decide ((l.getD k default).lo < (l.getD (k - 1) default).lo)) = false := by simp [hk0]
            have hcl := checkAt_cl (l := l) (k := k) hb1 hb2 hb3
            refine for_of k (fun j => [(0, .d (.sl (l.map BlockT.toD))), (3, .d (.int .i64 k)), (4, .ptr 0 0), (6, .d (.int .i64 j))]) (fun _ => [.box 7 (.d b.toD)]) (fun j => (l.take j).any (fun a => clashB a (l.getD k default)) = false) rfl ?_ ?_
            · refine weak_to [] [0] rfl (by simp) ?_ rfl
              simp only [vcRules, dRules, bRules, tyRules, xRules, pickV_true, pickV_false, implies_true, Nat.reduceLT, Nat.reduceLeDiff, Nat.reduceEqDiff, Nat.reduceAdd, Nat.reduceSub, Nat.reduceMul, Int.reduceToNat, Int.reduceLT, Int.reduceLE, Int.reduceEq, Int.reduceAdd, Int.reduceSub, Int.reduceNeg, Int.reduceBEq, Int.reduceBNe, Int.reduceMul, Int.natCast_add, Int.natCast_one, reduceCtorEq, reduceIte, b_isAgg, b_cells, t_isAgg, t_cells, Int.cast_ofNat_Int]
            · intro j hj hjk
              by_cases h5 : j < k
              · have hs := any_take (fun a => clashB a (l.getD k default)) l j (by omega)
                simp only [vcRules, dRules, bRules, tyRules, xRules, pickV_true, pickV_false, implies_true, Nat.reduceLT, Nat.reduceLeDiff, Nat.reduceEqDiff, Nat.reduceAdd, Nat.reduceSub, Nat.reduceMul, Int.reduceToNat, Int.reduceLT, Int.reduceLE, Int.reduceEq, Int.reduceAdd, Int.reduceSub, Int.reduceNeg, Int.reduceBEq, Int.reduceBNe, Int.reduceMul, Int.natCast_add, Int.natCast_one, reduceCtorEq, reduceIte, b_isAgg, b_cells, t_isAgg, t_cells, (show (j:Int) < k by omega), (show (j:Int) < l.length by omega), (show j < l.length by omega), a_getD _ _ _ (show j < l.length by omega), h5]
                repeat ((with_reducible refine And.intro ?_ ?_); (focus (first | omega | (intros; simp_all; done) | kernel_rfl)))
                refine callG_pure (fun _ => c39 _ _ _ _) ?_
                simp only [vcRules, dRules, bRules, tyRules, xRules, pickV_true, pickV_false, implies_true, Nat.reduceLT, Nat.reduceLeDiff, Nat.reduceEqDiff, Nat.reduceAdd, Nat.reduceSub, Nat.reduceMul, Int.reduceToNat, Int.reduceLT, Int.reduceLE, Int.reduceEq, Int.reduceAdd, Int.reduceSub, Int.reduceNeg, Int.reduceBEq, Int.reduceBNe, Int.reduceMul, Int.natCast_add, Int.natCast_one, reduceCtorEq, reduceIte, b_isAgg, b_cells, t_isAgg, t_cells]
                repeat ((with_reducible refine And.intro ?_ ?_); (focus (first | omega | (intros; simp_all; done) | kernel_rfl)))
                refine ifC.mk (fun hc => ?_) (fun hc => ?_)
                · refine ⟨_, _, ret_d, ?_, rfl⟩
                  rw [hb 4 (by rw [hcl, if_pos]; rw [List.any_eq_true]; refine ⟨l.getD j default, mem_take_getD h5 (by omega), ?_⟩; rw [← eb]; unfold clashB; rw [Bool.and_assoc]; exact hc) (by omega)]
                · refine ⟨by rw [hs, hj, ← eb]; unfold clashB; rw [Bool.and_assoc]; exact hc, ?_⟩
                  refine weak_to [] [0] rfl (by simp) ?_ rfl
                  simp only [vcRules, dRules, bRules, tyRules, xRules, pickV_true, pickV_false, implies_true, Nat.reduceLT, Nat.reduceLeDiff, Nat.reduceEqDiff, Nat.reduceAdd, Nat.reduceSub, Nat.reduceMul, Int.reduceToNat, Int.reduceLT, Int.reduceLE, Int.reduceEq, Int.reduceAdd, Int.reduceSub, Int.reduceNeg, Int.reduceBEq, Int.reduceBNe, Int.reduceMul, Int.natCast_add, Int.natCast_one, reduceCtorEq, reduceIte, b_isAgg, b_cells, t_isAgg, t_cells, @a_wrap ((j:Int) + 1) (by omega)]
              · simp only [vcRules, dRules, bRules, tyRules, xRules, pickV_true, pickV_false, implies_true, Nat.reduceLT, Nat.reduceLeDiff, Nat.reduceEqDiff, Nat.reduceAdd, Nat.reduceSub, Nat.reduceMul, Int.reduceToNat, Int.reduceLT, Int.reduceLE, Int.reduceEq, Int.reduceAdd, Int.reduceSub, Int.reduceNeg, Int.reduceBEq, Int.reduceBNe, Int.reduceMul, Int.natCast_add, Int.natCast_one, reduceCtorEq, reduceIte, b_isAgg, b_cells, t_isAgg, t_cells, (show ¬ (j:Int) < k by omega)]
                have hjk : j = k := by omega
                subst hjk
                refine ⟨firstErr_step hi (by rw [hcl, if_neg (by rw [hj]; simp)]), ?_⟩
                refine weak_to [] [] rfl List.nodup_nil ?_ rfl
                simp only [vcRules, dRules, bRules, tyRules, xRules, pickV_true, pickV_false, implies_true, Nat.reduceLT, Nat.reduceLeDiff, Nat.reduceEqDiff, Nat.reduceAdd, Nat.reduceSub, Nat.reduceMul, Int.reduceToNat, Int.reduceLT, Int.reduceLE, Int.reduceEq, Int.reduceAdd, Int.reduceSub, Int.reduceNeg, Int.reduceBEq, Int.reduceBNe, Int.reduceMul, Int.natCast_add, Int.natCast_one, reduceCtorEq, reduceIte, b_isAgg, b_cells, t_isAgg, t_cells, @a_wrap ((j:Int) + 1) (by omega)]
    · simp only [vcRules, dRules, bRules, tyRules, xRules, pickV_true, pickV_false, implies_true, Nat.reduceLT, Nat.reduceLeDiff, Nat.reduceEqDiff, Nat.reduceAdd, Nat.reduceSub, Nat.reduceMul, Int.reduceToNat, Int.reduceLT, Int.reduceLE, Int.reduceEq, Int.reduceAdd, Int.reduceSub, Int.reduceNeg, Int.reduceBEq, Int.reduceBNe, Int.reduceMul, Int.natCast_add, Int.natCast_one, reduceCtorEq, reduceIte, b_isAgg, b_cells, t_isAgg, t_cells, (show ¬ (k:Int) < l.length by omega)]
      refine ⟨_, _, ret_d, ?_, rfl⟩
      have : k = l.length := by omega
      rw [checkF, ← this, hi]

def vO (o : TimedT) : Bool := decide (o.thread < 0) || decide (1000000000000000 < o.thread) || decide (o.n < 0) || decide (1000000000000000 < o.n) || (o.kind == 11 && (decide (o.m < 1) || decide (1000000000000 < o.m) || framesF o.stack != 0))
def validAt (os : List TimedT) (k : Nat) : Bool := vO (os.getD k default) || (decide ((0:Int) < k) && decide (timeF (os.getD k default) < timeF (os.getD (k - 1) default)))
def validB (os : List TimedT) : Bool := (List.range os.length).all fun k => !validAt os k
theorem c22 (os : List TimedT) (hs : ∀ x ∈ os, x.stack.length < 1000000) (hl : os.length < 1000000) : Pure Try.prog 22 [.d (.sl (os.map TimedT.toD))] (.d (.bool (validB os))) := by
  refine Pure.of1 ?_
  refine acalls_of Try.func22 rfl rfl (by simp [Try.ntmps22]) (evC_sound rfl _ _ _ _ ?_)
  simp only [Try.ntmps22, Try.results22, argEnv, List.length_nil]
  simp only [vcRules, dRules, bRules, tyRules, xRules, pickV_true, pickV_false, implies_true, Nat.reduceLT, Nat.reduceLeDiff, Nat.reduceEqDiff, Nat.reduceAdd, Nat.reduceSub, Nat.reduceMul, Int.reduceToNat, Int.reduceLT, Int.reduceLE, Int.reduceEq, Int.reduceAdd, Int.reduceSub, Int.reduceNeg, Int.reduceBEq, Int.reduceBNe, Int.reduceMul, Int.natCast_add, Int.natCast_one, reduceCtorEq, reduceIte, b_isAgg, b_cells, t_isAgg, t_cells]
  refine for_of os.length (fun k => [(0, .d (.sl (os.map TimedT.toD))), (3, .d (.int .i64 k))]) (fun _ => []) (fun k => ((List.range k).all fun k => !validAt os k) = true) rfl ?_ ?_
  · refine weak_to [] [] rfl List.nodup_nil ?_ rfl
    simp only [vcRules, dRules, bRules, tyRules, xRules, pickV_true, pickV_false, implies_true, Nat.reduceLT, Nat.reduceLeDiff, Nat.reduceEqDiff, Nat.reduceAdd, Nat.reduceSub, Nat.reduceMul, Int.reduceToNat, Int.reduceLT, Int.reduceLE, Int.reduceEq, Int.reduceAdd, Int.reduceSub, Int.reduceNeg, Int.reduceBEq, Int.reduceBNe, Int.reduceMul, Int.natCast_add, Int.natCast_one, reduceCtorEq, reduceIte, b_isAgg, b_cells, t_isAgg, t_cells, Int.cast_ofNat_Int]
  · intro k hi hk
    by_cases h : k < os.length
    · have hst : ((List.range (k + 1)).all fun k => !validAt os k) = (((List.range k).all fun k => !validAt os k) && !validAt os k) := by
        rw [List.range_succ, List.all_append]; simp only [List.all_cons, List.all_nil, Bool.and_true]
      obtain ⟨o, eo⟩ : ∃ o, o = os.getD k default := ⟨_, rfl⟩
      have hso : o.stack.length < 1000000 := by rw [eo]; exact hs _ (mem_getD h)
      by_cases hk0 : 0 < k
      · have e1 : IntKind.i64.wrap ((k : Int) - 1) = ((k - 1 : Nat) : Int) := by rw [wrap64 (by omega) (by omega)]; omega
        simp only [vcRules, dRules, bRules, tyRules, xRules, pickV_true, pickV_false, implies_true, Nat.reduceLT, Nat.reduceLeDiff, Nat.reduceEqDiff, Nat.reduceAdd, Nat.reduceSub, Nat.reduceMul, Int.reduceToNat, Int.reduceLT, Int.reduceLE, Int.reduceEq, Int.reduceAdd, Int.reduceSub, Int.reduceNeg, Int.reduceBEq, Int.reduceBNe, Int.reduceMul, Int.natCast_add, Int.natCast_one, reduceCtorEq, reduceIte, b_isAgg, b_cells, t_isAgg, t_cells, (show (k:Int) < os.length by omega), h, a_getD _ _ _ (show k < os.length by omega), ← eo, (show (0:Int) < k by omega), e1, (show ((k - 1 : Nat) : Int) < os.length by omega), (show k - 1 < os.length by omega), a_getD _ _ _ (show k - 1 < os.length by omega)]
        repeat ((with_reducible refine And.intro ?_ ?_); (focus (first | omega | (intros; simp_all; done) | kernel_rfl)))
        refine callG_pure (fun _ => c37 _ hso) ?_
        simp only [vcRules, dRules, bRules, tyRules, xRules, pickV_true, pickV_false, implies_true, Nat.reduceLT, Nat.reduceLeDiff, Nat.reduceEqDiff, Nat.reduceAdd, Nat.reduceSub, Nat.reduceMul, Int.reduceToNat, Int.reduceLT, Int.reduceLE, Int.reduceEq, Int.reduceAdd, Int.reduceSub, Int.reduceNeg, Int.reduceBEq, Int.reduceBNe, Int.reduceMul, Int.natCast_add, Int.natCast_one, reduceCtorEq, reduceIte, b_isAgg, b_cells, t_isAgg, t_cells, (show (k:Int) < os.length by omega), h, a_getD _ _ _ (show k < os.length by omega), ← eo, (show (0:Int) < k by omega), e1, (show ((k - 1 : Nat) : Int) < os.length by omega), (show k - 1 < os.length by omega), a_getD _ _ _ (show k - 1 < os.length by omega)]
        repeat ((with_reducible refine And.intro ?_ ?_); (focus (first | omega | (intros; simp_all; done) | kernel_rfl)))
        refine callG_pure (fun _ => c25 _) ?_
        simp only [vcRules, dRules, bRules, tyRules, xRules, pickV_true, pickV_false, implies_true, Nat.reduceLT, Nat.reduceLeDiff, Nat.reduceEqDiff, Nat.reduceAdd, Nat.reduceSub, Nat.reduceMul, Int.reduceToNat, Int.reduceLT, Int.reduceLE, Int.reduceEq, Int.reduceAdd, Int.reduceSub, Int.reduceNeg, Int.reduceBEq, Int.reduceBNe, Int.reduceMul, Int.natCast_add, Int.natCast_one, reduceCtorEq, reduceIte, b_isAgg, b_cells, t_isAgg, t_cells, (show (k:Int) < os.length by omega), h, a_getD _ _ _ (show k < os.length by omega), ← eo, (show (0:Int) < k by omega), e1, (show ((k - 1 : Nat) : Int) < os.length by omega), (show k - 1 < os.length by omega), a_getD _ _ _ (show k - 1 < os.length by omega)]
        repeat ((with_reducible refine And.intro ?_ ?_); (focus (first | omega | (intros; simp_all; done) | kernel_rfl)))
        refine callG_pure (fun _ => c25 _) ?_
        simp only [vcRules, dRules, bRules, tyRules, xRules, pickV_true, pickV_false, implies_true, Nat.reduceLT, Nat.reduceLeDiff, Nat.reduceEqDiff, Nat.reduceAdd, Nat.reduceSub, Nat.reduceMul, Int.reduceToNat, Int.reduceLT, Int.reduceLE, Int.reduceEq, Int.reduceAdd, Int.reduceSub, Int.reduceNeg, Int.reduceBEq, Int.reduceBNe, Int.reduceMul, Int.natCast_add, Int.natCast_one, reduceCtorEq, reduceIte, b_isAgg, b_cells, t_isAgg, t_cells]
        repeat ((with_reducible refine And.intro ?_ ?_); (focus (first | omega | (intros; simp_all; done) | kernel_rfl)))
        refine ifC.mk (fun hc => ?_) (fun hc => ?_)
        · refine ⟨_, _, ret_d, ?_, rfl⟩
          have hv : validAt os k = true := by
            unfold validAt; rw [← eo, decide_eq_true (show (0:Int) < k by omega), Bool.true_and]; exact hc
          rw [validB, show ((List.range os.length).all fun k => !validAt os k) = false from by rw [List.all_eq_false]; exact ⟨k, List.mem_range.2 h, by simp [hv]⟩]
        · have hv : validAt os k = false := by
            unfold validAt; rw [← eo, decide_eq_true (show (0:Int) < k by omega), Bool.true_and]; exact hc
          refine ⟨by rw [hst, hi, hv]; rfl, ?_⟩
          refine weak_to [] [] rfl List.nodup_nil ?_ rfl
          simp only [vcRules, dRules, bRules, tyRules, xRules, pickV_true, pickV_false, implies_true, Nat.reduceLT, Nat.reduceLeDiff, Nat.reduceEqDiff, Nat.reduceAdd, Nat.reduceSub, Nat.reduceMul, Int.reduceToNat, Int.reduceLT, Int.reduceLE, Int.reduceEq, Int.reduceAdd, Int.reduceSub, Int.reduceNeg, Int.reduceBEq, Int.reduceBNe, Int.reduceMul, Int.natCast_add, Int.natCast_one, reduceCtorEq, reduceIte, b_isAgg, b_cells, t_isAgg, t_cells, @a_wrap ((k:Int) + 1) (by omega)]
      · simp only [vcRules, dRules, bRules, tyRules, xRules, pickV_true, pickV_false, implies_true, Nat.reduceLT, Nat.reduceLeDiff, Nat.reduceEqDiff, Nat.reduceAdd, Nat.reduceSub, Nat.reduceMul, Int.reduceToNat, Int.reduceLT, Int.reduceLE, Int.reduceEq, Int.reduceAdd, Int.reduceSub, Int.reduceNeg, Int.reduceBEq, Int.reduceBNe, Int.reduceMul, Int.natCast_add, Int.natCast_one, reduceCtorEq, reduceIte, b_isAgg, b_cells, t_isAgg, t_cells, (show (k:Int) < os.length by omega), h, a_getD _ _ _ (show k < os.length by omega), ← eo, (show ¬ (0:Int) < k by omega)]
        repeat ((with_reducible refine And.intro ?_ ?_); (focus (first | omega | (intros; simp_all; done) | kernel_rfl)))
        refine callG_pure (fun _ => c37 _ hso) ?_
        simp only [vcRules, dRules, bRules, tyRules, xRules, pickV_true, pickV_false, implies_true, Nat.reduceLT, Nat.reduceLeDiff, Nat.reduceEqDiff, Nat.reduceAdd, Nat.reduceSub, Nat.reduceMul, Int.reduceToNat, Int.reduceLT, Int.reduceLE, Int.reduceEq, Int.reduceAdd, Int.reduceSub, Int.reduceNeg, Int.reduceBEq, Int.reduceBNe, Int.reduceMul, Int.natCast_add, Int.natCast_one, reduceCtorEq, reduceIte, b_isAgg, b_cells, t_isAgg, t_cells, (show (k:Int) < os.length by omega), h, a_getD _ _ _ (show k < os.length by omega), ← eo, (show ¬ (0:Int) < k by omega)]
        repeat ((with_reducible refine And.intro ?_ ?_); (focus (first | omega | (intros; simp_all; done) | kernel_rfl)))
        refine callG_pure (v := .d (.int .i64 0)) (fun h => by cases h) ?_
        simp only [vcRules, dRules, bRules, tyRules, xRules, pickV_true, pickV_false, implies_true, Nat.reduceLT, Nat.reduceLeDiff, Nat.reduceEqDiff, Nat.reduceAdd, Nat.reduceSub, Nat.reduceMul, Int.reduceToNat, Int.reduceLT, Int.reduceLE, Int.reduceEq, Int.reduceAdd, Int.reduceSub, Int.reduceNeg, Int.reduceBEq, Int.reduceBNe, Int.reduceMul, Int.natCast_add, Int.natCast_one, reduceCtorEq, reduceIte, b_isAgg, b_cells, t_isAgg, t_cells, (show (k:Int) < os.length by omega), h, a_getD _ _ _ (show k < os.length by omega), ← eo, (show ¬ (0:Int) < k by omega)]
        repeat ((with_reducible refine And.intro ?_ ?_); (focus (first | omega | (intros; simp_all; done) | kernel_rfl)))
        refine callG_pure (v := .d (.int .i64 0)) (fun h => by cases h) ?_
        simp only [vcRules, dRules, bRules, tyRules, xRules, pickV_true, pickV_false, implies_true, Nat.reduceLT, Nat.reduceLeDiff, Nat.reduceEqDiff, Nat.reduceAdd, Nat.reduceSub, Nat.reduceMul, Int.reduceToNat, Int.reduceLT, Int.reduceLE, Int.reduceEq, Int.reduceAdd, Int.reduceSub, Int.reduceNeg, Int.reduceBEq, Int.reduceBNe, Int.reduceMul, Int.natCast_add, Int.natCast_one, reduceCtorEq, reduceIte, b_isAgg, b_cells, t_isAgg, t_cells]
        repeat ((with_reducible refine And.intro ?_ ?_); (focus (first | omega | (intros; simp_all; done) | kernel_rfl)))
        refine ifC.mk (fun hc => ?_) (fun hc => ?_)
        · refine ⟨_, _, ret_d, ?_, rfl⟩
          have hv : validAt os k = true := by
            unfold validAt; rw [← eo, decide_eq_false (show ¬ (0:Int) < k by omega), Bool.false_and, Bool.or_false]; exact hc
          rw [validB, show ((List.range os.length).all fun k => !validAt os k) = false from by rw [List.all_eq_false]; exact ⟨k, List.mem_range.2 h, by simp [hv]⟩]
        · have hv : validAt os k = false := by
            unfold validAt; rw [← eo, decide_eq_false (show ¬ (0:Int) < k by omega), Bool.false_and, Bool.or_false]; exact hc
          refine ⟨by rw [hst, hi, hv]; rfl, ?_⟩
          refine weak_to [] [] rfl List.nodup_nil ?_ rfl
          simp only [vcRules, dRules, bRules, tyRules, xRules, pickV_true, pickV_false, implies_true, Nat.reduceLT, Nat.reduceLeDiff, Nat.reduceEqDiff, Nat.reduceAdd, Nat.reduceSub, Nat.reduceMul, Int.reduceToNat, Int.reduceLT, Int.reduceLE, Int.reduceEq, Int.reduceAdd, Int.reduceSub, Int.reduceNeg, Int.reduceBEq, Int.reduceBNe, Int.reduceMul, Int.natCast_add, Int.natCast_one, reduceCtorEq, reduceIte, b_isAgg, b_cells, t_isAgg, t_cells, @a_wrap ((k:Int) + 1) (by omega)]
    · simp only [vcRules, dRules, bRules, tyRules, xRules, pickV_true, pickV_false, implies_true, Nat.reduceLT, Nat.reduceLeDiff, Nat.reduceEqDiff, Nat.reduceAdd, Nat.reduceSub, Nat.reduceMul, Int.reduceToNat, Int.reduceLT, Int.reduceLE, Int.reduceEq, Int.reduceAdd, Int.reduceSub, Int.reduceNeg, Int.reduceBEq, Int.reduceBNe, Int.reduceMul, Int.natCast_add, Int.natCast_one, reduceCtorEq, reduceIte, b_isAgg, b_cells, t_isAgg, t_cells, (show ¬ (k:Int) < os.length by omega)]
      refine ⟨_, _, ret_d, ?_, rfl⟩
      have : k = os.length := by omega
      rw [validB, ← this, hi]

def countF (os : List TimedT) (kind : Int) : Nat → Nat
  | 0 => 0
  | k + 1 => if ((os.getD k default).kind == kind) = true then countF os kind k + 1 else countF os kind k
theorem countF_le (os : List TimedT) (kind : Int) : ∀ k, countF os kind k ≤ k
  | 0 => Nat.le_refl _
  | k + 1 => by have := countF_le os kind k; unfold countF; split <;> omega
theorem c23 (os : List TimedT) (kind : Int) (hl : os.length < 1000000) : Pure Try.prog 23 [.d (.sl (os.map TimedT.toD)), .d (.int .i64 kind)] (.d (.int .i64 (countF os kind os.length))) := by
  refine Pure.of2 ?_
  refine acalls_of Try.func23 rfl rfl (by simp [Try.ntmps23]) (evC_sound rfl _ _ _ _ ?_)
  simp only [Try.ntmps23, Try.results23, argEnv, List.length_nil]
  simp only [vcRules, dRules, bRules, tyRules, xRules, pickV_true, pickV_false, implies_true, Nat.reduceLT, Nat.reduceLeDiff, Nat.reduceEqDiff, Nat.reduceAdd, Nat.reduceSub, Nat.reduceMul, Int.reduceToNat, Int.reduceLT, Int.reduceLE, Int.reduceEq, Int.reduceAdd, Int.reduceSub, Int.reduceNeg, Int.reduceBEq, Int.reduceBNe, Int.reduceMul, Int.natCast_add, Int.natCast_one, reduceCtorEq, reduceIte, b_isAgg, b_cells, t_isAgg, t_cells]
  refine for_of os.length (fun k => [(0, .d (.sl (os.map TimedT.toD))), (1, .d (.int .i64 kind)), (5, .d (.int .i64 (countF os kind k))), (6, .d (.int .i64 k))]) (fun _ => []) (fun _ => True) trivial ?_ ?_
  · refine weak_to [] [] rfl List.nodup_nil ?_ rfl
    simp only [vcRules, dRules, bRules, tyRules, xRules, pickV_true, pickV_false, implies_true, Nat.reduceLT, Nat.reduceLeDiff, Nat.reduceEqDiff, Nat.reduceAdd, Nat.reduceSub, Nat.reduceMul, Int.reduceToNat, Int.reduceLT, Int.reduceLE, Int.reduceEq, Int.reduceAdd, Int.reduceSub, Int.reduceNeg, Int.reduceBEq, Int.reduceBNe, Int.reduceMul, Int.natCast_add, Int.natCast_one, reduceCtorEq, reduceIte, b_isAgg, b_cells, t_isAgg, t_cells, countF, Int.cast_ofNat_Int]
  · intro k _ hk
    have hle := countF_le os kind k
    by_cases h : k < os.length
    · simp only [vcRules, dRules, bRules, tyRules, xRules, pickV_true, pickV_false, implies_true, Nat.reduceLT, Nat.reduceLeDiff, Nat.reduceEqDiff, Nat.reduceAdd, Nat.reduceSub, Nat.reduceMul, Int.reduceToNat, Int.reduceLT, Int.reduceLE, Int.reduceEq, Int.reduceAdd, Int.reduceSub, Int.reduceNeg, Int.reduceBEq, Int.reduceBNe, Int.reduceMul, Int.natCast_add, Int.natCast_one, reduceCtorEq, reduceIte, b_isAgg, b_cells, t_isAgg, t_cells, (show (k:Int) < os.length by omega), h, a_getD _ _ _ (show k < os.length by omega)]
      refine ifC.mk (fun hc => ?_) (fun hc => ?_)
      · refine weak_to [] [] rfl List.nodup_nil ?_ rfl
        simp only [vcRules, dRules, bRules, tyRules, xRules, pickV_true, pickV_false, implies_true, Nat.reduceLT, Nat.reduceLeDiff, Nat.reduceEqDiff, Nat.reduceAdd, Nat.reduceSub, Nat.reduceMul, Int.reduceToNat, Int.reduceLT, Int.reduceLE, Int.reduceEq, Int.reduceAdd, Int.reduceSub, Int.reduceNeg, Int.reduceBEq, Int.reduceBNe, Int.reduceMul, Int.natCast_add, Int.natCast_one, reduceCtorEq, reduceIte, b_isAgg, b_cells, t_isAgg, t_cells, @a_wrap ((k:Int) + 1) (by omega), @a_wrap ((countF os kind k : Int) + 1) (by omega), countF, hc]
      · refine weak_to [] [] rfl List.nodup_nil ?_ rfl
        simp only [vcRules, dRules, bRules, tyRules, xRules, pickV_true, pickV_false, implies_true, Nat.reduceLT, Nat.reduceLeDiff, Nat.reduceEqDiff, Nat.reduceAdd, Nat.reduceSub, Nat.reduceMul, Int.reduceToNat, Int.reduceLT, Int.reduceLE, Int.reduceEq, Int.reduceAdd, Int.reduceSub, Int.reduceNeg, Int.reduceBEq, Int.reduceBNe, Int.reduceMul, Int.natCast_add, Int.natCast_one, reduceCtorEq, reduceIte, b_isAgg, b_cells, t_isAgg, t_cells, @a_wrap ((k:Int) + 1) (by omega), countF, hc]
    · simp only [vcRules, dRules, bRules, tyRules, xRules, pickV_true, pickV_false, implies_true, Nat.reduceLT, Nat.reduceLeDiff, Nat.reduceEqDiff, Nat.reduceAdd, Nat.reduceSub, Nat.reduceMul, Int.reduceToNat, Int.reduceLT, Int.reduceLE, Int.reduceEq, Int.reduceAdd, Int.reduceSub, Int.reduceNeg, Int.reduceBEq, Int.reduceBNe, Int.reduceMul, Int.natCast_add, Int.natCast_one, reduceCtorEq, reduceIte, b_isAgg, b_cells, t_isAgg, t_cells, (show ¬ (k:Int) < os.length by omega)]
      have : k = os.length := by omega
      subst this
      exact ⟨_, _, ret_d, rfl, rfl⟩
end Ytgebmgahfpnjaaa
end Go.Proofs
