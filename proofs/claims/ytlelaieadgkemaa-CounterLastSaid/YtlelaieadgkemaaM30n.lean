/- A part of the proof: contracts of functions of this seat, and lemmas. No condition beyond those stated. -/
import Derived.Test.YtlelaieadgkemaaM30m
set_option linter.unusedVariables false
set_option linter.unusedSimpArgs false
set_option linter.unusedSectionVars false
set_option linter.unnecessarySimpa false
set_option linter.unusedSimpArgs false
set_option linter.unusedVariables false
set_option maxRecDepth 100000
namespace Go.Proofs
open Go.AM
namespace Ytlelaieadgkemaa

def prevI (os : List TimedT) (i : Nat) : Nat → Int
  | 0 => -1
  | k + 1 => if ((os.getD k default).thread == (os.getD i default).thread) = true then (k : Int) else prevI os i k
theorem prevI_bd (os : List TimedT) (i : Nat) : ∀ k, prevI os i k = -1 ∨ (0 ≤ prevI os i k ∧ prevI os i k < k)
  | 0 => .inl rfl
  | k + 1 => by
    rw [prevI]
    split
    · right; omega
    · rcases prevI_bd os i k with h | h
      · exact .inl h
      · right; omega
theorem c41 (os : List TimedT) (i : Nat) (hl : os.length < 1000000) (h : i < os.length) : Pure Try.prog 41 [.d (.sl (os.map TimedT.toD)), .d (.int .i64 i)] (.d (.int .i64 (prevI os i i))) := by
  refine Pure.of2 ?_
  refine acalls_of Try.func41 rfl rfl (by simp [Try.ntmps41]) (evC_sound rfl _ _ _ _ ?_)
  simp only [Try.ntmps41, Try.results41, argEnv, List.length_nil]
  simp only [vcRules, dRules, bRules, tyRules, xRules, pickV_true, pickV_false, implies_true, Nat.reduceLT, Nat.reduceLeDiff, Nat.reduceEqDiff, Nat.reduceAdd, Nat.reduceSub, Nat.reduceMul, Int.reduceToNat, Int.reduceLT, Int.reduceLE, Int.reduceEq, Int.reduceAdd, Int.reduceSub, Int.reduceNeg, Int.reduceBEq, Int.reduceBNe, Int.reduceMul, Int.natCast_add, Int.natCast_one, reduceCtorEq, reduceIte, s_isAgg, s_cells, t_isAgg, t_cells, e_isAgg, e_cells, i_isAgg, i_cells, yRules]
  refine loop_of (τ := Nat) (fun k => [(0, .d (.sl (os.map TimedT.toD))), (1, .d (.int .i64 i)), (5, .d (.int .i64 ((k : Int) - 1)))]) (fun _ => []) (fun k => k ≤ i ∧ prevI os i i = prevI os i k) (fun k => k) i ⟨Nat.le_refl _, rfl⟩ ?_ ?_
  · refine weak_to [] [] rfl List.nodup_nil ?_ rfl
    simp only [vcRules, dRules, bRules, tyRules, xRules, pickV_true, pickV_false, implies_true, Nat.reduceLT, Nat.reduceLeDiff, Nat.reduceEqDiff, Nat.reduceAdd, Nat.reduceSub, Nat.reduceMul, Int.reduceToNat, Int.reduceLT, Int.reduceLE, Int.reduceEq, Int.reduceAdd, Int.reduceSub, Int.reduceNeg, Int.reduceBEq, Int.reduceBNe, Int.reduceMul, Int.natCast_add, Int.natCast_one, reduceCtorEq, reduceIte, s_isAgg, s_cells, t_isAgg, t_cells, e_isAgg, e_cells, i_isAgg, i_cells, yRules, @a_wrap ((i:Int) - 1) (by omega)]
  · intro k hk
    obtain ⟨hk, hp⟩ := hk
    by_cases h0 : 0 < k
    · obtain ⟨j, rfl⟩ : ∃ j, k = j + 1 := ⟨k - 1, by omega⟩
      have ej : ((j : Int) + 1 - 1) = (j : Int) := by omega
      simp only [vcRules, dRules, bRules, tyRules, xRules, pickV_true, pickV_false, implies_true, Nat.reduceLT, Nat.reduceLeDiff, Nat.reduceEqDiff, Nat.reduceAdd, Nat.reduceSub, Nat.reduceMul, Int.reduceToNat, Int.reduceLT, Int.reduceLE, Int.reduceEq, Int.reduceAdd, Int.reduceSub, Int.reduceNeg, Int.reduceBEq, Int.reduceBNe, Int.reduceMul, Int.natCast_add, Int.natCast_one, reduceCtorEq, reduceIte, s_isAgg, s_cells, t_isAgg, t_cells, e_isAgg, e_cells, i_isAgg, i_cells, yRules, ej, (show (0:Int) ≤ j by omega), (show (j:Int) < os.length by omega), (show j < os.length by omega), a_getD _ _ _ (show j < os.length by omega), (show (i:Int) < os.length by omega), h, a_getD _ _ _ (show i < os.length by omega)]
      repeat ((with_reducible refine And.intro ?_ ?_); (focus (first | omega | (simp only [List.length_take, List.length_drop, List.length_map, List.length_append, List.length_cons]; omega) | (refine (show quietOp _ = true from ?_); rfl) | (refine (show drawChk _ = true from ?_); kernel_rfl) | (intros; simp_all; done))))
      refine ifC.mk (fun hc => ?_) (fun hc => ?_)
      · refine ⟨_, _, ret_d, ?_, rfl⟩
        rw [hp, prevI, if_pos hc]
      · refine ⟨j, ⟨by omega, by rw [hp, prevI, if_neg (by rw [hc]; simp)]⟩, by omega, ?_⟩
        refine weak_to [] [] rfl List.nodup_nil ?_ rfl
        simp only [vcRules, dRules, bRules, tyRules, xRules, pickV_true, pickV_false, implies_true, Nat.reduceLT, Nat.reduceLeDiff, Nat.reduceEqDiff, Nat.reduceAdd, Nat.reduceSub, Nat.reduceMul, Int.reduceToNat, Int.reduceLT, Int.reduceLE, Int.reduceEq, Int.reduceAdd, Int.reduceSub, Int.reduceNeg, Int.reduceBEq, Int.reduceBNe, Int.reduceMul, Int.natCast_add, Int.natCast_one, reduceCtorEq, reduceIte, s_isAgg, s_cells, t_isAgg, t_cells, e_isAgg, e_cells, i_isAgg, i_cells, yRules, @a_wrap ((j:Int) - 1) (by omega)]
    · have : k = 0 := by omega
      subst this
      simp only [vcRules, dRules, bRules, tyRules, xRules, pickV_true, pickV_false, implies_true, Nat.reduceLT, Nat.reduceLeDiff, Nat.reduceEqDiff, Nat.reduceAdd, Nat.reduceSub, Nat.reduceMul, Int.reduceToNat, Int.reduceLT, Int.reduceLE, Int.reduceEq, Int.reduceAdd, Int.reduceSub, Int.reduceNeg, Int.reduceBEq, Int.reduceBNe, Int.reduceMul, Int.natCast_add, Int.natCast_one, reduceCtorEq, reduceIte, s_isAgg, s_cells, t_isAgg, t_cells, e_isAgg, e_cells, i_isAgg, i_cells, yRules, Int.cast_ofNat_Int, show ((0:Int) - 1) = -1 from rfl]
      refine ⟨_, _, ret_d, ?_, rfl⟩
      rw [hp]; rfl

def idBad (o : TimedT) : Bool := evErr o != 0 || decide (o.thread < 0) || decide (1000000000000000 < o.thread) || decide (o.serial < 0) || decide (1000000000000000 < o.serial)
def ordAt (os : List TimedT) (k : Nat) : Bool :=
  !idBad (os.getD k default) && !(decide (0 < k) && decide (timeF (os.getD k default) < timeF (os.getD (k - 1) default))) && !(decide (0 ≤ prevI os k k) && decide ((os.getD k default).serial ≤ (os.getD (prevI os k k).toNat default).serial))
def orderedB (os : List TimedT) : Bool := (List.range os.length).all fun k => ordAt os k
theorem ordered_at {os : List TimedT} {k : Nat} (hk : k < os.length) (h : ordAt os k = false) : orderedB os = false := by
  unfold orderedB
  rw [List.all_eq_false]
  exact ⟨k, List.mem_range.2 hk, by rw [h]; simp⟩
theorem c22 (os : List TimedT) (hs : ∀ o ∈ os, o.stack.length < 1000000) (hl : os.length < 1000000) : Pure Try.prog 22 [.d (.sl (os.map TimedT.toD))] (.d (.bool (orderedB os))) := by
  refine Pure.of1 ?_
  refine acalls_of Try.func22 rfl rfl (by simp [Try.ntmps22]) (evC_sound rfl _ _ _ _ ?_)
  simp only [Try.ntmps22, Try.results22, argEnv, List.length_nil]
  simp only [vcRules, dRules, bRules, tyRules, xRules, pickV_true, pickV_false, implies_true, Nat.reduceLT, Nat.reduceLeDiff, Nat.reduceEqDiff, Nat.reduceAdd, Nat.reduceSub, Nat.reduceMul, Int.reduceToNat, Int.reduceLT, Int.reduceLE, Int.reduceEq, Int.reduceAdd, Int.reduceSub, Int.reduceNeg, Int.reduceBEq, Int.reduceBNe, Int.reduceMul, Int.natCast_add, Int.natCast_one, reduceCtorEq, reduceIte, s_isAgg, s_cells, t_isAgg, t_cells, e_isAgg, e_cells, i_isAgg, i_cells, yRules]
  refine for_of os.length (fun k => [(0, .d (.sl (os.map TimedT.toD))), (3, .d (.int .i64 k))]) (fun _ => []) (fun k => ((List.range k).all fun k => ordAt os k) = true) rfl ?_ ?_
  · refine weak_to [] [] rfl List.nodup_nil ?_ rfl
    simp only [vcRules, dRules, bRules, tyRules, xRules, pickV_true, pickV_false, implies_true, Nat.reduceLT, Nat.reduceLeDiff, Nat.reduceEqDiff, Nat.reduceAdd, Nat.reduceSub, Nat.reduceMul, Int.reduceToNat, Int.reduceLT, Int.reduceLE, Int.reduceEq, Int.reduceAdd, Int.reduceSub, Int.reduceNeg, Int.reduceBEq, Int.reduceBNe, Int.reduceMul, Int.natCast_add, Int.natCast_one, reduceCtorEq, reduceIte, s_isAgg, s_cells, t_isAgg, t_cells, e_isAgg, e_cells, i_isAgg, i_cells, yRules, Int.cast_ofNat_Int]
  · intro k hi hk
    by_cases h : k < os.length
    · obtain ⟨o, ho⟩ : ∃ o, o = os.getD k default := ⟨_, rfl⟩
      have hso : o.stack.length < 1000000 := by rw [ho]; exact hs _ (mem_getD h)
      have ze : D.agg [.int .i64 o.at_, .int .i64 o.kind, .str o.name, .int .i64 o.n, .int .i64 o.m, .sl (o.stack.map .str)] = evD o := rfl
      simp only [vcRules, dRules, bRules, tyRules, xRules, pickV_true, pickV_false, implies_true, Nat.reduceLT, Nat.reduceLeDiff, Nat.reduceEqDiff, Nat.reduceAdd, Nat.reduceSub, Nat.reduceMul, Int.reduceToNat, Int.reduceLT, Int.reduceLE, Int.reduceEq, Int.reduceAdd, Int.reduceSub, Int.reduceNeg, Int.reduceBEq, Int.reduceBNe, Int.reduceMul, Int.natCast_add, Int.natCast_one, reduceCtorEq, reduceIte, s_isAgg, s_cells, t_isAgg, t_cells, e_isAgg, e_cells, i_isAgg, i_cells, yRules, (show (k:Int) < os.length by omega), h, a_getD _ _ _ (show k < os.length by omega), ← ho, ze]
      repeat ((with_reducible refine And.intro ?_ ?_); (focus (first | omega | (simp only [List.length_take, List.length_drop, List.length_map, List.length_append, List.length_cons]; omega) | (refine (show quietOp _ = true from ?_); rfl) | (refine (show drawChk _ = true from ?_); kernel_rfl) | (intros; simp_all; done))))
      refine callF_pure (c39 o hso) ?_
      simp only [vcRules, dRules, bRules, tyRules, xRules, pickV_true, pickV_false, implies_true, Nat.reduceLT, Nat.reduceLeDiff, Nat.reduceEqDiff, Nat.reduceAdd, Nat.reduceSub, Nat.reduceMul, Int.reduceToNat, Int.reduceLT, Int.reduceLE, Int.reduceEq, Int.reduceAdd, Int.reduceSub, Int.reduceNeg, Int.reduceBEq, Int.reduceBNe, Int.reduceMul, Int.natCast_add, Int.natCast_one, reduceCtorEq, reduceIte, s_isAgg, s_cells, t_isAgg, t_cells, e_isAgg, e_cells, i_isAgg, i_cells, yRules, (show (k:Int) < os.length by omega), h, a_getD _ _ _ (show k < os.length by omega), ← ho]
      repeat ((with_reducible refine And.intro ?_ ?_); (focus (first | omega | (simp only [List.length_take, List.length_drop, List.length_map, List.length_append, List.length_cons]; omega) | (refine (show quietOp _ = true from ?_); rfl) | (refine (show drawChk _ = true from ?_); kernel_rfl) | (intros; simp_all; done))))
      refine ifC.mk (fun h1 => ?_) (fun h1 => ?_)
      · refine ⟨_, _, ret_d, ?_, rfl⟩
        have : ordAt os k = false := by unfold ordAt; rw [← ho, show idBad o = true from h1]; rfl
        rw [ordered_at h this]
      · have h1 : idBad o = false := h1
        have hat : ordAt os k = (!(decide (0 < k) && decide (timeF o < timeF (os.getD (k - 1) default))) && !(decide (0 ≤ prevI os k k) && decide (o.serial ≤ (os.getD (prevI os k k).toNat default).serial))) := by
          unfold ordAt; rw [← ho, h1]; rfl
        by_cases hk0 : 0 < k
        · have e1 : IntKind.i64.wrap ((k : Int) - 1) = ((k - 1 : Nat) : Int) := by rw [wrap64 (by omega) (by omega)]; omega
          rw [decide_eq_true hk0, Bool.true_and] at hat
          simp only [vcRules, dRules, bRules, tyRules, xRules, pickV_true, pickV_false, implies_true, Nat.reduceLT, Nat.reduceLeDiff, Nat.reduceEqDiff, Nat.reduceAdd, Nat.reduceSub, Nat.reduceMul, Int.reduceToNat, Int.reduceLT, Int.reduceLE, Int.reduceEq, Int.reduceAdd, Int.reduceSub, Int.reduceNeg, Int.reduceBEq, Int.reduceBNe, Int.reduceMul, Int.natCast_add, Int.natCast_one, reduceCtorEq, reduceIte, s_isAgg, s_cells, t_isAgg, t_cells, e_isAgg, e_cells, i_isAgg, i_cells, yRules, (show (0:Int) < k by omega), e1, (show ((k - 1 : Nat) : Int) < os.length by omega), (show k - 1 < os.length by omega), a_getD _ _ _ (show k - 1 < os.length by omega), (show (k:Int) < os.length by omega), h, a_getD _ _ _ (show k < os.length by omega), ← ho]
          repeat ((with_reducible refine And.intro ?_ ?_); (focus (first | omega | (simp only [List.length_take, List.length_drop, List.length_map, List.length_append, List.length_cons]; omega) | (refine (show quietOp _ = true from ?_); rfl) | (refine (show drawChk _ = true from ?_); kernel_rfl) | (intros; simp_all; done))))
          refine callG_pure (fun _ => c40 _) ?_
          simp only [vcRules, dRules, bRules, tyRules, xRules, pickV_true, pickV_false, implies_true, Nat.reduceLT, Nat.reduceLeDiff, Nat.reduceEqDiff, Nat.reduceAdd, Nat.reduceSub, Nat.reduceMul, Int.reduceToNat, Int.reduceLT, Int.reduceLE, Int.reduceEq, Int.reduceAdd, Int.reduceSub, Int.reduceNeg, Int.reduceBEq, Int.reduceBNe, Int.reduceMul, Int.natCast_add, Int.natCast_one, reduceCtorEq, reduceIte, s_isAgg, s_cells, t_isAgg, t_cells, e_isAgg, e_cells, i_isAgg, i_cells, yRules, (show (0:Int) < k by omega), e1, (show ((k - 1 : Nat) : Int) < os.length by omega), (show k - 1 < os.length by omega), a_getD _ _ _ (show k - 1 < os.length by omega), (show (k:Int) < os.length by omega), h, a_getD _ _ _ (show k < os.length by omega), ← ho]
          repeat ((with_reducible refine And.intro ?_ ?_); (focus (first | omega | (simp only [List.length_take, List.length_drop, List.length_map, List.length_append, List.length_cons]; omega) | (refine (show quietOp _ = true from ?_); rfl) | (refine (show drawChk _ = true from ?_); kernel_rfl) | (intros; simp_all; done))))
          refine callG_pure (fun _ => c40 _) ?_
          simp only [vcRules, dRules, bRules, tyRules, xRules, pickV_true, pickV_false, implies_true, Nat.reduceLT, Nat.reduceLeDiff, Nat.reduceEqDiff, Nat.reduceAdd, Nat.reduceSub, Nat.reduceMul, Int.reduceToNat, Int.reduceLT, Int.reduceLE, Int.reduceEq, Int.reduceAdd, Int.reduceSub, Int.reduceNeg, Int.reduceBEq, Int.reduceBNe, Int.reduceMul, Int.natCast_add, Int.natCast_one, reduceCtorEq, reduceIte, s_isAgg, s_cells, t_isAgg, t_cells, e_isAgg, e_cells, i_isAgg, i_cells, yRules, (show (0:Int) < k by omega), e1, (show ((k - 1 : Nat) : Int) < os.length by omega), (show k - 1 < os.length by omega), a_getD _ _ _ (show k - 1 < os.length by omega), (show (k:Int) < os.length by omega), h, a_getD _ _ _ (show k < os.length by omega), ← ho]
          repeat ((with_reducible refine And.intro ?_ ?_); (focus (first | omega | (simp only [List.length_take, List.length_drop, List.length_map, List.length_append, List.length_cons]; omega) | (refine (show quietOp _ = true from ?_); rfl) | (refine (show drawChk _ = true from ?_); kernel_rfl) | (intros; simp_all; done))))
          refine ifC.mk (fun h2 => ?_) (fun h2 => ?_)
          · refine ⟨_, _, ret_d, ?_, rfl⟩
            rw [ordered_at h (by rw [hat, h2]; rfl)]
          · rw [h2, Bool.not_false, Bool.true_and] at hat
            (try simp only [vcRules, dRules, bRules, tyRules, xRules, pickV_true, pickV_false, implies_true, Nat.reduceLT, Nat.reduceLeDiff, Nat.reduceEqDiff, Nat.reduceAdd, Nat.reduceSub, Nat.reduceMul, Int.reduceToNat, Int.reduceLT, Int.reduceLE, Int.reduceEq, Int.reduceAdd, Int.reduceSub, Int.reduceNeg, Int.reduceBEq, Int.reduceBNe, Int.reduceMul, Int.natCast_add, Int.natCast_one, reduceCtorEq, reduceIte, s_isAgg, s_cells, t_isAgg, t_cells, e_isAgg, e_cells, i_isAgg, i_cells, yRules, (show (k:Int) < os.length by omega), h, a_getD _ _ _ (show k < os.length by omega), ← ho])
            refine callF_pure (c41 os k hl h) ?_
            obtain ⟨pv, hpv⟩ : ∃ pv, pv = prevI os k k := ⟨_, rfl⟩
            have hbd := prevI_bd os k k
            rw [← hpv] at hbd hat ⊢
            have hstep : ∀ b : Bool, ((List.range (k + 1)).all fun k => ordAt os k) = (((List.range k).all fun k => ordAt os k) && ordAt os k) := fun _ => by
              rw [List.range_succ, List.all_append]; simp only [List.all_cons, List.all_nil, Bool.and_true]
            rcases hbd with hbd | hbd
            · have e0 : (-1 : Int).toNat = 0 := rfl
              rw [hbd] at hat ⊢
              simp only [vcRules, dRules, bRules, tyRules, xRules, pickV_true, pickV_false, implies_true, Nat.reduceLT, Nat.reduceLeDiff, Nat.reduceEqDiff, Nat.reduceAdd, Nat.reduceSub, Nat.reduceMul, Int.reduceToNat, Int.reduceLT, Int.reduceLE, Int.reduceEq, Int.reduceAdd, Int.reduceSub, Int.reduceNeg, Int.reduceBEq, Int.reduceBNe, Int.reduceMul, Int.natCast_add, Int.natCast_one, reduceCtorEq, reduceIte, s_isAgg, s_cells, t_isAgg, t_cells, e_isAgg, e_cells, i_isAgg, i_cells, yRules, e0, a_getD _ _ _ (show 0 < os.length by omega), (show ¬ (0:Int) ≤ -1 by omega)]
              repeat ((with_reducible refine And.intro ?_ ?_); (focus (first | omega | (simp only [List.length_take, List.length_drop, List.length_map, List.length_append, List.length_cons]; omega) | (refine (show quietOp _ = true from ?_); rfl) | (refine (show drawChk _ = true from ?_); kernel_rfl) | (intros; simp_all; done))))
              (try refine ⟨by rw [hstep true, hi, hat]; simp, ?_⟩)
              refine weak_to [] [] rfl List.nodup_nil ?_ rfl
              simp only [vcRules, dRules, bRules, tyRules, xRules, pickV_true, pickV_false, implies_true, Nat.reduceLT, Nat.reduceLeDiff, Nat.reduceEqDiff, Nat.reduceAdd, Nat.reduceSub, Nat.reduceMul, Int.reduceToNat, Int.reduceLT, Int.reduceLE, Int.reduceEq, Int.reduceAdd, Int.reduceSub, Int.reduceNeg, Int.reduceBEq, Int.reduceBNe, Int.reduceMul, Int.natCast_add, Int.natCast_one, reduceCtorEq, reduceIte, s_isAgg, s_cells, t_isAgg, t_cells, e_isAgg, e_cells, i_isAgg, i_cells, yRules, @a_wrap ((k:Int) + 1) (by omega)]
            · obtain ⟨j, hj⟩ : ∃ j : Nat, pv = j := ⟨pv.toNat, by omega⟩
              rw [hj] at hat ⊢
              rw [hj] at hbd
              simp only [vcRules, dRules, bRules, tyRules, xRules, pickV_true, pickV_false, implies_true, Nat.reduceLT, Nat.reduceLeDiff, Nat.reduceEqDiff, Nat.reduceAdd, Nat.reduceSub, Nat.reduceMul, Int.reduceToNat, Int.reduceLT, Int.reduceLE, Int.reduceEq, Int.reduceAdd, Int.reduceSub, Int.reduceNeg, Int.reduceBEq, Int.reduceBNe, Int.reduceMul, Int.natCast_add, Int.natCast_one, reduceCtorEq, reduceIte, s_isAgg, s_cells, t_isAgg, t_cells, e_isAgg, e_cells, i_isAgg, i_cells, yRules, (show (0:Int) ≤ j by omega), (show (j:Int) < os.length by omega), (show j < os.length by omega), a_getD _ _ _ (show j < os.length by omega)]
              repeat ((with_reducible refine And.intro ?_ ?_); (focus (first | omega | (simp only [List.length_take, List.length_drop, List.length_map, List.length_append, List.length_cons]; omega) | (refine (show quietOp _ = true from ?_); rfl) | (refine (show drawChk _ = true from ?_); kernel_rfl) | (intros; simp_all; done))))
              refine ifC.mk (fun q => ?_) (fun q => ?_)
              · refine ⟨_, _, ret_d, ?_, rfl⟩
                rw [ordered_at h (by rw [hat]; simp only [Int.toNat_natCast]; rw [q]; simp)]
              · (try refine ⟨by rw [hstep true, hi, hat]; simp only [Int.toNat_natCast]; rw [q]; simp, ?_⟩)
                refine weak_to [] [] rfl List.nodup_nil ?_ rfl
                simp only [vcRules, dRules, bRules, tyRules, xRules, pickV_true, pickV_false, implies_true, Nat.reduceLT, Nat.reduceLeDiff, Nat.reduceEqDiff, Nat.reduceAdd, Nat.reduceSub, Nat.reduceMul, Int.reduceToNat, Int.reduceLT, Int.reduceLE, Int.reduceEq, Int.reduceAdd, Int.reduceSub, Int.reduceNeg, Int.reduceBEq, Int.reduceBNe, Int.reduceMul, Int.natCast_add, Int.natCast_one, reduceCtorEq, reduceIte, s_isAgg, s_cells, t_isAgg, t_cells, e_isAgg, e_cells, i_isAgg, i_cells, yRules, @a_wrap ((k:Int) + 1) (by omega)]
        · rw [decide_eq_false hk0, Bool.false_and, Bool.not_false, Bool.true_and] at hat
          have e0 : (IntKind.i64.wrap ((k : Int) - 1)).toNat = 0 := by rw [wrap64 (by omega) (by omega)]; omega
          simp only [vcRules, dRules, bRules, tyRules, xRules, pickV_true, pickV_false, implies_true, Nat.reduceLT, Nat.reduceLeDiff, Nat.reduceEqDiff, Nat.reduceAdd, Nat.reduceSub, Nat.reduceMul, Int.reduceToNat, Int.reduceLT, Int.reduceLE, Int.reduceEq, Int.reduceAdd, Int.reduceSub, Int.reduceNeg, Int.reduceBEq, Int.reduceBNe, Int.reduceMul, Int.natCast_add, Int.natCast_one, reduceCtorEq, reduceIte, s_isAgg, s_cells, t_isAgg, t_cells, e_isAgg, e_cells, i_isAgg, i_cells, yRules, (show ¬ (0:Int) < k by omega), e0, a_getD _ _ _ (show 0 < os.length by omega), (show (k:Int) < os.length by omega), h, a_getD _ _ _ (show k < os.length by omega), ← ho]
          repeat ((with_reducible refine And.intro ?_ ?_); (focus (first | omega | (simp only [List.length_take, List.length_drop, List.length_map, List.length_append, List.length_cons]; omega) | (refine (show quietOp _ = true from ?_); rfl) | (refine (show drawChk _ = true from ?_); kernel_rfl) | (intros; simp_all; done))))
          refine callG_pure (v := .d (.int .i64 0)) (fun h => by cases h) ?_
          simp only [vcRules, dRules, bRules, tyRules, xRules, pickV_true, pickV_false, implies_true, Nat.reduceLT, Nat.reduceLeDiff, Nat.reduceEqDiff, Nat.reduceAdd, Nat.reduceSub, Nat.reduceMul, Int.reduceToNat, Int.reduceLT, Int.reduceLE, Int.reduceEq, Int.reduceAdd, Int.reduceSub, Int.reduceNeg, Int.reduceBEq, Int.reduceBNe, Int.reduceMul, Int.natCast_add, Int.natCast_one, reduceCtorEq, reduceIte, s_isAgg, s_cells, t_isAgg, t_cells, e_isAgg, e_cells, i_isAgg, i_cells, yRules, (show ¬ (0:Int) < k by omega), e0, a_getD _ _ _ (show 0 < os.length by omega), (show (k:Int) < os.length by omega), h, a_getD _ _ _ (show k < os.length by omega), ← ho]
          repeat ((with_reducible refine And.intro ?_ ?_); (focus (first | omega | (simp only [List.length_take, List.length_drop, List.length_map, List.length_append, List.length_cons]; omega) | (refine (show quietOp _ = true from ?_); rfl) | (refine (show drawChk _ = true from ?_); kernel_rfl) | (intros; simp_all; done))))
          refine callG_pure (v := .d (.int .i64 0)) (fun h => by cases h) ?_
          simp only [vcRules, dRules, bRules, tyRules, xRules, pickV_true, pickV_false, implies_true, Nat.reduceLT, Nat.reduceLeDiff, Nat.reduceEqDiff, Nat.reduceAdd, Nat.reduceSub, Nat.reduceMul, Int.reduceToNat, Int.reduceLT, Int.reduceLE, Int.reduceEq, Int.reduceAdd, Int.reduceSub, Int.reduceNeg, Int.reduceBEq, Int.reduceBNe, Int.reduceMul, Int.natCast_add, Int.natCast_one, reduceCtorEq, reduceIte, s_isAgg, s_cells, t_isAgg, t_cells, e_isAgg, e_cells, i_isAgg, i_cells, yRules, (show ¬ (0:Int) < k by omega), e0, a_getD _ _ _ (show 0 < os.length by omega), (show (k:Int) < os.length by omega), h, a_getD _ _ _ (show k < os.length by omega), ← ho]
          repeat ((with_reducible refine And.intro ?_ ?_); (focus (first | omega | (simp only [List.length_take, List.length_drop, List.length_map, List.length_append, List.length_cons]; omega) | (refine (show quietOp _ = true from ?_); rfl) | (refine (show drawChk _ = true from ?_); kernel_rfl) | (intros; simp_all; done))))
          refine callF_pure (c41 os k hl h) ?_
          obtain ⟨pv, hpv⟩ : ∃ pv, pv = prevI os k k := ⟨_, rfl⟩
          have hbd := prevI_bd os k k
          rw [← hpv] at hbd hat ⊢
          have hstep : ∀ b : Bool, ((List.range (k + 1)).all fun k => ordAt os k) = (((List.range k).all fun k => ordAt os k) && ordAt os k) := fun _ => by
            rw [List.range_succ, List.all_append]; simp only [List.all_cons, List.all_nil, Bool.and_true]
          rcases hbd with hbd | hbd
          · have e0 : (-1 : Int).toNat = 0 := rfl
            rw [hbd] at hat ⊢
            simp only [vcRules, dRules, bRules, tyRules, xRules, pickV_true, pickV_false, implies_true, Nat.reduceLT, Nat.reduceLeDiff, Nat.reduceEqDiff, Nat.reduceAdd, Nat.reduceSub, Nat.reduceMul, Int.reduceToNat, Int.reduceLT, Int.reduceLE, Int.reduceEq, Int.reduceAdd, Int.reduceSub, Int.reduceNeg, Int.reduceBEq, Int.reduceBNe, Int.reduceMul, Int.natCast_add, Int.natCast_one, reduceCtorEq, reduceIte, s_isAgg, s_cells, t_isAgg, t_cells, e_isAgg, e_cells, i_isAgg, i_cells, yRules, e0, a_getD _ _ _ (show 0 < os.length by omega), (show ¬ (0:Int) ≤ -1 by omega)]
            repeat ((with_reducible refine And.intro ?_ ?_); (focus (first | omega | (simp only [List.length_take, List.length_drop, List.length_map, List.length_append, List.length_cons]; omega) | (refine (show quietOp _ = true from ?_); rfl) | (refine (show drawChk _ = true from ?_); kernel_rfl) | (intros; simp_all; done))))
            (try refine ⟨by rw [hstep true, hi, hat]; simp, ?_⟩)
            refine weak_to [] [] rfl List.nodup_nil ?_ rfl
            simp only [vcRules, dRules, bRules, tyRules, xRules, pickV_true, pickV_false, implies_true, Nat.reduceLT, Nat.reduceLeDiff, Nat.reduceEqDiff, Nat.reduceAdd, Nat.reduceSub, Nat.reduceMul, Int.reduceToNat, Int.reduceLT, Int.reduceLE, Int.reduceEq, Int.reduceAdd, Int.reduceSub, Int.reduceNeg, Int.reduceBEq, Int.reduceBNe, Int.reduceMul, Int.natCast_add, Int.natCast_one, reduceCtorEq, reduceIte, s_isAgg, s_cells, t_isAgg, t_cells, e_isAgg, e_cells, i_isAgg, i_cells, yRules, @a_wrap ((k:Int) + 1) (by omega)]
          · obtain ⟨j, hj⟩ : ∃ j : Nat, pv = j := ⟨pv.toNat, by omega⟩
            rw [hj] at hat ⊢
            rw [hj] at hbd
            simp only [vcRules, dRules, bRules, tyRules, xRules, pickV_true, pickV_false, implies_true, Nat.reduceLT, Nat.reduceLeDiff, Nat.reduceEqDiff, Nat.reduceAdd, Nat.reduceSub, Nat.reduceMul, Int.reduceToNat, Int.reduceLT, Int.reduceLE, Int.reduceEq, Int.reduceAdd, Int.reduceSub, Int.reduceNeg, Int.reduceBEq, Int.reduceBNe, Int.reduceMul, Int.natCast_add, Int.natCast_one, reduceCtorEq, reduceIte, s_isAgg, s_cells, t_isAgg, t_cells, e_isAgg, e_cells, i_isAgg, i_cells, yRules, (show (0:Int) ≤ j by omega), (show (j:Int) < os.length by omega), (show j < os.length by omega), a_getD _ _ _ (show j < os.length by omega)]
            repeat ((with_reducible refine And.intro ?_ ?_); (focus (first | omega | (simp only [List.length_take, List.length_drop, List.length_map, List.length_append, List.length_cons]; omega) | (refine (show quietOp _ = true from ?_); rfl) | (refine (show drawChk _ = true from ?_); kernel_rfl) | (intros; simp_all; done))))
            refine ifC.mk (fun q => ?_) (fun q => ?_)
            · refine ⟨_, _, ret_d, ?_, rfl⟩
              rw [ordered_at h (by rw [hat]; simp only [Int.toNat_natCast]; rw [q]; simp)]
            · (try refine ⟨by rw [hstep true, hi, hat]; simp only [Int.toNat_natCast]; rw [q]; simp, ?_⟩)
              refine weak_to [] [] rfl List.nodup_nil ?_ rfl
              simp only [vcRules, dRules, bRules, tyRules, xRules, pickV_true, pickV_false, implies_true, Nat.reduceLT, Nat.reduceLeDiff, Nat.reduceEqDiff, Nat.reduceAdd, Nat.reduceSub, Nat.reduceMul, Int.reduceToNat, Int.reduceLT, Int.reduceLE, Int.reduceEq, Int.reduceAdd, Int.reduceSub, Int.reduceNeg, Int.reduceBEq, Int.reduceBNe, Int.reduceMul, Int.natCast_add, Int.natCast_one, reduceCtorEq, reduceIte, s_isAgg, s_cells, t_isAgg, t_cells, e_isAgg, e_cells, i_isAgg, i_cells, yRules, @a_wrap ((k:Int) + 1) (by omega)]
    · have : k = os.length := by omega
      subst this
      simp only [vcRules, dRules, bRules, tyRules, xRules, pickV_true, pickV_false, implies_true, Nat.reduceLT, Nat.reduceLeDiff, Nat.reduceEqDiff, Nat.reduceAdd, Nat.reduceSub, Nat.reduceMul, Int.reduceToNat, Int.reduceLT, Int.reduceLE, Int.reduceEq, Int.reduceAdd, Int.reduceSub, Int.reduceNeg, Int.reduceBEq, Int.reduceBNe, Int.reduceMul, Int.natCast_add, Int.natCast_one, reduceCtorEq, reduceIte, s_isAgg, s_cells, t_isAgg, t_cells, e_isAgg, e_cells, i_isAgg, i_cells, yRules, (show ¬ (os.length:Int) < os.length by omega)]
      refine ⟨_, _, ret_d, ?_, rfl⟩
      rw [orderedB, hi]
end Ytlelaieadgkemaa
end Go.Proofs
