/- A part of the proof: contracts of functions of this seat, and lemmas. No condition beyond those stated. -/
import Derived.Test.YtgebmgahfpnjaaaM31g
set_option linter.unusedVariables false
set_option linter.unusedSimpArgs false
set_option linter.unusedSectionVars false
set_option linter.unnecessarySimpa false
set_option linter.unusedSimpArgs false
set_option linter.unusedVariables false
set_option maxRecDepth 100000
namespace Go.Proofs
open Go.AM
namespace Ytgebmgahfpnjaaa

/-- what one event does to a block that has begun -/
def closeIf (x : TimedT) (b : BlockT) : BlockT := if (b.live && x.n == b.id && (x.kind == 12 || x.kind == 11)) = true then closeB b (timeF x) else b
def newB (E : Int) (o : TimedT) : BlockT := ⟨o.n, o.thread, o.m, timeF o, E, o.stack, true⟩
/-- the block that begins at event i, seen after the events i + 1 .. i + j -/
def blkRun (os : List TimedT) (E : Int) (i : Nat) : Nat → BlockT
  | 0 => newB E (os.getD i default)
  | j + 1 => closeIf (os.getD (i + 1 + j) default) (blkRun os E i j)
theorem closeIf_id (x : TimedT) (b : BlockT) : (closeIf x b).id = b.id := by unfold closeIf; split <;> rfl
theorem blkRun_id (os : List TimedT) (E : Int) (i : Nat) : ∀ j, (blkRun os E i j).id = (os.getD i default).n
  | 0 => rfl
  | j + 1 => by rw [blkRun, closeIf_id, blkRun_id]

abbrev zeroAV : AV := .agg [.d (.int .i64 0), .d (.int .i64 0), .d (.int .i64 0), .d (.int .i64 0), .d (.int .i64 0), .nils, .d (.bool false)]
def evD (o : TimedT) : D := .agg [.int .i64 o.at_, .int .i64 o.kind, .str o.name, .int .i64 o.n, .int .i64 o.m, .sl (o.stack.map .str)]
theorem evD_agg (o : TimedT) : (evD o).isAgg = true := rfl
theorem evD_cells (o : TimedT) : (evD o).cells = [.int .i64 o.at_, .int .i64 o.kind, .str o.name, .int .i64 o.n, .int .i64 o.m, .sl (o.stack.map .str)] := rfl
theorem c34 (os : List TimedT) (e : Int) (i : Nat) (hl : os.length < 1000000) (hi : i < os.length) : Pure Try.prog 34 [.d (.sl (os.map TimedT.toD)), .d (.int .i64 i), .d (.int .i64 e)] (.d (blkRun os (endF os e) i (os.length - (i + 1))).toD) := by
  refine Pure.of3 ?_
  obtain ⟨o, ho⟩ : ∃ o, o = os.getD i default := ⟨_, rfl⟩
  refine acalls_of Try.func34 rfl rfl (by simp [Try.ntmps34]) (evC_sound rfl _ _ _ _ ?_)
  simp only [Try.ntmps34, Try.results34, argEnv, List.length_nil]
  simp only [vcRules, dRules, bRules, tyRules, xRules, pickV_true, pickV_false, implies_true, Nat.reduceLT, Nat.reduceLeDiff, Nat.reduceEqDiff, Nat.reduceAdd, Nat.reduceSub, Nat.reduceMul, Int.reduceToNat, Int.reduceLT, Int.reduceLE, Int.reduceEq, Int.reduceAdd, Int.reduceSub, Int.reduceNeg, Int.reduceBEq, Int.reduceBNe, Int.reduceMul, Int.natCast_add, Int.natCast_one, reduceCtorEq, reduceIte, b_isAgg, b_cells, t_isAgg, t_cells, yRules, (show (i:Int) < os.length by omega), hi, a_getD _ _ _ (show i < os.length by omega), ← ho]
  refine ⟨by kernel_rfl, callF_pure (c25 _) ?_⟩
  simp only [vcRules, dRules, bRules, tyRules, xRules, pickV_true, pickV_false, implies_true, Nat.reduceLT, Nat.reduceLeDiff, Nat.reduceEqDiff, Nat.reduceAdd, Nat.reduceSub, Nat.reduceMul, Int.reduceToNat, Int.reduceLT, Int.reduceLE, Int.reduceEq, Int.reduceAdd, Int.reduceSub, Int.reduceNeg, Int.reduceBEq, Int.reduceBNe, Int.reduceMul, Int.natCast_add, Int.natCast_one, reduceCtorEq, reduceIte, b_isAgg, b_cells, t_isAgg, t_cells, yRules, (show (i:Int) < os.length by omega), hi, a_getD _ _ _ (show i < os.length by omega), ← ho]
  refine callF_pure (c24 os e hl) ?_
  have e1 : IntKind.i64.wrap ((i : Int) + 1) = ((i + 1 : Nat) : Int) := by rw [wrap64 (by omega) (by omega)]; omega
  simp only [vcRules, dRules, bRules, tyRules, xRules, pickV_true, pickV_false, implies_true, Nat.reduceLT, Nat.reduceLeDiff, Nat.reduceEqDiff, Nat.reduceAdd, Nat.reduceSub, Nat.reduceMul, Int.reduceToNat, Int.reduceLT, Int.reduceLE, Int.reduceEq, Int.reduceAdd, Int.reduceSub, Int.reduceNeg, Int.reduceBEq, Int.reduceBNe, Int.reduceMul, Int.natCast_add, Int.natCast_one, reduceCtorEq, reduceIte, b_isAgg, b_cells, t_isAgg, t_cells, yRules, e1]
  repeat ((with_reducible refine And.intro ?_ ?_); (focus (first | omega | (simp only [List.length_take, List.length_drop, List.length_map, List.length_append, List.length_cons]; omega) | (intros; simp_all; done) | kernel_rfl)))
  refine for_of (os.length - (i + 1)) (fun k => [(0, .d (.sl (os.map TimedT.toD))), (6, .ptr 0 0), (7, .ptr 1 0), (8, .ptr 2 0), (9, .d (.int .i64 (i + 1 + k : Nat)))]) (fun k => [.box 7 zeroAV, .box 6 (.d (evD o)), .box 7 (.d (blkRun os (endF os e) i k).toD)]) (fun _ => True) trivial ?_ ?_
  · refine weak_to [] [0, 1, 2] rfl (by simp) ?_ ?_
    · simp only [vcRules, dRules, bRules, tyRules, xRules, pickV_true, pickV_false, implies_true, Nat.reduceLT, Nat.reduceLeDiff, Nat.reduceEqDiff, Nat.reduceAdd, Nat.reduceSub, Nat.reduceMul, Int.reduceToNat, Int.reduceLT, Int.reduceLE, Int.reduceEq, Int.reduceAdd, Int.reduceSub, Int.reduceNeg, Int.reduceBEq, Int.reduceBNe, Int.reduceMul, Int.natCast_add, Int.natCast_one, reduceCtorEq, reduceIte, b_isAgg, b_cells, t_isAgg, t_cells, yRules, Nat.add_zero]
    · rw [blkRun, ← ho]; rfl
  · intro k _ hk
    obtain ⟨b, hb⟩ : ∃ b, b = blkRun os (endF os e) i k := ⟨_, rfl⟩
    have hid : b.id = o.n := by rw [hb, ho]; exact blkRun_id _ _ _ _
    have hstep : blkRun os (endF os e) i (k + 1) = closeIf (os.getD (i + 1 + k) default) b := by rw [hb]; rfl
    obtain ⟨j, hj⟩ : ∃ j, j = i + 1 + k := ⟨_, rfl⟩
    have hj1 : i + 1 + (k + 1) = j + 1 := by omega
    rw [hstep, ← hb, hj1, ← hj]
    by_cases h : j < os.length
    · obtain ⟨x, hx⟩ : ∃ x, x = os.getD j default := ⟨_, rfl⟩
      rw [← hx]
      simp only [vcRules, dRules, bRules, tyRules, xRules, pickV_true, pickV_false, implies_true, Nat.reduceLT, Nat.reduceLeDiff, Nat.reduceEqDiff, Nat.reduceAdd, Nat.reduceSub, Nat.reduceMul, Int.reduceToNat, Int.reduceLT, Int.reduceLE, Int.reduceEq, Int.reduceAdd, Int.reduceSub, Int.reduceNeg, Int.reduceBEq, Int.reduceBNe, Int.reduceMul, Int.natCast_add, Int.natCast_one, reduceCtorEq, reduceIte, b_isAgg, b_cells, t_isAgg, t_cells, yRules, (show (j : Int) < os.length by omega), h, a_getD _ _ _ (show j < os.length by omega), ← hx, evD_agg, evD_cells]
      repeat ((with_reducible refine And.intro ?_ ?_); (focus (first | omega | (simp only [List.length_take, List.length_drop, List.length_map, List.length_append, List.length_cons]; omega) | (intros; simp_all; done) | kernel_rfl)))
      refine ifC.mk (fun hc => ?_) (fun hc => ?_)
      · have hcl : closeIf x b = closeB b (timeF x) := by unfold closeIf; rw [hid, if_pos hc]
        rw [hcl]
        (try simp only [vcRules, dRules, bRules, tyRules, xRules, pickV_true, pickV_false, implies_true, Nat.reduceLT, Nat.reduceLeDiff, Nat.reduceEqDiff, Nat.reduceAdd, Nat.reduceSub, Nat.reduceMul, Int.reduceToNat, Int.reduceLT, Int.reduceLE, Int.reduceEq, Int.reduceAdd, Int.reduceSub, Int.reduceNeg, Int.reduceBEq, Int.reduceBNe, Int.reduceMul, Int.natCast_add, Int.natCast_one, reduceCtorEq, reduceIte, b_isAgg, b_cells, t_isAgg, t_cells, yRules, (show (j : Int) < os.length by omega), h, a_getD _ _ _ (show j < os.length by omega), ← hx])
        refine callF_pure (c25 _) ?_
        simp only [vcRules, dRules, bRules, tyRules, xRules, pickV_true, pickV_false, implies_true, Nat.reduceLT, Nat.reduceLeDiff, Nat.reduceEqDiff, Nat.reduceAdd, Nat.reduceSub, Nat.reduceMul, Int.reduceToNat, Int.reduceLT, Int.reduceLE, Int.reduceEq, Int.reduceAdd, Int.reduceSub, Int.reduceNeg, Int.reduceBEq, Int.reduceBNe, Int.reduceMul, Int.natCast_add, Int.natCast_one, reduceCtorEq, reduceIte, b_isAgg, b_cells, t_isAgg, t_cells, yRules]
        repeat ((with_reducible refine And.intro ?_ ?_); (focus (first | omega | (simp only [List.length_take, List.length_drop, List.length_map, List.length_append, List.length_cons]; omega) | (intros; simp_all; done) | kernel_rfl)))
        refine weak_to [] [0, 1, 2] rfl (by simp) ?_ ?_
        · simp only [vcRules, dRules, bRules, tyRules, xRules, pickV_true, pickV_false, implies_true, Nat.reduceLT, Nat.reduceLeDiff, Nat.reduceEqDiff, Nat.reduceAdd, Nat.reduceSub, Nat.reduceMul, Int.reduceToNat, Int.reduceLT, Int.reduceLE, Int.reduceEq, Int.reduceAdd, Int.reduceSub, Int.reduceNeg, Int.reduceBEq, Int.reduceBNe, Int.reduceMul, Int.natCast_add, Int.natCast_one, reduceCtorEq, reduceIte, b_isAgg, b_cells, t_isAgg, t_cells, yRules, @a_wrap ((j : Int) + 1) (by omega)]
        · rfl
      · have hcl : closeIf x b = b := by unfold closeIf; rw [hid, if_neg (by rw [hc]; simp)]
        rw [hcl]
        refine ⟨by omega, ?_⟩
        refine weak_to [] [0, 1, 2] rfl (by simp) ?_ ?_
        · simp only [vcRules, dRules, bRules, tyRules, xRules, pickV_true, pickV_false, implies_true, Nat.reduceLT, Nat.reduceLeDiff, Nat.reduceEqDiff, Nat.reduceAdd, Nat.reduceSub, Nat.reduceMul, Int.reduceToNat, Int.reduceLT, Int.reduceLE, Int.reduceEq, Int.reduceAdd, Int.reduceSub, Int.reduceNeg, Int.reduceBEq, Int.reduceBNe, Int.reduceMul, Int.natCast_add, Int.natCast_one, reduceCtorEq, reduceIte, b_isAgg, b_cells, t_isAgg, t_cells, yRules, @a_wrap ((j : Int) + 1) (by omega)]
        · rfl
    · have hk : k = os.length - (i + 1) := by omega
      simp only [vcRules, dRules, bRules, tyRules, xRules, pickV_true, pickV_false, implies_true, Nat.reduceLT, Nat.reduceLeDiff, Nat.reduceEqDiff, Nat.reduceAdd, Nat.reduceSub, Nat.reduceMul, Int.reduceToNat, Int.reduceLT, Int.reduceLE, Int.reduceEq, Int.reduceAdd, Int.reduceSub, Int.reduceNeg, Int.reduceBEq, Int.reduceBNe, Int.reduceMul, Int.natCast_add, Int.natCast_one, reduceCtorEq, reduceIte, b_isAgg, b_cells, t_isAgg, t_cells, yRules, (show ¬ (j : Int) < os.length by omega)]
      exact ⟨_, _, ret_d, by rw [hb, hk], rfl⟩

theorem c35 (l : List BlockT) (b : BlockT) (hl : l.length < 1000000) : Pure Try.prog 35 [.d (.sl (l.map BlockT.toD)), .d b.toD] (.d (.sl ((putF loB l b).map BlockT.toD))) := by
  refine Pure.of2 ?_
  refine acalls_of Try.func35 rfl rfl (by simp [Try.ntmps35]) (evC_sound rfl _ _ _ _ ?_)
  simp only [Try.ntmps35, Try.results35, argEnv, List.length_nil]
  simp only [vcRules, dRules, bRules, tyRules, xRules, pickV_true, pickV_false, implies_true, Nat.reduceLT, Nat.reduceLeDiff, Nat.reduceEqDiff, Nat.reduceAdd, Nat.reduceSub, Nat.reduceMul, Int.reduceToNat, Int.reduceLT, Int.reduceLE, Int.reduceEq, Int.reduceAdd, Int.reduceSub, Int.reduceNeg, Int.reduceBEq, Int.reduceBNe, Int.reduceMul, Int.natCast_add, Int.natCast_one, reduceCtorEq, reduceIte, b_isAgg, b_cells, t_isAgg, t_cells, yRules]
  refine loop_of (τ := Nat) (fun k => [(0, .d (.sl (l.map BlockT.toD))), (3, .ptr 0 0), (5, .d (.int .i64 k))]) (fun _ => [.box 7 (.d b.toD)]) (fun k => k ≤ l.length ∧ putAt loB l b l.length = putAt loB l b k) (fun k => k) l.length ⟨Nat.le_refl _, rfl⟩ ?_ ?_
  · refine weak_to [] [0] rfl (by simp) ?_ rfl
    simp only [vcRules, dRules, bRules, tyRules, xRules, pickV_true, pickV_false, implies_true, Nat.reduceLT, Nat.reduceLeDiff, Nat.reduceEqDiff, Nat.reduceAdd, Nat.reduceSub, Nat.reduceMul, Int.reduceToNat, Int.reduceLT, Int.reduceLE, Int.reduceEq, Int.reduceAdd, Int.reduceSub, Int.reduceNeg, Int.reduceBEq, Int.reduceBNe, Int.reduceMul, Int.natCast_add, Int.natCast_one, reduceCtorEq, reduceIte, b_isAgg, b_cells, t_isAgg, t_cells, yRules]
  · intro k hk
    obtain ⟨hk, hp⟩ := hk
    by_cases h : 0 < k
    · have e1 : IntKind.i64.wrap ((k : Int) - 1) = ((k - 1 : Nat) : Int) := by rw [wrap64 (by omega) (by omega)]; omega
      simp only [vcRules, dRules, bRules, tyRules, xRules, pickV_true, pickV_false, implies_true, Nat.reduceLT, Nat.reduceLeDiff, Nat.reduceEqDiff, Nat.reduceAdd, Nat.reduceSub, Nat.reduceMul, Int.reduceToNat, Int.reduceLT, Int.reduceLE, Int.reduceEq, Int.reduceAdd, Int.reduceSub, Int.reduceNeg, Int.reduceBEq, Int.reduceBNe, Int.reduceMul, Int.natCast_add, Int.natCast_one, reduceCtorEq, reduceIte, b_isAgg, b_cells, t_isAgg, t_cells, yRules, (show (0:Int) < k by omega), e1, (show ((k - 1 : Nat) : Int) < l.length by omega), (show k - 1 < l.length by omega), a_getD _ _ _ (show k - 1 < l.length by omega), take_all, ← List.map_take, ← List.map_drop]
      repeat ((with_reducible refine And.intro ?_ ?_); (focus (first | omega | (simp only [List.length_take, List.length_drop, List.length_map, List.length_append, List.length_cons]; omega) | (intros; simp_all; done) | kernel_rfl)))
      have hpk : putAt loB l b k = if loB b (l.getD (k - 1) default) = true then putAt loB l b (k - 1) else k := by
        obtain ⟨j, rfl⟩ : ∃ j, k = j + 1 := ⟨k - 1, by omega⟩
        rfl
      refine ifC.mk (fun hc => ?_) (fun hc => ?_)
      · refine ⟨k - 1, ⟨by omega, by rw [hp, hpk, if_pos (show loB b (l.getD (k - 1) default) = true from hc)]⟩, by omega, ?_⟩
        refine weak_to [] [0] rfl (by simp) ?_ rfl
        simp only [vcRules, dRules, bRules, tyRules, xRules, pickV_true, pickV_false, implies_true, Nat.reduceLT, Nat.reduceLeDiff, Nat.reduceEqDiff, Nat.reduceAdd, Nat.reduceSub, Nat.reduceMul, Int.reduceToNat, Int.reduceLT, Int.reduceLE, Int.reduceEq, Int.reduceAdd, Int.reduceSub, Int.reduceNeg, Int.reduceBEq, Int.reduceBNe, Int.reduceMul, Int.natCast_add, Int.natCast_one, reduceCtorEq, reduceIte, b_isAgg, b_cells, t_isAgg, t_cells, yRules]
      · repeat ((with_reducible refine And.intro ?_ ?_); (focus (first | omega | (simp only [List.length_take, List.length_drop, List.length_map, List.length_append, List.length_cons]; omega) | (intros; simp_all; done) | kernel_rfl)))
        have hpk : putAt loB l b l.length = k := by rw [hp, hpk, if_neg (by rw [show loB b (l.getD (k - 1) default) = false from hc]; simp)]
        refine ⟨_, _, ret_data rfl ?_, rfl, rfl⟩
        simp only [vcRules, dRules, bRules, tyRules, xRules, pickV_true, pickV_false, implies_true, Nat.reduceLT, Nat.reduceLeDiff, Nat.reduceEqDiff, Nat.reduceAdd, Nat.reduceSub, Nat.reduceMul, Int.reduceToNat, Int.reduceLT, Int.reduceLE, Int.reduceEq, Int.reduceAdd, Int.reduceSub, Int.reduceNeg, Int.reduceBEq, Int.reduceBNe, Int.reduceMul, Int.natCast_add, Int.natCast_one, reduceCtorEq, reduceIte, b_isAgg, b_cells, t_isAgg, t_cells, yRules, List.take_length]
        rw [List.take_of_length_le (l := _ ++ [b.toD]) (by simp), List.take_of_length_le (by simp; omega)]
        simp [putF, hpk]
    · have : k = 0 := by omega
      subst this
      simp only [vcRules, dRules, bRules, tyRules, xRules, pickV_true, pickV_false, implies_true, Nat.reduceLT, Nat.reduceLeDiff, Nat.reduceEqDiff, Nat.reduceAdd, Nat.reduceSub, Nat.reduceMul, Int.reduceToNat, Int.reduceLT, Int.reduceLE, Int.reduceEq, Int.reduceAdd, Int.reduceSub, Int.reduceNeg, Int.reduceBEq, Int.reduceBNe, Int.reduceMul, Int.natCast_add, Int.natCast_one, reduceCtorEq, reduceIte, b_isAgg, b_cells, t_isAgg, t_cells, yRules, Int.cast_ofNat_Int, (show ¬ (0:Int) < 0 by omega), take_all, ← List.map_take, ← List.map_drop]
      repeat ((with_reducible refine And.intro ?_ ?_); (focus (first | omega | (simp only [List.length_take, List.length_drop, List.length_map, List.length_append, List.length_cons]; omega) | (intros; simp_all; done) | kernel_rfl)))
      refine ⟨_, _, ret_data rfl ?_, rfl, rfl⟩
      simp only [vcRules, dRules, bRules, tyRules, xRules, pickV_true, pickV_false, implies_true, Nat.reduceLT, Nat.reduceLeDiff, Nat.reduceEqDiff, Nat.reduceAdd, Nat.reduceSub, Nat.reduceMul, Int.reduceToNat, Int.reduceLT, Int.reduceLE, Int.reduceEq, Int.reduceAdd, Int.reduceSub, Int.reduceNeg, Int.reduceBEq, Int.reduceBNe, Int.reduceMul, Int.natCast_add, Int.natCast_one, reduceCtorEq, reduceIte, b_isAgg, b_cells, t_isAgg, t_cells, yRules, putF, hp, putAt, List.take_length]
      rw [List.take_of_length_le (by simp; omega)]
end Ytgebmgahfpnjaaa
end Go.Proofs
