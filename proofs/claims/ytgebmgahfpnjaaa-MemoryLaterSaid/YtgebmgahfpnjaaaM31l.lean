/- A part of the proof: contracts of functions of this seat, and lemmas. No condition beyond those stated. -/
import Derived.Test.YtgebmgahfpnjaaaM31k
set_option linter.unusedVariables false
set_option linter.unusedSimpArgs false
set_option linter.unusedSectionVars false
set_option linter.unnecessarySimpa false
set_option linter.unusedSimpArgs false
set_option linter.unusedVariables false
set_option maxRecDepth 100000
namespace Go.Proofs
open Go.AM Go.ChangeShapes Go.WideShapes Go.ChangeAt Go.RowKit
namespace Ytgebmgahfpnjaaa

theorem check_spec {l : List BlockT} (h : checkF l = 0) {k : Nat} (hk : k < l.length) :
    badB (l.getD k default) = false ∧ framesF (l.getD k default).stack = 0 ∧ (0 < k → (l.getD (k - 1) default).lo ≤ (l.getD k default).lo) ∧ (l.take k).any (fun a => clashB a (l.getD k default)) = false := by
  have h0 := firstErr_zero h k hk
  unfold checkAt at h0
  split at h0
  · omega
  · rename_i h1
    split at h0
    · omega
    · rename_i h2
      split at h0
      · omega
      · rename_i h3
        split at h0
        · omega
        · rename_i h4
          refine ⟨by simpa using h1, by simpa using h2, fun hk0 => ?_, by simpa using h4⟩
          simp only [Bool.and_eq_true, decide_eq_true_eq, not_and, Int.not_lt] at h3
          exact h3 hk0
theorem bad_spec {b : BlockT} (h : badB b = false) : 0 ≤ b.id ∧ b.id ≤ 1000000000000000 ∧ 0 ≤ b.thread ∧ b.thread ≤ 1000000000000000 ∧ 1 ≤ b.size ∧ b.size ≤ 1000000000000 ∧ 0 ≤ b.lo ∧ b.lo < b.hi ∧ b.hi ≤ 1000000000000 := by
  unfold badB at h
  simp only [Bool.or_eq_false_iff, decide_eq_false_iff_not, Bool.not_eq_false', Bool.and_eq_true, decide_eq_true_eq] at h
  omega
theorem check_sorted {l : List BlockT} (h : checkF l = 0) {j : Nat} : ∀ {k : Nat}, j ≤ k → k < l.length → (l.getD j default).lo ≤ (l.getD k default).lo
  | 0, h1, _ => by have : j = 0 := by omega
                   subst this; exact Int.le_refl _
  | k + 1, h1, h2 => by
    by_cases e : j = k + 1
    · subst e; exact Int.le_refl _
    · have := check_sorted h (j := j) (k := k) (by omega) (by omega)
      have h3 := (check_spec h h2).2.2.1 (by omega)
      simp only [Nat.add_sub_cancel] at h3
      omega
theorem peak_eq {l : List BlockT} (h : checkF l = 0) : ∀ k, k ≤ l.length → peakF l k = peakR l k ∧ 0 ≤ (peakF l k).1 ∧ ∀ j, k ≤ j → j < l.length → (peakF l k).1 ≤ (l.getD j default).lo
  | 0, _ => ⟨rfl, Int.le_refl _, fun j _ hj => by
      have := bad_spec (check_spec h hj).1
      simp only [peakF]; omega⟩
  | k + 1, hk => by
    obtain ⟨h1, h2, h3⟩ := peak_eq h k (by omega)
    have hb := bad_spec (check_spec h (k := k) (by omega)).1
    have h4 := h3 k (Nat.le_refl _) (by omega)
    unfold peakF peakR
    rw [← h1]
    simp only
    by_cases hc : (peakF l k).2 < liveF l (l.getD k default).lo l.length
    · rw [if_pos (by rw [decide_eq_true hc]; rfl), if_pos (decide_eq_true hc)]
      exact ⟨rfl, by simp only; omega, fun j hj1 hj2 => check_sorted h (by omega) hj2⟩
    · have : (decide ((peakF l k).2 < liveF l (l.getD k default).lo l.length) || (liveF l (l.getD k default).lo l.length == (peakF l k).2 && decide ((l.getD k default).lo < (peakF l k).1))) = false := by
        simp only [Bool.or_eq_false_iff, decide_eq_false_iff_not, Bool.and_eq_false_iff]
        exact ⟨hc, .inr (by omega)⟩
      rw [this, if_neg (by simp), if_neg (by simpa using hc)]
      exact ⟨rfl, h2, fun j hj1 hj2 => h3 j (by omega) hj2⟩

theorem c4 (l : List BlockT) (t : Int) : Pure Try.prog 4 [.d (.sl (l.map BlockT.toD)), .d (.int .i64 t)] (.d (.bool true)) := by
  refine Pure.of2 ?_
  refine acalls_of Try.func4 rfl rfl (by simp [Try.ntmps4]) (evC_sound rfl _ _ _ _ ?_)
  simp only [Try.ntmps4, Try.results4, argEnv, List.length_nil]
  simp only [vcRules, dRules, bRules, tyRules, xRules, pickV_true, pickV_false, implies_true, Nat.reduceLT, Nat.reduceLeDiff, Nat.reduceEqDiff, Nat.reduceAdd, Nat.reduceSub, Nat.reduceMul, Int.reduceToNat, Int.reduceLT, Int.reduceLE, Int.reduceEq, Int.reduceAdd, Int.reduceSub, Int.reduceNeg, Int.reduceBEq, Int.reduceBNe, Int.reduceMul, Int.natCast_add, Int.natCast_one, reduceCtorEq, reduceIte, b_isAgg, b_cells, t_isAgg, t_cells, yRules]
  refine callF_pure (c13 l) ?_
  simp only [vcRules, dRules, bRules, tyRules, xRules, pickV_true, pickV_false, implies_true, Nat.reduceLT, Nat.reduceLeDiff, Nat.reduceEqDiff, Nat.reduceAdd, Nat.reduceSub, Nat.reduceMul, Int.reduceToNat, Int.reduceLT, Int.reduceLE, Int.reduceEq, Int.reduceAdd, Int.reduceSub, Int.reduceNeg, Int.reduceBEq, Int.reduceBNe, Int.reduceMul, Int.natCast_add, Int.natCast_one, reduceCtorEq, reduceIte, b_isAgg, b_cells, t_isAgg, t_cells, yRules]
  refine ifC.mk (fun h => ?_) (fun h => ?_)
  · refine callF_pure c9 ?_
    simp only [vcRules, dRules, bRules, tyRules, xRules, pickV_true, pickV_false, implies_true, Nat.reduceLT, Nat.reduceLeDiff, Nat.reduceEqDiff, Nat.reduceAdd, Nat.reduceSub, Nat.reduceMul, Int.reduceToNat, Int.reduceLT, Int.reduceLE, Int.reduceEq, Int.reduceAdd, Int.reduceSub, Int.reduceNeg, Int.reduceBEq, Int.reduceBNe, Int.reduceMul, Int.natCast_add, Int.natCast_one, reduceCtorEq, reduceIte, b_isAgg, b_cells, t_isAgg, t_cells, yRules]
    exact ⟨_, _, ret_d, rfl, rfl⟩
  · have h : fewB l = true := by simpa using h
    obtain ⟨h1, h2⟩ := few_spec h
    have hs : ∀ x ∈ l, x.stack.length < 1000000 := fun x hx => by have := h2 x hx; omega
    refine callF_pure (c14 l hs (by omega)) ?_
    simp only [vcRules, dRules, bRules, tyRules, xRules, pickV_true, pickV_false, implies_true, Nat.reduceLT, Nat.reduceLeDiff, Nat.reduceEqDiff, Nat.reduceAdd, Nat.reduceSub, Nat.reduceMul, Int.reduceToNat, Int.reduceLT, Int.reduceLE, Int.reduceEq, Int.reduceAdd, Int.reduceSub, Int.reduceNeg, Int.reduceBEq, Int.reduceBNe, Int.reduceMul, Int.natCast_add, Int.natCast_one, reduceCtorEq, reduceIte, b_isAgg, b_cells, t_isAgg, t_cells, yRules]
    refine callF_pure (c15 l hs (by omega)) ?_
    simp only [vcRules, dRules, bRules, tyRules, xRules, pickV_true, pickV_false, implies_true, Nat.reduceLT, Nat.reduceLeDiff, Nat.reduceEqDiff, Nat.reduceAdd, Nat.reduceSub, Nat.reduceMul, Int.reduceToNat, Int.reduceLT, Int.reduceLE, Int.reduceEq, Int.reduceAdd, Int.reduceSub, Int.reduceNeg, Int.reduceBEq, Int.reduceBNe, Int.reduceMul, Int.natCast_add, Int.natCast_one, reduceCtorEq, reduceIte, b_isAgg, b_cells, t_isAgg, t_cells, yRules, bne_self_eq_false]
    refine callG_pure (fun _ => c16 l (by omega)) ?_
    simp only [vcRules, dRules, bRules, tyRules, xRules, pickV_true, pickV_false, implies_true, Nat.reduceLT, Nat.reduceLeDiff, Nat.reduceEqDiff, Nat.reduceAdd, Nat.reduceSub, Nat.reduceMul, Int.reduceToNat, Int.reduceLT, Int.reduceLE, Int.reduceEq, Int.reduceAdd, Int.reduceSub, Int.reduceNeg, Int.reduceBEq, Int.reduceBNe, Int.reduceMul, Int.natCast_add, Int.natCast_one, reduceCtorEq, reduceIte, b_isAgg, b_cells, t_isAgg, t_cells, yRules, bne_self_eq_false]
    repeat ((with_reducible refine And.intro ?_ ?_); (focus (first | omega | (simp only [List.length_take, List.length_drop, List.length_map, List.length_append, List.length_cons]; omega) | (intros; simp_all; done) | kernel_rfl)))
    refine callG_pure (fun _ => c17 l (by omega)) ?_
    simp only [vcRules, dRules, bRules, tyRules, xRules, pickV_true, pickV_false, implies_true, Nat.reduceLT, Nat.reduceLeDiff, Nat.reduceEqDiff, Nat.reduceAdd, Nat.reduceSub, Nat.reduceMul, Int.reduceToNat, Int.reduceLT, Int.reduceLE, Int.reduceEq, Int.reduceAdd, Int.reduceSub, Int.reduceNeg, Int.reduceBEq, Int.reduceBNe, Int.reduceMul, Int.natCast_add, Int.natCast_one, reduceCtorEq, reduceIte, b_isAgg, b_cells, t_isAgg, t_cells, yRules, bne_self_eq_false]
    repeat ((with_reducible refine And.intro ?_ ?_); (focus (first | omega | (simp only [List.length_take, List.length_drop, List.length_map, List.length_append, List.length_cons]; omega) | (intros; simp_all; done) | kernel_rfl)))
    have hf : ∀ x ∈ l.filter (fun b => b.live), x.stack.length < 1000000 := fun x hx => hs x (List.mem_filter.1 hx).1
    have hfl := List.length_filter_le (fun b : BlockT => b.live) l
    refine callG_pure (fun _ => c10 _ _ hf hf (by omega) (by omega)) ?_
    rw [sameB_refl]
    simp only [vcRules, dRules, bRules, tyRules, xRules, pickV_true, pickV_false, implies_true, Nat.reduceLT, Nat.reduceLeDiff, Nat.reduceEqDiff, Nat.reduceAdd, Nat.reduceSub, Nat.reduceMul, Int.reduceToNat, Int.reduceLT, Int.reduceLE, Int.reduceEq, Int.reduceAdd, Int.reduceSub, Int.reduceNeg, Int.reduceBEq, Int.reduceBNe, Int.reduceMul, Int.natCast_add, Int.natCast_one, reduceCtorEq, reduceIte, b_isAgg, b_cells, t_isAgg, t_cells, yRules, bne_self_eq_false]
    repeat ((with_reducible refine And.intro ?_ ?_); (focus (first | omega | (simp only [List.length_take, List.length_drop, List.length_map, List.length_append, List.length_cons]; omega) | (intros; simp_all; done) | kernel_rfl)))
    refine callF_pure (c15 l hs (by omega)) ?_
    simp only [vcRules, dRules, bRules, tyRules, xRules, pickV_true, pickV_false, implies_true, Nat.reduceLT, Nat.reduceLeDiff, Nat.reduceEqDiff, Nat.reduceAdd, Nat.reduceSub, Nat.reduceMul, Int.reduceToNat, Int.reduceLT, Int.reduceLE, Int.reduceEq, Int.reduceAdd, Int.reduceSub, Int.reduceNeg, Int.reduceBEq, Int.reduceBNe, Int.reduceMul, Int.natCast_add, Int.natCast_one, reduceCtorEq, reduceIte, b_isAgg, b_cells, t_isAgg, t_cells, yRules]
    refine ifC.mk (fun hc => ?_) (fun hc => ?_)
    · refine callF_pure c9 ?_
      simp only [vcRules, dRules, bRules, tyRules, xRules, pickV_true, pickV_false, implies_true, Nat.reduceLT, Nat.reduceLeDiff, Nat.reduceEqDiff, Nat.reduceAdd, Nat.reduceSub, Nat.reduceMul, Int.reduceToNat, Int.reduceLT, Int.reduceLE, Int.reduceEq, Int.reduceAdd, Int.reduceSub, Int.reduceNeg, Int.reduceBEq, Int.reduceBNe, Int.reduceMul, Int.natCast_add, Int.natCast_one, reduceCtorEq, reduceIte, b_isAgg, b_cells, t_isAgg, t_cells, yRules]
      exact ⟨_, _, ret_d, rfl, rfl⟩
    · have hc : checkF l = 0 := by simpa using hc
      refine callF_pure (c18 l (by omega)) ?_
      simp only [vcRules, dRules, bRules, tyRules, xRules, pickV_true, pickV_false, implies_true, Nat.reduceLT, Nat.reduceLeDiff, Nat.reduceEqDiff, Nat.reduceAdd, Nat.reduceSub, Nat.reduceMul, Int.reduceToNat, Int.reduceLT, Int.reduceLE, Int.reduceEq, Int.reduceAdd, Int.reduceSub, Int.reduceNeg, Int.reduceBEq, Int.reduceBNe, Int.reduceMul, Int.natCast_add, Int.natCast_one, reduceCtorEq, reduceIte, b_isAgg, b_cells, t_isAgg, t_cells, yRules]
      repeat ((with_reducible refine And.intro ?_ ?_); (focus (first | omega | (simp only [List.length_take, List.length_drop, List.length_map, List.length_append, List.length_cons]; omega) | (intros; simp_all; done) | kernel_rfl)))
      refine callF_pure (c19 l (by omega)) ?_
      rw [← (peak_eq hc l.length (Nat.le_refl _)).1]
      simp only [vcRules, dRules, bRules, tyRules, xRules, pickV_true, pickV_false, implies_true, Nat.reduceLT, Nat.reduceLeDiff, Nat.reduceEqDiff, Nat.reduceAdd, Nat.reduceSub, Nat.reduceMul, Int.reduceToNat, Int.reduceLT, Int.reduceLE, Int.reduceEq, Int.reduceAdd, Int.reduceSub, Int.reduceNeg, Int.reduceBEq, Int.reduceBNe, Int.reduceMul, Int.natCast_add, Int.natCast_one, reduceCtorEq, reduceIte, b_isAgg, b_cells, t_isAgg, t_cells, yRules]
      repeat ((with_reducible refine And.intro ?_ ?_); (focus (first | omega | (simp only [List.length_take, List.length_drop, List.length_map, List.length_append, List.length_cons]; omega) | (intros; simp_all; done) | kernel_rfl)))
      refine callF_pure (c20 l t (by omega)) ?_
      simp only [vcRules, dRules, bRules, tyRules, xRules, pickV_true, pickV_false, implies_true, Nat.reduceLT, Nat.reduceLeDiff, Nat.reduceEqDiff, Nat.reduceAdd, Nat.reduceSub, Nat.reduceMul, Int.reduceToNat, Int.reduceLT, Int.reduceLE, Int.reduceEq, Int.reduceAdd, Int.reduceSub, Int.reduceNeg, Int.reduceBEq, Int.reduceBNe, Int.reduceMul, Int.natCast_add, Int.natCast_one, reduceCtorEq, reduceIte, b_isAgg, b_cells, t_isAgg, t_cells, yRules]
      refine callF_pure (c21 l t (by omega)) ?_
      simp only [vcRules, dRules, bRules, tyRules, xRules, pickV_true, pickV_false, implies_true, Nat.reduceLT, Nat.reduceLeDiff, Nat.reduceEqDiff, Nat.reduceAdd, Nat.reduceSub, Nat.reduceMul, Int.reduceToNat, Int.reduceLT, Int.reduceLE, Int.reduceEq, Int.reduceAdd, Int.reduceSub, Int.reduceNeg, Int.reduceBEq, Int.reduceBNe, Int.reduceMul, Int.natCast_add, Int.natCast_one, reduceCtorEq, reduceIte, b_isAgg, b_cells, t_isAgg, t_cells, yRules, beq_self_eq_true]
      repeat ((with_reducible refine And.intro ?_ ?_); (focus (first | omega | (simp only [List.length_take, List.length_drop, List.length_map, List.length_append, List.length_cons]; omega) | (intros; simp_all; done) | kernel_rfl)))
      refine callG_pure (fun _ => c9) ?_
      simp only [vcRules, dRules, bRules, tyRules, xRules, pickV_true, pickV_false, implies_true, Nat.reduceLT, Nat.reduceLeDiff, Nat.reduceEqDiff, Nat.reduceAdd, Nat.reduceSub, Nat.reduceMul, Int.reduceToNat, Int.reduceLT, Int.reduceLE, Int.reduceEq, Int.reduceAdd, Int.reduceSub, Int.reduceNeg, Int.reduceBEq, Int.reduceBNe, Int.reduceMul, Int.natCast_add, Int.natCast_one, reduceCtorEq, reduceIte, b_isAgg, b_cells, t_isAgg, t_cells, yRules]
      exact ⟨_, _, ret_d, rfl, rfl⟩

theorem checks_main (xs : List D) (h : TypedAll Try.prog 5 Try.f4.params.toList xs) : ACalls Try.prog [] 4 (xs.map AV.d) [] (fun r _ => r = .d (.bool true)) := by
  rw [Try.params4] at h
  obtain ⟨x, _, rfl, h1, y, _, rfl, h2, rfl⟩ := h
  obtain ⟨os, rfl, _⟩ := par26 h1
  obtain ⟨e, rfl, _⟩ := par3 h2
  exact (c4 os e []).mono fun r s h => h.1

theorem memoryChecks_lifted (os : Os) (started : os.Started) (H : Type) (enc : TypeId × Value → H) :
    ReturnsInHanded {} Try.checked os 4 .any (Rows.memoryChecksSpec.pre6 enc Try.prog Try.f4 Rows.memoryChecksRow.domain false) (Rows.memoryChecksSpec.post enc Try.prog Try.f4 false true false false) := by
  refine returnsInHanded_of_change (C := Try.checked) own started (by kernel_rfl) Try.func4
    (ChangeSpec.witness6 (enc := enc) (C := Try.checked) false ⟨#[], #[.slice none 0 0, .int .i64 0], []⟩ 8 (by kernel_rfl) (by kernel_rfl) (by kernel_rfl) (by kernel_rfl)) ?_
  intro W base args ds gs before hval hW _ _
  exact law_contract (n := 5) (tb := 4) Try.func4 rfl rfl (by kernel_rfl) laidOut (by kernel_rfl) (by kernel_rfl) rfl
    (fun H ds h => by
      match ds, h with
      | [d1, d2], _ => rfl) checks_main W base args ds gs before hval hW

theorem memoryChecks_holds : Rows.MemoryChecksSaid :=
  OpenClaim.holds_of_wide 4 Try.f4 rfl rfl rfl rfl rfl rfl rfl ⟨rfl, rfl, rfl, rfl, rfl⟩ rfl rfl rfl rfl rfl (by kernel_rfl) Try.func4 (by kernel_rfl)
    (of_decide_eq_true (by kernel_rfl)) (by unfold Func.isWrapper; first | (rw [if_pos (by decide +kernel)]; kernel_rfl) | (rw [if_neg (by decide +kernel)]; exact ⟨rfl, rfl⟩))
    (fun os started H enc _ => memoryChecks_lifted os started H enc)
end Ytgebmgahfpnjaaa
end Go.Proofs
