/- Proved: CounterPartsSaid: for every input that can be read as data the law returns true and leaves its arguments as they were; no condition is added. -/
import Derived.Test.YtlelaieadgkemaaM30k
set_option linter.unusedVariables false
set_option linter.unusedSimpArgs false
set_option linter.unusedSectionVars false
set_option linter.unnecessarySimpa false
set_option linter.unusedSimpArgs false
set_option linter.unusedVariables false
set_option maxRecDepth 100000
namespace Go.Proofs
open Go.AM Go.ChangeShapes Go.WideShapes Go.ChangeAt Go.RowKit
namespace Ytlelaieadgkemaa

set_option maxHeartbeats 2000000 in
theorem c8 (l : List StepT) (f t m : Int) : Pure Try.prog 8 [.d (.sl (l.map StepT.toD)), .d (wD f t), .d (.int .i64 m)] (.d (.bool true)) := by
  refine Pure.of3 ?_
  refine acalls_of Try.func8 rfl rfl (by simp [Try.ntmps8]) (evC_sound rfl _ _ _ _ ?_)
  simp only [Try.ntmps8, Try.results8, argEnv, List.length_nil]
  simp only [vcRules, dRules, bRules, tyRules, xRules, pickV_true, pickV_false, implies_true, Nat.reduceLT, Nat.reduceLeDiff, Nat.reduceEqDiff, Nat.reduceAdd, Nat.reduceSub, Nat.reduceMul, Int.reduceToNat, Int.reduceLT, Int.reduceLE, Int.reduceEq, Int.reduceAdd, Int.reduceSub, Int.reduceNeg, Int.reduceBEq, Int.reduceBNe, Int.reduceMul, Int.natCast_add, Int.natCast_one, reduceCtorEq, reduceIte, s_isAgg, s_cells, t_isAgg, t_cells, w_isAgg, w_cells, yRules]
  refine callG_pure (v := .d (.int .i64 (checkF l))) (fun hg => ?_) ?_
  · have hg : l.length ≤ 60 := by simp at hg; omega
    exact c16 l (by omega)
  simp only [vcRules, dRules, bRules, tyRules, xRules, pickV_true, pickV_false, implies_true, Nat.reduceLT, Nat.reduceLeDiff, Nat.reduceEqDiff, Nat.reduceAdd, Nat.reduceSub, Nat.reduceMul, Int.reduceToNat, Int.reduceLT, Int.reduceLE, Int.reduceEq, Int.reduceAdd, Int.reduceSub, Int.reduceNeg, Int.reduceBEq, Int.reduceBNe, Int.reduceMul, Int.natCast_add, Int.natCast_one, reduceCtorEq, reduceIte, s_isAgg, s_cells, t_isAgg, t_cells, w_isAgg, w_cells, yRules]
  repeat ((with_reducible refine And.intro ?_ ?_); (focus (first | omega | (simp only [List.length_take, List.length_drop, List.length_map, List.length_append, List.length_cons]; omega) | (intros; simp_all; done) | (refine (show drawChk _ = true from ?_); kernel_rfl))))
  refine ifC.mk (fun h => ?_) (fun h => ?_)
  · refine callF_pure c10 ?_
    simp only [vcRules, dRules, bRules, tyRules, xRules, pickV_true, pickV_false, implies_true, Nat.reduceLT, Nat.reduceLeDiff, Nat.reduceEqDiff, Nat.reduceAdd, Nat.reduceSub, Nat.reduceMul, Int.reduceToNat, Int.reduceLT, Int.reduceLE, Int.reduceEq, Int.reduceAdd, Int.reduceSub, Int.reduceNeg, Int.reduceBEq, Int.reduceBNe, Int.reduceMul, Int.natCast_add, Int.natCast_one, reduceCtorEq, reduceIte, s_isAgg, s_cells, t_isAgg, t_cells, w_isAgg, w_cells, yRules]
    exact ⟨_, _, ret_d, rfl, rfl⟩
  · simp only [Bool.or_eq_false_iff, decide_eq_false_iff_not, bne_eq_false_iff_eq] at h
    have hl : l.length ≤ 60 := by omega
    have hck := h.2
    have hv := check_in hck
    (try simp only [vcRules, dRules, bRules, tyRules, xRules, pickV_true, pickV_false, implies_true, Nat.reduceLT, Nat.reduceLeDiff, Nat.reduceEqDiff, Nat.reduceAdd, Nat.reduceSub, Nat.reduceMul, Int.reduceToNat, Int.reduceLT, Int.reduceLE, Int.reduceEq, Int.reduceAdd, Int.reduceSub, Int.reduceNeg, Int.reduceBEq, Int.reduceBNe, Int.reduceMul, Int.natCast_add, Int.natCast_one, reduceCtorEq, reduceIte, s_isAgg, s_cells, t_isAgg, t_cells, w_isAgg, w_cells, yRules])
    refine for_of l.length (fun k => [(0, .d (.sl (l.map StepT.toD))), (2, .d (.int .i64 m)), (4, .ptr 0 0), (7, .d (.int .i64 k))]) (fun _ => [.box 2 (.d (wD f t))]) (fun _ => True) trivial ?_ ?_
    · refine weak_to [] [0] rfl (by simp) ?_ rfl
      simp only [vcRules, dRules, bRules, tyRules, xRules, pickV_true, pickV_false, implies_true, Nat.reduceLT, Nat.reduceLeDiff, Nat.reduceEqDiff, Nat.reduceAdd, Nat.reduceSub, Nat.reduceMul, Int.reduceToNat, Int.reduceLT, Int.reduceLE, Int.reduceEq, Int.reduceAdd, Int.reduceSub, Int.reduceNeg, Int.reduceBEq, Int.reduceBNe, Int.reduceMul, Int.natCast_add, Int.natCast_one, reduceCtorEq, reduceIte, s_isAgg, s_cells, t_isAgg, t_cells, w_isAgg, w_cells, yRules, Int.cast_ofNat_Int]
    · intro k _ hk
      by_cases h : k < l.length
      · obtain ⟨b, hb⟩ : ∃ b, b = l.getD k default := ⟨_, rfl⟩
        simp only [vcRules, dRules, bRules, tyRules, xRules, pickV_true, pickV_false, implies_true, Nat.reduceLT, Nat.reduceLeDiff, Nat.reduceEqDiff, Nat.reduceAdd, Nat.reduceSub, Nat.reduceMul, Int.reduceToNat, Int.reduceLT, Int.reduceLE, Int.reduceEq, Int.reduceAdd, Int.reduceSub, Int.reduceNeg, Int.reduceBEq, Int.reduceBNe, Int.reduceMul, Int.natCast_add, Int.natCast_one, reduceCtorEq, reduceIte, s_isAgg, s_cells, t_isAgg, t_cells, w_isAgg, w_cells, yRules, (show (k:Int) < l.length by omega), h, a_getD _ _ _ (show k < l.length by omega), ← hb]
        repeat ((with_reducible refine And.intro ?_ ?_); (focus (first | omega | (simp only [List.length_take, List.length_drop, List.length_map, List.length_append, List.length_cons]; omega) | (intros; simp_all; done) | (refine (show drawChk _ = true from ?_); kernel_rfl))))
        refine ifC.mk (fun hm => ?_) (fun hm => ?_)
        · simp only [Bool.and_eq_true, decide_eq_true_eq] at hm
          have ho := one_int hck b.name hm
          refine callF_pure (c15 l b.name m (by omega)) ?_
          simp only [vcRules, dRules, bRules, tyRules, xRules, pickV_true, pickV_false, implies_true, Nat.reduceLT, Nat.reduceLeDiff, Nat.reduceEqDiff, Nat.reduceAdd, Nat.reduceSub, Nat.reduceMul, Int.reduceToNat, Int.reduceLT, Int.reduceLE, Int.reduceEq, Int.reduceAdd, Int.reduceSub, Int.reduceNeg, Int.reduceBEq, Int.reduceBNe, Int.reduceMul, Int.natCast_add, Int.natCast_one, reduceCtorEq, reduceIte, s_isAgg, s_cells, t_isAgg, t_cells, w_isAgg, w_cells, yRules, @a_wrap (m + 1) (by omega)]
          repeat ((with_reducible refine And.intro ?_ ?_); (focus (first | omega | (simp only [List.length_take, List.length_drop, List.length_map, List.length_append, List.length_cons]; omega) | (intros; simp_all; done) | (refine (show drawChk _ = true from ?_); kernel_rfl))))
          refine callF_pure (c20 l b.name m (m + 1) hl hv) ?_
          have hat := at_none l b.name m l.length
          rw [ho]
          simp only [vcRules, dRules, bRules, tyRules, xRules, pickV_true, pickV_false, implies_true, Nat.reduceLT, Nat.reduceLeDiff, Nat.reduceEqDiff, Nat.reduceAdd, Nat.reduceSub, Nat.reduceMul, Int.reduceToNat, Int.reduceLT, Int.reduceLE, Int.reduceEq, Int.reduceAdd, Int.reduceSub, Int.reduceNeg, Int.reduceBEq, Int.reduceBNe, Int.reduceMul, Int.natCast_add, Int.natCast_one, reduceCtorEq, reduceIte, s_isAgg, s_cells, t_isAgg, t_cells, w_isAgg, w_cells, yRules, bne_self_eq_false]
          repeat ((with_reducible refine And.intro ?_ ?_); (focus (first | omega | (simp only [List.length_take, List.length_drop, List.length_map, List.length_append, List.length_cons]; omega) | (intros; simp_all; done) | (refine (show drawChk _ = true from ?_); kernel_rfl))))
          refine ifC.mk (fun h3 => ?_) (fun h3 => ?_)
          · exfalso
            simp only [Bool.and_eq_true, Bool.not_eq_true', bne_iff_ne] at h3
            exact h3.2 (hat h3.1)
          · (try simp only [vcRules, dRules, bRules, tyRules, xRules, pickV_true, pickV_false, implies_true, Nat.reduceLT, Nat.reduceLeDiff, Nat.reduceEqDiff, Nat.reduceAdd, Nat.reduceSub, Nat.reduceMul, Int.reduceToNat, Int.reduceLT, Int.reduceLE, Int.reduceEq, Int.reduceAdd, Int.reduceSub, Int.reduceNeg, Int.reduceBEq, Int.reduceBNe, Int.reduceMul, Int.natCast_add, Int.natCast_one, reduceCtorEq, reduceIte, s_isAgg, s_cells, t_isAgg, t_cells, w_isAgg, w_cells, yRules])
            repeat ((with_reducible refine And.intro ?_ ?_); (focus (first | omega | (simp only [List.length_take, List.length_drop, List.length_map, List.length_append, List.length_cons]; omega) | (intros; simp_all; done) | (refine (show drawChk _ = true from ?_); kernel_rfl))))
            refine callF_pure (c20 l b.name f m hl hv) ?_
            simp only [vcRules, dRules, bRules, tyRules, xRules, pickV_true, pickV_false, implies_true, Nat.reduceLT, Nat.reduceLeDiff, Nat.reduceEqDiff, Nat.reduceAdd, Nat.reduceSub, Nat.reduceMul, Int.reduceToNat, Int.reduceLT, Int.reduceLE, Int.reduceEq, Int.reduceAdd, Int.reduceSub, Int.reduceNeg, Int.reduceBEq, Int.reduceBNe, Int.reduceMul, Int.natCast_add, Int.natCast_one, reduceCtorEq, reduceIte, s_isAgg, s_cells, t_isAgg, t_cells, w_isAgg, w_cells, yRules]
            repeat ((with_reducible refine And.intro ?_ ?_); (focus (first | omega | (simp only [List.length_take, List.length_drop, List.length_map, List.length_append, List.length_cons]; omega) | (intros; simp_all; done) | (refine (show drawChk _ = true from ?_); kernel_rfl))))
            refine callF_pure (c20 l b.name m t hl hv) ?_
            simp only [vcRules, dRules, bRules, tyRules, xRules, pickV_true, pickV_false, implies_true, Nat.reduceLT, Nat.reduceLeDiff, Nat.reduceEqDiff, Nat.reduceAdd, Nat.reduceSub, Nat.reduceMul, Int.reduceToNat, Int.reduceLT, Int.reduceLE, Int.reduceEq, Int.reduceAdd, Int.reduceSub, Int.reduceNeg, Int.reduceBEq, Int.reduceBNe, Int.reduceMul, Int.natCast_add, Int.natCast_one, reduceCtorEq, reduceIte, s_isAgg, s_cells, t_isAgg, t_cells, w_isAgg, w_cells, yRules]
            repeat ((with_reducible refine And.intro ?_ ?_); (focus (first | omega | (simp only [List.length_take, List.length_drop, List.length_map, List.length_append, List.length_cons]; omega) | (intros; simp_all; done) | (refine (show drawChk _ = true from ?_); kernel_rfl))))
            refine callF_pure (c20 l b.name f t hl hv) ?_
            have pl := parts_law (l := l) (name := b.name) (f := f) (m := m) (t := t)
            simp only [vcRules, dRules, bRules, tyRules, xRules, pickV_true, pickV_false, implies_true, Nat.reduceLT, Nat.reduceLeDiff, Nat.reduceEqDiff, Nat.reduceAdd, Nat.reduceSub, Nat.reduceMul, Int.reduceToNat, Int.reduceLT, Int.reduceLE, Int.reduceEq, Int.reduceAdd, Int.reduceSub, Int.reduceNeg, Int.reduceBEq, Int.reduceBNe, Int.reduceMul, Int.natCast_add, Int.natCast_one, reduceCtorEq, reduceIte, s_isAgg, s_cells, t_isAgg, t_cells, w_isAgg, w_cells, yRules]
            repeat ((with_reducible refine And.intro ?_ ?_); (focus (first | omega | (simp only [List.length_take, List.length_drop, List.length_map, List.length_append, List.length_cons]; omega) | (intros; simp_all; done) | (refine (show drawChk _ = true from ?_); kernel_rfl))))
            refine ifC.mk (fun h4 => ?_) (fun h4 => ?_)
            · exfalso
              simp only [Bool.and_eq_true, bne_iff_ne] at h4
              exact h4.2 (pl h4.1.1.1 h4.1.1.2 h4.1.2)
            · refine weak_to [] [0] rfl (by simp) ?_ rfl
              simp only [vcRules, dRules, bRules, tyRules, xRules, pickV_true, pickV_false, implies_true, Nat.reduceLT, Nat.reduceLeDiff, Nat.reduceEqDiff, Nat.reduceAdd, Nat.reduceSub, Nat.reduceMul, Int.reduceToNat, Int.reduceLT, Int.reduceLE, Int.reduceEq, Int.reduceAdd, Int.reduceSub, Int.reduceNeg, Int.reduceBEq, Int.reduceBNe, Int.reduceMul, Int.natCast_add, Int.natCast_one, reduceCtorEq, reduceIte, s_isAgg, s_cells, t_isAgg, t_cells, w_isAgg, w_cells, yRules, @a_wrap ((k:Int) + 1) (by omega)]
        · (try simp only [vcRules, dRules, bRules, tyRules, xRules, pickV_true, pickV_false, implies_true, Nat.reduceLT, Nat.reduceLeDiff, Nat.reduceEqDiff, Nat.reduceAdd, Nat.reduceSub, Nat.reduceMul, Int.reduceToNat, Int.reduceLT, Int.reduceLE, Int.reduceEq, Int.reduceAdd, Int.reduceSub, Int.reduceNeg, Int.reduceBEq, Int.reduceBNe, Int.reduceMul, Int.natCast_add, Int.natCast_one, reduceCtorEq, reduceIte, s_isAgg, s_cells, t_isAgg, t_cells, w_isAgg, w_cells, yRules])
          repeat ((with_reducible refine And.intro ?_ ?_); (focus (first | omega | (simp only [List.length_take, List.length_drop, List.length_map, List.length_append, List.length_cons]; omega) | (intros; simp_all; done) | (refine (show drawChk _ = true from ?_); kernel_rfl))))
          refine callF_pure (c20 l b.name f m hl hv) ?_
          simp only [vcRules, dRules, bRules, tyRules, xRules, pickV_true, pickV_false, implies_true, Nat.reduceLT, Nat.reduceLeDiff, Nat.reduceEqDiff, Nat.reduceAdd, Nat.reduceSub, Nat.reduceMul, Int.reduceToNat, Int.reduceLT, Int.reduceLE, Int.reduceEq, Int.reduceAdd, Int.reduceSub, Int.reduceNeg, Int.reduceBEq, Int.reduceBNe, Int.reduceMul, Int.natCast_add, Int.natCast_one, reduceCtorEq, reduceIte, s_isAgg, s_cells, t_isAgg, t_cells, w_isAgg, w_cells, yRules]
          repeat ((with_reducible refine And.intro ?_ ?_); (focus (first | omega | (simp only [List.length_take, List.length_drop, List.length_map, List.length_append, List.length_cons]; omega) | (intros; simp_all; done) | (refine (show drawChk _ = true from ?_); kernel_rfl))))
          refine callF_pure (c20 l b.name m t hl hv) ?_
          simp only [vcRules, dRules, bRules, tyRules, xRules, pickV_true, pickV_false, implies_true, Nat.reduceLT, Nat.reduceLeDiff, Nat.reduceEqDiff, Nat.reduceAdd, Nat.reduceSub, Nat.reduceMul, Int.reduceToNat, Int.reduceLT, Int.reduceLE, Int.reduceEq, Int.reduceAdd, Int.reduceSub, Int.reduceNeg, Int.reduceBEq, Int.reduceBNe, Int.reduceMul, Int.natCast_add, Int.natCast_one, reduceCtorEq, reduceIte, s_isAgg, s_cells, t_isAgg, t_cells, w_isAgg, w_cells, yRules]
          repeat ((with_reducible refine And.intro ?_ ?_); (focus (first | omega | (simp only [List.length_take, List.length_drop, List.length_map, List.length_append, List.length_cons]; omega) | (intros; simp_all; done) | (refine (show drawChk _ = true from ?_); kernel_rfl))))
          refine callF_pure (c20 l b.name f t hl hv) ?_
          have pl := parts_law (l := l) (name := b.name) (f := f) (m := m) (t := t)
          simp only [vcRules, dRules, bRules, tyRules, xRules, pickV_true, pickV_false, implies_true, Nat.reduceLT, Nat.reduceLeDiff, Nat.reduceEqDiff, Nat.reduceAdd, Nat.reduceSub, Nat.reduceMul, Int.reduceToNat, Int.reduceLT, Int.reduceLE, Int.reduceEq, Int.reduceAdd, Int.reduceSub, Int.reduceNeg, Int.reduceBEq, Int.reduceBNe, Int.reduceMul, Int.natCast_add, Int.natCast_one, reduceCtorEq, reduceIte, s_isAgg, s_cells, t_isAgg, t_cells, w_isAgg, w_cells, yRules]
          repeat ((with_reducible refine And.intro ?_ ?_); (focus (first | omega | (simp only [List.length_take, List.length_drop, List.length_map, List.length_append, List.length_cons]; omega) | (intros; simp_all; done) | (refine (show drawChk _ = true from ?_); kernel_rfl))))
          refine ifC.mk (fun h4 => ?_) (fun h4 => ?_)
          · exfalso
            simp only [Bool.and_eq_true, bne_iff_ne] at h4
            exact h4.2 (pl h4.1.1.1 h4.1.1.2 h4.1.2)
          · refine weak_to [] [0] rfl (by simp) ?_ rfl
            simp only [vcRules, dRules, bRules, tyRules, xRules, pickV_true, pickV_false, implies_true, Nat.reduceLT, Nat.reduceLeDiff, Nat.reduceEqDiff, Nat.reduceAdd, Nat.reduceSub, Nat.reduceMul, Int.reduceToNat, Int.reduceLT, Int.reduceLE, Int.reduceEq, Int.reduceAdd, Int.reduceSub, Int.reduceNeg, Int.reduceBEq, Int.reduceBNe, Int.reduceMul, Int.natCast_add, Int.natCast_one, reduceCtorEq, reduceIte, s_isAgg, s_cells, t_isAgg, t_cells, w_isAgg, w_cells, yRules, @a_wrap ((k:Int) + 1) (by omega)]
      · have : k = l.length := by omega
        subst this
        simp only [vcRules, dRules, bRules, tyRules, xRules, pickV_true, pickV_false, implies_true, Nat.reduceLT, Nat.reduceLeDiff, Nat.reduceEqDiff, Nat.reduceAdd, Nat.reduceSub, Nat.reduceMul, Int.reduceToNat, Int.reduceLT, Int.reduceLE, Int.reduceEq, Int.reduceAdd, Int.reduceSub, Int.reduceNeg, Int.reduceBEq, Int.reduceBNe, Int.reduceMul, Int.natCast_add, Int.natCast_one, reduceCtorEq, reduceIte, s_isAgg, s_cells, t_isAgg, t_cells, w_isAgg, w_cells, yRules, (show ¬ (l.length:Int) < l.length by omega)]
        refine callF_pure c10 ?_
        simp only [vcRules, dRules, bRules, tyRules, xRules, pickV_true, pickV_false, implies_true, Nat.reduceLT, Nat.reduceLeDiff, Nat.reduceEqDiff, Nat.reduceAdd, Nat.reduceSub, Nat.reduceMul, Int.reduceToNat, Int.reduceLT, Int.reduceLE, Int.reduceEq, Int.reduceAdd, Int.reduceSub, Int.reduceNeg, Int.reduceBEq, Int.reduceBNe, Int.reduceMul, Int.natCast_add, Int.natCast_one, reduceCtorEq, reduceIte, s_isAgg, s_cells, t_isAgg, t_cells, w_isAgg, w_cells, yRules]
        exact ⟨_, _, ret_d, rfl, rfl⟩
theorem parts_main (xs : List D) (h : TypedAll Try.prog 5 Try.f8.params.toList xs) : ACalls Try.prog [] 8 (xs.map AV.d) [] (fun r _ => r = .d (.bool true)) := by
  rw [Try.params8] at h
  obtain ⟨x, _, rfl, h1, y, _, rfl, h2, z, _, rfl, h3, rfl⟩ := h
  obtain ⟨l, rfl, _⟩ := par25 h1
  obtain ⟨f, t, rfl⟩ := par50 h2
  obtain ⟨m, rfl, _⟩ := par3 h3
  exact (c8 l f t m []).mono fun r s h => h.1
theorem counterParts_lifted (os : Os) (started : os.Started) (H : Type) (enc : TypeId × Value → H) :
    ReturnsInHanded {} Try.checked os 8 .any (Rows.counterPartsSpec.pre6 enc Try.prog Try.f8 Rows.counterPartsRow.domain false) (Rows.counterPartsSpec.post enc Try.prog Try.f8 false true false false) := by
  refine returnsInHanded_of_change (C := Try.checked) own started (by kernel_rfl) Try.func8
    (ChangeSpec.witness6 (enc := enc) (C := Try.checked) false ⟨#[], #[.slice none 0 0, .agg #[.int .i64 0, .int .i64 0], .int .i64 0], []⟩ 8 (by kernel_rfl) (by kernel_rfl) (by kernel_rfl) (by kernel_rfl)) ?_
  intro W base args ds gs before hval hW _ _
  exact law_contract (n := 5) (tb := 4) Try.func8 rfl rfl (by kernel_rfl) laidOut (by kernel_rfl) (by kernel_rfl) rfl
    (fun H ds h => by
      match ds, h with
      | [d1, d2, d3], _ => rfl) parts_main W base args ds gs before hval hW
theorem counterParts_holds : Rows.CounterPartsSaid :=
  OpenClaim.holds_of_wide 8 Try.f8 rfl rfl rfl rfl rfl rfl rfl ⟨rfl, rfl, rfl, rfl, rfl⟩ rfl rfl rfl rfl rfl (by kernel_rfl) Try.func8 (by kernel_rfl)
    (of_decide_eq_true (by kernel_rfl)) (by unfold Func.isWrapper; first | (rw [if_pos (by decide +kernel)]; kernel_rfl) | (rw [if_neg (by decide +kernel)]; exact ⟨rfl, rfl⟩))
    (fun os started H enc _ => counterParts_lifted os started H enc)
end Ytlelaieadgkemaa
end Go.Proofs
