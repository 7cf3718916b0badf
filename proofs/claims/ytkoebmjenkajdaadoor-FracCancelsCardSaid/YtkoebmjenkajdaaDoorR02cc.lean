/- A part of the proof: contracts of functions of this seat, and lemmas. No condition beyond those stated. -/
import Derived.Test.YtkoebmjenkajdaaDoorR02cb
set_option linter.unusedVariables false
set_option linter.unusedSimpArgs false
set_option linter.unusedSectionVars false
set_option linter.unnecessarySimpa false
set_option linter.unusedSimpArgs false
set_option linter.unusedVariables false
set_option maxRecDepth 100000
namespace Go.Proofs
open Go.AM
namespace YtkoebmjenkajdaaDoor
theorem c8 (l : List FracT) (hin : ∀ a ∈ l, a.In) : Pure Tryd.prog G2 8 [.d (.sl (l.map FracT.toD))] (.d (.bool true)) := by
  refine Pure.of1 ?_
  have tt : ∀ x : Bool, (x == x) = true := fun x => by cases x <;> rfl
  refine acalls_of Tryd.func8 rfl rfl (by simp [Tryd.ntmps8]) (evC_sound rfl _ _ _ _ ?_)
  simp only [Tryd.ntmps8, Tryd.results8, argEnv, List.length_nil]
  simp only [vcRules, dRules, bRules, tyRules, xRules, pickV_true, pickV_false, implies_true, Nat.reduceLT, Nat.reduceLeDiff, Nat.reduceEqDiff, Nat.reduceAdd, Nat.reduceSub, Nat.reduceMul, Int.reduceToNat, Int.reduceLT, Int.reduceLE, Int.reduceEq, Int.reduceAdd, Int.reduceSub, Int.reduceNeg, Int.reduceBEq, Int.reduceBNe, Int.reduceMul, Int.natCast_add, Int.natCast_one, reduceCtorEq, reduceIte, wN_isAgg, wN_cells, f_isAgg, f_cells, cRules, yRules]
  refine ifC.mk (fun hc => ?_) (fun hc => ?_)
  · refine callF_pure c14 ?_
    simp only [vcRules, dRules, bRules, tyRules, xRules, pickV_true, pickV_false, implies_true, Nat.reduceLT, Nat.reduceLeDiff, Nat.reduceEqDiff, Nat.reduceAdd, Nat.reduceSub, Nat.reduceMul, Int.reduceToNat, Int.reduceLT, Int.reduceLE, Int.reduceEq, Int.reduceAdd, Int.reduceSub, Int.reduceNeg, Int.reduceBEq, Int.reduceBNe, Int.reduceMul, Int.natCast_add, Int.natCast_one, reduceCtorEq, reduceIte, wN_isAgg, wN_cells, f_isAgg, f_cells, cRules, yRules]
    exact ⟨_, _, ret_d, rfl, rfl⟩
  · have hc : l.length ≤ 200 := by have := of_decide_eq_false hc; omega
    have k1 := c18 (Gl := G2) l hin
    simp only [resD] at k1
    refine callF_pure k1 ?_
    simp only [vcRules, dRules, bRules, tyRules, xRules, pickV_true, pickV_false, implies_true, Nat.reduceLT, Nat.reduceLeDiff, Nat.reduceEqDiff, Nat.reduceAdd, Nat.reduceSub, Nat.reduceMul, Int.reduceToNat, Int.reduceLT, Int.reduceLE, Int.reduceEq, Int.reduceAdd, Int.reduceSub, Int.reduceNeg, Int.reduceBEq, Int.reduceBNe, Int.reduceMul, Int.natCast_add, Int.natCast_one, reduceCtorEq, reduceIte, wN_isAgg, wN_cells, f_isAgg, f_cells, cRules, yRules]
    repeat ((with_reducible refine And.intro ?_ ?_); (focus (first | omega | (simp only [List.length_take, List.length_drop, List.length_map, List.length_append, List.length_cons]; omega) | (refine (show quietOp _ = true from ?_); rfl) | (refine (show drawOk _ _ _ _ _ _ from Or.inl ?_); kernel_rfl) | (intros; simp_all; done))))
    refine ifC.mk (fun h4 => ?_) (fun h4 => ?_)
    · refine callF_pure c14 ?_
      simp only [vcRules, dRules, bRules, tyRules, xRules, pickV_true, pickV_false, implies_true, Nat.reduceLT, Nat.reduceLeDiff, Nat.reduceEqDiff, Nat.reduceAdd, Nat.reduceSub, Nat.reduceMul, Int.reduceToNat, Int.reduceLT, Int.reduceLE, Int.reduceEq, Int.reduceAdd, Int.reduceSub, Int.reduceNeg, Int.reduceBEq, Int.reduceBNe, Int.reduceMul, Int.natCast_add, Int.natCast_one, reduceCtorEq, reduceIte, wN_isAgg, wN_cells, f_isAgg, f_cells, cRules, yRules]
      exact ⟨_, _, ret_d, rfl, rfl⟩
    · have hok : (sumL l).2 = true ∧ l ≠ [] := by
        have := Bool.eq_false_iff.1 h4
        simp only [ne_eq, Bool.or_eq_true, Bool.not_eq_true', beq_iff_eq, not_or] at this
        refine ⟨by simpa using this.1, fun h => this.2 (by rw [h]; rfl)⟩
      have hx : ∃ h t, l = h :: t := by
        cases l with
        | nil => exact absurd rfl hok.2
        | cons h t => exact ⟨h, t, rfl⟩
      repeat ((with_reducible refine And.intro ?_ ?_); (focus (first | omega | (simp only [List.length_take, List.length_drop, List.length_map, List.length_append, List.length_cons]; omega) | (refine (show quietOp _ = true from ?_); rfl) | (refine (show drawOk _ _ _ _ _ _ from Or.inl ?_); kernel_rfl) | (intros; simp_all; done))))
      refine for_of l.length (fun k => [(0, .d (.sl (l.map FracT.toD))), (3, .ptr 0 0), (4, .d (.bool (sumL l).2)), (5, .osl 1 0 (l.length + k)), (6, .d (.int .i64 k))]) (fun k => [.box 2 (.d (sumL l).1.toD), .arr 2 ((l ++ (negsF l).take k).map FracT.toD)]) (fun _ => True) trivial ?_ ?_
      · refine weak_to [] [0, 2] rfl (by simp) ?_ ?_
        · simp only [vcRules, dRules, bRules, tyRules, xRules, pickV_true, pickV_false, implies_true, Nat.reduceLT, Nat.reduceLeDiff, Nat.reduceEqDiff, Nat.reduceAdd, Nat.reduceSub, Nat.reduceMul, Int.reduceToNat, Int.reduceLT, Int.reduceLE, Int.reduceEq, Int.reduceAdd, Int.reduceSub, Int.reduceNeg, Int.reduceBEq, Int.reduceBNe, Int.reduceMul, Int.natCast_add, Int.natCast_one, reduceCtorEq, reduceIte, wN_isAgg, wN_cells, f_isAgg, f_cells, cRules, yRules, Int.cast_ofNat_Int, Nat.add_zero]
        · simp only [vcRules, dRules, bRules, tyRules, xRules, pickV_true, pickV_false, implies_true, Nat.reduceLT, Nat.reduceLeDiff, Nat.reduceEqDiff, Nat.reduceAdd, Nat.reduceSub, Nat.reduceMul, Int.reduceToNat, Int.reduceLT, Int.reduceLE, Int.reduceEq, Int.reduceAdd, Int.reduceSub, Int.reduceNeg, Int.reduceBEq, Int.reduceBNe, Int.reduceMul, Int.natCast_add, Int.natCast_one, reduceCtorEq, reduceIte, wN_isAgg, wN_cells, f_isAgg, f_cells, cRules, yRules, List.take_zero, List.append_nil]
          rfl
      · intro k _ hk
        have hnl : (negsF l).length = l.length := by simp [negsF]
        have hal : ((l ++ (negsF l).take k).map FracT.toD).length = l.length + k := by rw [List.length_map, List.length_append, List.length_take, hnl]; omega
        by_cases h : k < l.length
        · obtain ⟨x, hx⟩ : ∃ x, x = l.getD k default := ⟨_, rfl⟩
          have hg : (negsF l).getD k default = negF x := by
            rw [List.getD_eq_getElem?_getD, hx, List.getD_eq_getElem?_getD]
            unfold negsF
            rw [List.getElem?_map, List.getElem?_eq_getElem h]; rfl
          rw [take_step _ _ (show k < (negsF l).length by omega), hg, ← List.append_assoc]
          simp only [vcRules, dRules, bRules, tyRules, xRules, pickV_true, pickV_false, implies_true, Nat.reduceLT, Nat.reduceLeDiff, Nat.reduceEqDiff, Nat.reduceAdd, Nat.reduceSub, Nat.reduceMul, Int.reduceToNat, Int.reduceLT, Int.reduceLE, Int.reduceEq, Int.reduceAdd, Int.reduceSub, Int.reduceNeg, Int.reduceBEq, Int.reduceBNe, Int.reduceMul, Int.natCast_add, Int.natCast_one, reduceCtorEq, reduceIte, wN_isAgg, wN_cells, f_isAgg, f_cells, cRules, yRules, (show (k:Int) < l.length by omega), h, a_getD _ _ _ (show k < l.length by omega), ← hx]
          repeat ((with_reducible refine And.intro ?_ ?_); (focus (first | omega | (simp only [List.length_take, List.length_drop, List.length_map, List.length_append, List.length_cons]; omega) | (refine (show quietOp _ = true from ?_); rfl) | (refine (show drawOk _ _ _ _ _ _ from Or.inl ?_); kernel_rfl) | (intros; simp_all; done))))
          refine callF_pure (c21 (IntKind.i64.wrap (0 - x.n)) x.q) ?_
          simp only [vcRules, dRules, bRules, tyRules, xRules, pickV_true, pickV_false, implies_true, Nat.reduceLT, Nat.reduceLeDiff, Nat.reduceEqDiff, Nat.reduceAdd, Nat.reduceSub, Nat.reduceMul, Int.reduceToNat, Int.reduceLT, Int.reduceLE, Int.reduceEq, Int.reduceAdd, Int.reduceSub, Int.reduceNeg, Int.reduceBEq, Int.reduceBNe, Int.reduceMul, Int.natCast_add, Int.natCast_one, reduceCtorEq, reduceIte, wN_isAgg, wN_cells, f_isAgg, f_cells, cRules, yRules]
          repeat ((with_reducible refine And.intro ?_ ?_); (focus (first | omega | (simp only [List.length_take, List.length_drop, List.length_map, List.length_append, List.length_cons]; omega) | (refine (show quietOp _ = true from ?_); rfl) | (refine (show drawOk _ _ _ _ _ _ from Or.inl ?_); kernel_rfl) | (intros; simp_all; done))))
          refine weak_to [] [0, 3] rfl (by simp) ?_ ?_
          · simp only [vcRules, dRules, bRules, tyRules, xRules, pickV_true, pickV_false, implies_true, Nat.reduceLT, Nat.reduceLeDiff, Nat.reduceEqDiff, Nat.reduceAdd, Nat.reduceSub, Nat.reduceMul, Int.reduceToNat, Int.reduceLT, Int.reduceLE, Int.reduceEq, Int.reduceAdd, Int.reduceSub, Int.reduceNeg, Int.reduceBEq, Int.reduceBNe, Int.reduceMul, Int.natCast_add, Int.natCast_one, reduceCtorEq, reduceIte, wN_isAgg, wN_cells, f_isAgg, f_cells, cRules, yRules, @a_wrap ((k:Int) + 1) (by omega), Nat.add_assoc]
          · rw [List.map_append] at hal
            simp only [vcRules, dRules, bRules, tyRules, xRules, pickV_true, pickV_false, implies_true, Nat.reduceLT, Nat.reduceLeDiff, Nat.reduceEqDiff, Nat.reduceAdd, Nat.reduceSub, Nat.reduceMul, Int.reduceToNat, Int.reduceLT, Int.reduceLE, Int.reduceEq, Int.reduceAdd, Int.reduceSub, Int.reduceNeg, Int.reduceBEq, Int.reduceBNe, Int.reduceMul, Int.natCast_add, Int.natCast_one, reduceCtorEq, reduceIte, wN_isAgg, wN_cells, f_isAgg, f_cells, cRules, yRules, List.map_append, take_allF (l.map FracT.toD ++ ((negsF l).take k).map FracT.toD) (l.length + k) hal.symm, List.append_assoc]
            rfl
        · have : k = l.length := by omega
          subst this
          have ett : (negsF l).take l.length = negsF l := by rw [← hnl]; exact List.take_length
          rw [ett] at hal ⊢
          have k2 := c18 (Gl := G2) (l ++ negsF l) (fun a ha => by
            rcases List.mem_append.1 ha with ha | ha
            · exact hin a ha
            · obtain ⟨b, hb, rfl⟩ := List.mem_map.1 ha
              have hbi := hin b hb
              refine ⟨?_, ?_, hbi.d1, hbi.d2⟩
              · show -9223372036854775808 ≤ IntKind.i64.wrap (0 - b.n)
                rw [IntKind.wrap_i64]; omega
              · show IntKind.i64.wrap (0 - b.n) ≤ 9223372036854775807
                rw [IntKind.wrap_i64]; omega)
          rw [sum_both hc hok.1] at k2
          simp only [resD] at k2
          have e1 : (([AV.osl 1 0 (l.length + l.length)] : List AV) ++ []).map (dataA [.box 2 (.d (sumL l).1.toD), .arr 2 ((l ++ negsF l).map FracT.toD)]) = [.d (.sl ((l ++ negsF l).map FracT.toD))] := by
            simp only [List.append_nil, List.map_cons, List.map_nil]
            rw [y_dataA_osl 1 0 _ _ rfl]
            show [AV.d (.sl ((((l ++ negsF l).map FracT.toD).drop 0).take _))] = _
            rw [List.drop_zero, take_allF _ _ hal.symm]
          simp only [vcRules, dRules, bRules, tyRules, xRules, pickV_true, pickV_false, implies_true, Nat.reduceLT, Nat.reduceLeDiff, Nat.reduceEqDiff, Nat.reduceAdd, Nat.reduceSub, Nat.reduceMul, Int.reduceToNat, Int.reduceLT, Int.reduceLE, Int.reduceEq, Int.reduceAdd, Int.reduceSub, Int.reduceNeg, Int.reduceBEq, Int.reduceBNe, Int.reduceMul, Int.natCast_add, Int.natCast_one, reduceCtorEq, reduceIte, wN_isAgg, wN_cells, f_isAgg, f_cells, cRules, yRules, (show ¬ ((l.length : Nat) : Int) < (l.length : Nat) by omega)]
          refine callF_dataE (σ' := [.box 2 (.d (sumL l).1.toD), .frz 2 ((l ++ negsF l).map FracT.toD)]) k2 e1 rfl ?_
          simp only [vcRules, dRules, bRules, tyRules, xRules, pickV_true, pickV_false, implies_true, Nat.reduceLT, Nat.reduceLeDiff, Nat.reduceEqDiff, Nat.reduceAdd, Nat.reduceSub, Nat.reduceMul, Int.reduceToNat, Int.reduceLT, Int.reduceLE, Int.reduceEq, Int.reduceAdd, Int.reduceSub, Int.reduceNeg, Int.reduceBEq, Int.reduceBNe, Int.reduceMul, Int.natCast_add, Int.natCast_one, reduceCtorEq, reduceIte, wN_isAgg, wN_cells, f_isAgg, f_cells, cRules, yRules]
          repeat ((with_reducible refine And.intro ?_ ?_); (focus (first | omega | (simp only [List.length_take, List.length_drop, List.length_map, List.length_append, List.length_cons]; omega) | (refine (show quietOp _ = true from ?_); rfl) | (refine (show drawOk _ _ _ _ _ _ from Or.inl ?_); kernel_rfl) | (intros; simp_all; done))))
          refine callF_pure (c21 0 1) ?_
          have hlen : 0 < l.length := by obtain ⟨h0, t, rfl⟩ := hx; simp
          simp only [vcRules, dRules, bRules, tyRules, xRules, pickV_true, pickV_false, implies_true, Nat.reduceLT, Nat.reduceLeDiff, Nat.reduceEqDiff, Nat.reduceAdd, Nat.reduceSub, Nat.reduceMul, Int.reduceToNat, Int.reduceLT, Int.reduceLE, Int.reduceEq, Int.reduceAdd, Int.reduceSub, Int.reduceNeg, Int.reduceBEq, Int.reduceBNe, Int.reduceMul, Int.natCast_add, Int.natCast_one, reduceCtorEq, reduceIte, wN_isAgg, wN_cells, f_isAgg, f_cells, cRules, yRules, dec_self, Bool.not_true, hok.1]
          have ed : List.drop 1 (List.take l.length (l.map FracT.toD)) = (l.drop 1).map FracT.toD := by rw [take_allF _ _ (by simp), ← List.map_drop]
          have esum : sumL (l.drop 1) = subS (sumL l).1 (l.getD 0 default) := by
            obtain ⟨h0, t, rfl⟩ := hx
            exact sum_rest hc hok.1
          have k3 := c18 (Gl := G2) (l.drop 1) (fun a ha => hin a (List.mem_of_mem_drop ha))
          have hxin : (sumL l).1.In := by
            unfold sumL
            split
            · exact ⟨by decide, by decide, by decide, by decide⟩
            · split
              · exact ⟨by decide, by decide, by decide, by decide⟩
              · exact normS_in _ _ _
          have k4 := c23 (Gl := G2) (sumL l).1 (l.getD 0 default) hxin (hin _ (mem_getD hlen))
          rw [sumP_sub, ← esum] at k4
          simp only [resD] at k3 k4
          obtain ⟨x0, hx0⟩ : ∃ x0, x0 = l.getD 0 default := ⟨_, rfl⟩
          rw [← hx0] at k4
          rw [ed]
          repeat ((with_reducible refine And.intro ?_ ?_); (focus (first | omega | (simp only [List.length_take, List.length_drop, List.length_map, List.length_append, List.length_cons]; omega) | (refine (show quietOp _ = true from ?_); rfl) | (refine (show drawOk _ _ _ _ _ _ from Or.inl ?_); kernel_rfl) | (intros; simp_all; done))))
          refine callF_pure k3 ?_
          simp only [vcRules, dRules, bRules, tyRules, xRules, pickV_true, pickV_false, implies_true, Nat.reduceLT, Nat.reduceLeDiff, Nat.reduceEqDiff, Nat.reduceAdd, Nat.reduceSub, Nat.reduceMul, Int.reduceToNat, Int.reduceLT, Int.reduceLE, Int.reduceEq, Int.reduceAdd, Int.reduceSub, Int.reduceNeg, Int.reduceBEq, Int.reduceBNe, Int.reduceMul, Int.natCast_add, Int.natCast_one, reduceCtorEq, reduceIte, wN_isAgg, wN_cells, f_isAgg, f_cells, cRules, yRules, (show (0:Int) < l.length by omega), hlen, a_getD _ _ _ (show 0 < l.length by omega), ← hx0]
          repeat ((with_reducible refine And.intro ?_ ?_); (focus (first | omega | (simp only [List.length_take, List.length_drop, List.length_map, List.length_append, List.length_cons]; omega) | (refine (show quietOp _ = true from ?_); rfl) | (refine (show drawOk _ _ _ _ _ _ from Or.inl ?_); kernel_rfl) | (intros; simp_all; done))))
          refine callF_pure k4 ?_
          simp only [vcRules, dRules, bRules, tyRules, xRules, pickV_true, pickV_false, implies_true, Nat.reduceLT, Nat.reduceLeDiff, Nat.reduceEqDiff, Nat.reduceAdd, Nat.reduceSub, Nat.reduceMul, Int.reduceToNat, Int.reduceLT, Int.reduceLE, Int.reduceEq, Int.reduceAdd, Int.reduceSub, Int.reduceNeg, Int.reduceBEq, Int.reduceBNe, Int.reduceMul, Int.natCast_add, Int.natCast_one, reduceCtorEq, reduceIte, wN_isAgg, wN_cells, f_isAgg, f_cells, cRules, yRules, dec_self, tt, Bool.and_true, Bool.true_and]
          repeat ((with_reducible refine And.intro ?_ ?_); (focus (first | omega | (simp only [List.length_take, List.length_drop, List.length_map, List.length_append, List.length_cons]; omega) | (refine (show quietOp _ = true from ?_); rfl) | (refine (show drawOk _ _ _ _ _ _ from Or.inl ?_); kernel_rfl) | (intros; simp_all; done))))
          refine callG_pure (fun _ => c14) ?_
          simp only [vcRules, dRules, bRules, tyRules, xRules, pickV_true, pickV_false, implies_true, Nat.reduceLT, Nat.reduceLeDiff, Nat.reduceEqDiff, Nat.reduceAdd, Nat.reduceSub, Nat.reduceMul, Int.reduceToNat, Int.reduceLT, Int.reduceLE, Int.reduceEq, Int.reduceAdd, Int.reduceSub, Int.reduceNeg, Int.reduceBEq, Int.reduceBNe, Int.reduceMul, Int.natCast_add, Int.natCast_one, reduceCtorEq, reduceIte, wN_isAgg, wN_cells, f_isAgg, f_cells, cRules, yRules, Bool.and_true, Bool.true_and]
          exact ⟨_, _, ret_d, rfl, rfl⟩
end YtkoebmjenkajdaaDoor
end Go.Proofs
