/- A part of the proof: contracts of functions of this seat, and lemmas. No condition beyond those stated. -/
import Derived.Test.YtlelaieadgkemaaM30b
import Derived.Test.YtlelaieadgkemaaG5
set_option linter.unusedVariables false
set_option linter.unusedSimpArgs false
set_option linter.unusedSectionVars false
set_option linter.unnecessarySimpa false
set_option linter.unusedSimpArgs false
set_option linter.unusedVariables false
set_option maxRecDepth 100000
namespace Go.Proofs
open Go.AM
namespace Ytlelaieadgkemaa

def ltN (a b : StepT) : Prop := ltS a.name b.name = true ∨ (a.name = b.name ∧ a.at_ < b.at_)
theorem cmpS_cases (a b : List UInt8) : (ltS a b = true ∧ a ≠ b ∧ ltS b a = false ∧ cmpS a b = -1) ∨ (ltS a b = false ∧ a = b ∧ ltS b a = false ∧ cmpS a b = 0) ∨ (ltS a b = false ∧ a ≠ b ∧ ltS b a = true ∧ cmpS a b = 1) := by
  rcases bl_cases a b with ⟨h1, h2, h3⟩ | ⟨h1, h2, h3⟩ | ⟨h1, h2, h3⟩
  · exact .inl ⟨h1, h2, h3, by unfold cmpS ltS; rw [h1]; rfl⟩
  · exact .inr (.inl ⟨h1, h2, h3, by unfold cmpS ltS; rw [h1, h2]; simp⟩)
  · exact .inr (.inr ⟨h1, h2, h3, by unfold cmpS ltS; rw [h1]; simp [h2]⟩)
theorem cmpI_cases (a b : Int) : (a < b ∧ cmpI a b = -1) ∨ (a = b ∧ cmpI a b = 0) ∨ (b < a ∧ cmpI a b = 1) := by
  unfold cmpI
  by_cases h : a < b
  · exact .inl ⟨h, by rw [if_pos h]⟩
  · by_cases h2 : b < a
    · exact .inr (.inr ⟨h2, by rw [if_neg h, if_pos h2]⟩)
    · exact .inr (.inl ⟨by omega, by rw [if_neg h, if_neg h2]⟩)
theorem order_neg (a b : StepT) : orderF a b < 0 ↔ ltN a b := by
  unfold orderF orF ltN
  rcases cmpS_cases a.name b.name with ⟨h1, h2, h3, h4⟩ | ⟨h1, h2, h3, h4⟩ | ⟨h1, h2, h3, h4⟩
  · rw [h4, h1]; simp
  · rw [h4, h1, if_pos rfl]
    rcases cmpI_cases a.at_ b.at_ with ⟨q, e⟩ | ⟨q, e⟩ | ⟨q, e⟩ <;> rw [e] <;> simp [h2] <;> omega
  · rw [h4, h1]; simp [h2]
theorem order_zero (a b : StepT) : orderF a b = 0 ↔ a.name = b.name ∧ a.at_ = b.at_ := by
  unfold orderF orF
  rcases cmpS_cases a.name b.name with ⟨h1, h2, h3, h4⟩ | ⟨h1, h2, h3, h4⟩ | ⟨h1, h2, h3, h4⟩
  · rw [h4]; simp [h2]
  · rw [h4, if_pos rfl]
    rcases cmpI_cases a.at_ b.at_ with ⟨q, e⟩ | ⟨q, e⟩ | ⟨q, e⟩ <;> rw [e] <;> simp [h2] <;> omega
  · rw [h4]; simp [h2]
theorem ord_ref (a b : StepT) : (ltS b.name a.name || (b.name == a.name && (decide (b.at_ ≤ a.at_) || b.value == a.value))) = ordS a b := by
  have hn := order_neg a b
  have hd : decide (0 ≤ orderF a b) = !decide (orderF a b < 0) := by rw [Bool.eq_iff_iff]; simp
  unfold ordS
  rw [hd]
  rcases cmpS_cases a.name b.name with ⟨h1, h2, h3, _⟩ | ⟨h1, h2, h3, _⟩ | ⟨h1, h2, h3, _⟩
  · have : orderF a b < 0 := hn.2 (.inl h1)
    have h4 : (b.name == a.name) = false := by simpa using fun e => h2 e.symm
    have h5 : (a.name == b.name) = false := by simpa using h2
    rw [show ltS b.name a.name = false from h3, h4, h5]; simp [this]
  · rw [show ltS b.name a.name = false from h3, h2]
    by_cases q : a.at_ < b.at_
    · have : orderF a b < 0 := hn.2 (.inr ⟨h2, q⟩)
      rw [decide_eq_true this]
      have e : decide (b.at_ ≤ a.at_) = false := by simp; omega
      rw [e]; simp
      rw [Bool.eq_iff_iff]; simp; exact ⟨fun h => h.symm, fun h => h.symm⟩
    · have : ¬ orderF a b < 0 := fun h => by
        rcases hn.1 h with h | h
        · rw [h1] at h; cases h
        · exact q h.2
      rw [decide_eq_false this]
      have e : decide (b.at_ ≤ a.at_) = true := by simp; omega
      rw [e]; simp
  · have : ¬ orderF a b < 0 := fun h => by
      rcases hn.1 h with h | h
      · rw [h1] at h; cases h
      · exact h2 h.1
    rw [show ltS b.name a.name = true from h3, decide_eq_false this]; simp

theorem c16 (l : List StepT) (hl : l.length < 1000000) : Pure Try.prog 16 [.d (.sl (l.map StepT.toD))] (.d (.int .i64 (checkF l))) := by
  refine Pure.of1 ?_
  refine acalls_of Try.func16 rfl rfl (by simp [Try.ntmps16]) (evC_sound rfl _ _ _ _ ?_)
  simp only [Try.ntmps16, Try.results16, argEnv, List.length_nil]
  simp only [vcRules, dRules, bRules, tyRules, xRules, pickV_true, pickV_false, implies_true, Nat.reduceLT, Nat.reduceLeDiff, Nat.reduceEqDiff, Nat.reduceAdd, Nat.reduceSub, Nat.reduceMul, Int.reduceToNat, Int.reduceLT, Int.reduceLE, Int.reduceEq, Int.reduceAdd, Int.reduceSub, Int.reduceNeg, Int.reduceBEq, Int.reduceBNe, Int.reduceMul, Int.natCast_add, Int.natCast_one, reduceCtorEq, reduceIte, s_isAgg, s_cells, t_isAgg, t_cells, yRules]
  refine for_of l.length (fun k => [(0, .d (.sl (l.map StepT.toD))), (3, .d (.int .i64 k))]) (fun _ => []) (fun k => firstErr (checkAt l) k = 0) rfl ?_ ?_
  · refine weak_to [] [] rfl List.nodup_nil ?_ rfl
    simp only [vcRules, dRules, bRules, tyRules, xRules, pickV_true, pickV_false, implies_true, Nat.reduceLT, Nat.reduceLeDiff, Nat.reduceEqDiff, Nat.reduceAdd, Nat.reduceSub, Nat.reduceMul, Int.reduceToNat, Int.reduceLT, Int.reduceLE, Int.reduceEq, Int.reduceAdd, Int.reduceSub, Int.reduceNeg, Int.reduceBEq, Int.reduceBNe, Int.reduceMul, Int.natCast_add, Int.natCast_one, reduceCtorEq, reduceIte, s_isAgg, s_cells, t_isAgg, t_cells, yRules, Int.cast_ofNat_Int]
  · intro k hi hk
    by_cases h : k < l.length
    · have hb : ∀ e, checkAt l k = e → e ≠ 0 → checkF l = e := fun e h1 h2 => by rw [checkF, firstErr_at hi (by rw [h1]; exact h2) h, h1]
      obtain ⟨b, eb⟩ : ∃ b, b = l.getD k default := ⟨_, rfl⟩
      simp only [vcRules, dRules, bRules, tyRules, xRules, pickV_true, pickV_false, implies_true, Nat.reduceLT, Nat.reduceLeDiff, Nat.reduceEqDiff, Nat.reduceAdd, Nat.reduceSub, Nat.reduceMul, Int.reduceToNat, Int.reduceLT, Int.reduceLE, Int.reduceEq, Int.reduceAdd, Int.reduceSub, Int.reduceNeg, Int.reduceBEq, Int.reduceBNe, Int.reduceMul, Int.natCast_add, Int.natCast_one, reduceCtorEq, reduceIte, s_isAgg, s_cells, t_isAgg, t_cells, yRules, (show (k:Int) < l.length by omega), h, a_getD _ _ _ (show k < l.length by omega), ← eb]
      refine callF_pure (c31 _) ?_
      simp only [vcRules, dRules, bRules, tyRules, xRules, pickV_true, pickV_false, implies_true, Nat.reduceLT, Nat.reduceLeDiff, Nat.reduceEqDiff, Nat.reduceAdd, Nat.reduceSub, Nat.reduceMul, Int.reduceToNat, Int.reduceLT, Int.reduceLE, Int.reduceEq, Int.reduceAdd, Int.reduceSub, Int.reduceNeg, Int.reduceBEq, Int.reduceBNe, Int.reduceMul, Int.natCast_add, Int.natCast_one, reduceCtorEq, reduceIte, s_isAgg, s_cells, t_isAgg, t_cells, yRules]
      refine ifC.mk (fun h1 => ?_) (fun h1 => ?_)
      · have h1 : nameF b.name ≠ 0 := by simpa using h1
        refine ⟨_, _, ret_d, ?_, rfl⟩
        rw [hb _ (checkAt_n (by rw [← eb]; exact h1)) (by rw [← eb]; exact h1), ← eb]
      · have h1 : nameF b.name = 0 := by simpa using h1
        (try simp only [vcRules, dRules, bRules, tyRules, xRules, pickV_true, pickV_false, implies_true, Nat.reduceLT, Nat.reduceLeDiff, Nat.reduceEqDiff, Nat.reduceAdd, Nat.reduceSub, Nat.reduceMul, Int.reduceToNat, Int.reduceLT, Int.reduceLE, Int.reduceEq, Int.reduceAdd, Int.reduceSub, Int.reduceNeg, Int.reduceBEq, Int.reduceBNe, Int.reduceMul, Int.natCast_add, Int.natCast_one, reduceCtorEq, reduceIte, s_isAgg, s_cells, t_isAgg, t_cells, yRules, (show (k:Int) < l.length by omega), h, a_getD _ _ _ (show k < l.length by omega), ← eb])
        repeat ((with_reducible refine And.intro ?_ ?_); (focus (first | omega | (simp only [List.length_take, List.length_drop, List.length_map, List.length_append, List.length_cons]; omega) | (intros; simp_all; done) | (refine (show drawChk _ = true from ?_); kernel_rfl))))
        have hbb : (decide (b.at_ < 0) || decide (1000000000000 < b.at_) || decide (b.value < -1000000000000000) || decide (1000000000000000 < b.value)) = badS b := by
          unfold badS inB; rw [Bool.eq_iff_iff]; simp; omega
        refine ifC.mk (fun h2 => ?_) (fun h2 => ?_)
        · refine ⟨_, _, ret_d, ?_, rfl⟩
          rw [hb 2 (checkAt_b (by rw [← eb]; exact h1) (by rw [← eb, ← hbb]; exact h2)) (by omega)]
        · have ho := checkAt_o (l := l) (k := k) (by rw [← eb]; exact h1) (by rw [← eb, ← hbb]; exact h2)
          rw [← eb] at ho
          by_cases hk0 : 0 < k
          · have e1 : IntKind.i64.wrap ((k : Int) - 1) = ((k - 1 : Nat) : Int) := by rw [wrap64 (by omega) (by omega)]; omega
            obtain ⟨a, ea⟩ : ∃ a, a = l.getD (k - 1) default := ⟨_, rfl⟩
            rw [decide_eq_true hk0, Bool.true_and, ← ea] at ho
            (try simp only [vcRules, dRules, bRules, tyRules, xRules, pickV_true, pickV_false, implies_true, Nat.reduceLT, Nat.reduceLeDiff, Nat.reduceEqDiff, Nat.reduceAdd, Nat.reduceSub, Nat.reduceMul, Int.reduceToNat, Int.reduceLT, Int.reduceLE, Int.reduceEq, Int.reduceAdd, Int.reduceSub, Int.reduceNeg, Int.reduceBEq, Int.reduceBNe, Int.reduceMul, Int.natCast_add, Int.natCast_one, reduceCtorEq, reduceIte, s_isAgg, s_cells, t_isAgg, t_cells, yRules, (show (0:Int) < k by omega), e1, (show ((k - 1 : Nat) : Int) < l.length by omega), (show k - 1 < l.length by omega), a_getD _ _ _ (show k - 1 < l.length by omega), ← ea, (show (k:Int) < l.length by omega), h, a_getD _ _ _ (show k < l.length by omega), ← eb])
            repeat ((with_reducible refine And.intro ?_ ?_); (focus (first | omega | (simp only [List.length_take, List.length_drop, List.length_map, List.length_append, List.length_cons]; omega) | (intros; simp_all; done) | (refine (show drawChk _ = true from ?_); kernel_rfl))))
            rw [show (Op.bytesLess b.name a.name || (b.name == a.name && (decide (b.at_ ≤ a.at_) || b.value == a.value))) = ordS a b from ord_ref a b]
            refine ifC.mk (fun h3 => ?_) (fun h3 => ?_)
            · refine ⟨_, _, ret_d, ?_, rfl⟩
              rw [if_pos h3] at ho
              rw [hb 11 ho (by omega)]
            · rw [if_neg (by rw [h3]; simp)] at ho
              refine ⟨firstErr_step hi ho, ?_⟩
              refine weak_to [] [] rfl List.nodup_nil ?_ rfl
              simp only [vcRules, dRules, bRules, tyRules, xRules, pickV_true, pickV_false, implies_true, Nat.reduceLT, Nat.reduceLeDiff, Nat.reduceEqDiff, Nat.reduceAdd, Nat.reduceSub, Nat.reduceMul, Int.reduceToNat, Int.reduceLT, Int.reduceLE, Int.reduceEq, Int.reduceAdd, Int.reduceSub, Int.reduceNeg, Int.reduceBEq, Int.reduceBNe, Int.reduceMul, Int.natCast_add, Int.natCast_one, reduceCtorEq, reduceIte, s_isAgg, s_cells, t_isAgg, t_cells, yRules, @a_wrap ((k:Int) + 1) (by omega)]
          · rw [decide_eq_false hk0, Bool.false_and, if_neg (by simp)] at ho
            have e0 : (IntKind.i64.wrap ((k : Int) - 1)).toNat = 0 := by rw [wrap64 (by omega) (by omega)]; omega
            (try simp only [vcRules, dRules, bRules, tyRules, xRules, pickV_true, pickV_false, implies_true, Nat.reduceLT, Nat.reduceLeDiff, Nat.reduceEqDiff, Nat.reduceAdd, Nat.reduceSub, Nat.reduceMul, Int.reduceToNat, Int.reduceLT, Int.reduceLE, Int.reduceEq, Int.reduceAdd, Int.reduceSub, Int.reduceNeg, Int.reduceBEq, Int.reduceBNe, Int.reduceMul, Int.natCast_add, Int.natCast_one, reduceCtorEq, reduceIte, s_isAgg, s_cells, t_isAgg, t_cells, yRules, (show ¬ (0:Int) < k by omega), e0, a_getD _ _ _ (show 0 < l.length by omega), (show (k:Int) < l.length by omega), h, a_getD _ _ _ (show k < l.length by omega), ← eb])
            repeat ((with_reducible refine And.intro ?_ ?_); (focus (first | omega | (simp only [List.length_take, List.length_drop, List.length_map, List.length_append, List.length_cons]; omega) | (intros; simp_all; done) | (refine (show drawChk _ = true from ?_); kernel_rfl))))
            refine ⟨firstErr_step hi ho, ?_⟩
            refine weak_to [] [] rfl List.nodup_nil ?_ rfl
            simp only [vcRules, dRules, bRules, tyRules, xRules, pickV_true, pickV_false, implies_true, Nat.reduceLT, Nat.reduceLeDiff, Nat.reduceEqDiff, Nat.reduceAdd, Nat.reduceSub, Nat.reduceMul, Int.reduceToNat, Int.reduceLT, Int.reduceLE, Int.reduceEq, Int.reduceAdd, Int.reduceSub, Int.reduceNeg, Int.reduceBEq, Int.reduceBNe, Int.reduceMul, Int.natCast_add, Int.natCast_one, reduceCtorEq, reduceIte, s_isAgg, s_cells, t_isAgg, t_cells, yRules, @a_wrap ((k:Int) + 1) (by omega)]
    · simp only [vcRules, dRules, bRules, tyRules, xRules, pickV_true, pickV_false, implies_true, Nat.reduceLT, Nat.reduceLeDiff, Nat.reduceEqDiff, Nat.reduceAdd, Nat.reduceSub, Nat.reduceMul, Int.reduceToNat, Int.reduceLT, Int.reduceLE, Int.reduceEq, Int.reduceAdd, Int.reduceSub, Int.reduceNeg, Int.reduceBEq, Int.reduceBNe, Int.reduceMul, Int.natCast_add, Int.natCast_one, reduceCtorEq, reduceIte, s_isAgg, s_cells, t_isAgg, t_cells, yRules, (show ¬ (k:Int) < l.length by omega)]
      refine ⟨_, _, ret_d, ?_, rfl⟩
      have : k = l.length := by omega
      rw [checkF, ← this, hi]
end Ytlelaieadgkemaa
end Go.Proofs
