/- A part of the proof: contracts of functions of this seat, and lemmas. No condition beyond those stated. -/
import Derived.Test.YtkoebmjenkajdaaDoorR02q
set_option linter.unusedVariables false
set_option linter.unusedSimpArgs false
set_option linter.unusedSectionVars false
set_option linter.unnecessarySimpa false
set_option linter.unusedSimpArgs false
set_option linter.unusedVariables false
set_option maxRecDepth 100000
namespace Go.Proofs
open Go.AM
namespace YtkoebmjenkajdaaDoor
theorem normS_in (m : Bool) (M d : Nat) : (normS m M d).1.In := by
  unfold normS
  split
  · rename_i h
    generalize M / Nat.gcd M d = A at h ⊢
    generalize d / Nat.gcd M d = B at h ⊢
    refine ⟨?_, ?_, ?_, ?_⟩ <;> (simp only; (try split) <;> omega)
  · exact ⟨by decide, by decide, by decide, by decide⟩
theorem normS_ok {m : Bool} {M d : Nat} (hd : 0 < d) (h : (normS m M d).2 = true) : okF (normS m M d).1 = true := by
  unfold normS at h ⊢
  split at h
  · rename_i h1
    rw [if_pos h1]
    have g0 : 0 < Nat.gcd M d := Nat.gcd_pos_of_pos_right _ hd
    have b0 : 0 < d / Nat.gcd M d := Nat.div_pos (Nat.gcd_le_right _ hd) g0
    have cop : Nat.gcd (M / Nat.gcd M d) (d / Nat.gcd M d) = 1 := Nat.coprime_div_gcd_div_gcd g0
    generalize M / Nat.gcd M d = A at h1 cop ⊢
    generalize d / Nat.gcd M d = B at h1 cop b0 ⊢
    rw [okF_iff]
    refine ⟨by simp only; omega, by simp only; omega, by simp only; split <;> omega, by simp only; split <;> omega, ?_⟩
    simp only
    have e : (if m = true then -(A : Int) else (A : Int)).natAbs = A := by split <;> omega
    rw [e, Int.natAbs_natCast]; exact cop
  · cases h
theorem normS_cross {m : Bool} {M d : Nat} (h : (normS m M d).2 = true) : (normS m M d).1.n * (d : Int) = valG (m, M) * (normS m M d).1.q := by
  unfold normS at h ⊢
  split at h
  · rename_i h1
    rw [if_pos h1]
    simp only [valG]
    have e : (M / Nat.gcd M d) * d = M * (d / Nat.gcd M d) := by
      rw [Nat.div_mul_right_comm (Nat.gcd_dvd_left _ _), Nat.mul_div_assoc _ (Nat.gcd_dvd_right _ _)]
    have e2 : ((M / Nat.gcd M d : Nat) : Int) * (d : Int) = (M : Int) * ((d / Nat.gcd M d : Nat) : Int) := by exact_mod_cast e
    cases m
    · simp only [Bool.false_eq_true, if_false]; exact e2
    · simp only [if_true, Int.neg_mul]; rw [e2]
  · cases h
theorem ofS_in (n d : Int) : (ofS n d).1.In := by
  unfold ofS
  split
  · exact ⟨by decide, by decide, by decide, by decide⟩
  · exact normS_in _ _ _
theorem ofS_ok {n d : Int} (h : (ofS n d).2 = true) : okF (ofS n d).1 = true := by
  unfold ofS at h ⊢
  split at h
  · cases h
  · rename_i h1
    rw [if_neg h1]
    exact normS_ok (by omega) h
theorem ofS_cross {n d : Int} (h : (ofS n d).2 = true) : (ofS n d).1.n * d = n * (ofS n d).1.q := by
  unfold ofS at h ⊢
  split at h
  · cases h
  · rename_i h1
    rw [if_neg h1]
    have e := normS_cross h
    generalize (normS (!(decide (n < 0) == decide (d < 0))) n.natAbs d.natAbs).1 = r at e ⊢
    unfold valG at e
    simp only at e
    by_cases h2 : n < 0 <;> by_cases h3 : d < 0
    · rw [decide_eq_true h2, decide_eq_true h3] at e
      simp only [beq_self_eq_true, Bool.not_true, Bool.false_eq_true, if_false] at e
      rw [show ((d.natAbs : Nat) : Int) = -d by omega, show ((n.natAbs : Nat) : Int) = -n by omega, Int.mul_neg, Int.neg_mul] at e
      omega
    · rw [decide_eq_true h2, decide_eq_false h3] at e
      simp only [show (!(true == false)) = true from rfl, if_true] at e
      rw [show ((d.natAbs : Nat) : Int) = d by omega, show ((n.natAbs : Nat) : Int) = -n by omega, Int.neg_neg] at e
      exact e
    · rw [decide_eq_false h2, decide_eq_true h3] at e
      simp only [show (!(false == true)) = true from rfl, if_true] at e
      rw [show ((d.natAbs : Nat) : Int) = -d by omega, show ((n.natAbs : Nat) : Int) = n by omega, Int.mul_neg, Int.neg_mul] at e
      omega
    · rw [decide_eq_false h2, decide_eq_false h3] at e
      simp only [beq_self_eq_true, Bool.not_true, Bool.false_eq_true, if_false] at e
      rw [show ((d.natAbs : Nat) : Int) = d by omega, show ((n.natAbs : Nat) : Int) = n by omega] at e
      exact e
theorem c3 (n d : Int) (h1 : -9223372036854775808 ≤ n) (h2 : n ≤ 9223372036854775807) (h3 : -9223372036854775808 ≤ d) (h4 : d ≤ 9223372036854775807) : Pure Tryd.prog G2 3 [.d (.int .i64 n), .d (.int .i64 d)] (.d (.bool true)) := by
  refine Pure.of2 ?_
  have k1 := c11 (Gl := G2) n d h1 h2 h3 h4
  have k2 := c12 (Gl := G2) n d h1 h2 h3 h4
  have ri := ofS_in n d
  have ro := @ofS_ok n d
  have rc := @ofS_cross n d
  generalize ofS n d = r at k1 k2 ri ro rc
  simp only [resD] at k1 k2
  obtain ⟨f, ok⟩ := r
  simp only at k1 k2 ri ro rc
  have tt : (true == true) = true := rfl
  have ff : (false == false) = true := rfl
  refine acalls_of Tryd.func3 rfl rfl (by simp [Tryd.ntmps3]) (evC_sound rfl _ _ _ _ ?_)
  simp only [Tryd.ntmps3, Tryd.results3, argEnv, List.length_nil]
  simp only [vcRules, dRules, bRules, tyRules, xRules, pickV_true, pickV_false, implies_true, Nat.reduceLT, Nat.reduceLeDiff, Nat.reduceEqDiff, Nat.reduceAdd, Nat.reduceSub, Nat.reduceMul, Int.reduceToNat, Int.reduceLT, Int.reduceLE, Int.reduceEq, Int.reduceAdd, Int.reduceSub, Int.reduceNeg, Int.reduceBEq, Int.reduceBNe, Int.reduceMul, Int.natCast_add, Int.natCast_one, reduceCtorEq, reduceIte, wN_isAgg, wN_cells, f_isAgg, f_cells, cRules, yRules]
  refine callF_pure k1 ?_
  simp only [vcRules, dRules, bRules, tyRules, xRules, pickV_true, pickV_false, implies_true, Nat.reduceLT, Nat.reduceLeDiff, Nat.reduceEqDiff, Nat.reduceAdd, Nat.reduceSub, Nat.reduceMul, Int.reduceToNat, Int.reduceLT, Int.reduceLE, Int.reduceEq, Int.reduceAdd, Int.reduceSub, Int.reduceNeg, Int.reduceBEq, Int.reduceBNe, Int.reduceMul, Int.natCast_add, Int.natCast_one, reduceCtorEq, reduceIte, wN_isAgg, wN_cells, f_isAgg, f_cells, cRules, yRules]
  refine callF_pure k2 ?_
  simp only [vcRules, dRules, bRules, tyRules, xRules, pickV_true, pickV_false, implies_true, Nat.reduceLT, Nat.reduceLeDiff, Nat.reduceEqDiff, Nat.reduceAdd, Nat.reduceSub, Nat.reduceMul, Int.reduceToNat, Int.reduceLT, Int.reduceLE, Int.reduceEq, Int.reduceAdd, Int.reduceSub, Int.reduceNeg, Int.reduceBEq, Int.reduceBNe, Int.reduceMul, Int.natCast_add, Int.natCast_one, reduceCtorEq, reduceIte, wN_isAgg, wN_cells, f_isAgg, f_cells, cRules, yRules, dec_self]
  cases ok with
  | true =>
    have ro := ro rfl
    have rc := rc rfl
    have kv := c13 (Gl := G2) f ri
    rw [ro] at kv
    simp only [vcRules, dRules, bRules, tyRules, xRules, pickV_true, pickV_false, implies_true, Nat.reduceLT, Nat.reduceLeDiff, Nat.reduceEqDiff, Nat.reduceAdd, Nat.reduceSub, Nat.reduceMul, Int.reduceToNat, Int.reduceLT, Int.reduceLE, Int.reduceEq, Int.reduceAdd, Int.reduceSub, Int.reduceNeg, Int.reduceBEq, Int.reduceBNe, Int.reduceMul, Int.natCast_add, Int.natCast_one, reduceCtorEq, reduceIte, wN_isAgg, wN_cells, f_isAgg, f_cells, cRules, yRules, tt, Bool.and_true, Bool.not_true]
    repeat ((with_reducible refine And.intro ?_ ?_); (focus (first | omega | (simp only [List.length_take, List.length_drop, List.length_map, List.length_append, List.length_cons]; omega) | (refine (show quietOp _ = true from ?_); rfl) | (refine (show drawOk _ _ _ _ _ _ _ from Or.inl ?_); kernel_rfl) | (intros; simp_all; done))))
    refine callG_pure (fun _ => kv) ?_
    simp only [vcRules, dRules, bRules, tyRules, xRules, pickV_true, pickV_false, implies_true, Nat.reduceLT, Nat.reduceLeDiff, Nat.reduceEqDiff, Nat.reduceAdd, Nat.reduceSub, Nat.reduceMul, Int.reduceToNat, Int.reduceLT, Int.reduceLE, Int.reduceEq, Int.reduceAdd, Int.reduceSub, Int.reduceNeg, Int.reduceBEq, Int.reduceBNe, Int.reduceMul, Int.natCast_add, Int.natCast_one, reduceCtorEq, reduceIte, wN_isAgg, wN_cells, f_isAgg, f_cells, cRules, yRules, tt, dec_self, Bool.and_true, Bool.not_true, rc, beq_self_eq_true, Bool.or_false, Bool.or_true]
    refine ⟨fun h => by simpa using h, ?_⟩
    refine callG_pure (fun _ => c14) ?_
    simp only [vcRules, dRules, bRules, tyRules, xRules, pickV_true, pickV_false, implies_true, Nat.reduceLT, Nat.reduceLeDiff, Nat.reduceEqDiff, Nat.reduceAdd, Nat.reduceSub, Nat.reduceMul, Int.reduceToNat, Int.reduceLT, Int.reduceLE, Int.reduceEq, Int.reduceAdd, Int.reduceSub, Int.reduceNeg, Int.reduceBEq, Int.reduceBNe, Int.reduceMul, Int.natCast_add, Int.natCast_one, reduceCtorEq, reduceIte, wN_isAgg, wN_cells, f_isAgg, f_cells, cRules, yRules, Bool.and_true, Bool.true_and]
    exact ⟨_, _, ret_d, rfl, rfl⟩
  | false =>
    have kv := c13 (Gl := G2) f ri
    simp only [vcRules, dRules, bRules, tyRules, xRules, pickV_true, pickV_false, implies_true, Nat.reduceLT, Nat.reduceLeDiff, Nat.reduceEqDiff, Nat.reduceAdd, Nat.reduceSub, Nat.reduceMul, Int.reduceToNat, Int.reduceLT, Int.reduceLE, Int.reduceEq, Int.reduceAdd, Int.reduceSub, Int.reduceNeg, Int.reduceBEq, Int.reduceBNe, Int.reduceMul, Int.natCast_add, Int.natCast_one, reduceCtorEq, reduceIte, wN_isAgg, wN_cells, f_isAgg, f_cells, cRules, yRules, ff, Bool.and_false, Bool.not_true]
    repeat ((with_reducible refine And.intro ?_ ?_); (focus (first | omega | (simp only [List.length_take, List.length_drop, List.length_map, List.length_append, List.length_cons]; omega) | (refine (show quietOp _ = true from ?_); rfl) | (refine (show drawOk _ _ _ _ _ _ _ from Or.inl ?_); kernel_rfl) | (intros; simp_all; done))))
    refine callG_pure (v := .d (.bool true)) (fun h => by cases h) ?_
    simp only [vcRules, dRules, bRules, tyRules, xRules, pickV_true, pickV_false, implies_true, Nat.reduceLT, Nat.reduceLeDiff, Nat.reduceEqDiff, Nat.reduceAdd, Nat.reduceSub, Nat.reduceMul, Int.reduceToNat, Int.reduceLT, Int.reduceLE, Int.reduceEq, Int.reduceAdd, Int.reduceSub, Int.reduceNeg, Int.reduceBEq, Int.reduceBNe, Int.reduceMul, Int.natCast_add, Int.natCast_one, reduceCtorEq, reduceIte, wN_isAgg, wN_cells, f_isAgg, f_cells, cRules, yRules, ff, dec_self, Bool.and_false, Bool.not_false, Bool.true_or]
    repeat ((with_reducible refine And.intro ?_ ?_); (focus (first | omega | (simp only [List.length_take, List.length_drop, List.length_map, List.length_append, List.length_cons]; omega) | (refine (show quietOp _ = true from ?_); rfl) | (refine (show drawOk _ _ _ _ _ _ _ from Or.inl ?_); kernel_rfl) | (intros; simp_all; done))))
    refine callG_pure (fun _ => c14) ?_
    simp only [vcRules, dRules, bRules, tyRules, xRules, pickV_true, pickV_false, implies_true, Nat.reduceLT, Nat.reduceLeDiff, Nat.reduceEqDiff, Nat.reduceAdd, Nat.reduceSub, Nat.reduceMul, Int.reduceToNat, Int.reduceLT, Int.reduceLE, Int.reduceEq, Int.reduceAdd, Int.reduceSub, Int.reduceNeg, Int.reduceBEq, Int.reduceBNe, Int.reduceMul, Int.natCast_add, Int.natCast_one, reduceCtorEq, reduceIte, wN_isAgg, wN_cells, f_isAgg, f_cells, cRules, yRules, Bool.and_true, Bool.true_and]
    exact ⟨_, _, ret_d, rfl, rfl⟩
end YtkoebmjenkajdaaDoor
end Go.Proofs
