/- A part of the proof: contracts of functions of this seat, and lemmas. No condition beyond those stated. -/
import Derived.Test.YtkoebmjenkajdaaDoorR02g
set_option linter.unusedVariables false
set_option linter.unusedSimpArgs false
set_option linter.unusedSectionVars false
set_option linter.unnecessarySimpa false
set_option linter.unusedSimpArgs false
set_option linter.unusedVariables false
set_option maxRecDepth 100000
namespace Go.Proofs
open Go.AM
namespace YtkoebmjenkajdaaDoor
variable {Gl : Globs}

theorem c36 (M N : Nat) (hM : M < 340282366920938463463374607431768211456) (hN : N < 170141183460469231731687303715884105728) : Pure Tryd.prog Gl 36 [.d (wN M), .d (wN N)] (.d (wN (Nat.gcd M N))) := by
  refine Pure.of2 ?_
  refine acalls_of Tryd.func36 rfl rfl (by simp [Tryd.ntmps36]) (evC_sound rfl _ _ _ _ ?_)
  simp only [Tryd.ntmps36, Tryd.results36, argEnv, List.length_nil]
  simp only [vcRules, dRules, bRules, tyRules, xRules, pickV_true, pickV_false, implies_true, Nat.reduceLT, Nat.reduceLeDiff, Nat.reduceEqDiff, Nat.reduceAdd, Nat.reduceSub, Nat.reduceMul, Int.reduceToNat, Int.reduceLT, Int.reduceLE, Int.reduceEq, Int.reduceAdd, Int.reduceSub, Int.reduceNeg, Int.reduceBEq, Int.reduceBNe, Int.reduceMul, Int.natCast_add, Int.natCast_one, reduceCtorEq, reduceIte, wN_isAgg, wN_cells, gD_isAgg, gD_cells, f_isAgg, f_cells, cRules, yRules]
  repeat ((with_reducible refine And.intro ?_ ?_); (focus (first | omega | (simp only [List.length_take, List.length_drop, List.length_map, List.length_append, List.length_cons]; omega) | (refine (show quietOp _ = true from ?_); rfl) | (refine (show drawOk _ _ _ _ _ _ _ from Or.inl ?_); kernel_rfl) | (intros; simp_all; done))))
  refine loop_of (τ := Nat × Nat) (fun p => [(2, .ptr 0 0), (3, .ptr 1 0), (4, .ptr 2 0)]) (fun p => [.box 2 (.d (wN p.1)), .box 2 (.d (wN p.2)), .box 2 (.d (wN 0))]) (fun p => Nat.gcd p.1 p.2 = Nat.gcd M N ∧ p.1 < 340282366920938463463374607431768211456 ∧ p.2 < 170141183460469231731687303715884105728) (fun p => p.2) (M, N) ⟨rfl, hM, hN⟩ ?_ ?_
  · refine weak_to [] [0, 1, 2] rfl (by simp) ?_ rfl
    simp only [vcRules, dRules, bRules, tyRules, xRules, pickV_true, pickV_false, implies_true, Nat.reduceLT, Nat.reduceLeDiff, Nat.reduceEqDiff, Nat.reduceAdd, Nat.reduceSub, Nat.reduceMul, Int.reduceToNat, Int.reduceLT, Int.reduceLE, Int.reduceEq, Int.reduceAdd, Int.reduceSub, Int.reduceNeg, Int.reduceBEq, Int.reduceBNe, Int.reduceMul, Int.natCast_add, Int.natCast_one, reduceCtorEq, reduceIte, wN_isAgg, wN_cells, gD_isAgg, gD_cells, f_isAgg, f_cells, cRules, yRules]
  · rintro ⟨a, b⟩ ⟨h1, h2, h3⟩
    simp only at h1 h2 h3
    have z0 : D.agg [.int .u64 0, .int .u64 0] = wN 0 := rfl
    simp only [vcRules, dRules, bRules, tyRules, xRules, pickV_true, pickV_false, implies_true, Nat.reduceLT, Nat.reduceLeDiff, Nat.reduceEqDiff, Nat.reduceAdd, Nat.reduceSub, Nat.reduceMul, Int.reduceToNat, Int.reduceLT, Int.reduceLE, Int.reduceEq, Int.reduceAdd, Int.reduceSub, Int.reduceNeg, Int.reduceBEq, Int.reduceBNe, Int.reduceMul, Int.natCast_add, Int.natCast_one, reduceCtorEq, reduceIte, wN_isAgg, wN_cells, gD_isAgg, gD_cells, f_isAgg, f_cells, cRules, yRules, z0]
    by_cases hb : b = 0
    · subst hb
      have e : (!decide ((0 : Nat) = 0)) = false := rfl
      simp only [vcRules, dRules, bRules, tyRules, xRules, pickV_true, pickV_false, implies_true, Nat.reduceLT, Nat.reduceLeDiff, Nat.reduceEqDiff, Nat.reduceAdd, Nat.reduceSub, Nat.reduceMul, Int.reduceToNat, Int.reduceLT, Int.reduceLE, Int.reduceEq, Int.reduceAdd, Int.reduceSub, Int.reduceNeg, Int.reduceBEq, Int.reduceBNe, Int.reduceMul, Int.natCast_add, Int.natCast_one, reduceCtorEq, reduceIte, wN_isAgg, wN_cells, gD_isAgg, gD_cells, f_isAgg, f_cells, cRules, yRules, e]
      refine ⟨_, _, ret_d, ?_, rfl⟩
      rw [← h1, Nat.gcd_zero_right]
    · have e : (!decide (b = 0)) = true := by rw [decide_eq_false hb]; rfl
      simp only [vcRules, dRules, bRules, tyRules, xRules, pickV_true, pickV_false, implies_true, Nat.reduceLT, Nat.reduceLeDiff, Nat.reduceEqDiff, Nat.reduceAdd, Nat.reduceSub, Nat.reduceMul, Int.reduceToNat, Int.reduceLT, Int.reduceLE, Int.reduceEq, Int.reduceAdd, Int.reduceSub, Int.reduceNeg, Int.reduceBEq, Int.reduceBNe, Int.reduceMul, Int.natCast_add, Int.natCast_one, reduceCtorEq, reduceIte, wN_isAgg, wN_cells, gD_isAgg, gD_cells, f_isAgg, f_cells, cRules, yRules, e]
      refine callF_pure (c53 a b h2 (by omega) h3) ?_
      simp only [vcRules, dRules, bRules, tyRules, xRules, pickV_true, pickV_false, implies_true, Nat.reduceLT, Nat.reduceLeDiff, Nat.reduceEqDiff, Nat.reduceAdd, Nat.reduceSub, Nat.reduceMul, Int.reduceToNat, Int.reduceLT, Int.reduceLE, Int.reduceEq, Int.reduceAdd, Int.reduceSub, Int.reduceNeg, Int.reduceBEq, Int.reduceBNe, Int.reduceMul, Int.natCast_add, Int.natCast_one, reduceCtorEq, reduceIte, wN_isAgg, wN_cells, gD_isAgg, gD_cells, f_isAgg, f_cells, cRules, yRules]
      have hlt : a % b < b := Nat.mod_lt _ (by omega)
      refine ⟨(b, a % b), ⟨?_, by simp only; omega, by simp only; omega⟩, hlt, ?_⟩
      · simp only; rw [← h1, Nat.gcd_comm b, ← Nat.gcd_rec, Nat.gcd_comm]
      · refine weak_to [] [0, 1, 2] rfl (by simp) ?_ rfl
        simp only [vcRules, dRules, bRules, tyRules, xRules, pickV_true, pickV_false, implies_true, Nat.reduceLT, Nat.reduceLeDiff, Nat.reduceEqDiff, Nat.reduceAdd, Nat.reduceSub, Nat.reduceMul, Int.reduceToNat, Int.reduceLT, Int.reduceLE, Int.reduceEq, Int.reduceAdd, Int.reduceSub, Int.reduceNeg, Int.reduceBEq, Int.reduceBNe, Int.reduceMul, Int.natCast_add, Int.natCast_one, reduceCtorEq, reduceIte, wN_isAgg, wN_cells, gD_isAgg, gD_cells, f_isAgg, f_cells, cRules, yRules]
theorem c34 (m : Bool) (M d : Nat) (hM : M < 340282366920938463463374607431768211456) (hd : 0 < d) (hd2 : d < 170141183460469231731687303715884105728) : Pure Tryd.prog Gl 34 [.d (gD m M), .d (wN d)] (resD (normS m M d)) := by
  refine Pure.of2t2 ?_
  have zM : D.agg [.int .u64 ((M / 18446744073709551616 : Nat) : Int), .int .u64 ((M % 18446744073709551616 : Nat) : Int)] = wN M := rfl
  obtain ⟨g, hg⟩ : ∃ g, g = Nat.gcd M d := ⟨_, rfl⟩
  have hg0 : 0 < g := by rw [hg]; exact Nat.gcd_pos_of_pos_right _ hd
  have hgd : g ≤ d := by rw [hg]; exact Nat.gcd_le_right _ hd
  refine acalls_of Tryd.func34 rfl rfl (by simp [Tryd.ntmps34]) (evC_sound rfl _ _ _ _ ?_)
  simp only [Tryd.ntmps34, Tryd.results34, argEnv, List.length_nil]
  simp only [vcRules, dRules, bRules, tyRules, xRules, pickV_true, pickV_false, implies_true, Nat.reduceLT, Nat.reduceLeDiff, Nat.reduceEqDiff, Nat.reduceAdd, Nat.reduceSub, Nat.reduceMul, Int.reduceToNat, Int.reduceLT, Int.reduceLE, Int.reduceEq, Int.reduceAdd, Int.reduceSub, Int.reduceNeg, Int.reduceBEq, Int.reduceBNe, Int.reduceMul, Int.natCast_add, Int.natCast_one, reduceCtorEq, reduceIte, wN_isAgg, wN_cells, gD_isAgg, gD_cells, f_isAgg, f_cells, cRules, yRules, zM]
  refine callF_pure (c36 M d hM hd2) ?_
  rw [← hg]
  simp only [vcRules, dRules, bRules, tyRules, xRules, pickV_true, pickV_false, implies_true, Nat.reduceLT, Nat.reduceLeDiff, Nat.reduceEqDiff, Nat.reduceAdd, Nat.reduceSub, Nat.reduceMul, Int.reduceToNat, Int.reduceLT, Int.reduceLE, Int.reduceEq, Int.reduceAdd, Int.reduceSub, Int.reduceNeg, Int.reduceBEq, Int.reduceBNe, Int.reduceMul, Int.natCast_add, Int.natCast_one, reduceCtorEq, reduceIte, wN_isAgg, wN_cells, gD_isAgg, gD_cells, f_isAgg, f_cells, cRules, yRules, zM]
  refine callF_pure (c53 M g hM hg0 (by omega)) ?_
  simp only [vcRules, dRules, bRules, tyRules, xRules, pickV_true, pickV_false, implies_true, Nat.reduceLT, Nat.reduceLeDiff, Nat.reduceEqDiff, Nat.reduceAdd, Nat.reduceSub, Nat.reduceMul, Int.reduceToNat, Int.reduceLT, Int.reduceLE, Int.reduceEq, Int.reduceAdd, Int.reduceSub, Int.reduceNeg, Int.reduceBEq, Int.reduceBNe, Int.reduceMul, Int.natCast_add, Int.natCast_one, reduceCtorEq, reduceIte, wN_isAgg, wN_cells, gD_isAgg, gD_cells, f_isAgg, f_cells, cRules, yRules]
  refine callF_pure (c53 d g (by omega) hg0 (by omega)) ?_
  simp only [vcRules, dRules, bRules, tyRules, xRules, pickV_true, pickV_false, implies_true, Nat.reduceLT, Nat.reduceLeDiff, Nat.reduceEqDiff, Nat.reduceAdd, Nat.reduceSub, Nat.reduceMul, Int.reduceToNat, Int.reduceLT, Int.reduceLE, Int.reduceEq, Int.reduceAdd, Int.reduceSub, Int.reduceNeg, Int.reduceBEq, Int.reduceBNe, Int.reduceMul, Int.natCast_add, Int.natCast_one, reduceCtorEq, reduceIte, wN_isAgg, wN_cells, gD_isAgg, gD_cells, f_isAgg, f_cells, cRules, yRules]
  have ha : M / g ≤ M := Nat.div_le_self _ _
  have hb : d / g ≤ d := Nat.div_le_self _ _
  simp only [normS, ← hg]
  generalize M / g = A at ha ⊢
  generalize d / g = B at hb ⊢
  refine ifC.mk (fun hc => ?_) (fun hc => ?_)
  · have hn : ¬ (A ≤ 4611686018427387904 ∧ B ≤ 1000000000000000) := by
      simp only [Bool.or_eq_true, bne_iff_ne, decide_eq_true_eq, ne_eq] at hc
      omega
    rw [if_neg hn]
    refine ⟨_, _, ret_t2, ?_, rfl⟩
    rfl
  · have hn : A ≤ 4611686018427387904 ∧ B ≤ 1000000000000000 := by
      have := Bool.eq_false_iff.1 hc
      simp only [Bool.or_eq_true, bne_iff_ne, decide_eq_true_eq, ne_eq] at this
      omega
    have e1 : IntKind.i64.wrap ((A % 18446744073709551616 : Nat) : Int) = ((A : Nat) : Int) := by rw [IntKind.wrap_i64]; omega
    have e2 : IntKind.i64.wrap ((B % 18446744073709551616 : Nat) : Int) = ((B : Nat) : Int) := by rw [IntKind.wrap_i64]; omega
    have e3 : IntKind.i64.wrap (0 - ((A : Nat) : Int)) = -((A : Nat) : Int) := by rw [IntKind.wrap_i64]; omega
    rw [if_pos hn]
    refine ifC.mk (fun hm => ?_) (fun hm => ?_)
    · (try simp only [vcRules, dRules, bRules, tyRules, xRules, pickV_true, pickV_false, implies_true, Nat.reduceLT, Nat.reduceLeDiff, Nat.reduceEqDiff, Nat.reduceAdd, Nat.reduceSub, Nat.reduceMul, Int.reduceToNat, Int.reduceLT, Int.reduceLE, Int.reduceEq, Int.reduceAdd, Int.reduceSub, Int.reduceNeg, Int.reduceBEq, Int.reduceBNe, Int.reduceMul, Int.natCast_add, Int.natCast_one, reduceCtorEq, reduceIte, wN_isAgg, wN_cells, gD_isAgg, gD_cells, f_isAgg, f_cells, cRules, yRules, e1, e2, e3])
      refine ⟨_, _, ret_t2, ?_, rfl⟩
      simp only [e1, e2, e3, if_pos hm]; rfl
    · (try simp only [vcRules, dRules, bRules, tyRules, xRules, pickV_true, pickV_false, implies_true, Nat.reduceLT, Nat.reduceLeDiff, Nat.reduceEqDiff, Nat.reduceAdd, Nat.reduceSub, Nat.reduceMul, Int.reduceToNat, Int.reduceLT, Int.reduceLE, Int.reduceEq, Int.reduceAdd, Int.reduceSub, Int.reduceNeg, Int.reduceBEq, Int.reduceBNe, Int.reduceMul, Int.natCast_add, Int.natCast_one, reduceCtorEq, reduceIte, wN_isAgg, wN_cells, gD_isAgg, gD_cells, f_isAgg, f_cells, cRules, yRules, e1, e2, e3])
      refine ⟨_, _, ret_t2, ?_, rfl⟩
      simp only [e1, e2, hm, Bool.false_eq_true, if_false]; rfl
theorem c15 (a : FracT) (h : a.In) : Pure Tryd.prog Gl 15 [.d a.toD] (.d (.bool (okF a))) := by
  refine Pure.of1 ?_
  have h1 := h.n1
  have h2 := h.n2
  have h3 := h.d1
  have h4 := h.d2
  refine acalls_of Tryd.func15 rfl rfl (by simp [Tryd.ntmps15]) (evC_sound rfl _ _ _ _ ?_)
  simp only [Tryd.ntmps15, Tryd.results15, argEnv, List.length_nil]
  simp only [vcRules, dRules, bRules, tyRules, xRules, pickV_true, pickV_false, implies_true, Nat.reduceLT, Nat.reduceLeDiff, Nat.reduceEqDiff, Nat.reduceAdd, Nat.reduceSub, Nat.reduceMul, Int.reduceToNat, Int.reduceLT, Int.reduceLE, Int.reduceEq, Int.reduceAdd, Int.reduceSub, Int.reduceNeg, Int.reduceBEq, Int.reduceBNe, Int.reduceMul, Int.natCast_add, Int.natCast_one, reduceCtorEq, reduceIte, wN_isAgg, wN_cells, gD_isAgg, gD_cells, f_isAgg, f_cells, cRules, yRules]
  refine ifC.mk (fun hc => ?_) (fun hc => ?_)
  · have hn : ¬ a.Ok := fun k => by
      have := k.d1
      have := k.d2
      have := k.n1
      have := k.n2
      simp only [Bool.or_eq_true, decide_eq_true_eq] at hc
      omega
    refine ⟨_, _, ret_d, ?_, rfl⟩
    have : okF a = false := by rw [Bool.eq_false_iff]; intro he; exact hn (okF_iff.1 he)
    rw [this]
  · have hn : 1 ≤ a.q ∧ a.q ≤ 1000000000000000 ∧ -4611686018427387904 ≤ a.n ∧ a.n ≤ 4611686018427387904 := by
      have := Bool.eq_false_iff.1 hc
      simp only [ne_eq, Bool.or_eq_true, decide_eq_true_eq] at this
      omega
    repeat ((with_reducible refine And.intro ?_ ?_); (focus (first | omega | (simp only [List.length_take, List.length_drop, List.length_map, List.length_append, List.length_cons]; omega) | (refine (show quietOp _ = true from ?_); rfl) | (refine (show drawOk _ _ _ _ _ _ _ from Or.inl ?_); kernel_rfl) | (intros; simp_all; done))))
    refine callF_pure (c35 a.n h1 h2) ?_
    simp only [vcRules, dRules, bRules, tyRules, xRules, pickV_true, pickV_false, implies_true, Nat.reduceLT, Nat.reduceLeDiff, Nat.reduceEqDiff, Nat.reduceAdd, Nat.reduceSub, Nat.reduceMul, Int.reduceToNat, Int.reduceLT, Int.reduceLE, Int.reduceEq, Int.reduceAdd, Int.reduceSub, Int.reduceNeg, Int.reduceBEq, Int.reduceBNe, Int.reduceMul, Int.natCast_add, Int.natCast_one, reduceCtorEq, reduceIte, wN_isAgg, wN_cells, gD_isAgg, gD_cells, f_isAgg, f_cells, cRules, yRules, wN_small (show a.n.natAbs < 18446744073709551616 by omega)]
    refine callF_pure (c35 a.q h3 h4) ?_
    simp only [vcRules, dRules, bRules, tyRules, xRules, pickV_true, pickV_false, implies_true, Nat.reduceLT, Nat.reduceLeDiff, Nat.reduceEqDiff, Nat.reduceAdd, Nat.reduceSub, Nat.reduceMul, Int.reduceToNat, Int.reduceLT, Int.reduceLE, Int.reduceEq, Int.reduceAdd, Int.reduceSub, Int.reduceNeg, Int.reduceBEq, Int.reduceBNe, Int.reduceMul, Int.natCast_add, Int.natCast_one, reduceCtorEq, reduceIte, wN_isAgg, wN_cells, gD_isAgg, gD_cells, f_isAgg, f_cells, cRules, yRules, wN_small (show a.q.natAbs < 18446744073709551616 by omega)]
    refine callF_pure (c36 _ _ (by omega) (by omega)) ?_
    have z1 : D.agg [.int .u64 0, .int .u64 1] = wN 1 := rfl
    simp only [vcRules, dRules, bRules, tyRules, xRules, pickV_true, pickV_false, implies_true, Nat.reduceLT, Nat.reduceLeDiff, Nat.reduceEqDiff, Nat.reduceAdd, Nat.reduceSub, Nat.reduceMul, Int.reduceToNat, Int.reduceLT, Int.reduceLE, Int.reduceEq, Int.reduceAdd, Int.reduceSub, Int.reduceNeg, Int.reduceBEq, Int.reduceBNe, Int.reduceMul, Int.natCast_add, Int.natCast_one, reduceCtorEq, reduceIte, wN_isAgg, wN_cells, gD_isAgg, gD_cells, f_isAgg, f_cells, cRules, yRules, z1]
    refine ⟨_, _, ret_d, ?_, rfl⟩
    congr 2
    unfold okF
    rw [decide_eq_true hn.1, decide_eq_true hn.2.1, decide_eq_true hn.2.2.1, decide_eq_true hn.2.2.2]
    rfl
end YtkoebmjenkajdaaDoor
end Go.Proofs
