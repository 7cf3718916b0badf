/- A part of the proof: contracts of functions of this seat, and lemmas. No condition beyond those stated. -/
import Derived.Test.YtkoebmjenkajdaaDoorR02p
import Derived.Test.YtkoebmjenkajdaaDoorR02e
set_option linter.unusedVariables false
set_option linter.unusedSimpArgs false
set_option linter.unusedSectionVars false
set_option linter.unnecessarySimpa false
set_option linter.unusedSimpArgs false
set_option linter.unusedVariables false
set_option maxRecDepth 100000
namespace Go.Proofs
open Go.AM
namespace YtkoebmjenkajdaaDoor
variable {Gl : Globs}
theorem Pure3T {f : FuncId} {a b c x y : D} (h : ACalls Tryd.prog Gl f [.d a, .d b, .d c] [] (fun r s => r = .tup [.d x, .d y] ∧ s = [])) : Pure Tryd.prog Gl f [.d a, .d b, .d c] (.tup [.d x, .d y]) := Pure.of3t2 h
theorem c33 (m : Bool) (n d : Nat) (hn : n < 18446744073709551616) (hd : d < 18446744073709551616) : Pure Tryd.prog Gl 33 [.d (.bool m), .d (.int .u64 n), .d (.int .u64 d)] (resD (madeP m n d)) := by
  refine Pure.of3t2 ?_
  refine acalls_of Tryd.func33 rfl rfl (by simp [Tryd.ntmps33]) (evC_sound rfl _ _ _ _ ?_)
  simp only [Tryd.ntmps33, Tryd.results33, argEnv, List.length_nil]
  simp only [vcRules, dRules, bRules, tyRules, xRules, pickV_true, pickV_false, implies_true, Nat.reduceLT, Nat.reduceLeDiff, Nat.reduceEqDiff, Nat.reduceAdd, Nat.reduceSub, Nat.reduceMul, Int.reduceToNat, Int.reduceLT, Int.reduceLE, Int.reduceEq, Int.reduceAdd, Int.reduceSub, Int.reduceNeg, Int.reduceBEq, Int.reduceBNe, Int.reduceMul, Int.natCast_add, Int.natCast_one, reduceCtorEq, reduceIte, wN_isAgg, wN_cells, f_isAgg, f_cells, cRules, yRules]
  repeat ((with_reducible refine And.intro ?_ ?_); (focus (first | omega | (simp only [List.length_take, List.length_drop, List.length_map, List.length_append, List.length_cons]; omega) | (refine (show quietOp _ = true from ?_); rfl) | (refine (show drawOk _ _ _ _ _ _ _ from Or.inl ?_); kernel_rfl) | (intros; simp_all; done))))
  unfold madeP
  refine ifC.mk (fun hc => ?_) (fun hc => ?_)
  · have h : ¬ (n ≤ 4611686018427387904 ∧ d ≤ 1000000000000000) := by
      simp only [Bool.or_eq_true, decide_eq_true_eq] at hc
      omega
    rw [if_neg h]
    refine ⟨_, _, ret_t2, ?_, rfl⟩
    rfl
  · have h : n ≤ 4611686018427387904 ∧ d ≤ 1000000000000000 := by
      have := Bool.eq_false_iff.1 hc
      simp only [ne_eq, Bool.or_eq_true, decide_eq_true_eq] at this
      omega
    rw [if_pos h]
    have e1 : IntKind.i64.wrap (n : Int) = (n : Int) := by rw [IntKind.wrap_i64]; omega
    have e2 : IntKind.i64.wrap (d : Int) = (d : Int) := by rw [IntKind.wrap_i64]; omega
    have e3 : IntKind.i64.wrap (0 - (n : Int)) = -(n : Int) := by rw [IntKind.wrap_i64]; omega
    (try simp only [vcRules, dRules, bRules, tyRules, xRules, pickV_true, pickV_false, implies_true, Nat.reduceLT, Nat.reduceLeDiff, Nat.reduceEqDiff, Nat.reduceAdd, Nat.reduceSub, Nat.reduceMul, Int.reduceToNat, Int.reduceLT, Int.reduceLE, Int.reduceEq, Int.reduceAdd, Int.reduceSub, Int.reduceNeg, Int.reduceBEq, Int.reduceBNe, Int.reduceMul, Int.natCast_add, Int.natCast_one, reduceCtorEq, reduceIte, wN_isAgg, wN_cells, f_isAgg, f_cells, cRules, yRules, e1, e2])
    refine ifC.mk (fun hm => ?_) (fun hm => ?_)
    · (try simp only [vcRules, dRules, bRules, tyRules, xRules, pickV_true, pickV_false, implies_true, Nat.reduceLT, Nat.reduceLeDiff, Nat.reduceEqDiff, Nat.reduceAdd, Nat.reduceSub, Nat.reduceMul, Int.reduceToNat, Int.reduceLT, Int.reduceLE, Int.reduceEq, Int.reduceAdd, Int.reduceSub, Int.reduceNeg, Int.reduceBEq, Int.reduceBNe, Int.reduceMul, Int.natCast_add, Int.natCast_one, reduceCtorEq, reduceIte, wN_isAgg, wN_cells, f_isAgg, f_cells, cRules, yRules, e1, e2, e3])
      refine ⟨_, _, ret_t2, ?_, rfl⟩
      rw [if_pos hm]; rfl
    · (try simp only [vcRules, dRules, bRules, tyRules, xRules, pickV_true, pickV_false, implies_true, Nat.reduceLT, Nat.reduceLeDiff, Nat.reduceEqDiff, Nat.reduceAdd, Nat.reduceSub, Nat.reduceMul, Int.reduceToNat, Int.reduceLT, Int.reduceLE, Int.reduceEq, Int.reduceAdd, Int.reduceSub, Int.reduceNeg, Int.reduceBEq, Int.reduceBNe, Int.reduceMul, Int.natCast_add, Int.natCast_one, reduceCtorEq, reduceIte, wN_isAgg, wN_cells, f_isAgg, f_cells, cRules, yRules, e1, e2, e3])
      refine ⟨_, _, ret_t2, ?_, rfl⟩
      rw [hm]; rfl
theorem i_u (a : Int) (h : 0 ≤ a) (h2 : a ≤ 9223372036854775807) : IntKind.u64.wrap a = (a.natAbs : Int) := by rw [wrapu]; omega
theorem c13 (a : FracT) (h : a.In) : Pure Tryd.prog Gl 13 [.d a.toD] (.d (.bool (okF a))) := by
  refine Pure.of1 ?_
  have h1 := h.n1
  have h2 := h.n2
  have h3 := h.d1
  have h4 := h.d2
  refine acalls_of Tryd.func13 rfl rfl (by simp [Tryd.ntmps13]) (evC_sound rfl _ _ _ _ ?_)
  simp only [Tryd.ntmps13, Tryd.results13, argEnv, List.length_nil]
  simp only [vcRules, dRules, bRules, tyRules, xRules, pickV_true, pickV_false, implies_true, Nat.reduceLT, Nat.reduceLeDiff, Nat.reduceEqDiff, Nat.reduceAdd, Nat.reduceSub, Nat.reduceMul, Int.reduceToNat, Int.reduceLT, Int.reduceLE, Int.reduceEq, Int.reduceAdd, Int.reduceSub, Int.reduceNeg, Int.reduceBEq, Int.reduceBNe, Int.reduceMul, Int.natCast_add, Int.natCast_one, reduceCtorEq, reduceIte, wN_isAgg, wN_cells, f_isAgg, f_cells, cRules, yRules]
  repeat ((with_reducible refine And.intro ?_ ?_); (focus (first | omega | (simp only [List.length_take, List.length_drop, List.length_map, List.length_append, List.length_cons]; omega) | (refine (show quietOp _ = true from ?_); rfl) | (refine (show drawOk _ _ _ _ _ _ _ from Or.inl ?_); kernel_rfl) | (intros; simp_all; done))))
  refine callG_pure (fun _ => c32 a.n h1 h2) ?_
  simp only [vcRules, dRules, bRules, tyRules, xRules, pickV_true, pickV_false, implies_true, Nat.reduceLT, Nat.reduceLeDiff, Nat.reduceEqDiff, Nat.reduceAdd, Nat.reduceSub, Nat.reduceMul, Int.reduceToNat, Int.reduceLT, Int.reduceLE, Int.reduceEq, Int.reduceAdd, Int.reduceSub, Int.reduceNeg, Int.reduceBEq, Int.reduceBNe, Int.reduceMul, Int.natCast_add, Int.natCast_one, reduceCtorEq, reduceIte, wN_isAgg, wN_cells, f_isAgg, f_cells, cRules, yRules]
  repeat ((with_reducible refine And.intro ?_ ?_); (focus (first | omega | (simp only [List.length_take, List.length_drop, List.length_map, List.length_append, List.length_cons]; omega) | (refine (show quietOp _ = true from ?_); rfl) | (refine (show drawOk _ _ _ _ _ _ _ from Or.inl ?_); kernel_rfl) | (intros; simp_all; done))))
  refine callG_pure (fun _ => c32 a.n h1 h2) ?_
  simp only [vcRules, dRules, bRules, tyRules, xRules, pickV_true, pickV_false, implies_true, Nat.reduceLT, Nat.reduceLeDiff, Nat.reduceEqDiff, Nat.reduceAdd, Nat.reduceSub, Nat.reduceMul, Int.reduceToNat, Int.reduceLT, Int.reduceLE, Int.reduceEq, Int.reduceAdd, Int.reduceSub, Int.reduceNeg, Int.reduceBEq, Int.reduceBNe, Int.reduceMul, Int.natCast_add, Int.natCast_one, reduceCtorEq, reduceIte, wN_isAgg, wN_cells, f_isAgg, f_cells, cRules, yRules]
  refine callG_pure (v := .d (.int .u64 (Nat.gcd a.n.natAbs a.q.natAbs))) (fun hg => by
    simp only [Bool.and_eq_true, decide_eq_true_eq] at hg
    rw [i_u a.q (by omega) (by omega)]; exact c31 _ _) ?_
  simp only [vcRules, dRules, bRules, tyRules, xRules, pickV_true, pickV_false, implies_true, Nat.reduceLT, Nat.reduceLeDiff, Nat.reduceEqDiff, Nat.reduceAdd, Nat.reduceSub, Nat.reduceMul, Int.reduceToNat, Int.reduceLT, Int.reduceLE, Int.reduceEq, Int.reduceAdd, Int.reduceSub, Int.reduceNeg, Int.reduceBEq, Int.reduceBNe, Int.reduceMul, Int.natCast_add, Int.natCast_one, reduceCtorEq, reduceIte, wN_isAgg, wN_cells, f_isAgg, f_cells, cRules, yRules]
  repeat ((with_reducible refine And.intro ?_ ?_); (focus (first | omega | (simp only [List.length_take, List.length_drop, List.length_map, List.length_append, List.length_cons]; omega) | (refine (show quietOp _ = true from ?_); rfl) | (refine (show drawOk _ _ _ _ _ _ _ from Or.inl ?_); kernel_rfl) | (intros; simp_all; done))))
  refine ⟨_, _, ret_d, ?_, rfl⟩
  congr 2
  unfold okF
  have e1 : decide ((a.n.natAbs : Int) ≤ 4611686018427387904) = (decide (-4611686018427387904 ≤ a.n) && decide (a.n ≤ 4611686018427387904)) := by
    rw [Bool.eq_iff_iff]; simp only [Bool.and_eq_true, decide_eq_true_eq]; omega
  rw [e1]
  congr 1
  rw [Bool.eq_iff_iff]; simp only [beq_iff_eq]; omega
theorem c47 (a : FracT) (h : a.In) : Pure Tryd.prog Gl 47 [.d a.toD] (.d (usF a).toD) := by
  refine Pure.of1 ?_
  refine acalls_of Tryd.func47 rfl rfl (by simp [Tryd.ntmps47]) (evC_sound rfl _ _ _ _ ?_)
  simp only [Tryd.ntmps47, Tryd.results47, argEnv, List.length_nil]
  simp only [vcRules, dRules, bRules, tyRules, xRules, pickV_true, pickV_false, implies_true, Nat.reduceLT, Nat.reduceLeDiff, Nat.reduceEqDiff, Nat.reduceAdd, Nat.reduceSub, Nat.reduceMul, Int.reduceToNat, Int.reduceLT, Int.reduceLE, Int.reduceEq, Int.reduceAdd, Int.reduceSub, Int.reduceNeg, Int.reduceBEq, Int.reduceBNe, Int.reduceMul, Int.natCast_add, Int.natCast_one, reduceCtorEq, reduceIte, wN_isAgg, wN_cells, f_isAgg, f_cells, cRules, yRules]
  refine callF_pure (c13 a h) ?_
  simp only [vcRules, dRules, bRules, tyRules, xRules, pickV_true, pickV_false, implies_true, Nat.reduceLT, Nat.reduceLeDiff, Nat.reduceEqDiff, Nat.reduceAdd, Nat.reduceSub, Nat.reduceMul, Int.reduceToNat, Int.reduceLT, Int.reduceLE, Int.reduceEq, Int.reduceAdd, Int.reduceSub, Int.reduceNeg, Int.reduceBEq, Int.reduceBNe, Int.reduceMul, Int.natCast_add, Int.natCast_one, reduceCtorEq, reduceIte, wN_isAgg, wN_cells, f_isAgg, f_cells, cRules, yRules]
  refine ifC.mk (fun hc => ?_) (fun hc => ?_)
  · rw [usF, if_pos hc]; exact ⟨_, _, ret_d, rfl, rfl⟩
  · rw [usF, if_neg (by rw [hc]; exact Bool.false_ne_true)]; exact ⟨_, _, ret_d, rfl, rfl⟩
theorem c42 (M d : Nat) (hM : M < 340282366920938463463374607431768211456) (h0 : 0 < d) (hd : d < 18446744073709551616) : Pure Tryd.prog Gl 42 [.d (wN M), .d (.int .u64 d)] (.d (.int .u64 ((M % d : Nat) : Int))) := by
  refine Pure.of2 ?_
  have hm : M / 18446744073709551616 % d < d := Nat.mod_lt _ h0
  refine acalls_of Tryd.func42 rfl rfl (by simp [Tryd.ntmps42]) (evC_sound rfl _ _ _ _ ?_)
  simp only [Tryd.ntmps42, Tryd.results42, argEnv, List.length_nil]
  simp only [vcRules, dRules, bRules, tyRules, xRules, pickV_true, pickV_false, implies_true, Nat.reduceLT, Nat.reduceLeDiff, Nat.reduceEqDiff, Nat.reduceAdd, Nat.reduceSub, Nat.reduceMul, Int.reduceToNat, Int.reduceLT, Int.reduceLE, Int.reduceEq, Int.reduceAdd, Int.reduceSub, Int.reduceNeg, Int.reduceBEq, Int.reduceBNe, Int.reduceMul, Int.natCast_add, Int.natCast_one, reduceCtorEq, reduceIte, wN_isAgg, wN_cells, f_isAgg, f_cells, cRules, yRules, remU', remN]
  repeat ((with_reducible refine And.intro ?_ ?_); (focus (first | omega | (simp only [List.length_take, List.length_drop, List.length_map, List.length_append, List.length_cons]; omega) | (refine (show quietOp _ = true from ?_); rfl) | (refine (show drawOk _ _ _ _ _ _ _ from Or.inl ?_); kernel_rfl) | (intros; simp_all; done))))
  refine callF_pure (c59 (M / 18446744073709551616 % d) (M % 18446744073709551616) d hm hd (by omega)) ?_
  simp only [vcRules, dRules, bRules, tyRules, xRules, pickV_true, pickV_false, implies_true, Nat.reduceLT, Nat.reduceLeDiff, Nat.reduceEqDiff, Nat.reduceAdd, Nat.reduceSub, Nat.reduceMul, Int.reduceToNat, Int.reduceLT, Int.reduceLE, Int.reduceEq, Int.reduceAdd, Int.reduceSub, Int.reduceNeg, Int.reduceBEq, Int.reduceBNe, Int.reduceMul, Int.natCast_add, Int.natCast_one, reduceCtorEq, reduceIte, wN_isAgg, wN_cells, f_isAgg, f_cells, cRules, yRules]
  have e : (M / 18446744073709551616 % d * 18446744073709551616 + M % 18446744073709551616) % d = M % d := by
    rw [Nat.add_mod, Nat.mul_mod, Nat.mod_mod, ← Nat.mul_mod, ← Nat.add_mod, Nat.div_add_mod']
  rw [e]
  exact ⟨_, _, ret_d, rfl, rfl⟩
theorem c43a (M d : Nat) (hM : M < 340282366920938463463374607431768211456) (h0 : 0 < d) (hd : d < 18446744073709551616) (h : d ≤ M / 18446744073709551616) : Pure Tryd.prog Gl 43 [.d (wN M), .d (.int .u64 d)] (.tup [.d (.int .u64 0), .d (.bool false)]) := by
  refine Pure.of2t2 ?_
  refine acalls_of Tryd.func43 rfl rfl (by simp [Tryd.ntmps43]) (evC_sound rfl _ _ _ _ ?_)
  simp only [Tryd.ntmps43, Tryd.results43, argEnv, List.length_nil]
  simp only [vcRules, dRules, bRules, tyRules, xRules, pickV_true, pickV_false, implies_true, Nat.reduceLT, Nat.reduceLeDiff, Nat.reduceEqDiff, Nat.reduceAdd, Nat.reduceSub, Nat.reduceMul, Int.reduceToNat, Int.reduceLT, Int.reduceLE, Int.reduceEq, Int.reduceAdd, Int.reduceSub, Int.reduceNeg, Int.reduceBEq, Int.reduceBNe, Int.reduceMul, Int.natCast_add, Int.natCast_one, reduceCtorEq, reduceIte, wN_isAgg, wN_cells, f_isAgg, f_cells, cRules, yRules]
  refine ifC.mk (fun hc => ?_) (fun hc => ?_)
  · exact ⟨_, _, ret_t2, rfl, rfl⟩
  · have hc := of_decide_eq_false hc
    omega
theorem c43b (M d : Nat) (hM : M < 340282366920938463463374607431768211456) (h0 : 0 < d) (hd : d < 18446744073709551616) (h : M / 18446744073709551616 < d) : Pure Tryd.prog Gl 43 [.d (wN M), .d (.int .u64 d)] (.tup [.d (.int .u64 ((M / d : Nat) : Int)), .d (.bool true)]) := by
  refine Pure.of2t2 ?_
  refine acalls_of Tryd.func43 rfl rfl (by simp [Tryd.ntmps43]) (evC_sound rfl _ _ _ _ ?_)
  simp only [Tryd.ntmps43, Tryd.results43, argEnv, List.length_nil]
  simp only [vcRules, dRules, bRules, tyRules, xRules, pickV_true, pickV_false, implies_true, Nat.reduceLT, Nat.reduceLeDiff, Nat.reduceEqDiff, Nat.reduceAdd, Nat.reduceSub, Nat.reduceMul, Int.reduceToNat, Int.reduceLT, Int.reduceLE, Int.reduceEq, Int.reduceAdd, Int.reduceSub, Int.reduceNeg, Int.reduceBEq, Int.reduceBNe, Int.reduceMul, Int.natCast_add, Int.natCast_one, reduceCtorEq, reduceIte, wN_isAgg, wN_cells, f_isAgg, f_cells, cRules, yRules]
  refine ifC.mk (fun hc => ?_) (fun hc => ?_)
  · have hc := of_decide_eq_true hc
    omega
  · repeat ((with_reducible refine And.intro ?_ ?_); (focus (first | omega | (simp only [List.length_take, List.length_drop, List.length_map, List.length_append, List.length_cons]; omega) | (refine (show quietOp _ = true from ?_); rfl) | (refine (show drawOk _ _ _ _ _ _ _ from Or.inl ?_); kernel_rfl) | (intros; simp_all; done))))
    refine callF_pure (c59 (M / 18446744073709551616) (M % 18446744073709551616) d h hd (by omega)) ?_
    rw [Nat.div_add_mod']
    simp only [vcRules, dRules, bRules, tyRules, xRules, pickV_true, pickV_false, implies_true, Nat.reduceLT, Nat.reduceLeDiff, Nat.reduceEqDiff, Nat.reduceAdd, Nat.reduceSub, Nat.reduceMul, Int.reduceToNat, Int.reduceLT, Int.reduceLE, Int.reduceEq, Int.reduceAdd, Int.reduceSub, Int.reduceNeg, Int.reduceBEq, Int.reduceBNe, Int.reduceMul, Int.natCast_add, Int.natCast_one, reduceCtorEq, reduceIte, wN_isAgg, wN_cells, f_isAgg, f_cells, cRules, yRules]
    exact ⟨_, _, ret_t2, rfl, rfl⟩
theorem total_eq {m n : Bool} (h : ¬ m = n) (x y : Nat) : sumG (m, x) (n, y) = (!(m == decide (x < y)), x - y + (y - x)) := by
  unfold sumG
  simp only
  rw [if_neg h]
  by_cases hl : x < y
  · rw [if_pos hl, decide_eq_true hl]
    refine Prod.ext ?_ (by simp only; omega)
    cases m <;> cases n <;> simp_all
  · rw [if_neg hl, decide_eq_false hl]
    refine Prod.ext ?_ (by simp only; omega)
    cases m <;> rfl
theorem c48 (m n : Bool) (x y : Nat) (hx : x < 170141183460469231731687303715884105728) (hy : y < 170141183460469231731687303715884105728) : Pure Tryd.prog Gl 48 [.d (.bool m), .d (wN x), .d (.bool n), .d (wN y)] (.tup [.d (.bool (sumG (m, x) (n, y)).1), .d (wN (sumG (m, x) (n, y)).2)]) := by
  refine Pure.ofT (args := [.bool m, wN x, .bool n, wN y]) (back_t2 _ _) ?_
  simp only [List.map_cons, List.map_nil]
  refine acalls_of Tryd.func48 rfl rfl (by simp [Tryd.ntmps48]) (evC_sound rfl _ _ _ _ ?_)
  simp only [Tryd.ntmps48, Tryd.results48, argEnv, List.length_nil]
  simp only [vcRules, dRules, bRules, tyRules, xRules, pickV_true, pickV_false, implies_true, Nat.reduceLT, Nat.reduceLeDiff, Nat.reduceEqDiff, Nat.reduceAdd, Nat.reduceSub, Nat.reduceMul, Int.reduceToNat, Int.reduceLT, Int.reduceLE, Int.reduceEq, Int.reduceAdd, Int.reduceSub, Int.reduceNeg, Int.reduceBEq, Int.reduceBNe, Int.reduceMul, Int.natCast_add, Int.natCast_one, reduceCtorEq, reduceIte, wN_isAgg, wN_cells, f_isAgg, f_cells, cRules, yRules]
  refine ifC.mk (fun hc => ?_) (fun hc => ?_)
  · have h : m = n := by simpa using hc
    refine callF_pure (c40 x y (by omega)) ?_
    simp only [vcRules, dRules, bRules, tyRules, xRules, pickV_true, pickV_false, implies_true, Nat.reduceLT, Nat.reduceLeDiff, Nat.reduceEqDiff, Nat.reduceAdd, Nat.reduceSub, Nat.reduceMul, Int.reduceToNat, Int.reduceLT, Int.reduceLE, Int.reduceEq, Int.reduceAdd, Int.reduceSub, Int.reduceNeg, Int.reduceBEq, Int.reduceBNe, Int.reduceMul, Int.natCast_add, Int.natCast_one, reduceCtorEq, reduceIte, wN_isAgg, wN_cells, f_isAgg, f_cells, cRules, yRules]
    rw [show sumG (m, x) (n, y) = (m, x + y) by simp [sumG, h]]
    exact ⟨_, _, ret_t2, rfl, rfl⟩
  · have h : ¬ m = n := by simpa using hc
    refine callF_pure (c41 x y (by omega) (by omega)) ?_
    simp only [vcRules, dRules, bRules, tyRules, xRules, pickV_true, pickV_false, implies_true, Nat.reduceLT, Nat.reduceLeDiff, Nat.reduceEqDiff, Nat.reduceAdd, Nat.reduceSub, Nat.reduceMul, Int.reduceToNat, Int.reduceLT, Int.reduceLE, Int.reduceEq, Int.reduceAdd, Int.reduceSub, Int.reduceNeg, Int.reduceBEq, Int.reduceBNe, Int.reduceMul, Int.natCast_add, Int.natCast_one, reduceCtorEq, reduceIte, wN_isAgg, wN_cells, f_isAgg, f_cells, cRules, yRules]
    repeat ((with_reducible refine And.intro ?_ ?_); (focus (first | omega | (simp only [List.length_take, List.length_drop, List.length_map, List.length_append, List.length_cons]; omega) | (refine (show quietOp _ = true from ?_); rfl) | (refine (show drawOk _ _ _ _ _ _ _ from Or.inl ?_); kernel_rfl) | (intros; simp_all; done))))
    rw [total_eq h]
    exact ⟨_, _, ret_t2, rfl, rfl⟩
theorem c11 (n d : Int) (h1 : -9223372036854775808 ≤ n) (h2 : n ≤ 9223372036854775807) (h3 : -9223372036854775808 ≤ d) (h4 : d ≤ 9223372036854775807) : Pure Tryd.prog Gl 11 [.d (.int .i64 n), .d (.int .i64 d)] (resD (ofS n d)) := by
  refine Pure.of2t2 ?_
  refine acalls_of Tryd.func11 rfl rfl (by simp [Tryd.ntmps11]) (evC_sound rfl _ _ _ _ ?_)
  simp only [Tryd.ntmps11, Tryd.results11, argEnv, List.length_nil]
  simp only [vcRules, dRules, bRules, tyRules, xRules, pickV_true, pickV_false, implies_true, Nat.reduceLT, Nat.reduceLeDiff, Nat.reduceEqDiff, Nat.reduceAdd, Nat.reduceSub, Nat.reduceMul, Int.reduceToNat, Int.reduceLT, Int.reduceLE, Int.reduceEq, Int.reduceAdd, Int.reduceSub, Int.reduceNeg, Int.reduceBEq, Int.reduceBNe, Int.reduceMul, Int.natCast_add, Int.natCast_one, reduceCtorEq, reduceIte, wN_isAgg, wN_cells, f_isAgg, f_cells, cRules, yRules]
  refine ifC.mk (fun hc => ?_) (fun hc => ?_)
  · have hc : d = 0 := by simpa using hc
    rw [ofS, if_pos hc]
    refine ⟨_, _, ret_t2, ?_, rfl⟩
    rfl
  · have hc : ¬ d = 0 := by simpa using hc
    have hg : 0 < Nat.gcd n.natAbs d.natAbs := Nat.gcd_pos_of_pos_right _ (by omega)
    refine callF_pure (c32 n h1 h2) ?_
    simp only [vcRules, dRules, bRules, tyRules, xRules, pickV_true, pickV_false, implies_true, Nat.reduceLT, Nat.reduceLeDiff, Nat.reduceEqDiff, Nat.reduceAdd, Nat.reduceSub, Nat.reduceMul, Int.reduceToNat, Int.reduceLT, Int.reduceLE, Int.reduceEq, Int.reduceAdd, Int.reduceSub, Int.reduceNeg, Int.reduceBEq, Int.reduceBNe, Int.reduceMul, Int.natCast_add, Int.natCast_one, reduceCtorEq, reduceIte, wN_isAgg, wN_cells, f_isAgg, f_cells, cRules, yRules]
    refine callF_pure (c32 d h3 h4) ?_
    simp only [vcRules, dRules, bRules, tyRules, xRules, pickV_true, pickV_false, implies_true, Nat.reduceLT, Nat.reduceLeDiff, Nat.reduceEqDiff, Nat.reduceAdd, Nat.reduceSub, Nat.reduceMul, Int.reduceToNat, Int.reduceLT, Int.reduceLE, Int.reduceEq, Int.reduceAdd, Int.reduceSub, Int.reduceNeg, Int.reduceBEq, Int.reduceBNe, Int.reduceMul, Int.natCast_add, Int.natCast_one, reduceCtorEq, reduceIte, wN_isAgg, wN_cells, f_isAgg, f_cells, cRules, yRules]
    refine callF_pure (c31 n.natAbs d.natAbs) ?_
    simp only [vcRules, dRules, bRules, tyRules, xRules, pickV_true, pickV_false, implies_true, Nat.reduceLT, Nat.reduceLeDiff, Nat.reduceEqDiff, Nat.reduceAdd, Nat.reduceSub, Nat.reduceMul, Int.reduceToNat, Int.reduceLT, Int.reduceLE, Int.reduceEq, Int.reduceAdd, Int.reduceSub, Int.reduceNeg, Int.reduceBEq, Int.reduceBNe, Int.reduceMul, Int.natCast_add, Int.natCast_one, reduceCtorEq, reduceIte, wN_isAgg, wN_cells, f_isAgg, f_cells, cRules, yRules]
    repeat ((with_reducible refine And.intro ?_ ?_); (focus (first | omega | (simp only [List.length_take, List.length_drop, List.length_map, List.length_append, List.length_cons]; omega) | (refine (show quietOp _ = true from ?_); rfl) | (refine (show drawOk _ _ _ _ _ _ _ from Or.inl ?_); kernel_rfl) | (intros; simp_all; done))))
    refine callF_pure (c32 n h1 h2) ?_
    have hq : n.natAbs / Nat.gcd n.natAbs d.natAbs < 18446744073709551616 := Nat.lt_of_le_of_lt (Nat.div_le_self _ _) (by omega)
    have hr : d.natAbs / Nat.gcd n.natAbs d.natAbs < 18446744073709551616 := Nat.lt_of_le_of_lt (Nat.div_le_self _ _) (by omega)
    simp only [vcRules, dRules, bRules, tyRules, xRules, pickV_true, pickV_false, implies_true, Nat.reduceLT, Nat.reduceLeDiff, Nat.reduceEqDiff, Nat.reduceAdd, Nat.reduceSub, Nat.reduceMul, Int.reduceToNat, Int.reduceLT, Int.reduceLE, Int.reduceEq, Int.reduceAdd, Int.reduceSub, Int.reduceNeg, Int.reduceBEq, Int.reduceBNe, Int.reduceMul, Int.natCast_add, Int.natCast_one, reduceCtorEq, reduceIte, wN_isAgg, wN_cells, f_isAgg, f_cells, cRules, yRules, quoU, quoN, Mul64.wrapN _ hq]
    generalize hgg : Nat.gcd n.natAbs d.natAbs = g at hg hq hr ⊢
    repeat ((with_reducible refine And.intro ?_ ?_); (focus (first | omega | (simp only [List.length_take, List.length_drop, List.length_map, List.length_append, List.length_cons]; omega) | (refine (show quietOp _ = true from ?_); rfl) | (refine (show drawOk _ _ _ _ _ _ _ from Or.inl ?_); kernel_rfl) | (intros; simp_all; done))))
    refine callF_pure (c32 d h3 h4) ?_
    simp only [vcRules, dRules, bRules, tyRules, xRules, pickV_true, pickV_false, implies_true, Nat.reduceLT, Nat.reduceLeDiff, Nat.reduceEqDiff, Nat.reduceAdd, Nat.reduceSub, Nat.reduceMul, Int.reduceToNat, Int.reduceLT, Int.reduceLE, Int.reduceEq, Int.reduceAdd, Int.reduceSub, Int.reduceNeg, Int.reduceBEq, Int.reduceBNe, Int.reduceMul, Int.natCast_add, Int.natCast_one, reduceCtorEq, reduceIte, wN_isAgg, wN_cells, f_isAgg, f_cells, cRules, yRules, quoU, quoN, Mul64.wrapN _ hr]
    repeat ((with_reducible refine And.intro ?_ ?_); (focus (first | omega | (simp only [List.length_take, List.length_drop, List.length_map, List.length_append, List.length_cons]; omega) | (refine (show quietOp _ = true from ?_); rfl) | (refine (show drawOk _ _ _ _ _ _ _ from Or.inl ?_); kernel_rfl) | (intros; simp_all; done))))
    refine callF_pure (c33 _ (n.natAbs / g) (d.natAbs / g) hq hr) ?_
    simp only [resD]
    simp only [vcRules, dRules, bRules, tyRules, xRules, pickV_true, pickV_false, implies_true, Nat.reduceLT, Nat.reduceLeDiff, Nat.reduceEqDiff, Nat.reduceAdd, Nat.reduceSub, Nat.reduceMul, Int.reduceToNat, Int.reduceLT, Int.reduceLE, Int.reduceEq, Int.reduceAdd, Int.reduceSub, Int.reduceNeg, Int.reduceBEq, Int.reduceBNe, Int.reduceMul, Int.natCast_add, Int.natCast_one, reduceCtorEq, reduceIte, wN_isAgg, wN_cells, f_isAgg, f_cells, cRules, yRules]
    refine ⟨_, _, ret_t2, ?_, rfl⟩
    rw [ofS, if_neg hc, normS_made, hgg]
    have e := madeP_sign (m := (n != 0 && !(decide (n < 0) == decide (d < 0)))) (m' := !(decide (n < 0) == decide (d < 0))) (n := n.natAbs / g) (d := d.natAbs / g) (fun h => by
      have : n ≠ 0 := by intro h0; apply h; rw [h0]; simp
      simp [this])
    rw [e]
/-- the sum, with the sign of the second one as it is told -/
def crossH (a b : FracT) (s : Bool) : Bool × Nat := sumG (decide (a.n < 0), a.n.natAbs * b.q.natAbs) (s, b.n.natAbs * a.q.natAbs)
def sumP (a b : FracT) (s : Bool) : FracT × Bool := if okF a = true ∧ okF b = true then normS (crossH a b s).1 (crossH a b s).2 (a.q.natAbs * b.q.natAbs) else failF
set_option maxHeartbeats 1000000 in
theorem c49 (a b : FracT) (mi : Bool) (ha : a.In) (hb : b.In) : Pure Tryd.prog Gl 49 [.d a.toD, .d b.toD, .d (.bool mi)] (resD (sumP a b (!(decide (b.n < 0) == mi)))) := by
  refine Pure.of3t2 ?_
  refine acalls_of Tryd.func49 rfl rfl (by simp [Tryd.ntmps49]) (evC_sound rfl _ _ _ _ ?_)
  simp only [Tryd.ntmps49, Tryd.results49, argEnv, List.length_nil]
  simp only [vcRules, dRules, bRules, tyRules, xRules, pickV_true, pickV_false, implies_true, Nat.reduceLT, Nat.reduceLeDiff, Nat.reduceEqDiff, Nat.reduceAdd, Nat.reduceSub, Nat.reduceMul, Int.reduceToNat, Int.reduceLT, Int.reduceLE, Int.reduceEq, Int.reduceAdd, Int.reduceSub, Int.reduceNeg, Int.reduceBEq, Int.reduceBNe, Int.reduceMul, Int.natCast_add, Int.natCast_one, reduceCtorEq, reduceIte, wN_isAgg, wN_cells, f_isAgg, f_cells, cRules, yRules]
  refine callF_pure (c13 a ha) ?_
  simp only [vcRules, dRules, bRules, tyRules, xRules, pickV_true, pickV_false, implies_true, Nat.reduceLT, Nat.reduceLeDiff, Nat.reduceEqDiff, Nat.reduceAdd, Nat.reduceSub, Nat.reduceMul, Int.reduceToNat, Int.reduceLT, Int.reduceLE, Int.reduceEq, Int.reduceAdd, Int.reduceSub, Int.reduceNeg, Int.reduceBEq, Int.reduceBNe, Int.reduceMul, Int.natCast_add, Int.natCast_one, reduceCtorEq, reduceIte, wN_isAgg, wN_cells, f_isAgg, f_cells, cRules, yRules]
  repeat ((with_reducible refine And.intro ?_ ?_); (focus (first | omega | (simp only [List.length_take, List.length_drop, List.length_map, List.length_append, List.length_cons]; omega) | (refine (show quietOp _ = true from ?_); rfl) | (refine (show drawOk _ _ _ _ _ _ _ from Or.inl ?_); kernel_rfl) | (intros; simp_all; done))))
  refine callG_pure (fun _ => c13 b hb) ?_
  simp only [vcRules, dRules, bRules, tyRules, xRules, pickV_true, pickV_false, implies_true, Nat.reduceLT, Nat.reduceLeDiff, Nat.reduceEqDiff, Nat.reduceAdd, Nat.reduceSub, Nat.reduceMul, Int.reduceToNat, Int.reduceLT, Int.reduceLE, Int.reduceEq, Int.reduceAdd, Int.reduceSub, Int.reduceNeg, Int.reduceBEq, Int.reduceBNe, Int.reduceMul, Int.natCast_add, Int.natCast_one, reduceCtorEq, reduceIte, wN_isAgg, wN_cells, f_isAgg, f_cells, cRules, yRules]
  refine ⟨fun h => by simpa using h, ?_⟩
  refine ifC.mk (fun hc => ?_) (fun hc => ?_)
  · have hn : ¬ (okF a = true ∧ okF b = true) := by
      rintro ⟨k1, k2⟩
      rw [k1, k2] at hc
      simp at hc
    rw [sumP, if_neg hn]
    refine ⟨_, _, ret_t2, ?_, rfl⟩
    rfl
  · have hn : okF a = true ∧ okF b = true := by
      cases k1 : okF a <;> cases k2 : okF b <;> simp [k1, k2] at hc ⊢
    rw [sumP, if_pos hn]
    have oa := okF_iff.1 hn.1
    have ob := okF_iff.1 hn.2
    have qa := oa.qa
    have qb := ob.qa
    have na := oa.na
    have nb := ob.na
    have ua := i_u a.q (by have := oa.d1; omega) ha.d2
    have ub := i_u b.q (by have := ob.d1; omega) hb.d2
    have qa0 := oa.q0
    have qb0 := ob.q0
    have ca : Nat.Coprime a.n.natAbs a.q.natAbs := oa.g
    have cb : Nat.Coprime b.n.natAbs b.q.natAbs := ob.g
    unfold crossH
    generalize hs : (!(decide (b.n < 0) == mi)) = sg
    generalize hm : decide (a.n < 0) = sm
    obtain ⟨q, hq⟩ : ∃ q, q = a.q.natAbs := ⟨_, rfl⟩
    obtain ⟨s, hs'⟩ : ∃ s, s = b.q.natAbs := ⟨_, rfl⟩
    obtain ⟨p, hp⟩ : ∃ p, p = a.n.natAbs := ⟨_, rfl⟩
    obtain ⟨r, hr⟩ : ∃ r, r = b.n.natAbs := ⟨_, rfl⟩
    rw [← hp, ← hq] at ca
    rw [← hr, ← hs'] at cb
    rw [← hq] at qa ua qa0
    rw [← hs'] at qb ub qb0
    rw [← hp] at na
    rw [← hr] at nb
    rw [← hp, ← hq, ← hr, ← hs']
    obtain ⟨g, hg⟩ : ∃ g, g = Nat.gcd q s := ⟨_, rfl⟩
    have g0 : 0 < g := by rw [hg]; exact Nat.gcd_pos_of_pos_left _ qa0
    have gq : g ≤ q := by rw [hg]; exact Nat.gcd_le_left _ qa0
    have sg' : s / g ≤ s := Nat.div_le_self _ _
    have qg' : q / g ≤ q := Nat.div_le_self _ _
    have m1 := mul_lim na (Nat.le_trans sg' qb)
    have m2 := mul_lim nb (Nat.le_trans qg' qa)
    obtain ⟨w, hw⟩ : ∃ w, w = (sumG (sm, p * (s / g)) (sg, r * (q / g))).2 := ⟨_, rfl⟩
    obtain ⟨t, ht⟩ : ∃ t, t = Nat.gcd w g := ⟨_, rfl⟩
    rw [short_sum ca cb qa0 qb0 hg hw ht]
    have hwl := sumG_le (sm, p * (s / g)) (sg, r * (q / g))
    rw [← hw] at hwl
    simp only at hwl
    have t0 : 0 < t := by rw [ht]; exact Nat.gcd_pos_of_pos_right _ g0
    have tg : t ≤ g := by rw [ht]; exact Nat.gcd_le_right _ g0
    have st' : s / t ≤ s := Nat.div_le_self _ _
    have m3 := mul_lim (Nat.le_trans qg' qa) (Nat.le_trans st' qb)
    have e1 : Int.tdiv (s : Int) (g : Int) = ((s / g : Nat) : Int) := quoN s g
    have e2 : Int.tdiv (q : Int) (g : Int) = ((q / g : Nat) : Int) := quoN q g
    have e3 : IntKind.u64.wrap ((s / g : Nat) : Int) = ((s / g : Nat) : Int) := Mul64.wrapN _ (by omega)
    have e4 : IntKind.u64.wrap ((q / g : Nat) : Int) = ((q / g : Nat) : Int) := Mul64.wrapN _ (by omega)
    simp only [vcRules, dRules, bRules, tyRules, xRules, pickV_true, pickV_false, implies_true, Nat.reduceLT, Nat.reduceLeDiff, Nat.reduceEqDiff, Nat.reduceAdd, Nat.reduceSub, Nat.reduceMul, Int.reduceToNat, Int.reduceLT, Int.reduceLE, Int.reduceEq, Int.reduceAdd, Int.reduceSub, Int.reduceNeg, Int.reduceBEq, Int.reduceBNe, Int.reduceMul, Int.natCast_add, Int.natCast_one, reduceCtorEq, reduceIte, wN_isAgg, wN_cells, f_isAgg, f_cells, cRules, yRules, ua, ub]
    repeat ((with_reducible refine And.intro ?_ ?_); (focus (first | omega | (simp only [List.length_take, List.length_drop, List.length_map, List.length_append, List.length_cons]; omega) | (refine (show quietOp _ = true from ?_); rfl) | (refine (show drawOk _ _ _ _ _ _ _ from Or.inl ?_); kernel_rfl) | (intros; simp_all; done))))
    refine callF_pure (c31 q s) ?_
    rw [← hg]
    simp only [vcRules, dRules, bRules, tyRules, xRules, pickV_true, pickV_false, implies_true, Nat.reduceLT, Nat.reduceLeDiff, Nat.reduceEqDiff, Nat.reduceAdd, Nat.reduceSub, Nat.reduceMul, Int.reduceToNat, Int.reduceLT, Int.reduceLE, Int.reduceEq, Int.reduceAdd, Int.reduceSub, Int.reduceNeg, Int.reduceBEq, Int.reduceBNe, Int.reduceMul, Int.natCast_add, Int.natCast_one, reduceCtorEq, reduceIte, wN_isAgg, wN_cells, f_isAgg, f_cells, cRules, yRules, ua, ub]
    repeat ((with_reducible refine And.intro ?_ ?_); (focus (first | omega | (simp only [List.length_take, List.length_drop, List.length_map, List.length_append, List.length_cons]; omega) | (refine (show quietOp _ = true from ?_); rfl) | (refine (show drawOk _ _ _ _ _ _ _ from Or.inl ?_); kernel_rfl) | (intros; simp_all; done))))
    refine callF_pure (c32 a.n ha.n1 ha.n2) ?_
    rw [← hp]
    simp only [vcRules, dRules, bRules, tyRules, xRules, pickV_true, pickV_false, implies_true, Nat.reduceLT, Nat.reduceLeDiff, Nat.reduceEqDiff, Nat.reduceAdd, Nat.reduceSub, Nat.reduceMul, Int.reduceToNat, Int.reduceLT, Int.reduceLE, Int.reduceEq, Int.reduceAdd, Int.reduceSub, Int.reduceNeg, Int.reduceBEq, Int.reduceBNe, Int.reduceMul, Int.natCast_add, Int.natCast_one, reduceCtorEq, reduceIte, wN_isAgg, wN_cells, f_isAgg, f_cells, cRules, yRules, quoU, e1, e2, e3, e4]
    repeat ((with_reducible refine And.intro ?_ ?_); (focus (first | omega | (simp only [List.length_take, List.length_drop, List.length_map, List.length_append, List.length_cons]; omega) | (refine (show quietOp _ = true from ?_); rfl) | (refine (show drawOk _ _ _ _ _ _ _ from Or.inl ?_); kernel_rfl) | (intros; simp_all; done))))
    refine callF_pure (c39 p (s / g) (by omega) (by omega)) ?_
    simp only [vcRules, dRules, bRules, tyRules, xRules, pickV_true, pickV_false, implies_true, Nat.reduceLT, Nat.reduceLeDiff, Nat.reduceEqDiff, Nat.reduceAdd, Nat.reduceSub, Nat.reduceMul, Int.reduceToNat, Int.reduceLT, Int.reduceLE, Int.reduceEq, Int.reduceAdd, Int.reduceSub, Int.reduceNeg, Int.reduceBEq, Int.reduceBNe, Int.reduceMul, Int.natCast_add, Int.natCast_one, reduceCtorEq, reduceIte, wN_isAgg, wN_cells, f_isAgg, f_cells, cRules, yRules]
    refine callF_pure (c32 b.n hb.n1 hb.n2) ?_
    rw [← hr]
    simp only [vcRules, dRules, bRules, tyRules, xRules, pickV_true, pickV_false, implies_true, Nat.reduceLT, Nat.reduceLeDiff, Nat.reduceEqDiff, Nat.reduceAdd, Nat.reduceSub, Nat.reduceMul, Int.reduceToNat, Int.reduceLT, Int.reduceLE, Int.reduceEq, Int.reduceAdd, Int.reduceSub, Int.reduceNeg, Int.reduceBEq, Int.reduceBNe, Int.reduceMul, Int.natCast_add, Int.natCast_one, reduceCtorEq, reduceIte, wN_isAgg, wN_cells, f_isAgg, f_cells, cRules, yRules, quoU, e1, e2, e3, e4]
    repeat ((with_reducible refine And.intro ?_ ?_); (focus (first | omega | (simp only [List.length_take, List.length_drop, List.length_map, List.length_append, List.length_cons]; omega) | (refine (show quietOp _ = true from ?_); rfl) | (refine (show drawOk _ _ _ _ _ _ _ from Or.inl ?_); kernel_rfl) | (intros; simp_all; done))))
    refine callF_pure (c39 r (q / g) (by omega) (by omega)) ?_
    simp only [vcRules, dRules, bRules, tyRules, xRules, pickV_true, pickV_false, implies_true, Nat.reduceLT, Nat.reduceLeDiff, Nat.reduceEqDiff, Nat.reduceAdd, Nat.reduceSub, Nat.reduceMul, Int.reduceToNat, Int.reduceLT, Int.reduceLE, Int.reduceEq, Int.reduceAdd, Int.reduceSub, Int.reduceNeg, Int.reduceBEq, Int.reduceBNe, Int.reduceMul, Int.natCast_add, Int.natCast_one, reduceCtorEq, reduceIte, wN_isAgg, wN_cells, f_isAgg, f_cells, cRules, yRules, hs, hm]
    refine callF_pure (c48 sm sg (p * (s / g)) (r * (q / g)) (by omega) (by omega)) ?_
    rw [← hw]
    have z0 : D.agg [.int .u64 0, .int .u64 0] = wN 0 := rfl
    simp only [vcRules, dRules, bRules, tyRules, xRules, pickV_true, pickV_false, implies_true, Nat.reduceLT, Nat.reduceLeDiff, Nat.reduceEqDiff, Nat.reduceAdd, Nat.reduceSub, Nat.reduceMul, Int.reduceToNat, Int.reduceLT, Int.reduceLE, Int.reduceEq, Int.reduceAdd, Int.reduceSub, Int.reduceNeg, Int.reduceBEq, Int.reduceBNe, Int.reduceMul, Int.natCast_add, Int.natCast_one, reduceCtorEq, reduceIte, wN_isAgg, wN_cells, f_isAgg, f_cells, cRules, yRules, z0]
    refine ifC.mk (fun hz => ?_) (fun hz => ?_)
    · have hz : w = 0 := by simpa using hz
      refine ⟨_, _, ret_t2, ?_, rfl⟩
      have et : t = g := by rw [ht, hz, Nat.gcd_zero_left]
      obtain ⟨k1, k2⟩ := short_cop ca cb qa0 qb0 hg hw
      rw [hz] at k1 k2
      have k1 : q / g = 1 := by rw [← Nat.gcd_zero_left (q / g)]; exact k1
      have k2 : s / g = 1 := by rw [← Nat.gcd_zero_left (s / g)]; exact k2
      rw [et, k1, k2, hz, Nat.zero_div]
      unfold madeP
      rw [if_pos (by decide)]
      have ef : ∀ b : Bool, (if b = true then -((0 : Nat) : Int) else ((0 : Nat) : Int)) = 0 := fun b => by cases b <;> rfl
      rw [ef]; rfl
    · have hz : ¬ w = 0 := by simpa using hz
      refine callF_pure (c42 w g (by omega) g0 (by omega)) ?_
      simp only [vcRules, dRules, bRules, tyRules, xRules, pickV_true, pickV_false, implies_true, Nat.reduceLT, Nat.reduceLeDiff, Nat.reduceEqDiff, Nat.reduceAdd, Nat.reduceSub, Nat.reduceMul, Int.reduceToNat, Int.reduceLT, Int.reduceLE, Int.reduceEq, Int.reduceAdd, Int.reduceSub, Int.reduceNeg, Int.reduceBEq, Int.reduceBNe, Int.reduceMul, Int.natCast_add, Int.natCast_one, reduceCtorEq, reduceIte, wN_isAgg, wN_cells, f_isAgg, f_cells, cRules, yRules]
      refine callF_pure (c31 (w % g) g) ?_
      have et : Nat.gcd (w % g) g = t := by rw [ht, Nat.gcd_comm w g, ← Nat.gcd_rec, Nat.gcd_comm]
      rw [et]
      simp only [vcRules, dRules, bRules, tyRules, xRules, pickV_true, pickV_false, implies_true, Nat.reduceLT, Nat.reduceLeDiff, Nat.reduceEqDiff, Nat.reduceAdd, Nat.reduceSub, Nat.reduceMul, Int.reduceToNat, Int.reduceLT, Int.reduceLE, Int.reduceEq, Int.reduceAdd, Int.reduceSub, Int.reduceNeg, Int.reduceBEq, Int.reduceBNe, Int.reduceMul, Int.natCast_add, Int.natCast_one, reduceCtorEq, reduceIte, wN_isAgg, wN_cells, f_isAgg, f_cells, cRules, yRules]
      have e5 : Int.tdiv (s : Int) (t : Int) = ((s / t : Nat) : Int) := quoN s t
      have e6 : IntKind.u64.wrap ((s / t : Nat) : Int) = ((s / t : Nat) : Int) := Mul64.wrapN _ (by omega)
      by_cases hov : w / 18446744073709551616 < t
      · refine callF_pure (c43b w t (by omega) t0 (by omega) hov) ?_
        simp only [vcRules, dRules, bRules, tyRules, xRules, pickV_true, pickV_false, implies_true, Nat.reduceLT, Nat.reduceLeDiff, Nat.reduceEqDiff, Nat.reduceAdd, Nat.reduceSub, Nat.reduceMul, Int.reduceToNat, Int.reduceLT, Int.reduceLE, Int.reduceEq, Int.reduceAdd, Int.reduceSub, Int.reduceNeg, Int.reduceBEq, Int.reduceBNe, Int.reduceMul, Int.natCast_add, Int.natCast_one, reduceCtorEq, reduceIte, wN_isAgg, wN_cells, f_isAgg, f_cells, cRules, yRules, quoU, e2, e4, e5, e6]
        repeat ((with_reducible refine And.intro ?_ ?_); (focus (first | omega | (simp only [List.length_take, List.length_drop, List.length_map, List.length_append, List.length_cons]; omega) | (refine (show quietOp _ = true from ?_); rfl) | (refine (show drawOk _ _ _ _ _ _ _ from Or.inl ?_); kernel_rfl) | (intros; simp_all; done))))
        refine callF_pure (c39 (q / g) (s / t) (by omega) (by omega)) ?_
        simp only [vcRules, dRules, bRules, tyRules, xRules, pickV_true, pickV_false, implies_true, Nat.reduceLT, Nat.reduceLeDiff, Nat.reduceEqDiff, Nat.reduceAdd, Nat.reduceSub, Nat.reduceMul, Int.reduceToNat, Int.reduceLT, Int.reduceLE, Int.reduceEq, Int.reduceAdd, Int.reduceSub, Int.reduceNeg, Int.reduceBEq, Int.reduceBNe, Int.reduceMul, Int.natCast_add, Int.natCast_one, reduceCtorEq, reduceIte, wN_isAgg, wN_cells, f_isAgg, f_cells, cRules, yRules]
        have hn64 : w / t < 18446744073709551616 := by
          rw [Nat.div_lt_iff_lt_mul t0]
          have := Nat.div_add_mod' w 18446744073709551616
          have h2 : (w / 18446744073709551616 + 1) * 18446744073709551616 ≤ t * 18446744073709551616 := Nat.mul_le_mul_right _ hov
          rw [Nat.mul_comm] at h2 ⊢
          omega
        generalize sumG (sm, p * (s / g)) (sg, r * (q / g)) = pp
        generalize q / g * (s / t) = dd at m3 ⊢
        generalize w / t = nn at hn64 ⊢
        refine ifC.mk (fun hd => ?_) (fun hd => ?_)
        · have hd : 18446744073709551616 ≤ dd := by
            simp only [bne_iff_ne, ne_eq] at hd
            omega
          rw [show madeP pp.1 nn dd = failF by unfold madeP; rw [if_neg (by omega)]]
          refine ⟨_, _, ret_t2, ?_, rfl⟩
          rfl
        · have hd : dd < 18446744073709551616 := by
            have := Bool.eq_false_iff.1 hd
            simp only [bne_iff_ne, ne_eq, Classical.not_not] at this
            omega
          rw [show dd % 18446744073709551616 = dd by omega]
          refine callF_pure (c33 pp.1 nn dd hn64 hd) ?_
          simp only [resD]
          simp only [vcRules, dRules, bRules, tyRules, xRules, pickV_true, pickV_false, implies_true, Nat.reduceLT, Nat.reduceLeDiff, Nat.reduceEqDiff, Nat.reduceAdd, Nat.reduceSub, Nat.reduceMul, Int.reduceToNat, Int.reduceLT, Int.reduceLE, Int.reduceEq, Int.reduceAdd, Int.reduceSub, Int.reduceNeg, Int.reduceBEq, Int.reduceBNe, Int.reduceMul, Int.natCast_add, Int.natCast_one, reduceCtorEq, reduceIte, wN_isAgg, wN_cells, f_isAgg, f_cells, cRules, yRules]
          exact ⟨_, _, ret_t2, rfl, rfl⟩
      · refine callF_pure (c43a w t (by omega) t0 (by omega) (by omega)) ?_
        simp only [vcRules, dRules, bRules, tyRules, xRules, pickV_true, pickV_false, implies_true, Nat.reduceLT, Nat.reduceLeDiff, Nat.reduceEqDiff, Nat.reduceAdd, Nat.reduceSub, Nat.reduceMul, Int.reduceToNat, Int.reduceLT, Int.reduceLE, Int.reduceEq, Int.reduceAdd, Int.reduceSub, Int.reduceNeg, Int.reduceBEq, Int.reduceBNe, Int.reduceMul, Int.natCast_add, Int.natCast_one, reduceCtorEq, reduceIte, wN_isAgg, wN_cells, f_isAgg, f_cells, cRules, yRules, quoU, e2, e4, e5, e6]
        repeat ((with_reducible refine And.intro ?_ ?_); (focus (first | omega | (simp only [List.length_take, List.length_drop, List.length_map, List.length_append, List.length_cons]; omega) | (refine (show quietOp _ = true from ?_); rfl) | (refine (show drawOk _ _ _ _ _ _ _ from Or.inl ?_); kernel_rfl) | (intros; simp_all; done))))
        refine callF_pure (c39 (q / g) (s / t) (by omega) (by omega)) ?_
        simp only [vcRules, dRules, bRules, tyRules, xRules, pickV_true, pickV_false, implies_true, Nat.reduceLT, Nat.reduceLeDiff, Nat.reduceEqDiff, Nat.reduceAdd, Nat.reduceSub, Nat.reduceMul, Int.reduceToNat, Int.reduceLT, Int.reduceLE, Int.reduceEq, Int.reduceAdd, Int.reduceSub, Int.reduceNeg, Int.reduceBEq, Int.reduceBNe, Int.reduceMul, Int.natCast_add, Int.natCast_one, reduceCtorEq, reduceIte, wN_isAgg, wN_cells, f_isAgg, f_cells, cRules, yRules]
        have hn64 : 18446744073709551616 ≤ w / t := by
          rw [Nat.le_div_iff_mul_le t0]
          have := Nat.div_add_mod' w 18446744073709551616
          have h2 : t * 18446744073709551616 ≤ w / 18446744073709551616 * 18446744073709551616 := Nat.mul_le_mul_right _ (by omega)
          rw [Nat.mul_comm] at h2 ⊢
          omega
        rw [show madeP (sumG (sm, p * (s / g)) (sg, r * (q / g))).1 (w / t) (q / g * (s / t)) = failF by unfold madeP; rw [if_neg (by omega)]]
        (try simp only [vcRules, dRules, bRules, tyRules, xRules, pickV_true, pickV_false, implies_true, Nat.reduceLT, Nat.reduceLeDiff, Nat.reduceEqDiff, Nat.reduceAdd, Nat.reduceSub, Nat.reduceMul, Int.reduceToNat, Int.reduceLT, Int.reduceLE, Int.reduceEq, Int.reduceAdd, Int.reduceSub, Int.reduceNeg, Int.reduceBEq, Int.reduceBNe, Int.reduceMul, Int.natCast_add, Int.natCast_one, reduceCtorEq, reduceIte, wN_isAgg, wN_cells, f_isAgg, f_cells, cRules, yRules])
        refine ⟨_, _, ret_t2, ?_, rfl⟩
        rfl
theorem c25 (a b : FracT) (ha : a.In) (hb : b.In) : Pure Tryd.prog Gl 25 [.d a.toD, .d b.toD] (resD (sumP a b (decide (b.n < 0)))) := by
  refine Pure.of2t2 ?_
  refine acalls_of Tryd.func25 rfl rfl (by simp [Tryd.ntmps25]) (evC_sound rfl _ _ _ _ ?_)
  simp only [Tryd.ntmps25, Tryd.results25, argEnv, List.length_nil]
  simp only [vcRules, dRules, bRules, tyRules, xRules, pickV_true, pickV_false, implies_true, Nat.reduceLT, Nat.reduceLeDiff, Nat.reduceEqDiff, Nat.reduceAdd, Nat.reduceSub, Nat.reduceMul, Int.reduceToNat, Int.reduceLT, Int.reduceLE, Int.reduceEq, Int.reduceAdd, Int.reduceSub, Int.reduceNeg, Int.reduceBEq, Int.reduceBNe, Int.reduceMul, Int.natCast_add, Int.natCast_one, reduceCtorEq, reduceIte, wN_isAgg, wN_cells, f_isAgg, f_cells, cRules, yRules]
  have h := c49 (Gl := Gl) a b false ha hb
  rw [show (!(decide (b.n < 0) == false)) = decide (b.n < 0) by cases decide (b.n < 0) <;> rfl] at h
  refine callF_pure h ?_
  simp only [resD]
  simp only [vcRules, dRules, bRules, tyRules, xRules, pickV_true, pickV_false, implies_true, Nat.reduceLT, Nat.reduceLeDiff, Nat.reduceEqDiff, Nat.reduceAdd, Nat.reduceSub, Nat.reduceMul, Int.reduceToNat, Int.reduceLT, Int.reduceLE, Int.reduceEq, Int.reduceAdd, Int.reduceSub, Int.reduceNeg, Int.reduceBEq, Int.reduceBNe, Int.reduceMul, Int.natCast_add, Int.natCast_one, reduceCtorEq, reduceIte, wN_isAgg, wN_cells, f_isAgg, f_cells, cRules, yRules]
  exact ⟨_, _, ret_t2, rfl, rfl⟩
theorem c23 (a b : FracT) (ha : a.In) (hb : b.In) : Pure Tryd.prog Gl 23 [.d a.toD, .d b.toD] (resD (sumP a b (!decide (b.n < 0)))) := by
  refine Pure.of2t2 ?_
  refine acalls_of Tryd.func23 rfl rfl (by simp [Tryd.ntmps23]) (evC_sound rfl _ _ _ _ ?_)
  simp only [Tryd.ntmps23, Tryd.results23, argEnv, List.length_nil]
  simp only [vcRules, dRules, bRules, tyRules, xRules, pickV_true, pickV_false, implies_true, Nat.reduceLT, Nat.reduceLeDiff, Nat.reduceEqDiff, Nat.reduceAdd, Nat.reduceSub, Nat.reduceMul, Int.reduceToNat, Int.reduceLT, Int.reduceLE, Int.reduceEq, Int.reduceAdd, Int.reduceSub, Int.reduceNeg, Int.reduceBEq, Int.reduceBNe, Int.reduceMul, Int.natCast_add, Int.natCast_one, reduceCtorEq, reduceIte, wN_isAgg, wN_cells, f_isAgg, f_cells, cRules, yRules]
  have h := c49 (Gl := Gl) a b true ha hb
  rw [show (!(decide (b.n < 0) == true)) = !decide (b.n < 0) by cases decide (b.n < 0) <;> rfl] at h
  refine callF_pure h ?_
  simp only [resD]
  simp only [vcRules, dRules, bRules, tyRules, xRules, pickV_true, pickV_false, implies_true, Nat.reduceLT, Nat.reduceLeDiff, Nat.reduceEqDiff, Nat.reduceAdd, Nat.reduceSub, Nat.reduceMul, Int.reduceToNat, Int.reduceLT, Int.reduceLE, Int.reduceEq, Int.reduceAdd, Int.reduceSub, Int.reduceNeg, Int.reduceBEq, Int.reduceBNe, Int.reduceMul, Int.natCast_add, Int.natCast_one, reduceCtorEq, reduceIte, wN_isAgg, wN_cells, f_isAgg, f_cells, cRules, yRules]
  exact ⟨_, _, ret_t2, rfl, rfl⟩
theorem sumP_add (a b : FracT) : sumP a b (decide (b.n < 0)) = addS a b := rfl
theorem crossH_neg {a b : FracT} (hb : b.Ok) : crossH a b (!decide (b.n < 0)) = crossG a (negF b) := by
  obtain ⟨_, e⟩ := hb.neg
  unfold crossH crossG
  rw [e, Int.natAbs_neg]
  show sumG _ _ = sumG (_, a.n.natAbs * b.q.natAbs) _
  by_cases h0 : b.n = 0
  · rw [h0]
    simp only [Int.natAbs_zero, Nat.zero_mul, sumG_zero]
  · have : (!decide (b.n < 0)) = decide (-b.n < 0) := by
      by_cases h : b.n < 0
      · rw [decide_eq_true h, decide_eq_false (by omega)]; rfl
      · rw [decide_eq_false h, decide_eq_true (by omega)]; rfl
    rw [this]
theorem sumP_sub (a b : FracT) : sumP a b (!decide (b.n < 0)) = subS a b := by
  unfold sumP subS addS
  by_cases hb : okF b = true
  · obtain ⟨k, _⟩ := (okF_iff.1 hb).neg
    rw [if_pos hb]
    have k := okF_iff.2 k
    by_cases ha : okF a = true
    · rw [if_pos ⟨ha, hb⟩, if_pos ⟨ha, k⟩, crossH_neg (okF_iff.1 hb)]
      rfl
    · rw [if_neg (fun h => ha h.1), if_neg (fun h => ha h.1)]
  · rw [if_neg hb, if_neg (fun h => hb h.2)]
theorem c22 (a b : FracT) (ha : a.In) (hb : b.In) : Pure Tryd.prog Gl 22 [.d a.toD, .d b.toD] (.d (.int .i64 (cmpS a b))) := by
  refine Pure.of2 ?_
  refine acalls_of Tryd.func22 rfl rfl (by simp [Tryd.ntmps22]) (evC_sound rfl _ _ _ _ ?_)
  simp only [Tryd.ntmps22, Tryd.results22, argEnv, List.length_nil]
  simp only [vcRules, dRules, bRules, tyRules, xRules, pickV_true, pickV_false, implies_true, Nat.reduceLT, Nat.reduceLeDiff, Nat.reduceEqDiff, Nat.reduceAdd, Nat.reduceSub, Nat.reduceMul, Int.reduceToNat, Int.reduceLT, Int.reduceLE, Int.reduceEq, Int.reduceAdd, Int.reduceSub, Int.reduceNeg, Int.reduceBEq, Int.reduceBNe, Int.reduceMul, Int.natCast_add, Int.natCast_one, reduceCtorEq, reduceIte, wN_isAgg, wN_cells, f_isAgg, f_cells, cRules, yRules]
  repeat ((with_reducible refine And.intro ?_ ?_); (focus (first | omega | (simp only [List.length_take, List.length_drop, List.length_map, List.length_append, List.length_cons]; omega) | (refine (show quietOp _ = true from ?_); rfl) | (refine (show drawOk _ _ _ _ _ _ _ from Or.inl ?_); kernel_rfl) | (intros; simp_all; done))))
  refine callF_pure (c47 a ha) ?_
  simp only [vcRules, dRules, bRules, tyRules, xRules, pickV_true, pickV_false, implies_true, Nat.reduceLT, Nat.reduceLeDiff, Nat.reduceEqDiff, Nat.reduceAdd, Nat.reduceSub, Nat.reduceMul, Int.reduceToNat, Int.reduceLT, Int.reduceLE, Int.reduceEq, Int.reduceAdd, Int.reduceSub, Int.reduceNeg, Int.reduceBEq, Int.reduceBNe, Int.reduceMul, Int.natCast_add, Int.natCast_one, reduceCtorEq, reduceIte, wN_isAgg, wN_cells, f_isAgg, f_cells, cRules, yRules]
  refine callF_pure (c47 b hb) ?_
  simp only [vcRules, dRules, bRules, tyRules, xRules, pickV_true, pickV_false, implies_true, Nat.reduceLT, Nat.reduceLeDiff, Nat.reduceEqDiff, Nat.reduceAdd, Nat.reduceSub, Nat.reduceMul, Int.reduceToNat, Int.reduceLT, Int.reduceLE, Int.reduceEq, Int.reduceAdd, Int.reduceSub, Int.reduceNeg, Int.reduceBEq, Int.reduceBNe, Int.reduceMul, Int.natCast_add, Int.natCast_one, reduceCtorEq, reduceIte, wN_isAgg, wN_cells, f_isAgg, f_cells, cRules, yRules]
  unfold cmpS
  have oa := usF_ok a
  have ob := usF_ok b
  rw [← crossH_neg ob]
  generalize usF a = x at oa ⊢
  generalize usF b = y at ob ⊢
  unfold crossH
  have m1 := mul_lim oa.na ob.qa
  have m2 := mul_lim ob.na oa.qa
  have na := oa.na
  have nb := ob.na
  have qa := oa.qa
  have qb := ob.qa
  have ix := oa.in_
  have iy := ob.in_
  have ua := i_u x.q (by have := oa.d1; omega) ix.d2
  have ub := i_u y.q (by have := ob.d1; omega) iy.d2
  have hs := sumG_le (decide (x.n < 0), x.n.natAbs * y.q.natAbs) (!decide (y.n < 0), y.n.natAbs * x.q.natAbs)
  have es : decide (0 ≤ y.n) = !decide (y.n < 0) := by
    by_cases h : y.n < 0
    · rw [decide_eq_true h, decide_eq_false (by omega)]; rfl
    · rw [decide_eq_false h, decide_eq_true (by omega)]; rfl
  (try simp only [vcRules, dRules, bRules, tyRules, xRules, pickV_true, pickV_false, implies_true, Nat.reduceLT, Nat.reduceLeDiff, Nat.reduceEqDiff, Nat.reduceAdd, Nat.reduceSub, Nat.reduceMul, Int.reduceToNat, Int.reduceLT, Int.reduceLE, Int.reduceEq, Int.reduceAdd, Int.reduceSub, Int.reduceNeg, Int.reduceBEq, Int.reduceBNe, Int.reduceMul, Int.natCast_add, Int.natCast_one, reduceCtorEq, reduceIte, wN_isAgg, wN_cells, f_isAgg, f_cells, cRules, yRules, ua, ub])
  repeat ((with_reducible refine And.intro ?_ ?_); (focus (first | omega | (simp only [List.length_take, List.length_drop, List.length_map, List.length_append, List.length_cons]; omega) | (refine (show quietOp _ = true from ?_); rfl) | (refine (show drawOk _ _ _ _ _ _ _ from Or.inl ?_); kernel_rfl) | (intros; simp_all; done))))
  refine callF_pure (c32 x.n ix.n1 ix.n2) ?_
  simp only [vcRules, dRules, bRules, tyRules, xRules, pickV_true, pickV_false, implies_true, Nat.reduceLT, Nat.reduceLeDiff, Nat.reduceEqDiff, Nat.reduceAdd, Nat.reduceSub, Nat.reduceMul, Int.reduceToNat, Int.reduceLT, Int.reduceLE, Int.reduceEq, Int.reduceAdd, Int.reduceSub, Int.reduceNeg, Int.reduceBEq, Int.reduceBNe, Int.reduceMul, Int.natCast_add, Int.natCast_one, reduceCtorEq, reduceIte, wN_isAgg, wN_cells, f_isAgg, f_cells, cRules, yRules, ua, ub]
  refine callF_pure (c39 x.n.natAbs y.q.natAbs (by omega) (by omega)) ?_
  simp only [vcRules, dRules, bRules, tyRules, xRules, pickV_true, pickV_false, implies_true, Nat.reduceLT, Nat.reduceLeDiff, Nat.reduceEqDiff, Nat.reduceAdd, Nat.reduceSub, Nat.reduceMul, Int.reduceToNat, Int.reduceLT, Int.reduceLE, Int.reduceEq, Int.reduceAdd, Int.reduceSub, Int.reduceNeg, Int.reduceBEq, Int.reduceBNe, Int.reduceMul, Int.natCast_add, Int.natCast_one, reduceCtorEq, reduceIte, wN_isAgg, wN_cells, f_isAgg, f_cells, cRules, yRules]
  refine callF_pure (c32 y.n iy.n1 iy.n2) ?_
  simp only [vcRules, dRules, bRules, tyRules, xRules, pickV_true, pickV_false, implies_true, Nat.reduceLT, Nat.reduceLeDiff, Nat.reduceEqDiff, Nat.reduceAdd, Nat.reduceSub, Nat.reduceMul, Int.reduceToNat, Int.reduceLT, Int.reduceLE, Int.reduceEq, Int.reduceAdd, Int.reduceSub, Int.reduceNeg, Int.reduceBEq, Int.reduceBNe, Int.reduceMul, Int.natCast_add, Int.natCast_one, reduceCtorEq, reduceIte, wN_isAgg, wN_cells, f_isAgg, f_cells, cRules, yRules, ua, ub]
  refine callF_pure (c39 y.n.natAbs x.q.natAbs (by omega) (by omega)) ?_
  simp only [vcRules, dRules, bRules, tyRules, xRules, pickV_true, pickV_false, implies_true, Nat.reduceLT, Nat.reduceLeDiff, Nat.reduceEqDiff, Nat.reduceAdd, Nat.reduceSub, Nat.reduceMul, Int.reduceToNat, Int.reduceLT, Int.reduceLE, Int.reduceEq, Int.reduceAdd, Int.reduceSub, Int.reduceNeg, Int.reduceBEq, Int.reduceBNe, Int.reduceMul, Int.natCast_add, Int.natCast_one, reduceCtorEq, reduceIte, wN_isAgg, wN_cells, f_isAgg, f_cells, cRules, yRules, es]
  refine callF_pure (c48 (decide (x.n < 0)) (!decide (y.n < 0)) (x.n.natAbs * y.q.natAbs) (y.n.natAbs * x.q.natAbs) (by omega) (by omega)) ?_
  generalize sumG (decide (x.n < 0), x.n.natAbs * y.q.natAbs) (!decide (y.n < 0), y.n.natAbs * x.q.natAbs) = pp
  have z0 : D.agg [.int .u64 0, .int .u64 0] = wN 0 := rfl
  simp only [vcRules, dRules, bRules, tyRules, xRules, pickV_true, pickV_false, implies_true, Nat.reduceLT, Nat.reduceLeDiff, Nat.reduceEqDiff, Nat.reduceAdd, Nat.reduceSub, Nat.reduceMul, Int.reduceToNat, Int.reduceLT, Int.reduceLE, Int.reduceEq, Int.reduceAdd, Int.reduceSub, Int.reduceNeg, Int.reduceBEq, Int.reduceBNe, Int.reduceMul, Int.natCast_add, Int.natCast_one, reduceCtorEq, reduceIte, wN_isAgg, wN_cells, f_isAgg, f_cells, cRules, yRules, z0]
  refine ifC.mk (fun hc => ?_) (fun hc => ?_)
  · have hc : pp.2 = 0 := by simpa using hc
    rw [if_pos hc]; exact ⟨_, _, ret_d, rfl, rfl⟩
  · have hc : ¬ pp.2 = 0 := by simpa using hc
    rw [if_neg hc]
    refine ifC.mk (fun hm => ?_) (fun hm => ?_)
    · rw [if_pos hm]; exact ⟨_, _, ret_d, rfl, rfl⟩
    · rw [if_neg (by rw [hm]; exact Bool.false_ne_true)]; exact ⟨_, _, ret_d, rfl, rfl⟩
end YtkoebmjenkajdaaDoor
end Go.Proofs
