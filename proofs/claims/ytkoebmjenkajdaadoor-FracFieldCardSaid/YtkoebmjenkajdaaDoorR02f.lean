/- A part of the proof: contracts of functions of this seat, and lemmas. No condition beyond those stated. -/
import Derived.Test.YtkoebmjenkajdaaDoorR02b
set_option linter.unusedVariables false
set_option linter.unusedSimpArgs false
set_option linter.unusedSectionVars false
set_option linter.unnecessarySimpa false
set_option linter.unusedSimpArgs false
set_option linter.unusedVariables false
set_option maxRecDepth 100000
namespace Go.Proofs
open Go.AM
namespace YtkoebmjenkajdaaDoor
variable {Gl : Globs}
theorem lo_bit (M i : Nat) (hi : i < 64) : (M % 18446744073709551616) / 2 ^ i % 2 = M / 2 ^ i % 2 := by
  have h := Nat.testBit_mod_two_pow M 64 i
  simp only [hi, decide_true, Bool.true_and, Nat.testBit_eq_decide_div_mod_eq] at h
  have h2 : (2 : Nat) ^ 64 = 18446744073709551616 := rfl
  rw [h2] at h
  have := decide_eq_decide.1 h
  omega
theorem hi_bit (M i : Nat) (hi : 64 ≤ i) : (M / 18446744073709551616) / 2 ^ (i - 64) = M / 2 ^ i := by
  have h2 : (18446744073709551616 : Nat) = 2 ^ 64 := rfl
  rw [h2, Nat.div_div_eq_div_mul, ← Nat.pow_add, show 64 + (i - 64) = i by omega]
theorem c63b (M i : Nat) (hi : i < 128) : Pure Tryd.prog Gl 63 [.d (wN M), .d (.int .i64 i)] (.d (.int .u64 ((M / 2 ^ i % 2 : Nat) : Int))) := by
  refine Pure.of2 ?_
  by_cases h : 64 ≤ i
  · have e1 : IntKind.u64.wrap (IntKind.i64.wrap (((i : Nat) : Int) - 64)) = ((i - 64 : Nat) : Int) := by rw [@a_wrap ((i:Int) - 64) (by omega), wrapu]; omega
    refine acalls_of Tryd.func63 rfl rfl (by simp [Tryd.ntmps63]) (evC_sound rfl _ _ _ _ ?_)
    simp only [Tryd.ntmps63, Tryd.results63, argEnv, List.length_nil]
    simp only [vcRules, dRules, bRules, tyRules, xRules, pickV_true, pickV_false, implies_true, Nat.reduceLT, Nat.reduceLeDiff, Nat.reduceEqDiff, Nat.reduceAdd, Nat.reduceSub, Nat.reduceMul, Int.reduceToNat, Int.reduceLT, Int.reduceLE, Int.reduceEq, Int.reduceAdd, Int.reduceSub, Int.reduceNeg, Int.reduceBEq, Int.reduceBNe, Int.reduceMul, Int.natCast_add, Int.natCast_one, reduceCtorEq, reduceIte, wN_isAgg, wN_cells, gD_isAgg, gD_cells, yRules, (show (64:Int) ≤ i by omega), e1, shrU, remU, shr_nat (M / 18446744073709551616) (i - 64) (by omega)]
    repeat ((with_reducible refine And.intro ?_ ?_); (focus (first | omega | (simp only [List.length_take, List.length_drop, List.length_map, List.length_append, List.length_cons]; omega) | (refine (show quietOp _ = true from ?_); rfl) | (refine (show drawOk _ _ _ _ _ _ _ from Or.inl ?_); kernel_rfl) | (intros; simp_all; done))))
    rw [hi_bit M i h]
    exact ⟨_, _, ret_d, rfl, rfl⟩
  · have e1 : IntKind.u64.wrap ((i : Nat) : Int) = (i : Int) := by rw [wrapu]; omega
    refine acalls_of Tryd.func63 rfl rfl (by simp [Tryd.ntmps63]) (evC_sound rfl _ _ _ _ ?_)
    simp only [Tryd.ntmps63, Tryd.results63, argEnv, List.length_nil]
    simp only [vcRules, dRules, bRules, tyRules, xRules, pickV_true, pickV_false, implies_true, Nat.reduceLT, Nat.reduceLeDiff, Nat.reduceEqDiff, Nat.reduceAdd, Nat.reduceSub, Nat.reduceMul, Int.reduceToNat, Int.reduceLT, Int.reduceLE, Int.reduceEq, Int.reduceAdd, Int.reduceSub, Int.reduceNeg, Int.reduceBEq, Int.reduceBNe, Int.reduceMul, Int.natCast_add, Int.natCast_one, reduceCtorEq, reduceIte, wN_isAgg, wN_cells, gD_isAgg, gD_cells, yRules, (show ¬ (64:Int) ≤ i by omega), e1, shrU, remU, shr_nat (M % 18446744073709551616) i (by omega)]
    repeat ((with_reducible refine And.intro ?_ ?_); (focus (first | omega | (simp only [List.length_take, List.length_drop, List.length_map, List.length_append, List.length_cons]; omega) | (refine (show quietOp _ = true from ?_); rfl) | (refine (show drawOk _ _ _ _ _ _ _ from Or.inl ?_); kernel_rfl) | (intros; simp_all; done))))
    rw [lo_bit M i (by omega)]
    exact ⟨_, _, ret_d, rfl, rfl⟩
theorem div_step (A N b : Nat) (hN : 0 < N) (hb : b < 2) : (2 * (A % N) + b < N → (2 * A + b) / N = 2 * (A / N) ∧ (2 * A + b) % N = 2 * (A % N) + b) ∧
    (N ≤ 2 * (A % N) + b → (2 * A + b) / N = 2 * (A / N) + 1 ∧ (2 * A + b) % N = 2 * (A % N) + b - N) := by
  have e := Nat.div_add_mod A N
  have hr := Nat.mod_lt A hN
  obtain ⟨q, hq⟩ : ∃ q, q = A / N := ⟨_, rfl⟩
  obtain ⟨r, hr'⟩ : ∃ r, r = A % N := ⟨_, rfl⟩
  rw [← hq, ← hr'] at e
  rw [← hr'] at hr
  rw [← hq, ← hr']
  constructor
  · intro h
    have e2 : 2 * A + b = (2 * r + b) + N * (2 * q) := by rw [← e, Nat.mul_add, Nat.mul_left_comm]; omega
    rw [e2, Nat.add_mul_div_left _ _ hN, Nat.add_mul_mod_self_left, Nat.div_eq_of_lt h, Nat.mod_eq_of_lt h]
    exact ⟨by omega, rfl⟩
  · intro h
    have e2 : 2 * A + b = (2 * r + b - N) + N * (2 * q + 1) := by rw [← e, Nat.mul_add N, Nat.mul_add 2, Nat.mul_left_comm N 2 q]; omega
    have hlt : 2 * r + b - N < N := by omega
    rw [e2, Nat.add_mul_div_left _ _ hN, Nat.add_mul_mod_self_left, Nat.div_eq_of_lt hlt, Nat.mod_eq_of_lt hlt]
    exact ⟨by omega, rfl⟩
theorem at_list {l : List Oper} {i : Nat} {o : Oper} {Q : Oper → Prop} (h : l[i]? = some o) (hq : Q o) : ∃ o, l.toArray[i]? = some o ∧ Q o := ⟨o, by simpa using h, hq⟩
theorem all1 {p : Nat → Prop} {a : Nat} (h : p a) : ∀ i ∈ [a], p i := by
  intro i hi
  rcases List.mem_singleton.1 hi with rfl
  exact h
theorem all2 {p : Nat → Prop} {a b : Nat} (h : p a) (k : p b) : ∀ i ∈ [a, b], p i := by
  intro i hi
  rcases List.mem_cons.1 hi with rfl | hi
  · exact h
  · rcases List.mem_singleton.1 hi with rfl
    exact k
theorem c53 (M N : Nat) (hM : M < 340282366920938463463374607431768211456) (hN : 0 < N) (hN2 : N < 170141183460469231731687303715884105728) : Pure Tryd.prog Gl 53 [.d (wN M), .d (wN N)] (.tup [.d (wN (M / N)), .d (wN (M % N))]) := by
  refine Pure.of2t2 ?_
  have z0 : D.agg [.int .u64 0, .int .u64 0] = wN 0 := rfl
  refine acalls_of Tryd.func53 rfl rfl (by simp [Tryd.ntmps53]) (evC_sound rfl _ _ _ _ ?_)
  simp only [Tryd.ntmps53, Tryd.results53, argEnv, List.length_nil]
  simp only [vcRules, dRules, bRules, tyRules, xRules, pickV_true, pickV_false, implies_true, Nat.reduceLT, Nat.reduceLeDiff, Nat.reduceEqDiff, Nat.reduceAdd, Nat.reduceSub, Nat.reduceMul, Int.reduceToNat, Int.reduceLT, Int.reduceLE, Int.reduceEq, Int.reduceAdd, Int.reduceSub, Int.reduceNeg, Int.reduceBEq, Int.reduceBNe, Int.reduceMul, Int.natCast_add, Int.natCast_one, reduceCtorEq, reduceIte, wN_isAgg, wN_cells, gD_isAgg, gD_cells, yRules]
  repeat ((with_reducible refine And.intro ?_ ?_); (focus (first | omega | (simp only [List.length_take, List.length_drop, List.length_map, List.length_append, List.length_cons]; omega) | (refine (show quietOp _ = true from ?_); rfl) | (refine (show drawOk _ _ _ _ _ _ _ from Or.inl ?_); kernel_rfl) | (intros; simp_all; done))))
  refine for_of 128 (fun k => [(2, .ptr 0 0), (3, .ptr 1 0), (4, .ptr 2 0), (5, .ptr 3 0), (6, .ptr 4 0), (7, .ptr 5 0), (8, .d (.int .i64 (127 - (k : Int))))]) (fun k => [.box 2 (.d (wN M)), .box 2 (.d (wN N)), .box 2 (.d (wN 0)), .box 2 (.d (wN 0)), .box 2 (.d (wN (M / 2 ^ (128 - k) / N))), .box 2 (.d (wN (M / 2 ^ (128 - k) % N)))]) (fun _ => True) trivial ?_ ?_
  · refine weak_to [] [0, 1, 2, 3, 4, 5] rfl (by simp) ?_ ?_
    · simp only [vcRules, dRules, bRules, tyRules, xRules, pickV_true, pickV_false, implies_true, Nat.reduceLT, Nat.reduceLeDiff, Nat.reduceEqDiff, Nat.reduceAdd, Nat.reduceSub, Nat.reduceMul, Int.reduceToNat, Int.reduceLT, Int.reduceLE, Int.reduceEq, Int.reduceAdd, Int.reduceSub, Int.reduceNeg, Int.reduceBEq, Int.reduceBNe, Int.reduceMul, Int.natCast_add, Int.natCast_one, reduceCtorEq, reduceIte, wN_isAgg, wN_cells, gD_isAgg, gD_cells, yRules, Int.cast_ofNat_Int, Int.sub_zero]
    · have : M / 2 ^ (128 - 0) = 0 := Nat.div_eq_of_lt hM
      rw [this, Nat.zero_div, Nat.zero_mod]; rfl
  · intro k _ hk
    by_cases h : k < 128
    · obtain ⟨m, hm⟩ : ∃ m, m = 127 - k := ⟨_, rfl⟩
      have em : (127 - (k : Int)) = (m : Int) := by omega
      have e64 : 128 - k = m + 1 := by omega
      have e64' : 128 - (k + 1) = m := by omega
      obtain ⟨A, hA⟩ : ∃ A, A = M / 2 ^ (m + 1) := ⟨_, rfl⟩
      have hbs : M / 2 ^ m = 2 * A + M / 2 ^ m % 2 := by rw [hA]; exact bit_step M m
      obtain ⟨b, hb⟩ : ∃ b, b = M / 2 ^ m % 2 := ⟨_, rfl⟩
      have hb2 : b < 2 := by omega
      have hA' : M / 2 ^ m ≤ M := Nat.div_le_self _ _
      rw [e64, e64', ← hA]
      rw [← hb] at hbs
      rw [hbs]
      have hr := Nat.mod_lt A hN
      have hq : A / N ≤ A := Nat.div_le_self _ _
      obtain ⟨s1, s2⟩ := div_step A N b hN hb2
      simp only [vcRules, dRules, bRules, tyRules, xRules, pickV_true, pickV_false, implies_true, Nat.reduceLT, Nat.reduceLeDiff, Nat.reduceEqDiff, Nat.reduceAdd, Nat.reduceSub, Nat.reduceMul, Int.reduceToNat, Int.reduceLT, Int.reduceLE, Int.reduceEq, Int.reduceAdd, Int.reduceSub, Int.reduceNeg, Int.reduceBEq, Int.reduceBNe, Int.reduceMul, Int.natCast_add, Int.natCast_one, reduceCtorEq, reduceIte, wN_isAgg, wN_cells, gD_isAgg, gD_cells, yRules, em, (show (0:Int) ≤ m by omega)]
      repeat ((with_reducible refine And.intro ?_ ?_); (focus (first | omega | (simp only [List.length_take, List.length_drop, List.length_map, List.length_append, List.length_cons]; omega) | (refine (show quietOp _ = true from ?_); rfl) | (refine (show drawOk _ _ _ _ _ _ _ from Or.inl ?_); kernel_rfl) | (intros; simp_all; done))))
      refine callF_pure (c60 (A / N) (A / N) (by omega)) ?_
      simp only [vcRules, dRules, bRules, tyRules, xRules, pickV_true, pickV_false, implies_true, Nat.reduceLT, Nat.reduceLeDiff, Nat.reduceEqDiff, Nat.reduceAdd, Nat.reduceSub, Nat.reduceMul, Int.reduceToNat, Int.reduceLT, Int.reduceLE, Int.reduceEq, Int.reduceAdd, Int.reduceSub, Int.reduceNeg, Int.reduceBEq, Int.reduceBNe, Int.reduceMul, Int.natCast_add, Int.natCast_one, reduceCtorEq, reduceIte, wN_isAgg, wN_cells, gD_isAgg, gD_cells, yRules]
      repeat ((with_reducible refine And.intro ?_ ?_); (focus (first | omega | (simp only [List.length_take, List.length_drop, List.length_map, List.length_append, List.length_cons]; omega) | (refine (show quietOp _ = true from ?_); rfl) | (refine (show drawOk _ _ _ _ _ _ _ from Or.inl ?_); kernel_rfl) | (intros; simp_all; done))))
      refine callF_pure (c60 (A % N) (A % N) (by omega)) ?_
      simp only [vcRules, dRules, bRules, tyRules, xRules, pickV_true, pickV_false, implies_true, Nat.reduceLT, Nat.reduceLeDiff, Nat.reduceEqDiff, Nat.reduceAdd, Nat.reduceSub, Nat.reduceMul, Int.reduceToNat, Int.reduceLT, Int.reduceLE, Int.reduceEq, Int.reduceAdd, Int.reduceSub, Int.reduceNeg, Int.reduceBEq, Int.reduceBNe, Int.reduceMul, Int.natCast_add, Int.natCast_one, reduceCtorEq, reduceIte, wN_isAgg, wN_cells, gD_isAgg, gD_cells, yRules]
      refine callF_pure (c63b M m (by omega)) ?_
      rw [← hb]
      have z := wN_small (show b < 18446744073709551616 by omega)
      simp only [vcRules, dRules, bRules, tyRules, xRules, pickV_true, pickV_false, implies_true, Nat.reduceLT, Nat.reduceLeDiff, Nat.reduceEqDiff, Nat.reduceAdd, Nat.reduceSub, Nat.reduceMul, Int.reduceToNat, Int.reduceLT, Int.reduceLE, Int.reduceEq, Int.reduceAdd, Int.reduceSub, Int.reduceNeg, Int.reduceBEq, Int.reduceBNe, Int.reduceMul, Int.natCast_add, Int.natCast_one, reduceCtorEq, reduceIte, wN_isAgg, wN_cells, gD_isAgg, gD_cells, yRules, z]
      refine callF_pure (c60 (A % N + A % N) b (by omega)) ?_
      simp only [vcRules, dRules, bRules, tyRules, xRules, pickV_true, pickV_false, implies_true, Nat.reduceLT, Nat.reduceLeDiff, Nat.reduceEqDiff, Nat.reduceAdd, Nat.reduceSub, Nat.reduceMul, Int.reduceToNat, Int.reduceLT, Int.reduceLE, Int.reduceEq, Int.reduceAdd, Int.reduceSub, Int.reduceNeg, Int.reduceBEq, Int.reduceBNe, Int.reduceMul, Int.natCast_add, Int.natCast_one, reduceCtorEq, reduceIte, wN_isAgg, wN_cells, gD_isAgg, gD_cells, yRules]
      refine callF_pure (c61 (A % N + A % N + b) N) ?_
      simp only [vcRules, dRules, bRules, tyRules, xRules, pickV_true, pickV_false, implies_true, Nat.reduceLT, Nat.reduceLeDiff, Nat.reduceEqDiff, Nat.reduceAdd, Nat.reduceSub, Nat.reduceMul, Int.reduceToNat, Int.reduceLT, Int.reduceLE, Int.reduceEq, Int.reduceAdd, Int.reduceSub, Int.reduceNeg, Int.reduceBEq, Int.reduceBNe, Int.reduceMul, Int.natCast_add, Int.natCast_one, reduceCtorEq, reduceIte, wN_isAgg, wN_cells, gD_isAgg, gD_cells, yRules]
      by_cases hc : A % N + A % N + b < N
      · obtain ⟨t1, t2⟩ := s1 (by omega)
        rw [t1, t2]
        have hd : decide (A % N + A % N + b < N) = true := decide_eq_true hc
        simp only [vcRules, dRules, bRules, tyRules, xRules, pickV_true, pickV_false, implies_true, Nat.reduceLT, Nat.reduceLeDiff, Nat.reduceEqDiff, Nat.reduceAdd, Nat.reduceSub, Nat.reduceMul, Int.reduceToNat, Int.reduceLT, Int.reduceLE, Int.reduceEq, Int.reduceAdd, Int.reduceSub, Int.reduceNeg, Int.reduceBEq, Int.reduceBNe, Int.reduceMul, Int.natCast_add, Int.natCast_one, reduceCtorEq, reduceIte, wN_isAgg, wN_cells, gD_isAgg, gD_cells, yRules, hd, Bool.not_true]
        rw [show A / N + A / N = 2 * (A / N) by omega, show A % N + A % N + b = 2 * (A % N) + b by omega]
        refine ⟨h, ?_⟩
        refine weak_to [] [0, 1, 2, 3, 4, 5] rfl (by simp) ?_ rfl
        simp only [vcRules, dRules, bRules, tyRules, xRules, pickV_true, pickV_false, implies_true, Nat.reduceLT, Nat.reduceLeDiff, Nat.reduceEqDiff, Nat.reduceAdd, Nat.reduceSub, Nat.reduceMul, Int.reduceToNat, Int.reduceLT, Int.reduceLE, Int.reduceEq, Int.reduceAdd, Int.reduceSub, Int.reduceNeg, Int.reduceBEq, Int.reduceBNe, Int.reduceMul, Int.natCast_add, Int.natCast_one, reduceCtorEq, reduceIte, wN_isAgg, wN_cells, gD_isAgg, gD_cells, yRules, @a_wrap ((m:Int) - 1) (by omega), show (127 - ((k:Int) + 1)) = (m:Int) - 1 by omega]
      · obtain ⟨t1, t2⟩ := s2 (by omega)
        rw [t1, t2]
        have hd : decide (A % N + A % N + b < N) = false := decide_eq_false hc
        simp only [vcRules, dRules, bRules, tyRules, xRules, pickV_true, pickV_false, implies_true, Nat.reduceLT, Nat.reduceLeDiff, Nat.reduceEqDiff, Nat.reduceAdd, Nat.reduceSub, Nat.reduceMul, Int.reduceToNat, Int.reduceLT, Int.reduceLE, Int.reduceEq, Int.reduceAdd, Int.reduceSub, Int.reduceNeg, Int.reduceBEq, Int.reduceBNe, Int.reduceMul, Int.natCast_add, Int.natCast_one, reduceCtorEq, reduceIte, wN_isAgg, wN_cells, gD_isAgg, gD_cells, yRules, hd, Bool.not_false]
        refine callF_pure (c62 (A % N + A % N + b) N (by omega) (by omega)) ?_
        have ez : D.agg [.int .u64 (((A / N + A / N) / 18446744073709551616 : Nat) : Int), .int .u64 (IntKind.u64.wrap ((((A / N + A / N) % 18446744073709551616 : Nat) : Int) + 1))] = wN (2 * (A / N) + 1) := wN_eq (by omega) (by simp only [wrapu]; omega)
        simp only [vcRules, dRules, bRules, tyRules, xRules, pickV_true, pickV_false, implies_true, Nat.reduceLT, Nat.reduceLeDiff, Nat.reduceEqDiff, Nat.reduceAdd, Nat.reduceSub, Nat.reduceMul, Int.reduceToNat, Int.reduceLT, Int.reduceLE, Int.reduceEq, Int.reduceAdd, Int.reduceSub, Int.reduceNeg, Int.reduceBEq, Int.reduceBNe, Int.reduceMul, Int.natCast_add, Int.natCast_one, reduceCtorEq, reduceIte, wN_isAgg, wN_cells, gD_isAgg, gD_cells, yRules, ez]
        refine ⟨h, ?_⟩
        rw [show A % N + A % N + b - N = 2 * (A % N) + b - N by omega]
        refine weak_to [] [0, 1, 2, 3, 4, 5] rfl (by simp) ?_ rfl
        simp only [vcRules, dRules, bRules, tyRules, xRules, pickV_true, pickV_false, implies_true, Nat.reduceLT, Nat.reduceLeDiff, Nat.reduceEqDiff, Nat.reduceAdd, Nat.reduceSub, Nat.reduceMul, Int.reduceToNat, Int.reduceLT, Int.reduceLE, Int.reduceEq, Int.reduceAdd, Int.reduceSub, Int.reduceNeg, Int.reduceBEq, Int.reduceBNe, Int.reduceMul, Int.natCast_add, Int.natCast_one, reduceCtorEq, reduceIte, wN_isAgg, wN_cells, gD_isAgg, gD_cells, yRules, @a_wrap ((m:Int) - 1) (by omega), show (127 - ((k:Int) + 1)) = (m:Int) - 1 by omega]
    · have : k = 128 := by omega
      subst this
      simp only [vcRules, dRules, bRules, tyRules, xRules, pickV_true, pickV_false, implies_true, Nat.reduceLT, Nat.reduceLeDiff, Nat.reduceEqDiff, Nat.reduceAdd, Nat.reduceSub, Nat.reduceMul, Int.reduceToNat, Int.reduceLT, Int.reduceLE, Int.reduceEq, Int.reduceAdd, Int.reduceSub, Int.reduceNeg, Int.reduceBEq, Int.reduceBNe, Int.reduceMul, Int.natCast_add, Int.natCast_one, reduceCtorEq, reduceIte, wN_isAgg, wN_cells, gD_isAgg, gD_cells, yRules, Int.cast_ofNat_Int]
      refine ⟨.inr (.inl fun K hK => ?_), ?_⟩
      · simp only [vcRules, dRules, bRules, tyRules, xRules, pickV_true, pickV_false, implies_true, Nat.reduceLT, Nat.reduceLeDiff, Nat.reduceEqDiff, Nat.reduceAdd, Nat.reduceSub, Nat.reduceMul, Int.reduceToNat, Int.reduceLT, Int.reduceLE, Int.reduceEq, Int.reduceAdd, Int.reduceSub, Int.reduceNeg, Int.reduceBEq, Int.reduceBNe, Int.reduceMul, Int.natCast_add, Int.natCast_one, reduceCtorEq, reduceIte, wN_isAgg, wN_cells, gD_isAgg, gD_cells, yRules] at hK
        refine evAny_node [0, 1] (by kernel_rfl) (by simp) (all2 ?_ ?_) <;> refine at_list rfl ?_
        · simp only [vcRules, dRules, bRules, tyRules, xRules, pickV_true, pickV_false, implies_true, Nat.reduceLT, Nat.reduceLeDiff, Nat.reduceEqDiff, Nat.reduceAdd, Nat.reduceSub, Nat.reduceMul, Int.reduceToNat, Int.reduceLT, Int.reduceLE, Int.reduceEq, Int.reduceAdd, Int.reduceSub, Int.reduceNeg, Int.reduceBEq, Int.reduceBNe, Int.reduceMul, Int.natCast_add, Int.natCast_one, reduceCtorEq, reduceIte, wN_isAgg, wN_cells, gD_isAgg, gD_cells, yRules]
          refine evAny_node [1, 2] (by kernel_rfl) (by simp) (all2 ?_ ?_) <;> refine at_list rfl ?_
          · simp only [vcRules, dRules, bRules, tyRules, xRules, pickV_true, pickV_false, implies_true, Nat.reduceLT, Nat.reduceLeDiff, Nat.reduceEqDiff, Nat.reduceAdd, Nat.reduceSub, Nat.reduceMul, Int.reduceToNat, Int.reduceLT, Int.reduceLE, Int.reduceEq, Int.reduceAdd, Int.reduceSub, Int.reduceNeg, Int.reduceBEq, Int.reduceBNe, Int.reduceMul, Int.natCast_add, Int.natCast_one, reduceCtorEq, reduceIte, wN_isAgg, wN_cells, gD_isAgg, gD_cells, yRules]
            refine evAny_node [2] (by kernel_rfl) (by simp) (all1 ?_)
            refine at_list rfl ?_
            simp only [vcRules, dRules, bRules, tyRules, xRules, pickV_true, pickV_false, implies_true, Nat.reduceLT, Nat.reduceLeDiff, Nat.reduceEqDiff, Nat.reduceAdd, Nat.reduceSub, Nat.reduceMul, Int.reduceToNat, Int.reduceLT, Int.reduceLE, Int.reduceEq, Int.reduceAdd, Int.reduceSub, Int.reduceNeg, Int.reduceBEq, Int.reduceBNe, Int.reduceMul, Int.natCast_add, Int.natCast_one, reduceCtorEq, reduceIte, wN_isAgg, wN_cells, gD_isAgg, gD_cells, yRules]
            refine evAny_node [3] (by kernel_rfl) (by simp) (all1 ?_)
            refine at_list rfl ?_
            simp only [vcRules, dRules, bRules, tyRules, xRules, pickV_true, pickV_false, implies_true, Nat.reduceLT, Nat.reduceLeDiff, Nat.reduceEqDiff, Nat.reduceAdd, Nat.reduceSub, Nat.reduceMul, Int.reduceToNat, Int.reduceLT, Int.reduceLE, Int.reduceEq, Int.reduceAdd, Int.reduceSub, Int.reduceNeg, Int.reduceBEq, Int.reduceBNe, Int.reduceMul, Int.natCast_add, Int.natCast_one, reduceCtorEq, reduceIte, wN_isAgg, wN_cells, gD_isAgg, gD_cells, yRules]
            exact evAny_leaf (by kernel_rfl) ⟨_, fun t => rfl, hK⟩
          · simp only [vcRules, dRules, bRules, tyRules, xRules, pickV_true, pickV_false, implies_true, Nat.reduceLT, Nat.reduceLeDiff, Nat.reduceEqDiff, Nat.reduceAdd, Nat.reduceSub, Nat.reduceMul, Int.reduceToNat, Int.reduceLT, Int.reduceLE, Int.reduceEq, Int.reduceAdd, Int.reduceSub, Int.reduceNeg, Int.reduceBEq, Int.reduceBNe, Int.reduceMul, Int.natCast_add, Int.natCast_one, reduceCtorEq, reduceIte, wN_isAgg, wN_cells, gD_isAgg, gD_cells, yRules]
            refine evAny_node [1] (by kernel_rfl) (by simp) (all1 ?_)
            refine at_list rfl ?_
            simp only [vcRules, dRules, bRules, tyRules, xRules, pickV_true, pickV_false, implies_true, Nat.reduceLT, Nat.reduceLeDiff, Nat.reduceEqDiff, Nat.reduceAdd, Nat.reduceSub, Nat.reduceMul, Int.reduceToNat, Int.reduceLT, Int.reduceLE, Int.reduceEq, Int.reduceAdd, Int.reduceSub, Int.reduceNeg, Int.reduceBEq, Int.reduceBNe, Int.reduceMul, Int.natCast_add, Int.natCast_one, reduceCtorEq, reduceIte, wN_isAgg, wN_cells, gD_isAgg, gD_cells, yRules]
            refine evAny_node [3] (by kernel_rfl) (by simp) (all1 ?_)
            refine at_list rfl ?_
            simp only [vcRules, dRules, bRules, tyRules, xRules, pickV_true, pickV_false, implies_true, Nat.reduceLT, Nat.reduceLeDiff, Nat.reduceEqDiff, Nat.reduceAdd, Nat.reduceSub, Nat.reduceMul, Int.reduceToNat, Int.reduceLT, Int.reduceLE, Int.reduceEq, Int.reduceAdd, Int.reduceSub, Int.reduceNeg, Int.reduceBEq, Int.reduceBNe, Int.reduceMul, Int.natCast_add, Int.natCast_one, reduceCtorEq, reduceIte, wN_isAgg, wN_cells, gD_isAgg, gD_cells, yRules]
            exact evAny_leaf (by kernel_rfl) ⟨_, fun t => rfl, hK⟩
        · simp only [vcRules, dRules, bRules, tyRules, xRules, pickV_true, pickV_false, implies_true, Nat.reduceLT, Nat.reduceLeDiff, Nat.reduceEqDiff, Nat.reduceAdd, Nat.reduceSub, Nat.reduceMul, Int.reduceToNat, Int.reduceLT, Int.reduceLE, Int.reduceEq, Int.reduceAdd, Int.reduceSub, Int.reduceNeg, Int.reduceBEq, Int.reduceBNe, Int.reduceMul, Int.natCast_add, Int.natCast_one, reduceCtorEq, reduceIte, wN_isAgg, wN_cells, gD_isAgg, gD_cells, yRules]
          refine evAny_node [0] (by kernel_rfl) (by simp) (all1 ?_)
          refine at_list rfl ?_
          simp only [vcRules, dRules, bRules, tyRules, xRules, pickV_true, pickV_false, implies_true, Nat.reduceLT, Nat.reduceLeDiff, Nat.reduceEqDiff, Nat.reduceAdd, Nat.reduceSub, Nat.reduceMul, Int.reduceToNat, Int.reduceLT, Int.reduceLE, Int.reduceEq, Int.reduceAdd, Int.reduceSub, Int.reduceNeg, Int.reduceBEq, Int.reduceBNe, Int.reduceMul, Int.natCast_add, Int.natCast_one, reduceCtorEq, reduceIte, wN_isAgg, wN_cells, gD_isAgg, gD_cells, yRules]
          refine evAny_node [2] (by kernel_rfl) (by simp) (all1 ?_)
          refine at_list rfl ?_
          simp only [vcRules, dRules, bRules, tyRules, xRules, pickV_true, pickV_false, implies_true, Nat.reduceLT, Nat.reduceLeDiff, Nat.reduceEqDiff, Nat.reduceAdd, Nat.reduceSub, Nat.reduceMul, Int.reduceToNat, Int.reduceLT, Int.reduceLE, Int.reduceEq, Int.reduceAdd, Int.reduceSub, Int.reduceNeg, Int.reduceBEq, Int.reduceBNe, Int.reduceMul, Int.natCast_add, Int.natCast_one, reduceCtorEq, reduceIte, wN_isAgg, wN_cells, gD_isAgg, gD_cells, yRules]
          refine evAny_node [3] (by kernel_rfl) (by simp) (all1 ?_)
          refine at_list rfl ?_
          simp only [vcRules, dRules, bRules, tyRules, xRules, pickV_true, pickV_false, implies_true, Nat.reduceLT, Nat.reduceLeDiff, Nat.reduceEqDiff, Nat.reduceAdd, Nat.reduceSub, Nat.reduceMul, Int.reduceToNat, Int.reduceLT, Int.reduceLE, Int.reduceEq, Int.reduceAdd, Int.reduceSub, Int.reduceNeg, Int.reduceBEq, Int.reduceBNe, Int.reduceMul, Int.natCast_add, Int.natCast_one, reduceCtorEq, reduceIte, wN_isAgg, wN_cells, gD_isAgg, gD_cells, yRules]
          refine evAny_leaf (by kernel_rfl) ⟨_, fun t => ?_, hK⟩
          simp only [getE]
          by_cases h1 : 37 = t
          · subst h1; rfl
          · by_cases h2 : 38 = t
            · subst h2; rfl
            · simp only [if_neg h1, if_neg h2]
      · refine ⟨_, _, ret_t2, ?_, rfl⟩
        rw [Nat.pow_zero, Nat.div_one]
end YtkoebmjenkajdaaDoor
end Go.Proofs
