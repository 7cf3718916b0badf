/- A part of the proof: contracts of functions of this seat, and lemmas. No condition beyond those stated. -/
import Derived.Test.YtkoebmjenkajdaaDoorXTy
import Derived.Test.YtkoebmjenkajdaaDoorG5
set_option linter.unusedVariables false
set_option linter.unusedSimpArgs false
set_option linter.unusedSectionVars false
set_option linter.unnecessarySimpa false
set_option linter.unusedSimpArgs false
set_option linter.unusedVariables false
set_option maxRecDepth 100000
namespace Go.Proofs
open Go.AM
namespace YtkoebmjenkajdaaDoor
variable {Gl : Globs}

/-! ### the reference's naturals of 128 bits -/
def wN (N : Nat) : D := .agg [.int .u64 ((N / 18446744073709551616 : Nat) : Int), .int .u64 ((N % 18446744073709551616 : Nat) : Int)]
theorem wN_isAgg (N : Nat) : (wN N).isAgg = true := rfl
theorem wN_cells (N : Nat) : (wN N).cells = [.int .u64 ((N / 18446744073709551616 : Nat) : Int), .int .u64 ((N % 18446744073709551616 : Nat) : Int)] := rfl
def gD (m : Bool) (N : Nat) : D := .agg [.bool m, .int .u64 ((N / 18446744073709551616 : Nat) : Int), .int .u64 ((N % 18446744073709551616 : Nat) : Int)]
theorem gD_isAgg (m : Bool) (N : Nat) : (gD m N).isAgg = true := rfl
theorem gD_cells (m : Bool) (N : Nat) : (gD m N).cells = [.bool m, .int .u64 ((N / 18446744073709551616 : Nat) : Int), .int .u64 ((N % 18446744073709551616 : Nat) : Int)] := rfl
theorem wrapu (n : Int) : IntKind.u64.wrap n = n % 18446744073709551616 := IntKind.wrap_u64 n
theorem wN_eq {N : Nat} {a b : Int} (ha : a = (N / 18446744073709551616 : Nat)) (hb : b = (N % 18446744073709551616 : Nat)) : D.agg [.int .u64 a, .int .u64 b] = wN N := by subst ha; subst hb; rfl

theorem wN_small {b : Nat} (hb : b < 18446744073709551616) : D.agg [.int .u64 0, .int .u64 (b : Int)] = wN b := wN_eq (by omega) (by omega)
theorem c60 (M N : Nat) (h : M + N < 340282366920938463463374607431768211456) : Pure Tryd.prog Gl 60 [.d (wN M), .d (wN N)] (.d (wN (M + N))) := by
  refine Pure.of2 ?_
  refine acalls_of Tryd.func60 rfl rfl (by simp [Tryd.ntmps60]) (evC_sound rfl _ _ _ _ ?_)
  simp only [Tryd.ntmps60, Tryd.results60, argEnv, List.length_nil]
  simp only [vcRules, dRules, bRules, tyRules, xRules, pickV_true, pickV_false, implies_true, Nat.reduceLT, Nat.reduceLeDiff, Nat.reduceEqDiff, Nat.reduceAdd, Nat.reduceSub, Nat.reduceMul, Int.reduceToNat, Int.reduceLT, Int.reduceLE, Int.reduceEq, Int.reduceAdd, Int.reduceSub, Int.reduceNeg, Int.reduceBEq, Int.reduceBNe, Int.reduceMul, Int.natCast_add, Int.natCast_one, reduceCtorEq, reduceIte, wN_isAgg, wN_cells, gD_isAgg, gD_cells, yRules]
  repeat ((with_reducible refine And.intro ?_ ?_); (focus (first | omega | (simp only [List.length_take, List.length_drop, List.length_map, List.length_append, List.length_cons]; omega) | (refine (show quietOp _ = true from ?_); rfl) | (refine (show drawOk _ _ _ _ _ _ _ from Or.inl ?_); kernel_rfl) | (intros; simp_all; done))))
  refine ifC.mk (fun hc => ?_) (fun hc => ?_)
  · have hc : (((M % 18446744073709551616 : Nat) : Int) + ((N % 18446744073709551616 : Nat) : Int)) % 18446744073709551616 < ((M % 18446744073709551616 : Nat) : Int) := by simpa only [wrapu, decide_eq_true_eq] using hc
    refine ⟨_, _, ret_d, ?_, rfl⟩
    congr 1
    exact wN_eq (by simp only [wrapu]; omega) (by simp only [wrapu]; omega)
  · have hc : ¬ (((M % 18446744073709551616 : Nat) : Int) + ((N % 18446744073709551616 : Nat) : Int)) % 18446744073709551616 < ((M % 18446744073709551616 : Nat) : Int) := by simpa only [wrapu, decide_eq_false_iff_not] using hc
    refine ⟨_, _, ret_d, ?_, rfl⟩
    congr 1
    exact wN_eq (by simp only [wrapu]; omega) (by simp only [wrapu]; omega)
theorem c62 (M N : Nat) (h : N ≤ M) (hM : M < 340282366920938463463374607431768211456) : Pure Tryd.prog Gl 62 [.d (wN M), .d (wN N)] (.d (wN (M - N))) := by
  refine Pure.of2 ?_
  refine acalls_of Tryd.func62 rfl rfl (by simp [Tryd.ntmps62]) (evC_sound rfl _ _ _ _ ?_)
  simp only [Tryd.ntmps62, Tryd.results62, argEnv, List.length_nil]
  simp only [vcRules, dRules, bRules, tyRules, xRules, pickV_true, pickV_false, implies_true, Nat.reduceLT, Nat.reduceLeDiff, Nat.reduceEqDiff, Nat.reduceAdd, Nat.reduceSub, Nat.reduceMul, Int.reduceToNat, Int.reduceLT, Int.reduceLE, Int.reduceEq, Int.reduceAdd, Int.reduceSub, Int.reduceNeg, Int.reduceBEq, Int.reduceBNe, Int.reduceMul, Int.natCast_add, Int.natCast_one, reduceCtorEq, reduceIte, wN_isAgg, wN_cells, gD_isAgg, gD_cells, yRules]
  repeat ((with_reducible refine And.intro ?_ ?_); (focus (first | omega | (simp only [List.length_take, List.length_drop, List.length_map, List.length_append, List.length_cons]; omega) | (refine (show quietOp _ = true from ?_); rfl) | (refine (show drawOk _ _ _ _ _ _ _ from Or.inl ?_); kernel_rfl) | (intros; simp_all; done))))
  refine ifC.mk (fun hc => ?_) (fun hc => ?_)
  · have hc : ((M % 18446744073709551616 : Nat) : Int) < ((N % 18446744073709551616 : Nat) : Int) := by simpa only [decide_eq_true_eq] using hc
    refine ⟨_, _, ret_d, ?_, rfl⟩
    congr 1
    exact wN_eq (by simp only [wrapu]; omega) (by simp only [wrapu]; omega)
  · have hc : ¬ ((M % 18446744073709551616 : Nat) : Int) < ((N % 18446744073709551616 : Nat) : Int) := by simpa only [decide_eq_false_iff_not] using hc
    refine ⟨_, _, ret_d, ?_, rfl⟩
    congr 1
    exact wN_eq (by simp only [wrapu]; omega) (by simp only [wrapu]; omega)
theorem c61 (M N : Nat) : Pure Tryd.prog Gl 61 [.d (wN M), .d (wN N)] (.d (.bool (decide (M < N)))) := by
  refine Pure.of2 ?_
  refine acalls_of Tryd.func61 rfl rfl (by simp [Tryd.ntmps61]) (evC_sound rfl _ _ _ _ ?_)
  simp only [Tryd.ntmps61, Tryd.results61, argEnv, List.length_nil]
  simp only [vcRules, dRules, bRules, tyRules, xRules, pickV_true, pickV_false, implies_true, Nat.reduceLT, Nat.reduceLeDiff, Nat.reduceEqDiff, Nat.reduceAdd, Nat.reduceSub, Nat.reduceMul, Int.reduceToNat, Int.reduceLT, Int.reduceLE, Int.reduceEq, Int.reduceAdd, Int.reduceSub, Int.reduceNeg, Int.reduceBEq, Int.reduceBNe, Int.reduceMul, Int.natCast_add, Int.natCast_one, reduceCtorEq, reduceIte, wN_isAgg, wN_cells, gD_isAgg, gD_cells, yRules]
  refine ⟨_, _, ret_d, ?_, rfl⟩
  congr 2
  rw [Bool.eq_iff_iff]
  simp only [Bool.or_eq_true, Bool.and_eq_true, decide_eq_true_eq, beq_iff_eq]
  omega
theorem shrU (a b : Int) : intBin .shr .u64 a b = .int .u64 (a.fdiv (2 ^ (min b.toNat 64))) := rfl
theorem remU (a b : Int) : binD .rem (.int .u64 a) (.int .u64 b) = .int .u64 (a.tmod b) := rfl
theorem shr_nat (N i : Nat) (hi : i < 64) : ((N : Int).fdiv (2 ^ (min i 64))).tmod 2 = ((N / 2 ^ i % 2 : Nat) : Int) := by
  rw [show min i 64 = i by omega, Int.fdiv_eq_ediv_of_nonneg _ (by exact Int.le_of_lt (Int.pow_pos (by omega))), Int.tmod_eq_emod_of_nonneg]
  · have : ((2 : Int) ^ i) = ((2 ^ i : Nat) : Int) := by simp
    rw [this, ← Int.natCast_ediv]
    omega
  · exact Int.ediv_nonneg (by omega) (by exact Int.le_of_lt (Int.pow_pos (by omega)))
theorem c63 (N i : Nat) (hN : N < 18446744073709551616) (hi : i < 64) : Pure Tryd.prog Gl 63 [.d (wN N), .d (.int .i64 i)] (.d (.int .u64 ((N / 2 ^ i % 2 : Nat) : Int))) := by
  refine Pure.of2 ?_
  have e1 : IntKind.u64.wrap ((i : Nat) : Int) = (i : Int) := by rw [wrapu]; omega
  have e2 : N % 18446744073709551616 = N := by omega
  refine acalls_of Tryd.func63 rfl rfl (by simp [Tryd.ntmps63]) (evC_sound rfl _ _ _ _ ?_)
  simp only [Tryd.ntmps63, Tryd.results63, argEnv, List.length_nil]
  simp only [vcRules, dRules, bRules, tyRules, xRules, pickV_true, pickV_false, implies_true, Nat.reduceLT, Nat.reduceLeDiff, Nat.reduceEqDiff, Nat.reduceAdd, Nat.reduceSub, Nat.reduceMul, Int.reduceToNat, Int.reduceLT, Int.reduceLE, Int.reduceEq, Int.reduceAdd, Int.reduceSub, Int.reduceNeg, Int.reduceBEq, Int.reduceBNe, Int.reduceMul, Int.natCast_add, Int.natCast_one, reduceCtorEq, reduceIte, wN_isAgg, wN_cells, gD_isAgg, gD_cells, yRules, (show ¬ (64:Int) ≤ i by omega), e1, shrU, remU, e2, shr_nat N i hi]
  repeat ((with_reducible refine And.intro ?_ ?_); (focus (first | omega | (simp only [List.length_take, List.length_drop, List.length_map, List.length_append, List.length_cons]; omega) | (refine (show quietOp _ = true from ?_); rfl) | (refine (show drawOk _ _ _ _ _ _ _ from Or.inl ?_); kernel_rfl) | (intros; simp_all; done))))
  exact ⟨_, _, ret_d, rfl, rfl⟩
theorem c35 (n : Int) (h1 : -9223372036854775808 ≤ n) (h2 : n ≤ 9223372036854775807) : Pure Tryd.prog Gl 35 [.d (.int .i64 n)] (.d (.int .u64 (n.natAbs : Int))) := by
  refine Pure.of1 ?_
  refine acalls_of Tryd.func35 rfl rfl (by simp [Tryd.ntmps35]) (evC_sound rfl _ _ _ _ ?_)
  simp only [Tryd.ntmps35, Tryd.results35, argEnv, List.length_nil]
  simp only [vcRules, dRules, bRules, tyRules, xRules, pickV_true, pickV_false, implies_true, Nat.reduceLT, Nat.reduceLeDiff, Nat.reduceEqDiff, Nat.reduceAdd, Nat.reduceSub, Nat.reduceMul, Int.reduceToNat, Int.reduceLT, Int.reduceLE, Int.reduceEq, Int.reduceAdd, Int.reduceSub, Int.reduceNeg, Int.reduceBEq, Int.reduceBNe, Int.reduceMul, Int.natCast_add, Int.natCast_one, reduceCtorEq, reduceIte, wN_isAgg, wN_cells, gD_isAgg, gD_cells, yRules]
  refine ifC.mk (fun hc => ?_) (fun hc => ?_)
  · have hc : n < 0 := by simpa using hc
    refine ⟨_, _, ret_d, ?_, rfl⟩
    congr 2
    rw [@a_wrap (n + 1) (by omega), @a_wrap (0 - (n + 1)) (by omega)]
    simp only [wrapu]; omega
  · have hc : ¬ n < 0 := by simpa using hc
    refine ⟨_, _, ret_d, ?_, rfl⟩
    congr 2
    simp only [wrapu]; omega

theorem bit_step (b m : Nat) : b / 2 ^ m = 2 * (b / 2 ^ (m + 1)) + b / 2 ^ m % 2 := by
  have : b / 2 ^ (m + 1) = b / 2 ^ m / 2 := by rw [Nat.pow_succ, Nat.div_div_eq_div_mul]
  omega
theorem c50 (a b : Nat) (ha : a < 18446744073709551616) (hb : b < 18446744073709551616) : Pure Tryd.prog Gl 50 [.d (.int .u64 a), .d (.int .u64 b)] (.d (wN (a * b))) := by
  refine Pure.of2 ?_
  refine acalls_of Tryd.func50 rfl rfl (by simp [Tryd.ntmps50]) (evC_sound rfl _ _ _ _ ?_)
  simp only [Tryd.ntmps50, Tryd.results50, argEnv, List.length_nil]
  simp only [vcRules, dRules, bRules, tyRules, xRules, pickV_true, pickV_false, implies_true, Nat.reduceLT, Nat.reduceLeDiff, Nat.reduceEqDiff, Nat.reduceAdd, Nat.reduceSub, Nat.reduceMul, Int.reduceToNat, Int.reduceLT, Int.reduceLE, Int.reduceEq, Int.reduceAdd, Int.reduceSub, Int.reduceNeg, Int.reduceBEq, Int.reduceBNe, Int.reduceMul, Int.natCast_add, Int.natCast_one, reduceCtorEq, reduceIte, wN_isAgg, wN_cells, gD_isAgg, gD_cells, yRules]
  repeat ((with_reducible refine And.intro ?_ ?_); (focus (first | omega | (simp only [List.length_take, List.length_drop, List.length_map, List.length_append, List.length_cons]; omega) | (refine (show quietOp _ = true from ?_); rfl) | (refine (show drawOk _ _ _ _ _ _ _ from Or.inl ?_); kernel_rfl) | (intros; simp_all; done))))
  refine for_of 64 (fun k => [(0, .d (.int .u64 a)), (1, .d (.int .u64 b)), (4, .ptr 0 0), (5, .ptr 1 0), (6, .d (.int .i64 (63 - (k : Int))))]) (fun k => [.box 2 (.d (wN 0)), .box 2 (.d (wN (a * (b / 2 ^ (64 - k)))))]) (fun _ => True) trivial ?_ ?_
  · refine weak_to [] [0, 1] rfl (by simp) ?_ ?_
    · simp only [vcRules, dRules, bRules, tyRules, xRules, pickV_true, pickV_false, implies_true, Nat.reduceLT, Nat.reduceLeDiff, Nat.reduceEqDiff, Nat.reduceAdd, Nat.reduceSub, Nat.reduceMul, Int.reduceToNat, Int.reduceLT, Int.reduceLE, Int.reduceEq, Int.reduceAdd, Int.reduceSub, Int.reduceNeg, Int.reduceBEq, Int.reduceBNe, Int.reduceMul, Int.natCast_add, Int.natCast_one, reduceCtorEq, reduceIte, wN_isAgg, wN_cells, gD_isAgg, gD_cells, yRules, Int.cast_ofNat_Int, Int.sub_zero]
    · have : b / 2 ^ (64 - 0) = 0 := Nat.div_eq_of_lt hb
      rw [this, Nat.mul_zero]; rfl
  · intro k _ hk
    by_cases h : k < 64
    · obtain ⟨m, hm⟩ : ∃ m, m = 63 - k := ⟨_, rfl⟩
      have em : (63 - (k : Int)) = (m : Int) := by omega
      have e64 : 64 - k = m + 1 := by omega
      have e64' : 64 - (k + 1) = m := by omega
      obtain ⟨q, hq⟩ : ∃ q, q = b / 2 ^ (m + 1) := ⟨_, rfl⟩
      have hbs := bit_step b m
      have hqb : 2 * q + 1 ≤ 18446744073709551616 := by
        have : b / 2 ^ (m + 1) ≤ b / 2 := by
          rw [Nat.pow_succ, Nat.mul_comm, ← Nat.div_div_eq_div_mul]; exact Nat.div_le_self _ _
        omega
      rw [e64, e64', ← hq]
      rw [← hq] at hbs
      have hp : a * (2 * q + 1) < 340282366920938463463374607431768211456 := by
        have : a * (2 * q + 1) ≤ a * 18446744073709551616 := Nat.mul_le_mul_left a hqb
        omega
      have hp2 : a * (2 * q + 1) = a * q + a * q + a := by rw [Nat.mul_add, Nat.mul_one, ← Nat.mul_assoc, Nat.mul_comm a 2, Nat.mul_assoc]; omega
      have hb1 : a * q + a * q < 340282366920938463463374607431768211456 := by omega
      have hb2 : a * q + a * q + a < 340282366920938463463374607431768211456 := by omega
      simp only [vcRules, dRules, bRules, tyRules, xRules, pickV_true, pickV_false, implies_true, Nat.reduceLT, Nat.reduceLeDiff, Nat.reduceEqDiff, Nat.reduceAdd, Nat.reduceSub, Nat.reduceMul, Int.reduceToNat, Int.reduceLT, Int.reduceLE, Int.reduceEq, Int.reduceAdd, Int.reduceSub, Int.reduceNeg, Int.reduceBEq, Int.reduceBNe, Int.reduceMul, Int.natCast_add, Int.natCast_one, reduceCtorEq, reduceIte, wN_isAgg, wN_cells, gD_isAgg, gD_cells, yRules, em, (show (0:Int) ≤ m by omega)]
      repeat ((with_reducible refine And.intro ?_ ?_); (focus (first | omega | (simp only [List.length_take, List.length_drop, List.length_map, List.length_append, List.length_cons]; omega) | (refine (show quietOp _ = true from ?_); rfl) | (refine (show drawOk _ _ _ _ _ _ _ from Or.inl ?_); kernel_rfl) | (intros; simp_all; done))))
      refine callF_pure (c60 (a * q) (a * q) hb1) ?_
      have z := wN_small hb
      simp only [vcRules, dRules, bRules, tyRules, xRules, pickV_true, pickV_false, implies_true, Nat.reduceLT, Nat.reduceLeDiff, Nat.reduceEqDiff, Nat.reduceAdd, Nat.reduceSub, Nat.reduceMul, Int.reduceToNat, Int.reduceLT, Int.reduceLE, Int.reduceEq, Int.reduceAdd, Int.reduceSub, Int.reduceNeg, Int.reduceBEq, Int.reduceBNe, Int.reduceMul, Int.natCast_add, Int.natCast_one, reduceCtorEq, reduceIte, wN_isAgg, wN_cells, gD_isAgg, gD_cells, yRules, z]
      refine callF_pure (c63 b m hb (by omega)) ?_
      simp only [vcRules, dRules, bRules, tyRules, xRules, pickV_true, pickV_false, implies_true, Nat.reduceLT, Nat.reduceLeDiff, Nat.reduceEqDiff, Nat.reduceAdd, Nat.reduceSub, Nat.reduceMul, Int.reduceToNat, Int.reduceLT, Int.reduceLE, Int.reduceEq, Int.reduceAdd, Int.reduceSub, Int.reduceNeg, Int.reduceBEq, Int.reduceBNe, Int.reduceMul, Int.natCast_add, Int.natCast_one, reduceCtorEq, reduceIte, wN_isAgg, wN_cells, gD_isAgg, gD_cells, yRules]
      repeat ((with_reducible refine And.intro ?_ ?_); (focus (first | omega | (simp only [List.length_take, List.length_drop, List.length_map, List.length_append, List.length_cons]; omega) | (refine (show quietOp _ = true from ?_); rfl) | (refine (show drawOk _ _ _ _ _ _ _ from Or.inl ?_); kernel_rfl) | (intros; simp_all; done))))
      refine ifC.mk (fun hc => ?_) (fun hc => ?_)
      · have hc : b / 2 ^ m % 2 = 1 := by have := beq_iff_eq.1 hc; omega
        have z := wN_small ha
        simp only [vcRules, dRules, bRules, tyRules, xRules, pickV_true, pickV_false, implies_true, Nat.reduceLT, Nat.reduceLeDiff, Nat.reduceEqDiff, Nat.reduceAdd, Nat.reduceSub, Nat.reduceMul, Int.reduceToNat, Int.reduceLT, Int.reduceLE, Int.reduceEq, Int.reduceAdd, Int.reduceSub, Int.reduceNeg, Int.reduceBEq, Int.reduceBNe, Int.reduceMul, Int.natCast_add, Int.natCast_one, reduceCtorEq, reduceIte, wN_isAgg, wN_cells, gD_isAgg, gD_cells, yRules, z]
        repeat ((with_reducible refine And.intro ?_ ?_); (focus (first | omega | (simp only [List.length_take, List.length_drop, List.length_map, List.length_append, List.length_cons]; omega) | (refine (show quietOp _ = true from ?_); rfl) | (refine (show drawOk _ _ _ _ _ _ _ from Or.inl ?_); kernel_rfl) | (intros; simp_all; done))))
        refine callF_pure (c60 (a * q + a * q) a hb2) ?_
        simp only [vcRules, dRules, bRules, tyRules, xRules, pickV_true, pickV_false, implies_true, Nat.reduceLT, Nat.reduceLeDiff, Nat.reduceEqDiff, Nat.reduceAdd, Nat.reduceSub, Nat.reduceMul, Int.reduceToNat, Int.reduceLT, Int.reduceLE, Int.reduceEq, Int.reduceAdd, Int.reduceSub, Int.reduceNeg, Int.reduceBEq, Int.reduceBNe, Int.reduceMul, Int.natCast_add, Int.natCast_one, reduceCtorEq, reduceIte, wN_isAgg, wN_cells, gD_isAgg, gD_cells, yRules]
        repeat ((with_reducible refine And.intro ?_ ?_); (focus (first | omega | (simp only [List.length_take, List.length_drop, List.length_map, List.length_append, List.length_cons]; omega) | (refine (show quietOp _ = true from ?_); rfl) | (refine (show drawOk _ _ _ _ _ _ _ from Or.inl ?_); kernel_rfl) | (intros; simp_all; done))))
        have e : a * (b / 2 ^ m) = a * q + a * q + a := by rw [hbs, hc, hp2]
        rw [e]
        refine weak_to [] [0, 1] rfl (by simp) ?_ rfl
        simp only [vcRules, dRules, bRules, tyRules, xRules, pickV_true, pickV_false, implies_true, Nat.reduceLT, Nat.reduceLeDiff, Nat.reduceEqDiff, Nat.reduceAdd, Nat.reduceSub, Nat.reduceMul, Int.reduceToNat, Int.reduceLT, Int.reduceLE, Int.reduceEq, Int.reduceAdd, Int.reduceSub, Int.reduceNeg, Int.reduceBEq, Int.reduceBNe, Int.reduceMul, Int.natCast_add, Int.natCast_one, reduceCtorEq, reduceIte, wN_isAgg, wN_cells, gD_isAgg, gD_cells, yRules, @a_wrap ((m:Int) - 1) (by omega), show (63 - ((k:Int) + 1)) = (m:Int) - 1 by omega]
      · have hc : b / 2 ^ m % 2 = 0 := by have := beq_eq_false_iff_ne.1 hc; omega
        have e : a * (b / 2 ^ m) = a * q + a * q := by
          rw [hbs, hc, Nat.add_zero, ← Nat.mul_assoc, Nat.mul_comm a 2, Nat.mul_assoc]; omega
        rw [e]
        refine ⟨h, ?_⟩
        refine weak_to [] [0, 1] rfl (by simp) ?_ rfl
        simp only [vcRules, dRules, bRules, tyRules, xRules, pickV_true, pickV_false, implies_true, Nat.reduceLT, Nat.reduceLeDiff, Nat.reduceEqDiff, Nat.reduceAdd, Nat.reduceSub, Nat.reduceMul, Int.reduceToNat, Int.reduceLT, Int.reduceLE, Int.reduceEq, Int.reduceAdd, Int.reduceSub, Int.reduceNeg, Int.reduceBEq, Int.reduceBNe, Int.reduceMul, Int.natCast_add, Int.natCast_one, reduceCtorEq, reduceIte, wN_isAgg, wN_cells, gD_isAgg, gD_cells, yRules, @a_wrap ((m:Int) - 1) (by omega), show (63 - ((k:Int) + 1)) = (m:Int) - 1 by omega]
    · have : k = 64 := by omega
      subst this
      simp only [vcRules, dRules, bRules, tyRules, xRules, pickV_true, pickV_false, implies_true, Nat.reduceLT, Nat.reduceLeDiff, Nat.reduceEqDiff, Nat.reduceAdd, Nat.reduceSub, Nat.reduceMul, Int.reduceToNat, Int.reduceLT, Int.reduceLE, Int.reduceEq, Int.reduceAdd, Int.reduceSub, Int.reduceNeg, Int.reduceBEq, Int.reduceBNe, Int.reduceMul, Int.natCast_add, Int.natCast_one, reduceCtorEq, reduceIte, wN_isAgg, wN_cells, gD_isAgg, gD_cells, yRules, Int.cast_ofNat_Int]
      refine ⟨_, _, ret_d, ?_, rfl⟩
      simp

/-! ### with a sign -/
theorem g_build (m : Bool) (N : Nat) : D.agg [.bool m, .int .u64 ((N / 18446744073709551616 : Nat) : Int), .int .u64 ((N % 18446744073709551616 : Nat) : Int)] = gD m N := rfl
def sumG (p q : Bool × Nat) : Bool × Nat := if p.1 = q.1 then (p.1, p.2 + q.2) else if p.2 < q.2 then (q.1, q.2 - p.2) else (p.1, p.2 - q.2)
def valG (p : Bool × Nat) : Int := if p.1 = true then -(p.2 : Int) else p.2
theorem valG_sum (p q : Bool × Nat) : valG (sumG p q) = valG p + valG q := by
  obtain ⟨m, M⟩ := p
  obtain ⟨n, N⟩ := q
  unfold sumG valG
  cases m <;> cases n <;> simp only [Bool.false_eq_true, Bool.true_eq_false, if_true, if_false] <;> (try split) <;> (try simp only [Bool.false_eq_true, if_true, if_false]) <;> omega
theorem sumG_le (p q : Bool × Nat) : (sumG p q).2 ≤ p.2 + q.2 := by
  unfold sumG; split
  · simp
  · split <;> simp only <;> omega
theorem c45 (p q : Bool × Nat) (h : p.2 + q.2 < 340282366920938463463374607431768211456) : Pure Tryd.prog Gl 45 [.d (gD p.1 p.2), .d (gD q.1 q.2)] (.d (gD (sumG p q).1 (sumG p q).2)) := by
  obtain ⟨m, M⟩ := p
  obtain ⟨n, N⟩ := q
  simp only at h ⊢
  have zM : D.agg [.int .u64 ((M / 18446744073709551616 : Nat) : Int), .int .u64 ((M % 18446744073709551616 : Nat) : Int)] = wN M := rfl
  have zN : D.agg [.int .u64 ((N / 18446744073709551616 : Nat) : Int), .int .u64 ((N % 18446744073709551616 : Nat) : Int)] = wN N := rfl
  refine Pure.of2 ?_
  refine acalls_of Tryd.func45 rfl rfl (by simp [Tryd.ntmps45]) (evC_sound rfl _ _ _ _ ?_)
  simp only [Tryd.ntmps45, Tryd.results45, argEnv, List.length_nil]
  simp only [vcRules, dRules, bRules, tyRules, xRules, pickV_true, pickV_false, implies_true, Nat.reduceLT, Nat.reduceLeDiff, Nat.reduceEqDiff, Nat.reduceAdd, Nat.reduceSub, Nat.reduceMul, Int.reduceToNat, Int.reduceLT, Int.reduceLE, Int.reduceEq, Int.reduceAdd, Int.reduceSub, Int.reduceNeg, Int.reduceBEq, Int.reduceBNe, Int.reduceMul, Int.natCast_add, Int.natCast_one, reduceCtorEq, reduceIte, wN_isAgg, wN_cells, gD_isAgg, gD_cells, yRules]
  refine ifC.mk (fun h1 => ?_) (fun h1 => ?_)
  · have h1 : m = n := by simpa using h1
    refine ⟨.inl (by kernel_rfl), ?_⟩
    simp only [vcRules, dRules, bRules, tyRules, xRules, pickV_true, pickV_false, implies_true, Nat.reduceLT, Nat.reduceLeDiff, Nat.reduceEqDiff, Nat.reduceAdd, Nat.reduceSub, Nat.reduceMul, Int.reduceToNat, Int.reduceLT, Int.reduceLE, Int.reduceEq, Int.reduceAdd, Int.reduceSub, Int.reduceNeg, Int.reduceBEq, Int.reduceBNe, Int.reduceMul, Int.natCast_add, Int.natCast_one, reduceCtorEq, reduceIte, wN_isAgg, wN_cells, gD_isAgg, gD_cells, yRules, zM, zN]
    refine callF_pure (c60 _ _ h) ?_
    simp only [vcRules, dRules, bRules, tyRules, xRules, pickV_true, pickV_false, implies_true, Nat.reduceLT, Nat.reduceLeDiff, Nat.reduceEqDiff, Nat.reduceAdd, Nat.reduceSub, Nat.reduceMul, Int.reduceToNat, Int.reduceLT, Int.reduceLE, Int.reduceEq, Int.reduceAdd, Int.reduceSub, Int.reduceNeg, Int.reduceBEq, Int.reduceBNe, Int.reduceMul, Int.natCast_add, Int.natCast_one, reduceCtorEq, reduceIte, wN_isAgg, wN_cells, gD_isAgg, gD_cells, yRules]
    repeat ((with_reducible refine And.intro ?_ ?_); (focus (first | omega | (simp only [List.length_take, List.length_drop, List.length_map, List.length_append, List.length_cons]; omega) | (refine (show quietOp _ = true from ?_); rfl) | (refine (show drawOk _ _ _ _ _ _ _ from Or.inl ?_); kernel_rfl) | (intros; simp_all; done))))
    refine ⟨_, _, ret_d, ?_, rfl⟩
    simp only [sumG, if_pos h1]; rfl
  · have h1 : ¬ m = n := by simpa using h1
    (try simp only [vcRules, dRules, bRules, tyRules, xRules, pickV_true, pickV_false, implies_true, Nat.reduceLT, Nat.reduceLeDiff, Nat.reduceEqDiff, Nat.reduceAdd, Nat.reduceSub, Nat.reduceMul, Int.reduceToNat, Int.reduceLT, Int.reduceLE, Int.reduceEq, Int.reduceAdd, Int.reduceSub, Int.reduceNeg, Int.reduceBEq, Int.reduceBNe, Int.reduceMul, Int.natCast_add, Int.natCast_one, reduceCtorEq, reduceIte, wN_isAgg, wN_cells, gD_isAgg, gD_cells, yRules, zM, zN])
    refine callF_pure (c61 _ _) ?_
    simp only [vcRules, dRules, bRules, tyRules, xRules, pickV_true, pickV_false, implies_true, Nat.reduceLT, Nat.reduceLeDiff, Nat.reduceEqDiff, Nat.reduceAdd, Nat.reduceSub, Nat.reduceMul, Int.reduceToNat, Int.reduceLT, Int.reduceLE, Int.reduceEq, Int.reduceAdd, Int.reduceSub, Int.reduceNeg, Int.reduceBEq, Int.reduceBNe, Int.reduceMul, Int.natCast_add, Int.natCast_one, reduceCtorEq, reduceIte, wN_isAgg, wN_cells, gD_isAgg, gD_cells, yRules]
    refine ifC.mk (fun h2 => ?_) (fun h2 => ?_)
    · have h2 : M < N := by simpa using h2
      refine ⟨.inl (by kernel_rfl), ?_⟩
      simp only [vcRules, dRules, bRules, tyRules, xRules, pickV_true, pickV_false, implies_true, Nat.reduceLT, Nat.reduceLeDiff, Nat.reduceEqDiff, Nat.reduceAdd, Nat.reduceSub, Nat.reduceMul, Int.reduceToNat, Int.reduceLT, Int.reduceLE, Int.reduceEq, Int.reduceAdd, Int.reduceSub, Int.reduceNeg, Int.reduceBEq, Int.reduceBNe, Int.reduceMul, Int.natCast_add, Int.natCast_one, reduceCtorEq, reduceIte, wN_isAgg, wN_cells, gD_isAgg, gD_cells, yRules, zM, zN]
      refine callF_pure (c62 _ _ (by omega) (by omega)) ?_
      simp only [vcRules, dRules, bRules, tyRules, xRules, pickV_true, pickV_false, implies_true, Nat.reduceLT, Nat.reduceLeDiff, Nat.reduceEqDiff, Nat.reduceAdd, Nat.reduceSub, Nat.reduceMul, Int.reduceToNat, Int.reduceLT, Int.reduceLE, Int.reduceEq, Int.reduceAdd, Int.reduceSub, Int.reduceNeg, Int.reduceBEq, Int.reduceBNe, Int.reduceMul, Int.natCast_add, Int.natCast_one, reduceCtorEq, reduceIte, wN_isAgg, wN_cells, gD_isAgg, gD_cells, yRules]
      repeat ((with_reducible refine And.intro ?_ ?_); (focus (first | omega | (simp only [List.length_take, List.length_drop, List.length_map, List.length_append, List.length_cons]; omega) | (refine (show quietOp _ = true from ?_); rfl) | (refine (show drawOk _ _ _ _ _ _ _ from Or.inl ?_); kernel_rfl) | (intros; simp_all; done))))
      refine ⟨_, _, ret_d, ?_, rfl⟩
      simp only [sumG, if_neg h1, if_pos h2]; rfl
    · have h2 : ¬ M < N := by simpa using h2
      refine ⟨.inl (by kernel_rfl), ?_⟩
      simp only [vcRules, dRules, bRules, tyRules, xRules, pickV_true, pickV_false, implies_true, Nat.reduceLT, Nat.reduceLeDiff, Nat.reduceEqDiff, Nat.reduceAdd, Nat.reduceSub, Nat.reduceMul, Int.reduceToNat, Int.reduceLT, Int.reduceLE, Int.reduceEq, Int.reduceAdd, Int.reduceSub, Int.reduceNeg, Int.reduceBEq, Int.reduceBNe, Int.reduceMul, Int.natCast_add, Int.natCast_one, reduceCtorEq, reduceIte, wN_isAgg, wN_cells, gD_isAgg, gD_cells, yRules, zM, zN]
      refine callF_pure (c62 _ _ (by omega) (by omega)) ?_
      simp only [vcRules, dRules, bRules, tyRules, xRules, pickV_true, pickV_false, implies_true, Nat.reduceLT, Nat.reduceLeDiff, Nat.reduceEqDiff, Nat.reduceAdd, Nat.reduceSub, Nat.reduceMul, Int.reduceToNat, Int.reduceLT, Int.reduceLE, Int.reduceEq, Int.reduceAdd, Int.reduceSub, Int.reduceNeg, Int.reduceBEq, Int.reduceBNe, Int.reduceMul, Int.natCast_add, Int.natCast_one, reduceCtorEq, reduceIte, wN_isAgg, wN_cells, gD_isAgg, gD_cells, yRules]
      repeat ((with_reducible refine And.intro ?_ ?_); (focus (first | omega | (simp only [List.length_take, List.length_drop, List.length_map, List.length_append, List.length_cons]; omega) | (refine (show quietOp _ = true from ?_); rfl) | (refine (show drawOk _ _ _ _ _ _ _ from Or.inl ?_); kernel_rfl) | (intros; simp_all; done))))
      refine ⟨_, _, ret_d, ?_, rfl⟩
      simp only [sumG, if_neg h1, if_neg h2]; rfl
theorem c46 (n d : Int) (h1 : -9223372036854775808 ≤ n ∧ n ≤ 9223372036854775807) (h2 : -9223372036854775808 ≤ d ∧ d ≤ 9223372036854775807) : Pure Tryd.prog Gl 46 [.d (.int .i64 n), .d (.int .i64 d)] (.d (gD (decide (n < 0)) (n.natAbs * d.natAbs))) := by
  refine Pure.of2 ?_
  refine acalls_of Tryd.func46 rfl rfl (by simp [Tryd.ntmps46]) (evC_sound rfl _ _ _ _ ?_)
  simp only [Tryd.ntmps46, Tryd.results46, argEnv, List.length_nil]
  simp only [vcRules, dRules, bRules, tyRules, xRules, pickV_true, pickV_false, implies_true, Nat.reduceLT, Nat.reduceLeDiff, Nat.reduceEqDiff, Nat.reduceAdd, Nat.reduceSub, Nat.reduceMul, Int.reduceToNat, Int.reduceLT, Int.reduceLE, Int.reduceEq, Int.reduceAdd, Int.reduceSub, Int.reduceNeg, Int.reduceBEq, Int.reduceBNe, Int.reduceMul, Int.natCast_add, Int.natCast_one, reduceCtorEq, reduceIte, wN_isAgg, wN_cells, gD_isAgg, gD_cells, yRules]
  refine callF_pure (c35 _ h1.1 h1.2) ?_
  simp only [vcRules, dRules, bRules, tyRules, xRules, pickV_true, pickV_false, implies_true, Nat.reduceLT, Nat.reduceLeDiff, Nat.reduceEqDiff, Nat.reduceAdd, Nat.reduceSub, Nat.reduceMul, Int.reduceToNat, Int.reduceLT, Int.reduceLE, Int.reduceEq, Int.reduceAdd, Int.reduceSub, Int.reduceNeg, Int.reduceBEq, Int.reduceBNe, Int.reduceMul, Int.natCast_add, Int.natCast_one, reduceCtorEq, reduceIte, wN_isAgg, wN_cells, gD_isAgg, gD_cells, yRules]
  refine callF_pure (c35 _ h2.1 h2.2) ?_
  simp only [vcRules, dRules, bRules, tyRules, xRules, pickV_true, pickV_false, implies_true, Nat.reduceLT, Nat.reduceLeDiff, Nat.reduceEqDiff, Nat.reduceAdd, Nat.reduceSub, Nat.reduceMul, Int.reduceToNat, Int.reduceLT, Int.reduceLE, Int.reduceEq, Int.reduceAdd, Int.reduceSub, Int.reduceNeg, Int.reduceBEq, Int.reduceBNe, Int.reduceMul, Int.natCast_add, Int.natCast_one, reduceCtorEq, reduceIte, wN_isAgg, wN_cells, gD_isAgg, gD_cells, yRules]
  refine callF_pure (c50 _ _ (by omega) (by omega)) ?_
  simp only [vcRules, dRules, bRules, tyRules, xRules, pickV_true, pickV_false, implies_true, Nat.reduceLT, Nat.reduceLeDiff, Nat.reduceEqDiff, Nat.reduceAdd, Nat.reduceSub, Nat.reduceMul, Int.reduceToNat, Int.reduceLT, Int.reduceLE, Int.reduceEq, Int.reduceAdd, Int.reduceSub, Int.reduceNeg, Int.reduceBEq, Int.reduceBNe, Int.reduceMul, Int.natCast_add, Int.natCast_one, reduceCtorEq, reduceIte, wN_isAgg, wN_cells, gD_isAgg, gD_cells, yRules]
  repeat ((with_reducible refine And.intro ?_ ?_); (focus (first | omega | (simp only [List.length_take, List.length_drop, List.length_map, List.length_append, List.length_cons]; omega) | (refine (show quietOp _ = true from ?_); rfl) | (refine (show drawOk _ _ _ _ _ _ _ from Or.inl ?_); kernel_rfl) | (intros; simp_all; done))))
  refine ⟨_, _, ret_d, rfl, rfl⟩
theorem mul_sign {n d : Int} (hd : 0 ≤ d) : valG (decide (n < 0), n.natAbs * d.natAbs) = n * d := by
  unfold valG
  have e : ((n.natAbs * d.natAbs : Nat) : Int) = (n.natAbs : Int) * d := by
    rw [Int.natCast_mul]; congr 1; omega
  by_cases h : n < 0
  · simp only [decide_eq_true h, if_true]
    rw [e, ← Int.neg_mul]; congr 1; omega
  · rw [decide_eq_false h]
    simp only [Bool.false_eq_true, if_false]
    rw [e]; congr 1; omega
end YtkoebmjenkajdaaDoor
end Go.Proofs
