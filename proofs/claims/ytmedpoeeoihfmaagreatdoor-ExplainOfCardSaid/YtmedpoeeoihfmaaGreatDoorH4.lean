/- A part of the proof: contracts of functions of this seat, and lemmas. No condition beyond those stated. -/
import Derived.Test.YtmedpoeeoihfmaaGreatDoorH2
import Derived.Test.YtmedpoeeoihfmaaGreatDoorG4
import Derived.Test.YtmedpoeeoihfmaaGreatDoorTryzxmathbitsLen64
import Derived.Lib.Mul64
import Derived.Laws.Bits64b
import Derived.Lib.ItoaNum
import Derived.Test.YtmedpoeeoihfmaaGreatDoorH1
set_option linter.unusedVariables false
set_option linter.unusedSimpArgs false
set_option linter.unusedSectionVars false
set_option linter.unnecessarySimpa false
set_option maxRecDepth 100000
namespace Go.Proofs
open Go.AM
namespace Mul64R
theorem wrapN (a : Nat) (ha : a < 18446744073709551616) : IntKind.u64.wrap (a : Int) = (a : Int) := by rw [IntKind.wrap_u64]; omega
theorem wrapM (a : Nat) : IntKind.u64.wrap (a : Int) = ((a % 18446744073709551616 : Nat) : Int) := by rw [IntKind.wrap_u64]; omega
end Mul64R
namespace YtmedpoeeoihfmaaGreatDoor
variable {Gl : Globs}
theorem c56 (x y c : Int) (hx : 0 ≤ x) (hy : 0 ≤ y) (h0 : 0 ≤ c) (h1 : c ≤ 1) :
  Pure Tryz.prog Gl 93 [.d (.int .u64 x), .d (.int .u64 y), .d (.int .u64 c)] (.tup [.d (.int .u64 ((x + y + c) % 18446744073709551616)), .d (.int .u64 ((x + y + c) / 18446744073709551616))]) :=
 add64_pure Tryz.func93 (by kernel_rfl) (by kernel_rfl) (by kernel_rfl) (by kernel_rfl) x y c hx hy h0 h1
theorem c58 (x y c : Nat) (h1 : c ≤ 1) :
  Pure Tryz.prog Gl 95 [.d (.int .u64 x), .d (.int .u64 y), .d (.int .u64 c)] (.tup [.d (.int .u64 (((x + 18446744073709551616 - y - c) % 18446744073709551616 : Nat) : Int)), .d (.int .u64 ((if x < y + c then 1 else 0 : Nat) : Int))]) :=
 sub64_pure Tryz.func95 (by kernel_rfl) (by kernel_rfl) (by kernel_rfl) (by kernel_rfl) x y c h1
theorem c32 (n : Int) (h1 : -9223372036854775808 ≤ n) (h2 : n ≤ 9223372036854775807) : Pure Tryz.prog Gl 62 [.d (.int .i64 n)] (.d (.int .u64 (n.natAbs : Int))) := by
 refine Pure.of1 ?_
 refine acalls_of Tryz.func62 rfl rfl (by simp [Tryz.ntmps62]) (evC_sound rfl _ _ _ _ ?_)
 simp only [Tryz.ntmps62, Tryz.results62, argEnv, List.length_nil]
 simp only [vcRules, dRules, bRules, tyRules, xRules, pickV_true, pickV_false, implies_true, Nat.reduceLT, Nat.reduceLeDiff, Nat.reduceEqDiff, Nat.reduceAdd, Nat.reduceSub, Nat.reduceMul, Int.reduceToNat, Int.reduceLT, Int.reduceLE, Int.reduceEq, Int.reduceAdd, Int.reduceSub, Int.reduceNeg, Int.reduceBEq, Int.reduceBNe, Int.reduceMul, Int.natCast_add, Int.natCast_one, reduceCtorEq, reduceIte, wG]
 refine ifC.mk (fun hc => ?_) (fun hc => ?_)
 ·have hc : n < 0 := by simpa using hc
  refine ⟨_, _, ret_d, ?_, rfl⟩
  congr 2
  simp only [wrapu]; omega
 ·have hc : ¬ n < 0 := by simpa using hc
  refine ⟨_, _, ret_d, ?_, rfl⟩
  congr 2
  simp only [wrapu]; omega
theorem remN (a b : Nat) : Int.tmod (a : Int) (b : Int) = ((a % b : Nat) : Int) := rfl
theorem quoN (a b : Nat) : Int.tdiv (a : Int) (b : Int) = ((a / b : Nat) : Int) := rfl
theorem remU' (a b : Int) : binD .rem (.int .u64 a) (.int .u64 b) = .int .u64 (a.tmod b) := rfl
theorem quoU (a b : Int) : binD .quo (.int .u64 a) (.int .u64 b) = .int .u64 (IntKind.u64.wrap (a.tdiv b)) := rfl
theorem c31 (a b : Nat) : Pure Tryz.prog Gl 61 [.d (.int .u64 a), .d (.int .u64 b)] (.d (.int .u64 (Nat.gcd a b))) := by
 refine Pure.of2 ?_
 refine acalls_of Tryz.func61 rfl rfl (by simp [Tryz.ntmps61]) (evC_sound rfl _ _ _ _ ?_)
 simp only [Tryz.ntmps61, Tryz.results61, argEnv, List.length_nil]
 simp only [vcRules, dRules, bRules, tyRules, xRules, pickV_true, pickV_false, implies_true, Nat.reduceLT, Nat.reduceLeDiff, Nat.reduceEqDiff, Nat.reduceAdd, Nat.reduceSub, Nat.reduceMul, Int.reduceToNat, Int.reduceLT, Int.reduceLE, Int.reduceEq, Int.reduceAdd, Int.reduceSub, Int.reduceNeg, Int.reduceBEq, Int.reduceBNe, Int.reduceMul, Int.natCast_add, Int.natCast_one, reduceCtorEq, reduceIte, wG]
 refine loop_of (τ := Nat × Nat) (fun p => [(0, .d (.int .u64 p.1)), (1, .d (.int .u64 p.2))]) (fun _ => []) (fun p => Nat.gcd p.1 p.2 = Nat.gcd a b) (fun p => p.2) (a, b) rfl ?_ ?_
 ·refine weak_to [] [] rfl List.nodup_nil ?_ rfl
  simp only [vcRules, dRules, bRules, tyRules, xRules, pickV_true, pickV_false, implies_true, Nat.reduceLT, Nat.reduceLeDiff, Nat.reduceEqDiff, Nat.reduceAdd, Nat.reduceSub, Nat.reduceMul, Int.reduceToNat, Int.reduceLT, Int.reduceLE, Int.reduceEq, Int.reduceAdd, Int.reduceSub, Int.reduceNeg, Int.reduceBEq, Int.reduceBNe, Int.reduceMul, Int.natCast_add, Int.natCast_one, reduceCtorEq, reduceIte, wG]
 ·rintro ⟨x, y⟩ hxy
  simp only at hxy
  simp only [vcRules, dRules, bRules, tyRules, xRules, pickV_true, pickV_false, implies_true, Nat.reduceLT, Nat.reduceLeDiff, Nat.reduceEqDiff, Nat.reduceAdd, Nat.reduceSub, Nat.reduceMul, Int.reduceToNat, Int.reduceLT, Int.reduceLE, Int.reduceEq, Int.reduceAdd, Int.reduceSub, Int.reduceNeg, Int.reduceBEq, Int.reduceBNe, Int.reduceMul, Int.natCast_add, Int.natCast_one, reduceCtorEq, reduceIte, wG]
  refine ifC.mk (fun hc => ?_) (fun hc => ?_)
  ·have hc : y ≠ 0 := by intro h; subst h; simp at hc
   repeat ((with_reducible refine And.intro ?_ ?_); (focus (first | omega | (simp only [lenR]; omega) | (refine qq ?_; rfl) | (refine dq ?_; kernel_rfl) | (intros; simp_all; done))))
   refine ⟨(y, x % y), ?_, ?_, ?_⟩
   ·simp only; rw [← hxy, Nat.gcd_comm y, ← Nat.gcd_rec, Nat.gcd_comm]
   ·exact Nat.mod_lt _ (by omega)
   ·refine weak_to [] [] rfl List.nodup_nil ?_ rfl
    simp only [vcRules, dRules, bRules, tyRules, xRules, pickV_true, pickV_false, implies_true, Nat.reduceLT, Nat.reduceLeDiff, Nat.reduceEqDiff, Nat.reduceAdd, Nat.reduceSub, Nat.reduceMul, Int.reduceToNat, Int.reduceLT, Int.reduceLE, Int.reduceEq, Int.reduceAdd, Int.reduceSub, Int.reduceNeg, Int.reduceBEq, Int.reduceBNe, Int.reduceMul, Int.natCast_add, Int.natCast_one, reduceCtorEq, reduceIte, wG, remN]
  ·have hc : y = 0 := by simpa using hc
   subst hc
   rw [Nat.gcd_zero_right] at hxy
   subst hxy
   exact ⟨_, _, ret_d, rfl, rfl⟩
theorem and32R (a : Nat) (ha : a < 18446744073709551616) : intBin .and .u64 (a : Int) 4294967295 = .int .u64 ((a % 4294967296 : Nat) : Int) := by
 have h := bits_and_u64_nat a 4294967295 ha (by omega)
 have e : a &&& 4294967295 = a % 4294967296 := Nat.and_two_pow_sub_one_eq_mod a 32
 rw [e] at h
 rw [← h]; rfl
theorem shr32R (a : Nat) : intBin .shr .u64 (a : Int) 32 = .int .u64 ((a / 4294967296 : Nat) : Int) := by
 show D.int .u64 (Int.fdiv (a : Int) (2 ^ (min 32 64))) = _
 rw [Int.fdiv_eq_ediv_of_nonneg _ (by decide)]
 rfl
theorem okAndR (b : Int) : intBinOk .and .u64 .u64 b = True := eq_true rfl
theorem okOrR (b : Int) : intBinOk .or .u64 .u64 b = True := eq_true rfl
theorem c55 (x y : Nat) (hx : x < 18446744073709551616) (hy : y < 18446744073709551616) :
  Pure Tryz.prog Gl 92 [.d (.int .u64 x), .d (.int .u64 y)] (.tup [.d (.int .u64 ((x * y / 18446744073709551616 : Nat) : Int)), .d (.int .u64 ((x * y % 18446744073709551616 : Nat) : Int))]) := by
 obtain ⟨bd, bt, bw, hhi⟩ := Lib.mul64_hi x y hx hy
 have ba := Lib.half_mul_le (a := x / 4294967296) (b := y / 4294967296) (by omega) (by omega)
 have bb := Lib.half_mul_le (a := x / 4294967296) (b := y % 4294967296) (by omega) (by omega)
 have bc := Lib.half_mul_le (a := x % 4294967296) (b := y / 4294967296) (by omega) (by omega)
 have ba' : x / 4294967296 * (y / 4294967296) < 18446744073709551616 := by omega
 have bb' : x / 4294967296 * (y % 4294967296) < 18446744073709551616 := by omega
 have bc' : x % 4294967296 * (y / 4294967296) < 18446744073709551616 := by omega
 have bh1 : x / 4294967296 * (y / 4294967296) + (x / 4294967296 * (y % 4294967296) + x % 4294967296 * (y % 4294967296) / 4294967296) / 4294967296 < 18446744073709551616 := by omega
 have bh : x / 4294967296 * (y / 4294967296) + (x / 4294967296 * (y % 4294967296) + x % 4294967296 * (y % 4294967296) / 4294967296) / 4294967296 + ((x / 4294967296 * (y % 4294967296) + x % 4294967296 * (y % 4294967296) / 4294967296) % 4294967296 + x % 4294967296 * (y / 4294967296)) / 4294967296 < 18446744073709551616 := by omega
 refine Pure.of2t2 ?_
 refine acalls_of Tryz.func92 rfl rfl (by simp [Tryz.ntmps92]) (evC_sound rfl _ _ _ _ ?_)
 simp only [Tryz.ntmps92, Tryz.results92, argEnv, List.length_nil]
 simp only [vcRules, dRules, bRules, tyRules, xRules, pickV_true, pickV_false, implies_true, Nat.reduceLT, Nat.reduceLeDiff, Nat.reduceEqDiff, Nat.reduceAdd, Nat.reduceSub, Nat.reduceMul, Int.reduceToNat, Int.reduceLT, Int.reduceLE, Int.reduceEq, Int.reduceAdd, Int.reduceSub, Int.reduceNeg, Int.reduceBEq, Int.reduceBNe, Int.reduceMul, Int.natCast_add, Int.natCast_one, reduceCtorEq, reduceIte, wG, okAndR, true_and, and32R x hx, and32R y hy, shr32R, ← Int.natCast_mul, ← Int.natCast_add, Mul64R.wrapN _ bd, Mul64R.wrapN _ bb', Mul64R.wrapN _ bt, and32R _ bt, Mul64R.wrapN _ bc', Mul64R.wrapN _ bw, Mul64R.wrapN _ ba', Mul64R.wrapN _ bh1, Mul64R.wrapN _ bh, Mul64R.wrapM (x * y)]
 rw [hhi]
 exact ⟨_, _, ret_t2, rfl, rfl⟩
theorem c39 (x y : Nat) (hx : x < 18446744073709551616) (hy : y < 18446744073709551616) :
  Pure Tryz.prog Gl 60 [.d (.int .u64 x), .d (.int .u64 y)] (.d (wN (x * y))) := by
 refine Pure.of2 ?_
 refine acalls_of Tryz.func60 rfl rfl (by simp [Tryz.ntmps60]) (evC_sound rfl _ _ _ _ ?_)
 simp only [Tryz.ntmps60, Tryz.results60, argEnv, List.length_nil]
 simp only [vcRules, dRules, bRules, tyRules, xRules, pickV_true, pickV_false, implies_true, Nat.reduceLT, Nat.reduceLeDiff, Nat.reduceEqDiff, Nat.reduceAdd, Nat.reduceSub, Nat.reduceMul, Int.reduceToNat, Int.reduceLT, Int.reduceLE, Int.reduceEq, Int.reduceAdd, Int.reduceSub, Int.reduceNeg, Int.reduceBEq, Int.reduceBNe, Int.reduceMul, Int.natCast_add, Int.natCast_one, reduceCtorEq, reduceIte, wG]
 refine callF_pure (c55 x y hx hy) ?_
 simp only [vcRules, dRules, bRules, tyRules, xRules, pickV_true, pickV_false, implies_true, Nat.reduceLT, Nat.reduceLeDiff, Nat.reduceEqDiff, Nat.reduceAdd, Nat.reduceSub, Nat.reduceMul, Int.reduceToNat, Int.reduceLT, Int.reduceLE, Int.reduceEq, Int.reduceAdd, Int.reduceSub, Int.reduceNeg, Int.reduceBEq, Int.reduceBNe, Int.reduceMul, Int.natCast_add, Int.natCast_one, reduceCtorEq, reduceIte, wG]
 repeat ((with_reducible refine And.intro ?_ ?_); (focus (first | omega | (simp only [lenR]; omega) | (refine qq ?_; rfl) | (refine dq ?_; kernel_rfl) | (intros; simp_all; done))))
 exact ⟨_, _, ret_d, rfl, rfl⟩
theorem c40 (M N : Nat) (h : M + N < 340282366920938463463374607431768211456) : Pure Tryz.prog Gl 63 [.d (wN M), .d (wN N)] (.d (wN (M + N))) := by
 refine Pure.of2 ?_
 refine acalls_of Tryz.func63 rfl rfl (by simp [Tryz.ntmps63]) (evC_sound rfl _ _ _ _ ?_)
 simp only [Tryz.ntmps63, Tryz.results63, argEnv, List.length_nil]
 simp only [vcRules, dRules, bRules, tyRules, xRules, pickV_true, pickV_false, implies_true, Nat.reduceLT, Nat.reduceLeDiff, Nat.reduceEqDiff, Nat.reduceAdd, Nat.reduceSub, Nat.reduceMul, Int.reduceToNat, Int.reduceLT, Int.reduceLE, Int.reduceEq, Int.reduceAdd, Int.reduceSub, Int.reduceNeg, Int.reduceBEq, Int.reduceBNe, Int.reduceMul, Int.natCast_add, Int.natCast_one, reduceCtorEq, reduceIte, wG]
 refine callF_pure (c56 _ _ _ (by omega) (by omega) (by omega) (by omega)) ?_
 simp only [vcRules, dRules, bRules, tyRules, xRules, pickV_true, pickV_false, implies_true, Nat.reduceLT, Nat.reduceLeDiff, Nat.reduceEqDiff, Nat.reduceAdd, Nat.reduceSub, Nat.reduceMul, Int.reduceToNat, Int.reduceLT, Int.reduceLE, Int.reduceEq, Int.reduceAdd, Int.reduceSub, Int.reduceNeg, Int.reduceBEq, Int.reduceBNe, Int.reduceMul, Int.natCast_add, Int.natCast_one, reduceCtorEq, reduceIte, wG]
 refine callF_pure (c56 _ _ _ (by omega) (by omega) (by omega) (by omega)) ?_
 simp only [vcRules, dRules, bRules, tyRules, xRules, pickV_true, pickV_false, implies_true, Nat.reduceLT, Nat.reduceLeDiff, Nat.reduceEqDiff, Nat.reduceAdd, Nat.reduceSub, Nat.reduceMul, Int.reduceToNat, Int.reduceLT, Int.reduceLE, Int.reduceEq, Int.reduceAdd, Int.reduceSub, Int.reduceNeg, Int.reduceBEq, Int.reduceBNe, Int.reduceMul, Int.natCast_add, Int.natCast_one, reduceCtorEq, reduceIte, wG]
 repeat ((with_reducible refine And.intro ?_ ?_); (focus (first | omega | (simp only [lenR]; omega) | (refine qq ?_; rfl) | (refine dq ?_; kernel_rfl) | (intros; simp_all; done))))
 refine ⟨_, _, ret_d, ?_, rfl⟩
 exact congrArg AV.d (wN_eq (by omega) (by omega))
theorem c57 (M N : Nat) : Pure Tryz.prog Gl 94 [.d (wN M), .d (wN N)] (.d (.bool (decide (M < N)))) := by
 refine Pure.of2 ?_
 refine acalls_of Tryz.func94 rfl rfl (by simp [Tryz.ntmps94]) (evC_sound rfl _ _ _ _ ?_)
 simp only [Tryz.ntmps94, Tryz.results94, argEnv, List.length_nil]
 simp only [vcRules, dRules, bRules, tyRules, xRules, pickV_true, pickV_false, implies_true, Nat.reduceLT, Nat.reduceLeDiff, Nat.reduceEqDiff, Nat.reduceAdd, Nat.reduceSub, Nat.reduceMul, Int.reduceToNat, Int.reduceLT, Int.reduceLE, Int.reduceEq, Int.reduceAdd, Int.reduceSub, Int.reduceNeg, Int.reduceBEq, Int.reduceBNe, Int.reduceMul, Int.natCast_add, Int.natCast_one, reduceCtorEq, reduceIte, wG]
 refine ⟨_, _, ret_d, ?_, rfl⟩
 congr 2
 rw [Bool.eq_iff_iff]
 simp only [Bool.or_eq_true, Bool.and_eq_true, decide_eq_true_eq, beq_iff_eq]
 omega
theorem c41a (M N : Nat) (h : N ≤ M) (hM : M < 340282366920938463463374607431768211456) : Pure Tryz.prog Gl 64 [.d (wN M), .d (wN N)] (.tup [.d (wN (M - N)), .d (.bool false)]) := by
 refine Pure.of2t2 ?_
 refine acalls_of Tryz.func64 rfl rfl (by simp [Tryz.ntmps64]) (evC_sound rfl _ _ _ _ ?_)
 simp only [Tryz.ntmps64, Tryz.results64, argEnv, List.length_nil]
 simp only [vcRules, dRules, bRules, tyRules, xRules, pickV_true, pickV_false, implies_true, Nat.reduceLT, Nat.reduceLeDiff, Nat.reduceEqDiff, Nat.reduceAdd, Nat.reduceSub, Nat.reduceMul, Int.reduceToNat, Int.reduceLT, Int.reduceLE, Int.reduceEq, Int.reduceAdd, Int.reduceSub, Int.reduceNeg, Int.reduceBEq, Int.reduceBNe, Int.reduceMul, Int.natCast_add, Int.natCast_one, reduceCtorEq, reduceIte, wG]
 refine callF_pure (c57 M N) ?_
 simp only [vcRules, dRules, bRules, tyRules, xRules, pickV_true, pickV_false, implies_true, Nat.reduceLT, Nat.reduceLeDiff, Nat.reduceEqDiff, Nat.reduceAdd, Nat.reduceSub, Nat.reduceMul, Int.reduceToNat, Int.reduceLT, Int.reduceLE, Int.reduceEq, Int.reduceAdd, Int.reduceSub, Int.reduceNeg, Int.reduceBEq, Int.reduceBNe, Int.reduceMul, Int.natCast_add, Int.natCast_one, reduceCtorEq, reduceIte, wG]
 refine ifC.mk (fun hc => ?_) (fun hc => ?_)
 ·have hc : M < N := by simpa using hc
  omega
 ·(try simp only [vcRules, dRules, bRules, tyRules, xRules, pickV_true, pickV_false, implies_true, Nat.reduceLT, Nat.reduceLeDiff, Nat.reduceEqDiff, Nat.reduceAdd, Nat.reduceSub, Nat.reduceMul, Int.reduceToNat, Int.reduceLT, Int.reduceLE, Int.reduceEq, Int.reduceAdd, Int.reduceSub, Int.reduceNeg, Int.reduceBEq, Int.reduceBNe, Int.reduceMul, Int.natCast_add, Int.natCast_one, reduceCtorEq, reduceIte, wG])
  refine callF_pure (c58 _ _ 0 (by omega)) ?_
  simp only [vcRules, dRules, bRules, tyRules, xRules, pickV_true, pickV_false, implies_true, Nat.reduceLT, Nat.reduceLeDiff, Nat.reduceEqDiff, Nat.reduceAdd, Nat.reduceSub, Nat.reduceMul, Int.reduceToNat, Int.reduceLT, Int.reduceLE, Int.reduceEq, Int.reduceAdd, Int.reduceSub, Int.reduceNeg, Int.reduceBEq, Int.reduceBNe, Int.reduceMul, Int.natCast_add, Int.natCast_one, reduceCtorEq, reduceIte, wG]
  refine callF_pure (c58 _ _ _ (by split <;> omega)) ?_
  simp only [vcRules, dRules, bRules, tyRules, xRules, pickV_true, pickV_false, implies_true, Nat.reduceLT, Nat.reduceLeDiff, Nat.reduceEqDiff, Nat.reduceAdd, Nat.reduceSub, Nat.reduceMul, Int.reduceToNat, Int.reduceLT, Int.reduceLE, Int.reduceEq, Int.reduceAdd, Int.reduceSub, Int.reduceNeg, Int.reduceBEq, Int.reduceBNe, Int.reduceMul, Int.natCast_add, Int.natCast_one, reduceCtorEq, reduceIte, wG]
  repeat ((with_reducible refine And.intro ?_ ?_); (focus (first | omega | (simp only [lenR]; omega) | (refine qq ?_; rfl) | (refine dq ?_; kernel_rfl) | (intros; simp_all; done))))
  refine ⟨_, _, ret_t2, ?_, rfl⟩
  refine congrArg AV.tup ?_
  refine congrArg (fun d => [AV.d d, AV.d (.bool false)]) ?_
  exact wN_eq (by (try split) <;> omega) (by (try split) <;> omega)
theorem c41 (M N : Nat) (hM : M < 340282366920938463463374607431768211456) (hN : N < 340282366920938463463374607431768211456) : Pure Tryz.prog Gl 64 [.d (wN M), .d (wN N)] (.tup [.d (wN (M - N + (N - M))), .d (.bool (decide (M < N)))]) := by
 by_cases hlt : M < N
 ·refine Pure.of2t2 ?_
  refine acalls_of Tryz.func64 rfl rfl (by simp [Tryz.ntmps64]) (evC_sound rfl _ _ _ _ ?_)
  simp only [Tryz.ntmps64, Tryz.results64, argEnv, List.length_nil]
  simp only [vcRules, dRules, bRules, tyRules, xRules, pickV_true, pickV_false, implies_true, Nat.reduceLT, Nat.reduceLeDiff, Nat.reduceEqDiff, Nat.reduceAdd, Nat.reduceSub, Nat.reduceMul, Int.reduceToNat, Int.reduceLT, Int.reduceLE, Int.reduceEq, Int.reduceAdd, Int.reduceSub, Int.reduceNeg, Int.reduceBEq, Int.reduceBNe, Int.reduceMul, Int.natCast_add, Int.natCast_one, reduceCtorEq, reduceIte, wG]
  refine callF_pure (c57 M N) ?_
  simp only [vcRules, dRules, bRules, tyRules, xRules, pickV_true, pickV_false, implies_true, Nat.reduceLT, Nat.reduceLeDiff, Nat.reduceEqDiff, Nat.reduceAdd, Nat.reduceSub, Nat.reduceMul, Int.reduceToNat, Int.reduceLT, Int.reduceLE, Int.reduceEq, Int.reduceAdd, Int.reduceSub, Int.reduceNeg, Int.reduceBEq, Int.reduceBNe, Int.reduceMul, Int.natCast_add, Int.natCast_one, reduceCtorEq, reduceIte, wG]
  refine ifC.mk (fun hc => ?_) (fun hc => ?_)
  ·(try simp only [vcRules, dRules, bRules, tyRules, xRules, pickV_true, pickV_false, implies_true, Nat.reduceLT, Nat.reduceLeDiff, Nat.reduceEqDiff, Nat.reduceAdd, Nat.reduceSub, Nat.reduceMul, Int.reduceToNat, Int.reduceLT, Int.reduceLE, Int.reduceEq, Int.reduceAdd, Int.reduceSub, Int.reduceNeg, Int.reduceBEq, Int.reduceBNe, Int.reduceMul, Int.natCast_add, Int.natCast_one, reduceCtorEq, reduceIte, wG])
   refine callF_pure (c41a N M (by omega) hN) ?_
   simp only [vcRules, dRules, bRules, tyRules, xRules, pickV_true, pickV_false, implies_true, Nat.reduceLT, Nat.reduceLeDiff, Nat.reduceEqDiff, Nat.reduceAdd, Nat.reduceSub, Nat.reduceMul, Int.reduceToNat, Int.reduceLT, Int.reduceLE, Int.reduceEq, Int.reduceAdd, Int.reduceSub, Int.reduceNeg, Int.reduceBEq, Int.reduceBNe, Int.reduceMul, Int.natCast_add, Int.natCast_one, reduceCtorEq, reduceIte, wG]
   repeat ((with_reducible refine And.intro ?_ ?_); (focus (first | omega | (simp only [lenR]; omega) | (refine qq ?_; rfl) | (refine dq ?_; kernel_rfl) | (intros; simp_all; done))))
   refine ⟨_, _, ret_t2, ?_, rfl⟩
   rw [decide_eq_true hlt, show M - N + (N - M) = N - M by omega]
  ·have hc : ¬ M < N := by simpa using hc
   exact absurd hlt hc
 ·rw [decide_eq_false hlt, show M - N + (N - M) = M - N by omega]
  exact c41a M N (by omega) hM
theorem c67 (x : Nat) (h : x < 18446744073709551616) : Pure Tryz.prog Gl 118 [.d (.int .u64 x)] (.d (.int .i64 (Lib.bitLen x : Nat))) :=
 pure_of_calls' Tryz.func118 (by kernel_rfl) (by kernel_rfl) (fun w I μ σ vals hv hl => reps_int1 hv hl) (fun w => Tryz.bits_Len64 x w (by omega) (by omega)) (fun w I μ σ => .d _ _ (.int _ _))
theorem bl_le {x : Nat} (h : x < 18446744073709551616) : Lib.bitLen x ≤ 64 := Lib.bitLen_le x 64 (Nat.le_refl _) h
theorem c65 (x : Nat) (h : x < 18446744073709551616) : Pure Tryz.prog Gl 113 [.d (.int .u64 x)] (.d (.int .i64 ((64 - Lib.bitLen x : Nat) : Int))) := by
 refine Pure.of1 ?_
 have hb := bl_le h
 refine acalls_of Tryz.func113 rfl rfl (by simp [Tryz.ntmps113]) (evC_sound rfl _ _ _ _ ?_)
 simp only [Tryz.ntmps113, Tryz.results113, argEnv, List.length_nil]
 simp only [vcRules, dRules, bRules, tyRules, xRules, pickV_true, pickV_false, implies_true, Nat.reduceLT, Nat.reduceLeDiff, Nat.reduceEqDiff, Nat.reduceAdd, Nat.reduceSub, Nat.reduceMul, Int.reduceToNat, Int.reduceLT, Int.reduceLE, Int.reduceEq, Int.reduceAdd, Int.reduceSub, Int.reduceNeg, Int.reduceBEq, Int.reduceBNe, Int.reduceMul, Int.natCast_add, Int.natCast_one, reduceCtorEq, reduceIte, wG]
 refine callF_pure (c67 x h) ?_
 simp only [vcRules, dRules, bRules, tyRules, xRules, pickV_true, pickV_false, implies_true, Nat.reduceLT, Nat.reduceLeDiff, Nat.reduceEqDiff, Nat.reduceAdd, Nat.reduceSub, Nat.reduceMul, Int.reduceToNat, Int.reduceLT, Int.reduceLE, Int.reduceEq, Int.reduceAdd, Int.reduceSub, Int.reduceNeg, Int.reduceBEq, Int.reduceBNe, Int.reduceMul, Int.natCast_add, Int.natCast_one, reduceCtorEq, reduceIte, wG]
 refine ⟨_, _, ret_d, ?_, rfl⟩
 rw [@a_wrap ((64:Int) - (Lib.bitLen x : Nat)) (by omega)]
 congr 2
 omega
end YtmedpoeeoihfmaaGreatDoor
end Go.Proofs

set_option maxRecDepth 100000
namespace Go.Proofs
open Go.AM
namespace YtmedpoeeoihfmaaGreatDoor
variable {Gl : Globs}
theorem lo_bit (M i : Nat) (hi : i < 64) : (M % 18446744073709551616) / 2 ^ i % 2 = M / 2 ^ i % 2 := by
 have h := Nat.testBit_mod_two_pow M 64 i
 simp only [hi, decide_true, Bool.true_and, Nat.testBit_eq_decide_div_mod_eq] at h
 have h2 : (2 : Nat) ^ 64 = 18446744073709551616 := rfl
 rw [h2] at h
 have := decide_eq_decide.1 h
 omega
theorem hi_bit (M i : Nat) (hi : 64 ≤ i) : (M / 18446744073709551616) / 2 ^ (i - 64) = M / 2 ^ i := by
 have h2 : (18446744073709551616 : Nat) = 2 ^ 64 := rfl
 rw [h2, Nat.div_div_eq_div_mul, ← Nat.pow_add, show 64 + (i - 64) = i by omega]
theorem c63b (M i : Nat) (hi : i < 128) : Pure Tryz.prog Gl 114 [.d (wN M), .d (.int .i64 i)] (.d (.int .u64 ((M / 2 ^ i % 2 : Nat) : Int))) := by
 refine Pure.of2 ?_
 by_cases h : 64 ≤ i
 ·have e1 : IntKind.u64.wrap (IntKind.i64.wrap (((i : Nat) : Int) - 64)) = ((i - 64 : Nat) : Int) := by rw [@a_wrap ((i:Int) - 64) (by omega), wrapu]; omega
  refine acalls_of Tryz.func114 rfl rfl (by simp [Tryz.ntmps114]) (evC_sound rfl _ _ _ _ ?_)
  simp only [Tryz.ntmps114, Tryz.results114, argEnv, List.length_nil]
  simp only [zF, seval, Nat.reduceLeDiff, Nat.reduceEqDiff, reduceCtorEq, reduceIte, wG, (show (64:Int) ≤ i by omega), e1, shrU, remU, shr_nat (M / 18446744073709551616) (i - 64) (by omega)]
  repeat ((with_reducible refine And.intro ?_ ?_); (focus (first | omega | (simp only [lenR]; omega) | (refine qq ?_; rfl) | (refine dq ?_; kernel_rfl) | (intros; simp_all; done))))
  rw [hi_bit M i h]
  exact ⟨_, _, ret_d, rfl, rfl⟩
 ·have e1 : IntKind.u64.wrap ((i : Nat) : Int) = (i : Int) := by rw [wrapu]; omega
  refine acalls_of Tryz.func114 rfl rfl (by simp [Tryz.ntmps114]) (evC_sound rfl _ _ _ _ ?_)
  simp only [Tryz.ntmps114, Tryz.results114, argEnv, List.length_nil]
  simp only [zF, seval, Nat.reduceLeDiff, Nat.reduceEqDiff, reduceCtorEq, reduceIte, wG, (show ¬ (64:Int) ≤ i by omega), e1, shrU, remU, shr_nat (M % 18446744073709551616) i (by omega)]
  repeat ((with_reducible refine And.intro ?_ ?_); (focus (first | omega | (simp only [lenR]; omega) | (refine qq ?_; rfl) | (refine dq ?_; kernel_rfl) | (intros; simp_all; done))))
  rw [lo_bit M i (by omega)]
  exact ⟨_, _, ret_d, rfl, rfl⟩
theorem div_step (A N b : Nat) (hN : 0 < N) (hb : b < 2) : (2 * (A % N) + b < N → (2 * A + b) / N = 2 * (A / N) ∧ (2 * A + b) % N = 2 * (A % N) + b) ∧
  (N ≤ 2 * (A % N) + b → (2 * A + b) / N = 2 * (A / N) + 1 ∧ (2 * A + b) % N = 2 * (A % N) + b - N) := by
 have e := Nat.div_add_mod A N
 have hr := Nat.mod_lt A hN
 obtain ⟨q, hq⟩ : ∃ q, q = A / N := ⟨_, rfl⟩
 obtain ⟨r, hr'⟩ : ∃ r, r = A % N := ⟨_, rfl⟩
 rw [← hq, ← hr'] at e
 rw [← hr'] at hr
 rw [← hq, ← hr']
 constructor
 ·intro h
  have e2 : 2 * A + b = (2 * r + b) + N * (2 * q) := by rw [← e, Nat.mul_add, Nat.mul_left_comm]; omega
  rw [e2, Nat.add_mul_div_left _ _ hN, Nat.add_mul_mod_self_left, Nat.div_eq_of_lt h, Nat.mod_eq_of_lt h]
  exact ⟨by omega, rfl⟩
 ·intro h
  have e2 : 2 * A + b = (2 * r + b - N) + N * (2 * q + 1) := by rw [← e, Nat.mul_add N, Nat.mul_add 2, Nat.mul_left_comm N 2 q]; omega
  have hlt : 2 * r + b - N < N := by omega
  rw [e2, Nat.add_mul_div_left _ _ hN, Nat.add_mul_mod_self_left, Nat.div_eq_of_lt hlt, Nat.mod_eq_of_lt hlt]
  exact ⟨by omega, rfl⟩
def selD (b : Bool) (x y : D) : D := if b = true then x else y
theorem selD_t (x y : D) : selD true x y = x := rfl
theorem selD_f (x y : D) : selD false x y = y := rfl
theorem sel_isAgg (b : Bool) (x y : Nat) : (selD b (wN x) (wN y)).isAgg = true := by cases b <;> rfl
theorem sel_cells (b : Bool) (x y : Nat) : (selD b (wN x) (wN y)).cells.length = 2 := by cases b <;> rfl
theorem c53 (M N : Nat) (hM : M < 340282366920938463463374607431768211456) (hN : 0 < N) (hN2 : N < 170141183460469231731687303715884105728) : Pure Tryz.prog Gl 103 [.d (wN M), .d (wN N)] (.tup [.d (wN (M / N)), .d (wN (M % N))]) := by
 refine Pure.of2t2 ?_
 have z0 : D.agg [.int .u64 0, .int .u64 0] = wN 0 := rfl
 refine acalls_of Tryz.func103 rfl rfl (by simp [Tryz.ntmps103]) (evC_sound rfl _ _ _ _ ?_)
 simp only [Tryz.ntmps103, Tryz.results103, argEnv, List.length_nil]
 simp only [zF, seval, Nat.reduceLeDiff, Nat.reduceEqDiff, reduceCtorEq, reduceIte, wG]
 repeat ((with_reducible refine And.intro ?_ ?_); (focus (first | omega | (simp only [lenR]; omega) | (refine qq ?_; rfl) | (refine dq ?_; kernel_rfl) | (intros; simp_all; done))))
 refine for_of 128 (fun k => [(2, .ptr 0 0), (3, .ptr 1 0), (4, .ptr 2 0), (5, .ptr 3 0), (6, .ptr 4 0), (7, .ptr 5 0), (8, .d (.int .i64 (127 - (k : Int))))]) (fun k => [.box 2 (.d (wN M)), .box 2 (.d (wN N)), .box 2 (.d (wN 0)), .box 2 (.d (wN 0)), .box 2 (.d (wN (M / 2 ^ (128 - k) / N))), .box 2 (.d (wN (M / 2 ^ (128 - k) % N)))]) (fun _ => True) trivial ?_ ?_
 ·refine weak_to [] [0, 1, 2, 3, 4, 5] rfl (by simp) ?_ ?_
  ·simp only [zF, seval, Nat.reduceLeDiff, Nat.reduceEqDiff, reduceCtorEq, reduceIte, wG, Int.cast_ofNat_Int, Int.sub_zero]
  ·have : M / 2 ^ (128 - 0) = 0 := Nat.div_eq_of_lt hM
   rw [this, Nat.zero_div, Nat.zero_mod]; rfl
 ·intro k _ hk
  by_cases h : k < 128
  ·obtain ⟨m, hm⟩ : ∃ m, m = 127 - k := ⟨_, rfl⟩
   have em : (127 - (k : Int)) = (m : Int) := by omega
   have e64 : 128 - k = m + 1 := by omega
   have e64' : 128 - (k + 1) = m := by omega
   obtain ⟨A, hA⟩ : ∃ A, A = M / 2 ^ (m + 1) := ⟨_, rfl⟩
   have hbs : M / 2 ^ m = 2 * A + M / 2 ^ m % 2 := by rw [hA]; exact bit_step M m
   obtain ⟨b, hb⟩ : ∃ b, b = M / 2 ^ m % 2 := ⟨_, rfl⟩
   have hb2 : b < 2 := by omega
   have hA' : M / 2 ^ m ≤ M := Nat.div_le_self _ _
   rw [e64, e64', ← hA]
   rw [← hb] at hbs
   rw [hbs]
   have hr := Nat.mod_lt A hN
   have hq : A / N ≤ A := Nat.div_le_self _ _
   obtain ⟨s1, s2⟩ := div_step A N b hN hb2
   simp only [zF, seval, Nat.reduceLeDiff, Nat.reduceEqDiff, reduceCtorEq, reduceIte, wG, em, (show (0:Int) ≤ m by omega)]
   repeat ((with_reducible refine And.intro ?_ ?_); (focus (first | omega | (simp only [lenR]; omega) | (refine qq ?_; rfl) | (refine dq ?_; kernel_rfl) | (intros; simp_all; done))))
   refine callF_pure (c60 (A / N) (A / N) (by omega)) ?_
   simp only [zF, seval, Nat.reduceLeDiff, Nat.reduceEqDiff, reduceCtorEq, reduceIte, wG]
   repeat ((with_reducible refine And.intro ?_ ?_); (focus (first | omega | (simp only [lenR]; omega) | (refine qq ?_; rfl) | (refine dq ?_; kernel_rfl) | (intros; simp_all; done))))
   refine callF_pure (c60 (A % N) (A % N) (by omega)) ?_
   simp only [zF, seval, Nat.reduceLeDiff, Nat.reduceEqDiff, reduceCtorEq, reduceIte, wG]
   refine callF_pure (c63b M m (by omega)) ?_
   rw [← hb]
   have z := wN_small (show b < 18446744073709551616 by omega)
   simp only [zF, seval, Nat.reduceLeDiff, Nat.reduceEqDiff, reduceCtorEq, reduceIte, wG, z]
   refine callF_pure (c60 (A % N + A % N) b (by omega)) ?_
   simp only [zF, seval, Nat.reduceLeDiff, Nat.reduceEqDiff, reduceCtorEq, reduceIte, wG]
   refine callF_pure (c61 (A % N + A % N + b) N) ?_
   simp only [zF, seval, Nat.reduceLeDiff, Nat.reduceEqDiff, reduceCtorEq, reduceIte, wG]
   by_cases hc : A % N + A % N + b < N
   ·obtain ⟨t1, t2⟩ := s1 (by omega)
    rw [t1, t2]
    have hd : decide (A % N + A % N + b < N) = true := decide_eq_true hc
    simp only [zF, seval, Nat.reduceLeDiff, Nat.reduceEqDiff, reduceCtorEq, reduceIte, wG, hd, Bool.not_true]
    rw [show A / N + A / N = 2 * (A / N) by omega, show A % N + A % N + b = 2 * (A % N) + b by omega]
    refine ⟨h, ?_⟩
    refine weak_to [] [0, 1, 2, 3, 4, 5] rfl (by simp) ?_ rfl
    simp only [zF, seval, Nat.reduceLeDiff, Nat.reduceEqDiff, reduceCtorEq, reduceIte, wG, @a_wrap ((m:Int) - 1) (by omega), show (127 - ((k:Int) + 1)) = (m:Int) - 1 by omega]
   ·obtain ⟨t1, t2⟩ := s2 (by omega)
    rw [t1, t2]
    have hd : decide (A % N + A % N + b < N) = false := decide_eq_false hc
    simp only [zF, seval, Nat.reduceLeDiff, Nat.reduceEqDiff, reduceCtorEq, reduceIte, wG, hd, Bool.not_false]
    refine callF_pure (c62 (A % N + A % N + b) N (by omega) (by omega)) ?_
    have ez : D.agg [.int .u64 (((A / N + A / N) / 18446744073709551616 : Nat) : Int), .int .u64 (IntKind.u64.wrap ((((A / N + A / N) % 18446744073709551616 : Nat) : Int) + 1))] = wN (2 * (A / N) + 1) := wN_eq (by omega) (by simp only [wrapu]; omega)
    simp only [zF, seval, Nat.reduceLeDiff, Nat.reduceEqDiff, reduceCtorEq, reduceIte, wG, ez]
    refine ⟨h, ?_⟩
    rw [show A % N + A % N + b - N = 2 * (A % N) + b - N by omega]
    refine weak_to [] [0, 1, 2, 3, 4, 5] rfl (by simp) ?_ rfl
    simp only [zF, seval, Nat.reduceLeDiff, Nat.reduceEqDiff, reduceCtorEq, reduceIte, wG, @a_wrap ((m:Int) - 1) (by omega), show (127 - ((k:Int) + 1)) = (m:Int) - 1 by omega]
  ·have : k = 128 := by omega
   subst this
   simp only [zF, seval, Nat.reduceLeDiff, Nat.reduceEqDiff, reduceCtorEq, reduceIte, wG, Int.cast_ofNat_Int]
   have e0 : M / 2 ^ (128 - 128) = M := by rw [Nat.sub_self, Nat.pow_zero, Nat.div_one]
   try rw [e0]
   try rw [Nat.pow_zero, Nat.div_one]
   obtain ⟨q, hq⟩ : ∃ q, q = M / N := ⟨_, rfl⟩
   obtain ⟨r, hr⟩ : ∃ r, r = M % N := ⟨_, rfl⟩
   rw [← hq, ← hr]
   refine ⟨.inr (.inr (.inr (evFree_can
    (fun L => [(38, onV (L 1) (.d (wN r))), (37, onV (L 0) (.d (wN q))), (2, .ptr 0 0), (3, .ptr 1 0), (4, .ptr 2 0), (5, .ptr 3 0), (6, .ptr 4 0), (7, .ptr 5 0)])
    (fun L => [.box 2 (.d (wN M)), .box 2 (.d (wN N)), .box 2 (.d (selD (L 2) (wN q) (wN 0))), .box 2 (.d (selD (L 3) (wN r) (wN 0))), .box 2 (.d (wN q)), .box 2 (.d (wN r))]) (by kernel_rfl) ?_ ?_ ?_))), ?_⟩
   ·refine weak_to [] [0, 1, 2, 3, 4, 5] rfl (by simp) ?_ rfl
    rfl
   ·simp only [stepsL]
    refine ⟨?_, ?_, ?_, ?_, trivial⟩
    ·(intro L hc hL hp; simp only [predsL, Region.binds, frB] at hp; (try simp only [Nat.zero_add, Nat.reduceAdd] at hL); simp only [zF, seval, Nat.reduceLeDiff, Nat.reduceEqDiff, reduceCtorEq, reduceIte, wG, hL, hp, onV_t, onB_t, onV_f, onB_f, updB, sel_isAgg, sel_cells, selD_t, selD_f])
     refine weak_to [] [0, 1, 2, 3, 4, 5] rfl (by simp) ?_ ?_
     ·simp only [zF, seval, Nat.reduceLeDiff, Nat.reduceEqDiff, reduceCtorEq, reduceIte, wG, renV_onV, onV_t, onV_f]
      try rfl
     ·rfl
    ·(intro L hc hL hp; simp only [predsL, Region.binds, frB] at hp; (try simp only [Nat.zero_add, Nat.reduceAdd] at hL); simp only [zF, seval, Nat.reduceLeDiff, Nat.reduceEqDiff, reduceCtorEq, reduceIte, wG, hL, hp, onV_t, onB_t, onV_f, onB_f, updB, sel_isAgg, sel_cells, selD_t, selD_f])
     refine weak_to [] [0, 1, 2, 3, 4, 5] rfl (by simp) ?_ ?_
     ·simp only [zF, seval, Nat.reduceLeDiff, Nat.reduceEqDiff, reduceCtorEq, reduceIte, wG, renV_onV, onV_t, onV_f]
      try rfl
     ·rfl
    ·(intro L hc hL hp; simp only [predsL, Region.binds, frB] at hp; (try simp only [Nat.zero_add, Nat.reduceAdd] at hL); simp only [zF, seval, Nat.reduceLeDiff, Nat.reduceEqDiff, reduceCtorEq, reduceIte, wG, hL, hp, onV_t, onB_t, onV_f, onB_f, updB, sel_isAgg, sel_cells, selD_t, selD_f])
     refine weak_to [] [0, 1, 2, 3, 4, 5] rfl (by simp) ?_ ?_
     ·simp only [zF, seval, Nat.reduceLeDiff, Nat.reduceEqDiff, reduceCtorEq, reduceIte, wG, renV_onV, onV_t, onV_f]
      try rfl
     ·rfl
    ·(intro L hc hL hp; simp only [predsL, Region.binds, frB] at hp; (try simp only [Nat.zero_add, Nat.reduceAdd] at hL); simp only [zF, seval, Nat.reduceLeDiff, Nat.reduceEqDiff, reduceCtorEq, reduceIte, wG, hL, hp, onV_t, onB_t, onV_f, onB_f, updB, sel_isAgg, sel_cells, selD_t, selD_f])
     refine weak_to [] [0, 1, 2, 3, 4, 5] rfl (by simp) ?_ ?_
     ·simp only [zF, seval, Nat.reduceLeDiff, Nat.reduceEqDiff, reduceCtorEq, reduceIte, wG, renV_onV, onV_t, onV_f]
      try rfl
     ·rfl
   ·simp only [zF, seval, Nat.reduceLeDiff, Nat.reduceEqDiff, reduceCtorEq, reduceIte, wG, onV_t, selD_t]
    refine ⟨_, _, ret_t2, ?_, rfl⟩
    rfl
   ·refine ⟨_, _, ret_t2, ?_, rfl⟩
    rfl

structure FracT where
 n : Int
 q : Int
deriving DecidableEq, Inhabited
def FracT.toD (a : FracT) : D := .agg [.int .i64 a.n, .int .i64 a.q]
theorem f_isAgg (a : FracT) : a.toD.isAgg = true := rfl
theorem f_cells (a : FracT) : a.toD.cells = [.int .i64 a.n, .int .i64 a.q] := rfl
structure FracT.In (a : FracT) : Prop where
 n1 : -9223372036854775808 ≤ a.n
 n2 : a.n ≤ 9223372036854775807
 d1 : -9223372036854775808 ≤ a.q
 d2 : a.q ≤ 9223372036854775807
structure FracT.Ok (a : FracT) : Prop where
 d1 : 1 ≤ a.q
 d2 : a.q ≤ 1000000000000000
 n1 : -4611686018427387904 ≤ a.n
 n2 : a.n ≤ 4611686018427387904
 g : Nat.gcd a.n.natAbs a.q.natAbs = 1
def okF (a : FracT) : Bool := decide (1 ≤ a.q) && decide (a.q ≤ 1000000000000000) && (decide (-4611686018427387904 ≤ a.n) && decide (a.n ≤ 4611686018427387904)) && (Nat.gcd a.n.natAbs a.q.natAbs == 1)
theorem okF_iff {a : FracT} : okF a = true ↔ a.Ok := by
 simp only [okF, Bool.and_eq_true, decide_eq_true_eq, beq_iff_eq]
 constructor
 ·rintro ⟨⟨⟨h1, h2⟩, h3, h4⟩, h5⟩; exact ⟨h1, h2, h3, h4, h5⟩
 ·rintro ⟨h1, h2, h3, h4, h5⟩; exact ⟨⟨⟨h1, h2⟩, h3, h4⟩, h5⟩
theorem FracT.Ok.in_ {a : FracT} (h : a.Ok) : a.In := ⟨by have := h.n1; omega, by have := h.n2; omega, by have := h.d1; omega, by have := h.d2; omega⟩
def normS (m : Bool) (M d : Nat) : FracT × Bool :=
 if M / Nat.gcd M d ≤ 4611686018427387904 ∧ d / Nat.gcd M d ≤ 1000000000000000 then (⟨if m = true then -((M / Nat.gcd M d : Nat) : Int) else ((M / Nat.gcd M d : Nat) : Int), ((d / Nat.gcd M d : Nat) : Int)⟩, true) else (⟨0, 0⟩, false)
def resD (r : FracT × Bool) : AV := .tup [.d r.1.toD, .d (.bool r.2)]
theorem beqN (M N : Nat) : beqL [.int .u64 ((M / 18446744073709551616 : Nat) : Int), .int .u64 ((M % 18446744073709551616 : Nat) : Int)] [.int .u64 ((N / 18446744073709551616 : Nat) : Int), .int .u64 ((N % 18446744073709551616 : Nat) : Int)] = decide (M = N) := by
 rw [Bool.eq_iff_iff]
 simp only [beqL, D.beq1, Bool.and_eq_true, beq_iff_eq, decide_eq_true_eq, Bool.and_true]
 omega
theorem vNe (M N : Nat) : binV .neq (.d (wN M)) (.d (wN N)) = .d (.bool (!(decide (M = N)))) := by
 rw [← beqN]; rfl
theorem vEq (M N : Nat) : binV .eql (.d (wN M)) (.d (wN N)) = .d (.bool (decide (M = N))) := by
 rw [← beqN]; rfl
theorem okNe47 (M N : Nat) : binOk Tryz.prog 106 .neq (.d (wN M)) (.d (wN N)) = True := eq_true (by
 refine (show True ∧ (match tcmp Tryz.prog 106 with | some l => cmpL l _ _ = true | none => False) from ⟨trivial, ?_⟩)
 rw [ty_c106]; rfl)
theorem okEq47 (M N : Nat) : binOk Tryz.prog 106 .eql (.d (wN M)) (.d (wN N)) = True := eq_true (by
 refine (show True ∧ (match tcmp Tryz.prog 106 with | some l => cmpL l _ _ = true | none => False) from ⟨trivial, ?_⟩)
 rw [ty_c106]; rfl)
theorem okEq54 (M N : Nat) : binOk Tryz.prog 92 .eql (.d (wN M)) (.d (wN N)) = True := eq_true (by
 refine (show True ∧ (match tcmp Tryz.prog 92 with | some l => cmpL l _ _ = true | none => False) from ⟨trivial, ?_⟩)
 rw [ty_c92]; rfl)
theorem beqF (a b : FracT) : beqL [.int .i64 a.n, .int .i64 a.q] [.int .i64 b.n, .int .i64 b.q] = decide (a = b) := by
 rw [Bool.eq_iff_iff]
 simp only [beqL, D.beq1, Bool.and_eq_true, beq_iff_eq, decide_eq_true_eq, Bool.and_true]
 cases a; cases b; simp
theorem vEqF (a b : FracT) : binV .eql (.d a.toD) (.d b.toD) = .d (.bool (decide (a = b))) := by
 rw [← beqF]; rfl
theorem vNeF (a b : FracT) : binV .neq (.d a.toD) (.d b.toD) = .d (.bool (!(decide (a = b)))) := by
 rw [← beqF]; rfl
theorem okEqF (a b : FracT) : binOk Tryz.prog 34 .eql (.d a.toD) (.d b.toD) = True := eq_true (by
 refine (show True ∧ (match tcmp Tryz.prog 34 with | some l => cmpL l _ _ = true | none => False) from ⟨trivial, ?_⟩)
 rw [ty_c34]; rfl)
theorem okNeF (a b : FracT) : binOk Tryz.prog 34 .neq (.d a.toD) (.d b.toD) = True := eq_true (by
 refine (show True ∧ (match tcmp Tryz.prog 34 with | some l => cmpL l _ _ = true | none => False) from ⟨trivial, ?_⟩)
 rw [ty_c34]; rfl)
theorem cRules : type_of% (And.intro @vNe (And.intro @vEq (And.intro @okNe47 (And.intro @okEq47 (And.intro @okEq54 (And.intro @vEqF (And.intro @vNeF (And.intro @okEqF @okNeF)))))))) := And.intro @vNe (And.intro @vEq (And.intro @okNe47 (And.intro @okEq47 (And.intro @okEq54 (And.intro @vEqF (And.intro @vNeF (And.intro @okEqF @okNeF)))))))
theorem wC : type_of% (And.intro @wN_isAgg (And.intro @wN_cells (And.intro @f_isAgg (And.intro @f_cells (And.intro @cRules (@yRules)))))) := And.intro @wN_isAgg (And.intro @wN_cells (And.intro @f_isAgg (And.intro @f_cells (And.intro @cRules (@yRules)))))

theorem c36 (M N : Nat) (hM : M < 340282366920938463463374607431768211456) (hN : N < 170141183460469231731687303715884105728) : Pure Tryz.prog Gl 98 [.d (wN M), .d (wN N)] (.d (wN (Nat.gcd M N))) := by
 refine Pure.of2 ?_
 refine acalls_of Tryz.func98 rfl rfl (by simp [Tryz.ntmps98]) (evC_sound rfl _ _ _ _ ?_)
 simp only [Tryz.ntmps98, Tryz.results98, argEnv, List.length_nil]
 simp only [zF, seval, Nat.reduceLeDiff, Nat.reduceEqDiff, reduceCtorEq, reduceIte, wN_isAgg, wN_cells, gD_isAgg, gD_cells, f_isAgg, f_cells, cRules, yRules]
 repeat ((with_reducible refine And.intro ?_ ?_); (focus (first | omega | (simp only [lenR]; omega) | (refine qq ?_; rfl) | (refine dq ?_; kernel_rfl) | (intros; simp_all; done))))
 refine loop_of (τ := Nat × Nat) (fun p => [(2, .ptr 0 0), (3, .ptr 1 0), (4, .ptr 2 0)]) (fun p => [.box 2 (.d (wN p.1)), .box 2 (.d (wN p.2)), .box 2 (.d (wN 0))]) (fun p => Nat.gcd p.1 p.2 = Nat.gcd M N ∧ p.1 < 340282366920938463463374607431768211456 ∧ p.2 < 170141183460469231731687303715884105728) (fun p => p.2) (M, N) ⟨rfl, hM, hN⟩ ?_ ?_
 ·refine weak_to [] [0, 1, 2] rfl (by simp) ?_ rfl
  simp only [zF, seval, Nat.reduceLeDiff, Nat.reduceEqDiff, reduceCtorEq, reduceIte, wN_isAgg, wN_cells, gD_isAgg, gD_cells, f_isAgg, f_cells, cRules, yRules]
 ·rintro ⟨a, b⟩ ⟨h1, h2, h3⟩
  simp only at h1 h2 h3
  have z0 : D.agg [.int .u64 0, .int .u64 0] = wN 0 := rfl
  simp only [zF, seval, Nat.reduceLeDiff, Nat.reduceEqDiff, reduceCtorEq, reduceIte, wN_isAgg, wN_cells, gD_isAgg, gD_cells, f_isAgg, f_cells, cRules, yRules, z0]
  by_cases hb : b = 0
  ·subst hb
   have e : (!decide ((0 : Nat) = 0)) = false := rfl
   simp only [zF, seval, Nat.reduceLeDiff, Nat.reduceEqDiff, reduceCtorEq, reduceIte, wN_isAgg, wN_cells, gD_isAgg, gD_cells, f_isAgg, f_cells, cRules, yRules, e]
   refine ⟨_, _, ret_d, ?_, rfl⟩
   rw [← h1, Nat.gcd_zero_right]
  ·have e : (!decide (b = 0)) = true := by rw [decide_eq_false hb]; rfl
   simp only [zF, seval, Nat.reduceLeDiff, Nat.reduceEqDiff, reduceCtorEq, reduceIte, wN_isAgg, wN_cells, gD_isAgg, gD_cells, f_isAgg, f_cells, cRules, yRules, e]
   refine callF_pure (c53 a b h2 (by omega) h3) ?_
   simp only [zF, seval, Nat.reduceLeDiff, Nat.reduceEqDiff, reduceCtorEq, reduceIte, wN_isAgg, wN_cells, gD_isAgg, gD_cells, f_isAgg, f_cells, cRules, yRules]
   have hlt : a % b < b := Nat.mod_lt _ (by omega)
   refine ⟨(b, a % b), ⟨?_, by simp only; omega, by simp only; omega⟩, hlt, ?_⟩
   ·simp only; rw [← h1, Nat.gcd_comm b, ← Nat.gcd_rec, Nat.gcd_comm]
   ·refine weak_to [] [0, 1, 2] rfl (by simp) ?_ rfl
    simp only [zF, seval, Nat.reduceLeDiff, Nat.reduceEqDiff, reduceCtorEq, reduceIte, wN_isAgg, wN_cells, gD_isAgg, gD_cells, f_isAgg, f_cells, cRules, yRules]
theorem c34 (m : Bool) (M d : Nat) (hM : M < 340282366920938463463374607431768211456) (hd : 0 < d) (hd2 : d < 170141183460469231731687303715884105728) : Pure Tryz.prog Gl 71 [.d (gD m M), .d (wN d)] (resD (normS m M d)) := by
 refine Pure.of2t2 ?_
 have zM : D.agg [.int .u64 ((M / 18446744073709551616 : Nat) : Int), .int .u64 ((M % 18446744073709551616 : Nat) : Int)] = wN M := rfl
 obtain ⟨g, hg⟩ : ∃ g, g = Nat.gcd M d := ⟨_, rfl⟩
 have hg0 : 0 < g := by rw [hg]; exact Nat.gcd_pos_of_pos_right _ hd
 have hgd : g ≤ d := by rw [hg]; exact Nat.gcd_le_right _ hd
 refine acalls_of Tryz.func71 rfl rfl (by simp [Tryz.ntmps71]) (evC_sound rfl _ _ _ _ ?_)
 simp only [Tryz.ntmps71, Tryz.results71, argEnv, List.length_nil]
 simp only [zF, seval, Nat.reduceLeDiff, Nat.reduceEqDiff, reduceCtorEq, reduceIte, wN_isAgg, wN_cells, gD_isAgg, gD_cells, f_isAgg, f_cells, cRules, yRules, zM]
 refine callF_pure (c36 M d hM hd2) ?_
 rw [← hg]
 simp only [zF, seval, Nat.reduceLeDiff, Nat.reduceEqDiff, reduceCtorEq, reduceIte, wN_isAgg, wN_cells, gD_isAgg, gD_cells, f_isAgg, f_cells, cRules, yRules, zM]
 refine callF_pure (c53 M g hM hg0 (by omega)) ?_
 simp only [zF, seval, Nat.reduceLeDiff, Nat.reduceEqDiff, reduceCtorEq, reduceIte, wN_isAgg, wN_cells, gD_isAgg, gD_cells, f_isAgg, f_cells, cRules, yRules]
 refine callF_pure (c53 d g (by omega) hg0 (by omega)) ?_
 simp only [zF, seval, Nat.reduceLeDiff, Nat.reduceEqDiff, reduceCtorEq, reduceIte, wN_isAgg, wN_cells, gD_isAgg, gD_cells, f_isAgg, f_cells, cRules, yRules]
 have ha : M / g ≤ M := Nat.div_le_self _ _
 have hb : d / g ≤ d := Nat.div_le_self _ _
 simp only [normS, ← hg]
 generalize M / g = A at ha ⊢
 generalize d / g = B at hb ⊢
 refine ifC.mk (fun hc => ?_) (fun hc => ?_)
 ·have hn : ¬ (A ≤ 4611686018427387904 ∧ B ≤ 1000000000000000) := by
   simp only [Bool.or_eq_true, bne_iff_ne, decide_eq_true_eq, ne_eq] at hc
   omega
  rw [if_neg hn]
  refine ⟨_, _, ret_t2, ?_, rfl⟩
  rfl
 ·have hn : A ≤ 4611686018427387904 ∧ B ≤ 1000000000000000 := by
   have := Bool.eq_false_iff.1 hc
   simp only [Bool.or_eq_true, bne_iff_ne, decide_eq_true_eq, ne_eq] at this
   omega
  have e1 : IntKind.i64.wrap ((A % 18446744073709551616 : Nat) : Int) = ((A : Nat) : Int) := by rw [IntKind.wrap_i64]; omega
  have e2 : IntKind.i64.wrap ((B % 18446744073709551616 : Nat) : Int) = ((B : Nat) : Int) := by rw [IntKind.wrap_i64]; omega
  have e3 : IntKind.i64.wrap (0 - ((A : Nat) : Int)) = -((A : Nat) : Int) := by rw [IntKind.wrap_i64]; omega
  rw [if_pos hn]
  refine ifC.mk (fun hm => ?_) (fun hm => ?_)
  ·(try simp only [zF, seval, Nat.reduceLeDiff, Nat.reduceEqDiff, reduceCtorEq, reduceIte, wN_isAgg, wN_cells, gD_isAgg, gD_cells, f_isAgg, f_cells, cRules, yRules, e1, e2, e3])
   refine ⟨_, _, ret_t2, ?_, rfl⟩
   simp only [e1, e2, e3, if_pos hm]; rfl
  ·(try simp only [zF, seval, Nat.reduceLeDiff, Nat.reduceEqDiff, reduceCtorEq, reduceIte, wN_isAgg, wN_cells, gD_isAgg, gD_cells, f_isAgg, f_cells, cRules, yRules, e1, e2, e3])
   refine ⟨_, _, ret_t2, ?_, rfl⟩
   simp only [e1, e2, hm, Bool.false_eq_true, if_false]; rfl

def failF : FracT × Bool := (⟨0, 0⟩, false)
def ofS (n d : Int) : FracT × Bool := if d = 0 then failF else normS (!(decide (n < 0) == decide (d < 0))) n.natAbs d.natAbs
theorem c12 (n d : Int) (h1 : -9223372036854775808 ≤ n) (h2 : n ≤ 9223372036854775807) (h3 : -9223372036854775808 ≤ d) (h4 : d ≤ 9223372036854775807) : Pure Tryz.prog Gl 53 [.d (.int .i64 n), .d (.int .i64 d)] (resD (ofS n d)) := by
 refine Pure.of2t2 ?_
 refine acalls_of Tryz.func53 rfl rfl (by simp [Tryz.ntmps53]) (evC_sound rfl _ _ _ _ ?_)
 simp only [Tryz.ntmps53, Tryz.results53, argEnv, List.length_nil]
 simp only [zF, seval, Nat.reduceLeDiff, Nat.reduceEqDiff, reduceCtorEq, reduceIte, wN_isAgg, wN_cells, gD_isAgg, gD_cells, f_isAgg, f_cells, cRules, yRules]
 refine ifC.mk (fun hc => ?_) (fun hc => ?_)
 ·have hc : d = 0 := by simpa using hc
  rw [ofS, if_pos hc]
  refine ⟨_, _, ret_t2, ?_, rfl⟩
  rfl
 ·have hc : ¬ d = 0 := by simpa using hc
  rw [ofS, if_neg hc]
  repeat ((with_reducible refine And.intro ?_ ?_); (focus (first | omega | (simp only [lenR]; omega) | (refine qq ?_; rfl) | (refine dq ?_; kernel_rfl) | (intros; simp_all; done))))
  refine callF_pure (c35 n h1 h2) ?_
  simp only [zF, seval, Nat.reduceLeDiff, Nat.reduceEqDiff, reduceCtorEq, reduceIte, wN_isAgg, wN_cells, gD_isAgg, gD_cells, f_isAgg, f_cells, cRules, yRules, wN_small (show n.natAbs < 18446744073709551616 by omega)]
  refine callF_pure (c35 d h3 h4) ?_
  simp only [zF, seval, Nat.reduceLeDiff, Nat.reduceEqDiff, reduceCtorEq, reduceIte, wN_isAgg, wN_cells, gD_isAgg, gD_cells, f_isAgg, f_cells, cRules, yRules, wN_small (show d.natAbs < 18446744073709551616 by omega)]
  refine callF_pure (c34 _ n.natAbs d.natAbs (by omega) (by omega) (by omega)) ?_
  simp only [resD]
  simp only [zF, seval, Nat.reduceLeDiff, Nat.reduceEqDiff, reduceCtorEq, reduceIte, wN_isAgg, wN_cells, gD_isAgg, gD_cells, f_isAgg, f_cells, cRules, yRules]
  refine ⟨_, _, ret_t2, ?_, rfl⟩
  rfl
def negF (a : FracT) : FracT := ⟨IntKind.i64.wrap (0 - a.n), a.q⟩
def usF (a : FracT) : FracT := if okF a = true then a else ⟨0, 1⟩
def crossG (a b : FracT) : Bool × Nat := sumG (decide (a.n < 0), a.n.natAbs * b.q.natAbs) (decide (b.n < 0), b.n.natAbs * a.q.natAbs)
def addS (a b : FracT) : FracT × Bool := if okF a = true ∧ okF b = true then normS (crossG a b).1 (crossG a b).2 (a.q.natAbs * b.q.natAbs) else failF
theorem mul_lim {x y A B : Nat} (h1 : x ≤ A) (h2 : y ≤ B) : x * y ≤ A * B := Nat.mul_le_mul h1 h2
theorem FracT.Ok.na {a : FracT} (h : a.Ok) : a.n.natAbs ≤ 4611686018427387904 := by have := h.n1; have := h.n2; omega
theorem FracT.Ok.qa {a : FracT} (h : a.Ok) : a.q.natAbs ≤ 1000000000000000 := by have := h.d1; have := h.d2; omega
theorem FracT.Ok.q0 {a : FracT} (h : a.Ok) : 0 < a.q.natAbs := by have := h.d1; omega
def subS (a b : FracT) : FracT × Bool := if okF b = true then addS a (negF b) else failF
theorem FracT.Ok.neg {b : FracT} (h : b.Ok) : (negF b).Ok ∧ (negF b).n = -b.n := by
 have := h.n1
 have := h.n2
 have e : (negF b).n = -b.n := by
  show IntKind.i64.wrap (0 - b.n) = -b.n
  rw [IntKind.wrap_i64]; omega
 refine ⟨⟨h.d1, h.d2, by omega, by omega, ?_⟩, e⟩
 rw [e, Int.natAbs_neg]; exact h.g
def mulS (a b : FracT) : FracT × Bool := if okF a = true ∧ okF b = true then normS (!(decide (a.n < 0) == decide (b.n < 0))) (a.n.natAbs * b.n.natAbs) (a.q.natAbs * b.q.natAbs) else failF
def cmpS (a b : FracT) : Int := if (crossG (usF a) (negF (usF b))).2 = 0 then 0 else if (crossG (usF a) (negF (usF b))).1 = true then -1 else 1
theorem usF_ok (a : FracT) : (usF a).Ok := by
 unfold usF
 split
 ·rename_i h; exact okF_iff.1 h
 ·exact ⟨by decide, by decide, by decide, by decide, by decide⟩
end YtmedpoeeoihfmaaGreatDoor
end Go.Proofs

set_option maxRecDepth 100000
namespace Go.Proofs
open Go.AM
namespace YtmedpoeeoihfmaaGreatDoor
theorem sumG_zero (m n : Bool) (x : Nat) : sumG (m, x) (n, 0) = (m, x) := by
 unfold sumG
 simp only [Nat.add_zero, Nat.sub_zero, Nat.not_lt_zero, if_false]
 split <;> rfl
def madeP (m : Bool) (n d : Nat) : FracT × Bool := if n ≤ 4611686018427387904 ∧ d ≤ 1000000000000000 then (⟨if m = true then -(n : Int) else (n : Int), (d : Int)⟩, true) else failF
theorem normS_made (m : Bool) (M d : Nat) : normS m M d = madeP m (M / Nat.gcd M d) (d / Nat.gcd M d) := rfl
theorem madeP_sign {m m' : Bool} {n d : Nat} (h : n ≠ 0 → m = m') : madeP m n d = madeP m' n d := by
 unfold madeP
 by_cases hn : n = 0
 ·subst hn
  simp
 ·rw [h hn]
end YtmedpoeeoihfmaaGreatDoor
end Go.Proofs

set_option maxRecDepth 100000
namespace Go.Proofs
open Go.AM
namespace YtmedpoeeoihfmaaGreatDoor
variable {Gl : Globs}
structure KD (h l u v Q q r : Nat) : Prop where
 e : q * h + r = u
 le : Q ≤ q
theorem kd_first {h l u v Q : Nat} (h1 : 2147483648 ≤ h) (hl : l < 4294967296) (hu : u < h * 4294967296 + l) (hv : v < 4294967296) (hQ : Q = (u * 4294967296 + v) / (h * 4294967296 + l)) : KD h l u v Q (u / h) (u % h) ∧ u / h ≤ 4294967297 := by
 have e := Nat.div_add_mod' u h
 have em : u % h < h := Nat.mod_lt u (Nat.lt_of_lt_of_le (by decide) h1)
 refine ⟨⟨e, ?_⟩, ?_⟩
 ·have h2 : Q * (h * 4294967296 + l) ≤ u * 4294967296 + v := by rw [hQ]; exact Nat.div_mul_le_self _ _
  rw [Nat.le_div_iff_mul_le (by omega)]
  rw [Nat.mul_add, ← Nat.mul_assoc] at h2
  omega
 ·have : u < 4294967298 * h := by omega
  have h0 : 0 < h := Nat.lt_of_lt_of_le (by decide) h1
  obtain ⟨c, hc⟩ : ∃ c, c = 4294967298 := ⟨_, rfl⟩
  have e2 : u / h < c := (Nat.div_lt_iff_lt_mul h0).2 (by rw [hc]; exact this)
  omega
theorem kd_lt {h l u v Q : Nat} (h1 : 2147483648 ≤ h) (hu : u < h * 4294967296 + l) (hv : v < 4294967296) (hQ : Q = (u * 4294967296 + v) / (h * 4294967296 + l)) : Q < 4294967296 := by
 rw [hQ]
 obtain ⟨c, hc⟩ : ∃ c, c = 4294967296 := ⟨_, rfl⟩
 have : (u * 4294967296 + v) / (h * 4294967296 + l) < c := (Nat.div_lt_iff_lt_mul (by omega)).2 (by rw [hc]; omega)
 rwa [hc] at this
theorem kd_more {h l u v Q q r : Nat} (h1 : 2147483648 ≤ h) (hu : u < h * 4294967296 + l) (hv : v < 4294967296) (hQ : Q = (u * 4294967296 + v) / (h * 4294967296 + l)) (k : KD h l u v Q q r)
  (hc : 4294967296 ≤ q ∨ 4294967296 * r + v < q * l) : 1 ≤ q ∧ KD h l u v Q (q - 1) (r + h) := by
 have hlt := kd_lt h1 hu hv hQ
 have h2 : Q * (h * 4294967296 + l) ≤ u * 4294967296 + v := by rw [hQ]; exact Nat.div_mul_le_self _ _
 rw [Nat.mul_add, ← Nat.mul_assoc] at h2
 have e := k.e
 have le := k.le
 have hne : Q ≠ q := by
  intro he
  subst he
  omega
 have hq : 1 ≤ q := by omega
 refine ⟨hq, ?_, by omega⟩
 rw [Nat.sub_mul, Nat.one_mul]
 have : h ≤ q * h := Nat.le_mul_of_pos_left h hq
 omega
theorem kd_done {h l u v Q q r : Nat} (h1 : 2147483648 ≤ h) (hQ : Q = (u * 4294967296 + v) / (h * 4294967296 + l)) (k : KD h l u v Q q r) (hc : q * l ≤ 4294967296 * r + v) : q = Q := by
 have e := k.e
 have le := k.le
 have : q ≤ Q := by
  rw [hQ, Nat.le_div_iff_mul_le (by omega), Nat.mul_add, ← Nat.mul_assoc]
  omega
 omega
theorem kd_big {h l u v Q q r : Nat} (h1 : 2147483648 ≤ h) (hl : l < 4294967296) (hQ : Q = (u * 4294967296 + v) / (h * 4294967296 + l)) (k : KD h l u v Q q r) (hq : q ≤ 4294967296) (hr : 4294967296 ≤ r) : q = Q := by
 refine kd_done h1 hQ k ?_
 have : q * l ≤ 4294967296 * l := Nat.mul_le_mul_right l hq
 omega
theorem eShl (a s : Nat) (hs : s ≤ 64) : intBin .shl .u64 (a : Int) (s : Int) = .int .u64 ((a * 2 ^ s % 18446744073709551616 : Nat) : Int) := by
 show D.int .u64 (IntKind.u64.wrap ((a : Int) * 2 ^ (min s 64))) = _
 rw [show min s 64 = s by omega, wrapu]
 have : ((2 : Int) ^ s) = ((2 ^ s : Nat) : Int) := by simp
 rw [this, ← Int.natCast_mul]
 rfl
theorem eShr (a s : Nat) (hs : s ≤ 64) : intBin .shr .u64 (a : Int) (s : Int) = .int .u64 ((a / 2 ^ s : Nat) : Int) := by
 show D.int .u64 (Int.fdiv (a : Int) (2 ^ (min s 64))) = _
 rw [show min s 64 = s by omega, Int.fdiv_eq_ediv_of_nonneg _ (by exact Int.le_of_lt (Int.pow_pos (by omega)))]
 have : ((2 : Int) ^ s) = ((2 ^ s : Nat) : Int) := by simp
 rw [this, ← Int.natCast_ediv]
theorem eOr (a b s : Nat) (hb : b < 2 ^ s) (h : a * 2 ^ s + b < 18446744073709551616) : intBin .or .u64 ((a * 2 ^ s : Nat) : Int) (b : Int) = .int .u64 ((a * 2 ^ s + b : Nat) : Int) := by
 have h1 := bits_or_u64_nat (a * 2 ^ s) b (by omega) (by omega)
 have e : a * 2 ^ s ||| b = a * 2 ^ s + b := by
  have := Nat.shiftLeft_add_eq_or_of_lt hb a
  rw [Nat.shiftLeft_eq] at this
  exact this.symm
 rw [e] at h1
 rw [← h1]; rfl

structure DivF (hi lo y s P Y u v w Q1 u2 Q0 : Nat) : Prop where
 s64 : s ≤ 64
 sp : P = 2 ^ s
 Yw : y * 2 ^ s % 18446744073709551616 = Y
 Yd : y * P = Y
 Y1 : 9223372036854775808 ≤ Y
 Y2 : Y < 18446744073709551616
 uor : intBin .or .u64 ((hi * 2 ^ s % 18446744073709551616 : Nat) : Int) ((lo / 2 ^ (64 - s) : Nat) : Int) = .int .u64 (u : Int)
 u10 : lo * 2 ^ s % 18446744073709551616 = v * 4294967296 + w
 uY : u < Y
 v2 : v < 4294967296
 w2 : w < 4294967296
 q1 : Q1 = (u * 4294967296 + v) / Y
 u2e : u2 = (u * 4294967296 + v) % Y
 q0 : Q0 = (u2 * 4294967296 + w) / Y
 resq : Q1 * 4294967296 + Q0 = (hi * 18446744073709551616 + lo) / y
 resr : (u2 * 4294967296 + w) % Y / 2 ^ s = (hi * 18446744073709551616 + lo) % y
theorem mix (a M b P : Nat) : (a * M + b) * P = a * P * M + b * P := by rw [Nat.add_mul, Nat.mul_right_comm]
theorem mix2 (a b M Y c : Nat) {x : Nat} (h : a * Y + c = x) : (a * M + b) * Y = (x - c) * M + b * Y := by subst h; rw [Nat.add_mul, Nat.mul_right_comm, Nat.add_sub_cancel]
theorem mix3 {hi M lo P q w : Nat} (h : q * M + w = lo * P) : (hi * M + lo) * P = (hi * P + q) * M + w := by rw [mix, Nat.add_mul, ← h, Nat.add_assoc]
theorem divF {hi lo y : Nat} (h0 : hi < y) (hy : y < 18446744073709551616) (hl : lo < 18446744073709551616) : ∃ P Y u v w Q1 u2 Q0, DivF hi lo y (64 - Lib.bitLen y) P Y u v w Q1 u2 Q0 := by
 obtain ⟨b1, b2, b3⟩ := Lib.bitLenAux_bounds 64 y hy (by omega)
 have bl : Lib.bitLen y ≤ 64 := bl_le hy
 have eb : Lib.bitLen y = Lib.bitLenAux 64 y := rfl
 rw [← eb] at b1 b2 b3
 obtain ⟨s, hs⟩ : ∃ s, s = 64 - Lib.bitLen y := ⟨_, rfl⟩
 obtain ⟨R, hR⟩ : ∃ R, R = 2 ^ (64 - s) := ⟨_, rfl⟩
 obtain ⟨P, hP⟩ : ∃ P, P = 2 ^ s := ⟨_, rfl⟩
 have hRP : R * P = 18446744073709551616 := by
  rw [hR, hP, ← Nat.pow_add, show 64 - s + s = 64 by omega]
 have hP0 : 0 < P := by rw [hP]; exact Nat.two_pow_pos _
 have hR0 : 0 < R := by rw [hR]; exact Nat.two_pow_pos _
 have hyR : y < R := by rw [hR, show 64 - s = Lib.bitLen y by omega]; exact b3
 have hYu : y * P < 18446744073709551616 := by rw [← hRP]; exact (Nat.mul_lt_mul_right hP0).2 hyR
 have hYl : 9223372036854775808 ≤ y * P := by
  have : 2 ^ (Lib.bitLen y - 1) * P ≤ y * P := Nat.mul_le_mul_right P b2
  rw [hP, ← Nat.pow_add, show Lib.bitLen y - 1 + s = 63 by omega] at this
  exact (show (9223372036854775808 : Nat) = 2 ^ 63 from rfl) ▸ (hP ▸ this)
 have hh : hi * P + P ≤ y * P := by
  have : (hi + 1) * P ≤ y * P := Nat.mul_le_mul_right P (by omega)
  rwa [Nat.add_mul, Nat.one_mul] at this
 have hlo : lo / R < P := by
  rw [Nat.div_lt_iff_lt_mul hR0, Nat.mul_comm]; rw [hRP]; exact hl
 have hlP : lo * P / 18446744073709551616 = lo / R := by
  rw [← hRP]; exact Nat.mul_div_mul_right _ _ hP0
 obtain ⟨Y, hY⟩ : ∃ Y, Y = y * P := ⟨_, rfl⟩
 obtain ⟨u, hu⟩ : ∃ u, u = hi * P + lo / R := ⟨_, rfl⟩
 obtain ⟨w10, hw⟩ : ∃ w10, w10 = lo * P % 18446744073709551616 := ⟨_, rfl⟩
 have hwlt : w10 < 18446744073709551616 := by rw [hw]; exact Nat.mod_lt _ (by decide)
 have huY : u < Y := by omega
 obtain ⟨u2, hu2⟩ : ∃ u2, u2 = (u * 4294967296 + w10 / 4294967296) % Y := ⟨_, rfl⟩
 have hY0 : 0 < Y := by omega
 have key : (hi * 18446744073709551616 + lo) * P = u * 18446744073709551616 + w10 := by
  have := Nat.div_add_mod' (lo * P) 18446744073709551616
  rw [hlP] at this
  rw [← hw] at this
  have e := mix3 (hi := hi) this
  rw [hu]; exact e
 have key2 : (hi * 18446744073709551616 + lo) * P = ((u * 4294967296 + w10 / 4294967296) / Y * 4294967296 + (u2 * 4294967296 + w10 % 4294967296) / Y) * Y + (u2 * 4294967296 + w10 % 4294967296) % Y := by
  have e1 := Nat.div_add_mod' (u * 4294967296 + w10 / 4294967296) Y
  have e2 := Nat.div_add_mod' (u2 * 4294967296 + w10 % 4294967296) Y
  rw [← hu2] at e1
  have e3 := mix2 ((u * 4294967296 + w10 / 4294967296) / Y) ((u2 * 4294967296 + w10 % 4294967296) / Y) 4294967296 Y u2 e1
  rw [e3, key]
  have : u2 ≤ u * 4294967296 + w10 / 4294967296 := by rw [hu2]; exact Nat.mod_le _ _
  omega
 have hrlt : (u2 * 4294967296 + w10 % 4294967296) % Y < Y := Nat.mod_lt _ hY0
 have hq : (u * 4294967296 + w10 / 4294967296) / Y * 4294967296 + (u2 * 4294967296 + w10 % 4294967296) / Y = (hi * 18446744073709551616 + lo) / y := by
  have e := Nat.mul_div_mul_right (hi * 18446744073709551616 + lo) y hP0
  rw [key2, ← hY, Nat.add_comm, Nat.add_mul_div_right _ _ hY0, Nat.div_eq_of_lt hrlt, Nat.zero_add] at e
  exact e
 have hr : (u2 * 4294967296 + w10 % 4294967296) % Y / P = (hi * 18446744073709551616 + lo) % y := by
  have e := Nat.mul_mod_mul_right P (hi * 18446744073709551616 + lo) y
  rw [key2, ← hY, Nat.add_comm, Nat.add_mul_mod_self_right, Nat.mod_eq_of_lt hrlt] at e
  rw [e, Nat.mul_div_cancel _ hP0]
 refine ⟨P, Y, u, w10 / 4294967296, w10 % 4294967296, _, u2, _, ⟨by omega, by rw [← hs]; exact hP, ?_, hY.symm, by omega, by omega, ?_, ?_, huY, by omega, by omega, rfl, hu2, rfl, hq, ?_⟩⟩
 ·rw [← hs, ← hP, ← hY]; exact Nat.mod_eq_of_lt (by omega)
 ·rw [← hs, ← hP, ← hR]
  have e : hi * P % 18446744073709551616 = hi * P := Nat.mod_eq_of_lt (by omega)
  rw [e, hu]
  have := eOr hi (lo / R) s (by rw [← hP]; exact hlo) (by rw [← hP]; omega)
  rw [← hP] at this
  exact this
 ·rw [← hs, ← hP, ← hw]; omega
 ·rw [← hs, ← hP]; exact hr

set_option maxHeartbeats 16000000 in
theorem c59 (hi lo y : Nat) (h0 : hi < y) (hy : y < 18446744073709551616) (hl : lo < 18446744073709551616) :
  Pure Tryz.prog Gl 96 [.d (.int .u64 hi), .d (.int .u64 lo), .d (.int .u64 y)] (.tup [.d (.int .u64 (((hi * 18446744073709551616 + lo) / y : Nat) : Int)), .d (.int .u64 (((hi * 18446744073709551616 + lo) % y : Nat) : Int))]) := by
 refine Pure.of3t2 ?_
 refine acalls_of Tryz.func96 rfl rfl (by simp [Tryz.ntmps96]) (evC_sound rfl _ _ _ _ ?_)
 simp only [Tryz.ntmps96, Tryz.results96, argEnv, List.length_nil]
 simp only [zF, seval, Nat.reduceLeDiff, Nat.reduceEqDiff, reduceCtorEq, reduceIte, wG, a_eq_f (show ¬ ((y:Int) = 0) by omega), (show ¬ (y:Int) ≤ (hi:Int) by omega)]
 refine ifC.mk (fun hc => ?_) (fun hc => ?_)
 ·have hc : hi = 0 := by have := beq_iff_eq.1 hc; omega
  subst hc
  repeat ((with_reducible refine And.intro ?_ ?_); (focus (first | omega | (simp only [lenR]; omega) | (refine qq ?_; rfl) | (refine dq ?_; kernel_rfl) | (intros; simp_all; done))))
  refine ⟨_, _, ret_t2, ?_, rfl⟩
  have : lo / y < 18446744073709551616 := Nat.lt_of_le_of_lt (Nat.div_le_self _ _) hl
  rw [quoN, remN, Nat.zero_mul, Nat.zero_add, Mul64R.wrapN _ this]
 ·obtain ⟨P, Y, u, v, w, Q1, u2, Q0, d⟩ := divF h0 hy hl
  obtain ⟨s, hs⟩ : ∃ s, s = 64 - Lib.bitLen y := ⟨_, rfl⟩
  rw [← hs] at d
  have s64 := d.s64
  have Y1 := d.Y1
  have Y2 := d.Y2
  have uY := d.uY
  have v2 := d.v2
  have w2 := d.w2
  obtain ⟨h, eh⟩ : ∃ h, h = Y / 4294967296 := ⟨_, rfl⟩
  obtain ⟨l, el⟩ : ∃ l, l = Y % 4294967296 := ⟨_, rfl⟩
  have hl1 : 2147483648 ≤ h := by omega
  have hl2 : h < 4294967296 := by omega
  have ll : l < 4294967296 := by omega
  have hY : Y = h * 4294967296 + l := by omega
  have ew : IntKind.u64.wrap (s : Int) = (s : Int) := by rw [wrapu]; omega
  have ew2 : IntKind.u64.wrap ((64 : Int) - (s : Int)) = ((64 - s : Nat) : Int) := by rw [wrapu]; omega
  have u10 := d.u10
  obtain ⟨w10, hw10⟩ : ∃ w10, w10 = v * 4294967296 + w := ⟨_, rfl⟩
  rw [← hw10] at u10
  have e10 : w10 / 4294967296 = v := by omega
  have e11 : w10 % 4294967296 = w := by omega
  have eq0 : IntKind.u64.wrap ((u : Int).tdiv (h : Int)) = ((u / h : Nat) : Int) := by
   rw [quoN, Mul64R.wrapN]
   exact Nat.lt_of_le_of_lt (Nat.div_le_self _ _) (by omega)
  have er0 : IntKind.u64.wrap ((u : Int) - IntKind.u64.wrap (((u / h : Nat) : Int) * (h : Int))) = ((u % h : Nat) : Int) := by
   have := Nat.div_add_mod' u h
   rw [← Int.natCast_mul, Mul64R.wrapN _ (by omega), wrapu]; omega
  have k0 := kd_first hl1 ll (by omega : u < h * 4294967296 + l) v2 (by rw [d.q1, hY] : Q1 = _)
  refine callF_pure (c65 y hy) ?_
  rw [← hs]
  simp only [zF, seval, Nat.reduceLeDiff, Nat.reduceEqDiff, reduceCtorEq, reduceIte, wG, okAndR, okOrR, true_and, ew, ew2, eShl y s s64, d.Yw, shr32R, and32R Y Y2, eShl hi s s64, eShl lo s s64, u10, and32R w10 (by omega), eShr lo (64 - s) (by omega), d.uor, e10, e11, ← eh, ← el, eq0, er0]
  repeat ((with_reducible refine And.intro ?_ ?_); (focus (first | omega | (simp only [lenR]; omega) | (refine qq ?_; rfl) | (refine dq ?_; kernel_rfl) | (intros; simp_all; done))))
  have hrlt : u % h < h := Nat.mod_lt _ (by omega)
  have hu2Y : u2 < Y := by rw [d.u2e]; exact Nat.mod_lt _ (by omega)
  have hQ1 : Q1 < 4294967296 := kd_lt hl1 (by omega : u < h * 4294967296 + l) v2 (by rw [d.q1, hY])
  have hQ0 : Q0 < 4294967296 := kd_lt hl1 (by omega : u2 < h * 4294967296 + l) w2 (by rw [d.q0, hY])
  have hr2lt : u2 % h < h := Nat.mod_lt _ (by omega)
  have k1 := kd_first hl1 ll (by omega : u2 < h * 4294967296 + l) w2 (by rw [d.q0, hY] : Q0 = _)
  have e21 : IntKind.u64.wrap (IntKind.u64.wrap (IntKind.u64.wrap ((u : Int) * 4294967296) + (v : Int)) - IntKind.u64.wrap ((Q1 : Int) * (Y : Int))) = (u2 : Int) := by
   have e := Nat.div_add_mod' (u * 4294967296 + v) Y
   rw [← d.q1, ← d.u2e] at e
   rw [← Int.natCast_mul Q1 Y]
   simp only [wrapu]; omega
  have eq2 : IntKind.u64.wrap ((u2 : Int).tdiv (h : Int)) = ((u2 / h : Nat) : Int) := by
   rw [quoN, Mul64R.wrapN]
   exact Nat.lt_of_le_of_lt (Nat.div_le_self _ _) (by omega)
  have er2 : IntKind.u64.wrap ((u2 : Int) - IntKind.u64.wrap (((u2 / h : Nat) : Int) * (h : Int))) = ((u2 % h : Nat) : Int) := by
   have := Nat.div_add_mod' u2 h
   rw [← Int.natCast_mul, Mul64R.wrapN _ (by omega), wrapu]; omega
  obtain ⟨R, hR⟩ : ∃ R, R = (u2 * 4294967296 + w) % Y := ⟨_, rfl⟩
  have hRY : R < Y := by rw [hR]; exact Nat.mod_lt _ (by omega)
  have eF1 : IntKind.u64.wrap (IntKind.u64.wrap ((Q1 : Int) * 4294967296) + (Q0 : Int)) = ((Q1 * 4294967296 + Q0 : Nat) : Int) := by
   simp only [wrapu]; omega
  have eF2 : IntKind.u64.wrap (IntKind.u64.wrap (IntKind.u64.wrap ((u2 : Int) * 4294967296) + (w : Int)) - IntKind.u64.wrap ((Q0 : Int) * (Y : Int))) = (R : Int) := by
   have e := Nat.div_add_mod' (u2 * 4294967296 + w) Y
   rw [← d.q0, ← hR] at e
   rw [← Int.natCast_mul Q0 Y]
   simp only [wrapu]; omega
  refine loop_of (τ := Nat × Nat) (fun p => [(2, .d (.int .u64 Y)), (8, .d (.int .u64 s)), (9, .d (.int .u64 h)), (10, .d (.int .u64 l)), (11, .d (.int .u64 u)), (13, .d (.int .u64 v)), (14, .d (.int .u64 w)), (15, .d (.int .u64 p.1)), (16, .d (.int .u64 p.2))]) (fun _ => []) (fun p => KD h l u v Q1 p.1 p.2 ∧ p.1 ≤ 4294967297 ∧ p.2 < 4294967296) (fun p => p.1) (u / h, u % h) ⟨k0.1, k0.2, by omega⟩ ?_ ?_
  ·refine weak_to [] [] rfl List.nodup_nil ?_ rfl
   simp only [zF, seval, Nat.reduceLeDiff, Nat.reduceEqDiff, reduceCtorEq, reduceIte, wG]
  ·rintro ⟨q, r⟩ ⟨k, hq, hr⟩
   simp only at k hq hr
   by_cases hb : 4294967296 ≤ q
   ·have e1 : decide ((q : Int) ≥ 4294967296) = true := decide_eq_true (by omega)
    obtain ⟨hq1, k2⟩ := kd_more hl1 (by omega : u < h * 4294967296 + l) v2 (by rw [d.q1, hY] : Q1 = _) k (.inl hb)
    have ed : IntKind.u64.wrap ((q : Int) - 1) = ((q - 1 : Nat) : Int) := by rw [wrapu]; omega
    have er : IntKind.u64.wrap ((r : Int) + (h : Int)) = (r : Int) + (h : Int) := by rw [wrapu]; omega
    by_cases hbig : 4294967296 ≤ r + h
    ·have eQ1 := kd_big hl1 ll (by rw [d.q1, hY] : Q1 = _) k2 (by omega) hbig
     have g2 : decide ((4294967296 : Int) ≤ (r : Int) + (h : Int)) = true := decide_eq_true (by omega)
     rw [eQ1] at ed
     simp only [zF, seval, Nat.reduceLeDiff, Nat.reduceEqDiff, reduceCtorEq, reduceIte, wG, e1, ed, er, g2, e21, eq2, er2]
     repeat ((with_reducible refine And.intro ?_ ?_); (focus (first | omega | (simp only [lenR]; omega) | (refine qq ?_; rfl) | (refine dq ?_; kernel_rfl) | (intros; simp_all; done))))
     refine loop_of (τ := Nat × Nat) (fun p => [(2, .d (.int .u64 Y)), (8, .d (.int .u64 s)), (9, .d (.int .u64 h)), (10, .d (.int .u64 l)), (14, .d (.int .u64 w)), (15, .d (.int .u64 Q1)), (17, .d (.int .u64 u2)), (18, .d (.int .u64 p.1)), (16, .d (.int .u64 p.2))]) (fun _ => []) (fun p => KD h l u2 w Q0 p.1 p.2 ∧ p.1 ≤ 4294967297 ∧ p.2 < 4294967296) (fun p => p.1) (u2 / h, u2 % h) ⟨k1.1, k1.2, by omega⟩ ?_ ?_
     ·refine weak_to [] [] rfl List.nodup_nil ?_ rfl
      simp only [zF, seval, Nat.reduceLeDiff, Nat.reduceEqDiff, reduceCtorEq, reduceIte, wG]
     ·rintro ⟨q', r'⟩ ⟨k', hq', hr'⟩
      simp only at k' hq' hr'
      by_cases hb' : 4294967296 ≤ q'
      ·have e1' : decide ((q' : Int) ≥ 4294967296) = true := decide_eq_true (by omega)
       have hmore' : 4294967296 ≤ q' ∨ 4294967296 * r' + w < q' * l := .inl hb'
       obtain ⟨hq1', k2'⟩ := kd_more hl1 (by omega : u2 < h * 4294967296 + l) w2 (by rw [d.q0, hY] : Q0 = _) k' hmore'
       have ed' : IntKind.u64.wrap ((q' : Int) - 1) = ((q' - 1 : Nat) : Int) := by rw [wrapu]; omega
       have er' : IntKind.u64.wrap ((r' : Int) + (h : Int)) = (r' : Int) + (h : Int) := by rw [wrapu]; omega
       by_cases hbig' : 4294967296 ≤ r' + h
       ·have eQ2 := kd_big hl1 ll (by rw [d.q0, hY] : Q0 = _) k2' (by omega) hbig'
        have g2' : decide ((4294967296 : Int) ≤ (r' : Int) + (h : Int)) = true := decide_eq_true (by omega)
        rw [eQ2] at ed'
        simp only [zF, seval, Nat.reduceLeDiff, Nat.reduceEqDiff, reduceCtorEq, reduceIte, wG, e1', ed', er', g2', eF1, eF2, eShr R s s64]
        refine ⟨_, _, ret_t2, ?_, rfl⟩
        rw [← d.resq, ← d.resr, ← hR, Int.natCast_add]
       ·have g2' : decide ((4294967296 : Int) ≤ (r' : Int) + (h : Int)) = false := decide_eq_false (by omega)
        simp only [zF, seval, Nat.reduceLeDiff, Nat.reduceEqDiff, reduceCtorEq, reduceIte, wG, e1', ed', er', g2']
        refine ⟨(q' - 1, r' + h), ⟨k2', by simp only; omega, by simp only; omega⟩, by simp only; omega, ?_⟩
        refine weak_to [] [] rfl List.nodup_nil ?_ rfl
        simp only [zF, seval, Nat.reduceLeDiff, Nat.reduceEqDiff, reduceCtorEq, reduceIte, wG]
      ·have e1' : decide ((q' : Int) ≥ 4294967296) = false := decide_eq_false (by omega)
       have hql' : q' * l < 18446744073709551616 := by
        have : q' * l ≤ 4294967295 * l := Nat.mul_le_mul_right l (by omega)
        omega
       by_cases hg' : 4294967296 * r' + w < q' * l
       ·have hmore' : 4294967296 ≤ q' ∨ 4294967296 * r' + w < q' * l := .inr hg'
        obtain ⟨hq1', k2'⟩ := kd_more hl1 (by omega : u2 < h * 4294967296 + l) w2 (by rw [d.q0, hY] : Q0 = _) k' hmore'
        have e2' : decide (IntKind.u64.wrap (IntKind.u64.wrap (4294967296 * (r' : Int)) + (w : Int)) < IntKind.u64.wrap ((q' : Int) * (l : Int))) = true := by
         rw [← Int.natCast_mul, Mul64R.wrapN _ hql', wrapu, wrapu]; exact decide_eq_true (by omega)
        have ed' : IntKind.u64.wrap ((q' : Int) - 1) = ((q' - 1 : Nat) : Int) := by rw [wrapu]; omega
        have er' : IntKind.u64.wrap ((r' : Int) + (h : Int)) = (r' : Int) + (h : Int) := by rw [wrapu]; omega
        by_cases hbig' : 4294967296 ≤ r' + h
        ·have eQ2 := kd_big hl1 ll (by rw [d.q0, hY] : Q0 = _) k2' (by omega) hbig'
         have g2' : decide ((4294967296 : Int) ≤ (r' : Int) + (h : Int)) = true := decide_eq_true (by omega)
         rw [eQ2] at ed'
         simp only [zF, seval, Nat.reduceLeDiff, Nat.reduceEqDiff, reduceCtorEq, reduceIte, wG, e1', e2', ed', er', g2', eF1, eF2, eShr R s s64]
         refine ⟨_, _, ret_t2, ?_, rfl⟩
         rw [← d.resq, ← d.resr, ← hR, Int.natCast_add]
        ·have g2' : decide ((4294967296 : Int) ≤ (r' : Int) + (h : Int)) = false := decide_eq_false (by omega)
         simp only [zF, seval, Nat.reduceLeDiff, Nat.reduceEqDiff, reduceCtorEq, reduceIte, wG, e1', e2', ed', er', g2']
         refine ⟨(q' - 1, r' + h), ⟨k2', by simp only; omega, by simp only; omega⟩, by simp only; omega, ?_⟩
         refine weak_to [] [] rfl List.nodup_nil ?_ rfl
         simp only [zF, seval, Nat.reduceLeDiff, Nat.reduceEqDiff, reduceCtorEq, reduceIte, wG]
       ·have e2' : decide (IntKind.u64.wrap (IntKind.u64.wrap (4294967296 * (r' : Int)) + (w : Int)) < IntKind.u64.wrap ((q' : Int) * (l : Int))) = false := by
         rw [← Int.natCast_mul, Mul64R.wrapN _ hql', wrapu, wrapu]; exact decide_eq_false (by omega)
        obtain rfl := kd_done hl1 (by rw [d.q0, hY] : Q0 = _) k' (by omega)
        simp only [zF, seval, Nat.reduceLeDiff, Nat.reduceEqDiff, reduceCtorEq, reduceIte, wG, e1', e2', eF1, eF2, eShr R s s64]
        refine ⟨_, _, ret_t2, ?_, rfl⟩
        rw [← d.resq, ← d.resr, ← hR, Int.natCast_add]
    ·have g2 : decide ((4294967296 : Int) ≤ (r : Int) + (h : Int)) = false := decide_eq_false (by omega)
     simp only [zF, seval, Nat.reduceLeDiff, Nat.reduceEqDiff, reduceCtorEq, reduceIte, wG, e1, ed, er, g2]
     refine ⟨(q - 1, r + h), ⟨k2, by simp only; omega, by simp only; omega⟩, by simp only; omega, ?_⟩
     refine weak_to [] [] rfl List.nodup_nil ?_ rfl
     simp only [zF, seval, Nat.reduceLeDiff, Nat.reduceEqDiff, reduceCtorEq, reduceIte, wG]
   ·have e1 : decide ((q : Int) ≥ 4294967296) = false := decide_eq_false (by omega)
    have hql : q * l < 18446744073709551616 := by
     have : q * l ≤ 4294967295 * l := Nat.mul_le_mul_right l (by omega)
     omega
    by_cases hg : 4294967296 * r + v < q * l
    ·have e2 : decide (IntKind.u64.wrap (IntKind.u64.wrap (4294967296 * (r : Int)) + (v : Int)) < IntKind.u64.wrap ((q : Int) * (l : Int))) = true := by
      rw [← Int.natCast_mul, Mul64R.wrapN _ hql, wrapu, wrapu]; exact decide_eq_true (by omega)
     obtain ⟨hq1, k2⟩ := kd_more hl1 (by omega : u < h * 4294967296 + l) v2 (by rw [d.q1, hY] : Q1 = _) k (.inr hg)
     have ed : IntKind.u64.wrap ((q : Int) - 1) = ((q - 1 : Nat) : Int) := by rw [wrapu]; omega
     have er : IntKind.u64.wrap ((r : Int) + (h : Int)) = (r : Int) + (h : Int) := by rw [wrapu]; omega
     by_cases hbig : 4294967296 ≤ r + h
     ·have eQ1 := kd_big hl1 ll (by rw [d.q1, hY] : Q1 = _) k2 (by omega) hbig
      have g2 : decide ((4294967296 : Int) ≤ (r : Int) + (h : Int)) = true := decide_eq_true (by omega)
      rw [eQ1] at ed
      simp only [zF, seval, Nat.reduceLeDiff, Nat.reduceEqDiff, reduceCtorEq, reduceIte, wG, e1, e2, ed, er, g2, e21, eq2, er2]
      repeat ((with_reducible refine And.intro ?_ ?_); (focus (first | omega | (simp only [lenR]; omega) | (refine qq ?_; rfl) | (refine dq ?_; kernel_rfl) | (intros; simp_all; done))))
      refine loop_of (τ := Nat × Nat) (fun p => [(2, .d (.int .u64 Y)), (8, .d (.int .u64 s)), (9, .d (.int .u64 h)), (10, .d (.int .u64 l)), (14, .d (.int .u64 w)), (15, .d (.int .u64 Q1)), (17, .d (.int .u64 u2)), (18, .d (.int .u64 p.1)), (16, .d (.int .u64 p.2))]) (fun _ => []) (fun p => KD h l u2 w Q0 p.1 p.2 ∧ p.1 ≤ 4294967297 ∧ p.2 < 4294967296) (fun p => p.1) (u2 / h, u2 % h) ⟨k1.1, k1.2, by omega⟩ ?_ ?_
      ·refine weak_to [] [] rfl List.nodup_nil ?_ rfl
       simp only [zF, seval, Nat.reduceLeDiff, Nat.reduceEqDiff, reduceCtorEq, reduceIte, wG]
      ·rintro ⟨q', r'⟩ ⟨k', hq', hr'⟩
       simp only at k' hq' hr'
       by_cases hb' : 4294967296 ≤ q'
       ·have e1' : decide ((q' : Int) ≥ 4294967296) = true := decide_eq_true (by omega)
        have hmore' : 4294967296 ≤ q' ∨ 4294967296 * r' + w < q' * l := .inl hb'
        obtain ⟨hq1', k2'⟩ := kd_more hl1 (by omega : u2 < h * 4294967296 + l) w2 (by rw [d.q0, hY] : Q0 = _) k' hmore'
        have ed' : IntKind.u64.wrap ((q' : Int) - 1) = ((q' - 1 : Nat) : Int) := by rw [wrapu]; omega
        have er' : IntKind.u64.wrap ((r' : Int) + (h : Int)) = (r' : Int) + (h : Int) := by rw [wrapu]; omega
        by_cases hbig' : 4294967296 ≤ r' + h
        ·have eQ2 := kd_big hl1 ll (by rw [d.q0, hY] : Q0 = _) k2' (by omega) hbig'
         have g2' : decide ((4294967296 : Int) ≤ (r' : Int) + (h : Int)) = true := decide_eq_true (by omega)
         rw [eQ2] at ed'
         simp only [zF, seval, Nat.reduceLeDiff, Nat.reduceEqDiff, reduceCtorEq, reduceIte, wG, e1', ed', er', g2', eF1, eF2, eShr R s s64]
         refine ⟨_, _, ret_t2, ?_, rfl⟩
         rw [← d.resq, ← d.resr, ← hR, Int.natCast_add]
        ·have g2' : decide ((4294967296 : Int) ≤ (r' : Int) + (h : Int)) = false := decide_eq_false (by omega)
         simp only [zF, seval, Nat.reduceLeDiff, Nat.reduceEqDiff, reduceCtorEq, reduceIte, wG, e1', ed', er', g2']
         refine ⟨(q' - 1, r' + h), ⟨k2', by simp only; omega, by simp only; omega⟩, by simp only; omega, ?_⟩
         refine weak_to [] [] rfl List.nodup_nil ?_ rfl
         simp only [zF, seval, Nat.reduceLeDiff, Nat.reduceEqDiff, reduceCtorEq, reduceIte, wG]
       ·have e1' : decide ((q' : Int) ≥ 4294967296) = false := decide_eq_false (by omega)
        have hql' : q' * l < 18446744073709551616 := by
         have : q' * l ≤ 4294967295 * l := Nat.mul_le_mul_right l (by omega)
         omega
        by_cases hg' : 4294967296 * r' + w < q' * l
        ·have hmore' : 4294967296 ≤ q' ∨ 4294967296 * r' + w < q' * l := .inr hg'
         obtain ⟨hq1', k2'⟩ := kd_more hl1 (by omega : u2 < h * 4294967296 + l) w2 (by rw [d.q0, hY] : Q0 = _) k' hmore'
         have e2' : decide (IntKind.u64.wrap (IntKind.u64.wrap (4294967296 * (r' : Int)) + (w : Int)) < IntKind.u64.wrap ((q' : Int) * (l : Int))) = true := by
          rw [← Int.natCast_mul, Mul64R.wrapN _ hql', wrapu, wrapu]; exact decide_eq_true (by omega)
         have ed' : IntKind.u64.wrap ((q' : Int) - 1) = ((q' - 1 : Nat) : Int) := by rw [wrapu]; omega
         have er' : IntKind.u64.wrap ((r' : Int) + (h : Int)) = (r' : Int) + (h : Int) := by rw [wrapu]; omega
         by_cases hbig' : 4294967296 ≤ r' + h
         ·have eQ2 := kd_big hl1 ll (by rw [d.q0, hY] : Q0 = _) k2' (by omega) hbig'
          have g2' : decide ((4294967296 : Int) ≤ (r' : Int) + (h : Int)) = true := decide_eq_true (by omega)
          rw [eQ2] at ed'
          simp only [zF, seval, Nat.reduceLeDiff, Nat.reduceEqDiff, reduceCtorEq, reduceIte, wG, e1', e2', ed', er', g2', eF1, eF2, eShr R s s64]
          refine ⟨_, _, ret_t2, ?_, rfl⟩
          rw [← d.resq, ← d.resr, ← hR, Int.natCast_add]
         ·have g2' : decide ((4294967296 : Int) ≤ (r' : Int) + (h : Int)) = false := decide_eq_false (by omega)
          simp only [zF, seval, Nat.reduceLeDiff, Nat.reduceEqDiff, reduceCtorEq, reduceIte, wG, e1', e2', ed', er', g2']
          refine ⟨(q' - 1, r' + h), ⟨k2', by simp only; omega, by simp only; omega⟩, by simp only; omega, ?_⟩
          refine weak_to [] [] rfl List.nodup_nil ?_ rfl
          simp only [zF, seval, Nat.reduceLeDiff, Nat.reduceEqDiff, reduceCtorEq, reduceIte, wG]
        ·have e2' : decide (IntKind.u64.wrap (IntKind.u64.wrap (4294967296 * (r' : Int)) + (w : Int)) < IntKind.u64.wrap ((q' : Int) * (l : Int))) = false := by
          rw [← Int.natCast_mul, Mul64R.wrapN _ hql', wrapu, wrapu]; exact decide_eq_false (by omega)
         obtain rfl := kd_done hl1 (by rw [d.q0, hY] : Q0 = _) k' (by omega)
         simp only [zF, seval, Nat.reduceLeDiff, Nat.reduceEqDiff, reduceCtorEq, reduceIte, wG, e1', e2', eF1, eF2, eShr R s s64]
         refine ⟨_, _, ret_t2, ?_, rfl⟩
         rw [← d.resq, ← d.resr, ← hR, Int.natCast_add]
     ·have g2 : decide ((4294967296 : Int) ≤ (r : Int) + (h : Int)) = false := decide_eq_false (by omega)
      simp only [zF, seval, Nat.reduceLeDiff, Nat.reduceEqDiff, reduceCtorEq, reduceIte, wG, e1, e2, ed, er, g2]
      refine ⟨(q - 1, r + h), ⟨k2, by simp only; omega, by simp only; omega⟩, by simp only; omega, ?_⟩
      refine weak_to [] [] rfl List.nodup_nil ?_ rfl
      simp only [zF, seval, Nat.reduceLeDiff, Nat.reduceEqDiff, reduceCtorEq, reduceIte, wG]
    ·have e2 : decide (IntKind.u64.wrap (IntKind.u64.wrap (4294967296 * (r : Int)) + (v : Int)) < IntKind.u64.wrap ((q : Int) * (l : Int))) = false := by
      rw [← Int.natCast_mul, Mul64R.wrapN _ hql, wrapu, wrapu]; exact decide_eq_false (by omega)
     have eQ1 := kd_done hl1 (by rw [d.q1, hY] : Q1 = _) k (by omega)
     rw [eQ1] at e1 e2
     rw [eQ1]
     simp only [zF, seval, Nat.reduceLeDiff, Nat.reduceEqDiff, reduceCtorEq, reduceIte, wG, e1, e2, e21, eq2, er2]
     repeat ((with_reducible refine And.intro ?_ ?_); (focus (first | omega | (simp only [lenR]; omega) | (refine qq ?_; rfl) | (refine dq ?_; kernel_rfl) | (intros; simp_all; done))))
     refine loop_of (τ := Nat × Nat) (fun p => [(2, .d (.int .u64 Y)), (8, .d (.int .u64 s)), (9, .d (.int .u64 h)), (10, .d (.int .u64 l)), (14, .d (.int .u64 w)), (15, .d (.int .u64 Q1)), (17, .d (.int .u64 u2)), (18, .d (.int .u64 p.1)), (16, .d (.int .u64 p.2))]) (fun _ => []) (fun p => KD h l u2 w Q0 p.1 p.2 ∧ p.1 ≤ 4294967297 ∧ p.2 < 4294967296) (fun p => p.1) (u2 / h, u2 % h) ⟨k1.1, k1.2, by omega⟩ ?_ ?_
     ·refine weak_to [] [] rfl List.nodup_nil ?_ rfl
      simp only [zF, seval, Nat.reduceLeDiff, Nat.reduceEqDiff, reduceCtorEq, reduceIte, wG]
     ·rintro ⟨q', r'⟩ ⟨k', hq', hr'⟩
      simp only at k' hq' hr'
      by_cases hb' : 4294967296 ≤ q'
      ·have e1' : decide ((q' : Int) ≥ 4294967296) = true := decide_eq_true (by omega)
       have hmore' : 4294967296 ≤ q' ∨ 4294967296 * r' + w < q' * l := .inl hb'
       obtain ⟨hq1', k2'⟩ := kd_more hl1 (by omega : u2 < h * 4294967296 + l) w2 (by rw [d.q0, hY] : Q0 = _) k' hmore'
       have ed' : IntKind.u64.wrap ((q' : Int) - 1) = ((q' - 1 : Nat) : Int) := by rw [wrapu]; omega
       have er' : IntKind.u64.wrap ((r' : Int) + (h : Int)) = (r' : Int) + (h : Int) := by rw [wrapu]; omega
       by_cases hbig' : 4294967296 ≤ r' + h
       ·have eQ2 := kd_big hl1 ll (by rw [d.q0, hY] : Q0 = _) k2' (by omega) hbig'
        have g2' : decide ((4294967296 : Int) ≤ (r' : Int) + (h : Int)) = true := decide_eq_true (by omega)
        rw [eQ2] at ed'
        simp only [zF, seval, Nat.reduceLeDiff, Nat.reduceEqDiff, reduceCtorEq, reduceIte, wG, e1', ed', er', g2', eF1, eF2, eShr R s s64]
        refine ⟨_, _, ret_t2, ?_, rfl⟩
        rw [← d.resq, ← d.resr, ← hR, Int.natCast_add]
       ·have g2' : decide ((4294967296 : Int) ≤ (r' : Int) + (h : Int)) = false := decide_eq_false (by omega)
        simp only [zF, seval, Nat.reduceLeDiff, Nat.reduceEqDiff, reduceCtorEq, reduceIte, wG, e1', ed', er', g2']
        refine ⟨(q' - 1, r' + h), ⟨k2', by simp only; omega, by simp only; omega⟩, by simp only; omega, ?_⟩
        refine weak_to [] [] rfl List.nodup_nil ?_ rfl
        simp only [zF, seval, Nat.reduceLeDiff, Nat.reduceEqDiff, reduceCtorEq, reduceIte, wG]
      ·have e1' : decide ((q' : Int) ≥ 4294967296) = false := decide_eq_false (by omega)
       have hql' : q' * l < 18446744073709551616 := by
        have : q' * l ≤ 4294967295 * l := Nat.mul_le_mul_right l (by omega)
        omega
       by_cases hg' : 4294967296 * r' + w < q' * l
       ·have hmore' : 4294967296 ≤ q' ∨ 4294967296 * r' + w < q' * l := .inr hg'
        obtain ⟨hq1', k2'⟩ := kd_more hl1 (by omega : u2 < h * 4294967296 + l) w2 (by rw [d.q0, hY] : Q0 = _) k' hmore'
        have e2' : decide (IntKind.u64.wrap (IntKind.u64.wrap (4294967296 * (r' : Int)) + (w : Int)) < IntKind.u64.wrap ((q' : Int) * (l : Int))) = true := by
         rw [← Int.natCast_mul, Mul64R.wrapN _ hql', wrapu, wrapu]; exact decide_eq_true (by omega)
        have ed' : IntKind.u64.wrap ((q' : Int) - 1) = ((q' - 1 : Nat) : Int) := by rw [wrapu]; omega
        have er' : IntKind.u64.wrap ((r' : Int) + (h : Int)) = (r' : Int) + (h : Int) := by rw [wrapu]; omega
        by_cases hbig' : 4294967296 ≤ r' + h
        ·have eQ2 := kd_big hl1 ll (by rw [d.q0, hY] : Q0 = _) k2' (by omega) hbig'
         have g2' : decide ((4294967296 : Int) ≤ (r' : Int) + (h : Int)) = true := decide_eq_true (by omega)
         rw [eQ2] at ed'
         simp only [zF, seval, Nat.reduceLeDiff, Nat.reduceEqDiff, reduceCtorEq, reduceIte, wG, e1', e2', ed', er', g2', eF1, eF2, eShr R s s64]
         refine ⟨_, _, ret_t2, ?_, rfl⟩
         rw [← d.resq, ← d.resr, ← hR, Int.natCast_add]
        ·have g2' : decide ((4294967296 : Int) ≤ (r' : Int) + (h : Int)) = false := decide_eq_false (by omega)
         simp only [zF, seval, Nat.reduceLeDiff, Nat.reduceEqDiff, reduceCtorEq, reduceIte, wG, e1', e2', ed', er', g2']
         refine ⟨(q' - 1, r' + h), ⟨k2', by simp only; omega, by simp only; omega⟩, by simp only; omega, ?_⟩
         refine weak_to [] [] rfl List.nodup_nil ?_ rfl
         simp only [zF, seval, Nat.reduceLeDiff, Nat.reduceEqDiff, reduceCtorEq, reduceIte, wG]
       ·have e2' : decide (IntKind.u64.wrap (IntKind.u64.wrap (4294967296 * (r' : Int)) + (w : Int)) < IntKind.u64.wrap ((q' : Int) * (l : Int))) = false := by
         rw [← Int.natCast_mul, Mul64R.wrapN _ hql', wrapu, wrapu]; exact decide_eq_false (by omega)
        obtain rfl := kd_done hl1 (by rw [d.q0, hY] : Q0 = _) k' (by omega)
        simp only [zF, seval, Nat.reduceLeDiff, Nat.reduceEqDiff, reduceCtorEq, reduceIte, wG, e1', e2', eF1, eF2, eShr R s s64]
        refine ⟨_, _, ret_t2, ?_, rfl⟩
        rw [← d.resq, ← d.resr, ← hR, Int.natCast_add]

theorem c33 (m : Bool) (n d : Nat) (hn : n < 18446744073709551616) (hd : d < 18446744073709551616) : Pure Tryz.prog Gl 67 [.d (.bool m), .d (.int .u64 n), .d (.int .u64 d)] (resD (madeP m n d)) := by
 refine Pure.of3t2 ?_
 refine acalls_of Tryz.func67 rfl rfl (by simp [Tryz.ntmps67]) (evC_sound rfl _ _ _ _ ?_)
 simp only [Tryz.ntmps67, Tryz.results67, argEnv, List.length_nil]
 simp only [zF, seval, Nat.reduceLeDiff, Nat.reduceEqDiff, reduceCtorEq, reduceIte, wC]
 repeat ((with_reducible refine And.intro ?_ ?_); (focus (first | omega | (simp only [lenR]; omega) | (refine qq ?_; rfl) | (refine dq ?_; kernel_rfl) | (intros; simp_all; done))))
 unfold madeP
 refine ifC.mk (fun hc => ?_) (fun hc => ?_)
 ·have h : ¬ (n ≤ 4611686018427387904 ∧ d ≤ 1000000000000000) := by
   simp only [Bool.or_eq_true, decide_eq_true_eq] at hc
   omega
  rw [if_neg h]
  refine ⟨_, _, ret_t2, ?_, rfl⟩
  rfl
 ·have h : n ≤ 4611686018427387904 ∧ d ≤ 1000000000000000 := by
   have := Bool.eq_false_iff.1 hc
   simp only [ne_eq, Bool.or_eq_true, decide_eq_true_eq] at this
   omega
  rw [if_pos h]
  have e1 : IntKind.i64.wrap (n : Int) = (n : Int) := by rw [IntKind.wrap_i64]; omega
  have e2 : IntKind.i64.wrap (d : Int) = (d : Int) := by rw [IntKind.wrap_i64]; omega
  have e3 : IntKind.i64.wrap (0 - (n : Int)) = -(n : Int) := by rw [IntKind.wrap_i64]; omega
  (try simp only [zF, seval, Nat.reduceLeDiff, Nat.reduceEqDiff, reduceCtorEq, reduceIte, wC, e1, e2])
  refine ifC.mk (fun hm => ?_) (fun hm => ?_)
  ·(try simp only [zF, seval, Nat.reduceLeDiff, Nat.reduceEqDiff, reduceCtorEq, reduceIte, wC, e1, e2, e3])
   refine ⟨_, _, ret_t2, ?_, rfl⟩
   rw [if_pos hm]; rfl
  ·(try simp only [zF, seval, Nat.reduceLeDiff, Nat.reduceEqDiff, reduceCtorEq, reduceIte, wC, e1, e2, e3])
   refine ⟨_, _, ret_t2, ?_, rfl⟩
   rw [hm]; rfl
theorem i_u (a : Int) (h : 0 ≤ a) (h2 : a ≤ 9223372036854775807) : IntKind.u64.wrap a = (a.natAbs : Int) := by rw [wrapu]; omega
theorem c13 (a : FracT) (h : a.In) : Pure Tryz.prog Gl 59 [.d a.toD] (.d (.bool (okF a))) := by
 refine Pure.of1 ?_
 have h1 := h.n1
 have h2 := h.n2
 have h3 := h.d1
 have h4 := h.d2
 refine acalls_of Tryz.func59 rfl rfl (by simp [Tryz.ntmps59]) (evC_sound rfl _ _ _ _ ?_)
 simp only [Tryz.ntmps59, Tryz.results59, argEnv, List.length_nil]
 simp only [zF, seval, Nat.reduceLeDiff, Nat.reduceEqDiff, reduceCtorEq, reduceIte, wC]
 repeat ((with_reducible refine And.intro ?_ ?_); (focus (first | omega | (simp only [lenR]; omega) | (refine qq ?_; rfl) | (refine dq ?_; kernel_rfl) | (intros; simp_all; done))))
 refine callG_pure (fun _ => c32 a.n h1 h2) ?_
 simp only [zF, seval, Nat.reduceLeDiff, Nat.reduceEqDiff, reduceCtorEq, reduceIte, wC]
 repeat ((with_reducible refine And.intro ?_ ?_); (focus (first | omega | (simp only [lenR]; omega) | (refine qq ?_; rfl) | (refine dq ?_; kernel_rfl) | (intros; simp_all; done))))
 refine callG_pure (fun _ => c32 a.n h1 h2) ?_
 simp only [zF, seval, Nat.reduceLeDiff, Nat.reduceEqDiff, reduceCtorEq, reduceIte, wC]
 refine callG_pure (v := .d (.int .u64 (Nat.gcd a.n.natAbs a.q.natAbs))) (fun hg => by
  simp only [Bool.and_eq_true, decide_eq_true_eq] at hg
  rw [i_u a.q (by omega) (by omega)]; exact c31 _ _) ?_
 simp only [zF, seval, Nat.reduceLeDiff, Nat.reduceEqDiff, reduceCtorEq, reduceIte, wC]
 repeat ((with_reducible refine And.intro ?_ ?_); (focus (first | omega | (simp only [lenR]; omega) | (refine qq ?_; rfl) | (refine dq ?_; kernel_rfl) | (intros; simp_all; done))))
 refine ⟨_, _, ret_d, ?_, rfl⟩
 congr 2
 unfold okF
 have e1 : decide ((a.n.natAbs : Int) ≤ 4611686018427387904) = (decide (-4611686018427387904 ≤ a.n) && decide (a.n ≤ 4611686018427387904)) := by
  rw [Bool.eq_iff_iff]; simp only [Bool.and_eq_true, decide_eq_true_eq]; omega
 rw [e1]
 congr 1
 rw [Bool.eq_iff_iff]; simp only [beq_iff_eq]; omega
theorem c47 (a : FracT) (h : a.In) : Pure Tryz.prog Gl 74 [.d a.toD] (.d (usF a).toD) := by
 refine Pure.of1 ?_
 refine acalls_of Tryz.func74 rfl rfl (by simp [Tryz.ntmps74]) (evC_sound rfl _ _ _ _ ?_)
 simp only [Tryz.ntmps74, Tryz.results74, argEnv, List.length_nil]
 simp only [zF, seval, Nat.reduceLeDiff, Nat.reduceEqDiff, reduceCtorEq, reduceIte, wC]
 refine callF_pure (c13 a h) ?_
 simp only [zF, seval, Nat.reduceLeDiff, Nat.reduceEqDiff, reduceCtorEq, reduceIte, wC]
 refine ifC.mk (fun hc => ?_) (fun hc => ?_)
 ·rw [usF, if_pos hc]; exact ⟨_, _, ret_d, rfl, rfl⟩
 ·rw [usF, if_neg (by rw [hc]; exact Bool.false_ne_true)]; exact ⟨_, _, ret_d, rfl, rfl⟩
theorem c42 (M d : Nat) (hM : M < 340282366920938463463374607431768211456) (h0 : 0 < d) (hd : d < 18446744073709551616) : Pure Tryz.prog Gl 65 [.d (wN M), .d (.int .u64 d)] (.d (.int .u64 ((M % d : Nat) : Int))) := by
 refine Pure.of2 ?_
 have hm : M / 18446744073709551616 % d < d := Nat.mod_lt _ h0
 refine acalls_of Tryz.func65 rfl rfl (by simp [Tryz.ntmps65]) (evC_sound rfl _ _ _ _ ?_)
 simp only [Tryz.ntmps65, Tryz.results65, argEnv, List.length_nil]
 simp only [zF, seval, Nat.reduceLeDiff, Nat.reduceEqDiff, reduceCtorEq, reduceIte, wC, remU', remN]
 repeat ((with_reducible refine And.intro ?_ ?_); (focus (first | omega | (simp only [lenR]; omega) | (refine qq ?_; rfl) | (refine dq ?_; kernel_rfl) | (intros; simp_all; done))))
 refine callF_pure (c59 (M / 18446744073709551616 % d) (M % 18446744073709551616) d hm hd (by omega)) ?_
 simp only [zF, seval, Nat.reduceLeDiff, Nat.reduceEqDiff, reduceCtorEq, reduceIte, wC]
 have e : (M / 18446744073709551616 % d * 18446744073709551616 + M % 18446744073709551616) % d = M % d := by
  rw [Nat.add_mod, Nat.mul_mod, Nat.mod_mod, ← Nat.mul_mod, ← Nat.add_mod, Nat.div_add_mod']
 rw [e]
 exact ⟨_, _, ret_d, rfl, rfl⟩
theorem c43a (M d : Nat) (hM : M < 340282366920938463463374607431768211456) (h0 : 0 < d) (hd : d < 18446744073709551616) (h : d ≤ M / 18446744073709551616) : Pure Tryz.prog Gl 66 [.d (wN M), .d (.int .u64 d)] (.tup [.d (.int .u64 0), .d (.bool false)]) := by
 refine Pure.of2t2 ?_
 refine acalls_of Tryz.func66 rfl rfl (by simp [Tryz.ntmps66]) (evC_sound rfl _ _ _ _ ?_)
 simp only [Tryz.ntmps66, Tryz.results66, argEnv, List.length_nil]
 simp only [zF, seval, Nat.reduceLeDiff, Nat.reduceEqDiff, reduceCtorEq, reduceIte, wC]
 refine ifC.mk (fun hc => ?_) (fun hc => ?_)
 ·exact ⟨_, _, ret_t2, rfl, rfl⟩
 ·have hc := of_decide_eq_false hc
  omega
theorem c43b (M d : Nat) (hM : M < 340282366920938463463374607431768211456) (h0 : 0 < d) (hd : d < 18446744073709551616) (h : M / 18446744073709551616 < d) : Pure Tryz.prog Gl 66 [.d (wN M), .d (.int .u64 d)] (.tup [.d (.int .u64 ((M / d : Nat) : Int)), .d (.bool true)]) := by
 refine Pure.of2t2 ?_
 refine acalls_of Tryz.func66 rfl rfl (by simp [Tryz.ntmps66]) (evC_sound rfl _ _ _ _ ?_)
 simp only [Tryz.ntmps66, Tryz.results66, argEnv, List.length_nil]
 simp only [zF, seval, Nat.reduceLeDiff, Nat.reduceEqDiff, reduceCtorEq, reduceIte, wC]
 refine ifC.mk (fun hc => ?_) (fun hc => ?_)
 ·have hc := of_decide_eq_true hc
  omega
 ·repeat ((with_reducible refine And.intro ?_ ?_); (focus (first | omega | (simp only [lenR]; omega) | (refine qq ?_; rfl) | (refine dq ?_; kernel_rfl) | (intros; simp_all; done))))
  refine callF_pure (c59 (M / 18446744073709551616) (M % 18446744073709551616) d h hd (by omega)) ?_
  rw [Nat.div_add_mod']
  simp only [zF, seval, Nat.reduceLeDiff, Nat.reduceEqDiff, reduceCtorEq, reduceIte, wC]
  exact ⟨_, _, ret_t2, rfl, rfl⟩
theorem total_eq {m n : Bool} (h : ¬ m = n) (x y : Nat) : sumG (m, x) (n, y) = (!(m == decide (x < y)), x - y + (y - x)) := by
 unfold sumG
 simp only
 rw [if_neg h]
 by_cases hl : x < y
 ·rw [if_pos hl, decide_eq_true hl]
  refine Prod.ext ?_ (by simp only; omega)
  cases m <;> cases n <;> simp_all
 ·rw [if_neg hl, decide_eq_false hl]
  refine Prod.ext ?_ (by simp only; omega)
  cases m <;> rfl
theorem c48 (m n : Bool) (x y : Nat) (hx : x < 170141183460469231731687303715884105728) (hy : y < 170141183460469231731687303715884105728) : Pure Tryz.prog Gl 75 [.d (.bool m), .d (wN x), .d (.bool n), .d (wN y)] (.tup [.d (.bool (sumG (m, x) (n, y)).1), .d (wN (sumG (m, x) (n, y)).2)]) := by
 refine Pure.ofT (args := [.bool m, wN x, .bool n, wN y]) (back_t2 _ _) ?_
 simp only [List.map_cons, List.map_nil]
 refine acalls_of Tryz.func75 rfl rfl (by simp [Tryz.ntmps75]) (evC_sound rfl _ _ _ _ ?_)
 simp only [Tryz.ntmps75, Tryz.results75, argEnv, List.length_nil]
 simp only [zF, seval, Nat.reduceLeDiff, Nat.reduceEqDiff, reduceCtorEq, reduceIte, wC]
 refine ifC.mk (fun hc => ?_) (fun hc => ?_)
 ·have h : m = n := by simpa using hc
  refine callF_pure (c40 x y (by omega)) ?_
  simp only [zF, seval, Nat.reduceLeDiff, Nat.reduceEqDiff, reduceCtorEq, reduceIte, wC]
  rw [show sumG (m, x) (n, y) = (m, x + y) by simp [sumG, h]]
  exact ⟨_, _, ret_t2, rfl, rfl⟩
 ·have h : ¬ m = n := by simpa using hc
  refine callF_pure (c41 x y (by omega) (by omega)) ?_
  simp only [zF, seval, Nat.reduceLeDiff, Nat.reduceEqDiff, reduceCtorEq, reduceIte, wC]
  repeat ((with_reducible refine And.intro ?_ ?_); (focus (first | omega | (simp only [lenR]; omega) | (refine qq ?_; rfl) | (refine dq ?_; kernel_rfl) | (intros; simp_all; done))))
  rw [total_eq h]
  exact ⟨_, _, ret_t2, rfl, rfl⟩
theorem c11 (n d : Int) (h1 : -9223372036854775808 ≤ n) (h2 : n ≤ 9223372036854775807) (h3 : -9223372036854775808 ≤ d) (h4 : d ≤ 9223372036854775807) : Pure Tryz.prog Gl 49 [.d (.int .i64 n), .d (.int .i64 d)] (resD (ofS n d)) := by
 refine Pure.of2t2 ?_
 refine acalls_of Tryz.func49 rfl rfl (by simp [Tryz.ntmps49]) (evC_sound rfl _ _ _ _ ?_)
 simp only [Tryz.ntmps49, Tryz.results49, argEnv, List.length_nil]
 simp only [zF, seval, Nat.reduceLeDiff, Nat.reduceEqDiff, reduceCtorEq, reduceIte, wC]
 refine ifC.mk (fun hc => ?_) (fun hc => ?_)
 ·have hc : d = 0 := by simpa using hc
  rw [ofS, if_pos hc]
  refine ⟨_, _, ret_t2, ?_, rfl⟩
  rfl
 ·have hc : ¬ d = 0 := by simpa using hc
  have hg : 0 < Nat.gcd n.natAbs d.natAbs := Nat.gcd_pos_of_pos_right _ (by omega)
  refine callF_pure (c32 n h1 h2) ?_
  simp only [zF, seval, Nat.reduceLeDiff, Nat.reduceEqDiff, reduceCtorEq, reduceIte, wC]
  refine callF_pure (c32 d h3 h4) ?_
  simp only [zF, seval, Nat.reduceLeDiff, Nat.reduceEqDiff, reduceCtorEq, reduceIte, wC]
  refine callF_pure (c31 n.natAbs d.natAbs) ?_
  simp only [zF, seval, Nat.reduceLeDiff, Nat.reduceEqDiff, reduceCtorEq, reduceIte, wC]
  repeat ((with_reducible refine And.intro ?_ ?_); (focus (first | omega | (simp only [lenR]; omega) | (refine qq ?_; rfl) | (refine dq ?_; kernel_rfl) | (intros; simp_all; done))))
  refine callF_pure (c32 n h1 h2) ?_
  have hq : n.natAbs / Nat.gcd n.natAbs d.natAbs < 18446744073709551616 := Nat.lt_of_le_of_lt (Nat.div_le_self _ _) (by omega)
  have hr : d.natAbs / Nat.gcd n.natAbs d.natAbs < 18446744073709551616 := Nat.lt_of_le_of_lt (Nat.div_le_self _ _) (by omega)
  simp only [zF, seval, Nat.reduceLeDiff, Nat.reduceEqDiff, reduceCtorEq, reduceIte, wC, quoU, quoN, Mul64R.wrapN _ hq]
  generalize hgg : Nat.gcd n.natAbs d.natAbs = g at hg hq hr ⊢
  repeat ((with_reducible refine And.intro ?_ ?_); (focus (first | omega | (simp only [lenR]; omega) | (refine qq ?_; rfl) | (refine dq ?_; kernel_rfl) | (intros; simp_all; done))))
  refine callF_pure (c32 d h3 h4) ?_
  simp only [zF, seval, Nat.reduceLeDiff, Nat.reduceEqDiff, reduceCtorEq, reduceIte, wC, quoU, quoN, Mul64R.wrapN _ hr]
  repeat ((with_reducible refine And.intro ?_ ?_); (focus (first | omega | (simp only [lenR]; omega) | (refine qq ?_; rfl) | (refine dq ?_; kernel_rfl) | (intros; simp_all; done))))
  refine callF_pure (c33 _ (n.natAbs / g) (d.natAbs / g) hq hr) ?_
  simp only [resD]
  simp only [zF, seval, Nat.reduceLeDiff, Nat.reduceEqDiff, reduceCtorEq, reduceIte, wC]
  refine ⟨_, _, ret_t2, ?_, rfl⟩
  rw [ofS, if_neg hc, normS_made, hgg]
  have e := madeP_sign (m := (n != 0 && !(decide (n < 0) == decide (d < 0)))) (m' := !(decide (n < 0) == decide (d < 0))) (n := n.natAbs / g) (d := d.natAbs / g) (fun h => by
   have : n ≠ 0 := by intro h0; apply h; rw [h0]; simp
   simp [this])
  rw [e]
def crossH (a b : FracT) (s : Bool) : Bool × Nat := sumG (decide (a.n < 0), a.n.natAbs * b.q.natAbs) (s, b.n.natAbs * a.q.natAbs)
def sumP (a b : FracT) (s : Bool) : FracT × Bool := if okF a = true ∧ okF b = true then normS (crossH a b s).1 (crossH a b s).2 (a.q.natAbs * b.q.natAbs) else failF
theorem crossH_neg {a b : FracT} (hb : b.Ok) : crossH a b (!decide (b.n < 0)) = crossG a (negF b) := by
 obtain ⟨_, e⟩ := hb.neg
 unfold crossH crossG
 rw [e, Int.natAbs_neg]
 show sumG _ _ = sumG (_, a.n.natAbs * b.q.natAbs) _
 by_cases h0 : b.n = 0
 ·rw [h0]
  simp only [Int.natAbs_zero, Nat.zero_mul, sumG_zero]
 ·have : (!decide (b.n < 0)) = decide (-b.n < 0) := by
   by_cases h : b.n < 0
   ·rw [decide_eq_true h, decide_eq_false (by omega)]; rfl
   ·rw [decide_eq_false h, decide_eq_true (by omega)]; rfl
  rw [this]
theorem c22 (a b : FracT) (ha : a.In) (hb : b.In) : Pure Tryz.prog Gl 40 [.d a.toD, .d b.toD] (.d (.int .i64 (cmpS a b))) := by
 refine Pure.of2 ?_
 refine acalls_of Tryz.func40 rfl rfl (by simp [Tryz.ntmps40]) (evC_sound rfl _ _ _ _ ?_)
 simp only [Tryz.ntmps40, Tryz.results40, argEnv, List.length_nil]
 simp only [zF, seval, Nat.reduceLeDiff, Nat.reduceEqDiff, reduceCtorEq, reduceIte, wC]
 repeat ((with_reducible refine And.intro ?_ ?_); (focus (first | omega | (simp only [lenR]; omega) | (refine qq ?_; rfl) | (refine dq ?_; kernel_rfl) | (intros; simp_all; done))))
 refine callF_pure (c47 a ha) ?_
 simp only [zF, seval, Nat.reduceLeDiff, Nat.reduceEqDiff, reduceCtorEq, reduceIte, wC]
 refine callF_pure (c47 b hb) ?_
 simp only [zF, seval, Nat.reduceLeDiff, Nat.reduceEqDiff, reduceCtorEq, reduceIte, wC]
 unfold cmpS
 have oa := usF_ok a
 have ob := usF_ok b
 rw [← crossH_neg ob]
 generalize usF a = x at oa ⊢
 generalize usF b = y at ob ⊢
 unfold crossH
 have m1 := mul_lim oa.na ob.qa
 have m2 := mul_lim ob.na oa.qa
 have na := oa.na
 have nb := ob.na
 have qa := oa.qa
 have qb := ob.qa
 have ix := oa.in_
 have iy := ob.in_
 have ua := i_u x.q (by have := oa.d1; omega) ix.d2
 have ub := i_u y.q (by have := ob.d1; omega) iy.d2
 have hs := sumG_le (decide (x.n < 0), x.n.natAbs * y.q.natAbs) (!decide (y.n < 0), y.n.natAbs * x.q.natAbs)
 have es : decide (0 ≤ y.n) = !decide (y.n < 0) := by
  by_cases h : y.n < 0
  ·rw [decide_eq_true h, decide_eq_false (by omega)]; rfl
  ·rw [decide_eq_false h, decide_eq_true (by omega)]; rfl
 (try simp only [zF, seval, Nat.reduceLeDiff, Nat.reduceEqDiff, reduceCtorEq, reduceIte, wC, ua, ub])
 repeat ((with_reducible refine And.intro ?_ ?_); (focus (first | omega | (simp only [lenR]; omega) | (refine qq ?_; rfl) | (refine dq ?_; kernel_rfl) | (intros; simp_all; done))))
 refine callF_pure (c32 x.n ix.n1 ix.n2) ?_
 simp only [zF, seval, Nat.reduceLeDiff, Nat.reduceEqDiff, reduceCtorEq, reduceIte, wC, ua, ub]
 refine callF_pure (c39 x.n.natAbs y.q.natAbs (by omega) (by omega)) ?_
 simp only [zF, seval, Nat.reduceLeDiff, Nat.reduceEqDiff, reduceCtorEq, reduceIte, wC]
 refine callF_pure (c32 y.n iy.n1 iy.n2) ?_
 simp only [zF, seval, Nat.reduceLeDiff, Nat.reduceEqDiff, reduceCtorEq, reduceIte, wC, ua, ub]
 refine callF_pure (c39 y.n.natAbs x.q.natAbs (by omega) (by omega)) ?_
 simp only [zF, seval, Nat.reduceLeDiff, Nat.reduceEqDiff, reduceCtorEq, reduceIte, wC, es]
 refine callF_pure (c48 (decide (x.n < 0)) (!decide (y.n < 0)) (x.n.natAbs * y.q.natAbs) (y.n.natAbs * x.q.natAbs) (by omega) (by omega)) ?_
 generalize sumG (decide (x.n < 0), x.n.natAbs * y.q.natAbs) (!decide (y.n < 0), y.n.natAbs * x.q.natAbs) = pp
 have z0 : D.agg [.int .u64 0, .int .u64 0] = wN 0 := rfl
 simp only [zF, seval, Nat.reduceLeDiff, Nat.reduceEqDiff, reduceCtorEq, reduceIte, wC, z0]
 refine ifC.mk (fun hc => ?_) (fun hc => ?_)
 ·have hc : pp.2 = 0 := by simpa using hc
  rw [if_pos hc]; exact ⟨_, _, ret_d, rfl, rfl⟩
 ·have hc : ¬ pp.2 = 0 := by simpa using hc
  rw [if_neg hc]
  refine ifC.mk (fun hm => ?_) (fun hm => ?_)
  ·rw [if_pos hm]; exact ⟨_, _, ret_d, rfl, rfl⟩
  ·rw [if_neg (by rw [hm]; exact Bool.false_ne_true)]; exact ⟨_, _, ret_d, rfl, rfl⟩

def comF : List FracT → Nat → Option Nat
 | [], m => some m
 | a :: l, m => if okF a = true then (if m / Nat.gcd m a.q.natAbs * a.q.natAbs ≤ 1000000000000000 then comF l (m / Nat.gcd m a.q.natAbs * a.q.natAbs) else none) else none
theorem lcm_dvd {m q : Nat} : m ∣ m / Nat.gcd m q * q ∧ q ∣ m / Nat.gcd m q * q := by
 refine ⟨?_, Nat.dvd_mul_left _ _⟩
 rw [Nat.div_mul_right_comm (Nat.gcd_dvd_left m q), Nat.mul_div_assoc _ (Nat.gcd_dvd_right m q)]
 exact Nat.dvd_mul_right _ _
theorem comF_spec : ∀ {l : List FracT} {m r : Nat}, 1 ≤ m → m ≤ 1000000000000000 → comF l m = some r → 1 ≤ r ∧ r ≤ 1000000000000000 ∧ m ∣ r ∧ ∀ a ∈ l, a.Ok ∧ a.q.natAbs ∣ r
 | [], m, r, h1, h2, h => by
  cases h
  exact ⟨h1, h2, Nat.dvd_refl _, fun a ha => by cases ha⟩
 | a :: l, m, r, h1, h2, h => by
  unfold comF at h
  split at h
  ·rename_i hk
   split at h
   ·rename_i hle
    have ok := okF_iff.1 hk
    have h0 : 1 ≤ m / Nat.gcd m a.q.natAbs * a.q.natAbs := Nat.mul_pos (Nat.div_pos (Nat.gcd_le_left _ h1) (Nat.gcd_pos_of_pos_left _ h1)) ok.q0
    obtain ⟨k1, k2, k3, k4⟩ := comF_spec h0 hle h
    refine ⟨k1, k2, Nat.dvd_trans lcm_dvd.1 k3, fun b hb => ?_⟩
    rcases List.mem_cons.1 hb with rfl | hb
    ·exact ⟨ok, Nat.dvd_trans lcm_dvd.2 k3⟩
    ·exact k4 b hb
   ·cases h
  ·cases h
theorem drop_get {l : List FracT} {k : Nat} (h : k < l.length) : l.drop k = l.getD k default :: l.drop (k + 1) := by
 rw [List.drop_eq_getElem_cons h, List.getD_eq_getElem?_getD, List.getElem?_eq_getElem h]; rfl

def nS (m : Nat) (p : Bool × Nat) (a : FracT) : Bool × Nat := sumG p (decide (a.n < 0), a.n.natAbs * (m / a.q.natAbs))
def totFR (l : List FracT) (m : Nat) : Bool × Nat := l.foldl (nS m) (false, 0)
def sumL (l : List FracT) : FracT × Bool :=
 if 20000 < l.length then failF else
 match comF l 1 with
 | none => failF
 | some m => normS (totFR l m).1 (totFR l m).2 m

def pmF (m : Nat) (p : Nat × Nat) (a : FracT) : Nat × Nat := if a.n < 0 then (p.1, p.2 + a.n.natAbs * (m / a.q.natAbs)) else (p.1 + a.n.natAbs * (m / a.q.natAbs), p.2)
def pmL (l : List FracT) (m : Nat) : Nat × Nat := l.foldl (pmF m) (0, 0)
theorem pm_val {m : Nat} : ∀ {l : List FracT} {p : Bool × Nat} {s : Nat × Nat}, valG p = (s.1 : Int) - s.2 → valG (l.foldl (nS m) p) = ((l.foldl (pmF m) s).1 : Int) - (l.foldl (pmF m) s).2
 | [], p, s, h => h
 | a :: l, p, s, h => by
  simp only [List.foldl_cons]
  refine pm_val ?_
  unfold nS
  rw [valG_sum, h]
  unfold pmF valG
  generalize a.n.natAbs * (m / a.q.natAbs) = t
  by_cases hn : a.n < 0
  ·rw [if_pos hn]; simp only [decide_eq_true hn, if_true]; omega
  ·rw [if_neg hn]; simp only [decide_eq_false hn, Bool.false_eq_true, if_false]; omega
theorem tot_val (l : List FracT) (m : Nat) : valG (totFR l m) = ((pmL l m).1 : Int) - (pmL l m).2 := pm_val rfl
theorem pm_le {m : Nat} (hm : m ≤ 1000000000000000) : ∀ {l : List FracT} {s : Nat × Nat}, (∀ a ∈ l, a.Ok) → (l.foldl (pmF m) s).1 + (l.foldl (pmF m) s).2 ≤ s.1 + s.2 + l.length * 4611686018427387904000000000000000
 | [], s, _ => by simp
 | a :: l, s, h => by
  have h2 := pm_le hm (l := l) (s := pmF m s a) (fun b hb => h b (List.mem_cons_of_mem _ hb))
  have := mul_lim (h a (List.mem_cons_self ..)).na (Nat.le_trans (Nat.div_le_self m a.q.natAbs) hm)
  have h1 : (pmF m s a).1 + (pmF m s a).2 ≤ s.1 + s.2 + 4611686018427387904000000000000000 := by
   unfold pmF
   split <;> (simp only; omega)
  simp only [List.foldl_cons, List.length_cons]
  omega
theorem pmL_le {l : List FracT} {m : Nat} (hm : m ≤ 1000000000000000) (h : ∀ a ∈ l, a.Ok) (hl : l.length ≤ 20000) : (pmL l m).1 + (pmL l m).2 ≤ 92233720368547758080000000000000000000 := by
 have := pm_le hm (s := (0, 0)) h
 unfold pmL
 simp only at this
 omega
theorem pm_take {l : List FracT} {m k : Nat} (h : k < l.length) : pmL (l.take (k + 1)) m = pmF m (pmL (l.take k) m) (l.getD k default) := by
 unfold pmL
 rw [take_step _ _ h, List.foldl_append]; rfl
def finF (P M m : Nat) : FracT × Bool := if P - M + (M - P) = 0 then (⟨0, 1⟩, true) else madeP (decide (P < M)) ((P - M + (M - P)) / Nat.gcd (P - M + (M - P)) m) (m / Nat.gcd (P - M + (M - P)) m)
theorem norm_zero (b : Bool) {m : Nat} (hm : 0 < m) : normS b 0 m = (⟨0, 1⟩, true) := by
 rw [normS_made, Nat.gcd_zero_left, Nat.zero_div, Nat.div_self hm]
 unfold madeP
 rw [if_pos (by decide)]
 cases b <;> rfl
theorem fin_norm {p : Bool × Nat} {P M m : Nat} (h : valG p = (P : Int) - M) (hm : 0 < m) : normS p.1 p.2 m = finF P M m := by
 obtain ⟨b, N⟩ := p
 unfold valG at h
 simp only at h
 unfold finF
 by_cases hz : P - M + (M - P) = 0
 ·rw [if_pos hz]
  have : N = 0 := by split at h <;> omega
  subst this
  exact norm_zero b hm
 ·rw [if_neg hz]
  have : N = P - M + (M - P) := by split at h <;> omega
  subst this
  rw [normS_made]
  congr 1
  cases b with
  | true =>
   simp only [if_true] at h
   rw [decide_eq_true]; omega
  | false =>
   simp only [Bool.false_eq_true, if_false] at h
   rw [decide_eq_false]; omega
set_option maxHeartbeats 1000000 in
theorem c18 (l : List FracT) (hin : ∀ a ∈ l, a.In) : Pure Tryz.prog Gl 34 [.d (.sl (l.map FracT.toD))] (resD (sumL l)) := by
 refine Pure.of1t2 ?_
 refine acalls_of Tryz.func34 rfl rfl (by simp [Tryz.ntmps34]) (evC_sound rfl _ _ _ _ ?_)
 simp only [Tryz.ntmps34, Tryz.results34, argEnv, List.length_nil]
 simp only [zF, seval, Nat.reduceLeDiff, Nat.reduceEqDiff, reduceCtorEq, reduceIte, wC]
 unfold sumL
 refine ifC.mk (fun hc => ?_) (fun hc => ?_)
 ·have hc : 20000 < l.length := by have := of_decide_eq_true hc; omega
  rw [if_pos hc]
  refine ⟨_, _, ret_t2, ?_, rfl⟩
  rfl
 ·have hc : ¬ 20000 < l.length := by have := of_decide_eq_false hc; omega
  rw [if_neg hc]
  refine loop_of (τ := Nat × Nat) (fun p => [(0, .d (.sl (l.map FracT.toD))), (2, .ptr 0 0), (4, .d (.int .u64 p.2)), (22, .d (.sl (l.map FracT.toD))), (23, .d (.int .i64 (l.length : Nat))), (24, .d (.int .i64 p.1))]) (fun _ => [.box 2 (.d (.agg [.int .i64 0, .int .i64 0]))]) (fun p => p.1 ≤ l.length ∧ 1 ≤ p.2 ∧ p.2 ≤ 1000000000000000 ∧ comF l 1 = comF (l.drop p.1) p.2) (fun p => l.length - p.1) (0, 1) ⟨by simp, by simp, by simp, rfl⟩ ?_ ?_
  ·refine weak_to [] [0] rfl (by simp) ?_ rfl
   simp only [zF, seval, Nat.reduceLeDiff, Nat.reduceEqDiff, reduceCtorEq, reduceIte, wC, Int.cast_ofNat_Int]
  ·rintro ⟨k, m⟩ ⟨h1, h2, h3, h4⟩
   simp only at h1 h2 h3 h4
   by_cases hk : k < l.length
   ·obtain ⟨x, hx⟩ : ∃ x, x = l.getD k default := ⟨_, rfl⟩
    have hxi : x.In := by rw [hx]; exact hin _ (mem_getD hk)
    rw [drop_get hk, ← hx] at h4
    simp only [zF, seval, Nat.reduceLeDiff, Nat.reduceEqDiff, reduceCtorEq, reduceIte, wC, (show (k:Int) < l.length by omega), hk, a_getD _ _ _ (show k < l.length by omega), ← hx]
    repeat ((with_reducible refine And.intro ?_ ?_); (focus (first | omega | (simp only [lenR]; omega) | (refine qq ?_; rfl) | (refine dq ?_; kernel_rfl) | (intros; simp_all; done))))
    refine callF_pure (c13 x hxi) ?_
    simp only [zF, seval, Nat.reduceLeDiff, Nat.reduceEqDiff, reduceCtorEq, reduceIte, wC]
    refine ifC.mk (fun hc => ?_) (fun hc => ?_)
    ·have hn : ¬ okF x = true := by simpa using hc
     rw [h4, comF, if_neg hn]
     refine ⟨_, _, ret_t2, ?_, rfl⟩
     rfl
    ·have hn : okF x = true := by simpa using hc
     have ok := okF_iff.1 hn
     have qa := ok.qa
     have q0 := ok.q0
     have uq := i_u x.q (by have := ok.d1; omega) hxi.d2
     obtain ⟨q, hq⟩ : ∃ q, q = x.q.natAbs := ⟨_, rfl⟩
     rw [comF, if_pos hn] at h4
     rw [← hq] at h4 qa q0 uq
     obtain ⟨g, hg⟩ : ∃ g, g = Nat.gcd m q := ⟨_, rfl⟩
     have g0 : 0 < g := by rw [hg]; exact Nat.gcd_pos_of_pos_left _ h2
     have gq : g ≤ m := by rw [hg]; exact Nat.gcd_le_left _ h2
     rw [← hg] at h4
     have mg : m / g ≤ m := Nat.div_le_self _ _
     have mm := mul_lim (Nat.le_trans mg h3) qa
     (try simp only [zF, seval, Nat.reduceLeDiff, Nat.reduceEqDiff, reduceCtorEq, reduceIte, wC, uq])
     repeat ((with_reducible refine And.intro ?_ ?_); (focus (first | omega | (simp only [lenR]; omega) | (refine qq ?_; rfl) | (refine dq ?_; kernel_rfl) | (intros; simp_all; done))))
     refine callF_pure (c31 m q) ?_
     rw [← hg]
     have e1 : IntKind.u64.wrap (Int.tdiv (m : Int) (g : Int)) = ((m / g : Nat) : Int) := by
      rw [quoN, Mul64R.wrapN _ (by omega)]
     simp only [zF, seval, Nat.reduceLeDiff, Nat.reduceEqDiff, reduceCtorEq, reduceIte, wC, quoU, e1, uq]
     repeat ((with_reducible refine And.intro ?_ ?_); (focus (first | omega | (simp only [lenR]; omega) | (refine qq ?_; rfl) | (refine dq ?_; kernel_rfl) | (intros; simp_all; done))))
     refine callF_pure (c39 (m / g) q (by omega) (by omega)) ?_
     simp only [zF, seval, Nat.reduceLeDiff, Nat.reduceEqDiff, reduceCtorEq, reduceIte, wC]
     have pos : 1 ≤ m / g * q := Nat.mul_pos (Nat.div_pos gq g0) q0
     generalize m / g * q = nx at mm h4 pos ⊢
     refine ifC.mk (fun hd => ?_) (fun hd => ?_)
     ·have hd : ¬ nx ≤ 1000000000000000 := by
       simp only [Bool.or_eq_true, bne_iff_ne, ne_eq, decide_eq_true_eq] at hd
       omega
      rw [h4, if_neg hd]
      refine ⟨_, _, ret_t2, ?_, rfl⟩
      rfl
     ·have hd : nx ≤ 1000000000000000 := by
       have := Bool.eq_false_iff.1 hd
       simp only [Bool.or_eq_true, bne_iff_ne, ne_eq, decide_eq_true_eq] at this
       omega
      rw [if_pos hd] at h4
      refine ⟨(k + 1, nx), ⟨by simp only; omega, pos, hd, h4⟩, by simp only; omega, ?_⟩
      refine weak_to [] [0] rfl (by simp) ?_ rfl
      simp only [zF, seval, Nat.reduceLeDiff, Nat.reduceEqDiff, reduceCtorEq, reduceIte, wC, @a_wrap ((k:Int) + 1) (by omega), show nx % 18446744073709551616 = nx by omega]
   ·have : l.drop k = [] := List.drop_eq_nil_of_le (by omega)
    rw [this] at h4
    have h4 : comF l 1 = some m := h4
    rw [h4]
    obtain ⟨_, _, _, m4⟩ := comF_spec (by omega) (by omega) h4
    simp only
    rw [fin_norm (tot_val l m) h2]
    have z0 : D.agg [.int .u64 0, .int .u64 0] = wN 0 := rfl
    simp only [zF, seval, Nat.reduceLeDiff, Nat.reduceEqDiff, reduceCtorEq, reduceIte, wC, (show ¬ (k:Int) < l.length by omega), z0]
    refine for_of l.length (fun k => [(2, .ptr 0 0), (4, .d (.int .u64 m)), (8, .ptr 1 0), (9, .ptr 2 0), (55, .d (.sl (l.map FracT.toD))), (56, .d (.int .i64 (l.length : Nat))), (57, .d (.int .i64 k))]) (fun k => [.box 2 (.d (.agg [.int .i64 0, .int .i64 0])), .box 2 (.d (wN (pmL (l.take k) m).1)), .box 2 (.d (wN (pmL (l.take k) m).2))]) (fun _ => True) trivial ?_ ?_
    ·refine weak_to [] [0, 1, 2] rfl (by simp) ?_ rfl
     simp only [zF, seval, Nat.reduceLeDiff, Nat.reduceEqDiff, reduceCtorEq, reduceIte, wC, Int.cast_ofNat_Int]
    ·intro k _ hk
     by_cases h : k < l.length
     ·obtain ⟨x, hx⟩ : ∃ x, x = l.getD k default := ⟨_, rfl⟩
      have hmem : x ∈ l := by rw [hx]; exact mem_getD h
      have hxi : x.In := hin x hmem
      obtain ⟨ok, _⟩ := m4 x hmem
      have qa := ok.qa
      have na := ok.na
      have q0 := ok.q0
      have hb := pmL_le (l := l.take k) h3 (fun a ha => (m4 a (List.mem_of_mem_take ha)).1) (by rw [List.length_take]; omega)
      have mg : m / x.q.natAbs ≤ m := Nat.div_le_self _ _
      have uq := i_u x.q (by have := ok.d1; omega) hxi.d2
      rw [pm_take h, ← hx]
      unfold pmF
      obtain ⟨q, hq⟩ : ∃ q, q = x.q.natAbs := ⟨_, rfl⟩
      rw [← hq] at mg uq q0
      rw [← hq]
      obtain ⟨r, hr⟩ : ∃ r, r = m / q := ⟨_, rfl⟩
      have eq : IntKind.u64.wrap (Int.tdiv (m : Int) (q : Int)) = (r : Int) := by rw [quoN, ← hr, Mul64R.wrapN _ (by omega)]
      rw [← hr] at mg
      rw [← hr]
      have hs := mul_lim na (Nat.le_trans mg h3)
      simp only [zF, seval, Nat.reduceLeDiff, Nat.reduceEqDiff, reduceCtorEq, reduceIte, wC, (show (k:Int) < l.length by omega), h, a_getD _ _ _ (show k < l.length by omega), ← hx]
      repeat ((with_reducible refine And.intro ?_ ?_); (focus (first | omega | (simp only [lenR]; omega) | (refine qq ?_; rfl) | (refine dq ?_; kernel_rfl) | (intros; simp_all; done))))
      refine callF_pure (c32 x.n hxi.n1 hxi.n2) ?_
      simp only [zF, seval, Nat.reduceLeDiff, Nat.reduceEqDiff, reduceCtorEq, reduceIte, wC, uq, quoU, eq]
      repeat ((with_reducible refine And.intro ?_ ?_); (focus (first | omega | (simp only [lenR]; omega) | (refine qq ?_; rfl) | (refine dq ?_; kernel_rfl) | (intros; simp_all; done))))
      refine callF_pure (c39 x.n.natAbs r (by omega) (by omega)) ?_
      simp only [zF, seval, Nat.reduceLeDiff, Nat.reduceEqDiff, reduceCtorEq, reduceIte, wC]
      generalize hpm : pmL (l.take k) m = pm at hb ⊢
      refine ifC.mk (fun hd => ?_) (fun hd => ?_)
      ·have hd : x.n < 0 := by simpa using hd
       rw [if_pos hd]
       refine callF_pure (c40 pm.2 (x.n.natAbs * r) (by omega)) ?_
       simp only [zF, seval, Nat.reduceLeDiff, Nat.reduceEqDiff, reduceCtorEq, reduceIte, wC, h]
       refine weak_to [] [0, 1, 2] rfl (by simp) ?_ rfl
       simp only [zF, seval, Nat.reduceLeDiff, Nat.reduceEqDiff, reduceCtorEq, reduceIte, wC, @a_wrap ((k:Int) + 1) (by omega), Int.natCast_add, Int.cast_ofNat_Int]
      ·have hd : ¬ x.n < 0 := by simpa using hd
       rw [if_neg hd]
       refine callF_pure (c40 pm.1 (x.n.natAbs * r) (by omega)) ?_
       simp only [zF, seval, Nat.reduceLeDiff, Nat.reduceEqDiff, reduceCtorEq, reduceIte, wC, h]
       refine weak_to [] [0, 1, 2] rfl (by simp) ?_ rfl
       simp only [zF, seval, Nat.reduceLeDiff, Nat.reduceEqDiff, reduceCtorEq, reduceIte, wC, @a_wrap ((k:Int) + 1) (by omega), Int.natCast_add, Int.cast_ofNat_Int]
     ·have : k = l.length := by omega
      subst this
      rw [List.take_length]
      have hb := pmL_le (l := l) h3 (fun a ha => (m4 a ha).1) (by omega)
      generalize pmL l m = pm at hb ⊢
      simp only [zF, seval, Nat.reduceLeDiff, Nat.reduceEqDiff, reduceCtorEq, reduceIte, wC, (show ¬ ((l.length : Nat) : Int) < (l.length : Nat) by omega)]
      refine callF_pure (c41 pm.1 pm.2 (by omega) (by omega)) ?_
      unfold finF
      generalize hw : pm.1 - pm.2 + (pm.2 - pm.1) = w
      generalize decide (pm.1 < pm.2) = sg
      simp only [zF, seval, Nat.reduceLeDiff, Nat.reduceEqDiff, reduceCtorEq, reduceIte, wC, z0]
      refine ifC.mk (fun hz => ?_) (fun hz => ?_)
      ·have hz : w = 0 := by simpa using hz
       rw [if_pos hz]
       refine ⟨_, _, ret_t2, ?_, rfl⟩
       rfl
      ·have hz : ¬ w = 0 := by simpa using hz
       rw [if_neg hz]
       refine callF_pure (c42 w m (by omega) (by omega) (by omega)) ?_
       simp only [zF, seval, Nat.reduceLeDiff, Nat.reduceEqDiff, reduceCtorEq, reduceIte, wC]
       refine callF_pure (c31 (w % m) m) ?_
       obtain ⟨t, ht⟩ : ∃ t, t = Nat.gcd w m := ⟨_, rfl⟩
       have et : Nat.gcd (w % m) m = t := by rw [ht, Nat.gcd_comm w m, ← Nat.gcd_rec, Nat.gcd_comm]
       have t0 : 0 < t := by rw [ht]; exact Nat.gcd_pos_of_pos_right _ h2
       have tm : t ≤ m := by rw [ht]; exact Nat.gcd_le_right _ h2
       rw [et, ← ht]
       simp only [zF, seval, Nat.reduceLeDiff, Nat.reduceEqDiff, reduceCtorEq, reduceIte, wC]
       have mt : m / t ≤ m := Nat.div_le_self _ _
       have e5 : IntKind.u64.wrap (Int.tdiv (m : Int) (t : Int)) = ((m / t : Nat) : Int) := by rw [quoN, Mul64R.wrapN _ (by omega)]
       by_cases hov : w / 18446744073709551616 < t
       ·refine callF_pure (c43b w t (by omega) t0 (by omega) hov) ?_
        have hn64 : w / t < 18446744073709551616 := by
         rw [Nat.div_lt_iff_lt_mul t0]
         have := Nat.div_add_mod' w 18446744073709551616
         have h2 : (w / 18446744073709551616 + 1) * 18446744073709551616 ≤ t * 18446744073709551616 := Nat.mul_le_mul_right _ hov
         rw [Nat.mul_comm] at h2 ⊢
         omega
        simp only [zF, seval, Nat.reduceLeDiff, Nat.reduceEqDiff, reduceCtorEq, reduceIte, wC, quoU, e5, Bool.not_true]
        repeat ((with_reducible refine And.intro ?_ ?_); (focus (first | omega | (simp only [lenR]; omega) | (refine qq ?_; rfl) | (refine dq ?_; kernel_rfl) | (intros; simp_all; done))))
        refine callF_pure (c33 sg (w / t) (m / t) hn64 (by omega)) ?_
        simp only [resD]
        simp only [zF, seval, Nat.reduceLeDiff, Nat.reduceEqDiff, reduceCtorEq, reduceIte, wC]
        exact ⟨_, _, ret_t2, rfl, rfl⟩
       ·refine callF_pure (c43a w t (by omega) t0 (by omega) (by omega)) ?_
        have hn64 : 18446744073709551616 ≤ w / t := by
         rw [Nat.le_div_iff_mul_le t0]
         have := Nat.div_add_mod' w 18446744073709551616
         have h2 : t * 18446744073709551616 ≤ w / 18446744073709551616 * 18446744073709551616 := Nat.mul_le_mul_right _ (by omega)
         rw [Nat.mul_comm] at h2 ⊢
         omega
        rw [show madeP sg (w / t) (m / t) = failF by unfold madeP; rw [if_neg (by omega)]]
        simp only [zF, seval, Nat.reduceLeDiff, Nat.reduceEqDiff, reduceCtorEq, reduceIte, wC, Bool.not_false]
        refine ⟨_, _, ret_t2, ?_, rfl⟩
        rfl

structure PartT where
 path : List (List UInt8)
 cause : List UInt8
 value : FracT
deriving DecidableEq, Inhabited
def PartT.toD (x : PartT) : D := .agg [.sl (x.path.map .str), .str x.cause, .int .i64 x.value.n, .int .i64 x.value.q]
theorem pt_isAgg (x : PartT) : x.toD.isAgg = true := rfl
theorem pt_cells (x : PartT) : x.toD.cells = [.sl (x.path.map .str), .str x.cause, .int .i64 x.value.n, .int .i64 x.value.q] := rfl
theorem zP : type_of% (And.intro @zN (And.intro @pt_isAgg (And.intro @pt_cells (And.intro @f_isAgg @f_cells)))) := And.intro @zN (And.intro @pt_isAgg (And.intro @pt_cells (And.intro @f_isAgg @f_cells)))
theorem k_ESum (l : List PartT) (hin : ∀ x ∈ l, x.value.In) (hl : l.length ≤ 100000) : Pure Tryz.prog Gl 12 [.d (.sl (l.map PartT.toD))] (resD (sumL (l.map PartT.value))) := by
 refine Pure.of1t2 ?_
 refine acalls_of Tryz.func12 rfl rfl (by simp [Tryz.ntmps12]) (evC_sound rfl _ _ _ _ ?_)
 simp only [Tryz.ntmps12, Tryz.results12, argEnv, List.length_nil]
 simp only [zP, seval, Nat.reduceLeDiff, Nat.reduceEqDiff, reduceCtorEq, reduceIte, intD]
 repeat ((with_reducible refine And.intro ?_ ?_); (focus (first | omega | (simp only [lenR]; omega) | (refine qq ?_; rfl) | (refine dq ?_; kernel_rfl) | (intros; simp_all; done))))
 refine for_of l.length (fun k => [(2, .ptr 0 0), (4, .osl 1 0 k), (7, .d (.sl (l.map PartT.toD))), (8, .d (.int .i64 l.length)), (9, .d (.int .i64 k))]) (fun k => [.box 2 (.d (.agg [.int .i64 0, .int .i64 0])), .arr 2 ((l.take k).map fun x => x.value.toD)]) (fun _ => True) trivial ?_ ?_
 ·refine (weak_nils 4 2 rfl).trans ?_
  refine weak_to [] [0, 1] rfl (by simp) ?_ rfl
  simp only [zP, seval, Nat.reduceLeDiff, Nat.reduceEqDiff, reduceCtorEq, reduceIte, intD, Int.cast_ofNat_Int]
  try rfl
 ·intro k _ hk
  by_cases h : k < l.length
  ·obtain ⟨x, hx⟩ : ∃ x, x = l.getD k default := ⟨_, rfl⟩
   have eg : (l.map PartT.toD).getD k default = x.toD := by rw [a_getD _ _ _ h, ← hx]
   have hst : (l.take (k + 1)).map (fun x => x.value.toD) = (l.take k).map (fun x => x.value.toD) ++ [x.value.toD] := by rw [take_step l k h, List.map_append, ← hx]; rfl
   have htl : ((l.take k).map fun x => x.value.toD).length = k := by rw [List.length_map, List.length_take]; omega
   have htk : List.take k ((l.take k).map fun x => x.value.toD) = (l.take k).map fun x => x.value.toD := List.take_of_length_le (by omega)
   simp only [zP, seval, Nat.reduceLeDiff, Nat.reduceEqDiff, reduceCtorEq, reduceIte, intD, (show (k:Int) < l.length by omega), h, eg, htk]
   repeat ((with_reducible refine And.intro ?_ ?_); (focus (first | omega | (simp only [lenR]; omega) | (refine qq ?_; rfl) | (refine dq ?_; kernel_rfl) | (intros; simp_all; done))))
   rw [hst]
   refine weak_to [] [0, 4] rfl (by simp) ?_ rfl
   simp only [zP, seval, Nat.reduceLeDiff, Nat.reduceEqDiff, reduceCtorEq, reduceIte, intD, @a_wrap ((k:Int) + 1) (by omega)]
   try rfl
  ·have : k = l.length := by omega
   subst this
   rw [List.take_length]
   have e1 : List.take l.length (List.map (fun x : PartT => x.value.toD) l) = (l.map PartT.value).map FracT.toD := by
    rw [List.take_of_length_le (by simp), List.map_map]; rfl
   simp only [zP, seval, Nat.reduceLeDiff, Nat.reduceEqDiff, reduceCtorEq, reduceIte, intD, (show ¬ (l.length:Int) < l.length by omega)]
   repeat ((with_reducible refine And.intro ?_ ?_); (focus (first | omega | (simp only [lenR]; omega) | (refine qq ?_; rfl) | (refine dq ?_; kernel_rfl) | (intros; simp_all; done))))
   refine callF_dataE (as' := [.d (.sl ((l.map PartT.value).map FracT.toD))]) (σ' := [.box 2 (.d (.agg [.int .i64 0, .int .i64 0])), .frz 2 (l.map fun x => x.value.toD)]) (c18 (l.map PartT.value) (fun a ha => by
    obtain ⟨x, hx, rfl⟩ := List.mem_map.1 ha
    exact hin x hx)) ?_ rfl ?_
   ·show [AV.d (D.sl (List.take l.length (List.map (fun x : PartT => x.value.toD) l)))] = _
    rw [e1]
   simp only [zP, seval, Nat.reduceLeDiff, Nat.reduceEqDiff, reduceCtorEq, reduceIte, intD, resD]
   repeat ((with_reducible refine And.intro ?_ ?_); (focus (first | omega | (simp only [lenR]; omega) | (refine qq ?_; rfl) | (refine dq ?_; kernel_rfl) | (intros; simp_all; done))))
   exact ⟨_, _, ret_t2, rfl, rfl⟩

def absF (f : FracT) : FracT := if f.n < 0 then ⟨IntKind.i64.wrap (0 - f.n), f.q⟩ else f
theorem absF_in {f : FracT} (h : f.In) : (absF f).In := by
 unfold absF
 split
 ·have := IntKind.wrap_i64 (0 - f.n)
  refine ⟨?_, ?_, h.d1, h.d2⟩ <;> (simp only [this]; omega)
 ·exact h
theorem k_abs (f : FracT) : Pure Tryz.prog Gl 41 [.d f.toD] (.d (absF f).toD) := by
 refine Pure.of1 ?_
 refine acalls_of Tryz.func41 rfl rfl (by simp [Tryz.ntmps41]) (evC_sound rfl _ _ _ _ ?_)
 simp only [Tryz.ntmps41, Tryz.results41, argEnv, List.length_nil]
 simp only [zP, seval, Nat.reduceLeDiff, Nat.reduceEqDiff, reduceCtorEq, reduceIte, intD]
 repeat ((with_reducible refine And.intro ?_ ?_); (focus (first | omega | (simp only [lenR]; omega) | (refine qq ?_; rfl) | (refine dq ?_; kernel_rfl) | (intros; simp_all; done))))
 refine ifC.mk (fun h1 => ?_) (fun h1 => ?_)
 ·have h1 : f.n < 0 := of_decide_eq_true h1
  refine ⟨_, _, ret_d, ?_, rfl⟩
  rw [absF, if_pos h1]
  rfl
 ·have h1 : ¬ f.n < 0 := of_decide_eq_false h1
  refine ⟨_, _, ret_d, ?_, rfl⟩
  rw [absF, if_neg h1]
theorem k_node0 (l : List NodeT) (hl : l.length ≤ 100000) (i : Int) (hi : i < l.length) : Pure Tryz.prog Gl 23 [.d (.sl (l.map NodeT.toD)), .d (.int .i64 i)] (.d (if i < 0 then (⟨0, [], 0, 0, 0⟩ : NodeT) else l.getD i.toNat default).toD) := by
 refine Pure.of2 ?_
 refine acalls_of Tryz.func23 rfl rfl (by simp [Tryz.ntmps23]) (evC_sound rfl _ _ _ _ ?_)
 simp only [Tryz.ntmps23, Tryz.results23, argEnv, List.length_nil]
 simp only [zP, seval, Nat.reduceLeDiff, Nat.reduceEqDiff, reduceCtorEq, reduceIte, intD]
 repeat ((with_reducible refine And.intro ?_ ?_); (focus (first | omega | (simp only [lenR]; omega) | (refine qq ?_; rfl) | (refine dq ?_; kernel_rfl) | (intros; simp_all; done))))
 refine ifC.mk (fun h1 => ?_) (fun h1 => ?_)
 ·have h1 : i < 0 := of_decide_eq_true h1
  refine ⟨_, _, ret_d, ?_, rfl⟩
  rw [if_pos h1]
  rfl
 ·have h1 : ¬ i < 0 := of_decide_eq_false h1
  obtain ⟨k, rfl⟩ : ∃ k : Nat, i = k := ⟨i.toNat, by omega⟩
  have hk : k < l.length := by omega
  obtain ⟨x, hx⟩ : ∃ x, x = l.getD k default := ⟨_, rfl⟩
  have eg : (l.map NodeT.toD).getD k default = x.toD := by rw [a_getD _ _ _ hk, ← hx]
  simp only [zP, seval, Nat.reduceLeDiff, Nat.reduceEqDiff, reduceCtorEq, reduceIte, intD, eg, hk, (show (k:Int) < l.length by omega)]
  repeat ((with_reducible refine And.intro ?_ ?_); (focus (first | omega | (simp only [lenR]; omega) | (refine qq ?_; rfl) | (refine dq ?_; kernel_rfl) | (intros; simp_all; done))))
  refine ⟨_, _, ret_d, ?_, rfl⟩
  rw [if_neg h1, hx]
theorem k_fSum (l : List NodeT) (hl : l.length ≤ 2000) : Pure Tryz.prog Gl 30 [.d (.sl (l.map NodeT.toD))] (.d (.int .i64 (if checkF l = 0 then selfS l else 0))) := by
 refine Pure.of1 ?_
 refine acalls_of Tryz.func30 rfl rfl (by simp [Tryz.ntmps30]) (evC_sound rfl _ _ _ _ ?_)
 simp only [Tryz.ntmps30, Tryz.results30, argEnv, List.length_nil]
 simp only [zP, seval, Nat.reduceLeDiff, Nat.reduceEqDiff, reduceCtorEq, reduceIte, intD]
 repeat ((with_reducible refine And.intro ?_ ?_); (focus (first | omega | (simp only [lenR]; omega) | (refine qq ?_; rfl) | (refine dq ?_; kernel_rfl) | (intros; simp_all; done))))
 refine callF_pure (k_flameCheck l (by omega)) ?_
 simp only [zP, seval, Nat.reduceLeDiff, Nat.reduceEqDiff, reduceCtorEq, reduceIte, intD]
 refine ifC.mk (fun h1 => ?_) (fun h1 => ?_)
 ·have h1 : ¬ checkF l = 0 := by simpa using h1
  refine ⟨_, _, ret_d, ?_, rfl⟩
  rw [if_neg h1]
 ·have h1 : checkF l = 0 := by simpa using h1
  rw [if_pos h1]
  have hrf := (checkF_ok h1).2.1
  have hb : ∀ k, k ≤ l.length → 0 ≤ selfS (l.take k) ∧ selfS (l.take k) ≤ 200000000000000000 := fun k hk => by
   have h2 : firstErr (fun k => nodeE (l.getD k default)) l.length = 0 := by
    unfold rangesF at hrf
    by_cases h3 : firstErr (fun k => nodeE (l.getD k default)) l.length = 0
    ·exact h3
    ·rw [if_neg h3] at hrf; exact absurd hrf h3
   have h3 := sums_take hk (firstErr_all fun j hj => firstErr_zero h2 j (by omega))
   refine ⟨h3.1, ?_⟩
   have : (k : Int) * 100000000000000 ≤ 2000 * 100000000000000 := by omega
   omega
  repeat ((with_reducible refine And.intro ?_ ?_); (focus (first | omega | (simp only [lenR]; omega) | (refine qq ?_; rfl) | (refine dq ?_; kernel_rfl) | (intros; simp_all; done))))
  refine for_of l.length (fun k => [(3, .d (.int .i64 (selfS (l.take k)))), (9, .d (.sl (l.map NodeT.toD))), (10, .d (.int .i64 l.length)), (11, .d (.int .i64 k))]) (fun k => []) (fun _ => True) trivial ?_ ?_
  ·refine weak_to [] [] rfl (by simp) ?_ rfl
   simp only [zP, seval, Nat.reduceLeDiff, Nat.reduceEqDiff, reduceCtorEq, reduceIte, intD, Int.cast_ofNat_Int]
   try rfl
  ·intro k _ hk
   by_cases h : k < l.length
   ·obtain ⟨x, hx⟩ : ∃ x, x = l.getD k default := ⟨_, rfl⟩
    have eg : (l.map NodeT.toD).getD k default = x.toD := by rw [a_getD _ _ _ h, ← hx]
    have hst : selfS (l.take (k + 1)) = selfS (l.take k) + x.self := by
     rw [selfS, take_step l k h, List.map_append, List.sum_append, ← hx]; simp [selfS]
    have h4 := hb (k + 1) h
    rw [hst] at h4
    simp only [zP, seval, Nat.reduceLeDiff, Nat.reduceEqDiff, reduceCtorEq, reduceIte, intD, (show (k:Int) < l.length by omega), h, eg]
    repeat ((with_reducible refine And.intro ?_ ?_); (focus (first | omega | (simp only [lenR]; omega) | (refine qq ?_; rfl) | (refine dq ?_; kernel_rfl) | (intros; simp_all; done))))
    rw [hst]
    refine weak_to [] [] rfl (by simp) ?_ rfl
    simp only [zP, seval, Nat.reduceLeDiff, Nat.reduceEqDiff, reduceCtorEq, reduceIte, intD, @a_wrap ((k:Int) + 1) (by omega), @a_wrap (selfS (l.take k) + x.self) (by omega)]
    try rfl
   ·have : k = l.length := by omega
    subst this
    rw [List.take_length]
    simp only [zP, seval, Nat.reduceLeDiff, Nat.reduceEqDiff, reduceCtorEq, reduceIte, intD, (show ¬ (l.length:Int) < l.length by omega)]
    exact ⟨_, _, ret_d, rfl, rfl⟩
def diffF (a b : List NodeT) : Int × Int := if checkF a = 0 then (if checkF b = 0 then (selfS b - selfS a, 0) else (0, checkF b)) else (0, checkF a)
theorem self_rng {l : List NodeT} (h : checkF l = 0) : 0 ≤ selfS l ∧ selfS l ≤ 200000000000000000 := by
 have hrf := (checkF_ok h).2.1
 have hl := (checkF_ok h).1
 have h2 : firstErr (fun k => nodeE (l.getD k default)) l.length = 0 := by
  unfold rangesF at hrf
  by_cases h3 : firstErr (fun k => nodeE (l.getD k default)) l.length = 0
  ·exact h3
  ·rw [if_neg h3] at hrf; exact absurd hrf h3
 have h3 := sums_take (Nat.le_refl _) h2
 rw [List.take_length] at h3
 refine ⟨h3.1, ?_⟩
 have : (l.length : Int) * 100000000000000 ≤ 2000 * 100000000000000 := by omega
 omega
theorem k_Diff (a b : List NodeT) (ha : a.length ≤ 2000) (hb : b.length ≤ 2000) : Pure Tryz.prog Gl 9 [.d (.sl (a.map NodeT.toD)), .d (.sl (b.map NodeT.toD))] (.tup [.d (.int .i64 (diffF a b).1), .d (.int .i64 (diffF a b).2)]) := by
 refine Pure.of2t2 ?_
 refine acalls_of Tryz.func9 rfl rfl (by simp [Tryz.ntmps9]) (evC_sound rfl _ _ _ _ ?_)
 simp only [Tryz.ntmps9, Tryz.results9, argEnv, List.length_nil]
 simp only [zP, seval, Nat.reduceLeDiff, Nat.reduceEqDiff, reduceCtorEq, reduceIte, intD]
 repeat ((with_reducible refine And.intro ?_ ?_); (focus (first | omega | (simp only [lenR]; omega) | (refine qq ?_; rfl) | (refine dq ?_; kernel_rfl) | (intros; simp_all; done))))
 refine for_of 2 (fun k => [(0, .d (.sl (a.map NodeT.toD))), (1, .d (.sl (b.map NodeT.toD))), (11, .osl 0 0 2), (12, .d (.int .i64 2)), (13, .d (.int .i64 k))]) (fun _ => [.arr 1 [.sl (a.map NodeT.toD), .sl (b.map NodeT.toD)]]) (fun k => (1 ≤ k → checkF a = 0) ∧ (2 ≤ k → checkF b = 0)) ⟨fun h => by omega, fun h => by omega⟩ ?_ ?_
 ·refine weak_to [] [0] rfl (by simp) ?_ rfl
  simp only [zP, seval, Nat.reduceLeDiff, Nat.reduceEqDiff, reduceCtorEq, reduceIte, intD, Int.cast_ofNat_Int]
  try rfl
 ·intro k hi hk
  match k, hk with
  | 0, _ =>
   simp only [zP, seval, Nat.reduceLeDiff, Nat.reduceEqDiff, reduceCtorEq, reduceIte, intD]
   repeat ((with_reducible refine And.intro ?_ ?_); (focus (first | omega | (simp only [lenR]; omega) | (refine qq ?_; rfl) | (refine dq ?_; kernel_rfl) | (intros; simp_all; done))))
   refine callF_pure (k_flameCheck a (by omega)) ?_
   simp only [zP, seval, Nat.reduceLeDiff, Nat.reduceEqDiff, reduceCtorEq, reduceIte, intD]
   refine ifC.mk (fun h1 => ?_) (fun h1 => ?_)
   ·have h1 : ¬ checkF a = 0 := by simpa using h1
    refine ⟨_, _, ret_t2, ?_, rfl⟩
    rw [diffF, if_neg h1]
   ·have h1 : checkF a = 0 := by simpa using h1
    refine ⟨h1, ?_⟩
    refine weak_to [] [0] rfl (by simp) ?_ rfl
    simp only [zP, seval, Nat.reduceLeDiff, Nat.reduceEqDiff, reduceCtorEq, reduceIte, intD]
    try rfl
  | 1, _ =>
   have h0 := hi.1 (by omega)
   simp only [zP, seval, Nat.reduceLeDiff, Nat.reduceEqDiff, reduceCtorEq, reduceIte, intD]
   repeat ((with_reducible refine And.intro ?_ ?_); (focus (first | omega | (simp only [lenR]; omega) | (refine qq ?_; rfl) | (refine dq ?_; kernel_rfl) | (intros; simp_all; done))))
   refine callF_pure (k_flameCheck b (by omega)) ?_
   simp only [zP, seval, Nat.reduceLeDiff, Nat.reduceEqDiff, reduceCtorEq, reduceIte, intD]
   refine ifC.mk (fun h1 => ?_) (fun h1 => ?_)
   ·have h1 : ¬ checkF b = 0 := by simpa using h1
    refine ⟨_, _, ret_t2, ?_, rfl⟩
    rw [diffF, if_pos h0, if_neg h1]
   ·have h1 : checkF b = 0 := by simpa using h1
    refine ⟨⟨h0, h1⟩, ?_⟩
    refine weak_to [] [0] rfl (by simp) ?_ rfl
    simp only [zP, seval, Nat.reduceLeDiff, Nat.reduceEqDiff, reduceCtorEq, reduceIte, intD]
    try rfl
  | 2, _ =>
   have h0 := hi.1 (by omega)
   have h1 := hi.2 (by omega)
   have ra := self_rng h0
   have rb := self_rng h1
   simp only [zP, seval, Nat.reduceLeDiff, Nat.reduceEqDiff, reduceCtorEq, reduceIte, intD]
   refine callF_pure (k_fSum b hb) ?_
   simp only [zP, seval, Nat.reduceLeDiff, Nat.reduceEqDiff, reduceCtorEq, reduceIte, intD, if_pos h1]
   refine callF_pure (k_fSum a ha) ?_
   simp only [zP, seval, Nat.reduceLeDiff, Nat.reduceEqDiff, reduceCtorEq, reduceIte, intD, if_pos h0, @a_wrap (selfS b - selfS a) (by omega)]
   refine ⟨_, _, ret_t2, ?_, rfl⟩
   rw [diffF, if_pos h0, if_pos h1]

def mkP (path : List (List UInt8)) (cause : List UInt8) (n d : Int) : PartT := ⟨path, cause, (ofS n d).1⟩
def In64 (n : Int) : Prop := -9223372036854775808 ≤ n ∧ n ≤ 9223372036854775807
theorem k_part1 (path : List (List UInt8)) (cause : List UInt8) (n d : Int) (hn : In64 n) (hd : In64 d) : ACalls Tryz.prog Gl 48 [.d (.str cause), .d (.int .i64 n), .d (.int .i64 d), .ptr 0 0] [.box 1 (.d (.sl (path.map .str)))]
  (fun r s => r = .d (mkP path cause n d).toD ∧ s = [.box 1 (.d (.sl (path.map .str)))]) := by
 refine acalls_of Tryz.func48 rfl rfl (by simp [Tryz.ntmps48]) (evC_sound rfl _ _ _ _ ?_)
 simp only [Tryz.ntmps48, Tryz.results48, argEnv, List.length_nil]
 simp only [zP, seval, Nat.reduceLeDiff, Nat.reduceEqDiff, reduceCtorEq, reduceIte, intD]
 repeat ((with_reducible refine And.intro ?_ ?_); (focus (first | omega | (simp only [lenR]; omega) | (refine qq ?_; rfl) | (refine dq ?_; kernel_rfl) | (intros; simp_all; done))))
 refine callF_pure (c11 n d hn.1 hn.2 hd.1 hd.2) ?_
 simp only [zP, seval, Nat.reduceLeDiff, Nat.reduceEqDiff, reduceCtorEq, reduceIte, intD, resD]
 repeat ((with_reducible refine And.intro ?_ ?_); (focus (first | omega | (simp only [lenR]; omega) | (refine qq ?_; rfl) | (refine dq ?_; kernel_rfl) | (intros; simp_all; done))))
 refine ⟨_, _, weakR_to [] [0] rfl (by simp) (show renV _ _ _ = AV.d _ from rfl) rfl, ?_, rfl⟩
 rfl
def sCount : List UInt8 := [99, 111, 117, 110, 116]
def sMean : List UInt8 := [109, 101, 97, 110]
def sGone : List UInt8 := [103, 111, 110, 101]
def sNew : List UInt8 := [110, 101, 119]
def partsF (x y : NodeT) (path : List (List UInt8)) : List PartT :=
 if 0 < x.count ∧ 0 < y.count then [mkP path sCount ((y.count - x.count) * x.self) x.count, mkP path sMean (y.self * x.count - y.count * x.self) x.count]
 else (if 0 < x.count then [mkP path sGone (-x.self) 1] else []) ++ (if 0 < y.count then [mkP path sNew y.self 1] else [])
theorem mul_abs {a b : Int} {A B : Nat} (ha : a.natAbs ≤ A) (hb : b.natAbs ≤ B) : -((A * B : Nat) : Int) ≤ a * b ∧ a * b ≤ ((A * B : Nat) : Int) := by
 have h1 : (a * b).natAbs ≤ A * B := by rw [Int.natAbs_mul]; exact Nat.mul_le_mul ha hb
 omega
structure NdOk (x : NodeT) : Prop where
 c0 : 0 ≤ x.count
 c1 : x.count ≤ 20000
 s0 : 0 ≤ x.self
 s1 : x.self ≤ 100000000000000
theorem k_parts (x y : NodeT) (path : List (List UInt8)) (hx : NdOk x) (hy : NdOk y) : Pure Tryz.prog Gl 22 [.d x.toD, .d y.toD, .d (.sl (path.map .str))] (.d (.sl ((partsF x y path).map PartT.toD))) := by
 obtain ⟨x1, x2, x3, x4⟩ := hx
 obtain ⟨y1, y2, y3, y4⟩ := hy
 have p1 := mul_abs (a := y.count - x.count) (b := x.self) (A := 20000) (B := 100000000000000) (by omega) (by omega)
 have p2 := mul_abs (a := y.self) (b := x.count) (A := 100000000000000) (B := 20000) (by omega) (by omega)
 have p3 := mul_abs (a := y.count) (b := x.self) (A := 20000) (B := 100000000000000) (by omega) (by omega)
 simp only [Nat.reduceMul] at p1 p2 p3
 refine Pure.of3 ?_
 refine acalls_of Tryz.func22 rfl rfl (by simp [Tryz.ntmps22]) (evC_sound rfl _ _ _ _ ?_)
 simp only [Tryz.ntmps22, Tryz.results22, argEnv, List.length_nil]
 simp only [zP, seval, Nat.reduceLeDiff, Nat.reduceEqDiff, reduceCtorEq, reduceIte, intD]
 repeat ((with_reducible refine And.intro ?_ ?_); (focus (first | omega | (simp only [lenR]; omega) | (refine qq ?_; rfl) | (refine dq ?_; kernel_rfl) | (intros; simp_all; done))))
 refine ifC.mk (fun h1 => ?_) (fun h1 => ?_)
 ·have h1 : 0 < x.count ∧ 0 < y.count := by simpa using h1
  repeat ((with_reducible refine And.intro ?_ ?_); (focus (first | omega | (simp only [lenR]; omega) | (refine qq ?_; rfl) | (refine dq ?_; kernel_rfl) | (intros; simp_all; done))))
  simp only [zP, seval, Nat.reduceLeDiff, Nat.reduceEqDiff, reduceCtorEq, reduceIte, intD, @a_wrap (y.count - x.count) (by omega), @a_wrap ((y.count - x.count) * x.self) (by omega), @a_wrap (y.self * x.count) (by omega), @a_wrap (y.count * x.self) (by omega), @a_wrap (y.self * x.count - y.count * x.self) (by omega)]
  refine callF_blk1 2 (k_part1 path sCount ((y.count - x.count) * x.self) x.count ⟨by omega, by omega⟩ ⟨by omega, by omega⟩) (fun s => rfl) rfl trivial ?_
  simp only [zP, seval, Nat.reduceLeDiff, Nat.reduceEqDiff, reduceCtorEq, reduceIte, intD, @a_wrap (y.count - x.count) (by omega), @a_wrap ((y.count - x.count) * x.self) (by omega), @a_wrap (y.self * x.count) (by omega), @a_wrap (y.count * x.self) (by omega), @a_wrap (y.self * x.count - y.count * x.self) (by omega)]
  repeat ((with_reducible refine And.intro ?_ ?_); (focus (first | omega | (simp only [lenR]; omega) | (refine qq ?_; rfl) | (refine dq ?_; kernel_rfl) | (intros; simp_all; done))))
  refine callF_blk1 2 (k_part1 path sMean (y.self * x.count - y.count * x.self) x.count ⟨by omega, by omega⟩ ⟨by omega, by omega⟩) (fun s => rfl) rfl trivial ?_
  simp only [zP, seval, Nat.reduceLeDiff, Nat.reduceEqDiff, reduceCtorEq, reduceIte, intD]
  repeat ((with_reducible refine And.intro ?_ ?_); (focus (first | omega | (simp only [lenR]; omega) | (refine qq ?_; rfl) | (refine dq ?_; kernel_rfl) | (intros; simp_all; done))))
  refine ⟨_, _, ret_data rfl (x := .sl ((partsF x y path).map PartT.toD)) ?_, rfl, rfl⟩
  rw [partsF, if_pos h1]; rfl
 ·have h1 : ¬ (0 < x.count ∧ 0 < y.count) := by
   rintro ⟨g1, g2⟩
   simp [g1, g2] at h1
  rw [partsF, if_neg h1]
  refine ifC.mk (fun h2 => ?_) (fun h2 => ?_)
  ·have h2 : 0 < x.count := of_decide_eq_true h2
   have h3 : ¬ 0 < y.count := fun h => h1 ⟨h2, h⟩
   rw [if_pos h2, if_neg h3]
   repeat ((with_reducible refine And.intro ?_ ?_); (focus (first | omega | (simp only [lenR]; omega) | (refine qq ?_; rfl) | (refine dq ?_; kernel_rfl) | (intros; simp_all; done))))
   simp only [zP, seval, Nat.reduceLeDiff, Nat.reduceEqDiff, reduceCtorEq, reduceIte, intD, @a_wrap (0 - x.self) (by omega)]
   refine callF_blk1 2 (k_part1 path sGone (0 - x.self) 1 ⟨by omega, by omega⟩ ⟨by omega, by omega⟩) (fun s => rfl) rfl trivial ?_
   simp only [zP, seval, Nat.reduceLeDiff, Nat.reduceEqDiff, reduceCtorEq, reduceIte, intD, (show ¬ 0 < y.count by omega)]
   repeat ((with_reducible refine And.intro ?_ ?_); (focus (first | omega | (simp only [lenR]; omega) | (refine qq ?_; rfl) | (refine dq ?_; kernel_rfl) | (intros; simp_all; done))))
   (try simp only [zP, seval, Nat.reduceLeDiff, Nat.reduceEqDiff, reduceCtorEq, reduceIte, intD, (show ¬ 0 < y.count by omega)])
   refine ⟨_, _, ret_data rfl (x := .sl ([mkP path sGone (-x.self) 1].map PartT.toD)) ?_, ?_, rfl⟩
   ·rw [← Int.zero_sub]; rfl
   ·rfl
  ·have h2 : ¬ 0 < x.count := of_decide_eq_false h2
   rw [if_neg h2]
   refine ifC.mk (fun h3 => ?_) (fun h3 => ?_)
   ·have h3 : 0 < y.count := of_decide_eq_true h3
    rw [if_pos h3]
    repeat ((with_reducible refine And.intro ?_ ?_); (focus (first | omega | (simp only [lenR]; omega) | (refine qq ?_; rfl) | (refine dq ?_; kernel_rfl) | (intros; simp_all; done))))
    refine callF_blk1 2 (k_part1 path sNew y.self 1 ⟨by omega, by omega⟩ ⟨by omega, by omega⟩) (fun s => rfl) rfl trivial ?_
    simp only [zP, seval, Nat.reduceLeDiff, Nat.reduceEqDiff, reduceCtorEq, reduceIte, intD]
    repeat ((with_reducible refine And.intro ?_ ?_); (focus (first | omega | (simp only [lenR]; omega) | (refine qq ?_; rfl) | (refine dq ?_; kernel_rfl) | (intros; simp_all; done))))
    refine ⟨_, _, ret_data rfl (x := .sl ([mkP path sNew y.self 1].map PartT.toD)) rfl, rfl, rfl⟩
   ·have h3 : ¬ 0 < y.count := of_decide_eq_false h3
    rw [if_neg h3]
    refine ⟨_, _, ret_data rfl (x := .sl []) rfl, rfl, rfl⟩

def keepP (x : PartT) : Bool := !(x.value.n == 0)
theorem k_del1 (x : PartT) : Pure Tryz.prog Gl 25 [.d x.toD] (.d (.bool (x.value.n == 0))) := by
 refine Pure.of1 ?_
 refine acalls_of Tryz.func25 rfl rfl (by simp [Tryz.ntmps25]) (evC_sound rfl _ _ _ _ ?_)
 simp only [Tryz.ntmps25, Tryz.results25, argEnv, List.length_nil]
 simp only [zP, seval, Nat.reduceLeDiff, Nat.reduceEqDiff, reduceCtorEq, reduceIte, intD]
 repeat ((with_reducible refine And.intro ?_ ?_); (focus (first | omega | (simp only [lenR]; omega) | (refine qq ?_; rfl) | (refine dq ?_; kernel_rfl) | (intros; simp_all; done))))
 exact ⟨_, _, ret_d, rfl, rfl⟩
theorem k_delIdx (l : List PartT) (hl : l.length ≤ 100000) : ACalls Tryz.prog Gl 50 [.osl 0 0 l.length, .fn 25 []] [.arr 4 (l.map PartT.toD)]
  (fun r s => (∃ j : Int, r = .d (.int .i64 j) ∧ ((j = -1 ∧ l.filter keepP = l) ∨ ∃ k : Nat, j = k ∧ k < l.length ∧ (l.take (k + 1)).filter keepP = l.take k)) ∧ s = [.arr 4 (l.map PartT.toD)]) := by
 refine acalls_of Tryz.func50 rfl rfl (by simp [Tryz.ntmps50]) (evC_sound rfl _ _ _ _ ?_)
 simp only [Tryz.ntmps50, Tryz.results50, argEnv, List.length_nil]
 simp only [zP, seval, Nat.reduceLeDiff, Nat.reduceEqDiff, reduceCtorEq, reduceIte, intD]
 refine for_of l.length (fun k => [(0, .osl 0 0 l.length), (1, .fn 25 []), (7, .d (.int .i64 l.length)), (8, .d (.int .i64 k))]) (fun _ => [.arr 4 (l.map PartT.toD)]) (fun k => (l.take k).filter keepP = l.take k) rfl ?_ ?_
 ·refine weak_to [] [0] rfl (by simp) ?_ rfl
  simp only [zP, seval, Nat.reduceLeDiff, Nat.reduceEqDiff, reduceCtorEq, reduceIte, intD, Int.cast_ofNat_Int]
  try rfl
 ·intro k hi hk
  by_cases h : k < l.length
  ·obtain ⟨x, hx⟩ : ∃ x, x = l.getD k default := ⟨_, rfl⟩
   have eg : (l.map PartT.toD).getD k default = x.toD := by rw [a_getD _ _ _ h, ← hx]
   have hst := take_step l k h
   rw [← hx] at hst
   simp only [zP, seval, Nat.reduceLeDiff, Nat.reduceEqDiff, reduceCtorEq, reduceIte, intD, (show (k:Int) < l.length by omega), h, eg]
   repeat ((with_reducible refine And.intro ?_ ?_); (focus (first | omega | (simp only [lenR]; omega) | (refine qq ?_; rfl) | (refine dq ?_; kernel_rfl) | (intros; simp_all; done))))
   refine callF_pure (k_del1 x) ?_
   simp only [zP, seval, Nat.reduceLeDiff, Nat.reduceEqDiff, reduceCtorEq, reduceIte, intD]
   refine ifC.mk (fun hc => ?_) (fun hc => ?_)
   ·refine ⟨_, _, weakR_to [] [0] rfl (by simp) (show renV _ _ _ = AV.d _ from rfl) rfl, ⟨k, rfl, .inr ⟨k, rfl, h, ?_⟩⟩, rfl⟩
    have hk0 : keepP x = false := by rw [keepP, hc]; rfl
    rw [hst, List.filter_append, hi, List.filter_cons_of_neg (by rw [hk0]; simp)]
    simp
   ·have hk1 : keepP x = true := by rw [keepP, hc]; rfl
    refine ⟨by rw [hst, List.filter_append, hi, List.filter_cons_of_pos hk1]; rfl, ?_⟩
    refine weak_to [] [0] rfl (by simp) ?_ rfl
    simp only [zP, seval, Nat.reduceLeDiff, Nat.reduceEqDiff, reduceCtorEq, reduceIte, intD, @a_wrap ((k:Int) + 1) (by omega)]
    try rfl
  ·have : k = l.length := by omega
   subst this
   rw [List.take_length] at hi
   simp only [zP, seval, Nat.reduceLeDiff, Nat.reduceEqDiff, reduceCtorEq, reduceIte, intD, (show ¬ (l.length:Int) < l.length by omega)]
   exact ⟨_, _, weakR_to [] [0] rfl (by simp) (show renV _ _ _ = AV.d _ from rfl) rfl, ⟨-1, rfl, .inl ⟨rfl, hi⟩⟩, rfl⟩
theorem fil_lt {l : List PartT} {k j : Nat} (hk : k < l.length) (h : (l.take (k + 1)).filter keepP = l.take k) (hj : k < j) (hjl : j ≤ l.length) : ((l.take j).filter keepP).length < j := by
 have e : l.take j = l.take (k + 1) ++ (l.take j).drop (k + 1) := by
  conv => lhs; rw [← List.take_append_drop (k + 1) (l.take j)]
  rw [List.take_take, Nat.min_eq_left (by omega)]
 have h2 := List.length_filter_le keepP ((l.take j).drop (k + 1))
 rw [e, List.filter_append, List.length_append, h, List.length_take]
 rw [List.length_drop, List.length_take] at h2
 omega
theorem set_take {xs : List PartT} {i : Nat} (h : i < xs.length) (x : PartT) : (xs.set i x).take (i + 1) = xs.take i ++ [x] := by
 rw [take_step _ i (by rw [List.length_set]; exact h)]
 congr 1
 ·apply List.ext_getElem?
  intro k
  rcases Nat.lt_or_ge k i with hk | hk
  ·rw [List.getElem?_take_of_lt hk, List.getElem?_take_of_lt hk, List.getElem?_set_ne (by omega)]
  ·rw [List.getElem?_eq_none (by rw [List.length_take]; omega), List.getElem?_eq_none (by rw [List.length_take]; omega)]
 ·rw [List.getD_eq_getElem?_getD, List.getElem?_set_self h]; rfl
theorem set_drop {xs : List PartT} {i j : Nat} (h : i < j) (x : PartT) : (xs.set i x).drop j = xs.drop j := by
 apply List.ext_getElem?
 intro k
 rw [List.getElem?_drop, List.getElem?_drop, List.getElem?_set_ne (by omega)]
theorem clear_take (xs : List D) (i n : Nat) (z : D) : (clearL xs i n z).take i = xs.take i := by
 apply List.ext_getElem?
 intro k
 rcases Nat.lt_or_ge k i with hk | hk
 ·rw [List.getElem?_take_of_lt hk, List.getElem?_take_of_lt hk]
  rcases Nat.lt_or_ge k xs.length with h | h
  ·rw [clearL_get _ _ _ _ _ h, if_neg (by omega), List.getD_eq_getElem?_getD, List.getElem?_eq_getElem h]; rfl
  ·rw [List.getElem?_eq_none (by rw [clearL_length]; exact h), List.getElem?_eq_none h]
 ·rw [List.getElem?_eq_none (by rw [List.length_take]; omega), List.getElem?_eq_none (by rw [List.length_take]; omega)]
theorem k_Delete (l : List PartT) (hl : l.length ≤ 100000) : ACalls Tryz.prog Gl 24 [.osl 0 0 l.length, .fn 25 []] [.arr 4 (l.map PartT.toD)]
  (fun r s => r = .d (.sl ((l.filter keepP).map PartT.toD)) ∧ ∃ ys, s = [.frz 4 ys]) := by
 refine acalls_of Tryz.func24 rfl rfl (by simp [Tryz.ntmps24]) (evC_sound rfl _ _ _ _ ?_)
 simp only [Tryz.ntmps24, Tryz.results24, argEnv, List.length_nil]
 simp only [zP, seval, Nat.reduceLeDiff, Nat.reduceEqDiff, reduceCtorEq, reduceIte, intD]
 refine callF_go ((k_delIdx l hl).mono fun r s hr => ?_)
 obtain ⟨⟨c, rfl, hcs⟩, rfl⟩ := hr
 rcases hcs with ⟨rfl, hn⟩ | ⟨k, rfl, hk, hf⟩
 ·simp only [zP, seval, Nat.reduceLeDiff, Nat.reduceEqDiff, reduceCtorEq, reduceIte, intD]
  rw [hn]
  refine ⟨_, _, weakR_toD (by rfl), ?_, _, rfl⟩
  show AV.d (D.sl (List.take l.length (l.map PartT.toD))) = _
  rw [take_all]
 ·have e0 : ((k : Int) == -1) = false := by rw [beq_eq_false_iff_ne]; omega
  simp only [zP, seval, Nat.reduceLeDiff, Nat.reduceEqDiff, reduceCtorEq, reduceIte, intD, e0, @a_wrap ((k:Int) + 1) (by omega)]
  repeat ((with_reducible refine And.intro ?_ ?_); (focus (first | omega | (simp only [lenR]; omega) | (refine qq ?_; rfl) | (refine dq ?_; kernel_rfl) | (intros; simp_all; done))))
  refine loop_of (τ := Nat × List PartT) (fun u => [(0, .osl 0 0 l.length), (1, .fn 25 []), (5, .d (.int .i64 (((l.take u.1).filter keepP).length : Nat))), (6, .d (.int .i64 u.1))]) (fun u => [.arr 4 (u.2.map PartT.toD)])
   (fun u => k < u.1 ∧ u.1 ≤ l.length ∧ u.2.length = l.length ∧ u.2.take ((l.take u.1).filter keepP).length = (l.take u.1).filter keepP ∧ u.2.drop u.1 = l.drop u.1) (fun u => l.length - u.1) (k + 1, l) ?_ ?_ ?_
  ·refine ⟨by simp only; omega, hk, rfl, ?_, rfl⟩
   simp only
   rw [hf, List.length_take, Nat.min_eq_left (by omega)]
  ·have e1 : ((l.take (k + 1)).filter keepP).length = k := by rw [hf, List.length_take]; omega
   rw [e1]
   refine weak_to [] [0] rfl (by simp) ?_ rfl
   simp only [zP, seval, Nat.reduceLeDiff, Nat.reduceEqDiff, reduceCtorEq, reduceIte, intD]
   try rfl
  ·rintro ⟨j, xs⟩ ⟨hkj, hj, hxl, hpre, hdr⟩
   simp only at hkj hj hxl hpre hdr
   obtain ⟨i, hi⟩ : ∃ i, i = ((l.take j).filter keepP).length := ⟨_, rfl⟩
   have hij := fil_lt hk hf hkj hj
   rw [← hi] at hpre hij
   rw [← hi]
   by_cases h : j < l.length
   ·obtain ⟨x, hx⟩ : ∃ x, x = l.getD j default := ⟨_, rfl⟩
    have hxx : xs.getD j default = x := by
     have e : xs[j]? = l[j]? := by
      have := congrArg (fun z => z[0]?) hdr
      simpa using this
     rw [List.getD_eq_getElem?_getD, e, hx, List.getD_eq_getElem?_getD]
    have eg : (xs.map PartT.toD).getD j default = x.toD := by rw [a_getD _ _ _ (by omega), hxx]
    have hst := take_step l j h
    rw [← hx] at hst
    simp only [zP, seval, Nat.reduceLeDiff, Nat.reduceEqDiff, reduceCtorEq, reduceIte, intD, (show (j:Int) < l.length by omega), h, eg, hxl]
    repeat ((with_reducible refine And.intro ?_ ?_); (focus (first | omega | (simp only [lenR]; omega) | (refine qq ?_; rfl) | (refine dq ?_; kernel_rfl) | (intros; simp_all; done))))
    refine callF_pure (k_del1 x) ?_
    simp only [zP, seval, Nat.reduceLeDiff, Nat.reduceEqDiff, reduceCtorEq, reduceIte, intD]
    have hdr2 : xs.drop (j + 1) = l.drop (j + 1) := by
     have := congrArg (List.drop 1) hdr
     rwa [List.drop_drop, List.drop_drop] at this
    refine ifC.mk (fun hc => ?_) (fun hc => ?_)
    ·have hk1 : keepP x = true := by rw [keepP]; exact hc
     have hfl : (l.take (j + 1)).filter keepP = (l.take j).filter keepP ++ [x] := by rw [hst, List.filter_append, List.filter_cons_of_pos hk1]; rfl
     have hfn : ((l.take (j + 1)).filter keepP).length = i + 1 := by rw [hfl, List.length_append, ← hi]; rfl
     repeat ((with_reducible refine And.intro ?_ ?_); (focus (first | omega | (simp only [lenR]; omega) | (refine qq ?_; rfl) | (refine dq ?_; kernel_rfl) | (intros; simp_all; done))))
     refine ⟨(j + 1, xs.set i x), ⟨by simp only; omega, h, by simp only [List.length_set]; exact hxl, ?_, ?_⟩, by simp only; omega, ?_⟩
     ·simp only
      rw [hfn, set_take (by omega), hpre, hfl]
     ·simp only
      rw [set_drop (by omega), hdr2]
     ·simp only [hfn, List.map_set]
      refine weak_to [] [0] rfl (by simp) ?_ rfl
      simp only [zP, seval, Nat.reduceLeDiff, Nat.reduceEqDiff, reduceCtorEq, reduceIte, intD, @a_wrap ((j:Int) + 1) (by omega), @a_wrap ((i:Int) + 1) (by omega)]
      try rfl
    ·have hk0 : keepP x = false := by rw [keepP]; exact hc
     have hfl : (l.take (j + 1)).filter keepP = (l.take j).filter keepP := by rw [hst, List.filter_append, List.filter_cons_of_neg (by rw [hk0]; simp)]; simp
     refine ⟨(j + 1, xs), ⟨by simp only; omega, h, hxl, ?_, hdr2⟩, by simp only; omega, ?_⟩
     ·simp only
      rw [hfl, ← hi, hpre]
     ·simp only [hfl, ← hi]
      refine weak_to [] [0] rfl (by simp) ?_ rfl
      simp only [zP, seval, Nat.reduceLeDiff, Nat.reduceEqDiff, reduceCtorEq, reduceIte, intD, @a_wrap ((j:Int) + 1) (by omega)]
      try rfl
   ·have hjl : j = l.length := by omega
    subst hjl
    rw [List.take_length] at hpre hi
    simp only [zP, seval, Nat.reduceLeDiff, Nat.reduceEqDiff, reduceCtorEq, reduceIte, intD, (show ¬ (l.length:Int) < l.length by omega), (show (i:Int) ≤ l.length by omega), hxl, (show i ≤ l.length by omega)]
    repeat ((with_reducible refine And.intro ?_ ?_); (focus (first | omega | (simp only [lenR]; omega) | (refine qq ?_; rfl) | (refine dq ?_; kernel_rfl) | (intros; simp_all; done))))
    refine ⟨_, _, weakR_toD (by rfl), ?_, _, rfl⟩
    show AV.d (D.sl (List.take i (clearL (xs.map PartT.toD) _ _ _))) = _
    rw [clear_take, ← List.map_take, hpre]

def begF (p with_ : List (List UInt8)) : Bool := decide (with_.length ≤ p.length) && decide (p.take with_.length = with_)
structure PtOk (x : PartT) : Prop where
 v : x.value.In
 p : x.path.length ≤ 2000
theorem k_Begins (p w : List (List UInt8)) (hp : p.length < 1000000) (hw : w.length < 1000000) : Pure Tryz.prog Gl 33 [.d (.sl (p.map .str)), .d (.sl (w.map .str))] (.d (.bool (begF p w))) := by
 refine Pure.of2 ?_
 refine acalls_of Tryz.func33 rfl rfl (by simp [Tryz.ntmps33]) (evC_sound rfl _ _ _ _ ?_)
 simp only [Tryz.ntmps33, Tryz.results33, argEnv, List.length_nil]
 simp only [zP, seval, Nat.reduceLeDiff, Nat.reduceEqDiff, reduceCtorEq, reduceIte, intD]
 refine ifC.mk (fun h1 => ?_) (fun h1 => ?_)
 ·have h1 : p.length < w.length := by simpa using h1
  refine ⟨_, _, ret_d, ?_, rfl⟩
  rw [begF, decide_eq_false (by omega), Bool.false_and]
 ·have h1 : w.length ≤ p.length := by simp at h1; omega
  refine for_of w.length (fun j => [(0, .d (.sl (p.map .str))), (1, .d (.sl (w.map .str))), (5, .d (.int .i64 j))]) (fun _ => []) (fun j => p.take j = w.take j) rfl ?_ ?_
  ·refine weak_to [] [] rfl List.nodup_nil ?_ rfl
   simp only [zP, seval, Nat.reduceLeDiff, Nat.reduceEqDiff, reduceCtorEq, reduceIte, intD, Int.cast_ofNat_Int]
  ·intro j hi hjl
   by_cases hj : j < w.length
   ·have hj2 : j < p.length := by omega
    have e1 := take_step p j hj2
    have e2 := take_step w j hj
    have g1 : (p.map D.str).getD j default = .str (p.getD j default) := by simp [hj2]
    have g2 : (w.map D.str).getD j default = .str (w.getD j default) := by simp [hj]
    simp only [zP, seval, Nat.reduceLeDiff, Nat.reduceEqDiff, reduceCtorEq, reduceIte, intD, (show (j:Int) < p.length by omega), (show (j:Int) < w.length by omega), hj, hj2, g1, g2]
    repeat ((with_reducible refine And.intro ?_ ?_); (focus (first | omega | (simp only [lenR]; omega) | (refine qq ?_; rfl) | (refine dq ?_; kernel_rfl) | (intros; simp_all; done))))
    refine ifC.mk (fun h2 => ?_) (fun h2 => ?_)
    ·have h2 : p.getD j default ≠ w.getD j default := by simpa using h2
     refine ⟨_, _, ret_d, ?_, rfl⟩
     rw [begF, decide_eq_true h1, Bool.true_and, decide_eq_false]
     intro e
     apply h2
     have := congrArg (fun z : List (List UInt8) => z.getD j default) e
     rw [← this, List.getD_eq_getElem?_getD, List.getD_eq_getElem?_getD, List.getElem?_take_of_lt hj]
    ·have h2 : p.getD j default = w.getD j default := by simpa using h2
     refine ⟨by rw [e1, e2, hi, h2], ?_⟩
     refine weak_to [] [] rfl List.nodup_nil ?_ rfl
     simp only [zP, seval, Nat.reduceLeDiff, Nat.reduceEqDiff, reduceCtorEq, reduceIte, intD, @a_wrap ((j:Int) + 1) (by omega)]
   ·have : j = w.length := by omega
    subst this
    simp only [zP, seval, Nat.reduceLeDiff, Nat.reduceEqDiff, reduceCtorEq, reduceIte, intD, (show ¬ (w.length:Int) < w.length by omega)]
    refine ⟨_, _, ret_d, ?_, rfl⟩
    rw [begF, decide_eq_true h1, Bool.true_and, hi, List.take_length, decide_eq_true rfl]
end YtmedpoeeoihfmaaGreatDoor
end Go.Proofs

set_option maxRecDepth 100000
namespace Go.Proofs
open Go.AM
namespace YtmedpoeeoihfmaaGreatDoor
def sgn (v : Int) : Int := if v = 0 then 0 else if v < 0 then -1 else 1
def keyF (x y : FracT) : Int := x.n * y.q - y.n * x.q
theorem val_cross {x y : FracT} (hx : x.Ok) (hy : y.Ok) : valG (crossG x (negF y)) = keyF x y := by
 obtain ⟨k, e⟩ := hy.neg
 unfold crossG keyF
 rw [valG_sum, mul_sign (by have := k.d1; omega), mul_sign (by have := hx.d1; omega), e, Int.neg_mul]
 show x.n * y.q + _ = _
 omega
theorem sgn_val (p : Bool × Nat) : sgn (valG p) = if p.2 = 0 then 0 else if p.1 = true then -1 else 1 := by
 obtain ⟨m, M⟩ := p
 unfold sgn valG
 simp only
 by_cases h : M = 0
 ·subst h
  cases m <;> rfl
 ·rw [if_neg h]
  cases m
  ·simp only [Bool.false_eq_true, if_false]
   rw [if_neg (by omega), if_neg (by omega)]
  ·simp only [if_true]
   rw [if_neg (by omega), if_pos (by omega)]
theorem cmp_sgn (a b : FracT) : cmpS a b = sgn (keyF (usF a) (usF b)) := by
 rw [← val_cross (usF_ok a) (usF_ok b), sgn_val]
 rfl
theorem sgn_le {v : Int} : sgn v ≤ 0 ↔ v ≤ 0 := by
 unfold sgn; split
 ·omega
 ·split <;> omega
theorem sgn_zero {v : Int} : sgn v = 0 ↔ v = 0 := by
 unfold sgn; split
 ·omega
 ·split <;> omega
theorem sgn_neg (v : Int) : sgn (-v) = -(sgn v) := by
 unfold sgn
 by_cases h : v = 0
 ·subst h; rfl
 ·rw [if_neg h, if_neg (by omega)]
  by_cases h2 : v < 0
  ·rw [if_pos h2, if_neg (by omega)]; rfl
  ·rw [if_neg h2, if_pos (by omega)]
theorem sgn_bd (v : Int) : -1 ≤ sgn v ∧ sgn v ≤ 1 := by
 unfold sgn; split
 ·omega
 ·split <;> omega
theorem cmp_self (a : FracT) : cmpS a a = 0 := by
 rw [cmp_sgn, sgn_zero]; unfold keyF; omega
theorem cmp_flip (a b : FracT) : cmpS a b = -(cmpS b a) := by
 rw [cmp_sgn, cmp_sgn, ← sgn_neg]
 congr 1
 unfold keyF; omega
theorem cmp_trans {a b c : FracT} (h1 : cmpS a b ≤ 0) (h2 : cmpS b c ≤ 0) : cmpS a c ≤ 0 := by
 rw [cmp_sgn, sgn_le] at *
 have xo := usF_ok a
 have yo := usF_ok b
 have zo := usF_ok c
 generalize usF a = x at *
 generalize usF b = y at *
 generalize usF c = z at *
 unfold keyF at *
 have px := xo.d1
 have py := yo.d1
 have pz := zo.d1
 have e1 : x.n * y.q * z.q ≤ y.n * x.q * z.q := Int.mul_le_mul_of_nonneg_right (by omega) (by omega)
 have e2 : y.n * z.q * x.q ≤ z.n * y.q * x.q := Int.mul_le_mul_of_nonneg_right (by omega) (by omega)
 have e3 : x.n * z.q * y.q ≤ z.n * x.q * y.q := by
  rw [Int.mul_right_comm x.n, Int.mul_right_comm z.n]
  rw [Int.mul_right_comm y.n] at e1
  omega
 have := Int.le_of_mul_le_mul_right e3 (by omega)
 omega

theorem normS_in (m : Bool) (M d : Nat) : (normS m M d).1.In := by
 unfold normS
 split
 ·rename_i h
  generalize M / Nat.gcd M d = A at h ⊢
  generalize d / Nat.gcd M d = B at h ⊢
  refine ⟨?_, ?_, ?_, ?_⟩ <;> (simp only; (try split) <;> omega)
 ·exact ⟨by decide, by decide, by decide, by decide⟩
theorem normS_ok {m : Bool} {M d : Nat} (hd : 0 < d) (h : (normS m M d).2 = true) : okF (normS m M d).1 = true := by
 unfold normS at h ⊢
 split at h
 ·rename_i h1
  rw [if_pos h1]
  have g0 : 0 < Nat.gcd M d := Nat.gcd_pos_of_pos_right _ hd
  have b0 : 0 < d / Nat.gcd M d := Nat.div_pos (Nat.gcd_le_right _ hd) g0
  have cop : Nat.gcd (M / Nat.gcd M d) (d / Nat.gcd M d) = 1 := Nat.coprime_div_gcd_div_gcd g0
  generalize M / Nat.gcd M d = A at h1 cop ⊢
  generalize d / Nat.gcd M d = B at h1 cop b0 ⊢
  rw [okF_iff]
  refine ⟨by simp only; omega, by simp only; omega, by simp only; split <;> omega, by simp only; split <;> omega, ?_⟩
  simp only
  have e : (if m = true then -(A : Int) else (A : Int)).natAbs = A := by split <;> omega
  rw [e, Int.natAbs_natCast]; exact cop
 ·cases h
theorem ofS_ok {n d : Int} (h : (ofS n d).2 = true) : okF (ofS n d).1 = true := by
 unfold ofS at h ⊢
 split at h
 ·cases h
 ·rename_i h1
  rw [if_neg h1]
  exact normS_ok (by omega) h
def lcS (m : Nat) (a : FracT) : Nat := m / Nat.gcd m a.q.natAbs * a.q.natAbs
def negsF (l : List FracT) : List FracT := l.map negF
def numF (m : Nat) (l : List FracT) : Int := (l.map fun a => a.n * ((m / a.q.natAbs : Nat) : Int)).sum

def ndAt (l : List NodeT) (i : Int) : NodeT := if i < 0 then ⟨0, [], 0, 0, 0⟩ else l.getD i.toNat default
def pthP (a b : List NodeT) (p : PairT) : List (List UInt8) := if 0 ≤ p.b then pathN b p.b.toNat else pathN a p.a.toNat
def contP (a b : List NodeT) (p : PairT) : List PartT := partsF (ndAt a p.a) (ndAt b p.b) (pthP a b p)
def contL (a b : List NodeT) (l : List PairT) : List PartT := l.flatMap (contP a b)
def eOfF (a b : List NodeT) : List PartT × Int := if checkF a = 0 then (if checkF b = 0 then ((contL a b (pairsOf a b)).filter keepP, 0) else ([], checkF b)) else ([], checkF a)
theorem ofS_some {n d : Int} (hd : 1 ≤ d) (hd2 : d ≤ 1000000000000000) (h1 : -4611686018427387904 ≤ n) (h2 : n ≤ 4611686018427387904) : (ofS n d).2 = true ∧ (ofS n d).1.q.natAbs ∣ d.natAbs := by
 unfold ofS
 rw [if_neg (by omega), normS_made]
 have g0 : 0 < Nat.gcd n.natAbs d.natAbs := Nat.gcd_pos_of_pos_right _ (by omega)
 have l1 : n.natAbs / Nat.gcd n.natAbs d.natAbs ≤ n.natAbs := Nat.div_le_self _ _
 have l2 : d.natAbs / Nat.gcd n.natAbs d.natAbs ≤ d.natAbs := Nat.div_le_self _ _
 unfold madeP
 rw [if_pos ⟨by omega, by omega⟩]
 refine ⟨rfl, ?_⟩
 show ((d.natAbs / Nat.gcd n.natAbs d.natAbs : Nat) : Int).natAbs ∣ _
 rw [Int.natAbs_natCast]
 exact Nat.div_dvd_of_dvd (Nat.gcd_dvd_right _ _)
def fval (m : Nat) (f : FracT) : Int := f.n * ((m / f.q.natAbs : Nat) : Int)
structure NdV (x : NodeT) : Prop where
 ok : NdOk x
 z : x.count = 0 → x.self = 0
theorem parts_ok {x y : NodeT} (hx : NdV x) (hy : NdV y) (path : List (List UInt8)) : ∀ v ∈ partsF x y path, okF v.value = true ∧ v.path = path ∧ (v.value.q.natAbs ∣ 1 ∨ (1 ≤ x.count ∧ v.value.q.natAbs ∣ x.count.natAbs)) := by
 obtain ⟨⟨x1, x2, x3, x4⟩, x5⟩ := hx
 obtain ⟨⟨y1, y2, y3, y4⟩, y5⟩ := hy
 have p1 := mul_abs (a := y.count - x.count) (b := x.self) (A := 20000) (B := 100000000000000) (by omega) (by omega)
 have p2 := mul_abs (a := y.self) (b := x.count) (A := 100000000000000) (B := 20000) (by omega) (by omega)
 have p3 := mul_abs (a := y.count) (b := x.self) (A := 20000) (B := 100000000000000) (by omega) (by omega)
 have q2 := Int.mul_nonneg y3 x1
 have q3 := Int.mul_nonneg y1 x3
 simp only [Nat.reduceMul] at p1 p2 p3
 have key : ∀ (c : List UInt8) (n d : Int), 1 ≤ d → d ≤ 1000000000000000 → -4611686018427387904 ≤ n → n ≤ 4611686018427387904 → okF (mkP path c n d).value = true ∧ (mkP path c n d).path = path ∧ (mkP path c n d).value.q.natAbs ∣ d.natAbs := fun c n d h1 h2 h3 h4 => by
  obtain ⟨s1, s2⟩ := ofS_some (n := n) (d := d) h1 h2 h3 h4
  exact ⟨ofS_ok s1, rfl, s2⟩
 intro v hv
 unfold partsF at hv
 by_cases h : 0 < x.count ∧ 0 < y.count
 ·rw [if_pos h] at hv
  rcases List.mem_cons.1 hv with rfl | hv
  ·obtain ⟨k1, k2, k3⟩ := key sCount ((y.count - x.count) * x.self) x.count (by omega) (by omega) (by omega) (by omega)
   exact ⟨k1, k2, .inr ⟨by omega, k3⟩⟩
  ·obtain rfl := List.mem_singleton.1 hv
   obtain ⟨k1, k2, k3⟩ := key sMean (y.self * x.count - y.count * x.self) x.count (by omega) (by omega) (by omega) (by omega)
   exact ⟨k1, k2, .inr ⟨by omega, k3⟩⟩
 ·rw [if_neg h] at hv
  rcases List.mem_append.1 hv with hv | hv
  ·split at hv
   ·obtain rfl := List.mem_singleton.1 hv
    obtain ⟨k1, k2, k3⟩ := key sGone (-x.self) 1 (by omega) (by omega) (by omega) (by omega)
    exact ⟨k1, k2, .inl k3⟩
   ·cases hv
  ·split at hv
   ·obtain rfl := List.mem_singleton.1 hv
    obtain ⟨k1, k2, k3⟩ := key sNew y.self 1 (by omega) (by omega) (by omega) (by omega)
    exact ⟨k1, k2, .inl k3⟩
   ·cases hv
def wA (g : Nat → Int) (i : Int) : Int := if i < 0 then 0 else g i.toNat
def comN : List NodeT → Nat → Bool
 | [], _ => true
 | x :: l, m => if x.count < 1 then comN l m else if 1000000000000000 / m < x.count.toNat / Nat.gcd m x.count.toNat then false else comN l (m * (x.count.toNat / Nat.gcd m x.count.toNat))
end YtmedpoeeoihfmaaGreatDoor
end Go.Proofs

set_option maxRecDepth 100000
namespace Go.Proofs
open Go.AM
namespace YtmedpoeeoihfmaaGreatDoor
variable {Gl : Globs} {τ : Sto}
theorem zS : type_of% (And.intro @vcRules (And.intro @dRules (And.intro @bRules @tyRules))) := And.intro @vcRules (And.intro @dRules (And.intro @bRules @tyRules))
theorem swapRange_spec (Dm : D → Prop) (hD : ∀ x, Dm x → El 4 x) (xs : List D) (n a b k : Nat) (fv : FuncId) (caps : List AV) (hx : ∀ y ∈ xs, Dm y) (hn : n ≤ xs.length) (hN : n < 1000000) (ha : a + k ≤ n) (hb : b + k ≤ n) (hab : a + k ≤ b ∨ b + k ≤ a) :
  ACalls Tryz.prog Gl 119 [.osl 0 0 n, .d (.int .i64 a), .d (.int .i64 b), .d (.int .i64 k), .fn fv caps] (.arr 4 xs :: τ) (fun r s => r = .tup [] ∧ ∃ ys, s = (.arr 4 ys :: τ) ∧ Arr Dm xs ys (swapI a b k)) := by
 refine acalls_of Tryz.func119 rfl rfl (by simp [Tryz.ntmps119]) (evC_sound rfl _ _ _ _ ?_)
 simp only [Tryz.ntmps119, Tryz.results119, argEnv, List.length_nil]
 simp only [zS, seval, Nat.reduceLeDiff, Nat.reduceEqDiff, reduceCtorEq, reduceIte]
 refine loop_of (τ := Nat × List D) (fun x => [(0, .osl 0 0 n), (1, .d (.int .i64 a)), (2, .d (.int .i64 b)), (3, .d (.int .i64 k)), (10, .d (.int .i64 x.1))]) (fun x => (.arr 4 x.2 :: τ)) (fun x => x.1 ≤ k ∧ Arr Dm xs x.2 (swapI a b x.1)) (fun x => k - x.1) (0, xs) ⟨Nat.zero_le _, rfl, hx, fun i hi => by unfold swapI; rw [if_neg (by omega), if_neg (by omega)]⟩ ?_ ?_
 ·refine weak_sub ?_
  simp only [zS, seval, Nat.reduceLeDiff, Nat.reduceEqDiff, reduceCtorEq, reduceIte]
  all_goals rfl
 ·intro x hi
  obtain ⟨j, ys⟩ := x
  obtain ⟨hj, hA⟩ := hi
  simp only at hj hA
  simp only [zS, seval, Nat.reduceLeDiff, Nat.reduceEqDiff, reduceCtorEq, reduceIte]
  refine ifC.mk (fun h => ?_) (fun h => ?_)
  ·have h : j < k := by simpa using h
   have e1 : IntKind.i64.wrap ((a : Int) + j) = ((a + j : Nat) : Int) := by rw [wrap64 (by omega) (by omega)]; omega
   have e2 : IntKind.i64.wrap ((b : Int) + j) = ((b + j : Nat) : Int) := by rw [wrap64 (by omega) (by omega)]; omega
   have hl := hA.len
   have l1 := El.at hD hA.el (i := a + j) (by omega)
   have l2 := El.at hD hA.el (i := b + j) (by omega)
   simp only [zS, seval, Nat.reduceLeDiff, Nat.reduceEqDiff, reduceCtorEq, reduceIte, e1, e2, l1, l2]
   refine ⟨.inl (by kernel_rfl), ?_⟩
   have c1 : ((b + j : Nat) : Int) < (n : Int) := by omega
   have c2 : ((a + j : Nat) : Int) < (n : Int) := by omega
   have c3 : b + j < ys.length := by omega
   have c4 : a + j < ys.length := by omega
   simp only [c1, c2, c3, c4, true_and]
   refine ⟨(j + 1, _), ⟨by omega, (hA.swap (i := a + j) (j := b + j) (by omega) (by omega)).congr fun i _ => ?_⟩, by simp only; omega, weak_sub ?_⟩
   ·exact swapI_step a b j i (by omega)
   ·simp only [zS, seval, Nat.reduceLeDiff, Nat.reduceEqDiff, reduceCtorEq, reduceIte]
    rw [wrap64 (by omega) (by omega)]
    rfl
  ·have h : ¬ j < k := by simpa using h
   have : j = k := by omega
   subst this
   exact ⟨_, _, WeakR.refl _ _ _, rfl, ys, rfl, hA⟩

theorem rot_last (a m i p : Nat) (h : i ≤ m) : swapI (m - i) m i p = rotI (m - i) m (m + i) p := by
 unfold swapI rotI
 repeat' split
 all_goals omega
theorem rot_left (m i j p : Nat) (h : j < i) (hm : i ≤ m) : swapI (m - i) m j (rotI (m - (i - j)) m (m + j) p) = rotI (m - i) m (m + j) p := by
 unfold swapI rotI
 repeat' split
 all_goals omega
theorem rot_right (m i j p : Nat) (h : i < j) (hm : i ≤ m) : swapI (m - i) (m + j - i) i (rotI (m - i) m (m + (j - i)) p) = rotI (m - i) m (m + j) p := by
 unfold swapI rotI
 repeat' split
 all_goals omega
theorem swapI_lt {a b k i n : Nat} (ha : a + k ≤ n) (hb : b + k ≤ n) (hi : i < n) : swapI a b k i < n := by
 unfold swapI
 repeat' split
 all_goals omega
theorem rotI_lt {a m b i n : Nat} (ha : a ≤ m) (hb : m ≤ b) (hn : b ≤ n) (hi : i < n) : rotI a m b i < n := by
 unfold rotI
 repeat' split
 all_goals omega
theorem rotate_spec (Dm : D → Prop) (hD : ∀ x, Dm x → El 4 x) (xs : List D) (n a m b : Nat) (fv : FuncId) (caps : List AV) (hx : ∀ y ∈ xs, Dm y) (hn : n ≤ xs.length) (hN : n < 1000000) (ha : a < m) (hm : m < b) (hb : b ≤ n) :
  ACalls Tryz.prog Gl 115 [.osl 0 0 n, .d (.int .i64 a), .d (.int .i64 m), .d (.int .i64 b), .fn fv caps] (.arr 4 xs :: τ) (fun r s => r = .tup [] ∧ ∃ ys, s = (.arr 4 ys :: τ) ∧ Arr Dm xs ys (rotI a m b)) := by
 refine acalls_of Tryz.func115 rfl rfl (by simp [Tryz.ntmps115]) (evC_sound rfl _ _ _ _ ?_)
 simp only [Tryz.ntmps115, Tryz.results115, argEnv, List.length_nil]
 simp only [zS, seval, Nat.reduceLeDiff, Nat.reduceEqDiff, reduceCtorEq, reduceIte]
 refine loop_of (τ := (Nat × Nat) × List D) (fun x => [(0, .osl 0 0 n), (2, .d (.int .i64 m)), (4, .fn fv caps), (10, .d (.int .i64 x.1.1)), (11, .d (.int .i64 x.1.2))]) (fun x => (.arr 4 x.2 :: τ))
  (fun x => 1 ≤ x.1.1 ∧ x.1.1 ≤ m - a ∧ 1 ≤ x.1.2 ∧ x.1.2 ≤ b - m ∧ ∃ π, Arr Dm xs x.2 π ∧ ∀ p, p < xs.length → π (rotI (m - x.1.1) m (m + x.1.2) p) = rotI a m b p) (fun x => x.1.1 + x.1.2) ((m - a, b - m), xs)
  ⟨by simp only; omega, by simp only; omega, by simp only; omega, by simp only; omega, fun i => i, Arr.refl hx, fun p _ => by simp only; congr 1 <;> omega⟩ ?_ ?_
 ·refine weak_sub ?_
  have e1 : IntKind.i64.wrap ((m : Int) - a) = ((m - a : Nat) : Int) := by rw [wrap64 (by omega) (by omega)]; omega
  have e2 : IntKind.i64.wrap ((b : Int) - m) = ((b - m : Nat) : Int) := by rw [wrap64 (by omega) (by omega)]; omega
  simp only [zS, seval, Nat.reduceLeDiff, Nat.reduceEqDiff, reduceCtorEq, reduceIte, e1, e2]
 ·intro x hi
  obtain ⟨⟨i, j⟩, ys⟩ := x
  obtain ⟨h1, h2, h3, h4, π, hA, hπ⟩ := hi
  simp only at h1 h2 h3 h4 hA hπ
  have hl := hA.len
  have e1 : IntKind.i64.wrap ((m : Int) - i) = ((m - i : Nat) : Int) := by rw [wrap64 (by omega) (by omega)]; omega
  simp only [zS, seval, Nat.reduceLeDiff, Nat.reduceEqDiff, reduceCtorEq, reduceIte, e1]
  refine ifC.mk (fun h => ?_) (fun h => ?_)
  ·have h : i ≠ j := by simp at h; omega
   refine ifC.mk (fun h => ?_) (fun h => ?_)
   ·have h : j < i := by simpa using h
    refine callF_go ((swapRange_spec Dm hD ys n (m - i) m j fv caps hA.el (by omega) hN (by omega) (by omega) (by omega)).mono fun r s h => ?_)
    obtain ⟨rfl, zs, rfl, hB⟩ := h
    have e2 : IntKind.i64.wrap ((i : Int) - j) = ((i - j : Nat) : Int) := by rw [wrap64 (by omega) (by omega)]; omega
    simp only [zS, seval, Nat.reduceLeDiff, Nat.reduceEqDiff, reduceCtorEq, reduceIte, e2]
    refine ⟨((i - j, j), zs), ⟨by simp only; omega, by simp only; omega, by simp only; omega, by simp only; omega, _, hA.trans hB fun p hp => swapI_lt (by omega) (by omega) hp, fun p hp => ?_⟩, by simp only; omega, weak_sub ?_⟩
    ·simp only
     rw [rot_left m i j p (by omega) (by omega)]; exact hπ p hp
    ·simp only [zS, seval, Nat.reduceLeDiff, Nat.reduceEqDiff, reduceCtorEq, reduceIte]
   ·have h : ¬ j < i := by simpa using h
    have e2 : IntKind.i64.wrap (IntKind.i64.wrap ((m : Int) + j) - i) = ((m + j - i : Nat) : Int) := by rw [wrap64 (n := (m : Int) + j) (by omega) (by omega), wrap64 (by omega) (by omega)]; omega
    simp only [e2]
    refine callF_go ((swapRange_spec Dm hD ys n (m - i) (m + j - i) i fv caps hA.el (by omega) hN (by omega) (by omega) (by omega)).mono fun r s h => ?_)
    obtain ⟨rfl, zs, rfl, hB⟩ := h
    have e3 : IntKind.i64.wrap ((j : Int) - i) = ((j - i : Nat) : Int) := by rw [wrap64 (by omega) (by omega)]; omega
    simp only [zS, seval, Nat.reduceLeDiff, Nat.reduceEqDiff, reduceCtorEq, reduceIte, e3]
    refine ⟨((i, j - i), zs), ⟨by simp only; omega, by simp only; omega, by simp only; omega, by simp only; omega, _, hA.trans hB fun p hp => swapI_lt (by omega) (by omega) hp, fun p hp => ?_⟩, by simp only; omega, weak_sub ?_⟩
    ·simp only
     rw [rot_right m i j p (by omega) (by omega)]; exact hπ p hp
    ·simp only [zS, seval, Nat.reduceLeDiff, Nat.reduceEqDiff, reduceCtorEq, reduceIte]
  ·have h : i = j := by simp at h; omega
   subst h
   refine callF_go ((swapRange_spec Dm hD ys n (m - i) m i fv caps hA.el (by omega) hN (by omega) (by omega) (by omega)).mono fun r s h => ?_)
   obtain ⟨rfl, zs, rfl, hB⟩ := h
   refine ⟨trivial, _, _, WeakR.refl _ _ _, rfl, zs, rfl, (hA.trans hB fun p hp => swapI_lt (by omega) (by omega) hp).congr fun p hp => ?_⟩
   rw [rot_last a m i p (by omega)]; exact hπ p hp

structure CmpOk (Gl : Globs) (τ : Sto) (Dm : D → Prop) (cmpF : D → D → Int) (fv : FuncId) (caps : List AV) : Prop where
 el : ∀ x, Dm x → El 4 x
 call : ∀ x y, Dm x → Dm y → ∀ ys s, Ext (.arr 4 ys :: τ) s → ACalls Tryz.prog Gl fv ([.d x, .d y] ++ caps) s (fun r s' => r = .d (.int .i64 (cmpF x y)) ∧ s' = s)
 swo : Swo Dm (fun x y => decide (cmpF x y < 0))
structure Slide (xs : List D) (lt : D → D → Bool) (i : Nat) (ρ : Nat → Nat) (j : Nat) (κ : Nat → Nat) : Prop where
 le : j ≤ i
 at_ : κ j = ρ i
 left : ∀ p, p < j → κ p = ρ p
 mid : ∀ p, j < p → p ≤ i → κ p = ρ (p - 1)
 right : ∀ p, i < p → κ p = ρ p
 less : ∀ p, j ≤ p → p < i → Lx lt xs (ρ i) (ρ p)
theorem slide_step {xs : List D} {lt : D → D → Bool} {i j : Nat} {ρ κ : Nat → Nat} (h : Slide xs lt i ρ j κ) (hj : 0 < j) (hl : Lx lt xs (ρ i) (ρ (j - 1))) :
  Slide xs lt i ρ (j - 1) (fun p => if p = j - 1 then κ j else if p = j then κ (j - 1) else κ p) := by
 have hle := h.le
 refine ⟨by omega, ?_, fun p hp => ?_, fun p h1 h2 => ?_, fun p hp => ?_, fun p h1 h2 => ?_⟩
 ·simp only [if_true]; exact h.at_
 ·rw [if_neg (by omega), if_neg (by omega)]; exact h.left p (by omega)
 ·rw [if_neg (by omega)]
  by_cases e : p = j
  ·rw [if_pos e, e]; exact h.left _ (by omega)
  ·rw [if_neg e]; exact h.mid p (by omega) h2
 ·rw [if_neg (by omega), if_neg (by omega)]; exact h.right p hp
 ·by_cases e : p = j - 1
  ·rw [e]; exact hl
  ·exact h.less p (by omega) h2
theorem slide_done {Dm : D → Prop} {xs : List D} {lt : D → D → Bool} (hw : Swo Dm lt) (hx : ∀ y ∈ xs, Dm y) {a i j : Nat} {π ρ κ : Nat → Nat} (hi : i < xs.length) (hπ : ∀ p, p < xs.length → π p < xs.length)
  (hM : Mv a i π ρ) (hS : Sorted lt xs a i ρ) (h : Slide xs lt i ρ j κ) (haj : a ≤ j) (hl : a < j → Lx lt xs (ρ (j - 1)) (ρ i)) :
  Mv a (i + 1) π κ ∧ Sorted lt xs a (i + 1) κ := by
 have hle := h.le
 have hρ : ∀ p, p < xs.length → ρ p < xs.length := fun p hp => by
  by_cases hq : a ≤ p ∧ p < i
  ·obtain ⟨q, q1, q2, q3⟩ := hM.inn p hq.1 hq.2
   rw [q3]; exact hπ q (by omega)
  ·rw [hM.out p (by omega)]; exact hπ p hp
 have hi' : ρ i = π i := hM.out i (by omega)
 refine ⟨⟨fun p hp => ?_, fun p h1 h2 => ?_⟩, fun p q h1 h2 h3 => ?_⟩
 ·rcases Nat.lt_or_ge p j with hpj | hpj
  ·rw [h.left p hpj]; exact hM.out p (by omega)
  ·rw [h.right p (by omega)]; exact hM.out p (by omega)
 ·rcases Nat.lt_trichotomy p j with hpj | hpj | hpj
  ·rw [h.left p hpj]
   obtain ⟨q, q1, q2, q3⟩ := hM.inn p h1 (by omega)
   exact ⟨q, q1, by omega, q3⟩
  ·subst hpj
   exact ⟨i, by omega, by omega, by rw [h.at_, hi']⟩
  ·rw [h.mid p hpj (by omega)]
   obtain ⟨q, q1, q2, q3⟩ := hM.inn (p - 1) (by omega) (by omega)
   exact ⟨q, q1, by omega, q3⟩
 ·rcases Nat.lt_trichotomy q j with hq | hq | hq
  ·rw [h.left p (by omega), h.left q hq]; exact hS p q h1 h2 (by omega)
  ·subst hq
   rw [h.left p h2, h.at_]
   have hlq := hl (by omega)
   by_cases e : p = q - 1
   ·rw [e]; exact hlq
   ·exact Lx.trans hw hx (hρ p (by omega)) (hρ (q - 1) (by omega)) (hρ i hi) (hS p (q - 1) h1 (by omega) (by omega)) hlq
  ·rw [h.mid q hq (by omega)]
   rcases Nat.lt_trichotomy p j with hp | hp | hp
   ·rw [h.left p hp]; exact hS p (q - 1) h1 (by omega) (by omega)
   ·subst hp
    rw [h.at_]; exact h.less (q - 1) (by omega) (by omega)
   ·rw [h.mid p hp (by omega)]; exact hS (p - 1) (q - 1) (by omega) (by omega) (by omega)
theorem insertion_spec (Dm : D → Prop) (cmpF : D → D → Int) (fv : FuncId) (caps : List AV) (hC : CmpOk Gl τ Dm cmpF fv caps) (xs ys : List D) (hxs : ∀ y ∈ xs, Dm y) (n a b : Nat) (π : Nat → Nat) (hA : Arr Dm xs ys π) (hπ : ∀ p, p < xs.length → π p < xs.length)
  (hn : n ≤ xs.length) (hN : n < 1000000) (hab : a ≤ b) (hb : b ≤ n) (hr : Rising a b π) :
  ACalls Tryz.prog Gl 104 [.osl 0 0 n, .d (.int .i64 a), .d (.int .i64 b), .fn fv caps] (.arr 4 ys :: τ)
   (fun r s => r = .tup [] ∧ ∃ zs ρ, s = (.arr 4 zs :: τ) ∧ Arr Dm xs zs ρ ∧ Mv a b π ρ ∧ Sorted (fun x y => decide (cmpF x y < 0)) xs a b ρ) := by
 refine acalls_of Tryz.func104 rfl rfl (by simp [Tryz.ntmps104]) (evC_sound rfl _ _ _ _ ?_)
 simp only [Tryz.ntmps104, Tryz.results104, argEnv, List.length_nil]
 simp only [zS, seval, Nat.reduceLeDiff, Nat.reduceEqDiff, reduceCtorEq, reduceIte]
 refine loop_of (τ := Nat × List D) (fun x => [(0, .osl 0 0 n), (1, .d (.int .i64 a)), (2, .d (.int .i64 b)), (3, .fn fv caps), (8, .d (.int .i64 x.1))]) (fun x => (.arr 4 x.2 :: τ))
  (fun x => a + 1 ≤ x.1 ∧ (x.1 ≤ b ∨ x.1 = a + 1) ∧ ∃ ρ, Arr Dm xs x.2 ρ ∧ Mv a (min x.1 b) π ρ ∧ Sorted (fun x y => decide (cmpF x y < 0)) xs a (min x.1 b) ρ) (fun x => b + 1 - x.1) (a + 1, ys)
  ⟨by simp only; omega, .inr rfl, π, hA, Mv.refl _ _ _, fun p q h1 h2 h3 => by simp only at h3; omega⟩ ?_ ?_
 ·refine weak_sub ?_
  have e1 : IntKind.i64.wrap ((a : Int) + 1) = ((a + 1 : Nat) : Int) := by rw [wrap64 (by omega) (by omega)]; omega
  simp only [zS, seval, Nat.reduceLeDiff, Nat.reduceEqDiff, reduceCtorEq, reduceIte, e1]
 ·intro x hi
  obtain ⟨i, us⟩ := x
  obtain ⟨h1, h2, ρ, hU, hM, hS⟩ := hi
  simp only at h1 h2 hU hM hS
  simp only [zS, seval, Nat.reduceLeDiff, Nat.reduceEqDiff, reduceCtorEq, reduceIte]
  refine ifC.mk (fun h => ?_) (fun h => ?_)
  ·have h : i < b := by simpa using h
   have hmin : min i b = i := by omega
   rw [hmin] at hM hS
   have hlU := hU.len
   refine loop_of (τ := Nat × List D) (fun x => [(0, .osl 0 0 n), (1, .d (.int .i64 a)), (2, .d (.int .i64 b)), (3, .fn fv caps), (8, .d (.int .i64 i)), (9, .d (.int .i64 x.1))]) (fun x => (.arr 4 x.2 :: τ))
    (fun x => a ≤ x.1 ∧ ∃ κ, Arr Dm xs x.2 κ ∧ Slide xs (fun x y => decide (cmpF x y < 0)) i ρ x.1 κ) (fun x => x.1) (i, us)
    ⟨by simp only; omega, ρ, hU, Nat.le_refl _, rfl, fun _ _ => rfl, fun p q1 q2 => by omega, fun _ _ => rfl, fun p q1 q2 => by omega⟩ ?_ ?_
   ·refine weak_sub ?_
    simp only [zS, seval, Nat.reduceLeDiff, Nat.reduceEqDiff, reduceCtorEq, reduceIte]
   ·intro y hi
    obtain ⟨j, vs⟩ := y
    obtain ⟨k1, κ, hV, hK⟩ := hi
    simp only at k1 hV hK
    have hlV := hV.len
    have k2 := hK.le
    have l1 := El.at hC.el hV.el (i := j) (by omega)
    have c1 : (j : Int) < (n : Int) := by omega
    have c3 : j < vs.length := by omega
    by_cases haj : a < j
    ·have haj' : (a : Int) < (j : Int) := by omega
     have e1 : IntKind.i64.wrap ((j : Int) - 1) = ((j - 1 : Nat) : Int) := by rw [wrap64 (by omega) (by omega)]; omega
     have l2 := El.at hC.el hV.el (i := j - 1) (by omega)
     have c2 : ((j - 1 : Nat) : Int) < (n : Int) := by omega
     have c4 : j - 1 < vs.length := by omega
     simp only [zS, seval, Nat.reduceLeDiff, Nat.reduceEqDiff, reduceCtorEq, reduceIte, e1, l1, l2, c1, c2, c3, c4, haj']
     refine ⟨.inl (by kernel_rfl), callG_ext (v := .d (.int .i64 (cmpF (vs.getD j default) (vs.getD (j - 1) default)))) (fun _ s hs => hC.call _ _ (hV.at (by omega)) (hV.at (by omega)) _ s hs) ?_⟩
     have g1 : vs.getD j default = xs.getD (ρ i) default := by rw [hV.get j (by omega), hK.at_]
     have g2 : vs.getD (j - 1) default = xs.getD (ρ (j - 1)) default := by rw [hV.get (j - 1) (by omega), hK.left (j - 1) (by omega)]
     simp only [zS, seval, Nat.reduceLeDiff, Nat.reduceEqDiff, reduceCtorEq, reduceIte, e1, l1, l2, c1, c2, c3, c4, haj']
     refine ifC.mk (fun hc => ?_) (fun hc => ?_)
     ·have e2 : IntKind.i64.wrap ((j : Int) - 1) = ((j - 1 : Nat) : Int) := e1
      refine ⟨.inl (by kernel_rfl), (j - 1, _), ⟨by simp only; omega, _, hV.swap (i := j) (j := j - 1) (by omega) (by omega), slide_step hK (by omega) (.inl ?_)⟩, by simp only; omega, weak_sub ?_⟩
      ·simp only
       rw [← g1, ← g2]; exact hc
      ·simp only [zS, seval, Nat.reduceLeDiff, Nat.reduceEqDiff, reduceCtorEq, reduceIte, e1]
     ·have hc : ¬ cmpF (vs.getD j default) (vs.getD (j - 1) default) < 0 := by simpa using hc
      have e3 : IntKind.i64.wrap ((i : Int) + 1) = ((i + 1 : Nat) : Int) := by rw [wrap64 (by omega) (by omega)]; omega
      obtain ⟨d1, d2⟩ := slide_done hC.swo hxs (by omega) hπ hM hS hK k1 (fun _ => by
       obtain ⟨q, q1, q2, q3⟩ := hM.inn (j - 1) (by omega) (by omega)
       refine (Lx.tag' ?_).2 (.inl ?_)
       ·rw [q3, hM.out i (by omega)]; exact hr q i q1 q2 h
       ·rw [← g1, ← g2]; simpa using hc)
      refine ⟨(i + 1, vs), ⟨by simp only; omega, .inl (by simp only; omega), κ, hV, ?_, ?_⟩, by simp only; omega, weak_sub ?_⟩
      ·simp only; rw [show min (i + 1) b = i + 1 from by omega]; exact d1
      ·simp only; rw [show min (i + 1) b = i + 1 from by omega]; exact d2
      ·simp only [zS, seval, Nat.reduceLeDiff, Nat.reduceEqDiff, reduceCtorEq, reduceIte, e3]
    ·have haj' : ¬ (a : Int) < (j : Int) := by omega
     simp only [zS, seval, Nat.reduceLeDiff, Nat.reduceEqDiff, reduceCtorEq, reduceIte, l1, c1, c3, haj']
     refine ⟨.inl (by kernel_rfl), callG_ext (v := .d (.int .i64 0)) (fun hg => by cases hg) ?_⟩
     have e3 : IntKind.i64.wrap ((i : Int) + 1) = ((i + 1 : Nat) : Int) := by rw [wrap64 (by omega) (by omega)]; omega
     simp only [zS, seval, Nat.reduceLeDiff, Nat.reduceEqDiff, reduceCtorEq, reduceIte, l1, c1, c3, haj']
     obtain ⟨d1, d2⟩ := slide_done hC.swo hxs (by omega) hπ hM hS hK k1 (fun hh => absurd hh haj)
     refine ⟨(i + 1, vs), ⟨by simp only; omega, .inl (by simp only; omega), κ, hV, ?_, ?_⟩, by simp only; omega, weak_sub ?_⟩
     ·simp only; rw [show min (i + 1) b = i + 1 from by omega]; exact d1
     ·simp only; rw [show min (i + 1) b = i + 1 from by omega]; exact d2
     ·simp only [zS, seval, Nat.reduceLeDiff, Nat.reduceEqDiff, reduceCtorEq, reduceIte, e3]
  ·have h : ¬ i < b := by simpa using h
   have hmin : min i b = b := by omega
   rw [hmin] at hM hS
   exact ⟨_, _, WeakR.refl _ _ _, rfl, us, ρ, rfl, hU, hM, hS⟩

theorem shr1 (x : Int) : intBin .shr .u64 x 1 = .int .u64 (x.fdiv 2) := by
 simp [intBin, IntKind.bits]
theorem u64_in (x : Nat) (h : x < 1000000000) : IntKind.u64.wrap (x : Int) = x := by
 rw [IntKind.wrap_u64]; omega
theorem half (x : Nat) (h : x < 1000000000) : ((x : Int).fdiv 2) = ((x / 2 : Nat) : Int) := by
 rw [Int.fdiv_eq_ediv_of_nonneg _ (by omega)]; omega
theorem i64_nat (x : Nat) (h : x < 1000000000) : IntKind.i64.wrap (x : Int) = x := wrap64 (by omega) (by omega)
def Merged (τ : Sto) (Dm : D → Prop) (cmpF : D → D → Int) (xs : List D) (a b : Nat) (π : Nat → Nat) (r : AV) (s : Sto) : Prop :=
 r = .tup [] ∧ ∃ zs ρ, s = (.arr 4 zs :: τ) ∧ Arr Dm xs zs ρ ∧ Mv a b π ρ ∧ Sorted (fun x y => decide (cmpF x y < 0)) xs a b ρ
theorem merge_base (Dm : D → Prop) (cmpF : D → D → Int) (fv : FuncId) (caps : List AV) (hC : CmpOk Gl τ Dm cmpF fv caps) (xs : List D) (hxs : ∀ y ∈ xs, Dm y) (n : Nat) (hn : n ≤ xs.length) (hN : n < 1000000)
  (a m b : Nat) (ys : List D) (π : Nat → Nat) (hA : Arr Dm xs ys π) (hπ : ∀ p, p < xs.length → π p < xs.length) (ham : a < m) (hmb : m < b) (hbn : b ≤ n) (hS1 : Sorted (fun x y => decide (cmpF x y < 0)) xs a m π) (hS2 : Sorted (fun x y => decide (cmpF x y < 0)) xs m b π) (hT : Tags a m b π)
  (hbase : m = a + 1 ∨ b = m + 1) :
  ACalls Tryz.prog Gl 105 [.osl 0 0 n, .d (.int .i64 a), .d (.int .i64 m), .d (.int .i64 b), .fn fv caps] (.arr 4 ys :: τ) (Merged τ Dm cmpF xs a b π) := by
 refine acalls_of Tryz.func105 rfl rfl (by simp [Tryz.ntmps105]) (evC_sound rfl _ _ _ _ ?_)
 simp only [Tryz.ntmps105, Tryz.results105, argEnv, List.length_nil]
 have hlY := hA.len
 have e1 : IntKind.i64.wrap ((m : Int) - a) = ((m - a : Nat) : Int) := by rw [wrap64 (by omega) (by omega)]; omega
 have e2 : IntKind.i64.wrap ((b : Int) - m) = ((b - m : Nat) : Int) := by rw [wrap64 (by omega) (by omega)]; omega
 by_cases hc1 : m = a + 1
 ·have e3 : (((m - a : Nat) : Int) == 1) = true := by simp; omega
  simp only [zS, seval, Nat.reduceLeDiff, Nat.reduceEqDiff, reduceCtorEq, reduceIte, e1, e3]
  have ha1 : (ys.getD a default) = xs.getD (π a) default := hA.get a (by omega)
  have la := El.at hC.el hA.el (i := a) (by omega)
  refine loop_of (τ := Nat × Nat) (fun x => [(0, .osl 0 0 n), (1, .d (.int .i64 a)), (2, .d (.int .i64 m)), (3, .d (.int .i64 b)), (4, .fn fv caps), (10, .d (.int .i64 x.1)), (11, .d (.int .i64 x.2))]) (fun x => (.arr 4 ys :: τ))
   (fun x => m ≤ x.1 ∧ x.1 ≤ x.2 ∧ x.2 ≤ b ∧ (∀ q, m ≤ q → q < x.1 → Lx (fun x y => decide (cmpF x y < 0)) xs (π q) (π a)) ∧ (∀ q, x.2 ≤ q → q < b → Lx (fun x y => decide (cmpF x y < 0)) xs (π a) (π q))) (fun x => x.2 - x.1) (m, b)
   ⟨Nat.le_refl _, by simp only; omega, Nat.le_refl _, fun q q1 q2 => by simp only at q2; omega, fun q q1 q2 => by simp only at q1; omega⟩ ?_ ?_
  ·refine weak_sub ?_
   simp only [zS, seval, Nat.reduceLeDiff, Nat.reduceEqDiff, reduceCtorEq, reduceIte]
  ·intro x hi
   obtain ⟨i, j⟩ := x
   obtain ⟨h1, h2, h3, h4, h5⟩ := hi
   simp only at h1 h2 h3 h4 h5
   simp only [zS, seval, Nat.reduceLeDiff, Nat.reduceEqDiff, reduceCtorEq, reduceIte]
   refine ifC.mk (fun h => ?_) (fun h => ?_)
   ·have h : i < j := by simpa using h
    have g1 : IntKind.i64.wrap ((i : Int) + j) = ((i + j : Nat) : Int) := by rw [wrap64 (by omega) (by omega)]; omega
    have g2 : IntKind.u64.wrap ((i + j : Nat) : Int) = ((i + j : Nat) : Int) := u64_in _ (by omega)
    have g3 : ((i + j : Nat) : Int).fdiv 2 = (((i + j) / 2 : Nat) : Int) := half _ (by omega)
    have g4 : IntKind.i64.wrap (((i + j) / 2 : Nat) : Int) = (((i + j) / 2 : Nat) : Int) := i64_nat _ (by omega)
    have hh : ∃ h, h = (i + j) / 2 ∧ i ≤ h ∧ h < j := ⟨_, rfl, by omega, by omega⟩
    obtain ⟨h', e5, e6, e7⟩ := hh
    rw [← e5] at g3 g4
    have lh := El.at hC.el hA.el (i := h') (by omega)
    have c1 : (h' : Int) < (n : Int) := by omega
    have c2 : (a : Int) < (n : Int) := by omega
    have c3 : h' < ys.length := by omega
    have c4 : a < ys.length := by omega
    simp only [zS, seval, Nat.reduceLeDiff, Nat.reduceEqDiff, reduceCtorEq, reduceIte, g1, g2, g3, g4, shr1, la, lh, c1, c2, c3, c4]
    refine ⟨.inl (by kernel_rfl), callF_ext (v := .d (.int .i64 (cmpF (ys.getD h' default) (ys.getD a default)))) (fun s hs => hC.call _ _ (hA.at (by omega)) (hA.at (by omega)) _ s hs) ?_⟩
    have f1 : ys.getD h' default = xs.getD (π h') default := hA.get h' (by omega)
    have ht : π a < π h' := hT a h' (Nat.le_refl _) (by omega) (by omega) (by omega)
    simp only [zS, seval, Nat.reduceLeDiff, Nat.reduceEqDiff, reduceCtorEq, reduceIte]
    refine ifC.mk (fun hc => ?_) (fun hc => ?_)
    ·have hL : Lx (fun x y => decide (cmpF x y < 0)) xs (π h') (π a) := (Lx.tag ht).2 (by rw [← f1, ← ha1]; exact hc)
     have g5 : IntKind.i64.wrap ((h' : Int) + 1) = ((h' + 1 : Nat) : Int) := by rw [wrap64 (by omega) (by omega)]; omega
     simp only [zS, seval, Nat.reduceLeDiff, Nat.reduceEqDiff, reduceCtorEq, reduceIte, g5]
     refine ⟨(h' + 1, j), ⟨by simp only; omega, by simp only; omega, h3, less_down hC.swo hxs hπ (by omega) (hπ _ (by omega)) hS2 (by omega) (by omega) hL, h5⟩, by simp only; omega, weak_sub ?_⟩
     simp only [zS, seval, Nat.reduceLeDiff, Nat.reduceEqDiff, reduceCtorEq, reduceIte]
    ·have hL : Lx (fun x y => decide (cmpF x y < 0)) xs (π a) (π h') := (Lx.tag' ht).2 (.inl (by rw [← f1, ← ha1]; exact hc))
     refine ⟨(i, h'), ⟨h1, by simp only; omega, by simp only; omega, h4, more_up hC.swo hxs hπ (by omega) (hπ _ (by omega)) hS2 (by omega) (by omega) hL⟩, by simp only; omega, weak_sub ?_⟩
     simp only [zS, seval, Nat.reduceLeDiff, Nat.reduceEqDiff, reduceCtorEq, reduceIte]
   ·have h : ¬ i < j := by simpa using h
    have hij : i = j := by omega
    subst hij
    refine loop_of (τ := Nat × List D) (fun x => [(0, .osl 0 0 n), (10, .d (.int .i64 i)), (13, .d (.int .i64 x.1))]) (fun x => (.arr 4 x.2 :: τ))
     (fun x => a ≤ x.1 ∧ x.1 ≤ i - 1 ∧ ∃ κ, Arr Dm xs x.2 κ ∧ (∀ p, a ≤ p → p < x.1 → κ p = π (p + 1)) ∧ κ x.1 = π a ∧ (∀ p, p < a ∨ x.1 < p → κ p = π p)) (fun x => i - x.1) (a, ys)
     ⟨Nat.le_refl _, by simp only; omega, π, hA, fun p q1 q2 => by simp only at q2; omega, rfl, fun p _ => rfl⟩ ?_ ?_
    ·refine weak_sub ?_
     simp only [zS, seval, Nat.reduceLeDiff, Nat.reduceEqDiff, reduceCtorEq, reduceIte]
    ·intro x hi
     obtain ⟨k, zs⟩ := x
     obtain ⟨k1, k2, κ, hZ, q1, q2, q3⟩ := hi
     simp only at k1 k2 hZ q1 q2 q3
     have hlZ := hZ.len
     have g6 : IntKind.i64.wrap ((i : Int) - 1) = ((i - 1 : Nat) : Int) := by rw [wrap64 (by omega) (by omega)]; omega
     simp only [zS, seval, Nat.reduceLeDiff, Nat.reduceEqDiff, reduceCtorEq, reduceIte, g6]
     refine ifC.mk (fun h => ?_) (fun h => ?_)
     ·have h : k < i - 1 := by simp at h; omega
      have g7 : IntKind.i64.wrap ((k : Int) + 1) = ((k + 1 : Nat) : Int) := by rw [wrap64 (by omega) (by omega)]; omega
      have l1 := El.at hC.el hZ.el (i := k) (by omega)
      have l2 := El.at hC.el hZ.el (i := k + 1) (by omega)
      have c1 : (k : Int) < (n : Int) := by omega
      have c2 : ((k + 1 : Nat) : Int) < (n : Int) := by omega
      have c3 : k < zs.length := by omega
      have c4 : k + 1 < zs.length := by omega
      simp only [zS, seval, Nat.reduceLeDiff, Nat.reduceEqDiff, reduceCtorEq, reduceIte, g7, l1, l2, c1, c2, c3, c4]
      refine ⟨.inl (by kernel_rfl), (k + 1, _), ⟨by simp only; omega, by simp only; omega, _, hZ.swap (i := k) (j := k + 1) (by omega) (by omega), fun p p1 p2 => ?_, ?_, fun p hp => ?_⟩, by simp only; omega, weak_sub ?_⟩
      ·simp only at p2
       rw [if_neg (by omega)]
       by_cases e : p = k
       ·rw [if_pos e, e]; exact q3 _ (by omega)
       ·rw [if_neg e]; exact q1 p p1 (by omega)
      ·simp only [if_true]; exact q2
      ·simp only at hp
       rw [if_neg (by omega), if_neg (by omega)]; exact q3 p (by omega)
      ·simp only [zS, seval, Nat.reduceLeDiff, Nat.reduceEqDiff, reduceCtorEq, reduceIte, g7]
     ·have h : ¬ k < i - 1 := by simp at h; omega
      have hk : k = i - 1 := by omega
      subst hk
      obtain ⟨d1, d2⟩ := merge_one_left (by omega) h1 h3 hS2 h4 h5 q1 q2 (fun p hp => q3 p (by omega))
      exact ⟨_, _, WeakR.refl _ _ _, rfl, zs, κ, rfl, hZ, d1, d2⟩
 ·have e3 : (((m - a : Nat) : Int) == 1) = false := by simp; omega
  by_cases hc2 : b = m + 1
  ·have e4 : (((b - m : Nat) : Int) == 1) = true := by simp; omega
   simp only [zS, seval, Nat.reduceLeDiff, Nat.reduceEqDiff, reduceCtorEq, reduceIte, e1, e2, e3, e4]
   have hm1 : (ys.getD m default) = xs.getD (π m) default := hA.get m (by omega)
   have lm := El.at hC.el hA.el (i := m) (by omega)
   refine loop_of (τ := Nat × Nat) (fun x => [(0, .osl 0 0 n), (1, .d (.int .i64 a)), (2, .d (.int .i64 m)), (3, .d (.int .i64 b)), (4, .fn fv caps), (14, .d (.int .i64 x.1)), (15, .d (.int .i64 x.2))]) (fun x => (.arr 4 ys :: τ))
    (fun x => a ≤ x.1 ∧ x.1 ≤ x.2 ∧ x.2 ≤ m ∧ (∀ q, a ≤ q → q < x.1 → Lx (fun x y => decide (cmpF x y < 0)) xs (π q) (π m)) ∧ (∀ q, x.2 ≤ q → q < m → Lx (fun x y => decide (cmpF x y < 0)) xs (π m) (π q))) (fun x => x.2 - x.1) (a, m)
    ⟨Nat.le_refl _, by simp only; omega, Nat.le_refl _, fun q q1 q2 => by simp only at q2; omega, fun q q1 q2 => by simp only at q1; omega⟩ ?_ ?_
   ·refine weak_sub ?_
    simp only [zS, seval, Nat.reduceLeDiff, Nat.reduceEqDiff, reduceCtorEq, reduceIte]
   ·intro x hi
    obtain ⟨i, j⟩ := x
    obtain ⟨h1, h2, h3, h4, h5⟩ := hi
    simp only at h1 h2 h3 h4 h5
    simp only [zS, seval, Nat.reduceLeDiff, Nat.reduceEqDiff, reduceCtorEq, reduceIte]
    refine ifC.mk (fun h => ?_) (fun h => ?_)
    ·have h : i < j := by simpa using h
     have g1 : IntKind.i64.wrap ((i : Int) + j) = ((i + j : Nat) : Int) := by rw [wrap64 (by omega) (by omega)]; omega
     have g2 : IntKind.u64.wrap ((i + j : Nat) : Int) = ((i + j : Nat) : Int) := u64_in _ (by omega)
     have g3 : ((i + j : Nat) : Int).fdiv 2 = (((i + j) / 2 : Nat) : Int) := half _ (by omega)
     have g4 : IntKind.i64.wrap (((i + j) / 2 : Nat) : Int) = (((i + j) / 2 : Nat) : Int) := i64_nat _ (by omega)
     have hh : ∃ h, h = (i + j) / 2 ∧ i ≤ h ∧ h < j := ⟨_, rfl, by omega, by omega⟩
     obtain ⟨h', e5, e6, e7⟩ := hh
     rw [← e5] at g3 g4
     have lh := El.at hC.el hA.el (i := h') (by omega)
     have c1 : (h' : Int) < (n : Int) := by omega
     have c2 : (m : Int) < (n : Int) := by omega
     have c3 : h' < ys.length := by omega
     have c4 : m < ys.length := by omega
     simp only [zS, seval, Nat.reduceLeDiff, Nat.reduceEqDiff, reduceCtorEq, reduceIte, g1, g2, g3, g4, shr1, lm, lh, c1, c2, c3, c4]
     refine ⟨.inl (by kernel_rfl), callF_ext (v := .d (.int .i64 (cmpF (ys.getD m default) (ys.getD h' default)))) (fun s hs => hC.call _ _ (hA.at (by omega)) (hA.at (by omega)) _ s hs) ?_⟩
     have f1 : ys.getD h' default = xs.getD (π h') default := hA.get h' (by omega)
     have ht : π h' < π m := hT h' m (by omega) (by omega) (Nat.le_refl _) (by omega)
     simp only [zS, seval, Nat.reduceLeDiff, Nat.reduceEqDiff, reduceCtorEq, reduceIte]
     refine ifC.mk (fun hc => ?_) (fun hc => ?_)
     ·have hL : Lx (fun x y => decide (cmpF x y < 0)) xs (π h') (π m) := (Lx.tag' ht).2 (.inl (by rw [← f1, ← hm1]; simpa using hc))
      have g5 : IntKind.i64.wrap ((h' : Int) + 1) = ((h' + 1 : Nat) : Int) := by rw [wrap64 (by omega) (by omega)]; omega
      simp only [zS, seval, Nat.reduceLeDiff, Nat.reduceEqDiff, reduceCtorEq, reduceIte, g5]
      refine ⟨(h' + 1, j), ⟨by simp only; omega, by simp only; omega, h3, less_down hC.swo hxs hπ (by omega) (hπ _ (by omega)) hS1 (by omega) (by omega) hL, h5⟩, by simp only; omega, weak_sub ?_⟩
      simp only [zS, seval, Nat.reduceLeDiff, Nat.reduceEqDiff, reduceCtorEq, reduceIte]
     ·have hL : Lx (fun x y => decide (cmpF x y < 0)) xs (π m) (π h') := (Lx.tag ht).2 (by rw [← f1, ← hm1]; simpa using hc)
      refine ⟨(i, h'), ⟨h1, by simp only; omega, by simp only; omega, h4, more_up hC.swo hxs hπ (by omega) (hπ _ (by omega)) hS1 (by omega) (by omega) hL⟩, by simp only; omega, weak_sub ?_⟩
      simp only [zS, seval, Nat.reduceLeDiff, Nat.reduceEqDiff, reduceCtorEq, reduceIte]
    ·have h : ¬ i < j := by simpa using h
     have hij : i = j := by omega
     subst hij
     refine loop_of (τ := Nat × List D) (fun x => [(0, .osl 0 0 n), (14, .d (.int .i64 i)), (17, .d (.int .i64 x.1))]) (fun x => (.arr 4 x.2 :: τ))
      (fun x => i ≤ x.1 ∧ x.1 ≤ m ∧ ∃ κ, Arr Dm xs x.2 κ ∧ (∀ p, x.1 < p → p ≤ m → κ p = π (p - 1)) ∧ κ x.1 = π m ∧ (∀ p, p < x.1 ∨ m < p → κ p = π p)) (fun x => x.1) (m, ys)
      ⟨by simp only; omega, Nat.le_refl _, π, hA, fun p q1 q2 => by simp only at q1; omega, rfl, fun p _ => rfl⟩ ?_ ?_
     ·refine weak_sub ?_
      simp only [zS, seval, Nat.reduceLeDiff, Nat.reduceEqDiff, reduceCtorEq, reduceIte]
     ·intro x hi
      obtain ⟨k, zs⟩ := x
      obtain ⟨k1, k2, κ, hZ, q1, q2, q3⟩ := hi
      simp only at k1 k2 hZ q1 q2 q3
      have hlZ := hZ.len
      simp only [zS, seval, Nat.reduceLeDiff, Nat.reduceEqDiff, reduceCtorEq, reduceIte]
      refine ifC.mk (fun h => ?_) (fun h => ?_)
      ·have h : i < k := by simp at h; omega
       have g7 : IntKind.i64.wrap ((k : Int) - 1) = ((k - 1 : Nat) : Int) := by rw [wrap64 (by omega) (by omega)]; omega
       have l1 := El.at hC.el hZ.el (i := k) (by omega)
       have l2 := El.at hC.el hZ.el (i := k - 1) (by omega)
       have c1 : (k : Int) < (n : Int) := by omega
       have c2 : ((k - 1 : Nat) : Int) < (n : Int) := by omega
       have c3 : k < zs.length := by omega
       have c4 : k - 1 < zs.length := by omega
       simp only [zS, seval, Nat.reduceLeDiff, Nat.reduceEqDiff, reduceCtorEq, reduceIte, g7, l1, l2, c1, c2, c3, c4]
       refine ⟨.inl (by kernel_rfl), (k - 1, _), ⟨by simp only; omega, by simp only; omega, _, hZ.swap (i := k) (j := k - 1) (by omega) (by omega), fun p p1 p2 => ?_, ?_, fun p hp => ?_⟩, by simp only; omega, weak_sub ?_⟩
       ·simp only at p1
        rw [if_neg (by omega)]
        by_cases e : p = k
        ·rw [if_pos e, e]; exact q3 _ (by omega)
        ·rw [if_neg e]; exact q1 p (by omega) p2
       ·simp only [if_true]; exact q2
       ·simp only at hp
        rw [if_neg (by omega), if_neg (by omega)]; exact q3 p (by omega)
       ·simp only [zS, seval, Nat.reduceLeDiff, Nat.reduceEqDiff, reduceCtorEq, reduceIte, g7]
      ·have h : ¬ i < k := by simp at h; omega
       have hk : k = i := by omega
       subst hk
       obtain ⟨d1, d2⟩ := merge_one_right hc2 h1 h3 hS1 h4 h5 q1 q2 q3
       exact ⟨_, _, WeakR.refl _ _ _, rfl, zs, κ, rfl, hZ, d1, d2⟩
  ·omega

set_option maxHeartbeats 4000000 in
set_option maxRecDepth 10000 in
theorem merge_gen (Dm : D → Prop) (cmpF : D → D → Int) (fv : FuncId) (caps : List AV) (hC : CmpOk Gl τ Dm cmpF fv caps) (xs : List D) (hxs : ∀ y ∈ xs, Dm y) (n : Nat) (hn : n ≤ xs.length) (hN : n < 1000000)
  (a m b : Nat) (ys : List D) (π : Nat → Nat) (hA : Arr Dm xs ys π) (hπ : ∀ p, p < xs.length → π p < xs.length) (ham : a < m) (hmb : m < b) (hbn : b ≤ n) (hS1 : Sorted (fun x y => decide (cmpF x y < 0)) xs a m π) (hS2 : Sorted (fun x y => decide (cmpF x y < 0)) xs m b π) (hT : Tags a m b π)
  (hc1 : ¬ m = a + 1) (hc2 : ¬ b = m + 1)
  (ih : ∀ (a' m' b' : Nat) (ys : List D) (π : Nat → Nat), b' - a' < b - a → Arr Dm xs ys π → (∀ p, p < xs.length → π p < xs.length) → a' < m' → m' < b' → b' ≤ n → Sorted (fun x y => decide (cmpF x y < 0)) xs a' m' π → Sorted (fun x y => decide (cmpF x y < 0)) xs m' b' π → Tags a' m' b' π →
   ACalls Tryz.prog Gl 105 [.osl 0 0 n, .d (.int .i64 a'), .d (.int .i64 m'), .d (.int .i64 b'), .fn fv caps] (.arr 4 ys :: τ) (Merged τ Dm cmpF xs a' b' π)) :
  ACalls Tryz.prog Gl 105 [.osl 0 0 n, .d (.int .i64 a), .d (.int .i64 m), .d (.int .i64 b), .fn fv caps] (.arr 4 ys :: τ) (Merged τ Dm cmpF xs a b π) := by
 refine acalls_of Tryz.func105 rfl rfl (by simp [Tryz.ntmps105]) (evC_sound rfl _ _ _ _ ?_)
 simp only [Tryz.ntmps105, Tryz.results105, argEnv, List.length_nil]
 have hlY := hA.len
 have e1 : IntKind.i64.wrap ((m : Int) - a) = ((m - a : Nat) : Int) := by rw [wrap64 (by omega) (by omega)]; omega
 have e2 : IntKind.i64.wrap ((b : Int) - m) = ((b - m : Nat) : Int) := by rw [wrap64 (by omega) (by omega)]; omega
 have e3 : (((m - a : Nat) : Int) == 1) = false := by simp; omega
 have e4 : (((b - m : Nat) : Int) == 1) = false := by simp; omega
 have g1 : IntKind.i64.wrap ((a : Int) + b) = ((a + b : Nat) : Int) := by rw [wrap64 (by omega) (by omega)]; omega
 have g2 : IntKind.u64.wrap ((a + b : Nat) : Int) = ((a + b : Nat) : Int) := u64_in _ (by omega)
 have g3 : ((a + b : Nat) : Int).fdiv 2 = (((a + b) / 2 : Nat) : Int) := half _ (by omega)
 have g4 : IntKind.i64.wrap (((a + b) / 2 : Nat) : Int) = (((a + b) / 2 : Nat) : Int) := i64_nat _ (by omega)
 obtain ⟨d, e5, e6, e7⟩ : ∃ d, d = (a + b) / 2 ∧ a < d ∧ d < b := ⟨_, rfl, by omega, by omega⟩
 rw [← e5] at g3 g4
 have g5 : IntKind.i64.wrap ((d : Int) + m) = ((d + m : Nat) : Int) := by rw [wrap64 (by omega) (by omega)]; omega
 have g6 : IntKind.i64.wrap (((d + m : Nat) : Int) - 1) = ((d + m - 1 : Nat) : Int) := by rw [wrap64 (by omega) (by omega)]; omega
 obtain ⟨s0, r0, key⟩ : ∃ s0 r0 : Nat, (d < m ∧ s0 = d + m - b ∧ r0 = d) ∨ (m ≤ d ∧ s0 = a ∧ r0 = m) := by
  by_cases c : d < m
  ·exact ⟨_, _, .inl ⟨c, rfl, rfl⟩⟩
  ·exact ⟨_, _, .inr ⟨by omega, rfl, rfl⟩⟩
 have c0 : ((d : Int) < m) ∨ ¬ ((d : Int) < m) := by omega
 rcases key with ⟨k1, k2, k3⟩ | ⟨k1, k2, k3⟩
 ·have c0 : ((d : Int) < m) := by omega
  have g7 : IntKind.i64.wrap (((d + m : Nat) : Int) - b) = ((s0 : Nat) : Int) := by rw [wrap64 (by omega) (by omega)]; omega
  simp only [zS, seval, Nat.reduceLeDiff, Nat.reduceEqDiff, reduceCtorEq, reduceIte, e1, e2, e3, e4, g1, g2, g3, g4, g5, g6, g7, shr1, c0]
  refine loop_of (τ := Nat × Nat) (fun x => [(0, .osl 0 0 n), (1, .d (.int .i64 a)), (2, .d (.int .i64 m)), (3, .d (.int .i64 b)), (4, .fn fv caps), (18, .d (.int .i64 d)), (19, .d (.int .i64 (d + m : Nat))), (20, .d (.int .i64 x.1)), (21, .d (.int .i64 x.2)), (22, .d (.int .i64 (d + m - 1 : Nat)))]) (fun x => (.arr 4 ys :: τ))
   (fun x => s0 ≤ x.1 ∧ x.1 ≤ x.2 ∧ x.2 ≤ r0 ∧ (s0 < x.1 → Lx (fun x y => decide (cmpF x y < 0)) xs (π (x.1 - 1)) (π (d + m - 1 - (x.1 - 1)))) ∧ (x.2 < r0 → Lx (fun x y => decide (cmpF x y < 0)) xs (π (d + m - 1 - x.2)) (π x.2))) (fun x => x.2 - x.1) (s0, r0)
   ⟨Nat.le_refl _, by simp only; omega, Nat.le_refl _, fun h => by simp only at h; omega, fun h => by simp only at h; omega⟩ ?_ ?_
  ·refine weak_sub ?_
   simp only [zS, seval, Nat.reduceLeDiff, Nat.reduceEqDiff, reduceCtorEq, reduceIte, k2, k3]
  ·intro x hi
   obtain ⟨s, r⟩ := x
   obtain ⟨h1, h2, h3, h4, h5⟩ := hi
   simp only at h1 h2 h3 h4 h5
   by_cases hsr : s < r
   ·have q0 : ((s : Int) < r) := by omega
    have q1 : IntKind.i64.wrap ((s : Int) + r) = ((s + r : Nat) : Int) := by rw [wrap64 (by omega) (by omega)]; omega
    have q2 : IntKind.u64.wrap ((s + r : Nat) : Int) = ((s + r : Nat) : Int) := u64_in _ (by omega)
    have q3 : ((s + r : Nat) : Int).fdiv 2 = (((s + r) / 2 : Nat) : Int) := half _ (by omega)
    have q4 : IntKind.i64.wrap (((s + r) / 2 : Nat) : Int) = (((s + r) / 2 : Nat) : Int) := i64_nat _ (by omega)
    obtain ⟨c, e8, e9, e10⟩ : ∃ c, c = (s + r) / 2 ∧ s ≤ c ∧ c < r := ⟨_, rfl, by omega, by omega⟩
    rw [← e8] at q3 q4
    have q5 : IntKind.i64.wrap (((d + m - 1 : Nat) : Int) - c) = ((d + m - 1 - c : Nat) : Int) := by rw [wrap64 (by omega) (by omega)]; omega
    have lc := El.at hC.el hA.el (i := c) (by omega)
    have lp := El.at hC.el hA.el (i := d + m - 1 - c) (by omega)
    have c1 : (c : Int) < (n : Int) := by omega
    have c2 : ((d + m - 1 - c : Nat) : Int) < (n : Int) := by omega
    have c3 : c < ys.length := by omega
    have c4 : d + m - 1 - c < ys.length := by omega
    simp only [zS, seval, Nat.reduceLeDiff, Nat.reduceEqDiff, reduceCtorEq, reduceIte, q0, q1, q2, q3, q4, q5, shr1, lc, lp, c1, c2, c3, c4]
    refine ⟨.inl (by kernel_rfl), callF_ext (v := .d (.int .i64 (cmpF (ys.getD (d + m - 1 - c) default) (ys.getD c default)))) (fun s hs => hC.call _ _ (hA.at (by omega)) (hA.at (by omega)) _ s hs) ?_⟩
    have f1 : ys.getD c default = xs.getD (π c) default := hA.get c (by omega)
    have f2 : ys.getD (d + m - 1 - c) default = xs.getD (π (d + m - 1 - c)) default := hA.get _ (by omega)
    have ht : π c < π (d + m - 1 - c) := hT _ _ (by omega) (by omega) (by omega) (by omega)
    simp only [zS, seval, Nat.reduceLeDiff, Nat.reduceEqDiff, reduceCtorEq, reduceIte]
    refine ifC.mk (fun hc => ?_) (fun hc => ?_)
    ·have hL : Lx (fun x y => decide (cmpF x y < 0)) xs (π c) (π (d + m - 1 - c)) := (Lx.tag' ht).2 (.inl (by rw [← f1, ← f2]; simpa using hc))
     have q6 : IntKind.i64.wrap ((c : Int) + 1) = ((c + 1 : Nat) : Int) := by rw [wrap64 (by omega) (by omega)]; omega
     simp only [zS, seval, Nat.reduceLeDiff, Nat.reduceEqDiff, reduceCtorEq, reduceIte, q6]
     refine ⟨(c + 1, r), ⟨by simp only; omega, by simp only; omega, h3, fun _ => by simp only; exact hL, h5⟩, by simp only; omega, weak_sub ?_⟩
     simp only [zS, seval, Nat.reduceLeDiff, Nat.reduceEqDiff, reduceCtorEq, reduceIte]
    ·have hL : Lx (fun x y => decide (cmpF x y < 0)) xs (π (d + m - 1 - c)) (π c) := (Lx.tag ht).2 (by rw [← f1, ← f2]; simpa using hc)
     refine ⟨(s, c), ⟨h1, by simp only; omega, by simp only; omega, h4, fun _ => hL⟩, by simp only; omega, weak_sub ?_⟩
     simp only [zS, seval, Nat.reduceLeDiff, Nat.reduceEqDiff, reduceCtorEq, reduceIte]
   ·have hs : s = r := by omega
    subst hs
    have q0 : ¬ ((s : Int) < s) := by omega
    have q1 : IntKind.i64.wrap (((d + m : Nat) : Int) - s) = ((d + m - s : Nat) : Int) := by rw [wrap64 (by omega) (by omega)]; omega
    obtain ⟨e, he⟩ : ∃ e, e = d + m - s := ⟨_, rfl⟩
    rw [← he] at q1
    obtain ⟨F1, F2⟩ := merge_found (p := d + m - 1) (s := s) (s0 := s0) (r0 := r0) (e := e) hC.swo hxs hπ (by omega) hS1 hS2 (by omega) h1 h3 (by omega) (by omega) (by omega) (by omega) (by omega) (by omega) (by omega) h4 h5 (by omega) (by omega)
    obtain ⟨ρ, hρ⟩ : ∃ ρ : Nat → Nat, ρ = fun p => π (rotI s m e p) := ⟨_, rfl⟩
    obtain ⟨t1, t2, t3, t4, t5, t6, t7, t8⟩ := merge_turn (ρ := ρ) (s := s) (e := e) (d := d) (by omega) (by omega) (by omega) (by omega) (by omega) hS1 hS2 hT F1 F2 (fun p _ _ => by rw [hρ]) (fun p hp => by rw [hρ]; show π (rotI s m e p) = π p; congr 1; unfold rotI; rw [if_pos (by omega)])
    by_cases hrot : s < m ∧ m < e
    ·have c1 : ((s : Int) < m) := by omega
     have c2 : ((m : Int) < e) := by omega
     simp only [zS, seval, Nat.reduceLeDiff, Nat.reduceEqDiff, reduceCtorEq, reduceIte, q0, q1, c1, c2]
     refine callF_go ((rotate_spec Dm hC.el ys n s m e fv caps hA.el (by omega) hN hrot.1 hrot.2 (by omega)).mono fun r' s' h => ?_)
     obtain ⟨rfl, zs, rfl, hB⟩ := h
     have hZ : Arr Dm xs zs ρ := by rw [hρ]; exact hA.trans hB fun p hp => rotI_lt (by omega) (by omega) (by omega) hp
     have hρπ := t1.bound (by omega) hπ
     simp only [zS, seval, Nat.reduceLeDiff, Nat.reduceEqDiff, reduceCtorEq, reduceIte]
     by_cases hm1 : a < s ∧ s < d
     ·have c1 : ((a : Int) < s) := by omega
      have c2 : ((s : Int) < d) := by omega
      simp only [zS, seval, Nat.reduceLeDiff, Nat.reduceEqDiff, reduceCtorEq, reduceIte, c1, c2]
      refine callF_go ((ih a s d zs ρ (by omega) hZ hρπ hm1.1 hm1.2 (by omega) t2 t3 t6).mono fun r s' h => ?_)
      obtain ⟨rfl, ws, κ1, rfl, hW, m1, s1⟩ := h
      have hκ1 := m1.bound (by omega) hρπ
      simp only [zS, seval, Nat.reduceLeDiff, Nat.reduceEqDiff, reduceCtorEq, reduceIte]
      by_cases hm2 : d < e ∧ e < b
      ·have c3 : ((d : Int) < e) := by omega
       have c4 : ((e : Int) < b) := by omega
       simp only [zS, seval, Nat.reduceLeDiff, Nat.reduceEqDiff, reduceCtorEq, reduceIte, c3, c4]
       refine callF_go ((ih d e b ws κ1 (by omega) hW hκ1 hm2.1 hm2.2 hbn (fun p q q1 q2 q3 => by rw [m1.out p (by omega), m1.out q (by omega)]; exact t4 p q q1 q2 q3) (fun p q q1 q2 q3 => by rw [m1.out p (by omega), m1.out q (by omega)]; exact t5 p q q1 q2 q3) (fun p q q1 q2 q3 q4 => by rw [m1.out p (by omega), m1.out q (by omega)]; exact t7 p q q1 q2 q3 q4)).mono fun r s' h => ?_)
       obtain ⟨rfl, vs, κ2, rfl, hV, m2, s2⟩ := h
       obtain ⟨f1, f2⟩ := merge_join (by omega) (by omega) t1 m1 s1 m2 s2 t8
       simp only [zS, seval, Nat.reduceLeDiff, Nat.reduceEqDiff, reduceCtorEq, reduceIte]
       exact ⟨_, _, WeakR.refl _ _ _, rfl, vs, κ2, rfl, hV, f1, f2⟩
      ·have c3 : (decide ((d : Int) < e) && decide ((e : Int) < b)) = false := by
        simp only [Bool.and_eq_false_iff, decide_eq_false_iff_not]
        omega
       have s2 : Sorted (fun x y => decide (cmpF x y < 0)) xs d b κ1 := fun p q q1 q2 q3 => by
        rw [m1.out p (by omega), m1.out q (by omega)]
        by_cases he : e = d
        ·exact t5 p q (by omega) q2 q3
        ·exact t4 p q q1 q2 (by omega)
       obtain ⟨f1, f2⟩ := merge_join (by omega) (by omega) t1 m1 s1 (Mv.refl d b κ1) s2 t8
       simp only [zS, seval, Nat.reduceLeDiff, Nat.reduceEqDiff, reduceCtorEq, reduceIte, c3]
       exact ⟨_, _, WeakR.refl _ _ _, rfl, ws, κ1, rfl, hW, f1, f2⟩
     ·have c1 : (decide ((a : Int) < s) && decide ((s : Int) < d)) = false := by
       simp only [Bool.and_eq_false_iff, decide_eq_false_iff_not]
       omega
      have s1 : Sorted (fun x y => decide (cmpF x y < 0)) xs a d ρ := fun p q q1 q2 q3 => by
       by_cases he : s = a
       ·exact t3 p q (by omega) q2 q3
       ·exact t2 p q q1 q2 (by omega)
      obtain ⟨ws, κ1, hW, m1, hκ1, ew, ek⟩ : ∃ ws κ1, Arr Dm xs ws κ1 ∧ Mv a d ρ κ1 ∧ (∀ p, p < xs.length → κ1 p < xs.length) ∧ ws = zs ∧ κ1 = ρ := ⟨zs, ρ, hZ, Mv.refl _ _ _, hρπ, rfl, rfl⟩
      rw [← ek] at s1
      simp only [zS, seval, Nat.reduceLeDiff, Nat.reduceEqDiff, reduceCtorEq, reduceIte, c1]
      rw [← ew]
      by_cases hm2 : d < e ∧ e < b
      ·have c3 : ((d : Int) < e) := by omega
       have c4 : ((e : Int) < b) := by omega
       simp only [zS, seval, Nat.reduceLeDiff, Nat.reduceEqDiff, reduceCtorEq, reduceIte, c3, c4]
       refine callF_go ((ih d e b ws κ1 (by omega) hW hκ1 hm2.1 hm2.2 hbn (fun p q q1 q2 q3 => by rw [m1.out p (by omega), m1.out q (by omega)]; exact t4 p q q1 q2 q3) (fun p q q1 q2 q3 => by rw [m1.out p (by omega), m1.out q (by omega)]; exact t5 p q q1 q2 q3) (fun p q q1 q2 q3 q4 => by rw [m1.out p (by omega), m1.out q (by omega)]; exact t7 p q q1 q2 q3 q4)).mono fun r s' h => ?_)
       obtain ⟨rfl, vs, κ2, rfl, hV, m2, s2⟩ := h
       obtain ⟨f1, f2⟩ := merge_join (by omega) (by omega) t1 m1 s1 m2 s2 t8
       simp only [zS, seval, Nat.reduceLeDiff, Nat.reduceEqDiff, reduceCtorEq, reduceIte]
       exact ⟨_, _, WeakR.refl _ _ _, rfl, vs, κ2, rfl, hV, f1, f2⟩
      ·have c3 : (decide ((d : Int) < e) && decide ((e : Int) < b)) = false := by
        simp only [Bool.and_eq_false_iff, decide_eq_false_iff_not]
        omega
       have s2 : Sorted (fun x y => decide (cmpF x y < 0)) xs d b κ1 := fun p q q1 q2 q3 => by
        rw [m1.out p (by omega), m1.out q (by omega)]
        by_cases he : e = d
        ·exact t5 p q (by omega) q2 q3
        ·exact t4 p q q1 q2 (by omega)
       obtain ⟨f1, f2⟩ := merge_join (by omega) (by omega) t1 m1 s1 (Mv.refl d b κ1) s2 t8
       simp only [zS, seval, Nat.reduceLeDiff, Nat.reduceEqDiff, reduceCtorEq, reduceIte, c3]
       exact ⟨_, _, WeakR.refl _ _ _, rfl, ws, κ1, rfl, hW, f1, f2⟩
    ·have c1 : (decide ((s : Int) < m) && decide ((m : Int) < e)) = false := by
      simp only [Bool.and_eq_false_iff, decide_eq_false_iff_not]
      omega
     obtain ⟨zs, hzs⟩ : ∃ zs, zs = ys := ⟨_, rfl⟩
     have hZ : Arr Dm xs zs ρ := by
      rw [hρ, hzs]
      refine hA.congr fun p hp => ?_
      congr 1
      unfold rotI
      repeat' split
      all_goals omega
     have hρπ := t1.bound (by omega) hπ
     rw [← hzs]
     simp only [zS, seval, Nat.reduceLeDiff, Nat.reduceEqDiff, reduceCtorEq, reduceIte, q0, q1, c1]
     by_cases hm1 : a < s ∧ s < d
     ·have c1 : ((a : Int) < s) := by omega
      have c2 : ((s : Int) < d) := by omega
      simp only [zS, seval, Nat.reduceLeDiff, Nat.reduceEqDiff, reduceCtorEq, reduceIte, c1, c2]
      refine callF_go ((ih a s d zs ρ (by omega) hZ hρπ hm1.1 hm1.2 (by omega) t2 t3 t6).mono fun r s' h => ?_)
      obtain ⟨rfl, ws, κ1, rfl, hW, m1, s1⟩ := h
      have hκ1 := m1.bound (by omega) hρπ
      simp only [zS, seval, Nat.reduceLeDiff, Nat.reduceEqDiff, reduceCtorEq, reduceIte]
      by_cases hm2 : d < e ∧ e < b
      ·have c3 : ((d : Int) < e) := by omega
       have c4 : ((e : Int) < b) := by omega
       simp only [zS, seval, Nat.reduceLeDiff, Nat.reduceEqDiff, reduceCtorEq, reduceIte, c3, c4]
       refine callF_go ((ih d e b ws κ1 (by omega) hW hκ1 hm2.1 hm2.2 hbn (fun p q q1 q2 q3 => by rw [m1.out p (by omega), m1.out q (by omega)]; exact t4 p q q1 q2 q3) (fun p q q1 q2 q3 => by rw [m1.out p (by omega), m1.out q (by omega)]; exact t5 p q q1 q2 q3) (fun p q q1 q2 q3 q4 => by rw [m1.out p (by omega), m1.out q (by omega)]; exact t7 p q q1 q2 q3 q4)).mono fun r s' h => ?_)
       obtain ⟨rfl, vs, κ2, rfl, hV, m2, s2⟩ := h
       obtain ⟨f1, f2⟩ := merge_join (by omega) (by omega) t1 m1 s1 m2 s2 t8
       simp only [zS, seval, Nat.reduceLeDiff, Nat.reduceEqDiff, reduceCtorEq, reduceIte]
       exact ⟨_, _, WeakR.refl _ _ _, rfl, vs, κ2, rfl, hV, f1, f2⟩
      ·have c3 : (decide ((d : Int) < e) && decide ((e : Int) < b)) = false := by
        simp only [Bool.and_eq_false_iff, decide_eq_false_iff_not]
        omega
       have s2 : Sorted (fun x y => decide (cmpF x y < 0)) xs d b κ1 := fun p q q1 q2 q3 => by
        rw [m1.out p (by omega), m1.out q (by omega)]
        by_cases he : e = d
        ·exact t5 p q (by omega) q2 q3
        ·exact t4 p q q1 q2 (by omega)
       obtain ⟨f1, f2⟩ := merge_join (by omega) (by omega) t1 m1 s1 (Mv.refl d b κ1) s2 t8
       simp only [zS, seval, Nat.reduceLeDiff, Nat.reduceEqDiff, reduceCtorEq, reduceIte, c3]
       exact ⟨_, _, WeakR.refl _ _ _, rfl, ws, κ1, rfl, hW, f1, f2⟩
     ·have c1 : (decide ((a : Int) < s) && decide ((s : Int) < d)) = false := by
       simp only [Bool.and_eq_false_iff, decide_eq_false_iff_not]
       omega
      have s1 : Sorted (fun x y => decide (cmpF x y < 0)) xs a d ρ := fun p q q1 q2 q3 => by
       by_cases he : s = a
       ·exact t3 p q (by omega) q2 q3
       ·exact t2 p q q1 q2 (by omega)
      obtain ⟨ws, κ1, hW, m1, hκ1, ew, ek⟩ : ∃ ws κ1, Arr Dm xs ws κ1 ∧ Mv a d ρ κ1 ∧ (∀ p, p < xs.length → κ1 p < xs.length) ∧ ws = zs ∧ κ1 = ρ := ⟨zs, ρ, hZ, Mv.refl _ _ _, hρπ, rfl, rfl⟩
      rw [← ek] at s1
      simp only [zS, seval, Nat.reduceLeDiff, Nat.reduceEqDiff, reduceCtorEq, reduceIte, c1]
      rw [← ew]
      by_cases hm2 : d < e ∧ e < b
      ·have c3 : ((d : Int) < e) := by omega
       have c4 : ((e : Int) < b) := by omega
       simp only [zS, seval, Nat.reduceLeDiff, Nat.reduceEqDiff, reduceCtorEq, reduceIte, c3, c4]
       refine callF_go ((ih d e b ws κ1 (by omega) hW hκ1 hm2.1 hm2.2 hbn (fun p q q1 q2 q3 => by rw [m1.out p (by omega), m1.out q (by omega)]; exact t4 p q q1 q2 q3) (fun p q q1 q2 q3 => by rw [m1.out p (by omega), m1.out q (by omega)]; exact t5 p q q1 q2 q3) (fun p q q1 q2 q3 q4 => by rw [m1.out p (by omega), m1.out q (by omega)]; exact t7 p q q1 q2 q3 q4)).mono fun r s' h => ?_)
       obtain ⟨rfl, vs, κ2, rfl, hV, m2, s2⟩ := h
       obtain ⟨f1, f2⟩ := merge_join (by omega) (by omega) t1 m1 s1 m2 s2 t8
       simp only [zS, seval, Nat.reduceLeDiff, Nat.reduceEqDiff, reduceCtorEq, reduceIte]
       exact ⟨_, _, WeakR.refl _ _ _, rfl, vs, κ2, rfl, hV, f1, f2⟩
      ·have c3 : (decide ((d : Int) < e) && decide ((e : Int) < b)) = false := by
        simp only [Bool.and_eq_false_iff, decide_eq_false_iff_not]
        omega
       have s2 : Sorted (fun x y => decide (cmpF x y < 0)) xs d b κ1 := fun p q q1 q2 q3 => by
        rw [m1.out p (by omega), m1.out q (by omega)]
        by_cases he : e = d
        ·exact t5 p q (by omega) q2 q3
        ·exact t4 p q q1 q2 (by omega)
       obtain ⟨f1, f2⟩ := merge_join (by omega) (by omega) t1 m1 s1 (Mv.refl d b κ1) s2 t8
       simp only [zS, seval, Nat.reduceLeDiff, Nat.reduceEqDiff, reduceCtorEq, reduceIte, c3]
       exact ⟨_, _, WeakR.refl _ _ _, rfl, ws, κ1, rfl, hW, f1, f2⟩
 ·have c0 : ¬ ((d : Int) < m) := by omega
  have g7 : True := trivial
  simp only [zS, seval, Nat.reduceLeDiff, Nat.reduceEqDiff, reduceCtorEq, reduceIte, e1, e2, e3, e4, g1, g2, g3, g4, g5, g6, g7, shr1, c0]
  refine loop_of (τ := Nat × Nat) (fun x => [(0, .osl 0 0 n), (1, .d (.int .i64 a)), (2, .d (.int .i64 m)), (3, .d (.int .i64 b)), (4, .fn fv caps), (18, .d (.int .i64 d)), (19, .d (.int .i64 (d + m : Nat))), (20, .d (.int .i64 x.1)), (21, .d (.int .i64 x.2)), (22, .d (.int .i64 (d + m - 1 : Nat)))]) (fun x => (.arr 4 ys :: τ))
   (fun x => s0 ≤ x.1 ∧ x.1 ≤ x.2 ∧ x.2 ≤ r0 ∧ (s0 < x.1 → Lx (fun x y => decide (cmpF x y < 0)) xs (π (x.1 - 1)) (π (d + m - 1 - (x.1 - 1)))) ∧ (x.2 < r0 → Lx (fun x y => decide (cmpF x y < 0)) xs (π (d + m - 1 - x.2)) (π x.2))) (fun x => x.2 - x.1) (s0, r0)
   ⟨Nat.le_refl _, by simp only; omega, Nat.le_refl _, fun h => by simp only at h; omega, fun h => by simp only at h; omega⟩ ?_ ?_
  ·refine weak_sub ?_
   simp only [zS, seval, Nat.reduceLeDiff, Nat.reduceEqDiff, reduceCtorEq, reduceIte, k2, k3]
  ·intro x hi
   obtain ⟨s, r⟩ := x
   obtain ⟨h1, h2, h3, h4, h5⟩ := hi
   simp only at h1 h2 h3 h4 h5
   by_cases hsr : s < r
   ·have q0 : ((s : Int) < r) := by omega
    have q1 : IntKind.i64.wrap ((s : Int) + r) = ((s + r : Nat) : Int) := by rw [wrap64 (by omega) (by omega)]; omega
    have q2 : IntKind.u64.wrap ((s + r : Nat) : Int) = ((s + r : Nat) : Int) := u64_in _ (by omega)
    have q3 : ((s + r : Nat) : Int).fdiv 2 = (((s + r) / 2 : Nat) : Int) := half _ (by omega)
    have q4 : IntKind.i64.wrap (((s + r) / 2 : Nat) : Int) = (((s + r) / 2 : Nat) : Int) := i64_nat _ (by omega)
    obtain ⟨c, e8, e9, e10⟩ : ∃ c, c = (s + r) / 2 ∧ s ≤ c ∧ c < r := ⟨_, rfl, by omega, by omega⟩
    rw [← e8] at q3 q4
    have q5 : IntKind.i64.wrap (((d + m - 1 : Nat) : Int) - c) = ((d + m - 1 - c : Nat) : Int) := by rw [wrap64 (by omega) (by omega)]; omega
    have lc := El.at hC.el hA.el (i := c) (by omega)
    have lp := El.at hC.el hA.el (i := d + m - 1 - c) (by omega)
    have c1 : (c : Int) < (n : Int) := by omega
    have c2 : ((d + m - 1 - c : Nat) : Int) < (n : Int) := by omega
    have c3 : c < ys.length := by omega
    have c4 : d + m - 1 - c < ys.length := by omega
    simp only [zS, seval, Nat.reduceLeDiff, Nat.reduceEqDiff, reduceCtorEq, reduceIte, q0, q1, q2, q3, q4, q5, shr1, lc, lp, c1, c2, c3, c4]
    refine ⟨.inl (by kernel_rfl), callF_ext (v := .d (.int .i64 (cmpF (ys.getD (d + m - 1 - c) default) (ys.getD c default)))) (fun s hs => hC.call _ _ (hA.at (by omega)) (hA.at (by omega)) _ s hs) ?_⟩
    have f1 : ys.getD c default = xs.getD (π c) default := hA.get c (by omega)
    have f2 : ys.getD (d + m - 1 - c) default = xs.getD (π (d + m - 1 - c)) default := hA.get _ (by omega)
    have ht : π c < π (d + m - 1 - c) := hT _ _ (by omega) (by omega) (by omega) (by omega)
    simp only [zS, seval, Nat.reduceLeDiff, Nat.reduceEqDiff, reduceCtorEq, reduceIte]
    refine ifC.mk (fun hc => ?_) (fun hc => ?_)
    ·have hL : Lx (fun x y => decide (cmpF x y < 0)) xs (π c) (π (d + m - 1 - c)) := (Lx.tag' ht).2 (.inl (by rw [← f1, ← f2]; simpa using hc))
     have q6 : IntKind.i64.wrap ((c : Int) + 1) = ((c + 1 : Nat) : Int) := by rw [wrap64 (by omega) (by omega)]; omega
     simp only [zS, seval, Nat.reduceLeDiff, Nat.reduceEqDiff, reduceCtorEq, reduceIte, q6]
     refine ⟨(c + 1, r), ⟨by simp only; omega, by simp only; omega, h3, fun _ => by simp only; exact hL, h5⟩, by simp only; omega, weak_sub ?_⟩
     simp only [zS, seval, Nat.reduceLeDiff, Nat.reduceEqDiff, reduceCtorEq, reduceIte]
    ·have hL : Lx (fun x y => decide (cmpF x y < 0)) xs (π (d + m - 1 - c)) (π c) := (Lx.tag ht).2 (by rw [← f1, ← f2]; simpa using hc)
     refine ⟨(s, c), ⟨h1, by simp only; omega, by simp only; omega, h4, fun _ => hL⟩, by simp only; omega, weak_sub ?_⟩
     simp only [zS, seval, Nat.reduceLeDiff, Nat.reduceEqDiff, reduceCtorEq, reduceIte]
   ·have hs : s = r := by omega
    subst hs
    have q0 : ¬ ((s : Int) < s) := by omega
    have q1 : IntKind.i64.wrap (((d + m : Nat) : Int) - s) = ((d + m - s : Nat) : Int) := by rw [wrap64 (by omega) (by omega)]; omega
    obtain ⟨e, he⟩ : ∃ e, e = d + m - s := ⟨_, rfl⟩
    rw [← he] at q1
    obtain ⟨F1, F2⟩ := merge_found (p := d + m - 1) (s := s) (s0 := s0) (r0 := r0) (e := e) hC.swo hxs hπ (by omega) hS1 hS2 (by omega) h1 h3 (by omega) (by omega) (by omega) (by omega) (by omega) (by omega) (by omega) h4 h5 (by omega) (by omega)
    obtain ⟨ρ, hρ⟩ : ∃ ρ : Nat → Nat, ρ = fun p => π (rotI s m e p) := ⟨_, rfl⟩
    obtain ⟨t1, t2, t3, t4, t5, t6, t7, t8⟩ := merge_turn (ρ := ρ) (s := s) (e := e) (d := d) (by omega) (by omega) (by omega) (by omega) (by omega) hS1 hS2 hT F1 F2 (fun p _ _ => by rw [hρ]) (fun p hp => by rw [hρ]; show π (rotI s m e p) = π p; congr 1; unfold rotI; rw [if_pos (by omega)])
    by_cases hrot : s < m ∧ m < e
    ·have c1 : ((s : Int) < m) := by omega
     have c2 : ((m : Int) < e) := by omega
     simp only [zS, seval, Nat.reduceLeDiff, Nat.reduceEqDiff, reduceCtorEq, reduceIte, q0, q1, c1, c2]
     refine callF_go ((rotate_spec Dm hC.el ys n s m e fv caps hA.el (by omega) hN hrot.1 hrot.2 (by omega)).mono fun r' s' h => ?_)
     obtain ⟨rfl, zs, rfl, hB⟩ := h
     have hZ : Arr Dm xs zs ρ := by rw [hρ]; exact hA.trans hB fun p hp => rotI_lt (by omega) (by omega) (by omega) hp
     have hρπ := t1.bound (by omega) hπ
     simp only [zS, seval, Nat.reduceLeDiff, Nat.reduceEqDiff, reduceCtorEq, reduceIte]
     by_cases hm1 : a < s ∧ s < d
     ·have c1 : ((a : Int) < s) := by omega
      have c2 : ((s : Int) < d) := by omega
      simp only [zS, seval, Nat.reduceLeDiff, Nat.reduceEqDiff, reduceCtorEq, reduceIte, c1, c2]
      refine callF_go ((ih a s d zs ρ (by omega) hZ hρπ hm1.1 hm1.2 (by omega) t2 t3 t6).mono fun r s' h => ?_)
      obtain ⟨rfl, ws, κ1, rfl, hW, m1, s1⟩ := h
      have hκ1 := m1.bound (by omega) hρπ
      simp only [zS, seval, Nat.reduceLeDiff, Nat.reduceEqDiff, reduceCtorEq, reduceIte]
      by_cases hm2 : d < e ∧ e < b
      ·have c3 : ((d : Int) < e) := by omega
       have c4 : ((e : Int) < b) := by omega
       simp only [zS, seval, Nat.reduceLeDiff, Nat.reduceEqDiff, reduceCtorEq, reduceIte, c3, c4]
       refine callF_go ((ih d e b ws κ1 (by omega) hW hκ1 hm2.1 hm2.2 hbn (fun p q q1 q2 q3 => by rw [m1.out p (by omega), m1.out q (by omega)]; exact t4 p q q1 q2 q3) (fun p q q1 q2 q3 => by rw [m1.out p (by omega), m1.out q (by omega)]; exact t5 p q q1 q2 q3) (fun p q q1 q2 q3 q4 => by rw [m1.out p (by omega), m1.out q (by omega)]; exact t7 p q q1 q2 q3 q4)).mono fun r s' h => ?_)
       obtain ⟨rfl, vs, κ2, rfl, hV, m2, s2⟩ := h
       obtain ⟨f1, f2⟩ := merge_join (by omega) (by omega) t1 m1 s1 m2 s2 t8
       simp only [zS, seval, Nat.reduceLeDiff, Nat.reduceEqDiff, reduceCtorEq, reduceIte]
       exact ⟨_, _, WeakR.refl _ _ _, rfl, vs, κ2, rfl, hV, f1, f2⟩
      ·have c3 : (decide ((d : Int) < e) && decide ((e : Int) < b)) = false := by
        simp only [Bool.and_eq_false_iff, decide_eq_false_iff_not]
        omega
       have s2 : Sorted (fun x y => decide (cmpF x y < 0)) xs d b κ1 := fun p q q1 q2 q3 => by
        rw [m1.out p (by omega), m1.out q (by omega)]
        by_cases he : e = d
        ·exact t5 p q (by omega) q2 q3
        ·exact t4 p q q1 q2 (by omega)
       obtain ⟨f1, f2⟩ := merge_join (by omega) (by omega) t1 m1 s1 (Mv.refl d b κ1) s2 t8
       simp only [zS, seval, Nat.reduceLeDiff, Nat.reduceEqDiff, reduceCtorEq, reduceIte, c3]
       exact ⟨_, _, WeakR.refl _ _ _, rfl, ws, κ1, rfl, hW, f1, f2⟩
     ·have c1 : (decide ((a : Int) < s) && decide ((s : Int) < d)) = false := by
       simp only [Bool.and_eq_false_iff, decide_eq_false_iff_not]
       omega
      have s1 : Sorted (fun x y => decide (cmpF x y < 0)) xs a d ρ := fun p q q1 q2 q3 => by
       by_cases he : s = a
       ·exact t3 p q (by omega) q2 q3
       ·exact t2 p q q1 q2 (by omega)
      obtain ⟨ws, κ1, hW, m1, hκ1, ew, ek⟩ : ∃ ws κ1, Arr Dm xs ws κ1 ∧ Mv a d ρ κ1 ∧ (∀ p, p < xs.length → κ1 p < xs.length) ∧ ws = zs ∧ κ1 = ρ := ⟨zs, ρ, hZ, Mv.refl _ _ _, hρπ, rfl, rfl⟩
      rw [← ek] at s1
      simp only [zS, seval, Nat.reduceLeDiff, Nat.reduceEqDiff, reduceCtorEq, reduceIte, c1]
      rw [← ew]
      by_cases hm2 : d < e ∧ e < b
      ·have c3 : ((d : Int) < e) := by omega
       have c4 : ((e : Int) < b) := by omega
       simp only [zS, seval, Nat.reduceLeDiff, Nat.reduceEqDiff, reduceCtorEq, reduceIte, c3, c4]
       refine callF_go ((ih d e b ws κ1 (by omega) hW hκ1 hm2.1 hm2.2 hbn (fun p q q1 q2 q3 => by rw [m1.out p (by omega), m1.out q (by omega)]; exact t4 p q q1 q2 q3) (fun p q q1 q2 q3 => by rw [m1.out p (by omega), m1.out q (by omega)]; exact t5 p q q1 q2 q3) (fun p q q1 q2 q3 q4 => by rw [m1.out p (by omega), m1.out q (by omega)]; exact t7 p q q1 q2 q3 q4)).mono fun r s' h => ?_)
       obtain ⟨rfl, vs, κ2, rfl, hV, m2, s2⟩ := h
       obtain ⟨f1, f2⟩ := merge_join (by omega) (by omega) t1 m1 s1 m2 s2 t8
       simp only [zS, seval, Nat.reduceLeDiff, Nat.reduceEqDiff, reduceCtorEq, reduceIte]
       exact ⟨_, _, WeakR.refl _ _ _, rfl, vs, κ2, rfl, hV, f1, f2⟩
      ·have c3 : (decide ((d : Int) < e) && decide ((e : Int) < b)) = false := by
        simp only [Bool.and_eq_false_iff, decide_eq_false_iff_not]
        omega
       have s2 : Sorted (fun x y => decide (cmpF x y < 0)) xs d b κ1 := fun p q q1 q2 q3 => by
        rw [m1.out p (by omega), m1.out q (by omega)]
        by_cases he : e = d
        ·exact t5 p q (by omega) q2 q3
        ·exact t4 p q q1 q2 (by omega)
       obtain ⟨f1, f2⟩ := merge_join (by omega) (by omega) t1 m1 s1 (Mv.refl d b κ1) s2 t8
       simp only [zS, seval, Nat.reduceLeDiff, Nat.reduceEqDiff, reduceCtorEq, reduceIte, c3]
       exact ⟨_, _, WeakR.refl _ _ _, rfl, ws, κ1, rfl, hW, f1, f2⟩
    ·have c1 : (decide ((s : Int) < m) && decide ((m : Int) < e)) = false := by
      simp only [Bool.and_eq_false_iff, decide_eq_false_iff_not]
      omega
     obtain ⟨zs, hzs⟩ : ∃ zs, zs = ys := ⟨_, rfl⟩
     have hZ : Arr Dm xs zs ρ := by
      rw [hρ, hzs]
      refine hA.congr fun p hp => ?_
      congr 1
      unfold rotI
      repeat' split
      all_goals omega
     have hρπ := t1.bound (by omega) hπ
     rw [← hzs]
     simp only [zS, seval, Nat.reduceLeDiff, Nat.reduceEqDiff, reduceCtorEq, reduceIte, q0, q1, c1]
     by_cases hm1 : a < s ∧ s < d
     ·have c1 : ((a : Int) < s) := by omega
      have c2 : ((s : Int) < d) := by omega
      simp only [zS, seval, Nat.reduceLeDiff, Nat.reduceEqDiff, reduceCtorEq, reduceIte, c1, c2]
      refine callF_go ((ih a s d zs ρ (by omega) hZ hρπ hm1.1 hm1.2 (by omega) t2 t3 t6).mono fun r s' h => ?_)
      obtain ⟨rfl, ws, κ1, rfl, hW, m1, s1⟩ := h
      have hκ1 := m1.bound (by omega) hρπ
      simp only [zS, seval, Nat.reduceLeDiff, Nat.reduceEqDiff, reduceCtorEq, reduceIte]
      by_cases hm2 : d < e ∧ e < b
      ·have c3 : ((d : Int) < e) := by omega
       have c4 : ((e : Int) < b) := by omega
       simp only [zS, seval, Nat.reduceLeDiff, Nat.reduceEqDiff, reduceCtorEq, reduceIte, c3, c4]
       refine callF_go ((ih d e b ws κ1 (by omega) hW hκ1 hm2.1 hm2.2 hbn (fun p q q1 q2 q3 => by rw [m1.out p (by omega), m1.out q (by omega)]; exact t4 p q q1 q2 q3) (fun p q q1 q2 q3 => by rw [m1.out p (by omega), m1.out q (by omega)]; exact t5 p q q1 q2 q3) (fun p q q1 q2 q3 q4 => by rw [m1.out p (by omega), m1.out q (by omega)]; exact t7 p q q1 q2 q3 q4)).mono fun r s' h => ?_)
       obtain ⟨rfl, vs, κ2, rfl, hV, m2, s2⟩ := h
       obtain ⟨f1, f2⟩ := merge_join (by omega) (by omega) t1 m1 s1 m2 s2 t8
       simp only [zS, seval, Nat.reduceLeDiff, Nat.reduceEqDiff, reduceCtorEq, reduceIte]
       exact ⟨_, _, WeakR.refl _ _ _, rfl, vs, κ2, rfl, hV, f1, f2⟩
      ·have c3 : (decide ((d : Int) < e) && decide ((e : Int) < b)) = false := by
        simp only [Bool.and_eq_false_iff, decide_eq_false_iff_not]
        omega
       have s2 : Sorted (fun x y => decide (cmpF x y < 0)) xs d b κ1 := fun p q q1 q2 q3 => by
        rw [m1.out p (by omega), m1.out q (by omega)]
        by_cases he : e = d
        ·exact t5 p q (by omega) q2 q3
        ·exact t4 p q q1 q2 (by omega)
       obtain ⟨f1, f2⟩ := merge_join (by omega) (by omega) t1 m1 s1 (Mv.refl d b κ1) s2 t8
       simp only [zS, seval, Nat.reduceLeDiff, Nat.reduceEqDiff, reduceCtorEq, reduceIte, c3]
       exact ⟨_, _, WeakR.refl _ _ _, rfl, ws, κ1, rfl, hW, f1, f2⟩
     ·have c1 : (decide ((a : Int) < s) && decide ((s : Int) < d)) = false := by
       simp only [Bool.and_eq_false_iff, decide_eq_false_iff_not]
       omega
      have s1 : Sorted (fun x y => decide (cmpF x y < 0)) xs a d ρ := fun p q q1 q2 q3 => by
       by_cases he : s = a
       ·exact t3 p q (by omega) q2 q3
       ·exact t2 p q q1 q2 (by omega)
      obtain ⟨ws, κ1, hW, m1, hκ1, ew, ek⟩ : ∃ ws κ1, Arr Dm xs ws κ1 ∧ Mv a d ρ κ1 ∧ (∀ p, p < xs.length → κ1 p < xs.length) ∧ ws = zs ∧ κ1 = ρ := ⟨zs, ρ, hZ, Mv.refl _ _ _, hρπ, rfl, rfl⟩
      rw [← ek] at s1
      simp only [zS, seval, Nat.reduceLeDiff, Nat.reduceEqDiff, reduceCtorEq, reduceIte, c1]
      rw [← ew]
      by_cases hm2 : d < e ∧ e < b
      ·have c3 : ((d : Int) < e) := by omega
       have c4 : ((e : Int) < b) := by omega
       simp only [zS, seval, Nat.reduceLeDiff, Nat.reduceEqDiff, reduceCtorEq, reduceIte, c3, c4]
       refine callF_go ((ih d e b ws κ1 (by omega) hW hκ1 hm2.1 hm2.2 hbn (fun p q q1 q2 q3 => by rw [m1.out p (by omega), m1.out q (by omega)]; exact t4 p q q1 q2 q3) (fun p q q1 q2 q3 => by rw [m1.out p (by omega), m1.out q (by omega)]; exact t5 p q q1 q2 q3) (fun p q q1 q2 q3 q4 => by rw [m1.out p (by omega), m1.out q (by omega)]; exact t7 p q q1 q2 q3 q4)).mono fun r s' h => ?_)
       obtain ⟨rfl, vs, κ2, rfl, hV, m2, s2⟩ := h
       obtain ⟨f1, f2⟩ := merge_join (by omega) (by omega) t1 m1 s1 m2 s2 t8
       simp only [zS, seval, Nat.reduceLeDiff, Nat.reduceEqDiff, reduceCtorEq, reduceIte]
       exact ⟨_, _, WeakR.refl _ _ _, rfl, vs, κ2, rfl, hV, f1, f2⟩
      ·have c3 : (decide ((d : Int) < e) && decide ((e : Int) < b)) = false := by
        simp only [Bool.and_eq_false_iff, decide_eq_false_iff_not]
        omega
       have s2 : Sorted (fun x y => decide (cmpF x y < 0)) xs d b κ1 := fun p q q1 q2 q3 => by
        rw [m1.out p (by omega), m1.out q (by omega)]
        by_cases he : e = d
        ·exact t5 p q (by omega) q2 q3
        ·exact t4 p q q1 q2 (by omega)
       obtain ⟨f1, f2⟩ := merge_join (by omega) (by omega) t1 m1 s1 (Mv.refl d b κ1) s2 t8
       simp only [zS, seval, Nat.reduceLeDiff, Nat.reduceEqDiff, reduceCtorEq, reduceIte, c3]
       exact ⟨_, _, WeakR.refl _ _ _, rfl, ws, κ1, rfl, hW, f1, f2⟩

theorem merge_spec (Dm : D → Prop) (cmpF : D → D → Int) (fv : FuncId) (caps : List AV) (hC : CmpOk Gl τ Dm cmpF fv caps) (xs : List D) (hxs : ∀ y ∈ xs, Dm y) (n : Nat) (hn : n ≤ xs.length) (hN : n < 1000000) :
  ∀ (N a m b : Nat) (ys : List D) (π : Nat → Nat), b - a ≤ N → Arr Dm xs ys π → (∀ p, p < xs.length → π p < xs.length) → a < m → m < b → b ≤ n → Sorted (fun x y => decide (cmpF x y < 0)) xs a m π → Sorted (fun x y => decide (cmpF x y < 0)) xs m b π → Tags a m b π →
   ACalls Tryz.prog Gl 105 [.osl 0 0 n, .d (.int .i64 a), .d (.int .i64 m), .d (.int .i64 b), .fn fv caps] (.arr 4 ys :: τ) (Merged τ Dm cmpF xs a b π) := by
 intro N
 induction N with
 | zero => intro a m b ys π h1 _ _ h2 h3; omega
 | succ N ih =>
  intro a m b ys π h1 hA hπ ham hmb hbn hS1 hS2 hT
  by_cases hb : m = a + 1 ∨ b = m + 1
  ·exact merge_base Dm cmpF fv caps hC xs hxs n hn hN a m b ys π hA hπ ham hmb hbn hS1 hS2 hT hb
  ·exact merge_gen Dm cmpF fv caps hC xs hxs n hn hN a m b ys π hA hπ ham hmb hbn hS1 hS2 hT (by omega) (by omega) fun a' m' b' ys' π' q1 => ih a' m' b' ys' π' (by omega)
def Stabled (τ : Sto) (Dm : D → Prop) (cmpF : D → D → Int) (xs : List D) (n : Nat) (s : Sto) : Prop :=
 ∃ zs ρ, s = (.arr 4 zs :: τ) ∧ Arr Dm xs zs ρ ∧ Blo (fun x y => decide (cmpF x y < 0)) xs 0 n ρ ∧ (∀ p, n ≤ p → ρ p = p)
theorem stable_spec (Dm : D → Prop) (cmpF : D → D → Int) (fv : FuncId) (caps : List AV) (hC : CmpOk Gl τ Dm cmpF fv caps) (xs : List D) (hxs : ∀ y ∈ xs, Dm y) (n : Nat) (hn : n ≤ xs.length) (hN : n < 1000000) :
  ACalls Tryz.prog Gl 73 [.osl 0 0 n, .d (.int .i64 n), .fn fv caps] (.arr 4 xs :: τ) (fun r s => r = .tup [] ∧ Stabled τ Dm cmpF xs n s) := by
 refine acalls_of Tryz.func73 rfl rfl (by simp [Tryz.ntmps73]) (evC_sound rfl _ _ _ _ ?_)
 simp only [Tryz.ntmps73, Tryz.results73, argEnv, List.length_nil]
 simp only [zS, seval, Nat.reduceLeDiff, Nat.reduceEqDiff, reduceCtorEq, reduceIte]
 refine loop_of (τ := Nat × List D) (fun x => [(0, .osl 0 0 n), (1, .d (.int .i64 n)), (2, .fn fv caps), (6, .d (.int .i64 20)), (7, .d (.int .i64 x.1)), (8, .d (.int .i64 (x.1 + 20 : Nat)))]) (fun x => (.arr 4 x.2 :: τ))
  (fun x => Cut 20 x.1 ∧ x.1 ≤ n ∧ ∃ ρ, Arr Dm xs x.2 ρ ∧ Blks (fun x y => decide (cmpF x y < 0)) xs 20 n 0 x.1 ρ ∧ (∀ p, x.1 ≤ p → ρ p = p) ∧ (∀ p, p < xs.length → ρ p < xs.length)) (fun x => n - x.1) (0, xs)
  ⟨Cut.zero _, Nat.zero_le _, fun i => i, Arr.refl hxs, fun c _ h1 h2 => by simp only at h2; omega, fun _ _ => rfl, fun _ h => h⟩ ?_ ?_
 ·refine weak_sub ?_
  simp only [zS, seval, Nat.reduceLeDiff, Nat.reduceEqDiff, reduceCtorEq, reduceIte]
  all_goals rfl
 ·intro x hi
  obtain ⟨a, ys⟩ := x
  obtain ⟨h1, h2, ρ, hA, hB, hid, hbd⟩ := hi
  simp only at h1 h2 hA hB hid
  have hl := hA.len
  by_cases h : a + 20 ≤ n
  ·have c1 : ((a + 20 : Nat) : Int) ≤ n := by omega
   simp only [zS, seval, Nat.reduceLeDiff, Nat.reduceEqDiff, reduceCtorEq, reduceIte, c1]
   refine callF_go ((insertion_spec Dm cmpF fv caps hC xs ys hxs n a (a + 20) ρ hA hbd hn hN (by omega) h (fun p q p1 p2 p3 => by rw [hid p p1, hid q (by omega)]; exact p2)).mono fun r s h => ?_)
   obtain ⟨rfl, zs, κ, rfl, hZ, hM, hS⟩ := h
   obtain ⟨b1, b2⟩ := blks_step (n := n) (by omega) h1 (show a + 20 = min (a + 20) n by omega) hB hid hM hS
   have e1 : IntKind.i64.wrap (((a + 20 : Nat) : Int) + 20) = ((a + 20 + 20 : Nat) : Int) := by rw [wrap64 (by omega) (by omega)]; omega
   simp only [zS, seval, Nat.reduceLeDiff, Nat.reduceEqDiff, reduceCtorEq, reduceIte, e1]
   refine ⟨(a + 20, zs), ⟨h1.next, h, κ, hZ, blks_more h1 b1 (Nat.le_refl _), fun p hp => b2 p hp (by simp only at hp; omega), hM.bound (by omega) hbd⟩, by simp only; omega, weak_sub ?_⟩
   simp only [zS, seval, Nat.reduceLeDiff, Nat.reduceEqDiff, reduceCtorEq, reduceIte]
  ·have c1 : ¬ ((a + 20 : Nat) : Int) ≤ n := by omega
   simp only [zS, seval, Nat.reduceLeDiff, Nat.reduceEqDiff, reduceCtorEq, reduceIte, c1]
   refine callF_go ((insertion_spec Dm cmpF fv caps hC xs ys hxs n a n ρ hA hbd hn hN h2 (Nat.le_refl _) (fun p q p1 p2 p3 => by rw [hid p p1, hid q (by omega)]; exact p2)).mono fun r s h => ?_)
   obtain ⟨rfl, us, κ, rfl, hU, hM, hS⟩ := h
   obtain ⟨b1, b2⟩ := blks_step (n := n) (by omega) h1 (show n = min (a + 20) n by omega) hB hid hM hS
   have hbd := hM.bound (by omega) hbd
   have b3 := blks_more (a' := n) h1 b1 (by omega)
   have b2 : ∀ p, n ≤ p → κ p = p := fun p hp => b2 p hp (by omega)
   clear hB hid hA
   simp only [zS, seval, Nat.reduceLeDiff, Nat.reduceEqDiff, reduceCtorEq, reduceIte]
   refine loop_of (τ := Nat × List D) (fun x => [(0, .osl 0 0 n), (1, .d (.int .i64 n)), (2, .fn fv caps), (6, .d (.int .i64 x.1))]) (fun x => (.arr 4 x.2 :: τ))
    (fun x => 0 < x.1 ∧ (x.1 ≤ 20 ∨ x.1 < 2 * n) ∧ ∃ ρ, Arr Dm xs x.2 ρ ∧ Blks (fun x y => decide (cmpF x y < 0)) xs x.1 n 0 n ρ ∧ (∀ p, n ≤ p → ρ p = p) ∧ (∀ p, p < xs.length → ρ p < xs.length)) (fun x => n - x.1) (20, us)
    ⟨by simp only; omega, .inl (Nat.le_refl _), κ, hU, b3, b2, hbd⟩ ?_ ?_
   ·refine weak_sub ?_
    simp only [zS, seval, Nat.reduceLeDiff, Nat.reduceEqDiff, reduceCtorEq, reduceIte]
    all_goals rfl
   ·clear b1 b2 b3 hU hbd hM hS
    intro x hi
    obtain ⟨s, ys⟩ := x
    obtain ⟨h3, h4, ρ, hA, hB, hid, hbd⟩ := hi
    simp only at h3 h4 hA hB
    have hl := hA.len
    by_cases h : s < n
    ·have c1 : (s : Int) < n := by omega
     have e1 : IntKind.i64.wrap (2 * (s : Int)) = ((2 * s : Nat) : Int) := by rw [wrap64 (by omega) (by omega)]; omega
     simp only [zS, seval, Nat.reduceLeDiff, Nat.reduceEqDiff, reduceCtorEq, reduceIte, c1, e1]
     refine loop_of (τ := Nat × List D) (fun x => [(0, .osl 0 0 n), (1, .d (.int .i64 n)), (2, .fn fv caps), (6, .d (.int .i64 s)), (7, .d (.int .i64 x.1)), (8, .d (.int .i64 (x.1 + 2 * s : Nat)))]) (fun x => (.arr 4 x.2 :: τ))
      (fun x => Cut (2 * s) x.1 ∧ x.1 ≤ n ∧ ∃ ρ, Arr Dm xs x.2 ρ ∧ Blks (fun x y => decide (cmpF x y < 0)) xs s n x.1 n ρ ∧ Blks (fun x y => decide (cmpF x y < 0)) xs (2 * s) n 0 x.1 ρ ∧ (∀ p, n ≤ p → ρ p = p) ∧ (∀ p, p < xs.length → ρ p < xs.length)) (fun x => n - x.1) (0, ys)
      ⟨Cut.zero _, Nat.zero_le _, ρ, hA, hB, fun c _ h1 h2 => by simp only at h2; omega, hid, hbd⟩ ?_ ?_
     ·refine weak_sub ?_
      simp only [zS, seval, Nat.reduceLeDiff, Nat.reduceEqDiff, reduceCtorEq, reduceIte]
      all_goals rfl
     ·clear hA hB hid hbd hl
      intro x hi
      obtain ⟨a, ys⟩ := x
      obtain ⟨h5, h6, ρ, hA, hB, hD, hid, hbd⟩ := hi
      simp only at h5 h6 hA hB hD
      have hl := hA.len
      have e2 : IntKind.i64.wrap ((a : Int) + s) = ((a + s : Nat) : Int) := by rw [wrap64 (by omega) (by omega)]; omega
      by_cases h : a + 2 * s ≤ n
      ·have c1 : ((a + 2 * s : Nat) : Int) ≤ n := by omega
       have hb : a + 2 * s = min (a + 2 * s) n := by omega
       obtain ⟨m1, m2, m3, m4⟩ := merge_pre (b := a + 2 * s) h5 h3 (by omega) hb hB
       simp only [zS, seval, Nat.reduceLeDiff, Nat.reduceEqDiff, reduceCtorEq, reduceIte, c1, e2]
       refine callF_go ((merge_spec Dm cmpF fv caps hC xs hxs n hn hN _ a (a + s) (a + 2 * s) ys ρ (Nat.le_refl _) hA hbd (by omega) (by omega) h m1 m2 m3).mono fun r st hh => ?_)
       obtain ⟨rfl, zs, κ, rfl, hZ, hM, hS⟩ := hh
       obtain ⟨q1, q2⟩ := merge_step h5 h3 (by omega) hb hB hD hM hS
       have e3 : IntKind.i64.wrap (((a + 2 * s : Nat) : Int) + ((2 * s : Nat) : Int)) = ((a + 2 * s + 2 * s : Nat) : Int) := by rw [wrap64 (by omega) (by omega)]; omega
       simp only [zS, seval, Nat.reduceLeDiff, Nat.reduceEqDiff, reduceCtorEq, reduceIte, e1, e3]
       refine ⟨(a + 2 * s, zs), ⟨h5.next, h, κ, hZ, q1, blks_more h5 q2 (Nat.le_refl _), fun p hp => by rw [hM.out p (by omega)]; exact hid p hp, hM.bound (by omega) hbd⟩, by simp only; omega, weak_sub ?_⟩
       simp only [zS, seval, Nat.reduceLeDiff, Nat.reduceEqDiff, reduceCtorEq, reduceIte]
      ·have c1 : ¬ ((a + 2 * s : Nat) : Int) ≤ n := by omega
       by_cases hm : a + s < n
       ·have c2 : ((a + s : Nat) : Int) < n := by omega
        have hb : n = min (a + 2 * s) n := by omega
        obtain ⟨m1, m2, m3, m4⟩ := merge_pre (b := n) h5 h3 (by omega) hb hB
        simp only [zS, seval, Nat.reduceLeDiff, Nat.reduceEqDiff, reduceCtorEq, reduceIte, c1, c2, e2]
        refine callF_go ((merge_spec Dm cmpF fv caps hC xs hxs n hn hN _ a (a + s) n ys ρ (Nat.le_refl _) hA hbd (by omega) (by omega) (Nat.le_refl _) m1 m2 m3).mono fun r st hh => ?_)
        obtain ⟨rfl, zs, κ, rfl, hZ, hM, hS⟩ := hh
        obtain ⟨q1, q2⟩ := merge_step h5 h3 (by omega) hb hB hD hM hS
        have e3 : IntKind.i64.wrap ((s : Int) * 2) = ((2 * s : Nat) : Int) := by rw [wrap64 (by omega) (by omega)]; omega
        simp only [zS, seval, Nat.reduceLeDiff, Nat.reduceEqDiff, reduceCtorEq, reduceIte, e3]
        refine ⟨(2 * s, zs), ⟨by simp only; omega, .inr (by simp only; omega), κ, hZ, blks_more h5 q2 (by omega), fun p hp => by rw [hM.out p (by omega)]; exact hid p hp, hM.bound (by omega) hbd⟩, by simp only; omega, weak_sub ?_⟩
        simp only [zS, seval, Nat.reduceLeDiff, Nat.reduceEqDiff, reduceCtorEq, reduceIte]
       ·have c2 : ¬ ((a + s : Nat) : Int) < n := by omega
        have e3 : IntKind.i64.wrap ((s : Int) * 2) = ((2 * s : Nat) : Int) := by rw [wrap64 (by omega) (by omega)]; omega
        simp only [zS, seval, Nat.reduceLeDiff, Nat.reduceEqDiff, reduceCtorEq, reduceIte, c1, c2, e2, e3]
        refine ⟨(2 * s, ys), ⟨by simp only; omega, .inr (by simp only; omega), ρ, hA, merge_alone h5 h3 (by omega) hB hD, hid, hbd⟩, by simp only; omega, weak_sub ?_⟩
        simp only [zS, seval, Nat.reduceLeDiff, Nat.reduceEqDiff, reduceCtorEq, reduceIte]
    ·have c1 : ¬ (s : Int) < n := by omega
     simp only [zS, seval, Nat.reduceLeDiff, Nat.reduceEqDiff, reduceCtorEq, reduceIte, c1]
     exact ⟨_, _, WeakR.refl _ _ _, rfl, ys, ρ, rfl, hA, blks_done (by omega) hB, hid⟩
theorem sortStable_spec (Dm : D → Prop) (cmpF : D → D → Int) (fv : FuncId) (caps : List AV) (hC : CmpOk Gl τ Dm cmpF fv caps) (xs : List D) (hxs : ∀ y ∈ xs, Dm y) (n : Nat) (hn : n ≤ xs.length) (hN : n < 1000000) :
  ACalls Tryz.prog Gl 38 [.osl 0 0 n, .fn fv caps] (.arr 4 xs :: τ) (fun r s => r = .tup [] ∧ Stabled τ Dm cmpF xs n s) := by
 refine acalls_of Tryz.func38 rfl rfl (by simp [Tryz.ntmps38]) (evC_sound rfl _ _ _ _ ?_)
 simp only [Tryz.ntmps38, Tryz.results38, argEnv, List.length_nil]
 simp only [zS, seval, Nat.reduceLeDiff, Nat.reduceEqDiff, reduceCtorEq, reduceIte]
 refine callF_go ((stable_spec Dm cmpF fv caps hC xs hxs n hn hN).mono fun r s h => ?_)
 obtain ⟨rfl, h⟩ := h
 simp only [zS, seval, Nat.reduceLeDiff, Nat.reduceEqDiff, reduceCtorEq, reduceIte]
 exact ⟨_, _, WeakR.refl _ _ _, rfl, h⟩
end YtmedpoeeoihfmaaGreatDoor
end Go.Proofs
