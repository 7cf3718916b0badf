/- A part of the proof: contracts of functions of this seat, and lemmas. No condition beyond those stated. -/
import Derived.Test.YtfmbadfdbjhekaaDoorWdno
import Derived.Lib.Mul64
import Derived.Laws.Bits64b
set_option linter.unusedVariables false
set_option linter.unusedSimpArgs false
set_option linter.unusedSectionVars false
set_option linter.unnecessarySimpa false
set_option maxRecDepth 100000
namespace Go.Proofs
open Go.AM
namespace Mul64
theorem wrapN (a : Nat) (ha : a < 18446744073709551616) : IntKind.u64.wrap (a : Int) = (a : Int) := by rw [IntKind.wrap_u64]; omega
end Mul64
namespace YtfmbadfdbjhekaaDoor
variable {Gl : Globs}
theorem and32 (a : Nat) (ha : a < 18446744073709551616) : intBin .and .u64 (a : Int) 4294967295 = .int .u64 ((a % 4294967296 : Nat) : Int) := by
 have h := bits_and_u64_nat a 4294967295 ha (by omega)
 have e : a &&& 4294967295 = a % 4294967296 := Nat.and_two_pow_sub_one_eq_mod a 32
 rw [e] at h
 rw [← h]; rfl
theorem shr32 (a : Nat) : intBin .shr .u64 (a : Int) 32 = .int .u64 ((a / 4294967296 : Nat) : Int) := by
 show D.int .u64 (Int.fdiv (a : Int) (2 ^ (min 32 64))) = _
 rw [Int.fdiv_eq_ediv_of_nonneg _ (by decide)]
 rfl
theorem okAnd (b : Int) : intBinOk .and .u64 .u64 b = True := eq_true rfl
theorem k_Mul64 (n : Nat) (hn : n ≤ 2000) : Pure Tryd.prog Gl 59 [.d (.int .u64 1), .d (.int .u64 n)] (.tup [.d (.int .u64 0), .d (.int .u64 n)]) := by
 have e1 : intBin .and .u64 1 4294967295 = .int .u64 1 := and32 1 (by omega)
 have e2 : intBin .and .u64 n 4294967295 = .int .u64 n := by rw [and32 n (by omega), Nat.mod_eq_of_lt (by omega)]
 have e3 : intBin .and .u64 0 4294967295 = .int .u64 0 := and32 0 (by omega)
 have s1 : intBin .shr .u64 1 32 = .int .u64 0 := shr32 1
 have s2 : intBin .shr .u64 n 32 = .int .u64 0 := by rw [shr32 n, Nat.div_eq_of_lt (by omega)]; rfl
 have s3 : intBin .shr .u64 0 32 = .int .u64 0 := shr32 0
 have w0 : IntKind.u64.wrap 0 = 0 := rfl
 have wn : IntKind.u64.wrap (n : Int) = n := Mul64.wrapN n (by omega)
 refine Pure.of2t2 ?_
 refine acalls_of Tryd.func59 rfl rfl (by simp [Tryd.ntmps59]) (evC_sound rfl _ _ _ _ ?_)
 simp only [Tryd.ntmps59, Tryd.results59, argEnv, List.length_nil]
 simp only [zN, seval, implies_true, Nat.reduceLeDiff, Nat.reduceEqDiff, reduceCtorEq, reduceIte, intD, okAnd, true_and, e1, e2, e3, s1, s2, s3, w0, wn, Int.one_mul, Int.zero_mul, Int.mul_zero, Int.add_zero, Int.mul_one]
 exact ⟨_, _, ret_t2, rfl, rfl⟩
theorem k_Mul (n : Nat) (hn : n ≤ 2000) : Pure Tryd.prog Gl 40 [.d (.int .u64 1), .d (.int .u64 n)] (.tup [.d (.int .u64 0), .d (.int .u64 n)]) := by
 refine Pure.of2t2 ?_
 refine acalls_of Tryd.func40 rfl rfl (by simp [Tryd.ntmps40]) (evC_sound rfl _ _ _ _ ?_)
 simp only [Tryd.ntmps40, Tryd.results40, argEnv, List.length_nil]
 simp only [zN, seval, implies_true, Nat.reduceLeDiff, Nat.reduceEqDiff, reduceCtorEq, reduceIte, intD]
 refine callF_pure (k_Mul64 n hn) ?_
 simp only [zN, seval, implies_true, Nat.reduceLeDiff, Nat.reduceEqDiff, reduceCtorEq, reduceIte, intD]
 repeat ((with_reducible refine And.intro ?_ ?_); (focus (first | omega | (simp only [lenR]; omega) | (refine qq ?_; rfl) | (refine dq ?_; kernel_rfl) | (intros; simp_all; done))))
 exact ⟨_, _, ret_t2, rfl, rfl⟩
theorem k_EqualTexts (x y : List (List UInt8)) (hx : x.length < 1000000) (hy : y.length < 1000000) : Pure Tryd.prog Gl 45 [.d (.sl (x.map .str)), .d (.sl (y.map .str))] (.d (.bool (decide (x = y)))) := by
 refine Pure.of2 ?_
 refine acalls_of Tryd.func45 rfl rfl (by simp [Tryd.ntmps45]) (evC_sound rfl _ _ _ _ ?_)
 simp only [Tryd.ntmps45, Tryd.results45, argEnv, List.length_nil]
 simp only [zN, seval, implies_true, Nat.reduceLeDiff, Nat.reduceEqDiff, reduceCtorEq, reduceIte, intD]
 refine ifC.mk (fun h1 => ?_) (fun h1 => ?_)
 ·have h1 : x.length ≠ y.length := by simp at h1; omega
  refine ⟨_, _, ret_d, ?_, rfl⟩
  rw [decide_eq_false (fun e => h1 (by rw [e]))]
 ·have h1 : x.length = y.length := by simp at h1; omega
  refine for_of x.length (fun j => [(0, .d (.sl (x.map .str))), (1, .d (.sl (y.map .str))), (12, .d (.int .i64 x.length)), (13, .d (.int .i64 j))]) (fun _ => []) (fun j => x.take j = y.take j) rfl ?_ ?_
  ·refine weak_to [] [] rfl List.nodup_nil ?_ rfl
   simp only [zN, seval, implies_true, Nat.reduceLeDiff, Nat.reduceEqDiff, reduceCtorEq, reduceIte, intD, Int.cast_ofNat_Int]
  ·intro j hi hjl
   by_cases hj : j < x.length
   ·have hj2 : j < y.length := by omega
    have e1 := take_step x j hj
    have e2 := take_step y j hj2
    have g1 : (x.map D.str).getD j default = .str (x.getD j default) := by simp [hj]
    have g2 : (y.map D.str).getD j default = .str (y.getD j default) := by simp [hj2]
    simp only [zN, seval, implies_true, Nat.reduceLeDiff, Nat.reduceEqDiff, reduceCtorEq, reduceIte, intD, (show (j:Int) < x.length by omega), (show (j:Int) < y.length by omega), hj, hj2, g1, g2]
    repeat ((with_reducible refine And.intro ?_ ?_); (focus (first | omega | (simp only [lenR]; omega) | (refine qq ?_; rfl) | (refine dq ?_; kernel_rfl) | (intros; simp_all; done))))
    refine ifC.mk (fun h2 => ?_) (fun h2 => ?_)
    ·have h2 : x.getD j default ≠ y.getD j default := by simpa using h2
     refine ⟨_, _, ret_d, ?_, rfl⟩
     rw [decide_eq_false (fun e => h2 (by rw [e]))]
    ·have h2 : x.getD j default = y.getD j default := by simpa using h2
     refine ⟨by rw [e1, e2, hi, h2], ?_⟩
     refine weak_to [] [] rfl List.nodup_nil ?_ rfl
     simp only [zN, seval, implies_true, Nat.reduceLeDiff, Nat.reduceEqDiff, reduceCtorEq, reduceIte, intD, @a_wrap ((j:Int) + 1) (by omega)]
   ·have : j = x.length := by omega
    subst this
    simp only [zN, seval, implies_true, Nat.reduceLeDiff, Nat.reduceEqDiff, reduceCtorEq, reduceIte, intD, (show ¬ (x.length:Int) < x.length by omega)]
    refine ⟨_, _, ret_d, ?_, rfl⟩
    rw [List.take_length, h1, List.take_length] at hi
    rw [decide_eq_true hi]
def fill (n j : Nat) : List D := (List.range n).map fun i => if i < j then .int .i64 (-1) else .int .i64 0
theorem fill_len (n j : Nat) : (fill n j).length = n := by simp [fill]
theorem fill_at {n j i : Nat} (h : i < n) : (fill n j)[i]? = some (if i < j then .int .i64 (-1) else .int .i64 0) := by simp [fill, h]
theorem fill_getD {n j i : Nat} (h : i < n) : (fill n j).getD i default = if i < j then .int .i64 (-1) else .int .i64 0 := by
 rw [List.getD_eq_getElem?_getD, fill_at h]; rfl
theorem fill_all (n : Nat) : fill n n = (List.replicate n (-1 : Int)).map (.int .i64) := by
 apply List.ext_getElem?
 intro i
 rcases Nat.lt_or_ge i n with h | h
 ·rw [fill_at h, if_pos h]; simp [h]
 ·rw [List.getElem?_eq_none (by rw [fill_len]; exact h), List.getElem?_eq_none (by simp; exact h)]
theorem fill_zero (n : Nat) : fill n 0 = List.replicate n (.int .i64 0) := by
 apply List.ext_getElem?
 intro i
 rcases Nat.lt_or_ge i n with h | h
 ·rw [fill_at h, if_neg (by omega)]; simp [h]
 ·rw [List.getElem?_eq_none (by rw [fill_len]; exact h), List.getElem?_eq_none (by simp; exact h)]
theorem fill_one (n : Nat) : cpX (fill n 0) 0 (min 1 n) [.int .i64 (-1)] = fill n (min 1 n) := by
 apply List.ext_getElem?
 intro i
 rcases Nat.lt_or_ge i n with h | h
 ·rw [cpX_get _ _ _ _ _ (by rw [fill_len]; exact h), fill_at h, fill_getD h]
  by_cases h0 : i = 0
  ·subst h0
   rw [if_pos (by omega), if_pos (by omega)]; rfl
  ·rw [if_neg (by omega), if_neg (by omega), if_neg (by omega)]
 ·rw [List.getElem?_eq_none (by rw [cpX_length, fill_len]; exact h), List.getElem?_eq_none (by rw [fill_len]; exact h)]
theorem fill_step (n j : Nat) (hj : j ≤ n) : cpX (fill n j) j (min j (n - j)) ((fill n j).take j) = fill n (j + min j (n - j)) := by
 apply List.ext_getElem?
 intro i
 rcases Nat.lt_or_ge i n with h | h
 ·rw [cpX_get _ _ _ _ _ (by rw [fill_len]; exact h), fill_at h, fill_getD h]
  by_cases h0 : j ≤ i ∧ i < j + min j (n - j)
  ·rw [if_pos h0, if_pos h0.2, List.getD_eq_getElem?_getD, List.getElem?_take_of_lt (by omega), fill_at (by omega), if_pos (by omega)]; rfl
  ·rw [if_neg h0]
   by_cases h1 : i < j
   ·rw [if_pos h1, if_pos (by omega)]
   ·rw [if_neg h1, if_neg (by omega)]
 ·rw [List.getElem?_eq_none (by rw [cpX_length, fill_len]; exact h), List.getElem?_eq_none (by rw [fill_len]; exact h)]
theorem k_Repeat (n : Nat) (hn : n ≤ 2000) : ACalls Tryd.prog Gl 27 [.d (.sl [.int .i64 (-1)]), .d (.int .i64 n)] [] (fun r s => r = .osl 0 0 n ∧ s = [.arr 1 ((List.replicate n (-1 : Int)).map (.int .i64))]) := by
 have w1 : IntKind.u64.wrap 1 = 1 := rfl
 have wn : IntKind.u64.wrap (n : Int) = n := Mul64.wrapN n (by omega)
 refine acalls_of Tryd.func27 rfl rfl (by simp [Tryd.ntmps27]) (evC_sound rfl _ _ _ _ ?_)
 simp only [Tryd.ntmps27, Tryd.results27, argEnv, List.length_nil]
 simp only [zN, seval, implies_true, Nat.reduceLeDiff, Nat.reduceEqDiff, reduceCtorEq, reduceIte, intD, (show ¬ (n:Int) < 0 by omega), w1, wn]
 repeat ((with_reducible refine And.intro ?_ ?_); (focus (first | omega | (simp only [lenR]; omega) | (refine qq ?_; rfl) | (refine dq ?_; kernel_rfl) | (intros; simp_all; done))))
 refine callF_pure (k_Mul n hn) ?_
 simp only [zN, seval, implies_true, Nat.reduceLeDiff, Nat.reduceEqDiff, reduceCtorEq, reduceIte, intD, (show ¬ 9223372036854775807 < (n:Int) by omega), @a_wrap ((n:Int)) (by omega), mk_ints n (by omega), mkS_ints, List.length_replicate, ← fill_zero, fill_len, List.length_singleton, fill_one]
 repeat ((with_reducible refine And.intro ?_ ?_); (focus (first | omega | (simp only [lenR]; omega) | (refine qq ?_; rfl) | (refine dq ?_; kernel_rfl) | (intros; simp_all; done))))
 refine loop_of (τ := Nat) (fun j => [(7, .osl 0 0 n), (8, .d (.int .i64 j))]) (fun j => [.arr 1 (fill n j)]) (fun j => j ≤ n ∧ (0 < n → 0 < j)) (fun j => n - j) (min 1 n) ⟨by omega, by omega⟩ ?_ ?_
 ·refine weak_to [] [0] rfl (by simp) ?_ rfl
  simp only [zN, seval, implies_true, Nat.reduceLeDiff, Nat.reduceEqDiff, reduceCtorEq, reduceIte, intD]
 ·rintro j ⟨hj, h0⟩
  by_cases h : j < n
  ·have h0 := h0 (by omega)
   simp only [zN, seval, implies_true, Nat.reduceLeDiff, Nat.reduceEqDiff, reduceCtorEq, reduceIte, intD, (show (j:Int) < n by omega), fill_len, List.length_take, List.drop_zero, Nat.sub_zero]
   repeat ((with_reducible refine And.intro ?_ ?_); (focus (first | omega | (simp only [lenR]; omega) | (refine qq ?_; rfl) | (refine dq ?_; kernel_rfl) | (intros; simp_all; done))))
   refine ⟨j + min j (n - j), ⟨by omega, fun _ => by omega⟩, by omega, ?_⟩
   rw [show min j n = j by omega, fill_step n j hj]
   refine weak_to [] [0] rfl (by simp) ?_ rfl
   have e : IntKind.i64.wrap ((j : Int) + ((min j (n - j) : Nat) : Int)) = ((j + min j (n - j) : Nat) : Int) := by rw [wrap64 (by omega) (by omega)]; omega
   simp only [zN, seval, implies_true, Nat.reduceLeDiff, Nat.reduceEqDiff, reduceCtorEq, reduceIte, intD, e]
  ·have : j = n := by omega
   subst this
   simp only [zN, seval, implies_true, Nat.reduceLeDiff, Nat.reduceEqDiff, reduceCtorEq, reduceIte, intD, (show ¬ (j:Int) < j by omega)]
   refine ⟨_, _, WeakR.refl _ _ _, rfl, by rw [fill_all]⟩
end YtfmbadfdbjhekaaDoor
end Go.Proofs
