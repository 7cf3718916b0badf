/- A part of the proof: contracts of functions of this seat, and lemmas. No condition beyond those stated. -/
import Derived.Test.YtfmbadfdbjhekaaDoorWdnx
set_option linter.unusedVariables false
set_option linter.unusedSimpArgs false
set_option linter.unusedSectionVars false
set_option linter.unnecessarySimpa false
set_option maxRecDepth 100000
namespace Go.Proofs
open Go.AM
namespace YtfmbadfdbjhekaaDoor
variable {Gl : Globs}
def rvL (xs : List (List UInt8)) (k : Nat) : List D := (List.range xs.length).map fun p => .str (if p < k ∨ xs.length ≤ p + k then xs.getD (xs.length - 1 - p) [] else xs.getD p [])
theorem rvL_len (xs : List (List UInt8)) (k : Nat) : (rvL xs k).length = xs.length := by simp [rvL]
theorem rvL_get (xs : List (List UInt8)) (k : Nat) {p : Nat} (h : p < xs.length) : (rvL xs k).getD p default = .str (if p < k ∨ xs.length ≤ p + k then xs.getD (xs.length - 1 - p) [] else xs.getD p []) := rg_get _ h
theorem rvL_zero (xs : List (List UInt8)) : xs.map D.str = rvL xs 0 := by
 apply List.ext_getElem?
 intro i
 rcases Nat.lt_or_ge i xs.length with h | h
 ·simp [rvL, h]
  intro h2; omega
 ·simp [rvL, h]
theorem rvL_end (xs : List (List UInt8)) {k : Nat} (h : xs.length ≤ 2 * k + 1) : rvL xs k = xs.reverse.map D.str := by
 apply List.ext_getElem?
 intro i
 rcases Nat.lt_or_ge i xs.length with hi | hi
 ·rw [rvL, List.getElem?_map, List.getElem?_range hi, List.getElem?_map, List.getElem?_reverse hi, List.getElem?_eq_getElem (show xs.length - 1 - i < xs.length by omega)]
  simp only [Option.map_some, Option.some.injEq, D.str.injEq]
  by_cases e : i < k ∨ xs.length ≤ i + k
  ·rw [if_pos e, List.getD_eq_getElem?_getD, List.getElem?_eq_getElem (show xs.length - 1 - i < xs.length by omega)]; rfl
  ·rw [if_neg e, List.getD_eq_getElem?_getD, List.getElem?_eq_getElem hi, Option.getD_some]
   have : xs.length - 1 - i = i := by omega
   simp only [this]
 ·rw [List.getElem?_eq_none (by rw [rvL_len]; exact hi), List.getElem?_eq_none (by simp; exact hi)]
theorem rvL_step (xs : List (List UInt8)) {k : Nat} (h : k < xs.length - 1 - k) : ((rvL xs k).set k (.str (xs.getD (xs.length - 1 - k) []))).set (xs.length - 1 - k) (.str (xs.getD k [])) = rvL xs (k + 1) := by
 rw [rvL, rg_set, rg_set]
 refine rg_congr fun p hp => ?_
 by_cases e1 : p = xs.length - 1 - k
 ·subst e1
  rw [if_pos rfl, if_pos (by omega)]
  congr 2
  omega
 ·rw [if_neg e1]
  by_cases e2 : p = k
  ·subst e2
   rw [if_pos rfl, if_pos (by omega)]
  ·rw [if_neg e2]
   by_cases e3 : p < k ∨ xs.length ≤ p + k
   ·rw [if_pos e3, if_pos (by omega)]
   ·rw [if_neg e3, if_neg (by omega)]
theorem k_Reverse (xs : List (List UInt8)) (hl : xs.length < 1000000) : ACalls Tryd.prog Gl 57 [.osl 0 0 xs.length] [.arr 1 (xs.map .str)] (fun r s => r = .tup [] ∧ s = [.arr 1 (xs.reverse.map .str)]) := by
 refine acalls_of Tryd.func57 rfl rfl (by simp [Tryd.ntmps57]) (evC_sound rfl _ _ _ _ ?_)
 simp only [Tryd.ntmps57, Tryd.results57, argEnv, List.length_nil]
 simp only [zN, seval, implies_true, Nat.reduceLeDiff, Nat.reduceEqDiff, reduceCtorEq, reduceIte, intD]
 refine loop_of (τ := Nat) (fun k => [(0, .osl 0 0 xs.length), (2, .d (.int .i64 k)), (3, .d (.int .i64 ((xs.length : Int) - 1 - k)))]) (fun k => [.arr 1 (rvL xs k)]) (fun k => k ≤ xs.length) (fun k => xs.length - k) 0 (Nat.zero_le _) ?_ ?_
 ·rw [rvL_zero]
  refine weak_to [] [0] rfl (by simp) ?_ rfl
  simp only [zN, seval, implies_true, Nat.reduceLeDiff, Nat.reduceEqDiff, reduceCtorEq, reduceIte, intD, @a_wrap ((xs.length : Int) - 1) (by omega), Int.cast_ofNat_Int, Int.sub_zero]
  try rfl
 ·intro k hk
  by_cases h : (k : Int) < (xs.length : Int) - 1 - k
  ·have hk1 : k < xs.length - 1 - k := by omega
   obtain ⟨j, hj⟩ : ∃ j, j = xs.length - 1 - k := ⟨_, rfl⟩
   have ej : (xs.length : Int) - 1 - k = (j : Int) := by omega
   have g1 : (rvL xs k).getD k default = .str (xs.getD k []) := by rw [rvL_get xs k (by omega), if_neg (by omega)]
   have g2 : (rvL xs k).getD j default = .str (xs.getD j []) := by rw [rvL_get xs k (by omega), if_neg (by omega)]
   have hst := rvL_step xs (k := k) hk1
   rw [← hj] at hst
   rw [ej]
   simp only [zN, seval, implies_true, Nat.reduceLeDiff, Nat.reduceEqDiff, reduceCtorEq, reduceIte, intD, (show (k:Int) < (j:Int) by omega), (show (k:Int) < (xs.length:Int) by omega), (show (j:Int) < (xs.length:Int) by omega), (show k < xs.length by omega), (show j < xs.length by omega), g1, g2, rvL_len, List.length_set, hst]
   repeat ((with_reducible refine And.intro ?_ ?_); (focus (first | omega | (simp only [lenR]; omega) | (refine qq ?_; rfl) | (refine dq ?_; kernel_rfl) | (intros; simp_all; done))))
   refine ⟨k + 1, by omega, by omega, ?_⟩
   refine weak_to [] [0] rfl (by simp) ?_ rfl
   have e2 : (xs.length : Int) - 1 - ((k + 1 : Nat) : Int) = (j : Int) - 1 := by omega
   simp only [zN, seval, implies_true, Nat.reduceLeDiff, Nat.reduceEqDiff, reduceCtorEq, reduceIte, intD, @a_wrap ((k:Int) + 1) (by omega), @a_wrap ((j:Int) - 1) (by omega)]
   rw [← e2]
   try rfl
  ·simp only [zN, seval, implies_true, Nat.reduceLeDiff, Nat.reduceEqDiff, reduceCtorEq, reduceIte, intD, decide_eq_false h]
   rw [rvL_end xs (by omega)]
   exact ⟨_, _, WeakR.refl _ _ _, rfl, rfl⟩
end YtfmbadfdbjhekaaDoor
end Go.Proofs
