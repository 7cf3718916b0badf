/- A part of the proof: contracts of functions of this seat, and lemmas. No condition beyond those stated. -/
import Derived.Test.YtadfcljoocjhdaaGreatWta
import Derived.Test.YtadfcljoocjhdaaGreatG4
set_option linter.unusedVariables false
set_option linter.unusedSimpArgs false
set_option linter.unusedSectionVars false
set_option linter.unnecessarySimpa false
set_option maxRecDepth 100000
namespace Go.Proofs
open Go.AM
namespace YtadfcljoocjhdaaGreat
variable {Gl : Globs} {τ : Sto}
theorem zS : type_of% (And.intro @vcRules (And.intro @dRules (And.intro @bRules @tyRules))) := And.intro @vcRules (And.intro @dRules (And.intro @bRules @tyRules))
theorem swapRange_spec (Dm : D → Prop) (hD : ∀ x, Dm x → El0 1 x) (xs : List D) (n a b k : Nat) (fv : FuncId) (caps : List AV) (hx : ∀ y ∈ xs, Dm y) (hn : n ≤ xs.length) (hN : n < 1000000) (ha : a + k ≤ n) (hb : b + k ≤ n) (hab : a + k ≤ b ∨ b + k ≤ a) :
  ACalls Tryz.prog Gl 174 [.osl 0 0 n, .d (.int .i64 a), .d (.int .i64 b), .d (.int .i64 k), .fn fv caps] (.arr 1 xs :: τ) (fun r s => r = .tup [] ∧ ∃ ys, s = (.arr 1 ys :: τ) ∧ Arr Dm xs ys (swapI a b k)) := by
 refine acalls_of Tryz.func174 rfl rfl (by simp [Tryz.ntmps174]) (evC_sound rfl _ _ _ _ ?_)
 simp only [Tryz.ntmps174, Tryz.results174, argEnv, List.length_nil]
 simp only [zS, seval, implies_true, Nat.reduceLeDiff, Nat.reduceEqDiff, reduceCtorEq, reduceIte]
 refine loop_of (τ := Nat × List D) (fun x => [(0, .osl 0 0 n), (1, .d (.int .i64 a)), (2, .d (.int .i64 b)), (3, .d (.int .i64 k)), (10, .d (.int .i64 x.1))]) (fun x => (.arr 1 x.2 :: τ)) (fun x => x.1 ≤ k ∧ Arr Dm xs x.2 (swapI a b x.1)) (fun x => k - x.1) (0, xs) ⟨Nat.zero_le _, rfl, hx, fun i hi => by unfold swapI; rw [if_neg (by omega), if_neg (by omega)]⟩ ?_ ?_
 ·refine weak_sub ?_
  simp only [zS, seval, implies_true, Nat.reduceLeDiff, Nat.reduceEqDiff, reduceCtorEq, reduceIte]
  all_goals rfl
 ·intro x hi
  obtain ⟨j, ys⟩ := x
  obtain ⟨hj, hA⟩ := hi
  simp only at hj hA
  simp only [zS, seval, implies_true, Nat.reduceLeDiff, Nat.reduceEqDiff, reduceCtorEq, reduceIte]
  refine ifC.mk (fun h => ?_) (fun h => ?_)
  ·have h : j < k := by simpa using h
   have e1 : IntKind.i64.wrap ((a : Int) + j) = ((a + j : Nat) : Int) := by rw [wrap64 (by omega) (by omega)]; omega
   have e2 : IntKind.i64.wrap ((b : Int) + j) = ((b + j : Nat) : Int) := by rw [wrap64 (by omega) (by omega)]; omega
   have hl := hA.len
   have l1 := El0.at hD hA.el (i := a + j) (by omega)
   have l2 := El0.at hD hA.el (i := b + j) (by omega)
   simp only [zS, seval, implies_true, Nat.reduceLeDiff, Nat.reduceEqDiff, reduceCtorEq, reduceIte, e1, e2, l1, l2]
   refine ⟨.inl (by kernel_rfl), ?_⟩
   have c1 : ((b + j : Nat) : Int) < (n : Int) := by omega
   have c2 : ((a + j : Nat) : Int) < (n : Int) := by omega
   have c3 : b + j < ys.length := by omega
   have c4 : a + j < ys.length := by omega
   simp only [c1, c2, c3, c4, true_and]
   refine ⟨(j + 1, _), ⟨by omega, (hA.swap (i := a + j) (j := b + j) (by omega) (by omega)).congr fun i _ => ?_⟩, by simp only; omega, weak_sub ?_⟩
   ·exact swapI_step a b j i (by omega)
   ·simp only [zS, seval, implies_true, Nat.reduceLeDiff, Nat.reduceEqDiff, reduceCtorEq, reduceIte]
    rw [wrap64 (by omega) (by omega)]
    rfl
  ·have h : ¬ j < k := by simpa using h
   have : j = k := by omega
   subst this
   exact ⟨_, _, WeakR.refl _ _ _, rfl, ys, rfl, hA⟩
end YtadfcljoocjhdaaGreat
end Go.Proofs
