/- A part of the proof: contracts of functions of this seat, and lemmas. No condition beyond those stated. -/
import Derived.Test.YtadfcljoocjhdaaGreatWts3
set_option linter.unusedVariables false
set_option linter.unusedSimpArgs false
set_option linter.unusedSectionVars false
set_option linter.unnecessarySimpa false
set_option maxRecDepth 100000
namespace Go.Proofs
open Go.AM
namespace YtadfcljoocjhdaaGreat
variable {Gl : Globs} {τ : Sto}
theorem rot_last (a m i p : Nat) (h : i ≤ m) : swapI (m - i) m i p = rotI (m - i) m (m + i) p := by
 unfold swapI rotI
 repeat' split
 all_goals omega
theorem rot_left (m i j p : Nat) (h : j < i) (hm : i ≤ m) : swapI (m - i) m j (rotI (m - (i - j)) m (m + j) p) = rotI (m - i) m (m + j) p := by
 unfold swapI rotI
 repeat' split
 all_goals omega
theorem rot_right (m i j p : Nat) (h : i < j) (hm : i ≤ m) : swapI (m - i) (m + j - i) i (rotI (m - i) m (m + (j - i)) p) = rotI (m - i) m (m + j) p := by
 unfold swapI rotI
 repeat' split
 all_goals omega
theorem swapI_lt {a b k i n : Nat} (ha : a + k ≤ n) (hb : b + k ≤ n) (hi : i < n) : swapI a b k i < n := by
 unfold swapI
 repeat' split
 all_goals omega
theorem rotI_lt {a m b i n : Nat} (ha : a ≤ m) (hb : m ≤ b) (hn : b ≤ n) (hi : i < n) : rotI a m b i < n := by
 unfold rotI
 repeat' split
 all_goals omega
theorem rotate_spec (Dm : D → Prop) (hD : ∀ x, Dm x → El0 1 x) (xs : List D) (n a m b : Nat) (fv : FuncId) (caps : List AV) (hx : ∀ y ∈ xs, Dm y) (hn : n ≤ xs.length) (hN : n < 1000000) (ha : a < m) (hm : m < b) (hb : b ≤ n) :
  ACalls Tryz.prog Gl 167 [.osl 0 0 n, .d (.int .i64 a), .d (.int .i64 m), .d (.int .i64 b), .fn fv caps] (.arr 1 xs :: τ) (fun r s => r = .tup [] ∧ ∃ ys, s = (.arr 1 ys :: τ) ∧ Arr Dm xs ys (rotI a m b)) := by
 refine acalls_of Tryz.func167 rfl rfl (by simp [Tryz.ntmps167]) (evC_sound rfl _ _ _ _ ?_)
 simp only [Tryz.ntmps167, Tryz.results167, argEnv, List.length_nil]
 simp only [zS, seval, implies_true, Nat.reduceLeDiff, Nat.reduceEqDiff, reduceCtorEq, reduceIte]
 refine loop_of (τ := (Nat × Nat) × List D) (fun x => [(0, .osl 0 0 n), (2, .d (.int .i64 m)), (4, .fn fv caps), (10, .d (.int .i64 x.1.1)), (11, .d (.int .i64 x.1.2))]) (fun x => (.arr 1 x.2 :: τ))
  (fun x => 1 ≤ x.1.1 ∧ x.1.1 ≤ m - a ∧ 1 ≤ x.1.2 ∧ x.1.2 ≤ b - m ∧ ∃ π, Arr Dm xs x.2 π ∧ ∀ p, p < xs.length → π (rotI (m - x.1.1) m (m + x.1.2) p) = rotI a m b p) (fun x => x.1.1 + x.1.2) ((m - a, b - m), xs)
  ⟨by simp only; omega, by simp only; omega, by simp only; omega, by simp only; omega, fun i => i, Arr.refl hx, fun p _ => by simp only; congr 1 <;> omega⟩ ?_ ?_
 ·refine weak_sub ?_
  have e1 : IntKind.i64.wrap ((m : Int) - a) = ((m - a : Nat) : Int) := by rw [wrap64 (by omega) (by omega)]; omega
  have e2 : IntKind.i64.wrap ((b : Int) - m) = ((b - m : Nat) : Int) := by rw [wrap64 (by omega) (by omega)]; omega
  simp only [zS, seval, implies_true, Nat.reduceLeDiff, Nat.reduceEqDiff, reduceCtorEq, reduceIte, e1, e2]
 ·intro x hi
  obtain ⟨⟨i, j⟩, ys⟩ := x
  obtain ⟨h1, h2, h3, h4, π, hA, hπ⟩ := hi
  simp only at h1 h2 h3 h4 hA hπ
  have hl := hA.len
  have e1 : IntKind.i64.wrap ((m : Int) - i) = ((m - i : Nat) : Int) := by rw [wrap64 (by omega) (by omega)]; omega
  simp only [zS, seval, implies_true, Nat.reduceLeDiff, Nat.reduceEqDiff, reduceCtorEq, reduceIte, e1]
  refine ifC.mk (fun h => ?_) (fun h => ?_)
  ·have h : i ≠ j := by simp at h; omega
   refine ifC.mk (fun h => ?_) (fun h => ?_)
   ·have h : j < i := by simpa using h
    refine callF_go ((swapRange_spec Dm hD ys n (m - i) m j fv caps hA.el (by omega) hN (by omega) (by omega) (by omega)).mono fun r s h => ?_)
    obtain ⟨rfl, zs, rfl, hB⟩ := h
    have e2 : IntKind.i64.wrap ((i : Int) - j) = ((i - j : Nat) : Int) := by rw [wrap64 (by omega) (by omega)]; omega
    simp only [zS, seval, implies_true, Nat.reduceLeDiff, Nat.reduceEqDiff, reduceCtorEq, reduceIte, e2]
    refine ⟨((i - j, j), zs), ⟨by simp only; omega, by simp only; omega, by simp only; omega, by simp only; omega, _, hA.trans hB fun p hp => swapI_lt (by omega) (by omega) hp, fun p hp => ?_⟩, by simp only; omega, weak_sub ?_⟩
    ·simp only
     rw [rot_left m i j p (by omega) (by omega)]; exact hπ p hp
    ·simp only [zS, seval, implies_true, Nat.reduceLeDiff, Nat.reduceEqDiff, reduceCtorEq, reduceIte]
   ·have h : ¬ j < i := by simpa using h
    have e2 : IntKind.i64.wrap (IntKind.i64.wrap ((m : Int) + j) - i) = ((m + j - i : Nat) : Int) := by rw [wrap64 (n := (m : Int) + j) (by omega) (by omega), wrap64 (by omega) (by omega)]; omega
    simp only [e2]
    refine callF_go ((swapRange_spec Dm hD ys n (m - i) (m + j - i) i fv caps hA.el (by omega) hN (by omega) (by omega) (by omega)).mono fun r s h => ?_)
    obtain ⟨rfl, zs, rfl, hB⟩ := h
    have e3 : IntKind.i64.wrap ((j : Int) - i) = ((j - i : Nat) : Int) := by rw [wrap64 (by omega) (by omega)]; omega
    simp only [zS, seval, implies_true, Nat.reduceLeDiff, Nat.reduceEqDiff, reduceCtorEq, reduceIte, e3]
    refine ⟨((i, j - i), zs), ⟨by simp only; omega, by simp only; omega, by simp only; omega, by simp only; omega, _, hA.trans hB fun p hp => swapI_lt (by omega) (by omega) hp, fun p hp => ?_⟩, by simp only; omega, weak_sub ?_⟩
    ·simp only
     rw [rot_right m i j p (by omega) (by omega)]; exact hπ p hp
    ·simp only [zS, seval, implies_true, Nat.reduceLeDiff, Nat.reduceEqDiff, reduceCtorEq, reduceIte]
  ·have h : i = j := by simp at h; omega
   subst h
   refine callF_go ((swapRange_spec Dm hD ys n (m - i) m i fv caps hA.el (by omega) hN (by omega) (by omega) (by omega)).mono fun r s h => ?_)
   obtain ⟨rfl, zs, rfl, hB⟩ := h
   refine ⟨trivial, _, _, WeakR.refl _ _ _, rfl, zs, rfl, (hA.trans hB fun p hp => swapI_lt (by omega) (by omega) hp).congr fun p hp => ?_⟩
   rw [rot_last a m i p (by omega)]; exact hπ p hp
end YtadfcljoocjhdaaGreat
end Go.Proofs
