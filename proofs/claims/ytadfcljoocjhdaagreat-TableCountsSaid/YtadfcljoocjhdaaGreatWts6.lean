/- A part of the proof: contracts of functions of this seat, and lemmas. No condition beyond those stated. -/
import Derived.Test.YtadfcljoocjhdaaGreatWts5
set_option linter.unusedVariables false
set_option linter.unusedSimpArgs false
set_option linter.unusedSectionVars false
set_option linter.unnecessarySimpa false
set_option maxRecDepth 100000
namespace Go.Proofs
open Go.AM
namespace YtadfcljoocjhdaaGreat
variable {Gl : Globs} {τ : Sto}
theorem shr1 (x : Int) : intBin .shr .u64 x 1 = .int .u64 (x.fdiv 2) := by
 simp [intBin, IntKind.bits]
theorem u64_in (x : Nat) (h : x < 1000000000) : IntKind.u64.wrap (x : Int) = x := by
 rw [IntKind.wrap_u64]; omega
theorem half (x : Nat) (h : x < 1000000000) : ((x : Int).fdiv 2) = ((x / 2 : Nat) : Int) := by
 rw [Int.fdiv_eq_ediv_of_nonneg _ (by omega)]; omega
theorem i64_nat (x : Nat) (h : x < 1000000000) : IntKind.i64.wrap (x : Int) = x := wrap64 (by omega) (by omega)
def Merged (τ : Sto) (Dm : D → Prop) (cmpF : D → D → Int) (xs : List D) (a b : Nat) (π : Nat → Nat) (r : AV) (s : Sto) : Prop :=
 r = .tup [] ∧ ∃ zs ρ, s = (.arr 1 zs :: τ) ∧ Arr Dm xs zs ρ ∧ Mv a b π ρ ∧ Sorted (fun x y => decide (cmpF x y < 0)) xs a b ρ
theorem merge_base (Dm : D → Prop) (cmpF : D → D → Int) (fv : FuncId) (caps : List AV) (hC : CmpOk Gl τ Dm cmpF fv caps) (xs : List D) (hxs : ∀ y ∈ xs, Dm y) (n : Nat) (hn : n ≤ xs.length) (hN : n < 1000000)
  (a m b : Nat) (ys : List D) (π : Nat → Nat) (hA : Arr Dm xs ys π) (hπ : ∀ p, p < xs.length → π p < xs.length) (ham : a < m) (hmb : m < b) (hbn : b ≤ n) (hS1 : Sorted (fun x y => decide (cmpF x y < 0)) xs a m π) (hS2 : Sorted (fun x y => decide (cmpF x y < 0)) xs m b π) (hT : Tags a m b π)
  (hbase : m = a + 1 ∨ b = m + 1) :
  ACalls Tryz.prog Gl 136 [.osl 0 0 n, .d (.int .i64 a), .d (.int .i64 m), .d (.int .i64 b), .fn fv caps] (.arr 1 ys :: τ) (Merged τ Dm cmpF xs a b π) := by
 refine acalls_of Tryz.func136 rfl rfl (by simp [Tryz.ntmps136]) (evC_sound rfl _ _ _ _ ?_)
 simp only [Tryz.ntmps136, Tryz.results136, argEnv, List.length_nil]
 have hlY := hA.len
 have e1 : IntKind.i64.wrap ((m : Int) - a) = ((m - a : Nat) : Int) := by rw [wrap64 (by omega) (by omega)]; omega
 have e2 : IntKind.i64.wrap ((b : Int) - m) = ((b - m : Nat) : Int) := by rw [wrap64 (by omega) (by omega)]; omega
 by_cases hc1 : m = a + 1
 ·have e3 : (((m - a : Nat) : Int) == 1) = true := by simp; omega
  simp only [zS, seval, implies_true, Nat.reduceLeDiff, Nat.reduceEqDiff, reduceCtorEq, reduceIte, e1, e3]
  have ha1 : (ys.getD a default) = xs.getD (π a) default := hA.get a (by omega)
  have la := El0.at hC.el hA.el (i := a) (by omega)
  refine loop_of (τ := Nat × Nat) (fun x => [(0, .osl 0 0 n), (1, .d (.int .i64 a)), (2, .d (.int .i64 m)), (3, .d (.int .i64 b)), (4, .fn fv caps), (10, .d (.int .i64 x.1)), (11, .d (.int .i64 x.2))]) (fun x => (.arr 1 ys :: τ))
   (fun x => m ≤ x.1 ∧ x.1 ≤ x.2 ∧ x.2 ≤ b ∧ (∀ q, m ≤ q → q < x.1 → Lx (fun x y => decide (cmpF x y < 0)) xs (π q) (π a)) ∧ (∀ q, x.2 ≤ q → q < b → Lx (fun x y => decide (cmpF x y < 0)) xs (π a) (π q))) (fun x => x.2 - x.1) (m, b)
   ⟨Nat.le_refl _, by simp only; omega, Nat.le_refl _, fun q q1 q2 => by simp only at q2; omega, fun q q1 q2 => by simp only at q1; omega⟩ ?_ ?_
  ·refine weak_sub ?_
   simp only [zS, seval, implies_true, Nat.reduceLeDiff, Nat.reduceEqDiff, reduceCtorEq, reduceIte]
  ·intro x hi
   obtain ⟨i, j⟩ := x
   obtain ⟨h1, h2, h3, h4, h5⟩ := hi
   simp only at h1 h2 h3 h4 h5
   simp only [zS, seval, implies_true, Nat.reduceLeDiff, Nat.reduceEqDiff, reduceCtorEq, reduceIte]
   refine ifC.mk (fun h => ?_) (fun h => ?_)
   ·have h : i < j := by simpa using h
    have g1 : IntKind.i64.wrap ((i : Int) + j) = ((i + j : Nat) : Int) := by rw [wrap64 (by omega) (by omega)]; omega
    have g2 : IntKind.u64.wrap ((i + j : Nat) : Int) = ((i + j : Nat) : Int) := u64_in _ (by omega)
    have g3 : ((i + j : Nat) : Int).fdiv 2 = (((i + j) / 2 : Nat) : Int) := half _ (by omega)
    have g4 : IntKind.i64.wrap (((i + j) / 2 : Nat) : Int) = (((i + j) / 2 : Nat) : Int) := i64_nat _ (by omega)
    have hh : ∃ h, h = (i + j) / 2 ∧ i ≤ h ∧ h < j := ⟨_, rfl, by omega, by omega⟩
    obtain ⟨h', e5, e6, e7⟩ := hh
    rw [← e5] at g3 g4
    have lh := El0.at hC.el hA.el (i := h') (by omega)
    have c1 : (h' : Int) < (n : Int) := by omega
    have c2 : (a : Int) < (n : Int) := by omega
    have c3 : h' < ys.length := by omega
    have c4 : a < ys.length := by omega
    simp only [zS, seval, implies_true, Nat.reduceLeDiff, Nat.reduceEqDiff, reduceCtorEq, reduceIte, g1, g2, g3, g4, shr1, la, lh, c1, c2, c3, c4]
    refine ⟨.inl (by kernel_rfl), callF_ext (v := .d (.int .i64 (cmpF (ys.getD h' default) (ys.getD a default)))) (fun s hs => hC.call _ _ (hA.at (by omega)) (hA.at (by omega)) _ s hs) ?_⟩
    have f1 : ys.getD h' default = xs.getD (π h') default := hA.get h' (by omega)
    have ht : π a < π h' := hT a h' (Nat.le_refl _) (by omega) (by omega) (by omega)
    simp only [zS, seval, implies_true, Nat.reduceLeDiff, Nat.reduceEqDiff, reduceCtorEq, reduceIte]
    refine ifC.mk (fun hc => ?_) (fun hc => ?_)
    ·have hL : Lx (fun x y => decide (cmpF x y < 0)) xs (π h') (π a) := (Lx.tag ht).2 (by rw [← f1, ← ha1]; exact hc)
     have g5 : IntKind.i64.wrap ((h' : Int) + 1) = ((h' + 1 : Nat) : Int) := by rw [wrap64 (by omega) (by omega)]; omega
     simp only [zS, seval, implies_true, Nat.reduceLeDiff, Nat.reduceEqDiff, reduceCtorEq, reduceIte, g5]
     refine ⟨(h' + 1, j), ⟨by simp only; omega, by simp only; omega, h3, less_down hC.swo hxs hπ (by omega) (hπ _ (by omega)) hS2 (by omega) (by omega) hL, h5⟩, by simp only; omega, weak_sub ?_⟩
     simp only [zS, seval, implies_true, Nat.reduceLeDiff, Nat.reduceEqDiff, reduceCtorEq, reduceIte]
    ·have hL : Lx (fun x y => decide (cmpF x y < 0)) xs (π a) (π h') := (Lx.tag' ht).2 (.inl (by rw [← f1, ← ha1]; exact hc))
     refine ⟨(i, h'), ⟨h1, by simp only; omega, by simp only; omega, h4, more_up hC.swo hxs hπ (by omega) (hπ _ (by omega)) hS2 (by omega) (by omega) hL⟩, by simp only; omega, weak_sub ?_⟩
     simp only [zS, seval, implies_true, Nat.reduceLeDiff, Nat.reduceEqDiff, reduceCtorEq, reduceIte]
   ·have h : ¬ i < j := by simpa using h
    have hij : i = j := by omega
    subst hij
    refine loop_of (τ := Nat × List D) (fun x => [(0, .osl 0 0 n), (10, .d (.int .i64 i)), (13, .d (.int .i64 x.1))]) (fun x => (.arr 1 x.2 :: τ))
     (fun x => a ≤ x.1 ∧ x.1 ≤ i - 1 ∧ ∃ κ, Arr Dm xs x.2 κ ∧ (∀ p, a ≤ p → p < x.1 → κ p = π (p + 1)) ∧ κ x.1 = π a ∧ (∀ p, p < a ∨ x.1 < p → κ p = π p)) (fun x => i - x.1) (a, ys)
     ⟨Nat.le_refl _, by simp only; omega, π, hA, fun p q1 q2 => by simp only at q2; omega, rfl, fun p _ => rfl⟩ ?_ ?_
    ·refine weak_sub ?_
     simp only [zS, seval, implies_true, Nat.reduceLeDiff, Nat.reduceEqDiff, reduceCtorEq, reduceIte]
    ·intro x hi
     obtain ⟨k, zs⟩ := x
     obtain ⟨k1, k2, κ, hZ, q1, q2, q3⟩ := hi
     simp only at k1 k2 hZ q1 q2 q3
     have hlZ := hZ.len
     have g6 : IntKind.i64.wrap ((i : Int) - 1) = ((i - 1 : Nat) : Int) := by rw [wrap64 (by omega) (by omega)]; omega
     simp only [zS, seval, implies_true, Nat.reduceLeDiff, Nat.reduceEqDiff, reduceCtorEq, reduceIte, g6]
     refine ifC.mk (fun h => ?_) (fun h => ?_)
     ·have h : k < i - 1 := by simp at h; omega
      have g7 : IntKind.i64.wrap ((k : Int) + 1) = ((k + 1 : Nat) : Int) := by rw [wrap64 (by omega) (by omega)]; omega
      have l1 := El0.at hC.el hZ.el (i := k) (by omega)
      have l2 := El0.at hC.el hZ.el (i := k + 1) (by omega)
      have c1 : (k : Int) < (n : Int) := by omega
      have c2 : ((k + 1 : Nat) : Int) < (n : Int) := by omega
      have c3 : k < zs.length := by omega
      have c4 : k + 1 < zs.length := by omega
      simp only [zS, seval, implies_true, Nat.reduceLeDiff, Nat.reduceEqDiff, reduceCtorEq, reduceIte, g7, l1, l2, c1, c2, c3, c4]
      refine ⟨.inl (by kernel_rfl), (k + 1, _), ⟨by simp only; omega, by simp only; omega, _, hZ.swap (i := k) (j := k + 1) (by omega) (by omega), fun p p1 p2 => ?_, ?_, fun p hp => ?_⟩, by simp only; omega, weak_sub ?_⟩
      ·simp only at p2
       rw [if_neg (by omega)]
       by_cases e : p = k
       ·rw [if_pos e, e]; exact q3 _ (by omega)
       ·rw [if_neg e]; exact q1 p p1 (by omega)
      ·simp only [if_true]; exact q2
      ·simp only at hp
       rw [if_neg (by omega), if_neg (by omega)]; exact q3 p (by omega)
      ·simp only [zS, seval, implies_true, Nat.reduceLeDiff, Nat.reduceEqDiff, reduceCtorEq, reduceIte, g7]
     ·have h : ¬ k < i - 1 := by simp at h; omega
      have hk : k = i - 1 := by omega
      subst hk
      obtain ⟨d1, d2⟩ := merge_one_left (by omega) h1 h3 hS2 h4 h5 q1 q2 (fun p hp => q3 p (by omega))
      exact ⟨_, _, WeakR.refl _ _ _, rfl, zs, κ, rfl, hZ, d1, d2⟩
 ·have e3 : (((m - a : Nat) : Int) == 1) = false := by simp; omega
  by_cases hc2 : b = m + 1
  ·have e4 : (((b - m : Nat) : Int) == 1) = true := by simp; omega
   simp only [zS, seval, implies_true, Nat.reduceLeDiff, Nat.reduceEqDiff, reduceCtorEq, reduceIte, e1, e2, e3, e4]
   have hm1 : (ys.getD m default) = xs.getD (π m) default := hA.get m (by omega)
   have lm := El0.at hC.el hA.el (i := m) (by omega)
   refine loop_of (τ := Nat × Nat) (fun x => [(0, .osl 0 0 n), (1, .d (.int .i64 a)), (2, .d (.int .i64 m)), (3, .d (.int .i64 b)), (4, .fn fv caps), (14, .d (.int .i64 x.1)), (15, .d (.int .i64 x.2))]) (fun x => (.arr 1 ys :: τ))
    (fun x => a ≤ x.1 ∧ x.1 ≤ x.2 ∧ x.2 ≤ m ∧ (∀ q, a ≤ q → q < x.1 → Lx (fun x y => decide (cmpF x y < 0)) xs (π q) (π m)) ∧ (∀ q, x.2 ≤ q → q < m → Lx (fun x y => decide (cmpF x y < 0)) xs (π m) (π q))) (fun x => x.2 - x.1) (a, m)
    ⟨Nat.le_refl _, by simp only; omega, Nat.le_refl _, fun q q1 q2 => by simp only at q2; omega, fun q q1 q2 => by simp only at q1; omega⟩ ?_ ?_
   ·refine weak_sub ?_
    simp only [zS, seval, implies_true, Nat.reduceLeDiff, Nat.reduceEqDiff, reduceCtorEq, reduceIte]
   ·intro x hi
    obtain ⟨i, j⟩ := x
    obtain ⟨h1, h2, h3, h4, h5⟩ := hi
    simp only at h1 h2 h3 h4 h5
    simp only [zS, seval, implies_true, Nat.reduceLeDiff, Nat.reduceEqDiff, reduceCtorEq, reduceIte]
    refine ifC.mk (fun h => ?_) (fun h => ?_)
    ·have h : i < j := by simpa using h
     have g1 : IntKind.i64.wrap ((i : Int) + j) = ((i + j : Nat) : Int) := by rw [wrap64 (by omega) (by omega)]; omega
     have g2 : IntKind.u64.wrap ((i + j : Nat) : Int) = ((i + j : Nat) : Int) := u64_in _ (by omega)
     have g3 : ((i + j : Nat) : Int).fdiv 2 = (((i + j) / 2 : Nat) : Int) := half _ (by omega)
     have g4 : IntKind.i64.wrap (((i + j) / 2 : Nat) : Int) = (((i + j) / 2 : Nat) : Int) := i64_nat _ (by omega)
     have hh : ∃ h, h = (i + j) / 2 ∧ i ≤ h ∧ h < j := ⟨_, rfl, by omega, by omega⟩
     obtain ⟨h', e5, e6, e7⟩ := hh
     rw [← e5] at g3 g4
     have lh := El0.at hC.el hA.el (i := h') (by omega)
     have c1 : (h' : Int) < (n : Int) := by omega
     have c2 : (m : Int) < (n : Int) := by omega
     have c3 : h' < ys.length := by omega
     have c4 : m < ys.length := by omega
     simp only [zS, seval, implies_true, Nat.reduceLeDiff, Nat.reduceEqDiff, reduceCtorEq, reduceIte, g1, g2, g3, g4, shr1, lm, lh, c1, c2, c3, c4]
     refine ⟨.inl (by kernel_rfl), callF_ext (v := .d (.int .i64 (cmpF (ys.getD m default) (ys.getD h' default)))) (fun s hs => hC.call _ _ (hA.at (by omega)) (hA.at (by omega)) _ s hs) ?_⟩
     have f1 : ys.getD h' default = xs.getD (π h') default := hA.get h' (by omega)
     have ht : π h' < π m := hT h' m (by omega) (by omega) (Nat.le_refl _) (by omega)
     simp only [zS, seval, implies_true, Nat.reduceLeDiff, Nat.reduceEqDiff, reduceCtorEq, reduceIte]
     refine ifC.mk (fun hc => ?_) (fun hc => ?_)
     ·have hL : Lx (fun x y => decide (cmpF x y < 0)) xs (π h') (π m) := (Lx.tag' ht).2 (.inl (by rw [← f1, ← hm1]; simpa using hc))
      have g5 : IntKind.i64.wrap ((h' : Int) + 1) = ((h' + 1 : Nat) : Int) := by rw [wrap64 (by omega) (by omega)]; omega
      simp only [zS, seval, implies_true, Nat.reduceLeDiff, Nat.reduceEqDiff, reduceCtorEq, reduceIte, g5]
      refine ⟨(h' + 1, j), ⟨by simp only; omega, by simp only; omega, h3, less_down hC.swo hxs hπ (by omega) (hπ _ (by omega)) hS1 (by omega) (by omega) hL, h5⟩, by simp only; omega, weak_sub ?_⟩
      simp only [zS, seval, implies_true, Nat.reduceLeDiff, Nat.reduceEqDiff, reduceCtorEq, reduceIte]
     ·have hL : Lx (fun x y => decide (cmpF x y < 0)) xs (π m) (π h') := (Lx.tag ht).2 (by rw [← f1, ← hm1]; simpa using hc)
      refine ⟨(i, h'), ⟨h1, by simp only; omega, by simp only; omega, h4, more_up hC.swo hxs hπ (by omega) (hπ _ (by omega)) hS1 (by omega) (by omega) hL⟩, by simp only; omega, weak_sub ?_⟩
      simp only [zS, seval, implies_true, Nat.reduceLeDiff, Nat.reduceEqDiff, reduceCtorEq, reduceIte]
    ·have h : ¬ i < j := by simpa using h
     have hij : i = j := by omega
     subst hij
     refine loop_of (τ := Nat × List D) (fun x => [(0, .osl 0 0 n), (14, .d (.int .i64 i)), (17, .d (.int .i64 x.1))]) (fun x => (.arr 1 x.2 :: τ))
      (fun x => i ≤ x.1 ∧ x.1 ≤ m ∧ ∃ κ, Arr Dm xs x.2 κ ∧ (∀ p, x.1 < p → p ≤ m → κ p = π (p - 1)) ∧ κ x.1 = π m ∧ (∀ p, p < x.1 ∨ m < p → κ p = π p)) (fun x => x.1) (m, ys)
      ⟨by simp only; omega, Nat.le_refl _, π, hA, fun p q1 q2 => by simp only at q1; omega, rfl, fun p _ => rfl⟩ ?_ ?_
     ·refine weak_sub ?_
      simp only [zS, seval, implies_true, Nat.reduceLeDiff, Nat.reduceEqDiff, reduceCtorEq, reduceIte]
     ·intro x hi
      obtain ⟨k, zs⟩ := x
      obtain ⟨k1, k2, κ, hZ, q1, q2, q3⟩ := hi
      simp only at k1 k2 hZ q1 q2 q3
      have hlZ := hZ.len
      simp only [zS, seval, implies_true, Nat.reduceLeDiff, Nat.reduceEqDiff, reduceCtorEq, reduceIte]
      refine ifC.mk (fun h => ?_) (fun h => ?_)
      ·have h : i < k := by simp at h; omega
       have g7 : IntKind.i64.wrap ((k : Int) - 1) = ((k - 1 : Nat) : Int) := by rw [wrap64 (by omega) (by omega)]; omega
       have l1 := El0.at hC.el hZ.el (i := k) (by omega)
       have l2 := El0.at hC.el hZ.el (i := k - 1) (by omega)
       have c1 : (k : Int) < (n : Int) := by omega
       have c2 : ((k - 1 : Nat) : Int) < (n : Int) := by omega
       have c3 : k < zs.length := by omega
       have c4 : k - 1 < zs.length := by omega
       simp only [zS, seval, implies_true, Nat.reduceLeDiff, Nat.reduceEqDiff, reduceCtorEq, reduceIte, g7, l1, l2, c1, c2, c3, c4]
       refine ⟨.inl (by kernel_rfl), (k - 1, _), ⟨by simp only; omega, by simp only; omega, _, hZ.swap (i := k) (j := k - 1) (by omega) (by omega), fun p p1 p2 => ?_, ?_, fun p hp => ?_⟩, by simp only; omega, weak_sub ?_⟩
       ·simp only at p1
        rw [if_neg (by omega)]
        by_cases e : p = k
        ·rw [if_pos e, e]; exact q3 _ (by omega)
        ·rw [if_neg e]; exact q1 p (by omega) p2
       ·simp only [if_true]; exact q2
       ·simp only at hp
        rw [if_neg (by omega), if_neg (by omega)]; exact q3 p (by omega)
       ·simp only [zS, seval, implies_true, Nat.reduceLeDiff, Nat.reduceEqDiff, reduceCtorEq, reduceIte, g7]
      ·have h : ¬ i < k := by simp at h; omega
       have hk : k = i := by omega
       subst hk
       obtain ⟨d1, d2⟩ := merge_one_right hc2 h1 h3 hS1 h4 h5 q1 q2 q3
       exact ⟨_, _, WeakR.refl _ _ _, rfl, zs, κ, rfl, hZ, d1, d2⟩
  ·omega
end YtadfcljoocjhdaaGreat
end Go.Proofs
