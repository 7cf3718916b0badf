/- A part of the proof: contracts of functions of this seat, and lemmas. No condition beyond those stated. -/
import Derived.Test.YtadfcljoocjhdaaGreatWts7
import Derived.Test.YtadfcljoocjhdaaGreatG4
set_option linter.unusedVariables false
set_option linter.unusedSimpArgs false
set_option linter.unusedSectionVars false
set_option linter.unnecessarySimpa false
set_option maxRecDepth 100000
namespace Go.Proofs
open Go.AM
namespace YtadfcljoocjhdaaGreat
variable {Gl : Globs} {τ : Sto}
theorem merge_spec (Dm : D → Prop) (cmpF : D → D → Int) (fv : FuncId) (caps : List AV) (hC : CmpOk Gl τ Dm cmpF fv caps) (xs : List D) (hxs : ∀ y ∈ xs, Dm y) (n : Nat) (hn : n ≤ xs.length) (hN : n < 1000000) :
  ∀ (N a m b : Nat) (ys : List D) (π : Nat → Nat), b - a ≤ N → Arr Dm xs ys π → (∀ p, p < xs.length → π p < xs.length) → a < m → m < b → b ≤ n → Sorted (fun x y => decide (cmpF x y < 0)) xs a m π → Sorted (fun x y => decide (cmpF x y < 0)) xs m b π → Tags a m b π →
   ACalls Tryz.prog Gl 136 [.osl 0 0 n, .d (.int .i64 a), .d (.int .i64 m), .d (.int .i64 b), .fn fv caps] (.arr 1 ys :: τ) (Merged τ Dm cmpF xs a b π) := by
 intro N
 induction N with
 | zero => intro a m b ys π h1 _ _ h2 h3; omega
 | succ N ih =>
  intro a m b ys π h1 hA hπ ham hmb hbn hS1 hS2 hT
  by_cases hb : m = a + 1 ∨ b = m + 1
  ·exact merge_base Dm cmpF fv caps hC xs hxs n hn hN a m b ys π hA hπ ham hmb hbn hS1 hS2 hT hb
  ·exact merge_gen Dm cmpF fv caps hC xs hxs n hn hN a m b ys π hA hπ ham hmb hbn hS1 hS2 hT (by omega) (by omega) fun a' m' b' ys' π' q1 => ih a' m' b' ys' π' (by omega)
def Stabled (τ : Sto) (Dm : D → Prop) (cmpF : D → D → Int) (xs : List D) (n : Nat) (s : Sto) : Prop :=
 ∃ zs ρ, s = (.arr 1 zs :: τ) ∧ Arr Dm xs zs ρ ∧ Blo (fun x y => decide (cmpF x y < 0)) xs 0 n ρ ∧ (∀ p, n ≤ p → ρ p = p)
theorem stable_spec (Dm : D → Prop) (cmpF : D → D → Int) (fv : FuncId) (caps : List AV) (hC : CmpOk Gl τ Dm cmpF fv caps) (xs : List D) (hxs : ∀ y ∈ xs, Dm y) (n : Nat) (hn : n ≤ xs.length) (hN : n < 1000000) :
  ACalls Tryz.prog Gl 93 [.osl 0 0 n, .d (.int .i64 n), .fn fv caps] (.arr 1 xs :: τ) (fun r s => r = .tup [] ∧ Stabled τ Dm cmpF xs n s) := by
 refine acalls_of Tryz.func93 rfl rfl (by simp [Tryz.ntmps93]) (evC_sound rfl _ _ _ _ ?_)
 simp only [Tryz.ntmps93, Tryz.results93, argEnv, List.length_nil]
 simp only [zS, seval, implies_true, Nat.reduceLeDiff, Nat.reduceEqDiff, reduceCtorEq, reduceIte]
 refine loop_of (τ := Nat × List D) (fun x => [(0, .osl 0 0 n), (1, .d (.int .i64 n)), (2, .fn fv caps), (6, .d (.int .i64 20)), (7, .d (.int .i64 x.1)), (8, .d (.int .i64 (x.1 + 20 : Nat)))]) (fun x => (.arr 1 x.2 :: τ))
  (fun x => Cut 20 x.1 ∧ x.1 ≤ n ∧ ∃ ρ, Arr Dm xs x.2 ρ ∧ Blks (fun x y => decide (cmpF x y < 0)) xs 20 n 0 x.1 ρ ∧ (∀ p, x.1 ≤ p → ρ p = p) ∧ (∀ p, p < xs.length → ρ p < xs.length)) (fun x => n - x.1) (0, xs)
  ⟨Cut.zero _, Nat.zero_le _, fun i => i, Arr.refl hxs, fun c _ h1 h2 => by simp only at h2; omega, fun _ _ => rfl, fun _ h => h⟩ ?_ ?_
 ·refine weak_sub ?_
  simp only [zS, seval, implies_true, Nat.reduceLeDiff, Nat.reduceEqDiff, reduceCtorEq, reduceIte]
  all_goals rfl
 ·intro x hi
  obtain ⟨a, ys⟩ := x
  obtain ⟨h1, h2, ρ, hA, hB, hid, hbd⟩ := hi
  simp only at h1 h2 hA hB hid
  have hl := hA.len
  by_cases h : a + 20 ≤ n
  ·have c1 : ((a + 20 : Nat) : Int) ≤ n := by omega
   simp only [zS, seval, implies_true, Nat.reduceLeDiff, Nat.reduceEqDiff, reduceCtorEq, reduceIte, c1]
   refine callF_go ((insertion_spec Dm cmpF fv caps hC xs ys hxs n a (a + 20) ρ hA hbd hn hN (by omega) h (fun p q p1 p2 p3 => by rw [hid p p1, hid q (by omega)]; exact p2)).mono fun r s h => ?_)
   obtain ⟨rfl, zs, κ, rfl, hZ, hM, hS⟩ := h
   obtain ⟨b1, b2⟩ := blks_step (n := n) (by omega) h1 (show a + 20 = min (a + 20) n by omega) hB hid hM hS
   have e1 : IntKind.i64.wrap (((a + 20 : Nat) : Int) + 20) = ((a + 20 + 20 : Nat) : Int) := by rw [wrap64 (by omega) (by omega)]; omega
   simp only [zS, seval, implies_true, Nat.reduceLeDiff, Nat.reduceEqDiff, reduceCtorEq, reduceIte, e1]
   refine ⟨(a + 20, zs), ⟨h1.next, h, κ, hZ, blks_more h1 b1 (Nat.le_refl _), fun p hp => b2 p hp (by simp only at hp; omega), hM.bound (by omega) hbd⟩, by simp only; omega, weak_sub ?_⟩
   simp only [zS, seval, implies_true, Nat.reduceLeDiff, Nat.reduceEqDiff, reduceCtorEq, reduceIte]
  ·have c1 : ¬ ((a + 20 : Nat) : Int) ≤ n := by omega
   simp only [zS, seval, implies_true, Nat.reduceLeDiff, Nat.reduceEqDiff, reduceCtorEq, reduceIte, c1]
   refine callF_go ((insertion_spec Dm cmpF fv caps hC xs ys hxs n a n ρ hA hbd hn hN h2 (Nat.le_refl _) (fun p q p1 p2 p3 => by rw [hid p p1, hid q (by omega)]; exact p2)).mono fun r s h => ?_)
   obtain ⟨rfl, us, κ, rfl, hU, hM, hS⟩ := h
   obtain ⟨b1, b2⟩ := blks_step (n := n) (by omega) h1 (show n = min (a + 20) n by omega) hB hid hM hS
   have hbd := hM.bound (by omega) hbd
   have b3 := blks_more (a' := n) h1 b1 (by omega)
   have b2 : ∀ p, n ≤ p → κ p = p := fun p hp => b2 p hp (by omega)
   clear hB hid hA
   simp only [zS, seval, implies_true, Nat.reduceLeDiff, Nat.reduceEqDiff, reduceCtorEq, reduceIte]
   refine loop_of (τ := Nat × List D) (fun x => [(0, .osl 0 0 n), (1, .d (.int .i64 n)), (2, .fn fv caps), (6, .d (.int .i64 x.1))]) (fun x => (.arr 1 x.2 :: τ))
    (fun x => 0 < x.1 ∧ (x.1 ≤ 20 ∨ x.1 < 2 * n) ∧ ∃ ρ, Arr Dm xs x.2 ρ ∧ Blks (fun x y => decide (cmpF x y < 0)) xs x.1 n 0 n ρ ∧ (∀ p, n ≤ p → ρ p = p) ∧ (∀ p, p < xs.length → ρ p < xs.length)) (fun x => n - x.1) (20, us)
    ⟨by simp only; omega, .inl (Nat.le_refl _), κ, hU, b3, b2, hbd⟩ ?_ ?_
   ·refine weak_sub ?_
    simp only [zS, seval, implies_true, Nat.reduceLeDiff, Nat.reduceEqDiff, reduceCtorEq, reduceIte]
    all_goals rfl
   ·clear b1 b2 b3 hU hbd hM hS
    intro x hi
    obtain ⟨s, ys⟩ := x
    obtain ⟨h3, h4, ρ, hA, hB, hid, hbd⟩ := hi
    simp only at h3 h4 hA hB
    have hl := hA.len
    by_cases h : s < n
    ·have c1 : (s : Int) < n := by omega
     have e1 : IntKind.i64.wrap (2 * (s : Int)) = ((2 * s : Nat) : Int) := by rw [wrap64 (by omega) (by omega)]; omega
     simp only [zS, seval, implies_true, Nat.reduceLeDiff, Nat.reduceEqDiff, reduceCtorEq, reduceIte, c1, e1]
     refine loop_of (τ := Nat × List D) (fun x => [(0, .osl 0 0 n), (1, .d (.int .i64 n)), (2, .fn fv caps), (6, .d (.int .i64 s)), (7, .d (.int .i64 x.1)), (8, .d (.int .i64 (x.1 + 2 * s : Nat)))]) (fun x => (.arr 1 x.2 :: τ))
      (fun x => Cut (2 * s) x.1 ∧ x.1 ≤ n ∧ ∃ ρ, Arr Dm xs x.2 ρ ∧ Blks (fun x y => decide (cmpF x y < 0)) xs s n x.1 n ρ ∧ Blks (fun x y => decide (cmpF x y < 0)) xs (2 * s) n 0 x.1 ρ ∧ (∀ p, n ≤ p → ρ p = p) ∧ (∀ p, p < xs.length → ρ p < xs.length)) (fun x => n - x.1) (0, ys)
      ⟨Cut.zero _, Nat.zero_le _, ρ, hA, hB, fun c _ h1 h2 => by simp only at h2; omega, hid, hbd⟩ ?_ ?_
     ·refine weak_sub ?_
      simp only [zS, seval, implies_true, Nat.reduceLeDiff, Nat.reduceEqDiff, reduceCtorEq, reduceIte]
      all_goals rfl
     ·clear hA hB hid hbd hl
      intro x hi
      obtain ⟨a, ys⟩ := x
      obtain ⟨h5, h6, ρ, hA, hB, hD, hid, hbd⟩ := hi
      simp only at h5 h6 hA hB hD
      have hl := hA.len
      have e2 : IntKind.i64.wrap ((a : Int) + s) = ((a + s : Nat) : Int) := by rw [wrap64 (by omega) (by omega)]; omega
      by_cases h : a + 2 * s ≤ n
      ·have c1 : ((a + 2 * s : Nat) : Int) ≤ n := by omega
       have hb : a + 2 * s = min (a + 2 * s) n := by omega
       obtain ⟨m1, m2, m3, m4⟩ := merge_pre (b := a + 2 * s) h5 h3 (by omega) hb hB
       simp only [zS, seval, implies_true, Nat.reduceLeDiff, Nat.reduceEqDiff, reduceCtorEq, reduceIte, c1, e2]
       refine callF_go ((merge_spec Dm cmpF fv caps hC xs hxs n hn hN _ a (a + s) (a + 2 * s) ys ρ (Nat.le_refl _) hA hbd (by omega) (by omega) h m1 m2 m3).mono fun r st hh => ?_)
       obtain ⟨rfl, zs, κ, rfl, hZ, hM, hS⟩ := hh
       obtain ⟨q1, q2⟩ := merge_step h5 h3 (by omega) hb hB hD hM hS
       have e3 : IntKind.i64.wrap (((a + 2 * s : Nat) : Int) + ((2 * s : Nat) : Int)) = ((a + 2 * s + 2 * s : Nat) : Int) := by rw [wrap64 (by omega) (by omega)]; omega
       simp only [zS, seval, implies_true, Nat.reduceLeDiff, Nat.reduceEqDiff, reduceCtorEq, reduceIte, e1, e3]
       refine ⟨(a + 2 * s, zs), ⟨h5.next, h, κ, hZ, q1, blks_more h5 q2 (Nat.le_refl _), fun p hp => by rw [hM.out p (by omega)]; exact hid p hp, hM.bound (by omega) hbd⟩, by simp only; omega, weak_sub ?_⟩
       simp only [zS, seval, implies_true, Nat.reduceLeDiff, Nat.reduceEqDiff, reduceCtorEq, reduceIte]
      ·have c1 : ¬ ((a + 2 * s : Nat) : Int) ≤ n := by omega
       by_cases hm : a + s < n
       ·have c2 : ((a + s : Nat) : Int) < n := by omega
        have hb : n = min (a + 2 * s) n := by omega
        obtain ⟨m1, m2, m3, m4⟩ := merge_pre (b := n) h5 h3 (by omega) hb hB
        simp only [zS, seval, implies_true, Nat.reduceLeDiff, Nat.reduceEqDiff, reduceCtorEq, reduceIte, c1, c2, e2]
        refine callF_go ((merge_spec Dm cmpF fv caps hC xs hxs n hn hN _ a (a + s) n ys ρ (Nat.le_refl _) hA hbd (by omega) (by omega) (Nat.le_refl _) m1 m2 m3).mono fun r st hh => ?_)
        obtain ⟨rfl, zs, κ, rfl, hZ, hM, hS⟩ := hh
        obtain ⟨q1, q2⟩ := merge_step h5 h3 (by omega) hb hB hD hM hS
        have e3 : IntKind.i64.wrap ((s : Int) * 2) = ((2 * s : Nat) : Int) := by rw [wrap64 (by omega) (by omega)]; omega
        simp only [zS, seval, implies_true, Nat.reduceLeDiff, Nat.reduceEqDiff, reduceCtorEq, reduceIte, e3]
        refine ⟨(2 * s, zs), ⟨by simp only; omega, .inr (by simp only; omega), κ, hZ, blks_more h5 q2 (by omega), fun p hp => by rw [hM.out p (by omega)]; exact hid p hp, hM.bound (by omega) hbd⟩, by simp only; omega, weak_sub ?_⟩
        simp only [zS, seval, implies_true, Nat.reduceLeDiff, Nat.reduceEqDiff, reduceCtorEq, reduceIte]
       ·have c2 : ¬ ((a + s : Nat) : Int) < n := by omega
        have e3 : IntKind.i64.wrap ((s : Int) * 2) = ((2 * s : Nat) : Int) := by rw [wrap64 (by omega) (by omega)]; omega
        simp only [zS, seval, implies_true, Nat.reduceLeDiff, Nat.reduceEqDiff, reduceCtorEq, reduceIte, c1, c2, e2, e3]
        refine ⟨(2 * s, ys), ⟨by simp only; omega, .inr (by simp only; omega), ρ, hA, merge_alone h5 h3 (by omega) hB hD, hid, hbd⟩, by simp only; omega, weak_sub ?_⟩
        simp only [zS, seval, implies_true, Nat.reduceLeDiff, Nat.reduceEqDiff, reduceCtorEq, reduceIte]
    ·have c1 : ¬ (s : Int) < n := by omega
     simp only [zS, seval, implies_true, Nat.reduceLeDiff, Nat.reduceEqDiff, reduceCtorEq, reduceIte, c1]
     exact ⟨_, _, WeakR.refl _ _ _, rfl, ys, ρ, rfl, hA, blks_done (by omega) hB, hid⟩
theorem sortStable_spec (Dm : D → Prop) (cmpF : D → D → Int) (fv : FuncId) (caps : List AV) (hC : CmpOk Gl τ Dm cmpF fv caps) (xs : List D) (hxs : ∀ y ∈ xs, Dm y) (n : Nat) (hn : n ≤ xs.length) (hN : n < 1000000) :
  ACalls Tryz.prog Gl 72 [.osl 0 0 n, .fn fv caps] (.arr 1 xs :: τ) (fun r s => r = .tup [] ∧ Stabled τ Dm cmpF xs n s) := by
 refine acalls_of Tryz.func72 rfl rfl (by simp [Tryz.ntmps72]) (evC_sound rfl _ _ _ _ ?_)
 simp only [Tryz.ntmps72, Tryz.results72, argEnv, List.length_nil]
 simp only [zS, seval, implies_true, Nat.reduceLeDiff, Nat.reduceEqDiff, reduceCtorEq, reduceIte]
 refine callF_go ((stable_spec Dm cmpF fv caps hC xs hxs n hn hN).mono fun r s h => ?_)
 obtain ⟨rfl, h⟩ := h
 simp only [zS, seval, implies_true, Nat.reduceLeDiff, Nat.reduceEqDiff, reduceCtorEq, reduceIte]
 exact ⟨_, _, WeakR.refl _ _ _, rfl, h⟩
end YtadfcljoocjhdaaGreat
end Go.Proofs
