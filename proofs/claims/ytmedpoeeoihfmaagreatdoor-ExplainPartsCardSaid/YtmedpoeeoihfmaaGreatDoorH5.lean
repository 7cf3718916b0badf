/- A part of the proof: contracts of functions of this seat, and lemmas. No condition beyond those stated. -/
import Derived.Test.YtmedpoeeoihfmaaGreatDoorH4
import Derived.Test.YtmedpoeeoihfmaaGreatDoorG4
import Derived.Test.YtmedpoeeoihfmaaGreatDoorH2
import Derived.Test.YtmedpoeeoihfmaaGreatDoorRows
import Derived.Test.YtmedpoeeoihfmaaGreatDoorCards
import Derived.Test.YtmedpoeeoihfmaaGreatDoorTie
import Derived.ProofKit
import Derived.LaidMore
import Derived.OpenShut
import Derived.Stop.Joined
import Derived.Stop.LaidErr
import Derived.SevenTiedAt
import Derived.MakeChecks
set_option linter.unusedVariables false
set_option linter.unusedSimpArgs false
set_option linter.unusedSectionVars false
set_option linter.unnecessarySimpa false
set_option maxRecDepth 100000
namespace Go.Proofs
open Go.AM
namespace YtmedpoeeoihfmaaGreatDoor
variable {Gl : Globs} {τ : Sto}
set_option maxHeartbeats 4000000 in
set_option maxRecDepth 10000 in
theorem merge_gen (Dm : D → Prop) (cmpF : D → D → Int) (fv : FuncId) (caps : List AV) (hC : CmpOk Gl τ Dm cmpF fv caps) (xs : List D) (hxs : ∀ y ∈ xs, Dm y) (n : Nat) (hn : n ≤ xs.length) (hN : n < 1000000)
  (a m b : Nat) (ys : List D) (π : Nat → Nat) (hA : Arr Dm xs ys π) (hπ : ∀ p, p < xs.length → π p < xs.length) (ham : a < m) (hmb : m < b) (hbn : b ≤ n) (hS1 : Sorted (fun x y => decide (cmpF x y < 0)) xs a m π) (hS2 : Sorted (fun x y => decide (cmpF x y < 0)) xs m b π) (hT : Tags a m b π)
  (hc1 : ¬ m = a + 1) (hc2 : ¬ b = m + 1)
  (ih : ∀ (a' m' b' : Nat) (ys : List D) (π : Nat → Nat), b' - a' < b - a → Arr Dm xs ys π → (∀ p, p < xs.length → π p < xs.length) → a' < m' → m' < b' → b' ≤ n → Sorted (fun x y => decide (cmpF x y < 0)) xs a' m' π → Sorted (fun x y => decide (cmpF x y < 0)) xs m' b' π → Tags a' m' b' π →
   ACalls Tryz.prog Gl 105 [.osl 0 0 n, .d (.int .i64 a'), .d (.int .i64 m'), .d (.int .i64 b'), .fn fv caps] (.arr 4 ys :: τ) (Merged τ Dm cmpF xs a' b' π)) :
  ACalls Tryz.prog Gl 105 [.osl 0 0 n, .d (.int .i64 a), .d (.int .i64 m), .d (.int .i64 b), .fn fv caps] (.arr 4 ys :: τ) (Merged τ Dm cmpF xs a b π) := by
 refine acalls_of Tryz.func105 rfl rfl (by simp [Tryz.ntmps105]) (evC_sound rfl _ _ _ _ ?_)
 simp only [Tryz.ntmps105, Tryz.results105, argEnv, List.length_nil]
 have hlY := hA.len
 have e1 : IntKind.i64.wrap ((m : Int) - a) = ((m - a : Nat) : Int) := by rw [wrap64 (by omega) (by omega)]; omega
 have e2 : IntKind.i64.wrap ((b : Int) - m) = ((b - m : Nat) : Int) := by rw [wrap64 (by omega) (by omega)]; omega
 have e3 : (((m - a : Nat) : Int) == 1) = false := by simp; omega
 have e4 : (((b - m : Nat) : Int) == 1) = false := by simp; omega
 have g1 : IntKind.i64.wrap ((a : Int) + b) = ((a + b : Nat) : Int) := by rw [wrap64 (by omega) (by omega)]; omega
 have g2 : IntKind.u64.wrap ((a + b : Nat) : Int) = ((a + b : Nat) : Int) := u64_in _ (by omega)
 have g3 : ((a + b : Nat) : Int).fdiv 2 = (((a + b) / 2 : Nat) : Int) := half _ (by omega)
 have g4 : IntKind.i64.wrap (((a + b) / 2 : Nat) : Int) = (((a + b) / 2 : Nat) : Int) := i64_nat _ (by omega)
 obtain ⟨d, e5, e6, e7⟩ : ∃ d, d = (a + b) / 2 ∧ a < d ∧ d < b := ⟨_, rfl, by omega, by omega⟩
 rw [← e5] at g3 g4
 have g5 : IntKind.i64.wrap ((d : Int) + m) = ((d + m : Nat) : Int) := by rw [wrap64 (by omega) (by omega)]; omega
 have g6 : IntKind.i64.wrap (((d + m : Nat) : Int) - 1) = ((d + m - 1 : Nat) : Int) := by rw [wrap64 (by omega) (by omega)]; omega
 obtain ⟨s0, r0, key⟩ : ∃ s0 r0 : Nat, (d < m ∧ s0 = d + m - b ∧ r0 = d) ∨ (m ≤ d ∧ s0 = a ∧ r0 = m) := by
  by_cases c : d < m
  ·exact ⟨_, _, .inl ⟨c, rfl, rfl⟩⟩
  ·exact ⟨_, _, .inr ⟨by omega, rfl, rfl⟩⟩
 have c0 : ((d : Int) < m) ∨ ¬ ((d : Int) < m) := by omega
 rcases key with ⟨k1, k2, k3⟩ | ⟨k1, k2, k3⟩
 ·have c0 : ((d : Int) < m) := by omega
  have g7 : IntKind.i64.wrap (((d + m : Nat) : Int) - b) = ((s0 : Nat) : Int) := by rw [wrap64 (by omega) (by omega)]; omega
  simp only [zS, seval, implies_true, Nat.reduceLeDiff, Nat.reduceEqDiff, reduceCtorEq, reduceIte, e1, e2, e3, e4, g1, g2, g3, g4, g5, g6, g7, shr1, c0]
  refine loop_of (τ := Nat × Nat) (fun x => [(0, .osl 0 0 n), (1, .d (.int .i64 a)), (2, .d (.int .i64 m)), (3, .d (.int .i64 b)), (4, .fn fv caps), (18, .d (.int .i64 d)), (19, .d (.int .i64 (d + m : Nat))), (20, .d (.int .i64 x.1)), (21, .d (.int .i64 x.2)), (22, .d (.int .i64 (d + m - 1 : Nat)))]) (fun x => (.arr 4 ys :: τ))
   (fun x => s0 ≤ x.1 ∧ x.1 ≤ x.2 ∧ x.2 ≤ r0 ∧ (s0 < x.1 → Lx (fun x y => decide (cmpF x y < 0)) xs (π (x.1 - 1)) (π (d + m - 1 - (x.1 - 1)))) ∧ (x.2 < r0 → Lx (fun x y => decide (cmpF x y < 0)) xs (π (d + m - 1 - x.2)) (π x.2))) (fun x => x.2 - x.1) (s0, r0)
   ⟨Nat.le_refl _, by simp only; omega, Nat.le_refl _, fun h => by simp only at h; omega, fun h => by simp only at h; omega⟩ ?_ ?_
  ·refine weak_sub ?_
   simp only [zS, seval, implies_true, Nat.reduceLeDiff, Nat.reduceEqDiff, reduceCtorEq, reduceIte, k2, k3]
  ·intro x hi
   obtain ⟨s, r⟩ := x
   obtain ⟨h1, h2, h3, h4, h5⟩ := hi
   simp only at h1 h2 h3 h4 h5
   by_cases hsr : s < r
   ·have q0 : ((s : Int) < r) := by omega
    have q1 : IntKind.i64.wrap ((s : Int) + r) = ((s + r : Nat) : Int) := by rw [wrap64 (by omega) (by omega)]; omega
    have q2 : IntKind.u64.wrap ((s + r : Nat) : Int) = ((s + r : Nat) : Int) := u64_in _ (by omega)
    have q3 : ((s + r : Nat) : Int).fdiv 2 = (((s + r) / 2 : Nat) : Int) := half _ (by omega)
    have q4 : IntKind.i64.wrap (((s + r) / 2 : Nat) : Int) = (((s + r) / 2 : Nat) : Int) := i64_nat _ (by omega)
    obtain ⟨c, e8, e9, e10⟩ : ∃ c, c = (s + r) / 2 ∧ s ≤ c ∧ c < r := ⟨_, rfl, by omega, by omega⟩
    rw [← e8] at q3 q4
    have q5 : IntKind.i64.wrap (((d + m - 1 : Nat) : Int) - c) = ((d + m - 1 - c : Nat) : Int) := by rw [wrap64 (by omega) (by omega)]; omega
    have lc := El.at hC.el hA.el (i := c) (by omega)
    have lp := El.at hC.el hA.el (i := d + m - 1 - c) (by omega)
    have c1 : (c : Int) < (n : Int) := by omega
    have c2 : ((d + m - 1 - c : Nat) : Int) < (n : Int) := by omega
    have c3 : c < ys.length := by omega
    have c4 : d + m - 1 - c < ys.length := by omega
    simp only [zS, seval, implies_true, Nat.reduceLeDiff, Nat.reduceEqDiff, reduceCtorEq, reduceIte, q0, q1, q2, q3, q4, q5, shr1, lc, lp, c1, c2, c3, c4]
    refine ⟨.inl (by kernel_rfl), callF_ext (v := .d (.int .i64 (cmpF (ys.getD (d + m - 1 - c) default) (ys.getD c default)))) (fun s hs => hC.call _ _ (hA.at (by omega)) (hA.at (by omega)) _ s hs) ?_⟩
    have f1 : ys.getD c default = xs.getD (π c) default := hA.get c (by omega)
    have f2 : ys.getD (d + m - 1 - c) default = xs.getD (π (d + m - 1 - c)) default := hA.get _ (by omega)
    have ht : π c < π (d + m - 1 - c) := hT _ _ (by omega) (by omega) (by omega) (by omega)
    simp only [zS, seval, implies_true, Nat.reduceLeDiff, Nat.reduceEqDiff, reduceCtorEq, reduceIte]
    refine ifC.mk (fun hc => ?_) (fun hc => ?_)
    ·have hL : Lx (fun x y => decide (cmpF x y < 0)) xs (π c) (π (d + m - 1 - c)) := (Lx.tag' ht).2 (.inl (by rw [← f1, ← f2]; simpa using hc))
     have q6 : IntKind.i64.wrap ((c : Int) + 1) = ((c + 1 : Nat) : Int) := by rw [wrap64 (by omega) (by omega)]; omega
     simp only [zS, seval, implies_true, Nat.reduceLeDiff, Nat.reduceEqDiff, reduceCtorEq, reduceIte, q6]
     refine ⟨(c + 1, r), ⟨by simp only; omega, by simp only; omega, h3, fun _ => by simp only; exact hL, h5⟩, by simp only; omega, weak_sub ?_⟩
     simp only [zS, seval, implies_true, Nat.reduceLeDiff, Nat.reduceEqDiff, reduceCtorEq, reduceIte]
    ·have hL : Lx (fun x y => decide (cmpF x y < 0)) xs (π (d + m - 1 - c)) (π c) := (Lx.tag ht).2 (by rw [← f1, ← f2]; simpa using hc)
     refine ⟨(s, c), ⟨h1, by simp only; omega, by simp only; omega, h4, fun _ => hL⟩, by simp only; omega, weak_sub ?_⟩
     simp only [zS, seval, implies_true, Nat.reduceLeDiff, Nat.reduceEqDiff, reduceCtorEq, reduceIte]
   ·have hs : s = r := by omega
    subst hs
    have q0 : ¬ ((s : Int) < s) := by omega
    have q1 : IntKind.i64.wrap (((d + m : Nat) : Int) - s) = ((d + m - s : Nat) : Int) := by rw [wrap64 (by omega) (by omega)]; omega
    obtain ⟨e, he⟩ : ∃ e, e = d + m - s := ⟨_, rfl⟩
    rw [← he] at q1
    obtain ⟨F1, F2⟩ := merge_found (p := d + m - 1) (s := s) (s0 := s0) (r0 := r0) (e := e) hC.swo hxs hπ (by omega) hS1 hS2 (by omega) h1 h3 (by omega) (by omega) (by omega) (by omega) (by omega) (by omega) (by omega) h4 h5 (by omega) (by omega)
    obtain ⟨ρ, hρ⟩ : ∃ ρ : Nat → Nat, ρ = fun p => π (rotI s m e p) := ⟨_, rfl⟩
    obtain ⟨t1, t2, t3, t4, t5, t6, t7, t8⟩ := merge_turn (ρ := ρ) (s := s) (e := e) (d := d) (by omega) (by omega) (by omega) (by omega) (by omega) hS1 hS2 hT F1 F2 (fun p _ _ => by rw [hρ]) (fun p hp => by rw [hρ]; show π (rotI s m e p) = π p; congr 1; unfold rotI; rw [if_pos (by omega)])
    by_cases hrot : s < m ∧ m < e
    ·have c1 : ((s : Int) < m) := by omega
     have c2 : ((m : Int) < e) := by omega
     simp only [zS, seval, implies_true, Nat.reduceLeDiff, Nat.reduceEqDiff, reduceCtorEq, reduceIte, q0, q1, c1, c2]
     refine callF_go ((rotate_spec Dm hC.el ys n s m e fv caps hA.el (by omega) hN hrot.1 hrot.2 (by omega)).mono fun r' s' h => ?_)
     obtain ⟨rfl, zs, rfl, hB⟩ := h
     have hZ : Arr Dm xs zs ρ := by rw [hρ]; exact hA.trans hB fun p hp => rotI_lt (by omega) (by omega) (by omega) hp
     have hρπ := t1.bound (by omega) hπ
     simp only [zS, seval, implies_true, Nat.reduceLeDiff, Nat.reduceEqDiff, reduceCtorEq, reduceIte]
     by_cases hm1 : a < s ∧ s < d
     ·have c1 : ((a : Int) < s) := by omega
      have c2 : ((s : Int) < d) := by omega
      simp only [zS, seval, implies_true, Nat.reduceLeDiff, Nat.reduceEqDiff, reduceCtorEq, reduceIte, c1, c2]
      refine callF_go ((ih a s d zs ρ (by omega) hZ hρπ hm1.1 hm1.2 (by omega) t2 t3 t6).mono fun r s' h => ?_)
      obtain ⟨rfl, ws, κ1, rfl, hW, m1, s1⟩ := h
      have hκ1 := m1.bound (by omega) hρπ
      simp only [zS, seval, implies_true, Nat.reduceLeDiff, Nat.reduceEqDiff, reduceCtorEq, reduceIte]
      by_cases hm2 : d < e ∧ e < b
      ·have c3 : ((d : Int) < e) := by omega
       have c4 : ((e : Int) < b) := by omega
       simp only [zS, seval, implies_true, Nat.reduceLeDiff, Nat.reduceEqDiff, reduceCtorEq, reduceIte, c3, c4]
       refine callF_go ((ih d e b ws κ1 (by omega) hW hκ1 hm2.1 hm2.2 hbn (fun p q q1 q2 q3 => by rw [m1.out p (by omega), m1.out q (by omega)]; exact t4 p q q1 q2 q3) (fun p q q1 q2 q3 => by rw [m1.out p (by omega), m1.out q (by omega)]; exact t5 p q q1 q2 q3) (fun p q q1 q2 q3 q4 => by rw [m1.out p (by omega), m1.out q (by omega)]; exact t7 p q q1 q2 q3 q4)).mono fun r s' h => ?_)
       obtain ⟨rfl, vs, κ2, rfl, hV, m2, s2⟩ := h
       obtain ⟨f1, f2⟩ := merge_join (by omega) (by omega) t1 m1 s1 m2 s2 t8
       simp only [zS, seval, implies_true, Nat.reduceLeDiff, Nat.reduceEqDiff, reduceCtorEq, reduceIte]
       exact ⟨_, _, WeakR.refl _ _ _, rfl, vs, κ2, rfl, hV, f1, f2⟩
      ·have c3 : (decide ((d : Int) < e) && decide ((e : Int) < b)) = false := by
        simp only [Bool.and_eq_false_iff, decide_eq_false_iff_not]
        omega
       have s2 : Sorted (fun x y => decide (cmpF x y < 0)) xs d b κ1 := fun p q q1 q2 q3 => by
        rw [m1.out p (by omega), m1.out q (by omega)]
        by_cases he : e = d
        ·exact t5 p q (by omega) q2 q3
        ·exact t4 p q q1 q2 (by omega)
       obtain ⟨f1, f2⟩ := merge_join (by omega) (by omega) t1 m1 s1 (Mv.refl d b κ1) s2 t8
       simp only [zS, seval, implies_true, Nat.reduceLeDiff, Nat.reduceEqDiff, reduceCtorEq, reduceIte, c3]
       exact ⟨_, _, WeakR.refl _ _ _, rfl, ws, κ1, rfl, hW, f1, f2⟩
     ·have c1 : (decide ((a : Int) < s) && decide ((s : Int) < d)) = false := by
       simp only [Bool.and_eq_false_iff, decide_eq_false_iff_not]
       omega
      have s1 : Sorted (fun x y => decide (cmpF x y < 0)) xs a d ρ := fun p q q1 q2 q3 => by
       by_cases he : s = a
       ·exact t3 p q (by omega) q2 q3
       ·exact t2 p q q1 q2 (by omega)
      obtain ⟨ws, κ1, hW, m1, hκ1, ew, ek⟩ : ∃ ws κ1, Arr Dm xs ws κ1 ∧ Mv a d ρ κ1 ∧ (∀ p, p < xs.length → κ1 p < xs.length) ∧ ws = zs ∧ κ1 = ρ := ⟨zs, ρ, hZ, Mv.refl _ _ _, hρπ, rfl, rfl⟩
      rw [← ek] at s1
      simp only [zS, seval, implies_true, Nat.reduceLeDiff, Nat.reduceEqDiff, reduceCtorEq, reduceIte, c1]
      rw [← ew]
      by_cases hm2 : d < e ∧ e < b
      ·have c3 : ((d : Int) < e) := by omega
       have c4 : ((e : Int) < b) := by omega
       simp only [zS, seval, implies_true, Nat.reduceLeDiff, Nat.reduceEqDiff, reduceCtorEq, reduceIte, c3, c4]
       refine callF_go ((ih d e b ws κ1 (by omega) hW hκ1 hm2.1 hm2.2 hbn (fun p q q1 q2 q3 => by rw [m1.out p (by omega), m1.out q (by omega)]; exact t4 p q q1 q2 q3) (fun p q q1 q2 q3 => by rw [m1.out p (by omega), m1.out q (by omega)]; exact t5 p q q1 q2 q3) (fun p q q1 q2 q3 q4 => by rw [m1.out p (by omega), m1.out q (by omega)]; exact t7 p q q1 q2 q3 q4)).mono fun r s' h => ?_)
       obtain ⟨rfl, vs, κ2, rfl, hV, m2, s2⟩ := h
       obtain ⟨f1, f2⟩ := merge_join (by omega) (by omega) t1 m1 s1 m2 s2 t8
       simp only [zS, seval, implies_true, Nat.reduceLeDiff, Nat.reduceEqDiff, reduceCtorEq, reduceIte]
       exact ⟨_, _, WeakR.refl _ _ _, rfl, vs, κ2, rfl, hV, f1, f2⟩
      ·have c3 : (decide ((d : Int) < e) && decide ((e : Int) < b)) = false := by
        simp only [Bool.and_eq_false_iff, decide_eq_false_iff_not]
        omega
       have s2 : Sorted (fun x y => decide (cmpF x y < 0)) xs d b κ1 := fun p q q1 q2 q3 => by
        rw [m1.out p (by omega), m1.out q (by omega)]
        by_cases he : e = d
        ·exact t5 p q (by omega) q2 q3
        ·exact t4 p q q1 q2 (by omega)
       obtain ⟨f1, f2⟩ := merge_join (by omega) (by omega) t1 m1 s1 (Mv.refl d b κ1) s2 t8
       simp only [zS, seval, implies_true, Nat.reduceLeDiff, Nat.reduceEqDiff, reduceCtorEq, reduceIte, c3]
       exact ⟨_, _, WeakR.refl _ _ _, rfl, ws, κ1, rfl, hW, f1, f2⟩
    ·have c1 : (decide ((s : Int) < m) && decide ((m : Int) < e)) = false := by
      simp only [Bool.and_eq_false_iff, decide_eq_false_iff_not]
      omega
     obtain ⟨zs, hzs⟩ : ∃ zs, zs = ys := ⟨_, rfl⟩
     have hZ : Arr Dm xs zs ρ := by
      rw [hρ, hzs]
      refine hA.congr fun p hp => ?_
      congr 1
      unfold rotI
      repeat' split
      all_goals omega
     have hρπ := t1.bound (by omega) hπ
     rw [← hzs]
     simp only [zS, seval, implies_true, Nat.reduceLeDiff, Nat.reduceEqDiff, reduceCtorEq, reduceIte, q0, q1, c1]
     by_cases hm1 : a < s ∧ s < d
     ·have c1 : ((a : Int) < s) := by omega
      have c2 : ((s : Int) < d) := by omega
      simp only [zS, seval, implies_true, Nat.reduceLeDiff, Nat.reduceEqDiff, reduceCtorEq, reduceIte, c1, c2]
      refine callF_go ((ih a s d zs ρ (by omega) hZ hρπ hm1.1 hm1.2 (by omega) t2 t3 t6).mono fun r s' h => ?_)
      obtain ⟨rfl, ws, κ1, rfl, hW, m1, s1⟩ := h
      have hκ1 := m1.bound (by omega) hρπ
      simp only [zS, seval, implies_true, Nat.reduceLeDiff, Nat.reduceEqDiff, reduceCtorEq, reduceIte]
      by_cases hm2 : d < e ∧ e < b
      ·have c3 : ((d : Int) < e) := by omega
       have c4 : ((e : Int) < b) := by omega
       simp only [zS, seval, implies_true, Nat.reduceLeDiff, Nat.reduceEqDiff, reduceCtorEq, reduceIte, c3, c4]
       refine callF_go ((ih d e b ws κ1 (by omega) hW hκ1 hm2.1 hm2.2 hbn (fun p q q1 q2 q3 => by rw [m1.out p (by omega), m1.out q (by omega)]; exact t4 p q q1 q2 q3) (fun p q q1 q2 q3 => by rw [m1.out p (by omega), m1.out q (by omega)]; exact t5 p q q1 q2 q3) (fun p q q1 q2 q3 q4 => by rw [m1.out p (by omega), m1.out q (by omega)]; exact t7 p q q1 q2 q3 q4)).mono fun r s' h => ?_)
       obtain ⟨rfl, vs, κ2, rfl, hV, m2, s2⟩ := h
       obtain ⟨f1, f2⟩ := merge_join (by omega) (by omega) t1 m1 s1 m2 s2 t8
       simp only [zS, seval, implies_true, Nat.reduceLeDiff, Nat.reduceEqDiff, reduceCtorEq, reduceIte]
       exact ⟨_, _, WeakR.refl _ _ _, rfl, vs, κ2, rfl, hV, f1, f2⟩
      ·have c3 : (decide ((d : Int) < e) && decide ((e : Int) < b)) = false := by
        simp only [Bool.and_eq_false_iff, decide_eq_false_iff_not]
        omega
       have s2 : Sorted (fun x y => decide (cmpF x y < 0)) xs d b κ1 := fun p q q1 q2 q3 => by
        rw [m1.out p (by omega), m1.out q (by omega)]
        by_cases he : e = d
        ·exact t5 p q (by omega) q2 q3
        ·exact t4 p q q1 q2 (by omega)
       obtain ⟨f1, f2⟩ := merge_join (by omega) (by omega) t1 m1 s1 (Mv.refl d b κ1) s2 t8
       simp only [zS, seval, implies_true, Nat.reduceLeDiff, Nat.reduceEqDiff, reduceCtorEq, reduceIte, c3]
       exact ⟨_, _, WeakR.refl _ _ _, rfl, ws, κ1, rfl, hW, f1, f2⟩
     ·have c1 : (decide ((a : Int) < s) && decide ((s : Int) < d)) = false := by
       simp only [Bool.and_eq_false_iff, decide_eq_false_iff_not]
       omega
      have s1 : Sorted (fun x y => decide (cmpF x y < 0)) xs a d ρ := fun p q q1 q2 q3 => by
       by_cases he : s = a
       ·exact t3 p q (by omega) q2 q3
       ·exact t2 p q q1 q2 (by omega)
      obtain ⟨ws, κ1, hW, m1, hκ1, ew, ek⟩ : ∃ ws κ1, Arr Dm xs ws κ1 ∧ Mv a d ρ κ1 ∧ (∀ p, p < xs.length → κ1 p < xs.length) ∧ ws = zs ∧ κ1 = ρ := ⟨zs, ρ, hZ, Mv.refl _ _ _, hρπ, rfl, rfl⟩
      rw [← ek] at s1
      simp only [zS, seval, implies_true, Nat.reduceLeDiff, Nat.reduceEqDiff, reduceCtorEq, reduceIte, c1]
      rw [← ew]
      by_cases hm2 : d < e ∧ e < b
      ·have c3 : ((d : Int) < e) := by omega
       have c4 : ((e : Int) < b) := by omega
       simp only [zS, seval, implies_true, Nat.reduceLeDiff, Nat.reduceEqDiff, reduceCtorEq, reduceIte, c3, c4]
       refine callF_go ((ih d e b ws κ1 (by omega) hW hκ1 hm2.1 hm2.2 hbn (fun p q q1 q2 q3 => by rw [m1.out p (by omega), m1.out q (by omega)]; exact t4 p q q1 q2 q3) (fun p q q1 q2 q3 => by rw [m1.out p (by omega), m1.out q (by omega)]; exact t5 p q q1 q2 q3) (fun p q q1 q2 q3 q4 => by rw [m1.out p (by omega), m1.out q (by omega)]; exact t7 p q q1 q2 q3 q4)).mono fun r s' h => ?_)
       obtain ⟨rfl, vs, κ2, rfl, hV, m2, s2⟩ := h
       obtain ⟨f1, f2⟩ := merge_join (by omega) (by omega) t1 m1 s1 m2 s2 t8
       simp only [zS, seval, implies_true, Nat.reduceLeDiff, Nat.reduceEqDiff, reduceCtorEq, reduceIte]
       exact ⟨_, _, WeakR.refl _ _ _, rfl, vs, κ2, rfl, hV, f1, f2⟩
      ·have c3 : (decide ((d : Int) < e) && decide ((e : Int) < b)) = false := by
        simp only [Bool.and_eq_false_iff, decide_eq_false_iff_not]
        omega
       have s2 : Sorted (fun x y => decide (cmpF x y < 0)) xs d b κ1 := fun p q q1 q2 q3 => by
        rw [m1.out p (by omega), m1.out q (by omega)]
        by_cases he : e = d
        ·exact t5 p q (by omega) q2 q3
        ·exact t4 p q q1 q2 (by omega)
       obtain ⟨f1, f2⟩ := merge_join (by omega) (by omega) t1 m1 s1 (Mv.refl d b κ1) s2 t8
       simp only [zS, seval, implies_true, Nat.reduceLeDiff, Nat.reduceEqDiff, reduceCtorEq, reduceIte, c3]
       exact ⟨_, _, WeakR.refl _ _ _, rfl, ws, κ1, rfl, hW, f1, f2⟩
 ·have c0 : ¬ ((d : Int) < m) := by omega
  have g7 : True := trivial
  simp only [zS, seval, implies_true, Nat.reduceLeDiff, Nat.reduceEqDiff, reduceCtorEq, reduceIte, e1, e2, e3, e4, g1, g2, g3, g4, g5, g6, g7, shr1, c0]
  refine loop_of (τ := Nat × Nat) (fun x => [(0, .osl 0 0 n), (1, .d (.int .i64 a)), (2, .d (.int .i64 m)), (3, .d (.int .i64 b)), (4, .fn fv caps), (18, .d (.int .i64 d)), (19, .d (.int .i64 (d + m : Nat))), (20, .d (.int .i64 x.1)), (21, .d (.int .i64 x.2)), (22, .d (.int .i64 (d + m - 1 : Nat)))]) (fun x => (.arr 4 ys :: τ))
   (fun x => s0 ≤ x.1 ∧ x.1 ≤ x.2 ∧ x.2 ≤ r0 ∧ (s0 < x.1 → Lx (fun x y => decide (cmpF x y < 0)) xs (π (x.1 - 1)) (π (d + m - 1 - (x.1 - 1)))) ∧ (x.2 < r0 → Lx (fun x y => decide (cmpF x y < 0)) xs (π (d + m - 1 - x.2)) (π x.2))) (fun x => x.2 - x.1) (s0, r0)
   ⟨Nat.le_refl _, by simp only; omega, Nat.le_refl _, fun h => by simp only at h; omega, fun h => by simp only at h; omega⟩ ?_ ?_
  ·refine weak_sub ?_
   simp only [zS, seval, implies_true, Nat.reduceLeDiff, Nat.reduceEqDiff, reduceCtorEq, reduceIte, k2, k3]
  ·intro x hi
   obtain ⟨s, r⟩ := x
   obtain ⟨h1, h2, h3, h4, h5⟩ := hi
   simp only at h1 h2 h3 h4 h5
   by_cases hsr : s < r
   ·have q0 : ((s : Int) < r) := by omega
    have q1 : IntKind.i64.wrap ((s : Int) + r) = ((s + r : Nat) : Int) := by rw [wrap64 (by omega) (by omega)]; omega
    have q2 : IntKind.u64.wrap ((s + r : Nat) : Int) = ((s + r : Nat) : Int) := u64_in _ (by omega)
    have q3 : ((s + r : Nat) : Int).fdiv 2 = (((s + r) / 2 : Nat) : Int) := half _ (by omega)
    have q4 : IntKind.i64.wrap (((s + r) / 2 : Nat) : Int) = (((s + r) / 2 : Nat) : Int) := i64_nat _ (by omega)
    obtain ⟨c, e8, e9, e10⟩ : ∃ c, c = (s + r) / 2 ∧ s ≤ c ∧ c < r := ⟨_, rfl, by omega, by omega⟩
    rw [← e8] at q3 q4
    have q5 : IntKind.i64.wrap (((d + m - 1 : Nat) : Int) - c) = ((d + m - 1 - c : Nat) : Int) := by rw [wrap64 (by omega) (by omega)]; omega
    have lc := El.at hC.el hA.el (i := c) (by omega)
    have lp := El.at hC.el hA.el (i := d + m - 1 - c) (by omega)
    have c1 : (c : Int) < (n : Int) := by omega
    have c2 : ((d + m - 1 - c : Nat) : Int) < (n : Int) := by omega
    have c3 : c < ys.length := by omega
    have c4 : d + m - 1 - c < ys.length := by omega
    simp only [zS, seval, implies_true, Nat.reduceLeDiff, Nat.reduceEqDiff, reduceCtorEq, reduceIte, q0, q1, q2, q3, q4, q5, shr1, lc, lp, c1, c2, c3, c4]
    refine ⟨.inl (by kernel_rfl), callF_ext (v := .d (.int .i64 (cmpF (ys.getD (d + m - 1 - c) default) (ys.getD c default)))) (fun s hs => hC.call _ _ (hA.at (by omega)) (hA.at (by omega)) _ s hs) ?_⟩
    have f1 : ys.getD c default = xs.getD (π c) default := hA.get c (by omega)
    have f2 : ys.getD (d + m - 1 - c) default = xs.getD (π (d + m - 1 - c)) default := hA.get _ (by omega)
    have ht : π c < π (d + m - 1 - c) := hT _ _ (by omega) (by omega) (by omega) (by omega)
    simp only [zS, seval, implies_true, Nat.reduceLeDiff, Nat.reduceEqDiff, reduceCtorEq, reduceIte]
    refine ifC.mk (fun hc => ?_) (fun hc => ?_)
    ·have hL : Lx (fun x y => decide (cmpF x y < 0)) xs (π c) (π (d + m - 1 - c)) := (Lx.tag' ht).2 (.inl (by rw [← f1, ← f2]; simpa using hc))
     have q6 : IntKind.i64.wrap ((c : Int) + 1) = ((c + 1 : Nat) : Int) := by rw [wrap64 (by omega) (by omega)]; omega
     simp only [zS, seval, implies_true, Nat.reduceLeDiff, Nat.reduceEqDiff, reduceCtorEq, reduceIte, q6]
     refine ⟨(c + 1, r), ⟨by simp only; omega, by simp only; omega, h3, fun _ => by simp only; exact hL, h5⟩, by simp only; omega, weak_sub ?_⟩
     simp only [zS, seval, implies_true, Nat.reduceLeDiff, Nat.reduceEqDiff, reduceCtorEq, reduceIte]
    ·have hL : Lx (fun x y => decide (cmpF x y < 0)) xs (π (d + m - 1 - c)) (π c) := (Lx.tag ht).2 (by rw [← f1, ← f2]; simpa using hc)
     refine ⟨(s, c), ⟨h1, by simp only; omega, by simp only; omega, h4, fun _ => hL⟩, by simp only; omega, weak_sub ?_⟩
     simp only [zS, seval, implies_true, Nat.reduceLeDiff, Nat.reduceEqDiff, reduceCtorEq, reduceIte]
   ·have hs : s = r := by omega
    subst hs
    have q0 : ¬ ((s : Int) < s) := by omega
    have q1 : IntKind.i64.wrap (((d + m : Nat) : Int) - s) = ((d + m - s : Nat) : Int) := by rw [wrap64 (by omega) (by omega)]; omega
    obtain ⟨e, he⟩ : ∃ e, e = d + m - s := ⟨_, rfl⟩
    rw [← he] at q1
    obtain ⟨F1, F2⟩ := merge_found (p := d + m - 1) (s := s) (s0 := s0) (r0 := r0) (e := e) hC.swo hxs hπ (by omega) hS1 hS2 (by omega) h1 h3 (by omega) (by omega) (by omega) (by omega) (by omega) (by omega) (by omega) h4 h5 (by omega) (by omega)
    obtain ⟨ρ, hρ⟩ : ∃ ρ : Nat → Nat, ρ = fun p => π (rotI s m e p) := ⟨_, rfl⟩
    obtain ⟨t1, t2, t3, t4, t5, t6, t7, t8⟩ := merge_turn (ρ := ρ) (s := s) (e := e) (d := d) (by omega) (by omega) (by omega) (by omega) (by omega) hS1 hS2 hT F1 F2 (fun p _ _ => by rw [hρ]) (fun p hp => by rw [hρ]; show π (rotI s m e p) = π p; congr 1; unfold rotI; rw [if_pos (by omega)])
    by_cases hrot : s < m ∧ m < e
    ·have c1 : ((s : Int) < m) := by omega
     have c2 : ((m : Int) < e) := by omega
     simp only [zS, seval, implies_true, Nat.reduceLeDiff, Nat.reduceEqDiff, reduceCtorEq, reduceIte, q0, q1, c1, c2]
     refine callF_go ((rotate_spec Dm hC.el ys n s m e fv caps hA.el (by omega) hN hrot.1 hrot.2 (by omega)).mono fun r' s' h => ?_)
     obtain ⟨rfl, zs, rfl, hB⟩ := h
     have hZ : Arr Dm xs zs ρ := by rw [hρ]; exact hA.trans hB fun p hp => rotI_lt (by omega) (by omega) (by omega) hp
     have hρπ := t1.bound (by omega) hπ
     simp only [zS, seval, implies_true, Nat.reduceLeDiff, Nat.reduceEqDiff, reduceCtorEq, reduceIte]
     by_cases hm1 : a < s ∧ s < d
     ·have c1 : ((a : Int) < s) := by omega
      have c2 : ((s : Int) < d) := by omega
      simp only [zS, seval, implies_true, Nat.reduceLeDiff, Nat.reduceEqDiff, reduceCtorEq, reduceIte, c1, c2]
      refine callF_go ((ih a s d zs ρ (by omega) hZ hρπ hm1.1 hm1.2 (by omega) t2 t3 t6).mono fun r s' h => ?_)
      obtain ⟨rfl, ws, κ1, rfl, hW, m1, s1⟩ := h
      have hκ1 := m1.bound (by omega) hρπ
      simp only [zS, seval, implies_true, Nat.reduceLeDiff, Nat.reduceEqDiff, reduceCtorEq, reduceIte]
      by_cases hm2 : d < e ∧ e < b
      ·have c3 : ((d : Int) < e) := by omega
       have c4 : ((e : Int) < b) := by omega
       simp only [zS, seval, implies_true, Nat.reduceLeDiff, Nat.reduceEqDiff, reduceCtorEq, reduceIte, c3, c4]
       refine callF_go ((ih d e b ws κ1 (by omega) hW hκ1 hm2.1 hm2.2 hbn (fun p q q1 q2 q3 => by rw [m1.out p (by omega), m1.out q (by omega)]; exact t4 p q q1 q2 q3) (fun p q q1 q2 q3 => by rw [m1.out p (by omega), m1.out q (by omega)]; exact t5 p q q1 q2 q3) (fun p q q1 q2 q3 q4 => by rw [m1.out p (by omega), m1.out q (by omega)]; exact t7 p q q1 q2 q3 q4)).mono fun r s' h => ?_)
       obtain ⟨rfl, vs, κ2, rfl, hV, m2, s2⟩ := h
       obtain ⟨f1, f2⟩ := merge_join (by omega) (by omega) t1 m1 s1 m2 s2 t8
       simp only [zS, seval, implies_true, Nat.reduceLeDiff, Nat.reduceEqDiff, reduceCtorEq, reduceIte]
       exact ⟨_, _, WeakR.refl _ _ _, rfl, vs, κ2, rfl, hV, f1, f2⟩
      ·have c3 : (decide ((d : Int) < e) && decide ((e : Int) < b)) = false := by
        simp only [Bool.and_eq_false_iff, decide_eq_false_iff_not]
        omega
       have s2 : Sorted (fun x y => decide (cmpF x y < 0)) xs d b κ1 := fun p q q1 q2 q3 => by
        rw [m1.out p (by omega), m1.out q (by omega)]
        by_cases he : e = d
        ·exact t5 p q (by omega) q2 q3
        ·exact t4 p q q1 q2 (by omega)
       obtain ⟨f1, f2⟩ := merge_join (by omega) (by omega) t1 m1 s1 (Mv.refl d b κ1) s2 t8
       simp only [zS, seval, implies_true, Nat.reduceLeDiff, Nat.reduceEqDiff, reduceCtorEq, reduceIte, c3]
       exact ⟨_, _, WeakR.refl _ _ _, rfl, ws, κ1, rfl, hW, f1, f2⟩
     ·have c1 : (decide ((a : Int) < s) && decide ((s : Int) < d)) = false := by
       simp only [Bool.and_eq_false_iff, decide_eq_false_iff_not]
       omega
      have s1 : Sorted (fun x y => decide (cmpF x y < 0)) xs a d ρ := fun p q q1 q2 q3 => by
       by_cases he : s = a
       ·exact t3 p q (by omega) q2 q3
       ·exact t2 p q q1 q2 (by omega)
      obtain ⟨ws, κ1, hW, m1, hκ1, ew, ek⟩ : ∃ ws κ1, Arr Dm xs ws κ1 ∧ Mv a d ρ κ1 ∧ (∀ p, p < xs.length → κ1 p < xs.length) ∧ ws = zs ∧ κ1 = ρ := ⟨zs, ρ, hZ, Mv.refl _ _ _, hρπ, rfl, rfl⟩
      rw [← ek] at s1
      simp only [zS, seval, implies_true, Nat.reduceLeDiff, Nat.reduceEqDiff, reduceCtorEq, reduceIte, c1]
      rw [← ew]
      by_cases hm2 : d < e ∧ e < b
      ·have c3 : ((d : Int) < e) := by omega
       have c4 : ((e : Int) < b) := by omega
       simp only [zS, seval, implies_true, Nat.reduceLeDiff, Nat.reduceEqDiff, reduceCtorEq, reduceIte, c3, c4]
       refine callF_go ((ih d e b ws κ1 (by omega) hW hκ1 hm2.1 hm2.2 hbn (fun p q q1 q2 q3 => by rw [m1.out p (by omega), m1.out q (by omega)]; exact t4 p q q1 q2 q3) (fun p q q1 q2 q3 => by rw [m1.out p (by omega), m1.out q (by omega)]; exact t5 p q q1 q2 q3) (fun p q q1 q2 q3 q4 => by rw [m1.out p (by omega), m1.out q (by omega)]; exact t7 p q q1 q2 q3 q4)).mono fun r s' h => ?_)
       obtain ⟨rfl, vs, κ2, rfl, hV, m2, s2⟩ := h
       obtain ⟨f1, f2⟩ := merge_join (by omega) (by omega) t1 m1 s1 m2 s2 t8
       simp only [zS, seval, implies_true, Nat.reduceLeDiff, Nat.reduceEqDiff, reduceCtorEq, reduceIte]
       exact ⟨_, _, WeakR.refl _ _ _, rfl, vs, κ2, rfl, hV, f1, f2⟩
      ·have c3 : (decide ((d : Int) < e) && decide ((e : Int) < b)) = false := by
        simp only [Bool.and_eq_false_iff, decide_eq_false_iff_not]
        omega
       have s2 : Sorted (fun x y => decide (cmpF x y < 0)) xs d b κ1 := fun p q q1 q2 q3 => by
        rw [m1.out p (by omega), m1.out q (by omega)]
        by_cases he : e = d
        ·exact t5 p q (by omega) q2 q3
        ·exact t4 p q q1 q2 (by omega)
       obtain ⟨f1, f2⟩ := merge_join (by omega) (by omega) t1 m1 s1 (Mv.refl d b κ1) s2 t8
       simp only [zS, seval, implies_true, Nat.reduceLeDiff, Nat.reduceEqDiff, reduceCtorEq, reduceIte, c3]
       exact ⟨_, _, WeakR.refl _ _ _, rfl, ws, κ1, rfl, hW, f1, f2⟩
    ·have c1 : (decide ((s : Int) < m) && decide ((m : Int) < e)) = false := by
      simp only [Bool.and_eq_false_iff, decide_eq_false_iff_not]
      omega
     obtain ⟨zs, hzs⟩ : ∃ zs, zs = ys := ⟨_, rfl⟩
     have hZ : Arr Dm xs zs ρ := by
      rw [hρ, hzs]
      refine hA.congr fun p hp => ?_
      congr 1
      unfold rotI
      repeat' split
      all_goals omega
     have hρπ := t1.bound (by omega) hπ
     rw [← hzs]
     simp only [zS, seval, implies_true, Nat.reduceLeDiff, Nat.reduceEqDiff, reduceCtorEq, reduceIte, q0, q1, c1]
     by_cases hm1 : a < s ∧ s < d
     ·have c1 : ((a : Int) < s) := by omega
      have c2 : ((s : Int) < d) := by omega
      simp only [zS, seval, implies_true, Nat.reduceLeDiff, Nat.reduceEqDiff, reduceCtorEq, reduceIte, c1, c2]
      refine callF_go ((ih a s d zs ρ (by omega) hZ hρπ hm1.1 hm1.2 (by omega) t2 t3 t6).mono fun r s' h => ?_)
      obtain ⟨rfl, ws, κ1, rfl, hW, m1, s1⟩ := h
      have hκ1 := m1.bound (by omega) hρπ
      simp only [zS, seval, implies_true, Nat.reduceLeDiff, Nat.reduceEqDiff, reduceCtorEq, reduceIte]
      by_cases hm2 : d < e ∧ e < b
      ·have c3 : ((d : Int) < e) := by omega
       have c4 : ((e : Int) < b) := by omega
       simp only [zS, seval, implies_true, Nat.reduceLeDiff, Nat.reduceEqDiff, reduceCtorEq, reduceIte, c3, c4]
       refine callF_go ((ih d e b ws κ1 (by omega) hW hκ1 hm2.1 hm2.2 hbn (fun p q q1 q2 q3 => by rw [m1.out p (by omega), m1.out q (by omega)]; exact t4 p q q1 q2 q3) (fun p q q1 q2 q3 => by rw [m1.out p (by omega), m1.out q (by omega)]; exact t5 p q q1 q2 q3) (fun p q q1 q2 q3 q4 => by rw [m1.out p (by omega), m1.out q (by omega)]; exact t7 p q q1 q2 q3 q4)).mono fun r s' h => ?_)
       obtain ⟨rfl, vs, κ2, rfl, hV, m2, s2⟩ := h
       obtain ⟨f1, f2⟩ := merge_join (by omega) (by omega) t1 m1 s1 m2 s2 t8
       simp only [zS, seval, implies_true, Nat.reduceLeDiff, Nat.reduceEqDiff, reduceCtorEq, reduceIte]
       exact ⟨_, _, WeakR.refl _ _ _, rfl, vs, κ2, rfl, hV, f1, f2⟩
      ·have c3 : (decide ((d : Int) < e) && decide ((e : Int) < b)) = false := by
        simp only [Bool.and_eq_false_iff, decide_eq_false_iff_not]
        omega
       have s2 : Sorted (fun x y => decide (cmpF x y < 0)) xs d b κ1 := fun p q q1 q2 q3 => by
        rw [m1.out p (by omega), m1.out q (by omega)]
        by_cases he : e = d
        ·exact t5 p q (by omega) q2 q3
        ·exact t4 p q q1 q2 (by omega)
       obtain ⟨f1, f2⟩ := merge_join (by omega) (by omega) t1 m1 s1 (Mv.refl d b κ1) s2 t8
       simp only [zS, seval, implies_true, Nat.reduceLeDiff, Nat.reduceEqDiff, reduceCtorEq, reduceIte, c3]
       exact ⟨_, _, WeakR.refl _ _ _, rfl, ws, κ1, rfl, hW, f1, f2⟩
     ·have c1 : (decide ((a : Int) < s) && decide ((s : Int) < d)) = false := by
       simp only [Bool.and_eq_false_iff, decide_eq_false_iff_not]
       omega
      have s1 : Sorted (fun x y => decide (cmpF x y < 0)) xs a d ρ := fun p q q1 q2 q3 => by
       by_cases he : s = a
       ·exact t3 p q (by omega) q2 q3
       ·exact t2 p q q1 q2 (by omega)
      obtain ⟨ws, κ1, hW, m1, hκ1, ew, ek⟩ : ∃ ws κ1, Arr Dm xs ws κ1 ∧ Mv a d ρ κ1 ∧ (∀ p, p < xs.length → κ1 p < xs.length) ∧ ws = zs ∧ κ1 = ρ := ⟨zs, ρ, hZ, Mv.refl _ _ _, hρπ, rfl, rfl⟩
      rw [← ek] at s1
      simp only [zS, seval, implies_true, Nat.reduceLeDiff, Nat.reduceEqDiff, reduceCtorEq, reduceIte, c1]
      rw [← ew]
      by_cases hm2 : d < e ∧ e < b
      ·have c3 : ((d : Int) < e) := by omega
       have c4 : ((e : Int) < b) := by omega
       simp only [zS, seval, implies_true, Nat.reduceLeDiff, Nat.reduceEqDiff, reduceCtorEq, reduceIte, c3, c4]
       refine callF_go ((ih d e b ws κ1 (by omega) hW hκ1 hm2.1 hm2.2 hbn (fun p q q1 q2 q3 => by rw [m1.out p (by omega), m1.out q (by omega)]; exact t4 p q q1 q2 q3) (fun p q q1 q2 q3 => by rw [m1.out p (by omega), m1.out q (by omega)]; exact t5 p q q1 q2 q3) (fun p q q1 q2 q3 q4 => by rw [m1.out p (by omega), m1.out q (by omega)]; exact t7 p q q1 q2 q3 q4)).mono fun r s' h => ?_)
       obtain ⟨rfl, vs, κ2, rfl, hV, m2, s2⟩ := h
       obtain ⟨f1, f2⟩ := merge_join (by omega) (by omega) t1 m1 s1 m2 s2 t8
       simp only [zS, seval, implies_true, Nat.reduceLeDiff, Nat.reduceEqDiff, reduceCtorEq, reduceIte]
       exact ⟨_, _, WeakR.refl _ _ _, rfl, vs, κ2, rfl, hV, f1, f2⟩
      ·have c3 : (decide ((d : Int) < e) && decide ((e : Int) < b)) = false := by
        simp only [Bool.and_eq_false_iff, decide_eq_false_iff_not]
        omega
       have s2 : Sorted (fun x y => decide (cmpF x y < 0)) xs d b κ1 := fun p q q1 q2 q3 => by
        rw [m1.out p (by omega), m1.out q (by omega)]
        by_cases he : e = d
        ·exact t5 p q (by omega) q2 q3
        ·exact t4 p q q1 q2 (by omega)
       obtain ⟨f1, f2⟩ := merge_join (by omega) (by omega) t1 m1 s1 (Mv.refl d b κ1) s2 t8
       simp only [zS, seval, implies_true, Nat.reduceLeDiff, Nat.reduceEqDiff, reduceCtorEq, reduceIte, c3]
       exact ⟨_, _, WeakR.refl _ _ _, rfl, ws, κ1, rfl, hW, f1, f2⟩

theorem merge_spec (Dm : D → Prop) (cmpF : D → D → Int) (fv : FuncId) (caps : List AV) (hC : CmpOk Gl τ Dm cmpF fv caps) (xs : List D) (hxs : ∀ y ∈ xs, Dm y) (n : Nat) (hn : n ≤ xs.length) (hN : n < 1000000) :
  ∀ (N a m b : Nat) (ys : List D) (π : Nat → Nat), b - a ≤ N → Arr Dm xs ys π → (∀ p, p < xs.length → π p < xs.length) → a < m → m < b → b ≤ n → Sorted (fun x y => decide (cmpF x y < 0)) xs a m π → Sorted (fun x y => decide (cmpF x y < 0)) xs m b π → Tags a m b π →
   ACalls Tryz.prog Gl 105 [.osl 0 0 n, .d (.int .i64 a), .d (.int .i64 m), .d (.int .i64 b), .fn fv caps] (.arr 4 ys :: τ) (Merged τ Dm cmpF xs a b π) := by
 intro N
 induction N with
 | zero => intro a m b ys π h1 _ _ h2 h3; omega
 | succ N ih =>
  intro a m b ys π h1 hA hπ ham hmb hbn hS1 hS2 hT
  by_cases hb : m = a + 1 ∨ b = m + 1
  ·exact merge_base Dm cmpF fv caps hC xs hxs n hn hN a m b ys π hA hπ ham hmb hbn hS1 hS2 hT hb
  ·exact merge_gen Dm cmpF fv caps hC xs hxs n hn hN a m b ys π hA hπ ham hmb hbn hS1 hS2 hT (by omega) (by omega) fun a' m' b' ys' π' q1 => ih a' m' b' ys' π' (by omega)
def Stabled (τ : Sto) (Dm : D → Prop) (cmpF : D → D → Int) (xs : List D) (n : Nat) (s : Sto) : Prop :=
 ∃ zs ρ, s = (.arr 4 zs :: τ) ∧ Arr Dm xs zs ρ ∧ Blo (fun x y => decide (cmpF x y < 0)) xs 0 n ρ ∧ (∀ p, n ≤ p → ρ p = p)
theorem stable_spec (Dm : D → Prop) (cmpF : D → D → Int) (fv : FuncId) (caps : List AV) (hC : CmpOk Gl τ Dm cmpF fv caps) (xs : List D) (hxs : ∀ y ∈ xs, Dm y) (n : Nat) (hn : n ≤ xs.length) (hN : n < 1000000) :
  ACalls Tryz.prog Gl 73 [.osl 0 0 n, .d (.int .i64 n), .fn fv caps] (.arr 4 xs :: τ) (fun r s => r = .tup [] ∧ Stabled τ Dm cmpF xs n s) := by
 refine acalls_of Tryz.func73 rfl rfl (by simp [Tryz.ntmps73]) (evC_sound rfl _ _ _ _ ?_)
 simp only [Tryz.ntmps73, Tryz.results73, argEnv, List.length_nil]
 simp only [zS, seval, implies_true, Nat.reduceLeDiff, Nat.reduceEqDiff, reduceCtorEq, reduceIte]
 refine loop_of (τ := Nat × List D) (fun x => [(0, .osl 0 0 n), (1, .d (.int .i64 n)), (2, .fn fv caps), (6, .d (.int .i64 20)), (7, .d (.int .i64 x.1)), (8, .d (.int .i64 (x.1 + 20 : Nat)))]) (fun x => (.arr 4 x.2 :: τ))
  (fun x => Cut 20 x.1 ∧ x.1 ≤ n ∧ ∃ ρ, Arr Dm xs x.2 ρ ∧ Blks (fun x y => decide (cmpF x y < 0)) xs 20 n 0 x.1 ρ ∧ (∀ p, x.1 ≤ p → ρ p = p) ∧ (∀ p, p < xs.length → ρ p < xs.length)) (fun x => n - x.1) (0, xs)
  ⟨Cut.zero _, Nat.zero_le _, fun i => i, Arr.refl hxs, fun c _ h1 h2 => by simp only at h2; omega, fun _ _ => rfl, fun _ h => h⟩ ?_ ?_
 ·refine weak_sub ?_
  simp only [zS, seval, implies_true, Nat.reduceLeDiff, Nat.reduceEqDiff, reduceCtorEq, reduceIte]
  all_goals rfl
 ·intro x hi
  obtain ⟨a, ys⟩ := x
  obtain ⟨h1, h2, ρ, hA, hB, hid, hbd⟩ := hi
  simp only at h1 h2 hA hB hid
  have hl := hA.len
  by_cases h : a + 20 ≤ n
  ·have c1 : ((a + 20 : Nat) : Int) ≤ n := by omega
   simp only [zS, seval, implies_true, Nat.reduceLeDiff, Nat.reduceEqDiff, reduceCtorEq, reduceIte, c1]
   refine callF_go ((insertion_spec Dm cmpF fv caps hC xs ys hxs n a (a + 20) ρ hA hbd hn hN (by omega) h (fun p q p1 p2 p3 => by rw [hid p p1, hid q (by omega)]; exact p2)).mono fun r s h => ?_)
   obtain ⟨rfl, zs, κ, rfl, hZ, hM, hS⟩ := h
   obtain ⟨b1, b2⟩ := blks_step (n := n) (by omega) h1 (show a + 20 = min (a + 20) n by omega) hB hid hM hS
   have e1 : IntKind.i64.wrap (((a + 20 : Nat) : Int) + 20) = ((a + 20 + 20 : Nat) : Int) := by rw [wrap64 (by omega) (by omega)]; omega
   simp only [zS, seval, implies_true, Nat.reduceLeDiff, Nat.reduceEqDiff, reduceCtorEq, reduceIte, e1]
   refine ⟨(a + 20, zs), ⟨h1.next, h, κ, hZ, blks_more h1 b1 (Nat.le_refl _), fun p hp => b2 p hp (by simp only at hp; omega), hM.bound (by omega) hbd⟩, by simp only; omega, weak_sub ?_⟩
   simp only [zS, seval, implies_true, Nat.reduceLeDiff, Nat.reduceEqDiff, reduceCtorEq, reduceIte]
  ·have c1 : ¬ ((a + 20 : Nat) : Int) ≤ n := by omega
   simp only [zS, seval, implies_true, Nat.reduceLeDiff, Nat.reduceEqDiff, reduceCtorEq, reduceIte, c1]
   refine callF_go ((insertion_spec Dm cmpF fv caps hC xs ys hxs n a n ρ hA hbd hn hN h2 (Nat.le_refl _) (fun p q p1 p2 p3 => by rw [hid p p1, hid q (by omega)]; exact p2)).mono fun r s h => ?_)
   obtain ⟨rfl, us, κ, rfl, hU, hM, hS⟩ := h
   obtain ⟨b1, b2⟩ := blks_step (n := n) (by omega) h1 (show n = min (a + 20) n by omega) hB hid hM hS
   have hbd := hM.bound (by omega) hbd
   have b3 := blks_more (a' := n) h1 b1 (by omega)
   have b2 : ∀ p, n ≤ p → κ p = p := fun p hp => b2 p hp (by omega)
   clear hB hid hA
   simp only [zS, seval, implies_true, Nat.reduceLeDiff, Nat.reduceEqDiff, reduceCtorEq, reduceIte]
   refine loop_of (τ := Nat × List D) (fun x => [(0, .osl 0 0 n), (1, .d (.int .i64 n)), (2, .fn fv caps), (6, .d (.int .i64 x.1))]) (fun x => (.arr 4 x.2 :: τ))
    (fun x => 0 < x.1 ∧ (x.1 ≤ 20 ∨ x.1 < 2 * n) ∧ ∃ ρ, Arr Dm xs x.2 ρ ∧ Blks (fun x y => decide (cmpF x y < 0)) xs x.1 n 0 n ρ ∧ (∀ p, n ≤ p → ρ p = p) ∧ (∀ p, p < xs.length → ρ p < xs.length)) (fun x => n - x.1) (20, us)
    ⟨by simp only; omega, .inl (Nat.le_refl _), κ, hU, b3, b2, hbd⟩ ?_ ?_
   ·refine weak_sub ?_
    simp only [zS, seval, implies_true, Nat.reduceLeDiff, Nat.reduceEqDiff, reduceCtorEq, reduceIte]
    all_goals rfl
   ·clear b1 b2 b3 hU hbd hM hS
    intro x hi
    obtain ⟨s, ys⟩ := x
    obtain ⟨h3, h4, ρ, hA, hB, hid, hbd⟩ := hi
    simp only at h3 h4 hA hB
    have hl := hA.len
    by_cases h : s < n
    ·have c1 : (s : Int) < n := by omega
     have e1 : IntKind.i64.wrap (2 * (s : Int)) = ((2 * s : Nat) : Int) := by rw [wrap64 (by omega) (by omega)]; omega
     simp only [zS, seval, implies_true, Nat.reduceLeDiff, Nat.reduceEqDiff, reduceCtorEq, reduceIte, c1, e1]
     refine loop_of (τ := Nat × List D) (fun x => [(0, .osl 0 0 n), (1, .d (.int .i64 n)), (2, .fn fv caps), (6, .d (.int .i64 s)), (7, .d (.int .i64 x.1)), (8, .d (.int .i64 (x.1 + 2 * s : Nat)))]) (fun x => (.arr 4 x.2 :: τ))
      (fun x => Cut (2 * s) x.1 ∧ x.1 ≤ n ∧ ∃ ρ, Arr Dm xs x.2 ρ ∧ Blks (fun x y => decide (cmpF x y < 0)) xs s n x.1 n ρ ∧ Blks (fun x y => decide (cmpF x y < 0)) xs (2 * s) n 0 x.1 ρ ∧ (∀ p, n ≤ p → ρ p = p) ∧ (∀ p, p < xs.length → ρ p < xs.length)) (fun x => n - x.1) (0, ys)
      ⟨Cut.zero _, Nat.zero_le _, ρ, hA, hB, fun c _ h1 h2 => by simp only at h2; omega, hid, hbd⟩ ?_ ?_
     ·refine weak_sub ?_
      simp only [zS, seval, implies_true, Nat.reduceLeDiff, Nat.reduceEqDiff, reduceCtorEq, reduceIte]
      all_goals rfl
     ·clear hA hB hid hbd hl
      intro x hi
      obtain ⟨a, ys⟩ := x
      obtain ⟨h5, h6, ρ, hA, hB, hD, hid, hbd⟩ := hi
      simp only at h5 h6 hA hB hD
      have hl := hA.len
      have e2 : IntKind.i64.wrap ((a : Int) + s) = ((a + s : Nat) : Int) := by rw [wrap64 (by omega) (by omega)]; omega
      by_cases h : a + 2 * s ≤ n
      ·have c1 : ((a + 2 * s : Nat) : Int) ≤ n := by omega
       have hb : a + 2 * s = min (a + 2 * s) n := by omega
       obtain ⟨m1, m2, m3, m4⟩ := merge_pre (b := a + 2 * s) h5 h3 (by omega) hb hB
       simp only [zS, seval, implies_true, Nat.reduceLeDiff, Nat.reduceEqDiff, reduceCtorEq, reduceIte, c1, e2]
       refine callF_go ((merge_spec Dm cmpF fv caps hC xs hxs n hn hN _ a (a + s) (a + 2 * s) ys ρ (Nat.le_refl _) hA hbd (by omega) (by omega) h m1 m2 m3).mono fun r st hh => ?_)
       obtain ⟨rfl, zs, κ, rfl, hZ, hM, hS⟩ := hh
       obtain ⟨q1, q2⟩ := merge_step h5 h3 (by omega) hb hB hD hM hS
       have e3 : IntKind.i64.wrap (((a + 2 * s : Nat) : Int) + ((2 * s : Nat) : Int)) = ((a + 2 * s + 2 * s : Nat) : Int) := by rw [wrap64 (by omega) (by omega)]; omega
       simp only [zS, seval, implies_true, Nat.reduceLeDiff, Nat.reduceEqDiff, reduceCtorEq, reduceIte, e1, e3]
       refine ⟨(a + 2 * s, zs), ⟨h5.next, h, κ, hZ, q1, blks_more h5 q2 (Nat.le_refl _), fun p hp => by rw [hM.out p (by omega)]; exact hid p hp, hM.bound (by omega) hbd⟩, by simp only; omega, weak_sub ?_⟩
       simp only [zS, seval, implies_true, Nat.reduceLeDiff, Nat.reduceEqDiff, reduceCtorEq, reduceIte]
      ·have c1 : ¬ ((a + 2 * s : Nat) : Int) ≤ n := by omega
       by_cases hm : a + s < n
       ·have c2 : ((a + s : Nat) : Int) < n := by omega
        have hb : n = min (a + 2 * s) n := by omega
        obtain ⟨m1, m2, m3, m4⟩ := merge_pre (b := n) h5 h3 (by omega) hb hB
        simp only [zS, seval, implies_true, Nat.reduceLeDiff, Nat.reduceEqDiff, reduceCtorEq, reduceIte, c1, c2, e2]
        refine callF_go ((merge_spec Dm cmpF fv caps hC xs hxs n hn hN _ a (a + s) n ys ρ (Nat.le_refl _) hA hbd (by omega) (by omega) (Nat.le_refl _) m1 m2 m3).mono fun r st hh => ?_)
        obtain ⟨rfl, zs, κ, rfl, hZ, hM, hS⟩ := hh
        obtain ⟨q1, q2⟩ := merge_step h5 h3 (by omega) hb hB hD hM hS
        have e3 : IntKind.i64.wrap ((s : Int) * 2) = ((2 * s : Nat) : Int) := by rw [wrap64 (by omega) (by omega)]; omega
        simp only [zS, seval, implies_true, Nat.reduceLeDiff, Nat.reduceEqDiff, reduceCtorEq, reduceIte, e3]
        refine ⟨(2 * s, zs), ⟨by simp only; omega, .inr (by simp only; omega), κ, hZ, blks_more h5 q2 (by omega), fun p hp => by rw [hM.out p (by omega)]; exact hid p hp, hM.bound (by omega) hbd⟩, by simp only; omega, weak_sub ?_⟩
        simp only [zS, seval, implies_true, Nat.reduceLeDiff, Nat.reduceEqDiff, reduceCtorEq, reduceIte]
       ·have c2 : ¬ ((a + s : Nat) : Int) < n := by omega
        have e3 : IntKind.i64.wrap ((s : Int) * 2) = ((2 * s : Nat) : Int) := by rw [wrap64 (by omega) (by omega)]; omega
        simp only [zS, seval, implies_true, Nat.reduceLeDiff, Nat.reduceEqDiff, reduceCtorEq, reduceIte, c1, c2, e2, e3]
        refine ⟨(2 * s, ys), ⟨by simp only; omega, .inr (by simp only; omega), ρ, hA, merge_alone h5 h3 (by omega) hB hD, hid, hbd⟩, by simp only; omega, weak_sub ?_⟩
        simp only [zS, seval, implies_true, Nat.reduceLeDiff, Nat.reduceEqDiff, reduceCtorEq, reduceIte]
    ·have c1 : ¬ (s : Int) < n := by omega
     simp only [zS, seval, implies_true, Nat.reduceLeDiff, Nat.reduceEqDiff, reduceCtorEq, reduceIte, c1]
     exact ⟨_, _, WeakR.refl _ _ _, rfl, ys, ρ, rfl, hA, blks_done (by omega) hB, hid⟩
theorem sortStable_spec (Dm : D → Prop) (cmpF : D → D → Int) (fv : FuncId) (caps : List AV) (hC : CmpOk Gl τ Dm cmpF fv caps) (xs : List D) (hxs : ∀ y ∈ xs, Dm y) (n : Nat) (hn : n ≤ xs.length) (hN : n < 1000000) :
  ACalls Tryz.prog Gl 38 [.osl 0 0 n, .fn fv caps] (.arr 4 xs :: τ) (fun r s => r = .tup [] ∧ Stabled τ Dm cmpF xs n s) := by
 refine acalls_of Tryz.func38 rfl rfl (by simp [Tryz.ntmps38]) (evC_sound rfl _ _ _ _ ?_)
 simp only [Tryz.ntmps38, Tryz.results38, argEnv, List.length_nil]
 simp only [zS, seval, implies_true, Nat.reduceLeDiff, Nat.reduceEqDiff, reduceCtorEq, reduceIte]
 refine callF_go ((stable_spec Dm cmpF fv caps hC xs hxs n hn hN).mono fun r s h => ?_)
 obtain ⟨rfl, h⟩ := h
 simp only [zS, seval, implies_true, Nat.reduceLeDiff, Nat.reduceEqDiff, reduceCtorEq, reduceIte]
 exact ⟨_, _, WeakR.refl _ _ _, rfl, h⟩
end YtmedpoeeoihfmaaGreatDoor
end Go.Proofs

set_option maxRecDepth 100000
namespace Go.Proofs
open Go.AM
namespace YtmedpoeeoihfmaaGreatDoor
variable {Gl : Globs}
def ordP (x y : PartT) : Int := cmpS (absF y.value) (absF x.value)
theorem k_top1 (x y : PartT) (hx : x.value.In) (hy : y.value.In) : Pure Tryz.prog Gl 39 [.d x.toD, .d y.toD] (.d (.int .i64 (ordP x y))) := by
 refine Pure.of2 ?_
 refine acalls_of Tryz.func39 rfl rfl (by simp [Tryz.ntmps39]) (evC_sound rfl _ _ _ _ ?_)
 simp only [Tryz.ntmps39, Tryz.results39, argEnv, List.length_nil]
 simp only [zP, seval, implies_true, Nat.reduceLeDiff, Nat.reduceEqDiff, reduceCtorEq, reduceIte, intD]
 repeat ((with_reducible refine And.intro ?_ ?_); (focus (first | omega | (simp only [lenR]; omega) | (refine qq ?_; rfl) | (refine dq ?_; kernel_rfl) | (intros; simp_all; done))))
 refine callF_pure (k_abs y.value) ?_
 simp only [zP, seval, implies_true, Nat.reduceLeDiff, Nat.reduceEqDiff, reduceCtorEq, reduceIte, intD]
 repeat ((with_reducible refine And.intro ?_ ?_); (focus (first | omega | (simp only [lenR]; omega) | (refine qq ?_; rfl) | (refine dq ?_; kernel_rfl) | (intros; simp_all; done))))
 refine callF_pure (k_abs x.value) ?_
 simp only [zP, seval, implies_true, Nat.reduceLeDiff, Nat.reduceEqDiff, reduceCtorEq, reduceIte, intD]
 repeat ((with_reducible refine And.intro ?_ ?_); (focus (first | omega | (simp only [lenR]; omega) | (refine qq ?_; rfl) | (refine dq ?_; kernel_rfl) | (intros; simp_all; done))))
 refine callF_pure (c22 (absF y.value) (absF x.value) (absF_in hy) (absF_in hx)) ?_
 simp only [zP, seval, implies_true, Nat.reduceLeDiff, Nat.reduceEqDiff, reduceCtorEq, reduceIte, intD]
 repeat ((with_reducible refine And.intro ?_ ?_); (focus (first | omega | (simp only [lenR]; omega) | (refine qq ?_; rfl) | (refine dq ?_; kernel_rfl) | (intros; simp_all; done))))
 exact ⟨_, _, ret_d, rfl, rfl⟩
def DmP (d : D) : Prop := ∃ x : PartT, d = x.toD ∧ x.value.In
def unP (d : D) : FracT := match d with | .agg [_, _, .int _ n, .int _ q] => ⟨n, q⟩ | _ => ⟨0, 0⟩
def cmpP (a b : D) : Int := cmpS (absF (unP b)) (absF (unP a))
theorem swoP : Swo DmP (fun x y => decide (cmpP x y < 0)) := by
 have hb : ∀ a b, -1 ≤ cmpS a b ∧ cmpS a b ≤ 1 := fun a b => by rw [cmp_sgn]; exact sgn_bd _
 refine ⟨fun x _ => ?_, fun x y z _ _ _ h1 h2 => ?_, fun x y z _ _ _ h1 h2 => ?_⟩
 ·rw [cmpP, cmp_self]; rfl
 ·have h1 : cmpS (absF (unP y)) (absF (unP x)) < 0 := of_decide_eq_true h1
  have h2 : cmpS (absF (unP z)) (absF (unP y)) < 0 := of_decide_eq_true h2
  refine decide_eq_true (show cmpS (absF (unP z)) (absF (unP x)) < 0 from ?_)
  have f1 := cmp_flip (absF (unP y)) (absF (unP x))
  have f2 := cmp_flip (absF (unP z)) (absF (unP y))
  have f3 := cmp_flip (absF (unP z)) (absF (unP x))
  have t1 := cmp_trans (a := absF (unP z)) (b := absF (unP y)) (c := absF (unP x)) (by omega) (by omega)
  by_cases e : cmpS (absF (unP z)) (absF (unP x)) = 0
  ·exfalso
   have t2 := cmp_trans (a := absF (unP x)) (b := absF (unP z)) (c := absF (unP y)) (by omega) (by omega)
   omega
  ·omega
 ·have h1 : ¬ cmpS (absF (unP y)) (absF (unP x)) < 0 := of_decide_eq_false h1
  have h2 : ¬ cmpS (absF (unP z)) (absF (unP y)) < 0 := of_decide_eq_false h2
  refine decide_eq_false (show ¬ cmpS (absF (unP z)) (absF (unP x)) < 0 from ?_)
  have f1 := cmp_flip (absF (unP y)) (absF (unP x))
  have f2 := cmp_flip (absF (unP z)) (absF (unP y))
  have f3 := cmp_flip (absF (unP z)) (absF (unP x))
  have t1 := cmp_trans (a := absF (unP x)) (b := absF (unP y)) (c := absF (unP z)) (by omega) (by omega)
  omega
theorem cmpOkP : CmpOk Gl [] DmP cmpP 39 [] := by
 refine ⟨fun d hd => ?_, fun a b ha hb ys s hs => ?_, swoP⟩
 ·obtain ⟨x, rfl, _⟩ := hd
  exact ⟨rfl, rfl⟩
 ·obtain ⟨x, rfl, hx⟩ := ha
  obtain ⟨y, rfl, hy⟩ := hb
  exact k_top1 x y hx hy s
def topL (l : List PartT) : List PartT := sortF (fun x y => decide (ordP x y < 0)) l
theorem k_Clone (l : List PartT) (hl : l.length ≤ 100000) : ACalls Tryz.prog Gl 37 [.d (.sl (l.map PartT.toD))] [] (fun r s => r = .osl 0 0 l.length ∧ s = [.arr 4 (l.map PartT.toD)]) := by
 cases l with
 | nil =>
  refine acalls_of Tryz.func37 rfl rfl (by simp [Tryz.ntmps37]) (evC_sound rfl _ _ _ _ ?_)
  simp only [Tryz.ntmps37, Tryz.results37, argEnv, List.length_nil]
  simp only [zP, seval, implies_true, Nat.reduceLeDiff, Nat.reduceEqDiff, reduceCtorEq, reduceIte, intD]
  refine ⟨⟨_, _, weakR_nils 4 (Nat.le_refl 0), rfl, rfl⟩, ?_⟩
  exact ⟨_, _, weakR_to [] [1] rfl (by simp) rfl rfl, rfl, rfl⟩
 | cons r rs =>
  simp only [List.map_cons, List.length_cons] at hl ⊢
  refine acalls_of Tryz.func37 rfl rfl (by simp [Tryz.ntmps37]) (evC_sound rfl _ _ _ _ ?_)
  simp only [Tryz.ntmps37, Tryz.results37, argEnv, List.length_nil]
  simp only [zP, seval, implies_true, Nat.reduceLeDiff, Nat.reduceEqDiff, reduceCtorEq, reduceIte, intD]
  repeat ((with_reducible refine And.intro ?_ ?_); (focus (first | omega | (simp only [lenR]; omega) | (refine qq ?_; rfl) | (refine dq ?_; kernel_rfl) | (intros; simp_all; done))))
  exact ⟨_, _, weakR_to [] [1] rfl (by simp) rfl (by simp [renS, renB, blkAt, freezeL]; try rfl), rfl, rfl⟩
end YtmedpoeeoihfmaaGreatDoor
end Go.Proofs

set_option maxRecDepth 100000
namespace Go.Proofs
open Go.AM
namespace YtmedpoeeoihfmaaGreatDoor
theorem checkF_le {l : List NodeT} (h : checkF l = 0) (i : Nat) (hi : i < l.length) : NdV (l.getD i default) := by
 have hrf := (checkF_ok h).2.1
 have h2 : firstErr (fun k => nodeE (l.getD k default)) l.length = 0 := by
  unfold rangesF at hrf
  by_cases h3 : firstErr (fun k => nodeE (l.getD k default)) l.length = 0
  ·exact h3
  ·rw [if_neg h3] at hrf; exact absurd hrf h3
 obtain ⟨_, h3, h4, h5, h6, h7⟩ := nodeE_ok (firstErr_zero h2 i hi)
 exact ⟨⟨h5, h6, h3, h4⟩, h7⟩
theorem ndV_zero : NdV (⟨0, [], 0, 0, 0⟩ : NodeT) := ⟨⟨by decide, by decide, by decide, by decide⟩, fun _ => rfl⟩
theorem ndV_at {l : List NodeT} (h : checkF l = 0) (i : Int) (hi : i < l.length) : NdV (ndAt l i) := by
 unfold ndAt
 split
 ·exact ndV_zero
 ·exact checkF_le h i.toNat (by omega)
def inP (a b : List NodeT) (p : PairT) : Prop := -1 ≤ p.a ∧ p.a < a.length ∧ -1 ≤ p.b ∧ p.b < b.length ∧ (0 ≤ p.a ∨ 0 ≤ p.b)
theorem pairs_in {a b : List NodeT} (hm : Mut a.length b.length (finS a b)) : ∀ p ∈ pairsOf a b, inP a b p := by
 intro p hp
 rw [pairsOf] at hp
 rcases List.mem_append.1 hp with hp | hp
 ·obtain ⟨i, hi, rfl⟩ := List.mem_map.1 hp
  have hi := List.mem_range.1 hi
  have hr := hm.rb i
  exact ⟨by simp only; omega, by simp only; omega, hr.1, hr.2, .inl (by simp only; omega)⟩
 ·obtain ⟨k, hk, rfl⟩ := List.mem_map.1 hp
  have hk := List.mem_range.1 (List.mem_filter.1 hk).1
  exact ⟨by simp only; omega, by simp only; omega, by simp only; omega, by simp only; omega, .inr (by simp only; omega)⟩
theorem parts_len (x y : NodeT) (path : List (List UInt8)) : (partsF x y path).length ≤ 2 := by
 unfold partsF
 split
 ·exact Nat.le_refl _
 ·rw [List.length_append]
  split <;> split <;> simp
theorem cont_len (a b : List NodeT) (l : List PairT) : (contL a b l).length ≤ 2 * l.length := by
 induction l with
 | nil => exact Nat.le_refl _
 | cons p l ih =>
  rw [contL, List.flatMap_cons, List.length_append, List.length_cons]
  have := parts_len (ndAt a p.a) (ndAt b p.b) (pthP a b p)
  rw [contL] at ih
  unfold contP at ih ⊢
  omega
theorem pairs_le {a b : List NodeT} : (pairsOf a b).length ≤ a.length + b.length := by
 rw [pairsOf, List.length_append, pairsA_len]
 have := pairsB_len (finS a b) b.length
 omega
def sRest : List UInt8 := [114, 101, 115, 116]
def valL (l : List PartT) : List FracT := l.map PartT.value
def topF (l : List PartT) (n : Int) : List PartT × Int :=
 if n < 0 then ([], 2) else if (sumL (valL l)).2 = false then ([], 1) else if (l.length : Int) ≤ n then (topL l, 0)
 else if (sumL (valL ((topL l).drop n.toNat))).2 = false then ([], 1) else ((topL l).take n.toNat ++ [⟨[], sRest, (sumL (valL ((topL l).drop n.toNat))).1⟩], 0)
theorem putF_perm {α : Type} [Inhabited α] (lt : α → α → Bool) (l : List α) (b : α) : (putF lt l b).Perm (b :: l) := by
 have h : (putF lt l b).Perm (b :: (l.take (putAt lt l b l.length) ++ l.drop (putAt lt l b l.length))) := List.perm_middle
 rwa [List.take_append_drop] at h
theorem sortF_perm {α : Type} [Inhabited α] (lt : α → α → Bool) (l : List α) : (sortF lt l).Perm l := by
 have gen : ∀ (l acc : List α), (l.foldl (putF lt) acc).Perm (acc ++ l) := by
  intro l
  induction l with
  | nil => intro acc; rw [List.append_nil]; exact List.Perm.refl _
  | cons x l ih =>
   intro acc
   refine (ih (putF lt acc x)).trans ?_
   refine ((putF_perm lt acc x).append_right l).trans ?_
   rw [List.cons_append]
   exact List.perm_middle.symm
 exact gen l []
theorem topL_len (l : List PartT) : (topL l).length = l.length := sortF_length _ _
theorem topL_mem {l : List PartT} {x : PartT} : x ∈ topL l ↔ x ∈ l := (sortF_perm _ _).mem_iff
theorem parts_same (x : NodeT) (hx : NdV x) (path : List (List UInt8)) : (partsF x x path).filter keepP = [] := by
 rw [List.filter_eq_nil_iff]
 intro v hv
 have hz : ∀ (c : List UInt8) (d : Int), 0 < d → (mkP path c 0 d).value.n = 0 := fun c d hd => by
  show (ofS 0 d).1.n = 0
  unfold ofS
  rw [if_neg (by omega), normS_made]
  unfold madeP
  split
  ·simp
  ·rfl
 obtain ⟨⟨x1, x2, x3, x4⟩, x5⟩ := hx
 unfold partsF at hv
 by_cases h : 0 < x.count
 ·rw [if_pos ⟨h, h⟩] at hv
  have e1 : (x.count - x.count) * x.self = 0 := by rw [Int.sub_self, Int.zero_mul]
  have e2 : x.self * x.count - x.count * x.self = 0 := by rw [Int.mul_comm]; omega
  rw [e1, e2] at hv
  rcases List.mem_cons.1 hv with rfl | hv
  ·simp [keepP, hz sCount x.count h]
  ·obtain rfl := List.mem_singleton.1 hv
   simp [keepP, hz sMean x.count h]
 ·rw [if_neg (fun g => h g.1), if_neg h, if_neg h] at hv
  cases hv
def newL (a : List NodeT) : List PartT := (((List.range a.length).filter fun i => decide (0 < ct a i) && (sf a i != 0))).map fun i => ⟨pathN a i, sNew, ⟨sf a i, 1⟩⟩
def goneL (a : List NodeT) : List PartT := (((List.range a.length).filter fun i => decide (0 < ct a i) && (sf a i != 0))).map fun i => ⟨pathN a i, sGone, ⟨-sf a i, 1⟩⟩
def findV (l : List NodeT) (j : Int) : Int := if 0 ≤ j then tt l j.toNat else 0
def FindOk (l : List NodeT) (y : List (List UInt8)) (j : Int) : Prop := (j < 0 ∧ ∀ k, k < l.length → pathN l k ≠ y) ∨ ∃ k : Nat, j = k ∧ k < l.length ∧ pathN l k = y
end YtmedpoeeoihfmaaGreatDoor
end Go.Proofs

set_option maxRecDepth 100000
namespace Go.Proofs
open Go.AM
namespace YtmedpoeeoihfmaaGreatDoor
variable {Gl : Globs}
theorem k_CloneF (l : List PartT) (hl : l.length ≤ 100000) : Fresh Tryz.prog Gl 37 [.d (.sl (l.map PartT.toD))] 4 (l.map PartT.toD) := by
 refine Fresh.of (args := [.sl (l.map PartT.toD)]) ?_
 rw [List.length_map]
 exact k_Clone l hl
theorem ltP_eq : (fun x y => decide (cmpP (PartT.toD x) (PartT.toD y) < 0)) = fun x y => decide (ordP x y < 0) := by
 funext x y; rfl
theorem topF_in {l : List PartT} (h : ∀ x ∈ l, x.value.In) : ∀ x ∈ topL l, x.value.In := fun x hx => h x (topL_mem.1 hx)
theorem sumL_in (l : List FracT) : (sumL l).1.In := by
 unfold sumL
 split
 ·exact ⟨by decide, by decide, by decide, by decide⟩
 ·split
  ·exact ⟨by decide, by decide, by decide, by decide⟩
  ·exact normS_in _ _ _
theorem k_ESumA (xs : List PartT) (m K : Nat) (hmk : m + K = xs.length) (hin : ∀ x ∈ xs, x.value.In) (hl : xs.length ≤ 100000) : ACalls Tryz.prog Gl 12 [.osl 0 m K] [.arr 4 (xs.map PartT.toD)]
  (fun r s => r = .tup [.d (sumL (valL (xs.drop m))).1.toD, .d (.bool (sumL (valL (xs.drop m))).2)] ∧ s = [.arr 4 (xs.map PartT.toD)]) := by
 refine acalls_of Tryz.func12 rfl rfl (by simp [Tryz.ntmps12]) (evC_sound rfl _ _ _ _ ?_)
 simp only [Tryz.ntmps12, Tryz.results12, argEnv, List.length_nil]
 simp only [zP, seval, implies_true, Nat.reduceLeDiff, Nat.reduceEqDiff, reduceCtorEq, reduceIte, intD]
 repeat ((with_reducible refine And.intro ?_ ?_); (focus (first | omega | (simp only [lenR]; omega) | (refine qq ?_; rfl) | (refine dq ?_; kernel_rfl) | (intros; simp_all; done))))
 obtain ⟨l, hld⟩ : ∃ l, l = xs.drop m := ⟨_, rfl⟩
 have hlK : l.length = K := by rw [hld, List.length_drop]; omega
 rw [← hld]
 refine for_of K (fun k => [(2, .ptr 1 0), (4, .osl 2 0 k), (7, .osl 0 m K), (8, .d (.int .i64 K)), (9, .d (.int .i64 k))]) (fun k => [.arr 4 (xs.map PartT.toD), .box 2 (.d (.agg [.int .i64 0, .int .i64 0])), .arr 2 ((l.take k).map fun x => x.value.toD)]) (fun _ => True) trivial ?_ ?_
 ·refine (weak_nils 4 2 rfl).trans ?_
  refine weak_to [] [0, 1, 2] rfl (by simp) ?_ rfl
  simp only [zP, seval, implies_true, Nat.reduceLeDiff, Nat.reduceEqDiff, reduceCtorEq, reduceIte, intD, Int.cast_ofNat_Int]
  try rfl
 ·intro k _ hk
  by_cases h : k < K
  ·obtain ⟨x, hx⟩ : ∃ x, x = l.getD k default := ⟨_, rfl⟩
   have eg : (xs.map PartT.toD).getD (m + k) default = x.toD := by
    rw [a_getD _ _ _ (show m + k < xs.length by omega), hx, hld]
    simp [List.getD_eq_getElem?_getD]
   have hst : (l.take (k + 1)).map (fun x => x.value.toD) = (l.take k).map (fun x => x.value.toD) ++ [x.value.toD] := by rw [take_step l k (by omega), List.map_append, ← hx]; rfl
   have htl : ((l.take k).map fun x => x.value.toD).length = k := by rw [List.length_map, List.length_take]; omega
   have htk : List.take k ((l.take k).map fun x => x.value.toD) = (l.take k).map fun x => x.value.toD := List.take_of_length_le (by omega)
   simp only [zP, seval, implies_true, Nat.reduceLeDiff, Nat.reduceEqDiff, reduceCtorEq, reduceIte, intD, (show (k:Int) < K by omega), h, eg, htk, (show m + k < xs.length by omega)]
   repeat ((with_reducible refine And.intro ?_ ?_); (focus (first | omega | (simp only [lenR]; omega) | (refine qq ?_; rfl) | (refine dq ?_; kernel_rfl) | (intros; simp_all; done))))
   rw [hst]
   refine weak_to [] [0, 1, 5] rfl (by simp) ?_ rfl
   simp only [zP, seval, implies_true, Nat.reduceLeDiff, Nat.reduceEqDiff, reduceCtorEq, reduceIte, intD, @a_wrap ((k:Int) + 1) (by omega)]
   try rfl
  ·have : k = K := by omega
   subst this
   have e1 : List.take k (List.map (fun x : PartT => x.value.toD) (l.take k)) = (valL l).map FracT.toD := by
    rw [List.take_of_length_le (show l.length ≤ k by omega), List.take_of_length_le (by simp; omega), valL, List.map_map]; rfl
   simp only [zP, seval, implies_true, Nat.reduceLeDiff, Nat.reduceEqDiff, reduceCtorEq, reduceIte, intD, (show ¬ (k:Int) < k by omega)]
   repeat ((with_reducible refine And.intro ?_ ?_); (focus (first | omega | (simp only [lenR]; omega) | (refine qq ?_; rfl) | (refine dq ?_; kernel_rfl) | (intros; simp_all; done))))
   refine callF_dataE (as' := [.d (.sl ((valL l).map FracT.toD))]) (σ' := [.arr 4 (xs.map PartT.toD), .box 2 (.d (.agg [.int .i64 0, .int .i64 0])), .frz 2 ((l.take k).map fun x => x.value.toD)]) (c18 (valL l) (fun a ha => by
    obtain ⟨x, hx, rfl⟩ := List.mem_map.1 ha
    rw [hld] at hx
    exact hin x (List.mem_of_mem_drop hx))) ?_ rfl ?_
   ·show [AV.d (D.sl (List.take k (List.map (fun x : PartT => x.value.toD) (l.take k))))] = _
    rw [e1]
   simp only [zP, seval, implies_true, Nat.reduceLeDiff, Nat.reduceEqDiff, reduceCtorEq, reduceIte, intD, resD]
   repeat ((with_reducible refine And.intro ?_ ?_); (focus (first | omega | (simp only [lenR]; omega) | (refine qq ?_; rfl) | (refine dq ?_; kernel_rfl) | (intros; simp_all; done))))
   exact ⟨_, _, weakR_to [] [0] rfl (by simp) (show renV _ _ _ = AV.tup _ from rfl) rfl, rfl, rfl⟩
def topD (l : List PartT) (n : Int) : AV := .tup [.d (.sl ((topF l n).1.map PartT.toD)), .d (.int .i64 (topF l n).2)]
theorem k_Top (l : List PartT) (n : Int) (hin : ∀ x ∈ l, x.value.In) (hl : l.length ≤ 10000) : Pure Tryz.prog Gl 16 [.d (.sl (l.map PartT.toD)), .d (.int .i64 n)] (topD l n) := by
 refine Pure.of2t2 ?_
 refine acalls_of Tryz.func16 rfl rfl (by simp [Tryz.ntmps16]) (evC_sound rfl _ _ _ _ ?_)
 simp only [Tryz.ntmps16, Tryz.results16, argEnv, List.length_nil]
 simp only [zP, seval, implies_true, Nat.reduceLeDiff, Nat.reduceEqDiff, reduceCtorEq, reduceIte, intD]
 repeat ((with_reducible refine And.intro ?_ ?_); (focus (first | omega | (simp only [lenR]; omega) | (refine qq ?_; rfl) | (refine dq ?_; kernel_rfl) | (intros; simp_all; done))))
 refine ifC.mk (fun h1 => ?_) (fun h1 => ?_)
 ·have h1 : n < 0 := of_decide_eq_true h1
  refine ⟨_, _, ret_tdata rfl (x := .sl ((topF l n).1.map PartT.toD)) ?_, ?_, rfl⟩
  ·rw [topF, if_pos h1]; rfl
  ·rw [topF, if_pos h1]
 have h1 : ¬ n < 0 := of_decide_eq_false h1
 repeat ((with_reducible refine And.intro ?_ ?_); (focus (first | omega | (simp only [lenR]; omega) | (refine qq ?_; rfl) | (refine dq ?_; kernel_rfl) | (intros; simp_all; done))))
 refine callF_pure (k_ESum l hin (by omega)) ?_
 simp only [zP, seval, implies_true, Nat.reduceLeDiff, Nat.reduceEqDiff, reduceCtorEq, reduceIte, intD, resD]
 repeat ((with_reducible refine And.intro ?_ ?_); (focus (first | omega | (simp only [lenR]; omega) | (refine qq ?_; rfl) | (refine dq ?_; kernel_rfl) | (intros; simp_all; done))))
 refine ifC.mk (fun h2 => ?_) (fun h2 => ?_)
 ·have h2 : (sumL (valL l)).2 = false := by simpa [valL] using h2
  refine ⟨_, _, ret_tdata rfl (x := .sl ((topF l n).1.map PartT.toD)) ?_, ?_, rfl⟩
  ·rw [topF, if_neg h1, if_pos h2]; rfl
  ·rw [topF, if_neg h1, if_pos h2]
 have h2 : ¬ (sumL (valL l)).2 = false := by simpa [valL] using h2
 repeat ((with_reducible refine And.intro ?_ ?_); (focus (first | omega | (simp only [lenR]; omega) | (refine qq ?_; rfl) | (refine dq ?_; kernel_rfl) | (intros; simp_all; done))))
 refine callF_go ((k_CloneF l (by omega) _).mono fun r s hrs => ?_)
 obtain ⟨rfl, rfl⟩ := hrs
 simp only [zP, seval, implies_true, Nat.reduceLeDiff, Nat.reduceEqDiff, reduceCtorEq, reduceIte, intD, List.length_map]
 generalize (sumL (List.map PartT.value l)).1 = W0
 have hx : ∀ y ∈ l.map PartT.toD, DmP y := fun y hy => by
  obtain ⟨x, hx, rfl⟩ := List.mem_map.1 hy
  exact ⟨x, rfl, hin x hx⟩
 have hsort := sortStable_spec (Gl := Gl) (τ := []) DmP cmpP 39 [] cmpOkP (l.map PartT.toD) hx l.length (by simp) (by omega)
 refine callF_go ((ACalls.under [1] (by decide) (by simp) hsort).mono fun r s hss => ?_)
 obtain ⟨r0, s0, ⟨rfl, zs, ρ, rfl, hA, hB, hid⟩, rfl, rfl⟩ := hss
 have e := stabled_sortF swoP hx (by simp) hA hB hid
 rw [take_all, sortF_map, ltP_eq, List.drop_of_length_le (by simp), List.append_nil] at e
 have e : (topL l).map PartT.toD = zs := e.symm
 subst e
 have hsl := topL_len l
 have hti := topF_in hin
 have htp : topF l n = if (l.length : Int) ≤ n then (topL l, 0) else if (sumL (valL ((topL l).drop n.toNat))).2 = false then ([], 1) else ((topL l).take n.toNat ++ [⟨[], sRest, (sumL (valL ((topL l).drop n.toNat))).1⟩], 0) := by
  rw [topF, if_neg h1, if_neg h2]
 obtain ⟨S, hS⟩ : ∃ S, S = topL l := ⟨_, rfl⟩
 rw [← hS] at hsl hti htp ⊢
 have hb2 : backS [1] [Blk.box 2 (AV.d W0.toD), Blk.arr 4 (List.map PartT.toD l)] [Blk.arr 4 (S.map PartT.toD)] = [Blk.box 2 (AV.d W0.toD), Blk.arr 4 (S.map PartT.toD)] := rfl
 rw [hb2]
 simp only [zP, seval, implies_true, Nat.reduceLeDiff, Nat.reduceEqDiff, reduceCtorEq, reduceIte, intD, ← hsl]
 refine ifC.mk (fun h3 => ?_) (fun h3 => ?_)
 ·have h3 : (S.length : Int) ≤ n := of_decide_eq_true h3
  rw [htp, if_pos (by omega)]
  refine ⟨_, _, ret_tdata rfl (x := .sl (S.map PartT.toD)) ?_, rfl, rfl⟩
  show D.sl (List.take S.length (S.map PartT.toD)) = _
  rw [take_all]
 have h3 : ¬ (S.length : Int) ≤ n := of_decide_eq_false h3
 rw [if_neg (by omega)] at htp
 obtain ⟨m, rfl⟩ : ∃ m : Nat, n = m := ⟨n.toNat, by omega⟩
 rw [Int.toNat_natCast] at htp
 refine ⟨⟨by omega, by omega, by omega⟩, ?_⟩
 rw [Int.toNat_natCast]
 refine callF_go ((ACalls.under [1] (by decide) (by simp) (k_ESumA (Gl := Gl) S m (S.length - m) (by omega) hti (by omega))).mono fun r s hss => ?_)
 obtain ⟨r0, s0, ⟨rfl, rfl⟩, rfl, rfl⟩ := hss
 have hb3 : backS [1] [Blk.box 2 (AV.d W0.toD), Blk.arr 4 (List.map PartT.toD S)] [Blk.arr 4 (S.map PartT.toD)] = [Blk.box 2 (AV.d W0.toD), Blk.arr 4 (S.map PartT.toD)] := rfl
 rw [hb3, back_t2]
 have hvin := sumL_in (valL (S.drop m))
 generalize sumL (valL (S.drop m)) = V at htp hvin ⊢
 simp only [zP, seval, implies_true, Nat.reduceLeDiff, Nat.reduceEqDiff, reduceCtorEq, reduceIte, intD]
 repeat ((with_reducible refine And.intro ?_ ?_); (focus (first | omega | (simp only [lenR]; omega) | (refine qq ?_; rfl) | (refine dq ?_; kernel_rfl) | (intros; simp_all; done))))
 refine ifC.mk (fun h4 => ?_) (fun h4 => ?_)
 ·have h4 : V.2 = false := by simpa using h4
  rw [htp, if_pos h4]
  exact ⟨_, _, ret_tdata rfl (x := .sl []) rfl, rfl, rfl⟩
 have h4 : ¬ V.2 = false := by simpa using h4
 rw [htp, if_neg h4]
 refine And.intro (.inl (by kernel_rfl)) ?_
 refine And.intro ⟨Int.le_refl _, by omega⟩ ?_
 refine And.intro ⟨by omega, by omega⟩ ?_
 rw [Nat.sub_zero]
 refine ⟨_, _, ret_tdata rfl (x := .sl ((S.take m ++ [(⟨[], sRest, V.1⟩ : PartT)]).map PartT.toD)) ?_, rfl, rfl⟩
 show D.sl (List.take (m + 1) (List.take m (S.map PartT.toD) ++ [D.agg [D.sl [], D.str [114, 101, 115, 116], D.int IntKind.i64 V.1.n, D.int IntKind.i64 V.1.q]])) = _
 rw [← List.map_take, List.take_of_length_le (by simp; omega), List.map_append]
 rfl

def rowAt (l : List NodeT) (k q : Nat) : AV := if q < k then .d (.sl ((pathN l q).map .str)) else .nils
def rowsC (l : List NodeT) (k : Nat) : List AV := (List.range l.length).map (rowAt l k)
theorem rowsC_len (l : List NodeT) (k : Nat) : (rowsC l k).length = l.length := by simp [rowsC]
theorem rowsC_get (l : List NodeT) (k : Nat) {q : Nat} (h : q < l.length) : (rowsC l k).getD q .undef = rowAt l k q := by simp [rowsC, h]
theorem rowsC_one (l : List NodeT) (k : Nat) : ∀ c ∈ rowsC l k, c.one = true := by
 intro c hc
 obtain ⟨q, _, rfl⟩ := List.mem_map.1 hc
 unfold rowAt; split <;> rfl
theorem rowsC_set_one (l : List NodeT) (k j : Nat) {u : AV} (hu : u.one = true) : ∀ c ∈ (rowsC l k).set j u, c.one = true := by
 intro c hc
 rcases List.mem_or_eq_of_mem_set hc with h | h
 ·exact rowsC_one l k c h
 ·rw [h]; exact hu
theorem rowsC_set2 (l : List NodeT) (k : Nat) (u v : AV) : ((rowsC l k).set k u).set k v = (rowsC l k).set k v := List.set_set ..
theorem rowsC_step (l : List NodeT) {k : Nat} (h : k < l.length) : (rowsC l k).set k (.d (.sl ((pathN l k).map .str))) = rowsC l (k + 1) := by
 apply List.ext_getElem
 ·simp [rowsC]
 ·intro q h1 h2
  have hq : q < l.length := by simpa [rowsC] using h2
  rw [List.getElem_set]
  simp only [rowsC, List.getElem_map, List.getElem_range]
  unfold rowAt
  by_cases e : k = q
  ·subst e; rw [if_pos rfl, if_pos (by omega)]
  ·rw [if_neg e]
   by_cases e2 : q < k
   ·rw [if_pos e2, if_pos (by omega)]
   ·rw [if_neg e2, if_neg (by omega)]
theorem rowsC_ren (l : List NodeT) (k : Nat) (ρ : List Nat) (σ : Sto) : (rowsC l k).map (ren0 ρ σ) = rowsC l k := by
 unfold rowsC
 rw [List.map_map]
 refine List.map_congr_left fun q _ => ?_
 show ren0 ρ σ (rowAt l k q) = rowAt l k q
 unfold rowAt; split <;> rfl
theorem rowsC_end (l : List NodeT) : rowsC l l.length = ((List.range l.length).map fun q => D.sl ((pathN l q).map .str)).map AV.d := by
 unfold rowsC
 rw [List.map_map]
 refine List.map_congr_left fun q hq => ?_
 unfold rowAt
 rw [if_pos (List.mem_range.1 hq)]; rfl
theorem rowsC_zero (l : List NodeT) : (List.replicate l.length (D.raw (.slice none 0 0))).map rslC = rowsC l 0 := by
 apply List.ext_getElem
 ·simp [rowsC]
 ·intro q h1 h2
  simp [rowsC, rowAt, rslC]
theorem rows_close (l : List NodeT) {k : Nat} (h : k < l.length) {σ : Sto} {i n : Nat} (e : ren0 [0] σ (.osl i 0 n) = .d (.sl ((pathN l k).map .str))) :
  renB [0] σ (.box l.length (cellsV ((rowsC l k).set k (.osl i 0 n)))) = .box l.length (cellsV (rowsC l (k + 1))) := by
 have hm : ((rowsC l k).set k (.osl i 0 n)).map (ren0 [0] σ) = rowsC l (k + 1) := by rw [List.map_set, rowsC_ren, e, rowsC_step l h]
 rw [renB_cells (fun c hc => by
  have h1 := List.mem_map_of_mem (f := ren0 [0] σ) hc
  rw [hm] at h1
  exact rowsC_one l (k + 1) _ h1), hm]
theorem mk_rows (m : Nat) (hm : m ≤ 100000) : mkOk Tryz.prog 47 (.d (.int .i64 (m : Int))) (.d (.int .i64 (m : Int))) := by
 refine (show _ ∧ _ ∧ _ ∧ (0 : Int) ≤ m ∧ (m : Int) ≤ m ∧ ((24 : Nat) : Int) * (m : Int) ≤ 281474976710656 ∧ (m : Int) ≤ _ from ⟨rfl, rfl, rfl, ?_, ?_, ?_, ?_⟩) <;> omega
theorem mkS_rows (σ : Sto) (m : Nat) : mkS Tryz.prog σ 47 (.d (.int .i64 (m : Int))) = σ ++ [.arr 1 (List.replicate m (.raw (.slice none 0 0)))] := rfl
theorem k_paths (l : List NodeT) (hl : l.length ≤ 100) (ht : TreeUp l l.length) : Pure Tryz.prog Gl 21 [.d (.sl (l.map NodeT.toD))] (.d (.sl ((List.range l.length).map fun q => .sl ((pathN l q).map .str)))) := by
 refine Pure.of1 ?_
 refine acalls_of Tryz.func21 rfl rfl (by simp [Tryz.ntmps21]) (evC_sound rfl _ _ _ _ ?_)
 simp only [Tryz.ntmps21, Tryz.results21, argEnv, List.length_nil]
 simp only [zN, seval, implies_true, Nat.reduceLeDiff, Nat.reduceEqDiff, reduceCtorEq, reduceIte, intD, pRules]
 refine ⟨mk_rows l.length (by omega), ?_⟩
 rw [mkS_rows, List.nil_append]
 by_cases h0 : l.length = 0
 ·have : l = [] := List.eq_nil_of_length_eq_zero h0
  subst this
  refine for_of 0 (fun k => [(0, .d (.sl [])), (3, .osl 0 0 0), (9, .d (.sl [])), (10, .d (.int .i64 0)), (11, .d (.int .i64 k))]) (fun _ => [.arr 1 []]) (fun _ => True) trivial ?_ ?_
  ·refine weak_to [] [0] rfl (by simp) ?_ rfl
   simp only [zN, seval, implies_true, Nat.reduceLeDiff, Nat.reduceEqDiff, reduceCtorEq, reduceIte, intD, pRules]
   try rfl
  ·intro k _ hk
   have : k = 0 := by omega
   subst this
   simp only [zN, seval, implies_true, Nat.reduceLeDiff, Nat.reduceEqDiff, reduceCtorEq, reduceIte, intD, pRules]
   exact ⟨_, _, ret_data rfl (x := .sl []) rfl, rfl, rfl⟩
 refine for_of l.length (fun k => [(0, .d (.sl (l.map NodeT.toD))), (3, .rsl 0 l.length), (9, .d (.sl (l.map NodeT.toD))), (10, .d (.int .i64 l.length)), (11, .d (.int .i64 k))]) (fun k => [.box l.length (cellsV (rowsC l k))]) (fun _ => True) trivial ?_ ?_
 ·refine (weak_cells 3 0 (xs := List.replicate l.length (.raw (.slice none 0 0))) (Nat.zero_le _) rfl ?_ (by simp; omega) ?_).trans ?_
  ·simp only [List.length_replicate, getE]; rfl
  ·intro x hx
   rw [(List.mem_replicate.1 hx).2]; rfl
  ·rw [rowsC_zero, List.length_replicate]
   refine weak_to [] [1] rfl (by simp) ?_ ?_
   ·simp only [zN, seval, implies_true, Nat.reduceLeDiff, Nat.reduceEqDiff, reduceCtorEq, reduceIte, intD, pRules, Int.cast_ofNat_Int]
    try rfl
   ·show [renB _ _ (Blk.box l.length (cellsV (rowsC l 0)))] = _
    rw [renB_cells (by
     intro c hc
     have e := rowsC_ren l 0 [1] (freezeL ([Blk.arr 1 (List.replicate l.length (D.raw (Value.slice none 0 0)))].set 0 Blk.dead ++ [Blk.box l.length (cellsV (rowsC l 0))]) [])
     have h1 := List.mem_map_of_mem (f := ren0 [1] (freezeL ([Blk.arr 1 (List.replicate l.length (D.raw (Value.slice none 0 0)))].set 0 Blk.dead ++ [Blk.box l.length (cellsV (rowsC l 0))]) [])) hc
     rw [e] at h1
     exact rowsC_one l 0 _ h1), rowsC_ren]
 ·intro k _ hk
  by_cases h : k < l.length
  ·have tp := tree_par ht h
   obtain ⟨x, hx⟩ : ∃ x, x = l.getD k default := ⟨_, rfl⟩
   have eg : (l.map NodeT.toD).getD k default = x.toD := by rw [a_getD _ _ _ h, ← hx]
   have en : nm l k = x.name := by rw [hx]; rfl
   have ep : par l k = x.parent := by rw [hx]; rfl
   rw [ep] at tp
   simp only [zN, seval, implies_true, Nat.reduceLeDiff, Nat.reduceEqDiff, reduceCtorEq, reduceIte, intD, pRules, (show (k:Int) < l.length by omega), h, eg]
   repeat ((with_reducible refine And.intro ?_ ?_); (focus (first | omega | (simp only [lenR]; omega) | (refine qq ?_; rfl) | (refine dq ?_; kernel_rfl) | (intros; simp_all; done))))
   refine ifC.mk (fun hc => ?_) (fun hc => ?_)
   ·have hc : 0 ≤ x.parent := of_decide_eq_true hc
    obtain ⟨p, hp⟩ : ∃ p : Nat, x.parent = p := ⟨x.parent.toNat, by omega⟩
    have hpk : p < k := by omega
    have hpl : p < l.length := by omega
    have pk := cells_ifV (rowsC_len l k) h (rowsC_one l k)
    have pp := cells_ifV (rowsC_len l k) hpl (rowsC_one l k)
    rw [rowsC_get l k h, rowAt, if_neg (Nat.lt_irrefl k)] at pk
    rw [rowsC_get l k hpl, rowAt, if_pos hpk] at pp
    have qk := eq_true (cells_ifOk (rowsC_len l k) h (rowsC_one l k))
    have qp := eq_true (cells_ifOk (rowsC_len l k) hpl (rowsC_one l k))
    have gk := cells_ifPut (u := .osl 2 0 (pathN l p).length) (rowsC_len l k) h (rowsC_one l k) rfl
    rw [r_mkAgg_d] at gk
    simp only [zN, seval, implies_true, Nat.reduceLeDiff, Nat.reduceEqDiff, reduceCtorEq, reduceIte, intD, pRules, hp, (show (k:Int) < l.length by omega), (show (p:Int) < l.length by omega), pk, pp, qk, qp, gk, (show k + 1 ≤ l.length by omega), (show p + 1 ≤ l.length by omega)]
    refine ⟨.inl (by kernel_rfl), ?_⟩
    refine ⟨⟨by have := pathN_len l p; omega, by have := pathN_len l p; omega⟩, ?_⟩
    have hpl2 := pathN_len l p
    have on2 := rowsC_set_one l k k (u := .osl 2 0 (pathN l p).length) rfl
    have len2 : ((rowsC l k).set k (.osl 2 0 (pathN l p).length)).length = l.length := by rw [List.length_set, rowsC_len]
    have pk2 := cells_ifV len2 h on2
    have get2 : ((rowsC l k).set k (.osl 2 0 (pathN l p).length)).getD k .undef = .osl 2 0 (pathN l p).length := by
     have : k < (rowsC l k).length := by rw [rowsC_len]; exact h
     simp [this]
    rw [get2] at pk2
    have qk2 := eq_true (cells_ifOk len2 h on2)
    have gk2 := cells_ifPut (u := .osl 4 0 ((pathN l p).length + 1)) len2 h on2 rfl
    rw [r_mkAgg_d, rowsC_set2] at gk2
    simp only [zN, seval, implies_true, Nat.reduceLeDiff, Nat.reduceEqDiff, reduceCtorEq, reduceIte, intD, pRules, (show (k:Int) < l.length by omega), (show k + 1 ≤ l.length by omega), pk2, qk2, gk2]
    refine ⟨.inl (by kernel_rfl), ?_⟩
    refine ⟨⟨by omega, by omega⟩, ?_⟩
    have e1 : pathN l k = pathN l p ++ [x.name] := by rw [pathN_kid ht h, ep, hp, pathI_nat, en]
    refine weak_to [4] [0] rfl (by simp) ?_ ?_
    ·simp only [zN, seval, implies_true, Nat.reduceLeDiff, Nat.reduceEqDiff, reduceCtorEq, reduceIte, intD, pRules, @a_wrap ((k:Int) + 1) (by omega)]
     try rfl
    ·show [renB [0] _ (Blk.box l.length (cellsV ((rowsC l k).set k (.osl 4 0 ((pathN l p).length + 1)))))] = _
     rw [rows_close l h]
     show AV.d (D.sl (((List.take (pathN l p).length (List.map D.str (pathN l p)) ++ [D.str x.name]).drop 0).take ((pathN l p).length + 1))) = _
     rw [List.drop_zero, take_all, e1, List.take_of_length_le (by simp), List.map_append]
     rfl
   ·have hc : ¬ 0 ≤ x.parent := of_decide_eq_false hc
    have pk := cells_ifV (rowsC_len l k) h (rowsC_one l k)
    rw [rowsC_get l k h, rowAt, if_neg (Nat.lt_irrefl k)] at pk
    have qk := eq_true (cells_ifOk (rowsC_len l k) h (rowsC_one l k))
    have gk := cells_ifPut (u := .osl 3 0 1) (rowsC_len l k) h (rowsC_one l k) rfl
    rw [r_mkAgg_d] at gk
    simp only [zN, seval, implies_true, Nat.reduceLeDiff, Nat.reduceEqDiff, reduceCtorEq, reduceIte, intD, pRules, (show (k:Int) < l.length by omega), pk, qk, gk, (show k + 1 ≤ l.length by omega)]
    refine ⟨.inl (by kernel_rfl), ?_⟩
    have e1 : pathN l k = [x.name] := by rw [pathN_kid ht h, ep, pathI_neg l (by omega), en]; rfl
    refine weak_to [3] [0] rfl (by simp) ?_ ?_
    ·simp only [zN, seval, implies_true, Nat.reduceLeDiff, Nat.reduceEqDiff, reduceCtorEq, reduceIte, intD, pRules, @a_wrap ((k:Int) + 1) (by omega)]
     try rfl
    ·show [renB [0] _ (Blk.box l.length (cellsV ((rowsC l k).set k (.osl 3 0 1))))] = _
     rw [rows_close l h]
     show AV.d (D.sl [D.str x.name]) = _
     rw [e1]
     rfl
  ·have : k = l.length := by omega
   subst this
   simp only [zN, seval, implies_true, Nat.reduceLeDiff, Nat.reduceEqDiff, reduceCtorEq, reduceIte, intD, pRules, (show ¬ (l.length:Int) < l.length by omega)]
   rw [rowsC_end]
   obtain ⟨ds, hds⟩ : ∃ ds, ds = (List.range l.length).map fun q => D.sl ((pathN l q).map .str) := ⟨_, rfl⟩
   have hdl : ds.length = l.length := by rw [hds]; simp
   have hone : ∀ x ∈ ds, x.isAgg = false := fun x hx => by
    rw [hds] at hx
    obtain ⟨q, _, rfl⟩ := List.mem_map.1 hx
    rfl
   have hfl : ∀ x ∈ ds, x.flat := fun x hx => by
    rw [hds] at hx
    obtain ⟨q, _, rfl⟩ := List.mem_map.1 hx
    intro c hc
    obtain rfl := List.mem_singleton.1 hc
    rfl
   rw [← hds, ← hdl]
   refine ⟨_, _, (weakR_arrOf 0 (ds := ds) (Nat.zero_le _) (by omega) rfl hone hfl).trans (ret_data rfl (x := .sl ds) ?_), rfl, rfl⟩
   show D.sl (List.take ds.length (ds.drop 0)) = _
   rw [List.drop_zero, List.take_length]

theorem paths_get (l : List NodeT) {k : Nat} (h : k < l.length) : ((List.range l.length).map fun q => D.sl ((pathN l q).map .str)).getD k default = .sl ((pathN l k).map .str) := by
 simp [h]
def eOfD (a b : List NodeT) : AV := .tup [.d (.sl ((eOfF a b).1.map PartT.toD)), .d (.int .i64 (eOfF a b).2)]
theorem k_nodeA (l : List NodeT) (hl : l.length ≤ 100000) (i : Int) (hi : i < l.length) : Pure Tryz.prog Gl 23 [.d (.sl (l.map NodeT.toD)), .d (.int .i64 i)] (.d (ndAt l i).toD) := k_node0 l hl i hi
theorem eOf_err {a b : List NodeT} (h : (ofF a b).2 ≠ 0) : eOfF a b = ([], (ofF a b).2) := by
 unfold ofF at h ⊢
 unfold eOfF
 by_cases h1 : checkF a = 0
 ·rw [if_pos h1] at h ⊢
  by_cases h2 : checkF b = 0
  ·rw [if_pos h2] at h; exact absurd rfl h
  ·rw [if_neg h2, if_pos h1, if_neg h2]
 ·rw [if_neg h1, if_neg h1]
theorem cont_step (a b : List NodeT) (l : List PairT) {k : Nat} (h : k < l.length) : contL a b (l.take (k + 1)) = contL a b (l.take k) ++ contP a b (l.getD k default) := by
 rw [contL, take_step l k h, List.flatMap_append, List.flatMap_singleton]; rfl
theorem k_EOf (a b : List NodeT) (ha : a.length ≤ 60) (hb : b.length ≤ 60) : Pure Tryz.prog Gl 7 [.d (.sl (a.map NodeT.toD)), .d (.sl (b.map NodeT.toD))] (eOfD a b) := by
 refine Pure.of2t2 ?_
 refine acalls_of Tryz.func7 rfl rfl (by simp [Tryz.ntmps7]) (evC_sound rfl _ _ _ _ ?_)
 simp only [Tryz.ntmps7, Tryz.results7, argEnv, List.length_nil]
 simp only [zP, seval, implies_true, Nat.reduceLeDiff, Nat.reduceEqDiff, reduceCtorEq, reduceIte, intD]
 refine callF_pure (k_MOf a b (by omega) (by omega)) ?_
 simp only [zP, seval, implies_true, Nat.reduceLeDiff, Nat.reduceEqDiff, reduceCtorEq, reduceIte, intD, ofD]
 repeat ((with_reducible refine And.intro ?_ ?_); (focus (first | omega | (simp only [lenR]; omega) | (refine qq ?_; rfl) | (refine dq ?_; kernel_rfl) | (intros; simp_all; done))))
 refine ifC.mk (fun h1 => ?_) (fun h1 => ?_)
 ·have h1 : (ofF a b).2 ≠ 0 := by simpa using h1
  refine ⟨_, _, ret_tdata rfl (x := .sl ((eOfF a b).1.map PartT.toD)) ?_, ?_, rfl⟩
  ·rw [eOf_err h1]; rfl
  ·rw [eOf_err h1]
 have h1 : (ofF a b).2 = 0 := by simpa using h1
 obtain ⟨hca, hcb, h3⟩ := of_ok h1
 have hA := Tr.of hca
 have hB := Tr.of hcb
 obtain ⟨hm, _⟩ := fin_spec hA hB
 have hin := pairs_in hm
 have hpl := pairs_le (a := a) (b := b)
 rw [h3]
 have he : eOfF a b = ((contL a b (pairsOf a b)).filter keepP, 0) := by rw [eOfF, if_pos hca, if_pos hcb]
 rw [he]
 obtain ⟨l, hl⟩ : ∃ l, l = pairsOf a b := ⟨_, rfl⟩
 rw [← hl] at hin hpl ⊢
 repeat ((with_reducible refine And.intro ?_ ?_); (focus (first | omega | (simp only [lenR]; omega) | (refine qq ?_; rfl) | (refine dq ?_; kernel_rfl) | (intros; simp_all; done))))
 refine callF_pure (k_paths a (by omega) hA.up) ?_
 simp only [zP, seval, implies_true, Nat.reduceLeDiff, Nat.reduceEqDiff, reduceCtorEq, reduceIte, intD]
 refine callF_pure (k_paths b (by omega) hB.up) ?_
 simp only [zP, seval, implies_true, Nat.reduceLeDiff, Nat.reduceEqDiff, reduceCtorEq, reduceIte, intD]
 repeat ((with_reducible refine And.intro ?_ ?_); (focus (first | omega | (simp only [lenR]; omega) | (refine qq ?_; rfl) | (refine dq ?_; kernel_rfl) | (intros; simp_all; done))))
 refine for_of l.length (fun k => [(0, .d (.sl (a.map NodeT.toD))), (1, .d (.sl (b.map NodeT.toD))), (8, .d (.sl ((List.range a.length).map fun q => .sl ((pathN a q).map .str)))), (9, .d (.sl ((List.range b.length).map fun q => .sl ((pathN b q).map .str)))), (10, .osl 0 0 (contL a b (l.take k)).length), (27, .d (.sl (l.map PairT.toD))), (28, .d (.int .i64 l.length)), (29, .d (.int .i64 k))]) (fun k => [.arr 4 ((contL a b (l.take k)).map PartT.toD)]) (fun _ => True) trivial ?_ ?_
 ·refine (weak_nils 10 4 rfl).trans ?_
  refine weak_to [] [0] rfl (by simp) ?_ rfl
  simp only [zP, seval, implies_true, Nat.reduceLeDiff, Nat.reduceEqDiff, reduceCtorEq, reduceIte, intD, Int.cast_ofNat_Int]
  try rfl
 ·intro k _ hk
  by_cases h : k < l.length
  ·obtain ⟨x, hx⟩ : ∃ x, x = l.getD k default := ⟨_, rfl⟩
   have eg : (l.map PairT.toD).getD k default = x.toD := by rw [a_getD _ _ _ h, ← hx]
   have hxm : x ∈ l := by rw [hx]; exact mem_getD h
   obtain ⟨i1, i2, i3, i4, i5⟩ := hin x hxm
   have hst := cont_step a b l h
   rw [← hx] at hst
   have hcl := cont_len a b (l.take k)
   rw [List.length_take] at hcl
   have kA := k_nodeA (Gl := Gl) a (by omega) x.a i2
   have kB := k_nodeA (Gl := Gl) b (by omega) x.b i4
   have okA := (ndV_at hca x.a i2).ok
   have okB := (ndV_at hcb x.b i4).ok
   obtain ⟨NA, hNA⟩ : ∃ n, n = ndAt a x.a := ⟨_, rfl⟩
   obtain ⟨NB, hNB⟩ : ∃ n, n = ndAt b x.b := ⟨_, rfl⟩
   rw [← hNA] at kA okA
   rw [← hNB] at kB okB
   simp only [zP, seval, implies_true, Nat.reduceLeDiff, Nat.reduceEqDiff, reduceCtorEq, reduceIte, intD, (show (k:Int) < l.length by omega), h, eg]
   repeat ((with_reducible refine And.intro ?_ ?_); (focus (first | omega | (simp only [lenR]; omega) | (refine qq ?_; rfl) | (refine dq ?_; kernel_rfl) | (intros; simp_all; done))))
   refine ifC.mk (fun hc => ?_) (fun hc => ?_)
   ·have hc : 0 ≤ x.b := of_decide_eq_true hc
    obtain ⟨q, hq⟩ : ∃ q : Nat, x.b = q := ⟨x.b.toNat, by omega⟩
    have hql : q < b.length := by omega
    have hq2 : (q : Int) < b.length := by omega
    have hpg := paths_get b hql
    have hpth : pthP a b x = pathN b q := by rw [pthP, if_pos hc, hq, Int.toNat_natCast]
    simp only [hq] at hc ⊢
    simp only [zP, seval, implies_true, Nat.reduceLeDiff, Nat.reduceEqDiff, reduceCtorEq, reduceIte, intD, hql, hq2, List.length_range, hpg]
    repeat ((with_reducible refine And.intro ?_ ?_); (focus (first | omega | (simp only [lenR]; omega) | (refine qq ?_; rfl) | (refine dq ?_; kernel_rfl) | (intros; simp_all; done))))
    refine callF_pure kA ?_
    simp only [zP, seval, implies_true, Nat.reduceLeDiff, Nat.reduceEqDiff, reduceCtorEq, reduceIte, intD]
    repeat ((with_reducible refine And.intro ?_ ?_); (focus (first | omega | (simp only [lenR]; omega) | (refine qq ?_; rfl) | (refine dq ?_; kernel_rfl) | (intros; simp_all; done))))
    refine callF_pure kB ?_
    simp only [zP, seval, implies_true, Nat.reduceLeDiff, Nat.reduceEqDiff, reduceCtorEq, reduceIte, intD]
    repeat ((with_reducible refine And.intro ?_ ?_); (focus (first | omega | (simp only [lenR]; omega) | (refine qq ?_; rfl) | (refine dq ?_; kernel_rfl) | (intros; simp_all; done))))
    rw [← hpth]
    refine callF_pure (k_parts NA NB (pthP a b x) okA okB) ?_
    simp only [zP, seval, implies_true, Nat.reduceLeDiff, Nat.reduceEqDiff, reduceCtorEq, reduceIte, intD]
    repeat ((with_reducible refine And.intro ?_ ?_); (focus (first | omega | (simp only [lenR]; omega) | (refine qq ?_; rfl) | (refine dq ?_; kernel_rfl) | (intros; simp_all; done))))
    have hpl2 := parts_len NA NB (pthP a b x)
    refine ⟨⟨by omega, by omega⟩, ?_⟩
    have hst2 : contL a b (l.take (k + 1)) = contL a b (l.take k) ++ partsF NA NB (pthP a b x) := by rw [hst, contP, ← hNA, ← hNB]
    rw [hst2, List.length_append, List.map_append]
    refine weak_to [] [2] rfl (by simp) ?_ ?_
    ·simp only [zP, seval, implies_true, Nat.reduceLeDiff, Nat.reduceEqDiff, reduceCtorEq, reduceIte, intD, @a_wrap ((k:Int) + 1) (by omega)]
     try rfl
    ·show [Blk.arr 4 (List.take (contL a b (List.take k l)).length (List.map PartT.toD (contL a b (List.take k l))) ++ List.map PartT.toD (partsF NA NB (pthP a b x)))] = _
     rw [take_all]
   ·have hc : ¬ 0 ≤ x.b := of_decide_eq_false hc
    obtain ⟨q, hq⟩ : ∃ q : Nat, x.a = q := ⟨x.a.toNat, by omega⟩
    have hql : q < a.length := by omega
    have hq2 : (q : Int) < a.length := by omega
    have hpg := paths_get a hql
    have hpth : pthP a b x = pathN a q := by rw [pthP, if_neg hc, hq, Int.toNat_natCast]
    rw [hq] at kA
    simp only [hq] at hc ⊢
    simp only [zP, seval, implies_true, Nat.reduceLeDiff, Nat.reduceEqDiff, reduceCtorEq, reduceIte, intD, hql, hq2, List.length_range, hpg]
    repeat ((with_reducible refine And.intro ?_ ?_); (focus (first | omega | (simp only [lenR]; omega) | (refine qq ?_; rfl) | (refine dq ?_; kernel_rfl) | (intros; simp_all; done))))
    refine callF_pure kA ?_
    simp only [zP, seval, implies_true, Nat.reduceLeDiff, Nat.reduceEqDiff, reduceCtorEq, reduceIte, intD]
    repeat ((with_reducible refine And.intro ?_ ?_); (focus (first | omega | (simp only [lenR]; omega) | (refine qq ?_; rfl) | (refine dq ?_; kernel_rfl) | (intros; simp_all; done))))
    refine callF_pure kB ?_
    simp only [zP, seval, implies_true, Nat.reduceLeDiff, Nat.reduceEqDiff, reduceCtorEq, reduceIte, intD]
    repeat ((with_reducible refine And.intro ?_ ?_); (focus (first | omega | (simp only [lenR]; omega) | (refine qq ?_; rfl) | (refine dq ?_; kernel_rfl) | (intros; simp_all; done))))
    rw [← hpth]
    refine callF_pure (k_parts NA NB (pthP a b x) okA okB) ?_
    simp only [zP, seval, implies_true, Nat.reduceLeDiff, Nat.reduceEqDiff, reduceCtorEq, reduceIte, intD]
    repeat ((with_reducible refine And.intro ?_ ?_); (focus (first | omega | (simp only [lenR]; omega) | (refine qq ?_; rfl) | (refine dq ?_; kernel_rfl) | (intros; simp_all; done))))
    have hpl2 := parts_len NA NB (pthP a b x)
    refine ⟨⟨by omega, by omega⟩, ?_⟩
    have hst2 : contL a b (l.take (k + 1)) = contL a b (l.take k) ++ partsF NA NB (pthP a b x) := by rw [hst, contP, ← hNA, ← hNB]
    rw [hst2, List.length_append, List.map_append]
    refine weak_to [] [2] rfl (by simp) ?_ ?_
    ·simp only [zP, seval, implies_true, Nat.reduceLeDiff, Nat.reduceEqDiff, reduceCtorEq, reduceIte, intD, @a_wrap ((k:Int) + 1) (by omega)]
     try rfl
    ·show [Blk.arr 4 (List.take (contL a b (List.take k l)).length (List.map PartT.toD (contL a b (List.take k l))) ++ List.map PartT.toD (partsF NA NB (pthP a b x)))] = _
     rw [take_all]
  ·have : k = l.length := by omega
   subst this
   simp only [zP, seval, implies_true, Nat.reduceLeDiff, Nat.reduceEqDiff, reduceCtorEq, reduceIte, intD, (show ¬ (l.length:Int) < l.length by omega)]
   rw [List.take_length]
   have hcl := cont_len a b l
   refine callF_go ((k_Delete (contL a b l) (by omega)).mono fun r s hrs => ?_)
   obtain ⟨rfl, ys, rfl⟩ := hrs
   simp only [zP, seval, implies_true, Nat.reduceLeDiff, Nat.reduceEqDiff, reduceCtorEq, reduceIte, intD]
   exact ⟨_, _, ret_t2, rfl, rfl⟩


def sF : List UInt8 := [102]
def lfN (count self : Int) : NodeT := ⟨-1, sF, self, self, count⟩
theorem k_leaf (count self : Int) : Pure Tryz.prog Gl 18 [.d (.int .i64 count), .d (.int .i64 self)] (.d (.sl ([lfN count self].map NodeT.toD))) := by
 refine Pure.of2 ?_
 refine acalls_of Tryz.func18 rfl rfl (by simp [Tryz.ntmps18]) (evC_sound rfl _ _ _ _ ?_)
 simp only [Tryz.ntmps18, Tryz.results18, argEnv, List.length_nil]
 simp only [zP, seval, implies_true, Nat.reduceLeDiff, Nat.reduceEqDiff, reduceCtorEq, reduceIte, intD]
 repeat ((with_reducible refine And.intro ?_ ?_); (focus (first | omega | (simp only [lenR]; omega) | (refine qq ?_; rfl) | (refine dq ?_; kernel_rfl) | (intros; simp_all; done))))
 refine ⟨_, _, ret_data rfl (x := .sl ([lfN count self].map NodeT.toD)) rfl, rfl, rfl⟩
def ptN (cause : List UInt8) (n d : Int) : PartT := ⟨[sF], cause, ⟨n, d⟩⟩
theorem k_part (cause : List UInt8) (n d : Int) : Pure Tryz.prog Gl 19 [.d (.str cause), .d (.int .i64 n), .d (.int .i64 d)] (.d (ptN cause n d).toD) := by
 refine Pure.of3 ?_
 refine acalls_of Tryz.func19 rfl rfl (by simp [Tryz.ntmps19]) (evC_sound rfl _ _ _ _ ?_)
 simp only [Tryz.ntmps19, Tryz.results19, argEnv, List.length_nil]
 simp only [zP, seval, implies_true, Nat.reduceLeDiff, Nat.reduceEqDiff, reduceCtorEq, reduceIte, intD]
 repeat ((with_reducible refine And.intro ?_ ?_); (focus (first | omega | (simp only [lenR]; omega) | (refine qq ?_; rfl) | (refine dq ?_; kernel_rfl) | (intros; simp_all; done))))
 refine ⟨_, _, ret_data rfl (x := (ptN cause n d).toD) rfl, rfl, rfl⟩
theorem beg_self (p : List (List UInt8)) : begF p p = true := by
 unfold begF
 simp
theorem k_ESame (x : List PartT) (hx : ∀ v ∈ x, v.path.length < 1000000) (hl : x.length < 1000000) : Pure Tryz.prog Gl 11 [.d (.sl (x.map PartT.toD)), .d (.sl (x.map PartT.toD))] (.d (.bool true)) := by
 refine Pure.of2 ?_
 refine acalls_of Tryz.func11 rfl rfl (by simp [Tryz.ntmps11]) (evC_sound rfl _ _ _ _ ?_)
 simp only [Tryz.ntmps11, Tryz.results11, argEnv, List.length_nil]
 simp only [zP, seval, implies_true, Nat.reduceLeDiff, Nat.reduceEqDiff, reduceCtorEq, reduceIte, intD]
 simp only [zP, seval, implies_true, Nat.reduceLeDiff, Nat.reduceEqDiff, reduceCtorEq, reduceIte, intD, bne_self_eq_false]
 repeat ((with_reducible refine And.intro ?_ ?_); (focus (first | omega | (simp only [lenR]; omega) | (refine qq ?_; rfl) | (refine dq ?_; kernel_rfl) | (intros; simp_all; done))))
 refine for_of x.length (fun j => [(0, .d (.sl (x.map PartT.toD))), (1, .d (.sl (x.map PartT.toD))), (5, .d (.int .i64 j))]) (fun _ => []) (fun _ => True) trivial ?_ ?_
 ·refine weak_to [] [] rfl List.nodup_nil ?_ rfl
  simp only [zP, seval, implies_true, Nat.reduceLeDiff, Nat.reduceEqDiff, reduceCtorEq, reduceIte, intD, Int.cast_ofNat_Int]
  try rfl
 ·intro j _ hjl
  by_cases h : j < x.length
  ·obtain ⟨u, hu⟩ : ∃ u, u = x.getD j default := ⟨_, rfl⟩
   have g1 : (x.map PartT.toD).getD j default = u.toD := by rw [a_getD _ _ _ h, ← hu]
   have hul := hx u (by rw [hu]; exact mem_getD h)
   simp only [zP, seval, implies_true, Nat.reduceLeDiff, Nat.reduceEqDiff, reduceCtorEq, reduceIte, intD, (show (j:Int) < x.length by omega), h, g1, bne_self_eq_false, beq_self_eq_true]
   repeat ((with_reducible refine And.intro ?_ ?_); (focus (first | omega | (simp only [lenR]; omega) | (refine qq ?_; rfl) | (refine dq ?_; kernel_rfl) | (intros; simp_all; done))))
   refine callG_pure (fun _ => k_Begins u.path u.path hul hul) ?_
   rw [beg_self]
   simp only [zP, seval, implies_true, Nat.reduceLeDiff, Nat.reduceEqDiff, reduceCtorEq, reduceIte, intD]
   repeat ((with_reducible refine And.intro ?_ ?_); (focus (first | omega | (simp only [lenR]; omega) | (refine qq ?_; rfl) | (refine dq ?_; kernel_rfl) | (intros; simp_all; done))))
   refine weak_to [] [] rfl List.nodup_nil ?_ rfl
   simp only [zP, seval, implies_true, Nat.reduceLeDiff, Nat.reduceEqDiff, reduceCtorEq, reduceIte, intD, @a_wrap ((j:Int) + 1) (by omega)]
   try rfl
  ·have : j = x.length := by omega
   subst this
   simp only [zP, seval, implies_true, Nat.reduceLeDiff, Nat.reduceEqDiff, reduceCtorEq, reduceIte, intD, (show ¬ (x.length:Int) < x.length by omega)]
   exact ⟨_, _, ret_d, rfl, rfl⟩
theorem k_ESameB (x : List PartT) (n : Nat) (hn : x.length = n) (hx : ∀ v ∈ x, v.path.length < 1000000) (hl : x.length < 1000000) (B : Blk) (hB : ArrOrFrz 4 (x.map PartT.toD) B) : ACalls Tryz.prog Gl 11 [.d (.sl (x.map PartT.toD)), .osl 0 0 n] [B] (fun r s => r = .d (.bool true) ∧ s = [B]) := by
 subst hn
 have hn : x.length = x.length := rfl
 rcases hB with rfl | rfl
 ·refine acalls_of Tryz.func11 rfl rfl (by simp [Tryz.ntmps11]) (evC_sound rfl _ _ _ _ ?_)
  simp only [Tryz.ntmps11, Tryz.results11, argEnv, List.length_nil]
  simp only [zP, seval, implies_true, Nat.reduceLeDiff, Nat.reduceEqDiff, reduceCtorEq, reduceIte, intD]
  simp only [zP, seval, implies_true, Nat.reduceLeDiff, Nat.reduceEqDiff, reduceCtorEq, reduceIte, intD, hn, bne_self_eq_false]
  repeat ((with_reducible refine And.intro ?_ ?_); (focus (first | omega | (simp only [lenR]; omega) | (refine qq ?_; rfl) | (refine dq ?_; kernel_rfl) | (intros; simp_all; done))))
  refine for_of x.length (fun j => [(0, .d (.sl (x.map PartT.toD))), (1, .osl 0 0 x.length), (5, .d (.int .i64 j))]) (fun _ => [.arr 4 (x.map PartT.toD)]) (fun _ => True) trivial ?_ ?_
  ·refine weak_to [] [0] rfl (by simp) ?_ rfl
   simp only [zP, seval, implies_true, Nat.reduceLeDiff, Nat.reduceEqDiff, reduceCtorEq, reduceIte, intD, Int.cast_ofNat_Int]
   all_goals rfl
  ·intro j _ hjl
   by_cases h : j < x.length
   ·obtain ⟨u, hu⟩ : ∃ u, u = x.getD j default := ⟨_, rfl⟩
    have g1 : (x.map PartT.toD).getD j default = u.toD := by rw [a_getD _ _ _ h, ← hu]
    have hul := hx u (by rw [hu]; exact mem_getD h)
    simp only [zP, seval, implies_true, Nat.reduceLeDiff, Nat.reduceEqDiff, reduceCtorEq, reduceIte, intD, (show (j:Int) < x.length by omega), h, g1, bne_self_eq_false, beq_self_eq_true]
    repeat ((with_reducible refine And.intro ?_ ?_); (focus (first | omega | (simp only [lenR]; omega) | (refine qq ?_; rfl) | (refine dq ?_; kernel_rfl) | (intros; simp_all; done))))
    refine callG_pure (fun _ => k_Begins u.path u.path hul hul) ?_
    rw [beg_self]
    simp only [zP, seval, implies_true, Nat.reduceLeDiff, Nat.reduceEqDiff, reduceCtorEq, reduceIte, intD]
    repeat ((with_reducible refine And.intro ?_ ?_); (focus (first | omega | (simp only [lenR]; omega) | (refine qq ?_; rfl) | (refine dq ?_; kernel_rfl) | (intros; simp_all; done))))
    refine weak_to [] [0] rfl (by simp) ?_ rfl
    simp only [zP, seval, implies_true, Nat.reduceLeDiff, Nat.reduceEqDiff, reduceCtorEq, reduceIte, intD, @a_wrap ((j:Int) + 1) (by omega)]
    all_goals rfl
   ·have : j = x.length := by omega
    subst this
    simp only [zP, seval, implies_true, Nat.reduceLeDiff, Nat.reduceEqDiff, reduceCtorEq, reduceIte, intD, (show ¬ (x.length:Int) < x.length by omega)]
    refine ⟨_, _, weakR_to [] [0] rfl (by simp) (show renV _ _ _ = AV.d _ from rfl) rfl, ?_, rfl⟩
    rfl
 ·refine acalls_of Tryz.func11 rfl rfl (by simp [Tryz.ntmps11]) (evC_sound rfl _ _ _ _ ?_)
  simp only [Tryz.ntmps11, Tryz.results11, argEnv, List.length_nil]
  simp only [zP, seval, implies_true, Nat.reduceLeDiff, Nat.reduceEqDiff, reduceCtorEq, reduceIte, intD]
  simp only [zP, seval, implies_true, Nat.reduceLeDiff, Nat.reduceEqDiff, reduceCtorEq, reduceIte, intD, hn, bne_self_eq_false]
  repeat ((with_reducible refine And.intro ?_ ?_); (focus (first | omega | (simp only [lenR]; omega) | (refine qq ?_; rfl) | (refine dq ?_; kernel_rfl) | (intros; simp_all; done))))
  refine for_of x.length (fun j => [(0, .d (.sl (x.map PartT.toD))), (1, .osl 0 0 x.length), (5, .d (.int .i64 j))]) (fun _ => [.frz 4 (x.map PartT.toD)]) (fun _ => True) trivial ?_ ?_
  ·refine weak_to [] [0] rfl (by simp) ?_ rfl
   simp only [zP, seval, implies_true, Nat.reduceLeDiff, Nat.reduceEqDiff, reduceCtorEq, reduceIte, intD, Int.cast_ofNat_Int]
   all_goals rfl
  ·intro j _ hjl
   by_cases h : j < x.length
   ·obtain ⟨u, hu⟩ : ∃ u, u = x.getD j default := ⟨_, rfl⟩
    have g1 : (x.map PartT.toD).getD j default = u.toD := by rw [a_getD _ _ _ h, ← hu]
    have hul := hx u (by rw [hu]; exact mem_getD h)
    simp only [zP, seval, implies_true, Nat.reduceLeDiff, Nat.reduceEqDiff, reduceCtorEq, reduceIte, intD, (show (j:Int) < x.length by omega), h, g1, bne_self_eq_false, beq_self_eq_true]
    repeat ((with_reducible refine And.intro ?_ ?_); (focus (first | omega | (simp only [lenR]; omega) | (refine qq ?_; rfl) | (refine dq ?_; kernel_rfl) | (intros; simp_all; done))))
    refine callG_pure (fun _ => k_Begins u.path u.path hul hul) ?_
    rw [beg_self]
    simp only [zP, seval, implies_true, Nat.reduceLeDiff, Nat.reduceEqDiff, reduceCtorEq, reduceIte, intD]
    repeat ((with_reducible refine And.intro ?_ ?_); (focus (first | omega | (simp only [lenR]; omega) | (refine qq ?_; rfl) | (refine dq ?_; kernel_rfl) | (intros; simp_all; done))))
    refine weak_to [] [0] rfl (by simp) ?_ rfl
    simp only [zP, seval, implies_true, Nat.reduceLeDiff, Nat.reduceEqDiff, reduceCtorEq, reduceIte, intD, @a_wrap ((j:Int) + 1) (by omega)]
    all_goals rfl
   ·have : j = x.length := by omega
    subst this
    simp only [zP, seval, implies_true, Nat.reduceLeDiff, Nat.reduceEqDiff, reduceCtorEq, reduceIte, intD, (show ¬ (x.length:Int) < x.length by omega)]
    refine ⟨_, _, weakR_to [] [0] rfl (by simp) (show renV _ _ _ = AV.d _ from rfl) rfl, ?_, rfl⟩
    rfl

theorem k_Rsize (f : FracT) : Pure Tryz.prog Gl 43 [.d f.toD] (.d (absF f).toD) := by
 refine Pure.of1 ?_
 refine acalls_of Tryz.func43 rfl rfl (by simp [Tryz.ntmps43]) (evC_sound rfl _ _ _ _ ?_)
 simp only [Tryz.ntmps43, Tryz.results43, argEnv, List.length_nil]
 simp only [zP, seval, implies_true, Nat.reduceLeDiff, Nat.reduceEqDiff, reduceCtorEq, reduceIte, intD]
 repeat ((with_reducible refine And.intro ?_ ?_); (focus (first | omega | (simp only [lenR]; omega) | (refine qq ?_; rfl) | (refine dq ?_; kernel_rfl) | (intros; simp_all; done))))
 refine ifC.mk (fun h1 => ?_) (fun h1 => ?_)
 ·have h1 : f.n < 0 := of_decide_eq_true h1
  refine ⟨_, _, ret_d, ?_, rfl⟩
  rw [absF, if_pos h1]
  rfl
 ·have h1 : ¬ f.n < 0 := of_decide_eq_false h1
  refine ⟨_, _, ret_d, ?_, rfl⟩
  rw [absF, if_neg h1]
theorem k_RESum (l : List PartT) (hin : ∀ x ∈ l, x.value.In) (hl : l.length ≤ 100000) : Pure Tryz.prog Gl 13 [.d (.sl (l.map PartT.toD))] (resD (sumL (valL l))) := by
 refine Pure.of1t2 ?_
 refine acalls_of Tryz.func13 rfl rfl (by simp [Tryz.ntmps13]) (evC_sound rfl _ _ _ _ ?_)
 simp only [Tryz.ntmps13, Tryz.results13, argEnv, List.length_nil]
 simp only [zP, seval, implies_true, Nat.reduceLeDiff, Nat.reduceEqDiff, reduceCtorEq, reduceIte, intD]
 repeat ((with_reducible refine And.intro ?_ ?_); (focus (first | omega | (simp only [lenR]; omega) | (refine qq ?_; rfl) | (refine dq ?_; kernel_rfl) | (intros; simp_all; done))))
 refine for_of l.length (fun k => [(0, .d (.sl (l.map PartT.toD))), (2, .ptr 0 0), (4, .osl 1 0 k), (5, .d (.int .i64 k))]) (fun k => [.box 2 (.d (.agg [.int .i64 0, .int .i64 0])), .arr 2 ((l.take k).map fun x => x.value.toD)]) (fun _ => True) trivial ?_ ?_
 ·refine (weak_nils 4 2 rfl).trans ?_
  refine weak_to [] [0, 1] rfl (by simp) ?_ rfl
  simp only [zP, seval, implies_true, Nat.reduceLeDiff, Nat.reduceEqDiff, reduceCtorEq, reduceIte, intD, Int.cast_ofNat_Int]
  try rfl
 ·intro k _ hk
  by_cases h : k < l.length
  ·obtain ⟨x, hx⟩ : ∃ x, x = l.getD k default := ⟨_, rfl⟩
   have eg : (l.map PartT.toD).getD k default = x.toD := by rw [a_getD _ _ _ h, ← hx]
   have hst : (l.take (k + 1)).map (fun x => x.value.toD) = (l.take k).map (fun x => x.value.toD) ++ [x.value.toD] := by rw [take_step l k h, List.map_append, ← hx]; rfl
   have htl : ((l.take k).map fun x => x.value.toD).length = k := by rw [List.length_map, List.length_take]; omega
   have htk : List.take k ((l.take k).map fun x => x.value.toD) = (l.take k).map fun x => x.value.toD := List.take_of_length_le (by omega)
   simp only [zP, seval, implies_true, Nat.reduceLeDiff, Nat.reduceEqDiff, reduceCtorEq, reduceIte, intD, (show (k:Int) < l.length by omega), h, eg, htk]
   repeat ((with_reducible refine And.intro ?_ ?_); (focus (first | omega | (simp only [lenR]; omega) | (refine qq ?_; rfl) | (refine dq ?_; kernel_rfl) | (intros; simp_all; done))))
   rw [hst]
   refine weak_to [] [0, 3] rfl (by simp) ?_ rfl
   simp only [zP, seval, implies_true, Nat.reduceLeDiff, Nat.reduceEqDiff, reduceCtorEq, reduceIte, intD, @a_wrap ((k:Int) + 1) (by omega)]
   try rfl
  ·have : k = l.length := by omega
   subst this
   rw [List.take_length]
   have e1 : List.take l.length (List.map (fun x : PartT => x.value.toD) l) = (valL l).map FracT.toD := by
    rw [List.take_of_length_le (by simp), valL, List.map_map]; rfl
   simp only [zP, seval, implies_true, Nat.reduceLeDiff, Nat.reduceEqDiff, reduceCtorEq, reduceIte, intD, (show ¬ (l.length:Int) < l.length by omega)]
   repeat ((with_reducible refine And.intro ?_ ?_); (focus (first | omega | (simp only [lenR]; omega) | (refine qq ?_; rfl) | (refine dq ?_; kernel_rfl) | (intros; simp_all; done))))
   refine callF_dataE (as' := [.d (.sl ((valL l).map FracT.toD))]) (σ' := [.box 2 (.d (.agg [.int .i64 0, .int .i64 0])), .frz 2 (l.map fun x => x.value.toD)]) (c19 (valL l) (fun a ha => by
    obtain ⟨x, hx, rfl⟩ := List.mem_map.1 ha
    exact hin x hx)) ?_ rfl ?_
   ·show [AV.d (D.sl (List.take l.length (List.map (fun x : PartT => x.value.toD) l)))] = _
    rw [e1]
   simp only [zP, seval, implies_true, Nat.reduceLeDiff, Nat.reduceEqDiff, reduceCtorEq, reduceIte, intD, resD]
   repeat ((with_reducible refine And.intro ?_ ?_); (focus (first | omega | (simp only [lenR]; omega) | (refine qq ?_; rfl) | (refine dq ?_; kernel_rfl) | (intros; simp_all; done))))
   exact ⟨_, _, ret_t2, rfl, rfl⟩
theorem k_REBelow (l : List PartT) (y : List (List UInt8)) (hin : ∀ x ∈ l, PtOk x) (hl : l.length ≤ 100000) (hy : y.length ≤ 2000) : Pure Tryz.prog Gl 15 [.d (.sl (l.map PartT.toD)), .d (.sl (y.map .str))] (resD (sumL ((l.filter fun x => begF x.path y).map PartT.value))) := by
 refine Pure.of2t2 ?_
 refine acalls_of Tryz.func15 rfl rfl (by simp [Tryz.ntmps15]) (evC_sound rfl _ _ _ _ ?_)
 simp only [Tryz.ntmps15, Tryz.results15, argEnv, List.length_nil]
 simp only [zP, seval, implies_true, Nat.reduceLeDiff, Nat.reduceEqDiff, reduceCtorEq, reduceIte, intD]
 repeat ((with_reducible refine And.intro ?_ ?_); (focus (first | omega | (simp only [lenR]; omega) | (refine qq ?_; rfl) | (refine dq ?_; kernel_rfl) | (intros; simp_all; done))))
 refine for_of l.length (fun k => [(0, .d (.sl (l.map PartT.toD))), (1, .d (.sl (y.map .str))), (4, .ptr 0 0), (6, .osl 1 0 ((l.take k).filter fun x => begF x.path y).length), (7, .d (.int .i64 k))]) (fun k => [.box 2 (.d (.agg [.int .i64 0, .int .i64 0])), .arr 4 (((l.take k).filter fun x => begF x.path y).map PartT.toD)]) (fun _ => True) trivial ?_ ?_
 ·refine (weak_nils 6 4 rfl).trans ?_
  refine weak_to [] [0, 1] rfl (by simp) ?_ rfl
  simp only [zP, seval, implies_true, Nat.reduceLeDiff, Nat.reduceEqDiff, reduceCtorEq, reduceIte, intD, Int.cast_ofNat_Int]
  try rfl
 ·intro k _ hk
  by_cases h : k < l.length
  ·obtain ⟨x, hx⟩ : ∃ x, x = l.getD k default := ⟨_, rfl⟩
   have hxm : x ∈ l := by rw [hx]; exact mem_getD h
   have hpo := hin x hxm
   have eg : (l.map PartT.toD).getD k default = x.toD := by rw [a_getD _ _ _ h, ← hx]
   have hst := take_step l k h
   rw [← hx] at hst
   obtain ⟨fl, hfl⟩ : ∃ fl, fl = (l.take k).filter fun x => begF x.path y := ⟨_, rfl⟩
   have hfn : fl.length ≤ 100000 := by rw [hfl]; exact Nat.le_trans (List.length_filter_le _ _) (by rw [List.length_take]; omega)
   have hf2 : (l.take (k + 1)).filter (fun x => begF x.path y) = fl ++ if begF x.path y = true then [x] else [] := by
    rw [hst, List.filter_append, ← hfl]
    congr 1
    by_cases e : begF x.path y = true
    ·rw [if_pos e, List.filter_cons_of_pos (by exact e)]; rfl
    ·rw [if_neg e, List.filter_cons_of_neg (by exact e)]; rfl
   have hpl := hpo.p
   rw [← hfl, hf2]
   simp only [zP, seval, implies_true, Nat.reduceLeDiff, Nat.reduceEqDiff, reduceCtorEq, reduceIte, intD, (show (k:Int) < l.length by omega), h, eg]
   repeat ((with_reducible refine And.intro ?_ ?_); (focus (first | omega | (simp only [lenR]; omega) | (refine qq ?_; rfl) | (refine dq ?_; kernel_rfl) | (intros; simp_all; done))))
   refine callF_pure (k_Begins x.path y (by omega) (by omega)) ?_
   simp only [zP, seval, implies_true, Nat.reduceLeDiff, Nat.reduceEqDiff, reduceCtorEq, reduceIte, intD]
   repeat ((with_reducible refine And.intro ?_ ?_); (focus (first | omega | (simp only [lenR]; omega) | (refine qq ?_; rfl) | (refine dq ?_; kernel_rfl) | (intros; simp_all; done))))
   refine ifC.mk (fun hc => ?_) (fun hc => ?_)
   ·simp only [zP, seval, implies_true, Nat.reduceLeDiff, Nat.reduceEqDiff, reduceCtorEq, reduceIte, intD, (show (k:Int) < l.length by omega), h, eg]
    repeat ((with_reducible refine And.intro ?_ ?_); (focus (first | omega | (simp only [lenR]; omega) | (refine qq ?_; rfl) | (refine dq ?_; kernel_rfl) | (intros; simp_all; done))))
    have htk : List.take fl.length (fl.map PartT.toD) = fl.map PartT.toD := take_all _ _
    simp only [hc, if_true, htk]
    refine weak_to [] [0, 3] rfl (by simp) ?_ ?_
    ·simp only [zP, seval, implies_true, Nat.reduceLeDiff, Nat.reduceEqDiff, reduceCtorEq, reduceIte, intD, @a_wrap ((k:Int) + 1) (by omega)]
     try rfl
    ·rw [List.map_append]; rfl
   ·simp only [hc, Bool.false_eq_true, if_false, List.append_nil, List.length_nil, Nat.add_zero]
    refine weak_to [] [0, 1] rfl (by simp) ?_ rfl
    simp only [zP, seval, implies_true, Nat.reduceLeDiff, Nat.reduceEqDiff, reduceCtorEq, reduceIte, intD, @a_wrap ((k:Int) + 1) (by omega)]
    try rfl
  ·have : k = l.length := by omega
   subst this
   rw [List.take_length]
   obtain ⟨fl, hfl⟩ : ∃ fl, fl = l.filter fun x => begF x.path y := ⟨_, rfl⟩
   have hfn : fl.length ≤ 100000 := by rw [hfl]; exact Nat.le_trans (List.length_filter_le _ _) hl
   have hfi : ∀ x ∈ fl, x.value.In := fun x hx => by rw [hfl] at hx; exact (hin x ((List.mem_filter.1 hx).1)).v
   rw [← hfl]
   simp only [zP, seval, implies_true, Nat.reduceLeDiff, Nat.reduceEqDiff, reduceCtorEq, reduceIte, intD, (show ¬ (l.length:Int) < l.length by omega)]
   repeat ((with_reducible refine And.intro ?_ ?_); (focus (first | omega | (simp only [lenR]; omega) | (refine qq ?_; rfl) | (refine dq ?_; kernel_rfl) | (intros; simp_all; done))))
   refine callF_dataE (as' := [.d (.sl (fl.map PartT.toD))]) (σ' := [.box 2 (.d (.agg [.int .i64 0, .int .i64 0])), .frz 4 (fl.map PartT.toD)]) (k_RESum fl hfi hfn) ?_ rfl ?_
   ·show [AV.d (D.sl (List.take fl.length (fl.map PartT.toD)))] = _
    rw [take_all]
   simp only [zP, seval, implies_true, Nat.reduceLeDiff, Nat.reduceEqDiff, reduceCtorEq, reduceIte, intD, resD]
   repeat ((with_reducible refine And.intro ?_ ?_); (focus (first | omega | (simp only [lenR]; omega) | (refine qq ?_; rfl) | (refine dq ?_; kernel_rfl) | (intros; simp_all; done))))
   exact ⟨_, _, ret_t2, rfl, rfl⟩

def kpL (path : List (List UInt8)) (cause : List UInt8) (n d : Int) : List PartT := [mkP path cause n d].filter keepP
def outK (a b : List NodeT) (l : List PairT) (k : Nat) : List PartT := (contL a b (l.take k)).filter keepP

def ltP (x y : PartT) : Bool := decide (ordP x y < 0)
def insP (l : List PartT) (b : PartT) (p : Nat) : List PartT := l.take p ++ b :: l.drop p
theorem insP_len (l : List PartT) (b : PartT) (p : Nat) : (insP l b p).length = l.length + 1 := by
 simp [insP]; omega
theorem insP_end (l : List PartT) (b : PartT) : insP l b l.length = l ++ [b] := by
 rw [insP, List.take_length, List.drop_length]
theorem insP_get (l : List PartT) (b : PartT) {p : Nat} (hp : p ≤ l.length) : (insP l b p).getD p default = b := by
 have h1 : (l.take p).length = p := by rw [List.length_take]; omega
 rw [insP, List.getD_eq_getElem?_getD, List.getElem?_append_right (by omega), h1, Nat.sub_self]; rfl
theorem insP_prev (l : List PartT) (b : PartT) {p : Nat} (hp : p < l.length) : (insP l b (p + 1)).getD p default = l.getD p default := by
 rw [insP, List.getD_eq_getElem?_getD, List.getElem?_append_left (by rw [List.length_take]; omega), List.getElem?_take_of_lt (by omega), ← List.getD_eq_getElem?_getD]
theorem insP_swap (l : List PartT) (b : PartT) {p : Nat} (hp : p < l.length) : ((insP l b (p + 1)).set (p + 1) (l.getD p default)).set p b = insP l b p := by
 apply List.ext_getElem?
 intro i
 have hl : ((insP l b (p + 1)).set (p + 1) (l.getD p default)).length = l.length + 1 := by rw [List.length_set, insP_len]
 have h1 : (l.take (p + 1)).length = p + 1 := by rw [List.length_take]; omega
 have h2 : (l.take p).length = p := by rw [List.length_take]; omega
 rcases Nat.lt_trichotomy i p with h | h | h
 ·rw [List.getElem?_set_ne (by omega), List.getElem?_set_ne (by omega), insP, insP, List.getElem?_append_left (by omega), List.getElem?_append_left (by omega), List.getElem?_take_of_lt (by omega), List.getElem?_take_of_lt (by omega)]
 ·subst h
  rw [List.getElem?_set_self (by omega), insP, List.getElem?_append_right (by omega), h2, Nat.sub_self]; rfl
 ·rw [List.getElem?_set_ne (by omega)]
  by_cases e : i = p + 1
  ·subst e
   rw [List.getElem?_set_self (by rw [insP_len]; omega), insP, List.getElem?_append_right (by omega), h2, show p + 1 - p = 0 + 1 by omega, List.getElem?_cons_succ, List.getElem?_drop, List.getD_eq_getElem?_getD, Nat.add_zero, List.getElem?_eq_getElem hp]; rfl
  ·obtain ⟨j, rfl⟩ : ∃ j, i = p + 2 + j := ⟨i - (p + 2), by omega⟩
   rw [List.getElem?_set_ne (by omega), insP, insP, List.getElem?_append_right (by omega), List.getElem?_append_right (by omega), h1, h2, show p + 2 + j - (p + 1) = j + 1 by omega, show p + 2 + j - p = (j + 1) + 1 by omega, List.getElem?_cons_succ, List.getElem?_cons_succ, List.getElem?_drop, List.getElem?_drop]
   congr 1; omega
theorem putF_ins (l : List PartT) (b : PartT) : putF ltP l b = insP l b (putAt ltP l b l.length) := rfl
theorem topL_step (l : List PartT) {k : Nat} (h : k < l.length) : topL (l.take (k + 1)) = putF ltP (topL (l.take k)) (l.getD k default) := by
 rw [take_step l k h]
 exact sortF_snoc _ _ _
theorem lt_cmp (x y : PartT) : ltP x y = decide (cmpS (absF x.value) (absF y.value) > 0) := by
 unfold ltP ordP
 have := cmp_flip (absF y.value) (absF x.value)
 exact decide_eq_decide.2 (by omega)
theorem topL_take_len (l : List PartT) {k : Nat} (h : k ≤ l.length) : (topL (l.take k)).length = k := by
 rw [topL_len, List.length_take]; omega
theorem k_RTop (l : List PartT) (n : Int) (hin : ∀ x ∈ l, x.value.In) (hl : l.length ≤ 10000) : Pure Tryz.prog Gl 17 [.d (.sl (l.map PartT.toD)), .d (.int .i64 n)] (topD l n) := by
 refine Pure.of2t2 ?_
 refine acalls_of Tryz.func17 rfl rfl (by simp [Tryz.ntmps17]) (evC_sound rfl _ _ _ _ ?_)
 simp only [Tryz.ntmps17, Tryz.results17, argEnv, List.length_nil]
 simp only [zP, seval, implies_true, Nat.reduceLeDiff, Nat.reduceEqDiff, reduceCtorEq, reduceIte, intD]
 repeat ((with_reducible refine And.intro ?_ ?_); (focus (first | omega | (simp only [lenR]; omega) | (refine qq ?_; rfl) | (refine dq ?_; kernel_rfl) | (intros; simp_all; done))))
 refine ifC.mk (fun h1 => ?_) (fun h1 => ?_)
 ·have h1 : n < 0 := of_decide_eq_true h1
  refine ⟨_, _, ret_tdata rfl (x := .sl ((topF l n).1.map PartT.toD)) ?_, ?_, rfl⟩
  ·rw [topF, if_pos h1]; rfl
  ·rw [topF, if_pos h1]
 have h1 : ¬ n < 0 := of_decide_eq_false h1
 repeat ((with_reducible refine And.intro ?_ ?_); (focus (first | omega | (simp only [lenR]; omega) | (refine qq ?_; rfl) | (refine dq ?_; kernel_rfl) | (intros; simp_all; done))))
 refine callF_pure (k_RESum l hin (by omega)) ?_
 simp only [zP, seval, implies_true, Nat.reduceLeDiff, Nat.reduceEqDiff, reduceCtorEq, reduceIte, intD, resD]
 repeat ((with_reducible refine And.intro ?_ ?_); (focus (first | omega | (simp only [lenR]; omega) | (refine qq ?_; rfl) | (refine dq ?_; kernel_rfl) | (intros; simp_all; done))))
 refine ifC.mk (fun h2 => ?_) (fun h2 => ?_)
 ·have h2 : (sumL (valL l)).2 = false := by simpa using h2
  refine ⟨_, _, ret_tdata rfl (x := .sl ((topF l n).1.map PartT.toD)) ?_, ?_, rfl⟩
  ·rw [topF, if_neg h1, if_pos h2]; rfl
  ·rw [topF, if_neg h1, if_pos h2]
 have h2 : ¬ (sumL (valL l)).2 = false := by simpa using h2
 have htp : topF l n = if (l.length : Int) ≤ n then (topL l, 0) else if (sumL (valL ((topL l).drop n.toNat))).2 = false then ([], 1) else ((topL l).take n.toNat ++ [⟨[], sRest, (sumL (valL ((topL l).drop n.toNat))).1⟩], 0) := by
  rw [topF, if_neg h1, if_neg h2]
 repeat ((with_reducible refine And.intro ?_ ?_); (focus (first | omega | (simp only [lenR]; omega) | (refine qq ?_; rfl) | (refine dq ?_; kernel_rfl) | (intros; simp_all; done))))
 refine for_of l.length (fun k => [(0, .d (.sl (l.map PartT.toD))), (1, .d (.int .i64 n)), (8, .osl 0 0 k), (9, .d (.int .i64 k))]) (fun k => [.arr 4 ((topL (l.take k)).map PartT.toD)]) (fun _ => True) trivial ?_ ?_
 ·refine (weak_nils 8 4 rfl).trans ?_
  refine weak_to [] [1] rfl (by simp) ?_ rfl
  simp only [zP, seval, implies_true, Nat.reduceLeDiff, Nat.reduceEqDiff, reduceCtorEq, reduceIte, intD, Int.cast_ofNat_Int]
  try rfl
 ·intro k _ hk
  by_cases h : k < l.length
  ·obtain ⟨x, hx⟩ : ∃ x, x = l.getD k default := ⟨_, rfl⟩
   have eg : (l.map PartT.toD).getD k default = x.toD := by rw [a_getD _ _ _ h, ← hx]
   have hxm : x ∈ l := by rw [hx]; exact mem_getD h
   have hst := topL_step l h
   rw [← hx, putF_ins] at hst
   have hLl := topL_take_len l hk
   have hLin : ∀ y ∈ topL (l.take k), y.value.In := fun y hy => hin y (List.mem_of_mem_take (topL_mem.1 hy))
   rw [hst]
   obtain ⟨L, hL⟩ : ∃ L, L = topL (l.take k) := ⟨_, rfl⟩
   rw [← hL] at hLl hLin ⊢
   rw [hLl]
   have hend : insP L x k = L ++ [x] := by rw [← hLl]; exact insP_end L x
   simp only [zP, seval, implies_true, Nat.reduceLeDiff, Nat.reduceEqDiff, reduceCtorEq, reduceIte, intD, (show (k:Int) < l.length by omega), h, eg]
   repeat ((with_reducible refine And.intro ?_ ?_); (focus (first | omega | (simp only [lenR]; omega) | (refine qq ?_; rfl) | (refine dq ?_; kernel_rfl) | (intros; simp_all; done))))
   refine loop_of (τ := Nat) (fun p => [(0, .d (.sl (l.map PartT.toD))), (1, .d (.int .i64 n)), (8, .osl 0 0 (k + 1)), (9, .d (.int .i64 k)), (10, .d (.int .i64 p))]) (fun p => [.arr 4 ((insP L x p).map PartT.toD)]) (fun p => p ≤ k ∧ putAt ltP L x p = putAt ltP L x k) (fun p => p) k ⟨Nat.le_refl _, rfl⟩ ?_ ?_
   ·refine weak_to [] [2] rfl (by simp) ?_ ?_
    ·simp only [zP, seval, implies_true, Nat.reduceLeDiff, Nat.reduceEqDiff, reduceCtorEq, reduceIte, intD, show (k : Int) + 1 - 1 = (k : Int) by omega, @a_wrap ((k : Int)) (by omega)]
     try rfl
    ·rw [hend, List.map_append]
     show [Blk.arr 4 (List.take k (L.map PartT.toD) ++ [x.toD])] = _
     rw [List.take_of_length_le (by simp; omega)]; rfl
   ·rintro p ⟨hp1, hp2⟩
    cases p with
    | zero =>
     simp only [zP, seval, implies_true, Nat.reduceLeDiff, Nat.reduceEqDiff, reduceCtorEq, reduceIte, intD]
     repeat ((with_reducible refine And.intro ?_ ?_); (focus (first | omega | (simp only [lenR]; omega) | (refine qq ?_; rfl) | (refine dq ?_; kernel_rfl) | (intros; simp_all; done))))
     refine callG_of (v := .undef) (fun h => by cases h) ?_
     simp only [zP, seval, implies_true, Nat.reduceLeDiff, Nat.reduceEqDiff, reduceCtorEq, reduceIte, intD]
     repeat ((with_reducible refine And.intro ?_ ?_); (focus (first | omega | (simp only [lenR]; omega) | (refine qq ?_; rfl) | (refine dq ?_; kernel_rfl) | (intros; simp_all; done))))
     refine callG_of (v := .undef) (fun h => by cases h) ?_
     simp only [zP, seval, implies_true, Nat.reduceLeDiff, Nat.reduceEqDiff, reduceCtorEq, reduceIte, intD]
     repeat ((with_reducible refine And.intro ?_ ?_); (focus (first | omega | (simp only [lenR]; omega) | (refine qq ?_; rfl) | (refine dq ?_; kernel_rfl) | (intros; simp_all; done))))
     refine callG_of (v := .d (.int .i64 0)) (fun h => by cases h) ?_
     simp only [zP, seval, implies_true, Nat.reduceLeDiff, Nat.reduceEqDiff, reduceCtorEq, reduceIte, intD]
     repeat ((with_reducible refine And.intro ?_ ?_); (focus (first | omega | (simp only [lenR]; omega) | (refine qq ?_; rfl) | (refine dq ?_; kernel_rfl) | (intros; simp_all; done))))
     have h0 : putAt ltP L x k = 0 := hp2.symm
     rw [h0]
     refine weak_to [] [0] rfl (by simp) ?_ rfl
     simp only [zP, seval, implies_true, Nat.reduceLeDiff, Nat.reduceEqDiff, reduceCtorEq, reduceIte, intD, @a_wrap ((k:Int) + 1) (by omega)]
     try rfl
    | succ p =>
     obtain ⟨P, hP⟩ : ∃ P, P = p + 1 := ⟨_, rfl⟩
     have hpL : p < L.length := by omega
     obtain ⟨y, hy⟩ : ∃ y, y = L.getD p default := ⟨_, rfl⟩
     have hil : (insP L x P).length = k + 1 := by rw [insP_len, hLl]
     have gP : ((insP L x P).map PartT.toD).getD P default = x.toD := by rw [a_getD _ _ _ (by omega), insP_get L x (by omega)]
     have gp : ((insP L x P).map PartT.toD).getD p default = y.toD := by rw [a_getD _ _ _ (by omega), hP, insP_prev L x hpL, hy]
     have hyin : y.value.In := hLin y (by rw [hy]; exact mem_getD hpL)
     have hxin := hin x hxm
     have wP : IntKind.i64.wrap ((P : Int) - 1) = (p : Int) := by rw [show (P : Int) - 1 = (p : Int) by omega]; exact a_wrap (by omega)
     have hput : putAt ltP L x P = if ltP x y = true then putAt ltP L x p else P := by rw [hP, putAt, hy]
     have hswap : ((insP L x P).set P y).set p x = insP L x p := by rw [hP, hy]; exact insP_swap L x hpL
     rw [← hP] at hp1 hp2 ⊢
     simp only [zP, seval, implies_true, Nat.reduceLeDiff, Nat.reduceEqDiff, reduceCtorEq, reduceIte, intD, (show (0:Int) < (P:Int) by omega), (show (P:Int) < ((k + 1 : Nat) : Int) by omega), (show (P:Int) < (k : Int) + 1 by omega), (show (p:Int) < (k : Int) + 1 by omega), (show P < k + 1 by omega), (show p < k + 1 by omega), hil, gP, gp, wP]
     repeat ((with_reducible refine And.intro ?_ ?_); (focus (first | omega | (simp only [lenR]; omega) | (refine qq ?_; rfl) | (refine dq ?_; kernel_rfl) | (intros; simp_all; done))))
     refine callG_pure (fun _ => k_Rsize x.value) ?_
     simp only [zP, seval, implies_true, Nat.reduceLeDiff, Nat.reduceEqDiff, reduceCtorEq, reduceIte, intD, (show (p:Int) < (k : Int) + 1 by omega), (show p < k + 1 by omega), hil, gp, wP]
     repeat ((with_reducible refine And.intro ?_ ?_); (focus (first | omega | (simp only [lenR]; omega) | (refine qq ?_; rfl) | (refine dq ?_; kernel_rfl) | (intros; simp_all; done))))
     refine callG_pure (fun _ => k_Rsize y.value) ?_
     simp only [zP, seval, implies_true, Nat.reduceLeDiff, Nat.reduceEqDiff, reduceCtorEq, reduceIte, intD]
     repeat ((with_reducible refine And.intro ?_ ?_); (focus (first | omega | (simp only [lenR]; omega) | (refine qq ?_; rfl) | (refine dq ?_; kernel_rfl) | (intros; simp_all; done))))
     refine callG_pure (fun _ => c30 (absF x.value) (absF y.value) (absF_in hxin) (absF_in hyin)) ?_
     simp only [zP, seval, implies_true, Nat.reduceLeDiff, Nat.reduceEqDiff, reduceCtorEq, reduceIte, intD]
     repeat ((with_reducible refine And.intro ?_ ?_); (focus (first | omega | (simp only [lenR]; omega) | (refine qq ?_; rfl) | (refine dq ?_; kernel_rfl) | (intros; simp_all; done))))
     refine ifC.mk (fun hc => ?_) (fun hc => ?_)
     ·have hc : ltP x y = true := by
       rw [lt_cmp]; exact decide_eq_true (of_decide_eq_true hc)
      rw [if_pos hc] at hput
      simp only [zP, seval, implies_true, Nat.reduceLeDiff, Nat.reduceEqDiff, reduceCtorEq, reduceIte, intD, (show (P:Int) < (k : Int) + 1 by omega), (show (p:Int) < (k : Int) + 1 by omega), (show P < k + 1 by omega), (show p < k + 1 by omega), hil, gP, gp, wP, List.length_set]
      repeat ((with_reducible refine And.intro ?_ ?_); (focus (first | omega | (simp only [lenR]; omega) | (refine qq ?_; rfl) | (refine dq ?_; kernel_rfl) | (intros; simp_all; done))))
      refine ⟨p, ⟨by omega, by rw [← hput]; exact hp2⟩, by omega, ?_⟩
      rw [← hswap, List.map_set, List.map_set]
      refine weak_to [] [0] rfl (by simp) ?_ ?_
      ·simp only [zP, seval, implies_true, Nat.reduceLeDiff, Nat.reduceEqDiff, reduceCtorEq, reduceIte, intD]
       try rfl
      ·rfl
     ·have hc : ¬ ltP x y = true := by
       rw [lt_cmp]
       have := of_decide_eq_false hc
       simpa using this
      rw [if_neg hc] at hput
      have h0 : putAt ltP L x k = P := by rw [← hp2]; exact hput
      rw [h0]
      refine weak_to [] [0] rfl (by simp) ?_ rfl
      simp only [zP, seval, implies_true, Nat.reduceLeDiff, Nat.reduceEqDiff, reduceCtorEq, reduceIte, intD, @a_wrap ((k:Int) + 1) (by omega)]
      try rfl
  ·have : k = l.length := by omega
   subst this
   rw [List.take_length]
   have hsl := topL_len l
   have hti := topF_in hin
   obtain ⟨S, hS⟩ : ∃ S, S = topL l := ⟨_, rfl⟩
   rw [← hS] at hsl hti htp ⊢
   simp only [zP, seval, implies_true, Nat.reduceLeDiff, Nat.reduceEqDiff, reduceCtorEq, reduceIte, intD, (show ¬ (l.length:Int) < l.length by omega)]
   refine ifC.mk (fun h3 => ?_) (fun h3 => ?_)
   ·have h3 : (l.length : Int) ≤ n := of_decide_eq_true h3
    rw [htp, if_pos h3]
    refine ⟨_, _, ret_tdata rfl (x := .sl (S.map PartT.toD)) ?_, rfl, rfl⟩
    show D.sl (List.take l.length (S.map PartT.toD)) = _
    rw [← hsl, take_all]
   have h3 : ¬ (l.length : Int) ≤ n := of_decide_eq_false h3
   rw [if_neg h3] at htp
   obtain ⟨m, rfl⟩ : ∃ m : Nat, n = m := ⟨n.toNat, by omega⟩
   rw [Int.toNat_natCast] at htp
   simp only [zP, seval, implies_true, Nat.reduceLeDiff, Nat.reduceEqDiff, reduceCtorEq, reduceIte, intD]
   repeat ((with_reducible refine And.intro ?_ ?_); (focus (first | omega | (simp only [lenR]; omega) | (refine qq ?_; rfl) | (refine dq ?_; kernel_rfl) | (intros; simp_all; done))))
   have hdin : ∀ x ∈ S.drop m, x.value.In := fun x hx => hti x (List.mem_of_mem_drop hx)
   refine callF_dataE (as' := [.d (.sl ((S.drop m).map PartT.toD))]) (σ' := [.frz 4 (S.map PartT.toD)]) (k_RESum (S.drop m) hdin (by rw [List.length_drop]; omega)) ?_ rfl ?_
   ·show [AV.d (D.sl (List.take (l.length - m) (List.drop m (S.map PartT.toD))))] = _
    rw [List.take_of_length_le (by simp; omega), List.map_drop]
   have hvin := sumL_in (valL (S.drop m))
   generalize sumL (valL (S.drop m)) = V at htp hvin ⊢
   simp only [zP, seval, implies_true, Nat.reduceLeDiff, Nat.reduceEqDiff, reduceCtorEq, reduceIte, intD, resD]
   repeat ((with_reducible refine And.intro ?_ ?_); (focus (first | omega | (simp only [lenR]; omega) | (refine qq ?_; rfl) | (refine dq ?_; kernel_rfl) | (intros; simp_all; done))))
   refine ifC.mk (fun h4 => ?_) (fun h4 => ?_)
   ·have h4 : V.2 = false := by simpa using h4
    rw [htp, if_pos h4]
    exact ⟨_, _, ret_tdata rfl (x := .sl []) rfl, rfl, rfl⟩
   have h4 : ¬ V.2 = false := by simpa using h4
   rw [htp, if_neg h4]
   (try simp only [zP, seval, implies_true, Nat.reduceLeDiff, Nat.reduceEqDiff, reduceCtorEq, reduceIte, intD])
   repeat ((with_reducible refine And.intro ?_ ?_); (focus (first | omega | (simp only [lenR]; omega) | (refine qq ?_; rfl) | (refine dq ?_; kernel_rfl) | (intros; simp_all; done))))
   rw [Nat.sub_zero, List.take_length]
   refine ⟨_, _, ret_tdata rfl (x := .sl ((S.take m ++ [(⟨[], sRest, V.1⟩ : PartT)]).map PartT.toD)) ?_, rfl, rfl⟩
   show D.sl (List.take ((List.take m (S.map PartT.toD)).length + 1) (List.take m (S.map PartT.toD) ++ [D.agg [D.sl [], D.str [114, 101, 115, 116], D.int IntKind.i64 V.1.n, D.int IntKind.i64 V.1.q]])) = _
   rw [List.take_of_length_le (by simp), List.map_append, List.map_take]
   rfl

theorem ex1 : eOfF [lfN 10 100] [lfN 12 150] = ([ptN sCount 20 1, ptN sMean 30 1], 0) := by decide +kernel
theorem ex2 : eOfF [] [lfN 2 8] = ([ptN sNew 8 1], 0) := by decide +kernel
theorem ex3 : eOfF [lfN 3 10] [lfN 2 10] = ([ptN sCount (-10) 3, ptN sMean 10 3], 0) := by decide +kernel
theorem ex4 : diffF [lfN 10 100] [lfN 12 150] = (50, 0) := by decide +kernel
theorem ex5 : topF [ptN sCount 20 1, ptN sMean 30 1] 1 = ([ptN sMean 30 1, ⟨[], sRest, ⟨20, 1⟩⟩], 0) := by decide +kernel
theorem k_awake : Pure Tryz.prog Gl 6 [] (.d (.bool true)) := by
 refine Pure.of0 ?_
 refine acalls_of Tryz.func6 rfl rfl (by simp [Tryz.ntmps6]) (evC_sound rfl _ _ _ _ ?_)
 simp only [Tryz.ntmps6, Tryz.results6, argEnv, List.length_nil]
 simp only [zP, seval, implies_true, Nat.reduceLeDiff, Nat.reduceEqDiff, reduceCtorEq, reduceIte, intD]
 refine callF_pure (k_leaf _ _) ?_
 simp only [zP, seval, implies_true, Nat.reduceLeDiff, Nat.reduceEqDiff, reduceCtorEq, reduceIte, intD]
 repeat ((with_reducible refine And.intro ?_ ?_); (focus (first | omega | (simp only [lenR]; omega) | (refine qq ?_; rfl) | (refine dq ?_; kernel_rfl) | (intros; simp_all; done))))
 refine callF_pure (k_leaf _ _) ?_
 simp only [zP, seval, implies_true, Nat.reduceLeDiff, Nat.reduceEqDiff, reduceCtorEq, reduceIte, intD]
 repeat ((with_reducible refine And.intro ?_ ?_); (focus (first | omega | (simp only [lenR]; omega) | (refine qq ?_; rfl) | (refine dq ?_; kernel_rfl) | (intros; simp_all; done))))
 refine callF_pure (k_EOf [lfN 10 100] [lfN 12 150] (by decide) (by decide)) ?_
 rw [eOfD, ex1]
 simp only [zP, seval, implies_true, Nat.reduceLeDiff, Nat.reduceEqDiff, reduceCtorEq, reduceIte, intD]
 repeat ((with_reducible refine And.intro ?_ ?_); (focus (first | omega | (simp only [lenR]; omega) | (refine qq ?_; rfl) | (refine dq ?_; kernel_rfl) | (intros; simp_all; done))))
 refine callF_pure (k_leaf _ _) ?_
 simp only [zP, seval, implies_true, Nat.reduceLeDiff, Nat.reduceEqDiff, reduceCtorEq, reduceIte, intD]
 repeat ((with_reducible refine And.intro ?_ ?_); (focus (first | omega | (simp only [lenR]; omega) | (refine qq ?_; rfl) | (refine dq ?_; kernel_rfl) | (intros; simp_all; done))))
 refine callF_dataE (as' := [.d (.sl ([].map NodeT.toD)), .d (.sl ([lfN 2 8].map NodeT.toD))]) (σ' := []) (k_EOf [] [lfN 2 8] (by decide) (by decide)) rfl rfl ?_
 rw [eOfD, ex2]
 simp only [zP, seval, implies_true, Nat.reduceLeDiff, Nat.reduceEqDiff, reduceCtorEq, reduceIte, intD]
 repeat ((with_reducible refine And.intro ?_ ?_); (focus (first | omega | (simp only [lenR]; omega) | (refine qq ?_; rfl) | (refine dq ?_; kernel_rfl) | (intros; simp_all; done))))
 refine callF_pure (k_leaf _ _) ?_
 simp only [zP, seval, implies_true, Nat.reduceLeDiff, Nat.reduceEqDiff, reduceCtorEq, reduceIte, intD]
 repeat ((with_reducible refine And.intro ?_ ?_); (focus (first | omega | (simp only [lenR]; omega) | (refine qq ?_; rfl) | (refine dq ?_; kernel_rfl) | (intros; simp_all; done))))
 refine callF_pure (k_leaf _ _) ?_
 simp only [zP, seval, implies_true, Nat.reduceLeDiff, Nat.reduceEqDiff, reduceCtorEq, reduceIte, intD]
 repeat ((with_reducible refine And.intro ?_ ?_); (focus (first | omega | (simp only [lenR]; omega) | (refine qq ?_; rfl) | (refine dq ?_; kernel_rfl) | (intros; simp_all; done))))
 refine callF_pure (k_EOf [lfN 3 10] [lfN 2 10] (by decide) (by decide)) ?_
 rw [eOfD, ex3]
 simp only [zP, seval, implies_true, Nat.reduceLeDiff, Nat.reduceEqDiff, reduceCtorEq, reduceIte, intD]
 repeat ((with_reducible refine And.intro ?_ ?_); (focus (first | omega | (simp only [lenR]; omega) | (refine qq ?_; rfl) | (refine dq ?_; kernel_rfl) | (intros; simp_all; done))))
 refine callF_pure (k_leaf _ _) ?_
 simp only [zP, seval, implies_true, Nat.reduceLeDiff, Nat.reduceEqDiff, reduceCtorEq, reduceIte, intD]
 repeat ((with_reducible refine And.intro ?_ ?_); (focus (first | omega | (simp only [lenR]; omega) | (refine qq ?_; rfl) | (refine dq ?_; kernel_rfl) | (intros; simp_all; done))))
 refine callF_pure (k_leaf _ _) ?_
 simp only [zP, seval, implies_true, Nat.reduceLeDiff, Nat.reduceEqDiff, reduceCtorEq, reduceIte, intD]
 repeat ((with_reducible refine And.intro ?_ ?_); (focus (first | omega | (simp only [lenR]; omega) | (refine qq ?_; rfl) | (refine dq ?_; kernel_rfl) | (intros; simp_all; done))))
 refine callF_pure (k_Diff [lfN 10 100] [lfN 12 150] (by decide) (by decide)) ?_
 rw [ex4]
 simp only [zP, seval, implies_true, Nat.reduceLeDiff, Nat.reduceEqDiff, reduceCtorEq, reduceIte, intD]
 repeat ((with_reducible refine And.intro ?_ ?_); (focus (first | omega | (simp only [lenR]; omega) | (refine qq ?_; rfl) | (refine dq ?_; kernel_rfl) | (intros; simp_all; done))))
 refine callF_pure (k_Top [ptN sCount 20 1, ptN sMean 30 1] 1 (by
  intro x hx
  rcases List.mem_cons.1 hx with rfl | hx
  ·exact ⟨by decide, by decide, by decide, by decide⟩
  ·obtain rfl := List.mem_singleton.1 hx
   exact ⟨by decide, by decide, by decide, by decide⟩) (by decide)) ?_
 rw [topD, ex5]
 simp only [zP, seval, implies_true, Nat.reduceLeDiff, Nat.reduceEqDiff, reduceCtorEq, reduceIte, intD]
 repeat ((with_reducible refine And.intro ?_ ?_); (focus (first | omega | (simp only [lenR]; omega) | (refine qq ?_; rfl) | (refine dq ?_; kernel_rfl) | (intros; simp_all; done))))
 refine callG_pure (fun _ => k_part _ _ _) ?_
 simp only [zP, seval, implies_true, Nat.reduceLeDiff, Nat.reduceEqDiff, reduceCtorEq, reduceIte, intD]
 repeat ((with_reducible refine And.intro ?_ ?_); (focus (first | omega | (simp only [lenR]; omega) | (refine qq ?_; rfl) | (refine dq ?_; kernel_rfl) | (intros; simp_all; done))))
 refine callG_pure (fun _ => k_part _ _ _) ?_
 simp only [zP, seval, implies_true, Nat.reduceLeDiff, Nat.reduceEqDiff, reduceCtorEq, reduceIte, intD]
 repeat ((with_reducible refine And.intro ?_ ?_); (focus (first | omega | (simp only [lenR]; omega) | (refine qq ?_; rfl) | (refine dq ?_; kernel_rfl) | (intros; simp_all; done))))
 refine callG_at1 (v := .bool true) 0 (fun B hB => k_ESameB [ptN sCount 20 1, ptN sMean 30 1] 2 rfl (by decide) (by decide) B hB) (fun s => rfl) rfl ?_
 simp only [zP, seval, implies_true, Nat.reduceLeDiff, Nat.reduceEqDiff, reduceCtorEq, reduceIte, intD, beq_self_eq_true]
 repeat ((with_reducible refine And.intro ?_ ?_); (focus (first | omega | (simp only [lenR]; omega) | (refine qq ?_; rfl) | (refine dq ?_; kernel_rfl) | (intros; simp_all; done))))
 refine callG_pure (fun _ => k_part _ _ _) ?_
 simp only [zP, seval, implies_true, Nat.reduceLeDiff, Nat.reduceEqDiff, reduceCtorEq, reduceIte, intD]
 repeat ((with_reducible refine And.intro ?_ ?_); (focus (first | omega | (simp only [lenR]; omega) | (refine qq ?_; rfl) | (refine dq ?_; kernel_rfl) | (intros; simp_all; done))))
 refine callG_at1 (v := .bool true) 1 (fun B hB => k_ESameB [ptN sNew 8 1] 1 rfl (by decide) (by decide) B hB) (fun s => rfl) rfl ?_
 simp only [zP, seval, implies_true, Nat.reduceLeDiff, Nat.reduceEqDiff, reduceCtorEq, reduceIte, intD, beq_self_eq_true]
 repeat ((with_reducible refine And.intro ?_ ?_); (focus (first | omega | (simp only [lenR]; omega) | (refine qq ?_; rfl) | (refine dq ?_; kernel_rfl) | (intros; simp_all; done))))
 refine callG_pure (fun _ => k_part _ _ _) ?_
 simp only [zP, seval, implies_true, Nat.reduceLeDiff, Nat.reduceEqDiff, reduceCtorEq, reduceIte, intD]
 repeat ((with_reducible refine And.intro ?_ ?_); (focus (first | omega | (simp only [lenR]; omega) | (refine qq ?_; rfl) | (refine dq ?_; kernel_rfl) | (intros; simp_all; done))))
 refine callG_pure (fun _ => k_part _ _ _) ?_
 simp only [zP, seval, implies_true, Nat.reduceLeDiff, Nat.reduceEqDiff, reduceCtorEq, reduceIte, intD]
 repeat ((with_reducible refine And.intro ?_ ?_); (focus (first | omega | (simp only [lenR]; omega) | (refine qq ?_; rfl) | (refine dq ?_; kernel_rfl) | (intros; simp_all; done))))
 refine callG_at1 (v := .bool true) 2 (fun B hB => k_ESameB [ptN sCount (-10) 3, ptN sMean 10 3] 2 rfl (by decide) (by decide) B hB) (fun s => rfl) rfl ?_
 simp only [zP, seval, implies_true, Nat.reduceLeDiff, Nat.reduceEqDiff, reduceCtorEq, reduceIte, intD, beq_self_eq_true]
 repeat ((with_reducible refine And.intro ?_ ?_); (focus (first | omega | (simp only [lenR]; omega) | (refine qq ?_; rfl) | (refine dq ?_; kernel_rfl) | (intros; simp_all; done))))
 refine callG_pure (fun _ => k_part _ _ _) ?_
 simp only [zP, seval, implies_true, Nat.reduceLeDiff, Nat.reduceEqDiff, reduceCtorEq, reduceIte, intD]
 repeat ((with_reducible refine And.intro ?_ ?_); (focus (first | omega | (simp only [lenR]; omega) | (refine qq ?_; rfl) | (refine dq ?_; kernel_rfl) | (intros; simp_all; done))))
 refine callG_at1 (v := .bool true) 3 (fun B hB => k_ESameB [ptN sMean 30 1, ⟨[], sRest, ⟨20, 1⟩⟩] 2 rfl (by decide) (by decide) B hB) (fun s => rfl) rfl ?_
 simp only [zP, seval, implies_true, Nat.reduceLeDiff, Nat.reduceEqDiff, reduceCtorEq, reduceIte, intD, beq_self_eq_true]
 repeat ((with_reducible refine And.intro ?_ ?_); (focus (first | omega | (simp only [lenR]; omega) | (refine qq ?_; rfl) | (refine dq ?_; kernel_rfl) | (intros; simp_all; done))))
 exact ⟨_, _, ret_d, rfl, rfl⟩

theorem topF_short {l : List PartT} {n : Int} (hl : l.length ≤ 60) (hp : ∀ x ∈ l, x.path.length ≤ 40) : (topF l n).1.length < 1000000 ∧ ∀ x ∈ (topF l n).1, x.path.length < 1000000 := by
 have hm : ∀ x ∈ topL l, x.path.length < 1000000 := fun x hx => by have := hp x (topL_mem.1 hx); omega
 unfold topF
 split
 ·exact ⟨by decide, fun x hx => by cases hx⟩
 ·split
  ·exact ⟨by decide, fun x hx => by cases hx⟩
  ·split
   ·exact ⟨by simp only [topL_len]; omega, hm⟩
   ·split
    ·exact ⟨by decide, fun x hx => by cases hx⟩
    ·refine ⟨by simp only [List.length_append, List.length_take, topL_len, List.length_singleton]; omega, fun x hx => ?_⟩
     rcases List.mem_append.1 hx with hx | hx
     ·exact hm x (List.mem_of_mem_take hx)
     ·obtain rfl := List.mem_singleton.1 hx
      show (0 : Nat) < 1000000
      decide
theorem k_LParts (l : List PartT) (n : Int) (y : List (List UInt8)) (hin : ∀ x ∈ l, x.value.In) : Pure Tryz.prog Gl 4 [.d (.sl (l.map PartT.toD)), .d (.int .i64 n), .d (.sl (y.map .str))] (.d (.bool true)) := by
 refine Pure.of3 ?_
 refine acalls_of Tryz.func4 rfl rfl (by simp [Tryz.ntmps4]) (evC_sound rfl _ _ _ _ ?_)
 simp only [Tryz.ntmps4, Tryz.results4, argEnv, List.length_nil]
 simp only [zP, seval, implies_true, Nat.reduceLeDiff, Nat.reduceEqDiff, reduceCtorEq, reduceIte, intD]
 repeat ((with_reducible refine And.intro ?_ ?_); (focus (first | omega | (simp only [lenR]; omega) | (refine qq ?_; rfl) | (refine dq ?_; kernel_rfl) | (intros; simp_all; done))))
 refine ifC.mk (fun h1 => ?_) (fun h1 => ?_)
 ·refine callF_pure k_awake ?_
  simp only [zP, seval, implies_true, Nat.reduceLeDiff, Nat.reduceEqDiff, reduceCtorEq, reduceIte, intD]
  exact ⟨_, _, ret_d, rfl, rfl⟩
 have h1 : l.length ≤ 60 ∧ y.length ≤ 40 := by
  simp only [Bool.or_eq_false_iff, decide_eq_false_iff_not] at h1
  omega
 obtain ⟨hl, hy⟩ := h1
 refine for_of l.length (fun k => [(0, .d (.sl (l.map PartT.toD))), (1, .d (.int .i64 n)), (2, .d (.sl (y.map .str))), (26, .d (.sl (l.map PartT.toD))), (27, .d (.int .i64 l.length)), (28, .d (.int .i64 k))]) (fun _ => []) (fun k => ∀ i, i < k → (l.getD i default).path.length ≤ 40) (fun i h => by omega) ?_ ?_
 ·refine weak_to [] [] rfl List.nodup_nil ?_ rfl
  simp only [zP, seval, implies_true, Nat.reduceLeDiff, Nat.reduceEqDiff, reduceCtorEq, reduceIte, intD, Int.cast_ofNat_Int]
  try rfl
 ·intro k hi hk
  by_cases h : k < l.length
  ·obtain ⟨x, hx⟩ : ∃ x, x = l.getD k default := ⟨_, rfl⟩
   have eg : (l.map PartT.toD).getD k default = x.toD := by rw [a_getD _ _ _ h, ← hx]
   simp only [zP, seval, implies_true, Nat.reduceLeDiff, Nat.reduceEqDiff, reduceCtorEq, reduceIte, intD, (show (k:Int) < l.length by omega), h, eg, List.length_map]
   repeat ((with_reducible refine And.intro ?_ ?_); (focus (first | omega | (simp only [lenR]; omega) | (refine qq ?_; rfl) | (refine dq ?_; kernel_rfl) | (intros; simp_all; done))))
   refine ifC.mk (fun h2 => ?_) (fun h2 => ?_)
   ·refine callF_pure k_awake ?_
    simp only [zP, seval, implies_true, Nat.reduceLeDiff, Nat.reduceEqDiff, reduceCtorEq, reduceIte, intD]
    exact ⟨_, _, ret_d, rfl, rfl⟩
   ·have h2 : x.path.length ≤ 40 := by have := of_decide_eq_false h2; omega
    refine ⟨fun i hik => ?_, ?_⟩
    ·by_cases e : i = k
     ·rw [e, ← hx]; exact h2
     ·exact hi i (by omega)
    refine weak_to [] [] rfl List.nodup_nil ?_ rfl
    simp only [zP, seval, implies_true, Nat.reduceLeDiff, Nat.reduceEqDiff, reduceCtorEq, reduceIte, intD, @a_wrap ((k:Int) + 1) (by omega)]
    try rfl
  ·have : k = l.length := by omega
   subst this
   have hp : ∀ x ∈ l, x.path.length ≤ 40 := fun x hx => by
    obtain ⟨i, hil, rfl⟩ := List.mem_iff_getElem.1 hx
    have := hi i hil
    simpa [hil] using this
   have hpt : ∀ x ∈ l, PtOk x := fun x hx => ⟨hin x hx, by have := hp x hx; omega⟩
   obtain ⟨t1, t2⟩ := topF_short (n := n) hl hp
   simp only [zP, seval, implies_true, Nat.reduceLeDiff, Nat.reduceEqDiff, reduceCtorEq, reduceIte, intD, (show ¬ (l.length:Int) < l.length by omega)]
   repeat ((with_reducible refine And.intro ?_ ?_); (focus (first | omega | (simp only [lenR]; omega) | (refine qq ?_; rfl) | (refine dq ?_; kernel_rfl) | (intros; simp_all; done))))
   refine callF_pure (k_ESum l hin (by omega)) ?_
   simp only [zP, seval, implies_true, Nat.reduceLeDiff, Nat.reduceEqDiff, reduceCtorEq, reduceIte, intD, resD]
   repeat ((with_reducible refine And.intro ?_ ?_); (focus (first | omega | (simp only [lenR]; omega) | (refine qq ?_; rfl) | (refine dq ?_; kernel_rfl) | (intros; simp_all; done))))
   refine callF_pure (k_RESum l hin (by omega)) ?_
   simp only [zP, seval, implies_true, Nat.reduceLeDiff, Nat.reduceEqDiff, reduceCtorEq, reduceIte, intD, resD]
   repeat ((with_reducible refine And.intro ?_ ?_); (focus (first | omega | (simp only [lenR]; omega) | (refine qq ?_; rfl) | (refine dq ?_; kernel_rfl) | (intros; simp_all; done))))
   (try simp only [zP, seval, implies_true, Nat.reduceLeDiff, Nat.reduceEqDiff, reduceCtorEq, reduceIte, intD, FracT.toD, valL, beq_self_eq_true, bne_self_eq_false, Bool.not_true])
   repeat ((with_reducible refine And.intro ?_ ?_); (focus (first | omega | (simp only [lenR]; omega) | (refine qq ?_; rfl) | (refine dq ?_; kernel_rfl) | (intros; simp_all; done))))
   refine callF_pure (k_EBelow l y hpt (by omega) (by omega)) ?_
   simp only [zP, seval, implies_true, Nat.reduceLeDiff, Nat.reduceEqDiff, reduceCtorEq, reduceIte, intD, resD]
   repeat ((with_reducible refine And.intro ?_ ?_); (focus (first | omega | (simp only [lenR]; omega) | (refine qq ?_; rfl) | (refine dq ?_; kernel_rfl) | (intros; simp_all; done))))
   refine callF_pure (k_REBelow l y hpt (by omega) (by omega)) ?_
   simp only [zP, seval, implies_true, Nat.reduceLeDiff, Nat.reduceEqDiff, reduceCtorEq, reduceIte, intD, resD]
   repeat ((with_reducible refine And.intro ?_ ?_); (focus (first | omega | (simp only [lenR]; omega) | (refine qq ?_; rfl) | (refine dq ?_; kernel_rfl) | (intros; simp_all; done))))
   (try simp only [zP, seval, implies_true, Nat.reduceLeDiff, Nat.reduceEqDiff, reduceCtorEq, reduceIte, intD, FracT.toD, valL, beq_self_eq_true, bne_self_eq_false, Bool.not_true])
   repeat ((with_reducible refine And.intro ?_ ?_); (focus (first | omega | (simp only [lenR]; omega) | (refine qq ?_; rfl) | (refine dq ?_; kernel_rfl) | (intros; simp_all; done))))
   refine callF_pure (k_Top l n hin (by omega)) ?_
   simp only [zP, seval, implies_true, Nat.reduceLeDiff, Nat.reduceEqDiff, reduceCtorEq, reduceIte, intD, topD]
   repeat ((with_reducible refine And.intro ?_ ?_); (focus (first | omega | (simp only [lenR]; omega) | (refine qq ?_; rfl) | (refine dq ?_; kernel_rfl) | (intros; simp_all; done))))
   refine callF_pure (k_RTop l n hin (by omega)) ?_
   simp only [zP, seval, implies_true, Nat.reduceLeDiff, Nat.reduceEqDiff, reduceCtorEq, reduceIte, intD, topD, beq_self_eq_true]
   repeat ((with_reducible refine And.intro ?_ ?_); (focus (first | omega | (simp only [lenR]; omega) | (refine qq ?_; rfl) | (refine dq ?_; kernel_rfl) | (intros; simp_all; done))))
   refine callG_pure (fun _ => k_ESame (topF l n).1 t2 t1) ?_
   simp only [zP, seval, implies_true, Nat.reduceLeDiff, Nat.reduceEqDiff, reduceCtorEq, reduceIte, intD]
   repeat ((with_reducible refine And.intro ?_ ?_); (focus (first | omega | (simp only [lenR]; omega) | (refine qq ?_; rfl) | (refine dq ?_; kernel_rfl) | (intros; simp_all; done))))
   refine callG_pure (fun _ => k_awake) ?_
   simp only [zP, seval, implies_true, Nat.reduceLeDiff, Nat.reduceEqDiff, reduceCtorEq, reduceIte, intD]
   repeat ((with_reducible refine And.intro ?_ ?_); (focus (first | omega | (simp only [lenR]; omega) | (refine qq ?_; rfl) | (refine dq ?_; kernel_rfl) | (intros; simp_all; done))))
   exact ⟨_, _, ret_d, rfl, rfl⟩
end YtmedpoeeoihfmaaGreatDoor
end Go.Proofs

set_option maxRecDepth 100000
namespace Go.Proofs
open Go.AM Go.ChangeShapes Go.WideShapes Go.ChangeAt Go.RowKit
namespace YtmedpoeeoihfmaaGreatDoor
variable {Gl : Globs}
theorem own : ownKnob Tryz.prog.godebug = none := by kernel_rfl
theorem laidOut : laidOutB Tryz.prog = true := by kernel_rfl
def laid3 : List (String × DataW Unit) := [("math/bits.deBruijn32tab", Rows.laid_math_bits_deBruijn32tab), ("math/bits.deBruijn64tab", Rows.laid_math_bits_deBruijn64tab), ("internal/strconv.uint64pow10", Rows.laid_internal_strconv_uint64pow10)]
theorem door_met (os : Os) (args : Array Value) : laidMetH Tryz.prog laid3 ((World.doorLaid Tryz.prog 400 os).forCall (fun _ _ => 0) ⟨#[], args, []⟩).memory :=
 laidMetH_of_parts3 (fuel := 8) (laidMet_of_run' 8 (by kernel_rfl) (by kernel_rfl)) (by kernel_rfl) (by kernel_rfl)
theorem parPath {x : D} (h : TypedV Tryz.prog 5 32 x) : ∃ l : List (List UInt8), x = .sl (l.map .str) ∧ l.length ≤ 9223372036854775807 := by
 obtain ⟨xs, rfl, hl, hx⟩ := param1_of h (c := .sl [.str] false) (by kernel_rfl) (by kernel_rfl)
 obtain ⟨d, rfl⟩ := strs_of hx
 rw [List.length_map] at hl
 exact ⟨d, rfl, Nat.le_trans hl (by decide)⟩
theorem parInt {x : D} (h : TypedV Tryz.prog 5 3 x) : ∃ e : Int, x = .int .i64 e ∧ (Lit.int .i64 e).wf = true := param1_of h (c := .int .i64) (by kernel_rfl) (by kernel_rfl)
theorem frac_In {a b : Int} (w1 : (Lit.int .i64 a).wf = true) (w2 : (Lit.int .i64 b).wf = true) : (⟨a, b⟩ : FracT).In := by
 simp only [Lit.wf, Bool.and_eq_true, decide_eq_true_eq] at w1 w2
 exact ⟨w1.1, w1.2, w2.1, w2.2⟩
theorem part_of {x : D} (h : ConfL [.sl [.str] false, .str, .int .i64, .int .i64] x.cells) (hg : x.isAgg = true) : ∃ b : PartT, x = b.toD ∧ b.value.In := by
 obtain ⟨_, _, e1, ⟨xs, rfl, _, hx⟩, _, _, rfl, ⟨c, rfl, _⟩, _, _, rfl, ⟨a2, rfl, w2⟩, _, _, rfl, ⟨a3, rfl, w3⟩, rfl⟩ := h
 obtain ⟨p, rfl⟩ := strs_of hx
 exact ⟨⟨p, c, ⟨a2, a3⟩⟩, agg_of hg e1, frac_In w2 w3⟩
theorem parParts {x : D} (h : TypedV Tryz.prog 5 25 x) : ∃ l : List PartT, x = .sl (l.map PartT.toD) ∧ ∀ b ∈ l, b.value.In := by
 obtain ⟨xs, rfl, _, hx⟩ := param1_of h (c := .sl [.sl [.str] false, .str, .int .i64, .int .i64] true) (by kernel_rfl) (by kernel_rfl)
 obtain ⟨d, rfl, hd⟩ := list_ofP fun y hy => part_of (hx y hy).1 (hx y hy).2
 exact ⟨d, rfl, hd⟩
theorem explainParts_main (xs : List D) (h : TypedAll Tryz.prog 5 Tryz.f4.params.toList xs) : ACalls Tryz.prog [] 4 (xs.map AV.d) [] (fun r _ => r = .d (.bool true)) := by
 rw [Tryz.params4] at h
 obtain ⟨x, _, rfl, h1, y, _, rfl, h2, z, _, rfl, h3, rfl⟩ := h
 obtain ⟨l, rfl, hl⟩ := parParts h1
 obtain ⟨n, rfl, _⟩ := parInt h2
 obtain ⟨p, rfl, _⟩ := parPath h3
 exact (k_LParts l n p hl []).mono fun r s h => h.1
end YtmedpoeeoihfmaaGreatDoor
end Go.Proofs
