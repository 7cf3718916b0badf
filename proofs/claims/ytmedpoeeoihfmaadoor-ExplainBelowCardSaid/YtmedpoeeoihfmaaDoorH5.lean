/- A part of the proof: contracts of functions of this seat, and lemmas. No condition beyond those stated. -/
import Derived.Test.YtmedpoeeoihfmaaDoorH4
import Derived.Test.YtmedpoeeoihfmaaDoorG4
import Derived.Test.YtmedpoeeoihfmaaDoorH2
import Derived.Test.YtmedpoeeoihfmaaDoorRows
import Derived.Test.YtmedpoeeoihfmaaDoorCards
import Derived.Test.YtmedpoeeoihfmaaDoorTie
import Derived.ProofKit
import Derived.LaidMore
import Derived.OpenShut
import Derived.Stop.Joined
import Derived.Stop.LaidErr
import Derived.SevenTiedAt
import Derived.MakeChecks
set_option linter.unusedVariables false
set_option linter.unusedSimpArgs false
set_option linter.unusedSectionVars false
set_option linter.unnecessarySimpa false
set_option maxRecDepth 100000
namespace Go.Proofs
open Go.AM
namespace YtmedpoeeoihfmaaDoor
variable {Gl : Globs} {τ : Sto}
set_option maxHeartbeats 4000000 in
set_option maxRecDepth 10000 in
theorem merge_gen (Dm : D → Prop) (cmpF : D → D → Int) (fv : FuncId) (caps : List AV) (hC : CmpOk Gl τ Dm cmpF fv caps) (xs : List D) (hxs : ∀ y ∈ xs, Dm y) (n : Nat) (hn : n ≤ xs.length) (hN : n < 1000000)
  (a m b : Nat) (ys : List D) (π : Nat → Nat) (hA : Arr Dm xs ys π) (hπ : ∀ p, p < xs.length → π p < xs.length) (ham : a < m) (hmb : m < b) (hbn : b ≤ n) (hS1 : Sorted (fun x y => decide (cmpF x y < 0)) xs a m π) (hS2 : Sorted (fun x y => decide (cmpF x y < 0)) xs m b π) (hT : Tags a m b π)
  (hc1 : ¬ m = a + 1) (hc2 : ¬ b = m + 1)
  (ih : ∀ (a' m' b' : Nat) (ys : List D) (π : Nat → Nat), b' - a' < b - a → Arr Dm xs ys π → (∀ p, p < xs.length → π p < xs.length) → a' < m' → m' < b' → b' ≤ n → Sorted (fun x y => decide (cmpF x y < 0)) xs a' m' π → Sorted (fun x y => decide (cmpF x y < 0)) xs m' b' π → Tags a' m' b' π →
   ACalls Tryd.prog Gl 72 [.osl 0 0 n, .d (.int .i64 a'), .d (.int .i64 m'), .d (.int .i64 b'), .fn fv caps] (.arr 4 ys :: τ) (Merged τ Dm cmpF xs a' b' π)) :
  ACalls Tryd.prog Gl 72 [.osl 0 0 n, .d (.int .i64 a), .d (.int .i64 m), .d (.int .i64 b), .fn fv caps] (.arr 4 ys :: τ) (Merged τ Dm cmpF xs a b π) := by
 refine acalls_of Tryd.func72 rfl rfl (by simp [Tryd.ntmps72]) (evC_sound rfl _ _ _ _ ?_)
 simp only [Tryd.ntmps72, Tryd.results72, argEnv, List.length_nil]
 have hlY := hA.len
 have e1 : IntKind.i64.wrap ((m : Int) - a) = ((m - a : Nat) : Int) := by rw [wrap64 (by omega) (by omega)]; omega
 have e2 : IntKind.i64.wrap ((b : Int) - m) = ((b - m : Nat) : Int) := by rw [wrap64 (by omega) (by omega)]; omega
 have e3 : (((m - a : Nat) : Int) == 1) = false := by simp; omega
 have e4 : (((b - m : Nat) : Int) == 1) = false := by simp; omega
 have g1 : IntKind.i64.wrap ((a : Int) + b) = ((a + b : Nat) : Int) := by rw [wrap64 (by omega) (by omega)]; omega
 have g2 : IntKind.u64.wrap ((a + b : Nat) : Int) = ((a + b : Nat) : Int) := u64_in _ (by omega)
 have g3 : ((a + b : Nat) : Int).fdiv 2 = (((a + b) / 2 : Nat) : Int) := half _ (by omega)
 have g4 : IntKind.i64.wrap (((a + b) / 2 : Nat) : Int) = (((a + b) / 2 : Nat) : Int) := i64_nat _ (by omega)
 obtain ⟨d, e5, e6, e7⟩ : ∃ d, d = (a + b) / 2 ∧ a < d ∧ d < b := ⟨_, rfl, by omega, by omega⟩
 rw [← e5] at g3 g4
 have g5 : IntKind.i64.wrap ((d : Int) + m) = ((d + m : Nat) : Int) := by rw [wrap64 (by omega) (by omega)]; omega
 have g6 : IntKind.i64.wrap (((d + m : Nat) : Int) - 1) = ((d + m - 1 : Nat) : Int) := by rw [wrap64 (by omega) (by omega)]; omega
 obtain ⟨s0, r0, key⟩ : ∃ s0 r0 : Nat, (d < m ∧ s0 = d + m - b ∧ r0 = d) ∨ (m ≤ d ∧ s0 = a ∧ r0 = m) := by
  by_cases c : d < m
  ·exact ⟨_, _, .inl ⟨c, rfl, rfl⟩⟩
  ·exact ⟨_, _, .inr ⟨by omega, rfl, rfl⟩⟩
 have c0 : ((d : Int) < m) ∨ ¬ ((d : Int) < m) := by omega
 rcases key with ⟨k1, k2, k3⟩ | ⟨k1, k2, k3⟩
 ·have c0 : ((d : Int) < m) := by omega
  have g7 : IntKind.i64.wrap (((d + m : Nat) : Int) - b) = ((s0 : Nat) : Int) := by rw [wrap64 (by omega) (by omega)]; omega
  simp only [zS, seval, implies_true, Nat.reduceLeDiff, Nat.reduceEqDiff, reduceCtorEq, reduceIte, e1, e2, e3, e4, g1, g2, g3, g4, g5, g6, g7, shr1, c0]
  refine loop_of (τ := Nat × Nat) (fun x => [(0, .osl 0 0 n), (1, .d (.int .i64 a)), (2, .d (.int .i64 m)), (3, .d (.int .i64 b)), (4, .fn fv caps), (18, .d (.int .i64 d)), (19, .d (.int .i64 (d + m : Nat))), (20, .d (.int .i64 x.1)), (21, .d (.int .i64 x.2)), (22, .d (.int .i64 (d + m - 1 : Nat)))]) (fun x => (.arr 4 ys :: τ))
   (fun x => s0 ≤ x.1 ∧ x.1 ≤ x.2 ∧ x.2 ≤ r0 ∧ (s0 < x.1 → Lx (fun x y => decide (cmpF x y < 0)) xs (π (x.1 - 1)) (π (d + m - 1 - (x.1 - 1)))) ∧ (x.2 < r0 → Lx (fun x y => decide (cmpF x y < 0)) xs (π (d + m - 1 - x.2)) (π x.2))) (fun x => x.2 - x.1) (s0, r0)
   ⟨Nat.le_refl _, by simp only; omega, Nat.le_refl _, fun h => by simp only at h; omega, fun h => by simp only at h; omega⟩ ?_ ?_
  ·refine weak_sub ?_
   simp only [zS, seval, implies_true, Nat.reduceLeDiff, Nat.reduceEqDiff, reduceCtorEq, reduceIte, k2, k3]
  ·intro x hi
   obtain ⟨s, r⟩ := x
   obtain ⟨h1, h2, h3, h4, h5⟩ := hi
   simp only at h1 h2 h3 h4 h5
   by_cases hsr : s < r
   ·have q0 : ((s : Int) < r) := by omega
    have q1 : IntKind.i64.wrap ((s : Int) + r) = ((s + r : Nat) : Int) := by rw [wrap64 (by omega) (by omega)]; omega
    have q2 : IntKind.u64.wrap ((s + r : Nat) : Int) = ((s + r : Nat) : Int) := u64_in _ (by omega)
    have q3 : ((s + r : Nat) : Int).fdiv 2 = (((s + r) / 2 : Nat) : Int) := half _ (by omega)
    have q4 : IntKind.i64.wrap (((s + r) / 2 : Nat) : Int) = (((s + r) / 2 : Nat) : Int) := i64_nat _ (by omega)
    obtain ⟨c, e8, e9, e10⟩ : ∃ c, c = (s + r) / 2 ∧ s ≤ c ∧ c < r := ⟨_, rfl, by omega, by omega⟩
    rw [← e8] at q3 q4
    have q5 : IntKind.i64.wrap (((d + m - 1 : Nat) : Int) - c) = ((d + m - 1 - c : Nat) : Int) := by rw [wrap64 (by omega) (by omega)]; omega
    have lc := El.at hC.el hA.el (i := c) (by omega)
    have lp := El.at hC.el hA.el (i := d + m - 1 - c) (by omega)
    have c1 : (c : Int) < (n : Int) := by omega
    have c2 : ((d + m - 1 - c : Nat) : Int) < (n : Int) := by omega
    have c3 : c < ys.length := by omega
    have c4 : d + m - 1 - c < ys.length := by omega
    simp only [zS, seval, implies_true, Nat.reduceLeDiff, Nat.reduceEqDiff, reduceCtorEq, reduceIte, q0, q1, q2, q3, q4, q5, shr1, lc, lp, c1, c2, c3, c4]
    refine ⟨.inl (by kernel_rfl), callF_ext (v := .d (.int .i64 (cmpF (ys.getD (d + m - 1 - c) default) (ys.getD c default)))) (fun s hs => hC.call _ _ (hA.at (by omega)) (hA.at (by omega)) _ s hs) ?_⟩
    have f1 : ys.getD c default = xs.getD (π c) default := hA.get c (by omega)
    have f2 : ys.getD (d + m - 1 - c) default = xs.getD (π (d + m - 1 - c)) default := hA.get _ (by omega)
    have ht : π c < π (d + m - 1 - c) := hT _ _ (by omega) (by omega) (by omega) (by omega)
    simp only [zS, seval, implies_true, Nat.reduceLeDiff, Nat.reduceEqDiff, reduceCtorEq, reduceIte]
    refine ifC.mk (fun hc => ?_) (fun hc => ?_)
    ·have hL : Lx (fun x y => decide (cmpF x y < 0)) xs (π c) (π (d + m - 1 - c)) := (Lx.tag' ht).2 (.inl (by rw [← f1, ← f2]; simpa using hc))
     have q6 : IntKind.i64.wrap ((c : Int) + 1) = ((c + 1 : Nat) : Int) := by rw [wrap64 (by omega) (by omega)]; omega
     simp only [zS, seval, implies_true, Nat.reduceLeDiff, Nat.reduceEqDiff, reduceCtorEq, reduceIte, q6]
     refine ⟨(c + 1, r), ⟨by simp only; omega, by simp only; omega, h3, fun _ => by simp only; exact hL, h5⟩, by simp only; omega, weak_sub ?_⟩
     simp only [zS, seval, implies_true, Nat.reduceLeDiff, Nat.reduceEqDiff, reduceCtorEq, reduceIte]
    ·have hL : Lx (fun x y => decide (cmpF x y < 0)) xs (π (d + m - 1 - c)) (π c) := (Lx.tag ht).2 (by rw [← f1, ← f2]; simpa using hc)
     refine ⟨(s, c), ⟨h1, by simp only; omega, by simp only; omega, h4, fun _ => hL⟩, by simp only; omega, weak_sub ?_⟩
     simp only [zS, seval, implies_true, Nat.reduceLeDiff, Nat.reduceEqDiff, reduceCtorEq, reduceIte]
   ·have hs : s = r := by omega
    subst hs
    have q0 : ¬ ((s : Int) < s) := by omega
    have q1 : IntKind.i64.wrap (((d + m : Nat) : Int) - s) = ((d + m - s : Nat) : Int) := by rw [wrap64 (by omega) (by omega)]; omega
    obtain ⟨e, he⟩ : ∃ e, e = d + m - s := ⟨_, rfl⟩
    rw [← he] at q1
    obtain ⟨F1, F2⟩ := merge_found (p := d + m - 1) (s := s) (s0 := s0) (r0 := r0) (e := e) hC.swo hxs hπ (by omega) hS1 hS2 (by omega) h1 h3 (by omega) (by omega) (by omega) (by omega) (by omega) (by omega) (by omega) h4 h5 (by omega) (by omega)
    obtain ⟨ρ, hρ⟩ : ∃ ρ : Nat → Nat, ρ = fun p => π (rotI s m e p) := ⟨_, rfl⟩
    obtain ⟨t1, t2, t3, t4, t5, t6, t7, t8⟩ := merge_turn (ρ := ρ) (s := s) (e := e) (d := d) (by omega) (by omega) (by omega) (by omega) (by omega) hS1 hS2 hT F1 F2 (fun p _ _ => by rw [hρ]) (fun p hp => by rw [hρ]; show π (rotI s m e p) = π p; congr 1; unfold rotI; rw [if_pos (by omega)])
    by_cases hrot : s < m ∧ m < e
    ·have c1 : ((s : Int) < m) := by omega
     have c2 : ((m : Int) < e) := by omega
     simp only [zS, seval, implies_true, Nat.reduceLeDiff, Nat.reduceEqDiff, reduceCtorEq, reduceIte, q0, q1, c1, c2]
     refine callF_go ((rotate_spec Dm hC.el ys n s m e fv caps hA.el (by omega) hN hrot.1 hrot.2 (by omega)).mono fun r' s' h => ?_)
     obtain ⟨rfl, zs, rfl, hB⟩ := h
     have hZ : Arr Dm xs zs ρ := by rw [hρ]; exact hA.trans hB fun p hp => rotI_lt (by omega) (by omega) (by omega) hp
     have hρπ := t1.bound (by omega) hπ
     simp only [zS, seval, implies_true, Nat.reduceLeDiff, Nat.reduceEqDiff, reduceCtorEq, reduceIte]
     by_cases hm1 : a < s ∧ s < d
     ·have c1 : ((a : Int) < s) := by omega
      have c2 : ((s : Int) < d) := by omega
      simp only [zS, seval, implies_true, Nat.reduceLeDiff, Nat.reduceEqDiff, reduceCtorEq, reduceIte, c1, c2]
      refine callF_go ((ih a s d zs ρ (by omega) hZ hρπ hm1.1 hm1.2 (by omega) t2 t3 t6).mono fun r s' h => ?_)
      obtain ⟨rfl, ws, κ1, rfl, hW, m1, s1⟩ := h
      have hκ1 := m1.bound (by omega) hρπ
      simp only [zS, seval, implies_true, Nat.reduceLeDiff, Nat.reduceEqDiff, reduceCtorEq, reduceIte]
      by_cases hm2 : d < e ∧ e < b
      ·have c3 : ((d : Int) < e) := by omega
       have c4 : ((e : Int) < b) := by omega
       simp only [zS, seval, implies_true, Nat.reduceLeDiff, Nat.reduceEqDiff, reduceCtorEq, reduceIte, c3, c4]
       refine callF_go ((ih d e b ws κ1 (by omega) hW hκ1 hm2.1 hm2.2 hbn (fun p q q1 q2 q3 => by rw [m1.out p (by omega), m1.out q (by omega)]; exact t4 p q q1 q2 q3) (fun p q q1 q2 q3 => by rw [m1.out p (by omega), m1.out q (by omega)]; exact t5 p q q1 q2 q3) (fun p q q1 q2 q3 q4 => by rw [m1.out p (by omega), m1.out q (by omega)]; exact t7 p q q1 q2 q3 q4)).mono fun r s' h => ?_)
       obtain ⟨rfl, vs, κ2, rfl, hV, m2, s2⟩ := h
       obtain ⟨f1, f2⟩ := merge_join (by omega) (by omega) t1 m1 s1 m2 s2 t8
       simp only [zS, seval, implies_true, Nat.reduceLeDiff, Nat.reduceEqDiff, reduceCtorEq, reduceIte]
       exact ⟨_, _, WeakR.refl _ _ _, rfl, vs, κ2, rfl, hV, f1, f2⟩
      ·have c3 : (decide ((d : Int) < e) && decide ((e : Int) < b)) = false := by
        simp only [Bool.and_eq_false_iff, decide_eq_false_iff_not]
        omega
       have s2 : Sorted (fun x y => decide (cmpF x y < 0)) xs d b κ1 := fun p q q1 q2 q3 => by
        rw [m1.out p (by omega), m1.out q (by omega)]
        by_cases he : e = d
        ·exact t5 p q (by omega) q2 q3
        ·exact t4 p q q1 q2 (by omega)
       obtain ⟨f1, f2⟩ := merge_join (by omega) (by omega) t1 m1 s1 (Mv.refl d b κ1) s2 t8
       simp only [zS, seval, implies_true, Nat.reduceLeDiff, Nat.reduceEqDiff, reduceCtorEq, reduceIte, c3]
       exact ⟨_, _, WeakR.refl _ _ _, rfl, ws, κ1, rfl, hW, f1, f2⟩
     ·have c1 : (decide ((a : Int) < s) && decide ((s : Int) < d)) = false := by
       simp only [Bool.and_eq_false_iff, decide_eq_false_iff_not]
       omega
      have s1 : Sorted (fun x y => decide (cmpF x y < 0)) xs a d ρ := fun p q q1 q2 q3 => by
       by_cases he : s = a
       ·exact t3 p q (by omega) q2 q3
       ·exact t2 p q q1 q2 (by omega)
      obtain ⟨ws, κ1, hW, m1, hκ1, ew, ek⟩ : ∃ ws κ1, Arr Dm xs ws κ1 ∧ Mv a d ρ κ1 ∧ (∀ p, p < xs.length → κ1 p < xs.length) ∧ ws = zs ∧ κ1 = ρ := ⟨zs, ρ, hZ, Mv.refl _ _ _, hρπ, rfl, rfl⟩
      rw [← ek] at s1
      simp only [zS, seval, implies_true, Nat.reduceLeDiff, Nat.reduceEqDiff, reduceCtorEq, reduceIte, c1]
      rw [← ew]
      by_cases hm2 : d < e ∧ e < b
      ·have c3 : ((d : Int) < e) := by omega
       have c4 : ((e : Int) < b) := by omega
       simp only [zS, seval, implies_true, Nat.reduceLeDiff, Nat.reduceEqDiff, reduceCtorEq, reduceIte, c3, c4]
       refine callF_go ((ih d e b ws κ1 (by omega) hW hκ1 hm2.1 hm2.2 hbn (fun p q q1 q2 q3 => by rw [m1.out p (by omega), m1.out q (by omega)]; exact t4 p q q1 q2 q3) (fun p q q1 q2 q3 => by rw [m1.out p (by omega), m1.out q (by omega)]; exact t5 p q q1 q2 q3) (fun p q q1 q2 q3 q4 => by rw [m1.out p (by omega), m1.out q (by omega)]; exact t7 p q q1 q2 q3 q4)).mono fun r s' h => ?_)
       obtain ⟨rfl, vs, κ2, rfl, hV, m2, s2⟩ := h
       obtain ⟨f1, f2⟩ := merge_join (by omega) (by omega) t1 m1 s1 m2 s2 t8
       simp only [zS, seval, implies_true, Nat.reduceLeDiff, Nat.reduceEqDiff, reduceCtorEq, reduceIte]
       exact ⟨_, _, WeakR.refl _ _ _, rfl, vs, κ2, rfl, hV, f1, f2⟩
      ·have c3 : (decide ((d : Int) < e) && decide ((e : Int) < b)) = false := by
        simp only [Bool.and_eq_false_iff, decide_eq_false_iff_not]
        omega
       have s2 : Sorted (fun x y => decide (cmpF x y < 0)) xs d b κ1 := fun p q q1 q2 q3 => by
        rw [m1.out p (by omega), m1.out q (by omega)]
        by_cases he : e = d
        ·exact t5 p q (by omega) q2 q3
        ·exact t4 p q q1 q2 (by omega)
       obtain ⟨f1, f2⟩ := merge_join (by omega) (by omega) t1 m1 s1 (Mv.refl d b κ1) s2 t8
       simp only [zS, seval, implies_true, Nat.reduceLeDiff, Nat.reduceEqDiff, reduceCtorEq, reduceIte, c3]
       exact ⟨_, _, WeakR.refl _ _ _, rfl, ws, κ1, rfl, hW, f1, f2⟩
    ·have c1 : (decide ((s : Int) < m) && decide ((m : Int) < e)) = false := by
      simp only [Bool.and_eq_false_iff, decide_eq_false_iff_not]
      omega
     obtain ⟨zs, hzs⟩ : ∃ zs, zs = ys := ⟨_, rfl⟩
     have hZ : Arr Dm xs zs ρ := by
      rw [hρ, hzs]
      refine hA.congr fun p hp => ?_
      congr 1
      unfold rotI
      repeat' split
      all_goals omega
     have hρπ := t1.bound (by omega) hπ
     rw [← hzs]
     simp only [zS, seval, implies_true, Nat.reduceLeDiff, Nat.reduceEqDiff, reduceCtorEq, reduceIte, q0, q1, c1]
     by_cases hm1 : a < s ∧ s < d
     ·have c1 : ((a : Int) < s) := by omega
      have c2 : ((s : Int) < d) := by omega
      simp only [zS, seval, implies_true, Nat.reduceLeDiff, Nat.reduceEqDiff, reduceCtorEq, reduceIte, c1, c2]
      refine callF_go ((ih a s d zs ρ (by omega) hZ hρπ hm1.1 hm1.2 (by omega) t2 t3 t6).mono fun r s' h => ?_)
      obtain ⟨rfl, ws, κ1, rfl, hW, m1, s1⟩ := h
      have hκ1 := m1.bound (by omega) hρπ
      simp only [zS, seval, implies_true, Nat.reduceLeDiff, Nat.reduceEqDiff, reduceCtorEq, reduceIte]
      by_cases hm2 : d < e ∧ e < b
      ·have c3 : ((d : Int) < e) := by omega
       have c4 : ((e : Int) < b) := by omega
       simp only [zS, seval, implies_true, Nat.reduceLeDiff, Nat.reduceEqDiff, reduceCtorEq, reduceIte, c3, c4]
       refine callF_go ((ih d e b ws κ1 (by omega) hW hκ1 hm2.1 hm2.2 hbn (fun p q q1 q2 q3 => by rw [m1.out p (by omega), m1.out q (by omega)]; exact t4 p q q1 q2 q3) (fun p q q1 q2 q3 => by rw [m1.out p (by omega), m1.out q (by omega)]; exact t5 p q q1 q2 q3) (fun p q q1 q2 q3 q4 => by rw [m1.out p (by omega), m1.out q (by omega)]; exact t7 p q q1 q2 q3 q4)).mono fun r s' h => ?_)
       obtain ⟨rfl, vs, κ2, rfl, hV, m2, s2⟩ := h
       obtain ⟨f1, f2⟩ := merge_join (by omega) (by omega) t1 m1 s1 m2 s2 t8
       simp only [zS, seval, implies_true, Nat.reduceLeDiff, Nat.reduceEqDiff, reduceCtorEq, reduceIte]
       exact ⟨_, _, WeakR.refl _ _ _, rfl, vs, κ2, rfl, hV, f1, f2⟩
      ·have c3 : (decide ((d : Int) < e) && decide ((e : Int) < b)) = false := by
        simp only [Bool.and_eq_false_iff, decide_eq_false_iff_not]
        omega
       have s2 : Sorted (fun x y => decide (cmpF x y < 0)) xs d b κ1 := fun p q q1 q2 q3 => by
        rw [m1.out p (by omega), m1.out q (by omega)]
        by_cases he : e = d
        ·exact t5 p q (by omega) q2 q3
        ·exact t4 p q q1 q2 (by omega)
       obtain ⟨f1, f2⟩ := merge_join (by omega) (by omega) t1 m1 s1 (Mv.refl d b κ1) s2 t8
       simp only [zS, seval, implies_true, Nat.reduceLeDiff, Nat.reduceEqDiff, reduceCtorEq, reduceIte, c3]
       exact ⟨_, _, WeakR.refl _ _ _, rfl, ws, κ1, rfl, hW, f1, f2⟩
     ·have c1 : (decide ((a : Int) < s) && decide ((s : Int) < d)) = false := by
       simp only [Bool.and_eq_false_iff, decide_eq_false_iff_not]
       omega
      have s1 : Sorted (fun x y => decide (cmpF x y < 0)) xs a d ρ := fun p q q1 q2 q3 => by
       by_cases he : s = a
       ·exact t3 p q (by omega) q2 q3
       ·exact t2 p q q1 q2 (by omega)
      obtain ⟨ws, κ1, hW, m1, hκ1, ew, ek⟩ : ∃ ws κ1, Arr Dm xs ws κ1 ∧ Mv a d ρ κ1 ∧ (∀ p, p < xs.length → κ1 p < xs.length) ∧ ws = zs ∧ κ1 = ρ := ⟨zs, ρ, hZ, Mv.refl _ _ _, hρπ, rfl, rfl⟩
      rw [← ek] at s1
      simp only [zS, seval, implies_true, Nat.reduceLeDiff, Nat.reduceEqDiff, reduceCtorEq, reduceIte, c1]
      rw [← ew]
      by_cases hm2 : d < e ∧ e < b
      ·have c3 : ((d : Int) < e) := by omega
       have c4 : ((e : Int) < b) := by omega
       simp only [zS, seval, implies_true, Nat.reduceLeDiff, Nat.reduceEqDiff, reduceCtorEq, reduceIte, c3, c4]
       refine callF_go ((ih d e b ws κ1 (by omega) hW hκ1 hm2.1 hm2.2 hbn (fun p q q1 q2 q3 => by rw [m1.out p (by omega), m1.out q (by omega)]; exact t4 p q q1 q2 q3) (fun p q q1 q2 q3 => by rw [m1.out p (by omega), m1.out q (by omega)]; exact t5 p q q1 q2 q3) (fun p q q1 q2 q3 q4 => by rw [m1.out p (by omega), m1.out q (by omega)]; exact t7 p q q1 q2 q3 q4)).mono fun r s' h => ?_)
       obtain ⟨rfl, vs, κ2, rfl, hV, m2, s2⟩ := h
       obtain ⟨f1, f2⟩ := merge_join (by omega) (by omega) t1 m1 s1 m2 s2 t8
       simp only [zS, seval, implies_true, Nat.reduceLeDiff, Nat.reduceEqDiff, reduceCtorEq, reduceIte]
       exact ⟨_, _, WeakR.refl _ _ _, rfl, vs, κ2, rfl, hV, f1, f2⟩
      ·have c3 : (decide ((d : Int) < e) && decide ((e : Int) < b)) = false := by
        simp only [Bool.and_eq_false_iff, decide_eq_false_iff_not]
        omega
       have s2 : Sorted (fun x y => decide (cmpF x y < 0)) xs d b κ1 := fun p q q1 q2 q3 => by
        rw [m1.out p (by omega), m1.out q (by omega)]
        by_cases he : e = d
        ·exact t5 p q (by omega) q2 q3
        ·exact t4 p q q1 q2 (by omega)
       obtain ⟨f1, f2⟩ := merge_join (by omega) (by omega) t1 m1 s1 (Mv.refl d b κ1) s2 t8
       simp only [zS, seval, implies_true, Nat.reduceLeDiff, Nat.reduceEqDiff, reduceCtorEq, reduceIte, c3]
       exact ⟨_, _, WeakR.refl _ _ _, rfl, ws, κ1, rfl, hW, f1, f2⟩
 ·have c0 : ¬ ((d : Int) < m) := by omega
  have g7 : True := trivial
  simp only [zS, seval, implies_true, Nat.reduceLeDiff, Nat.reduceEqDiff, reduceCtorEq, reduceIte, e1, e2, e3, e4, g1, g2, g3, g4, g5, g6, g7, shr1, c0]
  refine loop_of (τ := Nat × Nat) (fun x => [(0, .osl 0 0 n), (1, .d (.int .i64 a)), (2, .d (.int .i64 m)), (3, .d (.int .i64 b)), (4, .fn fv caps), (18, .d (.int .i64 d)), (19, .d (.int .i64 (d + m : Nat))), (20, .d (.int .i64 x.1)), (21, .d (.int .i64 x.2)), (22, .d (.int .i64 (d + m - 1 : Nat)))]) (fun x => (.arr 4 ys :: τ))
   (fun x => s0 ≤ x.1 ∧ x.1 ≤ x.2 ∧ x.2 ≤ r0 ∧ (s0 < x.1 → Lx (fun x y => decide (cmpF x y < 0)) xs (π (x.1 - 1)) (π (d + m - 1 - (x.1 - 1)))) ∧ (x.2 < r0 → Lx (fun x y => decide (cmpF x y < 0)) xs (π (d + m - 1 - x.2)) (π x.2))) (fun x => x.2 - x.1) (s0, r0)
   ⟨Nat.le_refl _, by simp only; omega, Nat.le_refl _, fun h => by simp only at h; omega, fun h => by simp only at h; omega⟩ ?_ ?_
  ·refine weak_sub ?_
   simp only [zS, seval, implies_true, Nat.reduceLeDiff, Nat.reduceEqDiff, reduceCtorEq, reduceIte, k2, k3]
  ·intro x hi
   obtain ⟨s, r⟩ := x
   obtain ⟨h1, h2, h3, h4, h5⟩ := hi
   simp only at h1 h2 h3 h4 h5
   by_cases hsr : s < r
   ·have q0 : ((s : Int) < r) := by omega
    have q1 : IntKind.i64.wrap ((s : Int) + r) = ((s + r : Nat) : Int) := by rw [wrap64 (by omega) (by omega)]; omega
    have q2 : IntKind.u64.wrap ((s + r : Nat) : Int) = ((s + r : Nat) : Int) := u64_in _ (by omega)
    have q3 : ((s + r : Nat) : Int).fdiv 2 = (((s + r) / 2 : Nat) : Int) := half _ (by omega)
    have q4 : IntKind.i64.wrap (((s + r) / 2 : Nat) : Int) = (((s + r) / 2 : Nat) : Int) := i64_nat _ (by omega)
    obtain ⟨c, e8, e9, e10⟩ : ∃ c, c = (s + r) / 2 ∧ s ≤ c ∧ c < r := ⟨_, rfl, by omega, by omega⟩
    rw [← e8] at q3 q4
    have q5 : IntKind.i64.wrap (((d + m - 1 : Nat) : Int) - c) = ((d + m - 1 - c : Nat) : Int) := by rw [wrap64 (by omega) (by omega)]; omega
    have lc := El.at hC.el hA.el (i := c) (by omega)
    have lp := El.at hC.el hA.el (i := d + m - 1 - c) (by omega)
    have c1 : (c : Int) < (n : Int) := by omega
    have c2 : ((d + m - 1 - c : Nat) : Int) < (n : Int) := by omega
    have c3 : c < ys.length := by omega
    have c4 : d + m - 1 - c < ys.length := by omega
    simp only [zS, seval, implies_true, Nat.reduceLeDiff, Nat.reduceEqDiff, reduceCtorEq, reduceIte, q0, q1, q2, q3, q4, q5, shr1, lc, lp, c1, c2, c3, c4]
    refine ⟨.inl (by kernel_rfl), callF_ext (v := .d (.int .i64 (cmpF (ys.getD (d + m - 1 - c) default) (ys.getD c default)))) (fun s hs => hC.call _ _ (hA.at (by omega)) (hA.at (by omega)) _ s hs) ?_⟩
    have f1 : ys.getD c default = xs.getD (π c) default := hA.get c (by omega)
    have f2 : ys.getD (d + m - 1 - c) default = xs.getD (π (d + m - 1 - c)) default := hA.get _ (by omega)
    have ht : π c < π (d + m - 1 - c) := hT _ _ (by omega) (by omega) (by omega) (by omega)
    simp only [zS, seval, implies_true, Nat.reduceLeDiff, Nat.reduceEqDiff, reduceCtorEq, reduceIte]
    refine ifC.mk (fun hc => ?_) (fun hc => ?_)
    ·have hL : Lx (fun x y => decide (cmpF x y < 0)) xs (π c) (π (d + m - 1 - c)) := (Lx.tag' ht).2 (.inl (by rw [← f1, ← f2]; simpa using hc))
     have q6 : IntKind.i64.wrap ((c : Int) + 1) = ((c + 1 : Nat) : Int) := by rw [wrap64 (by omega) (by omega)]; omega
     simp only [zS, seval, implies_true, Nat.reduceLeDiff, Nat.reduceEqDiff, reduceCtorEq, reduceIte, q6]
     refine ⟨(c + 1, r), ⟨by simp only; omega, by simp only; omega, h3, fun _ => by simp only; exact hL, h5⟩, by simp only; omega, weak_sub ?_⟩
     simp only [zS, seval, implies_true, Nat.reduceLeDiff, Nat.reduceEqDiff, reduceCtorEq, reduceIte]
    ·have hL : Lx (fun x y => decide (cmpF x y < 0)) xs (π (d + m - 1 - c)) (π c) := (Lx.tag ht).2 (by rw [← f1, ← f2]; simpa using hc)
     refine ⟨(s, c), ⟨h1, by simp only; omega, by simp only; omega, h4, fun _ => hL⟩, by simp only; omega, weak_sub ?_⟩
     simp only [zS, seval, implies_true, Nat.reduceLeDiff, Nat.reduceEqDiff, reduceCtorEq, reduceIte]
   ·have hs : s = r := by omega
    subst hs
    have q0 : ¬ ((s : Int) < s) := by omega
    have q1 : IntKind.i64.wrap (((d + m : Nat) : Int) - s) = ((d + m - s : Nat) : Int) := by rw [wrap64 (by omega) (by omega)]; omega
    obtain ⟨e, he⟩ : ∃ e, e = d + m - s := ⟨_, rfl⟩
    rw [← he] at q1
    obtain ⟨F1, F2⟩ := merge_found (p := d + m - 1) (s := s) (s0 := s0) (r0 := r0) (e := e) hC.swo hxs hπ (by omega) hS1 hS2 (by omega) h1 h3 (by omega) (by omega) (by omega) (by omega) (by omega) (by omega) (by omega) h4 h5 (by omega) (by omega)
    obtain ⟨ρ, hρ⟩ : ∃ ρ : Nat → Nat, ρ = fun p => π (rotI s m e p) := ⟨_, rfl⟩
    obtain ⟨t1, t2, t3, t4, t5, t6, t7, t8⟩ := merge_turn (ρ := ρ) (s := s) (e := e) (d := d) (by omega) (by omega) (by omega) (by omega) (by omega) hS1 hS2 hT F1 F2 (fun p _ _ => by rw [hρ]) (fun p hp => by rw [hρ]; show π (rotI s m e p) = π p; congr 1; unfold rotI; rw [if_pos (by omega)])
    by_cases hrot : s < m ∧ m < e
    ·have c1 : ((s : Int) < m) := by omega
     have c2 : ((m : Int) < e) := by omega
     simp only [zS, seval, implies_true, Nat.reduceLeDiff, Nat.reduceEqDiff, reduceCtorEq, reduceIte, q0, q1, c1, c2]
     refine callF_go ((rotate_spec Dm hC.el ys n s m e fv caps hA.el (by omega) hN hrot.1 hrot.2 (by omega)).mono fun r' s' h => ?_)
     obtain ⟨rfl, zs, rfl, hB⟩ := h
     have hZ : Arr Dm xs zs ρ := by rw [hρ]; exact hA.trans hB fun p hp => rotI_lt (by omega) (by omega) (by omega) hp
     have hρπ := t1.bound (by omega) hπ
     simp only [zS, seval, implies_true, Nat.reduceLeDiff, Nat.reduceEqDiff, reduceCtorEq, reduceIte]
     by_cases hm1 : a < s ∧ s < d
     ·have c1 : ((a : Int) < s) := by omega
      have c2 : ((s : Int) < d) := by omega
      simp only [zS, seval, implies_true, Nat.reduceLeDiff, Nat.reduceEqDiff, reduceCtorEq, reduceIte, c1, c2]
      refine callF_go ((ih a s d zs ρ (by omega) hZ hρπ hm1.1 hm1.2 (by omega) t2 t3 t6).mono fun r s' h => ?_)
      obtain ⟨rfl, ws, κ1, rfl, hW, m1, s1⟩ := h
      have hκ1 := m1.bound (by omega) hρπ
      simp only [zS, seval, implies_true, Nat.reduceLeDiff, Nat.reduceEqDiff, reduceCtorEq, reduceIte]
      by_cases hm2 : d < e ∧ e < b
      ·have c3 : ((d : Int) < e) := by omega
       have c4 : ((e : Int) < b) := by omega
       simp only [zS, seval, implies_true, Nat.reduceLeDiff, Nat.reduceEqDiff, reduceCtorEq, reduceIte, c3, c4]
       refine callF_go ((ih d e b ws κ1 (by omega) hW hκ1 hm2.1 hm2.2 hbn (fun p q q1 q2 q3 => by rw [m1.out p (by omega), m1.out q (by omega)]; exact t4 p q q1 q2 q3) (fun p q q1 q2 q3 => by rw [m1.out p (by omega), m1.out q (by omega)]; exact t5 p q q1 q2 q3) (fun p q q1 q2 q3 q4 => by rw [m1.out p (by omega), m1.out q (by omega)]; exact t7 p q q1 q2 q3 q4)).mono fun r s' h => ?_)
       obtain ⟨rfl, vs, κ2, rfl, hV, m2, s2⟩ := h
       obtain ⟨f1, f2⟩ := merge_join (by omega) (by omega) t1 m1 s1 m2 s2 t8
       simp only [zS, seval, implies_true, Nat.reduceLeDiff, Nat.reduceEqDiff, reduceCtorEq, reduceIte]
       exact ⟨_, _, WeakR.refl _ _ _, rfl, vs, κ2, rfl, hV, f1, f2⟩
      ·have c3 : (decide ((d : Int) < e) && decide ((e : Int) < b)) = false := by
        simp only [Bool.and_eq_false_iff, decide_eq_false_iff_not]
        omega
       have s2 : Sorted (fun x y => decide (cmpF x y < 0)) xs d b κ1 := fun p q q1 q2 q3 => by
        rw [m1.out p (by omega), m1.out q (by omega)]
        by_cases he : e = d
        ·exact t5 p q (by omega) q2 q3
        ·exact t4 p q q1 q2 (by omega)
       obtain ⟨f1, f2⟩ := merge_join (by omega) (by omega) t1 m1 s1 (Mv.refl d b κ1) s2 t8
       simp only [zS, seval, implies_true, Nat.reduceLeDiff, Nat.reduceEqDiff, reduceCtorEq, reduceIte, c3]
       exact ⟨_, _, WeakR.refl _ _ _, rfl, ws, κ1, rfl, hW, f1, f2⟩
     ·have c1 : (decide ((a : Int) < s) && decide ((s : Int) < d)) = false := by
       simp only [Bool.and_eq_false_iff, decide_eq_false_iff_not]
       omega
      have s1 : Sorted (fun x y => decide (cmpF x y < 0)) xs a d ρ := fun p q q1 q2 q3 => by
       by_cases he : s = a
       ·exact t3 p q (by omega) q2 q3
       ·exact t2 p q q1 q2 (by omega)
      obtain ⟨ws, κ1, hW, m1, hκ1, ew, ek⟩ : ∃ ws κ1, Arr Dm xs ws κ1 ∧ Mv a d ρ κ1 ∧ (∀ p, p < xs.length → κ1 p < xs.length) ∧ ws = zs ∧ κ1 = ρ := ⟨zs, ρ, hZ, Mv.refl _ _ _, hρπ, rfl, rfl⟩
      rw [← ek] at s1
      simp only [zS, seval, implies_true, Nat.reduceLeDiff, Nat.reduceEqDiff, reduceCtorEq, reduceIte, c1]
      rw [← ew]
      by_cases hm2 : d < e ∧ e < b
      ·have c3 : ((d : Int) < e) := by omega
       have c4 : ((e : Int) < b) := by omega
       simp only [zS, seval, implies_true, Nat.reduceLeDiff, Nat.reduceEqDiff, reduceCtorEq, reduceIte, c3, c4]
       refine callF_go ((ih d e b ws κ1 (by omega) hW hκ1 hm2.1 hm2.2 hbn (fun p q q1 q2 q3 => by rw [m1.out p (by omega), m1.out q (by omega)]; exact t4 p q q1 q2 q3) (fun p q q1 q2 q3 => by rw [m1.out p (by omega), m1.out q (by omega)]; exact t5 p q q1 q2 q3) (fun p q q1 q2 q3 q4 => by rw [m1.out p (by omega), m1.out q (by omega)]; exact t7 p q q1 q2 q3 q4)).mono fun r s' h => ?_)
       obtain ⟨rfl, vs, κ2, rfl, hV, m2, s2⟩ := h
       obtain ⟨f1, f2⟩ := merge_join (by omega) (by omega) t1 m1 s1 m2 s2 t8
       simp only [zS, seval, implies_true, Nat.reduceLeDiff, Nat.reduceEqDiff, reduceCtorEq, reduceIte]
       exact ⟨_, _, WeakR.refl _ _ _, rfl, vs, κ2, rfl, hV, f1, f2⟩
      ·have c3 : (decide ((d : Int) < e) && decide ((e : Int) < b)) = false := by
        simp only [Bool.and_eq_false_iff, decide_eq_false_iff_not]
        omega
       have s2 : Sorted (fun x y => decide (cmpF x y < 0)) xs d b κ1 := fun p q q1 q2 q3 => by
        rw [m1.out p (by omega), m1.out q (by omega)]
        by_cases he : e = d
        ·exact t5 p q (by omega) q2 q3
        ·exact t4 p q q1 q2 (by omega)
       obtain ⟨f1, f2⟩ := merge_join (by omega) (by omega) t1 m1 s1 (Mv.refl d b κ1) s2 t8
       simp only [zS, seval, implies_true, Nat.reduceLeDiff, Nat.reduceEqDiff, reduceCtorEq, reduceIte, c3]
       exact ⟨_, _, WeakR.refl _ _ _, rfl, ws, κ1, rfl, hW, f1, f2⟩
    ·have c1 : (decide ((s : Int) < m) && decide ((m : Int) < e)) = false := by
      simp only [Bool.and_eq_false_iff, decide_eq_false_iff_not]
      omega
     obtain ⟨zs, hzs⟩ : ∃ zs, zs = ys := ⟨_, rfl⟩
     have hZ : Arr Dm xs zs ρ := by
      rw [hρ, hzs]
      refine hA.congr fun p hp => ?_
      congr 1
      unfold rotI
      repeat' split
      all_goals omega
     have hρπ := t1.bound (by omega) hπ
     rw [← hzs]
     simp only [zS, seval, implies_true, Nat.reduceLeDiff, Nat.reduceEqDiff, reduceCtorEq, reduceIte, q0, q1, c1]
     by_cases hm1 : a < s ∧ s < d
     ·have c1 : ((a : Int) < s) := by omega
      have c2 : ((s : Int) < d) := by omega
      simp only [zS, seval, implies_true, Nat.reduceLeDiff, Nat.reduceEqDiff, reduceCtorEq, reduceIte, c1, c2]
      refine callF_go ((ih a s d zs ρ (by omega) hZ hρπ hm1.1 hm1.2 (by omega) t2 t3 t6).mono fun r s' h => ?_)
      obtain ⟨rfl, ws, κ1, rfl, hW, m1, s1⟩ := h
      have hκ1 := m1.bound (by omega) hρπ
      simp only [zS, seval, implies_true, Nat.reduceLeDiff, Nat.reduceEqDiff, reduceCtorEq, reduceIte]
      by_cases hm2 : d < e ∧ e < b
      ·have c3 : ((d : Int) < e) := by omega
       have c4 : ((e : Int) < b) := by omega
       simp only [zS, seval, implies_true, Nat.reduceLeDiff, Nat.reduceEqDiff, reduceCtorEq, reduceIte, c3, c4]
       refine callF_go ((ih d e b ws κ1 (by omega) hW hκ1 hm2.1 hm2.2 hbn (fun p q q1 q2 q3 => by rw [m1.out p (by omega), m1.out q (by omega)]; exact t4 p q q1 q2 q3) (fun p q q1 q2 q3 => by rw [m1.out p (by omega), m1.out q (by omega)]; exact t5 p q q1 q2 q3) (fun p q q1 q2 q3 q4 => by rw [m1.out p (by omega), m1.out q (by omega)]; exact t7 p q q1 q2 q3 q4)).mono fun r s' h => ?_)
       obtain ⟨rfl, vs, κ2, rfl, hV, m2, s2⟩ := h
       obtain ⟨f1, f2⟩ := merge_join (by omega) (by omega) t1 m1 s1 m2 s2 t8
       simp only [zS, seval, implies_true, Nat.reduceLeDiff, Nat.reduceEqDiff, reduceCtorEq, reduceIte]
       exact ⟨_, _, WeakR.refl _ _ _, rfl, vs, κ2, rfl, hV, f1, f2⟩
      ·have c3 : (decide ((d : Int) < e) && decide ((e : Int) < b)) = false := by
        simp only [Bool.and_eq_false_iff, decide_eq_false_iff_not]
        omega
       have s2 : Sorted (fun x y => decide (cmpF x y < 0)) xs d b κ1 := fun p q q1 q2 q3 => by
        rw [m1.out p (by omega), m1.out q (by omega)]
        by_cases he : e = d
        ·exact t5 p q (by omega) q2 q3
        ·exact t4 p q q1 q2 (by omega)
       obtain ⟨f1, f2⟩ := merge_join (by omega) (by omega) t1 m1 s1 (Mv.refl d b κ1) s2 t8
       simp only [zS, seval, implies_true, Nat.reduceLeDiff, Nat.reduceEqDiff, reduceCtorEq, reduceIte, c3]
       exact ⟨_, _, WeakR.refl _ _ _, rfl, ws, κ1, rfl, hW, f1, f2⟩
     ·have c1 : (decide ((a : Int) < s) && decide ((s : Int) < d)) = false := by
       simp only [Bool.and_eq_false_iff, decide_eq_false_iff_not]
       omega
      have s1 : Sorted (fun x y => decide (cmpF x y < 0)) xs a d ρ := fun p q q1 q2 q3 => by
       by_cases he : s = a
       ·exact t3 p q (by omega) q2 q3
       ·exact t2 p q q1 q2 (by omega)
      obtain ⟨ws, κ1, hW, m1, hκ1, ew, ek⟩ : ∃ ws κ1, Arr Dm xs ws κ1 ∧ Mv a d ρ κ1 ∧ (∀ p, p < xs.length → κ1 p < xs.length) ∧ ws = zs ∧ κ1 = ρ := ⟨zs, ρ, hZ, Mv.refl _ _ _, hρπ, rfl, rfl⟩
      rw [← ek] at s1
      simp only [zS, seval, implies_true, Nat.reduceLeDiff, Nat.reduceEqDiff, reduceCtorEq, reduceIte, c1]
      rw [← ew]
      by_cases hm2 : d < e ∧ e < b
      ·have c3 : ((d : Int) < e) := by omega
       have c4 : ((e : Int) < b) := by omega
       simp only [zS, seval, implies_true, Nat.reduceLeDiff, Nat.reduceEqDiff, reduceCtorEq, reduceIte, c3, c4]
       refine callF_go ((ih d e b ws κ1 (by omega) hW hκ1 hm2.1 hm2.2 hbn (fun p q q1 q2 q3 => by rw [m1.out p (by omega), m1.out q (by omega)]; exact t4 p q q1 q2 q3) (fun p q q1 q2 q3 => by rw [m1.out p (by omega), m1.out q (by omega)]; exact t5 p q q1 q2 q3) (fun p q q1 q2 q3 q4 => by rw [m1.out p (by omega), m1.out q (by omega)]; exact t7 p q q1 q2 q3 q4)).mono fun r s' h => ?_)
       obtain ⟨rfl, vs, κ2, rfl, hV, m2, s2⟩ := h
       obtain ⟨f1, f2⟩ := merge_join (by omega) (by omega) t1 m1 s1 m2 s2 t8
       simp only [zS, seval, implies_true, Nat.reduceLeDiff, Nat.reduceEqDiff, reduceCtorEq, reduceIte]
       exact ⟨_, _, WeakR.refl _ _ _, rfl, vs, κ2, rfl, hV, f1, f2⟩
      ·have c3 : (decide ((d : Int) < e) && decide ((e : Int) < b)) = false := by
        simp only [Bool.and_eq_false_iff, decide_eq_false_iff_not]
        omega
       have s2 : Sorted (fun x y => decide (cmpF x y < 0)) xs d b κ1 := fun p q q1 q2 q3 => by
        rw [m1.out p (by omega), m1.out q (by omega)]
        by_cases he : e = d
        ·exact t5 p q (by omega) q2 q3
        ·exact t4 p q q1 q2 (by omega)
       obtain ⟨f1, f2⟩ := merge_join (by omega) (by omega) t1 m1 s1 (Mv.refl d b κ1) s2 t8
       simp only [zS, seval, implies_true, Nat.reduceLeDiff, Nat.reduceEqDiff, reduceCtorEq, reduceIte, c3]
       exact ⟨_, _, WeakR.refl _ _ _, rfl, ws, κ1, rfl, hW, f1, f2⟩

theorem merge_spec (Dm : D → Prop) (cmpF : D → D → Int) (fv : FuncId) (caps : List AV) (hC : CmpOk Gl τ Dm cmpF fv caps) (xs : List D) (hxs : ∀ y ∈ xs, Dm y) (n : Nat) (hn : n ≤ xs.length) (hN : n < 1000000) :
  ∀ (N a m b : Nat) (ys : List D) (π : Nat → Nat), b - a ≤ N → Arr Dm xs ys π → (∀ p, p < xs.length → π p < xs.length) → a < m → m < b → b ≤ n → Sorted (fun x y => decide (cmpF x y < 0)) xs a m π → Sorted (fun x y => decide (cmpF x y < 0)) xs m b π → Tags a m b π →
   ACalls Tryd.prog Gl 72 [.osl 0 0 n, .d (.int .i64 a), .d (.int .i64 m), .d (.int .i64 b), .fn fv caps] (.arr 4 ys :: τ) (Merged τ Dm cmpF xs a b π) := by
 intro N
 induction N with
 | zero => intro a m b ys π h1 _ _ h2 h3; omega
 | succ N ih =>
  intro a m b ys π h1 hA hπ ham hmb hbn hS1 hS2 hT
  by_cases hb : m = a + 1 ∨ b = m + 1
  ·exact merge_base Dm cmpF fv caps hC xs hxs n hn hN a m b ys π hA hπ ham hmb hbn hS1 hS2 hT hb
  ·exact merge_gen Dm cmpF fv caps hC xs hxs n hn hN a m b ys π hA hπ ham hmb hbn hS1 hS2 hT (by omega) (by omega) fun a' m' b' ys' π' q1 => ih a' m' b' ys' π' (by omega)
def Stabled (τ : Sto) (Dm : D → Prop) (cmpF : D → D → Int) (xs : List D) (n : Nat) (s : Sto) : Prop :=
 ∃ zs ρ, s = (.arr 4 zs :: τ) ∧ Arr Dm xs zs ρ ∧ Blo (fun x y => decide (cmpF x y < 0)) xs 0 n ρ ∧ (∀ p, n ≤ p → ρ p = p)
theorem stable_spec (Dm : D → Prop) (cmpF : D → D → Int) (fv : FuncId) (caps : List AV) (hC : CmpOk Gl τ Dm cmpF fv caps) (xs : List D) (hxs : ∀ y ∈ xs, Dm y) (n : Nat) (hn : n ≤ xs.length) (hN : n < 1000000) :
  ACalls Tryd.prog Gl 57 [.osl 0 0 n, .d (.int .i64 n), .fn fv caps] (.arr 4 xs :: τ) (fun r s => r = .tup [] ∧ Stabled τ Dm cmpF xs n s) := by
 refine acalls_of Tryd.func57 rfl rfl (by simp [Tryd.ntmps57]) (evC_sound rfl _ _ _ _ ?_)
 simp only [Tryd.ntmps57, Tryd.results57, argEnv, List.length_nil]
 simp only [zS, seval, implies_true, Nat.reduceLeDiff, Nat.reduceEqDiff, reduceCtorEq, reduceIte]
 refine loop_of (τ := Nat × List D) (fun x => [(0, .osl 0 0 n), (1, .d (.int .i64 n)), (2, .fn fv caps), (6, .d (.int .i64 20)), (7, .d (.int .i64 x.1)), (8, .d (.int .i64 (x.1 + 20 : Nat)))]) (fun x => (.arr 4 x.2 :: τ))
  (fun x => Cut 20 x.1 ∧ x.1 ≤ n ∧ ∃ ρ, Arr Dm xs x.2 ρ ∧ Blks (fun x y => decide (cmpF x y < 0)) xs 20 n 0 x.1 ρ ∧ (∀ p, x.1 ≤ p → ρ p = p) ∧ (∀ p, p < xs.length → ρ p < xs.length)) (fun x => n - x.1) (0, xs)
  ⟨Cut.zero _, Nat.zero_le _, fun i => i, Arr.refl hxs, fun c _ h1 h2 => by simp only at h2; omega, fun _ _ => rfl, fun _ h => h⟩ ?_ ?_
 ·refine weak_sub ?_
  simp only [zS, seval, implies_true, Nat.reduceLeDiff, Nat.reduceEqDiff, reduceCtorEq, reduceIte]
  all_goals rfl
 ·intro x hi
  obtain ⟨a, ys⟩ := x
  obtain ⟨h1, h2, ρ, hA, hB, hid, hbd⟩ := hi
  simp only at h1 h2 hA hB hid
  have hl := hA.len
  by_cases h : a + 20 ≤ n
  ·have c1 : ((a + 20 : Nat) : Int) ≤ n := by omega
   simp only [zS, seval, implies_true, Nat.reduceLeDiff, Nat.reduceEqDiff, reduceCtorEq, reduceIte, c1]
   refine callF_go ((insertion_spec Dm cmpF fv caps hC xs ys hxs n a (a + 20) ρ hA hbd hn hN (by omega) h (fun p q p1 p2 p3 => by rw [hid p p1, hid q (by omega)]; exact p2)).mono fun r s h => ?_)
   obtain ⟨rfl, zs, κ, rfl, hZ, hM, hS⟩ := h
   obtain ⟨b1, b2⟩ := blks_step (n := n) (by omega) h1 (show a + 20 = min (a + 20) n by omega) hB hid hM hS
   have e1 : IntKind.i64.wrap (((a + 20 : Nat) : Int) + 20) = ((a + 20 + 20 : Nat) : Int) := by rw [wrap64 (by omega) (by omega)]; omega
   simp only [zS, seval, implies_true, Nat.reduceLeDiff, Nat.reduceEqDiff, reduceCtorEq, reduceIte, e1]
   refine ⟨(a + 20, zs), ⟨h1.next, h, κ, hZ, blks_more h1 b1 (Nat.le_refl _), fun p hp => b2 p hp (by simp only at hp; omega), hM.bound (by omega) hbd⟩, by simp only; omega, weak_sub ?_⟩
   simp only [zS, seval, implies_true, Nat.reduceLeDiff, Nat.reduceEqDiff, reduceCtorEq, reduceIte]
  ·have c1 : ¬ ((a + 20 : Nat) : Int) ≤ n := by omega
   simp only [zS, seval, implies_true, Nat.reduceLeDiff, Nat.reduceEqDiff, reduceCtorEq, reduceIte, c1]
   refine callF_go ((insertion_spec Dm cmpF fv caps hC xs ys hxs n a n ρ hA hbd hn hN h2 (Nat.le_refl _) (fun p q p1 p2 p3 => by rw [hid p p1, hid q (by omega)]; exact p2)).mono fun r s h => ?_)
   obtain ⟨rfl, us, κ, rfl, hU, hM, hS⟩ := h
   obtain ⟨b1, b2⟩ := blks_step (n := n) (by omega) h1 (show n = min (a + 20) n by omega) hB hid hM hS
   have hbd := hM.bound (by omega) hbd
   have b3 := blks_more (a' := n) h1 b1 (by omega)
   have b2 : ∀ p, n ≤ p → κ p = p := fun p hp => b2 p hp (by omega)
   clear hB hid hA
   simp only [zS, seval, implies_true, Nat.reduceLeDiff, Nat.reduceEqDiff, reduceCtorEq, reduceIte]
   refine loop_of (τ := Nat × List D) (fun x => [(0, .osl 0 0 n), (1, .d (.int .i64 n)), (2, .fn fv caps), (6, .d (.int .i64 x.1))]) (fun x => (.arr 4 x.2 :: τ))
    (fun x => 0 < x.1 ∧ (x.1 ≤ 20 ∨ x.1 < 2 * n) ∧ ∃ ρ, Arr Dm xs x.2 ρ ∧ Blks (fun x y => decide (cmpF x y < 0)) xs x.1 n 0 n ρ ∧ (∀ p, n ≤ p → ρ p = p) ∧ (∀ p, p < xs.length → ρ p < xs.length)) (fun x => n - x.1) (20, us)
    ⟨by simp only; omega, .inl (Nat.le_refl _), κ, hU, b3, b2, hbd⟩ ?_ ?_
   ·refine weak_sub ?_
    simp only [zS, seval, implies_true, Nat.reduceLeDiff, Nat.reduceEqDiff, reduceCtorEq, reduceIte]
    all_goals rfl
   ·clear b1 b2 b3 hU hbd hM hS
    intro x hi
    obtain ⟨s, ys⟩ := x
    obtain ⟨h3, h4, ρ, hA, hB, hid, hbd⟩ := hi
    simp only at h3 h4 hA hB
    have hl := hA.len
    by_cases h : s < n
    ·have c1 : (s : Int) < n := by omega
     have e1 : IntKind.i64.wrap (2 * (s : Int)) = ((2 * s : Nat) : Int) := by rw [wrap64 (by omega) (by omega)]; omega
     simp only [zS, seval, implies_true, Nat.reduceLeDiff, Nat.reduceEqDiff, reduceCtorEq, reduceIte, c1, e1]
     refine loop_of (τ := Nat × List D) (fun x => [(0, .osl 0 0 n), (1, .d (.int .i64 n)), (2, .fn fv caps), (6, .d (.int .i64 s)), (7, .d (.int .i64 x.1)), (8, .d (.int .i64 (x.1 + 2 * s : Nat)))]) (fun x => (.arr 4 x.2 :: τ))
      (fun x => Cut (2 * s) x.1 ∧ x.1 ≤ n ∧ ∃ ρ, Arr Dm xs x.2 ρ ∧ Blks (fun x y => decide (cmpF x y < 0)) xs s n x.1 n ρ ∧ Blks (fun x y => decide (cmpF x y < 0)) xs (2 * s) n 0 x.1 ρ ∧ (∀ p, n ≤ p → ρ p = p) ∧ (∀ p, p < xs.length → ρ p < xs.length)) (fun x => n - x.1) (0, ys)
      ⟨Cut.zero _, Nat.zero_le _, ρ, hA, hB, fun c _ h1 h2 => by simp only at h2; omega, hid, hbd⟩ ?_ ?_
     ·refine weak_sub ?_
      simp only [zS, seval, implies_true, Nat.reduceLeDiff, Nat.reduceEqDiff, reduceCtorEq, reduceIte]
      all_goals rfl
     ·clear hA hB hid hbd hl
      intro x hi
      obtain ⟨a, ys⟩ := x
      obtain ⟨h5, h6, ρ, hA, hB, hD, hid, hbd⟩ := hi
      simp only at h5 h6 hA hB hD
      have hl := hA.len
      have e2 : IntKind.i64.wrap ((a : Int) + s) = ((a + s : Nat) : Int) := by rw [wrap64 (by omega) (by omega)]; omega
      by_cases h : a + 2 * s ≤ n
      ·have c1 : ((a + 2 * s : Nat) : Int) ≤ n := by omega
       have hb : a + 2 * s = min (a + 2 * s) n := by omega
       obtain ⟨m1, m2, m3, m4⟩ := merge_pre (b := a + 2 * s) h5 h3 (by omega) hb hB
       simp only [zS, seval, implies_true, Nat.reduceLeDiff, Nat.reduceEqDiff, reduceCtorEq, reduceIte, c1, e2]
       refine callF_go ((merge_spec Dm cmpF fv caps hC xs hxs n hn hN _ a (a + s) (a + 2 * s) ys ρ (Nat.le_refl _) hA hbd (by omega) (by omega) h m1 m2 m3).mono fun r st hh => ?_)
       obtain ⟨rfl, zs, κ, rfl, hZ, hM, hS⟩ := hh
       obtain ⟨q1, q2⟩ := merge_step h5 h3 (by omega) hb hB hD hM hS
       have e3 : IntKind.i64.wrap (((a + 2 * s : Nat) : Int) + ((2 * s : Nat) : Int)) = ((a + 2 * s + 2 * s : Nat) : Int) := by rw [wrap64 (by omega) (by omega)]; omega
       simp only [zS, seval, implies_true, Nat.reduceLeDiff, Nat.reduceEqDiff, reduceCtorEq, reduceIte, e1, e3]
       refine ⟨(a + 2 * s, zs), ⟨h5.next, h, κ, hZ, q1, blks_more h5 q2 (Nat.le_refl _), fun p hp => by rw [hM.out p (by omega)]; exact hid p hp, hM.bound (by omega) hbd⟩, by simp only; omega, weak_sub ?_⟩
       simp only [zS, seval, implies_true, Nat.reduceLeDiff, Nat.reduceEqDiff, reduceCtorEq, reduceIte]
      ·have c1 : ¬ ((a + 2 * s : Nat) : Int) ≤ n := by omega
       by_cases hm : a + s < n
       ·have c2 : ((a + s : Nat) : Int) < n := by omega
        have hb : n = min (a + 2 * s) n := by omega
        obtain ⟨m1, m2, m3, m4⟩ := merge_pre (b := n) h5 h3 (by omega) hb hB
        simp only [zS, seval, implies_true, Nat.reduceLeDiff, Nat.reduceEqDiff, reduceCtorEq, reduceIte, c1, c2, e2]
        refine callF_go ((merge_spec Dm cmpF fv caps hC xs hxs n hn hN _ a (a + s) n ys ρ (Nat.le_refl _) hA hbd (by omega) (by omega) (Nat.le_refl _) m1 m2 m3).mono fun r st hh => ?_)
        obtain ⟨rfl, zs, κ, rfl, hZ, hM, hS⟩ := hh
        obtain ⟨q1, q2⟩ := merge_step h5 h3 (by omega) hb hB hD hM hS
        have e3 : IntKind.i64.wrap ((s : Int) * 2) = ((2 * s : Nat) : Int) := by rw [wrap64 (by omega) (by omega)]; omega
        simp only [zS, seval, implies_true, Nat.reduceLeDiff, Nat.reduceEqDiff, reduceCtorEq, reduceIte, e3]
        refine ⟨(2 * s, zs), ⟨by simp only; omega, .inr (by simp only; omega), κ, hZ, blks_more h5 q2 (by omega), fun p hp => by rw [hM.out p (by omega)]; exact hid p hp, hM.bound (by omega) hbd⟩, by simp only; omega, weak_sub ?_⟩
        simp only [zS, seval, implies_true, Nat.reduceLeDiff, Nat.reduceEqDiff, reduceCtorEq, reduceIte]
       ·have c2 : ¬ ((a + s : Nat) : Int) < n := by omega
        have e3 : IntKind.i64.wrap ((s : Int) * 2) = ((2 * s : Nat) : Int) := by rw [wrap64 (by omega) (by omega)]; omega
        simp only [zS, seval, implies_true, Nat.reduceLeDiff, Nat.reduceEqDiff, reduceCtorEq, reduceIte, c1, c2, e2, e3]
        refine ⟨(2 * s, ys), ⟨by simp only; omega, .inr (by simp only; omega), ρ, hA, merge_alone h5 h3 (by omega) hB hD, hid, hbd⟩, by simp only; omega, weak_sub ?_⟩
        simp only [zS, seval, implies_true, Nat.reduceLeDiff, Nat.reduceEqDiff, reduceCtorEq, reduceIte]
    ·have c1 : ¬ (s : Int) < n := by omega
     simp only [zS, seval, implies_true, Nat.reduceLeDiff, Nat.reduceEqDiff, reduceCtorEq, reduceIte, c1]
     exact ⟨_, _, WeakR.refl _ _ _, rfl, ys, ρ, rfl, hA, blks_done (by omega) hB, hid⟩
theorem sortStable_spec (Dm : D → Prop) (cmpF : D → D → Int) (fv : FuncId) (caps : List AV) (hC : CmpOk Gl τ Dm cmpF fv caps) (xs : List D) (hxs : ∀ y ∈ xs, Dm y) (n : Nat) (hn : n ≤ xs.length) (hN : n < 1000000) :
  ACalls Tryd.prog Gl 30 [.osl 0 0 n, .fn fv caps] (.arr 4 xs :: τ) (fun r s => r = .tup [] ∧ Stabled τ Dm cmpF xs n s) := by
 refine acalls_of Tryd.func30 rfl rfl (by simp [Tryd.ntmps30]) (evC_sound rfl _ _ _ _ ?_)
 simp only [Tryd.ntmps30, Tryd.results30, argEnv, List.length_nil]
 simp only [zS, seval, implies_true, Nat.reduceLeDiff, Nat.reduceEqDiff, reduceCtorEq, reduceIte]
 refine callF_go ((stable_spec Dm cmpF fv caps hC xs hxs n hn hN).mono fun r s h => ?_)
 obtain ⟨rfl, h⟩ := h
 simp only [zS, seval, implies_true, Nat.reduceLeDiff, Nat.reduceEqDiff, reduceCtorEq, reduceIte]
 exact ⟨_, _, WeakR.refl _ _ _, rfl, h⟩
end YtmedpoeeoihfmaaDoor
end Go.Proofs

set_option maxRecDepth 100000
namespace Go.Proofs
open Go.AM
namespace YtmedpoeeoihfmaaDoor
variable {Gl : Globs}
def ordP (x y : PartT) : Int := cmpS (absF y.value) (absF x.value)
theorem k_top1 (x y : PartT) (hx : x.value.In) (hy : y.value.In) : Pure Tryd.prog Gl 31 [.d x.toD, .d y.toD] (.d (.int .i64 (ordP x y))) := by
 refine Pure.of2 ?_
 refine acalls_of Tryd.func31 rfl rfl (by simp [Tryd.ntmps31]) (evC_sound rfl _ _ _ _ ?_)
 simp only [Tryd.ntmps31, Tryd.results31, argEnv, List.length_nil]
 simp only [zP, seval, implies_true, Nat.reduceLeDiff, Nat.reduceEqDiff, reduceCtorEq, reduceIte, intD]
 repeat ((with_reducible refine And.intro ?_ ?_); (focus (first | omega | (simp only [lenR]; omega) | (refine qq ?_; rfl) | (refine dq ?_; kernel_rfl) | (intros; simp_all; done))))
 refine callF_pure (k_abs y.value) ?_
 simp only [zP, seval, implies_true, Nat.reduceLeDiff, Nat.reduceEqDiff, reduceCtorEq, reduceIte, intD]
 repeat ((with_reducible refine And.intro ?_ ?_); (focus (first | omega | (simp only [lenR]; omega) | (refine qq ?_; rfl) | (refine dq ?_; kernel_rfl) | (intros; simp_all; done))))
 refine callF_pure (k_abs x.value) ?_
 simp only [zP, seval, implies_true, Nat.reduceLeDiff, Nat.reduceEqDiff, reduceCtorEq, reduceIte, intD]
 repeat ((with_reducible refine And.intro ?_ ?_); (focus (first | omega | (simp only [lenR]; omega) | (refine qq ?_; rfl) | (refine dq ?_; kernel_rfl) | (intros; simp_all; done))))
 refine callF_pure (c22 (absF y.value) (absF x.value) (absF_in hy) (absF_in hx)) ?_
 simp only [zP, seval, implies_true, Nat.reduceLeDiff, Nat.reduceEqDiff, reduceCtorEq, reduceIte, intD]
 repeat ((with_reducible refine And.intro ?_ ?_); (focus (first | omega | (simp only [lenR]; omega) | (refine qq ?_; rfl) | (refine dq ?_; kernel_rfl) | (intros; simp_all; done))))
 exact ⟨_, _, ret_d, rfl, rfl⟩
def DmP (d : D) : Prop := ∃ x : PartT, d = x.toD ∧ x.value.In
def unP (d : D) : FracT := match d with | .agg [_, _, .int _ n, .int _ q] => ⟨n, q⟩ | _ => ⟨0, 0⟩
def cmpP (a b : D) : Int := cmpS (absF (unP b)) (absF (unP a))
theorem swoP : Swo DmP (fun x y => decide (cmpP x y < 0)) := by
 have hb : ∀ a b, -1 ≤ cmpS a b ∧ cmpS a b ≤ 1 := fun a b => by rw [cmp_sgn]; exact sgn_bd _
 refine ⟨fun x _ => ?_, fun x y z _ _ _ h1 h2 => ?_, fun x y z _ _ _ h1 h2 => ?_⟩
 ·rw [cmpP, cmp_self]; rfl
 ·have h1 : cmpS (absF (unP y)) (absF (unP x)) < 0 := of_decide_eq_true h1
  have h2 : cmpS (absF (unP z)) (absF (unP y)) < 0 := of_decide_eq_true h2
  refine decide_eq_true (show cmpS (absF (unP z)) (absF (unP x)) < 0 from ?_)
  have f1 := cmp_flip (absF (unP y)) (absF (unP x))
  have f2 := cmp_flip (absF (unP z)) (absF (unP y))
  have f3 := cmp_flip (absF (unP z)) (absF (unP x))
  have t1 := cmp_trans (a := absF (unP z)) (b := absF (unP y)) (c := absF (unP x)) (by omega) (by omega)
  by_cases e : cmpS (absF (unP z)) (absF (unP x)) = 0
  ·exfalso
   have t2 := cmp_trans (a := absF (unP x)) (b := absF (unP z)) (c := absF (unP y)) (by omega) (by omega)
   omega
  ·omega
 ·have h1 : ¬ cmpS (absF (unP y)) (absF (unP x)) < 0 := of_decide_eq_false h1
  have h2 : ¬ cmpS (absF (unP z)) (absF (unP y)) < 0 := of_decide_eq_false h2
  refine decide_eq_false (show ¬ cmpS (absF (unP z)) (absF (unP x)) < 0 from ?_)
  have f1 := cmp_flip (absF (unP y)) (absF (unP x))
  have f2 := cmp_flip (absF (unP z)) (absF (unP y))
  have f3 := cmp_flip (absF (unP z)) (absF (unP x))
  have t1 := cmp_trans (a := absF (unP x)) (b := absF (unP y)) (c := absF (unP z)) (by omega) (by omega)
  omega
theorem cmpOkP : CmpOk Gl [] DmP cmpP 31 [] := by
 refine ⟨fun d hd => ?_, fun a b ha hb ys s hs => ?_, swoP⟩
 ·obtain ⟨x, rfl, _⟩ := hd
  exact ⟨rfl, rfl⟩
 ·obtain ⟨x, rfl, hx⟩ := ha
  obtain ⟨y, rfl, hy⟩ := hb
  exact k_top1 x y hx hy s
def topL (l : List PartT) : List PartT := sortF (fun x y => decide (ordP x y < 0)) l
theorem k_Clone (l : List PartT) (hl : l.length ≤ 100000) : ACalls Tryd.prog Gl 29 [.d (.sl (l.map PartT.toD))] [] (fun r s => r = .osl 0 0 l.length ∧ s = [.arr 4 (l.map PartT.toD)]) := by
 cases l with
 | nil =>
  refine acalls_of Tryd.func29 rfl rfl (by simp [Tryd.ntmps29]) (evC_sound rfl _ _ _ _ ?_)
  simp only [Tryd.ntmps29, Tryd.results29, argEnv, List.length_nil]
  simp only [zP, seval, implies_true, Nat.reduceLeDiff, Nat.reduceEqDiff, reduceCtorEq, reduceIte, intD]
  refine ⟨⟨_, _, weakR_nils 4 (Nat.le_refl 0), rfl, rfl⟩, ?_⟩
  exact ⟨_, _, weakR_to [] [1] rfl (by simp) rfl rfl, rfl, rfl⟩
 | cons r rs =>
  simp only [List.map_cons, List.length_cons] at hl ⊢
  refine acalls_of Tryd.func29 rfl rfl (by simp [Tryd.ntmps29]) (evC_sound rfl _ _ _ _ ?_)
  simp only [Tryd.ntmps29, Tryd.results29, argEnv, List.length_nil]
  simp only [zP, seval, implies_true, Nat.reduceLeDiff, Nat.reduceEqDiff, reduceCtorEq, reduceIte, intD]
  repeat ((with_reducible refine And.intro ?_ ?_); (focus (first | omega | (simp only [lenR]; omega) | (refine qq ?_; rfl) | (refine dq ?_; kernel_rfl) | (intros; simp_all; done))))
  exact ⟨_, _, weakR_to [] [1] rfl (by simp) rfl (by simp [renS, renB, blkAt, freezeL]; try rfl), rfl, rfl⟩
end YtmedpoeeoihfmaaDoor
end Go.Proofs

set_option maxRecDepth 100000
namespace Go.Proofs
open Go.AM
namespace YtmedpoeeoihfmaaDoor
theorem checkF_le {l : List NodeT} (h : checkF l = 0) (i : Nat) (hi : i < l.length) : NdV (l.getD i default) := by
 have hrf := (checkF_ok h).2.1
 have h2 : firstErr (fun k => nodeE (l.getD k default)) l.length = 0 := by
  unfold rangesF at hrf
  by_cases h3 : firstErr (fun k => nodeE (l.getD k default)) l.length = 0
  ·exact h3
  ·rw [if_neg h3] at hrf; exact absurd hrf h3
 obtain ⟨_, h3, h4, h5, h6, h7⟩ := nodeE_ok (firstErr_zero h2 i hi)
 exact ⟨⟨h5, h6, h3, h4⟩, h7⟩
theorem ndV_zero : NdV (⟨0, [], 0, 0, 0⟩ : NodeT) := ⟨⟨by decide, by decide, by decide, by decide⟩, fun _ => rfl⟩
theorem ndV_at {l : List NodeT} (h : checkF l = 0) (i : Int) (hi : i < l.length) : NdV (ndAt l i) := by
 unfold ndAt
 split
 ·exact ndV_zero
 ·exact checkF_le h i.toNat (by omega)
theorem nd_self (l : List NodeT) (i : Int) : (ndAt l i).self = wA (sf l) i := by
 unfold ndAt wA
 split <;> rfl
theorem nd_count {l : List NodeT} {i : Int} (hi : i < l.length) (h : 1 ≤ (ndAt l i).count) : ∃ x ∈ l, x.count = (ndAt l i).count := by
 unfold ndAt at h ⊢
 split at h
 ·simp only at h; omega
 ·rename_i h0
  rw [if_neg h0]
  exact ⟨_, mem_getD (by omega), rfl⟩
def inP (a b : List NodeT) (p : PairT) : Prop := -1 ≤ p.a ∧ p.a < a.length ∧ -1 ≤ p.b ∧ p.b < b.length ∧ (0 ≤ p.a ∨ 0 ≤ p.b)
theorem pairs_in {a b : List NodeT} (hm : Mut a.length b.length (finS a b)) : ∀ p ∈ pairsOf a b, inP a b p := by
 intro p hp
 rw [pairsOf] at hp
 rcases List.mem_append.1 hp with hp | hp
 ·obtain ⟨i, hi, rfl⟩ := List.mem_map.1 hp
  have hi := List.mem_range.1 hi
  have hr := hm.rb i
  exact ⟨by simp only; omega, by simp only; omega, hr.1, hr.2, .inl (by simp only; omega)⟩
 ·obtain ⟨k, hk, rfl⟩ := List.mem_map.1 hp
  have hk := List.mem_range.1 (List.mem_filter.1 hk).1
  exact ⟨by simp only; omega, by simp only; omega, by simp only; omega, by simp only; omega, .inr (by simp only; omega)⟩
theorem cont_num {a b : List NodeT} (hca : checkF a = 0) (hcb : checkF b = 0) {m : Nat} : ∀ {l : List PairT}, (∀ p ∈ l, inP a b p) → (∀ v ∈ contL a b l, v.value.n ≠ 0 → v.value.q.natAbs ∣ m) →
  numF m ((contL a b l).map PartT.value) = (l.map fun p => wA (sf b) p.b - wA (sf a) p.a).sum * m
 | [], _, _ => by simp [contL, numF]
 | p :: l, hp, hq => by
  obtain ⟨_, h2, _, h4, _⟩ := hp p List.mem_cons_self
  have ih := cont_num (l := l) hca hcb (fun q hq => hp q (List.mem_cons_of_mem _ hq)) (fun v hv => hq v (by
   rw [contL, List.flatMap_cons]; exact List.mem_append_right _ hv))
  rw [contL, List.flatMap_cons, List.map_append, num_append, List.map_cons, List.sum_cons, Int.add_mul]
  rw [contL] at ih
  rw [ih]
  congr 1
  rw [← nd_self, ← nd_self]
  exact parts_sum (ndV_at hca p.a h2) (ndV_at hcb p.b h4) (pthP a b p) (fun v hv => hq v (by
   rw [contL, List.flatMap_cons]; exact List.mem_append_left _ hv))
theorem cont_ok {a b : List NodeT} (hca : checkF a = 0) (hcb : checkF b = 0) {l : List PairT} (hl : ∀ p ∈ l, inP a b p) : ∀ v ∈ contL a b l, okF v.value = true ∧ (∃ p ∈ l, v.path = pthP a b p) ∧ (v.value.q.natAbs ∣ 1 ∨ ∃ x ∈ a, 1 ≤ x.count ∧ v.value.q.natAbs ∣ x.count.natAbs) := by
 intro v hv
 obtain ⟨p, hp, hv⟩ := List.mem_flatMap.1 hv
 obtain ⟨_, h2, _, h4, _⟩ := hl p hp
 obtain ⟨g1, g2, g3⟩ := parts_ok (ndV_at hca p.a h2) (ndV_at hcb p.b h4) (pthP a b p) v hv
 refine ⟨g1, ⟨p, hp, g2⟩, ?_⟩
 rcases g3 with g3 | ⟨g3, g4⟩
 ·exact .inl g3
 ·obtain ⟨x, hx, e⟩ := nd_count h2 g3
  exact .inr ⟨x, hx, by omega, by rw [e]; exact g4⟩
theorem parts_len (x y : NodeT) (path : List (List UInt8)) : (partsF x y path).length ≤ 2 := by
 unfold partsF
 split
 ·exact Nat.le_refl _
 ·rw [List.length_append]
  split <;> split <;> simp
theorem cont_len (a b : List NodeT) (l : List PairT) : (contL a b l).length ≤ 2 * l.length := by
 induction l with
 | nil => exact Nat.le_refl _
 | cons p l ih =>
  rw [contL, List.flatMap_cons, List.length_append, List.length_cons]
  have := parts_len (ndAt a p.a) (ndAt b p.b) (pthP a b p)
  rw [contL] at ih
  unfold contP at ih ⊢
  omega
theorem pairs_le {a b : List NodeT} : (pairsOf a b).length ≤ a.length + b.length := by
 rw [pairsOf, List.length_append, pairsA_len]
 have := pairsB_len (finS a b) b.length
 omega
theorem sum_pairs {a b : List NodeT} (hca : checkF a = 0) (hcb : checkF b = 0) (hcm : comN a 1 = true) {l : List PairT} (hl : ∀ p ∈ l, inP a b p) (hn : l.length ≤ 1000) {V : Int}
  (hV : (l.map fun p => wA (sf b) p.b - wA (sf a) p.a).sum = V) (h1 : -4611686018427387904 ≤ V) (h2 : V ≤ 4611686018427387904) : sumL (((contL a b l).filter keepP).map PartT.value) = (⟨V, 1⟩, true) := by
 obtain ⟨M, m1, m2, _, m4⟩ := comN_spec (by omega) (by omega) hcm
 have hc := cont_ok hca hcb hl
 have hlen := cont_len a b l
 have hfl := List.length_filter_le keepP (contL a b l)
 refine sum_whole (M := M) (by rw [List.length_map]; omega) (fun f hf => ?_) m2 m1 (fun f hf => ?_) (fun m hm => ?_) h1 h2
 ·obtain ⟨v, hv, rfl⟩ := List.mem_map.1 hf
  exact (hc v (List.mem_filter.1 hv).1).1
 ·obtain ⟨v, hv, rfl⟩ := List.mem_map.1 hf
  rcases (hc v (List.mem_filter.1 hv).1).2.2 with h | ⟨x, hx, h3, h4⟩
  ·exact Nat.dvd_trans h (Nat.one_dvd _)
  ·exact Nat.dvd_trans h4 (m4 x hx h3)
 ·rw [num_keep, cont_num hca hcb hl (fun v hv h0 => hm _ (List.mem_map.2 ⟨v, List.mem_filter.2 ⟨hv, by simpa [keepP] using h0⟩, rfl⟩)), hV]
theorem self_le {l : List NodeT} (h : checkF l = 0) : 0 ≤ selfS l ∧ selfS l ≤ 100000000000000 := by
 have hrf := (checkF_ok h).2.1
 have := self_rng h
 refine ⟨this.1, ?_⟩
 unfold rangesF at hrf
 by_cases h3 : firstErr (fun k => nodeE (l.getD k default)) l.length = 0
 ·rw [if_pos h3] at hrf
  split at hrf
  ·omega
  ·omega
 ·rw [if_neg h3] at hrf; exact absurd hrf h3
def sRest : List UInt8 := [114, 101, 115, 116]
def valL (l : List PartT) : List FracT := l.map PartT.value
def topF (l : List PartT) (n : Int) : List PartT × Int :=
 if n < 0 then ([], 2) else if (sumL (valL l)).2 = false then ([], 1) else if (l.length : Int) ≤ n then (topL l, 0)
 else if (sumL (valL ((topL l).drop n.toNat))).2 = false then ([], 1) else ((topL l).take n.toNat ++ [⟨[], sRest, (sumL (valL ((topL l).drop n.toNat))).1⟩], 0)
theorem putF_perm {α : Type} [Inhabited α] (lt : α → α → Bool) (l : List α) (b : α) : (putF lt l b).Perm (b :: l) := by
 have h : (putF lt l b).Perm (b :: (l.take (putAt lt l b l.length) ++ l.drop (putAt lt l b l.length))) := List.perm_middle
 rwa [List.take_append_drop] at h
theorem sortF_perm {α : Type} [Inhabited α] (lt : α → α → Bool) (l : List α) : (sortF lt l).Perm l := by
 have gen : ∀ (l acc : List α), (l.foldl (putF lt) acc).Perm (acc ++ l) := by
  intro l
  induction l with
  | nil => intro acc; rw [List.append_nil]; exact List.Perm.refl _
  | cons x l ih =>
   intro acc
   refine (ih (putF lt acc x)).trans ?_
   refine ((putF_perm lt acc x).append_right l).trans ?_
   rw [List.cons_append]
   exact List.perm_middle.symm
 exact gen l []
theorem topL_len (l : List PartT) : (topL l).length = l.length := sortF_length _ _
theorem topL_mem {l : List PartT} {x : PartT} : x ∈ topL l ↔ x ∈ l := (sortF_perm _ _).mem_iff
theorem parts_same (x : NodeT) (hx : NdV x) (path : List (List UInt8)) : (partsF x x path).filter keepP = [] := by
 rw [List.filter_eq_nil_iff]
 intro v hv
 have hz : ∀ (c : List UInt8) (d : Int), 0 < d → (mkP path c 0 d).value.n = 0 := fun c d hd => by
  show (ofS 0 d).1.n = 0
  unfold ofS
  rw [if_neg (by omega), normS_made]
  unfold madeP
  split
  ·simp
  ·rfl
 obtain ⟨⟨x1, x2, x3, x4⟩, x5⟩ := hx
 unfold partsF at hv
 by_cases h : 0 < x.count
 ·rw [if_pos ⟨h, h⟩] at hv
  have e1 : (x.count - x.count) * x.self = 0 := by rw [Int.sub_self, Int.zero_mul]
  have e2 : x.self * x.count - x.count * x.self = 0 := by rw [Int.mul_comm]; omega
  rw [e1, e2] at hv
  rcases List.mem_cons.1 hv with rfl | hv
  ·simp [keepP, hz sCount x.count h]
  ·obtain rfl := List.mem_singleton.1 hv
   simp [keepP, hz sMean x.count h]
 ·rw [if_neg (fun g => h g.1), if_neg h, if_neg h] at hv
  cases hv
def newL (a : List NodeT) : List PartT := (((List.range a.length).filter fun i => decide (0 < ct a i) && (sf a i != 0))).map fun i => ⟨pathN a i, sNew, ⟨sf a i, 1⟩⟩
def goneL (a : List NodeT) : List PartT := (((List.range a.length).filter fun i => decide (0 < ct a i) && (sf a i != 0))).map fun i => ⟨pathN a i, sGone, ⟨-sf a i, 1⟩⟩
theorem begF_iff (p y : List (List UInt8)) : begF p y = true ↔ ∃ t, p = y ++ t := by
 unfold begF
 rw [Bool.and_eq_true, decide_eq_true_iff, decide_eq_true_iff]
 constructor
 ·rintro ⟨_, h⟩
  exact ⟨p.drop y.length, by conv => lhs; rw [← List.take_append_drop y.length p, h]⟩
 ·rintro ⟨t, rfl⟩
  exact ⟨by simp, by simp⟩
theorem beg_find {l : List NodeT} (hT : Tr l) {y : List (List UInt8)} (hy : y ≠ []) : ∀ k, k < l.length → begF (pathN l k) y = true → ∃ i, i < l.length ∧ pathN l i = y := by
 intro k
 induction k using Nat.strongRecOn with
 | _ k ih =>
  intro hk h
  obtain ⟨t, ht⟩ := (begF_iff _ _).1 h
  by_cases e : t = []
  ·rw [e, List.append_nil] at ht; exact ⟨k, hk, ht⟩
  ·have tp := tree_par hT.up hk
   rw [pathN_kid hT.up hk] at ht
   have e3 : t = t.dropLast ++ [t.getLast e] := (List.dropLast_concat_getLast e).symm
   rw [e3, ← List.append_assoc] at ht
   obtain ⟨h1, _⟩ := List.append_inj' ht rfl
   by_cases e2 : par l k = -1
   ·rw [e2, pathI_neg l (by decide)] at h1
    have := List.append_eq_nil_iff.1 h1.symm
    exact absurd this.1 hy
   ·obtain ⟨m, hm⟩ : ∃ m : Nat, par l k = m := ⟨(par l k).toNat, by omega⟩
    rw [hm, pathI_nat] at h1
    exact ih m (by omega) (by omega) ((begF_iff _ _).2 ⟨_, h1⟩)
theorem beg_iff {l : List NodeT} (hT : Tr l) {i : Nat} (hi : i < l.length) {k : Nat} (hk : k < l.length) : begF (pathN l k) (pathN l i) = true ↔ k = i ∨ (i < k ∧ upW l i k = true) := by
 rw [← belP_iff hT hi k hk, belP]
 unfold begF
 simp only [Bool.and_eq_true, decide_eq_true_eq]
 constructor
 ·rintro ⟨h1, h2⟩
  by_cases e : (pathN l i).length = (pathN l k).length
  ·rw [e, List.take_length] at h2
   exact .inl (path_inj hT hk hi h2)
  ·exact .inr ⟨by omega, h2⟩
 ·rintro (rfl | ⟨h1, h2⟩)
  ·exact ⟨Nat.le_refl _, List.take_length⟩
  ·exact ⟨by omega, h2⟩
theorem sum_filter (xs : List Nat) (P : Nat → Bool) (g : Nat → Int) : (xs.map fun k => if P k = true then g k else 0).sum = ((xs.filter P).map g).sum := by
 induction xs with
 | nil => rfl
 | cons x xs ih =>
  rw [List.map_cons, List.sum_cons, ih]
  by_cases h : P x = true
  ·rw [if_pos h, List.filter_cons_of_pos h, List.map_cons, List.sum_cons]
  ·rw [if_neg h, List.filter_cons_of_neg h, Int.zero_add]
theorem filter_sum_le (xs : List Nat) (P : Nat → Bool) (g : Nat → Int) (hg : ∀ k ∈ xs, 0 ≤ g k) : 0 ≤ ((xs.filter P).map g).sum ∧ ((xs.filter P).map g).sum ≤ (xs.map g).sum := by
 induction xs with
 | nil => exact ⟨Int.le_refl _, Int.le_refl _⟩
 | cons x xs ih =>
  have ih := ih fun k hk => hg k (List.mem_cons_of_mem _ hk)
  have h0 := hg x List.mem_cons_self
  rw [List.map_cons, List.sum_cons]
  by_cases h : P x = true
  ·rw [List.filter_cons_of_pos h, List.map_cons, List.sum_cons]; omega
  ·rw [List.filter_cons_of_neg h]; omega
theorem tot_below {l : List NodeT} (hc : checkF l = 0) : ∀ (m i : Nat), l.length ≤ i + m → i < l.length → totW l i = sf l i + ((belowL l i).map (sf l)).sum := by
 have hT := Tr.of hc
 have hs := self_le hc
 have hsf : ∀ k ∈ List.range l.length, 0 ≤ sf l k := fun k hk => (checkF_le hc k (List.mem_range.1 hk)).ok.s0
 intro m
 induction m with
 | zero => intro i h1 h2; omega
 | succ m ih =>
  intro i h1 h2
  rw [totW_eq hT.up h2]
  have e1 : ((kids l i).map (totW l)).sum = ((belowL l i).map (sf l)).sum := by
   rw [below_kids hT.up h2]
   have hk : ∀ k ∈ kids l i, totW l k = sf l k + ((belowL l k).map (sf l)).sum := fun k hk => by
    have := kids_gt hT.up hk
    exact ih k (by omega) this.2
   generalize kids l i = ks at hk
   induction ks with
   | nil => rfl
   | cons k ks ih2 =>
    rw [List.map_cons, List.sum_cons, ih2 (fun k hk' => hk k (List.mem_cons_of_mem _ hk')), List.flatMap_cons, List.map_append, List.sum_append, List.map_cons, List.sum_cons, hk k List.mem_cons_self]
  rw [e1]
  have hfl := filter_sum_le (List.range l.length) (fun k => decide (i < k) && upW l i k) (sf l) hsf
  rw [self_sum] at hfl
  have h3 := (checkF_le hc i h2).ok
  have h4 : 0 ≤ sf l i := h3.s0
  have h5 : sf l i ≤ 100000000000000 := h3.s1
  show IntKind.i64.wrap (sf l i + ((belowL l i).map (sf l)).sum) = _
  have hb : ((belowL l i).map (sf l)).sum = (((List.range l.length).filter fun k => decide (i < k) && upW l i k).map (sf l)).sum := rfl
  rw [← hb] at hfl
  exact a_wrap (by omega)
theorem tt_below {l : List NodeT} (hc : checkF l = 0) {i : Nat} (hi : i < l.length) : tt l i = sf l i + ((belowL l i).map (sf l)).sum := by
 have := (checkF_ok hc).2.2.2.2 i hi
 simp only [totBad, Bool.or_eq_false_iff, bne_eq_false_iff_eq] at this
 rw [this.2, tot_below hc l.length i (by omega) hi]
theorem beg_sum {l : List NodeT} (hc : checkF l = 0) {y : List (List UInt8)} {i : Nat} (hi : i < l.length) (hp : pathN l i = y) : ((List.range l.length).map fun k => if begF (pathN l k) y = true then sf l k else 0).sum = tt l i := by
 have hT := Tr.of hc
 rw [sum_filter, tt_below hc hi]
 have e : ((List.range l.length).filter fun k => begF (pathN l k) y) = i :: belowL l i := by
  refine sorted_ext (List.pairwise_lt_range.filter _) (List.pairwise_cons.2 ⟨fun k hk => (mem_below.1 hk).2.1, below_sorted l i⟩) fun k => ?_
  rw [List.mem_filter, List.mem_range, List.mem_cons, mem_below]
  constructor
  ·rintro ⟨h1, h2⟩
   rw [← hp] at h2
   rcases (beg_iff hT hi h1).1 h2 with h | ⟨h3, h4⟩
   ·exact .inl h
   ·exact .inr ⟨h1, h3, h4⟩
  ·rintro (rfl | ⟨h1, h2, h3⟩)
   ·exact ⟨hi, by rw [← hp]; exact (beg_iff hT hi hi).2 (.inl rfl)⟩
   ·exact ⟨h1, by rw [← hp]; exact (beg_iff hT hi h1).2 (.inr ⟨h2, h3⟩)⟩
 rw [e, List.map_cons, List.sum_cons]
theorem beg_none {l : List NodeT} (hc : checkF l = 0) {y : List (List UInt8)} (hy : y ≠ []) (hn : ∀ k, k < l.length → pathN l k ≠ y) : ((List.range l.length).map fun k => if begF (pathN l k) y = true then sf l k else 0).sum = 0 := by
 rw [sum_filter]
 have e : ((List.range l.length).filter fun k => begF (pathN l k) y) = [] := by
  rw [List.filter_eq_nil_iff]
  intro k hk h
  obtain ⟨i, h1, h2⟩ := beg_find (Tr.of hc) hy k (List.mem_range.1 hk) h
  exact hn i h1 h2
 rw [e]; rfl
theorem cont_path {a b : List NodeT} {l : List PairT} (y : List (List UInt8)) (hca : checkF a = 0) (hcb : checkF b = 0) (hl : ∀ p ∈ l, inP a b p) : (contL a b l).filter (fun v => begF v.path y) = contL a b (l.filter fun p => begF (pthP a b p) y) := by
 induction l with
 | nil => rfl
 | cons p l ih =>
  have ih := ih fun q hq => hl q (List.mem_cons_of_mem _ hq)
  obtain ⟨_, h2, _, h4, _⟩ := hl p List.mem_cons_self
  have hp := parts_ok (ndV_at hca p.a h2) (ndV_at hcb p.b h4) (pthP a b p)
  rw [contL] at ih ⊢
  rw [List.flatMap_cons, List.filter_append, ih]
  by_cases h : begF (pthP a b p) y = true
  ·rw [List.filter_cons_of_pos (by exact h)]
   rw [show contL a b (p :: l.filter fun p => begF (pthP a b p) y) = contP a b p ++ (l.filter fun p => begF (pthP a b p) y).flatMap (contP a b) from by rw [contL, List.flatMap_cons]]
   congr 1
   rw [List.filter_eq_self]
   intro v hv
   rw [(hp v hv).2.1]; exact h
  ·rw [List.filter_cons_of_neg (by exact h)]
   rw [show (contP a b p).filter (fun v => begF v.path y) = [] from by
    rw [List.filter_eq_nil_iff]
    intro v hv
    rw [(hp v hv).2.1]; exact h]
   rfl
theorem path_same {a b : List NodeT} (hca : checkF a = 0) (hcb : checkF b = 0) (hr : renamedF a b (pairsOf a b) = []) : ∀ i, i < a.length → ∀ k : Nat, (finS a b).b i = k → pathN a i = pathN b k := by
 have hA := Tr.of hca
 have hB := Tr.of hcb
 obtain ⟨hm, hc⟩ := fin_spec hA hB
 have hnm : ∀ i, i < a.length → ∀ k : Nat, (finS a b).b i = k → nm a i = nm b k := fun i hi k hk => by
  have hrb := hm.rb i
  have hmem : (⟨(i : Int), (finS a b).b i⟩ : PairT) ∈ pairsOf a b := by
   rw [pairsOf]
   exact List.mem_append_left _ (List.mem_map.2 ⟨i, List.mem_range.2 hi, rfl⟩)
  have := List.filter_eq_nil_iff.1 hr _ hmem
  simp only [rnB, Bool.and_eq_true, decide_eq_true_eq, bne_iff_ne, ne_eq, Int.toNat_natCast, hk] at this
  rcases Decidable.em (nm a i = nm b k) with h | h
  ·exact h
  ·exact absurd ⟨⟨⟨⟨by omega, by omega⟩, by omega⟩, by omega⟩, h⟩ this
 intro i
 induction i using Nat.strongRecOn with
 | _ i ih =>
  intro hi k hk
  have hn := hnm i hi k hk
  have hrb := hm.rb i
  have hkl : k < b.length := by omega
  have hci := hc i hi
  rw [hk] at hci
  obtain ⟨q, hq, e, hcr, _⟩ := (cpt_val hA hB hi).2 (by omega)
  have hqk : q = k := by omega
  subst hqk
  rw [pathN_kid hA.up hi, pathN_kid hB.up hkl, hn]
  congr 1
  rcases hcr with ⟨h1, h2⟩ | ⟨i', k', h1, h2, h3, h4⟩
  ·rw [h1, h2, pathI_neg a (by decide), pathI_neg b (by decide)]
  ·rw [h1, h2, pathI_nat, pathI_nat]
   exact ih i' h4 (by omega) k' (by rw [hc i' (by omega)]; exact h3)
theorem sum_if {α : Type} (xs : List α) (P : α → Bool) (g : α → Int) : ((xs.filter P).map g).sum = (xs.map fun k => if P k = true then g k else 0).sum := by
 induction xs with
 | nil => rfl
 | cons x xs ih =>
  rw [List.map_cons, List.sum_cons, ← ih]
  by_cases h : P x = true
  ·rw [if_pos h, List.filter_cons_of_pos h, List.map_cons, List.sum_cons]
  ·rw [if_neg h, List.filter_cons_of_neg h, Int.zero_add]
def findV (l : List NodeT) (j : Int) : Int := if 0 ≤ j then tt l j.toNat else 0
def FindOk (l : List NodeT) (y : List (List UInt8)) (j : Int) : Prop := (j < 0 ∧ ∀ k, k < l.length → pathN l k ≠ y) ∨ ∃ k : Nat, j = k ∧ k < l.length ∧ pathN l k = y
theorem find_sum {l : List NodeT} (hc : checkF l = 0) {y : List (List UInt8)} (hy : y ≠ []) {j : Int} (h : FindOk l y j) : ((List.range l.length).map fun k => if begF (pathN l k) y = true then sf l k else 0).sum = findV l j := by
 rcases h with ⟨h1, h2⟩ | ⟨k, rfl, h1, h2⟩
 ·rw [beg_none hc hy h2, findV, if_neg (by omega)]
 ·rw [beg_sum hc h1 h2, findV, if_pos (by omega), Int.toNat_natCast]
theorem findV_rng {l : List NodeT} (hc : checkF l = 0) {y : List (List UInt8)} (hy : y ≠ []) {j : Int} (h : FindOk l y j) : 0 ≤ findV l j ∧ findV l j ≤ 100000000000000 := by
 rw [← find_sum hc hy h, sum_filter]
 have hsf : ∀ k ∈ List.range l.length, 0 ≤ sf l k := fun k hk => (checkF_le hc k (List.mem_range.1 hk)).ok.s0
 have := filter_sum_le (List.range l.length) (fun k => begF (pathN l k) y) (sf l) hsf
 rw [self_sum] at this
 have := self_le hc
 omega
theorem below_law {a b : List NodeT} (hca : checkF a = 0) (hcb : checkF b = 0) (ha : a.length ≤ 60) (hb : b.length ≤ 60) (hcm : comN a 1 = true) (hr : renamedF a b (pairsOf a b) = []) {y : List (List UInt8)} (hy : y ≠ []) {i j : Int} (hi : FindOk a y i) (hj : FindOk b y j) :
  sumL (((eOfF a b).1.filter fun x => begF x.path y).map PartT.value) = (⟨findV b j - findV a i, 1⟩, true) := by
 rw [eOfF, if_pos hca, if_pos hcb]
 obtain ⟨hm, hc⟩ := fin_spec (Tr.of hca) (Tr.of hcb)
 have hpin := pairs_in hm
 have hpl := pairs_le (a := a) (b := b)
 have r1 := findV_rng hca hy hi
 have r2 := findV_rng hcb hy hj
 have e1 : ((contL a b (pairsOf a b)).filter keepP).filter (fun x => begF x.path y) = (contL a b ((pairsOf a b).filter fun p => begF (pthP a b p) y)).filter keepP := by
  rw [← cont_path y hca hcb hpin, List.filter_filter, List.filter_filter]
  refine List.filter_congr fun v _ => Bool.and_comm _ _
 show sumL ((((contL a b (pairsOf a b)).filter keepP).filter (fun x => begF x.path y)).map PartT.value) = _
 rw [e1]
 have hfl := List.length_filter_le (fun p => begF (pthP a b p) y) (pairsOf a b)
 refine sum_pairs hca hcb hcm (fun p hp => hpin p (List.mem_filter.1 hp).1) (by omega) ?_ (by omega) (by omega)
 rw [sum_if, ← find_sum hca hy hi, ← find_sum hcb hy hj, ← pairs_sum hm]
 congr 1
 refine List.map_congr_left fun p hp => ?_
 obtain ⟨h1, h2, h3, h4, h5⟩ := hpin p hp
 have hps : 0 ≤ p.a → 0 ≤ p.b → pathN a p.a.toNat = pathN b p.b.toNat := fun g1 g2 => by
  rw [pairsOf] at hp
  rcases List.mem_append.1 hp with hp | hp
  ·obtain ⟨k, hk, rfl⟩ := List.mem_map.1 hp
   simp only at g2 ⊢
   exact path_same hca hcb hr k (List.mem_range.1 hk) ((finS a b).b k).toNat (by omega)
  ·obtain ⟨k, hk, rfl⟩ := List.mem_map.1 hp
   simp only at g1
   omega
 have wn : ∀ (g : Nat → Int) {i : Int}, i < 0 → wA g i = 0 := fun g i h => by rw [wA, if_pos h]
 have wp : ∀ (g : Nat → Int) {i : Int}, 0 ≤ i → wA g i = g i.toNat := fun g i h => by rw [wA, if_neg (by omega)]
 by_cases g1 : 0 ≤ p.a <;> by_cases g2 : 0 ≤ p.b
 ·rw [wp _ g1, wp _ g2, wp _ g1, wp _ g2, pthP, if_pos g2, hps g1 g2]
  split <;> omega
 ·have g2' : p.b < 0 := by omega
  rw [wp _ g1, wn _ g2', wp _ g1, wn _ g2', pthP, if_neg g2]
  split <;> omega
 ·have g1' : p.a < 0 := by omega
  rw [wn _ g1', wp _ g2, wn _ g1', wp _ g2, pthP, if_pos g2]
  split <;> omega
 ·omega
end YtmedpoeeoihfmaaDoor
end Go.Proofs

set_option maxRecDepth 100000
namespace Go.Proofs
open Go.AM
namespace YtmedpoeeoihfmaaDoor
variable {Gl : Globs}
theorem k_CloneF (l : List PartT) (hl : l.length ≤ 100000) : Fresh Tryd.prog Gl 29 [.d (.sl (l.map PartT.toD))] 4 (l.map PartT.toD) := by
 refine Fresh.of (args := [.sl (l.map PartT.toD)]) ?_
 rw [List.length_map]
 exact k_Clone l hl
theorem ltP_eq : (fun x y => decide (cmpP (PartT.toD x) (PartT.toD y) < 0)) = fun x y => decide (ordP x y < 0) := by
 funext x y; rfl
theorem topF_in {l : List PartT} (h : ∀ x ∈ l, x.value.In) : ∀ x ∈ topL l, x.value.In := fun x hx => h x (topL_mem.1 hx)
theorem sumL_in (l : List FracT) : (sumL l).1.In := by
 unfold sumL
 split
 ·exact ⟨by decide, by decide, by decide, by decide⟩
 ·split
  ·exact ⟨by decide, by decide, by decide, by decide⟩
  ·exact normS_in _ _ _
theorem k_ESumA (xs : List PartT) (m K : Nat) (hmk : m + K = xs.length) (hin : ∀ x ∈ xs, x.value.In) (hl : xs.length ≤ 100000) : ACalls Tryd.prog Gl 11 [.osl 0 m K] [.arr 4 (xs.map PartT.toD)]
  (fun r s => r = .tup [.d (sumL (valL (xs.drop m))).1.toD, .d (.bool (sumL (valL (xs.drop m))).2)] ∧ s = [.arr 4 (xs.map PartT.toD)]) := by
 refine acalls_of Tryd.func11 rfl rfl (by simp [Tryd.ntmps11]) (evC_sound rfl _ _ _ _ ?_)
 simp only [Tryd.ntmps11, Tryd.results11, argEnv, List.length_nil]
 simp only [zP, seval, implies_true, Nat.reduceLeDiff, Nat.reduceEqDiff, reduceCtorEq, reduceIte, intD]
 repeat ((with_reducible refine And.intro ?_ ?_); (focus (first | omega | (simp only [lenR]; omega) | (refine qq ?_; rfl) | (refine dq ?_; kernel_rfl) | (intros; simp_all; done))))
 obtain ⟨l, hld⟩ : ∃ l, l = xs.drop m := ⟨_, rfl⟩
 have hlK : l.length = K := by rw [hld, List.length_drop]; omega
 rw [← hld]
 refine for_of K (fun k => [(2, .ptr 1 0), (4, .osl 2 0 k), (7, .osl 0 m K), (8, .d (.int .i64 K)), (9, .d (.int .i64 k))]) (fun k => [.arr 4 (xs.map PartT.toD), .box 2 (.d (.agg [.int .i64 0, .int .i64 0])), .arr 2 ((l.take k).map fun x => x.value.toD)]) (fun _ => True) trivial ?_ ?_
 ·refine (weak_nils 4 2 rfl).trans ?_
  refine weak_to [] [0, 1, 2] rfl (by simp) ?_ rfl
  simp only [zP, seval, implies_true, Nat.reduceLeDiff, Nat.reduceEqDiff, reduceCtorEq, reduceIte, intD, Int.cast_ofNat_Int]
  try rfl
 ·intro k _ hk
  by_cases h : k < K
  ·obtain ⟨x, hx⟩ : ∃ x, x = l.getD k default := ⟨_, rfl⟩
   have eg : (xs.map PartT.toD).getD (m + k) default = x.toD := by
    rw [a_getD _ _ _ (show m + k < xs.length by omega), hx, hld]
    simp [List.getD_eq_getElem?_getD]
   have hst : (l.take (k + 1)).map (fun x => x.value.toD) = (l.take k).map (fun x => x.value.toD) ++ [x.value.toD] := by rw [take_step l k (by omega), List.map_append, ← hx]; rfl
   have htl : ((l.take k).map fun x => x.value.toD).length = k := by rw [List.length_map, List.length_take]; omega
   have htk : List.take k ((l.take k).map fun x => x.value.toD) = (l.take k).map fun x => x.value.toD := List.take_of_length_le (by omega)
   simp only [zP, seval, implies_true, Nat.reduceLeDiff, Nat.reduceEqDiff, reduceCtorEq, reduceIte, intD, (show (k:Int) < K by omega), h, eg, htk, (show m + k < xs.length by omega)]
   repeat ((with_reducible refine And.intro ?_ ?_); (focus (first | omega | (simp only [lenR]; omega) | (refine qq ?_; rfl) | (refine dq ?_; kernel_rfl) | (intros; simp_all; done))))
   rw [hst]
   refine weak_to [] [0, 1, 5] rfl (by simp) ?_ rfl
   simp only [zP, seval, implies_true, Nat.reduceLeDiff, Nat.reduceEqDiff, reduceCtorEq, reduceIte, intD, @a_wrap ((k:Int) + 1) (by omega)]
   try rfl
  ·have : k = K := by omega
   subst this
   have e1 : List.take k (List.map (fun x : PartT => x.value.toD) (l.take k)) = (valL l).map FracT.toD := by
    rw [List.take_of_length_le (show l.length ≤ k by omega), List.take_of_length_le (by simp; omega), valL, List.map_map]; rfl
   simp only [zP, seval, implies_true, Nat.reduceLeDiff, Nat.reduceEqDiff, reduceCtorEq, reduceIte, intD, (show ¬ (k:Int) < k by omega)]
   repeat ((with_reducible refine And.intro ?_ ?_); (focus (first | omega | (simp only [lenR]; omega) | (refine qq ?_; rfl) | (refine dq ?_; kernel_rfl) | (intros; simp_all; done))))
   refine callF_dataE (as' := [.d (.sl ((valL l).map FracT.toD))]) (σ' := [.arr 4 (xs.map PartT.toD), .box 2 (.d (.agg [.int .i64 0, .int .i64 0])), .frz 2 ((l.take k).map fun x => x.value.toD)]) (c18 (valL l) (fun a ha => by
    obtain ⟨x, hx, rfl⟩ := List.mem_map.1 ha
    rw [hld] at hx
    exact hin x (List.mem_of_mem_drop hx))) ?_ rfl ?_
   ·show [AV.d (D.sl (List.take k (List.map (fun x : PartT => x.value.toD) (l.take k))))] = _
    rw [e1]
   simp only [zP, seval, implies_true, Nat.reduceLeDiff, Nat.reduceEqDiff, reduceCtorEq, reduceIte, intD, resD]
   repeat ((with_reducible refine And.intro ?_ ?_); (focus (first | omega | (simp only [lenR]; omega) | (refine qq ?_; rfl) | (refine dq ?_; kernel_rfl) | (intros; simp_all; done))))
   exact ⟨_, _, weakR_to [] [0] rfl (by simp) (show renV _ _ _ = AV.tup _ from rfl) rfl, rfl, rfl⟩
def topD (l : List PartT) (n : Int) : AV := .tup [.d (.sl ((topF l n).1.map PartT.toD)), .d (.int .i64 (topF l n).2)]
theorem k_Top (l : List PartT) (n : Int) (hin : ∀ x ∈ l, x.value.In) (hl : l.length ≤ 10000) : Pure Tryd.prog Gl 12 [.d (.sl (l.map PartT.toD)), .d (.int .i64 n)] (topD l n) := by
 refine Pure.of2t2 ?_
 refine acalls_of Tryd.func12 rfl rfl (by simp [Tryd.ntmps12]) (evC_sound rfl _ _ _ _ ?_)
 simp only [Tryd.ntmps12, Tryd.results12, argEnv, List.length_nil]
 simp only [zP, seval, implies_true, Nat.reduceLeDiff, Nat.reduceEqDiff, reduceCtorEq, reduceIte, intD]
 repeat ((with_reducible refine And.intro ?_ ?_); (focus (first | omega | (simp only [lenR]; omega) | (refine qq ?_; rfl) | (refine dq ?_; kernel_rfl) | (intros; simp_all; done))))
 refine ifC.mk (fun h1 => ?_) (fun h1 => ?_)
 ·have h1 : n < 0 := of_decide_eq_true h1
  refine ⟨_, _, ret_tdata rfl (x := .sl ((topF l n).1.map PartT.toD)) ?_, ?_, rfl⟩
  ·rw [topF, if_pos h1]; rfl
  ·rw [topF, if_pos h1]
 have h1 : ¬ n < 0 := of_decide_eq_false h1
 repeat ((with_reducible refine And.intro ?_ ?_); (focus (first | omega | (simp only [lenR]; omega) | (refine qq ?_; rfl) | (refine dq ?_; kernel_rfl) | (intros; simp_all; done))))
 refine callF_pure (k_ESum l hin (by omega)) ?_
 simp only [zP, seval, implies_true, Nat.reduceLeDiff, Nat.reduceEqDiff, reduceCtorEq, reduceIte, intD, resD]
 repeat ((with_reducible refine And.intro ?_ ?_); (focus (first | omega | (simp only [lenR]; omega) | (refine qq ?_; rfl) | (refine dq ?_; kernel_rfl) | (intros; simp_all; done))))
 refine ifC.mk (fun h2 => ?_) (fun h2 => ?_)
 ·have h2 : (sumL (valL l)).2 = false := by simpa [valL] using h2
  refine ⟨_, _, ret_tdata rfl (x := .sl ((topF l n).1.map PartT.toD)) ?_, ?_, rfl⟩
  ·rw [topF, if_neg h1, if_pos h2]; rfl
  ·rw [topF, if_neg h1, if_pos h2]
 have h2 : ¬ (sumL (valL l)).2 = false := by simpa [valL] using h2
 repeat ((with_reducible refine And.intro ?_ ?_); (focus (first | omega | (simp only [lenR]; omega) | (refine qq ?_; rfl) | (refine dq ?_; kernel_rfl) | (intros; simp_all; done))))
 refine callF_go ((k_CloneF l (by omega) _).mono fun r s hrs => ?_)
 obtain ⟨rfl, rfl⟩ := hrs
 simp only [zP, seval, implies_true, Nat.reduceLeDiff, Nat.reduceEqDiff, reduceCtorEq, reduceIte, intD, List.length_map]
 generalize (sumL (List.map PartT.value l)).1 = W0
 have hx : ∀ y ∈ l.map PartT.toD, DmP y := fun y hy => by
  obtain ⟨x, hx, rfl⟩ := List.mem_map.1 hy
  exact ⟨x, rfl, hin x hx⟩
 have hsort := sortStable_spec (Gl := Gl) (τ := []) DmP cmpP 31 [] cmpOkP (l.map PartT.toD) hx l.length (by simp) (by omega)
 refine callF_go ((ACalls.under [1] (by decide) (by simp) hsort).mono fun r s hss => ?_)
 obtain ⟨r0, s0, ⟨rfl, zs, ρ, rfl, hA, hB, hid⟩, rfl, rfl⟩ := hss
 have e := stabled_sortF swoP hx (by simp) hA hB hid
 rw [take_all, sortF_map, ltP_eq, List.drop_of_length_le (by simp), List.append_nil] at e
 have e : (topL l).map PartT.toD = zs := e.symm
 subst e
 have hsl := topL_len l
 have hti := topF_in hin
 have htp : topF l n = if (l.length : Int) ≤ n then (topL l, 0) else if (sumL (valL ((topL l).drop n.toNat))).2 = false then ([], 1) else ((topL l).take n.toNat ++ [⟨[], sRest, (sumL (valL ((topL l).drop n.toNat))).1⟩], 0) := by
  rw [topF, if_neg h1, if_neg h2]
 obtain ⟨S, hS⟩ : ∃ S, S = topL l := ⟨_, rfl⟩
 rw [← hS] at hsl hti htp ⊢
 have hb2 : backS [1] [Blk.box 2 (AV.d W0.toD), Blk.arr 4 (List.map PartT.toD l)] [Blk.arr 4 (S.map PartT.toD)] = [Blk.box 2 (AV.d W0.toD), Blk.arr 4 (S.map PartT.toD)] := rfl
 rw [hb2]
 simp only [zP, seval, implies_true, Nat.reduceLeDiff, Nat.reduceEqDiff, reduceCtorEq, reduceIte, intD, ← hsl]
 refine ifC.mk (fun h3 => ?_) (fun h3 => ?_)
 ·have h3 : (S.length : Int) ≤ n := of_decide_eq_true h3
  rw [htp, if_pos (by omega)]
  refine ⟨_, _, ret_tdata rfl (x := .sl (S.map PartT.toD)) ?_, rfl, rfl⟩
  show D.sl (List.take S.length (S.map PartT.toD)) = _
  rw [take_all]
 have h3 : ¬ (S.length : Int) ≤ n := of_decide_eq_false h3
 rw [if_neg (by omega)] at htp
 obtain ⟨m, rfl⟩ : ∃ m : Nat, n = m := ⟨n.toNat, by omega⟩
 rw [Int.toNat_natCast] at htp
 refine ⟨⟨by omega, by omega, by omega⟩, ?_⟩
 rw [Int.toNat_natCast]
 refine callF_go ((ACalls.under [1] (by decide) (by simp) (k_ESumA (Gl := Gl) S m (S.length - m) (by omega) hti (by omega))).mono fun r s hss => ?_)
 obtain ⟨r0, s0, ⟨rfl, rfl⟩, rfl, rfl⟩ := hss
 have hb3 : backS [1] [Blk.box 2 (AV.d W0.toD), Blk.arr 4 (List.map PartT.toD S)] [Blk.arr 4 (S.map PartT.toD)] = [Blk.box 2 (AV.d W0.toD), Blk.arr 4 (S.map PartT.toD)] := rfl
 rw [hb3, back_t2]
 have hvin := sumL_in (valL (S.drop m))
 generalize sumL (valL (S.drop m)) = V at htp hvin ⊢
 simp only [zP, seval, implies_true, Nat.reduceLeDiff, Nat.reduceEqDiff, reduceCtorEq, reduceIte, intD]
 repeat ((with_reducible refine And.intro ?_ ?_); (focus (first | omega | (simp only [lenR]; omega) | (refine qq ?_; rfl) | (refine dq ?_; kernel_rfl) | (intros; simp_all; done))))
 refine ifC.mk (fun h4 => ?_) (fun h4 => ?_)
 ·have h4 : V.2 = false := by simpa using h4
  rw [htp, if_pos h4]
  exact ⟨_, _, ret_tdata rfl (x := .sl []) rfl, rfl, rfl⟩
 have h4 : ¬ V.2 = false := by simpa using h4
 rw [htp, if_neg h4]
 refine And.intro (.inl (by kernel_rfl)) ?_
 refine And.intro ⟨Int.le_refl _, by omega⟩ ?_
 refine And.intro ⟨by omega, by omega⟩ ?_
 rw [Nat.sub_zero]
 refine ⟨_, _, ret_tdata rfl (x := .sl ((S.take m ++ [(⟨[], sRest, V.1⟩ : PartT)]).map PartT.toD)) ?_, rfl, rfl⟩
 show D.sl (List.take (m + 1) (List.take m (S.map PartT.toD) ++ [D.agg [D.sl [], D.str [114, 101, 115, 116], D.int IntKind.i64 V.1.n, D.int IntKind.i64 V.1.q]])) = _
 rw [← List.map_take, List.take_of_length_le (by simp; omega), List.map_append]
 rfl

def rowAt (l : List NodeT) (k q : Nat) : AV := if q < k then .d (.sl ((pathN l q).map .str)) else .nils
def rowsC (l : List NodeT) (k : Nat) : List AV := (List.range l.length).map (rowAt l k)
theorem rowsC_len (l : List NodeT) (k : Nat) : (rowsC l k).length = l.length := by simp [rowsC]
theorem rowsC_get (l : List NodeT) (k : Nat) {q : Nat} (h : q < l.length) : (rowsC l k).getD q .undef = rowAt l k q := by simp [rowsC, h]
theorem rowsC_one (l : List NodeT) (k : Nat) : ∀ c ∈ rowsC l k, c.one = true := by
 intro c hc
 obtain ⟨q, _, rfl⟩ := List.mem_map.1 hc
 unfold rowAt; split <;> rfl
theorem rowsC_set_one (l : List NodeT) (k j : Nat) {u : AV} (hu : u.one = true) : ∀ c ∈ (rowsC l k).set j u, c.one = true := by
 intro c hc
 rcases List.mem_or_eq_of_mem_set hc with h | h
 ·exact rowsC_one l k c h
 ·rw [h]; exact hu
theorem rowsC_set2 (l : List NodeT) (k : Nat) (u v : AV) : ((rowsC l k).set k u).set k v = (rowsC l k).set k v := List.set_set ..
theorem rowsC_step (l : List NodeT) {k : Nat} (h : k < l.length) : (rowsC l k).set k (.d (.sl ((pathN l k).map .str))) = rowsC l (k + 1) := by
 apply List.ext_getElem
 ·simp [rowsC]
 ·intro q h1 h2
  have hq : q < l.length := by simpa [rowsC] using h2
  rw [List.getElem_set]
  simp only [rowsC, List.getElem_map, List.getElem_range]
  unfold rowAt
  by_cases e : k = q
  ·subst e; rw [if_pos rfl, if_pos (by omega)]
  ·rw [if_neg e]
   by_cases e2 : q < k
   ·rw [if_pos e2, if_pos (by omega)]
   ·rw [if_neg e2, if_neg (by omega)]
theorem rowsC_ren (l : List NodeT) (k : Nat) (ρ : List Nat) (σ : Sto) : (rowsC l k).map (ren0 ρ σ) = rowsC l k := by
 unfold rowsC
 rw [List.map_map]
 refine List.map_congr_left fun q _ => ?_
 show ren0 ρ σ (rowAt l k q) = rowAt l k q
 unfold rowAt; split <;> rfl
theorem rowsC_end (l : List NodeT) : rowsC l l.length = ((List.range l.length).map fun q => D.sl ((pathN l q).map .str)).map AV.d := by
 unfold rowsC
 rw [List.map_map]
 refine List.map_congr_left fun q hq => ?_
 unfold rowAt
 rw [if_pos (List.mem_range.1 hq)]; rfl
theorem rowsC_zero (l : List NodeT) : (List.replicate l.length (D.raw (.slice none 0 0))).map rslC = rowsC l 0 := by
 apply List.ext_getElem
 ·simp [rowsC]
 ·intro q h1 h2
  simp [rowsC, rowAt, rslC]
theorem rows_close (l : List NodeT) {k : Nat} (h : k < l.length) {σ : Sto} {i n : Nat} (e : ren0 [0] σ (.osl i 0 n) = .d (.sl ((pathN l k).map .str))) :
  renB [0] σ (.box l.length (cellsV ((rowsC l k).set k (.osl i 0 n)))) = .box l.length (cellsV (rowsC l (k + 1))) := by
 have hm : ((rowsC l k).set k (.osl i 0 n)).map (ren0 [0] σ) = rowsC l (k + 1) := by rw [List.map_set, rowsC_ren, e, rowsC_step l h]
 rw [renB_cells (fun c hc => by
  have h1 := List.mem_map_of_mem (f := ren0 [0] σ) hc
  rw [hm] at h1
  exact rowsC_one l (k + 1) _ h1), hm]
theorem mk_rows (m : Nat) (hm : m ≤ 100000) : mkOk Tryd.prog 55 (.d (.int .i64 (m : Int))) (.d (.int .i64 (m : Int))) := by
 refine (show _ ∧ _ ∧ _ ∧ (0 : Int) ≤ m ∧ (m : Int) ≤ m ∧ ((24 : Nat) : Int) * (m : Int) ≤ 281474976710656 ∧ (m : Int) ≤ _ from ⟨rfl, rfl, rfl, ?_, ?_, ?_, ?_⟩) <;> omega
theorem mkS_rows (σ : Sto) (m : Nat) : mkS Tryd.prog σ 55 (.d (.int .i64 (m : Int))) = σ ++ [.arr 1 (List.replicate m (.raw (.slice none 0 0)))] := rfl
theorem k_paths (l : List NodeT) (hl : l.length ≤ 100) (ht : TreeUp l l.length) : Pure Tryd.prog Gl 22 [.d (.sl (l.map NodeT.toD))] (.d (.sl ((List.range l.length).map fun q => .sl ((pathN l q).map .str)))) := by
 refine Pure.of1 ?_
 refine acalls_of Tryd.func22 rfl rfl (by simp [Tryd.ntmps22]) (evC_sound rfl _ _ _ _ ?_)
 simp only [Tryd.ntmps22, Tryd.results22, argEnv, List.length_nil]
 simp only [zN, seval, implies_true, Nat.reduceLeDiff, Nat.reduceEqDiff, reduceCtorEq, reduceIte, intD, pRules]
 refine ⟨mk_rows l.length (by omega), ?_⟩
 rw [mkS_rows, List.nil_append]
 by_cases h0 : l.length = 0
 ·have : l = [] := List.eq_nil_of_length_eq_zero h0
  subst this
  refine for_of 0 (fun k => [(0, .d (.sl [])), (3, .osl 0 0 0), (9, .d (.sl [])), (10, .d (.int .i64 0)), (11, .d (.int .i64 k))]) (fun _ => [.arr 1 []]) (fun _ => True) trivial ?_ ?_
  ·refine weak_to [] [0] rfl (by simp) ?_ rfl
   simp only [zN, seval, implies_true, Nat.reduceLeDiff, Nat.reduceEqDiff, reduceCtorEq, reduceIte, intD, pRules]
   try rfl
  ·intro k _ hk
   have : k = 0 := by omega
   subst this
   simp only [zN, seval, implies_true, Nat.reduceLeDiff, Nat.reduceEqDiff, reduceCtorEq, reduceIte, intD, pRules]
   exact ⟨_, _, ret_data rfl (x := .sl []) rfl, rfl, rfl⟩
 refine for_of l.length (fun k => [(0, .d (.sl (l.map NodeT.toD))), (3, .rsl 0 l.length), (9, .d (.sl (l.map NodeT.toD))), (10, .d (.int .i64 l.length)), (11, .d (.int .i64 k))]) (fun k => [.box l.length (cellsV (rowsC l k))]) (fun _ => True) trivial ?_ ?_
 ·refine (weak_cells 3 0 (xs := List.replicate l.length (.raw (.slice none 0 0))) (Nat.zero_le _) rfl ?_ (by simp; omega) ?_).trans ?_
  ·simp only [List.length_replicate, getE]; rfl
  ·intro x hx
   rw [(List.mem_replicate.1 hx).2]; rfl
  ·rw [rowsC_zero, List.length_replicate]
   refine weak_to [] [1] rfl (by simp) ?_ ?_
   ·simp only [zN, seval, implies_true, Nat.reduceLeDiff, Nat.reduceEqDiff, reduceCtorEq, reduceIte, intD, pRules, Int.cast_ofNat_Int]
    try rfl
   ·show [renB _ _ (Blk.box l.length (cellsV (rowsC l 0)))] = _
    rw [renB_cells (by
     intro c hc
     have e := rowsC_ren l 0 [1] (freezeL ([Blk.arr 1 (List.replicate l.length (D.raw (Value.slice none 0 0)))].set 0 Blk.dead ++ [Blk.box l.length (cellsV (rowsC l 0))]) [])
     have h1 := List.mem_map_of_mem (f := ren0 [1] (freezeL ([Blk.arr 1 (List.replicate l.length (D.raw (Value.slice none 0 0)))].set 0 Blk.dead ++ [Blk.box l.length (cellsV (rowsC l 0))]) [])) hc
     rw [e] at h1
     exact rowsC_one l 0 _ h1), rowsC_ren]
 ·intro k _ hk
  by_cases h : k < l.length
  ·have tp := tree_par ht h
   obtain ⟨x, hx⟩ : ∃ x, x = l.getD k default := ⟨_, rfl⟩
   have eg : (l.map NodeT.toD).getD k default = x.toD := by rw [a_getD _ _ _ h, ← hx]
   have en : nm l k = x.name := by rw [hx]; rfl
   have ep : par l k = x.parent := by rw [hx]; rfl
   rw [ep] at tp
   simp only [zN, seval, implies_true, Nat.reduceLeDiff, Nat.reduceEqDiff, reduceCtorEq, reduceIte, intD, pRules, (show (k:Int) < l.length by omega), h, eg]
   repeat ((with_reducible refine And.intro ?_ ?_); (focus (first | omega | (simp only [lenR]; omega) | (refine qq ?_; rfl) | (refine dq ?_; kernel_rfl) | (intros; simp_all; done))))
   refine ifC.mk (fun hc => ?_) (fun hc => ?_)
   ·have hc : 0 ≤ x.parent := of_decide_eq_true hc
    obtain ⟨p, hp⟩ : ∃ p : Nat, x.parent = p := ⟨x.parent.toNat, by omega⟩
    have hpk : p < k := by omega
    have hpl : p < l.length := by omega
    have pk := cells_ifV (rowsC_len l k) h (rowsC_one l k)
    have pp := cells_ifV (rowsC_len l k) hpl (rowsC_one l k)
    rw [rowsC_get l k h, rowAt, if_neg (Nat.lt_irrefl k)] at pk
    rw [rowsC_get l k hpl, rowAt, if_pos hpk] at pp
    have qk := eq_true (cells_ifOk (rowsC_len l k) h (rowsC_one l k))
    have qp := eq_true (cells_ifOk (rowsC_len l k) hpl (rowsC_one l k))
    have gk := cells_ifPut (u := .osl 2 0 (pathN l p).length) (rowsC_len l k) h (rowsC_one l k) rfl
    rw [r_mkAgg_d] at gk
    simp only [zN, seval, implies_true, Nat.reduceLeDiff, Nat.reduceEqDiff, reduceCtorEq, reduceIte, intD, pRules, hp, (show (k:Int) < l.length by omega), (show (p:Int) < l.length by omega), pk, pp, qk, qp, gk, (show k + 1 ≤ l.length by omega), (show p + 1 ≤ l.length by omega)]
    refine ⟨.inl (by kernel_rfl), ?_⟩
    refine ⟨⟨by have := pathN_len l p; omega, by have := pathN_len l p; omega⟩, ?_⟩
    have hpl2 := pathN_len l p
    have on2 := rowsC_set_one l k k (u := .osl 2 0 (pathN l p).length) rfl
    have len2 : ((rowsC l k).set k (.osl 2 0 (pathN l p).length)).length = l.length := by rw [List.length_set, rowsC_len]
    have pk2 := cells_ifV len2 h on2
    have get2 : ((rowsC l k).set k (.osl 2 0 (pathN l p).length)).getD k .undef = .osl 2 0 (pathN l p).length := by
     have : k < (rowsC l k).length := by rw [rowsC_len]; exact h
     simp [this]
    rw [get2] at pk2
    have qk2 := eq_true (cells_ifOk len2 h on2)
    have gk2 := cells_ifPut (u := .osl 4 0 ((pathN l p).length + 1)) len2 h on2 rfl
    rw [r_mkAgg_d, rowsC_set2] at gk2
    simp only [zN, seval, implies_true, Nat.reduceLeDiff, Nat.reduceEqDiff, reduceCtorEq, reduceIte, intD, pRules, (show (k:Int) < l.length by omega), (show k + 1 ≤ l.length by omega), pk2, qk2, gk2]
    refine ⟨.inl (by kernel_rfl), ?_⟩
    refine ⟨⟨by omega, by omega⟩, ?_⟩
    have e1 : pathN l k = pathN l p ++ [x.name] := by rw [pathN_kid ht h, ep, hp, pathI_nat, en]
    refine weak_to [4] [0] rfl (by simp) ?_ ?_
    ·simp only [zN, seval, implies_true, Nat.reduceLeDiff, Nat.reduceEqDiff, reduceCtorEq, reduceIte, intD, pRules, @a_wrap ((k:Int) + 1) (by omega)]
     try rfl
    ·show [renB [0] _ (Blk.box l.length (cellsV ((rowsC l k).set k (.osl 4 0 ((pathN l p).length + 1)))))] = _
     rw [rows_close l h]
     show AV.d (D.sl (((List.take (pathN l p).length (List.map D.str (pathN l p)) ++ [D.str x.name]).drop 0).take ((pathN l p).length + 1))) = _
     rw [List.drop_zero, take_all, e1, List.take_of_length_le (by simp), List.map_append]
     rfl
   ·have hc : ¬ 0 ≤ x.parent := of_decide_eq_false hc
    have pk := cells_ifV (rowsC_len l k) h (rowsC_one l k)
    rw [rowsC_get l k h, rowAt, if_neg (Nat.lt_irrefl k)] at pk
    have qk := eq_true (cells_ifOk (rowsC_len l k) h (rowsC_one l k))
    have gk := cells_ifPut (u := .osl 3 0 1) (rowsC_len l k) h (rowsC_one l k) rfl
    rw [r_mkAgg_d] at gk
    simp only [zN, seval, implies_true, Nat.reduceLeDiff, Nat.reduceEqDiff, reduceCtorEq, reduceIte, intD, pRules, (show (k:Int) < l.length by omega), pk, qk, gk, (show k + 1 ≤ l.length by omega)]
    refine ⟨.inl (by kernel_rfl), ?_⟩
    have e1 : pathN l k = [x.name] := by rw [pathN_kid ht h, ep, pathI_neg l (by omega), en]; rfl
    refine weak_to [3] [0] rfl (by simp) ?_ ?_
    ·simp only [zN, seval, implies_true, Nat.reduceLeDiff, Nat.reduceEqDiff, reduceCtorEq, reduceIte, intD, pRules, @a_wrap ((k:Int) + 1) (by omega)]
     try rfl
    ·show [renB [0] _ (Blk.box l.length (cellsV ((rowsC l k).set k (.osl 3 0 1))))] = _
     rw [rows_close l h]
     show AV.d (D.sl [D.str x.name]) = _
     rw [e1]
     rfl
  ·have : k = l.length := by omega
   subst this
   simp only [zN, seval, implies_true, Nat.reduceLeDiff, Nat.reduceEqDiff, reduceCtorEq, reduceIte, intD, pRules, (show ¬ (l.length:Int) < l.length by omega)]
   rw [rowsC_end]
   obtain ⟨ds, hds⟩ : ∃ ds, ds = (List.range l.length).map fun q => D.sl ((pathN l q).map .str) := ⟨_, rfl⟩
   have hdl : ds.length = l.length := by rw [hds]; simp
   have hone : ∀ x ∈ ds, x.isAgg = false := fun x hx => by
    rw [hds] at hx
    obtain ⟨q, _, rfl⟩ := List.mem_map.1 hx
    rfl
   have hfl : ∀ x ∈ ds, x.flat := fun x hx => by
    rw [hds] at hx
    obtain ⟨q, _, rfl⟩ := List.mem_map.1 hx
    intro c hc
    obtain rfl := List.mem_singleton.1 hc
    rfl
   rw [← hds, ← hdl]
   refine ⟨_, _, (weakR_arrOf 0 (ds := ds) (Nat.zero_le _) (by omega) rfl hone hfl).trans (ret_data rfl (x := .sl ds) ?_), rfl, rfl⟩
   show D.sl (List.take ds.length (ds.drop 0)) = _
   rw [List.drop_zero, List.take_length]

theorem paths_get (l : List NodeT) {k : Nat} (h : k < l.length) : ((List.range l.length).map fun q => D.sl ((pathN l q).map .str)).getD k default = .sl ((pathN l k).map .str) := by
 simp [h]
def eOfD (a b : List NodeT) : AV := .tup [.d (.sl ((eOfF a b).1.map PartT.toD)), .d (.int .i64 (eOfF a b).2)]
theorem k_nodeA (l : List NodeT) (hl : l.length ≤ 100000) (i : Int) (hi : i < l.length) : Pure Tryd.prog Gl 24 [.d (.sl (l.map NodeT.toD)), .d (.int .i64 i)] (.d (ndAt l i).toD) := k_node0 l hl i hi
theorem eOf_err {a b : List NodeT} (h : (ofF a b).2 ≠ 0) : eOfF a b = ([], (ofF a b).2) := by
 unfold ofF at h ⊢
 unfold eOfF
 by_cases h1 : checkF a = 0
 ·rw [if_pos h1] at h ⊢
  by_cases h2 : checkF b = 0
  ·rw [if_pos h2] at h; exact absurd rfl h
  ·rw [if_neg h2, if_pos h1, if_neg h2]
 ·rw [if_neg h1, if_neg h1]
theorem cont_step (a b : List NodeT) (l : List PairT) {k : Nat} (h : k < l.length) : contL a b (l.take (k + 1)) = contL a b (l.take k) ++ contP a b (l.getD k default) := by
 rw [contL, take_step l k h, List.flatMap_append, List.flatMap_singleton]; rfl
theorem k_EOf (a b : List NodeT) (ha : a.length ≤ 60) (hb : b.length ≤ 60) : Pure Tryd.prog Gl 8 [.d (.sl (a.map NodeT.toD)), .d (.sl (b.map NodeT.toD))] (eOfD a b) := by
 refine Pure.of2t2 ?_
 refine acalls_of Tryd.func8 rfl rfl (by simp [Tryd.ntmps8]) (evC_sound rfl _ _ _ _ ?_)
 simp only [Tryd.ntmps8, Tryd.results8, argEnv, List.length_nil]
 simp only [zP, seval, implies_true, Nat.reduceLeDiff, Nat.reduceEqDiff, reduceCtorEq, reduceIte, intD]
 refine callF_pure (k_MOf a b (by omega) (by omega)) ?_
 simp only [zP, seval, implies_true, Nat.reduceLeDiff, Nat.reduceEqDiff, reduceCtorEq, reduceIte, intD, ofD]
 repeat ((with_reducible refine And.intro ?_ ?_); (focus (first | omega | (simp only [lenR]; omega) | (refine qq ?_; rfl) | (refine dq ?_; kernel_rfl) | (intros; simp_all; done))))
 refine ifC.mk (fun h1 => ?_) (fun h1 => ?_)
 ·have h1 : (ofF a b).2 ≠ 0 := by simpa using h1
  refine ⟨_, _, ret_tdata rfl (x := .sl ((eOfF a b).1.map PartT.toD)) ?_, ?_, rfl⟩
  ·rw [eOf_err h1]; rfl
  ·rw [eOf_err h1]
 have h1 : (ofF a b).2 = 0 := by simpa using h1
 obtain ⟨hca, hcb, h3⟩ := of_ok h1
 have hA := Tr.of hca
 have hB := Tr.of hcb
 obtain ⟨hm, _⟩ := fin_spec hA hB
 have hin := pairs_in hm
 have hpl := pairs_le (a := a) (b := b)
 rw [h3]
 have he : eOfF a b = ((contL a b (pairsOf a b)).filter keepP, 0) := by rw [eOfF, if_pos hca, if_pos hcb]
 rw [he]
 obtain ⟨l, hl⟩ : ∃ l, l = pairsOf a b := ⟨_, rfl⟩
 rw [← hl] at hin hpl ⊢
 repeat ((with_reducible refine And.intro ?_ ?_); (focus (first | omega | (simp only [lenR]; omega) | (refine qq ?_; rfl) | (refine dq ?_; kernel_rfl) | (intros; simp_all; done))))
 refine callF_pure (k_paths a (by omega) hA.up) ?_
 simp only [zP, seval, implies_true, Nat.reduceLeDiff, Nat.reduceEqDiff, reduceCtorEq, reduceIte, intD]
 refine callF_pure (k_paths b (by omega) hB.up) ?_
 simp only [zP, seval, implies_true, Nat.reduceLeDiff, Nat.reduceEqDiff, reduceCtorEq, reduceIte, intD]
 repeat ((with_reducible refine And.intro ?_ ?_); (focus (first | omega | (simp only [lenR]; omega) | (refine qq ?_; rfl) | (refine dq ?_; kernel_rfl) | (intros; simp_all; done))))
 refine for_of l.length (fun k => [(0, .d (.sl (a.map NodeT.toD))), (1, .d (.sl (b.map NodeT.toD))), (8, .d (.sl ((List.range a.length).map fun q => .sl ((pathN a q).map .str)))), (9, .d (.sl ((List.range b.length).map fun q => .sl ((pathN b q).map .str)))), (10, .osl 0 0 (contL a b (l.take k)).length), (27, .d (.sl (l.map PairT.toD))), (28, .d (.int .i64 l.length)), (29, .d (.int .i64 k))]) (fun k => [.arr 4 ((contL a b (l.take k)).map PartT.toD)]) (fun _ => True) trivial ?_ ?_
 ·refine (weak_nils 10 4 rfl).trans ?_
  refine weak_to [] [0] rfl (by simp) ?_ rfl
  simp only [zP, seval, implies_true, Nat.reduceLeDiff, Nat.reduceEqDiff, reduceCtorEq, reduceIte, intD, Int.cast_ofNat_Int]
  try rfl
 ·intro k _ hk
  by_cases h : k < l.length
  ·obtain ⟨x, hx⟩ : ∃ x, x = l.getD k default := ⟨_, rfl⟩
   have eg : (l.map PairT.toD).getD k default = x.toD := by rw [a_getD _ _ _ h, ← hx]
   have hxm : x ∈ l := by rw [hx]; exact mem_getD h
   obtain ⟨i1, i2, i3, i4, i5⟩ := hin x hxm
   have hst := cont_step a b l h
   rw [← hx] at hst
   have hcl := cont_len a b (l.take k)
   rw [List.length_take] at hcl
   have kA := k_nodeA (Gl := Gl) a (by omega) x.a i2
   have kB := k_nodeA (Gl := Gl) b (by omega) x.b i4
   have okA := (ndV_at hca x.a i2).ok
   have okB := (ndV_at hcb x.b i4).ok
   obtain ⟨NA, hNA⟩ : ∃ n, n = ndAt a x.a := ⟨_, rfl⟩
   obtain ⟨NB, hNB⟩ : ∃ n, n = ndAt b x.b := ⟨_, rfl⟩
   rw [← hNA] at kA okA
   rw [← hNB] at kB okB
   simp only [zP, seval, implies_true, Nat.reduceLeDiff, Nat.reduceEqDiff, reduceCtorEq, reduceIte, intD, (show (k:Int) < l.length by omega), h, eg]
   repeat ((with_reducible refine And.intro ?_ ?_); (focus (first | omega | (simp only [lenR]; omega) | (refine qq ?_; rfl) | (refine dq ?_; kernel_rfl) | (intros; simp_all; done))))
   refine ifC.mk (fun hc => ?_) (fun hc => ?_)
   ·have hc : 0 ≤ x.b := of_decide_eq_true hc
    obtain ⟨q, hq⟩ : ∃ q : Nat, x.b = q := ⟨x.b.toNat, by omega⟩
    have hql : q < b.length := by omega
    have hq2 : (q : Int) < b.length := by omega
    have hpg := paths_get b hql
    have hpth : pthP a b x = pathN b q := by rw [pthP, if_pos hc, hq, Int.toNat_natCast]
    simp only [hq] at hc ⊢
    simp only [zP, seval, implies_true, Nat.reduceLeDiff, Nat.reduceEqDiff, reduceCtorEq, reduceIte, intD, hql, hq2, List.length_range, hpg]
    repeat ((with_reducible refine And.intro ?_ ?_); (focus (first | omega | (simp only [lenR]; omega) | (refine qq ?_; rfl) | (refine dq ?_; kernel_rfl) | (intros; simp_all; done))))
    refine callF_pure kA ?_
    simp only [zP, seval, implies_true, Nat.reduceLeDiff, Nat.reduceEqDiff, reduceCtorEq, reduceIte, intD]
    repeat ((with_reducible refine And.intro ?_ ?_); (focus (first | omega | (simp only [lenR]; omega) | (refine qq ?_; rfl) | (refine dq ?_; kernel_rfl) | (intros; simp_all; done))))
    refine callF_pure kB ?_
    simp only [zP, seval, implies_true, Nat.reduceLeDiff, Nat.reduceEqDiff, reduceCtorEq, reduceIte, intD]
    repeat ((with_reducible refine And.intro ?_ ?_); (focus (first | omega | (simp only [lenR]; omega) | (refine qq ?_; rfl) | (refine dq ?_; kernel_rfl) | (intros; simp_all; done))))
    rw [← hpth]
    refine callF_pure (k_parts NA NB (pthP a b x) okA okB) ?_
    simp only [zP, seval, implies_true, Nat.reduceLeDiff, Nat.reduceEqDiff, reduceCtorEq, reduceIte, intD]
    repeat ((with_reducible refine And.intro ?_ ?_); (focus (first | omega | (simp only [lenR]; omega) | (refine qq ?_; rfl) | (refine dq ?_; kernel_rfl) | (intros; simp_all; done))))
    have hpl2 := parts_len NA NB (pthP a b x)
    refine ⟨⟨by omega, by omega⟩, ?_⟩
    have hst2 : contL a b (l.take (k + 1)) = contL a b (l.take k) ++ partsF NA NB (pthP a b x) := by rw [hst, contP, ← hNA, ← hNB]
    rw [hst2, List.length_append, List.map_append]
    refine weak_to [] [2] rfl (by simp) ?_ ?_
    ·simp only [zP, seval, implies_true, Nat.reduceLeDiff, Nat.reduceEqDiff, reduceCtorEq, reduceIte, intD, @a_wrap ((k:Int) + 1) (by omega)]
     try rfl
    ·show [Blk.arr 4 (List.take (contL a b (List.take k l)).length (List.map PartT.toD (contL a b (List.take k l))) ++ List.map PartT.toD (partsF NA NB (pthP a b x)))] = _
     rw [take_all]
   ·have hc : ¬ 0 ≤ x.b := of_decide_eq_false hc
    obtain ⟨q, hq⟩ : ∃ q : Nat, x.a = q := ⟨x.a.toNat, by omega⟩
    have hql : q < a.length := by omega
    have hq2 : (q : Int) < a.length := by omega
    have hpg := paths_get a hql
    have hpth : pthP a b x = pathN a q := by rw [pthP, if_neg hc, hq, Int.toNat_natCast]
    rw [hq] at kA
    simp only [hq] at hc ⊢
    simp only [zP, seval, implies_true, Nat.reduceLeDiff, Nat.reduceEqDiff, reduceCtorEq, reduceIte, intD, hql, hq2, List.length_range, hpg]
    repeat ((with_reducible refine And.intro ?_ ?_); (focus (first | omega | (simp only [lenR]; omega) | (refine qq ?_; rfl) | (refine dq ?_; kernel_rfl) | (intros; simp_all; done))))
    refine callF_pure kA ?_
    simp only [zP, seval, implies_true, Nat.reduceLeDiff, Nat.reduceEqDiff, reduceCtorEq, reduceIte, intD]
    repeat ((with_reducible refine And.intro ?_ ?_); (focus (first | omega | (simp only [lenR]; omega) | (refine qq ?_; rfl) | (refine dq ?_; kernel_rfl) | (intros; simp_all; done))))
    refine callF_pure kB ?_
    simp only [zP, seval, implies_true, Nat.reduceLeDiff, Nat.reduceEqDiff, reduceCtorEq, reduceIte, intD]
    repeat ((with_reducible refine And.intro ?_ ?_); (focus (first | omega | (simp only [lenR]; omega) | (refine qq ?_; rfl) | (refine dq ?_; kernel_rfl) | (intros; simp_all; done))))
    rw [← hpth]
    refine callF_pure (k_parts NA NB (pthP a b x) okA okB) ?_
    simp only [zP, seval, implies_true, Nat.reduceLeDiff, Nat.reduceEqDiff, reduceCtorEq, reduceIte, intD]
    repeat ((with_reducible refine And.intro ?_ ?_); (focus (first | omega | (simp only [lenR]; omega) | (refine qq ?_; rfl) | (refine dq ?_; kernel_rfl) | (intros; simp_all; done))))
    have hpl2 := parts_len NA NB (pthP a b x)
    refine ⟨⟨by omega, by omega⟩, ?_⟩
    have hst2 : contL a b (l.take (k + 1)) = contL a b (l.take k) ++ partsF NA NB (pthP a b x) := by rw [hst, contP, ← hNA, ← hNB]
    rw [hst2, List.length_append, List.map_append]
    refine weak_to [] [2] rfl (by simp) ?_ ?_
    ·simp only [zP, seval, implies_true, Nat.reduceLeDiff, Nat.reduceEqDiff, reduceCtorEq, reduceIte, intD, @a_wrap ((k:Int) + 1) (by omega)]
     try rfl
    ·show [Blk.arr 4 (List.take (contL a b (List.take k l)).length (List.map PartT.toD (contL a b (List.take k l))) ++ List.map PartT.toD (partsF NA NB (pthP a b x)))] = _
     rw [take_all]
  ·have : k = l.length := by omega
   subst this
   simp only [zP, seval, implies_true, Nat.reduceLeDiff, Nat.reduceEqDiff, reduceCtorEq, reduceIte, intD, (show ¬ (l.length:Int) < l.length by omega)]
   rw [List.take_length]
   have hcl := cont_len a b l
   refine callF_go ((k_Delete (contL a b l) (by omega)).mono fun r s hrs => ?_)
   obtain ⟨rfl, ys, rfl⟩ := hrs
   simp only [zP, seval, implies_true, Nat.reduceLeDiff, Nat.reduceEqDiff, reduceCtorEq, reduceIte, intD]
   exact ⟨_, _, ret_t2, rfl, rfl⟩

theorem k_light (a b : List NodeT) : Pure Tryd.prog Gl 6 [.d (.sl (a.map NodeT.toD)), .d (.sl (b.map NodeT.toD))] (.d (.bool (decide (a.length ≤ 60) && decide (b.length ≤ 60)))) := by
 refine Pure.of2 ?_
 refine acalls_of Tryd.func6 rfl rfl (by simp [Tryd.ntmps6]) (evC_sound rfl _ _ _ _ ?_)
 simp only [Tryd.ntmps6, Tryd.results6, argEnv, List.length_nil]
 simp only [zP, seval, implies_true, Nat.reduceLeDiff, Nat.reduceEqDiff, reduceCtorEq, reduceIte, intD]
 repeat ((with_reducible refine And.intro ?_ ?_); (focus (first | omega | (simp only [lenR]; omega) | (refine qq ?_; rfl) | (refine dq ?_; kernel_rfl) | (intros; simp_all; done))))
 refine ⟨_, _, ret_d, ?_, rfl⟩
 have e1 : decide ((a.length : Int) ≤ 60) = decide (a.length ≤ 60) := decide_eq_decide.2 (by omega)
 have e2 : decide ((b.length : Int) ≤ 60) = decide (b.length ≤ 60) := decide_eq_decide.2 (by omega)
 rw [e1, e2]
theorem remI (a b : Int) : binD .rem (.int .i64 a) (.int .i64 b) = .int .i64 (a.tmod b) := rfl
theorem quoI2 (a b : Int) : binD .quo (.int .i64 a) (.int .i64 b) = .int .i64 (IntKind.i64.wrap (a.tdiv b)) := rfl
theorem k_Common (l : List NodeT) (hl : l.length ≤ 60) (hc : ∀ x ∈ l, x.count ≤ 9223372036854775807) : Pure Tryd.prog Gl 9 [.d (.sl (l.map NodeT.toD))] (.d (.bool (comN l 1))) := by
 refine Pure.of1 ?_
 refine acalls_of Tryd.func9 rfl rfl (by simp [Tryd.ntmps9]) (evC_sound rfl _ _ _ _ ?_)
 simp only [Tryd.ntmps9, Tryd.results9, argEnv, List.length_nil]
 simp only [zP, seval, implies_true, Nat.reduceLeDiff, Nat.reduceEqDiff, reduceCtorEq, reduceIte, intD]
 refine loop_of (τ := Nat × Nat) (fun u => [(0, .d (.sl (l.map NodeT.toD))), (3, .d (.int .i64 u.2)), (4, .d (.int .i64 u.1))]) (fun _ => []) (fun u => u.1 ≤ l.length ∧ 1 ≤ u.2 ∧ u.2 ≤ 1000000000000000 ∧ comN (l.drop u.1) u.2 = comN l 1) (fun u => l.length - u.1) (0, 1) ⟨Nat.zero_le _, Nat.le_refl _, by decide, rfl⟩ ?_ ?_
 ·refine weak_to [] [] rfl (by simp) ?_ rfl
  simp only [zP, seval, implies_true, Nat.reduceLeDiff, Nat.reduceEqDiff, reduceCtorEq, reduceIte, intD, Int.cast_ofNat_Int]
  try rfl
 ·rintro ⟨k, m⟩ ⟨h1, h2, h3, h4⟩
  simp only at h1 h2 h3 h4
  by_cases h : k < l.length
  ·obtain ⟨x, hx⟩ : ∃ x, x = l.getD k default := ⟨_, rfl⟩
   have eg : (l.map NodeT.toD).getD k default = x.toD := by rw [a_getD _ _ _ h, ← hx]
   have hxc := hc x (by rw [hx]; exact mem_getD h)
   have hd : l.drop k = x :: l.drop (k + 1) := by
    rw [List.drop_eq_getElem_cons h, hx]; simp [h]
   rw [hd, comN] at h4
   simp only [zP, seval, implies_true, Nat.reduceLeDiff, Nat.reduceEqDiff, reduceCtorEq, reduceIte, intD, (show (k:Int) < l.length by omega), h, eg]
   repeat ((with_reducible refine And.intro ?_ ?_); (focus (first | omega | (simp only [lenR]; omega) | (refine qq ?_; rfl) | (refine dq ?_; kernel_rfl) | (intros; simp_all; done))))
   refine ifC.mk (fun hc => ?_) (fun hc => ?_)
   ·have hc : x.count < 1 := of_decide_eq_true hc
    rw [if_pos hc] at h4
    refine ⟨(k + 1, m), ⟨h, h2, h3, h4⟩, by simp only; omega, ?_⟩
    refine weak_to [] [] rfl (by simp) ?_ rfl
    simp only [zP, seval, implies_true, Nat.reduceLeDiff, Nat.reduceEqDiff, reduceCtorEq, reduceIte, intD, @a_wrap ((k:Int) + 1) (by omega)]
    try rfl
   ·have hc : ¬ x.count < 1 := of_decide_eq_false hc
    rw [if_neg hc] at h4
    obtain ⟨c, hcn⟩ : ∃ c : Nat, x.count = c := ⟨x.count.toNat, by omega⟩
    rw [hcn, Int.toNat_natCast] at h4
    refine loop_of (τ := Nat × Nat) (fun u => [(0, .d (.sl (l.map NodeT.toD))), (3, .d (.int .i64 m)), (4, .d (.int .i64 k)), (5, .d (.int .i64 c)), (6, .d (.int .i64 u.1)), (7, .d (.int .i64 u.2))]) (fun _ => []) (fun u => Nat.gcd u.1 u.2 = Nat.gcd m c ∧ u.1 ≤ 9223372036854775807 ∧ u.2 ≤ 9223372036854775807) (fun u => u.2) (m, c) ⟨rfl, by simp only; omega, by simp only; omega⟩ ?_ ?_
    ·refine weak_to [] [] rfl (by simp) ?_ rfl
     simp only [zP, seval, implies_true, Nat.reduceLeDiff, Nat.reduceEqDiff, reduceCtorEq, reduceIte, intD, hcn]
     try rfl
    ·rintro ⟨p, q⟩ ⟨g1, g2, g3⟩
     simp only at g1 g2 g3
     by_cases hq : q = 0
     ·subst hq
      rw [Nat.gcd_zero_right] at g1
      have g0 : 0 < Nat.gcd m c := Nat.gcd_pos_of_pos_left _ (by omega)
      have hd1 : c / p ≤ c := Nat.div_le_self _ _
      have hd2 : 1000000000000000 / m ≤ 1000000000000000 := Nat.div_le_self _ _
      have n1 : (p : Int) ≠ 0 := by omega
      have n2 : (m : Int) ≠ 0 := by omega
      obtain ⟨u, hu⟩ : ∃ u, u = c / p := ⟨_, rfl⟩
      obtain ⟨v, hv⟩ : ∃ v, v = 1000000000000000 / m := ⟨_, rfl⟩
      have q1 : IntKind.i64.wrap (Int.tdiv (c : Int) (p : Int)) = (u : Int) := by
       rw [show Int.tdiv (c : Int) (p : Int) = (u : Int) from by rw [hu]; rfl]
       exact @a_wrap _ (by omega)
      have q2 : IntKind.i64.wrap (Int.tdiv 1000000000000000 (m : Int)) = (v : Int) := by
       rw [show Int.tdiv 1000000000000000 (m : Int) = (v : Int) from by rw [hv]; rfl]
       exact @a_wrap _ (by omega)
      rw [← g1, ← hu, ← hv] at h4
      simp only [zP, seval, implies_true, Nat.reduceLeDiff, Nat.reduceEqDiff, reduceCtorEq, reduceIte, intD, quoI2, q1, q2, n1, n2]
      repeat ((with_reducible refine And.intro ?_ ?_); (focus (first | omega | (simp only [lenR]; omega) | (refine qq ?_; rfl) | (refine dq ?_; kernel_rfl) | (intros; simp_all; done))))
      refine ifC.mk (fun hb => ?_) (fun hb => ?_)
      ·have hb : v < u := by have := of_decide_eq_true hb; omega
       rw [if_pos hb] at h4
       refine ⟨_, _, ret_d, ?_, rfl⟩
       rw [← h4]
      ·have hb : ¬ v < u := by have := of_decide_eq_false hb; omega
       rw [if_neg hb] at h4
       have hmu : m * u ≤ 1000000000000000 := by
        have h5 : u ≤ 1000000000000000 / m := by omega
        have h6 := (Nat.le_div_iff_mul_le (by omega)).1 h5
        rw [Nat.mul_comm]; exact h6
       have hu1 : 1 ≤ u := by rw [hu]; exact Nat.div_pos (by rw [g1]; exact Nat.gcd_le_right _ (by omega)) (by omega)
       have hm1 : 1 ≤ m * u := Nat.mul_pos (by omega) hu1
       have q3 : IntKind.i64.wrap ((m : Int) * (u : Int)) = ((m * u : Nat) : Int) := by
        rw [← Int.natCast_mul]
        exact @a_wrap _ (by omega)
       simp only [zP, seval, implies_true, Nat.reduceLeDiff, Nat.reduceEqDiff, reduceCtorEq, reduceIte, intD, quoI2, q1, n1, q3]
       repeat ((with_reducible refine And.intro ?_ ?_); (focus (first | omega | (simp only [lenR]; omega) | (refine qq ?_; rfl) | (refine dq ?_; kernel_rfl) | (intros; simp_all; done))))
       refine ⟨(k + 1, m * u), ⟨h, hm1, hmu, h4⟩, by simp only; omega, ?_⟩
       refine weak_to [] [] rfl (by simp) ?_ rfl
       simp only [zP, seval, implies_true, Nat.reduceLeDiff, Nat.reduceEqDiff, reduceCtorEq, reduceIte, intD, @a_wrap ((k:Int) + 1) (by omega)]
       try rfl
     ·have e1 : Int.tmod (p : Int) (q : Int) = ((p % q : Nat) : Int) := rfl
      have hml := Nat.mod_lt p (show 0 < q by omega)
      have n1 : (q : Int) ≠ 0 := by omega
      simp only [zP, seval, implies_true, Nat.reduceLeDiff, Nat.reduceEqDiff, reduceCtorEq, reduceIte, intD, (show (0:Int) < (q:Int) by omega), remI, e1, n1]
      repeat ((with_reducible refine And.intro ?_ ?_); (focus (first | omega | (simp only [lenR]; omega) | (refine qq ?_; rfl) | (refine dq ?_; kernel_rfl) | (intros; simp_all; done))))
      refine ⟨(q, p % q), ⟨?_, by simp only; omega, by simp only; omega⟩, hml, ?_⟩
      ·simp only
       rw [← g1, Nat.gcd_comm, ← Nat.gcd_rec, Nat.gcd_comm]
      ·refine weak_to [] [] rfl (by simp) ?_ rfl
       simp only [zP, seval, implies_true, Nat.reduceLeDiff, Nat.reduceEqDiff, reduceCtorEq, reduceIte, intD]
       try rfl
  ·have : k = l.length := by omega
   subst this
   rw [List.drop_length] at h4
   simp only [zP, seval, implies_true, Nat.reduceLeDiff, Nat.reduceEqDiff, reduceCtorEq, reduceIte, intD, (show ¬ (l.length:Int) < l.length by omega)]
   refine ⟨_, _, ret_d, ?_, rfl⟩
   rw [← h4]; rfl

def sF : List UInt8 := [102]
def lfN (count self : Int) : NodeT := ⟨-1, sF, self, self, count⟩
theorem k_leaf (count self : Int) : Pure Tryd.prog Gl 19 [.d (.int .i64 count), .d (.int .i64 self)] (.d (.sl ([lfN count self].map NodeT.toD))) := by
 refine Pure.of2 ?_
 refine acalls_of Tryd.func19 rfl rfl (by simp [Tryd.ntmps19]) (evC_sound rfl _ _ _ _ ?_)
 simp only [Tryd.ntmps19, Tryd.results19, argEnv, List.length_nil]
 simp only [zP, seval, implies_true, Nat.reduceLeDiff, Nat.reduceEqDiff, reduceCtorEq, reduceIte, intD]
 repeat ((with_reducible refine And.intro ?_ ?_); (focus (first | omega | (simp only [lenR]; omega) | (refine qq ?_; rfl) | (refine dq ?_; kernel_rfl) | (intros; simp_all; done))))
 refine ⟨_, _, ret_data rfl (x := .sl ([lfN count self].map NodeT.toD)) rfl, rfl, rfl⟩
def ptN (cause : List UInt8) (n d : Int) : PartT := ⟨[sF], cause, ⟨n, d⟩⟩
theorem k_part (cause : List UInt8) (n d : Int) : Pure Tryd.prog Gl 21 [.d (.str cause), .d (.int .i64 n), .d (.int .i64 d)] (.d (ptN cause n d).toD) := by
 refine Pure.of3 ?_
 refine acalls_of Tryd.func21 rfl rfl (by simp [Tryd.ntmps21]) (evC_sound rfl _ _ _ _ ?_)
 simp only [Tryd.ntmps21, Tryd.results21, argEnv, List.length_nil]
 simp only [zP, seval, implies_true, Nat.reduceLeDiff, Nat.reduceEqDiff, reduceCtorEq, reduceIte, intD]
 repeat ((with_reducible refine And.intro ?_ ?_); (focus (first | omega | (simp only [lenR]; omega) | (refine qq ?_; rfl) | (refine dq ?_; kernel_rfl) | (intros; simp_all; done))))
 refine ⟨_, _, ret_data rfl (x := (ptN cause n d).toD) rfl, rfl, rfl⟩
theorem beg_self (p : List (List UInt8)) : begF p p = true := by
 unfold begF
 simp
theorem k_ESameB (x : List PartT) (n : Nat) (hn : x.length = n) (hx : ∀ v ∈ x, v.path.length < 1000000) (hl : x.length < 1000000) (B : Blk) (hB : ArrOrFrz 4 (x.map PartT.toD) B) : ACalls Tryd.prog Gl 20 [.d (.sl (x.map PartT.toD)), .osl 0 0 n] [B] (fun r s => r = .d (.bool true) ∧ s = [B]) := by
 subst hn
 have hn : x.length = x.length := rfl
 rcases hB with rfl | rfl
 ·refine acalls_of Tryd.func20 rfl rfl (by simp [Tryd.ntmps20]) (evC_sound rfl _ _ _ _ ?_)
  simp only [Tryd.ntmps20, Tryd.results20, argEnv, List.length_nil]
  simp only [zP, seval, implies_true, Nat.reduceLeDiff, Nat.reduceEqDiff, reduceCtorEq, reduceIte, intD]
  simp only [zP, seval, implies_true, Nat.reduceLeDiff, Nat.reduceEqDiff, reduceCtorEq, reduceIte, intD, hn, bne_self_eq_false]
  repeat ((with_reducible refine And.intro ?_ ?_); (focus (first | omega | (simp only [lenR]; omega) | (refine qq ?_; rfl) | (refine dq ?_; kernel_rfl) | (intros; simp_all; done))))
  refine for_of x.length (fun j => [(0, .d (.sl (x.map PartT.toD))), (1, .osl 0 0 x.length), (5, .d (.int .i64 j))]) (fun _ => [.arr 4 (x.map PartT.toD)]) (fun _ => True) trivial ?_ ?_
  ·refine weak_to [] [0] rfl (by simp) ?_ rfl
   simp only [zP, seval, implies_true, Nat.reduceLeDiff, Nat.reduceEqDiff, reduceCtorEq, reduceIte, intD, Int.cast_ofNat_Int]
   all_goals rfl
  ·intro j _ hjl
   by_cases h : j < x.length
   ·obtain ⟨u, hu⟩ : ∃ u, u = x.getD j default := ⟨_, rfl⟩
    have g1 : (x.map PartT.toD).getD j default = u.toD := by rw [a_getD _ _ _ h, ← hu]
    have hul := hx u (by rw [hu]; exact mem_getD h)
    simp only [zP, seval, implies_true, Nat.reduceLeDiff, Nat.reduceEqDiff, reduceCtorEq, reduceIte, intD, (show (j:Int) < x.length by omega), h, g1, bne_self_eq_false, beq_self_eq_true]
    repeat ((with_reducible refine And.intro ?_ ?_); (focus (first | omega | (simp only [lenR]; omega) | (refine qq ?_; rfl) | (refine dq ?_; kernel_rfl) | (intros; simp_all; done))))
    refine callG_pure (fun _ => k_Begins u.path u.path hul hul) ?_
    rw [beg_self]
    simp only [zP, seval, implies_true, Nat.reduceLeDiff, Nat.reduceEqDiff, reduceCtorEq, reduceIte, intD]
    repeat ((with_reducible refine And.intro ?_ ?_); (focus (first | omega | (simp only [lenR]; omega) | (refine qq ?_; rfl) | (refine dq ?_; kernel_rfl) | (intros; simp_all; done))))
    refine weak_to [] [0] rfl (by simp) ?_ rfl
    simp only [zP, seval, implies_true, Nat.reduceLeDiff, Nat.reduceEqDiff, reduceCtorEq, reduceIte, intD, @a_wrap ((j:Int) + 1) (by omega)]
    all_goals rfl
   ·have : j = x.length := by omega
    subst this
    simp only [zP, seval, implies_true, Nat.reduceLeDiff, Nat.reduceEqDiff, reduceCtorEq, reduceIte, intD, (show ¬ (x.length:Int) < x.length by omega)]
    refine ⟨_, _, weakR_to [] [0] rfl (by simp) (show renV _ _ _ = AV.d _ from rfl) rfl, ?_, rfl⟩
    rfl
 ·refine acalls_of Tryd.func20 rfl rfl (by simp [Tryd.ntmps20]) (evC_sound rfl _ _ _ _ ?_)
  simp only [Tryd.ntmps20, Tryd.results20, argEnv, List.length_nil]
  simp only [zP, seval, implies_true, Nat.reduceLeDiff, Nat.reduceEqDiff, reduceCtorEq, reduceIte, intD]
  simp only [zP, seval, implies_true, Nat.reduceLeDiff, Nat.reduceEqDiff, reduceCtorEq, reduceIte, intD, hn, bne_self_eq_false]
  repeat ((with_reducible refine And.intro ?_ ?_); (focus (first | omega | (simp only [lenR]; omega) | (refine qq ?_; rfl) | (refine dq ?_; kernel_rfl) | (intros; simp_all; done))))
  refine for_of x.length (fun j => [(0, .d (.sl (x.map PartT.toD))), (1, .osl 0 0 x.length), (5, .d (.int .i64 j))]) (fun _ => [.frz 4 (x.map PartT.toD)]) (fun _ => True) trivial ?_ ?_
  ·refine weak_to [] [0] rfl (by simp) ?_ rfl
   simp only [zP, seval, implies_true, Nat.reduceLeDiff, Nat.reduceEqDiff, reduceCtorEq, reduceIte, intD, Int.cast_ofNat_Int]
   all_goals rfl
  ·intro j _ hjl
   by_cases h : j < x.length
   ·obtain ⟨u, hu⟩ : ∃ u, u = x.getD j default := ⟨_, rfl⟩
    have g1 : (x.map PartT.toD).getD j default = u.toD := by rw [a_getD _ _ _ h, ← hu]
    have hul := hx u (by rw [hu]; exact mem_getD h)
    simp only [zP, seval, implies_true, Nat.reduceLeDiff, Nat.reduceEqDiff, reduceCtorEq, reduceIte, intD, (show (j:Int) < x.length by omega), h, g1, bne_self_eq_false, beq_self_eq_true]
    repeat ((with_reducible refine And.intro ?_ ?_); (focus (first | omega | (simp only [lenR]; omega) | (refine qq ?_; rfl) | (refine dq ?_; kernel_rfl) | (intros; simp_all; done))))
    refine callG_pure (fun _ => k_Begins u.path u.path hul hul) ?_
    rw [beg_self]
    simp only [zP, seval, implies_true, Nat.reduceLeDiff, Nat.reduceEqDiff, reduceCtorEq, reduceIte, intD]
    repeat ((with_reducible refine And.intro ?_ ?_); (focus (first | omega | (simp only [lenR]; omega) | (refine qq ?_; rfl) | (refine dq ?_; kernel_rfl) | (intros; simp_all; done))))
    refine weak_to [] [0] rfl (by simp) ?_ rfl
    simp only [zP, seval, implies_true, Nat.reduceLeDiff, Nat.reduceEqDiff, reduceCtorEq, reduceIte, intD, @a_wrap ((j:Int) + 1) (by omega)]
    all_goals rfl
   ·have : j = x.length := by omega
    subst this
    simp only [zP, seval, implies_true, Nat.reduceLeDiff, Nat.reduceEqDiff, reduceCtorEq, reduceIte, intD, (show ¬ (x.length:Int) < x.length by omega)]
    refine ⟨_, _, weakR_to [] [0] rfl (by simp) (show renV _ _ _ = AV.d _ from rfl) rfl, ?_, rfl⟩
    rfl

theorem ex1 : eOfF [lfN 10 100] [lfN 12 150] = ([ptN sCount 20 1, ptN sMean 30 1], 0) := by decide +kernel
theorem ex2 : eOfF [] [lfN 2 8] = ([ptN sNew 8 1], 0) := by decide +kernel
theorem ex3 : eOfF [lfN 3 10] [lfN 2 10] = ([ptN sCount (-10) 3, ptN sMean 10 3], 0) := by decide +kernel
theorem ex4 : diffF [lfN 10 100] [lfN 12 150] = (50, 0) := by decide +kernel
theorem ex5 : topF [ptN sCount 20 1, ptN sMean 30 1] 1 = ([ptN sMean 30 1, ⟨[], sRest, ⟨20, 1⟩⟩], 0) := by decide +kernel
theorem k_awake : Pure Tryd.prog Gl 7 [] (.d (.bool true)) := by
 refine Pure.of0 ?_
 refine acalls_of Tryd.func7 rfl rfl (by simp [Tryd.ntmps7]) (evC_sound rfl _ _ _ _ ?_)
 simp only [Tryd.ntmps7, Tryd.results7, argEnv, List.length_nil]
 simp only [zP, seval, implies_true, Nat.reduceLeDiff, Nat.reduceEqDiff, reduceCtorEq, reduceIte, intD]
 refine callF_pure (k_leaf _ _) ?_
 simp only [zP, seval, implies_true, Nat.reduceLeDiff, Nat.reduceEqDiff, reduceCtorEq, reduceIte, intD]
 repeat ((with_reducible refine And.intro ?_ ?_); (focus (first | omega | (simp only [lenR]; omega) | (refine qq ?_; rfl) | (refine dq ?_; kernel_rfl) | (intros; simp_all; done))))
 refine callF_pure (k_leaf _ _) ?_
 simp only [zP, seval, implies_true, Nat.reduceLeDiff, Nat.reduceEqDiff, reduceCtorEq, reduceIte, intD]
 repeat ((with_reducible refine And.intro ?_ ?_); (focus (first | omega | (simp only [lenR]; omega) | (refine qq ?_; rfl) | (refine dq ?_; kernel_rfl) | (intros; simp_all; done))))
 refine callF_pure (k_EOf [lfN 10 100] [lfN 12 150] (by decide) (by decide)) ?_
 rw [eOfD, ex1]
 simp only [zP, seval, implies_true, Nat.reduceLeDiff, Nat.reduceEqDiff, reduceCtorEq, reduceIte, intD]
 repeat ((with_reducible refine And.intro ?_ ?_); (focus (first | omega | (simp only [lenR]; omega) | (refine qq ?_; rfl) | (refine dq ?_; kernel_rfl) | (intros; simp_all; done))))
 refine callF_pure (k_leaf _ _) ?_
 simp only [zP, seval, implies_true, Nat.reduceLeDiff, Nat.reduceEqDiff, reduceCtorEq, reduceIte, intD]
 repeat ((with_reducible refine And.intro ?_ ?_); (focus (first | omega | (simp only [lenR]; omega) | (refine qq ?_; rfl) | (refine dq ?_; kernel_rfl) | (intros; simp_all; done))))
 refine callF_dataE (as' := [.d (.sl ([].map NodeT.toD)), .d (.sl ([lfN 2 8].map NodeT.toD))]) (σ' := []) (k_EOf [] [lfN 2 8] (by decide) (by decide)) rfl rfl ?_
 rw [eOfD, ex2]
 simp only [zP, seval, implies_true, Nat.reduceLeDiff, Nat.reduceEqDiff, reduceCtorEq, reduceIte, intD]
 repeat ((with_reducible refine And.intro ?_ ?_); (focus (first | omega | (simp only [lenR]; omega) | (refine qq ?_; rfl) | (refine dq ?_; kernel_rfl) | (intros; simp_all; done))))
 refine callF_pure (k_leaf _ _) ?_
 simp only [zP, seval, implies_true, Nat.reduceLeDiff, Nat.reduceEqDiff, reduceCtorEq, reduceIte, intD]
 repeat ((with_reducible refine And.intro ?_ ?_); (focus (first | omega | (simp only [lenR]; omega) | (refine qq ?_; rfl) | (refine dq ?_; kernel_rfl) | (intros; simp_all; done))))
 refine callF_pure (k_leaf _ _) ?_
 simp only [zP, seval, implies_true, Nat.reduceLeDiff, Nat.reduceEqDiff, reduceCtorEq, reduceIte, intD]
 repeat ((with_reducible refine And.intro ?_ ?_); (focus (first | omega | (simp only [lenR]; omega) | (refine qq ?_; rfl) | (refine dq ?_; kernel_rfl) | (intros; simp_all; done))))
 refine callF_pure (k_EOf [lfN 3 10] [lfN 2 10] (by decide) (by decide)) ?_
 rw [eOfD, ex3]
 simp only [zP, seval, implies_true, Nat.reduceLeDiff, Nat.reduceEqDiff, reduceCtorEq, reduceIte, intD]
 repeat ((with_reducible refine And.intro ?_ ?_); (focus (first | omega | (simp only [lenR]; omega) | (refine qq ?_; rfl) | (refine dq ?_; kernel_rfl) | (intros; simp_all; done))))
 refine callF_pure (k_leaf _ _) ?_
 simp only [zP, seval, implies_true, Nat.reduceLeDiff, Nat.reduceEqDiff, reduceCtorEq, reduceIte, intD]
 repeat ((with_reducible refine And.intro ?_ ?_); (focus (first | omega | (simp only [lenR]; omega) | (refine qq ?_; rfl) | (refine dq ?_; kernel_rfl) | (intros; simp_all; done))))
 refine callF_pure (k_leaf _ _) ?_
 simp only [zP, seval, implies_true, Nat.reduceLeDiff, Nat.reduceEqDiff, reduceCtorEq, reduceIte, intD]
 repeat ((with_reducible refine And.intro ?_ ?_); (focus (first | omega | (simp only [lenR]; omega) | (refine qq ?_; rfl) | (refine dq ?_; kernel_rfl) | (intros; simp_all; done))))
 refine callF_pure (k_Diff [lfN 10 100] [lfN 12 150] (by decide) (by decide)) ?_
 rw [ex4]
 simp only [zP, seval, implies_true, Nat.reduceLeDiff, Nat.reduceEqDiff, reduceCtorEq, reduceIte, intD]
 repeat ((with_reducible refine And.intro ?_ ?_); (focus (first | omega | (simp only [lenR]; omega) | (refine qq ?_; rfl) | (refine dq ?_; kernel_rfl) | (intros; simp_all; done))))
 refine callF_pure (k_Top [ptN sCount 20 1, ptN sMean 30 1] 1 (by
  intro x hx
  rcases List.mem_cons.1 hx with rfl | hx
  ·exact ⟨by decide, by decide, by decide, by decide⟩
  ·obtain rfl := List.mem_singleton.1 hx
   exact ⟨by decide, by decide, by decide, by decide⟩) (by decide)) ?_
 rw [topD, ex5]
 simp only [zP, seval, implies_true, Nat.reduceLeDiff, Nat.reduceEqDiff, reduceCtorEq, reduceIte, intD]
 repeat ((with_reducible refine And.intro ?_ ?_); (focus (first | omega | (simp only [lenR]; omega) | (refine qq ?_; rfl) | (refine dq ?_; kernel_rfl) | (intros; simp_all; done))))
 refine callG_pure (fun _ => k_part _ _ _) ?_
 simp only [zP, seval, implies_true, Nat.reduceLeDiff, Nat.reduceEqDiff, reduceCtorEq, reduceIte, intD]
 repeat ((with_reducible refine And.intro ?_ ?_); (focus (first | omega | (simp only [lenR]; omega) | (refine qq ?_; rfl) | (refine dq ?_; kernel_rfl) | (intros; simp_all; done))))
 refine callG_pure (fun _ => k_part _ _ _) ?_
 simp only [zP, seval, implies_true, Nat.reduceLeDiff, Nat.reduceEqDiff, reduceCtorEq, reduceIte, intD]
 repeat ((with_reducible refine And.intro ?_ ?_); (focus (first | omega | (simp only [lenR]; omega) | (refine qq ?_; rfl) | (refine dq ?_; kernel_rfl) | (intros; simp_all; done))))
 refine callG_at1 (v := .bool true) 0 (fun B hB => k_ESameB [ptN sCount 20 1, ptN sMean 30 1] 2 rfl (by decide) (by decide) B hB) (fun s => rfl) rfl ?_
 simp only [zP, seval, implies_true, Nat.reduceLeDiff, Nat.reduceEqDiff, reduceCtorEq, reduceIte, intD, beq_self_eq_true]
 repeat ((with_reducible refine And.intro ?_ ?_); (focus (first | omega | (simp only [lenR]; omega) | (refine qq ?_; rfl) | (refine dq ?_; kernel_rfl) | (intros; simp_all; done))))
 refine callG_pure (fun _ => k_part _ _ _) ?_
 simp only [zP, seval, implies_true, Nat.reduceLeDiff, Nat.reduceEqDiff, reduceCtorEq, reduceIte, intD]
 repeat ((with_reducible refine And.intro ?_ ?_); (focus (first | omega | (simp only [lenR]; omega) | (refine qq ?_; rfl) | (refine dq ?_; kernel_rfl) | (intros; simp_all; done))))
 refine callG_at1 (v := .bool true) 1 (fun B hB => k_ESameB [ptN sNew 8 1] 1 rfl (by decide) (by decide) B hB) (fun s => rfl) rfl ?_
 simp only [zP, seval, implies_true, Nat.reduceLeDiff, Nat.reduceEqDiff, reduceCtorEq, reduceIte, intD, beq_self_eq_true]
 repeat ((with_reducible refine And.intro ?_ ?_); (focus (first | omega | (simp only [lenR]; omega) | (refine qq ?_; rfl) | (refine dq ?_; kernel_rfl) | (intros; simp_all; done))))
 refine callG_pure (fun _ => k_part _ _ _) ?_
 simp only [zP, seval, implies_true, Nat.reduceLeDiff, Nat.reduceEqDiff, reduceCtorEq, reduceIte, intD]
 repeat ((with_reducible refine And.intro ?_ ?_); (focus (first | omega | (simp only [lenR]; omega) | (refine qq ?_; rfl) | (refine dq ?_; kernel_rfl) | (intros; simp_all; done))))
 refine callG_pure (fun _ => k_part _ _ _) ?_
 simp only [zP, seval, implies_true, Nat.reduceLeDiff, Nat.reduceEqDiff, reduceCtorEq, reduceIte, intD]
 repeat ((with_reducible refine And.intro ?_ ?_); (focus (first | omega | (simp only [lenR]; omega) | (refine qq ?_; rfl) | (refine dq ?_; kernel_rfl) | (intros; simp_all; done))))
 refine callG_at1 (v := .bool true) 2 (fun B hB => k_ESameB [ptN sCount (-10) 3, ptN sMean 10 3] 2 rfl (by decide) (by decide) B hB) (fun s => rfl) rfl ?_
 simp only [zP, seval, implies_true, Nat.reduceLeDiff, Nat.reduceEqDiff, reduceCtorEq, reduceIte, intD, beq_self_eq_true]
 repeat ((with_reducible refine And.intro ?_ ?_); (focus (first | omega | (simp only [lenR]; omega) | (refine qq ?_; rfl) | (refine dq ?_; kernel_rfl) | (intros; simp_all; done))))
 refine callG_pure (fun _ => k_part _ _ _) ?_
 simp only [zP, seval, implies_true, Nat.reduceLeDiff, Nat.reduceEqDiff, reduceCtorEq, reduceIte, intD]
 repeat ((with_reducible refine And.intro ?_ ?_); (focus (first | omega | (simp only [lenR]; omega) | (refine qq ?_; rfl) | (refine dq ?_; kernel_rfl) | (intros; simp_all; done))))
 refine callG_at1 (v := .bool true) 3 (fun B hB => k_ESameB [ptN sMean 30 1, ⟨[], sRest, ⟨20, 1⟩⟩] 2 rfl (by decide) (by decide) B hB) (fun s => rfl) rfl ?_
 simp only [zP, seval, implies_true, Nat.reduceLeDiff, Nat.reduceEqDiff, reduceCtorEq, reduceIte, intD, beq_self_eq_true]
 repeat ((with_reducible refine And.intro ?_ ?_); (focus (first | omega | (simp only [lenR]; omega) | (refine qq ?_; rfl) | (refine dq ?_; kernel_rfl) | (intros; simp_all; done))))
 exact ⟨_, _, ret_d, rfl, rfl⟩

theorem eOf_ok {a b : List NodeT} (h : (eOfF a b).2 = 0) : checkF a = 0 ∧ checkF b = 0 := by
 unfold eOfF at h
 by_cases h1 : checkF a = 0
 ·rw [if_pos h1] at h
  by_cases h2 : checkF b = 0
  ·exact ⟨h1, h2⟩
  ·rw [if_neg h2] at h; exact absurd h h2
 ·rw [if_neg h1] at h; exact absurd h h1
theorem eOf_len {a b : List NodeT} (ha : a.length ≤ 60) (hb : b.length ≤ 60) : (eOfF a b).1.length ≤ 240 := by
 unfold eOfF
 split
 ·split
  ·have h1 := List.length_filter_le keepP (contL a b (pairsOf a b))
   have h2 := cont_len a b (pairsOf a b)
   have h3 := pairs_le (a := a) (b := b)
   simp only
   omega
  ·exact Nat.zero_le _
 ·exact Nat.zero_le _
theorem eOf_in {a b : List NodeT} : ∀ x ∈ (eOfF a b).1, x.value.In := by
 intro x hx
 unfold eOfF at hx
 split at hx
 ·rename_i hca
  split at hx
  ·rename_i hcb
   obtain ⟨hm, _⟩ := fin_spec (Tr.of hca) (Tr.of hcb)
   exact (okF_iff.1 (cont_ok hca hcb (pairs_in hm) x (List.mem_filter.1 hx).1).1).in_
  ·cases hx
 ·cases hx

def onL (a : List NodeT) : List Nat := (List.range a.length).filter fun i => decide (0 < ct a i) && (sf a i != 0)
def newP (a : List NodeT) (i : Nat) : PartT := ⟨pathN a i, sNew, ⟨sf a i, 1⟩⟩
def goneP (a : List NodeT) (i : Nat) : PartT := ⟨pathN a i, sGone, ⟨-sf a i, 1⟩⟩

theorem k_fdIdx2 (l : List NodeT) (hl : l.length ≤ 2000) (at_ : Int) (s : List UInt8) : ACalls Tryd.prog Gl 39 [.d (.sl (l.map NodeT.toD)), .fn 40 [.ptr 0 0, .ptr 1 0]] (fdS at_ s)
  (fun r σ => (∃ j : Int, r = .d (.int .i64 j) ∧ ((j < 0 ∧ ∀ k, k < l.length → ¬ (par l k = at_ ∧ nm l k = s)) ∨ ∃ k : Nat, j = k ∧ k < l.length ∧ par l k = at_ ∧ nm l k = s)) ∧ σ = fdS at_ s) := by
 refine acalls_of Tryd.func39 rfl rfl (by simp [Tryd.ntmps39]) (evC_sound rfl _ _ _ _ ?_)
 simp only [Tryd.ntmps39, Tryd.results39, argEnv, List.length_nil]
 simp only [zN, seval, implies_true, Nat.reduceLeDiff, Nat.reduceEqDiff, reduceCtorEq, reduceIte, intD]
 refine for_of l.length (fun k => [(0, .d (.sl (l.map NodeT.toD))), (1, .fn 40 [.ptr 0 0, .ptr 1 0]), (7, .d (.int .i64 l.length)), (8, .d (.int .i64 k))]) (fun _ => fdS at_ s) (fun k => ∀ i, i < k → ¬ (par l i = at_ ∧ nm l i = s)) (fun i h => by omega) ?_ ?_
 ·refine weak_sub ?_
  simp only [zN, seval, implies_true, Nat.reduceLeDiff, Nat.reduceEqDiff, reduceCtorEq, reduceIte, intD, Int.cast_ofNat_Int]
 ·intro k hi hk
  by_cases h : k < l.length
  ·obtain ⟨x, hx⟩ : ∃ x, x = l.getD k default := ⟨_, rfl⟩
   have eg : (l.map NodeT.toD).getD k default = x.toD := by rw [a_getD _ _ _ h, ← hx]
   have en : nm l k = x.name := by rw [hx]; rfl
   have ep : par l k = x.parent := by rw [hx]; rfl
   simp only [zN, seval, implies_true, Nat.reduceLeDiff, Nat.reduceEqDiff, reduceCtorEq, reduceIte, intD, (show (k:Int) < l.length by omega), h, eg]
   repeat ((with_reducible refine And.intro ?_ ?_); (focus (first | omega | (simp only [lenR]; omega) | (refine qq ?_; rfl) | (refine dq ?_; kernel_rfl) | (intros; simp_all; done))))
   refine callF_go ((k_fd1 x at_ s).mono fun r σ hr => ?_)
   obtain ⟨rfl, rfl⟩ := hr
   simp only [zN, seval, implies_true, Nat.reduceLeDiff, Nat.reduceEqDiff, reduceCtorEq, reduceIte, intD]
   refine ifC.mk (fun hc => ?_) (fun hc => ?_)
   ·have hc : x.parent = at_ ∧ x.name = s := by simpa using hc
    exact ⟨_, _, WeakR.refl _ _ _, ⟨k, rfl, .inr ⟨k, rfl, h, ep.trans hc.1, en.trans hc.2⟩⟩, rfl⟩
   ·have hc : ¬ (x.parent = at_ ∧ x.name = s) := by
     intro h2
     simp [h2.1, h2.2] at hc
    refine ⟨fun i hik => ?_, ?_⟩
    ·by_cases e : i = k
     ·rw [e, ep, en]; exact hc
     ·exact hi i (by omega)
    refine weak_sub ?_
    simp only [zN, seval, implies_true, Nat.reduceLeDiff, Nat.reduceEqDiff, reduceCtorEq, reduceIte, intD, @a_wrap ((k:Int) + 1) (by omega)]
  ·have : k = l.length := by omega
   subst this
   simp only [zN, seval, implies_true, Nat.reduceLeDiff, Nat.reduceEqDiff, reduceCtorEq, reduceIte, intD, (show ¬ (l.length:Int) < l.length by omega)]
   exact ⟨_, _, WeakR.refl _ _ _, ⟨-1, rfl, .inl ⟨by decide, hi⟩⟩, rfl⟩
theorem pathI_inj {l : List NodeT} (hT : Tr l) {i k : Int} (hi : i < l.length) (hi1 : -1 ≤ i) (hk : k < l.length) (hk1 : -1 ≤ k) (h : pathI l i = pathI l k) : i = k := by
 by_cases e1 : i = -1 <;> by_cases e2 : k = -1
 ·omega
 ·obtain ⟨m, rfl⟩ : ∃ m : Nat, k = m := ⟨k.toNat, by omega⟩
  rw [e1, pathI_neg l (show (-1 : Int) < 0 by decide)] at h
  exact absurd h.symm (pathI_nn l m)
 ·obtain ⟨m, rfl⟩ : ∃ m : Nat, i = m := ⟨i.toNat, by omega⟩
  rw [e2, pathI_neg l (show (-1 : Int) < 0 by decide)] at h
  exact absurd h (pathI_nn l m)
 ·obtain ⟨m, rfl⟩ : ∃ m : Nat, i = m := ⟨i.toNat, by omega⟩
  obtain ⟨n, rfl⟩ : ∃ n : Nat, k = n := ⟨k.toNat, by omega⟩
  rw [pathI_nat, pathI_nat] at h
  have := path_inj hT (show m < l.length by omega) (show n < l.length by omega) h
  omega
theorem path_pre {l : List NodeT} (hT : Tr l) {y : List (List UInt8)} {k j : Nat} (hk : k < l.length) (h : pathN l k = y) (hj : j < y.length) : ∃ i, i < l.length ∧ pathI l (par l i) = y.take j ∧ nm l i = y.getD j default := by
 have hb : begF (pathN l k) (y.take (j + 1)) = true := (begF_iff _ _).2 ⟨y.drop (j + 1), by rw [List.take_append_drop]; exact h⟩
 obtain ⟨i, hi, hp⟩ := beg_find hT (by intro e; have := congrArg List.length e; simp only [List.length_take, List.length_nil] at this; omega) k hk hb
 rw [pathN_kid hT.up hi, take_step y j hj] at hp
 obtain ⟨h1, h2⟩ := List.append_inj' hp rfl
 exact ⟨i, hi, h1, by simpa using h2⟩
theorem k_Find2 (l : List NodeT) (hl : l.length ≤ 2000) (hc : checkF l = 0) (y : List (List UInt8)) (hy : y.length ≤ 9223372036854775807) (hy0 : y ≠ []) : ACalls Tryd.prog Gl 16 [.d (.sl (l.map NodeT.toD)), .d (.sl (y.map .str))] []
  (fun r σ => (∃ j : Int, r = .d (.int .i64 j) ∧ FindOk l y j) ∧ σ = []) := by
 refine acalls_of Tryd.func16 rfl rfl (by simp [Tryd.ntmps16]) (evC_sound rfl _ _ _ _ ?_)
 simp only [Tryd.ntmps16, Tryd.results16, argEnv, List.length_nil]
 simp only [zN, seval, implies_true, Nat.reduceLeDiff, Nat.reduceEqDiff, reduceCtorEq, reduceIte, intD]
 refine callF_pure (k_flameCheck l (by omega)) ?_
 have hyl : y.length ≠ 0 := fun e => hy0 (List.eq_nil_of_length_eq_zero e)
 have n1 : ((y.length : Int) == 0) = false := by rw [beq_eq_false_iff_ne]; omega
 rw [hc]
 simp only [zN, seval, implies_true, Nat.reduceLeDiff, Nat.reduceEqDiff, reduceCtorEq, reduceIte, intD, n1, bne_self_eq_false]
 repeat ((with_reducible refine And.intro ?_ ?_); (focus (first | omega | (simp only [lenR]; omega) | (refine qq ?_; rfl) | (refine dq ?_; kernel_rfl) | (intros; simp_all; done))))
 have hT := Tr.of hc
 have ht := hT.up
 repeat ((with_reducible refine And.intro ?_ ?_); (focus (first | omega | (simp only [lenR]; omega) | (refine qq ?_; rfl) | (refine dq ?_; kernel_rfl) | (intros; simp_all; done))))
 refine loop_of (τ := Nat × Int) (fun u => [(0, .d (.sl (l.map NodeT.toD))), (5, .ptr 0 0), (16, .d (.sl (y.map .str))), (17, .d (.int .i64 y.length)), (18, .d (.int .i64 u.1))]) (fun u => [.box 1 (.d (.int .i64 u.2))])
  (fun u => u.1 ≤ y.length ∧ -1 ≤ u.2 ∧ u.2 < l.length ∧ pathI l u.2 = y.take u.1) (fun u => y.length - u.1) (0, -1) ⟨Nat.zero_le _, by decide, by simp only; omega, pathI_neg l (by decide)⟩ ?_ ?_
 ·refine weak_to [] [0] rfl (by simp) ?_ rfl
  simp only [zN, seval, implies_true, Nat.reduceLeDiff, Nat.reduceEqDiff, reduceCtorEq, reduceIte, intD, Int.cast_ofNat_Int]
 ·rintro ⟨j, at_⟩ ⟨hj, ha1, ha2, hp⟩
  simp only at hj ha1 ha2 hp
  by_cases h : j < y.length
  ·obtain ⟨s, hs⟩ : ∃ s, s = y.getD j default := ⟨_, rfl⟩
   have gs : (y.map D.str).getD j default = .str s := by rw [hs]; simp [h]
   have ey := take_step y j h
   rw [← hs] at ey
   simp only [zN, seval, implies_true, Nat.reduceLeDiff, Nat.reduceEqDiff, reduceCtorEq, reduceIte, intD, (show (j:Int) < y.length by omega), h, gs]
   repeat ((with_reducible refine And.intro ?_ ?_); (focus (first | omega | (simp only [lenR]; omega) | (refine qq ?_; rfl) | (refine dq ?_; kernel_rfl) | (intros; simp_all; done))))
   refine callF_go ((k_fdIdx2 l hl at_ s).mono fun r σ hr => ?_)
   obtain ⟨⟨c, rfl, hcs⟩, rfl⟩ := hr
   simp only [zN, seval, implies_true, Nat.reduceLeDiff, Nat.reduceEqDiff, reduceCtorEq, reduceIte, intD, fdS]
   repeat ((with_reducible refine And.intro ?_ ?_); (focus (first | omega | (simp only [lenR]; omega) | (refine qq ?_; rfl) | (refine dq ?_; kernel_rfl) | (intros; simp_all; done))))
   rcases hcs with ⟨hc2, hn⟩ | ⟨k, rfl, hk, hpk, hnk⟩
   ·simp only [zN, seval, implies_true, Nat.reduceLeDiff, Nat.reduceEqDiff, reduceCtorEq, reduceIte, intD, decide_eq_true hc2]
    refine ⟨_, _, ret_d, ⟨-1, rfl, .inl ⟨by decide, fun k hk e => ?_⟩⟩, rfl⟩
    obtain ⟨i, hi, h1, h2⟩ := path_pre hT hk e h
    have tp := tree_par ht hi
    refine hn i hi ⟨pathI_inj hT (by omega) (by omega) ha2 ha1 (by rw [h1, hp]), by rw [h2, hs]⟩
   ·simp only [zN, seval, implies_true, Nat.reduceLeDiff, Nat.reduceEqDiff, reduceCtorEq, reduceIte, intD, (show ¬ (k:Int) < 0 by omega)]
    refine ⟨(j + 1, (k : Int)), ⟨h, by simp only; omega, by simp only; omega, ?_⟩, by simp only; omega, ?_⟩
    ·simp only
     rw [pathI_kid ht hk, hpk, hp, hnk, ey]
    ·refine weak_to [] [0] rfl (by simp) ?_ rfl
     simp only [zN, seval, implies_true, Nat.reduceLeDiff, Nat.reduceEqDiff, reduceCtorEq, reduceIte, intD, @a_wrap ((j:Int) + 1) (by omega)]
  ·have : j = y.length := by omega
   subst this
   rw [List.take_length] at hp
   simp only [zN, seval, implies_true, Nat.reduceLeDiff, Nat.reduceEqDiff, reduceCtorEq, reduceIte, intD, (show ¬ (y.length:Int) < y.length by omega)]
   have hnn : 0 ≤ at_ := by
    rcases Int.lt_or_le at_ 0 with h0 | h0
    ·exact absurd (by rw [← hp, pathI_neg l h0]) hy0
    ·exact h0
   obtain ⟨k, rfl⟩ : ∃ k : Nat, at_ = k := ⟨at_.toNat, by omega⟩
   exact ⟨_, _, ret_d, ⟨(k : Int), rfl, .inr ⟨k, rfl, by omega, by rw [← pathI_nat]; exact hp⟩⟩, rfl⟩

theorem eOf_pt {a b : List NodeT} (ha : a.length ≤ 60) (hb : b.length ≤ 60) : ∀ x ∈ (eOfF a b).1, PtOk x := by
 intro x hx
 refine ⟨eOf_in x hx, ?_⟩
 unfold eOfF at hx
 split at hx
 ·rename_i hca
  split at hx
  ·rename_i hcb
   obtain ⟨hm, _⟩ := fin_spec (Tr.of hca) (Tr.of hcb)
   have hin := pairs_in hm
   obtain ⟨p, hp, e⟩ := (cont_ok hca hcb hin x (List.mem_filter.1 hx).1).2.1
   obtain ⟨h1, h2, h3, h4, h5⟩ := hin p hp
   rw [e]
   unfold pthP
   split
   ·have := pathN_len b p.b.toNat; omega
   ·have := pathN_len a p.a.toNat; omega
  ·cases hx
 ·cases hx
theorem k_LBelow (a b : List NodeT) (y : List (List UInt8)) (hac : ∀ x ∈ a, x.count ≤ 9223372036854775807) (hy : y.length ≤ 9223372036854775807) : Pure Tryd.prog Gl 5 [.d (.sl (a.map NodeT.toD)), .d (.sl (b.map NodeT.toD)), .d (.sl (y.map .str))] (.d (.bool true)) := by
 refine Pure.of3 ?_
 refine acalls_of Tryd.func5 rfl rfl (by simp [Tryd.ntmps5]) (evC_sound rfl _ _ _ _ ?_)
 simp only [Tryd.ntmps5, Tryd.results5, argEnv, List.length_nil]
 simp only [zP, seval, implies_true, Nat.reduceLeDiff, Nat.reduceEqDiff, reduceCtorEq, reduceIte, intD]
 refine callF_pure (k_light a b) ?_
 simp only [zP, seval, implies_true, Nat.reduceLeDiff, Nat.reduceEqDiff, reduceCtorEq, reduceIte, intD]
 repeat ((with_reducible refine And.intro ?_ ?_); (focus (first | omega | (simp only [lenR]; omega) | (refine qq ?_; rfl) | (refine dq ?_; kernel_rfl) | (intros; simp_all; done))))
 by_cases hg : (a.length ≤ 60 ∧ b.length ≤ 60) ∧ y.length ≠ 0
 ·obtain ⟨⟨ha, hb⟩, hyl⟩ := hg
  have hy0 : y ≠ [] := fun e => hyl (by rw [e]; rfl)
  have e1 : (decide (a.length ≤ 60) && decide (b.length ≤ 60)) = true := by simp [ha, hb]
  have e2 : ((y.length : Int) == 0) = false := by rw [beq_eq_false_iff_ne]; omega
  simp only [zP, seval, implies_true, Nat.reduceLeDiff, Nat.reduceEqDiff, reduceCtorEq, reduceIte, intD, e1, e2]
  repeat ((with_reducible refine And.intro ?_ ?_); (focus (first | omega | (simp only [lenR]; omega) | (refine qq ?_; rfl) | (refine dq ?_; kernel_rfl) | (intros; simp_all; done))))
  refine callG_pure (fun _ => k_Common a ha hac) ?_
  simp only [zP, seval, implies_true, Nat.reduceLeDiff, Nat.reduceEqDiff, reduceCtorEq, reduceIte, intD]
  repeat ((with_reducible refine And.intro ?_ ?_); (focus (first | omega | (simp only [lenR]; omega) | (refine qq ?_; rfl) | (refine dq ?_; kernel_rfl) | (intros; simp_all; done))))
  refine ifC.mk (fun h3 => ?_) (fun h3 => ?_)
  ·refine callF_pure k_awake ?_
   simp only [zP, seval, implies_true, Nat.reduceLeDiff, Nat.reduceEqDiff, reduceCtorEq, reduceIte, intD]
   exact ⟨_, _, ret_d, rfl, rfl⟩
  have h3 : comN a 1 = true := by simpa using h3
  repeat ((with_reducible refine And.intro ?_ ?_); (focus (first | omega | (simp only [lenR]; omega) | (refine qq ?_; rfl) | (refine dq ?_; kernel_rfl) | (intros; simp_all; done))))
  refine callF_pure (k_EOf a b ha hb) ?_
  simp only [zP, seval, implies_true, Nat.reduceLeDiff, Nat.reduceEqDiff, reduceCtorEq, reduceIte, intD, eOfD]
  repeat ((with_reducible refine And.intro ?_ ?_); (focus (first | omega | (simp only [lenR]; omega) | (refine qq ?_; rfl) | (refine dq ?_; kernel_rfl) | (intros; simp_all; done))))
  refine callF_pure (k_MOf a b (by omega) (by omega)) ?_
  simp only [zP, seval, implies_true, Nat.reduceLeDiff, Nat.reduceEqDiff, reduceCtorEq, reduceIte, intD, ofD]
  repeat ((with_reducible refine And.intro ?_ ?_); (focus (first | omega | (simp only [lenR]; omega) | (refine qq ?_; rfl) | (refine dq ?_; kernel_rfl) | (intros; simp_all; done))))
  have hil := eOf_len ha hb
  by_cases h2 : (eOfF a b).2 = 0
  ·obtain ⟨hca, hcb⟩ := eOf_ok h2
   have hof : ofF a b = (pairsOf a b, 0) := by rw [ofF, if_pos hca, if_pos hcb]
   have hpl := pairs_le (a := a) (b := b)
   rw [h2, hof]
   simp only [zP, seval, implies_true, Nat.reduceLeDiff, Nat.reduceEqDiff, reduceCtorEq, reduceIte, intD, bne_self_eq_false]
   repeat ((with_reducible refine And.intro ?_ ?_); (focus (first | omega | (simp only [lenR]; omega) | (refine qq ?_; rfl) | (refine dq ?_; kernel_rfl) | (intros; simp_all; done))))
   refine callG_pure (fun _ => k_Renamed a b (pairsOf a b) (by omega) (by omega) (by omega)) ?_
   simp only [zP, seval, implies_true, Nat.reduceLeDiff, Nat.reduceEqDiff, reduceCtorEq, reduceIte, intD]
   repeat ((with_reducible refine And.intro ?_ ?_); (focus (first | omega | (simp only [lenR]; omega) | (refine qq ?_; rfl) | (refine dq ?_; kernel_rfl) | (intros; simp_all; done))))
   by_cases hr : renamedF a b (pairsOf a b) = []
   ·rw [hr]
    simp only [zP, seval, implies_true, Nat.reduceLeDiff, Nat.reduceEqDiff, reduceCtorEq, reduceIte, intD]
    repeat ((with_reducible refine And.intro ?_ ?_); (focus (first | omega | (simp only [lenR]; omega) | (refine qq ?_; rfl) | (refine dq ?_; kernel_rfl) | (intros; simp_all; done))))
    refine callF_go ((k_Find2 b (by omega) hcb y hy hy0).mono fun r s hrs => ?_)
    obtain ⟨⟨j, rfl, hj⟩, rfl⟩ := hrs
    simp only [zP, seval, implies_true, Nat.reduceLeDiff, Nat.reduceEqDiff, reduceCtorEq, reduceIte, intD]
    repeat ((with_reducible refine And.intro ?_ ?_); (focus (first | omega | (simp only [lenR]; omega) | (refine qq ?_; rfl) | (refine dq ?_; kernel_rfl) | (intros; simp_all; done))))
    have hj' := hj
    have rb := findV_rng hcb hy0 hj
    rcases hj with ⟨j0, _⟩ | ⟨k, rfl, hk, _⟩
    ·have hwb : findV b j = 0 := by rw [findV, if_neg (by omega)]
     simp only [zP, seval, implies_true, Nat.reduceLeDiff, Nat.reduceEqDiff, reduceCtorEq, reduceIte, intD, decide_eq_false (show ¬ 0 ≤ j by omega)]
     repeat ((with_reducible refine And.intro ?_ ?_); (focus (first | omega | (simp only [lenR]; omega) | (refine qq ?_; rfl) | (refine dq ?_; kernel_rfl) | (intros; simp_all; done))))
     refine callF_go ((k_Find2 a (by omega) hca y hy hy0).mono fun r s hrs => ?_)
     obtain ⟨⟨i, rfl, hi⟩, rfl⟩ := hrs
     simp only [zP, seval, implies_true, Nat.reduceLeDiff, Nat.reduceEqDiff, reduceCtorEq, reduceIte, intD]
     repeat ((with_reducible refine And.intro ?_ ?_); (focus (first | omega | (simp only [lenR]; omega) | (refine qq ?_; rfl) | (refine dq ?_; kernel_rfl) | (intros; simp_all; done))))
     have hi' := hi
     have ra := findV_rng hca hy0 hi
     have hlaw := below_law hca hcb ha hb h3 hr hy0 hi' hj'
     rw [hwb] at hlaw
     rcases hi with ⟨i0, _⟩ | ⟨m, rfl, hmk, _⟩
     ·have hwa : findV a i = 0 := by rw [findV, if_neg (by omega)]
      rw [hwa, Int.sub_zero] at hlaw
      simp only [zP, seval, implies_true, Nat.reduceLeDiff, Nat.reduceEqDiff, reduceCtorEq, reduceIte, intD, decide_eq_false (show ¬ 0 ≤ i by omega)]
      repeat ((with_reducible refine And.intro ?_ ?_); (focus (first | omega | (simp only [lenR]; omega) | (refine qq ?_; rfl) | (refine dq ?_; kernel_rfl) | (intros; simp_all; done))))
      refine callF_pure (k_EBelow (eOfF a b).1 y (eOf_pt ha hb) (by omega) hy) ?_
      rw [hlaw]
      simp only [zP, seval, implies_true, Nat.reduceLeDiff, Nat.reduceEqDiff, reduceCtorEq, reduceIte, intD, resD]
      repeat ((with_reducible refine And.intro ?_ ?_); (focus (first | omega | (simp only [lenR]; omega) | (refine qq ?_; rfl) | (refine dq ?_; kernel_rfl) | (intros; simp_all; done))))
      refine callG_pure (fun _ => c22 ⟨0, 1⟩ ⟨0, 1⟩ ⟨by simp only; omega, by simp only; omega, by simp only; omega, by simp only; omega⟩ ⟨by simp only; omega, by simp only; omega, by simp only; omega, by simp only; omega⟩) ?_
      rw [cmp_self]
      simp only [zP, seval, implies_true, Nat.reduceLeDiff, Nat.reduceEqDiff, reduceCtorEq, reduceIte, intD]
      repeat ((with_reducible refine And.intro ?_ ?_); (focus (first | omega | (simp only [lenR]; omega) | (refine qq ?_; rfl) | (refine dq ?_; kernel_rfl) | (intros; simp_all; done))))
      refine callG_pure (fun _ => k_awake) ?_
      simp only [zP, seval, implies_true, Nat.reduceLeDiff, Nat.reduceEqDiff, reduceCtorEq, reduceIte, intD]
      repeat ((with_reducible refine And.intro ?_ ?_); (focus (first | omega | (simp only [lenR]; omega) | (refine qq ?_; rfl) | (refine dq ?_; kernel_rfl) | (intros; simp_all; done))))
      exact ⟨_, _, ret_d, rfl, rfl⟩
     ·obtain ⟨z, hz⟩ : ∃ z, z = a.getD m default := ⟨_, rfl⟩
      have eg2 : (a.map NodeT.toD).getD m default = z.toD := by rw [a_getD _ _ _ hmk, ← hz]
      have hwa : findV a (m : Int) = z.total := by rw [findV, if_pos (by omega), Int.toNat_natCast, hz]; rfl
      rw [hwa] at hlaw ra
      simp only [zP, seval, implies_true, Nat.reduceLeDiff, Nat.reduceEqDiff, reduceCtorEq, reduceIte, intD, (show 0 ≤ (m:Int) by omega), (show (m:Int) < a.length by omega), hmk, eg2, @a_wrap (0 - z.total) (by omega)]
      repeat ((with_reducible refine And.intro ?_ ?_); (focus (first | omega | (simp only [lenR]; omega) | (refine qq ?_; rfl) | (refine dq ?_; kernel_rfl) | (intros; simp_all; done))))
      refine callF_pure (k_EBelow (eOfF a b).1 y (eOf_pt ha hb) (by omega) hy) ?_
      rw [hlaw]
      simp only [zP, seval, implies_true, Nat.reduceLeDiff, Nat.reduceEqDiff, reduceCtorEq, reduceIte, intD, resD]
      repeat ((with_reducible refine And.intro ?_ ?_); (focus (first | omega | (simp only [lenR]; omega) | (refine qq ?_; rfl) | (refine dq ?_; kernel_rfl) | (intros; simp_all; done))))
      refine callG_pure (fun _ => c22 ⟨0 - z.total, 1⟩ ⟨0 - z.total, 1⟩ ⟨by simp only; omega, by simp only; omega, by simp only; omega, by simp only; omega⟩ ⟨by simp only; omega, by simp only; omega, by simp only; omega, by simp only; omega⟩) ?_
      rw [cmp_self]
      simp only [zP, seval, implies_true, Nat.reduceLeDiff, Nat.reduceEqDiff, reduceCtorEq, reduceIte, intD]
      repeat ((with_reducible refine And.intro ?_ ?_); (focus (first | omega | (simp only [lenR]; omega) | (refine qq ?_; rfl) | (refine dq ?_; kernel_rfl) | (intros; simp_all; done))))
      refine callG_pure (fun _ => k_awake) ?_
      simp only [zP, seval, implies_true, Nat.reduceLeDiff, Nat.reduceEqDiff, reduceCtorEq, reduceIte, intD]
      repeat ((with_reducible refine And.intro ?_ ?_); (focus (first | omega | (simp only [lenR]; omega) | (refine qq ?_; rfl) | (refine dq ?_; kernel_rfl) | (intros; simp_all; done))))
      exact ⟨_, _, ret_d, rfl, rfl⟩
    ·obtain ⟨x, hx⟩ : ∃ x, x = b.getD k default := ⟨_, rfl⟩
     have eg : (b.map NodeT.toD).getD k default = x.toD := by rw [a_getD _ _ _ hk, ← hx]
     have hwb : findV b (k : Int) = x.total := by rw [findV, if_pos (by omega), Int.toNat_natCast, hx]; rfl
     rw [hwb] at rb
     simp only [zP, seval, implies_true, Nat.reduceLeDiff, Nat.reduceEqDiff, reduceCtorEq, reduceIte, intD, (show 0 ≤ (k:Int) by omega), (show (k:Int) < b.length by omega), hk, eg, Int.zero_add, @a_wrap (x.total) (by omega)]
     repeat ((with_reducible refine And.intro ?_ ?_); (focus (first | omega | (simp only [lenR]; omega) | (refine qq ?_; rfl) | (refine dq ?_; kernel_rfl) | (intros; simp_all; done))))
     refine callF_go ((k_Find2 a (by omega) hca y hy hy0).mono fun r s hrs => ?_)
     obtain ⟨⟨i, rfl, hi⟩, rfl⟩ := hrs
     simp only [zP, seval, implies_true, Nat.reduceLeDiff, Nat.reduceEqDiff, reduceCtorEq, reduceIte, intD]
     repeat ((with_reducible refine And.intro ?_ ?_); (focus (first | omega | (simp only [lenR]; omega) | (refine qq ?_; rfl) | (refine dq ?_; kernel_rfl) | (intros; simp_all; done))))
     have hi' := hi
     have ra := findV_rng hca hy0 hi
     have hlaw := below_law hca hcb ha hb h3 hr hy0 hi' hj'
     rw [hwb] at hlaw
     rcases hi with ⟨i0, _⟩ | ⟨m, rfl, hmk, _⟩
     ·have hwa : findV a i = 0 := by rw [findV, if_neg (by omega)]
      rw [hwa, Int.sub_zero] at hlaw
      simp only [zP, seval, implies_true, Nat.reduceLeDiff, Nat.reduceEqDiff, reduceCtorEq, reduceIte, intD, decide_eq_false (show ¬ 0 ≤ i by omega)]
      repeat ((with_reducible refine And.intro ?_ ?_); (focus (first | omega | (simp only [lenR]; omega) | (refine qq ?_; rfl) | (refine dq ?_; kernel_rfl) | (intros; simp_all; done))))
      refine callF_pure (k_EBelow (eOfF a b).1 y (eOf_pt ha hb) (by omega) hy) ?_
      rw [hlaw]
      simp only [zP, seval, implies_true, Nat.reduceLeDiff, Nat.reduceEqDiff, reduceCtorEq, reduceIte, intD, resD]
      repeat ((with_reducible refine And.intro ?_ ?_); (focus (first | omega | (simp only [lenR]; omega) | (refine qq ?_; rfl) | (refine dq ?_; kernel_rfl) | (intros; simp_all; done))))
      refine callG_pure (fun _ => c22 ⟨x.total, 1⟩ ⟨x.total, 1⟩ ⟨by simp only; omega, by simp only; omega, by simp only; omega, by simp only; omega⟩ ⟨by simp only; omega, by simp only; omega, by simp only; omega, by simp only; omega⟩) ?_
      rw [cmp_self]
      simp only [zP, seval, implies_true, Nat.reduceLeDiff, Nat.reduceEqDiff, reduceCtorEq, reduceIte, intD]
      repeat ((with_reducible refine And.intro ?_ ?_); (focus (first | omega | (simp only [lenR]; omega) | (refine qq ?_; rfl) | (refine dq ?_; kernel_rfl) | (intros; simp_all; done))))
      refine callG_pure (fun _ => k_awake) ?_
      simp only [zP, seval, implies_true, Nat.reduceLeDiff, Nat.reduceEqDiff, reduceCtorEq, reduceIte, intD]
      repeat ((with_reducible refine And.intro ?_ ?_); (focus (first | omega | (simp only [lenR]; omega) | (refine qq ?_; rfl) | (refine dq ?_; kernel_rfl) | (intros; simp_all; done))))
      exact ⟨_, _, ret_d, rfl, rfl⟩
     ·obtain ⟨z, hz⟩ : ∃ z, z = a.getD m default := ⟨_, rfl⟩
      have eg2 : (a.map NodeT.toD).getD m default = z.toD := by rw [a_getD _ _ _ hmk, ← hz]
      have hwa : findV a (m : Int) = z.total := by rw [findV, if_pos (by omega), Int.toNat_natCast, hz]; rfl
      rw [hwa] at hlaw ra
      simp only [zP, seval, implies_true, Nat.reduceLeDiff, Nat.reduceEqDiff, reduceCtorEq, reduceIte, intD, (show 0 ≤ (m:Int) by omega), (show (m:Int) < a.length by omega), hmk, eg2, @a_wrap (x.total - z.total) (by omega)]
      repeat ((with_reducible refine And.intro ?_ ?_); (focus (first | omega | (simp only [lenR]; omega) | (refine qq ?_; rfl) | (refine dq ?_; kernel_rfl) | (intros; simp_all; done))))
      refine callF_pure (k_EBelow (eOfF a b).1 y (eOf_pt ha hb) (by omega) hy) ?_
      rw [hlaw]
      simp only [zP, seval, implies_true, Nat.reduceLeDiff, Nat.reduceEqDiff, reduceCtorEq, reduceIte, intD, resD]
      repeat ((with_reducible refine And.intro ?_ ?_); (focus (first | omega | (simp only [lenR]; omega) | (refine qq ?_; rfl) | (refine dq ?_; kernel_rfl) | (intros; simp_all; done))))
      refine callG_pure (fun _ => c22 ⟨x.total - z.total, 1⟩ ⟨x.total - z.total, 1⟩ ⟨by simp only; omega, by simp only; omega, by simp only; omega, by simp only; omega⟩ ⟨by simp only; omega, by simp only; omega, by simp only; omega, by simp only; omega⟩) ?_
      rw [cmp_self]
      simp only [zP, seval, implies_true, Nat.reduceLeDiff, Nat.reduceEqDiff, reduceCtorEq, reduceIte, intD]
      repeat ((with_reducible refine And.intro ?_ ?_); (focus (first | omega | (simp only [lenR]; omega) | (refine qq ?_; rfl) | (refine dq ?_; kernel_rfl) | (intros; simp_all; done))))
      refine callG_pure (fun _ => k_awake) ?_
      simp only [zP, seval, implies_true, Nat.reduceLeDiff, Nat.reduceEqDiff, reduceCtorEq, reduceIte, intD]
      repeat ((with_reducible refine And.intro ?_ ?_); (focus (first | omega | (simp only [lenR]; omega) | (refine qq ?_; rfl) | (refine dq ?_; kernel_rfl) | (intros; simp_all; done))))
      exact ⟨_, _, ret_d, rfl, rfl⟩
   ·have hrl : 0 < (renamedF a b (pairsOf a b)).length := List.length_pos_iff.2 hr
    simp only [zP, seval, implies_true, Nat.reduceLeDiff, Nat.reduceEqDiff, reduceCtorEq, reduceIte, intD, List.length_map, (show 0 < ((renamedF a b (pairsOf a b)).length : Int) by omega)]
    repeat ((with_reducible refine And.intro ?_ ?_); (focus (first | omega | (simp only [lenR]; omega) | (refine qq ?_; rfl) | (refine dq ?_; kernel_rfl) | (intros; simp_all; done))))
    refine callF_pure k_awake ?_
    simp only [zP, seval, implies_true, Nat.reduceLeDiff, Nat.reduceEqDiff, reduceCtorEq, reduceIte, intD]
    exact ⟨_, _, ret_d, rfl, rfl⟩
  ·have e3 : ((eOfF a b).2 != 0) = true := by simpa using h2
   simp only [zP, seval, implies_true, Nat.reduceLeDiff, Nat.reduceEqDiff, reduceCtorEq, reduceIte, intD, e3]
   repeat ((with_reducible refine And.intro ?_ ?_); (focus (first | omega | (simp only [lenR]; omega) | (refine qq ?_; rfl) | (refine dq ?_; kernel_rfl) | (intros; simp_all; done))))
   refine callG_of (v := .d (.sl [])) (fun h => by cases h) ?_
   simp only [zP, seval, implies_true, Nat.reduceLeDiff, Nat.reduceEqDiff, reduceCtorEq, reduceIte, intD]
   repeat ((with_reducible refine And.intro ?_ ?_); (focus (first | omega | (simp only [lenR]; omega) | (refine qq ?_; rfl) | (refine dq ?_; kernel_rfl) | (intros; simp_all; done))))
   refine callF_pure k_awake ?_
   simp only [zP, seval, implies_true, Nat.reduceLeDiff, Nat.reduceEqDiff, reduceCtorEq, reduceIte, intD]
   exact ⟨_, _, ret_d, rfl, rfl⟩
 ·have e3 : (!(!(decide (a.length ≤ 60) && decide (b.length ≤ 60)) || (y.length : Int) == 0)) = false := by
   by_cases h1 : a.length ≤ 60 <;> by_cases h2 : b.length ≤ 60 <;> by_cases h3 : y.length = 0 <;> simp_all
  have key : ∀ z : Bool, (!z) = false → z = true := by decide
  have e4 := key _ e3
  simp only [zP, seval, implies_true, Nat.reduceLeDiff, Nat.reduceEqDiff, reduceCtorEq, reduceIte, intD, e3, e4]
  repeat ((with_reducible refine And.intro ?_ ?_); (focus (first | omega | (simp only [lenR]; omega) | (refine qq ?_; rfl) | (refine dq ?_; kernel_rfl) | (intros; simp_all; done))))
  refine callG_of (v := .d (.bool true)) (fun h => by cases h) ?_
  simp only [zP, seval, implies_true, Nat.reduceLeDiff, Nat.reduceEqDiff, reduceCtorEq, reduceIte, intD]
  repeat ((with_reducible refine And.intro ?_ ?_); (focus (first | omega | (simp only [lenR]; omega) | (refine qq ?_; rfl) | (refine dq ?_; kernel_rfl) | (intros; simp_all; done))))
  refine callF_pure k_awake ?_
  simp only [zP, seval, implies_true, Nat.reduceLeDiff, Nat.reduceEqDiff, reduceCtorEq, reduceIte, intD]
  exact ⟨_, _, ret_d, rfl, rfl⟩
end YtmedpoeeoihfmaaDoor
end Go.Proofs

set_option maxRecDepth 100000
namespace Go.Proofs
open Go.AM Go.ChangeShapes Go.WideShapes Go.ChangeAt Go.RowKit
namespace YtmedpoeeoihfmaaDoor
variable {Gl : Globs}
theorem own : ownKnob Tryd.prog.godebug = none := by kernel_rfl
theorem laidOut : laidOutB Tryd.prog = true := by kernel_rfl
def laid3 : List (String × DataW Unit) := [("math/bits.deBruijn32tab", Rows.laid_math_bits_deBruijn32tab), ("math/bits.deBruijn64tab", Rows.laid_math_bits_deBruijn64tab), ("internal/strconv.uint64pow10", Rows.laid_internal_strconv_uint64pow10)]
theorem door_met (os : Os) (args : Array Value) : laidMetH Tryd.prog laid3 ((World.doorLaid Tryd.prog 400 os).forCall (fun _ _ => 0) ⟨#[], args, []⟩).memory :=
 laidMetH_of_parts3 (fuel := 8) (laidMet_of_run' 8 (by kernel_rfl) (by kernel_rfl)) (by kernel_rfl) (by kernel_rfl)
theorem node_ofR {x : D} (h : ConfL [.int .i64, .str, .int .i64, .int .i64, .int .i64] x.cells) (hg : x.isAgg = true) : ∃ b : NodeT, x = b.toD ∧ b.count ≤ 9223372036854775807 := by
 obtain ⟨_, _, e1, ⟨a0, rfl, _⟩, _, _, rfl, ⟨a1, rfl, _⟩, _, _, rfl, ⟨a2, rfl, _⟩, _, _, rfl, ⟨a3, rfl, _⟩, _, _, rfl, ⟨a4, rfl, w⟩, rfl⟩ := h
 simp only [Lit.wf, Bool.and_eq_true, decide_eq_true_eq] at w
 exact ⟨⟨a0, a1, a2, a3, a4⟩, agg_of hg e1, w.2⟩
theorem parNodesR {x : D} (h : TypedV Tryd.prog 5 22 x) : ∃ l : List NodeT, x = .sl (l.map NodeT.toD) ∧ ∀ b ∈ l, b.count ≤ 9223372036854775807 := by
 obtain ⟨xs, rfl, _, hx⟩ := param1_of h (c := .sl [.int .i64, .str, .int .i64, .int .i64, .int .i64] true) (by kernel_rfl) (by kernel_rfl)
 obtain ⟨d, rfl, hd⟩ := list_ofP fun y hy => node_ofR (hx y hy).1 (hx y hy).2
 exact ⟨d, rfl, hd⟩
theorem parPath {x : D} (h : TypedV Tryd.prog 5 39 x) : ∃ l : List (List UInt8), x = .sl (l.map .str) ∧ l.length ≤ 9223372036854775807 := by
 obtain ⟨xs, rfl, hl, hx⟩ := param1_of h (c := .sl [.str] false) (by kernel_rfl) (by kernel_rfl)
 obtain ⟨d, rfl⟩ := strs_of hx
 rw [List.length_map] at hl
 exact ⟨d, rfl, Nat.le_trans hl (by decide)⟩
theorem explainBelow_main (xs : List D) (h : TypedAll Tryd.prog 5 Tryd.f5.params.toList xs) : ACalls Tryd.prog [] 5 (xs.map AV.d) [] (fun r _ => r = .d (.bool true)) := by
 rw [Tryd.params5] at h
 obtain ⟨x, _, rfl, h1, y, _, rfl, h2, z, _, rfl, h3, rfl⟩ := h
 obtain ⟨a, rfl, ha⟩ := parNodesR h1
 obtain ⟨b, rfl, _⟩ := parNodesR h2
 obtain ⟨l, rfl, hl⟩ := parPath h3
 exact (k_LBelow a b l ha hl []).mono fun r s h => h.1
end YtmedpoeeoihfmaaDoor
end Go.Proofs
