/- A part of the proof: contracts of functions of this seat, and lemmas. No condition beyond those stated. -/
import Derived.Test.YtadfcljoocjhdaaGreatWts6
set_option linter.unusedVariables false
set_option linter.unusedSimpArgs false
set_option linter.unusedSectionVars false
set_option linter.unnecessarySimpa false
set_option maxRecDepth 100000
namespace Go.Proofs
open Go.AM
namespace YtadfcljoocjhdaaGreat
variable {Gl : Globs} {τ : Sto}
set_option maxHeartbeats 4000000 in
set_option maxRecDepth 10000 in
theorem merge_gen (Dm : D → Prop) (cmpF : D → D → Int) (fv : FuncId) (caps : List AV) (hC : CmpOk Gl τ Dm cmpF fv caps) (xs : List D) (hxs : ∀ y ∈ xs, Dm y) (n : Nat) (hn : n ≤ xs.length) (hN : n < 1000000)
  (a m b : Nat) (ys : List D) (π : Nat → Nat) (hA : Arr Dm xs ys π) (hπ : ∀ p, p < xs.length → π p < xs.length) (ham : a < m) (hmb : m < b) (hbn : b ≤ n) (hS1 : Sorted (fun x y => decide (cmpF x y < 0)) xs a m π) (hS2 : Sorted (fun x y => decide (cmpF x y < 0)) xs m b π) (hT : Tags a m b π)
  (hc1 : ¬ m = a + 1) (hc2 : ¬ b = m + 1)
  (ih : ∀ (a' m' b' : Nat) (ys : List D) (π : Nat → Nat), b' - a' < b - a → Arr Dm xs ys π → (∀ p, p < xs.length → π p < xs.length) → a' < m' → m' < b' → b' ≤ n → Sorted (fun x y => decide (cmpF x y < 0)) xs a' m' π → Sorted (fun x y => decide (cmpF x y < 0)) xs m' b' π → Tags a' m' b' π →
   ACalls Tryz.prog Gl 136 [.osl 0 0 n, .d (.int .i64 a'), .d (.int .i64 m'), .d (.int .i64 b'), .fn fv caps] (.arr 1 ys :: τ) (Merged τ Dm cmpF xs a' b' π)) :
  ACalls Tryz.prog Gl 136 [.osl 0 0 n, .d (.int .i64 a), .d (.int .i64 m), .d (.int .i64 b), .fn fv caps] (.arr 1 ys :: τ) (Merged τ Dm cmpF xs a b π) := by
 refine acalls_of Tryz.func136 rfl rfl (by simp [Tryz.ntmps136]) (evC_sound rfl _ _ _ _ ?_)
 simp only [Tryz.ntmps136, Tryz.results136, argEnv, List.length_nil]
 have hlY := hA.len
 have e1 : IntKind.i64.wrap ((m : Int) - a) = ((m - a : Nat) : Int) := by rw [wrap64 (by omega) (by omega)]; omega
 have e2 : IntKind.i64.wrap ((b : Int) - m) = ((b - m : Nat) : Int) := by rw [wrap64 (by omega) (by omega)]; omega
 have e3 : (((m - a : Nat) : Int) == 1) = false := by simp; omega
 have e4 : (((b - m : Nat) : Int) == 1) = false := by simp; omega
 have g1 : IntKind.i64.wrap ((a : Int) + b) = ((a + b : Nat) : Int) := by rw [wrap64 (by omega) (by omega)]; omega
 have g2 : IntKind.u64.wrap ((a + b : Nat) : Int) = ((a + b : Nat) : Int) := u64_in _ (by omega)
 have g3 : ((a + b : Nat) : Int).fdiv 2 = (((a + b) / 2 : Nat) : Int) := half _ (by omega)
 have g4 : IntKind.i64.wrap (((a + b) / 2 : Nat) : Int) = (((a + b) / 2 : Nat) : Int) := i64_nat _ (by omega)
 obtain ⟨d, e5, e6, e7⟩ : ∃ d, d = (a + b) / 2 ∧ a < d ∧ d < b := ⟨_, rfl, by omega, by omega⟩
 rw [← e5] at g3 g4
 have g5 : IntKind.i64.wrap ((d : Int) + m) = ((d + m : Nat) : Int) := by rw [wrap64 (by omega) (by omega)]; omega
 have g6 : IntKind.i64.wrap (((d + m : Nat) : Int) - 1) = ((d + m - 1 : Nat) : Int) := by rw [wrap64 (by omega) (by omega)]; omega
 obtain ⟨s0, r0, key⟩ : ∃ s0 r0 : Nat, (d < m ∧ s0 = d + m - b ∧ r0 = d) ∨ (m ≤ d ∧ s0 = a ∧ r0 = m) := by
  by_cases c : d < m
  ·exact ⟨_, _, .inl ⟨c, rfl, rfl⟩⟩
  ·exact ⟨_, _, .inr ⟨by omega, rfl, rfl⟩⟩
 have c0 : ((d : Int) < m) ∨ ¬ ((d : Int) < m) := by omega
 rcases key with ⟨k1, k2, k3⟩ | ⟨k1, k2, k3⟩
 ·have c0 : ((d : Int) < m) := by omega
  have g7 : IntKind.i64.wrap (((d + m : Nat) : Int) - b) = ((s0 : Nat) : Int) := by rw [wrap64 (by omega) (by omega)]; omega
  simp only [zS, seval, implies_true, Nat.reduceLeDiff, Nat.reduceEqDiff, reduceCtorEq, reduceIte, e1, e2, e3, e4, g1, g2, g3, g4, g5, g6, g7, shr1, c0]
  refine loop_of (τ := Nat × Nat) (fun x => [(0, .osl 0 0 n), (1, .d (.int .i64 a)), (2, .d (.int .i64 m)), (3, .d (.int .i64 b)), (4, .fn fv caps), (18, .d (.int .i64 d)), (19, .d (.int .i64 (d + m : Nat))), (20, .d (.int .i64 x.1)), (21, .d (.int .i64 x.2)), (22, .d (.int .i64 (d + m - 1 : Nat)))]) (fun x => (.arr 1 ys :: τ))
   (fun x => s0 ≤ x.1 ∧ x.1 ≤ x.2 ∧ x.2 ≤ r0 ∧ (s0 < x.1 → Lx (fun x y => decide (cmpF x y < 0)) xs (π (x.1 - 1)) (π (d + m - 1 - (x.1 - 1)))) ∧ (x.2 < r0 → Lx (fun x y => decide (cmpF x y < 0)) xs (π (d + m - 1 - x.2)) (π x.2))) (fun x => x.2 - x.1) (s0, r0)
   ⟨Nat.le_refl _, by simp only; omega, Nat.le_refl _, fun h => by simp only at h; omega, fun h => by simp only at h; omega⟩ ?_ ?_
  ·refine weak_sub ?_
   simp only [zS, seval, implies_true, Nat.reduceLeDiff, Nat.reduceEqDiff, reduceCtorEq, reduceIte, k2, k3]
  ·intro x hi
   obtain ⟨s, r⟩ := x
   obtain ⟨h1, h2, h3, h4, h5⟩ := hi
   simp only at h1 h2 h3 h4 h5
   by_cases hsr : s < r
   ·have q0 : ((s : Int) < r) := by omega
    have q1 : IntKind.i64.wrap ((s : Int) + r) = ((s + r : Nat) : Int) := by rw [wrap64 (by omega) (by omega)]; omega
    have q2 : IntKind.u64.wrap ((s + r : Nat) : Int) = ((s + r : Nat) : Int) := u64_in _ (by omega)
    have q3 : ((s + r : Nat) : Int).fdiv 2 = (((s + r) / 2 : Nat) : Int) := half _ (by omega)
    have q4 : IntKind.i64.wrap (((s + r) / 2 : Nat) : Int) = (((s + r) / 2 : Nat) : Int) := i64_nat _ (by omega)
    obtain ⟨c, e8, e9, e10⟩ : ∃ c, c = (s + r) / 2 ∧ s ≤ c ∧ c < r := ⟨_, rfl, by omega, by omega⟩
    rw [← e8] at q3 q4
    have q5 : IntKind.i64.wrap (((d + m - 1 : Nat) : Int) - c) = ((d + m - 1 - c : Nat) : Int) := by rw [wrap64 (by omega) (by omega)]; omega
    have lc := El0.at hC.el hA.el (i := c) (by omega)
    have lp := El0.at hC.el hA.el (i := d + m - 1 - c) (by omega)
    have c1 : (c : Int) < (n : Int) := by omega
    have c2 : ((d + m - 1 - c : Nat) : Int) < (n : Int) := by omega
    have c3 : c < ys.length := by omega
    have c4 : d + m - 1 - c < ys.length := by omega
    simp only [zS, seval, implies_true, Nat.reduceLeDiff, Nat.reduceEqDiff, reduceCtorEq, reduceIte, q0, q1, q2, q3, q4, q5, shr1, lc, lp, c1, c2, c3, c4]
    refine ⟨.inl (by kernel_rfl), callF_ext (v := .d (.int .i64 (cmpF (ys.getD (d + m - 1 - c) default) (ys.getD c default)))) (fun s hs => hC.call _ _ (hA.at (by omega)) (hA.at (by omega)) _ s hs) ?_⟩
    have f1 : ys.getD c default = xs.getD (π c) default := hA.get c (by omega)
    have f2 : ys.getD (d + m - 1 - c) default = xs.getD (π (d + m - 1 - c)) default := hA.get _ (by omega)
    have ht : π c < π (d + m - 1 - c) := hT _ _ (by omega) (by omega) (by omega) (by omega)
    simp only [zS, seval, implies_true, Nat.reduceLeDiff, Nat.reduceEqDiff, reduceCtorEq, reduceIte]
    refine ifC.mk (fun hc => ?_) (fun hc => ?_)
    ·have hL : Lx (fun x y => decide (cmpF x y < 0)) xs (π c) (π (d + m - 1 - c)) := (Lx.tag' ht).2 (.inl (by rw [← f1, ← f2]; simpa using hc))
     have q6 : IntKind.i64.wrap ((c : Int) + 1) = ((c + 1 : Nat) : Int) := by rw [wrap64 (by omega) (by omega)]; omega
     simp only [zS, seval, implies_true, Nat.reduceLeDiff, Nat.reduceEqDiff, reduceCtorEq, reduceIte, q6]
     refine ⟨(c + 1, r), ⟨by simp only; omega, by simp only; omega, h3, fun _ => by simp only; exact hL, h5⟩, by simp only; omega, weak_sub ?_⟩
     simp only [zS, seval, implies_true, Nat.reduceLeDiff, Nat.reduceEqDiff, reduceCtorEq, reduceIte]
    ·have hL : Lx (fun x y => decide (cmpF x y < 0)) xs (π (d + m - 1 - c)) (π c) := (Lx.tag ht).2 (by rw [← f1, ← f2]; simpa using hc)
     refine ⟨(s, c), ⟨h1, by simp only; omega, by simp only; omega, h4, fun _ => hL⟩, by simp only; omega, weak_sub ?_⟩
     simp only [zS, seval, implies_true, Nat.reduceLeDiff, Nat.reduceEqDiff, reduceCtorEq, reduceIte]
   ·have hs : s = r := by omega
    subst hs
    have q0 : ¬ ((s : Int) < s) := by omega
    have q1 : IntKind.i64.wrap (((d + m : Nat) : Int) - s) = ((d + m - s : Nat) : Int) := by rw [wrap64 (by omega) (by omega)]; omega
    obtain ⟨e, he⟩ : ∃ e, e = d + m - s := ⟨_, rfl⟩
    rw [← he] at q1
    obtain ⟨F1, F2⟩ := merge_found (p := d + m - 1) (s := s) (s0 := s0) (r0 := r0) (e := e) hC.swo hxs hπ (by omega) hS1 hS2 (by omega) h1 h3 (by omega) (by omega) (by omega) (by omega) (by omega) (by omega) (by omega) h4 h5 (by omega) (by omega)
    obtain ⟨ρ, hρ⟩ : ∃ ρ : Nat → Nat, ρ = fun p => π (rotI s m e p) := ⟨_, rfl⟩
    obtain ⟨t1, t2, t3, t4, t5, t6, t7, t8⟩ := merge_turn (ρ := ρ) (s := s) (e := e) (d := d) (by omega) (by omega) (by omega) (by omega) (by omega) hS1 hS2 hT F1 F2 (fun p _ _ => by rw [hρ]) (fun p hp => by rw [hρ]; show π (rotI s m e p) = π p; congr 1; unfold rotI; rw [if_pos (by omega)])
    by_cases hrot : s < m ∧ m < e
    ·have c1 : ((s : Int) < m) := by omega
     have c2 : ((m : Int) < e) := by omega
     simp only [zS, seval, implies_true, Nat.reduceLeDiff, Nat.reduceEqDiff, reduceCtorEq, reduceIte, q0, q1, c1, c2]
     refine callF_go ((rotate_spec Dm hC.el ys n s m e fv caps hA.el (by omega) hN hrot.1 hrot.2 (by omega)).mono fun r' s' h => ?_)
     obtain ⟨rfl, zs, rfl, hB⟩ := h
     have hZ : Arr Dm xs zs ρ := by rw [hρ]; exact hA.trans hB fun p hp => rotI_lt (by omega) (by omega) (by omega) hp
     have hρπ := t1.bound (by omega) hπ
     simp only [zS, seval, implies_true, Nat.reduceLeDiff, Nat.reduceEqDiff, reduceCtorEq, reduceIte]
     by_cases hm1 : a < s ∧ s < d
     ·have c1 : ((a : Int) < s) := by omega
      have c2 : ((s : Int) < d) := by omega
      simp only [zS, seval, implies_true, Nat.reduceLeDiff, Nat.reduceEqDiff, reduceCtorEq, reduceIte, c1, c2]
      refine callF_go ((ih a s d zs ρ (by omega) hZ hρπ hm1.1 hm1.2 (by omega) t2 t3 t6).mono fun r s' h => ?_)
      obtain ⟨rfl, ws, κ1, rfl, hW, m1, s1⟩ := h
      have hκ1 := m1.bound (by omega) hρπ
      simp only [zS, seval, implies_true, Nat.reduceLeDiff, Nat.reduceEqDiff, reduceCtorEq, reduceIte]
      by_cases hm2 : d < e ∧ e < b
      ·have c3 : ((d : Int) < e) := by omega
       have c4 : ((e : Int) < b) := by omega
       simp only [zS, seval, implies_true, Nat.reduceLeDiff, Nat.reduceEqDiff, reduceCtorEq, reduceIte, c3, c4]
       refine callF_go ((ih d e b ws κ1 (by omega) hW hκ1 hm2.1 hm2.2 hbn (fun p q q1 q2 q3 => by rw [m1.out p (by omega), m1.out q (by omega)]; exact t4 p q q1 q2 q3) (fun p q q1 q2 q3 => by rw [m1.out p (by omega), m1.out q (by omega)]; exact t5 p q q1 q2 q3) (fun p q q1 q2 q3 q4 => by rw [m1.out p (by omega), m1.out q (by omega)]; exact t7 p q q1 q2 q3 q4)).mono fun r s' h => ?_)
       obtain ⟨rfl, vs, κ2, rfl, hV, m2, s2⟩ := h
       obtain ⟨f1, f2⟩ := merge_join (by omega) (by omega) t1 m1 s1 m2 s2 t8
       simp only [zS, seval, implies_true, Nat.reduceLeDiff, Nat.reduceEqDiff, reduceCtorEq, reduceIte]
       exact ⟨_, _, WeakR.refl _ _ _, rfl, vs, κ2, rfl, hV, f1, f2⟩
      ·have c3 : (decide ((d : Int) < e) && decide ((e : Int) < b)) = false := by
        simp only [Bool.and_eq_false_iff, decide_eq_false_iff_not]
        omega
       have s2 : Sorted (fun x y => decide (cmpF x y < 0)) xs d b κ1 := fun p q q1 q2 q3 => by
        rw [m1.out p (by omega), m1.out q (by omega)]
        by_cases he : e = d
        ·exact t5 p q (by omega) q2 q3
        ·exact t4 p q q1 q2 (by omega)
       obtain ⟨f1, f2⟩ := merge_join (by omega) (by omega) t1 m1 s1 (Mv.refl d b κ1) s2 t8
       simp only [zS, seval, implies_true, Nat.reduceLeDiff, Nat.reduceEqDiff, reduceCtorEq, reduceIte, c3]
       exact ⟨_, _, WeakR.refl _ _ _, rfl, ws, κ1, rfl, hW, f1, f2⟩
     ·have c1 : (decide ((a : Int) < s) && decide ((s : Int) < d)) = false := by
       simp only [Bool.and_eq_false_iff, decide_eq_false_iff_not]
       omega
      have s1 : Sorted (fun x y => decide (cmpF x y < 0)) xs a d ρ := fun p q q1 q2 q3 => by
       by_cases he : s = a
       ·exact t3 p q (by omega) q2 q3
       ·exact t2 p q q1 q2 (by omega)
      obtain ⟨ws, κ1, hW, m1, hκ1, ew, ek⟩ : ∃ ws κ1, Arr Dm xs ws κ1 ∧ Mv a d ρ κ1 ∧ (∀ p, p < xs.length → κ1 p < xs.length) ∧ ws = zs ∧ κ1 = ρ := ⟨zs, ρ, hZ, Mv.refl _ _ _, hρπ, rfl, rfl⟩
      rw [← ek] at s1
      simp only [zS, seval, implies_true, Nat.reduceLeDiff, Nat.reduceEqDiff, reduceCtorEq, reduceIte, c1]
      rw [← ew]
      by_cases hm2 : d < e ∧ e < b
      ·have c3 : ((d : Int) < e) := by omega
       have c4 : ((e : Int) < b) := by omega
       simp only [zS, seval, implies_true, Nat.reduceLeDiff, Nat.reduceEqDiff, reduceCtorEq, reduceIte, c3, c4]
       refine callF_go ((ih d e b ws κ1 (by omega) hW hκ1 hm2.1 hm2.2 hbn (fun p q q1 q2 q3 => by rw [m1.out p (by omega), m1.out q (by omega)]; exact t4 p q q1 q2 q3) (fun p q q1 q2 q3 => by rw [m1.out p (by omega), m1.out q (by omega)]; exact t5 p q q1 q2 q3) (fun p q q1 q2 q3 q4 => by rw [m1.out p (by omega), m1.out q (by omega)]; exact t7 p q q1 q2 q3 q4)).mono fun r s' h => ?_)
       obtain ⟨rfl, vs, κ2, rfl, hV, m2, s2⟩ := h
       obtain ⟨f1, f2⟩ := merge_join (by omega) (by omega) t1 m1 s1 m2 s2 t8
       simp only [zS, seval, implies_true, Nat.reduceLeDiff, Nat.reduceEqDiff, reduceCtorEq, reduceIte]
       exact ⟨_, _, WeakR.refl _ _ _, rfl, vs, κ2, rfl, hV, f1, f2⟩
      ·have c3 : (decide ((d : Int) < e) && decide ((e : Int) < b)) = false := by
        simp only [Bool.and_eq_false_iff, decide_eq_false_iff_not]
        omega
       have s2 : Sorted (fun x y => decide (cmpF x y < 0)) xs d b κ1 := fun p q q1 q2 q3 => by
        rw [m1.out p (by omega), m1.out q (by omega)]
        by_cases he : e = d
        ·exact t5 p q (by omega) q2 q3
        ·exact t4 p q q1 q2 (by omega)
       obtain ⟨f1, f2⟩ := merge_join (by omega) (by omega) t1 m1 s1 (Mv.refl d b κ1) s2 t8
       simp only [zS, seval, implies_true, Nat.reduceLeDiff, Nat.reduceEqDiff, reduceCtorEq, reduceIte, c3]
       exact ⟨_, _, WeakR.refl _ _ _, rfl, ws, κ1, rfl, hW, f1, f2⟩
    ·have c1 : (decide ((s : Int) < m) && decide ((m : Int) < e)) = false := by
      simp only [Bool.and_eq_false_iff, decide_eq_false_iff_not]
      omega
     obtain ⟨zs, hzs⟩ : ∃ zs, zs = ys := ⟨_, rfl⟩
     have hZ : Arr Dm xs zs ρ := by
      rw [hρ, hzs]
      refine hA.congr fun p hp => ?_
      congr 1
      unfold rotI
      repeat' split
      all_goals omega
     have hρπ := t1.bound (by omega) hπ
     rw [← hzs]
     simp only [zS, seval, implies_true, Nat.reduceLeDiff, Nat.reduceEqDiff, reduceCtorEq, reduceIte, q0, q1, c1]
     by_cases hm1 : a < s ∧ s < d
     ·have c1 : ((a : Int) < s) := by omega
      have c2 : ((s : Int) < d) := by omega
      simp only [zS, seval, implies_true, Nat.reduceLeDiff, Nat.reduceEqDiff, reduceCtorEq, reduceIte, c1, c2]
      refine callF_go ((ih a s d zs ρ (by omega) hZ hρπ hm1.1 hm1.2 (by omega) t2 t3 t6).mono fun r s' h => ?_)
      obtain ⟨rfl, ws, κ1, rfl, hW, m1, s1⟩ := h
      have hκ1 := m1.bound (by omega) hρπ
      simp only [zS, seval, implies_true, Nat.reduceLeDiff, Nat.reduceEqDiff, reduceCtorEq, reduceIte]
      by_cases hm2 : d < e ∧ e < b
      ·have c3 : ((d : Int) < e) := by omega
       have c4 : ((e : Int) < b) := by omega
       simp only [zS, seval, implies_true, Nat.reduceLeDiff, Nat.reduceEqDiff, reduceCtorEq, reduceIte, c3, c4]
       refine callF_go ((ih d e b ws κ1 (by omega) hW hκ1 hm2.1 hm2.2 hbn (fun p q q1 q2 q3 => by rw [m1.out p (by omega), m1.out q (by omega)]; exact t4 p q q1 q2 q3) (fun p q q1 q2 q3 => by rw [m1.out p (by omega), m1.out q (by omega)]; exact t5 p q q1 q2 q3) (fun p q q1 q2 q3 q4 => by rw [m1.out p (by omega), m1.out q (by omega)]; exact t7 p q q1 q2 q3 q4)).mono fun r s' h => ?_)
       obtain ⟨rfl, vs, κ2, rfl, hV, m2, s2⟩ := h
       obtain ⟨f1, f2⟩ := merge_join (by omega) (by omega) t1 m1 s1 m2 s2 t8
       simp only [zS, seval, implies_true, Nat.reduceLeDiff, Nat.reduceEqDiff, reduceCtorEq, reduceIte]
       exact ⟨_, _, WeakR.refl _ _ _, rfl, vs, κ2, rfl, hV, f1, f2⟩
      ·have c3 : (decide ((d : Int) < e) && decide ((e : Int) < b)) = false := by
        simp only [Bool.and_eq_false_iff, decide_eq_false_iff_not]
        omega
       have s2 : Sorted (fun x y => decide (cmpF x y < 0)) xs d b κ1 := fun p q q1 q2 q3 => by
        rw [m1.out p (by omega), m1.out q (by omega)]
        by_cases he : e = d
        ·exact t5 p q (by omega) q2 q3
        ·exact t4 p q q1 q2 (by omega)
       obtain ⟨f1, f2⟩ := merge_join (by omega) (by omega) t1 m1 s1 (Mv.refl d b κ1) s2 t8
       simp only [zS, seval, implies_true, Nat.reduceLeDiff, Nat.reduceEqDiff, reduceCtorEq, reduceIte, c3]
       exact ⟨_, _, WeakR.refl _ _ _, rfl, ws, κ1, rfl, hW, f1, f2⟩
     ·have c1 : (decide ((a : Int) < s) && decide ((s : Int) < d)) = false := by
       simp only [Bool.and_eq_false_iff, decide_eq_false_iff_not]
       omega
      have s1 : Sorted (fun x y => decide (cmpF x y < 0)) xs a d ρ := fun p q q1 q2 q3 => by
       by_cases he : s = a
       ·exact t3 p q (by omega) q2 q3
       ·exact t2 p q q1 q2 (by omega)
      obtain ⟨ws, κ1, hW, m1, hκ1, ew, ek⟩ : ∃ ws κ1, Arr Dm xs ws κ1 ∧ Mv a d ρ κ1 ∧ (∀ p, p < xs.length → κ1 p < xs.length) ∧ ws = zs ∧ κ1 = ρ := ⟨zs, ρ, hZ, Mv.refl _ _ _, hρπ, rfl, rfl⟩
      rw [← ek] at s1
      simp only [zS, seval, implies_true, Nat.reduceLeDiff, Nat.reduceEqDiff, reduceCtorEq, reduceIte, c1]
      rw [← ew]
      by_cases hm2 : d < e ∧ e < b
      ·have c3 : ((d : Int) < e) := by omega
       have c4 : ((e : Int) < b) := by omega
       simp only [zS, seval, implies_true, Nat.reduceLeDiff, Nat.reduceEqDiff, reduceCtorEq, reduceIte, c3, c4]
       refine callF_go ((ih d e b ws κ1 (by omega) hW hκ1 hm2.1 hm2.2 hbn (fun p q q1 q2 q3 => by rw [m1.out p (by omega), m1.out q (by omega)]; exact t4 p q q1 q2 q3) (fun p q q1 q2 q3 => by rw [m1.out p (by omega), m1.out q (by omega)]; exact t5 p q q1 q2 q3) (fun p q q1 q2 q3 q4 => by rw [m1.out p (by omega), m1.out q (by omega)]; exact t7 p q q1 q2 q3 q4)).mono fun r s' h => ?_)
       obtain ⟨rfl, vs, κ2, rfl, hV, m2, s2⟩ := h
       obtain ⟨f1, f2⟩ := merge_join (by omega) (by omega) t1 m1 s1 m2 s2 t8
       simp only [zS, seval, implies_true, Nat.reduceLeDiff, Nat.reduceEqDiff, reduceCtorEq, reduceIte]
       exact ⟨_, _, WeakR.refl _ _ _, rfl, vs, κ2, rfl, hV, f1, f2⟩
      ·have c3 : (decide ((d : Int) < e) && decide ((e : Int) < b)) = false := by
        simp only [Bool.and_eq_false_iff, decide_eq_false_iff_not]
        omega
       have s2 : Sorted (fun x y => decide (cmpF x y < 0)) xs d b κ1 := fun p q q1 q2 q3 => by
        rw [m1.out p (by omega), m1.out q (by omega)]
        by_cases he : e = d
        ·exact t5 p q (by omega) q2 q3
        ·exact t4 p q q1 q2 (by omega)
       obtain ⟨f1, f2⟩ := merge_join (by omega) (by omega) t1 m1 s1 (Mv.refl d b κ1) s2 t8
       simp only [zS, seval, implies_true, Nat.reduceLeDiff, Nat.reduceEqDiff, reduceCtorEq, reduceIte, c3]
       exact ⟨_, _, WeakR.refl _ _ _, rfl, ws, κ1, rfl, hW, f1, f2⟩
 ·have c0 : ¬ ((d : Int) < m) := by omega
  have g7 : True := trivial
  simp only [zS, seval, implies_true, Nat.reduceLeDiff, Nat.reduceEqDiff, reduceCtorEq, reduceIte, e1, e2, e3, e4, g1, g2, g3, g4, g5, g6, g7, shr1, c0]
  refine loop_of (τ := Nat × Nat) (fun x => [(0, .osl 0 0 n), (1, .d (.int .i64 a)), (2, .d (.int .i64 m)), (3, .d (.int .i64 b)), (4, .fn fv caps), (18, .d (.int .i64 d)), (19, .d (.int .i64 (d + m : Nat))), (20, .d (.int .i64 x.1)), (21, .d (.int .i64 x.2)), (22, .d (.int .i64 (d + m - 1 : Nat)))]) (fun x => (.arr 1 ys :: τ))
   (fun x => s0 ≤ x.1 ∧ x.1 ≤ x.2 ∧ x.2 ≤ r0 ∧ (s0 < x.1 → Lx (fun x y => decide (cmpF x y < 0)) xs (π (x.1 - 1)) (π (d + m - 1 - (x.1 - 1)))) ∧ (x.2 < r0 → Lx (fun x y => decide (cmpF x y < 0)) xs (π (d + m - 1 - x.2)) (π x.2))) (fun x => x.2 - x.1) (s0, r0)
   ⟨Nat.le_refl _, by simp only; omega, Nat.le_refl _, fun h => by simp only at h; omega, fun h => by simp only at h; omega⟩ ?_ ?_
  ·refine weak_sub ?_
   simp only [zS, seval, implies_true, Nat.reduceLeDiff, Nat.reduceEqDiff, reduceCtorEq, reduceIte, k2, k3]
  ·intro x hi
   obtain ⟨s, r⟩ := x
   obtain ⟨h1, h2, h3, h4, h5⟩ := hi
   simp only at h1 h2 h3 h4 h5
   by_cases hsr : s < r
   ·have q0 : ((s : Int) < r) := by omega
    have q1 : IntKind.i64.wrap ((s : Int) + r) = ((s + r : Nat) : Int) := by rw [wrap64 (by omega) (by omega)]; omega
    have q2 : IntKind.u64.wrap ((s + r : Nat) : Int) = ((s + r : Nat) : Int) := u64_in _ (by omega)
    have q3 : ((s + r : Nat) : Int).fdiv 2 = (((s + r) / 2 : Nat) : Int) := half _ (by omega)
    have q4 : IntKind.i64.wrap (((s + r) / 2 : Nat) : Int) = (((s + r) / 2 : Nat) : Int) := i64_nat _ (by omega)
    obtain ⟨c, e8, e9, e10⟩ : ∃ c, c = (s + r) / 2 ∧ s ≤ c ∧ c < r := ⟨_, rfl, by omega, by omega⟩
    rw [← e8] at q3 q4
    have q5 : IntKind.i64.wrap (((d + m - 1 : Nat) : Int) - c) = ((d + m - 1 - c : Nat) : Int) := by rw [wrap64 (by omega) (by omega)]; omega
    have lc := El0.at hC.el hA.el (i := c) (by omega)
    have lp := El0.at hC.el hA.el (i := d + m - 1 - c) (by omega)
    have c1 : (c : Int) < (n : Int) := by omega
    have c2 : ((d + m - 1 - c : Nat) : Int) < (n : Int) := by omega
    have c3 : c < ys.length := by omega
    have c4 : d + m - 1 - c < ys.length := by omega
    simp only [zS, seval, implies_true, Nat.reduceLeDiff, Nat.reduceEqDiff, reduceCtorEq, reduceIte, q0, q1, q2, q3, q4, q5, shr1, lc, lp, c1, c2, c3, c4]
    refine ⟨.inl (by kernel_rfl), callF_ext (v := .d (.int .i64 (cmpF (ys.getD (d + m - 1 - c) default) (ys.getD c default)))) (fun s hs => hC.call _ _ (hA.at (by omega)) (hA.at (by omega)) _ s hs) ?_⟩
    have f1 : ys.getD c default = xs.getD (π c) default := hA.get c (by omega)
    have f2 : ys.getD (d + m - 1 - c) default = xs.getD (π (d + m - 1 - c)) default := hA.get _ (by omega)
    have ht : π c < π (d + m - 1 - c) := hT _ _ (by omega) (by omega) (by omega) (by omega)
    simp only [zS, seval, implies_true, Nat.reduceLeDiff, Nat.reduceEqDiff, reduceCtorEq, reduceIte]
    refine ifC.mk (fun hc => ?_) (fun hc => ?_)
    ·have hL : Lx (fun x y => decide (cmpF x y < 0)) xs (π c) (π (d + m - 1 - c)) := (Lx.tag' ht).2 (.inl (by rw [← f1, ← f2]; simpa using hc))
     have q6 : IntKind.i64.wrap ((c : Int) + 1) = ((c + 1 : Nat) : Int) := by rw [wrap64 (by omega) (by omega)]; omega
     simp only [zS, seval, implies_true, Nat.reduceLeDiff, Nat.reduceEqDiff, reduceCtorEq, reduceIte, q6]
     refine ⟨(c + 1, r), ⟨by simp only; omega, by simp only; omega, h3, fun _ => by simp only; exact hL, h5⟩, by simp only; omega, weak_sub ?_⟩
     simp only [zS, seval, implies_true, Nat.reduceLeDiff, Nat.reduceEqDiff, reduceCtorEq, reduceIte]
    ·have hL : Lx (fun x y => decide (cmpF x y < 0)) xs (π (d + m - 1 - c)) (π c) := (Lx.tag ht).2 (by rw [← f1, ← f2]; simpa using hc)
     refine ⟨(s, c), ⟨h1, by simp only; omega, by simp only; omega, h4, fun _ => hL⟩, by simp only; omega, weak_sub ?_⟩
     simp only [zS, seval, implies_true, Nat.reduceLeDiff, Nat.reduceEqDiff, reduceCtorEq, reduceIte]
   ·have hs : s = r := by omega
    subst hs
    have q0 : ¬ ((s : Int) < s) := by omega
    have q1 : IntKind.i64.wrap (((d + m : Nat) : Int) - s) = ((d + m - s : Nat) : Int) := by rw [wrap64 (by omega) (by omega)]; omega
    obtain ⟨e, he⟩ : ∃ e, e = d + m - s := ⟨_, rfl⟩
    rw [← he] at q1
    obtain ⟨F1, F2⟩ := merge_found (p := d + m - 1) (s := s) (s0 := s0) (r0 := r0) (e := e) hC.swo hxs hπ (by omega) hS1 hS2 (by omega) h1 h3 (by omega) (by omega) (by omega) (by omega) (by omega) (by omega) (by omega) h4 h5 (by omega) (by omega)
    obtain ⟨ρ, hρ⟩ : ∃ ρ : Nat → Nat, ρ = fun p => π (rotI s m e p) := ⟨_, rfl⟩
    obtain ⟨t1, t2, t3, t4, t5, t6, t7, t8⟩ := merge_turn (ρ := ρ) (s := s) (e := e) (d := d) (by omega) (by omega) (by omega) (by omega) (by omega) hS1 hS2 hT F1 F2 (fun p _ _ => by rw [hρ]) (fun p hp => by rw [hρ]; show π (rotI s m e p) = π p; congr 1; unfold rotI; rw [if_pos (by omega)])
    by_cases hrot : s < m ∧ m < e
    ·have c1 : ((s : Int) < m) := by omega
     have c2 : ((m : Int) < e) := by omega
     simp only [zS, seval, implies_true, Nat.reduceLeDiff, Nat.reduceEqDiff, reduceCtorEq, reduceIte, q0, q1, c1, c2]
     refine callF_go ((rotate_spec Dm hC.el ys n s m e fv caps hA.el (by omega) hN hrot.1 hrot.2 (by omega)).mono fun r' s' h => ?_)
     obtain ⟨rfl, zs, rfl, hB⟩ := h
     have hZ : Arr Dm xs zs ρ := by rw [hρ]; exact hA.trans hB fun p hp => rotI_lt (by omega) (by omega) (by omega) hp
     have hρπ := t1.bound (by omega) hπ
     simp only [zS, seval, implies_true, Nat.reduceLeDiff, Nat.reduceEqDiff, reduceCtorEq, reduceIte]
     by_cases hm1 : a < s ∧ s < d
     ·have c1 : ((a : Int) < s) := by omega
      have c2 : ((s : Int) < d) := by omega
      simp only [zS, seval, implies_true, Nat.reduceLeDiff, Nat.reduceEqDiff, reduceCtorEq, reduceIte, c1, c2]
      refine callF_go ((ih a s d zs ρ (by omega) hZ hρπ hm1.1 hm1.2 (by omega) t2 t3 t6).mono fun r s' h => ?_)
      obtain ⟨rfl, ws, κ1, rfl, hW, m1, s1⟩ := h
      have hκ1 := m1.bound (by omega) hρπ
      simp only [zS, seval, implies_true, Nat.reduceLeDiff, Nat.reduceEqDiff, reduceCtorEq, reduceIte]
      by_cases hm2 : d < e ∧ e < b
      ·have c3 : ((d : Int) < e) := by omega
       have c4 : ((e : Int) < b) := by omega
       simp only [zS, seval, implies_true, Nat.reduceLeDiff, Nat.reduceEqDiff, reduceCtorEq, reduceIte, c3, c4]
       refine callF_go ((ih d e b ws κ1 (by omega) hW hκ1 hm2.1 hm2.2 hbn (fun p q q1 q2 q3 => by rw [m1.out p (by omega), m1.out q (by omega)]; exact t4 p q q1 q2 q3) (fun p q q1 q2 q3 => by rw [m1.out p (by omega), m1.out q (by omega)]; exact t5 p q q1 q2 q3) (fun p q q1 q2 q3 q4 => by rw [m1.out p (by omega), m1.out q (by omega)]; exact t7 p q q1 q2 q3 q4)).mono fun r s' h => ?_)
       obtain ⟨rfl, vs, κ2, rfl, hV, m2, s2⟩ := h
       obtain ⟨f1, f2⟩ := merge_join (by omega) (by omega) t1 m1 s1 m2 s2 t8
       simp only [zS, seval, implies_true, Nat.reduceLeDiff, Nat.reduceEqDiff, reduceCtorEq, reduceIte]
       exact ⟨_, _, WeakR.refl _ _ _, rfl, vs, κ2, rfl, hV, f1, f2⟩
      ·have c3 : (decide ((d : Int) < e) && decide ((e : Int) < b)) = false := by
        simp only [Bool.and_eq_false_iff, decide_eq_false_iff_not]
        omega
       have s2 : Sorted (fun x y => decide (cmpF x y < 0)) xs d b κ1 := fun p q q1 q2 q3 => by
        rw [m1.out p (by omega), m1.out q (by omega)]
        by_cases he : e = d
        ·exact t5 p q (by omega) q2 q3
        ·exact t4 p q q1 q2 (by omega)
       obtain ⟨f1, f2⟩ := merge_join (by omega) (by omega) t1 m1 s1 (Mv.refl d b κ1) s2 t8
       simp only [zS, seval, implies_true, Nat.reduceLeDiff, Nat.reduceEqDiff, reduceCtorEq, reduceIte, c3]
       exact ⟨_, _, WeakR.refl _ _ _, rfl, ws, κ1, rfl, hW, f1, f2⟩
     ·have c1 : (decide ((a : Int) < s) && decide ((s : Int) < d)) = false := by
       simp only [Bool.and_eq_false_iff, decide_eq_false_iff_not]
       omega
      have s1 : Sorted (fun x y => decide (cmpF x y < 0)) xs a d ρ := fun p q q1 q2 q3 => by
       by_cases he : s = a
       ·exact t3 p q (by omega) q2 q3
       ·exact t2 p q q1 q2 (by omega)
      obtain ⟨ws, κ1, hW, m1, hκ1, ew, ek⟩ : ∃ ws κ1, Arr Dm xs ws κ1 ∧ Mv a d ρ κ1 ∧ (∀ p, p < xs.length → κ1 p < xs.length) ∧ ws = zs ∧ κ1 = ρ := ⟨zs, ρ, hZ, Mv.refl _ _ _, hρπ, rfl, rfl⟩
      rw [← ek] at s1
      simp only [zS, seval, implies_true, Nat.reduceLeDiff, Nat.reduceEqDiff, reduceCtorEq, reduceIte, c1]
      rw [← ew]
      by_cases hm2 : d < e ∧ e < b
      ·have c3 : ((d : Int) < e) := by omega
       have c4 : ((e : Int) < b) := by omega
       simp only [zS, seval, implies_true, Nat.reduceLeDiff, Nat.reduceEqDiff, reduceCtorEq, reduceIte, c3, c4]
       refine callF_go ((ih d e b ws κ1 (by omega) hW hκ1 hm2.1 hm2.2 hbn (fun p q q1 q2 q3 => by rw [m1.out p (by omega), m1.out q (by omega)]; exact t4 p q q1 q2 q3) (fun p q q1 q2 q3 => by rw [m1.out p (by omega), m1.out q (by omega)]; exact t5 p q q1 q2 q3) (fun p q q1 q2 q3 q4 => by rw [m1.out p (by omega), m1.out q (by omega)]; exact t7 p q q1 q2 q3 q4)).mono fun r s' h => ?_)
       obtain ⟨rfl, vs, κ2, rfl, hV, m2, s2⟩ := h
       obtain ⟨f1, f2⟩ := merge_join (by omega) (by omega) t1 m1 s1 m2 s2 t8
       simp only [zS, seval, implies_true, Nat.reduceLeDiff, Nat.reduceEqDiff, reduceCtorEq, reduceIte]
       exact ⟨_, _, WeakR.refl _ _ _, rfl, vs, κ2, rfl, hV, f1, f2⟩
      ·have c3 : (decide ((d : Int) < e) && decide ((e : Int) < b)) = false := by
        simp only [Bool.and_eq_false_iff, decide_eq_false_iff_not]
        omega
       have s2 : Sorted (fun x y => decide (cmpF x y < 0)) xs d b κ1 := fun p q q1 q2 q3 => by
        rw [m1.out p (by omega), m1.out q (by omega)]
        by_cases he : e = d
        ·exact t5 p q (by omega) q2 q3
        ·exact t4 p q q1 q2 (by omega)
       obtain ⟨f1, f2⟩ := merge_join (by omega) (by omega) t1 m1 s1 (Mv.refl d b κ1) s2 t8
       simp only [zS, seval, implies_true, Nat.reduceLeDiff, Nat.reduceEqDiff, reduceCtorEq, reduceIte, c3]
       exact ⟨_, _, WeakR.refl _ _ _, rfl, ws, κ1, rfl, hW, f1, f2⟩
    ·have c1 : (decide ((s : Int) < m) && decide ((m : Int) < e)) = false := by
      simp only [Bool.and_eq_false_iff, decide_eq_false_iff_not]
      omega
     obtain ⟨zs, hzs⟩ : ∃ zs, zs = ys := ⟨_, rfl⟩
     have hZ : Arr Dm xs zs ρ := by
      rw [hρ, hzs]
      refine hA.congr fun p hp => ?_
      congr 1
      unfold rotI
      repeat' split
      all_goals omega
     have hρπ := t1.bound (by omega) hπ
     rw [← hzs]
     simp only [zS, seval, implies_true, Nat.reduceLeDiff, Nat.reduceEqDiff, reduceCtorEq, reduceIte, q0, q1, c1]
     by_cases hm1 : a < s ∧ s < d
     ·have c1 : ((a : Int) < s) := by omega
      have c2 : ((s : Int) < d) := by omega
      simp only [zS, seval, implies_true, Nat.reduceLeDiff, Nat.reduceEqDiff, reduceCtorEq, reduceIte, c1, c2]
      refine callF_go ((ih a s d zs ρ (by omega) hZ hρπ hm1.1 hm1.2 (by omega) t2 t3 t6).mono fun r s' h => ?_)
      obtain ⟨rfl, ws, κ1, rfl, hW, m1, s1⟩ := h
      have hκ1 := m1.bound (by omega) hρπ
      simp only [zS, seval, implies_true, Nat.reduceLeDiff, Nat.reduceEqDiff, reduceCtorEq, reduceIte]
      by_cases hm2 : d < e ∧ e < b
      ·have c3 : ((d : Int) < e) := by omega
       have c4 : ((e : Int) < b) := by omega
       simp only [zS, seval, implies_true, Nat.reduceLeDiff, Nat.reduceEqDiff, reduceCtorEq, reduceIte, c3, c4]
       refine callF_go ((ih d e b ws κ1 (by omega) hW hκ1 hm2.1 hm2.2 hbn (fun p q q1 q2 q3 => by rw [m1.out p (by omega), m1.out q (by omega)]; exact t4 p q q1 q2 q3) (fun p q q1 q2 q3 => by rw [m1.out p (by omega), m1.out q (by omega)]; exact t5 p q q1 q2 q3) (fun p q q1 q2 q3 q4 => by rw [m1.out p (by omega), m1.out q (by omega)]; exact t7 p q q1 q2 q3 q4)).mono fun r s' h => ?_)
       obtain ⟨rfl, vs, κ2, rfl, hV, m2, s2⟩ := h
       obtain ⟨f1, f2⟩ := merge_join (by omega) (by omega) t1 m1 s1 m2 s2 t8
       simp only [zS, seval, implies_true, Nat.reduceLeDiff, Nat.reduceEqDiff, reduceCtorEq, reduceIte]
       exact ⟨_, _, WeakR.refl _ _ _, rfl, vs, κ2, rfl, hV, f1, f2⟩
      ·have c3 : (decide ((d : Int) < e) && decide ((e : Int) < b)) = false := by
        simp only [Bool.and_eq_false_iff, decide_eq_false_iff_not]
        omega
       have s2 : Sorted (fun x y => decide (cmpF x y < 0)) xs d b κ1 := fun p q q1 q2 q3 => by
        rw [m1.out p (by omega), m1.out q (by omega)]
        by_cases he : e = d
        ·exact t5 p q (by omega) q2 q3
        ·exact t4 p q q1 q2 (by omega)
       obtain ⟨f1, f2⟩ := merge_join (by omega) (by omega) t1 m1 s1 (Mv.refl d b κ1) s2 t8
       simp only [zS, seval, implies_true, Nat.reduceLeDiff, Nat.reduceEqDiff, reduceCtorEq, reduceIte, c3]
       exact ⟨_, _, WeakR.refl _ _ _, rfl, ws, κ1, rfl, hW, f1, f2⟩
     ·have c1 : (decide ((a : Int) < s) && decide ((s : Int) < d)) = false := by
       simp only [Bool.and_eq_false_iff, decide_eq_false_iff_not]
       omega
      have s1 : Sorted (fun x y => decide (cmpF x y < 0)) xs a d ρ := fun p q q1 q2 q3 => by
       by_cases he : s = a
       ·exact t3 p q (by omega) q2 q3
       ·exact t2 p q q1 q2 (by omega)
      obtain ⟨ws, κ1, hW, m1, hκ1, ew, ek⟩ : ∃ ws κ1, Arr Dm xs ws κ1 ∧ Mv a d ρ κ1 ∧ (∀ p, p < xs.length → κ1 p < xs.length) ∧ ws = zs ∧ κ1 = ρ := ⟨zs, ρ, hZ, Mv.refl _ _ _, hρπ, rfl, rfl⟩
      rw [← ek] at s1
      simp only [zS, seval, implies_true, Nat.reduceLeDiff, Nat.reduceEqDiff, reduceCtorEq, reduceIte, c1]
      rw [← ew]
      by_cases hm2 : d < e ∧ e < b
      ·have c3 : ((d : Int) < e) := by omega
       have c4 : ((e : Int) < b) := by omega
       simp only [zS, seval, implies_true, Nat.reduceLeDiff, Nat.reduceEqDiff, reduceCtorEq, reduceIte, c3, c4]
       refine callF_go ((ih d e b ws κ1 (by omega) hW hκ1 hm2.1 hm2.2 hbn (fun p q q1 q2 q3 => by rw [m1.out p (by omega), m1.out q (by omega)]; exact t4 p q q1 q2 q3) (fun p q q1 q2 q3 => by rw [m1.out p (by omega), m1.out q (by omega)]; exact t5 p q q1 q2 q3) (fun p q q1 q2 q3 q4 => by rw [m1.out p (by omega), m1.out q (by omega)]; exact t7 p q q1 q2 q3 q4)).mono fun r s' h => ?_)
       obtain ⟨rfl, vs, κ2, rfl, hV, m2, s2⟩ := h
       obtain ⟨f1, f2⟩ := merge_join (by omega) (by omega) t1 m1 s1 m2 s2 t8
       simp only [zS, seval, implies_true, Nat.reduceLeDiff, Nat.reduceEqDiff, reduceCtorEq, reduceIte]
       exact ⟨_, _, WeakR.refl _ _ _, rfl, vs, κ2, rfl, hV, f1, f2⟩
      ·have c3 : (decide ((d : Int) < e) && decide ((e : Int) < b)) = false := by
        simp only [Bool.and_eq_false_iff, decide_eq_false_iff_not]
        omega
       have s2 : Sorted (fun x y => decide (cmpF x y < 0)) xs d b κ1 := fun p q q1 q2 q3 => by
        rw [m1.out p (by omega), m1.out q (by omega)]
        by_cases he : e = d
        ·exact t5 p q (by omega) q2 q3
        ·exact t4 p q q1 q2 (by omega)
       obtain ⟨f1, f2⟩ := merge_join (by omega) (by omega) t1 m1 s1 (Mv.refl d b κ1) s2 t8
       simp only [zS, seval, implies_true, Nat.reduceLeDiff, Nat.reduceEqDiff, reduceCtorEq, reduceIte, c3]
       exact ⟨_, _, WeakR.refl _ _ _, rfl, ws, κ1, rfl, hW, f1, f2⟩
end YtadfcljoocjhdaaGreat
end Go.Proofs
