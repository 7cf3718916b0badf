/- A part of the proof: contracts of functions of this seat, and lemmas. No condition beyond those stated. -/
import Derived.Test.YtadfcljoocjhdaaGreatWts4
import Derived.Test.YtadfcljoocjhdaaGreatG3
set_option linter.unusedVariables false
set_option linter.unusedSimpArgs false
set_option linter.unusedSectionVars false
set_option linter.unnecessarySimpa false
set_option maxRecDepth 100000
namespace Go.Proofs
open Go.AM
namespace YtadfcljoocjhdaaGreat
variable {Gl : Globs} {τ : Sto}
structure CmpOk (Gl : Globs) (τ : Sto) (Dm : D → Prop) (cmpF : D → D → Int) (fv : FuncId) (caps : List AV) : Prop where
 el : ∀ x, Dm x → El0 1 x
 call : ∀ x y, Dm x → Dm y → ∀ ys s, Ext (.arr 1 ys :: τ) s → ACalls Tryz.prog Gl fv ([.d x, .d y] ++ caps) s (fun r s' => r = .d (.int .i64 (cmpF x y)) ∧ s' = s)
 swo : Swo Dm (fun x y => decide (cmpF x y < 0))
structure Slide (xs : List D) (lt : D → D → Bool) (i : Nat) (ρ : Nat → Nat) (j : Nat) (κ : Nat → Nat) : Prop where
 le : j ≤ i
 at_ : κ j = ρ i
 left : ∀ p, p < j → κ p = ρ p
 mid : ∀ p, j < p → p ≤ i → κ p = ρ (p - 1)
 right : ∀ p, i < p → κ p = ρ p
 less : ∀ p, j ≤ p → p < i → Lx lt xs (ρ i) (ρ p)
theorem slide_step {xs : List D} {lt : D → D → Bool} {i j : Nat} {ρ κ : Nat → Nat} (h : Slide xs lt i ρ j κ) (hj : 0 < j) (hl : Lx lt xs (ρ i) (ρ (j - 1))) :
  Slide xs lt i ρ (j - 1) (fun p => if p = j - 1 then κ j else if p = j then κ (j - 1) else κ p) := by
 have hle := h.le
 refine ⟨by omega, ?_, fun p hp => ?_, fun p h1 h2 => ?_, fun p hp => ?_, fun p h1 h2 => ?_⟩
 ·simp only [if_true]; exact h.at_
 ·rw [if_neg (by omega), if_neg (by omega)]; exact h.left p (by omega)
 ·rw [if_neg (by omega)]
  by_cases e : p = j
  ·rw [if_pos e, e]; exact h.left _ (by omega)
  ·rw [if_neg e]; exact h.mid p (by omega) h2
 ·rw [if_neg (by omega), if_neg (by omega)]; exact h.right p hp
 ·by_cases e : p = j - 1
  ·rw [e]; exact hl
  ·exact h.less p (by omega) h2
theorem slide_done {Dm : D → Prop} {xs : List D} {lt : D → D → Bool} (hw : Swo Dm lt) (hx : ∀ y ∈ xs, Dm y) {a i j : Nat} {π ρ κ : Nat → Nat} (hi : i < xs.length) (hπ : ∀ p, p < xs.length → π p < xs.length)
  (hM : Mv a i π ρ) (hS : Sorted lt xs a i ρ) (h : Slide xs lt i ρ j κ) (haj : a ≤ j) (hl : a < j → Lx lt xs (ρ (j - 1)) (ρ i)) :
  Mv a (i + 1) π κ ∧ Sorted lt xs a (i + 1) κ := by
 have hle := h.le
 have hρ : ∀ p, p < xs.length → ρ p < xs.length := fun p hp => by
  by_cases hq : a ≤ p ∧ p < i
  ·obtain ⟨q, q1, q2, q3⟩ := hM.inn p hq.1 hq.2
   rw [q3]; exact hπ q (by omega)
  ·rw [hM.out p (by omega)]; exact hπ p hp
 have hi' : ρ i = π i := hM.out i (by omega)
 refine ⟨⟨fun p hp => ?_, fun p h1 h2 => ?_⟩, fun p q h1 h2 h3 => ?_⟩
 ·rcases Nat.lt_or_ge p j with hpj | hpj
  ·rw [h.left p hpj]; exact hM.out p (by omega)
  ·rw [h.right p (by omega)]; exact hM.out p (by omega)
 ·rcases Nat.lt_trichotomy p j with hpj | hpj | hpj
  ·rw [h.left p hpj]
   obtain ⟨q, q1, q2, q3⟩ := hM.inn p h1 (by omega)
   exact ⟨q, q1, by omega, q3⟩
  ·subst hpj
   exact ⟨i, by omega, by omega, by rw [h.at_, hi']⟩
  ·rw [h.mid p hpj (by omega)]
   obtain ⟨q, q1, q2, q3⟩ := hM.inn (p - 1) (by omega) (by omega)
   exact ⟨q, q1, by omega, q3⟩
 ·rcases Nat.lt_trichotomy q j with hq | hq | hq
  ·rw [h.left p (by omega), h.left q hq]; exact hS p q h1 h2 (by omega)
  ·subst hq
   rw [h.left p h2, h.at_]
   have hlq := hl (by omega)
   by_cases e : p = q - 1
   ·rw [e]; exact hlq
   ·exact Lx.trans hw hx (hρ p (by omega)) (hρ (q - 1) (by omega)) (hρ i hi) (hS p (q - 1) h1 (by omega) (by omega)) hlq
  ·rw [h.mid q hq (by omega)]
   rcases Nat.lt_trichotomy p j with hp | hp | hp
   ·rw [h.left p hp]; exact hS p (q - 1) h1 (by omega) (by omega)
   ·subst hp
    rw [h.at_]; exact h.less (q - 1) (by omega) (by omega)
   ·rw [h.mid p hp (by omega)]; exact hS (p - 1) (q - 1) (by omega) (by omega) (by omega)
theorem insertion_spec (Dm : D → Prop) (cmpF : D → D → Int) (fv : FuncId) (caps : List AV) (hC : CmpOk Gl τ Dm cmpF fv caps) (xs ys : List D) (hxs : ∀ y ∈ xs, Dm y) (n a b : Nat) (π : Nat → Nat) (hA : Arr Dm xs ys π) (hπ : ∀ p, p < xs.length → π p < xs.length)
  (hn : n ≤ xs.length) (hN : n < 1000000) (hab : a ≤ b) (hb : b ≤ n) (hr : Rising a b π) :
  ACalls Tryz.prog Gl 135 [.osl 0 0 n, .d (.int .i64 a), .d (.int .i64 b), .fn fv caps] (.arr 1 ys :: τ)
   (fun r s => r = .tup [] ∧ ∃ zs ρ, s = (.arr 1 zs :: τ) ∧ Arr Dm xs zs ρ ∧ Mv a b π ρ ∧ Sorted (fun x y => decide (cmpF x y < 0)) xs a b ρ) := by
 refine acalls_of Tryz.func135 rfl rfl (by simp [Tryz.ntmps135]) (evC_sound rfl _ _ _ _ ?_)
 simp only [Tryz.ntmps135, Tryz.results135, argEnv, List.length_nil]
 simp only [zS, seval, implies_true, Nat.reduceLeDiff, Nat.reduceEqDiff, reduceCtorEq, reduceIte]
 refine loop_of (τ := Nat × List D) (fun x => [(0, .osl 0 0 n), (1, .d (.int .i64 a)), (2, .d (.int .i64 b)), (3, .fn fv caps), (8, .d (.int .i64 x.1))]) (fun x => (.arr 1 x.2 :: τ))
  (fun x => a + 1 ≤ x.1 ∧ (x.1 ≤ b ∨ x.1 = a + 1) ∧ ∃ ρ, Arr Dm xs x.2 ρ ∧ Mv a (min x.1 b) π ρ ∧ Sorted (fun x y => decide (cmpF x y < 0)) xs a (min x.1 b) ρ) (fun x => b + 1 - x.1) (a + 1, ys)
  ⟨by simp only; omega, .inr rfl, π, hA, Mv.refl _ _ _, fun p q h1 h2 h3 => by simp only at h3; omega⟩ ?_ ?_
 ·refine weak_sub ?_
  have e1 : IntKind.i64.wrap ((a : Int) + 1) = ((a + 1 : Nat) : Int) := by rw [wrap64 (by omega) (by omega)]; omega
  simp only [zS, seval, implies_true, Nat.reduceLeDiff, Nat.reduceEqDiff, reduceCtorEq, reduceIte, e1]
 ·intro x hi
  obtain ⟨i, us⟩ := x
  obtain ⟨h1, h2, ρ, hU, hM, hS⟩ := hi
  simp only at h1 h2 hU hM hS
  simp only [zS, seval, implies_true, Nat.reduceLeDiff, Nat.reduceEqDiff, reduceCtorEq, reduceIte]
  refine ifC.mk (fun h => ?_) (fun h => ?_)
  ·have h : i < b := by simpa using h
   have hmin : min i b = i := by omega
   rw [hmin] at hM hS
   have hlU := hU.len
   refine loop_of (τ := Nat × List D) (fun x => [(0, .osl 0 0 n), (1, .d (.int .i64 a)), (2, .d (.int .i64 b)), (3, .fn fv caps), (8, .d (.int .i64 i)), (9, .d (.int .i64 x.1))]) (fun x => (.arr 1 x.2 :: τ))
    (fun x => a ≤ x.1 ∧ ∃ κ, Arr Dm xs x.2 κ ∧ Slide xs (fun x y => decide (cmpF x y < 0)) i ρ x.1 κ) (fun x => x.1) (i, us)
    ⟨by simp only; omega, ρ, hU, Nat.le_refl _, rfl, fun _ _ => rfl, fun p q1 q2 => by omega, fun _ _ => rfl, fun p q1 q2 => by omega⟩ ?_ ?_
   ·refine weak_sub ?_
    simp only [zS, seval, implies_true, Nat.reduceLeDiff, Nat.reduceEqDiff, reduceCtorEq, reduceIte]
   ·intro y hi
    obtain ⟨j, vs⟩ := y
    obtain ⟨k1, κ, hV, hK⟩ := hi
    simp only at k1 hV hK
    have hlV := hV.len
    have k2 := hK.le
    have l1 := El0.at hC.el hV.el (i := j) (by omega)
    have c1 : (j : Int) < (n : Int) := by omega
    have c3 : j < vs.length := by omega
    by_cases haj : a < j
    ·have haj' : (a : Int) < (j : Int) := by omega
     have e1 : IntKind.i64.wrap ((j : Int) - 1) = ((j - 1 : Nat) : Int) := by rw [wrap64 (by omega) (by omega)]; omega
     have l2 := El0.at hC.el hV.el (i := j - 1) (by omega)
     have c2 : ((j - 1 : Nat) : Int) < (n : Int) := by omega
     have c4 : j - 1 < vs.length := by omega
     simp only [zS, seval, implies_true, Nat.reduceLeDiff, Nat.reduceEqDiff, reduceCtorEq, reduceIte, e1, l1, l2, c1, c2, c3, c4, haj']
     refine ⟨.inl (by kernel_rfl), callG_ext (v := .d (.int .i64 (cmpF (vs.getD j default) (vs.getD (j - 1) default)))) (fun _ s hs => hC.call _ _ (hV.at (by omega)) (hV.at (by omega)) _ s hs) ?_⟩
     have g1 : vs.getD j default = xs.getD (ρ i) default := by rw [hV.get j (by omega), hK.at_]
     have g2 : vs.getD (j - 1) default = xs.getD (ρ (j - 1)) default := by rw [hV.get (j - 1) (by omega), hK.left (j - 1) (by omega)]
     simp only [zS, seval, implies_true, Nat.reduceLeDiff, Nat.reduceEqDiff, reduceCtorEq, reduceIte, e1, l1, l2, c1, c2, c3, c4, haj']
     refine ifC.mk (fun hc => ?_) (fun hc => ?_)
     ·have e2 : IntKind.i64.wrap ((j : Int) - 1) = ((j - 1 : Nat) : Int) := e1
      refine ⟨.inl (by kernel_rfl), (j - 1, _), ⟨by simp only; omega, _, hV.swap (i := j) (j := j - 1) (by omega) (by omega), slide_step hK (by omega) (.inl ?_)⟩, by simp only; omega, weak_sub ?_⟩
      ·simp only
       rw [← g1, ← g2]; exact hc
      ·simp only [zS, seval, implies_true, Nat.reduceLeDiff, Nat.reduceEqDiff, reduceCtorEq, reduceIte, e1]
     ·have hc : ¬ cmpF (vs.getD j default) (vs.getD (j - 1) default) < 0 := by simpa using hc
      have e3 : IntKind.i64.wrap ((i : Int) + 1) = ((i + 1 : Nat) : Int) := by rw [wrap64 (by omega) (by omega)]; omega
      obtain ⟨d1, d2⟩ := slide_done hC.swo hxs (by omega) hπ hM hS hK k1 (fun _ => by
       obtain ⟨q, q1, q2, q3⟩ := hM.inn (j - 1) (by omega) (by omega)
       refine (Lx.tag' ?_).2 (.inl ?_)
       ·rw [q3, hM.out i (by omega)]; exact hr q i q1 q2 h
       ·rw [← g1, ← g2]; simpa using hc)
      refine ⟨(i + 1, vs), ⟨by simp only; omega, .inl (by simp only; omega), κ, hV, ?_, ?_⟩, by simp only; omega, weak_sub ?_⟩
      ·simp only; rw [show min (i + 1) b = i + 1 from by omega]; exact d1
      ·simp only; rw [show min (i + 1) b = i + 1 from by omega]; exact d2
      ·simp only [zS, seval, implies_true, Nat.reduceLeDiff, Nat.reduceEqDiff, reduceCtorEq, reduceIte, e3]
    ·have haj' : ¬ (a : Int) < (j : Int) := by omega
     simp only [zS, seval, implies_true, Nat.reduceLeDiff, Nat.reduceEqDiff, reduceCtorEq, reduceIte, l1, c1, c3, haj']
     refine ⟨.inl (by kernel_rfl), callG_ext (v := .d (.int .i64 0)) (fun hg => by cases hg) ?_⟩
     have e3 : IntKind.i64.wrap ((i : Int) + 1) = ((i + 1 : Nat) : Int) := by rw [wrap64 (by omega) (by omega)]; omega
     simp only [zS, seval, implies_true, Nat.reduceLeDiff, Nat.reduceEqDiff, reduceCtorEq, reduceIte, l1, c1, c3, haj']
     obtain ⟨d1, d2⟩ := slide_done hC.swo hxs (by omega) hπ hM hS hK k1 (fun hh => absurd hh haj)
     refine ⟨(i + 1, vs), ⟨by simp only; omega, .inl (by simp only; omega), κ, hV, ?_, ?_⟩, by simp only; omega, weak_sub ?_⟩
     ·simp only; rw [show min (i + 1) b = i + 1 from by omega]; exact d1
     ·simp only; rw [show min (i + 1) b = i + 1 from by omega]; exact d2
     ·simp only [zS, seval, implies_true, Nat.reduceLeDiff, Nat.reduceEqDiff, reduceCtorEq, reduceIte, e3]
  ·have h : ¬ i < b := by simpa using h
   have hmin : min i b = b := by omega
   rw [hmin] at hM hS
   exact ⟨_, _, WeakR.refl _ _ _, rfl, us, ρ, rfl, hU, hM, hS⟩
end YtadfcljoocjhdaaGreat
end Go.Proofs
