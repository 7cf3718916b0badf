/- A part of the proof: contracts of functions of this seat, and lemmas. No condition beyond those stated. -/
import Derived.Test.YtkoebmjenkajdaaDoorR02i
set_option linter.unusedVariables false
set_option linter.unusedSimpArgs false
set_option linter.unusedSectionVars false
set_option linter.unnecessarySimpa false
set_option linter.unusedVariables false
set_option linter.unusedSimpArgs false
set_option maxRecDepth 100000
namespace Go.Proofs
open Go.AM
namespace YtkoebmjenkajdaaDoor
/-! ### the value of a fraction made by the short road -/
theorem sumG_scale (g : Nat) (hg : 0 < g) (m n : Bool) (x y : Nat) : sumG (m, g * x) (n, g * y) = ((sumG (m, x) (n, y)).1, g * (sumG (m, x) (n, y)).2) := by
  unfold sumG
  simp only
  split
  · simp only [Nat.mul_add]
  · by_cases h : x < y
    · rw [if_pos h, if_pos ((Nat.mul_lt_mul_left hg).2 h)]
      simp only [Nat.mul_sub]
    · rw [if_neg h, if_neg (fun k => h ((Nat.mul_lt_mul_left hg).1 k))]
      simp only [Nat.mul_sub]
theorem sumG_zero (m n : Bool) (x : Nat) : sumG (m, x) (n, 0) = (m, x) := by
  unfold sumG
  simp only [Nat.add_zero, Nat.sub_zero, Nat.not_lt_zero, if_false]
  split <;> rfl
/-- what is made of a numerator and a denominator in lowest terms -/
def madeP (m : Bool) (n d : Nat) : FracT × Bool := if n ≤ 4611686018427387904 ∧ d ≤ 1000000000000000 then (⟨if m = true then -(n : Int) else (n : Int), (d : Int)⟩, true) else failF
theorem normS_made (m : Bool) (M d : Nat) : normS m M d = madeP m (M / Nat.gcd M d) (d / Nat.gcd M d) := rfl
theorem madeP_sign {m m' : Bool} {n d : Nat} (h : n ≠ 0 → m = m') : madeP m n d = madeP m' n d := by
  unfold madeP
  by_cases hn : n = 0
  · subst hn
    simp
  · rw [h hn]
theorem sumG_le' (m n : Bool) (x y : Nat) : (sumG (m, x) (n, y)).2 = x + y ∨ (sumG (m, x) (n, y)).2 = x - y + (y - x) := by
  unfold sumG
  simp only
  split
  · exact .inl rfl
  · split <;> (simp only; omega)
theorem cop_sum {m n : Bool} {x y k : Nat} (h : Nat.Coprime x k) (hy : k ∣ y) : Nat.Coprime (sumG (m, x) (n, y)).2 k := by
  obtain ⟨c, rfl⟩ := hy
  rcases sumG_le' m n x (k * c) with e | e
  · rw [e]
    unfold Nat.Coprime
    rw [Nat.gcd_comm, Nat.gcd_add_mul_left_right, Nat.gcd_comm]; exact h
  · rw [e]
    rcases Nat.le_total x (k * c) with hle | hle
    · rw [Nat.sub_eq_zero_of_le hle, Nat.zero_add]
      have h1 : Nat.gcd (k * c - x) k ∣ x := by
        have a1 : Nat.gcd (k * c - x) k ∣ k * c := Nat.dvd_trans (Nat.gcd_dvd_right _ _) (Nat.dvd_mul_right _ _)
        have a2 := Nat.dvd_sub a1 (Nat.gcd_dvd_left (k * c - x) k)
        rwa [show k * c - (k * c - x) = x by omega] at a2
      have h2 := Nat.dvd_gcd h1 (Nat.gcd_dvd_right (k * c - x) k)
      rw [h] at h2
      exact Nat.dvd_one.1 h2
    · rw [Nat.sub_eq_zero_of_le hle, Nat.add_zero]
      have h1 : Nat.gcd (x - k * c) k ∣ x := by
        have a1 : Nat.gcd (x - k * c) k ∣ k * c := Nat.dvd_trans (Nat.gcd_dvd_right _ _) (Nat.dvd_mul_right _ _)
        have a2 := Nat.dvd_add (Nat.gcd_dvd_left (x - k * c) k) a1
        rwa [show x - k * c + k * c = x by omega] at a2
      have h2 := Nat.dvd_gcd h1 (Nat.gcd_dvd_right (x - k * c) k)
      rw [h] at h2
      exact Nat.dvd_one.1 h2
theorem sumG_comm2 (m n : Bool) (x y : Nat) : (sumG (m, x) (n, y)).2 = (sumG (n, y) (m, x)).2 := by
  unfold sumG
  simp only
  by_cases h : m = n
  · rw [if_pos h, if_pos h.symm]; simp only; omega
  · rw [if_neg h, if_neg (Ne.symm h)]
    by_cases h1 : x < y
    · rw [if_pos h1, if_neg (by omega)]
    · rw [if_neg h1]
      by_cases h2 : y < x
      · rw [if_pos h2]
      · rw [if_neg h2]; simp only; omega
theorem short_cop {m n : Bool} {p q r s : Nat} (hp : Nat.Coprime p q) (hr : Nat.Coprime r s) (hq : 0 < q) (hs : 0 < s) {g w : Nat} (hg : g = Nat.gcd q s) (hw : w = (sumG (m, p * (s / g)) (n, r * (q / g))).2) : Nat.Coprime w (q / g) ∧ Nat.Coprime w (s / g) := by
  have g0 : 0 < g := by rw [hg]; exact Nat.gcd_pos_of_pos_left _ hq
  obtain ⟨q', eq⟩ : g ∣ q := by rw [hg]; exact Nat.gcd_dvd_left _ _
  obtain ⟨s', es⟩ : g ∣ s := by rw [hg]; exact Nat.gcd_dvd_right _ _
  have e1 : q / g = q' := by rw [eq]; exact Nat.mul_div_cancel_left _ g0
  have e2 : s / g = s' := by rw [es]; exact Nat.mul_div_cancel_left _ g0
  have cop : Nat.Coprime q' s' := by
    have := Nat.coprime_div_gcd_div_gcd (m := q) (n := s) (by rw [← hg]; exact g0)
    rwa [← hg, e1, e2] at this
  rw [e1, e2] at hw
  rw [e1, e2]
  have c1 : Nat.Coprime w q' := by
    rw [hw]
    refine cop_sum ?_ (Nat.dvd_mul_left _ _)
    refine Nat.Coprime.mul_left ?_ cop.symm
    exact Nat.Coprime.coprime_dvd_right (by rw [eq]; exact Nat.dvd_mul_left _ _) hp
  have c2 : Nat.Coprime w s' := by
    rw [hw, sumG_comm2]
    refine cop_sum ?_ (Nat.dvd_mul_left _ _)
    refine Nat.Coprime.mul_left ?_ cop
    exact Nat.Coprime.coprime_dvd_right (by rw [es]; exact Nat.dvd_mul_left _ _) hr
  exact ⟨c1, c2⟩
/-- the sum of two fractions in lowest terms, by the common divisor of their denominators -/
theorem short_sum {m n : Bool} {p q r s : Nat} (hp : Nat.Coprime p q) (hr : Nat.Coprime r s) (hq : 0 < q) (hs : 0 < s) {g w t : Nat} (hg : g = Nat.gcd q s) (hw : w = (sumG (m, p * (s / g)) (n, r * (q / g))).2) (ht : t = Nat.gcd w g) :
    normS (sumG (m, p * s) (n, r * q)).1 (sumG (m, p * s) (n, r * q)).2 (q * s) = madeP (sumG (m, p * (s / g)) (n, r * (q / g))).1 (w / t) (q / g * (s / t)) := by
  have g0 : 0 < g := by rw [hg]; exact Nat.gcd_pos_of_pos_left _ hq
  obtain ⟨q', eq⟩ : g ∣ q := by rw [hg]; exact Nat.gcd_dvd_left _ _
  obtain ⟨s', es⟩ : g ∣ s := by rw [hg]; exact Nat.gcd_dvd_right _ _
  have e1 : q / g = q' := by rw [eq]; exact Nat.mul_div_cancel_left _ g0
  have e2 : s / g = s' := by rw [es]; exact Nat.mul_div_cancel_left _ g0
  have cop : Nat.Coprime q' s' := by
    have := Nat.coprime_div_gcd_div_gcd (m := q) (n := s) (by rw [← hg]; exact g0)
    rwa [← hg, e1, e2] at this
  obtain ⟨c1, c2⟩ := short_cop hp hr hq hs hg hw
  rw [e1] at c1
  rw [e2] at c2
  rw [e1, e2] at hw
  rw [e1, e2]
  have ex : sumG (m, p * s) (n, r * q) = ((sumG (m, p * s') (n, r * q')).1, g * w) := by
    have h1 : p * s = g * (p * s') := by rw [es, Nat.mul_left_comm]
    have h2 : r * q = g * (r * q') := by rw [eq, Nat.mul_left_comm]
    rw [h1, h2, sumG_scale g g0, ← hw]
  have t0 : 0 < t := by rw [ht]; exact Nat.gcd_pos_of_pos_right _ g0
  have ed : q * s = g * (q' * s' * g) := by rw [eq, es]; simp only [Nat.mul_comm, Nat.mul_left_comm, Nat.mul_assoc]
  have eG : Nat.gcd (g * w) (q * s) = g * t := by
    rw [ed, Nat.gcd_mul_left, ht]
    congr 1
    exact Nat.Coprime.gcd_mul_left_cancel_right g (c1.mul_right c2).symm
  rw [ex, normS_made]
  simp only
  rw [eG, Nat.mul_div_mul_left _ _ g0]
  congr 1
  obtain ⟨g', eg⟩ : t ∣ g := by rw [ht]; exact Nat.gcd_dvd_right _ _
  rw [ed, Nat.mul_div_mul_left _ _ g0, es, eg]
  rw [show q' * s' * (t * g') = t * (q' * s' * g') by simp only [Nat.mul_comm, Nat.mul_left_comm, Nat.mul_assoc], Nat.mul_div_cancel_left _ t0]
  rw [show t * g' * s' = t * (g' * s') by rw [Nat.mul_assoc], Nat.mul_div_cancel_left _ t0]
  simp only [Nat.mul_comm, Nat.mul_left_comm, Nat.mul_assoc]
end YtkoebmjenkajdaaDoor
end Go.Proofs
