/- A part of the proof: contracts of functions of this seat, and lemmas. No condition beyond those stated. -/
import Derived.Test.YtkoebmjenkajdaaDoorR02r
set_option linter.unusedVariables false
set_option linter.unusedSimpArgs false
set_option linter.unusedSectionVars false
set_option linter.unnecessarySimpa false
set_option linter.unusedVariables false
set_option linter.unusedSimpArgs false
set_option maxRecDepth 100000
namespace Go.Proofs
open Go.AM
namespace YtkoebmjenkajdaaDoor
/-! ### the order of fractions -/
def sgn (v : Int) : Int := if v = 0 then 0 else if v < 0 then -1 else 1
def keyF (x y : FracT) : Int := x.n * y.q - y.n * x.q
theorem val_cross {x y : FracT} (hx : x.Ok) (hy : y.Ok) : valG (crossG x (negF y)) = keyF x y := by
  obtain ⟨k, e⟩ := hy.neg
  unfold crossG keyF
  rw [valG_sum, mul_sign (by have := k.d1; omega), mul_sign (by have := hx.d1; omega), e, Int.neg_mul]
  show x.n * y.q + _ = _
  omega
theorem sgn_val (p : Bool × Nat) : sgn (valG p) = if p.2 = 0 then 0 else if p.1 = true then -1 else 1 := by
  obtain ⟨m, M⟩ := p
  unfold sgn valG
  simp only
  by_cases h : M = 0
  · subst h
    cases m <;> rfl
  · rw [if_neg h]
    cases m
    · simp only [Bool.false_eq_true, if_false]
      rw [if_neg (by omega), if_neg (by omega)]
    · simp only [if_true]
      rw [if_neg (by omega), if_pos (by omega)]
theorem cmp_sgn (a b : FracT) : cmpS a b = sgn (keyF (usF a) (usF b)) := by
  rw [← val_cross (usF_ok a) (usF_ok b), sgn_val]
  rfl
theorem sgn_le {v : Int} : sgn v ≤ 0 ↔ v ≤ 0 := by
  unfold sgn; split
  · omega
  · split <;> omega
theorem sgn_zero {v : Int} : sgn v = 0 ↔ v = 0 := by
  unfold sgn; split
  · omega
  · split <;> omega
theorem sgn_neg (v : Int) : sgn (-v) = -(sgn v) := by
  unfold sgn
  by_cases h : v = 0
  · subst h; rfl
  · rw [if_neg h, if_neg (by omega)]
    by_cases h2 : v < 0
    · rw [if_pos h2, if_neg (by omega)]; rfl
    · rw [if_neg h2, if_pos (by omega)]
theorem sgn_bd (v : Int) : -1 ≤ sgn v ∧ sgn v ≤ 1 := by
  unfold sgn; split
  · omega
  · split <;> omega
theorem cmp_self (a : FracT) : cmpS a a = 0 := by
  rw [cmp_sgn, sgn_zero]; unfold keyF; omega
theorem cmp_flip (a b : FracT) : cmpS a b = -(cmpS b a) := by
  rw [cmp_sgn, cmp_sgn, ← sgn_neg]
  congr 1
  unfold keyF; omega
theorem cmp_trans {a b c : FracT} (h1 : cmpS a b ≤ 0) (h2 : cmpS b c ≤ 0) : cmpS a c ≤ 0 := by
  rw [cmp_sgn, sgn_le] at *
  have xo := usF_ok a
  have yo := usF_ok b
  have zo := usF_ok c
  generalize usF a = x at *
  generalize usF b = y at *
  generalize usF c = z at *
  unfold keyF at *
  have px := xo.d1
  have py := yo.d1
  have pz := zo.d1
  have e1 : x.n * y.q * z.q ≤ y.n * x.q * z.q := Int.mul_le_mul_of_nonneg_right (by omega) (by omega)
  have e2 : y.n * z.q * x.q ≤ z.n * y.q * x.q := Int.mul_le_mul_of_nonneg_right (by omega) (by omega)
  have e3 : x.n * z.q * y.q ≤ z.n * x.q * y.q := by
    rw [Int.mul_right_comm x.n, Int.mul_right_comm z.n]
    rw [Int.mul_right_comm y.n] at e1
    omega
  have := Int.le_of_mul_le_mul_right e3 (by omega)
  omega
theorem key_zero {x y : FracT} (hx : x.Ok) (hy : y.Ok) : keyF x y = 0 ↔ x = y := by
  constructor
  · intro h
    unfold keyF at h
    have px := hx.d1
    have py := hy.d1
    have e : x.n * y.q = y.n * x.q := by omega
    have en : x.n.natAbs * y.q.natAbs = y.n.natAbs * x.q.natAbs := by rw [← Int.natAbs_mul, ← Int.natAbs_mul, e]
    have d1 : x.q.natAbs ∣ y.q.natAbs := Nat.Coprime.dvd_of_dvd_mul_left (Nat.Coprime.symm hx.g) (by rw [en]; exact Nat.dvd_mul_left _ _)
    have d2 : y.q.natAbs ∣ x.q.natAbs := Nat.Coprime.dvd_of_dvd_mul_left (Nat.Coprime.symm hy.g) (by rw [← en]; exact Nat.dvd_mul_left _ _)
    have eq : x.q.natAbs = y.q.natAbs := Nat.dvd_antisymm d1 d2
    have eq : x.q = y.q := by omega
    rw [eq] at e
    have := Int.eq_of_mul_eq_mul_right (by omega) e
    cases x; cases y
    simp only at eq this
    rw [eq, this]
  · intro h
    subst h
    unfold keyF; omega
theorem us_ok {a : FracT} (h : okF a = true) : usF a = a := by unfold usF; rw [if_pos h]
theorem cmp_eq {a b : FracT} (ha : okF a = true) (hb : okF b = true) : (cmpS a b == 0) = decide (a = b) := by
  rw [Bool.eq_iff_iff]
  simp only [beq_iff_eq, decide_eq_true_eq]
  rw [cmp_sgn, sgn_zero, us_ok ha, us_ok hb, key_zero (okF_iff.1 ha) (okF_iff.1 hb)]
theorem normS_sgn {m : Bool} {M d : Nat} (hd : 0 < d) (h : (normS m M d).2 = true) : sgn (normS m M d).1.n = sgn (valG (m, M)) := by
  unfold normS at h ⊢
  split at h
  · rename_i h1
    rw [if_pos h1]
    simp only
    have g0 : 0 < Nat.gcd M d := Nat.gcd_pos_of_pos_right _ hd
    have hz : M / Nat.gcd M d = 0 ↔ M = 0 := by
      constructor
      · intro k
        rcases Nat.eq_zero_or_pos M with h | h
        · exact h
        · have := Nat.div_pos (Nat.gcd_le_left d h) g0
          omega
      · intro k; rw [k]; exact Nat.zero_div _
    generalize M / Nat.gcd M d = A at hz ⊢
    have := sgn_val (m, A)
    have h2 := sgn_val (m, M)
    unfold valG at this h2 ⊢
    simp only at this h2 ⊢
    rw [this, h2]
    by_cases hA : A = 0
    · rw [if_pos hA, if_pos (hz.1 hA)]
    · rw [if_neg hA, if_neg (fun k => hA (hz.2 k))]
  · cases h
theorem sub_sgn {a b : FracT} (h : (subS a b).2 = true) : cmpS a b = sgn (subS a b).1.n := by
  unfold subS at h ⊢
  split at h
  · rename_i hb
    rw [if_pos hb]
    unfold addS at h ⊢
    split at h
    · rename_i hab
      rw [if_pos hab]
      have oa := okF_iff.1 hab.1
      have ob := okF_iff.1 hb
      rw [normS_sgn (Nat.mul_pos oa.q0 ob.neg.1.q0) h, cmp_sgn, us_ok hab.1, us_ok hb, ← val_cross oa ob]
    · cases h
  · cases h
theorem subS_in (a b : FracT) : (subS a b).1.In := by
  unfold subS addS
  split
  · split
    · exact normS_in _ _ _
    · exact ⟨by decide, by decide, by decide, by decide⟩
  · exact ⟨by decide, by decide, by decide, by decide⟩
end YtkoebmjenkajdaaDoor
end Go.Proofs
