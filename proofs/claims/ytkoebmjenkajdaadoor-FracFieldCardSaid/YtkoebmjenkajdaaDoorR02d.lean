/- A part of the proof: contracts of functions of this seat, and lemmas. No condition beyond those stated. -/
import Derived.Test.YtkoebmjenkajdaaDoorR02c
set_option linter.unusedVariables false
set_option linter.unusedSimpArgs false
set_option linter.unusedSectionVars false
set_option linter.unnecessarySimpa false
set_option linter.unusedSimpArgs false
set_option linter.unusedVariables false
set_option maxRecDepth 100000
namespace Go.Proofs
open Go.AM
namespace YtkoebmjenkajdaaDoor
variable {Gl : Globs}

structure DivF (hi lo y s P Y u v w Q1 u2 Q0 : Nat) : Prop where
  s64 : s ≤ 64
  sp : P = 2 ^ s
  Yw : y * 2 ^ s % 18446744073709551616 = Y
  Yd : y * P = Y
  Y1 : 9223372036854775808 ≤ Y
  Y2 : Y < 18446744073709551616
  uor : intBin .or .u64 ((hi * 2 ^ s % 18446744073709551616 : Nat) : Int) ((lo / 2 ^ (64 - s) : Nat) : Int) = .int .u64 (u : Int)
  u10 : lo * 2 ^ s % 18446744073709551616 = v * 4294967296 + w
  uY : u < Y
  v2 : v < 4294967296
  w2 : w < 4294967296
  q1 : Q1 = (u * 4294967296 + v) / Y
  u2e : u2 = (u * 4294967296 + v) % Y
  q0 : Q0 = (u2 * 4294967296 + w) / Y
  resq : Q1 * 4294967296 + Q0 = (hi * 18446744073709551616 + lo) / y
  resr : (u2 * 4294967296 + w) % Y / 2 ^ s = (hi * 18446744073709551616 + lo) % y
theorem mix (a M b P : Nat) : (a * M + b) * P = a * P * M + b * P := by rw [Nat.add_mul, Nat.mul_right_comm]
theorem mix2 (a b M Y c : Nat) {x : Nat} (h : a * Y + c = x) : (a * M + b) * Y = (x - c) * M + b * Y := by subst h; rw [Nat.add_mul, Nat.mul_right_comm, Nat.add_sub_cancel]
theorem mix3 {hi M lo P q w : Nat} (h : q * M + w = lo * P) : (hi * M + lo) * P = (hi * P + q) * M + w := by rw [mix, Nat.add_mul, ← h, Nat.add_assoc]
theorem divF {hi lo y : Nat} (h0 : hi < y) (hy : y < 18446744073709551616) (hl : lo < 18446744073709551616) : ∃ P Y u v w Q1 u2 Q0, DivF hi lo y (64 - Lib.bitLen y) P Y u v w Q1 u2 Q0 := by
  obtain ⟨b1, b2, b3⟩ := Lib.bitLenAux_bounds 64 y hy (by omega)
  have bl : Lib.bitLen y ≤ 64 := bl_le hy
  have eb : Lib.bitLen y = Lib.bitLenAux 64 y := rfl
  rw [← eb] at b1 b2 b3
  obtain ⟨s, hs⟩ : ∃ s, s = 64 - Lib.bitLen y := ⟨_, rfl⟩
  obtain ⟨R, hR⟩ : ∃ R, R = 2 ^ (64 - s) := ⟨_, rfl⟩
  obtain ⟨P, hP⟩ : ∃ P, P = 2 ^ s := ⟨_, rfl⟩
  have hRP : R * P = 18446744073709551616 := by
    rw [hR, hP, ← Nat.pow_add, show 64 - s + s = 64 by omega]
  have hP0 : 0 < P := by rw [hP]; exact Nat.two_pow_pos _
  have hR0 : 0 < R := by rw [hR]; exact Nat.two_pow_pos _
  have hyR : y < R := by rw [hR, show 64 - s = Lib.bitLen y by omega]; exact b3
  have hYu : y * P < 18446744073709551616 := by rw [← hRP]; exact (Nat.mul_lt_mul_right hP0).2 hyR
  have hYl : 9223372036854775808 ≤ y * P := by
    have : 2 ^ (Lib.bitLen y - 1) * P ≤ y * P := Nat.mul_le_mul_right P b2
    rw [hP, ← Nat.pow_add, show Lib.bitLen y - 1 + s = 63 by omega] at this
    exact (show (9223372036854775808 : Nat) = 2 ^ 63 from rfl) ▸ (hP ▸ this)
  have hh : hi * P + P ≤ y * P := by
    have : (hi + 1) * P ≤ y * P := Nat.mul_le_mul_right P (by omega)
    rwa [Nat.add_mul, Nat.one_mul] at this
  have hlo : lo / R < P := by
    rw [Nat.div_lt_iff_lt_mul hR0, Nat.mul_comm]; rw [hRP]; exact hl
  have hlP : lo * P / 18446744073709551616 = lo / R := by
    rw [← hRP]; exact Nat.mul_div_mul_right _ _ hP0
  obtain ⟨Y, hY⟩ : ∃ Y, Y = y * P := ⟨_, rfl⟩
  obtain ⟨u, hu⟩ : ∃ u, u = hi * P + lo / R := ⟨_, rfl⟩
  obtain ⟨w10, hw⟩ : ∃ w10, w10 = lo * P % 18446744073709551616 := ⟨_, rfl⟩
  have hwlt : w10 < 18446744073709551616 := by rw [hw]; exact Nat.mod_lt _ (by decide)
  have huY : u < Y := by omega
  obtain ⟨u2, hu2⟩ : ∃ u2, u2 = (u * 4294967296 + w10 / 4294967296) % Y := ⟨_, rfl⟩
  have hY0 : 0 < Y := by omega
  have key : (hi * 18446744073709551616 + lo) * P = u * 18446744073709551616 + w10 := by
    have := Nat.div_add_mod' (lo * P) 18446744073709551616
    rw [hlP] at this
    rw [← hw] at this
    have e := mix3 (hi := hi) this
    rw [hu]; exact e
  have key2 : (hi * 18446744073709551616 + lo) * P = ((u * 4294967296 + w10 / 4294967296) / Y * 4294967296 + (u2 * 4294967296 + w10 % 4294967296) / Y) * Y + (u2 * 4294967296 + w10 % 4294967296) % Y := by
    have e1 := Nat.div_add_mod' (u * 4294967296 + w10 / 4294967296) Y
    have e2 := Nat.div_add_mod' (u2 * 4294967296 + w10 % 4294967296) Y
    rw [← hu2] at e1
    have e3 := mix2 ((u * 4294967296 + w10 / 4294967296) / Y) ((u2 * 4294967296 + w10 % 4294967296) / Y) 4294967296 Y u2 e1
    rw [e3, key]
    have : u2 ≤ u * 4294967296 + w10 / 4294967296 := by rw [hu2]; exact Nat.mod_le _ _
    omega
  have hrlt : (u2 * 4294967296 + w10 % 4294967296) % Y < Y := Nat.mod_lt _ hY0
  have hq : (u * 4294967296 + w10 / 4294967296) / Y * 4294967296 + (u2 * 4294967296 + w10 % 4294967296) / Y = (hi * 18446744073709551616 + lo) / y := by
    have e := Nat.mul_div_mul_right (hi * 18446744073709551616 + lo) y hP0
    rw [key2, ← hY, Nat.add_comm, Nat.add_mul_div_right _ _ hY0, Nat.div_eq_of_lt hrlt, Nat.zero_add] at e
    exact e
  have hr : (u2 * 4294967296 + w10 % 4294967296) % Y / P = (hi * 18446744073709551616 + lo) % y := by
    have e := Nat.mul_mod_mul_right P (hi * 18446744073709551616 + lo) y
    rw [key2, ← hY, Nat.add_comm, Nat.add_mul_mod_self_right, Nat.mod_eq_of_lt hrlt] at e
    rw [e, Nat.mul_div_cancel _ hP0]
  refine ⟨P, Y, u, w10 / 4294967296, w10 % 4294967296, _, u2, _, ⟨by omega, by rw [← hs]; exact hP, ?_, hY.symm, by omega, by omega, ?_, ?_, huY, by omega, by omega, rfl, hu2, rfl, hq, ?_⟩⟩
  · rw [← hs, ← hP, ← hY]; exact Nat.mod_eq_of_lt (by omega)
  · rw [← hs, ← hP, ← hR]
    have e : hi * P % 18446744073709551616 = hi * P := Nat.mod_eq_of_lt (by omega)
    rw [e, hu]
    have := eOr hi (lo / R) s (by rw [← hP]; exact hlo) (by rw [← hP]; omega)
    rw [← hP] at this
    exact this
  · rw [← hs, ← hP, ← hw]; omega
  · rw [← hs, ← hP]; exact hr
end YtkoebmjenkajdaaDoor
end Go.Proofs
