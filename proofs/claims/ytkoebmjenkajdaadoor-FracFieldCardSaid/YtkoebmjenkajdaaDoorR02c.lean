/- A part of the proof: contracts of functions of this seat, and lemmas. No condition beyond those stated. -/
import Derived.Test.YtkoebmjenkajdaaDoorR02b
import Derived.Lib.ItoaNum
set_option linter.unusedVariables false
set_option linter.unusedSimpArgs false
set_option linter.unusedSectionVars false
set_option linter.unnecessarySimpa false
set_option linter.unusedSimpArgs false
set_option linter.unusedVariables false
set_option maxRecDepth 100000
namespace Go.Proofs
open Go.AM
namespace YtkoebmjenkajdaaDoor
variable {Gl : Globs}

/-! ### one digit of a long division -/
structure KD (h l u v Q q r : Nat) : Prop where
  e : q * h + r = u
  le : Q ≤ q
theorem kd_first {h l u v Q : Nat} (h1 : 2147483648 ≤ h) (hl : l < 4294967296) (hu : u < h * 4294967296 + l) (hv : v < 4294967296) (hQ : Q = (u * 4294967296 + v) / (h * 4294967296 + l)) : KD h l u v Q (u / h) (u % h) ∧ u / h ≤ 4294967297 := by
  have e := Nat.div_add_mod' u h
  have em : u % h < h := Nat.mod_lt u (Nat.lt_of_lt_of_le (by decide) h1)
  refine ⟨⟨e, ?_⟩, ?_⟩
  · have h2 : Q * (h * 4294967296 + l) ≤ u * 4294967296 + v := by rw [hQ]; exact Nat.div_mul_le_self _ _
    rw [Nat.le_div_iff_mul_le (by omega)]
    rw [Nat.mul_add, ← Nat.mul_assoc] at h2
    omega
  · have : u < 4294967298 * h := by omega
    have h0 : 0 < h := Nat.lt_of_lt_of_le (by decide) h1
    obtain ⟨c, hc⟩ : ∃ c, c = 4294967298 := ⟨_, rfl⟩
    have e2 : u / h < c := (Nat.div_lt_iff_lt_mul h0).2 (by rw [hc]; exact this)
    omega
theorem kd_lt {h l u v Q : Nat} (h1 : 2147483648 ≤ h) (hu : u < h * 4294967296 + l) (hv : v < 4294967296) (hQ : Q = (u * 4294967296 + v) / (h * 4294967296 + l)) : Q < 4294967296 := by
  rw [hQ]
  obtain ⟨c, hc⟩ : ∃ c, c = 4294967296 := ⟨_, rfl⟩
  have : (u * 4294967296 + v) / (h * 4294967296 + l) < c := (Nat.div_lt_iff_lt_mul (by omega)).2 (by rw [hc]; omega)
  rwa [hc] at this
theorem kd_more {h l u v Q q r : Nat} (h1 : 2147483648 ≤ h) (hu : u < h * 4294967296 + l) (hv : v < 4294967296) (hQ : Q = (u * 4294967296 + v) / (h * 4294967296 + l)) (k : KD h l u v Q q r)
    (hc : 4294967296 ≤ q ∨ 4294967296 * r + v < q * l) : 1 ≤ q ∧ KD h l u v Q (q - 1) (r + h) := by
  have hlt := kd_lt h1 hu hv hQ
  have h2 : Q * (h * 4294967296 + l) ≤ u * 4294967296 + v := by rw [hQ]; exact Nat.div_mul_le_self _ _
  rw [Nat.mul_add, ← Nat.mul_assoc] at h2
  have e := k.e
  have le := k.le
  have hne : Q ≠ q := by
    intro he
    subst he
    omega
  have hq : 1 ≤ q := by omega
  refine ⟨hq, ?_, by omega⟩
  rw [Nat.sub_mul, Nat.one_mul]
  have : h ≤ q * h := Nat.le_mul_of_pos_left h hq
  omega
theorem kd_done {h l u v Q q r : Nat} (h1 : 2147483648 ≤ h) (hQ : Q = (u * 4294967296 + v) / (h * 4294967296 + l)) (k : KD h l u v Q q r) (hc : q * l ≤ 4294967296 * r + v) : q = Q := by
  have e := k.e
  have le := k.le
  have : q ≤ Q := by
    rw [hQ, Nat.le_div_iff_mul_le (by omega), Nat.mul_add, ← Nat.mul_assoc]
    omega
  omega
theorem kd_big {h l u v Q q r : Nat} (h1 : 2147483648 ≤ h) (hl : l < 4294967296) (hQ : Q = (u * 4294967296 + v) / (h * 4294967296 + l)) (k : KD h l u v Q q r) (hq : q ≤ 4294967296) (hr : 4294967296 ≤ r) : q = Q := by
  refine kd_done h1 hQ k ?_
  have : q * l ≤ 4294967296 * l := Nat.mul_le_mul_right l hq
  omega

/-! ### the operations on words -/
theorem eShl (a s : Nat) (hs : s ≤ 64) : intBin .shl .u64 (a : Int) (s : Int) = .int .u64 ((a * 2 ^ s % 18446744073709551616 : Nat) : Int) := by
  show D.int .u64 (IntKind.u64.wrap ((a : Int) * 2 ^ (min s 64))) = _
  rw [show min s 64 = s by omega, wrapu]
  have : ((2 : Int) ^ s) = ((2 ^ s : Nat) : Int) := by simp
  rw [this, ← Int.natCast_mul]
  rfl
theorem eShr (a s : Nat) (hs : s ≤ 64) : intBin .shr .u64 (a : Int) (s : Int) = .int .u64 ((a / 2 ^ s : Nat) : Int) := by
  show D.int .u64 (Int.fdiv (a : Int) (2 ^ (min s 64))) = _
  rw [show min s 64 = s by omega, Int.fdiv_eq_ediv_of_nonneg _ (by exact Int.le_of_lt (Int.pow_pos (by omega)))]
  have : ((2 : Int) ^ s) = ((2 ^ s : Nat) : Int) := by simp
  rw [this, ← Int.natCast_ediv]
theorem eOr (a b s : Nat) (hb : b < 2 ^ s) (h : a * 2 ^ s + b < 18446744073709551616) : intBin .or .u64 ((a * 2 ^ s : Nat) : Int) (b : Int) = .int .u64 ((a * 2 ^ s + b : Nat) : Int) := by
  have h1 := bits_or_u64_nat (a * 2 ^ s) b (by omega) (by omega)
  have e : a * 2 ^ s ||| b = a * 2 ^ s + b := by
    have := Nat.shiftLeft_add_eq_or_of_lt hb a
    rw [Nat.shiftLeft_eq] at this
    exact this.symm
  rw [e] at h1
  rw [← h1]; rfl
end YtkoebmjenkajdaaDoor
end Go.Proofs
