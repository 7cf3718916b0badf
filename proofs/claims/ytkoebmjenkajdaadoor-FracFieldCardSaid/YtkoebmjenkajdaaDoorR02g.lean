/- A part of the proof: contracts of functions of this seat, and lemmas. No condition beyond those stated. -/
import Derived.Test.YtkoebmjenkajdaaDoorR02f
set_option linter.unusedVariables false
set_option linter.unusedSimpArgs false
set_option linter.unusedSectionVars false
set_option linter.unnecessarySimpa false
set_option linter.unusedSimpArgs false
set_option linter.unusedVariables false
set_option maxRecDepth 100000
namespace Go.Proofs
open Go.AM
namespace YtkoebmjenkajdaaDoor
variable {Gl : Globs}

/-! ### fractions -/
structure FracT where
  n : Int
  q : Int
deriving DecidableEq, Inhabited
def FracT.toD (a : FracT) : D := .agg [.int .i64 a.n, .int .i64 a.q]
theorem f_isAgg (a : FracT) : a.toD.isAgg = true := rfl
theorem f_cells (a : FracT) : a.toD.cells = [.int .i64 a.n, .int .i64 a.q] := rfl
theorem f_build (n d : Int) : D.agg [.int .i64 n, .int .i64 d] = FracT.toD ⟨n, d⟩ := rfl
structure FracT.In (a : FracT) : Prop where
  n1 : -9223372036854775808 ≤ a.n
  n2 : a.n ≤ 9223372036854775807
  d1 : -9223372036854775808 ≤ a.q
  d2 : a.q ≤ 9223372036854775807
structure FracT.Ok (a : FracT) : Prop where
  d1 : 1 ≤ a.q
  d2 : a.q ≤ 1000000000000000
  n1 : -4611686018427387904 ≤ a.n
  n2 : a.n ≤ 4611686018427387904
  g : Nat.gcd a.n.natAbs a.q.natAbs = 1
def okF (a : FracT) : Bool := decide (1 ≤ a.q) && decide (a.q ≤ 1000000000000000) && (decide (-4611686018427387904 ≤ a.n) && decide (a.n ≤ 4611686018427387904)) && (Nat.gcd a.n.natAbs a.q.natAbs == 1)
theorem okF_iff {a : FracT} : okF a = true ↔ a.Ok := by
  simp only [okF, Bool.and_eq_true, decide_eq_true_eq, beq_iff_eq]
  constructor
  · rintro ⟨⟨⟨h1, h2⟩, h3, h4⟩, h5⟩; exact ⟨h1, h2, h3, h4, h5⟩
  · rintro ⟨h1, h2, h3, h4, h5⟩; exact ⟨⟨⟨h1, h2⟩, h3, h4⟩, h5⟩
theorem FracT.Ok.in_ {a : FracT} (h : a.Ok) : a.In := ⟨by have := h.n1; omega, by have := h.n2; omega, by have := h.d1; omega, by have := h.d2; omega⟩
/-- a value in lowest terms, where it is within the limits -/
def normS (m : Bool) (M d : Nat) : FracT × Bool :=
  if M / Nat.gcd M d ≤ 4611686018427387904 ∧ d / Nat.gcd M d ≤ 1000000000000000 then (⟨if m = true then -((M / Nat.gcd M d : Nat) : Int) else ((M / Nat.gcd M d : Nat) : Int), ((d / Nat.gcd M d : Nat) : Int)⟩, true) else (⟨0, 0⟩, false)
def resD (r : FracT × Bool) : AV := .tup [.d r.1.toD, .d (.bool r.2)]

theorem beqN (M N : Nat) : beqL [.int .u64 ((M / 18446744073709551616 : Nat) : Int), .int .u64 ((M % 18446744073709551616 : Nat) : Int)] [.int .u64 ((N / 18446744073709551616 : Nat) : Int), .int .u64 ((N % 18446744073709551616 : Nat) : Int)] = decide (M = N) := by
  rw [Bool.eq_iff_iff]
  simp only [beqL, D.beq1, Bool.and_eq_true, beq_iff_eq, decide_eq_true_eq, Bool.and_true]
  omega
theorem vNe (M N : Nat) : binV .neq (.d (wN M)) (.d (wN N)) = .d (.bool (!(decide (M = N)))) := by
  rw [← beqN]; rfl
theorem vEq (M N : Nat) : binV .eql (.d (wN M)) (.d (wN N)) = .d (.bool (decide (M = N))) := by
  rw [← beqN]; rfl
theorem okNe47 (M N : Nat) : binOk Tryd.prog 47 .neq (.d (wN M)) (.d (wN N)) = True := eq_true (by
  refine (show True ∧ (match tcmp Tryd.prog 47 with | some l => cmpL l _ _ = true | none => False) from ⟨trivial, ?_⟩)
  rw [ty_c47]; rfl)
theorem okEq47 (M N : Nat) : binOk Tryd.prog 47 .eql (.d (wN M)) (.d (wN N)) = True := eq_true (by
  refine (show True ∧ (match tcmp Tryd.prog 47 with | some l => cmpL l _ _ = true | none => False) from ⟨trivial, ?_⟩)
  rw [ty_c47]; rfl)
theorem okEq54 (M N : Nat) : binOk Tryd.prog 54 .eql (.d (wN M)) (.d (wN N)) = True := eq_true (by
  refine (show True ∧ (match tcmp Tryd.prog 54 with | some l => cmpL l _ _ = true | none => False) from ⟨trivial, ?_⟩)
  rw [ty_c54]; rfl)
theorem beqF (a b : FracT) : beqL [.int .i64 a.n, .int .i64 a.q] [.int .i64 b.n, .int .i64 b.q] = decide (a = b) := by
  rw [Bool.eq_iff_iff]
  simp only [beqL, D.beq1, Bool.and_eq_true, beq_iff_eq, decide_eq_true_eq, Bool.and_true]
  cases a; cases b; simp
theorem vEqF (a b : FracT) : binV .eql (.d a.toD) (.d b.toD) = .d (.bool (decide (a = b))) := by
  rw [← beqF]; rfl
theorem vNeF (a b : FracT) : binV .neq (.d a.toD) (.d b.toD) = .d (.bool (!(decide (a = b)))) := by
  rw [← beqF]; rfl
theorem okEqF (a b : FracT) : binOk Tryd.prog 23 .eql (.d a.toD) (.d b.toD) = True := eq_true (by
  refine (show True ∧ (match tcmp Tryd.prog 23 with | some l => cmpL l _ _ = true | none => False) from ⟨trivial, ?_⟩)
  rw [ty_c23]; rfl)
theorem okNeF (a b : FracT) : binOk Tryd.prog 23 .neq (.d a.toD) (.d b.toD) = True := eq_true (by
  refine (show True ∧ (match tcmp Tryd.prog 23 with | some l => cmpL l _ _ = true | none => False) from ⟨trivial, ?_⟩)
  rw [ty_c23]; rfl)
theorem cRules : type_of% (And.intro @vNe (And.intro @vEq (And.intro @okNe47 (And.intro @okEq47 (And.intro @okEq54 (And.intro @vEqF (And.intro @vNeF (And.intro @okEqF @okNeF)))))))) := And.intro @vNe (And.intro @vEq (And.intro @okNe47 (And.intro @okEq47 (And.intro @okEq54 (And.intro @vEqF (And.intro @vNeF (And.intro @okEqF @okNeF)))))))

end YtkoebmjenkajdaaDoor
end Go.Proofs
