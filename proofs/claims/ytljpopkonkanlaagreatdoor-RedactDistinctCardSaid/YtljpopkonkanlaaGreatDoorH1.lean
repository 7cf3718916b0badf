/- A part of the proof: contracts of functions of this seat, and lemmas. No condition beyond those stated. -/
import Derived.Test.YtljpopkonkanlaaGreatDoorG3
import Derived.Test.YtljpopkonkanlaaGreatDoorProg
import Derived.Test.YtljpopkonkanlaaGreatDoorG4
set_option linter.unusedVariables false
set_option linter.unusedSimpArgs false
set_option linter.unusedSectionVars false
set_option linter.unnecessarySimpa false

namespace Go.Proofs
open Go.AM
namespace YtljpopkonkanlaaGreatDoor
theorem Qo2 : qyw Tryz.prog 57 = some [0, 0, 0, 2, 0, 0, 0, 1] := by kernel_rfl
theorem Qsg : qbg Tryz.prog 3 = some false ∧ tsz Tryz.prog 3 = some 1 ∧ qbh Tryz.prog 3 = some 8 ∧ qt8 Tryz.prog 3 = some .i64 ∧ (Tryz.prog.underlying 3).isSome = true ∧ qbm Tryz.prog 3 = some (Value.int .i64 0) ∧ (Value.int .i64 0).cells.size = 1 ∧ qb7 Tryz.prog 3 = .d (D.int .i64 0) ∧ qas Tryz.prog 3 = some (D.int .i64 0) := by and_intros <;> kernel_rfl
theorem Qsf : qbg Tryz.prog 4 = some false ∧ tsz Tryz.prog 4 = some 1 ∧ qbh Tryz.prog 4 = some 1 ∧ (Tryz.prog.underlying 4).isSome = true ∧ Tryz.prog.underlying 4 = some .bool ∧ qbm Tryz.prog 4 = some (Value.bool false) ∧ (Value.bool false).cells.size = 1 ∧ qb7 Tryz.prog 4 = .d (D.bool false) ∧ qas Tryz.prog 4 = some (D.bool false) := by and_intros <;> kernel_rfl
theorem Qse : qbg Tryz.prog 5 = some false ∧ tsz Tryz.prog 5 = some 1 ∧ qbh Tryz.prog 5 = some 1 ∧ qt8 Tryz.prog 5 = some .u8 ∧ (Tryz.prog.underlying 5).isSome = true ∧ qbm Tryz.prog 5 = some (Value.int .u8 0) ∧ (Value.int .u8 0).cells.size = 1 ∧ qb7 Tryz.prog 5 = .d (D.int .u8 0) ∧ qas Tryz.prog 5 = some (D.int .u8 0) := by and_intros <;> kernel_rfl
theorem Qsd : qbg Tryz.prog 9 = some false ∧ tsz Tryz.prog 9 = some 1 ∧ qbh Tryz.prog 9 = some 16 ∧ Qcb Tryz.prog 9 = true ∧ (Tryz.prog.underlying 9).isSome = true ∧ qbm Tryz.prog 9 = some (Value.string ⟨#[]⟩) ∧ (Value.string ⟨#[]⟩).cells.size = 1 ∧ qb7 Tryz.prog 9 = .d (D.str []) ∧ qas Tryz.prog 9 = some (D.str []) := by and_intros <;> kernel_rfl
theorem Qpv : qbg Tryz.prog 22 = some false ∧ tsz Tryz.prog 22 = some 1 ∧ qb5 Tryz.prog 22 = some 53 ∧ qo7 Tryz.prog 22 = 3 ∧ qbh Tryz.prog 22 = some 24 ∧ qi4 Tryz.prog 22 = some (none, 3) ∧ (Tryz.prog.underlying 22).isSome = true ∧ qbm Tryz.prog 22 = some (Value.slice none 0 0) ∧ (Value.slice none 0 0).cells.size = 1 ∧ qb7 Tryz.prog 22 = .nils ∧ qas Tryz.prog 22 = some (D.sl []) := by and_intros <;> kernel_rfl
theorem Qpu : qbg Tryz.prog 24 = some false ∧ tsz Tryz.prog 24 = some 1 ∧ qbh Tryz.prog 24 = some 8 ∧ qt8 Tryz.prog 24 = some .i64 ∧ (Tryz.prog.underlying 24).isSome = true ∧ qbm Tryz.prog 24 = some (Value.int .i64 0) ∧ (Value.int .i64 0).cells.size = 1 ∧ qb7 Tryz.prog 24 = .d (D.int .i64 0) ∧ qas Tryz.prog 24 = some (D.int .i64 0) := by and_intros <;> kernel_rfl
theorem Qpt : qbg Tryz.prog 28 = some false ∧ tsz Tryz.prog 28 = some 1 ∧ qb5 Tryz.prog 28 = some 9 ∧ qo7 Tryz.prog 28 = 1 ∧ qbh Tryz.prog 28 = some 24 ∧ qi4 Tryz.prog 28 = some (none, 1) ∧ (Tryz.prog.underlying 28).isSome = true ∧ qbm Tryz.prog 28 = some (Value.slice none 0 0) ∧ (Value.slice none 0 0).cells.size = 1 ∧ qb7 Tryz.prog 28 = .nils ∧ qas Tryz.prog 28 = some (D.sl []) := by and_intros <;> kernel_rfl
theorem Qps : qbg Tryz.prog 33 = some false ∧ tsz Tryz.prog 33 = some 1 ∧ qbh Tryz.prog 33 = some 8 ∧ (Tryz.prog.underlying 33).isSome = true ∧ qbm Tryz.prog 33 = some (Value.nilFunc) ∧ (Value.nilFunc).cells.size = 1 ∧ qb7 Tryz.prog 33 = .d (D.raw .nilFunc) ∧ qas Tryz.prog 33 = some (D.raw .nilFunc) := by and_intros <;> kernel_rfl
theorem Qpr : qbg Tryz.prog 35 = some true ∧ tsz Tryz.prog 35 = some 2 ∧ qbh Tryz.prog 35 = some 16 ∧ (Tryz.prog.underlying 35).isSome = true ∧ qyw Tryz.prog 35 = some [0, 0] ∧ qdn Tryz.prog 35 0 = some (0, 1, false) ∧ qdn Tryz.prog 35 1 = some (1, 1, false) ∧ qc7 Tryz.prog 35 = some [(0, 1), (1, 1)] ∧ qds Tryz.prog 35 = some [.d (D.int .i64 0), .d (D.int .i64 0)] ∧ qbm Tryz.prog 35 = some (Value.agg #[Value.int .i64 0, Value.int .i64 0]) ∧ (Value.agg #[Value.int .i64 0, Value.int .i64 0]).cells.size = 2 ∧ qb7 Tryz.prog 35 = .d (D.agg [D.int .i64 0, D.int .i64 0]) ∧ qas Tryz.prog 35 = some (D.agg [D.int .i64 0, D.int .i64 0]) := by and_intros <;> kernel_rfl
theorem Qpq : qbg Tryz.prog 36 = some false ∧ tsz Tryz.prog 36 = some 1 ∧ qb5 Tryz.prog 36 = some 55 ∧ qo7 Tryz.prog 36 = 3 ∧ qbh Tryz.prog 36 = some 24 ∧ qi4 Tryz.prog 36 = some (none, 3) ∧ (Tryz.prog.underlying 36).isSome = true ∧ qbm Tryz.prog 36 = some (Value.slice none 0 0) ∧ (Value.slice none 0 0).cells.size = 1 ∧ qb7 Tryz.prog 36 = .nils ∧ qas Tryz.prog 36 = some (D.sl []) := by and_intros <;> kernel_rfl
theorem Qpp : qbg Tryz.prog 37 = some false ∧ tsz Tryz.prog 37 = some 1 ∧ qb5 Tryz.prog 37 = some 57 ∧ qo7 Tryz.prog 37 = 8 ∧ qbh Tryz.prog 37 = some 24 ∧ qi4 Tryz.prog 37 = some (none, 8) ∧ (Tryz.prog.underlying 37).isSome = true ∧ qbm Tryz.prog 37 = some (Value.slice none 0 0) ∧ (Value.slice none 0 0).cells.size = 1 ∧ qb7 Tryz.prog 37 = .nils ∧ qas Tryz.prog 37 = some (D.sl []) := by and_intros <;> kernel_rfl
theorem Qpo : qbg Tryz.prog 38 = some false ∧ tsz Tryz.prog 38 = some 1 ∧ qb5 Tryz.prog 38 = some 59 ∧ qo7 Tryz.prog 38 = 7 ∧ qbh Tryz.prog 38 = some 24 ∧ qi4 Tryz.prog 38 = some (none, 7) ∧ (Tryz.prog.underlying 38).isSome = true ∧ qbm Tryz.prog 38 = some (Value.slice none 0 0) ∧ (Value.slice none 0 0).cells.size = 1 ∧ qb7 Tryz.prog 38 = .nils ∧ qas Tryz.prog 38 = some (D.sl []) := by and_intros <;> kernel_rfl
theorem Qpn : qbg Tryz.prog 39 = some false ∧ tsz Tryz.prog 39 = some 1 ∧ qb5 Tryz.prog 39 = some 87 ∧ qo7 Tryz.prog 39 = 7 ∧ qbh Tryz.prog 39 = some 24 ∧ qi4 Tryz.prog 39 = some (none, 7) ∧ (Tryz.prog.underlying 39).isSome = true ∧ qbm Tryz.prog 39 = some (Value.slice none 0 0) ∧ (Value.slice none 0 0).cells.size = 1 ∧ qb7 Tryz.prog 39 = .nils ∧ qas Tryz.prog 39 = some (D.sl []) := by and_intros <;> kernel_rfl
theorem Qpm : qbg Tryz.prog 40 = some false ∧ tsz Tryz.prog 40 = some 1 ∧ qb5 Tryz.prog 40 = some 61 ∧ qo7 Tryz.prog 40 = 4 ∧ qbh Tryz.prog 40 = some 24 ∧ qi4 Tryz.prog 40 = some (none, 4) ∧ (Tryz.prog.underlying 40).isSome = true ∧ qbm Tryz.prog 40 = some (Value.slice none 0 0) ∧ (Value.slice none 0 0).cells.size = 1 ∧ qb7 Tryz.prog 40 = .nils ∧ qas Tryz.prog 40 = some (D.sl []) := by and_intros <;> kernel_rfl
theorem Qpl : qbg Tryz.prog 41 = some false ∧ tsz Tryz.prog 41 = some 1 ∧ qb5 Tryz.prog 41 = some 89 ∧ qo7 Tryz.prog 41 = 3 ∧ qbh Tryz.prog 41 = some 24 ∧ qi4 Tryz.prog 41 = some (none, 3) ∧ (Tryz.prog.underlying 41).isSome = true ∧ qbm Tryz.prog 41 = some (Value.slice none 0 0) ∧ (Value.slice none 0 0).cells.size = 1 ∧ qb7 Tryz.prog 41 = .nils ∧ qas Tryz.prog 41 = some (D.sl []) := by and_intros <;> kernel_rfl
theorem Qpk : qbg Tryz.prog 42 = some false ∧ tsz Tryz.prog 42 = some 1 ∧ qb5 Tryz.prog 42 = some 64 ∧ qo7 Tryz.prog 42 = 7 ∧ qbh Tryz.prog 42 = some 24 ∧ qi4 Tryz.prog 42 = some (none, 7) ∧ (Tryz.prog.underlying 42).isSome = true ∧ qbm Tryz.prog 42 = some (Value.slice none 0 0) ∧ (Value.slice none 0 0).cells.size = 1 ∧ qb7 Tryz.prog 42 = .nils ∧ qas Tryz.prog 42 = some (D.sl []) := by and_intros <;> kernel_rfl
theorem Qpj : qbg Tryz.prog 43 = some false ∧ tsz Tryz.prog 43 = some 1 ∧ qb5 Tryz.prog 43 = some 66 ∧ qo7 Tryz.prog 43 = 4 ∧ qbh Tryz.prog 43 = some 24 ∧ qi4 Tryz.prog 43 = some (none, 4) ∧ (Tryz.prog.underlying 43).isSome = true ∧ qbm Tryz.prog 43 = some (Value.slice none 0 0) ∧ (Value.slice none 0 0).cells.size = 1 ∧ qb7 Tryz.prog 43 = .nils ∧ qas Tryz.prog 43 = some (D.sl []) := by and_intros <;> kernel_rfl
theorem Qpi : qbg Tryz.prog 45 = some true ∧ tsz Tryz.prog 45 = some 10 ∧ qbh Tryz.prog 45 = some 208 ∧ (Tryz.prog.underlying 45).isSome = true ∧ qdn Tryz.prog 45 0 = some (0, 2, true) ∧ qdn Tryz.prog 45 1 = some (2, 1, false) ∧ qdn Tryz.prog 45 2 = some (3, 1, false) ∧ qdn Tryz.prog 45 3 = some (4, 1, false) ∧ qdn Tryz.prog 45 4 = some (5, 1, false) ∧ qdn Tryz.prog 45 5 = some (6, 1, false) ∧ qdn Tryz.prog 45 6 = some (7, 1, false) ∧ qdn Tryz.prog 45 7 = some (8, 1, false) ∧ qdn Tryz.prog 45 8 = some (9, 1, false) ∧ qc7 Tryz.prog 45 = some [(0, 2), (2, 1), (3, 1), (4, 1), (5, 1), (6, 1), (7, 1), (8, 1), (9, 1)] ∧ qds Tryz.prog 45 = some [.d (D.int .i64 0), .d (D.int .i64 0), .nils, .nils, .nils, .nils, .nils, .nils, .nils, .nils] ∧ qbm Tryz.prog 45 = some (Value.agg #[Value.int .i64 0, Value.int .i64 0, Value.slice none 0 0, Value.slice none 0 0, Value.slice none 0 0, Value.slice none 0 0, Value.slice none 0 0, Value.slice none 0 0, Value.slice none 0 0, Value.slice none 0 0]) ∧ (Value.agg #[Value.int .i64 0, Value.int .i64 0, Value.slice none 0 0, Value.slice none 0 0, Value.slice none 0 0, Value.slice none 0 0, Value.slice none 0 0, Value.slice none 0 0, Value.slice none 0 0, Value.slice none 0 0]).cells.size = 10 ∧ qb7 Tryz.prog 45 = .agg [.d (D.int .i64 0), .d (D.int .i64 0), .nils, .nils, .nils, .nils, .nils, .nils, .nils, .nils] ∧ qas Tryz.prog 45 = some (D.agg [D.int .i64 0, D.int .i64 0, D.sl [], D.sl [], D.sl [], D.sl [], D.sl [], D.sl [], D.sl [], D.sl []]) := by and_intros <;> kernel_rfl
theorem Qph : qbg Tryz.prog 53 = some true ∧ tsz Tryz.prog 53 = some 3 ∧ qbh Tryz.prog 53 = some 48 ∧ (Tryz.prog.underlying 53).isSome = true ∧ qyw Tryz.prog 53 = some [2, 2, 2] ∧ qdn Tryz.prog 53 0 = some (0, 1, false) ∧ qdn Tryz.prog 53 1 = some (1, 1, false) ∧ qdn Tryz.prog 53 2 = some (2, 1, false) ∧ qc7 Tryz.prog 53 = some [(0, 1), (1, 1), (2, 1)] ∧ qds Tryz.prog 53 = some [.d (D.str []), .d (D.str []), .d (D.str [])] ∧ qbm Tryz.prog 53 = some (Value.agg #[Value.string ⟨#[]⟩, Value.string ⟨#[]⟩, Value.string ⟨#[]⟩]) ∧ (Value.agg #[Value.string ⟨#[]⟩, Value.string ⟨#[]⟩, Value.string ⟨#[]⟩]).cells.size = 3 ∧ qb7 Tryz.prog 53 = .d (D.agg [D.str [], D.str [], D.str []]) ∧ qas Tryz.prog 53 = some (D.agg [D.str [], D.str [], D.str []]) := by and_intros <;> kernel_rfl
theorem Qpg : qbg Tryz.prog 55 = some true ∧ tsz Tryz.prog 55 = some 3 ∧ qbh Tryz.prog 55 = some 32 ∧ (Tryz.prog.underlying 55).isSome = true ∧ qyw Tryz.prog 55 = some [0, 2, 0] ∧ qdn Tryz.prog 55 0 = some (0, 1, false) ∧ qdn Tryz.prog 55 1 = some (1, 1, false) ∧ qdn Tryz.prog 55 2 = some (2, 1, false) ∧ qc7 Tryz.prog 55 = some [(0, 1), (1, 1), (2, 1)] ∧ qds Tryz.prog 55 = some [.d (D.int .i64 0), .d (D.str []), .d (D.int .i64 0)] ∧ qbm Tryz.prog 55 = some (Value.agg #[Value.int .i64 0, Value.string ⟨#[]⟩, Value.int .i64 0]) ∧ (Value.agg #[Value.int .i64 0, Value.string ⟨#[]⟩, Value.int .i64 0]).cells.size = 3 ∧ qb7 Tryz.prog 55 = .d (D.agg [D.int .i64 0, D.str [], D.int .i64 0]) ∧ qas Tryz.prog 55 = some (D.agg [D.int .i64 0, D.str [], D.int .i64 0]) := by and_intros <;> kernel_rfl
theorem Qpf : qbg Tryz.prog 57 = some true ∧ tsz Tryz.prog 57 = some 8 ∧ qbh Tryz.prog 57 = some 72 ∧ (Tryz.prog.underlying 57).isSome = true ∧ qyw Tryz.prog 57 = some [0, 0, 0, 2, 0, 0, 0, 1] ∧ qdn Tryz.prog 57 0 = some (0, 1, false) ∧ qdn Tryz.prog 57 1 = some (1, 1, false) ∧ qdn Tryz.prog 57 2 = some (2, 1, false) ∧ qdn Tryz.prog 57 3 = some (3, 1, false) ∧ qdn Tryz.prog 57 4 = some (4, 2, true) ∧ qdn Tryz.prog 57 5 = some (6, 1, false) ∧ qdn Tryz.prog 57 6 = some (7, 1, false) ∧ qc7 Tryz.prog 57 = some [(0, 1), (1, 1), (2, 1), (3, 1), (4, 2), (6, 1), (7, 1)] ∧ qds Tryz.prog 57 = some [.d (D.int .i64 0), .d (D.int .i64 0), .d (D.int .i64 0), .d (D.str []), .d (D.int .i64 0), .d (D.int .i64 0), .d (D.int .i64 0), .d (D.bool false)] ∧ qbm Tryz.prog 57 = some (Value.agg #[Value.int .i64 0, Value.int .i64 0, Value.int .i64 0, Value.string ⟨#[]⟩, Value.int .i64 0, Value.int .i64 0, Value.int .i64 0, Value.bool false]) ∧ (Value.agg #[Value.int .i64 0, Value.int .i64 0, Value.int .i64 0, Value.string ⟨#[]⟩, Value.int .i64 0, Value.int .i64 0, Value.int .i64 0, Value.bool false]).cells.size = 8 ∧ qb7 Tryz.prog 57 = .d (D.agg [D.int .i64 0, D.int .i64 0, D.int .i64 0, D.str [], D.int .i64 0, D.int .i64 0, D.int .i64 0, D.bool false]) ∧ qas Tryz.prog 57 = some (D.agg [D.int .i64 0, D.int .i64 0, D.int .i64 0, D.str [], D.int .i64 0, D.int .i64 0, D.int .i64 0, D.bool false]) := by and_intros <;> kernel_rfl
theorem Qpe : qbg Tryz.prog 59 = some true ∧ tsz Tryz.prog 59 = some 7 ∧ qbh Tryz.prog 59 = some 56 ∧ (Tryz.prog.underlying 59).isSome = true ∧ qyw Tryz.prog 59 = some [0, 0, 0, 0, 0, 0, 0] ∧ qdn Tryz.prog 59 0 = some (0, 1, false) ∧ qdn Tryz.prog 59 1 = some (1, 1, false) ∧ qdn Tryz.prog 59 2 = some (2, 2, true) ∧ qdn Tryz.prog 59 3 = some (4, 1, false) ∧ qdn Tryz.prog 59 4 = some (5, 1, false) ∧ qdn Tryz.prog 59 5 = some (6, 1, false) ∧ qc7 Tryz.prog 59 = some [(0, 1), (1, 1), (2, 2), (4, 1), (5, 1), (6, 1)] ∧ qds Tryz.prog 59 = some [.d (D.int .i64 0), .d (D.int .i64 0), .d (D.int .i64 0), .d (D.int .i64 0), .d (D.int .i64 0), .d (D.int .i64 0), .d (D.int .i64 0)] ∧ qbm Tryz.prog 59 = some (Value.agg #[Value.int .i64 0, Value.int .i64 0, Value.int .i64 0, Value.int .i64 0, Value.int .i64 0, Value.int .i64 0, Value.int .i64 0]) ∧ (Value.agg #[Value.int .i64 0, Value.int .i64 0, Value.int .i64 0, Value.int .i64 0, Value.int .i64 0, Value.int .i64 0, Value.int .i64 0]).cells.size = 7 ∧ qb7 Tryz.prog 59 = .d (D.agg [D.int .i64 0, D.int .i64 0, D.int .i64 0, D.int .i64 0, D.int .i64 0, D.int .i64 0, D.int .i64 0]) ∧ qas Tryz.prog 59 = some (D.agg [D.int .i64 0, D.int .i64 0, D.int .i64 0, D.int .i64 0, D.int .i64 0, D.int .i64 0, D.int .i64 0]) := by and_intros <;> kernel_rfl
theorem Qpd : qbg Tryz.prog 61 = some true ∧ tsz Tryz.prog 61 = some 4 ∧ qbh Tryz.prog 61 = some 48 ∧ (Tryz.prog.underlying 61).isSome = true ∧ qdn Tryz.prog 61 0 = some (0, 1, false) ∧ qdn Tryz.prog 61 1 = some (1, 1, false) ∧ qdn Tryz.prog 61 2 = some (2, 1, false) ∧ qdn Tryz.prog 61 3 = some (3, 1, false) ∧ qc7 Tryz.prog 61 = some [(0, 1), (1, 1), (2, 1), (3, 1)] ∧ qds Tryz.prog 61 = some [.d (D.int .i64 0), .d (D.int .i64 0), .d (D.int .i64 0), .nils] ∧ qbm Tryz.prog 61 = some (Value.agg #[Value.int .i64 0, Value.int .i64 0, Value.int .i64 0, Value.slice none 0 0]) ∧ (Value.agg #[Value.int .i64 0, Value.int .i64 0, Value.int .i64 0, Value.slice none 0 0]).cells.size = 4 ∧ qb7 Tryz.prog 61 = .agg [.d (D.int .i64 0), .d (D.int .i64 0), .d (D.int .i64 0), .nils] ∧ qas Tryz.prog 61 = some (D.agg [D.int .i64 0, D.int .i64 0, D.int .i64 0, D.sl []]) := by and_intros <;> kernel_rfl
theorem Qpc : qbg Tryz.prog 64 = some true ∧ tsz Tryz.prog 64 = some 7 ∧ qbh Tryz.prog 64 = some 72 ∧ (Tryz.prog.underlying 64).isSome = true ∧ qdn Tryz.prog 64 0 = some (0, 1, false) ∧ qdn Tryz.prog 64 1 = some (1, 1, false) ∧ qdn Tryz.prog 64 2 = some (2, 1, false) ∧ qdn Tryz.prog 64 3 = some (3, 2, true) ∧ qdn Tryz.prog 64 4 = some (5, 1, false) ∧ qdn Tryz.prog 64 5 = some (6, 1, false) ∧ qc7 Tryz.prog 64 = some [(0, 1), (1, 1), (2, 1), (3, 2), (5, 1), (6, 1)] ∧ qds Tryz.prog 64 = some [.d (D.int .i64 0), .d (D.int .i64 0), .d (D.int .i64 0), .d (D.int .i64 0), .d (D.int .i64 0), .nils, .d (D.bool false)] ∧ qbm Tryz.prog 64 = some (Value.agg #[Value.int .i64 0, Value.int .i64 0, Value.int .i64 0, Value.int .i64 0, Value.int .i64 0, Value.slice none 0 0, Value.bool false]) ∧ (Value.agg #[Value.int .i64 0, Value.int .i64 0, Value.int .i64 0, Value.int .i64 0, Value.int .i64 0, Value.slice none 0 0, Value.bool false]).cells.size = 7 ∧ qb7 Tryz.prog 64 = .agg [.d (D.int .i64 0), .d (D.int .i64 0), .d (D.int .i64 0), .d (D.int .i64 0), .d (D.int .i64 0), .nils, .d (D.bool false)] ∧ qas Tryz.prog 64 = some (D.agg [D.int .i64 0, D.int .i64 0, D.int .i64 0, D.int .i64 0, D.int .i64 0, D.sl [], D.bool false]) := by and_intros <;> kernel_rfl
theorem Qpb : qbg Tryz.prog 66 = some true ∧ tsz Tryz.prog 66 = some 4 ∧ qbh Tryz.prog 66 = some 32 ∧ (Tryz.prog.underlying 66).isSome = true ∧ qyw Tryz.prog 66 = some [0, 0, 0, 0] ∧ qdn Tryz.prog 66 0 = some (0, 1, false) ∧ qdn Tryz.prog 66 1 = some (1, 2, true) ∧ qdn Tryz.prog 66 2 = some (3, 1, false) ∧ qc7 Tryz.prog 66 = some [(0, 1), (1, 2), (3, 1)] ∧ qds Tryz.prog 66 = some [.d (D.int .i64 0), .d (D.int .i64 0), .d (D.int .i64 0), .d (D.int .i64 0)] ∧ qbm Tryz.prog 66 = some (Value.agg #[Value.int .i64 0, Value.int .i64 0, Value.int .i64 0, Value.int .i64 0]) ∧ (Value.agg #[Value.int .i64 0, Value.int .i64 0, Value.int .i64 0, Value.int .i64 0]).cells.size = 4 ∧ qb7 Tryz.prog 66 = .d (D.agg [D.int .i64 0, D.int .i64 0, D.int .i64 0, D.int .i64 0]) ∧ qas Tryz.prog 66 = some (D.agg [D.int .i64 0, D.int .i64 0, D.int .i64 0, D.int .i64 0]) := by and_intros <;> kernel_rfl
theorem Qpa : qbg Tryz.prog 70 = some false ∧ tsz Tryz.prog 70 = some 1 ∧ q96 Tryz.prog 70 = true ∧ qbh Tryz.prog 70 = some 8 ∧ (Tryz.prog.underlying 70).isSome = true ∧ qbm Tryz.prog 70 = some (Value.pointer none) ∧ (Value.pointer none).cells.size = 1 ∧ qb7 Tryz.prog 70 = .d (D.raw (.pointer none)) ∧ qas Tryz.prog 70 = some (D.raw (.pointer none)) := by and_intros <;> kernel_rfl
theorem Qo9 : qbg Tryz.prog 77 = some false ∧ tsz Tryz.prog 77 = some 1 ∧ qhq Tryz.prog 77 = some (none, 28) ∧ qbh Tryz.prog 77 = some 8 ∧ (Tryz.prog.underlying 77).isSome = true ∧ qbm Tryz.prog 77 = some (Value.map none) ∧ (Value.map none).cells.size = 1 ∧ qb7 Tryz.prog 77 = .d (D.raw (.map none)) ∧ qas Tryz.prog 77 = some (D.raw (.map none)) := by and_intros <;> kernel_rfl
theorem Qo8 : qbg Tryz.prog 79 = some false ∧ tsz Tryz.prog 79 = some 1 ∧ qhq Tryz.prog 79 = some (none, 70) ∧ qbh Tryz.prog 79 = some 8 ∧ (Tryz.prog.underlying 79).isSome = true ∧ qbm Tryz.prog 79 = some (Value.map none) ∧ (Value.map none).cells.size = 1 ∧ qb7 Tryz.prog 79 = .d (D.raw (.map none)) ∧ qas Tryz.prog 79 = some (D.raw (.map none)) := by and_intros <;> kernel_rfl
theorem Qo7 : qbg Tryz.prog 85 = some true ∧ tsz Tryz.prog 85 = some 2 ∧ qbh Tryz.prog 85 = some 16 ∧ (Tryz.prog.underlying 85).isSome = true ∧ qyw Tryz.prog 85 = some [0, 0] ∧ qdn Tryz.prog 85 0 = some (0, 1, false) ∧ qdn Tryz.prog 85 1 = some (1, 1, false) ∧ qc7 Tryz.prog 85 = some [(0, 1), (1, 1)] ∧ qds Tryz.prog 85 = some [.d (D.int .i64 0), .d (D.int .i64 0)] ∧ qbm Tryz.prog 85 = some (Value.agg #[Value.int .i64 0, Value.int .i64 0]) ∧ (Value.agg #[Value.int .i64 0, Value.int .i64 0]).cells.size = 2 ∧ qb7 Tryz.prog 85 = .d (D.agg [D.int .i64 0, D.int .i64 0]) ∧ qas Tryz.prog 85 = some (D.agg [D.int .i64 0, D.int .i64 0]) := by and_intros <;> kernel_rfl
theorem Qo6 : qbg Tryz.prog 87 = some true ∧ tsz Tryz.prog 87 = some 7 ∧ qbh Tryz.prog 87 = some 56 ∧ (Tryz.prog.underlying 87).isSome = true ∧ qyw Tryz.prog 87 = some [0, 0, 0, 0, 0, 0, 0] ∧ qdn Tryz.prog 87 0 = some (0, 1, false) ∧ qdn Tryz.prog 87 1 = some (1, 2, true) ∧ qdn Tryz.prog 87 2 = some (3, 2, true) ∧ qdn Tryz.prog 87 3 = some (5, 1, false) ∧ qdn Tryz.prog 87 4 = some (6, 1, false) ∧ qc7 Tryz.prog 87 = some [(0, 1), (1, 2), (3, 2), (5, 1), (6, 1)] ∧ qds Tryz.prog 87 = some [.d (D.int .i64 0), .d (D.int .i64 0), .d (D.int .i64 0), .d (D.int .i64 0), .d (D.int .i64 0), .d (D.int .i64 0), .d (D.int .i64 0)] ∧ qbm Tryz.prog 87 = some (Value.agg #[Value.int .i64 0, Value.int .i64 0, Value.int .i64 0, Value.int .i64 0, Value.int .i64 0, Value.int .i64 0, Value.int .i64 0]) ∧ (Value.agg #[Value.int .i64 0, Value.int .i64 0, Value.int .i64 0, Value.int .i64 0, Value.int .i64 0, Value.int .i64 0, Value.int .i64 0]).cells.size = 7 ∧ qb7 Tryz.prog 87 = .d (D.agg [D.int .i64 0, D.int .i64 0, D.int .i64 0, D.int .i64 0, D.int .i64 0, D.int .i64 0, D.int .i64 0]) ∧ qas Tryz.prog 87 = some (D.agg [D.int .i64 0, D.int .i64 0, D.int .i64 0, D.int .i64 0, D.int .i64 0, D.int .i64 0, D.int .i64 0]) := by and_intros <;> kernel_rfl
theorem Qo5 : qbg Tryz.prog 89 = some true ∧ tsz Tryz.prog 89 = some 3 ∧ qbh Tryz.prog 89 = some 32 ∧ (Tryz.prog.underlying 89).isSome = true ∧ qyw Tryz.prog 89 = some [2, 0, 0] ∧ qdn Tryz.prog 89 0 = some (0, 1, false) ∧ qdn Tryz.prog 89 1 = some (1, 1, false) ∧ qdn Tryz.prog 89 2 = some (2, 1, false) ∧ qc7 Tryz.prog 89 = some [(0, 1), (1, 1), (2, 1)] ∧ qds Tryz.prog 89 = some [.d (D.str []), .d (D.int .i64 0), .d (D.int .i64 0)] ∧ qbm Tryz.prog 89 = some (Value.agg #[Value.string ⟨#[]⟩, Value.int .i64 0, Value.int .i64 0]) ∧ (Value.agg #[Value.string ⟨#[]⟩, Value.int .i64 0, Value.int .i64 0]).cells.size = 3 ∧ qb7 Tryz.prog 89 = .d (D.agg [D.str [], D.int .i64 0, D.int .i64 0]) ∧ qas Tryz.prog 89 = some (D.agg [D.str [], D.int .i64 0, D.int .i64 0]) := by and_intros <;> kernel_rfl
theorem Qo4 : qbg Tryz.prog 94 = some false ∧ tsz Tryz.prog 94 = some 1 ∧ qhq Tryz.prog 94 = some (none, 9) ∧ qbh Tryz.prog 94 = some 8 ∧ (Tryz.prog.underlying 94).isSome = true ∧ qbm Tryz.prog 94 = some (Value.map none) ∧ (Value.map none).cells.size = 1 ∧ qb7 Tryz.prog 94 = .d (D.raw (.map none)) ∧ qas Tryz.prog 94 = some (D.raw (.map none)) := by and_intros <;> kernel_rfl
theorem Qo3 : qbg Tryz.prog 96 = some true ∧ tsz Tryz.prog 96 = some 3 ∧ qbh Tryz.prog 96 = some 48 ∧ (Tryz.prog.underlying 96).isSome = true ∧ qdn Tryz.prog 96 0 = some (0, 1, false) ∧ qdn Tryz.prog 96 1 = some (1, 1, false) ∧ qdn Tryz.prog 96 2 = some (2, 1, false) ∧ qc7 Tryz.prog 96 = some [(0, 1), (1, 1), (2, 1)] ∧ qds Tryz.prog 96 = some [.nils, .d (D.str []), .d (D.raw (.map none))] ∧ qbm Tryz.prog 96 = some (Value.agg #[Value.slice none 0 0, Value.string ⟨#[]⟩, Value.map none]) ∧ (Value.agg #[Value.slice none 0 0, Value.string ⟨#[]⟩, Value.map none]).cells.size = 3 ∧ qb7 Tryz.prog 96 = .agg [.nils, .d (D.str []), .d (D.raw (.map none))] ∧ qas Tryz.prog 96 = some (D.agg [D.sl [], D.str [], D.raw (.map none)]) := by and_intros <;> kernel_rfl
theorem Qk2 : qbg Tryz.prog 101 = some false ∧ tsz Tryz.prog 101 = some 1 ∧ qbh Tryz.prog 101 = some 8 ∧ (Tryz.prog.underlying 101).isSome = true ∧ qbm Tryz.prog 101 = some (Value.nilFunc) ∧ (Value.nilFunc).cells.size = 1 ∧ qb7 Tryz.prog 101 = .d (D.raw .nilFunc) ∧ qas Tryz.prog 101 = some (D.raw .nilFunc) := by and_intros <;> kernel_rfl
theorem Qk1 : qbg Tryz.prog 106 = some false ∧ tsz Tryz.prog 106 = some 1 ∧ qbh Tryz.prog 106 = some 8 ∧ (Tryz.prog.underlying 106).isSome = true ∧ qbm Tryz.prog 106 = some (Value.nilFunc) ∧ (Value.nilFunc).cells.size = 1 ∧ qb7 Tryz.prog 106 = .d (D.raw .nilFunc) ∧ qas Tryz.prog 106 = some (D.raw .nilFunc) := by and_intros <;> kernel_rfl
theorem Qk0 : qbg Tryz.prog 107 = some false ∧ tsz Tryz.prog 107 = some 1 ∧ qhq Tryz.prog 107 = some (some .i64, 4) ∧ qbh Tryz.prog 107 = some 8 ∧ (Tryz.prog.underlying 107).isSome = true ∧ qbm Tryz.prog 107 = some (Value.map none) ∧ (Value.map none).cells.size = 1 ∧ qb7 Tryz.prog 107 = .d (D.raw (.map none)) ∧ qas Tryz.prog 107 = some (D.raw (.map none)) := by and_intros <;> kernel_rfl
theorem Qkz : qbg Tryz.prog 109 = some false ∧ tsz Tryz.prog 109 = some 1 ∧ qbh Tryz.prog 109 = some 8 ∧ (Tryz.prog.underlying 109).isSome = true ∧ qbm Tryz.prog 109 = some (Value.nilFunc) ∧ (Value.nilFunc).cells.size = 1 ∧ qb7 Tryz.prog 109 = .d (D.raw .nilFunc) ∧ qas Tryz.prog 109 = some (D.raw .nilFunc) := by and_intros <;> kernel_rfl
theorem Qky : qbg Tryz.prog 111 = some false ∧ tsz Tryz.prog 111 = some 1 ∧ qbh Tryz.prog 111 = some 8 ∧ (Tryz.prog.underlying 111).isSome = true ∧ qbm Tryz.prog 111 = some (Value.nilFunc) ∧ (Value.nilFunc).cells.size = 1 ∧ qb7 Tryz.prog 111 = .d (D.raw .nilFunc) ∧ qas Tryz.prog 111 = some (D.raw .nilFunc) := by and_intros <;> kernel_rfl
theorem Qkx : qbg Tryz.prog 113 = some false ∧ tsz Tryz.prog 113 = some 1 ∧ qbh Tryz.prog 113 = some 8 ∧ (Tryz.prog.underlying 113).isSome = true ∧ qbm Tryz.prog 113 = some (Value.nilFunc) ∧ (Value.nilFunc).cells.size = 1 ∧ qb7 Tryz.prog 113 = .d (D.raw .nilFunc) ∧ qas Tryz.prog 113 = some (D.raw .nilFunc) := by and_intros <;> kernel_rfl
theorem Qkw : qbg Tryz.prog 115 = some false ∧ tsz Tryz.prog 115 = some 1 ∧ qbh Tryz.prog 115 = some 8 ∧ (Tryz.prog.underlying 115).isSome = true ∧ qbm Tryz.prog 115 = some (Value.nilFunc) ∧ (Value.nilFunc).cells.size = 1 ∧ qb7 Tryz.prog 115 = .d (D.raw .nilFunc) ∧ qas Tryz.prog 115 = some (D.raw .nilFunc) := by and_intros <;> kernel_rfl
theorem Qkv : qbg Tryz.prog 117 = some false ∧ tsz Tryz.prog 117 = some 1 ∧ qbh Tryz.prog 117 = some 8 ∧ (Tryz.prog.underlying 117).isSome = true ∧ qbm Tryz.prog 117 = some (Value.nilFunc) ∧ (Value.nilFunc).cells.size = 1 ∧ qb7 Tryz.prog 117 = .d (D.raw .nilFunc) ∧ qas Tryz.prog 117 = some (D.raw .nilFunc) := by and_intros <;> kernel_rfl
theorem Qku : qbg Tryz.prog 123 = some false ∧ tsz Tryz.prog 123 = some 1 ∧ qbh Tryz.prog 123 = some 8 ∧ (Tryz.prog.underlying 123).isSome = true ∧ qbm Tryz.prog 123 = some (Value.nilFunc) ∧ (Value.nilFunc).cells.size = 1 ∧ qb7 Tryz.prog 123 = .d (D.raw .nilFunc) ∧ qas Tryz.prog 123 = some (D.raw .nilFunc) := by and_intros <;> kernel_rfl
theorem Qkt : qbg Tryz.prog 132 = some false ∧ tsz Tryz.prog 132 = some 1 ∧ qhq Tryz.prog 132 = some (some .i64, 9) ∧ qbh Tryz.prog 132 = some 8 ∧ (Tryz.prog.underlying 132).isSome = true ∧ qbm Tryz.prog 132 = some (Value.map none) ∧ (Value.map none).cells.size = 1 ∧ qb7 Tryz.prog 132 = .d (D.raw (.map none)) ∧ qas Tryz.prog 132 = some (D.raw (.map none)) := by and_intros <;> kernel_rfl
theorem Qks : qbg Tryz.prog 137 = some false ∧ tsz Tryz.prog 137 = some 1 ∧ qbh Tryz.prog 137 = some 8 ∧ (Tryz.prog.underlying 137).isSome = true ∧ qbm Tryz.prog 137 = some (Value.nilFunc) ∧ (Value.nilFunc).cells.size = 1 ∧ qb7 Tryz.prog 137 = .d (D.raw .nilFunc) ∧ qas Tryz.prog 137 = some (D.raw .nilFunc) := by and_intros <;> kernel_rfl
theorem Qkr : qbg Tryz.prog 141 = some false ∧ tsz Tryz.prog 141 = some 1 ∧ qbh Tryz.prog 141 = some 8 ∧ (Tryz.prog.underlying 141).isSome = true ∧ qbm Tryz.prog 141 = some (Value.nilFunc) ∧ (Value.nilFunc).cells.size = 1 ∧ qb7 Tryz.prog 141 = .d (D.raw .nilFunc) ∧ qas Tryz.prog 141 = some (D.raw .nilFunc) := by and_intros <;> kernel_rfl
theorem Qkq : qbg Tryz.prog 144 = some false ∧ tsz Tryz.prog 144 = some 1 ∧ qbh Tryz.prog 144 = some 8 ∧ (Tryz.prog.underlying 144).isSome = true ∧ qbm Tryz.prog 144 = some (Value.nilFunc) ∧ (Value.nilFunc).cells.size = 1 ∧ qb7 Tryz.prog 144 = .d (D.raw .nilFunc) ∧ qas Tryz.prog 144 = some (D.raw .nilFunc) := by and_intros <;> kernel_rfl
theorem Qkp : qbg Tryz.prog 148 = some false ∧ tsz Tryz.prog 148 = some 1 ∧ qbh Tryz.prog 148 = some 8 ∧ (Tryz.prog.underlying 148).isSome = true ∧ qbm Tryz.prog 148 = some (Value.nilFunc) ∧ (Value.nilFunc).cells.size = 1 ∧ qb7 Tryz.prog 148 = .d (D.raw .nilFunc) ∧ qas Tryz.prog 148 = some (D.raw .nilFunc) := by and_intros <;> kernel_rfl
theorem Qko : qbg Tryz.prog 152 = some false ∧ tsz Tryz.prog 152 = some 1 ∧ qbh Tryz.prog 152 = some 8 ∧ (Tryz.prog.underlying 152).isSome = true ∧ qbm Tryz.prog 152 = some (Value.nilFunc) ∧ (Value.nilFunc).cells.size = 1 ∧ qb7 Tryz.prog 152 = .d (D.raw .nilFunc) ∧ qas Tryz.prog 152 = some (D.raw .nilFunc) := by and_intros <;> kernel_rfl
theorem Qkn : qbg Tryz.prog 160 = some false ∧ tsz Tryz.prog 160 = some 1 ∧ qb5 Tryz.prog 160 = some 3 ∧ qo7 Tryz.prog 160 = 1 ∧ qbh Tryz.prog 160 = some 24 ∧ qi4 Tryz.prog 160 = some (none, 1) ∧ (Tryz.prog.underlying 160).isSome = true ∧ qbm Tryz.prog 160 = some (Value.slice none 0 0) ∧ (Value.slice none 0 0).cells.size = 1 ∧ qb7 Tryz.prog 160 = .nils ∧ qas Tryz.prog 160 = some (D.sl []) := by and_intros <;> kernel_rfl
theorem Qkm : qbg Tryz.prog 169 = some true ∧ tsz Tryz.prog 169 = some 256 ∧ qbh Tryz.prog 169 = some 256 ∧ qi4 Tryz.prog 169 = some (some 256, 1) ∧ (Tryz.prog.underlying 169).isSome = true ∧ qyw Tryz.prog 169 = some [1, 1, 1, 1, 1, 1, 1, 1, 1, 1, 1, 1, 1, 1, 1, 1, 1, 1, 1, 1, 1, 1, 1, 1, 1, 1, 1, 1, 1, 1, 1, 1, 1, 1, 1, 1, 1, 1, 1, 1, 1, 1, 1, 1, 1, 1, 1, 1, 1, 1, 1, 1, 1, 1, 1, 1, 1, 1, 1, 1, 1, 1, 1, 1, 1, 1, 1, 1, 1, 1, 1, 1, 1, 1, 1, 1, 1, 1, 1, 1, 1, 1, 1, 1, 1, 1, 1, 1, 1, 1, 1, 1, 1, 1, 1, 1, 1, 1, 1, 1, 1, 1, 1, 1, 1, 1, 1, 1, 1, 1, 1, 1, 1, 1, 1, 1, 1, 1, 1, 1, 1, 1, 1, 1, 1, 1, 1, 1, 1, 1, 1, 1, 1, 1, 1, 1, 1, 1, 1, 1, 1, 1, 1, 1, 1, 1, 1, 1, 1, 1, 1, 1, 1, 1, 1, 1, 1, 1, 1, 1, 1, 1, 1, 1, 1, 1, 1, 1, 1, 1, 1, 1, 1, 1, 1, 1, 1, 1, 1, 1, 1, 1, 1, 1, 1, 1, 1, 1, 1, 1, 1, 1, 1, 1, 1, 1, 1, 1, 1, 1, 1, 1, 1, 1, 1, 1, 1, 1, 1, 1, 1, 1, 1, 1, 1, 1, 1, 1, 1, 1, 1, 1, 1, 1, 1, 1, 1, 1, 1, 1, 1, 1, 1, 1, 1, 1, 1, 1, 1, 1, 1, 1, 1, 1, 1, 1, 1, 1, 1, 1, 1, 1, 1, 1, 1, 1] ∧ qc7 Tryz.prog 169 = some [(0, 1), (1, 1), (2, 1), (3, 1), (4, 1), (5, 1), (6, 1), (7, 1), (8, 1), (9, 1), (10, 1), (11, 1), (12, 1), (13, 1), (14, 1), (15, 1), (16, 1), (17, 1), (18, 1), (19, 1), (20, 1), (21, 1), (22, 1), (23, 1), (24, 1), (25, 1), (26, 1), (27, 1), (28, 1), (29, 1), (30, 1), (31, 1), (32, 1), (33, 1), (34, 1), (35, 1), (36, 1), (37, 1), (38, 1), (39, 1), (40, 1), (41, 1), (42, 1), (43, 1), (44, 1), (45, 1), (46, 1), (47, 1), (48, 1), (49, 1), (50, 1), (51, 1), (52, 1), (53, 1), (54, 1), (55, 1), (56, 1), (57, 1), (58, 1), (59, 1), (60, 1), (61, 1), (62, 1), (63, 1), (64, 1), (65, 1), (66, 1), (67, 1), (68, 1), (69, 1), (70, 1), (71, 1), (72, 1), (73, 1), (74, 1), (75, 1), (76, 1), (77, 1), (78, 1), (79, 1), (80, 1), (81, 1), (82, 1), (83, 1), (84, 1), (85, 1), (86, 1), (87, 1), (88, 1), (89, 1), (90, 1), (91, 1), (92, 1), (93, 1), (94, 1), (95, 1), (96, 1), (97, 1), (98, 1), (99, 1), (100, 1), (101, 1), (102, 1), (103, 1), (104, 1), (105, 1), (106, 1), (107, 1), (108, 1), (109, 1), (110, 1), (111, 1), (112, 1), (113, 1), (114, 1), (115, 1), (116, 1), (117, 1), (118, 1), (119, 1), (120, 1), (121, 1), (122, 1), (123, 1), (124, 1), (125, 1), (126, 1), (127, 1), (128, 1), (129, 1), (130, 1), (131, 1), (132, 1), (133, 1), (134, 1), (135, 1), (136, 1), (137, 1), (138, 1), (139, 1), (140, 1), (141, 1), (142, 1), (143, 1), (144, 1), (145, 1), (146, 1), (147, 1), (148, 1), (149, 1), (150, 1), (151, 1), (152, 1), (153, 1), (154, 1), (155, 1), (156, 1), (157, 1), (158, 1), (159, 1), (160, 1), (161, 1), (162, 1), (163, 1), (164, 1), (165, 1), (166, 1), (167, 1), (168, 1), (169, 1), (170, 1), (171, 1), (172, 1), (173, 1), (174, 1), (175, 1), (176, 1), (177, 1), (178, 1), (179, 1), (180, 1), (181, 1), (182, 1), (183, 1), (184, 1), (185, 1), (186, 1), (187, 1), (188, 1), (189, 1), (190, 1), (191, 1), (192, 1), (193, 1), (194, 1), (195, 1), (196, 1), (197, 1), (198, 1), (199, 1), (200, 1), (201, 1), (202, 1), (203, 1), (204, 1), (205, 1), (206, 1), (207, 1), (208, 1), (209, 1), (210, 1), (211, 1), (212, 1), (213, 1), (214, 1), (215, 1), (216, 1), (217, 1), (218, 1), (219, 1), (220, 1), (221, 1), (222, 1), (223, 1), (224, 1), (225, 1), (226, 1), (227, 1), (228, 1), (229, 1), (230, 1), (231, 1), (232, 1), (233, 1), (234, 1), (235, 1), (236, 1), (237, 1), (238, 1), (239, 1), (240, 1), (241, 1), (242, 1), (243, 1), (244, 1), (245, 1), (246, 1), (247, 1), (248, 1), (249, 1), (250, 1), (251, 1), (252, 1), (253, 1), (254, 1), (255, 1)] ∧ qds Tryz.prog 169 = some [.d (D.bool false), .d (D.bool false), .d (D.bool false), .d (D.bool false), .d (D.bool false), .d (D.bool false), .d (D.bool false), .d (D.bool false), .d (D.bool false), .d (D.bool false), .d (D.bool false), .d (D.bool false), .d (D.bool false), .d (D.bool false), .d (D.bool false), .d (D.bool false), .d (D.bool false), .d (D.bool false), .d (D.bool false), .d (D.bool false), .d (D.bool false), .d (D.bool false), .d (D.bool false), .d (D.bool false), .d (D.bool false), .d (D.bool false), .d (D.bool false), .d (D.bool false), .d (D.bool false), .d (D.bool false), .d (D.bool false), .d (D.bool false), .d (D.bool false), .d (D.bool false), .d (D.bool false), .d (D.bool false), .d (D.bool false), .d (D.bool false), .d (D.bool false), .d (D.bool false), .d (D.bool false), .d (D.bool false), .d (D.bool false), .d (D.bool false), .d (D.bool false), .d (D.bool false), .d (D.bool false), .d (D.bool false), .d (D.bool false), .d (D.bool false), .d (D.bool false), .d (D.bool false), .d (D.bool false), .d (D.bool false), .d (D.bool false), .d (D.bool false), .d (D.bool false), .d (D.bool false), .d (D.bool false), .d (D.bool false), .d (D.bool false), .d (D.bool false), .d (D.bool false), .d (D.bool false), .d (D.bool false), .d (D.bool false), .d (D.bool false), .d (D.bool false), .d (D.bool false), .d (D.bool false), .d (D.bool false), .d (D.bool false), .d (D.bool false), .d (D.bool false), .d (D.bool false), .d (D.bool false), .d (D.bool false), .d (D.bool false), .d (D.bool false), .d (D.bool false), .d (D.bool false), .d (D.bool false), .d (D.bool false), .d (D.bool false), .d (D.bool false), .d (D.bool false), .d (D.bool false), .d (D.bool false), .d (D.bool false), .d (D.bool false), .d (D.bool false), .d (D.bool false), .d (D.bool false), .d (D.bool false), .d (D.bool false), .d (D.bool false), .d (D.bool false), .d (D.bool false), .d (D.bool false), .d (D.bool false), .d (D.bool false), .d (D.bool false), .d (D.bool false), .d (D.bool false), .d (D.bool false), .d (D.bool false), .d (D.bool false), .d (D.bool false), .d (D.bool false), .d (D.bool false), .d (D.bool false), .d (D.bool false), .d (D.bool false), .d (D.bool false), .d (D.bool false), .d (D.bool false), .d (D.bool false), .d (D.bool false), .d (D.bool false), .d (D.bool false), .d (D.bool false), .d (D.bool false), .d (D.bool false), .d (D.bool false), .d (D.bool false), .d (D.bool false), .d (D.bool false), .d (D.bool false), .d (D.bool false), .d (D.bool false), .d (D.bool false), .d (D.bool false), .d (D.bool false), .d (D.bool false), .d (D.bool false), .d (D.bool false), .d (D.bool false), .d (D.bool false), .d (D.bool false), .d (D.bool false), .d (D.bool false), .d (D.bool false), .d (D.bool false), .d (D.bool false), .d (D.bool false), .d (D.bool false), .d (D.bool false), .d (D.bool false), .d (D.bool false), .d (D.bool false), .d (D.bool false), .d (D.bool false), .d (D.bool false), .d (D.bool false), .d (D.bool false), .d (D.bool false), .d (D.bool false), .d (D.bool false), .d (D.bool false), .d (D.bool false), .d (D.bool false), .d (D.bool false), .d (D.bool false), .d (D.bool false), .d (D.bool false), .d (D.bool false), .d (D.bool false), .d (D.bool false), .d (D.bool false), .d (D.bool false), .d (D.bool false), .d (D.bool false), .d (D.bool false), .d (D.bool false), .d (D.bool false), .d (D.bool false), .d (D.bool false), .d (D.bool false), .d (D.bool false), .d (D.bool false), .d (D.bool false), .d (D.bool false), .d (D.bool false), .d (D.bool false), .d (D.bool false), .d (D.bool false), .d (D.bool false), .d (D.bool false), .d (D.bool false), .d (D.bool false), .d (D.bool false), .d (D.bool false), .d (D.bool false), .d (D.bool false), .d (D.bool false), .d (D.bool false), .d (D.bool false), .d (D.bool false), .d (D.bool false), .d (D.bool false), .d (D.bool false), .d (D.bool false), .d (D.bool false), .d (D.bool false), .d (D.bool false), .d (D.bool false), .d (D.bool false), .d (D.bool false), .d (D.bool false), .d (D.bool false), .d (D.bool false), .d (D.bool false), .d (D.bool false), .d (D.bool false), .d (D.bool false), .d (D.bool false), .d (D.bool false), .d (D.bool false), .d (D.bool false), .d (D.bool false), .d (D.bool false), .d (D.bool false), .d (D.bool false), .d (D.bool false), .d (D.bool false), .d (D.bool false), .d (D.bool false), .d (D.bool false), .d (D.bool false), .d (D.bool false), .d (D.bool false), .d (D.bool false), .d (D.bool false), .d (D.bool false), .d (D.bool false), .d (D.bool false), .d (D.bool false), .d (D.bool false), .d (D.bool false), .d (D.bool false), .d (D.bool false), .d (D.bool false), .d (D.bool false), .d (D.bool false), .d (D.bool false), .d (D.bool false), .d (D.bool false), .d (D.bool false), .d (D.bool false), .d (D.bool false), .d (D.bool false), .d (D.bool false), .d (D.bool false), .d (D.bool false), .d (D.bool false), .d (D.bool false)] ∧ qbm Tryz.prog 169 = some (Value.agg #[Value.bool false, Value.bool false, Value.bool false, Value.bool false, Value.bool false, Value.bool false, Value.bool false, Value.bool false, Value.bool false, Value.bool false, Value.bool false, Value.bool false, Value.bool false, Value.bool false, Value.bool false, Value.bool false, Value.bool false, Value.bool false, Value.bool false, Value.bool false, Value.bool false, Value.bool false, Value.bool false, Value.bool false, Value.bool false, Value.bool false, Value.bool false, Value.bool false, Value.bool false, Value.bool false, Value.bool false, Value.bool false, Value.bool false, Value.bool false, Value.bool false, Value.bool false, Value.bool false, Value.bool false, Value.bool false, Value.bool false, Value.bool false, Value.bool false, Value.bool false, Value.bool false, Value.bool false, Value.bool false, Value.bool false, Value.bool false, Value.bool false, Value.bool false, Value.bool false, Value.bool false, Value.bool false, Value.bool false, Value.bool false, Value.bool false, Value.bool false, Value.bool false, Value.bool false, Value.bool false, Value.bool false, Value.bool false, Value.bool false, Value.bool false, Value.bool false, Value.bool false, Value.bool false, Value.bool false, Value.bool false, Value.bool false, Value.bool false, Value.bool false, Value.bool false, Value.bool false, Value.bool false, Value.bool false, Value.bool false, Value.bool false, Value.bool false, Value.bool false, Value.bool false, Value.bool false, Value.bool false, Value.bool false, Value.bool false, Value.bool false, Value.bool false, Value.bool false, Value.bool false, Value.bool false, Value.bool false, Value.bool false, Value.bool false, Value.bool false, Value.bool false, Value.bool false, Value.bool false, Value.bool false, Value.bool false, Value.bool false, Value.bool false, Value.bool false, Value.bool false, Value.bool false, Value.bool false, Value.bool false, Value.bool false, Value.bool false, Value.bool false, Value.bool false, Value.bool false, Value.bool false, Value.bool false, Value.bool false, Value.bool false, Value.bool false, Value.bool false, Value.bool false, Value.bool false, Value.bool false, Value.bool false, Value.bool false, Value.bool false, Value.bool false, Value.bool false, Value.bool false, Value.bool false, Value.bool false, Value.bool false, Value.bool false, Value.bool false, Value.bool false, Value.bool false, Value.bool false, Value.bool false, Value.bool false, Value.bool false, Value.bool false, Value.bool false, Value.bool false, Value.bool false, Value.bool false, Value.bool false, Value.bool false, Value.bool false, Value.bool false, Value.bool false, Value.bool false, Value.bool false, Value.bool false, Value.bool false, Value.bool false, Value.bool false, Value.bool false, Value.bool false, Value.bool false, Value.bool false, Value.bool false, Value.bool false, Value.bool false, Value.bool false, Value.bool false, Value.bool false, Value.bool false, Value.bool false, Value.bool false, Value.bool false, Value.bool false, Value.bool false, Value.bool false, Value.bool false, Value.bool false, Value.bool false, Value.bool false, Value.bool false, Value.bool false, Value.bool false, Value.bool false, Value.bool false, Value.bool false, Value.bool false, Value.bool false, Value.bool false, Value.bool false, Value.bool false, Value.bool false, Value.bool false, Value.bool false, Value.bool false, Value.bool false, Value.bool false, Value.bool false, Value.bool false, Value.bool false, Value.bool false, Value.bool false, Value.bool false, Value.bool false, Value.bool false, Value.bool false, Value.bool false, Value.bool false, Value.bool false, Value.bool false, Value.bool false, Value.bool false, Value.bool false, Value.bool false, Value.bool false, Value.bool false, Value.bool false, Value.bool false, Value.bool false, Value.bool false, Value.bool false, Value.bool false, Value.bool false, Value.bool false, Value.bool false, Value.bool false, Value.bool false, Value.bool false, Value.bool false, Value.bool false, Value.bool false, Value.bool false, Value.bool false, Value.bool false, Value.bool false, Value.bool false, Value.bool false, Value.bool false, Value.bool false, Value.bool false, Value.bool false, Value.bool false, Value.bool false, Value.bool false, Value.bool false, Value.bool false, Value.bool false, Value.bool false, Value.bool false, Value.bool false, Value.bool false, Value.bool false, Value.bool false, Value.bool false, Value.bool false, Value.bool false, Value.bool false, Value.bool false, Value.bool false, Value.bool false, Value.bool false, Value.bool false]) ∧ (Value.agg #[Value.bool false, Value.bool false, Value.bool false, Value.bool false, Value.bool false, Value.bool false, Value.bool false, Value.bool false, Value.bool false, Value.bool false, Value.bool false, Value.bool false, Value.bool false, Value.bool false, Value.bool false, Value.bool false, Value.bool false, Value.bool false, Value.bool false, Value.bool false, Value.bool false, Value.bool false, Value.bool false, Value.bool false, Value.bool false, Value.bool false, Value.bool false, Value.bool false, Value.bool false, Value.bool false, Value.bool false, Value.bool false, Value.bool false, Value.bool false, Value.bool false, Value.bool false, Value.bool false, Value.bool false, Value.bool false, Value.bool false, Value.bool false, Value.bool false, Value.bool false, Value.bool false, Value.bool false, Value.bool false, Value.bool false, Value.bool false, Value.bool false, Value.bool false, Value.bool false, Value.bool false, Value.bool false, Value.bool false, Value.bool false, Value.bool false, Value.bool false, Value.bool false, Value.bool false, Value.bool false, Value.bool false, Value.bool false, Value.bool false, Value.bool false, Value.bool false, Value.bool false, Value.bool false, Value.bool false, Value.bool false, Value.bool false, Value.bool false, Value.bool false, Value.bool false, Value.bool false, Value.bool false, Value.bool false, Value.bool false, Value.bool false, Value.bool false, Value.bool false, Value.bool false, Value.bool false, Value.bool false, Value.bool false, Value.bool false, Value.bool false, Value.bool false, Value.bool false, Value.bool false, Value.bool false, Value.bool false, Value.bool false, Value.bool false, Value.bool false, Value.bool false, Value.bool false, Value.bool false, Value.bool false, Value.bool false, Value.bool false, Value.bool false, Value.bool false, Value.bool false, Value.bool false, Value.bool false, Value.bool false, Value.bool false, Value.bool false, Value.bool false, Value.bool false, Value.bool false, Value.bool false, Value.bool false, Value.bool false, Value.bool false, Value.bool false, Value.bool false, Value.bool false, Value.bool false, Value.bool false, Value.bool false, Value.bool false, Value.bool false, Value.bool false, Value.bool false, Value.bool false, Value.bool false, Value.bool false, Value.bool false, Value.bool false, Value.bool false, Value.bool false, Value.bool false, Value.bool false, Value.bool false, Value.bool false, Value.bool false, Value.bool false, Value.bool false, Value.bool false, Value.bool false, Value.bool false, Value.bool false, Value.bool false, Value.bool false, Value.bool false, Value.bool false, Value.bool false, Value.bool false, Value.bool false, Value.bool false, Value.bool false, Value.bool false, Value.bool false, Value.bool false, Value.bool false, Value.bool false, Value.bool false, Value.bool false, Value.bool false, Value.bool false, Value.bool false, Value.bool false, Value.bool false, Value.bool false, Value.bool false, Value.bool false, Value.bool false, Value.bool false, Value.bool false, Value.bool false, Value.bool false, Value.bool false, Value.bool false, Value.bool false, Value.bool false, Value.bool false, Value.bool false, Value.bool false, Value.bool false, Value.bool false, Value.bool false, Value.bool false, Value.bool false, Value.bool false, Value.bool false, Value.bool false, Value.bool false, Value.bool false, Value.bool false, Value.bool false, Value.bool false, Value.bool false, Value.bool false, Value.bool false, Value.bool false, Value.bool false, Value.bool false, Value.bool false, Value.bool false, Value.bool false, Value.bool false, Value.bool false, Value.bool false, Value.bool false, Value.bool false, Value.bool false, Value.bool false, Value.bool false, Value.bool false, Value.bool false, Value.bool false, Value.bool false, Value.bool false, Value.bool false, Value.bool false, Value.bool false, Value.bool false, Value.bool false, Value.bool false, Value.bool false, Value.bool false, Value.bool false, Value.bool false, Value.bool false, Value.bool false, Value.bool false, Value.bool false, Value.bool false, Value.bool false, Value.bool false, Value.bool false, Value.bool false, Value.bool false, Value.bool false, Value.bool false, Value.bool false, Value.bool false, Value.bool false, Value.bool false, Value.bool false, Value.bool false, Value.bool false, Value.bool false, Value.bool false, Value.bool false, Value.bool false, Value.bool false, Value.bool false, Value.bool false, Value.bool false, Value.bool false, Value.bool false, Value.bool false, Value.bool false, Value.bool false]).cells.size = 256 ∧ qb7 Tryz.prog 169 = .d (D.agg [D.bool false, D.bool false, D.bool false, D.bool false, D.bool false, D.bool false, D.bool false, D.bool false, D.bool false, D.bool false, D.bool false, D.bool false, D.bool false, D.bool false, D.bool false, D.bool false, D.bool false, D.bool false, D.bool false, D.bool false, D.bool false, D.bool false, D.bool false, D.bool false, D.bool false, D.bool false, D.bool false, D.bool false, D.bool false, D.bool false, D.bool false, D.bool false, D.bool false, D.bool false, D.bool false, D.bool false, D.bool false, D.bool false, D.bool false, D.bool false, D.bool false, D.bool false, D.bool false, D.bool false, D.bool false, D.bool false, D.bool false, D.bool false, D.bool false, D.bool false, D.bool false, D.bool false, D.bool false, D.bool false, D.bool false, D.bool false, D.bool false, D.bool false, D.bool false, D.bool false, D.bool false, D.bool false, D.bool false, D.bool false, D.bool false, D.bool false, D.bool false, D.bool false, D.bool false, D.bool false, D.bool false, D.bool false, D.bool false, D.bool false, D.bool false, D.bool false, D.bool false, D.bool false, D.bool false, D.bool false, D.bool false, D.bool false, D.bool false, D.bool false, D.bool false, D.bool false, D.bool false, D.bool false, D.bool false, D.bool false, D.bool false, D.bool false, D.bool false, D.bool false, D.bool false, D.bool false, D.bool false, D.bool false, D.bool false, D.bool false, D.bool false, D.bool false, D.bool false, D.bool false, D.bool false, D.bool false, D.bool false, D.bool false, D.bool false, D.bool false, D.bool false, D.bool false, D.bool false, D.bool false, D.bool false, D.bool false, D.bool false, D.bool false, D.bool false, D.bool false, D.bool false, D.bool false, D.bool false, D.bool false, D.bool false, D.bool false, D.bool false, D.bool false, D.bool false, D.bool false, D.bool false, D.bool false, D.bool false, D.bool false, D.bool false, D.bool false, D.bool false, D.bool false, D.bool false, D.bool false, D.bool false, D.bool false, D.bool false, D.bool false, D.bool false, D.bool false, D.bool false, D.bool false, D.bool false, D.bool false, D.bool false, D.bool false, D.bool false, D.bool false, D.bool false, D.bool false, D.bool false, D.bool false, D.bool false, D.bool false, D.bool false, D.bool false, D.bool false, D.bool false, D.bool false, D.bool false, D.bool false, D.bool false, D.bool false, D.bool false, D.bool false, D.bool false, D.bool false, D.bool false, D.bool false, D.bool false, D.bool false, D.bool false, D.bool false, D.bool false, D.bool false, D.bool false, D.bool false, D.bool false, D.bool false, D.bool false, D.bool false, D.bool false, D.bool false, D.bool false, D.bool false, D.bool false, D.bool false, D.bool false, D.bool false, D.bool false, D.bool false, D.bool false, D.bool false, D.bool false, D.bool false, D.bool false, D.bool false, D.bool false, D.bool false, D.bool false, D.bool false, D.bool false, D.bool false, D.bool false, D.bool false, D.bool false, D.bool false, D.bool false, D.bool false, D.bool false, D.bool false, D.bool false, D.bool false, D.bool false, D.bool false, D.bool false, D.bool false, D.bool false, D.bool false, D.bool false, D.bool false, D.bool false, D.bool false, D.bool false, D.bool false, D.bool false, D.bool false, D.bool false, D.bool false, D.bool false, D.bool false, D.bool false, D.bool false, D.bool false, D.bool false, D.bool false, D.bool false, D.bool false, D.bool false, D.bool false, D.bool false, D.bool false, D.bool false, D.bool false, D.bool false, D.bool false, D.bool false, D.bool false, D.bool false, D.bool false]) ∧ qas Tryz.prog 169 = some (D.agg [D.bool false, D.bool false, D.bool false, D.bool false, D.bool false, D.bool false, D.bool false, D.bool false, D.bool false, D.bool false, D.bool false, D.bool false, D.bool false, D.bool false, D.bool false, D.bool false, D.bool false, D.bool false, D.bool false, D.bool false, D.bool false, D.bool false, D.bool false, D.bool false, D.bool false, D.bool false, D.bool false, D.bool false, D.bool false, D.bool false, D.bool false, D.bool false, D.bool false, D.bool false, D.bool false, D.bool false, D.bool false, D.bool false, D.bool false, D.bool false, D.bool false, D.bool false, D.bool false, D.bool false, D.bool false, D.bool false, D.bool false, D.bool false, D.bool false, D.bool false, D.bool false, D.bool false, D.bool false, D.bool false, D.bool false, D.bool false, D.bool false, D.bool false, D.bool false, D.bool false, D.bool false, D.bool false, D.bool false, D.bool false, D.bool false, D.bool false, D.bool false, D.bool false, D.bool false, D.bool false, D.bool false, D.bool false, D.bool false, D.bool false, D.bool false, D.bool false, D.bool false, D.bool false, D.bool false, D.bool false, D.bool false, D.bool false, D.bool false, D.bool false, D.bool false, D.bool false, D.bool false, D.bool false, D.bool false, D.bool false, D.bool false, D.bool false, D.bool false, D.bool false, D.bool false, D.bool false, D.bool false, D.bool false, D.bool false, D.bool false, D.bool false, D.bool false, D.bool false, D.bool false, D.bool false, D.bool false, D.bool false, D.bool false, D.bool false, D.bool false, D.bool false, D.bool false, D.bool false, D.bool false, D.bool false, D.bool false, D.bool false, D.bool false, D.bool false, D.bool false, D.bool false, D.bool false, D.bool false, D.bool false, D.bool false, D.bool false, D.bool false, D.bool false, D.bool false, D.bool false, D.bool false, D.bool false, D.bool false, D.bool false, D.bool false, D.bool false, D.bool false, D.bool false, D.bool false, D.bool false, D.bool false, D.bool false, D.bool false, D.bool false, D.bool false, D.bool false, D.bool false, D.bool false, D.bool false, D.bool false, D.bool false, D.bool false, D.bool false, D.bool false, D.bool false, D.bool false, D.bool false, D.bool false, D.bool false, D.bool false, D.bool false, D.bool false, D.bool false, D.bool false, D.bool false, D.bool false, D.bool false, D.bool false, D.bool false, D.bool false, D.bool false, D.bool false, D.bool false, D.bool false, D.bool false, D.bool false, D.bool false, D.bool false, D.bool false, D.bool false, D.bool false, D.bool false, D.bool false, D.bool false, D.bool false, D.bool false, D.bool false, D.bool false, D.bool false, D.bool false, D.bool false, D.bool false, D.bool false, D.bool false, D.bool false, D.bool false, D.bool false, D.bool false, D.bool false, D.bool false, D.bool false, D.bool false, D.bool false, D.bool false, D.bool false, D.bool false, D.bool false, D.bool false, D.bool false, D.bool false, D.bool false, D.bool false, D.bool false, D.bool false, D.bool false, D.bool false, D.bool false, D.bool false, D.bool false, D.bool false, D.bool false, D.bool false, D.bool false, D.bool false, D.bool false, D.bool false, D.bool false, D.bool false, D.bool false, D.bool false, D.bool false, D.bool false, D.bool false, D.bool false, D.bool false, D.bool false, D.bool false, D.bool false, D.bool false, D.bool false, D.bool false, D.bool false, D.bool false, D.bool false, D.bool false, D.bool false, D.bool false, D.bool false, D.bool false, D.bool false, D.bool false, D.bool false, D.bool false, D.bool false, D.bool false, D.bool false]) := by and_intros <;> kernel_rfl
theorem Qkl : qbg Tryz.prog 173 = some false ∧ tsz Tryz.prog 173 = some 1 ∧ q96 Tryz.prog 173 = true ∧ qbh Tryz.prog 173 = some 8 ∧ (Tryz.prog.underlying 173).isSome = true ∧ qbm Tryz.prog 173 = some (Value.pointer none) ∧ (Value.pointer none).cells.size = 1 ∧ qb7 Tryz.prog 173 = .d (D.raw (.pointer none)) ∧ qas Tryz.prog 173 = some (D.raw (.pointer none)) := by and_intros <;> kernel_rfl
theorem Qkk : qbg Tryz.prog 201 = some false ∧ tsz Tryz.prog 201 = some 1 ∧ qbh Tryz.prog 201 = some 8 ∧ qt8 Tryz.prog 201 = some .u64 ∧ (Tryz.prog.underlying 201).isSome = true ∧ qbm Tryz.prog 201 = some (Value.int .u64 0) ∧ (Value.int .u64 0).cells.size = 1 ∧ qb7 Tryz.prog 201 = .d (D.int .u64 0) ∧ qas Tryz.prog 201 = some (D.int .u64 0) := by and_intros <;> kernel_rfl
theorem qyu : type_of% (And.intro (And.intro Qsg (And.intro Qsf (And.intro Qse (And.intro Qsd (And.intro Qpv (And.intro Qpu (And.intro Qpt (And.intro Qps (And.intro Qpr (And.intro Qpq (And.intro Qpp (And.intro Qpo (And.intro Qpn (And.intro Qpm (And.intro Qpl (And.intro Qpk (And.intro Qpj (And.intro Qpi (And.intro Qph (Qpg)))))))))))))))))))) (And.intro (And.intro Qpf (And.intro Qpe (And.intro Qpd (And.intro Qpc (And.intro Qpb (And.intro Qpa (And.intro Qo9 (And.intro Qo8 (And.intro Qo7 (And.intro Qo6 (And.intro Qo5 (And.intro Qo4 (And.intro Qo3 (And.intro Qk2 (And.intro Qk1 (And.intro Qk0 (And.intro Qkz (And.intro Qky (And.intro Qkx (Qkw)))))))))))))))))))) ((And.intro Qkv (And.intro Qku (And.intro Qkt (And.intro Qks (And.intro Qkr (And.intro Qkq (And.intro Qkp (And.intro Qko (And.intro Qkn (And.intro Qkm (And.intro Qkl (Qkk))))))))))))))) := And.intro (And.intro Qsg (And.intro Qsf (And.intro Qse (And.intro Qsd (And.intro Qpv (And.intro Qpu (And.intro Qpt (And.intro Qps (And.intro Qpr (And.intro Qpq (And.intro Qpp (And.intro Qpo (And.intro Qpn (And.intro Qpm (And.intro Qpl (And.intro Qpk (And.intro Qpj (And.intro Qpi (And.intro Qph (Qpg)))))))))))))))))))) (And.intro (And.intro Qpf (And.intro Qpe (And.intro Qpd (And.intro Qpc (And.intro Qpb (And.intro Qpa (And.intro Qo9 (And.intro Qo8 (And.intro Qo7 (And.intro Qo6 (And.intro Qo5 (And.intro Qo4 (And.intro Qo3 (And.intro Qk2 (And.intro Qk1 (And.intro Qk0 (And.intro Qkz (And.intro Qky (And.intro Qkx (Qkw)))))))))))))))))))) ((And.intro Qkv (And.intro Qku (And.intro Qkt (And.intro Qks (And.intro Qkr (And.intro Qkq (And.intro Qkp (And.intro Qko (And.intro Qkn (And.intro Qkm (And.intro Qkl (Qkk))))))))))))))
end YtljpopkonkanlaaGreatDoor
end Go.Proofs

set_option maxRecDepth 100000
namespace Go.Proofs
open Go.AM
namespace YtljpopkonkanlaaGreatDoor
variable {Gl : qa5}
theorem zA : type_of% (And.intro @qys (And.intro @q9r (And.intro @q9y (And.intro @qyu (And.intro @Qki (And.intro @qmn (And.intro @qj5 (And.intro @Int.natCast_add (And.intro @Int.natCast_one @q33))))))))) := And.intro @qys (And.intro @q9r (And.intro @q9y (And.intro @qyu (And.intro @Qki (And.intro @qmn (And.intro @qj5 (And.intro @Int.natCast_add (And.intro @Int.natCast_one @q33))))))))
theorem Qrz (s : List UInt8) (c : Int) : qbw Tryz.prog Gl 207 [.d (.str s), .d (.int .u8 c)] (.d (.int .i64 (Lib.indexByte s c.toNat.toUInt8))) :=
 qi8 Tryz.func207 (by kernel_rfl) (by kernel_rfl) (by kernel_rfl) (by kernel_rfl) s c
theorem Qry (s : List UInt8) (c : Int) : qbw Tryz.prog Gl 184 [.d (.str s), .d (.int .u8 c)] (.d (.int .i64 (Lib.indexByte s c.toNat.toUInt8))) := by
 refine qbw.of2 ?_
 refine qac Tryz.func184 rfl rfl (by simp [Tryz.ntmps184]) (qab rfl _ _ _ _ ?_)
 simp only [Tryz.ntmps184, Tryz.results184, qak, List.length_nil]
 simp only [zA, seval]
 refine qah (Qrz s c) ?_
 simp only [zA, seval]
 exact ⟨_, _, qcm.refl _ _ _, rfl, rfl⟩
theorem q5e (s : List UInt8) (c : Int) : qbw Tryz.prog Gl 131 [.d (.str s), .d (.int .u8 c)] (.d (.int .i64 (Lib.indexByte s c.toNat.toUInt8))) := by
 refine qbw.of2 ?_
 refine qac Tryz.func131 rfl rfl (by simp [Tryz.ntmps131]) (qab rfl _ _ _ _ ?_)
 simp only [Tryz.ntmps131, Tryz.results131, qak, List.length_nil]
 simp only [zA, seval]
 refine qah (Qry s c) ?_
 simp only [zA, seval]
 exact ⟨_, _, qcm.refl _ _ _, rfl, rfl⟩
def Qru : List UInt8 := [95, 46, 58, 47, 60, 62, 36, 42, 126, 45]
def qsz (c : Int) : Bool := (decide (97 ≤ c) && decide (c ≤ 122)) || (decide (65 ≤ c) && decide (c ≤ 90)) || (decide (48 ≤ c) && decide (c ≤ 57)) || decide (0 ≤ Lib.indexByte Qru c.toNat.toUInt8)
theorem Qiv (c : Int) : qbw Tryz.prog Gl 58 [.d (.int .u8 c)] (.d (.bool (qsz c))) := by
 refine qbw.of1 ?_
 refine qac Tryz.func58 rfl rfl (by simp [Tryz.ntmps58]) (qab rfl _ _ _ _ ?_)
 simp only [Tryz.ntmps58, Tryz.results58, qak, List.length_nil]
 simp only [zA, seval]
 repeat ((with_reducible refine And.intro ?_ ?_); (focus (first | omega | (simp only [qa2]; omega) | (refine qq ?_; rfl) | (refine dq ?_; kernel_rfl) | (intros; simp_all; done))))
 refine qbs (fun _ => q5e _ _) ?_
 simp only [zA, seval]
 exact ⟨_, _, qa0, rfl, rfl⟩
def qlr (s : List UInt8) : Bool := decide (1 ≤ s.length) && decide (s.length ≤ 40) && s.all fun c => qsz c.toNat
def qdo (s : List UInt8) : Int := if qlr s = true then 0 else 3
theorem qzb {s : List UInt8} (h : qlr s = false) : qdo s = 3 := by simp [qdo, h]
theorem Qdw {s : List UInt8} (h : qlr s = true) : qdo s = 0 := by simp [qdo, h]
theorem q2x {s : List UInt8} (h : 1 ≤ s.length ∧ s.length ≤ 40) : qlr s = s.all fun c => qsz c.toNat := by simp [qlr, h]
theorem Qal {s : List UInt8} (h : ¬ (1 ≤ s.length ∧ s.length ≤ 40)) : qlr s = false := by
 unfold qlr
 by_cases h1 : 1 ≤ s.length
 ·have : ¬ s.length ≤ 40 := fun h2 => h ⟨h1, h2⟩
  simp [this]
 ·simp [h1]
theorem qx1 (s : List UInt8) : qbw Tryz.prog Gl 31 [.d (.str s)] (.d (.int .i64 (qdo s))) := by
 refine qbw.of1 ?_
 refine qac Tryz.func31 rfl rfl (by simp [Tryz.ntmps31]) (qab rfl _ _ _ _ ?_)
 simp only [Tryz.ntmps31, Tryz.results31, qak, List.length_nil]
 simp only [zA, seval]
 repeat ((with_reducible refine And.intro ?_ ?_); (focus (first | omega | (simp only [qa2]; omega) | (refine qq ?_; rfl) | (refine dq ?_; kernel_rfl) | (intros; simp_all; done))))
 refine ifC.mk (fun h => ?_) (fun h => ?_)
 ·refine ⟨_, _, qa0, ?_, rfl⟩
  rw [qzb (Qal fun hn => ?_)]
  cases s <;> simp at h hn; omega
 ·have hn : 1 ≤ s.length ∧ s.length ≤ 40 := by cases s <;> simp at h ⊢; omega
  refine qa7 s.length (fun k => [(0, .d (.str s)), (12, .d (.int .i64 s.length)), (13, .d (.int .i64 k))]) (fun _ => []) (fun k => ((s.take k).all fun c => qsz c.toNat) = true) rfl ?_ ?_
  ·refine qad [] [] rfl List.nodup_nil ?_ rfl
   simp only [zA, seval, Int.cast_ofNat_Int]
  ·intro k hi hk
   by_cases h : k < s.length
   ·have hs := qe1 (fun c => qsz c.toNat) s k h
    have hd : s.getD k 0 = s.getD k default := rfl
    simp only [zA, seval, (show (k:Int) < s.length by omega), hd]
    repeat ((with_reducible refine And.intro ?_ ?_); (focus (first | omega | (simp only [qa2]; omega) | (refine qq ?_; rfl) | (refine dq ?_; kernel_rfl) | (intros; simp_all; done))))
    refine qah (Qiv _) ?_
    simp only [zA, seval]
    refine ifC.mk (fun hc => ?_) (fun hc => ?_)
    ·refine ⟨_, _, qa0, ?_, rfl⟩
     rw [qzb (by rw [q2x hn]; exact qyo _ s k h (by simpa using hc))]
    ·refine ⟨h, by rw [hs, hi]; simpa using hc, ?_⟩
     refine qad [] [] rfl List.nodup_nil ?_ rfl
     simp only [zA, seval, @qai ((k:Int) + 1) (by omega)]
   ·simp only [zA, seval, (show ¬ (k:Int) < s.length by omega)]
    refine ⟨_, _, qa0, ?_, rfl⟩
    have : k = s.length := by omega
    rw [this, List.take_length] at hi
    rw [Qdw (by rw [q2x hn]; exact hi)]
def qde (l : List (List UInt8)) : Int := if 32 < l.length then 7 else if l.all qlr = true then 0 else 3
theorem q83 (l : List (List UInt8)) (hl : l.length < 1000000) : qbw Tryz.prog Gl 168 [.d (.sl (l.map .str))] (.d (.int .i64 (qde l))) := by
 refine qbw.of1 ?_
 refine qac Tryz.func168 rfl rfl (by simp [Tryz.ntmps168]) (qab rfl _ _ _ _ ?_)
 simp only [Tryz.ntmps168, Tryz.results168, qak, List.length_nil]
 simp only [zA, seval]
 refine ifC.mk (fun h => ?_) (fun h => ?_)
 ·refine ⟨_, _, qa0, ?_, rfl⟩
  simp at h
  have h : 32 < l.length := by omega
  rw [qde, if_pos h]
 ·simp at h
  have h : ¬ 32 < l.length := by omega
  refine qa7 l.length (fun k => [(9, .d (.sl (l.map .str))), (10, .d (.int .i64 l.length)), (11, .d (.int .i64 k))]) (fun _ => []) (fun k => (l.take k).all qlr = true) rfl ?_ ?_
  ·refine qad [] [] rfl List.nodup_nil ?_ rfl
   simp only [zA, seval, Int.cast_ofNat_Int]
  ·intro k hi hk
   by_cases h2 : k < l.length
   ·have hs := qe1 qlr l k h2
    simp only [zA, seval, (show (k:Int) < l.length by omega), h2, qat _ _ _ (show k < l.length by omega)]
    refine qah (qx1 _) ?_
    simp only [zA, seval]
    refine ifC.mk (fun hc => ?_) (fun hc => ?_)
    ·refine ⟨_, _, qa0, ?_, rfl⟩
     have hb : qlr (l.getD k default) = false := by
      cases hb : qlr (l.getD k default) with
      | false => rfl
      | true => rw [Qdw hb] at hc; simp at hc
     rw [qde, if_neg h, if_neg (by rw [qyo _ l k h2 hb]; simp), qzb hb]
    ·have hb : qlr (l.getD k default) = true := by
      cases hb : qlr (l.getD k default) with
      | true => rfl
      | false => rw [qzb hb] at hc; simp at hc
     refine ⟨by rw [hs, hi, hb]; rfl, ?_⟩
     refine qad [] [] rfl List.nodup_nil ?_ rfl
     simp only [zA, seval, @qai ((k:Int) + 1) (by omega)]
   ·simp only [zA, seval, (show ¬ (k:Int) < l.length by omega)]
    refine ⟨_, _, qa0, ?_, rfl⟩
    have : k = l.length := by omega
    rw [this, List.take_length] at hi
    rw [qde, if_neg h, if_pos hi]
end YtljpopkonkanlaaGreatDoor
end Go.Proofs

set_option maxRecDepth 100000
namespace Go.Proofs
open Go.AM
namespace YtljpopkonkanlaaGreatDoor
variable {Gl : qa5} {τ : Sto}
theorem zS : type_of% (And.intro @qys (And.intro @q9r (And.intro @q9y @qyu))) := And.intro @qys (And.intro @q9r (And.intro @q9y @qyu))
theorem qf2 (Dm : D → Prop) (hD : ∀ x, Dm x → El 3 x) (xs : List D) (n a b k : Nat) (fv : FuncId) (caps : List AV) (hx : ∀ y ∈ xs, Dm y) (hn : n ≤ xs.length) (hN : n < 1000000) (ha : a + k ≤ n) (hb : b + k ≤ n) (hab : a + k ≤ b ∨ b + k ≤ a) :
  qaf Tryz.prog Gl 219 [.osl 0 0 n, .d (.int .i64 a), .d (.int .i64 b), .d (.int .i64 k), .fn fv caps] (.arr 3 xs :: τ) (fun r s => r = .tup [] ∧ ∃ ys, s = (.arr 3 ys :: τ) ∧ Arr Dm xs ys (qi5 a b k)) := by
 refine qac Tryz.func219 rfl rfl (by simp [Tryz.ntmps219]) (qab rfl _ _ _ _ ?_)
 simp only [Tryz.ntmps219, Tryz.results219, qak, List.length_nil]
 simp only [zS, seval]
 refine qck (τ := Nat × List D) (fun x => [(0, .osl 0 0 n), (1, .d (.int .i64 a)), (2, .d (.int .i64 b)), (3, .d (.int .i64 k)), (10, .d (.int .i64 x.1))]) (fun x => (.arr 3 x.2 :: τ)) (fun x => x.1 ≤ k ∧ Arr Dm xs x.2 (qi5 a b x.1)) (fun x => k - x.1) (0, xs) ⟨Nat.zero_le _, rfl, hx, fun i hi => by unfold qi5; rw [if_neg (by omega), if_neg (by omega)]⟩ ?_ ?_
 ·refine qbp ?_
  simp only [zS, seval]
  all_goals rfl
 ·intro x hi
  obtain ⟨j, ys⟩ := x
  obtain ⟨hj, hA⟩ := hi
  simp only at hj hA
  simp only [zS, seval]
  refine ifC.mk (fun h => ?_) (fun h => ?_)
  ·have h : j < k := by simpa using h
   have e1 : IntKind.i64.wrap ((a : Int) + j) = ((a + j : Nat) : Int) := by rw [qbl (by omega) (by omega)]; omega
   have e2 : IntKind.i64.wrap ((b : Int) + j) = ((b + j : Nat) : Int) := by rw [qbl (by omega) (by omega)]; omega
   have hl := hA.len
   have l1 := El.at hD hA.el (i := a + j) (by omega)
   have l2 := El.at hD hA.el (i := b + j) (by omega)
   simp only [zS, seval, e1, e2, l1, l2]
   refine ⟨.inl (by kernel_rfl), ?_⟩
   have c1 : ((b + j : Nat) : Int) < (n : Int) := by omega
   have c2 : ((a + j : Nat) : Int) < (n : Int) := by omega
   have c3 : b + j < ys.length := by omega
   have c4 : a + j < ys.length := by omega
   simp only [c1, c2, c3, c4, true_and]
   refine ⟨(j + 1, _), ⟨by omega, (hA.swap (i := a + j) (j := b + j) (by omega) (by omega)).congr fun i _ => ?_⟩, by simp only; omega, qbp ?_⟩
   ·exact q98 a b j i (by omega)
   ·simp only [zS, seval]
    rw [qbl (by omega) (by omega)]
    rfl
  ·have h : ¬ j < k := by simpa using h
   have : j = k := by omega
   subst this
   exact ⟨_, _, qcm.refl _ _ _, rfl, ys, rfl, hA⟩

theorem Qhx (a m i p : Nat) (h : i ≤ m) : qi5 (m - i) m i p = qm8 (m - i) m (m + i) p := by
 unfold qi5 qm8
 repeat' split
 all_goals omega
theorem Qhw (m i j p : Nat) (h : j < i) (hm : i ≤ m) : qi5 (m - i) m j (qm8 (m - (i - j)) m (m + j) p) = qm8 (m - i) m (m + j) p := by
 unfold qi5 qm8
 repeat' split
 all_goals omega
theorem Qcl (m i j p : Nat) (h : i < j) (hm : i ≤ m) : qi5 (m - i) (m + j - i) i (qm8 (m - i) m (m + (j - i)) p) = qm8 (m - i) m (m + j) p := by
 unfold qi5 qm8
 repeat' split
 all_goals omega
theorem qyx {a b k i n : Nat} (ha : a + k ≤ n) (hb : b + k ≤ n) (hi : i < n) : qi5 a b k i < n := by
 unfold qi5
 repeat' split
 all_goals omega
theorem Qcm {a m b i n : Nat} (ha : a ≤ m) (hb : m ≤ b) (hn : b ≤ n) (hi : i < n) : qm8 a m b i < n := by
 unfold qm8
 repeat' split
 all_goals omega
theorem qqh (Dm : D → Prop) (hD : ∀ x, Dm x → El 3 x) (xs : List D) (n a m b : Nat) (fv : FuncId) (caps : List AV) (hx : ∀ y ∈ xs, Dm y) (hn : n ≤ xs.length) (hN : n < 1000000) (ha : a < m) (hm : m < b) (hb : b ≤ n) :
  qaf Tryz.prog Gl 209 [.osl 0 0 n, .d (.int .i64 a), .d (.int .i64 m), .d (.int .i64 b), .fn fv caps] (.arr 3 xs :: τ) (fun r s => r = .tup [] ∧ ∃ ys, s = (.arr 3 ys :: τ) ∧ Arr Dm xs ys (qm8 a m b)) := by
 refine qac Tryz.func209 rfl rfl (by simp [Tryz.ntmps209]) (qab rfl _ _ _ _ ?_)
 simp only [Tryz.ntmps209, Tryz.results209, qak, List.length_nil]
 simp only [zS, seval]
 refine qck (τ := (Nat × Nat) × List D) (fun x => [(0, .osl 0 0 n), (2, .d (.int .i64 m)), (4, .fn fv caps), (10, .d (.int .i64 x.1.1)), (11, .d (.int .i64 x.1.2))]) (fun x => (.arr 3 x.2 :: τ))
  (fun x => 1 ≤ x.1.1 ∧ x.1.1 ≤ m - a ∧ 1 ≤ x.1.2 ∧ x.1.2 ≤ b - m ∧ ∃ π, Arr Dm xs x.2 π ∧ ∀ p, p < xs.length → π (qm8 (m - x.1.1) m (m + x.1.2) p) = qm8 a m b p) (fun x => x.1.1 + x.1.2) ((m - a, b - m), xs)
  ⟨by simp only; omega, by simp only; omega, by simp only; omega, by simp only; omega, fun i => i, Arr.refl hx, fun p _ => by simp only; congr 1 <;> omega⟩ ?_ ?_
 ·refine qbp ?_
  have e1 : IntKind.i64.wrap ((m : Int) - a) = ((m - a : Nat) : Int) := by rw [qbl (by omega) (by omega)]; omega
  have e2 : IntKind.i64.wrap ((b : Int) - m) = ((b - m : Nat) : Int) := by rw [qbl (by omega) (by omega)]; omega
  simp only [zS, seval, e1, e2]
 ·intro x hi
  obtain ⟨⟨i, j⟩, ys⟩ := x
  obtain ⟨h1, h2, h3, h4, π, hA, hπ⟩ := hi
  simp only at h1 h2 h3 h4 hA hπ
  have hl := hA.len
  have e1 : IntKind.i64.wrap ((m : Int) - i) = ((m - i : Nat) : Int) := by rw [qbl (by omega) (by omega)]; omega
  simp only [zS, seval, e1]
  refine ifC.mk (fun h => ?_) (fun h => ?_)
  ·have h : i ≠ j := by simp at h; omega
   refine ifC.mk (fun h => ?_) (fun h => ?_)
   ·have h : j < i := by simpa using h
    refine qaq ((qf2 Dm hD ys n (m - i) m j fv caps hA.el (by omega) hN (by omega) (by omega) (by omega)).mono fun r s h => ?_)
    obtain ⟨rfl, zs, rfl, hB⟩ := h
    have e2 : IntKind.i64.wrap ((i : Int) - j) = ((i - j : Nat) : Int) := by rw [qbl (by omega) (by omega)]; omega
    simp only [zS, seval, e2]
    refine ⟨((i - j, j), zs), ⟨by simp only; omega, by simp only; omega, by simp only; omega, by simp only; omega, _, hA.trans hB fun p hp => qyx (by omega) (by omega) hp, fun p hp => ?_⟩, by simp only; omega, qbp ?_⟩
    ·simp only
     rw [Qhw m i j p (by omega) (by omega)]; exact hπ p hp
    ·simp only [zS, seval]
   ·have h : ¬ j < i := by simpa using h
    have e2 : IntKind.i64.wrap (IntKind.i64.wrap ((m : Int) + j) - i) = ((m + j - i : Nat) : Int) := by rw [qbl (n := (m : Int) + j) (by omega) (by omega), qbl (by omega) (by omega)]; omega
    simp only [e2]
    refine qaq ((qf2 Dm hD ys n (m - i) (m + j - i) i fv caps hA.el (by omega) hN (by omega) (by omega) (by omega)).mono fun r s h => ?_)
    obtain ⟨rfl, zs, rfl, hB⟩ := h
    have e3 : IntKind.i64.wrap ((j : Int) - i) = ((j - i : Nat) : Int) := by rw [qbl (by omega) (by omega)]; omega
    simp only [zS, seval, e3]
    refine ⟨((i, j - i), zs), ⟨by simp only; omega, by simp only; omega, by simp only; omega, by simp only; omega, _, hA.trans hB fun p hp => qyx (by omega) (by omega) hp, fun p hp => ?_⟩, by simp only; omega, qbp ?_⟩
    ·simp only
     rw [Qcl m i j p (by omega) (by omega)]; exact hπ p hp
    ·simp only [zS, seval]
  ·have h : i = j := by simp at h; omega
   subst h
   refine qaq ((qf2 Dm hD ys n (m - i) m i fv caps hA.el (by omega) hN (by omega) (by omega) (by omega)).mono fun r s h => ?_)
   obtain ⟨rfl, zs, rfl, hB⟩ := h
   refine ⟨trivial, _, _, qcm.refl _ _ _, rfl, zs, rfl, (hA.trans hB fun p hp => qyx (by omega) (by omega) hp).congr fun p hp => ?_⟩
   rw [Qhx a m i p (by omega)]; exact hπ p hp

structure q59 (Gl : qa5) (τ : Sto) (Dm : D → Prop) (cmpF : D → D → Int) (fv : FuncId) (caps : List AV) : Prop where
 el : ∀ x, Dm x → El 3 x
 call : ∀ x y, Dm x → Dm y → ∀ ys s, Ext (.arr 3 ys :: τ) s → qaf Tryz.prog Gl fv ([.d x, .d y] ++ caps) s (fun r s' => r = .d (.int .i64 (cmpF x y)) ∧ s' = s)
 swo : Swo Dm (fun x y => decide (cmpF x y < 0))
structure Qj3 (xs : List D) (lt : D → D → Bool) (i : Nat) (ρ : Nat → Nat) (j : Nat) (κ : Nat → Nat) : Prop where
 le : j ≤ i
 at_ : κ j = ρ i
 left : ∀ p, p < j → κ p = ρ p
 mid : ∀ p, j < p → p ≤ i → κ p = ρ (p - 1)
 right : ∀ p, i < p → κ p = ρ p
 less : ∀ p, j ≤ p → p < i → Lx lt xs (ρ i) (ρ p)
theorem Qab {xs : List D} {lt : D → D → Bool} {i j : Nat} {ρ κ : Nat → Nat} (h : Qj3 xs lt i ρ j κ) (hj : 0 < j) (hl : Lx lt xs (ρ i) (ρ (j - 1))) :
  Qj3 xs lt i ρ (j - 1) (fun p => if p = j - 1 then κ j else if p = j then κ (j - 1) else κ p) := by
 have hle := h.le
 refine ⟨by omega, ?_, fun p hp => ?_, fun p h1 h2 => ?_, fun p hp => ?_, fun p h1 h2 => ?_⟩
 ·simp only [if_true]; exact h.at_
 ·rw [if_neg (by omega), if_neg (by omega)]; exact h.left p (by omega)
 ·rw [if_neg (by omega)]
  by_cases e : p = j
  ·rw [if_pos e, e]; exact h.left _ (by omega)
  ·rw [if_neg e]; exact h.mid p (by omega) h2
 ·rw [if_neg (by omega), if_neg (by omega)]; exact h.right p hp
 ·by_cases e : p = j - 1
  ·rw [e]; exact hl
  ·exact h.less p (by omega) h2
theorem qu5 {Dm : D → Prop} {xs : List D} {lt : D → D → Bool} (hw : Swo Dm lt) (hx : ∀ y ∈ xs, Dm y) {a i j : Nat} {π ρ κ : Nat → Nat} (hi : i < xs.length) (hπ : ∀ p, p < xs.length → π p < xs.length)
  (hM : Mv a i π ρ) (hS : qb0 lt xs a i ρ) (h : Qj3 xs lt i ρ j κ) (haj : a ≤ j) (hl : a < j → Lx lt xs (ρ (j - 1)) (ρ i)) :
  Mv a (i + 1) π κ ∧ qb0 lt xs a (i + 1) κ := by
 have hle := h.le
 have hρ : ∀ p, p < xs.length → ρ p < xs.length := fun p hp => by
  by_cases hq : a ≤ p ∧ p < i
  ·obtain ⟨q, q1, q2, q3⟩ := hM.inn p hq.1 hq.2
   rw [q3]; exact hπ q (by omega)
  ·rw [hM.out p (by omega)]; exact hπ p hp
 have hi' : ρ i = π i := hM.out i (by omega)
 refine ⟨⟨fun p hp => ?_, fun p h1 h2 => ?_⟩, fun p q h1 h2 h3 => ?_⟩
 ·rcases Nat.lt_or_ge p j with hpj | hpj
  ·rw [h.left p hpj]; exact hM.out p (by omega)
  ·rw [h.right p (by omega)]; exact hM.out p (by omega)
 ·rcases Nat.lt_trichotomy p j with hpj | hpj | hpj
  ·rw [h.left p hpj]
   obtain ⟨q, q1, q2, q3⟩ := hM.inn p h1 (by omega)
   exact ⟨q, q1, by omega, q3⟩
  ·subst hpj
   exact ⟨i, by omega, by omega, by rw [h.at_, hi']⟩
  ·rw [h.mid p hpj (by omega)]
   obtain ⟨q, q1, q2, q3⟩ := hM.inn (p - 1) (by omega) (by omega)
   exact ⟨q, q1, by omega, q3⟩
 ·rcases Nat.lt_trichotomy q j with hq | hq | hq
  ·rw [h.left p (by omega), h.left q hq]; exact hS p q h1 h2 (by omega)
  ·subst hq
   rw [h.left p h2, h.at_]
   have hlq := hl (by omega)
   by_cases e : p = q - 1
   ·rw [e]; exact hlq
   ·exact Lx.trans hw hx (hρ p (by omega)) (hρ (q - 1) (by omega)) (hρ i hi) (hS p (q - 1) h1 (by omega) (by omega)) hlq
  ·rw [h.mid q hq (by omega)]
   rcases Nat.lt_trichotomy p j with hp | hp | hp
   ·rw [h.left p hp]; exact hS p (q - 1) h1 (by omega) (by omega)
   ·subst hp
    rw [h.at_]; exact h.less (q - 1) (by omega) (by omega)
   ·rw [h.mid p hp (by omega)]; exact hS (p - 1) (q - 1) (by omega) (by omega) (by omega)
theorem qjx (Dm : D → Prop) (cmpF : D → D → Int) (fv : FuncId) (caps : List AV) (hC : q59 Gl τ Dm cmpF fv caps) (xs ys : List D) (hxs : ∀ y ∈ xs, Dm y) (n a b : Nat) (π : Nat → Nat) (hA : Arr Dm xs ys π) (hπ : ∀ p, p < xs.length → π p < xs.length)
  (hn : n ≤ xs.length) (hN : n < 1000000) (hab : a ≤ b) (hb : b ≤ n) (hr : Qrh a b π) :
  qaf Tryz.prog Gl 189 [.osl 0 0 n, .d (.int .i64 a), .d (.int .i64 b), .fn fv caps] (.arr 3 ys :: τ)
   (fun r s => r = .tup [] ∧ ∃ zs ρ, s = (.arr 3 zs :: τ) ∧ Arr Dm xs zs ρ ∧ Mv a b π ρ ∧ qb0 (fun x y => decide (cmpF x y < 0)) xs a b ρ) := by
 refine qac Tryz.func189 rfl rfl (by simp [Tryz.ntmps189]) (qab rfl _ _ _ _ ?_)
 simp only [Tryz.ntmps189, Tryz.results189, qak, List.length_nil]
 simp only [zS, seval]
 refine qck (τ := Nat × List D) (fun x => [(0, .osl 0 0 n), (1, .d (.int .i64 a)), (2, .d (.int .i64 b)), (3, .fn fv caps), (8, .d (.int .i64 x.1))]) (fun x => (.arr 3 x.2 :: τ))
  (fun x => a + 1 ≤ x.1 ∧ (x.1 ≤ b ∨ x.1 = a + 1) ∧ ∃ ρ, Arr Dm xs x.2 ρ ∧ Mv a (min x.1 b) π ρ ∧ qb0 (fun x y => decide (cmpF x y < 0)) xs a (min x.1 b) ρ) (fun x => b + 1 - x.1) (a + 1, ys)
  ⟨by simp only; omega, .inr rfl, π, hA, Mv.refl _ _ _, fun p q h1 h2 h3 => by simp only at h3; omega⟩ ?_ ?_
 ·refine qbp ?_
  have e1 : IntKind.i64.wrap ((a : Int) + 1) = ((a + 1 : Nat) : Int) := by rw [qbl (by omega) (by omega)]; omega
  simp only [zS, seval, e1]
 ·intro x hi
  obtain ⟨i, us⟩ := x
  obtain ⟨h1, h2, ρ, hU, hM, hS⟩ := hi
  simp only at h1 h2 hU hM hS
  simp only [zS, seval]
  refine ifC.mk (fun h => ?_) (fun h => ?_)
  ·have h : i < b := by simpa using h
   have hmin : min i b = i := by omega
   rw [hmin] at hM hS
   have hlU := hU.len
   refine qck (τ := Nat × List D) (fun x => [(0, .osl 0 0 n), (1, .d (.int .i64 a)), (2, .d (.int .i64 b)), (3, .fn fv caps), (8, .d (.int .i64 i)), (9, .d (.int .i64 x.1))]) (fun x => (.arr 3 x.2 :: τ))
    (fun x => a ≤ x.1 ∧ ∃ κ, Arr Dm xs x.2 κ ∧ Qj3 xs (fun x y => decide (cmpF x y < 0)) i ρ x.1 κ) (fun x => x.1) (i, us)
    ⟨by simp only; omega, ρ, hU, Nat.le_refl _, rfl, fun _ _ => rfl, fun p q1 q2 => by omega, fun _ _ => rfl, fun p q1 q2 => by omega⟩ ?_ ?_
   ·refine qbp ?_
    simp only [zS, seval]
   ·intro y hi
    obtain ⟨j, vs⟩ := y
    obtain ⟨k1, κ, hV, hK⟩ := hi
    simp only at k1 hV hK
    have hlV := hV.len
    have k2 := hK.le
    have l1 := El.at hC.el hV.el (i := j) (by omega)
    have c1 : (j : Int) < (n : Int) := by omega
    have c3 : j < vs.length := by omega
    by_cases haj : a < j
    ·have haj' : (a : Int) < (j : Int) := by omega
     have e1 : IntKind.i64.wrap ((j : Int) - 1) = ((j - 1 : Nat) : Int) := by rw [qbl (by omega) (by omega)]; omega
     have l2 := El.at hC.el hV.el (i := j - 1) (by omega)
     have c2 : ((j - 1 : Nat) : Int) < (n : Int) := by omega
     have c4 : j - 1 < vs.length := by omega
     simp only [zS, seval, e1, l1, l2, c1, c2, c3, c4, haj']
     refine ⟨.inl (by kernel_rfl), q32 (v := .d (.int .i64 (cmpF (vs.getD j default) (vs.getD (j - 1) default)))) (fun _ s hs => hC.call _ _ (hV.at (by omega)) (hV.at (by omega)) _ s hs) ?_⟩
     have g1 : vs.getD j default = xs.getD (ρ i) default := by rw [hV.get j (by omega), hK.at_]
     have g2 : vs.getD (j - 1) default = xs.getD (ρ (j - 1)) default := by rw [hV.get (j - 1) (by omega), hK.left (j - 1) (by omega)]
     simp only [zS, seval, e1, l1, l2, c1, c2, c3, c4, haj']
     refine ifC.mk (fun hc => ?_) (fun hc => ?_)
     ·have e2 : IntKind.i64.wrap ((j : Int) - 1) = ((j - 1 : Nat) : Int) := e1
      refine ⟨.inl (by kernel_rfl), (j - 1, _), ⟨by simp only; omega, _, hV.swap (i := j) (j := j - 1) (by omega) (by omega), Qab hK (by omega) (.inl ?_)⟩, by simp only; omega, qbp ?_⟩
      ·simp only
       rw [← g1, ← g2]; exact hc
      ·simp only [zS, seval, e1]
     ·have hc : ¬ cmpF (vs.getD j default) (vs.getD (j - 1) default) < 0 := by simpa using hc
      have e3 : IntKind.i64.wrap ((i : Int) + 1) = ((i + 1 : Nat) : Int) := by rw [qbl (by omega) (by omega)]; omega
      obtain ⟨d1, d2⟩ := qu5 hC.swo hxs (by omega) hπ hM hS hK k1 (fun _ => by
       obtain ⟨q, q1, q2, q3⟩ := hM.inn (j - 1) (by omega) (by omega)
       refine (Lx.tag' ?_).2 (.inl ?_)
       ·rw [q3, hM.out i (by omega)]; exact hr q i q1 q2 h
       ·rw [← g1, ← g2]; simpa using hc)
      refine ⟨(i + 1, vs), ⟨by simp only; omega, .inl (by simp only; omega), κ, hV, ?_, ?_⟩, by simp only; omega, qbp ?_⟩
      ·simp only; rw [show min (i + 1) b = i + 1 from by omega]; exact d1
      ·simp only; rw [show min (i + 1) b = i + 1 from by omega]; exact d2
      ·simp only [zS, seval, e3]
    ·have haj' : ¬ (a : Int) < (j : Int) := by omega
     simp only [zS, seval, l1, c1, c3, haj']
     refine ⟨.inl (by kernel_rfl), q32 (v := .d (.int .i64 0)) (fun hg => by cases hg) ?_⟩
     have e3 : IntKind.i64.wrap ((i : Int) + 1) = ((i + 1 : Nat) : Int) := by rw [qbl (by omega) (by omega)]; omega
     simp only [zS, seval, l1, c1, c3, haj']
     obtain ⟨d1, d2⟩ := qu5 hC.swo hxs (by omega) hπ hM hS hK k1 (fun hh => absurd hh haj)
     refine ⟨(i + 1, vs), ⟨by simp only; omega, .inl (by simp only; omega), κ, hV, ?_, ?_⟩, by simp only; omega, qbp ?_⟩
     ·simp only; rw [show min (i + 1) b = i + 1 from by omega]; exact d1
     ·simp only; rw [show min (i + 1) b = i + 1 from by omega]; exact d2
     ·simp only [zS, seval, e3]
  ·have h : ¬ i < b := by simpa using h
   have hmin : min i b = b := by omega
   rw [hmin] at hM hS
   exact ⟨_, _, qcm.refl _ _ _, rfl, us, ρ, rfl, hU, hM, hS⟩

theorem Qok (x : Int) : qjw .shr .u64 x 1 = .int .u64 (x.fdiv 2) := by
 simp [qjw, IntKind.bits]
theorem q0g (x : Nat) (h : x < 1000000000) : IntKind.u64.wrap (x : Int) = x := by
 rw [IntKind.wrap_u64]; omega
theorem half (x : Nat) (h : x < 1000000000) : ((x : Int).fdiv 2) = ((x / 2 : Nat) : Int) := by
 rw [Int.fdiv_eq_ediv_of_nonneg _ (by omega)]; omega
theorem qta (x : Nat) (h : x < 1000000000) : IntKind.i64.wrap (x : Int) = x := qbl (by omega) (by omega)
def q91 (τ : Sto) (Dm : D → Prop) (cmpF : D → D → Int) (xs : List D) (a b : Nat) (π : Nat → Nat) (r : AV) (s : Sto) : Prop :=
 r = .tup [] ∧ ∃ zs ρ, s = (.arr 3 zs :: τ) ∧ Arr Dm xs zs ρ ∧ Mv a b π ρ ∧ qb0 (fun x y => decide (cmpF x y < 0)) xs a b ρ
theorem Qam (Dm : D → Prop) (cmpF : D → D → Int) (fv : FuncId) (caps : List AV) (hC : q59 Gl τ Dm cmpF fv caps) (xs : List D) (hxs : ∀ y ∈ xs, Dm y) (n : Nat) (hn : n ≤ xs.length) (hN : n < 1000000)
  (a m b : Nat) (ys : List D) (π : Nat → Nat) (hA : Arr Dm xs ys π) (hπ : ∀ p, p < xs.length → π p < xs.length) (ham : a < m) (hmb : m < b) (hbn : b ≤ n) (hS1 : qb0 (fun x y => decide (cmpF x y < 0)) xs a m π) (hS2 : qb0 (fun x y => decide (cmpF x y < 0)) xs m b π) (hT : Qmi a m b π)
  (hbase : m = a + 1 ∨ b = m + 1) :
  qaf Tryz.prog Gl 190 [.osl 0 0 n, .d (.int .i64 a), .d (.int .i64 m), .d (.int .i64 b), .fn fv caps] (.arr 3 ys :: τ) (q91 τ Dm cmpF xs a b π) := by
 refine qac Tryz.func190 rfl rfl (by simp [Tryz.ntmps190]) (qab rfl _ _ _ _ ?_)
 simp only [Tryz.ntmps190, Tryz.results190, qak, List.length_nil]
 have hlY := hA.len
 have e1 : IntKind.i64.wrap ((m : Int) - a) = ((m - a : Nat) : Int) := by rw [qbl (by omega) (by omega)]; omega
 have e2 : IntKind.i64.wrap ((b : Int) - m) = ((b - m : Nat) : Int) := by rw [qbl (by omega) (by omega)]; omega
 by_cases hc1 : m = a + 1
 ·have e3 : (((m - a : Nat) : Int) == 1) = true := by simp; omega
  simp only [zS, seval, e1, e3]
  have ha1 : (ys.getD a default) = xs.getD (π a) default := hA.get a (by omega)
  have la := El.at hC.el hA.el (i := a) (by omega)
  refine qck (τ := Nat × Nat) (fun x => [(0, .osl 0 0 n), (1, .d (.int .i64 a)), (2, .d (.int .i64 m)), (3, .d (.int .i64 b)), (4, .fn fv caps), (10, .d (.int .i64 x.1)), (11, .d (.int .i64 x.2))]) (fun x => (.arr 3 ys :: τ))
   (fun x => m ≤ x.1 ∧ x.1 ≤ x.2 ∧ x.2 ≤ b ∧ (∀ q, m ≤ q → q < x.1 → Lx (fun x y => decide (cmpF x y < 0)) xs (π q) (π a)) ∧ (∀ q, x.2 ≤ q → q < b → Lx (fun x y => decide (cmpF x y < 0)) xs (π a) (π q))) (fun x => x.2 - x.1) (m, b)
   ⟨Nat.le_refl _, by simp only; omega, Nat.le_refl _, fun q q1 q2 => by simp only at q2; omega, fun q q1 q2 => by simp only at q1; omega⟩ ?_ ?_
  ·refine qbp ?_
   simp only [zS, seval]
  ·intro x hi
   obtain ⟨i, j⟩ := x
   obtain ⟨h1, h2, h3, h4, h5⟩ := hi
   simp only at h1 h2 h3 h4 h5
   simp only [zS, seval]
   refine ifC.mk (fun h => ?_) (fun h => ?_)
   ·have h : i < j := by simpa using h
    have g1 : IntKind.i64.wrap ((i : Int) + j) = ((i + j : Nat) : Int) := by rw [qbl (by omega) (by omega)]; omega
    have g2 : IntKind.u64.wrap ((i + j : Nat) : Int) = ((i + j : Nat) : Int) := q0g _ (by omega)
    have g3 : ((i + j : Nat) : Int).fdiv 2 = (((i + j) / 2 : Nat) : Int) := half _ (by omega)
    have g4 : IntKind.i64.wrap (((i + j) / 2 : Nat) : Int) = (((i + j) / 2 : Nat) : Int) := qta _ (by omega)
    have hh : ∃ h, h = (i + j) / 2 ∧ i ≤ h ∧ h < j := ⟨_, rfl, by omega, by omega⟩
    obtain ⟨h', e5, e6, e7⟩ := hh
    rw [← e5] at g3 g4
    have lh := El.at hC.el hA.el (i := h') (by omega)
    have c1 : (h' : Int) < (n : Int) := by omega
    have c2 : (a : Int) < (n : Int) := by omega
    have c3 : h' < ys.length := by omega
    have c4 : a < ys.length := by omega
    simp only [zS, seval, g1, g2, g3, g4, Qok, la, lh, c1, c2, c3, c4]
    refine ⟨.inl (by kernel_rfl), qgu (v := .d (.int .i64 (cmpF (ys.getD h' default) (ys.getD a default)))) (fun s hs => hC.call _ _ (hA.at (by omega)) (hA.at (by omega)) _ s hs) ?_⟩
    have f1 : ys.getD h' default = xs.getD (π h') default := hA.get h' (by omega)
    have ht : π a < π h' := hT a h' (Nat.le_refl _) (by omega) (by omega) (by omega)
    simp only [zS, seval]
    refine ifC.mk (fun hc => ?_) (fun hc => ?_)
    ·have hL : Lx (fun x y => decide (cmpF x y < 0)) xs (π h') (π a) := (Lx.tag ht).2 (by rw [← f1, ← ha1]; exact hc)
     have g5 : IntKind.i64.wrap ((h' : Int) + 1) = ((h' + 1 : Nat) : Int) := by rw [qbl (by omega) (by omega)]; omega
     simp only [zS, seval, g5]
     refine ⟨(h' + 1, j), ⟨by simp only; omega, by simp only; omega, h3, q26 hC.swo hxs hπ (by omega) (hπ _ (by omega)) hS2 (by omega) (by omega) hL, h5⟩, by simp only; omega, qbp ?_⟩
     simp only [zS, seval]
    ·have hL : Lx (fun x y => decide (cmpF x y < 0)) xs (π a) (π h') := (Lx.tag' ht).2 (.inl (by rw [← f1, ← ha1]; exact hc))
     refine ⟨(i, h'), ⟨h1, by simp only; omega, by simp only; omega, h4, Qdx hC.swo hxs hπ (by omega) (hπ _ (by omega)) hS2 (by omega) (by omega) hL⟩, by simp only; omega, qbp ?_⟩
     simp only [zS, seval]
   ·have h : ¬ i < j := by simpa using h
    have hij : i = j := by omega
    subst hij
    refine qck (τ := Nat × List D) (fun x => [(0, .osl 0 0 n), (10, .d (.int .i64 i)), (13, .d (.int .i64 x.1))]) (fun x => (.arr 3 x.2 :: τ))
     (fun x => a ≤ x.1 ∧ x.1 ≤ i - 1 ∧ ∃ κ, Arr Dm xs x.2 κ ∧ (∀ p, a ≤ p → p < x.1 → κ p = π (p + 1)) ∧ κ x.1 = π a ∧ (∀ p, p < a ∨ x.1 < p → κ p = π p)) (fun x => i - x.1) (a, ys)
     ⟨Nat.le_refl _, by simp only; omega, π, hA, fun p q1 q2 => by simp only at q2; omega, rfl, fun p _ => rfl⟩ ?_ ?_
    ·refine qbp ?_
     simp only [zS, seval]
    ·intro x hi
     obtain ⟨k, zs⟩ := x
     obtain ⟨k1, k2, κ, hZ, q1, q2, q3⟩ := hi
     simp only at k1 k2 hZ q1 q2 q3
     have hlZ := hZ.len
     have g6 : IntKind.i64.wrap ((i : Int) - 1) = ((i - 1 : Nat) : Int) := by rw [qbl (by omega) (by omega)]; omega
     simp only [zS, seval, g6]
     refine ifC.mk (fun h => ?_) (fun h => ?_)
     ·have h : k < i - 1 := by simp at h; omega
      have g7 : IntKind.i64.wrap ((k : Int) + 1) = ((k + 1 : Nat) : Int) := by rw [qbl (by omega) (by omega)]; omega
      have l1 := El.at hC.el hZ.el (i := k) (by omega)
      have l2 := El.at hC.el hZ.el (i := k + 1) (by omega)
      have c1 : (k : Int) < (n : Int) := by omega
      have c2 : ((k + 1 : Nat) : Int) < (n : Int) := by omega
      have c3 : k < zs.length := by omega
      have c4 : k + 1 < zs.length := by omega
      simp only [zS, seval, g7, l1, l2, c1, c2, c3, c4]
      refine ⟨.inl (by kernel_rfl), (k + 1, _), ⟨by simp only; omega, by simp only; omega, _, hZ.swap (i := k) (j := k + 1) (by omega) (by omega), fun p p1 p2 => ?_, ?_, fun p hp => ?_⟩, by simp only; omega, qbp ?_⟩
      ·simp only at p2
       rw [if_neg (by omega)]
       by_cases e : p = k
       ·rw [if_pos e, e]; exact q3 _ (by omega)
       ·rw [if_neg e]; exact q1 p p1 (by omega)
      ·simp only [if_true]; exact q2
      ·simp only at hp
       rw [if_neg (by omega), if_neg (by omega)]; exact q3 p (by omega)
      ·simp only [zS, seval, g7]
     ·have h : ¬ k < i - 1 := by simp at h; omega
      have hk : k = i - 1 := by omega
      subst hk
      obtain ⟨d1, d2⟩ := que (by omega) h1 h3 hS2 h4 h5 q1 q2 (fun p hp => q3 p (by omega))
      exact ⟨_, _, qcm.refl _ _ _, rfl, zs, κ, rfl, hZ, d1, d2⟩
 ·have e3 : (((m - a : Nat) : Int) == 1) = false := by simp; omega
  by_cases hc2 : b = m + 1
  ·have e4 : (((b - m : Nat) : Int) == 1) = true := by simp; omega
   simp only [zS, seval, e1, e2, e3, e4]
   have hm1 : (ys.getD m default) = xs.getD (π m) default := hA.get m (by omega)
   have lm := El.at hC.el hA.el (i := m) (by omega)
   refine qck (τ := Nat × Nat) (fun x => [(0, .osl 0 0 n), (1, .d (.int .i64 a)), (2, .d (.int .i64 m)), (3, .d (.int .i64 b)), (4, .fn fv caps), (14, .d (.int .i64 x.1)), (15, .d (.int .i64 x.2))]) (fun x => (.arr 3 ys :: τ))
    (fun x => a ≤ x.1 ∧ x.1 ≤ x.2 ∧ x.2 ≤ m ∧ (∀ q, a ≤ q → q < x.1 → Lx (fun x y => decide (cmpF x y < 0)) xs (π q) (π m)) ∧ (∀ q, x.2 ≤ q → q < m → Lx (fun x y => decide (cmpF x y < 0)) xs (π m) (π q))) (fun x => x.2 - x.1) (a, m)
    ⟨Nat.le_refl _, by simp only; omega, Nat.le_refl _, fun q q1 q2 => by simp only at q2; omega, fun q q1 q2 => by simp only at q1; omega⟩ ?_ ?_
   ·refine qbp ?_
    simp only [zS, seval]
   ·intro x hi
    obtain ⟨i, j⟩ := x
    obtain ⟨h1, h2, h3, h4, h5⟩ := hi
    simp only at h1 h2 h3 h4 h5
    simp only [zS, seval]
    refine ifC.mk (fun h => ?_) (fun h => ?_)
    ·have h : i < j := by simpa using h
     have g1 : IntKind.i64.wrap ((i : Int) + j) = ((i + j : Nat) : Int) := by rw [qbl (by omega) (by omega)]; omega
     have g2 : IntKind.u64.wrap ((i + j : Nat) : Int) = ((i + j : Nat) : Int) := q0g _ (by omega)
     have g3 : ((i + j : Nat) : Int).fdiv 2 = (((i + j) / 2 : Nat) : Int) := half _ (by omega)
     have g4 : IntKind.i64.wrap (((i + j) / 2 : Nat) : Int) = (((i + j) / 2 : Nat) : Int) := qta _ (by omega)
     have hh : ∃ h, h = (i + j) / 2 ∧ i ≤ h ∧ h < j := ⟨_, rfl, by omega, by omega⟩
     obtain ⟨h', e5, e6, e7⟩ := hh
     rw [← e5] at g3 g4
     have lh := El.at hC.el hA.el (i := h') (by omega)
     have c1 : (h' : Int) < (n : Int) := by omega
     have c2 : (m : Int) < (n : Int) := by omega
     have c3 : h' < ys.length := by omega
     have c4 : m < ys.length := by omega
     simp only [zS, seval, g1, g2, g3, g4, Qok, lm, lh, c1, c2, c3, c4]
     refine ⟨.inl (by kernel_rfl), qgu (v := .d (.int .i64 (cmpF (ys.getD m default) (ys.getD h' default)))) (fun s hs => hC.call _ _ (hA.at (by omega)) (hA.at (by omega)) _ s hs) ?_⟩
     have f1 : ys.getD h' default = xs.getD (π h') default := hA.get h' (by omega)
     have ht : π h' < π m := hT h' m (by omega) (by omega) (Nat.le_refl _) (by omega)
     simp only [zS, seval]
     refine ifC.mk (fun hc => ?_) (fun hc => ?_)
     ·have hL : Lx (fun x y => decide (cmpF x y < 0)) xs (π h') (π m) := (Lx.tag' ht).2 (.inl (by rw [← f1, ← hm1]; simpa using hc))
      have g5 : IntKind.i64.wrap ((h' : Int) + 1) = ((h' + 1 : Nat) : Int) := by rw [qbl (by omega) (by omega)]; omega
      simp only [zS, seval, g5]
      refine ⟨(h' + 1, j), ⟨by simp only; omega, by simp only; omega, h3, q26 hC.swo hxs hπ (by omega) (hπ _ (by omega)) hS1 (by omega) (by omega) hL, h5⟩, by simp only; omega, qbp ?_⟩
      simp only [zS, seval]
     ·have hL : Lx (fun x y => decide (cmpF x y < 0)) xs (π m) (π h') := (Lx.tag ht).2 (by rw [← f1, ← hm1]; simpa using hc)
      refine ⟨(i, h'), ⟨h1, by simp only; omega, by simp only; omega, h4, Qdx hC.swo hxs hπ (by omega) (hπ _ (by omega)) hS1 (by omega) (by omega) hL⟩, by simp only; omega, qbp ?_⟩
      simp only [zS, seval]
    ·have h : ¬ i < j := by simpa using h
     have hij : i = j := by omega
     subst hij
     refine qck (τ := Nat × List D) (fun x => [(0, .osl 0 0 n), (14, .d (.int .i64 i)), (17, .d (.int .i64 x.1))]) (fun x => (.arr 3 x.2 :: τ))
      (fun x => i ≤ x.1 ∧ x.1 ≤ m ∧ ∃ κ, Arr Dm xs x.2 κ ∧ (∀ p, x.1 < p → p ≤ m → κ p = π (p - 1)) ∧ κ x.1 = π m ∧ (∀ p, p < x.1 ∨ m < p → κ p = π p)) (fun x => x.1) (m, ys)
      ⟨by simp only; omega, Nat.le_refl _, π, hA, fun p q1 q2 => by simp only at q1; omega, rfl, fun p _ => rfl⟩ ?_ ?_
     ·refine qbp ?_
      simp only [zS, seval]
     ·intro x hi
      obtain ⟨k, zs⟩ := x
      obtain ⟨k1, k2, κ, hZ, q1, q2, q3⟩ := hi
      simp only at k1 k2 hZ q1 q2 q3
      have hlZ := hZ.len
      simp only [zS, seval]
      refine ifC.mk (fun h => ?_) (fun h => ?_)
      ·have h : i < k := by simp at h; omega
       have g7 : IntKind.i64.wrap ((k : Int) - 1) = ((k - 1 : Nat) : Int) := by rw [qbl (by omega) (by omega)]; omega
       have l1 := El.at hC.el hZ.el (i := k) (by omega)
       have l2 := El.at hC.el hZ.el (i := k - 1) (by omega)
       have c1 : (k : Int) < (n : Int) := by omega
       have c2 : ((k - 1 : Nat) : Int) < (n : Int) := by omega
       have c3 : k < zs.length := by omega
       have c4 : k - 1 < zs.length := by omega
       simp only [zS, seval, g7, l1, l2, c1, c2, c3, c4]
       refine ⟨.inl (by kernel_rfl), (k - 1, _), ⟨by simp only; omega, by simp only; omega, _, hZ.swap (i := k) (j := k - 1) (by omega) (by omega), fun p p1 p2 => ?_, ?_, fun p hp => ?_⟩, by simp only; omega, qbp ?_⟩
       ·simp only at p1
        rw [if_neg (by omega)]
        by_cases e : p = k
        ·rw [if_pos e, e]; exact q3 _ (by omega)
        ·rw [if_neg e]; exact q1 p (by omega) p2
       ·simp only [if_true]; exact q2
       ·simp only at hp
        rw [if_neg (by omega), if_neg (by omega)]; exact q3 p (by omega)
       ·simp only [zS, seval, g7]
      ·have h : ¬ i < k := by simp at h; omega
       have hk : k = i := by omega
       subst hk
       obtain ⟨d1, d2⟩ := qsu hc2 h1 h3 hS1 h4 h5 q1 q2 q3
       exact ⟨_, _, qcm.refl _ _ _, rfl, zs, κ, rfl, hZ, d1, d2⟩
  ·omega

set_option maxHeartbeats 4000000 in
set_option maxRecDepth 10000 in
theorem Qdz (Dm : D → Prop) (cmpF : D → D → Int) (fv : FuncId) (caps : List AV) (hC : q59 Gl τ Dm cmpF fv caps) (xs : List D) (hxs : ∀ y ∈ xs, Dm y) (n : Nat) (hn : n ≤ xs.length) (hN : n < 1000000)
  (a m b : Nat) (ys : List D) (π : Nat → Nat) (hA : Arr Dm xs ys π) (hπ : ∀ p, p < xs.length → π p < xs.length) (ham : a < m) (hmb : m < b) (hbn : b ≤ n) (hS1 : qb0 (fun x y => decide (cmpF x y < 0)) xs a m π) (hS2 : qb0 (fun x y => decide (cmpF x y < 0)) xs m b π) (hT : Qmi a m b π)
  (hc1 : ¬ m = a + 1) (hc2 : ¬ b = m + 1)
  (ih : ∀ (a' m' b' : Nat) (ys : List D) (π : Nat → Nat), b' - a' < b - a → Arr Dm xs ys π → (∀ p, p < xs.length → π p < xs.length) → a' < m' → m' < b' → b' ≤ n → qb0 (fun x y => decide (cmpF x y < 0)) xs a' m' π → qb0 (fun x y => decide (cmpF x y < 0)) xs m' b' π → Qmi a' m' b' π →
   qaf Tryz.prog Gl 190 [.osl 0 0 n, .d (.int .i64 a'), .d (.int .i64 m'), .d (.int .i64 b'), .fn fv caps] (.arr 3 ys :: τ) (q91 τ Dm cmpF xs a' b' π)) :
  qaf Tryz.prog Gl 190 [.osl 0 0 n, .d (.int .i64 a), .d (.int .i64 m), .d (.int .i64 b), .fn fv caps] (.arr 3 ys :: τ) (q91 τ Dm cmpF xs a b π) := by
 refine qac Tryz.func190 rfl rfl (by simp [Tryz.ntmps190]) (qab rfl _ _ _ _ ?_)
 simp only [Tryz.ntmps190, Tryz.results190, qak, List.length_nil]
 have hlY := hA.len
 have e1 : IntKind.i64.wrap ((m : Int) - a) = ((m - a : Nat) : Int) := by rw [qbl (by omega) (by omega)]; omega
 have e2 : IntKind.i64.wrap ((b : Int) - m) = ((b - m : Nat) : Int) := by rw [qbl (by omega) (by omega)]; omega
 have e3 : (((m - a : Nat) : Int) == 1) = false := by simp; omega
 have e4 : (((b - m : Nat) : Int) == 1) = false := by simp; omega
 have g1 : IntKind.i64.wrap ((a : Int) + b) = ((a + b : Nat) : Int) := by rw [qbl (by omega) (by omega)]; omega
 have g2 : IntKind.u64.wrap ((a + b : Nat) : Int) = ((a + b : Nat) : Int) := q0g _ (by omega)
 have g3 : ((a + b : Nat) : Int).fdiv 2 = (((a + b) / 2 : Nat) : Int) := half _ (by omega)
 have g4 : IntKind.i64.wrap (((a + b) / 2 : Nat) : Int) = (((a + b) / 2 : Nat) : Int) := qta _ (by omega)
 obtain ⟨d, e5, e6, e7⟩ : ∃ d, d = (a + b) / 2 ∧ a < d ∧ d < b := ⟨_, rfl, by omega, by omega⟩
 rw [← e5] at g3 g4
 have g5 : IntKind.i64.wrap ((d : Int) + m) = ((d + m : Nat) : Int) := by rw [qbl (by omega) (by omega)]; omega
 have g6 : IntKind.i64.wrap (((d + m : Nat) : Int) - 1) = ((d + m - 1 : Nat) : Int) := by rw [qbl (by omega) (by omega)]; omega
 obtain ⟨s0, r0, key⟩ : ∃ s0 r0 : Nat, (d < m ∧ s0 = d + m - b ∧ r0 = d) ∨ (m ≤ d ∧ s0 = a ∧ r0 = m) := by
  by_cases c : d < m
  ·exact ⟨_, _, .inl ⟨c, rfl, rfl⟩⟩
  ·exact ⟨_, _, .inr ⟨by omega, rfl, rfl⟩⟩
 have c0 : ((d : Int) < m) ∨ ¬ ((d : Int) < m) := by omega
 rcases key with ⟨k1, k2, k3⟩ | ⟨k1, k2, k3⟩
 ·have c0 : ((d : Int) < m) := by omega
  have g7 : IntKind.i64.wrap (((d + m : Nat) : Int) - b) = ((s0 : Nat) : Int) := by rw [qbl (by omega) (by omega)]; omega
  simp only [zS, seval, e1, e2, e3, e4, g1, g2, g3, g4, g5, g6, g7, Qok, c0]
  refine qck (τ := Nat × Nat) (fun x => [(0, .osl 0 0 n), (1, .d (.int .i64 a)), (2, .d (.int .i64 m)), (3, .d (.int .i64 b)), (4, .fn fv caps), (18, .d (.int .i64 d)), (19, .d (.int .i64 (d + m : Nat))), (20, .d (.int .i64 x.1)), (21, .d (.int .i64 x.2)), (22, .d (.int .i64 (d + m - 1 : Nat)))]) (fun x => (.arr 3 ys :: τ))
   (fun x => s0 ≤ x.1 ∧ x.1 ≤ x.2 ∧ x.2 ≤ r0 ∧ (s0 < x.1 → Lx (fun x y => decide (cmpF x y < 0)) xs (π (x.1 - 1)) (π (d + m - 1 - (x.1 - 1)))) ∧ (x.2 < r0 → Lx (fun x y => decide (cmpF x y < 0)) xs (π (d + m - 1 - x.2)) (π x.2))) (fun x => x.2 - x.1) (s0, r0)
   ⟨Nat.le_refl _, by simp only; omega, Nat.le_refl _, fun h => by simp only at h; omega, fun h => by simp only at h; omega⟩ ?_ ?_
  ·refine qbp ?_
   simp only [zS, seval, k2, k3]
  ·intro x hi
   obtain ⟨s, r⟩ := x
   obtain ⟨h1, h2, h3, h4, h5⟩ := hi
   simp only at h1 h2 h3 h4 h5
   by_cases hsr : s < r
   ·have q0 : ((s : Int) < r) := by omega
    have q1 : IntKind.i64.wrap ((s : Int) + r) = ((s + r : Nat) : Int) := by rw [qbl (by omega) (by omega)]; omega
    have q2 : IntKind.u64.wrap ((s + r : Nat) : Int) = ((s + r : Nat) : Int) := q0g _ (by omega)
    have q3 : ((s + r : Nat) : Int).fdiv 2 = (((s + r) / 2 : Nat) : Int) := half _ (by omega)
    have q4 : IntKind.i64.wrap (((s + r) / 2 : Nat) : Int) = (((s + r) / 2 : Nat) : Int) := qta _ (by omega)
    obtain ⟨c, e8, e9, e10⟩ : ∃ c, c = (s + r) / 2 ∧ s ≤ c ∧ c < r := ⟨_, rfl, by omega, by omega⟩
    rw [← e8] at q3 q4
    have q5 : IntKind.i64.wrap (((d + m - 1 : Nat) : Int) - c) = ((d + m - 1 - c : Nat) : Int) := by rw [qbl (by omega) (by omega)]; omega
    have lc := El.at hC.el hA.el (i := c) (by omega)
    have lp := El.at hC.el hA.el (i := d + m - 1 - c) (by omega)
    have c1 : (c : Int) < (n : Int) := by omega
    have c2 : ((d + m - 1 - c : Nat) : Int) < (n : Int) := by omega
    have c3 : c < ys.length := by omega
    have c4 : d + m - 1 - c < ys.length := by omega
    simp only [zS, seval, q0, q1, q2, q3, q4, q5, Qok, lc, lp, c1, c2, c3, c4]
    refine ⟨.inl (by kernel_rfl), qgu (v := .d (.int .i64 (cmpF (ys.getD (d + m - 1 - c) default) (ys.getD c default)))) (fun s hs => hC.call _ _ (hA.at (by omega)) (hA.at (by omega)) _ s hs) ?_⟩
    have f1 : ys.getD c default = xs.getD (π c) default := hA.get c (by omega)
    have f2 : ys.getD (d + m - 1 - c) default = xs.getD (π (d + m - 1 - c)) default := hA.get _ (by omega)
    have ht : π c < π (d + m - 1 - c) := hT _ _ (by omega) (by omega) (by omega) (by omega)
    simp only [zS, seval]
    refine ifC.mk (fun hc => ?_) (fun hc => ?_)
    ·have hL : Lx (fun x y => decide (cmpF x y < 0)) xs (π c) (π (d + m - 1 - c)) := (Lx.tag' ht).2 (.inl (by rw [← f1, ← f2]; simpa using hc))
     have q6 : IntKind.i64.wrap ((c : Int) + 1) = ((c + 1 : Nat) : Int) := by rw [qbl (by omega) (by omega)]; omega
     simp only [zS, seval, q6]
     refine ⟨(c + 1, r), ⟨by simp only; omega, by simp only; omega, h3, fun _ => by simp only; exact hL, h5⟩, by simp only; omega, qbp ?_⟩
     simp only [zS, seval]
    ·have hL : Lx (fun x y => decide (cmpF x y < 0)) xs (π (d + m - 1 - c)) (π c) := (Lx.tag ht).2 (by rw [← f1, ← f2]; simpa using hc)
     refine ⟨(s, c), ⟨h1, by simp only; omega, by simp only; omega, h4, fun _ => hL⟩, by simp only; omega, qbp ?_⟩
     simp only [zS, seval]
   ·have hs : s = r := by omega
    subst hs
    have q0 : ¬ ((s : Int) < s) := by omega
    have q1 : IntKind.i64.wrap (((d + m : Nat) : Int) - s) = ((d + m - s : Nat) : Int) := by rw [qbl (by omega) (by omega)]; omega
    obtain ⟨e, he⟩ : ∃ e, e = d + m - s := ⟨_, rfl⟩
    rw [← he] at q1
    obtain ⟨F1, F2⟩ := qsv (p := d + m - 1) (s := s) (s0 := s0) (r0 := r0) (e := e) hC.swo hxs hπ (by omega) hS1 hS2 (by omega) h1 h3 (by omega) (by omega) (by omega) (by omega) (by omega) (by omega) (by omega) h4 h5 (by omega) (by omega)
    obtain ⟨ρ, hρ⟩ : ∃ ρ : Nat → Nat, ρ = fun p => π (qm8 s m e p) := ⟨_, rfl⟩
    obtain ⟨t1, t2, t3, t4, t5, t6, t7, t8⟩ := qxs (ρ := ρ) (s := s) (e := e) (d := d) (by omega) (by omega) (by omega) (by omega) (by omega) hS1 hS2 hT F1 F2 (fun p _ _ => by rw [hρ]) (fun p hp => by rw [hρ]; show π (qm8 s m e p) = π p; congr 1; unfold qm8; rw [if_pos (by omega)])
    by_cases hrot : s < m ∧ m < e
    ·have c1 : ((s : Int) < m) := by omega
     have c2 : ((m : Int) < e) := by omega
     simp only [zS, seval, q0, q1, c1, c2]
     refine qaq ((qqh Dm hC.el ys n s m e fv caps hA.el (by omega) hN hrot.1 hrot.2 (by omega)).mono fun r' s' h => ?_)
     obtain ⟨rfl, zs, rfl, hB⟩ := h
     have hZ : Arr Dm xs zs ρ := by rw [hρ]; exact hA.trans hB fun p hp => Qcm (by omega) (by omega) (by omega) hp
     have hρπ := t1.bound (by omega) hπ
     simp only [zS, seval]
     by_cases hm1 : a < s ∧ s < d
     ·have c1 : ((a : Int) < s) := by omega
      have c2 : ((s : Int) < d) := by omega
      simp only [zS, seval, c1, c2]
      refine qaq ((ih a s d zs ρ (by omega) hZ hρπ hm1.1 hm1.2 (by omega) t2 t3 t6).mono fun r s' h => ?_)
      obtain ⟨rfl, ws, κ1, rfl, hW, m1, s1⟩ := h
      have hκ1 := m1.bound (by omega) hρπ
      simp only [zS, seval]
      by_cases hm2 : d < e ∧ e < b
      ·have c3 : ((d : Int) < e) := by omega
       have c4 : ((e : Int) < b) := by omega
       simp only [zS, seval, c3, c4]
       refine qaq ((ih d e b ws κ1 (by omega) hW hκ1 hm2.1 hm2.2 hbn (fun p q q1 q2 q3 => by rw [m1.out p (by omega), m1.out q (by omega)]; exact t4 p q q1 q2 q3) (fun p q q1 q2 q3 => by rw [m1.out p (by omega), m1.out q (by omega)]; exact t5 p q q1 q2 q3) (fun p q q1 q2 q3 q4 => by rw [m1.out p (by omega), m1.out q (by omega)]; exact t7 p q q1 q2 q3 q4)).mono fun r s' h => ?_)
       obtain ⟨rfl, vs, κ2, rfl, hV, m2, s2⟩ := h
       obtain ⟨f1, f2⟩ := qcd (by omega) (by omega) t1 m1 s1 m2 s2 t8
       simp only [zS, seval]
       exact ⟨_, _, qcm.refl _ _ _, rfl, vs, κ2, rfl, hV, f1, f2⟩
      ·have c3 : (decide ((d : Int) < e) && decide ((e : Int) < b)) = false := by
        simp only [Bool.and_eq_false_iff, decide_eq_false_iff_not]
        omega
       have s2 : qb0 (fun x y => decide (cmpF x y < 0)) xs d b κ1 := fun p q q1 q2 q3 => by
        rw [m1.out p (by omega), m1.out q (by omega)]
        by_cases he : e = d
        ·exact t5 p q (by omega) q2 q3
        ·exact t4 p q q1 q2 (by omega)
       obtain ⟨f1, f2⟩ := qcd (by omega) (by omega) t1 m1 s1 (Mv.refl d b κ1) s2 t8
       simp only [zS, seval, c3]
       exact ⟨_, _, qcm.refl _ _ _, rfl, ws, κ1, rfl, hW, f1, f2⟩
     ·have c1 : (decide ((a : Int) < s) && decide ((s : Int) < d)) = false := by
       simp only [Bool.and_eq_false_iff, decide_eq_false_iff_not]
       omega
      have s1 : qb0 (fun x y => decide (cmpF x y < 0)) xs a d ρ := fun p q q1 q2 q3 => by
       by_cases he : s = a
       ·exact t3 p q (by omega) q2 q3
       ·exact t2 p q q1 q2 (by omega)
      obtain ⟨ws, κ1, hW, m1, hκ1, ew, ek⟩ : ∃ ws κ1, Arr Dm xs ws κ1 ∧ Mv a d ρ κ1 ∧ (∀ p, p < xs.length → κ1 p < xs.length) ∧ ws = zs ∧ κ1 = ρ := ⟨zs, ρ, hZ, Mv.refl _ _ _, hρπ, rfl, rfl⟩
      rw [← ek] at s1
      simp only [zS, seval, c1]
      rw [← ew]
      by_cases hm2 : d < e ∧ e < b
      ·have c3 : ((d : Int) < e) := by omega
       have c4 : ((e : Int) < b) := by omega
       simp only [zS, seval, c3, c4]
       refine qaq ((ih d e b ws κ1 (by omega) hW hκ1 hm2.1 hm2.2 hbn (fun p q q1 q2 q3 => by rw [m1.out p (by omega), m1.out q (by omega)]; exact t4 p q q1 q2 q3) (fun p q q1 q2 q3 => by rw [m1.out p (by omega), m1.out q (by omega)]; exact t5 p q q1 q2 q3) (fun p q q1 q2 q3 q4 => by rw [m1.out p (by omega), m1.out q (by omega)]; exact t7 p q q1 q2 q3 q4)).mono fun r s' h => ?_)
       obtain ⟨rfl, vs, κ2, rfl, hV, m2, s2⟩ := h
       obtain ⟨f1, f2⟩ := qcd (by omega) (by omega) t1 m1 s1 m2 s2 t8
       simp only [zS, seval]
       exact ⟨_, _, qcm.refl _ _ _, rfl, vs, κ2, rfl, hV, f1, f2⟩
      ·have c3 : (decide ((d : Int) < e) && decide ((e : Int) < b)) = false := by
        simp only [Bool.and_eq_false_iff, decide_eq_false_iff_not]
        omega
       have s2 : qb0 (fun x y => decide (cmpF x y < 0)) xs d b κ1 := fun p q q1 q2 q3 => by
        rw [m1.out p (by omega), m1.out q (by omega)]
        by_cases he : e = d
        ·exact t5 p q (by omega) q2 q3
        ·exact t4 p q q1 q2 (by omega)
       obtain ⟨f1, f2⟩ := qcd (by omega) (by omega) t1 m1 s1 (Mv.refl d b κ1) s2 t8
       simp only [zS, seval, c3]
       exact ⟨_, _, qcm.refl _ _ _, rfl, ws, κ1, rfl, hW, f1, f2⟩
    ·have c1 : (decide ((s : Int) < m) && decide ((m : Int) < e)) = false := by
      simp only [Bool.and_eq_false_iff, decide_eq_false_iff_not]
      omega
     obtain ⟨zs, hzs⟩ : ∃ zs, zs = ys := ⟨_, rfl⟩
     have hZ : Arr Dm xs zs ρ := by
      rw [hρ, hzs]
      refine hA.congr fun p hp => ?_
      congr 1
      unfold qm8
      repeat' split
      all_goals omega
     have hρπ := t1.bound (by omega) hπ
     rw [← hzs]
     simp only [zS, seval, q0, q1, c1]
     by_cases hm1 : a < s ∧ s < d
     ·have c1 : ((a : Int) < s) := by omega
      have c2 : ((s : Int) < d) := by omega
      simp only [zS, seval, c1, c2]
      refine qaq ((ih a s d zs ρ (by omega) hZ hρπ hm1.1 hm1.2 (by omega) t2 t3 t6).mono fun r s' h => ?_)
      obtain ⟨rfl, ws, κ1, rfl, hW, m1, s1⟩ := h
      have hκ1 := m1.bound (by omega) hρπ
      simp only [zS, seval]
      by_cases hm2 : d < e ∧ e < b
      ·have c3 : ((d : Int) < e) := by omega
       have c4 : ((e : Int) < b) := by omega
       simp only [zS, seval, c3, c4]
       refine qaq ((ih d e b ws κ1 (by omega) hW hκ1 hm2.1 hm2.2 hbn (fun p q q1 q2 q3 => by rw [m1.out p (by omega), m1.out q (by omega)]; exact t4 p q q1 q2 q3) (fun p q q1 q2 q3 => by rw [m1.out p (by omega), m1.out q (by omega)]; exact t5 p q q1 q2 q3) (fun p q q1 q2 q3 q4 => by rw [m1.out p (by omega), m1.out q (by omega)]; exact t7 p q q1 q2 q3 q4)).mono fun r s' h => ?_)
       obtain ⟨rfl, vs, κ2, rfl, hV, m2, s2⟩ := h
       obtain ⟨f1, f2⟩ := qcd (by omega) (by omega) t1 m1 s1 m2 s2 t8
       simp only [zS, seval]
       exact ⟨_, _, qcm.refl _ _ _, rfl, vs, κ2, rfl, hV, f1, f2⟩
      ·have c3 : (decide ((d : Int) < e) && decide ((e : Int) < b)) = false := by
        simp only [Bool.and_eq_false_iff, decide_eq_false_iff_not]
        omega
       have s2 : qb0 (fun x y => decide (cmpF x y < 0)) xs d b κ1 := fun p q q1 q2 q3 => by
        rw [m1.out p (by omega), m1.out q (by omega)]
        by_cases he : e = d
        ·exact t5 p q (by omega) q2 q3
        ·exact t4 p q q1 q2 (by omega)
       obtain ⟨f1, f2⟩ := qcd (by omega) (by omega) t1 m1 s1 (Mv.refl d b κ1) s2 t8
       simp only [zS, seval, c3]
       exact ⟨_, _, qcm.refl _ _ _, rfl, ws, κ1, rfl, hW, f1, f2⟩
     ·have c1 : (decide ((a : Int) < s) && decide ((s : Int) < d)) = false := by
       simp only [Bool.and_eq_false_iff, decide_eq_false_iff_not]
       omega
      have s1 : qb0 (fun x y => decide (cmpF x y < 0)) xs a d ρ := fun p q q1 q2 q3 => by
       by_cases he : s = a
       ·exact t3 p q (by omega) q2 q3
       ·exact t2 p q q1 q2 (by omega)
      obtain ⟨ws, κ1, hW, m1, hκ1, ew, ek⟩ : ∃ ws κ1, Arr Dm xs ws κ1 ∧ Mv a d ρ κ1 ∧ (∀ p, p < xs.length → κ1 p < xs.length) ∧ ws = zs ∧ κ1 = ρ := ⟨zs, ρ, hZ, Mv.refl _ _ _, hρπ, rfl, rfl⟩
      rw [← ek] at s1
      simp only [zS, seval, c1]
      rw [← ew]
      by_cases hm2 : d < e ∧ e < b
      ·have c3 : ((d : Int) < e) := by omega
       have c4 : ((e : Int) < b) := by omega
       simp only [zS, seval, c3, c4]
       refine qaq ((ih d e b ws κ1 (by omega) hW hκ1 hm2.1 hm2.2 hbn (fun p q q1 q2 q3 => by rw [m1.out p (by omega), m1.out q (by omega)]; exact t4 p q q1 q2 q3) (fun p q q1 q2 q3 => by rw [m1.out p (by omega), m1.out q (by omega)]; exact t5 p q q1 q2 q3) (fun p q q1 q2 q3 q4 => by rw [m1.out p (by omega), m1.out q (by omega)]; exact t7 p q q1 q2 q3 q4)).mono fun r s' h => ?_)
       obtain ⟨rfl, vs, κ2, rfl, hV, m2, s2⟩ := h
       obtain ⟨f1, f2⟩ := qcd (by omega) (by omega) t1 m1 s1 m2 s2 t8
       simp only [zS, seval]
       exact ⟨_, _, qcm.refl _ _ _, rfl, vs, κ2, rfl, hV, f1, f2⟩
      ·have c3 : (decide ((d : Int) < e) && decide ((e : Int) < b)) = false := by
        simp only [Bool.and_eq_false_iff, decide_eq_false_iff_not]
        omega
       have s2 : qb0 (fun x y => decide (cmpF x y < 0)) xs d b κ1 := fun p q q1 q2 q3 => by
        rw [m1.out p (by omega), m1.out q (by omega)]
        by_cases he : e = d
        ·exact t5 p q (by omega) q2 q3
        ·exact t4 p q q1 q2 (by omega)
       obtain ⟨f1, f2⟩ := qcd (by omega) (by omega) t1 m1 s1 (Mv.refl d b κ1) s2 t8
       simp only [zS, seval, c3]
       exact ⟨_, _, qcm.refl _ _ _, rfl, ws, κ1, rfl, hW, f1, f2⟩
 ·have c0 : ¬ ((d : Int) < m) := by omega
  have g7 : True := trivial
  simp only [zS, seval, e1, e2, e3, e4, g1, g2, g3, g4, g5, g6, g7, Qok, c0]
  refine qck (τ := Nat × Nat) (fun x => [(0, .osl 0 0 n), (1, .d (.int .i64 a)), (2, .d (.int .i64 m)), (3, .d (.int .i64 b)), (4, .fn fv caps), (18, .d (.int .i64 d)), (19, .d (.int .i64 (d + m : Nat))), (20, .d (.int .i64 x.1)), (21, .d (.int .i64 x.2)), (22, .d (.int .i64 (d + m - 1 : Nat)))]) (fun x => (.arr 3 ys :: τ))
   (fun x => s0 ≤ x.1 ∧ x.1 ≤ x.2 ∧ x.2 ≤ r0 ∧ (s0 < x.1 → Lx (fun x y => decide (cmpF x y < 0)) xs (π (x.1 - 1)) (π (d + m - 1 - (x.1 - 1)))) ∧ (x.2 < r0 → Lx (fun x y => decide (cmpF x y < 0)) xs (π (d + m - 1 - x.2)) (π x.2))) (fun x => x.2 - x.1) (s0, r0)
   ⟨Nat.le_refl _, by simp only; omega, Nat.le_refl _, fun h => by simp only at h; omega, fun h => by simp only at h; omega⟩ ?_ ?_
  ·refine qbp ?_
   simp only [zS, seval, k2, k3]
  ·intro x hi
   obtain ⟨s, r⟩ := x
   obtain ⟨h1, h2, h3, h4, h5⟩ := hi
   simp only at h1 h2 h3 h4 h5
   by_cases hsr : s < r
   ·have q0 : ((s : Int) < r) := by omega
    have q1 : IntKind.i64.wrap ((s : Int) + r) = ((s + r : Nat) : Int) := by rw [qbl (by omega) (by omega)]; omega
    have q2 : IntKind.u64.wrap ((s + r : Nat) : Int) = ((s + r : Nat) : Int) := q0g _ (by omega)
    have q3 : ((s + r : Nat) : Int).fdiv 2 = (((s + r) / 2 : Nat) : Int) := half _ (by omega)
    have q4 : IntKind.i64.wrap (((s + r) / 2 : Nat) : Int) = (((s + r) / 2 : Nat) : Int) := qta _ (by omega)
    obtain ⟨c, e8, e9, e10⟩ : ∃ c, c = (s + r) / 2 ∧ s ≤ c ∧ c < r := ⟨_, rfl, by omega, by omega⟩
    rw [← e8] at q3 q4
    have q5 : IntKind.i64.wrap (((d + m - 1 : Nat) : Int) - c) = ((d + m - 1 - c : Nat) : Int) := by rw [qbl (by omega) (by omega)]; omega
    have lc := El.at hC.el hA.el (i := c) (by omega)
    have lp := El.at hC.el hA.el (i := d + m - 1 - c) (by omega)
    have c1 : (c : Int) < (n : Int) := by omega
    have c2 : ((d + m - 1 - c : Nat) : Int) < (n : Int) := by omega
    have c3 : c < ys.length := by omega
    have c4 : d + m - 1 - c < ys.length := by omega
    simp only [zS, seval, q0, q1, q2, q3, q4, q5, Qok, lc, lp, c1, c2, c3, c4]
    refine ⟨.inl (by kernel_rfl), qgu (v := .d (.int .i64 (cmpF (ys.getD (d + m - 1 - c) default) (ys.getD c default)))) (fun s hs => hC.call _ _ (hA.at (by omega)) (hA.at (by omega)) _ s hs) ?_⟩
    have f1 : ys.getD c default = xs.getD (π c) default := hA.get c (by omega)
    have f2 : ys.getD (d + m - 1 - c) default = xs.getD (π (d + m - 1 - c)) default := hA.get _ (by omega)
    have ht : π c < π (d + m - 1 - c) := hT _ _ (by omega) (by omega) (by omega) (by omega)
    simp only [zS, seval]
    refine ifC.mk (fun hc => ?_) (fun hc => ?_)
    ·have hL : Lx (fun x y => decide (cmpF x y < 0)) xs (π c) (π (d + m - 1 - c)) := (Lx.tag' ht).2 (.inl (by rw [← f1, ← f2]; simpa using hc))
     have q6 : IntKind.i64.wrap ((c : Int) + 1) = ((c + 1 : Nat) : Int) := by rw [qbl (by omega) (by omega)]; omega
     simp only [zS, seval, q6]
     refine ⟨(c + 1, r), ⟨by simp only; omega, by simp only; omega, h3, fun _ => by simp only; exact hL, h5⟩, by simp only; omega, qbp ?_⟩
     simp only [zS, seval]
    ·have hL : Lx (fun x y => decide (cmpF x y < 0)) xs (π (d + m - 1 - c)) (π c) := (Lx.tag ht).2 (by rw [← f1, ← f2]; simpa using hc)
     refine ⟨(s, c), ⟨h1, by simp only; omega, by simp only; omega, h4, fun _ => hL⟩, by simp only; omega, qbp ?_⟩
     simp only [zS, seval]
   ·have hs : s = r := by omega
    subst hs
    have q0 : ¬ ((s : Int) < s) := by omega
    have q1 : IntKind.i64.wrap (((d + m : Nat) : Int) - s) = ((d + m - s : Nat) : Int) := by rw [qbl (by omega) (by omega)]; omega
    obtain ⟨e, he⟩ : ∃ e, e = d + m - s := ⟨_, rfl⟩
    rw [← he] at q1
    obtain ⟨F1, F2⟩ := qsv (p := d + m - 1) (s := s) (s0 := s0) (r0 := r0) (e := e) hC.swo hxs hπ (by omega) hS1 hS2 (by omega) h1 h3 (by omega) (by omega) (by omega) (by omega) (by omega) (by omega) (by omega) h4 h5 (by omega) (by omega)
    obtain ⟨ρ, hρ⟩ : ∃ ρ : Nat → Nat, ρ = fun p => π (qm8 s m e p) := ⟨_, rfl⟩
    obtain ⟨t1, t2, t3, t4, t5, t6, t7, t8⟩ := qxs (ρ := ρ) (s := s) (e := e) (d := d) (by omega) (by omega) (by omega) (by omega) (by omega) hS1 hS2 hT F1 F2 (fun p _ _ => by rw [hρ]) (fun p hp => by rw [hρ]; show π (qm8 s m e p) = π p; congr 1; unfold qm8; rw [if_pos (by omega)])
    by_cases hrot : s < m ∧ m < e
    ·have c1 : ((s : Int) < m) := by omega
     have c2 : ((m : Int) < e) := by omega
     simp only [zS, seval, q0, q1, c1, c2]
     refine qaq ((qqh Dm hC.el ys n s m e fv caps hA.el (by omega) hN hrot.1 hrot.2 (by omega)).mono fun r' s' h => ?_)
     obtain ⟨rfl, zs, rfl, hB⟩ := h
     have hZ : Arr Dm xs zs ρ := by rw [hρ]; exact hA.trans hB fun p hp => Qcm (by omega) (by omega) (by omega) hp
     have hρπ := t1.bound (by omega) hπ
     simp only [zS, seval]
     by_cases hm1 : a < s ∧ s < d
     ·have c1 : ((a : Int) < s) := by omega
      have c2 : ((s : Int) < d) := by omega
      simp only [zS, seval, c1, c2]
      refine qaq ((ih a s d zs ρ (by omega) hZ hρπ hm1.1 hm1.2 (by omega) t2 t3 t6).mono fun r s' h => ?_)
      obtain ⟨rfl, ws, κ1, rfl, hW, m1, s1⟩ := h
      have hκ1 := m1.bound (by omega) hρπ
      simp only [zS, seval]
      by_cases hm2 : d < e ∧ e < b
      ·have c3 : ((d : Int) < e) := by omega
       have c4 : ((e : Int) < b) := by omega
       simp only [zS, seval, c3, c4]
       refine qaq ((ih d e b ws κ1 (by omega) hW hκ1 hm2.1 hm2.2 hbn (fun p q q1 q2 q3 => by rw [m1.out p (by omega), m1.out q (by omega)]; exact t4 p q q1 q2 q3) (fun p q q1 q2 q3 => by rw [m1.out p (by omega), m1.out q (by omega)]; exact t5 p q q1 q2 q3) (fun p q q1 q2 q3 q4 => by rw [m1.out p (by omega), m1.out q (by omega)]; exact t7 p q q1 q2 q3 q4)).mono fun r s' h => ?_)
       obtain ⟨rfl, vs, κ2, rfl, hV, m2, s2⟩ := h
       obtain ⟨f1, f2⟩ := qcd (by omega) (by omega) t1 m1 s1 m2 s2 t8
       simp only [zS, seval]
       exact ⟨_, _, qcm.refl _ _ _, rfl, vs, κ2, rfl, hV, f1, f2⟩
      ·have c3 : (decide ((d : Int) < e) && decide ((e : Int) < b)) = false := by
        simp only [Bool.and_eq_false_iff, decide_eq_false_iff_not]
        omega
       have s2 : qb0 (fun x y => decide (cmpF x y < 0)) xs d b κ1 := fun p q q1 q2 q3 => by
        rw [m1.out p (by omega), m1.out q (by omega)]
        by_cases he : e = d
        ·exact t5 p q (by omega) q2 q3
        ·exact t4 p q q1 q2 (by omega)
       obtain ⟨f1, f2⟩ := qcd (by omega) (by omega) t1 m1 s1 (Mv.refl d b κ1) s2 t8
       simp only [zS, seval, c3]
       exact ⟨_, _, qcm.refl _ _ _, rfl, ws, κ1, rfl, hW, f1, f2⟩
     ·have c1 : (decide ((a : Int) < s) && decide ((s : Int) < d)) = false := by
       simp only [Bool.and_eq_false_iff, decide_eq_false_iff_not]
       omega
      have s1 : qb0 (fun x y => decide (cmpF x y < 0)) xs a d ρ := fun p q q1 q2 q3 => by
       by_cases he : s = a
       ·exact t3 p q (by omega) q2 q3
       ·exact t2 p q q1 q2 (by omega)
      obtain ⟨ws, κ1, hW, m1, hκ1, ew, ek⟩ : ∃ ws κ1, Arr Dm xs ws κ1 ∧ Mv a d ρ κ1 ∧ (∀ p, p < xs.length → κ1 p < xs.length) ∧ ws = zs ∧ κ1 = ρ := ⟨zs, ρ, hZ, Mv.refl _ _ _, hρπ, rfl, rfl⟩
      rw [← ek] at s1
      simp only [zS, seval, c1]
      rw [← ew]
      by_cases hm2 : d < e ∧ e < b
      ·have c3 : ((d : Int) < e) := by omega
       have c4 : ((e : Int) < b) := by omega
       simp only [zS, seval, c3, c4]
       refine qaq ((ih d e b ws κ1 (by omega) hW hκ1 hm2.1 hm2.2 hbn (fun p q q1 q2 q3 => by rw [m1.out p (by omega), m1.out q (by omega)]; exact t4 p q q1 q2 q3) (fun p q q1 q2 q3 => by rw [m1.out p (by omega), m1.out q (by omega)]; exact t5 p q q1 q2 q3) (fun p q q1 q2 q3 q4 => by rw [m1.out p (by omega), m1.out q (by omega)]; exact t7 p q q1 q2 q3 q4)).mono fun r s' h => ?_)
       obtain ⟨rfl, vs, κ2, rfl, hV, m2, s2⟩ := h
       obtain ⟨f1, f2⟩ := qcd (by omega) (by omega) t1 m1 s1 m2 s2 t8
       simp only [zS, seval]
       exact ⟨_, _, qcm.refl _ _ _, rfl, vs, κ2, rfl, hV, f1, f2⟩
      ·have c3 : (decide ((d : Int) < e) && decide ((e : Int) < b)) = false := by
        simp only [Bool.and_eq_false_iff, decide_eq_false_iff_not]
        omega
       have s2 : qb0 (fun x y => decide (cmpF x y < 0)) xs d b κ1 := fun p q q1 q2 q3 => by
        rw [m1.out p (by omega), m1.out q (by omega)]
        by_cases he : e = d
        ·exact t5 p q (by omega) q2 q3
        ·exact t4 p q q1 q2 (by omega)
       obtain ⟨f1, f2⟩ := qcd (by omega) (by omega) t1 m1 s1 (Mv.refl d b κ1) s2 t8
       simp only [zS, seval, c3]
       exact ⟨_, _, qcm.refl _ _ _, rfl, ws, κ1, rfl, hW, f1, f2⟩
    ·have c1 : (decide ((s : Int) < m) && decide ((m : Int) < e)) = false := by
      simp only [Bool.and_eq_false_iff, decide_eq_false_iff_not]
      omega
     obtain ⟨zs, hzs⟩ : ∃ zs, zs = ys := ⟨_, rfl⟩
     have hZ : Arr Dm xs zs ρ := by
      rw [hρ, hzs]
      refine hA.congr fun p hp => ?_
      congr 1
      unfold qm8
      repeat' split
      all_goals omega
     have hρπ := t1.bound (by omega) hπ
     rw [← hzs]
     simp only [zS, seval, q0, q1, c1]
     by_cases hm1 : a < s ∧ s < d
     ·have c1 : ((a : Int) < s) := by omega
      have c2 : ((s : Int) < d) := by omega
      simp only [zS, seval, c1, c2]
      refine qaq ((ih a s d zs ρ (by omega) hZ hρπ hm1.1 hm1.2 (by omega) t2 t3 t6).mono fun r s' h => ?_)
      obtain ⟨rfl, ws, κ1, rfl, hW, m1, s1⟩ := h
      have hκ1 := m1.bound (by omega) hρπ
      simp only [zS, seval]
      by_cases hm2 : d < e ∧ e < b
      ·have c3 : ((d : Int) < e) := by omega
       have c4 : ((e : Int) < b) := by omega
       simp only [zS, seval, c3, c4]
       refine qaq ((ih d e b ws κ1 (by omega) hW hκ1 hm2.1 hm2.2 hbn (fun p q q1 q2 q3 => by rw [m1.out p (by omega), m1.out q (by omega)]; exact t4 p q q1 q2 q3) (fun p q q1 q2 q3 => by rw [m1.out p (by omega), m1.out q (by omega)]; exact t5 p q q1 q2 q3) (fun p q q1 q2 q3 q4 => by rw [m1.out p (by omega), m1.out q (by omega)]; exact t7 p q q1 q2 q3 q4)).mono fun r s' h => ?_)
       obtain ⟨rfl, vs, κ2, rfl, hV, m2, s2⟩ := h
       obtain ⟨f1, f2⟩ := qcd (by omega) (by omega) t1 m1 s1 m2 s2 t8
       simp only [zS, seval]
       exact ⟨_, _, qcm.refl _ _ _, rfl, vs, κ2, rfl, hV, f1, f2⟩
      ·have c3 : (decide ((d : Int) < e) && decide ((e : Int) < b)) = false := by
        simp only [Bool.and_eq_false_iff, decide_eq_false_iff_not]
        omega
       have s2 : qb0 (fun x y => decide (cmpF x y < 0)) xs d b κ1 := fun p q q1 q2 q3 => by
        rw [m1.out p (by omega), m1.out q (by omega)]
        by_cases he : e = d
        ·exact t5 p q (by omega) q2 q3
        ·exact t4 p q q1 q2 (by omega)
       obtain ⟨f1, f2⟩ := qcd (by omega) (by omega) t1 m1 s1 (Mv.refl d b κ1) s2 t8
       simp only [zS, seval, c3]
       exact ⟨_, _, qcm.refl _ _ _, rfl, ws, κ1, rfl, hW, f1, f2⟩
     ·have c1 : (decide ((a : Int) < s) && decide ((s : Int) < d)) = false := by
       simp only [Bool.and_eq_false_iff, decide_eq_false_iff_not]
       omega
      have s1 : qb0 (fun x y => decide (cmpF x y < 0)) xs a d ρ := fun p q q1 q2 q3 => by
       by_cases he : s = a
       ·exact t3 p q (by omega) q2 q3
       ·exact t2 p q q1 q2 (by omega)
      obtain ⟨ws, κ1, hW, m1, hκ1, ew, ek⟩ : ∃ ws κ1, Arr Dm xs ws κ1 ∧ Mv a d ρ κ1 ∧ (∀ p, p < xs.length → κ1 p < xs.length) ∧ ws = zs ∧ κ1 = ρ := ⟨zs, ρ, hZ, Mv.refl _ _ _, hρπ, rfl, rfl⟩
      rw [← ek] at s1
      simp only [zS, seval, c1]
      rw [← ew]
      by_cases hm2 : d < e ∧ e < b
      ·have c3 : ((d : Int) < e) := by omega
       have c4 : ((e : Int) < b) := by omega
       simp only [zS, seval, c3, c4]
       refine qaq ((ih d e b ws κ1 (by omega) hW hκ1 hm2.1 hm2.2 hbn (fun p q q1 q2 q3 => by rw [m1.out p (by omega), m1.out q (by omega)]; exact t4 p q q1 q2 q3) (fun p q q1 q2 q3 => by rw [m1.out p (by omega), m1.out q (by omega)]; exact t5 p q q1 q2 q3) (fun p q q1 q2 q3 q4 => by rw [m1.out p (by omega), m1.out q (by omega)]; exact t7 p q q1 q2 q3 q4)).mono fun r s' h => ?_)
       obtain ⟨rfl, vs, κ2, rfl, hV, m2, s2⟩ := h
       obtain ⟨f1, f2⟩ := qcd (by omega) (by omega) t1 m1 s1 m2 s2 t8
       simp only [zS, seval]
       exact ⟨_, _, qcm.refl _ _ _, rfl, vs, κ2, rfl, hV, f1, f2⟩
      ·have c3 : (decide ((d : Int) < e) && decide ((e : Int) < b)) = false := by
        simp only [Bool.and_eq_false_iff, decide_eq_false_iff_not]
        omega
       have s2 : qb0 (fun x y => decide (cmpF x y < 0)) xs d b κ1 := fun p q q1 q2 q3 => by
        rw [m1.out p (by omega), m1.out q (by omega)]
        by_cases he : e = d
        ·exact t5 p q (by omega) q2 q3
        ·exact t4 p q q1 q2 (by omega)
       obtain ⟨f1, f2⟩ := qcd (by omega) (by omega) t1 m1 s1 (Mv.refl d b κ1) s2 t8
       simp only [zS, seval, c3]
       exact ⟨_, _, qcm.refl _ _ _, rfl, ws, κ1, rfl, hW, f1, f2⟩

theorem qxu (Dm : D → Prop) (cmpF : D → D → Int) (fv : FuncId) (caps : List AV) (hC : q59 Gl τ Dm cmpF fv caps) (xs : List D) (hxs : ∀ y ∈ xs, Dm y) (n : Nat) (hn : n ≤ xs.length) (hN : n < 1000000) :
  ∀ (N a m b : Nat) (ys : List D) (π : Nat → Nat), b - a ≤ N → Arr Dm xs ys π → (∀ p, p < xs.length → π p < xs.length) → a < m → m < b → b ≤ n → qb0 (fun x y => decide (cmpF x y < 0)) xs a m π → qb0 (fun x y => decide (cmpF x y < 0)) xs m b π → Qmi a m b π →
   qaf Tryz.prog Gl 190 [.osl 0 0 n, .d (.int .i64 a), .d (.int .i64 m), .d (.int .i64 b), .fn fv caps] (.arr 3 ys :: τ) (q91 τ Dm cmpF xs a b π) := by
 intro N
 induction N with
 | zero => intro a m b ys π h1 _ _ h2 h3; omega
 | succ N ih =>
  intro a m b ys π h1 hA hπ ham hmb hbn hS1 hS2 hT
  by_cases hb : m = a + 1 ∨ b = m + 1
  ·exact Qam Dm cmpF fv caps hC xs hxs n hn hN a m b ys π hA hπ ham hmb hbn hS1 hS2 hT hb
  ·exact Qdz Dm cmpF fv caps hC xs hxs n hn hN a m b ys π hA hπ ham hmb hbn hS1 hS2 hT (by omega) (by omega) fun a' m' b' ys' π' q1 => ih a' m' b' ys' π' (by omega)
def Qg6 (τ : Sto) (Dm : D → Prop) (cmpF : D → D → Int) (xs : List D) (n : Nat) (s : Sto) : Prop :=
 ∃ zs ρ, s = (.arr 3 zs :: τ) ∧ Arr Dm xs zs ρ ∧ Blo (fun x y => decide (cmpF x y < 0)) xs 0 n ρ ∧ (∀ p, n ≤ p → ρ p = p)
theorem q4h (Dm : D → Prop) (cmpF : D → D → Int) (fv : FuncId) (caps : List AV) (hC : q59 Gl τ Dm cmpF fv caps) (xs : List D) (hxs : ∀ y ∈ xs, Dm y) (n : Nat) (hn : n ≤ xs.length) (hN : n < 1000000) :
  qaf Tryz.prog Gl 145 [.osl 0 0 n, .d (.int .i64 n), .fn fv caps] (.arr 3 xs :: τ) (fun r s => r = .tup [] ∧ Qg6 τ Dm cmpF xs n s) := by
 refine qac Tryz.func145 rfl rfl (by simp [Tryz.ntmps145]) (qab rfl _ _ _ _ ?_)
 simp only [Tryz.ntmps145, Tryz.results145, qak, List.length_nil]
 simp only [zS, seval]
 refine qck (τ := Nat × List D) (fun x => [(0, .osl 0 0 n), (1, .d (.int .i64 n)), (2, .fn fv caps), (6, .d (.int .i64 20)), (7, .d (.int .i64 x.1)), (8, .d (.int .i64 (x.1 + 20 : Nat)))]) (fun x => (.arr 3 x.2 :: τ))
  (fun x => Cut 20 x.1 ∧ x.1 ≤ n ∧ ∃ ρ, Arr Dm xs x.2 ρ ∧ q39 (fun x y => decide (cmpF x y < 0)) xs 20 n 0 x.1 ρ ∧ (∀ p, x.1 ≤ p → ρ p = p) ∧ (∀ p, p < xs.length → ρ p < xs.length)) (fun x => n - x.1) (0, xs)
  ⟨Cut.zero _, Nat.zero_le _, fun i => i, Arr.refl hxs, fun c _ h1 h2 => by simp only at h2; omega, fun _ _ => rfl, fun _ h => h⟩ ?_ ?_
 ·refine qbp ?_
  simp only [zS, seval]
  all_goals rfl
 ·intro x hi
  obtain ⟨a, ys⟩ := x
  obtain ⟨h1, h2, ρ, hA, hB, hid, hbd⟩ := hi
  simp only at h1 h2 hA hB hid
  have hl := hA.len
  by_cases h : a + 20 ≤ n
  ·have c1 : ((a + 20 : Nat) : Int) ≤ n := by omega
   simp only [zS, seval, c1]
   refine qaq ((qjx Dm cmpF fv caps hC xs ys hxs n a (a + 20) ρ hA hbd hn hN (by omega) h (fun p q p1 p2 p3 => by rw [hid p p1, hid q (by omega)]; exact p2)).mono fun r s h => ?_)
   obtain ⟨rfl, zs, κ, rfl, hZ, hM, hS⟩ := h
   obtain ⟨b1, b2⟩ := q35 (n := n) (by omega) h1 (show a + 20 = min (a + 20) n by omega) hB hid hM hS
   have e1 : IntKind.i64.wrap (((a + 20 : Nat) : Int) + 20) = ((a + 20 + 20 : Nat) : Int) := by rw [qbl (by omega) (by omega)]; omega
   simp only [zS, seval, e1]
   refine ⟨(a + 20, zs), ⟨h1.next, h, κ, hZ, ql7 h1 b1 (Nat.le_refl _), fun p hp => b2 p hp (by simp only at hp; omega), hM.bound (by omega) hbd⟩, by simp only; omega, qbp ?_⟩
   simp only [zS, seval]
  ·have c1 : ¬ ((a + 20 : Nat) : Int) ≤ n := by omega
   simp only [zS, seval, c1]
   refine qaq ((qjx Dm cmpF fv caps hC xs ys hxs n a n ρ hA hbd hn hN h2 (Nat.le_refl _) (fun p q p1 p2 p3 => by rw [hid p p1, hid q (by omega)]; exact p2)).mono fun r s h => ?_)
   obtain ⟨rfl, us, κ, rfl, hU, hM, hS⟩ := h
   obtain ⟨b1, b2⟩ := q35 (n := n) (by omega) h1 (show n = min (a + 20) n by omega) hB hid hM hS
   have hbd := hM.bound (by omega) hbd
   have b3 := ql7 (a' := n) h1 b1 (by omega)
   have b2 : ∀ p, n ≤ p → κ p = p := fun p hp => b2 p hp (by omega)
   clear hB hid hA
   simp only [zS, seval]
   refine qck (τ := Nat × List D) (fun x => [(0, .osl 0 0 n), (1, .d (.int .i64 n)), (2, .fn fv caps), (6, .d (.int .i64 x.1))]) (fun x => (.arr 3 x.2 :: τ))
    (fun x => 0 < x.1 ∧ (x.1 ≤ 20 ∨ x.1 < 2 * n) ∧ ∃ ρ, Arr Dm xs x.2 ρ ∧ q39 (fun x y => decide (cmpF x y < 0)) xs x.1 n 0 n ρ ∧ (∀ p, n ≤ p → ρ p = p) ∧ (∀ p, p < xs.length → ρ p < xs.length)) (fun x => n - x.1) (20, us)
    ⟨by simp only; omega, .inl (Nat.le_refl _), κ, hU, b3, b2, hbd⟩ ?_ ?_
   ·refine qbp ?_
    simp only [zS, seval]
    all_goals rfl
   ·clear b1 b2 b3 hU hbd hM hS
    intro x hi
    obtain ⟨s, ys⟩ := x
    obtain ⟨h3, h4, ρ, hA, hB, hid, hbd⟩ := hi
    simp only at h3 h4 hA hB
    have hl := hA.len
    by_cases h : s < n
    ·have c1 : (s : Int) < n := by omega
     have e1 : IntKind.i64.wrap (2 * (s : Int)) = ((2 * s : Nat) : Int) := by rw [qbl (by omega) (by omega)]; omega
     simp only [zS, seval, c1, e1]
     refine qck (τ := Nat × List D) (fun x => [(0, .osl 0 0 n), (1, .d (.int .i64 n)), (2, .fn fv caps), (6, .d (.int .i64 s)), (7, .d (.int .i64 x.1)), (8, .d (.int .i64 (x.1 + 2 * s : Nat)))]) (fun x => (.arr 3 x.2 :: τ))
      (fun x => Cut (2 * s) x.1 ∧ x.1 ≤ n ∧ ∃ ρ, Arr Dm xs x.2 ρ ∧ q39 (fun x y => decide (cmpF x y < 0)) xs s n x.1 n ρ ∧ q39 (fun x y => decide (cmpF x y < 0)) xs (2 * s) n 0 x.1 ρ ∧ (∀ p, n ≤ p → ρ p = p) ∧ (∀ p, p < xs.length → ρ p < xs.length)) (fun x => n - x.1) (0, ys)
      ⟨Cut.zero _, Nat.zero_le _, ρ, hA, hB, fun c _ h1 h2 => by simp only at h2; omega, hid, hbd⟩ ?_ ?_
     ·refine qbp ?_
      simp only [zS, seval]
      all_goals rfl
     ·clear hA hB hid hbd hl
      intro x hi
      obtain ⟨a, ys⟩ := x
      obtain ⟨h5, h6, ρ, hA, hB, hD, hid, hbd⟩ := hi
      simp only at h5 h6 hA hB hD
      have hl := hA.len
      have e2 : IntKind.i64.wrap ((a : Int) + s) = ((a + s : Nat) : Int) := by rw [qbl (by omega) (by omega)]; omega
      by_cases h : a + 2 * s ≤ n
      ·have c1 : ((a + 2 * s : Nat) : Int) ≤ n := by omega
       have hb : a + 2 * s = min (a + 2 * s) n := by omega
       obtain ⟨m1, m2, m3, m4⟩ := qst (b := a + 2 * s) h5 h3 (by omega) hb hB
       simp only [zS, seval, c1, e2]
       refine qaq ((qxu Dm cmpF fv caps hC xs hxs n hn hN _ a (a + s) (a + 2 * s) ys ρ (Nat.le_refl _) hA hbd (by omega) (by omega) h m1 m2 m3).mono fun r st hh => ?_)
       obtain ⟨rfl, zs, κ, rfl, hZ, hM, hS⟩ := hh
       obtain ⟨q1, q2⟩ := qxt h5 h3 (by omega) hb hB hD hM hS
       have e3 : IntKind.i64.wrap (((a + 2 * s : Nat) : Int) + ((2 * s : Nat) : Int)) = ((a + 2 * s + 2 * s : Nat) : Int) := by rw [qbl (by omega) (by omega)]; omega
       simp only [zS, seval, e1, e3]
       refine ⟨(a + 2 * s, zs), ⟨h5.next, h, κ, hZ, q1, ql7 h5 q2 (Nat.le_refl _), fun p hp => by rw [hM.out p (by omega)]; exact hid p hp, hM.bound (by omega) hbd⟩, by simp only; omega, qbp ?_⟩
       simp only [zS, seval]
      ·have c1 : ¬ ((a + 2 * s : Nat) : Int) ≤ n := by omega
       by_cases hm : a + s < n
       ·have c2 : ((a + s : Nat) : Int) < n := by omega
        have hb : n = min (a + 2 * s) n := by omega
        obtain ⟨m1, m2, m3, m4⟩ := qst (b := n) h5 h3 (by omega) hb hB
        simp only [zS, seval, c1, c2, e2]
        refine qaq ((qxu Dm cmpF fv caps hC xs hxs n hn hN _ a (a + s) n ys ρ (Nat.le_refl _) hA hbd (by omega) (by omega) (Nat.le_refl _) m1 m2 m3).mono fun r st hh => ?_)
        obtain ⟨rfl, zs, κ, rfl, hZ, hM, hS⟩ := hh
        obtain ⟨q1, q2⟩ := qxt h5 h3 (by omega) hb hB hD hM hS
        have e3 : IntKind.i64.wrap ((s : Int) * 2) = ((2 * s : Nat) : Int) := by rw [qbl (by omega) (by omega)]; omega
        simp only [zS, seval, e3]
        refine ⟨(2 * s, zs), ⟨by simp only; omega, .inr (by simp only; omega), κ, hZ, ql7 h5 q2 (by omega), fun p hp => by rw [hM.out p (by omega)]; exact hid p hp, hM.bound (by omega) hbd⟩, by simp only; omega, qbp ?_⟩
        simp only [zS, seval]
       ·have c2 : ¬ ((a + s : Nat) : Int) < n := by omega
        have e3 : IntKind.i64.wrap ((s : Int) * 2) = ((2 * s : Nat) : Int) := by rw [qbl (by omega) (by omega)]; omega
        simp only [zS, seval, c1, c2, e2, e3]
        refine ⟨(2 * s, ys), ⟨by simp only; omega, .inr (by simp only; omega), ρ, hA, q4v h5 h3 (by omega) hB hD, hid, hbd⟩, by simp only; omega, qbp ?_⟩
        simp only [zS, seval]
    ·have c1 : ¬ (s : Int) < n := by omega
     simp only [zS, seval, c1]
     exact ⟨_, _, qcm.refl _ _ _, rfl, ys, ρ, rfl, hA, Qgm (by omega) hB, hid⟩
theorem qqe (Dm : D → Prop) (cmpF : D → D → Int) (fv : FuncId) (caps : List AV) (hC : q59 Gl τ Dm cmpF fv caps) (xs : List D) (hxs : ∀ y ∈ xs, Dm y) (n : Nat) (hn : n ≤ xs.length) (hN : n < 1000000) :
  qaf Tryz.prog Gl 85 [.osl 0 0 n, .fn fv caps] (.arr 3 xs :: τ) (fun r s => r = .tup [] ∧ Qg6 τ Dm cmpF xs n s) := by
 refine qac Tryz.func85 rfl rfl (by simp [Tryz.ntmps85]) (qab rfl _ _ _ _ ?_)
 simp only [Tryz.ntmps85, Tryz.results85, qak, List.length_nil]
 simp only [zS, seval]
 refine qaq ((q4h Dm cmpF fv caps hC xs hxs n hn hN).mono fun r s h => ?_)
 obtain ⟨rfl, h⟩ := h
 simp only [zS, seval]
 exact ⟨_, _, qcm.refl _ _ _, rfl, h⟩
end YtljpopkonkanlaaGreatDoor
end Go.Proofs

set_option maxRecDepth 100000
namespace Go.Proofs
open Go.AM
namespace YtljpopkonkanlaaGreatDoor
variable {Gl : qa5}
structure qap where
 what : List UInt8
 prefix_ : List UInt8
 action : List UInt8
deriving DecidableEq, Inhabited
def qap.toD (x : qap) : D := .agg [.str x.what, .str x.prefix_, .str x.action]
theorem qpl (x : qap) : x.toD.isAgg = true := rfl
theorem qpm (x : qap) : x.toD.cells = [.str x.what, .str x.prefix_, .str x.action] := rfl
theorem zR : type_of% (And.intro @zA (And.intro @qpl @qpm)) := And.intro @zA (And.intro @qpl @qpm)
def qau : List UInt8 := [116, 104, 114, 101, 97, 100]
def qa6 : List UInt8 := [115, 108, 105, 99, 101]
def qbc : List UInt8 := [102, 114, 97, 109, 101]
def qav : List UInt8 := [99, 111, 117, 110, 116, 101, 114]
def qfe : List UInt8 := [107, 101, 101, 112]
def q4k : List UInt8 := [104, 105, 100, 101]
def qt9 : List UInt8 := [100, 114, 111, 112]
def qda : List UInt8 := [104, 105, 100, 100, 101, 110, 45]
def Qec (s : List UInt8) : Bool := s == qau || s == qa6 || s == qbc || s == qav
theorem Qlx (s : List UInt8) : qbw Tryz.prog Gl 30 [.d (.str s)] (.d (.bool (Qec s))) := by
 refine qbw.of1 ?_
 refine qac Tryz.func30 rfl rfl (by simp [Tryz.ntmps30]) (qab rfl _ _ _ _ ?_)
 simp only [Tryz.ntmps30, Tryz.results30, qak, List.length_nil]
 simp only [zR, seval]
 repeat ((with_reducible refine And.intro ?_ ?_); (focus (first | omega | (simp only [qa2]; omega) | (refine qq ?_; rfl) | (refine dq ?_; kernel_rfl) | (intros; simp_all; done))))
 refine ⟨_, _, qa0, ?_, rfl⟩
 rfl
def qpu (s p : List UInt8) : Bool := decide (p.length ≤ s.length) && (s.take p.length == p)
theorem Qsp (s p : List UInt8) : qbw Tryz.prog Gl 60 [.d (.str s), .d (.str p)] (.d (.bool (qpu s p))) := by
 refine qbw.of2 ?_
 refine qac Tryz.func60 rfl rfl (by simp [Tryz.ntmps60]) (qab rfl _ _ _ _ ?_)
 simp only [Tryz.ntmps60, Tryz.results60, qak, List.length_nil]
 simp only [zR, seval]
 by_cases h : p.length ≤ s.length
 ·have e1 : decide ((p.length : Int) ≤ (s.length : Int)) = true := decide_eq_true (by omega)
  simp only [zR, seval, e1]
  repeat ((with_reducible refine And.intro ?_ ?_); (focus (first | omega | (simp only [qa2]; omega) | (refine qq ?_; rfl) | (refine dq ?_; kernel_rfl) | (intros; simp_all; done))))
  refine ⟨_, _, qa0, ?_, rfl⟩
  rw [qpu, decide_eq_true h]
  try rfl
 ·have e1 : decide ((p.length : Int) ≤ (s.length : Int)) = false := decide_eq_false (by omega)
  simp only [zR, seval, e1]
  repeat ((with_reducible refine And.intro ?_ ?_); (focus (first | omega | (simp only [qa2]; omega) | (refine qq ?_; rfl) | (refine dq ?_; kernel_rfl) | (intros; simp_all; done))))
  refine ⟨_, _, qa0, ?_, rfl⟩
  rw [qpu, decide_eq_false h]
  try rfl
theorem qs7 (s p : List UInt8) : qbw Tryz.prog Gl 34 [.d (.str s), .d (.str p)] (.d (.bool (qpu s p))) := by
 refine qbw.of2 ?_
 refine qac Tryz.func34 rfl rfl (by simp [Tryz.ntmps34]) (qab rfl _ _ _ _ ?_)
 simp only [Tryz.ntmps34, Tryz.results34, qak, List.length_nil]
 simp only [zR, seval]
 refine qah (Qsp s p) ?_
 simp only [zR, seval]
 exact ⟨_, _, qcm.refl _ _ _, rfl, rfl⟩
theorem Qiz (s p : List UInt8) : qbw Tryz.prog Gl 35 [.d (.str s), .d (.str p)] (.d (.bool (qpu s p))) := by
 refine qbw.of2 ?_
 refine qac Tryz.func35 rfl rfl (by simp [Tryz.ntmps35]) (qab rfl _ _ _ _ ?_)
 simp only [Tryz.ntmps35, Tryz.results35, qak, List.length_nil]
 simp only [zR, seval]
 by_cases h : p.length ≤ s.length
 ·have e1 : decide ((p.length : Int) ≤ (s.length : Int)) = true := decide_eq_true (by omega)
  simp only [zR, seval, e1]
  repeat ((with_reducible refine And.intro ?_ ?_); (focus (first | omega | (simp only [qa2]; omega) | (refine qq ?_; rfl) | (refine dq ?_; kernel_rfl) | (intros; simp_all; done))))
  refine ⟨_, _, qa0, ?_, rfl⟩
  rw [qpu, decide_eq_true h]
  try rfl
 ·have e1 : decide ((p.length : Int) ≤ (s.length : Int)) = false := decide_eq_false (by omega)
  simp only [zR, seval, e1]
  repeat ((with_reducible refine And.intro ?_ ?_); (focus (first | omega | (simp only [qa2]; omega) | (refine qq ?_; rfl) | (refine dq ?_; kernel_rfl) | (intros; simp_all; done))))
  refine ⟨_, _, qa0, ?_, rfl⟩
  rw [qpu, decide_eq_false h]
  try rfl
theorem ql0 {f : Nat → Int} {k : Nat} (h : qbe f k = 0) : qbe f (k + 1) = f k := by
 by_cases e : f k = 0
 ·rw [qbq h e, e]
 ·rw [qcf h e (show k < k + 1 by omega)]
def Qod (r : qap) : Bool := !Qec r.what || ((!r.action == qfe) && (!r.action == q4k) && (!r.action == qt9))
def q0q (r : qap) : Int := if Qod r = true then 1 else if r.prefix_ = [] then 0 else qdo r.prefix_
def qme (l : List qap) : Int := if 40 < l.length then 7 else qbe (fun i => q0q (l.getD i default)) l.length
theorem q5g (l : List qap) (hl : l.length < 1000000) : qbw Tryz.prog Gl 11 [.d (.sl (l.map qap.toD))] (.d (.int .i64 (qme l))) := by
 refine qbw.of1 ?_
 refine qac Tryz.func11 rfl rfl (by simp [Tryz.ntmps11]) (qab rfl _ _ _ _ ?_)
 simp only [Tryz.ntmps11, Tryz.results11, qak, List.length_nil]
 simp only [zR, seval]
 repeat ((with_reducible refine And.intro ?_ ?_); (focus (first | omega | (simp only [qa2]; omega) | (refine qq ?_; rfl) | (refine dq ?_; kernel_rfl) | (intros; simp_all; done))))
 refine ifC.mk (fun h0 => ?_) (fun h0 => ?_)
 ·refine ⟨_, _, qa0, ?_, rfl⟩
  rw [qme, if_pos (by simp at h0; omega)]
 have h0 : ¬ 40 < l.length := by simp at h0; omega
 repeat ((with_reducible refine And.intro ?_ ?_); (focus (first | omega | (simp only [qa2]; omega) | (refine qq ?_; rfl) | (refine dq ?_; kernel_rfl) | (intros; simp_all; done))))
 refine qa7 l.length (fun k => [(9, .d (.sl (l.map qap.toD))), (10, .d (.int .i64 l.length)), (11, .d (.int .i64 k))]) (fun _ => []) (fun k => qbe (fun i => q0q (l.getD i default)) k = 0) rfl ?_ ?_
 ·refine qad [] [] rfl List.nodup_nil ?_ rfl
  simp only [zR, seval]
  all_goals rfl
 ·intro k hi hk
  by_cases h : k < l.length
  ·have hs := ql0 hi
   obtain ⟨r, hr⟩ : ∃ r, r = l.getD k default := ⟨_, rfl⟩
   have hg : (List.map qap.toD l).getD k default = r.toD := by rw [hr]; simp [h]
   have hend : ∀ e, q0q r = e → e ≠ 0 → qme l = e := fun e e1 e2 => by
    rw [qme, if_neg h0, qcf hi (by rw [← hr, e1]; exact e2) h, ← hr, e1]
   simp only [← hr] at hs
   simp only [zR, seval, (show (k:Int) < l.length by omega), h, hg]
   repeat ((with_reducible refine And.intro ?_ ?_); (focus (first | omega | (simp only [qa2]; omega) | (refine qq ?_; rfl) | (refine dq ?_; kernel_rfl) | (intros; simp_all; done))))
   refine qah (Qlx _) ?_
   simp only [zR, seval]
   repeat ((with_reducible refine And.intro ?_ ?_); (focus (first | omega | (simp only [qa2]; omega) | (refine qq ?_; rfl) | (refine dq ?_; kernel_rfl) | (intros; simp_all; done))))
   refine ifC.mk (fun h2 => ?_) (fun h2 => ?_)
   ·have h2 : Qod r = true := h2
    refine ⟨_, _, qa0, ?_, rfl⟩
    rw [hend 1 (by rw [q0q, if_pos h2]) (by decide)]
   ·have h2 : Qod r = false := h2
    have e0 : q0q r = if r.prefix_ = [] then 0 else qdo r.prefix_ := by rw [q0q, h2, if_neg (by simp)]
    refine ifC.mk (fun h3 => ?_) (fun h3 => ?_)
    ·have h3 : ¬ r.prefix_ = [] := by simpa using h3
     rw [if_neg h3] at e0
     repeat ((with_reducible refine And.intro ?_ ?_); (focus (first | omega | (simp only [qa2]; omega) | (refine qq ?_; rfl) | (refine dq ?_; kernel_rfl) | (intros; simp_all; done))))
     refine qah (qx1 _) ?_
     simp only [zR, seval]
     repeat ((with_reducible refine And.intro ?_ ?_); (focus (first | omega | (simp only [qa2]; omega) | (refine qq ?_; rfl) | (refine dq ?_; kernel_rfl) | (intros; simp_all; done))))
     refine ifC.mk (fun h4 => ?_) (fun h4 => ?_)
     ·have h4 : qdo r.prefix_ ≠ 0 := by simpa using h4
      refine ⟨_, _, qa0, ?_, rfl⟩
      rw [hend _ e0 h4]
     ·have h4 : qdo r.prefix_ = 0 := by simpa using h4
      refine ⟨by rw [hs, e0, h4], ?_⟩
      refine qad [] [] rfl List.nodup_nil ?_ rfl
      simp only [zR, seval, @qai ((k:Int) + 1) (by omega)]
      all_goals rfl
    ·have h3 : r.prefix_ = [] := by simpa using h3
     rw [if_pos h3] at e0
     refine ⟨by rw [hs, e0], ?_⟩
     refine qad [] [] rfl List.nodup_nil ?_ rfl
     simp only [zR, seval, @qai ((k:Int) + 1) (by omega)]
     all_goals rfl
  ·simp only [zR, seval, (show ¬ (k:Int) < l.length by omega)]
   have : k = l.length := by omega
   subst this
   refine ⟨_, _, qa0, ?_, rfl⟩
   rw [qme, if_neg h0, hi]
def Qi5 (what name : List UInt8) (r : qap) : Bool := (r.what == what) && qpu name r.prefix_
def qke (what name : List UInt8) : List qap → List UInt8
 | [] => qfe
 | r :: l => if Qi5 what name r = true then r.action else qke what name l
theorem Qg4 {what name : List UInt8} : ∀ {l : List qap} {k : Nat}, k < l.length → (l.take k).any (Qi5 what name) = false → Qi5 what name (l.getD k default) = true → qke what name l = (l.getD k default).action
 | r :: l, 0, _, _, h => by rw [qke, if_pos (by simpa using h)]; rfl
 | r :: l, k + 1, hk, h0, h => by
  rw [List.take_succ_cons, List.any_cons, Bool.or_eq_false_iff] at h0
  rw [qke, if_neg (by rw [h0.1]; simp), Qg4 (by simpa using hk) h0.2 (by simpa using h)]
  simp
theorem q38 {what name : List UInt8} : ∀ {l : List qap}, l.any (Qi5 what name) = false → qke what name l = qfe
 | [], _ => rfl
 | r :: l, h => by
  rw [List.any_cons, Bool.or_eq_false_iff] at h
  rw [qke, if_neg (by rw [h.1]; simp), q38 h.2]
theorem qez (l : List qap) (what name : List UInt8) (hl : l.length < 1000000) : qbw Tryz.prog Gl 13 [.d (.sl (l.map qap.toD)), .d (.str what), .d (.str name)] (.d (.str (qke what name l))) := by
 refine qbw.of3 ?_
 refine qac Tryz.func13 rfl rfl (by simp [Tryz.ntmps13]) (qab rfl _ _ _ _ ?_)
 simp only [Tryz.ntmps13, Tryz.results13, qak, List.length_nil]
 simp only [zR, seval]
 repeat ((with_reducible refine And.intro ?_ ?_); (focus (first | omega | (simp only [qa2]; omega) | (refine qq ?_; rfl) | (refine dq ?_; kernel_rfl) | (intros; simp_all; done))))
 refine qa7 l.length (fun k => [(1, .d (.str what)), (2, .d (.str name)), (9, .d (.sl (l.map qap.toD))), (10, .d (.int .i64 l.length)), (11, .d (.int .i64 k))]) (fun _ => []) (fun k => (l.take k).any (Qi5 what name) = false) rfl ?_ ?_
 ·refine qad [] [] rfl List.nodup_nil ?_ rfl
  simp only [zR, seval]
  all_goals rfl
 ·intro k hi hk
  by_cases h : k < l.length
  ·have hs := qdy (Qi5 what name) l k h
   obtain ⟨r, hr⟩ : ∃ r, r = l.getD k default := ⟨_, rfl⟩
   have hg : (List.map qap.toD l).getD k default = r.toD := by rw [hr]; simp [h]
   rw [← hr, hi, Bool.false_or] at hs
   simp only [zR, seval, (show (k:Int) < l.length by omega), h, hg]
   repeat ((with_reducible refine And.intro ?_ ?_); (focus (first | omega | (simp only [qa2]; omega) | (refine qq ?_; rfl) | (refine dq ?_; kernel_rfl) | (intros; simp_all; done))))
   refine qbs (fun _ => qs7 _ _) ?_
   simp only [zR, seval]
   repeat ((with_reducible refine And.intro ?_ ?_); (focus (first | omega | (simp only [qa2]; omega) | (refine qq ?_; rfl) | (refine dq ?_; kernel_rfl) | (intros; simp_all; done))))
   refine ifC.mk (fun h2 => ?_) (fun h2 => ?_)
   ·have h2 : Qi5 what name r = true := h2
    refine ⟨_, _, qa0, ?_, rfl⟩
    rw [Qg4 h hi (by rw [← hr]; exact h2), ← hr]
   ·have h2 : Qi5 what name r = false := h2
    refine ⟨by rw [hs, h2], ?_⟩
    refine qad [] [] rfl List.nodup_nil ?_ rfl
    simp only [zR, seval, @qai ((k:Int) + 1) (by omega)]
    all_goals rfl
  ·simp only [zR, seval, (show ¬ (k:Int) < l.length by omega)]
   have : k = l.length := by omega
   subst this
   rw [List.take_length] at hi
   refine ⟨_, _, qa0, ?_, rfl⟩
   rw [q38 hi]; rfl

structure qao where
 id : Int
 name : List UInt8
 dom : Int
deriving Inhabited, DecidableEq
def qao.toD (x : qao) : D := .agg [.int .i64 x.id, .str x.name, .int .i64 x.dom]
theorem Qfd (x : qao) : x.toD.isAgg = true := rfl
theorem Qfe (x : qao) : x.toD.cells = [.int .i64 x.id, .str x.name, .int .i64 x.dom] := rfl
structure qag where
 thread : Int
 parent : Int
 depth : Int
 name : List UInt8
 lo : Int
 hi : Int
 self : Int
 open_ : Bool
deriving Inhabited, DecidableEq
def qag.toD (x : qag) : D := .agg [.int .i64 x.thread, .int .i64 x.parent, .int .i64 x.depth, .str x.name, .int .i64 x.lo, .int .i64 x.hi, .int .i64 x.self, .bool x.open_]
theorem Qea (x : qag) : x.toD.isAgg = true := rfl
theorem Qeb (x : qag) : x.toD.cells = [.int .i64 x.thread, .int .i64 x.parent, .int .i64 x.depth, .str x.name, .int .i64 x.lo, .int .i64 x.hi, .int .i64 x.self, .bool x.open_] := rfl
structure qax where
 thread : Int
 state : Int
 lo : Int
 hi : Int
 cpu : Int
 on_ : Int
 by_ : Int
deriving Inhabited, DecidableEq
def qax.toD (x : qax) : D := .agg [.int .i64 x.thread, .int .i64 x.state, .int .i64 x.lo, .int .i64 x.hi, .int .i64 x.cpu, .int .i64 x.on_, .int .i64 x.by_]
theorem Qb9 (x : qax) : x.toD.isAgg = true := rfl
theorem Qca (x : qax) : x.toD.cells = [.int .i64 x.thread, .int .i64 x.state, .int .i64 x.lo, .int .i64 x.hi, .int .i64 x.cpu, .int .i64 x.on_, .int .i64 x.by_] := rfl
structure qbt where
 id : Int
 ft : Int
 fs : Int
 tt : Int
 ts : Int
 send : Int
 recv : Int
deriving Inhabited, DecidableEq
def qbt.toD (x : qbt) : D := .agg [.int .i64 x.id, .int .i64 x.ft, .int .i64 x.fs, .int .i64 x.tt, .int .i64 x.ts, .int .i64 x.send, .int .i64 x.recv]
theorem Qfw (x : qbt) : x.toD.isAgg = true := rfl
theorem Qfx (x : qbt) : x.toD.cells = [.int .i64 x.id, .int .i64 x.ft, .int .i64 x.fs, .int .i64 x.tt, .int .i64 x.ts, .int .i64 x.send, .int .i64 x.recv] := rfl
structure qan where
 thread : Int
 at_ : Int
 weight : Int
 stack : List (List UInt8)
deriving Inhabited, DecidableEq
def qan.toD (x : qan) : D := .agg [.int .i64 x.thread, .int .i64 x.at_, .int .i64 x.weight, .sl (x.stack.map .str)]
theorem Qd2 (x : qan) : x.toD.isAgg = true := rfl
theorem Qd3 (x : qan) : x.toD.cells = [.int .i64 x.thread, .int .i64 x.at_, .int .i64 x.weight, .sl (x.stack.map .str)] := rfl
structure qbb where
 name : List UInt8
 at_ : Int
 value : Int
deriving Inhabited, DecidableEq
def qbb.toD (x : qbb) : D := .agg [.str x.name, .int .i64 x.at_, .int .i64 x.value]
theorem Qdi (x : qbb) : x.toD.isAgg = true := rfl
theorem Qdj (x : qbb) : x.toD.cells = [.str x.name, .int .i64 x.at_, .int .i64 x.value] := rfl
structure qar where
 id : Int
 thread : Int
 size : Int
 lo : Int
 hi : Int
 stack : List (List UInt8)
 live : Bool
deriving Inhabited, DecidableEq
def qar.toD (x : qar) : D := .agg [.int .i64 x.id, .int .i64 x.thread, .int .i64 x.size, .int .i64 x.lo, .int .i64 x.hi, .sl (x.stack.map .str), .bool x.live]
theorem Qgt (x : qar) : x.toD.isAgg = true := rfl
theorem Qgu (x : qar) : x.toD.cells = [.int .i64 x.id, .int .i64 x.thread, .int .i64 x.size, .int .i64 x.lo, .int .i64 x.hi, .sl (x.stack.map .str), .bool x.live] := rfl
structure qcc where
 thread : Int
 lo : Int
 hi : Int
 count : Int
deriving Inhabited, DecidableEq
def qcc.toD (x : qcc) : D := .agg [.int .i64 x.thread, .int .i64 x.lo, .int .i64 x.hi, .int .i64 x.count]
theorem Qdo (x : qcc) : x.toD.isAgg = true := rfl
theorem Qdr (x : qcc) : x.toD.cells = [.int .i64 x.thread, .int .i64 x.lo, .int .i64 x.hi, .int .i64 x.count] := rfl
structure Qrt where
 thread : Int
 state : Int
 lo : Int
 hi : Int
deriving Inhabited, DecidableEq
def Qrt.toD (x : Qrt) : D := .agg [.int .i64 x.thread, .int .i64 x.state, .int .i64 x.lo, .int .i64 x.hi]
theorem Qdf (x : Qrt) : x.toD.isAgg = true := rfl
theorem Qdg (x : Qrt) : x.toD.cells = [.int .i64 x.thread, .int .i64 x.state, .int .i64 x.lo, .int .i64 x.hi] := rfl
structure qa4 where
 lo : Int
 hi : Int
 threads : List qao
 slices : List qag
 states : List qax
 flows : List qbt
 samples : List qan
 steps : List qbb
 blocks : List qar
 lost : List qcc
deriving Inhabited
def qa4.toD (x : qa4) : D := .agg [.int .i64 x.lo, .int .i64 x.hi, .sl (x.threads.map qao.toD), .sl (x.slices.map qag.toD), .sl (x.states.map qax.toD), .sl (x.flows.map qbt.toD), .sl (x.samples.map qan.toD), .sl (x.steps.map qbb.toD), .sl (x.blocks.map qar.toD), .sl (x.lost.map qcc.toD)]
theorem Qda (x : qa4) : x.toD.isAgg = true := rfl
theorem Qdd (x : qa4) : x.toD.cells = [.int .i64 x.lo, .int .i64 x.hi, .sl (x.threads.map qao.toD), .sl (x.slices.map qag.toD), .sl (x.states.map qax.toD), .sl (x.flows.map qbt.toD), .sl (x.samples.map qan.toD), .sl (x.steps.map qbb.toD), .sl (x.blocks.map qar.toD), .sl (x.lost.map qcc.toD)] := rfl
theorem zB : type_of% (And.intro @zA (And.intro @Qfd (And.intro @Qfe (And.intro @Qea (And.intro @Qeb (And.intro @Qb9 (And.intro @Qca (And.intro @Qfw (And.intro @Qfx (And.intro @Qd2 (And.intro @Qd3 (And.intro @Qdi (And.intro @Qdj (And.intro @Qgt (And.intro @Qgu (And.intro @Qdo (And.intro @Qdr (And.intro @Qdf (And.intro @Qdg (And.intro @Qda (And.intro @Qdd @Qkd))))))))))))))))))))) := (And.intro @zA (And.intro @Qfd (And.intro @Qfe (And.intro @Qea (And.intro @Qeb (And.intro @Qb9 (And.intro @Qca (And.intro @Qfw (And.intro @Qfx (And.intro @Qd2 (And.intro @Qd3 (And.intro @Qdi (And.intro @Qdj (And.intro @Qgt (And.intro @Qgu (And.intro @Qdo (And.intro @Qdr (And.intro @Qdf (And.intro @Qdg (And.intro @Qda (And.intro @Qdd @Qkd)))))))))))))))))))))
def qfj {α : Type} (p : α → Bool) : List α → Int
 | [] => -1
 | b :: r => if p b = true then 0 else if qfj p r = -1 then -1 else qfj p r + 1
theorem qdf {α : Type} {p : α → Bool} : ∀ {l : List α}, l.any p = false → qfj p l = -1
 | [], _ => rfl
 | b :: r, h => by
  rw [List.any_cons, Bool.or_eq_false_iff] at h
  rw [qfj, if_neg (by rw [h.1]; simp), if_pos (qdf h.2)]
theorem qio {α : Type} (p : α → Bool) : ∀ l : List α, -1 ≤ qfj p l
 | [] => Int.le_refl _
 | b :: r => by
  have := qio p r
  unfold qfj
  split
  ·omega
  ·split <;> omega
theorem qf8 {α : Type} [Inhabited α] {p : α → Bool} : ∀ {l : List α} {k : Nat}, k < l.length → (l.take k).any p = false → p (l.getD k default) = true → qfj p l = k
 | [], k, h, _, _ => by simp at h
 | b :: r, 0, _, _, h => by rw [qfj, if_pos (by simpa using h)]; rfl
 | b :: r, k + 1, h1, h2, h3 => by
  rw [List.take_succ_cons, List.any_cons, Bool.or_eq_false_iff] at h2
  have ih := qf8 (p := p) (l := r) (k := k) (by simpa using h1) h2.2 (by simpa using h3)
  rw [qfj, if_neg (by rw [h2.1]; simp), if_neg (by rw [ih]; omega), ih]; omega
theorem qdl {α : Type} (p : α → Bool) : ∀ l : List α, decide (0 ≤ qfj p l) = l.any p
 | [] => rfl
 | b :: r => by
  have ih := qdl p r
  have hg := qio p r
  rw [qfj, List.any_cons, ← ih]
  by_cases h : p b = true
  ·simp [h]
  ·rw [if_neg h]
   have h : p b = false := by simpa using h
   rw [h, Bool.false_or]
   by_cases h2 : qfj p r = -1
   ·rw [if_pos h2, h2]
   ·rw [if_neg h2, decide_eq_decide]; omega
def qcq {α : Type} (e : Int) (has : Int → Bool) (g : α → Int) (l : List α) : Int := if e ≠ 0 then e else if l.all (fun x => has (g x)) = true then 0 else 5
theorem qpe (fv : FuncId) (n : Nat) (y : D) (p : qag → Bool) (hp : ∀ x : qag, qaf Tryz.prog Gl fv [.d x.toD, .ptr 0 0] [.box n (.d y)] (fun r s => r = .d (.bool (p x)) ∧ s = [.box n (.d y)])) (l : List qag) (hl : l.length < 1000000) :
  qaf Tryz.prog Gl 171 [.d (.sl (l.map qag.toD)), .fn fv [.ptr 0 0]] [.box n (.d y)] (fun r s => r = .d (.int .i64 (qfj p l)) ∧ s = [.box n (.d y)]) := by
 refine qac Tryz.func171 rfl rfl (by simp [Tryz.ntmps171]) (qab rfl _ _ _ _ ?_)
 simp only [Tryz.ntmps171, Tryz.results171, qak, List.length_nil]
 simp only [zB, seval]
 refine qa7 l.length (fun k => [(0, .d (.sl (l.map qag.toD))), (1, .fn fv [.ptr 0 0]), (7, .d (.int .i64 l.length)), (8, .d (.int .i64 k))]) (fun _ => [.box n (.d y)]) (fun k => (l.take k).any p = false) rfl ?_ ?_
 ·refine qad [] [0] rfl (by simp) ?_ rfl
  simp only [zB, seval, Int.cast_ofNat_Int]
  rfl
 ·intro k hi hk
  by_cases h : k < l.length
  ·have hs := qdy p l k h
   simp only [zB, seval, (show (k:Int) < l.length by omega), h, qat _ _ _ (show k < l.length by omega)]
   refine qaq ((hp _).mono fun r s hr => ?_)
   obtain ⟨rfl, rfl⟩ := hr
   simp only [zB, seval]
   refine ifC.mk (fun hc => ?_) (fun hc => ?_)
   ·refine ⟨_, _, qae [] [0] rfl (by simp) (show qbf _ _ _ = AV.d _ from rfl) rfl, ?_, rfl⟩
    rw [qf8 h hi hc]
   ·refine ⟨by rw [hs, hi, hc]; rfl, ?_⟩
    refine qad [] [0] rfl (by simp) ?_ rfl
    simp only [zB, seval, @qai ((k:Int) + 1) (by omega)]
    rfl
  ·simp only [zB, seval, (show ¬ (k:Int) < l.length by omega)]
   have : k = l.length := by omega
   subst this
   rw [List.take_length] at hi
   refine ⟨_, _, qae [] [0] rfl (by simp) (show qbf _ _ _ = AV.d _ from rfl) rfl, ?_, rfl⟩
   rw [qdf hi]
theorem qj8 (fv : FuncId) (n : Nat) (y : D) (p : qag → Bool) (hp : ∀ x : qag, qaf Tryz.prog Gl fv [.d x.toD, .ptr 0 0] [.box n (.d y)] (fun r s => r = .d (.bool (p x)) ∧ s = [.box n (.d y)])) (l : List qag) (hl : l.length < 1000000) :
  qaf Tryz.prog Gl 115 [.d (.sl (l.map qag.toD)), .fn fv [.ptr 0 0]] [.box n (.d y)] (fun r s => r = .d (.bool (l.any p)) ∧ s = [.box n (.d y)]) := by
 refine qac Tryz.func115 rfl rfl (by simp [Tryz.ntmps115]) (qab rfl _ _ _ _ ?_)
 simp only [Tryz.ntmps115, Tryz.results115, qak, List.length_nil]
 simp only [zB, seval]
 refine qaq ((qpe fv n y p hp l hl).mono fun r s hr => ?_)
 obtain ⟨rfl, rfl⟩ := hr
 simp only [zB, seval]
 refine ⟨_, _, qae [] [0] rfl (by simp) (show qbf _ _ _ = AV.d _ from rfl) rfl, ?_, rfl⟩
 rw [qdl]
theorem qpd (fv : FuncId) (n : Nat) (y : D) (p : qax → Bool) (hp : ∀ x : qax, qaf Tryz.prog Gl fv [.d x.toD, .ptr 0 0] [.box n (.d y)] (fun r s => r = .d (.bool (p x)) ∧ s = [.box n (.d y)])) (l : List qax) (hl : l.length < 1000000) :
  qaf Tryz.prog Gl 172 [.d (.sl (l.map qax.toD)), .fn fv [.ptr 0 0]] [.box n (.d y)] (fun r s => r = .d (.int .i64 (qfj p l)) ∧ s = [.box n (.d y)]) := by
 refine qac Tryz.func172 rfl rfl (by simp [Tryz.ntmps172]) (qab rfl _ _ _ _ ?_)
 simp only [Tryz.ntmps172, Tryz.results172, qak, List.length_nil]
 simp only [zB, seval]
 refine qa7 l.length (fun k => [(0, .d (.sl (l.map qax.toD))), (1, .fn fv [.ptr 0 0]), (7, .d (.int .i64 l.length)), (8, .d (.int .i64 k))]) (fun _ => [.box n (.d y)]) (fun k => (l.take k).any p = false) rfl ?_ ?_
 ·refine qad [] [0] rfl (by simp) ?_ rfl
  simp only [zB, seval, Int.cast_ofNat_Int]
  rfl
 ·intro k hi hk
  by_cases h : k < l.length
  ·have hs := qdy p l k h
   simp only [zB, seval, (show (k:Int) < l.length by omega), h, qat _ _ _ (show k < l.length by omega)]
   refine qaq ((hp _).mono fun r s hr => ?_)
   obtain ⟨rfl, rfl⟩ := hr
   simp only [zB, seval]
   refine ifC.mk (fun hc => ?_) (fun hc => ?_)
   ·refine ⟨_, _, qae [] [0] rfl (by simp) (show qbf _ _ _ = AV.d _ from rfl) rfl, ?_, rfl⟩
    rw [qf8 h hi hc]
   ·refine ⟨by rw [hs, hi, hc]; rfl, ?_⟩
    refine qad [] [0] rfl (by simp) ?_ rfl
    simp only [zB, seval, @qai ((k:Int) + 1) (by omega)]
    rfl
  ·simp only [zB, seval, (show ¬ (k:Int) < l.length by omega)]
   have : k = l.length := by omega
   subst this
   rw [List.take_length] at hi
   refine ⟨_, _, qae [] [0] rfl (by simp) (show qbf _ _ _ = AV.d _ from rfl) rfl, ?_, rfl⟩
   rw [qdf hi]
theorem qj7 (fv : FuncId) (n : Nat) (y : D) (p : qax → Bool) (hp : ∀ x : qax, qaf Tryz.prog Gl fv [.d x.toD, .ptr 0 0] [.box n (.d y)] (fun r s => r = .d (.bool (p x)) ∧ s = [.box n (.d y)])) (l : List qax) (hl : l.length < 1000000) :
  qaf Tryz.prog Gl 118 [.d (.sl (l.map qax.toD)), .fn fv [.ptr 0 0]] [.box n (.d y)] (fun r s => r = .d (.bool (l.any p)) ∧ s = [.box n (.d y)]) := by
 refine qac Tryz.func118 rfl rfl (by simp [Tryz.ntmps118]) (qab rfl _ _ _ _ ?_)
 simp only [Tryz.ntmps118, Tryz.results118, qak, List.length_nil]
 simp only [zB, seval]
 refine qaq ((qpd fv n y p hp l hl).mono fun r s hr => ?_)
 obtain ⟨rfl, rfl⟩ := hr
 simp only [zB, seval]
 refine ⟨_, _, qae [] [0] rfl (by simp) (show qbf _ _ _ = AV.d _ from rfl) rfl, ?_, rfl⟩
 rw [qdl]
theorem qpf (fv : FuncId) (n : Nat) (y : D) (p : qar → Bool) (hp : ∀ x : qar, qaf Tryz.prog Gl fv [.d x.toD, .ptr 0 0] [.box n (.d y)] (fun r s => r = .d (.bool (p x)) ∧ s = [.box n (.d y)])) (l : List qar) (hl : l.length < 1000000) :
  qaf Tryz.prog Gl 173 [.d (.sl (l.map qar.toD)), .fn fv [.ptr 0 0]] [.box n (.d y)] (fun r s => r = .d (.int .i64 (qfj p l)) ∧ s = [.box n (.d y)]) := by
 refine qac Tryz.func173 rfl rfl (by simp [Tryz.ntmps173]) (qab rfl _ _ _ _ ?_)
 simp only [Tryz.ntmps173, Tryz.results173, qak, List.length_nil]
 simp only [zB, seval]
 refine qa7 l.length (fun k => [(0, .d (.sl (l.map qar.toD))), (1, .fn fv [.ptr 0 0]), (7, .d (.int .i64 l.length)), (8, .d (.int .i64 k))]) (fun _ => [.box n (.d y)]) (fun k => (l.take k).any p = false) rfl ?_ ?_
 ·refine qad [] [0] rfl (by simp) ?_ rfl
  simp only [zB, seval, Int.cast_ofNat_Int]
  rfl
 ·intro k hi hk
  by_cases h : k < l.length
  ·have hs := qdy p l k h
   simp only [zB, seval, (show (k:Int) < l.length by omega), h, qat _ _ _ (show k < l.length by omega)]
   refine qaq ((hp _).mono fun r s hr => ?_)
   obtain ⟨rfl, rfl⟩ := hr
   simp only [zB, seval]
   refine ifC.mk (fun hc => ?_) (fun hc => ?_)
   ·refine ⟨_, _, qae [] [0] rfl (by simp) (show qbf _ _ _ = AV.d _ from rfl) rfl, ?_, rfl⟩
    rw [qf8 h hi hc]
   ·refine ⟨by rw [hs, hi, hc]; rfl, ?_⟩
    refine qad [] [0] rfl (by simp) ?_ rfl
    simp only [zB, seval, @qai ((k:Int) + 1) (by omega)]
    rfl
  ·simp only [zB, seval, (show ¬ (k:Int) < l.length by omega)]
   have : k = l.length := by omega
   subst this
   rw [List.take_length] at hi
   refine ⟨_, _, qae [] [0] rfl (by simp) (show qbf _ _ _ = AV.d _ from rfl) rfl, ?_, rfl⟩
   rw [qdf hi]
theorem qj9 (fv : FuncId) (n : Nat) (y : D) (p : qar → Bool) (hp : ∀ x : qar, qaf Tryz.prog Gl fv [.d x.toD, .ptr 0 0] [.box n (.d y)] (fun r s => r = .d (.bool (p x)) ∧ s = [.box n (.d y)])) (l : List qar) (hl : l.length < 1000000) :
  qaf Tryz.prog Gl 120 [.d (.sl (l.map qar.toD)), .fn fv [.ptr 0 0]] [.box n (.d y)] (fun r s => r = .d (.bool (l.any p)) ∧ s = [.box n (.d y)]) := by
 refine qac Tryz.func120 rfl rfl (by simp [Tryz.ntmps120]) (qab rfl _ _ _ _ ?_)
 simp only [Tryz.ntmps120, Tryz.results120, qak, List.length_nil]
 simp only [zB, seval]
 refine qaq ((qpf fv n y p hp l hl).mono fun r s hr => ?_)
 obtain ⟨rfl, rfl⟩ := hr
 simp only [zB, seval]
 refine ⟨_, _, qae [] [0] rfl (by simp) (show qbf _ _ _ = AV.d _ from rfl) rfl, ?_, rfl⟩
 rw [qdl]
theorem qs6 (fv : FuncId) (n : Nat) (y : D) (p : qbt → Bool) (hp : ∀ x : qbt, qaf Tryz.prog Gl fv [.d x.toD, .ptr 0 0] [.box n (.d y)] (fun r s => r = .d (.bool (p x)) ∧ s = [.box n (.d y)])) (l : List qbt) (hl : l.length < 1000000) :
  qaf Tryz.prog Gl 174 [.d (.sl (l.map qbt.toD)), .fn fv [.ptr 0 0]] [.box n (.d y)] (fun r s => r = .d (.int .i64 (qfj p l)) ∧ s = [.box n (.d y)]) := by
 refine qac Tryz.func174 rfl rfl (by simp [Tryz.ntmps174]) (qab rfl _ _ _ _ ?_)
 simp only [Tryz.ntmps174, Tryz.results174, qak, List.length_nil]
 simp only [zB, seval]
 refine qa7 l.length (fun k => [(0, .d (.sl (l.map qbt.toD))), (1, .fn fv [.ptr 0 0]), (7, .d (.int .i64 l.length)), (8, .d (.int .i64 k))]) (fun _ => [.box n (.d y)]) (fun k => (l.take k).any p = false) rfl ?_ ?_
 ·refine qad [] [0] rfl (by simp) ?_ rfl
  simp only [zB, seval, Int.cast_ofNat_Int]
  rfl
 ·intro k hi hk
  by_cases h : k < l.length
  ·have hs := qdy p l k h
   simp only [zB, seval, (show (k:Int) < l.length by omega), h, qat _ _ _ (show k < l.length by omega)]
   refine qaq ((hp _).mono fun r s hr => ?_)
   obtain ⟨rfl, rfl⟩ := hr
   simp only [zB, seval]
   refine ifC.mk (fun hc => ?_) (fun hc => ?_)
   ·refine ⟨_, _, qae [] [0] rfl (by simp) (show qbf _ _ _ = AV.d _ from rfl) rfl, ?_, rfl⟩
    rw [qf8 h hi hc]
   ·refine ⟨by rw [hs, hi, hc]; rfl, ?_⟩
    refine qad [] [0] rfl (by simp) ?_ rfl
    simp only [zB, seval, @qai ((k:Int) + 1) (by omega)]
    rfl
  ·simp only [zB, seval, (show ¬ (k:Int) < l.length by omega)]
   have : k = l.length := by omega
   subst this
   rw [List.take_length] at hi
   refine ⟨_, _, qae [] [0] rfl (by simp) (show qbf _ _ _ = AV.d _ from rfl) rfl, ?_, rfl⟩
   rw [qdf hi]
theorem qlv (fv : FuncId) (n : Nat) (y : D) (p : qbt → Bool) (hp : ∀ x : qbt, qaf Tryz.prog Gl fv [.d x.toD, .ptr 0 0] [.box n (.d y)] (fun r s => r = .d (.bool (p x)) ∧ s = [.box n (.d y)])) (l : List qbt) (hl : l.length < 1000000) :
  qaf Tryz.prog Gl 122 [.d (.sl (l.map qbt.toD)), .fn fv [.ptr 0 0]] [.box n (.d y)] (fun r s => r = .d (.bool (l.any p)) ∧ s = [.box n (.d y)]) := by
 refine qac Tryz.func122 rfl rfl (by simp [Tryz.ntmps122]) (qab rfl _ _ _ _ ?_)
 simp only [Tryz.ntmps122, Tryz.results122, qak, List.length_nil]
 simp only [zB, seval]
 refine qaq ((qs6 fv n y p hp l hl).mono fun r s hr => ?_)
 obtain ⟨rfl, rfl⟩ := hr
 simp only [zB, seval]
 refine ⟨_, _, qae [] [0] rfl (by simp) (show qbf _ _ _ = AV.d _ from rfl) rfl, ?_, rfl⟩
 rw [qdl]
theorem qmq (fv : FuncId) (n : Nat) (y : D) (p : qan → Bool) (hp : ∀ x : qan, qaf Tryz.prog Gl fv [.d x.toD, .ptr 0 0] [.box n (.d y)] (fun r s => r = .d (.bool (p x)) ∧ s = [.box n (.d y)])) (l : List qan) (hl : l.length < 1000000) :
  qaf Tryz.prog Gl 175 [.d (.sl (l.map qan.toD)), .fn fv [.ptr 0 0]] [.box n (.d y)] (fun r s => r = .d (.int .i64 (qfj p l)) ∧ s = [.box n (.d y)]) := by
 refine qac Tryz.func175 rfl rfl (by simp [Tryz.ntmps175]) (qab rfl _ _ _ _ ?_)
 simp only [Tryz.ntmps175, Tryz.results175, qak, List.length_nil]
 simp only [zB, seval]
 refine qa7 l.length (fun k => [(0, .d (.sl (l.map qan.toD))), (1, .fn fv [.ptr 0 0]), (7, .d (.int .i64 l.length)), (8, .d (.int .i64 k))]) (fun _ => [.box n (.d y)]) (fun k => (l.take k).any p = false) rfl ?_ ?_
 ·refine qad [] [0] rfl (by simp) ?_ rfl
  simp only [zB, seval, Int.cast_ofNat_Int]
  rfl
 ·intro k hi hk
  by_cases h : k < l.length
  ·have hs := qdy p l k h
   simp only [zB, seval, (show (k:Int) < l.length by omega), h, qat _ _ _ (show k < l.length by omega)]
   refine qaq ((hp _).mono fun r s hr => ?_)
   obtain ⟨rfl, rfl⟩ := hr
   simp only [zB, seval]
   refine ifC.mk (fun hc => ?_) (fun hc => ?_)
   ·refine ⟨_, _, qae [] [0] rfl (by simp) (show qbf _ _ _ = AV.d _ from rfl) rfl, ?_, rfl⟩
    rw [qf8 h hi hc]
   ·refine ⟨by rw [hs, hi, hc]; rfl, ?_⟩
    refine qad [] [0] rfl (by simp) ?_ rfl
    simp only [zB, seval, @qai ((k:Int) + 1) (by omega)]
    rfl
  ·simp only [zB, seval, (show ¬ (k:Int) < l.length by omega)]
   have : k = l.length := by omega
   subst this
   rw [List.take_length] at hi
   refine ⟨_, _, qae [] [0] rfl (by simp) (show qbf _ _ _ = AV.d _ from rfl) rfl, ?_, rfl⟩
   rw [qdf hi]
theorem qi7 (fv : FuncId) (n : Nat) (y : D) (p : qan → Bool) (hp : ∀ x : qan, qaf Tryz.prog Gl fv [.d x.toD, .ptr 0 0] [.box n (.d y)] (fun r s => r = .d (.bool (p x)) ∧ s = [.box n (.d y)])) (l : List qan) (hl : l.length < 1000000) :
  qaf Tryz.prog Gl 125 [.d (.sl (l.map qan.toD)), .fn fv [.ptr 0 0]] [.box n (.d y)] (fun r s => r = .d (.bool (l.any p)) ∧ s = [.box n (.d y)]) := by
 refine qac Tryz.func125 rfl rfl (by simp [Tryz.ntmps125]) (qab rfl _ _ _ _ ?_)
 simp only [Tryz.ntmps125, Tryz.results125, qak, List.length_nil]
 simp only [zB, seval]
 refine qaq ((qmq fv n y p hp l hl).mono fun r s hr => ?_)
 obtain ⟨rfl, rfl⟩ := hr
 simp only [zB, seval]
 refine ⟨_, _, qae [] [0] rfl (by simp) (show qbf _ _ _ = AV.d _ from rfl) rfl, ?_, rfl⟩
 rw [qdl]
theorem qs5 (fv : FuncId) (n : Nat) (y : D) (p : qbb → Bool) (hp : ∀ x : qbb, qaf Tryz.prog Gl fv [.d x.toD, .ptr 0 0] [.box n (.d y)] (fun r s => r = .d (.bool (p x)) ∧ s = [.box n (.d y)])) (l : List qbb) (hl : l.length < 1000000) :
  qaf Tryz.prog Gl 176 [.d (.sl (l.map qbb.toD)), .fn fv [.ptr 0 0]] [.box n (.d y)] (fun r s => r = .d (.int .i64 (qfj p l)) ∧ s = [.box n (.d y)]) := by
 refine qac Tryz.func176 rfl rfl (by simp [Tryz.ntmps176]) (qab rfl _ _ _ _ ?_)
 simp only [Tryz.ntmps176, Tryz.results176, qak, List.length_nil]
 simp only [zB, seval]
 refine qa7 l.length (fun k => [(0, .d (.sl (l.map qbb.toD))), (1, .fn fv [.ptr 0 0]), (7, .d (.int .i64 l.length)), (8, .d (.int .i64 k))]) (fun _ => [.box n (.d y)]) (fun k => (l.take k).any p = false) rfl ?_ ?_
 ·refine qad [] [0] rfl (by simp) ?_ rfl
  simp only [zB, seval, Int.cast_ofNat_Int]
  rfl
 ·intro k hi hk
  by_cases h : k < l.length
  ·have hs := qdy p l k h
   simp only [zB, seval, (show (k:Int) < l.length by omega), h, qat _ _ _ (show k < l.length by omega)]
   refine qaq ((hp _).mono fun r s hr => ?_)
   obtain ⟨rfl, rfl⟩ := hr
   simp only [zB, seval]
   refine ifC.mk (fun hc => ?_) (fun hc => ?_)
   ·refine ⟨_, _, qae [] [0] rfl (by simp) (show qbf _ _ _ = AV.d _ from rfl) rfl, ?_, rfl⟩
    rw [qf8 h hi hc]
   ·refine ⟨by rw [hs, hi, hc]; rfl, ?_⟩
    refine qad [] [0] rfl (by simp) ?_ rfl
    simp only [zB, seval, @qai ((k:Int) + 1) (by omega)]
    rfl
  ·simp only [zB, seval, (show ¬ (k:Int) < l.length by omega)]
   have : k = l.length := by omega
   subst this
   rw [List.take_length] at hi
   refine ⟨_, _, qae [] [0] rfl (by simp) (show qbf _ _ _ = AV.d _ from rfl) rfl, ?_, rfl⟩
   rw [qdf hi]
theorem qlu (fv : FuncId) (n : Nat) (y : D) (p : qbb → Bool) (hp : ∀ x : qbb, qaf Tryz.prog Gl fv [.d x.toD, .ptr 0 0] [.box n (.d y)] (fun r s => r = .d (.bool (p x)) ∧ s = [.box n (.d y)])) (l : List qbb) (hl : l.length < 1000000) :
  qaf Tryz.prog Gl 127 [.d (.sl (l.map qbb.toD)), .fn fv [.ptr 0 0]] [.box n (.d y)] (fun r s => r = .d (.bool (l.any p)) ∧ s = [.box n (.d y)]) := by
 refine qac Tryz.func127 rfl rfl (by simp [Tryz.ntmps127]) (qab rfl _ _ _ _ ?_)
 simp only [Tryz.ntmps127, Tryz.results127, qak, List.length_nil]
 simp only [zB, seval]
 refine qaq ((qs5 fv n y p hp l hl).mono fun r s hr => ?_)
 obtain ⟨rfl, rfl⟩ := hr
 simp only [zB, seval]
 refine ⟨_, _, qae [] [0] rfl (by simp) (show qbf _ _ _ = AV.d _ from rfl) rfl, ?_, rfl⟩
 rw [qdl]
theorem q3g (fv : FuncId) (g : qag → Int) (hg : ∀ x : qag, qbw Tryz.prog Gl fv [.d x.toD] (.d (.int .i64 (g x)))) (e : Int) (f : Key → Option AV) (has : Int → Bool) (hst : ∀ k v, f k = some v → ∃ d, v = .d d) (hf : ∀ n, (f (.i n)).isSome = has n) (l : List qag) (hl : l.length < 1000000) :
  qaf Tryz.prog Gl 99 [.d (.int .i64 e), .mapr 0, .d (.sl (l.map qag.toD)), .fn fv []] [.map (some .i64) f] (fun r s => r = .d (.int .i64 (qcq e has g l)) ∧ s = [.map (some .i64) f]) := by
 refine qac Tryz.func99 rfl rfl (by simp [Tryz.ntmps99]) (qab rfl _ _ _ _ ?_)
 simp only [Tryz.ntmps99, Tryz.results99, qak, List.length_nil]
 simp only [zB, seval]
 refine ifC.mk (fun he => ?_) (fun he => ?_)
 ·refine ⟨_, _, qae [] [0] rfl (by simp) (show qbf _ _ _ = AV.d _ from rfl) (qbr hst _), ?_, rfl⟩
  have he : e ≠ 0 := by simpa using he
  rw [qcq, if_pos he]
 ·have he : ¬ e ≠ 0 := by simpa using he
  refine qa7 l.length (fun k => [(1, .mapr 0), (3, .fn fv []), (16, .d (.sl (l.map qag.toD))), (17, .d (.int .i64 l.length)), (18, .d (.int .i64 k))]) (fun _ => [.map (some .i64) f]) (fun k => (l.take k).all (fun x => has (g x)) = true) rfl ?_ ?_
  ·refine qad [] [0] rfl (by simp) ?_ (qbr hst _)
   simp only [zB, seval, Int.cast_ofNat_Int]
   rfl
  ·intro k hi hk
   by_cases h : k < l.length
   ·have hs := qe1 (fun x => has (g x)) l k h
    simp only [zB, seval, (show (k:Int) < l.length by omega), h, qat _ _ _ (show k < l.length by omega)]
    repeat ((with_reducible refine And.intro ?_ ?_); (focus (first | omega | (simp only [qa2]; omega) | (refine qq ?_; rfl) | (refine dq ?_; kernel_rfl) | (intros; simp_all; done))))
    refine qah (hg _) ?_
    obtain ⟨d, hd⟩ := qxw hst (.i (g (l.getD k default))) (.str [])
    simp only [zB, seval, hf, hd]
    repeat ((with_reducible refine And.intro ?_ ?_); (focus (first | omega | (simp only [qa2]; omega) | (refine qq ?_; rfl) | (refine dq ?_; kernel_rfl) | (intros; simp_all; done))))
    refine ifC.mk (fun hc => ?_) (fun hc => ?_)
    ·refine ⟨_, _, qae [] [0] rfl (by simp) (show qbf _ _ _ = AV.d _ from rfl) (qbr hst _), ?_, rfl⟩
     rw [qcq, if_neg he, if_neg (by rw [qyo _ l k h (by simpa using hc)]; simp)]
    ·refine ⟨by rw [hs, hi]; simpa using hc, ?_⟩
     refine qad [] [0] rfl (by simp) ?_ (qbr hst _)
     simp only [zB, seval, @qai ((k:Int) + 1) (by omega)]
     rfl
   ·simp only [zB, seval, (show ¬ (k:Int) < l.length by omega)]
    have : k = l.length := by omega
    subst this
    rw [List.take_length] at hi
    refine ⟨_, _, qae [] [0] rfl (by simp) (show qbf _ _ _ = AV.d _ from rfl) (qbr hst _), ?_, rfl⟩
    rw [qcq, if_neg he, if_pos hi]
theorem qs4 (fv : FuncId) (g : qbt → Int) (hg : ∀ x : qbt, qbw Tryz.prog Gl fv [.d x.toD] (.d (.int .i64 (g x)))) (e : Int) (f : Key → Option AV) (has : Int → Bool) (hst : ∀ k v, f k = some v → ∃ d, v = .d d) (hf : ∀ n, (f (.i n)).isSome = has n) (l : List qbt) (hl : l.length < 1000000) :
  qaf Tryz.prog Gl 103 [.d (.int .i64 e), .mapr 0, .d (.sl (l.map qbt.toD)), .fn fv []] [.map (some .i64) f] (fun r s => r = .d (.int .i64 (qcq e has g l)) ∧ s = [.map (some .i64) f]) := by
 refine qac Tryz.func103 rfl rfl (by simp [Tryz.ntmps103]) (qab rfl _ _ _ _ ?_)
 simp only [Tryz.ntmps103, Tryz.results103, qak, List.length_nil]
 simp only [zB, seval]
 refine ifC.mk (fun he => ?_) (fun he => ?_)
 ·refine ⟨_, _, qae [] [0] rfl (by simp) (show qbf _ _ _ = AV.d _ from rfl) (qbr hst _), ?_, rfl⟩
  have he : e ≠ 0 := by simpa using he
  rw [qcq, if_pos he]
 ·have he : ¬ e ≠ 0 := by simpa using he
  refine qa7 l.length (fun k => [(1, .mapr 0), (3, .fn fv []), (16, .d (.sl (l.map qbt.toD))), (17, .d (.int .i64 l.length)), (18, .d (.int .i64 k))]) (fun _ => [.map (some .i64) f]) (fun k => (l.take k).all (fun x => has (g x)) = true) rfl ?_ ?_
  ·refine qad [] [0] rfl (by simp) ?_ (qbr hst _)
   simp only [zB, seval, Int.cast_ofNat_Int]
   rfl
  ·intro k hi hk
   by_cases h : k < l.length
   ·have hs := qe1 (fun x => has (g x)) l k h
    simp only [zB, seval, (show (k:Int) < l.length by omega), h, qat _ _ _ (show k < l.length by omega)]
    repeat ((with_reducible refine And.intro ?_ ?_); (focus (first | omega | (simp only [qa2]; omega) | (refine qq ?_; rfl) | (refine dq ?_; kernel_rfl) | (intros; simp_all; done))))
    refine qah (hg _) ?_
    obtain ⟨d, hd⟩ := qxw hst (.i (g (l.getD k default))) (.str [])
    simp only [zB, seval, hf, hd]
    repeat ((with_reducible refine And.intro ?_ ?_); (focus (first | omega | (simp only [qa2]; omega) | (refine qq ?_; rfl) | (refine dq ?_; kernel_rfl) | (intros; simp_all; done))))
    refine ifC.mk (fun hc => ?_) (fun hc => ?_)
    ·refine ⟨_, _, qae [] [0] rfl (by simp) (show qbf _ _ _ = AV.d _ from rfl) (qbr hst _), ?_, rfl⟩
     rw [qcq, if_neg he, if_neg (by rw [qyo _ l k h (by simpa using hc)]; simp)]
    ·refine ⟨by rw [hs, hi]; simpa using hc, ?_⟩
     refine qad [] [0] rfl (by simp) ?_ (qbr hst _)
     simp only [zB, seval, @qai ((k:Int) + 1) (by omega)]
     rfl
   ·simp only [zB, seval, (show ¬ (k:Int) < l.length by omega)]
    have : k = l.length := by omega
    subst this
    rw [List.take_length] at hi
    refine ⟨_, _, qae [] [0] rfl (by simp) (show qbf _ _ _ = AV.d _ from rfl) (qbr hst _), ?_, rfl⟩
    rw [qcq, if_neg he, if_pos hi]
theorem qzm (fv : FuncId) (g : qan → Int) (hg : ∀ x : qan, qbw Tryz.prog Gl fv [.d x.toD] (.d (.int .i64 (g x)))) (e : Int) (f : Key → Option AV) (has : Int → Bool) (hst : ∀ k v, f k = some v → ∃ d, v = .d d) (hf : ∀ n, (f (.i n)).isSome = has n) (l : List qan) (hl : l.length < 1000000) :
  qaf Tryz.prog Gl 107 [.d (.int .i64 e), .mapr 0, .d (.sl (l.map qan.toD)), .fn fv []] [.map (some .i64) f] (fun r s => r = .d (.int .i64 (qcq e has g l)) ∧ s = [.map (some .i64) f]) := by
 refine qac Tryz.func107 rfl rfl (by simp [Tryz.ntmps107]) (qab rfl _ _ _ _ ?_)
 simp only [Tryz.ntmps107, Tryz.results107, qak, List.length_nil]
 simp only [zB, seval]
 refine ifC.mk (fun he => ?_) (fun he => ?_)
 ·refine ⟨_, _, qae [] [0] rfl (by simp) (show qbf _ _ _ = AV.d _ from rfl) (qbr hst _), ?_, rfl⟩
  have he : e ≠ 0 := by simpa using he
  rw [qcq, if_pos he]
 ·have he : ¬ e ≠ 0 := by simpa using he
  refine qa7 l.length (fun k => [(1, .mapr 0), (3, .fn fv []), (16, .d (.sl (l.map qan.toD))), (17, .d (.int .i64 l.length)), (18, .d (.int .i64 k))]) (fun _ => [.map (some .i64) f]) (fun k => (l.take k).all (fun x => has (g x)) = true) rfl ?_ ?_
  ·refine qad [] [0] rfl (by simp) ?_ (qbr hst _)
   simp only [zB, seval, Int.cast_ofNat_Int]
   rfl
  ·intro k hi hk
   by_cases h : k < l.length
   ·have hs := qe1 (fun x => has (g x)) l k h
    simp only [zB, seval, (show (k:Int) < l.length by omega), h, qat _ _ _ (show k < l.length by omega)]
    repeat ((with_reducible refine And.intro ?_ ?_); (focus (first | omega | (simp only [qa2]; omega) | (refine qq ?_; rfl) | (refine dq ?_; kernel_rfl) | (intros; simp_all; done))))
    refine qah (hg _) ?_
    obtain ⟨d, hd⟩ := qxw hst (.i (g (l.getD k default))) (.str [])
    simp only [zB, seval, hf, hd]
    repeat ((with_reducible refine And.intro ?_ ?_); (focus (first | omega | (simp only [qa2]; omega) | (refine qq ?_; rfl) | (refine dq ?_; kernel_rfl) | (intros; simp_all; done))))
    refine ifC.mk (fun hc => ?_) (fun hc => ?_)
    ·refine ⟨_, _, qae [] [0] rfl (by simp) (show qbf _ _ _ = AV.d _ from rfl) (qbr hst _), ?_, rfl⟩
     rw [qcq, if_neg he, if_neg (by rw [qyo _ l k h (by simpa using hc)]; simp)]
    ·refine ⟨by rw [hs, hi]; simpa using hc, ?_⟩
     refine qad [] [0] rfl (by simp) ?_ (qbr hst _)
     simp only [zB, seval, @qai ((k:Int) + 1) (by omega)]
     rfl
   ·simp only [zB, seval, (show ¬ (k:Int) < l.length by omega)]
    have : k = l.length := by omega
    subst this
    rw [List.take_length] at hi
    refine ⟨_, _, qae [] [0] rfl (by simp) (show qbf _ _ _ = AV.d _ from rfl) (qbr hst _), ?_, rfl⟩
    rw [qcq, if_neg he, if_pos hi]
theorem q3h (fv : FuncId) (g : qar → Int) (hg : ∀ x : qar, qbw Tryz.prog Gl fv [.d x.toD] (.d (.int .i64 (g x)))) (e : Int) (f : Key → Option AV) (has : Int → Bool) (hst : ∀ k v, f k = some v → ∃ d, v = .d d) (hf : ∀ n, (f (.i n)).isSome = has n) (l : List qar) (hl : l.length < 1000000) :
  qaf Tryz.prog Gl 111 [.d (.int .i64 e), .mapr 0, .d (.sl (l.map qar.toD)), .fn fv []] [.map (some .i64) f] (fun r s => r = .d (.int .i64 (qcq e has g l)) ∧ s = [.map (some .i64) f]) := by
 refine qac Tryz.func111 rfl rfl (by simp [Tryz.ntmps111]) (qab rfl _ _ _ _ ?_)
 simp only [Tryz.ntmps111, Tryz.results111, qak, List.length_nil]
 simp only [zB, seval]
 refine ifC.mk (fun he => ?_) (fun he => ?_)
 ·refine ⟨_, _, qae [] [0] rfl (by simp) (show qbf _ _ _ = AV.d _ from rfl) (qbr hst _), ?_, rfl⟩
  have he : e ≠ 0 := by simpa using he
  rw [qcq, if_pos he]
 ·have he : ¬ e ≠ 0 := by simpa using he
  refine qa7 l.length (fun k => [(1, .mapr 0), (3, .fn fv []), (16, .d (.sl (l.map qar.toD))), (17, .d (.int .i64 l.length)), (18, .d (.int .i64 k))]) (fun _ => [.map (some .i64) f]) (fun k => (l.take k).all (fun x => has (g x)) = true) rfl ?_ ?_
  ·refine qad [] [0] rfl (by simp) ?_ (qbr hst _)
   simp only [zB, seval, Int.cast_ofNat_Int]
   rfl
  ·intro k hi hk
   by_cases h : k < l.length
   ·have hs := qe1 (fun x => has (g x)) l k h
    simp only [zB, seval, (show (k:Int) < l.length by omega), h, qat _ _ _ (show k < l.length by omega)]
    repeat ((with_reducible refine And.intro ?_ ?_); (focus (first | omega | (simp only [qa2]; omega) | (refine qq ?_; rfl) | (refine dq ?_; kernel_rfl) | (intros; simp_all; done))))
    refine qah (hg _) ?_
    obtain ⟨d, hd⟩ := qxw hst (.i (g (l.getD k default))) (.str [])
    simp only [zB, seval, hf, hd]
    repeat ((with_reducible refine And.intro ?_ ?_); (focus (first | omega | (simp only [qa2]; omega) | (refine qq ?_; rfl) | (refine dq ?_; kernel_rfl) | (intros; simp_all; done))))
    refine ifC.mk (fun hc => ?_) (fun hc => ?_)
    ·refine ⟨_, _, qae [] [0] rfl (by simp) (show qbf _ _ _ = AV.d _ from rfl) (qbr hst _), ?_, rfl⟩
     rw [qcq, if_neg he, if_neg (by rw [qyo _ l k h (by simpa using hc)]; simp)]
    ·refine ⟨by rw [hs, hi]; simpa using hc, ?_⟩
     refine qad [] [0] rfl (by simp) ?_ (qbr hst _)
     simp only [zB, seval, @qai ((k:Int) + 1) (by omega)]
     rfl
   ·simp only [zB, seval, (show ¬ (k:Int) < l.length by omega)]
    have : k = l.length := by omega
    subst this
    rw [List.take_length] at hi
    refine ⟨_, _, qae [] [0] rfl (by simp) (show qbf _ _ _ = AV.d _ from rfl) (qbr hst _), ?_, rfl⟩
    rw [qcq, if_neg he, if_pos hi]

theorem cm : qc0 (Value.map none) = .d (.raw (.map none)) := rfl
theorem zC : type_of% (And.intro @zB (And.intro @cm @qya)) := And.intro @zB (And.intro @cm @qya)
def qlq (a b : Int) : Bool := decide (0 ≤ a) && decide (a < b) && decide (b ≤ 1000000000000)
def qjz (a b c d : Int) : Bool := decide (c ≤ a) && decide (b ≤ d)
def qg6 (a b t : Int) : Bool := decide (a ≤ t) && decide (t < b)
theorem qzp (a b : Int) : qbw Tryz.prog Gl 158 [.d (.agg [.int .i64 a, .int .i64 b])] (.d (.bool (qlq a b))) := by
 refine qbw.of1 ?_
 refine qac Tryz.func158 rfl rfl (by simp [Tryz.ntmps158]) (qab rfl _ _ _ _ ?_)
 simp only [Tryz.ntmps158, Tryz.results158, qak, List.length_nil]
 simp only [zC, seval]
 exact ⟨_, _, qa0, rfl, rfl⟩
theorem qzi (a b c d : Int) : qbw Tryz.prog Gl 117 [.d (.agg [.int .i64 a, .int .i64 b]), .d (.agg [.int .i64 c, .int .i64 d])] (.d (.bool (qjz a b c d))) := by
 refine qbw.of2 ?_
 refine qac Tryz.func117 rfl rfl (by simp [Tryz.ntmps117]) (qab rfl _ _ _ _ ?_)
 simp only [Tryz.ntmps117, Tryz.results117, qak, List.length_nil]
 simp only [zC, seval]
 exact ⟨_, _, qa0, rfl, rfl⟩
theorem qpp (a b t : Int) : qbw Tryz.prog Gl 124 [.d (.agg [.int .i64 a, .int .i64 b]), .d (.int .i64 t)] (.d (.bool (qg6 a b t))) := by
 refine qbw.of2 ?_
 refine qac Tryz.func124 rfl rfl (by simp [Tryz.ntmps124]) (qab rfl _ _ _ _ ?_)
 simp only [Tryz.ntmps124, Tryz.results124, qak, List.length_nil]
 simp only [zC, seval]
 exact ⟨_, _, qa0, rfl, rfl⟩
def qm2 (x : qao) : Int := if (decide (x.id < 0) || decide (1000000000000000 < x.id) || decide (x.dom < 0) || decide (8 ≤ x.dom)) = true then 2 else qdo x.name
theorem Qi0 (x : qao) : qbw Tryz.prog Gl 157 [.d x.toD] (.d (.int .i64 (qm2 x))) := by
 refine qbw.of1 ?_
 refine qac Tryz.func157 rfl rfl (by simp [Tryz.ntmps157]) (qab rfl _ _ _ _ ?_)
 simp only [Tryz.ntmps157, Tryz.results157, qak, List.length_nil]
 simp only [zC, seval]
 refine ifC.mk (fun h => ?_) (fun h => ?_)
 ·refine ⟨_, _, qa0, ?_, rfl⟩
  rw [qm2, if_pos h]
 ·refine qah (qx1 _) ?_
  simp only [zC, seval]
  refine ⟨_, _, qa0, ?_, rfl⟩
  rw [qm2, if_neg (by rw [h]; simp)]
theorem Qei (x : qag) : qbw Tryz.prog Gl 101 [.d x.toD] (.d (.int .i64 x.thread)) := by
 refine qbw.of1 ?_
 refine qac Tryz.func101 rfl rfl (by simp [Tryz.ntmps101]) (qab rfl _ _ _ _ ?_)
 simp only [Tryz.ntmps101, Tryz.results101, qak, List.length_nil]
 simp only [zC, seval]
 exact ⟨_, _, qa0, rfl, rfl⟩
theorem Qeh (x : qbt) : qbw Tryz.prog Gl 105 [.d x.toD] (.d (.int .i64 x.ft)) := by
 refine qbw.of1 ?_
 refine qac Tryz.func105 rfl rfl (by simp [Tryz.ntmps105]) (qab rfl _ _ _ _ ?_)
 simp only [Tryz.ntmps105, Tryz.results105, qak, List.length_nil]
 simp only [zC, seval]
 exact ⟨_, _, qa0, rfl, rfl⟩
theorem Qeg (x : qbt) : qbw Tryz.prog Gl 106 [.d x.toD] (.d (.int .i64 x.tt)) := by
 refine qbw.of1 ?_
 refine qac Tryz.func106 rfl rfl (by simp [Tryz.ntmps106]) (qab rfl _ _ _ _ ?_)
 simp only [Tryz.ntmps106, Tryz.results106, qak, List.length_nil]
 simp only [zC, seval]
 exact ⟨_, _, qa0, rfl, rfl⟩
theorem Qef (x : qan) : qbw Tryz.prog Gl 109 [.d x.toD] (.d (.int .i64 x.thread)) := by
 refine qbw.of1 ?_
 refine qac Tryz.func109 rfl rfl (by simp [Tryz.ntmps109]) (qab rfl _ _ _ _ ?_)
 simp only [Tryz.ntmps109, Tryz.results109, qak, List.length_nil]
 simp only [zC, seval]
 exact ⟨_, _, qa0, rfl, rfl⟩
theorem Qee (x : qar) : qbw Tryz.prog Gl 113 [.d x.toD] (.d (.int .i64 x.thread)) := by
 refine qbw.of1 ?_
 refine qac Tryz.func113 rfl rfl (by simp [Tryz.ntmps113]) (qab rfl _ _ _ _ ?_)
 simp only [Tryz.ntmps113, Tryz.results113, qak, List.length_nil]
 simp only [zC, seval]
 exact ⟨_, _, qa0, rfl, rfl⟩
theorem Qaz (a b : Int) (x : qag) : qaf Tryz.prog Gl 116 [.d x.toD, .ptr 0 0] [.box 2 (.d (.agg [.int .i64 a, .int .i64 b]))] (fun r s => r = .d (.bool (!qjz x.lo x.hi a b)) ∧ s = [.box 2 (.d (.agg [.int .i64 a, .int .i64 b]))]) := by
 refine qac Tryz.func116 rfl rfl (by simp [Tryz.ntmps116]) (qab rfl _ _ _ _ ?_)
 simp only [Tryz.ntmps116, Tryz.results116, qak, List.length_nil]
 simp only [zC, seval]
 refine qah (qzi _ _ _ _) ?_
 simp only [zC, seval]
 refine ⟨_, _, qae [] [0] rfl (by simp) (show qbf _ _ _ = AV.d _ from rfl) rfl, ?_, rfl⟩
 rfl
theorem Qay (a b : Int) (x : qax) : qaf Tryz.prog Gl 119 [.d x.toD, .ptr 0 0] [.box 2 (.d (.agg [.int .i64 a, .int .i64 b]))] (fun r s => r = .d (.bool (!qjz x.lo x.hi a b)) ∧ s = [.box 2 (.d (.agg [.int .i64 a, .int .i64 b]))]) := by
 refine qac Tryz.func119 rfl rfl (by simp [Tryz.ntmps119]) (qab rfl _ _ _ _ ?_)
 simp only [Tryz.ntmps119, Tryz.results119, qak, List.length_nil]
 simp only [zC, seval]
 refine qah (qzi _ _ _ _) ?_
 simp only [zC, seval]
 refine ⟨_, _, qae [] [0] rfl (by simp) (show qbf _ _ _ = AV.d _ from rfl) rfl, ?_, rfl⟩
 rfl
theorem Qax (a b : Int) (x : qar) : qaf Tryz.prog Gl 121 [.d x.toD, .ptr 0 0] [.box 2 (.d (.agg [.int .i64 a, .int .i64 b]))] (fun r s => r = .d (.bool (!qjz x.lo x.hi a b)) ∧ s = [.box 2 (.d (.agg [.int .i64 a, .int .i64 b]))]) := by
 refine qac Tryz.func121 rfl rfl (by simp [Tryz.ntmps121]) (qab rfl _ _ _ _ ?_)
 simp only [Tryz.ntmps121, Tryz.results121, qak, List.length_nil]
 simp only [zC, seval]
 refine qah (qzi _ _ _ _) ?_
 simp only [zC, seval]
 refine ⟨_, _, qae [] [0] rfl (by simp) (show qbf _ _ _ = AV.d _ from rfl) rfl, ?_, rfl⟩
 rfl
theorem Qav (a b : Int) (x : qan) : qaf Tryz.prog Gl 126 [.d x.toD, .ptr 0 0] [.box 2 (.d (.agg [.int .i64 a, .int .i64 b]))] (fun r s => r = .d (.bool (!qg6 a b x.at_)) ∧ s = [.box 2 (.d (.agg [.int .i64 a, .int .i64 b]))]) := by
 refine qac Tryz.func126 rfl rfl (by simp [Tryz.ntmps126]) (qab rfl _ _ _ _ ?_)
 simp only [Tryz.ntmps126, Tryz.results126, qak, List.length_nil]
 simp only [zC, seval]
 refine qah (qpp _ _ _) ?_
 simp only [zC, seval]
 refine ⟨_, _, qae [] [0] rfl (by simp) (show qbf _ _ _ = AV.d _ from rfl) rfl, ?_, rfl⟩
 rfl
theorem Qau (a b : Int) (x : qbb) : qaf Tryz.prog Gl 128 [.d x.toD, .ptr 0 0] [.box 2 (.d (.agg [.int .i64 a, .int .i64 b]))] (fun r s => r = .d (.bool (!qg6 a b x.at_)) ∧ s = [.box 2 (.d (.agg [.int .i64 a, .int .i64 b]))]) := by
 refine qac Tryz.func128 rfl rfl (by simp [Tryz.ntmps128]) (qab rfl _ _ _ _ ?_)
 simp only [Tryz.ntmps128, Tryz.results128, qak, List.length_nil]
 simp only [zC, seval]
 refine qah (qpp _ _ _) ?_
 simp only [zC, seval]
 refine ⟨_, _, qae [] [0] rfl (by simp) (show qbf _ _ _ = AV.d _ from rfl) rfl, ?_, rfl⟩
 rfl
theorem Qaw (a b : Int) (x : qbt) : qaf Tryz.prog Gl 123 [.d x.toD, .ptr 0 0] [.box 2 (.d (.agg [.int .i64 a, .int .i64 b]))] (fun r s => r = .d (.bool (!qg6 a b x.send || !qg6 a b x.recv)) ∧ s = [.box 2 (.d (.agg [.int .i64 a, .int .i64 b]))]) := by
 refine qac Tryz.func123 rfl rfl (by simp [Tryz.ntmps123]) (qab rfl _ _ _ _ ?_)
 simp only [Tryz.ntmps123, Tryz.results123, qak, List.length_nil]
 simp only [zC, seval]
 refine qah (qpp _ _ _) ?_
 simp only [zC, seval]
 repeat ((with_reducible refine And.intro ?_ ?_); (focus (first | omega | (simp only [qa2]; omega) | (refine qq ?_; rfl) | (refine dq ?_; kernel_rfl) | (intros; simp_all; done))))
 refine qbs (fun _ => qpp _ _ _) ?_
 simp only [zC, seval]
 repeat ((with_reducible refine And.intro ?_ ?_); (focus (first | omega | (simp only [qa2]; omega) | (refine qq ?_; rfl) | (refine dq ?_; kernel_rfl) | (intros; simp_all; done))))
 refine ⟨_, _, qae [] [0] rfl (by simp) (show qbf _ _ _ = AV.d _ from rfl) rfl, ?_, rfl⟩
 rfl
def q8t (t : qa4) : Bool := t.slices.any (fun x => !qjz x.lo x.hi t.lo t.hi) || t.states.any (fun x => !qjz x.lo x.hi t.lo t.hi) || t.blocks.any (fun x => !qjz x.lo x.hi t.lo t.hi)
 || t.flows.any (fun x => !qg6 t.lo t.hi x.send || !qg6 t.lo t.hi x.recv) || t.samples.any (fun x => !qg6 t.lo t.hi x.at_) || t.steps.any (fun x => !qg6 t.lo t.hi x.at_)
structure qa4.Few (t : qa4) : Prop where
 threads : t.threads.length < 1000000
 slices : t.slices.length < 1000000
 states : t.states.length < 1000000
 flows : t.flows.length < 1000000
 samples : t.samples.length < 1000000
 steps : t.steps.length < 1000000
 blocks : t.blocks.length < 1000000
 lost : t.lost.length < 1000000
 sst : ∀ x ∈ t.samples, x.stack.length < 1000000
 bst : ∀ x ∈ t.blocks, x.stack.length < 1000000
theorem Qek (t : qa4) (ht : t.Few) : qbw Tryz.prog Gl 54 [.d t.toD] (.d (.bool (q8t t))) := by
 refine qbw.of1 ?_
 refine qac Tryz.func54 rfl rfl (by simp [Tryz.ntmps54]) (qab rfl _ _ _ _ ?_)
 simp only [Tryz.ntmps54, Tryz.results54, qak, List.length_nil]
 simp only [zC, seval]
 repeat ((with_reducible refine And.intro ?_ ?_); (focus (first | omega | (simp only [qa2]; omega) | (refine qq ?_; rfl) | (refine dq ?_; kernel_rfl) | (intros; simp_all; done))))
 refine qdm 1 (qj8 _ 2 _ _ (Qaz t.lo t.hi) t.slices ht.slices) (fun s => rfl) (by rfl) trivial ?_
 simp only [zC, seval]
 repeat ((with_reducible refine And.intro ?_ ?_); (focus (first | omega | (simp only [qa2]; omega) | (refine qq ?_; rfl) | (refine dq ?_; kernel_rfl) | (intros; simp_all; done))))
 refine qgt 1 (qj7 _ 2 _ _ (Qay t.lo t.hi) t.states ht.states) (fun s => rfl) (by rfl) trivial ?_
 simp only [zC, seval]
 repeat ((with_reducible refine And.intro ?_ ?_); (focus (first | omega | (simp only [qa2]; omega) | (refine qq ?_; rfl) | (refine dq ?_; kernel_rfl) | (intros; simp_all; done))))
 refine qgt 1 (qj9 _ 2 _ _ (Qax t.lo t.hi) t.blocks ht.blocks) (fun s => rfl) (by rfl) trivial ?_
 simp only [zC, seval]
 repeat ((with_reducible refine And.intro ?_ ?_); (focus (first | omega | (simp only [qa2]; omega) | (refine qq ?_; rfl) | (refine dq ?_; kernel_rfl) | (intros; simp_all; done))))
 refine qgt 1 (qlv _ 2 _ _ (Qaw t.lo t.hi) t.flows ht.flows) (fun s => rfl) (by rfl) trivial ?_
 simp only [zC, seval]
 repeat ((with_reducible refine And.intro ?_ ?_); (focus (first | omega | (simp only [qa2]; omega) | (refine qq ?_; rfl) | (refine dq ?_; kernel_rfl) | (intros; simp_all; done))))
 refine qgt 1 (qi7 _ 2 _ _ (Qav t.lo t.hi) t.samples ht.samples) (fun s => rfl) (by rfl) trivial ?_
 simp only [zC, seval]
 repeat ((with_reducible refine And.intro ?_ ?_); (focus (first | omega | (simp only [qa2]; omega) | (refine qq ?_; rfl) | (refine dq ?_; kernel_rfl) | (intros; simp_all; done))))
 refine qgt 1 (qlu _ 2 _ _ (Qau t.lo t.hi) t.steps ht.steps) (fun s => rfl) (by rfl) trivial ?_
 simp only [zC, seval]
 exact ⟨_, _, qa0, rfl, rfl⟩
def mapOf (l : List qao) : Key → Option AV := l.foldl (fun f x => qfx f (.i x.id) (.d (.str x.name))) (fun _ => none)
theorem Qan (l : List qao) (x : qao) : mapOf (l ++ [x]) = qfx (mapOf l) (.i x.id) (.d (.str x.name)) := by simp [mapOf]
theorem qsw : ∀ (l : List qao) (g : Key → Option AV), (∀ k v, g k = some v → ∃ d, v = .d d) → ∀ k v, l.foldl (fun f x => qfx f (.i x.id) (.d (.str x.name))) g k = some v → ∃ d, v = .d d
 | [], g, hg, k, v, h => hg k v h
 | x :: l, g, hg, k, v, h => qsw l _ (fun k v hk => by
   by_cases hq : k = .i x.id
   ·have e : qfx g (.i x.id) (.d (.str x.name)) k = some (.d (.str x.name)) := by unfold qfx; rw [if_pos hq]
    have hk : qfx g (.i x.id) (.d (.str x.name)) k = some v := hk
    rw [e] at hk
    simp only [Option.some.injEq] at hk; exact ⟨_, hk.symm⟩
   ·have e : qfx g (.i x.id) (.d (.str x.name)) k = g k := by unfold qfx; rw [if_neg hq]
    have hk : qfx g (.i x.id) (.d (.str x.name)) k = some v := hk
    rw [e] at hk
    exact hg k v hk) k v h
theorem qfy (l : List qao) : ∀ k v, mapOf l k = some v → ∃ d, v = .d d := qsw l _ (fun k v h => by cases h)
def quh (l : List qao) (n : Int) : Bool := l.any fun x => x.id == n
theorem q22 : ∀ (l : List qao) (g : Key → Option AV) (n : Int), (l.foldl (fun f x => qfx f (.i x.id) (.d (.str x.name))) g (.i n)).isSome = (quh l n || (g (.i n)).isSome)
 | [], g, n => by simp [quh]
 | x :: l, g, n => by
  rw [List.foldl_cons, q22 l]
  unfold quh qfx
  rw [List.any_cons]
  by_cases h : n = x.id
  ·subst h; simp
  ·have h2 : (x.id == n) = false := by simpa using fun e => h e.symm
   have h3 : ¬ Key.i n = Key.i x.id := by simpa using h
   rw [if_neg h3, h2, Bool.false_or]
theorem qov (l : List qao) (n : Int) : (mapOf l (.i n)).isSome = quh l n := by
 unfold mapOf; rw [q22]; simp
def qyv (l : List qao) (k : Nat) : Int := if qm2 (l.getD k default) ≠ 0 then qm2 (l.getD k default) else if quh (l.take k) (l.getD k default).id = true then 4 else 0
def qdu (l : List qao) : Int := if 64 < l.length then 7 else qbe (qyv l) l.length
theorem q3c (t : qa4) (ht : t.Few) : qaf Tryz.prog Gl 98 [.d t.toD] [] (fun r s => if qdu t.threads = 0 then r = .tup [.mapr 0, .d (.int .i64 0)] ∧ s = [.map (some .i64) (mapOf t.threads)] else r = .tup [.d (.raw (.map none)), .d (.int .i64 (qdu t.threads))] ∧ s = []) := by
 have hlen := ht.threads
 refine qac Tryz.func98 rfl rfl (by simp [Tryz.ntmps98]) (qab rfl _ _ _ _ ?_)
 simp only [Tryz.ntmps98, Tryz.results98, qak, List.length_nil]
 simp only [zC, seval]
 repeat ((with_reducible refine And.intro ?_ ?_); (focus (first | omega | (simp only [qa2]; omega) | (refine qq ?_; rfl) | (refine dq ?_; kernel_rfl) | (intros; simp_all; done))))
 refine ifC.mk (fun h => ?_) (fun h => ?_)
 ·have h : 64 < t.threads.length := by simp at h; omega
  refine ⟨_, _, qae [] [] rfl (by simp) (show qbf _ _ _ = AV.tup [.d _, .d _] from rfl) rfl, ?_⟩
  have e : qdu t.threads = 7 := by rw [qdu, if_pos h]
  rw [e, if_neg (by decide)]
  exact ⟨rfl, rfl⟩
 ·have h : ¬ 64 < t.threads.length := by simp at h; omega
  repeat ((with_reducible refine And.intro ?_ ?_); (focus (first | omega | (simp only [qa2]; omega) | (refine qq ?_; rfl) | (refine dq ?_; kernel_rfl) | (intros; simp_all; done))))
  have hF : qdu t.threads = qbe (qyv t.threads) t.threads.length := by rw [qdu, if_neg h]
  refine qa7 t.threads.length (fun k => [(4, .mapr 0), (16, .d (.sl (t.threads.map qao.toD))), (17, .d (.int .i64 t.threads.length)), (18, .d (.int .i64 k))]) (fun k => [.map (some .i64) (mapOf (t.threads.take k))]) (fun k => qbe (qyv t.threads) k = 0) rfl ?_ ?_
  ·refine qad [] [1] rfl (by simp) ?_ ?_
   ·simp only [zC, seval, Int.cast_ofNat_Int]
    all_goals rfl
   ·rfl
  ·intro k hi hk
   have hst := qfy (t.threads.take k)
   by_cases h2 : k < t.threads.length
   ·simp only [zC, seval, (show (k:Int) < t.threads.length by omega), h2, qat _ _ _ (show k < t.threads.length by omega)]
    repeat ((with_reducible refine And.intro ?_ ?_); (focus (first | omega | (simp only [qa2]; omega) | (refine qq ?_; rfl) | (refine dq ?_; kernel_rfl) | (intros; simp_all; done))))
    refine qah (Qi0 _) ?_
    simp only [zC, seval]
    refine ifC.mk (fun hc => ?_) (fun hc => ?_)
    ·have hc : qm2 (t.threads.getD k default) ≠ 0 := by simpa using hc
     have hat : qyv t.threads k = qm2 (t.threads.getD k default) := by rw [qyv, if_pos hc]
     have hall := qcf hi (by rw [hat]; exact hc) h2
     rw [← hF, hat] at hall
     refine ⟨_, _, qae [] [] rfl (by simp) (show qbf _ _ _ = AV.tup [.d _, .d _] from rfl) rfl, ?_⟩
     rw [if_neg (by rw [hall]; exact hc), hall]
     exact ⟨rfl, rfl⟩
    ·have hc : ¬ qm2 (t.threads.getD k default) ≠ 0 := by simpa using hc
     obtain ⟨d, hd⟩ := qxw hst (.i (t.threads.getD k default).id) (.str [])
     simp only [zC, seval, qov, hd]
     repeat ((with_reducible refine And.intro ?_ ?_); (focus (first | omega | (simp only [qa2]; omega) | (refine qq ?_; rfl) | (refine dq ?_; kernel_rfl) | (intros; simp_all; done))))
     refine ifC.mk (fun hz => ?_) (fun hz => ?_)
     ·have hat : qyv t.threads k = 4 := by rw [qyv, if_neg hc, if_pos hz]
      have hall := qcf hi (by rw [hat]; decide) h2
      rw [← hF, hat] at hall
      refine ⟨_, _, qae [] [] rfl (by simp) (show qbf _ _ _ = AV.tup [.d _, .d _] from rfl) rfl, ?_⟩
      rw [if_neg (by rw [hall]; decide), hall]
      exact ⟨rfl, rfl⟩
     ·have hat : qyv t.threads k = 0 := by rw [qyv, if_neg hc, if_neg (by rw [hz]; simp)]
      have hs := Qan (t.threads.take k) (t.threads.getD k default)
      rw [← qa1 _ _ h2] at hs
      repeat ((with_reducible refine And.intro ?_ ?_); (focus (first | omega | (simp only [qa2]; omega) | (refine qq ?_; rfl) | (refine dq ?_; kernel_rfl) | (intros; simp_all; done))))
      refine ⟨qbq hi hat, ?_⟩
      refine qad [] [0] rfl (by simp) ?_ ?_
      ·simp only [zC, seval, @qai ((k:Int) + 1) (by omega)]
       all_goals rfl
      ·rw [hs]
       exact qbr (fun k v hk => by rw [← hs] at hk; exact qfy _ k v hk) _
   ·simp only [zC, seval, (show ¬ (k:Int) < t.threads.length by omega)]
    have : k = t.threads.length := by omega
    subst this
    rw [List.take_length] at hst ⊢
    refine ⟨_, _, qae [] [0] rfl (by simp) (show qbf _ _ _ = AV.tup [.mapr 0, .d _] from rfl) (qbr hst _), ?_⟩
    rw [hF, hi, if_pos rfl]
    exact ⟨rfl, rfl⟩
def qjv (has : Int → Bool) (x : qcc) : Int := if has x.thread = false then 5 else if (!qlq x.lo x.hi || decide (x.count < 1) || decide (1000000000000000 < x.count)) = true then 2 else 0
def Qd4 (has : Int → Bool) (l : List qcc) : Int := qbe (fun k => qjv has (l.getD k default)) l.length
theorem Qiu (f : Key → Option AV) (has : Int → Bool) (hst : ∀ k v, f k = some v → ∃ d, v = .d d) (hf : ∀ n, (f (.i n)).isSome = has n) (l : List qcc) (hl : l.length < 1000000) :
  qaf Tryz.prog Gl 114 [.mapr 0, .d (.sl (l.map qcc.toD))] [.map (some .i64) f] (fun r s => r = .d (.int .i64 (Qd4 has l)) ∧ s = [.map (some .i64) f]) := by
 refine qac Tryz.func114 rfl rfl (by simp [Tryz.ntmps114]) (qab rfl _ _ _ _ ?_)
 simp only [Tryz.ntmps114, Tryz.results114, qak, List.length_nil]
 simp only [zC, seval]
 refine qa7 l.length (fun k => [(0, .mapr 0), (9, .d (.sl (l.map qcc.toD))), (10, .d (.int .i64 l.length)), (11, .d (.int .i64 k))]) (fun _ => [.map (some .i64) f]) (fun k => qbe (fun k => qjv has (l.getD k default)) k = 0) rfl ?_ ?_
 ·refine qad [] [0] rfl (by simp) ?_ (qbr hst _)
  simp only [zC, seval, Int.cast_ofNat_Int]
  all_goals rfl
 ·intro k hi hk
  by_cases h : k < l.length
  ·obtain ⟨d, hd⟩ := qxw hst (.i (l.getD k default).thread) (.str [])
   simp only [zC, seval, (show (k:Int) < l.length by omega), h, qat _ _ _ (show k < l.length by omega)]
   repeat ((with_reducible refine And.intro ?_ ?_); (focus (first | omega | (simp only [qa2]; omega) | (refine qq ?_; rfl) | (refine dq ?_; kernel_rfl) | (intros; simp_all; done))))
   simp only [zC, seval, hf, hd]
   repeat ((with_reducible refine And.intro ?_ ?_); (focus (first | omega | (simp only [qa2]; omega) | (refine qq ?_; rfl) | (refine dq ?_; kernel_rfl) | (intros; simp_all; done))))
   refine ifC.mk (fun hc => ?_) (fun hc => ?_)
   ·refine ⟨_, _, qae [] [0] rfl (by simp) (show qbf _ _ _ = AV.d _ from rfl) (qbr hst _), ?_, rfl⟩
    have hat : qjv has (l.getD k default) = 5 := by rw [qjv, if_pos (by simpa using hc)]
    have := qcf (f := fun k => qjv has (l.getD k default)) hi (by simp only [hat]; decide) h
    rw [Qd4, this]; simp only [hat]
   ·have hc : ¬ has (l.getD k default).thread = false := by simpa using hc
    refine qah (qzp _ _) ?_
    simp only [zC, seval]
    repeat ((with_reducible refine And.intro ?_ ?_); (focus (first | omega | (simp only [qa2]; omega) | (refine qq ?_; rfl) | (refine dq ?_; kernel_rfl) | (intros; simp_all; done))))
    refine ifC.mk (fun hz => ?_) (fun hz => ?_)
    ·refine ⟨_, _, qae [] [0] rfl (by simp) (show qbf _ _ _ = AV.d _ from rfl) (qbr hst _), ?_, rfl⟩
     have hat : qjv has (l.getD k default) = 2 := by rw [qjv, if_neg hc, if_pos hz]
     have := qcf (f := fun k => qjv has (l.getD k default)) hi (by simp only [hat]; decide) h
     rw [Qd4, this]; simp only [hat]
    ·have hat : qjv has (l.getD k default) = 0 := by rw [qjv, if_neg hc, if_neg (by rw [hz]; simp)]
     refine ⟨qbq hi hat, ?_⟩
     refine qad [] [0] rfl (by simp) ?_ (qbr hst _)
     simp only [zC, seval, @qai ((k:Int) + 1) (by omega)]
     all_goals rfl
  ·simp only [zC, seval, (show ¬ (k:Int) < l.length by omega)]
   have : k = l.length := by omega
   subst this
   refine ⟨_, _, qae [] [0] rfl (by simp) (show qbf _ _ _ = AV.d _ from rfl) (qbr hst _), ?_, rfl⟩
   rw [Qd4, hi]

theorem q82 (a : List UInt8) : qbw Tryz.prog Gl 146 [.d (.str a)] (.d (.bool false)) := by
 refine qbw.of1 ?_
 refine qac Tryz.func146 rfl rfl (by simp [Tryz.ntmps146]) (qab rfl _ _ _ _ ?_)
 simp only [Tryz.ntmps146, Tryz.results146, qak, List.length_nil]
 simp only [zC, seval]
 refine ⟨_, _, qa0, ?_, rfl⟩
 simp
theorem Qem (a : Int) : qbw Tryz.prog Gl 147 [.d (.int .i64 a)] (.d (.bool false)) := by
 refine qbw.of1 ?_
 refine qac Tryz.func147 rfl rfl (by simp [Tryz.ntmps147]) (qab rfl _ _ _ _ ?_)
 simp only [Tryz.ntmps147, Tryz.results147, qak, List.length_nil]
 simp only [zC, seval]
 refine ⟨_, _, qa0, ?_, rfl⟩
 simp
def quk (a b : Int) : Int := if a < b then -1 else if b < a then 1 else 0
theorem qin (a b : Int) : qbw Tryz.prog Gl 89 [.d (.int .i64 a), .d (.int .i64 b)] (.d (.int .i64 (quk a b))) := by
 refine qbw.of2 ?_
 refine qac Tryz.func89 rfl rfl (by simp [Tryz.ntmps89]) (qab rfl _ _ _ _ ?_)
 simp only [Tryz.ntmps89, Tryz.results89, qak, List.length_nil]
 simp only [zC, seval]
 refine qah (Qem _) ?_
 simp only [zC, seval]
 refine qah (Qem _) ?_
 simp only [zC, seval]
 refine ifC.mk (fun h1 => ?_) (fun h1 => ?_)
 ·refine ⟨_, _, qa0, ?_, rfl⟩
  rw [quk, if_pos (by simpa using h1)]
 ·refine ifC.mk (fun h2 => ?_) (fun h2 => ?_)
  ·refine ⟨_, _, qa0, ?_, rfl⟩
   rw [quk, if_neg (by simpa using h1), if_pos (by simpa using h2)]
  ·refine ⟨_, _, qa0, ?_, rfl⟩
   rw [quk, if_neg (by simpa using h1), if_neg (by simpa using h2)]
def ltS (a b : List UInt8) : Bool := Op.bytesLess a b
def q4c (a b : List UInt8) : Int := if ltS a b = true then -1 else if (!(ltS a b || a == b)) = true then 1 else 0
theorem qx2 (a b : List UInt8) : qbw Tryz.prog Gl 88 [.d (.str a), .d (.str b)] (.d (.int .i64 (q4c a b))) := by
 refine qbw.of2 ?_
 refine qac Tryz.func88 rfl rfl (by simp [Tryz.ntmps88]) (qab rfl _ _ _ _ ?_)
 simp only [Tryz.ntmps88, Tryz.results88, qak, List.length_nil]
 simp only [zC, seval]
 refine qah (q82 _) ?_
 simp only [zC, seval]
 refine qah (q82 _) ?_
 simp only [zC, seval]
 refine ifC.mk (fun h1 => ?_) (fun h1 => ?_)
 ·refine ⟨_, _, qa0, ?_, rfl⟩
  rw [q4c, if_pos (show ltS a b = true from h1)]
 ·refine ifC.mk (fun h2 => ?_) (fun h2 => ?_)
  ·refine ⟨_, _, qa0, ?_, rfl⟩
   rw [q4c, if_neg (by rw [show ltS a b = false from h1]; simp), if_pos (show (!(ltS a b || a == b)) = true from h2)]
  ·refine ⟨_, _, qa0, ?_, rfl⟩
   rw [q4c, if_neg (by rw [show ltS a b = false from h1]; simp), if_neg (show ¬ (!(ltS a b || a == b)) = true from by rw [show (!(ltS a b || a == b)) = false from h2]; simp)]
def orL : List Int → Int
 | [] => 0
 | x :: r => if x = 0 then orL r else x
theorem Qdl : ∀ {l : List Int} {k : Nat}, (l.take k).all (· == 0) = true → k < l.length → l.getD k default ≠ 0 → orL l = l.getD k default
 | [], k, _, h, _ => by simp at h
 | x :: r, 0, _, _, h => by rw [orL, if_neg (by simpa using h)]; simp
 | x :: r, k + 1, h1, h2, h3 => by
  rw [List.take_succ_cons, List.all_cons, Bool.and_eq_true] at h1
  rw [orL, if_pos (by simpa using h1.1), Qdl (l := r) (k := k) h1.2 (by simpa using h2) (by simpa using h3)]; simp
theorem qza : ∀ {l : List Int}, l.all (· == 0) = true → orL l = 0
 | [], _ => rfl
 | x :: r, h => by
  rw [List.all_cons, Bool.and_eq_true] at h
  rw [orL, if_pos (by simpa using h.1), qza h.2]
theorem Qr1 (xs : List Int) (hl : xs.length < 1000000) (B : Blk) (hB : qdz 1 (xs.map (D.int .i64)) B) : qaf Tryz.prog Gl 87 [.osl 0 0 xs.length] [B] (fun r s => r = .d (.int .i64 (orL xs)) ∧ s = [B]) := by
 rcases hB with rfl | rfl
 ·refine qac Tryz.func87 rfl rfl (by simp [Tryz.ntmps87]) (qab rfl _ _ _ _ ?_)
  simp only [Tryz.ntmps87, Tryz.results87, qak, List.length_nil]
  simp only [zC, seval]
  refine qa7 xs.length (fun k => [(3, .d (.int .i64 0)), (6, .osl 0 0 xs.length), (7, .d (.int .i64 xs.length)), (8, .d (.int .i64 k))]) (fun _ => [.arr 1 (xs.map (D.int .i64))]) (fun k => (xs.take k).all (· == 0) = true) rfl ?_ ?_
  ·refine qad [] [0] rfl (by simp) ?_ rfl
   simp only [zC, seval, Int.cast_ofNat_Int]
   all_goals rfl
  ·intro k hi hk
   by_cases h : k < xs.length
   ·have hs := qe1 (· == 0) xs k h
    simp only [zC, seval, (show (k:Int) < xs.length by omega), h, qat _ _ _ (show k < xs.length by omega)]
    repeat ((with_reducible refine And.intro ?_ ?_); (focus (first | omega | (simp only [qa2]; omega) | (refine qq ?_; rfl) | (refine dq ?_; kernel_rfl) | (intros; simp_all; done))))
    refine ifC.mk (fun hc => ?_) (fun hc => ?_)
    ·refine ⟨_, _, qae [] [0] rfl (by simp) (show qbf _ _ _ = AV.d _ from rfl) rfl, ?_, rfl⟩
     rw [Qdl hi h (by simpa using hc)]
    ·refine ⟨by rw [hs, hi]; simpa using hc, ?_⟩
     refine qad [] [0] rfl (by simp) ?_ rfl
     simp only [zC, seval, @qai ((k:Int) + 1) (by omega)]
     all_goals rfl
   ·simp only [zC, seval, (show ¬ (k:Int) < xs.length by omega)]
    have : k = xs.length := by omega
    subst this
    rw [List.take_length] at hi
    refine ⟨_, _, qae [] [0] rfl (by simp) (show qbf _ _ _ = AV.d _ from rfl) rfl, ?_, rfl⟩
    rw [qza hi]
 ·refine qac Tryz.func87 rfl rfl (by simp [Tryz.ntmps87]) (qab rfl _ _ _ _ ?_)
  simp only [Tryz.ntmps87, Tryz.results87, qak, List.length_nil]
  simp only [zC, seval]
  refine qa7 xs.length (fun k => [(3, .d (.int .i64 0)), (6, .osl 0 0 xs.length), (7, .d (.int .i64 xs.length)), (8, .d (.int .i64 k))]) (fun _ => [.frz 1 (xs.map (D.int .i64))]) (fun k => (xs.take k).all (· == 0) = true) rfl ?_ ?_
  ·refine qad [] [0] rfl (by simp) ?_ rfl
   simp only [zC, seval, Int.cast_ofNat_Int]
   all_goals rfl
  ·intro k hi hk
   by_cases h : k < xs.length
   ·have hs := qe1 (· == 0) xs k h
    simp only [zC, seval, (show (k:Int) < xs.length by omega), h, qat _ _ _ (show k < xs.length by omega)]
    repeat ((with_reducible refine And.intro ?_ ?_); (focus (first | omega | (simp only [qa2]; omega) | (refine qq ?_; rfl) | (refine dq ?_; kernel_rfl) | (intros; simp_all; done))))
    refine ifC.mk (fun hc => ?_) (fun hc => ?_)
    ·refine ⟨_, _, qae [] [0] rfl (by simp) (show qbf _ _ _ = AV.d _ from rfl) rfl, ?_, rfl⟩
     rw [Qdl hi h (by simpa using hc)]
    ·refine ⟨by rw [hs, hi]; simpa using hc, ?_⟩
     refine qad [] [0] rfl (by simp) ?_ rfl
     simp only [zC, seval, @qai ((k:Int) + 1) (by omega)]
     all_goals rfl
   ·simp only [zC, seval, (show ¬ (k:Int) < xs.length by omega)]
    have : k = xs.length := by omega
    subst this
    rw [List.take_length] at hi
    refine ⟨_, _, qae [] [0] rfl (by simp) (show qbf _ _ _ = AV.d _ from rfl) rfl, ?_, rfl⟩
    rw [qza hi]
def orF (a b : Int) : Int := if a = 0 then b else a
theorem Qdk (a b : Int) : orL [a, b] = orF a b := by simp only [orL, orF]; split <;> simp_all
def qhk (a b : qbb) : Int := orF (q4c a.name b.name) (quk a.at_ b.at_)
theorem Qnd (a b : qbb) : qbw Tryz.prog Gl 170 [.d a.toD, .d b.toD] (.d (.int .i64 (qhk a b))) := by
 refine qbw.of2 ?_
 refine qac Tryz.func170 rfl rfl (by simp [Tryz.ntmps170]) (qab rfl _ _ _ _ ?_)
 simp only [Tryz.ntmps170, Tryz.results170, qak, List.length_nil]
 simp only [zC, seval]
 refine ⟨.inl (by kernel_rfl), qah (qx2 _ _) ?_⟩
 simp only [zC, seval]
 refine qah (qin _ _) ?_
 simp only [zC, seval]
 repeat ((with_reducible refine And.intro ?_ ?_); (focus (first | omega | (simp only [qa2]; omega) | (refine qq ?_; rfl) | (refine dq ?_; kernel_rfl) | (intros; simp_all; done))))
 refine ql5 2 (fun B hB => Qr1 [q4c a.name b.name, quk a.at_ b.at_] (by simp) B hB) (fun _ => rfl) rfl ?_
 rw [Qdk]
 simp only [zC, seval]
 exact ⟨_, _, qa0, rfl, rfl⟩
theorem Qst (a : Int) : qbw Tryz.prog Gl 169 [.d (.int .i64 a)] (.d (.bool (decide (-1000000000000000 ≤ a) && decide (a ≤ 1000000000000000)))) := by
 refine qbw.of1 ?_
 refine qac Tryz.func169 rfl rfl (by simp [Tryz.ntmps169]) (qab rfl _ _ _ _ ?_)
 simp only [Tryz.ntmps169, Tryz.results169, qak, List.length_nil]
 simp only [zC, seval]
 exact ⟨_, _, qa0, rfl, rfl⟩
def inB (a : Int) : Bool := decide (-1000000000000000 ≤ a) && decide (a ≤ 1000000000000000)
def Qrr (b : qbb) : Bool := decide (b.at_ < 0) || decide (1000000000000 < b.at_) || !inB b.value
def Qrj (a b : qbb) : Bool := decide (0 ≤ qhk a b) || (a.name == b.name && a.value == b.value)
def Qhq (l : List qbb) (k : Nat) : Int :=
 if qdo (l.getD k default).name ≠ 0 then qdo (l.getD k default).name else if Qrr (l.getD k default) = true then 2
 else if (decide (0 < k) && Qrj (l.getD (k - 1) default) (l.getD k default)) = true then 11 else 0
def q4g (l : List qbb) : Int := qbe (Qhq l) l.length
theorem Qpy {l : List qbb} {k : Nat} (h : qdo (l.getD k default).name ≠ 0) : Qhq l k = qdo (l.getD k default).name := by rw [Qhq, if_pos h]
theorem Qpz {l : List qbb} {k : Nat} (h : qdo (l.getD k default).name = 0) (h2 : Qrr (l.getD k default) = true) : Qhq l k = 2 := by rw [Qhq, if_neg (by rw [h]; simp), if_pos h2]
theorem Qpx {l : List qbb} {k : Nat} (h : qdo (l.getD k default).name = 0) (h2 : Qrr (l.getD k default) = false) : Qhq l k = if (decide (0 < k) && Qrj (l.getD (k - 1) default) (l.getD k default)) = true then 11 else 0 := by
 rw [Qhq, if_neg (by rw [h]; simp), if_neg (by rw [h2]; simp)]
theorem q40 (l : List qbb) (hl : l.length < 1000000) : qbw Tryz.prog Gl 110 [.d (.sl (l.map qbb.toD))] (.d (.int .i64 (q4g l))) := by
 refine qbw.of1 ?_
 refine qac Tryz.func110 rfl rfl (by simp [Tryz.ntmps110]) (qab rfl _ _ _ _ ?_)
 simp only [Tryz.ntmps110, Tryz.results110, qak, List.length_nil]
 simp only [zC, seval]
 refine qa7 l.length (fun k => [(0, .d (.sl (l.map qbb.toD))), (6, .d (.sl (l.map qbb.toD))), (7, .d (.int .i64 l.length)), (8, .d (.int .i64 k))]) (fun _ => []) (fun k => qbe (Qhq l) k = 0) rfl ?_ ?_
 ·refine qad [] [] rfl List.nodup_nil ?_ rfl
  simp only [zC, seval, Int.cast_ofNat_Int]
 ·intro k hi hk
  by_cases h : k < l.length
  ·have hb : ∀ e, Qhq l k = e → e ≠ 0 → q4g l = e := fun e h1 h2 => by rw [q4g, qcf hi (by rw [h1]; exact h2) h, h1]
   obtain ⟨b, eb⟩ : ∃ b, b = l.getD k default := ⟨_, rfl⟩
   simp only [zC, seval, (show (k:Int) < l.length by omega), h, qat _ _ _ (show k < l.length by omega), ← eb]
   repeat ((with_reducible refine And.intro ?_ ?_); (focus (first | omega | (simp only [qa2]; omega) | (refine qq ?_; rfl) | (refine dq ?_; kernel_rfl) | (intros; simp_all; done))))
   refine qah (qx1 _) ?_
   simp only [zC, seval]
   refine ifC.mk (fun h1 => ?_) (fun h1 => ?_)
   ·have h1 : qdo b.name ≠ 0 := by simpa using h1
    refine ⟨_, _, qa0, ?_, rfl⟩
    rw [hb _ (Qpy (by rw [← eb]; exact h1)) (by rw [← eb]; exact h1), ← eb]
   ·have h1 : qdo b.name = 0 := by simpa using h1
    repeat ((with_reducible refine And.intro ?_ ?_); (focus (first | omega | (simp only [qa2]; omega) | (refine qq ?_; rfl) | (refine dq ?_; kernel_rfl) | (intros; simp_all; done))))
    refine qbs (fun _ => Qst _) ?_
    simp only [zC, seval]
    repeat ((with_reducible refine And.intro ?_ ?_); (focus (first | omega | (simp only [qa2]; omega) | (refine qq ?_; rfl) | (refine dq ?_; kernel_rfl) | (intros; simp_all; done))))
    refine ifC.mk (fun h2 => ?_) (fun h2 => ?_)
    ·refine ⟨_, _, qa0, ?_, rfl⟩
     rw [hb 2 (Qpz (by rw [← eb]; exact h1) (by rw [← eb]; exact h2)) (by omega)]
    ·have h2 : Qrr b = false := h2
     have ho := Qpx (l := l) (k := k) (by rw [← eb]; exact h1) (by rw [← eb]; exact h2)
     rw [← eb] at ho
     by_cases hk0 : 0 < k
     ·have e1 : IntKind.i64.wrap ((k : Int) - 1) = ((k - 1 : Nat) : Int) := by rw [qbl (by omega) (by omega)]; omega
      obtain ⟨a, ea⟩ : ∃ a, a = l.getD (k - 1) default := ⟨_, rfl⟩
      rw [decide_eq_true hk0, Bool.true_and, ← ea] at ho
      simp only [zC, seval, (show (0:Int) < k by omega), e1, (show ((k - 1 : Nat) : Int) < l.length by omega), (show k - 1 < l.length by omega), qat _ _ _ (show k - 1 < l.length by omega), ← ea]
      repeat ((with_reducible refine And.intro ?_ ?_); (focus (first | omega | (simp only [qa2]; omega) | (refine qq ?_; rfl) | (refine dq ?_; kernel_rfl) | (intros; simp_all; done))))
      refine qbs (fun _ => Qnd _ _) ?_
      simp only [zC, seval, (show (0:Int) < k by omega), e1, (show ((k - 1 : Nat) : Int) < l.length by omega), (show k - 1 < l.length by omega), qat _ _ _ (show k - 1 < l.length by omega), ← ea]
      repeat ((with_reducible refine And.intro ?_ ?_); (focus (first | omega | (simp only [qa2]; omega) | (refine qq ?_; rfl) | (refine dq ?_; kernel_rfl) | (intros; simp_all; done))))
      refine ifC.mk (fun h3 => ?_) (fun h3 => ?_)
      ·refine ⟨_, _, qa0, ?_, rfl⟩
       rw [if_pos (show Qrj a b = true from h3)] at ho
       rw [hb 11 ho (by omega)]
      ·rw [if_neg (by rw [show Qrj a b = false from h3]; simp)] at ho
       refine ⟨qbq hi ho, ?_⟩
       refine qad [] [] rfl List.nodup_nil ?_ rfl
       simp only [zC, seval, @qai ((k:Int) + 1) (by omega)]
     ·rw [decide_eq_false hk0, Bool.false_and, if_neg (by simp)] at ho
      have e0 : (IntKind.i64.wrap ((k : Int) - 1)).toNat = 0 := by rw [qbl (by omega) (by omega)]; omega
      simp only [zC, seval, (show ¬ (0:Int) < k by omega), e0, qat _ _ _ (show 0 < l.length by omega)]
      repeat ((with_reducible refine And.intro ?_ ?_); (focus (first | omega | (simp only [qa2]; omega) | (refine qq ?_; rfl) | (refine dq ?_; kernel_rfl) | (intros; simp_all; done))))
      refine qbs (v := .d (.int .i64 0)) (fun h => by cases h) ?_
      simp only [zC, seval, e0, qat _ _ _ (show 0 < l.length by omega)]
      refine ⟨qbq hi ho, ?_⟩
      refine qad [] [] rfl List.nodup_nil ?_ rfl
      simp only [zC, seval, @qai ((k:Int) + 1) (by omega)]
  ·simp only [zC, seval, (show ¬ (k:Int) < l.length by omega)]
   refine ⟨_, _, qa0, ?_, rfl⟩
   have : k = l.length := by omega
   rw [q4g, ← this, hi]
theorem qej (a b : List UInt8) : (ltS a b = true ∧ a ≠ b ∧ ltS b a = false ∧ q4c a b = -1) ∨ (ltS a b = false ∧ a = b ∧ ltS b a = false ∧ q4c a b = 0) ∨ (ltS a b = false ∧ a ≠ b ∧ ltS b a = true ∧ q4c a b = 1) := by
 rcases Qjr a b with ⟨h1, h2, h3⟩ | ⟨h1, h2, h3⟩ | ⟨h1, h2, h3⟩
 ·exact .inl ⟨h1, h2, h3, by unfold q4c ltS; rw [h1]; rfl⟩
 ·exact .inr (.inl ⟨h1, h2, h3, by unfold q4c ltS; rw [h1, h2]; simp⟩)
 ·exact .inr (.inr ⟨h1, h2, h3, by unfold q4c ltS; rw [h1]; simp [h2]⟩)
theorem qi2 (a b : Int) : (a < b ∧ quk a b = -1) ∨ (a = b ∧ quk a b = 0) ∨ (b < a ∧ quk a b = 1) := by
 unfold quk
 by_cases h : a < b
 ·exact .inl ⟨h, by rw [if_pos h]⟩
 ·by_cases h2 : b < a
  ·exact .inr (.inr ⟨h2, by rw [if_neg h, if_pos h2]⟩)
  ·exact .inr (.inl ⟨by omega, by rw [if_neg h, if_neg h2]⟩)
def Qos (b : qar) : Bool := decide (b.id < 0) || decide (1000000000000000 < b.id) || decide (b.thread < 0) || decide (1000000000000000 < b.thread) || decide (b.size < 1) || decide (1000000000000 < b.size) || !(decide (0 ≤ b.lo) && decide (b.lo < b.hi) && decide (b.hi ≤ 1000000000000))
def qyh (a b : qar) : Bool := a.id == b.id && decide (a.lo < b.hi) && decide (b.lo < a.hi)
def Qgp (l : List qar) (k : Nat) : Int :=
 if Qos (l.getD k default) = true then 2 else if qde (l.getD k default).stack ≠ 0 then qde (l.getD k default).stack
 else if (decide (0 < k) && decide ((l.getD k default).lo < (l.getD (k - 1) default).lo)) = true then 11
 else if (l.take k).any (fun a => qyh a (l.getD k default)) = true then 4 else 0
def bkF (l : List qar) : Int := qbe (Qgp l) l.length
theorem Qju {l : List qar} {k : Nat} (h : Qos (l.getD k default) = true) : Qgp l k = 2 := by rw [Qgp, if_pos h]
theorem Qn9 {l : List qar} {k : Nat} (h : Qos (l.getD k default) = false) (h2 : qde (l.getD k default).stack ≠ 0) : Qgp l k = qde (l.getD k default).stack := by rw [Qgp, if_neg (by rw [h]; simp), if_pos h2]
theorem Qjt {l : List qar} {k : Nat} (h : Qos (l.getD k default) = false) (h2 : qde (l.getD k default).stack = 0) (h3 : (decide (0 < k) && decide ((l.getD k default).lo < (l.getD (k - 1) default).lo)) = true) : Qgp l k = 11 := by
 rw [Qgp, if_neg (by rw [h]; simp), if_neg (by rw [h2]; simp), if_pos h3]
theorem Qgo {l : List qar} {k : Nat} (h : Qos (l.getD k default) = false) (h2 : qde (l.getD k default).stack = 0) (h3 : (decide (0 < k) && decide ((l.getD k default).lo < (l.getD (k - 1) default).lo)) = false) :
  Qgp l k = if (l.take k).any (fun a => qyh a (l.getD k default)) = true then 4 else 0 := by
 rw [Qgp, if_neg (by rw [h]; simp), if_neg (by rw [h2]; simp), if_neg (by rw [h3]; simp)]
theorem Qe0 (l : List qar) (hs : ∀ x ∈ l, x.stack.length < 1000000) (hl : l.length < 1000000) : qbw Tryz.prog Gl 112 [.d (.sl (l.map qar.toD))] (.d (.int .i64 (bkF l))) := by
 refine qbw.of1 ?_
 refine qac Tryz.func112 rfl rfl (by simp [Tryz.ntmps112]) (qab rfl _ _ _ _ ?_)
 simp only [Tryz.ntmps112, Tryz.results112, qak, List.length_nil]
 simp only [zC, seval]
 refine qa7 l.length (fun k => [(0, .d (.sl (l.map qar.toD))), (8, .d (.sl (l.map qar.toD))), (9, .d (.int .i64 l.length)), (10, .d (.int .i64 k))]) (fun _ => []) (fun k => qbe (Qgp l) k = 0) rfl ?_ ?_
 ·refine qad [] [] rfl List.nodup_nil ?_ rfl
  simp only [zC, seval, Int.cast_ofNat_Int]
 ·intro k hi hk
  by_cases h : k < l.length
  ·have hb : ∀ e, Qgp l k = e → e ≠ 0 → bkF l = e := fun e h1 h2 => by rw [bkF, qcf hi (by rw [h1]; exact h2) h, h1]
   obtain ⟨b, eb⟩ : ∃ b, b = l.getD k default := ⟨_, rfl⟩
   have lt : (l.take k).length = k := by simp; omega
   simp only [zC, seval, (show (k:Int) < l.length by omega), h, qat _ _ _ (show k < l.length by omega), ← eb]
   repeat ((with_reducible refine And.intro ?_ ?_); (focus (first | omega | (simp only [qa2]; omega) | (refine qq ?_; rfl) | (refine dq ?_; kernel_rfl) | (intros; simp_all; done))))
   refine qbs (fun _ => qzp _ _) ?_
   simp only [zC, seval]
   refine ifC.mk (fun h1 => ?_) (fun h1 => ?_)
   ·refine ⟨_, _, qa0, ?_, rfl⟩
    rw [hb 2 (Qju (by rw [← eb]; exact h1)) (by omega)]
   ·have hb1 : Qos (l.getD k default) = false := by rw [← eb]; exact h1
    refine qah (q83 _ (by rw [eb]; exact hs _ (qct h))) ?_
    simp only [zC, seval]
    refine ifC.mk (fun h2 => ?_) (fun h2 => ?_)
    ·have h2 : qde (l.getD k default).stack ≠ 0 := by rw [← eb]; simpa using h2
     refine ⟨_, _, qa0, ?_, rfl⟩
     rw [hb _ (Qn9 hb1 h2) h2, eb]
    ·have hb2 : qde (l.getD k default).stack = 0 := by rw [← eb]; simpa using h2
     by_cases hk0 : 0 < k
     ·have e1 : IntKind.i64.wrap ((k : Int) - 1) = ((k - 1 : Nat) : Int) := by rw [qbl (by omega) (by omega)]; omega
      simp only [zC, seval, (show (0:Int) < k by omega), e1, (show ((k - 1 : Nat) : Int) < l.length by omega), (show k - 1 < l.length by omega), qat _ _ _ (show k - 1 < l.length by omega)]
      repeat ((with_reducible refine And.intro ?_ ?_); (focus (first | omega | (simp only [qa2]; omega) | (refine qq ?_; rfl) | (refine dq ?_; kernel_rfl) | (intros; simp_all; done))))
      refine ifC.mk (fun h3 => ?_) (fun h3 => ?_)
      ·refine ⟨_, _, qa0, ?_, rfl⟩
       rw [hb 11 (Qjt hb1 hb2 (by rw [← eb]; simp [hk0]; simpa using h3)) (by omega)]
      ·have hb3 : (decide (0 < k) && decide ((l.getD k default).lo < (l.getD (k - 1) default).lo)) = false := by rw [← eb]; simp [hk0]; simpa using h3
       (try simp only [zC, seval, ← List.map_take, lt, (show (k:Int) ≤ l.length by omega)])
       repeat ((with_reducible refine And.intro ?_ ?_); (focus (first | omega | (simp only [qa2]; omega) | (refine qq ?_; rfl) | (refine dq ?_; kernel_rfl) | (intros; simp_all; done))))
       have hcl := Qgo (l := l) (k := k) hb1 hb2 hb3
       refine qa7 k (fun j => [(0, .d (.sl (l.map qar.toD))), (4, .ptr 0 0), (8, .d (.sl (l.map qar.toD))), (9, .d (.int .i64 l.length)), (10, .d (.int .i64 k)), (72, .d (.sl ((l.take k).map qar.toD))), (73, .d (.int .i64 k)), (74, .d (.int .i64 j))]) (fun _ => [.box 7 (.d b.toD)]) (fun j => (l.take j).any (fun a => qyh a (l.getD k default)) = false) rfl ?_ ?_
       ·refine qad [] [0] rfl (by simp) ?_ rfl
        simp only [zC, seval, Int.cast_ofNat_Int, ← List.map_take, lt]
       ·intro j hj hjk
        by_cases h5 : j < k
        ·have h6 : j < (l.take k).length := by rw [lt]; exact h5
         have g1 : (l.take k).getD j default = l.getD j default := by simp [List.getElem?_take_of_lt h5]
         have hs := qdy (fun a => qyh a (l.getD k default)) l j (by omega)
         simp only [zC, seval, (show (j:Int) < k by omega), h6, qat _ _ _ (show j < (l.take k).length by omega), lt, g1, h5]
         repeat ((with_reducible refine And.intro ?_ ?_); (focus (first | omega | (simp only [qa2]; omega) | (refine qq ?_; rfl) | (refine dq ?_; kernel_rfl) | (intros; simp_all; done))))
         refine ifC.mk (fun hc => ?_) (fun hc => ?_)
         ·refine ⟨_, _, qa0, ?_, rfl⟩
          rw [hb 4 (by rw [hcl, if_pos]; rw [List.any_eq_true]; exact ⟨l.getD j default, by rw [← g1]; exact qct h6, by rw [← eb]; exact hc⟩) (by omega)]
         ·refine ⟨by rw [hs, hj, ← eb]; exact hc, ?_⟩
          refine qad [] [0] rfl (by simp) ?_ rfl
          simp only [zC, seval, @qai ((j:Int) + 1) (by omega)]
        ·simp only [zC, seval, (show ¬ (j:Int) < k by omega)]
         have hjk : j = k := by omega
         subst hjk
         refine ⟨qbq hi (by rw [hcl, if_neg (by rw [hj]; simp)]), ?_⟩
         refine qad [] [] rfl List.nodup_nil ?_ rfl
         simp only [zC, seval, @qai ((j:Int) + 1) (by omega)]
     ·simp only [zC, seval, (show ¬ (0:Int) < k by omega)]
      repeat ((with_reducible refine And.intro ?_ ?_); (focus (first | omega | (simp only [qa2]; omega) | (refine qq ?_; rfl) | (refine dq ?_; kernel_rfl) | (intros; simp_all; done))))
      have hb3 : (decide (0 < k) && decide ((l.getD k default).lo < (l.getD (k - 1) default).lo)) = false := by simp [hk0]
      (try simp only [zC, seval, ← List.map_take, lt, (show (k:Int) ≤ l.length by omega)])
      repeat ((with_reducible refine And.intro ?_ ?_); (focus (first | omega | (simp only [qa2]; omega) | (refine qq ?_; rfl) | (refine dq ?_; kernel_rfl) | (intros; simp_all; done))))
      have hcl := Qgo (l := l) (k := k) hb1 hb2 hb3
      refine qa7 k (fun j => [(0, .d (.sl (l.map qar.toD))), (4, .ptr 0 0), (8, .d (.sl (l.map qar.toD))), (9, .d (.int .i64 l.length)), (10, .d (.int .i64 k)), (72, .d (.sl ((l.take k).map qar.toD))), (73, .d (.int .i64 k)), (74, .d (.int .i64 j))]) (fun _ => [.box 7 (.d b.toD)]) (fun j => (l.take j).any (fun a => qyh a (l.getD k default)) = false) rfl ?_ ?_
      ·refine qad [] [0] rfl (by simp) ?_ rfl
       simp only [zC, seval, Int.cast_ofNat_Int, ← List.map_take, lt]
      ·intro j hj hjk
       by_cases h5 : j < k
       ·have h6 : j < (l.take k).length := by rw [lt]; exact h5
        have g1 : (l.take k).getD j default = l.getD j default := by simp [List.getElem?_take_of_lt h5]
        have hs := qdy (fun a => qyh a (l.getD k default)) l j (by omega)
        simp only [zC, seval, (show (j:Int) < k by omega), h6, qat _ _ _ (show j < (l.take k).length by omega), lt, g1, h5]
        repeat ((with_reducible refine And.intro ?_ ?_); (focus (first | omega | (simp only [qa2]; omega) | (refine qq ?_; rfl) | (refine dq ?_; kernel_rfl) | (intros; simp_all; done))))
        refine ifC.mk (fun hc => ?_) (fun hc => ?_)
        ·refine ⟨_, _, qa0, ?_, rfl⟩
         rw [hb 4 (by rw [hcl, if_pos]; rw [List.any_eq_true]; exact ⟨l.getD j default, by rw [← g1]; exact qct h6, by rw [← eb]; exact hc⟩) (by omega)]
        ·refine ⟨by rw [hs, hj, ← eb]; exact hc, ?_⟩
         refine qad [] [0] rfl (by simp) ?_ rfl
         simp only [zC, seval, @qai ((j:Int) + 1) (by omega)]
       ·simp only [zC, seval, (show ¬ (j:Int) < k by omega)]
        have hjk : j = k := by omega
        subst hjk
        refine ⟨qbq hi (by rw [hcl, if_neg (by rw [hj]; simp)]), ?_⟩
        refine qad [] [] rfl List.nodup_nil ?_ rfl
        simp only [zC, seval, @qai ((j:Int) + 1) (by omega)]
  ·simp only [zC, seval, (show ¬ (k:Int) < l.length by omega)]
   refine ⟨_, _, qa0, ?_, rfl⟩
   have : k = l.length := by omega
   rw [bkF, ← this, hi]

def q55 (n m : Int) : Bool := decide (n < 0) || decide (m < n)
theorem q5d (n m : Int) : qbw Tryz.prog Gl 166 [.d (.int .i64 n), .d (.int .i64 m)] (.d (.bool (q55 n m))) := by
 refine qbw.of2 ?_
 refine qac Tryz.func166 rfl rfl (by simp [Tryz.ntmps166]) (qab rfl _ _ _ _ ?_)
 simp only [Tryz.ntmps166, Tryz.results166, qak, List.length_nil]
 simp only [zC, seval]
 exact ⟨_, _, qa0, rfl, rfl⟩
def qt0 (f : qbt) : Bool := q55 f.id 1000000000000000 || q55 f.ft 1000000000000000 || q55 f.fs 1000000000000000 || q55 f.tt 1000000000000000 || q55 f.ts 1000000000000000 || q55 f.send 1000000000000 || q55 f.recv 1000000000000
def Qm7 (l : List qbt) (k : Nat) : Bool := decide ((l.getD k default).recv < (l.getD k default).send) || (decide (0 < k) && decide ((l.getD k default).recv < (l.getD (k - 1) default).recv))
def Qns (l : List qbt) (k : Nat) : Int := if qt0 (l.getD k default) = true then 2 else if Qm7 l k = true then 11 else 0
def q5l (l : List qbt) : Int := qbe (Qns l) l.length
theorem qg7 {l : List qbt} {k : Nat} (h : qt0 (l.getD k default) = true) : Qns l k = 2 := by rw [Qns, if_pos h]
theorem Qnr {l : List qbt} {k : Nat} (h : qt0 (l.getD k default) = false) : Qns l k = if Qm7 l k = true then 11 else 0 := by rw [Qns, if_neg (by rw [h]; simp)]
set_option maxHeartbeats 2000000 in
theorem q44 (l : List qbt) (hl : l.length < 1000000) : qbw Tryz.prog Gl 104 [.d (.sl (l.map qbt.toD))] (.d (.int .i64 (q5l l))) := by
 refine qbw.of1 ?_
 refine qac Tryz.func104 rfl rfl (by simp [Tryz.ntmps104]) (qab rfl _ _ _ _ ?_)
 simp only [Tryz.ntmps104, Tryz.results104, qak, List.length_nil]
 simp only [zC, seval]
 refine qa7 l.length (fun k => [(0, .d (.sl (l.map qbt.toD))), (5, .d (.sl (l.map qbt.toD))), (6, .d (.int .i64 l.length)), (7, .d (.int .i64 k))]) (fun _ => []) (fun k => qbe (Qns l) k = 0) rfl ?_ ?_
 ·refine qad [] [] rfl List.nodup_nil ?_ rfl
  simp only [zC, seval, Int.cast_ofNat_Int]
 ·intro k hi hk
  by_cases h : k < l.length
  ·have hb : ∀ e, Qns l k = e → e ≠ 0 → q5l l = e := fun e h1 h2 => by rw [q5l, qcf hi (by rw [h1]; exact h2) h, h1]
   obtain ⟨b, eb⟩ : ∃ b, b = l.getD k default := ⟨_, rfl⟩
   simp only [zC, seval, (show (k:Int) < l.length by omega), h, qat _ _ _ (show k < l.length by omega), ← eb]
   repeat ((with_reducible refine And.intro ?_ ?_); (focus (first | omega | (simp only [qa2]; omega) | (refine qq ?_; rfl) | (refine dq ?_; kernel_rfl) | (intros; simp_all; done))))
   refine qah (q5d _ _) ?_
   cases h1 : q55 b.id 1000000000000000 with
   | true =>
    simp only [zC, seval]
    refine ⟨_, _, qa0, ?_, rfl⟩
    rw [hb 2 (qg7 (by rw [← eb]; clear eb hi hb; simp only [qt0, *]; rfl)) (by omega)]
   | false =>
    simp only [zC, seval]
    refine qah (q5d _ _) ?_
    cases h2 : q55 b.ft 1000000000000000 with
    | true =>
     simp only [zC, seval]
     refine ⟨_, _, qa0, ?_, rfl⟩
     rw [hb 2 (qg7 (by rw [← eb]; clear eb hi hb; simp only [qt0, *]; rfl)) (by omega)]
    | false =>
     simp only [zC, seval]
     refine qah (q5d _ _) ?_
     cases h3 : q55 b.fs 1000000000000000 with
     | true =>
      simp only [zC, seval]
      refine ⟨_, _, qa0, ?_, rfl⟩
      rw [hb 2 (qg7 (by rw [← eb]; clear eb hi hb; simp only [qt0, *]; rfl)) (by omega)]
     | false =>
      simp only [zC, seval]
      refine qah (q5d _ _) ?_
      cases h4 : q55 b.tt 1000000000000000 with
      | true =>
       simp only [zC, seval]
       refine ⟨_, _, qa0, ?_, rfl⟩
       rw [hb 2 (qg7 (by rw [← eb]; clear eb hi hb; simp only [qt0, *]; rfl)) (by omega)]
      | false =>
       simp only [zC, seval]
       refine qah (q5d _ _) ?_
       cases h5 : q55 b.ts 1000000000000000 with
       | true =>
        simp only [zC, seval]
        refine ⟨_, _, qa0, ?_, rfl⟩
        rw [hb 2 (qg7 (by rw [← eb]; clear eb hi hb; simp only [qt0, *]; rfl)) (by omega)]
       | false =>
        simp only [zC, seval]
        refine qah (q5d _ _) ?_
        cases h6 : q55 b.send 1000000000000 with
        | true =>
         simp only [zC, seval]
         refine ⟨_, _, qa0, ?_, rfl⟩
         rw [hb 2 (qg7 (by rw [← eb]; clear eb hi hb; simp only [qt0, *]; rfl)) (by omega)]
        | false =>
         simp only [zC, seval]
         refine qah (q5d _ _) ?_
         cases h7 : q55 b.recv 1000000000000 with
         | true =>
          simp only [zC, seval]
          refine ⟨_, _, qa0, ?_, rfl⟩
          rw [hb 2 (qg7 (by rw [← eb]; clear eb hi hb; simp only [qt0, *]; rfl)) (by omega)]
         | false =>
          simp only [zC, seval]
          have ho := Qnr (l := l) (k := k) (by rw [← eb]; clear eb hi hb; simp only [qt0, *]; rfl)
          rw [Qm7, ← eb] at ho
          cases h8 : decide (b.recv < b.send) with
          | true =>
           simp only [zC, seval]
           refine ⟨_, _, qa0, ?_, rfl⟩
           rw [h8, Bool.true_or, if_pos rfl] at ho
           rw [hb 11 ho (by omega)]
          | false =>
           simp only [zC, seval]
           rw [h8, Bool.false_or] at ho
           by_cases hk0 : 0 < k
           ·have e1 : IntKind.i64.wrap ((k : Int) - 1) = ((k - 1 : Nat) : Int) := by rw [qbl (by omega) (by omega)]; omega
            obtain ⟨a, ea⟩ : ∃ a, a = l.getD (k - 1) default := ⟨_, rfl⟩
            rw [decide_eq_true hk0, Bool.true_and, ← ea] at ho
            (try simp only [zC, seval, (show (0:Int) < k by omega), e1, (show ((k - 1 : Nat) : Int) < l.length by omega), (show k - 1 < l.length by omega), qat _ _ _ (show k - 1 < l.length by omega), ← ea])
            repeat ((with_reducible refine And.intro ?_ ?_); (focus (first | omega | (simp only [qa2]; omega) | (refine qq ?_; rfl) | (refine dq ?_; kernel_rfl) | (intros; simp_all; done))))
            refine ifC.mk (fun h9 => ?_) (fun h9 => ?_)
            ·refine ⟨_, _, qa0, ?_, rfl⟩
             rw [if_pos h9] at ho
             rw [hb 11 ho (by omega)]
            ·rw [if_neg (by rw [h9]; simp)] at ho
             refine ⟨qbq hi ho, ?_⟩
             refine qad [] [] rfl List.nodup_nil ?_ rfl
             simp only [zC, seval, @qai ((k:Int) + 1) (by omega)]
           ·rw [decide_eq_false hk0, Bool.false_and, if_neg (by simp)] at ho
            have e0 : (IntKind.i64.wrap ((k : Int) - 1)).toNat = 0 := by rw [qbl (by omega) (by omega)]; omega
            (try simp only [zC, seval, (show ¬ (0:Int) < k by omega), e0, qat _ _ _ (show 0 < l.length by omega)])
            repeat ((with_reducible refine And.intro ?_ ?_); (focus (first | omega | (simp only [qa2]; omega) | (refine qq ?_; rfl) | (refine dq ?_; kernel_rfl) | (intros; simp_all; done))))
            refine ⟨qbq hi ho, ?_⟩
            refine qad [] [] rfl List.nodup_nil ?_ rfl
            simp only [zC, seval, @qai ((k:Int) + 1) (by omega)]
  ·simp only [zC, seval, (show ¬ (k:Int) < l.length by omega)]
   refine ⟨_, _, qa0, ?_, rfl⟩
   have : k = l.length := by omega
   rw [q5l, ← this, hi]
def qx6 (s : qan) : Bool := decide (0 ≤ s.thread) && decide (s.thread ≤ 1000000000000000) && decide (0 ≤ s.at_) && decide (s.at_ ≤ 1000000000000) && decide (1 ≤ s.weight) && decide (s.weight ≤ 1000000000000)
theorem Qqu (s : qan) : qbw Tryz.prog Gl 167 [.d s.toD] (.d (.bool (qx6 s))) := by
 refine qbw.of1 ?_
 refine qac Tryz.func167 rfl rfl (by simp [Tryz.ntmps167]) (qab rfl _ _ _ _ ?_)
 simp only [Tryz.ntmps167, Tryz.results167, qak, List.length_nil]
 simp only [zC, seval]
 exact ⟨_, _, qa0, rfl, rfl⟩
def Qhs (l : List qan) (k : Nat) : Int := if qx6 (l.getD k default) = false then 2 else if qde (l.getD k default).stack ≠ 0 then qde (l.getD k default).stack
 else if (decide (0 < k) && decide ((l.getD k default).at_ < (l.getD (k - 1) default).at_)) = true then 11 else 0
def qj2 (l : List qan) : Int := qbe (Qhs l) l.length
theorem Qhr {l : List qan} {k : Nat} (h : qx6 (l.getD k default) = false) : Qhs l k = 2 := by rw [Qhs, if_pos h]
theorem Qmq {l : List qan} {k : Nat} (h : qx6 (l.getD k default) = true) (h2 : qde (l.getD k default).stack ≠ 0) : Qhs l k = qde (l.getD k default).stack := by rw [Qhs, if_neg (by rw [h]; simp), if_pos h2]
theorem Qmp {l : List qan} {k : Nat} (h : qx6 (l.getD k default) = true) (h2 : qde (l.getD k default).stack = 0) : Qhs l k = if (decide (0 < k) && decide ((l.getD k default).at_ < (l.getD (k - 1) default).at_)) = true then 11 else 0 := by rw [Qhs, if_neg (by rw [h]; simp), if_neg (by rw [h2]; simp)]
theorem qzk (l : List qan) (hs : ∀ x ∈ l, x.stack.length < 1000000) (hl : l.length < 1000000) : qbw Tryz.prog Gl 108 [.d (.sl (l.map qan.toD))] (.d (.int .i64 (qj2 l))) := by
 refine qbw.of1 ?_
 refine qac Tryz.func108 rfl rfl (by simp [Tryz.ntmps108]) (qab rfl _ _ _ _ ?_)
 simp only [Tryz.ntmps108, Tryz.results108, qak, List.length_nil]
 simp only [zC, seval]
 refine qa7 l.length (fun k => [(0, .d (.sl (l.map qan.toD))), (6, .d (.sl (l.map qan.toD))), (7, .d (.int .i64 l.length)), (8, .d (.int .i64 k))]) (fun _ => []) (fun k => qbe (Qhs l) k = 0) rfl ?_ ?_
 ·refine qad [] [] rfl List.nodup_nil ?_ rfl
  simp only [zC, seval, Int.cast_ofNat_Int]
 ·intro k hi hk
  by_cases h : k < l.length
  ·have hb : ∀ e, Qhs l k = e → e ≠ 0 → qj2 l = e := fun e h1 h2 => by rw [qj2, qcf hi (by rw [h1]; exact h2) h, h1]
   obtain ⟨b, eb⟩ : ∃ b, b = l.getD k default := ⟨_, rfl⟩
   simp only [zC, seval, (show (k:Int) < l.length by omega), h, qat _ _ _ (show k < l.length by omega), ← eb]
   repeat ((with_reducible refine And.intro ?_ ?_); (focus (first | omega | (simp only [qa2]; omega) | (refine qq ?_; rfl) | (refine dq ?_; kernel_rfl) | (intros; simp_all; done))))
   refine qah (Qqu _) ?_
   simp only [zC, seval]
   refine ifC.mk (fun h1 => ?_) (fun h1 => ?_)
   ·refine ⟨_, _, qa0, ?_, rfl⟩
    rw [hb 2 (Qhr (by rw [← eb]; simpa using h1)) (by omega)]
   ·have h1 : qx6 (l.getD k default) = true := by rw [← eb]; simpa using h1
    repeat ((with_reducible refine And.intro ?_ ?_); (focus (first | omega | (simp only [qa2]; omega) | (refine qq ?_; rfl) | (refine dq ?_; kernel_rfl) | (intros; simp_all; done))))
    refine qah (q83 _ (by rw [eb]; exact hs _ (qct h))) ?_
    simp only [zC, seval]
    refine ifC.mk (fun h2 => ?_) (fun h2 => ?_)
    ·have h2 : qde (l.getD k default).stack ≠ 0 := by rw [← eb]; simpa using h2
     refine ⟨_, _, qa0, ?_, rfl⟩
     rw [hb _ (Qmq h1 h2) h2, eb]
    ·have ho := Qmp h1 (by rw [← eb]; simpa using h2)
     rw [← eb] at ho
     by_cases hk0 : 0 < k
     ·have e1 : IntKind.i64.wrap ((k : Int) - 1) = ((k - 1 : Nat) : Int) := by rw [qbl (by omega) (by omega)]; omega
      obtain ⟨a, ea⟩ : ∃ a, a = l.getD (k - 1) default := ⟨_, rfl⟩
      rw [decide_eq_true hk0, Bool.true_and, ← ea] at ho
      (try simp only [zC, seval, (show (0:Int) < k by omega), e1, (show ((k - 1 : Nat) : Int) < l.length by omega), (show k - 1 < l.length by omega), qat _ _ _ (show k - 1 < l.length by omega), ← ea])
      repeat ((with_reducible refine And.intro ?_ ?_); (focus (first | omega | (simp only [qa2]; omega) | (refine qq ?_; rfl) | (refine dq ?_; kernel_rfl) | (intros; simp_all; done))))
      refine ifC.mk (fun h9 => ?_) (fun h9 => ?_)
      ·refine ⟨_, _, qa0, ?_, rfl⟩
       rw [if_pos h9] at ho
       rw [hb 11 ho (by omega)]
      ·rw [if_neg (by rw [h9]; simp)] at ho
       refine ⟨qbq hi ho, ?_⟩
       refine qad [] [] rfl List.nodup_nil ?_ rfl
       simp only [zC, seval, @qai ((k:Int) + 1) (by omega)]
     ·rw [decide_eq_false hk0, Bool.false_and, if_neg (by simp)] at ho
      have e0 : (IntKind.i64.wrap ((k : Int) - 1)).toNat = 0 := by rw [qbl (by omega) (by omega)]; omega
      (try simp only [zC, seval, (show ¬ (0:Int) < k by omega), e0, qat _ _ _ (show 0 < l.length by omega)])
      repeat ((with_reducible refine And.intro ?_ ?_); (focus (first | omega | (simp only [qa2]; omega) | (refine qq ?_; rfl) | (refine dq ?_; kernel_rfl) | (intros; simp_all; done))))
      refine ⟨qbq hi ho, ?_⟩
      refine qad [] [] rfl List.nodup_nil ?_ rfl
      simp only [zC, seval, @qai ((k:Int) + 1) (by omega)]
  ·simp only [zC, seval, (show ¬ (k:Int) < l.length by omega)]
   refine ⟨_, _, qa0, ?_, rfl⟩
   have : k = l.length := by omega
   rw [qj2, ← this, hi]
end YtljpopkonkanlaaGreatDoor
end Go.Proofs
