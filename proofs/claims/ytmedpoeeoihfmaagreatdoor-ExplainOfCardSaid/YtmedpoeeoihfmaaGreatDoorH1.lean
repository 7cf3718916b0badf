/- A part of the proof: contracts of functions of this seat, and lemmas. No condition beyond those stated. -/
import Derived.Test.YtmedpoeeoihfmaaGreatDoorG3
import Derived.Test.YtmedpoeeoihfmaaGreatDoorProg
import Derived.Test.YtmedpoeeoihfmaaGreatDoorG4
set_option linter.unusedVariables false
set_option linter.unusedSimpArgs false
set_option linter.unusedSectionVars false
set_option linter.unnecessarySimpa false

namespace Go.Proofs
open Go.AM
namespace YtmedpoeeoihfmaaGreatDoor
theorem ty_c34 : tcmp Tryz.prog 34 = some [0, 0] := by kernel_rfl
theorem ty_c92 : tcmp Tryz.prog 92 = some [0, 0] := by kernel_rfl
theorem ty_c106 : tcmp Tryz.prog 106 = some [0, 0] := by kernel_rfl
theorem ty_2 : tkind Tryz.prog 2 = some false ∧ tsz Tryz.prog 2 = some 1 ∧ tbytes Tryz.prog 2 = some 8 ∧ tintk Tryz.prog 2 = some .i64 ∧ (Tryz.prog.underlying 2).isSome = true ∧ tzero Tryz.prog 2 = some (Value.int .i64 0) ∧ (Value.int .i64 0).cells.size = 1 ∧ zeroV Tryz.prog 2 = .d (D.int .i64 0) ∧ dataZero Tryz.prog 2 = some (D.int .i64 0) := by and_intros <;> kernel_rfl
theorem ty_3 : tkind Tryz.prog 3 = some false ∧ tsz Tryz.prog 3 = some 1 ∧ tbytes Tryz.prog 3 = some 8 ∧ tintk Tryz.prog 3 = some .i64 ∧ (Tryz.prog.underlying 3).isSome = true ∧ tzero Tryz.prog 3 = some (Value.int .i64 0) ∧ (Value.int .i64 0).cells.size = 1 ∧ zeroV Tryz.prog 3 = .d (D.int .i64 0) ∧ dataZero Tryz.prog 3 = some (D.int .i64 0) := by and_intros <;> kernel_rfl
theorem ty_4 : tkind Tryz.prog 4 = some false ∧ tsz Tryz.prog 4 = some 1 ∧ tbytes Tryz.prog 4 = some 1 ∧ (Tryz.prog.underlying 4).isSome = true ∧ Tryz.prog.underlying 4 = some .bool ∧ tzero Tryz.prog 4 = some (Value.bool false) ∧ (Value.bool false).cells.size = 1 ∧ zeroV Tryz.prog 4 = .d (D.bool false) ∧ dataZero Tryz.prog 4 = some (D.bool false) := by and_intros <;> kernel_rfl
theorem ty_5 : tkind Tryz.prog 5 = some false ∧ tsz Tryz.prog 5 = some 1 ∧ tbytes Tryz.prog 5 = some 1 ∧ tintk Tryz.prog 5 = some .u8 ∧ (Tryz.prog.underlying 5).isSome = true ∧ tzero Tryz.prog 5 = some (Value.int .u8 0) ∧ (Value.int .u8 0).cells.size = 1 ∧ zeroV Tryz.prog 5 = .d (D.int .u8 0) ∧ dataZero Tryz.prog 5 = some (D.int .u8 0) := by and_intros <;> kernel_rfl
theorem ty_9 : tkind Tryz.prog 9 = some false ∧ tsz Tryz.prog 9 = some 1 ∧ tbytes Tryz.prog 9 = some 16 ∧ tstr Tryz.prog 9 = true ∧ (Tryz.prog.underlying 9).isSome = true ∧ tzero Tryz.prog 9 = some (Value.string ⟨#[]⟩) ∧ (Value.string ⟨#[]⟩).cells.size = 1 ∧ zeroV Tryz.prog 9 = .d (D.str []) ∧ dataZero Tryz.prog 9 = some (D.str []) := by and_intros <;> kernel_rfl
theorem ty_22 : tkind Tryz.prog 22 = some false ∧ tsz Tryz.prog 22 = some 1 ∧ telem Tryz.prog 22 = some 53 ∧ apEs Tryz.prog 22 = 5 ∧ tbytes Tryz.prog 22 = some 24 ∧ tidx Tryz.prog 22 = some (none, 5) ∧ (Tryz.prog.underlying 22).isSome = true ∧ tzero Tryz.prog 22 = some (Value.slice none 0 0) ∧ (Value.slice none 0 0).cells.size = 1 ∧ zeroV Tryz.prog 22 = .nils ∧ dataZero Tryz.prog 22 = some (D.sl []) := by and_intros <;> kernel_rfl
theorem ty_25 : tkind Tryz.prog 25 = some false ∧ tsz Tryz.prog 25 = some 1 ∧ telem Tryz.prog 25 = some 36 ∧ apEs Tryz.prog 25 = 4 ∧ tbytes Tryz.prog 25 = some 24 ∧ tidx Tryz.prog 25 = some (none, 4) ∧ (Tryz.prog.underlying 25).isSome = true ∧ tzero Tryz.prog 25 = some (Value.slice none 0 0) ∧ (Value.slice none 0 0).cells.size = 1 ∧ zeroV Tryz.prog 25 = .nils ∧ dataZero Tryz.prog 25 = some (D.sl []) := by and_intros <;> kernel_rfl
theorem ty_26 : tkind Tryz.prog 26 = some false ∧ tsz Tryz.prog 26 = some 1 ∧ tbytes Tryz.prog 26 = some 8 ∧ tintk Tryz.prog 26 = some .i64 ∧ (Tryz.prog.underlying 26).isSome = true ∧ tzero Tryz.prog 26 = some (Value.int .i64 0) ∧ (Value.int .i64 0).cells.size = 1 ∧ zeroV Tryz.prog 26 = .d (D.int .i64 0) ∧ dataZero Tryz.prog 26 = some (D.int .i64 0) := by and_intros <;> kernel_rfl
theorem ty_32 : tkind Tryz.prog 32 = some false ∧ tsz Tryz.prog 32 = some 1 ∧ telem Tryz.prog 32 = some 9 ∧ apEs Tryz.prog 32 = 1 ∧ tbytes Tryz.prog 32 = some 24 ∧ tidx Tryz.prog 32 = some (none, 1) ∧ (Tryz.prog.underlying 32).isSome = true ∧ tzero Tryz.prog 32 = some (Value.slice none 0 0) ∧ (Value.slice none 0 0).cells.size = 1 ∧ zeroV Tryz.prog 32 = .nils ∧ dataZero Tryz.prog 32 = some (D.sl []) := by and_intros <;> kernel_rfl
theorem ty_34 : tkind Tryz.prog 34 = some true ∧ tsz Tryz.prog 34 = some 2 ∧ tbytes Tryz.prog 34 = some 16 ∧ (Tryz.prog.underlying 34).isSome = true ∧ tcmp Tryz.prog 34 = some [0, 0] ∧ tfld Tryz.prog 34 0 = some (0, 1, false) ∧ tfld Tryz.prog 34 1 = some (1, 1, false) ∧ tplaces Tryz.prog 34 = some [(0, 1), (1, 1)] ∧ tzeroA Tryz.prog 34 = some [.d (D.int .i64 0), .d (D.int .i64 0)] ∧ tzero Tryz.prog 34 = some (Value.agg #[Value.int .i64 0, Value.int .i64 0]) ∧ (Value.agg #[Value.int .i64 0, Value.int .i64 0]).cells.size = 2 ∧ zeroV Tryz.prog 34 = .d (D.agg [D.int .i64 0, D.int .i64 0]) ∧ dataZero Tryz.prog 34 = some (D.agg [D.int .i64 0, D.int .i64 0]) := by and_intros <;> kernel_rfl
theorem ty_36 : tkind Tryz.prog 36 = some true ∧ tsz Tryz.prog 36 = some 4 ∧ tbytes Tryz.prog 36 = some 56 ∧ (Tryz.prog.underlying 36).isSome = true ∧ tfld Tryz.prog 36 0 = some (0, 1, false) ∧ tfld Tryz.prog 36 1 = some (1, 1, false) ∧ tfld Tryz.prog 36 2 = some (2, 2, true) ∧ tplaces Tryz.prog 36 = some [(0, 1), (1, 1), (2, 2)] ∧ tzeroA Tryz.prog 36 = some [.nils, .d (D.str []), .d (D.int .i64 0), .d (D.int .i64 0)] ∧ tzero Tryz.prog 36 = some (Value.agg #[Value.slice none 0 0, Value.string ⟨#[]⟩, Value.int .i64 0, Value.int .i64 0]) ∧ (Value.agg #[Value.slice none 0 0, Value.string ⟨#[]⟩, Value.int .i64 0, Value.int .i64 0]).cells.size = 4 ∧ zeroV Tryz.prog 36 = .agg [.nils, .d (D.str []), .d (D.int .i64 0), .d (D.int .i64 0)] ∧ dataZero Tryz.prog 36 = some (D.agg [D.sl [], D.str [], D.int .i64 0, D.int .i64 0]) := by and_intros <;> kernel_rfl
theorem ty_44 : tkind Tryz.prog 44 = some false ∧ tsz Tryz.prog 44 = some 1 ∧ telem Tryz.prog 44 = some 50 ∧ apEs Tryz.prog 44 = 2 ∧ tbytes Tryz.prog 44 = some 24 ∧ tidx Tryz.prog 44 = some (none, 2) ∧ (Tryz.prog.underlying 44).isSome = true ∧ tzero Tryz.prog 44 = some (Value.slice none 0 0) ∧ (Value.slice none 0 0).cells.size = 1 ∧ zeroV Tryz.prog 44 = .nils ∧ dataZero Tryz.prog 44 = some (D.sl []) := by and_intros <;> kernel_rfl
theorem ty_47 : tkind Tryz.prog 47 = some false ∧ tsz Tryz.prog 47 = some 1 ∧ telem Tryz.prog 47 = some 32 ∧ apEs Tryz.prog 47 = 1 ∧ tbytes Tryz.prog 47 = some 24 ∧ tidx Tryz.prog 47 = some (none, 1) ∧ (Tryz.prog.underlying 47).isSome = true ∧ tzero Tryz.prog 47 = some (Value.slice none 0 0) ∧ (Value.slice none 0 0).cells.size = 1 ∧ zeroV Tryz.prog 47 = .nils ∧ dataZero Tryz.prog 47 = some (D.sl []) := by and_intros <;> kernel_rfl
theorem ty_50 : tkind Tryz.prog 50 = some true ∧ tsz Tryz.prog 50 = some 2 ∧ tbytes Tryz.prog 50 = some 16 ∧ (Tryz.prog.underlying 50).isSome = true ∧ tcmp Tryz.prog 50 = some [0, 0] ∧ tfld Tryz.prog 50 0 = some (0, 1, false) ∧ tfld Tryz.prog 50 1 = some (1, 1, false) ∧ tplaces Tryz.prog 50 = some [(0, 1), (1, 1)] ∧ tzeroA Tryz.prog 50 = some [.d (D.int .i64 0), .d (D.int .i64 0)] ∧ tzero Tryz.prog 50 = some (Value.agg #[Value.int .i64 0, Value.int .i64 0]) ∧ (Value.agg #[Value.int .i64 0, Value.int .i64 0]).cells.size = 2 ∧ zeroV Tryz.prog 50 = .d (D.agg [D.int .i64 0, D.int .i64 0]) ∧ dataZero Tryz.prog 50 = some (D.agg [D.int .i64 0, D.int .i64 0]) := by and_intros <;> kernel_rfl
theorem ty_53 : tkind Tryz.prog 53 = some true ∧ tsz Tryz.prog 53 = some 5 ∧ tbytes Tryz.prog 53 = some 48 ∧ (Tryz.prog.underlying 53).isSome = true ∧ tcmp Tryz.prog 53 = some [0, 2, 0, 0, 0] ∧ tfld Tryz.prog 53 0 = some (0, 1, false) ∧ tfld Tryz.prog 53 1 = some (1, 1, false) ∧ tfld Tryz.prog 53 2 = some (2, 1, false) ∧ tfld Tryz.prog 53 3 = some (3, 1, false) ∧ tfld Tryz.prog 53 4 = some (4, 1, false) ∧ tplaces Tryz.prog 53 = some [(0, 1), (1, 1), (2, 1), (3, 1), (4, 1)] ∧ tzeroA Tryz.prog 53 = some [.d (D.int .i64 0), .d (D.str []), .d (D.int .i64 0), .d (D.int .i64 0), .d (D.int .i64 0)] ∧ tzero Tryz.prog 53 = some (Value.agg #[Value.int .i64 0, Value.string ⟨#[]⟩, Value.int .i64 0, Value.int .i64 0, Value.int .i64 0]) ∧ (Value.agg #[Value.int .i64 0, Value.string ⟨#[]⟩, Value.int .i64 0, Value.int .i64 0, Value.int .i64 0]).cells.size = 5 ∧ zeroV Tryz.prog 53 = .d (D.agg [D.int .i64 0, D.str [], D.int .i64 0, D.int .i64 0, D.int .i64 0]) ∧ dataZero Tryz.prog 53 = some (D.agg [D.int .i64 0, D.str [], D.int .i64 0, D.int .i64 0, D.int .i64 0]) := by and_intros <;> kernel_rfl
theorem ty_56 : tkind Tryz.prog 56 = some false ∧ tsz Tryz.prog 56 = some 1 ∧ tbytes Tryz.prog 56 = some 8 ∧ (Tryz.prog.underlying 56).isSome = true ∧ tzero Tryz.prog 56 = some (Value.nilFunc) ∧ (Value.nilFunc).cells.size = 1 ∧ zeroV Tryz.prog 56 = .d (D.raw .nilFunc) ∧ dataZero Tryz.prog 56 = some (D.raw .nilFunc) := by and_intros <;> kernel_rfl
theorem ty_59 : tkind Tryz.prog 59 = some false ∧ tsz Tryz.prog 59 = some 1 ∧ telem Tryz.prog 59 = some 22 ∧ apEs Tryz.prog 59 = 1 ∧ tbytes Tryz.prog 59 = some 24 ∧ tidx Tryz.prog 59 = some (none, 1) ∧ (Tryz.prog.underlying 59).isSome = true ∧ tzero Tryz.prog 59 = some (Value.slice none 0 0) ∧ (Value.slice none 0 0).cells.size = 1 ∧ zeroV Tryz.prog 59 = .nils ∧ dataZero Tryz.prog 59 = some (D.sl []) := by and_intros <;> kernel_rfl
theorem ty_63 : tkind Tryz.prog 63 = some false ∧ tsz Tryz.prog 63 = some 1 ∧ telem Tryz.prog 63 = some 34 ∧ apEs Tryz.prog 63 = 2 ∧ tbytes Tryz.prog 63 = some 24 ∧ tidx Tryz.prog 63 = some (none, 2) ∧ (Tryz.prog.underlying 63).isSome = true ∧ tzero Tryz.prog 63 = some (Value.slice none 0 0) ∧ (Value.slice none 0 0).cells.size = 1 ∧ zeroV Tryz.prog 63 = .nils ∧ dataZero Tryz.prog 63 = some (D.sl []) := by and_intros <;> kernel_rfl
theorem ty_69 : tkind Tryz.prog 69 = some false ∧ tsz Tryz.prog 69 = some 1 ∧ tbytes Tryz.prog 69 = some 8 ∧ (Tryz.prog.underlying 69).isSome = true ∧ tzero Tryz.prog 69 = some (Value.nilFunc) ∧ (Value.nilFunc).cells.size = 1 ∧ zeroV Tryz.prog 69 = .d (D.raw .nilFunc) ∧ dataZero Tryz.prog 69 = some (D.raw .nilFunc) := by and_intros <;> kernel_rfl
theorem ty_71 : tkind Tryz.prog 71 = some false ∧ tsz Tryz.prog 71 = some 1 ∧ tptr Tryz.prog 71 = true ∧ tbytes Tryz.prog 71 = some 8 ∧ (Tryz.prog.underlying 71).isSome = true ∧ tzero Tryz.prog 71 = some (Value.pointer none) ∧ (Value.pointer none).cells.size = 1 ∧ zeroV Tryz.prog 71 = .d (D.raw (.pointer none)) ∧ dataZero Tryz.prog 71 = some (D.raw (.pointer none)) := by and_intros <;> kernel_rfl
theorem ty_72 : tkind Tryz.prog 72 = some false ∧ tsz Tryz.prog 72 = some 1 ∧ tmap Tryz.prog 72 = some (some .i64, 76) ∧ tbytes Tryz.prog 72 = some 8 ∧ (Tryz.prog.underlying 72).isSome = true ∧ tzero Tryz.prog 72 = some (Value.map none) ∧ (Value.map none).cells.size = 1 ∧ zeroV Tryz.prog 72 = .d (D.raw (.map none)) ∧ dataZero Tryz.prog 72 = some (D.raw (.map none)) := by and_intros <;> kernel_rfl
theorem ty_74 : tkind Tryz.prog 74 = some true ∧ tsz Tryz.prog 74 = some 2 ∧ tbytes Tryz.prog 74 = some 32 ∧ (Tryz.prog.underlying 74).isSome = true ∧ tfld Tryz.prog 74 0 = some (0, 1, false) ∧ tfld Tryz.prog 74 1 = some (1, 1, false) ∧ tplaces Tryz.prog 74 = some [(0, 1), (1, 1)] ∧ tzeroA Tryz.prog 74 = some [.nils, .d (D.raw (.map none))] ∧ tzero Tryz.prog 74 = some (Value.agg #[Value.slice none 0 0, Value.map none]) ∧ (Value.agg #[Value.slice none 0 0, Value.map none]).cells.size = 2 ∧ zeroV Tryz.prog 74 = .agg [.nils, .d (D.raw (.map none))] ∧ dataZero Tryz.prog 74 = some (D.agg [D.sl [], D.raw (.map none)]) := by and_intros <;> kernel_rfl
theorem ty_76 : tkind Tryz.prog 76 = some false ∧ tsz Tryz.prog 76 = some 1 ∧ telem Tryz.prog 76 = some 3 ∧ apEs Tryz.prog 76 = 1 ∧ tbytes Tryz.prog 76 = some 24 ∧ tidx Tryz.prog 76 = some (none, 1) ∧ (Tryz.prog.underlying 76).isSome = true ∧ tzero Tryz.prog 76 = some (Value.slice none 0 0) ∧ (Value.slice none 0 0).cells.size = 1 ∧ zeroV Tryz.prog 76 = .nils ∧ dataZero Tryz.prog 76 = some (D.sl []) := by and_intros <;> kernel_rfl
theorem ty_78 : tkind Tryz.prog 78 = some false ∧ tsz Tryz.prog 78 = some 1 ∧ telem Tryz.prog 78 = some 4 ∧ apEs Tryz.prog 78 = 1 ∧ tbytes Tryz.prog 78 = some 24 ∧ tidx Tryz.prog 78 = some (none, 1) ∧ (Tryz.prog.underlying 78).isSome = true ∧ tzero Tryz.prog 78 = some (Value.slice none 0 0) ∧ (Value.slice none 0 0).cells.size = 1 ∧ zeroV Tryz.prog 78 = .nils ∧ dataZero Tryz.prog 78 = some (D.sl []) := by and_intros <;> kernel_rfl
theorem ty_79 : tkind Tryz.prog 79 = some false ∧ tsz Tryz.prog 79 = some 1 ∧ tmap Tryz.prog 79 = some (some .i64, 32) ∧ tbytes Tryz.prog 79 = some 8 ∧ (Tryz.prog.underlying 79).isSome = true ∧ tzero Tryz.prog 79 = some (Value.map none) ∧ (Value.map none).cells.size = 1 ∧ zeroV Tryz.prog 79 = .d (D.raw (.map none)) ∧ dataZero Tryz.prog 79 = some (D.raw (.map none)) := by and_intros <;> kernel_rfl
theorem ty_81 : tkind Tryz.prog 81 = some true ∧ tsz Tryz.prog 81 = some 7 ∧ tbytes Tryz.prog 81 = some 120 ∧ (Tryz.prog.underlying 81).isSome = true ∧ tfld Tryz.prog 81 0 = some (0, 2, true) ∧ tfld Tryz.prog 81 1 = some (2, 2, true) ∧ tfld Tryz.prog 81 2 = some (4, 1, false) ∧ tfld Tryz.prog 81 3 = some (5, 1, false) ∧ tfld Tryz.prog 81 4 = some (6, 1, false) ∧ tplaces Tryz.prog 81 = some [(0, 2), (2, 2), (4, 1), (5, 1), (6, 1)] ∧ tzeroA Tryz.prog 81 = some [.nils, .d (D.raw (.map none)), .nils, .d (D.raw (.map none)), .nils, .nils, .d (D.raw (.map none))] ∧ tzero Tryz.prog 81 = some (Value.agg #[Value.slice none 0 0, Value.map none, Value.slice none 0 0, Value.map none, Value.slice none 0 0, Value.slice none 0 0, Value.map none]) ∧ (Value.agg #[Value.slice none 0 0, Value.map none, Value.slice none 0 0, Value.map none, Value.slice none 0 0, Value.slice none 0 0, Value.map none]).cells.size = 7 ∧ zeroV Tryz.prog 81 = .agg [.nils, .d (D.raw (.map none)), .nils, .d (D.raw (.map none)), .nils, .nils, .d (D.raw (.map none))] ∧ dataZero Tryz.prog 81 = some (D.agg [D.sl [], D.raw (.map none), D.sl [], D.raw (.map none), D.sl [], D.sl [], D.raw (.map none)]) := by and_intros <;> kernel_rfl
theorem ty_82 : tkind Tryz.prog 82 = some false ∧ tsz Tryz.prog 82 = some 1 ∧ tbytes Tryz.prog 82 = some 8 ∧ (Tryz.prog.underlying 82).isSome = true ∧ tzero Tryz.prog 82 = some (Value.nilFunc) ∧ (Value.nilFunc).cells.size = 1 ∧ zeroV Tryz.prog 82 = .d (D.raw .nilFunc) ∧ dataZero Tryz.prog 82 = some (D.raw .nilFunc) := by and_intros <;> kernel_rfl
theorem ty_85 : tkind Tryz.prog 85 = some false ∧ tsz Tryz.prog 85 = some 1 ∧ tptr Tryz.prog 85 = true ∧ tbytes Tryz.prog 85 = some 8 ∧ (Tryz.prog.underlying 85).isSome = true ∧ tzero Tryz.prog 85 = some (Value.pointer none) ∧ (Value.pointer none).cells.size = 1 ∧ zeroV Tryz.prog 85 = .d (D.raw (.pointer none)) ∧ dataZero Tryz.prog 85 = some (D.raw (.pointer none)) := by and_intros <;> kernel_rfl
theorem ty_88 : tkind Tryz.prog 88 = some true ∧ tsz Tryz.prog 88 = some 4 ∧ tbytes Tryz.prog 88 = some 96 ∧ (Tryz.prog.underlying 88).isSome = true ∧ tfld Tryz.prog 88 0 = some (0, 1, false) ∧ tfld Tryz.prog 88 1 = some (1, 1, false) ∧ tfld Tryz.prog 88 2 = some (2, 1, false) ∧ tfld Tryz.prog 88 3 = some (3, 1, false) ∧ tplaces Tryz.prog 88 = some [(0, 1), (1, 1), (2, 1), (3, 1)] ∧ tzeroA Tryz.prog 88 = some [.nils, .nils, .nils, .nils] ∧ tzero Tryz.prog 88 = some (Value.agg #[Value.slice none 0 0, Value.slice none 0 0, Value.slice none 0 0, Value.slice none 0 0]) ∧ (Value.agg #[Value.slice none 0 0, Value.slice none 0 0, Value.slice none 0 0, Value.slice none 0 0]).cells.size = 4 ∧ zeroV Tryz.prog 88 = .agg [.nils, .nils, .nils, .nils] ∧ dataZero Tryz.prog 88 = some (D.agg [D.sl [], D.sl [], D.sl [], D.sl []]) := by and_intros <;> kernel_rfl
theorem ty_89 : tkind Tryz.prog 89 = some false ∧ tsz Tryz.prog 89 = some 1 ∧ tbytes Tryz.prog 89 = some 8 ∧ tintk Tryz.prog 89 = some .u64 ∧ (Tryz.prog.underlying 89).isSome = true ∧ tzero Tryz.prog 89 = some (Value.int .u64 0) ∧ (Value.int .u64 0).cells.size = 1 ∧ zeroV Tryz.prog 89 = .d (D.int .u64 0) ∧ dataZero Tryz.prog 89 = some (D.int .u64 0) := by and_intros <;> kernel_rfl
theorem ty_92 : tkind Tryz.prog 92 = some true ∧ tsz Tryz.prog 92 = some 2 ∧ tbytes Tryz.prog 92 = some 16 ∧ (Tryz.prog.underlying 92).isSome = true ∧ tcmp Tryz.prog 92 = some [0, 0] ∧ tfld Tryz.prog 92 0 = some (0, 1, false) ∧ tfld Tryz.prog 92 1 = some (1, 1, false) ∧ tplaces Tryz.prog 92 = some [(0, 1), (1, 1)] ∧ tzeroA Tryz.prog 92 = some [.d (D.int .u64 0), .d (D.int .u64 0)] ∧ tzero Tryz.prog 92 = some (Value.agg #[Value.int .u64 0, Value.int .u64 0]) ∧ (Value.agg #[Value.int .u64 0, Value.int .u64 0]).cells.size = 2 ∧ zeroV Tryz.prog 92 = .d (D.agg [D.int .u64 0, D.int .u64 0]) ∧ dataZero Tryz.prog 92 = some (D.agg [D.int .u64 0, D.int .u64 0]) := by and_intros <;> kernel_rfl
theorem ty_106 : tkind Tryz.prog 106 = some true ∧ tsz Tryz.prog 106 = some 2 ∧ tbytes Tryz.prog 106 = some 16 ∧ (Tryz.prog.underlying 106).isSome = true ∧ tcmp Tryz.prog 106 = some [0, 0] ∧ tfld Tryz.prog 106 0 = some (0, 1, false) ∧ tfld Tryz.prog 106 1 = some (1, 1, false) ∧ tplaces Tryz.prog 106 = some [(0, 1), (1, 1)] ∧ tzeroA Tryz.prog 106 = some [.d (D.int .u64 0), .d (D.int .u64 0)] ∧ tzero Tryz.prog 106 = some (Value.agg #[Value.int .u64 0, Value.int .u64 0]) ∧ (Value.agg #[Value.int .u64 0, Value.int .u64 0]).cells.size = 2 ∧ zeroV Tryz.prog 106 = .d (D.agg [D.int .u64 0, D.int .u64 0]) ∧ dataZero Tryz.prog 106 = some (D.agg [D.int .u64 0, D.int .u64 0]) := by and_intros <;> kernel_rfl
theorem ty_108 : tkind Tryz.prog 108 = some true ∧ tsz Tryz.prog 108 = some 3 ∧ tbytes Tryz.prog 108 = some 24 ∧ (Tryz.prog.underlying 108).isSome = true ∧ tcmp Tryz.prog 108 = some [1, 0, 0] ∧ tfld Tryz.prog 108 0 = some (0, 1, false) ∧ tfld Tryz.prog 108 1 = some (1, 2, true) ∧ tplaces Tryz.prog 108 = some [(0, 1), (1, 2)] ∧ tzeroA Tryz.prog 108 = some [.d (D.bool false), .d (D.int .u64 0), .d (D.int .u64 0)] ∧ tzero Tryz.prog 108 = some (Value.agg #[Value.bool false, Value.int .u64 0, Value.int .u64 0]) ∧ (Value.agg #[Value.bool false, Value.int .u64 0, Value.int .u64 0]).cells.size = 3 ∧ zeroV Tryz.prog 108 = .d (D.agg [D.bool false, D.int .u64 0, D.int .u64 0]) ∧ dataZero Tryz.prog 108 = some (D.agg [D.bool false, D.int .u64 0, D.int .u64 0]) := by and_intros <;> kernel_rfl
theorem ty_115 : tkind Tryz.prog 115 = some false ∧ tsz Tryz.prog 115 = some 1 ∧ tbytes Tryz.prog 115 = some 8 ∧ tintk Tryz.prog 115 = some .u64 ∧ (Tryz.prog.underlying 115).isSome = true ∧ tzero Tryz.prog 115 = some (Value.int .u64 0) ∧ (Value.int .u64 0).cells.size = 1 ∧ zeroV Tryz.prog 115 = .d (D.int .u64 0) ∧ dataZero Tryz.prog 115 = some (D.int .u64 0) := by and_intros <;> kernel_rfl
theorem ty_119 : tkind Tryz.prog 119 = some false ∧ tsz Tryz.prog 119 = some 1 ∧ tbytes Tryz.prog 119 = some 8 ∧ (Tryz.prog.underlying 119).isSome = true ∧ tzero Tryz.prog 119 = some (Value.nilFunc) ∧ (Value.nilFunc).cells.size = 1 ∧ zeroV Tryz.prog 119 = .d (D.raw .nilFunc) ∧ dataZero Tryz.prog 119 = some (D.raw .nilFunc) := by and_intros <;> kernel_rfl
theorem ty_123 : tkind Tryz.prog 123 = some false ∧ tsz Tryz.prog 123 = some 1 ∧ tmap Tryz.prog 123 = some (some .i64, 9) ∧ tbytes Tryz.prog 123 = some 8 ∧ (Tryz.prog.underlying 123).isSome = true ∧ tzero Tryz.prog 123 = some (Value.map none) ∧ (Value.map none).cells.size = 1 ∧ zeroV Tryz.prog 123 = .d (D.raw (.map none)) ∧ dataZero Tryz.prog 123 = some (D.raw (.map none)) := by and_intros <;> kernel_rfl
theorem ty_137 : tkind Tryz.prog 137 = some false ∧ tsz Tryz.prog 137 = some 1 ∧ tbytes Tryz.prog 137 = some 4 ∧ tintk Tryz.prog 137 = some .u32 ∧ (Tryz.prog.underlying 137).isSome = true ∧ tzero Tryz.prog 137 = some (Value.int .u32 0) ∧ (Value.int .u32 0).cells.size = 1 ∧ zeroV Tryz.prog 137 = .d (D.int .u32 0) ∧ dataZero Tryz.prog 137 = some (D.int .u32 0) := by and_intros <;> kernel_rfl
theorem ty_145 : tkind Tryz.prog 145 = some false ∧ tsz Tryz.prog 145 = some 1 ∧ tbytes Tryz.prog 145 = some 16 ∧ (Tryz.prog.underlying 145).isSome = true ∧ tzero Tryz.prog 145 = some (Value.nilIface) ∧ (Value.nilIface).cells.size = 1 ∧ zeroV Tryz.prog 145 = .d (D.raw .nilIface) ∧ dataZero Tryz.prog 145 = some (D.raw .nilIface) := by and_intros <;> kernel_rfl
theorem ty_150 : tkind Tryz.prog 150 = some true ∧ tsz Tryz.prog 150 = some 24 ∧ tbytes Tryz.prog 150 = some 24 ∧ tidx Tryz.prog 150 = some (some 24, 1) ∧ (Tryz.prog.underlying 150).isSome = true ∧ tcmp Tryz.prog 150 = some [0, 0, 0, 0, 0, 0, 0, 0, 0, 0, 0, 0, 0, 0, 0, 0, 0, 0, 0, 0, 0, 0, 0, 0] ∧ tplaces Tryz.prog 150 = some [(0, 1), (1, 1), (2, 1), (3, 1), (4, 1), (5, 1), (6, 1), (7, 1), (8, 1), (9, 1), (10, 1), (11, 1), (12, 1), (13, 1), (14, 1), (15, 1), (16, 1), (17, 1), (18, 1), (19, 1), (20, 1), (21, 1), (22, 1), (23, 1)] ∧ tzeroA Tryz.prog 150 = some [.d (D.int .u8 0), .d (D.int .u8 0), .d (D.int .u8 0), .d (D.int .u8 0), .d (D.int .u8 0), .d (D.int .u8 0), .d (D.int .u8 0), .d (D.int .u8 0), .d (D.int .u8 0), .d (D.int .u8 0), .d (D.int .u8 0), .d (D.int .u8 0), .d (D.int .u8 0), .d (D.int .u8 0), .d (D.int .u8 0), .d (D.int .u8 0), .d (D.int .u8 0), .d (D.int .u8 0), .d (D.int .u8 0), .d (D.int .u8 0), .d (D.int .u8 0), .d (D.int .u8 0), .d (D.int .u8 0), .d (D.int .u8 0)] ∧ tzero Tryz.prog 150 = some (Value.agg #[Value.int .u8 0, Value.int .u8 0, Value.int .u8 0, Value.int .u8 0, Value.int .u8 0, Value.int .u8 0, Value.int .u8 0, Value.int .u8 0, Value.int .u8 0, Value.int .u8 0, Value.int .u8 0, Value.int .u8 0, Value.int .u8 0, Value.int .u8 0, Value.int .u8 0, Value.int .u8 0, Value.int .u8 0, Value.int .u8 0, Value.int .u8 0, Value.int .u8 0, Value.int .u8 0, Value.int .u8 0, Value.int .u8 0, Value.int .u8 0]) ∧ (Value.agg #[Value.int .u8 0, Value.int .u8 0, Value.int .u8 0, Value.int .u8 0, Value.int .u8 0, Value.int .u8 0, Value.int .u8 0, Value.int .u8 0, Value.int .u8 0, Value.int .u8 0, Value.int .u8 0, Value.int .u8 0, Value.int .u8 0, Value.int .u8 0, Value.int .u8 0, Value.int .u8 0, Value.int .u8 0, Value.int .u8 0, Value.int .u8 0, Value.int .u8 0, Value.int .u8 0, Value.int .u8 0, Value.int .u8 0, Value.int .u8 0]).cells.size = 24 ∧ zeroV Tryz.prog 150 = .d (D.agg [D.int .u8 0, D.int .u8 0, D.int .u8 0, D.int .u8 0, D.int .u8 0, D.int .u8 0, D.int .u8 0, D.int .u8 0, D.int .u8 0, D.int .u8 0, D.int .u8 0, D.int .u8 0, D.int .u8 0, D.int .u8 0, D.int .u8 0, D.int .u8 0, D.int .u8 0, D.int .u8 0, D.int .u8 0, D.int .u8 0, D.int .u8 0, D.int .u8 0, D.int .u8 0, D.int .u8 0]) ∧ dataZero Tryz.prog 150 = some (D.agg [D.int .u8 0, D.int .u8 0, D.int .u8 0, D.int .u8 0, D.int .u8 0, D.int .u8 0, D.int .u8 0, D.int .u8 0, D.int .u8 0, D.int .u8 0, D.int .u8 0, D.int .u8 0, D.int .u8 0, D.int .u8 0, D.int .u8 0, D.int .u8 0, D.int .u8 0, D.int .u8 0, D.int .u8 0, D.int .u8 0, D.int .u8 0, D.int .u8 0, D.int .u8 0, D.int .u8 0]) := by and_intros <;> kernel_rfl
theorem ty_152 : tkind Tryz.prog 152 = some false ∧ tsz Tryz.prog 152 = some 1 ∧ telem Tryz.prog 152 = some 5 ∧ apEs Tryz.prog 152 = 1 ∧ tbytes Tryz.prog 152 = some 24 ∧ tidx Tryz.prog 152 = some (none, 1) ∧ (Tryz.prog.underlying 152).isSome = true ∧ tzero Tryz.prog 152 = some (Value.slice none 0 0) ∧ (Value.slice none 0 0).cells.size = 1 ∧ zeroV Tryz.prog 152 = .nils ∧ dataZero Tryz.prog 152 = some (D.sl []) := by and_intros <;> kernel_rfl
theorem tyRules : type_of% (And.intro (And.intro ty_2 (And.intro ty_3 (And.intro ty_4 (And.intro ty_5 (And.intro ty_9 (And.intro ty_22 (And.intro ty_25 (And.intro ty_26 (And.intro ty_32 (And.intro ty_34 (And.intro ty_36 (And.intro ty_44 (And.intro ty_47 (And.intro ty_50 (And.intro ty_53 (And.intro ty_56 (And.intro ty_59 (And.intro ty_63 (And.intro ty_69 (ty_71)))))))))))))))))))) ((And.intro ty_72 (And.intro ty_74 (And.intro ty_76 (And.intro ty_78 (And.intro ty_79 (And.intro ty_81 (And.intro ty_82 (And.intro ty_85 (And.intro ty_88 (And.intro ty_89 (And.intro ty_92 (And.intro ty_106 (And.intro ty_108 (And.intro ty_115 (And.intro ty_119 (And.intro ty_123 (And.intro ty_137 (And.intro ty_145 (And.intro ty_150 (ty_152)))))))))))))))))))))) := And.intro (And.intro ty_2 (And.intro ty_3 (And.intro ty_4 (And.intro ty_5 (And.intro ty_9 (And.intro ty_22 (And.intro ty_25 (And.intro ty_26 (And.intro ty_32 (And.intro ty_34 (And.intro ty_36 (And.intro ty_44 (And.intro ty_47 (And.intro ty_50 (And.intro ty_53 (And.intro ty_56 (And.intro ty_59 (And.intro ty_63 (And.intro ty_69 (ty_71)))))))))))))))))))) ((And.intro ty_72 (And.intro ty_74 (And.intro ty_76 (And.intro ty_78 (And.intro ty_79 (And.intro ty_81 (And.intro ty_82 (And.intro ty_85 (And.intro ty_88 (And.intro ty_89 (And.intro ty_92 (And.intro ty_106 (And.intro ty_108 (And.intro ty_115 (And.intro ty_119 (And.intro ty_123 (And.intro ty_137 (And.intro ty_145 (And.intro ty_150 (ty_152)))))))))))))))))))))
end YtmedpoeeoihfmaaGreatDoor
end Go.Proofs

set_option maxRecDepth 100000
namespace Go.Proofs
open Go.AM
namespace YtmedpoeeoihfmaaGreatDoor
variable {Gl : Globs}
theorem zA : type_of% (And.intro @vcRules (And.intro @dRules (And.intro @bRules (And.intro @tyRules (And.intro @xRules (And.intro @pickV_true (And.intro @pickV_false (And.intro @Int.natCast_add (And.intro @Int.natCast_one @bytes_lit))))))))) := And.intro @vcRules (And.intro @dRules (And.intro @bRules (And.intro @tyRules (And.intro @xRules (And.intro @pickV_true (And.intro @pickV_false (And.intro @Int.natCast_add (And.intro @Int.natCast_one @bytes_lit))))))))
theorem k_ibs (s : List UInt8) (c : Int) : Pure Tryz.prog Gl 123 [.d (.str s), .d (.int .u8 c)] (.d (.int .i64 (Lib.indexByte s c.toNat.toUInt8))) :=
 indexByteString_pure Tryz.func123 (by kernel_rfl) (by kernel_rfl) (by kernel_rfl) (by kernel_rfl) s c
theorem k_sib (s : List UInt8) (c : Int) : Pure Tryz.prog Gl 121 [.d (.str s), .d (.int .u8 c)] (.d (.int .i64 (Lib.indexByte s c.toNat.toUInt8))) := by
 refine Pure.of2 ?_
 refine acalls_of Tryz.func121 rfl rfl (by simp [Tryz.ntmps121]) (evC_sound rfl _ _ _ _ ?_)
 simp only [Tryz.ntmps121, Tryz.results121, argEnv, List.length_nil]
 simp only [zA, seval, Nat.reduceLeDiff, Nat.reduceEqDiff, reduceCtorEq, reduceIte]
 refine callF_pure (k_ibs s c) ?_
 simp only [zA, seval, Nat.reduceLeDiff, Nat.reduceEqDiff, reduceCtorEq, reduceIte]
 exact ⟨_, _, WeakR.refl _ _ _, rfl, rfl⟩
theorem k_IndexByte (s : List UInt8) (c : Int) : Pure Tryz.prog Gl 117 [.d (.str s), .d (.int .u8 c)] (.d (.int .i64 (Lib.indexByte s c.toNat.toUInt8))) := by
 refine Pure.of2 ?_
 refine acalls_of Tryz.func117 rfl rfl (by simp [Tryz.ntmps117]) (evC_sound rfl _ _ _ _ ?_)
 simp only [Tryz.ntmps117, Tryz.results117, argEnv, List.length_nil]
 simp only [zA, seval, Nat.reduceLeDiff, Nat.reduceEqDiff, reduceCtorEq, reduceIte]
 refine callF_pure (k_sib s c) ?_
 simp only [zA, seval, Nat.reduceLeDiff, Nat.reduceEqDiff, reduceCtorEq, reduceIte]
 exact ⟨_, _, WeakR.refl _ _ _, rfl, rfl⟩
def signs : List UInt8 := [95, 46, 58, 47, 60, 62, 36, 42, 126, 45]
def letterF (c : Int) : Bool := (decide (97 ≤ c) && decide (c ≤ 122)) || (decide (65 ≤ c) && decide (c ≤ 90)) || (decide (48 ≤ c) && decide (c ≤ 57)) || decide (0 ≤ Lib.indexByte signs c.toNat.toUInt8)
theorem k_letter (c : Int) : Pure Tryz.prog Gl 111 [.d (.int .u8 c)] (.d (.bool (letterF c))) := by
 refine Pure.of1 ?_
 refine acalls_of Tryz.func111 rfl rfl (by simp [Tryz.ntmps111]) (evC_sound rfl _ _ _ _ ?_)
 simp only [Tryz.ntmps111, Tryz.results111, argEnv, List.length_nil]
 simp only [zA, seval, Nat.reduceLeDiff, Nat.reduceEqDiff, reduceCtorEq, reduceIte]
 repeat ((with_reducible refine And.intro ?_ ?_); (focus (first | omega | (simp only [lenR]; omega) | (refine qq ?_; rfl) | (refine dq ?_; kernel_rfl) | (intros; simp_all; done))))
 refine callG_pure (fun _ => k_IndexByte _ _) ?_
 simp only [zA, seval, Nat.reduceLeDiff, Nat.reduceEqDiff, reduceCtorEq, reduceIte]
 exact ⟨_, _, ret_d, rfl, rfl⟩
theorem index_any (l : List UInt8) (c : UInt8) : decide (0 ≤ Lib.indexByte l c) = l.any (· == c) := by
 induction l with
 | nil => rfl
 | cons b l ih =>
  have hg := Lib.indexByte_ge l c
  unfold Lib.indexByte
  rw [List.any_cons, ← ih]
  by_cases hb : (b == c) = true
  ·simp [hb]
  ·simp only [hb, Bool.false_or]
   by_cases hm : Lib.indexByte l c = -1
   ·simp [hm]
   ·have : ¬ (Lib.indexByte l c == -1) = true := by simpa using hm
    rw [if_neg (by simp), if_neg this]
    have h1 : 0 ≤ Lib.indexByte l c := by omega
    simp [h1]; omega
theorem k_Rletter (c : UInt8) : Pure Tryz.prog Gl 112 [.d (.int .u8 (c.toNat : Int))] (.d (.bool (letterF c.toNat))) := by
 refine Pure.of1 ?_
 refine acalls_of Tryz.func112 rfl rfl (by simp [Tryz.ntmps112]) (evC_sound rfl _ _ _ _ ?_)
 simp only [Tryz.ntmps112, Tryz.results112, argEnv, List.length_nil]
 simp only [zA, seval, Nat.reduceLeDiff, Nat.reduceEqDiff, reduceCtorEq, reduceIte]
 repeat ((with_reducible refine And.intro ?_ ?_); (focus (first | omega | (simp only [lenR]; omega) | (refine qq ?_; rfl) | (refine dq ?_; kernel_rfl) | (intros; simp_all; done))))
 refine ifC.mk (fun h => ?_) (fun h => ?_)
 ·refine ⟨_, _, ret_d, ?_, rfl⟩
  unfold letterF; rw [h]; rfl
 ·have hl : letterF c.toNat = signs.any (· == c) := by
   unfold letterF; rw [h, Bool.false_or, index_any]; simp
  rw [hl]
  refine for_of 10 (fun k => [(0, .d (.int .u8 (c.toNat : Int))), (3, .d (.str signs)), (4, .d (.int .i64 k))]) (fun _ => []) (fun k => (signs.take k).any (· == c) = false) rfl ?_ ?_
  ·refine weak_to [] [] rfl List.nodup_nil ?_ rfl
   simp only [zA, seval, Nat.reduceLeDiff, Nat.reduceEqDiff, reduceCtorEq, reduceIte, signs, Int.cast_ofNat_Int]
  ·intro k hi hk
   by_cases h : k < 10
   ·have hd : (signs.getD k 0) = signs.getD k default := rfl
    have hs := any_take (· == c) signs k h
    have hsl : signs.length = 10 := rfl
    simp only [zA, seval, Nat.reduceLeDiff, Nat.reduceEqDiff, reduceCtorEq, reduceIte, (show (k:Int) < signs.length by omega), hd]
    repeat ((with_reducible refine And.intro ?_ ?_); (focus (first | omega | (simp only [lenR]; omega) | (refine qq ?_; rfl) | (refine dq ?_; kernel_rfl) | (intros; simp_all; done))))
    refine ifC.mk (fun hc => ?_) (fun hc => ?_)
    ·have hc : (signs.getD k default == c) = true := by
      have := UInt8.toNat_inj.1 (Int.ofNat_inj.1 (by simpa using hc)); simp [this]
     refine ⟨_, _, ret_d, ?_, rfl⟩
     rw [any_at (· == c) signs k h hc]
    ·have hc : (signs.getD k default == c) = false := by
      rw [Bool.eq_false_iff]; intro hh
      have := beq_iff_eq.1 hh
      rw [this] at hc; simp at hc
     refine ⟨h, by rw [hs, hi, hc]; rfl, ?_⟩
     refine weak_to [] [] rfl List.nodup_nil ?_ rfl
     simp only [zA, seval, Nat.reduceLeDiff, Nat.reduceEqDiff, reduceCtorEq, reduceIte, @a_wrap ((k:Int) + 1) (by omega)]
   ·have hsl : signs.length = 10 := rfl
    simp only [zA, seval, Nat.reduceLeDiff, Nat.reduceEqDiff, reduceCtorEq, reduceIte, (show ¬ (k:Int) < signs.length by omega)]
    refine ⟨_, _, ret_d, ?_, rfl⟩
    have : k = 10 := by omega
    subst this
    rw [← hi]; rfl
def nameB (s : List UInt8) : Bool := decide (1 ≤ s.length) && decide (s.length ≤ 40) && s.all fun c => letterF c.toNat
def nameF (s : List UInt8) : Int := if nameB s = true then 0 else 3
theorem nameF_f {s : List UInt8} (h : nameB s = false) : nameF s = 3 := by simp [nameF, h]
theorem nameF_t {s : List UInt8} (h : nameB s = true) : nameF s = 0 := by simp [nameF, h]
theorem nameB_all {s : List UInt8} (h : 1 ≤ s.length ∧ s.length ≤ 40) : nameB s = s.all fun c => letterF c.toNat := by simp [nameB, h]
theorem nameB_long {s : List UInt8} (h : ¬ (1 ≤ s.length ∧ s.length ≤ 40)) : nameB s = false := by
 unfold nameB
 by_cases h1 : 1 ≤ s.length
 ·have : ¬ s.length ≤ 40 := fun h2 => h ⟨h1, h2⟩
  simp [this]
 ·simp [h1]
theorem k_Name (s : List UInt8) : Pure Tryz.prog Gl 89 [.d (.str s)] (.d (.int .i64 (nameF s))) := by
 refine Pure.of1 ?_
 refine acalls_of Tryz.func89 rfl rfl (by simp [Tryz.ntmps89]) (evC_sound rfl _ _ _ _ ?_)
 simp only [Tryz.ntmps89, Tryz.results89, argEnv, List.length_nil]
 simp only [zA, seval, Nat.reduceLeDiff, Nat.reduceEqDiff, reduceCtorEq, reduceIte]
 repeat ((with_reducible refine And.intro ?_ ?_); (focus (first | omega | (simp only [lenR]; omega) | (refine qq ?_; rfl) | (refine dq ?_; kernel_rfl) | (intros; simp_all; done))))
 refine ifC.mk (fun h => ?_) (fun h => ?_)
 ·refine ⟨_, _, ret_d, ?_, rfl⟩
  rw [nameF_f (nameB_long fun hn => ?_)]
  cases s <;> simp at h hn; omega
 ·have hn : 1 ≤ s.length ∧ s.length ≤ 40 := by cases s <;> simp at h ⊢; omega
  refine for_of s.length (fun k => [(0, .d (.str s)), (12, .d (.int .i64 s.length)), (13, .d (.int .i64 k))]) (fun _ => []) (fun k => ((s.take k).all fun c => letterF c.toNat) = true) rfl ?_ ?_
  ·refine weak_to [] [] rfl List.nodup_nil ?_ rfl
   simp only [zA, seval, Nat.reduceLeDiff, Nat.reduceEqDiff, reduceCtorEq, reduceIte, Int.cast_ofNat_Int]
  ·intro k hi hk
   by_cases h : k < s.length
   ·have hs := all_take (fun c => letterF c.toNat) s k h
    have hd : s.getD k 0 = s.getD k default := rfl
    simp only [zA, seval, Nat.reduceLeDiff, Nat.reduceEqDiff, reduceCtorEq, reduceIte, (show (k:Int) < s.length by omega), hd]
    repeat ((with_reducible refine And.intro ?_ ?_); (focus (first | omega | (simp only [lenR]; omega) | (refine qq ?_; rfl) | (refine dq ?_; kernel_rfl) | (intros; simp_all; done))))
    refine callF_pure (k_letter _) ?_
    simp only [zA, seval, Nat.reduceLeDiff, Nat.reduceEqDiff, reduceCtorEq, reduceIte]
    refine ifC.mk (fun hc => ?_) (fun hc => ?_)
    ·refine ⟨_, _, ret_d, ?_, rfl⟩
     rw [nameF_f (by rw [nameB_all hn]; exact all_at _ s k h (by simpa using hc))]
    ·refine ⟨h, by rw [hs, hi]; simpa using hc, ?_⟩
     refine weak_to [] [] rfl List.nodup_nil ?_ rfl
     simp only [zA, seval, Nat.reduceLeDiff, Nat.reduceEqDiff, reduceCtorEq, reduceIte, @a_wrap ((k:Int) + 1) (by omega)]
   ·simp only [zA, seval, Nat.reduceLeDiff, Nat.reduceEqDiff, reduceCtorEq, reduceIte, (show ¬ (k:Int) < s.length by omega)]
    refine ⟨_, _, ret_d, ?_, rfl⟩
    have : k = s.length := by omega
    rw [this, List.take_length] at hi
    rw [nameF_t (by rw [nameB_all hn]; exact hi)]
theorem k_RName (s : List UInt8) : Pure Tryz.prog Gl 90 [.d (.str s)] (.d (.int .i64 (nameF s))) := by
 refine Pure.of1 ?_
 refine acalls_of Tryz.func90 rfl rfl (by simp [Tryz.ntmps90]) (evC_sound rfl _ _ _ _ ?_)
 simp only [Tryz.ntmps90, Tryz.results90, argEnv, List.length_nil]
 simp only [zA, seval, Nat.reduceLeDiff, Nat.reduceEqDiff, reduceCtorEq, reduceIte]
 repeat ((with_reducible refine And.intro ?_ ?_); (focus (first | omega | (simp only [lenR]; omega) | (refine qq ?_; rfl) | (refine dq ?_; kernel_rfl) | (intros; simp_all; done))))
 refine ifC.mk (fun h => ?_) (fun h => ?_)
 ·refine ⟨_, _, ret_d, ?_, rfl⟩
  rw [nameF_f (nameB_long fun hn => ?_)]
  simp at h; omega
 ·have hn : 1 ≤ s.length ∧ s.length ≤ 40 := by simp at h; omega
  refine for_of s.length (fun k => [(0, .d (.str s)), (3, .d (.int .i64 k))]) (fun _ => []) (fun k => ((s.take k).all fun c => letterF c.toNat) = true) rfl ?_ ?_
  ·refine weak_to [] [] rfl List.nodup_nil ?_ rfl
   simp only [zA, seval, Nat.reduceLeDiff, Nat.reduceEqDiff, reduceCtorEq, reduceIte, Int.cast_ofNat_Int]
  ·intro k hi hk
   by_cases h : k < s.length
   ·have hs := all_take (fun c => letterF c.toNat) s k h
    have hd : s.getD k 0 = s.getD k default := rfl
    simp only [zA, seval, Nat.reduceLeDiff, Nat.reduceEqDiff, reduceCtorEq, reduceIte, (show (k:Int) < s.length by omega), hd]
    repeat ((with_reducible refine And.intro ?_ ?_); (focus (first | omega | (simp only [lenR]; omega) | (refine qq ?_; rfl) | (refine dq ?_; kernel_rfl) | (intros; simp_all; done))))
    refine callF_pure (k_Rletter _) ?_
    simp only [zA, seval, Nat.reduceLeDiff, Nat.reduceEqDiff, reduceCtorEq, reduceIte]
    refine ifC.mk (fun hc => ?_) (fun hc => ?_)
    ·refine ⟨_, _, ret_d, ?_, rfl⟩
     rw [nameF_f (by rw [nameB_all hn]; exact all_at _ s k h (by simpa using hc))]
    ·refine ⟨h, by rw [hs, hi]; simpa using hc, ?_⟩
     refine weak_to [] [] rfl List.nodup_nil ?_ rfl
     simp only [zA, seval, Nat.reduceLeDiff, Nat.reduceEqDiff, reduceCtorEq, reduceIte, @a_wrap ((k:Int) + 1) (by omega)]
   ·simp only [zA, seval, Nat.reduceLeDiff, Nat.reduceEqDiff, reduceCtorEq, reduceIte, (show ¬ (k:Int) < s.length by omega)]
    refine ⟨_, _, ret_d, ?_, rfl⟩
    have : k = s.length := by omega
    rw [this, List.take_length] at hi
    rw [nameF_t (by rw [nameB_all hn]; exact hi)]
def framesF (l : List (List UInt8)) : Int := if 32 < l.length then 7 else if l.all nameB = true then 0 else 3
end YtmedpoeeoihfmaaGreatDoor
end Go.Proofs

namespace Go.Proofs
open Go.AM
namespace YtmedpoeeoihfmaaGreatDoor
structure NodeT where
 parent : Int
 name : List UInt8
 self : Int
 total : Int
 count : Int
deriving Inhabited, DecidableEq
def par (l : List NodeT) (i : Nat) : Int := (l.getD i default).parent
def upW (l : List NodeT) (p a : Int) : Bool :=
 if h : 0 ≤ a then (if a = p then true else if h2 : par l a.toNat < a then upW l p (par l a.toNat) else false) else false
termination_by (a + 1).toNat
decreasing_by omega
def formOk (l : List NodeT) (i : Nat) : Bool := par l i == -1 || (decide (0 ≤ par l i) && decide (par l i < i) && upW l (par l i) ((i : Int) - 1))
def TreeUp (l : List NodeT) (n : Nat) : Prop := ∀ i, i < n → formOk l i = true
theorem tree_par {l : List NodeT} {n : Nat} (h : TreeUp l n) {i : Nat} (hi : i < n) : -1 ≤ par l i ∧ par l i < i := by
 have := h i hi
 simp only [formOk, Bool.or_eq_true, Bool.and_eq_true, decide_eq_true_eq, beq_iff_eq] at this
 omega
theorem upW_self {l : List NodeT} {i : Nat} : upW l i i = true := by rw [upW, dif_pos (by omega), if_pos rfl]
theorem upW_neg {l : List NodeT} {p a : Int} (h : a < 0) : upW l p a = false := by rw [upW, dif_neg (by omega)]
theorem upW_step {l : List NodeT} {n : Nat} (h : TreeUp l n) {p : Int} {i : Nat} (hi : i < n) (hp : (i : Int) ≠ p) : upW l p i = upW l p (par l i) := by
 obtain ⟨h1, h2⟩ := tree_par h hi
 rw [upW, dif_pos (by omega), if_neg hp]
 have e : ((i : Int)).toNat = i := by omega
 rw [e, dif_pos (by omega)]
theorem upW_le {l : List NodeT} {p : Int} : ∀ (m : Nat) {a : Int}, (a + 1).toNat ≤ m → upW l p a = true → p ≤ a := by
 intro m
 induction m with
 | zero =>
  intro a hm h
  rw [upW, dif_neg (by omega)] at h; cases h
 | succ m ih =>
  intro a hm h
  rw [upW] at h
  split at h
  ·split at h
   ·omega
   ·split at h
    ·have := ih (by omega) h; omega
    ·cases h
  ·cases h
theorem upW_ge {l : List NodeT} {p a : Int} (h : upW l p a = true) : p ≤ a := upW_le _ (Nat.le_refl _) h
theorem upW_nn {l : List NodeT} {p : Int} : ∀ (m : Nat) {a : Int}, (a + 1).toNat ≤ m → upW l p a = true → 0 ≤ p := by
 intro m
 induction m with
 | zero =>
  intro a hm h
  rw [upW, dif_neg (by omega)] at h; cases h
 | succ m ih =>
  intro a hm h
  rw [upW] at h
  split at h
  ·split at h
   ·omega
   ·split at h
    ·exact ih (by omega) h
    ·cases h
  ·cases h
theorem up_between {l : List NodeT} {n : Nat} (h : TreeUp l n) {i : Nat} : ∀ (d : Nat) {j : Nat}, i ≤ j → j + d < n → upW l i ((j + d : Nat) : Int) = true → upW l i (j : Int) = true := by
 intro d
 induction d with
 | zero => intro j _ _ h; exact h
 | succ d ih =>
  intro j hij hn hu
  have h1 : upW l i ((j + 1 + d : Nat) : Int) = true := by rw [show j + 1 + d = j + (d + 1) by omega]; exact hu
  have h2 := ih (j := j + 1) (by omega) (by omega) h1
  have hne : ((j + 1 : Nat) : Int) ≠ (i : Int) := by omega
  rw [upW_step h (show j + 1 < n by omega) hne] at h2
  have hf := h (j + 1) (by omega)
  simp only [formOk, Bool.or_eq_true, Bool.and_eq_true, decide_eq_true_eq, beq_iff_eq] at hf
  rcases hf with hf | ⟨⟨hf1, hf2⟩, hf3⟩
  ·rw [hf, upW_neg (by omega)] at h2; cases h2
  ·rw [show (((j + 1 : Nat) : Int) - 1) = (j : Int) by omega] at hf3
   have gen : ∀ (m : Nat) {a : Int}, (a + 1).toNat ≤ m → a < n → upW l (par l (j + 1)) a = true → upW l i a = true := by
    intro m
    induction m with
    | zero =>
     intro a hm _ h
     rw [upW, dif_neg (by omega)] at h; cases h
    | succ m ihm =>
     intro a hm ha hq
     have hq' := hq
     rw [upW] at hq
     split at hq
     ·rename_i h0
      obtain ⟨b, rfl⟩ : ∃ b : Nat, a = b := ⟨a.toNat, by omega⟩
      have hb : b < n := by omega
      by_cases e : (b : Int) = par l (j + 1)
      ·rw [e]; exact h2
      ·rw [if_neg e] at hq
       have eb : ((b : Int)).toNat = b := by omega
       rw [eb] at hq
       obtain ⟨t1, t2⟩ := tree_par h hb
       rw [dif_pos t2] at hq
       by_cases e2 : (b : Int) = i
       ·rw [e2]; exact upW_self
       ·rw [upW_step h hb e2]
        exact ihm (by omega) (by omega) hq
     ·cases hq
   exact gen _ (Nat.le_refl _) (by omega) hf3
theorem child_first {l : List NodeT} {n : Nat} (h : TreeUp l n) {i k : Nat} (hik : i < k) (hk : k < n) (hp : par l k = i) : par l (i + 1) = i := by
 have h1 : upW l i (k : Int) = true := by
  rw [upW_step h hk (by omega), hp]; exact upW_self
 obtain ⟨d, rfl⟩ : ∃ d, k = i + 1 + d := ⟨k - (i + 1), by omega⟩
 have h2 := up_between h d (j := i + 1) (by omega) (by omega) h1
 rw [upW_step h (show i + 1 < n by omega) (by omega)] at h2
 have h3 := upW_ge h2
 have h4 := (tree_par h (show i + 1 < n by omega)).2
 omega

theorem sorted_ext : ∀ {a b : List Nat}, a.Pairwise (· < ·) → b.Pairwise (· < ·) → (∀ x, x ∈ a ↔ x ∈ b) → a = b
 | [], [], _, _, _ => rfl
 | [], y :: b, _, _, h => by have := (h y).2 List.mem_cons_self; cases this
 | x :: a, [], _, _, h => by have := (h x).1 List.mem_cons_self; cases this
 | x :: a, y :: b, ha, hb, h => by
  have ha' := List.pairwise_cons.1 ha
  have hb' := List.pairwise_cons.1 hb
  have e : x = y := by
   have h1 := (h x).1 List.mem_cons_self
   have h2 := (h y).2 List.mem_cons_self
   rcases List.mem_cons.1 h1 with h1 | h1
   ·exact h1
   rcases List.mem_cons.1 h2 with h2 | h2
   ·exact h2.symm
   have g1 := ha'.1 y h2
   have g2 := hb'.1 x h1
   omega
  subst e
  congr 1
  refine sorted_ext ha'.2 hb'.2 fun z => ⟨fun hz => ?_, fun hz => ?_⟩
  ·rcases List.mem_cons.1 ((h z).1 (List.mem_cons_of_mem _ hz)) with h1 | h1
   ·subst h1; have := ha'.1 z hz; omega
   ·exact h1
  ·rcases List.mem_cons.1 ((h z).2 (List.mem_cons_of_mem _ hz)) with h1 | h1
   ·subst h1; have := hb'.1 z hz; omega
   ·exact h1
def kids (l : List NodeT) (i : Int) : List Nat := (List.range l.length).filter fun k => par l k == i
theorem mem_kids {l : List NodeT} {i : Int} {k : Nat} : k ∈ kids l i ↔ k < l.length ∧ par l k = i := by
 simp [kids]
theorem kids_sorted (l : List NodeT) (i : Int) : (kids l i).Pairwise (· < ·) := List.pairwise_lt_range.filter _
def belowL (l : List NodeT) (i : Nat) : List Nat := (List.range l.length).filter fun k => decide (i < k) && upW l i k
theorem mem_below {l : List NodeT} {i k : Nat} : k ∈ belowL l i ↔ k < l.length ∧ i < k ∧ upW l i k = true := by
 simp [belowL]
theorem below_sorted (l : List NodeT) (i : Nat) : (belowL l i).Pairwise (· < ·) := List.pairwise_lt_range.filter _
def depW (l : List NodeT) (i : Nat) : Nat → Nat → Nat
 | 0, _ => 0
 | f + 1, k => if k = i then 0 else 1 + depW l i f (par l k).toNat
theorem child_above {l : List NodeT} (h : TreeUp l l.length) {i : Nat} : ∀ (m j : Nat), j ≤ m → j < l.length → i < j → upW l i j = true → ∃ k, k ∈ kids l i ∧ upW l k j = true := by
 intro m
 induction m with
 | zero => intro j h1 _ h2; omega
 | succ m ih =>
  intro j hm hj hij hu
  rw [upW_step h hj (by omega)] at hu
  by_cases e : par l j = i
  ·exact ⟨j, mem_kids.2 ⟨hj, e⟩, upW_self⟩
  ·have h1 := upW_ge hu
   obtain ⟨h2, h3⟩ := tree_par h hj
   obtain ⟨p, hp⟩ : ∃ p : Nat, par l j = p := ⟨(par l j).toNat, by omega⟩
   rw [hp] at hu e h1 h3
   obtain ⟨k, hk1, hk2⟩ := ih p (by omega) (by omega) (by omega) hu
   refine ⟨k, hk1, ?_⟩
   have := upW_ge hk2
   rw [upW_step h hj (by omega), hp]
   exact hk2
theorem up_trans {l : List NodeT} (h : TreeUp l l.length) {i k : Nat} (hik : upW l i k = true) : ∀ (m j : Nat), j ≤ m → j < l.length → upW l k j = true → upW l i j = true := by
 intro m
 induction m with
 | zero =>
  intro j h1 h2 h3
  have : j = 0 := by omega
  subst this
  have := upW_ge h3
  have : k = 0 := by omega
  subst this
  exact hik
 | succ m ih =>
  intro j h1 h2 h3
  by_cases e : (j : Int) = k
  ·rw [e]; exact hik
  ·rw [upW_step h h2 e] at h3
   obtain ⟨t1, t2⟩ := tree_par h h2
   have g := upW_ge h3
   obtain ⟨p, hp⟩ : ∃ p : Nat, par l j = p := ⟨(par l j).toNat, by omega⟩
   rw [hp] at h3 g t2
   have := ih p (by omega) (by omega) h3
   have g2 := upW_ge hik
   rw [upW_step h h2 (by omega), hp]
   exact this
theorem below_kids {l : List NodeT} (h : TreeUp l l.length) {i : Nat} (hi : i < l.length) : belowL l i = (kids l i).flatMap fun k => k :: belowL l k := by
 have hkid : ∀ k, k ∈ kids l i → i < k ∧ upW l i k = true := fun k hk => by
  obtain ⟨h1, h2⟩ := mem_kids.1 hk
  obtain ⟨t1, t2⟩ := tree_par h h1
  refine ⟨by omega, ?_⟩
  rw [upW_step h h1 (by omega), h2]; exact upW_self
 refine sorted_ext (below_sorted l i) ?_ fun j => ⟨fun hj => ?_, fun hj => ?_⟩
 ·rw [List.pairwise_flatMap]
  refine ⟨fun k hk => ?_, ?_⟩
  ·rw [List.pairwise_cons]
   exact ⟨fun x hx => (mem_below.1 hx).2.1, below_sorted l k⟩
  ·refine List.Pairwise.imp_of_mem ?_ (kids_sorted l i)
   intro a b ha hb hab x hx y hy
   have hb1 := mem_kids.1 hb
   have hx1 : x < b := by
    rcases List.mem_cons.1 hx with rfl | hx
    ·exact hab
    ·obtain ⟨g1, g2, g3⟩ := mem_below.1 hx
     rcases Nat.lt_or_ge x b with g | g
     ·exact g
     ·exfalso
      obtain ⟨d, rfl⟩ : ∃ d, x = b + d := ⟨x - b, by omega⟩
      have h1 := up_between h (i := a) d (j := b) (by omega) g1 g3
      rw [upW_step h hb1.1 (by omega), hb1.2] at h1
      have h2 := upW_ge h1
      have h3 := (hkid a ha).1
      omega
   rcases List.mem_cons.1 hy with rfl | hy
   ·exact hx1
   ·have := (mem_below.1 hy).2.1; omega
 ·obtain ⟨h1, h2, h3⟩ := mem_below.1 hj
  obtain ⟨k, hk1, hk2⟩ := child_above h j j (Nat.le_refl _) h1 h2 h3
  refine List.mem_flatMap.2 ⟨k, hk1, ?_⟩
  by_cases e : j = k
  ·rw [e]; exact List.mem_cons_self
  ·have := upW_ge hk2
   exact List.mem_cons_of_mem _ (mem_below.2 ⟨h1, by omega, hk2⟩)
 ·obtain ⟨k, hk1, hk2⟩ := List.mem_flatMap.1 hj
  obtain ⟨g1, g2⟩ := hkid k hk1
  rcases List.mem_cons.1 hk2 with rfl | hk2
  ·exact mem_below.2 ⟨(mem_kids.1 hk1).1, g1, g2⟩
  ·obtain ⟨h1, h2, h3⟩ := mem_below.1 hk2
   exact mem_below.2 ⟨h1, by omega, up_trans h g2 j j (Nat.le_refl _) h1 h3⟩
theorem dep_child {l : List NodeT} (h : TreeUp l l.length) {i k : Nat} (hk : par l k = i) : ∀ (f j : Nat), j < l.length → j ≤ f → upW l k j = true → depW l i (f + 1) j = depW l k f j + 1 := by
 intro f
 induction f with
 | zero =>
  intro j h1 h2 h3
  have : j = 0 := by omega
  subst this
  have := upW_ge h3
  have : k = 0 := by omega
  subst this
  have := (tree_par h h1).2
  omega
 | succ f ih =>
  intro j h1 h2 h3
  have hkj := upW_ge h3
  obtain ⟨t1, t2⟩ := tree_par h h1
  have hik : (i : Int) < k := by
   have := (tree_par h (show k < l.length by omega)).2
   omega
  rw [depW, if_neg (by omega)]
  by_cases e : j = k
  ·subst e
   have z1 : depW l i (f + 1) i = 0 := by rw [depW, if_pos rfl]
   have z2 : depW l j (f + 1) j = 0 := by rw [depW, if_pos rfl]
   rw [hk, show ((i : Int)).toNat = i by omega, z1, z2]
  ·rw [upW_step h h1 (by omega)] at h3
   have g := upW_ge h3
   obtain ⟨p, hp⟩ : ∃ p : Nat, par l j = p := ⟨(par l j).toNat, by omega⟩
   rw [hp] at h3 g t2 ⊢
   have hpn : ((p : Int)).toNat = p := by omega
   have := ih p (by omega) (by omega) h3
   rw [hpn, this, depW, if_neg e, hp, hpn]
   omega
theorem dep_fuel {l : List NodeT} (h : TreeUp l l.length) {i : Nat} : ∀ (m j f g : Nat), j ≤ m → j < l.length → upW l i j = true → j < f + i → j < g + i → depW l i f j = depW l i g j := by
 intro m
 induction m with
 | zero =>
  intro j f g hm hj hu hf hg
  have := upW_ge hu
  have : i = j := by omega
  subst this
  obtain ⟨f, rfl⟩ : ∃ f', f = f' + 1 := ⟨f - 1, by omega⟩
  obtain ⟨g, rfl⟩ : ∃ g', g = g' + 1 := ⟨g - 1, by omega⟩
  rw [depW, if_pos rfl, depW, if_pos rfl]
 | succ m ih =>
  intro j f g hm hj hu hf hg
  have hle := upW_ge hu
  obtain ⟨f, rfl⟩ : ∃ f', f = f' + 1 := ⟨f - 1, by omega⟩
  obtain ⟨g, rfl⟩ : ∃ g', g = g' + 1 := ⟨g - 1, by omega⟩
  by_cases e : j = i
  ·rw [depW, if_pos e, depW, if_pos e]
  ·rw [depW, if_neg e, depW, if_neg e]
   rw [upW_step h hj (by omega)] at hu
   obtain ⟨t1, t2⟩ := tree_par h hj
   have g1 := upW_ge hu
   obtain ⟨p, hp⟩ : ∃ p : Nat, par l j = p := ⟨(par l j).toNat, by omega⟩
   rw [hp] at hu g1 t2 ⊢
   rw [show ((p : Int)).toNat = p by omega, ih p f g (by omega) (by omega) hu (by omega) (by omega)]
theorem flatMap_congr' {α β : Type} {l : List α} {f g : α → List β} (h : ∀ x ∈ l, f x = g x) : l.flatMap f = l.flatMap g := by
 induction l with
 | nil => rfl
 | cons x l ih => rw [List.flatMap_cons, List.flatMap_cons, h x List.mem_cons_self, ih fun y hy => h y (List.mem_cons_of_mem _ hy)]
def shapeP (l : List NodeT) : Nat → Nat → Nat → List (Nat × Nat)
 | 0, _, _ => []
 | f + 1, i, d => (kids l i).flatMap fun k => (d, k) :: shapeP l f k (d + 1)
theorem shapeP_below {l : List NodeT} (h : TreeUp l l.length) : ∀ (f i d : Nat), i < l.length → l.length ≤ f + i → shapeP l f i d = (belowL l i).map fun k => (d + depW l i l.length k - 1, k) := by
 intro f
 induction f with
 | zero => intro i d h1 h2; omega
 | succ f ih =>
  intro i d hi hf
  rw [shapeP, below_kids h hi, List.map_flatMap]
  refine flatMap_congr' fun k hk => ?_
  obtain ⟨h1, h2⟩ := mem_kids.1 hk
  obtain ⟨t1, t2⟩ := tree_par h h1
  rw [ih k (d + 1) h1 (by omega), List.map_cons]
  obtain ⟨n, hn⟩ : ∃ n, l.length = n + 1 := ⟨l.length - 1, by omega⟩
  have hself : depW l k n k = 0 := by
   cases n with
   | zero => omega
   | succ n => rw [depW, if_pos rfl]
  congr 1
  ·rw [hn, dep_child h h2 n k h1 (by omega) upW_self, hself]; rfl
  ·refine List.map_congr_left fun j hj => ?_
   obtain ⟨g1, g2, g3⟩ := mem_below.1 hj
   rw [hn, dep_child h h2 n j g1 (by omega) g3]
   congr 1
   have e : depW l k (n + 1) j = depW l k n j := dep_fuel h j j _ _ (Nat.le_refl _) g1 g3 (by omega) (by omega)
   rw [e]; omega

def W64 (n : Int) : Int := IntKind.i64.wrap n
theorem W64_eq (n : Int) : W64 n = IntKind.i64.wrap n := rfl
theorem W64_add (a b : Int) : W64 (W64 a + b) = W64 (a + b) := by
 simp only [W64, IntKind.wrap_i64]; omega
def nm (l : List NodeT) (i : Nat) : List UInt8 := (l.getD i default).name
def sf (l : List NodeT) (i : Nat) : Int := (l.getD i default).self
def tt (l : List NodeT) (i : Nat) : Int := (l.getD i default).total
def ct (l : List NodeT) (i : Nat) : Int := (l.getD i default).count
def lastSib (l : List NodeT) : Nat → Int → Option Nat
 | 0, _ => none
 | i + 1, p => if par l i = p then some i else lastSib l i p
theorem lastSib_lt {l : List NodeT} {p : Int} : ∀ {i k : Nat}, lastSib l i p = some k → k < i ∧ par l k = p
 | 0, k, h => by simp [lastSib] at h
 | i + 1, k, h => by
  rw [lastSib] at h
  split at h
  ·cases h; rename_i e; exact ⟨by omega, e⟩
  ·have := lastSib_lt h; exact ⟨by omega, this.2⟩
theorem lastSib_none {l : List NodeT} {p : Int} : ∀ {i : Nat}, lastSib l i p = none → ∀ k, k < i → par l k ≠ p
 | 0, _, k, hk => by omega
 | i + 1, h, k, hk => by
  rw [lastSib] at h
  split at h
  ·cases h
  ·rename_i e
   by_cases e2 : k = i
   ·rw [e2]; exact e
   ·exact lastSib_none h k (by omega)
theorem lastSib_max {l : List NodeT} {p : Int} : ∀ {i k : Nat}, lastSib l i p = some k → ∀ j, k < j → j < i → par l j ≠ p
 | 0, k, h => by simp [lastSib] at h
 | i + 1, k, h => by
  rw [lastSib] at h
  split at h
  ·cases h; intro j h1 h2; omega
  ·rename_i e
   intro j h1 h2
   by_cases e2 : j = i
   ·rw [e2]; exact e
   ·exact lastSib_max h j h1 (by omega)
def orderE (l : List NodeT) (i : Nat) : Int :=
 if formOk l i = true then (match lastSib l i (par l i) with | some k => if Op.bytesLess (nm l k) (nm l i) = true then 0 else 11 | none => 0) else 10
theorem orderE_form {l : List NodeT} {i : Nat} (h : orderE l i = 0) : formOk l i = true := by
 unfold orderE at h
 split at h
 ·assumption
 ·omega
theorem tree_of {l : List NodeT} {k : Nat} (h : firstErr (orderE l) k = 0) : TreeUp l k := fun i hi => orderE_form (firstErr_zero h i hi)
theorem sib_lt {l : List NodeT} {n : Nat} (h : firstErr (orderE l) n = 0) : ∀ {j i : Nat}, i < n → j < i → par l j = par l i → Op.bytesLess (nm l j) (nm l i) = true := by
 intro j i
 induction i using Nat.strongRecOn with
 | _ i ih =>
  intro hi hj hp
  have h0 := firstErr_zero h i hi
  unfold orderE at h0
  split at h0
  ·cases hs : lastSib l i (par l i) with
   | none => exact absurd hp (lastSib_none hs j hj)
   | some k =>
    rw [hs] at h0
    simp only at h0
    split at h0
    ·rename_i hb
     obtain ⟨h1, h2⟩ := lastSib_lt hs
     rcases Nat.lt_trichotomy j k with h3 | h3 | h3
     ·exact bl_trans (ih k h1 (by omega) h3 (by rw [hp, h2])) hb
     ·rw [h3]; exact hb
     ·exact absurd hp (lastSib_max hs j h3 hj)
    ·omega
  ·omega
def nodeE (n : NodeT) : Int := if nameF n.name = 0 then (if n.self < 0 ∨ n.self > 100000000000000 ∨ n.count < 0 ∨ n.count > 20000 ∨ (n.count = 0 ∧ n.self ≠ 0) then 2 else 0) else nameF n.name
def selfS (l : List NodeT) : Int := (l.map (·.self)).sum
def countS (l : List NodeT) : Int := (l.map (·.count)).sum
def rangesF (l : List NodeT) : Int := if firstErr (fun k => nodeE (l.getD k default)) l.length = 0 then (if selfS l > 100000000000000 ∨ countS l > 20000 then 2 else 0) else firstErr (fun k => nodeE (l.getD k default)) l.length
theorem nodeE_ok {n : NodeT} (h : nodeE n = 0) : nameF n.name = 0 ∧ 0 ≤ n.self ∧ n.self ≤ 100000000000000 ∧ 0 ≤ n.count ∧ n.count ≤ 20000 ∧ (n.count = 0 → n.self = 0) := by
 unfold nodeE at h
 split at h
 ·rename_i h0
  split at h
  ·omega
  ·refine ⟨h0, by omega, by omega, by omega, by omega, by omega⟩
 ·contradiction
theorem sums_take {l : List NodeT} : ∀ {k : Nat}, k ≤ l.length → firstErr (fun k => nodeE (l.getD k default)) k = 0 → 0 ≤ selfS (l.take k) ∧ selfS (l.take k) ≤ k * 100000000000000 ∧ 0 ≤ countS (l.take k) ∧ countS (l.take k) ≤ k * 20000
 | 0, _, _ => by simp [selfS, countS]
 | k + 1, hk, h => by
  have h0 := firstErr_zero h
  have ih := sums_take (l := l) (k := k) (by omega) (firstErr_all fun j hj => h0 j (by omega))
  have h1 := nodeE_ok (h0 k (by omega))
  rw [take_step l k (by omega)]
  simp only [selfS, countS, List.map_append, List.sum_append, List.map_cons, List.map_nil, List.sum_cons, List.sum_nil] at ih ⊢
  omega
def totF (l : List NodeT) : Nat → Nat → Int
 | 0, _ => 0
 | f + 1, i => W64 (sf l i + ((kids l i).map (totF l f)).sum)
def totW (l : List NodeT) (i : Nat) : Int := totF l l.length i
theorem kids_gt {l : List NodeT} (h : TreeUp l l.length) {i k : Nat} (hk : k ∈ kids l i) : i < k ∧ k < l.length := by
 obtain ⟨h1, h2⟩ := mem_kids.1 hk
 have := tree_par h h1
 omega
theorem totF_fuel {l : List NodeT} (h : TreeUp l l.length) : ∀ (f g i : Nat), i < l.length → l.length ≤ f + i → l.length ≤ g + i → totF l f i = totF l g i := by
 intro f
 induction f with
 | zero => intro g i h1 h2; omega
 | succ f ih =>
  intro g i h1 h2 h3
  obtain ⟨g, rfl⟩ : ∃ g', g = g' + 1 := ⟨g - 1, by omega⟩
  rw [totF, totF]
  congr 2
  congr 1
  refine List.map_congr_left fun k hk => ?_
  have := kids_gt h hk
  exact ih g k this.2 (by omega) (by omega)
theorem totW_eq {l : List NodeT} (h : TreeUp l l.length) {i : Nat} (hi : i < l.length) : totW l i = W64 (sf l i + ((kids l i).map (totW l)).sum) := by
 obtain ⟨n, hn⟩ : ∃ n, l.length = n + 1 := ⟨l.length - 1, by omega⟩
 have e : totW l i = totF l (n + 1) i := by rw [← hn]; rfl
 rw [e, totF]
 congr 2
 congr 1
 refine List.map_congr_left fun k hk => ?_
 have := kids_gt h hk
 exact totF_fuel h _ _ k this.2 (by omega) (by omega)
def psum (l : List NodeT) (j i : Nat) : Int := (((kids l i).filter fun k => decide (j ≤ k)).map (totW l)).sum
theorem filter_step {xs : List Nat} (hs : xs.Pairwise (· < ·)) (j : Nat) : xs.filter (fun k => decide (j ≤ k)) = (if j ∈ xs then [j] else []) ++ xs.filter (fun k => decide (j + 1 ≤ k)) := by
 induction xs with
 | nil => rfl
 | cons x xs ih =>
  rw [List.pairwise_cons] at hs
  have ih := ih hs.2
  rcases Nat.lt_trichotomy x j with h | h | h
  ·rw [List.filter_cons_of_neg (by simp; omega), List.filter_cons_of_neg (by simp; omega), ih]
   congr 1
   have : j ≠ x := by omega
   simp [this]
  ·subst h
   rw [List.filter_cons_of_pos (by simp), List.filter_cons_of_neg (by simp), if_pos List.mem_cons_self]
   have hn : x ∉ xs := fun hm => by have := hs.1 x hm; omega
   rw [ih, if_neg hn]
   rfl
  ·have hn : j ∉ x :: xs := fun hm => by
    rcases List.mem_cons.1 hm with e | hm
    ·omega
    ·have := hs.1 j hm; omega
   rw [if_neg hn, List.nil_append]
   refine List.filter_congr fun y hy => ?_
   have : j ≠ y := fun e => hn (e ▸ hy)
   simp; omega
theorem psum_step {l : List NodeT} {j : Nat} (hj : j < l.length) (i : Nat) : psum l j i = (if par l j = i then totW l j else 0) + psum l (j + 1) i := by
 unfold psum
 rw [filter_step (kids_sorted l i), List.map_append, List.sum_append]
 congr 1
 by_cases e : par l j = i
 ·rw [if_pos (mem_kids.2 ⟨hj, e⟩), if_pos e]; simp
 ·rw [if_neg (fun hm => e (mem_kids.1 hm).2), if_neg e]; rfl
theorem psum_full {l : List NodeT} (h : TreeUp l l.length) (i : Nat) : psum l (i + 1) i = ((kids l i).map (totW l)).sum := by
 unfold psum
 rw [List.filter_eq_self.2 fun k hk => by have := kids_gt h hk; simp; omega]
theorem psum_end (l : List NodeT) (i : Nat) : psum l l.length i = 0 := by
 unfold psum
 rw [List.filter_eq_nil_iff.2 fun k hk => by have := (mem_kids.1 hk).1; simp; omega]
 rfl
def leafB (l : List NodeT) (i : Nat) : Bool := decide (i + 1 = l.length) || !(par l (i + 1) == (i : Int))
theorem leaf_kids {l : List NodeT} (h : TreeUp l l.length) {i : Nat} (hi : i < l.length) : leafB l i = true ↔ kids l i = [] := by
 constructor
 ·intro hl
  refine List.eq_nil_iff_forall_not_mem.2 fun k hk => ?_
  obtain ⟨h1, h2⟩ := kids_gt h hk
  have := child_first h h1 h2 (mem_kids.1 hk).2
  simp [leafB, this] at hl
  omega
 ·intro hk
  simp only [leafB, Bool.or_eq_true, decide_eq_true_eq, Bool.not_eq_true', beq_eq_false_iff_ne]
  by_cases e : i + 1 = l.length
  ·exact .inl e
  ·right
   intro hp
   have : i + 1 ∈ kids l i := mem_kids.2 ⟨by omega, hp⟩
   rw [hk] at this; cases this
def totA (l : List NodeT) (j i : Nat) : Int := if j ≤ i then totW l i else W64 (psum l j i)
def totBad (l : List NodeT) (i : Nat) : Bool := (leafB l i && (ct l i == 0)) || (tt l i != totW l i)
def checkF (l : List NodeT) : Int :=
 if l.length > 2000 then 7 else if rangesF l = 0 then (if firstErr (orderE l) l.length = 0 then (if (List.range l.length).any (totBad l) = true then 10 else 0) else firstErr (orderE l) l.length) else rangesF l
theorem checkF_ok {l : List NodeT} (h : checkF l = 0) : l.length ≤ 2000 ∧ rangesF l = 0 ∧ firstErr (orderE l) l.length = 0 ∧ TreeUp l l.length ∧ ∀ i, i < l.length → totBad l i = false := by
 unfold checkF at h
 split at h
 ·omega
 ·split at h
  ·split at h
   ·split at h
    ·omega
    ·rename_i h1 h2 h3 h4
     refine ⟨by omega, h2, h3, tree_of h3, fun i hi => ?_⟩
     rw [Bool.not_eq_true, List.any_eq_false] at h4
     simpa using h4 i (by simp [hi])
   ·contradiction
  ·contradiction
def refSum (l : List NodeT) (i k : Nat) : Int := W64 (sf l i + (((kids l i).filter fun j => decide (j < k)).map (tt l)).sum)
def refBad (l : List NodeT) (i : Nat) : Bool := ((kids l i).isEmpty && (ct l i == 0)) || (W64 (sf l i + ((kids l i).map (tt l)).sum) != tt l i)
theorem bads_eq {l : List NodeT} (h : TreeUp l l.length) : (List.range l.length).any (totBad l) = (List.range l.length).any (refBad l) := by
 have key : ∀ (P : Nat → Bool), (∀ i, i < l.length → P i = false) ↔ (List.range l.length).any P = false := fun P => by simp
 have iff : (∀ i, i < l.length → totBad l i = false) ↔ (∀ i, i < l.length → refBad l i = false) := by
  have hleaf : ∀ i, i < l.length → leafB l i = (kids l i).isEmpty := fun i hi => by
   have := leaf_kids h hi
   rw [Bool.eq_iff_iff, this, List.isEmpty_iff]
  constructor
  ·intro hb i hi
   have ht : ∀ k, k < l.length → tt l k = totW l k := fun k hk => by
    have := hb k hk
    simp only [totBad, Bool.or_eq_false_iff, bne_eq_false_iff_eq] at this
    exact this.2
   have h1 := hb i hi
   simp only [totBad, refBad, hleaf i hi, Bool.or_eq_false_iff, bne_eq_false_iff_eq] at h1 ⊢
   refine ⟨h1.1, ?_⟩
   rw [ht i hi, totW_eq h hi]
   congr 2
   congr 1
   exact List.map_congr_left fun k hk => ht k (mem_kids.1 hk).1
  ·intro hb
   have ht : ∀ m k, l.length ≤ k + m → k < l.length → tt l k = totW l k := by
    intro m
    induction m with
    | zero => intro k h1 h2; omega
    | succ m ih =>
     intro k h1 h2
     have := hb k h2
     simp only [refBad, Bool.or_eq_false_iff, bne_eq_false_iff_eq] at this
     rw [← this.2, totW_eq h h2]
     congr 2
     congr 1
     refine List.map_congr_left fun j hj => ?_
     have := kids_gt h hj
     exact ih j (by omega) this.2
   intro i hi
   have h1 := hb i hi
   simp only [totBad, refBad, hleaf i hi, Bool.or_eq_false_iff, bne_eq_false_iff_eq] at h1 ⊢
   exact ⟨h1.1, ht l.length i (by omega) hi⟩
 have := (key (totBad l)).symm.trans (iff.trans (key (refBad l)))
 cases h1 : (List.range l.length).any (totBad l) <;> cases h2 : (List.range l.length).any (refBad l) <;> simp_all

def txtN (d : Nat) : List UInt8 := if d < 10 then [UInt8.ofNat (48 + d)] else [UInt8.ofNat (48 + d / 10), UInt8.ofNat (48 + d % 10)]
def shp (l : List NodeT) (i : Nat) : List (List UInt8) := (belowL l i).map fun k => txtN (depW l i l.length k) ++ 32 :: nm l k
structure Al where
 toB : List Int
 toA : List Int
def Al.b (s : Al) (p : Nat) : Int := s.toB.getD p (-1)
def Al.a (s : Al) (q : Nat) : Int := s.toA.getD q (-1)
def pairS (s : Al) (p q : Nat) : Al := ⟨s.toB.set p q, s.toA.set q p⟩
theorem pair_b {s : Al} {p q i : Nat} (h : p < s.toB.length) : (pairS s p q).b i = if i = p then (q : Int) else s.b i := by
 simp only [pairS, Al.b, List.getD_eq_getElem?_getD, List.getElem?_set]
 by_cases e : p = i
 ·subst e; simp [h]
 ·rw [if_neg e, if_neg (by omega)]
theorem pair_a {s : Al} {p q i : Nat} (h : q < s.toA.length) : (pairS s p q).a i = if i = q then (p : Int) else s.a i := by
 simp only [pairS, Al.a, List.getD_eq_getElem?_getD, List.getElem?_set]
 by_cases e : q = i
 ·subst e; simp [h]
 ·rw [if_neg e, if_neg (by omega)]
theorem pair_len {s : Al} {p q : Nat} : (pairS s p q).toB.length = s.toB.length ∧ (pairS s p q).toA.length = s.toA.length := by simp [pairS]
def c1 (a b : List NodeT) (y : List Nat) (p : Nat) : Option Nat := y.find? fun q => nm b q == nm a p
def c2 (a b : List NodeT) (y : List Nat) (s : Al) (p : Nat) : Option Nat := if s.b p < 0 ∧ shp a p ≠ [] then y.find? fun q => decide (s.a q < 0) && (shp b q == shp a p) else none
def opS (s : Al) (p : Nat) : Option Nat → Al
 | some q => pairS s p q
 | none => s
def ph1 (a b : List NodeT) (y x : List Nat) (s : Al) : Al := x.foldl (fun s p => opS s p (c1 a b y p)) s
def ph2 (a b : List NodeT) (y x : List Nat) (s : Al) : Al := x.foldl (fun s p => opS s p (c2 a b y s p)) s
def alignF (a b : List NodeT) : Nat → Int → Int → Al → Al
 | 0, _, _, s => s
 | f + 1, i, k, s => (kids a i).foldl (fun (s : Al) (p : Nat) => if 0 ≤ s.b p then alignF a b f p (s.b p) s else s) (ph2 a b (kids b k) (kids a i) (ph1 a b (kids b k) (kids a i) s))
structure Tr (l : List NodeT) : Prop where
 up : TreeUp l l.length
 sib : ∀ {j i : Nat}, i < l.length → j < i → par l j = par l i → Op.bytesLess (nm l j) (nm l i) = true
theorem Tr.of {l : List NodeT} (h : checkF l = 0) : Tr l := by
 obtain ⟨_, _, h3, h4, _⟩ := checkF_ok h
 exact ⟨h4, fun hi hj hp => sib_lt h3 hi hj hp⟩
theorem Tr.name {l : List NodeT} (h : Tr l) {i j : Nat} (hi : i < l.length) (hj : j < l.length) (hp : par l i = par l j) (hn : nm l i = nm l j) : i = j := by
 rcases Nat.lt_trichotomy i j with g | g | g
 ·have := h.sib hj g hp; rw [hn, bl_irr] at this; cases this
 ·exact g
 ·have := h.sib hi g hp.symm; rw [hn, bl_irr] at this; cases this
theorem kids_name {l : List NodeT} (h : Tr l) {k : Int} {i j : Nat} (hi : i ∈ kids l k) (hj : j ∈ kids l k) (hn : nm l i = nm l j) : i = j := by
 obtain ⟨h1, h2⟩ := mem_kids.1 hi
 obtain ⟨h3, h4⟩ := mem_kids.1 hj
 exact h.name h1 h3 (h2.trans h4.symm) hn
structure Mut (la lb : Nat) (s : Al) : Prop where
 eb : s.toB.length = la
 ea : s.toA.length = lb
 rb : ∀ p, -1 ≤ s.b p ∧ s.b p < lb
 ra : ∀ q, -1 ≤ s.a q ∧ s.a q < la
 iff : ∀ p q : Nat, p < la → q < lb → (s.b p = q ↔ s.a q = p)
theorem Mut.pair {la lb : Nat} {s : Al} (h : Mut la lb s) {p q : Nat} (hp : p < la) (hq : q < lb) (h1 : s.b p < 0) (h2 : s.a q < 0) : Mut la lb (pairS s p q) := by
 obtain ⟨l1, l2⟩ := pair_len (s := s) (p := p) (q := q)
 have hb := fun i => pair_b (s := s) (p := p) (q := q) (i := i) (by rw [h.eb]; exact hp)
 have ha := fun i => pair_a (s := s) (p := p) (q := q) (i := i) (by rw [h.ea]; exact hq)
 refine ⟨l1.trans h.eb, l2.trans h.ea, fun i => ?_, fun i => ?_, fun i j hi hj => ?_⟩
 ·rw [hb]; have := h.rb i; split <;> omega
 ·rw [ha]; have := h.ra i; split <;> omega
 ·rw [hb, ha]
  have := h.iff i j hi hj
  have hpq := h.iff p j hp hj
  have hqp := h.iff i q hi hq
  by_cases e1 : i = p
  ·rw [if_pos e1]
   by_cases e2 : j = q
   ·rw [if_pos e2]; constructor <;> intro _ <;> omega
   ·rw [if_neg e2]
    constructor
    ·intro hh; omega
    ·intro hh; subst e1; have := hpq.2 hh; omega
  ·rw [if_neg e1]
   by_cases e2 : j = q
   ·rw [if_pos e2]
    constructor
    ·intro hh; subst e2; have := hqp.1 hh; omega
    ·intro hh; omega
   ·rw [if_neg e2]; exact this
def Agr (x y : List Nat) (s t : Al) : Prop := (∀ p ∈ x, s.b p = t.b p) ∧ (∀ q ∈ y, s.a q = t.a q)
theorem c2_agr {a b : List NodeT} {x y : List Nat} {s t : Al} (h : Agr x y s t) {p : Nat} (hp : p ∈ x) : c2 a b y s p = c2 a b y t p := by
 unfold c2
 rw [h.1 p hp]
 congr 1
 have gen : ∀ z : List Nat, (∀ q ∈ z, q ∈ y) → z.find? (fun q => decide (s.a q < 0) && (shp b q == shp a p)) = z.find? (fun q => decide (t.a q < 0) && (shp b q == shp a p)) := by
  intro z
  induction z with
  | nil => intro _; rfl
  | cons q z ih =>
   intro hz
   rw [List.find?_cons, List.find?_cons, h.2 q (hz q List.mem_cons_self), ih fun r hr => hz r (List.mem_cons_of_mem _ hr)]
 exact gen y fun _ h => h
theorem c1_mem {a b : List NodeT} {y : List Nat} {p q : Nat} (h : c1 a b y p = some q) : q ∈ y ∧ nm b q = nm a p := by
 have h1 := List.mem_of_find?_eq_some h
 have h2 := List.find?_some h
 exact ⟨h1, by simpa using h2⟩
theorem c2_mem {a b : List NodeT} {y : List Nat} {s : Al} {p q : Nat} (h : c2 a b y s p = some q) : q ∈ y ∧ s.b p < 0 ∧ s.a q < 0 ∧ shp b q = shp a p ∧ shp a p ≠ [] := by
 unfold c2 at h
 split at h
 ·rename_i h0
  have h1 := List.mem_of_find?_eq_some h
  have h2 := List.find?_some h
  simp only [Bool.and_eq_true, decide_eq_true_eq, beq_iff_eq] at h2
  exact ⟨h1, h0.1, h2.1, h2.2, h0.2⟩
 ·cases h
structure Fr (la lb : Nat) (x y : List Nat) (s t : Al) : Prop where
 eb : t.toB.length = s.toB.length
 ea : t.toA.length = s.toA.length
 b : ∀ p, p ∉ x → t.b p = s.b p
 a : ∀ q, q ∉ y → t.a q = s.a q
theorem Fr.refl (la lb : Nat) (x y : List Nat) (s : Al) : Fr la lb x y s s := ⟨rfl, rfl, fun _ _ => rfl, fun _ _ => rfl⟩
theorem Fr.op {la lb : Nat} {x y : List Nat} {s t : Al} (h : Fr la lb x y s t) {p : Nat} (hp : p ∈ x) (hpl : p < s.toB.length) {o : Option Nat} (ho : ∀ q, o = some q → q ∈ y ∧ q < s.toA.length) : Fr la lb x y s (opS t p o) := by
 cases o with
 | none => exact h
 | some q =>
  obtain ⟨h1, h2⟩ := ho q rfl
  obtain ⟨l1, l2⟩ := pair_len (s := t) (p := p) (q := q)
  refine ⟨l1.trans h.eb, l2.trans h.ea, fun i hi => ?_, fun i hi => ?_⟩
  ·show (pairS t p q).b i = _
   rw [pair_b (by rw [h.eb]; exact hpl), if_neg (fun e => hi (by rw [e]; exact hp))]; exact h.b i hi
  ·show (pairS t p q).a i = _
   rw [pair_a (by rw [h.ea]; exact h2), if_neg (fun e => hi (by rw [e]; exact h1))]; exact h.a i hi
theorem op_agr {x y : List Nat} {s t : Al} (h : Agr x y s t) (hl : s.toB.length = t.toB.length ∧ s.toA.length = t.toA.length) {p : Nat} (hpl : p < s.toB.length) {o : Option Nat} (ho : ∀ q, o = some q → q < s.toA.length) : Agr x y (opS s p o) (opS t p o) := by
 cases o with
 | none => exact h
 | some q =>
  have h2 := ho q rfl
  refine ⟨fun i hi => ?_, fun i hi => ?_⟩
  ·show (pairS s p q).b i = (pairS t p q).b i
   rw [pair_b hpl, pair_b (by rw [← hl.1]; exact hpl), h.1 i hi]
  ·show (pairS s p q).a i = (pairS t p q).a i
   rw [pair_a h2, pair_a (by rw [← hl.2]; exact h2), h.2 i hi]
theorem op_len (s : Al) (p : Nat) (o : Option Nat) : (opS s p o).toB.length = s.toB.length ∧ (opS s p o).toA.length = s.toA.length := by
 cases o with
 | none => exact ⟨rfl, rfl⟩
 | some q => exact pair_len
theorem ph1_fr {a b : List NodeT} {la lb : Nat} {x y : List Nat} (hx : ∀ p ∈ x, p < la) (hy : ∀ q ∈ y, q < lb) {s : Al} (hs : s.toB.length = la ∧ s.toA.length = lb) : ∀ (z : List Nat), (∀ p ∈ z, p ∈ x) → ∀ (t : Al), Fr la lb x y s t → Fr la lb x y s (ph1 a b y z t) := by
 intro z
 induction z with
 | nil => intro _ t h; exact h
 | cons p z ih =>
  intro hz t h
  refine ih (fun q hq => hz q (List.mem_cons_of_mem _ hq)) _ (h.op (hz p List.mem_cons_self) (by rw [hs.1]; exact hx p (hz p List.mem_cons_self)) fun q hq => ?_)
  have := (c1_mem hq).1
  exact ⟨this, by rw [hs.2]; exact hy q this⟩
theorem ph1_agr {a b : List NodeT} {la lb : Nat} {x y : List Nat} (hx : ∀ p ∈ x, p < la) (hy : ∀ q ∈ y, q < lb) : ∀ (z : List Nat), (∀ p ∈ z, p ∈ x) → ∀ (s t : Al), (s.toB.length = la ∧ s.toA.length = lb) → (t.toB.length = la ∧ t.toA.length = lb) → Agr x y s t → Agr x y (ph1 a b y z s) (ph1 a b y z t) := by
 intro z
 induction z with
 | nil => intro _ s t _ _ h; exact h
 | cons p z ih =>
  intro hz s t hs ht h
  have hp := hx p (hz p List.mem_cons_self)
  have l1 := op_len s p (c1 a b y p)
  have l2 := op_len t p (c1 a b y p)
  refine ih (fun q hq => hz q (List.mem_cons_of_mem _ hq)) _ _ ⟨l1.1.trans hs.1, l1.2.trans hs.2⟩ ⟨l2.1.trans ht.1, l2.2.trans ht.2⟩ (op_agr h ⟨hs.1.trans ht.1.symm, hs.2.trans ht.2.symm⟩ (by rw [hs.1]; exact hp) fun q hq => ?_)
  rw [hs.2]; exact hy q (c1_mem hq).1
theorem ph2_agr {a b : List NodeT} {la lb : Nat} {x y : List Nat} (hx : ∀ p ∈ x, p < la) (hy : ∀ q ∈ y, q < lb) : ∀ (z : List Nat), (∀ p ∈ z, p ∈ x) → ∀ (s t : Al), (s.toB.length = la ∧ s.toA.length = lb) → (t.toB.length = la ∧ t.toA.length = lb) → Agr x y s t → Agr x y (ph2 a b y z s) (ph2 a b y z t) := by
 intro z
 induction z with
 | nil => intro _ s t _ _ h; exact h
 | cons p z ih =>
  intro hz s t hs ht h
  have hp := hx p (hz p List.mem_cons_self)
  have l1 := op_len s p (c2 a b y s p)
  have l2 := op_len t p (c2 a b y s p)
  have e := c2_agr (a := a) (b := b) h (hz p List.mem_cons_self)
  show Agr x y (ph2 a b y z (opS s p (c2 a b y s p))) (ph2 a b y z (opS t p (c2 a b y t p)))
  rw [← e]
  refine ih (fun q hq => hz q (List.mem_cons_of_mem _ hq)) _ _ ⟨l1.1.trans hs.1, l1.2.trans hs.2⟩ ⟨l2.1.trans ht.1, l2.2.trans ht.2⟩ (op_agr h ⟨hs.1.trans ht.1.symm, hs.2.trans ht.2.symm⟩ (by rw [hs.1]; exact hp) fun q hq => ?_)
  rw [hs.2]; exact hy q (c2_mem hq).1
theorem foldl_inv {β : Type} (f : β → Nat → β) (x : List Nat) (I : List Nat → β → Prop) (hs : ∀ d p r s, x = d ++ p :: r → I d s → I (d ++ [p]) (f s p)) : ∀ (r d : List Nat) (s : β), x = d ++ r → I d s → I x (r.foldl f s) := by
 intro r
 induction r with
 | nil => intro d s e h; rw [List.append_nil] at e; rw [e]; exact h
 | cons p r ih => intro d s e h; exact ih (d ++ [p]) _ (by simp [e]) (hs d p r s e h)
theorem foldl_inv0 {β : Type} (f : β → Nat → β) (x : List Nat) (I : List Nat → β → Prop) (hs : ∀ d p r s, x = d ++ p :: r → I d s → I (d ++ [p]) (f s p)) (s : β) (h : I [] s) : I x (x.foldl f s) := foldl_inv f x I hs x [] s rfl h
theorem kids_lt {l : List NodeT} {i : Int} {k : Nat} (h : k ∈ kids l i) : k < l.length := (mem_kids.1 h).1
theorem nodup_mid {x d r : List Nat} {p : Nat} (hx : x.Pairwise (· < ·)) (e : x = d ++ p :: r) : p ∉ d := fun hm => by
 rw [e, List.pairwise_append] at hx
 have := hx.2.2 p hm p List.mem_cons_self
 omega
section
variable {a b : List NodeT} {i k : Int} {s0 : Al}
theorem ph1_loc (hA : Tr a) (hB : Tr b) (h0 : Mut a.length b.length s0) (hf : (∀ p ∈ kids a i, s0.b p < 0) ∧ (∀ q ∈ kids b k, s0.a q < 0)) :
  Mut a.length b.length (ph1 a b (kids b k) (kids a i) s0) ∧ Fr a.length b.length (kids a i) (kids b k) s0 (ph1 a b (kids b k) (kids a i) s0) ∧ (∀ p ∈ kids a i, p ∉ kids a i → (ph1 a b (kids b k) (kids a i) s0).b p < 0) ∧
   (∀ p ∈ kids a i, ∀ q ∈ kids b k, nm b q = nm a p → (ph1 a b (kids b k) (kids a i) s0).b p = q) ∧ (∀ p ∈ kids a i, 0 ≤ (ph1 a b (kids b k) (kids a i) s0).b p → ∃ q ∈ kids b k, (ph1 a b (kids b k) (kids a i) s0).b p = (q : Int) ∧ nm b q = nm a p) := by
 have hx := fun p (hp : p ∈ kids a i) => kids_lt hp
 have hy := fun q (hq : q ∈ kids b k) => kids_lt hq
 refine foldl_inv0 (fun s p => opS s p (c1 a b (kids b k) p)) (kids a i) (fun d s => Mut a.length b.length s ∧ Fr a.length b.length (kids a i) (kids b k) s0 s ∧ (∀ p ∈ kids a i, p ∉ d → s.b p < 0) ∧
   (∀ p ∈ d, ∀ q ∈ kids b k, nm b q = nm a p → s.b p = q) ∧ (∀ p ∈ kids a i, 0 ≤ s.b p → ∃ q ∈ kids b k, s.b p = (q : Int) ∧ nm b q = nm a p)) ?_ s0 ⟨h0, Fr.refl _ _ _ _ _, fun p hp _ => hf.1 p hp, fun p hp => by simp at hp, fun p hp h => by have := hf.1 p hp; omega⟩
 intro d p r s e ⟨i1, i2, i3, i4, i5⟩
 have hpd := nodup_mid (kids_sorted a i) e
 have hpx : p ∈ kids a i := by rw [e]; simp
 have hdx : ∀ z ∈ d, z ∈ kids a i := fun z hz => by rw [e]; simp [hz]
 cases hc : c1 a b (kids b k) p with
 | none =>
  refine ⟨i1, i2, fun z hz hzd => i3 z hz fun hm => hzd (by simp [hm]), fun z hz q hq hn => ?_, i5⟩
  rcases List.mem_append.1 hz with hz | hz
  ·exact i4 z hz q hq hn
  ·have : z = p := by simpa using hz
   subst this
   unfold c1 at hc
   rw [List.find?_eq_none] at hc
   exact absurd (by simpa using hn) (hc q hq)
 | some q =>
  obtain ⟨q1, q2⟩ := c1_mem hc
  have hb := i3 p hpx hpd
  have ha : s.a q < 0 := by
   rcases Int.lt_or_le (s.a q) 0 with h | h
   ·exact h
   exfalso
   obtain ⟨p', hp'⟩ : ∃ p' : Nat, s.a q = p' := ⟨(s.a q).toNat, by omega⟩
   have hp'l : p' < a.length := by have := (i1.ra q).2; omega
   have h1 := (i1.iff p' q hp'l (hy q q1)).2 hp'
   by_cases hm : p' ∈ kids a i
   ·obtain ⟨q', g1, g2, g3⟩ := i5 p' hm (by omega)
    have : q' = q := by omega
    subst this
    have := kids_name hA hm hpx (g3.symm.trans q2)
    subst this
    omega
   ·rw [i2.b p' hm] at h1
    have := (h0.iff p' q hp'l (hy q q1)).1 h1
    have := hf.2 q q1
    omega
  have hpl := hx p hpx
  have hbe := fun z => pair_b (s := s) (p := p) (q := q) (i := z) (by rw [i1.eb]; exact hpl)
  refine ⟨i1.pair hpl (hy q q1) hb ha, i2.op (o := some q) hpx (by rw [h0.eb]; exact hpl) fun q' hq' => by cases hq'; exact ⟨q1, by rw [h0.ea]; exact hy q q1⟩, fun z hz hzd => ?_, fun z hz q' hq' hn => ?_, fun z hz h => ?_⟩
  ·show (pairS s p q).b z < 0
   rw [hbe, if_neg (fun e => hzd (by simp [e]))]
   exact i3 z hz fun hm => hzd (by simp [hm])
  ·show (pairS s p q).b z = q'
   rw [hbe]
   rcases List.mem_append.1 hz with hz | hz
   ·rw [if_neg (fun e => hpd (by rw [← e]; exact hz))]; exact i4 z hz q' hq' hn
   ·have : z = p := by simpa using hz
    subst this
    rw [if_pos rfl]
    have := kids_name hB q1 hq' (q2.trans hn.symm)
    omega
  ·change 0 ≤ (pairS s p q).b z at h
   show ∃ q' ∈ kids b k, (pairS s p q).b z = (q' : Int) ∧ _
   rw [hbe] at h ⊢
   by_cases e : z = p
   ·rw [if_pos e]; subst e; exact ⟨q, q1, rfl, q2⟩
   ·rw [if_neg e] at h ⊢; exact i5 z hz h
def Why (a b : List NodeT) (p q : Nat) : Prop := nm b q = nm a p ∨ (shp b q = shp a p ∧ shp a p ≠ [])
theorem ph_loc (hA : Tr a) (hB : Tr b) (h0 : Mut a.length b.length s0) (hf : (∀ p ∈ kids a i, s0.b p < 0) ∧ (∀ q ∈ kids b k, s0.a q < 0)) {s1 : Al} (hs1 : s1 = ph2 a b (kids b k) (kids a i) (ph1 a b (kids b k) (kids a i) s0)) :
  Mut a.length b.length s1 ∧ Fr a.length b.length (kids a i) (kids b k) s0 s1 ∧
   (∀ p ∈ kids a i, ∀ q ∈ kids b k, nm b q = nm a p → s1.b p = q) ∧ (∀ p ∈ kids a i, 0 ≤ s1.b p → ∃ q ∈ kids b k, s1.b p = (q : Int) ∧ Why a b p q) := by
 obtain ⟨j1, j2, _, j4, j5⟩ := ph1_loc (i := i) (k := k) hA hB h0 hf
 generalize ph1 a b (kids b k) (kids a i) s0 = t0 at *
 have hx := fun p (hp : p ∈ kids a i) => kids_lt hp
 have hy := fun q (hq : q ∈ kids b k) => kids_lt hq
 have key := foldl_inv0 (fun s p => opS s p (c2 a b (kids b k) s p)) (kids a i) (fun d s => Mut a.length b.length s ∧ Fr a.length b.length (kids a i) (kids b k) s0 s ∧
   (∀ p ∈ kids a i, 0 ≤ t0.b p → s.b p = t0.b p) ∧ (∀ p ∈ kids a i, 0 ≤ s.b p → ∃ q ∈ kids b k, s.b p = (q : Int) ∧ Why a b p q)) (fun d p r s e ⟨i1, i2, i3, i4⟩ => by
  have hpx : p ∈ kids a i := by rw [e]; simp
  show Mut a.length b.length (opS s p (c2 a b (kids b k) s p)) ∧ _
  cases hc : c2 a b (kids b k) s p with
  | none => exact ⟨i1, i2, i3, i4⟩
  | some q =>
   obtain ⟨q1, q2, q3, q4, q5⟩ := c2_mem hc
   have hpl := hx p hpx
   have hbe := fun z => pair_b (s := s) (p := p) (q := q) (i := z) (by rw [i1.eb]; exact hpl)
   refine ⟨i1.pair hpl (hy q q1) q2 q3, ?_, ?_, ?_⟩
   ·exact i2.op (o := some q) hpx (by rw [h0.eb]; exact hpl) fun q' hq' => by cases hq'; exact ⟨q1, by rw [h0.ea]; exact hy q q1⟩
   ·intro z hz h
    show (pairS s p q).b z = _
    rw [hbe]
    have := i3 z hz h
    by_cases e : z = p
    ·subst e; omega
    ·rw [if_neg e]; exact this
   ·intro z hz h
    change 0 ≤ (pairS s p q).b z at h
    show ∃ q' ∈ kids b k, (pairS s p q).b z = (q' : Int) ∧ _
    rw [hbe] at h ⊢
    by_cases e : z = p
    ·rw [if_pos e]; subst e; exact ⟨q, q1, rfl, .inr ⟨q4, q5⟩⟩
    ·rw [if_neg e] at h ⊢; exact i4 z hz h) t0 ⟨j1, j2, fun _ _ _ => rfl, fun p hp h => by obtain ⟨q, g1, g2, g3⟩ := j5 p hp h; exact ⟨q, g1, g2, .inl g3⟩⟩
 have es : s1 = (kids a i).foldl (fun s p => opS s p (c2 a b (kids b k) s p)) t0 := hs1
 rw [← es] at key
 obtain ⟨k1, k2, k3, k4⟩ := key
 refine ⟨k1, k2, fun p hp q hq hn => ?_, k4⟩
 have := j4 p hp q hq hn
 rw [k3 p hp (by omega)]; exact this
end
def iniS (la lb : Nat) : Al := ⟨List.replicate la (-1), List.replicate lb (-1)⟩
theorem ini_b (la lb p : Nat) : (iniS la lb).b p = -1 := by
 simp only [iniS, Al.b, List.getD_eq_getElem?_getD, List.getElem?_replicate]; split <;> rfl
theorem ini_a (la lb p : Nat) : (iniS la lb).a p = -1 := by
 simp only [iniS, Al.a, List.getD_eq_getElem?_getD, List.getElem?_replicate]; split <;> rfl
theorem ini_mut (la lb : Nat) : Mut la lb (iniS la lb) := by
 refine ⟨by simp [iniS], by simp [iniS], fun p => ?_, fun p => ?_, fun p q hp hq => ?_⟩
 ·rw [ini_b]; omega
 ·rw [ini_a]; omega
 ·rw [ini_b, ini_a]; omega
def locM (a b : List NodeT) (i k : Int) (p : Nat) : Int := (ph2 a b (kids b k) (kids a i) (ph1 a b (kids b k) (kids a i) (iniS a.length b.length))).b p
theorem locM_eq {a b : List NodeT} {i k : Int} {s0 : Al} (h0 : Mut a.length b.length s0) (hf : (∀ p ∈ kids a i, s0.b p < 0) ∧ (∀ q ∈ kids b k, s0.a q < 0)) {p : Nat} (hp : p ∈ kids a i) :
  (ph2 a b (kids b k) (kids a i) (ph1 a b (kids b k) (kids a i) s0)).b p = locM a b i k p := by
 have hx := fun p (hp : p ∈ kids a i) => kids_lt hp
 have hy := fun q (hq : q ∈ kids b k) => kids_lt hq
 have hI := ini_mut a.length b.length
 have hag : Agr (kids a i) (kids b k) s0 (iniS a.length b.length) := ⟨fun p hp => by rw [ini_b]; have := hf.1 p hp; have := (h0.rb p).1; omega, fun q hq => by rw [ini_a]; have := hf.2 q hq; have := (h0.ra q).1; omega⟩
 have h1 := ph1_agr (a := a) (b := b) hx hy (kids a i) (fun _ h => h) _ _ ⟨h0.eb, h0.ea⟩ ⟨hI.eb, hI.ea⟩ hag
 have f1 := ph1_fr (a := a) (b := b) hx hy ⟨h0.eb, h0.ea⟩ (kids a i) (fun _ h => h) s0 (Fr.refl _ _ _ _ _)
 have f2 := ph1_fr (a := a) (b := b) hx hy ⟨hI.eb, hI.ea⟩ (kids a i) (fun _ h => h) _ (Fr.refl _ _ _ _ _)
 exact (ph2_agr hx hy (kids a i) (fun _ h => h) _ _ ⟨f1.eb.trans h0.eb, f1.ea.trans h0.ea⟩ ⟨f2.eb.trans hI.eb, f2.ea.trans hI.ea⟩ h1).1 p hp
theorem locM_spec {a b : List NodeT} (hA : Tr a) (hB : Tr b) (i k : Int) :
  (∀ p ∈ kids a i, ∀ q ∈ kids b k, nm b q = nm a p → locM a b i k p = q) ∧ (∀ p ∈ kids a i, 0 ≤ locM a b i k p → ∃ q ∈ kids b k, locM a b i k p = (q : Int) ∧ Why a b p q) ∧
  (∀ p ∈ kids a i, -1 ≤ locM a b i k p) ∧ (∀ p ∈ kids a i, ∀ p' ∈ kids a i, 0 ≤ locM a b i k p → locM a b i k p = locM a b i k p' → p = p') := by
 obtain ⟨h1, h2, h3, h4⟩ := ph_loc (i := i) (k := k) hA hB (ini_mut a.length b.length) ⟨fun p _ => by rw [ini_b]; omega, fun p _ => by rw [ini_a]; omega⟩ rfl
 refine ⟨h3, h4, fun p _ => (h1.rb p).1, fun p hp p' hp' h e => ?_⟩
 obtain ⟨q, q1, q2, _⟩ := h4 p hp h
 have e1 := (h1.iff p q (kids_lt hp) (kids_lt q1)).1 q2
 have e2 := (h1.iff p' q (kids_lt hp') (kids_lt q1)).1 (e.symm.trans q2)
 omega
def cpt (a b : List NodeT) (p : Nat) : Int :=
 if h : 0 ≤ par a p ∧ par a p < p then (if cpt a b (par a p).toNat < 0 then -1 else locM a b (par a p) (cpt a b (par a p).toNat) p) else if par a p = -1 then locM a b (-1) (-1) p else -1
termination_by p
decreasing_by all_goals omega
theorem cpt_root {a b : List NodeT} {p : Nat} (h : par a p = -1) : cpt a b p = locM a b (-1) (-1) p := by
 rw [cpt, dif_neg (by omega), if_pos h]
theorem cpt_kid {a b : List NodeT} (hA : Tr a) {p i : Nat} (hp : p < a.length) (h : par a p = i) : cpt a b p = if cpt a b i < 0 then -1 else locM a b i (cpt a b i) p := by
 have := tree_par hA.up hp
 rw [cpt, dif_pos (by omega), h]; rfl
def Corr (a b : List NodeT) (p q : Nat) : Prop := (par a p = -1 ∧ par b q = -1) ∨ ∃ i k : Nat, par a p = i ∧ par b q = k ∧ cpt a b i = k ∧ i < p
theorem cpt_val {a b : List NodeT} (hA : Tr a) (hB : Tr b) {p : Nat} (hp : p < a.length) : -1 ≤ cpt a b p ∧ (0 ≤ cpt a b p → ∃ q, q < b.length ∧ cpt a b p = (q : Int) ∧ Corr a b p q ∧ Why a b p q) := by
 obtain ⟨t1, t2⟩ := tree_par hA.up hp
 by_cases h : par a p = -1
 ·rw [cpt_root h]
  obtain ⟨_, m2, m3, _⟩ := locM_spec hA hB (-1) (-1)
  have hm : p ∈ kids a (-1) := mem_kids.2 ⟨hp, h⟩
  refine ⟨m3 p hm, fun h0 => ?_⟩
  obtain ⟨q, q1, q2, q3⟩ := m2 p hm h0
  exact ⟨q, kids_lt q1, q2, .inl ⟨h, (mem_kids.1 q1).2⟩, q3⟩
 ·obtain ⟨i, hi⟩ : ∃ i : Nat, par a p = i := ⟨(par a p).toNat, by omega⟩
  rw [cpt_kid hA hp hi]
  split
  ·exact ⟨by omega, fun h0 => by omega⟩
  ·rename_i hk
   obtain ⟨_, m2, m3, _⟩ := locM_spec hA hB i (cpt a b i)
   have hm : p ∈ kids a i := mem_kids.2 ⟨hp, hi⟩
   refine ⟨m3 p hm, fun h0 => ?_⟩
   obtain ⟨q, q1, q2, q3⟩ := m2 p hm h0
   exact ⟨q, kids_lt q1, q2, .inr ⟨i, (cpt a b i).toNat, hi, by rw [(mem_kids.1 q1).2]; omega, by omega, by omega⟩, q3⟩
theorem cpt_inj {a b : List NodeT} (hA : Tr a) (hB : Tr b) : ∀ {p p' : Nat}, p < a.length → p' < a.length → 0 ≤ cpt a b p → cpt a b p = cpt a b p' → p = p' := by
 intro p
 induction p using Nat.strongRecOn with
 | _ p ih =>
  intro p' hp hp' h e
  obtain ⟨q, q1, q2, q3, _⟩ := (cpt_val hA hB hp).2 h
  obtain ⟨q', r1, r2, r3, _⟩ := (cpt_val hA hB hp').2 (by omega)
  have : q = q' := by omega
  subst this
  rcases q3 with ⟨h1, h2⟩ | ⟨i, k, h1, h2, h3, h4⟩
  ·rcases r3 with ⟨g1, g2⟩ | ⟨i', k', g1, g2, g3, g4⟩
   ·rw [cpt_root h1] at h e
    rw [cpt_root g1] at e
    exact (locM_spec hA hB (-1) (-1)).2.2.2 p (mem_kids.2 ⟨hp, h1⟩) p' (mem_kids.2 ⟨hp', g1⟩) h e
   ·omega
  ·rcases r3 with ⟨g1, g2⟩ | ⟨i', k', g1, g2, g3, g4⟩
   ·omega
   ·have hii : i = i' := ih i h4 (by omega) (by omega) (by omega) (by omega)
    subst hii
    rw [cpt_kid hA hp h1, if_neg (by omega), h3] at h e
    rw [cpt_kid hA hp' g1, if_neg (by omega), h3] at e
    exact (locM_spec hA hB i k).2.2.2 p (mem_kids.2 ⟨hp, h1⟩) p' (mem_kids.2 ⟨hp', g1⟩) h e
def Bel (l : List NodeT) (i : Int) (p : Nat) : Prop := i = -1 ∨ (upW l i p = true ∧ (p : Int) ≠ i)
theorem bel_kid {l : List NodeT} (h : TreeUp l l.length) {i : Int} {p : Nat} (hp : p ∈ kids l i) (hi : -1 ≤ i) : Bel l i p := by
 by_cases e : i = -1
 ·exact .inl e
 ·obtain ⟨h1, h2⟩ := mem_kids.1 hp
  obtain ⟨t1, t2⟩ := tree_par h h1
  obtain ⟨i, rfl⟩ : ∃ j : Nat, i = j := ⟨i.toNat, by omega⟩
  exact .inr ⟨by rw [upW_step h h1 (by omega), h2]; exact upW_self, by omega⟩
theorem bel_step {l : List NodeT} (h : TreeUp l l.length) {r p : Nat} (hp : p < l.length) (hb : Bel l r p) : ∃ i : Nat, par l p = i ∧ i < p ∧ (i = r ∨ Bel l r i) := by
 rcases hb with e | ⟨h1, h2⟩
 ·omega
 ·rw [upW_step h hp h2] at h1
  obtain ⟨t1, t2⟩ := tree_par h hp
  have := upW_ge h1
  obtain ⟨i, hi⟩ : ∃ i : Nat, par l p = i := ⟨(par l p).toNat, by omega⟩
  rw [hi] at h1
  refine ⟨i, hi, by omega, ?_⟩
  by_cases e : i = r
  ·exact .inl e
  ·exact .inr (.inr ⟨h1, by omega⟩)
theorem bel_trans {l : List NodeT} (h : TreeUp l l.length) {i : Int} {r p : Nat} (hr : Bel l i r) (hp : p < l.length) (hb : Bel l r p) : Bel l i p := by
 rcases hr with e | ⟨h1, h2⟩
 ·exact .inl e
 ·rcases hb with e | ⟨h3, h4⟩
  ·omega
  ·have g1 := upW_ge h1
   have g2 := upW_ge h3
   have g0 := upW_nn _ (Nat.le_refl _) h1
   obtain ⟨i, rfl⟩ : ∃ j : Nat, i = j := ⟨i.toNat, by omega⟩
   exact .inr ⟨up_trans h h1 p p (Nat.le_refl _) hp h3, by omega⟩
theorem bel_find {l : List NodeT} (h : TreeUp l l.length) {i : Int} (hi : -1 ≤ i) : ∀ {p : Nat}, p < l.length → Bel l i p → p ∈ kids l i ∨ ∃ r ∈ kids l i, Bel l r p := by
 intro p
 induction p using Nat.strongRecOn with
 | _ p ih =>
  intro hp hb
  obtain ⟨t1, t2⟩ := tree_par h hp
  by_cases e : par l p = i
  ·exact .inl (mem_kids.2 ⟨hp, e⟩)
  ·right
   have hb2 : ∃ j : Nat, par l p = j ∧ Bel l i j := by
    rcases hb with e1 | ⟨h1, h2⟩
    ·exact ⟨(par l p).toNat, by omega, .inl e1⟩
    ·have g0 := upW_nn _ (Nat.le_refl _) h1
     rw [upW_step h hp h2] at h1
     have := upW_ge h1
     exact ⟨(par l p).toNat, by omega, .inr ⟨by rw [show (((par l p).toNat : Nat) : Int) = par l p by omega]; exact h1, by omega⟩⟩
   obtain ⟨j, hj, hb2⟩ := hb2
   have hjr : ∀ r : Nat, j = r ∨ Bel l r j → Bel l r p := fun r hr => by
    rcases hr with rfl | hr
    ·exact .inr ⟨by rw [upW_step h hp (by omega), hj]; exact upW_self, by omega⟩
    ·rcases hr with e | ⟨g1, g2⟩
     ·omega
     ·have := upW_ge g1
      exact .inr ⟨by rw [upW_step h hp (by omega), hj]; exact g1, by omega⟩
   rcases ih j (by omega) (by omega) hb2 with h1 | ⟨r, h1, h2⟩
   ·exact ⟨j, h1, hjr j (.inl rfl)⟩
   ·exact ⟨r, h1, hjr r (.inr h2)⟩
theorem bel_apart {l : List NodeT} (h : TreeUp l l.length) {i : Int} {r r' : Nat} (hr : r ∈ kids l i) (hr' : r' ∈ kids l i) (hi : -1 ≤ i) : ∀ {p : Nat}, p < l.length → Bel l r p → (p = r' ∨ Bel l r' p) → r = r' := by
 intro p
 induction p using Nat.strongRecOn with
 | _ p ih =>
  intro hp h1 h2
  obtain ⟨j, j1, j2, j3⟩ := bel_step h hp h1
  obtain ⟨k1, k2⟩ := mem_kids.1 hr
  obtain ⟨k3, k4⟩ := mem_kids.1 hr'
  have t1 := tree_par h k1
  rcases h2 with rfl | h2
  ·exfalso
   rw [k4] at j1
   rcases j3 with rfl | j3
   ·omega
   ·rcases j3 with e | ⟨g1, g2⟩
    ·omega
    ·have := upW_ge g1; omega
  ·obtain ⟨j', q1, q2, q3⟩ := bel_step h hp h2
   have : j = j' := by omega
   subst this
   rcases j3 with rfl | j3
   ·rcases q3 with rfl | q3
    ·rfl
    ·rcases q3 with e | ⟨g1, g2⟩
     ·omega
     ·exfalso
      rw [upW_step h k1 g2, k2] at g1
      have := upW_ge g1
      have := tree_par h k3
      omega
   ·exact ih j (by omega) (by omega) j3 q3
theorem cpt_neg {a b : List NodeT} (hA : Tr a) {r : Nat} (hr : cpt a b r < 0) : ∀ {p : Nat}, p < a.length → Bel a r p → cpt a b p = -1 := by
 intro p
 induction p using Nat.strongRecOn with
 | _ p ih =>
  intro hp hb
  obtain ⟨j, j1, j2, j3⟩ := bel_step hA.up hp hb
  rw [cpt_kid hA hp j1]
  rcases j3 with rfl | j3
  ·rw [if_pos hr]
  ·rw [ih j j2 (by omega) j3, if_pos (by omega)]
open Classical in
theorem align_cpt {a b : List NodeT} (hA : Tr a) (hB : Tr b) : ∀ (f : Nat) (i k : Int) (s : Al), (a.length : Int) ≤ f + i → ((i = -1 ∧ k = -1) ∨ ∃ i' k' : Nat, i = i' ∧ k = k' ∧ i' < a.length ∧ cpt a b i' = k') →
  Mut a.length b.length s → (∀ p, p < a.length → s.b p = -1 ∨ s.b p = cpt a b p) → (∀ p, p < a.length → Bel a i p → s.b p = -1) →
  Mut a.length b.length (alignF a b f i k s) ∧ ∀ p, p < a.length → (alignF a b f i k s).b p = if Bel a i p then cpt a b p else s.b p := by
 intro f
 induction f with
 | zero =>
  intro i k s hf hik
  rcases hik with ⟨h1, h2⟩ | ⟨i', k', h1, h2, h3, h4⟩ <;> omega
 | succ f ih =>
  intro i k s hf hik hM hG hF
  have hi1 : -1 ≤ i := by rcases hik with ⟨h1, h2⟩ | ⟨i', k', h1, h2, h3, h4⟩ <;> omega
  have fr1 : ∀ p ∈ kids a i, s.b p < 0 := fun p hp => by rw [hF p (kids_lt hp) (bel_kid hA.up hp hi1)]; omega
  have fr2 : ∀ q ∈ kids b k, s.a q < 0 := fun q hq => by
   rcases Int.lt_or_le (s.a q) 0 with h | h
   ·exact h
   exfalso
   obtain ⟨p, hp⟩ : ∃ p : Nat, s.a q = p := ⟨(s.a q).toNat, by omega⟩
   have hpl : p < a.length := by have := (hM.ra q).2; omega
   have h1 := (hM.iff p q hpl (kids_lt hq)).2 hp
   have h2 : cpt a b p = q := by rcases hG p hpl with e | e <;> omega
   obtain ⟨q', g1, g2, g3, _⟩ := (cpt_val hA hB hpl).2 (by omega)
   have : q' = q := by omega
   subst this
   have hqk := (mem_kids.1 hq).2
   have hpm : p ∈ kids a i := by
    refine mem_kids.2 ⟨hpl, ?_⟩
    rcases hik with ⟨e1, e2⟩ | ⟨i', k', e1, e2, e3, e4⟩ <;> rcases g3 with ⟨h3, h4⟩ | ⟨i2, k2, h3, h4, h5, h6⟩
    ·omega
    ·omega
    ·omega
    ·have : i2 = i' := cpt_inj hA hB (by omega) e3 (by omega) (by omega)
     omega
   have := fr1 p hpm
   omega
  obtain ⟨s1, hs1⟩ : ∃ s1, s1 = ph2 a b (kids b k) (kids a i) (ph1 a b (kids b k) (kids a i) s) := ⟨_, rfl⟩
  obtain ⟨l1, l2, _, _⟩ := ph_loc (i := i) (k := k) hA hB hM ⟨fr1, fr2⟩ hs1
  have lx : ∀ p ∈ kids a i, s1.b p = cpt a b p := fun p hp => by
   rw [hs1, locM_eq hM ⟨fr1, fr2⟩ hp]
   rcases hik with ⟨e1, e2⟩ | ⟨i', k', e1, e2, e3, e4⟩
   ·subst e1; subst e2; exact (cpt_root (mem_kids.1 hp).2).symm
   ·subst e1; subst e2
    rw [cpt_kid hA (kids_lt hp) (mem_kids.1 hp).2, e4, if_neg (by omega)]
  have hkk : ∀ r ∈ kids a i, ∀ p ∈ kids a i, ¬ Bel a r p := fun r hr p hp hb => by
   have := bel_apart hA.up hr hp hi1 (kids_lt hp) hb (.inl rfl)
   subst this
   rcases hb with e | ⟨_, e⟩ <;> omega
  have hub : ∀ r ∈ kids a i, ∀ p, p < a.length → Bel a r p → Bel a i p := fun r hr p hp hb => bel_trans hA.up (bel_kid hA.up hr hi1) hp hb
  have key := foldl_inv0 (fun (s : Al) (p : Nat) => if 0 ≤ s.b p then alignF a b f p (s.b p) s else s) (kids a i) (fun d t => Mut a.length b.length t ∧ ∀ p, p < a.length → t.b p = if p ∈ kids a i ∨ ∃ r ∈ d, Bel a r p then cpt a b p else s.b p) (fun d r rest t e ⟨i1, i2⟩ => by
   have hrx : r ∈ kids a i := by rw [e]; simp
   have hdx : ∀ z ∈ d, z ∈ kids a i := fun z hz => by rw [e]; simp [hz]
   have hrd := nodup_mid (kids_sorted a i) e
   have hrl := kids_lt hrx
   have tr : t.b r = cpt a b r := by rw [i2 r hrl, if_pos (.inl hrx)]
   have t3 := tree_par hA.up hrl
   rw [(mem_kids.1 hrx).2] at t3
   by_cases h0 : 0 ≤ t.b r
   ·simp only [if_pos h0]
    have fresh : ∀ p, p < a.length → Bel a r p → t.b p = -1 := fun p hp hb => by
     rw [i2 p hp, if_neg]
     ·exact hF p hp (hub r hrx p hp hb)
     ·rintro (hm | ⟨r', hr', hb'⟩)
      ·exact hkk r hrx p hm hb
      ·have := bel_apart hA.up hrx (hdx r' hr') hi1 hp hb (.inr hb')
       exact hrd (this ▸ hr')
    obtain ⟨q, q1, q2, _⟩ := (cpt_val hA hB hrl).2 (by omega)
    obtain ⟨j1, j2⟩ := ih r (t.b r) t (by omega) (.inr ⟨r, q, rfl, by omega, hrl, q2⟩) i1 (fun p hp => by
     rw [i2 p hp]
     split
     ·exact .inr rfl
     ·exact hG p hp) fresh
    refine ⟨j1, fun p hp => ?_⟩
    rw [j2 p hp, i2 p hp]
    by_cases hb : Bel a r p
    ·rw [if_pos hb, if_pos (.inr ⟨r, by simp, hb⟩)]
    ·rw [if_neg hb]
     by_cases hm : p ∈ kids a i ∨ ∃ r ∈ d, Bel a r p
     ·rw [if_pos hm, if_pos (hm.imp id fun ⟨r', h1, h2⟩ => ⟨r', by simp [h1], h2⟩)]
     ·rw [if_neg hm, if_neg]
      rintro (h1 | ⟨r', h1, h2⟩)
      ·exact hm (.inl h1)
      ·rcases List.mem_append.1 h1 with h1 | h1
       ·exact hm (.inr ⟨r', h1, h2⟩)
       ·have : r' = r := by simpa using h1
        subst this; exact hb h2
   ·simp only [if_neg h0]
    refine ⟨i1, fun p hp => ?_⟩
    rw [i2 p hp]
    by_cases hm : p ∈ kids a i ∨ ∃ r ∈ d, Bel a r p
    ·rw [if_pos hm, if_pos (hm.imp id fun ⟨r', h1, h2⟩ => ⟨r', by simp [h1], h2⟩)]
    ·rw [if_neg hm]
     by_cases hb : Bel a r p
     ·rw [if_pos (.inr ⟨r, by simp, hb⟩), cpt_neg hA (by omega) hp hb]
      exact hF p hp (hub r hrx p hp hb)
     ·rw [if_neg]
      rintro (h1 | ⟨r', h1, h2⟩)
      ·exact hm (.inl h1)
      ·rcases List.mem_append.1 h1 with h1 | h1
       ·exact hm (.inr ⟨r', h1, h2⟩)
       ·have : r' = r := by simpa using h1
        subst this; exact hb h2) s1 ⟨l1, fun p hp => by
    by_cases hm : p ∈ kids a i
    ·rw [if_pos (.inl hm), lx p hm]
    ·rw [if_neg (by rintro (h | ⟨r, hr, _⟩); exact hm h; simp at hr)]; exact l2.b p hm⟩
  have es : alignF a b (f + 1) i k s = (kids a i).foldl (fun (s : Al) (p : Nat) => if 0 ≤ s.b p then alignF a b f p (s.b p) s else s) s1 := by rw [hs1]; rfl
  rw [es]
  refine ⟨key.1, fun p hp => ?_⟩
  rw [key.2 p hp]
  by_cases hb : Bel a i p
  ·rw [if_pos hb, if_pos (bel_find hA.up hi1 hp hb)]
  ·rw [if_neg hb, if_neg]
   rintro (h | ⟨r, hr, h2⟩)
   ·exact hb (bel_kid hA.up h hi1)
   ·exact hb (hub r hr p hp h2)
def finS (a b : List NodeT) : Al := alignF a b (a.length + 1) (-1) (-1) (iniS a.length b.length)
theorem fin_spec {a b : List NodeT} (hA : Tr a) (hB : Tr b) : Mut a.length b.length (finS a b) ∧ ∀ p, p < a.length → (finS a b).b p = cpt a b p := by
 obtain ⟨h1, h2⟩ := align_cpt hA hB (a.length + 1) (-1) (-1) (iniS a.length b.length) (by omega) (.inl ⟨rfl, rfl⟩) (ini_mut _ _) (fun p _ => .inl (ini_b _ _ _)) (fun p _ _ => ini_b _ _ _)
 exact ⟨h1, fun p hp => by show (alignF a b (a.length + 1) (-1) (-1) (iniS a.length b.length)).b p = _; rw [h2 p hp, if_pos (.inl rfl)]⟩
end YtmedpoeeoihfmaaGreatDoor
end Go.Proofs

set_option maxRecDepth 100000
namespace Go.Proofs
open Go.AM
namespace YtmedpoeeoihfmaaGreatDoor
variable {Gl : Globs}
def NodeT.toD (x : NodeT) : D := .agg [.int .i64 x.parent, .str x.name, .int .i64 x.self, .int .i64 x.total, .int .i64 x.count]
theorem nd_isAgg (x : NodeT) : x.toD.isAgg = true := rfl
theorem nd_cells (x : NodeT) : x.toD.cells = [.int .i64 x.parent, .str x.name, .int .i64 x.self, .int .i64 x.total, .int .i64 x.count] := rfl
structure PairT where
 a : Int
 b : Int
deriving Inhabited, DecidableEq
def PairT.toD (x : PairT) : D := .agg [.int .i64 x.a, .int .i64 x.b]
theorem pp_isAgg (x : PairT) : x.toD.isAgg = true := rfl
theorem pp_cells (x : PairT) : x.toD.cells = [.int .i64 x.a, .int .i64 x.b] := rfl
theorem zN : type_of% (And.intro @zA (And.intro @nd_isAgg (And.intro @nd_cells (And.intro @pp_isAgg (And.intro @pp_cells @yRules))))) := And.intro @zA (And.intro @nd_isAgg (And.intro @nd_cells (And.intro @pp_isAgg (And.intro @pp_cells @yRules))))
def nodesD (l : List NodeT) : D := .sl (l.map NodeT.toD)
theorem selfS_step (l : List NodeT) {k : Nat} (h : k < l.length) : selfS (l.take (k + 1)) = selfS (l.take k) + (l.getD k default).self := by
 simp only [selfS, take_step l k h, List.map_append, List.sum_append, List.map_cons, List.map_nil, List.sum_cons, List.sum_nil]; omega
theorem countS_step (l : List NodeT) {k : Nat} (h : k < l.length) : countS (l.take (k + 1)) = countS (l.take k) + (l.getD k default).count := by
 simp only [countS, take_step l k h, List.map_append, List.sum_append, List.map_cons, List.map_nil, List.sum_cons, List.sum_nil]; omega
theorem rangesF_bad {l : List NodeT} {k : Nat} (h : k < l.length) (hi : firstErr (fun k => nodeE (l.getD k default)) k = 0) {e : Int} (he : nodeE (l.getD k default) = e) (h0 : e ≠ 0) : rangesF l = e := by
 subst he
 have := firstErr_at (f := fun k => nodeE (l.getD k default)) hi h0 h
 rw [rangesF, if_neg (by rw [this]; exact h0), this]
theorem k_ranges (l : List NodeT) (hl : l.length ≤ 2000) : Pure Tryz.prog Gl 54 [.d (.sl (l.map NodeT.toD))] (.d (.int .i64 (rangesF l))) := by
 refine Pure.of1 ?_
 refine acalls_of Tryz.func54 rfl rfl (by simp [Tryz.ntmps54]) (evC_sound rfl _ _ _ _ ?_)
 simp only [Tryz.ntmps54, Tryz.results54, argEnv, List.length_nil]
 simp only [zN, seval, Nat.reduceLeDiff, Nat.reduceEqDiff, reduceCtorEq, reduceIte]
 refine for_of l.length (fun k => [(3, .d (.int .i64 (selfS (l.take k)))), (4, .d (.int .i64 (countS (l.take k)))), (8, .d (.sl (l.map NodeT.toD))), (9, .d (.int .i64 l.length)), (10, .d (.int .i64 k))]) (fun _ => []) (fun k => firstErr (fun k => nodeE (l.getD k default)) k = 0) rfl ?_ ?_
 ·refine weak_to [] [] rfl List.nodup_nil ?_ rfl
  simp only [zN, seval, Nat.reduceLeDiff, Nat.reduceEqDiff, reduceCtorEq, reduceIte, Int.cast_ofNat_Int]
  rfl
 ·intro k hi hk
  obtain ⟨b1, b2, b3, b4⟩ := sums_take hk hi
  by_cases h : k < l.length
  ·obtain ⟨x, hx⟩ : ∃ x, x = l.getD k default := ⟨_, rfl⟩
   have hs1 := selfS_step l h
   have hs2 := countS_step l h
   rw [← hx] at hs1 hs2
   simp only [zN, seval, Nat.reduceLeDiff, Nat.reduceEqDiff, reduceCtorEq, reduceIte, (show (k:Int) < l.length by omega), h, a_getD _ _ _ (show k < l.length by omega)]
   rw [← hx]
   repeat ((with_reducible refine And.intro ?_ ?_); (focus (first | omega | (simp only [lenR]; omega) | (refine qq ?_; rfl) | (refine dq ?_; kernel_rfl) | (intros; simp_all; done))))
   refine callF_pure (k_Name _) ?_
   simp only [zN, seval, Nat.reduceLeDiff, Nat.reduceEqDiff, reduceCtorEq, reduceIte]
   repeat ((with_reducible refine And.intro ?_ ?_); (focus (first | omega | (simp only [lenR]; omega) | (refine qq ?_; rfl) | (refine dq ?_; kernel_rfl) | (intros; simp_all; done))))
   refine ifC.mk (fun h1 => ?_) (fun h1 => ?_)
   ·have h1 : nameF x.name ≠ 0 := by simpa using h1
    refine ⟨_, _, ret_d, ?_, rfl⟩
    rw [rangesF_bad h hi (e := nameF x.name) (by rw [← hx, nodeE, if_neg h1]) h1]
   have h1 : nameF x.name = 0 := by simpa using h1
   repeat ((with_reducible refine And.intro ?_ ?_); (focus (first | omega | (simp only [lenR]; omega) | (refine qq ?_; rfl) | (refine dq ?_; kernel_rfl) | (intros; simp_all; done))))
   refine ifC.mk (fun h2 => ?_) (fun h2 => ?_)
   ·refine ⟨_, _, ret_d, ?_, rfl⟩
    rw [rangesF_bad h hi (e := 2) (by
     rw [← hx, nodeE, if_pos h1, if_pos]
     simp only [Bool.or_eq_true, Bool.and_eq_true, decide_eq_true_eq, beq_iff_eq, bne_iff_ne] at h2
     omega) (by decide)]
   ·have h2' : ¬ (x.self < 0 ∨ x.self > 100000000000000 ∨ x.count < 0 ∨ x.count > 20000 ∨ (x.count = 0 ∧ x.self ≠ 0)) := fun g => by
     simp only [Bool.or_eq_false_iff, Bool.and_eq_false_iff, decide_eq_false_iff_not, beq_eq_false_iff_ne, bne_eq_false_iff_eq] at h2
     omega
    repeat ((with_reducible refine And.intro ?_ ?_); (focus (first | omega | (simp only [lenR]; omega) | (refine qq ?_; rfl) | (refine dq ?_; kernel_rfl) | (intros; simp_all; done))))
    have hb : nodeE x = 0 := by rw [nodeE, if_pos h1, if_neg h2']
    refine ⟨firstErr_step hi (by rw [← hx]; exact hb), ?_⟩
    rw [hs1, hs2]
    refine weak_to [] [] rfl List.nodup_nil ?_ rfl
    simp only [zN, seval, Nat.reduceLeDiff, Nat.reduceEqDiff, reduceCtorEq, reduceIte, @a_wrap ((k:Int) + 1) (by omega), @a_wrap (selfS (l.take k) + x.self) (by omega), @a_wrap (countS (l.take k) + x.count) (by omega)]
  ·simp only [zN, seval, Nat.reduceLeDiff, Nat.reduceEqDiff, reduceCtorEq, reduceIte, (show ¬ (k:Int) < l.length by omega)]
   have : k = l.length := by omega
   subst this
   rw [List.take_length] at b1 b2 b3 b4 ⊢
   repeat ((with_reducible refine And.intro ?_ ?_); (focus (first | omega | (simp only [lenR]; omega) | (refine qq ?_; rfl) | (refine dq ?_; kernel_rfl) | (intros; simp_all; done))))
   refine ifC.mk (fun h1 => ?_) (fun h1 => ?_)
   ·refine ⟨_, _, ret_d, ?_, rfl⟩
    rw [rangesF, if_pos hi, if_pos (by simpa using h1)]
   ·refine ⟨_, _, ret_d, ?_, rfl⟩
    rw [rangesF, if_pos hi, if_neg (by simpa using h1)]

def lastM (l : List NodeT) (i : Nat) : Key → Option AV
 | .i p => (lastSib l i p).map fun k => .d (.str (nm l k))
 | .s _ => none
theorem lastM0 (l : List NodeT) : (fun _ => none) = lastM l 0 := by funext k; cases k <;> rfl
theorem lastM_set (l : List NodeT) (i : Nat) : mset (lastM l i) (.i (par l i)) (.d (.str (nm l i))) = lastM l (i + 1) := by
 funext k
 cases k with
 | i m =>
  show (if Key.i m = Key.i (par l i) then _ else lastM l i (.i m)) = (lastSib l (i + 1) m).map _
  rw [lastSib]
  by_cases e : par l i = m
  ·rw [if_pos (by rw [e]), if_pos e]; rfl
  ·rw [if_neg (fun h => by cases h; exact e rfl), if_neg e]; rfl
 | s l => rfl
theorem lastM_still (l : List NodeT) (i : Nat) : ∀ k v, lastM l i k = some v → ∃ d, v = .d d := by
 intro k v h
 cases k with
 | i m =>
  simp only [lastM] at h
  cases hs : lastSib l i m with
  | none => rw [hs] at h; cases h
  | some j => rw [hs] at h; cases h; exact ⟨_, rfl⟩
 | s l => cases h
theorem lastM_ren (l : List NodeT) (i : Nat) (ρ : List Nat) (σ : Sto) : (fun k => (lastM l i k).map (renV ρ σ)) = lastM l i := map_still (fun d => by simp [renV, ren0]) (lastM_still l i)
theorem lastM_i (l : List NodeT) (i : Nat) (p : Int) : lastM l i (.i p) = (lastSib l i p).map fun k => .d (.str (nm l k)) := rfl
theorem orderE_bad {l : List NodeT} {k : Nat} (h : k < l.length) (hi : firstErr (orderE l) k = 0) {e : Int} (he : orderE l k = e) (h0 : e ≠ 0) : firstErr (orderE l) l.length = e := by
 subst he; exact firstErr_at hi h0 h
theorem y_some {α : Type} (x : α) : (some x).isSome = true := rfl
theorem opt_none {α β : Type} (f : α → β) : Option.map f none = none := rfl
theorem opt_some {α β : Type} (f : α → β) (x : α) : Option.map f (some x) = some (f x) := rfl
theorem getD_none {α : Type} (d : α) : (none : Option α).getD d = d := rfl
theorem getD_some {α : Type} (x d : α) : (some x).getD d = x := rfl
theorem k_order (l : List NodeT) (hl : l.length ≤ 2000) : Pure Tryz.prog Gl 55 [.d (.sl (l.map NodeT.toD))] (.d (.int .i64 (firstErr (orderE l) l.length))) := by
 refine Pure.of1 ?_
 refine acalls_of Tryz.func55 rfl rfl (by simp [Tryz.ntmps55]) (evC_sound rfl _ _ _ _ ?_)
 simp only [Tryz.ntmps55, Tryz.results55, argEnv, List.length_nil]
 simp only [zN, seval, Nat.reduceLeDiff, Nat.reduceEqDiff, reduceCtorEq, reduceIte]
 rw [lastM0 l]
 refine for_of l.length (fun k => [(0, .d (.sl (l.map NodeT.toD))), (3, .mapr 0), (10, .d (.sl (l.map NodeT.toD))), (11, .d (.int .i64 l.length)), (12, .d (.int .i64 k))]) (fun k => [.map (some .i64) (lastM l k)]) (fun k => firstErr (orderE l) k = 0) rfl ?_ ?_
 ·refine weak_to [] [0] rfl (by simp) ?_ ?_
  ·simp only [zN, seval, Nat.reduceLeDiff, Nat.reduceEqDiff, reduceCtorEq, reduceIte, Int.cast_ofNat_Int]
  ·show [renB [0] _ (.map _ _)] = _
   simp only [renB, lastM_ren]
 ·intro k hi hk
  by_cases h : k < l.length
  ·obtain ⟨x, hx⟩ : ∃ x, x = l.getD k default := ⟨_, rfl⟩
   have htree := tree_of hi
   have ep : par l k = x.parent := by rw [hx]; rfl
   have en : nm l k = x.name := by rw [hx]; rfl
   simp only [zN, seval, Nat.reduceLeDiff, Nat.reduceEqDiff, reduceCtorEq, reduceIte, (show (k:Int) < l.length by omega), h, a_getD _ _ _ (show k < l.length by omega), @a_wrap ((k:Int) - 1) (by omega)]
   rw [← hx]
   repeat ((with_reducible refine And.intro ?_ ?_); (focus (first | omega | (simp only [lenR]; omega) | (refine qq ?_; rfl) | (refine dq ?_; kernel_rfl) | (intros; simp_all; done))))
   refine loop_of (τ := Int) (fun a => [(0, .d (.sl (l.map NodeT.toD))), (3, .mapr 0), (4, .d (.int .i64 k)), (5, .ptr 1 0), (6, .d (.int .i64 a)), (10, .d (.sl (l.map NodeT.toD))), (11, .d (.int .i64 l.length)), (12, .d (.int .i64 k))]) (fun _ => [.map (some .i64) (lastM l k), .box 5 (.d x.toD)])
    (fun a => -1 ≤ a ∧ a < k ∧ upW l x.parent a = upW l x.parent ((k : Int) - 1)) (fun a => (a + 1).toNat) ((k : Int) - 1) ⟨by omega, by omega, rfl⟩ ?_ ?_
   ·refine weak_to [] [0, 1] rfl (by simp) ?_ ?_
    ·simp only [zN, seval, Nat.reduceLeDiff, Nat.reduceEqDiff, reduceCtorEq, reduceIte]
    ·show [renB [0, 1] _ (.map _ _), _] = _
     simp only [renB, lastM_ren]
     rfl
   ·intro a ⟨a1, a2, a3⟩
    simp only [zN, seval, Nat.reduceLeDiff, Nat.reduceEqDiff, reduceCtorEq, reduceIte]
    refine ifC.mk (fun h1 => ?_) (fun h1 => ?_)
    ·have h1 : 0 ≤ a ∧ a ≠ x.parent := by simpa using h1
     have ha : a.toNat < l.length := by omega
     have eu : upW l x.parent a = upW l x.parent (par l a.toNat) := by
      have := upW_step htree (p := x.parent) (i := a.toNat) (by omega) (by omega)
      rwa [show ((a.toNat : Nat) : Int) = a by omega] at this
     have tp := tree_par htree (i := a.toNat) (by omega)
     have eg : (l.getD a.toNat default).parent = par l a.toNat := rfl
     simp only [zN, seval, Nat.reduceLeDiff, Nat.reduceEqDiff, reduceCtorEq, reduceIte, a_getD _ _ _ (show a.toNat < l.length by omega), eg]
     repeat ((with_reducible refine And.intro ?_ ?_); (focus (first | omega | (simp only [lenR]; omega) | (refine qq ?_; rfl) | (refine dq ?_; kernel_rfl) | (intros; simp_all; done))))
     refine ⟨par l a.toNat, ⟨by omega, by omega, by rw [← eu, a3]⟩, by omega, ?_⟩
     refine weak_to [] [0, 1] rfl (by simp) ?_ ?_
     ·simp only [zN, seval, Nat.reduceLeDiff, Nat.reduceEqDiff, reduceCtorEq, reduceIte]
     ·show [renB [0, 1] _ (.map _ _), _] = _
      simp only [renB, lastM_ren]
      rfl
    have h1' : ¬ (0 ≤ a ∧ a ≠ x.parent) := by simpa using h1
    have hform : formOk l k = true ↔ x.parent = a := by
     simp only [formOk, Bool.or_eq_true, Bool.and_eq_true, decide_eq_true_eq, beq_iff_eq, ep]
     rw [← a3]
     constructor
     ·rintro (g | ⟨⟨g1, g2⟩, g3⟩)
      ·omega
      ·have := upW_nn _ (Nat.le_refl _) g3
       by_cases e : 0 ≤ a
       ·exact (Decidable.not_not.1 fun e2 => h1' ⟨e, fun e3 => e2 e3.symm⟩)
       ·rw [upW_neg (by omega)] at g3; cases g3
     ·rintro rfl
      by_cases e : 0 ≤ x.parent
      ·exact .inr ⟨⟨e, a2⟩, by
        have := upW_self (l := l) (i := x.parent.toNat)
        rwa [show ((x.parent.toNat : Nat) : Int) = x.parent by omega] at this⟩
      ·exact .inl (by omega)
    refine ifC.mk (fun h2 => ?_) (fun h2 => ?_)
    ·have h2 : x.parent ≠ a := by simpa using h2
     refine ⟨_, _, ret_d, ?_, rfl⟩
     rw [orderE_bad h hi (e := 10) (by rw [orderE, if_neg (fun g => h2 (hform.1 g))]) (by decide)]
    have h2 : x.parent = a := by simpa using h2
    have hform := hform.2 h2
    have hset : mset (lastM l k) (.i x.parent) (.d (.str x.name)) = lastM l (k + 1) := by rw [← ep, ← en]; exact lastM_set l k
    cases hs : lastSib l k x.parent with
    | none =>
     have ho : orderE l k = 0 := by rw [orderE, if_pos hform, ep, hs]
     simp only [zN, seval, Nat.reduceLeDiff, Nat.reduceEqDiff, reduceCtorEq, reduceIte, lastM_i, hs, opt_none, getD_none, y_isNone]
     rw [hset]
     refine ⟨firstErr_step hi ho, ?_⟩
     refine weak_to [] [0] rfl (by simp) ?_ ?_
     ·simp only [zN, seval, Nat.reduceLeDiff, Nat.reduceEqDiff, reduceCtorEq, reduceIte, @a_wrap ((k:Int) + 1) (by omega)]
     ·show [renB [0] _ (.map _ _)] = _
      simp only [renB, lastM_ren]
    | some j =>
     simp only [zN, seval, Nat.reduceLeDiff, Nat.reduceEqDiff, reduceCtorEq, reduceIte, lastM_i, hs, opt_some, getD_some, y_some]
     rw [hset]
     have hor : orderE l k = if Op.bytesLess (nm l j) x.name = true then 0 else 11 := by rw [orderE, if_pos hform, ep, hs, ← en]
     have hle : (Op.bytesLess x.name (nm l j) || x.name == nm l j) = !Op.bytesLess (nm l j) x.name := by
      rcases bl_cases x.name (nm l j) with ⟨q1, q2, q3⟩ | ⟨q1, q2, q3⟩ | ⟨q1, q2, q3⟩
      ·rw [q1, q3]; rfl
      ·rw [q2, bl_irr]; simp
      ·rw [q1, q3]; simp [q2]
     rw [hle] at *
     refine ifC.mk (fun h3 => ?_) (fun h3 => ?_)
     ·have h3 : Op.bytesLess (nm l j) x.name = false := by simpa using h3
      refine ⟨_, _, ret_d, ?_, rfl⟩
      rw [orderE_bad h hi (e := 11) (by rw [hor, h3]; rfl) (by decide)]
     ·have h3 : Op.bytesLess (nm l j) x.name = true := by simpa using h3
      have ho : orderE l k = 0 := by rw [hor, h3]; rfl
      refine ⟨firstErr_step hi ho, ?_⟩
      refine weak_to [] [0] rfl (by simp) ?_ ?_
      ·simp only [zN, seval, Nat.reduceLeDiff, Nat.reduceEqDiff, reduceCtorEq, reduceIte, @a_wrap ((k:Int) + 1) (by omega)]
      ·show [renB [0] _ (.map _ _)] = _
       simp only [renB, lastM_ren]
  ·simp only [zN, seval, Nat.reduceLeDiff, Nat.reduceEqDiff, reduceCtorEq, reduceIte, (show ¬ (k:Int) < l.length by omega)]
   have : k = l.length := by omega
   subst this
   refine ⟨_, _, ret_d, ?_, rfl⟩
   rw [hi]

theorem rg_get {α : Type} [Inhabited α] (f : Nat → α) {n i : Nat} (h : i < n) : ((List.range n).map f).getD i default = f i := by simp [h]
theorem rg_set {α : Type} (f : Nat → α) {n i : Nat} (v : α) : ((List.range n).map f).set i v = (List.range n).map fun k => if k = i then v else f k := by
 apply List.ext_getElem
 ·simp
 ·intro k h1 h2
  simp only [List.getElem_set, List.getElem_map, List.getElem_range]
  by_cases e : i = k
  ·subst e; simp
  ·rw [if_neg e, if_neg (Ne.symm e)]
theorem rg_congr {α : Type} {f g : Nat → α} {n : Nat} (h : ∀ k, k < n → f k = g k) : (List.range n).map f = (List.range n).map g := List.map_congr_left fun k hk => h k (by simpa using hk)
theorem rg_rep {α : Type} (x : α) (n : Nat) : List.replicate n x = (List.range n).map fun _ => x := by
 apply List.ext_getElem <;> simp
def totL (l : List NodeT) (j : Nat) : List D := (List.range l.length).map fun k => .int .i64 (totA l j k)
def leafL (l : List NodeT) (j : Nat) : List D := (List.range l.length).map fun k => .bool (decide (j ≤ k) && leafB l k)
theorem totL0 (l : List NodeT) : List.replicate l.length (.int .i64 0) = totL l l.length := by
 rw [rg_rep, totL]
 refine rg_congr fun k hk => ?_
 rw [totA, if_neg (by omega), psum_end]
 rfl
theorem leafL0 (l : List NodeT) : List.replicate l.length (.bool false) = leafL l l.length := by
 rw [rg_rep, leafL]
 refine rg_congr fun k hk => ?_
 rw [decide_eq_false (by omega)]; rfl
theorem mk_ints (m : Nat) (hm : m ≤ 100000) : mkOk Tryz.prog 76 (.d (.int .i64 (m : Int))) (.d (.int .i64 (m : Int))) := by
 refine (show _ ∧ _ ∧ _ ∧ (0 : Int) ≤ m ∧ (m : Int) ≤ m ∧ ((8 : Nat) : Int) * (m : Int) ≤ 281474976710656 ∧ (m : Int) ≤ _ from ⟨rfl, rfl, rfl, ?_, ?_, ?_, ?_⟩) <;> omega
theorem mk_bools (m : Nat) (hm : m ≤ 100000) : mkOk Tryz.prog 78 (.d (.int .i64 (m : Int))) (.d (.int .i64 (m : Int))) := by
 refine (show _ ∧ _ ∧ _ ∧ (0 : Int) ≤ m ∧ (m : Int) ≤ m ∧ ((1 : Nat) : Int) * (m : Int) ≤ 281474976710656 ∧ (m : Int) ≤ _ from ⟨rfl, rfl, rfl, ?_, ?_, ?_, ?_⟩) <;> omega
theorem mkS_ints (σ : Sto) (m : Nat) : mkS Tryz.prog σ 76 (.d (.int .i64 (m : Int))) = σ ++ [.arr 1 (List.replicate m (.int .i64 0))] := rfl
theorem mkS_bools (σ : Sto) (m : Nat) : mkS Tryz.prog σ 78 (.d (.int .i64 (m : Int))) = σ ++ [.arr 1 (List.replicate m (.bool false))] := rfl
theorem renV_undef (ρ : List Nat) (σ : Sto) : renV ρ σ .undef = .undef := rfl
theorem totL_len (l : List NodeT) (j : Nat) : (totL l j).length = l.length := by simp [totL]
theorem leafL_len (l : List NodeT) (j : Nat) : (leafL l j).length = l.length := by simp [leafL]
theorem totL_get (l : List NodeT) (j : Nat) {i : Nat} (h : i < l.length) : (totL l j).getD i default = .int .i64 (totA l j i) := rg_get _ h
theorem leafL_get (l : List NodeT) (j : Nat) {i : Nat} (h : i < l.length) : (leafL l j).getD i default = .bool (decide (j ≤ i) && leafB l i) := rg_get _ h
theorem leafL_set (l : List NodeT) (i : Nat) : (leafL l (i + 1)).set i (.bool (leafB l i)) = leafL l i := by
 rw [leafL, rg_set, leafL]
 refine rg_congr fun k hk => ?_
 by_cases e : k = i
 ·subst e; simp
 ·rw [if_neg e]
  have : decide (i + 1 ≤ k) = decide (i ≤ k) := by rw [decide_eq_decide]; omega
  rw [this]
def totM (l : List NodeT) (i : Nat) : List D := (List.range l.length).map fun k => .int .i64 (if k = i then totW l i else totA l (i + 1) k)
theorem totM_len (l : List NodeT) (j : Nat) : (totM l j).length = l.length := by simp [totM]
theorem totL_setM (l : List NodeT) (i : Nat) : (totL l (i + 1)).set i (.int .i64 (totW l i)) = totM l i := by
 rw [totL, rg_set, totM]
 refine rg_congr fun k hk => ?_
 by_cases e : k = i
 ·rw [if_pos e, if_pos e]
 ·rw [if_neg e, if_neg e]
theorem totM_get (l : List NodeT) (i : Nat) {k : Nat} (h : k < l.length) : (totM l i).getD k default = .int .i64 (if k = i then totW l i else totA l (i + 1) k) := rg_get _ h
theorem tot_self {l : List NodeT} (h : TreeUp l l.length) {i : Nat} (hi : i < l.length) : IntKind.i64.wrap (totA l (i + 1) i + sf l i) = totW l i := by
 rw [totA, if_neg (by omega), psum_full h, totW_eq h hi, ← W64_eq, W64_add, Int.add_comm]
theorem tot_step {l : List NodeT} {i : Nat} (hi : i < l.length) {k : Nat} (hk : k < i) : totA l i k = W64 ((if par l i = k then totW l i else 0) + psum l (i + 1) k) := by
 rw [totA, if_neg (by omega), psum_step hi]
theorem totM_none {l : List NodeT} {i : Nat} (hi : i < l.length) (hp : par l i < 0) : totM l i = totL l i := by
 refine rg_congr fun k hk => ?_
 congr 1
 rcases Nat.lt_trichotomy k i with h | h | h
 ·rw [if_neg (by omega), tot_step hi h, if_neg (by omega), Int.zero_add, totA, if_neg (by omega)]
 ·subst h; rw [if_pos rfl, totA, if_pos (Nat.le_refl _)]
 ·rw [if_neg (by omega), totA, totA, if_pos (by omega), if_pos (by omega)]
theorem totM_set {l : List NodeT} {i p : Nat} (hi : i < l.length) (hp : par l i = p) (hpi : p < i) : (totM l i).set p (.int .i64 (IntKind.i64.wrap (totA l (i + 1) p + totW l i))) = totL l i := by
 rw [totM, rg_set, totL]
 refine rg_congr fun k hk => ?_
 rcases Nat.lt_trichotomy k i with h | h | h
 ·rw [tot_step hi h]
  by_cases e : k = p
  ·subst e
   rw [if_pos rfl, if_pos hp, totA, if_neg (by omega), ← W64_eq, W64_add, Int.add_comm]
  ·rw [if_neg e, if_neg (by omega), if_neg (by omega), Int.zero_add, totA, if_neg (by omega)]
 ·subst h; rw [if_neg (by omega), if_pos rfl, totA, if_pos (Nat.le_refl _)]
 ·rw [if_neg (by omega), if_neg (by omega), totA, totA, if_pos (by omega), if_pos (by omega)]
theorem k_flameCheck (l : List NodeT) (hl0 : l.length < 1000000) : Pure Tryz.prog Gl 29 [.d (.sl (l.map NodeT.toD))] (.d (.int .i64 (checkF l))) := by
 refine Pure.of1 ?_
 refine acalls_of Tryz.func29 rfl rfl (by simp [Tryz.ntmps29]) (evC_sound rfl _ _ _ _ ?_)
 simp only [Tryz.ntmps29, Tryz.results29, argEnv, List.length_nil]
 simp only [zN, seval, Nat.reduceLeDiff, Nat.reduceEqDiff, reduceCtorEq, reduceIte]
 refine ifC.mk (fun h1 => ?_) (fun h1 => ?_)
 ·refine ⟨_, _, ret_d, ?_, rfl⟩
  rw [checkF, if_pos (by have := of_decide_eq_true h1; omega)]
 have hl : l.length ≤ 2000 := by
  have : ¬ (2000 < (l.length : Int)) := of_decide_eq_false h1
  omega
 have hF1 : checkF l = if rangesF l = 0 then (if firstErr (orderE l) l.length = 0 then (if (List.range l.length).any (totBad l) = true then 10 else 0) else firstErr (orderE l) l.length) else rangesF l := by
  rw [checkF, if_neg (by omega)]
 repeat ((with_reducible refine And.intro ?_ ?_); (focus (first | omega | (simp only [lenR]; omega) | (refine qq ?_; rfl) | (refine dq ?_; kernel_rfl) | (intros; simp_all; done))))
 refine callF_pure (k_ranges l hl) ?_
 simp only [zN, seval, Nat.reduceLeDiff, Nat.reduceEqDiff, reduceCtorEq, reduceIte]
 repeat ((with_reducible refine And.intro ?_ ?_); (focus (first | omega | (simp only [lenR]; omega) | (refine qq ?_; rfl) | (refine dq ?_; kernel_rfl) | (intros; simp_all; done))))
 refine ifC.mk (fun h2 => ?_) (fun h2 => ?_)
 ·have h2 : rangesF l ≠ 0 := by simpa using h2
  refine ⟨_, _, ret_d, ?_, rfl⟩
  rw [hF1, if_neg h2]
 have h2 : rangesF l = 0 := by simpa using h2
 rw [if_pos h2] at hF1
 repeat ((with_reducible refine And.intro ?_ ?_); (focus (first | omega | (simp only [lenR]; omega) | (refine qq ?_; rfl) | (refine dq ?_; kernel_rfl) | (intros; simp_all; done))))
 refine callF_pure (k_order l hl) ?_
 simp only [zN, seval, Nat.reduceLeDiff, Nat.reduceEqDiff, reduceCtorEq, reduceIte]
 repeat ((with_reducible refine And.intro ?_ ?_); (focus (first | omega | (simp only [lenR]; omega) | (refine qq ?_; rfl) | (refine dq ?_; kernel_rfl) | (intros; simp_all; done))))
 refine ifC.mk (fun h3 => ?_) (fun h3 => ?_)
 ·have h3 : firstErr (orderE l) l.length ≠ 0 := by simpa using h3
  refine ⟨_, _, ret_d, ?_, rfl⟩
  rw [hF1, if_neg h3]
 have h3 : firstErr (orderE l) l.length = 0 := by simpa using h3
 rw [if_pos h3] at hF1
 refine ⟨.inr (.inr (.inr (evFree_can
  (fun L => [(6, onV (L 5 && L 7) (.osl 1 0 l.length)), (5, onV (L 2 && L 6) (.osl 0 0 l.length)), (28, onV (L 5) (.osl 1 0 l.length)), (27, onV (L 4) (.d (.int .i64 l.length))), (26, onV (L 3) (.d (.sl (l.map NodeT.toD)))), (25, onV (L 2) (.osl 0 0 l.length)), (24, onV (L 1) (.d (.int .i64 l.length))), (23, onV (L 0) (.d (.sl (l.map NodeT.toD)))), (0, .d (.sl (l.map NodeT.toD)))])
  (fun L => [onB (L 2) (.arr 1 (List.replicate l.length (.int .i64 0))), onB (L 5) (.arr 1 (List.replicate l.length (.bool false)))]) (by kernel_rfl) ?_ ?_ ?_))), ?_⟩
 ·refine weak_to [] [0, 1] rfl (by simp) ?_ ?_
  ·rfl
  ·rfl
 ·simp only [stepsL]
  refine ⟨?_, ?_, ?_, ?_, ?_, ?_, ?_, ?_, trivial⟩
  ·(intro L hc hL hp; simp only [predsL, Region.binds, frB] at hp; (try simp only [Nat.zero_add, Nat.reduceAdd] at hL); simp only [zN, seval, Nat.reduceLeDiff, Nat.reduceEqDiff, reduceCtorEq, reduceIte, hL, hp, updB, frV])
   refine weak_to [] [0, 1] rfl (by simp) ?_ (by simp only [zN, seval, Nat.reduceLeDiff, Nat.reduceEqDiff, reduceCtorEq, reduceIte, renB_onB])
   simp only [zN, seval, Nat.reduceLeDiff, Nat.reduceEqDiff, reduceCtorEq, reduceIte, renV_onV, renB_onB, renV_undef, onV_f, onV_t]
  ·(intro L hc hL hp; simp only [predsL, Region.binds, frB] at hp; (try simp only [Nat.zero_add, Nat.reduceAdd] at hL); simp only [zN, seval, Nat.reduceLeDiff, Nat.reduceEqDiff, reduceCtorEq, reduceIte, hL, hp, updB, frV])
   refine weak_to [] [0, 1] rfl (by simp) ?_ (by simp only [zN, seval, Nat.reduceLeDiff, Nat.reduceEqDiff, reduceCtorEq, reduceIte, renB_onB])
   simp only [zN, seval, Nat.reduceLeDiff, Nat.reduceEqDiff, reduceCtorEq, reduceIte, renV_onV, renB_onB, renV_undef, onV_f, onV_t]
  ·intro L hc hL hp
   have h6 : L 6 = false := nope hL fun h => (hc 6 _ rfl h).1 rfl
   (simp only [predsL, Region.binds, frB] at hp; (try simp only [Nat.zero_add, Nat.reduceAdd] at hL); simp only [zN, seval, Nat.reduceLeDiff, Nat.reduceEqDiff, reduceCtorEq, reduceIte, hL, hp, updB, frV])
   simp only [zN, seval, Nat.reduceLeDiff, Nat.reduceEqDiff, reduceCtorEq, reduceIte, h6]
   rw [mkS_ints]
   refine ⟨mk_ints _ (by omega), ?_⟩
   refine weak_to [] [2, 1] rfl (by simp) ?_ ?_
   ·simp only [zN, seval, Nat.reduceLeDiff, Nat.reduceEqDiff, reduceCtorEq, reduceIte, renV_onV, renB_onB, renV_undef, onV_f, onV_t]
   ·simp only [zN, seval, Nat.reduceLeDiff, Nat.reduceEqDiff, reduceCtorEq, reduceIte, renV_onV, renB_onB, renV_undef, onV_f, onV_t]
  ·(intro L hc hL hp; simp only [predsL, Region.binds, frB] at hp; (try simp only [Nat.zero_add, Nat.reduceAdd] at hL); simp only [zN, seval, Nat.reduceLeDiff, Nat.reduceEqDiff, reduceCtorEq, reduceIte, hL, hp, updB, frV])
   refine weak_to [] [0, 1] rfl (by simp) ?_ (by simp only [zN, seval, Nat.reduceLeDiff, Nat.reduceEqDiff, reduceCtorEq, reduceIte, renB_onB])
   simp only [zN, seval, Nat.reduceLeDiff, Nat.reduceEqDiff, reduceCtorEq, reduceIte, renV_onV, renB_onB, renV_undef, onV_f, onV_t]
  ·(intro L hc hL hp; simp only [predsL, Region.binds, frB] at hp; (try simp only [Nat.zero_add, Nat.reduceAdd] at hL); simp only [zN, seval, Nat.reduceLeDiff, Nat.reduceEqDiff, reduceCtorEq, reduceIte, hL, hp, updB, frV])
   refine weak_to [] [0, 1] rfl (by simp) ?_ (by simp only [zN, seval, Nat.reduceLeDiff, Nat.reduceEqDiff, reduceCtorEq, reduceIte, renB_onB])
   simp only [zN, seval, Nat.reduceLeDiff, Nat.reduceEqDiff, reduceCtorEq, reduceIte, renV_onV, renB_onB, renV_undef, onV_f, onV_t]
  ·intro L hc hL hp
   have h7 : L 7 = false := nope hL fun h => (hc 7 _ rfl h).1 rfl
   (simp only [predsL, Region.binds, frB] at hp; (try simp only [Nat.zero_add, Nat.reduceAdd] at hL); simp only [zN, seval, Nat.reduceLeDiff, Nat.reduceEqDiff, reduceCtorEq, reduceIte, hL, hp, updB, frV])
   simp only [zN, seval, Nat.reduceLeDiff, Nat.reduceEqDiff, reduceCtorEq, reduceIte, h7]
   rw [mkS_bools]
   refine ⟨mk_bools _ (by omega), ?_⟩
   refine weak_to [] [0, 2] rfl (by simp) ?_ ?_
   ·simp only [zN, seval, Nat.reduceLeDiff, Nat.reduceEqDiff, reduceCtorEq, reduceIte, renV_onV, renB_onB, renV_undef, onV_f, onV_t]
   ·simp only [zN, seval, Nat.reduceLeDiff, Nat.reduceEqDiff, reduceCtorEq, reduceIte, renV_onV, renB_onB, renV_undef, onV_f, onV_t]
  ·(intro L hc hL hp; simp only [predsL, Region.binds, frB] at hp; (try simp only [Nat.zero_add, Nat.reduceAdd] at hL); simp only [zN, seval, Nat.reduceLeDiff, Nat.reduceEqDiff, reduceCtorEq, reduceIte, hL, hp, updB, frV])
   refine weak_to [] [0, 1] rfl (by simp) ?_ (by simp only [zN, seval, Nat.reduceLeDiff, Nat.reduceEqDiff, reduceCtorEq, reduceIte, renB_onB])
   simp only [zN, seval, Nat.reduceLeDiff, Nat.reduceEqDiff, reduceCtorEq, reduceIte, renV_onV, renB_onB, renV_undef, onV_f, onV_t]
  ·(intro L hc hL hp; simp only [predsL, Region.binds, frB] at hp; (try simp only [Nat.zero_add, Nat.reduceAdd] at hL); simp only [zN, seval, Nat.reduceLeDiff, Nat.reduceEqDiff, reduceCtorEq, reduceIte, hL, hp, updB, frV])
   refine weak_to [] [0, 1] rfl (by simp) ?_ (by simp only [zN, seval, Nat.reduceLeDiff, Nat.reduceEqDiff, reduceCtorEq, reduceIte, renB_onB])
   simp only [zN, seval, Nat.reduceLeDiff, Nat.reduceEqDiff, reduceCtorEq, reduceIte, renV_onV, renB_onB, renV_undef, onV_f, onV_t]
 ·simp only [zN, seval, Nat.reduceLeDiff, Nat.reduceEqDiff, reduceCtorEq, reduceIte, onV_t, onB_t, Bool.and_true]
  refine loop_of (τ := Nat) (fun j => [(0, .d (.sl (l.map NodeT.toD))), (5, .osl 0 0 l.length), (6, .osl 1 0 l.length), (7, .d (.int .i64 ((j : Int) - 1)))]) (fun j => [.arr 1 (totL l j), .arr 1 (leafL l j)]) (fun j => j ≤ l.length) (fun j => j) l.length (Nat.le_refl _) ?_ ?_
  ·rw [totL0, leafL0]
   refine weak_to [] [0, 1] rfl (by simp) ?_ rfl
   simp only [zN, seval, Nat.reduceLeDiff, Nat.reduceEqDiff, reduceCtorEq, reduceIte, @a_wrap ((l.length : Int) - 1) (by omega)]
  ·intro j hj
   cases j with
   | zero =>
    simp only [zN, seval, Nat.reduceLeDiff, Nat.reduceEqDiff, reduceCtorEq, reduceIte]
    refine for_of l.length (fun k => [(5, .osl 0 0 l.length), (6, .osl 1 0 l.length), (85, .d (.sl (l.map NodeT.toD))), (86, .d (.int .i64 l.length)), (87, .d (.int .i64 k))]) (fun _ => [.arr 1 (totL l 0), .arr 1 (leafL l 0)]) (fun k => (List.range k).any (totBad l) = false) rfl ?_ ?_
    ·refine weak_to [] [0, 1] rfl (by simp) ?_ rfl
     simp only [zN, seval, Nat.reduceLeDiff, Nat.reduceEqDiff, reduceCtorEq, reduceIte, Int.cast_ofNat_Int]
    ·intro k hi hk
     by_cases h : k < l.length
     ·obtain ⟨x, hx⟩ : ∃ x, x = l.getD k default := ⟨_, rfl⟩
      have hlf : (leafL l 0).getD k default = .bool (leafB l k) := by rw [leafL_get l 0 h]; simp
      have htl : (totL l 0).getD k default = .int .i64 (totW l k) := by rw [totL_get l 0 h, totA, if_pos (Nat.zero_le _)]
      have hbad : totBad l k = ((leafB l k && (x.count == 0)) || (x.total != totW l k)) := by rw [hx]; rfl
      have hstep : (List.range (k + 1)).any (totBad l) = totBad l k := by
       rw [List.range_succ, List.any_append, hi]; simp
      simp only [zN, seval, Nat.reduceLeDiff, Nat.reduceEqDiff, reduceCtorEq, reduceIte, (show (k:Int) < l.length by omega), h, a_getD _ _ _ (show k < l.length by omega)]
      rw [← hx]
      simp only [zN, seval, Nat.reduceLeDiff, Nat.reduceEqDiff, reduceCtorEq, reduceIte, totL_len, leafL_len, h, hlf, htl]
      repeat ((with_reducible refine And.intro ?_ ?_); (focus (first | omega | (simp only [lenR]; omega) | (refine qq ?_; rfl) | (refine dq ?_; kernel_rfl) | (intros; simp_all; done))))
      rw [← hbad]
      refine ifC.mk (fun hb => ?_) (fun hb => ?_)
      ·refine ⟨_, _, ret_d, ?_, rfl⟩
       rw [hF1, if_pos (List.any_eq_true.2 ⟨k, by simpa using h, hb⟩)]
      ·refine ⟨hstep.trans hb, ?_⟩
       refine weak_to [] [0, 1] rfl (by simp) ?_ rfl
       simp only [zN, seval, Nat.reduceLeDiff, Nat.reduceEqDiff, reduceCtorEq, reduceIte, @a_wrap ((k:Int) + 1) (by omega)]
     ·simp only [zN, seval, Nat.reduceLeDiff, Nat.reduceEqDiff, reduceCtorEq, reduceIte, (show ¬ (k:Int) < l.length by omega)]
      have : k = l.length := by omega
      subst this
      refine ⟨_, _, ret_d, ?_, rfl⟩
      rw [hF1, if_neg (by rw [hi]; simp)]
   | succ i =>
    have ei : (((i + 1 : Nat) : Int) - 1) = i := by omega
    rw [ei]
    have hil : i < l.length := hj
    obtain ⟨x, hx⟩ : ∃ x, x = l.getD i default := ⟨_, rfl⟩
    have htree := tree_of h3
    have es : sf l i = x.self := by rw [hx]; rfl
    have ep : par l i = x.parent := by rw [hx]; rfl
    have hself := tot_self htree hil
    rw [es] at hself
    simp only [zN, seval, Nat.reduceLeDiff, Nat.reduceEqDiff, reduceCtorEq, reduceIte, (show (0:Int) ≤ i by omega), totL_len, hil, totL_get l (i + 1) hil, a_getD _ _ _ (show i < l.length by omega), (show (i:Int) < l.length by omega)]
    rw [← hx]
    simp only [zN, seval, Nat.reduceLeDiff, Nat.reduceEqDiff, reduceCtorEq, reduceIte, hself, @a_wrap ((i:Int) + 1) (by omega), totL_setM]
    repeat ((with_reducible refine And.intro ?_ ?_); (focus (first | omega | (simp only [lenR]; omega) | (refine qq ?_; rfl) | (refine dq ?_; kernel_rfl) | (intros; simp_all; done))))
    by_cases hlast : i + 1 = l.length
    ·have hb : leafB l i = true := by simp [leafB, hlast]
     have hset : (leafL l (i + 1)).set i (.bool true) = leafL l i := by rw [← hb]; exact leafL_set l i
     simp only [zN, seval, Nat.reduceLeDiff, Nat.reduceEqDiff, reduceCtorEq, reduceIte, a_eq_t (show (i:Int) + 1 = l.length by omega), Bool.not_true]
     repeat ((with_reducible refine And.intro ?_ ?_); (focus (first | omega | (simp only [lenR]; omega) | (refine qq ?_; rfl) | (refine dq ?_; kernel_rfl) | (intros; simp_all; done))))
     simp only [zN, seval, Nat.reduceLeDiff, Nat.reduceEqDiff, reduceCtorEq, reduceIte, leafL_len, hil, hset]
     have tp := tree_par htree hil
     rw [ep] at tp
     refine ifC.mk (fun hq => ?_) (fun hq => ?_)
     ·have hq : 0 ≤ x.parent := of_decide_eq_true hq
      obtain ⟨p, hp⟩ : ∃ p : Nat, x.parent = p := ⟨x.parent.toNat, by omega⟩
      have hpi : p < i := by omega
      have hpl : p < l.length := by omega
      have hgp : (totM l i).getD p default = .int .i64 (totA l (i + 1) p) := by rw [totM_get l i hpl, if_neg (by omega)]
      have hgi : (totM l i).getD i default = .int .i64 (totW l i) := by rw [totM_get l i hil, if_pos rfl]
      have hset2 := totM_set hil (ep.trans hp) hpi
      rw [hp]
      simp only [zN, seval, Nat.reduceLeDiff, Nat.reduceEqDiff, reduceCtorEq, reduceIte, totM_len, hpl, hil, hgp, hgi, hset2, (show (p:Int) < l.length by omega), (show (i:Int) < l.length by omega)]
      repeat ((with_reducible refine And.intro ?_ ?_); (focus (first | omega | (simp only [lenR]; omega) | (refine qq ?_; rfl) | (refine dq ?_; kernel_rfl) | (intros; simp_all; done))))
      refine ⟨i, by omega, by omega, ?_⟩
      refine weak_to [] [0, 1] rfl (by simp) ?_ rfl
      simp only [zN, seval, Nat.reduceLeDiff, Nat.reduceEqDiff, reduceCtorEq, reduceIte, @a_wrap ((i:Int) - 1) (by omega)]
     ·have hq : ¬ 0 ≤ x.parent := of_decide_eq_false hq
      rw [totM_none hil (by rw [ep]; omega)]
      refine ⟨i, by omega, by omega, ?_⟩
      refine weak_to [] [0, 1] rfl (by simp) ?_ rfl
      simp only [zN, seval, Nat.reduceLeDiff, Nat.reduceEqDiff, reduceCtorEq, reduceIte, @a_wrap ((i:Int) - 1) (by omega)]
    ·obtain ⟨y, hy⟩ : ∃ y, y = l.getD (i + 1) default := ⟨_, rfl⟩
     have hy2 : par l (i + 1) = y.parent := by rw [hy]; rfl
     have hb : leafB l i = (y.parent != (i : Int)) := by
      simp only [leafB, hlast, decide_false, Bool.false_or, hy2]; rfl
     have hset : (leafL l (i + 1)).set i (.bool (y.parent != (i : Int))) = leafL l i := by rw [← hb]; exact leafL_set l i
     have en : ((i : Int) + 1).toNat = i + 1 := by omega
     have eg : (l.map NodeT.toD).getD (i + 1) default = y.toD := by rw [a_getD _ _ _ (by omega), ← hy]
     simp only [zN, seval, Nat.reduceLeDiff, Nat.reduceEqDiff, reduceCtorEq, reduceIte, a_eq_f (show ¬ ((i:Int) + 1 = l.length) by omega), Bool.not_false, en, eg]
     repeat ((with_reducible refine And.intro ?_ ?_); (focus (first | omega | (simp only [lenR]; omega) | (refine qq ?_; rfl) | (refine dq ?_; kernel_rfl) | (intros; simp_all; done))))
     simp only [zN, seval, Nat.reduceLeDiff, Nat.reduceEqDiff, reduceCtorEq, reduceIte, leafL_len, hil, hset]
     have tp := tree_par htree hil
     rw [ep] at tp
     refine ifC.mk (fun hq => ?_) (fun hq => ?_)
     ·have hq : 0 ≤ x.parent := of_decide_eq_true hq
      obtain ⟨p, hp⟩ : ∃ p : Nat, x.parent = p := ⟨x.parent.toNat, by omega⟩
      have hpi : p < i := by omega
      have hpl : p < l.length := by omega
      have hgp : (totM l i).getD p default = .int .i64 (totA l (i + 1) p) := by rw [totM_get l i hpl, if_neg (by omega)]
      have hgi : (totM l i).getD i default = .int .i64 (totW l i) := by rw [totM_get l i hil, if_pos rfl]
      have hset2 := totM_set hil (ep.trans hp) hpi
      rw [hp]
      simp only [zN, seval, Nat.reduceLeDiff, Nat.reduceEqDiff, reduceCtorEq, reduceIte, totM_len, hpl, hil, hgp, hgi, hset2, (show (p:Int) < l.length by omega), (show (i:Int) < l.length by omega)]
      repeat ((with_reducible refine And.intro ?_ ?_); (focus (first | omega | (simp only [lenR]; omega) | (refine qq ?_; rfl) | (refine dq ?_; kernel_rfl) | (intros; simp_all; done))))
      refine ⟨i, by omega, by omega, ?_⟩
      refine weak_to [] [0, 1] rfl (by simp) ?_ rfl
      simp only [zN, seval, Nat.reduceLeDiff, Nat.reduceEqDiff, reduceCtorEq, reduceIte, @a_wrap ((i:Int) - 1) (by omega)]
     ·have hq : ¬ 0 ≤ x.parent := of_decide_eq_false hq
      rw [totM_none hil (by rw [ep]; omega)]
      refine ⟨i, by omega, by omega, ?_⟩
      refine weak_to [] [0, 1] rfl (by simp) ?_ rfl
      simp only [zN, seval, Nat.reduceLeDiff, Nat.reduceEqDiff, reduceCtorEq, reduceIte, @a_wrap ((i:Int) - 1) (by omega)]
 ·simp only [zN, seval, Nat.reduceLeDiff, Nat.reduceEqDiff, reduceCtorEq, reduceIte, mkS_ints, mkS_bools]
  refine ⟨mk_ints _ (by omega), mk_bools _ (by omega), ?_⟩
  refine loop_of (τ := Nat) (fun j => [(0, .d (.sl (l.map NodeT.toD))), (5, .osl 0 0 l.length), (6, .osl 1 0 l.length), (7, .d (.int .i64 ((j : Int) - 1)))]) (fun j => [.arr 1 (totL l j), .arr 1 (leafL l j)]) (fun j => j ≤ l.length) (fun j => j) l.length (Nat.le_refl _) ?_ ?_
  ·rw [totL0, leafL0]
   refine weak_to [] [0, 1] rfl (by simp) ?_ rfl
   simp only [zN, seval, Nat.reduceLeDiff, Nat.reduceEqDiff, reduceCtorEq, reduceIte, @a_wrap ((l.length : Int) - 1) (by omega)]
  ·intro j hj
   cases j with
   | zero =>
    simp only [zN, seval, Nat.reduceLeDiff, Nat.reduceEqDiff, reduceCtorEq, reduceIte]
    refine for_of l.length (fun k => [(5, .osl 0 0 l.length), (6, .osl 1 0 l.length), (85, .d (.sl (l.map NodeT.toD))), (86, .d (.int .i64 l.length)), (87, .d (.int .i64 k))]) (fun _ => [.arr 1 (totL l 0), .arr 1 (leafL l 0)]) (fun k => (List.range k).any (totBad l) = false) rfl ?_ ?_
    ·refine weak_to [] [0, 1] rfl (by simp) ?_ rfl
     simp only [zN, seval, Nat.reduceLeDiff, Nat.reduceEqDiff, reduceCtorEq, reduceIte, Int.cast_ofNat_Int]
    ·intro k hi hk
     by_cases h : k < l.length
     ·obtain ⟨x, hx⟩ : ∃ x, x = l.getD k default := ⟨_, rfl⟩
      have hlf : (leafL l 0).getD k default = .bool (leafB l k) := by rw [leafL_get l 0 h]; simp
      have htl : (totL l 0).getD k default = .int .i64 (totW l k) := by rw [totL_get l 0 h, totA, if_pos (Nat.zero_le _)]
      have hbad : totBad l k = ((leafB l k && (x.count == 0)) || (x.total != totW l k)) := by rw [hx]; rfl
      have hstep : (List.range (k + 1)).any (totBad l) = totBad l k := by
       rw [List.range_succ, List.any_append, hi]; simp
      simp only [zN, seval, Nat.reduceLeDiff, Nat.reduceEqDiff, reduceCtorEq, reduceIte, (show (k:Int) < l.length by omega), h, a_getD _ _ _ (show k < l.length by omega)]
      rw [← hx]
      simp only [zN, seval, Nat.reduceLeDiff, Nat.reduceEqDiff, reduceCtorEq, reduceIte, totL_len, leafL_len, h, hlf, htl]
      repeat ((with_reducible refine And.intro ?_ ?_); (focus (first | omega | (simp only [lenR]; omega) | (refine qq ?_; rfl) | (refine dq ?_; kernel_rfl) | (intros; simp_all; done))))
      rw [← hbad]
      refine ifC.mk (fun hb => ?_) (fun hb => ?_)
      ·refine ⟨_, _, ret_d, ?_, rfl⟩
       rw [hF1, if_pos (List.any_eq_true.2 ⟨k, by simpa using h, hb⟩)]
      ·refine ⟨hstep.trans hb, ?_⟩
       refine weak_to [] [0, 1] rfl (by simp) ?_ rfl
       simp only [zN, seval, Nat.reduceLeDiff, Nat.reduceEqDiff, reduceCtorEq, reduceIte, @a_wrap ((k:Int) + 1) (by omega)]
     ·simp only [zN, seval, Nat.reduceLeDiff, Nat.reduceEqDiff, reduceCtorEq, reduceIte, (show ¬ (k:Int) < l.length by omega)]
      have : k = l.length := by omega
      subst this
      refine ⟨_, _, ret_d, ?_, rfl⟩
      rw [hF1, if_neg (by rw [hi]; simp)]
   | succ i =>
    have ei : (((i + 1 : Nat) : Int) - 1) = i := by omega
    rw [ei]
    have hil : i < l.length := hj
    obtain ⟨x, hx⟩ : ∃ x, x = l.getD i default := ⟨_, rfl⟩
    have htree := tree_of h3
    have es : sf l i = x.self := by rw [hx]; rfl
    have ep : par l i = x.parent := by rw [hx]; rfl
    have hself := tot_self htree hil
    rw [es] at hself
    simp only [zN, seval, Nat.reduceLeDiff, Nat.reduceEqDiff, reduceCtorEq, reduceIte, (show (0:Int) ≤ i by omega), totL_len, hil, totL_get l (i + 1) hil, a_getD _ _ _ (show i < l.length by omega), (show (i:Int) < l.length by omega)]
    rw [← hx]
    simp only [zN, seval, Nat.reduceLeDiff, Nat.reduceEqDiff, reduceCtorEq, reduceIte, hself, @a_wrap ((i:Int) + 1) (by omega), totL_setM]
    repeat ((with_reducible refine And.intro ?_ ?_); (focus (first | omega | (simp only [lenR]; omega) | (refine qq ?_; rfl) | (refine dq ?_; kernel_rfl) | (intros; simp_all; done))))
    by_cases hlast : i + 1 = l.length
    ·have hb : leafB l i = true := by simp [leafB, hlast]
     have hset : (leafL l (i + 1)).set i (.bool true) = leafL l i := by rw [← hb]; exact leafL_set l i
     simp only [zN, seval, Nat.reduceLeDiff, Nat.reduceEqDiff, reduceCtorEq, reduceIte, a_eq_t (show (i:Int) + 1 = l.length by omega), Bool.not_true]
     repeat ((with_reducible refine And.intro ?_ ?_); (focus (first | omega | (simp only [lenR]; omega) | (refine qq ?_; rfl) | (refine dq ?_; kernel_rfl) | (intros; simp_all; done))))
     simp only [zN, seval, Nat.reduceLeDiff, Nat.reduceEqDiff, reduceCtorEq, reduceIte, leafL_len, hil, hset]
     have tp := tree_par htree hil
     rw [ep] at tp
     refine ifC.mk (fun hq => ?_) (fun hq => ?_)
     ·have hq : 0 ≤ x.parent := of_decide_eq_true hq
      obtain ⟨p, hp⟩ : ∃ p : Nat, x.parent = p := ⟨x.parent.toNat, by omega⟩
      have hpi : p < i := by omega
      have hpl : p < l.length := by omega
      have hgp : (totM l i).getD p default = .int .i64 (totA l (i + 1) p) := by rw [totM_get l i hpl, if_neg (by omega)]
      have hgi : (totM l i).getD i default = .int .i64 (totW l i) := by rw [totM_get l i hil, if_pos rfl]
      have hset2 := totM_set hil (ep.trans hp) hpi
      rw [hp]
      simp only [zN, seval, Nat.reduceLeDiff, Nat.reduceEqDiff, reduceCtorEq, reduceIte, totM_len, hpl, hil, hgp, hgi, hset2, (show (p:Int) < l.length by omega), (show (i:Int) < l.length by omega)]
      repeat ((with_reducible refine And.intro ?_ ?_); (focus (first | omega | (simp only [lenR]; omega) | (refine qq ?_; rfl) | (refine dq ?_; kernel_rfl) | (intros; simp_all; done))))
      refine ⟨i, by omega, by omega, ?_⟩
      refine weak_to [] [0, 1] rfl (by simp) ?_ rfl
      simp only [zN, seval, Nat.reduceLeDiff, Nat.reduceEqDiff, reduceCtorEq, reduceIte, @a_wrap ((i:Int) - 1) (by omega)]
     ·have hq : ¬ 0 ≤ x.parent := of_decide_eq_false hq
      rw [totM_none hil (by rw [ep]; omega)]
      refine ⟨i, by omega, by omega, ?_⟩
      refine weak_to [] [0, 1] rfl (by simp) ?_ rfl
      simp only [zN, seval, Nat.reduceLeDiff, Nat.reduceEqDiff, reduceCtorEq, reduceIte, @a_wrap ((i:Int) - 1) (by omega)]
    ·obtain ⟨y, hy⟩ : ∃ y, y = l.getD (i + 1) default := ⟨_, rfl⟩
     have hy2 : par l (i + 1) = y.parent := by rw [hy]; rfl
     have hb : leafB l i = (y.parent != (i : Int)) := by
      simp only [leafB, hlast, decide_false, Bool.false_or, hy2]; rfl
     have hset : (leafL l (i + 1)).set i (.bool (y.parent != (i : Int))) = leafL l i := by rw [← hb]; exact leafL_set l i
     have en : ((i : Int) + 1).toNat = i + 1 := by omega
     have eg : (l.map NodeT.toD).getD (i + 1) default = y.toD := by rw [a_getD _ _ _ (by omega), ← hy]
     simp only [zN, seval, Nat.reduceLeDiff, Nat.reduceEqDiff, reduceCtorEq, reduceIte, a_eq_f (show ¬ ((i:Int) + 1 = l.length) by omega), Bool.not_false, en, eg]
     repeat ((with_reducible refine And.intro ?_ ?_); (focus (first | omega | (simp only [lenR]; omega) | (refine qq ?_; rfl) | (refine dq ?_; kernel_rfl) | (intros; simp_all; done))))
     simp only [zN, seval, Nat.reduceLeDiff, Nat.reduceEqDiff, reduceCtorEq, reduceIte, leafL_len, hil, hset]
     have tp := tree_par htree hil
     rw [ep] at tp
     refine ifC.mk (fun hq => ?_) (fun hq => ?_)
     ·have hq : 0 ≤ x.parent := of_decide_eq_true hq
      obtain ⟨p, hp⟩ : ∃ p : Nat, x.parent = p := ⟨x.parent.toNat, by omega⟩
      have hpi : p < i := by omega
      have hpl : p < l.length := by omega
      have hgp : (totM l i).getD p default = .int .i64 (totA l (i + 1) p) := by rw [totM_get l i hpl, if_neg (by omega)]
      have hgi : (totM l i).getD i default = .int .i64 (totW l i) := by rw [totM_get l i hil, if_pos rfl]
      have hset2 := totM_set hil (ep.trans hp) hpi
      rw [hp]
      simp only [zN, seval, Nat.reduceLeDiff, Nat.reduceEqDiff, reduceCtorEq, reduceIte, totM_len, hpl, hil, hgp, hgi, hset2, (show (p:Int) < l.length by omega), (show (i:Int) < l.length by omega)]
      repeat ((with_reducible refine And.intro ?_ ?_); (focus (first | omega | (simp only [lenR]; omega) | (refine qq ?_; rfl) | (refine dq ?_; kernel_rfl) | (intros; simp_all; done))))
      refine ⟨i, by omega, by omega, ?_⟩
      refine weak_to [] [0, 1] rfl (by simp) ?_ rfl
      simp only [zN, seval, Nat.reduceLeDiff, Nat.reduceEqDiff, reduceCtorEq, reduceIte, @a_wrap ((i:Int) - 1) (by omega)]
     ·have hq : ¬ 0 ≤ x.parent := of_decide_eq_false hq
      rw [totM_none hil (by rw [ep]; omega)]
      refine ⟨i, by omega, by omega, ?_⟩
      refine weak_to [] [0, 1] rfl (by simp) ?_ rfl
      simp only [zN, seval, Nat.reduceLeDiff, Nat.reduceEqDiff, reduceCtorEq, reduceIte, @a_wrap ((i:Int) - 1) (by omega)]

theorem k_Rranges (l : List NodeT) (hl : l.length ≤ 2000) : Pure Tryz.prog Gl 56 [.d (.sl (l.map NodeT.toD))] (.d (.int .i64 (rangesF l))) := by
 refine Pure.of1 ?_
 refine acalls_of Tryz.func56 rfl rfl (by simp [Tryz.ntmps56]) (evC_sound rfl _ _ _ _ ?_)
 simp only [Tryz.ntmps56, Tryz.results56, argEnv, List.length_nil]
 simp only [zN, seval, Nat.reduceLeDiff, Nat.reduceEqDiff, reduceCtorEq, reduceIte]
 refine for_of l.length (fun k => [(0, .d (.sl (l.map NodeT.toD))), (3, .d (.int .i64 (selfS (l.take k)))), (4, .d (.int .i64 (countS (l.take k)))), (5, .d (.int .i64 k))]) (fun _ => []) (fun k => firstErr (fun k => nodeE (l.getD k default)) k = 0) rfl ?_ ?_
 ·refine weak_to [] [] rfl List.nodup_nil ?_ rfl
  simp only [zN, seval, Nat.reduceLeDiff, Nat.reduceEqDiff, reduceCtorEq, reduceIte, Int.cast_ofNat_Int]
  rfl
 ·intro k hi hk
  obtain ⟨b1, b2, b3, b4⟩ := sums_take hk hi
  by_cases h : k < l.length
  ·obtain ⟨x, hx⟩ : ∃ x, x = l.getD k default := ⟨_, rfl⟩
   have hs1 := selfS_step l h
   have hs2 := countS_step l h
   rw [← hx] at hs1 hs2
   simp only [zN, seval, Nat.reduceLeDiff, Nat.reduceEqDiff, reduceCtorEq, reduceIte, (show (k:Int) < l.length by omega), h, a_getD _ _ _ (show k < l.length by omega)]
   rw [← hx]
   repeat ((with_reducible refine And.intro ?_ ?_); (focus (first | omega | (simp only [lenR]; omega) | (refine qq ?_; rfl) | (refine dq ?_; kernel_rfl) | (intros; simp_all; done))))
   refine callF_pure (k_RName _) ?_
   simp only [zN, seval, Nat.reduceLeDiff, Nat.reduceEqDiff, reduceCtorEq, reduceIte]
   repeat ((with_reducible refine And.intro ?_ ?_); (focus (first | omega | (simp only [lenR]; omega) | (refine qq ?_; rfl) | (refine dq ?_; kernel_rfl) | (intros; simp_all; done))))
   refine ifC.mk (fun h1 => ?_) (fun h1 => ?_)
   ·have h1 : nameF x.name ≠ 0 := by simpa using h1
    refine ⟨_, _, ret_d, ?_, rfl⟩
    rw [rangesF_bad h hi (e := nameF x.name) (by rw [← hx, nodeE, if_neg h1]) h1]
   have h1 : nameF x.name = 0 := by simpa using h1
   repeat ((with_reducible refine And.intro ?_ ?_); (focus (first | omega | (simp only [lenR]; omega) | (refine qq ?_; rfl) | (refine dq ?_; kernel_rfl) | (intros; simp_all; done))))
   refine ifC.mk (fun h2 => ?_) (fun h2 => ?_)
   ·refine ⟨_, _, ret_d, ?_, rfl⟩
    rw [rangesF_bad h hi (e := 2) (by
     rw [← hx, nodeE, if_pos h1, if_pos]
     simp only [Bool.or_eq_true, Bool.and_eq_true, decide_eq_true_eq, beq_iff_eq, bne_iff_ne] at h2
     omega) (by decide)]
   ·have h2' : ¬ (x.self < 0 ∨ x.self > 100000000000000 ∨ x.count < 0 ∨ x.count > 20000 ∨ (x.count = 0 ∧ x.self ≠ 0)) := fun g => by
     simp only [Bool.or_eq_false_iff, Bool.and_eq_false_iff, decide_eq_false_iff_not, beq_eq_false_iff_ne, bne_eq_false_iff_eq] at h2
     omega
    repeat ((with_reducible refine And.intro ?_ ?_); (focus (first | omega | (simp only [lenR]; omega) | (refine qq ?_; rfl) | (refine dq ?_; kernel_rfl) | (intros; simp_all; done))))
    have hb : nodeE x = 0 := by rw [nodeE, if_pos h1, if_neg h2']
    refine ⟨firstErr_step hi (by rw [← hx]; exact hb), ?_⟩
    rw [hs1, hs2]
    refine weak_to [] [] rfl List.nodup_nil ?_ rfl
    simp only [zN, seval, Nat.reduceLeDiff, Nat.reduceEqDiff, reduceCtorEq, reduceIte, @a_wrap ((k:Int) + 1) (by omega), @a_wrap (selfS (l.take k) + x.self) (by omega), @a_wrap (countS (l.take k) + x.count) (by omega)]
  ·simp only [zN, seval, Nat.reduceLeDiff, Nat.reduceEqDiff, reduceCtorEq, reduceIte, (show ¬ (k:Int) < l.length by omega)]
   have : k = l.length := by omega
   subst this
   rw [List.take_length] at b1 b2 b3 b4 ⊢
   repeat ((with_reducible refine And.intro ?_ ?_); (focus (first | omega | (simp only [lenR]; omega) | (refine qq ?_; rfl) | (refine dq ?_; kernel_rfl) | (intros; simp_all; done))))
   refine ifC.mk (fun h1 => ?_) (fun h1 => ?_)
   ·refine ⟨_, _, ret_d, ?_, rfl⟩
    rw [rangesF, if_pos hi, if_pos (by simpa using h1)]
   ·refine ⟨_, _, ret_d, ?_, rfl⟩
    rw [rangesF, if_pos hi, if_neg (by simpa using h1)]
theorem k_above (l : List NodeT) {n : Nat} (hn : n ≤ l.length) (ht : TreeUp l n) (p : Int) (hp : 0 ≤ p) (i : Int) (h0 : -1 ≤ i) (hi : i < n) : Pure Tryz.prog Gl 91 [.d (.sl (l.map NodeT.toD)), .d (.int .i64 p), .d (.int .i64 i)] (.d (.bool (upW l p i))) := by
 refine Pure.of3 ?_
 refine acalls_of Tryz.func91 rfl rfl (by simp [Tryz.ntmps91]) (evC_sound rfl _ _ _ _ ?_)
 simp only [Tryz.ntmps91, Tryz.results91, argEnv, List.length_nil]
 simp only [zN, seval, Nat.reduceLeDiff, Nat.reduceEqDiff, reduceCtorEq, reduceIte]
 refine loop_of (τ := Int) (fun a => [(0, .d (.sl (l.map NodeT.toD))), (1, .d (.int .i64 p)), (2, .d (.int .i64 a))]) (fun _ => [])
  (fun a => -1 ≤ a ∧ a < n ∧ upW l p a = upW l p i) (fun a => (a + 1).toNat) i ⟨h0, hi, rfl⟩ ?_ ?_
 ·refine weak_to [] [] rfl List.nodup_nil ?_ rfl
  simp only [zN, seval, Nat.reduceLeDiff, Nat.reduceEqDiff, reduceCtorEq, reduceIte]
 ·intro a ⟨a1, a2, a3⟩
  simp only [zN, seval, Nat.reduceLeDiff, Nat.reduceEqDiff, reduceCtorEq, reduceIte]
  refine ifC.mk (fun h1 => ?_) (fun h1 => ?_)
  ·have h1 : 0 ≤ a ∧ a ≠ p := by simpa using h1
   have ha : a.toNat < l.length := by omega
   have eu : upW l p a = upW l p (par l a.toNat) := by
    have := upW_step ht (p := p) (i := a.toNat) (by omega) (by omega)
    rwa [show ((a.toNat : Nat) : Int) = a by omega] at this
   have tp := tree_par ht (i := a.toNat) (by omega)
   have eg : (l.getD a.toNat default).parent = par l a.toNat := rfl
   simp only [zN, seval, Nat.reduceLeDiff, Nat.reduceEqDiff, reduceCtorEq, reduceIte, a_getD _ _ _ (show a.toNat < l.length by omega), eg]
   repeat ((with_reducible refine And.intro ?_ ?_); (focus (first | omega | (simp only [lenR]; omega) | (refine qq ?_; rfl) | (refine dq ?_; kernel_rfl) | (intros; simp_all; done))))
   refine ⟨par l a.toNat, ⟨by omega, by omega, by rw [← eu, a3]⟩, by omega, ?_⟩
   refine weak_to [] [] rfl List.nodup_nil ?_ rfl
   simp only [zN, seval, Nat.reduceLeDiff, Nat.reduceEqDiff, reduceCtorEq, reduceIte]
  ·have h1' : ¬ (0 ≤ a ∧ a ≠ p) := by simpa using h1
   refine ⟨_, _, ret_d, ?_, rfl⟩
   rw [← a3]
   by_cases e : a = p
   ·subst e
    have := upW_self (l := l) (i := a.toNat)
    rw [show ((a.toNat : Nat) : Int) = a by omega] at this
    rw [this]; simp
   ·rw [upW_neg (by omega)]; simp [e]
theorem k_forms (l : List NodeT) (hl : l.length ≤ 2000) : Pure Tryz.prog Gl 57 [.d (.sl (l.map NodeT.toD))] (.d (.int .i64 (firstErr (orderE l) l.length))) := by
 refine Pure.of1 ?_
 refine acalls_of Tryz.func57 rfl rfl (by simp [Tryz.ntmps57]) (evC_sound rfl _ _ _ _ ?_)
 simp only [Tryz.ntmps57, Tryz.results57, argEnv, List.length_nil]
 simp only [zN, seval, Nat.reduceLeDiff, Nat.reduceEqDiff, reduceCtorEq, reduceIte]
 refine for_of l.length (fun k => [(0, .d (.sl (l.map NodeT.toD))), (3, .d (.int .i64 k))]) (fun _ => []) (fun k => firstErr (orderE l) k = 0) rfl ?_ ?_
 ·refine weak_to [] [] rfl List.nodup_nil ?_ rfl
  simp only [zN, seval, Nat.reduceLeDiff, Nat.reduceEqDiff, reduceCtorEq, reduceIte, Int.cast_ofNat_Int]
 ·intro k hi hk
  by_cases h : k < l.length
  ·obtain ⟨x, hx⟩ : ∃ x, x = l.getD k default := ⟨_, rfl⟩
   have htree := tree_of hi
   have ep : par l k = x.parent := by rw [hx]; rfl
   have en : nm l k = x.name := by rw [hx]; rfl
   simp only [zN, seval, Nat.reduceLeDiff, Nat.reduceEqDiff, reduceCtorEq, reduceIte, (show (k:Int) < l.length by omega), h, a_getD _ _ _ (show k < l.length by omega), @a_wrap ((k:Int) - 1) (by omega)]
   rw [← hx]
   repeat ((with_reducible refine And.intro ?_ ?_); (focus (first | omega | (simp only [lenR]; omega) | (refine qq ?_; rfl) | (refine dq ?_; kernel_rfl) | (intros; simp_all; done))))
   refine callG_pure (fun hg => k_above l hk htree x.parent (by simp at hg; omega) ((k : Int) - 1) (by omega) (by omega)) ?_
   simp only [zN, seval, Nat.reduceLeDiff, Nat.reduceEqDiff, reduceCtorEq, reduceIte]
   repeat ((with_reducible refine And.intro ?_ ?_); (focus (first | omega | (simp only [lenR]; omega) | (refine qq ?_; rfl) | (refine dq ?_; kernel_rfl) | (intros; simp_all; done))))
   have hform : formOk l k = !(decide (x.parent < -1) || decide ((k : Int) ≤ x.parent) || decide (0 ≤ x.parent) && !upW l x.parent ((k : Int) - 1)) := by
    rw [formOk, ep, Bool.eq_iff_iff]
    simp only [Bool.or_eq_true, Bool.and_eq_true, decide_eq_true_eq, beq_iff_eq, Bool.not_eq_true', Bool.or_eq_false_iff, Bool.and_eq_false_iff, decide_eq_false_iff_not, Bool.not_eq_false']
    constructor
    ·rintro (g | ⟨⟨g1, g2⟩, g3⟩)
     ·exact ⟨⟨by omega, by omega⟩, .inl (by omega)⟩
     ·exact ⟨⟨by omega, by omega⟩, .inr g3⟩
    ·rintro ⟨⟨g1, g2⟩, g3⟩
     by_cases e : 0 ≤ x.parent
     ·exact .inr ⟨⟨e, by omega⟩, g3.resolve_left (by simpa using e)⟩
     ·exact .inl (by omega)
   refine ifC.mk (fun h1 => ?_) (fun h1 => ?_)
   ·refine ⟨_, _, ret_d, ?_, rfl⟩
    rw [orderE_bad h hi (e := 10) (by rw [orderE, if_neg (by rw [hform, h1]; simp)]) (by decide)]
   rw [h1] at hform
   have hform : formOk l k = true := hform
   simp only [zN, seval, Nat.reduceLeDiff, Nat.reduceEqDiff, reduceCtorEq, reduceIte, @a_wrap ((k:Int) - 1) (by omega)]
   refine loop_of (τ := Nat) (fun m => [(0, .d (.sl (l.map NodeT.toD))), (3, .d (.int .i64 k)), (4, .d (.int .i64 x.parent)), (5, .d (.int .i64 ((m : Int) - 1)))]) (fun _ => []) (fun m => m ≤ k ∧ lastSib l k x.parent = lastSib l m x.parent) (fun m => m) k ⟨Nat.le_refl _, rfl⟩ ?_ ?_
   ·refine weak_to [] [] rfl List.nodup_nil ?_ rfl
    simp only [zN, seval, Nat.reduceLeDiff, Nat.reduceEqDiff, reduceCtorEq, reduceIte]
   ·intro m ⟨m1, m2⟩
    cases m with
    | zero =>
     have hs : lastSib l k x.parent = none := m2
     have ho : orderE l k = 0 := by rw [orderE, if_pos hform, ep, hs]
     simp only [zN, seval, Nat.reduceLeDiff, Nat.reduceEqDiff, reduceCtorEq, reduceIte]
     repeat ((with_reducible refine And.intro ?_ ?_); (focus (first | omega | (simp only [lenR]; omega) | (refine qq ?_; rfl) | (refine dq ?_; kernel_rfl) | (intros; simp_all; done))))
     refine ⟨firstErr_step hi ho, ?_⟩
     refine weak_to [] [] rfl List.nodup_nil ?_ rfl
     simp only [zN, seval, Nat.reduceLeDiff, Nat.reduceEqDiff, reduceCtorEq, reduceIte, @a_wrap ((k:Int) + 1) (by omega)]
    | succ j =>
     have ej : (((j + 1 : Nat) : Int) - 1) = j := by omega
     rw [ej]
     have hjl : j < l.length := by omega
     obtain ⟨y, hy⟩ : ∃ y, y = l.getD j default := ⟨_, rfl⟩
     have ep2 : par l j = y.parent := by rw [hy]; rfl
     have en2 : nm l j = y.name := by rw [hy]; rfl
     have eg : (l.map NodeT.toD).getD j default = y.toD := by rw [a_getD _ _ _ hjl, ← hy]
     simp only [zN, seval, Nat.reduceLeDiff, Nat.reduceEqDiff, reduceCtorEq, reduceIte, (show (0:Int) ≤ j by omega), (show (j:Int) < l.length by omega), eg, hjl]
     repeat ((with_reducible refine And.intro ?_ ?_); (focus (first | omega | (simp only [lenR]; omega) | (refine qq ?_; rfl) | (refine dq ?_; kernel_rfl) | (intros; simp_all; done))))
     refine ifC.mk (fun h2 => ?_) (fun h2 => ?_)
     ·have h2 : y.parent ≠ x.parent := by simpa using h2
      refine ⟨j, ⟨by omega, ?_⟩, by omega, ?_⟩
      ·rw [m2, lastSib, if_neg (by rw [ep2]; exact h2)]
      ·refine weak_to [] [] rfl List.nodup_nil ?_ rfl
       simp only [zN, seval, Nat.reduceLeDiff, Nat.reduceEqDiff, reduceCtorEq, reduceIte, @a_wrap ((j:Int) - 1) (by omega)]
     ·have h2 : y.parent = x.parent := by simpa using h2
      have hs : lastSib l k x.parent = some j := by rw [m2, lastSib, if_pos (by rw [ep2]; exact h2)]
      have hor : orderE l k = if Op.bytesLess y.name x.name = true then 0 else 11 := by rw [orderE, if_pos hform, ep, hs, ← en, ← en2]
      simp only [zN, seval, Nat.reduceLeDiff, Nat.reduceEqDiff, reduceCtorEq, reduceIte, eg, h, a_getD _ _ _ (show k < l.length by omega)]
      rw [← hx]
      repeat ((with_reducible refine And.intro ?_ ?_); (focus (first | omega | (simp only [lenR]; omega) | (refine qq ?_; rfl) | (refine dq ?_; kernel_rfl) | (intros; simp_all; done))))
      refine ifC.mk (fun h3 => ?_) (fun h3 => ?_)
      ·have h3 : Op.bytesLess y.name x.name = false := by simpa using h3
       refine ⟨_, _, ret_d, ?_, rfl⟩
       rw [orderE_bad h hi (e := 11) (by rw [hor, h3]; rfl) (by decide)]
      ·have h3 : Op.bytesLess y.name x.name = true := by simpa using h3
       have ho : orderE l k = 0 := by rw [hor, h3]; rfl
       refine ⟨firstErr_step hi ho, ?_⟩
       refine weak_to [] [] rfl List.nodup_nil ?_ rfl
       simp only [zN, seval, Nat.reduceLeDiff, Nat.reduceEqDiff, reduceCtorEq, reduceIte, @a_wrap ((k:Int) + 1) (by omega)]
  ·simp only [zN, seval, Nat.reduceLeDiff, Nat.reduceEqDiff, reduceCtorEq, reduceIte, (show ¬ (k:Int) < l.length by omega)]
   have : k = l.length := by omega
   subst this
   refine ⟨_, _, ret_d, ?_, rfl⟩
   rw [hi]
def kidsTo (l : List NodeT) (i j : Nat) : List Nat := (List.range j).filter fun k => par l k == (i : Int)
theorem kidsTo_step (l : List NodeT) (i j : Nat) : kidsTo l i (j + 1) = kidsTo l i j ++ if par l j = i then [j] else [] := by
 rw [kidsTo, List.range_succ, List.filter_append]
 congr 1
 by_cases e : par l j = i
 ·simp [e]
 ·simp [e]
theorem kidsTo_first {l : List NodeT} (h : TreeUp l l.length) {i : Nat} (hi : i < l.length) : kidsTo l i (i + 1) = [] := by
 rw [kidsTo, List.filter_eq_nil_iff]
 intro k hk
 have hk : k < i + 1 := List.mem_range.1 hk
 have := tree_par h (show k < l.length by omega)
 simp; omega
def sumTo (l : List NodeT) (i j : Nat) : Int := W64 (sf l i + ((kidsTo l i j).map (tt l)).sum)
theorem sumTo_step (l : List NodeT) (i j : Nat) : sumTo l i (j + 1) = if par l j = i then IntKind.i64.wrap (sumTo l i j + tt l j) else sumTo l i j := by
 unfold sumTo
 rw [kidsTo_step]
 by_cases e : par l j = i
 ·rw [if_pos e, if_pos e, ← W64_eq, W64_add, List.map_append, List.sum_append]
  simp only [List.map_cons, List.map_nil, List.sum_cons, List.sum_nil]
  congr 1; omega
 ·rw [if_neg e, if_neg e, List.append_nil]
theorem refBad_eq {l : List NodeT} (i : Nat) : refBad l i = (((kidsTo l i l.length).isEmpty && (ct l i == 0)) || (sumTo l i l.length != tt l i)) := rfl
theorem emp_step (l : List NodeT) (i j : Nat) : (kidsTo l i (j + 1)).isEmpty = if par l j = i then false else (kidsTo l i j).isEmpty := by
 rw [kidsTo_step]
 by_cases e : par l j = i
 ·rw [if_pos e, if_pos e]; simp
 ·rw [if_neg e, if_neg e, List.append_nil]
theorem k_totals (l : List NodeT) (hl : l.length ≤ 2000) (ht : TreeUp l l.length) (hr : ∀ i, i < l.length → 0 ≤ sf l i ∧ sf l i ≤ 100000000000000) : Pure Tryz.prog Gl 58 [.d (.sl (l.map NodeT.toD))] (.d (.int .i64 (if (List.range l.length).any (refBad l) = true then 10 else 0))) := by
 refine Pure.of1 ?_
 refine acalls_of Tryz.func58 rfl rfl (by simp [Tryz.ntmps58]) (evC_sound rfl _ _ _ _ ?_)
 simp only [Tryz.ntmps58, Tryz.results58, argEnv, List.length_nil]
 simp only [zN, seval, Nat.reduceLeDiff, Nat.reduceEqDiff, reduceCtorEq, reduceIte]
 refine for_of l.length (fun k => [(0, .d (.sl (l.map NodeT.toD))), (3, .d (.int .i64 k))]) (fun _ => []) (fun k => (List.range k).any (refBad l) = false) rfl ?_ ?_
 ·refine weak_to [] [] rfl List.nodup_nil ?_ rfl
  simp only [zN, seval, Nat.reduceLeDiff, Nat.reduceEqDiff, reduceCtorEq, reduceIte, Int.cast_ofNat_Int]
 ·intro k hi hk
  by_cases h : k < l.length
  ·obtain ⟨x, hx⟩ : ∃ x, x = l.getD k default := ⟨_, rfl⟩
   have es : sf l k = x.self := by rw [hx]; rfl
   have ec : ct l k = x.count := by rw [hx]; rfl
   have et : tt l k = x.total := by rw [hx]; rfl
   have hstep : (List.range (k + 1)).any (refBad l) = refBad l k := by
    rw [List.range_succ, List.any_append, hi]; simp
   have hs0 : sumTo l k (k + 1) = x.self := by
    have := hr k h
    rw [sumTo, kidsTo_first ht h, List.map_nil, List.sum_nil, es, Int.add_zero, W64_eq]
    exact wrap64 (by omega) (by omega)
   simp only [zN, seval, Nat.reduceLeDiff, Nat.reduceEqDiff, reduceCtorEq, reduceIte, (show (k:Int) < l.length by omega), h, a_getD _ _ _ (show k < l.length by omega)]
   rw [← hx]
   repeat ((with_reducible refine And.intro ?_ ?_); (focus (first | omega | (simp only [lenR]; omega) | (refine qq ?_; rfl) | (refine dq ?_; kernel_rfl) | (intros; simp_all; done))))
   (try simp only [zN, seval, Nat.reduceLeDiff, Nat.reduceEqDiff, reduceCtorEq, reduceIte])
   refine loop_of (τ := Nat) (fun j => [(0, .d (.sl (l.map NodeT.toD))), (3, .d (.int .i64 k)), (4, .d (.int .i64 (sumTo l k j))), (5, .d (.bool (kidsTo l k j).isEmpty)), (6, .d (.int .i64 j))]) (fun _ => []) (fun j => k + 1 ≤ j ∧ j ≤ l.length) (fun j => l.length - j) (k + 1) ⟨Nat.le_refl _, h⟩ ?_ ?_
   ·refine weak_to [] [] rfl List.nodup_nil ?_ rfl
    simp only [zN, seval, Nat.reduceLeDiff, Nat.reduceEqDiff, reduceCtorEq, reduceIte, @a_wrap ((k:Int) + 1) (by omega)]
    rw [hs0, kidsTo_first ht h]
    rfl
   ·intro j ⟨j1, j2⟩
    by_cases hj : j < l.length
    ·obtain ⟨y, hy⟩ : ∃ y, y = l.getD j default := ⟨_, rfl⟩
     have ep2 : par l j = y.parent := by rw [hy]; rfl
     have et2 : tt l j = y.total := by rw [hy]; rfl
     have hst := sumTo_step l k j
     have hem := emp_step l k j
     rw [ep2] at hst hem
     rw [et2] at hst
     have eg : (l.map NodeT.toD).getD j default = y.toD := by rw [a_getD _ _ _ hj, ← hy]
     simp only [zN, seval, Nat.reduceLeDiff, Nat.reduceEqDiff, reduceCtorEq, reduceIte, (show (j:Int) < l.length by omega), eg, hj]
     repeat ((with_reducible refine And.intro ?_ ?_); (focus (first | omega | (simp only [lenR]; omega) | (refine qq ?_; rfl) | (refine dq ?_; kernel_rfl) | (intros; simp_all; done))))
     refine ifC.mk (fun h2 => ?_) (fun h2 => ?_)
     ·have h2 : y.parent = k := by simpa using h2
      rw [if_pos h2] at hst hem
      (try simp only [zN, seval, Nat.reduceLeDiff, Nat.reduceEqDiff, reduceCtorEq, reduceIte])
      repeat ((with_reducible refine And.intro ?_ ?_); (focus (first | omega | (simp only [lenR]; omega) | (refine qq ?_; rfl) | (refine dq ?_; kernel_rfl) | (intros; simp_all; done))))
      refine ⟨j + 1, ⟨by omega, by omega⟩, by omega, ?_⟩
      refine weak_to [] [] rfl List.nodup_nil ?_ rfl
      simp only [zN, seval, Nat.reduceLeDiff, Nat.reduceEqDiff, reduceCtorEq, reduceIte, @a_wrap ((j:Int) + 1) (by omega)]
      rw [hst, hem]
      try rfl
     ·have h2 : ¬ y.parent = k := by simpa using h2
      rw [if_neg h2] at hst hem
      refine ⟨j + 1, ⟨by omega, by omega⟩, by omega, ?_⟩
      refine weak_to [] [] rfl List.nodup_nil ?_ rfl
      simp only [zN, seval, Nat.reduceLeDiff, Nat.reduceEqDiff, reduceCtorEq, reduceIte, @a_wrap ((j:Int) + 1) (by omega)]
      rw [hst, hem]
      try rfl
    ·have : j = l.length := by omega
     subst this
     have hrb := refBad_eq (l := l) k
     rw [ec, et] at hrb
     simp only [zN, seval, Nat.reduceLeDiff, Nat.reduceEqDiff, reduceCtorEq, reduceIte, (show ¬ (l.length:Int) < l.length by omega), h, a_getD _ _ _ (show k < l.length by omega)]
     rw [← hx]
     repeat ((with_reducible refine And.intro ?_ ?_); (focus (first | omega | (simp only [lenR]; omega) | (refine qq ?_; rfl) | (refine dq ?_; kernel_rfl) | (intros; simp_all; done))))
     rw [← hrb]
     refine ifC.mk (fun hb => ?_) (fun hb => ?_)
     ·refine ⟨_, _, ret_d, ?_, rfl⟩
      rw [if_pos (List.any_eq_true.2 ⟨k, by simpa using h, hb⟩)]
     ·refine ⟨hstep.trans hb, ?_⟩
      refine weak_to [] [] rfl List.nodup_nil ?_ rfl
      simp only [zN, seval, Nat.reduceLeDiff, Nat.reduceEqDiff, reduceCtorEq, reduceIte, @a_wrap ((k:Int) + 1) (by omega)]
  ·simp only [zN, seval, Nat.reduceLeDiff, Nat.reduceEqDiff, reduceCtorEq, reduceIte, (show ¬ (k:Int) < l.length by omega)]
   have : k = l.length := by omega
   subst this
   refine ⟨_, _, ret_d, ?_, rfl⟩
   rw [hi]; rfl
theorem sf_range {l : List NodeT} (h : rangesF l = 0) : ∀ i, i < l.length → 0 ≤ sf l i ∧ sf l i ≤ 100000000000000 ∧ 0 ≤ ct l i ∧ ct l i ≤ 20000 := fun i hi => by
 have h0 : firstErr (fun k => nodeE (l.getD k default)) l.length = 0 := by
  unfold rangesF at h
  split at h
  ·assumption
  ·contradiction
 have := nodeE_ok (firstErr_zero h0 i hi)
 exact ⟨this.2.1, this.2.2.1, this.2.2.2.1, this.2.2.2.2.1⟩
theorem k_RCheck (l : List NodeT) (hl0 : l.length < 1000000) : Pure Tryz.prog Gl 31 [.d (.sl (l.map NodeT.toD))] (.d (.int .i64 (checkF l))) := by
 refine Pure.of1 ?_
 refine acalls_of Tryz.func31 rfl rfl (by simp [Tryz.ntmps31]) (evC_sound rfl _ _ _ _ ?_)
 simp only [Tryz.ntmps31, Tryz.results31, argEnv, List.length_nil]
 simp only [zN, seval, Nat.reduceLeDiff, Nat.reduceEqDiff, reduceCtorEq, reduceIte]
 refine ifC.mk (fun h1 => ?_) (fun h1 => ?_)
 ·refine ⟨_, _, ret_d, ?_, rfl⟩
  rw [checkF, if_pos (by have := of_decide_eq_true h1; omega)]
 have hl : l.length ≤ 2000 := by
  have : ¬ (2000 < (l.length : Int)) := of_decide_eq_false h1
  omega
 have hF1 : checkF l = if rangesF l = 0 then (if firstErr (orderE l) l.length = 0 then (if (List.range l.length).any (totBad l) = true then 10 else 0) else firstErr (orderE l) l.length) else rangesF l := by
  rw [checkF, if_neg (by omega)]
 repeat ((with_reducible refine And.intro ?_ ?_); (focus (first | omega | (simp only [lenR]; omega) | (refine qq ?_; rfl) | (refine dq ?_; kernel_rfl) | (intros; simp_all; done))))
 refine callF_pure (k_Rranges l hl) ?_
 simp only [zN, seval, Nat.reduceLeDiff, Nat.reduceEqDiff, reduceCtorEq, reduceIte]
 repeat ((with_reducible refine And.intro ?_ ?_); (focus (first | omega | (simp only [lenR]; omega) | (refine qq ?_; rfl) | (refine dq ?_; kernel_rfl) | (intros; simp_all; done))))
 by_cases h2 : rangesF l = 0
 ·rw [if_pos h2] at hF1
  simp only [zN, seval, Nat.reduceLeDiff, Nat.reduceEqDiff, reduceCtorEq, reduceIte, h2]
  repeat ((with_reducible refine And.intro ?_ ?_); (focus (first | omega | (simp only [lenR]; omega) | (refine qq ?_; rfl) | (refine dq ?_; kernel_rfl) | (intros; simp_all; done))))
  refine callF_pure (k_forms l hl) ?_
  simp only [zN, seval, Nat.reduceLeDiff, Nat.reduceEqDiff, reduceCtorEq, reduceIte]
  repeat ((with_reducible refine And.intro ?_ ?_); (focus (first | omega | (simp only [lenR]; omega) | (refine qq ?_; rfl) | (refine dq ?_; kernel_rfl) | (intros; simp_all; done))))
  by_cases h3 : firstErr (orderE l) l.length = 0
  ·rw [if_pos h3] at hF1
   have ht := tree_of h3
   rw [bads_eq ht] at hF1
   simp only [zN, seval, Nat.reduceLeDiff, Nat.reduceEqDiff, reduceCtorEq, reduceIte, h3]
   repeat ((with_reducible refine And.intro ?_ ?_); (focus (first | omega | (simp only [lenR]; omega) | (refine qq ?_; rfl) | (refine dq ?_; kernel_rfl) | (intros; simp_all; done))))
   refine callF_pure (k_totals l hl ht fun i hi => ⟨(sf_range h2 i hi).1, (sf_range h2 i hi).2.1⟩) ?_
   simp only [zN, seval, Nat.reduceLeDiff, Nat.reduceEqDiff, reduceCtorEq, reduceIte]
   refine ⟨_, _, ret_d, ?_, rfl⟩
   rw [hF1]
  ·rw [if_neg h3] at hF1
   simp only [zN, seval, Nat.reduceLeDiff, Nat.reduceEqDiff, reduceCtorEq, reduceIte, a_eq_f (show ¬ (firstErr (orderE l) l.length = 0) by omega)]
   repeat ((with_reducible refine And.intro ?_ ?_); (focus (first | omega | (simp only [lenR]; omega) | (refine qq ?_; rfl) | (refine dq ?_; kernel_rfl) | (intros; simp_all; done))))
   refine ⟨_, _, ret_d, ?_, rfl⟩
   rw [hF1]
 ·rw [if_neg h2] at hF1
  simp only [zN, seval, Nat.reduceLeDiff, Nat.reduceEqDiff, reduceCtorEq, reduceIte, a_eq_f (show ¬ (rangesF l = 0) by omega)]
  repeat ((with_reducible refine And.intro ?_ ?_); (focus (first | omega | (simp only [lenR]; omega) | (refine qq ?_; rfl) | (refine dq ?_; kernel_rfl) | (intros; simp_all; done))))
  refine ⟨_, _, ret_d, ?_, rfl⟩
  rw [hF1]

theorem k_small (d : Nat) (hd : d < 100) : Pure Tryz.prog Gl 124 [.d (.int .i64 d)] (.d (.str (txtN d))) := by
 refine Pure.of1 ?_
 refine acalls_of Tryz.func124 rfl rfl (by simp [Tryz.ntmps124]) (evC_sound rfl _ _ _ _ ?_)
 simp only [Tryz.ntmps124, Tryz.results124, argEnv, List.length_nil]
 simp only [zN, seval, Nat.reduceLeDiff, Nat.reduceEqDiff, reduceCtorEq, reduceIte]
 by_cases h : d < 10
 ·simp only [zN, seval, Nat.reduceLeDiff, Nat.reduceEqDiff, reduceCtorEq, reduceIte, (show (d:Int) < 10 by omega), @a_wrap ((d:Int) + 1) (by omega)]
  repeat ((with_reducible refine And.intro ?_ ?_); (focus (first | omega | (simp only [lenR]; omega) | (refine qq ?_; rfl) | (refine dq ?_; kernel_rfl) | (intros; simp_all; done))))
  refine ⟨_, _, ret_d, ?_, rfl⟩
  congr 2
  revert d
  decide +kernel
 ·simp only [zN, seval, Nat.reduceLeDiff, Nat.reduceEqDiff, reduceCtorEq, reduceIte, (show ¬ (d:Int) < 10 by omega), @a_wrap ((d:Int) * 2) (by omega), @a_wrap ((d:Int) * 2 + 2) (by omega)]
  repeat ((with_reducible refine And.intro ?_ ?_); (focus (first | omega | (simp only [lenR]; omega) | (refine qq ?_; rfl) | (refine dq ?_; kernel_rfl) | (intros; simp_all; done))))
  refine ⟨_, _, ret_d, ?_, rfl⟩
  congr 2
  revert d
  decide +kernel
theorem txt_len {d : Nat} : (txtN d).length ≤ 2 := by unfold txtN; split <;> simp
theorem k_fint (d : Nat) (hd : d < 100) : Pure Tryz.prog Gl 122 [.d (.int .i64 d), .d (.int .i64 10)] (.d (.str (txtN d))) := by
 refine Pure.of2 ?_
 refine acalls_of Tryz.func122 rfl rfl (by simp [Tryz.ntmps122]) (evC_sound rfl _ _ _ _ ?_)
 simp only [Tryz.ntmps122, Tryz.results122, argEnv, List.length_nil]
 simp only [zN, seval, Nat.reduceLeDiff, Nat.reduceEqDiff, reduceCtorEq, reduceIte]
 simp only [zN, seval, Nat.reduceLeDiff, Nat.reduceEqDiff, reduceCtorEq, reduceIte, (show (0:Int) ≤ d by omega), (show (d:Int) < 100 by omega)]
 refine callF_pure (k_small d hd) ?_
 simp only [zN, seval, Nat.reduceLeDiff, Nat.reduceEqDiff, reduceCtorEq, reduceIte]
 exact ⟨_, _, ret_d, rfl, rfl⟩
theorem k_itoa2 (d : Nat) (hd : d < 100) : Pure Tryz.prog Gl 120 [.d (.int .i64 d)] (.d (.str (txtN d))) := by
 refine Pure.of1 ?_
 refine acalls_of Tryz.func120 rfl rfl (by simp [Tryz.ntmps120]) (evC_sound rfl _ _ _ _ ?_)
 simp only [Tryz.ntmps120, Tryz.results120, argEnv, List.length_nil]
 simp only [zN, seval, Nat.reduceLeDiff, Nat.reduceEqDiff, reduceCtorEq, reduceIte]
 refine callF_pure (k_fint d hd) ?_
 simp only [zN, seval, Nat.reduceLeDiff, Nat.reduceEqDiff, reduceCtorEq, reduceIte]
 exact ⟨_, _, ret_d, rfl, rfl⟩
theorem k_itoa (d : Nat) (hd : d < 100) : Pure Tryz.prog Gl 116 [.d (.int .i64 d)] (.d (.str (txtN d))) := by
 refine Pure.of1 ?_
 refine acalls_of Tryz.func116 rfl rfl (by simp [Tryz.ntmps116]) (evC_sound rfl _ _ _ _ ?_)
 simp only [Tryz.ntmps116, Tryz.results116, argEnv, List.length_nil]
 simp only [zN, seval, Nat.reduceLeDiff, Nat.reduceEqDiff, reduceCtorEq, reduceIte]
 refine callF_pure (k_itoa2 d hd) ?_
 simp only [zN, seval, Nat.reduceLeDiff, Nat.reduceEqDiff, reduceCtorEq, reduceIte]
 exact ⟨_, _, ret_d, rfl, rfl⟩
theorem k_Text (d : Nat) (hd : d < 100) : Pure Tryz.prog Gl 108 [.d (.int .i64 d)] (.d (.str (txtN d))) := by
 refine Pure.of1 ?_
 refine acalls_of Tryz.func108 rfl rfl (by simp [Tryz.ntmps108]) (evC_sound rfl _ _ _ _ ?_)
 simp only [Tryz.ntmps108, Tryz.results108, argEnv, List.length_nil]
 simp only [zN, seval, Nat.reduceLeDiff, Nat.reduceEqDiff, reduceCtorEq, reduceIte]
 refine callF_pure (k_itoa d hd) ?_
 simp only [zN, seval, Nat.reduceLeDiff, Nat.reduceEqDiff, reduceCtorEq, reduceIte]
 exact ⟨_, _, ret_d, rfl, rfl⟩
theorem k_RText1 (d : Nat) (hd : d < 10) : Pure Tryz.prog Gl 110 [.d (.int .i64 d)] (.d (.str (txtN d))) := by
 refine Pure.of1 ?_
 refine acalls_of Tryz.func110 rfl rfl (by simp [Tryz.ntmps110]) (evC_sound rfl _ _ _ _ ?_)
 simp only [Tryz.ntmps110, Tryz.results110, argEnv, List.length_nil]
 simp only [zN, seval, Nat.reduceLeDiff, Nat.reduceEqDiff, reduceCtorEq, reduceIte]
 simp only [zN, seval, Nat.reduceLeDiff, Nat.reduceEqDiff, reduceCtorEq, reduceIte, (show ¬ (d:Int) < 0 by omega), (show (0:Int) ≤ d by omega), (show (d:Int) < 10 by omega), @a_wrap ((d:Int) + 1) (by omega)]
 repeat ((with_reducible refine And.intro ?_ ?_); (focus (first | omega | (simp only [lenR]; omega) | (refine qq ?_; rfl) | (refine dq ?_; kernel_rfl) | (intros; simp_all; done))))
 refine ⟨_, _, ret_d, ?_, rfl⟩
 congr 2
 revert d
 decide +kernel
theorem k_RText (d : Nat) (hd : d < 100) : Pure Tryz.prog Gl 110 [.d (.int .i64 d)] (.d (.str (txtN d))) := by
 by_cases h : d < 10
 ·exact k_RText1 d h
 refine Pure.of1 ?_
 refine acalls_of Tryz.func110 rfl rfl (by simp [Tryz.ntmps110]) (evC_sound rfl _ _ _ _ ?_)
 simp only [Tryz.ntmps110, Tryz.results110, argEnv, List.length_nil]
 simp only [zN, seval, Nat.reduceLeDiff, Nat.reduceEqDiff, reduceCtorEq, reduceIte]
 obtain ⟨r, hr⟩ : ∃ r, r = d % 10 := ⟨_, rfl⟩
 obtain ⟨q, hq⟩ : ∃ q, q = d / 10 := ⟨_, rfl⟩
 have e1 : (d : Int).tmod 10 = (r : Int) := by rw [Int.tmod_eq_emod_of_nonneg (by omega)]; omega
 have e2 : (d : Int).tdiv 10 = (q : Int) := by rw [Int.tdiv_eq_ediv_of_nonneg (by omega)]; omega
 have hr10 : r < 10 := by omega
 have hq10 : q < 10 := by omega
 have hq1 : 1 ≤ q := by omega
 simp only [zN, seval, Nat.reduceLeDiff, Nat.reduceEqDiff, reduceCtorEq, reduceIte, (show ¬ (d:Int) < 0 by omega), (show (0:Int) ≤ d by omega), (show ¬ (d:Int) < 10 by omega), e1, e2, (show ¬ (r:Int) < 0 by omega), @a_wrap ((q:Int)) (by omega)]
 repeat ((with_reducible refine And.intro ?_ ?_); (focus (first | omega | (simp only [lenR]; omega) | (refine qq ?_; rfl) | (refine dq ?_; kernel_rfl) | (intros; simp_all; done))))
 refine callF_pure (k_RText1 q hq10) ?_
 simp only [zN, seval, Nat.reduceLeDiff, Nat.reduceEqDiff, reduceCtorEq, reduceIte, @a_wrap ((r:Int) + 1) (by omega)]
 repeat ((with_reducible refine And.intro ?_ ?_); (focus (first | omega | (simp only [lenR]; omega) | (refine qq ?_; rfl) | (refine dq ?_; kernel_rfl) | (intros; simp_all; done))))
 have hlen := txt_len (d := q)
 refine ⟨by
  have h2 : (List.drop r (List.take ((r:Int) + 1).toNat [48, 49, 50, 51, 52, 53, 54, 55, 56, 57] : List UInt8)).length ≤ 10 := by
   rw [List.length_drop, List.length_take]; simp only [List.length_cons, List.length_nil]; omega
  omega, ?_⟩
 refine ⟨_, _, ret_d, ?_, rfl⟩
 congr 2
 have hd2 : d = q * 10 + r := by omega
 subst hd2
 clear hr hq e1 e2 h hlen hd
 revert q
 revert r
 decide +kernel

theorem dep_le {l : List NodeT} (h : TreeUp l l.length) {i : Nat} : ∀ (f k : Nat), k < l.length → upW l i k = true → depW l i f k + i ≤ k := by
 intro f
 induction f with
 | zero => intro k hk hu; have := upW_ge hu; simp [depW]; omega
 | succ f ih =>
  intro k hk hu
  have h1 := upW_ge hu
  rw [depW]
  split
  ·omega
  ·rw [upW_step h hk (by omega)] at hu
   obtain ⟨t1, t2⟩ := tree_par h hk
   have h2 := upW_ge hu
   obtain ⟨p, hp⟩ : ∃ p : Nat, par l k = p := ⟨(par l k).toNat, by omega⟩
   rw [hp] at hu t2 ⊢
   rw [show ((p : Int)).toNat = p by omega]
   have := ih p (by omega) hu
   omega
theorem dep_pos {l : List NodeT} (h : TreeUp l l.length) {i k : Nat} (hik : i < k) (hk : k < l.length) (hu : upW l i k = true) :
  depW l i l.length k = 1 + depW l i l.length (par l k).toNat ∧ 0 ≤ par l k ∧ par l k < k ∧ upW l i (par l k) = true := by
 rw [upW_step h hk (by omega)] at hu
 obtain ⟨t1, t2⟩ := tree_par h hk
 have h2 := upW_ge hu
 obtain ⟨n, hn⟩ : ∃ n, l.length = n + 1 := ⟨l.length - 1, by omega⟩
 refine ⟨?_, by omega, t2, hu⟩
 obtain ⟨p, hp⟩ : ∃ p : Nat, par l k = p := ⟨(par l k).toNat, by omega⟩
 rw [hp] at hu t2 h2
 rw [hn, depW, if_neg (by omega), hp, show ((p : Int)).toNat = p by omega, dep_fuel h p p n (n + 1) (Nat.le_refl _) (by omega) hu (by omega) (by omega)]
def depthF (l : List NodeT) (a k : Nat) : Nat := if upW l a k = true then depW l a l.length k else 0
theorem k_depth (l : List NodeT) (hl : l.length ≤ 2000) (ht : TreeUp l l.length) (a k : Nat) (hk : k < l.length) : Pure Tryz.prog Gl 109 [.d (.sl (l.map NodeT.toD)), .d (.int .i64 k), .d (.int .i64 a)] (.d (.int .i64 (depthF l a k))) := by
 refine Pure.of3 ?_
 refine acalls_of Tryz.func109 rfl rfl (by simp [Tryz.ntmps109]) (evC_sound rfl _ _ _ _ ?_)
 simp only [Tryz.ntmps109, Tryz.results109, argEnv, List.length_nil]
 simp only [zN, seval, Nat.reduceLeDiff, Nat.reduceEqDiff, reduceCtorEq, reduceIte]
 refine loop_of (τ := Int × Nat) (fun x => [(0, .d (.sl (l.map NodeT.toD))), (1, .d (.int .i64 x.1)), (2, .d (.int .i64 a)), (7, .d (.int .i64 x.2))]) (fun _ => [])
  (fun x => -1 ≤ x.1 ∧ x.1 < l.length ∧ (x.2 : Int) + x.1 ≤ k ∧ upW l a x.1 = upW l a k ∧ (upW l a k = true → depW l a l.length k = x.2 + depW l a l.length x.1.toNat)) (fun x => (x.1 + 1).toNat) ((k : Int), 0) ⟨by simp only; omega, by simp only; omega, by simp only; omega, rfl, fun _ => by simp⟩ ?_ ?_
 ·refine weak_to [] [] rfl List.nodup_nil ?_ rfl
  simp only [zN, seval, Nat.reduceLeDiff, Nat.reduceEqDiff, reduceCtorEq, reduceIte, Int.cast_ofNat_Int]
 ·rintro ⟨c, n⟩ ⟨a1, a2, a3, a4, a5⟩
  simp only at a1 a2 a3 a4 a5
  simp only [zN, seval, Nat.reduceLeDiff, Nat.reduceEqDiff, reduceCtorEq, reduceIte]
  refine ifC.mk (fun h1 => ?_) (fun h1 => ?_)
  ·have h1 : 0 ≤ c := of_decide_eq_true h1
   obtain ⟨c, rfl⟩ : ∃ m : Nat, c = m := ⟨c.toNat, by omega⟩
   have hcl : c < l.length := by omega
   simp only [zN, seval, Nat.reduceLeDiff, Nat.reduceEqDiff, reduceCtorEq, reduceIte]
   refine ifC.mk (fun h2 => ?_) (fun h2 => ?_)
   ·have h2 : c = a := by
     have : (c : Int) = a := by simpa using h2
     omega
    subst h2
    have hu : upW l c k = true := by rw [← a4]; exact upW_self
    have hz : depW l c l.length c = 0 := by
     obtain ⟨m, hm⟩ : ∃ m, l.length = m + 1 := ⟨l.length - 1, by omega⟩
     rw [hm, depW, if_pos rfl]
    refine ⟨_, _, ret_d, ?_, rfl⟩
    rw [depthF, if_pos hu, a5 hu, show ((c : Int)).toNat = c by omega, hz]; rfl
   ·have h2 : ¬ c = a := by
     have : ¬ (c : Int) = a := by simpa using h2
     omega
    have tp := tree_par ht hcl
    have eu := upW_step ht (p := (a : Int)) hcl (by omega)
    have eg : (l.getD c default).parent = par l c := rfl
    simp only [zN, seval, Nat.reduceLeDiff, Nat.reduceEqDiff, reduceCtorEq, reduceIte, a_getD _ _ _ (show c < l.length by omega), hcl, (show (c:Int) < l.length by omega), (show (0:Int) ≤ c by omega), eg, @a_wrap ((n:Int) + 1) (by omega)]
    repeat ((with_reducible refine And.intro ?_ ?_); (focus (first | omega | (simp only [lenR]; omega) | (refine qq ?_; rfl) | (refine dq ?_; kernel_rfl) | (intros; simp_all; done))))
    refine ⟨(par l c, n + 1), ⟨tp.1, by simp only; omega, by simp only; omega, by rw [← eu, a4], fun hu => ?_⟩, by simp only; omega, ?_⟩
    ·have hu2 : upW l a c = true := by rw [a4]; exact hu
     have hac := upW_ge hu2
     obtain ⟨q1, _⟩ := dep_pos ht (i := a) (k := c) (by omega) hcl hu2
     rw [a5 hu, show ((c : Int)).toNat = c by omega, q1]
     simp only; omega
    ·refine weak_to [] [] rfl List.nodup_nil ?_ rfl
     simp only [zN, seval, Nat.reduceLeDiff, Nat.reduceEqDiff, reduceCtorEq, reduceIte]
  ·have h1 : ¬ 0 ≤ c := of_decide_eq_false h1
   have hu : upW l a k = false := by rw [← a4, upW_neg (by omega)]
   refine ⟨_, _, ret_d, ?_, rfl⟩
   rw [depthF, hu]; rfl
theorem name_len {l : List NodeT} (h : checkF l = 0) {k : Nat} (hk : k < l.length) : (nm l k).length ≤ 40 := by
 obtain ⟨_, h2, _⟩ := checkF_ok h
 have h0 : firstErr (fun k => nodeE (l.getD k default)) l.length = 0 := by
  unfold rangesF at h2
  split at h2
  ·assumption
  ·contradiction
 have := (nodeE_ok (firstErr_zero h0 k hk)).1
 have hb : nameB (nm l k) = true := by
  unfold nameF at this
  split at this
  ·assumption
  ·omega
 simp only [nameB, Bool.and_eq_true, decide_eq_true_eq] at hb
 exact hb.1.2
def belowTo (l : List NodeT) (i j : Nat) : List Nat := (List.range j).filter fun k => decide (i < k) && upW l i k
theorem belowTo_step (l : List NodeT) (i j : Nat) : belowTo l i (j + 1) = belowTo l i j ++ if i < j ∧ upW l i j = true then [j] else [] := by
 rw [belowTo, List.range_succ, List.filter_append]
 congr 1
 by_cases e : i < j ∧ upW l i j = true
 ·rw [if_pos e]; simp [e.1, e.2]
 ·rw [if_neg e]
  refine List.filter_eq_nil_iff.2 fun k hk => ?_
  have : k = j := by simpa using hk
  subst this
  simpa using e
theorem belowTo_first (l : List NodeT) (i : Nat) : belowTo l i (i + 1) = [] := by
 rw [belowTo, List.filter_eq_nil_iff]
 intro k hk
 have hk : k < i + 1 := List.mem_range.1 hk
 simp; omega
def shTo (l : List NodeT) (i j : Nat) : List (List UInt8) := (belowTo l i j).map fun k => txtN (depW l i l.length k) ++ 32 :: nm l k
theorem shTo_len (l : List NodeT) (i j : Nat) : (shTo l i j).length ≤ j := by
 simp only [shTo, List.length_map, belowTo]
 exact Nat.le_trans (List.length_filter_le _ _) (by simp)
theorem depth_iff {l : List NodeT} (ht : TreeUp l l.length) {i k : Nat} (hik : i < k) (hk : k < l.length) : (0 : Int) < (depthF l i k : Int) ↔ upW l i k = true := by
 unfold depthF
 split
 ·rename_i hu
  have := (dep_pos ht hik hk hu).1
  exact ⟨fun _ => hu, fun _ => by omega⟩
 ·rename_i hu
  exact ⟨fun h => by simp at h, fun h => absurd h hu⟩
theorem k_Rshape (l : List NodeT) (hl : l.length ≤ 100) (hc : checkF l = 0) (i : Nat) (hi : i < l.length) : Pure Tryz.prog Gl 87 [.d (.sl (l.map NodeT.toD)), .d (.int .i64 i)] (.d (.sl ((shp l i).map .str))) := by
 refine Pure.of2 ?_
 have ht := (checkF_ok hc).2.2.2.1
 refine acalls_of Tryz.func87 rfl rfl (by simp [Tryz.ntmps87]) (evC_sound rfl _ _ _ _ ?_)
 simp only [Tryz.ntmps87, Tryz.results87, argEnv, List.length_nil]
 simp only [zN, seval, Nat.reduceLeDiff, Nat.reduceEqDiff, reduceCtorEq, reduceIte]
 refine loop_of (τ := Nat) (fun j => [(0, .d (.sl (l.map NodeT.toD))), (1, .d (.int .i64 i)), (5, .osl 0 0 (shTo l i j).length), (6, .d (.int .i64 j))]) (fun j => [.arr 1 ((shTo l i j).map .str)]) (fun j => i + 1 ≤ j ∧ j ≤ l.length) (fun j => l.length - j) (i + 1) ⟨Nat.le_refl _, hi⟩ ?_ ?_
 ·refine (weak_nils 5 1 rfl).trans ?_
  refine weak_to [] [0] rfl (by simp) ?_ ?_
  ·simp only [zN, seval, Nat.reduceLeDiff, Nat.reduceEqDiff, reduceCtorEq, reduceIte, @a_wrap ((i:Int) + 1) (by omega)]
   rw [shTo, belowTo_first]
   rfl
  ·rw [shTo, belowTo_first]
   rfl
 ·intro j ⟨j1, j2⟩
  have hlen := shTo_len l i j
  by_cases hj : j < l.length
  ·obtain ⟨x, hx⟩ : ∃ x, x = l.getD j default := ⟨_, rfl⟩
   have en : nm l j = x.name := by rw [hx]; rfl
   have hnl := name_len hc hj
   rw [en] at hnl
   have eg : (l.map NodeT.toD).getD j default = x.toD := by rw [a_getD _ _ _ hj, ← hx]
   simp only [zN, seval, Nat.reduceLeDiff, Nat.reduceEqDiff, reduceCtorEq, reduceIte, (show (j:Int) < l.length by omega)]
   repeat ((with_reducible refine And.intro ?_ ?_); (focus (first | omega | (simp only [lenR]; omega) | (refine qq ?_; rfl) | (refine dq ?_; kernel_rfl) | (intros; simp_all; done))))
   refine callF_pure (k_depth l (by omega) ht i j hj) ?_
   have hd := depth_iff ht (show i < j by omega) hj
   simp only [zN, seval, Nat.reduceLeDiff, Nat.reduceEqDiff, reduceCtorEq, reduceIte]
   refine ifC.mk (fun h2 => ?_) (fun h2 => ?_)
   ·have h2 := hd.1 (of_decide_eq_true h2)
    have hdv : depthF l i j = depW l i l.length j := by rw [depthF, if_pos h2]
    have hdl := dep_le ht l.length j hj h2
    rw [hdv]
    have htl := txt_len (d := depW l i l.length j)
    have hs : shTo l i (j + 1) = shTo l i j ++ [txtN (depW l i l.length j) ++ 32 :: x.name] := by
     rw [shTo, belowTo_step, if_pos ⟨by omega, h2⟩, List.map_append, ← en]; rfl
    have hsl : (shTo l i (j + 1)).length = (shTo l i j).length + 1 := by rw [hs]; simp
    have hm : (shTo l i (j + 1)).map D.str = List.take (shTo l i j).length ((shTo l i j).map D.str) ++ [.str (txtN (depW l i l.length j) ++ 32 :: x.name)] := by
     rw [hs, List.map_append, take_all]; rfl
    repeat ((with_reducible refine And.intro ?_ ?_); (focus (first | omega | (simp only [lenR]; omega) | (refine qq ?_; rfl) | (refine dq ?_; kernel_rfl) | (intros; simp_all; done))))
    refine callF_pure (k_RText _ (by omega)) ?_
    simp only [zN, seval, Nat.reduceLeDiff, Nat.reduceEqDiff, reduceCtorEq, reduceIte, eg, hj, (show (j:Int) < l.length by omega)]
    repeat ((with_reducible refine And.intro ?_ ?_); (focus (first | omega | (simp only [lenR]; omega) | (refine qq ?_; rfl) | (refine dq ?_; kernel_rfl) | (intros; simp_all; done))))
    refine ⟨j + 1, ⟨by omega, by omega⟩, by omega, ?_⟩
    rw [hsl, hm]
    refine weak_to [] [2] rfl (by simp) ?_ rfl
    simp only [zN, seval, Nat.reduceLeDiff, Nat.reduceEqDiff, reduceCtorEq, reduceIte, @a_wrap ((j:Int) + 1) (by omega)]
   ·have h2 : ¬ upW l i j = true := fun g => of_decide_eq_false h2 (hd.2 g)
    have hs : shTo l i (j + 1) = shTo l i j := by rw [shTo, belowTo_step, if_neg (fun g => h2 g.2), List.append_nil]; rfl
    refine ⟨j + 1, ⟨by omega, by omega⟩, by omega, ?_⟩
    rw [hs]
    refine weak_to [] [0] rfl (by simp) ?_ rfl
    simp only [zN, seval, Nat.reduceLeDiff, Nat.reduceEqDiff, reduceCtorEq, reduceIte, @a_wrap ((j:Int) + 1) (by omega)]
  ·have : j = l.length := by omega
   subst this
   simp only [zN, seval, Nat.reduceLeDiff, Nat.reduceEqDiff, reduceCtorEq, reduceIte, (show ¬ (l.length:Int) < l.length by omega)]
   refine ⟨_, _, ret_data rfl (x := .sl ((shp l i).map .str)) ?_, rfl, rfl⟩
   show D.sl (List.take (shTo l i l.length).length ((shTo l i l.length).map D.str)) = _
   rw [take_all]
   rfl
def kidsN (l : List NodeT) (p : Int) (j : Nat) : List Nat := (List.range j).filter fun k => par l k == p
theorem kidsN_step (l : List NodeT) (p : Int) (j : Nat) : kidsN l p (j + 1) = kidsN l p j ++ if par l j = p then [j] else [] := by
 rw [kidsN, List.range_succ, List.filter_append]
 congr 1
 by_cases e : par l j = p
 ·simp [e]
 ·simp [e]
theorem kidsN_len (l : List NodeT) (p : Int) (j : Nat) : (kidsN l p j).length ≤ j := by
 rw [kidsN]
 exact Nat.le_trans (List.length_filter_le _ _) (by simp)
def intD (k : Nat) : D := .int .i64 k
def idxD (l : List Nat) : D := .sl (l.map intD)
theorem k_children (l : List NodeT) (hl : l.length ≤ 2000) (p : Int) : Pure Tryz.prog Gl 85 [.d (.sl (l.map NodeT.toD)), .d (.int .i64 p)] (.d (.sl ((kids l p).map intD))) := by
 refine Pure.of2 ?_
 refine acalls_of Tryz.func85 rfl rfl (by simp [Tryz.ntmps85]) (evC_sound rfl _ _ _ _ ?_)
 simp only [Tryz.ntmps85, Tryz.results85, argEnv, List.length_nil]
 simp only [zN, seval, Nat.reduceLeDiff, Nat.reduceEqDiff, reduceCtorEq, reduceIte]
 refine for_of l.length (fun j => [(0, .d (.sl (l.map NodeT.toD))), (1, .d (.int .i64 p)), (5, .osl 0 0 (kidsN l p j).length), (6, .d (.int .i64 j))]) (fun j => [.arr 1 ((kidsN l p j).map intD)]) (fun j => True) trivial ?_ ?_
 ·refine (weak_nils 5 1 rfl).trans ?_
  refine weak_to [] [0] rfl (by simp) ?_ rfl
  simp only [zN, seval, Nat.reduceLeDiff, Nat.reduceEqDiff, reduceCtorEq, reduceIte, Int.cast_ofNat_Int]
  rfl
 ·intro j _ hjl
  have hlen := kidsN_len l p j
  have hst := kidsN_step l p j
  by_cases hj : j < l.length
  ·obtain ⟨x, hx⟩ : ∃ x, x = l.getD j default := ⟨_, rfl⟩
   have ep : par l j = x.parent := by rw [hx]; rfl
   have eg : (l.map NodeT.toD).getD j default = x.toD := by rw [a_getD _ _ _ hj, ← hx]
   rw [ep] at hst
   simp only [zN, seval, Nat.reduceLeDiff, Nat.reduceEqDiff, reduceCtorEq, reduceIte, (show (j:Int) < l.length by omega), hj, eg]
   repeat ((with_reducible refine And.intro ?_ ?_); (focus (first | omega | (simp only [lenR]; omega) | (refine qq ?_; rfl) | (refine dq ?_; kernel_rfl) | (intros; simp_all; done))))
   refine ifC.mk (fun h2 => ?_) (fun h2 => ?_)
   ·have h2 : x.parent = p := by simpa using h2
    rw [if_pos h2] at hst
    have hsl : (kidsN l p (j + 1)).length = (kidsN l p j).length + 1 := by rw [hst]; simp
    have hm : (kidsN l p (j + 1)).map intD = List.take (kidsN l p j).length ((kidsN l p j).map intD) ++ [.int .i64 j] := by
     rw [hst, List.map_append, take_all]; rfl
    (try simp only [zN, seval, Nat.reduceLeDiff, Nat.reduceEqDiff, reduceCtorEq, reduceIte])
    repeat ((with_reducible refine And.intro ?_ ?_); (focus (first | omega | (simp only [lenR]; omega) | (refine qq ?_; rfl) | (refine dq ?_; kernel_rfl) | (intros; simp_all; done))))
    rw [hsl, hm]
    refine weak_to [] [2] rfl (by simp) ?_ rfl
    simp only [zN, seval, Nat.reduceLeDiff, Nat.reduceEqDiff, reduceCtorEq, reduceIte, @a_wrap ((j:Int) + 1) (by omega)]
   ·have h2 : ¬ x.parent = p := by simpa using h2
    rw [if_neg h2, List.append_nil] at hst
    repeat ((with_reducible refine And.intro ?_ ?_); (focus (first | omega | (simp only [lenR]; omega) | (refine qq ?_; rfl) | (refine dq ?_; kernel_rfl) | (intros; simp_all; done))))
    rw [hst]
    refine weak_to [] [0] rfl (by simp) ?_ rfl
    simp only [zN, seval, Nat.reduceLeDiff, Nat.reduceEqDiff, reduceCtorEq, reduceIte, @a_wrap ((j:Int) + 1) (by omega)]
  ·have : j = l.length := by omega
   subst this
   simp only [zN, seval, Nat.reduceLeDiff, Nat.reduceEqDiff, reduceCtorEq, reduceIte, (show ¬ (l.length:Int) < l.length by omega)]
   refine ⟨_, _, ret_data rfl (x := .sl ((kids l p).map intD)) ?_, rfl, rfl⟩
   show D.sl (List.take (kidsN l p l.length).length ((kidsN l p l.length).map intD)) = _
   rw [take_all]
   rfl
theorem k_none (n : Nat) (hn : n ≤ 2000) : Fresh Tryz.prog Gl 51 [.d (.int .i64 n)] 1 (List.replicate n (.int .i64 (-1))) := by
 refine Fresh.of (args := [.int .i64 n]) ?_
 simp only [List.map_cons, List.map_nil]
 refine acalls_of Tryz.func51 rfl rfl (by simp [Tryz.ntmps51]) (evC_sound rfl _ _ _ _ ?_)
 simp only [Tryz.ntmps51, Tryz.results51, argEnv, List.length_nil]
 simp only [zN, seval, Nat.reduceLeDiff, Nat.reduceEqDiff, reduceCtorEq, reduceIte]
 refine for_of n (fun j => [(0, .d (.int .i64 n)), (3, .osl 0 0 j), (4, .d (.int .i64 j))]) (fun j => [.arr 1 (List.replicate j (.int .i64 (-1)))]) (fun j => True) trivial ?_ ?_
 ·refine (weak_nils 3 1 rfl).trans ?_
  refine weak_to [] [0] rfl (by simp) ?_ rfl
  simp only [zN, seval, Nat.reduceLeDiff, Nat.reduceEqDiff, reduceCtorEq, reduceIte, Int.cast_ofNat_Int]
 ·intro j _ hjl
  by_cases hj : j < n
  ·have hm : D.int .i64 (-1) :: List.replicate j (D.int .i64 (-1)) = List.take j (List.replicate j (D.int .i64 (-1))) ++ [D.int .i64 (-1)] := by
    rw [List.take_of_length_le (by simp)]
    rw [← List.replicate_succ]; exact List.replicate_succ'
   simp only [zN, seval, Nat.reduceLeDiff, Nat.reduceEqDiff, reduceCtorEq, reduceIte, (show (j:Int) < n by omega), List.length_replicate]
   repeat ((with_reducible refine And.intro ?_ ?_); (focus (first | omega | (simp only [lenR]; omega) | (refine qq ?_; rfl) | (refine dq ?_; kernel_rfl) | (intros; simp_all; done))))
   rw [hm]
   refine weak_to [] [2] rfl (by simp) ?_ rfl
   simp only [zN, seval, Nat.reduceLeDiff, Nat.reduceEqDiff, reduceCtorEq, reduceIte, @a_wrap ((j:Int) + 1) (by omega)]
  ·have : j = n := by omega
   subst this
   simp only [zN, seval, Nat.reduceLeDiff, Nat.reduceEqDiff, reduceCtorEq, reduceIte, (show ¬ (j:Int) < j by omega), List.length_replicate]
   refine ⟨_, _, weakR_to [] [0] rfl (by simp) rfl rfl, rfl, rfl⟩

def stR (a b : List NodeT) (s : Al) : Sto := [.box 4 (.agg [.d (.sl (a.map NodeT.toD)), .d (.sl (b.map NodeT.toD)), .osl 1 0 a.length, .osl 2 0 b.length]), .arr 1 (s.toB.map (.int .i64)), .arr 1 (s.toA.map (.int .i64))]
theorem k_SameTexts (x y : List (List UInt8)) (hx : x.length < 1000000) (hy : y.length < 1000000) : Pure Tryz.prog Gl 88 [.d (.sl (x.map .str)), .d (.sl (y.map .str))] (.d (.bool (decide (x = y)))) := by
 refine Pure.of2 ?_
 refine acalls_of Tryz.func88 rfl rfl (by simp [Tryz.ntmps88]) (evC_sound rfl _ _ _ _ ?_)
 simp only [Tryz.ntmps88, Tryz.results88, argEnv, List.length_nil]
 simp only [zN, seval, Nat.reduceLeDiff, Nat.reduceEqDiff, reduceCtorEq, reduceIte, stR, intD]
 refine ifC.mk (fun h1 => ?_) (fun h1 => ?_)
 ·have h1 : x.length ≠ y.length := by simp at h1; omega
  refine ⟨_, _, ret_d, ?_, rfl⟩
  rw [decide_eq_false (fun e => h1 (by rw [e]))]
 ·have h1 : x.length = y.length := by simp at h1; omega
  refine for_of x.length (fun j => [(0, .d (.sl (x.map .str))), (1, .d (.sl (y.map .str))), (5, .d (.int .i64 j))]) (fun _ => []) (fun j => x.take j = y.take j) rfl ?_ ?_
  ·refine weak_to [] [] rfl List.nodup_nil ?_ rfl
   simp only [zN, seval, Nat.reduceLeDiff, Nat.reduceEqDiff, reduceCtorEq, reduceIte, stR, intD, Int.cast_ofNat_Int]
  ·intro j hi hjl
   by_cases hj : j < x.length
   ·have hj2 : j < y.length := by omega
    have e1 := take_step x j hj
    have e2 := take_step y j hj2
    have g1 : (x.map D.str).getD j default = .str (x.getD j default) := by simp [hj]
    have g2 : (y.map D.str).getD j default = .str (y.getD j default) := by simp [hj2]
    simp only [zN, seval, Nat.reduceLeDiff, Nat.reduceEqDiff, reduceCtorEq, reduceIte, stR, intD, (show (j:Int) < x.length by omega), (show (j:Int) < y.length by omega), hj, hj2, g1, g2]
    repeat ((with_reducible refine And.intro ?_ ?_); (focus (first | omega | (simp only [lenR]; omega) | (refine qq ?_; rfl) | (refine dq ?_; kernel_rfl) | (intros; simp_all; done))))
    refine ifC.mk (fun h2 => ?_) (fun h2 => ?_)
    ·have h2 : x.getD j default ≠ y.getD j default := by simpa using h2
     refine ⟨_, _, ret_d, ?_, rfl⟩
     rw [decide_eq_false (fun e => h2 (by rw [e]))]
    ·have h2 : x.getD j default = y.getD j default := by simpa using h2
     refine ⟨by rw [e1, e2, hi, h2], ?_⟩
     refine weak_to [] [] rfl List.nodup_nil ?_ rfl
     simp only [zN, seval, Nat.reduceLeDiff, Nat.reduceEqDiff, reduceCtorEq, reduceIte, stR, intD, @a_wrap ((j:Int) + 1) (by omega)]
   ·have : j = x.length := by omega
    subst this
    simp only [zN, seval, Nat.reduceLeDiff, Nat.reduceEqDiff, reduceCtorEq, reduceIte, stR, intD, (show ¬ (x.length:Int) < x.length by omega)]
    refine ⟨_, _, ret_d, ?_, rfl⟩
    rw [List.take_length, h1, List.take_length] at hi
    rw [decide_eq_true hi]
def Sz (a b : List NodeT) (s : Al) : Prop := s.toB.length = a.length ∧ s.toA.length = b.length
theorem Sz.op {a b : List NodeT} {s : Al} (h : Sz a b s) (p : Nat) (o : Option Nat) : Sz a b (opS s p o) := by
 have := op_len s p o
 exact ⟨this.1.trans h.1, this.2.trans h.2⟩
theorem b_get {s : Al} {p : Nat} (h : p < s.toB.length) : (s.toB.map (D.int .i64)).getD p default = .int .i64 (s.b p) := by
 simp [Al.b, h]
theorem a_get {s : Al} {p : Nat} (h : p < s.toA.length) : (s.toA.map (D.int .i64)).getD p default = .int .i64 (s.a p) := by
 simp [Al.a, h]
theorem k_Rpair (a b : List NodeT) (ha : a.length ≤ 2000) (hb : b.length ≤ 2000) (s : Al) (hs : Sz a b s) (p q : Nat) (hp : p < a.length) (hq : q < b.length) : ACalls Tryz.prog Gl 86 [.ptr 0 0, .d (.int .i64 p), .d (.int .i64 q)] (stR a b s) (fun r s' => r = .tup [] ∧ s' = stR a b (pairS s p q)) := by
 refine acalls_of Tryz.func86 rfl rfl (by simp [Tryz.ntmps86]) (evC_sound rfl _ _ _ _ ?_)
 simp only [Tryz.ntmps86, Tryz.results86, argEnv, List.length_nil]
 simp only [zN, seval, Nat.reduceLeDiff, Nat.reduceEqDiff, reduceCtorEq, reduceIte, stR, intD]
 obtain ⟨h1, h2⟩ := hs
 have hp2 : p < s.toB.length := by omega
 have hq2 : q < s.toA.length := by omega
 simp only [zN, seval, Nat.reduceLeDiff, Nat.reduceEqDiff, reduceCtorEq, reduceIte, stR, intD, (show (p:Int) < a.length by omega), (show (q:Int) < b.length by omega), hp2, hq2]
 repeat ((with_reducible refine And.intro ?_ ?_); (focus (first | omega | (simp only [lenR]; omega) | (refine qq ?_; rfl) | (refine dq ?_; kernel_rfl) | (intros; simp_all; done))))
 refine ⟨_, _, weakR_to [] [0, 1, 2] rfl (by simp) rfl rfl, rfl, ?_⟩
 simp only [stR, pairS, List.map_set]
 rfl

theorem find_step {α : Type} [Inhabited α] (P : α → Bool) (y : List α) {j : Nat} (h : j < y.length) : (y.take (j + 1)).find? P = ((y.take j).find? P).or (if P (y.getD j default) = true then some (y.getD j default) else none) := by
 rw [take_step y j h, List.find?_append]
 congr 1
 by_cases e : P (y.getD j default) = true
 ·rw [if_pos e, List.find?_cons_of_pos e]
 ·rw [if_neg e, List.find?_cons_of_neg e, List.find?_nil]
theorem take_lt {l : List Nat} (h : l.Pairwise (· < ·)) {j q : Nat} (hj : j < l.length) (hq : q ∈ l.take j) : q < l.getD j default := by
 obtain ⟨i, hi, e⟩ := List.mem_iff_getElem.1 hq
 rw [List.length_take] at hi
 have := List.pairwise_iff_getElem.1 h i j (by omega) hj (by omega)
 rw [List.getElem_take] at e
 rw [List.getD_eq_getElem?_getD, List.getElem?_eq_getElem hj, Option.getD_some, ← e]
 exact this
theorem sz_ph1 {a b : List NodeT} {y : List Nat} : ∀ (x : List Nat) {s : Al}, Sz a b s → Sz a b (ph1 a b y x s)
 | [], _, h => h
 | p :: x, _, h => sz_ph1 x (h.op p _)
theorem sz_ph2 {a b : List NodeT} {y : List Nat} : ∀ (x : List Nat) {s : Al}, Sz a b s → Sz a b (ph2 a b y x s)
 | [], _, h => h
 | p :: x, _, h => sz_ph2 x (h.op p _)
theorem sz_foldl {a b : List NodeT} {g : Al → Nat → Al} (hg : ∀ s p, Sz a b s → Sz a b (g s p)) : ∀ (x : List Nat) {s : Al}, Sz a b s → Sz a b (x.foldl g s)
 | [], _, h => h
 | p :: x, _, h => sz_foldl hg x (hg _ p h)
theorem sz_align {a b : List NodeT} : ∀ (f : Nat) (i k : Int) {s : Al}, Sz a b s → Sz a b (alignF a b f i k s)
 | 0, _, _, _, h => h
 | f + 1, i, k, s, h => by
  rw [alignF]
  refine sz_foldl (fun s p hs => ?_) _ (sz_ph2 _ (sz_ph1 _ h))
  show Sz a b (if 0 ≤ s.b p then alignF a b f p (s.b p) s else s)
  split
  ·exact sz_align f _ _ hs
  ·exact hs
theorem ph1_step (a b : List NodeT) (y x : List Nat) (s : Al) {j : Nat} (h : j < x.length) : ph1 a b y (x.take (j + 1)) s = opS (ph1 a b y (x.take j) s) (x.getD j default) (c1 a b y (x.getD j default)) := by
 rw [take_step x j h, ph1, List.foldl_append]; rfl
theorem ph2_step (a b : List NodeT) (y x : List Nat) (s : Al) {j : Nat} (h : j < x.length) : ph2 a b y (x.take (j + 1)) s = opS (ph2 a b y (x.take j) s) (x.getD j default) (c2 a b y (ph2 a b y (x.take j) s) (x.getD j default)) := by
 rw [take_step x j h, ph2, List.foldl_append]; rfl
theorem foldl_step {β : Type} (g : β → Nat → β) (x : List Nat) (s : β) {j : Nat} (h : j < x.length) : (x.take (j + 1)).foldl g s = g ((x.take j).foldl g s) (x.getD j default) := by
 rw [take_step x j h, List.foldl_append]; rfl
theorem c1_step {a b : List NodeT} (hB : Tr b) (k : Int) (s : Al) (p : Nat) {j : Nat} (h : j < (kids b k).length) :
  opS s p (((kids b k).take (j + 1)).find? fun q => nm b q == nm a p) = if nm a p = nm b ((kids b k).getD j default) then pairS (opS s p (((kids b k).take j).find? fun q => nm b q == nm a p)) p ((kids b k).getD j default) else opS s p (((kids b k).take j).find? fun q => nm b q == nm a p) := by
 rw [find_step _ _ h]
 by_cases e : nm a p = nm b ((kids b k).getD j default)
 ·rw [if_pos e, if_pos (by simp [e])]
  have hn : ((kids b k).take j).find? (fun q => nm b q == nm a p) = none := by
   rw [List.find?_eq_none]
   intro q hq hne
   have hne : nm b q = nm a p := by simpa using hne
   have h1 := kids_name hB (List.mem_of_mem_take hq) (mem_getD h) (hne.trans e)
   have h2 := take_lt (kids_sorted b k) h hq
   omega
  rw [hn]; rfl
 ·have e2 : ¬ (nm b ((kids b k).getD j default) == nm a p) = true := fun g => e (by simpa using g : nm b ((kids b k).getD j default) = nm a p).symm
  rw [if_neg e, if_neg e2, Option.or_none]
theorem find_of_take {α : Type} (P : α → Bool) (y : List α) (n : Nat) {r : α} (h : (y.take n).find? P = some r) : y.find? P = some r := by
 conv => lhs; rw [← List.take_append_drop n y]
 rw [List.find?_append, h]; rfl
set_option maxHeartbeats 4000000 in
theorem k_Ralign (a b : List NodeT) (ha : a.length ≤ 100) (hb : b.length ≤ 100) (hca : checkF a = 0) (hcb : checkF b = 0) : ∀ (f : Nat) (i k : Int) (s : Al), (a.length : Int) ≤ f + i → -1 ≤ i → i < a.length → Sz a b s →
  ACalls Tryz.prog Gl 52 [.ptr 0 0, .d (.int .i64 i), .d (.int .i64 k)] (stR a b s) (fun r s' => r = .tup [] ∧ s' = stR a b (alignF a b f i k s)) := by
 have hA := Tr.of hca
 have hB := Tr.of hcb
 intro f
 induction f with
 | zero =>
  intro i k s hf hi hi2 hs
  omega
 | succ f ih =>
  intro i k s hf hi hi2 hs
  obtain ⟨x, hx⟩ : ∃ x, x = kids a i := ⟨_, rfl⟩
  obtain ⟨y, hy⟩ : ∃ y, y = kids b k := ⟨_, rfl⟩
  have hxl : ∀ p ∈ x, p < a.length := fun p hp => by rw [hx] at hp; exact kids_lt hp
  have hyl : ∀ q ∈ y, q < b.length := fun q hq => by rw [hy] at hq; exact kids_lt hq
  have hxn : x.length ≤ 100 := by rw [hx]; exact Nat.le_trans (kidsN_len a i a.length) ha
  have hyn : y.length ≤ 100 := by rw [hy]; exact Nat.le_trans (kidsN_len b k b.length) hb
  refine acalls_of Tryz.func52 rfl rfl (by simp [Tryz.ntmps52]) (evC_sound rfl _ _ _ _ ?_)
  simp only [Tryz.ntmps52, Tryz.results52, argEnv, List.length_nil]
  simp only [zN, seval, Nat.reduceLeDiff, Nat.reduceEqDiff, reduceCtorEq, reduceIte, stR, intD]
  repeat ((with_reducible refine And.intro ?_ ?_); (focus (first | omega | (simp only [lenR]; omega) | (refine qq ?_; rfl) | (refine dq ?_; kernel_rfl) | (intros; simp_all; done))))
  refine callF_pure (k_children a (by omega) i) ?_
  simp only [zN, seval, Nat.reduceLeDiff, Nat.reduceEqDiff, reduceCtorEq, reduceIte, stR, intD]
  repeat ((with_reducible refine And.intro ?_ ?_); (focus (first | omega | (simp only [lenR]; omega) | (refine qq ?_; rfl) | (refine dq ?_; kernel_rfl) | (intros; simp_all; done))))
  refine callF_pure (k_children b (by omega) k) ?_
  simp only [zN, seval, Nat.reduceLeDiff, Nat.reduceEqDiff, reduceCtorEq, reduceIte, stR, intD, ← hx, ← hy]
  refine for_of x.length (fun j => [(0, .ptr 0 0), (6, .d (.sl (x.map intD))), (7, .d (.sl (y.map intD))), (8, .d (.int .i64 j))]) (fun j => stR a b (ph1 a b y (x.take j) s)) (fun _ => True) trivial ?_ ?_
  ·refine weak_to [] [0, 1, 2] rfl (by simp) ?_ rfl
   simp only [zN, seval, Nat.reduceLeDiff, Nat.reduceEqDiff, reduceCtorEq, reduceIte, stR, intD, Int.cast_ofNat_Int]
   done
  ·intro j _ hj
   by_cases h : j < x.length
   ·obtain ⟨p, hp⟩ : ∃ p, p = x.getD j default := ⟨_, rfl⟩
    have hpl : p < a.length := by rw [hp]; exact hxl _ (mem_getD h)
    obtain ⟨s1, hs1⟩ : ∃ s1, s1 = ph1 a b y (x.take j) s := ⟨_, rfl⟩
    have hz1 : Sz a b s1 := by rw [hs1]; exact sz_ph1 _ hs
    have hst := ph1_step a b y x s h
    rw [← hp, ← hs1] at hst
    have gx : (x.map intD).getD j default = .int .i64 p := by rw [a_getD _ _ _ h, ← hp]; rfl
    have gp : (a.map NodeT.toD).getD p default = (a.getD p default).toD := a_getD _ _ _ hpl
    have np : nm a p = (a.getD p default).name := rfl
    rw [← hs1, hst]
    simp only [zN, seval, Nat.reduceLeDiff, Nat.reduceEqDiff, reduceCtorEq, reduceIte, stR, intD, (show (j:Int) < x.length by omega)]
    refine for_of y.length (fun q => [(0, .ptr 0 0), (6, .d (.sl (x.map intD))), (7, .d (.sl (y.map intD))), (8, .d (.int .i64 j)), (9, .d (.int .i64 q))]) (fun q => stR a b (opS s1 p ((y.take q).find? fun q => nm b q == nm a p))) (fun _ => True) trivial ?_ ?_
    ·refine weak_to [] [0, 1, 2] rfl (by simp) ?_ rfl
     simp only [zN, seval, Nat.reduceLeDiff, Nat.reduceEqDiff, reduceCtorEq, reduceIte, stR, intD, Int.cast_ofNat_Int]
    ·intro q _ hq
     obtain ⟨s2, hs2⟩ : ∃ s2, s2 = opS s1 p ((y.take q).find? fun q => nm b q == nm a p) := ⟨_, rfl⟩
     have hz2 : Sz a b s2 := by rw [hs2]; exact hz1.op _ _
     rw [← hs2]
     by_cases h2 : q < y.length
     ·obtain ⟨r, hr⟩ : ∃ r, r = y.getD q default := ⟨_, rfl⟩
      have hrl : r < b.length := by rw [hr]; exact hyl _ (mem_getD h2)
      have gy : (y.map intD).getD q default = .int .i64 r := by rw [a_getD _ _ _ h2, ← hr]; rfl
      have gr : (b.map NodeT.toD).getD r default = (b.getD r default).toD := a_getD _ _ _ hrl
      have nr : nm b r = (b.getD r default).name := rfl
      have hcs := c1_step (a := a) hB k s1 p (j := q) (by rw [← hy]; exact h2)
      rw [← hy, ← hr, ← hs2] at hcs
      rw [hcs]
      simp only [zN, seval, Nat.reduceLeDiff, Nat.reduceEqDiff, reduceCtorEq, reduceIte, stR, intD, (show (q:Int) < y.length by omega), (show (j:Int) < x.length by omega), h, h2, gx, gy, gp, gr, hpl, hrl, (show (p:Int) < a.length by omega), (show (r:Int) < b.length by omega)]
      repeat ((with_reducible refine And.intro ?_ ?_); (focus (first | omega | (simp only [lenR]; omega) | (refine qq ?_; rfl) | (refine dq ?_; kernel_rfl) | (intros; simp_all; done))))
      refine ifC.mk (fun h3 => ?_) (fun h3 => ?_)
      ·have h3 : nm a p = nm b r := by rw [np, nr]; simpa using h3
       rw [if_pos h3]
       repeat ((with_reducible refine And.intro ?_ ?_); (focus (first | omega | (simp only [lenR]; omega) | (refine qq ?_; rfl) | (refine dq ?_; kernel_rfl) | (intros; simp_all; done))))
       (try simp only [zN, seval, Nat.reduceLeDiff, Nat.reduceEqDiff, reduceCtorEq, reduceIte, stR, intD, h, h2, gx, gy, (show (q:Int) < y.length by omega), (show (j:Int) < x.length by omega)])
       repeat ((with_reducible refine And.intro ?_ ?_); (focus (first | omega | (simp only [lenR]; omega) | (refine qq ?_; rfl) | (refine dq ?_; kernel_rfl) | (intros; simp_all; done))))
       refine callF_last (by kernel_rfl) ((k_Rpair a b (by omega) (by omega) s2 hz2 p r hpl hrl).mono fun r' s' hrs => ?_)
       obtain ⟨rfl, rfl⟩ := hrs
       simp only [zN, seval, Nat.reduceLeDiff, Nat.reduceEqDiff, reduceCtorEq, reduceIte, stR, intD]
       refine weak_to [] [0, 1, 2] rfl (by simp) ?_ rfl
       simp only [zN, seval, Nat.reduceLeDiff, Nat.reduceEqDiff, reduceCtorEq, reduceIte, stR, intD, @a_wrap ((q:Int) + 1) (by omega)]
      ·have h3 : ¬ nm a p = nm b r := by rw [np, nr]; simpa using h3
       rw [if_neg h3]
       refine weak_to [] [0, 1, 2] rfl (by simp) ?_ rfl
       simp only [zN, seval, Nat.reduceLeDiff, Nat.reduceEqDiff, reduceCtorEq, reduceIte, stR, intD, @a_wrap ((q:Int) + 1) (by omega)]
     ·have : q = y.length := by omega
      subst this
      have hc1 : c1 a b y p = (y.take y.length).find? fun q => nm b q == nm a p := by rw [List.take_length]; rfl
      rw [← hc1] at hs2
      rw [← hs2]
      simp only [zN, seval, Nat.reduceLeDiff, Nat.reduceEqDiff, reduceCtorEq, reduceIte, stR, intD, (show ¬ (y.length:Int) < y.length by omega)]
      refine ⟨h, ?_⟩
      refine weak_to [] [0, 1, 2] rfl (by simp) ?_ rfl
      simp only [zN, seval, Nat.reduceLeDiff, Nat.reduceEqDiff, reduceCtorEq, reduceIte, stR, intD, @a_wrap ((j:Int) + 1) (by omega)]
   ·have : j = x.length := by omega
    subst this
    rw [List.take_length]
    obtain ⟨s1, hs1⟩ : ∃ s1, s1 = ph1 a b y x s := ⟨_, rfl⟩
    have hz1 : Sz a b s1 := by rw [hs1]; exact sz_ph1 _ hs
    rw [← hs1]
    simp only [zN, seval, Nat.reduceLeDiff, Nat.reduceEqDiff, reduceCtorEq, reduceIte, stR, intD, (show ¬ (x.length:Int) < x.length by omega)]
    refine for_of x.length (fun j => [(0, .ptr 0 0), (6, .d (.sl (x.map intD))), (7, .d (.sl (y.map intD))), (10, .d (.int .i64 j))]) (fun j => stR a b (ph2 a b y (x.take j) s1)) (fun _ => True) trivial ?_ ?_
    ·refine weak_to [] [0, 1, 2] rfl (by simp) ?_ rfl
     simp only [zN, seval, Nat.reduceLeDiff, Nat.reduceEqDiff, reduceCtorEq, reduceIte, stR, intD, Int.cast_ofNat_Int]
    ·intro j _ hj
     by_cases h : j < x.length
     ·obtain ⟨p, hp⟩ : ∃ p, p = x.getD j default := ⟨_, rfl⟩
      have hpl : p < a.length := by rw [hp]; exact hxl _ (mem_getD h)
      obtain ⟨s2, hs2⟩ : ∃ s2, s2 = ph2 a b y (x.take j) s1 := ⟨_, rfl⟩
      have hz2 : Sz a b s2 := by rw [hs2]; exact sz_ph2 _ hz1
      have hst := ph2_step a b y x s1 h
      rw [← hp, ← hs2] at hst
      have gx : (x.map intD).getD j default = .int .i64 p := by rw [a_getD _ _ _ h, ← hp]; rfl
      rw [← hs2, hst]
      simp only [zN, seval, Nat.reduceLeDiff, Nat.reduceEqDiff, reduceCtorEq, reduceIte, stR, intD, (show (j:Int) < x.length by omega), h, gx]
      repeat ((with_reducible refine And.intro ?_ ?_); (focus (first | omega | (simp only [lenR]; omega) | (refine qq ?_; rfl) | (refine dq ?_; kernel_rfl) | (intros; simp_all; done))))
      refine callF_pure (k_Rshape a ha hca p hpl) ?_
      simp only [zN, seval, Nat.reduceLeDiff, Nat.reduceEqDiff, reduceCtorEq, reduceIte, stR, intD]
      obtain ⟨P, hP⟩ : ∃ P : Nat → Bool, P = fun q => decide (s2.a q < 0) && (shp b q == shp a p) := ⟨_, rfl⟩
      have hc2 : c2 a b y s2 p = if s2.b p < 0 ∧ shp a p ≠ [] then y.find? P else none := by rw [hP]; rfl
      have hsl : (shp a p).length ≤ 100 := Nat.le_trans (shTo_len a p a.length) ha
      refine loop_of (τ := Nat × Al) (fun u => [(0, .ptr 0 0), (6, .d (.sl (x.map intD))), (7, .d (.sl (y.map intD))), (10, .d (.int .i64 j)), (11, .d (.sl ((shp a p).map .str))), (12, .d (.int .i64 u.1))]) (fun u => stR a b u.2)
       (fun u => u.1 ≤ y.length ∧ ((u.2 = s2 ∧ (y.take u.1).find? P = none) ∨ ∃ r, c2 a b y s2 p = some r ∧ u.2 = pairS s2 p r)) (fun u => y.length - u.1) (0, s2) ⟨Nat.zero_le _, .inl ⟨rfl, rfl⟩⟩ ?_ ?_
      ·refine weak_to [] [0, 1, 2] rfl (by simp) ?_ rfl
       simp only [zN, seval, Nat.reduceLeDiff, Nat.reduceEqDiff, reduceCtorEq, reduceIte, stR, intD, Int.cast_ofNat_Int]
      ·rintro ⟨q, t⟩ ⟨hq, hI⟩
       simp only at hq hI
       have hzt : Sz a b t := by
        rcases hI with ⟨rfl, _⟩ | ⟨r, hr, rfl⟩
        ·exact hz2
        ·exact hz2.op p (some r)
       have gb := b_get (s := t) (p := p) (by rw [hzt.1]; exact hpl)
       have hpt : p < t.toB.length := by rw [hzt.1]; exact hpl
       simp only [zN, seval, Nat.reduceLeDiff, Nat.reduceEqDiff, reduceCtorEq, reduceIte, stR, intD, h, gx, gb, hpt, (show (j:Int) < x.length by omega), (show (p:Int) < a.length by omega)]
       repeat ((with_reducible refine And.intro ?_ ?_); (focus (first | omega | (simp only [lenR]; omega) | (refine qq ?_; rfl) | (refine dq ?_; kernel_rfl) | (intros; simp_all; done))))
       refine ifC.mk (fun hc => ?_) (fun hc => ?_)
       ·have hc' : ((q < y.length) ∧ 0 < (shp a p).length) ∧ t.b p < 0 := by
         simp only [Bool.and_eq_true, decide_eq_true_eq] at hc; omega
        obtain ⟨⟨hql, hsp⟩, htb⟩ := hc'
        rcases hI with ⟨rfl, hn⟩ | ⟨r, hr, rfl⟩
        rotate_left
        ·exfalso
         have : (pairS s2 p r).b p = r := by rw [pair_b (by rw [hz2.1]; exact hpl), if_pos rfl]
         omega
        have hcc : c2 a b y t p = y.find? P := by rw [hc2, if_pos ⟨htb, fun e => by rw [e] at hsp; simp at hsp⟩]
        obtain ⟨r, hr⟩ : ∃ r, r = y.getD q default := ⟨_, rfl⟩
        have hrl : r < b.length := by rw [hr]; exact hyl _ (mem_getD hql)
        have gy : (y.map intD).getD q default = .int .i64 r := by rw [a_getD _ _ _ hql, ← hr]; rfl
        have ga := a_get (s := t) (p := r) (by rw [hz2.2]; exact hrl)
        have hra : r < t.toA.length := by rw [hz2.2]; exact hrl
        have hPr : P r = (decide (t.a r < 0) && (shp b r == shp a p)) := by rw [hP]
        have hfs := find_step P y hql
        rw [← hr, hn, Option.none_or, hPr] at hfs
        have hsl2 : (shp b r).length ≤ 100 := Nat.le_trans (shTo_len b r b.length) hb
        simp only [zN, seval, Nat.reduceLeDiff, Nat.reduceEqDiff, reduceCtorEq, reduceIte, stR, intD, hql, gy, ga, hra, (show (q:Int) < y.length by omega), (show (r:Int) < b.length by omega)]
        repeat ((with_reducible refine And.intro ?_ ?_); (focus (first | omega | (simp only [lenR]; omega) | (refine qq ?_; rfl) | (refine dq ?_; kernel_rfl) | (intros; simp_all; done))))
        refine callG_pure (fun _ => k_Rshape b hb hcb r hrl) ?_
        simp only [zN, seval, Nat.reduceLeDiff, Nat.reduceEqDiff, reduceCtorEq, reduceIte, stR, intD]
        refine callG_pure (fun _ => k_SameTexts (shp a p) (shp b r) (by omega) (by omega)) ?_
        simp only [zN, seval, Nat.reduceLeDiff, Nat.reduceEqDiff, reduceCtorEq, reduceIte, stR, intD]
        repeat ((with_reducible refine And.intro ?_ ?_); (focus (first | omega | (simp only [lenR]; omega) | (refine qq ?_; rfl) | (refine dq ?_; kernel_rfl) | (intros; simp_all; done))))
        have hdec : (decide (t.a r < 0) && decide (shp a p = shp b r)) = (decide (t.a r < 0) && (shp b r == shp a p)) := by
         congr 1
         rw [Bool.eq_iff_iff, decide_eq_true_iff, beq_iff_eq]; exact eq_comm
        rw [hdec]
        refine ifC.mk (fun hd => ?_) (fun hd => ?_)
        ·rw [if_pos hd] at hfs
         repeat ((with_reducible refine And.intro ?_ ?_); (focus (first | omega | (simp only [lenR]; omega) | (refine qq ?_; rfl) | (refine dq ?_; kernel_rfl) | (intros; simp_all; done))))
         (try simp only [zN, seval, Nat.reduceLeDiff, Nat.reduceEqDiff, reduceCtorEq, reduceIte, stR, intD, h, hql, gx, gy, (show (q:Int) < y.length by omega), (show (j:Int) < x.length by omega)])
         repeat ((with_reducible refine And.intro ?_ ?_); (focus (first | omega | (simp only [lenR]; omega) | (refine qq ?_; rfl) | (refine dq ?_; kernel_rfl) | (intros; simp_all; done))))
         refine callF_last (by kernel_rfl) ((k_Rpair a b (by omega) (by omega) t hz2 p r hpl hrl).mono fun r' s' hrs => ?_)
         obtain ⟨rfl, rfl⟩ := hrs
         simp only [zN, seval, Nat.reduceLeDiff, Nat.reduceEqDiff, reduceCtorEq, reduceIte, stR, intD]
         refine ⟨(q + 1, pairS t p r), ⟨hql, .inr ⟨r, by rw [hcc]; exact find_of_take P y (q + 1) hfs, rfl⟩⟩, by simp only; omega, ?_⟩
         refine weak_to [] [0, 1, 2] rfl (by simp) ?_ rfl
         simp only [zN, seval, Nat.reduceLeDiff, Nat.reduceEqDiff, reduceCtorEq, reduceIte, stR, intD, @a_wrap ((q:Int) + 1) (by omega)]
        ·rw [if_neg (by rw [hd]; simp)] at hfs
         refine ⟨(q + 1, t), ⟨hql, .inl ⟨rfl, hfs⟩⟩, by simp only; omega, ?_⟩
         refine weak_to [] [0, 1, 2] rfl (by simp) ?_ rfl
         simp only [zN, seval, Nat.reduceLeDiff, Nat.reduceEqDiff, reduceCtorEq, reduceIte, stR, intD, @a_wrap ((q:Int) + 1) (by omega)]
       ·have hc' : ¬ (((q < y.length) ∧ 0 < (shp a p).length) ∧ t.b p < 0) := fun g => by
         rw [Bool.eq_false_iff] at hc
         apply hc
         simp only [Bool.and_eq_true, decide_eq_true_eq]; omega
        have hfin : t = opS s2 p (c2 a b y s2 p) := by
         rcases hI with ⟨rfl, hn⟩ | ⟨r, hr, rfl⟩
         ·have : c2 a b y t p = none := by
           rw [hc2]
           split
           ·rename_i g
            have : q = y.length := by
             have hp0 : 0 < (shp a p).length := List.length_pos_iff.2 g.2
             have : ¬ q < y.length := fun g2 => hc' ⟨⟨g2, hp0⟩, g.1⟩
             omega
            rw [this, List.take_length] at hn
            exact hn
           ·rfl
          rw [this]; rfl
         ·rw [hr]; rfl
        rw [← hfin]
        refine weak_to [] [0, 1, 2] rfl (by simp) ?_ rfl
        simp only [zN, seval, Nat.reduceLeDiff, Nat.reduceEqDiff, reduceCtorEq, reduceIte, stR, intD, @a_wrap ((j:Int) + 1) (by omega)]
     ·have : j = x.length := by omega
      subst this
      rw [List.take_length]
      obtain ⟨s2, hs2⟩ : ∃ s2, s2 = ph2 a b y x s1 := ⟨_, rfl⟩
      have hz2 : Sz a b s2 := by rw [hs2]; exact sz_ph2 _ hz1
      rw [← hs2]
      obtain ⟨g, hg⟩ : ∃ g : Al → Nat → Al, g = fun (s : Al) (p : Nat) => if 0 ≤ s.b p then alignF a b f p (s.b p) s else s := ⟨_, rfl⟩
      have hgz : ∀ s p, Sz a b s → Sz a b (g s p) := fun s p h => by
       rw [hg]
       show Sz a b (if 0 ≤ s.b p then alignF a b f p (s.b p) s else s)
       split
       ·exact sz_align f _ _ h
       ·exact h
      have hfin : alignF a b (f + 1) i k s = x.foldl g s2 := by rw [hs2, hs1, hx, hy, hg]; rfl
      rw [hfin]
      simp only [zN, seval, Nat.reduceLeDiff, Nat.reduceEqDiff, reduceCtorEq, reduceIte, stR, intD, (show ¬ (x.length:Int) < x.length by omega)]
      refine for_of x.length (fun j => [(0, .ptr 0 0), (6, .d (.sl (x.map intD))), (13, .d (.int .i64 j))]) (fun j => stR a b ((x.take j).foldl g s2)) (fun _ => True) trivial ?_ ?_
      ·refine weak_to [] [0, 1, 2] rfl (by simp) ?_ rfl
       simp only [zN, seval, Nat.reduceLeDiff, Nat.reduceEqDiff, reduceCtorEq, reduceIte, stR, intD, Int.cast_ofNat_Int]
      ·intro j _ hj
       by_cases h : j < x.length
       ·obtain ⟨p, hp⟩ : ∃ p, p = x.getD j default := ⟨_, rfl⟩
        have hpx : p ∈ x := by rw [hp]; exact mem_getD h
        have hpl : p < a.length := hxl p hpx
        obtain ⟨t, ht⟩ : ∃ t, t = (x.take j).foldl g s2 := ⟨_, rfl⟩
        have hzt : Sz a b t := by rw [ht]; exact sz_foldl hgz _ hz2
        have hst := foldl_step g x s2 h
        rw [← hp, ← ht] at hst
        have gx : (x.map intD).getD j default = .int .i64 p := by rw [a_getD _ _ _ h, ← hp]; rfl
        have gb := b_get (s := t) (p := p) (by rw [hzt.1]; exact hpl)
        have hpt : p < t.toB.length := by rw [hzt.1]; exact hpl
        have hgt : g t p = if 0 ≤ t.b p then alignF a b f p (t.b p) t else t := by rw [hg]
        rw [← ht, hst, hgt]
        simp only [zN, seval, Nat.reduceLeDiff, Nat.reduceEqDiff, reduceCtorEq, reduceIte, stR, intD, (show (j:Int) < x.length by omega), h, gx, gb, hpt, (show (p:Int) < a.length by omega)]
        repeat ((with_reducible refine And.intro ?_ ?_); (focus (first | omega | (simp only [lenR]; omega) | (refine qq ?_; rfl) | (refine dq ?_; kernel_rfl) | (intros; simp_all; done))))
        refine ifC.mk (fun hc => ?_) (fun hc => ?_)
        ·have hc : 0 ≤ t.b p := of_decide_eq_true hc
         rw [if_pos hc]
         repeat ((with_reducible refine And.intro ?_ ?_); (focus (first | omega | (simp only [lenR]; omega) | (refine qq ?_; rfl) | (refine dq ?_; kernel_rfl) | (intros; simp_all; done))))
         (try simp only [zN, seval, Nat.reduceLeDiff, Nat.reduceEqDiff, reduceCtorEq, reduceIte, stR, intD, h, gx, gb, hpt, (show (j:Int) < x.length by omega), (show (p:Int) < a.length by omega)])
         repeat ((with_reducible refine And.intro ?_ ?_); (focus (first | omega | (simp only [lenR]; omega) | (refine qq ?_; rfl) | (refine dq ?_; kernel_rfl) | (intros; simp_all; done))))
         have hpi : i < p := by
          rw [hx] at hpx
          have h1 := (mem_kids.1 hpx).2
          have h2 := (tree_par hA.up hpl).2
          omega
         refine callF_last (by kernel_rfl) ((ih p (t.b p) t (by omega) (by omega) (by omega) hzt).mono fun r' s' hrs => ?_)
         obtain ⟨rfl, rfl⟩ := hrs
         simp only [zN, seval, Nat.reduceLeDiff, Nat.reduceEqDiff, reduceCtorEq, reduceIte, stR, intD]
         refine weak_to [] [0, 1, 2] rfl (by simp) ?_ rfl
         simp only [zN, seval, Nat.reduceLeDiff, Nat.reduceEqDiff, reduceCtorEq, reduceIte, stR, intD, @a_wrap ((j:Int) + 1) (by omega)]
        ·have hc : ¬ 0 ≤ t.b p := of_decide_eq_false hc
         rw [if_neg hc]
         refine weak_to [] [0, 1, 2] rfl (by simp) ?_ rfl
         simp only [zN, seval, Nat.reduceLeDiff, Nat.reduceEqDiff, reduceCtorEq, reduceIte, stR, intD, @a_wrap ((j:Int) + 1) (by omega)]
       ·have : j = x.length := by omega
        subst this
        rw [List.take_length]
        simp only [zN, seval, Nat.reduceLeDiff, Nat.reduceEqDiff, reduceCtorEq, reduceIte, stR, intD, (show ¬ (x.length:Int) < x.length by omega)]
        refine ⟨_, _, weakR_to [] [0, 1, 2] rfl (by simp) rfl rfl, rfl, rfl⟩

def rnB (a b : List NodeT) (x : PairT) : Bool := decide (0 ≤ x.a) && decide (x.a < a.length) && decide (0 ≤ x.b) && decide (x.b < b.length) && (nm a x.a.toNat != nm b x.b.toNat)
def renamedF (a b : List NodeT) (l : List PairT) : List PairT := l.filter (rnB a b)
def shapeF (l : List NodeT) (i : Int) : List (List UInt8) := if checkF l = 0 ∧ 0 ≤ i ∧ i < l.length then shp l i.toNat else []

def pairsA (s : Al) (j : Nat) : List PairT := (List.range j).map fun i : Nat => (⟨(i : Int), s.b i⟩ : PairT)
def pairsB (s : Al) (j : Nat) : List PairT := ((List.range j).filter fun k : Nat => decide (s.a k < 0)).map fun k : Nat => (⟨-1, (k : Int)⟩ : PairT)
def pairsOf (a b : List NodeT) : List PairT := pairsA (finS a b) a.length ++ pairsB (finS a b) b.length
theorem pairsA_step (s : Al) (j : Nat) : pairsA s (j + 1) = pairsA s j ++ [⟨j, s.b j⟩] := by
 rw [pairsA, List.range_succ, List.map_append]; rfl
theorem pairsA_len (s : Al) (j : Nat) : (pairsA s j).length = j := by simp [pairsA]
theorem pairsB_step (s : Al) (j : Nat) : pairsB s (j + 1) = pairsB s j ++ if s.a j < 0 then [⟨-1, j⟩] else [] := by
 rw [pairsB, List.range_succ, List.filter_append, List.map_append]
 congr 1
 by_cases e : s.a j < 0
 ·rw [if_pos e, List.filter_cons_of_pos (by simpa using e)]; rfl
 ·rw [if_neg e, List.filter_cons_of_neg (by simpa using e)]; rfl
theorem pairsB_len (s : Al) (j : Nat) : (pairsB s j).length ≤ j := by
 rw [pairsB, List.length_map]
 exact Nat.le_trans (List.length_filter_le _ _) (by simp)
def pairsC (t : Al) (n j : Nat) : List PairT := pairsA t n ++ pairsB t j
theorem pairsC_0 (t : Al) (n : Nat) : pairsC t n 0 = pairsA t n := by rw [pairsC, show pairsB t 0 = [] from rfl, List.append_nil]
theorem pairsC_step (t : Al) (n j : Nat) : pairsC t n (j + 1) = if t.a j < 0 then pairsC t n j ++ [⟨-1, j⟩] else pairsC t n j := by
 rw [pairsC, pairsB_step]
 by_cases e : t.a j < 0
 ·rw [if_pos e, if_pos e, pairsC, List.append_assoc]
 ·rw [if_neg e, if_neg e, pairsC, List.append_nil]
theorem pairsC_len (t : Al) (n j : Nat) : (pairsC t n j).length ≤ n + j := by
 have := pairsB_len t j
 rw [pairsC, List.length_append, pairsA_len]; omega
def ofF (a b : List NodeT) : List PairT × Int := if checkF a = 0 then (if checkF b = 0 then (pairsOf a b, 0) else ([], checkF b)) else ([], checkF a)
def ofD (a b : List NodeT) : AV := .tup [.d (.sl ((ofF a b).1.map PairT.toD)), .d (.int .i64 (ofF a b).2)]
theorem iniS_R (a b : List NodeT) : stR a b (iniS a.length b.length) = [.box 4 (.agg [.d (.sl (a.map NodeT.toD)), .d (.sl (b.map NodeT.toD)), .osl 1 0 a.length, .osl 2 0 b.length]), .arr 1 (List.replicate a.length (.int .i64 (-1))), .arr 1 (List.replicate b.length (.int .i64 (-1)))] := by
 simp only [stR, iniS, List.map_replicate]
theorem ini_sz (a b : List NodeT) : Sz a b (iniS a.length b.length) := by simp [Sz, iniS]
theorem k_ROf (a b : List NodeT) (ha : a.length ≤ 100) (hb : b.length ≤ 100) : Pure Tryz.prog Gl 26 [.d (.sl (a.map NodeT.toD)), .d (.sl (b.map NodeT.toD))] (ofD a b) := by
 refine Pure.of2t2 ?_
 refine acalls_of Tryz.func26 rfl rfl (by simp [Tryz.ntmps26]) (evC_sound rfl _ _ _ _ ?_)
 simp only [Tryz.ntmps26, Tryz.results26, argEnv, List.length_nil]
 simp only [zN, seval, Nat.reduceLeDiff, Nat.reduceEqDiff, reduceCtorEq, reduceIte, intD]
 refine callF_pure (k_RCheck a (by omega)) ?_
 simp only [zN, seval, Nat.reduceLeDiff, Nat.reduceEqDiff, reduceCtorEq, reduceIte, intD]
 refine ifC.mk (fun h1 => ?_) (fun h1 => ?_)
 ·have h1 : ¬ checkF a = 0 := by simpa using h1
  refine ⟨_, _, ret_tdata rfl rfl, ?_, rfl⟩
  rw [ofF, if_neg h1]; rfl
 have h1 : checkF a = 0 := by simpa using h1
 refine callF_pure (k_RCheck b (by omega)) ?_
 simp only [zN, seval, Nat.reduceLeDiff, Nat.reduceEqDiff, reduceCtorEq, reduceIte, intD]
 refine ifC.mk (fun h2 => ?_) (fun h2 => ?_)
 ·have h2 : ¬ checkF b = 0 := by simpa using h2
  refine ⟨_, _, ret_tdata rfl rfl, ?_, rfl⟩
  rw [ofF, if_pos h1, if_neg h2]; rfl
 have h2 : checkF b = 0 := by simpa using h2
 have hof : ofF a b = (pairsOf a b, 0) := by rw [ofF, if_pos h1, if_pos h2]
 rw [hof]
 repeat ((with_reducible refine And.intro ?_ ?_); (focus (first | omega | (simp only [lenR]; omega) | (refine qq ?_; rfl) | (refine dq ?_; kernel_rfl) | (intros; simp_all; done))))
 refine callF_go ((k_none a.length (by omega) _).mono fun r s hrs => ?_)
 obtain ⟨rfl, rfl⟩ := hrs
 simp only [zN, seval, Nat.reduceLeDiff, Nat.reduceEqDiff, reduceCtorEq, reduceIte, intD, List.length_replicate]
 repeat ((with_reducible refine And.intro ?_ ?_); (focus (first | omega | (simp only [lenR]; omega) | (refine qq ?_; rfl) | (refine dq ?_; kernel_rfl) | (intros; simp_all; done))))
 refine callF_go ((k_none b.length (by omega) _).mono fun r s hrs => ?_)
 obtain ⟨rfl, rfl⟩ := hrs
 simp only [zN, seval, Nat.reduceLeDiff, Nat.reduceEqDiff, reduceCtorEq, reduceIte, intD, List.length_replicate]
 repeat ((with_reducible refine And.intro ?_ ?_); (focus (first | omega | (simp only [lenR]; omega) | (refine qq ?_; rfl) | (refine dq ?_; kernel_rfl) | (intros; simp_all; done))))
 have hk := k_Ralign (Gl := Gl) a b ha hb h1 h2 (a.length + 1) (-1) (-1) (iniS a.length b.length) (by omega) (by omega) (by omega) (ini_sz a b)
 rw [iniS_R] at hk
 refine callF_go ((ACalls.under [2, 0, 1] (by decide) (by simp) hk).mono fun r s hrs => ?_)
 obtain ⟨r0, s0, ⟨rfl, rfl⟩, rfl, rfl⟩ := hrs
 obtain ⟨t, ht⟩ : ∃ t, t = finS a b := ⟨_, rfl⟩
 have ht2 : alignF a b (a.length + 1) (-1) (-1) (iniS a.length b.length) = t := ht.symm
 have hzt : Sz a b t := by rw [ht]; exact sz_align _ _ _ (ini_sz a b)
 rw [ht2]
 have hbk : backS [2, 0, 1] [Blk.arr 1 (List.replicate a.length (D.int IntKind.i64 (-1))), Blk.arr 1 (List.replicate b.length (D.int IntKind.i64 (-1))), Blk.box 4 (.agg [.d (.sl (a.map NodeT.toD)), .d (.sl (b.map NodeT.toD)), .osl 0 0 a.length, .osl 1 0 b.length])] (stR a b t)
  = [.arr 1 (t.toB.map (.int .i64)), .arr 1 (t.toA.map (.int .i64)), .box 4 (.agg [.d (.sl (a.map NodeT.toD)), .d (.sl (b.map NodeT.toD)), .osl 0 0 a.length, .osl 1 0 b.length])] := rfl
 rw [hbk]
 have hpo : pairsOf a b = pairsC t a.length b.length := by rw [pairsOf, ← ht]; rfl
 rw [hpo]
 simp only [zN, seval, Nat.reduceLeDiff, Nat.reduceEqDiff, reduceCtorEq, reduceIte, intD]
 refine for_of a.length (fun j => [(0, .d (.sl (a.map NodeT.toD))), (1, .d (.sl (b.map NodeT.toD))), (7, .ptr 2 0), (8, .osl 3 0 (pairsA t j).length), (9, .d (.int .i64 j))]) (fun j => [.arr 1 (t.toB.map (.int .i64)), .arr 1 (t.toA.map (.int .i64)), .box 4 (.agg [.d (.sl (a.map NodeT.toD)), .d (.sl (b.map NodeT.toD)), .osl 0 0 a.length, .osl 1 0 b.length]), .arr 2 ((pairsA t j).map PairT.toD)]) (fun j => True) trivial ?_ ?_
 ·refine (weak_nils 8 2 rfl).trans ?_
  refine weak_to [] [0, 1, 2, 3] rfl (by simp) ?_ rfl
  simp only [zN, seval, Nat.reduceLeDiff, Nat.reduceEqDiff, reduceCtorEq, reduceIte, intD, Int.cast_ofNat_Int]
  try rfl
 ·intro j _ hjl
  have hlen := pairsA_len t j
  by_cases hj : j < a.length
  ·have hst := pairsA_step t j
   have gb := b_get (s := t) (p := j) (by rw [hzt.1]; exact hj)
   have hjt : j < t.toB.length := by rw [hzt.1]; exact hj
   have hsl : (pairsA t (j + 1)).length = (pairsA t j).length + 1 := by rw [hst]; simp
   have hm : (pairsA t (j + 1)).map PairT.toD = List.take (pairsA t j).length ((pairsA t j).map PairT.toD) ++ [.agg [.int .i64 j, .int .i64 (t.b j)]] := by
    rw [hst, List.map_append, take_all]; rfl
   simp only [zN, seval, Nat.reduceLeDiff, Nat.reduceEqDiff, reduceCtorEq, reduceIte, intD, (show (j:Int) < a.length by omega), gb, hjt]
   repeat ((with_reducible refine And.intro ?_ ?_); (focus (first | omega | (simp only [lenR]; omega) | (refine qq ?_; rfl) | (refine dq ?_; kernel_rfl) | (intros; simp_all; done))))
   rw [hsl, hm]
   refine weak_to [] [0, 1, 2, 5] rfl (by simp) ?_ rfl
   simp only [zN, seval, Nat.reduceLeDiff, Nat.reduceEqDiff, reduceCtorEq, reduceIte, intD, @a_wrap ((j:Int) + 1) (by omega)]
   try rfl
  ·have : j = a.length := by omega
   subst this
   simp only [zN, seval, Nat.reduceLeDiff, Nat.reduceEqDiff, reduceCtorEq, reduceIte, intD, (show ¬ (a.length:Int) < a.length by omega)]
   refine for_of b.length (fun j => [(1, .d (.sl (b.map NodeT.toD))), (7, .ptr 2 0), (8, .osl 3 0 (pairsC t a.length j).length), (10, .d (.int .i64 j))]) (fun j => [.arr 1 (t.toB.map (.int .i64)), .arr 1 (t.toA.map (.int .i64)), .box 4 (.agg [.d (.sl (a.map NodeT.toD)), .d (.sl (b.map NodeT.toD)), .osl 0 0 a.length, .osl 1 0 b.length]), .arr 2 ((pairsC t a.length j).map PairT.toD)]) (fun j => True) trivial ?_ ?_
   ·refine weak_to [] [0, 1, 2, 3] rfl (by simp) ?_ ?_
    ·simp only [zN, seval, Nat.reduceLeDiff, Nat.reduceEqDiff, reduceCtorEq, reduceIte, intD, Int.cast_ofNat_Int, pairsC_0]
    ·rw [pairsC_0]; rfl
   ·intro j _ hjl
    have hlenC := pairsC_len t a.length j
    by_cases hj : j < b.length
    ·have hst := pairsC_step t a.length j
     have ga := a_get (s := t) (p := j) (by rw [hzt.2]; exact hj)
     have hjt : j < t.toA.length := by rw [hzt.2]; exact hj
     simp only [zN, seval, Nat.reduceLeDiff, Nat.reduceEqDiff, reduceCtorEq, reduceIte, intD, (show (j:Int) < b.length by omega), ga, hjt]
     repeat ((with_reducible refine And.intro ?_ ?_); (focus (first | omega | (simp only [lenR]; omega) | (refine qq ?_; rfl) | (refine dq ?_; kernel_rfl) | (intros; simp_all; done))))
     refine ifC.mk (fun h3 => ?_) (fun h3 => ?_)
     ·have h3 : t.a j < 0 := of_decide_eq_true h3
      rw [if_pos h3] at hst
      have hsl : (pairsC t a.length (j + 1)).length = (pairsC t a.length j).length + 1 := by rw [hst]; simp
      have hm : (pairsC t a.length (j + 1)).map PairT.toD = List.take (pairsC t a.length j).length ((pairsC t a.length j).map PairT.toD) ++ [.agg [.int .i64 (-1), .int .i64 j]] := by
       rw [hst, List.map_append, take_all]; rfl
      (try simp only [zN, seval, Nat.reduceLeDiff, Nat.reduceEqDiff, reduceCtorEq, reduceIte, intD])
      repeat ((with_reducible refine And.intro ?_ ?_); (focus (first | omega | (simp only [lenR]; omega) | (refine qq ?_; rfl) | (refine dq ?_; kernel_rfl) | (intros; simp_all; done))))
      rw [hsl, hm]
      refine weak_to [] [0, 1, 2, 5] rfl (by simp) ?_ rfl
      simp only [zN, seval, Nat.reduceLeDiff, Nat.reduceEqDiff, reduceCtorEq, reduceIte, intD, @a_wrap ((j:Int) + 1) (by omega)]
      try rfl
     ·have h3 : ¬ t.a j < 0 := of_decide_eq_false h3
      rw [if_neg h3] at hst
      repeat ((with_reducible refine And.intro ?_ ?_); (focus (first | omega | (simp only [lenR]; omega) | (refine qq ?_; rfl) | (refine dq ?_; kernel_rfl) | (intros; simp_all; done))))
      rw [hst]
      refine weak_to [] [0, 1, 2, 3] rfl (by simp) ?_ rfl
      simp only [zN, seval, Nat.reduceLeDiff, Nat.reduceEqDiff, reduceCtorEq, reduceIte, intD, @a_wrap ((j:Int) + 1) (by omega)]
      try rfl
    ·have : j = b.length := by omega
     subst this
     simp only [zN, seval, Nat.reduceLeDiff, Nat.reduceEqDiff, reduceCtorEq, reduceIte, intD, (show ¬ (b.length:Int) < b.length by omega)]
     refine ⟨_, _, ret_tdata rfl (x := .sl ((pairsC t a.length b.length).map PairT.toD)) ?_, rfl, rfl⟩
     show D.sl (List.take (pairsC t a.length b.length).length ((pairsC t a.length b.length).map PairT.toD)) = _
     rw [take_all]

def pa (l : List PairT) (i : Nat) : Int := (l.getD i default).a
def pb (l : List PairT) (i : Nat) : Int := (l.getD i default).b
def tkn (l : List PairT) (i : Nat) (k : Int) : Bool := (List.range i).any fun j => pb l j == k
def preI (m : Nat) (l : List PairT) (i : Nat) : Bool := pa l i == (i : Int) && decide (-1 ≤ pb l i) && decide (pb l i < m) && (decide (pb l i < 0) || !tkn l i (pb l i))
def parB (l : List PairT) (up other : Int) : Bool := ((up == -1) == (other == -1)) && ((if up = -1 then -1 else pb l up.toNat) == other)
def parI (a b : List NodeT) (l : List PairT) (i : Nat) : Bool := decide (pb l i < 0) || parB l (par a i) (par b (pb l i).toNat)
def unt (l : List PairT) (n j : Nat) : List Nat := (List.range j).filter fun k : Nat => !tkn l n k
def tailP (us : List Nat) : List PairT := us.map fun k : Nat => (⟨-1, (k : Int)⟩ : PairT)
def checkAl (a b : List NodeT) (l : List PairT) : Bool := decide (checkF a = 0) && decide (checkF b = 0) && decide (a.length ≤ l.length) && (List.range a.length).all (preI b.length l) && (List.range a.length).all (parI a b l) && decide (l.drop a.length = tailP (unt l a.length b.length))
def TailOk (l : List PairT) (n j : Nat) : Prop := (unt l n j).length ≤ (l.drop n).length ∧ (l.drop n).take (unt l n j).length = tailP (unt l n j)
def toF (l : List PairT) : Nat → Int → Int
 | 0, _ => -1
 | i + 1, k => if pb l i = k then i else toF l i k

def toL (l : List PairT) (i m : Nat) : List D := (List.range m).map fun k : Nat => .int .i64 (toF l i (k : Int))
def tailN (l : List PairT) (n k : Nat) : Nat := n + (unt l n k).length

def chk2 (a b : List NodeT) : Int := if checkF a = 0 then checkF b else checkF a
theorem k_chk2 (a b : List NodeT) (ha : a.length < 1000000) (hb : b.length < 1000000) : Pure Tryz.prog Gl 44 [.d (.sl (a.map NodeT.toD)), .d (.sl (b.map NodeT.toD))] (.d (.int .i64 (chk2 a b))) := by
 refine Pure.of2 ?_
 refine acalls_of Tryz.func44 rfl rfl (by simp [Tryz.ntmps44]) (evC_sound rfl _ _ _ _ ?_)
 simp only [Tryz.ntmps44, Tryz.results44, argEnv, List.length_nil]
 simp only [zN, seval, Nat.reduceLeDiff, Nat.reduceEqDiff, reduceCtorEq, reduceIte, intD]
 refine callF_pure (k_flameCheck a ha) ?_
 simp only [zN, seval, Nat.reduceLeDiff, Nat.reduceEqDiff, reduceCtorEq, reduceIte, intD]
 refine ifC.mk (fun h1 => ?_) (fun h1 => ?_)
 ·have h1 : ¬ checkF a = 0 := by simpa using h1
  refine ⟨_, _, ret_d, ?_, rfl⟩
  rw [chk2, if_neg h1]
 ·have h1 : checkF a = 0 := by simpa using h1
  refine callF_pure (k_flameCheck b hb) ?_
  simp only [zN, seval, Nat.reduceLeDiff, Nat.reduceEqDiff, reduceCtorEq, reduceIte, intD]
  refine ⟨_, _, ret_d, ?_, rfl⟩
  rw [chk2, if_pos h1]
def tkL (l : List PairT) (i m : Nat) : List D := (List.range m).map fun k : Nat => .bool (tkn l i (k : Int))
end YtmedpoeeoihfmaaGreatDoor
end Go.Proofs
