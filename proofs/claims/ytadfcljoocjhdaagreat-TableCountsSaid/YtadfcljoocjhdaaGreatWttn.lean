/- A part of the proof: contracts of functions of this seat, and lemmas. No condition beyond those stated. -/
import Derived.Test.YtadfcljoocjhdaaGreatWttk
set_option linter.unusedVariables false
set_option linter.unusedSimpArgs false
set_option linter.unusedSectionVars false
set_option linter.unnecessarySimpa false
set_option maxRecDepth 100000
namespace Go.Proofs
open Go.AM
namespace YtadfcljoocjhdaaGreat
variable {Gl : Globs}
theorem c_sli2_0 (a0 a1 : Blk) : ACalls Tryz.prog Gl 44 [.ptr 2 0, .d (.int .i64 2), .osl 3 0 4] [a0, a1, .box 2 (.agg [.nils, .nils]), .arr 1 ([([105, 100] : List UInt8), ([116, 104, 114, 101, 97, 100] : List UInt8), ([112, 97, 114, 101, 110, 116] : List UInt8), ([100, 101, 112, 116, 104] : List UInt8)].map .str)] (fun r s => r = .ptr 2 0 ∧ s = [a0, a1, .box 2 (.agg [.osl 4 0 4, .nils]), .frz 1 ([([105, 100] : List UInt8), ([116, 104, 114, 101, 97, 100] : List UInt8), ([112, 97, 114, 101, 110, 116] : List UInt8), ([100, 101, 112, 116, 104] : List UInt8)].map .str), .arr 2 ([(⟨[105, 100], 2⟩ : ColT), (⟨[116, 104, 114, 101, 97, 100], 2⟩ : ColT), (⟨[112, 97, 114, 101, 110, 116], 2⟩ : ColT), (⟨[100, 101, 112, 116, 104], 2⟩ : ColT)].map ColT.toD)]) := by
 refine (ACalls.data (show ACalls Tryz.prog Gl 44 [.ptr 2 0, .d (.int .i64 2), .d (.sl ([([105, 100] : List UInt8), ([116, 104, 114, 101, 97, 100] : List UInt8), ([112, 97, 114, 101, 110, 116] : List UInt8), ([100, 101, 112, 116, 104] : List UInt8)].map .str))] [a0, a1, .box 2 (.agg [.nils, .nils]), .frz 1 ([([105, 100] : List UInt8), ([116, 104, 114, 101, 97, 100] : List UInt8), ([112, 97, 114, 101, 110, 116] : List UInt8), ([100, 101, 112, 116, 104] : List UInt8)].map .str)] _ from ACalls.under [2] (by decide) (by simp) (k_cols0 2 [([105, 100] : List UInt8), ([116, 104, 114, 101, 97, 100] : List UInt8), ([112, 97, 114, 101, 110, 116] : List UInt8), ([100, 101, 112, 116, 104] : List UInt8)] (by decide)))).mono fun r s h => ?_
 obtain ⟨r0, s0, ⟨rfl, rfl⟩, rfl, rfl⟩ := h
 exact ⟨rfl, rfl⟩
theorem c_sli2_1 (a0 a1 : Blk) : ACalls Tryz.prog Gl 44 [.ptr 2 0, .d (.int .i64 3), .osl 5 0 1] [a0, a1, .box 2 (.agg [.osl 4 0 4, .nils]), .frz 1 ([([105, 100] : List UInt8), ([116, 104, 114, 101, 97, 100] : List UInt8), ([112, 97, 114, 101, 110, 116] : List UInt8), ([100, 101, 112, 116, 104] : List UInt8)].map .str), .arr 2 ([(⟨[105, 100], 2⟩ : ColT), (⟨[116, 104, 114, 101, 97, 100], 2⟩ : ColT), (⟨[112, 97, 114, 101, 110, 116], 2⟩ : ColT), (⟨[100, 101, 112, 116, 104], 2⟩ : ColT)].map ColT.toD), .arr 1 ([([110, 97, 109, 101] : List UInt8)].map .str)] (fun r s => r = .ptr 2 0 ∧ s = [a0, a1, .box 2 (.agg [.osl 6 0 5, .nils]), .frz 1 ([([105, 100] : List UInt8), ([116, 104, 114, 101, 97, 100] : List UInt8), ([112, 97, 114, 101, 110, 116] : List UInt8), ([100, 101, 112, 116, 104] : List UInt8)].map .str), .dead, .frz 1 ([([110, 97, 109, 101] : List UInt8)].map .str), .arr 2 ([(⟨[105, 100], 2⟩ : ColT), (⟨[116, 104, 114, 101, 97, 100], 2⟩ : ColT), (⟨[112, 97, 114, 101, 110, 116], 2⟩ : ColT), (⟨[100, 101, 112, 116, 104], 2⟩ : ColT), (⟨[110, 97, 109, 101], 3⟩ : ColT)].map ColT.toD)]) := by
 refine (ACalls.data (show ACalls Tryz.prog Gl 44 [.ptr 2 0, .d (.int .i64 3), .d (.sl ([([110, 97, 109, 101] : List UInt8)].map .str))] [a0, a1, .box 2 (.agg [.osl 4 0 4, .nils]), .frz 1 ([([105, 100] : List UInt8), ([116, 104, 114, 101, 97, 100] : List UInt8), ([112, 97, 114, 101, 110, 116] : List UInt8), ([100, 101, 112, 116, 104] : List UInt8)].map .str), .arr 2 ([(⟨[105, 100], 2⟩ : ColT), (⟨[116, 104, 114, 101, 97, 100], 2⟩ : ColT), (⟨[112, 97, 114, 101, 110, 116], 2⟩ : ColT), (⟨[100, 101, 112, 116, 104], 2⟩ : ColT)].map ColT.toD), .frz 1 ([([110, 97, 109, 101] : List UInt8)].map .str)] _ from ACalls.under [2, 4] (by decide) (by simp) (k_cols 3 [(⟨[105, 100], 2⟩ : ColT), (⟨[116, 104, 114, 101, 97, 100], 2⟩ : ColT), (⟨[112, 97, 114, 101, 110, 116], 2⟩ : ColT), (⟨[100, 101, 112, 116, 104], 2⟩ : ColT)] [([110, 97, 109, 101] : List UInt8)] (by decide) (by decide) (by decide)))).mono fun r s h => ?_
 obtain ⟨r0, s0, ⟨rfl, rfl⟩, rfl, rfl⟩ := h
 exact ⟨rfl, rfl⟩
theorem c_sli2_2 (a0 a1 : Blk) : ACalls Tryz.prog Gl 44 [.ptr 2 0, .d (.int .i64 2), .osl 7 0 3] [a0, a1, .box 2 (.agg [.osl 6 0 5, .nils]), .frz 1 ([([105, 100] : List UInt8), ([116, 104, 114, 101, 97, 100] : List UInt8), ([112, 97, 114, 101, 110, 116] : List UInt8), ([100, 101, 112, 116, 104] : List UInt8)].map .str), .dead, .frz 1 ([([110, 97, 109, 101] : List UInt8)].map .str), .arr 2 ([(⟨[105, 100], 2⟩ : ColT), (⟨[116, 104, 114, 101, 97, 100], 2⟩ : ColT), (⟨[112, 97, 114, 101, 110, 116], 2⟩ : ColT), (⟨[100, 101, 112, 116, 104], 2⟩ : ColT), (⟨[110, 97, 109, 101], 3⟩ : ColT)].map ColT.toD), .arr 1 ([([102, 114, 111, 109] : List UInt8), ([116, 111] : List UInt8), ([115, 101, 108, 102] : List UInt8)].map .str)] (fun r s => r = .ptr 2 0 ∧ s = [a0, a1, .box 2 (.agg [.osl 8 0 8, .nils]), .frz 1 ([([105, 100] : List UInt8), ([116, 104, 114, 101, 97, 100] : List UInt8), ([112, 97, 114, 101, 110, 116] : List UInt8), ([100, 101, 112, 116, 104] : List UInt8)].map .str), .dead, .frz 1 ([([110, 97, 109, 101] : List UInt8)].map .str), .dead, .frz 1 ([([102, 114, 111, 109] : List UInt8), ([116, 111] : List UInt8), ([115, 101, 108, 102] : List UInt8)].map .str), .arr 2 ([(⟨[105, 100], 2⟩ : ColT), (⟨[116, 104, 114, 101, 97, 100], 2⟩ : ColT), (⟨[112, 97, 114, 101, 110, 116], 2⟩ : ColT), (⟨[100, 101, 112, 116, 104], 2⟩ : ColT), (⟨[110, 97, 109, 101], 3⟩ : ColT), (⟨[102, 114, 111, 109], 2⟩ : ColT), (⟨[116, 111], 2⟩ : ColT), (⟨[115, 101, 108, 102], 2⟩ : ColT)].map ColT.toD)]) := by
 refine (ACalls.data (show ACalls Tryz.prog Gl 44 [.ptr 2 0, .d (.int .i64 2), .d (.sl ([([102, 114, 111, 109] : List UInt8), ([116, 111] : List UInt8), ([115, 101, 108, 102] : List UInt8)].map .str))] [a0, a1, .box 2 (.agg [.osl 6 0 5, .nils]), .frz 1 ([([105, 100] : List UInt8), ([116, 104, 114, 101, 97, 100] : List UInt8), ([112, 97, 114, 101, 110, 116] : List UInt8), ([100, 101, 112, 116, 104] : List UInt8)].map .str), .dead, .frz 1 ([([110, 97, 109, 101] : List UInt8)].map .str), .arr 2 ([(⟨[105, 100], 2⟩ : ColT), (⟨[116, 104, 114, 101, 97, 100], 2⟩ : ColT), (⟨[112, 97, 114, 101, 110, 116], 2⟩ : ColT), (⟨[100, 101, 112, 116, 104], 2⟩ : ColT), (⟨[110, 97, 109, 101], 3⟩ : ColT)].map ColT.toD), .frz 1 ([([102, 114, 111, 109] : List UInt8), ([116, 111] : List UInt8), ([115, 101, 108, 102] : List UInt8)].map .str)] _ from ACalls.under [2, 6] (by decide) (by simp) (k_cols 2 [(⟨[105, 100], 2⟩ : ColT), (⟨[116, 104, 114, 101, 97, 100], 2⟩ : ColT), (⟨[112, 97, 114, 101, 110, 116], 2⟩ : ColT), (⟨[100, 101, 112, 116, 104], 2⟩ : ColT), (⟨[110, 97, 109, 101], 3⟩ : ColT)] [([102, 114, 111, 109] : List UInt8), ([116, 111] : List UInt8), ([115, 101, 108, 102] : List UInt8)] (by decide) (by decide) (by decide)))).mono fun r s h => ?_
 obtain ⟨r0, s0, ⟨rfl, rfl⟩, rfl, rfl⟩ := h
 exact ⟨rfl, rfl⟩
theorem c_sli2_3 (a0 a1 : Blk) : ACalls Tryz.prog Gl 44 [.ptr 2 0, .d (.int .i64 1), .osl 9 0 1] [a0, a1, .box 2 (.agg [.osl 8 0 8, .nils]), .frz 1 ([([105, 100] : List UInt8), ([116, 104, 114, 101, 97, 100] : List UInt8), ([112, 97, 114, 101, 110, 116] : List UInt8), ([100, 101, 112, 116, 104] : List UInt8)].map .str), .dead, .frz 1 ([([110, 97, 109, 101] : List UInt8)].map .str), .dead, .frz 1 ([([102, 114, 111, 109] : List UInt8), ([116, 111] : List UInt8), ([115, 101, 108, 102] : List UInt8)].map .str), .arr 2 ([(⟨[105, 100], 2⟩ : ColT), (⟨[116, 104, 114, 101, 97, 100], 2⟩ : ColT), (⟨[112, 97, 114, 101, 110, 116], 2⟩ : ColT), (⟨[100, 101, 112, 116, 104], 2⟩ : ColT), (⟨[110, 97, 109, 101], 3⟩ : ColT), (⟨[102, 114, 111, 109], 2⟩ : ColT), (⟨[116, 111], 2⟩ : ColT), (⟨[115, 101, 108, 102], 2⟩ : ColT)].map ColT.toD), .arr 1 ([([111, 112, 101, 110] : List UInt8)].map .str)] (fun r s => r = .ptr 2 0 ∧ s = [a0, a1, .box 2 (.agg [.osl 10 0 9, .nils]), .frz 1 ([([105, 100] : List UInt8), ([116, 104, 114, 101, 97, 100] : List UInt8), ([112, 97, 114, 101, 110, 116] : List UInt8), ([100, 101, 112, 116, 104] : List UInt8)].map .str), .dead, .frz 1 ([([110, 97, 109, 101] : List UInt8)].map .str), .dead, .frz 1 ([([102, 114, 111, 109] : List UInt8), ([116, 111] : List UInt8), ([115, 101, 108, 102] : List UInt8)].map .str), .dead, .frz 1 ([([111, 112, 101, 110] : List UInt8)].map .str), .arr 2 ([(⟨[105, 100], 2⟩ : ColT), (⟨[116, 104, 114, 101, 97, 100], 2⟩ : ColT), (⟨[112, 97, 114, 101, 110, 116], 2⟩ : ColT), (⟨[100, 101, 112, 116, 104], 2⟩ : ColT), (⟨[110, 97, 109, 101], 3⟩ : ColT), (⟨[102, 114, 111, 109], 2⟩ : ColT), (⟨[116, 111], 2⟩ : ColT), (⟨[115, 101, 108, 102], 2⟩ : ColT), (⟨[111, 112, 101, 110], 1⟩ : ColT)].map ColT.toD)]) := by
 refine (ACalls.data (show ACalls Tryz.prog Gl 44 [.ptr 2 0, .d (.int .i64 1), .d (.sl ([([111, 112, 101, 110] : List UInt8)].map .str))] [a0, a1, .box 2 (.agg [.osl 8 0 8, .nils]), .frz 1 ([([105, 100] : List UInt8), ([116, 104, 114, 101, 97, 100] : List UInt8), ([112, 97, 114, 101, 110, 116] : List UInt8), ([100, 101, 112, 116, 104] : List UInt8)].map .str), .dead, .frz 1 ([([110, 97, 109, 101] : List UInt8)].map .str), .dead, .frz 1 ([([102, 114, 111, 109] : List UInt8), ([116, 111] : List UInt8), ([115, 101, 108, 102] : List UInt8)].map .str), .arr 2 ([(⟨[105, 100], 2⟩ : ColT), (⟨[116, 104, 114, 101, 97, 100], 2⟩ : ColT), (⟨[112, 97, 114, 101, 110, 116], 2⟩ : ColT), (⟨[100, 101, 112, 116, 104], 2⟩ : ColT), (⟨[110, 97, 109, 101], 3⟩ : ColT), (⟨[102, 114, 111, 109], 2⟩ : ColT), (⟨[116, 111], 2⟩ : ColT), (⟨[115, 101, 108, 102], 2⟩ : ColT)].map ColT.toD), .frz 1 ([([111, 112, 101, 110] : List UInt8)].map .str)] _ from ACalls.under [2, 8] (by decide) (by simp) (k_cols 1 [(⟨[105, 100], 2⟩ : ColT), (⟨[116, 104, 114, 101, 97, 100], 2⟩ : ColT), (⟨[112, 97, 114, 101, 110, 116], 2⟩ : ColT), (⟨[100, 101, 112, 116, 104], 2⟩ : ColT), (⟨[110, 97, 109, 101], 3⟩ : ColT), (⟨[102, 114, 111, 109], 2⟩ : ColT), (⟨[116, 111], 2⟩ : ColT), (⟨[115, 101, 108, 102], 2⟩ : ColT)] [([111, 112, 101, 110] : List UInt8)] (by decide) (by decide) (by decide)))).mono fun r s h => ?_
 obtain ⟨r0, s0, ⟨rfl, rfl⟩, rfl, rfl⟩ := h
 exact ⟨rfl, rfl⟩
theorem c_sam2_0 (a0 a1 : Blk) : ACalls Tryz.prog Gl 44 [.ptr 2 0, .d (.int .i64 2), .osl 3 0 3] [a0, a1, .box 2 (.agg [.nils, .nils]), .arr 1 ([([97, 116] : List UInt8), ([116, 104, 114, 101, 97, 100] : List UInt8), ([119, 101, 105, 103, 104, 116] : List UInt8)].map .str)] (fun r s => r = .ptr 2 0 ∧ s = [a0, a1, .box 2 (.agg [.osl 4 0 3, .nils]), .frz 1 ([([97, 116] : List UInt8), ([116, 104, 114, 101, 97, 100] : List UInt8), ([119, 101, 105, 103, 104, 116] : List UInt8)].map .str), .arr 2 ([(⟨[97, 116], 2⟩ : ColT), (⟨[116, 104, 114, 101, 97, 100], 2⟩ : ColT), (⟨[119, 101, 105, 103, 104, 116], 2⟩ : ColT)].map ColT.toD)]) := by
 refine (ACalls.data (show ACalls Tryz.prog Gl 44 [.ptr 2 0, .d (.int .i64 2), .d (.sl ([([97, 116] : List UInt8), ([116, 104, 114, 101, 97, 100] : List UInt8), ([119, 101, 105, 103, 104, 116] : List UInt8)].map .str))] [a0, a1, .box 2 (.agg [.nils, .nils]), .frz 1 ([([97, 116] : List UInt8), ([116, 104, 114, 101, 97, 100] : List UInt8), ([119, 101, 105, 103, 104, 116] : List UInt8)].map .str)] _ from ACalls.under [2] (by decide) (by simp) (k_cols0 2 [([97, 116] : List UInt8), ([116, 104, 114, 101, 97, 100] : List UInt8), ([119, 101, 105, 103, 104, 116] : List UInt8)] (by decide)))).mono fun r s h => ?_
 obtain ⟨r0, s0, ⟨rfl, rfl⟩, rfl, rfl⟩ := h
 exact ⟨rfl, rfl⟩
theorem c_sam2_1 (a0 a1 : Blk) : ACalls Tryz.prog Gl 44 [.ptr 2 0, .d (.int .i64 3), .osl 5 0 1] [a0, a1, .box 2 (.agg [.osl 4 0 3, .nils]), .frz 1 ([([97, 116] : List UInt8), ([116, 104, 114, 101, 97, 100] : List UInt8), ([119, 101, 105, 103, 104, 116] : List UInt8)].map .str), .arr 2 ([(⟨[97, 116], 2⟩ : ColT), (⟨[116, 104, 114, 101, 97, 100], 2⟩ : ColT), (⟨[119, 101, 105, 103, 104, 116], 2⟩ : ColT)].map ColT.toD), .arr 1 ([([108, 101, 97, 102] : List UInt8)].map .str)] (fun r s => r = .ptr 2 0 ∧ s = [a0, a1, .box 2 (.agg [.osl 6 0 4, .nils]), .frz 1 ([([97, 116] : List UInt8), ([116, 104, 114, 101, 97, 100] : List UInt8), ([119, 101, 105, 103, 104, 116] : List UInt8)].map .str), .dead, .frz 1 ([([108, 101, 97, 102] : List UInt8)].map .str), .arr 2 ([(⟨[97, 116], 2⟩ : ColT), (⟨[116, 104, 114, 101, 97, 100], 2⟩ : ColT), (⟨[119, 101, 105, 103, 104, 116], 2⟩ : ColT), (⟨[108, 101, 97, 102], 3⟩ : ColT)].map ColT.toD)]) := by
 refine (ACalls.data (show ACalls Tryz.prog Gl 44 [.ptr 2 0, .d (.int .i64 3), .d (.sl ([([108, 101, 97, 102] : List UInt8)].map .str))] [a0, a1, .box 2 (.agg [.osl 4 0 3, .nils]), .frz 1 ([([97, 116] : List UInt8), ([116, 104, 114, 101, 97, 100] : List UInt8), ([119, 101, 105, 103, 104, 116] : List UInt8)].map .str), .arr 2 ([(⟨[97, 116], 2⟩ : ColT), (⟨[116, 104, 114, 101, 97, 100], 2⟩ : ColT), (⟨[119, 101, 105, 103, 104, 116], 2⟩ : ColT)].map ColT.toD), .frz 1 ([([108, 101, 97, 102] : List UInt8)].map .str)] _ from ACalls.under [2, 4] (by decide) (by simp) (k_cols 3 [(⟨[97, 116], 2⟩ : ColT), (⟨[116, 104, 114, 101, 97, 100], 2⟩ : ColT), (⟨[119, 101, 105, 103, 104, 116], 2⟩ : ColT)] [([108, 101, 97, 102] : List UInt8)] (by decide) (by decide) (by decide)))).mono fun r s h => ?_
 obtain ⟨r0, s0, ⟨rfl, rfl⟩, rfl, rfl⟩ := h
 exact ⟨rfl, rfl⟩
theorem c_sam2_2 (a0 a1 : Blk) : ACalls Tryz.prog Gl 44 [.ptr 2 0, .d (.int .i64 2), .osl 7 0 1] [a0, a1, .box 2 (.agg [.osl 6 0 4, .nils]), .frz 1 ([([97, 116] : List UInt8), ([116, 104, 114, 101, 97, 100] : List UInt8), ([119, 101, 105, 103, 104, 116] : List UInt8)].map .str), .dead, .frz 1 ([([108, 101, 97, 102] : List UInt8)].map .str), .arr 2 ([(⟨[97, 116], 2⟩ : ColT), (⟨[116, 104, 114, 101, 97, 100], 2⟩ : ColT), (⟨[119, 101, 105, 103, 104, 116], 2⟩ : ColT), (⟨[108, 101, 97, 102], 3⟩ : ColT)].map ColT.toD), .arr 1 ([([100, 101, 112, 116, 104] : List UInt8)].map .str)] (fun r s => r = .ptr 2 0 ∧ s = [a0, a1, .box 2 (.agg [.osl 8 0 5, .nils]), .frz 1 ([([97, 116] : List UInt8), ([116, 104, 114, 101, 97, 100] : List UInt8), ([119, 101, 105, 103, 104, 116] : List UInt8)].map .str), .dead, .frz 1 ([([108, 101, 97, 102] : List UInt8)].map .str), .dead, .frz 1 ([([100, 101, 112, 116, 104] : List UInt8)].map .str), .arr 2 ([(⟨[97, 116], 2⟩ : ColT), (⟨[116, 104, 114, 101, 97, 100], 2⟩ : ColT), (⟨[119, 101, 105, 103, 104, 116], 2⟩ : ColT), (⟨[108, 101, 97, 102], 3⟩ : ColT), (⟨[100, 101, 112, 116, 104], 2⟩ : ColT)].map ColT.toD)]) := by
 refine (ACalls.data (show ACalls Tryz.prog Gl 44 [.ptr 2 0, .d (.int .i64 2), .d (.sl ([([100, 101, 112, 116, 104] : List UInt8)].map .str))] [a0, a1, .box 2 (.agg [.osl 6 0 4, .nils]), .frz 1 ([([97, 116] : List UInt8), ([116, 104, 114, 101, 97, 100] : List UInt8), ([119, 101, 105, 103, 104, 116] : List UInt8)].map .str), .dead, .frz 1 ([([108, 101, 97, 102] : List UInt8)].map .str), .arr 2 ([(⟨[97, 116], 2⟩ : ColT), (⟨[116, 104, 114, 101, 97, 100], 2⟩ : ColT), (⟨[119, 101, 105, 103, 104, 116], 2⟩ : ColT), (⟨[108, 101, 97, 102], 3⟩ : ColT)].map ColT.toD), .frz 1 ([([100, 101, 112, 116, 104] : List UInt8)].map .str)] _ from ACalls.under [2, 6] (by decide) (by simp) (k_cols 2 [(⟨[97, 116], 2⟩ : ColT), (⟨[116, 104, 114, 101, 97, 100], 2⟩ : ColT), (⟨[119, 101, 105, 103, 104, 116], 2⟩ : ColT), (⟨[108, 101, 97, 102], 3⟩ : ColT)] [([100, 101, 112, 116, 104] : List UInt8)] (by decide) (by decide) (by decide)))).mono fun r s h => ?_
 obtain ⟨r0, s0, ⟨rfl, rfl⟩, rfl, rfl⟩ := h
 exact ⟨rfl, rfl⟩
theorem c_sliRow1 (a0 e0 : Blk) (rows : List (List ValT)) (hr : rows.length < 1000000) (i : Nat) (x : SliceT) : ACalls Tryz.prog Gl 45 [.ptr 1 0, .osl 5 0 9] [a0, .box 2 (.agg [.osl 2 0 9, .osl 3 0 rows.length]), .arr 2 (sliCols.map ColT.toD), .arr 1 (rows.map rowD), e0, .arr 3 ((sliRow i x).map ValT.toD)] (fun r s => r = .tup [] ∧ s = [a0, .box 2 (.agg [.osl 2 0 9, .osl 6 0 (rows ++ [sliRow i x]).length]), .arr 2 (sliCols.map ColT.toD), .dead, e0, .frz 3 ((sliRow i x).map ValT.toD), .arr 1 ((rows ++ [sliRow i x]).map rowD)]) := by
 refine (ACalls.data (show ACalls Tryz.prog Gl 45 [.ptr 1 0, .d (rowD (sliRow i x))] [a0, .box 2 (.agg [.osl 2 0 9, .osl 3 0 rows.length]), .arr 2 (sliCols.map ColT.toD), .arr 1 (rows.map rowD), e0, .frz 3 ((sliRow i x).map ValT.toD)] _ from ACalls.under [1, 2, 3] (by decide) (by simp) (k_row sliCols rows (sliRow i x) hr))).mono fun r s h => ?_
 obtain ⟨r0, s0, ⟨rfl, rfl⟩, rfl, rfl⟩ := h
 exact ⟨rfl, rfl⟩
theorem c_samRow1 (a0 e0 e1 : Blk) (rows : List (List ValT)) (hr : rows.length < 1000000) (i : Nat) (x : SampleT) : ACalls Tryz.prog Gl 45 [.ptr 1 0, .osl 6 0 5] [a0, .box 2 (.agg [.osl 2 0 5, .osl 3 0 rows.length]), .arr 2 (samCols.map ColT.toD), .arr 1 (rows.map rowD), e0, e1, .arr 3 ((samRow i x).map ValT.toD)] (fun r s => r = .tup [] ∧ s = [a0, .box 2 (.agg [.osl 2 0 5, .osl 7 0 (rows ++ [samRow i x]).length]), .arr 2 (samCols.map ColT.toD), .dead, e0, e1, .frz 3 ((samRow i x).map ValT.toD), .arr 1 ((rows ++ [samRow i x]).map rowD)]) := by
 refine (ACalls.data (show ACalls Tryz.prog Gl 45 [.ptr 1 0, .d (rowD (samRow i x))] [a0, .box 2 (.agg [.osl 2 0 5, .osl 3 0 rows.length]), .arr 2 (samCols.map ColT.toD), .arr 1 (rows.map rowD), e0, e1, .frz 3 ((samRow i x).map ValT.toD)] _ from ACalls.under [1, 2, 3] (by decide) (by simp) (k_row samCols rows (samRow i x) hr))).mono fun r s h => ?_
 obtain ⟨r0, s0, ⟨rfl, rfl⟩, rfl, rfl⟩ := h
 exact ⟨rfl, rfl⟩
theorem k_slicesOf (t : TraceT) (ht : t.slices.length < 1000000) : Pure Tryz.prog Gl 50 [.d t.toD] (.d (sliTab t).toD) := by
 refine Pure.of1 ?_
 refine acalls_of Tryz.func50 rfl rfl (by simp [Tryz.ntmps50]) (evC_sound rfl _ _ _ _ ?_)
 simp only [Tryz.ntmps50, Tryz.results50, argEnv, List.length_nil]
 simp only [zT, seval, implies_true, Nat.reduceLeDiff, Nat.reduceEqDiff, reduceCtorEq, reduceIte]
 repeat ((with_reducible refine And.intro ?_ ?_); (focus (first | omega | (simp only [lenR]; omega) | (refine qq ?_; rfl) | (refine dq ?_; kernel_rfl) | (intros; simp_all; done))))
 refine callF_go ((c_sli2_0 _ _).mono fun r s hrs => ?_)
 obtain ⟨rfl, rfl⟩ := hrs
 simp only [zT, seval, implies_true, Nat.reduceLeDiff, Nat.reduceEqDiff, reduceCtorEq, reduceIte]
 refine callF_go ((c_sli2_1 _ _).mono fun r s hrs => ?_)
 obtain ⟨rfl, rfl⟩ := hrs
 simp only [zT, seval, implies_true, Nat.reduceLeDiff, Nat.reduceEqDiff, reduceCtorEq, reduceIte]
 refine callF_go ((c_sli2_2 _ _).mono fun r s hrs => ?_)
 obtain ⟨rfl, rfl⟩ := hrs
 simp only [zT, seval, implies_true, Nat.reduceLeDiff, Nat.reduceEqDiff, reduceCtorEq, reduceIte]
 refine callF_go ((c_sli2_3 _ _).mono fun r s hrs => ?_)
 obtain ⟨rfl, rfl⟩ := hrs
 simp only [zT, seval, implies_true, Nat.reduceLeDiff, Nat.reduceEqDiff, reduceCtorEq, reduceIte]
 have hcl : sliCols.length = 9 := rfl
 refine for_of t.slices.length (fun k => [(2, .ptr 0 0), (3, .ptr 1 0), (17, .d (.sl (t.slices.map SliceT.toD))), (18, .d (.int .i64 t.slices.length)), (19, .d (.int .i64 k))])
  (fun k => [.box 2 (.agg [.nils, .nils]), .box 2 (.agg [.osl 2 0 9, .osl 3 0 (rowsOf sliRow t.slices k).length]), .arr 2 (sliCols.map ColT.toD), .arr 1 ((rowsOf sliRow t.slices k).map rowD)]) (fun _ => True) trivial ?_ ?_
 ·refine Weak.trans (weak_boxNil 2 1 1 (Nat.zero_le _) rfl rfl (by simp) (by simp)) ?_
  refine weak_to [] [1, 2, 10, 11] rfl (by simp) ?_ rfl
  simp only [zT, seval, implies_true, Nat.reduceLeDiff, Nat.reduceEqDiff, reduceCtorEq, reduceIte]
  all_goals rfl
 ·intro k hi hk
  by_cases h : k < t.slices.length
  ·obtain ⟨x, hx⟩ : ∃ x, x = t.slices.getD k default := ⟨_, rfl⟩
   have hg : (List.map SliceT.toD t.slices).getD k default = x.toD := by rw [hx]; simp [h]
   have hs := rowsOf_step sliRow t.slices k
   have hrl : (rowsOf sliRow t.slices k).length < 1000000 := by rw [rowsOf_len]; omega
   rw [← hx] at hs
   simp only [zT, seval, implies_true, Nat.reduceLeDiff, Nat.reduceEqDiff, reduceCtorEq, reduceIte, (show (k:Int) < t.slices.length by omega), h, hg]
   repeat ((with_reducible refine And.intro ?_ ?_); (focus (first | omega | (simp only [lenR]; omega) | (refine qq ?_; rfl) | (refine dq ?_; kernel_rfl) | (intros; simp_all; done))))
   refine callF_pure (k_num _) ?_
   simp only [zT, seval, implies_true, Nat.reduceLeDiff, Nat.reduceEqDiff, reduceCtorEq, reduceIte]
   repeat ((with_reducible refine And.intro ?_ ?_); (focus (first | omega | (simp only [lenR]; omega) | (refine qq ?_; rfl) | (refine dq ?_; kernel_rfl) | (intros; simp_all; done))))
   refine callF_pure (k_num _) ?_
   simp only [zT, seval, implies_true, Nat.reduceLeDiff, Nat.reduceEqDiff, reduceCtorEq, reduceIte]
   repeat ((with_reducible refine And.intro ?_ ?_); (focus (first | omega | (simp only [lenR]; omega) | (refine qq ?_; rfl) | (refine dq ?_; kernel_rfl) | (intros; simp_all; done))))
   refine callF_pure (k_oth _) ?_
   simp only [zT, seval, implies_true, Nat.reduceLeDiff, Nat.reduceEqDiff, reduceCtorEq, reduceIte]
   repeat ((with_reducible refine And.intro ?_ ?_); (focus (first | omega | (simp only [lenR]; omega) | (refine qq ?_; rfl) | (refine dq ?_; kernel_rfl) | (intros; simp_all; done))))
   refine callF_pure (k_num _) ?_
   simp only [zT, seval, implies_true, Nat.reduceLeDiff, Nat.reduceEqDiff, reduceCtorEq, reduceIte]
   repeat ((with_reducible refine And.intro ?_ ?_); (focus (first | omega | (simp only [lenR]; omega) | (refine qq ?_; rfl) | (refine dq ?_; kernel_rfl) | (intros; simp_all; done))))
   refine callF_pure (k_txt _) ?_
   simp only [zT, seval, implies_true, Nat.reduceLeDiff, Nat.reduceEqDiff, reduceCtorEq, reduceIte]
   repeat ((with_reducible refine And.intro ?_ ?_); (focus (first | omega | (simp only [lenR]; omega) | (refine qq ?_; rfl) | (refine dq ?_; kernel_rfl) | (intros; simp_all; done))))
   refine callF_pure (k_num _) ?_
   simp only [zT, seval, implies_true, Nat.reduceLeDiff, Nat.reduceEqDiff, reduceCtorEq, reduceIte]
   repeat ((with_reducible refine And.intro ?_ ?_); (focus (first | omega | (simp only [lenR]; omega) | (refine qq ?_; rfl) | (refine dq ?_; kernel_rfl) | (intros; simp_all; done))))
   refine callF_pure (k_num _) ?_
   simp only [zT, seval, implies_true, Nat.reduceLeDiff, Nat.reduceEqDiff, reduceCtorEq, reduceIte]
   repeat ((with_reducible refine And.intro ?_ ?_); (focus (first | omega | (simp only [lenR]; omega) | (refine qq ?_; rfl) | (refine dq ?_; kernel_rfl) | (intros; simp_all; done))))
   refine callF_pure (k_num _) ?_
   simp only [zT, seval, implies_true, Nat.reduceLeDiff, Nat.reduceEqDiff, reduceCtorEq, reduceIte]
   repeat ((with_reducible refine And.intro ?_ ?_); (focus (first | omega | (simp only [lenR]; omega) | (refine qq ?_; rfl) | (refine dq ?_; kernel_rfl) | (intros; simp_all; done))))
   refine callF_pure (k_tru _) ?_
   simp only [zT, seval, implies_true, Nat.reduceLeDiff, Nat.reduceEqDiff, reduceCtorEq, reduceIte]
   repeat ((with_reducible refine And.intro ?_ ?_); (focus (first | omega | (simp only [lenR]; omega) | (refine qq ?_; rfl) | (refine dq ?_; kernel_rfl) | (intros; simp_all; done))))
   refine callF_last (by kernel_rfl) ((c_sliRow1 _ _ (rowsOf sliRow t.slices k) hrl k x).mono fun r s hrs => ?_)
   obtain ⟨rfl, rfl⟩ := hrs
   simp only [zT, seval, implies_true, Nat.reduceLeDiff, Nat.reduceEqDiff, reduceCtorEq, reduceIte]
   rw [← hs, rowsOf_len, rowsOf_len]
   refine weak_to [] [0, 1, 2, 6] rfl (by simp) ?_ rfl
   simp only [zT, seval, implies_true, Nat.reduceLeDiff, Nat.reduceEqDiff, reduceCtorEq, reduceIte, @a_wrap ((k:Int) + 1) (by omega)]
   all_goals rfl
  ·simp only [zT, seval, implies_true, Nat.reduceLeDiff, Nat.reduceEqDiff, reduceCtorEq, reduceIte, (show ¬ (k:Int) < t.slices.length by omega)]
   have : k = t.slices.length := by omega
   subst this
   repeat ((with_reducible refine And.intro ?_ ?_); (focus (first | omega | (simp only [lenR]; omega) | (refine qq ?_; rfl) | (refine dq ?_; kernel_rfl) | (intros; simp_all; done))))
   refine ⟨_, _, ret_data rfl ?_, rfl, rfl⟩
   show D.agg [.sl (List.take 9 (sliCols.map ColT.toD)), .sl (List.take (rowsOf sliRow t.slices t.slices.length).length ((rowsOf sliRow t.slices t.slices.length).map rowD))] = _
   rw [take_all]; rfl
theorem k_samplesOf (t : TraceT) (ht : t.samples.length < 1000000) (hst : ∀ x ∈ t.samples, x.stack.length < 1000000) : Pure Tryz.prog Gl 51 [.d t.toD] (.d (samTab t).toD) := by
 refine Pure.of1 ?_
 refine acalls_of Tryz.func51 rfl rfl (by simp [Tryz.ntmps51]) (evC_sound rfl _ _ _ _ ?_)
 simp only [Tryz.ntmps51, Tryz.results51, argEnv, List.length_nil]
 simp only [zT, seval, implies_true, Nat.reduceLeDiff, Nat.reduceEqDiff, reduceCtorEq, reduceIte]
 repeat ((with_reducible refine And.intro ?_ ?_); (focus (first | omega | (simp only [lenR]; omega) | (refine qq ?_; rfl) | (refine dq ?_; kernel_rfl) | (intros; simp_all; done))))
 refine callF_go ((c_sam2_0 _ _).mono fun r s hrs => ?_)
 obtain ⟨rfl, rfl⟩ := hrs
 simp only [zT, seval, implies_true, Nat.reduceLeDiff, Nat.reduceEqDiff, reduceCtorEq, reduceIte]
 refine callF_go ((c_sam2_1 _ _).mono fun r s hrs => ?_)
 obtain ⟨rfl, rfl⟩ := hrs
 simp only [zT, seval, implies_true, Nat.reduceLeDiff, Nat.reduceEqDiff, reduceCtorEq, reduceIte]
 refine callF_go ((c_sam2_2 _ _).mono fun r s hrs => ?_)
 obtain ⟨rfl, rfl⟩ := hrs
 simp only [zT, seval, implies_true, Nat.reduceLeDiff, Nat.reduceEqDiff, reduceCtorEq, reduceIte]
 refine for_of t.samples.length (fun k => [(2, .ptr 0 0), (3, .ptr 1 0), (17, .d (.sl (t.samples.map SampleT.toD))), (18, .d (.int .i64 t.samples.length)), (19, .d (.int .i64 k))])
  (fun k => [.box 2 (.agg [.nils, .nils]), .box 2 (.agg [.osl 2 0 5, .osl 3 0 (rowsOf samRow t.samples k).length]), .arr 2 (samCols.map ColT.toD), .arr 1 ((rowsOf samRow t.samples k).map rowD)]) (fun _ => True) trivial ?_ ?_
 ·refine Weak.trans (weak_boxNil 2 1 1 (Nat.zero_le _) rfl rfl (by simp) (by simp)) ?_
  refine weak_to [] [1, 2, 8, 9] rfl (by simp) ?_ rfl
  simp only [zT, seval, implies_true, Nat.reduceLeDiff, Nat.reduceEqDiff, reduceCtorEq, reduceIte]
  all_goals rfl
 ·intro k hi hk
  by_cases h : k < t.samples.length
  ·obtain ⟨x, hx⟩ : ∃ x, x = t.samples.getD k default := ⟨_, rfl⟩
   have hxl := hst x (by rw [hx]; exact mem_getD h)
   have hg : (List.map SampleT.toD t.samples).getD k default = x.toD := by rw [hx]; simp [h]
   have hs := rowsOf_step samRow t.samples k
   have hrl : (rowsOf samRow t.samples k).length < 1000000 := by rw [rowsOf_len]; omega
   rw [← hx] at hs
   simp only [zT, seval, implies_true, Nat.reduceLeDiff, Nat.reduceEqDiff, reduceCtorEq, reduceIte, (show (k:Int) < t.samples.length by omega), h, hg]
   repeat ((with_reducible refine And.intro ?_ ?_); (focus (first | omega | (simp only [lenR]; omega) | (refine qq ?_; rfl) | (refine dq ?_; kernel_rfl) | (intros; simp_all; done))))
   refine ifC.mk (fun h2 => ?_) (fun h2 => ?_)
   ·have h2 : 0 < x.stack.length := by have := of_decide_eq_true h2; omega
    obtain ⟨m, hm⟩ : ∃ m, m = x.stack.length - 1 := ⟨_, rfl⟩
    have hwm : IntKind.i64.wrap ((x.stack.length : Int) - 1) = (m : Int) := by rw [@a_wrap ((x.stack.length : Int) - 1) (by omega)]; omega
    have hml : m < x.stack.length := by omega
    have hgs : (List.map D.str x.stack).getD m default = .str (x.stack.getD m default) := by simp [hml]
    have hleaf : txtV (x.stack.getD m default) = leafV x := by rw [leafV, if_pos h2, hm]
    simp only [zT, seval, implies_true, Nat.reduceLeDiff, Nat.reduceEqDiff, reduceCtorEq, reduceIte, hwm, (show (m:Int) < x.stack.length by omega), hml, hgs]
    repeat ((with_reducible refine And.intro ?_ ?_); (focus (first | omega | (simp only [lenR]; omega) | (refine qq ?_; rfl) | (refine dq ?_; kernel_rfl) | (intros; simp_all; done))))
    refine callF_pure (k_txt _) ?_
    simp only [zT, seval, implies_true, Nat.reduceLeDiff, Nat.reduceEqDiff, reduceCtorEq, reduceIte]
    rw [hleaf]
    repeat ((with_reducible refine And.intro ?_ ?_); (focus (first | omega | (simp only [lenR]; omega) | (refine qq ?_; rfl) | (refine dq ?_; kernel_rfl) | (intros; simp_all; done))))
    refine callF_pure (k_num _) ?_
    simp only [zT, seval, implies_true, Nat.reduceLeDiff, Nat.reduceEqDiff, reduceCtorEq, reduceIte]
    repeat ((with_reducible refine And.intro ?_ ?_); (focus (first | omega | (simp only [lenR]; omega) | (refine qq ?_; rfl) | (refine dq ?_; kernel_rfl) | (intros; simp_all; done))))
    refine callF_pure (k_num _) ?_
    simp only [zT, seval, implies_true, Nat.reduceLeDiff, Nat.reduceEqDiff, reduceCtorEq, reduceIte]
    repeat ((with_reducible refine And.intro ?_ ?_); (focus (first | omega | (simp only [lenR]; omega) | (refine qq ?_; rfl) | (refine dq ?_; kernel_rfl) | (intros; simp_all; done))))
    refine callF_pure (k_num _) ?_
    simp only [zT, seval, implies_true, Nat.reduceLeDiff, Nat.reduceEqDiff, reduceCtorEq, reduceIte]
    repeat ((with_reducible refine And.intro ?_ ?_); (focus (first | omega | (simp only [lenR]; omega) | (refine qq ?_; rfl) | (refine dq ?_; kernel_rfl) | (intros; simp_all; done))))
    refine callF_pure (k_num _) ?_
    simp only [zT, seval, implies_true, Nat.reduceLeDiff, Nat.reduceEqDiff, reduceCtorEq, reduceIte]
    repeat ((with_reducible refine And.intro ?_ ?_); (focus (first | omega | (simp only [lenR]; omega) | (refine qq ?_; rfl) | (refine dq ?_; kernel_rfl) | (intros; simp_all; done))))
    refine callF_last (by kernel_rfl) ((c_samRow1 _ _ _ (rowsOf samRow t.samples k) hrl k x).mono fun r s hrs => ?_)
    obtain ⟨rfl, rfl⟩ := hrs
    simp only [zT, seval, implies_true, Nat.reduceLeDiff, Nat.reduceEqDiff, reduceCtorEq, reduceIte]
    rw [← hs, rowsOf_len, rowsOf_len]
    refine weak_to [] [0, 1, 2, 7] rfl (by simp) ?_ rfl
    simp only [zT, seval, implies_true, Nat.reduceLeDiff, Nat.reduceEqDiff, reduceCtorEq, reduceIte, @a_wrap ((k:Int) + 1) (by omega)]
    all_goals rfl
   ·have h2 : ¬ 0 < x.stack.length := fun h => by have := of_decide_eq_false h2; omega
    have hleaf : D.agg [D.int IntKind.i64 0, D.int IntKind.i64 0, D.str []] = (leafV x).toD := by rw [leafV, if_neg h2]; rfl
    rw [hleaf]
    repeat ((with_reducible refine And.intro ?_ ?_); (focus (first | omega | (simp only [lenR]; omega) | (refine qq ?_; rfl) | (refine dq ?_; kernel_rfl) | (intros; simp_all; done))))
    refine callF_pure (k_num _) ?_
    simp only [zT, seval, implies_true, Nat.reduceLeDiff, Nat.reduceEqDiff, reduceCtorEq, reduceIte]
    repeat ((with_reducible refine And.intro ?_ ?_); (focus (first | omega | (simp only [lenR]; omega) | (refine qq ?_; rfl) | (refine dq ?_; kernel_rfl) | (intros; simp_all; done))))
    refine callF_pure (k_num _) ?_
    simp only [zT, seval, implies_true, Nat.reduceLeDiff, Nat.reduceEqDiff, reduceCtorEq, reduceIte]
    repeat ((with_reducible refine And.intro ?_ ?_); (focus (first | omega | (simp only [lenR]; omega) | (refine qq ?_; rfl) | (refine dq ?_; kernel_rfl) | (intros; simp_all; done))))
    refine callF_pure (k_num _) ?_
    simp only [zT, seval, implies_true, Nat.reduceLeDiff, Nat.reduceEqDiff, reduceCtorEq, reduceIte]
    repeat ((with_reducible refine And.intro ?_ ?_); (focus (first | omega | (simp only [lenR]; omega) | (refine qq ?_; rfl) | (refine dq ?_; kernel_rfl) | (intros; simp_all; done))))
    refine callF_pure (k_num _) ?_
    simp only [zT, seval, implies_true, Nat.reduceLeDiff, Nat.reduceEqDiff, reduceCtorEq, reduceIte]
    repeat ((with_reducible refine And.intro ?_ ?_); (focus (first | omega | (simp only [lenR]; omega) | (refine qq ?_; rfl) | (refine dq ?_; kernel_rfl) | (intros; simp_all; done))))
    refine callF_last (by kernel_rfl) ((c_samRow1 _ _ _ (rowsOf samRow t.samples k) hrl k x).mono fun r s hrs => ?_)
    obtain ⟨rfl, rfl⟩ := hrs
    simp only [zT, seval, implies_true, Nat.reduceLeDiff, Nat.reduceEqDiff, reduceCtorEq, reduceIte]
    rw [← hs, rowsOf_len, rowsOf_len]
    refine weak_to [] [0, 1, 2, 7] rfl (by simp) ?_ rfl
    simp only [zT, seval, implies_true, Nat.reduceLeDiff, Nat.reduceEqDiff, reduceCtorEq, reduceIte, @a_wrap ((k:Int) + 1) (by omega)]
    all_goals rfl
  ·simp only [zT, seval, implies_true, Nat.reduceLeDiff, Nat.reduceEqDiff, reduceCtorEq, reduceIte, (show ¬ (k:Int) < t.samples.length by omega)]
   have : k = t.samples.length := by omega
   subst this
   repeat ((with_reducible refine And.intro ?_ ?_); (focus (first | omega | (simp only [lenR]; omega) | (refine qq ?_; rfl) | (refine dq ?_; kernel_rfl) | (intros; simp_all; done))))
   refine ⟨_, _, ret_data rfl ?_, rfl, rfl⟩
   show D.agg [.sl (List.take 5 (samCols.map ColT.toD)), .sl (List.take (rowsOf samRow t.samples t.samples.length).length ((rowsOf samRow t.samples t.samples.length).map rowD))] = _
   rw [take_all]; rfl
end YtadfcljoocjhdaaGreat
end Go.Proofs
