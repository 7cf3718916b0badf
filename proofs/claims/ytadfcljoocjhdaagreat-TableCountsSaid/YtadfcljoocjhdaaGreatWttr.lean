/- A part of the proof: contracts of functions of this seat, and lemmas. No condition beyond those stated. -/
import Derived.Test.YtadfcljoocjhdaaGreatWttn
import Derived.Test.YtadfcljoocjhdaaGreatWti
set_option linter.unusedVariables false
set_option linter.unusedSimpArgs false
set_option linter.unusedSectionVars false
set_option linter.unnecessarySimpa false
set_option maxRecDepth 100000
namespace Go.Proofs
open Go.AM
namespace YtadfcljoocjhdaaGreat
variable {Gl : Globs}
theorem c_thr1_0 (a0 : Blk) : ACalls Tryz.prog Gl 44 [.ptr 1 0, .d (.int .i64 2), .osl 2 0 1] [a0, .box 2 (.agg [.nils, .nils]), .arr 1 ([([105, 100] : List UInt8)].map .str)] (fun r s => r = .ptr 1 0 ∧ s = [a0, .box 2 (.agg [.osl 3 0 1, .nils]), .frz 1 ([([105, 100] : List UInt8)].map .str), .arr 2 ([(⟨[105, 100], 2⟩ : ColT)].map ColT.toD)]) := by
 refine (ACalls.data (show ACalls Tryz.prog Gl 44 [.ptr 1 0, .d (.int .i64 2), .d (.sl ([([105, 100] : List UInt8)].map .str))] [a0, .box 2 (.agg [.nils, .nils]), .frz 1 ([([105, 100] : List UInt8)].map .str)] _ from ACalls.under [1] (by decide) (by simp) (k_cols0 2 [([105, 100] : List UInt8)] (by decide)))).mono fun r s h => ?_
 obtain ⟨r0, s0, ⟨rfl, rfl⟩, rfl, rfl⟩ := h
 exact ⟨rfl, rfl⟩
theorem c_thr1_1 (a0 : Blk) : ACalls Tryz.prog Gl 44 [.ptr 1 0, .d (.int .i64 3), .osl 4 0 1] [a0, .box 2 (.agg [.osl 3 0 1, .nils]), .frz 1 ([([105, 100] : List UInt8)].map .str), .arr 2 ([(⟨[105, 100], 2⟩ : ColT)].map ColT.toD), .arr 1 ([([110, 97, 109, 101] : List UInt8)].map .str)] (fun r s => r = .ptr 1 0 ∧ s = [a0, .box 2 (.agg [.osl 5 0 2, .nils]), .frz 1 ([([105, 100] : List UInt8)].map .str), .dead, .frz 1 ([([110, 97, 109, 101] : List UInt8)].map .str), .arr 2 ([(⟨[105, 100], 2⟩ : ColT), (⟨[110, 97, 109, 101], 3⟩ : ColT)].map ColT.toD)]) := by
 refine (ACalls.data (show ACalls Tryz.prog Gl 44 [.ptr 1 0, .d (.int .i64 3), .d (.sl ([([110, 97, 109, 101] : List UInt8)].map .str))] [a0, .box 2 (.agg [.osl 3 0 1, .nils]), .frz 1 ([([105, 100] : List UInt8)].map .str), .arr 2 ([(⟨[105, 100], 2⟩ : ColT)].map ColT.toD), .frz 1 ([([110, 97, 109, 101] : List UInt8)].map .str)] _ from ACalls.under [1, 3] (by decide) (by simp) (k_cols 3 [(⟨[105, 100], 2⟩ : ColT)] [([110, 97, 109, 101] : List UInt8)] (by decide) (by decide) (by decide)))).mono fun r s h => ?_
 obtain ⟨r0, s0, ⟨rfl, rfl⟩, rfl, rfl⟩ := h
 exact ⟨rfl, rfl⟩
theorem c_thrRow1 (a0 e0 : Blk) (rows : List (List ValT)) (hr : rows.length < 1000000) (i : Nat) (x : ThreadT) : ACalls Tryz.prog Gl 45 [.ptr 1 0, .osl 5 0 2] [a0, .box 2 (.agg [.osl 2 0 2, .osl 3 0 rows.length]), .arr 2 (thrCols.map ColT.toD), .arr 1 (rows.map rowD), e0, .arr 3 ((thrRow i x).map ValT.toD)] (fun r s => r = .tup [] ∧ s = [a0, .box 2 (.agg [.osl 2 0 2, .osl 6 0 (rows ++ [thrRow i x]).length]), .arr 2 (thrCols.map ColT.toD), .dead, e0, .frz 3 ((thrRow i x).map ValT.toD), .arr 1 ((rows ++ [thrRow i x]).map rowD)]) := by
 refine (ACalls.data (show ACalls Tryz.prog Gl 45 [.ptr 1 0, .d (rowD (thrRow i x))] [a0, .box 2 (.agg [.osl 2 0 2, .osl 3 0 rows.length]), .arr 2 (thrCols.map ColT.toD), .arr 1 (rows.map rowD), e0, .frz 3 ((thrRow i x).map ValT.toD)] _ from ACalls.under [1, 2, 3] (by decide) (by simp) (k_row thrCols rows (thrRow i x) hr))).mono fun r s h => ?_
 obtain ⟨r0, s0, ⟨rfl, rfl⟩, rfl, rfl⟩ := h
 exact ⟨rfl, rfl⟩
theorem c_sta4_0 (a0 a1 a2 a3 : Blk) : ACalls Tryz.prog Gl 44 [.ptr 4 0, .d (.int .i64 2), .osl 5 0 7] [a0, a1, a2, a3, .box 2 (.agg [.nils, .nils]), .arr 1 ([([116, 104, 114, 101, 97, 100] : List UInt8), ([115, 116, 97, 116, 101] : List UInt8), ([102, 114, 111, 109] : List UInt8), ([116, 111] : List UInt8), ([99, 112, 117] : List UInt8), ([111, 110] : List UInt8), ([98, 121] : List UInt8)].map .str)] (fun r s => r = .ptr 4 0 ∧ s = [a0, a1, a2, a3, .box 2 (.agg [.osl 6 0 7, .nils]), .frz 1 ([([116, 104, 114, 101, 97, 100] : List UInt8), ([115, 116, 97, 116, 101] : List UInt8), ([102, 114, 111, 109] : List UInt8), ([116, 111] : List UInt8), ([99, 112, 117] : List UInt8), ([111, 110] : List UInt8), ([98, 121] : List UInt8)].map .str), .arr 2 ([(⟨[116, 104, 114, 101, 97, 100], 2⟩ : ColT), (⟨[115, 116, 97, 116, 101], 2⟩ : ColT), (⟨[102, 114, 111, 109], 2⟩ : ColT), (⟨[116, 111], 2⟩ : ColT), (⟨[99, 112, 117], 2⟩ : ColT), (⟨[111, 110], 2⟩ : ColT), (⟨[98, 121], 2⟩ : ColT)].map ColT.toD)]) := by
 refine (ACalls.data (show ACalls Tryz.prog Gl 44 [.ptr 4 0, .d (.int .i64 2), .d (.sl ([([116, 104, 114, 101, 97, 100] : List UInt8), ([115, 116, 97, 116, 101] : List UInt8), ([102, 114, 111, 109] : List UInt8), ([116, 111] : List UInt8), ([99, 112, 117] : List UInt8), ([111, 110] : List UInt8), ([98, 121] : List UInt8)].map .str))] [a0, a1, a2, a3, .box 2 (.agg [.nils, .nils]), .frz 1 ([([116, 104, 114, 101, 97, 100] : List UInt8), ([115, 116, 97, 116, 101] : List UInt8), ([102, 114, 111, 109] : List UInt8), ([116, 111] : List UInt8), ([99, 112, 117] : List UInt8), ([111, 110] : List UInt8), ([98, 121] : List UInt8)].map .str)] _ from ACalls.under [4] (by decide) (by simp) (k_cols0 2 [([116, 104, 114, 101, 97, 100] : List UInt8), ([115, 116, 97, 116, 101] : List UInt8), ([102, 114, 111, 109] : List UInt8), ([116, 111] : List UInt8), ([99, 112, 117] : List UInt8), ([111, 110] : List UInt8), ([98, 121] : List UInt8)] (by decide)))).mono fun r s h => ?_
 obtain ⟨r0, s0, ⟨rfl, rfl⟩, rfl, rfl⟩ := h
 exact ⟨rfl, rfl⟩
theorem c_staRow2 (a0 a1 e0 : Blk) (rows : List (List ValT)) (hr : rows.length < 1000000) (i : Nat) (x : StateT) : ACalls Tryz.prog Gl 45 [.ptr 2 0, .osl 6 0 7] [a0, a1, .box 2 (.agg [.osl 3 0 7, .osl 4 0 rows.length]), .arr 2 (staCols.map ColT.toD), .arr 1 (rows.map rowD), e0, .arr 3 ((staRow i x).map ValT.toD)] (fun r s => r = .tup [] ∧ s = [a0, a1, .box 2 (.agg [.osl 3 0 7, .osl 7 0 (rows ++ [staRow i x]).length]), .arr 2 (staCols.map ColT.toD), .dead, e0, .frz 3 ((staRow i x).map ValT.toD), .arr 1 ((rows ++ [staRow i x]).map rowD)]) := by
 refine (ACalls.data (show ACalls Tryz.prog Gl 45 [.ptr 2 0, .d (rowD (staRow i x))] [a0, a1, .box 2 (.agg [.osl 3 0 7, .osl 4 0 rows.length]), .arr 2 (staCols.map ColT.toD), .arr 1 (rows.map rowD), e0, .frz 3 ((staRow i x).map ValT.toD)] _ from ACalls.under [2, 3, 4] (by decide) (by simp) (k_row staCols rows (staRow i x) hr))).mono fun r s h => ?_
 obtain ⟨r0, s0, ⟨rfl, rfl⟩, rfl, rfl⟩ := h
 exact ⟨rfl, rfl⟩
theorem c_flo5_0 (a0 a1 a2 a3 a4 : Blk) : ACalls Tryz.prog Gl 44 [.ptr 5 0, .d (.int .i64 2), .osl 6 0 5] [a0, a1, a2, a3, a4, .box 2 (.agg [.nils, .nils]), .arr 1 ([([105, 100] : List UInt8), ([115, 111, 117, 114, 99, 101] : List UInt8), ([116, 97, 114, 103, 101, 116] : List UInt8), ([102, 114, 111, 109] : List UInt8), ([116, 111] : List UInt8)].map .str)] (fun r s => r = .ptr 5 0 ∧ s = [a0, a1, a2, a3, a4, .box 2 (.agg [.osl 7 0 5, .nils]), .frz 1 ([([105, 100] : List UInt8), ([115, 111, 117, 114, 99, 101] : List UInt8), ([116, 97, 114, 103, 101, 116] : List UInt8), ([102, 114, 111, 109] : List UInt8), ([116, 111] : List UInt8)].map .str), .arr 2 ([(⟨[105, 100], 2⟩ : ColT), (⟨[115, 111, 117, 114, 99, 101], 2⟩ : ColT), (⟨[116, 97, 114, 103, 101, 116], 2⟩ : ColT), (⟨[102, 114, 111, 109], 2⟩ : ColT), (⟨[116, 111], 2⟩ : ColT)].map ColT.toD)]) := by
 refine (ACalls.data (show ACalls Tryz.prog Gl 44 [.ptr 5 0, .d (.int .i64 2), .d (.sl ([([105, 100] : List UInt8), ([115, 111, 117, 114, 99, 101] : List UInt8), ([116, 97, 114, 103, 101, 116] : List UInt8), ([102, 114, 111, 109] : List UInt8), ([116, 111] : List UInt8)].map .str))] [a0, a1, a2, a3, a4, .box 2 (.agg [.nils, .nils]), .frz 1 ([([105, 100] : List UInt8), ([115, 111, 117, 114, 99, 101] : List UInt8), ([116, 97, 114, 103, 101, 116] : List UInt8), ([102, 114, 111, 109] : List UInt8), ([116, 111] : List UInt8)].map .str)] _ from ACalls.under [5] (by decide) (by simp) (k_cols0 2 [([105, 100] : List UInt8), ([115, 111, 117, 114, 99, 101] : List UInt8), ([116, 97, 114, 103, 101, 116] : List UInt8), ([102, 114, 111, 109] : List UInt8), ([116, 111] : List UInt8)] (by decide)))).mono fun r s h => ?_
 obtain ⟨r0, s0, ⟨rfl, rfl⟩, rfl, rfl⟩ := h
 exact ⟨rfl, rfl⟩
theorem c_floRow3 (a0 a1 a2 e0 : Blk) (rows : List (List ValT)) (hr : rows.length < 1000000) (i : Nat) (x : FlowT) : ACalls Tryz.prog Gl 45 [.ptr 3 0, .osl 7 0 5] [a0, a1, a2, .box 2 (.agg [.osl 4 0 5, .osl 5 0 rows.length]), .arr 2 (floCols.map ColT.toD), .arr 1 (rows.map rowD), e0, .arr 3 ((floRow i x).map ValT.toD)] (fun r s => r = .tup [] ∧ s = [a0, a1, a2, .box 2 (.agg [.osl 4 0 5, .osl 8 0 (rows ++ [floRow i x]).length]), .arr 2 (floCols.map ColT.toD), .dead, e0, .frz 3 ((floRow i x).map ValT.toD), .arr 1 ((rows ++ [floRow i x]).map rowD)]) := by
 refine (ACalls.data (show ACalls Tryz.prog Gl 45 [.ptr 3 0, .d (rowD (floRow i x))] [a0, a1, a2, .box 2 (.agg [.osl 4 0 5, .osl 5 0 rows.length]), .arr 2 (floCols.map ColT.toD), .arr 1 (rows.map rowD), e0, .frz 3 ((floRow i x).map ValT.toD)] _ from ACalls.under [3, 4, 5] (by decide) (by simp) (k_row floCols rows (floRow i x) hr))).mono fun r s h => ?_
 obtain ⟨r0, s0, ⟨rfl, rfl⟩, rfl, rfl⟩ := h
 exact ⟨rfl, rfl⟩
theorem c_cou6_0 (a0 a1 a2 a3 a4 a5 : Blk) : ACalls Tryz.prog Gl 44 [.ptr 6 0, .d (.int .i64 3), .osl 7 0 1] [a0, a1, a2, a3, a4, a5, .box 2 (.agg [.nils, .nils]), .arr 1 ([([110, 97, 109, 101] : List UInt8)].map .str)] (fun r s => r = .ptr 6 0 ∧ s = [a0, a1, a2, a3, a4, a5, .box 2 (.agg [.osl 8 0 1, .nils]), .frz 1 ([([110, 97, 109, 101] : List UInt8)].map .str), .arr 2 ([(⟨[110, 97, 109, 101], 3⟩ : ColT)].map ColT.toD)]) := by
 refine (ACalls.data (show ACalls Tryz.prog Gl 44 [.ptr 6 0, .d (.int .i64 3), .d (.sl ([([110, 97, 109, 101] : List UInt8)].map .str))] [a0, a1, a2, a3, a4, a5, .box 2 (.agg [.nils, .nils]), .frz 1 ([([110, 97, 109, 101] : List UInt8)].map .str)] _ from ACalls.under [6] (by decide) (by simp) (k_cols0 3 [([110, 97, 109, 101] : List UInt8)] (by decide)))).mono fun r s h => ?_
 obtain ⟨r0, s0, ⟨rfl, rfl⟩, rfl, rfl⟩ := h
 exact ⟨rfl, rfl⟩
theorem c_cou6_1 (a0 a1 a2 a3 a4 a5 : Blk) : ACalls Tryz.prog Gl 44 [.ptr 6 0, .d (.int .i64 2), .osl 9 0 2] [a0, a1, a2, a3, a4, a5, .box 2 (.agg [.osl 8 0 1, .nils]), .frz 1 ([([110, 97, 109, 101] : List UInt8)].map .str), .arr 2 ([(⟨[110, 97, 109, 101], 3⟩ : ColT)].map ColT.toD), .arr 1 ([([97, 116] : List UInt8), ([118, 97, 108, 117, 101] : List UInt8)].map .str)] (fun r s => r = .ptr 6 0 ∧ s = [a0, a1, a2, a3, a4, a5, .box 2 (.agg [.osl 10 0 3, .nils]), .frz 1 ([([110, 97, 109, 101] : List UInt8)].map .str), .dead, .frz 1 ([([97, 116] : List UInt8), ([118, 97, 108, 117, 101] : List UInt8)].map .str), .arr 2 ([(⟨[110, 97, 109, 101], 3⟩ : ColT), (⟨[97, 116], 2⟩ : ColT), (⟨[118, 97, 108, 117, 101], 2⟩ : ColT)].map ColT.toD)]) := by
 refine (ACalls.data (show ACalls Tryz.prog Gl 44 [.ptr 6 0, .d (.int .i64 2), .d (.sl ([([97, 116] : List UInt8), ([118, 97, 108, 117, 101] : List UInt8)].map .str))] [a0, a1, a2, a3, a4, a5, .box 2 (.agg [.osl 8 0 1, .nils]), .frz 1 ([([110, 97, 109, 101] : List UInt8)].map .str), .arr 2 ([(⟨[110, 97, 109, 101], 3⟩ : ColT)].map ColT.toD), .frz 1 ([([97, 116] : List UInt8), ([118, 97, 108, 117, 101] : List UInt8)].map .str)] _ from ACalls.under [6, 8] (by decide) (by simp) (k_cols 2 [(⟨[110, 97, 109, 101], 3⟩ : ColT)] [([97, 116] : List UInt8), ([118, 97, 108, 117, 101] : List UInt8)] (by decide) (by decide) (by decide)))).mono fun r s h => ?_
 obtain ⟨r0, s0, ⟨rfl, rfl⟩, rfl, rfl⟩ := h
 exact ⟨rfl, rfl⟩
theorem c_couRow4 (a0 a1 a2 a3 e0 : Blk) (rows : List (List ValT)) (hr : rows.length < 1000000) (i : Nat) (x : StepT) : ACalls Tryz.prog Gl 45 [.ptr 4 0, .osl 8 0 3] [a0, a1, a2, a3, .box 2 (.agg [.osl 5 0 3, .osl 6 0 rows.length]), .arr 2 (couCols.map ColT.toD), .arr 1 (rows.map rowD), e0, .arr 3 ((couRow i x).map ValT.toD)] (fun r s => r = .tup [] ∧ s = [a0, a1, a2, a3, .box 2 (.agg [.osl 5 0 3, .osl 9 0 (rows ++ [couRow i x]).length]), .arr 2 (couCols.map ColT.toD), .dead, e0, .frz 3 ((couRow i x).map ValT.toD), .arr 1 ((rows ++ [couRow i x]).map rowD)]) := by
 refine (ACalls.data (show ACalls Tryz.prog Gl 45 [.ptr 4 0, .d (rowD (couRow i x))] [a0, a1, a2, a3, .box 2 (.agg [.osl 5 0 3, .osl 6 0 rows.length]), .arr 2 (couCols.map ColT.toD), .arr 1 (rows.map rowD), e0, .frz 3 ((couRow i x).map ValT.toD)] _ from ACalls.under [4, 5, 6] (by decide) (by simp) (k_row couCols rows (couRow i x) hr))).mono fun r s h => ?_
 obtain ⟨r0, s0, ⟨rfl, rfl⟩, rfl, rfl⟩ := h
 exact ⟨rfl, rfl⟩
theorem c_blo7_0 (a0 a1 a2 a3 a4 a5 a6 : Blk) : ACalls Tryz.prog Gl 44 [.ptr 7 0, .d (.int .i64 2), .osl 8 0 5] [a0, a1, a2, a3, a4, a5, a6, .box 2 (.agg [.nils, .nils]), .arr 1 ([([105, 100] : List UInt8), ([116, 104, 114, 101, 97, 100] : List UInt8), ([115, 105, 122, 101] : List UInt8), ([102, 114, 111, 109] : List UInt8), ([116, 111] : List UInt8)].map .str)] (fun r s => r = .ptr 7 0 ∧ s = [a0, a1, a2, a3, a4, a5, a6, .box 2 (.agg [.osl 9 0 5, .nils]), .frz 1 ([([105, 100] : List UInt8), ([116, 104, 114, 101, 97, 100] : List UInt8), ([115, 105, 122, 101] : List UInt8), ([102, 114, 111, 109] : List UInt8), ([116, 111] : List UInt8)].map .str), .arr 2 ([(⟨[105, 100], 2⟩ : ColT), (⟨[116, 104, 114, 101, 97, 100], 2⟩ : ColT), (⟨[115, 105, 122, 101], 2⟩ : ColT), (⟨[102, 114, 111, 109], 2⟩ : ColT), (⟨[116, 111], 2⟩ : ColT)].map ColT.toD)]) := by
 refine (ACalls.data (show ACalls Tryz.prog Gl 44 [.ptr 7 0, .d (.int .i64 2), .d (.sl ([([105, 100] : List UInt8), ([116, 104, 114, 101, 97, 100] : List UInt8), ([115, 105, 122, 101] : List UInt8), ([102, 114, 111, 109] : List UInt8), ([116, 111] : List UInt8)].map .str))] [a0, a1, a2, a3, a4, a5, a6, .box 2 (.agg [.nils, .nils]), .frz 1 ([([105, 100] : List UInt8), ([116, 104, 114, 101, 97, 100] : List UInt8), ([115, 105, 122, 101] : List UInt8), ([102, 114, 111, 109] : List UInt8), ([116, 111] : List UInt8)].map .str)] _ from ACalls.under [7] (by decide) (by simp) (k_cols0 2 [([105, 100] : List UInt8), ([116, 104, 114, 101, 97, 100] : List UInt8), ([115, 105, 122, 101] : List UInt8), ([102, 114, 111, 109] : List UInt8), ([116, 111] : List UInt8)] (by decide)))).mono fun r s h => ?_
 obtain ⟨r0, s0, ⟨rfl, rfl⟩, rfl, rfl⟩ := h
 exact ⟨rfl, rfl⟩
theorem c_blo7_1 (a0 a1 a2 a3 a4 a5 a6 : Blk) : ACalls Tryz.prog Gl 44 [.ptr 7 0, .d (.int .i64 1), .osl 10 0 1] [a0, a1, a2, a3, a4, a5, a6, .box 2 (.agg [.osl 9 0 5, .nils]), .frz 1 ([([105, 100] : List UInt8), ([116, 104, 114, 101, 97, 100] : List UInt8), ([115, 105, 122, 101] : List UInt8), ([102, 114, 111, 109] : List UInt8), ([116, 111] : List UInt8)].map .str), .arr 2 ([(⟨[105, 100], 2⟩ : ColT), (⟨[116, 104, 114, 101, 97, 100], 2⟩ : ColT), (⟨[115, 105, 122, 101], 2⟩ : ColT), (⟨[102, 114, 111, 109], 2⟩ : ColT), (⟨[116, 111], 2⟩ : ColT)].map ColT.toD), .arr 1 ([([108, 105, 118, 101] : List UInt8)].map .str)] (fun r s => r = .ptr 7 0 ∧ s = [a0, a1, a2, a3, a4, a5, a6, .box 2 (.agg [.osl 11 0 6, .nils]), .frz 1 ([([105, 100] : List UInt8), ([116, 104, 114, 101, 97, 100] : List UInt8), ([115, 105, 122, 101] : List UInt8), ([102, 114, 111, 109] : List UInt8), ([116, 111] : List UInt8)].map .str), .dead, .frz 1 ([([108, 105, 118, 101] : List UInt8)].map .str), .arr 2 ([(⟨[105, 100], 2⟩ : ColT), (⟨[116, 104, 114, 101, 97, 100], 2⟩ : ColT), (⟨[115, 105, 122, 101], 2⟩ : ColT), (⟨[102, 114, 111, 109], 2⟩ : ColT), (⟨[116, 111], 2⟩ : ColT), (⟨[108, 105, 118, 101], 1⟩ : ColT)].map ColT.toD)]) := by
 refine (ACalls.data (show ACalls Tryz.prog Gl 44 [.ptr 7 0, .d (.int .i64 1), .d (.sl ([([108, 105, 118, 101] : List UInt8)].map .str))] [a0, a1, a2, a3, a4, a5, a6, .box 2 (.agg [.osl 9 0 5, .nils]), .frz 1 ([([105, 100] : List UInt8), ([116, 104, 114, 101, 97, 100] : List UInt8), ([115, 105, 122, 101] : List UInt8), ([102, 114, 111, 109] : List UInt8), ([116, 111] : List UInt8)].map .str), .arr 2 ([(⟨[105, 100], 2⟩ : ColT), (⟨[116, 104, 114, 101, 97, 100], 2⟩ : ColT), (⟨[115, 105, 122, 101], 2⟩ : ColT), (⟨[102, 114, 111, 109], 2⟩ : ColT), (⟨[116, 111], 2⟩ : ColT)].map ColT.toD), .frz 1 ([([108, 105, 118, 101] : List UInt8)].map .str)] _ from ACalls.under [7, 9] (by decide) (by simp) (k_cols 1 [(⟨[105, 100], 2⟩ : ColT), (⟨[116, 104, 114, 101, 97, 100], 2⟩ : ColT), (⟨[115, 105, 122, 101], 2⟩ : ColT), (⟨[102, 114, 111, 109], 2⟩ : ColT), (⟨[116, 111], 2⟩ : ColT)] [([108, 105, 118, 101] : List UInt8)] (by decide) (by decide) (by decide)))).mono fun r s h => ?_
 obtain ⟨r0, s0, ⟨rfl, rfl⟩, rfl, rfl⟩ := h
 exact ⟨rfl, rfl⟩
theorem c_bloRow5 (a0 a1 a2 a3 a4 e0 : Blk) (rows : List (List ValT)) (hr : rows.length < 1000000) (i : Nat) (x : BlockT) : ACalls Tryz.prog Gl 45 [.ptr 5 0, .osl 9 0 6] [a0, a1, a2, a3, a4, .box 2 (.agg [.osl 6 0 6, .osl 7 0 rows.length]), .arr 2 (bloCols.map ColT.toD), .arr 1 (rows.map rowD), e0, .arr 3 ((bloRow i x).map ValT.toD)] (fun r s => r = .tup [] ∧ s = [a0, a1, a2, a3, a4, .box 2 (.agg [.osl 6 0 6, .osl 10 0 (rows ++ [bloRow i x]).length]), .arr 2 (bloCols.map ColT.toD), .dead, e0, .frz 3 ((bloRow i x).map ValT.toD), .arr 1 ((rows ++ [bloRow i x]).map rowD)]) := by
 refine (ACalls.data (show ACalls Tryz.prog Gl 45 [.ptr 5 0, .d (rowD (bloRow i x))] [a0, a1, a2, a3, a4, .box 2 (.agg [.osl 6 0 6, .osl 7 0 rows.length]), .arr 2 (bloCols.map ColT.toD), .arr 1 (rows.map rowD), e0, .frz 3 ((bloRow i x).map ValT.toD)] _ from ACalls.under [5, 6, 7] (by decide) (by simp) (k_row bloCols rows (bloRow i x) hr))).mono fun r s h => ?_
 obtain ⟨r0, s0, ⟨rfl, rfl⟩, rfl, rfl⟩ := h
 exact ⟨rfl, rfl⟩
theorem c_los8_0 (a0 a1 a2 a3 a4 a5 a6 a7 : Blk) : ACalls Tryz.prog Gl 44 [.ptr 8 0, .d (.int .i64 2), .osl 9 0 4] [a0, a1, a2, a3, a4, a5, a6, a7, .box 2 (.agg [.nils, .nils]), .arr 1 ([([116, 104, 114, 101, 97, 100] : List UInt8), ([102, 114, 111, 109] : List UInt8), ([116, 111] : List UInt8), ([99, 111, 117, 110, 116] : List UInt8)].map .str)] (fun r s => r = .ptr 8 0 ∧ s = [a0, a1, a2, a3, a4, a5, a6, a7, .box 2 (.agg [.osl 10 0 4, .nils]), .frz 1 ([([116, 104, 114, 101, 97, 100] : List UInt8), ([102, 114, 111, 109] : List UInt8), ([116, 111] : List UInt8), ([99, 111, 117, 110, 116] : List UInt8)].map .str), .arr 2 ([(⟨[116, 104, 114, 101, 97, 100], 2⟩ : ColT), (⟨[102, 114, 111, 109], 2⟩ : ColT), (⟨[116, 111], 2⟩ : ColT), (⟨[99, 111, 117, 110, 116], 2⟩ : ColT)].map ColT.toD)]) := by
 refine (ACalls.data (show ACalls Tryz.prog Gl 44 [.ptr 8 0, .d (.int .i64 2), .d (.sl ([([116, 104, 114, 101, 97, 100] : List UInt8), ([102, 114, 111, 109] : List UInt8), ([116, 111] : List UInt8), ([99, 111, 117, 110, 116] : List UInt8)].map .str))] [a0, a1, a2, a3, a4, a5, a6, a7, .box 2 (.agg [.nils, .nils]), .frz 1 ([([116, 104, 114, 101, 97, 100] : List UInt8), ([102, 114, 111, 109] : List UInt8), ([116, 111] : List UInt8), ([99, 111, 117, 110, 116] : List UInt8)].map .str)] _ from ACalls.under [8] (by decide) (by simp) (k_cols0 2 [([116, 104, 114, 101, 97, 100] : List UInt8), ([102, 114, 111, 109] : List UInt8), ([116, 111] : List UInt8), ([99, 111, 117, 110, 116] : List UInt8)] (by decide)))).mono fun r s h => ?_
 obtain ⟨r0, s0, ⟨rfl, rfl⟩, rfl, rfl⟩ := h
 exact ⟨rfl, rfl⟩
theorem c_losRow6 (a0 a1 a2 a3 a4 a5 e0 : Blk) (rows : List (List ValT)) (hr : rows.length < 1000000) (i : Nat) (x : LossT) : ACalls Tryz.prog Gl 45 [.ptr 6 0, .osl 10 0 4] [a0, a1, a2, a3, a4, a5, .box 2 (.agg [.osl 7 0 4, .osl 8 0 rows.length]), .arr 2 (losCols.map ColT.toD), .arr 1 (rows.map rowD), e0, .arr 3 ((losRow i x).map ValT.toD)] (fun r s => r = .tup [] ∧ s = [a0, a1, a2, a3, a4, a5, .box 2 (.agg [.osl 7 0 4, .osl 11 0 (rows ++ [losRow i x]).length]), .arr 2 (losCols.map ColT.toD), .dead, e0, .frz 3 ((losRow i x).map ValT.toD), .arr 1 ((rows ++ [losRow i x]).map rowD)]) := by
 refine (ACalls.data (show ACalls Tryz.prog Gl 45 [.ptr 6 0, .d (rowD (losRow i x))] [a0, a1, a2, a3, a4, a5, .box 2 (.agg [.osl 7 0 4, .osl 8 0 rows.length]), .arr 2 (losCols.map ColT.toD), .arr 1 (rows.map rowD), e0, .frz 3 ((losRow i x).map ValT.toD)] _ from ACalls.under [6, 7, 8] (by decide) (by simp) (k_row losCols rows (losRow i x) hr))).mono fun r s h => ?_
 obtain ⟨r0, s0, ⟨rfl, rfl⟩, rfl, rfl⟩ := h
 exact ⟨rfl, rfl⟩
def bigN (x : NamT) : Bool := decide (20000 < (x.tab.rows.length : Int))
def ofE (t : TraceT) : Int := if traceF t ≠ 0 then traceF t else if (ofL t).any bigN = true then 7 else 0
def ofF (t : TraceT) : List NamT := if ofE t = 0 then ofL t else []
set_option maxHeartbeats 4000000 in
theorem k_Of (t : TraceT) (ht : t.Few) : Pure Tryz.prog Gl 20 [.d t.toD] (.tup [.d (.sl ((ofF t).map NamT.toD)), .d (.int .i64 (ofE t))]) := by
 refine Pure.of1t2 ?_
 refine acalls_of Tryz.func20 rfl rfl (by simp [Tryz.ntmps20]) (evC_sound rfl _ _ _ _ ?_)
 simp only [Tryz.ntmps20, Tryz.results20, argEnv, List.length_nil]
 simp only [zT, seval, implies_true, Nat.reduceLeDiff, Nat.reduceEqDiff, reduceCtorEq, reduceIte]
 repeat ((with_reducible refine And.intro ?_ ?_); (focus (first | omega | (simp only [lenR]; omega) | (refine qq ?_; rfl) | (refine dq ?_; kernel_rfl) | (intros; simp_all; done))))
 refine callF_pure (k_traceCheck t ht) ?_
 simp only [zT, seval, implies_true, Nat.reduceLeDiff, Nat.reduceEqDiff, reduceCtorEq, reduceIte]
 repeat ((with_reducible refine And.intro ?_ ?_); (focus (first | omega | (simp only [lenR]; omega) | (refine qq ?_; rfl) | (refine dq ?_; kernel_rfl) | (intros; simp_all; done))))
 refine ifC.mk (fun h1 => ?_) (fun h1 => ?_)
 ·have h1 := bne_iff_ne.1 h1
  repeat ((with_reducible refine And.intro ?_ ?_); (focus (first | omega | (simp only [lenR]; omega) | (refine qq ?_; rfl) | (refine dq ?_; kernel_rfl) | (intros; simp_all; done))))
  refine ⟨_, _, ret_tdata rfl rfl, ?_, rfl⟩
  have hz : ofE t = traceF t := by rw [ofE, if_pos h1]
  rw [ofF, hz, if_neg h1]; rfl
 have h1 : traceF t = 0 := by simpa using h1
 repeat ((with_reducible refine And.intro ?_ ?_); (focus (first | omega | (simp only [lenR]; omega) | (refine qq ?_; rfl) | (refine dq ?_; kernel_rfl) | (intros; simp_all; done))))
 refine callF_go ((c_thr1_0 _).mono fun r s hrs => ?_)
 obtain ⟨rfl, rfl⟩ := hrs
 simp only [zT, seval, implies_true, Nat.reduceLeDiff, Nat.reduceEqDiff, reduceCtorEq, reduceIte]
 refine callF_go ((c_thr1_1 _).mono fun r s hrs => ?_)
 obtain ⟨rfl, rfl⟩ := hrs
 simp only [zT, seval, implies_true, Nat.reduceLeDiff, Nat.reduceEqDiff, reduceCtorEq, reduceIte]
 refine for_of t.threads.length (fun k => [(1, .ptr 0 0), (5, .ptr 1 0), (38, .d (.sl (t.threads.map ThreadT.toD))), (39, .d (.int .i64 t.threads.length)), (40, .d (.int .i64 k))]) (fun k => [.box 10 (.d t.toD), .box 2 (.agg [.osl 2 0 2, .osl 3 0 (rowsOf thrRow t.threads k).length]), .arr 2 (thrCols.map ColT.toD), .arr 1 ((rowsOf thrRow t.threads k).map rowD)]) (fun _ => True) trivial ?_ ?_
 ·refine Weak.trans (weak_boxNil 1 1 1 (Nat.zero_le _) rfl rfl (by simp) (by simp [AV.refs, ref1, freezeL, Go.AM.freeze])) ?_
  refine weak_to [] [0, 1, 5, 6] rfl (by simp) ?_ rfl
  simp only [zT, seval, implies_true, Nat.reduceLeDiff, Nat.reduceEqDiff, reduceCtorEq, reduceIte]
  all_goals rfl
 ·intro k hi hk
  by_cases h : k < t.threads.length
  ·obtain ⟨x, hx⟩ : ∃ x, x = t.threads.getD k default := ⟨_, rfl⟩
   have hg : (List.map ThreadT.toD t.threads).getD k default = x.toD := by rw [hx]; simp [h]
   have hs := rowsOf_step thrRow t.threads k
   have hrl : (rowsOf thrRow t.threads k).length < 1000000 := by rw [rowsOf_len]; have := ht.threads; omega
   rw [← hx] at hs
   simp only [zT, seval, implies_true, Nat.reduceLeDiff, Nat.reduceEqDiff, reduceCtorEq, reduceIte, (show (k:Int) < t.threads.length by omega), h, hg]
   repeat ((with_reducible refine And.intro ?_ ?_); (focus (first | omega | (simp only [lenR]; omega) | (refine qq ?_; rfl) | (refine dq ?_; kernel_rfl) | (intros; simp_all; done))))
   refine callF_pure (k_num _) ?_
   simp only [zT, seval, implies_true, Nat.reduceLeDiff, Nat.reduceEqDiff, reduceCtorEq, reduceIte]
   repeat ((with_reducible refine And.intro ?_ ?_); (focus (first | omega | (simp only [lenR]; omega) | (refine qq ?_; rfl) | (refine dq ?_; kernel_rfl) | (intros; simp_all; done))))
   refine callF_pure (k_txt _) ?_
   simp only [zT, seval, implies_true, Nat.reduceLeDiff, Nat.reduceEqDiff, reduceCtorEq, reduceIte]
   repeat ((with_reducible refine And.intro ?_ ?_); (focus (first | omega | (simp only [lenR]; omega) | (refine qq ?_; rfl) | (refine dq ?_; kernel_rfl) | (intros; simp_all; done))))
   refine callF_last (by kernel_rfl) ((c_thrRow1 _ _ (rowsOf thrRow t.threads k) hrl k x).mono fun r s hrs => ?_)
   obtain ⟨rfl, rfl⟩ := hrs
   simp only [zT, seval, implies_true, Nat.reduceLeDiff, Nat.reduceEqDiff, reduceCtorEq, reduceIte]
   rw [← hs, rowsOf_len, rowsOf_len]
   refine weak_to [] [0, 1, 2, 6] rfl (by simp) ?_ rfl
   have hkl := ht.threads
   simp only [zT, seval, implies_true, Nat.reduceLeDiff, Nat.reduceEqDiff, reduceCtorEq, reduceIte, @a_wrap ((k:Int) + 1) (by omega)]
   all_goals rfl
  ·simp only [zT, seval, implies_true, Nat.reduceLeDiff, Nat.reduceEqDiff, reduceCtorEq, reduceIte, (show ¬ (k:Int) < t.threads.length by omega)]
   have : k = t.threads.length := by omega
   subst this
   clear hi hk h
   repeat ((with_reducible refine And.intro ?_ ?_); (focus (first | omega | (simp only [lenR]; omega) | (refine qq ?_; rfl) | (refine dq ?_; kernel_rfl) | (intros; simp_all; done))))
   refine callF_go ((c_sta4_0 _ _ _ _).mono fun r s hrs => ?_)
   obtain ⟨rfl, rfl⟩ := hrs
   simp only [zT, seval, implies_true, Nat.reduceLeDiff, Nat.reduceEqDiff, reduceCtorEq, reduceIte]
   have hd1 : D.agg [.sl (List.take 2 (thrCols.map ColT.toD)), .sl (List.take (rowsOf thrRow t.threads t.threads.length).length ((rowsOf thrRow t.threads t.threads.length).map rowD))] = (thrTab t).toD := by rw [take_all]; rfl
   refine for_of t.states.length (fun k => [(1, .ptr 0 0), (5, .ptr 1 0), (8, .ptr 2 0), (59, .d (.sl (t.states.map StateT.toD))), (60, .d (.int .i64 t.states.length)), (61, .d (.int .i64 k))]) (fun k => [.box 10 (.d t.toD), .box 2 (.d (thrTab t).toD), .box 2 (.agg [.osl 3 0 7, .osl 4 0 (rowsOf staRow t.states k).length]), .arr 2 (staCols.map ColT.toD), .arr 1 ((rowsOf staRow t.states k).map rowD)]) (fun _ => True) trivial ?_ ?_
   ·rw [← hd1]
    refine Weak.trans (weak_boxD 1 rfl (by simp) rfl) ?_
    refine Weak.trans (weak_boxNil 4 1 1 (Nat.zero_le _) rfl rfl (by simp) (by simp [AV.refs, ref1, freezeL, Go.AM.freeze])) ?_
    refine weak_to [] [0, 1, 4, 6, 7] rfl (by simp) ?_ rfl
    simp only [zT, seval, implies_true, Nat.reduceLeDiff, Nat.reduceEqDiff, reduceCtorEq, reduceIte]
    all_goals rfl
   ·intro k hi hk
    by_cases h : k < t.states.length
    ·obtain ⟨x, hx⟩ : ∃ x, x = t.states.getD k default := ⟨_, rfl⟩
     have hg : (List.map StateT.toD t.states).getD k default = x.toD := by rw [hx]; simp [h]
     have hs := rowsOf_step staRow t.states k
     have hrl : (rowsOf staRow t.states k).length < 1000000 := by rw [rowsOf_len]; have := ht.states; omega
     rw [← hx] at hs
     simp only [zT, seval, implies_true, Nat.reduceLeDiff, Nat.reduceEqDiff, reduceCtorEq, reduceIte, (show (k:Int) < t.states.length by omega), h, hg]
     repeat ((with_reducible refine And.intro ?_ ?_); (focus (first | omega | (simp only [lenR]; omega) | (refine qq ?_; rfl) | (refine dq ?_; kernel_rfl) | (intros; simp_all; done))))
     refine callF_pure (k_num _) ?_
     simp only [zT, seval, implies_true, Nat.reduceLeDiff, Nat.reduceEqDiff, reduceCtorEq, reduceIte]
     repeat ((with_reducible refine And.intro ?_ ?_); (focus (first | omega | (simp only [lenR]; omega) | (refine qq ?_; rfl) | (refine dq ?_; kernel_rfl) | (intros; simp_all; done))))
     refine callF_pure (k_num _) ?_
     simp only [zT, seval, implies_true, Nat.reduceLeDiff, Nat.reduceEqDiff, reduceCtorEq, reduceIte]
     repeat ((with_reducible refine And.intro ?_ ?_); (focus (first | omega | (simp only [lenR]; omega) | (refine qq ?_; rfl) | (refine dq ?_; kernel_rfl) | (intros; simp_all; done))))
     refine callF_pure (k_num _) ?_
     simp only [zT, seval, implies_true, Nat.reduceLeDiff, Nat.reduceEqDiff, reduceCtorEq, reduceIte]
     repeat ((with_reducible refine And.intro ?_ ?_); (focus (first | omega | (simp only [lenR]; omega) | (refine qq ?_; rfl) | (refine dq ?_; kernel_rfl) | (intros; simp_all; done))))
     refine callF_pure (k_num _) ?_
     simp only [zT, seval, implies_true, Nat.reduceLeDiff, Nat.reduceEqDiff, reduceCtorEq, reduceIte]
     repeat ((with_reducible refine And.intro ?_ ?_); (focus (first | omega | (simp only [lenR]; omega) | (refine qq ?_; rfl) | (refine dq ?_; kernel_rfl) | (intros; simp_all; done))))
     refine callF_pure (k_oth _) ?_
     simp only [zT, seval, implies_true, Nat.reduceLeDiff, Nat.reduceEqDiff, reduceCtorEq, reduceIte]
     repeat ((with_reducible refine And.intro ?_ ?_); (focus (first | omega | (simp only [lenR]; omega) | (refine qq ?_; rfl) | (refine dq ?_; kernel_rfl) | (intros; simp_all; done))))
     refine callF_pure (k_oth _) ?_
     simp only [zT, seval, implies_true, Nat.reduceLeDiff, Nat.reduceEqDiff, reduceCtorEq, reduceIte]
     repeat ((with_reducible refine And.intro ?_ ?_); (focus (first | omega | (simp only [lenR]; omega) | (refine qq ?_; rfl) | (refine dq ?_; kernel_rfl) | (intros; simp_all; done))))
     refine callF_pure (k_oth _) ?_
     simp only [zT, seval, implies_true, Nat.reduceLeDiff, Nat.reduceEqDiff, reduceCtorEq, reduceIte]
     repeat ((with_reducible refine And.intro ?_ ?_); (focus (first | omega | (simp only [lenR]; omega) | (refine qq ?_; rfl) | (refine dq ?_; kernel_rfl) | (intros; simp_all; done))))
     refine callF_last (by kernel_rfl) ((c_staRow2 _ _ _ (rowsOf staRow t.states k) hrl k x).mono fun r s hrs => ?_)
     obtain ⟨rfl, rfl⟩ := hrs
     simp only [zT, seval, implies_true, Nat.reduceLeDiff, Nat.reduceEqDiff, reduceCtorEq, reduceIte]
     rw [← hs, rowsOf_len, rowsOf_len]
     refine weak_to [] [0, 1, 2, 3, 7] rfl (by simp) ?_ rfl
     have hkl := ht.states
     simp only [zT, seval, implies_true, Nat.reduceLeDiff, Nat.reduceEqDiff, reduceCtorEq, reduceIte, @a_wrap ((k:Int) + 1) (by omega)]
     all_goals rfl
    ·simp only [zT, seval, implies_true, Nat.reduceLeDiff, Nat.reduceEqDiff, reduceCtorEq, reduceIte, (show ¬ (k:Int) < t.states.length by omega)]
     have : k = t.states.length := by omega
     subst this
     clear hi hk h
     repeat ((with_reducible refine And.intro ?_ ?_); (focus (first | omega | (simp only [lenR]; omega) | (refine qq ?_; rfl) | (refine dq ?_; kernel_rfl) | (intros; simp_all; done))))
     refine callF_go ((c_flo5_0 _ _ _ _ _).mono fun r s hrs => ?_)
     obtain ⟨rfl, rfl⟩ := hrs
     simp only [zT, seval, implies_true, Nat.reduceLeDiff, Nat.reduceEqDiff, reduceCtorEq, reduceIte]
     have hd2 : D.agg [.sl (List.take 7 (staCols.map ColT.toD)), .sl (List.take (rowsOf staRow t.states t.states.length).length ((rowsOf staRow t.states t.states.length).map rowD))] = (staTab t).toD := by rw [take_all]; rfl
     refine for_of t.flows.length (fun k => [(1, .ptr 0 0), (5, .ptr 1 0), (8, .ptr 2 0), (11, .ptr 3 0), (97, .d (.sl (t.flows.map FlowT.toD))), (98, .d (.int .i64 t.flows.length)), (99, .d (.int .i64 k))]) (fun k => [.box 10 (.d t.toD), .box 2 (.d (thrTab t).toD), .box 2 (.d (staTab t).toD), .box 2 (.agg [.osl 4 0 5, .osl 5 0 (rowsOf floRow t.flows k).length]), .arr 2 (floCols.map ColT.toD), .arr 1 ((rowsOf floRow t.flows k).map rowD)]) (fun _ => True) trivial ?_ ?_
     ·rw [← hd2]
      refine Weak.trans (weak_boxD 2 rfl (by simp) rfl) ?_
      refine Weak.trans (weak_boxNil 5 1 1 (Nat.zero_le _) rfl rfl (by simp) (by simp [AV.refs, ref1, freezeL, Go.AM.freeze])) ?_
      refine weak_to [] [0, 1, 2, 5, 7, 8] rfl (by simp) ?_ rfl
      simp only [zT, seval, implies_true, Nat.reduceLeDiff, Nat.reduceEqDiff, reduceCtorEq, reduceIte]
      all_goals rfl
     ·intro k hi hk
      by_cases h : k < t.flows.length
      ·obtain ⟨x, hx⟩ : ∃ x, x = t.flows.getD k default := ⟨_, rfl⟩
       have hg : (List.map FlowT.toD t.flows).getD k default = x.toD := by rw [hx]; simp [h]
       have hs := rowsOf_step floRow t.flows k
       have hrl : (rowsOf floRow t.flows k).length < 1000000 := by rw [rowsOf_len]; have := ht.flows; omega
       rw [← hx] at hs
       simp only [zT, seval, implies_true, Nat.reduceLeDiff, Nat.reduceEqDiff, reduceCtorEq, reduceIte, (show (k:Int) < t.flows.length by omega), h, hg]
       repeat ((with_reducible refine And.intro ?_ ?_); (focus (first | omega | (simp only [lenR]; omega) | (refine qq ?_; rfl) | (refine dq ?_; kernel_rfl) | (intros; simp_all; done))))
       refine callF_pure (k_num _) ?_
       simp only [zT, seval, implies_true, Nat.reduceLeDiff, Nat.reduceEqDiff, reduceCtorEq, reduceIte]
       repeat ((with_reducible refine And.intro ?_ ?_); (focus (first | omega | (simp only [lenR]; omega) | (refine qq ?_; rfl) | (refine dq ?_; kernel_rfl) | (intros; simp_all; done))))
       refine callF_pure (k_num _) ?_
       simp only [zT, seval, implies_true, Nat.reduceLeDiff, Nat.reduceEqDiff, reduceCtorEq, reduceIte]
       repeat ((with_reducible refine And.intro ?_ ?_); (focus (first | omega | (simp only [lenR]; omega) | (refine qq ?_; rfl) | (refine dq ?_; kernel_rfl) | (intros; simp_all; done))))
       refine callF_pure (k_num _) ?_
       simp only [zT, seval, implies_true, Nat.reduceLeDiff, Nat.reduceEqDiff, reduceCtorEq, reduceIte]
       repeat ((with_reducible refine And.intro ?_ ?_); (focus (first | omega | (simp only [lenR]; omega) | (refine qq ?_; rfl) | (refine dq ?_; kernel_rfl) | (intros; simp_all; done))))
       refine callF_pure (k_num _) ?_
       simp only [zT, seval, implies_true, Nat.reduceLeDiff, Nat.reduceEqDiff, reduceCtorEq, reduceIte]
       repeat ((with_reducible refine And.intro ?_ ?_); (focus (first | omega | (simp only [lenR]; omega) | (refine qq ?_; rfl) | (refine dq ?_; kernel_rfl) | (intros; simp_all; done))))
       refine callF_pure (k_num _) ?_
       simp only [zT, seval, implies_true, Nat.reduceLeDiff, Nat.reduceEqDiff, reduceCtorEq, reduceIte]
       repeat ((with_reducible refine And.intro ?_ ?_); (focus (first | omega | (simp only [lenR]; omega) | (refine qq ?_; rfl) | (refine dq ?_; kernel_rfl) | (intros; simp_all; done))))
       refine callF_last (by kernel_rfl) ((c_floRow3 _ _ _ _ (rowsOf floRow t.flows k) hrl k x).mono fun r s hrs => ?_)
       obtain ⟨rfl, rfl⟩ := hrs
       simp only [zT, seval, implies_true, Nat.reduceLeDiff, Nat.reduceEqDiff, reduceCtorEq, reduceIte]
       rw [← hs, rowsOf_len, rowsOf_len]
       refine weak_to [] [0, 1, 2, 3, 4, 8] rfl (by simp) ?_ rfl
       have hkl := ht.flows
       simp only [zT, seval, implies_true, Nat.reduceLeDiff, Nat.reduceEqDiff, reduceCtorEq, reduceIte, @a_wrap ((k:Int) + 1) (by omega)]
       all_goals rfl
      ·simp only [zT, seval, implies_true, Nat.reduceLeDiff, Nat.reduceEqDiff, reduceCtorEq, reduceIte, (show ¬ (k:Int) < t.flows.length by omega)]
       have : k = t.flows.length := by omega
       subst this
       clear hi hk h
       repeat ((with_reducible refine And.intro ?_ ?_); (focus (first | omega | (simp only [lenR]; omega) | (refine qq ?_; rfl) | (refine dq ?_; kernel_rfl) | (intros; simp_all; done))))
       refine callF_go ((c_cou6_0 _ _ _ _ _ _).mono fun r s hrs => ?_)
       obtain ⟨rfl, rfl⟩ := hrs
       simp only [zT, seval, implies_true, Nat.reduceLeDiff, Nat.reduceEqDiff, reduceCtorEq, reduceIte]
       refine callF_go ((c_cou6_1 _ _ _ _ _ _).mono fun r s hrs => ?_)
       obtain ⟨rfl, rfl⟩ := hrs
       simp only [zT, seval, implies_true, Nat.reduceLeDiff, Nat.reduceEqDiff, reduceCtorEq, reduceIte]
       have hd3 : D.agg [.sl (List.take 5 (floCols.map ColT.toD)), .sl (List.take (rowsOf floRow t.flows t.flows.length).length ((rowsOf floRow t.flows t.flows.length).map rowD))] = (floTab t).toD := by rw [take_all]; rfl
       refine for_of t.steps.length (fun k => [(1, .ptr 0 0), (5, .ptr 1 0), (8, .ptr 2 0), (11, .ptr 3 0), (14, .ptr 4 0), (131, .d (.sl (t.steps.map StepT.toD))), (132, .d (.int .i64 t.steps.length)), (133, .d (.int .i64 k))]) (fun k => [.box 10 (.d t.toD), .box 2 (.d (thrTab t).toD), .box 2 (.d (staTab t).toD), .box 2 (.d (floTab t).toD), .box 2 (.agg [.osl 5 0 3, .osl 6 0 (rowsOf couRow t.steps k).length]), .arr 2 (couCols.map ColT.toD), .arr 1 ((rowsOf couRow t.steps k).map rowD)]) (fun _ => True) trivial ?_ ?_
       ·rw [← hd3]
        refine Weak.trans (weak_boxD 3 rfl (by simp) rfl) ?_
        refine Weak.trans (weak_boxNil 6 1 1 (Nat.zero_le _) rfl rfl (by simp) (by simp [AV.refs, ref1, freezeL, Go.AM.freeze])) ?_
        refine weak_to [] [0, 1, 2, 3, 6, 10, 11] rfl (by simp) ?_ rfl
        simp only [zT, seval, implies_true, Nat.reduceLeDiff, Nat.reduceEqDiff, reduceCtorEq, reduceIte]
        all_goals rfl
       ·intro k hi hk
        by_cases h : k < t.steps.length
        ·obtain ⟨x, hx⟩ : ∃ x, x = t.steps.getD k default := ⟨_, rfl⟩
         have hg : (List.map StepT.toD t.steps).getD k default = x.toD := by rw [hx]; simp [h]
         have hs := rowsOf_step couRow t.steps k
         have hrl : (rowsOf couRow t.steps k).length < 1000000 := by rw [rowsOf_len]; have := ht.steps; omega
         rw [← hx] at hs
         simp only [zT, seval, implies_true, Nat.reduceLeDiff, Nat.reduceEqDiff, reduceCtorEq, reduceIte, (show (k:Int) < t.steps.length by omega), h, hg]
         repeat ((with_reducible refine And.intro ?_ ?_); (focus (first | omega | (simp only [lenR]; omega) | (refine qq ?_; rfl) | (refine dq ?_; kernel_rfl) | (intros; simp_all; done))))
         refine callF_pure (k_txt _) ?_
         simp only [zT, seval, implies_true, Nat.reduceLeDiff, Nat.reduceEqDiff, reduceCtorEq, reduceIte]
         repeat ((with_reducible refine And.intro ?_ ?_); (focus (first | omega | (simp only [lenR]; omega) | (refine qq ?_; rfl) | (refine dq ?_; kernel_rfl) | (intros; simp_all; done))))
         refine callF_pure (k_num _) ?_
         simp only [zT, seval, implies_true, Nat.reduceLeDiff, Nat.reduceEqDiff, reduceCtorEq, reduceIte]
         repeat ((with_reducible refine And.intro ?_ ?_); (focus (first | omega | (simp only [lenR]; omega) | (refine qq ?_; rfl) | (refine dq ?_; kernel_rfl) | (intros; simp_all; done))))
         refine callF_pure (k_num _) ?_
         simp only [zT, seval, implies_true, Nat.reduceLeDiff, Nat.reduceEqDiff, reduceCtorEq, reduceIte]
         repeat ((with_reducible refine And.intro ?_ ?_); (focus (first | omega | (simp only [lenR]; omega) | (refine qq ?_; rfl) | (refine dq ?_; kernel_rfl) | (intros; simp_all; done))))
         refine callF_last (by kernel_rfl) ((c_couRow4 _ _ _ _ _ (rowsOf couRow t.steps k) hrl k x).mono fun r s hrs => ?_)
         obtain ⟨rfl, rfl⟩ := hrs
         simp only [zT, seval, implies_true, Nat.reduceLeDiff, Nat.reduceEqDiff, reduceCtorEq, reduceIte]
         rw [← hs, rowsOf_len, rowsOf_len]
         refine weak_to [] [0, 1, 2, 3, 4, 5, 9] rfl (by simp) ?_ rfl
         have hkl := ht.steps
         simp only [zT, seval, implies_true, Nat.reduceLeDiff, Nat.reduceEqDiff, reduceCtorEq, reduceIte, @a_wrap ((k:Int) + 1) (by omega)]
         all_goals rfl
        ·simp only [zT, seval, implies_true, Nat.reduceLeDiff, Nat.reduceEqDiff, reduceCtorEq, reduceIte, (show ¬ (k:Int) < t.steps.length by omega)]
         have : k = t.steps.length := by omega
         subst this
         clear hi hk h
         repeat ((with_reducible refine And.intro ?_ ?_); (focus (first | omega | (simp only [lenR]; omega) | (refine qq ?_; rfl) | (refine dq ?_; kernel_rfl) | (intros; simp_all; done))))
         refine callF_go ((c_blo7_0 _ _ _ _ _ _ _).mono fun r s hrs => ?_)
         obtain ⟨rfl, rfl⟩ := hrs
         simp only [zT, seval, implies_true, Nat.reduceLeDiff, Nat.reduceEqDiff, reduceCtorEq, reduceIte]
         refine callF_go ((c_blo7_1 _ _ _ _ _ _ _).mono fun r s hrs => ?_)
         obtain ⟨rfl, rfl⟩ := hrs
         simp only [zT, seval, implies_true, Nat.reduceLeDiff, Nat.reduceEqDiff, reduceCtorEq, reduceIte]
         have hd4 : D.agg [.sl (List.take 3 (couCols.map ColT.toD)), .sl (List.take (rowsOf couRow t.steps t.steps.length).length ((rowsOf couRow t.steps t.steps.length).map rowD))] = (couTab t).toD := by rw [take_all]; rfl
         refine for_of t.blocks.length (fun k => [(1, .ptr 0 0), (5, .ptr 1 0), (8, .ptr 2 0), (11, .ptr 3 0), (14, .ptr 4 0), (17, .ptr 5 0), (157, .d (.sl (t.blocks.map BlockT.toD))), (158, .d (.int .i64 t.blocks.length)), (159, .d (.int .i64 k))]) (fun k => [.box 10 (.d t.toD), .box 2 (.d (thrTab t).toD), .box 2 (.d (staTab t).toD), .box 2 (.d (floTab t).toD), .box 2 (.d (couTab t).toD), .box 2 (.agg [.osl 6 0 6, .osl 7 0 (rowsOf bloRow t.blocks k).length]), .arr 2 (bloCols.map ColT.toD), .arr 1 ((rowsOf bloRow t.blocks k).map rowD)]) (fun _ => True) trivial ?_ ?_
         ·rw [← hd4]
          refine Weak.trans (weak_boxD 4 rfl (by simp) rfl) ?_
          refine Weak.trans (weak_boxNil 7 1 1 (Nat.zero_le _) rfl rfl (by simp) (by simp [AV.refs, ref1, freezeL, Go.AM.freeze])) ?_
          refine weak_to [] [0, 1, 2, 3, 4, 7, 11, 12] rfl (by simp) ?_ rfl
          simp only [zT, seval, implies_true, Nat.reduceLeDiff, Nat.reduceEqDiff, reduceCtorEq, reduceIte]
          all_goals rfl
         ·intro k hi hk
          by_cases h : k < t.blocks.length
          ·obtain ⟨x, hx⟩ : ∃ x, x = t.blocks.getD k default := ⟨_, rfl⟩
           have hg : (List.map BlockT.toD t.blocks).getD k default = x.toD := by rw [hx]; simp [h]
           have hs := rowsOf_step bloRow t.blocks k
           have hrl : (rowsOf bloRow t.blocks k).length < 1000000 := by rw [rowsOf_len]; have := ht.blocks; omega
           rw [← hx] at hs
           simp only [zT, seval, implies_true, Nat.reduceLeDiff, Nat.reduceEqDiff, reduceCtorEq, reduceIte, (show (k:Int) < t.blocks.length by omega), h, hg]
           repeat ((with_reducible refine And.intro ?_ ?_); (focus (first | omega | (simp only [lenR]; omega) | (refine qq ?_; rfl) | (refine dq ?_; kernel_rfl) | (intros; simp_all; done))))
           refine callF_pure (k_num _) ?_
           simp only [zT, seval, implies_true, Nat.reduceLeDiff, Nat.reduceEqDiff, reduceCtorEq, reduceIte]
           repeat ((with_reducible refine And.intro ?_ ?_); (focus (first | omega | (simp only [lenR]; omega) | (refine qq ?_; rfl) | (refine dq ?_; kernel_rfl) | (intros; simp_all; done))))
           refine callF_pure (k_num _) ?_
           simp only [zT, seval, implies_true, Nat.reduceLeDiff, Nat.reduceEqDiff, reduceCtorEq, reduceIte]
           repeat ((with_reducible refine And.intro ?_ ?_); (focus (first | omega | (simp only [lenR]; omega) | (refine qq ?_; rfl) | (refine dq ?_; kernel_rfl) | (intros; simp_all; done))))
           refine callF_pure (k_num _) ?_
           simp only [zT, seval, implies_true, Nat.reduceLeDiff, Nat.reduceEqDiff, reduceCtorEq, reduceIte]
           repeat ((with_reducible refine And.intro ?_ ?_); (focus (first | omega | (simp only [lenR]; omega) | (refine qq ?_; rfl) | (refine dq ?_; kernel_rfl) | (intros; simp_all; done))))
           refine callF_pure (k_num _) ?_
           simp only [zT, seval, implies_true, Nat.reduceLeDiff, Nat.reduceEqDiff, reduceCtorEq, reduceIte]
           repeat ((with_reducible refine And.intro ?_ ?_); (focus (first | omega | (simp only [lenR]; omega) | (refine qq ?_; rfl) | (refine dq ?_; kernel_rfl) | (intros; simp_all; done))))
           refine callF_pure (k_num _) ?_
           simp only [zT, seval, implies_true, Nat.reduceLeDiff, Nat.reduceEqDiff, reduceCtorEq, reduceIte]
           repeat ((with_reducible refine And.intro ?_ ?_); (focus (first | omega | (simp only [lenR]; omega) | (refine qq ?_; rfl) | (refine dq ?_; kernel_rfl) | (intros; simp_all; done))))
           refine callF_pure (k_tru _) ?_
           simp only [zT, seval, implies_true, Nat.reduceLeDiff, Nat.reduceEqDiff, reduceCtorEq, reduceIte]
           repeat ((with_reducible refine And.intro ?_ ?_); (focus (first | omega | (simp only [lenR]; omega) | (refine qq ?_; rfl) | (refine dq ?_; kernel_rfl) | (intros; simp_all; done))))
           refine callF_last (by kernel_rfl) ((c_bloRow5 _ _ _ _ _ _ (rowsOf bloRow t.blocks k) hrl k x).mono fun r s hrs => ?_)
           obtain ⟨rfl, rfl⟩ := hrs
           simp only [zT, seval, implies_true, Nat.reduceLeDiff, Nat.reduceEqDiff, reduceCtorEq, reduceIte]
           rw [← hs, rowsOf_len, rowsOf_len]
           refine weak_to [] [0, 1, 2, 3, 4, 5, 6, 10] rfl (by simp) ?_ rfl
           have hkl := ht.blocks
           simp only [zT, seval, implies_true, Nat.reduceLeDiff, Nat.reduceEqDiff, reduceCtorEq, reduceIte, @a_wrap ((k:Int) + 1) (by omega)]
           all_goals rfl
          ·simp only [zT, seval, implies_true, Nat.reduceLeDiff, Nat.reduceEqDiff, reduceCtorEq, reduceIte, (show ¬ (k:Int) < t.blocks.length by omega)]
           have : k = t.blocks.length := by omega
           subst this
           clear hi hk h
           repeat ((with_reducible refine And.intro ?_ ?_); (focus (first | omega | (simp only [lenR]; omega) | (refine qq ?_; rfl) | (refine dq ?_; kernel_rfl) | (intros; simp_all; done))))
           refine callF_go ((c_los8_0 _ _ _ _ _ _ _ _).mono fun r s hrs => ?_)
           obtain ⟨rfl, rfl⟩ := hrs
           simp only [zT, seval, implies_true, Nat.reduceLeDiff, Nat.reduceEqDiff, reduceCtorEq, reduceIte]
           have hd5 : D.agg [.sl (List.take 6 (bloCols.map ColT.toD)), .sl (List.take (rowsOf bloRow t.blocks t.blocks.length).length ((rowsOf bloRow t.blocks t.blocks.length).map rowD))] = (bloTab t).toD := by rw [take_all]; rfl
           refine for_of t.lost.length (fun k => [(1, .ptr 0 0), (5, .ptr 1 0), (8, .ptr 2 0), (11, .ptr 3 0), (14, .ptr 4 0), (17, .ptr 5 0), (20, .ptr 6 0), (192, .d (.sl (t.lost.map LossT.toD))), (193, .d (.int .i64 t.lost.length)), (194, .d (.int .i64 k))]) (fun k => [.box 10 (.d t.toD), .box 2 (.d (thrTab t).toD), .box 2 (.d (staTab t).toD), .box 2 (.d (floTab t).toD), .box 2 (.d (couTab t).toD), .box 2 (.d (bloTab t).toD), .box 2 (.agg [.osl 7 0 4, .osl 8 0 (rowsOf losRow t.lost k).length]), .arr 2 (losCols.map ColT.toD), .arr 1 ((rowsOf losRow t.lost k).map rowD)]) (fun _ => True) trivial ?_ ?_
           ·rw [← hd5]
            refine Weak.trans (weak_boxD 5 rfl (by simp) rfl) ?_
            refine Weak.trans (weak_boxNil 8 1 1 (Nat.zero_le _) rfl rfl (by simp) (by simp [AV.refs, ref1, freezeL, Go.AM.freeze])) ?_
            refine weak_to [] [0, 1, 2, 3, 4, 5, 8, 10, 11] rfl (by simp) ?_ rfl
            simp only [zT, seval, implies_true, Nat.reduceLeDiff, Nat.reduceEqDiff, reduceCtorEq, reduceIte]
            all_goals rfl
           ·intro k hi hk
            by_cases h : k < t.lost.length
            ·obtain ⟨x, hx⟩ : ∃ x, x = t.lost.getD k default := ⟨_, rfl⟩
             have hg : (List.map LossT.toD t.lost).getD k default = x.toD := by rw [hx]; simp [h]
             have hs := rowsOf_step losRow t.lost k
             have hrl : (rowsOf losRow t.lost k).length < 1000000 := by rw [rowsOf_len]; have := ht.lost; omega
             rw [← hx] at hs
             simp only [zT, seval, implies_true, Nat.reduceLeDiff, Nat.reduceEqDiff, reduceCtorEq, reduceIte, (show (k:Int) < t.lost.length by omega), h, hg]
             repeat ((with_reducible refine And.intro ?_ ?_); (focus (first | omega | (simp only [lenR]; omega) | (refine qq ?_; rfl) | (refine dq ?_; kernel_rfl) | (intros; simp_all; done))))
             refine callF_pure (k_num _) ?_
             simp only [zT, seval, implies_true, Nat.reduceLeDiff, Nat.reduceEqDiff, reduceCtorEq, reduceIte]
             repeat ((with_reducible refine And.intro ?_ ?_); (focus (first | omega | (simp only [lenR]; omega) | (refine qq ?_; rfl) | (refine dq ?_; kernel_rfl) | (intros; simp_all; done))))
             refine callF_pure (k_num _) ?_
             simp only [zT, seval, implies_true, Nat.reduceLeDiff, Nat.reduceEqDiff, reduceCtorEq, reduceIte]
             repeat ((with_reducible refine And.intro ?_ ?_); (focus (first | omega | (simp only [lenR]; omega) | (refine qq ?_; rfl) | (refine dq ?_; kernel_rfl) | (intros; simp_all; done))))
             refine callF_pure (k_num _) ?_
             simp only [zT, seval, implies_true, Nat.reduceLeDiff, Nat.reduceEqDiff, reduceCtorEq, reduceIte]
             repeat ((with_reducible refine And.intro ?_ ?_); (focus (first | omega | (simp only [lenR]; omega) | (refine qq ?_; rfl) | (refine dq ?_; kernel_rfl) | (intros; simp_all; done))))
             refine callF_pure (k_num _) ?_
             simp only [zT, seval, implies_true, Nat.reduceLeDiff, Nat.reduceEqDiff, reduceCtorEq, reduceIte]
             repeat ((with_reducible refine And.intro ?_ ?_); (focus (first | omega | (simp only [lenR]; omega) | (refine qq ?_; rfl) | (refine dq ?_; kernel_rfl) | (intros; simp_all; done))))
             refine callF_last (by kernel_rfl) ((c_losRow6 _ _ _ _ _ _ _ (rowsOf losRow t.lost k) hrl k x).mono fun r s hrs => ?_)
             obtain ⟨rfl, rfl⟩ := hrs
             simp only [zT, seval, implies_true, Nat.reduceLeDiff, Nat.reduceEqDiff, reduceCtorEq, reduceIte]
             rw [← hs, rowsOf_len, rowsOf_len]
             refine weak_to [] [0, 1, 2, 3, 4, 5, 6, 7, 11] rfl (by simp) ?_ rfl
             have hkl := ht.lost
             simp only [zT, seval, implies_true, Nat.reduceLeDiff, Nat.reduceEqDiff, reduceCtorEq, reduceIte, @a_wrap ((k:Int) + 1) (by omega)]
             all_goals rfl
            ·simp only [zT, seval, implies_true, Nat.reduceLeDiff, Nat.reduceEqDiff, reduceCtorEq, reduceIte, (show ¬ (k:Int) < t.lost.length by omega)]
             have : k = t.lost.length := by omega
             subst this
             clear hi hk h
             repeat ((with_reducible refine And.intro ?_ ?_); (focus (first | omega | (simp only [lenR]; omega) | (refine qq ?_; rfl) | (refine dq ?_; kernel_rfl) | (intros; simp_all; done))))
             refine callF_pure (k_slicesOf t ht.slices) ?_
             simp only [zT, seval, implies_true, Nat.reduceLeDiff, Nat.reduceEqDiff, reduceCtorEq, reduceIte]
             repeat ((with_reducible refine And.intro ?_ ?_); (focus (first | omega | (simp only [lenR]; omega) | (refine qq ?_; rfl) | (refine dq ?_; kernel_rfl) | (intros; simp_all; done))))
             refine callF_pure (k_samplesOf t ht.samples ht.sst) ?_
             simp only [zT, seval, implies_true, Nat.reduceLeDiff, Nat.reduceEqDiff, reduceCtorEq, reduceIte]
             repeat ((with_reducible refine And.intro ?_ ?_); (focus (first | omega | (simp only [lenR]; omega) | (refine qq ?_; rfl) | (refine dq ?_; kernel_rfl) | (intros; simp_all; done))))
             have hN : (ofL t).map NamT.toD = [(NamT.mk [116, 104, 114, 101, 97, 100, 115] (thrTab t)).toD, (NamT.mk [115, 108, 105, 99, 101, 115] (sliTab t)).toD, (NamT.mk [115, 116, 97, 116, 101, 115] (staTab t)).toD, (NamT.mk [102, 108, 111, 119, 115] (floTab t)).toD, (NamT.mk [115, 97, 109, 112, 108, 101, 115] (samTab t)).toD, (NamT.mk [99, 111, 117, 110, 116, 101, 114, 115] (couTab t)).toD, (NamT.mk [98, 108, 111, 99, 107, 115] (bloTab t)).toD, D.agg [.str [108, 111, 115, 115, 101, 115], .sl (List.take 4 (losCols.map ColT.toD)), .sl (List.take (rowsOf losRow t.lost t.lost.length).length ((rowsOf losRow t.lost t.lost.length).map rowD))]] := by rw [take_all]; rfl
             have hl8 : (ofL t).length = 8 := rfl
             refine for_of 8 (fun k => [(23, .d (.sl ((ofL t).map NamT.toD))), (253, .d (.sl ((ofL t).map NamT.toD))), (254, .d (.int .i64 8)), (255, .d (.int .i64 k))]) (fun _ => []) (fun k => ((ofL t).take k).any bigN = false) rfl ?_ ?_
             ·rw [hN]
              refine Weak.trans (weak_toD 23 rfl) ?_
              refine Weak.trans (weak_toD 253 rfl) ?_
              refine weak_to [] [] rfl List.nodup_nil ?_ rfl
              rfl
             ·intro k hi hk
              by_cases h : k < 8
              ·have h' : k < (ofL t).length := h
               have hs := any_take bigN (ofL t) k h'
               obtain ⟨x, hx⟩ : ∃ x, x = (ofL t).getD k default := ⟨_, rfl⟩
               have hg : (List.map NamT.toD (ofL t)).getD k default = x.toD := by rw [hx]; simp [h']
               rw [← hx] at hs
               simp only [zT, seval, implies_true, Nat.reduceLeDiff, Nat.reduceEqDiff, reduceCtorEq, reduceIte, (show (k:Int) < 8 by omega), hl8, h, hg]
               repeat ((with_reducible refine And.intro ?_ ?_); (focus (first | omega | (simp only [lenR]; omega) | (refine qq ?_; rfl) | (refine dq ?_; kernel_rfl) | (intros; simp_all; done))))
               refine ifC.mk (fun h2 => ?_) (fun h2 => ?_)
               ·repeat ((with_reducible refine And.intro ?_ ?_); (focus (first | omega | (simp only [lenR]; omega) | (refine qq ?_; rfl) | (refine dq ?_; kernel_rfl) | (intros; simp_all; done))))
                refine ⟨_, _, ret_tdata rfl rfl, ?_, rfl⟩
                have hz : (ofL t).any bigN = true := List.any_eq_true.2 ⟨x, by rw [hx]; exact mem_getD h', h2⟩
                have hE : ofE t = 7 := by rw [ofE, if_neg (by rw [h1]; simp), if_pos hz]
                rw [ofF, hE]; rfl
               ·repeat ((with_reducible refine And.intro ?_ ?_); (focus (first | omega | (simp only [lenR]; omega) | (refine qq ?_; rfl) | (refine dq ?_; kernel_rfl) | (intros; simp_all; done))))
                refine ⟨by rw [hs, hi]; exact h2, ?_⟩
                refine weak_to [] [] rfl List.nodup_nil ?_ rfl
                simp only [zT, seval, implies_true, Nat.reduceLeDiff, Nat.reduceEqDiff, reduceCtorEq, reduceIte, @a_wrap ((k:Int) + 1) (by omega)]
                all_goals rfl
              ·simp only [zT, seval, implies_true, Nat.reduceLeDiff, Nat.reduceEqDiff, reduceCtorEq, reduceIte, (show ¬ (k:Int) < 8 by omega)]
               have : k = 8 := by omega
               subst this
               rw [List.take_of_length_le (by rw [hl8]; exact Nat.le_refl _)] at hi
               repeat ((with_reducible refine And.intro ?_ ?_); (focus (first | omega | (simp only [lenR]; omega) | (refine qq ?_; rfl) | (refine dq ?_; kernel_rfl) | (intros; simp_all; done))))
               have hE : ofE t = 0 := by rw [ofE, if_neg (by rw [h1]; simp), if_neg (by rw [hi]; simp)]
               refine ⟨_, _, ret_t2, ?_, rfl⟩
               rw [ofF, hE, if_pos rfl]
end YtadfcljoocjhdaaGreat
end Go.Proofs
