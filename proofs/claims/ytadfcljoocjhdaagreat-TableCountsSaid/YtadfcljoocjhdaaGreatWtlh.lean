/- A part of the proof: contracts of functions of this seat, and lemmas. No condition beyond those stated. -/
import Derived.Test.YtadfcljoocjhdaaGreatWttt
import Derived.Test.YtadfcljoocjhdaaGreatWttx
set_option linter.unusedVariables false
set_option linter.unusedSimpArgs false
set_option linter.unusedSectionVars false
set_option linter.unnecessarySimpa false
set_option maxRecDepth 100000
namespace Go.Proofs
open Go.AM Go.ChangeShapes Go.WideShapes Go.ChangeAt Go.RowKit
namespace YtadfcljoocjhdaaGreat
variable {Gl : Globs}
theorem thread_of {x : D} (h : ConfL [.int .i64, .str, .int .i64] x.cells) (hg : x.isAgg = true) : ∃ b : ThreadT, x = b.toD := by
 obtain ⟨_, _, e1, ⟨a0, rfl, _⟩, _, _, rfl, ⟨a1, rfl, _⟩, _, _, rfl, ⟨a2, rfl, _⟩, rfl⟩ := h
 exact ⟨⟨a0, a1, a2⟩, agg_of hg e1⟩
theorem slice_of {x : D} (h : ConfL [.int .i64, .int .i64, .int .i64, .str, .int .i64, .int .i64, .int .i64, .bool] x.cells) (hg : x.isAgg = true) : ∃ b : SliceT, x = b.toD := by
 obtain ⟨_, _, e1, ⟨a0, rfl, _⟩, _, _, rfl, ⟨a1, rfl, _⟩, _, _, rfl, ⟨a2, rfl, _⟩, _, _, rfl, ⟨a3, rfl, _⟩, _, _, rfl, ⟨a4, rfl, _⟩, _, _, rfl, ⟨a5, rfl, _⟩, _, _, rfl, ⟨a6, rfl, _⟩, _, _, rfl, ⟨a7, rfl⟩, rfl⟩ := h
 exact ⟨⟨a0, a1, a2, a3, a4, a5, a6, a7⟩, agg_of hg e1⟩
theorem state_of {x : D} (h : ConfL [.int .i64, .int .i64, .int .i64, .int .i64, .int .i64, .int .i64, .int .i64] x.cells) (hg : x.isAgg = true) : ∃ b : StateT, x = b.toD := by
 obtain ⟨_, _, e1, ⟨a0, rfl, _⟩, _, _, rfl, ⟨a1, rfl, _⟩, _, _, rfl, ⟨a2, rfl, _⟩, _, _, rfl, ⟨a3, rfl, _⟩, _, _, rfl, ⟨a4, rfl, _⟩, _, _, rfl, ⟨a5, rfl, _⟩, _, _, rfl, ⟨a6, rfl, _⟩, rfl⟩ := h
 exact ⟨⟨a0, a1, a2, a3, a4, a5, a6⟩, agg_of hg e1⟩
theorem flow_of {x : D} (h : ConfL [.int .i64, .int .i64, .int .i64, .int .i64, .int .i64, .int .i64, .int .i64] x.cells) (hg : x.isAgg = true) : ∃ b : FlowT, x = b.toD := by
 obtain ⟨_, _, e1, ⟨a0, rfl, _⟩, _, _, rfl, ⟨a1, rfl, _⟩, _, _, rfl, ⟨a2, rfl, _⟩, _, _, rfl, ⟨a3, rfl, _⟩, _, _, rfl, ⟨a4, rfl, _⟩, _, _, rfl, ⟨a5, rfl, _⟩, _, _, rfl, ⟨a6, rfl, _⟩, rfl⟩ := h
 exact ⟨⟨a0, a1, a2, a3, a4, a5, a6⟩, agg_of hg e1⟩
theorem sample_of {x : D} (h : ConfL [.int .i64, .int .i64, .int .i64, .sl [.str] false] x.cells) (hg : x.isAgg = true) : ∃ b : SampleT, x = b.toD := by
 obtain ⟨_, _, e1, ⟨a0, rfl, _⟩, _, _, rfl, ⟨a1, rfl, _⟩, _, _, rfl, ⟨a2, rfl, _⟩, _, _, rfl, ⟨xs3, rfl, _, hx3⟩, rfl⟩ := h
 obtain ⟨a3, rfl⟩ := strs_of hx3
 exact ⟨⟨a0, a1, a2, a3⟩, agg_of hg e1⟩
theorem step_of {x : D} (h : ConfL [.str, .int .i64, .int .i64] x.cells) (hg : x.isAgg = true) : ∃ b : StepT, x = b.toD := by
 obtain ⟨_, _, e1, ⟨a0, rfl, _⟩, _, _, rfl, ⟨a1, rfl, _⟩, _, _, rfl, ⟨a2, rfl, _⟩, rfl⟩ := h
 exact ⟨⟨a0, a1, a2⟩, agg_of hg e1⟩
theorem block_of {x : D} (h : ConfL [.int .i64, .int .i64, .int .i64, .int .i64, .int .i64, .sl [.str] false, .bool] x.cells) (hg : x.isAgg = true) : ∃ b : BlockT, x = b.toD := by
 obtain ⟨_, _, e1, ⟨a0, rfl, _⟩, _, _, rfl, ⟨a1, rfl, _⟩, _, _, rfl, ⟨a2, rfl, _⟩, _, _, rfl, ⟨a3, rfl, _⟩, _, _, rfl, ⟨a4, rfl, _⟩, _, _, rfl, ⟨xs5, rfl, _, hx5⟩, _, _, rfl, ⟨a6, rfl⟩, rfl⟩ := h
 obtain ⟨a5, rfl⟩ := strs_of hx5
 exact ⟨⟨a0, a1, a2, a3, a4, a5, a6⟩, agg_of hg e1⟩
theorem loss_of {x : D} (h : ConfL [.int .i64, .int .i64, .int .i64, .int .i64] x.cells) (hg : x.isAgg = true) : ∃ b : LossT, x = b.toD := by
 obtain ⟨_, _, e1, ⟨a0, rfl, _⟩, _, _, rfl, ⟨a1, rfl, _⟩, _, _, rfl, ⟨a2, rfl, _⟩, _, _, rfl, ⟨a3, rfl, _⟩, rfl⟩ := h
 exact ⟨⟨a0, a1, a2, a3⟩, agg_of hg e1⟩
theorem shTrace : shapeOf Tryz.prog 8 47 = some [.int .i64, .int .i64, .sl [.int .i64, .str, .int .i64] true, .sl [.int .i64, .int .i64, .int .i64, .str, .int .i64, .int .i64, .int .i64, .bool] true, .sl [.int .i64, .int .i64, .int .i64, .int .i64, .int .i64, .int .i64, .int .i64] true, .sl [.int .i64, .int .i64, .int .i64, .int .i64, .int .i64, .int .i64, .int .i64] true, .sl [.int .i64, .int .i64, .int .i64, .sl [.str] false] true, .sl [.str, .int .i64, .int .i64] true, .sl [.int .i64, .int .i64, .int .i64, .int .i64, .int .i64, .sl [.str] false, .bool] true, .sl [.int .i64, .int .i64, .int .i64, .int .i64] true] := by kernel_rfl
theorem parTrace {x : D} (h : TypedV Tryz.prog 8 47 x) : ∃ t : TraceT, x = t.toD := by
 obtain ⟨h1, h2⟩ := param_of h shTrace (g := true) (by kernel_rfl)
 obtain ⟨_, _, e1, ⟨l0, rfl, _⟩, _, _, rfl, ⟨l1, rfl, _⟩, _, _, rfl, ⟨xs0, rfl, _, hx0⟩, _, _, rfl, ⟨xs1, rfl, _, hx1⟩, _, _, rfl, ⟨xs2, rfl, _, hx2⟩, _, _, rfl, ⟨xs3, rfl, _, hx3⟩, _, _, rfl, ⟨xs4, rfl, _, hx4⟩, _, _, rfl, ⟨xs5, rfl, _, hx5⟩, _, _, rfl, ⟨xs6, rfl, _, hx6⟩, _, _, rfl, ⟨xs7, rfl, _, hx7⟩, rfl⟩ := h1
 obtain ⟨m0, rfl⟩ := list_of fun y hy => thread_of (hx0 y hy).1 (hx0 y hy).2
 obtain ⟨m1, rfl⟩ := list_of fun y hy => slice_of (hx1 y hy).1 (hx1 y hy).2
 obtain ⟨m2, rfl⟩ := list_of fun y hy => state_of (hx2 y hy).1 (hx2 y hy).2
 obtain ⟨m3, rfl⟩ := list_of fun y hy => flow_of (hx3 y hy).1 (hx3 y hy).2
 obtain ⟨m4, rfl⟩ := list_of fun y hy => sample_of (hx4 y hy).1 (hx4 y hy).2
 obtain ⟨m5, rfl⟩ := list_of fun y hy => step_of (hx5 y hy).1 (hx5 y hy).2
 obtain ⟨m6, rfl⟩ := list_of fun y hy => block_of (hx6 y hy).1 (hx6 y hy).2
 obtain ⟨m7, rfl⟩ := list_of fun y hy => loss_of (hx7 y hy).1 (hx7 y hy).2
 exact ⟨⟨l0, l1, m0, m1, m2, m3, m4, m5, m6, m7⟩, agg_of h2 e1⟩
end YtadfcljoocjhdaaGreat
end Go.Proofs
