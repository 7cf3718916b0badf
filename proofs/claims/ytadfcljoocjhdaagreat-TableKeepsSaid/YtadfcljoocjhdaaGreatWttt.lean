/- A part of the proof: contracts of functions of this seat, and lemmas. No condition beyond those stated. -/
import Derived.Test.YtadfcljoocjhdaaGreatWtts
import Derived.Test.YtadfcljoocjhdaaGreatG4
import Derived.Test.YtadfcljoocjhdaaGreatRows
import Derived.OpenShut
import Derived.WalkKit
set_option linter.unusedVariables false
set_option linter.unusedSimpArgs false
set_option linter.unusedSectionVars false
set_option linter.unnecessarySimpa false
set_option maxRecDepth 100000
namespace Go.Proofs
open Go.AM Go.ChangeShapes Go.WideShapes Go.ChangeAt Go.RowKit
namespace YtadfcljoocjhdaaGreat
variable {Gl : Globs}
theorem own : ownKnob Tryz.prog.godebug = none := by kernel_rfl
theorem laidOut : laidOutB Tryz.prog = true := by kernel_rfl
theorem val_of {x : D} (h : ConfL [.int .i64, .int .i64, .str] x.cells) (hg : x.isAgg = true) : ∃ b : ValT, x = b.toD := by
 obtain ⟨_, _, e1, ⟨a0, rfl, _⟩, _, _, rfl, ⟨a1, rfl, _⟩, _, _, rfl, ⟨a2, rfl, _⟩, rfl⟩ := h
 exact ⟨⟨a0, a1, a2⟩, agg_of hg e1⟩
theorem col_of {x : D} (h : ConfL [.str, .int .i64] x.cells) (hg : x.isAgg = true) : ∃ b : ColT, x = b.toD := by
 obtain ⟨_, _, e1, ⟨a0, rfl, _⟩, _, _, rfl, ⟨a1, rfl, _⟩, rfl⟩ := h
 exact ⟨⟨a0, a1⟩, agg_of hg e1⟩
theorem srt_of {x : D} (h : ConfL [.str, .bool] x.cells) (hg : x.isAgg = true) : ∃ b : SrtT, x = b.toD := by
 obtain ⟨_, _, e1, ⟨a0, rfl, _⟩, _, _, rfl, ⟨a1, rfl⟩, rfl⟩ := h
 exact ⟨⟨a0, a1⟩, agg_of hg e1⟩
theorem row_of {x : D} (h : ConfL [.sl [.int .i64, .int .i64, .str] true] x.cells) (hg : x.isAgg = false) : ∃ b : List ValT, x = rowD b := by
 obtain ⟨xs, rfl, _, hx⟩ := one_of h hg
 obtain ⟨b, rfl⟩ := list_of fun y hy => val_of (hx y hy).1 (hx y hy).2
 exact ⟨b, rfl⟩
theorem tab_of {x : D} (h : ConfL [.sl [.str, .int .i64] true, .sl [.sl [.int .i64, .int .i64, .str] true] false] x.cells) (hg : x.isAgg = true) : ∃ b : TabT, x = b.toD := by
 obtain ⟨_, _, e1, ⟨xs0, rfl, _, hx0⟩, _, _, rfl, ⟨xs1, rfl, _, hx1⟩, rfl⟩ := h
 obtain ⟨m0, rfl⟩ := list_of fun y hy => col_of (hx0 y hy).1 (hx0 y hy).2
 obtain ⟨m1, rfl⟩ := list_of fun y hy => row_of (hx1 y hy).1 (hx1 y hy).2
 exact ⟨⟨m0, m1⟩, agg_of hg e1⟩
theorem shTab : shapeOf Tryz.prog 8 25 = some [.sl [.str, .int .i64] true, .sl [.sl [.int .i64, .int .i64, .str] true] false] := by kernel_rfl
theorem parTab {x : D} (h : TypedV Tryz.prog 8 25 x) : ∃ t : TabT, x = t.toD := by
 obtain ⟨h1, h2⟩ := param_of h shTab (g := true) (by kernel_rfl)
 exact tab_of h1 h2
theorem parSrt {x : D} (h : TypedV Tryz.prog 8 74 x) : ∃ t : SrtT, x = t.toD := by
 obtain ⟨h1, h2⟩ := param_of h (cs := [.str, .bool]) (by kernel_rfl) (g := true) (by kernel_rfl)
 exact srt_of h1 h2
theorem small_few {t : TabT} {most : Int} (h : smallT t most = true) (hm : most ≤ 1000) : t.Few ∧ t.cols.length ≤ 40 ∧ t.rows.length ≤ most := by
 unfold smallT at h
 rw [Bool.and_eq_true] at h
 obtain ⟨h1, h2⟩ := h
 simp at h1
 refine ⟨⟨by omega, by omega, fun r hr => ?_⟩, by omega, by omega⟩
 have := List.all_eq_true.1 h2 r hr
 unfold rowS at this
 simp at this
 omega
end YtadfcljoocjhdaaGreat
end Go.Proofs
