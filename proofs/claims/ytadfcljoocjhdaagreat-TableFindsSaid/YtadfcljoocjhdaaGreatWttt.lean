/- A part of the proof: contracts of functions of this seat, and lemmas. No condition beyond those stated. -/
import Derived.Test.YtadfcljoocjhdaaGreatWtts
import Derived.Test.YtadfcljoocjhdaaGreatG4
import Derived.Test.YtadfcljoocjhdaaGreatRows
import Derived.OpenShut
import Derived.WalkKit
set_option linter.unusedVariables false
set_option linter.unusedSimpArgs false
set_option linter.unusedSectionVars false
set_option linter.unnecessarySimpa false
set_option linter.unusedSimpArgs false
set_option linter.unusedVariables false
set_option maxRecDepth 100000
namespace Go.Proofs
open Go.AM Go.ChangeShapes Go.WideShapes Go.ChangeAt Go.RowKit
namespace YtadfcljoocjhdaaGreat
variable {Gl : Globs}
theorem own : ownKnob Tryz.prog.godebug = none := by kernel_rfl
theorem laidOut : laidOutB Tryz.prog = true := by kernel_rfl
theorem val_of {x : D} (h : ConfL [.int .i64, .int .i64, .str] x.cells) (hg : x.isAgg = true) : ∃ b : ValT, x = b.toD := by
  obtain ⟨_, _, e1, ⟨a0, rfl, _⟩, _, _, rfl, ⟨a1, rfl, _⟩, _, _, rfl, ⟨a2, rfl, _⟩, rfl⟩ := h
  exact ⟨⟨a0, a1, a2⟩, agg_of hg e1⟩
theorem col_of {x : D} (h : ConfL [.str, .int .i64] x.cells) (hg : x.isAgg = true) : ∃ b : ColT, x = b.toD := by
  obtain ⟨_, _, e1, ⟨a0, rfl, _⟩, _, _, rfl, ⟨a1, rfl, _⟩, rfl⟩ := h
  exact ⟨⟨a0, a1⟩, agg_of hg e1⟩
theorem srt_of {x : D} (h : ConfL [.str, .bool] x.cells) (hg : x.isAgg = true) : ∃ b : SrtT, x = b.toD := by
  obtain ⟨_, _, e1, ⟨a0, rfl, _⟩, _, _, rfl, ⟨a1, rfl⟩, rfl⟩ := h
  exact ⟨⟨a0, a1⟩, agg_of hg e1⟩
theorem row_of {x : D} (h : ConfL [.sl [.int .i64, .int .i64, .str] true] x.cells) (hg : x.isAgg = false) : ∃ b : List ValT, x = rowD b := by
  obtain ⟨xs, rfl, _, hx⟩ := one_of h hg
  obtain ⟨b, rfl⟩ := list_of fun y hy => val_of (hx y hy).1 (hx y hy).2
  exact ⟨b, rfl⟩
theorem tab_of {x : D} (h : ConfL [.sl [.str, .int .i64] true, .sl [.sl [.int .i64, .int .i64, .str] true] false] x.cells) (hg : x.isAgg = true) : ∃ b : TabT, x = b.toD := by
  obtain ⟨_, _, e1, ⟨xs0, rfl, _, hx0⟩, _, _, rfl, ⟨xs1, rfl, _, hx1⟩, rfl⟩ := h
  obtain ⟨m0, rfl⟩ := list_of fun y hy => col_of (hx0 y hy).1 (hx0 y hy).2
  obtain ⟨m1, rfl⟩ := list_of fun y hy => row_of (hx1 y hy).1 (hx1 y hy).2
  exact ⟨⟨m0, m1⟩, agg_of hg e1⟩
theorem nam_of {x : D} (h : ConfL [.str, .sl [.str, .int .i64] true, .sl [.sl [.int .i64, .int .i64, .str] true] false] x.cells) (hg : x.isAgg = true) : ∃ b : NamT, x = b.toD := by
  obtain ⟨_, _, e1, ⟨a0, rfl, _⟩, _, _, rfl, ⟨xs0, rfl, _, hx0⟩, _, _, rfl, ⟨xs1, rfl, _, hx1⟩, rfl⟩ := h
  obtain ⟨m0, rfl⟩ := list_of fun y hy => col_of (hx0 y hy).1 (hx0 y hy).2
  obtain ⟨m1, rfl⟩ := list_of fun y hy => row_of (hx1 y hy).1 (hx1 y hy).2
  exact ⟨⟨a0, ⟨m0, m1⟩⟩, agg_of hg e1⟩
theorem shTab : shapeOf Tryz.prog 8 25 = some [.sl [.str, .int .i64] true, .sl [.sl [.int .i64, .int .i64, .str] true] false] := by kernel_rfl
theorem parTab {x : D} (h : TypedV Tryz.prog 8 25 x) : ∃ t : TabT, x = t.toD := by
  obtain ⟨h1, h2⟩ := param_of h shTab (g := true) (by kernel_rfl)
  exact tab_of h1 h2
theorem parVal {x : D} (h : TypedV Tryz.prog 8 61 x) : ∃ t : ValT, x = t.toD := by
  obtain ⟨h1, h2⟩ := param_of h (cs := [.int .i64, .int .i64, .str]) (by kernel_rfl) (g := true) (by kernel_rfl)
  exact val_of h1 h2
theorem parSrt {x : D} (h : TypedV Tryz.prog 8 74 x) : ∃ t : SrtT, x = t.toD := by
  obtain ⟨h1, h2⟩ := param_of h (cs := [.str, .bool]) (by kernel_rfl) (g := true) (by kernel_rfl)
  exact srt_of h1 h2
theorem parDb {x : D} (h : TypedV Tryz.prog 8 31 x) : ∃ d : List NamT, x = .sl (d.map NamT.toD) := by
  obtain ⟨xs, rfl, _, hx⟩ := param1_of h (c := .sl [.str, .sl [.str, .int .i64] true, .sl [.sl [.int .i64, .int .i64, .str] true] false] true) (by kernel_rfl) (by kernel_rfl)
  obtain ⟨d, rfl⟩ := list_of fun y hy => nam_of (hx y hy).1 (hx y hy).2
  exact ⟨d, rfl⟩
theorem parSrts {x : D} (h : TypedV Tryz.prog 8 69 x) : ∃ d : List SrtT, x = srtD d := by
  obtain ⟨xs, rfl, _, hx⟩ := param1_of h (c := .sl [.str, .bool] true) (by kernel_rfl) (by kernel_rfl)
  obtain ⟨d, rfl⟩ := list_of fun y hy => srt_of (hx y hy).1 (hx y hy).2
  exact ⟨d, rfl⟩
theorem parInt {x : D} (h : TypedV Tryz.prog 8 3 x) : ∃ e : Int, x = .int .i64 e ∧ (Lit.int .i64 e).wf = true := param1_of h (c := .int .i64) (by kernel_rfl) (by kernel_rfl)
theorem parStr {x : D} (h : TypedV Tryz.prog 8 9 x) : ∃ s : List UInt8, x = .str s := by
  obtain ⟨s, rfl, _⟩ := param1_of h (c := .str) (by kernel_rfl) (by kernel_rfl)
  exact ⟨s, rfl⟩
theorem small_few {t : TabT} {most : Int} (h : smallT t most = true) (hm : most ≤ 1000) : t.Few ∧ t.cols.length ≤ 40 ∧ t.rows.length ≤ most := by
  unfold smallT at h
  rw [Bool.and_eq_true] at h
  obtain ⟨h1, h2⟩ := h
  simp at h1
  refine ⟨⟨by omega, by omega, fun r hr => ?_⟩, by omega, by omega⟩
  have := List.all_eq_true.1 h2 r hr
  unfold rowS at this
  simp at this
  omega
theorem smallAll_few {d : List NamT} {most : Int} (h : smallAll d most = true) (hm : most ≤ 1000) : d.length ≤ 40 ∧ ∀ x ∈ d, x.tab.Few := by
  unfold smallAll at h
  rw [Bool.and_eq_true] at h
  obtain ⟨h1, h2⟩ := h
  have h1 := of_decide_eq_true h1
  exact ⟨by omega, fun x hx => (small_few (List.all_eq_true.1 h2 x hx) hm).1⟩
end YtadfcljoocjhdaaGreat
end Go.Proofs
