/- A part of the proof: contracts of functions of this seat, and lemmas. No condition beyond those stated. -/
import Derived.Test.YtkoebmjenkajdaaDoorR02r
import Derived.Test.YtkoebmjenkajdaaDoorG5
import Derived.Test.YtkoebmjenkajdaaDoorRows
import Derived.Test.YtkoebmjenkajdaaDoorCards
import Derived.Test.YtkoebmjenkajdaaDoorTie
import Derived.ProofKit
import Derived.LaidMore
import Derived.OpenShut
import Derived.Stop.Joined
import Derived.Stop.LaidErr
import Derived.SevenTiedAt
import Derived.MakeChecks
set_option linter.unusedVariables false
set_option linter.unusedSimpArgs false
set_option linter.unusedSectionVars false
set_option linter.unnecessarySimpa false
set_option linter.unusedSimpArgs false
set_option linter.unusedVariables false
set_option maxRecDepth 100000
namespace Go.Proofs
open Go.AM Go.ChangeShapes Go.WideShapes Go.ChangeAt Go.RowKit
namespace YtkoebmjenkajdaaDoor

theorem own : ownKnob Tryd.prog.godebug = none := by kernel_rfl
theorem laidOut : laidOutB Tryd.prog = true := by kernel_rfl
def laid3 : List (String × DataW Unit) := [("math/bits.deBruijn32tab", Rows.laid_math_bits_deBruijn32tab), ("math/bits.deBruijn64tab", Rows.laid_math_bits_deBruijn64tab), ("internal/strconv.uint64pow10", Rows.laid_internal_strconv_uint64pow10)]
theorem door_met (os : Os) (args : Array Value) : laidMetH Tryd.prog laid3 ((World.doorLaid Tryd.prog 400 os).forCall (fun _ _ => 0) ⟨#[], args, []⟩).memory :=
  laidMetH_of_parts3 (fuel := 8) (laidMet_of_run' 8 (by kernel_rfl) (by kernel_rfl)) (by kernel_rfl) (by kernel_rfl)
theorem pow_type : (Tryd.prog.globals[2]?).map (·.type) = some 90 := by kernel_rfl
theorem gl_of_laid {W : World} (h : laidMetH Tryd.prog laid3 W) (I : Im) (hI : ∀ b, b < W.heap.size → I.rd b) : GlOk G2 W I := by
  rw [MakeChecks.laidMetH_plain _ _ _ (by kernel_rfl)] at h
  have h2 := (h.tail).tail
  have ht : Lib.TabIs Tryd.prog W "internal/strconv.uint64pow10" .u64 Lib.pow10Tab :=
    Lib.tabIs_of_head (n := 20) pow_name pow_type (by kernel_rfl) (e := 41) (by kernel_rfl) (by kernel_rfl) (by kernel_rfl) h2
  refine glOk_of_tab ht pow_name (hI _ ?_)
  have := ht
  unfold Lib.TabIs World.var? at this
  rw [pow_name] at this
  simp only [Option.bind_some] at this
  split at this
  · rename_i hh
    exact (Array.getElem?_eq_some_iff.1 hh).1
  · cases this
/-! ### the arguments -/
theorem sh3 : shapeOf Tryd.prog 5 3 = some [.int .i64] := by kernel_rfl
theorem sh23 : shapeOf Tryd.prog 5 23 = some [.int .i64, .int .i64] := by kernel_rfl
theorem sh31 : shapeOf Tryd.prog 5 31 = some [.sl [.int .i64, .int .i64] true] := by kernel_rfl
theorem par3 {x : D} (h : TypedV Tryd.prog 5 3 x) : ∃ e : Int, x = .int .i64 e ∧ -9223372036854775808 ≤ e ∧ e ≤ 9223372036854775807 := by
  obtain ⟨e, rfl, hw⟩ := param1_of h sh3 (by kernel_rfl)
  have hw := hw
  simp only [Lit.wf, Bool.and_eq_true, decide_eq_true_eq] at hw
  exact ⟨e, rfl, hw.1, hw.2⟩
theorem frac_of {x : D} (h : ConfL [.int .i64, .int .i64] x.cells) (hg : x.isAgg = true) : ∃ b : FracT, x = b.toD ∧ b.In := by
  obtain ⟨_, _, e1, ⟨a1, rfl, w1⟩, _, _, rfl, ⟨a2, rfl, w2⟩, rfl⟩ := h
  simp only [Lit.wf, Bool.and_eq_true, decide_eq_true_eq] at w1 w2
  exact ⟨⟨a1, a2⟩, agg_of hg e1, ⟨w1.1, w1.2, w2.1, w2.2⟩⟩
theorem par23 {x : D} (h : TypedV Tryd.prog 5 23 x) : ∃ b : FracT, x = b.toD ∧ b.In := by
  obtain ⟨h1, h2⟩ := param_of h sh23 (by kernel_rfl)
  exact frac_of h1 h2
theorem list_ofP {P : FracT → Prop} {xs : List D} (h : ∀ y ∈ xs, ∃ b : FracT, y = b.toD ∧ P b) : ∃ l : List FracT, xs = l.map FracT.toD ∧ ∀ b ∈ l, P b := by
  induction xs with
  | nil => exact ⟨[], rfl, fun b hb => by cases hb⟩
  | cons x xs ih =>
    obtain ⟨b, rfl, hb⟩ := h x (List.mem_cons_self ..)
    obtain ⟨l, rfl, hl⟩ := ih fun y hy => h y (List.mem_cons_of_mem _ hy)
    exact ⟨b :: l, rfl, fun c hc => by
      rcases List.mem_cons.1 hc with rfl | hc
      · exact hb
      · exact hl c hc⟩
theorem par31 {x : D} (h : TypedV Tryd.prog 5 31 x) : ∃ l : List FracT, x = .sl (l.map FracT.toD) ∧ (∀ b ∈ l, b.In) ∧ l.length ≤ maxLen := by
  obtain ⟨xs, rfl, hl, hx⟩ := param1_of h sh31 (by kernel_rfl)
  obtain ⟨l, rfl, hi⟩ := list_ofP fun y hy => frac_of (hx y hy).1 (hx y hy).2
  exact ⟨l, rfl, hi, by simpa using hl⟩
end YtkoebmjenkajdaaDoor
end Go.Proofs
