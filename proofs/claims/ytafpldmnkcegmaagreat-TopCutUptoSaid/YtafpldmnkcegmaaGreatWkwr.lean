/- Proved: TopCutUptoSaid: for every input that can be read as data and that holds at most 1048576 values and letters together (uptoBulk, as the statement says), the law returns true and leaves its arguments as they were; no further condition is added. -/
import Derived.Test.YtafpldmnkcegmaaGreatH6
import Derived.Test.YtafpldmnkcegmaaGreatG5
import Derived.Test.YtafpldmnkcegmaaGreatRows
import Derived.OpenShut
import Derived.WalkKit
import Derived.ProofKit
import Derived.JoinedCond
set_option linter.all false
set_option maxRecDepth 100000
namespace Go.Proofs
open Go.AM Go.ChangeShapes Go.WideShapes Go.ChangeAt Go.RowKit
namespace YtafpldmnkcegmaaGreat
variable {Gl : BM}
theorem own : ownKnob Tryz.prog.godebug = none := by kernel_rfl
theorem uS : laidOutB Tryz.prog = true := by kernel_rfl
def cL : List Cel := [.int .i64, .int .i64, .str, .int .i64, .int .i64, .sl [.str] false]
def cM : List Cel := [.int .i64, .int .i64, .int .i64, .sl cL true]
def kz : List Cel := [.sl [.int .i64, .str, .int .i64] true, .sl [.int .i64, .int .i64] true, .sl [.int .i64, .int .i64, .int .i64, .int .i64, .int .i64] true, .sl cM true]
theorem Q3w {x : D} (h : GK [.int .i64, .str, .int .i64] x.cells) (hg : x.isAgg = true) : ∃ b : An, x = b.A5 := by
 obtain ⟨_, _, e1, ⟨a0, rfl, _⟩, _, _, rfl, ⟨a1, rfl, _⟩, _, _, rfl, ⟨a2, rfl, _⟩, rfl⟩ := h
 exact ⟨⟨a0, a1, a2⟩, Ps hg e1⟩
theorem Q6n {x : D} (h : GK [.int .i64, .int .i64] x.cells) (hg : x.isAgg = true) : ∃ b : BC, x = b.A5 := by
 obtain ⟨_, _, e1, ⟨a0, rfl, _⟩, _, _, rfl, ⟨a1, rfl, _⟩, rfl⟩ := h
 exact ⟨⟨a0, a1⟩, Ps hg e1⟩
theorem Q34 {x : D} (h : GK [.int .i64, .int .i64, .int .i64, .int .i64, .int .i64] x.cells) (hg : x.isAgg = true) : ∃ b : B3, x = b.A5 := by
 obtain ⟨_, _, e1, ⟨a0, rfl, _⟩, _, _, rfl, ⟨a1, rfl, _⟩, _, _, rfl, ⟨a2, rfl, _⟩, _, _, rfl, ⟨a3, rfl, _⟩, _, _, rfl, ⟨a4, rfl, _⟩, rfl⟩ := h
 exact ⟨⟨a0, a1, a2, a3, a4⟩, Ps hg e1⟩
theorem Q3s {x : D} (h : GK [.str] x.cells) (hg : x.isAgg = false) : ∃ b : List UInt8, x = .str b := by
 obtain ⟨s, rfl, _⟩ := jF h hg
 exact ⟨s, rfl⟩
theorem Q6i {x : D} (h : GK cL x.cells) (hg : x.isAgg = true) : ∃ b : EvT, x = b.A5 ∧ b.stack.length ≤ HF := by
 obtain ⟨_, _, e1, ⟨a0, rfl, _⟩, _, _, rfl, ⟨a1, rfl, _⟩, _, _, rfl, ⟨a2, rfl, _⟩, _, _, rfl, ⟨a3, rfl, _⟩, _, _, rfl, ⟨a4, rfl, _⟩, _, _, rfl, ⟨xs, rfl, hl, hx⟩, rfl⟩ := h
 obtain ⟨m, rfl⟩ := Rm fun y hy => Q3s (hx y hy).1 (hx y hy).2
 exact ⟨⟨a0, a1, a2, a3, a4, m⟩, Ps hg e1, by rwa [List.length_map] at hl⟩
theorem Q4v {x : D} (h : GK cM x.cells) (hg : x.isAgg = true) : ∃ b : Ao, x = b.A5 ∧ b.A_.length ≤ HF ∧ ∀ e ∈ b.A_, e.stack.length ≤ HF := by
 obtain ⟨_, _, e1, ⟨a0, rfl, _⟩, _, _, rfl, ⟨a1, rfl, _⟩, _, _, rfl, ⟨a2, rfl, _⟩, _, _, rfl, ⟨xs, rfl, hl, hx⟩, rfl⟩ := h
 obtain ⟨m, rfl, hm⟩ := Wn fun y hy => Q6i (hx y hy).1 (hx y hy).2
 exact ⟨⟨a0, a1, a2, m⟩, Ps hg e1, by rwa [List.length_map] at hl, hm⟩
theorem Q5l {x : D} (h : GK kz x.cells) (hg : x.isAgg = true) : ∃ b : Av, x = b.A5 ∧ b.parts.length ≤ HF ∧ ∀ p ∈ b.parts, p.A_.length ≤ HF ∧ ∀ e ∈ p.A_, e.stack.length ≤ HF := by
 obtain ⟨_, _, e1, ⟨xs0, rfl, _, hx0⟩, _, _, rfl, ⟨xs1, rfl, _, hx1⟩, _, _, rfl, ⟨xs2, rfl, _, hx2⟩, _, _, rfl, ⟨xs3, rfl, hl, hx3⟩, rfl⟩ := h
 obtain ⟨m0, rfl⟩ := Rm fun y hy => Q3w (hx0 y hy).1 (hx0 y hy).2
 obtain ⟨m1, rfl⟩ := Rm fun y hy => Q6n (hx1 y hy).1 (hx1 y hy).2
 obtain ⟨m2, rfl⟩ := Rm fun y hy => Q34 (hx2 y hy).1 (hx2 y hy).2
 obtain ⟨m3, rfl, hm⟩ := Wn fun y hy => Q4v (hx3 y hy).1 (hx3 y hy).2
 exact ⟨⟨m0, m1, m2, m3⟩, Ps hg e1, by rwa [List.length_map] at hl, hm⟩
theorem Ye {H : Type} {d : DataW H} {l : List (DataW H)} (h : d ∈ l) : Rows.uptoBulk d ≤ Rows.uptoBulkAll l := by
 induction l with
 | nil => cases h
 | cons x r ih =>
  simp only [Rows.uptoBulkAll]
  cases List.mem_cons.1 h with
  | inl e => subst e; omega
  | inr e => have := ih e; omega
theorem Q4w {H : Type} (d : DataW H) : 1 ≤ Rows.uptoBulk d := by
 cases d with
 | lit l => cases l <;> simp [Rows.uptoBulk]
 | _ => simp [Rows.uptoBulk]
theorem Q5m {H : Type} (l : List (DataW H)) : l.length ≤ Rows.uptoBulkAll l := by
 induction l with
 | nil => simp [Rows.uptoBulkAll]
 | cons x r ih => have := Q4w x; simp only [Rows.uptoBulkAll, List.length_cons]; omega
theorem Q6u (H : Type) : SL (Rows.uptoBulk (H := H)) :=
 ⟨fun el sp => by have := Q5m el; simp only [Rows.uptoBulk]; omega, fun el sp d h => by have := Ye h; simp only [Rows.uptoBulk]; omega, fun ps d h => by have := Ye h; simp only [Rows.uptoBulk]; omega⟩
theorem xR (xs : List D) (h : U8 Tryz.prog 8 Tryz.f3.params.toList xs) : AW Tryz.prog [] 3 (xs.map AV.d) [] (fun r _ => r = .d (.bool true)) := by
 rw [Tryz.params3] at h
 obtain ⟨x, _, rfl, h1, y, _, rfl, h2, rfl⟩ := h
 obtain ⟨h3, h4⟩ := x9 h1 (cs := kz) (by kernel_rfl) (g := true) (by kernel_rfl)
 obtain ⟨l, rfl, b1, b2⟩ := Q5l h3 h4
 obtain ⟨a, rfl, _⟩ := zP h2 (c := .int .i64) (by kernel_rfl) (by kernel_rfl)
 unfold HF at b1 b2
 exact (vu l a (by omega) (fun p hp => by have := (b2 p hp).1; omega) (fun p hp e he => by have := (b2 p hp).2 e he; omega) []).mono fun r s h => h.1
theorem qc (os : Os) (started : os.Started) (H : Type) (enc : TypeId × Value → H) (F : Stop.Interp) :
  ReturnsInHanded {} Tryz.checked os 3 .any ((Rows.OpenSpec.upto Rows.topCutSpec).pre6 enc Tryz.prog Tryz.f3 Rows.topCutUptoRow.domain false) (((Rows.OpenSpec.upto Rows.topCutSpec).at F).post enc Tryz.prog Tryz.f3 false true false false) := by
 refine returnsInHanded_of_cond (C := Tryz.checked) (s := Rows.OpenSpec.upto Rows.topCutSpec) (k := Rows.uptoSmall) rfl own started (by kernel_rfl) Tryz.func3
  (OpenSpec.witness (enc := enc) (C := Tryz.checked) (s := Rows.OpenSpec.upto Rows.topCutSpec) (k := Rows.uptoSmall) rfl false ⟨#[], #[.agg #[.slice none 0 0, .slice none 0 0, .slice none 0 0, .slice none 0 0], .int .i64 0], []⟩ 8 (by kernel_rfl) (by kernel_rfl) (by kernel_rfl)
   (x := ([.agg [.agg [.nil, .nil, .nil], .nil], .lit (.int .i64 0)], [], [])) (by kernel_rfl) rfl (by kernel_rfl)) ?_
 intro W base args ds gs before hval hW _ hk _
 have hb : Rows.uptoBulkAll (ds ++ gs) ≤ 1048576 := of_decide_eq_true hk
 exact su (n := 8) (tb := 4) Tryz.func3 rfl rfl (by kernel_rfl) uS (by kernel_rfl) (by kernel_rfl) rfl
  (fun H ds h => by
   match ds, h with
   | [d1, d2], _ => rfl) xR W base args ds gs before hval hW (Q6u H) (fun d hd => Nat.le_trans (Ye (List.mem_append_left gs hd)) hb)
theorem topCut_holds : Rows.TopCutUptoSaid :=
 OpenClaim.holds_of_cond 3 Tryz.f3 rfl rfl rfl rfl rfl rfl rfl ⟨rfl, rfl, rfl, rfl, rfl⟩ rfl rfl rfl rfl rfl (by kernel_rfl) Tryz.func3 (by kernel_rfl)
  (of_decide_eq_true (by kernel_rfl)) (by unfold Func.isWrapper; first | (rw [if_pos (by decide +kernel)]; kernel_rfl) | (rw [if_neg (by decide +kernel)]; exact ⟨rfl, rfl⟩))
  (fun os started H enc _ F => qc os started H enc F)
end YtafpldmnkcegmaaGreat
end Go.Proofs
