/- A part of the proof: contracts of functions of this seat, and lemmas. No condition beyond those stated. -/
import Derived.Test.YtccgdcmgjdhikaaGreatWzk
import Derived.Test.YtccgdcmgjdhikaaGreatG5
import Derived.Test.YtccgdcmgjdhikaaGreatRows
import Derived.OpenShut
import Derived.WalkKit
set_option linter.unusedVariables false
set_option linter.unusedSimpArgs false
set_option linter.unusedSectionVars false
set_option linter.unnecessarySimpa false
set_option linter.unusedSimpArgs false
set_option linter.unusedVariables false
set_option maxRecDepth 100000
namespace Go.Proofs
open Go.AM Go.ChangeShapes Go.WideShapes Go.ChangeAt Go.RowKit
namespace YtccgdcmgjdhikaaGreat
variable {Gl : Globs}

theorem own : ownKnob Tryz.prog.godebug = none := by kernel_rfl
theorem laidOut : laidOutB Tryz.prog = true := by kernel_rfl

theorem thread_of {x : D} (h : ConfL [.int .i64, .str, .int .i64] x.cells) (hg : x.isAgg = true) : ∃ b : ThreadT, x = b.toD := by
  obtain ⟨_, _, e1, ⟨a0, rfl, _⟩, _, _, rfl, ⟨a1, rfl, _⟩, _, _, rfl, ⟨a2, rfl, _⟩, rfl⟩ := h
  exact ⟨⟨a0, a1, a2⟩, agg_of hg e1⟩
theorem slice_of {x : D} (h : ConfL [.int .i64, .int .i64, .int .i64, .str, .int .i64, .int .i64, .int .i64, .bool] x.cells) (hg : x.isAgg = true) : ∃ b : SliceT, x = b.toD := by
  obtain ⟨_, _, e1, ⟨a0, rfl, _⟩, _, _, rfl, ⟨a1, rfl, _⟩, _, _, rfl, ⟨a2, rfl, _⟩, _, _, rfl, ⟨a3, rfl, _⟩, _, _, rfl, ⟨a4, rfl, _⟩, _, _, rfl, ⟨a5, rfl, _⟩, _, _, rfl, ⟨a6, rfl, _⟩, _, _, rfl, ⟨a7, rfl⟩, rfl⟩ := h
  exact ⟨⟨a0, a1, a2, a3, a4, a5, a6, a7⟩, agg_of hg e1⟩
theorem state_of {x : D} (h : ConfL [.int .i64, .int .i64, .int .i64, .int .i64, .int .i64, .int .i64, .int .i64] x.cells) (hg : x.isAgg = true) : ∃ b : StateT, x = b.toD := by
  obtain ⟨_, _, e1, ⟨a0, rfl, _⟩, _, _, rfl, ⟨a1, rfl, _⟩, _, _, rfl, ⟨a2, rfl, _⟩, _, _, rfl, ⟨a3, rfl, _⟩, _, _, rfl, ⟨a4, rfl, _⟩, _, _, rfl, ⟨a5, rfl, _⟩, _, _, rfl, ⟨a6, rfl, _⟩, rfl⟩ := h
  exact ⟨⟨a0, a1, a2, a3, a4, a5, a6⟩, agg_of hg e1⟩
theorem flow_of {x : D} (h : ConfL [.int .i64, .int .i64, .int .i64, .int .i64, .int .i64, .int .i64, .int .i64] x.cells) (hg : x.isAgg = true) : ∃ b : FlowT, x = b.toD := by
  obtain ⟨_, _, e1, ⟨a0, rfl, _⟩, _, _, rfl, ⟨a1, rfl, _⟩, _, _, rfl, ⟨a2, rfl, _⟩, _, _, rfl, ⟨a3, rfl, _⟩, _, _, rfl, ⟨a4, rfl, _⟩, _, _, rfl, ⟨a5, rfl, _⟩, _, _, rfl, ⟨a6, rfl, _⟩, rfl⟩ := h
  exact ⟨⟨a0, a1, a2, a3, a4, a5, a6⟩, agg_of hg e1⟩
theorem sample_of {x : D} (h : ConfL [.int .i64, .int .i64, .int .i64, .sl [.str] false] x.cells) (hg : x.isAgg = true) : ∃ b : SampleT, x = b.toD := by
  obtain ⟨_, _, e1, ⟨a0, rfl, _⟩, _, _, rfl, ⟨a1, rfl, _⟩, _, _, rfl, ⟨a2, rfl, _⟩, _, _, rfl, ⟨xs3, rfl, _, hx3⟩, rfl⟩ := h
  obtain ⟨a3, rfl⟩ := strs_of hx3
  exact ⟨⟨a0, a1, a2, a3⟩, agg_of hg e1⟩
theorem step_of {x : D} (h : ConfL [.str, .int .i64, .int .i64] x.cells) (hg : x.isAgg = true) : ∃ b : StepT, x = b.toD := by
  obtain ⟨_, _, e1, ⟨a0, rfl, _⟩, _, _, rfl, ⟨a1, rfl, _⟩, _, _, rfl, ⟨a2, rfl, _⟩, rfl⟩ := h
  exact ⟨⟨a0, a1, a2⟩, agg_of hg e1⟩
theorem block_of {x : D} (h : ConfL [.int .i64, .int .i64, .int .i64, .int .i64, .int .i64, .sl [.str] false, .bool] x.cells) (hg : x.isAgg = true) : ∃ b : BlockT, x = b.toD := by
  obtain ⟨_, _, e1, ⟨a0, rfl, _⟩, _, _, rfl, ⟨a1, rfl, _⟩, _, _, rfl, ⟨a2, rfl, _⟩, _, _, rfl, ⟨a3, rfl, _⟩, _, _, rfl, ⟨a4, rfl, _⟩, _, _, rfl, ⟨xs5, rfl, _, hx5⟩, _, _, rfl, ⟨a6, rfl⟩, rfl⟩ := h
  obtain ⟨a5, rfl⟩ := strs_of hx5
  exact ⟨⟨a0, a1, a2, a3, a4, a5, a6⟩, agg_of hg e1⟩
theorem loss_of {x : D} (h : ConfL [.int .i64, .int .i64, .int .i64, .int .i64] x.cells) (hg : x.isAgg = true) : ∃ b : LossT, x = b.toD := by
  obtain ⟨_, _, e1, ⟨a0, rfl, _⟩, _, _, rfl, ⟨a1, rfl, _⟩, _, _, rfl, ⟨a2, rfl, _⟩, _, _, rfl, ⟨a3, rfl, _⟩, rfl⟩ := h
  exact ⟨⟨a0, a1, a2, a3⟩, agg_of hg e1⟩
theorem shTrace : shapeOf Tryz.prog 5 33 = some [.int .i64, .int .i64, .sl [.int .i64, .str, .int .i64] true, .sl [.int .i64, .int .i64, .int .i64, .str, .int .i64, .int .i64, .int .i64, .bool] true, .sl [.int .i64, .int .i64, .int .i64, .int .i64, .int .i64, .int .i64, .int .i64] true, .sl [.int .i64, .int .i64, .int .i64, .int .i64, .int .i64, .int .i64, .int .i64] true, .sl [.int .i64, .int .i64, .int .i64, .sl [.str] false] true, .sl [.str, .int .i64, .int .i64] true, .sl [.int .i64, .int .i64, .int .i64, .int .i64, .int .i64, .sl [.str] false, .bool] true, .sl [.int .i64, .int .i64, .int .i64, .int .i64] true] := by kernel_rfl
theorem parTrace {x : D} (h : TypedV Tryz.prog 5 33 x) : ∃ t : TraceT, x = t.toD := by
  obtain ⟨h1, h2⟩ := param_of h shTrace (g := true) (by kernel_rfl)
  obtain ⟨_, _, e1, ⟨l0, rfl, _⟩, _, _, rfl, ⟨l1, rfl, _⟩, _, _, rfl, ⟨xs0, rfl, _, hx0⟩, _, _, rfl, ⟨xs1, rfl, _, hx1⟩, _, _, rfl, ⟨xs2, rfl, _, hx2⟩, _, _, rfl, ⟨xs3, rfl, _, hx3⟩, _, _, rfl, ⟨xs4, rfl, _, hx4⟩, _, _, rfl, ⟨xs5, rfl, _, hx5⟩, _, _, rfl, ⟨xs6, rfl, _, hx6⟩, _, _, rfl, ⟨xs7, rfl, _, hx7⟩, rfl⟩ := h1
  obtain ⟨m0, rfl⟩ := list_of fun y hy => thread_of (hx0 y hy).1 (hx0 y hy).2
  obtain ⟨m1, rfl⟩ := list_of fun y hy => slice_of (hx1 y hy).1 (hx1 y hy).2
  obtain ⟨m2, rfl⟩ := list_of fun y hy => state_of (hx2 y hy).1 (hx2 y hy).2
  obtain ⟨m3, rfl⟩ := list_of fun y hy => flow_of (hx3 y hy).1 (hx3 y hy).2
  obtain ⟨m4, rfl⟩ := list_of fun y hy => sample_of (hx4 y hy).1 (hx4 y hy).2
  obtain ⟨m5, rfl⟩ := list_of fun y hy => step_of (hx5 y hy).1 (hx5 y hy).2
  obtain ⟨m6, rfl⟩ := list_of fun y hy => block_of (hx6 y hy).1 (hx6 y hy).2
  obtain ⟨m7, rfl⟩ := list_of fun y hy => loss_of (hx7 y hy).1 (hx7 y hy).2
  exact ⟨⟨l0, l1, m0, m1, m2, m3, m4, m5, m6, m7⟩, agg_of h2 e1⟩
theorem parInt {x : D} (h : TypedV Tryz.prog 5 3 x) : ∃ e : Int, x = .int .i64 e ∧ (Lit.int .i64 e).wf = true := param1_of h (c := .int .i64) (by kernel_rfl) (by kernel_rfl)
theorem k_few (t : TraceT) : Pure Tryz.prog Gl 7 [.d t.toD] (.d (.bool (fewF t))) := by
  refine Pure.of1 ?_
  refine acalls_of Tryz.func7 rfl rfl (by simp [Tryz.ntmps7]) (evC_sound rfl _ _ _ _ ?_)
  simp only [Tryz.ntmps7, Tryz.results7, argEnv, List.length_nil]
  simp only [zC, seval, implies_true, Nat.reduceLeDiff, Nat.reduceEqDiff, reduceCtorEq, reduceIte]
  refine callF_pure (k_Few t) ?_
  simp only [zC, seval, implies_true, Nat.reduceLeDiff, Nat.reduceEqDiff, reduceCtorEq, reduceIte]
  exact ⟨_, _, ret_d, rfl, rfl⟩
/-! ### what follow finds -/
structure FollowOk (t : TraceT) (a th : Int) (xs : List Int) : Prop where
  pos : 0 < xs.length
  hd : xs.getD 0 default = th
  at_ : ∀ i, i < xs.length → (atS t.states (xs.getD i default) a).isSome = true
  nx : ∀ i, i + 1 < xs.length → (nextF t (xs.getD i default) a).2 = true ∧ (nextF t (xs.getD i default) a).1 = xs.getD (i + 1) default
  nd : ∀ k i, k < i → i < xs.length → xs.getD k default ≠ xs.getD i default
theorem getD_app_l (xs : List Int) (q : Int) {i : Nat} (h : i < xs.length) : (xs ++ [q]).getD i default = xs.getD i default := by simp [List.getElem?_append_left h]
theorem getD_app_r (xs : List Int) (q : Int) : (xs ++ [q]).getD xs.length default = q := by simp
theorem any_getD {xs : List Int} {q : Int} (h : xs.any (fun y => q == y) = false) {i : Nat} (hi : i < xs.length) : xs.getD i default ≠ q := fun e => by
  have := any_at (fun y => q == y) xs i hi (by rw [e]; simp)
  rw [this] at h; cases h
theorem follow_ok (t : TraceT) (a th : Int) : ∀ (n : Nat) (xs : List Int), FollowOk t a th xs → FollowOk t a th (folF t a n xs)
  | 0, xs, h => h
  | n + 1, xs, h => by
    rw [folF]
    split
    · exact h
    · rename_i hs
      have hs : stopF t a xs = false := by simpa using hs
      obtain ⟨g1, g2, g3⟩ := stopF_go hs
      obtain ⟨q, eq⟩ : ∃ q, q = (nextF t (lastI xs) a).1 := ⟨_, rfl⟩
      rw [← eq] at g2 g3 ⊢
      have hp := h.pos
      refine follow_ok t a th n _ ⟨by simp, ?_, fun i hi => ?_, fun i hi => ?_, fun k i hk hi => ?_⟩
      · rw [getD_app_l xs q h.pos]; exact h.hd
      · rw [List.length_append] at hi
        simp only [List.length_cons, List.length_nil] at hi
        rcases Nat.lt_or_ge i xs.length with h1 | h1
        · rw [getD_app_l xs q h1]; exact h.at_ i h1
        · have : i = xs.length := by omega
          subst this
          rw [getD_app_r]; exact g2
      · rw [List.length_append] at hi
        simp only [List.length_cons, List.length_nil] at hi
        rw [getD_app_l xs q (by omega)]
        rcases Nat.lt_or_ge (i + 1) xs.length with h1 | h1
        · rw [getD_app_l xs q h1]; exact h.nx i h1
        · have : i + 1 = xs.length := by omega
          rw [this, getD_app_r, eq, show i = xs.length - 1 by omega]
          exact ⟨g1, rfl⟩
      · rw [List.length_append] at hi
        simp only [List.length_cons, List.length_nil] at hi
        rw [getD_app_l xs q (by omega)]
        rcases Nat.lt_or_ge i xs.length with h1 | h1
        · rw [getD_app_l xs q h1]; exact h.nd k i hk h1
        · have : i = xs.length := by omega
          subst this
          rw [getD_app_r]
          exact any_getD g3 hk
theorem follow_good {t : TraceT} {a th : Int} (h : (atS t.states th a).isSome = true) : FollowOk t a th (followF t th a) := by
  refine follow_ok t a th _ [th] ⟨by simp, by simp, fun i hi => ?_, fun i hi => ?_, fun k i hk hi => ?_⟩
  · have : i = 0 := by simpa using hi
    subst this
    simpa using h
  · simp at hi
  · simp only [List.length_cons, List.length_nil] at hi
    omega
end YtccgdcmgjdhikaaGreat
end Go.Proofs
