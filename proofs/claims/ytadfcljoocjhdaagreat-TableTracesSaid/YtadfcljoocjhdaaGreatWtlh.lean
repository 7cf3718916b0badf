/- Proved: TableTracesSaid: for every input that can be read as data the law returns true and leaves its arguments as they were; no condition is added. -/
import Derived.Test.YtadfcljoocjhdaaGreatWttt
import Derived.Test.YtadfcljoocjhdaaGreatWttx
set_option linter.unusedVariables false
set_option linter.unusedSimpArgs false
set_option linter.unusedSectionVars false
set_option linter.unnecessarySimpa false
set_option maxRecDepth 100000
namespace Go.Proofs
open Go.AM Go.ChangeShapes Go.WideShapes Go.ChangeAt Go.RowKit
namespace YtadfcljoocjhdaaGreat
variable {Gl : Globs}
theorem thread_of {x : D} (h : ConfL [.int .i64, .str, .int .i64] x.cells) (hg : x.isAgg = true) : ∃ b : ThreadT, x = b.toD := by
 obtain ⟨_, _, e1, ⟨a0, rfl, _⟩, _, _, rfl, ⟨a1, rfl, _⟩, _, _, rfl, ⟨a2, rfl, _⟩, rfl⟩ := h
 exact ⟨⟨a0, a1, a2⟩, agg_of hg e1⟩
theorem slice_of {x : D} (h : ConfL [.int .i64, .int .i64, .int .i64, .str, .int .i64, .int .i64, .int .i64, .bool] x.cells) (hg : x.isAgg = true) : ∃ b : SliceT, x = b.toD := by
 obtain ⟨_, _, e1, ⟨a0, rfl, _⟩, _, _, rfl, ⟨a1, rfl, _⟩, _, _, rfl, ⟨a2, rfl, _⟩, _, _, rfl, ⟨a3, rfl, _⟩, _, _, rfl, ⟨a4, rfl, _⟩, _, _, rfl, ⟨a5, rfl, _⟩, _, _, rfl, ⟨a6, rfl, _⟩, _, _, rfl, ⟨a7, rfl⟩, rfl⟩ := h
 exact ⟨⟨a0, a1, a2, a3, a4, a5, a6, a7⟩, agg_of hg e1⟩
theorem state_of {x : D} (h : ConfL [.int .i64, .int .i64, .int .i64, .int .i64, .int .i64, .int .i64, .int .i64] x.cells) (hg : x.isAgg = true) : ∃ b : StateT, x = b.toD := by
 obtain ⟨_, _, e1, ⟨a0, rfl, _⟩, _, _, rfl, ⟨a1, rfl, _⟩, _, _, rfl, ⟨a2, rfl, _⟩, _, _, rfl, ⟨a3, rfl, _⟩, _, _, rfl, ⟨a4, rfl, _⟩, _, _, rfl, ⟨a5, rfl, _⟩, _, _, rfl, ⟨a6, rfl, _⟩, rfl⟩ := h
 exact ⟨⟨a0, a1, a2, a3, a4, a5, a6⟩, agg_of hg e1⟩
theorem flow_of {x : D} (h : ConfL [.int .i64, .int .i64, .int .i64, .int .i64, .int .i64, .int .i64, .int .i64] x.cells) (hg : x.isAgg = true) : ∃ b : FlowT, x = b.toD := by
 obtain ⟨_, _, e1, ⟨a0, rfl, _⟩, _, _, rfl, ⟨a1, rfl, _⟩, _, _, rfl, ⟨a2, rfl, _⟩, _, _, rfl, ⟨a3, rfl, _⟩, _, _, rfl, ⟨a4, rfl, _⟩, _, _, rfl, ⟨a5, rfl, _⟩, _, _, rfl, ⟨a6, rfl, _⟩, rfl⟩ := h
 exact ⟨⟨a0, a1, a2, a3, a4, a5, a6⟩, agg_of hg e1⟩
theorem sample_of {x : D} (h : ConfL [.int .i64, .int .i64, .int .i64, .sl [.str] false] x.cells) (hg : x.isAgg = true) : ∃ b : SampleT, x = b.toD := by
 obtain ⟨_, _, e1, ⟨a0, rfl, _⟩, _, _, rfl, ⟨a1, rfl, _⟩, _, _, rfl, ⟨a2, rfl, _⟩, _, _, rfl, ⟨xs3, rfl, _, hx3⟩, rfl⟩ := h
 obtain ⟨a3, rfl⟩ := strs_of hx3
 exact ⟨⟨a0, a1, a2, a3⟩, agg_of hg e1⟩
theorem step_of {x : D} (h : ConfL [.str, .int .i64, .int .i64] x.cells) (hg : x.isAgg = true) : ∃ b : StepT, x = b.toD := by
 obtain ⟨_, _, e1, ⟨a0, rfl, _⟩, _, _, rfl, ⟨a1, rfl, _⟩, _, _, rfl, ⟨a2, rfl, _⟩, rfl⟩ := h
 exact ⟨⟨a0, a1, a2⟩, agg_of hg e1⟩
theorem block_of {x : D} (h : ConfL [.int .i64, .int .i64, .int .i64, .int .i64, .int .i64, .sl [.str] false, .bool] x.cells) (hg : x.isAgg = true) : ∃ b : BlockT, x = b.toD := by
 obtain ⟨_, _, e1, ⟨a0, rfl, _⟩, _, _, rfl, ⟨a1, rfl, _⟩, _, _, rfl, ⟨a2, rfl, _⟩, _, _, rfl, ⟨a3, rfl, _⟩, _, _, rfl, ⟨a4, rfl, _⟩, _, _, rfl, ⟨xs5, rfl, _, hx5⟩, _, _, rfl, ⟨a6, rfl⟩, rfl⟩ := h
 obtain ⟨a5, rfl⟩ := strs_of hx5
 exact ⟨⟨a0, a1, a2, a3, a4, a5, a6⟩, agg_of hg e1⟩
theorem loss_of {x : D} (h : ConfL [.int .i64, .int .i64, .int .i64, .int .i64] x.cells) (hg : x.isAgg = true) : ∃ b : LossT, x = b.toD := by
 obtain ⟨_, _, e1, ⟨a0, rfl, _⟩, _, _, rfl, ⟨a1, rfl, _⟩, _, _, rfl, ⟨a2, rfl, _⟩, _, _, rfl, ⟨a3, rfl, _⟩, rfl⟩ := h
 exact ⟨⟨a0, a1, a2, a3⟩, agg_of hg e1⟩
theorem shTrace : shapeOf Tryz.prog 8 47 = some [.int .i64, .int .i64, .sl [.int .i64, .str, .int .i64] true, .sl [.int .i64, .int .i64, .int .i64, .str, .int .i64, .int .i64, .int .i64, .bool] true, .sl [.int .i64, .int .i64, .int .i64, .int .i64, .int .i64, .int .i64, .int .i64] true, .sl [.int .i64, .int .i64, .int .i64, .int .i64, .int .i64, .int .i64, .int .i64] true, .sl [.int .i64, .int .i64, .int .i64, .sl [.str] false] true, .sl [.str, .int .i64, .int .i64] true, .sl [.int .i64, .int .i64, .int .i64, .int .i64, .int .i64, .sl [.str] false, .bool] true, .sl [.int .i64, .int .i64, .int .i64, .int .i64] true] := by kernel_rfl
theorem parTrace {x : D} (h : TypedV Tryz.prog 8 47 x) : ∃ t : TraceT, x = t.toD := by
 obtain ⟨h1, h2⟩ := param_of h shTrace (g := true) (by kernel_rfl)
 obtain ⟨_, _, e1, ⟨l0, rfl, _⟩, _, _, rfl, ⟨l1, rfl, _⟩, _, _, rfl, ⟨xs0, rfl, _, hx0⟩, _, _, rfl, ⟨xs1, rfl, _, hx1⟩, _, _, rfl, ⟨xs2, rfl, _, hx2⟩, _, _, rfl, ⟨xs3, rfl, _, hx3⟩, _, _, rfl, ⟨xs4, rfl, _, hx4⟩, _, _, rfl, ⟨xs5, rfl, _, hx5⟩, _, _, rfl, ⟨xs6, rfl, _, hx6⟩, _, _, rfl, ⟨xs7, rfl, _, hx7⟩, rfl⟩ := h1
 obtain ⟨m0, rfl⟩ := list_of fun y hy => thread_of (hx0 y hy).1 (hx0 y hy).2
 obtain ⟨m1, rfl⟩ := list_of fun y hy => slice_of (hx1 y hy).1 (hx1 y hy).2
 obtain ⟨m2, rfl⟩ := list_of fun y hy => state_of (hx2 y hy).1 (hx2 y hy).2
 obtain ⟨m3, rfl⟩ := list_of fun y hy => flow_of (hx3 y hy).1 (hx3 y hy).2
 obtain ⟨m4, rfl⟩ := list_of fun y hy => sample_of (hx4 y hy).1 (hx4 y hy).2
 obtain ⟨m5, rfl⟩ := list_of fun y hy => step_of (hx5 y hy).1 (hx5 y hy).2
 obtain ⟨m6, rfl⟩ := list_of fun y hy => block_of (hx6 y hy).1 (hx6 y hy).2
 obtain ⟨m7, rfl⟩ := list_of fun y hy => loss_of (hx7 y hy).1 (hx7 y hy).2
 exact ⟨⟨l0, l1, m0, m1, m2, m3, m4, m5, m6, m7⟩, agg_of h2 e1⟩
theorem tab_few {α : Type} [Inhabited α] (cols : List ColT) (f : Nat → α → List ValT) (l : List α) (hc : cols.length < 1000000) (hl : l.length < 1000000) (hf : ∀ i x, (f i x).length < 1000000) : TabT.Few ⟨cols, rowsOf f l l.length⟩ :=
 ⟨hc, by show (rowsOf f l l.length).length < _; rw [rowsOf_len]; exact hl, fun r hr => by obtain ⟨i, _, rfl⟩ := rowsOf_mem hr; exact hf _ _⟩
theorem ofL_few {t : TraceT} (h : t.Few) : ∀ x ∈ ofL t, x.tab.Few := by
 intro x hx
 simp only [ofL, List.mem_cons, List.not_mem_nil, or_false] at hx
 rcases hx with rfl | rfl | rfl | rfl | rfl | rfl | rfl | rfl
 ·exact tab_few thrCols thrRow t.threads (by decide) h.threads (fun i x => by show 2 < 1000000; decide)
 ·exact tab_few sliCols sliRow t.slices (by decide) h.slices (fun i x => by show 9 < 1000000; decide)
 ·exact tab_few staCols staRow t.states (by decide) h.states (fun i x => by show 7 < 1000000; decide)
 ·exact tab_few floCols floRow t.flows (by decide) h.flows (fun i x => by show 5 < 1000000; decide)
 ·exact tab_few samCols samRow t.samples (by decide) h.samples (fun i x => by show 5 < 1000000; decide)
 ·exact tab_few couCols couRow t.steps (by decide) h.steps (fun i x => by show 3 < 1000000; decide)
 ·exact tab_few bloCols bloRow t.blocks (by decide) h.blocks (fun i x => by show 6 < 1000000; decide)
 ·exact tab_few losCols losRow t.lost (by decide) h.lost (fun i x => by show 4 < 1000000; decide)
theorem ofF_few {t : TraceT} (h : t.Few) : (ofF t).length < 1000000 ∧ ∀ x ∈ ofF t, x.tab.Few := by
 unfold ofF
 split
 ·exact ⟨by show 8 < 1000000; decide, ofL_few h⟩
 ·exact ⟨by decide, fun x hx => by cases hx⟩
theorem ofE_ok {t : TraceT} (hs : t.Small) : (ofE t != 0 || checkAllF (ofF t) == 0) = true := by
 by_cases h : ofE t = 0
 ·have h2 : traceF t = 0 := by
   unfold ofE at h
   split at h
   ·rename_i g; exact absurd h g
   ·rename_i g; exact nn g
  rw [ofF, if_pos h, ofL_ok h2 hs]; simp
 ·simp [h]
theorem k_TTraces (t : TraceT) : Pure Tryz.prog Gl 6 [.d t.toD] (.d (.bool true)) := by
 refine Pure.of1 ?_
 refine acalls_of Tryz.func6 rfl rfl (by simp [Tryz.ntmps6]) (evC_sound rfl _ _ _ _ ?_)
 simp only [Tryz.ntmps6, Tryz.results6, argEnv, List.length_nil]
 simp only [zT, seval, implies_true, Nat.reduceLeDiff, Nat.reduceEqDiff, reduceCtorEq, reduceIte]
 repeat ((with_reducible refine And.intro ?_ ?_); (focus (first | omega | (simp only [lenR]; omega) | (refine qq ?_; rfl) | (refine dq ?_; kernel_rfl) | (intros; simp_all; done))))
 refine callF_pure (k_small t) ?_
 simp only [zT, seval, implies_true, Nat.reduceLeDiff, Nat.reduceEqDiff, reduceCtorEq, reduceIte]
 repeat ((with_reducible refine And.intro ?_ ?_); (focus (first | omega | (simp only [lenR]; omega) | (refine qq ?_; rfl) | (refine dq ?_; kernel_rfl) | (intros; simp_all; done))))
 refine ifC.mk (fun h1 => ?_) (fun h1 => ?_)
 ·refine callF_pure k_lives ?_
  simp only [zT, seval, implies_true, Nat.reduceLeDiff, Nat.reduceEqDiff, reduceCtorEq, reduceIte]
  exact ⟨_, _, ret_d, rfl, rfl⟩
 have h1 : smallTr t = true := by simpa using h1
 obtain ⟨hf, hsm⟩ := smallTr_ok h1
 obtain ⟨hol, hof⟩ := ofF_few hf
 have hok := ofE_ok hsm
 repeat ((with_reducible refine And.intro ?_ ?_); (focus (first | omega | (simp only [lenR]; omega) | (refine qq ?_; rfl) | (refine dq ?_; kernel_rfl) | (intros; simp_all; done))))
 refine callF_pure (k_Of t hf) ?_
 simp only [zT, seval, implies_true, Nat.reduceLeDiff, Nat.reduceEqDiff, reduceCtorEq, reduceIte]
 repeat ((with_reducible refine And.intro ?_ ?_); (focus (first | omega | (simp only [lenR]; omega) | (refine qq ?_; rfl) | (refine dq ?_; kernel_rfl) | (intros; simp_all; done))))
 refine callF_pure (k_ROf t hf) ?_
 simp only [zT, seval, implies_true, Nat.reduceLeDiff, Nat.reduceEqDiff, reduceCtorEq, reduceIte]
 repeat ((with_reducible refine And.intro ?_ ?_); (focus (first | omega | (simp only [lenR]; omega) | (refine qq ?_; rfl) | (refine dq ?_; kernel_rfl) | (intros; simp_all; done))))
 refine callF_pure (k_SameAll _ _ hol hol hof hof) ?_
 have hsa : sameA (ofF t) (ofF t) = true := decide_eq_true rfl
 simp only [zT, seval, implies_true, Nat.reduceLeDiff, Nat.reduceEqDiff, reduceCtorEq, reduceIte, hsa, beq_self_eq_true]
 repeat ((with_reducible refine And.intro ?_ ?_); (focus (first | omega | (simp only [lenR]; omega) | (refine qq ?_; rfl) | (refine dq ?_; kernel_rfl) | (intros; simp_all; done))))
 refine callG_pure (v := .d (.int .i64 (checkAllF (ofF t)))) (fun _ => k_CheckAll _ hol hof) ?_
 simp only [zT, seval, implies_true, Nat.reduceLeDiff, Nat.reduceEqDiff, reduceCtorEq, reduceIte, hok]
 repeat ((with_reducible refine And.intro ?_ ?_); (focus (first | omega | (simp only [lenR]; omega) | (refine qq ?_; rfl) | (refine dq ?_; kernel_rfl) | (intros; simp_all; done))))
 refine callG_pure (v := .d (.bool true)) (fun _ => k_lives) ?_
 simp only [zT, seval, implies_true, Nat.reduceLeDiff, Nat.reduceEqDiff, reduceCtorEq, reduceIte]
 repeat ((with_reducible refine And.intro ?_ ?_); (focus (first | omega | (simp only [lenR]; omega) | (refine qq ?_; rfl) | (refine dq ?_; kernel_rfl) | (intros; simp_all; done))))
 exact ⟨_, _, ret_d, rfl, rfl⟩
theorem traces_main (xs : List D) (h : TypedAll Tryz.prog 8 Tryz.f6.params.toList xs) : ACalls Tryz.prog [] 6 (xs.map AV.d) [] (fun r _ => r = .d (.bool true)) := by
 rw [Tryz.params6] at h
 obtain ⟨x, _, rfl, h1, rfl⟩ := h
 obtain ⟨t, rfl⟩ := parTrace h1
 exact (k_TTraces t []).mono fun r s h => h.1
theorem tableTraces_lifted (os : Os) (started : os.Started) (H : Type) (enc : TypeId × Value → H) :
  ReturnsInHanded {} Tryz.checked os 6 .any (Rows.tableTracesSpec.pre6 enc Tryz.prog Tryz.f6 Rows.tableTracesRow.domain false) (Rows.tableTracesSpec.post enc Tryz.prog Tryz.f6 false true false false) := by
 refine returnsInHanded_of_change (C := Tryz.checked) own started (by kernel_rfl) Tryz.func6
  (ChangeSpec.witness6 (enc := enc) (C := Tryz.checked) false ⟨#[], #[.agg #[.int .i64 0, .int .i64 0, .slice none 0 0, .slice none 0 0, .slice none 0 0, .slice none 0 0, .slice none 0 0, .slice none 0 0, .slice none 0 0, .slice none 0 0]], []⟩ 8 (by kernel_rfl) (by kernel_rfl) (by kernel_rfl) (by kernel_rfl)) ?_
 intro W base args ds gs before hval hW _ _
 exact law_contract (n := 8) (tb := 4) Tryz.func6 rfl rfl (by kernel_rfl) laidOut (by kernel_rfl) (by kernel_rfl) rfl
  (fun H ds h => by
   match ds, h with
   | [d1], _ => rfl) traces_main W base args ds gs before hval hW
theorem tableTraces_holds : Rows.TableTracesSaid :=
 OpenClaim.holds_of_wide 6 Tryz.f6 rfl rfl rfl rfl rfl rfl rfl ⟨rfl, rfl, rfl, rfl, rfl⟩ rfl rfl rfl rfl rfl (by kernel_rfl) Tryz.func6 (by kernel_rfl)
  (of_decide_eq_true (by kernel_rfl)) (by unfold Func.isWrapper; first | (rw [if_pos (by decide +kernel)]; kernel_rfl) | (rw [if_neg (by decide +kernel)]; exact ⟨rfl, rfl⟩))
  (fun os started H enc _ => tableTraces_lifted os started H enc)
end YtadfcljoocjhdaaGreat
end Go.Proofs
