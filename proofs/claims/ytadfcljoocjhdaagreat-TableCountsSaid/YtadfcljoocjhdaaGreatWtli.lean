/- Proved: TableCountsSaid: for every input that can be read as data the law returns true and leaves its arguments as they were; no condition is added. -/
import Derived.Test.YtadfcljoocjhdaaGreatWtlh
set_option linter.unusedVariables false
set_option linter.unusedSimpArgs false
set_option linter.unusedSectionVars false
set_option linter.unnecessarySimpa false
set_option maxRecDepth 100000
namespace Go.Proofs
open Go.AM Go.ChangeShapes Go.WideShapes Go.ChangeAt Go.RowKit
namespace YtadfcljoocjhdaaGreat
variable {Gl : Globs}
def names8 : List (List UInt8) := [[116, 104, 114, 101, 97, 100, 115], [115, 108, 105, 99, 101, 115], [115, 116, 97, 116, 101, 115], [102, 108, 111, 119, 115], [115, 97, 109, 112, 108, 101, 115], [99, 111, 117, 110, 116, 101, 114, 115], [98, 108, 111, 99, 107, 115], [108, 111, 115, 115, 101, 115]]
def sizes8 (t : TraceT) : List Nat := [t.threads.length, t.slices.length, t.states.length, t.flows.length, t.samples.length, t.steps.length, t.blocks.length, t.lost.length]
theorem find8 (t : TraceT) : ∀ k, k < 8 → findF (ofL t) (names8.getD k default) = ((ofL t).getD k default).tab ∧ hasN (ofL t) (names8.getD k default) = true ∧ ((ofL t).getD k default).tab.rows.length = (sizes8 t).getD k default := by
 intro k hk
 match k, hk with
 | 0, _ => exact ⟨rfl, rfl, rowsOf_len _ _ _⟩
 | 1, _ => exact ⟨rfl, rfl, rowsOf_len _ _ _⟩
 | 2, _ => exact ⟨rfl, rfl, rowsOf_len _ _ _⟩
 | 3, _ => exact ⟨rfl, rfl, rowsOf_len _ _ _⟩
 | 4, _ => exact ⟨rfl, rfl, rowsOf_len _ _ _⟩
 | 5, _ => exact ⟨rfl, rfl, rowsOf_len _ _ _⟩
 | 6, _ => exact ⟨rfl, rfl, rowsOf_len _ _ _⟩
 | 7, _ => exact ⟨rfl, rfl, rowsOf_len _ _ _⟩
 | n + 8, h => exact absurd h (by omega)
theorem ofE_zero {t : TraceT} (h : traceF t = 0) (hs : t.Small) : ofE t = 0 := by
 have hb : (ofL t).any bigN = false := by
  rw [List.any_eq_false]
  intro x hx
  simp only [ofL, List.mem_cons, List.not_mem_nil, or_false] at hx
  have g : ∀ (n : Nat), n ≤ 70 → ¬ decide (20000 < (n : Int)) = true := fun n hn => by simp; omega
  rcases hx with rfl | rfl | rfl | rfl | rfl | rfl | rfl | rfl
  ·exact g _ (by show (rowsOf thrRow t.threads t.threads.length).length ≤ 70; rw [rowsOf_len]; have := hs.thr; omega)
  ·exact g _ (by show (rowsOf sliRow t.slices t.slices.length).length ≤ 70; rw [rowsOf_len]; have := hs.sli; omega)
  ·exact g _ (by show (rowsOf staRow t.states t.states.length).length ≤ 70; rw [rowsOf_len]; have := hs.sta; omega)
  ·exact g _ (by show (rowsOf floRow t.flows t.flows.length).length ≤ 70; rw [rowsOf_len]; have := hs.flo; omega)
  ·exact g _ (by show (rowsOf samRow t.samples t.samples.length).length ≤ 70; rw [rowsOf_len]; have := hs.sam; omega)
  ·exact g _ (by show (rowsOf couRow t.steps t.steps.length).length ≤ 70; rw [rowsOf_len]; have := hs.ste; omega)
  ·exact g _ (by show (rowsOf bloRow t.blocks t.blocks.length).length ≤ 70; rw [rowsOf_len]; have := hs.blo; omega)
  ·exact g _ (by show (rowsOf losRow t.lost t.lost.length).length ≤ 70; rw [rowsOf_len]; have := hs.los; omega)
 rw [ofE, if_neg (by rw [h]; simp), if_neg (by rw [hb]; simp)]
theorem k_TCounts (t : TraceT) : Pure Tryz.prog Gl 7 [.d t.toD] (.d (.bool true)) := by
 refine Pure.of1 ?_
 refine acalls_of Tryz.func7 rfl rfl (by simp [Tryz.ntmps7]) (evC_sound rfl _ _ _ _ ?_)
 simp only [Tryz.ntmps7, Tryz.results7, argEnv, List.length_nil]
 simp only [zT, seval, implies_true, Nat.reduceLeDiff, Nat.reduceEqDiff, reduceCtorEq, reduceIte]
 repeat ((with_reducible refine And.intro ?_ ?_); (focus (first | omega | (simp only [lenR]; omega) | (refine qq ?_; rfl) | (refine dq ?_; kernel_rfl) | (intros; simp_all; done))))
 refine callF_pure (k_small t) ?_
 simp only [zT, seval, implies_true, Nat.reduceLeDiff, Nat.reduceEqDiff, reduceCtorEq, reduceIte]
 repeat ((with_reducible refine And.intro ?_ ?_); (focus (first | omega | (simp only [lenR]; omega) | (refine qq ?_; rfl) | (refine dq ?_; kernel_rfl) | (intros; simp_all; done))))
 by_cases hsT : smallTr t = true
 ·obtain ⟨hf, hsm⟩ := smallTr_ok hsT
  refine callG_pure (v := .d (.int .i64 (traceF t))) (fun _ => k_RtraceCheck t hf) ?_
  simp only [zT, seval, implies_true, Nat.reduceLeDiff, Nat.reduceEqDiff, reduceCtorEq, reduceIte, hsT]
  repeat ((with_reducible refine And.intro ?_ ?_); (focus (first | omega | (simp only [lenR]; omega) | (refine qq ?_; rfl) | (refine dq ?_; kernel_rfl) | (intros; simp_all; done))))
  refine ifC.mk (fun h1 => ?_) (fun h1 => ?_)
  ·refine callF_pure k_lives ?_
   simp only [zT, seval, implies_true, Nat.reduceLeDiff, Nat.reduceEqDiff, reduceCtorEq, reduceIte]
   exact ⟨_, _, ret_d, rfl, rfl⟩
  have h1 : traceF t = 0 := by simpa using h1
  have hE := ofE_zero h1 hsm
  have hF : ofF t = ofL t := by rw [ofF, if_pos hE]
  repeat ((with_reducible refine And.intro ?_ ?_); (focus (first | omega | (simp only [lenR]; omega) | (refine qq ?_; rfl) | (refine dq ?_; kernel_rfl) | (intros; simp_all; done))))
  refine callF_pure (k_Of t hf) ?_
  rw [hF, hE]
  obtain ⟨d, hd⟩ : ∃ d, d = ofL t := ⟨_, rfl⟩
  have hdl : d.length = 8 := by rw [hd]; rfl
  have hdf : ∀ k, k < 8 → findF d (names8.getD k default) = (d.getD k default).tab ∧ hasN d (names8.getD k default) = true ∧ (d.getD k default).tab.rows.length = (sizes8 t).getD k default := by rw [hd]; exact find8 t
  have hds : findF d [115, 108, 105, 99, 101, 115] = sliTab t := by rw [hd]; rfl
  rw [← hd]
  clear hd hF
  simp only [zT, seval, implies_true, Nat.reduceLeDiff, Nat.reduceEqDiff, reduceCtorEq, reduceIte]
  repeat ((with_reducible refine And.intro ?_ ?_); (focus (first | omega | (simp only [lenR]; omega) | (refine qq ?_; rfl) | (refine dq ?_; kernel_rfl) | (intros; simp_all; done))))
  refine for_of 8 (fun k => [(3, .d (.sl (d.map NamT.toD))), (4, .d (.int .i64 0)), (5, .osl 0 0 8), (6, .osl 1 0 8), (7, .d (.int .i64 k))]) (fun _ => [.arr 1 (names8.map .str), .arr 1 ((sizes8 t).map fun n : Nat => D.int .i64 n)]) (fun _ => True) trivial ?_ ?_
  ·refine weak_to [] [1, 2] rfl (by simp) ?_ rfl
   simp only [zT, seval, implies_true, Nat.reduceLeDiff, Nat.reduceEqDiff, reduceCtorEq, reduceIte]
   all_goals rfl
  ·intro k hi hk
   by_cases h : k < 8
   ·obtain ⟨f1, f2, f3⟩ := hdf k h
    have hnl : names8.length = 8 := rfl
    have hzl : (sizes8 t).length = 8 := rfl
    have hgn : (List.map D.str names8).getD k default = .str (names8.getD k default) := by
     have : k < names8.length := h
     simp [this]
    have hgs : (List.map (fun n : Nat => D.int .i64 n) (sizes8 t)).getD k default = .int .i64 (((sizes8 t).getD k default : Nat) : Int) := by
     have : k < (sizes8 t).length := h
     simp [this]
    simp only [zT, seval, implies_true, Nat.reduceLeDiff, Nat.reduceEqDiff, reduceCtorEq, reduceIte, (show (k:Int) < 8 by omega), h, hnl, hzl, hgn]
    repeat ((with_reducible refine And.intro ?_ ?_); (focus (first | omega | (simp only [lenR]; omega) | (refine qq ?_; rfl) | (refine dq ?_; kernel_rfl) | (intros; simp_all; done))))
    refine callF_pure (k_Find d _ (by omega)) ?_
    rw [f1, f2]
    simp only [zT, seval, implies_true, Nat.reduceLeDiff, Nat.reduceEqDiff, reduceCtorEq, reduceIte, hgs, f3, bne_self_eq_false, (show (k:Int) < 8 by omega), h, hnl, hzl]
    repeat ((with_reducible refine And.intro ?_ ?_); (focus (first | omega | (simp only [lenR]; omega) | (refine qq ?_; rfl) | (refine dq ?_; kernel_rfl) | (intros; simp_all; done))))
    refine weak_to [] [0, 1] rfl (by simp) ?_ rfl
    simp only [zT, seval, implies_true, Nat.reduceLeDiff, Nat.reduceEqDiff, reduceCtorEq, reduceIte, @a_wrap ((k:Int) + 1) (by omega)]
    all_goals rfl
   ·simp only [zT, seval, implies_true, Nat.reduceLeDiff, Nat.reduceEqDiff, reduceCtorEq, reduceIte, (show ¬ (k:Int) < 8 by omega)]
    repeat ((with_reducible refine And.intro ?_ ?_); (focus (first | omega | (simp only [lenR]; omega) | (refine qq ?_; rfl) | (refine dq ?_; kernel_rfl) | (intros; simp_all; done))))
    refine callF_pure (k_Find d _ (by omega)) ?_
    rw [hds]
    simp only [zT, seval, implies_true, Nat.reduceLeDiff, Nat.reduceEqDiff, reduceCtorEq, reduceIte]
    repeat ((with_reducible refine And.intro ?_ ?_); (focus (first | omega | (simp only [lenR]; omega) | (refine qq ?_; rfl) | (refine dq ?_; kernel_rfl) | (intros; simp_all; done))))
    have hcid : colF (sliTab t).cols [105, 100] = 0 := by show colF sliCols [105, 100] = 0; decide +kernel
    refine callF_pure (v := .d (.int .i64 0)) (by rw [← hcid]; exact k_Col (sliTab t) _ (by show 9 < 1000000; decide)) ?_
    simp only [zT, seval, implies_true, Nat.reduceLeDiff, Nat.reduceEqDiff, reduceCtorEq, reduceIte]
    repeat ((with_reducible refine And.intro ?_ ?_); (focus (first | omega | (simp only [lenR]; omega) | (refine qq ?_; rfl) | (refine dq ?_; kernel_rfl) | (intros; simp_all; done))))
    have hrl : (sliTab t).rows.length = t.slices.length := rowsOf_len _ _ _
    have hns := hf.slices
    refine for_of t.slices.length (fun k => [(4, .d (.int .i64 0)), (10, .ptr 0 0), (12, .d (.int .i64 0)), (13, .d (.int .i64 k))]) (fun _ => [.box 2 (.d (sliTab t).toD)]) (fun _ => True) trivial ?_ ?_
    ·refine weak_to [] [2] rfl (by simp) ?_ rfl
     simp only [zT, seval, implies_true, Nat.reduceLeDiff, Nat.reduceEqDiff, reduceCtorEq, reduceIte]
     all_goals rfl
    ·intro j hi2 hj
     by_cases g : j < t.slices.length
     ·obtain ⟨x, hx⟩ : ∃ x, x = t.slices.getD j default := ⟨_, rfl⟩
      have hg : (List.map rowD (sliTab t).rows).getD j default = .sl ((sliRow j x).map ValT.toD) := by
       show (List.map rowD (rowsOf sliRow t.slices t.slices.length)).getD j default = _
       rw [hx]
       simp [rowsOf, g, rowD]
      have hl9 : (sliRow j x).length = 9 := rfl
      have hg0 : (List.map ValT.toD (sliRow j x)).getD 0 default = .agg [.int .i64 2, .int .i64 (j : Int), .str []] := rfl
      simp only [zT, seval, implies_true, Nat.reduceLeDiff, Nat.reduceEqDiff, reduceCtorEq, reduceIte, hrl, (show (j:Int) < t.slices.length by omega), g, hg, hl9, hg0]
      repeat ((with_reducible refine And.intro ?_ ?_); (focus (first | omega | (simp only [lenR]; omega) | (refine qq ?_; rfl) | (refine dq ?_; kernel_rfl) | (intros; simp_all; done))))
      refine callG_pure (v := .d (.agg [.int .i64 2, .int .i64 (j : Int), .str []])) (fun _ => k_Rnum (j : Int)) ?_
      simp only [zT, seval, implies_true, Nat.reduceLeDiff, Nat.reduceEqDiff, reduceCtorEq, reduceIte, beq_self_eq_true, bne_self_eq_false]
      repeat ((with_reducible refine And.intro ?_ ?_); (focus (first | omega | (simp only [lenR]; omega) | (refine qq ?_; rfl) | (refine dq ?_; kernel_rfl) | (intros; simp_all; done))))
      refine weak_to [] [0] rfl (by simp) ?_ rfl
      simp only [zT, seval, implies_true, Nat.reduceLeDiff, Nat.reduceEqDiff, reduceCtorEq, reduceIte, @a_wrap ((j:Int) + 1) (by omega)]
      all_goals rfl
     ·simp only [zT, seval, implies_true, Nat.reduceLeDiff, Nat.reduceEqDiff, reduceCtorEq, reduceIte, hrl, (show ¬ (j:Int) < t.slices.length by omega), beq_self_eq_true]
      repeat ((with_reducible refine And.intro ?_ ?_); (focus (first | omega | (simp only [lenR]; omega) | (refine qq ?_; rfl) | (refine dq ?_; kernel_rfl) | (intros; simp_all; done))))
      refine callG_pure (v := .d (.bool true)) (fun _ => k_lives) ?_
      simp only [zT, seval, implies_true, Nat.reduceLeDiff, Nat.reduceEqDiff, reduceCtorEq, reduceIte]
      repeat ((with_reducible refine And.intro ?_ ?_); (focus (first | omega | (simp only [lenR]; omega) | (refine qq ?_; rfl) | (refine dq ?_; kernel_rfl) | (intros; simp_all; done))))
      exact ⟨_, _, ret_d, rfl, rfl⟩
 ·have hsT : smallTr t = false := by simpa using hsT
  refine callG_pure (v := .d (.int .i64 0)) (fun h => by rw [hsT] at h; simp at h) ?_
  simp only [zT, seval, implies_true, Nat.reduceLeDiff, Nat.reduceEqDiff, reduceCtorEq, reduceIte, hsT]
  repeat ((with_reducible refine And.intro ?_ ?_); (focus (first | omega | (simp only [lenR]; omega) | (refine qq ?_; rfl) | (refine dq ?_; kernel_rfl) | (intros; simp_all; done))))
  refine callF_pure k_lives ?_
  simp only [zT, seval, implies_true, Nat.reduceLeDiff, Nat.reduceEqDiff, reduceCtorEq, reduceIte]
  exact ⟨_, _, ret_d, rfl, rfl⟩
theorem counts_main (xs : List D) (h : TypedAll Tryz.prog 8 Tryz.f7.params.toList xs) : ACalls Tryz.prog [] 7 (xs.map AV.d) [] (fun r _ => r = .d (.bool true)) := by
 rw [Tryz.params7] at h
 obtain ⟨x, _, rfl, h1, rfl⟩ := h
 obtain ⟨t, rfl⟩ := parTrace h1
 exact (k_TCounts t []).mono fun r s h => h.1
theorem tableCounts_lifted (os : Os) (started : os.Started) (H : Type) (enc : TypeId × Value → H) :
  ReturnsInHanded {} Tryz.checked os 7 .any (Rows.tableCountsSpec.pre6 enc Tryz.prog Tryz.f7 Rows.tableCountsRow.domain false) (Rows.tableCountsSpec.post enc Tryz.prog Tryz.f7 false true false false) := by
 refine returnsInHanded_of_change (C := Tryz.checked) own started (by kernel_rfl) Tryz.func7
  (ChangeSpec.witness6 (enc := enc) (C := Tryz.checked) false ⟨#[], #[.agg #[.int .i64 0, .int .i64 0, .slice none 0 0, .slice none 0 0, .slice none 0 0, .slice none 0 0, .slice none 0 0, .slice none 0 0, .slice none 0 0, .slice none 0 0]], []⟩ 8 (by kernel_rfl) (by kernel_rfl) (by kernel_rfl) (by kernel_rfl)) ?_
 intro W base args ds gs before hval hW _ _
 exact law_contract (n := 8) (tb := 4) Tryz.func7 rfl rfl (by kernel_rfl) laidOut (by kernel_rfl) (by kernel_rfl) rfl
  (fun H ds h => by
   match ds, h with
   | [d1], _ => rfl) counts_main W base args ds gs before hval hW
theorem tableCounts_holds : Rows.TableCountsSaid :=
 OpenClaim.holds_of_wide 7 Tryz.f7 rfl rfl rfl rfl rfl rfl rfl ⟨rfl, rfl, rfl, rfl, rfl⟩ rfl rfl rfl rfl rfl (by kernel_rfl) Tryz.func7 (by kernel_rfl)
  (of_decide_eq_true (by kernel_rfl)) (by unfold Func.isWrapper; first | (rw [if_pos (by decide +kernel)]; kernel_rfl) | (rw [if_neg (by decide +kernel)]; exact ⟨rfl, rfl⟩))
  (fun os started H enc _ => tableCounts_lifted os started H enc)
end YtadfcljoocjhdaaGreat
end Go.Proofs
