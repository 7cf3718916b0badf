/- Proved: TableFindsSaid: for every input that can be read as data the law returns true and leaves its arguments as they were; no condition is added. -/
import Derived.Test.YtadfcljoocjhdaaGreatWttt
set_option linter.unusedVariables false
set_option linter.unusedSimpArgs false
set_option linter.unusedSectionVars false
set_option linter.unnecessarySimpa false
set_option linter.unusedSimpArgs false
set_option linter.unusedVariables false
set_option maxRecDepth 100000
namespace Go.Proofs
open Go.AM Go.ChangeShapes Go.WideShapes Go.ChangeAt Go.RowKit
namespace YtadfcljoocjhdaaGreat
variable {Gl : Globs}
theorem find_few {d : List NamT} (h : ∀ x ∈ d, x.tab.Few) (nm : List UInt8) : (findF d nm).Few := by
  unfold findF
  split
  · rename_i hc
    have hp := placeF_lt d nm hc
    exact h _ (mem_getD (by omega))
  · exact ⟨by decide, by decide, by decide⟩
theorem k_TFinds (d : List NamT) (nm : List UInt8) (t : TabT) : Pure Tryz.prog Gl 8 [.d (.sl (d.map NamT.toD)), .d (.str nm), .d t.toD] (.d (.bool true)) := by
  refine Pure.of3 ?_
  refine acalls_of Tryz.func8 rfl rfl (by simp [Tryz.ntmps8]) (evC_sound rfl _ _ _ _ ?_)
  simp only [Tryz.ntmps8, Tryz.results8, argEnv, List.length_nil]
  simp only [zT, seval, implies_true, Nat.reduceLeDiff, Nat.reduceEqDiff, reduceCtorEq, reduceIte]
  repeat ((with_reducible refine And.intro ?_ ?_); (focus (first | omega | (simp only [lenR]; omega) | (refine qq ?_; rfl) | (refine dq ?_; kernel_rfl) | (intros; simp_all; done))))
  refine callF_pure (k_SmallAll d 40 (by decide)) ?_
  simp only [zT, seval, implies_true, Nat.reduceLeDiff, Nat.reduceEqDiff, reduceCtorEq, reduceIte]
  repeat ((with_reducible refine And.intro ?_ ?_); (focus (first | omega | (simp only [lenR]; omega) | (refine qq ?_; rfl) | (refine dq ?_; kernel_rfl) | (intros; simp_all; done))))
  refine callG_pure (v := .d (.bool (smallT t 40))) (fun _ => k_Small t 40 (by decide)) ?_
  simp only [zT, seval, implies_true, Nat.reduceLeDiff, Nat.reduceEqDiff, reduceCtorEq, reduceIte]
  repeat ((with_reducible refine And.intro ?_ ?_); (focus (first | omega | (simp only [lenR]; omega) | (refine qq ?_; rfl) | (refine dq ?_; kernel_rfl) | (intros; simp_all; done))))
  refine ifC.mk (fun h1 => ?_) (fun h1 => ?_)
  · refine callF_pure k_lives ?_
    simp only [zT, seval, implies_true, Nat.reduceLeDiff, Nat.reduceEqDiff, reduceCtorEq, reduceIte]
    exact ⟨_, _, ret_d, rfl, rfl⟩
  have h2 : smallAll d 40 = true ∧ smallT t 40 = true := by simp at h1; exact h1
  obtain ⟨hl, hf⟩ := smallAll_few h2.1 (by decide)
  obtain ⟨htf, _⟩ := small_few h2.2 (by decide)
  have hff := find_few hf nm
  repeat ((with_reducible refine And.intro ?_ ?_); (focus (first | omega | (simp only [lenR]; omega) | (refine qq ?_; rfl) | (refine dq ?_; kernel_rfl) | (intros; simp_all; done))))
  refine callF_pure (k_Find d nm (by omega)) ?_
  simp only [zT, seval, implies_true, Nat.reduceLeDiff, Nat.reduceEqDiff, reduceCtorEq, reduceIte]
  repeat ((with_reducible refine And.intro ?_ ?_); (focus (first | omega | (simp only [lenR]; omega) | (refine qq ?_; rfl) | (refine dq ?_; kernel_rfl) | (intros; simp_all; done))))
  refine callF_pure (k_RFind d nm (by omega)) ?_
  simp only [zT, seval, implies_true, Nat.reduceLeDiff, Nat.reduceEqDiff, reduceCtorEq, reduceIte]
  repeat ((with_reducible refine And.intro ?_ ?_); (focus (first | omega | (simp only [lenR]; omega) | (refine qq ?_; rfl) | (refine dq ?_; kernel_rfl) | (intros; simp_all; done))))
  refine callF_pure (k_RSame _ _ hff hff) ?_
  have hsm : ∀ x : TabT, sameT x x = true := fun x => sameT_t rfl rfl
  simp only [zT, seval, implies_true, Nat.reduceLeDiff, Nat.reduceEqDiff, reduceCtorEq, reduceIte, hsm, bne_self_eq_false, beq_self_eq_true, Bool.not_true]
  repeat ((with_reducible refine And.intro ?_ ?_); (focus (first | omega | (simp only [lenR]; omega) | (refine qq ?_; rfl) | (refine dq ?_; kernel_rfl) | (intros; simp_all; done))))
  refine callG_pure (v := .d (.int .i64 (colF t.cols nm))) (fun _ => k_Col t nm htf.cols) ?_
  simp only [zT, seval, implies_true, Nat.reduceLeDiff, Nat.reduceEqDiff, reduceCtorEq, reduceIte]
  repeat ((with_reducible refine And.intro ?_ ?_); (focus (first | omega | (simp only [lenR]; omega) | (refine qq ?_; rfl) | (refine dq ?_; kernel_rfl) | (intros; simp_all; done))))
  refine callG_pure (v := .d (.int .i64 (colF t.cols nm))) (fun _ => k_RCol t nm htf.cols) ?_
  simp only [zT, seval, implies_true, Nat.reduceLeDiff, Nat.reduceEqDiff, reduceCtorEq, reduceIte, bne_self_eq_false]
  repeat ((with_reducible refine And.intro ?_ ?_); (focus (first | omega | (simp only [lenR]; omega) | (refine qq ?_; rfl) | (refine dq ?_; kernel_rfl) | (intros; simp_all; done))))
  refine callG_pure (v := .d (.bool true)) (fun _ => by rw [← hsm t]; exact k_Same t t htf htf) ?_
  simp only [zT, seval, implies_true, Nat.reduceLeDiff, Nat.reduceEqDiff, reduceCtorEq, reduceIte, bne_self_eq_false]
  repeat ((with_reducible refine And.intro ?_ ?_); (focus (first | omega | (simp only [lenR]; omega) | (refine qq ?_; rfl) | (refine dq ?_; kernel_rfl) | (intros; simp_all; done))))
  refine for_of d.length (fun k => [(0, .d (.sl (d.map NamT.toD))), (5, .ptr 0 0), (11, .d (.int .i64 k))]) (fun _ => [.box 2 (.d t.toD)]) (fun _ => True) trivial ?_ ?_
  · refine weak_to [] [0] rfl (by simp) ?_ rfl
    simp only [zT, seval, implies_true, Nat.reduceLeDiff, Nat.reduceEqDiff, reduceCtorEq, reduceIte]
    all_goals rfl
  · intro k hi hk
    by_cases h : k < d.length
    · obtain ⟨x, hx⟩ : ∃ x, x = d.getD k default := ⟨_, rfl⟩
      have hg : (List.map NamT.toD d).getD k default = x.toD := by rw [hx]; simp [h]
      have hxf := hf x (by rw [hx]; exact mem_getD h)
      simp only [zT, seval, implies_true, Nat.reduceLeDiff, Nat.reduceEqDiff, reduceCtorEq, reduceIte, (show (k:Int) < d.length by omega), h, hg]
      repeat ((with_reducible refine And.intro ?_ ?_); (focus (first | omega | (simp only [lenR]; omega) | (refine qq ?_; rfl) | (refine dq ?_; kernel_rfl) | (intros; simp_all; done))))
      refine callF_pure (k_Same x.tab t hxf htf) ?_
      simp only [zT, seval, implies_true, Nat.reduceLeDiff, Nat.reduceEqDiff, reduceCtorEq, reduceIte, (show (k:Int) < d.length by omega), h, hg]
      repeat ((with_reducible refine And.intro ?_ ?_); (focus (first | omega | (simp only [lenR]; omega) | (refine qq ?_; rfl) | (refine dq ?_; kernel_rfl) | (intros; simp_all; done))))
      refine callF_pure (k_RSame x.tab t hxf htf) ?_
      simp only [zT, seval, implies_true, Nat.reduceLeDiff, Nat.reduceEqDiff, reduceCtorEq, reduceIte, beq_self_eq_true, Bool.not_true]
      repeat ((with_reducible refine And.intro ?_ ?_); (focus (first | omega | (simp only [lenR]; omega) | (refine qq ?_; rfl) | (refine dq ?_; kernel_rfl) | (intros; simp_all; done))))
      refine weak_to [] [0] rfl (by simp) ?_ rfl
      simp only [zT, seval, implies_true, Nat.reduceLeDiff, Nat.reduceEqDiff, reduceCtorEq, reduceIte, @a_wrap ((k:Int) + 1) (by omega)]
      all_goals rfl
    · simp only [zT, seval, implies_true, Nat.reduceLeDiff, Nat.reduceEqDiff, reduceCtorEq, reduceIte, (show ¬ (k:Int) < d.length by omega)]
      refine callF_pure k_lives ?_
      simp only [zT, seval, implies_true, Nat.reduceLeDiff, Nat.reduceEqDiff, reduceCtorEq, reduceIte]
      exact ⟨_, _, ret_d, rfl, rfl⟩
theorem finds_main (xs : List D) (h : TypedAll Tryz.prog 8 Tryz.f8.params.toList xs) : ACalls Tryz.prog [] 8 (xs.map AV.d) [] (fun r _ => r = .d (.bool true)) := by
  rw [Tryz.params8] at h
  obtain ⟨x, _, rfl, h1, y, _, rfl, h2, z, _, rfl, h3, rfl⟩ := h
  obtain ⟨d, rfl⟩ := parDb h1
  obtain ⟨nm, rfl⟩ := parStr h2
  obtain ⟨t, rfl⟩ := parTab h3
  exact (k_TFinds d nm t []).mono fun r s h => h.1
theorem tableFinds_lifted (os : Os) (started : os.Started) (H : Type) (enc : TypeId × Value → H) :
    ReturnsInHanded {} Tryz.checked os 8 .any (Rows.tableFindsSpec.pre6 enc Tryz.prog Tryz.f8 Rows.tableFindsRow.domain false) (Rows.tableFindsSpec.post enc Tryz.prog Tryz.f8 false true false false) := by
  refine returnsInHanded_of_change (C := Tryz.checked) own started (by kernel_rfl) Tryz.func8
    (ChangeSpec.witness6 (enc := enc) (C := Tryz.checked) false ⟨#[], #[.slice none 0 0, .string ⟨#[]⟩, .agg #[.slice none 0 0, .slice none 0 0]], []⟩ 8 (by kernel_rfl) (by kernel_rfl) (by kernel_rfl) (by kernel_rfl)) ?_
  intro W base args ds gs before hval hW _ _
  exact law_contract (n := 8) (tb := 4) Tryz.func8 rfl rfl (by kernel_rfl) laidOut (by kernel_rfl) (by kernel_rfl) rfl
    (fun H ds h => by
      match ds, h with
      | [d1, d2, d3], _ => rfl) finds_main W base args ds gs before hval hW
theorem tableFinds_holds : Rows.TableFindsSaid :=
  OpenClaim.holds_of_wide 8 Tryz.f8 rfl rfl rfl rfl rfl rfl rfl ⟨rfl, rfl, rfl, rfl, rfl⟩ rfl rfl rfl rfl rfl (by kernel_rfl) Tryz.func8 (by kernel_rfl)
    (of_decide_eq_true (by kernel_rfl)) (by unfold Func.isWrapper; first | (rw [if_pos (by decide +kernel)]; kernel_rfl) | (rw [if_neg (by decide +kernel)]; exact ⟨rfl, rfl⟩))
    (fun os started H enc _ => tableFinds_lifted os started H enc)
end YtadfcljoocjhdaaGreat
end Go.Proofs
