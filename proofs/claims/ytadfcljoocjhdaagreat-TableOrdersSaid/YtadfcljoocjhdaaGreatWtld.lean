/- Proved: TableOrdersSaid: for every input that can be read as data the law returns true and leaves its arguments as they were; no condition is added. -/
import Derived.Test.YtadfcljoocjhdaaGreatWttt
set_option linter.unusedVariables false
set_option linter.unusedSimpArgs false
set_option linter.unusedSectionVars false
set_option linter.unnecessarySimpa false
set_option linter.unusedSimpArgs false
set_option linter.unusedVariables false
set_option maxRecDepth 100000
namespace Go.Proofs
open Go.AM Go.ChangeShapes Go.WideShapes Go.ChangeAt Go.RowKit
namespace YtadfcljoocjhdaaGreat
variable {Gl : Globs}
theorem k_TOrders (a b c : ValT) : Pure Tryz.prog Gl 9 [.d a.toD, .d b.toD, .d c.toD] (.d (.bool true)) := by
  refine Pure.of3 ?_
  obtain ⟨n, hn⟩ : ∃ n, n = ordV a b := ⟨_, rfl⟩
  have hab := ordV_abs a b
  have hba := ordV_anti a b
  have haa := ordV_self a
  have htr := pre_val.trans a b c
  rw [← hn] at hab hba htr
  refine acalls_of Tryz.func9 rfl rfl (by simp [Tryz.ntmps9]) (evC_sound rfl _ _ _ _ ?_)
  simp only [Tryz.ntmps9, Tryz.results9, argEnv, List.length_nil]
  simp only [zT, seval, implies_true, Nat.reduceLeDiff, Nat.reduceEqDiff, reduceCtorEq, reduceIte]
  repeat ((with_reducible refine And.intro ?_ ?_); (focus (first | omega | (simp only [lenR]; omega) | (refine qq ?_; rfl) | (refine dq ?_; kernel_rfl) | (intros; simp_all; done))))
  refine callF_pure (k_Order a b) ?_
  simp only [zT, seval, implies_true, Nat.reduceLeDiff, Nat.reduceEqDiff, reduceCtorEq, reduceIte]
  repeat ((with_reducible refine And.intro ?_ ?_); (focus (first | omega | (simp only [lenR]; omega) | (refine qq ?_; rfl) | (refine dq ?_; kernel_rfl) | (intros; simp_all; done))))
  refine callF_pure (k_ROrder a b) ?_
  simp only [zT, seval, implies_true, Nat.reduceLeDiff, Nat.reduceEqDiff, reduceCtorEq, reduceIte, bne_self_eq_false]
  repeat ((with_reducible refine And.intro ?_ ?_); (focus (first | omega | (simp only [lenR]; omega) | (refine qq ?_; rfl) | (refine dq ?_; kernel_rfl) | (intros; simp_all; done))))
  refine callG_pure (v := .d (.int .i64 (-n))) (fun _ => by rw [← hba]; exact k_Order b a) ?_
  simp only [zT, seval, implies_true, Nat.reduceLeDiff, Nat.reduceEqDiff, reduceCtorEq, reduceIte]
  repeat ((with_reducible refine And.intro ?_ ?_); (focus (first | omega | (simp only [lenR]; omega) | (refine qq ?_; rfl) | (refine dq ?_; kernel_rfl) | (intros; simp_all; done))))
  refine callG_pure (v := .d (.int .i64 n)) (fun _ => by rw [hn]; exact k_ROrder a b) ?_
  have hw : IntKind.i64.wrap (0 - n) = -n := by rw [@a_wrap (0 - n) (by omega)]; omega
  simp only [zT, seval, implies_true, Nat.reduceLeDiff, Nat.reduceEqDiff, reduceCtorEq, reduceIte, hw, bne_self_eq_false]
  repeat ((with_reducible refine And.intro ?_ ?_); (focus (first | omega | (simp only [lenR]; omega) | (refine qq ?_; rfl) | (refine dq ?_; kernel_rfl) | (intros; simp_all; done))))
  refine callG_pure (v := .d (.int .i64 0)) (fun _ => by rw [← haa]; exact k_Order a a) ?_
  simp only [zT, seval, implies_true, Nat.reduceLeDiff, Nat.reduceEqDiff, reduceCtorEq, reduceIte, bne_self_eq_false]
  repeat ((with_reducible refine And.intro ?_ ?_); (focus (first | omega | (simp only [lenR]; omega) | (refine qq ?_; rfl) | (refine dq ?_; kernel_rfl) | (intros; simp_all; done))))
  refine callF_pure (v := .d (.int .i64 n)) (by rw [hn]; exact k_Order a b) ?_
  simp only [zT, seval, implies_true, Nat.reduceLeDiff, Nat.reduceEqDiff, reduceCtorEq, reduceIte]
  repeat ((with_reducible refine And.intro ?_ ?_); (focus (first | omega | (simp only [lenR]; omega) | (refine qq ?_; rfl) | (refine dq ?_; kernel_rfl) | (intros; simp_all; done))))
  refine callG_pure (v := .d (.int .i64 (ordV b c))) (fun _ => k_Order b c) ?_
  simp only [zT, seval, implies_true, Nat.reduceLeDiff, Nat.reduceEqDiff, reduceCtorEq, reduceIte]
  repeat ((with_reducible refine And.intro ?_ ?_); (focus (first | omega | (simp only [lenR]; omega) | (refine qq ?_; rfl) | (refine dq ?_; kernel_rfl) | (intros; simp_all; done))))
  refine callG_pure (v := .d (.int .i64 (ordV a c))) (fun _ => k_Order a c) ?_
  simp only [zT, seval, implies_true, Nat.reduceLeDiff, Nat.reduceEqDiff, reduceCtorEq, reduceIte]
  repeat ((with_reducible refine And.intro ?_ ?_); (focus (first | omega | (simp only [lenR]; omega) | (refine qq ?_; rfl) | (refine dq ?_; kernel_rfl) | (intros; simp_all; done))))
  have hall : (decide (0 < n) || decide (0 < ordV b c) || decide (ordV a c ≤ 0)) = true := by
    by_cases h1 : 0 < n
    · simp [h1]
    · by_cases h2 : 0 < ordV b c
      · simp [h2]
      · have := htr (by omega) (by omega)
        simp [this]
  rw [hall]
  refine callG_pure (v := .d (.bool true)) (fun _ => k_lives) ?_
  simp only [zT, seval, implies_true, Nat.reduceLeDiff, Nat.reduceEqDiff, reduceCtorEq, reduceIte]
  repeat ((with_reducible refine And.intro ?_ ?_); (focus (first | omega | (simp only [lenR]; omega) | (refine qq ?_; rfl) | (refine dq ?_; kernel_rfl) | (intros; simp_all; done))))
  exact ⟨_, _, ret_d, rfl, rfl⟩
theorem orders_main (xs : List D) (h : TypedAll Tryz.prog 8 Tryz.f9.params.toList xs) : ACalls Tryz.prog [] 9 (xs.map AV.d) [] (fun r _ => r = .d (.bool true)) := by
  rw [Tryz.params9] at h
  obtain ⟨x, _, rfl, h1, y, _, rfl, h2, z, _, rfl, h3, rfl⟩ := h
  obtain ⟨a, rfl⟩ := parVal h1
  obtain ⟨b, rfl⟩ := parVal h2
  obtain ⟨c, rfl⟩ := parVal h3
  exact (k_TOrders a b c []).mono fun r s h => h.1
theorem tableOrders_lifted (os : Os) (started : os.Started) (H : Type) (enc : TypeId × Value → H) :
    ReturnsInHanded {} Tryz.checked os 9 .any (Rows.tableOrdersSpec.pre6 enc Tryz.prog Tryz.f9 Rows.tableOrdersRow.domain false) (Rows.tableOrdersSpec.post enc Tryz.prog Tryz.f9 false true false false) := by
  refine returnsInHanded_of_change (C := Tryz.checked) own started (by kernel_rfl) Tryz.func9
    (ChangeSpec.witness6 (enc := enc) (C := Tryz.checked) false ⟨#[], #[.agg #[.int .i64 0, .int .i64 0, .string ⟨#[]⟩], .agg #[.int .i64 0, .int .i64 0, .string ⟨#[]⟩], .agg #[.int .i64 0, .int .i64 0, .string ⟨#[]⟩]], []⟩ 8 (by kernel_rfl) (by kernel_rfl) (by kernel_rfl) (by kernel_rfl)) ?_
  intro W base args ds gs before hval hW _ _
  exact law_contract (n := 8) (tb := 4) Tryz.func9 rfl rfl (by kernel_rfl) laidOut (by kernel_rfl) (by kernel_rfl) rfl
    (fun H ds h => by
      match ds, h with
      | [d1, d2, d3], _ => rfl) orders_main W base args ds gs before hval hW
theorem tableOrders_holds : Rows.TableOrdersSaid :=
  OpenClaim.holds_of_wide 9 Tryz.f9 rfl rfl rfl rfl rfl rfl rfl ⟨rfl, rfl, rfl, rfl, rfl⟩ rfl rfl rfl rfl rfl (by kernel_rfl) Tryz.func9 (by kernel_rfl)
    (of_decide_eq_true (by kernel_rfl)) (by unfold Func.isWrapper; first | (rw [if_pos (by decide +kernel)]; kernel_rfl) | (rw [if_neg (by decide +kernel)]; exact ⟨rfl, rfl⟩))
    (fun os started H enc _ => tableOrders_lifted os started H enc)
end YtadfcljoocjhdaaGreat
end Go.Proofs
