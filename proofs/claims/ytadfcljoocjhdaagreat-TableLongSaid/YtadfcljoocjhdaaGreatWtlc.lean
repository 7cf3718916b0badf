/- Proved: TableLongSaid: for every input that can be read as data the law returns true and leaves its arguments as they were; no condition is added. -/
import Derived.Test.YtadfcljoocjhdaaGreatWttt
set_option linter.unusedVariables false
set_option linter.unusedSimpArgs false
set_option linter.unusedSectionVars false
set_option linter.unnecessarySimpa false
set_option linter.unusedSimpArgs false
set_option linter.unusedVariables false
set_option maxRecDepth 100000
namespace Go.Proofs
open Go.AM Go.ChangeShapes Go.WideShapes Go.ChangeAt Go.RowKit
namespace YtadfcljoocjhdaaGreat
variable {Gl : Globs}
theorem empty_check (n : Nat) : checkF ⟨[], List.replicate n []⟩ = if 20000 < n then 7 else 0 := by
  unfold checkF
  by_cases h : 20000 < n
  · rw [if_pos h, if_pos (by simp; omega)]
  · rw [if_neg h, if_neg (by simp; omega), if_neg (by simp [firstErr])]
    refine firstErr_all fun k hk => ?_
    have hk : k < n := by simpa using hk
    have e : (List.replicate n ([] : List ValT)).getD k default = [] := by simp [hk]
    show rowE [] ((List.replicate n ([] : List ValT)).getD k default) = 0
    rw [e]; rfl
theorem k_TLong (n : Int) : Pure Tryz.prog Gl 5 [.d (.int .i64 n)] (.d (.bool true)) := by
  refine Pure.of1 ?_
  refine acalls_of Tryz.func5 rfl rfl (by simp [Tryz.ntmps5]) (evC_sound rfl _ _ _ _ ?_)
  simp only [Tryz.ntmps5, Tryz.results5, argEnv, List.length_nil]
  simp only [zT, seval, implies_true, Nat.reduceLeDiff, Nat.reduceEqDiff, reduceCtorEq, reduceIte]
  repeat ((with_reducible refine And.intro ?_ ?_); (focus (first | omega | (simp only [lenR]; omega) | (refine qq ?_; rfl) | (refine dq ?_; kernel_rfl) | (intros; simp_all; done))))
  refine ifC.mk (fun h1 => ?_) (fun h1 => ?_)
  · refine callF_pure k_lives ?_
    simp only [zT, seval, implies_true, Nat.reduceLeDiff, Nat.reduceEqDiff, reduceCtorEq, reduceIte]
    exact ⟨_, _, ret_d, rfl, rfl⟩
  have h1 : 0 ≤ n ∧ n ≤ 20100 := by simp at h1; omega
  obtain ⟨m, rfl⟩ : ∃ m : Nat, n = m := ⟨n.toNat, by omega⟩
  have hm : m ≤ 20100 := by omega
  have hmk : mkS Tryz.prog [] 23 (.d (.int .i64 (m : Int))) = [.arr 1 (List.replicate m (.sl []))] := rfl
  have hok : mkOk Tryz.prog 23 (.d (.int .i64 (m : Int))) (.d (.int .i64 (m : Int))) := by
    refine (show _ ∧ _ ∧ _ ∧ (0 : Int) ≤ m ∧ (m : Int) ≤ m ∧ ((24 : Nat) : Int) * (m : Int) ≤ 281474976710656 ∧ (m : Int) ≤ _ from ⟨rfl, rfl, rfl, ?_, ?_, ?_, ?_⟩) <;> omega
  simp only [zT, seval, implies_true, Nat.reduceLeDiff, Nat.reduceEqDiff, reduceCtorEq, reduceIte, hmk]
  refine ⟨hok, ?_⟩
  repeat ((with_reducible refine And.intro ?_ ?_); (focus (first | omega | (simp only [lenR]; omega) | (refine qq ?_; rfl) | (refine dq ?_; kernel_rfl) | (intros; simp_all; done))))
  obtain ⟨T, hTd⟩ : ∃ T : TabT, T = ⟨[], List.replicate m []⟩ := ⟨_, rfl⟩
  have hT : D.agg [.sl [], .sl (List.take m (List.replicate m (.sl [])))] = T.toD := by
    rw [List.take_of_length_le (by simp), hTd]; simp [TabT.toD, rowD]
  have hch : checkF T = if 20000 < m then 7 else 0 := by rw [hTd]; exact empty_check m
  have hTf : T.Few := by
    rw [hTd]
    exact ⟨by simp, by simp; omega, fun r hr => by rw [(List.mem_replicate.1 hr).2]; decide⟩
  have hw1 : Weak 0 2 [] [Blk.arr 1 (List.replicate m (D.sl [])), Blk.box 2 (AV.agg [AV.nils, AV.osl 0 0 m])] [] [Blk.frz 1 (List.replicate m (D.sl [])), Blk.box 2 (AV.d T.toD)] := by
    rw [← hT]
    exact weak_boxD (σ := [Blk.arr 1 (List.replicate m (D.sl [])), Blk.box 2 (AV.agg [AV.nils, AV.osl 0 0 m])]) 1 rfl (by simp) rfl
  have hcall : ACalls Tryz.prog Gl 14 [.agg [.nils, .osl 0 0 m]] [Blk.frz 1 (List.replicate m (D.sl [])), Blk.box 2 (AV.d T.toD)] (fun r s => r = .d (.int .i64 (checkF T)) ∧ s = [Blk.frz 1 (List.replicate m (D.sl [])), Blk.box 2 (AV.d T.toD)]) := by
    refine ACalls.data ?_
    show ACalls _ _ _ [.d (.agg [.sl [], .sl (List.take m (List.replicate m (.sl [])))])] [Blk.frz 1 (List.replicate m (D.sl [])), Blk.box 2 (AV.d T.toD)] _
    rw [hT]
    exact k_Check T hTf.cols hTf.rows hTf.row _
  refine callF_go (ACalls.weak hw1 (hcall.mono fun r s hrs => ?_))
  obtain ⟨rfl, rfl⟩ := hrs
  have hq1 : (checkF T == 0) = decide ((m : Int) ≤ 20000) := by
    rw [hch]; by_cases h : 20000 < m
    · rw [if_pos h, decide_eq_false (by omega)]; rfl
    · rw [if_neg h, decide_eq_true (by omega)]; rfl
  have hq2 : (checkF T == 7) = decide (20000 < (m : Int)) := by
    rw [hch]; by_cases h : 20000 < m
    · rw [if_pos h, decide_eq_true (by omega)]; rfl
    · rw [if_neg h, decide_eq_false (by omega)]; rfl
  simp only [zT, seval, implies_true, Nat.reduceLeDiff, Nat.reduceEqDiff, reduceCtorEq, reduceIte, hq1, beq_self_eq_true]
  repeat ((with_reducible refine And.intro ?_ ?_); (focus (first | omega | (simp only [lenR]; omega) | (refine qq ?_; rfl) | (refine dq ?_; kernel_rfl) | (intros; simp_all; done))))
  refine callG_pure (v := .d (.int .i64 (checkF T))) (fun _ => k_Check T hTf.cols hTf.rows hTf.row) ?_
  simp only [zT, seval, implies_true, Nat.reduceLeDiff, Nat.reduceEqDiff, reduceCtorEq, reduceIte, hq2, beq_self_eq_true]
  repeat ((with_reducible refine And.intro ?_ ?_); (focus (first | omega | (simp only [lenR]; omega) | (refine qq ?_; rfl) | (refine dq ?_; kernel_rfl) | (intros; simp_all; done))))
  refine callG_pure (v := .d (.bool true)) (fun _ => k_lives) ?_
  simp only [zT, seval, implies_true, Nat.reduceLeDiff, Nat.reduceEqDiff, reduceCtorEq, reduceIte]
  repeat ((with_reducible refine And.intro ?_ ?_); (focus (first | omega | (simp only [lenR]; omega) | (refine qq ?_; rfl) | (refine dq ?_; kernel_rfl) | (intros; simp_all; done))))
  exact ⟨_, _, ret_d, rfl, rfl⟩
theorem long_main (xs : List D) (h : TypedAll Tryz.prog 8 Tryz.f5.params.toList xs) : ACalls Tryz.prog [] 5 (xs.map AV.d) [] (fun r _ => r = .d (.bool true)) := by
  rw [Tryz.params5] at h
  obtain ⟨x, _, rfl, h1, rfl⟩ := h
  obtain ⟨n, rfl, _⟩ := parInt h1
  exact (k_TLong n []).mono fun r s h => h.1
theorem tableLong_lifted (os : Os) (started : os.Started) (H : Type) (enc : TypeId × Value → H) :
    ReturnsInHanded {} Tryz.checked os 5 .any (Rows.tableLongSpec.pre6 enc Tryz.prog Tryz.f5 Rows.tableLongRow.domain false) (Rows.tableLongSpec.post enc Tryz.prog Tryz.f5 false true false false) := by
  refine returnsInHanded_of_change (C := Tryz.checked) own started (by kernel_rfl) Tryz.func5
    (ChangeSpec.witness6 (enc := enc) (C := Tryz.checked) false ⟨#[], #[.int .i64 0], []⟩ 8 (by kernel_rfl) (by kernel_rfl) (by kernel_rfl) (by kernel_rfl)) ?_
  intro W base args ds gs before hval hW _ _
  exact law_contract (n := 8) (tb := 4) Tryz.func5 rfl rfl (by kernel_rfl) laidOut (by kernel_rfl) (by kernel_rfl) rfl
    (fun H ds h => by
      match ds, h with
      | [d1], _ => rfl) long_main W base args ds gs before hval hW
theorem tableLong_holds : Rows.TableLongSaid :=
  OpenClaim.holds_of_wide 5 Tryz.f5 rfl rfl rfl rfl rfl rfl rfl ⟨rfl, rfl, rfl, rfl, rfl⟩ rfl rfl rfl rfl rfl (by kernel_rfl) Tryz.func5 (by kernel_rfl)
    (of_decide_eq_true (by kernel_rfl)) (by unfold Func.isWrapper; first | (rw [if_pos (by decide +kernel)]; kernel_rfl) | (rw [if_neg (by decide +kernel)]; exact ⟨rfl, rfl⟩))
    (fun os started H enc _ => tableLong_lifted os started H enc)
end YtadfcljoocjhdaaGreat
end Go.Proofs
