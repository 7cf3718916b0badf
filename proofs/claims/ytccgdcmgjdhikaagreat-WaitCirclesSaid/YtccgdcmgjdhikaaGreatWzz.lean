/- Proved: WaitCirclesSaid: for every input that can be read as data the law returns true and leaves its arguments as they were; no condition is added. -/
import Derived.Test.YtccgdcmgjdhikaaGreatWzy
set_option linter.unusedVariables false
set_option linter.unusedSimpArgs false
set_option linter.unusedSectionVars false
set_option linter.unnecessarySimpa false
set_option linter.unusedSimpArgs false
set_option linter.unusedVariables false
set_option maxRecDepth 100000
namespace Go.Proofs
open Go.AM Go.ChangeShapes Go.WideShapes Go.ChangeAt Go.RowKit
namespace YtccgdcmgjdhikaaGreat
variable {Gl : Globs}

theorem filter_ids (t : TraceT) (a : Int) (h : traceF t = 0) : (t.threads.filter fun x => circR t a x.id) = t.threads.filter fun x => circB t a x.id := by
  refine List.filter_congr fun x hx => circR_eq h ?_
  unfold hasT; rw [List.any_eq_true]; exact ⟨x, hx, by simp⟩
theorem k_RDeadlock (t : TraceT) (ht : t.Few) (a : Int) : Pure Tryz.prog Gl 12 [.d t.toD, .d (.int .i64 a)] (.tup [.d (.sl ((deadF t a).1.map (D.int .i64))), .d (.int .i64 (deadF t a).2)]) := by
  refine Pure.of2t2 ?_
  have hth := ht.threads
  obtain ⟨F, hF⟩ : ∃ F, F = deadF t a := ⟨_, rfl⟩
  rw [← hF]
  rw [deadF] at hF
  refine acalls_of Tryz.func12 rfl rfl (by simp [Tryz.ntmps12]) (evC_sound rfl _ _ _ _ ?_)
  simp only [Tryz.ntmps12, Tryz.results12, argEnv, List.length_nil]
  simp only [zC, implies_true, Nat.reduceLT, Nat.reduceLeDiff, Nat.reduceEqDiff, Nat.reduceAdd, Nat.reduceSub, Nat.reduceMul, Int.reduceToNat, Int.reduceLT, Int.reduceLE, Int.reduceEq, Int.reduceAdd, Int.reduceSub, Int.reduceNeg, Int.reduceBEq, Int.reduceBNe, Int.reduceMul, reduceCtorEq, reduceIte]
  repeat ((with_reducible refine And.intro ?_ ?_); (focus (first | omega | (simp only [List.length_take, List.length_drop, List.length_map, List.length_append, List.length_cons]; omega) | (refine (show quietOp _ = true from ?_); rfl) | (refine (show drawOk _ _ _ _ _ _ _ from Or.inl ?_); kernel_rfl) | (intros; simp_all; done))))
  refine callF_pure (k_RtraceCheck t ht) ?_
  simp only [zC, implies_true, Nat.reduceLT, Nat.reduceLeDiff, Nat.reduceEqDiff, Nat.reduceAdd, Nat.reduceSub, Nat.reduceMul, Int.reduceToNat, Int.reduceLT, Int.reduceLE, Int.reduceEq, Int.reduceAdd, Int.reduceSub, Int.reduceNeg, Int.reduceBEq, Int.reduceBNe, Int.reduceMul, reduceCtorEq, reduceIte]
  refine ifC.mk (fun h1 => ?_) (fun h1 => ?_)
  · have h1 := bne_iff_ne.1 h1
    rw [if_pos h1] at hF
    repeat ((with_reducible refine And.intro ?_ ?_); (focus (first | omega | (simp only [List.length_take, List.length_drop, List.length_map, List.length_append, List.length_cons]; omega) | (refine (show quietOp _ = true from ?_); rfl) | (refine (show drawOk _ _ _ _ _ _ _ from Or.inl ?_); kernel_rfl) | (intros; simp_all; done))))
    refine ⟨_, _, ret_tdata (x := .sl []) (by rfl) (by rfl), ?_, rfl⟩
    rw [hF]; rfl
  · have h1 : traceF t = 0 := by simpa using h1
    rw [if_neg (by rw [h1]; simp), ← filter_ids t a h1] at hF
    repeat ((with_reducible refine And.intro ?_ ?_); (focus (first | omega | (simp only [List.length_take, List.length_drop, List.length_map, List.length_append, List.length_cons]; omega) | (refine (show quietOp _ = true from ?_); rfl) | (refine (show drawOk _ _ _ _ _ _ _ from Or.inl ?_); kernel_rfl) | (intros; simp_all; done))))
    obtain ⟨P, hP⟩ : ∃ P : ThreadT → Bool, P = fun x => circR t a x.id := ⟨_, rfl⟩
    rw [← hP] at hF
    refine for_of t.threads.length (fun k => [(1, .d (.int .i64 a)), (2, .ptr 0 0), (7, .osl 1 0 ((t.threads.take k).filter P).length), (8, .d (.int .i64 k))]) (fun k => [.box 10 (.d t.toD), .arr 1 (((t.threads.take k).filter P).map fun x => D.int .i64 x.id)]) (fun _ => True) trivial ?_ ?_
    · refine (weak_nils 7 1 rfl).trans ?_
      refine weak_to [] [0, 1] rfl (by simp) ?_ ?_
      · simp only [zC, implies_true, Nat.reduceLT, Nat.reduceLeDiff, Nat.reduceEqDiff, Nat.reduceAdd, Nat.reduceSub, Nat.reduceMul, Int.reduceToNat, Int.reduceLT, Int.reduceLE, Int.reduceEq, Int.reduceAdd, Int.reduceSub, Int.reduceNeg, Int.reduceBEq, Int.reduceBNe, Int.reduceMul, reduceCtorEq, reduceIte, Int.cast_ofNat_Int]
        all_goals rfl
      · rfl
    · intro k _ hk
      have hfl : ((t.threads.take k).filter P).length ≤ k := by
        have := List.length_filter_le P (t.threads.take k)
        have h2 : (t.threads.take k).length ≤ k := by simp; omega
        omega
      by_cases h : k < t.threads.length
      · have hs := filter_snoc P t.threads k h
        obtain ⟨ys, hys⟩ : ∃ ys, ys = (t.threads.take k).filter P := ⟨_, rfl⟩
        obtain ⟨x, hx⟩ : ∃ x, x = t.threads.getD k default := ⟨_, rfl⟩
        rw [← hys, ← hx] at hs
        rw [← hys] at hfl ⊢
        simp only [zC, implies_true, Nat.reduceLT, Nat.reduceLeDiff, Nat.reduceEqDiff, Nat.reduceAdd, Nat.reduceSub, Nat.reduceMul, Int.reduceToNat, Int.reduceLT, Int.reduceLE, Int.reduceEq, Int.reduceAdd, Int.reduceSub, Int.reduceNeg, Int.reduceBEq, Int.reduceBNe, Int.reduceMul, reduceCtorEq, reduceIte, (show (k:Int) < t.threads.length by omega), h, a_getD _ _ _ (show k < t.threads.length by omega), ← hx]
        repeat ((with_reducible refine And.intro ?_ ?_); (focus (first | omega | (simp only [List.length_take, List.length_drop, List.length_map, List.length_append, List.length_cons]; omega) | (refine (show quietOp _ = true from ?_); rfl) | (refine (show drawOk _ _ _ _ _ _ _ from Or.inl ?_); kernel_rfl) | (intros; simp_all; done))))
        refine callF_pure (k_circles t ht _ _) ?_
        simp only [zC, implies_true, Nat.reduceLT, Nat.reduceLeDiff, Nat.reduceEqDiff, Nat.reduceAdd, Nat.reduceSub, Nat.reduceMul, Int.reduceToNat, Int.reduceLT, Int.reduceLE, Int.reduceEq, Int.reduceAdd, Int.reduceSub, Int.reduceNeg, Int.reduceBEq, Int.reduceBNe, Int.reduceMul, reduceCtorEq, reduceIte]
        refine ifC.mk (fun hc => ?_) (fun hc => ?_)
        · rw [if_pos (by rw [hP]; exact hc)] at hs
          simp only [zC, implies_true, Nat.reduceLT, Nat.reduceLeDiff, Nat.reduceEqDiff, Nat.reduceAdd, Nat.reduceSub, Nat.reduceMul, Int.reduceToNat, Int.reduceLT, Int.reduceLE, Int.reduceEq, Int.reduceAdd, Int.reduceSub, Int.reduceNeg, Int.reduceBEq, Int.reduceBNe, Int.reduceMul, reduceCtorEq, reduceIte, take_all, (show (k:Int) < t.threads.length by omega), h, a_getD _ _ _ (show k < t.threads.length by omega), ← hx]
          repeat ((with_reducible refine And.intro ?_ ?_); (focus (first | omega | (simp only [List.length_take, List.length_drop, List.length_map, List.length_append, List.length_cons]; omega) | (refine (show quietOp _ = true from ?_); rfl) | (refine (show drawOk _ _ _ _ _ _ _ from Or.inl ?_); kernel_rfl) | (intros; simp_all; done))))
          rw [hs]
          refine weak_to [] [0, 3] rfl (by simp) ?_ ?_
          · simp only [zC, implies_true, Nat.reduceLT, Nat.reduceLeDiff, Nat.reduceEqDiff, Nat.reduceAdd, Nat.reduceSub, Nat.reduceMul, Int.reduceToNat, Int.reduceLT, Int.reduceLE, Int.reduceEq, Int.reduceAdd, Int.reduceSub, Int.reduceNeg, Int.reduceBEq, Int.reduceBNe, Int.reduceMul, reduceCtorEq, reduceIte, @a_wrap ((k:Int) + 1) (by omega), List.length_append]
            all_goals rfl
          · simp only [zC, implies_true, Nat.reduceLT, Nat.reduceLeDiff, Nat.reduceEqDiff, Nat.reduceAdd, Nat.reduceSub, Nat.reduceMul, Int.reduceToNat, Int.reduceLT, Int.reduceLE, Int.reduceEq, Int.reduceAdd, Int.reduceSub, Int.reduceNeg, Int.reduceBEq, Int.reduceBNe, Int.reduceMul, reduceCtorEq, reduceIte, List.map_append]
            all_goals rfl
        · rw [if_neg (by rw [hP]; show ¬ circR t a x.id = true; rw [hc]; simp)] at hs
          rw [hs]
          refine weak_to [] [0, 1] rfl (by simp) ?_ ?_
          · simp only [zC, implies_true, Nat.reduceLT, Nat.reduceLeDiff, Nat.reduceEqDiff, Nat.reduceAdd, Nat.reduceSub, Nat.reduceMul, Int.reduceToNat, Int.reduceLT, Int.reduceLE, Int.reduceEq, Int.reduceAdd, Int.reduceSub, Int.reduceNeg, Int.reduceBEq, Int.reduceBNe, Int.reduceMul, reduceCtorEq, reduceIte, @a_wrap ((k:Int) + 1) (by omega)]
            all_goals rfl
          · rfl
      · have : k = t.threads.length := by omega
        subst this
        simp only [zC, implies_true, Nat.reduceLT, Nat.reduceLeDiff, Nat.reduceEqDiff, Nat.reduceAdd, Nat.reduceSub, Nat.reduceMul, Int.reduceToNat, Int.reduceLT, Int.reduceLE, Int.reduceEq, Int.reduceAdd, Int.reduceSub, Int.reduceNeg, Int.reduceBEq, Int.reduceBNe, Int.reduceMul, reduceCtorEq, reduceIte, (show ¬ (t.threads.length:Int) < t.threads.length by omega), List.take_length]
        refine ⟨_, _, ret_tdata rfl rfl, ?_, rfl⟩
        rw [hF]
        simp only [zC, implies_true, Nat.reduceLT, Nat.reduceLeDiff, Nat.reduceEqDiff, Nat.reduceAdd, Nat.reduceSub, Nat.reduceMul, Int.reduceToNat, Int.reduceLT, Int.reduceLE, Int.reduceEq, Int.reduceAdd, Int.reduceSub, Int.reduceNeg, Int.reduceBEq, Int.reduceBNe, Int.reduceMul, reduceCtorEq, reduceIte, List.take_length, List.map_map, take_all]
        all_goals rfl
set_option maxHeartbeats 2000000 in
theorem k_Circles (t : TraceT) (a : Int) : Pure Tryz.prog Gl 4 [.d t.toD, .d (.int .i64 a)] (.d (.bool true)) := by
  refine Pure.of2 ?_
  refine acalls_of Tryz.func4 rfl rfl (by simp [Tryz.ntmps4]) (evC_sound rfl _ _ _ _ ?_)
  simp only [Tryz.ntmps4, Tryz.results4, argEnv, List.length_nil]
  simp only [zC, implies_true, Nat.reduceLT, Nat.reduceLeDiff, Nat.reduceEqDiff, Nat.reduceAdd, Nat.reduceSub, Nat.reduceMul, Int.reduceToNat, Int.reduceLT, Int.reduceLE, Int.reduceEq, Int.reduceAdd, Int.reduceSub, Int.reduceNeg, Int.reduceBEq, Int.reduceBNe, Int.reduceMul, reduceCtorEq, reduceIte]
  repeat ((with_reducible refine And.intro ?_ ?_); (focus (first | omega | (simp only [List.length_take, List.length_drop, List.length_map, List.length_append, List.length_cons]; omega) | (refine (show quietOp _ = true from ?_); rfl) | (refine (show drawOk _ _ _ _ _ _ _ from Or.inl ?_); kernel_rfl) | (intros; simp_all; done))))
  refine callF_pure (k_few t) ?_
  simp only [zC, implies_true, Nat.reduceLT, Nat.reduceLeDiff, Nat.reduceEqDiff, Nat.reduceAdd, Nat.reduceSub, Nat.reduceMul, Int.reduceToNat, Int.reduceLT, Int.reduceLE, Int.reduceEq, Int.reduceAdd, Int.reduceSub, Int.reduceNeg, Int.reduceBEq, Int.reduceBNe, Int.reduceMul, reduceCtorEq, reduceIte]
  refine ifC.mk (fun hf => ?_) (fun hf => ?_)
  · refine callF_pure k_lives ?_
    simp only [zC, implies_true, Nat.reduceLT, Nat.reduceLeDiff, Nat.reduceEqDiff, Nat.reduceAdd, Nat.reduceSub, Nat.reduceMul, Int.reduceToNat, Int.reduceLT, Int.reduceLE, Int.reduceEq, Int.reduceAdd, Int.reduceSub, Int.reduceNeg, Int.reduceBEq, Int.reduceBNe, Int.reduceMul, reduceCtorEq, reduceIte]
    exact ⟨_, _, ret_d, rfl, rfl⟩
  · have hf : fewF t = true := by simpa using hf
    have ht := few_few hf
    have hth := ht.threads
    refine callF_pure (k_Deadlock t ht a) ?_
    simp only [zC, implies_true, Nat.reduceLT, Nat.reduceLeDiff, Nat.reduceEqDiff, Nat.reduceAdd, Nat.reduceSub, Nat.reduceMul, Int.reduceToNat, Int.reduceLT, Int.reduceLE, Int.reduceEq, Int.reduceAdd, Int.reduceSub, Int.reduceNeg, Int.reduceBEq, Int.reduceBNe, Int.reduceMul, reduceCtorEq, reduceIte]
    refine callF_pure (k_RDeadlock t ht a) ?_
    obtain ⟨L, hL⟩ : ∃ L, L = (deadF t a).1 := ⟨_, rfl⟩
    obtain ⟨e, he⟩ : ∃ e, e = (deadF t a).2 := ⟨_, rfl⟩
    rw [← hL, ← he]
    have hlen : L.length ≤ t.threads.length := by
      rw [hL, deadF]
      split
      · simp
      · rw [List.length_map]; exact List.length_filter_le _ _
    simp only [zC, implies_true, Nat.reduceLT, Nat.reduceLeDiff, Nat.reduceEqDiff, Nat.reduceAdd, Nat.reduceSub, Nat.reduceMul, Int.reduceToNat, Int.reduceLT, Int.reduceLE, Int.reduceEq, Int.reduceAdd, Int.reduceSub, Int.reduceNeg, Int.reduceBEq, Int.reduceBNe, Int.reduceMul, reduceCtorEq, reduceIte, bne_self_eq_false]
    repeat ((with_reducible refine And.intro ?_ ?_); (focus (first | omega | (simp only [List.length_take, List.length_drop, List.length_map, List.length_append, List.length_cons]; omega) | (refine (show quietOp _ = true from ?_); rfl) | (refine (show drawOk _ _ _ _ _ _ _ from Or.inl ?_); kernel_rfl) | (intros; simp_all; done))))
    refine for_of L.length (fun k => [(5, .d (.sl (L.map (D.int .i64)))), (7, .d (.sl (L.map (D.int .i64)))), (9, .d (.int .i64 k))]) (fun _ => []) (fun _ => True) trivial ?_ ?_
    · refine weak_to [] [] rfl List.nodup_nil ?_ rfl
      simp only [zC, implies_true, Nat.reduceLT, Nat.reduceLeDiff, Nat.reduceEqDiff, Nat.reduceAdd, Nat.reduceSub, Nat.reduceMul, Int.reduceToNat, Int.reduceLT, Int.reduceLE, Int.reduceEq, Int.reduceAdd, Int.reduceSub, Int.reduceNeg, Int.reduceBEq, Int.reduceBNe, Int.reduceMul, reduceCtorEq, reduceIte, Int.cast_ofNat_Int]
    · intro k _ hk
      by_cases h : k < L.length
      · simp only [zC, implies_true, Nat.reduceLT, Nat.reduceLeDiff, Nat.reduceEqDiff, Nat.reduceAdd, Nat.reduceSub, Nat.reduceMul, Int.reduceToNat, Int.reduceLT, Int.reduceLE, Int.reduceEq, Int.reduceAdd, Int.reduceSub, Int.reduceNeg, Int.reduceBEq, Int.reduceBNe, Int.reduceMul, reduceCtorEq, reduceIte, (show (k:Int) < L.length by omega), h, a_getD _ _ _ (show k < L.length by omega), bne_self_eq_false]
        repeat ((with_reducible refine And.intro ?_ ?_); (focus (first | omega | (simp only [List.length_take, List.length_drop, List.length_map, List.length_append, List.length_cons]; omega) | (refine (show quietOp _ = true from ?_); rfl) | (refine (show drawOk _ _ _ _ _ _ _ from Or.inl ?_); kernel_rfl) | (intros; simp_all; done))))
        refine weak_to [] [] rfl List.nodup_nil ?_ rfl
        simp only [zC, implies_true, Nat.reduceLT, Nat.reduceLeDiff, Nat.reduceEqDiff, Nat.reduceAdd, Nat.reduceSub, Nat.reduceMul, Int.reduceToNat, Int.reduceLT, Int.reduceLE, Int.reduceEq, Int.reduceAdd, Int.reduceSub, Int.reduceNeg, Int.reduceBEq, Int.reduceBNe, Int.reduceMul, reduceCtorEq, reduceIte, @a_wrap ((k:Int) + 1) (by omega)]
      · simp only [zC, implies_true, Nat.reduceLT, Nat.reduceLeDiff, Nat.reduceEqDiff, Nat.reduceAdd, Nat.reduceSub, Nat.reduceMul, Int.reduceToNat, Int.reduceLT, Int.reduceLE, Int.reduceEq, Int.reduceAdd, Int.reduceSub, Int.reduceNeg, Int.reduceBEq, Int.reduceBNe, Int.reduceMul, reduceCtorEq, reduceIte, (show ¬ (k:Int) < L.length by omega)]
        refine callF_pure k_lives ?_
        simp only [zC, implies_true, Nat.reduceLT, Nat.reduceLeDiff, Nat.reduceEqDiff, Nat.reduceAdd, Nat.reduceSub, Nat.reduceMul, Int.reduceToNat, Int.reduceLT, Int.reduceLE, Int.reduceEq, Int.reduceAdd, Int.reduceSub, Int.reduceNeg, Int.reduceBEq, Int.reduceBNe, Int.reduceMul, reduceCtorEq, reduceIte]
        exact ⟨_, _, ret_d, rfl, rfl⟩
theorem circles_main (xs : List D) (h : TypedAll Tryz.prog 5 Tryz.f4.params.toList xs) : ACalls Tryz.prog [] 4 (xs.map AV.d) [] (fun r _ => r = .d (.bool true)) := by
  rw [Tryz.params4] at h
  obtain ⟨x, _, rfl, h1, y, _, rfl, h2, rfl⟩ := h
  obtain ⟨t, rfl⟩ := parTrace h1
  obtain ⟨a, rfl, _⟩ := parInt h2
  exact (k_Circles t a []).mono fun r s h => h.1
theorem waitCircles_lifted (os : Os) (started : os.Started) (H : Type) (enc : TypeId × Value → H) :
    ReturnsInHanded {} Tryz.checked os 4 .any (Rows.waitCirclesSpec.pre6 enc Tryz.prog Tryz.f4 Rows.waitCirclesRow.domain false) (Rows.waitCirclesSpec.post enc Tryz.prog Tryz.f4 false true false false) := by
  refine returnsInHanded_of_change (C := Tryz.checked) own started (by kernel_rfl) Tryz.func4
    (ChangeSpec.witness6 (enc := enc) (C := Tryz.checked) false ⟨#[], #[.agg #[.int .i64 0, .int .i64 0, .slice none 0 0, .slice none 0 0, .slice none 0 0, .slice none 0 0, .slice none 0 0, .slice none 0 0, .slice none 0 0, .slice none 0 0], .int .i64 0], []⟩ 8 (by kernel_rfl) (by kernel_rfl) (by kernel_rfl) (by kernel_rfl)) ?_
  intro W base args ds gs before hval hW _ _
  exact law_contract (n := 5) (tb := 4) Tryz.func4 rfl rfl (by kernel_rfl) laidOut (by kernel_rfl) (by kernel_rfl) rfl
    (fun H ds h => by
      match ds, h with
      | [d1, d2], _ => rfl) circles_main W base args ds gs before hval hW
theorem waitCircles_holds : Rows.WaitCirclesSaid :=
  OpenClaim.holds_of_wide 4 Tryz.f4 rfl rfl rfl rfl rfl rfl rfl ⟨rfl, rfl, rfl, rfl, rfl⟩ rfl rfl rfl rfl rfl (by kernel_rfl) Tryz.func4 (by kernel_rfl)
    (of_decide_eq_true (by kernel_rfl)) (by unfold Func.isWrapper; first | (rw [if_pos (by decide +kernel)]; kernel_rfl) | (rw [if_neg (by decide +kernel)]; exact ⟨rfl, rfl⟩))
    (fun os started H enc _ => waitCircles_lifted os started H enc)
end YtccgdcmgjdhikaaGreat
end Go.Proofs
