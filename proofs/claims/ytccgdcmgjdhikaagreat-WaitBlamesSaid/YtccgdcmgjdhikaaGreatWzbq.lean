/- Proved: WaitBlamesSaid: for every input that can be read as data the law returns true and leaves its arguments as they were; no condition is added. -/
import Derived.Test.YtccgdcmgjdhikaaGreatWzbp
set_option linter.unusedVariables false
set_option linter.unusedSimpArgs false
set_option linter.unusedSectionVars false
set_option linter.unnecessarySimpa false
set_option linter.unusedSimpArgs false
set_option linter.unusedVariables false
set_option maxRecDepth 100000
namespace Go.Proofs
open Go.AM
namespace YtccgdcmgjdhikaaGreat
variable {Gl : Globs}
theorem blkF_bd2 {t : TraceT} (ht : t.Few) (h : traceF t = 0) (th on lo hi : Int) (h3 : okSpan lo hi = true) : 0 ≤ blkF th on lo hi t.states ∧ blkF th on lo hi t.states ≤ 1000000000000000000 := by
  have := blkF_bd (th := th) (on := on) t.states (fun s hs => (state_ok h hs).1) h3 t.states.length (Nat.le_refl _)
  rw [List.take_length] at this
  have := ht.states
  omega
theorem blF_pos {t : TraceT} (h : traceF t = 0) (th lo hi : Int) (h3 : okSpan lo hi = true) {p : Int × Int} (hp : p ∈ blF th lo hi t.states) : 0 ≤ p.1 := by
  have h1 := getB_mem (blF_srt th lo hi t.states) hp
  rw [getB_all] at h1
  have h2 := (blF_bd (th := th) (fun s hs => (state_ok h hs).1) h3 _ hp).1
  obtain ⟨s, s1, s2, s3⟩ := blkF_some th p.1 lo hi t.states t.states.length (Nat.le_refl _) (by rw [List.take_length, h1]; omega)
  have := fields_on (state_ok h s1).2 s2
  omega
theorem k_RBlame (t : TraceT) (ht : t.Few) (th lo hi : Int) : Pure Tryz.prog Gl 14 [.d t.toD, .d (.int .i64 th), .d (.agg [.int .i64 lo, .int .i64 hi])] (.tup [.d (.sl ((blameF t th lo hi).1.map pD)), .d (.int .i64 (blameF t th lo hi).2)]) := by
  refine Pure.of3t2 ?_
  have hts := ht.states
  obtain ⟨F, hF⟩ : ∃ F, F = blameF t th lo hi := ⟨_, rfl⟩
  rw [← hF]
  rw [blameF] at hF
  refine acalls_of Tryz.func14 rfl rfl (by simp [Tryz.ntmps14]) (evC_sound rfl _ _ _ _ ?_)
  simp only [Tryz.ntmps14, Tryz.results14, argEnv, List.length_nil]
  simp only [zC, seval, implies_true, Nat.reduceLeDiff, Nat.reduceEqDiff, reduceCtorEq, reduceIte]
  repeat ((with_reducible refine And.intro ?_ ?_); (focus (first | omega | (simp only [List.length_take, List.length_drop, List.length_map, List.length_append, List.length_cons]; omega) | (refine (show quietOp _ = true from ?_); rfl) | (refine (show drawOk _ _ _ _ _ _ _ from Or.inl ?_); kernel_rfl) | (intros; simp_all; done))))
  refine callF_pure (k_RtraceCheck t ht) ?_
  simp only [zC, seval, implies_true, Nat.reduceLeDiff, Nat.reduceEqDiff, reduceCtorEq, reduceIte]
  refine ifC.mk (fun h1 => ?_) (fun h1 => ?_)
  · have h1 := bne_iff_ne.1 h1
    rw [if_pos h1] at hF
    refine ⟨_, _, ret_tdata rfl rfl, ?_, rfl⟩
    rw [hF]; rfl
  have h1 : traceF t = 0 := by simpa using h1
  rw [if_neg (by rw [h1]; simp)] at hF
  refine callF_pure (k_RHas t ht th) ?_
  simp only [zC, seval, implies_true, Nat.reduceLeDiff, Nat.reduceEqDiff, reduceCtorEq, reduceIte]
  refine ifC.mk (fun h2 => ?_) (fun h2 => ?_)
  · rw [if_pos (by simpa using h2)] at hF
    refine ⟨_, _, ret_tdata rfl rfl, ?_, rfl⟩
    rw [hF]; rfl
  rw [if_neg (by simpa using h2)] at hF
  repeat ((with_reducible refine And.intro ?_ ?_); (focus (first | omega | (simp only [List.length_take, List.length_drop, List.length_map, List.length_append, List.length_cons]; omega) | (refine (show quietOp _ = true from ?_); rfl) | (refine (show drawOk _ _ _ _ _ _ _ from Or.inl ?_); kernel_rfl) | (intros; simp_all; done))))
  refine callF_pure (k_RValid _ _) ?_
  simp only [zC, seval, implies_true, Nat.reduceLeDiff, Nat.reduceEqDiff, reduceCtorEq, reduceIte]
  refine ifC.mk (fun h3 => ?_) (fun h3 => ?_)
  · rw [if_pos (by simpa using h3)] at hF
    refine ⟨_, _, ret_tdata rfl rfl, ?_, rfl⟩
    rw [hF]; rfl
  have h3 : okSpan lo hi = true := by simpa using h3
  rw [if_neg (by rw [h3]; simp)] at hF
  repeat ((with_reducible refine And.intro ?_ ?_); (focus (first | omega | (simp only [List.length_take, List.length_drop, List.length_map, List.length_append, List.length_cons]; omega) | (refine (show quietOp _ = true from ?_); rfl) | (refine (show drawOk _ _ _ _ _ _ _ from Or.inl ?_); kernel_rfl) | (intros; simp_all; done))))
  have hst : ∀ s ∈ t.states, okSpan s.lo s.hi = true := fun s hs => (state_ok h1 hs).1
  have hna := fun i (hj : i ≤ (blF th lo hi t.states).length) => next_at h1 th lo hi h3 hj
  have hba := fun i (hj : i < (blF th lo hi t.states).length) => blk_at t th lo hi hj
  have hlen := blF_len th lo hi t.states
  obtain ⟨L, hL⟩ : ∃ L, L = blF th lo hi t.states := ⟨_, rfl⟩
  rw [← hL] at hna hba hlen hF
  refine for_of t.states.length (fun k => [(1, .d (.int .i64 th)), (3, .ptr 0 0), (5, .ptr 1 0), (9, .osl 2 0 (L.take k).length), (10, .d (.int .i64 (lastI2 L k))), (11, .d (.int .i64 k))]) (fun k => [.box 10 (.d t.toD), .box 2 (.d (.agg [.int .i64 lo, .int .i64 hi])), .arr 2 ((L.take k).map pD)]) (fun k => k ≤ L.length) (by omega) ?_ ?_
  · refine (weak_nils 9 2 rfl).trans ?_
    refine weak_to [] [0, 1, 2] rfl (by simp) ?_ ?_
    · simp only [zC, seval, implies_true, Nat.reduceLeDiff, Nat.reduceEqDiff, reduceCtorEq, reduceIte, Int.cast_ofNat_Int]
      all_goals rfl
    · rfl
  · intro k hkL hk
    have htk : (L.take k).length = k := by rw [List.length_take]; omega
    by_cases h : k < t.states.length
    · have hn := hna k hkL
      obtain ⟨last, hlast⟩ : ∃ last, last = lastI2 L k := ⟨_, rfl⟩
      rw [← hlast] at hn ⊢
      simp only [zC, seval, implies_true, Nat.reduceLeDiff, Nat.reduceEqDiff, reduceCtorEq, reduceIte, htk, (show (k:Int) < t.states.length by omega)]
      repeat ((with_reducible refine And.intro ?_ ?_); (focus (first | omega | (simp only [List.length_take, List.length_drop, List.length_map, List.length_append, List.length_cons]; omega) | (refine (show quietOp _ = true from ?_); rfl) | (refine (show drawOk _ _ _ _ _ _ _ from Or.inl ?_); kernel_rfl) | (intros; simp_all; done))))
      refine for_of t.states.length (fun j => [(1, .d (.int .i64 th)), (3, .ptr 0 0), (5, .ptr 1 0), (9, .osl 2 0 k), (10, .d (.int .i64 last)), (11, .d (.int .i64 k)), (12, .d (.int .i64 (nextW (fun on => blkF th on lo hi t.states) last (t.states.take j)))), (13, .d (.int .i64 j))]) (fun _ => [.box 10 (.d t.toD), .box 2 (.d (.agg [.int .i64 lo, .int .i64 hi])), .arr 2 ((L.take k).map pD)]) (fun _ => True) trivial ?_ ?_
      · refine weak_to [] [0, 1, 2] rfl (by simp) ?_ rfl
        simp only [zC, seval, implies_true, Nat.reduceLeDiff, Nat.reduceEqDiff, reduceCtorEq, reduceIte, Int.cast_ofNat_Int]
        all_goals rfl
      · intro j _ hj
        by_cases g : j < t.states.length
        · have hstep := nextW_step (fun on => blkF th on lo hi t.states) last t.states g
          obtain ⟨s, hs⟩ : ∃ s, s = t.states.getD j default := ⟨_, rfl⟩
          have hg : (List.map StateT.toD t.states).getD j default = s.toD := by rw [hs]; simp [g]
          rw [← hs] at hstep
          obtain ⟨nx, hnx⟩ : ∃ nx, nx = nextW (fun on => blkF th on lo hi t.states) last (t.states.take j) := ⟨_, rfl⟩
          rw [← hnx] at hstep ⊢
          simp only [zC, seval, implies_true, Nat.reduceLeDiff, Nat.reduceEqDiff, reduceCtorEq, reduceIte, (show (j:Int) < t.states.length by omega), g, hg]
          repeat ((with_reducible refine And.intro ?_ ?_); (focus (first | omega | (simp only [List.length_take, List.length_drop, List.length_map, List.length_append, List.length_cons]; omega) | (refine (show quietOp _ = true from ?_); rfl) | (refine (show drawOk _ _ _ _ _ _ _ from Or.inl ?_); kernel_rfl) | (intros; simp_all; done))))
          refine callG_pure (v := .d (.int .i64 (blkF th s.on_ lo hi t.states))) (fun _ => k_blocked t ht hst th s.on_ lo hi h3) ?_
          simp only [zC, seval, implies_true, Nat.reduceLeDiff, Nat.reduceEqDiff, reduceCtorEq, reduceIte]
          refine ifC.mk (fun hc => ?_) (fun hc => ?_)
          · have e : nextS (fun on => blkF th on lo hi t.states) last nx s = s.on_ := by unfold nextS okN2; rw [if_pos hc]
            rw [hstep, e]
            refine weak_to [] [0, 1, 2] rfl (by simp) ?_ rfl
            simp only [zC, seval, implies_true, Nat.reduceLeDiff, Nat.reduceEqDiff, reduceCtorEq, reduceIte, @a_wrap ((j:Int) + 1) (by omega)]
            all_goals rfl
          · have e : nextS (fun on => blkF th on lo hi t.states) last nx s = nx := by unfold nextS okN2; rw [if_neg (by rw [hc]; simp)]
            rw [hstep, e]
            refine weak_to [] [0, 1, 2] rfl (by simp) ?_ rfl
            simp only [zC, seval, implies_true, Nat.reduceLeDiff, Nat.reduceEqDiff, reduceCtorEq, reduceIte, @a_wrap ((j:Int) + 1) (by omega)]
            all_goals rfl
        · have : j = t.states.length := by omega
          subst this
          rw [List.take_length, hn]
          by_cases hkl : k < L.length
          · rw [if_pos hkl]
            have hp := (hba k hkl)
            have hpb := blkF_bd2 ht h1 th (L.getD k default).1 lo hi h3
            have hneg : ¬ (L.getD k default).1 < 0 := by
              rw [if_pos hkl] at hn
              have hm := mem_getD hkl
              have := blF_pos h1 th lo hi h3 (p := L.getD k default) (by rw [← hL]; exact hm)
              omega
            have htk1 : L.take (k + 1) = L.take k ++ [L.getD k default] := by rw [List.take_add_one, List.getElem?_eq_getElem hkl]; simp [hkl]
            have hl1 : lastI2 L (k + 1) = (L.getD k default).1 := rfl
            simp only [zC, seval, implies_true, Nat.reduceLeDiff, Nat.reduceEqDiff, reduceCtorEq, reduceIte, (show ¬ (t.states.length:Int) < t.states.length by omega), hneg]
            repeat ((with_reducible refine And.intro ?_ ?_); (focus (first | omega | (simp only [List.length_take, List.length_drop, List.length_map, List.length_append, List.length_cons]; omega) | (refine (show quietOp _ = true from ?_); rfl) | (refine (show drawOk _ _ _ _ _ _ _ from Or.inl ?_); kernel_rfl) | (intros; simp_all; done))))
            refine callF_pure (k_blocked t ht hst th _ lo hi h3) ?_
            rw [hp]
            simp only [zC, seval, implies_true, Nat.reduceLeDiff, Nat.reduceEqDiff, reduceCtorEq, reduceIte]
            repeat ((with_reducible refine And.intro ?_ ?_); (focus (first | omega | (simp only [List.length_take, List.length_drop, List.length_map, List.length_append, List.length_cons]; omega) | (refine (show quietOp _ = true from ?_); rfl) | (refine (show drawOk _ _ _ _ _ _ _ from Or.inl ?_); kernel_rfl) | (intros; simp_all; done))))
            refine weak_to [] [0, 1, 4] rfl (by simp) ?_ ?_
            · rw [hl1, htk1, List.length_append, htk]
              simp only [zC, seval, implies_true, Nat.reduceLeDiff, Nat.reduceEqDiff, reduceCtorEq, reduceIte, @a_wrap ((k:Int) + 1) (by omega)]
              all_goals rfl
            · refine (congrArg (fun z => [Blk.box 10 (.d t.toD), Blk.box 2 (.d (.agg [.int .i64 lo, .int .i64 hi])), Blk.arr 2 z]) ?_ : [_, _, Blk.arr 2 _] = [_, _, Blk.arr 2 _])
              rw [htk1, List.map_append, List.take_of_length_le (by simp; omega)]; rfl
          · rw [if_neg hkl]
            simp only [zC, seval, implies_true, Nat.reduceLeDiff, Nat.reduceEqDiff, reduceCtorEq, reduceIte, (show ¬ (t.states.length:Int) < t.states.length by omega), Int.cast_ofNat_Int]
            have hkL2 : k = L.length := by omega
            refine ⟨_, _, ret_tdata rfl rfl, ?_, rfl⟩
            rw [hF, hkL2, List.take_length]
            simp only [zC, seval, implies_true, Nat.reduceLeDiff, Nat.reduceEqDiff, reduceCtorEq, reduceIte, take_all]
    · simp only [zC, seval, implies_true, Nat.reduceLeDiff, Nat.reduceEqDiff, reduceCtorEq, reduceIte, (show ¬ (k:Int) < t.states.length by omega)]
      have hkL2 : k = L.length := by omega
      subst hkL2
      rw [List.take_length]
      refine ⟨_, _, ret_tdata rfl rfl, ?_, rfl⟩
      rw [hF]
      simp only [zC, seval, implies_true, Nat.reduceLeDiff, Nat.reduceEqDiff, reduceCtorEq, reduceIte, take_all]
set_option maxHeartbeats 2000000 in
theorem k_Blames (t : TraceT) (th lo hi : Int) : Pure Tryz.prog Gl 5 [.d t.toD, .d (.int .i64 th), .d (.agg [.int .i64 lo, .int .i64 hi])] (.d (.bool true)) := by
  refine Pure.of3 ?_
  refine acalls_of Tryz.func5 rfl rfl (by simp [Tryz.ntmps5]) (evC_sound rfl _ _ _ _ ?_)
  simp only [Tryz.ntmps5, Tryz.results5, argEnv, List.length_nil]
  simp only [zC, seval, implies_true, Nat.reduceLeDiff, Nat.reduceEqDiff, reduceCtorEq, reduceIte]
  repeat ((with_reducible refine And.intro ?_ ?_); (focus (first | omega | (simp only [List.length_take, List.length_drop, List.length_map, List.length_append, List.length_cons]; omega) | (refine (show quietOp _ = true from ?_); rfl) | (refine (show drawOk _ _ _ _ _ _ _ from Or.inl ?_); kernel_rfl) | (intros; simp_all; done))))
  refine callF_pure (k_few t) ?_
  simp only [zC, seval, implies_true, Nat.reduceLeDiff, Nat.reduceEqDiff, reduceCtorEq, reduceIte]
  refine ifC.mk (fun hf => ?_) (fun hf => ?_)
  · refine callF_pure k_lives ?_
    simp only [zC, seval, implies_true, Nat.reduceLeDiff, Nat.reduceEqDiff, reduceCtorEq, reduceIte]
    exact ⟨_, _, ret_d, rfl, rfl⟩
  · have hf : fewF t = true := by simpa using hf
    have ht := few_few hf
    have hts := ht.states
    refine callF_pure (k_Blame t ht (fun h s hs => (state_ok h hs).1) th lo hi) ?_
    simp only [zC, seval, implies_true, Nat.reduceLeDiff, Nat.reduceEqDiff, reduceCtorEq, reduceIte]
    refine callF_pure (k_RBlame t ht th lo hi) ?_
    obtain ⟨L, hL⟩ : ∃ L, L = (blameF t th lo hi).1 := ⟨_, rfl⟩
    obtain ⟨e, he⟩ : ∃ e, e = (blameF t th lo hi).2 := ⟨_, rfl⟩
    rw [← hL, ← he]
    have hlen : L.length ≤ t.states.length := by
      rw [hL, blameF]
      split
      · simp
      · split
        · simp
        · split
          · simp
          · exact blF_len _ _ _ _
    simp only [zC, seval, implies_true, Nat.reduceLeDiff, Nat.reduceEqDiff, reduceCtorEq, reduceIte, bne_self_eq_false]
    repeat ((with_reducible refine And.intro ?_ ?_); (focus (first | omega | (simp only [List.length_take, List.length_drop, List.length_map, List.length_append, List.length_cons]; omega) | (refine (show quietOp _ = true from ?_); rfl) | (refine (show drawOk _ _ _ _ _ _ _ from Or.inl ?_); kernel_rfl) | (intros; simp_all; done))))
    refine for_of L.length (fun k => [(7, .d (.sl (L.map pD))), (9, .d (.sl (L.map pD))), (11, .d (.int .i64 k))]) (fun _ => []) (fun _ => True) trivial ?_ ?_
    · refine weak_to [] [] rfl List.nodup_nil ?_ rfl
      simp only [zC, seval, implies_true, Nat.reduceLeDiff, Nat.reduceEqDiff, reduceCtorEq, reduceIte, Int.cast_ofNat_Int]
    · intro k _ hk
      by_cases h : k < L.length
      · have hg : (List.map pD L).getD k default = pD (L.getD k default) := by simp [h]
        simp only [zC, seval, implies_true, Nat.reduceLeDiff, Nat.reduceEqDiff, reduceCtorEq, reduceIte, (show (k:Int) < L.length by omega), h, hg, pD, bne_self_eq_false]
        repeat ((with_reducible refine And.intro ?_ ?_); (focus (first | omega | (simp only [List.length_take, List.length_drop, List.length_map, List.length_append, List.length_cons]; omega) | (refine (show quietOp _ = true from ?_); rfl) | (refine (show drawOk _ _ _ _ _ _ _ from Or.inl ?_); kernel_rfl) | (intros; simp_all; done))))
        simp only [zC, seval, implies_true, Nat.reduceLeDiff, Nat.reduceEqDiff, reduceCtorEq, reduceIte, beq_self_eq_true, Bool.and_self, Bool.not_true]
        refine weak_to [] [] rfl List.nodup_nil ?_ rfl
        simp only [zC, seval, implies_true, Nat.reduceLeDiff, Nat.reduceEqDiff, reduceCtorEq, reduceIte, @a_wrap ((k:Int) + 1) (by omega)]
      · simp only [zC, seval, implies_true, Nat.reduceLeDiff, Nat.reduceEqDiff, reduceCtorEq, reduceIte, (show ¬ (k:Int) < L.length by omega)]
        refine callF_pure k_lives ?_
        simp only [zC, seval, implies_true, Nat.reduceLeDiff, Nat.reduceEqDiff, reduceCtorEq, reduceIte]
        exact ⟨_, _, ret_d, rfl, rfl⟩
theorem blames_main (xs : List D) (h : TypedAll Tryz.prog 5 Tryz.f5.params.toList xs) : ACalls Tryz.prog [] 5 (xs.map AV.d) [] (fun r _ => r = .d (.bool true)) := by
  rw [Tryz.params5] at h
  obtain ⟨x, _, rfl, h1, y, _, rfl, h2, z, _, rfl, h3, rfl⟩ := h
  obtain ⟨t, rfl⟩ := parTrace h1
  obtain ⟨a, rfl, _⟩ := parInt h2
  obtain ⟨b, c, rfl⟩ := parSpan h3
  exact (k_Blames t a b c []).mono fun r s h => h.1
theorem waitBlames_lifted (os : Os) (started : os.Started) (H : Type) (enc : TypeId × Value → H) :
    ReturnsInHanded {} Tryz.checked os 5 .any (Rows.waitBlamesSpec.pre6 enc Tryz.prog Tryz.f5 Rows.waitBlamesRow.domain false) (Rows.waitBlamesSpec.post enc Tryz.prog Tryz.f5 false true false false) := by
  refine returnsInHanded_of_change (C := Tryz.checked) own started (by kernel_rfl) Tryz.func5
    (ChangeSpec.witness6 (enc := enc) (C := Tryz.checked) false ⟨#[], #[.agg #[.int .i64 0, .int .i64 0, .slice none 0 0, .slice none 0 0, .slice none 0 0, .slice none 0 0, .slice none 0 0, .slice none 0 0, .slice none 0 0, .slice none 0 0], .int .i64 0, .agg #[.int .i64 0, .int .i64 0]], []⟩ 8 (by kernel_rfl) (by kernel_rfl) (by kernel_rfl) (by kernel_rfl)) ?_
  intro W base args ds gs before hval hW _ _
  exact law_contract (n := 5) (tb := 4) Tryz.func5 rfl rfl (by kernel_rfl) laidOut (by kernel_rfl) (by kernel_rfl) rfl
    (fun H ds h => by
      match ds, h with
      | [d1, d2, d3], _ => rfl) blames_main W base args ds gs before hval hW
theorem waitBlames_holds : Rows.WaitBlamesSaid :=
  OpenClaim.holds_of_wide 5 Tryz.f5 rfl rfl rfl rfl rfl rfl rfl ⟨rfl, rfl, rfl, rfl, rfl⟩ rfl rfl rfl rfl rfl (by kernel_rfl) Tryz.func5 (by kernel_rfl)
    (of_decide_eq_true (by kernel_rfl)) (by unfold Func.isWrapper; first | (rw [if_pos (by decide +kernel)]; kernel_rfl) | (rw [if_neg (by decide +kernel)]; exact ⟨rfl, rfl⟩))
    (fun os started H enc _ => waitBlames_lifted os started H enc)
end YtccgdcmgjdhikaaGreat
end Go.Proofs
