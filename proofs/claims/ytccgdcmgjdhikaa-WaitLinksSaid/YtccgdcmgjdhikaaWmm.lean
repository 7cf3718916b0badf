/- Proved: WaitLinksSaid: for every input that can be read as data the law returns true and leaves its arguments as they were; no condition is added. -/
import Derived.Test.YtccgdcmgjdhikaaWml
set_option linter.unusedVariables false
set_option linter.unusedSimpArgs false
set_option linter.unusedSectionVars false
set_option linter.unnecessarySimpa false
set_option linter.unusedSimpArgs false
set_option linter.unusedVariables false
set_option maxRecDepth 100000
namespace Go.Proofs
open Go.AM Go.ChangeShapes Go.WideShapes Go.ChangeAt Go.RowKit
namespace Ytccgdcmgjdhikaa
variable {Gl : Globs}

theorem atS_spec {l : List StateT} {th a : Int} {s : StateT} (h : atS l th a = some s) : s.thread = th ∧ s.lo ≤ a ∧ a < s.hi := by
  have := List.find?_some h
  unfold atB at this
  simp only [Bool.and_eq_true, beq_iff_eq, decide_eq_true_eq] at this
  exact ⟨this.1.1, this.1.2, this.2⟩
set_option maxHeartbeats 2000000 in
theorem k_Links (t : TraceT) (th a : Int) : Pure Try.prog Gl 3 [.d t.toD, .d (.int .i64 th), .d (.int .i64 a)] (.d (.bool true)) := by
  refine Pure.of3 ?_
  refine acalls_of Try.func3 rfl rfl (by simp [Try.ntmps3]) (evC_sound rfl _ _ _ _ ?_)
  simp only [Try.ntmps3, Try.results3, argEnv, List.length_nil]
  simp only [vcRules, dRules, bRules, tyRules, xRules, pickV_true, pickV_false, implies_true, Nat.reduceLT, Nat.reduceLeDiff, Nat.reduceEqDiff, Nat.reduceAdd, Nat.reduceSub, Nat.reduceMul, Int.reduceToNat, Int.reduceLT, Int.reduceLE, Int.reduceEq, Int.reduceAdd, Int.reduceSub, Int.reduceNeg, Int.reduceBEq, Int.reduceBNe, Int.reduceMul, Int.natCast_add, Int.natCast_one, reduceCtorEq, reduceIte, bytes_lit, h_isAgg, h_cells, l_isAgg, l_cells, u_isAgg, u_cells, f_isAgg, f_cells, m_isAgg, m_cells, p_isAgg, p_cells, b_isAgg, b_cells, o_isAgg, o_cells, q_isAgg, q_cells, r_isAgg, r_cells, yRules, cm, g_makeFunc]
  repeat ((with_reducible refine And.intro ?_ ?_); (focus (first | omega | (simp only [List.length_take, List.length_drop, List.length_map, List.length_append, List.length_cons]; omega) | (refine (show quietOp _ = true from ?_); rfl) | (refine (show drawOk _ _ _ _ _ _ _ from Or.inl ?_); kernel_rfl) | (intros; simp_all; done))))
  refine callF_pure (k_few t) ?_
  simp only [vcRules, dRules, bRules, tyRules, xRules, pickV_true, pickV_false, implies_true, Nat.reduceLT, Nat.reduceLeDiff, Nat.reduceEqDiff, Nat.reduceAdd, Nat.reduceSub, Nat.reduceMul, Int.reduceToNat, Int.reduceLT, Int.reduceLE, Int.reduceEq, Int.reduceAdd, Int.reduceSub, Int.reduceNeg, Int.reduceBEq, Int.reduceBNe, Int.reduceMul, Int.natCast_add, Int.natCast_one, reduceCtorEq, reduceIte, bytes_lit, h_isAgg, h_cells, l_isAgg, l_cells, u_isAgg, u_cells, f_isAgg, f_cells, m_isAgg, m_cells, p_isAgg, p_cells, b_isAgg, b_cells, o_isAgg, o_cells, q_isAgg, q_cells, r_isAgg, r_cells, yRules, cm, g_makeFunc]
  refine ifC.mk (fun hf => ?_) (fun hf => ?_)
  · refine callF_pure k_lives ?_
    simp only [vcRules, dRules, bRules, tyRules, xRules, pickV_true, pickV_false, implies_true, Nat.reduceLT, Nat.reduceLeDiff, Nat.reduceEqDiff, Nat.reduceAdd, Nat.reduceSub, Nat.reduceMul, Int.reduceToNat, Int.reduceLT, Int.reduceLE, Int.reduceEq, Int.reduceAdd, Int.reduceSub, Int.reduceNeg, Int.reduceBEq, Int.reduceBNe, Int.reduceMul, Int.natCast_add, Int.natCast_one, reduceCtorEq, reduceIte, bytes_lit, h_isAgg, h_cells, l_isAgg, l_cells, u_isAgg, u_cells, f_isAgg, f_cells, m_isAgg, m_cells, p_isAgg, p_cells, b_isAgg, b_cells, o_isAgg, o_cells, q_isAgg, q_cells, r_isAgg, r_cells, yRules, cm, g_makeFunc]
    exact ⟨_, _, ret_d, rfl, rfl⟩
  · have hf : fewF t = true := by simpa using hf
    have ht := few_few hf
    refine callF_pure (k_Chain t ht th a) ?_
    obtain ⟨L, hL⟩ : ∃ L, L = (chainF t th a).1 := ⟨_, rfl⟩
    obtain ⟨e, he⟩ : ∃ e, e = (chainF t th a).2 := ⟨_, rfl⟩
    rw [← hL, ← he]
    have hcases : (e ≠ 0 ∧ L = []) ∨ (e = 0 ∧ L = (followF t th a).map (hopF t a) ∧ FollowOk t a th (followF t th a)) := by
      rw [he, hL, chainF]
      by_cases h1 : traceF t ≠ 0
      · rw [if_pos h1]; exact .inl ⟨h1, rfl⟩
      · rw [if_neg h1]
        by_cases h2 : hasT t.threads th = false
        · rw [if_pos h2]; exact .inl ⟨by simp, rfl⟩
        · rw [if_neg h2]
          by_cases h3 : (atS t.states th a).isSome = false
          · rw [if_pos h3]; exact .inl ⟨by simp, rfl⟩
          · rw [if_neg h3]
            have h3 : (atS t.states th a).isSome = true := by
              cases hq : (atS t.states th a).isSome
              · exact absurd hq h3
              · rfl
            exact .inr ⟨rfl, rfl, follow_good h3⟩
    rcases hcases with ⟨h0, rfl⟩ | ⟨rfl, hL2, hok⟩
    · have h0b : (e != 0) = true := by simpa using h0
      simp only [vcRules, dRules, bRules, tyRules, xRules, pickV_true, pickV_false, implies_true, Nat.reduceLT, Nat.reduceLeDiff, Nat.reduceEqDiff, Nat.reduceAdd, Nat.reduceSub, Nat.reduceMul, Int.reduceToNat, Int.reduceLT, Int.reduceLE, Int.reduceEq, Int.reduceAdd, Int.reduceSub, Int.reduceNeg, Int.reduceBEq, Int.reduceBNe, Int.reduceMul, Int.natCast_add, Int.natCast_one, reduceCtorEq, reduceIte, bytes_lit, h_isAgg, h_cells, l_isAgg, l_cells, u_isAgg, u_cells, f_isAgg, f_cells, m_isAgg, m_cells, p_isAgg, p_cells, b_isAgg, b_cells, o_isAgg, o_cells, q_isAgg, q_cells, r_isAgg, r_cells, yRules, cm, g_makeFunc, h0b]
      refine callG_pure (fun _ => k_lives) ?_
      simp only [vcRules, dRules, bRules, tyRules, xRules, pickV_true, pickV_false, implies_true, Nat.reduceLT, Nat.reduceLeDiff, Nat.reduceEqDiff, Nat.reduceAdd, Nat.reduceSub, Nat.reduceMul, Int.reduceToNat, Int.reduceLT, Int.reduceLE, Int.reduceEq, Int.reduceAdd, Int.reduceSub, Int.reduceNeg, Int.reduceBEq, Int.reduceBNe, Int.reduceMul, Int.natCast_add, Int.natCast_one, reduceCtorEq, reduceIte, bytes_lit, h_isAgg, h_cells, l_isAgg, l_cells, u_isAgg, u_cells, f_isAgg, f_cells, m_isAgg, m_cells, p_isAgg, p_cells, b_isAgg, b_cells, o_isAgg, o_cells, q_isAgg, q_cells, r_isAgg, r_cells, yRules, cm, g_makeFunc]
      exact ⟨_, _, ret_d, rfl, rfl⟩
    · have hlen2 := followF_len t th a
      have hth := ht.threads
      obtain ⟨xs, hxs⟩ : ∃ xs, xs = followF t th a := ⟨_, rfl⟩
      rw [← hxs] at hok hL2 hlen2
      have hlen : L.length = xs.length := by rw [hL2, List.length_map]
      have hpos := hok.pos
      have hget : ∀ k, k < L.length → L.getD k default = hopF t a (xs.getD k default) := fun k hk => by
        rw [hL2] at hk ⊢
        rw [List.length_map] at hk
        simp [hk]
      have g0 : (L.getD 0 default).thread = th := by rw [hget 0 (by omega)]; exact hok.hd
      simp only [vcRules, dRules, bRules, tyRules, xRules, pickV_true, pickV_false, implies_true, Nat.reduceLT, Nat.reduceLeDiff, Nat.reduceEqDiff, Nat.reduceAdd, Nat.reduceSub, Nat.reduceMul, Int.reduceToNat, Int.reduceLT, Int.reduceLE, Int.reduceEq, Int.reduceAdd, Int.reduceSub, Int.reduceNeg, Int.reduceBEq, Int.reduceBNe, Int.reduceMul, Int.natCast_add, Int.natCast_one, reduceCtorEq, reduceIte, bytes_lit, h_isAgg, h_cells, l_isAgg, l_cells, u_isAgg, u_cells, f_isAgg, f_cells, m_isAgg, m_cells, p_isAgg, p_cells, b_isAgg, b_cells, o_isAgg, o_cells, q_isAgg, q_cells, r_isAgg, r_cells, yRules, cm, g_makeFunc, a_eq_f (show ¬ ((L.length : Int) = 0) by omega), Int.cast_ofNat_Int, (show (0:Int) < L.length by omega), (show 0 < L.length by omega), a_getD _ _ _ (show 0 < L.length by omega), g0, bne_self_eq_false]
      repeat ((with_reducible refine And.intro ?_ ?_); (focus (first | omega | (simp only [List.length_take, List.length_drop, List.length_map, List.length_append, List.length_cons]; omega) | (refine (show quietOp _ = true from ?_); rfl) | (refine (show drawOk _ _ _ _ _ _ _ from Or.inl ?_); kernel_rfl) | (intros; simp_all; done))))
      refine for_of L.length (fun k => [(2, .d (.int .i64 a)), (3, .ptr 0 0), (7, .d (.sl (L.map HopT.toD))), (9, .d (.int .i64 k))]) (fun _ => [.box 10 (.d t.toD)]) (fun _ => True) trivial ?_ ?_
      · refine weak_to [] [0] rfl (by simp) ?_ rfl
        simp only [vcRules, dRules, bRules, tyRules, xRules, pickV_true, pickV_false, implies_true, Nat.reduceLT, Nat.reduceLeDiff, Nat.reduceEqDiff, Nat.reduceAdd, Nat.reduceSub, Nat.reduceMul, Int.reduceToNat, Int.reduceLT, Int.reduceLE, Int.reduceEq, Int.reduceAdd, Int.reduceSub, Int.reduceNeg, Int.reduceBEq, Int.reduceBNe, Int.reduceMul, Int.natCast_add, Int.natCast_one, reduceCtorEq, reduceIte, bytes_lit, h_isAgg, h_cells, l_isAgg, l_cells, u_isAgg, u_cells, f_isAgg, f_cells, m_isAgg, m_cells, p_isAgg, p_cells, b_isAgg, b_cells, o_isAgg, o_cells, q_isAgg, q_cells, r_isAgg, r_cells, yRules, cm, g_makeFunc, Int.cast_ofNat_Int]
        all_goals rfl
      · intro k _ hk
        by_cases h : k < L.length
        · have hS := hok.at_ k (by omega)
          obtain ⟨x, hx⟩ : ∃ x, x = xs.getD k default := ⟨_, rfl⟩
          rw [← hx] at hS
          obtain ⟨s, hs⟩ := Option.isSome_iff_exists.1 hS
          obtain ⟨s1, s2, s3⟩ := atS_spec hs
          have hg : L.getD k default = ⟨x, s.state, s.lo, s.hi⟩ := by rw [hget k h, ← hx]; unfold hopF; rw [hs]; rfl
          simp only [vcRules, dRules, bRules, tyRules, xRules, pickV_true, pickV_false, implies_true, Nat.reduceLT, Nat.reduceLeDiff, Nat.reduceEqDiff, Nat.reduceAdd, Nat.reduceSub, Nat.reduceMul, Int.reduceToNat, Int.reduceLT, Int.reduceLE, Int.reduceEq, Int.reduceAdd, Int.reduceSub, Int.reduceNeg, Int.reduceBEq, Int.reduceBNe, Int.reduceMul, Int.natCast_add, Int.natCast_one, reduceCtorEq, reduceIte, bytes_lit, h_isAgg, h_cells, l_isAgg, l_cells, u_isAgg, u_cells, f_isAgg, f_cells, m_isAgg, m_cells, p_isAgg, p_cells, b_isAgg, b_cells, o_isAgg, o_cells, q_isAgg, q_cells, r_isAgg, r_cells, yRules, cm, g_makeFunc, (show (k:Int) < L.length by omega), h, a_getD _ _ _ (show k < L.length by omega), hg]
          repeat ((with_reducible refine And.intro ?_ ?_); (focus (first | omega | (simp only [List.length_take, List.length_drop, List.length_map, List.length_append, List.length_cons]; omega) | (refine (show quietOp _ = true from ?_); rfl) | (refine (show drawOk _ _ _ _ _ _ _ from Or.inl ?_); kernel_rfl) | (intros; simp_all; done))))
          refine callF_pure (k_At _ _ _ ht.states) ?_
          rw [hs]
          by_cases h4 : k + 1 < L.length
          · obtain ⟨n1, n2⟩ := hok.nx k (by omega)
            obtain ⟨y, hy⟩ : ∃ y, y = xs.getD (k + 1) default := ⟨_, rfl⟩
            rw [← hx, ← hy] at n2
            rw [← hx] at n1
            unfold nextF at n1 n2
            rw [hs] at n1 n2
            simp only [Option.getD_some, Option.isSome_some, Bool.true_and, Bool.and_eq_true, beq_iff_eq] at n1 n2
            have hg2 : L.getD (k + 1) default = hopF t a y := by rw [hget (k + 1) h4, ← hy]
            have hyt : (hopF t a y).thread = y := rfl
            have e3 : ((k:Int) + 1).toNat = k + 1 := by omega
            simp only [vcRules, dRules, bRules, tyRules, xRules, pickV_true, pickV_false, implies_true, Nat.reduceLT, Nat.reduceLeDiff, Nat.reduceEqDiff, Nat.reduceAdd, Nat.reduceSub, Nat.reduceMul, Int.reduceToNat, Int.reduceLT, Int.reduceLE, Int.reduceEq, Int.reduceAdd, Int.reduceSub, Int.reduceNeg, Int.reduceBEq, Int.reduceBNe, Int.reduceMul, Int.natCast_add, Int.natCast_one, reduceCtorEq, reduceIte, bytes_lit, h_isAgg, h_cells, l_isAgg, l_cells, u_isAgg, u_cells, f_isAgg, f_cells, m_isAgg, m_cells, p_isAgg, p_cells, b_isAgg, b_cells, o_isAgg, o_cells, q_isAgg, q_cells, r_isAgg, r_cells, yRules, cm, g_makeFunc, Option.getD_some, Option.isSome_some, Bool.not_true, bne_self_eq_false, beq_self_eq_true, (show (k:Int) < L.length by omega), h, a_getD _ _ _ (show k < L.length by omega), hg, (show ¬ a < s.lo by omega), (show ¬ s.hi ≤ a by omega), (show (k:Int) + 1 < L.length by omega), @a_wrap ((k:Int) + 1) (by omega), e3, (show (0:Int) ≤ (k:Int) + 1 by omega), (show k + 1 < L.length by omega), a_getD _ _ _ (show k + 1 < L.length by omega), hg2, hyt, n1.1, n2]
            repeat ((with_reducible refine And.intro ?_ ?_); (focus (first | omega | (simp only [List.length_take, List.length_drop, List.length_map, List.length_append, List.length_cons]; omega) | (refine (show quietOp _ = true from ?_); rfl) | (refine (show drawOk _ _ _ _ _ _ _ from Or.inl ?_); kernel_rfl) | (intros; simp_all; done))))
            refine for_of k (fun j => [(2, .d (.int .i64 a)), (3, .ptr 0 0), (7, .d (.sl (L.map HopT.toD))), (9, .d (.int .i64 k)), (12, .d (.int .i64 j))]) (fun _ => [.box 10 (.d t.toD)]) (fun _ => True) trivial ?_ ?_
            · refine weak_to [] [0] rfl (by simp) ?_ rfl
              simp only [vcRules, dRules, bRules, tyRules, xRules, pickV_true, pickV_false, implies_true, Nat.reduceLT, Nat.reduceLeDiff, Nat.reduceEqDiff, Nat.reduceAdd, Nat.reduceSub, Nat.reduceMul, Int.reduceToNat, Int.reduceLT, Int.reduceLE, Int.reduceEq, Int.reduceAdd, Int.reduceSub, Int.reduceNeg, Int.reduceBEq, Int.reduceBNe, Int.reduceMul, Int.natCast_add, Int.natCast_one, reduceCtorEq, reduceIte, bytes_lit, h_isAgg, h_cells, l_isAgg, l_cells, u_isAgg, u_cells, f_isAgg, f_cells, m_isAgg, m_cells, p_isAgg, p_cells, b_isAgg, b_cells, o_isAgg, o_cells, q_isAgg, q_cells, r_isAgg, r_cells, yRules, cm, g_makeFunc, Int.cast_ofNat_Int]
              all_goals rfl
            · intro j _ hj
              by_cases h6 : j < k
              · have hgj : L.getD j default = hopF t a (xs.getD j default) := hget j (by omega)
                have hjt : (hopF t a (xs.getD j default)).thread = xs.getD j default := rfl
                have hne := hok.nd j k h6 (by omega)
                rw [← hx] at hne
                have hne2 : (xs.getD j default == x) = false := by simpa using hne
                simp only [vcRules, dRules, bRules, tyRules, xRules, pickV_true, pickV_false, implies_true, Nat.reduceLT, Nat.reduceLeDiff, Nat.reduceEqDiff, Nat.reduceAdd, Nat.reduceSub, Nat.reduceMul, Int.reduceToNat, Int.reduceLT, Int.reduceLE, Int.reduceEq, Int.reduceAdd, Int.reduceSub, Int.reduceNeg, Int.reduceBEq, Int.reduceBNe, Int.reduceMul, Int.natCast_add, Int.natCast_one, reduceCtorEq, reduceIte, bytes_lit, h_isAgg, h_cells, l_isAgg, l_cells, u_isAgg, u_cells, f_isAgg, f_cells, m_isAgg, m_cells, p_isAgg, p_cells, b_isAgg, b_cells, o_isAgg, o_cells, q_isAgg, q_cells, r_isAgg, r_cells, yRules, cm, g_makeFunc, (show (j:Int) < k by omega), (show (j:Int) < L.length by omega), (show j < L.length by omega), a_getD _ _ _ (show j < L.length by omega), hgj, hjt, (show (k:Int) < L.length by omega), h, a_getD _ _ _ (show k < L.length by omega), hg, hne2]
                repeat ((with_reducible refine And.intro ?_ ?_); (focus (first | omega | (simp only [List.length_take, List.length_drop, List.length_map, List.length_append, List.length_cons]; omega) | (refine (show quietOp _ = true from ?_); rfl) | (refine (show drawOk _ _ _ _ _ _ _ from Or.inl ?_); kernel_rfl) | (intros; simp_all; done))))
                refine weak_to [] [0] rfl (by simp) ?_ rfl
                simp only [vcRules, dRules, bRules, tyRules, xRules, pickV_true, pickV_false, implies_true, Nat.reduceLT, Nat.reduceLeDiff, Nat.reduceEqDiff, Nat.reduceAdd, Nat.reduceSub, Nat.reduceMul, Int.reduceToNat, Int.reduceLT, Int.reduceLE, Int.reduceEq, Int.reduceAdd, Int.reduceSub, Int.reduceNeg, Int.reduceBEq, Int.reduceBNe, Int.reduceMul, Int.natCast_add, Int.natCast_one, reduceCtorEq, reduceIte, bytes_lit, h_isAgg, h_cells, l_isAgg, l_cells, u_isAgg, u_cells, f_isAgg, f_cells, m_isAgg, m_cells, p_isAgg, p_cells, b_isAgg, b_cells, o_isAgg, o_cells, q_isAgg, q_cells, r_isAgg, r_cells, yRules, cm, g_makeFunc, @a_wrap ((j:Int) + 1) (by omega)]
                all_goals rfl
              · simp only [vcRules, dRules, bRules, tyRules, xRules, pickV_true, pickV_false, implies_true, Nat.reduceLT, Nat.reduceLeDiff, Nat.reduceEqDiff, Nat.reduceAdd, Nat.reduceSub, Nat.reduceMul, Int.reduceToNat, Int.reduceLT, Int.reduceLE, Int.reduceEq, Int.reduceAdd, Int.reduceSub, Int.reduceNeg, Int.reduceBEq, Int.reduceBNe, Int.reduceMul, Int.natCast_add, Int.natCast_one, reduceCtorEq, reduceIte, bytes_lit, h_isAgg, h_cells, l_isAgg, l_cells, u_isAgg, u_cells, f_isAgg, f_cells, m_isAgg, m_cells, p_isAgg, p_cells, b_isAgg, b_cells, o_isAgg, o_cells, q_isAgg, q_cells, r_isAgg, r_cells, yRules, cm, g_makeFunc, (show ¬ (j:Int) < k by omega)]
                repeat ((with_reducible refine And.intro ?_ ?_); (focus (first | omega | (simp only [List.length_take, List.length_drop, List.length_map, List.length_append, List.length_cons]; omega) | (refine (show quietOp _ = true from ?_); rfl) | (refine (show drawOk _ _ _ _ _ _ _ from Or.inl ?_); kernel_rfl) | (intros; simp_all; done))))
                refine weak_to [] [0] rfl (by simp) ?_ rfl
                simp only [vcRules, dRules, bRules, tyRules, xRules, pickV_true, pickV_false, implies_true, Nat.reduceLT, Nat.reduceLeDiff, Nat.reduceEqDiff, Nat.reduceAdd, Nat.reduceSub, Nat.reduceMul, Int.reduceToNat, Int.reduceLT, Int.reduceLE, Int.reduceEq, Int.reduceAdd, Int.reduceSub, Int.reduceNeg, Int.reduceBEq, Int.reduceBNe, Int.reduceMul, Int.natCast_add, Int.natCast_one, reduceCtorEq, reduceIte, bytes_lit, h_isAgg, h_cells, l_isAgg, l_cells, u_isAgg, u_cells, f_isAgg, f_cells, m_isAgg, m_cells, p_isAgg, p_cells, b_isAgg, b_cells, o_isAgg, o_cells, q_isAgg, q_cells, r_isAgg, r_cells, yRules, cm, g_makeFunc, @a_wrap ((k:Int) + 1) (by omega)]
                all_goals rfl
          · simp only [vcRules, dRules, bRules, tyRules, xRules, pickV_true, pickV_false, implies_true, Nat.reduceLT, Nat.reduceLeDiff, Nat.reduceEqDiff, Nat.reduceAdd, Nat.reduceSub, Nat.reduceMul, Int.reduceToNat, Int.reduceLT, Int.reduceLE, Int.reduceEq, Int.reduceAdd, Int.reduceSub, Int.reduceNeg, Int.reduceBEq, Int.reduceBNe, Int.reduceMul, Int.natCast_add, Int.natCast_one, reduceCtorEq, reduceIte, bytes_lit, h_isAgg, h_cells, l_isAgg, l_cells, u_isAgg, u_cells, f_isAgg, f_cells, m_isAgg, m_cells, p_isAgg, p_cells, b_isAgg, b_cells, o_isAgg, o_cells, q_isAgg, q_cells, r_isAgg, r_cells, yRules, cm, g_makeFunc, Option.getD_some, Option.isSome_some, Bool.not_true, bne_self_eq_false, beq_self_eq_true, (show (k:Int) < L.length by omega), h, a_getD _ _ _ (show k < L.length by omega), hg, (show ¬ a < s.lo by omega), (show ¬ s.hi ≤ a by omega), (show ¬ (k:Int) + 1 < L.length by omega), @a_wrap ((k:Int) + 1) (by omega)]
            repeat ((with_reducible refine And.intro ?_ ?_); (focus (first | omega | (simp only [List.length_take, List.length_drop, List.length_map, List.length_append, List.length_cons]; omega) | (refine (show quietOp _ = true from ?_); rfl) | (refine (show drawOk _ _ _ _ _ _ _ from Or.inl ?_); kernel_rfl) | (intros; simp_all; done))))
            refine for_of k (fun j => [(2, .d (.int .i64 a)), (3, .ptr 0 0), (7, .d (.sl (L.map HopT.toD))), (9, .d (.int .i64 k)), (12, .d (.int .i64 j))]) (fun _ => [.box 10 (.d t.toD)]) (fun _ => True) trivial ?_ ?_
            · refine weak_to [] [0] rfl (by simp) ?_ rfl
              simp only [vcRules, dRules, bRules, tyRules, xRules, pickV_true, pickV_false, implies_true, Nat.reduceLT, Nat.reduceLeDiff, Nat.reduceEqDiff, Nat.reduceAdd, Nat.reduceSub, Nat.reduceMul, Int.reduceToNat, Int.reduceLT, Int.reduceLE, Int.reduceEq, Int.reduceAdd, Int.reduceSub, Int.reduceNeg, Int.reduceBEq, Int.reduceBNe, Int.reduceMul, Int.natCast_add, Int.natCast_one, reduceCtorEq, reduceIte, bytes_lit, h_isAgg, h_cells, l_isAgg, l_cells, u_isAgg, u_cells, f_isAgg, f_cells, m_isAgg, m_cells, p_isAgg, p_cells, b_isAgg, b_cells, o_isAgg, o_cells, q_isAgg, q_cells, r_isAgg, r_cells, yRules, cm, g_makeFunc, Int.cast_ofNat_Int]
              all_goals rfl
            · intro j _ hj
              by_cases h6 : j < k
              · have hgj : L.getD j default = hopF t a (xs.getD j default) := hget j (by omega)
                have hjt : (hopF t a (xs.getD j default)).thread = xs.getD j default := rfl
                have hne := hok.nd j k h6 (by omega)
                rw [← hx] at hne
                have hne2 : (xs.getD j default == x) = false := by simpa using hne
                simp only [vcRules, dRules, bRules, tyRules, xRules, pickV_true, pickV_false, implies_true, Nat.reduceLT, Nat.reduceLeDiff, Nat.reduceEqDiff, Nat.reduceAdd, Nat.reduceSub, Nat.reduceMul, Int.reduceToNat, Int.reduceLT, Int.reduceLE, Int.reduceEq, Int.reduceAdd, Int.reduceSub, Int.reduceNeg, Int.reduceBEq, Int.reduceBNe, Int.reduceMul, Int.natCast_add, Int.natCast_one, reduceCtorEq, reduceIte, bytes_lit, h_isAgg, h_cells, l_isAgg, l_cells, u_isAgg, u_cells, f_isAgg, f_cells, m_isAgg, m_cells, p_isAgg, p_cells, b_isAgg, b_cells, o_isAgg, o_cells, q_isAgg, q_cells, r_isAgg, r_cells, yRules, cm, g_makeFunc, (show (j:Int) < k by omega), (show (j:Int) < L.length by omega), (show j < L.length by omega), a_getD _ _ _ (show j < L.length by omega), hgj, hjt, (show (k:Int) < L.length by omega), h, a_getD _ _ _ (show k < L.length by omega), hg, hne2]
                repeat ((with_reducible refine And.intro ?_ ?_); (focus (first | omega | (simp only [List.length_take, List.length_drop, List.length_map, List.length_append, List.length_cons]; omega) | (refine (show quietOp _ = true from ?_); rfl) | (refine (show drawOk _ _ _ _ _ _ _ from Or.inl ?_); kernel_rfl) | (intros; simp_all; done))))
                refine weak_to [] [0] rfl (by simp) ?_ rfl
                simp only [vcRules, dRules, bRules, tyRules, xRules, pickV_true, pickV_false, implies_true, Nat.reduceLT, Nat.reduceLeDiff, Nat.reduceEqDiff, Nat.reduceAdd, Nat.reduceSub, Nat.reduceMul, Int.reduceToNat, Int.reduceLT, Int.reduceLE, Int.reduceEq, Int.reduceAdd, Int.reduceSub, Int.reduceNeg, Int.reduceBEq, Int.reduceBNe, Int.reduceMul, Int.natCast_add, Int.natCast_one, reduceCtorEq, reduceIte, bytes_lit, h_isAgg, h_cells, l_isAgg, l_cells, u_isAgg, u_cells, f_isAgg, f_cells, m_isAgg, m_cells, p_isAgg, p_cells, b_isAgg, b_cells, o_isAgg, o_cells, q_isAgg, q_cells, r_isAgg, r_cells, yRules, cm, g_makeFunc, @a_wrap ((j:Int) + 1) (by omega)]
                all_goals rfl
              · simp only [vcRules, dRules, bRules, tyRules, xRules, pickV_true, pickV_false, implies_true, Nat.reduceLT, Nat.reduceLeDiff, Nat.reduceEqDiff, Nat.reduceAdd, Nat.reduceSub, Nat.reduceMul, Int.reduceToNat, Int.reduceLT, Int.reduceLE, Int.reduceEq, Int.reduceAdd, Int.reduceSub, Int.reduceNeg, Int.reduceBEq, Int.reduceBNe, Int.reduceMul, Int.natCast_add, Int.natCast_one, reduceCtorEq, reduceIte, bytes_lit, h_isAgg, h_cells, l_isAgg, l_cells, u_isAgg, u_cells, f_isAgg, f_cells, m_isAgg, m_cells, p_isAgg, p_cells, b_isAgg, b_cells, o_isAgg, o_cells, q_isAgg, q_cells, r_isAgg, r_cells, yRules, cm, g_makeFunc, (show ¬ (j:Int) < k by omega)]
                repeat ((with_reducible refine And.intro ?_ ?_); (focus (first | omega | (simp only [List.length_take, List.length_drop, List.length_map, List.length_append, List.length_cons]; omega) | (refine (show quietOp _ = true from ?_); rfl) | (refine (show drawOk _ _ _ _ _ _ _ from Or.inl ?_); kernel_rfl) | (intros; simp_all; done))))
                refine weak_to [] [0] rfl (by simp) ?_ rfl
                simp only [vcRules, dRules, bRules, tyRules, xRules, pickV_true, pickV_false, implies_true, Nat.reduceLT, Nat.reduceLeDiff, Nat.reduceEqDiff, Nat.reduceAdd, Nat.reduceSub, Nat.reduceMul, Int.reduceToNat, Int.reduceLT, Int.reduceLE, Int.reduceEq, Int.reduceAdd, Int.reduceSub, Int.reduceNeg, Int.reduceBEq, Int.reduceBNe, Int.reduceMul, Int.natCast_add, Int.natCast_one, reduceCtorEq, reduceIte, bytes_lit, h_isAgg, h_cells, l_isAgg, l_cells, u_isAgg, u_cells, f_isAgg, f_cells, m_isAgg, m_cells, p_isAgg, p_cells, b_isAgg, b_cells, o_isAgg, o_cells, q_isAgg, q_cells, r_isAgg, r_cells, yRules, cm, g_makeFunc, @a_wrap ((k:Int) + 1) (by omega)]
                all_goals rfl
        · simp only [vcRules, dRules, bRules, tyRules, xRules, pickV_true, pickV_false, implies_true, Nat.reduceLT, Nat.reduceLeDiff, Nat.reduceEqDiff, Nat.reduceAdd, Nat.reduceSub, Nat.reduceMul, Int.reduceToNat, Int.reduceLT, Int.reduceLE, Int.reduceEq, Int.reduceAdd, Int.reduceSub, Int.reduceNeg, Int.reduceBEq, Int.reduceBNe, Int.reduceMul, Int.natCast_add, Int.natCast_one, reduceCtorEq, reduceIte, bytes_lit, h_isAgg, h_cells, l_isAgg, l_cells, u_isAgg, u_cells, f_isAgg, f_cells, m_isAgg, m_cells, p_isAgg, p_cells, b_isAgg, b_cells, o_isAgg, o_cells, q_isAgg, q_cells, r_isAgg, r_cells, yRules, cm, g_makeFunc, (show ¬ (k:Int) < L.length by omega)]
          refine callF_pure k_lives ?_
          simp only [vcRules, dRules, bRules, tyRules, xRules, pickV_true, pickV_false, implies_true, Nat.reduceLT, Nat.reduceLeDiff, Nat.reduceEqDiff, Nat.reduceAdd, Nat.reduceSub, Nat.reduceMul, Int.reduceToNat, Int.reduceLT, Int.reduceLE, Int.reduceEq, Int.reduceAdd, Int.reduceSub, Int.reduceNeg, Int.reduceBEq, Int.reduceBNe, Int.reduceMul, Int.natCast_add, Int.natCast_one, reduceCtorEq, reduceIte, bytes_lit, h_isAgg, h_cells, l_isAgg, l_cells, u_isAgg, u_cells, f_isAgg, f_cells, m_isAgg, m_cells, p_isAgg, p_cells, b_isAgg, b_cells, o_isAgg, o_cells, q_isAgg, q_cells, r_isAgg, r_cells, yRules, cm, g_makeFunc]
          exact ⟨_, _, ret_d, rfl, rfl⟩
theorem links_main (xs : List D) (h : TypedAll Try.prog 5 Try.f3.params.toList xs) : ACalls Try.prog [] 3 (xs.map AV.d) [] (fun r _ => r = .d (.bool true)) := by
  rw [Try.params3] at h
  obtain ⟨x, _, rfl, h1, y, _, rfl, h2, z, _, rfl, h3, rfl⟩ := h
  obtain ⟨t, rfl⟩ := parTrace h1
  obtain ⟨th, rfl, _⟩ := parInt h2
  obtain ⟨a, rfl, _⟩ := parInt h3
  exact (k_Links t th a []).mono fun r s h => h.1
theorem waitLinks_lifted (os : Os) (started : os.Started) (H : Type) (enc : TypeId × Value → H) :
    ReturnsInHanded {} Try.checked os 3 .any (Rows.waitLinksSpec.pre6 enc Try.prog Try.f3 Rows.waitLinksRow.domain false) (Rows.waitLinksSpec.post enc Try.prog Try.f3 false true false false) := by
  refine returnsInHanded_of_change (C := Try.checked) own started (by kernel_rfl) Try.func3
    (ChangeSpec.witness6 (enc := enc) (C := Try.checked) false ⟨#[], #[.agg #[.int .i64 0, .int .i64 0, .slice none 0 0, .slice none 0 0, .slice none 0 0, .slice none 0 0, .slice none 0 0, .slice none 0 0, .slice none 0 0, .slice none 0 0], .int .i64 0, .int .i64 0], []⟩ 8 (by kernel_rfl) (by kernel_rfl) (by kernel_rfl) (by kernel_rfl)) ?_
  intro W base args ds gs before hval hW _ _
  exact law_contract (n := 5) (tb := 4) Try.func3 rfl rfl (by kernel_rfl) laidOut (by kernel_rfl) (by kernel_rfl) rfl
    (fun H ds h => by
      match ds, h with
      | [d1, d2, d3], _ => rfl) links_main W base args ds gs before hval hW
theorem waitLinks_holds : Rows.WaitLinksSaid :=
  OpenClaim.holds_of_wide 3 Try.f3 rfl rfl rfl rfl rfl rfl rfl ⟨rfl, rfl, rfl, rfl, rfl⟩ rfl rfl rfl rfl rfl (by kernel_rfl) Try.func3 (by kernel_rfl)
    (of_decide_eq_true (by kernel_rfl)) (by unfold Func.isWrapper; first | (rw [if_pos (by decide +kernel)]; kernel_rfl) | (rw [if_neg (by decide +kernel)]; exact ⟨rfl, rfl⟩))
    (fun os started H enc _ => waitLinks_lifted os started H enc)
end Ytccgdcmgjdhikaa
end Go.Proofs
