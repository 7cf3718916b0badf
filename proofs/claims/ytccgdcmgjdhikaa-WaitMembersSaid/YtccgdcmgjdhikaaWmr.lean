/- Proved: WaitMembersSaid: for every input that can be read as data the law returns true and leaves its arguments as they were; no condition is added. -/
import Derived.Test.YtccgdcmgjdhikaaWmn
set_option linter.unusedVariables false
set_option linter.unusedSimpArgs false
set_option linter.unusedSectionVars false
set_option linter.unnecessarySimpa false
set_option linter.unusedSimpArgs false
set_option linter.unusedVariables false
set_option maxRecDepth 100000
namespace Go.Proofs
open Go.AM Go.ChangeShapes Go.WideShapes Go.ChangeAt Go.RowKit
namespace Ytccgdcmgjdhikaa
variable {Gl : Globs}

theorem k_has (xs : List Int) (n : Int) (hl : xs.length < 1000000) : Pure Try.prog Gl 10 [.d (.sl (xs.map (D.int .i64))), .d (.int .i64 n)] (.d (.bool (xs.any (fun y => y == n)))) := by
  refine Pure.of2 ?_
  refine acalls_of Try.func10 rfl rfl (by simp [Try.ntmps10]) (evC_sound rfl _ _ _ _ ?_)
  simp only [Try.ntmps10, Try.results10, argEnv, List.length_nil]
  simp only [vcRules, dRules, bRules, tyRules, xRules, pickV_true, pickV_false, implies_true, Nat.reduceLT, Nat.reduceLeDiff, Nat.reduceEqDiff, Nat.reduceAdd, Nat.reduceSub, Nat.reduceMul, Int.reduceToNat, Int.reduceLT, Int.reduceLE, Int.reduceEq, Int.reduceAdd, Int.reduceSub, Int.reduceNeg, Int.reduceBEq, Int.reduceBNe, Int.reduceMul, Int.natCast_add, Int.natCast_one, reduceCtorEq, reduceIte, bytes_lit, h_isAgg, h_cells, l_isAgg, l_cells, u_isAgg, u_cells, f_isAgg, f_cells, m_isAgg, m_cells, p_isAgg, p_cells, b_isAgg, b_cells, o_isAgg, o_cells, q_isAgg, q_cells, r_isAgg, r_cells, yRules, cm, g_makeFunc]
  refine for_of xs.length (fun k => [(0, .d (.sl (xs.map (D.int .i64)))), (1, .d (.int .i64 n)), (5, .d (.int .i64 k))]) (fun _ => []) (fun k => (xs.take k).any (fun y => y == n) = false) rfl ?_ ?_
  · refine weak_to [] [] rfl List.nodup_nil ?_ rfl
    simp only [vcRules, dRules, bRules, tyRules, xRules, pickV_true, pickV_false, implies_true, Nat.reduceLT, Nat.reduceLeDiff, Nat.reduceEqDiff, Nat.reduceAdd, Nat.reduceSub, Nat.reduceMul, Int.reduceToNat, Int.reduceLT, Int.reduceLE, Int.reduceEq, Int.reduceAdd, Int.reduceSub, Int.reduceNeg, Int.reduceBEq, Int.reduceBNe, Int.reduceMul, Int.natCast_add, Int.natCast_one, reduceCtorEq, reduceIte, bytes_lit, h_isAgg, h_cells, l_isAgg, l_cells, u_isAgg, u_cells, f_isAgg, f_cells, m_isAgg, m_cells, p_isAgg, p_cells, b_isAgg, b_cells, o_isAgg, o_cells, q_isAgg, q_cells, r_isAgg, r_cells, yRules, cm, g_makeFunc, Int.cast_ofNat_Int]
  · intro k hi hk
    by_cases h : k < xs.length
    · have hs := any_take (fun y => y == n) xs k h
      simp only [vcRules, dRules, bRules, tyRules, xRules, pickV_true, pickV_false, implies_true, Nat.reduceLT, Nat.reduceLeDiff, Nat.reduceEqDiff, Nat.reduceAdd, Nat.reduceSub, Nat.reduceMul, Int.reduceToNat, Int.reduceLT, Int.reduceLE, Int.reduceEq, Int.reduceAdd, Int.reduceSub, Int.reduceNeg, Int.reduceBEq, Int.reduceBNe, Int.reduceMul, Int.natCast_add, Int.natCast_one, reduceCtorEq, reduceIte, bytes_lit, h_isAgg, h_cells, l_isAgg, l_cells, u_isAgg, u_cells, f_isAgg, f_cells, m_isAgg, m_cells, p_isAgg, p_cells, b_isAgg, b_cells, o_isAgg, o_cells, q_isAgg, q_cells, r_isAgg, r_cells, yRules, cm, g_makeFunc, (show (k:Int) < xs.length by omega), h, a_getD _ _ _ (show k < xs.length by omega)]
      repeat ((with_reducible refine And.intro ?_ ?_); (focus (first | omega | (simp only [List.length_take, List.length_drop, List.length_map, List.length_append, List.length_cons]; omega) | (refine (show quietOp _ = true from ?_); rfl) | (refine (show drawOk _ _ _ _ _ _ _ from Or.inl ?_); kernel_rfl) | (intros; simp_all; done))))
      refine ifC.mk (fun hc => ?_) (fun hc => ?_)
      · refine ⟨_, _, ret_d, ?_, rfl⟩
        rw [any_at (fun y => y == n) xs k h hc]
      · refine ⟨by rw [hs, hi, hc]; rfl, ?_⟩
        refine weak_to [] [] rfl List.nodup_nil ?_ rfl
        simp only [vcRules, dRules, bRules, tyRules, xRules, pickV_true, pickV_false, implies_true, Nat.reduceLT, Nat.reduceLeDiff, Nat.reduceEqDiff, Nat.reduceAdd, Nat.reduceSub, Nat.reduceMul, Int.reduceToNat, Int.reduceLT, Int.reduceLE, Int.reduceEq, Int.reduceAdd, Int.reduceSub, Int.reduceNeg, Int.reduceBEq, Int.reduceBNe, Int.reduceMul, Int.natCast_add, Int.natCast_one, reduceCtorEq, reduceIte, bytes_lit, h_isAgg, h_cells, l_isAgg, l_cells, u_isAgg, u_cells, f_isAgg, f_cells, m_isAgg, m_cells, p_isAgg, p_cells, b_isAgg, b_cells, o_isAgg, o_cells, q_isAgg, q_cells, r_isAgg, r_cells, yRules, cm, g_makeFunc, @a_wrap ((k:Int) + 1) (by omega)]
    · simp only [vcRules, dRules, bRules, tyRules, xRules, pickV_true, pickV_false, implies_true, Nat.reduceLT, Nat.reduceLeDiff, Nat.reduceEqDiff, Nat.reduceAdd, Nat.reduceSub, Nat.reduceMul, Int.reduceToNat, Int.reduceLT, Int.reduceLE, Int.reduceEq, Int.reduceAdd, Int.reduceSub, Int.reduceNeg, Int.reduceBEq, Int.reduceBNe, Int.reduceMul, Int.natCast_add, Int.natCast_one, reduceCtorEq, reduceIte, bytes_lit, h_isAgg, h_cells, l_isAgg, l_cells, u_isAgg, u_cells, f_isAgg, f_cells, m_isAgg, m_cells, p_isAgg, p_cells, b_isAgg, b_cells, o_isAgg, o_cells, q_isAgg, q_cells, r_isAgg, r_cells, yRules, cm, g_makeFunc, (show ¬ (k:Int) < xs.length by omega)]
      have : k = xs.length := by omega
      subst this
      rw [List.take_length] at hi
      refine ⟨_, _, ret_d, ?_, rfl⟩
      rw [hi]
theorem atS_spec {l : List StateT} {th a : Int} {s : StateT} (h : atS l th a = some s) : s.thread = th ∧ s.lo ≤ a ∧ a < s.hi := by
  have := List.find?_some h
  unfold atB at this
  simp only [Bool.and_eq_true, beq_iff_eq, decide_eq_true_eq] at this
  exact ⟨this.1.1, this.1.2, this.2⟩
/-- the threads in circles -/
theorem dead_circ {t : TraceT} {a y : Int} {dl : List Int} (hD : dl = (t.threads.filter fun x => circB t a x.id).map fun x => x.id) : y ∈ dl ↔ hasT t.threads y = true ∧ circB t a y = true := by
  subst hD
  constructor
  · intro h
    obtain ⟨x, hx, rfl⟩ := List.mem_map.1 h
    obtain ⟨h1, h2⟩ := List.mem_filter.1 hx
    refine ⟨?_, h2⟩
    unfold hasT; rw [List.any_eq_true]; exact ⟨x, h1, by simp⟩
  · rintro ⟨h1, h2⟩
    obtain ⟨x, hx, rfl⟩ := hasT_mem h1
    exact List.mem_map.2 ⟨x, List.mem_filter.2 ⟨hx, h2⟩, rfl⟩
set_option maxHeartbeats 2000000 in
theorem k_Members (t : TraceT) (a : Int) : Pure Try.prog Gl 4 [.d t.toD, .d (.int .i64 a)] (.d (.bool true)) := by
  refine Pure.of2 ?_
  refine acalls_of Try.func4 rfl rfl (by simp [Try.ntmps4]) (evC_sound rfl _ _ _ _ ?_)
  simp only [Try.ntmps4, Try.results4, argEnv, List.length_nil]
  simp only [vcRules, dRules, bRules, tyRules, xRules, pickV_true, pickV_false, implies_true, Nat.reduceLT, Nat.reduceLeDiff, Nat.reduceEqDiff, Nat.reduceAdd, Nat.reduceSub, Nat.reduceMul, Int.reduceToNat, Int.reduceLT, Int.reduceLE, Int.reduceEq, Int.reduceAdd, Int.reduceSub, Int.reduceNeg, Int.reduceBEq, Int.reduceBNe, Int.reduceMul, Int.natCast_add, Int.natCast_one, reduceCtorEq, reduceIte, bytes_lit, h_isAgg, h_cells, l_isAgg, l_cells, u_isAgg, u_cells, f_isAgg, f_cells, m_isAgg, m_cells, p_isAgg, p_cells, b_isAgg, b_cells, o_isAgg, o_cells, q_isAgg, q_cells, r_isAgg, r_cells, yRules, cm, g_makeFunc]
  repeat ((with_reducible refine And.intro ?_ ?_); (focus (first | omega | (simp only [List.length_take, List.length_drop, List.length_map, List.length_append, List.length_cons]; omega) | (refine (show quietOp _ = true from ?_); rfl) | (refine (show drawOk _ _ _ _ _ _ _ from Or.inl ?_); kernel_rfl) | (intros; simp_all; done))))
  refine callF_pure (k_few t) ?_
  simp only [vcRules, dRules, bRules, tyRules, xRules, pickV_true, pickV_false, implies_true, Nat.reduceLT, Nat.reduceLeDiff, Nat.reduceEqDiff, Nat.reduceAdd, Nat.reduceSub, Nat.reduceMul, Int.reduceToNat, Int.reduceLT, Int.reduceLE, Int.reduceEq, Int.reduceAdd, Int.reduceSub, Int.reduceNeg, Int.reduceBEq, Int.reduceBNe, Int.reduceMul, Int.natCast_add, Int.natCast_one, reduceCtorEq, reduceIte, bytes_lit, h_isAgg, h_cells, l_isAgg, l_cells, u_isAgg, u_cells, f_isAgg, f_cells, m_isAgg, m_cells, p_isAgg, p_cells, b_isAgg, b_cells, o_isAgg, o_cells, q_isAgg, q_cells, r_isAgg, r_cells, yRules, cm, g_makeFunc]
  refine ifC.mk (fun hf => ?_) (fun hf => ?_)
  · refine callF_pure k_lives ?_
    simp only [vcRules, dRules, bRules, tyRules, xRules, pickV_true, pickV_false, implies_true, Nat.reduceLT, Nat.reduceLeDiff, Nat.reduceEqDiff, Nat.reduceAdd, Nat.reduceSub, Nat.reduceMul, Int.reduceToNat, Int.reduceLT, Int.reduceLE, Int.reduceEq, Int.reduceAdd, Int.reduceSub, Int.reduceNeg, Int.reduceBEq, Int.reduceBNe, Int.reduceMul, Int.natCast_add, Int.natCast_one, reduceCtorEq, reduceIte, bytes_lit, h_isAgg, h_cells, l_isAgg, l_cells, u_isAgg, u_cells, f_isAgg, f_cells, m_isAgg, m_cells, p_isAgg, p_cells, b_isAgg, b_cells, o_isAgg, o_cells, q_isAgg, q_cells, r_isAgg, r_cells, yRules, cm, g_makeFunc]
    exact ⟨_, _, ret_d, rfl, rfl⟩
  · have hf : fewF t = true := by simpa using hf
    have ht := few_few hf
    have hth := ht.threads
    refine callF_pure (k_Deadlock t ht a) ?_
    obtain ⟨dl, hD⟩ : ∃ dl, dl = (deadF t a).1 := ⟨_, rfl⟩
    obtain ⟨e, he⟩ : ∃ e, e = (deadF t a).2 := ⟨_, rfl⟩
    rw [← hD, ← he]
    have hcases : (e ≠ 0 ∧ dl = []) ∨ (e = 0 ∧ traceF t = 0 ∧ dl = (t.threads.filter fun x => circB t a x.id).map fun x => x.id) := by
      rw [he, hD, deadF]
      by_cases h1 : traceF t ≠ 0
      · rw [if_pos h1]; exact .inl ⟨h1, rfl⟩
      · rw [if_neg h1]; exact .inr ⟨rfl, by simpa using h1, rfl⟩
    rcases hcases with ⟨h0, rfl⟩ | ⟨rfl, hok, hD2⟩
    · have h0b : (e != 0) = true := by simpa using h0
      simp only [vcRules, dRules, bRules, tyRules, xRules, pickV_true, pickV_false, implies_true, Nat.reduceLT, Nat.reduceLeDiff, Nat.reduceEqDiff, Nat.reduceAdd, Nat.reduceSub, Nat.reduceMul, Int.reduceToNat, Int.reduceLT, Int.reduceLE, Int.reduceEq, Int.reduceAdd, Int.reduceSub, Int.reduceNeg, Int.reduceBEq, Int.reduceBNe, Int.reduceMul, Int.natCast_add, Int.natCast_one, reduceCtorEq, reduceIte, bytes_lit, h_isAgg, h_cells, l_isAgg, l_cells, u_isAgg, u_cells, f_isAgg, f_cells, m_isAgg, m_cells, p_isAgg, p_cells, b_isAgg, b_cells, o_isAgg, o_cells, q_isAgg, q_cells, r_isAgg, r_cells, yRules, cm, g_makeFunc, h0b]
      refine callG_pure (fun _ => k_lives) ?_
      simp only [vcRules, dRules, bRules, tyRules, xRules, pickV_true, pickV_false, implies_true, Nat.reduceLT, Nat.reduceLeDiff, Nat.reduceEqDiff, Nat.reduceAdd, Nat.reduceSub, Nat.reduceMul, Int.reduceToNat, Int.reduceLT, Int.reduceLE, Int.reduceEq, Int.reduceAdd, Int.reduceSub, Int.reduceNeg, Int.reduceBEq, Int.reduceBNe, Int.reduceMul, Int.natCast_add, Int.natCast_one, reduceCtorEq, reduceIte, bytes_lit, h_isAgg, h_cells, l_isAgg, l_cells, u_isAgg, u_cells, f_isAgg, f_cells, m_isAgg, m_cells, p_isAgg, p_cells, b_isAgg, b_cells, o_isAgg, o_cells, q_isAgg, q_cells, r_isAgg, r_cells, yRules, cm, g_makeFunc]
      exact ⟨_, _, ret_d, rfl, rfl⟩
    · have hlen : dl.length ≤ t.threads.length := by
        rw [hD2, List.length_map]; exact List.length_filter_le _ _
      simp only [vcRules, dRules, bRules, tyRules, xRules, pickV_true, pickV_false, implies_true, Nat.reduceLT, Nat.reduceLeDiff, Nat.reduceEqDiff, Nat.reduceAdd, Nat.reduceSub, Nat.reduceMul, Int.reduceToNat, Int.reduceLT, Int.reduceLE, Int.reduceEq, Int.reduceAdd, Int.reduceSub, Int.reduceNeg, Int.reduceBEq, Int.reduceBNe, Int.reduceMul, Int.natCast_add, Int.natCast_one, reduceCtorEq, reduceIte, bytes_lit, h_isAgg, h_cells, l_isAgg, l_cells, u_isAgg, u_cells, f_isAgg, f_cells, m_isAgg, m_cells, p_isAgg, p_cells, b_isAgg, b_cells, o_isAgg, o_cells, q_isAgg, q_cells, r_isAgg, r_cells, yRules, cm, g_makeFunc, bne_self_eq_false]
      refine for_of dl.length (fun k => [(1, .d (.int .i64 a)), (2, .ptr 0 0), (5, .d (.sl (dl.map (D.int .i64)))), (7, .d (.int .i64 k))]) (fun _ => [.box 10 (.d t.toD)]) (fun _ => True) trivial ?_ ?_
      · refine weak_to [] [0] rfl (by simp) ?_ rfl
        simp only [vcRules, dRules, bRules, tyRules, xRules, pickV_true, pickV_false, implies_true, Nat.reduceLT, Nat.reduceLeDiff, Nat.reduceEqDiff, Nat.reduceAdd, Nat.reduceSub, Nat.reduceMul, Int.reduceToNat, Int.reduceLT, Int.reduceLE, Int.reduceEq, Int.reduceAdd, Int.reduceSub, Int.reduceNeg, Int.reduceBEq, Int.reduceBNe, Int.reduceMul, Int.natCast_add, Int.natCast_one, reduceCtorEq, reduceIte, bytes_lit, h_isAgg, h_cells, l_isAgg, l_cells, u_isAgg, u_cells, f_isAgg, f_cells, m_isAgg, m_cells, p_isAgg, p_cells, b_isAgg, b_cells, o_isAgg, o_cells, q_isAgg, q_cells, r_isAgg, r_cells, yRules, cm, g_makeFunc, Int.cast_ofNat_Int]
        all_goals rfl
      · intro k _ hk
        by_cases h : k < dl.length
        · obtain ⟨y, hy⟩ : ∃ y, y = dl.getD k default := ⟨_, rfl⟩
          have hyD : y ∈ dl := by rw [hy]; exact mem_getD h
          obtain ⟨hk1, hcB⟩ := (dead_circ hD2).1 hyD
          have hfo := circB_follow hcB
          have hcirc := circ_of hcB
          have hsome := (okN_at (circB_ok hcB)).1
          have hch : chainF t y a = ((followF t y a).map (hopF t a), 0) := by
            rw [chainF, if_neg (by rw [hok]; simp), if_neg (by rw [hk1]; simp), if_neg (by rw [hsome]; simp)]
          have hl2 := followF_len t y a
          have hcB2 := hcB
          unfold circB at hcB2
          simp only [Bool.and_eq_true, beq_iff_eq] at hcB2
          obtain ⟨xs, hxs⟩ : ∃ xs, xs = followF t y a := ⟨_, rfl⟩
          rw [← hxs] at hfo hch hl2 hcB2
          have hpos := hfo.pos
          simp only [vcRules, dRules, bRules, tyRules, xRules, pickV_true, pickV_false, implies_true, Nat.reduceLT, Nat.reduceLeDiff, Nat.reduceEqDiff, Nat.reduceAdd, Nat.reduceSub, Nat.reduceMul, Int.reduceToNat, Int.reduceLT, Int.reduceLE, Int.reduceEq, Int.reduceAdd, Int.reduceSub, Int.reduceNeg, Int.reduceBEq, Int.reduceBNe, Int.reduceMul, Int.natCast_add, Int.natCast_one, reduceCtorEq, reduceIte, bytes_lit, h_isAgg, h_cells, l_isAgg, l_cells, u_isAgg, u_cells, f_isAgg, f_cells, m_isAgg, m_cells, p_isAgg, p_cells, b_isAgg, b_cells, o_isAgg, o_cells, q_isAgg, q_cells, r_isAgg, r_cells, yRules, cm, g_makeFunc, (show (k:Int) < dl.length by omega), h, a_getD _ _ _ (show k < dl.length by omega), ← hy]
          repeat ((with_reducible refine And.intro ?_ ?_); (focus (first | omega | (simp only [List.length_take, List.length_drop, List.length_map, List.length_append, List.length_cons]; omega) | (refine (show quietOp _ = true from ?_); rfl) | (refine (show drawOk _ _ _ _ _ _ _ from Or.inl ?_); kernel_rfl) | (intros; simp_all; done))))
          refine callF_pure (k_Chain t ht y a) ?_
          rw [hch]
          obtain ⟨L, hL⟩ : ∃ L, L = xs.map (hopF t a) := ⟨_, rfl⟩
          rw [← hL]
          have hLl : L.length = xs.length := by rw [hL, List.length_map]
          have hget : ∀ k, k < L.length → L.getD k default = hopF t a (xs.getD k default) := fun k hk => by
            rw [hL] at hk ⊢
            rw [List.length_map] at hk
            simp [hk]
          simp only [vcRules, dRules, bRules, tyRules, xRules, pickV_true, pickV_false, implies_true, Nat.reduceLT, Nat.reduceLeDiff, Nat.reduceEqDiff, Nat.reduceAdd, Nat.reduceSub, Nat.reduceMul, Int.reduceToNat, Int.reduceLT, Int.reduceLE, Int.reduceEq, Int.reduceAdd, Int.reduceSub, Int.reduceNeg, Int.reduceBEq, Int.reduceBNe, Int.reduceMul, Int.natCast_add, Int.natCast_one, reduceCtorEq, reduceIte, bytes_lit, h_isAgg, h_cells, l_isAgg, l_cells, u_isAgg, u_cells, f_isAgg, f_cells, m_isAgg, m_cells, p_isAgg, p_cells, b_isAgg, b_cells, o_isAgg, o_cells, q_isAgg, q_cells, r_isAgg, r_cells, yRules, cm, g_makeFunc, bne_self_eq_false, a_eq_f (show ¬ ((L.length : Int) = 0) by omega)]
          repeat ((with_reducible refine And.intro ?_ ?_); (focus (first | omega | (simp only [List.length_take, List.length_drop, List.length_map, List.length_append, List.length_cons]; omega) | (refine (show quietOp _ = true from ?_); rfl) | (refine (show drawOk _ _ _ _ _ _ _ from Or.inl ?_); kernel_rfl) | (intros; simp_all; done))))
          refine for_of L.length (fun j => [(1, .d (.int .i64 a)), (2, .ptr 0 0), (5, .d (.sl (dl.map (D.int .i64)))), (7, .d (.int .i64 k)), (8, .d (.sl (L.map HopT.toD))), (10, .d (.int .i64 j))]) (fun _ => [.box 10 (.d t.toD)]) (fun _ => True) trivial ?_ ?_
          · refine weak_to [] [0] rfl (by simp) ?_ rfl
            simp only [vcRules, dRules, bRules, tyRules, xRules, pickV_true, pickV_false, implies_true, Nat.reduceLT, Nat.reduceLeDiff, Nat.reduceEqDiff, Nat.reduceAdd, Nat.reduceSub, Nat.reduceMul, Int.reduceToNat, Int.reduceLT, Int.reduceLE, Int.reduceEq, Int.reduceAdd, Int.reduceSub, Int.reduceNeg, Int.reduceBEq, Int.reduceBNe, Int.reduceMul, Int.natCast_add, Int.natCast_one, reduceCtorEq, reduceIte, bytes_lit, h_isAgg, h_cells, l_isAgg, l_cells, u_isAgg, u_cells, f_isAgg, f_cells, m_isAgg, m_cells, p_isAgg, p_cells, b_isAgg, b_cells, o_isAgg, o_cells, q_isAgg, q_cells, r_isAgg, r_cells, yRules, cm, g_makeFunc, Int.cast_ofNat_Int]
            all_goals rfl
          · intro j _ hj
            by_cases h2 : j < L.length
            · have hgj : L.getD j default = hopF t a (xs.getD j default) := hget j h2
              have hjt : (hopF t a (xs.getD j default)).thread = xs.getD j default := rfl
              have hmem : dl.any (fun z => z == xs.getD j default) = true := by
                rw [follow_it hfo j (by omega)]
                rw [List.any_eq_true]
                refine ⟨itN t a j y, (dead_circ hD2).2 ⟨?_, circB_of (circ_it hcirc j)⟩, by simp⟩
                match j with
                | 0 => exact hk1
                | j + 1 =>
                  have := circB_ok (circB_of (circ_it hcirc j))
                  exact (okN_at this).2.2
              simp only [vcRules, dRules, bRules, tyRules, xRules, pickV_true, pickV_false, implies_true, Nat.reduceLT, Nat.reduceLeDiff, Nat.reduceEqDiff, Nat.reduceAdd, Nat.reduceSub, Nat.reduceMul, Int.reduceToNat, Int.reduceLT, Int.reduceLE, Int.reduceEq, Int.reduceAdd, Int.reduceSub, Int.reduceNeg, Int.reduceBEq, Int.reduceBNe, Int.reduceMul, Int.natCast_add, Int.natCast_one, reduceCtorEq, reduceIte, bytes_lit, h_isAgg, h_cells, l_isAgg, l_cells, u_isAgg, u_cells, f_isAgg, f_cells, m_isAgg, m_cells, p_isAgg, p_cells, b_isAgg, b_cells, o_isAgg, o_cells, q_isAgg, q_cells, r_isAgg, r_cells, yRules, cm, g_makeFunc, (show (j:Int) < L.length by omega), h2, a_getD _ _ _ (show j < L.length by omega), hgj, hjt]
              repeat ((with_reducible refine And.intro ?_ ?_); (focus (first | omega | (simp only [List.length_take, List.length_drop, List.length_map, List.length_append, List.length_cons]; omega) | (refine (show quietOp _ = true from ?_); rfl) | (refine (show drawOk _ _ _ _ _ _ _ from Or.inl ?_); kernel_rfl) | (intros; simp_all; done))))
              refine callF_pure (k_has dl _ (by omega)) ?_
              rw [hmem]
              simp only [vcRules, dRules, bRules, tyRules, xRules, pickV_true, pickV_false, implies_true, Nat.reduceLT, Nat.reduceLeDiff, Nat.reduceEqDiff, Nat.reduceAdd, Nat.reduceSub, Nat.reduceMul, Int.reduceToNat, Int.reduceLT, Int.reduceLE, Int.reduceEq, Int.reduceAdd, Int.reduceSub, Int.reduceNeg, Int.reduceBEq, Int.reduceBNe, Int.reduceMul, Int.natCast_add, Int.natCast_one, reduceCtorEq, reduceIte, bytes_lit, h_isAgg, h_cells, l_isAgg, l_cells, u_isAgg, u_cells, f_isAgg, f_cells, m_isAgg, m_cells, p_isAgg, p_cells, b_isAgg, b_cells, o_isAgg, o_cells, q_isAgg, q_cells, r_isAgg, r_cells, yRules, cm, g_makeFunc, Bool.not_true]
              repeat ((with_reducible refine And.intro ?_ ?_); (focus (first | omega | (simp only [List.length_take, List.length_drop, List.length_map, List.length_append, List.length_cons]; omega) | (refine (show quietOp _ = true from ?_); rfl) | (refine (show drawOk _ _ _ _ _ _ _ from Or.inl ?_); kernel_rfl) | (intros; simp_all; done))))
              refine weak_to [] [0] rfl (by simp) ?_ rfl
              simp only [vcRules, dRules, bRules, tyRules, xRules, pickV_true, pickV_false, implies_true, Nat.reduceLT, Nat.reduceLeDiff, Nat.reduceEqDiff, Nat.reduceAdd, Nat.reduceSub, Nat.reduceMul, Int.reduceToNat, Int.reduceLT, Int.reduceLE, Int.reduceEq, Int.reduceAdd, Int.reduceSub, Int.reduceNeg, Int.reduceBEq, Int.reduceBNe, Int.reduceMul, Int.natCast_add, Int.natCast_one, reduceCtorEq, reduceIte, bytes_lit, h_isAgg, h_cells, l_isAgg, l_cells, u_isAgg, u_cells, f_isAgg, f_cells, m_isAgg, m_cells, p_isAgg, p_cells, b_isAgg, b_cells, o_isAgg, o_cells, q_isAgg, q_cells, r_isAgg, r_cells, yRules, cm, g_makeFunc, @a_wrap ((j:Int) + 1) (by omega)]
              all_goals rfl
            · have e1 : IntKind.i64.wrap ((L.length : Int) - 1) = ((L.length - 1 : Nat) : Int) := by rw [wrap64 (by omega) (by omega)]; omega
              have hgl : L.getD (L.length - 1) default = hopF t a (lastI xs) := by rw [hget _ (by omega), hLl]; rfl
              have hlt : (hopF t a (lastI xs)).thread = lastI xs := rfl
              have hlast := okN_at (show okN t a (lastI xs) = true from hcB2.1)
              obtain ⟨s, hs⟩ := Option.isSome_iff_exists.1 hlast.1
              have hst : s.state = 2 := by have := hlast.2.1; rw [hs] at this; exact this
              have hon : s.on_ = y := by
                have := hcB2.2
                unfold nextF at this
                rw [hs] at this; exact this
              simp only [vcRules, dRules, bRules, tyRules, xRules, pickV_true, pickV_false, implies_true, Nat.reduceLT, Nat.reduceLeDiff, Nat.reduceEqDiff, Nat.reduceAdd, Nat.reduceSub, Nat.reduceMul, Int.reduceToNat, Int.reduceLT, Int.reduceLE, Int.reduceEq, Int.reduceAdd, Int.reduceSub, Int.reduceNeg, Int.reduceBEq, Int.reduceBNe, Int.reduceMul, Int.natCast_add, Int.natCast_one, reduceCtorEq, reduceIte, bytes_lit, h_isAgg, h_cells, l_isAgg, l_cells, u_isAgg, u_cells, f_isAgg, f_cells, m_isAgg, m_cells, p_isAgg, p_cells, b_isAgg, b_cells, o_isAgg, o_cells, q_isAgg, q_cells, r_isAgg, r_cells, yRules, cm, g_makeFunc, (show ¬ (j:Int) < L.length by omega), e1, (show ((L.length - 1 : Nat) : Int) < L.length by omega), (show L.length - 1 < L.length by omega), a_getD _ _ _ (show L.length - 1 < L.length by omega), hgl, hlt]
              repeat ((with_reducible refine And.intro ?_ ?_); (focus (first | omega | (simp only [List.length_take, List.length_drop, List.length_map, List.length_append, List.length_cons]; omega) | (refine (show quietOp _ = true from ?_); rfl) | (refine (show drawOk _ _ _ _ _ _ _ from Or.inl ?_); kernel_rfl) | (intros; simp_all; done))))
              refine callF_pure (k_At _ _ _ ht.states) ?_
              rw [hs]
              simp only [vcRules, dRules, bRules, tyRules, xRules, pickV_true, pickV_false, implies_true, Nat.reduceLT, Nat.reduceLeDiff, Nat.reduceEqDiff, Nat.reduceAdd, Nat.reduceSub, Nat.reduceMul, Int.reduceToNat, Int.reduceLT, Int.reduceLE, Int.reduceEq, Int.reduceAdd, Int.reduceSub, Int.reduceNeg, Int.reduceBEq, Int.reduceBNe, Int.reduceMul, Int.natCast_add, Int.natCast_one, reduceCtorEq, reduceIte, bytes_lit, h_isAgg, h_cells, l_isAgg, l_cells, u_isAgg, u_cells, f_isAgg, f_cells, m_isAgg, m_cells, p_isAgg, p_cells, b_isAgg, b_cells, o_isAgg, o_cells, q_isAgg, q_cells, r_isAgg, r_cells, yRules, cm, g_makeFunc, Option.getD_some, Option.isSome_some, Bool.not_true, bne_self_eq_false, hst, hon, (show (k:Int) < dl.length by omega), h, a_getD _ _ _ (show k < dl.length by omega), ← hy]
              repeat ((with_reducible refine And.intro ?_ ?_); (focus (first | omega | (simp only [List.length_take, List.length_drop, List.length_map, List.length_append, List.length_cons]; omega) | (refine (show quietOp _ = true from ?_); rfl) | (refine (show drawOk _ _ _ _ _ _ _ from Or.inl ?_); kernel_rfl) | (intros; simp_all; done))))
              refine weak_to [] [0] rfl (by simp) ?_ rfl
              simp only [vcRules, dRules, bRules, tyRules, xRules, pickV_true, pickV_false, implies_true, Nat.reduceLT, Nat.reduceLeDiff, Nat.reduceEqDiff, Nat.reduceAdd, Nat.reduceSub, Nat.reduceMul, Int.reduceToNat, Int.reduceLT, Int.reduceLE, Int.reduceEq, Int.reduceAdd, Int.reduceSub, Int.reduceNeg, Int.reduceBEq, Int.reduceBNe, Int.reduceMul, Int.natCast_add, Int.natCast_one, reduceCtorEq, reduceIte, bytes_lit, h_isAgg, h_cells, l_isAgg, l_cells, u_isAgg, u_cells, f_isAgg, f_cells, m_isAgg, m_cells, p_isAgg, p_cells, b_isAgg, b_cells, o_isAgg, o_cells, q_isAgg, q_cells, r_isAgg, r_cells, yRules, cm, g_makeFunc, @a_wrap ((k:Int) + 1) (by omega)]
              all_goals rfl
        · simp only [vcRules, dRules, bRules, tyRules, xRules, pickV_true, pickV_false, implies_true, Nat.reduceLT, Nat.reduceLeDiff, Nat.reduceEqDiff, Nat.reduceAdd, Nat.reduceSub, Nat.reduceMul, Int.reduceToNat, Int.reduceLT, Int.reduceLE, Int.reduceEq, Int.reduceAdd, Int.reduceSub, Int.reduceNeg, Int.reduceBEq, Int.reduceBNe, Int.reduceMul, Int.natCast_add, Int.natCast_one, reduceCtorEq, reduceIte, bytes_lit, h_isAgg, h_cells, l_isAgg, l_cells, u_isAgg, u_cells, f_isAgg, f_cells, m_isAgg, m_cells, p_isAgg, p_cells, b_isAgg, b_cells, o_isAgg, o_cells, q_isAgg, q_cells, r_isAgg, r_cells, yRules, cm, g_makeFunc, (show ¬ (k:Int) < dl.length by omega)]
          refine callF_pure k_lives ?_
          simp only [vcRules, dRules, bRules, tyRules, xRules, pickV_true, pickV_false, implies_true, Nat.reduceLT, Nat.reduceLeDiff, Nat.reduceEqDiff, Nat.reduceAdd, Nat.reduceSub, Nat.reduceMul, Int.reduceToNat, Int.reduceLT, Int.reduceLE, Int.reduceEq, Int.reduceAdd, Int.reduceSub, Int.reduceNeg, Int.reduceBEq, Int.reduceBNe, Int.reduceMul, Int.natCast_add, Int.natCast_one, reduceCtorEq, reduceIte, bytes_lit, h_isAgg, h_cells, l_isAgg, l_cells, u_isAgg, u_cells, f_isAgg, f_cells, m_isAgg, m_cells, p_isAgg, p_cells, b_isAgg, b_cells, o_isAgg, o_cells, q_isAgg, q_cells, r_isAgg, r_cells, yRules, cm, g_makeFunc]
          exact ⟨_, _, ret_d, rfl, rfl⟩
theorem members_main (xs : List D) (h : TypedAll Try.prog 5 Try.f4.params.toList xs) : ACalls Try.prog [] 4 (xs.map AV.d) [] (fun r _ => r = .d (.bool true)) := by
  rw [Try.params4] at h
  obtain ⟨x, _, rfl, h1, y, _, rfl, h2, rfl⟩ := h
  obtain ⟨t, rfl⟩ := parTrace h1
  obtain ⟨a, rfl, _⟩ := parInt h2
  exact (k_Members t a []).mono fun r s h => h.1
theorem waitMembers_lifted (os : Os) (started : os.Started) (H : Type) (enc : TypeId × Value → H) :
    ReturnsInHanded {} Try.checked os 4 .any (Rows.waitMembersSpec.pre6 enc Try.prog Try.f4 Rows.waitMembersRow.domain false) (Rows.waitMembersSpec.post enc Try.prog Try.f4 false true false false) := by
  refine returnsInHanded_of_change (C := Try.checked) own started (by kernel_rfl) Try.func4
    (ChangeSpec.witness6 (enc := enc) (C := Try.checked) false ⟨#[], #[.agg #[.int .i64 0, .int .i64 0, .slice none 0 0, .slice none 0 0, .slice none 0 0, .slice none 0 0, .slice none 0 0, .slice none 0 0, .slice none 0 0, .slice none 0 0], .int .i64 0], []⟩ 8 (by kernel_rfl) (by kernel_rfl) (by kernel_rfl) (by kernel_rfl)) ?_
  intro W base args ds gs before hval hW _ _
  exact law_contract (n := 5) (tb := 4) Try.func4 rfl rfl (by kernel_rfl) laidOut (by kernel_rfl) (by kernel_rfl) rfl
    (fun H ds h => by
      match ds, h with
      | [d1, d2], _ => rfl) members_main W base args ds gs before hval hW
theorem waitMembers_holds : Rows.WaitMembersSaid :=
  OpenClaim.holds_of_wide 4 Try.f4 rfl rfl rfl rfl rfl rfl rfl ⟨rfl, rfl, rfl, rfl, rfl⟩ rfl rfl rfl rfl rfl (by kernel_rfl) Try.func4 (by kernel_rfl)
    (of_decide_eq_true (by kernel_rfl)) (by unfold Func.isWrapper; first | (rw [if_pos (by decide +kernel)]; kernel_rfl) | (rw [if_neg (by decide +kernel)]; exact ⟨rfl, rfl⟩))
    (fun os started H enc _ => waitMembers_lifted os started H enc)
end Ytccgdcmgjdhikaa
end Go.Proofs
