/- Proved: WaitChainsSaid: for every input that can be read as data the law returns true and leaves its arguments as they were; no condition is added. -/
import Derived.Test.YtccgdcmgjdhikaaGreatWzy
set_option linter.unusedVariables false
set_option linter.unusedSimpArgs false
set_option linter.unusedSectionVars false
set_option linter.unnecessarySimpa false
set_option linter.unusedSimpArgs false
set_option linter.unusedVariables false
set_option maxRecDepth 100000
namespace Go.Proofs
open Go.AM Go.ChangeShapes Go.WideShapes Go.ChangeAt Go.RowKit
namespace YtccgdcmgjdhikaaGreat
variable {Gl : Globs}

/-- the thread that the reference looks at next -/
def zF (t : TraceT) (a th : Int) (xs : List Int) : Int := if xs = [] then th else onF t a (lastI xs)
theorem lastI_snoc (xs : List Int) (q : Int) : lastI (xs ++ [q]) = q := by unfold lastI; rw [List.length_append]; simp
theorem zF_snoc (t : TraceT) (a th : Int) (xs : List Int) (q : Int) : zF t a th (xs ++ [q]) = onF t a q := by
  unfold zF; rw [if_neg (by simp), lastI_snoc]
def goF (t : TraceT) (a th : Int) (xs : List Int) : Bool := ((atS t.states (zF t a th xs) a).isSome && hasT t.threads (zF t a th xs)) && !(xs.any fun y => y == zF t a th xs)
theorem any_swap (xs : List Int) (q : Int) : (xs.any fun y => y == q) = xs.any fun y => q == y := by
  congr 1; funext y; rw [Bool.eq_iff_iff]; simp; exact ⟨fun h => h.symm, fun h => h.symm⟩
theorem go_stop {t : TraceT} (h : traceF t = 0) {a th : Int} {xs : List Int} (hp : 0 < xs.length) (hs : (atS t.states (lastI xs) a).isSome = true) : goF t a th xs = !stopF t a xs ∧ (goF t a th xs = true → zF t a th xs = nxN t a (lastI xs)) := by
  have hz : zF t a th xs = onF t a (lastI xs) := by
    unfold zF; rw [if_neg (by intro e; rw [e] at hp; simp at hp)]
  obtain ⟨y, hy⟩ : ∃ y, y = lastI xs := ⟨_, rfl⟩
  rw [← hy] at hs hz
  by_cases ho : okN t a y = true
  · have e1 := onF_ok ho
    have e2 := (okN_at ho).2.2
    rw [hz, e1]
    unfold goF stopF
    rw [hz, e1, ← hy, show (nextF t y a).2 = true from ho, show (nextF t y a).1 = nxN t a y from rfl, e2, any_swap]
    refine ⟨?_, fun _ => rfl⟩
    cases (atS t.states (nxN t a y) a).isSome <;> cases (xs.any fun z => nxN t a y == z) <;> rfl
  · have ho : okN t a y = false := by simpa using ho
    have hst : stopF t a xs = true := by
      unfold stopF; rw [← hy, show (nextF t y a).2 = false from ho]; simp
    have hgo : goF t a th xs = false := by
      unfold goF
      rw [hz]
      by_cases h2 : ((atS t.states y a).getD default).state = 2
      · have e : onF t a y = nxN t a y := by rw [onF, if_neg (by rw [hs, h2]; simp)]; rfl
        have hk : hasT t.threads (nxN t a y) = false := by
          unfold okN nextF at ho
          rw [hs, h2] at ho
          simpa [nxN, nextF] using ho
        rw [e, hk]; simp
      · have e : onF t a y = -1 := by rw [onF, if_pos (by simp [h2])]
        rw [e, at_neg h]; simp
    rw [hgo, hst]
    exact ⟨rfl, fun h => by cases h⟩
set_option maxHeartbeats 2000000 in
theorem k_RChain (t : TraceT) (ht : t.Few) (th a : Int) : Pure Tryz.prog Gl 10 [.d t.toD, .d (.int .i64 th), .d (.int .i64 a)] (.tup [.d (.sl ((chainF t th a).1.map HopT.toD)), .d (.int .i64 (chainF t th a).2)]) := by
  refine Pure.of3t2 ?_
  have hth := ht.threads
  obtain ⟨F, hF⟩ : ∃ F, F = chainF t th a := ⟨_, rfl⟩
  rw [← hF]
  rw [chainF] at hF
  refine acalls_of Tryz.func10 rfl rfl (by simp [Tryz.ntmps10]) (evC_sound rfl _ _ _ _ ?_)
  simp only [Tryz.ntmps10, Tryz.results10, argEnv, List.length_nil]
  simp only [zC, seval, implies_true, Nat.reduceLeDiff, Nat.reduceEqDiff, reduceCtorEq, reduceIte]
  repeat ((with_reducible refine And.intro ?_ ?_); (focus (first | omega | (simp only [List.length_take, List.length_drop, List.length_map, List.length_append, List.length_cons]; omega) | (refine (show quietOp _ = true from ?_); rfl) | (refine (show drawOk _ _ _ _ _ _ _ from Or.inl ?_); kernel_rfl) | (intros; simp_all; done))))
  refine callF_pure (k_RtraceCheck t ht) ?_
  simp only [zC, seval, implies_true, Nat.reduceLeDiff, Nat.reduceEqDiff, reduceCtorEq, reduceIte]
  refine ifC.mk (fun h1 => ?_) (fun h1 => ?_)
  · have h1 := bne_iff_ne.1 h1
    rw [if_pos h1] at hF
    repeat ((with_reducible refine And.intro ?_ ?_); (focus (first | omega | (simp only [List.length_take, List.length_drop, List.length_map, List.length_append, List.length_cons]; omega) | (refine (show quietOp _ = true from ?_); rfl) | (refine (show drawOk _ _ _ _ _ _ _ from Or.inl ?_); kernel_rfl) | (intros; simp_all; done))))
    refine ⟨_, _, ret_tdata (x := .sl []) (by rfl) (by rfl), ?_, rfl⟩
    rw [hF]; rfl
  · have h1 : traceF t = 0 := by simpa using h1
    rw [if_neg (by rw [h1]; simp)] at hF
    refine callF_pure (k_RHas t ht _) ?_
    simp only [zC, seval, implies_true, Nat.reduceLeDiff, Nat.reduceEqDiff, reduceCtorEq, reduceIte]
    refine ifC.mk (fun h2 => ?_) (fun h2 => ?_)
    · rw [if_pos (by rw [← Bool.not_eq_true']; exact h2)] at hF
      repeat ((with_reducible refine And.intro ?_ ?_); (focus (first | omega | (simp only [List.length_take, List.length_drop, List.length_map, List.length_append, List.length_cons]; omega) | (refine (show quietOp _ = true from ?_); rfl) | (refine (show drawOk _ _ _ _ _ _ _ from Or.inl ?_); kernel_rfl) | (intros; simp_all; done))))
      refine ⟨_, _, ret_tdata (x := .sl []) (by rfl) (by rfl), ?_, rfl⟩
      rw [hF]; rfl
    · rw [if_neg (by intro e; rw [e] at h2; cases h2)] at hF
      have h2 : hasT t.threads th = true := by simpa using h2
      repeat ((with_reducible refine And.intro ?_ ?_); (focus (first | omega | (simp only [List.length_take, List.length_drop, List.length_map, List.length_append, List.length_cons]; omega) | (refine (show quietOp _ = true from ?_); rfl) | (refine (show drawOk _ _ _ _ _ _ _ from Or.inl ?_); kernel_rfl) | (intros; simp_all; done))))
      refine callF_pure (k_RAt _ _ _ ht.states) ?_
      simp only [zC, seval, implies_true, Nat.reduceLeDiff, Nat.reduceEqDiff, reduceCtorEq, reduceIte]
      repeat ((with_reducible refine And.intro ?_ ?_); (focus (first | omega | (simp only [List.length_take, List.length_drop, List.length_map, List.length_append, List.length_cons]; omega) | (refine (show quietOp _ = true from ?_); rfl) | (refine (show drawOk _ _ _ _ _ _ _ from Or.inl ?_); kernel_rfl) | (intros; simp_all; done))))
      refine ifC.mk (fun h3 => ?_) (fun h3 => ?_)
      · rw [if_pos (by rw [← Bool.not_eq_true']; exact h3)] at hF
        repeat ((with_reducible refine And.intro ?_ ?_); (focus (first | omega | (simp only [List.length_take, List.length_drop, List.length_map, List.length_append, List.length_cons]; omega) | (refine (show quietOp _ = true from ?_); rfl) | (refine (show drawOk _ _ _ _ _ _ _ from Or.inl ?_); kernel_rfl) | (intros; simp_all; done))))
        refine ⟨_, _, ret_tdata (x := .sl []) (by rfl) (by rfl), ?_, rfl⟩
        rw [hF]; rfl
      · rw [if_neg (by intro e; rw [e] at h3; cases h3)] at hF
        have h3 : (atS t.states th a).isSome = true := by
          cases hq : (atS t.states th a).isSome
          · rw [hq] at h3; cases h3
          · rfl
        repeat ((with_reducible refine And.intro ?_ ?_); (focus (first | omega | (simp only [List.length_take, List.length_drop, List.length_map, List.length_append, List.length_cons]; omega) | (refine (show quietOp _ = true from ?_); rfl) | (refine (show drawOk _ _ _ _ _ _ _ from Or.inl ?_); kernel_rfl) | (intros; simp_all; done))))
        obtain ⟨N, hN⟩ : ∃ N, N = t.threads.length := ⟨_, rfl⟩
        refine loop_of (τ := Nat × List Int) (fun p => [(1, .d (.int .i64 (zF t a th p.2))), (2, .d (.int .i64 a)), (3, .ptr 0 0), (9, .ptr 1 0), (10, .d (.bool (atS t.states (zF t a th p.2) a).isSome)), (11, .osl 2 0 p.2.length)]) (fun p => [.box 10 (.d t.toD), .box 7 (.d ((atS t.states (zF t a th p.2) a).getD default).toD), .arr 4 ((p.2.map (hopF t a)).map HopT.toD)])
          (fun p => (p.2 = [] ∧ p.1 = N + 3) ∨ (0 < p.2.length ∧ p.2.length + p.1 = N + 3 ∧ FollowOk t a th p.2 ∧ ∃ n, cntF t.threads p.2 < n ∧ p.1 = n + 1 ∧ followF t th a = folF t a n p.2)) (fun p => p.1) (N + 3, []) (.inl ⟨rfl, rfl⟩) ?_ ?_
        · refine (weak_nils 11 4 rfl).trans ?_
          refine weak_to [] [0, 1, 2] rfl (by simp) ?_ ?_
          · simp only [zC, seval, implies_true, Nat.reduceLeDiff, Nat.reduceEqDiff, reduceCtorEq, reduceIte, zF]
            all_goals rfl
          · rfl
        · rintro ⟨n, xs⟩ hinv
          simp only at hinv
          have hxl : xs.length ≤ N + 3 := by
            rcases hinv with ⟨rfl, _⟩ | ⟨_, h5, _⟩
            · simp
            · omega
          have hmap : (xs.map (hopF t a)).length = xs.length := List.length_map _
          have hany : ∀ z, ((xs.map (hopF t a)).any fun y => y.thread == z) = xs.any fun y => y == z := fun z => by rw [List.any_map]; rfl
          obtain ⟨z, hz⟩ : ∃ z, z = zF t a th xs := ⟨_, rfl⟩
          rw [← hz]
          obtain ⟨o, eo⟩ : ∃ o, o = atS t.states z a := ⟨_, rfl⟩
          rw [← eo]
          simp only [zC, seval, implies_true, Nat.reduceLeDiff, Nat.reduceEqDiff, reduceCtorEq, reduceIte]
          repeat ((with_reducible refine And.intro ?_ ?_); (focus (first | omega | (simp only [List.length_take, List.length_drop, List.length_map, List.length_append, List.length_cons]; omega) | (refine (show quietOp _ = true from ?_); rfl) | (refine (show drawOk _ _ _ _ _ _ _ from Or.inl ?_); kernel_rfl) | (intros; simp_all; done))))
          refine callG_pure (fun _ => k_RHas t ht _) ?_
          simp only [zC, seval, implies_true, Nat.reduceLeDiff, Nat.reduceEqDiff, reduceCtorEq, reduceIte]
          repeat ((with_reducible refine And.intro ?_ ?_); (focus (first | omega | (simp only [List.length_take, List.length_drop, List.length_map, List.length_append, List.length_cons]; omega) | (refine (show quietOp _ = true from ?_); rfl) | (refine (show drawOk _ _ _ _ _ _ _ from Or.inl ?_); kernel_rfl) | (intros; simp_all; done))))
          refine callG_at1 2 (fun B hB => k_in (xs.map (hopF t a)) z (by omega) B hB) (fun _ => by rw [hmap]; rfl) (by rfl) ?_
          rw [hany]
          simp only [zC, seval, implies_true, Nat.reduceLeDiff, Nat.reduceEqDiff, reduceCtorEq, reduceIte]
          repeat ((with_reducible refine And.intro ?_ ?_); (focus (first | omega | (simp only [List.length_take, List.length_drop, List.length_map, List.length_append, List.length_cons]; omega) | (refine (show quietOp _ = true from ?_); rfl) | (refine (show drawOk _ _ _ _ _ _ _ from Or.inl ?_); kernel_rfl) | (intros; simp_all; done))))
          have hgo : goF t a th xs = (o.isSome && hasT t.threads z && !xs.any fun y => y == z) := by unfold goF; rw [← hz, ← eo]
          have hhop : D.agg [.int .i64 z, .int .i64 (o.getD default).state, .int .i64 (o.getD default).lo, .int .i64 (o.getD default).hi] = (hopF t a z).toD := by unfold hopF; rw [← eo]; rfl
          have htk : List.take xs.length (List.map HopT.toD (List.map (hopF t a) xs)) = List.map HopT.toD (List.map (hopF t a) xs) := List.take_of_length_le (by simp)
          refine ifC.mk (fun hc => ?_) (fun hc => ?_)
          · repeat ((with_reducible refine And.intro ?_ ?_); (focus (first | omega | (simp only [List.length_take, List.length_drop, List.length_map, List.length_append, List.length_cons]; omega) | (refine (show quietOp _ = true from ?_); rfl) | (refine (show drawOk _ _ _ _ _ _ _ from Or.inl ?_); kernel_rfl) | (intros; simp_all; done))))
            refine callF_pure (k_On t ht _ _) ?_
            simp only [zC, seval, implies_true, Nat.reduceLeDiff, Nat.reduceEqDiff, reduceCtorEq, reduceIte]
            refine callF_pure (k_RAt _ _ _ ht.states) ?_
            simp only [zC, seval, implies_true, Nat.reduceLeDiff, Nat.reduceEqDiff, reduceCtorEq, reduceIte, htk, hhop]
            repeat ((with_reducible refine And.intro ?_ ?_); (focus (first | omega | (simp only [List.length_take, List.length_drop, List.length_map, List.length_append, List.length_cons]; omega) | (refine (show quietOp _ = true from ?_); rfl) | (refine (show drawOk _ _ _ _ _ _ _ from Or.inl ?_); kernel_rfl) | (intros; simp_all; done))))
            refine ⟨(n - 1, xs ++ [z]), ?_, ?_, ?_⟩
            · right
              rcases hinv with ⟨rfl, h5⟩ | ⟨h5, h6, h7, n', h8, h9, h10⟩
              · have hzt : z = th := by rw [hz]; rfl
                subst hzt
                refine ⟨by simp, by simp only [List.nil_append, List.length_cons, List.length_nil]; omega, ?_, N + 1, ?_, by simp only; omega, by rw [hN]; rfl⟩
                · exact follow_ok t a z 0 [z] ⟨by simp, by simp, fun i hi => by
                    have : i = 0 := by simpa using hi
                    subst this; simpa using h3, fun i hi => by simp at hi, fun k i hk hi => by simp only [List.length_cons, List.length_nil] at hi; omega⟩
                · have := List.countP_le_length (p := fun x : ThreadT => !([] ++ [z] : List Int).any (fun y => x.id == y)) (l := t.threads)
                  unfold cntF; simp only; omega
              · have hl := h7.at_ (xs.length - 1) (by omega)
                obtain ⟨g1, g2⟩ := go_stop h1 (th := th) h5 (show (atS t.states (lastI xs) a).isSome = true from hl)
                have hgt : goF t a th xs = true := by rw [hgo]; exact hc
                have hst : stopF t a xs = false := by rw [hgt] at g1; simpa using g1.symm
                have hzn : z = nxN t a (lastI xs) := by rw [hz]; exact g2 hgt
                obtain ⟨m, rfl⟩ : ∃ m, n' = m + 1 := ⟨n' - 1, by omega⟩
                obtain ⟨s1, s2, s3⟩ := stopF_go hst
                rw [folF, if_neg (by rw [hst]; simp), show (nextF t (lastI xs) a).1 = z from hzn.symm] at h10
                have hcl := cnt_lt s3 (next_has s1)
                rw [show (nextF t (lastI xs) a).1 = z from hzn.symm] at hcl
                have hok := follow_ok t a th 1 xs h7
                rw [folF, if_neg (by rw [hst]; simp), show (nextF t (lastI xs) a).1 = z from hzn.symm] at hok
                refine ⟨by simp, by simp only [List.length_append, List.length_cons, List.length_nil]; omega, hok, m, by simp only; omega, by simp only; omega, h10⟩
            · simp only
              rcases hinv with ⟨_, h5⟩ | ⟨_, _, _, n', _, h9, _⟩ <;> omega
            · refine weak_to [] [0, 1, 4] rfl (by simp) ?_ ?_
              · simp only [zC, seval, implies_true, Nat.reduceLeDiff, Nat.reduceEqDiff, reduceCtorEq, reduceIte, List.length_append, zF_snoc]
                all_goals rfl
              · simp only [zC, seval, implies_true, Nat.reduceLeDiff, Nat.reduceEqDiff, reduceCtorEq, reduceIte, List.map_append, zF_snoc]
                all_goals rfl
          · have hgf : goF t a th xs = false := by rw [hgo]; exact hc
            rcases hinv with ⟨rfl, h5⟩ | ⟨h5, h6, h7, n', h8, h9, h10⟩
            · exfalso
              have hzt : z = th := by rw [hz]; rfl
              subst hzt
              rw [hgo, eo, h3, h2] at hgf
              simp at hgf
            · have hl := h7.at_ (xs.length - 1) (by omega)
              obtain ⟨g1, g2⟩ := go_stop h1 (th := th) h5 (show (atS t.states (lastI xs) a).isSome = true from hl)
              have hst : stopF t a xs = true := by rw [hgf] at g1; simpa using g1.symm
              obtain ⟨m, rfl⟩ : ∃ m, n' = m + 1 := ⟨n' - 1, by omega⟩
              rw [folF, if_pos hst] at h10
              repeat ((with_reducible refine And.intro ?_ ?_); (focus (first | omega | (simp only [List.length_take, List.length_drop, List.length_map, List.length_append, List.length_cons]; omega) | (refine (show quietOp _ = true from ?_); rfl) | (refine (show drawOk _ _ _ _ _ _ _ from Or.inl ?_); kernel_rfl) | (intros; simp_all; done))))
              refine ⟨_, _, ret_tdata rfl rfl, ?_, rfl⟩
              rw [hF, h10]
              simp only [zC, seval, implies_true, Nat.reduceLeDiff, Nat.reduceEqDiff, reduceCtorEq, reduceIte, htk]
              all_goals rfl
set_option maxHeartbeats 2000000 in
theorem k_Chains (t : TraceT) (th a : Int) : Pure Tryz.prog Gl 3 [.d t.toD, .d (.int .i64 th), .d (.int .i64 a)] (.d (.bool true)) := by
  refine Pure.of3 ?_
  refine acalls_of Tryz.func3 rfl rfl (by simp [Tryz.ntmps3]) (evC_sound rfl _ _ _ _ ?_)
  simp only [Tryz.ntmps3, Tryz.results3, argEnv, List.length_nil]
  simp only [zC, seval, implies_true, Nat.reduceLeDiff, Nat.reduceEqDiff, reduceCtorEq, reduceIte]
  repeat ((with_reducible refine And.intro ?_ ?_); (focus (first | omega | (simp only [List.length_take, List.length_drop, List.length_map, List.length_append, List.length_cons]; omega) | (refine (show quietOp _ = true from ?_); rfl) | (refine (show drawOk _ _ _ _ _ _ _ from Or.inl ?_); kernel_rfl) | (intros; simp_all; done))))
  refine callF_pure (k_few t) ?_
  simp only [zC, seval, implies_true, Nat.reduceLeDiff, Nat.reduceEqDiff, reduceCtorEq, reduceIte]
  refine ifC.mk (fun hf => ?_) (fun hf => ?_)
  · refine callF_pure k_lives ?_
    simp only [zC, seval, implies_true, Nat.reduceLeDiff, Nat.reduceEqDiff, reduceCtorEq, reduceIte]
    exact ⟨_, _, ret_d, rfl, rfl⟩
  · have hf : fewF t = true := by simpa using hf
    have ht := few_few hf
    have hth := ht.threads
    refine callF_pure (k_Chain t ht th a) ?_
    simp only [zC, seval, implies_true, Nat.reduceLeDiff, Nat.reduceEqDiff, reduceCtorEq, reduceIte]
    refine callF_pure (k_RChain t ht th a) ?_
    obtain ⟨L, hL⟩ : ∃ L, L = (chainF t th a).1 := ⟨_, rfl⟩
    obtain ⟨e, he⟩ : ∃ e, e = (chainF t th a).2 := ⟨_, rfl⟩
    rw [← hL, ← he]
    have hlen : L.length ≤ t.threads.length + 2 := by
      rw [hL, chainF]
      split
      · simp
      · split
        · simp
        · split
          · simp
          · rw [List.length_map]; exact followF_len t th a
    simp only [zC, seval, implies_true, Nat.reduceLeDiff, Nat.reduceEqDiff, reduceCtorEq, reduceIte, bne_self_eq_false]
    repeat ((with_reducible refine And.intro ?_ ?_); (focus (first | omega | (simp only [List.length_take, List.length_drop, List.length_map, List.length_append, List.length_cons]; omega) | (refine (show quietOp _ = true from ?_); rfl) | (refine (show drawOk _ _ _ _ _ _ _ from Or.inl ?_); kernel_rfl) | (intros; simp_all; done))))
    refine for_of L.length (fun k => [(7, .d (.sl (L.map HopT.toD))), (9, .d (.sl (L.map HopT.toD))), (11, .d (.int .i64 k))]) (fun _ => []) (fun _ => True) trivial ?_ ?_
    · refine weak_to [] [] rfl List.nodup_nil ?_ rfl
      simp only [zC, seval, implies_true, Nat.reduceLeDiff, Nat.reduceEqDiff, reduceCtorEq, reduceIte, Int.cast_ofNat_Int]
    · intro k _ hk
      by_cases h : k < L.length
      · have hb : (L.getD k default).toD = .agg [.int .i64 (L.getD k default).thread, .int .i64 (L.getD k default).state, .int .i64 (L.getD k default).lo, .int .i64 (L.getD k default).hi] := rfl
        simp only [zC, seval, implies_true, Nat.reduceLeDiff, Nat.reduceEqDiff, reduceCtorEq, reduceIte, (show (k:Int) < L.length by omega), h, a_getD _ _ _ (show k < L.length by omega), hb, bne_self_eq_false, beq_self_eq_true, Bool.and_true, Bool.true_and, Bool.not_true, Bool.and_self]
        repeat ((with_reducible refine And.intro ?_ ?_); (focus (first | omega | (simp only [List.length_take, List.length_drop, List.length_map, List.length_append, List.length_cons]; omega) | (refine (show quietOp _ = true from ?_); rfl) | (refine (show drawOk _ _ _ _ _ _ _ from Or.inl ?_); kernel_rfl) | (intros; simp_all; done))))
        refine weak_to [] [] rfl List.nodup_nil ?_ rfl
        simp only [zC, seval, implies_true, Nat.reduceLeDiff, Nat.reduceEqDiff, reduceCtorEq, reduceIte, @a_wrap ((k:Int) + 1) (by omega)]
      · simp only [zC, seval, implies_true, Nat.reduceLeDiff, Nat.reduceEqDiff, reduceCtorEq, reduceIte, (show ¬ (k:Int) < L.length by omega)]
        refine callF_pure k_lives ?_
        simp only [zC, seval, implies_true, Nat.reduceLeDiff, Nat.reduceEqDiff, reduceCtorEq, reduceIte]
        exact ⟨_, _, ret_d, rfl, rfl⟩
theorem chains_main (xs : List D) (h : TypedAll Tryz.prog 5 Tryz.f3.params.toList xs) : ACalls Tryz.prog [] 3 (xs.map AV.d) [] (fun r _ => r = .d (.bool true)) := by
  rw [Tryz.params3] at h
  obtain ⟨x, _, rfl, h1, y, _, rfl, h2, z, _, rfl, h3, rfl⟩ := h
  obtain ⟨t, rfl⟩ := parTrace h1
  obtain ⟨th, rfl, _⟩ := parInt h2
  obtain ⟨a, rfl, _⟩ := parInt h3
  exact (k_Chains t th a []).mono fun r s h => h.1
theorem waitChains_lifted (os : Os) (started : os.Started) (H : Type) (enc : TypeId × Value → H) :
    ReturnsInHanded {} Tryz.checked os 3 .any (Rows.waitChainsSpec.pre6 enc Tryz.prog Tryz.f3 Rows.waitChainsRow.domain false) (Rows.waitChainsSpec.post enc Tryz.prog Tryz.f3 false true false false) := by
  refine returnsInHanded_of_change (C := Tryz.checked) own started (by kernel_rfl) Tryz.func3
    (ChangeSpec.witness6 (enc := enc) (C := Tryz.checked) false ⟨#[], #[.agg #[.int .i64 0, .int .i64 0, .slice none 0 0, .slice none 0 0, .slice none 0 0, .slice none 0 0, .slice none 0 0, .slice none 0 0, .slice none 0 0, .slice none 0 0], .int .i64 0, .int .i64 0], []⟩ 8 (by kernel_rfl) (by kernel_rfl) (by kernel_rfl) (by kernel_rfl)) ?_
  intro W base args ds gs before hval hW _ _
  exact law_contract (n := 5) (tb := 4) Tryz.func3 rfl rfl (by kernel_rfl) laidOut (by kernel_rfl) (by kernel_rfl) rfl
    (fun H ds h => by
      match ds, h with
      | [d1, d2, d3], _ => rfl) chains_main W base args ds gs before hval hW
theorem waitChains_holds : Rows.WaitChainsSaid :=
  OpenClaim.holds_of_wide 3 Tryz.f3 rfl rfl rfl rfl rfl rfl rfl ⟨rfl, rfl, rfl, rfl, rfl⟩ rfl rfl rfl rfl rfl (by kernel_rfl) Tryz.func3 (by kernel_rfl)
    (of_decide_eq_true (by kernel_rfl)) (by unfold Func.isWrapper; first | (rw [if_pos (by decide +kernel)]; kernel_rfl) | (rw [if_neg (by decide +kernel)]; exact ⟨rfl, rfl⟩))
    (fun os started H enc _ => waitChains_lifted os started H enc)
end YtccgdcmgjdhikaaGreat
end Go.Proofs
