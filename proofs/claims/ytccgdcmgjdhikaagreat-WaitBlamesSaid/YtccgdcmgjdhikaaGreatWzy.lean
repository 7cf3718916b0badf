/- A part of the proof: contracts of functions of this seat, and lemmas. No condition beyond those stated. -/
import Derived.Test.YtccgdcmgjdhikaaGreatWzx
set_option linter.unusedVariables false
set_option linter.unusedSimpArgs false
set_option linter.unusedSectionVars false
set_option linter.unnecessarySimpa false
set_option linter.unusedSimpArgs false
set_option linter.unusedVariables false
set_option maxRecDepth 100000
namespace Go.Proofs
open Go.AM
namespace YtccgdcmgjdhikaaGreat
variable {Gl : Globs}

theorem k_in (xs : List HopT) (x : Int) (hl : xs.length < 2000000) (B : Blk) (hB : ArrOrFrz 4 (xs.map HopT.toD) B) : ACalls Tryz.prog Gl 25 [.osl 0 0 xs.length, .d (.int .i64 x)] [B] (fun r s => r = .d (.bool (xs.any (fun y => y.thread == x))) ∧ s = [B]) := by
  rcases hB with rfl | rfl
  · refine acalls_of Tryz.func25 rfl rfl (by simp [Tryz.ntmps25]) (evC_sound rfl _ _ _ _ ?_)
    simp only [Tryz.ntmps25, Tryz.results25, argEnv, List.length_nil]
    simp only [zC, seval, implies_true, Nat.reduceLeDiff, Nat.reduceEqDiff, reduceCtorEq, reduceIte]
    refine for_of xs.length (fun k => [(0, .osl 0 0 xs.length), (1, .d (.int .i64 x)), (5, .d (.int .i64 k))]) (fun _ => [.arr 4 (xs.map HopT.toD)]) (fun k => (xs.take k).any (fun y => y.thread == x) = false) rfl ?_ ?_
    · refine weak_to [] [0] rfl (by simp) ?_ rfl
      simp only [zC, seval, implies_true, Nat.reduceLeDiff, Nat.reduceEqDiff, reduceCtorEq, reduceIte, Int.cast_ofNat_Int]
      all_goals rfl
    · intro k hi hk
      by_cases h : k < xs.length
      · have hs := any_take (fun y : HopT => y.thread == x) xs k h
        simp only [zC, seval, implies_true, Nat.reduceLeDiff, Nat.reduceEqDiff, reduceCtorEq, reduceIte, (show (k:Int) < xs.length by omega), h, a_getD _ _ _ (show k < xs.length by omega)]
        repeat ((with_reducible refine And.intro ?_ ?_); (focus (first | omega | (simp only [List.length_take, List.length_drop, List.length_map, List.length_append, List.length_cons]; omega) | (refine (show quietOp _ = true from ?_); rfl) | (refine (show drawOk _ _ _ _ _ _ _ from Or.inl ?_); kernel_rfl) | (intros; simp_all; done))))
        refine ifC.mk (fun hc => ?_) (fun hc => ?_)
        · refine ⟨_, _, weakR_to [] [0] rfl (by simp) (show renV _ _ _ = AV.d _ from rfl) rfl, ?_, rfl⟩
          rw [any_at (fun y : HopT => y.thread == x) xs k h hc]
        · refine ⟨by rw [hs, hi, hc]; rfl, ?_⟩
          refine weak_to [] [0] rfl (by simp) ?_ rfl
          simp only [zC, seval, implies_true, Nat.reduceLeDiff, Nat.reduceEqDiff, reduceCtorEq, reduceIte, @a_wrap ((k:Int) + 1) (by omega)]
          all_goals rfl
      · simp only [zC, seval, implies_true, Nat.reduceLeDiff, Nat.reduceEqDiff, reduceCtorEq, reduceIte, (show ¬ (k:Int) < xs.length by omega)]
        have : k = xs.length := by omega
        subst this
        rw [List.take_length] at hi
        refine ⟨_, _, weakR_to [] [0] rfl (by simp) (show renV _ _ _ = AV.d _ from rfl) rfl, ?_, rfl⟩
        rw [hi]
  · refine acalls_of Tryz.func25 rfl rfl (by simp [Tryz.ntmps25]) (evC_sound rfl _ _ _ _ ?_)
    simp only [Tryz.ntmps25, Tryz.results25, argEnv, List.length_nil]
    simp only [zC, seval, implies_true, Nat.reduceLeDiff, Nat.reduceEqDiff, reduceCtorEq, reduceIte]
    refine for_of xs.length (fun k => [(0, .osl 0 0 xs.length), (1, .d (.int .i64 x)), (5, .d (.int .i64 k))]) (fun _ => [.frz 4 (xs.map HopT.toD)]) (fun k => (xs.take k).any (fun y => y.thread == x) = false) rfl ?_ ?_
    · refine weak_to [] [0] rfl (by simp) ?_ rfl
      simp only [zC, seval, implies_true, Nat.reduceLeDiff, Nat.reduceEqDiff, reduceCtorEq, reduceIte, Int.cast_ofNat_Int]
      all_goals rfl
    · intro k hi hk
      by_cases h : k < xs.length
      · have hs := any_take (fun y : HopT => y.thread == x) xs k h
        simp only [zC, seval, implies_true, Nat.reduceLeDiff, Nat.reduceEqDiff, reduceCtorEq, reduceIte, (show (k:Int) < xs.length by omega), h, a_getD _ _ _ (show k < xs.length by omega)]
        repeat ((with_reducible refine And.intro ?_ ?_); (focus (first | omega | (simp only [List.length_take, List.length_drop, List.length_map, List.length_append, List.length_cons]; omega) | (refine (show quietOp _ = true from ?_); rfl) | (refine (show drawOk _ _ _ _ _ _ _ from Or.inl ?_); kernel_rfl) | (intros; simp_all; done))))
        refine ifC.mk (fun hc => ?_) (fun hc => ?_)
        · refine ⟨_, _, weakR_to [] [0] rfl (by simp) (show renV _ _ _ = AV.d _ from rfl) rfl, ?_, rfl⟩
          rw [any_at (fun y : HopT => y.thread == x) xs k h hc]
        · refine ⟨by rw [hs, hi, hc]; rfl, ?_⟩
          refine weak_to [] [0] rfl (by simp) ?_ rfl
          simp only [zC, seval, implies_true, Nat.reduceLeDiff, Nat.reduceEqDiff, reduceCtorEq, reduceIte, @a_wrap ((k:Int) + 1) (by omega)]
          all_goals rfl
      · simp only [zC, seval, implies_true, Nat.reduceLeDiff, Nat.reduceEqDiff, reduceCtorEq, reduceIte, (show ¬ (k:Int) < xs.length by omega)]
        have : k = xs.length := by omega
        subst this
        rw [List.take_length] at hi
        refine ⟨_, _, weakR_to [] [0] rfl (by simp) (show renV _ _ _ = AV.d _ from rfl) rfl, ?_, rfl⟩
        rw [hi]
theorem k_RAt (l : List StateT) (th t : Int) (hl : l.length < 1000000) : Pure Tryz.prog Gl 24 [.d (.sl (l.map StateT.toD)), .d (.int .i64 th), .d (.int .i64 t)] (.tup [.d ((atS l th t).getD default).toD, .d (.bool (atS l th t).isSome)]) := by
  refine Pure.of3t2 ?_
  refine acalls_of Tryz.func24 rfl rfl (by simp [Tryz.ntmps24]) (evC_sound rfl _ _ _ _ ?_)
  simp only [Tryz.ntmps24, Tryz.results24, argEnv, List.length_nil]
  simp only [zC, seval, implies_true, Nat.reduceLeDiff, Nat.reduceEqDiff, reduceCtorEq, reduceIte]
  repeat ((with_reducible refine And.intro ?_ ?_); (focus (first | omega | (simp only [List.length_take, List.length_drop, List.length_map, List.length_append, List.length_cons]; omega) | (refine (show quietOp _ = true from ?_); rfl) | (refine (show drawOk _ _ _ _ _ _ _ from Or.inl ?_); kernel_rfl) | (intros; simp_all; done))))
  refine for_of l.length (fun k => [(0, .d (.sl (l.map StateT.toD))), (1, .d (.int .i64 th)), (2, .d (.int .i64 t)), (6, .ptr 0 0), (8, .d (.int .i64 k))]) (fun _ => [.box 7 (.d (default : StateT).toD)]) (fun k => (l.take k).any (atB th t) = false) rfl ?_ ?_
  · refine weak_to [] [0] rfl (by simp) ?_ ?_
    · simp only [zC, seval, implies_true, Nat.reduceLeDiff, Nat.reduceEqDiff, reduceCtorEq, reduceIte, Int.cast_ofNat_Int]
      all_goals rfl
    · rfl
  · intro k hi hk
    by_cases h : k < l.length
    · have hs := any_take (atB th t) l k h
      simp only [zC, seval, implies_true, Nat.reduceLeDiff, Nat.reduceEqDiff, reduceCtorEq, reduceIte, (show (k:Int) < l.length by omega), h, a_getD _ _ _ (show k < l.length by omega)]
      repeat ((with_reducible refine And.intro ?_ ?_); (focus (first | omega | (simp only [List.length_take, List.length_drop, List.length_map, List.length_append, List.length_cons]; omega) | (refine (show quietOp _ = true from ?_); rfl) | (refine (show drawOk _ _ _ _ _ _ _ from Or.inl ?_); kernel_rfl) | (intros; simp_all; done))))
      refine ifC.mk (fun hc => ?_) (fun hc => ?_)
      · repeat ((with_reducible refine And.intro ?_ ?_); (focus (first | omega | (simp only [List.length_take, List.length_drop, List.length_map, List.length_append, List.length_cons]; omega) | (refine (show quietOp _ = true from ?_); rfl) | (refine (show drawOk _ _ _ _ _ _ _ from Or.inl ?_); kernel_rfl) | (intros; simp_all; done))))
        refine ⟨_, _, ret_t2, ?_, rfl⟩
        rw [show atS l th t = some (l.getD k default) from find_take h hi hc]
        rfl
      · refine ⟨by rw [hs, hi, show atB th t (l.getD k default) = false from hc]; rfl, ?_⟩
        refine weak_to [] [0] rfl (by simp) ?_ rfl
        simp only [zC, seval, implies_true, Nat.reduceLeDiff, Nat.reduceEqDiff, reduceCtorEq, reduceIte, @a_wrap ((k:Int) + 1) (by omega)]
        all_goals rfl
    · simp only [zC, seval, implies_true, Nat.reduceLeDiff, Nat.reduceEqDiff, reduceCtorEq, reduceIte, (show ¬ (k:Int) < l.length by omega)]
      have : k = l.length := by omega
      subst this
      rw [List.take_length] at hi
      repeat ((with_reducible refine And.intro ?_ ?_); (focus (first | omega | (simp only [List.length_take, List.length_drop, List.length_map, List.length_append, List.length_cons]; omega) | (refine (show quietOp _ = true from ?_); rfl) | (refine (show drawOk _ _ _ _ _ _ _ from Or.inl ?_); kernel_rfl) | (intros; simp_all; done))))
      refine ⟨_, _, ret_t2, ?_, rfl⟩
      rw [show atS l th t = none from find_none hi]
      rfl
def onF (t : TraceT) (a y : Int) : Int := if (!(atS t.states y a).isSome || ((atS t.states y a).getD default).state != 2) = true then -1 else ((atS t.states y a).getD default).on_
theorem k_On (t : TraceT) (ht : t.Few) (y a : Int) : Pure Tryz.prog Gl 26 [.d t.toD, .d (.int .i64 y), .d (.int .i64 a)] (.d (.int .i64 (onF t a y))) := by
  refine Pure.of3 ?_
  refine acalls_of Tryz.func26 rfl rfl (by simp [Tryz.ntmps26]) (evC_sound rfl _ _ _ _ ?_)
  simp only [Tryz.ntmps26, Tryz.results26, argEnv, List.length_nil]
  simp only [zC, seval, implies_true, Nat.reduceLeDiff, Nat.reduceEqDiff, reduceCtorEq, reduceIte]
  repeat ((with_reducible refine And.intro ?_ ?_); (focus (first | omega | (simp only [List.length_take, List.length_drop, List.length_map, List.length_append, List.length_cons]; omega) | (refine (show quietOp _ = true from ?_); rfl) | (refine (show drawOk _ _ _ _ _ _ _ from Or.inl ?_); kernel_rfl) | (intros; simp_all; done))))
  refine callF_pure (k_RAt _ _ _ ht.states) ?_
  simp only [zC, seval, implies_true, Nat.reduceLeDiff, Nat.reduceEqDiff, reduceCtorEq, reduceIte]
  repeat ((with_reducible refine And.intro ?_ ?_); (focus (first | omega | (simp only [List.length_take, List.length_drop, List.length_map, List.length_append, List.length_cons]; omega) | (refine (show quietOp _ = true from ?_); rfl) | (refine (show drawOk _ _ _ _ _ _ _ from Or.inl ?_); kernel_rfl) | (intros; simp_all; done))))
  refine ifC.mk (fun h => ?_) (fun h => ?_)
  · refine ⟨_, _, ret_d, ?_, rfl⟩
    rw [onF, if_pos h]
  · repeat ((with_reducible refine And.intro ?_ ?_); (focus (first | omega | (simp only [List.length_take, List.length_drop, List.length_map, List.length_append, List.length_cons]; omega) | (refine (show quietOp _ = true from ?_); rfl) | (refine (show drawOk _ _ _ _ _ _ _ from Or.inl ?_); kernel_rfl) | (intros; simp_all; done))))
    refine ⟨_, _, ret_d, ?_, rfl⟩
    rw [onF, if_neg (by rw [h]; simp)]
/-! ### a valid trace -/
theorem ids_pos {ths : List ThreadT} (h : threadsF ths = 0) {n : Int} (hn : hasT ths n = true) : 0 ≤ n := by
  obtain ⟨x, hx, rfl⟩ := hasT_mem hn
  obtain ⟨k, hk, rfl⟩ := List.getElem_of_mem hx
  unfold threadsF at h
  split at h
  · omega
  · have := firstErr_zero h k hk
    unfold thrAt at this
    have e : ths.getD k default = ths[k] := by simp [hk]
    rw [e] at this
    split at this
    · rename_i h2; exact absurd this h2
    · rename_i h2
      have h2 : thrErr ths[k] = 0 := by simpa using h2
      unfold thrErr at h2
      split at h2
      · omega
      · rename_i h3
        simp only [Bool.not_eq_true, Bool.or_eq_false_iff, decide_eq_false_iff_not] at h3
        omega
theorem dist_has (l : List ThreadT) {x : Int} : ∀ k, x ∈ distF (l.take k) → hasT l x = true
  | 0, h => by simp [distF] at h
  | k + 1, h => by
    by_cases hk : k < l.length
    · rw [distF_step l k hk] at h
      split at h
      · exact dist_has l k h
      · rcases List.mem_append.1 h with h | h
        · exact dist_has l k h
        · have : x = (l.getD k default).id := by simpa using h
          unfold hasT; rw [List.any_eq_true]
          exact ⟨_, mem_getD hk, by rw [this]; simp⟩
    · rw [List.take_of_length_le (by omega)] at h
      refine dist_has l k ?_
      rw [List.take_of_length_le (by omega)]; exact h
theorem state_has {ths : List ThreadT} {l : List StateT} (h : stateF ths l = 0) {s : StateT} (hs : s ∈ l) : hasT ths s.thread = true := by
  obtain ⟨k, hk, rfl⟩ := List.getElem_of_mem hs
  have h0 : firstErr (uAt (distF ths) l) l.length = 0 := by
    apply Classical.byContradiction
    intro hc
    unfold stateF at h
    rw [if_pos hc] at h
    exact hc h
  have := firstErr_zero h0 k hk
  have e : l.getD k default = l[k] := by simp [hk]
  unfold uAt at this
  rw [e] at this
  split at this
  · omega
  · rename_i h1
    obtain ⟨j, hj⟩ : ∃ j : Nat, idxI (distF ths) l[k].thread = j := ⟨(idxI (distF ths) l[k].thread).toNat, by omega⟩
    have h2 := idxF_pos hj
    have hlt : idxI (distF ths) l[k].thread < (distF ths).length := idxF_lt _ _
    have h3 : l[k].thread ∈ distF ths := by
      have e2 : l[k].thread = (distF ths).getD j default := by simpa using h2
      rw [e2]; exact mem_getD (by omega)
    have := dist_has ths (x := l[k].thread) ths.length (by rw [List.take_length]; exact h3)
    exact this
theorem trace_parts {t : TraceT} (h : traceF t = 0) : threadsF t.threads = 0 ∧ stateF t.threads t.states = 0 := by
  have h1 : tablesF t = 0 := by
    apply Classical.byContradiction
    intro hc
    unfold traceF at h
    rw [if_pos hc] at h
    exact hc h
  have h2 : threadsF t.threads = 0 := by
    apply Classical.byContradiction
    intro hc
    unfold tablesF at h1
    rw [if_pos hc] at h1
    exact hc h1
  refine ⟨h2, ?_⟩
  rw [rows_tables t h2] at h1
  unfold rowsF at h1
  simp only at h1
  split at h1
  · rename_i hc; exact absurd h1 hc
  · split at h1
    · rename_i hc; exact absurd h1 hc
    · rename_i hc; simpa using hc
theorem at_has {t : TraceT} (h : traceF t = 0) {y a : Int} (hs : (atS t.states y a).isSome = true) : hasT t.threads y = true := by
  obtain ⟨s, hs⟩ := Option.isSome_iff_exists.1 hs
  have h1 := state_has (trace_parts h).2 (List.mem_of_find?_eq_some hs)
  have h2 := List.find?_some hs
  unfold atB at h2
  simp only [Bool.and_eq_true, beq_iff_eq] at h2
  rw [h2.1.1] at h1
  exact h1
theorem at_neg {t : TraceT} (h : traceF t = 0) (a : Int) : (atS t.states (-1) a).isSome = false := by
  cases hq : (atS t.states (-1) a).isSome
  · rfl
  · have := ids_pos (trace_parts h).1 (at_has h hq)
    omega
theorem onF_ok {t : TraceT} {a y : Int} (h : okN t a y = true) : onF t a y = nxN t a y := by
  obtain ⟨h1, h2, _⟩ := okN_at h
  rw [onF, if_neg (by rw [h1, h2]; simp)]; rfl
theorem onF_neg {t : TraceT} {a y : Int} (h : onF t a y ≠ -1) : (atS t.states y a).isSome = true ∧ ((atS t.states y a).getD default).state = 2 ∧ onF t a y = nxN t a y := by
  unfold onF at h ⊢
  split at h
  · exact absurd rfl h
  · rename_i h1
    rw [if_neg h1]
    simp only [Bool.not_eq_true, Bool.or_eq_false_iff, Bool.not_eq_false', bne_eq_false_iff_eq] at h1
    exact ⟨h1.1, h1.2, rfl⟩
def oI (t : TraceT) (a : Int) : Nat → Int → Int
  | 0, y => y
  | k + 1, y => onF t a (oI t a k y)
theorem oI_neg {t : TraceT} (h : traceF t = 0) {a y : Int} {j : Nat} (hj : oI t a j y = -1) : ∀ i, oI t a (j + i) y = -1
  | 0 => hj
  | i + 1 => by
    show onF t a (oI t a (j + i) y) = -1
    rw [oI_neg h hj i, onF, if_pos (by rw [at_neg h]; rfl)]
def circR (t : TraceT) (a y : Int) : Bool := (List.range t.threads.length).any fun i => oI t a (i + 1) y == y
theorem circR_eq {t : TraceT} (h : traceF t = 0) {a y : Int} (hy : hasT t.threads y = true) : circR t a y = circB t a y := by
  have hy0 := ids_pos (trace_parts h).1 hy
  rw [Bool.eq_iff_iff]
  constructor
  · intro hc
    unfold circR at hc
    rw [List.any_eq_true] at hc
    obtain ⟨i, _, hi⟩ := hc
    have hi : oI t a (i + 1) y = y := by simpa using hi
    have hne : ∀ j, j < i + 1 → oI t a (j + 1) y ≠ -1 := fun j hj e => by
      have := oI_neg h e (i - j)
      rw [show j + 1 + (i - j) = i + 1 by omega, hi] at this
      omega
    have hst : ∀ j, j < i + 1 → (atS t.states (oI t a j y) a).isSome = true ∧ ((atS t.states (oI t a j y) a).getD default).state = 2 ∧ oI t a (j + 1) y = nxN t a (oI t a j y) := fun j hj => onF_neg (hne j hj)
    have hit : ∀ j, j ≤ i + 1 → oI t a j y = itN t a j y := by
      intro j
      induction j with
      | zero => intro _; rfl
      | succ j ih =>
        intro hj
        rw [(hst j (by omega)).2.2, ih (by omega)]; rfl
    refine circB_of ⟨i + 1, by omega, by rw [← hit _ (Nat.le_refl _), hi], fun j hj => ?_⟩
    rw [← hit j (by omega)]
    obtain ⟨g1, g2, g3⟩ := hst j hj
    unfold okN nextF
    rw [g1, g2]
    have : hasT t.threads (nxN t a (oI t a j y)) = true := by
      rw [← g3]
      rcases Nat.lt_or_ge (j + 1) (i + 1) with h5 | h5
      · exact at_has h (hst (j + 1) h5).1
      · rw [show j + 1 = i + 1 by omega, hi]; exact hy
    simpa [nxN, nextF] using this
  · intro hc
    obtain ⟨m, h1, h2, h3, h4⟩ := circ_min (circ_of hc)
    have hb := itL_bound (fun i hi => circ_known h2 h3 hi) (fun i j hij hj => circ_inj h2 h4 hij hj) m (Nat.le_refl _)
    have hit : ∀ j, j ≤ m → oI t a j y = itN t a j y := by
      intro j
      induction j with
      | zero => intro _; rfl
      | succ j ih =>
        intro hj
        show onF t a (oI t a j y) = _
        rw [ih (by omega), onF_ok (h3 j (by omega))]; rfl
    unfold circR
    rw [List.any_eq_true]
    refine ⟨m - 1, List.mem_range.2 (by omega), ?_⟩
    rw [show m - 1 + 1 = m by omega, hit m (Nat.le_refl _), h2]; simp
theorem k_circles (t : TraceT) (ht : t.Few) (y a : Int) : Pure Tryz.prog Gl 28 [.d t.toD, .d (.int .i64 y), .d (.int .i64 a)] (.d (.bool (circR t a y))) := by
  refine Pure.of3 ?_
  have hl := ht.threads
  refine acalls_of Tryz.func28 rfl rfl (by simp [Tryz.ntmps28]) (evC_sound rfl _ _ _ _ ?_)
  simp only [Tryz.ntmps28, Tryz.results28, argEnv, List.length_nil]
  simp only [zC, seval, implies_true, Nat.reduceLeDiff, Nat.reduceEqDiff, reduceCtorEq, reduceIte]
  repeat ((with_reducible refine And.intro ?_ ?_); (focus (first | omega | (simp only [List.length_take, List.length_drop, List.length_map, List.length_append, List.length_cons]; omega) | (refine (show quietOp _ = true from ?_); rfl) | (refine (show drawOk _ _ _ _ _ _ _ from Or.inl ?_); kernel_rfl) | (intros; simp_all; done))))
  refine for_of t.threads.length (fun k => [(1, .d (.int .i64 y)), (2, .d (.int .i64 a)), (3, .ptr 0 0), (7, .d (.int .i64 (oI t a k y))), (8, .d (.int .i64 k))]) (fun _ => [.box 10 (.d t.toD)]) (fun k => ((List.range k).any fun i => oI t a (i + 1) y == y) = false) rfl ?_ ?_
  · refine weak_to [] [0] rfl (by simp) ?_ rfl
    simp only [zC, seval, implies_true, Nat.reduceLeDiff, Nat.reduceEqDiff, reduceCtorEq, reduceIte, Int.cast_ofNat_Int, oI]
    all_goals rfl
  · intro k hi hk
    by_cases h : k < t.threads.length
    · simp only [zC, seval, implies_true, Nat.reduceLeDiff, Nat.reduceEqDiff, reduceCtorEq, reduceIte, (show (k:Int) < t.threads.length by omega)]
      repeat ((with_reducible refine And.intro ?_ ?_); (focus (first | omega | (simp only [List.length_take, List.length_drop, List.length_map, List.length_append, List.length_cons]; omega) | (refine (show quietOp _ = true from ?_); rfl) | (refine (show drawOk _ _ _ _ _ _ _ from Or.inl ?_); kernel_rfl) | (intros; simp_all; done))))
      refine callF_pure (k_On t ht _ _) ?_
      rw [show onF t a (oI t a k y) = oI t a (k + 1) y from rfl]
      simp only [zC, seval, implies_true, Nat.reduceLeDiff, Nat.reduceEqDiff, reduceCtorEq, reduceIte]
      refine ifC.mk (fun hc => ?_) (fun hc => ?_)
      · refine ⟨_, _, ret_d, ?_, rfl⟩
        rw [show circR t a y = true from by unfold circR; rw [List.any_eq_true]; exact ⟨k, List.mem_range.2 h, hc⟩]
      · refine ⟨h, by rw [List.range_succ, List.any_append, hi]; simpa using hc, ?_⟩
        refine weak_to [] [0] rfl (by simp) ?_ rfl
        simp only [zC, seval, implies_true, Nat.reduceLeDiff, Nat.reduceEqDiff, reduceCtorEq, reduceIte, @a_wrap ((k:Int) + 1) (by omega)]
        all_goals rfl
    · simp only [zC, seval, implies_true, Nat.reduceLeDiff, Nat.reduceEqDiff, reduceCtorEq, reduceIte, (show ¬ (k:Int) < t.threads.length by omega)]
      have : k = t.threads.length := by omega
      subst this
      refine ⟨_, _, ret_d, ?_, rfl⟩
      rw [show circR t a y = false from hi]
end YtccgdcmgjdhikaaGreat
end Go.Proofs
