/- A part of the proof: contracts of functions of this seat, and lemmas. No condition beyond those stated. -/
import Derived.Test.YtkoebmjenkajdaaDoorR02l
set_option linter.unusedVariables false
set_option linter.unusedSimpArgs false
set_option linter.unusedSectionVars false
set_option linter.unnecessarySimpa false
set_option linter.unusedSimpArgs false
set_option linter.unusedVariables false
set_option maxRecDepth 100000
namespace Go.Proofs
open Go.AM
namespace YtkoebmjenkajdaaDoor
variable {Gl : Globs}
def pmF (m : Nat) (p : Nat × Nat) (a : FracT) : Nat × Nat := if a.n < 0 then (p.1, p.2 + a.n.natAbs * (m / a.q.natAbs)) else (p.1 + a.n.natAbs * (m / a.q.natAbs), p.2)
def pmL (l : List FracT) (m : Nat) : Nat × Nat := l.foldl (pmF m) (0, 0)
theorem pm_val {m : Nat} : ∀ {l : List FracT} {p : Bool × Nat} {s : Nat × Nat}, valG p = (s.1 : Int) - s.2 → valG (l.foldl (nS m) p) = ((l.foldl (pmF m) s).1 : Int) - (l.foldl (pmF m) s).2
  | [], p, s, h => h
  | a :: l, p, s, h => by
    simp only [List.foldl_cons]
    refine pm_val ?_
    unfold nS
    rw [valG_sum, h]
    unfold pmF valG
    generalize a.n.natAbs * (m / a.q.natAbs) = t
    by_cases hn : a.n < 0
    · rw [if_pos hn]; simp only [decide_eq_true hn, if_true]; omega
    · rw [if_neg hn]; simp only [decide_eq_false hn, Bool.false_eq_true, if_false]; omega
theorem tot_val (l : List FracT) (m : Nat) : valG (totF l m) = ((pmL l m).1 : Int) - (pmL l m).2 := pm_val rfl
theorem pm_le {m : Nat} (hm : m ≤ 1000000000000000) : ∀ {l : List FracT} {s : Nat × Nat}, (∀ a ∈ l, a.Ok) → (l.foldl (pmF m) s).1 + (l.foldl (pmF m) s).2 ≤ s.1 + s.2 + l.length * 4611686018427387904000000000000000
  | [], s, _ => by simp
  | a :: l, s, h => by
    have h2 := pm_le hm (l := l) (s := pmF m s a) (fun b hb => h b (List.mem_cons_of_mem _ hb))
    have := mul_lim (h a (List.mem_cons_self ..)).na (Nat.le_trans (Nat.div_le_self m a.q.natAbs) hm)
    have h1 : (pmF m s a).1 + (pmF m s a).2 ≤ s.1 + s.2 + 4611686018427387904000000000000000 := by
      unfold pmF
      split <;> (simp only; omega)
    simp only [List.foldl_cons, List.length_cons]
    omega
theorem pmL_le {l : List FracT} {m : Nat} (hm : m ≤ 1000000000000000) (h : ∀ a ∈ l, a.Ok) (hl : l.length ≤ 20000) : (pmL l m).1 + (pmL l m).2 ≤ 92233720368547758080000000000000000000 := by
  have := pm_le hm (s := (0, 0)) h
  unfold pmL
  simp only at this
  omega
theorem pm_take {l : List FracT} {m k : Nat} (h : k < l.length) : pmL (l.take (k + 1)) m = pmF m (pmL (l.take k) m) (l.getD k default) := by
  unfold pmL
  rw [take_step _ _ h, List.foldl_append]; rfl
def finF (P M m : Nat) : FracT × Bool := if P - M + (M - P) = 0 then (⟨0, 1⟩, true) else madeP (decide (P < M)) ((P - M + (M - P)) / Nat.gcd (P - M + (M - P)) m) (m / Nat.gcd (P - M + (M - P)) m)
theorem norm_zero (b : Bool) {m : Nat} (hm : 0 < m) : normS b 0 m = (⟨0, 1⟩, true) := by
  rw [normS_made, Nat.gcd_zero_left, Nat.zero_div, Nat.div_self hm]
  unfold madeP
  rw [if_pos (by decide)]
  cases b <;> rfl
theorem fin_norm {p : Bool × Nat} {P M m : Nat} (h : valG p = (P : Int) - M) (hm : 0 < m) : normS p.1 p.2 m = finF P M m := by
  obtain ⟨b, N⟩ := p
  unfold valG at h
  simp only at h
  unfold finF
  by_cases hz : P - M + (M - P) = 0
  · rw [if_pos hz]
    have : N = 0 := by split at h <;> omega
    subst this
    exact norm_zero b hm
  · rw [if_neg hz]
    have : N = P - M + (M - P) := by split at h <;> omega
    subst this
    rw [normS_made]
    congr 1
    cases b with
    | true =>
      simp only [if_true] at h
      rw [decide_eq_true]; omega
    | false =>
      simp only [Bool.false_eq_true, if_false] at h
      rw [decide_eq_false]; omega
set_option maxHeartbeats 1000000 in
theorem c18 (l : List FracT) (hin : ∀ a ∈ l, a.In) : Pure Tryd.prog Gl 18 [.d (.sl (l.map FracT.toD))] (resD (sumL l)) := by
  refine Pure.of1t2 ?_
  refine acalls_of Tryd.func18 rfl rfl (by simp [Tryd.ntmps18]) (evC_sound rfl _ _ _ _ ?_)
  simp only [Tryd.ntmps18, Tryd.results18, argEnv, List.length_nil]
  simp only [vcRules, dRules, bRules, tyRules, xRules, pickV_true, pickV_false, implies_true, Nat.reduceLT, Nat.reduceLeDiff, Nat.reduceEqDiff, Nat.reduceAdd, Nat.reduceSub, Nat.reduceMul, Int.reduceToNat, Int.reduceLT, Int.reduceLE, Int.reduceEq, Int.reduceAdd, Int.reduceSub, Int.reduceNeg, Int.reduceBEq, Int.reduceBNe, Int.reduceMul, Int.natCast_add, Int.natCast_one, reduceCtorEq, reduceIte, wN_isAgg, wN_cells, f_isAgg, f_cells, cRules, yRules]
  unfold sumL
  refine ifC.mk (fun hc => ?_) (fun hc => ?_)
  · have hc : 20000 < l.length := by have := of_decide_eq_true hc; omega
    rw [if_pos hc]
    refine ⟨_, _, ret_t2, ?_, rfl⟩
    rfl
  · have hc : ¬ 20000 < l.length := by have := of_decide_eq_false hc; omega
    rw [if_neg hc]
    refine loop_of (τ := Nat × Nat) (fun p => [(0, .d (.sl (l.map FracT.toD))), (2, .ptr 0 0), (4, .d (.int .u64 p.2)), (22, .d (.sl (l.map FracT.toD))), (23, .d (.int .i64 (l.length : Nat))), (24, .d (.int .i64 p.1))]) (fun _ => [.box 2 (.d (.agg [.int .i64 0, .int .i64 0]))]) (fun p => p.1 ≤ l.length ∧ 1 ≤ p.2 ∧ p.2 ≤ 1000000000000000 ∧ comF l 1 = comF (l.drop p.1) p.2) (fun p => l.length - p.1) (0, 1) ⟨by simp, by simp, by simp, rfl⟩ ?_ ?_
    · refine weak_to [] [0] rfl (by simp) ?_ rfl
      simp only [vcRules, dRules, bRules, tyRules, xRules, pickV_true, pickV_false, implies_true, Nat.reduceLT, Nat.reduceLeDiff, Nat.reduceEqDiff, Nat.reduceAdd, Nat.reduceSub, Nat.reduceMul, Int.reduceToNat, Int.reduceLT, Int.reduceLE, Int.reduceEq, Int.reduceAdd, Int.reduceSub, Int.reduceNeg, Int.reduceBEq, Int.reduceBNe, Int.reduceMul, Int.natCast_add, Int.natCast_one, reduceCtorEq, reduceIte, wN_isAgg, wN_cells, f_isAgg, f_cells, cRules, yRules, Int.cast_ofNat_Int]
    · rintro ⟨k, m⟩ ⟨h1, h2, h3, h4⟩
      simp only at h1 h2 h3 h4
      by_cases hk : k < l.length
      · obtain ⟨x, hx⟩ : ∃ x, x = l.getD k default := ⟨_, rfl⟩
        have hxi : x.In := by rw [hx]; exact hin _ (mem_getD hk)
        rw [drop_get hk, ← hx] at h4
        simp only [vcRules, dRules, bRules, tyRules, xRules, pickV_true, pickV_false, implies_true, Nat.reduceLT, Nat.reduceLeDiff, Nat.reduceEqDiff, Nat.reduceAdd, Nat.reduceSub, Nat.reduceMul, Int.reduceToNat, Int.reduceLT, Int.reduceLE, Int.reduceEq, Int.reduceAdd, Int.reduceSub, Int.reduceNeg, Int.reduceBEq, Int.reduceBNe, Int.reduceMul, Int.natCast_add, Int.natCast_one, reduceCtorEq, reduceIte, wN_isAgg, wN_cells, f_isAgg, f_cells, cRules, yRules, (show (k:Int) < l.length by omega), hk, a_getD _ _ _ (show k < l.length by omega), ← hx]
        repeat ((with_reducible refine And.intro ?_ ?_); (focus (first | omega | (simp only [List.length_take, List.length_drop, List.length_map, List.length_append, List.length_cons]; omega) | (refine (show quietOp _ = true from ?_); rfl) | (refine (show drawOk _ _ _ _ _ _ _ from Or.inl ?_); kernel_rfl) | (intros; simp_all; done))))
        refine callF_pure (c13 x hxi) ?_
        simp only [vcRules, dRules, bRules, tyRules, xRules, pickV_true, pickV_false, implies_true, Nat.reduceLT, Nat.reduceLeDiff, Nat.reduceEqDiff, Nat.reduceAdd, Nat.reduceSub, Nat.reduceMul, Int.reduceToNat, Int.reduceLT, Int.reduceLE, Int.reduceEq, Int.reduceAdd, Int.reduceSub, Int.reduceNeg, Int.reduceBEq, Int.reduceBNe, Int.reduceMul, Int.natCast_add, Int.natCast_one, reduceCtorEq, reduceIte, wN_isAgg, wN_cells, f_isAgg, f_cells, cRules, yRules]
        refine ifC.mk (fun hc => ?_) (fun hc => ?_)
        · have hn : ¬ okF x = true := by simpa using hc
          rw [h4, comF, if_neg hn]
          refine ⟨_, _, ret_t2, ?_, rfl⟩
          rfl
        · have hn : okF x = true := by simpa using hc
          have ok := okF_iff.1 hn
          have qa := ok.qa
          have q0 := ok.q0
          have uq := i_u x.q (by have := ok.d1; omega) hxi.d2
          obtain ⟨q, hq⟩ : ∃ q, q = x.q.natAbs := ⟨_, rfl⟩
          rw [comF, if_pos hn] at h4
          rw [← hq] at h4 qa q0 uq
          obtain ⟨g, hg⟩ : ∃ g, g = Nat.gcd m q := ⟨_, rfl⟩
          have g0 : 0 < g := by rw [hg]; exact Nat.gcd_pos_of_pos_left _ h2
          have gq : g ≤ m := by rw [hg]; exact Nat.gcd_le_left _ h2
          rw [← hg] at h4
          have mg : m / g ≤ m := Nat.div_le_self _ _
          have mm := mul_lim (Nat.le_trans mg h3) qa
          (try simp only [vcRules, dRules, bRules, tyRules, xRules, pickV_true, pickV_false, implies_true, Nat.reduceLT, Nat.reduceLeDiff, Nat.reduceEqDiff, Nat.reduceAdd, Nat.reduceSub, Nat.reduceMul, Int.reduceToNat, Int.reduceLT, Int.reduceLE, Int.reduceEq, Int.reduceAdd, Int.reduceSub, Int.reduceNeg, Int.reduceBEq, Int.reduceBNe, Int.reduceMul, Int.natCast_add, Int.natCast_one, reduceCtorEq, reduceIte, wN_isAgg, wN_cells, f_isAgg, f_cells, cRules, yRules, uq])
          repeat ((with_reducible refine And.intro ?_ ?_); (focus (first | omega | (simp only [List.length_take, List.length_drop, List.length_map, List.length_append, List.length_cons]; omega) | (refine (show quietOp _ = true from ?_); rfl) | (refine (show drawOk _ _ _ _ _ _ _ from Or.inl ?_); kernel_rfl) | (intros; simp_all; done))))
          refine callF_pure (c31 m q) ?_
          rw [← hg]
          have e1 : IntKind.u64.wrap (Int.tdiv (m : Int) (g : Int)) = ((m / g : Nat) : Int) := by
            rw [quoN, Mul64.wrapN _ (by omega)]
          simp only [vcRules, dRules, bRules, tyRules, xRules, pickV_true, pickV_false, implies_true, Nat.reduceLT, Nat.reduceLeDiff, Nat.reduceEqDiff, Nat.reduceAdd, Nat.reduceSub, Nat.reduceMul, Int.reduceToNat, Int.reduceLT, Int.reduceLE, Int.reduceEq, Int.reduceAdd, Int.reduceSub, Int.reduceNeg, Int.reduceBEq, Int.reduceBNe, Int.reduceMul, Int.natCast_add, Int.natCast_one, reduceCtorEq, reduceIte, wN_isAgg, wN_cells, f_isAgg, f_cells, cRules, yRules, quoU, e1, uq]
          repeat ((with_reducible refine And.intro ?_ ?_); (focus (first | omega | (simp only [List.length_take, List.length_drop, List.length_map, List.length_append, List.length_cons]; omega) | (refine (show quietOp _ = true from ?_); rfl) | (refine (show drawOk _ _ _ _ _ _ _ from Or.inl ?_); kernel_rfl) | (intros; simp_all; done))))
          refine callF_pure (c39 (m / g) q (by omega) (by omega)) ?_
          simp only [vcRules, dRules, bRules, tyRules, xRules, pickV_true, pickV_false, implies_true, Nat.reduceLT, Nat.reduceLeDiff, Nat.reduceEqDiff, Nat.reduceAdd, Nat.reduceSub, Nat.reduceMul, Int.reduceToNat, Int.reduceLT, Int.reduceLE, Int.reduceEq, Int.reduceAdd, Int.reduceSub, Int.reduceNeg, Int.reduceBEq, Int.reduceBNe, Int.reduceMul, Int.natCast_add, Int.natCast_one, reduceCtorEq, reduceIte, wN_isAgg, wN_cells, f_isAgg, f_cells, cRules, yRules]
          have pos : 1 ≤ m / g * q := Nat.mul_pos (Nat.div_pos gq g0) q0
          generalize m / g * q = nx at mm h4 pos ⊢
          refine ifC.mk (fun hd => ?_) (fun hd => ?_)
          · have hd : ¬ nx ≤ 1000000000000000 := by
              simp only [Bool.or_eq_true, bne_iff_ne, ne_eq, decide_eq_true_eq] at hd
              omega
            rw [h4, if_neg hd]
            refine ⟨_, _, ret_t2, ?_, rfl⟩
            rfl
          · have hd : nx ≤ 1000000000000000 := by
              have := Bool.eq_false_iff.1 hd
              simp only [Bool.or_eq_true, bne_iff_ne, ne_eq, decide_eq_true_eq] at this
              omega
            rw [if_pos hd] at h4
            refine ⟨(k + 1, nx), ⟨by simp only; omega, pos, hd, h4⟩, by simp only; omega, ?_⟩
            refine weak_to [] [0] rfl (by simp) ?_ rfl
            simp only [vcRules, dRules, bRules, tyRules, xRules, pickV_true, pickV_false, implies_true, Nat.reduceLT, Nat.reduceLeDiff, Nat.reduceEqDiff, Nat.reduceAdd, Nat.reduceSub, Nat.reduceMul, Int.reduceToNat, Int.reduceLT, Int.reduceLE, Int.reduceEq, Int.reduceAdd, Int.reduceSub, Int.reduceNeg, Int.reduceBEq, Int.reduceBNe, Int.reduceMul, Int.natCast_add, Int.natCast_one, reduceCtorEq, reduceIte, wN_isAgg, wN_cells, f_isAgg, f_cells, cRules, yRules, @a_wrap ((k:Int) + 1) (by omega), show nx % 18446744073709551616 = nx by omega]
      · have : l.drop k = [] := List.drop_eq_nil_of_le (by omega)
        rw [this] at h4
        have h4 : comF l 1 = some m := h4
        rw [h4]
        obtain ⟨_, _, _, m4⟩ := comF_spec (by omega) (by omega) h4
        simp only
        rw [fin_norm (tot_val l m) h2]
        have z0 : D.agg [.int .u64 0, .int .u64 0] = wN 0 := rfl
        simp only [vcRules, dRules, bRules, tyRules, xRules, pickV_true, pickV_false, implies_true, Nat.reduceLT, Nat.reduceLeDiff, Nat.reduceEqDiff, Nat.reduceAdd, Nat.reduceSub, Nat.reduceMul, Int.reduceToNat, Int.reduceLT, Int.reduceLE, Int.reduceEq, Int.reduceAdd, Int.reduceSub, Int.reduceNeg, Int.reduceBEq, Int.reduceBNe, Int.reduceMul, Int.natCast_add, Int.natCast_one, reduceCtorEq, reduceIte, wN_isAgg, wN_cells, f_isAgg, f_cells, cRules, yRules, (show ¬ (k:Int) < l.length by omega), z0]
        refine for_of l.length (fun k => [(2, .ptr 0 0), (4, .d (.int .u64 m)), (8, .ptr 1 0), (9, .ptr 2 0), (55, .d (.sl (l.map FracT.toD))), (56, .d (.int .i64 (l.length : Nat))), (57, .d (.int .i64 k))]) (fun k => [.box 2 (.d (.agg [.int .i64 0, .int .i64 0])), .box 2 (.d (wN (pmL (l.take k) m).1)), .box 2 (.d (wN (pmL (l.take k) m).2))]) (fun _ => True) trivial ?_ ?_
        · refine weak_to [] [0, 1, 2] rfl (by simp) ?_ rfl
          simp only [vcRules, dRules, bRules, tyRules, xRules, pickV_true, pickV_false, implies_true, Nat.reduceLT, Nat.reduceLeDiff, Nat.reduceEqDiff, Nat.reduceAdd, Nat.reduceSub, Nat.reduceMul, Int.reduceToNat, Int.reduceLT, Int.reduceLE, Int.reduceEq, Int.reduceAdd, Int.reduceSub, Int.reduceNeg, Int.reduceBEq, Int.reduceBNe, Int.reduceMul, Int.natCast_add, Int.natCast_one, reduceCtorEq, reduceIte, wN_isAgg, wN_cells, f_isAgg, f_cells, cRules, yRules, Int.cast_ofNat_Int]
        · intro k _ hk
          by_cases h : k < l.length
          · obtain ⟨x, hx⟩ : ∃ x, x = l.getD k default := ⟨_, rfl⟩
            have hmem : x ∈ l := by rw [hx]; exact mem_getD h
            have hxi : x.In := hin x hmem
            obtain ⟨ok, _⟩ := m4 x hmem
            have qa := ok.qa
            have na := ok.na
            have q0 := ok.q0
            have hb := pmL_le (l := l.take k) h3 (fun a ha => (m4 a (List.mem_of_mem_take ha)).1) (by rw [List.length_take]; omega)
            have mg : m / x.q.natAbs ≤ m := Nat.div_le_self _ _
            have uq := i_u x.q (by have := ok.d1; omega) hxi.d2
            rw [pm_take h, ← hx]
            unfold pmF
            obtain ⟨q, hq⟩ : ∃ q, q = x.q.natAbs := ⟨_, rfl⟩
            rw [← hq] at mg uq q0
            rw [← hq]
            obtain ⟨r, hr⟩ : ∃ r, r = m / q := ⟨_, rfl⟩
            have eq : IntKind.u64.wrap (Int.tdiv (m : Int) (q : Int)) = (r : Int) := by rw [quoN, ← hr, Mul64.wrapN _ (by omega)]
            rw [← hr] at mg
            rw [← hr]
            have hs := mul_lim na (Nat.le_trans mg h3)
            simp only [vcRules, dRules, bRules, tyRules, xRules, pickV_true, pickV_false, implies_true, Nat.reduceLT, Nat.reduceLeDiff, Nat.reduceEqDiff, Nat.reduceAdd, Nat.reduceSub, Nat.reduceMul, Int.reduceToNat, Int.reduceLT, Int.reduceLE, Int.reduceEq, Int.reduceAdd, Int.reduceSub, Int.reduceNeg, Int.reduceBEq, Int.reduceBNe, Int.reduceMul, Int.natCast_add, Int.natCast_one, reduceCtorEq, reduceIte, wN_isAgg, wN_cells, f_isAgg, f_cells, cRules, yRules, (show (k:Int) < l.length by omega), h, a_getD _ _ _ (show k < l.length by omega), ← hx]
            repeat ((with_reducible refine And.intro ?_ ?_); (focus (first | omega | (simp only [List.length_take, List.length_drop, List.length_map, List.length_append, List.length_cons]; omega) | (refine (show quietOp _ = true from ?_); rfl) | (refine (show drawOk _ _ _ _ _ _ _ from Or.inl ?_); kernel_rfl) | (intros; simp_all; done))))
            refine callF_pure (c32 x.n hxi.n1 hxi.n2) ?_
            simp only [vcRules, dRules, bRules, tyRules, xRules, pickV_true, pickV_false, implies_true, Nat.reduceLT, Nat.reduceLeDiff, Nat.reduceEqDiff, Nat.reduceAdd, Nat.reduceSub, Nat.reduceMul, Int.reduceToNat, Int.reduceLT, Int.reduceLE, Int.reduceEq, Int.reduceAdd, Int.reduceSub, Int.reduceNeg, Int.reduceBEq, Int.reduceBNe, Int.reduceMul, Int.natCast_add, Int.natCast_one, reduceCtorEq, reduceIte, wN_isAgg, wN_cells, f_isAgg, f_cells, cRules, yRules, uq, quoU, eq]
            repeat ((with_reducible refine And.intro ?_ ?_); (focus (first | omega | (simp only [List.length_take, List.length_drop, List.length_map, List.length_append, List.length_cons]; omega) | (refine (show quietOp _ = true from ?_); rfl) | (refine (show drawOk _ _ _ _ _ _ _ from Or.inl ?_); kernel_rfl) | (intros; simp_all; done))))
            refine callF_pure (c39 x.n.natAbs r (by omega) (by omega)) ?_
            simp only [vcRules, dRules, bRules, tyRules, xRules, pickV_true, pickV_false, implies_true, Nat.reduceLT, Nat.reduceLeDiff, Nat.reduceEqDiff, Nat.reduceAdd, Nat.reduceSub, Nat.reduceMul, Int.reduceToNat, Int.reduceLT, Int.reduceLE, Int.reduceEq, Int.reduceAdd, Int.reduceSub, Int.reduceNeg, Int.reduceBEq, Int.reduceBNe, Int.reduceMul, Int.natCast_add, Int.natCast_one, reduceCtorEq, reduceIte, wN_isAgg, wN_cells, f_isAgg, f_cells, cRules, yRules]
            generalize hpm : pmL (l.take k) m = pm at hb ⊢
            refine ifC.mk (fun hd => ?_) (fun hd => ?_)
            · have hd : x.n < 0 := by simpa using hd
              rw [if_pos hd]
              refine callF_pure (c40 pm.2 (x.n.natAbs * r) (by omega)) ?_
              simp only [vcRules, dRules, bRules, tyRules, xRules, pickV_true, pickV_false, implies_true, Nat.reduceLT, Nat.reduceLeDiff, Nat.reduceEqDiff, Nat.reduceAdd, Nat.reduceSub, Nat.reduceMul, Int.reduceToNat, Int.reduceLT, Int.reduceLE, Int.reduceEq, Int.reduceAdd, Int.reduceSub, Int.reduceNeg, Int.reduceBEq, Int.reduceBNe, Int.reduceMul, Int.natCast_add, Int.natCast_one, reduceCtorEq, reduceIte, wN_isAgg, wN_cells, f_isAgg, f_cells, cRules, yRules, h]
              refine weak_to [] [0, 1, 2] rfl (by simp) ?_ rfl
              simp only [vcRules, dRules, bRules, tyRules, xRules, pickV_true, pickV_false, implies_true, Nat.reduceLT, Nat.reduceLeDiff, Nat.reduceEqDiff, Nat.reduceAdd, Nat.reduceSub, Nat.reduceMul, Int.reduceToNat, Int.reduceLT, Int.reduceLE, Int.reduceEq, Int.reduceAdd, Int.reduceSub, Int.reduceNeg, Int.reduceBEq, Int.reduceBNe, Int.reduceMul, Int.natCast_add, Int.natCast_one, reduceCtorEq, reduceIte, wN_isAgg, wN_cells, f_isAgg, f_cells, cRules, yRules, @a_wrap ((k:Int) + 1) (by omega), Int.natCast_add, Int.cast_ofNat_Int]
            · have hd : ¬ x.n < 0 := by simpa using hd
              rw [if_neg hd]
              refine callF_pure (c40 pm.1 (x.n.natAbs * r) (by omega)) ?_
              simp only [vcRules, dRules, bRules, tyRules, xRules, pickV_true, pickV_false, implies_true, Nat.reduceLT, Nat.reduceLeDiff, Nat.reduceEqDiff, Nat.reduceAdd, Nat.reduceSub, Nat.reduceMul, Int.reduceToNat, Int.reduceLT, Int.reduceLE, Int.reduceEq, Int.reduceAdd, Int.reduceSub, Int.reduceNeg, Int.reduceBEq, Int.reduceBNe, Int.reduceMul, Int.natCast_add, Int.natCast_one, reduceCtorEq, reduceIte, wN_isAgg, wN_cells, f_isAgg, f_cells, cRules, yRules, h]
              refine weak_to [] [0, 1, 2] rfl (by simp) ?_ rfl
              simp only [vcRules, dRules, bRules, tyRules, xRules, pickV_true, pickV_false, implies_true, Nat.reduceLT, Nat.reduceLeDiff, Nat.reduceEqDiff, Nat.reduceAdd, Nat.reduceSub, Nat.reduceMul, Int.reduceToNat, Int.reduceLT, Int.reduceLE, Int.reduceEq, Int.reduceAdd, Int.reduceSub, Int.reduceNeg, Int.reduceBEq, Int.reduceBNe, Int.reduceMul, Int.natCast_add, Int.natCast_one, reduceCtorEq, reduceIte, wN_isAgg, wN_cells, f_isAgg, f_cells, cRules, yRules, @a_wrap ((k:Int) + 1) (by omega), Int.natCast_add, Int.cast_ofNat_Int]
          · have : k = l.length := by omega
            subst this
            rw [List.take_length]
            have hb := pmL_le (l := l) h3 (fun a ha => (m4 a ha).1) (by omega)
            generalize pmL l m = pm at hb ⊢
            simp only [vcRules, dRules, bRules, tyRules, xRules, pickV_true, pickV_false, implies_true, Nat.reduceLT, Nat.reduceLeDiff, Nat.reduceEqDiff, Nat.reduceAdd, Nat.reduceSub, Nat.reduceMul, Int.reduceToNat, Int.reduceLT, Int.reduceLE, Int.reduceEq, Int.reduceAdd, Int.reduceSub, Int.reduceNeg, Int.reduceBEq, Int.reduceBNe, Int.reduceMul, Int.natCast_add, Int.natCast_one, reduceCtorEq, reduceIte, wN_isAgg, wN_cells, f_isAgg, f_cells, cRules, yRules, (show ¬ ((l.length : Nat) : Int) < (l.length : Nat) by omega)]
            refine callF_pure (c41 pm.1 pm.2 (by omega) (by omega)) ?_
            unfold finF
            generalize hw : pm.1 - pm.2 + (pm.2 - pm.1) = w
            generalize decide (pm.1 < pm.2) = sg
            simp only [vcRules, dRules, bRules, tyRules, xRules, pickV_true, pickV_false, implies_true, Nat.reduceLT, Nat.reduceLeDiff, Nat.reduceEqDiff, Nat.reduceAdd, Nat.reduceSub, Nat.reduceMul, Int.reduceToNat, Int.reduceLT, Int.reduceLE, Int.reduceEq, Int.reduceAdd, Int.reduceSub, Int.reduceNeg, Int.reduceBEq, Int.reduceBNe, Int.reduceMul, Int.natCast_add, Int.natCast_one, reduceCtorEq, reduceIte, wN_isAgg, wN_cells, f_isAgg, f_cells, cRules, yRules, z0]
            refine ifC.mk (fun hz => ?_) (fun hz => ?_)
            · have hz : w = 0 := by simpa using hz
              rw [if_pos hz]
              refine ⟨_, _, ret_t2, ?_, rfl⟩
              rfl
            · have hz : ¬ w = 0 := by simpa using hz
              rw [if_neg hz]
              refine callF_pure (c42 w m (by omega) (by omega) (by omega)) ?_
              simp only [vcRules, dRules, bRules, tyRules, xRules, pickV_true, pickV_false, implies_true, Nat.reduceLT, Nat.reduceLeDiff, Nat.reduceEqDiff, Nat.reduceAdd, Nat.reduceSub, Nat.reduceMul, Int.reduceToNat, Int.reduceLT, Int.reduceLE, Int.reduceEq, Int.reduceAdd, Int.reduceSub, Int.reduceNeg, Int.reduceBEq, Int.reduceBNe, Int.reduceMul, Int.natCast_add, Int.natCast_one, reduceCtorEq, reduceIte, wN_isAgg, wN_cells, f_isAgg, f_cells, cRules, yRules]
              refine callF_pure (c31 (w % m) m) ?_
              obtain ⟨t, ht⟩ : ∃ t, t = Nat.gcd w m := ⟨_, rfl⟩
              have et : Nat.gcd (w % m) m = t := by rw [ht, Nat.gcd_comm w m, ← Nat.gcd_rec, Nat.gcd_comm]
              have t0 : 0 < t := by rw [ht]; exact Nat.gcd_pos_of_pos_right _ h2
              have tm : t ≤ m := by rw [ht]; exact Nat.gcd_le_right _ h2
              rw [et, ← ht]
              simp only [vcRules, dRules, bRules, tyRules, xRules, pickV_true, pickV_false, implies_true, Nat.reduceLT, Nat.reduceLeDiff, Nat.reduceEqDiff, Nat.reduceAdd, Nat.reduceSub, Nat.reduceMul, Int.reduceToNat, Int.reduceLT, Int.reduceLE, Int.reduceEq, Int.reduceAdd, Int.reduceSub, Int.reduceNeg, Int.reduceBEq, Int.reduceBNe, Int.reduceMul, Int.natCast_add, Int.natCast_one, reduceCtorEq, reduceIte, wN_isAgg, wN_cells, f_isAgg, f_cells, cRules, yRules]
              have mt : m / t ≤ m := Nat.div_le_self _ _
              have e5 : IntKind.u64.wrap (Int.tdiv (m : Int) (t : Int)) = ((m / t : Nat) : Int) := by rw [quoN, Mul64.wrapN _ (by omega)]
              by_cases hov : w / 18446744073709551616 < t
              · refine callF_pure (c43b w t (by omega) t0 (by omega) hov) ?_
                have hn64 : w / t < 18446744073709551616 := by
                  rw [Nat.div_lt_iff_lt_mul t0]
                  have := Nat.div_add_mod' w 18446744073709551616
                  have h2 : (w / 18446744073709551616 + 1) * 18446744073709551616 ≤ t * 18446744073709551616 := Nat.mul_le_mul_right _ hov
                  rw [Nat.mul_comm] at h2 ⊢
                  omega
                simp only [vcRules, dRules, bRules, tyRules, xRules, pickV_true, pickV_false, implies_true, Nat.reduceLT, Nat.reduceLeDiff, Nat.reduceEqDiff, Nat.reduceAdd, Nat.reduceSub, Nat.reduceMul, Int.reduceToNat, Int.reduceLT, Int.reduceLE, Int.reduceEq, Int.reduceAdd, Int.reduceSub, Int.reduceNeg, Int.reduceBEq, Int.reduceBNe, Int.reduceMul, Int.natCast_add, Int.natCast_one, reduceCtorEq, reduceIte, wN_isAgg, wN_cells, f_isAgg, f_cells, cRules, yRules, quoU, e5, Bool.not_true]
                repeat ((with_reducible refine And.intro ?_ ?_); (focus (first | omega | (simp only [List.length_take, List.length_drop, List.length_map, List.length_append, List.length_cons]; omega) | (refine (show quietOp _ = true from ?_); rfl) | (refine (show drawOk _ _ _ _ _ _ _ from Or.inl ?_); kernel_rfl) | (intros; simp_all; done))))
                refine callF_pure (c33 sg (w / t) (m / t) hn64 (by omega)) ?_
                simp only [resD]
                simp only [vcRules, dRules, bRules, tyRules, xRules, pickV_true, pickV_false, implies_true, Nat.reduceLT, Nat.reduceLeDiff, Nat.reduceEqDiff, Nat.reduceAdd, Nat.reduceSub, Nat.reduceMul, Int.reduceToNat, Int.reduceLT, Int.reduceLE, Int.reduceEq, Int.reduceAdd, Int.reduceSub, Int.reduceNeg, Int.reduceBEq, Int.reduceBNe, Int.reduceMul, Int.natCast_add, Int.natCast_one, reduceCtorEq, reduceIte, wN_isAgg, wN_cells, f_isAgg, f_cells, cRules, yRules]
                exact ⟨_, _, ret_t2, rfl, rfl⟩
              · refine callF_pure (c43a w t (by omega) t0 (by omega) (by omega)) ?_
                have hn64 : 18446744073709551616 ≤ w / t := by
                  rw [Nat.le_div_iff_mul_le t0]
                  have := Nat.div_add_mod' w 18446744073709551616
                  have h2 : t * 18446744073709551616 ≤ w / 18446744073709551616 * 18446744073709551616 := Nat.mul_le_mul_right _ (by omega)
                  rw [Nat.mul_comm] at h2 ⊢
                  omega
                rw [show madeP sg (w / t) (m / t) = failF by unfold madeP; rw [if_neg (by omega)]]
                simp only [vcRules, dRules, bRules, tyRules, xRules, pickV_true, pickV_false, implies_true, Nat.reduceLT, Nat.reduceLeDiff, Nat.reduceEqDiff, Nat.reduceAdd, Nat.reduceSub, Nat.reduceMul, Int.reduceToNat, Int.reduceLT, Int.reduceLE, Int.reduceEq, Int.reduceAdd, Int.reduceSub, Int.reduceNeg, Int.reduceBEq, Int.reduceBNe, Int.reduceMul, Int.natCast_add, Int.natCast_one, reduceCtorEq, reduceIte, wN_isAgg, wN_cells, f_isAgg, f_cells, cRules, yRules, Bool.not_false]
                refine ⟨_, _, ret_t2, ?_, rfl⟩
                rfl
end YtkoebmjenkajdaaDoor
end Go.Proofs
