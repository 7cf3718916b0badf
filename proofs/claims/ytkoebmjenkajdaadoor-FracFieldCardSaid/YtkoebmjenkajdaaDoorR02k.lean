/- A part of the proof: contracts of functions of this seat, and lemmas. No condition beyond those stated. -/
import Derived.Test.YtkoebmjenkajdaaDoorR02j
set_option linter.unusedVariables false
set_option linter.unusedSimpArgs false
set_option linter.unusedSectionVars false
set_option linter.unnecessarySimpa false
set_option linter.unusedSimpArgs false
set_option linter.unusedVariables false
set_option maxRecDepth 100000
namespace Go.Proofs
open Go.AM
namespace YtkoebmjenkajdaaDoor
variable {Gl : Globs}
/-! ### sums of lists -/
def comF : List FracT → Nat → Option Nat
  | [], m => some m
  | a :: l, m => if okF a = true then (if m / Nat.gcd m a.q.natAbs * a.q.natAbs ≤ 1000000000000000 then comF l (m / Nat.gcd m a.q.natAbs * a.q.natAbs) else none) else none
theorem lcm_dvd {m q : Nat} : m ∣ m / Nat.gcd m q * q ∧ q ∣ m / Nat.gcd m q * q := by
  refine ⟨?_, Nat.dvd_mul_left _ _⟩
  rw [Nat.div_mul_right_comm (Nat.gcd_dvd_left m q), Nat.mul_div_assoc _ (Nat.gcd_dvd_right m q)]
  exact Nat.dvd_mul_right _ _
theorem comF_spec : ∀ {l : List FracT} {m r : Nat}, 1 ≤ m → m ≤ 1000000000000000 → comF l m = some r → 1 ≤ r ∧ r ≤ 1000000000000000 ∧ m ∣ r ∧ ∀ a ∈ l, a.Ok ∧ a.q.natAbs ∣ r
  | [], m, r, h1, h2, h => by
    cases h
    exact ⟨h1, h2, Nat.dvd_refl _, fun a ha => by cases ha⟩
  | a :: l, m, r, h1, h2, h => by
    unfold comF at h
    split at h
    · rename_i hk
      split at h
      · rename_i hle
        have ok := okF_iff.1 hk
        have h0 : 1 ≤ m / Nat.gcd m a.q.natAbs * a.q.natAbs := Nat.mul_pos (Nat.div_pos (Nat.gcd_le_left _ h1) (Nat.gcd_pos_of_pos_left _ h1)) ok.q0
        obtain ⟨k1, k2, k3, k4⟩ := comF_spec h0 hle h
        refine ⟨k1, k2, Nat.dvd_trans lcm_dvd.1 k3, fun b hb => ?_⟩
        rcases List.mem_cons.1 hb with rfl | hb
        · exact ⟨ok, Nat.dvd_trans lcm_dvd.2 k3⟩
        · exact k4 b hb
      · cases h
    · cases h
theorem drop_get {l : List FracT} {k : Nat} (h : k < l.length) : l.drop k = l.getD k default :: l.drop (k + 1) := by
  rw [List.drop_eq_getElem_cons h, List.getD_eq_getElem?_getD, List.getElem?_eq_getElem h]; rfl
theorem quoI (a b : Int) : binD .quo (.int .i64 a) (.int .i64 b) = .int .i64 (IntKind.i64.wrap (a.tdiv b)) := rfl
theorem c44 (l : List FracT) (hin : ∀ a ∈ l, a.In) (hl : l.length ≤ 20000) : Pure Tryd.prog Gl 44 [.d (.sl (l.map FracT.toD))] (.tup [.d (.int .i64 ((comF l 1).getD 0 : Nat)), .d (.bool (comF l 1).isSome)]) := by
  refine Pure.of1t2 ?_
  refine acalls_of Tryd.func44 rfl rfl (by simp [Tryd.ntmps44]) (evC_sound rfl _ _ _ _ ?_)
  simp only [Tryd.ntmps44, Tryd.results44, argEnv, List.length_nil]
  simp only [vcRules, dRules, bRules, tyRules, xRules, pickV_true, pickV_false, implies_true, Nat.reduceLT, Nat.reduceLeDiff, Nat.reduceEqDiff, Nat.reduceAdd, Nat.reduceSub, Nat.reduceMul, Int.reduceToNat, Int.reduceLT, Int.reduceLE, Int.reduceEq, Int.reduceAdd, Int.reduceSub, Int.reduceNeg, Int.reduceBEq, Int.reduceBNe, Int.reduceMul, Int.natCast_add, Int.natCast_one, reduceCtorEq, reduceIte, wN_isAgg, wN_cells, gD_isAgg, gD_cells, f_isAgg, f_cells, cRules, yRules]
  refine loop_of (τ := Nat × Nat) (fun p => [(0, .d (.sl (l.map FracT.toD))), (4, .d (.int .i64 p.2)), (5, .d (.int .i64 p.1))]) (fun _ => []) (fun p => p.1 ≤ l.length ∧ 1 ≤ p.2 ∧ p.2 ≤ 1000000000000000 ∧ comF l 1 = comF (l.drop p.1) p.2) (fun p => l.length - p.1) (0, 1) ⟨by simp, by simp, by simp, rfl⟩ ?_ ?_
  · refine weak_to [] [] rfl List.nodup_nil ?_ rfl
    simp only [vcRules, dRules, bRules, tyRules, xRules, pickV_true, pickV_false, implies_true, Nat.reduceLT, Nat.reduceLeDiff, Nat.reduceEqDiff, Nat.reduceAdd, Nat.reduceSub, Nat.reduceMul, Int.reduceToNat, Int.reduceLT, Int.reduceLE, Int.reduceEq, Int.reduceAdd, Int.reduceSub, Int.reduceNeg, Int.reduceBEq, Int.reduceBNe, Int.reduceMul, Int.natCast_add, Int.natCast_one, reduceCtorEq, reduceIte, wN_isAgg, wN_cells, gD_isAgg, gD_cells, f_isAgg, f_cells, cRules, yRules, Int.cast_ofNat_Int]
  · rintro ⟨k, m⟩ ⟨h1, h2, h3, h4⟩
    simp only at h1 h2 h3 h4
    by_cases hk : k < l.length
    · obtain ⟨x, hx⟩ : ∃ x, x = l.getD k default := ⟨_, rfl⟩
      have hxi : x.In := by rw [hx]; exact hin _ (mem_getD hk)
      rw [drop_get hk, ← hx] at h4
      simp only [vcRules, dRules, bRules, tyRules, xRules, pickV_true, pickV_false, implies_true, Nat.reduceLT, Nat.reduceLeDiff, Nat.reduceEqDiff, Nat.reduceAdd, Nat.reduceSub, Nat.reduceMul, Int.reduceToNat, Int.reduceLT, Int.reduceLE, Int.reduceEq, Int.reduceAdd, Int.reduceSub, Int.reduceNeg, Int.reduceBEq, Int.reduceBNe, Int.reduceMul, Int.natCast_add, Int.natCast_one, reduceCtorEq, reduceIte, wN_isAgg, wN_cells, gD_isAgg, gD_cells, f_isAgg, f_cells, cRules, yRules, (show (k:Int) < l.length by omega), hk, a_getD _ _ _ (show k < l.length by omega), ← hx]
      repeat ((with_reducible refine And.intro ?_ ?_); (focus (first | omega | (simp only [List.length_take, List.length_drop, List.length_map, List.length_append, List.length_cons]; omega) | (refine (show quietOp _ = true from ?_); rfl) | (refine (show drawOk _ _ _ _ _ _ _ from Or.inl ?_); kernel_rfl) | (intros; simp_all; done))))
      refine callF_pure (c15 x hxi) ?_
      simp only [vcRules, dRules, bRules, tyRules, xRules, pickV_true, pickV_false, implies_true, Nat.reduceLT, Nat.reduceLeDiff, Nat.reduceEqDiff, Nat.reduceAdd, Nat.reduceSub, Nat.reduceMul, Int.reduceToNat, Int.reduceLT, Int.reduceLE, Int.reduceEq, Int.reduceAdd, Int.reduceSub, Int.reduceNeg, Int.reduceBEq, Int.reduceBNe, Int.reduceMul, Int.natCast_add, Int.natCast_one, reduceCtorEq, reduceIte, wN_isAgg, wN_cells, gD_isAgg, gD_cells, f_isAgg, f_cells, cRules, yRules]
      refine ifC.mk (fun hc => ?_) (fun hc => ?_)
      · have hn : ¬ okF x = true := by simpa using hc
        rw [h4, comF, if_neg hn]
        exact ⟨_, _, ret_t2, rfl, rfl⟩
      · have hn : okF x = true := by simpa using hc
        have ok := okF_iff.1 hn
        have qa := ok.qa
        have q0 := ok.q0
        obtain ⟨q, hq⟩ : ∃ q, q = x.q.natAbs := ⟨_, rfl⟩
        rw [comF, if_pos hn] at h4
        rw [← hq] at h4 qa q0
        obtain ⟨g, hg⟩ : ∃ g, g = Nat.gcd m q := ⟨_, rfl⟩
        have g0 : 0 < g := by rw [hg]; exact Nat.gcd_pos_of_pos_left _ h2
        have gq : g ≤ m := by rw [hg]; exact Nat.gcd_le_left _ h2
        rw [← hg] at h4
        have mg : m / g ≤ m := Nat.div_le_self _ _
        have mm := mul_lim (Nat.le_trans mg h3) qa
        repeat ((with_reducible refine And.intro ?_ ?_); (focus (first | omega | (simp only [List.length_take, List.length_drop, List.length_map, List.length_append, List.length_cons]; omega) | (refine (show quietOp _ = true from ?_); rfl) | (refine (show drawOk _ _ _ _ _ _ _ from Or.inl ?_); kernel_rfl) | (intros; simp_all; done))))
        refine callF_pure (c35 (m : Int) (by omega) (by omega)) ?_
        rw [Int.natAbs_natCast]
        simp only [vcRules, dRules, bRules, tyRules, xRules, pickV_true, pickV_false, implies_true, Nat.reduceLT, Nat.reduceLeDiff, Nat.reduceEqDiff, Nat.reduceAdd, Nat.reduceSub, Nat.reduceMul, Int.reduceToNat, Int.reduceLT, Int.reduceLE, Int.reduceEq, Int.reduceAdd, Int.reduceSub, Int.reduceNeg, Int.reduceBEq, Int.reduceBNe, Int.reduceMul, Int.natCast_add, Int.natCast_one, reduceCtorEq, reduceIte, wN_isAgg, wN_cells, gD_isAgg, gD_cells, f_isAgg, f_cells, cRules, yRules, wN_small (show m < 18446744073709551616 by omega), (show (k:Int) < l.length by omega), hk, a_getD _ _ _ (show k < l.length by omega), ← hx]
        repeat ((with_reducible refine And.intro ?_ ?_); (focus (first | omega | (simp only [List.length_take, List.length_drop, List.length_map, List.length_append, List.length_cons]; omega) | (refine (show quietOp _ = true from ?_); rfl) | (refine (show drawOk _ _ _ _ _ _ _ from Or.inl ?_); kernel_rfl) | (intros; simp_all; done))))
        refine callF_pure (c35 x.q hxi.d1 hxi.d2) ?_
        rw [← hq]
        simp only [vcRules, dRules, bRules, tyRules, xRules, pickV_true, pickV_false, implies_true, Nat.reduceLT, Nat.reduceLeDiff, Nat.reduceEqDiff, Nat.reduceAdd, Nat.reduceSub, Nat.reduceMul, Int.reduceToNat, Int.reduceLT, Int.reduceLE, Int.reduceEq, Int.reduceAdd, Int.reduceSub, Int.reduceNeg, Int.reduceBEq, Int.reduceBNe, Int.reduceMul, Int.natCast_add, Int.natCast_one, reduceCtorEq, reduceIte, wN_isAgg, wN_cells, gD_isAgg, gD_cells, f_isAgg, f_cells, cRules, yRules, wN_small (show q < 18446744073709551616 by omega)]
        refine callF_pure (c36 m q (by omega) (by omega)) ?_
        rw [← hg]
        simp only [vcRules, dRules, bRules, tyRules, xRules, pickV_true, pickV_false, implies_true, Nat.reduceLT, Nat.reduceLeDiff, Nat.reduceEqDiff, Nat.reduceAdd, Nat.reduceSub, Nat.reduceMul, Int.reduceToNat, Int.reduceLT, Int.reduceLE, Int.reduceEq, Int.reduceAdd, Int.reduceSub, Int.reduceNeg, Int.reduceBEq, Int.reduceBNe, Int.reduceMul, Int.natCast_add, Int.natCast_one, reduceCtorEq, reduceIte, wN_isAgg, wN_cells, gD_isAgg, gD_cells, f_isAgg, f_cells, cRules, yRules]
        repeat ((with_reducible refine And.intro ?_ ?_); (focus (first | omega | (simp only [List.length_take, List.length_drop, List.length_map, List.length_append, List.length_cons]; omega) | (refine (show quietOp _ = true from ?_); rfl) | (refine (show drawOk _ _ _ _ _ _ _ from Or.inl ?_); kernel_rfl) | (intros; simp_all; done))))
        refine callF_pure (c35 (m : Int) (by omega) (by omega)) ?_
        rw [Int.natAbs_natCast]
        have e1 : IntKind.u64.wrap (Int.tdiv (m : Int) ((g % 18446744073709551616 : Nat) : Int)) = ((m / g : Nat) : Int) := by
          rw [show g % 18446744073709551616 = g by omega, quoN, Mul64.wrapN _ (by omega)]
        simp only [vcRules, dRules, bRules, tyRules, xRules, pickV_true, pickV_false, implies_true, Nat.reduceLT, Nat.reduceLeDiff, Nat.reduceEqDiff, Nat.reduceAdd, Nat.reduceSub, Nat.reduceMul, Int.reduceToNat, Int.reduceLT, Int.reduceLE, Int.reduceEq, Int.reduceAdd, Int.reduceSub, Int.reduceNeg, Int.reduceBEq, Int.reduceBNe, Int.reduceMul, Int.natCast_add, Int.natCast_one, reduceCtorEq, reduceIte, wN_isAgg, wN_cells, gD_isAgg, gD_cells, f_isAgg, f_cells, cRules, yRules, quoU, e1, (show (k:Int) < l.length by omega), hk, a_getD _ _ _ (show k < l.length by omega), ← hx]
        repeat ((with_reducible refine And.intro ?_ ?_); (focus (first | omega | (simp only [List.length_take, List.length_drop, List.length_map, List.length_append, List.length_cons]; omega) | (refine (show quietOp _ = true from ?_); rfl) | (refine (show drawOk _ _ _ _ _ _ _ from Or.inl ?_); kernel_rfl) | (intros; simp_all; done))))
        refine callF_pure (c35 x.q hxi.d1 hxi.d2) ?_
        rw [← hq]
        simp only [vcRules, dRules, bRules, tyRules, xRules, pickV_true, pickV_false, implies_true, Nat.reduceLT, Nat.reduceLeDiff, Nat.reduceEqDiff, Nat.reduceAdd, Nat.reduceSub, Nat.reduceMul, Int.reduceToNat, Int.reduceLT, Int.reduceLE, Int.reduceEq, Int.reduceAdd, Int.reduceSub, Int.reduceNeg, Int.reduceBEq, Int.reduceBNe, Int.reduceMul, Int.natCast_add, Int.natCast_one, reduceCtorEq, reduceIte, wN_isAgg, wN_cells, gD_isAgg, gD_cells, f_isAgg, f_cells, cRules, yRules]
        refine callF_pure (c50 (m / g) q (by omega) (by omega)) ?_
        simp only [vcRules, dRules, bRules, tyRules, xRules, pickV_true, pickV_false, implies_true, Nat.reduceLT, Nat.reduceLeDiff, Nat.reduceEqDiff, Nat.reduceAdd, Nat.reduceSub, Nat.reduceMul, Int.reduceToNat, Int.reduceLT, Int.reduceLE, Int.reduceEq, Int.reduceAdd, Int.reduceSub, Int.reduceNeg, Int.reduceBEq, Int.reduceBNe, Int.reduceMul, Int.natCast_add, Int.natCast_one, reduceCtorEq, reduceIte, wN_isAgg, wN_cells, gD_isAgg, gD_cells, f_isAgg, f_cells, cRules, yRules]
        have pos : 1 ≤ m / g * q := Nat.mul_pos (Nat.div_pos gq g0) q0
        generalize m / g * q = nx at mm h4 pos ⊢
        refine ifC.mk (fun hd => ?_) (fun hd => ?_)
        · have hd : ¬ nx ≤ 1000000000000000 := by
            simp only [Bool.or_eq_true, bne_iff_ne, ne_eq, decide_eq_true_eq] at hd
            omega
          rw [h4, if_neg hd]
          exact ⟨_, _, ret_t2, rfl, rfl⟩
        · have hd : nx ≤ 1000000000000000 := by
            have := Bool.eq_false_iff.1 hd
            simp only [Bool.or_eq_true, bne_iff_ne, ne_eq, decide_eq_true_eq] at this
            omega
          rw [if_pos hd] at h4
          refine ⟨(k + 1, nx), ⟨by simp only; omega, pos, hd, h4⟩, by simp only; omega, ?_⟩
          have e2 : IntKind.i64.wrap ((nx % 18446744073709551616 : Nat) : Int) = (nx : Int) := by rw [IntKind.wrap_i64]; omega
          refine weak_to [] [] rfl List.nodup_nil ?_ rfl
          simp only [vcRules, dRules, bRules, tyRules, xRules, pickV_true, pickV_false, implies_true, Nat.reduceLT, Nat.reduceLeDiff, Nat.reduceEqDiff, Nat.reduceAdd, Nat.reduceSub, Nat.reduceMul, Int.reduceToNat, Int.reduceLT, Int.reduceLE, Int.reduceEq, Int.reduceAdd, Int.reduceSub, Int.reduceNeg, Int.reduceBEq, Int.reduceBNe, Int.reduceMul, Int.natCast_add, Int.natCast_one, reduceCtorEq, reduceIte, wN_isAgg, wN_cells, gD_isAgg, gD_cells, f_isAgg, f_cells, cRules, yRules, @a_wrap ((k:Int) + 1) (by omega), e2]
    · simp only [vcRules, dRules, bRules, tyRules, xRules, pickV_true, pickV_false, implies_true, Nat.reduceLT, Nat.reduceLeDiff, Nat.reduceEqDiff, Nat.reduceAdd, Nat.reduceSub, Nat.reduceMul, Int.reduceToNat, Int.reduceLT, Int.reduceLE, Int.reduceEq, Int.reduceAdd, Int.reduceSub, Int.reduceNeg, Int.reduceBEq, Int.reduceBNe, Int.reduceMul, Int.natCast_add, Int.natCast_one, reduceCtorEq, reduceIte, wN_isAgg, wN_cells, gD_isAgg, gD_cells, f_isAgg, f_cells, cRules, yRules, (show ¬ (k:Int) < l.length by omega)]
      have : l.drop k = [] := List.drop_eq_nil_of_le (by omega)
      rw [this] at h4
      rw [h4]
      exact ⟨_, _, ret_t2, rfl, rfl⟩
end YtkoebmjenkajdaaDoor
end Go.Proofs
