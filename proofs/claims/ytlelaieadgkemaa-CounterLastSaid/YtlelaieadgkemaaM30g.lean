/- A part of the proof: contracts of functions of this seat, and lemmas. No condition beyond those stated. -/
import Derived.Test.YtlelaieadgkemaaM30f
set_option linter.unusedVariables false
set_option linter.unusedSimpArgs false
set_option linter.unusedSectionVars false
set_option linter.unnecessarySimpa false
set_option linter.unusedSimpArgs false
set_option linter.unusedVariables false
set_option maxRecDepth 100000
namespace Go.Proofs
open Go.AM
namespace Ytlelaieadgkemaa

theorem c34 (f t : Int) : Pure Try.prog 34 [.d (wD f t)] (.d (.bool (okSpan f t))) := by
  refine Pure.of1 ?_
  refine acalls_of Try.func34 rfl rfl (by simp [Try.ntmps34]) (evC_sound rfl _ _ _ _ ?_)
  simp only [Try.ntmps34, Try.results34, argEnv, List.length_nil]
  simp only [vcRules, dRules, bRules, tyRules, xRules, pickV_true, pickV_false, implies_true, Nat.reduceLT, Nat.reduceLeDiff, Nat.reduceEqDiff, Nat.reduceAdd, Nat.reduceSub, Nat.reduceMul, Int.reduceToNat, Int.reduceLT, Int.reduceLE, Int.reduceEq, Int.reduceAdd, Int.reduceSub, Int.reduceNeg, Int.reduceBEq, Int.reduceBNe, Int.reduceMul, Int.natCast_add, Int.natCast_one, reduceCtorEq, reduceIte, s_isAgg, s_cells, wN_isAgg, wN_cells, gD_isAgg, gD_cells, w_isAgg, w_cells, yRules]
  exact ⟨_, _, ret_d, rfl, rfl⟩
def untilF (l : List StepT) (k : Nat) : Int := if (decide (k + 1 < l.length) && (l.getD (k + 1) default).name == (l.getD k default).name) = true then (l.getD (k + 1) default).at_ else 1000000000000
theorem c35 (l : List StepT) (k : Nat) (hl : l.length < 1000000) (h : k < l.length) : Pure Try.prog 35 [.d (.sl (l.map StepT.toD)), .d (.int .i64 k)] (.d (.int .i64 (untilF l k))) := by
  refine Pure.of2 ?_
  by_cases hn : k + 1 < l.length
  · refine acalls_of Try.func35 rfl rfl (by simp [Try.ntmps35]) (evC_sound rfl _ _ _ _ ?_)
    simp only [Try.ntmps35, Try.results35, argEnv, List.length_nil]
    simp only [vcRules, dRules, bRules, tyRules, xRules, pickV_true, pickV_false, implies_true, Nat.reduceLT, Nat.reduceLeDiff, Nat.reduceEqDiff, Nat.reduceAdd, Nat.reduceSub, Nat.reduceMul, Int.reduceToNat, Int.reduceLT, Int.reduceLE, Int.reduceEq, Int.reduceAdd, Int.reduceSub, Int.reduceNeg, Int.reduceBEq, Int.reduceBNe, Int.reduceMul, Int.natCast_add, Int.natCast_one, reduceCtorEq, reduceIte, s_isAgg, s_cells, wN_isAgg, wN_cells, gD_isAgg, gD_cells, w_isAgg, w_cells, yRules, (show (k:Int) < l.length by omega), h, a_getD _ _ _ (show k < l.length by omega), @a_wrap ((k:Int) + 1) (by omega), (show (k:Int) + 1 < l.length by omega), toNat_succ, hn, a_getD _ _ _ (show k + 1 < l.length by omega)]
    repeat ((with_reducible refine And.intro ?_ ?_); (focus (first | omega | (simp only [List.length_take, List.length_drop, List.length_map, List.length_append, List.length_cons]; omega) | (intros; simp_all; done) | (refine (show drawChk _ = true from ?_); kernel_rfl))))
    refine ifC.mk (fun hc => ?_) (fun hc => ?_)
    · (try simp only [vcRules, dRules, bRules, tyRules, xRules, pickV_true, pickV_false, implies_true, Nat.reduceLT, Nat.reduceLeDiff, Nat.reduceEqDiff, Nat.reduceAdd, Nat.reduceSub, Nat.reduceMul, Int.reduceToNat, Int.reduceLT, Int.reduceLE, Int.reduceEq, Int.reduceAdd, Int.reduceSub, Int.reduceNeg, Int.reduceBEq, Int.reduceBNe, Int.reduceMul, Int.natCast_add, Int.natCast_one, reduceCtorEq, reduceIte, s_isAgg, s_cells, wN_isAgg, wN_cells, gD_isAgg, gD_cells, w_isAgg, w_cells, yRules, @a_wrap ((k:Int) + 1) (by omega), (show (k:Int) + 1 < l.length by omega), toNat_succ, hn, a_getD _ _ _ (show k + 1 < l.length by omega)])
      repeat ((with_reducible refine And.intro ?_ ?_); (focus (first | omega | (simp only [List.length_take, List.length_drop, List.length_map, List.length_append, List.length_cons]; omega) | (intros; simp_all; done) | (refine (show drawChk _ = true from ?_); kernel_rfl))))
      refine ⟨_, _, ret_d, ?_, rfl⟩
      rw [untilF, if_pos (by rw [decide_eq_true hn, Bool.true_and]; exact hc)]
    · refine ⟨_, _, ret_d, ?_, rfl⟩
      rw [untilF, if_neg (by rw [decide_eq_true hn, Bool.true_and]; rw [hc]; simp)]
  · refine acalls_of Try.func35 rfl rfl (by simp [Try.ntmps35]) (evC_sound rfl _ _ _ _ ?_)
    simp only [Try.ntmps35, Try.results35, argEnv, List.length_nil]
    simp only [vcRules, dRules, bRules, tyRules, xRules, pickV_true, pickV_false, implies_true, Nat.reduceLT, Nat.reduceLeDiff, Nat.reduceEqDiff, Nat.reduceAdd, Nat.reduceSub, Nat.reduceMul, Int.reduceToNat, Int.reduceLT, Int.reduceLE, Int.reduceEq, Int.reduceAdd, Int.reduceSub, Int.reduceNeg, Int.reduceBEq, Int.reduceBNe, Int.reduceMul, Int.natCast_add, Int.natCast_one, reduceCtorEq, reduceIte, s_isAgg, s_cells, wN_isAgg, wN_cells, gD_isAgg, gD_cells, w_isAgg, w_cells, yRules, (show (k:Int) < l.length by omega), h, a_getD _ _ _ (show k < l.length by omega), @a_wrap ((k:Int) + 1) (by omega), (show ¬ (k:Int) + 1 < l.length by omega), toNat_succ, hn]
    repeat ((with_reducible refine And.intro ?_ ?_); (focus (first | omega | (simp only [List.length_take, List.length_drop, List.length_map, List.length_append, List.length_cons]; omega) | (intros; simp_all; done) | (refine (show drawChk _ = true from ?_); kernel_rfl))))
    refine ⟨_, _, ret_d, ?_, rfl⟩
    rw [untilF, if_neg (by rw [decide_eq_false hn, Bool.false_and]; simp)]

def wiF (p : Bool × Nat) (m : Nat) : Int × Bool := if m < p.2 then (0, false) else (valG p, true)
theorem c38 (p : Bool × Nat) (m : Nat) (hp : p.2 < 340282366920938463463374607431768211456) (hm : m ≤ 1000000000000000) : Pure Try.prog 38 [.d (gD p.1 p.2), .d (.int .i64 m)] (.tup [.d (.int .i64 (wiF p m).1), .d (.bool (wiF p m).2)]) := by
  obtain ⟨s, N⟩ := p
  simp only at hp ⊢
  refine Pure.of2t2 ?_
  refine acalls_of Try.func38 rfl rfl (by simp [Try.ntmps38]) (evC_sound rfl _ _ _ _ ?_)
  simp only [Try.ntmps38, Try.results38, argEnv, List.length_nil]
  simp only [vcRules, dRules, bRules, tyRules, xRules, pickV_true, pickV_false, implies_true, Nat.reduceLT, Nat.reduceLeDiff, Nat.reduceEqDiff, Nat.reduceAdd, Nat.reduceSub, Nat.reduceMul, Int.reduceToNat, Int.reduceLT, Int.reduceLE, Int.reduceEq, Int.reduceAdd, Int.reduceSub, Int.reduceNeg, Int.reduceBEq, Int.reduceBNe, Int.reduceMul, Int.natCast_add, Int.natCast_one, reduceCtorEq, reduceIte, s_isAgg, s_cells, wN_isAgg, wN_cells, gD_isAgg, gD_cells, w_isAgg, w_cells, yRules, show IntKind.u64.wrap ((m : Nat) : Int) = (m : Int) from by rw [wrapu]; omega]
  have hcond : (((N / 18446744073709551616 : Nat) : Int) != 0 || decide (((m : Nat) : Int) < ((N % 18446744073709551616 : Nat) : Int))) = decide (m < N) := by
    rw [Bool.eq_iff_iff]
    simp only [Bool.or_eq_true, bne_iff_ne, decide_eq_true_eq]
    omega
  rw [hcond]
  refine ifC.mk (fun h1 => ?_) (fun h1 => ?_)
  · have h1 : m < N := of_decide_eq_true h1
    refine ⟨_, _, ret_t2, ?_, rfl⟩
    rw [wiF, if_pos h1]
  · have h1 : ¬ m < N := of_decide_eq_false h1
    have e1 : ((N % 18446744073709551616 : Nat) : Int) = N := by omega
    (try simp only [vcRules, dRules, bRules, tyRules, xRules, pickV_true, pickV_false, implies_true, Nat.reduceLT, Nat.reduceLeDiff, Nat.reduceEqDiff, Nat.reduceAdd, Nat.reduceSub, Nat.reduceMul, Int.reduceToNat, Int.reduceLT, Int.reduceLE, Int.reduceEq, Int.reduceAdd, Int.reduceSub, Int.reduceNeg, Int.reduceBEq, Int.reduceBNe, Int.reduceMul, Int.natCast_add, Int.natCast_one, reduceCtorEq, reduceIte, s_isAgg, s_cells, wN_isAgg, wN_cells, gD_isAgg, gD_cells, w_isAgg, w_cells, yRules, e1, show IntKind.i64.wrap ((N : Nat) : Int) = (N : Int) from @a_wrap ((N : Int)) (by omega)])
    refine ifC.mk (fun h2 => ?_) (fun h2 => ?_)
    · refine ⟨_, _, ret_t2, ?_, rfl⟩
      rw [wiF, if_neg h1]; unfold valG; rw [if_pos h2, @a_wrap (0 - (N : Int)) (by omega), Int.zero_sub]
    · refine ⟨_, _, ret_t2, ?_, rfl⟩
      rw [wiF, if_neg h1]; unfold valG; rw [if_neg (by rw [h2]; simp)]

def toR (l : List StepT) (t : Int) (k : Nat) : Int := min t (untilF l k)
def sgOk (l : List StepT) (name : List UInt8) (f t : Int) (k : Nat) : Bool := (l.getD k default).name == name && decide (max f (l.getD k default).at_ < toR l t k)
def sgF (l : List StepT) (name : List UInt8) (f t : Int) : Nat → Bool × Nat
  | 0 => (false, 0)
  | k + 1 => if sgOk l name f t k = true then sumG (sgF l name f t k) (decide ((l.getD k default).value < 0), (l.getD k default).value.natAbs * (toR l t k - max f (l.getD k default).at_).natAbs) else sgF l name f t k
theorem toR_cut {l : List StepT} {name : List UInt8} {t : Int} (ht : t ≤ 1000000000000) {k : Nat} (hn : (l.getD k default).name = name) : toR l t k = cutT l name t k := by
  unfold toR untilF cutT
  rw [hn]
  split
  · rfl
  · omega
theorem sg_val {l : List StepT} (hv : ∀ b ∈ l, inB b.value = true) {name : List UInt8} {f t : Int} (hs : okSpan f t = true) : ∀ k, k ≤ l.length → valG (sgF l name f t k) = sumS l name f t k ∧ (sgF l name f t k).2 ≤ 1000000000000000 * 1000000000000 * k
  | 0, _ => ⟨rfl, by simp [sgF]⟩
  | k + 1, hk => by
    obtain ⟨h1, h2⟩ := sg_val hv hs k (by omega)
    have hb := hv _ (mem_getD (show k < l.length by omega))
    unfold inB at hb
    have hs' := hs
    unfold okSpan at hs
    simp only [Bool.and_eq_true, decide_eq_true_eq] at hb hs
    rw [sumS, ← h1]
    have e0 : sgF l name f t (k + 1) = if sgOk l name f t k = true then sumG (sgF l name f t k) (decide ((l.getD k default).value < 0), (l.getD k default).value.natAbs * (toR l t k - max f (l.getD k default).at_).natAbs) else sgF l name f t k := rfl
    rw [e0]
    unfold addS
    by_cases hn : (l.getD k default).name = name
    · have hr : toR l t k ≤ t := by unfold toR; omega
      rw [if_pos hn, ← toR_cut (by omega) hn]
      by_cases hlt : max f (l.getD k default).at_ < toR l t k
      · have e : sgOk l name f t k = true := by unfold sgOk; rw [hn, decide_eq_true hlt]; simp
        rw [if_pos e, if_pos hlt, valG_sum, mul_sign (by omega)]
        refine ⟨rfl, ?_⟩
        have := sumG_le (sgF l name f t k) (decide ((l.getD k default).value < 0), (l.getD k default).value.natAbs * (toR l t k - max f (l.getD k default).at_).natAbs)
        have h3 : (l.getD k default).value.natAbs * (toR l t k - max f (l.getD k default).at_).natAbs ≤ 1000000000000000 * 1000000000000 := Nat.mul_le_mul (by omega) (by omega)
        simp only at this
        omega
      · have e : sgOk l name f t k = false := by unfold sgOk; rw [decide_eq_false hlt, Bool.and_false]
        rw [if_neg (by rw [e]; simp), if_neg hlt]
        exact ⟨by omega, by omega⟩
    · have e : sgOk l name f t k = false := by unfold sgOk; rw [Bool.and_eq_false_iff]; left; simpa using hn
      rw [if_neg (by rw [e]; simp), if_neg hn]
      exact ⟨by omega, by omega⟩

theorem wi_in (p : Bool × Nat) : wiF p 1000000000000000 = if inB (valG p) = true then (valG p, true) else (0, false) := by
  obtain ⟨m, N⟩ := p
  have e : inB (valG (m, N)) = !decide (1000000000000000 < N) := by
    unfold inB valG
    rw [Bool.eq_iff_iff]
    cases m <;> simp only [Bool.false_eq_true, if_true, if_false, Bool.and_eq_true, decide_eq_true_eq, Bool.not_eq_true', decide_eq_false_iff_not] <;> omega
  unfold wiF
  rw [e]
  by_cases h : 1000000000000000 < N
  · rw [if_pos h, if_neg (by rw [decide_eq_true h]; simp)]
  · rw [if_neg h, if_pos (by rw [decide_eq_false h]; rfl)]
set_option maxHeartbeats 2000000 in
theorem c21 (l : List StepT) (name : List UInt8) (f t : Int) (hl : l.length ≤ 60) (hv : ∀ b ∈ l, inB b.value = true) :
    Pure Try.prog 21 [.d (.sl (l.map StepT.toD)), .d (.str name), .d (wD f t)] (.tup [.d (.int .i64 (intF l name f t).1), .d (.bool (intF l name f t).2)]) := by
  refine Pure.of3t2 ?_
  refine acalls_of Try.func21 rfl rfl (by simp [Try.ntmps21]) (evC_sound rfl _ _ _ _ ?_)
  simp only [Try.ntmps21, Try.results21, argEnv, List.length_nil]
  simp only [vcRules, dRules, bRules, tyRules, xRules, pickV_true, pickV_false, implies_true, Nat.reduceLT, Nat.reduceLeDiff, Nat.reduceEqDiff, Nat.reduceAdd, Nat.reduceSub, Nat.reduceMul, Int.reduceToNat, Int.reduceLT, Int.reduceLE, Int.reduceEq, Int.reduceAdd, Int.reduceSub, Int.reduceNeg, Int.reduceBEq, Int.reduceBNe, Int.reduceMul, Int.natCast_add, Int.natCast_one, reduceCtorEq, reduceIte, s_isAgg, s_cells, wN_isAgg, wN_cells, gD_isAgg, gD_cells, w_isAgg, w_cells, yRules]
  refine callF_pure (c34 f t) ?_
  simp only [vcRules, dRules, bRules, tyRules, xRules, pickV_true, pickV_false, implies_true, Nat.reduceLT, Nat.reduceLeDiff, Nat.reduceEqDiff, Nat.reduceAdd, Nat.reduceSub, Nat.reduceMul, Int.reduceToNat, Int.reduceLT, Int.reduceLE, Int.reduceEq, Int.reduceAdd, Int.reduceSub, Int.reduceNeg, Int.reduceBEq, Int.reduceBNe, Int.reduceMul, Int.natCast_add, Int.natCast_one, reduceCtorEq, reduceIte, s_isAgg, s_cells, wN_isAgg, wN_cells, gD_isAgg, gD_cells, w_isAgg, w_cells, yRules]
  refine ifC.mk (fun h => ?_) (fun h => ?_)
  · have h : okSpan f t = false := by simpa using h
    refine ⟨_, _, ret_t2, ?_, rfl⟩
    rw [intF, if_neg (by rw [h]; simp)]
  · have hok : okSpan f t = true := by simpa using h
    have hsg := sg_val hv (name := name) hok
    have hft : 0 ≤ f ∧ f < t ∧ t ≤ 1000000000000 := by
      have h := hok
      unfold okSpan at h; simp only [Bool.and_eq_true, decide_eq_true_eq] at h; omega
    repeat ((with_reducible refine And.intro ?_ ?_); (focus (first | omega | (simp only [List.length_take, List.length_drop, List.length_map, List.length_append, List.length_cons]; omega) | (intros; simp_all; done) | (refine (show drawChk _ = true from ?_); kernel_rfl))))
    refine for_of l.length (fun k => [(0, .d (.sl (l.map StepT.toD))), (1, .d (.str name)), (5, .ptr 0 0), (8, .ptr 1 0), (9, .d (.int .i64 k))])
      (fun k => [.box 2 (.d (wD f t)), .box 3 (.d (gD (sgF l name f t k).1 (sgF l name f t k).2))]) (fun _ => True) trivial ?_ ?_
    · refine weak_to [] [0, 1] rfl (by simp) ?_ ?_
      · simp only [vcRules, dRules, bRules, tyRules, xRules, pickV_true, pickV_false, implies_true, Nat.reduceLT, Nat.reduceLeDiff, Nat.reduceEqDiff, Nat.reduceAdd, Nat.reduceSub, Nat.reduceMul, Int.reduceToNat, Int.reduceLT, Int.reduceLE, Int.reduceEq, Int.reduceAdd, Int.reduceSub, Int.reduceNeg, Int.reduceBEq, Int.reduceBNe, Int.reduceMul, Int.natCast_add, Int.natCast_one, reduceCtorEq, reduceIte, s_isAgg, s_cells, wN_isAgg, wN_cells, gD_isAgg, gD_cells, w_isAgg, w_cells, yRules, Int.cast_ofNat_Int]
      · rw [sgF]; rfl
    · intro k _ hk
      by_cases h : k < l.length
      · obtain ⟨b, hb⟩ : ∃ b, b = l.getD k default := ⟨_, rfl⟩
        obtain ⟨p, hp⟩ : ∃ p, p = sgF l name f t k := ⟨_, rfl⟩
        obtain ⟨un, hun⟩ : ∃ un, un = untilF l k := ⟨_, rfl⟩
        have hpl := (hsg k hk).2
        rw [← hp] at hpl ⊢
        simp only [vcRules, dRules, bRules, tyRules, xRules, pickV_true, pickV_false, implies_true, Nat.reduceLT, Nat.reduceLeDiff, Nat.reduceEqDiff, Nat.reduceAdd, Nat.reduceSub, Nat.reduceMul, Int.reduceToNat, Int.reduceLT, Int.reduceLE, Int.reduceEq, Int.reduceAdd, Int.reduceSub, Int.reduceNeg, Int.reduceBEq, Int.reduceBNe, Int.reduceMul, Int.natCast_add, Int.natCast_one, reduceCtorEq, reduceIte, s_isAgg, s_cells, wN_isAgg, wN_cells, gD_isAgg, gD_cells, w_isAgg, w_cells, yRules, (show (k:Int) < l.length by omega), h, a_getD _ _ _ (show k < l.length by omega), ← hb]
        refine ⟨by kernel_rfl, ?_⟩
        repeat ((with_reducible refine And.intro ?_ ?_); (focus (first | omega | (simp only [List.length_take, List.length_drop, List.length_map, List.length_append, List.length_cons]; omega) | (intros; simp_all; done) | (refine (show drawChk _ = true from ?_); kernel_rfl))))
        refine callF_pure (c35 l k (by omega) h) ?_
        rw [← hun]
        by_cases q1 : b.at_ < f
        · by_cases q2 : t < un
          · simp only [vcRules, dRules, bRules, tyRules, xRules, pickV_true, pickV_false, implies_true, Nat.reduceLT, Nat.reduceLeDiff, Nat.reduceEqDiff, Nat.reduceAdd, Nat.reduceSub, Nat.reduceMul, Int.reduceToNat, Int.reduceLT, Int.reduceLE, Int.reduceEq, Int.reduceAdd, Int.reduceSub, Int.reduceNeg, Int.reduceBEq, Int.reduceBNe, Int.reduceMul, Int.natCast_add, Int.natCast_one, reduceCtorEq, reduceIte, s_isAgg, s_cells, wN_isAgg, wN_cells, gD_isAgg, gD_cells, w_isAgg, w_cells, yRules, q1, q2, (show (k:Int) < l.length by omega), h, a_getD _ _ _ (show k < l.length by omega), ← hb]
            repeat ((with_reducible refine And.intro ?_ ?_); (focus (first | omega | (simp only [List.length_take, List.length_drop, List.length_map, List.length_append, List.length_cons]; omega) | (intros; simp_all; done) | (refine (show drawChk _ = true from ?_); kernel_rfl))))
            refine ifC.mk (fun hc => ?_) (fun hc => ?_)
            · simp only [Bool.and_eq_true, beq_iff_eq, decide_eq_true_eq] at hc
              obtain ⟨h1, h3⟩ := hc
              have hbv := hv b (by rw [hb]; exact mem_getD h)
              unfold inB at hbv
              simp only [Bool.and_eq_true, decide_eq_true_eq] at hbv
              have hst : sgF l name f t (k + 1) = sumG p (decide (b.value < 0), b.value.natAbs * (t - f).natAbs) := by
                rw [sgF, ← hp]; unfold sgOk toR; rw [← hb, ← hun, show max f b.at_ = f by omega, show min t un = t by omega, if_pos (by rw [h1, decide_eq_true h3]; simp)]
              have hpb : p.2 + b.value.natAbs * (t - f).natAbs < 340282366920938463463374607431768211456 := by
                have : b.value.natAbs * (t - f).natAbs ≤ 1000000000000000 * 1000000000000 := Nat.mul_le_mul (by omega) (by omega)
                omega
              rw [hst]
              refine ⟨by kernel_rfl, ?_⟩
              simp only [vcRules, dRules, bRules, tyRules, xRules, pickV_true, pickV_false, implies_true, Nat.reduceLT, Nat.reduceLeDiff, Nat.reduceEqDiff, Nat.reduceAdd, Nat.reduceSub, Nat.reduceMul, Int.reduceToNat, Int.reduceLT, Int.reduceLE, Int.reduceEq, Int.reduceAdd, Int.reduceSub, Int.reduceNeg, Int.reduceBEq, Int.reduceBNe, Int.reduceMul, Int.natCast_add, Int.natCast_one, reduceCtorEq, reduceIte, s_isAgg, s_cells, wN_isAgg, wN_cells, gD_isAgg, gD_cells, w_isAgg, w_cells, yRules, (show (k:Int) < l.length by omega), h, a_getD _ _ _ (show k < l.length by omega), ← hb, @a_wrap (t - f) (by omega)]
              repeat ((with_reducible refine And.intro ?_ ?_); (focus (first | omega | (simp only [List.length_take, List.length_drop, List.length_map, List.length_append, List.length_cons]; omega) | (intros; simp_all; done) | (refine (show drawChk _ = true from ?_); kernel_rfl))))
              refine callF_pure (c37 b.value (t - f) (by omega) (by omega)) ?_
              simp only [vcRules, dRules, bRules, tyRules, xRules, pickV_true, pickV_false, implies_true, Nat.reduceLT, Nat.reduceLeDiff, Nat.reduceEqDiff, Nat.reduceAdd, Nat.reduceSub, Nat.reduceMul, Int.reduceToNat, Int.reduceLT, Int.reduceLE, Int.reduceEq, Int.reduceAdd, Int.reduceSub, Int.reduceNeg, Int.reduceBEq, Int.reduceBNe, Int.reduceMul, Int.natCast_add, Int.natCast_one, reduceCtorEq, reduceIte, s_isAgg, s_cells, wN_isAgg, wN_cells, gD_isAgg, gD_cells, w_isAgg, w_cells, yRules]
              refine callF_pure (c36 p (_, _) hpb) ?_
              simp only [vcRules, dRules, bRules, tyRules, xRules, pickV_true, pickV_false, implies_true, Nat.reduceLT, Nat.reduceLeDiff, Nat.reduceEqDiff, Nat.reduceAdd, Nat.reduceSub, Nat.reduceMul, Int.reduceToNat, Int.reduceLT, Int.reduceLE, Int.reduceEq, Int.reduceAdd, Int.reduceSub, Int.reduceNeg, Int.reduceBEq, Int.reduceBNe, Int.reduceMul, Int.natCast_add, Int.natCast_one, reduceCtorEq, reduceIte, s_isAgg, s_cells, wN_isAgg, wN_cells, gD_isAgg, gD_cells, w_isAgg, w_cells, yRules]
              repeat ((with_reducible refine And.intro ?_ ?_); (focus (first | omega | (simp only [List.length_take, List.length_drop, List.length_map, List.length_append, List.length_cons]; omega) | (intros; simp_all; done) | (refine (show drawChk _ = true from ?_); kernel_rfl))))
              refine weak_to [] [0, 1] rfl (by simp) ?_ rfl
              simp only [vcRules, dRules, bRules, tyRules, xRules, pickV_true, pickV_false, implies_true, Nat.reduceLT, Nat.reduceLeDiff, Nat.reduceEqDiff, Nat.reduceAdd, Nat.reduceSub, Nat.reduceMul, Int.reduceToNat, Int.reduceLT, Int.reduceLE, Int.reduceEq, Int.reduceAdd, Int.reduceSub, Int.reduceNeg, Int.reduceBEq, Int.reduceBNe, Int.reduceMul, Int.natCast_add, Int.natCast_one, reduceCtorEq, reduceIte, s_isAgg, s_cells, wN_isAgg, wN_cells, gD_isAgg, gD_cells, w_isAgg, w_cells, yRules, @a_wrap ((k:Int) + 1) (by omega)]
            · have hst : sgF l name f t (k + 1) = p := by
                rw [sgF, ← hp]; unfold sgOk toR; rw [← hb, ← hun, show max f b.at_ = f by omega, show min t un = t by omega, if_neg (by rw [hc]; simp)]
              rw [hst]
              refine weak_to [] [0, 1] rfl (by simp) ?_ rfl
              simp only [vcRules, dRules, bRules, tyRules, xRules, pickV_true, pickV_false, implies_true, Nat.reduceLT, Nat.reduceLeDiff, Nat.reduceEqDiff, Nat.reduceAdd, Nat.reduceSub, Nat.reduceMul, Int.reduceToNat, Int.reduceLT, Int.reduceLE, Int.reduceEq, Int.reduceAdd, Int.reduceSub, Int.reduceNeg, Int.reduceBEq, Int.reduceBNe, Int.reduceMul, Int.natCast_add, Int.natCast_one, reduceCtorEq, reduceIte, s_isAgg, s_cells, wN_isAgg, wN_cells, gD_isAgg, gD_cells, w_isAgg, w_cells, yRules, @a_wrap ((k:Int) + 1) (by omega)]
          · simp only [vcRules, dRules, bRules, tyRules, xRules, pickV_true, pickV_false, implies_true, Nat.reduceLT, Nat.reduceLeDiff, Nat.reduceEqDiff, Nat.reduceAdd, Nat.reduceSub, Nat.reduceMul, Int.reduceToNat, Int.reduceLT, Int.reduceLE, Int.reduceEq, Int.reduceAdd, Int.reduceSub, Int.reduceNeg, Int.reduceBEq, Int.reduceBNe, Int.reduceMul, Int.natCast_add, Int.natCast_one, reduceCtorEq, reduceIte, s_isAgg, s_cells, wN_isAgg, wN_cells, gD_isAgg, gD_cells, w_isAgg, w_cells, yRules, q1, q2, (show (k:Int) < l.length by omega), h, a_getD _ _ _ (show k < l.length by omega), ← hb]
            repeat ((with_reducible refine And.intro ?_ ?_); (focus (first | omega | (simp only [List.length_take, List.length_drop, List.length_map, List.length_append, List.length_cons]; omega) | (intros; simp_all; done) | (refine (show drawChk _ = true from ?_); kernel_rfl))))
            refine ifC.mk (fun hc => ?_) (fun hc => ?_)
            · simp only [Bool.and_eq_true, beq_iff_eq, decide_eq_true_eq] at hc
              obtain ⟨h1, h3⟩ := hc
              have hbv := hv b (by rw [hb]; exact mem_getD h)
              unfold inB at hbv
              simp only [Bool.and_eq_true, decide_eq_true_eq] at hbv
              have hst : sgF l name f t (k + 1) = sumG p (decide (b.value < 0), b.value.natAbs * (un - f).natAbs) := by
                rw [sgF, ← hp]; unfold sgOk toR; rw [← hb, ← hun, show max f b.at_ = f by omega, show min t un = un by omega, if_pos (by rw [h1, decide_eq_true h3]; simp)]
              have hpb : p.2 + b.value.natAbs * (un - f).natAbs < 340282366920938463463374607431768211456 := by
                have : b.value.natAbs * (un - f).natAbs ≤ 1000000000000000 * 1000000000000 := Nat.mul_le_mul (by omega) (by omega)
                omega
              rw [hst]
              refine ⟨by kernel_rfl, ?_⟩
              simp only [vcRules, dRules, bRules, tyRules, xRules, pickV_true, pickV_false, implies_true, Nat.reduceLT, Nat.reduceLeDiff, Nat.reduceEqDiff, Nat.reduceAdd, Nat.reduceSub, Nat.reduceMul, Int.reduceToNat, Int.reduceLT, Int.reduceLE, Int.reduceEq, Int.reduceAdd, Int.reduceSub, Int.reduceNeg, Int.reduceBEq, Int.reduceBNe, Int.reduceMul, Int.natCast_add, Int.natCast_one, reduceCtorEq, reduceIte, s_isAgg, s_cells, wN_isAgg, wN_cells, gD_isAgg, gD_cells, w_isAgg, w_cells, yRules, (show (k:Int) < l.length by omega), h, a_getD _ _ _ (show k < l.length by omega), ← hb, @a_wrap (un - f) (by omega)]
              repeat ((with_reducible refine And.intro ?_ ?_); (focus (first | omega | (simp only [List.length_take, List.length_drop, List.length_map, List.length_append, List.length_cons]; omega) | (intros; simp_all; done) | (refine (show drawChk _ = true from ?_); kernel_rfl))))
              refine callF_pure (c37 b.value (un - f) (by omega) (by omega)) ?_
              simp only [vcRules, dRules, bRules, tyRules, xRules, pickV_true, pickV_false, implies_true, Nat.reduceLT, Nat.reduceLeDiff, Nat.reduceEqDiff, Nat.reduceAdd, Nat.reduceSub, Nat.reduceMul, Int.reduceToNat, Int.reduceLT, Int.reduceLE, Int.reduceEq, Int.reduceAdd, Int.reduceSub, Int.reduceNeg, Int.reduceBEq, Int.reduceBNe, Int.reduceMul, Int.natCast_add, Int.natCast_one, reduceCtorEq, reduceIte, s_isAgg, s_cells, wN_isAgg, wN_cells, gD_isAgg, gD_cells, w_isAgg, w_cells, yRules]
              refine callF_pure (c36 p (_, _) hpb) ?_
              simp only [vcRules, dRules, bRules, tyRules, xRules, pickV_true, pickV_false, implies_true, Nat.reduceLT, Nat.reduceLeDiff, Nat.reduceEqDiff, Nat.reduceAdd, Nat.reduceSub, Nat.reduceMul, Int.reduceToNat, Int.reduceLT, Int.reduceLE, Int.reduceEq, Int.reduceAdd, Int.reduceSub, Int.reduceNeg, Int.reduceBEq, Int.reduceBNe, Int.reduceMul, Int.natCast_add, Int.natCast_one, reduceCtorEq, reduceIte, s_isAgg, s_cells, wN_isAgg, wN_cells, gD_isAgg, gD_cells, w_isAgg, w_cells, yRules]
              repeat ((with_reducible refine And.intro ?_ ?_); (focus (first | omega | (simp only [List.length_take, List.length_drop, List.length_map, List.length_append, List.length_cons]; omega) | (intros; simp_all; done) | (refine (show drawChk _ = true from ?_); kernel_rfl))))
              refine weak_to [] [0, 1] rfl (by simp) ?_ rfl
              simp only [vcRules, dRules, bRules, tyRules, xRules, pickV_true, pickV_false, implies_true, Nat.reduceLT, Nat.reduceLeDiff, Nat.reduceEqDiff, Nat.reduceAdd, Nat.reduceSub, Nat.reduceMul, Int.reduceToNat, Int.reduceLT, Int.reduceLE, Int.reduceEq, Int.reduceAdd, Int.reduceSub, Int.reduceNeg, Int.reduceBEq, Int.reduceBNe, Int.reduceMul, Int.natCast_add, Int.natCast_one, reduceCtorEq, reduceIte, s_isAgg, s_cells, wN_isAgg, wN_cells, gD_isAgg, gD_cells, w_isAgg, w_cells, yRules, @a_wrap ((k:Int) + 1) (by omega)]
            · have hst : sgF l name f t (k + 1) = p := by
                rw [sgF, ← hp]; unfold sgOk toR; rw [← hb, ← hun, show max f b.at_ = f by omega, show min t un = un by omega, if_neg (by rw [hc]; simp)]
              rw [hst]
              refine weak_to [] [0, 1] rfl (by simp) ?_ rfl
              simp only [vcRules, dRules, bRules, tyRules, xRules, pickV_true, pickV_false, implies_true, Nat.reduceLT, Nat.reduceLeDiff, Nat.reduceEqDiff, Nat.reduceAdd, Nat.reduceSub, Nat.reduceMul, Int.reduceToNat, Int.reduceLT, Int.reduceLE, Int.reduceEq, Int.reduceAdd, Int.reduceSub, Int.reduceNeg, Int.reduceBEq, Int.reduceBNe, Int.reduceMul, Int.natCast_add, Int.natCast_one, reduceCtorEq, reduceIte, s_isAgg, s_cells, wN_isAgg, wN_cells, gD_isAgg, gD_cells, w_isAgg, w_cells, yRules, @a_wrap ((k:Int) + 1) (by omega)]
        · by_cases q2 : t < un
          · simp only [vcRules, dRules, bRules, tyRules, xRules, pickV_true, pickV_false, implies_true, Nat.reduceLT, Nat.reduceLeDiff, Nat.reduceEqDiff, Nat.reduceAdd, Nat.reduceSub, Nat.reduceMul, Int.reduceToNat, Int.reduceLT, Int.reduceLE, Int.reduceEq, Int.reduceAdd, Int.reduceSub, Int.reduceNeg, Int.reduceBEq, Int.reduceBNe, Int.reduceMul, Int.natCast_add, Int.natCast_one, reduceCtorEq, reduceIte, s_isAgg, s_cells, wN_isAgg, wN_cells, gD_isAgg, gD_cells, w_isAgg, w_cells, yRules, q1, q2, (show (k:Int) < l.length by omega), h, a_getD _ _ _ (show k < l.length by omega), ← hb]
            repeat ((with_reducible refine And.intro ?_ ?_); (focus (first | omega | (simp only [List.length_take, List.length_drop, List.length_map, List.length_append, List.length_cons]; omega) | (intros; simp_all; done) | (refine (show drawChk _ = true from ?_); kernel_rfl))))
            refine ifC.mk (fun hc => ?_) (fun hc => ?_)
            · simp only [Bool.and_eq_true, beq_iff_eq, decide_eq_true_eq] at hc
              obtain ⟨h1, h3⟩ := hc
              have hbv := hv b (by rw [hb]; exact mem_getD h)
              unfold inB at hbv
              simp only [Bool.and_eq_true, decide_eq_true_eq] at hbv
              have hst : sgF l name f t (k + 1) = sumG p (decide (b.value < 0), b.value.natAbs * (t - b.at_).natAbs) := by
                rw [sgF, ← hp]; unfold sgOk toR; rw [← hb, ← hun, show max f b.at_ = b.at_ by omega, show min t un = t by omega, if_pos (by rw [h1, decide_eq_true h3]; simp)]
              have hpb : p.2 + b.value.natAbs * (t - b.at_).natAbs < 340282366920938463463374607431768211456 := by
                have : b.value.natAbs * (t - b.at_).natAbs ≤ 1000000000000000 * 1000000000000 := Nat.mul_le_mul (by omega) (by omega)
                omega
              rw [hst]
              refine ⟨by kernel_rfl, ?_⟩
              simp only [vcRules, dRules, bRules, tyRules, xRules, pickV_true, pickV_false, implies_true, Nat.reduceLT, Nat.reduceLeDiff, Nat.reduceEqDiff, Nat.reduceAdd, Nat.reduceSub, Nat.reduceMul, Int.reduceToNat, Int.reduceLT, Int.reduceLE, Int.reduceEq, Int.reduceAdd, Int.reduceSub, Int.reduceNeg, Int.reduceBEq, Int.reduceBNe, Int.reduceMul, Int.natCast_add, Int.natCast_one, reduceCtorEq, reduceIte, s_isAgg, s_cells, wN_isAgg, wN_cells, gD_isAgg, gD_cells, w_isAgg, w_cells, yRules, (show (k:Int) < l.length by omega), h, a_getD _ _ _ (show k < l.length by omega), ← hb, @a_wrap (t - b.at_) (by omega)]
              repeat ((with_reducible refine And.intro ?_ ?_); (focus (first | omega | (simp only [List.length_take, List.length_drop, List.length_map, List.length_append, List.length_cons]; omega) | (intros; simp_all; done) | (refine (show drawChk _ = true from ?_); kernel_rfl))))
              refine callF_pure (c37 b.value (t - b.at_) (by omega) (by omega)) ?_
              simp only [vcRules, dRules, bRules, tyRules, xRules, pickV_true, pickV_false, implies_true, Nat.reduceLT, Nat.reduceLeDiff, Nat.reduceEqDiff, Nat.reduceAdd, Nat.reduceSub, Nat.reduceMul, Int.reduceToNat, Int.reduceLT, Int.reduceLE, Int.reduceEq, Int.reduceAdd, Int.reduceSub, Int.reduceNeg, Int.reduceBEq, Int.reduceBNe, Int.reduceMul, Int.natCast_add, Int.natCast_one, reduceCtorEq, reduceIte, s_isAgg, s_cells, wN_isAgg, wN_cells, gD_isAgg, gD_cells, w_isAgg, w_cells, yRules]
              refine callF_pure (c36 p (_, _) hpb) ?_
              simp only [vcRules, dRules, bRules, tyRules, xRules, pickV_true, pickV_false, implies_true, Nat.reduceLT, Nat.reduceLeDiff, Nat.reduceEqDiff, Nat.reduceAdd, Nat.reduceSub, Nat.reduceMul, Int.reduceToNat, Int.reduceLT, Int.reduceLE, Int.reduceEq, Int.reduceAdd, Int.reduceSub, Int.reduceNeg, Int.reduceBEq, Int.reduceBNe, Int.reduceMul, Int.natCast_add, Int.natCast_one, reduceCtorEq, reduceIte, s_isAgg, s_cells, wN_isAgg, wN_cells, gD_isAgg, gD_cells, w_isAgg, w_cells, yRules]
              repeat ((with_reducible refine And.intro ?_ ?_); (focus (first | omega | (simp only [List.length_take, List.length_drop, List.length_map, List.length_append, List.length_cons]; omega) | (intros; simp_all; done) | (refine (show drawChk _ = true from ?_); kernel_rfl))))
              refine weak_to [] [0, 1] rfl (by simp) ?_ rfl
              simp only [vcRules, dRules, bRules, tyRules, xRules, pickV_true, pickV_false, implies_true, Nat.reduceLT, Nat.reduceLeDiff, Nat.reduceEqDiff, Nat.reduceAdd, Nat.reduceSub, Nat.reduceMul, Int.reduceToNat, Int.reduceLT, Int.reduceLE, Int.reduceEq, Int.reduceAdd, Int.reduceSub, Int.reduceNeg, Int.reduceBEq, Int.reduceBNe, Int.reduceMul, Int.natCast_add, Int.natCast_one, reduceCtorEq, reduceIte, s_isAgg, s_cells, wN_isAgg, wN_cells, gD_isAgg, gD_cells, w_isAgg, w_cells, yRules, @a_wrap ((k:Int) + 1) (by omega)]
            · have hst : sgF l name f t (k + 1) = p := by
                rw [sgF, ← hp]; unfold sgOk toR; rw [← hb, ← hun, show max f b.at_ = b.at_ by omega, show min t un = t by omega, if_neg (by rw [hc]; simp)]
              rw [hst]
              refine weak_to [] [0, 1] rfl (by simp) ?_ rfl
              simp only [vcRules, dRules, bRules, tyRules, xRules, pickV_true, pickV_false, implies_true, Nat.reduceLT, Nat.reduceLeDiff, Nat.reduceEqDiff, Nat.reduceAdd, Nat.reduceSub, Nat.reduceMul, Int.reduceToNat, Int.reduceLT, Int.reduceLE, Int.reduceEq, Int.reduceAdd, Int.reduceSub, Int.reduceNeg, Int.reduceBEq, Int.reduceBNe, Int.reduceMul, Int.natCast_add, Int.natCast_one, reduceCtorEq, reduceIte, s_isAgg, s_cells, wN_isAgg, wN_cells, gD_isAgg, gD_cells, w_isAgg, w_cells, yRules, @a_wrap ((k:Int) + 1) (by omega)]
          · simp only [vcRules, dRules, bRules, tyRules, xRules, pickV_true, pickV_false, implies_true, Nat.reduceLT, Nat.reduceLeDiff, Nat.reduceEqDiff, Nat.reduceAdd, Nat.reduceSub, Nat.reduceMul, Int.reduceToNat, Int.reduceLT, Int.reduceLE, Int.reduceEq, Int.reduceAdd, Int.reduceSub, Int.reduceNeg, Int.reduceBEq, Int.reduceBNe, Int.reduceMul, Int.natCast_add, Int.natCast_one, reduceCtorEq, reduceIte, s_isAgg, s_cells, wN_isAgg, wN_cells, gD_isAgg, gD_cells, w_isAgg, w_cells, yRules, q1, q2, (show (k:Int) < l.length by omega), h, a_getD _ _ _ (show k < l.length by omega), ← hb]
            repeat ((with_reducible refine And.intro ?_ ?_); (focus (first | omega | (simp only [List.length_take, List.length_drop, List.length_map, List.length_append, List.length_cons]; omega) | (intros; simp_all; done) | (refine (show drawChk _ = true from ?_); kernel_rfl))))
            refine ifC.mk (fun hc => ?_) (fun hc => ?_)
            · simp only [Bool.and_eq_true, beq_iff_eq, decide_eq_true_eq] at hc
              obtain ⟨h1, h3⟩ := hc
              have hbv := hv b (by rw [hb]; exact mem_getD h)
              unfold inB at hbv
              simp only [Bool.and_eq_true, decide_eq_true_eq] at hbv
              have hst : sgF l name f t (k + 1) = sumG p (decide (b.value < 0), b.value.natAbs * (un - b.at_).natAbs) := by
                rw [sgF, ← hp]; unfold sgOk toR; rw [← hb, ← hun, show max f b.at_ = b.at_ by omega, show min t un = un by omega, if_pos (by rw [h1, decide_eq_true h3]; simp)]
              have hpb : p.2 + b.value.natAbs * (un - b.at_).natAbs < 340282366920938463463374607431768211456 := by
                have : b.value.natAbs * (un - b.at_).natAbs ≤ 1000000000000000 * 1000000000000 := Nat.mul_le_mul (by omega) (by omega)
                omega
              rw [hst]
              refine ⟨by kernel_rfl, ?_⟩
              simp only [vcRules, dRules, bRules, tyRules, xRules, pickV_true, pickV_false, implies_true, Nat.reduceLT, Nat.reduceLeDiff, Nat.reduceEqDiff, Nat.reduceAdd, Nat.reduceSub, Nat.reduceMul, Int.reduceToNat, Int.reduceLT, Int.reduceLE, Int.reduceEq, Int.reduceAdd, Int.reduceSub, Int.reduceNeg, Int.reduceBEq, Int.reduceBNe, Int.reduceMul, Int.natCast_add, Int.natCast_one, reduceCtorEq, reduceIte, s_isAgg, s_cells, wN_isAgg, wN_cells, gD_isAgg, gD_cells, w_isAgg, w_cells, yRules, (show (k:Int) < l.length by omega), h, a_getD _ _ _ (show k < l.length by omega), ← hb, @a_wrap (un - b.at_) (by omega)]
              repeat ((with_reducible refine And.intro ?_ ?_); (focus (first | omega | (simp only [List.length_take, List.length_drop, List.length_map, List.length_append, List.length_cons]; omega) | (intros; simp_all; done) | (refine (show drawChk _ = true from ?_); kernel_rfl))))
              refine callF_pure (c37 b.value (un - b.at_) (by omega) (by omega)) ?_
              simp only [vcRules, dRules, bRules, tyRules, xRules, pickV_true, pickV_false, implies_true, Nat.reduceLT, Nat.reduceLeDiff, Nat.reduceEqDiff, Nat.reduceAdd, Nat.reduceSub, Nat.reduceMul, Int.reduceToNat, Int.reduceLT, Int.reduceLE, Int.reduceEq, Int.reduceAdd, Int.reduceSub, Int.reduceNeg, Int.reduceBEq, Int.reduceBNe, Int.reduceMul, Int.natCast_add, Int.natCast_one, reduceCtorEq, reduceIte, s_isAgg, s_cells, wN_isAgg, wN_cells, gD_isAgg, gD_cells, w_isAgg, w_cells, yRules]
              refine callF_pure (c36 p (_, _) hpb) ?_
              simp only [vcRules, dRules, bRules, tyRules, xRules, pickV_true, pickV_false, implies_true, Nat.reduceLT, Nat.reduceLeDiff, Nat.reduceEqDiff, Nat.reduceAdd, Nat.reduceSub, Nat.reduceMul, Int.reduceToNat, Int.reduceLT, Int.reduceLE, Int.reduceEq, Int.reduceAdd, Int.reduceSub, Int.reduceNeg, Int.reduceBEq, Int.reduceBNe, Int.reduceMul, Int.natCast_add, Int.natCast_one, reduceCtorEq, reduceIte, s_isAgg, s_cells, wN_isAgg, wN_cells, gD_isAgg, gD_cells, w_isAgg, w_cells, yRules]
              repeat ((with_reducible refine And.intro ?_ ?_); (focus (first | omega | (simp only [List.length_take, List.length_drop, List.length_map, List.length_append, List.length_cons]; omega) | (intros; simp_all; done) | (refine (show drawChk _ = true from ?_); kernel_rfl))))
              refine weak_to [] [0, 1] rfl (by simp) ?_ rfl
              simp only [vcRules, dRules, bRules, tyRules, xRules, pickV_true, pickV_false, implies_true, Nat.reduceLT, Nat.reduceLeDiff, Nat.reduceEqDiff, Nat.reduceAdd, Nat.reduceSub, Nat.reduceMul, Int.reduceToNat, Int.reduceLT, Int.reduceLE, Int.reduceEq, Int.reduceAdd, Int.reduceSub, Int.reduceNeg, Int.reduceBEq, Int.reduceBNe, Int.reduceMul, Int.natCast_add, Int.natCast_one, reduceCtorEq, reduceIte, s_isAgg, s_cells, wN_isAgg, wN_cells, gD_isAgg, gD_cells, w_isAgg, w_cells, yRules, @a_wrap ((k:Int) + 1) (by omega)]
            · have hst : sgF l name f t (k + 1) = p := by
                rw [sgF, ← hp]; unfold sgOk toR; rw [← hb, ← hun, show max f b.at_ = b.at_ by omega, show min t un = un by omega, if_neg (by rw [hc]; simp)]
              rw [hst]
              refine weak_to [] [0, 1] rfl (by simp) ?_ rfl
              simp only [vcRules, dRules, bRules, tyRules, xRules, pickV_true, pickV_false, implies_true, Nat.reduceLT, Nat.reduceLeDiff, Nat.reduceEqDiff, Nat.reduceAdd, Nat.reduceSub, Nat.reduceMul, Int.reduceToNat, Int.reduceLT, Int.reduceLE, Int.reduceEq, Int.reduceAdd, Int.reduceSub, Int.reduceNeg, Int.reduceBEq, Int.reduceBNe, Int.reduceMul, Int.natCast_add, Int.natCast_one, reduceCtorEq, reduceIte, s_isAgg, s_cells, wN_isAgg, wN_cells, gD_isAgg, gD_cells, w_isAgg, w_cells, yRules, @a_wrap ((k:Int) + 1) (by omega)]
      · have : k = l.length := by omega
        subst this
        obtain ⟨e1, e2⟩ := hsg l.length (Nat.le_refl _)
        simp only [vcRules, dRules, bRules, tyRules, xRules, pickV_true, pickV_false, implies_true, Nat.reduceLT, Nat.reduceLeDiff, Nat.reduceEqDiff, Nat.reduceAdd, Nat.reduceSub, Nat.reduceMul, Int.reduceToNat, Int.reduceLT, Int.reduceLE, Int.reduceEq, Int.reduceAdd, Int.reduceSub, Int.reduceNeg, Int.reduceBEq, Int.reduceBNe, Int.reduceMul, Int.natCast_add, Int.natCast_one, reduceCtorEq, reduceIte, s_isAgg, s_cells, wN_isAgg, wN_cells, gD_isAgg, gD_cells, w_isAgg, w_cells, yRules, (show ¬ (l.length:Int) < l.length by omega)]
        refine callF_pure (c38 (sgF l name f t l.length) 1000000000000000 (by omega) (by omega)) ?_
        simp only [vcRules, dRules, bRules, tyRules, xRules, pickV_true, pickV_false, implies_true, Nat.reduceLT, Nat.reduceLeDiff, Nat.reduceEqDiff, Nat.reduceAdd, Nat.reduceSub, Nat.reduceMul, Int.reduceToNat, Int.reduceLT, Int.reduceLE, Int.reduceEq, Int.reduceAdd, Int.reduceSub, Int.reduceNeg, Int.reduceBEq, Int.reduceBNe, Int.reduceMul, Int.natCast_add, Int.natCast_one, reduceCtorEq, reduceIte, s_isAgg, s_cells, wN_isAgg, wN_cells, gD_isAgg, gD_cells, w_isAgg, w_cells, yRules]
        refine ⟨_, _, ret_t2, ?_, rfl⟩
        rw [wi_in, e1, intF, if_pos hok]
end Ytlelaieadgkemaa
end Go.Proofs
