/- A part of the proof: contracts of functions of this seat, and lemmas. No condition beyond those stated. -/
import Derived.Test.YtkoebmjenkajdaaDoorR02r
set_option linter.unusedVariables false
set_option linter.unusedSimpArgs false
set_option linter.unusedSectionVars false
set_option linter.unnecessarySimpa false
set_option linter.unusedSimpArgs false
set_option linter.unusedVariables false
set_option maxRecDepth 100000
namespace Go.Proofs
open Go.AM
namespace YtkoebmjenkajdaaDoor
variable {Gl : Globs}
theorem short_mul {m : Bool} {p q r s x y : Nat} (hp : Nat.Coprime p q) (hr : Nat.Coprime r s) (hq : 0 < q) (hs : 0 < s) (hx : x = Nat.gcd p s) (hy : y = Nat.gcd r q) : normS m (p * r) (q * s) = madeP m (p / x * (r / y)) (q / y * (s / x)) := by
  have x0 : 0 < x := by rw [hx]; exact Nat.gcd_pos_of_pos_right _ hs
  have y0 : 0 < y := by rw [hy]; exact Nat.gcd_pos_of_pos_right _ hq
  have c1 : Nat.Coprime (p / x) (s / x) := by rw [hx]; exact Nat.coprime_div_gcd_div_gcd (by rw [← hx]; exact x0)
  have c2 : Nat.Coprime (r / y) (q / y) := by rw [hy]; exact Nat.coprime_div_gcd_div_gcd (by rw [← hy]; exact y0)
  obtain ⟨a, ha⟩ : x ∣ p := by rw [hx]; exact Nat.gcd_dvd_left _ _
  obtain ⟨d, hd⟩ : x ∣ s := by rw [hx]; exact Nat.gcd_dvd_right _ _
  obtain ⟨b, hb⟩ : y ∣ r := by rw [hy]; exact Nat.gcd_dvd_left _ _
  obtain ⟨c, hc⟩ : y ∣ q := by rw [hy]; exact Nat.gcd_dvd_right _ _
  clear hx hy
  subst ha; subst hd; subst hb; subst hc
  rw [Nat.mul_div_cancel_left _ x0, Nat.mul_div_cancel_left _ x0] at c1
  rw [Nat.mul_div_cancel_left _ y0, Nat.mul_div_cancel_left _ y0] at c2
  rw [Nat.mul_div_cancel_left _ x0, Nat.mul_div_cancel_left _ x0, Nat.mul_div_cancel_left _ y0, Nat.mul_div_cancel_left _ y0]
  have c3 : Nat.Coprime a c := Nat.Coprime.coprime_dvd_left (Nat.dvd_mul_left _ _) (Nat.Coprime.coprime_dvd_right (Nat.dvd_mul_left _ _) hp)
  have c4 : Nat.Coprime b d := Nat.Coprime.coprime_dvd_left (Nat.dvd_mul_left _ _) (Nat.Coprime.coprime_dvd_right (Nat.dvd_mul_left _ _) hr)
  have e1 : x * a * (y * b) = x * y * (a * b) := by simp only [Nat.mul_comm, Nat.mul_left_comm]
  have e2 : y * c * (x * d) = x * y * (c * d) := by simp only [Nat.mul_comm, Nat.mul_left_comm]
  have cop : Nat.gcd (a * b) (c * d) = 1 := Nat.Coprime.mul_left (Nat.Coprime.mul_right c3 c1) (Nat.Coprime.mul_right c2 c4)
  rw [normS_made, e1, e2, Nat.gcd_mul_left, cop, Nat.mul_one, Nat.mul_div_cancel_left _ (Nat.mul_pos x0 y0), Nat.mul_div_cancel_left _ (Nat.mul_pos x0 y0)]
set_option maxHeartbeats 2000000 in
theorem c28 (a b : FracT) (ha : a.In) (hb : b.In) : Pure Tryd.prog Gl 28 [.d a.toD, .d b.toD] (resD (mulS a b)) := by
  refine Pure.of2t2 ?_
  refine acalls_of Tryd.func28 rfl rfl (by simp [Tryd.ntmps28]) (evC_sound rfl _ _ _ _ ?_)
  simp only [Tryd.ntmps28, Tryd.results28, argEnv, List.length_nil]
  simp only [vcRules, dRules, bRules, tyRules, xRules, pickV_true, pickV_false, implies_true, Nat.reduceLT, Nat.reduceLeDiff, Nat.reduceEqDiff, Nat.reduceAdd, Nat.reduceSub, Nat.reduceMul, Int.reduceToNat, Int.reduceLT, Int.reduceLE, Int.reduceEq, Int.reduceAdd, Int.reduceSub, Int.reduceNeg, Int.reduceBEq, Int.reduceBNe, Int.reduceMul, Int.natCast_add, Int.natCast_one, reduceCtorEq, reduceIte, wN_isAgg, wN_cells, f_isAgg, f_cells, cRules, yRules]
  refine callF_pure (c13 a ha) ?_
  simp only [vcRules, dRules, bRules, tyRules, xRules, pickV_true, pickV_false, implies_true, Nat.reduceLT, Nat.reduceLeDiff, Nat.reduceEqDiff, Nat.reduceAdd, Nat.reduceSub, Nat.reduceMul, Int.reduceToNat, Int.reduceLT, Int.reduceLE, Int.reduceEq, Int.reduceAdd, Int.reduceSub, Int.reduceNeg, Int.reduceBEq, Int.reduceBNe, Int.reduceMul, Int.natCast_add, Int.natCast_one, reduceCtorEq, reduceIte, wN_isAgg, wN_cells, f_isAgg, f_cells, cRules, yRules]
  repeat ((with_reducible refine And.intro ?_ ?_); (focus (first | omega | (simp only [List.length_take, List.length_drop, List.length_map, List.length_append, List.length_cons]; omega) | (refine (show quietOp _ = true from ?_); rfl) | (refine (show drawOk _ _ _ _ _ _ _ from Or.inl ?_); kernel_rfl) | (intros; simp_all; done))))
  refine callG_pure (fun _ => c13 b hb) ?_
  simp only [vcRules, dRules, bRules, tyRules, xRules, pickV_true, pickV_false, implies_true, Nat.reduceLT, Nat.reduceLeDiff, Nat.reduceEqDiff, Nat.reduceAdd, Nat.reduceSub, Nat.reduceMul, Int.reduceToNat, Int.reduceLT, Int.reduceLE, Int.reduceEq, Int.reduceAdd, Int.reduceSub, Int.reduceNeg, Int.reduceBEq, Int.reduceBNe, Int.reduceMul, Int.natCast_add, Int.natCast_one, reduceCtorEq, reduceIte, wN_isAgg, wN_cells, f_isAgg, f_cells, cRules, yRules]
  refine ⟨fun h => by simpa using h, ?_⟩
  refine ifC.mk (fun hc => ?_) (fun hc => ?_)
  · have hn : ¬ (okF a = true ∧ okF b = true) := by
      rintro ⟨k1, k2⟩
      rw [k1, k2] at hc
      simp at hc
    rw [mulS, if_neg hn]
    refine ⟨_, _, ret_t2, ?_, rfl⟩
    rfl
  · have hn : okF a = true ∧ okF b = true := by
      cases k1 : okF a <;> cases k2 : okF b <;> simp [k1, k2] at hc ⊢
    rw [mulS, if_pos hn]
    have oa := okF_iff.1 hn.1
    have ob := okF_iff.1 hn.2
    have qa := oa.qa
    have qb := ob.qa
    have na := oa.na
    have nb := ob.na
    have ua := i_u a.q (by have := oa.d1; omega) ha.d2
    have ub := i_u b.q (by have := ob.d1; omega) hb.d2
    have qa0 := oa.q0
    have qb0 := ob.q0
    have ca : Nat.Coprime a.n.natAbs a.q.natAbs := oa.g
    have cb : Nat.Coprime b.n.natAbs b.q.natAbs := ob.g
    have hsg : (!(decide (a.n < 0) == decide (b.n < 0))) = (!(decide (a.n < 0) == decide (b.n < 0))) := rfl
    generalize hsgd : (!(decide (a.n < 0) == decide (b.n < 0))) = sg at hsg ⊢
    obtain ⟨q, hq⟩ : ∃ q, q = a.q.natAbs := ⟨_, rfl⟩
    obtain ⟨s, hs'⟩ : ∃ s, s = b.q.natAbs := ⟨_, rfl⟩
    obtain ⟨p, hp⟩ : ∃ p, p = a.n.natAbs := ⟨_, rfl⟩
    obtain ⟨r, hr⟩ : ∃ r, r = b.n.natAbs := ⟨_, rfl⟩
    rw [← hp, ← hq] at ca
    rw [← hr, ← hs'] at cb
    rw [← hq] at qa ua qa0
    rw [← hs'] at qb ub qb0
    rw [← hp] at na
    rw [← hr] at nb
    rw [← hp, ← hq, ← hr, ← hs']
    obtain ⟨x, hx⟩ : ∃ x, x = Nat.gcd p s := ⟨_, rfl⟩
    obtain ⟨y, hy⟩ : ∃ y, y = Nat.gcd r q := ⟨_, rfl⟩
    rw [short_mul ca cb qa0 qb0 hx hy]
    have x0 : 0 < x := by rw [hx]; exact Nat.gcd_pos_of_pos_right _ qb0
    have y0 : 0 < y := by rw [hy]; exact Nat.gcd_pos_of_pos_right _ qa0
    have d1 : p / x ≤ p := Nat.div_le_self _ _
    have d2 : r / y ≤ r := Nat.div_le_self _ _
    have d3 : q / y ≤ q := Nat.div_le_self _ _
    have d4 : s / x ≤ s := Nat.div_le_self _ _
    have m1 := mul_lim (Nat.le_trans d1 na) (Nat.le_trans d2 nb)
    have m2 := mul_lim (Nat.le_trans d3 qa) (Nat.le_trans d4 qb)
    have ep := Mul64.wrapN (p / x) (by omega)
    have er := Mul64.wrapN (r / y) (by omega)
    have eq := Mul64.wrapN (q / y) (by omega)
    have es := Mul64.wrapN (s / x) (by omega)
    repeat ((with_reducible refine And.intro ?_ ?_); (focus (first | omega | (simp only [List.length_take, List.length_drop, List.length_map, List.length_append, List.length_cons]; omega) | (refine (show quietOp _ = true from ?_); rfl) | (refine (show drawOk _ _ _ _ _ _ _ from Or.inl ?_); kernel_rfl) | (intros; simp_all; done))))
    refine callF_pure (c32 a.n ha.n1 ha.n2) ?_
    rw [← hp]
    simp only [vcRules, dRules, bRules, tyRules, xRules, pickV_true, pickV_false, implies_true, Nat.reduceLT, Nat.reduceLeDiff, Nat.reduceEqDiff, Nat.reduceAdd, Nat.reduceSub, Nat.reduceMul, Int.reduceToNat, Int.reduceLT, Int.reduceLE, Int.reduceEq, Int.reduceAdd, Int.reduceSub, Int.reduceNeg, Int.reduceBEq, Int.reduceBNe, Int.reduceMul, Int.natCast_add, Int.natCast_one, reduceCtorEq, reduceIte, wN_isAgg, wN_cells, f_isAgg, f_cells, cRules, yRules, ub]
    refine callF_pure (c31 p s) ?_
    rw [← hx]
    simp only [vcRules, dRules, bRules, tyRules, xRules, pickV_true, pickV_false, implies_true, Nat.reduceLT, Nat.reduceLeDiff, Nat.reduceEqDiff, Nat.reduceAdd, Nat.reduceSub, Nat.reduceMul, Int.reduceToNat, Int.reduceLT, Int.reduceLE, Int.reduceEq, Int.reduceAdd, Int.reduceSub, Int.reduceNeg, Int.reduceBEq, Int.reduceBNe, Int.reduceMul, Int.natCast_add, Int.natCast_one, reduceCtorEq, reduceIte, wN_isAgg, wN_cells, f_isAgg, f_cells, cRules, yRules]
    refine callF_pure (c32 b.n hb.n1 hb.n2) ?_
    rw [← hr]
    simp only [vcRules, dRules, bRules, tyRules, xRules, pickV_true, pickV_false, implies_true, Nat.reduceLT, Nat.reduceLeDiff, Nat.reduceEqDiff, Nat.reduceAdd, Nat.reduceSub, Nat.reduceMul, Int.reduceToNat, Int.reduceLT, Int.reduceLE, Int.reduceEq, Int.reduceAdd, Int.reduceSub, Int.reduceNeg, Int.reduceBEq, Int.reduceBNe, Int.reduceMul, Int.natCast_add, Int.natCast_one, reduceCtorEq, reduceIte, wN_isAgg, wN_cells, f_isAgg, f_cells, cRules, yRules, ua]
    refine callF_pure (c31 r q) ?_
    rw [← hy]
    simp only [vcRules, dRules, bRules, tyRules, xRules, pickV_true, pickV_false, implies_true, Nat.reduceLT, Nat.reduceLeDiff, Nat.reduceEqDiff, Nat.reduceAdd, Nat.reduceSub, Nat.reduceMul, Int.reduceToNat, Int.reduceLT, Int.reduceLE, Int.reduceEq, Int.reduceAdd, Int.reduceSub, Int.reduceNeg, Int.reduceBEq, Int.reduceBNe, Int.reduceMul, Int.natCast_add, Int.natCast_one, reduceCtorEq, reduceIte, wN_isAgg, wN_cells, f_isAgg, f_cells, cRules, yRules]
    refine ⟨.inr (.inr ⟨22, 4, by decide, by kernel_rfl, ?_⟩), ?_⟩
    · simp only [List.take_succ_cons, List.take_zero]
      simp only [vcRules, dRules, bRules, tyRules, xRules, pickV_true, pickV_false, implies_true, Nat.reduceLT, Nat.reduceLeDiff, Nat.reduceEqDiff, Nat.reduceAdd, Nat.reduceSub, Nat.reduceMul, Int.reduceToNat, Int.reduceLT, Int.reduceLE, Int.reduceEq, Int.reduceAdd, Int.reduceSub, Int.reduceNeg, Int.reduceBEq, Int.reduceBNe, Int.reduceMul, Int.natCast_add, Int.natCast_one, reduceCtorEq, reduceIte, wN_isAgg, wN_cells, f_isAgg, f_cells, cRules, yRules]
      refine callF_pure (c32 a.n ha.n1 ha.n2) ?_
      rw [← hp]
      simp only [vcRules, dRules, bRules, tyRules, xRules, pickV_true, pickV_false, implies_true, Nat.reduceLT, Nat.reduceLeDiff, Nat.reduceEqDiff, Nat.reduceAdd, Nat.reduceSub, Nat.reduceMul, Int.reduceToNat, Int.reduceLT, Int.reduceLE, Int.reduceEq, Int.reduceAdd, Int.reduceSub, Int.reduceNeg, Int.reduceBEq, Int.reduceBNe, Int.reduceMul, Int.natCast_add, Int.natCast_one, reduceCtorEq, reduceIte, wN_isAgg, wN_cells, f_isAgg, f_cells, cRules, yRules, quoU, quoN, ep]
      repeat ((with_reducible refine And.intro ?_ ?_); (focus (first | omega | (simp only [List.length_take, List.length_drop, List.length_map, List.length_append, List.length_cons]; omega) | (refine (show quietOp _ = true from ?_); rfl) | (refine (show drawOk _ _ _ _ _ _ _ from Or.inl ?_); kernel_rfl) | (intros; simp_all; done))))
      refine callF_pure (c32 b.n hb.n1 hb.n2) ?_
      rw [← hr]
      simp only [vcRules, dRules, bRules, tyRules, xRules, pickV_true, pickV_false, implies_true, Nat.reduceLT, Nat.reduceLeDiff, Nat.reduceEqDiff, Nat.reduceAdd, Nat.reduceSub, Nat.reduceMul, Int.reduceToNat, Int.reduceLT, Int.reduceLE, Int.reduceEq, Int.reduceAdd, Int.reduceSub, Int.reduceNeg, Int.reduceBEq, Int.reduceBNe, Int.reduceMul, Int.natCast_add, Int.natCast_one, reduceCtorEq, reduceIte, wN_isAgg, wN_cells, f_isAgg, f_cells, cRules, yRules, quoU, quoN, er]
      repeat ((with_reducible refine And.intro ?_ ?_); (focus (first | omega | (simp only [List.length_take, List.length_drop, List.length_map, List.length_append, List.length_cons]; omega) | (refine (show quietOp _ = true from ?_); rfl) | (refine (show drawOk _ _ _ _ _ _ _ from Or.inl ?_); kernel_rfl) | (intros; simp_all; done))))
      refine callF_pure (c39 (p / x) (r / y) (by omega) (by omega)) ?_
      simp only [vcRules, dRules, bRules, tyRules, xRules, pickV_true, pickV_false, implies_true, Nat.reduceLT, Nat.reduceLeDiff, Nat.reduceEqDiff, Nat.reduceAdd, Nat.reduceSub, Nat.reduceMul, Int.reduceToNat, Int.reduceLT, Int.reduceLE, Int.reduceEq, Int.reduceAdd, Int.reduceSub, Int.reduceNeg, Int.reduceBEq, Int.reduceBNe, Int.reduceMul, Int.natCast_add, Int.natCast_one, reduceCtorEq, reduceIte, wN_isAgg, wN_cells, f_isAgg, f_cells, cRules, yRules, ua, ub, quoU, quoN, eq, es]
      repeat ((with_reducible refine And.intro ?_ ?_); (focus (first | omega | (simp only [List.length_take, List.length_drop, List.length_map, List.length_append, List.length_cons]; omega) | (refine (show quietOp _ = true from ?_); rfl) | (refine (show drawOk _ _ _ _ _ _ _ from Or.inl ?_); kernel_rfl) | (intros; simp_all; done))))
      refine callF_pure (c39 (q / y) (s / x) (by omega) (by omega)) ?_
      simp only [vcRules, dRules, bRules, tyRules, xRules, pickV_true, pickV_false, implies_true, Nat.reduceLT, Nat.reduceLeDiff, Nat.reduceEqDiff, Nat.reduceAdd, Nat.reduceSub, Nat.reduceMul, Int.reduceToNat, Int.reduceLT, Int.reduceLE, Int.reduceEq, Int.reduceAdd, Int.reduceSub, Int.reduceNeg, Int.reduceBEq, Int.reduceBNe, Int.reduceMul, Int.natCast_add, Int.natCast_one, reduceCtorEq, reduceIte, wN_isAgg, wN_cells, f_isAgg, f_cells, cRules, yRules]
      generalize p / x * (r / y) = nn at m1 ⊢
      generalize q / y * (s / x) = dd at m2 ⊢
      refine evAny_node [22, 23] (by kernel_rfl) (by simp) (all2 ?_ ?_) <;> refine at_list rfl ?_
      · simp only [vcRules, dRules, bRules, tyRules, xRules, pickV_true, pickV_false, implies_true, Nat.reduceLT, Nat.reduceLeDiff, Nat.reduceEqDiff, Nat.reduceAdd, Nat.reduceSub, Nat.reduceMul, Int.reduceToNat, Int.reduceLT, Int.reduceLE, Int.reduceEq, Int.reduceAdd, Int.reduceSub, Int.reduceNeg, Int.reduceBEq, Int.reduceBNe, Int.reduceMul, Int.natCast_add, Int.natCast_one, reduceCtorEq, reduceIte, wN_isAgg, wN_cells, f_isAgg, f_cells, cRules, yRules]
        refine evAny_node [23] (by kernel_rfl) (by simp) (all1 ?_)
        refine at_list rfl ?_
        simp only [vcRules, dRules, bRules, tyRules, xRules, pickV_true, pickV_false, implies_true, Nat.reduceLT, Nat.reduceLeDiff, Nat.reduceEqDiff, Nat.reduceAdd, Nat.reduceSub, Nat.reduceMul, Int.reduceToNat, Int.reduceLT, Int.reduceLE, Int.reduceEq, Int.reduceAdd, Int.reduceSub, Int.reduceNeg, Int.reduceBEq, Int.reduceBNe, Int.reduceMul, Int.natCast_add, Int.natCast_one, reduceCtorEq, reduceIte, wN_isAgg, wN_cells, f_isAgg, f_cells, cRules, yRules]
        refine evAny_node [24] (by kernel_rfl) (by simp) (all1 ?_)
        refine at_list rfl ?_
        simp only [vcRules, dRules, bRules, tyRules, xRules, pickV_true, pickV_false, implies_true, Nat.reduceLT, Nat.reduceLeDiff, Nat.reduceEqDiff, Nat.reduceAdd, Nat.reduceSub, Nat.reduceMul, Int.reduceToNat, Int.reduceLT, Int.reduceLE, Int.reduceEq, Int.reduceAdd, Int.reduceSub, Int.reduceNeg, Int.reduceBEq, Int.reduceBNe, Int.reduceMul, Int.natCast_add, Int.natCast_one, reduceCtorEq, reduceIte, wN_isAgg, wN_cells, f_isAgg, f_cells, cRules, yRules]
        refine evAny_node [25] (by kernel_rfl) (by simp) (all1 ?_)
        refine at_list rfl ?_
        simp only [vcRules, dRules, bRules, tyRules, xRules, pickV_true, pickV_false, implies_true, Nat.reduceLT, Nat.reduceLeDiff, Nat.reduceEqDiff, Nat.reduceAdd, Nat.reduceSub, Nat.reduceMul, Int.reduceToNat, Int.reduceLT, Int.reduceLE, Int.reduceEq, Int.reduceAdd, Int.reduceSub, Int.reduceNeg, Int.reduceBEq, Int.reduceBNe, Int.reduceMul, Int.natCast_add, Int.natCast_one, reduceCtorEq, reduceIte, wN_isAgg, wN_cells, f_isAgg, f_cells, cRules, yRules]
        refine evAny_leaf (by kernel_rfl) ⟨_, fun t => rfl, ?_⟩
        simp only [vcRules, dRules, bRules, tyRules, xRules, pickV_true, pickV_false, implies_true, Nat.reduceLT, Nat.reduceLeDiff, Nat.reduceEqDiff, Nat.reduceAdd, Nat.reduceSub, Nat.reduceMul, Int.reduceToNat, Int.reduceLT, Int.reduceLE, Int.reduceEq, Int.reduceAdd, Int.reduceSub, Int.reduceNeg, Int.reduceBEq, Int.reduceBNe, Int.reduceMul, Int.natCast_add, Int.natCast_one, reduceCtorEq, reduceIte, wN_isAgg, wN_cells, f_isAgg, f_cells, cRules, yRules]
        refine ifC.mk (fun hd => ?_) (fun hd => ?_)
        · have hd : 18446744073709551616 ≤ nn ∨ 18446744073709551616 ≤ dd := by
            simp only [Bool.or_eq_true, bne_iff_ne, ne_eq] at hd
            omega
          rw [show madeP sg nn dd = failF by unfold madeP; rw [if_neg (by omega)]]
          refine ⟨_, _, ret_t2, ?_, rfl⟩
          rfl
        · have hd : nn < 18446744073709551616 ∧ dd < 18446744073709551616 := by
            have := Bool.eq_false_iff.1 hd
            simp only [ne_eq, Bool.or_eq_true, bne_iff_ne, Classical.not_not] at this
            omega
          rw [show nn % 18446744073709551616 = nn by omega, show dd % 18446744073709551616 = dd by omega]
          (try simp only [vcRules, dRules, bRules, tyRules, xRules, pickV_true, pickV_false, implies_true, Nat.reduceLT, Nat.reduceLeDiff, Nat.reduceEqDiff, Nat.reduceAdd, Nat.reduceSub, Nat.reduceMul, Int.reduceToNat, Int.reduceLT, Int.reduceLE, Int.reduceEq, Int.reduceAdd, Int.reduceSub, Int.reduceNeg, Int.reduceBEq, Int.reduceBNe, Int.reduceMul, Int.natCast_add, Int.natCast_one, reduceCtorEq, reduceIte, wN_isAgg, wN_cells, f_isAgg, f_cells, cRules, yRules, hsgd])
          refine callF_pure (c33 _ nn dd hd.1 hd.2) ?_
          rw [madeP_sign (n := nn) (d := dd) (m' := sg) (fun h => by simp [h])]
          simp only [resD]
          simp only [vcRules, dRules, bRules, tyRules, xRules, pickV_true, pickV_false, implies_true, Nat.reduceLT, Nat.reduceLeDiff, Nat.reduceEqDiff, Nat.reduceAdd, Nat.reduceSub, Nat.reduceMul, Int.reduceToNat, Int.reduceLT, Int.reduceLE, Int.reduceEq, Int.reduceAdd, Int.reduceSub, Int.reduceNeg, Int.reduceBEq, Int.reduceBNe, Int.reduceMul, Int.natCast_add, Int.natCast_one, reduceCtorEq, reduceIte, wN_isAgg, wN_cells, f_isAgg, f_cells, cRules, yRules]
          exact ⟨_, _, ret_t2, rfl, rfl⟩
      · simp only [vcRules, dRules, bRules, tyRules, xRules, pickV_true, pickV_false, implies_true, Nat.reduceLT, Nat.reduceLeDiff, Nat.reduceEqDiff, Nat.reduceAdd, Nat.reduceSub, Nat.reduceMul, Int.reduceToNat, Int.reduceLT, Int.reduceLE, Int.reduceEq, Int.reduceAdd, Int.reduceSub, Int.reduceNeg, Int.reduceBEq, Int.reduceBNe, Int.reduceMul, Int.natCast_add, Int.natCast_one, reduceCtorEq, reduceIte, wN_isAgg, wN_cells, f_isAgg, f_cells, cRules, yRules]
        refine evAny_node [22] (by kernel_rfl) (by simp) (all1 ?_)
        refine at_list rfl ?_
        simp only [vcRules, dRules, bRules, tyRules, xRules, pickV_true, pickV_false, implies_true, Nat.reduceLT, Nat.reduceLeDiff, Nat.reduceEqDiff, Nat.reduceAdd, Nat.reduceSub, Nat.reduceMul, Int.reduceToNat, Int.reduceLT, Int.reduceLE, Int.reduceEq, Int.reduceAdd, Int.reduceSub, Int.reduceNeg, Int.reduceBEq, Int.reduceBNe, Int.reduceMul, Int.natCast_add, Int.natCast_one, reduceCtorEq, reduceIte, wN_isAgg, wN_cells, f_isAgg, f_cells, cRules, yRules]
        refine evAny_node [24] (by kernel_rfl) (by simp) (all1 ?_)
        refine at_list rfl ?_
        simp only [vcRules, dRules, bRules, tyRules, xRules, pickV_true, pickV_false, implies_true, Nat.reduceLT, Nat.reduceLeDiff, Nat.reduceEqDiff, Nat.reduceAdd, Nat.reduceSub, Nat.reduceMul, Int.reduceToNat, Int.reduceLT, Int.reduceLE, Int.reduceEq, Int.reduceAdd, Int.reduceSub, Int.reduceNeg, Int.reduceBEq, Int.reduceBNe, Int.reduceMul, Int.natCast_add, Int.natCast_one, reduceCtorEq, reduceIte, wN_isAgg, wN_cells, f_isAgg, f_cells, cRules, yRules]
        refine evAny_node [25] (by kernel_rfl) (by simp) (all1 ?_)
        refine at_list rfl ?_
        simp only [vcRules, dRules, bRules, tyRules, xRules, pickV_true, pickV_false, implies_true, Nat.reduceLT, Nat.reduceLeDiff, Nat.reduceEqDiff, Nat.reduceAdd, Nat.reduceSub, Nat.reduceMul, Int.reduceToNat, Int.reduceLT, Int.reduceLE, Int.reduceEq, Int.reduceAdd, Int.reduceSub, Int.reduceNeg, Int.reduceBEq, Int.reduceBNe, Int.reduceMul, Int.natCast_add, Int.natCast_one, reduceCtorEq, reduceIte, wN_isAgg, wN_cells, f_isAgg, f_cells, cRules, yRules]
        refine evAny_leaf (by kernel_rfl) ⟨_, fun t => rfl, ?_⟩
        simp only [vcRules, dRules, bRules, tyRules, xRules, pickV_true, pickV_false, implies_true, Nat.reduceLT, Nat.reduceLeDiff, Nat.reduceEqDiff, Nat.reduceAdd, Nat.reduceSub, Nat.reduceMul, Int.reduceToNat, Int.reduceLT, Int.reduceLE, Int.reduceEq, Int.reduceAdd, Int.reduceSub, Int.reduceNeg, Int.reduceBEq, Int.reduceBNe, Int.reduceMul, Int.natCast_add, Int.natCast_one, reduceCtorEq, reduceIte, wN_isAgg, wN_cells, f_isAgg, f_cells, cRules, yRules]
        refine ifC.mk (fun hd => ?_) (fun hd => ?_)
        · have hd : 18446744073709551616 ≤ nn ∨ 18446744073709551616 ≤ dd := by
            simp only [Bool.or_eq_true, bne_iff_ne, ne_eq] at hd
            omega
          rw [show madeP sg nn dd = failF by unfold madeP; rw [if_neg (by omega)]]
          refine ⟨_, _, ret_t2, ?_, rfl⟩
          rfl
        · have hd : nn < 18446744073709551616 ∧ dd < 18446744073709551616 := by
            have := Bool.eq_false_iff.1 hd
            simp only [ne_eq, Bool.or_eq_true, bne_iff_ne, Classical.not_not] at this
            omega
          rw [show nn % 18446744073709551616 = nn by omega, show dd % 18446744073709551616 = dd by omega]
          (try simp only [vcRules, dRules, bRules, tyRules, xRules, pickV_true, pickV_false, implies_true, Nat.reduceLT, Nat.reduceLeDiff, Nat.reduceEqDiff, Nat.reduceAdd, Nat.reduceSub, Nat.reduceMul, Int.reduceToNat, Int.reduceLT, Int.reduceLE, Int.reduceEq, Int.reduceAdd, Int.reduceSub, Int.reduceNeg, Int.reduceBEq, Int.reduceBNe, Int.reduceMul, Int.natCast_add, Int.natCast_one, reduceCtorEq, reduceIte, wN_isAgg, wN_cells, f_isAgg, f_cells, cRules, yRules, hsgd])
          refine callF_pure (c33 _ nn dd hd.1 hd.2) ?_
          rw [madeP_sign (n := nn) (d := dd) (m' := sg) (fun h => by simp [h])]
          simp only [resD]
          simp only [vcRules, dRules, bRules, tyRules, xRules, pickV_true, pickV_false, implies_true, Nat.reduceLT, Nat.reduceLeDiff, Nat.reduceEqDiff, Nat.reduceAdd, Nat.reduceSub, Nat.reduceMul, Int.reduceToNat, Int.reduceLT, Int.reduceLE, Int.reduceEq, Int.reduceAdd, Int.reduceSub, Int.reduceNeg, Int.reduceBEq, Int.reduceBNe, Int.reduceMul, Int.natCast_add, Int.natCast_one, reduceCtorEq, reduceIte, wN_isAgg, wN_cells, f_isAgg, f_cells, cRules, yRules]
          exact ⟨_, _, ret_t2, rfl, rfl⟩
    · refine callF_pure (c32 a.n ha.n1 ha.n2) ?_
      rw [← hp]
      simp only [vcRules, dRules, bRules, tyRules, xRules, pickV_true, pickV_false, implies_true, Nat.reduceLT, Nat.reduceLeDiff, Nat.reduceEqDiff, Nat.reduceAdd, Nat.reduceSub, Nat.reduceMul, Int.reduceToNat, Int.reduceLT, Int.reduceLE, Int.reduceEq, Int.reduceAdd, Int.reduceSub, Int.reduceNeg, Int.reduceBEq, Int.reduceBNe, Int.reduceMul, Int.natCast_add, Int.natCast_one, reduceCtorEq, reduceIte, wN_isAgg, wN_cells, f_isAgg, f_cells, cRules, yRules, quoU, quoN, ep]
      repeat ((with_reducible refine And.intro ?_ ?_); (focus (first | omega | (simp only [List.length_take, List.length_drop, List.length_map, List.length_append, List.length_cons]; omega) | (refine (show quietOp _ = true from ?_); rfl) | (refine (show drawOk _ _ _ _ _ _ _ from Or.inl ?_); kernel_rfl) | (intros; simp_all; done))))
      refine callF_pure (c32 b.n hb.n1 hb.n2) ?_
      rw [← hr]
      simp only [vcRules, dRules, bRules, tyRules, xRules, pickV_true, pickV_false, implies_true, Nat.reduceLT, Nat.reduceLeDiff, Nat.reduceEqDiff, Nat.reduceAdd, Nat.reduceSub, Nat.reduceMul, Int.reduceToNat, Int.reduceLT, Int.reduceLE, Int.reduceEq, Int.reduceAdd, Int.reduceSub, Int.reduceNeg, Int.reduceBEq, Int.reduceBNe, Int.reduceMul, Int.natCast_add, Int.natCast_one, reduceCtorEq, reduceIte, wN_isAgg, wN_cells, f_isAgg, f_cells, cRules, yRules, quoU, quoN, er]
      repeat ((with_reducible refine And.intro ?_ ?_); (focus (first | omega | (simp only [List.length_take, List.length_drop, List.length_map, List.length_append, List.length_cons]; omega) | (refine (show quietOp _ = true from ?_); rfl) | (refine (show drawOk _ _ _ _ _ _ _ from Or.inl ?_); kernel_rfl) | (intros; simp_all; done))))
      refine callF_pure (c39 (p / x) (r / y) (by omega) (by omega)) ?_
      simp only [vcRules, dRules, bRules, tyRules, xRules, pickV_true, pickV_false, implies_true, Nat.reduceLT, Nat.reduceLeDiff, Nat.reduceEqDiff, Nat.reduceAdd, Nat.reduceSub, Nat.reduceMul, Int.reduceToNat, Int.reduceLT, Int.reduceLE, Int.reduceEq, Int.reduceAdd, Int.reduceSub, Int.reduceNeg, Int.reduceBEq, Int.reduceBNe, Int.reduceMul, Int.natCast_add, Int.natCast_one, reduceCtorEq, reduceIte, wN_isAgg, wN_cells, f_isAgg, f_cells, cRules, yRules, ua, ub, quoU, quoN, eq, es]
      repeat ((with_reducible refine And.intro ?_ ?_); (focus (first | omega | (simp only [List.length_take, List.length_drop, List.length_map, List.length_append, List.length_cons]; omega) | (refine (show quietOp _ = true from ?_); rfl) | (refine (show drawOk _ _ _ _ _ _ _ from Or.inl ?_); kernel_rfl) | (intros; simp_all; done))))
      refine callF_pure (c39 (q / y) (s / x) (by omega) (by omega)) ?_
      simp only [vcRules, dRules, bRules, tyRules, xRules, pickV_true, pickV_false, implies_true, Nat.reduceLT, Nat.reduceLeDiff, Nat.reduceEqDiff, Nat.reduceAdd, Nat.reduceSub, Nat.reduceMul, Int.reduceToNat, Int.reduceLT, Int.reduceLE, Int.reduceEq, Int.reduceAdd, Int.reduceSub, Int.reduceNeg, Int.reduceBEq, Int.reduceBNe, Int.reduceMul, Int.natCast_add, Int.natCast_one, reduceCtorEq, reduceIte, wN_isAgg, wN_cells, f_isAgg, f_cells, cRules, yRules]
      generalize p / x * (r / y) = nn at m1 ⊢
      generalize q / y * (s / x) = dd at m2 ⊢
      refine ifC.mk (fun hd => ?_) (fun hd => ?_)
      · have hd : 18446744073709551616 ≤ nn ∨ 18446744073709551616 ≤ dd := by
          simp only [Bool.or_eq_true, bne_iff_ne, ne_eq] at hd
          omega
        rw [show madeP sg nn dd = failF by unfold madeP; rw [if_neg (by omega)]]
        refine ⟨_, _, ret_t2, ?_, rfl⟩
        rfl
      · have hd : nn < 18446744073709551616 ∧ dd < 18446744073709551616 := by
          have := Bool.eq_false_iff.1 hd
          simp only [ne_eq, Bool.or_eq_true, bne_iff_ne, Classical.not_not] at this
          omega
        rw [show nn % 18446744073709551616 = nn by omega, show dd % 18446744073709551616 = dd by omega]
        (try simp only [vcRules, dRules, bRules, tyRules, xRules, pickV_true, pickV_false, implies_true, Nat.reduceLT, Nat.reduceLeDiff, Nat.reduceEqDiff, Nat.reduceAdd, Nat.reduceSub, Nat.reduceMul, Int.reduceToNat, Int.reduceLT, Int.reduceLE, Int.reduceEq, Int.reduceAdd, Int.reduceSub, Int.reduceNeg, Int.reduceBEq, Int.reduceBNe, Int.reduceMul, Int.natCast_add, Int.natCast_one, reduceCtorEq, reduceIte, wN_isAgg, wN_cells, f_isAgg, f_cells, cRules, yRules, hsgd])
        refine callF_pure (c33 _ nn dd hd.1 hd.2) ?_
        rw [madeP_sign (n := nn) (d := dd) (m' := sg) (fun h => by simp [h])]
        simp only [resD]
        simp only [vcRules, dRules, bRules, tyRules, xRules, pickV_true, pickV_false, implies_true, Nat.reduceLT, Nat.reduceLeDiff, Nat.reduceEqDiff, Nat.reduceAdd, Nat.reduceSub, Nat.reduceMul, Int.reduceToNat, Int.reduceLT, Int.reduceLE, Int.reduceEq, Int.reduceAdd, Int.reduceSub, Int.reduceNeg, Int.reduceBEq, Int.reduceBNe, Int.reduceMul, Int.natCast_add, Int.natCast_one, reduceCtorEq, reduceIte, wN_isAgg, wN_cells, f_isAgg, f_cells, cRules, yRules]
        exact ⟨_, _, ret_t2, rfl, rfl⟩
end YtkoebmjenkajdaaDoor
end Go.Proofs
