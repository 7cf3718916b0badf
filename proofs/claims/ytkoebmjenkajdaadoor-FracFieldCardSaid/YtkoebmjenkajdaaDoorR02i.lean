/- A part of the proof: contracts of functions of this seat, and lemmas. No condition beyond those stated. -/
import Derived.Test.YtkoebmjenkajdaaDoorR02h
set_option linter.unusedVariables false
set_option linter.unusedSimpArgs false
set_option linter.unusedSectionVars false
set_option linter.unnecessarySimpa false
set_option linter.unusedSimpArgs false
set_option linter.unusedVariables false
set_option maxRecDepth 100000
namespace Go.Proofs
open Go.AM
namespace YtkoebmjenkajdaaDoor
variable {Gl : Globs}
def failF : FracT × Bool := (⟨0, 0⟩, false)
def ofS (n d : Int) : FracT × Bool := if d = 0 then failF else normS (!(decide (n < 0) == decide (d < 0))) n.natAbs d.natAbs
theorem c12 (n d : Int) (h1 : -9223372036854775808 ≤ n) (h2 : n ≤ 9223372036854775807) (h3 : -9223372036854775808 ≤ d) (h4 : d ≤ 9223372036854775807) : Pure Tryd.prog Gl 12 [.d (.int .i64 n), .d (.int .i64 d)] (resD (ofS n d)) := by
  refine Pure.of2t2 ?_
  refine acalls_of Tryd.func12 rfl rfl (by simp [Tryd.ntmps12]) (evC_sound rfl _ _ _ _ ?_)
  simp only [Tryd.ntmps12, Tryd.results12, argEnv, List.length_nil]
  simp only [vcRules, dRules, bRules, tyRules, xRules, pickV_true, pickV_false, implies_true, Nat.reduceLT, Nat.reduceLeDiff, Nat.reduceEqDiff, Nat.reduceAdd, Nat.reduceSub, Nat.reduceMul, Int.reduceToNat, Int.reduceLT, Int.reduceLE, Int.reduceEq, Int.reduceAdd, Int.reduceSub, Int.reduceNeg, Int.reduceBEq, Int.reduceBNe, Int.reduceMul, Int.natCast_add, Int.natCast_one, reduceCtorEq, reduceIte, wN_isAgg, wN_cells, gD_isAgg, gD_cells, f_isAgg, f_cells, cRules, yRules]
  refine ifC.mk (fun hc => ?_) (fun hc => ?_)
  · have hc : d = 0 := by simpa using hc
    rw [ofS, if_pos hc]
    refine ⟨_, _, ret_t2, ?_, rfl⟩
    rfl
  · have hc : ¬ d = 0 := by simpa using hc
    rw [ofS, if_neg hc]
    repeat ((with_reducible refine And.intro ?_ ?_); (focus (first | omega | (simp only [List.length_take, List.length_drop, List.length_map, List.length_append, List.length_cons]; omega) | (refine (show quietOp _ = true from ?_); rfl) | (refine (show drawOk _ _ _ _ _ _ _ from Or.inl ?_); kernel_rfl) | (intros; simp_all; done))))
    refine callF_pure (c35 n h1 h2) ?_
    simp only [vcRules, dRules, bRules, tyRules, xRules, pickV_true, pickV_false, implies_true, Nat.reduceLT, Nat.reduceLeDiff, Nat.reduceEqDiff, Nat.reduceAdd, Nat.reduceSub, Nat.reduceMul, Int.reduceToNat, Int.reduceLT, Int.reduceLE, Int.reduceEq, Int.reduceAdd, Int.reduceSub, Int.reduceNeg, Int.reduceBEq, Int.reduceBNe, Int.reduceMul, Int.natCast_add, Int.natCast_one, reduceCtorEq, reduceIte, wN_isAgg, wN_cells, gD_isAgg, gD_cells, f_isAgg, f_cells, cRules, yRules, wN_small (show n.natAbs < 18446744073709551616 by omega)]
    refine callF_pure (c35 d h3 h4) ?_
    simp only [vcRules, dRules, bRules, tyRules, xRules, pickV_true, pickV_false, implies_true, Nat.reduceLT, Nat.reduceLeDiff, Nat.reduceEqDiff, Nat.reduceAdd, Nat.reduceSub, Nat.reduceMul, Int.reduceToNat, Int.reduceLT, Int.reduceLE, Int.reduceEq, Int.reduceAdd, Int.reduceSub, Int.reduceNeg, Int.reduceBEq, Int.reduceBNe, Int.reduceMul, Int.natCast_add, Int.natCast_one, reduceCtorEq, reduceIte, wN_isAgg, wN_cells, gD_isAgg, gD_cells, f_isAgg, f_cells, cRules, yRules, wN_small (show d.natAbs < 18446744073709551616 by omega)]
    refine callF_pure (c34 _ n.natAbs d.natAbs (by omega) (by omega) (by omega)) ?_
    simp only [resD]
    simp only [vcRules, dRules, bRules, tyRules, xRules, pickV_true, pickV_false, implies_true, Nat.reduceLT, Nat.reduceLeDiff, Nat.reduceEqDiff, Nat.reduceAdd, Nat.reduceSub, Nat.reduceMul, Int.reduceToNat, Int.reduceLT, Int.reduceLE, Int.reduceEq, Int.reduceAdd, Int.reduceSub, Int.reduceNeg, Int.reduceBEq, Int.reduceBNe, Int.reduceMul, Int.natCast_add, Int.natCast_one, reduceCtorEq, reduceIte, wN_isAgg, wN_cells, gD_isAgg, gD_cells, f_isAgg, f_cells, cRules, yRules]
    refine ⟨_, _, ret_t2, ?_, rfl⟩
    rfl
def negF (a : FracT) : FracT := ⟨IntKind.i64.wrap (0 - a.n), a.q⟩
theorem c51 (a : FracT) : Pure Tryd.prog Gl 51 [.d a.toD] (.d (negF a).toD) := by
  refine Pure.of1 ?_
  refine acalls_of Tryd.func51 rfl rfl (by simp [Tryd.ntmps51]) (evC_sound rfl _ _ _ _ ?_)
  simp only [Tryd.ntmps51, Tryd.results51, argEnv, List.length_nil]
  simp only [vcRules, dRules, bRules, tyRules, xRules, pickV_true, pickV_false, implies_true, Nat.reduceLT, Nat.reduceLeDiff, Nat.reduceEqDiff, Nat.reduceAdd, Nat.reduceSub, Nat.reduceMul, Int.reduceToNat, Int.reduceLT, Int.reduceLE, Int.reduceEq, Int.reduceAdd, Int.reduceSub, Int.reduceNeg, Int.reduceBEq, Int.reduceBNe, Int.reduceMul, Int.natCast_add, Int.natCast_one, reduceCtorEq, reduceIte, wN_isAgg, wN_cells, gD_isAgg, gD_cells, f_isAgg, f_cells, cRules, yRules]
  exact ⟨_, _, ret_d, rfl, rfl⟩
def usF (a : FracT) : FracT := if okF a = true then a else ⟨0, 1⟩
theorem c52 (a : FracT) (h : a.In) : Pure Tryd.prog Gl 52 [.d a.toD] (.d (usF a).toD) := by
  refine Pure.of1 ?_
  refine acalls_of Tryd.func52 rfl rfl (by simp [Tryd.ntmps52]) (evC_sound rfl _ _ _ _ ?_)
  simp only [Tryd.ntmps52, Tryd.results52, argEnv, List.length_nil]
  simp only [vcRules, dRules, bRules, tyRules, xRules, pickV_true, pickV_false, implies_true, Nat.reduceLT, Nat.reduceLeDiff, Nat.reduceEqDiff, Nat.reduceAdd, Nat.reduceSub, Nat.reduceMul, Int.reduceToNat, Int.reduceLT, Int.reduceLE, Int.reduceEq, Int.reduceAdd, Int.reduceSub, Int.reduceNeg, Int.reduceBEq, Int.reduceBNe, Int.reduceMul, Int.natCast_add, Int.natCast_one, reduceCtorEq, reduceIte, wN_isAgg, wN_cells, gD_isAgg, gD_cells, f_isAgg, f_cells, cRules, yRules]
  refine callF_pure (c15 a h) ?_
  simp only [vcRules, dRules, bRules, tyRules, xRules, pickV_true, pickV_false, implies_true, Nat.reduceLT, Nat.reduceLeDiff, Nat.reduceEqDiff, Nat.reduceAdd, Nat.reduceSub, Nat.reduceMul, Int.reduceToNat, Int.reduceLT, Int.reduceLE, Int.reduceEq, Int.reduceAdd, Int.reduceSub, Int.reduceNeg, Int.reduceBEq, Int.reduceBNe, Int.reduceMul, Int.natCast_add, Int.natCast_one, reduceCtorEq, reduceIte, wN_isAgg, wN_cells, gD_isAgg, gD_cells, f_isAgg, f_cells, cRules, yRules]
  refine ifC.mk (fun hc => ?_) (fun hc => ?_)
  · rw [usF, if_pos hc]; exact ⟨_, _, ret_d, rfl, rfl⟩
  · rw [usF, if_neg (by rw [hc]; exact Bool.false_ne_true)]; exact ⟨_, _, ret_d, rfl, rfl⟩
def crossG (a b : FracT) : Bool × Nat := sumG (decide (a.n < 0), a.n.natAbs * b.q.natAbs) (decide (b.n < 0), b.n.natAbs * a.q.natAbs)
def addS (a b : FracT) : FracT × Bool := if okF a = true ∧ okF b = true then normS (crossG a b).1 (crossG a b).2 (a.q.natAbs * b.q.natAbs) else failF
theorem mul_lim {x y A B : Nat} (h1 : x ≤ A) (h2 : y ≤ B) : x * y ≤ A * B := Nat.mul_le_mul h1 h2
theorem FracT.Ok.na {a : FracT} (h : a.Ok) : a.n.natAbs ≤ 4611686018427387904 := by have := h.n1; have := h.n2; omega
theorem FracT.Ok.qa {a : FracT} (h : a.Ok) : a.q.natAbs ≤ 1000000000000000 := by have := h.d1; have := h.d2; omega
theorem FracT.Ok.q0 {a : FracT} (h : a.Ok) : 0 < a.q.natAbs := by have := h.d1; omega
theorem c26 (a b : FracT) (ha : a.In) (hb : b.In) : Pure Tryd.prog Gl 26 [.d a.toD, .d b.toD] (resD (addS a b)) := by
  refine Pure.of2t2 ?_
  refine acalls_of Tryd.func26 rfl rfl (by simp [Tryd.ntmps26]) (evC_sound rfl _ _ _ _ ?_)
  simp only [Tryd.ntmps26, Tryd.results26, argEnv, List.length_nil]
  simp only [vcRules, dRules, bRules, tyRules, xRules, pickV_true, pickV_false, implies_true, Nat.reduceLT, Nat.reduceLeDiff, Nat.reduceEqDiff, Nat.reduceAdd, Nat.reduceSub, Nat.reduceMul, Int.reduceToNat, Int.reduceLT, Int.reduceLE, Int.reduceEq, Int.reduceAdd, Int.reduceSub, Int.reduceNeg, Int.reduceBEq, Int.reduceBNe, Int.reduceMul, Int.natCast_add, Int.natCast_one, reduceCtorEq, reduceIte, wN_isAgg, wN_cells, gD_isAgg, gD_cells, f_isAgg, f_cells, cRules, yRules]
  refine callF_pure (c15 a ha) ?_
  simp only [vcRules, dRules, bRules, tyRules, xRules, pickV_true, pickV_false, implies_true, Nat.reduceLT, Nat.reduceLeDiff, Nat.reduceEqDiff, Nat.reduceAdd, Nat.reduceSub, Nat.reduceMul, Int.reduceToNat, Int.reduceLT, Int.reduceLE, Int.reduceEq, Int.reduceAdd, Int.reduceSub, Int.reduceNeg, Int.reduceBEq, Int.reduceBNe, Int.reduceMul, Int.natCast_add, Int.natCast_one, reduceCtorEq, reduceIte, wN_isAgg, wN_cells, gD_isAgg, gD_cells, f_isAgg, f_cells, cRules, yRules]
  repeat ((with_reducible refine And.intro ?_ ?_); (focus (first | omega | (simp only [List.length_take, List.length_drop, List.length_map, List.length_append, List.length_cons]; omega) | (refine (show quietOp _ = true from ?_); rfl) | (refine (show drawOk _ _ _ _ _ _ _ from Or.inl ?_); kernel_rfl) | (intros; simp_all; done))))
  refine callG_pure (fun _ => c15 b hb) ?_
  simp only [vcRules, dRules, bRules, tyRules, xRules, pickV_true, pickV_false, implies_true, Nat.reduceLT, Nat.reduceLeDiff, Nat.reduceEqDiff, Nat.reduceAdd, Nat.reduceSub, Nat.reduceMul, Int.reduceToNat, Int.reduceLT, Int.reduceLE, Int.reduceEq, Int.reduceAdd, Int.reduceSub, Int.reduceNeg, Int.reduceBEq, Int.reduceBNe, Int.reduceMul, Int.natCast_add, Int.natCast_one, reduceCtorEq, reduceIte, wN_isAgg, wN_cells, gD_isAgg, gD_cells, f_isAgg, f_cells, cRules, yRules]
  refine ⟨fun h => by simpa using h, ?_⟩
  refine ifC.mk (fun hc => ?_) (fun hc => ?_)
  · have hn : ¬ (okF a = true ∧ okF b = true) := by
      rintro ⟨k1, k2⟩
      rw [k1, k2] at hc
      simp at hc
    rw [addS, if_neg hn]
    refine ⟨_, _, ret_t2, ?_, rfl⟩
    rfl
  · have hn : okF a = true ∧ okF b = true := by
      cases k1 : okF a <;> cases k2 : okF b <;> simp [k1, k2] at hc ⊢
    rw [addS, if_pos hn]
    have oa := okF_iff.1 hn.1
    have ob := okF_iff.1 hn.2
    have m1 := mul_lim oa.na ob.qa
    have m2 := mul_lim ob.na oa.qa
    have qa := oa.qa
    have qb := ob.qa
    have m3 := mul_lim qa qb
    have m4 : 0 < a.q.natAbs * b.q.natAbs := Nat.mul_pos oa.q0 ob.q0
    have hs := sumG_le (decide (a.n < 0), a.n.natAbs * b.q.natAbs) (decide (b.n < 0), b.n.natAbs * a.q.natAbs)
    repeat ((with_reducible refine And.intro ?_ ?_); (focus (first | omega | (simp only [List.length_take, List.length_drop, List.length_map, List.length_append, List.length_cons]; omega) | (refine (show quietOp _ = true from ?_); rfl) | (refine (show drawOk _ _ _ _ _ _ _ from Or.inl ?_); kernel_rfl) | (intros; simp_all; done))))
    refine callF_pure (c46 a.n b.q ⟨ha.n1, ha.n2⟩ ⟨hb.d1, hb.d2⟩) ?_
    simp only [vcRules, dRules, bRules, tyRules, xRules, pickV_true, pickV_false, implies_true, Nat.reduceLT, Nat.reduceLeDiff, Nat.reduceEqDiff, Nat.reduceAdd, Nat.reduceSub, Nat.reduceMul, Int.reduceToNat, Int.reduceLT, Int.reduceLE, Int.reduceEq, Int.reduceAdd, Int.reduceSub, Int.reduceNeg, Int.reduceBEq, Int.reduceBNe, Int.reduceMul, Int.natCast_add, Int.natCast_one, reduceCtorEq, reduceIte, wN_isAgg, wN_cells, gD_isAgg, gD_cells, f_isAgg, f_cells, cRules, yRules]
    refine callF_pure (c46 b.n a.q ⟨hb.n1, hb.n2⟩ ⟨ha.d1, ha.d2⟩) ?_
    simp only [vcRules, dRules, bRules, tyRules, xRules, pickV_true, pickV_false, implies_true, Nat.reduceLT, Nat.reduceLeDiff, Nat.reduceEqDiff, Nat.reduceAdd, Nat.reduceSub, Nat.reduceMul, Int.reduceToNat, Int.reduceLT, Int.reduceLE, Int.reduceEq, Int.reduceAdd, Int.reduceSub, Int.reduceNeg, Int.reduceBEq, Int.reduceBNe, Int.reduceMul, Int.natCast_add, Int.natCast_one, reduceCtorEq, reduceIte, wN_isAgg, wN_cells, gD_isAgg, gD_cells, f_isAgg, f_cells, cRules, yRules]
    refine callF_pure (c45 (decide (a.n < 0), a.n.natAbs * b.q.natAbs) (decide (b.n < 0), b.n.natAbs * a.q.natAbs) (by simp only; omega)) ?_
    simp only [vcRules, dRules, bRules, tyRules, xRules, pickV_true, pickV_false, implies_true, Nat.reduceLT, Nat.reduceLeDiff, Nat.reduceEqDiff, Nat.reduceAdd, Nat.reduceSub, Nat.reduceMul, Int.reduceToNat, Int.reduceLT, Int.reduceLE, Int.reduceEq, Int.reduceAdd, Int.reduceSub, Int.reduceNeg, Int.reduceBEq, Int.reduceBNe, Int.reduceMul, Int.natCast_add, Int.natCast_one, reduceCtorEq, reduceIte, wN_isAgg, wN_cells, gD_isAgg, gD_cells, f_isAgg, f_cells, cRules, yRules]
    refine callF_pure (c35 a.q ha.d1 ha.d2) ?_
    simp only [vcRules, dRules, bRules, tyRules, xRules, pickV_true, pickV_false, implies_true, Nat.reduceLT, Nat.reduceLeDiff, Nat.reduceEqDiff, Nat.reduceAdd, Nat.reduceSub, Nat.reduceMul, Int.reduceToNat, Int.reduceLT, Int.reduceLE, Int.reduceEq, Int.reduceAdd, Int.reduceSub, Int.reduceNeg, Int.reduceBEq, Int.reduceBNe, Int.reduceMul, Int.natCast_add, Int.natCast_one, reduceCtorEq, reduceIte, wN_isAgg, wN_cells, gD_isAgg, gD_cells, f_isAgg, f_cells, cRules, yRules]
    refine callF_pure (c35 b.q hb.d1 hb.d2) ?_
    simp only [vcRules, dRules, bRules, tyRules, xRules, pickV_true, pickV_false, implies_true, Nat.reduceLT, Nat.reduceLeDiff, Nat.reduceEqDiff, Nat.reduceAdd, Nat.reduceSub, Nat.reduceMul, Int.reduceToNat, Int.reduceLT, Int.reduceLE, Int.reduceEq, Int.reduceAdd, Int.reduceSub, Int.reduceNeg, Int.reduceBEq, Int.reduceBNe, Int.reduceMul, Int.natCast_add, Int.natCast_one, reduceCtorEq, reduceIte, wN_isAgg, wN_cells, gD_isAgg, gD_cells, f_isAgg, f_cells, cRules, yRules]
    refine callF_pure (c50 a.q.natAbs b.q.natAbs (by omega) (by omega)) ?_
    simp only [vcRules, dRules, bRules, tyRules, xRules, pickV_true, pickV_false, implies_true, Nat.reduceLT, Nat.reduceLeDiff, Nat.reduceEqDiff, Nat.reduceAdd, Nat.reduceSub, Nat.reduceMul, Int.reduceToNat, Int.reduceLT, Int.reduceLE, Int.reduceEq, Int.reduceAdd, Int.reduceSub, Int.reduceNeg, Int.reduceBEq, Int.reduceBNe, Int.reduceMul, Int.natCast_add, Int.natCast_one, reduceCtorEq, reduceIte, wN_isAgg, wN_cells, gD_isAgg, gD_cells, f_isAgg, f_cells, cRules, yRules]
    refine callF_pure (c34 _ _ _ (by simp only at hs; omega) m4 (by omega)) ?_
    simp only [resD]
    simp only [vcRules, dRules, bRules, tyRules, xRules, pickV_true, pickV_false, implies_true, Nat.reduceLT, Nat.reduceLeDiff, Nat.reduceEqDiff, Nat.reduceAdd, Nat.reduceSub, Nat.reduceMul, Int.reduceToNat, Int.reduceLT, Int.reduceLE, Int.reduceEq, Int.reduceAdd, Int.reduceSub, Int.reduceNeg, Int.reduceBEq, Int.reduceBNe, Int.reduceMul, Int.natCast_add, Int.natCast_one, reduceCtorEq, reduceIte, wN_isAgg, wN_cells, gD_isAgg, gD_cells, f_isAgg, f_cells, cRules, yRules]
    refine ⟨_, _, ret_t2, ?_, rfl⟩
    rfl
def subS (a b : FracT) : FracT × Bool := if okF b = true then addS a (negF b) else failF
theorem FracT.Ok.neg {b : FracT} (h : b.Ok) : (negF b).Ok ∧ (negF b).n = -b.n := by
  have := h.n1
  have := h.n2
  have e : (negF b).n = -b.n := by
    show IntKind.i64.wrap (0 - b.n) = -b.n
    rw [IntKind.wrap_i64]; omega
  refine ⟨⟨h.d1, h.d2, by omega, by omega, ?_⟩, e⟩
  rw [e, Int.natAbs_neg]; exact h.g
theorem c27 (a b : FracT) (ha : a.In) (hb : b.In) : Pure Tryd.prog Gl 27 [.d a.toD, .d b.toD] (resD (subS a b)) := by
  refine Pure.of2t2 ?_
  refine acalls_of Tryd.func27 rfl rfl (by simp [Tryd.ntmps27]) (evC_sound rfl _ _ _ _ ?_)
  simp only [Tryd.ntmps27, Tryd.results27, argEnv, List.length_nil]
  simp only [vcRules, dRules, bRules, tyRules, xRules, pickV_true, pickV_false, implies_true, Nat.reduceLT, Nat.reduceLeDiff, Nat.reduceEqDiff, Nat.reduceAdd, Nat.reduceSub, Nat.reduceMul, Int.reduceToNat, Int.reduceLT, Int.reduceLE, Int.reduceEq, Int.reduceAdd, Int.reduceSub, Int.reduceNeg, Int.reduceBEq, Int.reduceBNe, Int.reduceMul, Int.natCast_add, Int.natCast_one, reduceCtorEq, reduceIte, wN_isAgg, wN_cells, gD_isAgg, gD_cells, f_isAgg, f_cells, cRules, yRules]
  refine callF_pure (c15 b hb) ?_
  simp only [vcRules, dRules, bRules, tyRules, xRules, pickV_true, pickV_false, implies_true, Nat.reduceLT, Nat.reduceLeDiff, Nat.reduceEqDiff, Nat.reduceAdd, Nat.reduceSub, Nat.reduceMul, Int.reduceToNat, Int.reduceLT, Int.reduceLE, Int.reduceEq, Int.reduceAdd, Int.reduceSub, Int.reduceNeg, Int.reduceBEq, Int.reduceBNe, Int.reduceMul, Int.natCast_add, Int.natCast_one, reduceCtorEq, reduceIte, wN_isAgg, wN_cells, gD_isAgg, gD_cells, f_isAgg, f_cells, cRules, yRules]
  refine ifC.mk (fun hc => ?_) (fun hc => ?_)
  · have hn : ¬ okF b = true := by simpa using hc
    rw [subS, if_neg hn]
    refine ⟨_, _, ret_t2, ?_, rfl⟩
    rfl
  · have hn : okF b = true := by simpa using hc
    rw [subS, if_pos hn]
    repeat ((with_reducible refine And.intro ?_ ?_); (focus (first | omega | (simp only [List.length_take, List.length_drop, List.length_map, List.length_append, List.length_cons]; omega) | (refine (show quietOp _ = true from ?_); rfl) | (refine (show drawOk _ _ _ _ _ _ _ from Or.inl ?_); kernel_rfl) | (intros; simp_all; done))))
    refine callF_pure (c51 b) ?_
    simp only [vcRules, dRules, bRules, tyRules, xRules, pickV_true, pickV_false, implies_true, Nat.reduceLT, Nat.reduceLeDiff, Nat.reduceEqDiff, Nat.reduceAdd, Nat.reduceSub, Nat.reduceMul, Int.reduceToNat, Int.reduceLT, Int.reduceLE, Int.reduceEq, Int.reduceAdd, Int.reduceSub, Int.reduceNeg, Int.reduceBEq, Int.reduceBNe, Int.reduceMul, Int.natCast_add, Int.natCast_one, reduceCtorEq, reduceIte, wN_isAgg, wN_cells, gD_isAgg, gD_cells, f_isAgg, f_cells, cRules, yRules]
    refine callF_pure (c26 a (negF b) ha (okF_iff.1 hn).neg.1.in_) ?_
    simp only [resD]
    simp only [vcRules, dRules, bRules, tyRules, xRules, pickV_true, pickV_false, implies_true, Nat.reduceLT, Nat.reduceLeDiff, Nat.reduceEqDiff, Nat.reduceAdd, Nat.reduceSub, Nat.reduceMul, Int.reduceToNat, Int.reduceLT, Int.reduceLE, Int.reduceEq, Int.reduceAdd, Int.reduceSub, Int.reduceNeg, Int.reduceBEq, Int.reduceBNe, Int.reduceMul, Int.natCast_add, Int.natCast_one, reduceCtorEq, reduceIte, wN_isAgg, wN_cells, gD_isAgg, gD_cells, f_isAgg, f_cells, cRules, yRules]
    refine ⟨_, _, ret_t2, ?_, rfl⟩
    rfl
def mulS (a b : FracT) : FracT × Bool := if okF a = true ∧ okF b = true then normS (!(decide (a.n < 0) == decide (b.n < 0))) (a.n.natAbs * b.n.natAbs) (a.q.natAbs * b.q.natAbs) else failF
theorem c29 (a b : FracT) (ha : a.In) (hb : b.In) : Pure Tryd.prog Gl 29 [.d a.toD, .d b.toD] (resD (mulS a b)) := by
  refine Pure.of2t2 ?_
  refine acalls_of Tryd.func29 rfl rfl (by simp [Tryd.ntmps29]) (evC_sound rfl _ _ _ _ ?_)
  simp only [Tryd.ntmps29, Tryd.results29, argEnv, List.length_nil]
  simp only [vcRules, dRules, bRules, tyRules, xRules, pickV_true, pickV_false, implies_true, Nat.reduceLT, Nat.reduceLeDiff, Nat.reduceEqDiff, Nat.reduceAdd, Nat.reduceSub, Nat.reduceMul, Int.reduceToNat, Int.reduceLT, Int.reduceLE, Int.reduceEq, Int.reduceAdd, Int.reduceSub, Int.reduceNeg, Int.reduceBEq, Int.reduceBNe, Int.reduceMul, Int.natCast_add, Int.natCast_one, reduceCtorEq, reduceIte, wN_isAgg, wN_cells, gD_isAgg, gD_cells, f_isAgg, f_cells, cRules, yRules]
  refine callF_pure (c15 a ha) ?_
  simp only [vcRules, dRules, bRules, tyRules, xRules, pickV_true, pickV_false, implies_true, Nat.reduceLT, Nat.reduceLeDiff, Nat.reduceEqDiff, Nat.reduceAdd, Nat.reduceSub, Nat.reduceMul, Int.reduceToNat, Int.reduceLT, Int.reduceLE, Int.reduceEq, Int.reduceAdd, Int.reduceSub, Int.reduceNeg, Int.reduceBEq, Int.reduceBNe, Int.reduceMul, Int.natCast_add, Int.natCast_one, reduceCtorEq, reduceIte, wN_isAgg, wN_cells, gD_isAgg, gD_cells, f_isAgg, f_cells, cRules, yRules]
  repeat ((with_reducible refine And.intro ?_ ?_); (focus (first | omega | (simp only [List.length_take, List.length_drop, List.length_map, List.length_append, List.length_cons]; omega) | (refine (show quietOp _ = true from ?_); rfl) | (refine (show drawOk _ _ _ _ _ _ _ from Or.inl ?_); kernel_rfl) | (intros; simp_all; done))))
  refine callG_pure (fun _ => c15 b hb) ?_
  simp only [vcRules, dRules, bRules, tyRules, xRules, pickV_true, pickV_false, implies_true, Nat.reduceLT, Nat.reduceLeDiff, Nat.reduceEqDiff, Nat.reduceAdd, Nat.reduceSub, Nat.reduceMul, Int.reduceToNat, Int.reduceLT, Int.reduceLE, Int.reduceEq, Int.reduceAdd, Int.reduceSub, Int.reduceNeg, Int.reduceBEq, Int.reduceBNe, Int.reduceMul, Int.natCast_add, Int.natCast_one, reduceCtorEq, reduceIte, wN_isAgg, wN_cells, gD_isAgg, gD_cells, f_isAgg, f_cells, cRules, yRules]
  refine ⟨fun h => by simpa using h, ?_⟩
  refine ifC.mk (fun hc => ?_) (fun hc => ?_)
  · have hn : ¬ (okF a = true ∧ okF b = true) := by
      rintro ⟨k1, k2⟩
      rw [k1, k2] at hc
      simp at hc
    rw [mulS, if_neg hn]
    refine ⟨_, _, ret_t2, ?_, rfl⟩
    rfl
  · have hn : okF a = true ∧ okF b = true := by
      cases k1 : okF a <;> cases k2 : okF b <;> simp [k1, k2] at hc ⊢
    rw [mulS, if_pos hn]
    have oa := okF_iff.1 hn.1
    have ob := okF_iff.1 hn.2
    have na := oa.na
    have nb := ob.na
    have m1 := mul_lim na nb
    have qa := oa.qa
    have qb := ob.qa
    have m3 := mul_lim qa qb
    have m4 : 0 < a.q.natAbs * b.q.natAbs := Nat.mul_pos oa.q0 ob.q0
    have g_build := g_build (!(decide (a.n < 0) == decide (b.n < 0))) (a.n.natAbs * b.n.natAbs)
    repeat ((with_reducible refine And.intro ?_ ?_); (focus (first | omega | (simp only [List.length_take, List.length_drop, List.length_map, List.length_append, List.length_cons]; omega) | (refine (show quietOp _ = true from ?_); rfl) | (refine (show drawOk _ _ _ _ _ _ _ from Or.inl ?_); kernel_rfl) | (intros; simp_all; done))))
    refine callF_pure (c35 a.n ha.n1 ha.n2) ?_
    simp only [vcRules, dRules, bRules, tyRules, xRules, pickV_true, pickV_false, implies_true, Nat.reduceLT, Nat.reduceLeDiff, Nat.reduceEqDiff, Nat.reduceAdd, Nat.reduceSub, Nat.reduceMul, Int.reduceToNat, Int.reduceLT, Int.reduceLE, Int.reduceEq, Int.reduceAdd, Int.reduceSub, Int.reduceNeg, Int.reduceBEq, Int.reduceBNe, Int.reduceMul, Int.natCast_add, Int.natCast_one, reduceCtorEq, reduceIte, wN_isAgg, wN_cells, gD_isAgg, gD_cells, f_isAgg, f_cells, cRules, yRules]
    refine callF_pure (c35 b.n hb.n1 hb.n2) ?_
    simp only [vcRules, dRules, bRules, tyRules, xRules, pickV_true, pickV_false, implies_true, Nat.reduceLT, Nat.reduceLeDiff, Nat.reduceEqDiff, Nat.reduceAdd, Nat.reduceSub, Nat.reduceMul, Int.reduceToNat, Int.reduceLT, Int.reduceLE, Int.reduceEq, Int.reduceAdd, Int.reduceSub, Int.reduceNeg, Int.reduceBEq, Int.reduceBNe, Int.reduceMul, Int.natCast_add, Int.natCast_one, reduceCtorEq, reduceIte, wN_isAgg, wN_cells, gD_isAgg, gD_cells, f_isAgg, f_cells, cRules, yRules]
    refine callF_pure (c50 a.n.natAbs b.n.natAbs (by omega) (by omega)) ?_
    simp only [vcRules, dRules, bRules, tyRules, xRules, pickV_true, pickV_false, implies_true, Nat.reduceLT, Nat.reduceLeDiff, Nat.reduceEqDiff, Nat.reduceAdd, Nat.reduceSub, Nat.reduceMul, Int.reduceToNat, Int.reduceLT, Int.reduceLE, Int.reduceEq, Int.reduceAdd, Int.reduceSub, Int.reduceNeg, Int.reduceBEq, Int.reduceBNe, Int.reduceMul, Int.natCast_add, Int.natCast_one, reduceCtorEq, reduceIte, wN_isAgg, wN_cells, gD_isAgg, gD_cells, f_isAgg, f_cells, cRules, yRules, g_build]
    refine callF_pure (c35 a.q ha.d1 ha.d2) ?_
    simp only [vcRules, dRules, bRules, tyRules, xRules, pickV_true, pickV_false, implies_true, Nat.reduceLT, Nat.reduceLeDiff, Nat.reduceEqDiff, Nat.reduceAdd, Nat.reduceSub, Nat.reduceMul, Int.reduceToNat, Int.reduceLT, Int.reduceLE, Int.reduceEq, Int.reduceAdd, Int.reduceSub, Int.reduceNeg, Int.reduceBEq, Int.reduceBNe, Int.reduceMul, Int.natCast_add, Int.natCast_one, reduceCtorEq, reduceIte, wN_isAgg, wN_cells, gD_isAgg, gD_cells, f_isAgg, f_cells, cRules, yRules]
    refine callF_pure (c35 b.q hb.d1 hb.d2) ?_
    simp only [vcRules, dRules, bRules, tyRules, xRules, pickV_true, pickV_false, implies_true, Nat.reduceLT, Nat.reduceLeDiff, Nat.reduceEqDiff, Nat.reduceAdd, Nat.reduceSub, Nat.reduceMul, Int.reduceToNat, Int.reduceLT, Int.reduceLE, Int.reduceEq, Int.reduceAdd, Int.reduceSub, Int.reduceNeg, Int.reduceBEq, Int.reduceBNe, Int.reduceMul, Int.natCast_add, Int.natCast_one, reduceCtorEq, reduceIte, wN_isAgg, wN_cells, gD_isAgg, gD_cells, f_isAgg, f_cells, cRules, yRules]
    refine callF_pure (c50 a.q.natAbs b.q.natAbs (by omega) (by omega)) ?_
    simp only [vcRules, dRules, bRules, tyRules, xRules, pickV_true, pickV_false, implies_true, Nat.reduceLT, Nat.reduceLeDiff, Nat.reduceEqDiff, Nat.reduceAdd, Nat.reduceSub, Nat.reduceMul, Int.reduceToNat, Int.reduceLT, Int.reduceLE, Int.reduceEq, Int.reduceAdd, Int.reduceSub, Int.reduceNeg, Int.reduceBEq, Int.reduceBNe, Int.reduceMul, Int.natCast_add, Int.natCast_one, reduceCtorEq, reduceIte, wN_isAgg, wN_cells, gD_isAgg, gD_cells, f_isAgg, f_cells, cRules, yRules]
    refine callF_pure (c34 _ _ _ (by omega) m4 (by omega)) ?_
    simp only [resD]
    simp only [vcRules, dRules, bRules, tyRules, xRules, pickV_true, pickV_false, implies_true, Nat.reduceLT, Nat.reduceLeDiff, Nat.reduceEqDiff, Nat.reduceAdd, Nat.reduceSub, Nat.reduceMul, Int.reduceToNat, Int.reduceLT, Int.reduceLE, Int.reduceEq, Int.reduceAdd, Int.reduceSub, Int.reduceNeg, Int.reduceBEq, Int.reduceBNe, Int.reduceMul, Int.natCast_add, Int.natCast_one, reduceCtorEq, reduceIte, wN_isAgg, wN_cells, gD_isAgg, gD_cells, f_isAgg, f_cells, cRules, yRules]
    refine ⟨_, _, ret_t2, ?_, rfl⟩
    rfl
def cmpS (a b : FracT) : Int := if (crossG (usF a) (negF (usF b))).2 = 0 then 0 else if (crossG (usF a) (negF (usF b))).1 = true then -1 else 1
theorem usF_ok (a : FracT) : (usF a).Ok := by
  unfold usF
  split
  · rename_i h; exact okF_iff.1 h
  · exact ⟨by decide, by decide, by decide, by decide, by decide⟩
theorem c30 (a b : FracT) (ha : a.In) (hb : b.In) : Pure Tryd.prog Gl 30 [.d a.toD, .d b.toD] (.d (.int .i64 (cmpS a b))) := by
  refine Pure.of2 ?_
  refine acalls_of Tryd.func30 rfl rfl (by simp [Tryd.ntmps30]) (evC_sound rfl _ _ _ _ ?_)
  simp only [Tryd.ntmps30, Tryd.results30, argEnv, List.length_nil]
  simp only [vcRules, dRules, bRules, tyRules, xRules, pickV_true, pickV_false, implies_true, Nat.reduceLT, Nat.reduceLeDiff, Nat.reduceEqDiff, Nat.reduceAdd, Nat.reduceSub, Nat.reduceMul, Int.reduceToNat, Int.reduceLT, Int.reduceLE, Int.reduceEq, Int.reduceAdd, Int.reduceSub, Int.reduceNeg, Int.reduceBEq, Int.reduceBNe, Int.reduceMul, Int.natCast_add, Int.natCast_one, reduceCtorEq, reduceIte, wN_isAgg, wN_cells, gD_isAgg, gD_cells, f_isAgg, f_cells, cRules, yRules]
  refine callF_pure (c52 a ha) ?_
  simp only [vcRules, dRules, bRules, tyRules, xRules, pickV_true, pickV_false, implies_true, Nat.reduceLT, Nat.reduceLeDiff, Nat.reduceEqDiff, Nat.reduceAdd, Nat.reduceSub, Nat.reduceMul, Int.reduceToNat, Int.reduceLT, Int.reduceLE, Int.reduceEq, Int.reduceAdd, Int.reduceSub, Int.reduceNeg, Int.reduceBEq, Int.reduceBNe, Int.reduceMul, Int.natCast_add, Int.natCast_one, reduceCtorEq, reduceIte, wN_isAgg, wN_cells, gD_isAgg, gD_cells, f_isAgg, f_cells, cRules, yRules]
  refine callF_pure (c52 b hb) ?_
  simp only [vcRules, dRules, bRules, tyRules, xRules, pickV_true, pickV_false, implies_true, Nat.reduceLT, Nat.reduceLeDiff, Nat.reduceEqDiff, Nat.reduceAdd, Nat.reduceSub, Nat.reduceMul, Int.reduceToNat, Int.reduceLT, Int.reduceLE, Int.reduceEq, Int.reduceAdd, Int.reduceSub, Int.reduceNeg, Int.reduceBEq, Int.reduceBNe, Int.reduceMul, Int.natCast_add, Int.natCast_one, reduceCtorEq, reduceIte, wN_isAgg, wN_cells, gD_isAgg, gD_cells, f_isAgg, f_cells, cRules, yRules]
  unfold cmpS
  have oa := usF_ok a
  have ob := (usF_ok b).neg.1
  generalize usF a = x at oa ⊢
  generalize usF b = y0 at ob ⊢
  obtain ⟨y, hy⟩ : ∃ y, y = negF y0 := ⟨_, rfl⟩
  rw [← hy] at ob ⊢
  have eq : y.q = y0.q := by rw [hy]; rfl
  have m1 := mul_lim oa.na ob.qa
  have m2 := mul_lim ob.na oa.qa
  have ix := oa.in_
  have iy := ob.in_
  have hs := sumG_le (decide (x.n < 0), x.n.natAbs * y.q.natAbs) (decide (y.n < 0), y.n.natAbs * x.q.natAbs)
  repeat ((with_reducible refine And.intro ?_ ?_); (focus (first | omega | (simp only [List.length_take, List.length_drop, List.length_map, List.length_append, List.length_cons]; omega) | (refine (show quietOp _ = true from ?_); rfl) | (refine (show drawOk _ _ _ _ _ _ _ from Or.inl ?_); kernel_rfl) | (intros; simp_all; done))))
  refine callF_pure (c46 x.n y0.q ⟨ix.n1, ix.n2⟩ ⟨by rw [← eq]; exact iy.d1, by rw [← eq]; exact iy.d2⟩) ?_
  simp only [vcRules, dRules, bRules, tyRules, xRules, pickV_true, pickV_false, implies_true, Nat.reduceLT, Nat.reduceLeDiff, Nat.reduceEqDiff, Nat.reduceAdd, Nat.reduceSub, Nat.reduceMul, Int.reduceToNat, Int.reduceLT, Int.reduceLE, Int.reduceEq, Int.reduceAdd, Int.reduceSub, Int.reduceNeg, Int.reduceBEq, Int.reduceBNe, Int.reduceMul, Int.natCast_add, Int.natCast_one, reduceCtorEq, reduceIte, wN_isAgg, wN_cells, gD_isAgg, gD_cells, f_isAgg, f_cells, cRules, yRules]
  refine callF_pure (c51 y0) ?_
  rw [← hy, ← eq]
  simp only [vcRules, dRules, bRules, tyRules, xRules, pickV_true, pickV_false, implies_true, Nat.reduceLT, Nat.reduceLeDiff, Nat.reduceEqDiff, Nat.reduceAdd, Nat.reduceSub, Nat.reduceMul, Int.reduceToNat, Int.reduceLT, Int.reduceLE, Int.reduceEq, Int.reduceAdd, Int.reduceSub, Int.reduceNeg, Int.reduceBEq, Int.reduceBNe, Int.reduceMul, Int.natCast_add, Int.natCast_one, reduceCtorEq, reduceIte, wN_isAgg, wN_cells, gD_isAgg, gD_cells, f_isAgg, f_cells, cRules, yRules]
  refine callF_pure (c46 y.n x.q ⟨iy.n1, iy.n2⟩ ⟨ix.d1, ix.d2⟩) ?_
  simp only [vcRules, dRules, bRules, tyRules, xRules, pickV_true, pickV_false, implies_true, Nat.reduceLT, Nat.reduceLeDiff, Nat.reduceEqDiff, Nat.reduceAdd, Nat.reduceSub, Nat.reduceMul, Int.reduceToNat, Int.reduceLT, Int.reduceLE, Int.reduceEq, Int.reduceAdd, Int.reduceSub, Int.reduceNeg, Int.reduceBEq, Int.reduceBNe, Int.reduceMul, Int.natCast_add, Int.natCast_one, reduceCtorEq, reduceIte, wN_isAgg, wN_cells, gD_isAgg, gD_cells, f_isAgg, f_cells, cRules, yRules]
  refine callF_pure (c45 (decide (x.n < 0), x.n.natAbs * y.q.natAbs) (decide (y.n < 0), y.n.natAbs * x.q.natAbs) (by simp only; omega)) ?_
  have z0 : D.agg [.int .u64 0, .int .u64 0] = wN 0 := rfl
  obtain ⟨p, hp⟩ : ∃ p, p = crossG x y := ⟨_, rfl⟩
  have hp' : sumG (decide (x.n < 0), x.n.natAbs * y.q.natAbs) (decide (y.n < 0), y.n.natAbs * x.q.natAbs) = p := hp.symm
  rw [hp', ← hp]
  have zM : D.agg [.int .u64 ((p.2 / 18446744073709551616 : Nat) : Int), .int .u64 ((p.2 % 18446744073709551616 : Nat) : Int)] = wN p.2 := rfl
  simp only [vcRules, dRules, bRules, tyRules, xRules, pickV_true, pickV_false, implies_true, Nat.reduceLT, Nat.reduceLeDiff, Nat.reduceEqDiff, Nat.reduceAdd, Nat.reduceSub, Nat.reduceMul, Int.reduceToNat, Int.reduceLT, Int.reduceLE, Int.reduceEq, Int.reduceAdd, Int.reduceSub, Int.reduceNeg, Int.reduceBEq, Int.reduceBNe, Int.reduceMul, Int.natCast_add, Int.natCast_one, reduceCtorEq, reduceIte, wN_isAgg, wN_cells, gD_isAgg, gD_cells, f_isAgg, f_cells, cRules, yRules, z0, zM]
  refine ifC.mk (fun hc => ?_) (fun hc => ?_)
  · have hc : p.2 = 0 := by simpa using hc
    rw [if_pos hc]; exact ⟨_, _, ret_d, rfl, rfl⟩
  · have hc : ¬ p.2 = 0 := by simpa using hc
    rw [if_neg hc]
    refine ifC.mk (fun hm => ?_) (fun hm => ?_)
    · rw [if_pos hm]; exact ⟨_, _, ret_d, rfl, rfl⟩
    · rw [if_neg (by rw [hm]; exact Bool.false_ne_true)]; exact ⟨_, _, ret_d, rfl, rfl⟩
end YtkoebmjenkajdaaDoor
end Go.Proofs
