/- A part of the proof: contracts of functions of this seat, and lemmas. No condition beyond those stated. -/
import Derived.Test.YtkoebmjenkajdaaDoorR02m
import Derived.Test.YtkoebmjenkajdaaDoorG5
import Derived.Test.YtkoebmjenkajdaaDoorTrydLay
import Derived.Lib.ItoaLen
set_option linter.unusedVariables false
set_option linter.unusedSimpArgs false
set_option linter.unusedSectionVars false
set_option linter.unnecessarySimpa false
set_option linter.unusedSimpArgs false
set_option linter.unusedVariables false
set_option maxRecDepth 100000
namespace Go.Proofs
open Go.AM
namespace YtkoebmjenkajdaaDoor
/-! ### texts -/
def tabG (g : Nat) : Globs := [(g, .agg (Lib.pow10Tab.map fun z => .int .u64 z))]
theorem pow_name : Tryd.prog.globalNamed "internal/strconv.uint64pow10" = some 2 := by kernel_rfl
abbrev G2 : Globs := tabG 2
theorem c66 (n : Int) (h0 : -9223372036854775808 ≤ n) (h1 : n ≤ 9223372036854775807) : Pure Tryd.prog G2 66 [.d (.int .i64 n), .d (.int .i64 10)] (.d (.str (Lib.itoa n))) :=
  pure_of_calls Tryd.func66 (by kernel_rfl) (by kernel_rfl) (fun w I μ σ vals hv hl => reps_int2 hv hl) (fun w I hG => Tryd.formatInt n h0 h1 w (tab_of_glOk hG pow_name)) (fun w I μ σ => .d _ _ (.str _))
theorem c64 (n : Int) (h0 : -9223372036854775808 ≤ n) (h1 : n ≤ 9223372036854775807) : Pure Tryd.prog G2 64 [.d (.int .i64 n)] (.d (.str (Lib.itoa n))) := by
  refine Pure.of1 ?_
  refine acalls_of Tryd.func64 rfl rfl (by simp [Tryd.ntmps64]) (evC_sound rfl _ _ _ _ ?_)
  simp only [Tryd.ntmps64, Tryd.results64, argEnv, List.length_nil]
  simp only [vcRules, dRules, bRules, tyRules, xRules, pickV_true, pickV_false, implies_true, Nat.reduceLT, Nat.reduceLeDiff, Nat.reduceEqDiff, Nat.reduceAdd, Nat.reduceSub, Nat.reduceMul, Int.reduceToNat, Int.reduceLT, Int.reduceLE, Int.reduceEq, Int.reduceAdd, Int.reduceSub, Int.reduceNeg, Int.reduceBEq, Int.reduceBNe, Int.reduceMul, Int.natCast_add, Int.natCast_one, reduceCtorEq, reduceIte, wN_isAgg, wN_cells, f_isAgg, f_cells, cRules, yRules]
  refine callF_pure (c66 n h0 h1) ?_
  simp only [vcRules, dRules, bRules, tyRules, xRules, pickV_true, pickV_false, implies_true, Nat.reduceLT, Nat.reduceLeDiff, Nat.reduceEqDiff, Nat.reduceAdd, Nat.reduceSub, Nat.reduceMul, Int.reduceToNat, Int.reduceLT, Int.reduceLE, Int.reduceEq, Int.reduceAdd, Int.reduceSub, Int.reduceNeg, Int.reduceBEq, Int.reduceBNe, Int.reduceMul, Int.natCast_add, Int.natCast_one, reduceCtorEq, reduceIte, wN_isAgg, wN_cells, f_isAgg, f_cells, cRules, yRules]
  exact ⟨_, _, ret_d, rfl, rfl⟩
theorem c54 (n : Int) (h0 : -9223372036854775808 ≤ n) (h1 : n ≤ 9223372036854775807) : Pure Tryd.prog G2 54 [.d (.int .i64 n)] (.d (.str (Lib.itoa n))) := by
  refine Pure.of1 ?_
  refine acalls_of Tryd.func54 rfl rfl (by simp [Tryd.ntmps54]) (evC_sound rfl _ _ _ _ ?_)
  simp only [Tryd.ntmps54, Tryd.results54, argEnv, List.length_nil]
  simp only [vcRules, dRules, bRules, tyRules, xRules, pickV_true, pickV_false, implies_true, Nat.reduceLT, Nat.reduceLeDiff, Nat.reduceEqDiff, Nat.reduceAdd, Nat.reduceSub, Nat.reduceMul, Int.reduceToNat, Int.reduceLT, Int.reduceLE, Int.reduceEq, Int.reduceAdd, Int.reduceSub, Int.reduceNeg, Int.reduceBEq, Int.reduceBNe, Int.reduceMul, Int.natCast_add, Int.natCast_one, reduceCtorEq, reduceIte, wN_isAgg, wN_cells, f_isAgg, f_cells, cRules, yRules]
  refine callF_pure (c64 n h0 h1) ?_
  simp only [vcRules, dRules, bRules, tyRules, xRules, pickV_true, pickV_false, implies_true, Nat.reduceLT, Nat.reduceLeDiff, Nat.reduceEqDiff, Nat.reduceAdd, Nat.reduceSub, Nat.reduceMul, Int.reduceToNat, Int.reduceLT, Int.reduceLE, Int.reduceEq, Int.reduceAdd, Int.reduceSub, Int.reduceNeg, Int.reduceBEq, Int.reduceBNe, Int.reduceMul, Int.natCast_add, Int.natCast_one, reduceCtorEq, reduceIte, wN_isAgg, wN_cells, f_isAgg, f_cells, cRules, yRules]
  exact ⟨_, _, ret_d, rfl, rfl⟩
theorem c37 (n : Int) (h0 : -9223372036854775808 ≤ n) (h1 : n ≤ 9223372036854775807) : Pure Tryd.prog G2 37 [.d (.int .i64 n)] (.d (.str (Lib.itoa n))) := by
  refine Pure.of1 ?_
  refine acalls_of Tryd.func37 rfl rfl (by simp [Tryd.ntmps37]) (evC_sound rfl _ _ _ _ ?_)
  simp only [Tryd.ntmps37, Tryd.results37, argEnv, List.length_nil]
  simp only [vcRules, dRules, bRules, tyRules, xRules, pickV_true, pickV_false, implies_true, Nat.reduceLT, Nat.reduceLeDiff, Nat.reduceEqDiff, Nat.reduceAdd, Nat.reduceSub, Nat.reduceMul, Int.reduceToNat, Int.reduceLT, Int.reduceLE, Int.reduceEq, Int.reduceAdd, Int.reduceSub, Int.reduceNeg, Int.reduceBEq, Int.reduceBNe, Int.reduceMul, Int.natCast_add, Int.natCast_one, reduceCtorEq, reduceIte, wN_isAgg, wN_cells, f_isAgg, f_cells, cRules, yRules]
  refine callF_pure (c54 n h0 h1) ?_
  simp only [vcRules, dRules, bRules, tyRules, xRules, pickV_true, pickV_false, implies_true, Nat.reduceLT, Nat.reduceLeDiff, Nat.reduceEqDiff, Nat.reduceAdd, Nat.reduceSub, Nat.reduceMul, Int.reduceToNat, Int.reduceLT, Int.reduceLE, Int.reduceEq, Int.reduceAdd, Int.reduceSub, Int.reduceNeg, Int.reduceBEq, Int.reduceBNe, Int.reduceMul, Int.natCast_add, Int.natCast_one, reduceCtorEq, reduceIte, wN_isAgg, wN_cells, f_isAgg, f_cells, cRules, yRules]
  exact ⟨_, _, ret_d, rfl, rfl⟩
def textS (a : FracT) : List UInt8 := if okF a = true then (if a.q = 1 then Lib.itoa a.n else Lib.itoa a.n ++ ([47] ++ Lib.itoa a.q)) else []
theorem itoa_len {n : Int} (h0 : -9223372036854775808 ≤ n) (h1 : n ≤ 9223372036854775807) : (Lib.itoa n).length ≤ 21 := Lib.itoa_length_le n h0 h1
theorem c16 (a : FracT) (h : a.In) : Pure Tryd.prog G2 16 [.d a.toD] (.d (.str (textS a))) := by
  refine Pure.of1 ?_
  have l1 := itoa_len h.n1 h.n2
  have l2 := itoa_len h.d1 h.d2
  refine acalls_of Tryd.func16 rfl rfl (by simp [Tryd.ntmps16]) (evC_sound rfl _ _ _ _ ?_)
  simp only [Tryd.ntmps16, Tryd.results16, argEnv, List.length_nil]
  simp only [vcRules, dRules, bRules, tyRules, xRules, pickV_true, pickV_false, implies_true, Nat.reduceLT, Nat.reduceLeDiff, Nat.reduceEqDiff, Nat.reduceAdd, Nat.reduceSub, Nat.reduceMul, Int.reduceToNat, Int.reduceLT, Int.reduceLE, Int.reduceEq, Int.reduceAdd, Int.reduceSub, Int.reduceNeg, Int.reduceBEq, Int.reduceBNe, Int.reduceMul, Int.natCast_add, Int.natCast_one, reduceCtorEq, reduceIte, wN_isAgg, wN_cells, f_isAgg, f_cells, cRules, yRules]
  refine callF_pure (c13 a h) ?_
  simp only [vcRules, dRules, bRules, tyRules, xRules, pickV_true, pickV_false, implies_true, Nat.reduceLT, Nat.reduceLeDiff, Nat.reduceEqDiff, Nat.reduceAdd, Nat.reduceSub, Nat.reduceMul, Int.reduceToNat, Int.reduceLT, Int.reduceLE, Int.reduceEq, Int.reduceAdd, Int.reduceSub, Int.reduceNeg, Int.reduceBEq, Int.reduceBNe, Int.reduceMul, Int.natCast_add, Int.natCast_one, reduceCtorEq, reduceIte, wN_isAgg, wN_cells, f_isAgg, f_cells, cRules, yRules]
  unfold textS
  refine ifC.mk (fun hc => ?_) (fun hc => ?_)
  · have hn : ¬ okF a = true := by simpa using hc
    rw [if_neg hn]
    exact ⟨_, _, ret_d, rfl, rfl⟩
  · have hn : okF a = true := by simpa using hc
    rw [if_pos hn]
    refine callF_pure (c37 a.n h.n1 h.n2) ?_
    simp only [vcRules, dRules, bRules, tyRules, xRules, pickV_true, pickV_false, implies_true, Nat.reduceLT, Nat.reduceLeDiff, Nat.reduceEqDiff, Nat.reduceAdd, Nat.reduceSub, Nat.reduceMul, Int.reduceToNat, Int.reduceLT, Int.reduceLE, Int.reduceEq, Int.reduceAdd, Int.reduceSub, Int.reduceNeg, Int.reduceBEq, Int.reduceBNe, Int.reduceMul, Int.natCast_add, Int.natCast_one, reduceCtorEq, reduceIte, wN_isAgg, wN_cells, f_isAgg, f_cells, cRules, yRules]
    refine ifC.mk (fun hq => ?_) (fun hq => ?_)
    · have hq : ¬ a.q = 1 := by simpa using hq
      rw [if_neg hq]
      refine callF_pure (c37 a.q h.d1 h.d2) ?_
      simp only [vcRules, dRules, bRules, tyRules, xRules, pickV_true, pickV_false, implies_true, Nat.reduceLT, Nat.reduceLeDiff, Nat.reduceEqDiff, Nat.reduceAdd, Nat.reduceSub, Nat.reduceMul, Int.reduceToNat, Int.reduceLT, Int.reduceLE, Int.reduceEq, Int.reduceAdd, Int.reduceSub, Int.reduceNeg, Int.reduceBEq, Int.reduceBNe, Int.reduceMul, Int.natCast_add, Int.natCast_one, reduceCtorEq, reduceIte, wN_isAgg, wN_cells, f_isAgg, f_cells, cRules, yRules]
      repeat ((with_reducible refine And.intro ?_ ?_); (focus (first | omega | (simp only [List.length_take, List.length_drop, List.length_map, List.length_append, List.length_cons]; omega) | (refine (show quietOp _ = true from ?_); rfl) | (refine (show drawOk _ _ _ _ _ _ _ from Or.inl ?_); kernel_rfl) | (intros; simp_all; done))))
      exact ⟨_, _, ret_d, rfl, rfl⟩
    · have hq : a.q = 1 := by simpa using hq
      rw [if_pos hq]
      exact ⟨_, _, ret_d, rfl, rfl⟩
def digS : List UInt8 := [48, 49, 50, 51, 52, 53, 54, 55, 56, 57]
theorem dd_len {n : Nat} (h : n < 18446744073709551616) : (Lib.decDigits n).length ≤ 20 := by rw [Lib.decDigits_length]; exact Lib.nDigits_le20 n h
theorem c38 (n : Nat) (h : n < 18446744073709551616) : Pure Tryd.prog G2 38 [.d (.int .u64 n)] (.d (.str (Lib.decDigits n))) := by
  induction n using Nat.strongRecOn with
  | _ n ih =>
    refine Pure.of1 ?_
    refine acalls_of Tryd.func38 rfl rfl (by simp [Tryd.ntmps38]) (evC_sound rfl _ _ _ _ ?_)
    simp only [Tryd.ntmps38, Tryd.results38, argEnv, List.length_nil]
    simp only [vcRules, dRules, bRules, tyRules, xRules, pickV_true, pickV_false, implies_true, Nat.reduceLT, Nat.reduceLeDiff, Nat.reduceEqDiff, Nat.reduceAdd, Nat.reduceSub, Nat.reduceMul, Int.reduceToNat, Int.reduceLT, Int.reduceLE, Int.reduceEq, Int.reduceAdd, Int.reduceSub, Int.reduceNeg, Int.reduceBEq, Int.reduceBNe, Int.reduceMul, Int.natCast_add, Int.natCast_one, reduceCtorEq, reduceIte, wN_isAgg, wN_cells, f_isAgg, f_cells, cRules, yRules]
    refine ifC.mk (fun hc => ?_) (fun hc => ?_)
    · have hc : n < 10 := by have := of_decide_eq_true hc; omega
      have e1 : IntKind.u64.wrap ((n : Int) + 1) = ((n + 1 : Nat) : Int) := by rw [wrapu]; omega
      rw [e1]
      refine ⟨⟨by omega, by omega⟩, ?_⟩
      have key : ∀ k : Fin 10, List.drop k.val (List.take (k.val + 1) [48, 49, 50, 51, 52, 53, 54, 55, 56, 57]) = [UInt8.ofNat (48 + k.val)] := by decide
      have k := key ⟨n, hc⟩
      simp only at k
      rw [Int.toNat_natCast, k, Lib.decDigits_one hc]
      exact ⟨_, _, ret_d, rfl, rfl⟩
    · have hc : ¬ n < 10 := by have := of_decide_eq_false hc; omega
      have e1 : IntKind.u64.wrap (Int.tdiv (n : Int) 10) = ((n / 10 : Nat) : Int) := by
        rw [show Int.tdiv (n : Int) 10 = ((n / 10 : Nat) : Int) from rfl, Mul64.wrapN _ (by omega)]
      have e2 : Int.tmod (n : Int) 10 = ((n % 10 : Nat) : Int) := rfl
      have l1 := dd_len (show n / 10 < 18446744073709551616 by omega)
      have l2 := dd_len (show n % 10 < 18446744073709551616 by omega)
      rw [e1]
      refine callF_pure (ih (n / 10) (by omega) (by omega)) ?_
      simp only [vcRules, dRules, bRules, tyRules, xRules, pickV_true, pickV_false, implies_true, Nat.reduceLT, Nat.reduceLeDiff, Nat.reduceEqDiff, Nat.reduceAdd, Nat.reduceSub, Nat.reduceMul, Int.reduceToNat, Int.reduceLT, Int.reduceLE, Int.reduceEq, Int.reduceAdd, Int.reduceSub, Int.reduceNeg, Int.reduceBEq, Int.reduceBNe, Int.reduceMul, Int.natCast_add, Int.natCast_one, reduceCtorEq, reduceIte, wN_isAgg, wN_cells, f_isAgg, f_cells, cRules, yRules, remU', e2]
      refine callF_pure (ih (n % 10) (by omega) (by omega)) ?_
      simp only [vcRules, dRules, bRules, tyRules, xRules, pickV_true, pickV_false, implies_true, Nat.reduceLT, Nat.reduceLeDiff, Nat.reduceEqDiff, Nat.reduceAdd, Nat.reduceSub, Nat.reduceMul, Int.reduceToNat, Int.reduceLT, Int.reduceLE, Int.reduceEq, Int.reduceAdd, Int.reduceSub, Int.reduceNeg, Int.reduceBEq, Int.reduceBNe, Int.reduceMul, Int.natCast_add, Int.natCast_one, reduceCtorEq, reduceIte, wN_isAgg, wN_cells, f_isAgg, f_cells, cRules, yRules]
      repeat ((with_reducible refine And.intro ?_ ?_); (focus (first | omega | (simp only [List.length_take, List.length_drop, List.length_map, List.length_append, List.length_cons]; omega) | (refine (show quietOp _ = true from ?_); rfl) | (refine (show drawOk _ _ _ _ _ _ _ from Or.inl ?_); kernel_rfl) | (intros; simp_all; done))))
      refine ⟨_, _, ret_d, ?_, rfl⟩
      rw [Lib.decDigits.eq_1 n, dif_neg hc, Lib.decDigits_one (show n % 10 < 10 by omega)]
theorem c17 (a : FracT) (h : a.In) : Pure Tryd.prog G2 17 [.d a.toD] (.d (.str (textS a))) := by
  refine Pure.of1 ?_
  have h1 := h.n1
  have h2 := h.n2
  have h3 := h.d1
  have h4 := h.d2
  have l1 := dd_len (show a.n.natAbs < 18446744073709551616 by omega)
  have l2 := dd_len (show a.q.natAbs < 18446744073709551616 by omega)
  refine acalls_of Tryd.func17 rfl rfl (by simp [Tryd.ntmps17]) (evC_sound rfl _ _ _ _ ?_)
  simp only [Tryd.ntmps17, Tryd.results17, argEnv, List.length_nil]
  simp only [vcRules, dRules, bRules, tyRules, xRules, pickV_true, pickV_false, implies_true, Nat.reduceLT, Nat.reduceLeDiff, Nat.reduceEqDiff, Nat.reduceAdd, Nat.reduceSub, Nat.reduceMul, Int.reduceToNat, Int.reduceLT, Int.reduceLE, Int.reduceEq, Int.reduceAdd, Int.reduceSub, Int.reduceNeg, Int.reduceBEq, Int.reduceBNe, Int.reduceMul, Int.natCast_add, Int.natCast_one, reduceCtorEq, reduceIte, wN_isAgg, wN_cells, f_isAgg, f_cells, cRules, yRules]
  refine callF_pure (c15 a h) ?_
  simp only [vcRules, dRules, bRules, tyRules, xRules, pickV_true, pickV_false, implies_true, Nat.reduceLT, Nat.reduceLeDiff, Nat.reduceEqDiff, Nat.reduceAdd, Nat.reduceSub, Nat.reduceMul, Int.reduceToNat, Int.reduceLT, Int.reduceLE, Int.reduceEq, Int.reduceAdd, Int.reduceSub, Int.reduceNeg, Int.reduceBEq, Int.reduceBNe, Int.reduceMul, Int.natCast_add, Int.natCast_one, reduceCtorEq, reduceIte, wN_isAgg, wN_cells, f_isAgg, f_cells, cRules, yRules]
  unfold textS
  refine ifC.mk (fun hc => ?_) (fun hc => ?_)
  · have hn : ¬ okF a = true := by simpa using hc
    rw [if_neg hn]
    exact ⟨_, _, ret_d, rfl, rfl⟩
  · have hn : okF a = true := by simpa using hc
    have ok := okF_iff.1 hn
    rw [if_pos hn]
    have eq : Lib.itoa a.q = Lib.decDigits a.q.natAbs := by
      unfold Lib.itoa
      rw [if_neg (by have := ok.d1; omega), show a.q.toNat = a.q.natAbs by have := ok.d1; omega]
    refine callF_pure (c35 a.n h1 h2) ?_
    simp only [vcRules, dRules, bRules, tyRules, xRules, pickV_true, pickV_false, implies_true, Nat.reduceLT, Nat.reduceLeDiff, Nat.reduceEqDiff, Nat.reduceAdd, Nat.reduceSub, Nat.reduceMul, Int.reduceToNat, Int.reduceLT, Int.reduceLE, Int.reduceEq, Int.reduceAdd, Int.reduceSub, Int.reduceNeg, Int.reduceBEq, Int.reduceBNe, Int.reduceMul, Int.natCast_add, Int.natCast_one, reduceCtorEq, reduceIte, wN_isAgg, wN_cells, f_isAgg, f_cells, cRules, yRules]
    refine callF_pure (c38 a.n.natAbs (by omega)) ?_
    simp only [vcRules, dRules, bRules, tyRules, xRules, pickV_true, pickV_false, implies_true, Nat.reduceLT, Nat.reduceLeDiff, Nat.reduceEqDiff, Nat.reduceAdd, Nat.reduceSub, Nat.reduceMul, Int.reduceToNat, Int.reduceLT, Int.reduceLE, Int.reduceEq, Int.reduceAdd, Int.reduceSub, Int.reduceNeg, Int.reduceBEq, Int.reduceBNe, Int.reduceMul, Int.natCast_add, Int.natCast_one, reduceCtorEq, reduceIte, wN_isAgg, wN_cells, f_isAgg, f_cells, cRules, yRules]
    refine ifC.mk (fun hneg => ?_) (fun hneg => ?_)
    · have hneg : a.n < 0 := by simpa using hneg
      have en : Lib.itoa a.n = 45 :: Lib.decDigits a.n.natAbs := by unfold Lib.itoa; rw [if_pos hneg]
      (try simp only [vcRules, dRules, bRules, tyRules, xRules, pickV_true, pickV_false, implies_true, Nat.reduceLT, Nat.reduceLeDiff, Nat.reduceEqDiff, Nat.reduceAdd, Nat.reduceSub, Nat.reduceMul, Int.reduceToNat, Int.reduceLT, Int.reduceLE, Int.reduceEq, Int.reduceAdd, Int.reduceSub, Int.reduceNeg, Int.reduceBEq, Int.reduceBNe, Int.reduceMul, Int.natCast_add, Int.natCast_one, reduceCtorEq, reduceIte, wN_isAgg, wN_cells, f_isAgg, f_cells, cRules, yRules])
      repeat ((with_reducible refine And.intro ?_ ?_); (focus (first | omega | (simp only [List.length_take, List.length_drop, List.length_map, List.length_append, List.length_cons]; omega) | (refine (show quietOp _ = true from ?_); rfl) | (refine (show drawOk _ _ _ _ _ _ _ from Or.inl ?_); kernel_rfl) | (intros; simp_all; done))))
      refine ifC.mk (fun hq => ?_) (fun hq => ?_)
      · have hq : ¬ a.q = 1 := by simpa using hq
        rw [if_neg hq, en, eq]
        (try simp only [vcRules, dRules, bRules, tyRules, xRules, pickV_true, pickV_false, implies_true, Nat.reduceLT, Nat.reduceLeDiff, Nat.reduceEqDiff, Nat.reduceAdd, Nat.reduceSub, Nat.reduceMul, Int.reduceToNat, Int.reduceLT, Int.reduceLE, Int.reduceEq, Int.reduceAdd, Int.reduceSub, Int.reduceNeg, Int.reduceBEq, Int.reduceBNe, Int.reduceMul, Int.natCast_add, Int.natCast_one, reduceCtorEq, reduceIte, wN_isAgg, wN_cells, f_isAgg, f_cells, cRules, yRules])
        repeat ((with_reducible refine And.intro ?_ ?_); (focus (first | omega | (simp only [List.length_take, List.length_drop, List.length_map, List.length_append, List.length_cons]; omega) | (refine (show quietOp _ = true from ?_); rfl) | (refine (show drawOk _ _ _ _ _ _ _ from Or.inl ?_); kernel_rfl) | (intros; simp_all; done))))
        refine callF_pure (c35 a.q h3 h4) ?_
        simp only [vcRules, dRules, bRules, tyRules, xRules, pickV_true, pickV_false, implies_true, Nat.reduceLT, Nat.reduceLeDiff, Nat.reduceEqDiff, Nat.reduceAdd, Nat.reduceSub, Nat.reduceMul, Int.reduceToNat, Int.reduceLT, Int.reduceLE, Int.reduceEq, Int.reduceAdd, Int.reduceSub, Int.reduceNeg, Int.reduceBEq, Int.reduceBNe, Int.reduceMul, Int.natCast_add, Int.natCast_one, reduceCtorEq, reduceIte, wN_isAgg, wN_cells, f_isAgg, f_cells, cRules, yRules]
        refine callF_pure (c38 a.q.natAbs (by omega)) ?_
        simp only [vcRules, dRules, bRules, tyRules, xRules, pickV_true, pickV_false, implies_true, Nat.reduceLT, Nat.reduceLeDiff, Nat.reduceEqDiff, Nat.reduceAdd, Nat.reduceSub, Nat.reduceMul, Int.reduceToNat, Int.reduceLT, Int.reduceLE, Int.reduceEq, Int.reduceAdd, Int.reduceSub, Int.reduceNeg, Int.reduceBEq, Int.reduceBNe, Int.reduceMul, Int.natCast_add, Int.natCast_one, reduceCtorEq, reduceIte, wN_isAgg, wN_cells, f_isAgg, f_cells, cRules, yRules]
        repeat ((with_reducible refine And.intro ?_ ?_); (focus (first | omega | (simp only [List.length_take, List.length_drop, List.length_map, List.length_append, List.length_cons]; omega) | (refine (show quietOp _ = true from ?_); rfl) | (refine (show drawOk _ _ _ _ _ _ _ from Or.inl ?_); kernel_rfl) | (intros; simp_all; done))))
        refine ⟨_, _, ret_d, ?_, rfl⟩
        simp
      · have hq : a.q = 1 := by simpa using hq
        rw [if_pos hq, en]
        exact ⟨_, _, ret_d, rfl, rfl⟩
    · have hneg : ¬ a.n < 0 := by simpa using hneg
      have en : Lib.itoa a.n = Lib.decDigits a.n.natAbs := by unfold Lib.itoa; rw [if_neg hneg, show a.n.toNat = a.n.natAbs by omega]
      (try simp only [vcRules, dRules, bRules, tyRules, xRules, pickV_true, pickV_false, implies_true, Nat.reduceLT, Nat.reduceLeDiff, Nat.reduceEqDiff, Nat.reduceAdd, Nat.reduceSub, Nat.reduceMul, Int.reduceToNat, Int.reduceLT, Int.reduceLE, Int.reduceEq, Int.reduceAdd, Int.reduceSub, Int.reduceNeg, Int.reduceBEq, Int.reduceBNe, Int.reduceMul, Int.natCast_add, Int.natCast_one, reduceCtorEq, reduceIte, wN_isAgg, wN_cells, f_isAgg, f_cells, cRules, yRules])
      refine ifC.mk (fun hq => ?_) (fun hq => ?_)
      · have hq : ¬ a.q = 1 := by simpa using hq
        rw [if_neg hq, en, eq]
        (try simp only [vcRules, dRules, bRules, tyRules, xRules, pickV_true, pickV_false, implies_true, Nat.reduceLT, Nat.reduceLeDiff, Nat.reduceEqDiff, Nat.reduceAdd, Nat.reduceSub, Nat.reduceMul, Int.reduceToNat, Int.reduceLT, Int.reduceLE, Int.reduceEq, Int.reduceAdd, Int.reduceSub, Int.reduceNeg, Int.reduceBEq, Int.reduceBNe, Int.reduceMul, Int.natCast_add, Int.natCast_one, reduceCtorEq, reduceIte, wN_isAgg, wN_cells, f_isAgg, f_cells, cRules, yRules])
        repeat ((with_reducible refine And.intro ?_ ?_); (focus (first | omega | (simp only [List.length_take, List.length_drop, List.length_map, List.length_append, List.length_cons]; omega) | (refine (show quietOp _ = true from ?_); rfl) | (refine (show drawOk _ _ _ _ _ _ _ from Or.inl ?_); kernel_rfl) | (intros; simp_all; done))))
        refine callF_pure (c35 a.q h3 h4) ?_
        simp only [vcRules, dRules, bRules, tyRules, xRules, pickV_true, pickV_false, implies_true, Nat.reduceLT, Nat.reduceLeDiff, Nat.reduceEqDiff, Nat.reduceAdd, Nat.reduceSub, Nat.reduceMul, Int.reduceToNat, Int.reduceLT, Int.reduceLE, Int.reduceEq, Int.reduceAdd, Int.reduceSub, Int.reduceNeg, Int.reduceBEq, Int.reduceBNe, Int.reduceMul, Int.natCast_add, Int.natCast_one, reduceCtorEq, reduceIte, wN_isAgg, wN_cells, f_isAgg, f_cells, cRules, yRules]
        refine callF_pure (c38 a.q.natAbs (by omega)) ?_
        simp only [vcRules, dRules, bRules, tyRules, xRules, pickV_true, pickV_false, implies_true, Nat.reduceLT, Nat.reduceLeDiff, Nat.reduceEqDiff, Nat.reduceAdd, Nat.reduceSub, Nat.reduceMul, Int.reduceToNat, Int.reduceLT, Int.reduceLE, Int.reduceEq, Int.reduceAdd, Int.reduceSub, Int.reduceNeg, Int.reduceBEq, Int.reduceBNe, Int.reduceMul, Int.natCast_add, Int.natCast_one, reduceCtorEq, reduceIte, wN_isAgg, wN_cells, f_isAgg, f_cells, cRules, yRules]
        repeat ((with_reducible refine And.intro ?_ ?_); (focus (first | omega | (simp only [List.length_take, List.length_drop, List.length_map, List.length_append, List.length_cons]; omega) | (refine (show quietOp _ = true from ?_); rfl) | (refine (show drawOk _ _ _ _ _ _ _ from Or.inl ?_); kernel_rfl) | (intros; simp_all; done))))
        refine ⟨_, _, ret_d, ?_, rfl⟩
        simp
      · have hq : a.q = 1 := by simpa using hq
        rw [if_pos hq, en]
        exact ⟨_, _, ret_d, rfl, rfl⟩
end YtkoebmjenkajdaaDoor
end Go.Proofs
