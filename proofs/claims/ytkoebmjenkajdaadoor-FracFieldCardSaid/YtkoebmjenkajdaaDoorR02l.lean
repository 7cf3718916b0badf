/- A part of the proof: contracts of functions of this seat, and lemmas. No condition beyond those stated. -/
import Derived.Test.YtkoebmjenkajdaaDoorR02k
set_option linter.unusedVariables false
set_option linter.unusedSimpArgs false
set_option linter.unusedSectionVars false
set_option linter.unnecessarySimpa false
set_option linter.unusedSimpArgs false
set_option linter.unusedVariables false
set_option maxRecDepth 100000
namespace Go.Proofs
open Go.AM
namespace YtkoebmjenkajdaaDoor
variable {Gl : Globs}
def nS (m : Nat) (p : Bool × Nat) (a : FracT) : Bool × Nat := sumG p (decide (a.n < 0), a.n.natAbs * (m / a.q.natAbs))
def totF (l : List FracT) (m : Nat) : Bool × Nat := l.foldl (nS m) (false, 0)
def sumL (l : List FracT) : FracT × Bool :=
  if 20000 < l.length then failF else
  match comF l 1 with
  | none => failF
  | some m => normS (totF l m).1 (totF l m).2 m
theorem nS_le {m : Nat} {p : Bool × Nat} {a : FracT} (ha : a.Ok) (hm : m ≤ 1000000000000000) : (nS m p a).2 ≤ p.2 + 4611686018427387904000000000000000 := by
  have h := sumG_le p (decide (a.n < 0), a.n.natAbs * (m / a.q.natAbs))
  have := mul_lim ha.na (Nat.le_trans (Nat.div_le_self m a.q.natAbs) hm)
  simp only at h
  unfold nS
  omega
theorem foldl_le {m : Nat} (hm : m ≤ 1000000000000000) : ∀ {l : List FracT} {p : Bool × Nat}, (∀ a ∈ l, a.Ok) → (l.foldl (nS m) p).2 ≤ p.2 + l.length * 4611686018427387904000000000000000
  | [], p, _ => by simp
  | a :: l, p, h => by
    have h1 := nS_le (p := p) (h a (List.mem_cons_self ..)) hm
    have h2 := foldl_le hm (l := l) (p := nS m p a) (fun b hb => h b (List.mem_cons_of_mem _ hb))
    simp only [List.foldl_cons, List.length_cons]
    omega
theorem tot_take {l : List FracT} {m k : Nat} (h : k < l.length) : totF (l.take (k + 1)) m = nS m (totF (l.take k) m) (l.getD k default) := by
  unfold totF
  rw [take_step _ _ h, List.foldl_append]; rfl
theorem tot_le {l : List FracT} {m : Nat} (hm : m ≤ 1000000000000000) (h : ∀ a ∈ l, a.Ok) (hl : l.length ≤ 20000) : (totF l m).2 ≤ 92233720368547758080000000000000000000 := by
  have := foldl_le hm (p := (false, 0)) h
  unfold totF
  simp only at this
  omega
theorem c19 (l : List FracT) (hin : ∀ a ∈ l, a.In) : Pure Tryd.prog Gl 19 [.d (.sl (l.map FracT.toD))] (resD (sumL l)) := by
  refine Pure.of1t2 ?_
  refine acalls_of Tryd.func19 rfl rfl (by simp [Tryd.ntmps19]) (evC_sound rfl _ _ _ _ ?_)
  simp only [Tryd.ntmps19, Tryd.results19, argEnv, List.length_nil]
  simp only [vcRules, dRules, bRules, tyRules, xRules, pickV_true, pickV_false, implies_true, Nat.reduceLT, Nat.reduceLeDiff, Nat.reduceEqDiff, Nat.reduceAdd, Nat.reduceSub, Nat.reduceMul, Int.reduceToNat, Int.reduceLT, Int.reduceLE, Int.reduceEq, Int.reduceAdd, Int.reduceSub, Int.reduceNeg, Int.reduceBEq, Int.reduceBNe, Int.reduceMul, Int.natCast_add, Int.natCast_one, reduceCtorEq, reduceIte, wN_isAgg, wN_cells, gD_isAgg, gD_cells, f_isAgg, f_cells, cRules, yRules]
  unfold sumL
  refine ifC.mk (fun hc => ?_) (fun hc => ?_)
  · have hc : 20000 < l.length := by have := of_decide_eq_true hc; omega
    rw [if_pos hc]
    refine ⟨_, _, ret_t2, ?_, rfl⟩
    rfl
  · have hc : ¬ 20000 < l.length := by have := of_decide_eq_false hc; omega
    rw [if_neg hc]
    refine callF_pure (c44 l hin (by omega)) ?_
    cases hm : comF l 1 with
    | none =>
      have e1 : ((none : Option Nat).isSome) = false := rfl
      simp only [vcRules, dRules, bRules, tyRules, xRules, pickV_true, pickV_false, implies_true, Nat.reduceLT, Nat.reduceLeDiff, Nat.reduceEqDiff, Nat.reduceAdd, Nat.reduceSub, Nat.reduceMul, Int.reduceToNat, Int.reduceLT, Int.reduceLE, Int.reduceEq, Int.reduceAdd, Int.reduceSub, Int.reduceNeg, Int.reduceBEq, Int.reduceBNe, Int.reduceMul, Int.natCast_add, Int.natCast_one, reduceCtorEq, reduceIte, wN_isAgg, wN_cells, gD_isAgg, gD_cells, f_isAgg, f_cells, cRules, yRules, e1, Bool.not_false]
      refine ⟨_, _, ret_t2, ?_, rfl⟩
      rfl
    | some m =>
      have e1 : ((some m : Option Nat).isSome) = true := rfl
      have e2 : ((some m : Option Nat).getD 0) = m := rfl
      obtain ⟨m1, m2, _, m4⟩ := comF_spec (by omega) (by omega) hm
      have g0 : D.agg [.bool false, .int .u64 0, .int .u64 0] = gD false 0 := rfl
      simp only [vcRules, dRules, bRules, tyRules, xRules, pickV_true, pickV_false, implies_true, Nat.reduceLT, Nat.reduceLeDiff, Nat.reduceEqDiff, Nat.reduceAdd, Nat.reduceSub, Nat.reduceMul, Int.reduceToNat, Int.reduceLT, Int.reduceLE, Int.reduceEq, Int.reduceAdd, Int.reduceSub, Int.reduceNeg, Int.reduceBEq, Int.reduceBNe, Int.reduceMul, Int.natCast_add, Int.natCast_one, reduceCtorEq, reduceIte, wN_isAgg, wN_cells, gD_isAgg, gD_cells, f_isAgg, f_cells, cRules, yRules, e1, e2, Bool.not_true, g0]
      refine for_of l.length (fun k => [(0, .d (.sl (l.map FracT.toD))), (2, .ptr 0 0), (4, .d (.int .i64 m)), (6, .ptr 1 0), (7, .d (.int .i64 k))]) (fun k => [.box 2 (.d (.agg [.int .i64 0, .int .i64 0])), .box 3 (.d (gD (totF (l.take k) m).1 (totF (l.take k) m).2))]) (fun _ => True) trivial ?_ ?_
      · refine weak_to [] [0, 1] rfl (by simp) ?_ rfl
        simp only [vcRules, dRules, bRules, tyRules, xRules, pickV_true, pickV_false, implies_true, Nat.reduceLT, Nat.reduceLeDiff, Nat.reduceEqDiff, Nat.reduceAdd, Nat.reduceSub, Nat.reduceMul, Int.reduceToNat, Int.reduceLT, Int.reduceLE, Int.reduceEq, Int.reduceAdd, Int.reduceSub, Int.reduceNeg, Int.reduceBEq, Int.reduceBNe, Int.reduceMul, Int.natCast_add, Int.natCast_one, reduceCtorEq, reduceIte, wN_isAgg, wN_cells, gD_isAgg, gD_cells, f_isAgg, f_cells, cRules, yRules, Int.cast_ofNat_Int]
      · intro k _ hk
        by_cases h : k < l.length
        · obtain ⟨x, hx⟩ : ∃ x, x = l.getD k default := ⟨_, rfl⟩
          have hmem : x ∈ l := by rw [hx]; exact mem_getD h
          have hxi : x.In := hin x hmem
          obtain ⟨ok, _⟩ := m4 x hmem
          have qa := ok.qa
          have q0 := ok.q0
          have hb := tot_le (l := l.take k) m2 (fun a ha => (m4 a (List.mem_of_mem_take ha)).1) (by rw [List.length_take]; omega)
          have mg : m / x.q.natAbs ≤ m := Nat.div_le_self _ _
          have eq : Int.tdiv (m : Int) x.q = ((m / x.q.natAbs : Nat) : Int) := by
            have : x.q = (x.q.natAbs : Int) := by have := ok.d1; omega
            rw [this]; rfl
          rw [tot_take h, ← hx]
          unfold nS
          obtain ⟨r, hr⟩ : ∃ r, r = m / x.q.natAbs := ⟨_, rfl⟩
          rw [← hr] at mg eq ⊢
          have hs := mul_lim ok.na (Nat.le_trans mg m2)
          have ew : IntKind.i64.wrap (r : Int) = (r : Int) := by rw [IntKind.wrap_i64]; omega
          have hq0 : ¬ x.q = 0 := by have := ok.d1; omega
          simp only [vcRules, dRules, bRules, tyRules, xRules, pickV_true, pickV_false, implies_true, Nat.reduceLT, Nat.reduceLeDiff, Nat.reduceEqDiff, Nat.reduceAdd, Nat.reduceSub, Nat.reduceMul, Int.reduceToNat, Int.reduceLT, Int.reduceLE, Int.reduceEq, Int.reduceAdd, Int.reduceSub, Int.reduceNeg, Int.reduceBEq, Int.reduceBNe, Int.reduceMul, Int.natCast_add, Int.natCast_one, reduceCtorEq, reduceIte, wN_isAgg, wN_cells, gD_isAgg, gD_cells, f_isAgg, f_cells, cRules, yRules, (show (k:Int) < l.length by omega), h, a_getD _ _ _ (show k < l.length by omega), ← hx, quoI, eq, ew]
          repeat ((with_reducible refine And.intro ?_ ?_); (focus (first | omega | (simp only [List.length_take, List.length_drop, List.length_map, List.length_append, List.length_cons]; omega) | (refine (show quietOp _ = true from ?_); rfl) | (refine (show drawOk _ _ _ _ _ _ _ from Or.inl ?_); kernel_rfl) | (intros; simp_all; done))))
          refine callF_pure (c46 x.n (r : Int) ⟨hxi.n1, hxi.n2⟩ ⟨by omega, by omega⟩) ?_
          rw [Int.natAbs_natCast]
          simp only [vcRules, dRules, bRules, tyRules, xRules, pickV_true, pickV_false, implies_true, Nat.reduceLT, Nat.reduceLeDiff, Nat.reduceEqDiff, Nat.reduceAdd, Nat.reduceSub, Nat.reduceMul, Int.reduceToNat, Int.reduceLT, Int.reduceLE, Int.reduceEq, Int.reduceAdd, Int.reduceSub, Int.reduceNeg, Int.reduceBEq, Int.reduceBNe, Int.reduceMul, Int.natCast_add, Int.natCast_one, reduceCtorEq, reduceIte, wN_isAgg, wN_cells, gD_isAgg, gD_cells, f_isAgg, f_cells, cRules, yRules]
          refine callF_pure (c45 (totF (l.take k) m) (decide (x.n < 0), x.n.natAbs * r) (by simp only; omega)) ?_
          simp only [vcRules, dRules, bRules, tyRules, xRules, pickV_true, pickV_false, implies_true, Nat.reduceLT, Nat.reduceLeDiff, Nat.reduceEqDiff, Nat.reduceAdd, Nat.reduceSub, Nat.reduceMul, Int.reduceToNat, Int.reduceLT, Int.reduceLE, Int.reduceEq, Int.reduceAdd, Int.reduceSub, Int.reduceNeg, Int.reduceBEq, Int.reduceBNe, Int.reduceMul, Int.natCast_add, Int.natCast_one, reduceCtorEq, reduceIte, wN_isAgg, wN_cells, gD_isAgg, gD_cells, f_isAgg, f_cells, cRules, yRules, h]
          refine weak_to [] [0, 1] rfl (by simp) ?_ rfl
          simp only [vcRules, dRules, bRules, tyRules, xRules, pickV_true, pickV_false, implies_true, Nat.reduceLT, Nat.reduceLeDiff, Nat.reduceEqDiff, Nat.reduceAdd, Nat.reduceSub, Nat.reduceMul, Int.reduceToNat, Int.reduceLT, Int.reduceLE, Int.reduceEq, Int.reduceAdd, Int.reduceSub, Int.reduceNeg, Int.reduceBEq, Int.reduceBNe, Int.reduceMul, Int.natCast_add, Int.natCast_one, reduceCtorEq, reduceIte, wN_isAgg, wN_cells, gD_isAgg, gD_cells, f_isAgg, f_cells, cRules, yRules, @a_wrap ((k:Int) + 1) (by omega), Int.natCast_add, Int.cast_ofNat_Int]
        · have : k = l.length := by omega
          subst this
          rw [List.take_length]
          have hb := tot_le (l := l) m2 (fun a ha => (m4 a ha).1) (by omega)
          simp only [vcRules, dRules, bRules, tyRules, xRules, pickV_true, pickV_false, implies_true, Nat.reduceLT, Nat.reduceLeDiff, Nat.reduceEqDiff, Nat.reduceAdd, Nat.reduceSub, Nat.reduceMul, Int.reduceToNat, Int.reduceLT, Int.reduceLE, Int.reduceEq, Int.reduceAdd, Int.reduceSub, Int.reduceNeg, Int.reduceBEq, Int.reduceBNe, Int.reduceMul, Int.natCast_add, Int.natCast_one, reduceCtorEq, reduceIte, wN_isAgg, wN_cells, gD_isAgg, gD_cells, f_isAgg, f_cells, cRules, yRules, (show ¬ ((l.length : Nat) : Int) < (l.length : Nat) by omega)]
          repeat ((with_reducible refine And.intro ?_ ?_); (focus (first | omega | (simp only [List.length_take, List.length_drop, List.length_map, List.length_append, List.length_cons]; omega) | (refine (show quietOp _ = true from ?_); rfl) | (refine (show drawOk _ _ _ _ _ _ _ from Or.inl ?_); kernel_rfl) | (intros; simp_all; done))))
          refine callF_pure (c35 (m : Int) (by omega) (by omega)) ?_
          rw [Int.natAbs_natCast]
          simp only [vcRules, dRules, bRules, tyRules, xRules, pickV_true, pickV_false, implies_true, Nat.reduceLT, Nat.reduceLeDiff, Nat.reduceEqDiff, Nat.reduceAdd, Nat.reduceSub, Nat.reduceMul, Int.reduceToNat, Int.reduceLT, Int.reduceLE, Int.reduceEq, Int.reduceAdd, Int.reduceSub, Int.reduceNeg, Int.reduceBEq, Int.reduceBNe, Int.reduceMul, Int.natCast_add, Int.natCast_one, reduceCtorEq, reduceIte, wN_isAgg, wN_cells, gD_isAgg, gD_cells, f_isAgg, f_cells, cRules, yRules, wN_small (show m < 18446744073709551616 by omega)]
          refine callF_pure (c34 (totF l m).1 (totF l m).2 m (by omega) (by omega) (by omega)) ?_
          simp only [resD]
          simp only [vcRules, dRules, bRules, tyRules, xRules, pickV_true, pickV_false, implies_true, Nat.reduceLT, Nat.reduceLeDiff, Nat.reduceEqDiff, Nat.reduceAdd, Nat.reduceSub, Nat.reduceMul, Int.reduceToNat, Int.reduceLT, Int.reduceLE, Int.reduceEq, Int.reduceAdd, Int.reduceSub, Int.reduceNeg, Int.reduceBEq, Int.reduceBNe, Int.reduceMul, Int.natCast_add, Int.natCast_one, reduceCtorEq, reduceIte, wN_isAgg, wN_cells, gD_isAgg, gD_cells, f_isAgg, f_cells, cRules, yRules]
          exact ⟨_, _, ret_t2, rfl, rfl⟩
end YtkoebmjenkajdaaDoor
end Go.Proofs
