/- Proved: CounterLastSaid: for every input that can be read as data the law returns true and leaves its arguments as they were; no condition is added. -/
import Derived.Test.YtlelaieadgkemaaM30q
set_option linter.unusedVariables false
set_option linter.unusedSimpArgs false
set_option linter.unusedSectionVars false
set_option linter.unnecessarySimpa false
set_option linter.unusedSimpArgs false
set_option linter.unusedVariables false
set_option maxRecDepth 100000
namespace Go.Proofs
open Go.AM Go.ChangeShapes Go.WideShapes Go.ChangeAt Go.RowKit
namespace Ytlelaieadgkemaa

/-! ### CounterLast -/
def lstep (x : List UInt8) (acc : Int × Bool) (s : StepT) : Int × Bool := if (s.name == x) = true then (s.value, true) else acc
def lastV (x : List UInt8) (l : List StepT) : Int × Bool := l.foldl (lstep x) (0, false)
theorem at_last {l : List StepT} {x : List UInt8} {t : Int} (h : ∀ s ∈ l, s.at_ ≤ t) : ∀ k, k ≤ l.length → atF l x t k = lastV x (l.take k)
  | 0, _ => rfl
  | k + 1, hk => by
    have ih := at_last h (x := x) k (by omega)
    have hle := h _ (mem_getD (show k < l.length by omega))
    rw [atF, take_step l k (by omega), lastV, List.foldl_append, List.foldl_cons, List.foldl_nil, ih]
    unfold atB lstep
    rw [decide_eq_true hle, Bool.and_true]
    rfl
theorem lastV_end {x : List UInt8} {l : List StepT} (h0 : 0 < l.length) (hn : (l.getD (l.length - 1) default).name = x) : lastV x l = ((l.getD (l.length - 1) default).value, true) := by
  have e : l = l.take (l.length - 1) ++ [l.getD (l.length - 1) default] := by
    have := take_step l (l.length - 1) (by omega)
    rw [show l.length - 1 + 1 = l.length by omega, List.take_length] at this
    exact this
  have : lastV x (l.take (l.length - 1) ++ [l.getD (l.length - 1) default]) = ((l.getD (l.length - 1) default).value, true) := by
    rw [lastV, List.foldl_append, List.foldl_cons, List.foldl_nil, lstep, hn, if_pos (by simp)]
  rw [← e] at this; exact this
theorem lastV_app (x : List UInt8) (out : List StepT) (s : StepT) : lastV x (app1 out s) = lstep x (lastV x out) s := by
  unfold app1
  split
  · rename_i hq
    unfold lastSame at hq
    simp only [Bool.and_eq_true, decide_eq_true_eq, beq_iff_eq] at hq
    obtain ⟨⟨h0, h1⟩, h2⟩ := hq
    unfold lstep
    by_cases hx : s.name = x
    · rw [if_pos (by simpa using hx), lastV_end h0 (h1.trans hx), h2]
    · rw [if_neg (by simpa using hx)]
  · rw [lastV, List.foldl_append, List.foldl_cons, List.foldl_nil]; rfl
theorem lastV_fold (x : List UInt8) : ∀ (T out : List StepT), lastV x (T.foldl app1 out) = T.foldl (lstep x) (lastV x out)
  | [], out => rfl
  | s :: T, out => by rw [List.foldl_cons, List.foldl_cons, lastV_fold x T, lastV_app]
theorem fold_dd (x : List UInt8) : ∀ (S : List StepT) (acc : Int × Bool), (dd S).foldl (lstep x) acc = S.foldl (lstep x) acc
  | [], acc => rfl
  | s :: r, acc => by
    rw [dd]
    split
    · rename_i ht
      rw [fold_dd x r]
      cases r with
      | nil => cases ht
      | cons t r =>
        have hn : s.name = t.name := by
          have : (orderF s t == 0) = true := ht
          rw [beq_iff_eq, order_zero] at this
          exact this.1
        rw [List.foldl_cons, List.foldl_cons, List.foldl_cons]
        congr 1
        unfold lstep
        rw [hn]
        split <;> rfl
    · rw [List.foldl_cons, List.foldl_cons, fold_dd x r]
theorem fold_filter (x : List UInt8) : ∀ (S : List StepT) (acc : Int × Bool), (S.filter fun s => s.name == x).foldl (lstep x) acc = S.foldl (lstep x) acc
  | [], acc => rfl
  | s :: r, acc => by
    rw [List.filter_cons, List.foldl_cons]
    by_cases h : (s.name == x) = true
    · rw [if_pos h, List.foldl_cons, fold_filter x r]
    · rw [if_neg h, fold_filter x r]
      congr 1
      unfold lstep
      rw [if_neg h]
theorem sort_name {os : List TimedT} (h : Good os) (x : List UInt8) : (sortF ltB (allF os)).filter (fun s => s.name == x) = evs os x := by
  have h1 : sortF ltB (allF os) = sortF ltB ((allF os).filter fun s => ltS s.name x) ++ sortF ltB ((allF os).filter fun s => !ltS s.name x) :=
    sortF_two fun a _ b _ pa pb => by
      refine ltB_name ?_
      rcases bl_cases b.name x with ⟨p1, _⟩ | ⟨_, p2, _⟩ | ⟨_, _, p3⟩
      · unfold ltS at pb; rw [p1] at pb; cases pb
      · rw [p2]; exact pa
      · exact bl_trans pa p3
  have h2 : sortF ltB ((allF os).filter fun s => !ltS s.name x) = sortF ltB (((allF os).filter fun s => !ltS s.name x).filter fun s => s.name == x) ++ sortF ltB (((allF os).filter fun s => !ltS s.name x).filter fun s => !(s.name == x)) :=
    sortF_two fun a _ b hb pa pb => by
      refine ltB_name ?_
      have hb := (List.mem_filter.1 hb).2
      simp only [Bool.not_eq_true', beq_iff_eq, beq_eq_false_iff_ne] at hb pa pb
      rw [pa]
      rcases bl_cases b.name x with ⟨p1, _⟩ | ⟨_, p2, _⟩ | ⟨_, _, p3⟩
      · unfold ltS at hb; rw [p1] at hb; cases hb
      · exact absurd p2 pb
      · exact p3
  have e1 : ((allF os).filter fun s => !ltS s.name x).filter (fun s => s.name == x) = evs os x := by
    rw [List.filter_filter]
    refine filter_congr' fun s _ => ?_
    by_cases q : s.name = x
    · rw [q]; unfold ltS; rw [bl_irr]; simp
    · have : (s.name == x) = false := by simpa using q
      rw [this, Bool.false_and]
  rw [h1, h2, e1, evs_sorted h, List.filter_append, List.filter_append]
  have z1 : (sortF ltB ((allF os).filter fun s => ltS s.name x)).filter (fun s => s.name == x) = [] := by
    rw [List.filter_eq_nil_iff]
    intro s hs
    have := (List.mem_filter.1 (((sortF_perm _ _).mem_iff).1 hs)).2
    simp only [beq_iff_eq]
    exact bl_ne this
  have z3 : (sortF ltB (((allF os).filter fun s => !ltS s.name x).filter fun s => !(s.name == x))).filter (fun s => s.name == x) = [] := by
    rw [List.filter_eq_nil_iff]
    intro s hs
    have := (List.mem_filter.1 (((sortF_perm _ _).mem_iff).1 hs)).2
    simp only [Bool.not_eq_true'] at this
    rw [this]; simp
  have z2 : (evs os x).filter (fun s => s.name == x) = evs os x := by
    rw [List.filter_eq_self]
    intro s hs
    exact (List.mem_filter.1 hs).2
  rw [z1, z2, z3, List.nil_append, List.append_nil]
theorem last_ofF {os : List TimedT} (h : Good os) (x : List UInt8) : atF (ofF os) x 1000000000000 (ofF os).length = (evsL x os).foldl (lstep x) (0, false) := by
  have hr : ofF os = run (sortF ltB (allF os)) := by unfold ofF; exact outF_run _
  have hle : ∀ s ∈ ofF os, s.at_ ≤ 1000000000000 := fun s hs => by
    rw [hr] at hs
    have := ((sortF_perm _ _).mem_iff).1 (run_sub hs)
    obtain ⟨o, _, _, rfl⟩ := all_mem.1 this
    show timeF o ≤ 1000000000000
    unfold timeF; omega
  rw [at_last hle _ (Nat.le_refl _), List.take_length, hr]
  unfold run
  rw [lastV_fold]
  have : lastV x [] = (0, false) := rfl
  rw [this, fold_dd, ← fold_filter, sort_name h, evs_evsL]
theorem evsL_app (x : List UInt8) : ∀ (a b : List TimedT), evsL x (a ++ b) = evsL x a ++ evsL x b
  | [], b => rfl
  | o :: a, b => by
    rw [List.cons_append, evsL, evsL, evsL_app x a b]
    split <;> rfl

theorem c4 (os : List TimedT) (x : List UInt8) : Pure Try.prog 4 [.d (.sl (os.map TimedT.toD)), .d (.str x)] (.d (.bool true)) := by
  refine Pure.of2 ?_
  refine acalls_of Try.func4 rfl rfl (by simp [Try.ntmps4]) (evC_sound rfl _ _ _ _ ?_)
  simp only [Try.ntmps4, Try.results4, argEnv, List.length_nil]
  simp only [vcRules, dRules, bRules, tyRules, xRules, pickV_true, pickV_false, implies_true, Nat.reduceLT, Nat.reduceLeDiff, Nat.reduceEqDiff, Nat.reduceAdd, Nat.reduceSub, Nat.reduceMul, Int.reduceToNat, Int.reduceLT, Int.reduceLE, Int.reduceEq, Int.reduceAdd, Int.reduceSub, Int.reduceNeg, Int.reduceBEq, Int.reduceBNe, Int.reduceMul, Int.natCast_add, Int.natCast_one, reduceCtorEq, reduceIte, s_isAgg, s_cells, t_isAgg, t_cells, yRules]
  refine callF_pure (c9 os) ?_
  simp only [vcRules, dRules, bRules, tyRules, xRules, pickV_true, pickV_false, implies_true, Nat.reduceLT, Nat.reduceLeDiff, Nat.reduceEqDiff, Nat.reduceAdd, Nat.reduceSub, Nat.reduceMul, Int.reduceToNat, Int.reduceLT, Int.reduceLE, Int.reduceEq, Int.reduceAdd, Int.reduceSub, Int.reduceNeg, Int.reduceBEq, Int.reduceBNe, Int.reduceMul, Int.natCast_add, Int.natCast_one, reduceCtorEq, reduceIte, s_isAgg, s_cells, t_isAgg, t_cells, yRules]
  refine ifC.mk (fun h => ?_) (fun h => ?_)
  · refine callF_pure c10 ?_
    simp only [vcRules, dRules, bRules, tyRules, xRules, pickV_true, pickV_false, implies_true, Nat.reduceLT, Nat.reduceLeDiff, Nat.reduceEqDiff, Nat.reduceAdd, Nat.reduceSub, Nat.reduceMul, Int.reduceToNat, Int.reduceLT, Int.reduceLE, Int.reduceEq, Int.reduceAdd, Int.reduceSub, Int.reduceNeg, Int.reduceBEq, Int.reduceBNe, Int.reduceMul, Int.natCast_add, Int.natCast_one, reduceCtorEq, reduceIte, s_isAgg, s_cells, t_isAgg, t_cells, yRules]
    exact ⟨_, _, ret_d, rfl, rfl⟩
  · have h : fewB os = true := by simpa using h
    obtain ⟨h1, hg⟩ := few_spec h
    have hlen := ofF_len os
    refine callF_pure (c11 os (by omega)) ?_
    simp only [vcRules, dRules, bRules, tyRules, xRules, pickV_true, pickV_false, implies_true, Nat.reduceLT, Nat.reduceLeDiff, Nat.reduceEqDiff, Nat.reduceAdd, Nat.reduceSub, Nat.reduceMul, Int.reduceToNat, Int.reduceLT, Int.reduceLE, Int.reduceEq, Int.reduceAdd, Int.reduceSub, Int.reduceNeg, Int.reduceBEq, Int.reduceBNe, Int.reduceMul, Int.natCast_add, Int.natCast_one, reduceCtorEq, reduceIte, s_isAgg, s_cells, t_isAgg, t_cells, yRules]
    refine callF_pure (c15 (ofF os) x 1000000000000 (by omega)) ?_
    have hlast := last_ofF hg x
    obtain ⟨v, hv⟩ : ∃ v, v = atF (ofF os) x 1000000000000 (ofF os).length := ⟨_, rfl⟩
    rw [← hv] at hlast ⊢
    simp only [vcRules, dRules, bRules, tyRules, xRules, pickV_true, pickV_false, implies_true, Nat.reduceLT, Nat.reduceLeDiff, Nat.reduceEqDiff, Nat.reduceAdd, Nat.reduceSub, Nat.reduceMul, Int.reduceToNat, Int.reduceLT, Int.reduceLE, Int.reduceEq, Int.reduceAdd, Int.reduceSub, Int.reduceNeg, Int.reduceBEq, Int.reduceBNe, Int.reduceMul, Int.natCast_add, Int.natCast_one, reduceCtorEq, reduceIte, s_isAgg, s_cells, t_isAgg, t_cells, yRules, @a_wrap ((os.length : Int) - 1) (by omega)]
    repeat ((with_reducible refine And.intro ?_ ?_); (focus (first | omega | (simp only [List.length_take, List.length_drop, List.length_map, List.length_append, List.length_cons]; omega) | (refine (show quietOp _ = true from ?_); rfl) | (refine (show drawChk _ = true from ?_); kernel_rfl) | (intros; simp_all; done))))
    refine loop_of (τ := Nat) (fun k => [(0, .d (.sl (os.map TimedT.toD))), (1, .d (.str x)), (5, .d (.int .i64 v.1)), (6, .d (.bool v.2)), (7, .d (.int .i64 ((k : Int) - 1)))]) (fun _ => []) (fun k => k ≤ os.length ∧ evsL x os = evsL x (os.take k)) (fun k => k) os.length ⟨Nat.le_refl _, by rw [List.take_length]⟩ ?_ ?_
    · refine weak_to [] [] rfl List.nodup_nil ?_ rfl
      simp only [vcRules, dRules, bRules, tyRules, xRules, pickV_true, pickV_false, implies_true, Nat.reduceLT, Nat.reduceLeDiff, Nat.reduceEqDiff, Nat.reduceAdd, Nat.reduceSub, Nat.reduceMul, Int.reduceToNat, Int.reduceLT, Int.reduceLE, Int.reduceEq, Int.reduceAdd, Int.reduceSub, Int.reduceNeg, Int.reduceBEq, Int.reduceBNe, Int.reduceMul, Int.natCast_add, Int.natCast_one, reduceCtorEq, reduceIte, s_isAgg, s_cells, t_isAgg, t_cells, yRules]
    · intro k hk
      obtain ⟨hk, hp⟩ := hk
      by_cases h0 : 0 < k
      · obtain ⟨j, rfl⟩ : ∃ j, k = j + 1 := ⟨k - 1, by omega⟩
        have hj : j < os.length := by omega
        obtain ⟨o, ho⟩ : ∃ o, o = os.getD j default := ⟨_, rfl⟩
        have ej : ((j : Int) + 1 - 1) = (j : Int) := by omega
        have htk : evsL x (os.take (j + 1)) = evsL x (os.take j) ++ evsL x [o] := by rw [take_step os j hj, evsL_app, ho]
        simp only [vcRules, dRules, bRules, tyRules, xRules, pickV_true, pickV_false, implies_true, Nat.reduceLT, Nat.reduceLeDiff, Nat.reduceEqDiff, Nat.reduceAdd, Nat.reduceSub, Nat.reduceMul, Int.reduceToNat, Int.reduceLT, Int.reduceLE, Int.reduceEq, Int.reduceAdd, Int.reduceSub, Int.reduceNeg, Int.reduceBEq, Int.reduceBNe, Int.reduceMul, Int.natCast_add, Int.natCast_one, reduceCtorEq, reduceIte, s_isAgg, s_cells, t_isAgg, t_cells, yRules, ej, (show (0:Int) ≤ j by omega), (show (j:Int) < os.length by omega), hj, a_getD _ _ _ (show j < os.length by omega), ← ho]
        repeat ((with_reducible refine And.intro ?_ ?_); (focus (first | omega | (simp only [List.length_take, List.length_drop, List.length_map, List.length_append, List.length_cons]; omega) | (refine (show quietOp _ = true from ?_); rfl) | (refine (show drawChk _ = true from ?_); kernel_rfl) | (intros; simp_all; done))))
        refine ifC.mk (fun hc => ?_) (fun hc => ?_)
        · have hev : evsL x [o] = [stepOf o] := by rw [evsL, if_pos (show (cntB o && o.name == x) = true from hc)]; rfl
          have hval : v = (o.n, true) := by
            simp only [Bool.and_eq_true, beq_iff_eq] at hc
            rw [hlast, hp, htk, hev, List.foldl_append, List.foldl_cons, List.foldl_nil, lstep]
            show (if (o.name == x) = true then (o.n, true) else _) = _
            rw [hc.2, if_pos (by simp)]
          (try simp only [vcRules, dRules, bRules, tyRules, xRules, pickV_true, pickV_false, implies_true, Nat.reduceLT, Nat.reduceLeDiff, Nat.reduceEqDiff, Nat.reduceAdd, Nat.reduceSub, Nat.reduceMul, Int.reduceToNat, Int.reduceLT, Int.reduceLE, Int.reduceEq, Int.reduceAdd, Int.reduceSub, Int.reduceNeg, Int.reduceBEq, Int.reduceBNe, Int.reduceMul, Int.natCast_add, Int.natCast_one, reduceCtorEq, reduceIte, s_isAgg, s_cells, t_isAgg, t_cells, yRules, ej, (show (0:Int) ≤ j by omega), (show (j:Int) < os.length by omega), hj, a_getD _ _ _ (show j < os.length by omega), ← ho, hval, beq_self_eq_true])
          refine callG_pure (fun _ => c10) ?_
          simp only [vcRules, dRules, bRules, tyRules, xRules, pickV_true, pickV_false, implies_true, Nat.reduceLT, Nat.reduceLeDiff, Nat.reduceEqDiff, Nat.reduceAdd, Nat.reduceSub, Nat.reduceMul, Int.reduceToNat, Int.reduceLT, Int.reduceLE, Int.reduceEq, Int.reduceAdd, Int.reduceSub, Int.reduceNeg, Int.reduceBEq, Int.reduceBNe, Int.reduceMul, Int.natCast_add, Int.natCast_one, reduceCtorEq, reduceIte, s_isAgg, s_cells, t_isAgg, t_cells, yRules]
          exact ⟨_, _, ret_d, rfl, rfl⟩
        · have hev : evsL x [o] = [] := by rw [evsL, if_neg (by rw [show (cntB o && o.name == x) = false from hc]; simp)]; rfl
          refine ⟨j, ⟨by omega, by rw [hp, htk, hev, List.append_nil]⟩, by omega, ?_⟩
          refine weak_to [] [] rfl List.nodup_nil ?_ rfl
          simp only [vcRules, dRules, bRules, tyRules, xRules, pickV_true, pickV_false, implies_true, Nat.reduceLT, Nat.reduceLeDiff, Nat.reduceEqDiff, Nat.reduceAdd, Nat.reduceSub, Nat.reduceMul, Int.reduceToNat, Int.reduceLT, Int.reduceLE, Int.reduceEq, Int.reduceAdd, Int.reduceSub, Int.reduceNeg, Int.reduceBEq, Int.reduceBNe, Int.reduceMul, Int.natCast_add, Int.natCast_one, reduceCtorEq, reduceIte, s_isAgg, s_cells, t_isAgg, t_cells, yRules, @a_wrap ((j:Int) - 1) (by omega)]
      · have : k = 0 := by omega
        subst this
        have hval : v = (0, false) := by rw [hlast, hp]; rfl
        simp only [vcRules, dRules, bRules, tyRules, xRules, pickV_true, pickV_false, implies_true, Nat.reduceLT, Nat.reduceLeDiff, Nat.reduceEqDiff, Nat.reduceAdd, Nat.reduceSub, Nat.reduceMul, Int.reduceToNat, Int.reduceLT, Int.reduceLE, Int.reduceEq, Int.reduceAdd, Int.reduceSub, Int.reduceNeg, Int.reduceBEq, Int.reduceBNe, Int.reduceMul, Int.natCast_add, Int.natCast_one, reduceCtorEq, reduceIte, s_isAgg, s_cells, t_isAgg, t_cells, yRules, Int.cast_ofNat_Int, show ((0:Int) - 1) = -1 from rfl, hval]
        refine callG_pure (fun _ => c10) ?_
        simp only [vcRules, dRules, bRules, tyRules, xRules, pickV_true, pickV_false, implies_true, Nat.reduceLT, Nat.reduceLeDiff, Nat.reduceEqDiff, Nat.reduceAdd, Nat.reduceSub, Nat.reduceMul, Int.reduceToNat, Int.reduceLT, Int.reduceLE, Int.reduceEq, Int.reduceAdd, Int.reduceSub, Int.reduceNeg, Int.reduceBEq, Int.reduceBNe, Int.reduceMul, Int.natCast_add, Int.natCast_one, reduceCtorEq, reduceIte, s_isAgg, s_cells, t_isAgg, t_cells, yRules]
        exact ⟨_, _, ret_d, rfl, rfl⟩
theorem last_main (xs : List D) (h : TypedAll Try.prog 5 Try.f4.params.toList xs) : ACalls Try.prog [] 4 (xs.map AV.d) [] (fun r _ => r = .d (.bool true)) := by
  rw [Try.params4] at h
  obtain ⟨x, _, rfl, h1, y, _, rfl, h2, rfl⟩ := h
  obtain ⟨os, rfl, _⟩ := par22 h1
  obtain ⟨n, rfl⟩ := par9 h2
  exact (c4 os n []).mono fun r s h => h.1
theorem counterLast_lifted (os : Os) (started : os.Started) (H : Type) (enc : TypeId × Value → H) :
    ReturnsInHanded {} Try.checked os 4 .any (Rows.counterLastSpec.pre6 enc Try.prog Try.f4 Rows.counterLastRow.domain false) (Rows.counterLastSpec.post enc Try.prog Try.f4 false true false false) := by
  refine returnsInHanded_of_change (C := Try.checked) own started (by kernel_rfl) Try.func4
    (ChangeSpec.witness6 (enc := enc) (C := Try.checked) false ⟨#[], #[.slice none 0 0, .string ⟨#[]⟩], []⟩ 8 (by kernel_rfl) (by kernel_rfl) (by kernel_rfl) (by kernel_rfl)) ?_
  intro W base args ds gs before hval hW _ _
  exact law_contract (n := 5) (tb := 4) Try.func4 rfl rfl (by kernel_rfl) laidOut (by kernel_rfl) (by kernel_rfl) rfl
    (fun H ds h => by
      match ds, h with
      | [d1, d2], _ => rfl) last_main W base args ds gs before hval hW
theorem counterLast_holds : Rows.CounterLastSaid :=
  OpenClaim.holds_of_wide 4 Try.f4 rfl rfl rfl rfl rfl rfl rfl ⟨rfl, rfl, rfl, rfl, rfl⟩ rfl rfl rfl rfl rfl (by kernel_rfl) Try.func4 (by kernel_rfl)
    (of_decide_eq_true (by kernel_rfl)) (by unfold Func.isWrapper; first | (rw [if_pos (by decide +kernel)]; kernel_rfl) | (rw [if_neg (by decide +kernel)]; exact ⟨rfl, rfl⟩))
    (fun os started H enc _ => counterLast_lifted os started H enc)
end Ytlelaieadgkemaa
end Go.Proofs
