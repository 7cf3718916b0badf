/- A part of the proof: contracts of functions of this seat, and lemmas. No condition beyond those stated. -/
import Derived.Test.YtlelaieadgkemaaM30p
set_option linter.unusedVariables false
set_option linter.unusedSimpArgs false
set_option linter.unusedSectionVars false
set_option linter.unnecessarySimpa false
set_option linter.unusedSimpArgs false
set_option linter.unusedVariables false
set_option maxRecDepth 100000
namespace Go.Proofs
open Go.AM Go.ChangeShapes Go.WideShapes Go.ChangeAt Go.RowKit
namespace Ytlelaieadgkemaa

/-! ### the reference's steps of one name -/
def ctl (x : List UInt8) : List TimedT → List StepT
  | [] => []
  | o :: r => if ((cntB o && !(r.any fun q => sameAt q o)) && o.name == x) = true then ⟨x, timeF o, o.n⟩ :: ctl x r else ctl x r
def appS (out : List StepT) (s : StepT) : List StepT := if appB out s.value = true then out ++ [s] else out
theorem stepsF_ctl (os : List TimedT) (x : List UInt8) : stepsF os x os.length = (ctl x os).foldl appS [] := by
  have gen : ∀ j k, k + j = os.length → (ctl x (os.drop k)).foldl appS (stepsF os x k) = stepsF os x os.length := by
    intro j
    induction j with
    | zero =>
      intro k hk
      have : k = os.length := by omega
      subst this
      rw [List.drop_length]; rfl
    | succ j ih =>
      intro k hk
      have h := ih (k + 1) (by omega)
      have hkl : k < os.length := by omega
      have hd : os.drop k = os.getD k default :: os.drop (k + 1) := by
        rw [List.drop_eq_getElem_cons hkl]
        simp [hkl]
      have ht : takeB os x k = ((cntB (os.getD k default) && !((os.drop (k + 1)).any fun q => sameAt q (os.getD k default))) && (os.getD k default).name == x) := rfl
      rw [← h, hd, ctl, ← ht, stepsF]
      split
      · rw [List.foldl_cons]; rfl
      · rfl
  exact (gen os.length 0 (by omega)).symm
def evsL (x : List UInt8) : List TimedT → List StepT
  | [] => []
  | o :: r => if (cntB o && o.name == x) = true then stepOf o :: evsL x r else evsL x r
theorem evs_evsL (x : List UInt8) : ∀ os : List TimedT, evs os x = evsL x os
  | [] => rfl
  | o :: r => by
    have ih := evs_evsL x r
    unfold evs allF at ih ⊢
    rw [List.filter_cons, evsL]
    cases hc : cntB o with
    | true =>
      rw [if_pos rfl, List.map_cons, List.filter_cons, ih, Bool.true_and]; rfl
    | false =>
      rw [if_neg (by simp), ih, Bool.false_and]; rfl
theorem evsL_mem {x : List UInt8} : ∀ {os : List TimedT} {s : StepT}, s ∈ evsL x os → ∃ o ∈ os, cntB o = true ∧ o.name = x ∧ s = stepOf o
  | [], s, h => by cases h
  | o :: r, s, h => by
    rw [evsL] at h
    split at h
    · rename_i hc
      simp only [Bool.and_eq_true, beq_iff_eq] at hc
      rcases List.mem_cons.1 h with rfl | h
      · exact ⟨o, List.mem_cons_self, hc.1, hc.2, rfl⟩
      · obtain ⟨q, h1, h2⟩ := evsL_mem h
        exact ⟨q, List.mem_cons_of_mem _ h1, h2⟩
    · obtain ⟨q, h1, h2⟩ := evsL_mem h
      exact ⟨q, List.mem_cons_of_mem _ h1, h2⟩
theorem evsL_of {x : List UInt8} : ∀ {os : List TimedT} {o : TimedT}, o ∈ os → cntB o = true → o.name = x → stepOf o ∈ evsL x os
  | [], o, h, _, _ => by cases h
  | q :: r, o, h, h1, h2 => by
    rw [evsL]
    rcases List.mem_cons.1 h with rfl | h
    · rw [if_pos (by rw [h1, h2]; simp)]; exact List.mem_cons_self
    · have := evsL_of h h1 h2
      split
      · exact List.mem_cons_of_mem _ this
      · exact this
theorem evsL_pw {x : List UInt8} : ∀ {os : List TimedT}, os.Pairwise (fun a b => timeF a ≤ timeF b) → (evsL x os).Pairwise fun a b => a.at_ ≤ b.at_
  | [], _ => List.Pairwise.nil
  | o :: r, h => by
    rw [List.pairwise_cons] at h
    rw [evsL]
    split
    · refine List.pairwise_cons.2 ⟨fun s hs => ?_, evsL_pw h.2⟩
      obtain ⟨q, q1, _, _, rfl⟩ := evsL_mem hs
      exact h.1 q q1
    · exact evsL_pw h.2
theorem ctl_dd (x : List UInt8) : ∀ {os : List TimedT}, os.Pairwise (fun a b => timeF a ≤ timeF b) → ctl x os = dd (evsL x os)
  | [], _ => rfl
  | o :: r, h => by
    have hpw := h
    rw [List.pairwise_cons] at h
    have ih := ctl_dd x h.2
    rw [ctl, evsL]
    by_cases hc : (cntB o && o.name == x) = true
    · rw [if_pos hc, dd]
      simp only [Bool.and_eq_true, beq_iff_eq] at hc
      have hany : (r.any fun q => sameAt q o) = tie (stepOf o) (evsL x r) := by
        rw [Bool.eq_iff_iff, List.any_eq_true]
        cases hev : evsL x r with
        | nil =>
          constructor
          · rintro ⟨q, q1, q2⟩
            unfold sameAt at q2
            simp only [Bool.and_eq_true, beq_iff_eq] at q2
            have := evsL_of (x := x) q1 (show cntB q = true by unfold cntB; simpa using q2.1.1) (q2.1.2.trans hc.2)
            rw [hev] at this; cases this
          · intro q; cases q
        | cons t e =>
          have htm : t ∈ evsL x r := by rw [hev]; exact List.mem_cons_self
          obtain ⟨q0, p1, p2, p3, p4⟩ := evsL_mem htm
          show _ ↔ (orderF (stepOf o) t == 0) = true
          rw [beq_iff_eq, order_zero]
          constructor
          · rintro ⟨q, q1, q2⟩
            unfold sameAt at q2
            simp only [Bool.and_eq_true, beq_iff_eq] at q2
            have hqe := evsL_of (x := x) q1 (show cntB q = true by unfold cntB; simpa using q2.1.1) (q2.1.2.trans hc.2)
            have hle : t.at_ ≤ timeF q := by
              rw [hev] at hqe
              rcases List.mem_cons.1 hqe with e | e
              · rw [← e]; exact Int.le_refl _
              · have hp := evsL_pw (x := x) h.2
                rw [hev, List.pairwise_cons] at hp
                exact hp.1 _ e
            have hge := h.1 q0 p1
            refine ⟨by rw [p4]; exact hc.2.trans p3.symm, ?_⟩
            show timeF o = t.at_
            rw [p4] at hle ⊢
            have : (stepOf q0).at_ = timeF q0 := rfl
            omega
          · rintro ⟨e1, e2⟩
            refine ⟨q0, p1, ?_⟩
            have e2 : timeF o = t.at_ := e2
            unfold sameAt
            have : q0.kind = 4 := by simpa [cntB] using p2
            rw [this, p3, hc.2, e2, p4]
            simp [stepOf]
      rw [hany, hc.1, hc.2]
      have hs : (⟨x, timeF o, o.n⟩ : StepT) = stepOf o := by unfold stepOf; rw [hc.2]
      cases ht : tie (stepOf o) (evsL x r) with
      | true => rw [if_pos rfl, if_neg (by simp), ih]
      | false => rw [if_pos (show (true && !false && x == x) = true by simp), if_neg (show ¬ false = true by simp), ih, hs]
    · rw [if_neg hc, if_neg, ih]
      intro q
      apply hc
      simp only [Bool.and_eq_true, beq_iff_eq] at q ⊢
      exact ⟨q.1.1, q.2⟩
theorem appS_app1 {x : List UInt8} : ∀ {T out : List StepT}, (∀ s ∈ T, s.name = x) → (∀ s ∈ out, s.name = x) → T.foldl appS out = T.foldl app1 out
  | [], out, _, _ => rfl
  | s :: T, out, h1, h2 => by
    have hs := h1 s List.mem_cons_self
    have e : appS out s = app1 out s := by
      unfold appS app1 appB lastSame
      by_cases h0 : out.length = 0
      · rw [decide_eq_true h0, Bool.true_or, if_pos rfl, decide_eq_false (show ¬ 0 < out.length by omega)]; rfl
      · have hm : out.getD (out.length - 1) default ∈ out := getD_mem' (by omega)
        rw [decide_eq_false h0, decide_eq_true (show 0 < out.length by omega), h2 _ hm, hs]
        simp only [Bool.false_or, Bool.true_and, beq_self_eq_true]
        by_cases q : (out.getD (out.length - 1) default).value = s.value
        · rw [q]; simp
        · rw [if_pos (by simpa using q), if_neg (by simpa using q)]
    rw [List.foldl_cons, List.foldl_cons, e]
    refine appS_app1 (fun t ht => h1 t (List.mem_cons_of_mem _ ht)) fun t ht => ?_
    unfold app1 at ht
    split at ht
    · exact h2 t ht
    · rcases List.mem_append.1 ht with ht | ht
      · exact h2 t ht
      · simp only [List.mem_cons, List.not_mem_nil, or_false] at ht
        rw [ht]; exact hs
theorem steps_run {os : List TimedT} (h : Good os) (x : List UInt8) : stepsF os x os.length = run (evs os x) := by
  rw [stepsF_ctl, ctl_dd x h.pw, ← evs_evsL]
  refine appS_app1 (x := x) (fun s hs => ?_) fun s hs => by cases hs
  have := (List.mem_filter.1 (dd_sub hs)).2
  simpa using this

/-- what is left above a name -/
def aboveF (os : List TimedT) (x : List UInt8) : List StepT := run (restS os x)
theorem above_nil {os : List TimedT} (h : Good os) : aboveF os [] = ofF os := by
  have e : (allF os).filter (fun s => ltS [] s.name) = allF os := by
    rw [List.filter_eq_self]
    intro s hs
    have := name_ne (all_name h s hs).1
    unfold ltS
    rw [bl_nil]
    cases hn : s.name with
    | nil => exact absurd hn this
    | cons a r => rfl
  unfold aboveF restS
  rw [e, ofF, outF_run]
theorem above_step {os : List TimedT} (h : Good os) {x : List UInt8} (hn : nextF os x os.length ≠ []) :
    aboveF os x = stepsF os (nextF os x os.length) os.length ++ aboveF os (nextF os x os.length) ∧ ((allF os).filter (fun s => ltS (nextF os x os.length) s.name)).length < ((allF os).filter (fun s => ltS x s.name)).length := by
  obtain ⟨h1, h2⟩ := rest_step h (y := nextF os x os.length) rfl hn
  refine ⟨?_, h2⟩
  rw [steps_run h]
  unfold aboveF
  rw [h1]
  refine run_append fun a ha b hb => ?_
  have ha := (List.mem_filter.1 ha).2
  have hb := (List.mem_filter.1 (((sortF_perm _ _).mem_iff).1 hb)).2
  simp only [beq_iff_eq] at ha
  rw [ha]
  exact bl_ne hb
theorem ofF_len (os : List TimedT) : (ofF os).length ≤ os.length := by
  have h1 := outF_len (sortF ltB (allF os)) (sortF ltB (allF os)).length
  have h2 := List.length_filter_le cntB os
  rw [sortF_length] at h1
  unfold ofF
  rw [sortF_length]
  have : (allF os).length ≤ os.length := by unfold allF; rw [List.length_map]; exact h2
  omega
theorem c13_ofF {os : List TimedT} (h : Good os) (hl : os.length < 1000000) : Pure Try.prog 13 [.d (.sl (os.map TimedT.toD))] (.d (.sl ((ofF os).map StepT.toD))) := by
  have hlen := ofF_len os
  refine c13 os hl (aboveF os) (fun x => ((allF os).filter (fun s => ltS x s.name)).length) (ofF os) (above_nil h) (by omega) (fun x hx => ?_) fun x hx => above_step h hx
  unfold aboveF restS
  rw [next_none h hx]; rfl

/-! ### what comes out is valid -/
theorem dd_pw : ∀ {S : List StepT}, S.Pairwise (fun a b => ltB b a = false) → (dd S).Pairwise fun a b => ltN a b
  | [], _ => List.Pairwise.nil
  | s :: r, h => by
    rw [List.pairwise_cons] at h
    rw [dd]
    split
    · exact dd_pw h.2
    · rename_i ht
      refine List.pairwise_cons.2 ⟨fun b hb => ?_, dd_pw h.2⟩
      have hbr := dd_sub hb
      cases r with
      | nil => cases hbr
      | cons t r =>
        have h3 : ltN s t := by
          have h4 := h.1 t List.mem_cons_self
          have h5 : ¬ orderF s t = 0 := by
            intro e; apply ht; show (orderF s t == 0) = true; rw [e]; rfl
          apply Classical.byContradiction
          intro h6
          have h7 : ¬ ltN t s := fun q => by rw [ltB_iff.2 q] at h4; cases h4
          apply h5
          rw [order_zero]
          rcases bl_cases s.name t.name with ⟨p1, _⟩ | ⟨_, p2, _⟩ | ⟨_, _, p3⟩
          · exact absurd (.inl p1) h6
          · refine ⟨p2, ?_⟩
            have g1 : ¬ s.at_ < t.at_ := fun g => h6 (.inr ⟨p2, g⟩)
            have g2 : ¬ t.at_ < s.at_ := fun g => h7 (.inr ⟨p2.symm, g⟩)
            omega
          · exact absurd (.inl p3) h7
        rcases List.mem_cons.1 hbr with rfl | hbr
        · exact h3
        · have h8 := (List.pairwise_cons.1 h.2).1 b hbr
          apply Classical.byContradiction
          intro h9
          have h10 : ¬ ltN b t := fun q => by rw [ltB_iff.2 q] at h8; cases h8
          exact ltN_neg h9 h10 h3
/-- neighbours differ in name or value -/
def Chg (out : List StepT) : Prop := ∀ k, 0 < k → k < out.length → ((out.getD (k - 1) default).name == (out.getD k default).name && (out.getD (k - 1) default).value == (out.getD k default).value) = false
theorem chg_app {out : List StepT} {s : StepT} (h : Chg out) : Chg (app1 out s) := by
  unfold app1
  split
  · exact h
  · rename_i hq
    intro k hk hkl
    rw [List.length_append, List.length_cons, List.length_nil] at hkl
    by_cases e : k = out.length
    · subst e
      have e1 : (out ++ [s]).getD out.length default = s := by
        have := getD_app_r (x := out) (y := [s]) (n := 0)
        rw [Nat.add_zero] at this
        rw [this]; rfl
      rw [e1, getD_app_l (by omega)]
      unfold lastSame at hq
      rw [decide_eq_true hk, Bool.true_and] at hq
      simpa using hq
    · rw [getD_app_l (by omega), getD_app_l (by omega)]
      exact h k hk (by omega)
theorem chg_fold : ∀ {T out : List StepT}, Chg out → Chg (T.foldl app1 out)
  | [], out, h => h
  | s :: T, out, h => by rw [List.foldl_cons]; exact chg_fold (chg_app h)
theorem pw_fold : ∀ {T out : List StepT}, (out ++ T).Pairwise (fun a b => ltN a b) → (T.foldl app1 out).Pairwise fun a b => ltN a b
  | [], out, h => by simpa using h
  | s :: T, out, h => by
    rw [List.foldl_cons]
    refine pw_fold ?_
    unfold app1
    split
    · refine h.sublist ?_
      exact List.Sublist.append_left (List.sublist_cons_self s T) out
    · simpa using h
theorem ofF_check {os : List TimedT} (h : Good os) : checkF (ofF os) = 0 := by
  have hr : ofF os = run (sortF ltB (allF os)) := by unfold ofF; exact outF_run _
  have hpw : (ofF os).Pairwise fun a b => ltN a b := by
    rw [hr]
    refine pw_fold ?_
    rw [List.nil_append]
    exact dd_pw (sortF_pw ltB_neg ltB_asy)
  have hch : Chg (ofF os) := by
    rw [hr]
    exact chg_fold fun k h1 h2 => by simp at h2
  refine firstErr_all fun k hk => ?_
  have hm : (ofF os).getD k default ∈ ofF os := mem_getD hk
  have hmem : (ofF os).getD k default ∈ allF os := by
    rw [hr] at hm ⊢
    exact ((sortF_perm _ _).mem_iff).1 (run_sub hm)
  obtain ⟨n1, n2⟩ := all_name h _ hmem
  have hbad : badS ((ofF os).getD k default) = false := by
    obtain ⟨o, _, _, e⟩ := all_mem.1 hmem
    unfold badS
    rw [n2, ← e]
    have hb : 0 ≤ (stepOf o).at_ ∧ (stepOf o).at_ ≤ 1000000000000 := by
      show 0 ≤ timeF o ∧ timeF o ≤ 1000000000000
      unfold timeF; omega
    simp only [Bool.or_eq_false_iff, decide_eq_false_iff_not, Bool.not_true, and_true]
    omega
  rw [checkAt_o n1 hbad, if_neg]
  by_cases h0 : 0 < k
  · rw [decide_eq_true h0, Bool.true_and]
    have hlt : ltN ((ofF os).getD (k - 1) default) ((ofF os).getD k default) := by
      rw [List.pairwise_iff_getElem] at hpw
      have := hpw (k - 1) k (by omega) hk (by omega)
      simp only [List.getD_eq_getElem?_getD, List.getElem?_eq_getElem hk, List.getElem?_eq_getElem (show k - 1 < (ofF os).length by omega), Option.getD_some]
      exact this
    unfold ordS
    rw [hch k h0 hk, Bool.or_false, decide_eq_true_eq]
    have := (order_neg _ _).2 hlt
    omega
  · rw [decide_eq_false h0]; simp

/-! ### CounterFinds -/
theorem few_spec {os : List TimedT} (h : fewB os = true) : os.length ≤ 60 ∧ Good os := by
  unfold fewB at h
  simp only [Bool.and_eq_true, decide_eq_true_eq] at h
  exact ⟨h.1.1, good_of h.2⟩
theorem c3 (os : List TimedT) : Pure Try.prog 3 [.d (.sl (os.map TimedT.toD))] (.d (.bool true)) := by
  refine Pure.of1 ?_
  refine acalls_of Try.func3 rfl rfl (by simp [Try.ntmps3]) (evC_sound rfl _ _ _ _ ?_)
  simp only [Try.ntmps3, Try.results3, argEnv, List.length_nil]
  simp only [vcRules, dRules, bRules, tyRules, xRules, pickV_true, pickV_false, implies_true, Nat.reduceLT, Nat.reduceLeDiff, Nat.reduceEqDiff, Nat.reduceAdd, Nat.reduceSub, Nat.reduceMul, Int.reduceToNat, Int.reduceLT, Int.reduceLE, Int.reduceEq, Int.reduceAdd, Int.reduceSub, Int.reduceNeg, Int.reduceBEq, Int.reduceBNe, Int.reduceMul, Int.natCast_add, Int.natCast_one, reduceCtorEq, reduceIte, s_isAgg, s_cells, t_isAgg, t_cells, yRules]
  refine callF_pure (c9 os) ?_
  simp only [vcRules, dRules, bRules, tyRules, xRules, pickV_true, pickV_false, implies_true, Nat.reduceLT, Nat.reduceLeDiff, Nat.reduceEqDiff, Nat.reduceAdd, Nat.reduceSub, Nat.reduceMul, Int.reduceToNat, Int.reduceLT, Int.reduceLE, Int.reduceEq, Int.reduceAdd, Int.reduceSub, Int.reduceNeg, Int.reduceBEq, Int.reduceBNe, Int.reduceMul, Int.natCast_add, Int.natCast_one, reduceCtorEq, reduceIte, s_isAgg, s_cells, t_isAgg, t_cells, yRules]
  refine ifC.mk (fun h => ?_) (fun h => ?_)
  · refine callF_pure c10 ?_
    simp only [vcRules, dRules, bRules, tyRules, xRules, pickV_true, pickV_false, implies_true, Nat.reduceLT, Nat.reduceLeDiff, Nat.reduceEqDiff, Nat.reduceAdd, Nat.reduceSub, Nat.reduceMul, Int.reduceToNat, Int.reduceLT, Int.reduceLE, Int.reduceEq, Int.reduceAdd, Int.reduceSub, Int.reduceNeg, Int.reduceBEq, Int.reduceBNe, Int.reduceMul, Int.natCast_add, Int.natCast_one, reduceCtorEq, reduceIte, s_isAgg, s_cells, t_isAgg, t_cells, yRules]
    exact ⟨_, _, ret_d, rfl, rfl⟩
  · have h : fewB os = true := by simpa using h
    obtain ⟨h1, hg⟩ := few_spec h
    have hlen := ofF_len os
    refine callF_pure (c11 os (by omega)) ?_
    simp only [vcRules, dRules, bRules, tyRules, xRules, pickV_true, pickV_false, implies_true, Nat.reduceLT, Nat.reduceLeDiff, Nat.reduceEqDiff, Nat.reduceAdd, Nat.reduceSub, Nat.reduceMul, Int.reduceToNat, Int.reduceLT, Int.reduceLE, Int.reduceEq, Int.reduceAdd, Int.reduceSub, Int.reduceNeg, Int.reduceBEq, Int.reduceBNe, Int.reduceMul, Int.natCast_add, Int.natCast_one, reduceCtorEq, reduceIte, s_isAgg, s_cells, t_isAgg, t_cells, yRules]
    refine callF_pure (c13_ofF hg (by omega)) ?_
    simp only [vcRules, dRules, bRules, tyRules, xRules, pickV_true, pickV_false, implies_true, Nat.reduceLT, Nat.reduceLeDiff, Nat.reduceEqDiff, Nat.reduceAdd, Nat.reduceSub, Nat.reduceMul, Int.reduceToNat, Int.reduceLT, Int.reduceLE, Int.reduceEq, Int.reduceAdd, Int.reduceSub, Int.reduceNeg, Int.reduceBEq, Int.reduceBNe, Int.reduceMul, Int.natCast_add, Int.natCast_one, reduceCtorEq, reduceIte, s_isAgg, s_cells, t_isAgg, t_cells, yRules]
    refine callF_pure (c12 _ _ (by omega) (by omega)) ?_
    rw [decide_eq_true rfl]
    simp only [vcRules, dRules, bRules, tyRules, xRules, pickV_true, pickV_false, implies_true, Nat.reduceLT, Nat.reduceLeDiff, Nat.reduceEqDiff, Nat.reduceAdd, Nat.reduceSub, Nat.reduceMul, Int.reduceToNat, Int.reduceLT, Int.reduceLE, Int.reduceEq, Int.reduceAdd, Int.reduceSub, Int.reduceNeg, Int.reduceBEq, Int.reduceBNe, Int.reduceMul, Int.natCast_add, Int.natCast_one, reduceCtorEq, reduceIte, s_isAgg, s_cells, t_isAgg, t_cells, yRules]
    refine callG_pure (fun _ => c14 _ (by omega)) ?_
    rw [ofF_check hg]
    simp only [vcRules, dRules, bRules, tyRules, xRules, pickV_true, pickV_false, implies_true, Nat.reduceLT, Nat.reduceLeDiff, Nat.reduceEqDiff, Nat.reduceAdd, Nat.reduceSub, Nat.reduceMul, Int.reduceToNat, Int.reduceLT, Int.reduceLE, Int.reduceEq, Int.reduceAdd, Int.reduceSub, Int.reduceNeg, Int.reduceBEq, Int.reduceBNe, Int.reduceMul, Int.natCast_add, Int.natCast_one, reduceCtorEq, reduceIte, s_isAgg, s_cells, t_isAgg, t_cells, yRules]
    refine callG_pure (fun _ => c10) ?_
    simp only [vcRules, dRules, bRules, tyRules, xRules, pickV_true, pickV_false, implies_true, Nat.reduceLT, Nat.reduceLeDiff, Nat.reduceEqDiff, Nat.reduceAdd, Nat.reduceSub, Nat.reduceMul, Int.reduceToNat, Int.reduceLT, Int.reduceLE, Int.reduceEq, Int.reduceAdd, Int.reduceSub, Int.reduceNeg, Int.reduceBEq, Int.reduceBNe, Int.reduceMul, Int.natCast_add, Int.natCast_one, reduceCtorEq, reduceIte, s_isAgg, s_cells, t_isAgg, t_cells, yRules]
    exact ⟨_, _, ret_d, rfl, rfl⟩
theorem finds_main (xs : List D) (h : TypedAll Try.prog 5 Try.f3.params.toList xs) : ACalls Try.prog [] 3 (xs.map AV.d) [] (fun r _ => r = .d (.bool true)) := by
  rw [Try.params3] at h
  obtain ⟨x, _, rfl, h1, rfl⟩ := h
  obtain ⟨os, rfl, _⟩ := par22 h1
  exact (c3 os []).mono fun r s h => h.1
theorem counterFinds_lifted (os : Os) (started : os.Started) (H : Type) (enc : TypeId × Value → H) :
    ReturnsInHanded {} Try.checked os 3 .any (Rows.counterFindsSpec.pre6 enc Try.prog Try.f3 Rows.counterFindsRow.domain false) (Rows.counterFindsSpec.post enc Try.prog Try.f3 false true false false) := by
  refine returnsInHanded_of_change (C := Try.checked) own started (by kernel_rfl) Try.func3
    (ChangeSpec.witness6 (enc := enc) (C := Try.checked) false ⟨#[], #[.slice none 0 0], []⟩ 8 (by kernel_rfl) (by kernel_rfl) (by kernel_rfl) (by kernel_rfl)) ?_
  intro W base args ds gs before hval hW _ _
  exact law_contract (n := 5) (tb := 4) Try.func3 rfl rfl (by kernel_rfl) laidOut (by kernel_rfl) (by kernel_rfl) rfl
    (fun H ds h => by
      match ds, h with
      | [d1], _ => rfl) finds_main W base args ds gs before hval hW
theorem counterFinds_holds : Rows.CounterFindsSaid :=
  OpenClaim.holds_of_wide 3 Try.f3 rfl rfl rfl rfl rfl rfl rfl ⟨rfl, rfl, rfl, rfl, rfl⟩ rfl rfl rfl rfl rfl (by kernel_rfl) Try.func3 (by kernel_rfl)
    (of_decide_eq_true (by kernel_rfl)) (by unfold Func.isWrapper; first | (rw [if_pos (by decide +kernel)]; kernel_rfl) | (rw [if_neg (by decide +kernel)]; exact ⟨rfl, rfl⟩))
    (fun os started H enc _ => counterFinds_lifted os started H enc)
end Ytlelaieadgkemaa
end Go.Proofs
