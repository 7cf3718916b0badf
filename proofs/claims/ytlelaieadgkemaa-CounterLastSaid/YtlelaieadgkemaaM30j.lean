/- A part of the proof: contracts of functions of this seat, and lemmas. No condition beyond those stated. -/
import Derived.Test.YtlelaieadgkemaaM30i
import Derived.Test.YtlelaieadgkemaaG5
import Derived.Test.YtlelaieadgkemaaRows
import Derived.OpenShut
import Derived.WalkKit
set_option linter.unusedVariables false
set_option linter.unusedSimpArgs false
set_option linter.unusedSectionVars false
set_option linter.unnecessarySimpa false
set_option linter.unusedSimpArgs false
set_option linter.unusedVariables false
set_option maxRecDepth 100000
namespace Go.Proofs
open Go.AM Go.ChangeShapes Go.WideShapes Go.ChangeAt Go.RowKit
namespace Ytlelaieadgkemaa

theorem own : ownKnob Try.prog.godebug = none := by kernel_rfl
theorem laidOut : laidOutB Try.prog = true := by kernel_rfl
theorem step_of {x : D} (h : ConfL [.str, .int .i64, .int .i64] x.cells) (hg : x.isAgg = true) : ∃ b : StepT, x = b.toD := by
  obtain ⟨_, _, e1, ⟨a1, rfl, _⟩, _, _, rfl, ⟨a2, rfl, _⟩, _, _, rfl, ⟨a3, rfl, _⟩, rfl⟩ := h
  exact ⟨⟨a1, a2, a3⟩, agg_of hg e1⟩
theorem timed_of {x : D} (h : ConfL [.int .i64, .int .i64, .int .i64, .int .i64, .str, .int .i64, .int .i64, .sl [.str] false, .int .i64, .int .i64] x.cells) (hg : x.isAgg = true) : ∃ b : TimedT, x = b.toD := by
  obtain ⟨_, _, e1, ⟨a1, rfl, _⟩, _, _, rfl, ⟨a2, rfl, _⟩, _, _, rfl, ⟨a3, rfl, _⟩, _, _, rfl, ⟨a4, rfl, _⟩, _, _, rfl, ⟨a5, rfl, _⟩, _, _, rfl, ⟨a6, rfl, _⟩, _, _, rfl, ⟨a7, rfl, _⟩, _, _, rfl, ⟨xs, rfl, _, hx⟩, _, _, rfl, ⟨a8, rfl, _⟩, _, _, rfl, ⟨a9, rfl, _⟩, rfl⟩ := h
  obtain ⟨l, rfl⟩ := strs_of hx
  exact ⟨⟨a1, a2, a3, a4, a5, a6, a7, l, a8, a9⟩, agg_of hg e1⟩
theorem span_of {x : D} (h : ConfL [.int .i64, .int .i64] x.cells) (hg : x.isAgg = true) : ∃ f t : Int, x = wD f t := by
  obtain ⟨_, _, e1, ⟨a1, rfl, _⟩, _, _, rfl, ⟨a2, rfl, _⟩, rfl⟩ := h
  exact ⟨a1, a2, agg_of hg e1⟩
theorem par22 {x : D} (h : TypedV Try.prog 5 22 x) : ∃ os : List TimedT, x = .sl (os.map TimedT.toD) ∧ os.length ≤ maxLen := by
  obtain ⟨xs, rfl, hl, hx⟩ := param1_of h (c := .sl [.int .i64, .int .i64, .int .i64, .int .i64, .str, .int .i64, .int .i64, .sl [.str] false, .int .i64, .int .i64] true) (by kernel_rfl) (by kernel_rfl)
  obtain ⟨l, rfl⟩ := list_of fun y hy => timed_of (hx y hy).1 (hx y hy).2
  exact ⟨l, rfl, by simpa using hl⟩
theorem par25 {x : D} (h : TypedV Try.prog 5 25 x) : ∃ os : List StepT, x = .sl (os.map StepT.toD) ∧ os.length ≤ maxLen := by
  obtain ⟨xs, rfl, hl, hx⟩ := param1_of h (c := .sl [.str, .int .i64, .int .i64] true) (by kernel_rfl) (by kernel_rfl)
  obtain ⟨l, rfl⟩ := list_of fun y hy => step_of (hx y hy).1 (hx y hy).2
  exact ⟨l, rfl, by simpa using hl⟩
theorem par9 {x : D} (h : TypedV Try.prog 5 9 x) : ∃ s : List UInt8, x = .str s := by
  obtain ⟨s, rfl, _⟩ := param1_of h (c := .str) (by kernel_rfl) (by kernel_rfl)
  exact ⟨s, rfl⟩
theorem par3 {x : D} (h : TypedV Try.prog 5 3 x) : ∃ e : Int, x = .int .i64 e ∧ (Lit.int .i64 e).wf = true := param1_of h (c := .int .i64) (by kernel_rfl) (by kernel_rfl)
theorem par50 {x : D} (h : TypedV Try.prog 5 50 x) : ∃ f t : Int, x = wD f t := by
  obtain ⟨h1, h2⟩ := param_of h (cs := [.int .i64, .int .i64]) (g := true) (by kernel_rfl) (by kernel_rfl)
  exact span_of h1 h2

/-! ### what valid steps are -/
theorem check_spec {l : List StepT} (h : checkF l = 0) {k : Nat} (hk : k < l.length) : badS (l.getD k default) = false ∧ (0 < k → ltN (l.getD (k - 1) default) (l.getD k default)) := by
  have h0 := firstErr_zero h k hk
  unfold checkAt at h0
  split at h0
  · omega
  · split at h0
    · omega
    · rename_i h2
      split at h0
      · omega
      · rename_i h3
        refine ⟨by simpa using h2, fun hk0 => ?_⟩
        simp only [decide_eq_true hk0, Bool.true_and, Bool.not_eq_true] at h3
        unfold ordS at h3
        simp only [Bool.or_eq_false_iff, decide_eq_false_iff_not] at h3
        exact (order_neg _ _).1 (by omega)
theorem check_in {l : List StepT} (h : checkF l = 0) : ∀ b ∈ l, inB b.value = true := fun b hb => by
  obtain ⟨k, hk⟩ := List.getElem?_of_mem hb
  have hkl : k < l.length := by
    rcases Nat.lt_or_ge k l.length with h' | h'
    · exact h'
    · rw [List.getElem?_eq_none h'] at hk; cases hk
  have := (check_spec h hkl).1
  rw [List.getD_eq_getElem?_getD, hk] at this
  unfold badS at this
  simp only [Bool.or_eq_false_iff, Bool.not_eq_false'] at this
  exact this.2
theorem check_lt {l : List StepT} (h : checkF l = 0) {j : Nat} : ∀ {k : Nat}, j < k → k < l.length → ltN (l.getD j default) (l.getD k default)
  | 0, h1, _ => by omega
  | k + 1, h1, h2 => by
    have h3 := (check_spec h h2).2 (by omega)
    simp only [Nat.add_sub_cancel] at h3
    by_cases e : j = k
    · subst e; exact h3
    · exact ltN_trans (check_lt h (j := j) (k := k) (by omega) (by omega)) h3

/-! ### CounterChecks -/
theorem c5 (l : List StepT) : Pure Try.prog 5 [.d (.sl (l.map StepT.toD))] (.d (.bool true)) := by
  refine Pure.of1 ?_
  refine acalls_of Try.func5 rfl rfl (by simp [Try.ntmps5]) (evC_sound rfl _ _ _ _ ?_)
  simp only [Try.ntmps5, Try.results5, argEnv, List.length_nil]
  simp only [vcRules, dRules, bRules, tyRules, xRules, pickV_true, pickV_false, implies_true, Nat.reduceLT, Nat.reduceLeDiff, Nat.reduceEqDiff, Nat.reduceAdd, Nat.reduceSub, Nat.reduceMul, Int.reduceToNat, Int.reduceLT, Int.reduceLE, Int.reduceEq, Int.reduceAdd, Int.reduceSub, Int.reduceNeg, Int.reduceBEq, Int.reduceBNe, Int.reduceMul, Int.natCast_add, Int.natCast_one, reduceCtorEq, reduceIte, s_isAgg, s_cells, t_isAgg, t_cells, yRules]
  refine ifC.mk (fun h => ?_) (fun h => ?_)
  · refine callF_pure c10 ?_
    simp only [vcRules, dRules, bRules, tyRules, xRules, pickV_true, pickV_false, implies_true, Nat.reduceLT, Nat.reduceLeDiff, Nat.reduceEqDiff, Nat.reduceAdd, Nat.reduceSub, Nat.reduceMul, Int.reduceToNat, Int.reduceLT, Int.reduceLE, Int.reduceEq, Int.reduceAdd, Int.reduceSub, Int.reduceNeg, Int.reduceBEq, Int.reduceBNe, Int.reduceMul, Int.natCast_add, Int.natCast_one, reduceCtorEq, reduceIte, s_isAgg, s_cells, t_isAgg, t_cells, yRules]
    exact ⟨_, _, ret_d, rfl, rfl⟩
  · have h : l.length ≤ 60 := by simp at h; omega
    refine callF_pure (c14 l (by omega)) ?_
    simp only [vcRules, dRules, bRules, tyRules, xRules, pickV_true, pickV_false, implies_true, Nat.reduceLT, Nat.reduceLeDiff, Nat.reduceEqDiff, Nat.reduceAdd, Nat.reduceSub, Nat.reduceMul, Int.reduceToNat, Int.reduceLT, Int.reduceLE, Int.reduceEq, Int.reduceAdd, Int.reduceSub, Int.reduceNeg, Int.reduceBEq, Int.reduceBNe, Int.reduceMul, Int.natCast_add, Int.natCast_one, reduceCtorEq, reduceIte, s_isAgg, s_cells, t_isAgg, t_cells, yRules]
    refine callF_pure (c16 l (by omega)) ?_
    simp only [vcRules, dRules, bRules, tyRules, xRules, pickV_true, pickV_false, implies_true, Nat.reduceLT, Nat.reduceLeDiff, Nat.reduceEqDiff, Nat.reduceAdd, Nat.reduceSub, Nat.reduceMul, Int.reduceToNat, Int.reduceLT, Int.reduceLE, Int.reduceEq, Int.reduceAdd, Int.reduceSub, Int.reduceNeg, Int.reduceBEq, Int.reduceBNe, Int.reduceMul, Int.natCast_add, Int.natCast_one, reduceCtorEq, reduceIte, s_isAgg, s_cells, t_isAgg, t_cells, yRules, beq_self_eq_true]
    refine callG_pure (fun _ => c10) ?_
    simp only [vcRules, dRules, bRules, tyRules, xRules, pickV_true, pickV_false, implies_true, Nat.reduceLT, Nat.reduceLeDiff, Nat.reduceEqDiff, Nat.reduceAdd, Nat.reduceSub, Nat.reduceMul, Int.reduceToNat, Int.reduceLT, Int.reduceLE, Int.reduceEq, Int.reduceAdd, Int.reduceSub, Int.reduceNeg, Int.reduceBEq, Int.reduceBNe, Int.reduceMul, Int.natCast_add, Int.natCast_one, reduceCtorEq, reduceIte, s_isAgg, s_cells, t_isAgg, t_cells, yRules]
    exact ⟨_, _, ret_d, rfl, rfl⟩
theorem checks_main (xs : List D) (h : TypedAll Try.prog 5 Try.f5.params.toList xs) : ACalls Try.prog [] 5 (xs.map AV.d) [] (fun r _ => r = .d (.bool true)) := by
  rw [Try.params5] at h
  obtain ⟨x, _, rfl, h1, rfl⟩ := h
  obtain ⟨os, rfl, _⟩ := par25 h1
  exact (c5 os []).mono fun r s h => h.1
theorem counterChecks_lifted (os : Os) (started : os.Started) (H : Type) (enc : TypeId × Value → H) :
    ReturnsInHanded {} Try.checked os 5 .any (Rows.counterChecksSpec.pre6 enc Try.prog Try.f5 Rows.counterChecksRow.domain false) (Rows.counterChecksSpec.post enc Try.prog Try.f5 false true false false) := by
  refine returnsInHanded_of_change (C := Try.checked) own started (by kernel_rfl) Try.func5
    (ChangeSpec.witness6 (enc := enc) (C := Try.checked) false ⟨#[], #[.slice none 0 0], []⟩ 8 (by kernel_rfl) (by kernel_rfl) (by kernel_rfl) (by kernel_rfl)) ?_
  intro W base args ds gs before hval hW _ _
  exact law_contract (n := 5) (tb := 4) Try.func5 rfl rfl (by kernel_rfl) laidOut (by kernel_rfl) (by kernel_rfl) rfl
    (fun H ds h => by
      match ds, h with
      | [d1], _ => rfl) checks_main W base args ds gs before hval hW
theorem counterChecks_holds : Rows.CounterChecksSaid :=
  OpenClaim.holds_of_wide 5 Try.f5 rfl rfl rfl rfl rfl rfl rfl ⟨rfl, rfl, rfl, rfl, rfl⟩ rfl rfl rfl rfl rfl (by kernel_rfl) Try.func5 (by kernel_rfl)
    (of_decide_eq_true (by kernel_rfl)) (by unfold Func.isWrapper; first | (rw [if_pos (by decide +kernel)]; kernel_rfl) | (rw [if_neg (by decide +kernel)]; exact ⟨rfl, rfl⟩))
    (fun os started H enc _ => counterChecks_lifted os started H enc)

/-! ### CounterLooks -/
theorem peak_ge (l : List StepT) (name : List UInt8) : ∀ k j, j < k → (l.getD j default).name = name → (peakF l name k).2 = true ∧ (l.getD j default).value ≤ (peakF l name k).1.value
  | 0, j, h, _ => by omega
  | k + 1, j, h, hn => by
    rw [peakF]
    by_cases hm : moreB (l.getD k default) name (peakF l name k) = true
    · rw [if_pos hm]
      refine ⟨rfl, ?_⟩
      by_cases e : j = k
      · subst e; exact Int.le_refl _
      · obtain ⟨h1, h2⟩ := peak_ge l name k j (by omega) hn
        unfold moreB at hm
        rw [h1] at hm
        simp only [Bool.not_true, Bool.false_or, Bool.and_eq_true, decide_eq_true_eq] at hm
        simp only
        omega
    · rw [if_neg hm]
      by_cases e : j = k
      · subst e
        unfold moreB at hm
        rw [hn] at hm
        simp only [BEq.rfl, Bool.true_and, Bool.or_eq_true, Bool.not_eq_true', decide_eq_true_eq, not_or, Bool.not_eq_false, Int.not_lt] at hm
        exact hm
      · exact peak_ge l name k j (by omega) hn
theorem at_some (l : List StepT) (name : List UInt8) (t : Int) : ∀ k, (atF l name t k).2 = true → ∃ j, j < k ∧ (l.getD j default).name = name ∧ (atF l name t k).1 = (l.getD j default).value
  | 0, h => by cases h
  | k + 1, h => by
    unfold atF at h ⊢
    by_cases hb : atB (l.getD k default) name t = true
    · rw [if_pos hb]
      refine ⟨k, by omega, ?_, rfl⟩
      unfold atB at hb
      simp only [Bool.and_eq_true, beq_iff_eq] at hb
      exact hb.1
    · rw [if_neg hb] at h ⊢
      obtain ⟨j, h1, h2⟩ := at_some l name t k h
      exact ⟨j, by omega, h2⟩
theorem look_law (l : List StepT) (name : List UInt8) (t : Int) : (!(atF l name t l.length).2 || ((peakF l name l.length).2 && decide ((atF l name t l.length).1 ≤ (peakF l name l.length).1.value))) = true := by
  cases h : (atF l name t l.length).2 with
  | false => rfl
  | true =>
    obtain ⟨j, h1, h2, h3⟩ := at_some l name t l.length h
    obtain ⟨h4, h5⟩ := peak_ge l name l.length j h1 h2
    rw [h4, h3, decide_eq_true h5]; rfl
theorem c6 (l : List StepT) (name : List UInt8) (t : Int) : Pure Try.prog 6 [.d (.sl (l.map StepT.toD)), .d (.str name), .d (.int .i64 t)] (.d (.bool true)) := by
  refine Pure.of3 ?_
  refine acalls_of Try.func6 rfl rfl (by simp [Try.ntmps6]) (evC_sound rfl _ _ _ _ ?_)
  simp only [Try.ntmps6, Try.results6, argEnv, List.length_nil]
  simp only [vcRules, dRules, bRules, tyRules, xRules, pickV_true, pickV_false, implies_true, Nat.reduceLT, Nat.reduceLeDiff, Nat.reduceEqDiff, Nat.reduceAdd, Nat.reduceSub, Nat.reduceMul, Int.reduceToNat, Int.reduceLT, Int.reduceLE, Int.reduceEq, Int.reduceAdd, Int.reduceSub, Int.reduceNeg, Int.reduceBEq, Int.reduceBNe, Int.reduceMul, Int.natCast_add, Int.natCast_one, reduceCtorEq, reduceIte, s_isAgg, s_cells, t_isAgg, t_cells, yRules]
  refine callG_pure (v := .d (.int .i64 (checkF l))) (fun hg => ?_) ?_
  · have hg : l.length ≤ 60 := by simp at hg; omega
    exact c16 l (by omega)
  simp only [vcRules, dRules, bRules, tyRules, xRules, pickV_true, pickV_false, implies_true, Nat.reduceLT, Nat.reduceLeDiff, Nat.reduceEqDiff, Nat.reduceAdd, Nat.reduceSub, Nat.reduceMul, Int.reduceToNat, Int.reduceLT, Int.reduceLE, Int.reduceEq, Int.reduceAdd, Int.reduceSub, Int.reduceNeg, Int.reduceBEq, Int.reduceBNe, Int.reduceMul, Int.natCast_add, Int.natCast_one, reduceCtorEq, reduceIte, s_isAgg, s_cells, t_isAgg, t_cells, yRules]
  repeat ((with_reducible refine And.intro ?_ ?_); (focus (first | omega | (simp only [List.length_take, List.length_drop, List.length_map, List.length_append, List.length_cons]; omega) | (intros; simp_all; done) | (refine (show drawChk _ = true from ?_); kernel_rfl))))
  refine ifC.mk (fun h => ?_) (fun h => ?_)
  · refine callF_pure c10 ?_
    simp only [vcRules, dRules, bRules, tyRules, xRules, pickV_true, pickV_false, implies_true, Nat.reduceLT, Nat.reduceLeDiff, Nat.reduceEqDiff, Nat.reduceAdd, Nat.reduceSub, Nat.reduceMul, Int.reduceToNat, Int.reduceLT, Int.reduceLE, Int.reduceEq, Int.reduceAdd, Int.reduceSub, Int.reduceNeg, Int.reduceBEq, Int.reduceBNe, Int.reduceMul, Int.natCast_add, Int.natCast_one, reduceCtorEq, reduceIte, s_isAgg, s_cells, t_isAgg, t_cells, yRules]
    exact ⟨_, _, ret_d, rfl, rfl⟩
  · simp only [Bool.or_eq_false_iff, decide_eq_false_iff_not, bne_eq_false_iff_eq] at h
    have hl : l.length ≤ 60 := by omega
    refine callF_pure (c15 l name t (by omega)) ?_
    simp only [vcRules, dRules, bRules, tyRules, xRules, pickV_true, pickV_false, implies_true, Nat.reduceLT, Nat.reduceLeDiff, Nat.reduceEqDiff, Nat.reduceAdd, Nat.reduceSub, Nat.reduceMul, Int.reduceToNat, Int.reduceLT, Int.reduceLE, Int.reduceEq, Int.reduceAdd, Int.reduceSub, Int.reduceNeg, Int.reduceBEq, Int.reduceBNe, Int.reduceMul, Int.natCast_add, Int.natCast_one, reduceCtorEq, reduceIte, s_isAgg, s_cells, t_isAgg, t_cells, yRules]
    repeat ((with_reducible refine And.intro ?_ ?_); (focus (first | omega | (simp only [List.length_take, List.length_drop, List.length_map, List.length_append, List.length_cons]; omega) | (intros; simp_all; done) | (refine (show drawChk _ = true from ?_); kernel_rfl))))
    refine callF_pure (c17 l name t (by omega)) ?_
    simp only [vcRules, dRules, bRules, tyRules, xRules, pickV_true, pickV_false, implies_true, Nat.reduceLT, Nat.reduceLeDiff, Nat.reduceEqDiff, Nat.reduceAdd, Nat.reduceSub, Nat.reduceMul, Int.reduceToNat, Int.reduceLT, Int.reduceLE, Int.reduceEq, Int.reduceAdd, Int.reduceSub, Int.reduceNeg, Int.reduceBEq, Int.reduceBNe, Int.reduceMul, Int.natCast_add, Int.natCast_one, reduceCtorEq, reduceIte, s_isAgg, s_cells, t_isAgg, t_cells, yRules]
    repeat ((with_reducible refine And.intro ?_ ?_); (focus (first | omega | (simp only [List.length_take, List.length_drop, List.length_map, List.length_append, List.length_cons]; omega) | (intros; simp_all; done) | (refine (show drawChk _ = true from ?_); kernel_rfl))))
    refine callF_pure (c18 l name (by omega)) ?_
    simp only [vcRules, dRules, bRules, tyRules, xRules, pickV_true, pickV_false, implies_true, Nat.reduceLT, Nat.reduceLeDiff, Nat.reduceEqDiff, Nat.reduceAdd, Nat.reduceSub, Nat.reduceMul, Int.reduceToNat, Int.reduceLT, Int.reduceLE, Int.reduceEq, Int.reduceAdd, Int.reduceSub, Int.reduceNeg, Int.reduceBEq, Int.reduceBNe, Int.reduceMul, Int.natCast_add, Int.natCast_one, reduceCtorEq, reduceIte, s_isAgg, s_cells, t_isAgg, t_cells, yRules]
    repeat ((with_reducible refine And.intro ?_ ?_); (focus (first | omega | (simp only [List.length_take, List.length_drop, List.length_map, List.length_append, List.length_cons]; omega) | (intros; simp_all; done) | (refine (show drawChk _ = true from ?_); kernel_rfl))))
    refine callF_pure (c19 l name (by omega)) ?_
    have lw := look_law l name t
    obtain ⟨p, hp⟩ : ∃ p, p = (peakF l name l.length).1 := ⟨_, rfl⟩
    rw [← hp] at lw ⊢
    simp only [vcRules, dRules, bRules, tyRules, xRules, pickV_true, pickV_false, implies_true, Nat.reduceLT, Nat.reduceLeDiff, Nat.reduceEqDiff, Nat.reduceAdd, Nat.reduceSub, Nat.reduceMul, Int.reduceToNat, Int.reduceLT, Int.reduceLE, Int.reduceEq, Int.reduceAdd, Int.reduceSub, Int.reduceNeg, Int.reduceBEq, Int.reduceBNe, Int.reduceMul, Int.natCast_add, Int.natCast_one, reduceCtorEq, reduceIte, s_isAgg, s_cells, t_isAgg, t_cells, yRules, StepT.toD, beq_self_eq_true, bne_self_eq_false]
    repeat ((with_reducible refine And.intro ?_ ?_); (focus (first | omega | (simp only [List.length_take, List.length_drop, List.length_map, List.length_append, List.length_cons]; omega) | (intros; simp_all; done) | (refine (show drawChk _ = true from ?_); kernel_rfl))))
    rw [lw]
    refine callG_pure (fun _ => c10) ?_
    simp only [vcRules, dRules, bRules, tyRules, xRules, pickV_true, pickV_false, implies_true, Nat.reduceLT, Nat.reduceLeDiff, Nat.reduceEqDiff, Nat.reduceAdd, Nat.reduceSub, Nat.reduceMul, Int.reduceToNat, Int.reduceLT, Int.reduceLE, Int.reduceEq, Int.reduceAdd, Int.reduceSub, Int.reduceNeg, Int.reduceBEq, Int.reduceBNe, Int.reduceMul, Int.natCast_add, Int.natCast_one, reduceCtorEq, reduceIte, s_isAgg, s_cells, t_isAgg, t_cells, yRules]
    exact ⟨_, _, ret_d, rfl, rfl⟩
theorem looks_main (xs : List D) (h : TypedAll Try.prog 5 Try.f6.params.toList xs) : ACalls Try.prog [] 6 (xs.map AV.d) [] (fun r _ => r = .d (.bool true)) := by
  rw [Try.params6] at h
  obtain ⟨x, _, rfl, h1, y, _, rfl, h2, z, _, rfl, h3, rfl⟩ := h
  obtain ⟨l, rfl, _⟩ := par25 h1
  obtain ⟨n, rfl⟩ := par9 h2
  obtain ⟨t, rfl, _⟩ := par3 h3
  exact (c6 l n t []).mono fun r s h => h.1
theorem counterLooks_lifted (os : Os) (started : os.Started) (H : Type) (enc : TypeId × Value → H) :
    ReturnsInHanded {} Try.checked os 6 .any (Rows.counterLooksSpec.pre6 enc Try.prog Try.f6 Rows.counterLooksRow.domain false) (Rows.counterLooksSpec.post enc Try.prog Try.f6 false true false false) := by
  refine returnsInHanded_of_change (C := Try.checked) own started (by kernel_rfl) Try.func6
    (ChangeSpec.witness6 (enc := enc) (C := Try.checked) false ⟨#[], #[.slice none 0 0, .string ⟨#[]⟩, .int .i64 0], []⟩ 8 (by kernel_rfl) (by kernel_rfl) (by kernel_rfl) (by kernel_rfl)) ?_
  intro W base args ds gs before hval hW _ _
  exact law_contract (n := 5) (tb := 4) Try.func6 rfl rfl (by kernel_rfl) laidOut (by kernel_rfl) (by kernel_rfl) rfl
    (fun H ds h => by
      match ds, h with
      | [d1, d2, d3], _ => rfl) looks_main W base args ds gs before hval hW
theorem counterLooks_holds : Rows.CounterLooksSaid :=
  OpenClaim.holds_of_wide 6 Try.f6 rfl rfl rfl rfl rfl rfl rfl ⟨rfl, rfl, rfl, rfl, rfl⟩ rfl rfl rfl rfl rfl (by kernel_rfl) Try.func6 (by kernel_rfl)
    (of_decide_eq_true (by kernel_rfl)) (by unfold Func.isWrapper; first | (rw [if_pos (by decide +kernel)]; kernel_rfl) | (rw [if_neg (by decide +kernel)]; exact ⟨rfl, rfl⟩))
    (fun os started H enc _ => counterLooks_lifted os started H enc)

/-! ### CounterSums -/
theorem c7 (l : List StepT) (name : List UInt8) (f t : Int) : Pure Try.prog 7 [.d (.sl (l.map StepT.toD)), .d (.str name), .d (wD f t)] (.d (.bool true)) := by
  refine Pure.of3 ?_
  refine acalls_of Try.func7 rfl rfl (by simp [Try.ntmps7]) (evC_sound rfl _ _ _ _ ?_)
  simp only [Try.ntmps7, Try.results7, argEnv, List.length_nil]
  simp only [vcRules, dRules, bRules, tyRules, xRules, pickV_true, pickV_false, implies_true, Nat.reduceLT, Nat.reduceLeDiff, Nat.reduceEqDiff, Nat.reduceAdd, Nat.reduceSub, Nat.reduceMul, Int.reduceToNat, Int.reduceLT, Int.reduceLE, Int.reduceEq, Int.reduceAdd, Int.reduceSub, Int.reduceNeg, Int.reduceBEq, Int.reduceBNe, Int.reduceMul, Int.natCast_add, Int.natCast_one, reduceCtorEq, reduceIte, s_isAgg, s_cells, t_isAgg, t_cells, yRules]
  refine callG_pure (v := .d (.int .i64 (checkF l))) (fun hg => ?_) ?_
  · have hg : l.length ≤ 60 := by simp at hg; omega
    exact c16 l (by omega)
  simp only [vcRules, dRules, bRules, tyRules, xRules, pickV_true, pickV_false, implies_true, Nat.reduceLT, Nat.reduceLeDiff, Nat.reduceEqDiff, Nat.reduceAdd, Nat.reduceSub, Nat.reduceMul, Int.reduceToNat, Int.reduceLT, Int.reduceLE, Int.reduceEq, Int.reduceAdd, Int.reduceSub, Int.reduceNeg, Int.reduceBEq, Int.reduceBNe, Int.reduceMul, Int.natCast_add, Int.natCast_one, reduceCtorEq, reduceIte, s_isAgg, s_cells, t_isAgg, t_cells, yRules]
  repeat ((with_reducible refine And.intro ?_ ?_); (focus (first | omega | (simp only [List.length_take, List.length_drop, List.length_map, List.length_append, List.length_cons]; omega) | (intros; simp_all; done) | (refine (show drawChk _ = true from ?_); kernel_rfl))))
  refine ifC.mk (fun h => ?_) (fun h => ?_)
  · refine callF_pure c10 ?_
    simp only [vcRules, dRules, bRules, tyRules, xRules, pickV_true, pickV_false, implies_true, Nat.reduceLT, Nat.reduceLeDiff, Nat.reduceEqDiff, Nat.reduceAdd, Nat.reduceSub, Nat.reduceMul, Int.reduceToNat, Int.reduceLT, Int.reduceLE, Int.reduceEq, Int.reduceAdd, Int.reduceSub, Int.reduceNeg, Int.reduceBEq, Int.reduceBNe, Int.reduceMul, Int.natCast_add, Int.natCast_one, reduceCtorEq, reduceIte, s_isAgg, s_cells, t_isAgg, t_cells, yRules]
    exact ⟨_, _, ret_d, rfl, rfl⟩
  · simp only [Bool.or_eq_false_iff, decide_eq_false_iff_not, bne_eq_false_iff_eq] at h
    have hl : l.length ≤ 60 := by omega
    have hv := check_in h.2
    (try simp only [vcRules, dRules, bRules, tyRules, xRules, pickV_true, pickV_false, implies_true, Nat.reduceLT, Nat.reduceLeDiff, Nat.reduceEqDiff, Nat.reduceAdd, Nat.reduceSub, Nat.reduceMul, Int.reduceToNat, Int.reduceLT, Int.reduceLE, Int.reduceEq, Int.reduceAdd, Int.reduceSub, Int.reduceNeg, Int.reduceBEq, Int.reduceBNe, Int.reduceMul, Int.natCast_add, Int.natCast_one, reduceCtorEq, reduceIte, s_isAgg, s_cells, t_isAgg, t_cells, yRules, w_isAgg, w_cells])
    refine callF_pure (c20 l name f t hl hv) ?_
    simp only [vcRules, dRules, bRules, tyRules, xRules, pickV_true, pickV_false, implies_true, Nat.reduceLT, Nat.reduceLeDiff, Nat.reduceEqDiff, Nat.reduceAdd, Nat.reduceSub, Nat.reduceMul, Int.reduceToNat, Int.reduceLT, Int.reduceLE, Int.reduceEq, Int.reduceAdd, Int.reduceSub, Int.reduceNeg, Int.reduceBEq, Int.reduceBNe, Int.reduceMul, Int.natCast_add, Int.natCast_one, reduceCtorEq, reduceIte, s_isAgg, s_cells, t_isAgg, t_cells, yRules, w_isAgg, w_cells]
    repeat ((with_reducible refine And.intro ?_ ?_); (focus (first | omega | (simp only [List.length_take, List.length_drop, List.length_map, List.length_append, List.length_cons]; omega) | (intros; simp_all; done) | (refine (show drawChk _ = true from ?_); kernel_rfl))))
    refine callF_pure (c21 l name f t hl hv) ?_
    simp only [vcRules, dRules, bRules, tyRules, xRules, pickV_true, pickV_false, implies_true, Nat.reduceLT, Nat.reduceLeDiff, Nat.reduceEqDiff, Nat.reduceAdd, Nat.reduceSub, Nat.reduceMul, Int.reduceToNat, Int.reduceLT, Int.reduceLE, Int.reduceEq, Int.reduceAdd, Int.reduceSub, Int.reduceNeg, Int.reduceBEq, Int.reduceBNe, Int.reduceMul, Int.natCast_add, Int.natCast_one, reduceCtorEq, reduceIte, s_isAgg, s_cells, t_isAgg, t_cells, yRules, beq_self_eq_true]
    repeat ((with_reducible refine And.intro ?_ ?_); (focus (first | omega | (simp only [List.length_take, List.length_drop, List.length_map, List.length_append, List.length_cons]; omega) | (intros; simp_all; done) | (refine (show drawChk _ = true from ?_); kernel_rfl))))
    refine callG_pure (fun _ => c10) ?_
    simp only [vcRules, dRules, bRules, tyRules, xRules, pickV_true, pickV_false, implies_true, Nat.reduceLT, Nat.reduceLeDiff, Nat.reduceEqDiff, Nat.reduceAdd, Nat.reduceSub, Nat.reduceMul, Int.reduceToNat, Int.reduceLT, Int.reduceLE, Int.reduceEq, Int.reduceAdd, Int.reduceSub, Int.reduceNeg, Int.reduceBEq, Int.reduceBNe, Int.reduceMul, Int.natCast_add, Int.natCast_one, reduceCtorEq, reduceIte, s_isAgg, s_cells, t_isAgg, t_cells, yRules]
    exact ⟨_, _, ret_d, rfl, rfl⟩
theorem sums_main (xs : List D) (h : TypedAll Try.prog 5 Try.f7.params.toList xs) : ACalls Try.prog [] 7 (xs.map AV.d) [] (fun r _ => r = .d (.bool true)) := by
  rw [Try.params7] at h
  obtain ⟨x, _, rfl, h1, y, _, rfl, h2, z, _, rfl, h3, rfl⟩ := h
  obtain ⟨l, rfl, _⟩ := par25 h1
  obtain ⟨n, rfl⟩ := par9 h2
  obtain ⟨f, t, rfl⟩ := par50 h3
  exact (c7 l n f t []).mono fun r s h => h.1
theorem counterSums_lifted (os : Os) (started : os.Started) (H : Type) (enc : TypeId × Value → H) :
    ReturnsInHanded {} Try.checked os 7 .any (Rows.counterSumsSpec.pre6 enc Try.prog Try.f7 Rows.counterSumsRow.domain false) (Rows.counterSumsSpec.post enc Try.prog Try.f7 false true false false) := by
  refine returnsInHanded_of_change (C := Try.checked) own started (by kernel_rfl) Try.func7
    (ChangeSpec.witness6 (enc := enc) (C := Try.checked) false ⟨#[], #[.slice none 0 0, .string ⟨#[]⟩, .agg #[.int .i64 0, .int .i64 0]], []⟩ 8 (by kernel_rfl) (by kernel_rfl) (by kernel_rfl) (by kernel_rfl)) ?_
  intro W base args ds gs before hval hW _ _
  exact law_contract (n := 5) (tb := 4) Try.func7 rfl rfl (by kernel_rfl) laidOut (by kernel_rfl) (by kernel_rfl) rfl
    (fun H ds h => by
      match ds, h with
      | [d1, d2, d3], _ => rfl) sums_main W base args ds gs before hval hW
theorem counterSums_holds : Rows.CounterSumsSaid :=
  OpenClaim.holds_of_wide 7 Try.f7 rfl rfl rfl rfl rfl rfl rfl ⟨rfl, rfl, rfl, rfl, rfl⟩ rfl rfl rfl rfl rfl (by kernel_rfl) Try.func7 (by kernel_rfl)
    (of_decide_eq_true (by kernel_rfl)) (by unfold Func.isWrapper; first | (rw [if_pos (by decide +kernel)]; kernel_rfl) | (rw [if_neg (by decide +kernel)]; exact ⟨rfl, rfl⟩))
    (fun os started H enc _ => counterSums_lifted os started H enc)
end Ytlelaieadgkemaa
end Go.Proofs
