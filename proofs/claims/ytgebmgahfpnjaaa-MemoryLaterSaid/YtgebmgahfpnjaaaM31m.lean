/- A part of the proof: contracts of functions of this seat, and lemmas. No condition beyond those stated. -/
import Derived.Test.YtgebmgahfpnjaaaM31l
set_option linter.unusedVariables false
set_option linter.unusedSimpArgs false
set_option linter.unusedSectionVars false
set_option linter.unnecessarySimpa false
set_option linter.unusedSimpArgs false
set_option linter.unusedVariables false
set_option maxRecDepth 100000
namespace Go.Proofs
open Go.AM Go.ChangeShapes Go.WideShapes Go.ChangeAt Go.RowKit
namespace Ytgebmgahfpnjaaa

theorem live_step {l : List BlockT} (h : checkF l = 0) (hn : l.length ≤ 200) (t : Int) : ∀ k, k ≤ l.length → 0 ≤ liveF l t k ∧ liveF l t k ≤ 1000000000000 * k ∧
    (k < l.length → liveF l t (k + 1) = liveF l t k + (if liveB (l.getD k default) t = true then (l.getD k default).size else 0)) := by
  have step : ∀ k, k < l.length → 0 ≤ liveF l t k → liveF l t k ≤ 1000000000000 * k → liveF l t (k + 1) = liveF l t k + (if liveB (l.getD k default) t = true then (l.getD k default).size else 0) := fun k hk h0 h1 => by
    have hb := bad_spec (check_spec h hk).1
    rw [liveF]
    split
    · rw [wrap64 (by omega) (by omega)]; omega
    · omega
  intro k
  induction k with
  | zero => intro hk; exact ⟨Int.le_refl _, by simp [liveF], fun hk => step 0 hk (Int.le_refl _) (by simp [liveF])⟩
  | succ k ih =>
    intro hk
    obtain ⟨i1, i2, i3⟩ := ih (by omega)
    have hb := bad_spec (check_spec h (k := k) (by omega)).1
    have e := i3 (by omega)
    have h0 : 0 ≤ liveF l t (k + 1) := by rw [e]; split <;> omega
    have h1 : liveF l t (k + 1) ≤ 1000000000000 * ((k + 1 : Nat) : Int) := by rw [e]; split <;> omega
    exact ⟨h0, h1, fun hk => step (k + 1) hk h0 h1⟩
theorem live_mono {l : List BlockT} (h : checkF l = 0) (hn : l.length ≤ 200) {s t : Int} : ∀ k, k ≤ l.length → (∀ j, j < k → liveB (l.getD j default) t = true → liveB (l.getD j default) s = true) → liveF l t k ≤ liveF l s k
  | 0, _, _ => Int.le_refl _
  | k + 1, hk, hj => by
    have ih := live_mono h hn k (by omega) fun j hj1 => hj j (by omega)
    have hb := bad_spec (check_spec h (k := k) (by omega)).1
    rw [(live_step h hn t k (by omega)).2.2 (by omega), (live_step h hn s k (by omega)).2.2 (by omega)]
    by_cases hl : liveB (l.getD k default) t = true
    · rw [if_pos hl, if_pos (hj k (by omega) hl)]; omega
    · rw [if_neg hl]; split <;> omega
theorem live_pos {l : List BlockT} (h : checkF l = 0) (hn : l.length ≤ 200) {t : Int} {j : Nat} : ∀ k, k ≤ l.length → j < k → liveB (l.getD j default) t = true → 1 ≤ liveF l t k
  | 0, _, h1, _ => by omega
  | k + 1, hk, hj, hl => by
    have hb := bad_spec (check_spec h (k := k) (by omega)).1
    obtain ⟨h0, _, h2⟩ := live_step h hn t k (by omega)
    rw [h2 (by omega)]
    by_cases e : j = k
    · subst e; rw [if_pos hl]; omega
    · have := live_pos h hn k (by omega) (by omega) hl
      split <;> omega
theorem live_none {l : List BlockT} {t : Int} : ∀ k, (∀ j, j < k → liveB (l.getD j default) t = false) → liveF l t k = 0
  | 0, _ => rfl
  | k + 1, h => by
    rw [liveF, if_neg (by rw [h k (by omega)]; simp), live_none k fun j hj => h j (by omega)]
/-- the last of the first k that has p -/
theorem last_of (p : Nat → Bool) : ∀ k, (∀ j, j < k → p j = false) ∨ ∃ j, j < k ∧ p j = true ∧ ∀ i, j < i → i < k → p i = false
  | 0 => .inl fun j hj => by omega
  | k + 1 => by
    cases hp : p k with
    | true => exact .inr ⟨k, by omega, hp, fun i h1 h2 => by omega⟩
    | false =>
      rcases last_of p k with h | ⟨j, h1, h2, h3⟩
      · exact .inl fun j hj => by
          by_cases e : j = k
          · subst e; exact hp
          · exact h j (by omega)
      · exact .inr ⟨j, by omega, h2, fun i i1 i2 => by
          by_cases e : i = k
          · subst e; exact hp
          · exact h3 i i1 (by omega)⟩
theorem live_at {l : List BlockT} (h : checkF l = 0) (hn : l.length ≤ 200) (t : Int) : liveF l t l.length = 0 ∨ ∃ j, j < l.length ∧ (l.getD j default).lo ≤ t ∧ liveF l t l.length ≤ liveF l (l.getD j default).lo l.length := by
  rcases last_of (fun j => liveB (l.getD j default) t) l.length with h1 | ⟨j, h1, h2, h3⟩
  · exact .inl (live_none _ h1)
  · right
    simp only [liveB, Bool.and_eq_true, decide_eq_true_eq] at h2
    refine ⟨j, h1, h2.1, live_mono h hn _ (Nat.le_refl _) fun i hi hl => ?_⟩
    have hij : i ≤ j := by
      rcases Nat.lt_or_ge j i with h' | h'
      · rw [h3 i h' hi] at hl; cases hl
      · exact h'
    have := check_sorted h hij h1
    simp only [liveB, Bool.and_eq_true, decide_eq_true_eq] at hl ⊢
    omega
theorem peak_spec {l : List BlockT} (h : checkF l = 0) (hn : l.length ≤ 200) : ∀ k, k ≤ l.length →
    (∀ j, j < k → liveF l (l.getD j default).lo l.length ≤ (peakF l k).2) ∧ (0 < k → ∃ j, j < k ∧ peakF l k = ((l.getD j default).lo, liveF l (l.getD j default).lo l.length)) ∧
    (∀ j, j < k → (l.getD j default).lo < (peakF l k).1 → liveF l (l.getD j default).lo l.length < (peakF l k).2) ∧ (k = 0 → (peakF l k).2 = 0)
  | 0, _ => ⟨fun j hj => by omega, fun h => by omega, fun j hj => by omega, fun _ => rfl⟩
  | k + 1, hk => by
    obtain ⟨h1, h2, h3, h4⟩ := peak_spec h hn k (by omega)
    have hle := (peak_eq h k (by omega)).2.2 k (Nat.le_refl _) (by omega)
    have hb := bad_spec (check_spec h (k := k) (by omega)).1
    have hpos : 1 ≤ liveF l (l.getD k default).lo l.length := live_pos h hn (j := k) _ (Nat.le_refl _) (by omega) (by simp only [liveB, Bool.and_eq_true, decide_eq_true_eq]; omega)
    rw [(peak_eq h (k + 1) hk).1, peakR, ← (peak_eq h k (by omega)).1]
    by_cases hc : (peakF l k).2 < liveF l (l.getD k default).lo l.length
    · rw [if_pos (decide_eq_true hc)]
      refine ⟨fun j hj => ?_, fun _ => ⟨k, by omega, rfl⟩, fun j hj hlt => ?_, fun h => by omega⟩
      · by_cases e : j = k
        · subst e; exact Int.le_refl _
        · have := h1 j (by omega); simp only; omega
      · by_cases e : j = k
        · subst e; simp only at hlt; omega
        · have := h1 j (by omega); simp only; omega
    · rw [if_neg (by simpa using hc)]
      have hk0 : 0 < k := by
        rcases Nat.eq_zero_or_pos k with e | e
        · have := h4 e; omega
        · exact e
      obtain ⟨j0, q1, q2⟩ := h2 hk0
      refine ⟨fun j hj => ?_, fun _ => ⟨j0, by omega, q2⟩, fun j hj hlt => ?_, fun h => by omega⟩
      · by_cases e : j = k
        · subst e; omega
        · exact h1 j (by omega)
      · by_cases e : j = k
        · subst e; omega
        · exact h3 j (by omega) hlt

/-- what the law asks of the peak -/
theorem peak_law {l : List BlockT} (h : checkF l = 0) (hn : l.length ≤ 200) (h0 : l.length ≠ 0) (t : Int) :
    liveF l (peakF l l.length).1 l.length = (peakF l l.length).2 ∧ liveF l t l.length ≤ (peakF l l.length).2 ∧ ((peakF l l.length).1 ≤ t ∨ liveF l t l.length < (peakF l l.length).2) := by
  obtain ⟨h1, h2, h3, _⟩ := peak_spec h hn l.length (Nat.le_refl _)
  obtain ⟨j0, q1, q2⟩ := h2 (by omega)
  have hb := bad_spec (check_spec h q1).1
  have hpos : 1 ≤ liveF l (l.getD j0 default).lo l.length := live_pos h hn (j := j0) _ (Nat.le_refl _) q1 (by simp only [liveB, Bool.and_eq_true, decide_eq_true_eq]; omega)
  refine ⟨by rw [q2], ?_, ?_⟩
  · rcases live_at h hn t with e | ⟨j, j1, j2, j3⟩
    · rw [e, q2]; simp only; omega
    · have := h1 j j1; omega
  · by_cases ht : (peakF l l.length).1 ≤ t
    · exact .inl ht
    · right
      rcases live_at h hn t with e | ⟨j, j1, j2, j3⟩
      · rw [e, q2]; simp only; omega
      · have := h3 j j1 (by omega); omega

theorem c5 (l : List BlockT) (t : Int) : Pure Try.prog 5 [.d (.sl (l.map BlockT.toD)), .d (.int .i64 t)] (.d (.bool true)) := by
  refine Pure.of2 ?_
  refine acalls_of Try.func5 rfl rfl (by simp [Try.ntmps5]) (evC_sound rfl _ _ _ _ ?_)
  simp only [Try.ntmps5, Try.results5, argEnv, List.length_nil]
  simp only [vcRules, dRules, bRules, tyRules, xRules, pickV_true, pickV_false, implies_true, Nat.reduceLT, Nat.reduceLeDiff, Nat.reduceEqDiff, Nat.reduceAdd, Nat.reduceSub, Nat.reduceMul, Int.reduceToNat, Int.reduceLT, Int.reduceLE, Int.reduceEq, Int.reduceAdd, Int.reduceSub, Int.reduceNeg, Int.reduceBEq, Int.reduceBNe, Int.reduceMul, Int.natCast_add, Int.natCast_one, reduceCtorEq, reduceIte, b_isAgg, b_cells, t_isAgg, t_cells, yRules]
  refine callF_pure (c13 l) ?_
  simp only [vcRules, dRules, bRules, tyRules, xRules, pickV_true, pickV_false, implies_true, Nat.reduceLT, Nat.reduceLeDiff, Nat.reduceEqDiff, Nat.reduceAdd, Nat.reduceSub, Nat.reduceMul, Int.reduceToNat, Int.reduceLT, Int.reduceLE, Int.reduceEq, Int.reduceAdd, Int.reduceSub, Int.reduceNeg, Int.reduceBEq, Int.reduceBNe, Int.reduceMul, Int.natCast_add, Int.natCast_one, reduceCtorEq, reduceIte, b_isAgg, b_cells, t_isAgg, t_cells, yRules]
  have hst : fewB l = true → (∀ x ∈ l, x.stack.length < 1000000) ∧ l.length < 1000000 := fun h => by
    obtain ⟨h1, h2⟩ := few_spec h
    exact ⟨fun x hx => by have := h2 x hx; omega, by omega⟩
  refine callG_pure (v := .d (.int .i64 (checkF l))) (fun hg => ?_) ?_
  · have hg : fewB l = true := by simpa using hg
    exact c14 l (hst hg).1 (hst hg).2
  simp only [vcRules, dRules, bRules, tyRules, xRules, pickV_true, pickV_false, implies_true, Nat.reduceLT, Nat.reduceLeDiff, Nat.reduceEqDiff, Nat.reduceAdd, Nat.reduceSub, Nat.reduceMul, Int.reduceToNat, Int.reduceLT, Int.reduceLE, Int.reduceEq, Int.reduceAdd, Int.reduceSub, Int.reduceNeg, Int.reduceBEq, Int.reduceBNe, Int.reduceMul, Int.natCast_add, Int.natCast_one, reduceCtorEq, reduceIte, b_isAgg, b_cells, t_isAgg, t_cells, yRules]
  repeat ((with_reducible refine And.intro ?_ ?_); (focus (first | omega | (simp only [List.length_take, List.length_drop, List.length_map, List.length_append, List.length_cons]; omega) | (intros; simp_all; done) | kernel_rfl)))
  refine ifC.mk (fun h => ?_) (fun h => ?_)
  · refine callF_pure c9 ?_
    simp only [vcRules, dRules, bRules, tyRules, xRules, pickV_true, pickV_false, implies_true, Nat.reduceLT, Nat.reduceLeDiff, Nat.reduceEqDiff, Nat.reduceAdd, Nat.reduceSub, Nat.reduceMul, Int.reduceToNat, Int.reduceLT, Int.reduceLE, Int.reduceEq, Int.reduceAdd, Int.reduceSub, Int.reduceNeg, Int.reduceBEq, Int.reduceBNe, Int.reduceMul, Int.natCast_add, Int.natCast_one, reduceCtorEq, reduceIte, b_isAgg, b_cells, t_isAgg, t_cells, yRules]
    exact ⟨_, _, ret_d, rfl, rfl⟩
  · simp only [Bool.or_eq_false_iff, Bool.not_eq_false', bne_eq_false_iff_eq] at h
    obtain ⟨hf, hc⟩ := h
    obtain ⟨h1, h2⟩ := few_spec hf
    refine callF_pure (c18 l (by omega)) ?_
    simp only [vcRules, dRules, bRules, tyRules, xRules, pickV_true, pickV_false, implies_true, Nat.reduceLT, Nat.reduceLeDiff, Nat.reduceEqDiff, Nat.reduceAdd, Nat.reduceSub, Nat.reduceMul, Int.reduceToNat, Int.reduceLT, Int.reduceLE, Int.reduceEq, Int.reduceAdd, Int.reduceSub, Int.reduceNeg, Int.reduceBEq, Int.reduceBNe, Int.reduceMul, Int.natCast_add, Int.natCast_one, reduceCtorEq, reduceIte, b_isAgg, b_cells, t_isAgg, t_cells, yRules]
    repeat ((with_reducible refine And.intro ?_ ?_); (focus (first | omega | (simp only [List.length_take, List.length_drop, List.length_map, List.length_append, List.length_cons]; omega) | (intros; simp_all; done) | kernel_rfl)))
    by_cases h0 : l.length = 0
    · have e : l = [] := List.eq_nil_of_length_eq_zero h0
      subst e
      simp only [vcRules, dRules, bRules, tyRules, xRules, pickV_true, pickV_false, implies_true, Nat.reduceLT, Nat.reduceLeDiff, Nat.reduceEqDiff, Nat.reduceAdd, Nat.reduceSub, Nat.reduceMul, Int.reduceToNat, Int.reduceLT, Int.reduceLE, Int.reduceEq, Int.reduceAdd, Int.reduceSub, Int.reduceNeg, Int.reduceBEq, Int.reduceBNe, Int.reduceMul, Int.natCast_add, Int.natCast_one, reduceCtorEq, reduceIte, b_isAgg, b_cells, t_isAgg, t_cells, yRules, peakF, Int.cast_ofNat_Int]
      repeat ((with_reducible refine And.intro ?_ ?_); (focus (first | omega | (simp only [List.length_take, List.length_drop, List.length_map, List.length_append, List.length_cons]; omega) | (intros; simp_all; done) | kernel_rfl)))
      refine callG_pure (fun _ => c20 [] t (by simp)) ?_
      simp only [vcRules, dRules, bRules, tyRules, xRules, pickV_true, pickV_false, implies_true, Nat.reduceLT, Nat.reduceLeDiff, Nat.reduceEqDiff, Nat.reduceAdd, Nat.reduceSub, Nat.reduceMul, Int.reduceToNat, Int.reduceLT, Int.reduceLE, Int.reduceEq, Int.reduceAdd, Int.reduceSub, Int.reduceNeg, Int.reduceBEq, Int.reduceBNe, Int.reduceMul, Int.natCast_add, Int.natCast_one, reduceCtorEq, reduceIte, b_isAgg, b_cells, t_isAgg, t_cells, yRules, liveF]
      repeat ((with_reducible refine And.intro ?_ ?_); (focus (first | omega | (simp only [List.length_take, List.length_drop, List.length_map, List.length_append, List.length_cons]; omega) | (intros; simp_all; done) | kernel_rfl)))
      refine callG_pure (fun _ => c9) ?_
      simp only [vcRules, dRules, bRules, tyRules, xRules, pickV_true, pickV_false, implies_true, Nat.reduceLT, Nat.reduceLeDiff, Nat.reduceEqDiff, Nat.reduceAdd, Nat.reduceSub, Nat.reduceMul, Int.reduceToNat, Int.reduceLT, Int.reduceLE, Int.reduceEq, Int.reduceAdd, Int.reduceSub, Int.reduceNeg, Int.reduceBEq, Int.reduceBNe, Int.reduceMul, Int.natCast_add, Int.natCast_one, reduceCtorEq, reduceIte, b_isAgg, b_cells, t_isAgg, t_cells, yRules]
      exact ⟨_, _, ret_d, rfl, rfl⟩
    · obtain ⟨p1, p2, p3⟩ := peak_law hc h1 h0 t
      simp only [vcRules, dRules, bRules, tyRules, xRules, pickV_true, pickV_false, implies_true, Nat.reduceLT, Nat.reduceLeDiff, Nat.reduceEqDiff, Nat.reduceAdd, Nat.reduceSub, Nat.reduceMul, Int.reduceToNat, Int.reduceLT, Int.reduceLE, Int.reduceEq, Int.reduceAdd, Int.reduceSub, Int.reduceNeg, Int.reduceBEq, Int.reduceBNe, Int.reduceMul, Int.natCast_add, Int.natCast_one, reduceCtorEq, reduceIte, b_isAgg, b_cells, t_isAgg, t_cells, yRules, a_eq_f (show ¬ ((l.length : Int) = 0) by omega)]
      refine callF_pure (c20 l t (by omega)) ?_
      simp only [vcRules, dRules, bRules, tyRules, xRules, pickV_true, pickV_false, implies_true, Nat.reduceLT, Nat.reduceLeDiff, Nat.reduceEqDiff, Nat.reduceAdd, Nat.reduceSub, Nat.reduceMul, Int.reduceToNat, Int.reduceLT, Int.reduceLE, Int.reduceEq, Int.reduceAdd, Int.reduceSub, Int.reduceNeg, Int.reduceBEq, Int.reduceBNe, Int.reduceMul, Int.natCast_add, Int.natCast_one, reduceCtorEq, reduceIte, b_isAgg, b_cells, t_isAgg, t_cells, yRules]
      refine callF_pure (c20 l _ (by omega)) ?_
      rw [p1]
      simp only [vcRules, dRules, bRules, tyRules, xRules, pickV_true, pickV_false, implies_true, Nat.reduceLT, Nat.reduceLeDiff, Nat.reduceEqDiff, Nat.reduceAdd, Nat.reduceSub, Nat.reduceMul, Int.reduceToNat, Int.reduceLT, Int.reduceLE, Int.reduceEq, Int.reduceAdd, Int.reduceSub, Int.reduceNeg, Int.reduceBEq, Int.reduceBNe, Int.reduceMul, Int.natCast_add, Int.natCast_one, reduceCtorEq, reduceIte, b_isAgg, b_cells, t_isAgg, t_cells, yRules, beq_self_eq_true, (show liveF l t l.length ≤ (peakF l l.length).2 by omega)]
      repeat ((with_reducible refine And.intro ?_ ?_); (focus (first | omega | (simp only [List.length_take, List.length_drop, List.length_map, List.length_append, List.length_cons]; omega) | (intros; simp_all; done) | kernel_rfl)))
      have e : (decide ((peakF l l.length).1 ≤ t) || decide (liveF l t l.length < (peakF l l.length).2)) = true := by simpa using p3
      rw [e]
      refine callG_pure (fun _ => c9) ?_
      simp only [vcRules, dRules, bRules, tyRules, xRules, pickV_true, pickV_false, implies_true, Nat.reduceLT, Nat.reduceLeDiff, Nat.reduceEqDiff, Nat.reduceAdd, Nat.reduceSub, Nat.reduceMul, Int.reduceToNat, Int.reduceLT, Int.reduceLE, Int.reduceEq, Int.reduceAdd, Int.reduceSub, Int.reduceNeg, Int.reduceBEq, Int.reduceBNe, Int.reduceMul, Int.natCast_add, Int.natCast_one, reduceCtorEq, reduceIte, b_isAgg, b_cells, t_isAgg, t_cells, yRules]
      exact ⟨_, _, ret_d, rfl, rfl⟩

theorem peak_main (xs : List D) (h : TypedAll Try.prog 5 Try.f5.params.toList xs) : ACalls Try.prog [] 5 (xs.map AV.d) [] (fun r _ => r = .d (.bool true)) := by
  rw [Try.params5] at h
  obtain ⟨x, _, rfl, h1, y, _, rfl, h2, rfl⟩ := h
  obtain ⟨os, rfl, _⟩ := par26 h1
  obtain ⟨e, rfl, _⟩ := par3 h2
  exact (c5 os e []).mono fun r s h => h.1

theorem memoryPeak_lifted (os : Os) (started : os.Started) (H : Type) (enc : TypeId × Value → H) :
    ReturnsInHanded {} Try.checked os 5 .any (Rows.memoryPeakSpec.pre6 enc Try.prog Try.f5 Rows.memoryPeakRow.domain false) (Rows.memoryPeakSpec.post enc Try.prog Try.f5 false true false false) := by
  refine returnsInHanded_of_change (C := Try.checked) own started (by kernel_rfl) Try.func5
    (ChangeSpec.witness6 (enc := enc) (C := Try.checked) false ⟨#[], #[.slice none 0 0, .int .i64 0], []⟩ 8 (by kernel_rfl) (by kernel_rfl) (by kernel_rfl) (by kernel_rfl)) ?_
  intro W base args ds gs before hval hW _ _
  exact law_contract (n := 5) (tb := 4) Try.func5 rfl rfl (by kernel_rfl) laidOut (by kernel_rfl) (by kernel_rfl) rfl
    (fun H ds h => by
      match ds, h with
      | [d1, d2], _ => rfl) peak_main W base args ds gs before hval hW
theorem memoryPeak_holds : Rows.MemoryPeakSaid :=
  OpenClaim.holds_of_wide 5 Try.f5 rfl rfl rfl rfl rfl rfl rfl ⟨rfl, rfl, rfl, rfl, rfl⟩ rfl rfl rfl rfl rfl (by kernel_rfl) Try.func5 (by kernel_rfl)
    (of_decide_eq_true (by kernel_rfl)) (by unfold Func.isWrapper; first | (rw [if_pos (by decide +kernel)]; kernel_rfl) | (rw [if_neg (by decide +kernel)]; exact ⟨rfl, rfl⟩))
    (fun os started H enc _ => memoryPeak_lifted os started H enc)
end Ytgebmgahfpnjaaa
end Go.Proofs
