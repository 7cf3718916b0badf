/- A part of the proof: contracts of functions of this seat, and lemmas. No condition beyond those stated. -/
import Derived.Test.YtgebmgahfpnjaaaM31c
set_option linter.unusedVariables false
set_option linter.unusedSimpArgs false
set_option linter.unusedSectionVars false
set_option linter.unnecessarySimpa false
set_option linter.unusedSimpArgs false
set_option linter.unusedVariables false
set_option maxRecDepth 100000
namespace Go.Proofs
open Go.AM
namespace Ytgebmgahfpnjaaa

def zeroB : BlockT := ⟨0, 0, 0, 0, 0, [], false⟩
def idxF (p : BlockT → Bool) : List BlockT → Int
  | [] => -1
  | b :: r => if p b = true then 0 else if idxF p r = -1 then -1 else idxF p r + 1
theorem idxF_none {p : BlockT → Bool} : ∀ {l : List BlockT}, l.any p = false → idxF p l = -1
  | [], _ => rfl
  | b :: r, h => by
    rw [List.any_cons, Bool.or_eq_false_iff] at h
    rw [idxF, if_neg (by rw [h.1]; simp), if_pos (idxF_none h.2)]
theorem idxF_ge (p : BlockT → Bool) : ∀ l : List BlockT, -1 ≤ idxF p l
  | [] => Int.le_refl _
  | b :: r => by
    have := idxF_ge p r
    unfold idxF
    split
    · omega
    · split <;> omega
theorem idxF_at {p : BlockT → Bool} : ∀ {l : List BlockT} {k : Nat}, k < l.length → (l.take k).any p = false → p (l.getD k default) = true → idxF p l = k
  | [], k, h, _, _ => by simp at h
  | b :: r, 0, _, _, h => by rw [idxF, if_pos (by simpa using h)]; rfl
  | b :: r, k + 1, h1, h2, h3 => by
    rw [List.take_succ_cons, List.any_cons, Bool.or_eq_false_iff] at h2
    have ih := idxF_at (p := p) (l := r) (k := k) (by simpa using h1) h2.2 (by simpa using h3)
    rw [idxF, if_neg (by rw [h2.1]; simp), if_neg (by rw [ih]; omega), ih]; omega

/-- a predicate on blocks, as a function value -/
def PredOk (fv : FuncId) (p : BlockT → Bool) : Prop := ∀ b : BlockT, Pure Try.prog fv [.d b.toD] (.d (.bool (p b)))

theorem c43 (fv : FuncId) (p : BlockT → Bool) (hp : PredOk fv p) (bs : List BlockT) (hl : bs.length < 1000000) :
    ACalls Try.prog [] 43 [.osl 0 0 bs.length, .fn fv []] [.arr 7 (bs.map BlockT.toD)] (fun r s => r = .d (.int .i64 (idxF p bs)) ∧ s = [.arr 7 (bs.map BlockT.toD)]) := by
  refine acalls_of Try.func43 rfl rfl (by simp [Try.ntmps43]) (evC_sound rfl _ _ _ _ ?_)
  simp only [Try.ntmps43, Try.results43, argEnv, List.length_nil]
  simp only [vcRules, dRules, bRules, tyRules, xRules, pickV_true, pickV_false, implies_true, Nat.reduceLT, Nat.reduceLeDiff, Nat.reduceEqDiff, Nat.reduceAdd, Nat.reduceSub, Nat.reduceMul, Int.reduceToNat, Int.reduceLT, Int.reduceLE, Int.reduceEq, Int.reduceAdd, Int.reduceSub, Int.reduceNeg, Int.reduceBEq, Int.reduceBNe, Int.reduceMul, Int.natCast_add, Int.natCast_one, reduceCtorEq, reduceIte, b_isAgg, b_cells, t_isAgg, t_cells]
  refine for_of bs.length (fun k => [(0, .osl 0 0 bs.length), (1, .fn fv []), (7, .d (.int .i64 bs.length)), (8, .d (.int .i64 k))]) (fun _ => [.arr 7 (bs.map BlockT.toD)]) (fun k => (bs.take k).any p = false) rfl ?_ ?_
  · refine weak_to [] [0] rfl (by simp) ?_ rfl
    simp only [vcRules, dRules, bRules, tyRules, xRules, pickV_true, pickV_false, implies_true, Nat.reduceLT, Nat.reduceLeDiff, Nat.reduceEqDiff, Nat.reduceAdd, Nat.reduceSub, Nat.reduceMul, Int.reduceToNat, Int.reduceLT, Int.reduceLE, Int.reduceEq, Int.reduceAdd, Int.reduceSub, Int.reduceNeg, Int.reduceBEq, Int.reduceBNe, Int.reduceMul, Int.natCast_add, Int.natCast_one, reduceCtorEq, reduceIte, b_isAgg, b_cells, t_isAgg, t_cells, Int.cast_ofNat_Int]
    rfl
  · intro k hi hk
    by_cases h : k < bs.length
    · have hs := any_take p bs k h
      simp only [vcRules, dRules, bRules, tyRules, xRules, pickV_true, pickV_false, implies_true, Nat.reduceLT, Nat.reduceLeDiff, Nat.reduceEqDiff, Nat.reduceAdd, Nat.reduceSub, Nat.reduceMul, Int.reduceToNat, Int.reduceLT, Int.reduceLE, Int.reduceEq, Int.reduceAdd, Int.reduceSub, Int.reduceNeg, Int.reduceBEq, Int.reduceBNe, Int.reduceMul, Int.natCast_add, Int.natCast_one, reduceCtorEq, reduceIte, b_isAgg, b_cells, t_isAgg, t_cells, (show (k:Int) < bs.length by omega), h, a_getD _ _ _ (show k < bs.length by omega)]
      refine callF_pure (hp _) ?_
      simp only [vcRules, dRules, bRules, tyRules, xRules, pickV_true, pickV_false, implies_true, Nat.reduceLT, Nat.reduceLeDiff, Nat.reduceEqDiff, Nat.reduceAdd, Nat.reduceSub, Nat.reduceMul, Int.reduceToNat, Int.reduceLT, Int.reduceLE, Int.reduceEq, Int.reduceAdd, Int.reduceSub, Int.reduceNeg, Int.reduceBEq, Int.reduceBNe, Int.reduceMul, Int.natCast_add, Int.natCast_one, reduceCtorEq, reduceIte, b_isAgg, b_cells, t_isAgg, t_cells]
      refine ifC.mk (fun hc => ?_) (fun hc => ?_)
      · refine ⟨_, _, WeakR.refl _ _ _, ?_, rfl⟩
        rw [idxF_at h hi hc]
      · refine ⟨by rw [hs, hi, hc]; rfl, ?_⟩
        refine weak_to [] [0] rfl (by simp) ?_ rfl
        simp only [vcRules, dRules, bRules, tyRules, xRules, pickV_true, pickV_false, implies_true, Nat.reduceLT, Nat.reduceLeDiff, Nat.reduceEqDiff, Nat.reduceAdd, Nat.reduceSub, Nat.reduceMul, Int.reduceToNat, Int.reduceLT, Int.reduceLE, Int.reduceEq, Int.reduceAdd, Int.reduceSub, Int.reduceNeg, Int.reduceBEq, Int.reduceBNe, Int.reduceMul, Int.natCast_add, Int.natCast_one, reduceCtorEq, reduceIte, b_isAgg, b_cells, t_isAgg, t_cells, @a_wrap ((k:Int) + 1) (by omega)]
        rfl
    · simp only [vcRules, dRules, bRules, tyRules, xRules, pickV_true, pickV_false, implies_true, Nat.reduceLT, Nat.reduceLeDiff, Nat.reduceEqDiff, Nat.reduceAdd, Nat.reduceSub, Nat.reduceMul, Int.reduceToNat, Int.reduceLT, Int.reduceLE, Int.reduceEq, Int.reduceAdd, Int.reduceSub, Int.reduceNeg, Int.reduceBEq, Int.reduceBNe, Int.reduceMul, Int.natCast_add, Int.natCast_one, reduceCtorEq, reduceIte, b_isAgg, b_cells, t_isAgg, t_cells, (show ¬ (k:Int) < bs.length by omega)]
      have : k = bs.length := by omega
      subst this
      rw [List.take_length] at hi
      refine ⟨_, _, WeakR.refl _ _ _, ?_, rfl⟩
      rw [idxF_none hi]

theorem c40 (bs : List BlockT) (hl : bs.length < 1000000) : Fresh Try.prog 40 [.d (.sl (bs.map BlockT.toD))] 7 (bs.map BlockT.toD) := by
  refine Fresh.of (args := [_]) ?_
  simp only [List.map_cons, List.map_nil]
  cases bs with
  | nil =>
    refine acalls_of Try.func40 rfl rfl (by simp [Try.ntmps40]) (evC_sound rfl _ _ _ _ ?_)
    simp only [Try.ntmps40, Try.results40, argEnv, List.length_nil]
    simp only [vcRules, dRules, bRules, tyRules, xRules, pickV_true, pickV_false, implies_true, Nat.reduceLT, Nat.reduceLeDiff, Nat.reduceEqDiff, Nat.reduceAdd, Nat.reduceSub, Nat.reduceMul, Int.reduceToNat, Int.reduceLT, Int.reduceLE, Int.reduceEq, Int.reduceAdd, Int.reduceSub, Int.reduceNeg, Int.reduceBEq, Int.reduceBNe, Int.reduceMul, Int.natCast_add, Int.natCast_one, reduceCtorEq, reduceIte, b_isAgg, b_cells, t_isAgg, t_cells]
    repeat ((with_reducible refine And.intro ?_ ?_); (focus (first | omega | (intros; simp_all; done) | kernel_rfl)))
    refine ⟨⟨_, _, ret_nils 7, rfl, rfl⟩, ?_⟩
    repeat ((with_reducible refine And.intro ?_ ?_); (focus (first | omega | (intros; simp_all; done) | kernel_rfl)))
    exact ⟨_, _, weakR_to [] [1] rfl (by simp) rfl rfl, rfl, rfl⟩
  | cons b r =>
    simp only [List.length_cons] at hl
    refine acalls_of Try.func40 rfl rfl (by simp [Try.ntmps40]) (evC_sound rfl _ _ _ _ ?_)
    simp only [Try.ntmps40, Try.results40, argEnv, List.length_nil]
    simp only [vcRules, dRules, bRules, tyRules, xRules, pickV_true, pickV_false, implies_true, Nat.reduceLT, Nat.reduceLeDiff, Nat.reduceEqDiff, Nat.reduceAdd, Nat.reduceSub, Nat.reduceMul, Int.reduceToNat, Int.reduceLT, Int.reduceLE, Int.reduceEq, Int.reduceAdd, Int.reduceSub, Int.reduceNeg, Int.reduceBEq, Int.reduceBNe, Int.reduceMul, Int.natCast_add, Int.natCast_one, reduceCtorEq, reduceIte, b_isAgg, b_cells, t_isAgg, t_cells]
    repeat ((with_reducible refine And.intro ?_ ?_); (focus (first | omega | (intros; simp_all; done) | kernel_rfl)))
    refine ⟨_, _, weakR_to [] [1] rfl (by simp) rfl rfl, ?_, rfl⟩
    simp only [renV, ren0]; rfl

/-- what DeleteFunc leaves in the array -/
def delL (p : BlockT → Bool) (bs : List BlockT) : List BlockT := bs.filter (fun b => !p b) ++ List.replicate (bs.length - (bs.filter fun b => !p b).length) zeroB

theorem clearL_map (ys : List BlockT) (i n : Nat) (hn : ys.length = n) (hi : i ≤ n) : clearL (ys.map BlockT.toD) i (n - i) zeroB.toD = (ys.take i ++ List.replicate (n - i) zeroB).map BlockT.toD := by
  subst hn
  apply List.ext_getElem?
  intro j
  rcases Nat.lt_or_ge j ys.length with hj | hj
  · rw [clearL_get _ _ _ _ _ (by simpa using hj), List.getElem?_map]
    by_cases hji : j < i
    · rw [if_neg (by omega), List.getElem?_append_left (by simp; omega), List.getElem?_take_of_lt hji, a_getD _ _ _ hj]
      simp [hj]
    · rw [if_pos (by omega), List.getElem?_append_right (by simp; omega)]
      rw [List.getElem?_replicate, if_pos (by simp; omega)]; rfl
  · rw [List.getElem?_eq_none (by rw [clearL_length]; simpa using hj), List.getElem?_eq_none (by simp; omega)]

theorem filter_none {p : BlockT → Bool} {l : List BlockT} (h : l.any p = false) : l.filter (fun b => !p b) = l := by
  rw [List.filter_eq_self]
  intro a ha
  have := List.any_eq_false.1 h a ha
  simpa using this

theorem first_true {p : BlockT → Bool} : ∀ {l : List BlockT}, ¬ l.any p = false → ∃ i, i < l.length ∧ (l.take i).any p = false ∧ p (l.getD i default) = true
  | [], h => absurd rfl h
  | b :: r, h => by
    cases hb : p b with
    | true => exact ⟨0, by simp, rfl, hb⟩
    | false =>
      rw [List.any_cons, hb, Bool.false_or] at h
      obtain ⟨i, h1, h2, h3⟩ := first_true h
      exact ⟨i + 1, by simp; omega, by rw [List.take_succ_cons, List.any_cons, hb, h2]; rfl, by simpa using h3⟩

theorem drop_getD {α : Type} [Inhabited α] {a b : List α} {j : Nat} (h : a.drop j = b.drop j) : a.getD j default = b.getD j default := by
  have := congrArg (fun l => l[0]?) h
  simp only [List.getElem?_drop, Nat.add_zero] at this
  rw [List.getD_eq_getElem?_getD, List.getD_eq_getElem?_getD, this]
theorem drop_next {α : Type} {a b : List α} {j : Nat} (h : a.drop j = b.drop j) : a.drop (j + 1) = b.drop (j + 1) := by
  have := congrArg (List.drop 1) h
  simpa only [List.drop_drop] using this
theorem filter_take {p : BlockT → Bool} {l : List BlockT} {j : Nat} (h : j < l.length) : (l.take (j + 1)).filter p = (l.take j).filter p ++ (if p (l.getD j default) = true then [l.getD j default] else []) := by
  rw [take_step l j h, List.filter_append]
  congr 1
  rw [List.filter_cons]
  split <;> simp_all

theorem c29 (fv : FuncId) (p : BlockT → Bool) (hp : PredOk fv p) (bs : List BlockT) (hl : bs.length < 1000000) :
    ACalls Try.prog [] 29 [.osl 0 0 bs.length, .fn fv []] [.arr 7 (bs.map BlockT.toD)] (fun r s => r = .osl 0 0 (bs.filter fun b => !p b).length ∧ s = [.arr 7 ((delL p bs).map BlockT.toD)]) := by
  refine acalls_of Try.func29 rfl rfl (by simp [Try.ntmps29]) (evC_sound rfl _ _ _ _ ?_)
  simp only [Try.ntmps29, Try.results29, argEnv, List.length_nil]
  simp only [vcRules, dRules, bRules, tyRules, xRules, pickV_true, pickV_false, implies_true, Nat.reduceLT, Nat.reduceLeDiff, Nat.reduceEqDiff, Nat.reduceAdd, Nat.reduceSub, Nat.reduceMul, Int.reduceToNat, Int.reduceLT, Int.reduceLE, Int.reduceEq, Int.reduceAdd, Int.reduceSub, Int.reduceNeg, Int.reduceBEq, Int.reduceBNe, Int.reduceMul, Int.natCast_add, Int.natCast_one, reduceCtorEq, reduceIte, b_isAgg, b_cells, t_isAgg, t_cells]
  refine callF_go ((c43 fv p hp bs hl).mono fun r s h => ?_)
  obtain ⟨rfl, rfl⟩ := h
  by_cases hn : bs.any p = false
  · have hi := idxF_none hn
    have hf := filter_none hn
    simp only [vcRules, dRules, bRules, tyRules, xRules, pickV_true, pickV_false, implies_true, Nat.reduceLT, Nat.reduceLeDiff, Nat.reduceEqDiff, Nat.reduceAdd, Nat.reduceSub, Nat.reduceMul, Int.reduceToNat, Int.reduceLT, Int.reduceLE, Int.reduceEq, Int.reduceAdd, Int.reduceSub, Int.reduceNeg, Int.reduceBEq, Int.reduceBNe, Int.reduceMul, Int.natCast_add, Int.natCast_one, reduceCtorEq, reduceIte, b_isAgg, b_cells, t_isAgg, t_cells, hi]
    exact ⟨_, _, WeakR.refl _ _ _, by rw [hf], by rw [delL, hf, Nat.sub_self]; simp⟩
  · obtain ⟨i0, hi, h1, h2⟩ := first_true hn
    have hi2 := idxF_at hi h1 h2
    have z5 : D.agg [D.int .i64 0, D.int .i64 0, D.int .i64 0, D.int .i64 0, D.int .i64 0, D.sl [], D.bool false] = zeroB.toD := rfl
    simp only [vcRules, dRules, bRules, tyRules, xRules, pickV_true, pickV_false, implies_true, Nat.reduceLT, Nat.reduceLeDiff, Nat.reduceEqDiff, Nat.reduceAdd, Nat.reduceSub, Nat.reduceMul, Int.reduceToNat, Int.reduceLT, Int.reduceLE, Int.reduceEq, Int.reduceAdd, Int.reduceSub, Int.reduceNeg, Int.reduceBEq, Int.reduceBNe, Int.reduceMul, Int.natCast_add, Int.natCast_one, reduceCtorEq, reduceIte, b_isAgg, b_cells, t_isAgg, t_cells, hi2, a_eq_f (show ¬ ((i0:Int) = -1) by omega)]
    refine loop_of (τ := (Nat × Nat) × List BlockT) (fun x => [(0, .osl 0 0 bs.length), (1, .fn fv []), (5, .d (.int .i64 x.1.1)), (6, .d (.int .i64 x.1.2))]) (fun x => [.arr 7 (x.2.map BlockT.toD)])
      (fun x => x.1.1 < x.1.2 ∧ x.1.2 ≤ bs.length ∧ x.2.length = bs.length ∧ x.2.take x.1.1 = (bs.take x.1.2).filter (fun b => !p b) ∧ x.2.drop x.1.2 = bs.drop x.1.2) (fun x => bs.length - x.1.2) ((i0, i0 + 1), bs)
      ⟨by simp, by simp only; omega, rfl, by simp only; rw [filter_take hi, h2, filter_none h1]; simp, rfl⟩ ?_ ?_
    · refine weak_to [] [0] rfl (by simp) ?_ rfl
      simp only [vcRules, dRules, bRules, tyRules, xRules, pickV_true, pickV_false, implies_true, Nat.reduceLT, Nat.reduceLeDiff, Nat.reduceEqDiff, Nat.reduceAdd, Nat.reduceSub, Nat.reduceMul, Int.reduceToNat, Int.reduceLT, Int.reduceLE, Int.reduceEq, Int.reduceAdd, Int.reduceSub, Int.reduceNeg, Int.reduceBEq, Int.reduceBNe, Int.reduceMul, Int.natCast_add, Int.natCast_one, reduceCtorEq, reduceIte, b_isAgg, b_cells, t_isAgg, t_cells, @a_wrap ((i0:Int) + 1) (by omega)]
      rfl
    · intro x hx
      obtain ⟨⟨i, j⟩, ys⟩ := x
      obtain ⟨q1, q2, q3, q4, q5⟩ := hx
      simp only at q1 q2 q3 q4 q5
      by_cases h : j < bs.length
      · have hv := drop_getD q5
        have h3 : j < ys.length := by omega
        have h4 : i < ys.length := by omega
        have hft := filter_take (p := fun b => !p b) h
        simp only [vcRules, dRules, bRules, tyRules, xRules, pickV_true, pickV_false, implies_true, Nat.reduceLT, Nat.reduceLeDiff, Nat.reduceEqDiff, Nat.reduceAdd, Nat.reduceSub, Nat.reduceMul, Int.reduceToNat, Int.reduceLT, Int.reduceLE, Int.reduceEq, Int.reduceAdd, Int.reduceSub, Int.reduceNeg, Int.reduceBEq, Int.reduceBNe, Int.reduceMul, Int.natCast_add, Int.natCast_one, reduceCtorEq, reduceIte, b_isAgg, b_cells, t_isAgg, t_cells, (show (j:Int) < bs.length by omega), h3, a_getD _ _ _ (show j < ys.length by omega), hv]
        refine callF_pure (hp _) ?_
        simp only [vcRules, dRules, bRules, tyRules, xRules, pickV_true, pickV_false, implies_true, Nat.reduceLT, Nat.reduceLeDiff, Nat.reduceEqDiff, Nat.reduceAdd, Nat.reduceSub, Nat.reduceMul, Int.reduceToNat, Int.reduceLT, Int.reduceLE, Int.reduceEq, Int.reduceAdd, Int.reduceSub, Int.reduceNeg, Int.reduceBEq, Int.reduceBNe, Int.reduceMul, Int.natCast_add, Int.natCast_one, reduceCtorEq, reduceIte, b_isAgg, b_cells, t_isAgg, t_cells]
        refine ifC.mk (fun hc => ?_) (fun hc => ?_)
        · (try simp only [vcRules, dRules, bRules, tyRules, xRules, pickV_true, pickV_false, implies_true, Nat.reduceLT, Nat.reduceLeDiff, Nat.reduceEqDiff, Nat.reduceAdd, Nat.reduceSub, Nat.reduceMul, Int.reduceToNat, Int.reduceLT, Int.reduceLE, Int.reduceEq, Int.reduceAdd, Int.reduceSub, Int.reduceNeg, Int.reduceBEq, Int.reduceBNe, Int.reduceMul, Int.natCast_add, Int.natCast_one, reduceCtorEq, reduceIte, b_isAgg, b_cells, t_isAgg, t_cells, (show (i:Int) < bs.length by omega), (show i < bs.length by omega), (show i < ys.length by omega), a_getD _ _ _ (show i < ys.length by omega), @a_wrap ((i:Int) + 1) (by omega), @a_wrap ((j:Int) + 1) (by omega)])
          refine ⟨((i + 1, j + 1), ys.set i (bs.getD j default)), ⟨by simp only; omega, by simp only; omega, by simp [q3], ?_, ?_⟩, by simp only; omega, weak_to [] [0] rfl (by simp) ?_ (by simp only [List.map_set]; rfl)⟩
          · simp only
            rw [hft, ← q4, if_pos (by simpa using hc), take_step _ i (by simpa using h4)]
            congr 1
            · rw [List.take_set_of_le (Nat.le_refl _)]
            · simp [h4]
          · simp only
            rw [List.drop_set_of_lt (by omega)]; exact drop_next q5
          · simp only [vcRules, dRules, bRules, tyRules, xRules, pickV_true, pickV_false, implies_true, Nat.reduceLT, Nat.reduceLeDiff, Nat.reduceEqDiff, Nat.reduceAdd, Nat.reduceSub, Nat.reduceMul, Int.reduceToNat, Int.reduceLT, Int.reduceLE, Int.reduceEq, Int.reduceAdd, Int.reduceSub, Int.reduceNeg, Int.reduceBEq, Int.reduceBNe, Int.reduceMul, Int.natCast_add, Int.natCast_one, reduceCtorEq, reduceIte, b_isAgg, b_cells, t_isAgg, t_cells, @a_wrap ((i:Int) + 1) (by omega), @a_wrap ((j:Int) + 1) (by omega)]
            rfl
        · refine ⟨((i, j + 1), ys), ⟨by simp only; omega, by simp only; omega, q3, ?_, drop_next q5⟩, by simp only; omega, weak_to [] [0] rfl (by simp) ?_ rfl⟩
          · simp only
            rw [hft, ← q4, if_neg (by simpa using hc), List.append_nil]
          · simp only [vcRules, dRules, bRules, tyRules, xRules, pickV_true, pickV_false, implies_true, Nat.reduceLT, Nat.reduceLeDiff, Nat.reduceEqDiff, Nat.reduceAdd, Nat.reduceSub, Nat.reduceMul, Int.reduceToNat, Int.reduceLT, Int.reduceLE, Int.reduceEq, Int.reduceAdd, Int.reduceSub, Int.reduceNeg, Int.reduceBEq, Int.reduceBNe, Int.reduceMul, Int.natCast_add, Int.natCast_one, reduceCtorEq, reduceIte, b_isAgg, b_cells, t_isAgg, t_cells, @a_wrap ((j:Int) + 1) (by omega)]
            rfl
      · have hj : j = bs.length := by omega
        subst hj
        rw [List.take_length] at q4
        simp only [vcRules, dRules, bRules, tyRules, xRules, pickV_true, pickV_false, implies_true, Nat.reduceLT, Nat.reduceLeDiff, Nat.reduceEqDiff, Nat.reduceAdd, Nat.reduceSub, Nat.reduceMul, Int.reduceToNat, Int.reduceLT, Int.reduceLE, Int.reduceEq, Int.reduceAdd, Int.reduceSub, Int.reduceNeg, Int.reduceBEq, Int.reduceBNe, Int.reduceMul, Int.natCast_add, Int.natCast_one, reduceCtorEq, reduceIte, b_isAgg, b_cells, t_isAgg, t_cells, (show ¬ ((bs.length : Nat) : Int) < bs.length by omega), z5]
        repeat ((with_reducible refine And.intro ?_ ?_); (focus (first | omega | (intros; simp_all; done) | kernel_rfl)))
        have hlen : (bs.filter fun b => !p b).length = i := by rw [← q4]; simp; omega
        refine ⟨_, _, WeakR.refl _ _ _, by rw [hlen, Nat.sub_zero], ?_⟩
        simp only [Option.getD_some]
        rw [clearL_map ys i bs.length q3 (by omega), q4, delL, hlen]
end Ytgebmgahfpnjaaa
end Go.Proofs
