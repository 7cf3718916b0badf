/- A part of the proof: contracts of functions of this seat, and lemmas. No condition beyond those stated. -/
import Derived.Test.YtlelaieadgkemaaM30g
import Derived.Test.YtlelaieadgkemaaXSrt8
set_option linter.unusedVariables false
set_option linter.unusedSimpArgs false
set_option linter.unusedSectionVars false
set_option linter.unnecessarySimpa false
set_option linter.unusedSimpArgs false
set_option linter.unusedVariables false
set_option maxRecDepth 100000
namespace Go.Proofs
open Go.AM
namespace Ytlelaieadgkemaa

theorem step_eq (a b : StepT) : (a.name == b.name && (a.at_ == b.at_ && a.value == b.value)) = decide (a = b) := by
  obtain ⟨n, t, v⟩ := a
  obtain ⟨m, u, w⟩ := b
  rw [Bool.eq_iff_iff]
  simp
theorem c12 (a b : List StepT) (hla : a.length < 1000000) (hlb : b.length < 1000000) : Pure Try.prog 12 [.d (.sl (a.map StepT.toD)), .d (.sl (b.map StepT.toD))] (.d (.bool (decide (a = b)))) := by
  refine Pure.of2 ?_
  refine acalls_of Try.func12 rfl rfl (by simp [Try.ntmps12]) (evC_sound rfl _ _ _ _ ?_)
  simp only [Try.ntmps12, Try.results12, argEnv, List.length_nil]
  simp only [vcRules, dRules, bRules, tyRules, xRules, pickV_true, pickV_false, implies_true, Nat.reduceLT, Nat.reduceLeDiff, Nat.reduceEqDiff, Nat.reduceAdd, Nat.reduceSub, Nat.reduceMul, Int.reduceToNat, Int.reduceLT, Int.reduceLE, Int.reduceEq, Int.reduceAdd, Int.reduceSub, Int.reduceNeg, Int.reduceBEq, Int.reduceBNe, Int.reduceMul, Int.natCast_add, Int.natCast_one, reduceCtorEq, reduceIte, s_isAgg, s_cells, t_isAgg, t_cells, yRules]
  refine ifC.mk (fun h => ?_) (fun h => ?_)
  · refine ⟨_, _, ret_d, ?_, rfl⟩
    have : ¬ a = b := fun e => by subst e; simp at h
    rw [decide_eq_false this]
  · have h : a.length = b.length := by simp at h; omega
    refine for_of a.length (fun k => [(0, .d (.sl (a.map StepT.toD))), (1, .d (.sl (b.map StepT.toD))), (5, .d (.int .i64 k))]) (fun _ => []) (fun k => a.take k = b.take k) rfl ?_ ?_
    · refine weak_to [] [] rfl List.nodup_nil ?_ rfl
      simp only [vcRules, dRules, bRules, tyRules, xRules, pickV_true, pickV_false, implies_true, Nat.reduceLT, Nat.reduceLeDiff, Nat.reduceEqDiff, Nat.reduceAdd, Nat.reduceSub, Nat.reduceMul, Int.reduceToNat, Int.reduceLT, Int.reduceLE, Int.reduceEq, Int.reduceAdd, Int.reduceSub, Int.reduceNeg, Int.reduceBEq, Int.reduceBNe, Int.reduceMul, Int.natCast_add, Int.natCast_one, reduceCtorEq, reduceIte, s_isAgg, s_cells, t_isAgg, t_cells, yRules, Int.cast_ofNat_Int]
    · intro k hi hk
      by_cases h2 : k < a.length
      · have h3 : k < b.length := by omega
        simp only [vcRules, dRules, bRules, tyRules, xRules, pickV_true, pickV_false, implies_true, Nat.reduceLT, Nat.reduceLeDiff, Nat.reduceEqDiff, Nat.reduceAdd, Nat.reduceSub, Nat.reduceMul, Int.reduceToNat, Int.reduceLT, Int.reduceLE, Int.reduceEq, Int.reduceAdd, Int.reduceSub, Int.reduceNeg, Int.reduceBEq, Int.reduceBNe, Int.reduceMul, Int.natCast_add, Int.natCast_one, reduceCtorEq, reduceIte, s_isAgg, s_cells, t_isAgg, t_cells, yRules, (show (k:Int) < a.length by omega), (show (k:Int) < b.length by omega), h2, h3, a_getD _ _ _ (show k < a.length by omega), a_getD _ _ _ (show k < b.length by omega), step_eq]
        repeat ((with_reducible refine And.intro ?_ ?_); (focus (first | omega | (simp only [List.length_take, List.length_drop, List.length_map, List.length_append, List.length_cons]; omega) | (intros; simp_all; done) | (refine (show drawChk _ = true from ?_); kernel_rfl))))
        simp only [vcRules, dRules, bRules, tyRules, xRules, pickV_true, pickV_false, implies_true, Nat.reduceLT, Nat.reduceLeDiff, Nat.reduceEqDiff, Nat.reduceAdd, Nat.reduceSub, Nat.reduceMul, Int.reduceToNat, Int.reduceLT, Int.reduceLE, Int.reduceEq, Int.reduceAdd, Int.reduceSub, Int.reduceNeg, Int.reduceBEq, Int.reduceBNe, Int.reduceMul, Int.natCast_add, Int.natCast_one, reduceCtorEq, reduceIte, s_isAgg, s_cells, t_isAgg, t_cells, yRules, StepT.toD, step_eq]
        repeat ((with_reducible refine And.intro ?_ ?_); (focus (first | omega | (simp only [List.length_take, List.length_drop, List.length_map, List.length_append, List.length_cons]; omega) | (intros; simp_all; done) | (refine (show drawChk _ = true from ?_); kernel_rfl))))
        refine ifC.mk (fun hc => ?_) (fun hc => ?_)
        · refine ⟨_, _, ret_d, ?_, rfl⟩
          have : ¬ a = b := fun e => by subst e; simp at hc
          rw [decide_eq_false this]
        · have hc : a.getD k default = b.getD k default := by simpa only [Bool.not_eq_false', decide_eq_true_eq] using hc
          refine ⟨by rw [take_step a k h2, take_step b k h3, hi, hc], ?_⟩
          refine weak_to [] [] rfl List.nodup_nil ?_ rfl
          simp only [vcRules, dRules, bRules, tyRules, xRules, pickV_true, pickV_false, implies_true, Nat.reduceLT, Nat.reduceLeDiff, Nat.reduceEqDiff, Nat.reduceAdd, Nat.reduceSub, Nat.reduceMul, Int.reduceToNat, Int.reduceLT, Int.reduceLE, Int.reduceEq, Int.reduceAdd, Int.reduceSub, Int.reduceNeg, Int.reduceBEq, Int.reduceBNe, Int.reduceMul, Int.natCast_add, Int.natCast_one, reduceCtorEq, reduceIte, s_isAgg, s_cells, t_isAgg, t_cells, yRules, @a_wrap ((k:Int) + 1) (by omega)]
      · simp only [vcRules, dRules, bRules, tyRules, xRules, pickV_true, pickV_false, implies_true, Nat.reduceLT, Nat.reduceLeDiff, Nat.reduceEqDiff, Nat.reduceAdd, Nat.reduceSub, Nat.reduceMul, Int.reduceToNat, Int.reduceLT, Int.reduceLE, Int.reduceEq, Int.reduceAdd, Int.reduceSub, Int.reduceNeg, Int.reduceBEq, Int.reduceBNe, Int.reduceMul, Int.natCast_add, Int.natCast_one, reduceCtorEq, reduceIte, s_isAgg, s_cells, t_isAgg, t_cells, yRules, (show ¬ (k:Int) < a.length by omega)]
        refine ⟨_, _, ret_d, ?_, rfl⟩
        have h4 : k = a.length := by omega
        rw [List.take_of_length_le (by omega), List.take_of_length_le (by omega)] at hi
        rw [decide_eq_true hi]

/-! ### Of -/
def DmS (x : D) : Prop := ∃ b : StepT, x = b.toD
def cmpD (x y : D) : Int := orF (cmpS (x.cell 0).toStr (y.cell 0).toStr) (cmpI (x.cell 1).toInt (y.cell 1).toInt)
def ltB (a b : StepT) : Bool := decide (orderF a b < 0)
theorem ltN_irr (a : StepT) : ¬ ltN a a := by
  rintro (h | h)
  · unfold ltS at h; rw [bl_irr] at h; cases h
  · omega
theorem ltN_trans {a b c : StepT} (h1 : ltN a b) (h2 : ltN b c) : ltN a c := by
  rcases h1 with h1 | ⟨e1, h1⟩ <;> rcases h2 with h2 | ⟨e2, h2⟩
  · exact .inl (bl_trans h1 h2)
  · exact .inl (by rw [← e2]; exact h1)
  · exact .inl (by rw [e1]; exact h2)
  · exact .inr ⟨e1.trans e2, by omega⟩
theorem ltN_neg {a b c : StepT} (h1 : ¬ ltN a b) (h2 : ¬ ltN b c) : ¬ ltN a c := by
  intro h
  rcases cmpS_cases a.name b.name with ⟨q1, _⟩ | ⟨_, q2, _⟩ | ⟨_, _, q3, _⟩
  · exact h1 (.inl q1)
  · rcases h with h | ⟨e, h⟩
    · rw [q2] at h; exact h2 (.inl h)
    · have g1 : ¬ a.at_ < b.at_ := fun g => h1 (.inr ⟨q2, g⟩)
      have g2 : ¬ b.at_ < c.at_ := fun g => h2 (.inr ⟨q2.symm.trans e, g⟩)
      omega
  · rcases h with h | ⟨e, h⟩
    · exact h2 (.inl (bl_trans q3 h))
    · exact h2 (.inl (by rw [← e]; exact q3))
theorem swoD : Swo DmS (fun x y => decide (cmpD x y < 0)) := by
  have e : ∀ a b : StepT, cmpD a.toD b.toD = orderF a b := fun _ _ => rfl
  refine ⟨fun x hx => ?_, fun x y z hx hy hz h1 h2 => ?_, fun x y z hx hy hz h1 h2 => ?_⟩
  · obtain ⟨a, rfl⟩ := hx
    rw [e]; exact decide_eq_false fun h => ltN_irr a ((order_neg a a).1 h)
  · obtain ⟨a, rfl⟩ := hx
    obtain ⟨b, rfl⟩ := hy
    obtain ⟨c, rfl⟩ := hz
    simp only [e, decide_eq_true_eq, order_neg] at h1 h2 ⊢
    exact ltN_trans h1 h2
  · obtain ⟨a, rfl⟩ := hx
    obtain ⟨b, rfl⟩ := hy
    obtain ⟨c, rfl⟩ := hz
    simp only [e, decide_eq_false_iff_not, order_neg] at h1 h2 ⊢
    exact ltN_neg h1 h2
theorem cmpOk26 : CmpOk DmS cmpD 26 [] := by
  refine ⟨fun x hx => ?_, fun s => rfl, fun x y hx hy s => ?_, swoD⟩
  · obtain ⟨b, rfl⟩ := hx; exact ⟨rfl, rfl⟩
  · obtain ⟨a, rfl⟩ := hx
    obtain ⟨b, rfl⟩ := hy
    exact c26 a b s
theorem sort25 (xs : List StepT) (hN : xs.length < 1000000) :
    ACalls Try.prog [] 25 [.osl 0 0 xs.length, .fn 26 []] [.arr 3 (xs.map StepT.toD)] (fun r s => r = .tup [] ∧ s = [.arr 3 ((sortF ltB xs).map StepT.toD)]) := by
  have hx : ∀ y ∈ xs.map StepT.toD, DmS y := fun y hy => by
    obtain ⟨b, _, rfl⟩ := List.mem_map.1 hy
    exact ⟨b, rfl⟩
  refine (sortStable_spec DmS cmpD 26 [] cmpOk26 (xs.map StepT.toD) hx xs.length (by simp) hN).mono fun r s h => ?_
  obtain ⟨rfl, zs, ρ, rfl, hA, hB, hid⟩ := h
  have e := stabled_sortF swoD hx (by simp) hA hB hid
  have e2 : (fun x y => decide (cmpD (StepT.toD x) (StepT.toD y) < 0)) = ltB := rfl
  rw [take_all, sortF_map, e2, List.drop_of_length_le (by simp), List.append_nil] at e
  exact ⟨rfl, by rw [e]⟩

def cntB (o : TimedT) : Bool := o.kind == 4
def stepOf (o : TimedT) : StepT := ⟨o.name, timeF o, o.n⟩
def allF (os : List TimedT) : List StepT := (os.filter cntB).map stepOf
def lastSame (out : List StepT) (s : StepT) : Bool := decide (0 < out.length) && (out.getD (out.length - 1) default).name == s.name && (out.getD (out.length - 1) default).value == s.value
def outStep (S : List StepT) (k : Nat) (out : List StepT) : List StepT :=
  if (decide (k + 1 < S.length) && orderF (S.getD k default) (S.getD (k + 1) default) == 0) = true then out
  else if lastSame out (S.getD k default) = true then out else out ++ [S.getD k default]
def outF (S : List StepT) : Nat → List StepT
  | 0 => []
  | k + 1 => outStep S k (outF S k)
theorem outF_len (S : List StepT) : ∀ k, (outF S k).length ≤ k
  | 0 => Nat.le_refl _
  | k + 1 => by
    have := outF_len S k
    unfold outF outStep
    split
    · omega
    · split
      · omega
      · simp only [List.length_append, List.length_cons, List.length_nil]; omega
def ofF (os : List TimedT) : List StepT := outF (sortF ltB (allF os)) (sortF ltB (allF os)).length

theorem filter_takeT {p : TimedT → Bool} {l : List TimedT} {j : Nat} (h : j < l.length) : (l.take (j + 1)).filter p = (l.take j).filter p ++ (if p (l.getD j default) = true then [l.getD j default] else []) := by
  rw [take_step l j h, List.filter_append]
  congr 1
  rw [List.filter_cons]
  split <;> simp_all
set_option maxHeartbeats 2000000 in
theorem c11 (os : List TimedT) (hl : os.length < 1000000) : Pure Try.prog 11 [.d (.sl (os.map TimedT.toD))] (.d (.sl ((ofF os).map StepT.toD))) := by
  refine Pure.of1 ?_
  refine acalls_of Try.func11 rfl rfl (by simp [Try.ntmps11]) (evC_sound rfl _ _ _ _ ?_)
  simp only [Try.ntmps11, Try.results11, argEnv, List.length_nil]
  simp only [vcRules, dRules, bRules, tyRules, xRules, pickV_true, pickV_false, implies_true, Nat.reduceLT, Nat.reduceLeDiff, Nat.reduceEqDiff, Nat.reduceAdd, Nat.reduceSub, Nat.reduceMul, Int.reduceToNat, Int.reduceLT, Int.reduceLE, Int.reduceEq, Int.reduceAdd, Int.reduceSub, Int.reduceNeg, Int.reduceBEq, Int.reduceBNe, Int.reduceMul, Int.natCast_add, Int.natCast_one, reduceCtorEq, reduceIte, s_isAgg, s_cells, t_isAgg, t_cells, yRules]
  refine for_of os.length (fun k => [(3, .osl 0 0 (allF (os.take k)).length), (4, .nils), (10, .d (.sl (os.map TimedT.toD))), (11, .d (.int .i64 os.length)), (12, .d (.int .i64 k))]) (fun k => [.arr 3 ((allF (os.take k)).map StepT.toD)]) (fun _ => True) trivial ?_ ?_
  · refine (weak_nils 3 3 rfl).trans ?_
    refine weak_to [] [0] rfl (by simp) ?_ ?_
    · simp only [vcRules, dRules, bRules, tyRules, xRules, pickV_true, pickV_false, implies_true, Nat.reduceLT, Nat.reduceLeDiff, Nat.reduceEqDiff, Nat.reduceAdd, Nat.reduceSub, Nat.reduceMul, Int.reduceToNat, Int.reduceLT, Int.reduceLE, Int.reduceEq, Int.reduceAdd, Int.reduceSub, Int.reduceNeg, Int.reduceBEq, Int.reduceBNe, Int.reduceMul, Int.natCast_add, Int.natCast_one, reduceCtorEq, reduceIte, s_isAgg, s_cells, t_isAgg, t_cells, yRules, Int.cast_ofNat_Int, allF, List.filter_nil]
    · simp only [vcRules, dRules, bRules, tyRules, xRules, pickV_true, pickV_false, implies_true, Nat.reduceLT, Nat.reduceLeDiff, Nat.reduceEqDiff, Nat.reduceAdd, Nat.reduceSub, Nat.reduceMul, Int.reduceToNat, Int.reduceLT, Int.reduceLE, Int.reduceEq, Int.reduceAdd, Int.reduceSub, Int.reduceNeg, Int.reduceBEq, Int.reduceBNe, Int.reduceMul, Int.natCast_add, Int.natCast_one, reduceCtorEq, reduceIte, s_isAgg, s_cells, t_isAgg, t_cells, yRules, allF, List.filter_nil]
  · intro k _ hk
    by_cases h : k < os.length
    · obtain ⟨o, ho⟩ : ∃ o, o = os.getD k default := ⟨_, rfl⟩
      have hf := filter_takeT (p := cntB) h
      rw [← ho] at hf
      obtain ⟨al, hal⟩ : ∃ al, al = allF (os.take k) := ⟨_, rfl⟩
      have hlen : al.length ≤ k := by
        have := List.length_filter_le cntB (os.take k)
        rw [hal, allF, List.length_map]
        have h2 : (os.take k).length ≤ k := by simp; omega
        omega
      rw [← hal]
      simp only [vcRules, dRules, bRules, tyRules, xRules, pickV_true, pickV_false, implies_true, Nat.reduceLT, Nat.reduceLeDiff, Nat.reduceEqDiff, Nat.reduceAdd, Nat.reduceSub, Nat.reduceMul, Int.reduceToNat, Int.reduceLT, Int.reduceLE, Int.reduceEq, Int.reduceAdd, Int.reduceSub, Int.reduceNeg, Int.reduceBEq, Int.reduceBNe, Int.reduceMul, Int.natCast_add, Int.natCast_one, reduceCtorEq, reduceIte, s_isAgg, s_cells, t_isAgg, t_cells, yRules, (show (k:Int) < os.length by omega), h, a_getD _ _ _ (show k < os.length by omega), ← ho]
      repeat ((with_reducible refine And.intro ?_ ?_); (focus (first | omega | (simp only [List.length_take, List.length_drop, List.length_map, List.length_append, List.length_cons]; omega) | (intros; simp_all; done) | (refine (show drawChk _ = true from ?_); kernel_rfl))))
      refine ifC.mk (fun hc => ?_) (fun hc => ?_)
      · have hst : allF (os.take (k + 1)) = al ++ [stepOf o] := by rw [allF, hf, if_pos (show cntB o = true from hc), List.map_append, hal, allF]; rfl
        rw [hst]
        refine ⟨by kernel_rfl, callF_pure (c24 _) ?_⟩
        simp only [vcRules, dRules, bRules, tyRules, xRules, pickV_true, pickV_false, implies_true, Nat.reduceLT, Nat.reduceLeDiff, Nat.reduceEqDiff, Nat.reduceAdd, Nat.reduceSub, Nat.reduceMul, Int.reduceToNat, Int.reduceLT, Int.reduceLE, Int.reduceEq, Int.reduceAdd, Int.reduceSub, Int.reduceNeg, Int.reduceBEq, Int.reduceBNe, Int.reduceMul, Int.natCast_add, Int.natCast_one, reduceCtorEq, reduceIte, s_isAgg, s_cells, t_isAgg, t_cells, yRules, take_all]
        repeat ((with_reducible refine And.intro ?_ ?_); (focus (first | omega | (simp only [List.length_take, List.length_drop, List.length_map, List.length_append, List.length_cons]; omega) | (intros; simp_all; done) | (refine (show drawChk _ = true from ?_); kernel_rfl))))
        refine weak_to [] [3] rfl (by simp) ?_ ?_
        · simp only [vcRules, dRules, bRules, tyRules, xRules, pickV_true, pickV_false, implies_true, Nat.reduceLT, Nat.reduceLeDiff, Nat.reduceEqDiff, Nat.reduceAdd, Nat.reduceSub, Nat.reduceMul, Int.reduceToNat, Int.reduceLT, Int.reduceLE, Int.reduceEq, Int.reduceAdd, Int.reduceSub, Int.reduceNeg, Int.reduceBEq, Int.reduceBNe, Int.reduceMul, Int.natCast_add, Int.natCast_one, reduceCtorEq, reduceIte, s_isAgg, s_cells, t_isAgg, t_cells, yRules, @a_wrap ((k:Int) + 1) (by omega)]
        · simp only [vcRules, dRules, bRules, tyRules, xRules, pickV_true, pickV_false, implies_true, Nat.reduceLT, Nat.reduceLeDiff, Nat.reduceEqDiff, Nat.reduceAdd, Nat.reduceSub, Nat.reduceMul, Int.reduceToNat, Int.reduceLT, Int.reduceLE, Int.reduceEq, Int.reduceAdd, Int.reduceSub, Int.reduceNeg, Int.reduceBEq, Int.reduceBNe, Int.reduceMul, Int.natCast_add, Int.natCast_one, reduceCtorEq, reduceIte, s_isAgg, s_cells, t_isAgg, t_cells, yRules, List.map_append]
          rfl
      · have hst : allF (os.take (k + 1)) = al := by rw [allF, hf, if_neg (by rw [show cntB o = false from hc]; simp), List.append_nil, hal, allF]
        rw [hst]
        refine weak_to [] [0] rfl (by simp) ?_ ?_
        · simp only [vcRules, dRules, bRules, tyRules, xRules, pickV_true, pickV_false, implies_true, Nat.reduceLT, Nat.reduceLeDiff, Nat.reduceEqDiff, Nat.reduceAdd, Nat.reduceSub, Nat.reduceMul, Int.reduceToNat, Int.reduceLT, Int.reduceLE, Int.reduceEq, Int.reduceAdd, Int.reduceSub, Int.reduceNeg, Int.reduceBEq, Int.reduceBNe, Int.reduceMul, Int.natCast_add, Int.natCast_one, reduceCtorEq, reduceIte, s_isAgg, s_cells, t_isAgg, t_cells, yRules, @a_wrap ((k:Int) + 1) (by omega)]
        · simp only [vcRules, dRules, bRules, tyRules, xRules, pickV_true, pickV_false, implies_true, Nat.reduceLT, Nat.reduceLeDiff, Nat.reduceEqDiff, Nat.reduceAdd, Nat.reduceSub, Nat.reduceMul, Int.reduceToNat, Int.reduceLT, Int.reduceLE, Int.reduceEq, Int.reduceAdd, Int.reduceSub, Int.reduceNeg, Int.reduceBEq, Int.reduceBNe, Int.reduceMul, Int.natCast_add, Int.natCast_one, reduceCtorEq, reduceIte, s_isAgg, s_cells, t_isAgg, t_cells, yRules]
    · have : k = os.length := by omega
      subst this
      have hlen : (allF os).length ≤ os.length := by
        have := List.length_filter_le cntB os
        rw [allF, List.length_map]; omega
      simp only [vcRules, dRules, bRules, tyRules, xRules, pickV_true, pickV_false, implies_true, Nat.reduceLT, Nat.reduceLeDiff, Nat.reduceEqDiff, Nat.reduceAdd, Nat.reduceSub, Nat.reduceMul, Int.reduceToNat, Int.reduceLT, Int.reduceLE, Int.reduceEq, Int.reduceAdd, Int.reduceSub, Int.reduceNeg, Int.reduceBEq, Int.reduceBNe, Int.reduceMul, Int.natCast_add, Int.natCast_one, reduceCtorEq, reduceIte, s_isAgg, s_cells, t_isAgg, t_cells, yRules, (show ¬ (os.length:Int) < os.length by omega), List.take_length]
      refine callF_go ((sort25 (allF os) (by omega)).mono fun r s hr => ?_)
      obtain ⟨rfl, rfl⟩ := hr
      obtain ⟨S, hS⟩ : ∃ S, S = sortF ltB (allF os) := ⟨_, rfl⟩
      have hSl : (allF os).length = S.length := by rw [hS, sortF_length]
      rw [ofF, ← hS, hSl]
      simp only [vcRules, dRules, bRules, tyRules, xRules, pickV_true, pickV_false, implies_true, Nat.reduceLT, Nat.reduceLeDiff, Nat.reduceEqDiff, Nat.reduceAdd, Nat.reduceSub, Nat.reduceMul, Int.reduceToNat, Int.reduceLT, Int.reduceLE, Int.reduceEq, Int.reduceAdd, Int.reduceSub, Int.reduceNeg, Int.reduceBEq, Int.reduceBNe, Int.reduceMul, Int.natCast_add, Int.natCast_one, reduceCtorEq, reduceIte, s_isAgg, s_cells, t_isAgg, t_cells, yRules]
      refine for_of S.length (fun k => [(3, .osl 0 0 S.length), (4, .osl 1 0 (outF S k).length), (35, .osl 0 0 S.length), (36, .d (.int .i64 S.length)), (37, .d (.int .i64 k))]) (fun k => [.arr 3 (S.map StepT.toD), .arr 3 ((outF S k).map StepT.toD)]) (fun _ => True) trivial ?_ ?_
      · refine (weak_nils 4 3 rfl).trans ?_
        refine weak_to [] [0, 1] rfl (by simp) ?_ ?_
        · simp only [vcRules, dRules, bRules, tyRules, xRules, pickV_true, pickV_false, implies_true, Nat.reduceLT, Nat.reduceLeDiff, Nat.reduceEqDiff, Nat.reduceAdd, Nat.reduceSub, Nat.reduceMul, Int.reduceToNat, Int.reduceLT, Int.reduceLE, Int.reduceEq, Int.reduceAdd, Int.reduceSub, Int.reduceNeg, Int.reduceBEq, Int.reduceBNe, Int.reduceMul, Int.natCast_add, Int.natCast_one, reduceCtorEq, reduceIte, s_isAgg, s_cells, t_isAgg, t_cells, yRules, Int.cast_ofNat_Int, outF]
        · simp only [vcRules, dRules, bRules, tyRules, xRules, pickV_true, pickV_false, implies_true, Nat.reduceLT, Nat.reduceLeDiff, Nat.reduceEqDiff, Nat.reduceAdd, Nat.reduceSub, Nat.reduceMul, Int.reduceToNat, Int.reduceLT, Int.reduceLE, Int.reduceEq, Int.reduceAdd, Int.reduceSub, Int.reduceNeg, Int.reduceBEq, Int.reduceBNe, Int.reduceMul, Int.natCast_add, Int.natCast_one, reduceCtorEq, reduceIte, s_isAgg, s_cells, t_isAgg, t_cells, yRules, outF]
      · intro k _ hk
        by_cases h : k < S.length
        · obtain ⟨out, hout⟩ : ∃ out, out = outF S k := ⟨_, rfl⟩
          have hol : out.length ≤ k := by rw [hout]; exact outF_len S k
          obtain ⟨b, hb⟩ : ∃ b, b = S.getD k default := ⟨_, rfl⟩
          have hst : outF S (k + 1) = outStep S k out := by rw [hout]; rfl
          rw [hst, ← hout]
          unfold outStep
          rw [← hb]
          by_cases hn : k + 1 < S.length
          · obtain ⟨c, hc⟩ : ∃ c, c = S.getD (k + 1) default := ⟨_, rfl⟩
            rw [decide_eq_true hn, Bool.true_and, ← hc]
            simp only [vcRules, dRules, bRules, tyRules, xRules, pickV_true, pickV_false, implies_true, Nat.reduceLT, Nat.reduceLeDiff, Nat.reduceEqDiff, Nat.reduceAdd, Nat.reduceSub, Nat.reduceMul, Int.reduceToNat, Int.reduceLT, Int.reduceLE, Int.reduceEq, Int.reduceAdd, Int.reduceSub, Int.reduceNeg, Int.reduceBEq, Int.reduceBNe, Int.reduceMul, Int.natCast_add, Int.natCast_one, reduceCtorEq, reduceIte, s_isAgg, s_cells, t_isAgg, t_cells, yRules, (show (k:Int) < S.length by omega), h, a_getD _ _ _ (show k < S.length by omega), ← hb, @a_wrap ((k:Int) + 1) (by omega), (show (k:Int) + 1 < S.length by omega), toNat_succ, hn, a_getD _ _ _ (show k + 1 < S.length by omega), ← hc]
            repeat ((with_reducible refine And.intro ?_ ?_); (focus (first | omega | (simp only [List.length_take, List.length_drop, List.length_map, List.length_append, List.length_cons]; omega) | (intros; simp_all; done) | (refine (show drawChk _ = true from ?_); kernel_rfl))))
            refine callG_pure (fun _ => c26 b c) ?_
            simp only [vcRules, dRules, bRules, tyRules, xRules, pickV_true, pickV_false, implies_true, Nat.reduceLT, Nat.reduceLeDiff, Nat.reduceEqDiff, Nat.reduceAdd, Nat.reduceSub, Nat.reduceMul, Int.reduceToNat, Int.reduceLT, Int.reduceLE, Int.reduceEq, Int.reduceAdd, Int.reduceSub, Int.reduceNeg, Int.reduceBEq, Int.reduceBNe, Int.reduceMul, Int.natCast_add, Int.natCast_one, reduceCtorEq, reduceIte, s_isAgg, s_cells, t_isAgg, t_cells, yRules]
            refine ifC.mk (fun h2 => ?_) (fun h2 => ?_)
            · rw [if_pos h2]
              refine weak_to [] [0, 1] rfl (by simp) ?_ rfl
              simp only [vcRules, dRules, bRules, tyRules, xRules, pickV_true, pickV_false, implies_true, Nat.reduceLT, Nat.reduceLeDiff, Nat.reduceEqDiff, Nat.reduceAdd, Nat.reduceSub, Nat.reduceMul, Int.reduceToNat, Int.reduceLT, Int.reduceLE, Int.reduceEq, Int.reduceAdd, Int.reduceSub, Int.reduceNeg, Int.reduceBEq, Int.reduceBNe, Int.reduceMul, Int.natCast_add, Int.natCast_one, reduceCtorEq, reduceIte, s_isAgg, s_cells, t_isAgg, t_cells, yRules, @a_wrap ((k:Int) + 1) (by omega)]
            · rw [if_neg (by rw [h2]; simp)]
              by_cases h0 : 0 < out.length
              · have e1 : IntKind.i64.wrap ((out.length : Int) - 1) = ((out.length - 1 : Nat) : Int) := by rw [wrap64 (by omega) (by omega)]; omega
                obtain ⟨d, hd⟩ : ∃ d, d = out.getD (out.length - 1) default := ⟨_, rfl⟩
                have hls : lastSame out b = (d.name == b.name && d.value == b.value) := by unfold lastSame; rw [decide_eq_true h0, Bool.true_and, hd]
                rw [hls]
                simp only [vcRules, dRules, bRules, tyRules, xRules, pickV_true, pickV_false, implies_true, Nat.reduceLT, Nat.reduceLeDiff, Nat.reduceEqDiff, Nat.reduceAdd, Nat.reduceSub, Nat.reduceMul, Int.reduceToNat, Int.reduceLT, Int.reduceLE, Int.reduceEq, Int.reduceAdd, Int.reduceSub, Int.reduceNeg, Int.reduceBEq, Int.reduceBNe, Int.reduceMul, Int.natCast_add, Int.natCast_one, reduceCtorEq, reduceIte, s_isAgg, s_cells, t_isAgg, t_cells, yRules, (show (0:Int) < out.length by omega), e1, (show ((out.length - 1 : Nat) : Int) < out.length by omega), (show out.length - 1 < out.length by omega), a_getD _ _ _ (show out.length - 1 < out.length by omega), ← hd]
                repeat ((with_reducible refine And.intro ?_ ?_); (focus (first | omega | (simp only [List.length_take, List.length_drop, List.length_map, List.length_append, List.length_cons]; omega) | (intros; simp_all; done) | (refine (show drawChk _ = true from ?_); kernel_rfl))))
                refine ifC.mk (fun h3 => ?_) (fun h3 => ?_)
                · rw [if_pos h3]
                  refine weak_to [] [0, 1] rfl (by simp) ?_ rfl
                  simp only [vcRules, dRules, bRules, tyRules, xRules, pickV_true, pickV_false, implies_true, Nat.reduceLT, Nat.reduceLeDiff, Nat.reduceEqDiff, Nat.reduceAdd, Nat.reduceSub, Nat.reduceMul, Int.reduceToNat, Int.reduceLT, Int.reduceLE, Int.reduceEq, Int.reduceAdd, Int.reduceSub, Int.reduceNeg, Int.reduceBEq, Int.reduceBNe, Int.reduceMul, Int.natCast_add, Int.natCast_one, reduceCtorEq, reduceIte, s_isAgg, s_cells, t_isAgg, t_cells, yRules, @a_wrap ((k:Int) + 1) (by omega)]
                · rw [if_neg (by rw [h3]; simp)]
                  (try simp only [vcRules, dRules, bRules, tyRules, xRules, pickV_true, pickV_false, implies_true, Nat.reduceLT, Nat.reduceLeDiff, Nat.reduceEqDiff, Nat.reduceAdd, Nat.reduceSub, Nat.reduceMul, Int.reduceToNat, Int.reduceLT, Int.reduceLE, Int.reduceEq, Int.reduceAdd, Int.reduceSub, Int.reduceNeg, Int.reduceBEq, Int.reduceBNe, Int.reduceMul, Int.natCast_add, Int.natCast_one, reduceCtorEq, reduceIte, s_isAgg, s_cells, t_isAgg, t_cells, yRules, take_all])
                  repeat ((with_reducible refine And.intro ?_ ?_); (focus (first | omega | (simp only [List.length_take, List.length_drop, List.length_map, List.length_append, List.length_cons]; omega) | (intros; simp_all; done) | (refine (show drawChk _ = true from ?_); kernel_rfl))))
                  refine weak_to [] [0, 4] rfl (by simp) ?_ ?_
                  · simp only [vcRules, dRules, bRules, tyRules, xRules, pickV_true, pickV_false, implies_true, Nat.reduceLT, Nat.reduceLeDiff, Nat.reduceEqDiff, Nat.reduceAdd, Nat.reduceSub, Nat.reduceMul, Int.reduceToNat, Int.reduceLT, Int.reduceLE, Int.reduceEq, Int.reduceAdd, Int.reduceSub, Int.reduceNeg, Int.reduceBEq, Int.reduceBNe, Int.reduceMul, Int.natCast_add, Int.natCast_one, reduceCtorEq, reduceIte, s_isAgg, s_cells, t_isAgg, t_cells, yRules, @a_wrap ((k:Int) + 1) (by omega)]
                  · simp only [vcRules, dRules, bRules, tyRules, xRules, pickV_true, pickV_false, implies_true, Nat.reduceLT, Nat.reduceLeDiff, Nat.reduceEqDiff, Nat.reduceAdd, Nat.reduceSub, Nat.reduceMul, Int.reduceToNat, Int.reduceLT, Int.reduceLE, Int.reduceEq, Int.reduceAdd, Int.reduceSub, Int.reduceNeg, Int.reduceBEq, Int.reduceBNe, Int.reduceMul, Int.natCast_add, Int.natCast_one, reduceCtorEq, reduceIte, s_isAgg, s_cells, t_isAgg, t_cells, yRules, List.map_append]
              · have e0 : out = [] := List.eq_nil_of_length_eq_zero (by omega)
                have hls : lastSame out b = false := by unfold lastSame; rw [decide_eq_false h0]; rfl
                rw [hls, if_neg (by simp)]
                rw [e0]
                simp only [vcRules, dRules, bRules, tyRules, xRules, pickV_true, pickV_false, implies_true, Nat.reduceLT, Nat.reduceLeDiff, Nat.reduceEqDiff, Nat.reduceAdd, Nat.reduceSub, Nat.reduceMul, Int.reduceToNat, Int.reduceLT, Int.reduceLE, Int.reduceEq, Int.reduceAdd, Int.reduceSub, Int.reduceNeg, Int.reduceBEq, Int.reduceBNe, Int.reduceMul, Int.natCast_add, Int.natCast_one, reduceCtorEq, reduceIte, s_isAgg, s_cells, t_isAgg, t_cells, yRules, Int.cast_ofNat_Int, (show ¬ (0:Int) < 0 by omega)]
                repeat ((with_reducible refine And.intro ?_ ?_); (focus (first | omega | (simp only [List.length_take, List.length_drop, List.length_map, List.length_append, List.length_cons]; omega) | (intros; simp_all; done) | (refine (show drawChk _ = true from ?_); kernel_rfl))))
                refine weak_to [] [0, 4] rfl (by simp) ?_ ?_
                · simp only [vcRules, dRules, bRules, tyRules, xRules, pickV_true, pickV_false, implies_true, Nat.reduceLT, Nat.reduceLeDiff, Nat.reduceEqDiff, Nat.reduceAdd, Nat.reduceSub, Nat.reduceMul, Int.reduceToNat, Int.reduceLT, Int.reduceLE, Int.reduceEq, Int.reduceAdd, Int.reduceSub, Int.reduceNeg, Int.reduceBEq, Int.reduceBNe, Int.reduceMul, Int.natCast_add, Int.natCast_one, reduceCtorEq, reduceIte, s_isAgg, s_cells, t_isAgg, t_cells, yRules, @a_wrap ((k:Int) + 1) (by omega)]
                · simp only [vcRules, dRules, bRules, tyRules, xRules, pickV_true, pickV_false, implies_true, Nat.reduceLT, Nat.reduceLeDiff, Nat.reduceEqDiff, Nat.reduceAdd, Nat.reduceSub, Nat.reduceMul, Int.reduceToNat, Int.reduceLT, Int.reduceLE, Int.reduceEq, Int.reduceAdd, Int.reduceSub, Int.reduceNeg, Int.reduceBEq, Int.reduceBNe, Int.reduceMul, Int.natCast_add, Int.natCast_one, reduceCtorEq, reduceIte, s_isAgg, s_cells, t_isAgg, t_cells, yRules, List.map_append]
          · rw [decide_eq_false hn, Bool.false_and, if_neg (by simp)]
            simp only [vcRules, dRules, bRules, tyRules, xRules, pickV_true, pickV_false, implies_true, Nat.reduceLT, Nat.reduceLeDiff, Nat.reduceEqDiff, Nat.reduceAdd, Nat.reduceSub, Nat.reduceMul, Int.reduceToNat, Int.reduceLT, Int.reduceLE, Int.reduceEq, Int.reduceAdd, Int.reduceSub, Int.reduceNeg, Int.reduceBEq, Int.reduceBNe, Int.reduceMul, Int.natCast_add, Int.natCast_one, reduceCtorEq, reduceIte, s_isAgg, s_cells, t_isAgg, t_cells, yRules, (show (k:Int) < S.length by omega), h, a_getD _ _ _ (show k < S.length by omega), ← hb, @a_wrap ((k:Int) + 1) (by omega), (show ¬ (k:Int) + 1 < S.length by omega), toNat_succ, hn]
            repeat ((with_reducible refine And.intro ?_ ?_); (focus (first | omega | (simp only [List.length_take, List.length_drop, List.length_map, List.length_append, List.length_cons]; omega) | (intros; simp_all; done) | (refine (show drawChk _ = true from ?_); kernel_rfl))))
            refine callG_pure (v := .d (.int .i64 0)) (fun h => by cases h) ?_
            simp only [vcRules, dRules, bRules, tyRules, xRules, pickV_true, pickV_false, implies_true, Nat.reduceLT, Nat.reduceLeDiff, Nat.reduceEqDiff, Nat.reduceAdd, Nat.reduceSub, Nat.reduceMul, Int.reduceToNat, Int.reduceLT, Int.reduceLE, Int.reduceEq, Int.reduceAdd, Int.reduceSub, Int.reduceNeg, Int.reduceBEq, Int.reduceBNe, Int.reduceMul, Int.natCast_add, Int.natCast_one, reduceCtorEq, reduceIte, s_isAgg, s_cells, t_isAgg, t_cells, yRules]
            by_cases h0 : 0 < out.length
            · have e1 : IntKind.i64.wrap ((out.length : Int) - 1) = ((out.length - 1 : Nat) : Int) := by rw [wrap64 (by omega) (by omega)]; omega
              obtain ⟨d, hd⟩ : ∃ d, d = out.getD (out.length - 1) default := ⟨_, rfl⟩
              have hls : lastSame out b = (d.name == b.name && d.value == b.value) := by unfold lastSame; rw [decide_eq_true h0, Bool.true_and, hd]
              rw [hls]
              simp only [vcRules, dRules, bRules, tyRules, xRules, pickV_true, pickV_false, implies_true, Nat.reduceLT, Nat.reduceLeDiff, Nat.reduceEqDiff, Nat.reduceAdd, Nat.reduceSub, Nat.reduceMul, Int.reduceToNat, Int.reduceLT, Int.reduceLE, Int.reduceEq, Int.reduceAdd, Int.reduceSub, Int.reduceNeg, Int.reduceBEq, Int.reduceBNe, Int.reduceMul, Int.natCast_add, Int.natCast_one, reduceCtorEq, reduceIte, s_isAgg, s_cells, t_isAgg, t_cells, yRules, (show (0:Int) < out.length by omega), e1, (show ((out.length - 1 : Nat) : Int) < out.length by omega), (show out.length - 1 < out.length by omega), a_getD _ _ _ (show out.length - 1 < out.length by omega), ← hd]
              repeat ((with_reducible refine And.intro ?_ ?_); (focus (first | omega | (simp only [List.length_take, List.length_drop, List.length_map, List.length_append, List.length_cons]; omega) | (intros; simp_all; done) | (refine (show drawChk _ = true from ?_); kernel_rfl))))
              refine ifC.mk (fun h3 => ?_) (fun h3 => ?_)
              · rw [if_pos h3]
                refine weak_to [] [0, 1] rfl (by simp) ?_ rfl
                simp only [vcRules, dRules, bRules, tyRules, xRules, pickV_true, pickV_false, implies_true, Nat.reduceLT, Nat.reduceLeDiff, Nat.reduceEqDiff, Nat.reduceAdd, Nat.reduceSub, Nat.reduceMul, Int.reduceToNat, Int.reduceLT, Int.reduceLE, Int.reduceEq, Int.reduceAdd, Int.reduceSub, Int.reduceNeg, Int.reduceBEq, Int.reduceBNe, Int.reduceMul, Int.natCast_add, Int.natCast_one, reduceCtorEq, reduceIte, s_isAgg, s_cells, t_isAgg, t_cells, yRules, @a_wrap ((k:Int) + 1) (by omega)]
              · rw [if_neg (by rw [h3]; simp)]
                (try simp only [vcRules, dRules, bRules, tyRules, xRules, pickV_true, pickV_false, implies_true, Nat.reduceLT, Nat.reduceLeDiff, Nat.reduceEqDiff, Nat.reduceAdd, Nat.reduceSub, Nat.reduceMul, Int.reduceToNat, Int.reduceLT, Int.reduceLE, Int.reduceEq, Int.reduceAdd, Int.reduceSub, Int.reduceNeg, Int.reduceBEq, Int.reduceBNe, Int.reduceMul, Int.natCast_add, Int.natCast_one, reduceCtorEq, reduceIte, s_isAgg, s_cells, t_isAgg, t_cells, yRules, take_all])
                repeat ((with_reducible refine And.intro ?_ ?_); (focus (first | omega | (simp only [List.length_take, List.length_drop, List.length_map, List.length_append, List.length_cons]; omega) | (intros; simp_all; done) | (refine (show drawChk _ = true from ?_); kernel_rfl))))
                refine weak_to [] [0, 4] rfl (by simp) ?_ ?_
                · simp only [vcRules, dRules, bRules, tyRules, xRules, pickV_true, pickV_false, implies_true, Nat.reduceLT, Nat.reduceLeDiff, Nat.reduceEqDiff, Nat.reduceAdd, Nat.reduceSub, Nat.reduceMul, Int.reduceToNat, Int.reduceLT, Int.reduceLE, Int.reduceEq, Int.reduceAdd, Int.reduceSub, Int.reduceNeg, Int.reduceBEq, Int.reduceBNe, Int.reduceMul, Int.natCast_add, Int.natCast_one, reduceCtorEq, reduceIte, s_isAgg, s_cells, t_isAgg, t_cells, yRules, @a_wrap ((k:Int) + 1) (by omega)]
                · simp only [vcRules, dRules, bRules, tyRules, xRules, pickV_true, pickV_false, implies_true, Nat.reduceLT, Nat.reduceLeDiff, Nat.reduceEqDiff, Nat.reduceAdd, Nat.reduceSub, Nat.reduceMul, Int.reduceToNat, Int.reduceLT, Int.reduceLE, Int.reduceEq, Int.reduceAdd, Int.reduceSub, Int.reduceNeg, Int.reduceBEq, Int.reduceBNe, Int.reduceMul, Int.natCast_add, Int.natCast_one, reduceCtorEq, reduceIte, s_isAgg, s_cells, t_isAgg, t_cells, yRules, List.map_append]
            · have e0 : out = [] := List.eq_nil_of_length_eq_zero (by omega)
              have hls : lastSame out b = false := by unfold lastSame; rw [decide_eq_false h0]; rfl
              rw [hls, if_neg (by simp)]
              rw [e0]
              simp only [vcRules, dRules, bRules, tyRules, xRules, pickV_true, pickV_false, implies_true, Nat.reduceLT, Nat.reduceLeDiff, Nat.reduceEqDiff, Nat.reduceAdd, Nat.reduceSub, Nat.reduceMul, Int.reduceToNat, Int.reduceLT, Int.reduceLE, Int.reduceEq, Int.reduceAdd, Int.reduceSub, Int.reduceNeg, Int.reduceBEq, Int.reduceBNe, Int.reduceMul, Int.natCast_add, Int.natCast_one, reduceCtorEq, reduceIte, s_isAgg, s_cells, t_isAgg, t_cells, yRules, Int.cast_ofNat_Int, (show ¬ (0:Int) < 0 by omega)]
              repeat ((with_reducible refine And.intro ?_ ?_); (focus (first | omega | (simp only [List.length_take, List.length_drop, List.length_map, List.length_append, List.length_cons]; omega) | (intros; simp_all; done) | (refine (show drawChk _ = true from ?_); kernel_rfl))))
              refine weak_to [] [0, 4] rfl (by simp) ?_ ?_
              · simp only [vcRules, dRules, bRules, tyRules, xRules, pickV_true, pickV_false, implies_true, Nat.reduceLT, Nat.reduceLeDiff, Nat.reduceEqDiff, Nat.reduceAdd, Nat.reduceSub, Nat.reduceMul, Int.reduceToNat, Int.reduceLT, Int.reduceLE, Int.reduceEq, Int.reduceAdd, Int.reduceSub, Int.reduceNeg, Int.reduceBEq, Int.reduceBNe, Int.reduceMul, Int.natCast_add, Int.natCast_one, reduceCtorEq, reduceIte, s_isAgg, s_cells, t_isAgg, t_cells, yRules, @a_wrap ((k:Int) + 1) (by omega)]
              · simp only [vcRules, dRules, bRules, tyRules, xRules, pickV_true, pickV_false, implies_true, Nat.reduceLT, Nat.reduceLeDiff, Nat.reduceEqDiff, Nat.reduceAdd, Nat.reduceSub, Nat.reduceMul, Int.reduceToNat, Int.reduceLT, Int.reduceLE, Int.reduceEq, Int.reduceAdd, Int.reduceSub, Int.reduceNeg, Int.reduceBEq, Int.reduceBNe, Int.reduceMul, Int.natCast_add, Int.natCast_one, reduceCtorEq, reduceIte, s_isAgg, s_cells, t_isAgg, t_cells, yRules, List.map_append]
        · have : k = S.length := by omega
          subst this
          simp only [vcRules, dRules, bRules, tyRules, xRules, pickV_true, pickV_false, implies_true, Nat.reduceLT, Nat.reduceLeDiff, Nat.reduceEqDiff, Nat.reduceAdd, Nat.reduceSub, Nat.reduceMul, Int.reduceToNat, Int.reduceLT, Int.reduceLE, Int.reduceEq, Int.reduceAdd, Int.reduceSub, Int.reduceNeg, Int.reduceBEq, Int.reduceBNe, Int.reduceMul, Int.natCast_add, Int.natCast_one, reduceCtorEq, reduceIte, s_isAgg, s_cells, t_isAgg, t_cells, yRules, (show ¬ (S.length:Int) < S.length by omega)]
          refine ⟨_, _, ret_data rfl ?_, rfl, rfl⟩
          simp only [vcRules, dRules, bRules, tyRules, xRules, pickV_true, pickV_false, implies_true, Nat.reduceLT, Nat.reduceLeDiff, Nat.reduceEqDiff, Nat.reduceAdd, Nat.reduceSub, Nat.reduceMul, Int.reduceToNat, Int.reduceLT, Int.reduceLE, Int.reduceEq, Int.reduceAdd, Int.reduceSub, Int.reduceNeg, Int.reduceBEq, Int.reduceBNe, Int.reduceMul, Int.natCast_add, Int.natCast_one, reduceCtorEq, reduceIte, s_isAgg, s_cells, t_isAgg, t_cells, yRules, take_all]
end Ytlelaieadgkemaa
end Go.Proofs
