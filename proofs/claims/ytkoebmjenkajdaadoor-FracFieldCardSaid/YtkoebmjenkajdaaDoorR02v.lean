/- A part of the proof: contracts of functions of this seat, and lemmas. No condition beyond those stated. -/
import Derived.Test.YtkoebmjenkajdaaDoorR02r
set_option linter.unusedVariables false
set_option linter.unusedSimpArgs false
set_option linter.unusedSectionVars false
set_option linter.unnecessarySimpa false
set_option linter.unusedSimpArgs false
set_option linter.unusedVariables false
set_option maxRecDepth 100000
namespace Go.Proofs
open Go.AM
namespace YtkoebmjenkajdaaDoor
/-! ### a sum does not depend on the order -/
def lcS (m : Nat) (a : FracT) : Nat := m / Nat.gcd m a.q.natAbs * a.q.natAbs
theorem lcS_eq (m : Nat) (a : FracT) : lcS m a = Nat.lcm m a.q.natAbs := by
  unfold lcS Nat.lcm
  rw [Nat.div_mul_right_comm (Nat.gcd_dvd_left _ _)]
theorem lcS_comm (m : Nat) (a b : FracT) : lcS (lcS m a) b = lcS (lcS m b) a := by
  simp only [lcS_eq]
  rw [Nat.lcm_assoc, Nat.lcm_comm a.q.natAbs, ← Nat.lcm_assoc]
theorem lcS_fold_dvd : ∀ {l : List FracT} {m : Nat}, m ∣ l.foldl lcS m
  | [], m => Nat.dvd_refl _
  | a :: l, m => Nat.dvd_trans lcm_dvd.1 (lcS_fold_dvd (l := l))
theorem lcS_pos : ∀ {l : List FracT} {m : Nat}, 1 ≤ m → (∀ a ∈ l, a.Ok) → 1 ≤ l.foldl lcS m
  | [], m, h, _ => h
  | a :: l, m, h, ho => lcS_pos (l := l) (by
      have ok := ho a (List.mem_cons_self ..)
      exact Nat.mul_pos (Nat.div_pos (Nat.gcd_le_left _ h) (Nat.gcd_pos_of_pos_left _ h)) ok.q0) (fun b hb => ho b (List.mem_cons_of_mem _ hb))
theorem comF_char : ∀ {l : List FracT} {m : Nat}, 1 ≤ m → m ≤ 1000000000000000 → comF l m = if (l.all okF) = true ∧ l.foldl lcS m ≤ 1000000000000000 then some (l.foldl lcS m) else none
  | [], m, h, h2 => by rw [if_pos ⟨rfl, h2⟩]; rfl
  | a :: l, m, h, h2 => by
    unfold comF
    simp only [List.all_cons, List.foldl_cons, Bool.and_eq_true]
    by_cases ha : okF a = true
    · rw [if_pos ha]
      have ok := okF_iff.1 ha
      have h0 : 1 ≤ lcS m a := Nat.mul_pos (Nat.div_pos (Nat.gcd_le_left _ h) (Nat.gcd_pos_of_pos_left _ h)) ok.q0
      show (if lcS m a ≤ 1000000000000000 then comF l (lcS m a) else none) = _
      by_cases hl : lcS m a ≤ 1000000000000000
      · rw [if_pos hl, comF_char h0 hl]
        simp only [ha, true_and]
      · rw [if_neg hl]
        by_cases hall : l.all okF = true
        · have hp := lcS_pos (l := l) h0 (fun b hb => okF_iff.1 (List.all_eq_true.1 hall b hb))
          have := Nat.le_of_dvd hp (lcS_fold_dvd (l := l) (m := lcS m a))
          rw [if_neg (fun k => by omega)]
        · rw [if_neg (fun k => hall k.1.2)]
    · rw [if_neg ha, if_neg (fun k => ha k.1.1)]
theorem comF_perm {l l' : List FracT} (p : l.Perm l') : comF l 1 = comF l' 1 := by
  rw [comF_char (by omega) (by omega), comF_char (by omega) (by omega)]
  have e1 : l.foldl lcS 1 = l'.foldl lcS 1 := List.Perm.foldl_eq' p (fun x _ y _ z => lcS_comm z x y) 1
  have e2 : l.all okF = l'.all okF := by
    rw [Bool.eq_iff_iff, List.all_eq_true, List.all_eq_true]
    exact ⟨fun h x hx => h x (p.mem_iff.2 hx), fun h x hx => h x (p.mem_iff.1 hx)⟩
  rw [e1, e2]
theorem pmF_comm (m : Nat) (s : Nat × Nat) (a b : FracT) : pmF m (pmF m s a) b = pmF m (pmF m s b) a := by
  unfold pmF
  generalize a.n.natAbs * (m / a.q.natAbs) = x
  generalize b.n.natAbs * (m / b.q.natAbs) = y
  by_cases h1 : a.n < 0 <;> by_cases h2 : b.n < 0 <;> simp only [h1, h2, if_true, if_false, Prod.mk.injEq, and_true, true_and] <;> omega
theorem pmL_perm {l l' : List FracT} (p : l.Perm l') (m : Nat) : pmL l m = pmL l' m := List.Perm.foldl_eq' p (fun x _ y _ z => pmF_comm m z x y) (0, 0)
theorem sumL_perm {l l' : List FracT} (p : l.Perm l') : sumL l = sumL l' := by
  unfold sumL
  rw [p.length_eq, comF_perm p]
  split
  · rfl
  · cases h : comF l' 1 with
    | none => rfl
    | some m =>
      obtain ⟨m1, _, _, _⟩ := comF_spec (by omega) (by omega) h
      simp only
      rw [fin_norm (tot_val l m) m1, fin_norm (tot_val l' m) m1, pmL_perm p]
theorem take_allF (l : List D) (n : Nat) (h : n = l.length) : l.take n = l := by subst h; exact List.take_length
theorem rev_get {l : List FracT} {j : Nat} (h : j < l.length) : l.getD (l.length - 1 - j) default = l.reverse.getD j default := by
  rw [List.getD_eq_getElem?_getD, List.getD_eq_getElem?_getD, List.getElem?_reverse h]
theorem c20 (l : List FracT) (hl : l.length ≤ 200) : Pure Tryd.prog G2 20 [.d (.sl (l.map FracT.toD))] (.d (.sl (l.reverse.map FracT.toD))) := by
  refine Pure.of1 ?_
  refine acalls_of Tryd.func20 rfl rfl (by simp [Tryd.ntmps20]) (evC_sound rfl _ _ _ _ ?_)
  simp only [Tryd.ntmps20, Tryd.results20, argEnv, List.length_nil]
  simp only [vcRules, dRules, bRules, tyRules, xRules, pickV_true, pickV_false, implies_true, Nat.reduceLT, Nat.reduceLeDiff, Nat.reduceEqDiff, Nat.reduceAdd, Nat.reduceSub, Nat.reduceMul, Int.reduceToNat, Int.reduceLT, Int.reduceLE, Int.reduceEq, Int.reduceAdd, Int.reduceSub, Int.reduceNeg, Int.reduceBEq, Int.reduceBNe, Int.reduceMul, Int.natCast_add, Int.natCast_one, reduceCtorEq, reduceIte, wN_isAgg, wN_cells, f_isAgg, f_cells, cRules, yRules]
  refine for_of l.length (fun j => [(0, .d (.sl (l.map FracT.toD))), (3, .osl 0 0 j), (4, .d (.int .i64 ((l.length : Int) - 1 - (j : Int))))]) (fun j => [.arr 2 ((l.reverse.take j).map FracT.toD)]) (fun _ => True) trivial ?_ ?_
  · refine (weak_nils 3 2 rfl).trans ?_
    refine weak_to [] [0] rfl (by simp) ?_ ?_
    · simp only [vcRules, dRules, bRules, tyRules, xRules, pickV_true, pickV_false, implies_true, Nat.reduceLT, Nat.reduceLeDiff, Nat.reduceEqDiff, Nat.reduceAdd, Nat.reduceSub, Nat.reduceMul, Int.reduceToNat, Int.reduceLT, Int.reduceLE, Int.reduceEq, Int.reduceAdd, Int.reduceSub, Int.reduceNeg, Int.reduceBEq, Int.reduceBNe, Int.reduceMul, Int.natCast_add, Int.natCast_one, reduceCtorEq, reduceIte, wN_isAgg, wN_cells, f_isAgg, f_cells, cRules, yRules, Int.cast_ofNat_Int, @a_wrap ((l.length : Int) - 1) (by omega), Int.sub_zero]
    · simp only [vcRules, dRules, bRules, tyRules, xRules, pickV_true, pickV_false, implies_true, Nat.reduceLT, Nat.reduceLeDiff, Nat.reduceEqDiff, Nat.reduceAdd, Nat.reduceSub, Nat.reduceMul, Int.reduceToNat, Int.reduceLT, Int.reduceLE, Int.reduceEq, Int.reduceAdd, Int.reduceSub, Int.reduceNeg, Int.reduceBEq, Int.reduceBNe, Int.reduceMul, Int.natCast_add, Int.natCast_one, reduceCtorEq, reduceIte, wN_isAgg, wN_cells, f_isAgg, f_cells, cRules, yRules]
  · intro j _ hj
    by_cases h : j < l.length
    · obtain ⟨i, hi⟩ : ∃ i, i = l.length - 1 - j := ⟨_, rfl⟩
      have ei : (l.length : Int) - 1 - (j : Int) = (i : Int) := by omega
      have hil : i < l.length := by omega
      obtain ⟨x, hx⟩ : ∃ x, x = l.getD i default := ⟨_, rfl⟩
      have hx2 : x = l.reverse.getD j default := by rw [hx, hi, rev_get h]
      rw [take_step _ _ (show j < l.reverse.length by rw [List.length_reverse]; exact h), ← hx2, ei]
      have htl : (l.reverse.take j).length = j := by rw [List.length_take, List.length_reverse]; omega
      simp only [vcRules, dRules, bRules, tyRules, xRules, pickV_true, pickV_false, implies_true, Nat.reduceLT, Nat.reduceLeDiff, Nat.reduceEqDiff, Nat.reduceAdd, Nat.reduceSub, Nat.reduceMul, Int.reduceToNat, Int.reduceLT, Int.reduceLE, Int.reduceEq, Int.reduceAdd, Int.reduceSub, Int.reduceNeg, Int.reduceBEq, Int.reduceBNe, Int.reduceMul, Int.natCast_add, Int.natCast_one, reduceCtorEq, reduceIte, wN_isAgg, wN_cells, f_isAgg, f_cells, cRules, yRules, (show (0:Int) ≤ i by omega), (show (i:Int) < l.length by omega), hil, a_getD _ _ _ (show i < l.length by omega), ← hx]
      repeat ((with_reducible refine And.intro ?_ ?_); (focus (first | omega | (simp only [List.length_take, List.length_drop, List.length_map, List.length_append, List.length_cons]; omega) | (refine (show quietOp _ = true from ?_); rfl) | (refine (show drawOk _ _ _ _ _ _ _ from Or.inl ?_); kernel_rfl) | (intros; simp_all; done))))
      refine weak_to [] [2] rfl (by simp) ?_ ?_
      · simp only [vcRules, dRules, bRules, tyRules, xRules, pickV_true, pickV_false, implies_true, Nat.reduceLT, Nat.reduceLeDiff, Nat.reduceEqDiff, Nat.reduceAdd, Nat.reduceSub, Nat.reduceMul, Int.reduceToNat, Int.reduceLT, Int.reduceLE, Int.reduceEq, Int.reduceAdd, Int.reduceSub, Int.reduceNeg, Int.reduceBEq, Int.reduceBNe, Int.reduceMul, Int.natCast_add, Int.natCast_one, reduceCtorEq, reduceIte, wN_isAgg, wN_cells, f_isAgg, f_cells, cRules, yRules, @a_wrap ((i:Int) - 1) (by omega), show (l.length : Int) - 1 - ((j : Int) + 1) = (i : Int) - 1 by omega]
      · simp only [vcRules, dRules, bRules, tyRules, xRules, pickV_true, pickV_false, implies_true, Nat.reduceLT, Nat.reduceLeDiff, Nat.reduceEqDiff, Nat.reduceAdd, Nat.reduceSub, Nat.reduceMul, Int.reduceToNat, Int.reduceLT, Int.reduceLE, Int.reduceEq, Int.reduceAdd, Int.reduceSub, Int.reduceNeg, Int.reduceBEq, Int.reduceBNe, Int.reduceMul, Int.natCast_add, Int.natCast_one, reduceCtorEq, reduceIte, wN_isAgg, wN_cells, f_isAgg, f_cells, cRules, yRules, List.map_append, take_allF ((l.reverse.take j).map FracT.toD) j (by rw [List.length_map]; exact htl.symm)]
        try rfl
    · have : j = l.length := by omega
      subst this
      have e : l.reverse.take l.length = l.reverse := by rw [List.take_of_length_le]; simp
      rw [e]
      simp only [vcRules, dRules, bRules, tyRules, xRules, pickV_true, pickV_false, implies_true, Nat.reduceLT, Nat.reduceLeDiff, Nat.reduceEqDiff, Nat.reduceAdd, Nat.reduceSub, Nat.reduceMul, Int.reduceToNat, Int.reduceLT, Int.reduceLE, Int.reduceEq, Int.reduceAdd, Int.reduceSub, Int.reduceNeg, Int.reduceBEq, Int.reduceBNe, Int.reduceMul, Int.natCast_add, Int.natCast_one, reduceCtorEq, reduceIte, wN_isAgg, wN_cells, f_isAgg, f_cells, cRules, yRules, show (l.length : Int) - 1 - (l.length : Int) = -1 by omega]
      refine ⟨_, _, ret_data rfl ?_, rfl, rfl⟩
      simp only [vcRules, dRules, bRules, tyRules, xRules, pickV_true, pickV_false, implies_true, Nat.reduceLT, Nat.reduceLeDiff, Nat.reduceEqDiff, Nat.reduceAdd, Nat.reduceSub, Nat.reduceMul, Int.reduceToNat, Int.reduceLT, Int.reduceLE, Int.reduceEq, Int.reduceAdd, Int.reduceSub, Int.reduceNeg, Int.reduceBEq, Int.reduceBNe, Int.reduceMul, Int.natCast_add, Int.natCast_one, reduceCtorEq, reduceIte, wN_isAgg, wN_cells, f_isAgg, f_cells, cRules, yRules, take_allF (l.reverse.map FracT.toD) l.length (by rw [List.length_map, List.length_reverse])]
theorem c5 (l : List FracT) (hin : ∀ a ∈ l, a.In) : Pure Tryd.prog G2 5 [.d (.sl (l.map FracT.toD))] (.d (.bool true)) := by
  refine Pure.of1 ?_
  have tt : ∀ x : Bool, (x == x) = true := fun x => by cases x <;> rfl
  refine acalls_of Tryd.func5 rfl rfl (by simp [Tryd.ntmps5]) (evC_sound rfl _ _ _ _ ?_)
  simp only [Tryd.ntmps5, Tryd.results5, argEnv, List.length_nil]
  simp only [vcRules, dRules, bRules, tyRules, xRules, pickV_true, pickV_false, implies_true, Nat.reduceLT, Nat.reduceLeDiff, Nat.reduceEqDiff, Nat.reduceAdd, Nat.reduceSub, Nat.reduceMul, Int.reduceToNat, Int.reduceLT, Int.reduceLE, Int.reduceEq, Int.reduceAdd, Int.reduceSub, Int.reduceNeg, Int.reduceBEq, Int.reduceBNe, Int.reduceMul, Int.natCast_add, Int.natCast_one, reduceCtorEq, reduceIte, wN_isAgg, wN_cells, f_isAgg, f_cells, cRules, yRules]
  refine ifC.mk (fun hc => ?_) (fun hc => ?_)
  · refine callF_pure c14 ?_
    simp only [vcRules, dRules, bRules, tyRules, xRules, pickV_true, pickV_false, implies_true, Nat.reduceLT, Nat.reduceLeDiff, Nat.reduceEqDiff, Nat.reduceAdd, Nat.reduceSub, Nat.reduceMul, Int.reduceToNat, Int.reduceLT, Int.reduceLE, Int.reduceEq, Int.reduceAdd, Int.reduceSub, Int.reduceNeg, Int.reduceBEq, Int.reduceBNe, Int.reduceMul, Int.natCast_add, Int.natCast_one, reduceCtorEq, reduceIte, wN_isAgg, wN_cells, f_isAgg, f_cells, cRules, yRules]
    exact ⟨_, _, ret_d, rfl, rfl⟩
  · have hc : l.length ≤ 200 := by have := of_decide_eq_false hc; omega
    have k1 := c18 (Gl := G2) l hin
    have k2 := c19 (Gl := G2) l hin
    have k3 := c18 (Gl := G2) l.reverse (fun a ha => hin a (List.mem_reverse.1 ha))
    rw [sumL_perm (List.reverse_perm l)] at k3
    generalize sumL l = r at k1 k2 k3
    simp only [resD] at k1 k2 k3
    refine callF_pure k1 ?_
    simp only [vcRules, dRules, bRules, tyRules, xRules, pickV_true, pickV_false, implies_true, Nat.reduceLT, Nat.reduceLeDiff, Nat.reduceEqDiff, Nat.reduceAdd, Nat.reduceSub, Nat.reduceMul, Int.reduceToNat, Int.reduceLT, Int.reduceLE, Int.reduceEq, Int.reduceAdd, Int.reduceSub, Int.reduceNeg, Int.reduceBEq, Int.reduceBNe, Int.reduceMul, Int.natCast_add, Int.natCast_one, reduceCtorEq, reduceIte, wN_isAgg, wN_cells, f_isAgg, f_cells, cRules, yRules]
    refine callF_pure k2 ?_
    simp only [vcRules, dRules, bRules, tyRules, xRules, pickV_true, pickV_false, implies_true, Nat.reduceLT, Nat.reduceLeDiff, Nat.reduceEqDiff, Nat.reduceAdd, Nat.reduceSub, Nat.reduceMul, Int.reduceToNat, Int.reduceLT, Int.reduceLE, Int.reduceEq, Int.reduceAdd, Int.reduceSub, Int.reduceNeg, Int.reduceBEq, Int.reduceBNe, Int.reduceMul, Int.natCast_add, Int.natCast_one, reduceCtorEq, reduceIte, wN_isAgg, wN_cells, f_isAgg, f_cells, cRules, yRules]
    refine callF_pure (c20 l hc) ?_
    simp only [vcRules, dRules, bRules, tyRules, xRules, pickV_true, pickV_false, implies_true, Nat.reduceLT, Nat.reduceLeDiff, Nat.reduceEqDiff, Nat.reduceAdd, Nat.reduceSub, Nat.reduceMul, Int.reduceToNat, Int.reduceLT, Int.reduceLE, Int.reduceEq, Int.reduceAdd, Int.reduceSub, Int.reduceNeg, Int.reduceBEq, Int.reduceBNe, Int.reduceMul, Int.natCast_add, Int.natCast_one, reduceCtorEq, reduceIte, wN_isAgg, wN_cells, f_isAgg, f_cells, cRules, yRules]
    refine callF_pure k3 ?_
    simp only [vcRules, dRules, bRules, tyRules, xRules, pickV_true, pickV_false, implies_true, Nat.reduceLT, Nat.reduceLeDiff, Nat.reduceEqDiff, Nat.reduceAdd, Nat.reduceSub, Nat.reduceMul, Int.reduceToNat, Int.reduceLT, Int.reduceLE, Int.reduceEq, Int.reduceAdd, Int.reduceSub, Int.reduceNeg, Int.reduceBEq, Int.reduceBNe, Int.reduceMul, Int.natCast_add, Int.natCast_one, reduceCtorEq, reduceIte, wN_isAgg, wN_cells, f_isAgg, f_cells, cRules, yRules, dec_self, tt, Bool.and_true, Bool.true_and]
    repeat ((with_reducible refine And.intro ?_ ?_); (focus (first | omega | (simp only [List.length_take, List.length_drop, List.length_map, List.length_append, List.length_cons]; omega) | (refine (show quietOp _ = true from ?_); rfl) | (refine (show drawOk _ _ _ _ _ _ _ from Or.inl ?_); kernel_rfl) | (intros; simp_all; done))))
    refine callG_pure (fun _ => c14) ?_
    simp only [vcRules, dRules, bRules, tyRules, xRules, pickV_true, pickV_false, implies_true, Nat.reduceLT, Nat.reduceLeDiff, Nat.reduceEqDiff, Nat.reduceAdd, Nat.reduceSub, Nat.reduceMul, Int.reduceToNat, Int.reduceLT, Int.reduceLE, Int.reduceEq, Int.reduceAdd, Int.reduceSub, Int.reduceNeg, Int.reduceBEq, Int.reduceBNe, Int.reduceMul, Int.natCast_add, Int.natCast_one, reduceCtorEq, reduceIte, wN_isAgg, wN_cells, f_isAgg, f_cells, cRules, yRules, Bool.and_true, Bool.true_and]
    exact ⟨_, _, ret_d, rfl, rfl⟩
end YtkoebmjenkajdaaDoor
end Go.Proofs
