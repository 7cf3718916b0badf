/- A part of the proof: contracts of functions of this seat, and lemmas. No condition beyond those stated. -/
import Derived.Test.YtgebmgahfpnjaaaM31h
set_option linter.unusedVariables false
set_option linter.unusedSimpArgs false
set_option linter.unusedSectionVars false
set_option linter.unnecessarySimpa false
set_option linter.unusedSimpArgs false
set_option linter.unusedVariables false
set_option maxRecDepth 100000
namespace Go.Proofs
open Go.AM
namespace Ytgebmgahfpnjaaa

def blkF (os : List TimedT) (e : Int) (i : Nat) : BlockT := blkRun os (endF os e) i (os.length - (i + 1))
def refStep (os : List TimedT) (e : Int) (k : Nat) (out : List BlockT) : List BlockT :=
  if (os.getD k default).kind = 11 then (if (blkF os e k).lo < (blkF os e k).hi then putF loB out (blkF os e k) else out) else out
def refRun (os : List TimedT) (e : Int) : Nat → List BlockT
  | 0 => []
  | k + 1 => refStep os e k (refRun os e k)
theorem refRun_len (os : List TimedT) (e : Int) : ∀ k, (refRun os e k).length ≤ k
  | 0 => Nat.le_refl _
  | k + 1 => by
    have := refRun_len os e k
    unfold refRun refStep
    split
    · split
      · rw [putF_length]; omega
      · omega
    · omega

theorem c12 (os : List TimedT) (e : Int) (hl : os.length < 1000000) : Pure Try.prog 12 [.d (.sl (os.map TimedT.toD)), .d (.int .i64 e)] (.d (.sl ((refRun os e os.length).map BlockT.toD))) := by
  refine Pure.of2 ?_
  refine acalls_of Try.func12 rfl rfl (by simp [Try.ntmps12]) (evC_sound rfl _ _ _ _ ?_)
  simp only [Try.ntmps12, Try.results12, argEnv, List.length_nil]
  simp only [vcRules, dRules, bRules, tyRules, xRules, pickV_true, pickV_false, implies_true, Nat.reduceLT, Nat.reduceLeDiff, Nat.reduceEqDiff, Nat.reduceAdd, Nat.reduceSub, Nat.reduceMul, Int.reduceToNat, Int.reduceLT, Int.reduceLE, Int.reduceEq, Int.reduceAdd, Int.reduceSub, Int.reduceNeg, Int.reduceBEq, Int.reduceBNe, Int.reduceMul, Int.natCast_add, Int.natCast_one, reduceCtorEq, reduceIte, b_isAgg, b_cells, t_isAgg, t_cells, yRules]
  refine for_of os.length (fun k => [(0, .d (.sl (os.map TimedT.toD))), (1, .d (.int .i64 e)), (5, .d (.sl ((refRun os e k).map BlockT.toD))), (6, .d (.int .i64 k))]) (fun k => []) (fun _ => True) trivial ?_ ?_
  · refine (weak_toD 5 rfl).trans ?_
    refine weak_to [] [] rfl List.nodup_nil ?_ rfl
    simp only [vcRules, dRules, bRules, tyRules, xRules, pickV_true, pickV_false, implies_true, Nat.reduceLT, Nat.reduceLeDiff, Nat.reduceEqDiff, Nat.reduceAdd, Nat.reduceSub, Nat.reduceMul, Int.reduceToNat, Int.reduceLT, Int.reduceLE, Int.reduceEq, Int.reduceAdd, Int.reduceSub, Int.reduceNeg, Int.reduceBEq, Int.reduceBNe, Int.reduceMul, Int.natCast_add, Int.natCast_one, reduceCtorEq, reduceIte, b_isAgg, b_cells, t_isAgg, t_cells, yRules, Int.cast_ofNat_Int, refRun]
  · intro k _ hk
    obtain ⟨out, hout⟩ : ∃ out, out = refRun os e k := ⟨_, rfl⟩
    have hlo : out.length ≤ k := by rw [hout]; exact refRun_len os e k
    have hstep : refRun os e (k + 1) = refStep os e k out := by rw [hout]; rfl
    rw [hstep, ← hout]
    by_cases h : k < os.length
    · obtain ⟨o, ho⟩ : ∃ o, o = os.getD k default := ⟨_, rfl⟩
      have hs : refStep os e k out = if o.kind = 11 then (if (blkF os e k).lo < (blkF os e k).hi then putF loB out (blkF os e k) else out) else out := by rw [ho]; rfl
      simp only [vcRules, dRules, bRules, tyRules, xRules, pickV_true, pickV_false, implies_true, Nat.reduceLT, Nat.reduceLeDiff, Nat.reduceEqDiff, Nat.reduceAdd, Nat.reduceSub, Nat.reduceMul, Int.reduceToNat, Int.reduceLT, Int.reduceLE, Int.reduceEq, Int.reduceAdd, Int.reduceSub, Int.reduceNeg, Int.reduceBEq, Int.reduceBNe, Int.reduceMul, Int.natCast_add, Int.natCast_one, reduceCtorEq, reduceIte, b_isAgg, b_cells, t_isAgg, t_cells, yRules, (show (k:Int) < os.length by omega), h, a_getD _ _ _ (show k < os.length by omega), ← ho]
      refine ifC.mk (fun h1 => ?_) (fun h1 => ?_)
      · rw [hs, if_neg (by simpa using h1)]
        refine weak_to [] [] rfl List.nodup_nil ?_ rfl
        simp only [vcRules, dRules, bRules, tyRules, xRules, pickV_true, pickV_false, implies_true, Nat.reduceLT, Nat.reduceLeDiff, Nat.reduceEqDiff, Nat.reduceAdd, Nat.reduceSub, Nat.reduceMul, Int.reduceToNat, Int.reduceLT, Int.reduceLE, Int.reduceEq, Int.reduceAdd, Int.reduceSub, Int.reduceNeg, Int.reduceBEq, Int.reduceBNe, Int.reduceMul, Int.natCast_add, Int.natCast_one, reduceCtorEq, reduceIte, b_isAgg, b_cells, t_isAgg, t_cells, yRules, @a_wrap ((k:Int) + 1) (by omega)]
      · rw [hs, if_pos (by simpa using h1)]
        refine callF_pure (c34 os e k hl h) ?_
        simp only [vcRules, dRules, bRules, tyRules, xRules, pickV_true, pickV_false, implies_true, Nat.reduceLT, Nat.reduceLeDiff, Nat.reduceEqDiff, Nat.reduceAdd, Nat.reduceSub, Nat.reduceMul, Int.reduceToNat, Int.reduceLT, Int.reduceLE, Int.reduceEq, Int.reduceAdd, Int.reduceSub, Int.reduceNeg, Int.reduceBEq, Int.reduceBNe, Int.reduceMul, Int.natCast_add, Int.natCast_one, reduceCtorEq, reduceIte, b_isAgg, b_cells, t_isAgg, t_cells, yRules, show blkRun os (endF os e) k (os.length - (k + 1)) = blkF os e k from rfl]
        repeat ((with_reducible refine And.intro ?_ ?_); (focus (first | omega | (simp only [List.length_take, List.length_drop, List.length_map, List.length_append, List.length_cons]; omega) | (intros; simp_all; done) | kernel_rfl)))
        refine ifC.mk (fun h2 => ?_) (fun h2 => ?_)
        · rw [if_pos (by simpa using h2)]
          refine callF_pure (c35 out _ (by omega)) ?_
          simp only [vcRules, dRules, bRules, tyRules, xRules, pickV_true, pickV_false, implies_true, Nat.reduceLT, Nat.reduceLeDiff, Nat.reduceEqDiff, Nat.reduceAdd, Nat.reduceSub, Nat.reduceMul, Int.reduceToNat, Int.reduceLT, Int.reduceLE, Int.reduceEq, Int.reduceAdd, Int.reduceSub, Int.reduceNeg, Int.reduceBEq, Int.reduceBNe, Int.reduceMul, Int.natCast_add, Int.natCast_one, reduceCtorEq, reduceIte, b_isAgg, b_cells, t_isAgg, t_cells, yRules]
          refine weak_to [] [] rfl List.nodup_nil ?_ rfl
          simp only [vcRules, dRules, bRules, tyRules, xRules, pickV_true, pickV_false, implies_true, Nat.reduceLT, Nat.reduceLeDiff, Nat.reduceEqDiff, Nat.reduceAdd, Nat.reduceSub, Nat.reduceMul, Int.reduceToNat, Int.reduceLT, Int.reduceLE, Int.reduceEq, Int.reduceAdd, Int.reduceSub, Int.reduceNeg, Int.reduceBEq, Int.reduceBNe, Int.reduceMul, Int.natCast_add, Int.natCast_one, reduceCtorEq, reduceIte, b_isAgg, b_cells, t_isAgg, t_cells, yRules, @a_wrap ((k:Int) + 1) (by omega)]
        · rw [if_neg (by simpa using h2)]
          refine weak_to [] [] rfl List.nodup_nil ?_ rfl
          simp only [vcRules, dRules, bRules, tyRules, xRules, pickV_true, pickV_false, implies_true, Nat.reduceLT, Nat.reduceLeDiff, Nat.reduceEqDiff, Nat.reduceAdd, Nat.reduceSub, Nat.reduceMul, Int.reduceToNat, Int.reduceLT, Int.reduceLE, Int.reduceEq, Int.reduceAdd, Int.reduceSub, Int.reduceNeg, Int.reduceBEq, Int.reduceBNe, Int.reduceMul, Int.natCast_add, Int.natCast_one, reduceCtorEq, reduceIte, b_isAgg, b_cells, t_isAgg, t_cells, yRules, @a_wrap ((k:Int) + 1) (by omega)]
    · have : k = os.length := by omega
      subst this
      simp only [vcRules, dRules, bRules, tyRules, xRules, pickV_true, pickV_false, implies_true, Nat.reduceLT, Nat.reduceLeDiff, Nat.reduceEqDiff, Nat.reduceAdd, Nat.reduceSub, Nat.reduceMul, Int.reduceToNat, Int.reduceLT, Int.reduceLE, Int.reduceEq, Int.reduceAdd, Int.reduceSub, Int.reduceNeg, Int.reduceBEq, Int.reduceBNe, Int.reduceMul, Int.natCast_add, Int.natCast_one, reduceCtorEq, reduceIte, b_isAgg, b_cells, t_isAgg, t_cells, yRules, (show ¬ (os.length:Int) < os.length by omega)]
      exact ⟨_, _, ret_d, by rw [hout], rfl⟩

/-! ### the plain law: both are one list -/
theorem blkRun_step (os : List TimedT) (E : Int) {i k : Nat} (h : i < k) : blkRun os E i (k + 1 - (i + 1)) = closeIf (os.getD k default) (blkRun os E i (k - (i + 1))) := by
  obtain ⟨j, rfl⟩ : ∃ j, k = i + 1 + j := ⟨k - (i + 1), by omega⟩
  rw [show i + 1 + j + 1 - (i + 1) = j + 1 by omega, show i + 1 + j - (i + 1) = j by omega, blkRun]
/-- the blocks that have begun before event k, as they stand then -/
def begun (os : List TimedT) (E : Int) (k : Nat) : List BlockT := ((List.range k).filter fun i => (os.getD i default).kind == 11).map fun i => blkRun os E i (k - (i + 1))
theorem begun_step (os : List TimedT) (E : Int) (k : Nat) : begun os E (k + 1) = (begun os E k).map (closeIf (os.getD k default)) ++ (if (os.getD k default).kind = 11 then [newB E (os.getD k default)] else []) := by
  unfold begun
  rw [List.range_succ, List.filter_append, List.map_append, List.map_map]
  congr 1
  · apply List.map_congr_left
    intro i hi
    have : i < k := List.mem_range.1 (List.mem_filter.1 hi).1
    exact blkRun_step os E this
  · rw [List.filter_cons]
    by_cases h : (os.getD k default).kind = 11
    · rw [if_pos (by simpa using h), if_pos h]
      simp [blkRun]
    · rw [if_neg (by simpa using h), if_neg h]; rfl

/-- the place of the live block of each id -/
def Placed (st : OfSt) : Prop := ∀ n j, st.2 n = some j ↔ (∃ b, st.1[j]? = some b ∧ b.id = n ∧ b.live = true)
theorem placed_uniq {st : OfSt} (h : Placed st) {i j : Nat} {b c : BlockT} (hi : st.1[i]? = some b) (hj : st.1[j]? = some c) (hb : b.live = true) (hc : c.live = true) (e : b.id = c.id) : i = j := by
  have h1 := (h b.id i).2 ⟨b, hi, rfl, hb⟩
  have h2 := (h b.id j).2 ⟨c, hj, e.symm, hc⟩
  rw [h1] at h2
  simpa using h2
theorem ofClose_map {o : TimedT} {st : OfSt} (h : Placed st) (hk : o.kind = 11 ∨ o.kind = 12) : (ofClose o st).1 = st.1.map (closeIf o) ∧ Placed (ofClose o st) ∧ (ofClose o st).2 o.n = none := by
  have hkb : (o.kind == 12 || o.kind == 11) = true := by rcases hk with h | h <;> simp [h]
  have hcl : ∀ b : BlockT, closeIf o b = if b.live = true ∧ o.n = b.id then closeB b (timeF o) else b := fun b => by
    unfold closeIf; rw [hkb, Bool.and_true]; simp
  have e1 : (ofClose o st).1 = st.1.map (closeIf o) := by
    unfold ofClose
    cases hg : st.2 o.n with
    | none =>
      simp only
      apply List.ext_getElem?
      intro j
      rw [List.getElem?_map]
      cases hj : st.1[j]? with
      | none => rfl
      | some b =>
        simp only [Option.map_some]
        rw [hcl, if_neg]
        rintro ⟨q1, q2⟩
        rw [(h o.n j).2 ⟨b, hj, q2.symm, q1⟩] at hg; cases hg
    | some i =>
      obtain ⟨c, c1, c2, c3⟩ := (h o.n i).1 hg
      have hil : i < st.1.length := by
        rcases Nat.lt_or_ge i st.1.length with h' | h'
        · exact h'
        · rw [List.getElem?_eq_none h'] at c1; cases c1
      simp only
      apply List.ext_getElem?
      intro j
      rw [List.getElem?_map, List.getElem?_set]
      by_cases e : i = j
      · subst e
        rw [if_pos rfl, if_pos hil, c1]
        simp only [Option.map_some]
        rw [hcl, if_pos ⟨c3, c2.symm⟩, List.getD_eq_getElem?_getD, c1]; rfl
      · rw [if_neg e]
        cases hj : st.1[j]? with
        | none => rfl
        | some b =>
          simp only [Option.map_some]
          rw [hcl, if_neg]
          rintro ⟨q1, q2⟩
          exact e (placed_uniq h c1 hj c3 q1 (c2.trans q2))
  have e2 : ∀ n, (ofClose o st).2 n = if n = o.n then none else st.2 n := fun n => by
    unfold ofClose
    cases hg : st.2 o.n with
    | none =>
      simp only
      split
      · subst_vars; exact hg
      · rfl
    | some i => rfl
  refine ⟨e1, fun n j => ?_, by rw [e2]; simp⟩
  rw [e1, e2, List.getElem?_map]
  constructor
  · intro hh
    split at hh
    · cases hh
    · rename_i hne
      obtain ⟨b, b1, b2, b3⟩ := (h n j).1 hh
      refine ⟨b, ?_, b2, b3⟩
      rw [b1]
      simp only [Option.map_some]
      rw [hcl, if_neg (fun q => hne (b2 ▸ q.2.symm))]
  · rintro ⟨b, b1, b2, b3⟩
    cases hj : st.1[j]? with
    | none => rw [hj] at b1; cases b1
    | some c =>
      rw [hj] at b1
      simp only [Option.map_some, Option.some.injEq] at b1
      rw [hcl] at b1
      split at b1
      · subst b1; cases b3
      · rename_i hq
        subst b1
        rw [if_neg (fun e => hq ⟨b3, (b2.trans e).symm⟩)]
        exact (h n j).2 ⟨c, hj, b2, b3⟩
theorem closeIf_off {o : TimedT} (hk : ¬ (o.kind = 11 ∨ o.kind = 12)) (b : BlockT) : closeIf o b = b := by
  unfold closeIf
  rw [if_neg]
  simp; omega
theorem ofRun_begun (os : List TimedT) (E : Int) : ∀ k, (ofRun os E k).1 = begun os E k ∧ Placed (ofRun os E k)
  | 0 => ⟨rfl, fun n j => by simp [ofRun]⟩
  | k + 1 => by
    obtain ⟨h1, h2⟩ := ofRun_begun os E k
    obtain ⟨o, ho⟩ : ∃ o, o = os.getD k default := ⟨_, rfl⟩
    rw [begun_step, ofRun, ← h1, ← ho]
    generalize ofRun os E k = st at h1 h2
    unfold ofStep
    by_cases hk : o.kind = 11 ∨ o.kind = 12
    · rw [if_pos hk]
      obtain ⟨q1, q2, q3⟩ := ofClose_map h2 hk
      unfold ofOpen
      by_cases h11 : o.kind = 11
      · rw [if_pos h11, if_pos h11]
        refine ⟨by rw [q1]; rfl, fun n j => ?_⟩
        simp only [updN]
        rw [List.getElem?_append]
        constructor
        · intro hh
          split at hh
          · rename_i hn
            simp only [Option.some.injEq] at hh
            subst hh
            refine ⟨newB E o, ?_, hn.symm, rfl⟩
            rw [if_neg (by omega), Nat.sub_self]; rfl
          · obtain ⟨b, b1, b2⟩ := (q2 n j).1 hh
            have : j < (ofClose o st).1.length := by
              rcases Nat.lt_or_ge j (ofClose o st).1.length with h' | h'
              · exact h'
              · rw [List.getElem?_eq_none h'] at b1; cases b1
            exact ⟨b, by rw [if_pos this]; exact b1, b2⟩
        · rintro ⟨b, b1, b2, b3⟩
          split at b1
          · have := (q2 n j).2 ⟨b, b1, b2, b3⟩
            rw [if_neg (fun e => by rw [e, q3] at this; cases this)]
            exact this
          · rename_i hj
            have : j - (ofClose o st).1.length = 0 := by
              rcases Nat.eq_zero_or_pos (j - (ofClose o st).1.length) with h' | h'
              · exact h'
              · rw [List.getElem?_eq_none (by simp; omega)] at b1; cases b1
            rw [this] at b1
            simp only [List.getElem?_cons_zero, Option.some.injEq] at b1
            subst b1
            rw [if_pos b2.symm]
            congr 1; omega
      · rw [if_neg h11, if_neg h11]
        exact ⟨by rw [q1, List.append_nil], q2⟩
    · rw [if_neg hk, if_neg (by omega), List.append_nil]
      refine ⟨?_, h2⟩
      rw [show closeIf o = id from funext (closeIf_off hk), List.map_id]

theorem refRun_begun (os : List TimedT) (e : Int) : ∀ k, refRun os e k = sortF loB ((((List.range k).filter fun i => (os.getD i default).kind == 11).map (blkF os e)).filter keptB)
  | 0 => rfl
  | k + 1 => by
    rw [refRun, refStep, refRun_begun os e k, List.range_succ, List.filter_append, List.map_append, List.filter_append]
    rw [List.filter_cons]
    by_cases h : (os.getD k default).kind = 11
    · have hb : ((os.getD k default).kind == 11) = true := by simpa using h
      rw [if_pos h, if_pos hb, List.filter_nil, List.map_cons, List.map_nil, List.filter_cons, List.filter_nil]
      by_cases h2 : (blkF os e k).lo < (blkF os e k).hi
      · have h3 : keptB (blkF os e k) = true := by simp [keptB]; omega
        rw [if_pos h2, if_pos h3, sortF_snoc]
      · have h3 : ¬ keptB (blkF os e k) = true := by simp [keptB]; omega
        rw [if_neg h2, if_neg h3, List.append_nil]
    · have hb : ¬ ((os.getD k default).kind == 11) = true := by simpa using h
      rw [if_neg h, if_neg hb, List.filter_nil, List.map_nil, List.filter_nil, List.append_nil]
theorem ofF_ref (os : List TimedT) (e : Int) : ofF os e = refRun os e os.length := by
  rw [refRun_begun, ofF, (ofRun_begun os (endF os e) os.length).1]; rfl
end Ytgebmgahfpnjaaa
end Go.Proofs
