/- Proved: MemoryEndsSaid: for every input that can be read as data the law returns true and leaves its arguments as they were; no condition is added. -/
import Derived.Test.YtgebmgahfpnjaaaM31n
set_option linter.unusedVariables false
set_option linter.unusedSimpArgs false
set_option linter.unusedSectionVars false
set_option linter.unnecessarySimpa false
set_option linter.unusedSimpArgs false
set_option linter.unusedVariables false
set_option maxRecDepth 100000
namespace Go.Proofs
open Go.AM Go.ChangeShapes Go.WideShapes Go.ChangeAt Go.RowKit
namespace Ytgebmgahfpnjaaa

/-! ### MemoryEnds -/
def skipB (x : TimedT) (b : BlockT) : Bool := x.n != b.id || (x.kind != 11 && x.kind != 12)
def begAt (x : TimedT) (b : BlockT) : Bool := x.kind == 11 && timeF x == b.lo && x.m == b.size && x.thread == b.thread
def endAt (x : TimedT) (b : BlockT) : Bool := !b.live && timeF x == b.hi
def begR (os : List TimedT) (b : BlockT) : Nat → Bool
  | 0 => false
  | k + 1 => if skipB (os.getD k default) b = true then begR os b k else begR os b k || begAt (os.getD k default) b
def endR (os : List TimedT) (b : BlockT) (E : Int) : Nat → Bool
  | 0 => b.live && b.hi == E
  | k + 1 => if skipB (os.getD k default) b = true then endR os b E k else endR os b E k || endAt (os.getD k default) b
theorem begR_true {os : List TimedT} {b : BlockT} {k : Nat} (h1 : skipB (os.getD k default) b = false) (h2 : begAt (os.getD k default) b = true) : ∀ m, k < m → begR os b m = true
  | 0, h => by omega
  | m + 1, h => by
    rw [begR]
    by_cases e : k = m
    · subst e; rw [if_neg (by rw [h1]; simp), h2, Bool.or_true]
    · rw [begR_true h1 h2 m (by omega)]; simp
theorem endR_true {os : List TimedT} {b : BlockT} {E : Int} {k : Nat} (h1 : skipB (os.getD k default) b = false) (h2 : endAt (os.getD k default) b = true) : ∀ m, k < m → endR os b E m = true
  | 0, h => by omega
  | m + 1, h => by
    rw [endR]
    by_cases e : k = m
    · subst e; rw [if_neg (by rw [h1]; simp), h2, Bool.or_true]
    · rw [endR_true h1 h2 m (by omega)]; simp
theorem endR_zero {os : List TimedT} {b : BlockT} {E : Int} (h : (b.live && b.hi == E) = true) : ∀ m, endR os b E m = true
  | 0 => h
  | m + 1 => by rw [endR, endR_zero h m]; simp
theorem skip_false {x : TimedT} {b : BlockT} (h1 : x.n = b.id) (h2 : x.kind = 11 ∨ x.kind = 12) : skipB x b = false := by
  unfold skipB
  rw [h1]
  rcases h2 with h | h <;> rw [h] <;> simp
theorem ends_law {os : List TimedT} {e : Int} {b : BlockT} (h : b ∈ ofF os e) : begR os b os.length = true ∧ endR os b (endF os e) os.length = true := by
  obtain ⟨i, i1, i2, rfl, i4⟩ := ofF_mem h
  have k1 := blkRun_keep os (endF os e) i (os.length - (i + 1))
  have k2 := blkRun_id os (endF os e) i (os.length - (i + 1))
  refine ⟨begR_true (k := i) (skip_false k2.symm (.inl i2)) ?_ _ i1, ?_⟩
  · unfold begAt
    rw [k1.1, k1.2.1, k1.2.2, i2]; simp
  · rcases blkRun_ends os (endF os e) i (os.length - (i + 1)) with ⟨h1, h2⟩ | ⟨h1, q, q1, q2, q3, q4, q5⟩
    · refine endR_zero ?_ _
      unfold blkF; rw [h1, h2]; simp
    · refine endR_true (k := q) (skip_false (q3.trans k2.symm) q4) ?_ _ (by omega)
      unfold endAt
      rw [h1, q5]; simp

theorem c6 (os : List TimedT) (e : Int) : Pure Try.prog 6 [.d (.sl (os.map TimedT.toD)), .d (.int .i64 e)] (.d (.bool true)) := by
  refine Pure.of2 ?_
  refine acalls_of Try.func6 rfl rfl (by simp [Try.ntmps6]) (evC_sound rfl _ _ _ _ ?_)
  simp only [Try.ntmps6, Try.results6, argEnv, List.length_nil]
  simp only [vcRules, dRules, bRules, tyRules, xRules, pickV_true, pickV_false, implies_true, Nat.reduceLT, Nat.reduceLeDiff, Nat.reduceEqDiff, Nat.reduceAdd, Nat.reduceSub, Nat.reduceMul, Int.reduceToNat, Int.reduceLT, Int.reduceLE, Int.reduceEq, Int.reduceAdd, Int.reduceSub, Int.reduceNeg, Int.reduceBEq, Int.reduceBNe, Int.reduceMul, Int.natCast_add, Int.natCast_one, reduceCtorEq, reduceIte, b_isAgg, b_cells, t_isAgg, t_cells, yRules]
  refine callF_pure (c8 os) ?_
  simp only [vcRules, dRules, bRules, tyRules, xRules, pickV_true, pickV_false, implies_true, Nat.reduceLT, Nat.reduceLeDiff, Nat.reduceEqDiff, Nat.reduceAdd, Nat.reduceSub, Nat.reduceMul, Int.reduceToNat, Int.reduceLT, Int.reduceLE, Int.reduceEq, Int.reduceAdd, Int.reduceSub, Int.reduceNeg, Int.reduceBEq, Int.reduceBNe, Int.reduceMul, Int.natCast_add, Int.natCast_one, reduceCtorEq, reduceIte, b_isAgg, b_cells, t_isAgg, t_cells, yRules]
  have hst : smallB os = true → (∀ x ∈ os, x.stack.length < 1000000) ∧ os.length < 1000000 := fun h => by
    obtain ⟨h1, h2⟩ := small_spec h
    exact ⟨fun x hx => by have := h2 x hx; omega, by omega⟩
  refine callG_pure (v := .d (.bool (validB os))) (fun hg => ?_) ?_
  · have hg : smallB os = true := by simpa using hg
    exact c22 os (hst hg).1 (hst hg).2
  simp only [vcRules, dRules, bRules, tyRules, xRules, pickV_true, pickV_false, implies_true, Nat.reduceLT, Nat.reduceLeDiff, Nat.reduceEqDiff, Nat.reduceAdd, Nat.reduceSub, Nat.reduceMul, Int.reduceToNat, Int.reduceLT, Int.reduceLE, Int.reduceEq, Int.reduceAdd, Int.reduceSub, Int.reduceNeg, Int.reduceBEq, Int.reduceBNe, Int.reduceMul, Int.natCast_add, Int.natCast_one, reduceCtorEq, reduceIte, b_isAgg, b_cells, t_isAgg, t_cells, yRules]
  repeat ((with_reducible refine And.intro ?_ ?_); (focus (first | omega | (simp only [List.length_take, List.length_drop, List.length_map, List.length_append, List.length_cons]; omega) | (intros; simp_all; done) | kernel_rfl)))
  refine ifC.mk (fun h => ?_) (fun h => ?_)
  · refine callF_pure c9 ?_
    simp only [vcRules, dRules, bRules, tyRules, xRules, pickV_true, pickV_false, implies_true, Nat.reduceLT, Nat.reduceLeDiff, Nat.reduceEqDiff, Nat.reduceAdd, Nat.reduceSub, Nat.reduceMul, Int.reduceToNat, Int.reduceLT, Int.reduceLE, Int.reduceEq, Int.reduceAdd, Int.reduceSub, Int.reduceNeg, Int.reduceBEq, Int.reduceBNe, Int.reduceMul, Int.natCast_add, Int.natCast_one, reduceCtorEq, reduceIte, b_isAgg, b_cells, t_isAgg, t_cells, yRules]
    exact ⟨_, _, ret_d, rfl, rfl⟩
  · simp only [Bool.or_eq_false_iff, Bool.not_eq_false'] at h
    obtain ⟨hsm, hv⟩ := h
    obtain ⟨h1, h2⟩ := small_spec hsm
    obtain ⟨hs, hl⟩ := hst hsm
    refine callF_pure (c11 os e hl) ?_
    simp only [vcRules, dRules, bRules, tyRules, xRules, pickV_true, pickV_false, implies_true, Nat.reduceLT, Nat.reduceLeDiff, Nat.reduceEqDiff, Nat.reduceAdd, Nat.reduceSub, Nat.reduceMul, Int.reduceToNat, Int.reduceLT, Int.reduceLE, Int.reduceEq, Int.reduceAdd, Int.reduceSub, Int.reduceNeg, Int.reduceBEq, Int.reduceBNe, Int.reduceMul, Int.natCast_add, Int.natCast_one, reduceCtorEq, reduceIte, b_isAgg, b_cells, t_isAgg, t_cells, yRules]
    have h3 := ofF_length os e
    have h4 := countF_le os 11 os.length
    have hs2 : ∀ x ∈ ofF os e, x.stack.length < 1000000 := fun x hx => by
      rw [ofF_ref] at hx
      have := refRun_stack (e := e) h2 os.length (Nat.le_refl _) x hx
      omega
    refine callF_pure (c14 _ hs2 (by omega)) ?_
    rw [ofF_check hv]
    simp only [vcRules, dRules, bRules, tyRules, xRules, pickV_true, pickV_false, implies_true, Nat.reduceLT, Nat.reduceLeDiff, Nat.reduceEqDiff, Nat.reduceAdd, Nat.reduceSub, Nat.reduceMul, Int.reduceToNat, Int.reduceLT, Int.reduceLE, Int.reduceEq, Int.reduceAdd, Int.reduceSub, Int.reduceNeg, Int.reduceBEq, Int.reduceBNe, Int.reduceMul, Int.natCast_add, Int.natCast_one, reduceCtorEq, reduceIte, b_isAgg, b_cells, t_isAgg, t_cells, yRules]
    repeat ((with_reducible refine And.intro ?_ ?_); (focus (first | omega | (simp only [List.length_take, List.length_drop, List.length_map, List.length_append, List.length_cons]; omega) | (intros; simp_all; done) | kernel_rfl)))
    refine callG_pure (fun _ => c23 os 11 hl) ?_
    simp only [vcRules, dRules, bRules, tyRules, xRules, pickV_true, pickV_false, implies_true, Nat.reduceLT, Nat.reduceLeDiff, Nat.reduceEqDiff, Nat.reduceAdd, Nat.reduceSub, Nat.reduceMul, Int.reduceToNat, Int.reduceLT, Int.reduceLE, Int.reduceEq, Int.reduceAdd, Int.reduceSub, Int.reduceNeg, Int.reduceBEq, Int.reduceBNe, Int.reduceMul, Int.natCast_add, Int.natCast_one, reduceCtorEq, reduceIte, b_isAgg, b_cells, t_isAgg, t_cells, yRules, (show ¬ ((countF os 11 os.length : Nat) : Int) < ((ofF os e).length : Int) by omega)]
    repeat ((with_reducible refine And.intro ?_ ?_); (focus (first | omega | (simp only [List.length_take, List.length_drop, List.length_map, List.length_append, List.length_cons]; omega) | (intros; simp_all; done) | kernel_rfl)))
    obtain ⟨l, hle⟩ : ∃ l, l = ofF os e := ⟨_, rfl⟩
    have hlaw : ∀ b ∈ l, begR os b os.length = true ∧ endR os b (endF os e) os.length = true := fun b hb => ends_law (by rw [← hle]; exact hb)
    rw [← hle] at h3 ⊢
    refine for_of l.length (fun k => [(0, .d (.sl (os.map TimedT.toD))), (1, .d (.int .i64 e)), (5, .d (.sl (l.map BlockT.toD))), (6, .d (.int .i64 k))]) (fun _ => []) (fun _ => True) trivial ?_ ?_
    · refine weak_to [] [] rfl List.nodup_nil ?_ rfl
      simp only [vcRules, dRules, bRules, tyRules, xRules, pickV_true, pickV_false, implies_true, Nat.reduceLT, Nat.reduceLeDiff, Nat.reduceEqDiff, Nat.reduceAdd, Nat.reduceSub, Nat.reduceMul, Int.reduceToNat, Int.reduceLT, Int.reduceLE, Int.reduceEq, Int.reduceAdd, Int.reduceSub, Int.reduceNeg, Int.reduceBEq, Int.reduceBNe, Int.reduceMul, Int.natCast_add, Int.natCast_one, reduceCtorEq, reduceIte, b_isAgg, b_cells, t_isAgg, t_cells, yRules, Int.cast_ofNat_Int]
    · intro k _ hk
      by_cases h : k < l.length
      · obtain ⟨b, hb⟩ : ∃ b, b = l.getD k default := ⟨_, rfl⟩
        obtain ⟨lw1, lw2⟩ := hlaw b (by rw [hb]; exact mem_getD h)
        simp only [vcRules, dRules, bRules, tyRules, xRules, pickV_true, pickV_false, implies_true, Nat.reduceLT, Nat.reduceLeDiff, Nat.reduceEqDiff, Nat.reduceAdd, Nat.reduceSub, Nat.reduceMul, Int.reduceToNat, Int.reduceLT, Int.reduceLE, Int.reduceEq, Int.reduceAdd, Int.reduceSub, Int.reduceNeg, Int.reduceBEq, Int.reduceBNe, Int.reduceMul, Int.natCast_add, Int.natCast_one, reduceCtorEq, reduceIte, b_isAgg, b_cells, t_isAgg, t_cells, yRules, (show (k:Int) < l.length by omega), h, a_getD _ _ _ (show k < l.length by omega), ← hb]
        repeat ((with_reducible refine And.intro ?_ ?_); (focus (first | omega | (simp only [List.length_take, List.length_drop, List.length_map, List.length_append, List.length_cons]; omega) | (intros; simp_all; done) | kernel_rfl)))
        refine callG_pure (fun _ => c24 os e hl) ?_
        simp only [vcRules, dRules, bRules, tyRules, xRules, pickV_true, pickV_false, implies_true, Nat.reduceLT, Nat.reduceLeDiff, Nat.reduceEqDiff, Nat.reduceAdd, Nat.reduceSub, Nat.reduceMul, Int.reduceToNat, Int.reduceLT, Int.reduceLE, Int.reduceEq, Int.reduceAdd, Int.reduceSub, Int.reduceNeg, Int.reduceBEq, Int.reduceBNe, Int.reduceMul, Int.natCast_add, Int.natCast_one, reduceCtorEq, reduceIte, b_isAgg, b_cells, t_isAgg, t_cells, yRules]
        repeat ((with_reducible refine And.intro ?_ ?_); (focus (first | omega | (simp only [List.length_take, List.length_drop, List.length_map, List.length_append, List.length_cons]; omega) | (intros; simp_all; done) | kernel_rfl)))
        refine for_of os.length (fun j => [(0, .d (.sl (os.map TimedT.toD))), (1, .d (.int .i64 e)), (5, .d (.sl (l.map BlockT.toD))), (6, .d (.int .i64 k)), (7, .d (.bool (begR os b j))), (8, .d (.bool (endR os b (endF os e) j))), (9, .d (.int .i64 j))]) (fun _ => []) (fun _ => True) trivial ?_ ?_
        · refine weak_to [] [] rfl List.nodup_nil ?_ rfl
          simp only [vcRules, dRules, bRules, tyRules, xRules, pickV_true, pickV_false, implies_true, Nat.reduceLT, Nat.reduceLeDiff, Nat.reduceEqDiff, Nat.reduceAdd, Nat.reduceSub, Nat.reduceMul, Int.reduceToNat, Int.reduceLT, Int.reduceLE, Int.reduceEq, Int.reduceAdd, Int.reduceSub, Int.reduceNeg, Int.reduceBEq, Int.reduceBNe, Int.reduceMul, Int.natCast_add, Int.natCast_one, reduceCtorEq, reduceIte, b_isAgg, b_cells, t_isAgg, t_cells, yRules, Int.cast_ofNat_Int, begR, endR]
        · intro j _ hj
          by_cases h5 : j < os.length
          · obtain ⟨x, hx⟩ : ∃ x, x = os.getD j default := ⟨_, rfl⟩
            simp only [vcRules, dRules, bRules, tyRules, xRules, pickV_true, pickV_false, implies_true, Nat.reduceLT, Nat.reduceLeDiff, Nat.reduceEqDiff, Nat.reduceAdd, Nat.reduceSub, Nat.reduceMul, Int.reduceToNat, Int.reduceLT, Int.reduceLE, Int.reduceEq, Int.reduceAdd, Int.reduceSub, Int.reduceNeg, Int.reduceBEq, Int.reduceBNe, Int.reduceMul, Int.natCast_add, Int.natCast_one, reduceCtorEq, reduceIte, b_isAgg, b_cells, t_isAgg, t_cells, yRules, (show (j:Int) < os.length by omega), h5, a_getD _ _ _ (show j < os.length by omega), ← hx, (show (k:Int) < l.length by omega), h, a_getD _ _ _ (show k < l.length by omega), ← hb]
            repeat ((with_reducible refine And.intro ?_ ?_); (focus (first | omega | (simp only [List.length_take, List.length_drop, List.length_map, List.length_append, List.length_cons]; omega) | (intros; simp_all; done) | kernel_rfl)))
            refine ifC.mk (fun h6 => ?_) (fun h6 => ?_)
            · have e1 : begR os b (j + 1) = begR os b j := by rw [begR, ← hx, if_pos (show skipB x b = true from h6)]
              have e2 : endR os b (endF os e) (j + 1) = endR os b (endF os e) j := by rw [endR, ← hx, if_pos (show skipB x b = true from h6)]
              rw [e1, e2]
              refine weak_to [] [] rfl List.nodup_nil ?_ rfl
              simp only [vcRules, dRules, bRules, tyRules, xRules, pickV_true, pickV_false, implies_true, Nat.reduceLT, Nat.reduceLeDiff, Nat.reduceEqDiff, Nat.reduceAdd, Nat.reduceSub, Nat.reduceMul, Int.reduceToNat, Int.reduceLT, Int.reduceLE, Int.reduceEq, Int.reduceAdd, Int.reduceSub, Int.reduceNeg, Int.reduceBEq, Int.reduceBNe, Int.reduceMul, Int.natCast_add, Int.natCast_one, reduceCtorEq, reduceIte, b_isAgg, b_cells, t_isAgg, t_cells, yRules, @a_wrap ((j:Int) + 1) (by omega)]
            · have h6 : skipB x b = false := h6
              have e1 : begR os b (j + 1) = (begR os b j || begAt x b) := by rw [begR, ← hx, if_neg (by rw [h6]; simp)]
              have e2 : endR os b (endF os e) (j + 1) = (endR os b (endF os e) j || endAt x b) := by rw [endR, ← hx, if_neg (by rw [h6]; simp)]
              rw [e1, e2]
              repeat ((with_reducible refine And.intro ?_ ?_); (focus (first | omega | (simp only [List.length_take, List.length_drop, List.length_map, List.length_append, List.length_cons]; omega) | (intros; simp_all; done) | kernel_rfl)))
              refine callG_pure (fun _ => c25 _) ?_
              simp only [vcRules, dRules, bRules, tyRules, xRules, pickV_true, pickV_false, implies_true, Nat.reduceLT, Nat.reduceLeDiff, Nat.reduceEqDiff, Nat.reduceAdd, Nat.reduceSub, Nat.reduceMul, Int.reduceToNat, Int.reduceLT, Int.reduceLE, Int.reduceEq, Int.reduceAdd, Int.reduceSub, Int.reduceNeg, Int.reduceBEq, Int.reduceBNe, Int.reduceMul, Int.natCast_add, Int.natCast_one, reduceCtorEq, reduceIte, b_isAgg, b_cells, t_isAgg, t_cells, yRules, (show (j:Int) < os.length by omega), h5, a_getD _ _ _ (show j < os.length by omega), ← hx, (show (k:Int) < l.length by omega), h, a_getD _ _ _ (show k < l.length by omega), ← hb]
              repeat ((with_reducible refine And.intro ?_ ?_); (focus (first | omega | (simp only [List.length_take, List.length_drop, List.length_map, List.length_append, List.length_cons]; omega) | (intros; simp_all; done) | kernel_rfl)))
              refine callG_pure (fun _ => c25 _) ?_
              simp only [vcRules, dRules, bRules, tyRules, xRules, pickV_true, pickV_false, implies_true, Nat.reduceLT, Nat.reduceLeDiff, Nat.reduceEqDiff, Nat.reduceAdd, Nat.reduceSub, Nat.reduceMul, Int.reduceToNat, Int.reduceLT, Int.reduceLE, Int.reduceEq, Int.reduceAdd, Int.reduceSub, Int.reduceNeg, Int.reduceBEq, Int.reduceBNe, Int.reduceMul, Int.natCast_add, Int.natCast_one, reduceCtorEq, reduceIte, b_isAgg, b_cells, t_isAgg, t_cells, yRules, (show (j:Int) < os.length by omega), h5, a_getD _ _ _ (show j < os.length by omega), ← hx, (show (k:Int) < l.length by omega), h, a_getD _ _ _ (show k < l.length by omega), ← hb]
              repeat ((with_reducible refine And.intro ?_ ?_); (focus (first | omega | (simp only [List.length_take, List.length_drop, List.length_map, List.length_append, List.length_cons]; omega) | (intros; simp_all; done) | kernel_rfl)))
              refine weak_to [] [] rfl List.nodup_nil ?_ rfl
              simp only [vcRules, dRules, bRules, tyRules, xRules, pickV_true, pickV_false, implies_true, Nat.reduceLT, Nat.reduceLeDiff, Nat.reduceEqDiff, Nat.reduceAdd, Nat.reduceSub, Nat.reduceMul, Int.reduceToNat, Int.reduceLT, Int.reduceLE, Int.reduceEq, Int.reduceAdd, Int.reduceSub, Int.reduceNeg, Int.reduceBEq, Int.reduceBNe, Int.reduceMul, Int.natCast_add, Int.natCast_one, reduceCtorEq, reduceIte, b_isAgg, b_cells, t_isAgg, t_cells, yRules, @a_wrap ((j:Int) + 1) (by omega), begAt, endAt]
          · have : j = os.length := by omega
            subst this
            simp only [vcRules, dRules, bRules, tyRules, xRules, pickV_true, pickV_false, implies_true, Nat.reduceLT, Nat.reduceLeDiff, Nat.reduceEqDiff, Nat.reduceAdd, Nat.reduceSub, Nat.reduceMul, Int.reduceToNat, Int.reduceLT, Int.reduceLE, Int.reduceEq, Int.reduceAdd, Int.reduceSub, Int.reduceNeg, Int.reduceBEq, Int.reduceBNe, Int.reduceMul, Int.natCast_add, Int.natCast_one, reduceCtorEq, reduceIte, b_isAgg, b_cells, t_isAgg, t_cells, yRules, (show ¬ (os.length:Int) < os.length by omega), lw1, lw2]
            refine weak_to [] [] rfl List.nodup_nil ?_ rfl
            simp only [vcRules, dRules, bRules, tyRules, xRules, pickV_true, pickV_false, implies_true, Nat.reduceLT, Nat.reduceLeDiff, Nat.reduceEqDiff, Nat.reduceAdd, Nat.reduceSub, Nat.reduceMul, Int.reduceToNat, Int.reduceLT, Int.reduceLE, Int.reduceEq, Int.reduceAdd, Int.reduceSub, Int.reduceNeg, Int.reduceBEq, Int.reduceBNe, Int.reduceMul, Int.natCast_add, Int.natCast_one, reduceCtorEq, reduceIte, b_isAgg, b_cells, t_isAgg, t_cells, yRules, @a_wrap ((k:Int) + 1) (by omega)]
      · have : k = l.length := by omega
        subst this
        simp only [vcRules, dRules, bRules, tyRules, xRules, pickV_true, pickV_false, implies_true, Nat.reduceLT, Nat.reduceLeDiff, Nat.reduceEqDiff, Nat.reduceAdd, Nat.reduceSub, Nat.reduceMul, Int.reduceToNat, Int.reduceLT, Int.reduceLE, Int.reduceEq, Int.reduceAdd, Int.reduceSub, Int.reduceNeg, Int.reduceBEq, Int.reduceBNe, Int.reduceMul, Int.natCast_add, Int.natCast_one, reduceCtorEq, reduceIte, b_isAgg, b_cells, t_isAgg, t_cells, yRules, (show ¬ (l.length:Int) < l.length by omega)]
        refine callF_pure c9 ?_
        simp only [vcRules, dRules, bRules, tyRules, xRules, pickV_true, pickV_false, implies_true, Nat.reduceLT, Nat.reduceLeDiff, Nat.reduceEqDiff, Nat.reduceAdd, Nat.reduceSub, Nat.reduceMul, Int.reduceToNat, Int.reduceLT, Int.reduceLE, Int.reduceEq, Int.reduceAdd, Int.reduceSub, Int.reduceNeg, Int.reduceBEq, Int.reduceBNe, Int.reduceMul, Int.natCast_add, Int.natCast_one, reduceCtorEq, reduceIte, b_isAgg, b_cells, t_isAgg, t_cells, yRules]
        exact ⟨_, _, ret_d, rfl, rfl⟩

theorem ends_main (xs : List D) (h : TypedAll Try.prog 5 Try.f6.params.toList xs) : ACalls Try.prog [] 6 (xs.map AV.d) [] (fun r _ => r = .d (.bool true)) := by
  rw [Try.params6] at h
  obtain ⟨x, _, rfl, h1, y, _, rfl, h2, rfl⟩ := h
  obtain ⟨os, rfl, _⟩ := par22 h1
  obtain ⟨e, rfl, _⟩ := par3 h2
  exact (c6 os e []).mono fun r s h => h.1

theorem memoryEnds_lifted (os : Os) (started : os.Started) (H : Type) (enc : TypeId × Value → H) :
    ReturnsInHanded {} Try.checked os 6 .any (Rows.memoryEndsSpec.pre6 enc Try.prog Try.f6 Rows.memoryEndsRow.domain false) (Rows.memoryEndsSpec.post enc Try.prog Try.f6 false true false false) := by
  refine returnsInHanded_of_change (C := Try.checked) own started (by kernel_rfl) Try.func6
    (ChangeSpec.witness6 (enc := enc) (C := Try.checked) false ⟨#[], #[.slice none 0 0, .int .i64 0], []⟩ 8 (by kernel_rfl) (by kernel_rfl) (by kernel_rfl) (by kernel_rfl)) ?_
  intro W base args ds gs before hval hW _ _
  exact law_contract (n := 5) (tb := 4) Try.func6 rfl rfl (by kernel_rfl) laidOut (by kernel_rfl) (by kernel_rfl) rfl
    (fun H ds h => by
      match ds, h with
      | [d1, d2], _ => rfl) ends_main W base args ds gs before hval hW
theorem memoryEnds_holds : Rows.MemoryEndsSaid :=
  OpenClaim.holds_of_wide 6 Try.f6 rfl rfl rfl rfl rfl rfl rfl ⟨rfl, rfl, rfl, rfl, rfl⟩ rfl rfl rfl rfl rfl (by kernel_rfl) Try.func6 (by kernel_rfl)
    (of_decide_eq_true (by kernel_rfl)) (by unfold Func.isWrapper; first | (rw [if_pos (by decide +kernel)]; kernel_rfl) | (rw [if_neg (by decide +kernel)]; exact ⟨rfl, rfl⟩))
    (fun os started H enc _ => memoryEnds_lifted os started H enc)
end Ytgebmgahfpnjaaa
end Go.Proofs
