/- Proved: MemoryLaterSaid: for every input that can be read as data the law returns true and leaves its arguments as they were; no condition is added. -/
import Derived.Test.YtgebmgahfpnjaaaM31n
set_option linter.unusedVariables false
set_option linter.unusedSimpArgs false
set_option linter.unusedSectionVars false
set_option linter.unnecessarySimpa false
set_option linter.unusedSimpArgs false
set_option linter.unusedVariables false
set_option maxRecDepth 100000
namespace Go.Proofs
open Go.AM Go.ChangeShapes Go.WideShapes Go.ChangeAt Go.RowKit
namespace Ytgebmgahfpnjaaa

/-! ### MemoryLater -/
/-- a block with another end of the trace -/
def cutB (E : Int) (b : BlockT) : BlockT := if b.live = true then { b with hi := E } else b
def goneB (b : BlockT) : Bool := !(b.lo == b.hi)
theorem cutB_keep (E : Int) (b : BlockT) : (cutB E b).lo = b.lo ∧ (cutB E b).live = b.live ∧ (cutB E b).id = b.id := by unfold cutB; split <;> exact ⟨rfl, rfl, rfl⟩
theorem blkRun_cut (os : List TimedT) (E1 E2 : Int) (i : Nat) : ∀ j, blkRun os E1 i j = cutB E1 (blkRun os E2 i j)
  | 0 => rfl
  | j + 1 => by
    rw [blkRun, blkRun, blkRun_cut os E1 E2 i j]
    obtain ⟨_, k2, k3⟩ := cutB_keep E1 (blkRun os E2 i j)
    generalize blkRun os E2 i j = b at k2 k3
    generalize os.getD (i + 1 + j) default = x
    unfold closeIf
    rw [k2, k3]
    by_cases h : (b.live && x.n == b.id && (x.kind == 12 || x.kind == 11)) = true
    · rw [if_pos h, if_pos h]
      unfold cutB closeB
      simp only [Bool.and_eq_true] at h
      rw [if_pos h.1.1]; simp
    · rw [if_neg h, if_neg h]
theorem end_mono {os : List TimedT} {e1 e2 : Int} (h : e1 ≤ e2) : endF os e1 ≤ endF os e2 := by
  unfold endF; split <;> omega

theorem later_law {os : List TimedT} (hv : validB os = true) {e1 e2 : Int} (h : e1 ≤ e2) : ((ofF os e2).map (cutB (endF os e1))).filter goneB = ofF os e1 := by
  have hkey : ∀ l : List BlockT, (sortF (keyLt fun b : BlockT => b.lo) l).map (cutB (endF os e1)) = sortF (keyLt fun b : BlockT => b.lo) (l.map (cutB (endF os e1))) := fun l => by
    rw [sortF_map]
    congr 2
    funext a b
    show decide (a.lo < b.lo) = decide ((cutB (endF os e1) a).lo < (cutB (endF os e1) b).lo)
    rw [(cutB_keep _ a).1, (cutB_keep _ b).1]
  rw [ofF_eq, ofF_eq, hkey, sortF_filter]
  congr 1
  have hE := end_mono (os := os) h
  have hmem : ∀ i ∈ allocs os os.length, i < os.length := fun i hi => (allocs_mem.1 hi).1
  generalize allocs os os.length = L at hmem
  induction L with
  | nil => rfl
  | cons i L ih =>
    have ih := ih fun j hj => hmem j (List.mem_cons_of_mem _ hj)
    have hi := hmem i List.mem_cons_self
    have hc : blkF os e1 i = cutB (endF os e1) (blkF os e2 i) := blkRun_cut os _ _ i _
    have hlo : (blkF os e2 i).lo = timeF (os.getD i default) := (blkRun_keep _ _ _ _).1
    have hlast := end_last hv e1 hi
    have he := blkRun_ends os (endF os e2) i (os.length - (i + 1))
    rw [List.map_cons, List.map_cons, List.filter_cons, List.filter_cons, ← ih, hc]
    generalize hb : blkF os e2 i = b at *
    have he : (b.live = true ∧ b.hi = endF os e2) ∨ b.live = false := by
      rw [← hb]
      rcases he with he | he
      · exact .inl he
      · exact .inr he.1
    rcases he with ⟨l1, l2⟩ | l1
    · have ec : cutB (endF os e1) b = { b with hi := endF os e1 } := by unfold cutB; rw [if_pos l1]
      by_cases hk : b.lo < b.hi
      · rw [if_pos (show keptB b = true by simp [keptB]; omega), List.map_cons, List.filter_cons]
        rw [ec]
        by_cases hg : b.lo < endF os e1
        · rw [if_pos (by simp [goneB]; omega), if_pos (by simp [keptB]; omega)]
        · rw [if_neg (by simp [goneB]; omega), if_neg (by simp [keptB]; omega)]
      · rw [if_neg (show ¬ keptB b = true by simp [keptB]; omega), ec, if_neg (by simp [keptB]; omega)]
    · have ec : cutB (endF os e1) b = b := by unfold cutB; rw [if_neg (by rw [l1]; simp)]
      by_cases hk : b.lo < b.hi
      · rw [if_pos (show keptB b = true by simp [keptB]; omega), List.map_cons, List.filter_cons, ec, if_pos (by simp [goneB]; omega), if_pos (by simp [keptB]; omega)]
      · rw [if_neg (show ¬ keptB b = true by simp [keptB]; omega), ec, if_neg (by simp [keptB]; omega)]


/-- how many of the first k are left -/
def leftN (E : Int) (b : List BlockT) (k : Nat) : Nat := (((b.take k).map (cutB E)).filter goneB).length
theorem leftN_step {E : Int} {b : List BlockT} {k : Nat} (h : k < b.length) : leftN E b (k + 1) = if goneB (cutB E (b.getD k default)) = true then leftN E b k + 1 else leftN E b k := by
  unfold leftN
  rw [take_step b k h, List.map_append, List.filter_append, List.length_append, List.map_cons, List.map_nil, List.filter_cons]
  split <;> simp
theorem leftN_at {E : Int} {b : List BlockT} {k : Nat} (h : k < b.length) (hg : goneB (cutB E (b.getD k default)) = true) : leftN E b k < ((b.map (cutB E)).filter goneB).length ∧ ((b.map (cutB E)).filter goneB).getD (leftN E b k) default = cutB E (b.getD k default) := by
  have e : b = b.take k ++ b.getD k default :: b.drop (k + 1) := by
    have h1 := take_step b k h
    rw [← List.singleton_append, ← List.append_assoc, ← h1, List.take_append_drop]
  have e2 : (b.map (cutB E)).filter goneB = ((b.take k).map (cutB E)).filter goneB ++ cutB E (b.getD k default) :: ((b.drop (k + 1)).map (cutB E)).filter goneB := by
    have := congrArg (fun l : List BlockT => (l.map (cutB E)).filter goneB) e
    rw [this, List.map_append, List.filter_append, List.map_cons, List.filter_cons, if_pos hg]
  rw [e2]
  refine ⟨by unfold leftN; simp, ?_⟩
  rw [List.getD_eq_getElem?_getD, List.getElem?_append_right (by unfold leftN; omega)]
  unfold leftN; simp
theorem sameB_len {os : List TimedT} (hv : validB os = true) {e1 e2 : Int} (h : e1 ≤ e2) : (ofF os e1).length ≤ (ofF os e2).length := by
  rw [← later_law hv h]
  refine Nat.le_trans (List.length_filter_le _ _) ?_
  rw [List.length_map]; exact Nat.le_refl _

theorem c7 (os : List TimedT) (e m : Int) : Pure Try.prog 7 [.d (.sl (os.map TimedT.toD)), .d (.int .i64 e), .d (.int .i64 m)] (.d (.bool true)) := by
  refine Pure.of3 ?_
  refine acalls_of Try.func7 rfl rfl (by simp [Try.ntmps7]) (evC_sound rfl _ _ _ _ ?_)
  simp only [Try.ntmps7, Try.results7, argEnv, List.length_nil]
  simp only [vcRules, dRules, bRules, tyRules, xRules, pickV_true, pickV_false, implies_true, Nat.reduceLT, Nat.reduceLeDiff, Nat.reduceEqDiff, Nat.reduceAdd, Nat.reduceSub, Nat.reduceMul, Int.reduceToNat, Int.reduceLT, Int.reduceLE, Int.reduceEq, Int.reduceAdd, Int.reduceSub, Int.reduceNeg, Int.reduceBEq, Int.reduceBNe, Int.reduceMul, Int.natCast_add, Int.natCast_one, reduceCtorEq, reduceIte, b_isAgg, b_cells, t_isAgg, t_cells, yRules]
  refine callF_pure (c8 os) ?_
  simp only [vcRules, dRules, bRules, tyRules, xRules, pickV_true, pickV_false, implies_true, Nat.reduceLT, Nat.reduceLeDiff, Nat.reduceEqDiff, Nat.reduceAdd, Nat.reduceSub, Nat.reduceMul, Int.reduceToNat, Int.reduceLT, Int.reduceLE, Int.reduceEq, Int.reduceAdd, Int.reduceSub, Int.reduceNeg, Int.reduceBEq, Int.reduceBNe, Int.reduceMul, Int.natCast_add, Int.natCast_one, reduceCtorEq, reduceIte, b_isAgg, b_cells, t_isAgg, t_cells, yRules]
  have hst : smallB os = true → (∀ x ∈ os, x.stack.length < 1000000) ∧ os.length < 1000000 := fun h => by
    obtain ⟨h1, h2⟩ := small_spec h
    exact ⟨fun x hx => by have := h2 x hx; omega, by omega⟩
  refine callG_pure (v := .d (.bool (validB os))) (fun hg => ?_) ?_
  · have hg : smallB os = true := by simpa using hg
    exact c22 os (hst hg).1 (hst hg).2
  simp only [vcRules, dRules, bRules, tyRules, xRules, pickV_true, pickV_false, implies_true, Nat.reduceLT, Nat.reduceLeDiff, Nat.reduceEqDiff, Nat.reduceAdd, Nat.reduceSub, Nat.reduceMul, Int.reduceToNat, Int.reduceLT, Int.reduceLE, Int.reduceEq, Int.reduceAdd, Int.reduceSub, Int.reduceNeg, Int.reduceBEq, Int.reduceBNe, Int.reduceMul, Int.natCast_add, Int.natCast_one, reduceCtorEq, reduceIte, b_isAgg, b_cells, t_isAgg, t_cells, yRules]
  repeat ((with_reducible refine And.intro ?_ ?_); (focus (first | omega | (simp only [List.length_take, List.length_drop, List.length_map, List.length_append, List.length_cons]; omega) | (intros; simp_all; done) | kernel_rfl)))
  refine ifC.mk (fun h => ?_) (fun h => ?_)
  · refine callF_pure c9 ?_
    simp only [vcRules, dRules, bRules, tyRules, xRules, pickV_true, pickV_false, implies_true, Nat.reduceLT, Nat.reduceLeDiff, Nat.reduceEqDiff, Nat.reduceAdd, Nat.reduceSub, Nat.reduceMul, Int.reduceToNat, Int.reduceLT, Int.reduceLE, Int.reduceEq, Int.reduceAdd, Int.reduceSub, Int.reduceNeg, Int.reduceBEq, Int.reduceBNe, Int.reduceMul, Int.natCast_add, Int.natCast_one, reduceCtorEq, reduceIte, b_isAgg, b_cells, t_isAgg, t_cells, yRules]
    exact ⟨_, _, ret_d, rfl, rfl⟩
  · simp only [Bool.or_eq_false_iff, Bool.not_eq_false', decide_eq_false_iff_not] at h
    obtain ⟨⟨hsm, hv⟩, hme⟩ := h
    obtain ⟨h1, h2⟩ := small_spec hsm
    obtain ⟨hs, hl⟩ := hst hsm
    refine callF_pure (c11 os e hl) ?_
    simp only [vcRules, dRules, bRules, tyRules, xRules, pickV_true, pickV_false, implies_true, Nat.reduceLT, Nat.reduceLeDiff, Nat.reduceEqDiff, Nat.reduceAdd, Nat.reduceSub, Nat.reduceMul, Int.reduceToNat, Int.reduceLT, Int.reduceLE, Int.reduceEq, Int.reduceAdd, Int.reduceSub, Int.reduceNeg, Int.reduceBEq, Int.reduceBNe, Int.reduceMul, Int.natCast_add, Int.natCast_one, reduceCtorEq, reduceIte, b_isAgg, b_cells, t_isAgg, t_cells, yRules]
    refine callF_pure (c11 os m hl) ?_
    have hlaw := later_law hv (show e ≤ m by omega)
    have hlen := sameB_len hv (show e ≤ m by omega)
    have hs2 : ∀ e, ∀ x ∈ ofF os e, x.stack.length < 1000000 := fun e x hx => by
      rw [ofF_ref] at hx
      have := refRun_stack (e := e) h2 os.length (Nat.le_refl _) x hx
      omega
    have h3 : (ofF os m).length ≤ 200 := by
      have := ofF_length os m
      have := countF_le os 11 os.length
      omega
    obtain ⟨a, ha⟩ : ∃ a, a = ofF os e := ⟨_, rfl⟩
    obtain ⟨b, hb⟩ : ∃ b, b = ofF os m := ⟨_, rfl⟩
    have hsa : ∀ x ∈ a, x.stack.length < 1000000 := by rw [ha]; exact hs2 e
    have hsb : ∀ x ∈ b, x.stack.length < 1000000 := by rw [hb]; exact hs2 m
    obtain ⟨E, hE⟩ : ∃ E, E = endF os e := ⟨_, rfl⟩
    rw [← ha, ← hb] at hlen hlaw
    rw [← hb] at h3
    rw [← hE] at hlaw
    rw [← ha, ← hb]
    simp only [vcRules, dRules, bRules, tyRules, xRules, pickV_true, pickV_false, implies_true, Nat.reduceLT, Nat.reduceLeDiff, Nat.reduceEqDiff, Nat.reduceAdd, Nat.reduceSub, Nat.reduceMul, Int.reduceToNat, Int.reduceLT, Int.reduceLE, Int.reduceEq, Int.reduceAdd, Int.reduceSub, Int.reduceNeg, Int.reduceBEq, Int.reduceBNe, Int.reduceMul, Int.natCast_add, Int.natCast_one, reduceCtorEq, reduceIte, b_isAgg, b_cells, t_isAgg, t_cells, yRules, (show ¬ ((b.length : Nat) : Int) < (a.length : Int) by omega)]
    refine for_of b.length (fun k => [(0, .d (.sl (os.map TimedT.toD))), (1, .d (.int .i64 e)), (7, .d (.sl (a.map BlockT.toD))), (8, .d (.sl (b.map BlockT.toD))), (9, .d (.int .i64 (leftN E b k))), (10, .d (.int .i64 k))]) (fun _ => []) (fun _ => True) trivial ?_ ?_
    · refine weak_to [] [] rfl List.nodup_nil ?_ rfl
      simp only [vcRules, dRules, bRules, tyRules, xRules, pickV_true, pickV_false, implies_true, Nat.reduceLT, Nat.reduceLeDiff, Nat.reduceEqDiff, Nat.reduceAdd, Nat.reduceSub, Nat.reduceMul, Int.reduceToNat, Int.reduceLT, Int.reduceLE, Int.reduceEq, Int.reduceAdd, Int.reduceSub, Int.reduceNeg, Int.reduceBEq, Int.reduceBNe, Int.reduceMul, Int.natCast_add, Int.natCast_one, reduceCtorEq, reduceIte, b_isAgg, b_cells, t_isAgg, t_cells, yRules, Int.cast_ofNat_Int, leftN, List.filter_nil]
    · intro k _ hk
      by_cases h : k < b.length
      · obtain ⟨x, hx⟩ : ∃ x, x = b.getD k default := ⟨_, rfl⟩
        have hst := leftN_step (E := E) h
        obtain ⟨y, hy⟩ : ∃ y, y = cutB E x := ⟨_, rfl⟩
        have hsy : y.stack.length < 1000000 := by
          have : y.stack = x.stack := by rw [hy]; unfold cutB; split <;> rfl
          rw [this, hx]; exact hsb _ (mem_getD h)
        have hat := leftN_at (E := E) h
        rw [← hx, ← hy] at hst
        rw [← hx, ← hy, hlaw] at hat
        simp only [vcRules, dRules, bRules, tyRules, xRules, pickV_true, pickV_false, implies_true, Nat.reduceLT, Nat.reduceLeDiff, Nat.reduceEqDiff, Nat.reduceAdd, Nat.reduceSub, Nat.reduceMul, Int.reduceToNat, Int.reduceLT, Int.reduceLE, Int.reduceEq, Int.reduceAdd, Int.reduceSub, Int.reduceNeg, Int.reduceBEq, Int.reduceBNe, Int.reduceMul, Int.natCast_add, Int.natCast_one, reduceCtorEq, reduceIte, b_isAgg, b_cells, t_isAgg, t_cells, yRules, (show (k:Int) < b.length by omega), h, a_getD _ _ _ (show k < b.length by omega), ← hx]
        repeat ((with_reducible refine And.intro ?_ ?_); (focus (first | omega | (simp only [List.length_take, List.length_drop, List.length_map, List.length_append, List.length_cons]; omega) | (intros; simp_all; done) | kernel_rfl)))
        refine ifC.mk (fun hlv => ?_) (fun hlv => ?_)
        · have z : D.agg [.int .i64 x.id, .int .i64 x.thread, .int .i64 x.size, .int .i64 x.lo, .int .i64 E, .sl (x.stack.map .str), .bool x.live] = y.toD := by
            rw [hy]; unfold cutB; rw [if_pos hlv]; rfl
          refine callF_pure (c24 os e hl) ?_
          rw [← hE]
          simp only [vcRules, dRules, bRules, tyRules, xRules, pickV_true, pickV_false, implies_true, Nat.reduceLT, Nat.reduceLeDiff, Nat.reduceEqDiff, Nat.reduceAdd, Nat.reduceSub, Nat.reduceMul, Int.reduceToNat, Int.reduceLT, Int.reduceLE, Int.reduceEq, Int.reduceAdd, Int.reduceSub, Int.reduceNeg, Int.reduceBEq, Int.reduceBNe, Int.reduceMul, Int.natCast_add, Int.natCast_one, reduceCtorEq, reduceIte, b_isAgg, b_cells, t_isAgg, t_cells, yRules, z]
          repeat ((with_reducible refine And.intro ?_ ?_); (focus (first | omega | (simp only [List.length_take, List.length_drop, List.length_map, List.length_append, List.length_cons]; omega) | (intros; simp_all; done) | kernel_rfl)))
          refine ifC.mk (fun hg => ?_) (fun hg => ?_)
          · have hgy : goneB y = false := by unfold goneB; rw [hg]; rfl
            rw [hst, if_neg (by rw [hgy]; simp)]
            refine weak_to [] [] rfl List.nodup_nil ?_ rfl
            simp only [vcRules, dRules, bRules, tyRules, xRules, pickV_true, pickV_false, implies_true, Nat.reduceLT, Nat.reduceLeDiff, Nat.reduceEqDiff, Nat.reduceAdd, Nat.reduceSub, Nat.reduceMul, Int.reduceToNat, Int.reduceLT, Int.reduceLE, Int.reduceEq, Int.reduceAdd, Int.reduceSub, Int.reduceNeg, Int.reduceBEq, Int.reduceBNe, Int.reduceMul, Int.natCast_add, Int.natCast_one, reduceCtorEq, reduceIte, b_isAgg, b_cells, t_isAgg, t_cells, yRules, @a_wrap ((k:Int) + 1) (by omega)]
          · have hgy : goneB y = true := by unfold goneB; rw [hg]; rfl
            obtain ⟨q1, q2⟩ := hat hgy
            refine ⟨by kernel_rfl, ?_⟩
            simp only [vcRules, dRules, bRules, tyRules, xRules, pickV_true, pickV_false, implies_true, Nat.reduceLT, Nat.reduceLeDiff, Nat.reduceEqDiff, Nat.reduceAdd, Nat.reduceSub, Nat.reduceMul, Int.reduceToNat, Int.reduceLT, Int.reduceLE, Int.reduceEq, Int.reduceAdd, Int.reduceSub, Int.reduceNeg, Int.reduceBEq, Int.reduceBNe, Int.reduceMul, Int.natCast_add, Int.natCast_one, reduceCtorEq, reduceIte, b_isAgg, b_cells, t_isAgg, t_cells, yRules, (show ¬ ((a.length : Nat) : Int) ≤ leftN E b k by omega), q1, (show ((leftN E b k : Nat) : Int) < a.length by omega), a_getD _ _ _ (show leftN E b k < a.length by omega), q2]
            repeat ((with_reducible refine And.intro ?_ ?_); (focus (first | omega | (simp only [List.length_take, List.length_drop, List.length_map, List.length_append, List.length_cons]; omega) | (intros; simp_all; done) | kernel_rfl)))
            refine callG_pure (fun _ => c26 y y hsy hsy) ?_
            rw [sameBlockB_refl]
            simp only [vcRules, dRules, bRules, tyRules, xRules, pickV_true, pickV_false, implies_true, Nat.reduceLT, Nat.reduceLeDiff, Nat.reduceEqDiff, Nat.reduceAdd, Nat.reduceSub, Nat.reduceMul, Int.reduceToNat, Int.reduceLT, Int.reduceLE, Int.reduceEq, Int.reduceAdd, Int.reduceSub, Int.reduceNeg, Int.reduceBEq, Int.reduceBNe, Int.reduceMul, Int.natCast_add, Int.natCast_one, reduceCtorEq, reduceIte, b_isAgg, b_cells, t_isAgg, t_cells, yRules]
            rw [hst, if_pos hgy]
            refine weak_to [] [] rfl List.nodup_nil ?_ rfl
            simp only [vcRules, dRules, bRules, tyRules, xRules, pickV_true, pickV_false, implies_true, Nat.reduceLT, Nat.reduceLeDiff, Nat.reduceEqDiff, Nat.reduceAdd, Nat.reduceSub, Nat.reduceMul, Int.reduceToNat, Int.reduceLT, Int.reduceLE, Int.reduceEq, Int.reduceAdd, Int.reduceSub, Int.reduceNeg, Int.reduceBEq, Int.reduceBNe, Int.reduceMul, Int.natCast_add, Int.natCast_one, reduceCtorEq, reduceIte, b_isAgg, b_cells, t_isAgg, t_cells, yRules, @a_wrap ((k:Int) + 1) (by omega), @a_wrap (((leftN E b k : Nat) : Int) + 1) (by omega)]
        · have hxy : x = y := by rw [hy]; unfold cutB; rw [if_neg (by rw [hlv]; simp)]
          rw [hxy]
          refine ifC.mk (fun hg => ?_) (fun hg => ?_)
          · have hgy : goneB y = false := by unfold goneB; rw [hg]; rfl
            rw [hst, if_neg (by rw [hgy]; simp)]
            refine weak_to [] [] rfl List.nodup_nil ?_ rfl
            simp only [vcRules, dRules, bRules, tyRules, xRules, pickV_true, pickV_false, implies_true, Nat.reduceLT, Nat.reduceLeDiff, Nat.reduceEqDiff, Nat.reduceAdd, Nat.reduceSub, Nat.reduceMul, Int.reduceToNat, Int.reduceLT, Int.reduceLE, Int.reduceEq, Int.reduceAdd, Int.reduceSub, Int.reduceNeg, Int.reduceBEq, Int.reduceBNe, Int.reduceMul, Int.natCast_add, Int.natCast_one, reduceCtorEq, reduceIte, b_isAgg, b_cells, t_isAgg, t_cells, yRules, @a_wrap ((k:Int) + 1) (by omega)]
          · have hgy : goneB y = true := by unfold goneB; rw [hg]; rfl
            obtain ⟨q1, q2⟩ := hat hgy
            refine ⟨by kernel_rfl, ?_⟩
            simp only [vcRules, dRules, bRules, tyRules, xRules, pickV_true, pickV_false, implies_true, Nat.reduceLT, Nat.reduceLeDiff, Nat.reduceEqDiff, Nat.reduceAdd, Nat.reduceSub, Nat.reduceMul, Int.reduceToNat, Int.reduceLT, Int.reduceLE, Int.reduceEq, Int.reduceAdd, Int.reduceSub, Int.reduceNeg, Int.reduceBEq, Int.reduceBNe, Int.reduceMul, Int.natCast_add, Int.natCast_one, reduceCtorEq, reduceIte, b_isAgg, b_cells, t_isAgg, t_cells, yRules, (show ¬ ((a.length : Nat) : Int) ≤ leftN E b k by omega), q1, (show ((leftN E b k : Nat) : Int) < a.length by omega), a_getD _ _ _ (show leftN E b k < a.length by omega), q2]
            repeat ((with_reducible refine And.intro ?_ ?_); (focus (first | omega | (simp only [List.length_take, List.length_drop, List.length_map, List.length_append, List.length_cons]; omega) | (intros; simp_all; done) | kernel_rfl)))
            refine callG_pure (fun _ => c26 y y hsy hsy) ?_
            rw [sameBlockB_refl]
            simp only [vcRules, dRules, bRules, tyRules, xRules, pickV_true, pickV_false, implies_true, Nat.reduceLT, Nat.reduceLeDiff, Nat.reduceEqDiff, Nat.reduceAdd, Nat.reduceSub, Nat.reduceMul, Int.reduceToNat, Int.reduceLT, Int.reduceLE, Int.reduceEq, Int.reduceAdd, Int.reduceSub, Int.reduceNeg, Int.reduceBEq, Int.reduceBNe, Int.reduceMul, Int.natCast_add, Int.natCast_one, reduceCtorEq, reduceIte, b_isAgg, b_cells, t_isAgg, t_cells, yRules]
            rw [hst, if_pos hgy]
            refine weak_to [] [] rfl List.nodup_nil ?_ rfl
            simp only [vcRules, dRules, bRules, tyRules, xRules, pickV_true, pickV_false, implies_true, Nat.reduceLT, Nat.reduceLeDiff, Nat.reduceEqDiff, Nat.reduceAdd, Nat.reduceSub, Nat.reduceMul, Int.reduceToNat, Int.reduceLT, Int.reduceLE, Int.reduceEq, Int.reduceAdd, Int.reduceSub, Int.reduceNeg, Int.reduceBEq, Int.reduceBNe, Int.reduceMul, Int.natCast_add, Int.natCast_one, reduceCtorEq, reduceIte, b_isAgg, b_cells, t_isAgg, t_cells, yRules, @a_wrap ((k:Int) + 1) (by omega), @a_wrap (((leftN E b k : Nat) : Int) + 1) (by omega)]
      · have : k = b.length := by omega
        subst this
        have hfin : leftN E b b.length = a.length := by rw [← hlaw, leftN, List.take_length]
        simp only [vcRules, dRules, bRules, tyRules, xRules, pickV_true, pickV_false, implies_true, Nat.reduceLT, Nat.reduceLeDiff, Nat.reduceEqDiff, Nat.reduceAdd, Nat.reduceSub, Nat.reduceMul, Int.reduceToNat, Int.reduceLT, Int.reduceLE, Int.reduceEq, Int.reduceAdd, Int.reduceSub, Int.reduceNeg, Int.reduceBEq, Int.reduceBNe, Int.reduceMul, Int.natCast_add, Int.natCast_one, reduceCtorEq, reduceIte, b_isAgg, b_cells, t_isAgg, t_cells, yRules, (show ¬ (b.length:Int) < b.length by omega), hfin, beq_self_eq_true]
        refine callG_pure (fun _ => c9) ?_
        simp only [vcRules, dRules, bRules, tyRules, xRules, pickV_true, pickV_false, implies_true, Nat.reduceLT, Nat.reduceLeDiff, Nat.reduceEqDiff, Nat.reduceAdd, Nat.reduceSub, Nat.reduceMul, Int.reduceToNat, Int.reduceLT, Int.reduceLE, Int.reduceEq, Int.reduceAdd, Int.reduceSub, Int.reduceNeg, Int.reduceBEq, Int.reduceBNe, Int.reduceMul, Int.natCast_add, Int.natCast_one, reduceCtorEq, reduceIte, b_isAgg, b_cells, t_isAgg, t_cells, yRules]
        exact ⟨_, _, ret_d, rfl, rfl⟩

theorem later_main (xs : List D) (h : TypedAll Try.prog 5 Try.f7.params.toList xs) : ACalls Try.prog [] 7 (xs.map AV.d) [] (fun r _ => r = .d (.bool true)) := by
  rw [Try.params7] at h
  obtain ⟨x, _, rfl, h1, y, _, rfl, h2, z, _, rfl, h3, rfl⟩ := h
  obtain ⟨os, rfl, _⟩ := par22 h1
  obtain ⟨e, rfl, _⟩ := par3 h2
  obtain ⟨m, rfl, _⟩ := par3 h3
  exact (c7 os e m []).mono fun r s h => h.1

theorem memoryLater_lifted (os : Os) (started : os.Started) (H : Type) (enc : TypeId × Value → H) :
    ReturnsInHanded {} Try.checked os 7 .any (Rows.memoryLaterSpec.pre6 enc Try.prog Try.f7 Rows.memoryLaterRow.domain false) (Rows.memoryLaterSpec.post enc Try.prog Try.f7 false true false false) := by
  refine returnsInHanded_of_change (C := Try.checked) own started (by kernel_rfl) Try.func7
    (ChangeSpec.witness6 (enc := enc) (C := Try.checked) false ⟨#[], #[.slice none 0 0, .int .i64 0, .int .i64 0], []⟩ 8 (by kernel_rfl) (by kernel_rfl) (by kernel_rfl) (by kernel_rfl)) ?_
  intro W base args ds gs before hval hW _ _
  exact law_contract (n := 5) (tb := 4) Try.func7 rfl rfl (by kernel_rfl) laidOut (by kernel_rfl) (by kernel_rfl) rfl
    (fun H ds h => by
      match ds, h with
      | [d1, d2, d3], _ => rfl) later_main W base args ds gs before hval hW
theorem memoryLater_holds : Rows.MemoryLaterSaid :=
  OpenClaim.holds_of_wide 7 Try.f7 rfl rfl rfl rfl rfl rfl rfl ⟨rfl, rfl, rfl, rfl, rfl⟩ rfl rfl rfl rfl rfl (by kernel_rfl) Try.func7 (by kernel_rfl)
    (of_decide_eq_true (by kernel_rfl)) (by unfold Func.isWrapper; first | (rw [if_pos (by decide +kernel)]; kernel_rfl) | (rw [if_neg (by decide +kernel)]; exact ⟨rfl, rfl⟩))
    (fun os started H enc _ => memoryLater_lifted os started H enc)
end Ytgebmgahfpnjaaa
end Go.Proofs
