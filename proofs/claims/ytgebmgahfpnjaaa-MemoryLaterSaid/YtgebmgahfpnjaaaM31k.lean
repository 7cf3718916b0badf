/- A part of the proof: contracts of functions of this seat, and lemmas. No condition beyond those stated. -/
import Derived.Test.YtgebmgahfpnjaaaM31j
import Derived.Test.YtgebmgahfpnjaaaG5
import Derived.Test.YtgebmgahfpnjaaaRows
import Derived.OpenShut
import Derived.WalkKit
set_option linter.unusedVariables false
set_option linter.unusedSimpArgs false
set_option linter.unusedSectionVars false
set_option linter.unnecessarySimpa false
set_option linter.unusedSimpArgs false
set_option linter.unusedVariables false
set_option maxRecDepth 100000
namespace Go.Proofs
open Go.AM Go.ChangeShapes Go.WideShapes Go.ChangeAt Go.RowKit
namespace Ytgebmgahfpnjaaa

theorem own : ownKnob Try.prog.godebug = none := by kernel_rfl
theorem laidOut : laidOutB Try.prog = true := by kernel_rfl

/-! ### the arguments -/
theorem block_of {x : D} (h : ConfL [.int .i64, .int .i64, .int .i64, .int .i64, .int .i64, .sl [.str] false, .bool] x.cells) (hg : x.isAgg = true) : ∃ b : BlockT, x = b.toD := by
  obtain ⟨_, _, e1, ⟨a1, rfl, _⟩, _, _, rfl, ⟨a2, rfl, _⟩, _, _, rfl, ⟨a3, rfl, _⟩, _, _, rfl, ⟨a4, rfl, _⟩, _, _, rfl, ⟨a5, rfl, _⟩, _, _, rfl, ⟨xs, rfl, _, hx⟩, _, _, rfl, ⟨b, rfl⟩, rfl⟩ := h
  obtain ⟨l, rfl⟩ := strs_of hx
  exact ⟨⟨a1, a2, a3, a4, a5, l, b⟩, agg_of hg e1⟩
theorem timed_of {x : D} (h : ConfL [.int .i64, .int .i64, .int .i64, .int .i64, .str, .int .i64, .int .i64, .sl [.str] false, .int .i64, .int .i64] x.cells) (hg : x.isAgg = true) : ∃ b : TimedT, x = b.toD := by
  obtain ⟨_, _, e1, ⟨a1, rfl, _⟩, _, _, rfl, ⟨a2, rfl, _⟩, _, _, rfl, ⟨a3, rfl, _⟩, _, _, rfl, ⟨a4, rfl, _⟩, _, _, rfl, ⟨a5, rfl, _⟩, _, _, rfl, ⟨a6, rfl, _⟩, _, _, rfl, ⟨a7, rfl, _⟩, _, _, rfl, ⟨xs, rfl, _, hx⟩, _, _, rfl, ⟨a8, rfl, _⟩, _, _, rfl, ⟨a9, rfl, _⟩, rfl⟩ := h
  obtain ⟨l, rfl⟩ := strs_of hx
  exact ⟨⟨a1, a2, a3, a4, a5, a6, a7, l, a8, a9⟩, agg_of hg e1⟩
theorem sh22 : shapeOf Try.prog 5 22 = some [.sl [.int .i64, .int .i64, .int .i64, .int .i64, .str, .int .i64, .int .i64, .sl [.str] false, .int .i64, .int .i64] true] := by kernel_rfl
theorem sh26 : shapeOf Try.prog 5 26 = some [.sl [.int .i64, .int .i64, .int .i64, .int .i64, .int .i64, .sl [.str] false, .bool] true] := by kernel_rfl
theorem sh3 : shapeOf Try.prog 5 3 = some [.int .i64] := by kernel_rfl
theorem par22 {x : D} (h : TypedV Try.prog 5 22 x) : ∃ os : List TimedT, x = .sl (os.map TimedT.toD) ∧ os.length ≤ maxLen := by
  obtain ⟨xs, rfl, hl, hx⟩ := param1_of h sh22 (by kernel_rfl)
  obtain ⟨l, rfl⟩ := list_of fun y hy => timed_of (hx y hy).1 (hx y hy).2
  exact ⟨l, rfl, by simpa using hl⟩
theorem par26 {x : D} (h : TypedV Try.prog 5 26 x) : ∃ os : List BlockT, x = .sl (os.map BlockT.toD) ∧ os.length ≤ maxLen := by
  obtain ⟨xs, rfl, hl, hx⟩ := param1_of h sh26 (by kernel_rfl)
  obtain ⟨l, rfl⟩ := list_of fun y hy => block_of (hx y hy).1 (hx y hy).2
  exact ⟨l, rfl, by simpa using hl⟩
theorem par3 {x : D} (h : TypedV Try.prog 5 3 x) : ∃ e : Int, x = .int .i64 e ∧ (Lit.int .i64 e).wf = true := param1_of h sh3 (by kernel_rfl)

/-! ### MemoryOf -/
theorem small_spec {os : List TimedT} (h : smallB os = true) : os.length ≤ 200 ∧ ∀ o ∈ os, o.stack.length ≤ 60 := by
  unfold smallB at h
  simp only [Bool.and_eq_true, decide_eq_true_eq, List.all_eq_true] at h
  exact h
theorem few_spec {os : List BlockT} (h : fewB os = true) : os.length ≤ 200 ∧ ∀ o ∈ os, o.stack.length ≤ 60 := by
  unfold fewB at h
  simp only [Bool.and_eq_true, decide_eq_true_eq, List.all_eq_true] at h
  exact h
theorem sameBlockB_refl (a : BlockT) : sameBlockB a a = true := by simp [sameBlockB]
theorem sameB_refl (l : List BlockT) : sameB l l = true := by
  simp [sameB, sameBlockB_refl]
theorem putF_sub {lt : BlockT → BlockT → Bool} {P : BlockT → Prop} {l : List BlockT} {b : BlockT} (hl : ∀ x ∈ l, P x) (hb : P b) : ∀ x ∈ putF lt l b, P x := fun x hx => by
  rcases putF_mem.1 hx with h | rfl
  · exact hl x h
  · exact hb
theorem closeIf_stack (x : TimedT) (b : BlockT) : (closeIf x b).stack = b.stack := by unfold closeIf; split <;> rfl
theorem blkRun_stack (os : List TimedT) (E : Int) (i : Nat) : ∀ j, (blkRun os E i j).stack = (os.getD i default).stack
  | 0 => rfl
  | j + 1 => by rw [blkRun, closeIf_stack, blkRun_stack]
theorem refRun_stack {os : List TimedT} {e : Int} (h : ∀ o ∈ os, o.stack.length ≤ 60) : ∀ k, k ≤ os.length → ∀ b ∈ refRun os e k, b.stack.length ≤ 60
  | 0, _, b, hb => by cases hb
  | k + 1, hk, b, hb => by
    have ih := refRun_stack (e := e) h k (by omega)
    unfold refRun refStep at hb
    split at hb
    · split at hb
      · refine putF_sub (P := fun b => b.stack.length ≤ 60) ih ?_ b hb
        unfold blkF
        rw [blkRun_stack]
        exact h _ (mem_getD (by omega))
      · exact ih b hb
    · exact ih b hb

theorem c3 (os : List TimedT) (e : Int) : Pure Try.prog 3 [.d (.sl (os.map TimedT.toD)), .d (.int .i64 e)] (.d (.bool true)) := by
  refine Pure.of2 ?_
  refine acalls_of Try.func3 rfl rfl (by simp [Try.ntmps3]) (evC_sound rfl _ _ _ _ ?_)
  simp only [Try.ntmps3, Try.results3, argEnv, List.length_nil]
  simp only [vcRules, dRules, bRules, tyRules, xRules, pickV_true, pickV_false, implies_true, Nat.reduceLT, Nat.reduceLeDiff, Nat.reduceEqDiff, Nat.reduceAdd, Nat.reduceSub, Nat.reduceMul, Int.reduceToNat, Int.reduceLT, Int.reduceLE, Int.reduceEq, Int.reduceAdd, Int.reduceSub, Int.reduceNeg, Int.reduceBEq, Int.reduceBNe, Int.reduceMul, Int.natCast_add, Int.natCast_one, reduceCtorEq, reduceIte, b_isAgg, b_cells, t_isAgg, t_cells, yRules]
  refine callF_pure (c8 os) ?_
  simp only [vcRules, dRules, bRules, tyRules, xRules, pickV_true, pickV_false, implies_true, Nat.reduceLT, Nat.reduceLeDiff, Nat.reduceEqDiff, Nat.reduceAdd, Nat.reduceSub, Nat.reduceMul, Int.reduceToNat, Int.reduceLT, Int.reduceLE, Int.reduceEq, Int.reduceAdd, Int.reduceSub, Int.reduceNeg, Int.reduceBEq, Int.reduceBNe, Int.reduceMul, Int.natCast_add, Int.natCast_one, reduceCtorEq, reduceIte, b_isAgg, b_cells, t_isAgg, t_cells, yRules]
  refine ifC.mk (fun h => ?_) (fun h => ?_)
  · refine callF_pure c9 ?_
    simp only [vcRules, dRules, bRules, tyRules, xRules, pickV_true, pickV_false, implies_true, Nat.reduceLT, Nat.reduceLeDiff, Nat.reduceEqDiff, Nat.reduceAdd, Nat.reduceSub, Nat.reduceMul, Int.reduceToNat, Int.reduceLT, Int.reduceLE, Int.reduceEq, Int.reduceAdd, Int.reduceSub, Int.reduceNeg, Int.reduceBEq, Int.reduceBNe, Int.reduceMul, Int.natCast_add, Int.natCast_one, reduceCtorEq, reduceIte, b_isAgg, b_cells, t_isAgg, t_cells, yRules]
    exact ⟨_, _, ret_d, rfl, rfl⟩
  · have h : smallB os = true := by simpa using h
    obtain ⟨h1, h2⟩ := small_spec h
    refine callF_pure (c11 os e (by omega)) ?_
    simp only [vcRules, dRules, bRules, tyRules, xRules, pickV_true, pickV_false, implies_true, Nat.reduceLT, Nat.reduceLeDiff, Nat.reduceEqDiff, Nat.reduceAdd, Nat.reduceSub, Nat.reduceMul, Int.reduceToNat, Int.reduceLT, Int.reduceLE, Int.reduceEq, Int.reduceAdd, Int.reduceSub, Int.reduceNeg, Int.reduceBEq, Int.reduceBNe, Int.reduceMul, Int.natCast_add, Int.natCast_one, reduceCtorEq, reduceIte, b_isAgg, b_cells, t_isAgg, t_cells, yRules]
    refine callF_pure (c12 os e (by omega)) ?_
    simp only [vcRules, dRules, bRules, tyRules, xRules, pickV_true, pickV_false, implies_true, Nat.reduceLT, Nat.reduceLeDiff, Nat.reduceEqDiff, Nat.reduceAdd, Nat.reduceSub, Nat.reduceMul, Int.reduceToNat, Int.reduceLT, Int.reduceLE, Int.reduceEq, Int.reduceAdd, Int.reduceSub, Int.reduceNeg, Int.reduceBEq, Int.reduceBNe, Int.reduceMul, Int.natCast_add, Int.natCast_one, reduceCtorEq, reduceIte, b_isAgg, b_cells, t_isAgg, t_cells, yRules]
    have h3 := refRun_len os e os.length
    have h4 := refRun_stack (e := e) h2 os.length (Nat.le_refl _)
    rw [ofF_ref]
    refine callF_pure (c10 _ _ (fun x hx => by have := h4 x hx; omega) (fun x hx => by have := h4 x hx; omega) (by omega) (by omega)) ?_
    rw [sameB_refl]
    simp only [vcRules, dRules, bRules, tyRules, xRules, pickV_true, pickV_false, implies_true, Nat.reduceLT, Nat.reduceLeDiff, Nat.reduceEqDiff, Nat.reduceAdd, Nat.reduceSub, Nat.reduceMul, Int.reduceToNat, Int.reduceLT, Int.reduceLE, Int.reduceEq, Int.reduceAdd, Int.reduceSub, Int.reduceNeg, Int.reduceBEq, Int.reduceBNe, Int.reduceMul, Int.natCast_add, Int.natCast_one, reduceCtorEq, reduceIte, b_isAgg, b_cells, t_isAgg, t_cells, yRules]
    refine callG_pure (fun _ => c9) ?_
    simp only [vcRules, dRules, bRules, tyRules, xRules, pickV_true, pickV_false, implies_true, Nat.reduceLT, Nat.reduceLeDiff, Nat.reduceEqDiff, Nat.reduceAdd, Nat.reduceSub, Nat.reduceMul, Int.reduceToNat, Int.reduceLT, Int.reduceLE, Int.reduceEq, Int.reduceAdd, Int.reduceSub, Int.reduceNeg, Int.reduceBEq, Int.reduceBNe, Int.reduceMul, Int.natCast_add, Int.natCast_one, reduceCtorEq, reduceIte, b_isAgg, b_cells, t_isAgg, t_cells, yRules]
    exact ⟨_, _, ret_d, rfl, rfl⟩

theorem memoryOf_main (xs : List D) (h : TypedAll Try.prog 5 Try.f3.params.toList xs) : ACalls Try.prog [] 3 (xs.map AV.d) [] (fun r _ => r = .d (.bool true)) := by
  rw [Try.params3] at h
  obtain ⟨x, _, rfl, h1, y, _, rfl, h2, rfl⟩ := h
  obtain ⟨os, rfl, _⟩ := par22 h1
  obtain ⟨e, rfl, _⟩ := par3 h2
  exact (c3 os e []).mono fun r s h => h.1

theorem memoryOf_lifted (os : Os) (started : os.Started) (H : Type) (enc : TypeId × Value → H) :
    ReturnsInHanded {} Try.checked os 3 .any (Rows.memoryOfSpec.pre6 enc Try.prog Try.f3 Rows.memoryOfRow.domain false) (Rows.memoryOfSpec.post enc Try.prog Try.f3 false true false false) := by
  refine returnsInHanded_of_change (C := Try.checked) own started (by kernel_rfl) Try.func3
    (ChangeSpec.witness6 (enc := enc) (C := Try.checked) false ⟨#[], #[.slice none 0 0, .int .i64 0], []⟩ 8 (by kernel_rfl) (by kernel_rfl) (by kernel_rfl) (by kernel_rfl)) ?_
  intro W base args ds gs before hval hW _ _
  exact law_contract (n := 5) (tb := 4) Try.func3 rfl rfl (by kernel_rfl) laidOut (by kernel_rfl) (by kernel_rfl) rfl
    (fun H ds h => by
      match ds, h with
      | [d1, d2], _ => rfl) memoryOf_main W base args ds gs before hval hW

theorem memoryOf_holds : Rows.MemoryOfSaid :=
  OpenClaim.holds_of_wide 3 Try.f3 rfl rfl rfl rfl rfl rfl rfl ⟨rfl, rfl, rfl, rfl, rfl⟩ rfl rfl rfl rfl rfl (by kernel_rfl) Try.func3 (by kernel_rfl)
    (of_decide_eq_true (by kernel_rfl)) (by unfold Func.isWrapper; first | (rw [if_pos (by decide +kernel)]; kernel_rfl) | (rw [if_neg (by decide +kernel)]; exact ⟨rfl, rfl⟩))
    (fun os started H enc _ => memoryOf_lifted os started H enc)
end Ytgebmgahfpnjaaa
end Go.Proofs
