/- A part of the proof: contracts of functions of this seat, and lemmas. No condition beyond those stated. -/
import Derived.Test.YtadfcljoocjhdaaGreatWtv
set_option linter.unusedVariables false
set_option linter.unusedSimpArgs false
set_option linter.unusedSectionVars false
set_option linter.unnecessarySimpa false
set_option maxRecDepth 100000
namespace Go.Proofs
open Go.AM
namespace YtadfcljoocjhdaaGreat
variable {Gl : Globs}
theorem x_pick0 (b : Bool) : (b && false) = false := Bool.and_false b
theorem k_Rwithin (a b c d : Int) : Pure Tryz.prog Gl 61 [.d (.agg [.int .i64 a, .int .i64 b]), .d (.agg [.int .i64 c, .int .i64 d])] (.d (.bool (withinB a b c d))) := by
 refine Pure.of2 ?_
 refine acalls_of Tryz.func61 rfl rfl (by simp [Tryz.ntmps61]) (evC_sound rfl _ _ _ _ ?_)
 simp only [Tryz.ntmps61, Tryz.results61, argEnv, List.length_nil]
 simp only [zC, seval, implies_true, Nat.reduceLeDiff, Nat.reduceEqDiff, reduceCtorEq, reduceIte]
 exact ⟨_, _, ret_d, rfl, rfl⟩
theorem k_Rinside (a b n : Int) : Pure Tryz.prog Gl 62 [.d (.int .i64 n), .d (.agg [.int .i64 a, .int .i64 b])] (.d (.bool (insideB a b n))) := by
 refine Pure.of2 ?_
 refine acalls_of Tryz.func62 rfl rfl (by simp [Tryz.ntmps62]) (evC_sound rfl _ _ _ _ ?_)
 simp only [Tryz.ntmps62, Tryz.results62, argEnv, List.length_nil]
 simp only [zC, seval, implies_true, Nat.reduceLeDiff, Nat.reduceEqDiff, reduceCtorEq, reduceIte]
 exact ⟨_, _, ret_d, rfl, rfl⟩
theorem k_RHas (t : TraceT) (ht : t.Few) (n : Int) : Pure Tryz.prog Gl 128 [.d t.toD, .d (.int .i64 n)] (.d (.bool (hasT t.threads n))) := by
 refine Pure.of2 ?_
 have hl := ht.threads
 refine acalls_of Tryz.func128 rfl rfl (by simp [Tryz.ntmps128]) (evC_sound rfl _ _ _ _ ?_)
 simp only [Tryz.ntmps128, Tryz.results128, argEnv, List.length_nil]
 simp only [zC, seval, implies_true, Nat.reduceLeDiff, Nat.reduceEqDiff, reduceCtorEq, reduceIte]
 refine for_of t.threads.length (fun k => [(1, .d (.int .i64 n)), (2, .ptr 0 0), (5, .d (.int .i64 k))]) (fun _ => [.box 10 (.d t.toD)]) (fun k => (t.threads.take k).any (fun x => x.id == n) = false) rfl ?_ ?_
 ·refine weak_to [] [0] rfl (by simp) ?_ rfl
  simp only [zC, seval, implies_true, Nat.reduceLeDiff, Nat.reduceEqDiff, reduceCtorEq, reduceIte, Int.cast_ofNat_Int]
  all_goals rfl
 ·intro k hi hk
  by_cases h : k < t.threads.length
  ·have hs := any_take (fun x : ThreadT => x.id == n) t.threads k h
   simp only [zC, seval, implies_true, Nat.reduceLeDiff, Nat.reduceEqDiff, reduceCtorEq, reduceIte, (show (k:Int) < t.threads.length by omega), h, a_getD _ _ _ (show k < t.threads.length by omega)]
   repeat ((with_reducible refine And.intro ?_ ?_); (focus (first | omega | (simp only [lenR]; omega) | (refine qq ?_; rfl) | (refine dq ?_; kernel_rfl) | (intros; simp_all; done))))
   refine ifC.mk (fun hc => ?_) (fun hc => ?_)
   ·refine ⟨_, _, ret_d, ?_, rfl⟩
    rw [show hasT t.threads n = true from any_at (fun x : ThreadT => x.id == n) t.threads k h hc]
   ·refine ⟨by rw [hs, hi, hc]; rfl, ?_⟩
    refine weak_to [] [0] rfl (by simp) ?_ rfl
    simp only [zC, seval, implies_true, Nat.reduceLeDiff, Nat.reduceEqDiff, reduceCtorEq, reduceIte, @a_wrap ((k:Int) + 1) (by omega)]
    all_goals rfl
  ·simp only [zC, seval, implies_true, Nat.reduceLeDiff, Nat.reduceEqDiff, reduceCtorEq, reduceIte, (show ¬ (k:Int) < t.threads.length by omega)]
   have : k = t.threads.length := by omega
   subst this
   rw [List.take_length] at hi
   refine ⟨_, _, ret_d, ?_, rfl⟩
   rw [show hasT t.threads n = false from hi]
def knownB {α : Type} (e : Int) (p : α → Bool) (l : List α) : Int := if e ≠ 0 then e else if l.all p = true then 0 else 5
theorem knownB_e {α : Type} {e : Int} (h : e ≠ 0) (p : α → Bool) (l : List α) : knownB e p l = e := by rw [knownB, if_pos h]
theorem knownB_z {α : Type} (p : α → Bool) (l : List α) : knownB 0 p l = if l.all p = true then 0 else 5 := by rw [knownB, if_neg (by simp)]
theorem knownB_nil {α : Type} (e : Int) (p : α → Bool) : knownB e p [] = e := by
 unfold knownB
 by_cases h : e = 0
 ·subst h; rfl
 ·rw [if_pos h]
theorem knownB_step {α : Type} [Inhabited α] {e : Int} {p : α → Bool} {l : List α} {k : Nat} (h : k < l.length) (hz : knownB e p (l.take k) = 0) : knownB e p (l.take (k + 1)) = if (!p (l.getD k default)) = true then 5 else 0 := by
 have he : e = 0 := by
  by_cases h0 : e = 0
  ·exact h0
  ·rw [knownB_e h0] at hz; exact hz
 subst he
 rw [knownB_z] at hz ⊢
 rw [all_take p l k h]
 cases ha : (l.take k).all p
 ·rw [ha] at hz; simp at hz
 ·cases hp : p (l.getD k default) <;> simp
theorem knownB_stop {α : Type} [Inhabited α] {e : Int} {p : α → Bool} {l : List α} {k : Nat} (hz : knownB e p (l.take k) ≠ 0) : knownB e p l = knownB e p (l.take k) := by
 by_cases h0 : e = 0
 ·subst h0
  rw [knownB_z] at hz ⊢
  rw [knownB_z]
  cases ha : (l.take k).all p
  ·have : l.all p = false := by
    cases hb : l.all p
    ·rfl
    ·rw [List.all_eq_true] at hb
     have : (l.take k).all p = true := List.all_eq_true.2 fun x hx => hb x (List.mem_of_mem_take hx)
     rw [this] at ha; cases ha
   rw [this]
  ·rw [ha] at hz; simp at hz
 ·rw [knownB_e h0, knownB_e h0]
def rowsF (t : TraceT) : Int :=
 let e1 := knownB (sliceF t.slices) (fun x => hasT t.threads x.thread) t.slices
 if e1 ≠ 0 then e1 else if stateF t.threads t.states ≠ 0 then stateF t.threads t.states else
 let e4 := knownB (flowF t.flows) (fun x => hasT t.threads x.ft && hasT t.threads x.tt) t.flows
 if e4 ≠ 0 then e4 else
 let e6 := knownB (sampleF t.samples) (fun x => hasT t.threads x.thread) t.samples
 if e6 ≠ 0 then e6 else if stepF t.steps ≠ 0 then stepF t.steps else
 let e9 := knownB (bkF t.blocks) (fun x => hasT t.threads x.thread) t.blocks
 if e9 ≠ 0 then e9 else lossF (hasT t.threads) t.lost
theorem rows_tables (t : TraceT) (h : threadsF t.threads = 0) : tablesF t = rowsF t := by
 have hf : knownF (knownF (flowF t.flows) (hasT t.threads) (fun x => x.ft) t.flows) (hasT t.threads) (fun x => x.tt) t.flows = knownB (flowF t.flows) (fun x => hasT t.threads x.ft && hasT t.threads x.tt) t.flows := by
  unfold knownF knownB
  by_cases h0 : flowF t.flows = 0
  ·rw [h0]
   have e : (t.flows.all fun x => hasT t.threads x.ft && hasT t.threads x.tt) = ((t.flows.all fun x => hasT t.threads x.ft) && t.flows.all fun x => hasT t.threads x.tt) := by
    induction t.flows with
    | nil => rfl
    | cons x l ih =>
     simp only [List.all_cons, ih]
     cases hasT t.threads x.ft <;> cases hasT t.threads x.tt <;> simp
   rw [e]
   cases (t.flows.all fun x => hasT t.threads x.ft) <;> cases (t.flows.all fun x => hasT t.threads x.tt) <;> simp
  ·simp [h0]
 unfold tablesF
 rw [if_neg (by rw [h]; simp), hf]
 rfl
theorem firstErr_stop {f : Nat → Int} {k n : Nat} (h : firstErr f k ≠ 0) (hk : k ≤ n) : firstErr f n = firstErr f k := by
 induction n with
 | zero =>
  have : k = 0 := by omega
  subst this; rfl
 | succ n ih =>
  by_cases e : k = n + 1
  ·rw [e]
  ·rw [firstErr, ih (by omega), if_neg h]
set_option maxHeartbeats 8000000 in
theorem k_rows (t : TraceT) (ht : t.Few) : Pure Tryz.prog Gl 89 [.d t.toD] (.d (.int .i64 (rowsF t))) := by
 refine Pure.of1 ?_
 obtain ⟨F, hF⟩ : ∃ F, F = rowsF t := ⟨_, rfl⟩
 rw [← hF]
 unfold rowsF at hF
 simp only at hF
 refine acalls_of Tryz.func89 rfl rfl (by simp [Tryz.ntmps89]) (evC_sound rfl _ _ _ _ ?_)
 simp only [Tryz.ntmps89, Tryz.results89, argEnv, List.length_nil]
 simp only [zC, seval, implies_true, Nat.reduceLeDiff, Nat.reduceEqDiff, reduceCtorEq, reduceIte]
 refine callF_pure (k_RsliceCheck _ ht.slices) ?_
 obtain ⟨E0, eE0⟩ : ∃ E0, E0 = sliceF t.slices := ⟨_, rfl⟩
 rw [← eE0] at hF ⊢
 simp only [zC, seval, implies_true, Nat.reduceLeDiff, Nat.reduceEqDiff, reduceCtorEq, reduceIte]
 repeat ((with_reducible refine And.intro ?_ ?_); (focus (first | omega | (simp only [lenR]; omega) | (refine qq ?_; rfl) | (refine dq ?_; kernel_rfl) | (intros; simp_all; done))))
 have hlk := ht.slices
 obtain ⟨Q, hQ⟩ : ∃ Q : SliceT → Bool, Q = fun x => hasT t.threads x.thread := ⟨_, rfl⟩
 rw [← hQ] at hF
 refine for_of t.slices.length (fun k => [(1, .ptr 0 0), (3, .d (.int .i64 (knownB E0 Q (t.slices.take k)))), (4, .d (.int .i64 k))]) (fun _ => [.box 10 (.d t.toD)]) (fun _ => True) trivial ?_ ?_
 ·refine weak_to [] [0] rfl (by simp) ?_ rfl
  simp only [zC, seval, implies_true, Nat.reduceLeDiff, Nat.reduceEqDiff, reduceCtorEq, reduceIte, Int.cast_ofNat_Int, List.take_zero, knownB_nil]
  all_goals rfl
 ·intro k _ hk
  by_cases hg : k < t.slices.length ∧ knownB E0 Q (t.slices.take k) = 0
  ·obtain ⟨h, hz⟩ := hg
   have hs := knownB_step h hz
   obtain ⟨b, eb⟩ : ∃ b, b = t.slices.getD k default := ⟨_, rfl⟩
   rw [← eb] at hs
   simp only [zC, seval, implies_true, Nat.reduceLeDiff, Nat.reduceEqDiff, reduceCtorEq, reduceIte, hz, (show (k:Int) < t.slices.length by omega), h, a_getD _ _ _ (show k < t.slices.length by omega), ← eb, beq_self_eq_true]
   repeat ((with_reducible refine And.intro ?_ ?_); (focus (first | omega | (simp only [lenR]; omega) | (refine qq ?_; rfl) | (refine dq ?_; kernel_rfl) | (intros; simp_all; done))))
   refine callF_pure (k_RHas t ht _) ?_
   simp only [zC, seval, implies_true, Nat.reduceLeDiff, Nat.reduceEqDiff, reduceCtorEq, reduceIte]
   refine ifC.mk (fun h5 => ?_) (fun h5 => ?_)
   ·rw [if_pos (by rw [hQ]; exact h5)] at hs
    repeat ((with_reducible refine And.intro ?_ ?_); (focus (first | omega | (simp only [lenR]; omega) | (refine qq ?_; rfl) | (refine dq ?_; kernel_rfl) | (intros; simp_all; done))))
    refine weak_to [] [0] rfl (by simp) ?_ rfl
    simp only [zC, seval, implies_true, Nat.reduceLeDiff, Nat.reduceEqDiff, reduceCtorEq, reduceIte, hs, @a_wrap ((k:Int) + 1) (by omega)]
    all_goals rfl
   ·rw [if_neg (by rw [hQ, h5]; simp)] at hs
    refine weak_to [] [0] rfl (by simp) ?_ rfl
    simp only [zC, seval, implies_true, Nat.reduceLeDiff, Nat.reduceEqDiff, reduceCtorEq, reduceIte, hs, hz, @a_wrap ((k:Int) + 1) (by omega)]
    all_goals rfl
  ·have hc : (decide ((k : Int) < t.slices.length) && (knownB E0 Q (t.slices.take k) == 0)) = false := by
    rw [Bool.and_eq_false_iff, decide_eq_false_iff_not]
    rcases Nat.lt_or_ge k t.slices.length with h1 | h1
    ·exact .inr (by simpa using fun hz => hg ⟨h1, hz⟩)
    ·exact .inl (by omega)
   have hE : knownB E0 Q t.slices = knownB E0 Q (t.slices.take k) := by
    by_cases hz : knownB E0 Q (t.slices.take k) = 0
    ·rw [List.take_of_length_le]
     rcases Nat.lt_or_ge k t.slices.length with h1 | h1
     ·exact absurd ⟨h1, hz⟩ hg
     ·exact h1
    ·exact knownB_stop hz
   obtain ⟨E, eE⟩ : ∃ E, E = knownB E0 Q (t.slices.take k) := ⟨_, rfl⟩
   rw [← eE] at hc hE ⊢
   rw [hE] at hF
   simp only [zC, seval, implies_true, Nat.reduceLeDiff, Nat.reduceEqDiff, reduceCtorEq, reduceIte, hc]
   repeat ((with_reducible refine And.intro ?_ ?_); (focus (first | omega | (simp only [lenR]; omega) | (refine qq ?_; rfl) | (refine dq ?_; kernel_rfl) | (intros; simp_all; done))))
   by_cases hEz : E ≠ 0
   ·rw [if_pos hEz] at hF
    have he : (E == 0) = false := by simpa using hEz
    obtain ⟨e, ee⟩ : ∃ e, e = E := ⟨_, rfl⟩
    rw [← ee] at he ⊢
    have hFe : F = e := by rw [hF, ee]
    simp only [zC, seval, implies_true, Nat.reduceLeDiff, Nat.reduceEqDiff, reduceCtorEq, reduceIte, he]
    repeat ((with_reducible refine And.intro ?_ ?_); (focus (first | omega | (simp only [lenR]; omega) | (refine qq ?_; rfl) | (refine dq ?_; kernel_rfl) | (intros; simp_all; done))))
    refine for_of 0 (fun k => [(1, .ptr 0 0), (3, .d (.int .i64 e)), (5, .d (.int .i64 0))]) (fun _ => [.box 10 (.d t.toD)]) (fun _ => True) trivial ?_ ?_
    ·refine weak_to [] [0] rfl (by simp) ?_ rfl
     simp only [zC, seval, implies_true, Nat.reduceLeDiff, Nat.reduceEqDiff, reduceCtorEq, reduceIte, Int.cast_ofNat_Int]
     all_goals rfl
    ·intro k0 _ hk0
     obtain rfl : k0 = 0 := by omega
     simp only [zC, seval, implies_true, Nat.reduceLeDiff, Nat.reduceEqDiff, reduceCtorEq, reduceIte, he, Bool.and_false, x_pick0]
     repeat ((with_reducible refine And.intro ?_ ?_); (focus (first | omega | (simp only [lenR]; omega) | (refine qq ?_; rfl) | (refine dq ?_; kernel_rfl) | (intros; simp_all; done))))
     refine for_of 0 (fun k => [(1, .ptr 0 0), (3, .d (.int .i64 e)), (6, .d (.int .i64 0))]) (fun _ => [.box 10 (.d t.toD)]) (fun _ => True) trivial ?_ ?_
     ·refine weak_to [] [0] rfl (by simp) ?_ rfl
      simp only [zC, seval, implies_true, Nat.reduceLeDiff, Nat.reduceEqDiff, reduceCtorEq, reduceIte, Int.cast_ofNat_Int]
      all_goals rfl
     ·intro k0 _ hk0
      obtain rfl : k0 = 0 := by omega
      simp only [zC, seval, implies_true, Nat.reduceLeDiff, Nat.reduceEqDiff, reduceCtorEq, reduceIte, he, Bool.and_false, x_pick0]
      repeat ((with_reducible refine And.intro ?_ ?_); (focus (first | omega | (simp only [lenR]; omega) | (refine qq ?_; rfl) | (refine dq ?_; kernel_rfl) | (intros; simp_all; done))))
      refine for_of 0 (fun k => [(1, .ptr 0 0), (3, .d (.int .i64 e)), (7, .d (.int .i64 0))]) (fun _ => [.box 10 (.d t.toD)]) (fun _ => True) trivial ?_ ?_
      ·refine weak_to [] [0] rfl (by simp) ?_ rfl
       simp only [zC, seval, implies_true, Nat.reduceLeDiff, Nat.reduceEqDiff, reduceCtorEq, reduceIte, Int.cast_ofNat_Int]
       all_goals rfl
      ·intro k0 _ hk0
       obtain rfl : k0 = 0 := by omega
       simp only [zC, seval, implies_true, Nat.reduceLeDiff, Nat.reduceEqDiff, reduceCtorEq, reduceIte, he, Bool.and_false, x_pick0]
       repeat ((with_reducible refine And.intro ?_ ?_); (focus (first | omega | (simp only [lenR]; omega) | (refine qq ?_; rfl) | (refine dq ?_; kernel_rfl) | (intros; simp_all; done))))
       refine for_of 0 (fun k => [(1, .ptr 0 0), (3, .d (.int .i64 e)), (8, .d (.int .i64 0))]) (fun _ => [.box 10 (.d t.toD)]) (fun _ => True) trivial ?_ ?_
       ·refine weak_to [] [0] rfl (by simp) ?_ rfl
        simp only [zC, seval, implies_true, Nat.reduceLeDiff, Nat.reduceEqDiff, reduceCtorEq, reduceIte, Int.cast_ofNat_Int]
        all_goals rfl
       ·intro k0 _ hk0
        obtain rfl : k0 = 0 := by omega
        simp only [zC, seval, implies_true, Nat.reduceLeDiff, Nat.reduceEqDiff, reduceCtorEq, reduceIte, he, Bool.and_false, x_pick0]
        repeat ((with_reducible refine And.intro ?_ ?_); (focus (first | omega | (simp only [lenR]; omega) | (refine qq ?_; rfl) | (refine dq ?_; kernel_rfl) | (intros; simp_all; done))))
        refine ⟨_, _, ret_d, ?_, rfl⟩
        rw [hFe]
   ·have hEz : E = 0 := by simpa using hEz
    rw [if_neg (by rw [hEz]; simp)] at hF
    subst hEz
    simp only [zC, seval, implies_true, Nat.reduceLeDiff, Nat.reduceEqDiff, reduceCtorEq, reduceIte, beq_self_eq_true]
    repeat ((with_reducible refine And.intro ?_ ?_); (focus (first | omega | (simp only [lenR]; omega) | (refine qq ?_; rfl) | (refine dq ?_; kernel_rfl) | (intros; simp_all; done))))
    refine callF_pure (k_RstateCheck _ ht.threads _ ht.states) ?_
    by_cases hst1 : stateF t.threads t.states ≠ 0
    ·rw [if_pos hst1] at hF
     obtain ⟨e, ee⟩ : ∃ e, e = stateF t.threads t.states := ⟨_, rfl⟩
     rw [← ee] at hst1 hF ⊢
     have hFe : F = e := hF
     have he : (e == 0) = false := by simpa using hst1
     simp only [zC, seval, implies_true, Nat.reduceLeDiff, Nat.reduceEqDiff, reduceCtorEq, reduceIte, he]
     repeat ((with_reducible refine And.intro ?_ ?_); (focus (first | omega | (simp only [lenR]; omega) | (refine qq ?_; rfl) | (refine dq ?_; kernel_rfl) | (intros; simp_all; done))))
     refine for_of 0 (fun k => [(1, .ptr 0 0), (3, .d (.int .i64 e)), (5, .d (.int .i64 0))]) (fun _ => [.box 10 (.d t.toD)]) (fun _ => True) trivial ?_ ?_
     ·refine weak_to [] [0] rfl (by simp) ?_ rfl
      simp only [zC, seval, implies_true, Nat.reduceLeDiff, Nat.reduceEqDiff, reduceCtorEq, reduceIte, Int.cast_ofNat_Int]
      all_goals rfl
     ·intro k0 _ hk0
      obtain rfl : k0 = 0 := by omega
      simp only [zC, seval, implies_true, Nat.reduceLeDiff, Nat.reduceEqDiff, reduceCtorEq, reduceIte, he, Bool.and_false, x_pick0]
      repeat ((with_reducible refine And.intro ?_ ?_); (focus (first | omega | (simp only [lenR]; omega) | (refine qq ?_; rfl) | (refine dq ?_; kernel_rfl) | (intros; simp_all; done))))
      refine for_of 0 (fun k => [(1, .ptr 0 0), (3, .d (.int .i64 e)), (6, .d (.int .i64 0))]) (fun _ => [.box 10 (.d t.toD)]) (fun _ => True) trivial ?_ ?_
      ·refine weak_to [] [0] rfl (by simp) ?_ rfl
       simp only [zC, seval, implies_true, Nat.reduceLeDiff, Nat.reduceEqDiff, reduceCtorEq, reduceIte, Int.cast_ofNat_Int]
       all_goals rfl
      ·intro k0 _ hk0
       obtain rfl : k0 = 0 := by omega
       simp only [zC, seval, implies_true, Nat.reduceLeDiff, Nat.reduceEqDiff, reduceCtorEq, reduceIte, he, Bool.and_false, x_pick0]
       repeat ((with_reducible refine And.intro ?_ ?_); (focus (first | omega | (simp only [lenR]; omega) | (refine qq ?_; rfl) | (refine dq ?_; kernel_rfl) | (intros; simp_all; done))))
       refine for_of 0 (fun k => [(1, .ptr 0 0), (3, .d (.int .i64 e)), (7, .d (.int .i64 0))]) (fun _ => [.box 10 (.d t.toD)]) (fun _ => True) trivial ?_ ?_
       ·refine weak_to [] [0] rfl (by simp) ?_ rfl
        simp only [zC, seval, implies_true, Nat.reduceLeDiff, Nat.reduceEqDiff, reduceCtorEq, reduceIte, Int.cast_ofNat_Int]
        all_goals rfl
       ·intro k0 _ hk0
        obtain rfl : k0 = 0 := by omega
        simp only [zC, seval, implies_true, Nat.reduceLeDiff, Nat.reduceEqDiff, reduceCtorEq, reduceIte, he, Bool.and_false, x_pick0]
        repeat ((with_reducible refine And.intro ?_ ?_); (focus (first | omega | (simp only [lenR]; omega) | (refine qq ?_; rfl) | (refine dq ?_; kernel_rfl) | (intros; simp_all; done))))
        refine for_of 0 (fun k => [(1, .ptr 0 0), (3, .d (.int .i64 e)), (8, .d (.int .i64 0))]) (fun _ => [.box 10 (.d t.toD)]) (fun _ => True) trivial ?_ ?_
        ·refine weak_to [] [0] rfl (by simp) ?_ rfl
         simp only [zC, seval, implies_true, Nat.reduceLeDiff, Nat.reduceEqDiff, reduceCtorEq, reduceIte, Int.cast_ofNat_Int]
         all_goals rfl
        ·intro k0 _ hk0
         obtain rfl : k0 = 0 := by omega
         simp only [zC, seval, implies_true, Nat.reduceLeDiff, Nat.reduceEqDiff, reduceCtorEq, reduceIte, he, Bool.and_false, x_pick0]
         repeat ((with_reducible refine And.intro ?_ ?_); (focus (first | omega | (simp only [lenR]; omega) | (refine qq ?_; rfl) | (refine dq ?_; kernel_rfl) | (intros; simp_all; done))))
         refine ⟨_, _, ret_d, ?_, rfl⟩
         rw [hFe]
    ·rw [if_neg hst1] at hF
     have hst1 : stateF t.threads t.states = 0 := by simpa using hst1
     rw [hst1]
     simp only [zC, seval, implies_true, Nat.reduceLeDiff, Nat.reduceEqDiff, reduceCtorEq, reduceIte, beq_self_eq_true]
     repeat ((with_reducible refine And.intro ?_ ?_); (focus (first | omega | (simp only [lenR]; omega) | (refine qq ?_; rfl) | (refine dq ?_; kernel_rfl) | (intros; simp_all; done))))
     refine callF_pure (k_RflowCheck _ ht.flows) ?_
     obtain ⟨E0, eE0⟩ : ∃ E0, E0 = flowF t.flows := ⟨_, rfl⟩
     rw [← eE0] at hF ⊢
     simp only [zC, seval, implies_true, Nat.reduceLeDiff, Nat.reduceEqDiff, reduceCtorEq, reduceIte]
     repeat ((with_reducible refine And.intro ?_ ?_); (focus (first | omega | (simp only [lenR]; omega) | (refine qq ?_; rfl) | (refine dq ?_; kernel_rfl) | (intros; simp_all; done))))
     have hlk := ht.flows
     obtain ⟨Q, hQ⟩ : ∃ Q : FlowT → Bool, Q = fun x => hasT t.threads x.ft && hasT t.threads x.tt := ⟨_, rfl⟩
     rw [← hQ] at hF
     refine for_of t.flows.length (fun k => [(1, .ptr 0 0), (3, .d (.int .i64 (knownB E0 Q (t.flows.take k)))), (5, .d (.int .i64 k))]) (fun _ => [.box 10 (.d t.toD)]) (fun _ => True) trivial ?_ ?_
     ·refine weak_to [] [0] rfl (by simp) ?_ rfl
      simp only [zC, seval, implies_true, Nat.reduceLeDiff, Nat.reduceEqDiff, reduceCtorEq, reduceIte, Int.cast_ofNat_Int, List.take_zero, knownB_nil]
      all_goals rfl
     ·intro k _ hk
      by_cases hg : k < t.flows.length ∧ knownB E0 Q (t.flows.take k) = 0
      ·obtain ⟨h, hz⟩ := hg
       have hs := knownB_step h hz
       obtain ⟨b, eb⟩ : ∃ b, b = t.flows.getD k default := ⟨_, rfl⟩
       rw [← eb] at hs
       simp only [zC, seval, implies_true, Nat.reduceLeDiff, Nat.reduceEqDiff, reduceCtorEq, reduceIte, hz, (show (k:Int) < t.flows.length by omega), h, a_getD _ _ _ (show k < t.flows.length by omega), ← eb, beq_self_eq_true]
       repeat ((with_reducible refine And.intro ?_ ?_); (focus (first | omega | (simp only [lenR]; omega) | (refine qq ?_; rfl) | (refine dq ?_; kernel_rfl) | (intros; simp_all; done))))
       refine callF_pure (k_RHas t ht _) ?_
       simp only [zC, seval, implies_true, Nat.reduceLeDiff, Nat.reduceEqDiff, reduceCtorEq, reduceIte, (show (k:Int) < t.flows.length by omega), h, a_getD _ _ _ (show k < t.flows.length by omega), ← eb]
       repeat ((with_reducible refine And.intro ?_ ?_); (focus (first | omega | (simp only [lenR]; omega) | (refine qq ?_; rfl) | (refine dq ?_; kernel_rfl) | (intros; simp_all; done))))
       refine callG_pure (fun _ => k_RHas t ht _) ?_
       simp only [zC, seval, implies_true, Nat.reduceLeDiff, Nat.reduceEqDiff, reduceCtorEq, reduceIte]
       repeat ((with_reducible refine And.intro ?_ ?_); (focus (first | omega | (simp only [lenR]; omega) | (refine qq ?_; rfl) | (refine dq ?_; kernel_rfl) | (intros; simp_all; done))))
       rw [← Bool.not_and]
       refine ifC.mk (fun h5 => ?_) (fun h5 => ?_)
       ·rw [if_pos (by rw [hQ]; exact h5)] at hs
        repeat ((with_reducible refine And.intro ?_ ?_); (focus (first | omega | (simp only [lenR]; omega) | (refine qq ?_; rfl) | (refine dq ?_; kernel_rfl) | (intros; simp_all; done))))
        refine weak_to [] [0] rfl (by simp) ?_ rfl
        simp only [zC, seval, implies_true, Nat.reduceLeDiff, Nat.reduceEqDiff, reduceCtorEq, reduceIte, hs, @a_wrap ((k:Int) + 1) (by omega)]
        all_goals rfl
       ·rw [if_neg (by rw [hQ, h5]; simp)] at hs
        refine weak_to [] [0] rfl (by simp) ?_ rfl
        simp only [zC, seval, implies_true, Nat.reduceLeDiff, Nat.reduceEqDiff, reduceCtorEq, reduceIte, hs, hz, @a_wrap ((k:Int) + 1) (by omega)]
        all_goals rfl
      ·have hc : (decide ((k : Int) < t.flows.length) && (knownB E0 Q (t.flows.take k) == 0)) = false := by
        rw [Bool.and_eq_false_iff, decide_eq_false_iff_not]
        rcases Nat.lt_or_ge k t.flows.length with h1 | h1
        ·exact .inr (by simpa using fun hz => hg ⟨h1, hz⟩)
        ·exact .inl (by omega)
       have hE : knownB E0 Q t.flows = knownB E0 Q (t.flows.take k) := by
        by_cases hz : knownB E0 Q (t.flows.take k) = 0
        ·rw [List.take_of_length_le]
         rcases Nat.lt_or_ge k t.flows.length with h1 | h1
         ·exact absurd ⟨h1, hz⟩ hg
         ·exact h1
        ·exact knownB_stop hz
       obtain ⟨E, eE⟩ : ∃ E, E = knownB E0 Q (t.flows.take k) := ⟨_, rfl⟩
       rw [← eE] at hc hE ⊢
       rw [hE] at hF
       simp only [zC, seval, implies_true, Nat.reduceLeDiff, Nat.reduceEqDiff, reduceCtorEq, reduceIte, hc]
       repeat ((with_reducible refine And.intro ?_ ?_); (focus (first | omega | (simp only [lenR]; omega) | (refine qq ?_; rfl) | (refine dq ?_; kernel_rfl) | (intros; simp_all; done))))
       by_cases hEz : E ≠ 0
       ·rw [if_pos hEz] at hF
        have he : (E == 0) = false := by simpa using hEz
        obtain ⟨e, ee⟩ : ∃ e, e = E := ⟨_, rfl⟩
        rw [← ee] at he ⊢
        have hFe : F = e := by rw [hF, ee]
        simp only [zC, seval, implies_true, Nat.reduceLeDiff, Nat.reduceEqDiff, reduceCtorEq, reduceIte, he]
        repeat ((with_reducible refine And.intro ?_ ?_); (focus (first | omega | (simp only [lenR]; omega) | (refine qq ?_; rfl) | (refine dq ?_; kernel_rfl) | (intros; simp_all; done))))
        refine for_of 0 (fun k => [(1, .ptr 0 0), (3, .d (.int .i64 e)), (6, .d (.int .i64 0))]) (fun _ => [.box 10 (.d t.toD)]) (fun _ => True) trivial ?_ ?_
        ·refine weak_to [] [0] rfl (by simp) ?_ rfl
         simp only [zC, seval, implies_true, Nat.reduceLeDiff, Nat.reduceEqDiff, reduceCtorEq, reduceIte, Int.cast_ofNat_Int]
         all_goals rfl
        ·intro k0 _ hk0
         obtain rfl : k0 = 0 := by omega
         simp only [zC, seval, implies_true, Nat.reduceLeDiff, Nat.reduceEqDiff, reduceCtorEq, reduceIte, he, Bool.and_false, x_pick0]
         repeat ((with_reducible refine And.intro ?_ ?_); (focus (first | omega | (simp only [lenR]; omega) | (refine qq ?_; rfl) | (refine dq ?_; kernel_rfl) | (intros; simp_all; done))))
         refine for_of 0 (fun k => [(1, .ptr 0 0), (3, .d (.int .i64 e)), (7, .d (.int .i64 0))]) (fun _ => [.box 10 (.d t.toD)]) (fun _ => True) trivial ?_ ?_
         ·refine weak_to [] [0] rfl (by simp) ?_ rfl
          simp only [zC, seval, implies_true, Nat.reduceLeDiff, Nat.reduceEqDiff, reduceCtorEq, reduceIte, Int.cast_ofNat_Int]
          all_goals rfl
         ·intro k0 _ hk0
          obtain rfl : k0 = 0 := by omega
          simp only [zC, seval, implies_true, Nat.reduceLeDiff, Nat.reduceEqDiff, reduceCtorEq, reduceIte, he, Bool.and_false, x_pick0]
          repeat ((with_reducible refine And.intro ?_ ?_); (focus (first | omega | (simp only [lenR]; omega) | (refine qq ?_; rfl) | (refine dq ?_; kernel_rfl) | (intros; simp_all; done))))
          refine for_of 0 (fun k => [(1, .ptr 0 0), (3, .d (.int .i64 e)), (8, .d (.int .i64 0))]) (fun _ => [.box 10 (.d t.toD)]) (fun _ => True) trivial ?_ ?_
          ·refine weak_to [] [0] rfl (by simp) ?_ rfl
           simp only [zC, seval, implies_true, Nat.reduceLeDiff, Nat.reduceEqDiff, reduceCtorEq, reduceIte, Int.cast_ofNat_Int]
           all_goals rfl
          ·intro k0 _ hk0
           obtain rfl : k0 = 0 := by omega
           simp only [zC, seval, implies_true, Nat.reduceLeDiff, Nat.reduceEqDiff, reduceCtorEq, reduceIte, he, Bool.and_false, x_pick0]
           repeat ((with_reducible refine And.intro ?_ ?_); (focus (first | omega | (simp only [lenR]; omega) | (refine qq ?_; rfl) | (refine dq ?_; kernel_rfl) | (intros; simp_all; done))))
           refine ⟨_, _, ret_d, ?_, rfl⟩
           rw [hFe]
       ·have hEz : E = 0 := by simpa using hEz
        rw [if_neg (by rw [hEz]; simp)] at hF
        subst hEz
        simp only [zC, seval, implies_true, Nat.reduceLeDiff, Nat.reduceEqDiff, reduceCtorEq, reduceIte, beq_self_eq_true]
        repeat ((with_reducible refine And.intro ?_ ?_); (focus (first | omega | (simp only [lenR]; omega) | (refine qq ?_; rfl) | (refine dq ?_; kernel_rfl) | (intros; simp_all; done))))
        refine callF_pure (k_RsampleCheck _ ht.sst ht.samples) ?_
        obtain ⟨E0, eE0⟩ : ∃ E0, E0 = sampleF t.samples := ⟨_, rfl⟩
        rw [← eE0] at hF ⊢
        simp only [zC, seval, implies_true, Nat.reduceLeDiff, Nat.reduceEqDiff, reduceCtorEq, reduceIte]
        repeat ((with_reducible refine And.intro ?_ ?_); (focus (first | omega | (simp only [lenR]; omega) | (refine qq ?_; rfl) | (refine dq ?_; kernel_rfl) | (intros; simp_all; done))))
        have hlk := ht.samples
        obtain ⟨Q, hQ⟩ : ∃ Q : SampleT → Bool, Q = fun x => hasT t.threads x.thread := ⟨_, rfl⟩
        rw [← hQ] at hF
        refine for_of t.samples.length (fun k => [(1, .ptr 0 0), (3, .d (.int .i64 (knownB E0 Q (t.samples.take k)))), (6, .d (.int .i64 k))]) (fun _ => [.box 10 (.d t.toD)]) (fun _ => True) trivial ?_ ?_
        ·refine weak_to [] [0] rfl (by simp) ?_ rfl
         simp only [zC, seval, implies_true, Nat.reduceLeDiff, Nat.reduceEqDiff, reduceCtorEq, reduceIte, Int.cast_ofNat_Int, List.take_zero, knownB_nil]
         all_goals rfl
        ·intro k _ hk
         by_cases hg : k < t.samples.length ∧ knownB E0 Q (t.samples.take k) = 0
         ·obtain ⟨h, hz⟩ := hg
          have hs := knownB_step h hz
          obtain ⟨b, eb⟩ : ∃ b, b = t.samples.getD k default := ⟨_, rfl⟩
          rw [← eb] at hs
          simp only [zC, seval, implies_true, Nat.reduceLeDiff, Nat.reduceEqDiff, reduceCtorEq, reduceIte, hz, (show (k:Int) < t.samples.length by omega), h, a_getD _ _ _ (show k < t.samples.length by omega), ← eb, beq_self_eq_true]
          repeat ((with_reducible refine And.intro ?_ ?_); (focus (first | omega | (simp only [lenR]; omega) | (refine qq ?_; rfl) | (refine dq ?_; kernel_rfl) | (intros; simp_all; done))))
          refine callF_pure (k_RHas t ht _) ?_
          simp only [zC, seval, implies_true, Nat.reduceLeDiff, Nat.reduceEqDiff, reduceCtorEq, reduceIte]
          refine ifC.mk (fun h5 => ?_) (fun h5 => ?_)
          ·rw [if_pos (by rw [hQ]; exact h5)] at hs
           repeat ((with_reducible refine And.intro ?_ ?_); (focus (first | omega | (simp only [lenR]; omega) | (refine qq ?_; rfl) | (refine dq ?_; kernel_rfl) | (intros; simp_all; done))))
           refine weak_to [] [0] rfl (by simp) ?_ rfl
           simp only [zC, seval, implies_true, Nat.reduceLeDiff, Nat.reduceEqDiff, reduceCtorEq, reduceIte, hs, @a_wrap ((k:Int) + 1) (by omega)]
           all_goals rfl
          ·rw [if_neg (by rw [hQ, h5]; simp)] at hs
           refine weak_to [] [0] rfl (by simp) ?_ rfl
           simp only [zC, seval, implies_true, Nat.reduceLeDiff, Nat.reduceEqDiff, reduceCtorEq, reduceIte, hs, hz, @a_wrap ((k:Int) + 1) (by omega)]
           all_goals rfl
         ·have hc : (decide ((k : Int) < t.samples.length) && (knownB E0 Q (t.samples.take k) == 0)) = false := by
           rw [Bool.and_eq_false_iff, decide_eq_false_iff_not]
           rcases Nat.lt_or_ge k t.samples.length with h1 | h1
           ·exact .inr (by simpa using fun hz => hg ⟨h1, hz⟩)
           ·exact .inl (by omega)
          have hE : knownB E0 Q t.samples = knownB E0 Q (t.samples.take k) := by
           by_cases hz : knownB E0 Q (t.samples.take k) = 0
           ·rw [List.take_of_length_le]
            rcases Nat.lt_or_ge k t.samples.length with h1 | h1
            ·exact absurd ⟨h1, hz⟩ hg
            ·exact h1
           ·exact knownB_stop hz
          obtain ⟨E, eE⟩ : ∃ E, E = knownB E0 Q (t.samples.take k) := ⟨_, rfl⟩
          rw [← eE] at hc hE ⊢
          rw [hE] at hF
          simp only [zC, seval, implies_true, Nat.reduceLeDiff, Nat.reduceEqDiff, reduceCtorEq, reduceIte, hc]
          repeat ((with_reducible refine And.intro ?_ ?_); (focus (first | omega | (simp only [lenR]; omega) | (refine qq ?_; rfl) | (refine dq ?_; kernel_rfl) | (intros; simp_all; done))))
          by_cases hEz : E ≠ 0
          ·rw [if_pos hEz] at hF
           have he : (E == 0) = false := by simpa using hEz
           obtain ⟨e, ee⟩ : ∃ e, e = E := ⟨_, rfl⟩
           rw [← ee] at he ⊢
           have hFe : F = e := by rw [hF, ee]
           simp only [zC, seval, implies_true, Nat.reduceLeDiff, Nat.reduceEqDiff, reduceCtorEq, reduceIte, he]
           repeat ((with_reducible refine And.intro ?_ ?_); (focus (first | omega | (simp only [lenR]; omega) | (refine qq ?_; rfl) | (refine dq ?_; kernel_rfl) | (intros; simp_all; done))))
           refine for_of 0 (fun k => [(1, .ptr 0 0), (3, .d (.int .i64 e)), (7, .d (.int .i64 0))]) (fun _ => [.box 10 (.d t.toD)]) (fun _ => True) trivial ?_ ?_
           ·refine weak_to [] [0] rfl (by simp) ?_ rfl
            simp only [zC, seval, implies_true, Nat.reduceLeDiff, Nat.reduceEqDiff, reduceCtorEq, reduceIte, Int.cast_ofNat_Int]
            all_goals rfl
           ·intro k0 _ hk0
            obtain rfl : k0 = 0 := by omega
            simp only [zC, seval, implies_true, Nat.reduceLeDiff, Nat.reduceEqDiff, reduceCtorEq, reduceIte, he, Bool.and_false, x_pick0]
            repeat ((with_reducible refine And.intro ?_ ?_); (focus (first | omega | (simp only [lenR]; omega) | (refine qq ?_; rfl) | (refine dq ?_; kernel_rfl) | (intros; simp_all; done))))
            refine for_of 0 (fun k => [(1, .ptr 0 0), (3, .d (.int .i64 e)), (8, .d (.int .i64 0))]) (fun _ => [.box 10 (.d t.toD)]) (fun _ => True) trivial ?_ ?_
            ·refine weak_to [] [0] rfl (by simp) ?_ rfl
             simp only [zC, seval, implies_true, Nat.reduceLeDiff, Nat.reduceEqDiff, reduceCtorEq, reduceIte, Int.cast_ofNat_Int]
             all_goals rfl
            ·intro k0 _ hk0
             obtain rfl : k0 = 0 := by omega
             simp only [zC, seval, implies_true, Nat.reduceLeDiff, Nat.reduceEqDiff, reduceCtorEq, reduceIte, he, Bool.and_false, x_pick0]
             repeat ((with_reducible refine And.intro ?_ ?_); (focus (first | omega | (simp only [lenR]; omega) | (refine qq ?_; rfl) | (refine dq ?_; kernel_rfl) | (intros; simp_all; done))))
             refine ⟨_, _, ret_d, ?_, rfl⟩
             rw [hFe]
          ·have hEz : E = 0 := by simpa using hEz
           rw [if_neg (by rw [hEz]; simp)] at hF
           subst hEz
           simp only [zC, seval, implies_true, Nat.reduceLeDiff, Nat.reduceEqDiff, reduceCtorEq, reduceIte, beq_self_eq_true]
           repeat ((with_reducible refine And.intro ?_ ?_); (focus (first | omega | (simp only [lenR]; omega) | (refine qq ?_; rfl) | (refine dq ?_; kernel_rfl) | (intros; simp_all; done))))
           refine callF_pure (k_RstepCheck _ ht.steps) ?_
           by_cases hst2 : stepF t.steps ≠ 0
           ·rw [if_pos hst2] at hF
            obtain ⟨e, ee⟩ : ∃ e, e = stepF t.steps := ⟨_, rfl⟩
            rw [← ee] at hst2 hF ⊢
            have hFe : F = e := hF
            have he : (e == 0) = false := by simpa using hst2
            simp only [zC, seval, implies_true, Nat.reduceLeDiff, Nat.reduceEqDiff, reduceCtorEq, reduceIte, he]
            repeat ((with_reducible refine And.intro ?_ ?_); (focus (first | omega | (simp only [lenR]; omega) | (refine qq ?_; rfl) | (refine dq ?_; kernel_rfl) | (intros; simp_all; done))))
            refine for_of 0 (fun k => [(1, .ptr 0 0), (3, .d (.int .i64 e)), (7, .d (.int .i64 0))]) (fun _ => [.box 10 (.d t.toD)]) (fun _ => True) trivial ?_ ?_
            ·refine weak_to [] [0] rfl (by simp) ?_ rfl
             simp only [zC, seval, implies_true, Nat.reduceLeDiff, Nat.reduceEqDiff, reduceCtorEq, reduceIte, Int.cast_ofNat_Int]
             all_goals rfl
            ·intro k0 _ hk0
             obtain rfl : k0 = 0 := by omega
             simp only [zC, seval, implies_true, Nat.reduceLeDiff, Nat.reduceEqDiff, reduceCtorEq, reduceIte, he, Bool.and_false, x_pick0]
             repeat ((with_reducible refine And.intro ?_ ?_); (focus (first | omega | (simp only [lenR]; omega) | (refine qq ?_; rfl) | (refine dq ?_; kernel_rfl) | (intros; simp_all; done))))
             refine for_of 0 (fun k => [(1, .ptr 0 0), (3, .d (.int .i64 e)), (8, .d (.int .i64 0))]) (fun _ => [.box 10 (.d t.toD)]) (fun _ => True) trivial ?_ ?_
             ·refine weak_to [] [0] rfl (by simp) ?_ rfl
              simp only [zC, seval, implies_true, Nat.reduceLeDiff, Nat.reduceEqDiff, reduceCtorEq, reduceIte, Int.cast_ofNat_Int]
              all_goals rfl
             ·intro k0 _ hk0
              obtain rfl : k0 = 0 := by omega
              simp only [zC, seval, implies_true, Nat.reduceLeDiff, Nat.reduceEqDiff, reduceCtorEq, reduceIte, he, Bool.and_false, x_pick0]
              repeat ((with_reducible refine And.intro ?_ ?_); (focus (first | omega | (simp only [lenR]; omega) | (refine qq ?_; rfl) | (refine dq ?_; kernel_rfl) | (intros; simp_all; done))))
              refine ⟨_, _, ret_d, ?_, rfl⟩
              rw [hFe]
           ·rw [if_neg hst2] at hF
            have hst2 : stepF t.steps = 0 := by simpa using hst2
            rw [hst2]
            simp only [zC, seval, implies_true, Nat.reduceLeDiff, Nat.reduceEqDiff, reduceCtorEq, reduceIte, beq_self_eq_true]
            repeat ((with_reducible refine And.intro ?_ ?_); (focus (first | omega | (simp only [lenR]; omega) | (refine qq ?_; rfl) | (refine dq ?_; kernel_rfl) | (intros; simp_all; done))))
            refine callF_pure (k_RbkCheck _ ht.bst ht.blocks) ?_
            obtain ⟨E0, eE0⟩ : ∃ E0, E0 = bkF t.blocks := ⟨_, rfl⟩
            rw [← eE0] at hF ⊢
            simp only [zC, seval, implies_true, Nat.reduceLeDiff, Nat.reduceEqDiff, reduceCtorEq, reduceIte]
            repeat ((with_reducible refine And.intro ?_ ?_); (focus (first | omega | (simp only [lenR]; omega) | (refine qq ?_; rfl) | (refine dq ?_; kernel_rfl) | (intros; simp_all; done))))
            have hlk := ht.blocks
            obtain ⟨Q, hQ⟩ : ∃ Q : BlockT → Bool, Q = fun x => hasT t.threads x.thread := ⟨_, rfl⟩
            rw [← hQ] at hF
            refine for_of t.blocks.length (fun k => [(1, .ptr 0 0), (3, .d (.int .i64 (knownB E0 Q (t.blocks.take k)))), (7, .d (.int .i64 k))]) (fun _ => [.box 10 (.d t.toD)]) (fun _ => True) trivial ?_ ?_
            ·refine weak_to [] [0] rfl (by simp) ?_ rfl
             simp only [zC, seval, implies_true, Nat.reduceLeDiff, Nat.reduceEqDiff, reduceCtorEq, reduceIte, Int.cast_ofNat_Int, List.take_zero, knownB_nil]
             all_goals rfl
            ·intro k _ hk
             by_cases hg : k < t.blocks.length ∧ knownB E0 Q (t.blocks.take k) = 0
             ·obtain ⟨h, hz⟩ := hg
              have hs := knownB_step h hz
              obtain ⟨b, eb⟩ : ∃ b, b = t.blocks.getD k default := ⟨_, rfl⟩
              rw [← eb] at hs
              simp only [zC, seval, implies_true, Nat.reduceLeDiff, Nat.reduceEqDiff, reduceCtorEq, reduceIte, hz, (show (k:Int) < t.blocks.length by omega), h, a_getD _ _ _ (show k < t.blocks.length by omega), ← eb, beq_self_eq_true]
              repeat ((with_reducible refine And.intro ?_ ?_); (focus (first | omega | (simp only [lenR]; omega) | (refine qq ?_; rfl) | (refine dq ?_; kernel_rfl) | (intros; simp_all; done))))
              refine callF_pure (k_RHas t ht _) ?_
              simp only [zC, seval, implies_true, Nat.reduceLeDiff, Nat.reduceEqDiff, reduceCtorEq, reduceIte]
              refine ifC.mk (fun h5 => ?_) (fun h5 => ?_)
              ·rw [if_pos (by rw [hQ]; exact h5)] at hs
               repeat ((with_reducible refine And.intro ?_ ?_); (focus (first | omega | (simp only [lenR]; omega) | (refine qq ?_; rfl) | (refine dq ?_; kernel_rfl) | (intros; simp_all; done))))
               refine weak_to [] [0] rfl (by simp) ?_ rfl
               simp only [zC, seval, implies_true, Nat.reduceLeDiff, Nat.reduceEqDiff, reduceCtorEq, reduceIte, hs, @a_wrap ((k:Int) + 1) (by omega)]
               all_goals rfl
              ·rw [if_neg (by rw [hQ, h5]; simp)] at hs
               refine weak_to [] [0] rfl (by simp) ?_ rfl
               simp only [zC, seval, implies_true, Nat.reduceLeDiff, Nat.reduceEqDiff, reduceCtorEq, reduceIte, hs, hz, @a_wrap ((k:Int) + 1) (by omega)]
               all_goals rfl
             ·have hc : (decide ((k : Int) < t.blocks.length) && (knownB E0 Q (t.blocks.take k) == 0)) = false := by
               rw [Bool.and_eq_false_iff, decide_eq_false_iff_not]
               rcases Nat.lt_or_ge k t.blocks.length with h1 | h1
               ·exact .inr (by simpa using fun hz => hg ⟨h1, hz⟩)
               ·exact .inl (by omega)
              have hE : knownB E0 Q t.blocks = knownB E0 Q (t.blocks.take k) := by
               by_cases hz : knownB E0 Q (t.blocks.take k) = 0
               ·rw [List.take_of_length_le]
                rcases Nat.lt_or_ge k t.blocks.length with h1 | h1
                ·exact absurd ⟨h1, hz⟩ hg
                ·exact h1
               ·exact knownB_stop hz
              obtain ⟨E, eE⟩ : ∃ E, E = knownB E0 Q (t.blocks.take k) := ⟨_, rfl⟩
              rw [← eE] at hc hE ⊢
              rw [hE] at hF
              simp only [zC, seval, implies_true, Nat.reduceLeDiff, Nat.reduceEqDiff, reduceCtorEq, reduceIte, hc]
              repeat ((with_reducible refine And.intro ?_ ?_); (focus (first | omega | (simp only [lenR]; omega) | (refine qq ?_; rfl) | (refine dq ?_; kernel_rfl) | (intros; simp_all; done))))
              by_cases hEz : E ≠ 0
              ·rw [if_pos hEz] at hF
               have he : (E == 0) = false := by simpa using hEz
               obtain ⟨e, ee⟩ : ∃ e, e = E := ⟨_, rfl⟩
               rw [← ee] at he ⊢
               have hFe : F = e := by rw [hF, ee]
               simp only [zC, seval, implies_true, Nat.reduceLeDiff, Nat.reduceEqDiff, reduceCtorEq, reduceIte, he]
               repeat ((with_reducible refine And.intro ?_ ?_); (focus (first | omega | (simp only [lenR]; omega) | (refine qq ?_; rfl) | (refine dq ?_; kernel_rfl) | (intros; simp_all; done))))
               refine for_of 0 (fun k => [(1, .ptr 0 0), (3, .d (.int .i64 e)), (8, .d (.int .i64 0))]) (fun _ => [.box 10 (.d t.toD)]) (fun _ => True) trivial ?_ ?_
               ·refine weak_to [] [0] rfl (by simp) ?_ rfl
                simp only [zC, seval, implies_true, Nat.reduceLeDiff, Nat.reduceEqDiff, reduceCtorEq, reduceIte, Int.cast_ofNat_Int]
                all_goals rfl
               ·intro k0 _ hk0
                obtain rfl : k0 = 0 := by omega
                simp only [zC, seval, implies_true, Nat.reduceLeDiff, Nat.reduceEqDiff, reduceCtorEq, reduceIte, he, Bool.and_false, x_pick0]
                repeat ((with_reducible refine And.intro ?_ ?_); (focus (first | omega | (simp only [lenR]; omega) | (refine qq ?_; rfl) | (refine dq ?_; kernel_rfl) | (intros; simp_all; done))))
                refine ⟨_, _, ret_d, ?_, rfl⟩
                rw [hFe]
              ·have hEz : E = 0 := by simpa using hEz
               rw [if_neg (by rw [hEz]; simp)] at hF
               subst hEz
               simp only [zC, seval, implies_true, Nat.reduceLeDiff, Nat.reduceEqDiff, reduceCtorEq, reduceIte, beq_self_eq_true]
               repeat ((with_reducible refine And.intro ?_ ?_); (focus (first | omega | (simp only [lenR]; omega) | (refine qq ?_; rfl) | (refine dq ?_; kernel_rfl) | (intros; simp_all; done))))
               have hlk := ht.lost
               refine for_of t.lost.length (fun k => [(1, .ptr 0 0), (3, .d (.int .i64 (firstErr (fun k => lossAt (hasT t.threads) (t.lost.getD k default)) k))), (8, .d (.int .i64 k))]) (fun _ => [.box 10 (.d t.toD)]) (fun _ => True) trivial ?_ ?_
               ·refine weak_to [] [0] rfl (by simp) ?_ rfl
                simp only [zC, seval, implies_true, Nat.reduceLeDiff, Nat.reduceEqDiff, reduceCtorEq, reduceIte, Int.cast_ofNat_Int, firstErr]
                all_goals rfl
               ·intro k _ hk
                by_cases hg : k < t.lost.length ∧ firstErr (fun k => lossAt (hasT t.threads) (t.lost.getD k default)) k = 0
                ·obtain ⟨h, hz⟩ := hg
                 have hs : firstErr (fun k => lossAt (hasT t.threads) (t.lost.getD k default)) (k + 1) = lossAt (hasT t.threads) (t.lost.getD k default) := by rw [firstErr, hz, if_pos rfl]
                 obtain ⟨b, eb⟩ : ∃ b, b = t.lost.getD k default := ⟨_, rfl⟩
                 rw [← eb] at hs
                 simp only [zC, seval, implies_true, Nat.reduceLeDiff, Nat.reduceEqDiff, reduceCtorEq, reduceIte, hz, (show (k:Int) < t.lost.length by omega), h, a_getD _ _ _ (show k < t.lost.length by omega), ← eb, beq_self_eq_true]
                 repeat ((with_reducible refine And.intro ?_ ?_); (focus (first | omega | (simp only [lenR]; omega) | (refine qq ?_; rfl) | (refine dq ?_; kernel_rfl) | (intros; simp_all; done))))
                 refine callF_pure (k_RHas t ht _) ?_
                 simp only [zC, seval, implies_true, Nat.reduceLeDiff, Nat.reduceEqDiff, reduceCtorEq, reduceIte]
                 refine ifC.mk (fun h5 => ?_) (fun h5 => ?_)
                 ·rw [lossAt, if_pos (by rw [← Bool.not_eq_true']; exact h5)] at hs
                  repeat ((with_reducible refine And.intro ?_ ?_); (focus (first | omega | (simp only [lenR]; omega) | (refine qq ?_; rfl) | (refine dq ?_; kernel_rfl) | (intros; simp_all; done))))
                  refine weak_to [] [0] rfl (by simp) ?_ rfl
                  simp only [zC, seval, implies_true, Nat.reduceLeDiff, Nat.reduceEqDiff, reduceCtorEq, reduceIte, hs, @a_wrap ((k:Int) + 1) (by omega)]
                  all_goals rfl
                 ·rw [lossAt, if_neg (by intro e; rw [e] at h5; cases h5)] at hs
                  refine callF_pure (k_RValid _ _) ?_
                  simp only [zC, seval, implies_true, Nat.reduceLeDiff, Nat.reduceEqDiff, reduceCtorEq, reduceIte]
                  repeat ((with_reducible refine And.intro ?_ ?_); (focus (first | omega | (simp only [lenR]; omega) | (refine qq ?_; rfl) | (refine dq ?_; kernel_rfl) | (intros; simp_all; done))))
                  refine ifC.mk (fun h6 => ?_) (fun h6 => ?_)
                  ·rw [if_pos h6] at hs
                   repeat ((with_reducible refine And.intro ?_ ?_); (focus (first | omega | (simp only [lenR]; omega) | (refine qq ?_; rfl) | (refine dq ?_; kernel_rfl) | (intros; simp_all; done))))
                   refine weak_to [] [0] rfl (by simp) ?_ rfl
                   simp only [zC, seval, implies_true, Nat.reduceLeDiff, Nat.reduceEqDiff, reduceCtorEq, reduceIte, hs, @a_wrap ((k:Int) + 1) (by omega)]
                   all_goals rfl
                  ·rw [if_neg (by rw [h6]; simp)] at hs
                   refine weak_to [] [0] rfl (by simp) ?_ rfl
                   simp only [zC, seval, implies_true, Nat.reduceLeDiff, Nat.reduceEqDiff, reduceCtorEq, reduceIte, hs, hz, @a_wrap ((k:Int) + 1) (by omega)]
                   all_goals rfl
                ·have hc : (decide ((k : Int) < t.lost.length) && (firstErr (fun k => lossAt (hasT t.threads) (t.lost.getD k default)) k == 0)) = false := by
                  rw [Bool.and_eq_false_iff, decide_eq_false_iff_not]
                  rcases Nat.lt_or_ge k t.lost.length with h1 | h1
                  ·exact .inr (by simpa using fun hz => hg ⟨h1, hz⟩)
                  ·exact .inl (by omega)
                 have hE : lossF (hasT t.threads) t.lost = firstErr (fun k => lossAt (hasT t.threads) (t.lost.getD k default)) k := by
                  rcases Nat.lt_or_ge k t.lost.length with h1 | h1
                  ·have hz : firstErr (fun k => lossAt (hasT t.threads) (t.lost.getD k default)) k ≠ 0 := fun hz => hg ⟨h1, hz⟩
                   exact firstErr_stop hz hk
                  ·have : k = t.lost.length := by omega
                   rw [this]; rfl
                 obtain ⟨E, eE⟩ : ∃ E, E = firstErr (fun k => lossAt (hasT t.threads) (t.lost.getD k default)) k := ⟨_, rfl⟩
                 rw [← eE] at hc hE ⊢
                 simp only [zC, seval, implies_true, Nat.reduceLeDiff, Nat.reduceEqDiff, reduceCtorEq, reduceIte, hc]
                 repeat ((with_reducible refine And.intro ?_ ?_); (focus (first | omega | (simp only [lenR]; omega) | (refine qq ?_; rfl) | (refine dq ?_; kernel_rfl) | (intros; simp_all; done))))
                 refine ⟨_, _, ret_d, ?_, rfl⟩
                 rw [hF, hE]
end YtadfcljoocjhdaaGreat
end Go.Proofs
