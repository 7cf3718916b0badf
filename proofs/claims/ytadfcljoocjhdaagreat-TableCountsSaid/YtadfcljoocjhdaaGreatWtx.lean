/- A part of the proof: contracts of functions of this seat, and lemmas. No condition beyond those stated. -/
import Derived.Test.YtadfcljoocjhdaaGreatWtw
set_option linter.unusedVariables false
set_option linter.unusedSimpArgs false
set_option linter.unusedSectionVars false
set_option linter.unnecessarySimpa false
set_option maxRecDepth 100000
namespace Go.Proofs
open Go.AM
namespace YtadfcljoocjhdaaGreat
variable {Gl : Globs}
theorem k_Rtables (t : TraceT) (ht : t.Few) : Pure Tryz.prog Gl 60 [.d t.toD] (.d (.int .i64 (tablesF t))) := by
 refine Pure.of1 ?_
 have hl := ht.threads
 obtain ⟨F, hF⟩ : ∃ F, F = tablesF t := ⟨_, rfl⟩
 rw [← hF]
 have hbadF : threadsF t.threads ≠ 0 → F = threadsF t.threads := fun h => by rw [hF, tablesF, if_pos h]
 refine acalls_of Tryz.func60 rfl rfl (by simp [Tryz.ntmps60]) (evC_sound rfl _ _ _ _ ?_)
 simp only [Tryz.ntmps60, Tryz.results60, argEnv, List.length_nil]
 simp only [zC, seval, implies_true, Nat.reduceLeDiff, Nat.reduceEqDiff, reduceCtorEq, reduceIte]
 repeat ((with_reducible refine And.intro ?_ ?_); (focus (first | omega | (simp only [lenR]; omega) | (refine qq ?_; rfl) | (refine dq ?_; kernel_rfl) | (intros; simp_all; done))))
 refine ifC.mk (fun h => ?_) (fun h => ?_)
 ·have h : 64 < t.threads.length := by simp at h; omega
  have e : threadsF t.threads = 7 := by rw [threadsF, if_pos h]
  refine ⟨_, _, ret_d, ?_, rfl⟩
  rw [hbadF (by rw [e]; decide), e]
 ·have h : ¬ 64 < t.threads.length := by simp at h; omega
  have hT : threadsF t.threads = firstErr (thrAt t.threads) t.threads.length := by rw [threadsF, if_neg h]
  refine for_of t.threads.length (fun k => [(1, .ptr 0 0), (3, .d (.int .i64 k))]) (fun _ => [.box 10 (.d t.toD)]) (fun k => firstErr (thrAt t.threads) k = 0) rfl ?_ ?_
  ·refine weak_to [] [0] rfl (by simp) ?_ rfl
   simp only [zC, seval, implies_true, Nat.reduceLeDiff, Nat.reduceEqDiff, reduceCtorEq, reduceIte, Int.cast_ofNat_Int]
   all_goals rfl
  ·intro k hi hk
   by_cases h2 : k < t.threads.length
   ·have hb : ∀ e, thrAt t.threads k = e → e ≠ 0 → F = e := fun e h1 h2' => by
     have := firstErr_at hi (by rw [h1]; exact h2') h2
     rw [← hT, h1] at this
     rw [hbadF (by rw [this]; exact h2'), this]
    obtain ⟨b, eb⟩ : ∃ b, b = t.threads.getD k default := ⟨_, rfl⟩
    simp only [zC, seval, implies_true, Nat.reduceLeDiff, Nat.reduceEqDiff, reduceCtorEq, reduceIte, (show (k:Int) < t.threads.length by omega), h2, a_getD _ _ _ (show k < t.threads.length by omega), ← eb]
    repeat ((with_reducible refine And.intro ?_ ?_); (focus (first | omega | (simp only [lenR]; omega) | (refine qq ?_; rfl) | (refine dq ?_; kernel_rfl) | (intros; simp_all; done))))
    refine callF_pure (k_RThread _) ?_
    simp only [zC, seval, implies_true, Nat.reduceLeDiff, Nat.reduceEqDiff, reduceCtorEq, reduceIte]
    refine ifC.mk (fun hc => ?_) (fun hc => ?_)
    ·have hc : thrErr b ≠ 0 := by simpa using hc
     refine ⟨_, _, ret_d, ?_, rfl⟩
     rw [hb _ (show thrAt t.threads k = thrErr b from by rw [thrAt, ← eb, if_pos hc]) hc]
    ·have hc : ¬ thrErr b ≠ 0 := by simpa using hc
     have hat : thrAt t.threads k = if hasT (t.threads.take k) b.id = true then 4 else 0 := by rw [thrAt, ← eb, if_neg hc]
     refine for_of k (fun j => [(1, .ptr 0 0), (3, .d (.int .i64 k)), (5, .d (.int .i64 j))]) (fun _ => [.box 10 (.d t.toD)]) (fun j => (t.threads.take j).any (fun x => x.id == b.id) = false) rfl ?_ ?_
     ·refine weak_to [] [0] rfl (by simp) ?_ rfl
      simp only [zC, seval, implies_true, Nat.reduceLeDiff, Nat.reduceEqDiff, reduceCtorEq, reduceIte, Int.cast_ofNat_Int]
      all_goals rfl
     ·intro j hj hjk
      by_cases h5 : j < k
      ·have hs := any_take (fun x : ThreadT => x.id == b.id) t.threads j (by omega)
       simp only [zC, seval, implies_true, Nat.reduceLeDiff, Nat.reduceEqDiff, reduceCtorEq, reduceIte, (show (j:Int) < k by omega), h5, (show (j:Int) < t.threads.length by omega), (show j < t.threads.length by omega), a_getD _ _ _ (show j < t.threads.length by omega), (show (k:Int) < t.threads.length by omega), h2, a_getD _ _ _ (show k < t.threads.length by omega), ← eb]
       repeat ((with_reducible refine And.intro ?_ ?_); (focus (first | omega | (simp only [lenR]; omega) | (refine qq ?_; rfl) | (refine dq ?_; kernel_rfl) | (intros; simp_all; done))))
       refine ifC.mk (fun h6 => ?_) (fun h6 => ?_)
       ·refine ⟨_, _, ret_d, ?_, rfl⟩
        rw [hb 4 (by rw [hat, if_pos]; unfold hasT; rw [List.any_eq_true]; exact ⟨t.threads.getD j default, mem_take_getD h5 (by omega), h6⟩) (by omega)]
       ·refine ⟨by rw [hs, hj, h6]; rfl, ?_⟩
        refine weak_to [] [0] rfl (by simp) ?_ rfl
        simp only [zC, seval, implies_true, Nat.reduceLeDiff, Nat.reduceEqDiff, reduceCtorEq, reduceIte, @a_wrap ((j:Int) + 1) (by omega)]
        all_goals rfl
      ·simp only [zC, seval, implies_true, Nat.reduceLeDiff, Nat.reduceEqDiff, reduceCtorEq, reduceIte, (show ¬ (j:Int) < k by omega)]
       repeat ((with_reducible refine And.intro ?_ ?_); (focus (first | omega | (simp only [lenR]; omega) | (refine qq ?_; rfl) | (refine dq ?_; kernel_rfl) | (intros; simp_all; done))))
       have hjk : j = k := by omega
       subst hjk
       refine ⟨firstErr_step hi (by rw [hat, if_neg (by unfold hasT; rw [hj]; simp)]), ?_⟩
       refine weak_to [] [0] rfl (by simp) ?_ rfl
       simp only [zC, seval, implies_true, Nat.reduceLeDiff, Nat.reduceEqDiff, reduceCtorEq, reduceIte, @a_wrap ((j:Int) + 1) (by omega)]
       all_goals rfl
   ·simp only [zC, seval, implies_true, Nat.reduceLeDiff, Nat.reduceEqDiff, reduceCtorEq, reduceIte, (show ¬ (k:Int) < t.threads.length by omega)]
    have : k = t.threads.length := by omega
    subst this
    rw [hi] at hT
    refine callF_pure (k_rows t ht) ?_
    simp only [zC, seval, implies_true, Nat.reduceLeDiff, Nat.reduceEqDiff, reduceCtorEq, reduceIte]
    refine ⟨_, _, ret_d, ?_, rfl⟩
    rw [hF, rows_tables t hT]
set_option maxHeartbeats 8000000 in
theorem k_RtraceCheck (t : TraceT) (ht : t.Few) : Pure Tryz.prog Gl 23 [.d t.toD] (.d (.int .i64 (traceF t))) := by
 refine Pure.of1 ?_
 obtain ⟨F, hF⟩ : ∃ F, F = traceF t := ⟨_, rfl⟩
 rw [← hF]
 rw [traceF] at hF
 refine acalls_of Tryz.func23 rfl rfl (by simp [Tryz.ntmps23]) (evC_sound rfl _ _ _ _ ?_)
 simp only [Tryz.ntmps23, Tryz.results23, argEnv, List.length_nil]
 simp only [zC, seval, implies_true, Nat.reduceLeDiff, Nat.reduceEqDiff, reduceCtorEq, reduceIte]
 refine callF_pure (k_Rtables t ht) ?_
 simp only [zC, seval, implies_true, Nat.reduceLeDiff, Nat.reduceEqDiff, reduceCtorEq, reduceIte]
 refine ifC.mk (fun h1 => ?_) (fun h1 => ?_)
 ·have h1 := bne_iff_ne.1 h1
  refine ⟨_, _, ret_d, ?_, rfl⟩
  rw [hF, if_pos h1]
 ·have h1 : tablesF t = 0 := by simpa using h1
  rw [if_neg (by rw [h1]; simp)] at hF
  repeat ((with_reducible refine And.intro ?_ ?_); (focus (first | omega | (simp only [lenR]; omega) | (refine qq ?_; rfl) | (refine dq ?_; kernel_rfl) | (intros; simp_all; done))))
  refine ifC.mk (fun h2 => ?_) (fun h2 => ?_)
  ·refine ⟨_, _, ret_d, ?_, rfl⟩
   rw [hF, if_pos h2]
  ·rw [if_neg (by rw [h2]; simp)] at hF
   have hlk := ht.slices
   obtain ⟨Q, hQ⟩ : ∃ Q : SliceT → Bool, Q = fun x => withinB x.lo x.hi t.lo t.hi := ⟨_, rfl⟩
   refine for_of t.slices.length (fun k => [(1, .ptr 0 0), (4, .ptr 1 0), (5, .d (.bool ((t.slices.take k).all Q))), (6, .d (.int .i64 k))]) (fun _ => [.box 10 (.d t.toD), .box 2 (.d (.agg [.int .i64 t.lo, .int .i64 t.hi]))]) (fun _ => True) trivial ?_ ?_
   ·refine weak_to [] [0, 1] rfl (by simp) ?_ rfl
    simp only [zC, seval, implies_true, Nat.reduceLeDiff, Nat.reduceEqDiff, reduceCtorEq, reduceIte, Int.cast_ofNat_Int, List.take_zero, List.all_nil, Bool.and_true]
    all_goals rfl
   ·intro k _ hk
    by_cases h : k < t.slices.length
    ·have hs := all_take Q t.slices k h
     obtain ⟨b, eb⟩ : ∃ b, b = t.slices.getD k default := ⟨_, rfl⟩
     rw [← eb] at hs
     have hQb : Q b = (withinB b.lo b.hi t.lo t.hi) := by rw [hQ]
     simp only [zC, seval, implies_true, Nat.reduceLeDiff, Nat.reduceEqDiff, reduceCtorEq, reduceIte, (show (k:Int) < t.slices.length by omega), h, a_getD _ _ _ (show k < t.slices.length by omega), ← eb]
     repeat ((with_reducible refine And.intro ?_ ?_); (focus (first | omega | (simp only [lenR]; omega) | (refine qq ?_; rfl) | (refine dq ?_; kernel_rfl) | (intros; simp_all; done))))
     refine callG_pure (fun _ => k_Rwithin _ _ _ _) ?_
     simp only [zC, seval, implies_true, Nat.reduceLeDiff, Nat.reduceEqDiff, reduceCtorEq, reduceIte, (show (k:Int) < t.slices.length by omega), h, a_getD _ _ _ (show k < t.slices.length by omega), ← eb]
     repeat ((with_reducible refine And.intro ?_ ?_); (focus (first | omega | (simp only [lenR]; omega) | (refine qq ?_; rfl) | (refine dq ?_; kernel_rfl) | (intros; simp_all; done))))
     refine weak_to [] [0, 1] rfl (by simp) ?_ rfl
     simp only [zC, seval, implies_true, Nat.reduceLeDiff, Nat.reduceEqDiff, reduceCtorEq, reduceIte, @a_wrap ((k:Int) + 1) (by omega), hs, hQb, Bool.and_assoc]
     all_goals rfl
    ·have hkn : k = t.slices.length := by omega
     subst hkn
     simp only [zC, seval, implies_true, Nat.reduceLeDiff, Nat.reduceEqDiff, reduceCtorEq, reduceIte, (show ¬ (t.slices.length:Int) < t.slices.length by omega), List.take_length]
     subst hQ
     obtain ⟨ok1, hok1⟩ : ∃ ok1, ok1 = (t.slices.all fun x => withinB x.lo x.hi t.lo t.hi) := ⟨_, rfl⟩
     rw [← hok1]
     repeat ((with_reducible refine And.intro ?_ ?_); (focus (first | omega | (simp only [lenR]; omega) | (refine qq ?_; rfl) | (refine dq ?_; kernel_rfl) | (intros; simp_all; done))))
     have hlk := ht.states
     obtain ⟨Q, hQ⟩ : ∃ Q : StateT → Bool, Q = fun x => withinB x.lo x.hi t.lo t.hi := ⟨_, rfl⟩
     refine for_of t.states.length (fun k => [(1, .ptr 0 0), (4, .ptr 1 0), (5, .d (.bool (ok1 && (t.states.take k).all Q))), (7, .d (.int .i64 k))]) (fun _ => [.box 10 (.d t.toD), .box 2 (.d (.agg [.int .i64 t.lo, .int .i64 t.hi]))]) (fun _ => True) trivial ?_ ?_
     ·refine weak_to [] [0, 1] rfl (by simp) ?_ rfl
      simp only [zC, seval, implies_true, Nat.reduceLeDiff, Nat.reduceEqDiff, reduceCtorEq, reduceIte, Int.cast_ofNat_Int, List.take_zero, List.all_nil, Bool.and_true]
      all_goals rfl
     ·intro k _ hk
      by_cases h : k < t.states.length
      ·have hs := all_take Q t.states k h
       obtain ⟨b, eb⟩ : ∃ b, b = t.states.getD k default := ⟨_, rfl⟩
       rw [← eb] at hs
       have hQb : Q b = (withinB b.lo b.hi t.lo t.hi) := by rw [hQ]
       simp only [zC, seval, implies_true, Nat.reduceLeDiff, Nat.reduceEqDiff, reduceCtorEq, reduceIte, (show (k:Int) < t.states.length by omega), h, a_getD _ _ _ (show k < t.states.length by omega), ← eb]
       repeat ((with_reducible refine And.intro ?_ ?_); (focus (first | omega | (simp only [lenR]; omega) | (refine qq ?_; rfl) | (refine dq ?_; kernel_rfl) | (intros; simp_all; done))))
       refine callG_pure (fun _ => k_Rwithin _ _ _ _) ?_
       simp only [zC, seval, implies_true, Nat.reduceLeDiff, Nat.reduceEqDiff, reduceCtorEq, reduceIte, (show (k:Int) < t.states.length by omega), h, a_getD _ _ _ (show k < t.states.length by omega), ← eb]
       repeat ((with_reducible refine And.intro ?_ ?_); (focus (first | omega | (simp only [lenR]; omega) | (refine qq ?_; rfl) | (refine dq ?_; kernel_rfl) | (intros; simp_all; done))))
       refine weak_to [] [0, 1] rfl (by simp) ?_ rfl
       simp only [zC, seval, implies_true, Nat.reduceLeDiff, Nat.reduceEqDiff, reduceCtorEq, reduceIte, @a_wrap ((k:Int) + 1) (by omega), hs, hQb, Bool.and_assoc]
       all_goals rfl
      ·have hkn : k = t.states.length := by omega
       subst hkn
       simp only [zC, seval, implies_true, Nat.reduceLeDiff, Nat.reduceEqDiff, reduceCtorEq, reduceIte, (show ¬ (t.states.length:Int) < t.states.length by omega), List.take_length]
       subst hQ
       obtain ⟨ok2, hok2⟩ : ∃ ok2, ok2 = (ok1 && t.states.all fun x => withinB x.lo x.hi t.lo t.hi) := ⟨_, rfl⟩
       rw [← hok2]
       repeat ((with_reducible refine And.intro ?_ ?_); (focus (first | omega | (simp only [lenR]; omega) | (refine qq ?_; rfl) | (refine dq ?_; kernel_rfl) | (intros; simp_all; done))))
       have hlk := ht.blocks
       obtain ⟨Q, hQ⟩ : ∃ Q : BlockT → Bool, Q = fun x => withinB x.lo x.hi t.lo t.hi := ⟨_, rfl⟩
       refine for_of t.blocks.length (fun k => [(1, .ptr 0 0), (4, .ptr 1 0), (5, .d (.bool (ok2 && (t.blocks.take k).all Q))), (8, .d (.int .i64 k))]) (fun _ => [.box 10 (.d t.toD), .box 2 (.d (.agg [.int .i64 t.lo, .int .i64 t.hi]))]) (fun _ => True) trivial ?_ ?_
       ·refine weak_to [] [0, 1] rfl (by simp) ?_ rfl
        simp only [zC, seval, implies_true, Nat.reduceLeDiff, Nat.reduceEqDiff, reduceCtorEq, reduceIte, Int.cast_ofNat_Int, List.take_zero, List.all_nil, Bool.and_true]
        all_goals rfl
       ·intro k _ hk
        by_cases h : k < t.blocks.length
        ·have hs := all_take Q t.blocks k h
         obtain ⟨b, eb⟩ : ∃ b, b = t.blocks.getD k default := ⟨_, rfl⟩
         rw [← eb] at hs
         have hQb : Q b = (withinB b.lo b.hi t.lo t.hi) := by rw [hQ]
         simp only [zC, seval, implies_true, Nat.reduceLeDiff, Nat.reduceEqDiff, reduceCtorEq, reduceIte, (show (k:Int) < t.blocks.length by omega), h, a_getD _ _ _ (show k < t.blocks.length by omega), ← eb]
         repeat ((with_reducible refine And.intro ?_ ?_); (focus (first | omega | (simp only [lenR]; omega) | (refine qq ?_; rfl) | (refine dq ?_; kernel_rfl) | (intros; simp_all; done))))
         refine callG_pure (fun _ => k_Rwithin _ _ _ _) ?_
         simp only [zC, seval, implies_true, Nat.reduceLeDiff, Nat.reduceEqDiff, reduceCtorEq, reduceIte, (show (k:Int) < t.blocks.length by omega), h, a_getD _ _ _ (show k < t.blocks.length by omega), ← eb]
         repeat ((with_reducible refine And.intro ?_ ?_); (focus (first | omega | (simp only [lenR]; omega) | (refine qq ?_; rfl) | (refine dq ?_; kernel_rfl) | (intros; simp_all; done))))
         refine weak_to [] [0, 1] rfl (by simp) ?_ rfl
         simp only [zC, seval, implies_true, Nat.reduceLeDiff, Nat.reduceEqDiff, reduceCtorEq, reduceIte, @a_wrap ((k:Int) + 1) (by omega), hs, hQb, Bool.and_assoc]
         all_goals rfl
        ·have hkn : k = t.blocks.length := by omega
         subst hkn
         simp only [zC, seval, implies_true, Nat.reduceLeDiff, Nat.reduceEqDiff, reduceCtorEq, reduceIte, (show ¬ (t.blocks.length:Int) < t.blocks.length by omega), List.take_length]
         subst hQ
         obtain ⟨ok3, hok3⟩ : ∃ ok3, ok3 = (ok2 && t.blocks.all fun x => withinB x.lo x.hi t.lo t.hi) := ⟨_, rfl⟩
         rw [← hok3]
         repeat ((with_reducible refine And.intro ?_ ?_); (focus (first | omega | (simp only [lenR]; omega) | (refine qq ?_; rfl) | (refine dq ?_; kernel_rfl) | (intros; simp_all; done))))
         have hlk := ht.flows
         obtain ⟨Q, hQ⟩ : ∃ Q : FlowT → Bool, Q = fun x => insideB t.lo t.hi x.send && insideB t.lo t.hi x.recv := ⟨_, rfl⟩
         refine for_of t.flows.length (fun k => [(1, .ptr 0 0), (4, .ptr 1 0), (5, .d (.bool (ok3 && (t.flows.take k).all Q))), (9, .d (.int .i64 k))]) (fun _ => [.box 10 (.d t.toD), .box 2 (.d (.agg [.int .i64 t.lo, .int .i64 t.hi]))]) (fun _ => True) trivial ?_ ?_
         ·refine weak_to [] [0, 1] rfl (by simp) ?_ rfl
          simp only [zC, seval, implies_true, Nat.reduceLeDiff, Nat.reduceEqDiff, reduceCtorEq, reduceIte, Int.cast_ofNat_Int, List.take_zero, List.all_nil, Bool.and_true]
          all_goals rfl
         ·intro k _ hk
          by_cases h : k < t.flows.length
          ·have hs := all_take Q t.flows k h
           obtain ⟨b, eb⟩ : ∃ b, b = t.flows.getD k default := ⟨_, rfl⟩
           rw [← eb] at hs
           have hQb : Q b = (insideB t.lo t.hi b.send && insideB t.lo t.hi b.recv) := by rw [hQ]
           simp only [zC, seval, implies_true, Nat.reduceLeDiff, Nat.reduceEqDiff, reduceCtorEq, reduceIte, (show (k:Int) < t.flows.length by omega), h, a_getD _ _ _ (show k < t.flows.length by omega), ← eb]
           repeat ((with_reducible refine And.intro ?_ ?_); (focus (first | omega | (simp only [lenR]; omega) | (refine qq ?_; rfl) | (refine dq ?_; kernel_rfl) | (intros; simp_all; done))))
           refine callG_pure (fun _ => k_Rinside _ _ _) ?_
           simp only [zC, seval, implies_true, Nat.reduceLeDiff, Nat.reduceEqDiff, reduceCtorEq, reduceIte, (show (k:Int) < t.flows.length by omega), h, a_getD _ _ _ (show k < t.flows.length by omega), ← eb]
           repeat ((with_reducible refine And.intro ?_ ?_); (focus (first | omega | (simp only [lenR]; omega) | (refine qq ?_; rfl) | (refine dq ?_; kernel_rfl) | (intros; simp_all; done))))
           refine callG_pure (fun _ => k_Rinside _ _ _) ?_
           simp only [zC, seval, implies_true, Nat.reduceLeDiff, Nat.reduceEqDiff, reduceCtorEq, reduceIte, (show (k:Int) < t.flows.length by omega), h, a_getD _ _ _ (show k < t.flows.length by omega), ← eb]
           repeat ((with_reducible refine And.intro ?_ ?_); (focus (first | omega | (simp only [lenR]; omega) | (refine qq ?_; rfl) | (refine dq ?_; kernel_rfl) | (intros; simp_all; done))))
           refine weak_to [] [0, 1] rfl (by simp) ?_ rfl
           simp only [zC, seval, implies_true, Nat.reduceLeDiff, Nat.reduceEqDiff, reduceCtorEq, reduceIte, @a_wrap ((k:Int) + 1) (by omega), hs, hQb, Bool.and_assoc]
           all_goals rfl
          ·have hkn : k = t.flows.length := by omega
           subst hkn
           simp only [zC, seval, implies_true, Nat.reduceLeDiff, Nat.reduceEqDiff, reduceCtorEq, reduceIte, (show ¬ (t.flows.length:Int) < t.flows.length by omega), List.take_length]
           subst hQ
           obtain ⟨ok4, hok4⟩ : ∃ ok4, ok4 = (ok3 && t.flows.all fun x => insideB t.lo t.hi x.send && insideB t.lo t.hi x.recv) := ⟨_, rfl⟩
           rw [← hok4]
           repeat ((with_reducible refine And.intro ?_ ?_); (focus (first | omega | (simp only [lenR]; omega) | (refine qq ?_; rfl) | (refine dq ?_; kernel_rfl) | (intros; simp_all; done))))
           have hlk := ht.samples
           obtain ⟨Q, hQ⟩ : ∃ Q : SampleT → Bool, Q = fun x => insideB t.lo t.hi x.at_ := ⟨_, rfl⟩
           refine for_of t.samples.length (fun k => [(1, .ptr 0 0), (4, .ptr 1 0), (5, .d (.bool (ok4 && (t.samples.take k).all Q))), (10, .d (.int .i64 k))]) (fun _ => [.box 10 (.d t.toD), .box 2 (.d (.agg [.int .i64 t.lo, .int .i64 t.hi]))]) (fun _ => True) trivial ?_ ?_
           ·refine weak_to [] [0, 1] rfl (by simp) ?_ rfl
            simp only [zC, seval, implies_true, Nat.reduceLeDiff, Nat.reduceEqDiff, reduceCtorEq, reduceIte, Int.cast_ofNat_Int, List.take_zero, List.all_nil, Bool.and_true]
            all_goals rfl
           ·intro k _ hk
            by_cases h : k < t.samples.length
            ·have hs := all_take Q t.samples k h
             obtain ⟨b, eb⟩ : ∃ b, b = t.samples.getD k default := ⟨_, rfl⟩
             rw [← eb] at hs
             have hQb : Q b = (insideB t.lo t.hi b.at_) := by rw [hQ]
             simp only [zC, seval, implies_true, Nat.reduceLeDiff, Nat.reduceEqDiff, reduceCtorEq, reduceIte, (show (k:Int) < t.samples.length by omega), h, a_getD _ _ _ (show k < t.samples.length by omega), ← eb]
             repeat ((with_reducible refine And.intro ?_ ?_); (focus (first | omega | (simp only [lenR]; omega) | (refine qq ?_; rfl) | (refine dq ?_; kernel_rfl) | (intros; simp_all; done))))
             refine callG_pure (fun _ => k_Rinside _ _ _) ?_
             simp only [zC, seval, implies_true, Nat.reduceLeDiff, Nat.reduceEqDiff, reduceCtorEq, reduceIte, (show (k:Int) < t.samples.length by omega), h, a_getD _ _ _ (show k < t.samples.length by omega), ← eb]
             repeat ((with_reducible refine And.intro ?_ ?_); (focus (first | omega | (simp only [lenR]; omega) | (refine qq ?_; rfl) | (refine dq ?_; kernel_rfl) | (intros; simp_all; done))))
             refine weak_to [] [0, 1] rfl (by simp) ?_ rfl
             simp only [zC, seval, implies_true, Nat.reduceLeDiff, Nat.reduceEqDiff, reduceCtorEq, reduceIte, @a_wrap ((k:Int) + 1) (by omega), hs, hQb, Bool.and_assoc]
             all_goals rfl
            ·have hkn : k = t.samples.length := by omega
             subst hkn
             simp only [zC, seval, implies_true, Nat.reduceLeDiff, Nat.reduceEqDiff, reduceCtorEq, reduceIte, (show ¬ (t.samples.length:Int) < t.samples.length by omega), List.take_length]
             subst hQ
             obtain ⟨ok5, hok5⟩ : ∃ ok5, ok5 = (ok4 && t.samples.all fun x => insideB t.lo t.hi x.at_) := ⟨_, rfl⟩
             rw [← hok5]
             repeat ((with_reducible refine And.intro ?_ ?_); (focus (first | omega | (simp only [lenR]; omega) | (refine qq ?_; rfl) | (refine dq ?_; kernel_rfl) | (intros; simp_all; done))))
             have hlk := ht.steps
             obtain ⟨Q, hQ⟩ : ∃ Q : StepT → Bool, Q = fun x => insideB t.lo t.hi x.at_ := ⟨_, rfl⟩
             refine for_of t.steps.length (fun k => [(1, .ptr 0 0), (4, .ptr 1 0), (5, .d (.bool (ok5 && (t.steps.take k).all Q))), (11, .d (.int .i64 k))]) (fun _ => [.box 10 (.d t.toD), .box 2 (.d (.agg [.int .i64 t.lo, .int .i64 t.hi]))]) (fun _ => True) trivial ?_ ?_
             ·refine weak_to [] [0, 1] rfl (by simp) ?_ rfl
              simp only [zC, seval, implies_true, Nat.reduceLeDiff, Nat.reduceEqDiff, reduceCtorEq, reduceIte, Int.cast_ofNat_Int, List.take_zero, List.all_nil, Bool.and_true]
              all_goals rfl
             ·intro k _ hk
              by_cases h : k < t.steps.length
              ·have hs := all_take Q t.steps k h
               obtain ⟨b, eb⟩ : ∃ b, b = t.steps.getD k default := ⟨_, rfl⟩
               rw [← eb] at hs
               have hQb : Q b = (insideB t.lo t.hi b.at_) := by rw [hQ]
               simp only [zC, seval, implies_true, Nat.reduceLeDiff, Nat.reduceEqDiff, reduceCtorEq, reduceIte, (show (k:Int) < t.steps.length by omega), h, a_getD _ _ _ (show k < t.steps.length by omega), ← eb]
               repeat ((with_reducible refine And.intro ?_ ?_); (focus (first | omega | (simp only [lenR]; omega) | (refine qq ?_; rfl) | (refine dq ?_; kernel_rfl) | (intros; simp_all; done))))
               refine callG_pure (fun _ => k_Rinside _ _ _) ?_
               simp only [zC, seval, implies_true, Nat.reduceLeDiff, Nat.reduceEqDiff, reduceCtorEq, reduceIte, (show (k:Int) < t.steps.length by omega), h, a_getD _ _ _ (show k < t.steps.length by omega), ← eb]
               repeat ((with_reducible refine And.intro ?_ ?_); (focus (first | omega | (simp only [lenR]; omega) | (refine qq ?_; rfl) | (refine dq ?_; kernel_rfl) | (intros; simp_all; done))))
               refine weak_to [] [0, 1] rfl (by simp) ?_ rfl
               simp only [zC, seval, implies_true, Nat.reduceLeDiff, Nat.reduceEqDiff, reduceCtorEq, reduceIte, @a_wrap ((k:Int) + 1) (by omega), hs, hQb, Bool.and_assoc]
               all_goals rfl
              ·have hkn : k = t.steps.length := by omega
               subst hkn
               simp only [zC, seval, implies_true, Nat.reduceLeDiff, Nat.reduceEqDiff, reduceCtorEq, reduceIte, (show ¬ (t.steps.length:Int) < t.steps.length by omega), List.take_length]
               subst hQ
               obtain ⟨ok6, hok6⟩ : ∃ ok6, ok6 = (ok5 && t.steps.all fun x => insideB t.lo t.hi x.at_) := ⟨_, rfl⟩
               rw [← hok6]
               repeat ((with_reducible refine And.intro ?_ ?_); (focus (first | omega | (simp only [lenR]; omega) | (refine qq ?_; rfl) | (refine dq ?_; kernel_rfl) | (intros; simp_all; done))))
               have hout : outsideF t = !ok6 := by
                rw [hok6, hok5, hok4, hok3, hok2, hok1, outsideF]
                simp only [Bool.true_and, Bool.not_and, ← List.not_any_eq_all_not, List.not_all_eq_any_not, Bool.or_assoc]
               refine ifC.mk (fun h9 => ?_) (fun h9 => ?_)
               ·refine ⟨_, _, ret_d, ?_, rfl⟩
                rw [hF, if_pos (by rw [hout]; exact h9)]
               ·refine ⟨_, _, ret_d, ?_, rfl⟩
                rw [hF, if_neg (by rw [hout, h9]; simp)]
end YtadfcljoocjhdaaGreat
end Go.Proofs
