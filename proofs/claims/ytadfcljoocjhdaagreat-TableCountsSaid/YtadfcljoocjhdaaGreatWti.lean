/- A part of the proof: contracts of functions of this seat, and lemmas. No condition beyond those stated. -/
import Derived.Test.YtadfcljoocjhdaaGreatWth
set_option linter.unusedVariables false
set_option linter.unusedSimpArgs false
set_option linter.unusedSectionVars false
set_option linter.unnecessarySimpa false
set_option maxRecDepth 100000
namespace Go.Proofs
open Go.AM
namespace YtadfcljoocjhdaaGreat
variable {Gl : Globs}
def tabL (t : TraceT) : List Int := [knownF (sliceF t.slices) (hasT t.threads) (fun x => x.thread) t.slices, stateF t.threads t.states, knownF (flowF t.flows) (hasT t.threads) (fun x => x.ft) t.flows,
 knownF (knownF (flowF t.flows) (hasT t.threads) (fun x => x.ft) t.flows) (hasT t.threads) (fun x => x.tt) t.flows, knownF (sampleF t.samples) (hasT t.threads) (fun x => x.thread) t.samples, stepF t.steps, knownF (bkF t.blocks) (hasT t.threads) (fun x => x.thread) t.blocks, lossF (hasT t.threads) t.lost]
def tablesF (t : TraceT) : Int := if threadsF t.threads ≠ 0 then threadsF t.threads else
 if knownF (sliceF t.slices) (hasT t.threads) (fun x => x.thread) t.slices ≠ 0 then knownF (sliceF t.slices) (hasT t.threads) (fun x => x.thread) t.slices else
 if stateF t.threads t.states ≠ 0 then stateF t.threads t.states else
 if knownF (knownF (flowF t.flows) (hasT t.threads) (fun x => x.ft) t.flows) (hasT t.threads) (fun x => x.tt) t.flows ≠ 0 then knownF (knownF (flowF t.flows) (hasT t.threads) (fun x => x.ft) t.flows) (hasT t.threads) (fun x => x.tt) t.flows else
 if knownF (sampleF t.samples) (hasT t.threads) (fun x => x.thread) t.samples ≠ 0 then knownF (sampleF t.samples) (hasT t.threads) (fun x => x.thread) t.samples else
 if stepF t.steps ≠ 0 then stepF t.steps else
 if knownF (bkF t.blocks) (hasT t.threads) (fun x => x.thread) t.blocks ≠ 0 then knownF (bkF t.blocks) (hasT t.threads) (fun x => x.thread) t.blocks else lossF (hasT t.threads) t.lost
theorem k_threads_bad (t : TraceT) (ht : t.Few) (h : threadsF t.threads ≠ 0) : Pure Tryz.prog Gl 95 [.d t.toD] (.tup [.d (.raw (.map none)), .d (.int .i64 (threadsF t.threads))]) := by
 refine Pure.of1t2 ((k_threads t ht).mono fun r s hr => ?_)
 rw [if_neg h] at hr
 exact hr
theorem k_threads_ok (t : TraceT) (ht : t.Few) (h : threadsF t.threads = 0) (σ : Sto) : ACalls Tryz.prog Gl 95 [.d t.toD] σ (fun r s => r = .tup [.mapr σ.length, .d (.int .i64 0)] ∧ s = σ ++ [.map (some .i64) (mapOf t.threads)]) := by
 refine (fresh_blk (P := Tryz.prog) (Gl := Gl) (f := 95) (args := [t.toD]) (B := .map (some .i64) (mapOf t.threads)) (r := .tup [.mapr 0, .d (.int .i64 0)]) (mapOf_still0 _) ((k_threads t ht).mono fun r s hr => ?_) σ).mono fun r s hr => ?_
 ·rw [if_pos h] at hr
  exact hr
 ·obtain ⟨rfl, rfl⟩ := hr
  exact ⟨rfl, rfl⟩
theorem k_tables (t : TraceT) (ht : t.Few) : Pure Tryz.prog Gl 83 [.d t.toD] (.d (.int .i64 (tablesF t))) := by
 refine Pure.of1 ?_
 obtain ⟨F, hF⟩ : ∃ F, F = tablesF t := ⟨_, rfl⟩
 rw [← hF]
 rw [tablesF] at hF
 have hst := mapOf_still0 t.threads
 have hf := mapOf_isSome t.threads
 refine acalls_of Tryz.func83 rfl rfl (by simp [Tryz.ntmps83]) (evC_sound rfl _ _ _ _ ?_)
 simp only [Tryz.ntmps83, Tryz.results83, argEnv, List.length_nil]
 simp only [zC, seval, implies_true, Nat.reduceLeDiff, Nat.reduceEqDiff, reduceCtorEq, reduceIte]
 by_cases hT : threadsF t.threads = 0
 ·rw [if_neg (by rw [hT]; simp)] at hF
  refine callF_go ((k_threads_ok t ht hT _).mono fun r s hr => ?_)
  obtain ⟨rfl, rfl⟩ := hr
  simp only [zC, seval, implies_true, Nat.reduceLeDiff, Nat.reduceEqDiff, reduceCtorEq, reduceIte]
  repeat ((with_reducible refine And.intro ?_ ?_); (focus (first | omega | (simp only [lenR]; omega) | (refine qq ?_; rfl) | (refine dq ?_; kernel_rfl) | (intros; simp_all; done))))
  refine callF_pure (k_sliceCheck _ ht.slices) ?_
  simp only [zC, seval, implies_true, Nat.reduceLeDiff, Nat.reduceEqDiff, reduceCtorEq, reduceIte]
  refine callF_blk1 1 (k_knownSlice _ _ k_tables1 _ _ _ hst hf _ ht.slices) (fun s => rfl) (by rfl) hst ?_
  simp only [zC, seval, implies_true, Nat.reduceLeDiff, Nat.reduceEqDiff, reduceCtorEq, reduceIte]
  repeat ((with_reducible refine And.intro ?_ ?_); (focus (first | omega | (simp only [lenR]; omega) | (refine qq ?_; rfl) | (refine dq ?_; kernel_rfl) | (intros; simp_all; done))))
  refine ifC.mk (fun h1 => ?_) (fun h1 => ?_)
  ·have h1 := bne_iff_ne.1 h1
   refine ⟨_, _, ret_d, ?_, rfl⟩
   rw [hF, if_pos h1]
  ·have h1 : knownF (sliceF t.slices) (hasT t.threads) (fun x => x.thread) t.slices = 0 := by simpa using h1
   rw [if_neg (by rw [h1]; simp)] at hF
   repeat ((with_reducible refine And.intro ?_ ?_); (focus (first | omega | (simp only [lenR]; omega) | (refine qq ?_; rfl) | (refine dq ?_; kernel_rfl) | (intros; simp_all; done))))
   refine callF_pure (k_stateCheck _ ht.threads _ ht.states) ?_
   simp only [zC, seval, implies_true, Nat.reduceLeDiff, Nat.reduceEqDiff, reduceCtorEq, reduceIte]
   refine ifC.mk (fun h2 => ?_) (fun h2 => ?_)
   ·have h2 := bne_iff_ne.1 h2
    refine ⟨_, _, ret_d, ?_, rfl⟩
    rw [hF, if_pos h2]
   ·have h2 : stateF t.threads t.states = 0 := by simpa using h2
    rw [if_neg (by rw [h2]; simp)] at hF
    repeat ((with_reducible refine And.intro ?_ ?_); (focus (first | omega | (simp only [lenR]; omega) | (refine qq ?_; rfl) | (refine dq ?_; kernel_rfl) | (intros; simp_all; done))))
    refine callF_pure (k_flowCheck _ ht.flows) ?_
    simp only [zC, seval, implies_true, Nat.reduceLeDiff, Nat.reduceEqDiff, reduceCtorEq, reduceIte]
    refine callF_blk1 1 (k_knownFlow _ _ k_tables2 _ _ _ hst hf _ ht.flows) (fun s => rfl) (by rfl) hst ?_
    simp only [zC, seval, implies_true, Nat.reduceLeDiff, Nat.reduceEqDiff, reduceCtorEq, reduceIte]
    repeat ((with_reducible refine And.intro ?_ ?_); (focus (first | omega | (simp only [lenR]; omega) | (refine qq ?_; rfl) | (refine dq ?_; kernel_rfl) | (intros; simp_all; done))))
    refine callF_blk1 1 (k_knownFlow _ _ k_tables3 _ _ _ hst hf _ ht.flows) (fun s => rfl) (by rfl) hst ?_
    simp only [zC, seval, implies_true, Nat.reduceLeDiff, Nat.reduceEqDiff, reduceCtorEq, reduceIte]
    repeat ((with_reducible refine And.intro ?_ ?_); (focus (first | omega | (simp only [lenR]; omega) | (refine qq ?_; rfl) | (refine dq ?_; kernel_rfl) | (intros; simp_all; done))))
    refine ifC.mk (fun h3 => ?_) (fun h3 => ?_)
    ·have h3 := bne_iff_ne.1 h3
     refine ⟨_, _, ret_d, ?_, rfl⟩
     rw [hF, if_pos h3]
    ·have h3 : knownF (knownF (flowF t.flows) (hasT t.threads) (fun x => x.ft) t.flows) (hasT t.threads) (fun x => x.tt) t.flows = 0 := by simpa using h3
     rw [if_neg (by rw [h3]; simp)] at hF
     repeat ((with_reducible refine And.intro ?_ ?_); (focus (first | omega | (simp only [lenR]; omega) | (refine qq ?_; rfl) | (refine dq ?_; kernel_rfl) | (intros; simp_all; done))))
     refine callF_pure (k_sampleCheck _ ht.sst ht.samples) ?_
     simp only [zC, seval, implies_true, Nat.reduceLeDiff, Nat.reduceEqDiff, reduceCtorEq, reduceIte]
     refine callF_blk1 1 (k_knownSample _ _ k_tables4 _ _ _ hst hf _ ht.samples) (fun s => rfl) (by rfl) hst ?_
     simp only [zC, seval, implies_true, Nat.reduceLeDiff, Nat.reduceEqDiff, reduceCtorEq, reduceIte]
     repeat ((with_reducible refine And.intro ?_ ?_); (focus (first | omega | (simp only [lenR]; omega) | (refine qq ?_; rfl) | (refine dq ?_; kernel_rfl) | (intros; simp_all; done))))
     refine ifC.mk (fun h4 => ?_) (fun h4 => ?_)
     ·have h4 := bne_iff_ne.1 h4
      refine ⟨_, _, ret_d, ?_, rfl⟩
      rw [hF, if_pos h4]
     ·have h4 : knownF (sampleF t.samples) (hasT t.threads) (fun x => x.thread) t.samples = 0 := by simpa using h4
      rw [if_neg (by rw [h4]; simp)] at hF
      repeat ((with_reducible refine And.intro ?_ ?_); (focus (first | omega | (simp only [lenR]; omega) | (refine qq ?_; rfl) | (refine dq ?_; kernel_rfl) | (intros; simp_all; done))))
      refine callF_pure (k_stepCheck _ ht.steps) ?_
      simp only [zC, seval, implies_true, Nat.reduceLeDiff, Nat.reduceEqDiff, reduceCtorEq, reduceIte]
      refine ifC.mk (fun h5 => ?_) (fun h5 => ?_)
      ·have h5 := bne_iff_ne.1 h5
       refine ⟨_, _, ret_d, ?_, rfl⟩
       rw [hF, if_pos h5]
      ·have h5 : stepF t.steps = 0 := by simpa using h5
       rw [if_neg (by rw [h5]; simp)] at hF
       repeat ((with_reducible refine And.intro ?_ ?_); (focus (first | omega | (simp only [lenR]; omega) | (refine qq ?_; rfl) | (refine dq ?_; kernel_rfl) | (intros; simp_all; done))))
       refine callF_pure (k_bkCheck _ ht.bst ht.blocks) ?_
       simp only [zC, seval, implies_true, Nat.reduceLeDiff, Nat.reduceEqDiff, reduceCtorEq, reduceIte]
       refine callF_blk1 1 (k_knownBlock _ _ k_tables5 _ _ _ hst hf _ ht.blocks) (fun s => rfl) (by rfl) hst ?_
       simp only [zC, seval, implies_true, Nat.reduceLeDiff, Nat.reduceEqDiff, reduceCtorEq, reduceIte]
       repeat ((with_reducible refine And.intro ?_ ?_); (focus (first | omega | (simp only [lenR]; omega) | (refine qq ?_; rfl) | (refine dq ?_; kernel_rfl) | (intros; simp_all; done))))
       refine ifC.mk (fun h6 => ?_) (fun h6 => ?_)
       ·have h6 := bne_iff_ne.1 h6
        refine ⟨_, _, ret_d, ?_, rfl⟩
        rw [hF, if_pos h6]
       ·have h6 : knownF (bkF t.blocks) (hasT t.threads) (fun x => x.thread) t.blocks = 0 := by simpa using h6
        rw [if_neg (by rw [h6]; simp)] at hF
        repeat ((with_reducible refine And.intro ?_ ?_); (focus (first | omega | (simp only [lenR]; omega) | (refine qq ?_; rfl) | (refine dq ?_; kernel_rfl) | (intros; simp_all; done))))
        refine callF_blk1 1 (k_losses _ _ hst hf _ ht.lost) (fun s => rfl) (by rfl) hst ?_
        simp only [zC, seval, implies_true, Nat.reduceLeDiff, Nat.reduceEqDiff, reduceCtorEq, reduceIte]
        repeat ((with_reducible refine And.intro ?_ ?_); (focus (first | omega | (simp only [lenR]; omega) | (refine qq ?_; rfl) | (refine dq ?_; kernel_rfl) | (intros; simp_all; done))))
        refine ⟨_, _, ret_d, ?_, rfl⟩
        rw [hF]
 ·rw [if_pos hT] at hF
  refine callF_pure (k_threads_bad t ht hT) ?_
  simp only [zC, seval, implies_true, Nat.reduceLeDiff, Nat.reduceEqDiff, reduceCtorEq, reduceIte]
  repeat ((with_reducible refine And.intro ?_ ?_); (focus (first | omega | (simp only [lenR]; omega) | (refine qq ?_; rfl) | (refine dq ?_; kernel_rfl) | (intros; simp_all; done))))
  refine ifC.mk (fun h1 => ?_) (fun h1 => ?_)
  ·refine ⟨_, _, ret_d, ?_, rfl⟩
   rw [hF]
  ·exact absurd (by simpa using h1) hT
def traceF (t : TraceT) : Int := if tablesF t ≠ 0 then tablesF t else if (decide (t.lo < 0) || decide (t.hi < t.lo) || decide (1000000000000 < t.hi)) = true then 2 else if outsideF t = true then 10 else 0
theorem k_traceCheck (t : TraceT) (ht : t.Few) : Pure Tryz.prog Gl 43 [.d t.toD] (.d (.int .i64 (traceF t))) := by
 refine Pure.of1 ?_
 obtain ⟨F, hF⟩ : ∃ F, F = traceF t := ⟨_, rfl⟩
 rw [← hF]
 rw [traceF] at hF
 refine acalls_of Tryz.func43 rfl rfl (by simp [Tryz.ntmps43]) (evC_sound rfl _ _ _ _ ?_)
 simp only [Tryz.ntmps43, Tryz.results43, argEnv, List.length_nil]
 simp only [zC, seval, implies_true, Nat.reduceLeDiff, Nat.reduceEqDiff, reduceCtorEq, reduceIte]
 refine callF_pure (k_tables t ht) ?_
 simp only [zC, seval, implies_true, Nat.reduceLeDiff, Nat.reduceEqDiff, reduceCtorEq, reduceIte]
 refine ifC.mk (fun h1 => ?_) (fun h1 => ?_)
 ·have h1 := bne_iff_ne.1 h1
  refine ⟨_, _, ret_d, ?_, rfl⟩
  rw [hF, if_pos h1]
 ·have h1 : tablesF t = 0 := by simpa using h1
  rw [if_neg (by rw [h1]; simp)] at hF
  repeat ((with_reducible refine And.intro ?_ ?_); (focus (first | omega | (simp only [lenR]; omega) | (refine qq ?_; rfl) | (refine dq ?_; kernel_rfl) | (intros; simp_all; done))))
  refine ifC.mk (fun h2 => ?_) (fun h2 => ?_)
  ·refine ⟨_, _, ret_d, ?_, rfl⟩
   rw [hF, if_pos h2]
  ·rw [if_neg (by rw [h2]; simp)] at hF
   refine callF_pure (k_outside t ht) ?_
   simp only [zC, seval, implies_true, Nat.reduceLeDiff, Nat.reduceEqDiff, reduceCtorEq, reduceIte]
   refine ifC.mk (fun h3 => ?_) (fun h3 => ?_)
   ·refine ⟨_, _, ret_d, ?_, rfl⟩
    rw [hF, if_pos h3]
   ·refine ⟨_, _, ret_d, ?_, rfl⟩
    rw [hF, if_neg (by rw [h3]; simp)]
end YtadfcljoocjhdaaGreat
end Go.Proofs
