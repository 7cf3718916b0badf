/- A part of the proof: contracts of functions of this seat, and lemmas. No condition beyond those stated. -/
import Derived.Test.YtadfcljoocjhdaaGreatWtd
set_option linter.unusedVariables false
set_option linter.unusedSimpArgs false
set_option linter.unusedSectionVars false
set_option linter.unnecessarySimpa false
set_option maxRecDepth 100000
namespace Go.Proofs
open Go.AM
namespace YtadfcljoocjhdaaGreat
variable {Gl : Globs}
def badN (n m : Int) : Bool := decide (n < 0) || decide (m < n)
theorem k_bad (n m : Int) : Pure Tryz.prog Gl 147 [.d (.int .i64 n), .d (.int .i64 m)] (.d (.bool (badN n m))) := by
 refine Pure.of2 ?_
 refine acalls_of Tryz.func147 rfl rfl (by simp [Tryz.ntmps147]) (evC_sound rfl _ _ _ _ ?_)
 simp only [Tryz.ntmps147, Tryz.results147, argEnv, List.length_nil]
 simp only [zC, seval, implies_true, Nat.reduceLeDiff, Nat.reduceEqDiff, reduceCtorEq, reduceIte]
 exact ⟨_, _, ret_d, rfl, rfl⟩
def badFl (f : FlowT) : Bool := badN f.id 1000000000000000 || badN f.ft 1000000000000000 || badN f.fs 1000000000000000 || badN f.tt 1000000000000000 || badN f.ts 1000000000000000 || badN f.send 1000000000000 || badN f.recv 1000000000000
def ordFl (l : List FlowT) (k : Nat) : Bool := decide ((l.getD k default).recv < (l.getD k default).send) || (decide (0 < k) && decide ((l.getD k default).recv < (l.getD (k - 1) default).recv))
def flAt (l : List FlowT) (k : Nat) : Int := if badFl (l.getD k default) = true then 2 else if ordFl l k = true then 11 else 0
def flowF (l : List FlowT) : Int := firstErr (flAt l) l.length
theorem flAt_bad {l : List FlowT} {k : Nat} (h : badFl (l.getD k default) = true) : flAt l k = 2 := by rw [flAt, if_pos h]
theorem flAt_ok {l : List FlowT} {k : Nat} (h : badFl (l.getD k default) = false) : flAt l k = if ordFl l k = true then 11 else 0 := by rw [flAt, if_neg (by rw [h]; simp)]
set_option maxHeartbeats 2000000 in
theorem k_flowCheck (l : List FlowT) (hl : l.length < 1000000) : Pure Tryz.prog Gl 101 [.d (.sl (l.map FlowT.toD))] (.d (.int .i64 (flowF l))) := by
 refine Pure.of1 ?_
 refine acalls_of Tryz.func101 rfl rfl (by simp [Tryz.ntmps101]) (evC_sound rfl _ _ _ _ ?_)
 simp only [Tryz.ntmps101, Tryz.results101, argEnv, List.length_nil]
 simp only [zC, seval, implies_true, Nat.reduceLeDiff, Nat.reduceEqDiff, reduceCtorEq, reduceIte]
 refine for_of l.length (fun k => [(0, .d (.sl (l.map FlowT.toD))), (5, .d (.sl (l.map FlowT.toD))), (6, .d (.int .i64 l.length)), (7, .d (.int .i64 k))]) (fun _ => []) (fun k => firstErr (flAt l) k = 0) rfl ?_ ?_
 ·refine weak_to [] [] rfl List.nodup_nil ?_ rfl
  simp only [zC, seval, implies_true, Nat.reduceLeDiff, Nat.reduceEqDiff, reduceCtorEq, reduceIte, Int.cast_ofNat_Int]
 ·intro k hi hk
  by_cases h : k < l.length
  ·have hb : ∀ e, flAt l k = e → e ≠ 0 → flowF l = e := fun e h1 h2 => by rw [flowF, firstErr_at hi (by rw [h1]; exact h2) h, h1]
   obtain ⟨b, eb⟩ : ∃ b, b = l.getD k default := ⟨_, rfl⟩
   simp only [zC, seval, implies_true, Nat.reduceLeDiff, Nat.reduceEqDiff, reduceCtorEq, reduceIte, (show (k:Int) < l.length by omega), h, a_getD _ _ _ (show k < l.length by omega), ← eb]
   repeat ((with_reducible refine And.intro ?_ ?_); (focus (first | omega | (simp only [lenR]; omega) | (refine qq ?_; rfl) | (refine dq ?_; kernel_rfl) | (intros; simp_all; done))))
   refine callF_pure (k_bad _ _) ?_
   cases h1 : badN b.id 1000000000000000 with
   | true =>
    simp only [zC, seval, implies_true, Nat.reduceLeDiff, Nat.reduceEqDiff, reduceCtorEq, reduceIte]
    refine ⟨_, _, ret_d, ?_, rfl⟩
    rw [hb 2 (flAt_bad (by rw [← eb]; clear eb hi hb; simp only [badFl, *]; rfl)) (by omega)]
   | false =>
    simp only [zC, seval, implies_true, Nat.reduceLeDiff, Nat.reduceEqDiff, reduceCtorEq, reduceIte]
    refine callF_pure (k_bad _ _) ?_
    cases h2 : badN b.ft 1000000000000000 with
    | true =>
     simp only [zC, seval, implies_true, Nat.reduceLeDiff, Nat.reduceEqDiff, reduceCtorEq, reduceIte]
     refine ⟨_, _, ret_d, ?_, rfl⟩
     rw [hb 2 (flAt_bad (by rw [← eb]; clear eb hi hb; simp only [badFl, *]; rfl)) (by omega)]
    | false =>
     simp only [zC, seval, implies_true, Nat.reduceLeDiff, Nat.reduceEqDiff, reduceCtorEq, reduceIte]
     refine callF_pure (k_bad _ _) ?_
     cases h3 : badN b.fs 1000000000000000 with
     | true =>
      simp only [zC, seval, implies_true, Nat.reduceLeDiff, Nat.reduceEqDiff, reduceCtorEq, reduceIte]
      refine ⟨_, _, ret_d, ?_, rfl⟩
      rw [hb 2 (flAt_bad (by rw [← eb]; clear eb hi hb; simp only [badFl, *]; rfl)) (by omega)]
     | false =>
      simp only [zC, seval, implies_true, Nat.reduceLeDiff, Nat.reduceEqDiff, reduceCtorEq, reduceIte]
      refine callF_pure (k_bad _ _) ?_
      cases h4 : badN b.tt 1000000000000000 with
      | true =>
       simp only [zC, seval, implies_true, Nat.reduceLeDiff, Nat.reduceEqDiff, reduceCtorEq, reduceIte]
       refine ⟨_, _, ret_d, ?_, rfl⟩
       rw [hb 2 (flAt_bad (by rw [← eb]; clear eb hi hb; simp only [badFl, *]; rfl)) (by omega)]
      | false =>
       simp only [zC, seval, implies_true, Nat.reduceLeDiff, Nat.reduceEqDiff, reduceCtorEq, reduceIte]
       refine callF_pure (k_bad _ _) ?_
       cases h5 : badN b.ts 1000000000000000 with
       | true =>
        simp only [zC, seval, implies_true, Nat.reduceLeDiff, Nat.reduceEqDiff, reduceCtorEq, reduceIte]
        refine ⟨_, _, ret_d, ?_, rfl⟩
        rw [hb 2 (flAt_bad (by rw [← eb]; clear eb hi hb; simp only [badFl, *]; rfl)) (by omega)]
       | false =>
        simp only [zC, seval, implies_true, Nat.reduceLeDiff, Nat.reduceEqDiff, reduceCtorEq, reduceIte]
        refine callF_pure (k_bad _ _) ?_
        cases h6 : badN b.send 1000000000000 with
        | true =>
         simp only [zC, seval, implies_true, Nat.reduceLeDiff, Nat.reduceEqDiff, reduceCtorEq, reduceIte]
         refine ⟨_, _, ret_d, ?_, rfl⟩
         rw [hb 2 (flAt_bad (by rw [← eb]; clear eb hi hb; simp only [badFl, *]; rfl)) (by omega)]
        | false =>
         simp only [zC, seval, implies_true, Nat.reduceLeDiff, Nat.reduceEqDiff, reduceCtorEq, reduceIte]
         refine callF_pure (k_bad _ _) ?_
         cases h7 : badN b.recv 1000000000000 with
         | true =>
          simp only [zC, seval, implies_true, Nat.reduceLeDiff, Nat.reduceEqDiff, reduceCtorEq, reduceIte]
          refine ⟨_, _, ret_d, ?_, rfl⟩
          rw [hb 2 (flAt_bad (by rw [← eb]; clear eb hi hb; simp only [badFl, *]; rfl)) (by omega)]
         | false =>
          simp only [zC, seval, implies_true, Nat.reduceLeDiff, Nat.reduceEqDiff, reduceCtorEq, reduceIte]
          have ho := flAt_ok (l := l) (k := k) (by rw [← eb]; clear eb hi hb; simp only [badFl, *]; rfl)
          rw [ordFl, ← eb] at ho
          cases h8 : decide (b.recv < b.send) with
          | true =>
           simp only [zC, seval, implies_true, Nat.reduceLeDiff, Nat.reduceEqDiff, reduceCtorEq, reduceIte]
           refine ⟨_, _, ret_d, ?_, rfl⟩
           rw [h8, Bool.true_or, if_pos rfl] at ho
           rw [hb 11 ho (by omega)]
          | false =>
           simp only [zC, seval, implies_true, Nat.reduceLeDiff, Nat.reduceEqDiff, reduceCtorEq, reduceIte]
           rw [h8, Bool.false_or] at ho
           by_cases hk0 : 0 < k
           ·have e1 : IntKind.i64.wrap ((k : Int) - 1) = ((k - 1 : Nat) : Int) := by rw [wrap64 (by omega) (by omega)]; omega
            obtain ⟨a, ea⟩ : ∃ a, a = l.getD (k - 1) default := ⟨_, rfl⟩
            rw [decide_eq_true hk0, Bool.true_and, ← ea] at ho
            (try simp only [zC, seval, implies_true, Nat.reduceLeDiff, Nat.reduceEqDiff, reduceCtorEq, reduceIte, (show (0:Int) < k by omega), e1, (show ((k - 1 : Nat) : Int) < l.length by omega), (show k - 1 < l.length by omega), a_getD _ _ _ (show k - 1 < l.length by omega), ← ea])
            repeat ((with_reducible refine And.intro ?_ ?_); (focus (first | omega | (simp only [lenR]; omega) | (refine qq ?_; rfl) | (refine dq ?_; kernel_rfl) | (intros; simp_all; done))))
            refine ifC.mk (fun h9 => ?_) (fun h9 => ?_)
            ·refine ⟨_, _, ret_d, ?_, rfl⟩
             rw [if_pos h9] at ho
             rw [hb 11 ho (by omega)]
            ·rw [if_neg (by rw [h9]; simp)] at ho
             refine ⟨firstErr_step hi ho, ?_⟩
             refine weak_to [] [] rfl List.nodup_nil ?_ rfl
             simp only [zC, seval, implies_true, Nat.reduceLeDiff, Nat.reduceEqDiff, reduceCtorEq, reduceIte, @a_wrap ((k:Int) + 1) (by omega)]
           ·rw [decide_eq_false hk0, Bool.false_and, if_neg (by simp)] at ho
            have e0 : (IntKind.i64.wrap ((k : Int) - 1)).toNat = 0 := by rw [wrap64 (by omega) (by omega)]; omega
            (try simp only [zC, seval, implies_true, Nat.reduceLeDiff, Nat.reduceEqDiff, reduceCtorEq, reduceIte, (show ¬ (0:Int) < k by omega), e0, a_getD _ _ _ (show 0 < l.length by omega)])
            repeat ((with_reducible refine And.intro ?_ ?_); (focus (first | omega | (simp only [lenR]; omega) | (refine qq ?_; rfl) | (refine dq ?_; kernel_rfl) | (intros; simp_all; done))))
            refine ⟨firstErr_step hi ho, ?_⟩
            refine weak_to [] [] rfl List.nodup_nil ?_ rfl
            simp only [zC, seval, implies_true, Nat.reduceLeDiff, Nat.reduceEqDiff, reduceCtorEq, reduceIte, @a_wrap ((k:Int) + 1) (by omega)]
  ·simp only [zC, seval, implies_true, Nat.reduceLeDiff, Nat.reduceEqDiff, reduceCtorEq, reduceIte, (show ¬ (k:Int) < l.length by omega)]
   refine ⟨_, _, ret_d, ?_, rfl⟩
   have : k = l.length := by omega
   rw [flowF, ← this, hi]
def goodSm (s : SampleT) : Bool := decide (0 ≤ s.thread) && decide (s.thread ≤ 1000000000000000) && decide (0 ≤ s.at_) && decide (s.at_ ≤ 1000000000000) && decide (1 ≤ s.weight) && decide (s.weight ≤ 1000000000000)
theorem k_good (s : SampleT) : Pure Tryz.prog Gl 148 [.d s.toD] (.d (.bool (goodSm s))) := by
 refine Pure.of1 ?_
 refine acalls_of Tryz.func148 rfl rfl (by simp [Tryz.ntmps148]) (evC_sound rfl _ _ _ _ ?_)
 simp only [Tryz.ntmps148, Tryz.results148, argEnv, List.length_nil]
 simp only [zC, seval, implies_true, Nat.reduceLeDiff, Nat.reduceEqDiff, reduceCtorEq, reduceIte]
 exact ⟨_, _, ret_d, rfl, rfl⟩
def smAt (l : List SampleT) (k : Nat) : Int := if goodSm (l.getD k default) = false then 2 else if framesF (l.getD k default).stack ≠ 0 then framesF (l.getD k default).stack
 else if (decide (0 < k) && decide ((l.getD k default).at_ < (l.getD (k - 1) default).at_)) = true then 11 else 0
def sampleF (l : List SampleT) : Int := firstErr (smAt l) l.length
theorem smAt_bad {l : List SampleT} {k : Nat} (h : goodSm (l.getD k default) = false) : smAt l k = 2 := by rw [smAt, if_pos h]
theorem smAt_fr {l : List SampleT} {k : Nat} (h : goodSm (l.getD k default) = true) (h2 : framesF (l.getD k default).stack ≠ 0) : smAt l k = framesF (l.getD k default).stack := by rw [smAt, if_neg (by rw [h]; simp), if_pos h2]
theorem smAt_ok {l : List SampleT} {k : Nat} (h : goodSm (l.getD k default) = true) (h2 : framesF (l.getD k default).stack = 0) : smAt l k = if (decide (0 < k) && decide ((l.getD k default).at_ < (l.getD (k - 1) default).at_)) = true then 11 else 0 := by rw [smAt, if_neg (by rw [h]; simp), if_neg (by rw [h2]; simp)]
theorem k_sampleCheck (l : List SampleT) (hs : ∀ x ∈ l, x.stack.length < 1000000) (hl : l.length < 1000000) : Pure Tryz.prog Gl 105 [.d (.sl (l.map SampleT.toD))] (.d (.int .i64 (sampleF l))) := by
 refine Pure.of1 ?_
 refine acalls_of Tryz.func105 rfl rfl (by simp [Tryz.ntmps105]) (evC_sound rfl _ _ _ _ ?_)
 simp only [Tryz.ntmps105, Tryz.results105, argEnv, List.length_nil]
 simp only [zC, seval, implies_true, Nat.reduceLeDiff, Nat.reduceEqDiff, reduceCtorEq, reduceIte]
 refine for_of l.length (fun k => [(0, .d (.sl (l.map SampleT.toD))), (6, .d (.sl (l.map SampleT.toD))), (7, .d (.int .i64 l.length)), (8, .d (.int .i64 k))]) (fun _ => []) (fun k => firstErr (smAt l) k = 0) rfl ?_ ?_
 ·refine weak_to [] [] rfl List.nodup_nil ?_ rfl
  simp only [zC, seval, implies_true, Nat.reduceLeDiff, Nat.reduceEqDiff, reduceCtorEq, reduceIte, Int.cast_ofNat_Int]
 ·intro k hi hk
  by_cases h : k < l.length
  ·have hb : ∀ e, smAt l k = e → e ≠ 0 → sampleF l = e := fun e h1 h2 => by rw [sampleF, firstErr_at hi (by rw [h1]; exact h2) h, h1]
   obtain ⟨b, eb⟩ : ∃ b, b = l.getD k default := ⟨_, rfl⟩
   simp only [zC, seval, implies_true, Nat.reduceLeDiff, Nat.reduceEqDiff, reduceCtorEq, reduceIte, (show (k:Int) < l.length by omega), h, a_getD _ _ _ (show k < l.length by omega), ← eb]
   repeat ((with_reducible refine And.intro ?_ ?_); (focus (first | omega | (simp only [lenR]; omega) | (refine qq ?_; rfl) | (refine dq ?_; kernel_rfl) | (intros; simp_all; done))))
   refine callF_pure (k_good _) ?_
   simp only [zC, seval, implies_true, Nat.reduceLeDiff, Nat.reduceEqDiff, reduceCtorEq, reduceIte]
   refine ifC.mk (fun h1 => ?_) (fun h1 => ?_)
   ·refine ⟨_, _, ret_d, ?_, rfl⟩
    rw [hb 2 (smAt_bad (by rw [← eb]; simpa using h1)) (by omega)]
   ·have h1 : goodSm (l.getD k default) = true := by rw [← eb]; simpa using h1
    repeat ((with_reducible refine And.intro ?_ ?_); (focus (first | omega | (simp only [lenR]; omega) | (refine qq ?_; rfl) | (refine dq ?_; kernel_rfl) | (intros; simp_all; done))))
    refine callF_pure (k_Frames _ (by rw [eb]; exact hs _ (mem_getD h))) ?_
    simp only [zC, seval, implies_true, Nat.reduceLeDiff, Nat.reduceEqDiff, reduceCtorEq, reduceIte]
    refine ifC.mk (fun h2 => ?_) (fun h2 => ?_)
    ·have h2 : framesF (l.getD k default).stack ≠ 0 := by rw [← eb]; simpa using h2
     refine ⟨_, _, ret_d, ?_, rfl⟩
     rw [hb _ (smAt_fr h1 h2) h2, eb]
    ·have ho := smAt_ok h1 (by rw [← eb]; simpa using h2)
     rw [← eb] at ho
     by_cases hk0 : 0 < k
     ·have e1 : IntKind.i64.wrap ((k : Int) - 1) = ((k - 1 : Nat) : Int) := by rw [wrap64 (by omega) (by omega)]; omega
      obtain ⟨a, ea⟩ : ∃ a, a = l.getD (k - 1) default := ⟨_, rfl⟩
      rw [decide_eq_true hk0, Bool.true_and, ← ea] at ho
      (try simp only [zC, seval, implies_true, Nat.reduceLeDiff, Nat.reduceEqDiff, reduceCtorEq, reduceIte, (show (0:Int) < k by omega), e1, (show ((k - 1 : Nat) : Int) < l.length by omega), (show k - 1 < l.length by omega), a_getD _ _ _ (show k - 1 < l.length by omega), ← ea])
      repeat ((with_reducible refine And.intro ?_ ?_); (focus (first | omega | (simp only [lenR]; omega) | (refine qq ?_; rfl) | (refine dq ?_; kernel_rfl) | (intros; simp_all; done))))
      refine ifC.mk (fun h9 => ?_) (fun h9 => ?_)
      ·refine ⟨_, _, ret_d, ?_, rfl⟩
       rw [if_pos h9] at ho
       rw [hb 11 ho (by omega)]
      ·rw [if_neg (by rw [h9]; simp)] at ho
       refine ⟨firstErr_step hi ho, ?_⟩
       refine weak_to [] [] rfl List.nodup_nil ?_ rfl
       simp only [zC, seval, implies_true, Nat.reduceLeDiff, Nat.reduceEqDiff, reduceCtorEq, reduceIte, @a_wrap ((k:Int) + 1) (by omega)]
     ·rw [decide_eq_false hk0, Bool.false_and, if_neg (by simp)] at ho
      have e0 : (IntKind.i64.wrap ((k : Int) - 1)).toNat = 0 := by rw [wrap64 (by omega) (by omega)]; omega
      (try simp only [zC, seval, implies_true, Nat.reduceLeDiff, Nat.reduceEqDiff, reduceCtorEq, reduceIte, (show ¬ (0:Int) < k by omega), e0, a_getD _ _ _ (show 0 < l.length by omega)])
      repeat ((with_reducible refine And.intro ?_ ?_); (focus (first | omega | (simp only [lenR]; omega) | (refine qq ?_; rfl) | (refine dq ?_; kernel_rfl) | (intros; simp_all; done))))
      refine ⟨firstErr_step hi ho, ?_⟩
      refine weak_to [] [] rfl List.nodup_nil ?_ rfl
      simp only [zC, seval, implies_true, Nat.reduceLeDiff, Nat.reduceEqDiff, reduceCtorEq, reduceIte, @a_wrap ((k:Int) + 1) (by omega)]
  ·simp only [zC, seval, implies_true, Nat.reduceLeDiff, Nat.reduceEqDiff, reduceCtorEq, reduceIte, (show ¬ (k:Int) < l.length by omega)]
   refine ⟨_, _, ret_d, ?_, rfl⟩
   have : k = l.length := by omega
   rw [sampleF, ← this, hi]
end YtadfcljoocjhdaaGreat
end Go.Proofs
