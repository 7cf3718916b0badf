/- A part of the proof: contracts of functions of this seat, and lemmas. No condition beyond those stated. -/
import Derived.Test.YtadfcljoocjhdaaGreatWtp
set_option linter.unusedVariables false
set_option linter.unusedSimpArgs false
set_option linter.unusedSectionVars false
set_option linter.unnecessarySimpa false
set_option maxRecDepth 100000
namespace Go.Proofs
open Go.AM
namespace YtadfcljoocjhdaaGreat
variable {Gl : Globs}
theorem k_RsliceCheck (l : List SliceT) (hl : l.length < 1000000) : Pure Tryz.prog Gl 127 [.d (.sl (l.map SliceT.toD))] (.d (.int .i64 (sliceF l))) := by
 refine Pure.of1 ?_
 refine acalls_of Tryz.func127 rfl rfl (by simp [Tryz.ntmps127]) (evC_sound rfl _ _ _ _ ?_)
 simp only [Tryz.ntmps127, Tryz.results127, argEnv, List.length_nil]
 simp only [zC, seval, implies_true, Nat.reduceLeDiff, Nat.reduceEqDiff, reduceCtorEq, reduceIte]
 refine for_of l.length (fun k => [(0, .d (.sl (l.map SliceT.toD))), (3, .d (.int .i64 k))]) (fun _ => []) (fun k => firstErr (slAt l) k = 0) rfl ?_ ?_
 ·refine weak_to [] [] rfl List.nodup_nil ?_ rfl
  simp only [zC, seval, implies_true, Nat.reduceLeDiff, Nat.reduceEqDiff, reduceCtorEq, reduceIte, Int.cast_ofNat_Int]
 ·intro k hi hk
  by_cases h : k < l.length
  ·have hb : ∀ e, slAt l k = e → e ≠ 0 → sliceF l = e := fun e h1 h2 => by
    have := firstErr_at hi (by rw [h1]; exact h2) h
    rw [sliceF, this, h1, if_pos h2]
   obtain ⟨b, eb⟩ : ∃ b, b = l.getD k default := ⟨_, rfl⟩
   simp only [zC, seval, implies_true, Nat.reduceLeDiff, Nat.reduceEqDiff, reduceCtorEq, reduceIte, (show (k:Int) < l.length by omega), h, a_getD _ _ _ (show k < l.length by omega), ← eb]
   repeat ((with_reducible refine And.intro ?_ ?_); (focus (first | omega | (simp only [lenR]; omega) | (refine qq ?_; rfl) | (refine dq ?_; kernel_rfl) | (intros; simp_all; done))))
   refine callG_pure (fun _ => k_RValid _ _) ?_
   simp only [zC, seval, implies_true, Nat.reduceLeDiff, Nat.reduceEqDiff, reduceCtorEq, reduceIte, (show (k:Int) < l.length by omega), h, a_getD _ _ _ (show k < l.length by omega), ← eb]
   repeat ((with_reducible refine And.intro ?_ ?_); (focus (first | omega | (simp only [lenR]; omega) | (refine qq ?_; rfl) | (refine dq ?_; kernel_rfl) | (intros; simp_all; done))))
   refine ifC.mk (fun h1 => ?_) (fun h1 => ?_)
   ·refine ⟨_, _, ret_d, ?_, rfl⟩
    rw [hb 2 (slAt_bad (by rw [← eb]; exact h1)) (by omega)]
   ·refine callF_pure (k_RName _) ?_
    simp only [zC, seval, implies_true, Nat.reduceLeDiff, Nat.reduceEqDiff, reduceCtorEq, reduceIte, (show (k:Int) < l.length by omega), h, a_getD _ _ _ (show k < l.length by omega), ← eb]
    refine ifC.mk (fun h2 => ?_) (fun h2 => ?_)
    ·have h2 : nameF b.name ≠ 0 := by simpa using h2
     refine ⟨_, _, ret_d, ?_, rfl⟩
     rw [hb _ (slAt_n (by rw [← eb]; exact h1) (by rw [← eb]; exact h2)) (by rw [← eb]; exact h2), ← eb]
    ·have ho := slAt_ok (l := l) (k := k) (by rw [← eb]; exact h1) (by rw [← eb]; simpa using h2)
     rw [← eb, prec_cmp] at ho
     by_cases hk0 : 0 < k
     ·have e1 : IntKind.i64.wrap ((k : Int) - 1) = ((k - 1 : Nat) : Int) := by rw [wrap64 (by omega) (by omega)]; omega
      obtain ⟨a, ea⟩ : ∃ a, a = l.getD (k - 1) default := ⟨_, rfl⟩
      rw [decide_eq_true hk0, Bool.true_and, ← ea] at ho
      simp only [zC, seval, implies_true, Nat.reduceLeDiff, Nat.reduceEqDiff, reduceCtorEq, reduceIte, (show (0:Int) < k by omega), e1, (show ((k - 1 : Nat) : Int) < l.length by omega), (show k - 1 < l.length by omega), a_getD _ _ _ (show k - 1 < l.length by omega), ← ea, (show (k:Int) < l.length by omega), h, a_getD _ _ _ (show k < l.length by omega), ← eb]
      repeat ((with_reducible refine And.intro ?_ ?_); (focus (first | omega | (simp only [lenR]; omega) | (refine qq ?_; rfl) | (refine dq ?_; kernel_rfl) | (intros; simp_all; done))))
      refine callG_pure (fun _ => k_Precedes _ _) ?_
      simp only [zC, seval, implies_true, Nat.reduceLeDiff, Nat.reduceEqDiff, reduceCtorEq, reduceIte]
      repeat ((with_reducible refine And.intro ?_ ?_); (focus (first | omega | (simp only [lenR]; omega) | (refine qq ?_; rfl) | (refine dq ?_; kernel_rfl) | (intros; simp_all; done))))
      refine ifC.mk (fun h3 => ?_) (fun h3 => ?_)
      ·refine ⟨_, _, ret_d, ?_, rfl⟩
       rw [if_pos h3] at ho
       rw [hb 11 ho (by omega)]
      ·rw [if_neg (by rw [h3]; simp)] at ho
       refine ⟨firstErr_step hi ho, ?_⟩
       refine weak_to [] [] rfl List.nodup_nil ?_ rfl
       simp only [zC, seval, implies_true, Nat.reduceLeDiff, Nat.reduceEqDiff, reduceCtorEq, reduceIte, @a_wrap ((k:Int) + 1) (by omega)]
     ·rw [decide_eq_false hk0, Bool.false_and, if_neg (by simp)] at ho
      have e0 : (IntKind.i64.wrap ((k : Int) - 1)).toNat = 0 := by rw [wrap64 (by omega) (by omega)]; omega
      simp only [zC, seval, implies_true, Nat.reduceLeDiff, Nat.reduceEqDiff, reduceCtorEq, reduceIte, (show ¬ (0:Int) < k by omega), e0, a_getD _ _ _ (show 0 < l.length by omega), (show (k:Int) < l.length by omega), h, a_getD _ _ _ (show k < l.length by omega), ← eb]
      repeat ((with_reducible refine And.intro ?_ ?_); (focus (first | omega | (simp only [lenR]; omega) | (refine qq ?_; rfl) | (refine dq ?_; kernel_rfl) | (intros; simp_all; done))))
      refine callG_pure (v := .d (.bool false)) (fun h => by cases h) ?_
      simp only [zC, seval, implies_true, Nat.reduceLeDiff, Nat.reduceEqDiff, reduceCtorEq, reduceIte, e0, a_getD _ _ _ (show 0 < l.length by omega)]
      repeat ((with_reducible refine And.intro ?_ ?_); (focus (first | omega | (simp only [lenR]; omega) | (refine qq ?_; rfl) | (refine dq ?_; kernel_rfl) | (intros; simp_all; done))))
      refine ⟨firstErr_step hi ho, ?_⟩
      refine weak_to [] [] rfl List.nodup_nil ?_ rfl
      simp only [zC, seval, implies_true, Nat.reduceLeDiff, Nat.reduceEqDiff, reduceCtorEq, reduceIte, @a_wrap ((k:Int) + 1) (by omega)]
  ·simp only [zC, seval, implies_true, Nat.reduceLeDiff, Nat.reduceEqDiff, reduceCtorEq, reduceIte, (show ¬ (k:Int) < l.length by omega)]
   have : k = l.length := by omega
   subst this
   have hF : sliceF l = if (nestF l && apartF l) = true then 0 else 10 := by rw [sliceF, hi, if_neg (by simp)]
   refine callF_pure (k_formed2 l hl) ?_
   simp only [zC, seval, implies_true, Nat.reduceLeDiff, Nat.reduceEqDiff, reduceCtorEq, reduceIte]
   refine ifC.mk (fun hn => ?_) (fun hn => ?_)
   ·refine ⟨_, _, ret_d, ?_, rfl⟩
    rw [hF, if_neg (by intro e; rw [e] at hn; cases hn)]
   ·refine ⟨_, _, ret_d, ?_, rfl⟩
    rw [hF, if_pos (by simpa using hn)]
theorem k_natural (n : Int) : Pure Tryz.prog Gl 162 [.d (.int .i64 n)] (.d (.bool (!badN n 1000000000000000))) := by
 refine Pure.of1 ?_
 refine acalls_of Tryz.func162 rfl rfl (by simp [Tryz.ntmps162]) (evC_sound rfl _ _ _ _ ?_)
 simp only [Tryz.ntmps162, Tryz.results162, argEnv, List.length_nil]
 simp only [zC, seval, implies_true, Nat.reduceLeDiff, Nat.reduceEqDiff, reduceCtorEq, reduceIte]
 refine ⟨_, _, ret_d, ?_, rfl⟩
 refine congrArg (fun b => AV.d (D.bool b)) ?_
 unfold badN; rw [Bool.eq_iff_iff]; simp
theorem k_reading (n : Int) : Pure Tryz.prog Gl 163 [.d (.int .i64 n)] (.d (.bool (!badN n 1000000000000))) := by
 refine Pure.of1 ?_
 refine acalls_of Tryz.func163 rfl rfl (by simp [Tryz.ntmps163]) (evC_sound rfl _ _ _ _ ?_)
 simp only [Tryz.ntmps163, Tryz.results163, argEnv, List.length_nil]
 simp only [zC, seval, implies_true, Nat.reduceLeDiff, Nat.reduceEqDiff, reduceCtorEq, reduceIte]
 refine ⟨_, _, ret_d, ?_, rfl⟩
 refine congrArg (fun b => AV.d (D.bool b)) ?_
 unfold badN; rw [Bool.eq_iff_iff]; simp
set_option maxHeartbeats 2000000 in
theorem k_RflowCheck (l : List FlowT) (hl : l.length < 1000000) : Pure Tryz.prog Gl 130 [.d (.sl (l.map FlowT.toD))] (.d (.int .i64 (flowF l))) := by
 refine Pure.of1 ?_
 refine acalls_of Tryz.func130 rfl rfl (by simp [Tryz.ntmps130]) (evC_sound rfl _ _ _ _ ?_)
 simp only [Tryz.ntmps130, Tryz.results130, argEnv, List.length_nil]
 simp only [zC, seval, implies_true, Nat.reduceLeDiff, Nat.reduceEqDiff, reduceCtorEq, reduceIte]
 refine for_of l.length (fun k => [(0, .d (.sl (l.map FlowT.toD))), (3, .d (.int .i64 k))]) (fun _ => []) (fun k => firstErr (flAt l) k = 0) rfl ?_ ?_
 ·refine weak_to [] [] rfl List.nodup_nil ?_ rfl
  simp only [zC, seval, implies_true, Nat.reduceLeDiff, Nat.reduceEqDiff, reduceCtorEq, reduceIte, Int.cast_ofNat_Int]
 ·intro k hi hk
  by_cases h : k < l.length
  ·have hb : ∀ e, flAt l k = e → e ≠ 0 → flowF l = e := fun e h1 h2 => by rw [flowF, firstErr_at hi (by rw [h1]; exact h2) h, h1]
   obtain ⟨b, eb⟩ : ∃ b, b = l.getD k default := ⟨_, rfl⟩
   simp only [zC, seval, implies_true, Nat.reduceLeDiff, Nat.reduceEqDiff, reduceCtorEq, reduceIte, (show (k:Int) < l.length by omega), h, a_getD _ _ _ (show k < l.length by omega), ← eb]
   repeat ((with_reducible refine And.intro ?_ ?_); (focus (first | omega | (simp only [lenR]; omega) | (refine qq ?_; rfl) | (refine dq ?_; kernel_rfl) | (intros; simp_all; done))))
   refine callF_pure (k_natural _) ?_
   simp only [zC, seval, implies_true, Nat.reduceLeDiff, Nat.reduceEqDiff, reduceCtorEq, reduceIte, Bool.not_not]
   repeat ((with_reducible refine And.intro ?_ ?_); (focus (first | omega | (simp only [lenR]; omega) | (refine qq ?_; rfl) | (refine dq ?_; kernel_rfl) | (intros; simp_all; done))))
   refine callG_pure (fun _ => k_natural _) ?_
   simp only [zC, seval, implies_true, Nat.reduceLeDiff, Nat.reduceEqDiff, reduceCtorEq, reduceIte, Bool.not_not]
   repeat ((with_reducible refine And.intro ?_ ?_); (focus (first | omega | (simp only [lenR]; omega) | (refine qq ?_; rfl) | (refine dq ?_; kernel_rfl) | (intros; simp_all; done))))
   refine callG_pure (fun _ => k_natural _) ?_
   simp only [zC, seval, implies_true, Nat.reduceLeDiff, Nat.reduceEqDiff, reduceCtorEq, reduceIte, Bool.not_not]
   repeat ((with_reducible refine And.intro ?_ ?_); (focus (first | omega | (simp only [lenR]; omega) | (refine qq ?_; rfl) | (refine dq ?_; kernel_rfl) | (intros; simp_all; done))))
   refine callG_pure (fun _ => k_natural _) ?_
   simp only [zC, seval, implies_true, Nat.reduceLeDiff, Nat.reduceEqDiff, reduceCtorEq, reduceIte, Bool.not_not]
   repeat ((with_reducible refine And.intro ?_ ?_); (focus (first | omega | (simp only [lenR]; omega) | (refine qq ?_; rfl) | (refine dq ?_; kernel_rfl) | (intros; simp_all; done))))
   refine callG_pure (fun _ => k_natural _) ?_
   simp only [zC, seval, implies_true, Nat.reduceLeDiff, Nat.reduceEqDiff, reduceCtorEq, reduceIte, Bool.not_not]
   repeat ((with_reducible refine And.intro ?_ ?_); (focus (first | omega | (simp only [lenR]; omega) | (refine qq ?_; rfl) | (refine dq ?_; kernel_rfl) | (intros; simp_all; done))))
   refine callG_pure (fun _ => k_reading _) ?_
   simp only [zC, seval, implies_true, Nat.reduceLeDiff, Nat.reduceEqDiff, reduceCtorEq, reduceIte, Bool.not_not]
   repeat ((with_reducible refine And.intro ?_ ?_); (focus (first | omega | (simp only [lenR]; omega) | (refine qq ?_; rfl) | (refine dq ?_; kernel_rfl) | (intros; simp_all; done))))
   refine callG_pure (fun _ => k_reading _) ?_
   simp only [zC, seval, implies_true, Nat.reduceLeDiff, Nat.reduceEqDiff, reduceCtorEq, reduceIte, Bool.not_not]
   repeat ((with_reducible refine And.intro ?_ ?_); (focus (first | omega | (simp only [lenR]; omega) | (refine qq ?_; rfl) | (refine dq ?_; kernel_rfl) | (intros; simp_all; done))))
   refine ifC.mk (fun h1 => ?_) (fun h1 => ?_)
   ·refine ⟨_, _, ret_d, ?_, rfl⟩
    rw [hb 2 (flAt_bad (by rw [← eb]; exact h1)) (by omega)]
   ·have ho := flAt_ok (l := l) (k := k) (by rw [← eb]; exact h1)
    rw [ordFl, ← eb] at ho
    by_cases hk0 : 0 < k
    ·have e1 : IntKind.i64.wrap ((k : Int) - 1) = ((k - 1 : Nat) : Int) := by rw [wrap64 (by omega) (by omega)]; omega
     obtain ⟨a, ea⟩ : ∃ a, a = l.getD (k - 1) default := ⟨_, rfl⟩
     rw [decide_eq_true hk0, Bool.true_and, ← ea] at ho
     simp only [zC, seval, implies_true, Nat.reduceLeDiff, Nat.reduceEqDiff, reduceCtorEq, reduceIte, (show (0:Int) < k by omega), e1, (show ((k - 1 : Nat) : Int) < l.length by omega), (show k - 1 < l.length by omega), a_getD _ _ _ (show k - 1 < l.length by omega), ← ea]
     repeat ((with_reducible refine And.intro ?_ ?_); (focus (first | omega | (simp only [lenR]; omega) | (refine qq ?_; rfl) | (refine dq ?_; kernel_rfl) | (intros; simp_all; done))))
     (try simp only [zC, seval, implies_true, Nat.reduceLeDiff, Nat.reduceEqDiff, reduceCtorEq, reduceIte, (show (0:Int) < k by omega), e1, (show ((k - 1 : Nat) : Int) < l.length by omega), (show k - 1 < l.length by omega), a_getD _ _ _ (show k - 1 < l.length by omega), ← ea])
     repeat ((with_reducible refine And.intro ?_ ?_); (focus (first | omega | (simp only [lenR]; omega) | (refine qq ?_; rfl) | (refine dq ?_; kernel_rfl) | (intros; simp_all; done))))
     refine ifC.mk (fun h3 => ?_) (fun h3 => ?_)
     ·refine ⟨_, _, ret_d, ?_, rfl⟩
      rw [if_pos h3] at ho
      rw [hb 11 ho (by omega)]
     ·rw [if_neg (by rw [h3]; simp)] at ho
      refine ⟨firstErr_step hi ho, ?_⟩
      refine weak_to [] [] rfl List.nodup_nil ?_ rfl
      simp only [zC, seval, implies_true, Nat.reduceLeDiff, Nat.reduceEqDiff, reduceCtorEq, reduceIte, @a_wrap ((k:Int) + 1) (by omega)]
    ·rw [decide_eq_false hk0, Bool.false_and, Bool.or_false] at ho
     have e0 : (IntKind.i64.wrap ((k : Int) - 1)).toNat = 0 := by rw [wrap64 (by omega) (by omega)]; omega
     simp only [zC, seval, implies_true, Nat.reduceLeDiff, Nat.reduceEqDiff, reduceCtorEq, reduceIte, (show ¬ (0:Int) < k by omega), e0, a_getD _ _ _ (show 0 < l.length by omega)]
     repeat ((with_reducible refine And.intro ?_ ?_); (focus (first | omega | (simp only [lenR]; omega) | (refine qq ?_; rfl) | (refine dq ?_; kernel_rfl) | (intros; simp_all; done))))
     (try simp only [zC, seval, implies_true, Nat.reduceLeDiff, Nat.reduceEqDiff, reduceCtorEq, reduceIte, (show ¬ (0:Int) < k by omega), e0, a_getD _ _ _ (show 0 < l.length by omega)])
     repeat ((with_reducible refine And.intro ?_ ?_); (focus (first | omega | (simp only [lenR]; omega) | (refine qq ?_; rfl) | (refine dq ?_; kernel_rfl) | (intros; simp_all; done))))
     refine ifC.mk (fun h3 => ?_) (fun h3 => ?_)
     ·refine ⟨_, _, ret_d, ?_, rfl⟩
      rw [if_pos h3] at ho
      rw [hb 11 ho (by omega)]
     ·rw [if_neg (by rw [h3]; simp)] at ho
      refine ⟨firstErr_step hi ho, ?_⟩
      refine weak_to [] [] rfl List.nodup_nil ?_ rfl
      simp only [zC, seval, implies_true, Nat.reduceLeDiff, Nat.reduceEqDiff, reduceCtorEq, reduceIte, @a_wrap ((k:Int) + 1) (by omega)]
  ·simp only [zC, seval, implies_true, Nat.reduceLeDiff, Nat.reduceEqDiff, reduceCtorEq, reduceIte, (show ¬ (k:Int) < l.length by omega)]
   refine ⟨_, _, ret_d, ?_, rfl⟩
   have : k = l.length := by omega
   rw [flowF, ← this, hi]
theorem k_inRange (s : SampleT) : Pure Tryz.prog Gl 164 [.d s.toD] (.d (.bool (goodSm s))) := by
 refine Pure.of1 ?_
 refine acalls_of Tryz.func164 rfl rfl (by simp [Tryz.ntmps164]) (evC_sound rfl _ _ _ _ ?_)
 simp only [Tryz.ntmps164, Tryz.results164, argEnv, List.length_nil]
 simp only [zC, seval, implies_true, Nat.reduceLeDiff, Nat.reduceEqDiff, reduceCtorEq, reduceIte]
 exact ⟨_, _, ret_d, rfl, rfl⟩
theorem k_RsampleCheck (l : List SampleT) (hs : ∀ x ∈ l, x.stack.length < 1000000) (hl : l.length < 1000000) : Pure Tryz.prog Gl 131 [.d (.sl (l.map SampleT.toD))] (.d (.int .i64 (sampleF l))) := by
 refine Pure.of1 ?_
 refine acalls_of Tryz.func131 rfl rfl (by simp [Tryz.ntmps131]) (evC_sound rfl _ _ _ _ ?_)
 simp only [Tryz.ntmps131, Tryz.results131, argEnv, List.length_nil]
 simp only [zC, seval, implies_true, Nat.reduceLeDiff, Nat.reduceEqDiff, reduceCtorEq, reduceIte]
 refine for_of l.length (fun k => [(0, .d (.sl (l.map SampleT.toD))), (3, .d (.int .i64 k))]) (fun _ => []) (fun k => firstErr (smAt l) k = 0) rfl ?_ ?_
 ·refine weak_to [] [] rfl List.nodup_nil ?_ rfl
  simp only [zC, seval, implies_true, Nat.reduceLeDiff, Nat.reduceEqDiff, reduceCtorEq, reduceIte, Int.cast_ofNat_Int]
 ·intro k hi hk
  by_cases h : k < l.length
  ·have hb : ∀ e, smAt l k = e → e ≠ 0 → sampleF l = e := fun e h1 h2 => by rw [sampleF, firstErr_at hi (by rw [h1]; exact h2) h, h1]
   obtain ⟨b, eb⟩ : ∃ b, b = l.getD k default := ⟨_, rfl⟩
   simp only [zC, seval, implies_true, Nat.reduceLeDiff, Nat.reduceEqDiff, reduceCtorEq, reduceIte, (show (k:Int) < l.length by omega), h, a_getD _ _ _ (show k < l.length by omega), ← eb]
   repeat ((with_reducible refine And.intro ?_ ?_); (focus (first | omega | (simp only [lenR]; omega) | (refine qq ?_; rfl) | (refine dq ?_; kernel_rfl) | (intros; simp_all; done))))
   refine callF_pure (k_inRange _) ?_
   simp only [zC, seval, implies_true, Nat.reduceLeDiff, Nat.reduceEqDiff, reduceCtorEq, reduceIte, (show (k:Int) < l.length by omega), h, a_getD _ _ _ (show k < l.length by omega), ← eb]
   refine ifC.mk (fun h1 => ?_) (fun h1 => ?_)
   ·refine ⟨_, _, ret_d, ?_, rfl⟩
    rw [hb 2 (smAt_bad (by rw [← eb]; simpa using h1)) (by omega)]
   ·have h1 : goodSm (l.getD k default) = true := by rw [← eb]; simpa using h1
    repeat ((with_reducible refine And.intro ?_ ?_); (focus (first | omega | (simp only [lenR]; omega) | (refine qq ?_; rfl) | (refine dq ?_; kernel_rfl) | (intros; simp_all; done))))
    refine callF_pure (k_RFrames _ (by rw [eb]; exact hs _ (mem_getD h))) ?_
    simp only [zC, seval, implies_true, Nat.reduceLeDiff, Nat.reduceEqDiff, reduceCtorEq, reduceIte, (show (k:Int) < l.length by omega), h, a_getD _ _ _ (show k < l.length by omega), ← eb]
    refine ifC.mk (fun h2 => ?_) (fun h2 => ?_)
    ·have h2 : framesF (l.getD k default).stack ≠ 0 := by rw [← eb]; simpa using h2
     refine ⟨_, _, ret_d, ?_, rfl⟩
     rw [hb _ (smAt_fr h1 h2) h2, eb]
    ·have ho := smAt_ok h1 (by rw [← eb]; simpa using h2)
     rw [← eb] at ho
     by_cases hk0 : 0 < k
     ·have e1 : IntKind.i64.wrap ((k : Int) - 1) = ((k - 1 : Nat) : Int) := by rw [wrap64 (by omega) (by omega)]; omega
      obtain ⟨a, ea⟩ : ∃ a, a = l.getD (k - 1) default := ⟨_, rfl⟩
      rw [decide_eq_true hk0, Bool.true_and, ← ea] at ho
      (try simp only [zC, seval, implies_true, Nat.reduceLeDiff, Nat.reduceEqDiff, reduceCtorEq, reduceIte, (show (0:Int) < k by omega), e1, (show ((k - 1 : Nat) : Int) < l.length by omega), (show k - 1 < l.length by omega), a_getD _ _ _ (show k - 1 < l.length by omega), ← ea, (show (k:Int) < l.length by omega), h, a_getD _ _ _ (show k < l.length by omega), ← eb])
      repeat ((with_reducible refine And.intro ?_ ?_); (focus (first | omega | (simp only [lenR]; omega) | (refine qq ?_; rfl) | (refine dq ?_; kernel_rfl) | (intros; simp_all; done))))
      refine ifC.mk (fun h9 => ?_) (fun h9 => ?_)
      ·refine ⟨_, _, ret_d, ?_, rfl⟩
       rw [if_pos h9] at ho
       rw [hb 11 ho (by omega)]
      ·rw [if_neg (by rw [h9]; simp)] at ho
       refine ⟨firstErr_step hi ho, ?_⟩
       refine weak_to [] [] rfl List.nodup_nil ?_ rfl
       simp only [zC, seval, implies_true, Nat.reduceLeDiff, Nat.reduceEqDiff, reduceCtorEq, reduceIte, @a_wrap ((k:Int) + 1) (by omega)]
     ·rw [decide_eq_false hk0, Bool.false_and, if_neg (by simp)] at ho
      have e0 : (IntKind.i64.wrap ((k : Int) - 1)).toNat = 0 := by rw [wrap64 (by omega) (by omega)]; omega
      (try simp only [zC, seval, implies_true, Nat.reduceLeDiff, Nat.reduceEqDiff, reduceCtorEq, reduceIte, (show ¬ (0:Int) < k by omega), e0, a_getD _ _ _ (show 0 < l.length by omega), (show (k:Int) < l.length by omega), h, a_getD _ _ _ (show k < l.length by omega), ← eb])
      repeat ((with_reducible refine And.intro ?_ ?_); (focus (first | omega | (simp only [lenR]; omega) | (refine qq ?_; rfl) | (refine dq ?_; kernel_rfl) | (intros; simp_all; done))))
      refine ⟨firstErr_step hi ho, ?_⟩
      refine weak_to [] [] rfl List.nodup_nil ?_ rfl
      simp only [zC, seval, implies_true, Nat.reduceLeDiff, Nat.reduceEqDiff, reduceCtorEq, reduceIte, @a_wrap ((k:Int) + 1) (by omega)]
  ·simp only [zC, seval, implies_true, Nat.reduceLeDiff, Nat.reduceEqDiff, reduceCtorEq, reduceIte, (show ¬ (k:Int) < l.length by omega)]
   refine ⟨_, _, ret_d, ?_, rfl⟩
   have : k = l.length := by omega
   rw [sampleF, ← this, hi]
end YtadfcljoocjhdaaGreat
end Go.Proofs
