/- A part of the proof: contracts of functions of this seat, and lemmas. No condition beyond those stated. -/
import Derived.Test.YtadfcljoocjhdaaGreatWto
set_option linter.unusedVariables false
set_option linter.unusedSimpArgs false
set_option linter.unusedSectionVars false
set_option linter.unnecessarySimpa false
set_option maxRecDepth 100000
namespace Go.Proofs
open Go.AM
namespace YtadfcljoocjhdaaGreat
variable {Gl : Globs}
def refAt (l : List SliceT) (i : Nat) : Bool := ((List.range l.length).all fun k => !clashS l i k) && ((l.getD i default).self == selfF l i l.length)
theorem ref_apart (l : List SliceT) : (List.range l.length).all (refAt l) = apartF l := by
 unfold apartF
 rw [Bool.eq_iff_iff]
 simp only [List.all_eq_true, List.mem_range, refAt, apartAt, Bool.and_eq_true]
 constructor
 ·intro h i hi
  exact ⟨fun j hj => (h j hj).1 i hi, (h i hi).2⟩
 ·intro h i hi
  exact ⟨fun j hj => (h j hj).1 i hi, (h i hi).2⟩
set_option maxHeartbeats 4000000 in
theorem k_formed2 (l : List SliceT) (hl : l.length < 1000000) : Pure Tryz.prog Gl 158 [.d (.sl (l.map SliceT.toD))] (.d (.bool (nestF l && apartF l))) := by
 refine Pure.of1 ?_
 obtain ⟨F, hF⟩ : ∃ F, F = (nestF l && apartF l) := ⟨_, rfl⟩
 rw [← hF]
 refine acalls_of Tryz.func158 rfl rfl (by simp [Tryz.ntmps158]) (evC_sound rfl _ _ _ _ ?_)
 simp only [Tryz.ntmps158, Tryz.results158, argEnv, List.length_nil]
 simp only [zC, seval, implies_true, Nat.reduceLeDiff, Nat.reduceEqDiff, reduceCtorEq, reduceIte]
 refine for_of l.length (fun k => [(0, .d (.sl (l.map SliceT.toD))), (3, .d (.int .i64 k))]) (fun _ => []) (fun k => (List.range k).all (nestAt l) = true) rfl ?_ ?_
 ·refine weak_to [] [] rfl List.nodup_nil ?_ rfl
  simp only [zC, seval, implies_true, Nat.reduceLeDiff, Nat.reduceEqDiff, reduceCtorEq, reduceIte, Int.cast_ofNat_Int]
 ·intro k hi hk
  by_cases h : k < l.length
  ·obtain ⟨b, eb⟩ : ∃ b, b = l.getD k default := ⟨_, rfl⟩
   have hbad : nestAt l k = false → F = false := fun h1 => by rw [hF, show nestF l = false from range_all_at h h1]; rfl
   simp only [zC, seval, implies_true, Nat.reduceLeDiff, Nat.reduceEqDiff, reduceCtorEq, reduceIte, (show (k:Int) < l.length by omega), h, a_getD _ _ _ (show k < l.length by omega), ← eb]
   repeat ((with_reducible refine And.intro ?_ ?_); (focus (first | omega | (simp only [lenR]; omega) | (refine qq ?_; rfl) | (refine dq ?_; kernel_rfl) | (intros; simp_all; done))))
   cases h1 : (decide (b.parent < -1) || decide ((k : Int) ≤ b.parent)) with
   | true =>
    simp only [zC, seval, implies_true, Nat.reduceLeDiff, Nat.reduceEqDiff, reduceCtorEq, reduceIte]
    refine ⟨_, _, ret_d, ?_, rfl⟩
    rw [hbad (by unfold nestAt; rw [← eb]; simp only [h1, if_pos])]
   | false =>
    simp only [zC, seval, implies_true, Nat.reduceLeDiff, Nat.reduceEqDiff, reduceCtorEq, reduceIte]
    have hn : nestAt l k = if b.parent = -1 then b.depth == 0 else !((l.getD b.parent.toNat default).thread != b.thread || decide (b.lo < (l.getD b.parent.toNat default).lo) || decide ((l.getD b.parent.toNat default).hi < b.hi) || b.depth != IntKind.i64.wrap ((l.getD b.parent.toNat default).depth + 1)) := by
     unfold nestAt; rw [← eb]; simp only [h1, Bool.false_eq_true, if_false]
    simp only [Bool.or_eq_false_iff, decide_eq_false_iff_not] at h1
    by_cases h2 : b.parent = -1
    ·rw [if_pos h2] at hn
     simp only [zC, seval, implies_true, Nat.reduceLeDiff, Nat.reduceEqDiff, reduceCtorEq, reduceIte, h2, (show (k:Int) < l.length by omega), h, a_getD _ _ _ (show k < l.length by omega), ← eb]
     repeat ((with_reducible refine And.intro ?_ ?_); (focus (first | omega | (simp only [lenR]; omega) | (refine qq ?_; rfl) | (refine dq ?_; kernel_rfl) | (intros; simp_all; done))))
     refine ifC.mk (fun h3 => ?_) (fun h3 => ?_)
     ·refine ⟨_, _, ret_d, ?_, rfl⟩
      rw [hbad (by rw [hn]; simpa using h3)]
     ·have hat : nestAt l k = true := by rw [hn]; simpa using h3
      have e1 : (-1 : Int).toNat = 0 := rfl
      repeat ((with_reducible refine And.intro ?_ ?_); (focus (first | omega | (simp only [lenR]; omega) | (refine qq ?_; rfl) | (refine dq ?_; kernel_rfl) | (intros; simp_all; done))))
      simp only [zC, seval, implies_true, Nat.reduceLeDiff, Nat.reduceEqDiff, reduceCtorEq, reduceIte, e1, a_getD _ _ _ (show 0 < l.length by omega), (show (k:Int) < l.length by omega), h, a_getD _ _ _ (show k < l.length by omega), ← eb]
      repeat ((with_reducible refine And.intro ?_ ?_); (focus (first | omega | (simp only [lenR]; omega) | (refine qq ?_; rfl) | (refine dq ?_; kernel_rfl) | (intros; simp_all; done))))
      refine callG_pure (v := .d (.bool false)) (fun h => by cases h) ?_
      simp only [zC, seval, implies_true, Nat.reduceLeDiff, Nat.reduceEqDiff, reduceCtorEq, reduceIte, e1, a_getD _ _ _ (show 0 < l.length by omega), (show (k:Int) < l.length by omega), h, a_getD _ _ _ (show k < l.length by omega), ← eb]
      repeat ((with_reducible refine And.intro ?_ ?_); (focus (first | omega | (simp only [lenR]; omega) | (refine qq ?_; rfl) | (refine dq ?_; kernel_rfl) | (intros; simp_all; done))))
      refine ⟨by rw [range_all, hi, hat]; rfl, ?_⟩
      refine weak_to [] [] rfl List.nodup_nil ?_ rfl
      simp only [zC, seval, implies_true, Nat.reduceLeDiff, Nat.reduceEqDiff, reduceCtorEq, reduceIte, @a_wrap ((k:Int) + 1) (by omega)]
    ·rw [if_neg h2] at hn
     obtain ⟨q, eq⟩ : ∃ q : Nat, b.parent = q := ⟨b.parent.toNat, by omega⟩
     rw [eq, a_idxNat] at hn
     obtain ⟨p, ep⟩ : ∃ p, p = l.getD q default := ⟨_, rfl⟩
     rw [← ep] at hn
     simp only [zC, seval, implies_true, Nat.reduceLeDiff, Nat.reduceEqDiff, reduceCtorEq, reduceIte, eq, a_eq_f (show ¬ ((q:Int) = -1) by omega), (show (0:Int) ≤ (q:Int) by omega), (show (q:Int) < l.length by omega), (show q < l.length by omega), a_getD _ _ _ (show q < l.length by omega), ← ep, (show (k:Int) < l.length by omega), h, a_getD _ _ _ (show k < l.length by omega), ← eb]
     repeat ((with_reducible refine And.intro ?_ ?_); (focus (first | omega | (simp only [lenR]; omega) | (refine qq ?_; rfl) | (refine dq ?_; kernel_rfl) | (intros; simp_all; done))))
     refine callG_pure (fun _ => k_Rcontains _ _ _ _) ?_
     simp only [zC, seval, implies_true, Nat.reduceLeDiff, Nat.reduceEqDiff, reduceCtorEq, reduceIte, (show (q:Int) < l.length by omega), (show q < l.length by omega), a_getD _ _ _ (show q < l.length by omega), ← ep, (show (k:Int) < l.length by omega), h, a_getD _ _ _ (show k < l.length by omega), ← eb]
     repeat ((with_reducible refine And.intro ?_ ?_); (focus (first | omega | (simp only [lenR]; omega) | (refine qq ?_; rfl) | (refine dq ?_; kernel_rfl) | (intros; simp_all; done))))
     have e5 : (!(decide (p.lo ≤ b.lo) && decide (b.hi ≤ p.hi))) = (decide (b.lo < p.lo) || decide (p.hi < b.hi)) := by rw [Bool.eq_iff_iff]; simp
     rw [Bool.or_assoc (p.thread != b.thread), ← e5] at hn
     refine ifC.mk (fun h3 => ?_) (fun h3 => ?_)
     ·refine ⟨_, _, ret_d, ?_, rfl⟩
      rw [hbad (by rw [hn, h3]; rfl)]
     ·have hat : nestAt l k = true := by rw [hn, h3]; rfl
      refine ⟨by rw [range_all, hi, hat]; rfl, ?_⟩
      refine weak_to [] [] rfl List.nodup_nil ?_ rfl
      simp only [zC, seval, implies_true, Nat.reduceLeDiff, Nat.reduceEqDiff, reduceCtorEq, reduceIte, @a_wrap ((k:Int) + 1) (by omega)]
  ·simp only [zC, seval, implies_true, Nat.reduceLeDiff, Nat.reduceEqDiff, reduceCtorEq, reduceIte, (show ¬ (k:Int) < l.length by omega)]
   have : k = l.length := by omega
   subst this
   have hn : nestF l = true := hi
   rw [hn, Bool.true_and] at hF
   refine for_of l.length (fun i => [(0, .d (.sl (l.map SliceT.toD))), (5, .d (.int .i64 i))]) (fun _ => []) (fun i => (List.range i).all (refAt l) = true) rfl ?_ ?_
   ·refine weak_to [] [] rfl List.nodup_nil ?_ rfl
    simp only [zC, seval, implies_true, Nat.reduceLeDiff, Nat.reduceEqDiff, reduceCtorEq, reduceIte, Int.cast_ofNat_Int]
   ·intro i hi2 hk2
    by_cases h3 : i < l.length
    ·obtain ⟨b, eb⟩ : ∃ b, b = l.getD i default := ⟨_, rfl⟩
     have hbad : refAt l i = false → F = false := fun h1 => by rw [hF, ← ref_apart]; exact range_all_at h3 h1
     simp only [zC, seval, implies_true, Nat.reduceLeDiff, Nat.reduceEqDiff, reduceCtorEq, reduceIte, (show (i:Int) < l.length by omega), h3, a_getD _ _ _ (show i < l.length by omega), ← eb]
     repeat ((with_reducible refine And.intro ?_ ?_); (focus (first | omega | (simp only [lenR]; omega) | (refine qq ?_; rfl) | (refine dq ?_; kernel_rfl) | (intros; simp_all; done))))
     refine for_of l.length (fun j => [(0, .d (.sl (l.map SliceT.toD))), (5, .d (.int .i64 i)), (6, .d (.int .i64 (selfF l i j))), (7, .d (.int .i64 j))]) (fun _ => []) (fun j => ((List.range j).all fun k => !clashS l i k) = true) rfl ?_ ?_
     ·refine weak_to [] [] rfl List.nodup_nil ?_ rfl
      simp only [zC, seval, implies_true, Nat.reduceLeDiff, Nat.reduceEqDiff, reduceCtorEq, reduceIte, Int.cast_ofNat_Int, selfF, ← eb]
     ·intro j hj hjk
      by_cases h2 : j < l.length
      ·obtain ⟨a, ea⟩ : ∃ a, a = l.getD j default := ⟨_, rfl⟩
       have hcl : clashS l i j = (decide ((i:Int) < (j:Int)) && b.thread == a.thread && (decide (b.lo < a.hi) && decide (a.lo < b.hi)) && !underW l i j) := by
        unfold clashS; rw [← ea, ← eb]
        cases decide ((i:Int) < (j:Int)) <;> cases (b.thread == a.thread) <;> cases decide (b.lo < a.hi) <;> cases decide (a.lo < b.hi) <;> rfl
       simp only [zC, seval, implies_true, Nat.reduceLeDiff, Nat.reduceEqDiff, reduceCtorEq, reduceIte, (show (j:Int) < l.length by omega), h2, a_getD _ _ _ (show j < l.length by omega), ← ea, (show (i:Int) < l.length by omega), h3, a_getD _ _ _ (show i < l.length by omega), ← eb]
       repeat ((with_reducible refine And.intro ?_ ?_); (focus (first | omega | (simp only [lenR]; omega) | (refine qq ?_; rfl) | (refine dq ?_; kernel_rfl) | (intros; simp_all; done))))
       cases h4 : (a.parent == (i : Int)) with
       | true =>
        have hS : selfF l i (j + 1) = IntKind.i64.wrap (selfF l i j - IntKind.i64.wrap (a.hi - a.lo)) := by rw [selfF, ← ea, if_pos h4]
        simp only [zC, seval, implies_true, Nat.reduceLeDiff, Nat.reduceEqDiff, reduceCtorEq, reduceIte, (show (j:Int) < l.length by omega), h2, a_getD _ _ _ (show j < l.length by omega), ← ea, (show (i:Int) < l.length by omega), h3, a_getD _ _ _ (show i < l.length by omega), ← eb]
        repeat ((with_reducible refine And.intro ?_ ?_); (focus (first | omega | (simp only [lenR]; omega) | (refine qq ?_; rfl) | (refine dq ?_; kernel_rfl) | (intros; simp_all; done))))
        refine callG_pure (fun _ => k_Rabove l hl hn i j (by omega) (by omega)) ?_
        simp only [zC, seval, implies_true, Nat.reduceLeDiff, Nat.reduceEqDiff, reduceCtorEq, reduceIte]
        repeat ((with_reducible refine And.intro ?_ ?_); (focus (first | omega | (simp only [lenR]; omega) | (refine qq ?_; rfl) | (refine dq ?_; kernel_rfl) | (intros; simp_all; done))))
        refine ifC.mk (fun hc => ?_) (fun hc => ?_)
        ·refine ⟨_, _, ret_d, ?_, rfl⟩
         rw [hbad (by unfold refAt; rw [range_all_at h2 (by rw [hcl, hc]; rfl)]; rfl)]
        ·refine ⟨by rw [range_all, hj, hcl, hc]; rfl, ?_⟩
         refine weak_to [] [] rfl List.nodup_nil ?_ rfl
         simp only [zC, seval, implies_true, Nat.reduceLeDiff, Nat.reduceEqDiff, reduceCtorEq, reduceIte, @a_wrap ((j:Int) + 1) (by omega), hS]
       | false =>
        have hS : selfF l i (j + 1) = selfF l i j := by rw [selfF, ← ea, if_neg (by rw [h4]; simp)]
        simp only [zC, seval, implies_true, Nat.reduceLeDiff, Nat.reduceEqDiff, reduceCtorEq, reduceIte, (show (j:Int) < l.length by omega), h2, a_getD _ _ _ (show j < l.length by omega), ← ea, (show (i:Int) < l.length by omega), h3, a_getD _ _ _ (show i < l.length by omega), ← eb]
        repeat ((with_reducible refine And.intro ?_ ?_); (focus (first | omega | (simp only [lenR]; omega) | (refine qq ?_; rfl) | (refine dq ?_; kernel_rfl) | (intros; simp_all; done))))
        refine callG_pure (fun _ => k_Rabove l hl hn i j (by omega) (by omega)) ?_
        simp only [zC, seval, implies_true, Nat.reduceLeDiff, Nat.reduceEqDiff, reduceCtorEq, reduceIte]
        repeat ((with_reducible refine And.intro ?_ ?_); (focus (first | omega | (simp only [lenR]; omega) | (refine qq ?_; rfl) | (refine dq ?_; kernel_rfl) | (intros; simp_all; done))))
        refine ifC.mk (fun hc => ?_) (fun hc => ?_)
        ·refine ⟨_, _, ret_d, ?_, rfl⟩
         rw [hbad (by unfold refAt; rw [range_all_at h2 (by rw [hcl, hc]; rfl)]; rfl)]
        ·refine ⟨by rw [range_all, hj, hcl, hc]; rfl, ?_⟩
         refine weak_to [] [] rfl List.nodup_nil ?_ rfl
         simp only [zC, seval, implies_true, Nat.reduceLeDiff, Nat.reduceEqDiff, reduceCtorEq, reduceIte, @a_wrap ((j:Int) + 1) (by omega), hS]
      ·simp only [zC, seval, implies_true, Nat.reduceLeDiff, Nat.reduceEqDiff, reduceCtorEq, reduceIte, (show ¬ (j:Int) < l.length by omega), (show (i:Int) < l.length by omega), h3, a_getD _ _ _ (show i < l.length by omega), ← eb]
       repeat ((with_reducible refine And.intro ?_ ?_); (focus (first | omega | (simp only [lenR]; omega) | (refine qq ?_; rfl) | (refine dq ?_; kernel_rfl) | (intros; simp_all; done))))
       have hjn : j = l.length := by omega
       subst hjn
       have hat : refAt l i = (b.self == selfF l i l.length) := by unfold refAt; rw [hj, ← eb, Bool.true_and]
       refine ifC.mk (fun hc => ?_) (fun hc => ?_)
       ·refine ⟨_, _, ret_d, ?_, rfl⟩
        rw [hbad (by rw [hat]; simpa using hc)]
       ·have hat : refAt l i = true := by rw [hat]; simpa using hc
        refine ⟨by rw [range_all, hi2, hat]; rfl, ?_⟩
        refine weak_to [] [] rfl List.nodup_nil ?_ rfl
        simp only [zC, seval, implies_true, Nat.reduceLeDiff, Nat.reduceEqDiff, reduceCtorEq, reduceIte, @a_wrap ((i:Int) + 1) (by omega)]
    ·simp only [zC, seval, implies_true, Nat.reduceLeDiff, Nat.reduceEqDiff, reduceCtorEq, reduceIte, (show ¬ (i:Int) < l.length by omega)]
     have : i = l.length := by omega
     subst this
     refine ⟨_, _, ret_d, ?_, rfl⟩
     rw [hF, ← ref_apart, hi2]
end YtadfcljoocjhdaaGreat
end Go.Proofs
