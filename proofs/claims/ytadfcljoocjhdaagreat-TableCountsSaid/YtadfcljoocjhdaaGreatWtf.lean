/- A part of the proof: contracts of functions of this seat, and lemmas. No condition beyond those stated. -/
import Derived.Test.YtadfcljoocjhdaaGreatWte
set_option linter.unusedVariables false
set_option linter.unusedSimpArgs false
set_option linter.unusedSectionVars false
set_option linter.unnecessarySimpa false
set_option maxRecDepth 100000
namespace Go.Proofs
open Go.AM
namespace YtadfcljoocjhdaaGreat
variable {Gl : Globs}
def cmpSl (a b : SliceT) : Int := orL [cmpI a.lo b.lo, cmpI b.hi a.hi, cmpI a.thread b.thread]
theorem k_compare (a b : SliceT) : Pure Tryz.prog Gl 140 [.d a.toD, .d b.toD] (.d (.int .i64 (cmpSl a b))) := by
 refine Pure.of2 ?_
 refine acalls_of Tryz.func140 rfl rfl (by simp [Tryz.ntmps140]) (evC_sound rfl _ _ _ _ ?_)
 simp only [Tryz.ntmps140, Tryz.results140, argEnv, List.length_nil]
 simp only [zC, seval, implies_true, Nat.reduceLeDiff, Nat.reduceEqDiff, reduceCtorEq, reduceIte]
 repeat ((with_reducible refine And.intro ?_ ?_); (focus (first | omega | (simp only [lenR]; omega) | (refine qq ?_; rfl) | (refine dq ?_; kernel_rfl) | (intros; simp_all; done))))
 refine callF_pure (k_Compare _ _) ?_
 simp only [zC, seval, implies_true, Nat.reduceLeDiff, Nat.reduceEqDiff, reduceCtorEq, reduceIte]
 refine callF_pure (k_Compare _ _) ?_
 simp only [zC, seval, implies_true, Nat.reduceLeDiff, Nat.reduceEqDiff, reduceCtorEq, reduceIte]
 refine callF_pure (k_Compare _ _) ?_
 simp only [zC, seval, implies_true, Nat.reduceLeDiff, Nat.reduceEqDiff, reduceCtorEq, reduceIte]
 repeat ((with_reducible refine And.intro ?_ ?_); (focus (first | omega | (simp only [lenR]; omega) | (refine qq ?_; rfl) | (refine dq ?_; kernel_rfl) | (intros; simp_all; done))))
 refine callD_at1 2 (fun B hB => k_Or [cmpI a.lo b.lo, cmpI b.hi a.hi, cmpI a.thread b.thread] (by simp) B hB) (fun _ => rfl) rfl ?_
 simp only [zC, seval, implies_true, Nat.reduceLeDiff, Nat.reduceEqDiff, reduceCtorEq, reduceIte]
 exact ⟨_, _, ret_d, rfl, rfl⟩
def underW (l : List SliceT) (i k : Int) : Bool :=
 if h : 0 ≤ k then (if i = k then true else if h2 : (l.getD k.toNat default).parent < k then underW l i (l.getD k.toNat default).parent else false) else false
termination_by (k + 1).toNat
decreasing_by omega
def nestAt (l : List SliceT) (i : Nat) : Bool :=
 let s := l.getD i default
 if (decide (s.parent < -1) || decide ((i : Int) ≤ s.parent)) = true then false
 else if s.parent = -1 then s.depth == 0
 else !((l.getD s.parent.toNat default).thread != s.thread || decide (s.lo < (l.getD s.parent.toNat default).lo) || decide ((l.getD s.parent.toNat default).hi < s.hi) || s.depth != IntKind.i64.wrap ((l.getD s.parent.toNat default).depth + 1))
def nestF (l : List SliceT) : Bool := (List.range l.length).all (nestAt l)
theorem range_all (p : Nat → Bool) (k : Nat) : (List.range (k + 1)).all p = ((List.range k).all p && p k) := by
 rw [List.range_succ, List.all_append]; simp only [List.all_cons, List.all_nil, Bool.and_true]
theorem range_all_at {p : Nat → Bool} {n k : Nat} (h : k < n) (hp : p k = false) : (List.range n).all p = false := by
 rw [List.all_eq_false]; exact ⟨k, List.mem_range.2 h, by simp [hp]⟩
theorem nest_parent {l : List SliceT} {i : Nat} (h : nestAt l i = true) : -1 ≤ (l.getD i default).parent ∧ (l.getD i default).parent < i := by
 unfold nestAt at h
 simp only at h
 split at h
 ·cases h
 ·rename_i h1
  simp only [Bool.not_eq_true, Bool.or_eq_false_iff, decide_eq_false_iff_not] at h1
  omega
theorem nestF_at {l : List SliceT} (h : nestF l = true) {i : Nat} (hi : i < l.length) : nestAt l i = true := by
 unfold nestF at h; rw [List.all_eq_true] at h; exact h i (List.mem_range.2 hi)
theorem k_nested (l : List SliceT) (hl : l.length < 1000000) : Pure Tryz.prog Gl 141 [.d (.sl (l.map SliceT.toD))] (.d (.bool (nestF l))) := by
 refine Pure.of1 ?_
 refine acalls_of Tryz.func141 rfl rfl (by simp [Tryz.ntmps141]) (evC_sound rfl _ _ _ _ ?_)
 simp only [Tryz.ntmps141, Tryz.results141, argEnv, List.length_nil]
 simp only [zC, seval, implies_true, Nat.reduceLeDiff, Nat.reduceEqDiff, reduceCtorEq, reduceIte]
 refine for_of l.length (fun k => [(0, .d (.sl (l.map SliceT.toD))), (6, .d (.sl (l.map SliceT.toD))), (7, .d (.int .i64 l.length)), (8, .d (.int .i64 k))]) (fun _ => []) (fun k => (List.range k).all (nestAt l) = true) rfl ?_ ?_
 ·refine weak_to [] [] rfl List.nodup_nil ?_ rfl
  simp only [zC, seval, implies_true, Nat.reduceLeDiff, Nat.reduceEqDiff, reduceCtorEq, reduceIte, Int.cast_ofNat_Int]
 ·intro k hi hk
  by_cases h : k < l.length
  ·obtain ⟨b, eb⟩ : ∃ b, b = l.getD k default := ⟨_, rfl⟩
   have hbad : nestAt l k = false → nestF l = false := fun h1 => range_all_at h h1
   simp only [zC, seval, implies_true, Nat.reduceLeDiff, Nat.reduceEqDiff, reduceCtorEq, reduceIte, (show (k:Int) < l.length by omega), h, a_getD _ _ _ (show k < l.length by omega), ← eb]
   repeat ((with_reducible refine And.intro ?_ ?_); (focus (first | omega | (simp only [lenR]; omega) | (refine qq ?_; rfl) | (refine dq ?_; kernel_rfl) | (intros; simp_all; done))))
   cases h1 : (decide (b.parent < -1) || decide ((k : Int) ≤ b.parent)) with
   | true =>
    simp only [zC, seval, implies_true, Nat.reduceLeDiff, Nat.reduceEqDiff, reduceCtorEq, reduceIte]
    refine ⟨_, _, ret_d, ?_, rfl⟩
    rw [hbad (by unfold nestAt; rw [← eb]; simp only [h1, if_pos])]
   | false =>
    simp only [zC, seval, implies_true, Nat.reduceLeDiff, Nat.reduceEqDiff, reduceCtorEq, reduceIte]
    have hn : nestAt l k = if b.parent = -1 then b.depth == 0 else !((l.getD b.parent.toNat default).thread != b.thread || decide (b.lo < (l.getD b.parent.toNat default).lo) || decide ((l.getD b.parent.toNat default).hi < b.hi) || b.depth != IntKind.i64.wrap ((l.getD b.parent.toNat default).depth + 1)) := by
     unfold nestAt; rw [← eb]; simp only [h1, Bool.false_eq_true, if_false]
    simp only [Bool.or_eq_false_iff, decide_eq_false_iff_not] at h1
    by_cases h2 : b.parent = -1
    ·rw [if_pos h2] at hn
     simp only [zC, seval, implies_true, Nat.reduceLeDiff, Nat.reduceEqDiff, reduceCtorEq, reduceIte, a_eq_t (show b.parent = -1 by omega)]
     refine ifC.mk (fun h3 => ?_) (fun h3 => ?_)
     ·refine ⟨_, _, ret_d, ?_, rfl⟩
      rw [hbad (by rw [hn]; simpa using h3)]
     ·have hat : nestAt l k = true := by rw [hn]; simpa using h3
      refine ⟨by rw [range_all, hi, hat]; rfl, ?_⟩
      refine weak_to [] [] rfl List.nodup_nil ?_ rfl
      simp only [zC, seval, implies_true, Nat.reduceLeDiff, Nat.reduceEqDiff, reduceCtorEq, reduceIte, @a_wrap ((k:Int) + 1) (by omega)]
    ·rw [if_neg h2] at hn
     obtain ⟨q, eq⟩ : ∃ q : Nat, b.parent = q := ⟨b.parent.toNat, by omega⟩
     rw [eq, a_idxNat] at hn
     simp only [zC, seval, implies_true, Nat.reduceLeDiff, Nat.reduceEqDiff, reduceCtorEq, reduceIte, eq, a_eq_f (show ¬ ((q:Int) = -1) by omega), (show (q:Int) < l.length by omega), (show q < l.length by omega), a_getD _ _ _ (show q < l.length by omega)]
     repeat ((with_reducible refine And.intro ?_ ?_); (focus (first | omega | (simp only [lenR]; omega) | (refine qq ?_; rfl) | (refine dq ?_; kernel_rfl) | (intros; simp_all; done))))
     refine ifC.mk (fun h3 => ?_) (fun h3 => ?_)
     ·refine ⟨_, _, ret_d, ?_, rfl⟩
      rw [hbad (by rw [hn, h3]; rfl)]
     ·have hat : nestAt l k = true := by rw [hn, h3]; rfl
      refine ⟨by rw [range_all, hi, hat]; rfl, ?_⟩
      refine weak_to [] [] rfl List.nodup_nil ?_ rfl
      simp only [zC, seval, implies_true, Nat.reduceLeDiff, Nat.reduceEqDiff, reduceCtorEq, reduceIte, @a_wrap ((k:Int) + 1) (by omega)]
  ·simp only [zC, seval, implies_true, Nat.reduceLeDiff, Nat.reduceEqDiff, reduceCtorEq, reduceIte, (show ¬ (k:Int) < l.length by omega)]
   refine ⟨_, _, ret_d, ?_, rfl⟩
   have : k = l.length := by omega
   rw [nestF, ← this, hi]
theorem under_neg {l : List SliceT} {i k : Int} (h : ¬ 0 ≤ k) : underW l i k = false := by rw [underW, dif_neg h]
theorem under_self {l : List SliceT} {i k : Int} (h : 0 ≤ k) (h2 : i = k) : underW l i k = true := by rw [underW, dif_pos h, if_pos h2]
theorem under_step {l : List SliceT} {i k : Int} (h : 0 ≤ k) (h2 : i ≠ k) (h3 : (l.getD k.toNat default).parent < k) : underW l i k = underW l i (l.getD k.toNat default).parent := by rw [underW, dif_pos h, if_neg h2, dif_pos h3]
theorem k_under (l : List SliceT) (hl : l.length < 1000000) (hn : nestF l = true) (i k : Int) (hk : k < l.length) : Pure Tryz.prog Gl 170 [.d (.sl (l.map SliceT.toD)), .d (.int .i64 i), .d (.int .i64 k)] (.d (.bool (underW l i k))) := by
 refine Pure.of3 ?_
 refine acalls_of Tryz.func170 rfl rfl (by simp [Tryz.ntmps170]) (evC_sound rfl _ _ _ _ ?_)
 simp only [Tryz.ntmps170, Tryz.results170, argEnv, List.length_nil]
 simp only [zC, seval, implies_true, Nat.reduceLeDiff, Nat.reduceEqDiff, reduceCtorEq, reduceIte]
 refine loop_of (τ := Int) (fun p => [(0, .d (.sl (l.map SliceT.toD))), (1, .d (.int .i64 i)), (2, .d (.int .i64 p))]) (fun _ => []) (fun p => p < l.length ∧ underW l i p = underW l i k) (fun p => (p + 1).toNat) k ⟨hk, rfl⟩ ?_ ?_
 ·refine weak_to [] [] rfl List.nodup_nil ?_ rfl
  simp only [zC, seval, implies_true, Nat.reduceLeDiff, Nat.reduceEqDiff, reduceCtorEq, reduceIte]
 ·rintro p ⟨h1, h2⟩
  simp only [zC, seval, implies_true, Nat.reduceLeDiff, Nat.reduceEqDiff, reduceCtorEq, reduceIte]
  refine ifC.mk (fun hc => ?_) (fun hc => ?_)
  ·have hc : 0 ≤ p := by simpa using hc
   obtain ⟨q, rfl⟩ : ∃ q : Nat, p = q := ⟨p.toNat, by omega⟩
   simp only [zC, seval, implies_true, Nat.reduceLeDiff, Nat.reduceEqDiff, reduceCtorEq, reduceIte]
   refine ifC.mk (fun hd => ?_) (fun hd => ?_)
   ·refine ⟨_, _, ret_d, ?_, rfl⟩
    rw [← h2, under_self hc (by simpa using hd)]
   ·have hd : i ≠ q := by simpa using hd
    have hp := nest_parent (nestF_at hn (i := q) (by omega))
    rw [under_step hc hd (by rw [a_idxNat]; exact hp.2), a_idxNat] at h2
    simp only [zC, seval, implies_true, Nat.reduceLeDiff, Nat.reduceEqDiff, reduceCtorEq, reduceIte, (show (q:Int) < l.length by omega), (show q < l.length by omega), a_getD _ _ _ (show q < l.length by omega)]
    repeat ((with_reducible refine And.intro ?_ ?_); (focus (first | omega | (simp only [lenR]; omega) | (refine qq ?_; rfl) | (refine dq ?_; kernel_rfl) | (intros; simp_all; done))))
    refine ⟨(l.getD q default).parent, ⟨by omega, h2⟩, by omega, ?_⟩
    refine weak_to [] [] rfl List.nodup_nil ?_ rfl
    simp only [zC, seval, implies_true, Nat.reduceLeDiff, Nat.reduceEqDiff, reduceCtorEq, reduceIte]
  ·have hc : ¬ 0 ≤ p := by simpa using hc
   refine ⟨_, _, ret_d, ?_, rfl⟩
   rw [← h2, under_neg hc]
def selfF (l : List SliceT) (i : Nat) : Nat → Int
 | 0 => IntKind.i64.wrap ((l.getD i default).hi - (l.getD i default).lo)
 | j + 1 => if ((l.getD j default).parent == (i : Int)) = true then IntKind.i64.wrap (selfF l i j - IntKind.i64.wrap ((l.getD j default).hi - (l.getD j default).lo)) else selfF l i j
def clashS (l : List SliceT) (j i : Nat) : Bool := decide ((j : Int) < i) && ((l.getD j default).thread == (l.getD i default).thread) && decide ((l.getD i default).lo < (l.getD j default).hi) && decide ((l.getD j default).lo < (l.getD i default).hi) && !underW l j i
def apartAt (l : List SliceT) (i : Nat) : Bool := ((List.range l.length).all fun j => !clashS l j i) && ((l.getD i default).self == selfF l i l.length)
def apartF (l : List SliceT) : Bool := (List.range l.length).all (apartAt l)
theorem k_apart (l : List SliceT) (hl : l.length < 1000000) (hn : nestF l = true) : Pure Tryz.prog Gl 142 [.d (.sl (l.map SliceT.toD))] (.d (.bool (apartF l))) := by
 refine Pure.of1 ?_
 refine acalls_of Tryz.func142 rfl rfl (by simp [Tryz.ntmps142]) (evC_sound rfl _ _ _ _ ?_)
 simp only [Tryz.ntmps142, Tryz.results142, argEnv, List.length_nil]
 simp only [zC, seval, implies_true, Nat.reduceLeDiff, Nat.reduceEqDiff, reduceCtorEq, reduceIte]
 refine for_of l.length (fun k => [(0, .d (.sl (l.map SliceT.toD))), (8, .d (.sl (l.map SliceT.toD))), (9, .d (.int .i64 l.length)), (10, .d (.int .i64 k))]) (fun _ => []) (fun k => (List.range k).all (apartAt l) = true) rfl ?_ ?_
 ·refine weak_to [] [] rfl List.nodup_nil ?_ rfl
  simp only [zC, seval, implies_true, Nat.reduceLeDiff, Nat.reduceEqDiff, reduceCtorEq, reduceIte, Int.cast_ofNat_Int]
 ·intro k hi hk
  by_cases h : k < l.length
  ·obtain ⟨b, eb⟩ : ∃ b, b = l.getD k default := ⟨_, rfl⟩
   have hbad : apartAt l k = false → apartF l = false := fun h1 => range_all_at h h1
   simp only [zC, seval, implies_true, Nat.reduceLeDiff, Nat.reduceEqDiff, reduceCtorEq, reduceIte, (show (k:Int) < l.length by omega), h, a_getD _ _ _ (show k < l.length by omega), ← eb]
   repeat ((with_reducible refine And.intro ?_ ?_); (focus (first | omega | (simp only [lenR]; omega) | (refine qq ?_; rfl) | (refine dq ?_; kernel_rfl) | (intros; simp_all; done))))
   refine for_of l.length (fun j => [(0, .d (.sl (l.map SliceT.toD))), (3, .d (.int .i64 k)), (4, .ptr 0 0), (5, .d (.int .i64 (selfF l k j))), (8, .d (.sl (l.map SliceT.toD))), (9, .d (.int .i64 l.length)), (10, .d (.int .i64 k)), (22, .d (.sl (l.map SliceT.toD))), (23, .d (.int .i64 l.length)), (24, .d (.int .i64 j))]) (fun _ => [.box 8 (.d b.toD)]) (fun j => ((List.range j).all fun j => !clashS l j k) = true) rfl ?_ ?_
   ·refine weak_to [] [0] rfl (by simp) ?_ rfl
    simp only [zC, seval, implies_true, Nat.reduceLeDiff, Nat.reduceEqDiff, reduceCtorEq, reduceIte, Int.cast_ofNat_Int, selfF, ← eb]
    all_goals rfl
   ·intro j hj hjk
    by_cases h2 : j < l.length
    ·obtain ⟨a, ea⟩ : ∃ a, a = l.getD j default := ⟨_, rfl⟩
     simp only [zC, seval, implies_true, Nat.reduceLeDiff, Nat.reduceEqDiff, reduceCtorEq, reduceIte, (show (j:Int) < l.length by omega), h2, a_getD _ _ _ (show j < l.length by omega), ← ea]
     repeat ((with_reducible refine And.intro ?_ ?_); (focus (first | omega | (simp only [lenR]; omega) | (refine qq ?_; rfl) | (refine dq ?_; kernel_rfl) | (intros; simp_all; done))))
     cases h3 : (a.parent == (k : Int)) with
     | true =>
      have hS : selfF l k (j + 1) = IntKind.i64.wrap (selfF l k j - IntKind.i64.wrap (a.hi - a.lo)) := by rw [selfF, ← ea, if_pos h3]
      simp only [zC, seval, implies_true, Nat.reduceLeDiff, Nat.reduceEqDiff, reduceCtorEq, reduceIte]
      repeat ((with_reducible refine And.intro ?_ ?_); (focus (first | omega | (simp only [lenR]; omega) | (refine qq ?_; rfl) | (refine dq ?_; kernel_rfl) | (intros; simp_all; done))))
      refine callG_pure (fun _ => k_under l hl hn j k (by omega)) ?_
      simp only [zC, seval, implies_true, Nat.reduceLeDiff, Nat.reduceEqDiff, reduceCtorEq, reduceIte]
      repeat ((with_reducible refine And.intro ?_ ?_); (focus (first | omega | (simp only [lenR]; omega) | (refine qq ?_; rfl) | (refine dq ?_; kernel_rfl) | (intros; simp_all; done))))
      refine ifC.mk (fun hc => ?_) (fun hc => ?_)
      ·refine ⟨_, _, ret_d, ?_, rfl⟩
       rw [hbad (by unfold apartAt; rw [range_all_at h2 (by simp only [clashS, ← eb, ← ea]; rw [hc]; rfl)]; rfl)]
      ·refine ⟨by rw [range_all, hj]; simp only [clashS, ← eb, ← ea]; rw [hc]; rfl, ?_⟩
       refine weak_to [] [0] rfl (by simp) ?_ rfl
       simp only [zC, seval, implies_true, Nat.reduceLeDiff, Nat.reduceEqDiff, reduceCtorEq, reduceIte, @a_wrap ((j:Int) + 1) (by omega), hS]
       all_goals rfl
     | false =>
      have hS : selfF l k (j + 1) = selfF l k j := by rw [selfF, ← ea, if_neg (by rw [h3]; simp)]
      simp only [zC, seval, implies_true, Nat.reduceLeDiff, Nat.reduceEqDiff, reduceCtorEq, reduceIte]
      repeat ((with_reducible refine And.intro ?_ ?_); (focus (first | omega | (simp only [lenR]; omega) | (refine qq ?_; rfl) | (refine dq ?_; kernel_rfl) | (intros; simp_all; done))))
      refine callG_pure (fun _ => k_under l hl hn j k (by omega)) ?_
      simp only [zC, seval, implies_true, Nat.reduceLeDiff, Nat.reduceEqDiff, reduceCtorEq, reduceIte]
      repeat ((with_reducible refine And.intro ?_ ?_); (focus (first | omega | (simp only [lenR]; omega) | (refine qq ?_; rfl) | (refine dq ?_; kernel_rfl) | (intros; simp_all; done))))
      refine ifC.mk (fun hc => ?_) (fun hc => ?_)
      ·refine ⟨_, _, ret_d, ?_, rfl⟩
       rw [hbad (by unfold apartAt; rw [range_all_at h2 (by simp only [clashS, ← eb, ← ea]; rw [hc]; rfl)]; rfl)]
      ·refine ⟨by rw [range_all, hj]; simp only [clashS, ← eb, ← ea]; rw [hc]; rfl, ?_⟩
       refine weak_to [] [0] rfl (by simp) ?_ rfl
       simp only [zC, seval, implies_true, Nat.reduceLeDiff, Nat.reduceEqDiff, reduceCtorEq, reduceIte, @a_wrap ((j:Int) + 1) (by omega), hS]
       all_goals rfl
    ·simp only [zC, seval, implies_true, Nat.reduceLeDiff, Nat.reduceEqDiff, reduceCtorEq, reduceIte, (show ¬ (j:Int) < l.length by omega)]
     have hjn : j = l.length := by omega
     subst hjn
     have hat : apartAt l k = (b.self == selfF l k l.length) := by unfold apartAt; rw [hj, ← eb, Bool.true_and]
     refine ifC.mk (fun hc => ?_) (fun hc => ?_)
     ·refine ⟨_, _, ret_d, ?_, rfl⟩
      rw [hbad (by rw [hat]; simpa using hc)]
     ·have hat : apartAt l k = true := by rw [hat]; simpa using hc
      refine ⟨by rw [range_all, hi, hat]; rfl, ?_⟩
      refine weak_to [] [] rfl List.nodup_nil ?_ rfl
      simp only [zC, seval, implies_true, Nat.reduceLeDiff, Nat.reduceEqDiff, reduceCtorEq, reduceIte, @a_wrap ((k:Int) + 1) (by omega)]
  ·simp only [zC, seval, implies_true, Nat.reduceLeDiff, Nat.reduceEqDiff, reduceCtorEq, reduceIte, (show ¬ (k:Int) < l.length by omega)]
   refine ⟨_, _, ret_d, ?_, rfl⟩
   have : k = l.length := by omega
   rw [apartF, ← this, hi]
def slAt (l : List SliceT) (k : Nat) : Int :=
 if (decide ((l.getD k default).thread < 0) || decide (1000000000000000 < (l.getD k default).thread) || !okSpan (l.getD k default).lo (l.getD k default).hi) = true then 2
 else if nameF (l.getD k default).name ≠ 0 then nameF (l.getD k default).name
 else if (decide (0 < k) && decide (0 < cmpSl (l.getD (k - 1) default) (l.getD k default))) = true then 11 else 0
def sliceF (l : List SliceT) : Int := if firstErr (slAt l) l.length ≠ 0 then firstErr (slAt l) l.length else if (nestF l && apartF l) = true then 0 else 10
theorem slAt_bad {l : List SliceT} {k : Nat} (h : (decide ((l.getD k default).thread < 0) || decide (1000000000000000 < (l.getD k default).thread) || !okSpan (l.getD k default).lo (l.getD k default).hi) = true) : slAt l k = 2 := by rw [slAt, if_pos h]
theorem slAt_n {l : List SliceT} {k : Nat} (h : (decide ((l.getD k default).thread < 0) || decide (1000000000000000 < (l.getD k default).thread) || !okSpan (l.getD k default).lo (l.getD k default).hi) = false) (h2 : nameF (l.getD k default).name ≠ 0) : slAt l k = nameF (l.getD k default).name := by rw [slAt, if_neg (by rw [h]; simp), if_pos h2]
theorem slAt_ok {l : List SliceT} {k : Nat} (h : (decide ((l.getD k default).thread < 0) || decide (1000000000000000 < (l.getD k default).thread) || !okSpan (l.getD k default).lo (l.getD k default).hi) = false) (h2 : nameF (l.getD k default).name = 0) : slAt l k = if (decide (0 < k) && decide (0 < cmpSl (l.getD (k - 1) default) (l.getD k default))) = true then 11 else 0 := by rw [slAt, if_neg (by rw [h]; simp), if_neg (by rw [h2]; simp)]
theorem k_sliceCheck (l : List SliceT) (hl : l.length < 1000000) : Pure Tryz.prog Gl 97 [.d (.sl (l.map SliceT.toD))] (.d (.int .i64 (sliceF l))) := by
 refine Pure.of1 ?_
 refine acalls_of Tryz.func97 rfl rfl (by simp [Tryz.ntmps97]) (evC_sound rfl _ _ _ _ ?_)
 simp only [Tryz.ntmps97, Tryz.results97, argEnv, List.length_nil]
 simp only [zC, seval, implies_true, Nat.reduceLeDiff, Nat.reduceEqDiff, reduceCtorEq, reduceIte]
 refine for_of l.length (fun k => [(0, .d (.sl (l.map SliceT.toD))), (6, .d (.sl (l.map SliceT.toD))), (7, .d (.int .i64 l.length)), (8, .d (.int .i64 k))]) (fun _ => []) (fun k => firstErr (slAt l) k = 0) rfl ?_ ?_
 ·refine weak_to [] [] rfl List.nodup_nil ?_ rfl
  simp only [zC, seval, implies_true, Nat.reduceLeDiff, Nat.reduceEqDiff, reduceCtorEq, reduceIte, Int.cast_ofNat_Int]
 ·intro k hi hk
  by_cases h : k < l.length
  ·have hb : ∀ e, slAt l k = e → e ≠ 0 → sliceF l = e := fun e h1 h2 => by
    have := firstErr_at hi (by rw [h1]; exact h2) h
    rw [sliceF, this, h1, if_pos h2]
   obtain ⟨b, eb⟩ : ∃ b, b = l.getD k default := ⟨_, rfl⟩
   simp only [zC, seval, implies_true, Nat.reduceLeDiff, Nat.reduceEqDiff, reduceCtorEq, reduceIte, (show (k:Int) < l.length by omega), h, a_getD _ _ _ (show k < l.length by omega), ← eb]
   repeat ((with_reducible refine And.intro ?_ ?_); (focus (first | omega | (simp only [lenR]; omega) | (refine qq ?_; rfl) | (refine dq ?_; kernel_rfl) | (intros; simp_all; done))))
   refine callG_pure (fun _ => k_Valid _ _) ?_
   simp only [zC, seval, implies_true, Nat.reduceLeDiff, Nat.reduceEqDiff, reduceCtorEq, reduceIte]
   repeat ((with_reducible refine And.intro ?_ ?_); (focus (first | omega | (simp only [lenR]; omega) | (refine qq ?_; rfl) | (refine dq ?_; kernel_rfl) | (intros; simp_all; done))))
   refine ifC.mk (fun h1 => ?_) (fun h1 => ?_)
   ·refine ⟨_, _, ret_d, ?_, rfl⟩
    rw [hb 2 (slAt_bad (by rw [← eb]; exact h1)) (by omega)]
   ·refine callF_pure (k_Name _) ?_
    simp only [zC, seval, implies_true, Nat.reduceLeDiff, Nat.reduceEqDiff, reduceCtorEq, reduceIte]
    refine ifC.mk (fun h2 => ?_) (fun h2 => ?_)
    ·have h2 : nameF b.name ≠ 0 := by simpa using h2
     refine ⟨_, _, ret_d, ?_, rfl⟩
     rw [hb _ (slAt_n (by rw [← eb]; exact h1) (by rw [← eb]; exact h2)) (by rw [← eb]; exact h2), ← eb]
    ·have ho := slAt_ok (l := l) (k := k) (by rw [← eb]; exact h1) (by rw [← eb]; simpa using h2)
     rw [← eb] at ho
     by_cases hk0 : 0 < k
     ·have e1 : IntKind.i64.wrap ((k : Int) - 1) = ((k - 1 : Nat) : Int) := by rw [wrap64 (by omega) (by omega)]; omega
      obtain ⟨a, ea⟩ : ∃ a, a = l.getD (k - 1) default := ⟨_, rfl⟩
      rw [decide_eq_true hk0, Bool.true_and, ← ea] at ho
      simp only [zC, seval, implies_true, Nat.reduceLeDiff, Nat.reduceEqDiff, reduceCtorEq, reduceIte, (show (0:Int) < k by omega), e1, (show ((k - 1 : Nat) : Int) < l.length by omega), (show k - 1 < l.length by omega), a_getD _ _ _ (show k - 1 < l.length by omega), ← ea]
      repeat ((with_reducible refine And.intro ?_ ?_); (focus (first | omega | (simp only [lenR]; omega) | (refine qq ?_; rfl) | (refine dq ?_; kernel_rfl) | (intros; simp_all; done))))
      refine callG_pure (fun _ => k_compare _ _) ?_
      simp only [zC, seval, implies_true, Nat.reduceLeDiff, Nat.reduceEqDiff, reduceCtorEq, reduceIte]
      repeat ((with_reducible refine And.intro ?_ ?_); (focus (first | omega | (simp only [lenR]; omega) | (refine qq ?_; rfl) | (refine dq ?_; kernel_rfl) | (intros; simp_all; done))))
      refine ifC.mk (fun h3 => ?_) (fun h3 => ?_)
      ·refine ⟨_, _, ret_d, ?_, rfl⟩
       rw [if_pos h3] at ho
       rw [hb 11 ho (by omega)]
      ·rw [if_neg (by rw [h3]; simp)] at ho
       refine ⟨firstErr_step hi ho, ?_⟩
       refine weak_to [] [] rfl List.nodup_nil ?_ rfl
       simp only [zC, seval, implies_true, Nat.reduceLeDiff, Nat.reduceEqDiff, reduceCtorEq, reduceIte, @a_wrap ((k:Int) + 1) (by omega)]
     ·rw [decide_eq_false hk0, Bool.false_and, if_neg (by simp)] at ho
      have e0 : (IntKind.i64.wrap ((k : Int) - 1)).toNat = 0 := by rw [wrap64 (by omega) (by omega)]; omega
      simp only [zC, seval, implies_true, Nat.reduceLeDiff, Nat.reduceEqDiff, reduceCtorEq, reduceIte, (show ¬ (0:Int) < k by omega), e0, a_getD _ _ _ (show 0 < l.length by omega)]
      repeat ((with_reducible refine And.intro ?_ ?_); (focus (first | omega | (simp only [lenR]; omega) | (refine qq ?_; rfl) | (refine dq ?_; kernel_rfl) | (intros; simp_all; done))))
      refine callG_pure (v := .d (.int .i64 0)) (fun h => by cases h) ?_
      simp only [zC, seval, implies_true, Nat.reduceLeDiff, Nat.reduceEqDiff, reduceCtorEq, reduceIte, e0, a_getD _ _ _ (show 0 < l.length by omega)]
      repeat ((with_reducible refine And.intro ?_ ?_); (focus (first | omega | (simp only [lenR]; omega) | (refine qq ?_; rfl) | (refine dq ?_; kernel_rfl) | (intros; simp_all; done))))
      refine ⟨firstErr_step hi ho, ?_⟩
      refine weak_to [] [] rfl List.nodup_nil ?_ rfl
      simp only [zC, seval, implies_true, Nat.reduceLeDiff, Nat.reduceEqDiff, reduceCtorEq, reduceIte, @a_wrap ((k:Int) + 1) (by omega)]
  ·simp only [zC, seval, implies_true, Nat.reduceLeDiff, Nat.reduceEqDiff, reduceCtorEq, reduceIte, (show ¬ (k:Int) < l.length by omega)]
   have : k = l.length := by omega
   subst this
   have hF : sliceF l = if (nestF l && apartF l) = true then 0 else 10 := by rw [sliceF, hi, if_neg (by simp)]
   refine callF_pure (k_nested l hl) ?_
   simp only [zC, seval, implies_true, Nat.reduceLeDiff, Nat.reduceEqDiff, reduceCtorEq, reduceIte]
   cases hn : nestF l with
   | false =>
    rw [hn, Bool.false_and, if_neg (by simp)] at hF
    repeat ((with_reducible refine And.intro ?_ ?_); (focus (first | omega | (simp only [lenR]; omega) | (refine qq ?_; rfl) | (refine dq ?_; kernel_rfl) | (intros; simp_all; done))))
    refine callG_pure (v := .d (.bool false)) (fun h => by cases h) ?_
    simp only [zC, seval, implies_true, Nat.reduceLeDiff, Nat.reduceEqDiff, reduceCtorEq, reduceIte]
    refine ⟨_, _, ret_d, ?_, rfl⟩
    rw [hF]
   | true =>
    rw [hn, Bool.true_and] at hF
    repeat ((with_reducible refine And.intro ?_ ?_); (focus (first | omega | (simp only [lenR]; omega) | (refine qq ?_; rfl) | (refine dq ?_; kernel_rfl) | (intros; simp_all; done))))
    refine callG_pure (fun _ => k_apart l hl hn) ?_
    simp only [zC, seval, implies_true, Nat.reduceLeDiff, Nat.reduceEqDiff, reduceCtorEq, reduceIte]
    cases ha : apartF l with
    | false =>
     simp only [zC, seval, implies_true, Nat.reduceLeDiff, Nat.reduceEqDiff, reduceCtorEq, reduceIte]
     refine ⟨_, _, ret_d, ?_, rfl⟩
     rw [hF, ha, if_neg (by simp)]
    | true =>
     simp only [zC, seval, implies_true, Nat.reduceLeDiff, Nat.reduceEqDiff, reduceCtorEq, reduceIte]
     refine ⟨_, _, ret_d, ?_, rfl⟩
     rw [hF, ha, if_pos rfl]
end YtadfcljoocjhdaaGreat
end Go.Proofs
