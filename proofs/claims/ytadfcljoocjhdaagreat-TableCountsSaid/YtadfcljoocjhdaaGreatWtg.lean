/- A part of the proof: contracts of functions of this seat, and lemmas. No condition beyond those stated. -/
import Derived.Test.YtadfcljoocjhdaaGreatWtf
set_option linter.unusedVariables false
set_option linter.unusedSimpArgs false
set_option linter.unusedSectionVars false
set_option linter.unnecessarySimpa false
set_option maxRecDepth 100000
namespace Go.Proofs
open Go.AM
namespace YtadfcljoocjhdaaGreat
variable {Gl : Globs}
theorem k_Index (xs : List Int) (x : Int) (hl : xs.length < 2000000) (B : Blk) (hB : ArrOrFrz 1 (xs.map (D.int .i64)) B) : ACalls Tryz.prog Gl 144 [.osl 0 0 xs.length, .d (.int .i64 x)] [B] (fun r s => r = .d (.int .i64 (idxF (fun y => x == y) xs)) ∧ s = [B]) := by
 rcases hB with rfl | rfl
 ·refine acalls_of Tryz.func144 rfl rfl (by simp [Tryz.ntmps144]) (evC_sound rfl _ _ _ _ ?_)
  simp only [Tryz.ntmps144, Tryz.results144, argEnv, List.length_nil]
  simp only [zC, seval, implies_true, Nat.reduceLeDiff, Nat.reduceEqDiff, reduceCtorEq, reduceIte]
  refine for_of xs.length (fun k => [(0, .osl 0 0 xs.length), (1, .d (.int .i64 x)), (7, .d (.int .i64 xs.length)), (8, .d (.int .i64 k))]) (fun _ => [.arr 1 (xs.map (D.int .i64))]) (fun k => (xs.take k).any (fun y => x == y) = false) rfl ?_ ?_
  ·refine weak_to [] [0] rfl (by simp) ?_ rfl
   simp only [zC, seval, implies_true, Nat.reduceLeDiff, Nat.reduceEqDiff, reduceCtorEq, reduceIte, Int.cast_ofNat_Int]
   all_goals rfl
  ·intro k hi hk
   by_cases h : k < xs.length
   ·have hs := any_take (fun y => x == y) xs k h
    simp only [zC, seval, implies_true, Nat.reduceLeDiff, Nat.reduceEqDiff, reduceCtorEq, reduceIte, (show (k:Int) < xs.length by omega), h, a_getD _ _ _ (show k < xs.length by omega)]
    repeat ((with_reducible refine And.intro ?_ ?_); (focus (first | omega | (simp only [lenR]; omega) | (refine qq ?_; rfl) | (refine dq ?_; kernel_rfl) | (intros; simp_all; done))))
    refine ifC.mk (fun hc => ?_) (fun hc => ?_)
    ·refine ⟨_, _, weakR_to [] [0] rfl (by simp) (show renV _ _ _ = AV.d _ from rfl) rfl, ?_, rfl⟩
     rw [idxF_at h hi hc]
    ·refine ⟨by rw [hs, hi, hc]; rfl, ?_⟩
     refine weak_to [] [0] rfl (by simp) ?_ rfl
     simp only [zC, seval, implies_true, Nat.reduceLeDiff, Nat.reduceEqDiff, reduceCtorEq, reduceIte, @a_wrap ((k:Int) + 1) (by omega)]
     all_goals rfl
   ·simp only [zC, seval, implies_true, Nat.reduceLeDiff, Nat.reduceEqDiff, reduceCtorEq, reduceIte, (show ¬ (k:Int) < xs.length by omega)]
    have : k = xs.length := by omega
    subst this
    rw [List.take_length] at hi
    refine ⟨_, _, weakR_to [] [0] rfl (by simp) (show renV _ _ _ = AV.d _ from rfl) rfl, ?_, rfl⟩
    rw [idxF_none hi]
 ·refine acalls_of Tryz.func144 rfl rfl (by simp [Tryz.ntmps144]) (evC_sound rfl _ _ _ _ ?_)
  simp only [Tryz.ntmps144, Tryz.results144, argEnv, List.length_nil]
  simp only [zC, seval, implies_true, Nat.reduceLeDiff, Nat.reduceEqDiff, reduceCtorEq, reduceIte]
  refine for_of xs.length (fun k => [(0, .osl 0 0 xs.length), (1, .d (.int .i64 x)), (7, .d (.int .i64 xs.length)), (8, .d (.int .i64 k))]) (fun _ => [.frz 1 (xs.map (D.int .i64))]) (fun k => (xs.take k).any (fun y => x == y) = false) rfl ?_ ?_
  ·refine weak_to [] [0] rfl (by simp) ?_ rfl
   simp only [zC, seval, implies_true, Nat.reduceLeDiff, Nat.reduceEqDiff, reduceCtorEq, reduceIte, Int.cast_ofNat_Int]
   all_goals rfl
  ·intro k hi hk
   by_cases h : k < xs.length
   ·have hs := any_take (fun y => x == y) xs k h
    simp only [zC, seval, implies_true, Nat.reduceLeDiff, Nat.reduceEqDiff, reduceCtorEq, reduceIte, (show (k:Int) < xs.length by omega), h, a_getD _ _ _ (show k < xs.length by omega)]
    repeat ((with_reducible refine And.intro ?_ ?_); (focus (first | omega | (simp only [lenR]; omega) | (refine qq ?_; rfl) | (refine dq ?_; kernel_rfl) | (intros; simp_all; done))))
    refine ifC.mk (fun hc => ?_) (fun hc => ?_)
    ·refine ⟨_, _, weakR_to [] [0] rfl (by simp) (show renV _ _ _ = AV.d _ from rfl) rfl, ?_, rfl⟩
     rw [idxF_at h hi hc]
    ·refine ⟨by rw [hs, hi, hc]; rfl, ?_⟩
     refine weak_to [] [0] rfl (by simp) ?_ rfl
     simp only [zC, seval, implies_true, Nat.reduceLeDiff, Nat.reduceEqDiff, reduceCtorEq, reduceIte, @a_wrap ((k:Int) + 1) (by omega)]
     all_goals rfl
   ·simp only [zC, seval, implies_true, Nat.reduceLeDiff, Nat.reduceEqDiff, reduceCtorEq, reduceIte, (show ¬ (k:Int) < xs.length by omega)]
    have : k = xs.length := by omega
    subst this
    rw [List.take_length] at hi
    refine ⟨_, _, weakR_to [] [0] rfl (by simp) (show renV _ _ _ = AV.d _ from rfl) rfl, ?_, rfl⟩
    rw [idxF_none hi]
theorem k_IndexD (xs : List Int) (x : Int) (hl : xs.length < 1000000) : Pure Tryz.prog Gl 144 [.d (.sl (xs.map (D.int .i64))), .d (.int .i64 x)] (.d (.int .i64 (idxF (fun y => x == y) xs))) := by
 refine Pure.of2 ?_
 refine acalls_of Tryz.func144 rfl rfl (by simp [Tryz.ntmps144]) (evC_sound rfl _ _ _ _ ?_)
 simp only [Tryz.ntmps144, Tryz.results144, argEnv, List.length_nil]
 simp only [zC, seval, implies_true, Nat.reduceLeDiff, Nat.reduceEqDiff, reduceCtorEq, reduceIte]
 refine for_of xs.length (fun k => [(0, .d (.sl (xs.map (D.int .i64)))), (1, .d (.int .i64 x)), (7, .d (.int .i64 xs.length)), (8, .d (.int .i64 k))]) (fun _ => []) (fun k => (xs.take k).any (fun y => x == y) = false) rfl ?_ ?_
 ·refine weak_to [] [] rfl List.nodup_nil ?_ rfl
  simp only [zC, seval, implies_true, Nat.reduceLeDiff, Nat.reduceEqDiff, reduceCtorEq, reduceIte, Int.cast_ofNat_Int]
 ·intro k hi hk
  by_cases h : k < xs.length
  ·have hs := any_take (fun y => x == y) xs k h
   simp only [zC, seval, implies_true, Nat.reduceLeDiff, Nat.reduceEqDiff, reduceCtorEq, reduceIte, (show (k:Int) < xs.length by omega), h, a_getD _ _ _ (show k < xs.length by omega)]
   repeat ((with_reducible refine And.intro ?_ ?_); (focus (first | omega | (simp only [lenR]; omega) | (refine qq ?_; rfl) | (refine dq ?_; kernel_rfl) | (intros; simp_all; done))))
   refine ifC.mk (fun hc => ?_) (fun hc => ?_)
   ·refine ⟨_, _, ret_d, ?_, rfl⟩
    rw [idxF_at h hi hc]
   ·refine ⟨by rw [hs, hi, hc]; rfl, ?_⟩
    refine weak_to [] [] rfl List.nodup_nil ?_ rfl
    simp only [zC, seval, implies_true, Nat.reduceLeDiff, Nat.reduceEqDiff, reduceCtorEq, reduceIte, @a_wrap ((k:Int) + 1) (by omega)]
  ·simp only [zC, seval, implies_true, Nat.reduceLeDiff, Nat.reduceEqDiff, reduceCtorEq, reduceIte, (show ¬ (k:Int) < xs.length by omega)]
   have : k = xs.length := by omega
   subst this
   rw [List.take_length] at hi
   refine ⟨_, _, ret_d, ?_, rfl⟩
   rw [idxF_none hi]
theorem k_Contains (xs : List Int) (x : Int) (hl : xs.length < 2000000) (B : Blk) (hB : ArrOrFrz 1 (xs.map (D.int .i64)) B) : ACalls Tryz.prog Gl 171 [.osl 0 0 xs.length, .d (.int .i64 x)] [B] (fun r s => r = .d (.bool (xs.any (fun y => x == y))) ∧ s = [B]) := by
 have hix := k_Index (Gl := Gl) xs x hl B hB
 rcases hB with rfl | rfl
 ·refine acalls_of Tryz.func171 rfl rfl (by simp [Tryz.ntmps171]) (evC_sound rfl _ _ _ _ ?_)
  simp only [Tryz.ntmps171, Tryz.results171, argEnv, List.length_nil]
  simp only [zC, seval, implies_true, Nat.reduceLeDiff, Nat.reduceEqDiff, reduceCtorEq, reduceIte]
  refine callF_go (hix.mono fun r s hr => ?_)
  obtain ⟨rfl, rfl⟩ := hr
  simp only [zC, seval, implies_true, Nat.reduceLeDiff, Nat.reduceEqDiff, reduceCtorEq, reduceIte]
  refine ⟨_, _, weakR_to [] [0] rfl (by simp) (show renV _ _ _ = AV.d _ from rfl) rfl, ?_, rfl⟩
  rw [idxF_any]
 ·refine acalls_of Tryz.func171 rfl rfl (by simp [Tryz.ntmps171]) (evC_sound rfl _ _ _ _ ?_)
  simp only [Tryz.ntmps171, Tryz.results171, argEnv, List.length_nil]
  simp only [zC, seval, implies_true, Nat.reduceLeDiff, Nat.reduceEqDiff, reduceCtorEq, reduceIte]
  refine callF_go (hix.mono fun r s hr => ?_)
  obtain ⟨rfl, rfl⟩ := hr
  simp only [zC, seval, implies_true, Nat.reduceLeDiff, Nat.reduceEqDiff, reduceCtorEq, reduceIte]
  refine ⟨_, _, weakR_to [] [0] rfl (by simp) (show renV _ _ _ = AV.d _ from rfl) rfl, ?_, rfl⟩
  rw [idxF_any]
def distF (l : List ThreadT) : List Int := l.foldl (fun out x => if out.any (fun y => x.id == y) = true then out else out ++ [x.id]) []
theorem distF_step (l : List ThreadT) (k : Nat) (h : k < l.length) : distF (l.take (k + 1)) = if (distF (l.take k)).any (fun y => (l.getD k default).id == y) = true then distF (l.take k) else distF (l.take k) ++ [(l.getD k default).id] := by
 rw [take_step l k h]; unfold distF; rw [List.foldl_append]; rfl
theorem distF_len (l : List ThreadT) : ∀ k, (distF (l.take k)).length ≤ k
 | 0 => by simp [distF]
 | k + 1 => by
  have ih := distF_len l k
  by_cases h : k < l.length
  ·rw [distF_step l k h]
   split
   ·omega
   ·rw [List.length_append]; simp only [List.length_cons, List.length_nil]; omega
  ·rw [List.take_of_length_le (by omega)]
   rw [List.take_of_length_le (by omega)] at ih
   omega
theorem k_distinct (l : List ThreadT) (hl : l.length < 1000000) : Pure Tryz.prog Gl 143 [.d (.sl (l.map ThreadT.toD))] (.d (.sl ((distF l).map (D.int .i64)))) := by
 refine Pure.of1 ?_
 refine acalls_of Tryz.func143 rfl rfl (by simp [Tryz.ntmps143]) (evC_sound rfl _ _ _ _ ?_)
 simp only [Tryz.ntmps143, Tryz.results143, argEnv, List.length_nil]
 simp only [zC, seval, implies_true, Nat.reduceLeDiff, Nat.reduceEqDiff, reduceCtorEq, reduceIte]
 refine for_of l.length (fun k => [(3, .osl 0 0 (distF (l.take k)).length), (6, .d (.sl (l.map ThreadT.toD))), (7, .d (.int .i64 l.length)), (8, .d (.int .i64 k))]) (fun k => [.arr 1 ((distF (l.take k)).map (D.int .i64))]) (fun _ => True) trivial ?_ ?_
 ·refine (weak_nils 3 1 rfl).trans ?_
  refine weak_to [] [0] rfl (by simp) ?_ ?_
  ·simp only [zC, seval, implies_true, Nat.reduceLeDiff, Nat.reduceEqDiff, reduceCtorEq, reduceIte, Int.cast_ofNat_Int]
   all_goals rfl
  ·rfl
 ·intro k _ hk
  have hdl := distF_len l k
  by_cases h : k < l.length
  ·have hs := distF_step l k h
   obtain ⟨ys, hys⟩ : ∃ ys, ys = distF (l.take k) := ⟨_, rfl⟩
   rw [← hys] at hs hdl ⊢
   simp only [zC, seval, implies_true, Nat.reduceLeDiff, Nat.reduceEqDiff, reduceCtorEq, reduceIte, (show (k:Int) < l.length by omega), h, a_getD _ _ _ (show k < l.length by omega)]
   repeat ((with_reducible refine And.intro ?_ ?_); (focus (first | omega | (simp only [lenR]; omega) | (refine qq ?_; rfl) | (refine dq ?_; kernel_rfl) | (intros; simp_all; done))))
   refine callD_at1 0 (fun B hB => k_Contains ys _ (by omega) B hB) (fun _ => rfl) rfl ?_
   simp only [zC, seval, implies_true, Nat.reduceLeDiff, Nat.reduceEqDiff, reduceCtorEq, reduceIte]
   cases hc : ys.any (fun y => (l.getD k default).id == y) with
   | true =>
    rw [hc, if_pos rfl] at hs
    simp only [zC, seval, implies_true, Nat.reduceLeDiff, Nat.reduceEqDiff, reduceCtorEq, reduceIte, hs]
    refine weak_to [] [0] rfl (by simp) ?_ rfl
    simp only [zC, seval, implies_true, Nat.reduceLeDiff, Nat.reduceEqDiff, reduceCtorEq, reduceIte, @a_wrap ((k:Int) + 1) (by omega)]
    all_goals rfl
   | false =>
    rw [hc, if_neg (by simp)] at hs
    simp only [zC, seval, implies_true, Nat.reduceLeDiff, Nat.reduceEqDiff, reduceCtorEq, reduceIte, take_all]
    repeat ((with_reducible refine And.intro ?_ ?_); (focus (first | omega | (simp only [lenR]; omega) | (refine qq ?_; rfl) | (refine dq ?_; kernel_rfl) | (intros; simp_all; done))))
    rw [hs]
    refine weak_to [] [3] rfl (by simp) ?_ ?_
    ·simp only [zC, seval, implies_true, Nat.reduceLeDiff, Nat.reduceEqDiff, reduceCtorEq, reduceIte, @a_wrap ((k:Int) + 1) (by omega)]
     all_goals rfl
    ·simp only [zC, seval, implies_true, Nat.reduceLeDiff, Nat.reduceEqDiff, reduceCtorEq, reduceIte, List.map_append]
     all_goals rfl
  ·have : k = l.length := by omega
   subst this
   simp only [zC, seval, implies_true, Nat.reduceLeDiff, Nat.reduceEqDiff, reduceCtorEq, reduceIte, (show ¬ (l.length:Int) < l.length by omega), List.take_length]
   refine ⟨_, _, ret_data rfl ?_, rfl, rfl⟩
   simp only [zC, seval, implies_true, Nat.reduceLeDiff, Nat.reduceEqDiff, reduceCtorEq, reduceIte, take_all]
def fieldsB (s : StateT) : Bool := (decide (0 ≤ s.state) && decide (s.state ≤ 5)) && (if (s.state == 4) = true then decide (0 ≤ s.cpu) && decide (s.cpu < 64) else s.cpu == -1) && (if (s.state == 2) = true then decide (0 ≤ s.on_) && decide (s.on_ ≤ 1000000000000000) else s.on_ == -1)
 && (s.by_ == -1 || ((s.state == 1 || s.state == 2) && decide (0 ≤ s.by_) && decide (s.by_ ≤ 1000000000000000)))
theorem k_fields (s : StateT) : Pure Tryz.prog Gl 145 [.d s.toD] (.d (.bool (fieldsB s))) := by
 refine Pure.of1 ?_
 refine acalls_of Tryz.func145 rfl rfl (by simp [Tryz.ntmps145]) (evC_sound rfl _ _ _ _ ?_)
 simp only [Tryz.ntmps145, Tryz.results145, argEnv, List.length_nil]
 simp only [zC, seval, implies_true, Nat.reduceLeDiff, Nat.reduceEqDiff, reduceCtorEq, reduceIte]
 refine ifC.mk (fun h1 => ?_) (fun h1 => ?_)
 ·refine ⟨_, _, ret_d, ?_, rfl⟩
  refine congrArg (fun b => AV.d (D.bool b)) ?_
  unfold fieldsB
  cases e4 : (s.state == 4) <;> cases e2 : (s.state == 2) <;> simp_all <;> omega
 ·refine ifC.mk (fun h2 => ?_) (fun h2 => ?_)
  ·simp only [zC, seval, implies_true, Nat.reduceLeDiff, Nat.reduceEqDiff, reduceCtorEq, reduceIte, h2]
   refine ⟨_, _, ret_d, ?_, rfl⟩
   refine congrArg (fun b => AV.d (D.bool b)) ?_
   unfold fieldsB
   cases e4 : (s.state == 4) <;> cases e2 : (s.state == 2) <;> simp_all <;> omega
  ·refine ifC.mk (fun h3 => ?_) (fun h3 => ?_)
   ·refine ⟨_, _, ret_d, ?_, rfl⟩
    refine congrArg (fun b => AV.d (D.bool b)) ?_
    unfold fieldsB
    cases e4 : (s.state == 4) <;> cases e2 : (s.state == 2) <;> simp_all <;> omega
   ·refine ifC.mk (fun h4 => ?_) (fun h4 => ?_)
    ·simp only [zC, seval, implies_true, Nat.reduceLeDiff, Nat.reduceEqDiff, reduceCtorEq, reduceIte, h4]
     refine ⟨_, _, ret_d, ?_, rfl⟩
     refine congrArg (fun b => AV.d (D.bool b)) ?_
     unfold fieldsB
     cases e4 : (s.state == 4) <;> cases e2 : (s.state == 2) <;> simp_all <;> omega
    ·refine ifC.mk (fun h5 => ?_) (fun h5 => ?_)
     ·refine ⟨_, _, ret_d, ?_, rfl⟩
      refine congrArg (fun b => AV.d (D.bool b)) ?_
      unfold fieldsB
      cases e4 : (s.state == 4) <;> cases e2 : (s.state == 2) <;> simp_all <;> omega
     ·refine ⟨_, _, ret_d, ?_, rfl⟩
      refine congrArg (fun b => AV.d (D.bool b)) ?_
      unfold fieldsB
      cases e4 : (s.state == 4) <;> cases e2 : (s.state == 2) <;> simp_all <;> omega
def sameU (a b : StateT) : Bool := a.state == b.state && a.cpu == b.cpu && a.on_ == b.on_
theorem k_same (a b : StateT) : Pure Tryz.prog Gl 146 [.d a.toD, .d b.toD] (.d (.bool (sameU a b))) := by
 refine Pure.of2 ?_
 refine acalls_of Tryz.func146 rfl rfl (by simp [Tryz.ntmps146]) (evC_sound rfl _ _ _ _ ?_)
 simp only [Tryz.ntmps146, Tryz.results146, argEnv, List.length_nil]
 simp only [zC, seval, implies_true, Nat.reduceLeDiff, Nat.reduceEqDiff, reduceCtorEq, reduceIte]
 exact ⟨_, _, ret_d, rfl, rfl⟩
end YtadfcljoocjhdaaGreat
end Go.Proofs
