/- A part of the proof: contracts of functions of this seat, and lemmas. No condition beyond those stated. -/
import Derived.Test.YtadfcljoocjhdaaGreatWtq
set_option linter.unusedVariables false
set_option linter.unusedSimpArgs false
set_option linter.unusedSectionVars false
set_option linter.unnecessarySimpa false
set_option maxRecDepth 100000
namespace Go.Proofs
open Go.AM
namespace YtadfcljoocjhdaaGreat
variable {Gl : Globs}
theorem k_Rindex (xs : List ThreadT) (x : Int) (hl : xs.length < 2000000) (B : Blk) (hB : ArrOrFrz 3 (xs.map ThreadT.toD) B) : ACalls Tryz.prog Gl 160 [.osl 0 0 xs.length, .d (.int .i64 x)] [B] (fun r s => r = .d (.int .i64 (idxF (fun y : ThreadT => y.id == x) xs)) ∧ s = [B]) := by
 rcases hB with rfl | rfl
 ·refine acalls_of Tryz.func160 rfl rfl (by simp [Tryz.ntmps160]) (evC_sound rfl _ _ _ _ ?_)
  simp only [Tryz.ntmps160, Tryz.results160, argEnv, List.length_nil]
  simp only [zC, seval, implies_true, Nat.reduceLeDiff, Nat.reduceEqDiff, reduceCtorEq, reduceIte]
  refine for_of xs.length (fun k => [(0, .osl 0 0 xs.length), (1, .d (.int .i64 x)), (5, .d (.int .i64 k))]) (fun _ => [.arr 3 (xs.map ThreadT.toD)]) (fun k => (xs.take k).any (fun y => y.id == x) = false) rfl ?_ ?_
  ·refine weak_to [] [0] rfl (by simp) ?_ rfl
   simp only [zC, seval, implies_true, Nat.reduceLeDiff, Nat.reduceEqDiff, reduceCtorEq, reduceIte, Int.cast_ofNat_Int]
   all_goals rfl
  ·intro k hi hk
   by_cases h : k < xs.length
   ·have hs := any_take (fun y : ThreadT => y.id == x) xs k h
    simp only [zC, seval, implies_true, Nat.reduceLeDiff, Nat.reduceEqDiff, reduceCtorEq, reduceIte, (show (k:Int) < xs.length by omega), h, a_getD _ _ _ (show k < xs.length by omega)]
    repeat ((with_reducible refine And.intro ?_ ?_); (focus (first | omega | (simp only [lenR]; omega) | (refine qq ?_; rfl) | (refine dq ?_; kernel_rfl) | (intros; simp_all; done))))
    refine ifC.mk (fun hc => ?_) (fun hc => ?_)
    ·refine ⟨_, _, weakR_to [] [0] rfl (by simp) (show renV _ _ _ = AV.d _ from rfl) rfl, ?_, rfl⟩
     rw [idxF_at h hi hc]
    ·refine ⟨by rw [hs, hi, hc]; rfl, ?_⟩
     refine weak_to [] [0] rfl (by simp) ?_ rfl
     simp only [zC, seval, implies_true, Nat.reduceLeDiff, Nat.reduceEqDiff, reduceCtorEq, reduceIte, @a_wrap ((k:Int) + 1) (by omega)]
     all_goals rfl
   ·simp only [zC, seval, implies_true, Nat.reduceLeDiff, Nat.reduceEqDiff, reduceCtorEq, reduceIte, (show ¬ (k:Int) < xs.length by omega)]
    have : k = xs.length := by omega
    subst this
    rw [List.take_length] at hi
    refine ⟨_, _, weakR_to [] [0] rfl (by simp) (show renV _ _ _ = AV.d _ from rfl) rfl, ?_, rfl⟩
    rw [idxF_none hi]
 ·refine acalls_of Tryz.func160 rfl rfl (by simp [Tryz.ntmps160]) (evC_sound rfl _ _ _ _ ?_)
  simp only [Tryz.ntmps160, Tryz.results160, argEnv, List.length_nil]
  simp only [zC, seval, implies_true, Nat.reduceLeDiff, Nat.reduceEqDiff, reduceCtorEq, reduceIte]
  refine for_of xs.length (fun k => [(0, .osl 0 0 xs.length), (1, .d (.int .i64 x)), (5, .d (.int .i64 k))]) (fun _ => [.frz 3 (xs.map ThreadT.toD)]) (fun k => (xs.take k).any (fun y => y.id == x) = false) rfl ?_ ?_
  ·refine weak_to [] [0] rfl (by simp) ?_ rfl
   simp only [zC, seval, implies_true, Nat.reduceLeDiff, Nat.reduceEqDiff, reduceCtorEq, reduceIte, Int.cast_ofNat_Int]
   all_goals rfl
  ·intro k hi hk
   by_cases h : k < xs.length
   ·have hs := any_take (fun y : ThreadT => y.id == x) xs k h
    simp only [zC, seval, implies_true, Nat.reduceLeDiff, Nat.reduceEqDiff, reduceCtorEq, reduceIte, (show (k:Int) < xs.length by omega), h, a_getD _ _ _ (show k < xs.length by omega)]
    repeat ((with_reducible refine And.intro ?_ ?_); (focus (first | omega | (simp only [lenR]; omega) | (refine qq ?_; rfl) | (refine dq ?_; kernel_rfl) | (intros; simp_all; done))))
    refine ifC.mk (fun hc => ?_) (fun hc => ?_)
    ·refine ⟨_, _, weakR_to [] [0] rfl (by simp) (show renV _ _ _ = AV.d _ from rfl) rfl, ?_, rfl⟩
     rw [idxF_at h hi hc]
    ·refine ⟨by rw [hs, hi, hc]; rfl, ?_⟩
     refine weak_to [] [0] rfl (by simp) ?_ rfl
     simp only [zC, seval, implies_true, Nat.reduceLeDiff, Nat.reduceEqDiff, reduceCtorEq, reduceIte, @a_wrap ((k:Int) + 1) (by omega)]
     all_goals rfl
   ·simp only [zC, seval, implies_true, Nat.reduceLeDiff, Nat.reduceEqDiff, reduceCtorEq, reduceIte, (show ¬ (k:Int) < xs.length by omega)]
    have : k = xs.length := by omega
    subst this
    rw [List.take_length] at hi
    refine ⟨_, _, weakR_to [] [0] rfl (by simp) (show renV _ _ _ = AV.d _ from rfl) rfl, ?_, rfl⟩
    rw [idxF_none hi]
theorem k_RindexD (xs : List ThreadT) (x : Int) (hl : xs.length < 1000000) : Pure Tryz.prog Gl 160 [.d (.sl (xs.map ThreadT.toD)), .d (.int .i64 x)] (.d (.int .i64 (idxF (fun y : ThreadT => y.id == x) xs))) := by
 refine Pure.of2 ?_
 refine acalls_of Tryz.func160 rfl rfl (by simp [Tryz.ntmps160]) (evC_sound rfl _ _ _ _ ?_)
 simp only [Tryz.ntmps160, Tryz.results160, argEnv, List.length_nil]
 simp only [zC, seval, implies_true, Nat.reduceLeDiff, Nat.reduceEqDiff, reduceCtorEq, reduceIte]
 refine for_of xs.length (fun k => [(0, .d (.sl (xs.map ThreadT.toD))), (1, .d (.int .i64 x)), (5, .d (.int .i64 k))]) (fun _ => []) (fun k => (xs.take k).any (fun y => y.id == x) = false) rfl ?_ ?_
 ·refine weak_to [] [] rfl List.nodup_nil ?_ rfl
  simp only [zC, seval, implies_true, Nat.reduceLeDiff, Nat.reduceEqDiff, reduceCtorEq, reduceIte, Int.cast_ofNat_Int]
 ·intro k hi hk
  by_cases h : k < xs.length
  ·have hs := any_take (fun y : ThreadT => y.id == x) xs k h
   simp only [zC, seval, implies_true, Nat.reduceLeDiff, Nat.reduceEqDiff, reduceCtorEq, reduceIte, (show (k:Int) < xs.length by omega), h, a_getD _ _ _ (show k < xs.length by omega)]
   repeat ((with_reducible refine And.intro ?_ ?_); (focus (first | omega | (simp only [lenR]; omega) | (refine qq ?_; rfl) | (refine dq ?_; kernel_rfl) | (intros; simp_all; done))))
   refine ifC.mk (fun hc => ?_) (fun hc => ?_)
   ·refine ⟨_, _, ret_d, ?_, rfl⟩
    rw [idxF_at h hi hc]
   ·refine ⟨by rw [hs, hi, hc]; rfl, ?_⟩
    refine weak_to [] [] rfl List.nodup_nil ?_ rfl
    simp only [zC, seval, implies_true, Nat.reduceLeDiff, Nat.reduceEqDiff, reduceCtorEq, reduceIte, @a_wrap ((k:Int) + 1) (by omega)]
  ·simp only [zC, seval, implies_true, Nat.reduceLeDiff, Nat.reduceEqDiff, reduceCtorEq, reduceIte, (show ¬ (k:Int) < xs.length by omega)]
   have : k = xs.length := by omega
   subst this
   rw [List.take_length] at hi
   refine ⟨_, _, ret_d, ?_, rfl⟩
   rw [idxF_none hi]
def distT (l : List ThreadT) : List ThreadT := l.foldl (fun out x => if idxF (fun y : ThreadT => y.id == x.id) out < 0 then out ++ [x] else out) []
theorem distT_step (l : List ThreadT) (k : Nat) (h : k < l.length) : distT (l.take (k + 1)) = if idxF (fun y : ThreadT => y.id == (l.getD k default).id) (distT (l.take k)) < 0 then distT (l.take k) ++ [l.getD k default] else distT (l.take k) := by
 rw [take_step l k h]; unfold distT; rw [List.foldl_append]; rfl
theorem idxF_map (x : Int) : ∀ l : List ThreadT, idxF (fun y => x == y) (l.map fun y => y.id) = idxF (fun y : ThreadT => y.id == x) l
 | [] => rfl
 | y :: r => by
  rw [List.map_cons, idxF, idxF, idxF_map x r]
  have : (x == y.id) = (y.id == x) := by rw [Bool.eq_iff_iff]; simp; exact ⟨fun h => h.symm, fun h => h.symm⟩
  rw [this]
theorem idx_neg (x : Int) (l : List Int) : idxF (fun y => x == y) l < 0 ↔ l.any (fun y => x == y) = false := by
 have h1 := idxF_any (fun y => x == y) l
 rw [← h1, decide_eq_false_iff_not]
 omega
theorem distT_map (l : List ThreadT) : ∀ k, (distT (l.take k)).map (fun y => y.id) = distF (l.take k)
 | 0 => by simp [distT, distF]
 | k + 1 => by
  have ih := distT_map l k
  by_cases h : k < l.length
  ·rw [distT_step l k h, distF_step l k h, ← ih]
   have e : idxF (fun y : ThreadT => y.id == (l.getD k default).id) (distT (l.take k)) < 0 ↔ ((distT (l.take k)).map fun y => y.id).any (fun y => (l.getD k default).id == y) = false := by rw [← idxF_map, idx_neg]
   by_cases hc : idxF (fun y : ThreadT => y.id == (l.getD k default).id) (distT (l.take k)) < 0
   ·rw [if_pos hc, if_neg (by rw [e.1 hc]; simp), List.map_append]; rfl
   ·rw [if_neg hc, if_pos (by
     cases hq : ((distT (l.take k)).map fun y => y.id).any (fun y => (l.getD k default).id == y)
     ·exact absurd (e.2 hq) hc
     ·rfl)]
  ·rw [List.take_of_length_le (by omega)]
   rw [List.take_of_length_le (by omega)] at ih
   exact ih
theorem distT_len (l : List ThreadT) (k : Nat) : (distT (l.take k)).length ≤ k := by
 have := distF_len l k
 rw [← distT_map, List.length_map] at this
 exact this
theorem k_Rdistinct (l : List ThreadT) (hl : l.length < 1000000) : Pure Tryz.prog Gl 159 [.d (.sl (l.map ThreadT.toD))] (.d (.sl ((distT l).map ThreadT.toD))) := by
 refine Pure.of1 ?_
 refine acalls_of Tryz.func159 rfl rfl (by simp [Tryz.ntmps159]) (evC_sound rfl _ _ _ _ ?_)
 simp only [Tryz.ntmps159, Tryz.results159, argEnv, List.length_nil]
 simp only [zC, seval, implies_true, Nat.reduceLeDiff, Nat.reduceEqDiff, reduceCtorEq, reduceIte]
 refine for_of l.length (fun k => [(0, .d (.sl (l.map ThreadT.toD))), (3, .osl 0 0 (distT (l.take k)).length), (4, .d (.int .i64 k))]) (fun k => [.arr 3 ((distT (l.take k)).map ThreadT.toD)]) (fun _ => True) trivial ?_ ?_
 ·refine (weak_nils 3 3 rfl).trans ?_
  refine weak_to [] [0] rfl (by simp) ?_ ?_
  ·simp only [zC, seval, implies_true, Nat.reduceLeDiff, Nat.reduceEqDiff, reduceCtorEq, reduceIte, Int.cast_ofNat_Int]
   all_goals rfl
  ·rfl
 ·intro k _ hk
  have hdl := distT_len l k
  by_cases h : k < l.length
  ·have hs := distT_step l k h
   obtain ⟨ys, hys⟩ : ∃ ys, ys = distT (l.take k) := ⟨_, rfl⟩
   rw [← hys] at hs hdl ⊢
   simp only [zC, seval, implies_true, Nat.reduceLeDiff, Nat.reduceEqDiff, reduceCtorEq, reduceIte, (show (k:Int) < l.length by omega), h, a_getD _ _ _ (show k < l.length by omega)]
   repeat ((with_reducible refine And.intro ?_ ?_); (focus (first | omega | (simp only [lenR]; omega) | (refine qq ?_; rfl) | (refine dq ?_; kernel_rfl) | (intros; simp_all; done))))
   refine callD_at1 0 (fun B hB => k_Rindex ys _ (by omega) B hB) (fun _ => rfl) rfl ?_
   simp only [zC, seval, implies_true, Nat.reduceLeDiff, Nat.reduceEqDiff, reduceCtorEq, reduceIte]
   refine ifC.mk (fun hc => ?_) (fun hc => ?_)
   ·rw [if_pos (by simpa using hc)] at hs
    simp only [zC, seval, implies_true, Nat.reduceLeDiff, Nat.reduceEqDiff, reduceCtorEq, reduceIte, take_all, (show (k:Int) < l.length by omega), h, a_getD _ _ _ (show k < l.length by omega)]
    repeat ((with_reducible refine And.intro ?_ ?_); (focus (first | omega | (simp only [lenR]; omega) | (refine qq ?_; rfl) | (refine dq ?_; kernel_rfl) | (intros; simp_all; done))))
    rw [hs]
    refine weak_to [] [2] rfl (by simp) ?_ ?_
    ·simp only [zC, seval, implies_true, Nat.reduceLeDiff, Nat.reduceEqDiff, reduceCtorEq, reduceIte, @a_wrap ((k:Int) + 1) (by omega)]
     all_goals rfl
    ·simp only [zC, seval, implies_true, Nat.reduceLeDiff, Nat.reduceEqDiff, reduceCtorEq, reduceIte, List.map_append]
     all_goals rfl
   ·rw [if_neg (by simpa using hc)] at hs
    simp only [zC, seval, implies_true, Nat.reduceLeDiff, Nat.reduceEqDiff, reduceCtorEq, reduceIte, hs]
    refine weak_to [] [0] rfl (by simp) ?_ rfl
    simp only [zC, seval, implies_true, Nat.reduceLeDiff, Nat.reduceEqDiff, reduceCtorEq, reduceIte, @a_wrap ((k:Int) + 1) (by omega)]
    all_goals rfl
  ·have : k = l.length := by omega
   subst this
   simp only [zC, seval, implies_true, Nat.reduceLeDiff, Nat.reduceEqDiff, reduceCtorEq, reduceIte, (show ¬ (l.length:Int) < l.length by omega), List.take_length]
   refine ⟨_, _, ret_data rfl ?_, rfl, rfl⟩
   simp only [zC, seval, implies_true, Nat.reduceLeDiff, Nat.reduceEqDiff, reduceCtorEq, reduceIte, take_all]
theorem k_right (s : StateT) : Pure Tryz.prog Gl 161 [.d s.toD] (.d (.bool (fieldsB s))) := by
 refine Pure.of1 ?_
 refine acalls_of Tryz.func161 rfl rfl (by simp [Tryz.ntmps161]) (evC_sound rfl _ _ _ _ ?_)
 simp only [Tryz.ntmps161, Tryz.results161, argEnv, List.length_nil]
 simp only [zC, seval, implies_true, Nat.reduceLeDiff, Nat.reduceEqDiff, reduceCtorEq, reduceIte]
 repeat ((with_reducible refine And.intro ?_ ?_); (focus (first | omega | (simp only [lenR]; omega) | (refine qq ?_; rfl) | (refine dq ?_; kernel_rfl) | (intros; simp_all; done))))
 refine ifC.mk (fun h1 => ?_) (fun h1 => ?_)
 ·refine ⟨_, _, ret_d, ?_, rfl⟩
  refine congrArg (fun b => AV.d (D.bool b)) ?_
  unfold fieldsB
  cases e4 : (s.state == 4) <;> cases e2 : (s.state == 2) <;> simp_all <;> omega
 ·repeat ((with_reducible refine And.intro ?_ ?_); (focus (first | omega | (simp only [lenR]; omega) | (refine qq ?_; rfl) | (refine dq ?_; kernel_rfl) | (intros; simp_all; done))))
  have e63 : decide (63 < s.cpu) = decide (64 ≤ s.cpu) := by rw [decide_eq_decide]; omega
  rw [e63]
  refine ifC.mk (fun h2 => ?_) (fun h2 => ?_)
  ·refine ⟨_, _, ret_d, ?_, rfl⟩
   refine congrArg (fun b => AV.d (D.bool b)) ?_
   unfold fieldsB
   cases e4 : (s.state == 4) <;> cases e2 : (s.state == 2) <;> simp_all <;> omega
  ·repeat ((with_reducible refine And.intro ?_ ?_); (focus (first | omega | (simp only [lenR]; omega) | (refine qq ?_; rfl) | (refine dq ?_; kernel_rfl) | (intros; simp_all; done))))
   refine ifC.mk (fun h3 => ?_) (fun h3 => ?_)
   ·refine ⟨_, _, ret_d, ?_, rfl⟩
    refine congrArg (fun b => AV.d (D.bool b)) ?_
    unfold fieldsB
    cases e4 : (s.state == 4) <;> cases e2 : (s.state == 2) <;> simp_all <;> omega
   ·repeat ((with_reducible refine And.intro ?_ ?_); (focus (first | omega | (simp only [lenR]; omega) | (refine qq ?_; rfl) | (refine dq ?_; kernel_rfl) | (intros; simp_all; done))))
    have e : (decide (0 ≤ s.by_) && decide (s.by_ ≤ 1000000000000000) && (s.state == 1 || s.state == 2)) = ((s.state == 1 || s.state == 2) && decide (0 ≤ s.by_) && decide (s.by_ ≤ 1000000000000000)) := by
     cases decide (0 ≤ s.by_) <;> cases decide (s.by_ ≤ 1000000000000000) <;> cases (s.state == 1 || s.state == 2) <;> rfl
    rw [e]
    refine ⟨_, _, ret_d, ?_, rfl⟩
    refine congrArg (fun b => AV.d (D.bool b)) ?_
    unfold fieldsB
    cases e4 : (s.state == 4) <;> cases e2 : (s.state == 2) <;> simp_all <;> omega
theorem idxF_pos {α : Type} [Inhabited α] {p : α → Bool} : ∀ {l : List α} {k : Nat}, idxF p l = k → p (l.getD k default) = true
 | [], k, h => by simp [idxF] at h
 | b :: r, k, h => by
  rw [idxF] at h
  split at h
  ·rename_i hp
   have : k = 0 := by omega
   subst this
   simpa using hp
  ·split at h
   ·omega
   ·have hg := idxF_ge p r
    obtain ⟨j, rfl⟩ : ∃ j, k = j + 1 := ⟨k - 1, by omega⟩
    have := idxF_pos (p := p) (l := r) (k := j) (by omega)
    simpa using this
theorem idxI_inj {ids : List Int} {x y : Int} (h : 0 ≤ idxI ids x) (e : idxI ids x = idxI ids y) : x = y := by
 unfold idxI at h e
 obtain ⟨k, hk⟩ : ∃ k : Nat, idxF (fun z => x == z) ids = k := ⟨(idxF (fun z => x == z) ids).toNat, by omega⟩
 have h1 := idxF_pos hk
 have h2 := idxF_pos (e ▸ hk)
 simp only [beq_iff_eq] at h1 h2
 rw [h1, h2]
end YtadfcljoocjhdaaGreat
end Go.Proofs
