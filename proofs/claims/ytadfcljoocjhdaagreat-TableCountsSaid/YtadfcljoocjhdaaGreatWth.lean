/- A part of the proof: contracts of functions of this seat, and lemmas. No condition beyond those stated. -/
import Derived.Test.YtadfcljoocjhdaaGreatWtg
set_option linter.unusedVariables false
set_option linter.unusedSimpArgs false
set_option linter.unusedSectionVars false
set_option linter.unnecessarySimpa false
set_option maxRecDepth 100000
namespace Go.Proofs
open Go.AM
namespace YtadfcljoocjhdaaGreat
variable {Gl : Globs}
def idxI (ids : List Int) (x : Int) : Int := idxF (fun y => x == y) ids
def atU (ids : List Int) (l : List StateT) : Nat → Int
 | 0 => -1
 | k + 1 => idxI ids (l.getD k default).thread
def ordU (ids : List Int) (l : List StateT) (k : Nat) : Bool :=
 let s := l.getD k default
 let i := idxI ids s.thread
 (i == atU ids l k && (s.lo != (l.getD (k - 1) default).hi || sameU s (l.getD (k - 1) default))) || (i != atU ids l k && (i != atU ids l k + 1 || s.lo != 0))
def uAt (ids : List Int) (l : List StateT) (k : Nat) : Int :=
 if idxI ids (l.getD k default).thread < 0 then 5 else if okSpan (l.getD k default).lo (l.getD k default).hi = false then 2 else if fieldsB (l.getD k default) = false then 1
 else if ordU ids l k = true then 11 else 0
def endAt (l : List StateT) (k : Nat) : Bool := !((((k : Int) + 1 == (l.length : Int)) || (l.getD (k + 1) default).thread != (l.getD k default).thread) && (l.getD k default).hi != (l.getD (l.length - 1) default).hi)
def stateF (ths : List ThreadT) (l : List StateT) : Int :=
 if firstErr (uAt (distF ths) l) l.length ≠ 0 then firstErr (uAt (distF ths) l) l.length else if l.length = 0 then 0 else if (List.range l.length).all (endAt l) = false then 11
 else if atU (distF ths) l l.length + 1 = ((distF ths).length : Int) then 0 else 11
theorem idxI_ge (ids : List Int) (x : Int) : -1 ≤ idxI ids x := idxF_ge _ _
theorem idxF_lt {α : Type} (p : α → Bool) : ∀ l : List α, idxF p l < l.length
 | [] => by simp [idxF]
 | b :: r => by
  have := idxF_lt p r
  unfold idxF
  rw [List.length_cons]
  split
  ·omega
  ·split <;> omega
theorem atU_ge (ids : List Int) (l : List StateT) : ∀ k, -1 ≤ atU ids l k
 | 0 => by simp [atU]
 | k + 1 => idxI_ge _ _
theorem atU_lt (ids : List Int) (l : List StateT) : ∀ k, atU ids l k < ids.length
 | 0 => by simp [atU]; omega
 | k + 1 => idxF_lt _ _
set_option maxHeartbeats 2000000 in
theorem k_stateCheck (ths : List ThreadT) (hth : ths.length < 1000000) (l : List StateT) (hl : l.length < 1000000) : Pure Tryz.prog Gl 99 [.d (.sl (ths.map ThreadT.toD)), .d (.sl (l.map StateT.toD))] (.d (.int .i64 (stateF ths l))) := by
 refine Pure.of2 ?_
 refine acalls_of Tryz.func99 rfl rfl (by simp [Tryz.ntmps99]) (evC_sound rfl _ _ _ _ ?_)
 simp only [Tryz.ntmps99, Tryz.results99, argEnv, List.length_nil]
 simp only [zC, seval, implies_true, Nat.reduceLeDiff, Nat.reduceEqDiff, reduceCtorEq, reduceIte]
 refine callF_pure (k_distinct ths hth) ?_
 obtain ⟨ids, hids⟩ : ∃ ids, ids = distF ths := ⟨_, rfl⟩
 have hil : ids.length < 1000000 := by
  have := distF_len ths ths.length
  rw [List.take_length] at this
  rw [hids]; omega
 obtain ⟨F, hF⟩ : ∃ F, F = stateF ths l := ⟨_, rfl⟩
 rw [← hF]
 rw [stateF, ← hids] at hF
 simp only [zC, seval, implies_true, Nat.reduceLeDiff, Nat.reduceEqDiff, reduceCtorEq, reduceIte]
 refine for_of l.length (fun k => [(1, .d (.sl (l.map StateT.toD))), (5, .d (.sl (ids.map (D.int .i64)))), (6, .d (.int .i64 (atU ids l k))), (16, .d (.sl (l.map StateT.toD))), (17, .d (.int .i64 l.length)), (18, .d (.int .i64 k))]) (fun _ => []) (fun k => firstErr (uAt ids l) k = 0) rfl ?_ ?_
 ·refine weak_to [] [] rfl List.nodup_nil ?_ rfl
  simp only [zC, seval, implies_true, Nat.reduceLeDiff, Nat.reduceEqDiff, reduceCtorEq, reduceIte, Int.cast_ofNat_Int, atU, ← hids]
 ·intro k hi hk
  by_cases h : k < l.length
  ·have hb : ∀ e, uAt ids l k = e → e ≠ 0 → F = e := fun e h1 h2 => by
    have := firstErr_at hi (by rw [h1]; exact h2) h
    rw [hF, this, h1, if_pos h2]
   obtain ⟨b, eb⟩ : ∃ b, b = l.getD k default := ⟨_, rfl⟩
   simp only [zC, seval, implies_true, Nat.reduceLeDiff, Nat.reduceEqDiff, reduceCtorEq, reduceIte, (show (k:Int) < l.length by omega), h, a_getD _ _ _ (show k < l.length by omega), ← eb]
   repeat ((with_reducible refine And.intro ?_ ?_); (focus (first | omega | (simp only [lenR]; omega) | (refine qq ?_; rfl) | (refine dq ?_; kernel_rfl) | (intros; simp_all; done))))
   refine callF_pure (k_IndexD ids b.thread hil) ?_
   obtain ⟨i, ei⟩ : ∃ i, i = idxI ids b.thread := ⟨_, rfl⟩
   rw [show idxF (fun y => b.thread == y) ids = i from by rw [ei]; rfl]
   have hi1 := idxI_ge ids b.thread
   have hi2 : idxI ids b.thread < ids.length := idxF_lt _ _
   rw [← ei] at hi1 hi2
   have hu : uAt ids l k = if i < 0 then 5 else if okSpan b.lo b.hi = false then 2 else if fieldsB b = false then 1 else if ordU ids l k = true then 11 else 0 := by rw [uAt, ← eb, ← ei]
   simp only [zC, seval, implies_true, Nat.reduceLeDiff, Nat.reduceEqDiff, reduceCtorEq, reduceIte]
   by_cases h1 : i < 0
   ·rw [if_pos h1] at hu
    simp only [zC, seval, implies_true, Nat.reduceLeDiff, Nat.reduceEqDiff, reduceCtorEq, reduceIte, (show i < 0 by omega)]
    refine ⟨_, _, ret_d, ?_, rfl⟩
    rw [hb 5 hu (by omega)]
   ·rw [if_neg h1] at hu
    simp only [zC, seval, implies_true, Nat.reduceLeDiff, Nat.reduceEqDiff, reduceCtorEq, reduceIte, (show ¬ i < 0 by omega)]
    refine callF_pure (k_Valid _ _) ?_
    cases h2 : okSpan b.lo b.hi with
    | false =>
     simp only [zC, seval, implies_true, Nat.reduceLeDiff, Nat.reduceEqDiff, reduceCtorEq, reduceIte, Bool.not_false]
     refine ⟨_, _, ret_d, ?_, rfl⟩
     rw [if_pos h2] at hu
     rw [hb 2 hu (by omega)]
    | true =>
     simp only [zC, seval, implies_true, Nat.reduceLeDiff, Nat.reduceEqDiff, reduceCtorEq, reduceIte, Bool.not_true]
     rw [if_neg (by rw [h2]; simp)] at hu
     refine callF_pure (k_fields _) ?_
     cases h3 : fieldsB b with
     | false =>
      simp only [zC, seval, implies_true, Nat.reduceLeDiff, Nat.reduceEqDiff, reduceCtorEq, reduceIte, Bool.not_false]
      refine ⟨_, _, ret_d, ?_, rfl⟩
      rw [if_pos h3] at hu
      rw [hb 1 hu (by omega)]
     | true =>
      simp only [zC, seval, implies_true, Nat.reduceLeDiff, Nat.reduceEqDiff, reduceCtorEq, reduceIte, Bool.not_true]
      rw [if_neg (by rw [h3]; simp)] at hu
      have hge := atU_ge ids l k
      have hlt := atU_lt ids l k
      by_cases h4 : i = atU ids l k
      ·have hk0 : 0 < k := by
        rcases Nat.eq_zero_or_pos k with h0 | h0
        ·subst h0; simp only [atU] at h4; omega
        ·exact h0
       have e1 : IntKind.i64.wrap ((k : Int) - 1) = ((k - 1 : Nat) : Int) := by rw [wrap64 (by omega) (by omega)]; omega
       obtain ⟨a, ea⟩ : ∃ a, a = l.getD (k - 1) default := ⟨_, rfl⟩
       have e5 : (i == atU ids l k) = true := by simpa using h4
       have e6 : (i != atU ids l k) = false := by simpa using h4
       have ho : ordU ids l k = (b.lo != a.hi || sameU b a) := by
        unfold ordU; simp only [← eb, ← ea, ← ei, e5, e6, Bool.true_and, Bool.false_and, Bool.or_false]
       simp only [zC, seval, implies_true, Nat.reduceLeDiff, Nat.reduceEqDiff, reduceCtorEq, reduceIte, e5, e1, (show ((k - 1 : Nat) : Int) < l.length by omega), (show k - 1 < l.length by omega), a_getD _ _ _ (show k - 1 < l.length by omega), ← ea]
       repeat ((with_reducible refine And.intro ?_ ?_); (focus (first | omega | (simp only [lenR]; omega) | (refine qq ?_; rfl) | (refine dq ?_; kernel_rfl) | (intros; simp_all; done))))
       refine callG_pure (fun _ => k_same _ _) ?_
       simp only [zC, seval, implies_true, Nat.reduceLeDiff, Nat.reduceEqDiff, reduceCtorEq, reduceIte]
       repeat ((with_reducible refine And.intro ?_ ?_); (focus (first | omega | (simp only [lenR]; omega) | (refine qq ?_; rfl) | (refine dq ?_; kernel_rfl) | (intros; simp_all; done))))
       refine ifC.mk (fun h5 => ?_) (fun h5 => ?_)
       ·refine ⟨_, _, ret_d, ?_, rfl⟩
        rw [if_pos (by rw [ho]; exact h5)] at hu
        rw [hb 11 hu (by omega)]
       ·rw [if_neg (by rw [ho, h5]; simp)] at hu
        simp only [zC, seval, implies_true, Nat.reduceLeDiff, Nat.reduceEqDiff, reduceCtorEq, reduceIte, e6]
        repeat ((with_reducible refine And.intro ?_ ?_); (focus (first | omega | (simp only [lenR]; omega) | (refine qq ?_; rfl) | (refine dq ?_; kernel_rfl) | (intros; simp_all; done))))
        refine ⟨firstErr_step hi hu, ?_⟩
        refine weak_to [] [] rfl List.nodup_nil ?_ rfl
        simp only [zC, seval, implies_true, Nat.reduceLeDiff, Nat.reduceEqDiff, reduceCtorEq, reduceIte, @a_wrap ((k:Int) + 1) (by omega), atU, ← eb, ← ei]
      ·have e5 : (i == atU ids l k) = false := by simpa using h4
       have e6 : (i != atU ids l k) = true := by simpa using h4
       have ho : ordU ids l k = (i != atU ids l k + 1 || b.lo != 0) := by
        unfold ordU; simp only [← eb, ← ei, e5, e6, Bool.true_and, Bool.false_and, Bool.false_or]
       by_cases hk0 : 0 < k
       ·have e1 : IntKind.i64.wrap ((k : Int) - 1) = ((k - 1 : Nat) : Int) := by rw [wrap64 (by omega) (by omega)]; omega
        simp only [zC, seval, implies_true, Nat.reduceLeDiff, Nat.reduceEqDiff, reduceCtorEq, reduceIte, e5, e1, (show ((k - 1 : Nat) : Int) < l.length by omega), (show k - 1 < l.length by omega), a_getD _ _ _ (show k - 1 < l.length by omega)]
        repeat ((with_reducible refine And.intro ?_ ?_); (focus (first | omega | (simp only [lenR]; omega) | (refine qq ?_; rfl) | (refine dq ?_; kernel_rfl) | (intros; simp_all; done))))
        refine callG_pure (v := .d (.bool false)) (fun h => by cases h) ?_
        simp only [zC, seval, implies_true, Nat.reduceLeDiff, Nat.reduceEqDiff, reduceCtorEq, reduceIte, e6, @a_wrap (atU ids l k + 1) (by omega)]
        repeat ((with_reducible refine And.intro ?_ ?_); (focus (first | omega | (simp only [lenR]; omega) | (refine qq ?_; rfl) | (refine dq ?_; kernel_rfl) | (intros; simp_all; done))))
        refine ifC.mk (fun h5 => ?_) (fun h5 => ?_)
        ·refine ⟨_, _, ret_d, ?_, rfl⟩
         rw [if_pos (by rw [ho]; exact h5)] at hu
         rw [hb 11 hu (by omega)]
        ·rw [if_neg (by rw [ho, h5]; simp)] at hu
         refine ⟨firstErr_step hi hu, ?_⟩
         refine weak_to [] [] rfl List.nodup_nil ?_ rfl
         simp only [zC, seval, implies_true, Nat.reduceLeDiff, Nat.reduceEqDiff, reduceCtorEq, reduceIte, @a_wrap ((k:Int) + 1) (by omega), atU, ← eb, ← ei]
       ·have e0 : (IntKind.i64.wrap ((k : Int) - 1)).toNat = 0 := by rw [wrap64 (by omega) (by omega)]; omega
        simp only [zC, seval, implies_true, Nat.reduceLeDiff, Nat.reduceEqDiff, reduceCtorEq, reduceIte, e5, e0, a_getD _ _ _ (show 0 < l.length by omega)]
        repeat ((with_reducible refine And.intro ?_ ?_); (focus (first | omega | (simp only [lenR]; omega) | (refine qq ?_; rfl) | (refine dq ?_; kernel_rfl) | (intros; simp_all; done))))
        refine callG_pure (v := .d (.bool false)) (fun h => by cases h) ?_
        simp only [zC, seval, implies_true, Nat.reduceLeDiff, Nat.reduceEqDiff, reduceCtorEq, reduceIte, e0, a_getD _ _ _ (show 0 < l.length by omega)]
        simp only [zC, seval, implies_true, Nat.reduceLeDiff, Nat.reduceEqDiff, reduceCtorEq, reduceIte, e6, @a_wrap (atU ids l k + 1) (by omega)]
        repeat ((with_reducible refine And.intro ?_ ?_); (focus (first | omega | (simp only [lenR]; omega) | (refine qq ?_; rfl) | (refine dq ?_; kernel_rfl) | (intros; simp_all; done))))
        refine ifC.mk (fun h5 => ?_) (fun h5 => ?_)
        ·refine ⟨_, _, ret_d, ?_, rfl⟩
         rw [if_pos (by rw [ho]; exact h5)] at hu
         rw [hb 11 hu (by omega)]
        ·rw [if_neg (by rw [ho, h5]; simp)] at hu
         refine ⟨firstErr_step hi hu, ?_⟩
         refine weak_to [] [] rfl List.nodup_nil ?_ rfl
         simp only [zC, seval, implies_true, Nat.reduceLeDiff, Nat.reduceEqDiff, reduceCtorEq, reduceIte, @a_wrap ((k:Int) + 1) (by omega), atU, ← eb, ← ei]
  ·simp only [zC, seval, implies_true, Nat.reduceLeDiff, Nat.reduceEqDiff, reduceCtorEq, reduceIte, (show ¬ (k:Int) < l.length by omega)]
   have : k = l.length := by omega
   subst this
   rw [hi, if_neg (by simp)] at hF
   by_cases h0 : l.length = 0
   ·simp only [zC, seval, implies_true, Nat.reduceLeDiff, Nat.reduceEqDiff, reduceCtorEq, reduceIte, h0, Int.cast_ofNat_Int]
    refine ⟨_, _, ret_d, ?_, rfl⟩
    rw [hF, if_pos h0]
   ·rw [if_neg h0] at hF
    have e1 : IntKind.i64.wrap ((l.length : Int) - 1) = ((l.length - 1 : Nat) : Int) := by rw [wrap64 (by omega) (by omega)]; omega
    simp only [zC, seval, implies_true, Nat.reduceLeDiff, Nat.reduceEqDiff, reduceCtorEq, reduceIte, a_eq_f (show ¬ ((l.length : Int) = 0) by omega), e1, (show ((l.length - 1 : Nat) : Int) < l.length by omega), (show l.length - 1 < l.length by omega), a_getD _ _ _ (show l.length - 1 < l.length by omega)]
    repeat ((with_reducible refine And.intro ?_ ?_); (focus (first | omega | (simp only [lenR]; omega) | (refine qq ?_; rfl) | (refine dq ?_; kernel_rfl) | (intros; simp_all; done))))
    refine for_of l.length (fun k => [(1, .d (.sl (l.map StateT.toD))), (5, .d (.sl (ids.map (D.int .i64)))), (6, .d (.int .i64 (atU ids l l.length))), (10, .d (.int .i64 (l.getD (l.length - 1) default).hi)), (94, .d (.sl (l.map StateT.toD))), (95, .d (.int .i64 l.length)), (96, .d (.int .i64 k))]) (fun _ => []) (fun k => (List.range k).all (endAt l) = true) rfl ?_ ?_
    ·refine weak_to [] [] rfl List.nodup_nil ?_ rfl
     simp only [zC, seval, implies_true, Nat.reduceLeDiff, Nat.reduceEqDiff, reduceCtorEq, reduceIte, Int.cast_ofNat_Int]
    ·intro k hj hk
     by_cases h : k < l.length
     ·obtain ⟨b, eb⟩ : ∃ b, b = l.getD k default := ⟨_, rfl⟩
      have hbad : endAt l k = false → F = 11 := fun h1 => by rw [hF, if_pos (range_all_at h h1)]
      by_cases hL : k + 1 = l.length
      ·have eL : ((k:Int) + 1 == (l.length : Int)) = true := a_eq_t (show (k:Int) + 1 = l.length by omega)
       have hat : endAt l k = !(b.hi != (l.getD (l.length - 1) default).hi) := by unfold endAt; rw [eL, ← eb]; simp
       simp only [zC, seval, implies_true, Nat.reduceLeDiff, Nat.reduceEqDiff, reduceCtorEq, reduceIte, (show (k:Int) < l.length by omega), h, a_getD _ _ _ (show k < l.length by omega), ← eb, @a_wrap ((k:Int) + 1) (by omega), eL]
       repeat ((with_reducible refine And.intro ?_ ?_); (focus (first | omega | (simp only [lenR]; omega) | (refine qq ?_; rfl) | (refine dq ?_; kernel_rfl) | (intros; simp_all; done))))
       refine ifC.mk (fun h5 => ?_) (fun h5 => ?_)
       ·refine ⟨_, _, ret_d, ?_, rfl⟩
        rw [hbad (by rw [hat, h5]; rfl)]
       ·refine ⟨by rw [range_all, hj, hat, h5]; rfl, ?_⟩
        refine weak_to [] [] rfl List.nodup_nil ?_ rfl
        simp only [zC, seval, implies_true, Nat.reduceLeDiff, Nat.reduceEqDiff, reduceCtorEq, reduceIte, @a_wrap ((k:Int) + 1) (by omega)]
      ·have eL : ((k:Int) + 1 == (l.length : Int)) = false := a_eq_f (show ¬ ((k:Int) + 1 = l.length) by omega)
       have hat : endAt l k = !((l.getD (k + 1) default).thread != b.thread && b.hi != (l.getD (l.length - 1) default).hi) := by unfold endAt; rw [eL, ← eb, Bool.false_or]
       have e3 : ((k:Int) + 1).toNat = k + 1 := by omega
       simp only [zC, seval, implies_true, Nat.reduceLeDiff, Nat.reduceEqDiff, reduceCtorEq, reduceIte, (show (k:Int) < l.length by omega), h, a_getD _ _ _ (show k < l.length by omega), ← eb, @a_wrap ((k:Int) + 1) (by omega), eL, e3, (show (0:Int) ≤ (k:Int) + 1 by omega), (show (k:Int) + 1 < l.length by omega), (show k + 1 < l.length by omega), a_getD _ _ _ (show k + 1 < l.length by omega)]
       repeat ((with_reducible refine And.intro ?_ ?_); (focus (first | omega | (simp only [lenR]; omega) | (refine qq ?_; rfl) | (refine dq ?_; kernel_rfl) | (intros; simp_all; done))))
       refine ifC.mk (fun h5 => ?_) (fun h5 => ?_)
       ·refine ⟨_, _, ret_d, ?_, rfl⟩
        rw [hbad (by rw [hat, h5]; rfl)]
       ·refine ⟨by rw [range_all, hj, hat, h5]; rfl, ?_⟩
        refine weak_to [] [] rfl List.nodup_nil ?_ rfl
        simp only [zC, seval, implies_true, Nat.reduceLeDiff, Nat.reduceEqDiff, reduceCtorEq, reduceIte, @a_wrap ((k:Int) + 1) (by omega)]
     ·simp only [zC, seval, implies_true, Nat.reduceLeDiff, Nat.reduceEqDiff, reduceCtorEq, reduceIte, (show ¬ (k:Int) < l.length by omega)]
      have : k = l.length := by omega
      subst this
      rw [if_neg (by rw [hj]; simp)] at hF
      have hge := atU_ge ids l l.length
      have hlt := atU_lt ids l l.length
      simp only [zC, seval, implies_true, Nat.reduceLeDiff, Nat.reduceEqDiff, reduceCtorEq, reduceIte, @a_wrap (atU ids l l.length + 1) (by omega)]
      refine ifC.mk (fun h5 => ?_) (fun h5 => ?_)
      ·refine ⟨_, _, ret_d, ?_, rfl⟩
       rw [hF, if_neg (by simpa using h5)]
      ·refine ⟨_, _, ret_d, ?_, rfl⟩
       rw [hF, if_pos (by simpa using h5)]
end YtadfcljoocjhdaaGreat
end Go.Proofs
