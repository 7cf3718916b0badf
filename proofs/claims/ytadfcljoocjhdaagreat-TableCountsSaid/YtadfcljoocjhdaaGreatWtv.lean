/- A part of the proof: contracts of functions of this seat, and lemmas. No condition beyond those stated. -/
import Derived.Test.YtadfcljoocjhdaaGreatWtu
set_option linter.unusedVariables false
set_option linter.unusedSimpArgs false
set_option linter.unusedSectionVars false
set_option linter.unnecessarySimpa false
set_option maxRecDepth 100000
namespace Go.Proofs
open Go.AM
namespace YtadfcljoocjhdaaGreat
variable {Gl : Globs}
theorem sameU_comm (a b : StateT) : (a.state == b.state && a.cpu == b.cpu && a.on_ == b.on_) = sameU b a := by
 unfold sameU; rw [Bool.beq_comm (a := a.state), Bool.beq_comm (a := a.cpu), Bool.beq_comm (a := a.on_)]
theorem bneI_comm (a b : Int) : (a != b) = (b != a) := by rw [Bool.eq_iff_iff]; simp; exact ⟨fun h e => h e.symm, fun h e => h e.symm⟩
set_option maxHeartbeats 4000000 in
theorem k_RstateCheck (ths : List ThreadT) (hth : ths.length < 1000000) (l : List StateT) (hl : l.length < 1000000) : Pure Tryz.prog Gl 129 [.d (.sl (ths.map ThreadT.toD)), .d (.sl (l.map StateT.toD))] (.d (.int .i64 (stateF ths l))) := by
 refine Pure.of2 ?_
 refine acalls_of Tryz.func129 rfl rfl (by simp [Tryz.ntmps129]) (evC_sound rfl _ _ _ _ ?_)
 simp only [Tryz.ntmps129, Tryz.results129, argEnv, List.length_nil]
 simp only [zC, seval, implies_true, Nat.reduceLeDiff, Nat.reduceEqDiff, reduceCtorEq, reduceIte]
 refine callF_pure (k_Rdistinct ths hth) ?_
 obtain ⟨dt, hdt⟩ : ∃ dt, dt = distT ths := ⟨_, rfl⟩
 obtain ⟨ids, hids⟩ : ∃ ids, ids = distF ths := ⟨_, rfl⟩
 have hmap : dt.map (fun y => y.id) = ids := by
  have := distT_map ths ths.length
  rw [List.take_length] at this
  rw [hdt, hids, this]
 have hdl : dt.length = ids.length := by rw [← hmap, List.length_map]
 have hil : ids.length < 1000000 := by
  have := distF_len ths ths.length
  rw [List.take_length] at this
  rw [hids]; omega
 have hix : ∀ x, idxF (fun y : ThreadT => y.id == x) dt = idxI ids x := fun x => by rw [← idxF_map, hmap]; rfl
 obtain ⟨F, hF⟩ : ∃ F, F = stateF ths l := ⟨_, rfl⟩
 rw [← hF, ← hdt]
 rw [stateF, ← hids] at hF
 simp only [zC, seval, implies_true, Nat.reduceLeDiff, Nat.reduceEqDiff, reduceCtorEq, reduceIte]
 by_cases h0 : l.length = 0
 ·have hl0 : l = [] := List.length_eq_zero_iff.1 h0
  subst hl0
  simp only [zC, seval, implies_true, Nat.reduceLeDiff, Nat.reduceEqDiff, reduceCtorEq, reduceIte, Int.cast_ofNat_Int, List.length_nil]
  refine ⟨_, _, ret_d, ?_, rfl⟩
  rw [hF]; rfl
 ·simp only [zC, seval, implies_true, Nat.reduceLeDiff, Nat.reduceEqDiff, reduceCtorEq, reduceIte, a_eq_f (show ¬ ((l.length : Int) = 0) by omega)]
  refine for_of l.length (fun k => [(0, .d (.sl (dt.map ThreadT.toD))), (1, .d (.sl (l.map StateT.toD))), (5, .d (.int .i64 (atU ids l k))), (6, .d (.int .i64 k))]) (fun _ => []) (fun k => firstErr (uAt ids l) k = 0) rfl ?_ ?_
  ·refine weak_to [] [] rfl List.nodup_nil ?_ rfl
   simp only [zC, seval, implies_true, Nat.reduceLeDiff, Nat.reduceEqDiff, reduceCtorEq, reduceIte, Int.cast_ofNat_Int, atU]
  ·intro k hi hk
   by_cases h : k < l.length
   ·have hb : ∀ e, uAt ids l k = e → e ≠ 0 → F = e := fun e h1 h2 => by
     have := firstErr_at hi (by rw [h1]; exact h2) h
     rw [hF, this, h1, if_pos h2]
    obtain ⟨b, eb⟩ : ∃ b, b = l.getD k default := ⟨_, rfl⟩
    simp only [zC, seval, implies_true, Nat.reduceLeDiff, Nat.reduceEqDiff, reduceCtorEq, reduceIte, (show (k:Int) < l.length by omega), h, a_getD _ _ _ (show k < l.length by omega), ← eb]
    repeat ((with_reducible refine And.intro ?_ ?_); (focus (first | omega | (simp only [lenR]; omega) | (refine qq ?_; rfl) | (refine dq ?_; kernel_rfl) | (intros; simp_all; done))))
    refine callF_pure (k_RindexD dt b.thread (by omega)) ?_
    rw [hix]
    obtain ⟨i, ei⟩ : ∃ i, i = idxI ids b.thread := ⟨_, rfl⟩
    have hi1 := idxI_ge ids b.thread
    have hi2 : idxI ids b.thread < ids.length := idxF_lt _ _
    rw [← ei] at hi1 hi2 ⊢
    have hu : uAt ids l k = if i < 0 then 5 else if okSpan b.lo b.hi = false then 2 else if fieldsB b = false then 1 else if ordU ids l k = true then 11 else 0 := by rw [uAt, ← eb, ← ei]
    have hat : atU ids l (k + 1) = i := by rw [atU, ← eb, ← ei]
    simp only [zC, seval, implies_true, Nat.reduceLeDiff, Nat.reduceEqDiff, reduceCtorEq, reduceIte]
    by_cases h1 : i < 0
    ·rw [if_pos h1] at hu
     simp only [zC, seval, implies_true, Nat.reduceLeDiff, Nat.reduceEqDiff, reduceCtorEq, reduceIte, (show i < 0 by omega)]
     refine ⟨_, _, ret_d, ?_, rfl⟩
     rw [hb 5 hu (by omega)]
    ·rw [if_neg h1] at hu
     simp only [zC, seval, implies_true, Nat.reduceLeDiff, Nat.reduceEqDiff, reduceCtorEq, reduceIte, (show ¬ i < 0 by omega), (show (k:Int) < l.length by omega), h, a_getD _ _ _ (show k < l.length by omega), ← eb]
     repeat ((with_reducible refine And.intro ?_ ?_); (focus (first | omega | (simp only [lenR]; omega) | (refine qq ?_; rfl) | (refine dq ?_; kernel_rfl) | (intros; simp_all; done))))
     refine callF_pure (k_RValid _ _) ?_
     cases h2 : okSpan b.lo b.hi with
     | false =>
      simp only [zC, seval, implies_true, Nat.reduceLeDiff, Nat.reduceEqDiff, reduceCtorEq, reduceIte, Bool.not_false]
      refine ⟨_, _, ret_d, ?_, rfl⟩
      rw [if_pos h2] at hu
      rw [hb 2 hu (by omega)]
     | true =>
      simp only [zC, seval, implies_true, Nat.reduceLeDiff, Nat.reduceEqDiff, reduceCtorEq, reduceIte, Bool.not_true, (show (k:Int) < l.length by omega), h, a_getD _ _ _ (show k < l.length by omega), ← eb]
      repeat ((with_reducible refine And.intro ?_ ?_); (focus (first | omega | (simp only [lenR]; omega) | (refine qq ?_; rfl) | (refine dq ?_; kernel_rfl) | (intros; simp_all; done))))
      rw [if_neg (by rw [h2]; simp)] at hu
      refine callF_pure (k_right _) ?_
      cases h3 : fieldsB b with
      | false =>
       simp only [zC, seval, implies_true, Nat.reduceLeDiff, Nat.reduceEqDiff, reduceCtorEq, reduceIte, Bool.not_false]
       refine ⟨_, _, ret_d, ?_, rfl⟩
       rw [if_pos h3] at hu
       rw [hb 1 hu (by omega)]
      | true =>
       rw [if_neg (by rw [h3]; simp)] at hu
       have hge := atU_ge ids l k
       have hlt := atU_lt ids l k
       by_cases hk0 : 0 < k
       ·have e1 : IntKind.i64.wrap ((k : Int) - 1) = ((k - 1 : Nat) : Int) := by rw [wrap64 (by omega) (by omega)]; omega
        obtain ⟨a, ea⟩ : ∃ a, a = l.getD (k - 1) default := ⟨_, rfl⟩
        have hatk : atU ids l k = idxI ids a.thread := by
         obtain ⟨j, rfl⟩ : ∃ j, k = j + 1 := ⟨k - 1, by omega⟩
         rw [atU, ea]; rfl
        simp only [zC, seval, implies_true, Nat.reduceLeDiff, Nat.reduceEqDiff, reduceCtorEq, reduceIte, Bool.not_true, (show (0:Int) < k by omega), e1, (show ((k - 1 : Nat) : Int) < l.length by omega), (show k - 1 < l.length by omega), a_getD _ _ _ (show k - 1 < l.length by omega), ← ea, (show (k:Int) < l.length by omega), h, a_getD _ _ _ (show k < l.length by omega), ← eb]
        repeat ((with_reducible refine And.intro ?_ ?_); (focus (first | omega | (simp only [lenR]; omega) | (refine qq ?_; rfl) | (refine dq ?_; kernel_rfl) | (intros; simp_all; done))))
        cases h4 : (a.thread == b.thread) with
        | true =>
         have hE : i = atU ids l k := by rw [hatk, ei, beq_iff_eq.1 h4]
         have e5 : (i == atU ids l k) = true := by simpa using hE
         have e6 : (i != atU ids l k) = false := by simpa using hE
         have ho : ordU ids l k = (b.lo != a.hi || sameU b a) := by
          unfold ordU; simp only [← eb, ← ea, ← ei, e5, e6, Bool.true_and, Bool.false_and, Bool.or_false]
         simp only [zC, seval, implies_true, Nat.reduceLeDiff, Nat.reduceEqDiff, reduceCtorEq, reduceIte, (show (0:Int) < k by omega), e1, (show ((k - 1 : Nat) : Int) < l.length by omega), (show k - 1 < l.length by omega), a_getD _ _ _ (show k - 1 < l.length by omega), ← ea, (show (k:Int) < l.length by omega), h, a_getD _ _ _ (show k < l.length by omega), ← eb]
         repeat ((with_reducible refine And.intro ?_ ?_); (focus (first | omega | (simp only [lenR]; omega) | (refine qq ?_; rfl) | (refine dq ?_; kernel_rfl) | (intros; simp_all; done))))
         (try simp only [zC, seval, implies_true, Nat.reduceLeDiff, Nat.reduceEqDiff, reduceCtorEq, reduceIte, (show (0:Int) < k by omega), e1, (show ((k - 1 : Nat) : Int) < l.length by omega), (show k - 1 < l.length by omega), a_getD _ _ _ (show k - 1 < l.length by omega), ← ea, (show (k:Int) < l.length by omega), h, a_getD _ _ _ (show k < l.length by omega), ← eb])
         repeat ((with_reducible refine And.intro ?_ ?_); (focus (first | omega | (simp only [lenR]; omega) | (refine qq ?_; rfl) | (refine dq ?_; kernel_rfl) | (intros; simp_all; done))))
         rw [show (a.hi != b.lo || (a.state == b.state && a.cpu == b.cpu && a.on_ == b.on_)) = ordU ids l k from by rw [ho, bneI_comm, sameU_comm]]
         refine ifC.mk (fun h5 => ?_) (fun h5 => ?_)
         ·refine ⟨_, _, ret_d, ?_, rfl⟩
          rw [if_pos h5] at hu
          rw [hb 11 hu (by omega)]
         ·rw [if_neg (by rw [h5]; simp)] at hu
          have hat : atU ids l (k + 1) = atU ids l k := by rw [hat, hE]
          refine ⟨firstErr_step hi hu, ?_⟩
          refine weak_to [] [] rfl List.nodup_nil ?_ rfl
          simp only [zC, seval, implies_true, Nat.reduceLeDiff, Nat.reduceEqDiff, reduceCtorEq, reduceIte, @a_wrap ((k:Int) + 1) (by omega), hat]
        | false =>
         have h4b : a.thread ≠ b.thread := by simpa using h4
         have hE : i ≠ atU ids l k := fun e => by
          rw [hatk] at e
          refine h4b ((idxI_inj (ids := ids) (x := b.thread) (y := a.thread) ?_ ?_).symm)
          ·rw [← ei]; omega
          ·rw [← ei]; exact e
         have e5 : (i == atU ids l k) = false := by simpa using hE
         have e6 : (i != atU ids l k) = true := by simpa using hE
         have ho : ordU ids l k = (i != atU ids l k + 1 || b.lo != 0) := by
          unfold ordU; simp only [← eb, ← ei, e5, e6, Bool.true_and, Bool.false_and, Bool.false_or]
         simp only [zC, seval, implies_true, Nat.reduceLeDiff, Nat.reduceEqDiff, reduceCtorEq, reduceIte, @a_wrap (atU ids l k + 1) (by omega), (show (k:Int) < l.length by omega), h, a_getD _ _ _ (show k < l.length by omega), ← eb]
         repeat ((with_reducible refine And.intro ?_ ?_); (focus (first | omega | (simp only [lenR]; omega) | (refine qq ?_; rfl) | (refine dq ?_; kernel_rfl) | (intros; simp_all; done))))
         rw [show (b.lo != 0 || i != atU ids l k + 1) = ordU ids l k from by rw [ho, Bool.or_comm]]
         refine ifC.mk (fun h5 => ?_) (fun h5 => ?_)
         ·refine ⟨_, _, ret_d, ?_, rfl⟩
          rw [if_pos h5] at hu
          rw [hb 11 hu (by omega)]
         ·rw [if_neg (by rw [h5]; simp)] at hu
          refine ⟨firstErr_step hi hu, ?_⟩
          refine weak_to [] [] rfl List.nodup_nil ?_ rfl
          simp only [zC, seval, implies_true, Nat.reduceLeDiff, Nat.reduceEqDiff, reduceCtorEq, reduceIte, @a_wrap ((k:Int) + 1) (by omega), hat]
       ·have hk00 : k = 0 := by omega
        have e0 : (IntKind.i64.wrap ((k : Int) - 1)).toNat = 0 := by rw [wrap64 (by omega) (by omega)]; omega
        have hatk : atU ids l k = -1 := by rw [hk00]; rfl
        have e5 : (i == atU ids l k) = false := by rw [hatk]; exact a_eq_f (show ¬ (i = -1) by omega)
        have e6 : (i != atU ids l k) = true := by rw [bne, e5]; rfl
        have ho : ordU ids l k = (i != atU ids l k + 1 || b.lo != 0) := by
         unfold ordU; simp only [← eb, ← ei, e5, e6, Bool.true_and, Bool.false_and, Bool.false_or]
        simp only [zC, seval, implies_true, Nat.reduceLeDiff, Nat.reduceEqDiff, reduceCtorEq, reduceIte, Bool.not_true, (show ¬ (0:Int) < k by omega), e0, a_getD _ _ _ (show 0 < l.length by omega), (show (k:Int) < l.length by omega), h, a_getD _ _ _ (show k < l.length by omega), ← eb]
        repeat ((with_reducible refine And.intro ?_ ?_); (focus (first | omega | (simp only [lenR]; omega) | (refine qq ?_; rfl) | (refine dq ?_; kernel_rfl) | (intros; simp_all; done))))
        (try simp only [zC, seval, implies_true, Nat.reduceLeDiff, Nat.reduceEqDiff, reduceCtorEq, reduceIte, @a_wrap (atU ids l k + 1) (by omega), (show ¬ (0:Int) < k by omega), e0, a_getD _ _ _ (show 0 < l.length by omega), (show (k:Int) < l.length by omega), h, a_getD _ _ _ (show k < l.length by omega), ← eb])
        repeat ((with_reducible refine And.intro ?_ ?_); (focus (first | omega | (simp only [lenR]; omega) | (refine qq ?_; rfl) | (refine dq ?_; kernel_rfl) | (intros; simp_all; done))))
        rw [show (b.lo != 0 || i != atU ids l k + 1) = ordU ids l k from by rw [ho, Bool.or_comm]]
        refine ifC.mk (fun h5 => ?_) (fun h5 => ?_)
        ·refine ⟨_, _, ret_d, ?_, rfl⟩
         rw [if_pos h5] at hu
         rw [hb 11 hu (by omega)]
        ·rw [if_neg (by rw [h5]; simp)] at hu
         refine ⟨firstErr_step hi hu, ?_⟩
         refine weak_to [] [] rfl List.nodup_nil ?_ rfl
         simp only [zC, seval, implies_true, Nat.reduceLeDiff, Nat.reduceEqDiff, reduceCtorEq, reduceIte, @a_wrap ((k:Int) + 1) (by omega), hat]
   ·simp only [zC, seval, implies_true, Nat.reduceLeDiff, Nat.reduceEqDiff, reduceCtorEq, reduceIte, (show ¬ (k:Int) < l.length by omega)]
    have : k = l.length := by omega
    subst this
    rw [hi, if_neg (by simp), if_neg h0] at hF
    have hge := atU_ge ids l l.length
    have hlt := atU_lt ids l l.length
    simp only [zC, seval, implies_true, Nat.reduceLeDiff, Nat.reduceEqDiff, reduceCtorEq, reduceIte, @a_wrap ((dt.length : Int) - 1) (by omega)]
    refine ifC.mk (fun h5 => ?_) (fun h5 => ?_)
    ·refine ⟨_, _, ret_d, ?_, rfl⟩
     have h5 : atU ids l l.length ≠ (dt.length : Int) - 1 := by simpa using h5
     have hq : (if atU ids l l.length + 1 = (ids.length : Int) then (0 : Int) else 11) = 11 := if_neg (by omega)
     rw [hq] at hF
     rw [hF]
     split <;> rfl
    ·have h5 : atU ids l l.length = (dt.length : Int) - 1 := by simpa using h5
     have e2 : IntKind.i64.wrap ((l.length : Int) - 1) = ((l.length - 1 : Nat) : Int) := by rw [wrap64 (by omega) (by omega)]; omega
     have hq : (if atU ids l l.length + 1 = (ids.length : Int) then (0 : Int) else 11) = 0 := if_pos (by omega)
     rw [hq] at hF
     refine for_of (l.length - 1) (fun k => [(1, .d (.sl (l.map StateT.toD))), (9, .d (.int .i64 ((k : Int) + 1)))]) (fun _ => []) (fun k => (List.range k).all (endAt l) = true) rfl ?_ ?_
     ·refine weak_to [] [] rfl List.nodup_nil ?_ rfl
      simp only [zC, seval, implies_true, Nat.reduceLeDiff, Nat.reduceEqDiff, reduceCtorEq, reduceIte, Int.cast_ofNat_Int]
     ·intro k hj hk
      by_cases h : k < l.length - 1
      ·obtain ⟨b, eb⟩ : ∃ b, b = l.getD k default := ⟨_, rfl⟩
       obtain ⟨c, ec⟩ : ∃ c, c = l.getD (k + 1) default := ⟨_, rfl⟩
       have hbad : endAt l k = false → F = 11 := fun h1 => by rw [hF, if_pos (range_all_at (by omega) h1)]
       have hat : endAt l k = !(c.thread != b.thread && b.hi != (l.getD (l.length - 1) default).hi) := by
        unfold endAt; rw [a_eq_f (show ¬ ((k:Int) + 1 = l.length) by omega), ← eb, ← ec, Bool.false_or]
       have e3 : ((k:Int) + 1).toNat = k + 1 := by omega
       have e4 : IntKind.i64.wrap ((k:Int) + 1 - 1) = (k : Int) := by rw [wrap64 (by omega) (by omega)]; omega
       simp only [zC, seval, implies_true, Nat.reduceLeDiff, Nat.reduceEqDiff, reduceCtorEq, reduceIte, (show (k:Int) + 1 < l.length by omega), e3, e4, e2, (show (0:Int) ≤ (k:Int) + 1 by omega), (show k + 1 < l.length by omega), a_getD _ _ _ (show k + 1 < l.length by omega), ← ec, (show (k:Int) < l.length by omega), (show k < l.length by omega), a_getD _ _ _ (show k < l.length by omega), ← eb, (show ((l.length - 1 : Nat) : Int) < l.length by omega), (show l.length - 1 < l.length by omega), a_getD _ _ _ (show l.length - 1 < l.length by omega)]
       repeat ((with_reducible refine And.intro ?_ ?_); (focus (first | omega | (simp only [lenR]; omega) | (refine qq ?_; rfl) | (refine dq ?_; kernel_rfl) | (intros; simp_all; done))))
       (try simp only [zC, seval, implies_true, Nat.reduceLeDiff, Nat.reduceEqDiff, reduceCtorEq, reduceIte, (show (k:Int) + 1 < l.length by omega), e3, e4, e2, (show (0:Int) ≤ (k:Int) + 1 by omega), (show k + 1 < l.length by omega), a_getD _ _ _ (show k + 1 < l.length by omega), ← ec, (show (k:Int) < l.length by omega), (show k < l.length by omega), a_getD _ _ _ (show k < l.length by omega), ← eb, (show ((l.length - 1 : Nat) : Int) < l.length by omega), (show l.length - 1 < l.length by omega), a_getD _ _ _ (show l.length - 1 < l.length by omega)])
       repeat ((with_reducible refine And.intro ?_ ?_); (focus (first | omega | (simp only [lenR]; omega) | (refine qq ?_; rfl) | (refine dq ?_; kernel_rfl) | (intros; simp_all; done))))
       refine ifC.mk (fun h6 => ?_) (fun h6 => ?_)
       ·refine ⟨_, _, ret_d, ?_, rfl⟩
        rw [hbad (by rw [hat, h6]; rfl)]
       ·refine ⟨h, by rw [range_all, hj, hat, h6]; rfl, ?_⟩
        refine weak_to [] [] rfl List.nodup_nil ?_ rfl
        simp only [zC, seval, implies_true, Nat.reduceLeDiff, Nat.reduceEqDiff, reduceCtorEq, reduceIte, @a_wrap ((k:Int) + 1 + 1) (by omega)]
      ·simp only [zC, seval, implies_true, Nat.reduceLeDiff, Nat.reduceEqDiff, reduceCtorEq, reduceIte, (show ¬ (k:Int) + 1 < l.length by omega)]
       have hkn : k = l.length - 1 := by omega
       have hlast : endAt l k = true := by
        unfold endAt; rw [hkn]; simp
       have hall : (List.range l.length).all (endAt l) = true := by
        rw [show l.length = k + 1 by omega, range_all, hj, hlast]; rfl
       refine ⟨_, _, ret_d, ?_, rfl⟩
       rw [hF, if_neg (by rw [hall]; simp)]
end YtadfcljoocjhdaaGreat
end Go.Proofs
