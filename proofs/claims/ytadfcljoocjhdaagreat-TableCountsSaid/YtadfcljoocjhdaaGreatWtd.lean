/- A part of the proof: contracts of functions of this seat, and lemmas. No condition beyond those stated. -/
import Derived.Test.YtadfcljoocjhdaaGreatWtc
import Derived.Test.YtadfcljoocjhdaaGreatG4
set_option linter.unusedVariables false
set_option linter.unusedSimpArgs false
set_option linter.unusedSectionVars false
set_option linter.unnecessarySimpa false
set_option maxRecDepth 100000
namespace Go.Proofs
open Go.AM
namespace YtadfcljoocjhdaaGreat
variable {Gl : Globs}
theorem k_isNaNs (a : List UInt8) : Pure Tryz.prog Gl 91 [.d (.str a)] (.d (.bool false)) := by
 refine Pure.of1 ?_
 refine acalls_of Tryz.func91 rfl rfl (by simp [Tryz.ntmps91]) (evC_sound rfl _ _ _ _ ?_)
 simp only [Tryz.ntmps91, Tryz.results91, argEnv, List.length_nil]
 simp only [zC, seval, implies_true, Nat.reduceLeDiff, Nat.reduceEqDiff, reduceCtorEq, reduceIte]
 refine ⟨_, _, ret_d, ?_, rfl⟩
 simp
theorem k_isNaN (a : Int) : Pure Tryz.prog Gl 92 [.d (.int .i64 a)] (.d (.bool false)) := by
 refine Pure.of1 ?_
 refine acalls_of Tryz.func92 rfl rfl (by simp [Tryz.ntmps92]) (evC_sound rfl _ _ _ _ ?_)
 simp only [Tryz.ntmps92, Tryz.results92, argEnv, List.length_nil]
 simp only [zC, seval, implies_true, Nat.reduceLeDiff, Nat.reduceEqDiff, reduceCtorEq, reduceIte]
 refine ⟨_, _, ret_d, ?_, rfl⟩
 simp
def cmpI (a b : Int) : Int := if a < b then -1 else if b < a then 1 else 0
theorem k_Compare (a b : Int) : Pure Tryz.prog Gl 68 [.d (.int .i64 a), .d (.int .i64 b)] (.d (.int .i64 (cmpI a b))) := by
 refine Pure.of2 ?_
 refine acalls_of Tryz.func68 rfl rfl (by simp [Tryz.ntmps68]) (evC_sound rfl _ _ _ _ ?_)
 simp only [Tryz.ntmps68, Tryz.results68, argEnv, List.length_nil]
 simp only [zC, seval, implies_true, Nat.reduceLeDiff, Nat.reduceEqDiff, reduceCtorEq, reduceIte]
 refine callF_pure (k_isNaN _) ?_
 simp only [zC, seval, implies_true, Nat.reduceLeDiff, Nat.reduceEqDiff, reduceCtorEq, reduceIte]
 refine callF_pure (k_isNaN _) ?_
 simp only [zC, seval, implies_true, Nat.reduceLeDiff, Nat.reduceEqDiff, reduceCtorEq, reduceIte]
 refine ifC.mk (fun h1 => ?_) (fun h1 => ?_)
 ·refine ⟨_, _, ret_d, ?_, rfl⟩
  rw [cmpI, if_pos (by simpa using h1)]
 ·refine ifC.mk (fun h2 => ?_) (fun h2 => ?_)
  ·refine ⟨_, _, ret_d, ?_, rfl⟩
   rw [cmpI, if_neg (by simpa using h1), if_pos (by simpa using h2)]
  ·refine ⟨_, _, ret_d, ?_, rfl⟩
   rw [cmpI, if_neg (by simpa using h1), if_neg (by simpa using h2)]
def ltS (a b : List UInt8) : Bool := Op.bytesLess a b
def cmpS (a b : List UInt8) : Int := if ltS a b = true then -1 else if (!(ltS a b || a == b)) = true then 1 else 0
theorem k_Compares (a b : List UInt8) : Pure Tryz.prog Gl 67 [.d (.str a), .d (.str b)] (.d (.int .i64 (cmpS a b))) := by
 refine Pure.of2 ?_
 refine acalls_of Tryz.func67 rfl rfl (by simp [Tryz.ntmps67]) (evC_sound rfl _ _ _ _ ?_)
 simp only [Tryz.ntmps67, Tryz.results67, argEnv, List.length_nil]
 simp only [zC, seval, implies_true, Nat.reduceLeDiff, Nat.reduceEqDiff, reduceCtorEq, reduceIte]
 refine callF_pure (k_isNaNs _) ?_
 simp only [zC, seval, implies_true, Nat.reduceLeDiff, Nat.reduceEqDiff, reduceCtorEq, reduceIte]
 refine callF_pure (k_isNaNs _) ?_
 simp only [zC, seval, implies_true, Nat.reduceLeDiff, Nat.reduceEqDiff, reduceCtorEq, reduceIte]
 refine ifC.mk (fun h1 => ?_) (fun h1 => ?_)
 ·refine ⟨_, _, ret_d, ?_, rfl⟩
  rw [cmpS, if_pos (show ltS a b = true from h1)]
 ·refine ifC.mk (fun h2 => ?_) (fun h2 => ?_)
  ·refine ⟨_, _, ret_d, ?_, rfl⟩
   rw [cmpS, if_neg (by rw [show ltS a b = false from h1]; simp), if_pos (show (!(ltS a b || a == b)) = true from h2)]
  ·refine ⟨_, _, ret_d, ?_, rfl⟩
   rw [cmpS, if_neg (by rw [show ltS a b = false from h1]; simp), if_neg (show ¬ (!(ltS a b || a == b)) = true from by rw [show (!(ltS a b || a == b)) = false from h2]; simp)]
def orL : List Int → Int
 | [] => 0
 | x :: r => if x = 0 then orL r else x
theorem orL_at : ∀ {l : List Int} {k : Nat}, (l.take k).all (· == 0) = true → k < l.length → l.getD k default ≠ 0 → orL l = l.getD k default
 | [], k, _, h, _ => by simp at h
 | x :: r, 0, _, _, h => by rw [orL, if_neg (by simpa using h)]; simp
 | x :: r, k + 1, h1, h2, h3 => by
  rw [List.take_succ_cons, List.all_cons, Bool.and_eq_true] at h1
  rw [orL, if_pos (by simpa using h1.1), orL_at (l := r) (k := k) h1.2 (by simpa using h2) (by simpa using h3)]; simp
theorem orL_zero : ∀ {l : List Int}, l.all (· == 0) = true → orL l = 0
 | [], _ => rfl
 | x :: r, h => by
  rw [List.all_cons, Bool.and_eq_true] at h
  rw [orL, if_pos (by simpa using h.1), orL_zero h.2]
theorem k_Or (xs : List Int) (hl : xs.length < 1000000) (B : Blk) (hB : ArrOrFrz 1 (xs.map (D.int .i64)) B) : ACalls Tryz.prog Gl 169 [.osl 0 0 xs.length] [B] (fun r s => r = .d (.int .i64 (orL xs)) ∧ s = [B]) := by
 rcases hB with rfl | rfl
 ·refine acalls_of Tryz.func169 rfl rfl (by simp [Tryz.ntmps169]) (evC_sound rfl _ _ _ _ ?_)
  simp only [Tryz.ntmps169, Tryz.results169, argEnv, List.length_nil]
  simp only [zC, seval, implies_true, Nat.reduceLeDiff, Nat.reduceEqDiff, reduceCtorEq, reduceIte]
  refine for_of xs.length (fun k => [(3, .d (.int .i64 0)), (6, .osl 0 0 xs.length), (7, .d (.int .i64 xs.length)), (8, .d (.int .i64 k))]) (fun _ => [.arr 1 (xs.map (D.int .i64))]) (fun k => (xs.take k).all (· == 0) = true) rfl ?_ ?_
  ·refine weak_to [] [0] rfl (by simp) ?_ rfl
   simp only [zC, seval, implies_true, Nat.reduceLeDiff, Nat.reduceEqDiff, reduceCtorEq, reduceIte, Int.cast_ofNat_Int]
   all_goals rfl
  ·intro k hi hk
   by_cases h : k < xs.length
   ·have hs := all_take (· == 0) xs k h
    simp only [zC, seval, implies_true, Nat.reduceLeDiff, Nat.reduceEqDiff, reduceCtorEq, reduceIte, (show (k:Int) < xs.length by omega), h, a_getD _ _ _ (show k < xs.length by omega)]
    repeat ((with_reducible refine And.intro ?_ ?_); (focus (first | omega | (simp only [lenR]; omega) | (refine qq ?_; rfl) | (refine dq ?_; kernel_rfl) | (intros; simp_all; done))))
    refine ifC.mk (fun hc => ?_) (fun hc => ?_)
    ·refine ⟨_, _, weakR_to [] [0] rfl (by simp) (show renV _ _ _ = AV.d _ from rfl) rfl, ?_, rfl⟩
     rw [orL_at hi h (by simpa using hc)]
    ·refine ⟨by rw [hs, hi]; simpa using hc, ?_⟩
     refine weak_to [] [0] rfl (by simp) ?_ rfl
     simp only [zC, seval, implies_true, Nat.reduceLeDiff, Nat.reduceEqDiff, reduceCtorEq, reduceIte, @a_wrap ((k:Int) + 1) (by omega)]
     all_goals rfl
   ·simp only [zC, seval, implies_true, Nat.reduceLeDiff, Nat.reduceEqDiff, reduceCtorEq, reduceIte, (show ¬ (k:Int) < xs.length by omega)]
    have : k = xs.length := by omega
    subst this
    rw [List.take_length] at hi
    refine ⟨_, _, weakR_to [] [0] rfl (by simp) (show renV _ _ _ = AV.d _ from rfl) rfl, ?_, rfl⟩
    rw [orL_zero hi]
 ·refine acalls_of Tryz.func169 rfl rfl (by simp [Tryz.ntmps169]) (evC_sound rfl _ _ _ _ ?_)
  simp only [Tryz.ntmps169, Tryz.results169, argEnv, List.length_nil]
  simp only [zC, seval, implies_true, Nat.reduceLeDiff, Nat.reduceEqDiff, reduceCtorEq, reduceIte]
  refine for_of xs.length (fun k => [(3, .d (.int .i64 0)), (6, .osl 0 0 xs.length), (7, .d (.int .i64 xs.length)), (8, .d (.int .i64 k))]) (fun _ => [.frz 1 (xs.map (D.int .i64))]) (fun k => (xs.take k).all (· == 0) = true) rfl ?_ ?_
  ·refine weak_to [] [0] rfl (by simp) ?_ rfl
   simp only [zC, seval, implies_true, Nat.reduceLeDiff, Nat.reduceEqDiff, reduceCtorEq, reduceIte, Int.cast_ofNat_Int]
   all_goals rfl
  ·intro k hi hk
   by_cases h : k < xs.length
   ·have hs := all_take (· == 0) xs k h
    simp only [zC, seval, implies_true, Nat.reduceLeDiff, Nat.reduceEqDiff, reduceCtorEq, reduceIte, (show (k:Int) < xs.length by omega), h, a_getD _ _ _ (show k < xs.length by omega)]
    repeat ((with_reducible refine And.intro ?_ ?_); (focus (first | omega | (simp only [lenR]; omega) | (refine qq ?_; rfl) | (refine dq ?_; kernel_rfl) | (intros; simp_all; done))))
    refine ifC.mk (fun hc => ?_) (fun hc => ?_)
    ·refine ⟨_, _, weakR_to [] [0] rfl (by simp) (show renV _ _ _ = AV.d _ from rfl) rfl, ?_, rfl⟩
     rw [orL_at hi h (by simpa using hc)]
    ·refine ⟨by rw [hs, hi]; simpa using hc, ?_⟩
     refine weak_to [] [0] rfl (by simp) ?_ rfl
     simp only [zC, seval, implies_true, Nat.reduceLeDiff, Nat.reduceEqDiff, reduceCtorEq, reduceIte, @a_wrap ((k:Int) + 1) (by omega)]
     all_goals rfl
   ·simp only [zC, seval, implies_true, Nat.reduceLeDiff, Nat.reduceEqDiff, reduceCtorEq, reduceIte, (show ¬ (k:Int) < xs.length by omega)]
    have : k = xs.length := by omega
    subst this
    rw [List.take_length] at hi
    refine ⟨_, _, weakR_to [] [0] rfl (by simp) (show renV _ _ _ = AV.d _ from rfl) rfl, ?_, rfl⟩
    rw [orL_zero hi]
def orF (a b : Int) : Int := if a = 0 then b else a
theorem orL_two (a b : Int) : orL [a, b] = orF a b := by simp only [orL, orF]; split <;> simp_all
def orderF (a b : StepT) : Int := orF (cmpS a.name b.name) (cmpI a.at_ b.at_)
theorem k_order (a b : StepT) : Pure Tryz.prog Gl 150 [.d a.toD, .d b.toD] (.d (.int .i64 (orderF a b))) := by
 refine Pure.of2 ?_
 refine acalls_of Tryz.func150 rfl rfl (by simp [Tryz.ntmps150]) (evC_sound rfl _ _ _ _ ?_)
 simp only [Tryz.ntmps150, Tryz.results150, argEnv, List.length_nil]
 simp only [zC, seval, implies_true, Nat.reduceLeDiff, Nat.reduceEqDiff, reduceCtorEq, reduceIte]
 refine ⟨.inl (by kernel_rfl), callF_pure (k_Compares _ _) ?_⟩
 simp only [zC, seval, implies_true, Nat.reduceLeDiff, Nat.reduceEqDiff, reduceCtorEq, reduceIte]
 refine callF_pure (k_Compare _ _) ?_
 simp only [zC, seval, implies_true, Nat.reduceLeDiff, Nat.reduceEqDiff, reduceCtorEq, reduceIte]
 repeat ((with_reducible refine And.intro ?_ ?_); (focus (first | omega | (simp only [lenR]; omega) | (refine qq ?_; rfl) | (refine dq ?_; kernel_rfl) | (intros; simp_all; done))))
 refine callD_at1 2 (fun B hB => k_Or [cmpS a.name b.name, cmpI a.at_ b.at_] (by simp) B hB) (fun _ => rfl) rfl ?_
 rw [orL_two]
 simp only [zC, seval, implies_true, Nat.reduceLeDiff, Nat.reduceEqDiff, reduceCtorEq, reduceIte]
 exact ⟨_, _, ret_d, rfl, rfl⟩
theorem k_In (a : Int) : Pure Tryz.prog Gl 80 [.d (.int .i64 a)] (.d (.bool (decide (-1000000000000000 ≤ a) && decide (a ≤ 1000000000000000)))) := by
 refine Pure.of1 ?_
 refine acalls_of Tryz.func80 rfl rfl (by simp [Tryz.ntmps80]) (evC_sound rfl _ _ _ _ ?_)
 simp only [Tryz.ntmps80, Tryz.results80, argEnv, List.length_nil]
 simp only [zC, seval, implies_true, Nat.reduceLeDiff, Nat.reduceEqDiff, reduceCtorEq, reduceIte]
 exact ⟨_, _, ret_d, rfl, rfl⟩
def inB (a : Int) : Bool := decide (-1000000000000000 ≤ a) && decide (a ≤ 1000000000000000)
def badS (b : StepT) : Bool := decide (b.at_ < 0) || decide (1000000000000 < b.at_) || !inB b.value
def ordS (a b : StepT) : Bool := decide (0 ≤ orderF a b) || (a.name == b.name && a.value == b.value)
def stAt (l : List StepT) (k : Nat) : Int :=
 if nameF (l.getD k default).name ≠ 0 then nameF (l.getD k default).name else if badS (l.getD k default) = true then 2
 else if (decide (0 < k) && ordS (l.getD (k - 1) default) (l.getD k default)) = true then 11 else 0
def stepF (l : List StepT) : Int := firstErr (stAt l) l.length
theorem stAt_n {l : List StepT} {k : Nat} (h : nameF (l.getD k default).name ≠ 0) : stAt l k = nameF (l.getD k default).name := by rw [stAt, if_pos h]
theorem stAt_b {l : List StepT} {k : Nat} (h : nameF (l.getD k default).name = 0) (h2 : badS (l.getD k default) = true) : stAt l k = 2 := by rw [stAt, if_neg (by rw [h]; simp), if_pos h2]
theorem stAt_o {l : List StepT} {k : Nat} (h : nameF (l.getD k default).name = 0) (h2 : badS (l.getD k default) = false) : stAt l k = if (decide (0 < k) && ordS (l.getD (k - 1) default) (l.getD k default)) = true then 11 else 0 := by
 rw [stAt, if_neg (by rw [h]; simp), if_neg (by rw [h2]; simp)]
theorem k_stepCheck (l : List StepT) (hl : l.length < 1000000) : Pure Tryz.prog Gl 107 [.d (.sl (l.map StepT.toD))] (.d (.int .i64 (stepF l))) := by
 refine Pure.of1 ?_
 refine acalls_of Tryz.func107 rfl rfl (by simp [Tryz.ntmps107]) (evC_sound rfl _ _ _ _ ?_)
 simp only [Tryz.ntmps107, Tryz.results107, argEnv, List.length_nil]
 simp only [zC, seval, implies_true, Nat.reduceLeDiff, Nat.reduceEqDiff, reduceCtorEq, reduceIte]
 refine for_of l.length (fun k => [(0, .d (.sl (l.map StepT.toD))), (6, .d (.sl (l.map StepT.toD))), (7, .d (.int .i64 l.length)), (8, .d (.int .i64 k))]) (fun _ => []) (fun k => firstErr (stAt l) k = 0) rfl ?_ ?_
 ·refine weak_to [] [] rfl List.nodup_nil ?_ rfl
  simp only [zC, seval, implies_true, Nat.reduceLeDiff, Nat.reduceEqDiff, reduceCtorEq, reduceIte, Int.cast_ofNat_Int]
 ·intro k hi hk
  by_cases h : k < l.length
  ·have hb : ∀ e, stAt l k = e → e ≠ 0 → stepF l = e := fun e h1 h2 => by rw [stepF, firstErr_at hi (by rw [h1]; exact h2) h, h1]
   obtain ⟨b, eb⟩ : ∃ b, b = l.getD k default := ⟨_, rfl⟩
   simp only [zC, seval, implies_true, Nat.reduceLeDiff, Nat.reduceEqDiff, reduceCtorEq, reduceIte, (show (k:Int) < l.length by omega), h, a_getD _ _ _ (show k < l.length by omega), ← eb]
   repeat ((with_reducible refine And.intro ?_ ?_); (focus (first | omega | (simp only [lenR]; omega) | (refine qq ?_; rfl) | (refine dq ?_; kernel_rfl) | (intros; simp_all; done))))
   refine callF_pure (k_Name _) ?_
   simp only [zC, seval, implies_true, Nat.reduceLeDiff, Nat.reduceEqDiff, reduceCtorEq, reduceIte]
   refine ifC.mk (fun h1 => ?_) (fun h1 => ?_)
   ·have h1 : nameF b.name ≠ 0 := by simpa using h1
    refine ⟨_, _, ret_d, ?_, rfl⟩
    rw [hb _ (stAt_n (by rw [← eb]; exact h1)) (by rw [← eb]; exact h1), ← eb]
   ·have h1 : nameF b.name = 0 := by simpa using h1
    repeat ((with_reducible refine And.intro ?_ ?_); (focus (first | omega | (simp only [lenR]; omega) | (refine qq ?_; rfl) | (refine dq ?_; kernel_rfl) | (intros; simp_all; done))))
    refine callG_pure (fun _ => k_In _) ?_
    simp only [zC, seval, implies_true, Nat.reduceLeDiff, Nat.reduceEqDiff, reduceCtorEq, reduceIte]
    repeat ((with_reducible refine And.intro ?_ ?_); (focus (first | omega | (simp only [lenR]; omega) | (refine qq ?_; rfl) | (refine dq ?_; kernel_rfl) | (intros; simp_all; done))))
    refine ifC.mk (fun h2 => ?_) (fun h2 => ?_)
    ·refine ⟨_, _, ret_d, ?_, rfl⟩
     rw [hb 2 (stAt_b (by rw [← eb]; exact h1) (by rw [← eb]; exact h2)) (by omega)]
    ·have h2 : badS b = false := h2
     have ho := stAt_o (l := l) (k := k) (by rw [← eb]; exact h1) (by rw [← eb]; exact h2)
     rw [← eb] at ho
     by_cases hk0 : 0 < k
     ·have e1 : IntKind.i64.wrap ((k : Int) - 1) = ((k - 1 : Nat) : Int) := by rw [wrap64 (by omega) (by omega)]; omega
      obtain ⟨a, ea⟩ : ∃ a, a = l.getD (k - 1) default := ⟨_, rfl⟩
      rw [decide_eq_true hk0, Bool.true_and, ← ea] at ho
      simp only [zC, seval, implies_true, Nat.reduceLeDiff, Nat.reduceEqDiff, reduceCtorEq, reduceIte, (show (0:Int) < k by omega), e1, (show ((k - 1 : Nat) : Int) < l.length by omega), (show k - 1 < l.length by omega), a_getD _ _ _ (show k - 1 < l.length by omega), ← ea]
      repeat ((with_reducible refine And.intro ?_ ?_); (focus (first | omega | (simp only [lenR]; omega) | (refine qq ?_; rfl) | (refine dq ?_; kernel_rfl) | (intros; simp_all; done))))
      refine callG_pure (fun _ => k_order _ _) ?_
      simp only [zC, seval, implies_true, Nat.reduceLeDiff, Nat.reduceEqDiff, reduceCtorEq, reduceIte, (show (0:Int) < k by omega), e1, (show ((k - 1 : Nat) : Int) < l.length by omega), (show k - 1 < l.length by omega), a_getD _ _ _ (show k - 1 < l.length by omega), ← ea]
      repeat ((with_reducible refine And.intro ?_ ?_); (focus (first | omega | (simp only [lenR]; omega) | (refine qq ?_; rfl) | (refine dq ?_; kernel_rfl) | (intros; simp_all; done))))
      refine ifC.mk (fun h3 => ?_) (fun h3 => ?_)
      ·refine ⟨_, _, ret_d, ?_, rfl⟩
       rw [if_pos (show ordS a b = true from h3)] at ho
       rw [hb 11 ho (by omega)]
      ·rw [if_neg (by rw [show ordS a b = false from h3]; simp)] at ho
       refine ⟨firstErr_step hi ho, ?_⟩
       refine weak_to [] [] rfl List.nodup_nil ?_ rfl
       simp only [zC, seval, implies_true, Nat.reduceLeDiff, Nat.reduceEqDiff, reduceCtorEq, reduceIte, @a_wrap ((k:Int) + 1) (by omega)]
     ·rw [decide_eq_false hk0, Bool.false_and, if_neg (by simp)] at ho
      have e0 : (IntKind.i64.wrap ((k : Int) - 1)).toNat = 0 := by rw [wrap64 (by omega) (by omega)]; omega
      simp only [zC, seval, implies_true, Nat.reduceLeDiff, Nat.reduceEqDiff, reduceCtorEq, reduceIte, (show ¬ (0:Int) < k by omega), e0, a_getD _ _ _ (show 0 < l.length by omega)]
      repeat ((with_reducible refine And.intro ?_ ?_); (focus (first | omega | (simp only [lenR]; omega) | (refine qq ?_; rfl) | (refine dq ?_; kernel_rfl) | (intros; simp_all; done))))
      refine callG_pure (v := .d (.int .i64 0)) (fun h => by cases h) ?_
      simp only [zC, seval, implies_true, Nat.reduceLeDiff, Nat.reduceEqDiff, reduceCtorEq, reduceIte, e0, a_getD _ _ _ (show 0 < l.length by omega)]
      refine ⟨firstErr_step hi ho, ?_⟩
      refine weak_to [] [] rfl List.nodup_nil ?_ rfl
      simp only [zC, seval, implies_true, Nat.reduceLeDiff, Nat.reduceEqDiff, reduceCtorEq, reduceIte, @a_wrap ((k:Int) + 1) (by omega)]
  ·simp only [zC, seval, implies_true, Nat.reduceLeDiff, Nat.reduceEqDiff, reduceCtorEq, reduceIte, (show ¬ (k:Int) < l.length by omega)]
   refine ⟨_, _, ret_d, ?_, rfl⟩
   have : k = l.length := by omega
   rw [stepF, ← this, hi]
def ltN (a b : StepT) : Prop := ltS a.name b.name = true ∨ (a.name = b.name ∧ a.at_ < b.at_)
theorem cmpS_cases (a b : List UInt8) : (ltS a b = true ∧ a ≠ b ∧ ltS b a = false ∧ cmpS a b = -1) ∨ (ltS a b = false ∧ a = b ∧ ltS b a = false ∧ cmpS a b = 0) ∨ (ltS a b = false ∧ a ≠ b ∧ ltS b a = true ∧ cmpS a b = 1) := by
 rcases bl_cases a b with ⟨h1, h2, h3⟩ | ⟨h1, h2, h3⟩ | ⟨h1, h2, h3⟩
 ·exact .inl ⟨h1, h2, h3, by unfold cmpS ltS; rw [h1]; rfl⟩
 ·exact .inr (.inl ⟨h1, h2, h3, by unfold cmpS ltS; rw [h1, h2]; simp⟩)
 ·exact .inr (.inr ⟨h1, h2, h3, by unfold cmpS ltS; rw [h1]; simp [h2]⟩)
theorem cmpI_cases (a b : Int) : (a < b ∧ cmpI a b = -1) ∨ (a = b ∧ cmpI a b = 0) ∨ (b < a ∧ cmpI a b = 1) := by
 unfold cmpI
 by_cases h : a < b
 ·exact .inl ⟨h, by rw [if_pos h]⟩
 ·by_cases h2 : b < a
  ·exact .inr (.inr ⟨h2, by rw [if_neg h, if_pos h2]⟩)
  ·exact .inr (.inl ⟨by omega, by rw [if_neg h, if_neg h2]⟩)
theorem order_neg (a b : StepT) : orderF a b < 0 ↔ ltN a b := by
 unfold orderF orF ltN
 rcases cmpS_cases a.name b.name with ⟨h1, h2, h3, h4⟩ | ⟨h1, h2, h3, h4⟩ | ⟨h1, h2, h3, h4⟩
 ·rw [h4, h1]; simp
 ·rw [h4, h1, if_pos rfl]
  rcases cmpI_cases a.at_ b.at_ with ⟨q, e⟩ | ⟨q, e⟩ | ⟨q, e⟩ <;> rw [e] <;> simp [h2] <;> omega
 ·rw [h4, h1]; simp [h2]
theorem ord_ref (a b : StepT) : (ltS b.name a.name || (b.name == a.name && (decide (b.at_ ≤ a.at_) || b.value == a.value))) = ordS a b := by
 have hn := order_neg a b
 have hd : decide (0 ≤ orderF a b) = !decide (orderF a b < 0) := by rw [Bool.eq_iff_iff]; simp
 unfold ordS
 rw [hd]
 rcases cmpS_cases a.name b.name with ⟨h1, h2, h3, _⟩ | ⟨h1, h2, h3, _⟩ | ⟨h1, h2, h3, _⟩
 ·have : orderF a b < 0 := hn.2 (.inl h1)
  have h4 : (b.name == a.name) = false := by simpa using fun e => h2 e.symm
  have h5 : (a.name == b.name) = false := by simpa using h2
  rw [show ltS b.name a.name = false from h3, h4, h5]; simp [this]
 ·rw [show ltS b.name a.name = false from h3, h2]
  by_cases q : a.at_ < b.at_
  ·have : orderF a b < 0 := hn.2 (.inr ⟨h2, q⟩)
   rw [decide_eq_true this]
   have e : decide (b.at_ ≤ a.at_) = false := by simp; omega
   rw [e]; simp
   rw [Bool.eq_iff_iff]; simp; exact ⟨fun h => h.symm, fun h => h.symm⟩
  ·have : ¬ orderF a b < 0 := fun h => by
    rcases hn.1 h with h | h
    ·rw [h1] at h; cases h
    ·exact q h.2
   rw [decide_eq_false this]
   have e : decide (b.at_ ≤ a.at_) = true := by simp; omega
   rw [e]; simp
 ·have : ¬ orderF a b < 0 := fun h => by
   rcases hn.1 h with h | h
   ·rw [h1] at h; cases h
   ·exact h2 h.1
  rw [show ltS b.name a.name = true from h3, decide_eq_false this]; simp
theorem k_RstepCheck (l : List StepT) (hl : l.length < 1000000) : Pure Tryz.prog Gl 132 [.d (.sl (l.map StepT.toD))] (.d (.int .i64 (stepF l))) := by
 refine Pure.of1 ?_
 refine acalls_of Tryz.func132 rfl rfl (by simp [Tryz.ntmps132]) (evC_sound rfl _ _ _ _ ?_)
 simp only [Tryz.ntmps132, Tryz.results132, argEnv, List.length_nil]
 simp only [zC, seval, implies_true, Nat.reduceLeDiff, Nat.reduceEqDiff, reduceCtorEq, reduceIte]
 refine for_of l.length (fun k => [(0, .d (.sl (l.map StepT.toD))), (3, .d (.int .i64 k))]) (fun _ => []) (fun k => firstErr (stAt l) k = 0) rfl ?_ ?_
 ·refine weak_to [] [] rfl List.nodup_nil ?_ rfl
  simp only [zC, seval, implies_true, Nat.reduceLeDiff, Nat.reduceEqDiff, reduceCtorEq, reduceIte, Int.cast_ofNat_Int]
 ·intro k hi hk
  by_cases h : k < l.length
  ·have hb : ∀ e, stAt l k = e → e ≠ 0 → stepF l = e := fun e h1 h2 => by rw [stepF, firstErr_at hi (by rw [h1]; exact h2) h, h1]
   obtain ⟨b, eb⟩ : ∃ b, b = l.getD k default := ⟨_, rfl⟩
   simp only [zC, seval, implies_true, Nat.reduceLeDiff, Nat.reduceEqDiff, reduceCtorEq, reduceIte, (show (k:Int) < l.length by omega), h, a_getD _ _ _ (show k < l.length by omega), ← eb]
   refine callF_pure (k_RName _) ?_
   simp only [zC, seval, implies_true, Nat.reduceLeDiff, Nat.reduceEqDiff, reduceCtorEq, reduceIte]
   refine ifC.mk (fun h1 => ?_) (fun h1 => ?_)
   ·have h1 : nameF b.name ≠ 0 := by simpa using h1
    refine ⟨_, _, ret_d, ?_, rfl⟩
    rw [hb _ (stAt_n (by rw [← eb]; exact h1)) (by rw [← eb]; exact h1), ← eb]
   ·have h1 : nameF b.name = 0 := by simpa using h1
    (try simp only [zC, seval, implies_true, Nat.reduceLeDiff, Nat.reduceEqDiff, reduceCtorEq, reduceIte, (show (k:Int) < l.length by omega), h, a_getD _ _ _ (show k < l.length by omega), ← eb])
    repeat ((with_reducible refine And.intro ?_ ?_); (focus (first | omega | (simp only [lenR]; omega) | (refine qq ?_; rfl) | (refine dq ?_; kernel_rfl) | (intros; simp_all; done))))
    have hbb : (decide (b.at_ < 0) || decide (1000000000000 < b.at_) || decide (b.value < -1000000000000000) || decide (1000000000000000 < b.value)) = badS b := by
     unfold badS inB; rw [Bool.eq_iff_iff]; simp; omega
    refine ifC.mk (fun h2 => ?_) (fun h2 => ?_)
    ·refine ⟨_, _, ret_d, ?_, rfl⟩
     rw [hb 2 (stAt_b (by rw [← eb]; exact h1) (by rw [← eb, ← hbb]; exact h2)) (by omega)]
    ·have ho := stAt_o (l := l) (k := k) (by rw [← eb]; exact h1) (by rw [← eb, ← hbb]; exact h2)
     rw [← eb] at ho
     by_cases hk0 : 0 < k
     ·have e1 : IntKind.i64.wrap ((k : Int) - 1) = ((k - 1 : Nat) : Int) := by rw [wrap64 (by omega) (by omega)]; omega
      obtain ⟨a, ea⟩ : ∃ a, a = l.getD (k - 1) default := ⟨_, rfl⟩
      rw [decide_eq_true hk0, Bool.true_and, ← ea] at ho
      (try simp only [zC, seval, implies_true, Nat.reduceLeDiff, Nat.reduceEqDiff, reduceCtorEq, reduceIte, (show (0:Int) < k by omega), e1, (show ((k - 1 : Nat) : Int) < l.length by omega), (show k - 1 < l.length by omega), a_getD _ _ _ (show k - 1 < l.length by omega), ← ea, (show (k:Int) < l.length by omega), h, a_getD _ _ _ (show k < l.length by omega), ← eb])
      repeat ((with_reducible refine And.intro ?_ ?_); (focus (first | omega | (simp only [lenR]; omega) | (refine qq ?_; rfl) | (refine dq ?_; kernel_rfl) | (intros; simp_all; done))))
      rw [show (Op.bytesLess b.name a.name || (b.name == a.name && (decide (b.at_ ≤ a.at_) || b.value == a.value))) = ordS a b from ord_ref a b]
      refine ifC.mk (fun h3 => ?_) (fun h3 => ?_)
      ·refine ⟨_, _, ret_d, ?_, rfl⟩
       rw [if_pos h3] at ho
       rw [hb 11 ho (by omega)]
      ·rw [if_neg (by rw [h3]; simp)] at ho
       refine ⟨firstErr_step hi ho, ?_⟩
       refine weak_to [] [] rfl List.nodup_nil ?_ rfl
       simp only [zC, seval, implies_true, Nat.reduceLeDiff, Nat.reduceEqDiff, reduceCtorEq, reduceIte, @a_wrap ((k:Int) + 1) (by omega)]
     ·rw [decide_eq_false hk0, Bool.false_and, if_neg (by simp)] at ho
      have e0 : (IntKind.i64.wrap ((k : Int) - 1)).toNat = 0 := by rw [wrap64 (by omega) (by omega)]; omega
      (try simp only [zC, seval, implies_true, Nat.reduceLeDiff, Nat.reduceEqDiff, reduceCtorEq, reduceIte, (show ¬ (0:Int) < k by omega), e0, a_getD _ _ _ (show 0 < l.length by omega), (show (k:Int) < l.length by omega), h, a_getD _ _ _ (show k < l.length by omega), ← eb])
      repeat ((with_reducible refine And.intro ?_ ?_); (focus (first | omega | (simp only [lenR]; omega) | (refine qq ?_; rfl) | (refine dq ?_; kernel_rfl) | (intros; simp_all; done))))
      refine ⟨firstErr_step hi ho, ?_⟩
      refine weak_to [] [] rfl List.nodup_nil ?_ rfl
      simp only [zC, seval, implies_true, Nat.reduceLeDiff, Nat.reduceEqDiff, reduceCtorEq, reduceIte, @a_wrap ((k:Int) + 1) (by omega)]
  ·simp only [zC, seval, implies_true, Nat.reduceLeDiff, Nat.reduceEqDiff, reduceCtorEq, reduceIte, (show ¬ (k:Int) < l.length by omega)]
   refine ⟨_, _, ret_d, ?_, rfl⟩
   have : k = l.length := by omega
   rw [stepF, ← this, hi]
def badB (b : BlockT) : Bool := decide (b.id < 0) || decide (1000000000000000 < b.id) || decide (b.thread < 0) || decide (1000000000000000 < b.thread) || decide (b.size < 1) || decide (1000000000000 < b.size) || !(decide (0 ≤ b.lo) && decide (b.lo < b.hi) && decide (b.hi ≤ 1000000000000))
def clashB (a b : BlockT) : Bool := a.id == b.id && decide (a.lo < b.hi) && decide (b.lo < a.hi)
def bkAt (l : List BlockT) (k : Nat) : Int :=
 if badB (l.getD k default) = true then 2 else if framesF (l.getD k default).stack ≠ 0 then framesF (l.getD k default).stack
 else if (decide (0 < k) && decide ((l.getD k default).lo < (l.getD (k - 1) default).lo)) = true then 11
 else if (l.take k).any (fun a => clashB a (l.getD k default)) = true then 4 else 0
def bkF (l : List BlockT) : Int := firstErr (bkAt l) l.length
theorem bkAt_bad {l : List BlockT} {k : Nat} (h : badB (l.getD k default) = true) : bkAt l k = 2 := by rw [bkAt, if_pos h]
theorem bkAt_fr {l : List BlockT} {k : Nat} (h : badB (l.getD k default) = false) (h2 : framesF (l.getD k default).stack ≠ 0) : bkAt l k = framesF (l.getD k default).stack := by rw [bkAt, if_neg (by rw [h]; simp), if_pos h2]
theorem bkAt_ord {l : List BlockT} {k : Nat} (h : badB (l.getD k default) = false) (h2 : framesF (l.getD k default).stack = 0) (h3 : (decide (0 < k) && decide ((l.getD k default).lo < (l.getD (k - 1) default).lo)) = true) : bkAt l k = 11 := by
 rw [bkAt, if_neg (by rw [h]; simp), if_neg (by rw [h2]; simp), if_pos h3]
theorem bkAt_cl {l : List BlockT} {k : Nat} (h : badB (l.getD k default) = false) (h2 : framesF (l.getD k default).stack = 0) (h3 : (decide (0 < k) && decide ((l.getD k default).lo < (l.getD (k - 1) default).lo)) = false) :
  bkAt l k = if (l.take k).any (fun a => clashB a (l.getD k default)) = true then 4 else 0 := by
 rw [bkAt, if_neg (by rw [h]; simp), if_neg (by rw [h2]; simp), if_neg (by rw [h3]; simp)]
theorem k_bkCheck (l : List BlockT) (hs : ∀ x ∈ l, x.stack.length < 1000000) (hl : l.length < 1000000) : Pure Tryz.prog Gl 109 [.d (.sl (l.map BlockT.toD))] (.d (.int .i64 (bkF l))) := by
 refine Pure.of1 ?_
 refine acalls_of Tryz.func109 rfl rfl (by simp [Tryz.ntmps109]) (evC_sound rfl _ _ _ _ ?_)
 simp only [Tryz.ntmps109, Tryz.results109, argEnv, List.length_nil]
 simp only [zC, seval, implies_true, Nat.reduceLeDiff, Nat.reduceEqDiff, reduceCtorEq, reduceIte]
 refine for_of l.length (fun k => [(0, .d (.sl (l.map BlockT.toD))), (8, .d (.sl (l.map BlockT.toD))), (9, .d (.int .i64 l.length)), (10, .d (.int .i64 k))]) (fun _ => []) (fun k => firstErr (bkAt l) k = 0) rfl ?_ ?_
 ·refine weak_to [] [] rfl List.nodup_nil ?_ rfl
  simp only [zC, seval, implies_true, Nat.reduceLeDiff, Nat.reduceEqDiff, reduceCtorEq, reduceIte, Int.cast_ofNat_Int]
 ·intro k hi hk
  by_cases h : k < l.length
  ·have hb : ∀ e, bkAt l k = e → e ≠ 0 → bkF l = e := fun e h1 h2 => by rw [bkF, firstErr_at hi (by rw [h1]; exact h2) h, h1]
   obtain ⟨b, eb⟩ : ∃ b, b = l.getD k default := ⟨_, rfl⟩
   have lt : (l.take k).length = k := by simp; omega
   simp only [zC, seval, implies_true, Nat.reduceLeDiff, Nat.reduceEqDiff, reduceCtorEq, reduceIte, (show (k:Int) < l.length by omega), h, a_getD _ _ _ (show k < l.length by omega), ← eb]
   repeat ((with_reducible refine And.intro ?_ ?_); (focus (first | omega | (simp only [lenR]; omega) | (refine qq ?_; rfl) | (refine dq ?_; kernel_rfl) | (intros; simp_all; done))))
   refine callG_pure (fun _ => k_Valid _ _) ?_
   simp only [zC, seval, implies_true, Nat.reduceLeDiff, Nat.reduceEqDiff, reduceCtorEq, reduceIte]
   refine ifC.mk (fun h1 => ?_) (fun h1 => ?_)
   ·refine ⟨_, _, ret_d, ?_, rfl⟩
    rw [hb 2 (bkAt_bad (by rw [← eb]; exact h1)) (by omega)]
   ·have hb1 : badB (l.getD k default) = false := by rw [← eb]; exact h1
    refine callF_pure (k_Frames _ (by rw [eb]; exact hs _ (mem_getD h))) ?_
    simp only [zC, seval, implies_true, Nat.reduceLeDiff, Nat.reduceEqDiff, reduceCtorEq, reduceIte]
    refine ifC.mk (fun h2 => ?_) (fun h2 => ?_)
    ·have h2 : framesF (l.getD k default).stack ≠ 0 := by rw [← eb]; simpa using h2
     refine ⟨_, _, ret_d, ?_, rfl⟩
     rw [hb _ (bkAt_fr hb1 h2) h2, eb]
    ·have hb2 : framesF (l.getD k default).stack = 0 := by rw [← eb]; simpa using h2
     by_cases hk0 : 0 < k
     ·have e1 : IntKind.i64.wrap ((k : Int) - 1) = ((k - 1 : Nat) : Int) := by rw [wrap64 (by omega) (by omega)]; omega
      simp only [zC, seval, implies_true, Nat.reduceLeDiff, Nat.reduceEqDiff, reduceCtorEq, reduceIte, (show (0:Int) < k by omega), e1, (show ((k - 1 : Nat) : Int) < l.length by omega), (show k - 1 < l.length by omega), a_getD _ _ _ (show k - 1 < l.length by omega)]
      repeat ((with_reducible refine And.intro ?_ ?_); (focus (first | omega | (simp only [lenR]; omega) | (refine qq ?_; rfl) | (refine dq ?_; kernel_rfl) | (intros; simp_all; done))))
      refine ifC.mk (fun h3 => ?_) (fun h3 => ?_)
      ·refine ⟨_, _, ret_d, ?_, rfl⟩
       rw [hb 11 (bkAt_ord hb1 hb2 (by rw [← eb]; simp [hk0]; simpa using h3)) (by omega)]
      ·have hb3 : (decide (0 < k) && decide ((l.getD k default).lo < (l.getD (k - 1) default).lo)) = false := by rw [← eb]; simp [hk0]; simpa using h3
       (try simp only [zC, seval, implies_true, Nat.reduceLeDiff, Nat.reduceEqDiff, reduceCtorEq, reduceIte, ← List.map_take, lt, (show (k:Int) ≤ l.length by omega)])
       repeat ((with_reducible refine And.intro ?_ ?_); (focus (first | omega | (simp only [lenR]; omega) | (refine qq ?_; rfl) | (refine dq ?_; kernel_rfl) | (intros; simp_all; done))))
       have hcl := bkAt_cl (l := l) (k := k) hb1 hb2 hb3
       refine for_of k (fun j => [(0, .d (.sl (l.map BlockT.toD))), (4, .ptr 0 0), (8, .d (.sl (l.map BlockT.toD))), (9, .d (.int .i64 l.length)), (10, .d (.int .i64 k)), (72, .d (.sl ((l.take k).map BlockT.toD))), (73, .d (.int .i64 k)), (74, .d (.int .i64 j))]) (fun _ => [.box 7 (.d b.toD)]) (fun j => (l.take j).any (fun a => clashB a (l.getD k default)) = false) rfl ?_ ?_
       ·refine weak_to [] [0] rfl (by simp) ?_ rfl
        simp only [zC, seval, implies_true, Nat.reduceLeDiff, Nat.reduceEqDiff, reduceCtorEq, reduceIte, Int.cast_ofNat_Int, ← List.map_take, lt]
       ·intro j hj hjk
        by_cases h5 : j < k
        ·have h6 : j < (l.take k).length := by rw [lt]; exact h5
         have g1 : (l.take k).getD j default = l.getD j default := by simp [List.getElem?_take_of_lt h5]
         have hs := any_take (fun a => clashB a (l.getD k default)) l j (by omega)
         simp only [zC, seval, implies_true, Nat.reduceLeDiff, Nat.reduceEqDiff, reduceCtorEq, reduceIte, (show (j:Int) < k by omega), h6, a_getD _ _ _ (show j < (l.take k).length by omega), lt, g1, h5]
         repeat ((with_reducible refine And.intro ?_ ?_); (focus (first | omega | (simp only [lenR]; omega) | (refine qq ?_; rfl) | (refine dq ?_; kernel_rfl) | (intros; simp_all; done))))
         refine ifC.mk (fun hc => ?_) (fun hc => ?_)
         ·refine ⟨_, _, ret_d, ?_, rfl⟩
          rw [hb 4 (by rw [hcl, if_pos]; rw [List.any_eq_true]; exact ⟨l.getD j default, by rw [← g1]; exact mem_getD h6, by rw [← eb]; exact hc⟩) (by omega)]
         ·refine ⟨by rw [hs, hj, ← eb]; exact hc, ?_⟩
          refine weak_to [] [0] rfl (by simp) ?_ rfl
          simp only [zC, seval, implies_true, Nat.reduceLeDiff, Nat.reduceEqDiff, reduceCtorEq, reduceIte, @a_wrap ((j:Int) + 1) (by omega)]
        ·simp only [zC, seval, implies_true, Nat.reduceLeDiff, Nat.reduceEqDiff, reduceCtorEq, reduceIte, (show ¬ (j:Int) < k by omega)]
         have hjk : j = k := by omega
         subst hjk
         refine ⟨firstErr_step hi (by rw [hcl, if_neg (by rw [hj]; simp)]), ?_⟩
         refine weak_to [] [] rfl List.nodup_nil ?_ rfl
         simp only [zC, seval, implies_true, Nat.reduceLeDiff, Nat.reduceEqDiff, reduceCtorEq, reduceIte, @a_wrap ((j:Int) + 1) (by omega)]
     ·simp only [zC, seval, implies_true, Nat.reduceLeDiff, Nat.reduceEqDiff, reduceCtorEq, reduceIte, (show ¬ (0:Int) < k by omega)]
      repeat ((with_reducible refine And.intro ?_ ?_); (focus (first | omega | (simp only [lenR]; omega) | (refine qq ?_; rfl) | (refine dq ?_; kernel_rfl) | (intros; simp_all; done))))
      have hb3 : (decide (0 < k) && decide ((l.getD k default).lo < (l.getD (k - 1) default).lo)) = false := by simp [hk0]
      (try simp only [zC, seval, implies_true, Nat.reduceLeDiff, Nat.reduceEqDiff, reduceCtorEq, reduceIte, ← List.map_take, lt, (show (k:Int) ≤ l.length by omega)])
      repeat ((with_reducible refine And.intro ?_ ?_); (focus (first | omega | (simp only [lenR]; omega) | (refine qq ?_; rfl) | (refine dq ?_; kernel_rfl) | (intros; simp_all; done))))
      have hcl := bkAt_cl (l := l) (k := k) hb1 hb2 hb3
      refine for_of k (fun j => [(0, .d (.sl (l.map BlockT.toD))), (4, .ptr 0 0), (8, .d (.sl (l.map BlockT.toD))), (9, .d (.int .i64 l.length)), (10, .d (.int .i64 k)), (72, .d (.sl ((l.take k).map BlockT.toD))), (73, .d (.int .i64 k)), (74, .d (.int .i64 j))]) (fun _ => [.box 7 (.d b.toD)]) (fun j => (l.take j).any (fun a => clashB a (l.getD k default)) = false) rfl ?_ ?_
      ·refine weak_to [] [0] rfl (by simp) ?_ rfl
       simp only [zC, seval, implies_true, Nat.reduceLeDiff, Nat.reduceEqDiff, reduceCtorEq, reduceIte, Int.cast_ofNat_Int, ← List.map_take, lt]
      ·intro j hj hjk
       by_cases h5 : j < k
       ·have h6 : j < (l.take k).length := by rw [lt]; exact h5
        have g1 : (l.take k).getD j default = l.getD j default := by simp [List.getElem?_take_of_lt h5]
        have hs := any_take (fun a => clashB a (l.getD k default)) l j (by omega)
        simp only [zC, seval, implies_true, Nat.reduceLeDiff, Nat.reduceEqDiff, reduceCtorEq, reduceIte, (show (j:Int) < k by omega), h6, a_getD _ _ _ (show j < (l.take k).length by omega), lt, g1, h5]
        repeat ((with_reducible refine And.intro ?_ ?_); (focus (first | omega | (simp only [lenR]; omega) | (refine qq ?_; rfl) | (refine dq ?_; kernel_rfl) | (intros; simp_all; done))))
        refine ifC.mk (fun hc => ?_) (fun hc => ?_)
        ·refine ⟨_, _, ret_d, ?_, rfl⟩
         rw [hb 4 (by rw [hcl, if_pos]; rw [List.any_eq_true]; exact ⟨l.getD j default, by rw [← g1]; exact mem_getD h6, by rw [← eb]; exact hc⟩) (by omega)]
        ·refine ⟨by rw [hs, hj, ← eb]; exact hc, ?_⟩
         refine weak_to [] [0] rfl (by simp) ?_ rfl
         simp only [zC, seval, implies_true, Nat.reduceLeDiff, Nat.reduceEqDiff, reduceCtorEq, reduceIte, @a_wrap ((j:Int) + 1) (by omega)]
       ·simp only [zC, seval, implies_true, Nat.reduceLeDiff, Nat.reduceEqDiff, reduceCtorEq, reduceIte, (show ¬ (j:Int) < k by omega)]
        have hjk : j = k := by omega
        subst hjk
        refine ⟨firstErr_step hi (by rw [hcl, if_neg (by rw [hj]; simp)]), ?_⟩
        refine weak_to [] [] rfl List.nodup_nil ?_ rfl
        simp only [zC, seval, implies_true, Nat.reduceLeDiff, Nat.reduceEqDiff, reduceCtorEq, reduceIte, @a_wrap ((j:Int) + 1) (by omega)]
  ·simp only [zC, seval, implies_true, Nat.reduceLeDiff, Nat.reduceEqDiff, reduceCtorEq, reduceIte, (show ¬ (k:Int) < l.length by omega)]
   refine ⟨_, _, ret_d, ?_, rfl⟩
   have : k = l.length := by omega
   rw [bkF, ← this, hi]
theorem badB_ref (b : BlockT) : (decide (b.id < 0) || decide (1000000000000000 < b.id) || decide (b.thread < 0) || decide (1000000000000000 < b.thread) || decide (b.size < 1) || decide (1000000000000 < b.size) || decide (b.lo < 0) || decide (b.hi ≤ b.lo) || decide (1000000000000 < b.hi)) = badB b := by
 unfold badB
 rw [Bool.eq_iff_iff]; simp; omega
theorem k_Rcommon (a b c d : Int) : Pure Tryz.prog Gl 166 [.d (.agg [.int .i64 a, .int .i64 b]), .d (.agg [.int .i64 c, .int .i64 d])] (.d (.bool (decide (a < d) && decide (c < b)))) := by
 refine Pure.of2 ?_
 refine acalls_of Tryz.func166 rfl rfl (by simp [Tryz.ntmps166]) (evC_sound rfl _ _ _ _ ?_)
 simp only [Tryz.ntmps166, Tryz.results166, argEnv, List.length_nil]
 simp only [zC, seval, implies_true, Nat.reduceLeDiff, Nat.reduceEqDiff, reduceCtorEq, reduceIte]
 exact ⟨_, _, ret_d, rfl, rfl⟩
theorem k_RbkCheck (l : List BlockT) (hs : ∀ x ∈ l, x.stack.length < 1000000) (hl : l.length < 1000000) : Pure Tryz.prog Gl 133 [.d (.sl (l.map BlockT.toD))] (.d (.int .i64 (bkF l))) := by
 refine Pure.of1 ?_
 refine acalls_of Tryz.func133 rfl rfl (by simp [Tryz.ntmps133]) (evC_sound rfl _ _ _ _ ?_)
 simp only [Tryz.ntmps133, Tryz.results133, argEnv, List.length_nil]
 simp only [zC, seval, implies_true, Nat.reduceLeDiff, Nat.reduceEqDiff, reduceCtorEq, reduceIte]
 refine for_of l.length (fun k => [(0, .d (.sl (l.map BlockT.toD))), (3, .d (.int .i64 k))]) (fun _ => []) (fun k => firstErr (bkAt l) k = 0) rfl ?_ ?_
 ·refine weak_to [] [] rfl List.nodup_nil ?_ rfl
  simp only [zC, seval, implies_true, Nat.reduceLeDiff, Nat.reduceEqDiff, reduceCtorEq, reduceIte, Int.cast_ofNat_Int]
 ·intro k hi hk
  by_cases h : k < l.length
  ·have hb : ∀ e, bkAt l k = e → e ≠ 0 → bkF l = e := fun e h1 h2 => by rw [bkF, firstErr_at hi (by rw [h1]; exact h2) h, h1]
   obtain ⟨b, eb⟩ : ∃ b, b = l.getD k default := ⟨_, rfl⟩
   simp only [zC, seval, implies_true, Nat.reduceLeDiff, Nat.reduceEqDiff, reduceCtorEq, reduceIte, (show (k:Int) < l.length by omega), h, a_getD _ _ _ (show k < l.length by omega), ← eb]
   repeat ((with_reducible refine And.intro ?_ ?_); (focus (first | omega | (simp only [lenR]; omega) | (refine qq ?_; rfl) | (refine dq ?_; kernel_rfl) | (intros; simp_all; done))))
   refine ifC.mk (fun h1 => ?_) (fun h1 => ?_)
   ·refine ⟨_, _, ret_d, ?_, rfl⟩
    rw [hb 2 (bkAt_bad (by rw [← eb, ← badB_ref]; exact h1)) (by omega)]
   ·have hb1 : badB (l.getD k default) = false := by rw [← eb, ← badB_ref]; exact h1
    refine callF_pure (k_RFrames _ (by rw [eb]; exact hs _ (mem_getD h))) ?_
    simp only [zC, seval, implies_true, Nat.reduceLeDiff, Nat.reduceEqDiff, reduceCtorEq, reduceIte]
    refine ifC.mk (fun h2 => ?_) (fun h2 => ?_)
    ·have h2 : framesF (l.getD k default).stack ≠ 0 := by rw [← eb]; simpa using h2
     refine ⟨_, _, ret_d, ?_, rfl⟩
     rw [hb _ (bkAt_fr hb1 h2) h2, eb]
    ·have hb2 : framesF (l.getD k default).stack = 0 := by rw [← eb]; simpa using h2
     by_cases hk0 : 0 < k
     ·have e1 : IntKind.i64.wrap ((k : Int) - 1) = ((k - 1 : Nat) : Int) := by rw [wrap64 (by omega) (by omega)]; omega
      simp only [zC, seval, implies_true, Nat.reduceLeDiff, Nat.reduceEqDiff, reduceCtorEq, reduceIte, (show (0:Int) < k by omega), e1, (show ((k - 1 : Nat) : Int) < l.length by omega), (show k - 1 < l.length by omega), a_getD _ _ _ (show k - 1 < l.length by omega)]
      repeat ((with_reducible refine And.intro ?_ ?_); (focus (first | omega | (simp only [lenR]; omega) | (refine qq ?_; rfl) | (refine dq ?_; kernel_rfl) | (intros; simp_all; done))))
      refine ifC.mk (fun h3 => ?_) (fun h3 => ?_)
      ·refine ⟨_, _, ret_d, ?_, rfl⟩
       rw [hb 11 (bkAt_ord hb1 hb2 (by rw [← eb]; simp [hk0]; simpa using h3)) (by omega)]
      ·have hb3 : (decide (0 < k) && decide ((l.getD k default).lo < (l.getD (k - 1) default).lo)) = false := by rw [← eb]; simp [hk0]; simpa using h3
       have hcl := bkAt_cl (l := l) (k := k) hb1 hb2 hb3
       refine for_of k (fun j => [(0, .d (.sl (l.map BlockT.toD))), (3, .d (.int .i64 k)), (4, .ptr 0 0), (6, .d (.int .i64 j))]) (fun _ => [.box 7 (.d b.toD)]) (fun j => (l.take j).any (fun a => clashB a (l.getD k default)) = false) rfl ?_ ?_
       ·refine weak_to [] [0] rfl (by simp) ?_ rfl
        simp only [zC, seval, implies_true, Nat.reduceLeDiff, Nat.reduceEqDiff, reduceCtorEq, reduceIte, Int.cast_ofNat_Int]
       ·intro j hj hjk
        by_cases h5 : j < k
        ·have hs := any_take (fun a => clashB a (l.getD k default)) l j (by omega)
         simp only [zC, seval, implies_true, Nat.reduceLeDiff, Nat.reduceEqDiff, reduceCtorEq, reduceIte, (show (j:Int) < k by omega), (show (j:Int) < l.length by omega), (show j < l.length by omega), a_getD _ _ _ (show j < l.length by omega), h5]
         repeat ((with_reducible refine And.intro ?_ ?_); (focus (first | omega | (simp only [lenR]; omega) | (refine qq ?_; rfl) | (refine dq ?_; kernel_rfl) | (intros; simp_all; done))))
         refine callG_pure (fun _ => k_Rcommon _ _ _ _) ?_
         simp only [zC, seval, implies_true, Nat.reduceLeDiff, Nat.reduceEqDiff, reduceCtorEq, reduceIte]
         repeat ((with_reducible refine And.intro ?_ ?_); (focus (first | omega | (simp only [lenR]; omega) | (refine qq ?_; rfl) | (refine dq ?_; kernel_rfl) | (intros; simp_all; done))))
         refine ifC.mk (fun hc => ?_) (fun hc => ?_)
         ·refine ⟨_, _, ret_d, ?_, rfl⟩
          rw [hb 4 (by rw [hcl, if_pos]; rw [List.any_eq_true]; refine ⟨l.getD j default, mem_take_getD h5 (by omega), ?_⟩; rw [← eb]; unfold clashB; rw [Bool.and_assoc]; exact hc) (by omega)]
         ·refine ⟨by rw [hs, hj, ← eb]; unfold clashB; rw [Bool.and_assoc]; exact hc, ?_⟩
          refine weak_to [] [0] rfl (by simp) ?_ rfl
          simp only [zC, seval, implies_true, Nat.reduceLeDiff, Nat.reduceEqDiff, reduceCtorEq, reduceIte, @a_wrap ((j:Int) + 1) (by omega)]
        ·simp only [zC, seval, implies_true, Nat.reduceLeDiff, Nat.reduceEqDiff, reduceCtorEq, reduceIte, (show ¬ (j:Int) < k by omega)]
         have hjk : j = k := by omega
         subst hjk
         refine ⟨firstErr_step hi (by rw [hcl, if_neg (by rw [hj]; simp)]), ?_⟩
         refine weak_to [] [] rfl List.nodup_nil ?_ rfl
         simp only [zC, seval, implies_true, Nat.reduceLeDiff, Nat.reduceEqDiff, reduceCtorEq, reduceIte, @a_wrap ((j:Int) + 1) (by omega)]
     ·simp only [zC, seval, implies_true, Nat.reduceLeDiff, Nat.reduceEqDiff, reduceCtorEq, reduceIte, (show ¬ (0:Int) < k by omega)]
      repeat ((with_reducible refine And.intro ?_ ?_); (focus (first | omega | (simp only [lenR]; omega) | (refine qq ?_; rfl) | (refine dq ?_; kernel_rfl) | (intros; simp_all; done))))
      have hb3 : (decide (0 < k) && decide ((l.getD k default).lo < (l.getD (k - 1) default).lo)) = false := by simp [hk0]
      have hcl := bkAt_cl (l := l) (k := k) hb1 hb2 hb3
      refine for_of k (fun j => [(0, .d (.sl (l.map BlockT.toD))), (3, .d (.int .i64 k)), (4, .ptr 0 0), (6, .d (.int .i64 j))]) (fun _ => [.box 7 (.d b.toD)]) (fun j => (l.take j).any (fun a => clashB a (l.getD k default)) = false) rfl ?_ ?_
      ·refine weak_to [] [0] rfl (by simp) ?_ rfl
       simp only [zC, seval, implies_true, Nat.reduceLeDiff, Nat.reduceEqDiff, reduceCtorEq, reduceIte, Int.cast_ofNat_Int]
      ·intro j hj hjk
       by_cases h5 : j < k
       ·have hs := any_take (fun a => clashB a (l.getD k default)) l j (by omega)
        simp only [zC, seval, implies_true, Nat.reduceLeDiff, Nat.reduceEqDiff, reduceCtorEq, reduceIte, (show (j:Int) < k by omega), (show (j:Int) < l.length by omega), (show j < l.length by omega), a_getD _ _ _ (show j < l.length by omega), h5]
        repeat ((with_reducible refine And.intro ?_ ?_); (focus (first | omega | (simp only [lenR]; omega) | (refine qq ?_; rfl) | (refine dq ?_; kernel_rfl) | (intros; simp_all; done))))
        refine callG_pure (fun _ => k_Rcommon _ _ _ _) ?_
        simp only [zC, seval, implies_true, Nat.reduceLeDiff, Nat.reduceEqDiff, reduceCtorEq, reduceIte]
        repeat ((with_reducible refine And.intro ?_ ?_); (focus (first | omega | (simp only [lenR]; omega) | (refine qq ?_; rfl) | (refine dq ?_; kernel_rfl) | (intros; simp_all; done))))
        refine ifC.mk (fun hc => ?_) (fun hc => ?_)
        ·refine ⟨_, _, ret_d, ?_, rfl⟩
         rw [hb 4 (by rw [hcl, if_pos]; rw [List.any_eq_true]; refine ⟨l.getD j default, mem_take_getD h5 (by omega), ?_⟩; rw [← eb]; unfold clashB; rw [Bool.and_assoc]; exact hc) (by omega)]
        ·refine ⟨by rw [hs, hj, ← eb]; unfold clashB; rw [Bool.and_assoc]; exact hc, ?_⟩
         refine weak_to [] [0] rfl (by simp) ?_ rfl
         simp only [zC, seval, implies_true, Nat.reduceLeDiff, Nat.reduceEqDiff, reduceCtorEq, reduceIte, @a_wrap ((j:Int) + 1) (by omega)]
       ·simp only [zC, seval, implies_true, Nat.reduceLeDiff, Nat.reduceEqDiff, reduceCtorEq, reduceIte, (show ¬ (j:Int) < k by omega)]
        have hjk : j = k := by omega
        subst hjk
        refine ⟨firstErr_step hi (by rw [hcl, if_neg (by rw [hj]; simp)]), ?_⟩
        refine weak_to [] [] rfl List.nodup_nil ?_ rfl
        simp only [zC, seval, implies_true, Nat.reduceLeDiff, Nat.reduceEqDiff, reduceCtorEq, reduceIte, @a_wrap ((j:Int) + 1) (by omega)]
  ·simp only [zC, seval, implies_true, Nat.reduceLeDiff, Nat.reduceEqDiff, reduceCtorEq, reduceIte, (show ¬ (k:Int) < l.length by omega)]
   refine ⟨_, _, ret_d, ?_, rfl⟩
   have : k = l.length := by omega
   rw [bkF, ← this, hi]
end YtadfcljoocjhdaaGreat
end Go.Proofs
