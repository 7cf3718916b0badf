/- A part of the proof: contracts of functions of this seat, and lemmas. No condition beyond those stated. -/
import Derived.Test.YtfmbadfdbjhekaaDoorWdnv
set_option linter.unusedVariables false
set_option linter.unusedSimpArgs false
set_option linter.unusedSectionVars false
set_option linter.unnecessarySimpa false
set_option maxRecDepth 100000
namespace Go.Proofs
open Go.AM
namespace YtfmbadfdbjhekaaDoor
variable {Gl : Globs}
theorem k_SameB (x y : List PairT) (n : Nat) (hx : x.length = n) (hy : y.length = n) (hl : n < 1000000) (B : Blk) (hB : ArrOrFrz 2 (y.map PairT.toD) B) : ACalls Tryd.prog Gl 13 [.d (.sl (x.map PairT.toD)), .osl 0 0 n] [B] (fun r s => r = .d (.bool (decide (x = y))) ∧ s = [B]) := by
 rcases hB with rfl | rfl
 ·refine acalls_of Tryd.func13 rfl rfl (by simp [Tryd.ntmps13]) (evC_sound rfl _ _ _ _ ?_)
  simp only [Tryd.ntmps13, Tryd.results13, argEnv, List.length_nil]
  simp only [zN, seval, implies_true, Nat.reduceLeDiff, Nat.reduceEqDiff, reduceCtorEq, reduceIte, intD]
  simp only [zN, seval, implies_true, Nat.reduceLeDiff, Nat.reduceEqDiff, reduceCtorEq, reduceIte, intD, hx, hy, bne_self_eq_false]
  repeat ((with_reducible refine And.intro ?_ ?_); (focus (first | omega | (simp only [lenR]; omega) | (refine qq ?_; rfl) | (refine dq ?_; kernel_rfl) | (intros; simp_all; done))))
  refine for_of n (fun j => [(0, .d (.sl (x.map PairT.toD))), (1, .osl 0 0 n), (5, .d (.int .i64 j))]) (fun _ => [.arr 2 (y.map PairT.toD)]) (fun j => x.take j = y.take j) rfl ?_ ?_
  ·refine weak_to [] [0] rfl (by simp) ?_ rfl
   simp only [zN, seval, implies_true, Nat.reduceLeDiff, Nat.reduceEqDiff, reduceCtorEq, reduceIte, intD, Int.cast_ofNat_Int]
   all_goals rfl
  ·intro j hi hjl
   by_cases h : j < n
   ·have hj : j < x.length := by omega
    have hj2 : j < y.length := by omega
    have e1 := take_step x j hj
    have e2 := take_step y j hj2
    obtain ⟨u, hu⟩ : ∃ u, u = x.getD j default := ⟨_, rfl⟩
    obtain ⟨v, hv⟩ : ∃ v, v = y.getD j default := ⟨_, rfl⟩
    rw [← hu] at e1
    rw [← hv] at e2
    have g1 : (x.map PairT.toD).getD j default = u.toD := by rw [a_getD _ _ _ hj, ← hu]
    have g2 : (y.map PairT.toD).getD j default = v.toD := by rw [a_getD _ _ _ hj2, ← hv]
    simp only [zN, seval, implies_true, Nat.reduceLeDiff, Nat.reduceEqDiff, reduceCtorEq, reduceIte, intD, hx, hy, (show (j:Int) < n by omega), h, hj, hj2, g1, g2]
    repeat ((with_reducible refine And.intro ?_ ?_); (focus (first | omega | (simp only [lenR]; omega) | (refine qq ?_; rfl) | (refine dq ?_; kernel_rfl) | (intros; simp_all; done))))
    simp only [zN, seval, implies_true, Nat.reduceLeDiff, Nat.reduceEqDiff, reduceCtorEq, reduceIte, intD, PairT.toD]
    repeat ((with_reducible refine And.intro ?_ ?_); (focus (first | omega | (simp only [lenR]; omega) | (refine qq ?_; rfl) | (refine dq ?_; kernel_rfl) | (intros; simp_all; done))))
    have huv : (u.a == v.a && u.b == v.b) = decide (u = v) := by
     rw [Bool.eq_iff_iff]
     simp only [Bool.and_eq_true, beq_iff_eq, decide_eq_true_eq]
     cases u; cases v; simp
    rw [huv]
    refine ifC.mk (fun h2 => ?_) (fun h2 => ?_)
    ·have h2 : u ≠ v := by simpa using h2
     refine ⟨_, _, weakR_to [] [0] rfl (by simp) (show renV _ _ _ = AV.d _ from rfl) rfl, ?_, rfl⟩
     rw [decide_eq_false (fun e => h2 (by rw [hu, hv, e]))]
    ·have h2 : u = v := by simpa using h2
     refine ⟨by rw [e1, e2, hi, h2], ?_⟩
     refine weak_to [] [0] rfl (by simp) ?_ rfl
     simp only [zN, seval, implies_true, Nat.reduceLeDiff, Nat.reduceEqDiff, reduceCtorEq, reduceIte, intD, @a_wrap ((j:Int) + 1) (by omega)]
     all_goals rfl
   ·simp only [zN, seval, implies_true, Nat.reduceLeDiff, Nat.reduceEqDiff, reduceCtorEq, reduceIte, intD, hx, (show ¬ (j:Int) < n by omega)]
    have : j = n := by omega
    subst this
    refine ⟨_, _, weakR_to [] [0] rfl (by simp) (show renV _ _ _ = AV.d _ from rfl) rfl, ?_, rfl⟩
    rw [← hx, List.take_length, hx, ← hy, List.take_length] at hi
    rw [decide_eq_true hi]
 ·refine acalls_of Tryd.func13 rfl rfl (by simp [Tryd.ntmps13]) (evC_sound rfl _ _ _ _ ?_)
  simp only [Tryd.ntmps13, Tryd.results13, argEnv, List.length_nil]
  simp only [zN, seval, implies_true, Nat.reduceLeDiff, Nat.reduceEqDiff, reduceCtorEq, reduceIte, intD]
  simp only [zN, seval, implies_true, Nat.reduceLeDiff, Nat.reduceEqDiff, reduceCtorEq, reduceIte, intD, hx, hy, bne_self_eq_false]
  repeat ((with_reducible refine And.intro ?_ ?_); (focus (first | omega | (simp only [lenR]; omega) | (refine qq ?_; rfl) | (refine dq ?_; kernel_rfl) | (intros; simp_all; done))))
  refine for_of n (fun j => [(0, .d (.sl (x.map PairT.toD))), (1, .osl 0 0 n), (5, .d (.int .i64 j))]) (fun _ => [.frz 2 (y.map PairT.toD)]) (fun j => x.take j = y.take j) rfl ?_ ?_
  ·refine weak_to [] [0] rfl (by simp) ?_ rfl
   simp only [zN, seval, implies_true, Nat.reduceLeDiff, Nat.reduceEqDiff, reduceCtorEq, reduceIte, intD, Int.cast_ofNat_Int]
   all_goals rfl
  ·intro j hi hjl
   by_cases h : j < n
   ·have hj : j < x.length := by omega
    have hj2 : j < y.length := by omega
    have e1 := take_step x j hj
    have e2 := take_step y j hj2
    obtain ⟨u, hu⟩ : ∃ u, u = x.getD j default := ⟨_, rfl⟩
    obtain ⟨v, hv⟩ : ∃ v, v = y.getD j default := ⟨_, rfl⟩
    rw [← hu] at e1
    rw [← hv] at e2
    have g1 : (x.map PairT.toD).getD j default = u.toD := by rw [a_getD _ _ _ hj, ← hu]
    have g2 : (y.map PairT.toD).getD j default = v.toD := by rw [a_getD _ _ _ hj2, ← hv]
    simp only [zN, seval, implies_true, Nat.reduceLeDiff, Nat.reduceEqDiff, reduceCtorEq, reduceIte, intD, hx, hy, (show (j:Int) < n by omega), h, hj, hj2, g1, g2]
    repeat ((with_reducible refine And.intro ?_ ?_); (focus (first | omega | (simp only [lenR]; omega) | (refine qq ?_; rfl) | (refine dq ?_; kernel_rfl) | (intros; simp_all; done))))
    simp only [zN, seval, implies_true, Nat.reduceLeDiff, Nat.reduceEqDiff, reduceCtorEq, reduceIte, intD, PairT.toD]
    repeat ((with_reducible refine And.intro ?_ ?_); (focus (first | omega | (simp only [lenR]; omega) | (refine qq ?_; rfl) | (refine dq ?_; kernel_rfl) | (intros; simp_all; done))))
    have huv : (u.a == v.a && u.b == v.b) = decide (u = v) := by
     rw [Bool.eq_iff_iff]
     simp only [Bool.and_eq_true, beq_iff_eq, decide_eq_true_eq]
     cases u; cases v; simp
    rw [huv]
    refine ifC.mk (fun h2 => ?_) (fun h2 => ?_)
    ·have h2 : u ≠ v := by simpa using h2
     refine ⟨_, _, weakR_to [] [0] rfl (by simp) (show renV _ _ _ = AV.d _ from rfl) rfl, ?_, rfl⟩
     rw [decide_eq_false (fun e => h2 (by rw [hu, hv, e]))]
    ·have h2 : u = v := by simpa using h2
     refine ⟨by rw [e1, e2, hi, h2], ?_⟩
     refine weak_to [] [0] rfl (by simp) ?_ rfl
     simp only [zN, seval, implies_true, Nat.reduceLeDiff, Nat.reduceEqDiff, reduceCtorEq, reduceIte, intD, @a_wrap ((j:Int) + 1) (by omega)]
     all_goals rfl
   ·simp only [zN, seval, implies_true, Nat.reduceLeDiff, Nat.reduceEqDiff, reduceCtorEq, reduceIte, intD, hx, (show ¬ (j:Int) < n by omega)]
    have : j = n := by omega
    subst this
    refine ⟨_, _, weakR_to [] [0] rfl (by simp) (show renV _ _ _ = AV.d _ from rfl) rfl, ?_, rfl⟩
    rw [← hx, List.take_length, hx, ← hy, List.take_length] at hi
    rw [decide_eq_true hi]
theorem k_SameTextsB (x y : List (List UInt8)) (n : Nat) (hx : x.length = n) (hy : y.length = n) (hl : n < 1000000) (B : Blk) (hB : ArrOrFrz 1 (y.map .str) B) : ACalls Tryd.prog Gl 20 [.d (.sl (x.map .str)), .osl 0 0 n] [B] (fun r s => r = .d (.bool (decide (x = y))) ∧ s = [B]) := by
 rcases hB with rfl | rfl
 ·refine acalls_of Tryd.func20 rfl rfl (by simp [Tryd.ntmps20]) (evC_sound rfl _ _ _ _ ?_)
  simp only [Tryd.ntmps20, Tryd.results20, argEnv, List.length_nil]
  simp only [zN, seval, implies_true, Nat.reduceLeDiff, Nat.reduceEqDiff, reduceCtorEq, reduceIte, intD]
  simp only [zN, seval, implies_true, Nat.reduceLeDiff, Nat.reduceEqDiff, reduceCtorEq, reduceIte, intD, hx, hy, bne_self_eq_false]
  repeat ((with_reducible refine And.intro ?_ ?_); (focus (first | omega | (simp only [lenR]; omega) | (refine qq ?_; rfl) | (refine dq ?_; kernel_rfl) | (intros; simp_all; done))))
  refine for_of n (fun j => [(0, .d (.sl (x.map .str))), (1, .osl 0 0 n), (5, .d (.int .i64 j))]) (fun _ => [.arr 1 (y.map .str)]) (fun j => x.take j = y.take j) rfl ?_ ?_
  ·refine weak_to [] [0] rfl (by simp) ?_ rfl
   simp only [zN, seval, implies_true, Nat.reduceLeDiff, Nat.reduceEqDiff, reduceCtorEq, reduceIte, intD, Int.cast_ofNat_Int]
   all_goals rfl
  ·intro j hi hjl
   by_cases h : j < n
   ·have hj : j < x.length := by omega
    have hj2 : j < y.length := by omega
    have e1 := take_step x j hj
    have e2 := take_step y j hj2
    obtain ⟨u, hu⟩ : ∃ u, u = x.getD j default := ⟨_, rfl⟩
    obtain ⟨v, hv⟩ : ∃ v, v = y.getD j default := ⟨_, rfl⟩
    rw [← hu] at e1
    rw [← hv] at e2
    have g1 : (x.map D.str).getD j default = .str u := by rw [hu]; simp [hj]
    have g2 : (y.map D.str).getD j default = .str v := by rw [hv]; simp [hj2]
    simp only [zN, seval, implies_true, Nat.reduceLeDiff, Nat.reduceEqDiff, reduceCtorEq, reduceIte, intD, hx, hy, (show (j:Int) < n by omega), h, hj, hj2, g1, g2]
    repeat ((with_reducible refine And.intro ?_ ?_); (focus (first | omega | (simp only [lenR]; omega) | (refine qq ?_; rfl) | (refine dq ?_; kernel_rfl) | (intros; simp_all; done))))
    refine ifC.mk (fun h2 => ?_) (fun h2 => ?_)
    ·have h2 : u ≠ v := by simpa using h2
     refine ⟨_, _, weakR_to [] [0] rfl (by simp) (show renV _ _ _ = AV.d _ from rfl) rfl, ?_, rfl⟩
     rw [decide_eq_false (fun e => h2 (by rw [hu, hv, e]))]
    ·have h2 : u = v := by simpa using h2
     refine ⟨by rw [e1, e2, hi, h2], ?_⟩
     refine weak_to [] [0] rfl (by simp) ?_ rfl
     simp only [zN, seval, implies_true, Nat.reduceLeDiff, Nat.reduceEqDiff, reduceCtorEq, reduceIte, intD, @a_wrap ((j:Int) + 1) (by omega)]
     all_goals rfl
   ·simp only [zN, seval, implies_true, Nat.reduceLeDiff, Nat.reduceEqDiff, reduceCtorEq, reduceIte, intD, hx, (show ¬ (j:Int) < n by omega)]
    have : j = n := by omega
    subst this
    refine ⟨_, _, weakR_to [] [0] rfl (by simp) (show renV _ _ _ = AV.d _ from rfl) rfl, ?_, rfl⟩
    rw [← hx, List.take_length, hx, ← hy, List.take_length] at hi
    rw [decide_eq_true hi]
 ·refine acalls_of Tryd.func20 rfl rfl (by simp [Tryd.ntmps20]) (evC_sound rfl _ _ _ _ ?_)
  simp only [Tryd.ntmps20, Tryd.results20, argEnv, List.length_nil]
  simp only [zN, seval, implies_true, Nat.reduceLeDiff, Nat.reduceEqDiff, reduceCtorEq, reduceIte, intD]
  simp only [zN, seval, implies_true, Nat.reduceLeDiff, Nat.reduceEqDiff, reduceCtorEq, reduceIte, intD, hx, hy, bne_self_eq_false]
  repeat ((with_reducible refine And.intro ?_ ?_); (focus (first | omega | (simp only [lenR]; omega) | (refine qq ?_; rfl) | (refine dq ?_; kernel_rfl) | (intros; simp_all; done))))
  refine for_of n (fun j => [(0, .d (.sl (x.map .str))), (1, .osl 0 0 n), (5, .d (.int .i64 j))]) (fun _ => [.frz 1 (y.map .str)]) (fun j => x.take j = y.take j) rfl ?_ ?_
  ·refine weak_to [] [0] rfl (by simp) ?_ rfl
   simp only [zN, seval, implies_true, Nat.reduceLeDiff, Nat.reduceEqDiff, reduceCtorEq, reduceIte, intD, Int.cast_ofNat_Int]
   all_goals rfl
  ·intro j hi hjl
   by_cases h : j < n
   ·have hj : j < x.length := by omega
    have hj2 : j < y.length := by omega
    have e1 := take_step x j hj
    have e2 := take_step y j hj2
    obtain ⟨u, hu⟩ : ∃ u, u = x.getD j default := ⟨_, rfl⟩
    obtain ⟨v, hv⟩ : ∃ v, v = y.getD j default := ⟨_, rfl⟩
    rw [← hu] at e1
    rw [← hv] at e2
    have g1 : (x.map D.str).getD j default = .str u := by rw [hu]; simp [hj]
    have g2 : (y.map D.str).getD j default = .str v := by rw [hv]; simp [hj2]
    simp only [zN, seval, implies_true, Nat.reduceLeDiff, Nat.reduceEqDiff, reduceCtorEq, reduceIte, intD, hx, hy, (show (j:Int) < n by omega), h, hj, hj2, g1, g2]
    repeat ((with_reducible refine And.intro ?_ ?_); (focus (first | omega | (simp only [lenR]; omega) | (refine qq ?_; rfl) | (refine dq ?_; kernel_rfl) | (intros; simp_all; done))))
    refine ifC.mk (fun h2 => ?_) (fun h2 => ?_)
    ·have h2 : u ≠ v := by simpa using h2
     refine ⟨_, _, weakR_to [] [0] rfl (by simp) (show renV _ _ _ = AV.d _ from rfl) rfl, ?_, rfl⟩
     rw [decide_eq_false (fun e => h2 (by rw [hu, hv, e]))]
    ·have h2 : u = v := by simpa using h2
     refine ⟨by rw [e1, e2, hi, h2], ?_⟩
     refine weak_to [] [0] rfl (by simp) ?_ rfl
     simp only [zN, seval, implies_true, Nat.reduceLeDiff, Nat.reduceEqDiff, reduceCtorEq, reduceIte, intD, @a_wrap ((j:Int) + 1) (by omega)]
     all_goals rfl
   ·simp only [zN, seval, implies_true, Nat.reduceLeDiff, Nat.reduceEqDiff, reduceCtorEq, reduceIte, intD, hx, (show ¬ (j:Int) < n by omega)]
    have : j = n := by omega
    subst this
    refine ⟨_, _, weakR_to [] [0] rfl (by simp) (show renV _ _ _ = AV.d _ from rfl) rfl, ?_, rfl⟩
    rw [← hx, List.take_length, hx, ← hy, List.take_length] at hi
    rw [decide_eq_true hi]
def ndT (p : Int) (s : List UInt8) (t : Int) : NodeT := ⟨p, s, 1, t, 1⟩
def exA : List NodeT := [ndT (-1) [109, 97, 105, 110] 4, ndT 0 [102] 2, ndT 1 [120] 1, ndT 0 [104] 1]
def exB : List NodeT := [ndT (-1) [109, 97, 105, 110] 4, ndT 0 [103] 2, ndT 1 [120] 1, ndT 0 [104] 1]
def exC : List NodeT := [ndT (-1) [109, 97, 105, 110] 2, ndT 0 [102] 1]
def exD : List NodeT := [ndT (-1) [109, 97, 105, 110] 2, ndT 0 [103] 1]
theorem ex1 : ofF exA exB = ([⟨0, 0⟩, ⟨1, 1⟩, ⟨2, 2⟩, ⟨3, 3⟩], 0) := by decide +kernel
theorem ex2 : ofF exC exD = ([⟨0, 0⟩, ⟨1, -1⟩, ⟨-1, 1⟩], 0) := by decide +kernel
theorem ex3 : ofF exC [] = ([⟨0, -1⟩, ⟨1, -1⟩], 0) := by decide +kernel
theorem ex4 : renamedF exA exB [⟨0, 0⟩, ⟨1, 1⟩, ⟨2, 2⟩, ⟨3, 3⟩] = [⟨1, 1⟩] := by decide +kernel
theorem ex5 : checkAl exA exB [⟨0, 0⟩, ⟨1, 1⟩, ⟨2, 2⟩, ⟨3, 3⟩] = true := by decide +kernel
theorem ex6 : checkAl exA exB [⟨0, 0⟩, ⟨1, 1⟩, ⟨2, 2⟩] = false := by decide +kernel
theorem ex7 : shapeF exA 0 = [[49, 32, 102], [50, 32, 120], [49, 32, 104]] := by decide +kernel
theorem ex8 : shapeF exA 4 = [] := by decide +kernel
theorem k_node (p t : Int) (s : List UInt8) : Pure Tryd.prog Gl 24 [.d (.int .i64 p), .d (.str s), .d (.int .i64 t)] (.d (ndT p s t).toD) := by
 refine Pure.of3 ?_
 refine acalls_of Tryd.func24 rfl rfl (by simp [Tryd.ntmps24]) (evC_sound rfl _ _ _ _ ?_)
 simp only [Tryd.ntmps24, Tryd.results24, argEnv, List.length_nil]
 simp only [zN, seval, implies_true, Nat.reduceLeDiff, Nat.reduceEqDiff, reduceCtorEq, reduceIte, intD]
 repeat ((with_reducible refine And.intro ?_ ?_); (focus (first | omega | (simp only [lenR]; omega) | (refine qq ?_; rfl) | (refine dq ?_; kernel_rfl) | (intros; simp_all; done))))
 refine ⟨_, _, ret_d, ?_, rfl⟩
 rfl
theorem k_sml (a b : List NodeT) : Pure Tryd.prog Gl 9 [.d (.sl (a.map NodeT.toD)), .d (.sl (b.map NodeT.toD))] (.d (.bool (decide (a.length ≤ 100) && decide (b.length ≤ 100)))) := by
 refine Pure.of2 ?_
 refine acalls_of Tryd.func9 rfl rfl (by simp [Tryd.ntmps9]) (evC_sound rfl _ _ _ _ ?_)
 simp only [Tryd.ntmps9, Tryd.results9, argEnv, List.length_nil]
 simp only [zN, seval, implies_true, Nat.reduceLeDiff, Nat.reduceEqDiff, reduceCtorEq, reduceIte, intD]
 repeat ((with_reducible refine And.intro ?_ ?_); (focus (first | omega | (simp only [lenR]; omega) | (refine qq ?_; rfl) | (refine dq ?_; kernel_rfl) | (intros; simp_all; done))))
 refine ⟨_, _, ret_d, ?_, rfl⟩
 congr 2
 have e : ∀ n : Nat, decide ((n:Int) ≤ 100) = decide (n ≤ 100) := fun n => by rw [decide_eq_decide]; omega
 rw [e, e]
end YtfmbadfdbjhekaaDoor
end Go.Proofs
