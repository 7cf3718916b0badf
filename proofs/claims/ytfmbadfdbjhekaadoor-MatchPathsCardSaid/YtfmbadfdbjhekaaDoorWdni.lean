/- A part of the proof: contracts of functions of this seat, and lemmas. No condition beyond those stated. -/
import Derived.Test.YtfmbadfdbjhekaaDoorWdnh
set_option linter.unusedVariables false
set_option linter.unusedSimpArgs false
set_option linter.unusedSectionVars false
set_option linter.unnecessarySimpa false
set_option maxRecDepth 100000
namespace Go.Proofs
open Go.AM
namespace YtfmbadfdbjhekaaDoor
variable {Gl : Globs}
def rnB (a b : List NodeT) (x : PairT) : Bool := decide (0 ≤ x.a) && decide (x.a < a.length) && decide (0 ≤ x.b) && decide (x.b < b.length) && (nm a x.a.toNat != nm b x.b.toNat)
def renamedF (a b : List NodeT) (l : List PairT) : List PairT := l.filter (rnB a b)
theorem ren_step (a b : List NodeT) (l : List PairT) {j : Nat} (h : j < l.length) : (l.take (j + 1)).filter (rnB a b) = (l.take j).filter (rnB a b) ++ if rnB a b (l.getD j default) = true then [l.getD j default] else [] := by
 rw [take_step l j h, List.filter_append]
 congr 1
 by_cases e : rnB a b (l.getD j default) = true
 ·rw [if_pos e, List.filter_cons_of_pos e]; rfl
 ·rw [if_neg e, List.filter_cons_of_neg e]; rfl
theorem fil_len {α : Type} (p : α → Bool) (l : List α) (j : Nat) : ((l.take j).filter p).length ≤ l.length := Nat.le_trans (List.length_filter_le _ _) (by simp; omega)
theorem k_Renamed (a b : List NodeT) (l : List PairT) (ha : a.length < 1000000) (hb : b.length < 1000000) (hl : l.length < 1000000) : Pure Tryd.prog Gl 14 [.d (.sl (a.map NodeT.toD)), .d (.sl (b.map NodeT.toD)), .d (.sl (l.map PairT.toD))] (.d (.sl ((renamedF a b l).map PairT.toD))) := by
 refine Pure.of3 ?_
 refine acalls_of Tryd.func14 rfl rfl (by simp [Tryd.ntmps14]) (evC_sound rfl _ _ _ _ ?_)
 simp only [Tryd.ntmps14, Tryd.results14, argEnv, List.length_nil]
 simp only [zN, seval, implies_true, Nat.reduceLeDiff, Nat.reduceEqDiff, reduceCtorEq, reduceIte, intD]
 refine for_of l.length (fun j => [(0, .d (.sl (a.map NodeT.toD))), (1, .d (.sl (b.map NodeT.toD))), (7, .osl 0 0 ((l.take j).filter (rnB a b)).length), (10, .d (.sl (l.map PairT.toD))), (11, .d (.int .i64 l.length)), (12, .d (.int .i64 j))]) (fun j => [.arr 2 (((l.take j).filter (rnB a b)).map PairT.toD)]) (fun j => True) trivial ?_ ?_
 ·refine (weak_nils 7 2 rfl).trans ?_
  refine weak_to [] [0] rfl (by simp) ?_ rfl
  simp only [zN, seval, implies_true, Nat.reduceLeDiff, Nat.reduceEqDiff, reduceCtorEq, reduceIte, intD, Int.cast_ofNat_Int]
  try rfl
 ·intro j _ hjl
  have hlen := fil_len (rnB a b) l j
  by_cases hj : j < l.length
  ·obtain ⟨x, hx⟩ : ∃ x, x = l.getD j default := ⟨_, rfl⟩
   have hst := ren_step a b l hj
   rw [← hx] at hst
   have eg : (l.map PairT.toD).getD j default = x.toD := by rw [a_getD _ _ _ hj, ← hx]
   simp only [zN, seval, implies_true, Nat.reduceLeDiff, Nat.reduceEqDiff, reduceCtorEq, reduceIte, intD, (show (j:Int) < l.length by omega), hj, eg]
   repeat ((with_reducible refine And.intro ?_ ?_); (focus (first | omega | (simp only [lenR]; omega) | (refine qq ?_; rfl) | (refine dq ?_; kernel_rfl) | (intros; simp_all; done))))
   by_cases hg : (decide (0 ≤ x.a) && decide (x.a < a.length) && decide (0 ≤ x.b) && decide (x.b < b.length)) = true
   ·have hg2 := hg
    simp only [Bool.and_eq_true, decide_eq_true_eq] at hg2
    obtain ⟨p, hp⟩ : ∃ p : Nat, x.a = p := ⟨x.a.toNat, by omega⟩
    obtain ⟨q, hq⟩ : ∃ q : Nat, x.b = q := ⟨x.b.toNat, by omega⟩
    have hpl : p < a.length := by omega
    have hql : q < b.length := by omega
    have gp : (a.map NodeT.toD).getD p default = (a.getD p default).toD := a_getD _ _ _ hpl
    have gq : (b.map NodeT.toD).getD q default = (b.getD q default).toD := a_getD _ _ _ hql
    have hrb : rnB a b x = !((a.getD p default).name == (b.getD q default).name) := by
     rw [rnB, hg, Bool.true_and, hp, hq]; rfl
    rw [hrb] at hst
    rw [hg]
    simp only [zN, seval, implies_true, Nat.reduceLeDiff, Nat.reduceEqDiff, reduceCtorEq, reduceIte, intD, hp, hq, gp, gq, hpl, hql, (show (p:Int) < a.length by omega), (show (q:Int) < b.length by omega)]
    repeat ((with_reducible refine And.intro ?_ ?_); (focus (first | omega | (simp only [lenR]; omega) | (refine qq ?_; rfl) | (refine dq ?_; kernel_rfl) | (intros; simp_all; done))))
    refine ifC.mk (fun h2 => ?_) (fun h2 => ?_)
    ·rw [if_pos h2] at hst
     have hsl : (((l.take (j + 1)).filter (rnB a b))).length = ((l.take j).filter (rnB a b)).length + 1 := by rw [hst]; simp
     have hm : ((l.take (j + 1)).filter (rnB a b)).map PairT.toD = List.take ((l.take j).filter (rnB a b)).length (((l.take j).filter (rnB a b)).map PairT.toD) ++ [x.toD] := by
      rw [hst, List.map_append, take_all]; rfl
     repeat ((with_reducible refine And.intro ?_ ?_); (focus (first | omega | (simp only [lenR]; omega) | (refine qq ?_; rfl) | (refine dq ?_; kernel_rfl) | (intros; simp_all; done))))
     rw [hsl, hm]
     refine weak_to [] [3] rfl (by simp) ?_ rfl
     simp only [zN, seval, implies_true, Nat.reduceLeDiff, Nat.reduceEqDiff, reduceCtorEq, reduceIte, intD, @a_wrap ((j:Int) + 1) (by omega)]
     try rfl
    ·rw [if_neg (by rw [h2]; simp), List.append_nil] at hst
     repeat ((with_reducible refine And.intro ?_ ?_); (focus (first | omega | (simp only [lenR]; omega) | (refine qq ?_; rfl) | (refine dq ?_; kernel_rfl) | (intros; simp_all; done))))
     rw [hst]
     refine weak_to [] [0] rfl (by simp) ?_ rfl
     simp only [zN, seval, implies_true, Nat.reduceLeDiff, Nat.reduceEqDiff, reduceCtorEq, reduceIte, intD, @a_wrap ((j:Int) + 1) (by omega)]
     try rfl
   ·have hg : (decide (0 ≤ x.a) && decide (x.a < a.length) && decide (0 ≤ x.b) && decide (x.b < b.length)) = false := by simpa using hg
    have hrb : rnB a b x = false := by rw [rnB, hg, Bool.false_and]
    rw [hrb, if_neg (by simp), List.append_nil] at hst
    rw [hg, hst]
    simp only [zN, seval, implies_true, Nat.reduceLeDiff, Nat.reduceEqDiff, reduceCtorEq, reduceIte, intD]
    repeat ((with_reducible refine And.intro ?_ ?_); (focus (first | omega | (simp only [lenR]; omega) | (refine qq ?_; rfl) | (refine dq ?_; kernel_rfl) | (intros; simp_all; done))))
    refine weak_to [] [0] rfl (by simp) ?_ rfl
    simp only [zN, seval, implies_true, Nat.reduceLeDiff, Nat.reduceEqDiff, reduceCtorEq, reduceIte, intD, @a_wrap ((j:Int) + 1) (by omega)]
    try rfl
  ·have : j = l.length := by omega
   subst this
   rw [List.take_length]
   simp only [zN, seval, implies_true, Nat.reduceLeDiff, Nat.reduceEqDiff, reduceCtorEq, reduceIte, intD, (show ¬ (l.length:Int) < l.length by omega)]
   refine ⟨_, _, ret_data rfl (x := .sl ((renamedF a b l).map PairT.toD)) ?_, rfl, rfl⟩
   show D.sl (List.take (l.filter (rnB a b)).length ((l.filter (rnB a b)).map PairT.toD)) = _
   rw [take_all]
   rfl
theorem k_Same (x y : List PairT) (hx : x.length < 1000000) (hy : y.length < 1000000) : Pure Tryd.prog Gl 13 [.d (.sl (x.map PairT.toD)), .d (.sl (y.map PairT.toD))] (.d (.bool (decide (x = y)))) := by
 refine Pure.of2 ?_
 refine acalls_of Tryd.func13 rfl rfl (by simp [Tryd.ntmps13]) (evC_sound rfl _ _ _ _ ?_)
 simp only [Tryd.ntmps13, Tryd.results13, argEnv, List.length_nil]
 simp only [zN, seval, implies_true, Nat.reduceLeDiff, Nat.reduceEqDiff, reduceCtorEq, reduceIte, intD]
 refine ifC.mk (fun h1 => ?_) (fun h1 => ?_)
 ·have h1 : x.length ≠ y.length := by simp at h1; omega
  refine ⟨_, _, ret_d, ?_, rfl⟩
  rw [decide_eq_false (fun e => h1 (by rw [e]))]
 ·have h1 : x.length = y.length := by simp at h1; omega
  refine for_of x.length (fun j => [(0, .d (.sl (x.map PairT.toD))), (1, .d (.sl (y.map PairT.toD))), (5, .d (.int .i64 j))]) (fun _ => []) (fun j => x.take j = y.take j) rfl ?_ ?_
  ·refine weak_to [] [] rfl List.nodup_nil ?_ rfl
   simp only [zN, seval, implies_true, Nat.reduceLeDiff, Nat.reduceEqDiff, reduceCtorEq, reduceIte, intD, Int.cast_ofNat_Int]
  ·intro j hi hjl
   by_cases hj : j < x.length
   ·have hj2 : j < y.length := by omega
    have e1 := take_step x j hj
    have e2 := take_step y j hj2
    obtain ⟨u, hu⟩ : ∃ u, u = x.getD j default := ⟨_, rfl⟩
    obtain ⟨v, hv⟩ : ∃ v, v = y.getD j default := ⟨_, rfl⟩
    rw [← hu] at e1
    rw [← hv] at e2
    have g1 : (x.map PairT.toD).getD j default = u.toD := by rw [a_getD _ _ _ hj, ← hu]
    have g2 : (y.map PairT.toD).getD j default = v.toD := by rw [a_getD _ _ _ hj2, ← hv]
    simp only [zN, seval, implies_true, Nat.reduceLeDiff, Nat.reduceEqDiff, reduceCtorEq, reduceIte, intD, (show (j:Int) < x.length by omega), (show (j:Int) < y.length by omega), hj, hj2, g1, g2]
    repeat ((with_reducible refine And.intro ?_ ?_); (focus (first | omega | (simp only [lenR]; omega) | (refine qq ?_; rfl) | (refine dq ?_; kernel_rfl) | (intros; simp_all; done))))
    simp only [zN, seval, implies_true, Nat.reduceLeDiff, Nat.reduceEqDiff, reduceCtorEq, reduceIte, intD, PairT.toD]
    repeat ((with_reducible refine And.intro ?_ ?_); (focus (first | omega | (simp only [lenR]; omega) | (refine qq ?_; rfl) | (refine dq ?_; kernel_rfl) | (intros; simp_all; done))))
    have huv : (u.a == v.a && u.b == v.b) = decide (u = v) := by
     rw [Bool.eq_iff_iff]
     simp only [Bool.and_eq_true, beq_iff_eq, decide_eq_true_eq]
     cases u; cases v; simp
    rw [huv]
    refine ifC.mk (fun h2 => ?_) (fun h2 => ?_)
    ·have h2 : u ≠ v := by simpa using h2
     refine ⟨_, _, ret_d, ?_, rfl⟩
     rw [decide_eq_false (fun e => h2 (by rw [hu, hv, e]))]
    ·have h2 : u = v := by simpa using h2
     refine ⟨by rw [e1, e2, hi, h2], ?_⟩
     refine weak_to [] [] rfl List.nodup_nil ?_ rfl
     simp only [zN, seval, implies_true, Nat.reduceLeDiff, Nat.reduceEqDiff, reduceCtorEq, reduceIte, intD, @a_wrap ((j:Int) + 1) (by omega)]
   ·have : j = x.length := by omega
    subst this
    simp only [zN, seval, implies_true, Nat.reduceLeDiff, Nat.reduceEqDiff, reduceCtorEq, reduceIte, intD, (show ¬ (x.length:Int) < x.length by omega)]
    refine ⟨_, _, ret_d, ?_, rfl⟩
    rw [List.take_length, h1, List.take_length] at hi
    rw [decide_eq_true hi]
def shapeF (l : List NodeT) (i : Int) : List (List UInt8) := if checkF l = 0 ∧ 0 ≤ i ∧ i < l.length then shp l i.toNat else []
end YtfmbadfdbjhekaaDoor
end Go.Proofs
