/- A part of the proof: contracts of functions of this seat, and lemmas. No condition beyond those stated. -/
import Derived.Test.YtfmbadfdbjhekaaDoorWdni
set_option linter.unusedVariables false
set_option linter.unusedSimpArgs false
set_option linter.unusedSectionVars false
set_option linter.unnecessarySimpa false
set_option maxRecDepth 100000
namespace Go.Proofs
open Go.AM
namespace YtfmbadfdbjhekaaDoor
variable {Gl : Globs}
def pairsA (s : Al) (j : Nat) : List PairT := (List.range j).map fun i : Nat => (⟨(i : Int), s.b i⟩ : PairT)
def pairsB (s : Al) (j : Nat) : List PairT := ((List.range j).filter fun k : Nat => decide (s.a k < 0)).map fun k : Nat => (⟨-1, (k : Int)⟩ : PairT)
def pairsOf (a b : List NodeT) : List PairT := pairsA (finS a b) a.length ++ pairsB (finS a b) b.length
theorem pairsA_step (s : Al) (j : Nat) : pairsA s (j + 1) = pairsA s j ++ [⟨j, s.b j⟩] := by
 rw [pairsA, List.range_succ, List.map_append]; rfl
theorem pairsA_len (s : Al) (j : Nat) : (pairsA s j).length = j := by simp [pairsA]
theorem pairsB_step (s : Al) (j : Nat) : pairsB s (j + 1) = pairsB s j ++ if s.a j < 0 then [⟨-1, j⟩] else [] := by
 rw [pairsB, List.range_succ, List.filter_append, List.map_append]
 congr 1
 by_cases e : s.a j < 0
 ·rw [if_pos e, List.filter_cons_of_pos (by simpa using e)]; rfl
 ·rw [if_neg e, List.filter_cons_of_neg (by simpa using e)]; rfl
theorem pairsB_len (s : Al) (j : Nat) : (pairsB s j).length ≤ j := by
 rw [pairsB, List.length_map]
 exact Nat.le_trans (List.length_filter_le _ _) (by simp)
def pairsC (t : Al) (n j : Nat) : List PairT := pairsA t n ++ pairsB t j
theorem pairsC_0 (t : Al) (n : Nat) : pairsC t n 0 = pairsA t n := by rw [pairsC, show pairsB t 0 = [] from rfl, List.append_nil]
theorem pairsC_step (t : Al) (n j : Nat) : pairsC t n (j + 1) = if t.a j < 0 then pairsC t n j ++ [⟨-1, j⟩] else pairsC t n j := by
 rw [pairsC, pairsB_step]
 by_cases e : t.a j < 0
 ·rw [if_pos e, if_pos e, pairsC, List.append_assoc]
 ·rw [if_neg e, if_neg e, pairsC, List.append_nil]
theorem pairsC_len (t : Al) (n j : Nat) : (pairsC t n j).length ≤ n + j := by
 have := pairsB_len t j
 rw [pairsC, List.length_append, pairsA_len]; omega
def ofF (a b : List NodeT) : List PairT × Int := if checkF a = 0 then (if checkF b = 0 then (pairsOf a b, 0) else ([], checkF b)) else ([], checkF a)
def ofD (a b : List NodeT) : AV := .tup [.d (.sl ((ofF a b).1.map PairT.toD)), .d (.int .i64 (ofF a b).2)]
theorem iniS_R (a b : List NodeT) : stR a b (iniS a.length b.length) = [.box 4 (.agg [.d (.sl (a.map NodeT.toD)), .d (.sl (b.map NodeT.toD)), .osl 1 0 a.length, .osl 2 0 b.length]), .arr 1 (List.replicate a.length (.int .i64 (-1))), .arr 1 (List.replicate b.length (.int .i64 (-1)))] := by
 simp only [stR, iniS, List.map_replicate]
theorem ini_sz (a b : List NodeT) : Sz a b (iniS a.length b.length) := by simp [Sz, iniS]
theorem k_ROf (a b : List NodeT) (ha : a.length ≤ 100) (hb : b.length ≤ 100) : Pure Tryd.prog Gl 12 [.d (.sl (a.map NodeT.toD)), .d (.sl (b.map NodeT.toD))] (ofD a b) := by
 refine Pure.of2t2 ?_
 refine acalls_of Tryd.func12 rfl rfl (by simp [Tryd.ntmps12]) (evC_sound rfl _ _ _ _ ?_)
 simp only [Tryd.ntmps12, Tryd.results12, argEnv, List.length_nil]
 simp only [zN, seval, implies_true, Nat.reduceLeDiff, Nat.reduceEqDiff, reduceCtorEq, reduceIte, intD]
 refine callF_pure (k_RCheck a (by omega)) ?_
 simp only [zN, seval, implies_true, Nat.reduceLeDiff, Nat.reduceEqDiff, reduceCtorEq, reduceIte, intD]
 refine ifC.mk (fun h1 => ?_) (fun h1 => ?_)
 ·have h1 : ¬ checkF a = 0 := by simpa using h1
  refine ⟨_, _, ret_tdata rfl rfl, ?_, rfl⟩
  rw [ofF, if_neg h1]; rfl
 have h1 : checkF a = 0 := by simpa using h1
 refine callF_pure (k_RCheck b (by omega)) ?_
 simp only [zN, seval, implies_true, Nat.reduceLeDiff, Nat.reduceEqDiff, reduceCtorEq, reduceIte, intD]
 refine ifC.mk (fun h2 => ?_) (fun h2 => ?_)
 ·have h2 : ¬ checkF b = 0 := by simpa using h2
  refine ⟨_, _, ret_tdata rfl rfl, ?_, rfl⟩
  rw [ofF, if_pos h1, if_neg h2]; rfl
 have h2 : checkF b = 0 := by simpa using h2
 have hof : ofF a b = (pairsOf a b, 0) := by rw [ofF, if_pos h1, if_pos h2]
 rw [hof]
 repeat ((with_reducible refine And.intro ?_ ?_); (focus (first | omega | (simp only [lenR]; omega) | (refine qq ?_; rfl) | (refine dq ?_; kernel_rfl) | (intros; simp_all; done))))
 refine callF_go ((k_none a.length (by omega) _).mono fun r s hrs => ?_)
 obtain ⟨rfl, rfl⟩ := hrs
 simp only [zN, seval, implies_true, Nat.reduceLeDiff, Nat.reduceEqDiff, reduceCtorEq, reduceIte, intD, List.length_replicate]
 repeat ((with_reducible refine And.intro ?_ ?_); (focus (first | omega | (simp only [lenR]; omega) | (refine qq ?_; rfl) | (refine dq ?_; kernel_rfl) | (intros; simp_all; done))))
 refine callF_go ((k_none b.length (by omega) _).mono fun r s hrs => ?_)
 obtain ⟨rfl, rfl⟩ := hrs
 simp only [zN, seval, implies_true, Nat.reduceLeDiff, Nat.reduceEqDiff, reduceCtorEq, reduceIte, intD, List.length_replicate]
 repeat ((with_reducible refine And.intro ?_ ?_); (focus (first | omega | (simp only [lenR]; omega) | (refine qq ?_; rfl) | (refine dq ?_; kernel_rfl) | (intros; simp_all; done))))
 have hk := k_Ralign (Gl := Gl) a b ha hb h1 h2 (a.length + 1) (-1) (-1) (iniS a.length b.length) (by omega) (by omega) (by omega) (ini_sz a b)
 rw [iniS_R] at hk
 refine callF_go ((ACalls.under [2, 0, 1] (by decide) (by simp) hk).mono fun r s hrs => ?_)
 obtain ⟨r0, s0, ⟨rfl, rfl⟩, rfl, rfl⟩ := hrs
 obtain ⟨t, ht⟩ : ∃ t, t = finS a b := ⟨_, rfl⟩
 have ht2 : alignF a b (a.length + 1) (-1) (-1) (iniS a.length b.length) = t := ht.symm
 have hzt : Sz a b t := by rw [ht]; exact sz_align _ _ _ (ini_sz a b)
 rw [ht2]
 have hbk : backS [2, 0, 1] [Blk.arr 1 (List.replicate a.length (D.int IntKind.i64 (-1))), Blk.arr 1 (List.replicate b.length (D.int IntKind.i64 (-1))), Blk.box 4 (.agg [.d (.sl (a.map NodeT.toD)), .d (.sl (b.map NodeT.toD)), .osl 0 0 a.length, .osl 1 0 b.length])] (stR a b t)
  = [.arr 1 (t.toB.map (.int .i64)), .arr 1 (t.toA.map (.int .i64)), .box 4 (.agg [.d (.sl (a.map NodeT.toD)), .d (.sl (b.map NodeT.toD)), .osl 0 0 a.length, .osl 1 0 b.length])] := rfl
 rw [hbk]
 have hpo : pairsOf a b = pairsC t a.length b.length := by rw [pairsOf, ← ht]; rfl
 rw [hpo]
 simp only [zN, seval, implies_true, Nat.reduceLeDiff, Nat.reduceEqDiff, reduceCtorEq, reduceIte, intD]
 refine for_of a.length (fun j => [(0, .d (.sl (a.map NodeT.toD))), (1, .d (.sl (b.map NodeT.toD))), (7, .ptr 2 0), (8, .osl 3 0 (pairsA t j).length), (9, .d (.int .i64 j))]) (fun j => [.arr 1 (t.toB.map (.int .i64)), .arr 1 (t.toA.map (.int .i64)), .box 4 (.agg [.d (.sl (a.map NodeT.toD)), .d (.sl (b.map NodeT.toD)), .osl 0 0 a.length, .osl 1 0 b.length]), .arr 2 ((pairsA t j).map PairT.toD)]) (fun j => True) trivial ?_ ?_
 ·refine (weak_nils 8 2 rfl).trans ?_
  refine weak_to [] [0, 1, 2, 3] rfl (by simp) ?_ rfl
  simp only [zN, seval, implies_true, Nat.reduceLeDiff, Nat.reduceEqDiff, reduceCtorEq, reduceIte, intD, Int.cast_ofNat_Int]
  try rfl
 ·intro j _ hjl
  have hlen := pairsA_len t j
  by_cases hj : j < a.length
  ·have hst := pairsA_step t j
   have gb := b_get (s := t) (p := j) (by rw [hzt.1]; exact hj)
   have hjt : j < t.toB.length := by rw [hzt.1]; exact hj
   have hsl : (pairsA t (j + 1)).length = (pairsA t j).length + 1 := by rw [hst]; simp
   have hm : (pairsA t (j + 1)).map PairT.toD = List.take (pairsA t j).length ((pairsA t j).map PairT.toD) ++ [.agg [.int .i64 j, .int .i64 (t.b j)]] := by
    rw [hst, List.map_append, take_all]; rfl
   simp only [zN, seval, implies_true, Nat.reduceLeDiff, Nat.reduceEqDiff, reduceCtorEq, reduceIte, intD, (show (j:Int) < a.length by omega), gb, hjt]
   repeat ((with_reducible refine And.intro ?_ ?_); (focus (first | omega | (simp only [lenR]; omega) | (refine qq ?_; rfl) | (refine dq ?_; kernel_rfl) | (intros; simp_all; done))))
   rw [hsl, hm]
   refine weak_to [] [0, 1, 2, 5] rfl (by simp) ?_ rfl
   simp only [zN, seval, implies_true, Nat.reduceLeDiff, Nat.reduceEqDiff, reduceCtorEq, reduceIte, intD, @a_wrap ((j:Int) + 1) (by omega)]
   try rfl
  ·have : j = a.length := by omega
   subst this
   simp only [zN, seval, implies_true, Nat.reduceLeDiff, Nat.reduceEqDiff, reduceCtorEq, reduceIte, intD, (show ¬ (a.length:Int) < a.length by omega)]
   refine for_of b.length (fun j => [(1, .d (.sl (b.map NodeT.toD))), (7, .ptr 2 0), (8, .osl 3 0 (pairsC t a.length j).length), (10, .d (.int .i64 j))]) (fun j => [.arr 1 (t.toB.map (.int .i64)), .arr 1 (t.toA.map (.int .i64)), .box 4 (.agg [.d (.sl (a.map NodeT.toD)), .d (.sl (b.map NodeT.toD)), .osl 0 0 a.length, .osl 1 0 b.length]), .arr 2 ((pairsC t a.length j).map PairT.toD)]) (fun j => True) trivial ?_ ?_
   ·refine weak_to [] [0, 1, 2, 3] rfl (by simp) ?_ ?_
    ·simp only [zN, seval, implies_true, Nat.reduceLeDiff, Nat.reduceEqDiff, reduceCtorEq, reduceIte, intD, Int.cast_ofNat_Int, pairsC_0]
    ·rw [pairsC_0]; rfl
   ·intro j _ hjl
    have hlenC := pairsC_len t a.length j
    by_cases hj : j < b.length
    ·have hst := pairsC_step t a.length j
     have ga := a_get (s := t) (p := j) (by rw [hzt.2]; exact hj)
     have hjt : j < t.toA.length := by rw [hzt.2]; exact hj
     simp only [zN, seval, implies_true, Nat.reduceLeDiff, Nat.reduceEqDiff, reduceCtorEq, reduceIte, intD, (show (j:Int) < b.length by omega), ga, hjt]
     repeat ((with_reducible refine And.intro ?_ ?_); (focus (first | omega | (simp only [lenR]; omega) | (refine qq ?_; rfl) | (refine dq ?_; kernel_rfl) | (intros; simp_all; done))))
     refine ifC.mk (fun h3 => ?_) (fun h3 => ?_)
     ·have h3 : t.a j < 0 := of_decide_eq_true h3
      rw [if_pos h3] at hst
      have hsl : (pairsC t a.length (j + 1)).length = (pairsC t a.length j).length + 1 := by rw [hst]; simp
      have hm : (pairsC t a.length (j + 1)).map PairT.toD = List.take (pairsC t a.length j).length ((pairsC t a.length j).map PairT.toD) ++ [.agg [.int .i64 (-1), .int .i64 j]] := by
       rw [hst, List.map_append, take_all]; rfl
      (try simp only [zN, seval, implies_true, Nat.reduceLeDiff, Nat.reduceEqDiff, reduceCtorEq, reduceIte, intD])
      repeat ((with_reducible refine And.intro ?_ ?_); (focus (first | omega | (simp only [lenR]; omega) | (refine qq ?_; rfl) | (refine dq ?_; kernel_rfl) | (intros; simp_all; done))))
      rw [hsl, hm]
      refine weak_to [] [0, 1, 2, 5] rfl (by simp) ?_ rfl
      simp only [zN, seval, implies_true, Nat.reduceLeDiff, Nat.reduceEqDiff, reduceCtorEq, reduceIte, intD, @a_wrap ((j:Int) + 1) (by omega)]
      try rfl
     ·have h3 : ¬ t.a j < 0 := of_decide_eq_false h3
      rw [if_neg h3] at hst
      repeat ((with_reducible refine And.intro ?_ ?_); (focus (first | omega | (simp only [lenR]; omega) | (refine qq ?_; rfl) | (refine dq ?_; kernel_rfl) | (intros; simp_all; done))))
      rw [hst]
      refine weak_to [] [0, 1, 2, 3] rfl (by simp) ?_ rfl
      simp only [zN, seval, implies_true, Nat.reduceLeDiff, Nat.reduceEqDiff, reduceCtorEq, reduceIte, intD, @a_wrap ((j:Int) + 1) (by omega)]
      try rfl
    ·have : j = b.length := by omega
     subst this
     simp only [zN, seval, implies_true, Nat.reduceLeDiff, Nat.reduceEqDiff, reduceCtorEq, reduceIte, intD, (show ¬ (b.length:Int) < b.length by omega)]
     refine ⟨_, _, ret_tdata rfl (x := .sl ((pairsC t a.length b.length).map PairT.toD)) ?_, rfl, rfl⟩
     show D.sl (List.take (pairsC t a.length b.length).length ((pairsC t a.length b.length).map PairT.toD)) = _
     rw [take_all]
end YtfmbadfdbjhekaaDoor
end Go.Proofs
