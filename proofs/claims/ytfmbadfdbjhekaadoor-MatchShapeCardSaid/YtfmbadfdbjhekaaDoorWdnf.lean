/- A part of the proof: contracts of functions of this seat, and lemmas. No condition beyond those stated. -/
import Derived.Test.YtfmbadfdbjhekaaDoorWdne
set_option linter.unusedVariables false
set_option linter.unusedSimpArgs false
set_option linter.unusedSectionVars false
set_option linter.unnecessarySimpa false
set_option maxRecDepth 100000
namespace Go.Proofs
open Go.AM
namespace YtfmbadfdbjhekaaDoor
variable {Gl : Globs}
theorem dep_le {l : List NodeT} (h : TreeUp l l.length) {i : Nat} : ∀ (f k : Nat), k < l.length → upW l i k = true → depW l i f k + i ≤ k := by
 intro f
 induction f with
 | zero => intro k hk hu; have := upW_ge hu; simp [depW]; omega
 | succ f ih =>
  intro k hk hu
  have h1 := upW_ge hu
  rw [depW]
  split
  ·omega
  ·rw [upW_step h hk (by omega)] at hu
   obtain ⟨t1, t2⟩ := tree_par h hk
   have h2 := upW_ge hu
   obtain ⟨p, hp⟩ : ∃ p : Nat, par l k = p := ⟨(par l k).toNat, by omega⟩
   rw [hp] at hu t2 ⊢
   rw [show ((p : Int)).toNat = p by omega]
   have := ih p (by omega) hu
   omega
theorem dep_pos {l : List NodeT} (h : TreeUp l l.length) {i k : Nat} (hik : i < k) (hk : k < l.length) (hu : upW l i k = true) :
  depW l i l.length k = 1 + depW l i l.length (par l k).toNat ∧ 0 ≤ par l k ∧ par l k < k ∧ upW l i (par l k) = true := by
 rw [upW_step h hk (by omega)] at hu
 obtain ⟨t1, t2⟩ := tree_par h hk
 have h2 := upW_ge hu
 obtain ⟨n, hn⟩ : ∃ n, l.length = n + 1 := ⟨l.length - 1, by omega⟩
 refine ⟨?_, by omega, t2, hu⟩
 obtain ⟨p, hp⟩ : ∃ p : Nat, par l k = p := ⟨(par l k).toNat, by omega⟩
 rw [hp] at hu t2 h2
 rw [hn, depW, if_neg (by omega), hp, show ((p : Int)).toNat = p by omega, dep_fuel h p p n (n + 1) (Nat.le_refl _) (by omega) hu (by omega) (by omega)]
def depthF (l : List NodeT) (a k : Nat) : Nat := if upW l a k = true then depW l a l.length k else 0
theorem k_depth (l : List NodeT) (hl : l.length ≤ 2000) (ht : TreeUp l l.length) (a k : Nat) (hk : k < l.length) : Pure Tryd.prog Gl 55 [.d (.sl (l.map NodeT.toD)), .d (.int .i64 k), .d (.int .i64 a)] (.d (.int .i64 (depthF l a k))) := by
 refine Pure.of3 ?_
 refine acalls_of Tryd.func55 rfl rfl (by simp [Tryd.ntmps55]) (evC_sound rfl _ _ _ _ ?_)
 simp only [Tryd.ntmps55, Tryd.results55, argEnv, List.length_nil]
 simp only [zN, seval, implies_true, Nat.reduceLeDiff, Nat.reduceEqDiff, reduceCtorEq, reduceIte]
 refine loop_of (τ := Int × Nat) (fun x => [(0, .d (.sl (l.map NodeT.toD))), (1, .d (.int .i64 x.1)), (2, .d (.int .i64 a)), (7, .d (.int .i64 x.2))]) (fun _ => [])
  (fun x => -1 ≤ x.1 ∧ x.1 < l.length ∧ (x.2 : Int) + x.1 ≤ k ∧ upW l a x.1 = upW l a k ∧ (upW l a k = true → depW l a l.length k = x.2 + depW l a l.length x.1.toNat)) (fun x => (x.1 + 1).toNat) ((k : Int), 0) ⟨by simp only; omega, by simp only; omega, by simp only; omega, rfl, fun _ => by simp⟩ ?_ ?_
 ·refine weak_to [] [] rfl List.nodup_nil ?_ rfl
  simp only [zN, seval, implies_true, Nat.reduceLeDiff, Nat.reduceEqDiff, reduceCtorEq, reduceIte, Int.cast_ofNat_Int]
 ·rintro ⟨c, n⟩ ⟨a1, a2, a3, a4, a5⟩
  simp only at a1 a2 a3 a4 a5
  simp only [zN, seval, implies_true, Nat.reduceLeDiff, Nat.reduceEqDiff, reduceCtorEq, reduceIte]
  refine ifC.mk (fun h1 => ?_) (fun h1 => ?_)
  ·have h1 : 0 ≤ c := of_decide_eq_true h1
   obtain ⟨c, rfl⟩ : ∃ m : Nat, c = m := ⟨c.toNat, by omega⟩
   have hcl : c < l.length := by omega
   simp only [zN, seval, implies_true, Nat.reduceLeDiff, Nat.reduceEqDiff, reduceCtorEq, reduceIte]
   refine ifC.mk (fun h2 => ?_) (fun h2 => ?_)
   ·have h2 : c = a := by
     have : (c : Int) = a := by simpa using h2
     omega
    subst h2
    have hu : upW l c k = true := by rw [← a4]; exact upW_self
    have hz : depW l c l.length c = 0 := by
     obtain ⟨m, hm⟩ : ∃ m, l.length = m + 1 := ⟨l.length - 1, by omega⟩
     rw [hm, depW, if_pos rfl]
    refine ⟨_, _, ret_d, ?_, rfl⟩
    rw [depthF, if_pos hu, a5 hu, show ((c : Int)).toNat = c by omega, hz]; rfl
   ·have h2 : ¬ c = a := by
     have : ¬ (c : Int) = a := by simpa using h2
     omega
    have tp := tree_par ht hcl
    have eu := upW_step ht (p := (a : Int)) hcl (by omega)
    have eg : (l.getD c default).parent = par l c := rfl
    simp only [zN, seval, implies_true, Nat.reduceLeDiff, Nat.reduceEqDiff, reduceCtorEq, reduceIte, a_getD _ _ _ (show c < l.length by omega), hcl, (show (c:Int) < l.length by omega), (show (0:Int) ≤ c by omega), eg, @a_wrap ((n:Int) + 1) (by omega)]
    repeat ((with_reducible refine And.intro ?_ ?_); (focus (first | omega | (simp only [lenR]; omega) | (refine qq ?_; rfl) | (refine dq ?_; kernel_rfl) | (intros; simp_all; done))))
    refine ⟨(par l c, n + 1), ⟨tp.1, by simp only; omega, by simp only; omega, by rw [← eu, a4], fun hu => ?_⟩, by simp only; omega, ?_⟩
    ·have hu2 : upW l a c = true := by rw [a4]; exact hu
     have hac := upW_ge hu2
     obtain ⟨q1, _⟩ := dep_pos ht (i := a) (k := c) (by omega) hcl hu2
     rw [a5 hu, show ((c : Int)).toNat = c by omega, q1]
     simp only; omega
    ·refine weak_to [] [] rfl List.nodup_nil ?_ rfl
     simp only [zN, seval, implies_true, Nat.reduceLeDiff, Nat.reduceEqDiff, reduceCtorEq, reduceIte]
  ·have h1 : ¬ 0 ≤ c := of_decide_eq_false h1
   have hu : upW l a k = false := by rw [← a4, upW_neg (by omega)]
   refine ⟨_, _, ret_d, ?_, rfl⟩
   rw [depthF, hu]; rfl
theorem name_len {l : List NodeT} (h : checkF l = 0) {k : Nat} (hk : k < l.length) : (nm l k).length ≤ 40 := by
 obtain ⟨_, h2, _⟩ := checkF_ok h
 have h0 : firstErr (fun k => nodeE (l.getD k default)) l.length = 0 := by
  unfold rangesF at h2
  split at h2
  ·assumption
  ·contradiction
 have := (nodeE_ok (firstErr_zero h0 k hk)).1
 have hb : nameB (nm l k) = true := by
  unfold nameF at this
  split at this
  ·assumption
  ·omega
 simp only [nameB, Bool.and_eq_true, decide_eq_true_eq] at hb
 exact hb.1.2
def belowTo (l : List NodeT) (i j : Nat) : List Nat := (List.range j).filter fun k => decide (i < k) && upW l i k
theorem belowTo_step (l : List NodeT) (i j : Nat) : belowTo l i (j + 1) = belowTo l i j ++ if i < j ∧ upW l i j = true then [j] else [] := by
 rw [belowTo, List.range_succ, List.filter_append]
 congr 1
 by_cases e : i < j ∧ upW l i j = true
 ·rw [if_pos e]; simp [e.1, e.2]
 ·rw [if_neg e]
  refine List.filter_eq_nil_iff.2 fun k hk => ?_
  have : k = j := by simpa using hk
  subst this
  simpa using e
theorem belowTo_first (l : List NodeT) (i : Nat) : belowTo l i (i + 1) = [] := by
 rw [belowTo, List.filter_eq_nil_iff]
 intro k hk
 have hk : k < i + 1 := List.mem_range.1 hk
 simp; omega
def shTo (l : List NodeT) (i j : Nat) : List (List UInt8) := (belowTo l i j).map fun k => txtN (depW l i l.length k) ++ 32 :: nm l k
theorem shTo_len (l : List NodeT) (i j : Nat) : (shTo l i j).length ≤ j := by
 simp only [shTo, List.length_map, belowTo]
 exact Nat.le_trans (List.length_filter_le _ _) (by simp)
theorem depth_iff {l : List NodeT} (ht : TreeUp l l.length) {i k : Nat} (hik : i < k) (hk : k < l.length) : (0 : Int) < (depthF l i k : Int) ↔ upW l i k = true := by
 unfold depthF
 split
 ·rename_i hu
  have := (dep_pos ht hik hk hu).1
  exact ⟨fun _ => hu, fun _ => by omega⟩
 ·rename_i hu
  exact ⟨fun h => by simp at h, fun h => absurd h hu⟩
theorem k_Rshape (l : List NodeT) (hl : l.length ≤ 100) (hc : checkF l = 0) (i : Nat) (hi : i < l.length) : Pure Tryd.prog Gl 36 [.d (.sl (l.map NodeT.toD)), .d (.int .i64 i)] (.d (.sl ((shp l i).map .str))) := by
 refine Pure.of2 ?_
 have ht := (checkF_ok hc).2.2.2.1
 refine acalls_of Tryd.func36 rfl rfl (by simp [Tryd.ntmps36]) (evC_sound rfl _ _ _ _ ?_)
 simp only [Tryd.ntmps36, Tryd.results36, argEnv, List.length_nil]
 simp only [zN, seval, implies_true, Nat.reduceLeDiff, Nat.reduceEqDiff, reduceCtorEq, reduceIte]
 refine loop_of (τ := Nat) (fun j => [(0, .d (.sl (l.map NodeT.toD))), (1, .d (.int .i64 i)), (5, .osl 0 0 (shTo l i j).length), (6, .d (.int .i64 j))]) (fun j => [.arr 1 ((shTo l i j).map .str)]) (fun j => i + 1 ≤ j ∧ j ≤ l.length) (fun j => l.length - j) (i + 1) ⟨Nat.le_refl _, hi⟩ ?_ ?_
 ·refine (weak_nils 5 1 rfl).trans ?_
  refine weak_to [] [0] rfl (by simp) ?_ ?_
  ·simp only [zN, seval, implies_true, Nat.reduceLeDiff, Nat.reduceEqDiff, reduceCtorEq, reduceIte, @a_wrap ((i:Int) + 1) (by omega)]
   rw [shTo, belowTo_first]
   rfl
  ·rw [shTo, belowTo_first]
   rfl
 ·intro j ⟨j1, j2⟩
  have hlen := shTo_len l i j
  by_cases hj : j < l.length
  ·obtain ⟨x, hx⟩ : ∃ x, x = l.getD j default := ⟨_, rfl⟩
   have en : nm l j = x.name := by rw [hx]; rfl
   have hnl := name_len hc hj
   rw [en] at hnl
   have eg : (l.map NodeT.toD).getD j default = x.toD := by rw [a_getD _ _ _ hj, ← hx]
   simp only [zN, seval, implies_true, Nat.reduceLeDiff, Nat.reduceEqDiff, reduceCtorEq, reduceIte, (show (j:Int) < l.length by omega)]
   repeat ((with_reducible refine And.intro ?_ ?_); (focus (first | omega | (simp only [lenR]; omega) | (refine qq ?_; rfl) | (refine dq ?_; kernel_rfl) | (intros; simp_all; done))))
   refine callF_pure (k_depth l (by omega) ht i j hj) ?_
   have hd := depth_iff ht (show i < j by omega) hj
   simp only [zN, seval, implies_true, Nat.reduceLeDiff, Nat.reduceEqDiff, reduceCtorEq, reduceIte]
   refine ifC.mk (fun h2 => ?_) (fun h2 => ?_)
   ·have h2 := hd.1 (of_decide_eq_true h2)
    have hdv : depthF l i j = depW l i l.length j := by rw [depthF, if_pos h2]
    have hdl := dep_le ht l.length j hj h2
    rw [hdv]
    have htl := txt_len (d := depW l i l.length j)
    have hs : shTo l i (j + 1) = shTo l i j ++ [txtN (depW l i l.length j) ++ 32 :: x.name] := by
     rw [shTo, belowTo_step, if_pos ⟨by omega, h2⟩, List.map_append, ← en]; rfl
    have hsl : (shTo l i (j + 1)).length = (shTo l i j).length + 1 := by rw [hs]; simp
    have hm : (shTo l i (j + 1)).map D.str = List.take (shTo l i j).length ((shTo l i j).map D.str) ++ [.str (txtN (depW l i l.length j) ++ 32 :: x.name)] := by
     rw [hs, List.map_append, take_all]; rfl
    repeat ((with_reducible refine And.intro ?_ ?_); (focus (first | omega | (simp only [lenR]; omega) | (refine qq ?_; rfl) | (refine dq ?_; kernel_rfl) | (intros; simp_all; done))))
    refine callF_pure (k_RText _ (by omega)) ?_
    simp only [zN, seval, implies_true, Nat.reduceLeDiff, Nat.reduceEqDiff, reduceCtorEq, reduceIte, eg, hj, (show (j:Int) < l.length by omega)]
    repeat ((with_reducible refine And.intro ?_ ?_); (focus (first | omega | (simp only [lenR]; omega) | (refine qq ?_; rfl) | (refine dq ?_; kernel_rfl) | (intros; simp_all; done))))
    refine ⟨j + 1, ⟨by omega, by omega⟩, by omega, ?_⟩
    rw [hsl, hm]
    refine weak_to [] [2] rfl (by simp) ?_ rfl
    simp only [zN, seval, implies_true, Nat.reduceLeDiff, Nat.reduceEqDiff, reduceCtorEq, reduceIte, @a_wrap ((j:Int) + 1) (by omega)]
   ·have h2 : ¬ upW l i j = true := fun g => of_decide_eq_false h2 (hd.2 g)
    have hs : shTo l i (j + 1) = shTo l i j := by rw [shTo, belowTo_step, if_neg (fun g => h2 g.2), List.append_nil]; rfl
    refine ⟨j + 1, ⟨by omega, by omega⟩, by omega, ?_⟩
    rw [hs]
    refine weak_to [] [0] rfl (by simp) ?_ rfl
    simp only [zN, seval, implies_true, Nat.reduceLeDiff, Nat.reduceEqDiff, reduceCtorEq, reduceIte, @a_wrap ((j:Int) + 1) (by omega)]
  ·have : j = l.length := by omega
   subst this
   simp only [zN, seval, implies_true, Nat.reduceLeDiff, Nat.reduceEqDiff, reduceCtorEq, reduceIte, (show ¬ (l.length:Int) < l.length by omega)]
   refine ⟨_, _, ret_data rfl (x := .sl ((shp l i).map .str)) ?_, rfl, rfl⟩
   show D.sl (List.take (shTo l i l.length).length ((shTo l i l.length).map D.str)) = _
   rw [take_all]
   rfl
def kidsN (l : List NodeT) (p : Int) (j : Nat) : List Nat := (List.range j).filter fun k => par l k == p
theorem kidsN_step (l : List NodeT) (p : Int) (j : Nat) : kidsN l p (j + 1) = kidsN l p j ++ if par l j = p then [j] else [] := by
 rw [kidsN, List.range_succ, List.filter_append]
 congr 1
 by_cases e : par l j = p
 ·simp [e]
 ·simp [e]
theorem kidsN_len (l : List NodeT) (p : Int) (j : Nat) : (kidsN l p j).length ≤ j := by
 rw [kidsN]
 exact Nat.le_trans (List.length_filter_le _ _) (by simp)
def intD (k : Nat) : D := .int .i64 k
def idxD (l : List Nat) : D := .sl (l.map intD)
end YtfmbadfdbjhekaaDoor
end Go.Proofs
