/- A part of the proof: contracts of functions of this seat, and lemmas. No condition beyond those stated. -/
import Derived.Test.YtfmbadfdbjhekaaDoorWdnn
set_option linter.unusedVariables false
set_option linter.unusedSimpArgs false
set_option linter.unusedSectionVars false
set_option linter.unnecessarySimpa false
set_option maxRecDepth 100000
namespace Go.Proofs
open Go.AM
namespace YtfmbadfdbjhekaaDoor
variable {Gl : Globs}
def shTx (l : List NodeT) (x : Nat × Nat) : List UInt8 := txtN x.1 ++ 32 :: nm l x.2
def stT (l : List NodeT) : Blk := .box 2 (.agg [.d (.sl (l.map NodeT.toD)), .mapr 3])
def stF (F : FuncId) : Blk := .box 1 (.fn F [.ptr 0 0, .ptr 1 0, .ptr 2 0])
theorem kidM_get (l : List NodeT) (p : Int) : kidM l (.i p) = if kids l p = [] then none else some (.d (.sl ((kids l p).map intD))) := rfl
theorem kidM_ren (l : List NodeT) (ρ : List Nat) (σ : Sto) : renB ρ σ (.map (some .i64) (kidM l)) = .map (some .i64) (kidM l) := still_ren (B := .map (some .i64) (kidM l)) (kidM_still l) ρ σ
theorem kidM_back (l : List NodeT) (b : Nat → Nat) : backB b (.map (some .i64) (kidM l)) = .map (some .i64) (kidM l) := still_back (B := .map (some .i64) (kidM l)) (kidM_still l) b
theorem shapeP_len {l : List NodeT} (h : TreeUp l l.length) (f i d : Nat) (hi : i < l.length) (hf : l.length ≤ f + i) : (shapeP l f i d).length ≤ l.length := by
 rw [shapeP_below h f i d hi hf, List.length_map]
 exact Nat.le_trans (List.length_filter_le _ _) (by simp)
def subP (l : List NodeT) (f d : Nat) (ks : List Nat) : List (Nat × Nat) := ks.flatMap fun k => (d, k) :: shapeP l f k (d + 1)
theorem subP_step (l : List NodeT) (f d : Nat) (ks : List Nat) {j : Nat} (h : j < ks.length) : subP l f d (ks.take (j + 1)) = subP l f d (ks.take j) ++ ((d, ks.getD j default) :: shapeP l f (ks.getD j default) (d + 1)) := by
 rw [subP, take_step ks j h, List.flatMap_append]
 simp [subP]
theorem subP_le (l : List NodeT) (f d : Nat) (ks : List Nat) (j : Nat) : (subP l f d (ks.take j)).length ≤ (subP l f d ks).length := by
 conv => rhs; rw [← List.take_append_drop j ks]
 unfold subP
 rw [List.flatMap_append, List.length_append]; omega
def outJ (l : List NodeT) (f d : Nat) (ks : List Nat) (out : List (List UInt8)) (j : Nat) : List (List UInt8) := out ++ (subP l f d (ks.take j)).map (shTx l)
theorem outJ_zero (l : List NodeT) (f d : Nat) (ks : List Nat) (out : List (List UInt8)) : outJ l f d ks out 0 = out := by
 rw [outJ, show (subP l f d (ks.take 0)).map (shTx l) = [] from rfl, List.append_nil]
theorem k_below (l : List NodeT) (hl : l.length ≤ 100) (hc : checkF l = 0) : ∀ (f i d : Nat) (out : List (List UInt8)), i < l.length → l.length ≤ f + i → d ≤ i + 1 → out.length + (shapeP l f i d).length ≤ 100000 →
  ACalls Tryd.prog Gl 53 [.d (.int .i64 i), .d (.int .i64 d), .ptr 0 0, .ptr 1 0, .ptr 2 0] [stT l, .box 1 (.osl 4 0 out.length), stF 53, .map (some .i64) (kidM l), .arr 1 (out.map .str)]
   (fun r s => r = .tup [] ∧ s = [stT l, .box 1 (.osl 5 0 (out ++ (shapeP l f i d).map (shTx l)).length), stF 53, .map (some .i64) (kidM l), .dead, .arr 1 ((out ++ (shapeP l f i d).map (shTx l)).map .str)]) := by
 have ht := (checkF_ok hc).2.2.2.1
 intro f
 induction f with
 | zero => intro i d out hi hf; omega
 | succ f ih =>
  intro i d out hi hf hd ho
  refine acalls_of Tryd.func53 rfl rfl (by simp [Tryd.ntmps53]) (evC_sound rfl _ _ _ _ ?_)
  simp only [Tryd.ntmps53, Tryd.results53, argEnv, List.length_nil]
  simp only [zN, seval, implies_true, Nat.reduceLeDiff, Nat.reduceEqDiff, reduceCtorEq, reduceIte, intD, stT, stF, kidM_get]
  by_cases hk : kids l i = []
  ·have hs : shapeP l (f + 1) i d = [] := by rw [shapeP, hk]; rfl
   rw [hs]
   simp only [zN, seval, implies_true, Nat.reduceLeDiff, Nat.reduceEqDiff, reduceCtorEq, reduceIte, intD, hk, getD_none]
   refine loop_of (τ := Unit) (fun _ => [(13, .d (.int .i64 0)), (14, .d (.int .i64 0))]) (fun _ => [stT l, .box 1 (.osl 5 0 out.length), stF 53, .map (some .i64) (kidM l), .dead, .arr 1 (out.map .str)]) (fun _ => True) (fun _ => 0) () trivial ?_ ?_
   ·refine weak_mv [] [0, 1, 2, 3, 9, 4] (fun j hj => ?_) (by decide) ?_ ?_
    ·match j, hj with
     | 0, _ => exact ⟨0, rfl, .inl rfl⟩
     | 1, _ => exact ⟨1, rfl, .inl rfl⟩
     | 2, _ => exact ⟨2, rfl, .inl rfl⟩
     | 3, _ => exact ⟨3, rfl, .inl rfl⟩
     | 4, _ => exact ⟨9, rfl, .inr (show (5:Nat) ≤ 9 by decide)⟩
    ·simp only [zN, seval, implies_true, Nat.reduceLeDiff, Nat.reduceEqDiff, reduceCtorEq, reduceIte, intD]
    ·show [renB _ _ _, renB _ _ _, renB _ _ _, renB _ _ (.map (some .i64) (kidM l)), _, _] = _
     rw [kidM_ren]
     rfl
   ·intro _ _
    simp only [zN, seval, implies_true, Nat.reduceLeDiff, Nat.reduceEqDiff, reduceCtorEq, reduceIte, intD]
    exact ⟨_, _, WeakR.refl _ _ _, rfl, rfl⟩
  ·obtain ⟨ks, hks⟩ : ∃ ks, ks = kids l i := ⟨_, rfl⟩
   have hsub : shapeP l (f + 1) i d = subP l f d ks := by rw [hks]; rfl
   have hksl : ∀ k ∈ ks, k < l.length := fun k hk => by rw [hks] at hk; exact kids_lt hk
   have hksn : ks.length ≤ 100 := by rw [hks]; exact Nat.le_trans (kidsN_len l i l.length) hl
   rw [hsub] at ho ⊢
   have hfin : out ++ (subP l f d ks).map (shTx l) = outJ l f d ks out ks.length := by rw [outJ, List.take_length]
   rw [hfin]
   rw [← hks] at hk
   simp only [zN, seval, implies_true, Nat.reduceLeDiff, Nat.reduceEqDiff, reduceCtorEq, reduceIte, intD, ← hks, if_neg hk, getD_some]
   refine for_of ks.length (fun j => [(0, .d (.int .i64 i)), (1, .d (.int .i64 d)), (2, .ptr 0 0), (3, .ptr 1 0), (4, .ptr 2 0), (12, .d (.sl (ks.map intD))), (13, .d (.int .i64 ks.length)), (14, .d (.int .i64 j))])
    (fun j => [stT l, .box 1 (.osl 5 0 (outJ l f d ks out j).length), stF 53, .map (some .i64) (kidM l), .dead, .arr 1 ((outJ l f d ks out j).map .str)]) (fun _ => True) trivial ?_ ?_
   ·refine weak_mv [] [0, 1, 2, 3, 9, 4] (fun j hj => ?_) (by decide) ?_ ?_
    ·match j, hj with
     | 0, _ => exact ⟨0, rfl, .inl rfl⟩
     | 1, _ => exact ⟨1, rfl, .inl rfl⟩
     | 2, _ => exact ⟨2, rfl, .inl rfl⟩
     | 3, _ => exact ⟨3, rfl, .inl rfl⟩
     | 4, _ => exact ⟨9, rfl, .inr (show (5:Nat) ≤ 9 by decide)⟩
    ·simp only [zN, seval, implies_true, Nat.reduceLeDiff, Nat.reduceEqDiff, reduceCtorEq, reduceIte, intD, Int.cast_ofNat_Int]
    ·show [renB _ _ _, renB _ _ _, renB _ _ _, renB _ _ (.map (some .i64) (kidM l)), _, _] = _
     rw [kidM_ren, outJ_zero]
     rfl
   ·intro j _ hj
    by_cases h : j < ks.length
    ·obtain ⟨k, hkd⟩ : ∃ k, k = ks.getD j default := ⟨_, rfl⟩
     have hkm : k ∈ ks := by rw [hkd]; exact mem_getD h
     have hkl := hksl k hkm
     have hik : i < k := by
      rw [hks] at hkm
      exact (kids_gt ht hkm).1
     have gk : (ks.map intD).getD j default = .int .i64 k := by rw [a_getD _ _ _ h, ← hkd]; rfl
     have hst := subP_step l f d ks h
     rw [← hkd] at hst
     obtain ⟨o, hod⟩ : ∃ o, o = outJ l f d ks out j := ⟨_, rfl⟩
     rw [← hod]
     have hol : o.length + 1 + (shapeP l f k (d + 1)).length ≤ 100000 := by
      have h1 := subP_le l f d ks (j + 1)
      rw [hst, List.length_append, List.length_cons] at h1
      rw [hod, outJ, List.length_append, List.length_map]; omega
     have hnl := name_len hc hkl
     have htl := txt_len (d := d)
     obtain ⟨x, hx⟩ : ∃ x, x = l.getD k default := ⟨_, rfl⟩
     have en : nm l k = x.name := by rw [hx]; rfl
     rw [en] at hnl
     have eg : (l.map NodeT.toD).getD k default = x.toD := by rw [a_getD _ _ _ hkl, ← hx]
     simp only [zN, seval, implies_true, Nat.reduceLeDiff, Nat.reduceEqDiff, reduceCtorEq, reduceIte, intD, (show (j:Int) < ks.length by omega), h, gk, stT, stF]
     repeat ((with_reducible refine And.intro ?_ ?_); (focus (first | omega | (simp only [lenR]; omega) | (refine qq ?_; rfl) | (refine dq ?_; kernel_rfl) | (intros; simp_all; done))))
     refine callF_pure (k_Text d (by omega)) ?_
     simp only [zN, seval, implies_true, Nat.reduceLeDiff, Nat.reduceEqDiff, reduceCtorEq, reduceIte, intD, eg, hkl, (show (k:Int) < l.length by omega)]
     repeat ((with_reducible refine And.intro ?_ ?_); (focus (first | omega | (simp only [lenR]; omega) | (refine qq ?_; rfl) | (refine dq ?_; kernel_rfl) | (intros; simp_all; done))))
     obtain ⟨ln, hln⟩ : ∃ ln, ln = txtN d ++ 32 :: x.name := ⟨_, rfl⟩
     have hlnx : shTx l (d, k) = ln := by rw [shTx, hln, en]
     have hnx : outJ l f d ks out (j + 1) = (o ++ [ln]) ++ (shapeP l f k (d + 1)).map (shTx l) := by
      rw [outJ, hst, hod, outJ, List.map_append, List.map_cons, hlnx, List.append_assoc, List.append_assoc]; rfl
     have ew : IntKind.i64.wrap ((d : Int) + 1) = ((d + 1 : Nat) : Int) := by rw [wrap64 (by omega) (by omega)]; omega
     have hol1 : (o ++ [ln]).length = o.length + 1 := by simp
     have hkk := ih k (d + 1) (o ++ [ln]) hkl (by omega) (by omega) (by rw [hol1]; omega)
     rw [hol1, ← hnx] at hkk
     have ha : List.take o.length (o.map D.str) ++ [D.str ln] = (o ++ [ln]).map D.str := by rw [take_all, List.map_append]; rfl
     rw [← hln, ew, ha]
     obtain ⟨σ, hσ⟩ : ∃ σ : Sto, σ = [stT l, .box 1 (.osl 7 0 (o.length + 1)), stF 53, .map (some .i64) (kidM l), .dead, .dead, .arr 1 [.str ln], .arr 1 ((o ++ [ln]).map .str)] := ⟨_, rfl⟩
     have er : renS [0, 1, 2, 3, 7] σ = [stT l, .box 1 (.osl 4 0 (o.length + 1)), stF 53, .map (some .i64) (kidM l), .arr 1 ((o ++ [ln]).map .str)] := by
      rw [hσ]
      show [renB _ _ _, renB _ _ _, renB _ _ _, renB _ _ (.map (some .i64) (kidM l)), _] = _
      rw [kidM_ren]; rfl
     rw [← er] at hkk
     have hgo := ACalls.under (σ := σ) (args := [.d (.int .i64 k), .d (.int .i64 ((d + 1 : Nat) : Int)), .ptr 0 0, .ptr 1 0, .ptr 2 0]) [0, 1, 2, 3, 7] (by decide) (by rw [hσ]; simp) hkk
     have es : [Blk.box 2 (AV.agg [AV.d (D.sl (List.map NodeT.toD l)), AV.mapr 3]), Blk.box 1 (AV.osl 7 0 (o.length + 1)), Blk.box 1 (AV.fn 53 [AV.ptr 0 0, AV.ptr 1 0, AV.ptr 2 0]), Blk.map (some IntKind.i64) (kidM l), Blk.dead, Blk.dead, Blk.arr 1 [D.str ln], Blk.arr 1 ((o ++ [ln]).map D.str)] = σ := hσ.symm
     rw [es]
     refine callF_go (hgo.mono fun r s hrs => ?_)
     obtain ⟨r0, s0, ⟨rfl, rfl⟩, rfl, rfl⟩ := hrs
     have eb : ∀ n, backS [0, 1, 2, 3, 7] σ [stT l, .box 1 (.osl 5 0 n), stF 53, .map (some .i64) (kidM l), .dead, .arr 1 ((outJ l f d ks out (j + 1)).map .str)] = [stT l, .box 1 (.osl 8 0 n), stF 53, .map (some .i64) (kidM l), .dead, .dead, .arr 1 [.str ln], .dead, .arr 1 ((outJ l f d ks out (j + 1)).map .str)] := fun n => by
      rw [hσ]
      show [_, _, _, backB _ (.map (some .i64) (kidM l)), _, _, _, _, _] = _
      rw [kidM_back]; rfl
     rw [eb]
     simp only [zN, seval, implies_true, Nat.reduceLeDiff, Nat.reduceEqDiff, reduceCtorEq, reduceIte, intD]
     refine weak_to [] [0, 1, 2, 3, 4, 8] rfl (by decide) ?_ ?_
     ·simp only [zN, seval, implies_true, Nat.reduceLeDiff, Nat.reduceEqDiff, reduceCtorEq, reduceIte, intD, @a_wrap ((j:Int) + 1) (by omega)]
     ·show [renB _ _ _, renB _ _ _, renB _ _ _, renB _ _ (.map (some .i64) (kidM l)), _, _] = _
      rw [kidM_ren]
      rfl
    ·have : j = ks.length := by omega
     subst this
     simp only [zN, seval, implies_true, Nat.reduceLeDiff, Nat.reduceEqDiff, reduceCtorEq, reduceIte, intD, (show ¬ (ks.length:Int) < ks.length by omega)]
     have hll : out.length + (subP l f d ks).length = (outJ l f d ks out ks.length).length := by simp [outJ]
     rw [hll]
     exact ⟨_, _, WeakR.refl _ _ _, rfl, rfl⟩
theorem shapeP_txt {l : List NodeT} (h : TreeUp l l.length) {i : Nat} (hi : i < l.length) : (shapeP l l.length i 1).map (shTx l) = shp l i := by
 rw [shapeP_below h l.length i 1 hi (by omega), List.map_map, shp]
 refine List.map_congr_left fun k hk => ?_
 show shTx l (1 + depW l i l.length k - 1, k) = _
 rw [Nat.add_sub_cancel_left]; rfl
theorem k_shape (l : List NodeT) (hl : l.length ≤ 100) (hc : checkF l = 0) (i : Nat) (hi : i < l.length) :
  ACalls Tryd.prog Gl 35 [.agg [.d (.sl (l.map NodeT.toD)), .mapr 0], .d (.int .i64 i)] [.map (some .i64) (kidM l)]
   (fun r s => r = .d (.sl ((shp l i).map .str)) ∧ s = [.map (some .i64) (kidM l)]) := by
 have ht := (checkF_ok hc).2.2.2.1
 have hraw : (D.raw Value.nilFunc).cells = [.raw .nilFunc] := rfl
 refine acalls_of Tryd.func35 rfl rfl (by simp [Tryd.ntmps35]) (evC_sound rfl _ _ _ _ ?_)
 simp only [Tryd.ntmps35, Tryd.results35, argEnv, List.length_nil]
 simp only [zN, seval, implies_true, Nat.reduceLeDiff, Nat.reduceEqDiff, reduceCtorEq, reduceIte, intD, hraw, List.length_singleton]
 repeat ((with_reducible refine And.intro ?_ ?_); (focus (first | omega | (simp only [lenR]; omega) | (refine qq ?_; rfl) | (refine dq ?_; kernel_rfl) | (intros; simp_all; done))))
 have hw1 := weak_box1Nil (n := 0) (m := 4) (env := []) (σ := [Blk.map (some IntKind.i64) (kidM l), Blk.box 2 (AV.agg [AV.d (D.sl (List.map NodeT.toD l)), AV.mapr 0]), Blk.box 1 AV.nils, Blk.box 1 (AV.fn 53 [AV.ptr 1 0, AV.ptr 2 0, AV.ptr 3 0])]) 2 1 (by simp) rfl (by simp)
 obtain ⟨σ, hσ⟩ : ∃ σ : Sto, σ = [.map (some .i64) (kidM l), .box 2 (.agg [.d (.sl (l.map NodeT.toD)), .mapr 0]), .box 1 (.osl 4 0 0), .box 1 (.fn 53 [.ptr 1 0, .ptr 2 0, .ptr 3 0]), .arr 1 []] := ⟨_, rfl⟩
 have hw2 : Weak 0 4 [] [Blk.map (some IntKind.i64) (kidM l), Blk.box 2 (AV.agg [AV.d (D.sl (List.map NodeT.toD l)), AV.mapr 0]), Blk.box 1 AV.nils, Blk.box 1 (AV.fn 53 [AV.ptr 1 0, AV.ptr 2 0, AV.ptr 3 0])] [] σ := by rw [hσ]; exact hw1
 have hkk := k_below (Gl := Gl) l hl hc l.length i 1 [] hi (by omega) (by omega) (by have := shapeP_len ht l.length i 1 hi (by omega); simp only [List.length_nil]; omega)
 rw [List.nil_append, shapeP_txt ht hi] at hkk
 have er : renS [1, 2, 3, 0, 4] σ = [stT l, .box 1 (.osl 4 0 0), stF 53, .map (some .i64) (kidM l), .arr 1 []] := by
  rw [hσ]
  show [renB _ _ _, renB _ _ _, renB _ _ _, renB _ _ (.map (some .i64) (kidM l)), _] = _
  rw [kidM_ren]; rfl
 have hk2 : ACalls Tryd.prog Gl 53 ([.d (.int .i64 i), .d (.int .i64 1), .ptr 1 0, .ptr 2 0, .ptr 3 0].map (renV [1, 2, 3, 0, 4] σ)) (renS [1, 2, 3, 0, 4] σ) (fun r s => r = .tup [] ∧ s = [stT l, .box 1 (.osl 5 0 (shp l i).length), stF 53, .map (some .i64) (kidM l), .dead, .arr 1 ((shp l i).map .str)]) := by rw [er]; exact hkk
 have hgo := ACalls.under (σ := σ) (args := [.d (.int .i64 i), .d (.int .i64 1), .ptr 1 0, .ptr 2 0, .ptr 3 0]) [1, 2, 3, 0, 4] (by decide) (by rw [hσ]; simp) hk2
 refine callF_go (ACalls.weak hw2 (hgo.mono fun r s hrs => ?_))
 obtain ⟨r0, s0, ⟨rfl, rfl⟩, rfl, rfl⟩ := hrs
 have eb : ∀ n, backS [1, 2, 3, 0, 4] σ [stT l, .box 1 (.osl 5 0 n), stF 53, .map (some .i64) (kidM l), .dead, .arr 1 ((shp l i).map .str)] = [.map (some .i64) (kidM l), .box 2 (.agg [.d (.sl (l.map NodeT.toD)), .mapr 0]), .box 1 (.osl 5 0 n), .box 1 (.fn 53 [.ptr 1 0, .ptr 2 0, .ptr 3 0]), .dead, .arr 1 ((shp l i).map .str)] := fun n => by
  rw [hσ]
  show [backB _ (.map (some .i64) (kidM l)), _, _, _, _, _] = _
  rw [kidM_back]; rfl
 rw [eb]
 simp only [zN, seval, implies_true, Nat.reduceLeDiff, Nat.reduceEqDiff, reduceCtorEq, reduceIte, intD]
 refine ⟨_, _, (weakR_toD (by rfl)).trans (weakR_to [] [0] rfl (by simp) (show renV _ _ _ = AV.d _ from rfl) ?_), ?_, rfl⟩
 ·show [renB _ _ (.map (some .i64) (kidM l))] = _
  rw [kidM_ren]
 ·show AV.d (D.sl (List.take (shp l i).length ((shp l i).map D.str))) = _
  rw [take_all]
theorem k_MShape (l : List NodeT) (hl : l.length ≤ 100) (i : Int) : Pure Tryd.prog Gl 19 [.d (.sl (l.map NodeT.toD)), .d (.int .i64 i)] (.d (.sl ((shapeF l i).map .str))) := by
 refine Pure.of2 ?_
 refine acalls_of Tryd.func19 rfl rfl (by simp [Tryd.ntmps19]) (evC_sound rfl _ _ _ _ ?_)
 simp only [Tryd.ntmps19, Tryd.results19, argEnv, List.length_nil]
 simp only [zN, seval, implies_true, Nat.reduceLeDiff, Nat.reduceEqDiff, reduceCtorEq, reduceIte, intD]
 refine callF_pure (k_flameCheck l (by omega)) ?_
 simp only [zN, seval, implies_true, Nat.reduceLeDiff, Nat.reduceEqDiff, reduceCtorEq, reduceIte, intD]
 repeat ((with_reducible refine And.intro ?_ ?_); (focus (first | omega | (simp only [lenR]; omega) | (refine qq ?_; rfl) | (refine dq ?_; kernel_rfl) | (intros; simp_all; done))))
 refine ifC.mk (fun h1 => ?_) (fun h1 => ?_)
 ·have h1 : ¬ (checkF l = 0 ∧ 0 ≤ i ∧ i < l.length) := by
   simp only [Bool.or_eq_true, bne_iff_ne, decide_eq_true_eq] at h1
   omega
  refine ⟨_, _, ret_data rfl (x := .sl ((shapeF l i).map .str)) ?_, rfl, rfl⟩
  rw [shapeF, if_neg h1]; rfl
 ·have h1' : checkF l = 0 ∧ 0 ≤ i ∧ i < l.length := by
   simp only [Bool.or_eq_false_iff, bne_eq_false_iff_eq, decide_eq_false_iff_not] at h1
   omega
  clear h1
  obtain ⟨h1, h2, h3⟩ := h1'
  obtain ⟨m, rfl⟩ : ∃ m : Nat, i = m := ⟨i.toNat, by omega⟩
  refine callF_go ((k_grow l (by omega) (checkF_ok h1).2.2.2.1).mono fun r s hrs => ?_)
  obtain ⟨rfl, rfl⟩ := hrs
  simp only [zN, seval, implies_true, Nat.reduceLeDiff, Nat.reduceEqDiff, reduceCtorEq, reduceIte, intD]
  refine callF_go ((k_shape l hl h1 m (by omega)).mono fun r s hrs => ?_)
  obtain ⟨rfl, rfl⟩ := hrs
  simp only [zN, seval, implies_true, Nat.reduceLeDiff, Nat.reduceEqDiff, reduceCtorEq, reduceIte, intD]
  refine ⟨_, _, ret_d, ?_, rfl⟩
  rw [shapeF, if_pos ⟨h1, h2, h3⟩]; rfl
end YtfmbadfdbjhekaaDoor
end Go.Proofs
