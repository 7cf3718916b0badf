/- A part of the proof: contracts of functions of this seat, and lemmas. No condition beyond those stated. -/
import Derived.Test.YtfmbadfdbjhekaaDoorWdnt
set_option linter.unusedVariables false
set_option linter.unusedSimpArgs false
set_option linter.unusedSectionVars false
set_option linter.unnecessarySimpa false
set_option maxRecDepth 100000
namespace Go.Proofs
open Go.AM
namespace YtfmbadfdbjhekaaDoor
variable {Gl : Globs}
set_option maxHeartbeats 4000000 in
theorem k_align (a b : List NodeT) (ha : a.length ≤ 100) (hb : b.length ≤ 100) (hca : checkF a = 0) (hcb : checkF b = 0) : ∀ (f : Nat) (i k : Int) (s : Al) (m : Nat → Bool), (a.length : Int) ≤ f + i → -1 ≤ i → i < a.length → Sz a b s → Ge s →
  ACalls Tryd.prog Gl 28 [.ptr 0 0, .d (.int .i64 i), .d (.int .i64 k)] (stP a b s m) (fun r s' => r = .tup [] ∧ ∃ m', s' = stP a b (alignF a b f i k s) m') := by
 have hA := Tr.of hca
 have hB := Tr.of hcb
 intro f
 induction f with
 | zero =>
  intro i k s m hf hi hi2 hs hg
  omega
 | succ f ih =>
  intro i k s m hf hi hi2 hs hge
  obtain ⟨x, hx⟩ : ∃ x, x = kids a i := ⟨_, rfl⟩
  obtain ⟨y, hy⟩ : ∃ y, y = kids b k := ⟨_, rfl⟩
  have hxl : ∀ p ∈ x, p < a.length := fun p hp => by rw [hx] at hp; exact kids_lt hp
  have hyl : ∀ q ∈ y, q < b.length := fun q hq => by rw [hy] at hq; exact kids_lt hq
  have hxn : x.length ≤ 100 := by rw [hx]; exact Nat.le_trans (kidsN_len a i a.length) ha
  have hyn : y.length ≤ 100 := by rw [hy]; exact Nat.le_trans (kidsN_len b k b.length) hb
  have gx1 := kidV_get a i
  have gy1 := kidV_get b k
  refine acalls_of Tryd.func28 rfl rfl (by simp [Tryd.ntmps28]) (evC_sound rfl _ _ _ _ ?_)
  simp only [Tryd.ntmps28, Tryd.results28, argEnv, List.length_nil]
  simp only [zN, seval, implies_true, Nat.reduceLeDiff, Nat.reduceEqDiff, reduceCtorEq, reduceIte, stP, intD, gx1, gy1, kidV_vg, kidV_un, kidV_len, kidV_hasLen]
  repeat ((with_reducible refine And.intro ?_ ?_); (focus (first | omega | (simp only [lenR]; omega) | (refine qq ?_; rfl) | (refine dq ?_; kernel_rfl) | (intros; simp_all; done))))
  have hswX : Weak 119 6 [(33, AV.d (D.int IntKind.i64 0)), (32, AV.d (D.int IntKind.i64 ↑(kids a i).length)), (31, kidV a i), (7, kidV b k), (6, kidV a i), (3, .ptr 6 0)] (stP a b s m ++ [bX])
    [(3, .ptr 6 0), (6, .d (.sl (x.map intD))), (7, .d (.sl (y.map intD))), (31, .d (.sl (x.map intD))), (32, .d (.int .i64 x.length)), (33, .d (.int .i64 0))] (stP a b s m ++ [bX]) := by
   rw [hx, hy]
   exact (weak_dat (V := kidV a i) 6 rfl (kidV_isD _ a i) (kidV_toD _ a i) (kidV_refs a i)).trans ((weak_dat (V := kidV b k) 7 rfl (kidV_isD _ b k) (kidV_toD _ b k) (kidV_refs b k)).trans ((weak_dat (V := kidV a i) 31 rfl (kidV_isD _ a i) (kidV_toD _ a i) (kidV_refs a i)).trans (weak_sub rfl)))
  refine for_of x.length (fun j => [(3, .ptr 6 0), (6, .d (.sl (x.map intD))), (7, .d (.sl (y.map intD))), (31, .d (.sl (x.map intD))), (32, .d (.int .i64 x.length)), (33, .d (.int .i64 j))]) (fun j => stP a b (ph1 a b y (x.take j) s) m ++ [bX]) (fun _ => True) trivial ?_ ?_
  ·refine Weak.trans (weak_sub ?_) hswX
   simp only [zN, seval, implies_true, Nat.reduceLeDiff, Nat.reduceEqDiff, reduceCtorEq, reduceIte, stP, intD]
  ·intro j _ hj
   obtain ⟨s1, hs1⟩ : ∃ s1, s1 = ph1 a b y (x.take j) s := ⟨_, rfl⟩
   have hz1 : Sz a b s1 := by rw [hs1]; exact sz_ph1 _ hs
   rw [← hs1]
   by_cases h : j < x.length
   ·obtain ⟨p, hp⟩ : ∃ p, p = x.getD j default := ⟨_, rfl⟩
    have hpl : p < a.length := by rw [hp]; exact hxl _ (mem_getD h)
    have hst := ph1_step a b y x s h
    rw [← hp, ← hs1] at hst
    have gx : (x.map intD).getD j default = .int .i64 p := by rw [a_getD _ _ _ h, ← hp]; rfl
    rw [hst]
    simp only [zN, seval, implies_true, Nat.reduceLeDiff, Nat.reduceEqDiff, reduceCtorEq, reduceIte, stP, intD, (show (j:Int) < x.length by omega), h, gx, bX]
    repeat ((with_reducible refine And.intro ?_ ?_); (focus (first | omega | (simp only [lenR]; omega) | (refine qq ?_; rfl) | (refine dq ?_; kernel_rfl) | (intros; simp_all; done))))
    refine callF_go ((k_IndexFuncInt 42 [.ptr 6 0, .ptr 7 0] (fun _ : Unit => stC a b s1 m (.int .i64 p)) (fun q => nm b q == nm a p) y (by omega) (fun u q hq => (k_byName a b s1 m p q hpl (hyl q hq)).mono fun r s' hr => ?_) ()).mono fun r s' hr => ?_)
    ·obtain ⟨rfl, rfl⟩ := hr
     refine ⟨?_, (), rfl⟩
     congr 2
     rw [Bool.eq_iff_iff, beq_iff_eq, decide_eq_true_iff]
    ·obtain ⟨j0, u0, rfl, rfl, hcase⟩ := hr
     rcases hcase with ⟨rfl, hn⟩ | ⟨q0, rfl, hq0, hfd⟩
     ·have hc1 : c1 a b y p = none := hn
      rw [hc1]
      simp only [zN, seval, implies_true, Nat.reduceLeDiff, Nat.reduceEqDiff, reduceCtorEq, reduceIte, stP, intD, stC]
      refine weak_to [] [0, 1, 2, 3, 4, 5, 6] rfl (by decide) ?_ (stP_ren3 a b s1 m _)
      simp only [zN, seval, implies_true, Nat.reduceLeDiff, Nat.reduceEqDiff, reduceCtorEq, reduceIte, stP, intD, @a_wrap ((j:Int) + 1) (by omega)]
     ·obtain ⟨r, hr⟩ : ∃ r, r = y.getD q0 default := ⟨_, rfl⟩
      have hrl : r < b.length := by rw [hr]; exact hyl _ (mem_getD hq0)
      have gy : (y.map intD).getD q0 default = .int .i64 r := by rw [a_getD _ _ _ hq0, ← hr]; rfl
      have hc1 : c1 a b y p = some r := by rw [hr]; exact hfd
      rw [hc1]
      simp only [zN, seval, implies_true, Nat.reduceLeDiff, Nat.reduceEqDiff, reduceCtorEq, reduceIte, stP, intD, stC, (show 0 ≤ (q0:Int) by omega), (show (q0:Int) < y.length by omega), hq0, gy]
      repeat ((with_reducible refine And.intro ?_ ?_); (focus (first | omega | (simp only [lenR]; omega) | (refine qq ?_; rfl) | (refine dq ?_; kernel_rfl) | (intros; simp_all; done))))
      refine callF_last (by kernel_rfl) ((onP2 (k_pair a b (by omega) (by omega) s1 m hz1 p r hpl hrl) (args := [.ptr 0 0, .d (.int .i64 p), .d (.int .i64 r)]) rfl).mono fun r' s' hrs => ?_)
      obtain ⟨r0, s0, ⟨rfl, rfl⟩, rfl, rfl⟩ := hrs
      rw [stP_back2]
      simp only [zN, seval, implies_true, Nat.reduceLeDiff, Nat.reduceEqDiff, reduceCtorEq, reduceIte, stP, intD]
      refine weak_to [] [0, 1, 2, 3, 4, 5, 6] rfl (by decide) ?_ (stP_ren3 a b (pairS s1 p r) m _)
      simp only [zN, seval, implies_true, Nat.reduceLeDiff, Nat.reduceEqDiff, reduceCtorEq, reduceIte, stP, intD, @a_wrap ((j:Int) + 1) (by omega)]
   ·have : j = x.length := by omega
    subst this
    rw [List.take_length] at hs1
    have hge1 : Ge s1 := by rw [hs1]; exact ge_ph1 _ hxl hs hge
    simp only [zN, seval, implies_true, Nat.reduceLeDiff, Nat.reduceEqDiff, reduceCtorEq, reduceIte, stP, intD, (show ¬ (x.length:Int) < x.length by omega), bX]
    refine loop_of (τ := Nat × (Nat → Bool)) (fun u => [(3, .ptr 6 0), (6, .d (.sl (x.map intD))), (7, .d (.sl (y.map intD))), (50, .d (.sl (x.map intD))), (51, .d (.int .i64 x.length)), (52, .d (.int .i64 u.1))]) (fun u => stP a b (ph2 a b y (x.take u.1) s1) u.2 ++ [bX])
     (fun u => u.1 ≤ x.length) (fun u => x.length - u.1) (0, m) (Nat.zero_le _) ?_ ?_
    ·refine weak_sub ?_
     simp only [zN, seval, implies_true, Nat.reduceLeDiff, Nat.reduceEqDiff, reduceCtorEq, reduceIte, stP, intD, Int.cast_ofNat_Int]
    ·rintro ⟨j, m⟩ hj
     simp only at hj
     obtain ⟨s2, hs2⟩ : ∃ s2, s2 = ph2 a b y (x.take j) s1 := ⟨_, rfl⟩
     have hz2 : Sz a b s2 := by rw [hs2]; exact sz_ph2 _ hz1
     have hge2 : Ge s2 := by rw [hs2]; exact ge_ph2 _ (fun p hp => hxl p (List.mem_of_mem_take hp)) hz1 hge1
     rw [← hs2]
     by_cases h : j < x.length
     ·obtain ⟨p, hp⟩ : ∃ p, p = x.getD j default := ⟨_, rfl⟩
      have hpl : p < a.length := by rw [hp]; exact hxl _ (mem_getD h)
      have hst := ph2_step a b y x s1 h
      rw [← hp, ← hs2] at hst
      have gx : (x.map intD).getD j default = .int .i64 p := by rw [a_getD _ _ _ h, ← hp]; rfl
      have gb := b_get (s := s2) (p := p) (by rw [hz2.1]; exact hpl)
      have hpt : p < s2.toB.length := by rw [hz2.1]; exact hpl
      have gp1 := kidV_get a p
      have hgp := hge2 p
      simp only [zN, seval, implies_true, Nat.reduceLeDiff, Nat.reduceEqDiff, reduceCtorEq, reduceIte, stP, intD, (show (j:Int) < x.length by omega), h, gx, gb, hpt, bX, (show (p:Int) < a.length by omega), gp1, kidV_vg, kidV_un, kidV_len, kidV_hasLen, bxP_a]
      repeat ((with_reducible refine And.intro ?_ ?_); (focus (first | omega | (simp only [lenR]; omega) | (refine qq ?_; rfl) | (refine dq ?_; kernel_rfl) | (intros; simp_all; done))))
      have hc2 : c2 a b y s2 p = if s2.b p < 0 ∧ shp a p ≠ [] then y.find? (fun q => decide (s2.a q < 0) && (shp b q == shp a p)) else none := rfl
      refine ifC.mk (fun hc => ?_) (fun hc => ?_)
      ·have hcn : c2 a b y s2 p = none := by
        rw [hc2, if_neg]
        rintro ⟨g1, g2⟩
        rw [Ne, shp_nil hA.up hpl] at g2
        have : s2.b p = -1 := by omega
        rw [this] at hc
        have : (kids a p).length ≠ 0 := fun e => g2 (List.eq_nil_of_length_eq_zero e)
        simp at hc
        exact g2 hc
       have hst' : ph2 a b y (x.take (j + 1)) s1 = s2 := by rw [hst, hcn]; rfl
       refine ⟨(j + 1, m), h, by simp only; omega, ?_⟩
       simp only [hst']
       refine weak_sub ?_
       simp only [zN, seval, implies_true, Nat.reduceLeDiff, Nat.reduceEqDiff, reduceCtorEq, reduceIte, stP, intD, @a_wrap ((j:Int) + 1) (by omega)]
      ·have hb1 : s2.b p = -1 ∧ kids a p ≠ [] := by
        simp only [Bool.or_eq_false_iff, bne_eq_false_iff_eq, beq_eq_false_iff_ne, ne_eq, Int.natCast_eq_zero, List.length_eq_zero_iff] at hc
        exact hc
       have hcf : c2 a b y s2 p = y.find? (fun q => decide (s2.a q < 0) && (shp b q == shp a p)) := by
        rw [hc2, if_pos ⟨by omega, fun e => hb1.2 ((shp_nil hA.up hpl).1 e)⟩]
       have hsl : (shp a p).length ≤ 100 := Nat.le_trans (shTo_len a p a.length) ha
       repeat ((with_reducible refine And.intro ?_ ?_); (focus (first | omega | (simp only [lenR]; omega) | (refine qq ?_; rfl) | (refine dq ?_; kernel_rfl) | (intros; simp_all; done))))
       have hkk := k_shape (Gl := Gl) a ha hca p hpl
       rw [← shapeA_ren a b s2 m] at hkk
       have hgo := ACalls.under (σ := stP a b s2 m ++ [bX]) (args := [.agg [.d (.sl (a.map NodeT.toD)), .mapr 1], .d (.int .i64 p)]) [1] (by decide) (by simp [stP]) hkk
       refine callF_go (hgo.mono fun r s' hrs => ?_)
       obtain ⟨r0, s0, ⟨rfl, rfl⟩, rfl, rfl⟩ := hrs
       rw [shapeA_ren, shapeA_back, back_d]
       simp only [zN, seval, implies_true, Nat.reduceLeDiff, Nat.reduceEqDiff, reduceCtorEq, reduceIte, stP, intD, bX]
       repeat ((with_reducible refine And.intro ?_ ?_); (focus (first | omega | (simp only [lenR]; omega) | (refine qq ?_; rfl) | (refine dq ?_; kernel_rfl) | (intros; simp_all; done))))
       refine callF_go ((k_IndexFuncInt 44 [.ptr 6 0, .ptr 7 0] (fun m' : Nat → Bool => stC a b s2 m' (.sl ((shp a p).map .str))) (fun q => decide (s2.a q < 0) && (shp b q == shp a p)) y (by omega) (fun m' q hq => k_byShape a b hb hcb s2 m' hz2 (shp a p) (by omega) q (hyl q hq)) m).mono fun r s' hr => ?_)
       obtain ⟨j0, m1, rfl, rfl, hcase⟩ := hr
       rcases hcase with ⟨rfl, hn⟩ | ⟨q0, rfl, hq0, hfd⟩
       ·have hst' : ph2 a b y (x.take (j + 1)) s1 = s2 := by rw [hst, hcf, hn]; rfl
        simp only [zN, seval, implies_true, Nat.reduceLeDiff, Nat.reduceEqDiff, reduceCtorEq, reduceIte, stP, intD, stC]
        refine ⟨(j + 1, m1), h, by simp only; omega, ?_⟩
        simp only [hst']
        refine weak_to [] [0, 1, 2, 3, 4, 5, 6] rfl (by decide) ?_ (stP_ren3 a b s2 m1 _)
        simp only [zN, seval, implies_true, Nat.reduceLeDiff, Nat.reduceEqDiff, reduceCtorEq, reduceIte, stP, intD, @a_wrap ((j:Int) + 1) (by omega)]
       ·obtain ⟨r, hr⟩ : ∃ r, r = y.getD q0 default := ⟨_, rfl⟩
        have hrl : r < b.length := by rw [hr]; exact hyl _ (mem_getD hq0)
        have gy : (y.map intD).getD q0 default = .int .i64 r := by rw [a_getD _ _ _ hq0, ← hr]; rfl
        have hst' : ph2 a b y (x.take (j + 1)) s1 = pairS s2 p r := by rw [hst, hcf, hfd, ← hr]; rfl
        simp only [zN, seval, implies_true, Nat.reduceLeDiff, Nat.reduceEqDiff, reduceCtorEq, reduceIte, stP, intD, stC, (show 0 ≤ (q0:Int) by omega), (show (q0:Int) < y.length by omega), hq0, gy]
        repeat ((with_reducible refine And.intro ?_ ?_); (focus (first | omega | (simp only [lenR]; omega) | (refine qq ?_; rfl) | (refine dq ?_; kernel_rfl) | (intros; simp_all; done))))
        refine callF_last (by kernel_rfl) ((onP2 (k_pair a b (by omega) (by omega) s2 m1 hz2 p r hpl hrl) (args := [.ptr 0 0, .d (.int .i64 p), .d (.int .i64 r)]) rfl).mono fun r' s' hrs => ?_)
        obtain ⟨r0, s0, ⟨rfl, rfl⟩, rfl, rfl⟩ := hrs
        rw [stP_back2]
        simp only [zN, seval, implies_true, Nat.reduceLeDiff, Nat.reduceEqDiff, reduceCtorEq, reduceIte, stP, intD]
        refine ⟨(j + 1, m1), h, by simp only; omega, ?_⟩
        simp only [hst']
        refine weak_to [] [0, 1, 2, 3, 4, 5, 6] rfl (by decide) ?_ (stP_ren3 a b (pairS s2 p r) m1 _)
        simp only [zN, seval, implies_true, Nat.reduceLeDiff, Nat.reduceEqDiff, reduceCtorEq, reduceIte, stP, intD, @a_wrap ((j:Int) + 1) (by omega)]
     ·have : j = x.length := by omega
      subst this
      rw [List.take_length] at hs2
      obtain ⟨g, hg⟩ : ∃ g : Al → Nat → Al, g = fun (s : Al) (p : Nat) => if 0 ≤ s.b p then alignF a b f p (s.b p) s else s := ⟨_, rfl⟩
      have hgz : ∀ s p, Sz a b s → Sz a b (g s p) := fun s p h => by
       rw [hg]
       show Sz a b (if 0 ≤ s.b p then alignF a b f p (s.b p) s else s)
       split
       ·exact sz_align f _ _ h
       ·exact h
      have hgg : ∀ s p, Sz a b s → Ge s → Sz a b (g s p) ∧ Ge (g s p) := fun s p h1 h2 => ⟨hgz s p h1, by
       rw [hg]
       show Ge (if 0 ≤ s.b p then alignF a b f p (s.b p) s else s)
       split
       ·exact ge_align f _ _ h1 h2
       ·exact h2⟩
      have hfin : alignF a b (f + 1) i k s = x.foldl g s2 := by rw [hs2, hs1, hx, hy, hg]; rfl
      rw [hfin]
      simp only [zN, seval, implies_true, Nat.reduceLeDiff, Nat.reduceEqDiff, reduceCtorEq, reduceIte, stP, intD, (show ¬ (x.length:Int) < x.length by omega), bX]
      refine loop_of (τ := Nat × (Nat → Bool)) (fun u => [(3, .ptr 6 0), (94, .d (.sl (x.map intD))), (95, .d (.int .i64 x.length)), (96, .d (.int .i64 u.1))]) (fun u => stP a b ((x.take u.1).foldl g s2) u.2 ++ [bX])
       (fun u => u.1 ≤ x.length) (fun u => x.length - u.1) (0, m) (Nat.zero_le _) ?_ ?_
      ·refine weak_sub ?_
       simp only [zN, seval, implies_true, Nat.reduceLeDiff, Nat.reduceEqDiff, reduceCtorEq, reduceIte, stP, intD, Int.cast_ofNat_Int]
      ·rintro ⟨j, m⟩ hj
       simp only at hj
       obtain ⟨t, ht⟩ : ∃ t, t = (x.take j).foldl g s2 := ⟨_, rfl⟩
       have hzt : Sz a b t := by rw [ht]; exact sz_foldl hgz _ hz2
       have hgt : Ge t := by rw [ht]; exact ge_foldl hgg _ hz2 hge2
       by_cases h : j < x.length
       ·obtain ⟨p, hp⟩ : ∃ p, p = x.getD j default := ⟨_, rfl⟩
        have hpx : p ∈ x := by rw [hp]; exact mem_getD h
        have hpl : p < a.length := hxl p hpx
        have hst := foldl_step g x s2 h
        rw [← hp, ← ht] at hst
        have gx : (x.map intD).getD j default = .int .i64 p := by rw [a_getD _ _ _ h, ← hp]; rfl
        have gb := b_get (s := t) (p := p) (by rw [hzt.1]; exact hpl)
        have hpt : p < t.toB.length := by rw [hzt.1]; exact hpl
        have hgp := hgt p
        have hgt2 : g t p = if 0 ≤ t.b p then alignF a b f p (t.b p) t else t := by rw [hg]
        rw [← ht]
        simp only [zN, seval, implies_true, Nat.reduceLeDiff, Nat.reduceEqDiff, reduceCtorEq, reduceIte, stP, intD, (show (j:Int) < x.length by omega), h, gx, gb, hpt, bX, (show (p:Int) < a.length by omega)]
        repeat ((with_reducible refine And.intro ?_ ?_); (focus (first | omega | (simp only [lenR]; omega) | (refine qq ?_; rfl) | (refine dq ?_; kernel_rfl) | (intros; simp_all; done))))
        refine ifC.mk (fun hc => ?_) (fun hc => ?_)
        ·have hc : 0 ≤ t.b p := by
          have : t.b p ≠ -1 := by simpa using hc
          omega
         rw [if_pos hc] at hgt2
         repeat ((with_reducible refine And.intro ?_ ?_); (focus (first | omega | (simp only [lenR]; omega) | (refine qq ?_; rfl) | (refine dq ?_; kernel_rfl) | (intros; simp_all; done))))
         (try simp only [zN, seval, implies_true, Nat.reduceLeDiff, Nat.reduceEqDiff, reduceCtorEq, reduceIte, stP, intD, h, gx, gb, hpt, (show (j:Int) < x.length by omega), (show (p:Int) < a.length by omega)])
         repeat ((with_reducible refine And.intro ?_ ?_); (focus (first | omega | (simp only [lenR]; omega) | (refine qq ?_; rfl) | (refine dq ?_; kernel_rfl) | (intros; simp_all; done))))
         have hpi : i < p := by
          rw [hx] at hpx
          have h1 := (mem_kids.1 hpx).2
          have h2 := (tree_par hA.up hpl).2
          omega
         refine callF_last (by kernel_rfl) ((onP1 (ih p (t.b p) t m (by omega) (by omega) (by omega) hzt hgt) (args := [.ptr 0 0, .d (.int .i64 p), .d (.int .i64 (t.b p))]) rfl).mono fun r' s' hrs => ?_)
         obtain ⟨r0, s0, ⟨rfl, m1, rfl⟩, rfl, rfl⟩ := hrs
         rw [stP_back1]
         simp only [zN, seval, implies_true, Nat.reduceLeDiff, Nat.reduceEqDiff, reduceCtorEq, reduceIte, stP, intD]
         refine ⟨(j + 1, m1), h, by simp only; omega, ?_⟩
         simp only [hst, hgt2]
         refine weak_sub ?_
         simp only [zN, seval, implies_true, Nat.reduceLeDiff, Nat.reduceEqDiff, reduceCtorEq, reduceIte, stP, intD, @a_wrap ((j:Int) + 1) (by omega)]
        ·have hc : ¬ 0 ≤ t.b p := by
          have : t.b p = -1 := by simpa using hc
          omega
         rw [if_neg hc] at hgt2
         refine ⟨(j + 1, m), h, by simp only; omega, ?_⟩
         simp only [hst, hgt2]
         refine weak_sub ?_
         simp only [zN, seval, implies_true, Nat.reduceLeDiff, Nat.reduceEqDiff, reduceCtorEq, reduceIte, stP, intD, @a_wrap ((j:Int) + 1) (by omega)]
       ·have : j = x.length := by omega
        subst this
        rw [List.take_length] at ht
        simp only [zN, seval, implies_true, Nat.reduceLeDiff, Nat.reduceEqDiff, reduceCtorEq, reduceIte, stP, intD, (show ¬ (x.length:Int) < x.length by omega), bX, List.take_length, ← ht]
        refine ⟨_, _, weakR_to [] [0, 1, 2, 3, 4, 5] rfl (by simp) rfl (stP_ren1 a b t m), rfl, m, rfl⟩
end YtfmbadfdbjhekaaDoor
end Go.Proofs
