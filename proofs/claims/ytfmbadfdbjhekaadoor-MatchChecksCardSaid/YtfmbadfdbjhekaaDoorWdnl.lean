/- A part of the proof: contracts of functions of this seat, and lemmas. No condition beyond those stated. -/
import Derived.Test.YtfmbadfdbjhekaaDoorWdnk
set_option linter.unusedVariables false
set_option linter.unusedSimpArgs false
set_option linter.unusedSectionVars false
set_option linter.unnecessarySimpa false
set_option maxRecDepth 100000
namespace Go.Proofs
open Go.AM
namespace YtfmbadfdbjhekaaDoor
variable {Gl : Globs}
theorem chk_err {a b : List NodeT} {l : List PairT} (h : ¬ (checkF a = 0 ∧ checkF b = 0 ∧ a.length ≤ l.length)) : checkAl a b l = false := by
 rw [Bool.eq_false_iff]
 intro e
 simp only [checkAl, Bool.and_eq_true, decide_eq_true_eq] at e
 exact h ⟨e.1.1.1.1.1, e.1.1.1.1.2, e.1.1.1.2⟩
theorem chk_pre {a b : List NodeT} {l : List PairT} {i : Nat} (hi : i < a.length) (h : preI b.length l i = false) : checkAl a b l = false := by
 rw [Bool.eq_false_iff]
 intro e
 simp only [checkAl, Bool.and_eq_true] at e
 rw [all_bad hi h] at e; cases e.1.1.2
theorem chk_par {a b : List NodeT} {l : List PairT} {i : Nat} (hi : i < a.length) (h : parI a b l i = false) : checkAl a b l = false := by
 rw [Bool.eq_false_iff]
 intro e
 simp only [checkAl, Bool.and_eq_true] at e
 rw [all_bad hi h] at e; cases e.1.2
theorem chk_tail {a b : List NodeT} {l : List PairT} (h : l.drop a.length ≠ tailP (unt l a.length b.length)) : checkAl a b l = false := by
 rw [Bool.eq_false_iff]
 intro e
 simp only [checkAl, Bool.and_eq_true, decide_eq_true_eq] at e
 exact h e.2
theorem chk_all {a b : List NodeT} {l : List PairT} (h1 : checkF a = 0) (h2 : checkF b = 0) (h3 : a.length ≤ l.length) (h4 : (List.range a.length).all (preI b.length l) = true) (h5 : (List.range a.length).all (parI a b l) = true) (h6 : TailOk l a.length b.length) :
  checkAl a b l = decide ((l.drop a.length).length = (unt l a.length b.length).length) := by
 rw [checkAl, h4, h5, decide_eq_true h1, decide_eq_true h2, decide_eq_true h3, Bool.true_and, Bool.true_and, Bool.true_and, Bool.true_and, Bool.true_and, decide_eq_decide]
 exact tail_end h6
def toL (l : List PairT) (i m : Nat) : List D := (List.range m).map fun k : Nat => .int .i64 (toF l i (k : Int))
theorem toL_len (l : List PairT) (i m : Nat) : (toL l i m).length = m := by simp [toL]
theorem toL_get (l : List PairT) (i : Nat) {m k : Nat} (h : k < m) : (toL l i m).getD k default = .int .i64 (toF l i (k : Int)) := rg_get _ h
theorem toL_zero (l : List PairT) (m : Nat) : List.replicate m (D.int .i64 (-1)) = toL l 0 m := by rw [rg_rep]; rfl
theorem toL_set (l : List PairT) (i m : Nat) {q : Nat} (hq : pb l i = q) : (toL l i m).set q (.int .i64 i) = toL l (i + 1) m := by
 rw [toL, rg_set, toL]
 refine rg_congr fun k hk => ?_
 rw [toF, hq]
 by_cases e : k = q
 ·subst e; rw [if_pos rfl, if_pos rfl]
 ·rw [if_neg e, if_neg (by omega)]
theorem toL_neg (l : List PairT) (i m : Nat) (hq : pb l i < 0) : toL l (i + 1) m = toL l i m := by
 refine rg_congr fun k hk => ?_
 rw [toF, if_neg (by omega)]
def tailN (l : List PairT) (n k : Nat) : Nat := n + (unt l n k).length
theorem k_RChk (a b : List NodeT) (l : List PairT) (ha : a.length ≤ 100) (hb : b.length ≤ 100) (hl : l.length < 1000000) : Pure Tryd.prog Gl 17 [.d (.sl (a.map NodeT.toD)), .d (.sl (b.map NodeT.toD)), .d (.sl (l.map PairT.toD))] (.d (.bool (checkAl a b l))) := by
 refine Pure.of3 ?_
 refine acalls_of Tryd.func17 rfl rfl (by simp [Tryd.ntmps17]) (evC_sound rfl _ _ _ _ ?_)
 simp only [Tryd.ntmps17, Tryd.results17, argEnv, List.length_nil]
 simp only [zN, seval, implies_true, Nat.reduceLeDiff, Nat.reduceEqDiff, reduceCtorEq, reduceIte, intD]
 refine callF_pure (k_RCheck a (by omega)) ?_
 simp only [zN, seval, implies_true, Nat.reduceLeDiff, Nat.reduceEqDiff, reduceCtorEq, reduceIte, intD]
 repeat ((with_reducible refine And.intro ?_ ?_); (focus (first | omega | (simp only [lenR]; omega) | (refine qq ?_; rfl) | (refine dq ?_; kernel_rfl) | (intros; simp_all; done))))
 refine callG_pure (fun _ => k_RCheck b (by omega)) ?_
 simp only [zN, seval, implies_true, Nat.reduceLeDiff, Nat.reduceEqDiff, reduceCtorEq, reduceIte, intD]
 repeat ((with_reducible refine And.intro ?_ ?_); (focus (first | omega | (simp only [lenR]; omega) | (refine qq ?_; rfl) | (refine dq ?_; kernel_rfl) | (intros; simp_all; done))))
 refine ifC.mk (fun h1 => ?_) (fun h1 => ?_)
 ·refine ⟨_, _, ret_d, ?_, rfl⟩
  rw [chk_err (fun g => by
   simp only [Bool.or_eq_true, bne_iff_ne, decide_eq_true_eq] at h1
   omega)]
 have h1' : checkF a = 0 ∧ checkF b = 0 ∧ a.length ≤ l.length := by
  simp only [Bool.or_eq_false_iff, bne_eq_false_iff_eq, decide_eq_false_iff_not] at h1
  omega
 clear h1
 obtain ⟨h1, h2, h3⟩ := h1'
 have htA := (checkF_ok h1).2.2.2.1
 have htB := (checkF_ok h2).2.2.2.1
 repeat ((with_reducible refine And.intro ?_ ?_); (focus (first | omega | (simp only [lenR]; omega) | (refine qq ?_; rfl) | (refine dq ?_; kernel_rfl) | (intros; simp_all; done))))
 refine callF_go ((k_none b.length (by omega) _).mono fun r s hrs => ?_)
 obtain ⟨rfl, rfl⟩ := hrs
 simp only [zN, seval, implies_true, Nat.reduceLeDiff, Nat.reduceEqDiff, reduceCtorEq, reduceIte, intD, List.length_replicate]
 rw [toL_zero l]
 refine for_of a.length (fun i => [(0, .d (.sl (a.map NodeT.toD))), (1, .d (.sl (b.map NodeT.toD))), (2, .d (.sl (l.map PairT.toD))), (7, .osl 0 0 b.length), (8, .d (.int .i64 i))]) (fun i => [.arr 1 (toL l i b.length)]) (fun i => (List.range i).all (preI b.length l) = true) rfl ?_ ?_
 ·refine weak_to [] [0] rfl (by simp) ?_ rfl
  simp only [zN, seval, implies_true, Nat.reduceLeDiff, Nat.reduceEqDiff, reduceCtorEq, reduceIte, intD, Int.cast_ofNat_Int]
 ·intro i hi hil
  by_cases h : i < a.length
  ·obtain ⟨x, hx⟩ : ∃ x, x = l.getD i default := ⟨_, rfl⟩
   have ea : pa l i = x.a := by rw [hx]; rfl
   have eb : pb l i = x.b := by rw [hx]; rfl
   have eg : (l.map PairT.toD).getD i default = x.toD := by rw [a_getD _ _ _ (by omega), ← hx]
   have hil2 : i < l.length := by omega
   simp only [zN, seval, implies_true, Nat.reduceLeDiff, Nat.reduceEqDiff, reduceCtorEq, reduceIte, intD, (show (i:Int) < a.length by omega), (show (i:Int) < l.length by omega), hil2, eg]
   repeat ((with_reducible refine And.intro ?_ ?_); (focus (first | omega | (simp only [lenR]; omega) | (refine qq ?_; rfl) | (refine dq ?_; kernel_rfl) | (intros; simp_all; done))))
   have hpre : preI b.length l i = (!(x.a != (i : Int) || decide (x.b < -1) || decide ((b.length : Int) ≤ x.b)) && (decide (x.b < 0) || !tkn l i x.b)) := by
    rw [preI, ea, eb]
    congr 1
    rw [Bool.eq_iff_iff]
    simp only [Bool.and_eq_true, beq_iff_eq, decide_eq_true_eq, Bool.not_eq_true', Bool.or_eq_false_iff, bne_eq_false_iff_eq, decide_eq_false_iff_not]
    omega
   by_cases hc : (x.a != (i : Int) || decide (x.b < -1) || decide ((b.length : Int) ≤ x.b)) = true
   ·rw [hc] at hpre ⊢
    simp only [zN, seval, implies_true, Nat.reduceLeDiff, Nat.reduceEqDiff, reduceCtorEq, reduceIte, intD, Bool.not_true, Bool.false_and]
    repeat ((with_reducible refine And.intro ?_ ?_); (focus (first | omega | (simp only [lenR]; omega) | (refine qq ?_; rfl) | (refine dq ?_; kernel_rfl) | (intros; simp_all; done))))
    refine ⟨_, _, ret_d, ?_, rfl⟩
    rw [chk_pre h hpre]
   have hc : (x.a != (i : Int) || decide (x.b < -1) || decide ((b.length : Int) ≤ x.b)) = false := by simpa using hc
   rw [hc] at hpre ⊢
   rw [Bool.not_false, Bool.true_and] at hpre
   have hc' : -1 ≤ x.b ∧ x.b < b.length := by
    simp only [Bool.or_eq_false_iff, bne_eq_false_iff_eq, decide_eq_false_iff_not] at hc
    omega
   by_cases hq : 0 ≤ x.b
   ·obtain ⟨q, hq2⟩ : ∃ q : Nat, x.b = q := ⟨x.b.toNat, by omega⟩
    have hqm : q < b.length := by omega
    have hgt := toL_get l i hqm
    rw [hq2] at hpre ⊢ eb
    rw [decide_eq_false (show ¬ (q : Int) < 0 by omega), Bool.false_or, ← toF_tkn] at hpre
    simp only [zN, seval, implies_true, Nat.reduceLeDiff, Nat.reduceEqDiff, reduceCtorEq, reduceIte, intD, Bool.not_false, (show (0:Int) ≤ q by omega), toL_len, hqm, hgt, Bool.true_and, (show (q:Int) < b.length by omega)]
    repeat ((with_reducible refine And.intro ?_ ?_); (focus (first | omega | (simp only [lenR]; omega) | (refine qq ?_; rfl) | (refine dq ?_; kernel_rfl) | (intros; simp_all; done))))
    refine ifC.mk (fun h5 => ?_) (fun h5 => ?_)
    ·refine ⟨_, _, ret_d, ?_, rfl⟩
     rw [h5] at hpre
     rw [chk_pre h hpre]
    ·rw [h5] at hpre
     repeat ((with_reducible refine And.intro ?_ ?_); (focus (first | omega | (simp only [lenR]; omega) | (refine qq ?_; rfl) | (refine dq ?_; kernel_rfl) | (intros; simp_all; done))))
     refine ⟨by rw [all_step, hi, hpre]; rfl, ?_⟩
     rw [toL_set l i b.length eb]
     refine weak_to [] [0] rfl (by simp) ?_ rfl
     simp only [zN, seval, implies_true, Nat.reduceLeDiff, Nat.reduceEqDiff, reduceCtorEq, reduceIte, intD, @a_wrap ((i:Int) + 1) (by omega)]
   ·rw [decide_eq_true (show x.b < 0 by omega), Bool.true_or] at hpre
    simp only [zN, seval, implies_true, Nat.reduceLeDiff, Nat.reduceEqDiff, reduceCtorEq, reduceIte, intD, Bool.not_false, (show ¬ (0:Int) ≤ x.b by omega), Bool.and_false]
    repeat ((with_reducible refine And.intro ?_ ?_); (focus (first | omega | (simp only [lenR]; omega) | (refine qq ?_; rfl) | (refine dq ?_; kernel_rfl) | (intros; simp_all; done))))
    refine ⟨by rw [all_step, hi, hpre]; rfl, ?_⟩
    rw [toL_neg l i b.length (by omega)]
    refine weak_to [] [0] rfl (by simp) ?_ rfl
    simp only [zN, seval, implies_true, Nat.reduceLeDiff, Nat.reduceEqDiff, reduceCtorEq, reduceIte, intD, @a_wrap ((i:Int) + 1) (by omega)]
  ·have : i = a.length := by omega
   subst this
   simp only [zN, seval, implies_true, Nat.reduceLeDiff, Nat.reduceEqDiff, reduceCtorEq, reduceIte, intD, (show ¬ (a.length:Int) < a.length by omega)]
   refine for_of b.length (fun k => [(0, .d (.sl (a.map NodeT.toD))), (1, .d (.sl (b.map NodeT.toD))), (2, .d (.sl (l.map PairT.toD))), (7, .osl 0 0 b.length), (10, .d (.int .i64 ((tailN l a.length k : Nat) : Int))), (11, .d (.int .i64 k))]) (fun _ => [.arr 1 (toL l a.length b.length)])
    (fun k => TailOk l a.length k ∧ ∀ k', k' < k → tkn l a.length k' = true → parB l (par a (toF l a.length k').toNat) (par b k') = true) ⟨tail_zero _ _, fun k' hk' => by omega⟩ ?_ ?_
   ·refine weak_to [] [0] rfl (by simp) ?_ rfl
    simp only [zN, seval, implies_true, Nat.reduceLeDiff, Nat.reduceEqDiff, reduceCtorEq, reduceIte, intD, Int.cast_ofNat_Int]
    try rfl
   ·intro k ⟨hT, hP⟩ hkm
    have hul := unt_len l a.length k
    obtain ⟨N, hN⟩ : ∃ N, N = tailN l a.length k := ⟨_, rfl⟩
    rw [← hN]
    have hN2 : N = a.length + (unt l a.length k).length := hN
    by_cases hk : k < b.length
    ·have hgt := toL_get l a.length hk
     obtain ⟨y, hy⟩ : ∃ y, y = b.getD k default := ⟨_, rfl⟩
     have ey : par b k = y.parent := by rw [hy]; rfl
     have egy : (b.map NodeT.toD).getD k default = y.toD := by rw [a_getD _ _ _ hk, ← hy]
     by_cases ht : tkn l a.length k = true
     ·have h0 : 0 ≤ toF l a.length k := of_decide_eq_true (by rw [toF_tkn]; exact ht)
      obtain ⟨j, j1, j2, j3⟩ := toF_val h0
      obtain ⟨x, hx⟩ : ∃ x, x = a.getD j default := ⟨_, rfl⟩
      have ex : par a j = x.parent := by rw [hx]; rfl
      have egx : (a.map NodeT.toD).getD j default = x.toD := by rw [a_getD _ _ _ j1, ← hx]
      have tA := tree_par htA j1
      have tB := tree_par htB hk
      rw [ex] at tA
      rw [ey] at tB
      rw [j2] at hgt
      have hbad : parB l x.parent y.parent = false → checkAl a b l = false := fun hf => by
       refine chk_par j1 ?_
       rw [parI, j3, decide_eq_false (by omega), Bool.false_or, ex, show ((k : Int)).toNat = k by omega, ey]; exact hf
      have hgood : parB l x.parent y.parent = true → ∀ k', k' < k + 1 → tkn l a.length k' = true → parB l (par a (toF l a.length k').toNat) (par b k') = true := fun hg k' hk' ht' => by
       by_cases e : k' = k
       ·subst e; rw [j2, show ((j : Int)).toNat = j by omega, ex, ey]; exact hg
       ·exact hP k' (by omega) ht'
      have hun : tailN l a.length (k + 1) = N := by rw [tailN, unt_step, if_pos ht, List.append_nil, hN]; rfl
      simp only [zN, seval, implies_true, Nat.reduceLeDiff, Nat.reduceEqDiff, reduceCtorEq, reduceIte, intD, (show (k:Int) < b.length by omega), toL_len, hk, hgt, (show (0:Int) ≤ j by omega)]
      repeat ((with_reducible refine And.intro ?_ ?_); (focus (first | omega | (simp only [lenR]; omega) | (refine qq ?_; rfl) | (refine dq ?_; kernel_rfl) | (intros; simp_all; done))))
      simp only [zN, seval, implies_true, Nat.reduceLeDiff, Nat.reduceEqDiff, reduceCtorEq, reduceIte, intD, egx, egy, j1, hk, (show (j:Int) < a.length by omega), (show (k:Int) < b.length by omega)]
      repeat ((with_reducible refine And.intro ?_ ?_); (focus (first | omega | (simp only [lenR]; omega) | (refine qq ?_; rfl) | (refine dq ?_; kernel_rfl) | (intros; simp_all; done))))
      by_cases p0 : x.parent < 0
      ·have e1 : x.parent = -1 := by omega
       by_cases q0 : 0 ≤ y.parent
       ·have hf : parB l x.parent y.parent = false := by
         have : ¬ y.parent = -1 := by omega
         simp [parB, e1, this]
        simp only [zN, seval, implies_true, Nat.reduceLeDiff, Nat.reduceEqDiff, reduceCtorEq, reduceIte, intD, p0, q0, (show ¬ 0 ≤ x.parent by omega), (show ¬ y.parent < 0 by omega), Bool.not_true, Bool.not_false, Bool.false_and, Bool.and_false]
        repeat ((with_reducible refine And.intro ?_ ?_); (focus (first | omega | (simp only [lenR]; omega) | (refine qq ?_; rfl) | (refine dq ?_; kernel_rfl) | (intros; simp_all; done))))
        refine ⟨_, _, ret_d, ?_, rfl⟩
        rw [hbad hf]
       ·have e2 : y.parent = -1 := by omega
        have hg : parB l x.parent y.parent = true := by rw [e1, e2]; rfl
        simp only [zN, seval, implies_true, Nat.reduceLeDiff, Nat.reduceEqDiff, reduceCtorEq, reduceIte, intD, p0, q0, (show ¬ 0 ≤ x.parent by omega), (show y.parent < 0 by omega), Bool.not_true, Bool.not_false, Bool.false_and, Bool.and_false]
        repeat ((with_reducible refine And.intro ?_ ?_); (focus (first | omega | (simp only [lenR]; omega) | (refine qq ?_; rfl) | (refine dq ?_; kernel_rfl) | (intros; simp_all; done))))
        refine ⟨⟨tail_skip hT ht, hgood hg⟩, ?_⟩
        rw [hun]
        refine weak_to [] [0] rfl (by simp) ?_ rfl
        simp only [zN, seval, implies_true, Nat.reduceLeDiff, Nat.reduceEqDiff, reduceCtorEq, reduceIte, intD, @a_wrap ((k:Int) + 1) (by omega)]
        try rfl
      ·obtain ⟨r, hr⟩ : ∃ r : Nat, x.parent = r := ⟨x.parent.toNat, by omega⟩
       have hrl : r < l.length := by omega
       obtain ⟨z, hz⟩ : ∃ z, z = l.getD r default := ⟨_, rfl⟩
       have egz : (l.map PairT.toD).getD r default = z.toD := by rw [a_getD _ _ _ hrl, ← hz]
       have ez : pb l r = z.b := by rw [hz]; rfl
       have hpb : parB l x.parent y.parent = (!(y.parent == -1) && (z.b == y.parent)) := by
        rw [parB, hr, if_neg (by omega), show ((r : Int)).toNat = r by omega, ez, show (((r : Int) == -1)) = false by simp]
        cases (y.parent == -1) <;> rfl
       rw [hr] at hpb hbad hgood ⊢
       by_cases q0 : 0 ≤ y.parent
       ·have hpb2 : parB l (r : Int) y.parent = !(z.b != y.parent) := by
         rw [hpb, show (y.parent == -1) = false by simp; omega]
         show (!false && (z.b == y.parent)) = !!(z.b == y.parent)
         rw [Bool.not_not]; rfl
        simp only [zN, seval, implies_true, Nat.reduceLeDiff, Nat.reduceEqDiff, reduceCtorEq, reduceIte, intD, (show ¬ (r:Int) < 0 by omega), q0, (show (0:Int) ≤ r by omega), (show ¬ y.parent < 0 by omega), Bool.not_true, Bool.not_false, Bool.false_and, Bool.and_false, Bool.true_and, egz, hrl, (show (r:Int) < l.length by omega)]
        repeat ((with_reducible refine And.intro ?_ ?_); (focus (first | omega | (simp only [lenR]; omega) | (refine qq ?_; rfl) | (refine dq ?_; kernel_rfl) | (intros; simp_all; done))))
        refine ifC.mk (fun h5 => ?_) (fun h5 => ?_)
        ·have hf : parB l (r : Int) y.parent = false := by rw [hpb2, h5]; rfl
         refine ⟨_, _, ret_d, ?_, rfl⟩
         rw [hbad hf]
        ·have hg : parB l (r : Int) y.parent = true := by rw [hpb2, h5]; rfl
         repeat ((with_reducible refine And.intro ?_ ?_); (focus (first | omega | (simp only [lenR]; omega) | (refine qq ?_; rfl) | (refine dq ?_; kernel_rfl) | (intros; simp_all; done))))
         refine ⟨⟨tail_skip hT ht, hgood hg⟩, ?_⟩
         rw [hun]
         refine weak_to [] [0] rfl (by simp) ?_ rfl
         simp only [zN, seval, implies_true, Nat.reduceLeDiff, Nat.reduceEqDiff, reduceCtorEq, reduceIte, intD, @a_wrap ((k:Int) + 1) (by omega)]
         try rfl
       ·have hf : parB l (r : Int) y.parent = false := by
         rw [hpb, show (y.parent == -1) = true by simp; omega]; rfl
        simp only [zN, seval, implies_true, Nat.reduceLeDiff, Nat.reduceEqDiff, reduceCtorEq, reduceIte, intD, (show ¬ (r:Int) < 0 by omega), q0, (show (0:Int) ≤ r by omega), (show y.parent < 0 by omega), Bool.not_true, Bool.not_false, Bool.false_and, Bool.and_false, Bool.true_and]
        repeat ((with_reducible refine And.intro ?_ ?_); (focus (first | omega | (simp only [lenR]; omega) | (refine qq ?_; rfl) | (refine dq ?_; kernel_rfl) | (intros; simp_all; done))))
        refine ⟨_, _, ret_d, ?_, rfl⟩
        rw [hbad hf]
     ·have ht : tkn l a.length k = false := by simpa using ht
      have h0 : ¬ 0 ≤ toF l a.length k := of_decide_eq_false (by rw [toF_tkn]; exact ht)
      simp only [zN, seval, implies_true, Nat.reduceLeDiff, Nat.reduceEqDiff, reduceCtorEq, reduceIte, intD, (show (k:Int) < b.length by omega), toL_len, hk, hgt, h0]
      repeat ((with_reducible refine And.intro ?_ ?_); (focus (first | omega | (simp only [lenR]; omega) | (refine qq ?_; rfl) | (refine dq ?_; kernel_rfl) | (intros; simp_all; done))))
      by_cases hNl : N < l.length
      ·obtain ⟨z, hz⟩ : ∃ z, z = l.getD N default := ⟨_, rfl⟩
       have egz : (l.map PairT.toD).getD N default = z.toD := by rw [a_getD _ _ _ hNl, ← hz]
       simp only [zN, seval, implies_true, Nat.reduceLeDiff, Nat.reduceEqDiff, reduceCtorEq, reduceIte, intD, (show ¬ (l.length:Int) ≤ N by omega), Bool.not_false, egz, hNl, (show (N:Int) < l.length by omega), @a_wrap ((N:Int) + 1) (by omega)]
       repeat ((with_reducible refine And.intro ?_ ?_); (focus (first | omega | (simp only [lenR]; omega) | (refine qq ?_; rfl) | (refine dq ?_; kernel_rfl) | (intros; simp_all; done))))
       (try simp only [zN, seval, implies_true, Nat.reduceLeDiff, Nat.reduceEqDiff, reduceCtorEq, reduceIte, intD, PairT.toD])
       repeat ((with_reducible refine And.intro ?_ ?_); (focus (first | omega | (simp only [lenR]; omega) | (refine qq ?_; rfl) | (refine dq ?_; kernel_rfl) | (intros; simp_all; done))))
       have hzv : (z.a == -1 && z.b == (k : Int)) = decide (z = ⟨-1, (k : Int)⟩) := by
        rw [Bool.eq_iff_iff]
        simp only [Bool.and_eq_true, beq_iff_eq, decide_eq_true_eq]
        cases z; simp
       rw [hzv]
       refine ifC.mk (fun h5 => ?_) (fun h5 => ?_)
       ·have h5 : z ≠ ⟨-1, (k : Int)⟩ := by simpa using h5
        refine ⟨_, _, ret_d, ?_, rfl⟩
        rw [chk_tail (tail_bad hk ht (.inr (by rw [← hN2, ← hz]; exact h5)))]
       ·have h5 : z = ⟨-1, (k : Int)⟩ := by simpa using h5
        have hun : tailN l a.length (k + 1) = N + 1 := by rw [tailN, unt_step, if_neg (by rw [ht]; simp), hN2]; simp; omega
        refine ⟨⟨tail_next hT ht (by omega) (by rw [← hN2, ← hz, h5]), fun k' hk' ht' => ?_⟩, ?_⟩
        ·by_cases e : k' = k
         ·subst e; rw [ht] at ht'; cases ht'
         ·exact hP k' (by omega) ht'
        rw [hun]
        refine weak_to [] [0] rfl (by simp) ?_ rfl
        simp only [zN, seval, implies_true, Nat.reduceLeDiff, Nat.reduceEqDiff, reduceCtorEq, reduceIte, intD, @a_wrap ((k:Int) + 1) (by omega)]
        try rfl
      ·simp only [zN, seval, implies_true, Nat.reduceLeDiff, Nat.reduceEqDiff, reduceCtorEq, reduceIte, intD, (show (l.length:Int) ≤ N by omega), Bool.not_true]
       repeat ((with_reducible refine And.intro ?_ ?_); (focus (first | omega | (simp only [lenR]; omega) | (refine qq ?_; rfl) | (refine dq ?_; kernel_rfl) | (intros; simp_all; done))))
       refine ⟨_, _, ret_d, ?_, rfl⟩
       rw [chk_tail (tail_bad hk ht (.inl (by omega)))]
    ·have : k = b.length := by omega
     subst this
     have hall : (List.range a.length).all (parI a b l) = true := by
      rw [List.all_eq_true]
      intro i hi'
      have hi2 : i < a.length := by simpa using hi'
      rw [parI]
      by_cases h0 : pb l i < 0
      ·simp [h0]
      ·have hp := all_ok hi hi2
       simp only [preI, Bool.and_eq_true, decide_eq_true_eq] at hp
       obtain ⟨q, hq⟩ : ∃ q : Nat, pb l i = q := ⟨(pb l i).toNat, by omega⟩
       have hqm : q < b.length := by omega
       have htk : tkn l a.length q = true := List.any_eq_true.2 ⟨i, hi', by simp [hq]⟩
       have := hP q hqm htk
       rw [toF_inj hi hi2 hq (by omega), show ((i : Int)).toNat = i by omega] at this
       rw [hq, show ((q : Int)).toNat = q by omega, this]; simp
     have hca := chk_all h1 h2 h3 hi hall hT
     simp only [zN, seval, implies_true, Nat.reduceLeDiff, Nat.reduceEqDiff, reduceCtorEq, reduceIte, intD, (show ¬ (b.length:Int) < b.length by omega)]
     refine ⟨_, _, ret_d, ?_, rfl⟩
     rw [hca, List.length_drop]
     congr 2
     have : ((N : Int) == (l.length : Int)) = decide (l.length - a.length = (unt l a.length b.length).length) := by
      rw [Bool.eq_iff_iff, beq_iff_eq, decide_eq_true_eq]; omega
     exact this
end YtfmbadfdbjhekaaDoor
end Go.Proofs
