/- A part of the proof: contracts of functions of this seat, and lemmas. No condition beyond those stated. -/
import Derived.Test.YtfmbadfdbjhekaaDoorWdng
set_option linter.unusedVariables false
set_option linter.unusedSimpArgs false
set_option linter.unusedSectionVars false
set_option linter.unnecessarySimpa false
set_option maxRecDepth 100000
namespace Go.Proofs
open Go.AM
namespace YtfmbadfdbjhekaaDoor
variable {Gl : Globs}
theorem find_step {α : Type} [Inhabited α] (P : α → Bool) (y : List α) {j : Nat} (h : j < y.length) : (y.take (j + 1)).find? P = ((y.take j).find? P).or (if P (y.getD j default) = true then some (y.getD j default) else none) := by
 rw [take_step y j h, List.find?_append]
 congr 1
 by_cases e : P (y.getD j default) = true
 ·rw [if_pos e, List.find?_cons_of_pos e]
 ·rw [if_neg e, List.find?_cons_of_neg e, List.find?_nil]
theorem take_lt {l : List Nat} (h : l.Pairwise (· < ·)) {j q : Nat} (hj : j < l.length) (hq : q ∈ l.take j) : q < l.getD j default := by
 obtain ⟨i, hi, e⟩ := List.mem_iff_getElem.1 hq
 rw [List.length_take] at hi
 have := List.pairwise_iff_getElem.1 h i j (by omega) hj (by omega)
 rw [List.getElem_take] at e
 rw [List.getD_eq_getElem?_getD, List.getElem?_eq_getElem hj, Option.getD_some, ← e]
 exact this
theorem sz_ph1 {a b : List NodeT} {y : List Nat} : ∀ (x : List Nat) {s : Al}, Sz a b s → Sz a b (ph1 a b y x s)
 | [], _, h => h
 | p :: x, _, h => sz_ph1 x (h.op p _)
theorem sz_ph2 {a b : List NodeT} {y : List Nat} : ∀ (x : List Nat) {s : Al}, Sz a b s → Sz a b (ph2 a b y x s)
 | [], _, h => h
 | p :: x, _, h => sz_ph2 x (h.op p _)
theorem sz_foldl {a b : List NodeT} {g : Al → Nat → Al} (hg : ∀ s p, Sz a b s → Sz a b (g s p)) : ∀ (x : List Nat) {s : Al}, Sz a b s → Sz a b (x.foldl g s)
 | [], _, h => h
 | p :: x, _, h => sz_foldl hg x (hg _ p h)
theorem sz_align {a b : List NodeT} : ∀ (f : Nat) (i k : Int) {s : Al}, Sz a b s → Sz a b (alignF a b f i k s)
 | 0, _, _, _, h => h
 | f + 1, i, k, s, h => by
  rw [alignF]
  refine sz_foldl (fun s p hs => ?_) _ (sz_ph2 _ (sz_ph1 _ h))
  show Sz a b (if 0 ≤ s.b p then alignF a b f p (s.b p) s else s)
  split
  ·exact sz_align f _ _ hs
  ·exact hs
theorem ph1_step (a b : List NodeT) (y x : List Nat) (s : Al) {j : Nat} (h : j < x.length) : ph1 a b y (x.take (j + 1)) s = opS (ph1 a b y (x.take j) s) (x.getD j default) (c1 a b y (x.getD j default)) := by
 rw [take_step x j h, ph1, List.foldl_append]; rfl
theorem ph2_step (a b : List NodeT) (y x : List Nat) (s : Al) {j : Nat} (h : j < x.length) : ph2 a b y (x.take (j + 1)) s = opS (ph2 a b y (x.take j) s) (x.getD j default) (c2 a b y (ph2 a b y (x.take j) s) (x.getD j default)) := by
 rw [take_step x j h, ph2, List.foldl_append]; rfl
theorem foldl_step {β : Type} (g : β → Nat → β) (x : List Nat) (s : β) {j : Nat} (h : j < x.length) : (x.take (j + 1)).foldl g s = g ((x.take j).foldl g s) (x.getD j default) := by
 rw [take_step x j h, List.foldl_append]; rfl
theorem c1_step {a b : List NodeT} (hB : Tr b) (k : Int) (s : Al) (p : Nat) {j : Nat} (h : j < (kids b k).length) :
  opS s p (((kids b k).take (j + 1)).find? fun q => nm b q == nm a p) = if nm a p = nm b ((kids b k).getD j default) then pairS (opS s p (((kids b k).take j).find? fun q => nm b q == nm a p)) p ((kids b k).getD j default) else opS s p (((kids b k).take j).find? fun q => nm b q == nm a p) := by
 rw [find_step _ _ h]
 by_cases e : nm a p = nm b ((kids b k).getD j default)
 ·rw [if_pos e, if_pos (by simp [e])]
  have hn : ((kids b k).take j).find? (fun q => nm b q == nm a p) = none := by
   rw [List.find?_eq_none]
   intro q hq hne
   have hne : nm b q = nm a p := by simpa using hne
   have h1 := kids_name hB (List.mem_of_mem_take hq) (mem_getD h) (hne.trans e)
   have h2 := take_lt (kids_sorted b k) h hq
   omega
  rw [hn]; rfl
 ·have e2 : ¬ (nm b ((kids b k).getD j default) == nm a p) = true := fun g => e (by simpa using g : nm b ((kids b k).getD j default) = nm a p).symm
  rw [if_neg e, if_neg e2, Option.or_none]
theorem find_of_take {α : Type} (P : α → Bool) (y : List α) (n : Nat) {r : α} (h : (y.take n).find? P = some r) : y.find? P = some r := by
 conv => lhs; rw [← List.take_append_drop n y]
 rw [List.find?_append, h]; rfl
set_option maxHeartbeats 4000000 in
theorem k_Ralign (a b : List NodeT) (ha : a.length ≤ 100) (hb : b.length ≤ 100) (hca : checkF a = 0) (hcb : checkF b = 0) : ∀ (f : Nat) (i k : Int) (s : Al), (a.length : Int) ≤ f + i → -1 ≤ i → i < a.length → Sz a b s →
  ACalls Tryd.prog Gl 31 [.ptr 0 0, .d (.int .i64 i), .d (.int .i64 k)] (stR a b s) (fun r s' => r = .tup [] ∧ s' = stR a b (alignF a b f i k s)) := by
 have hA := Tr.of hca
 have hB := Tr.of hcb
 intro f
 induction f with
 | zero =>
  intro i k s hf hi hi2 hs
  omega
 | succ f ih =>
  intro i k s hf hi hi2 hs
  obtain ⟨x, hx⟩ : ∃ x, x = kids a i := ⟨_, rfl⟩
  obtain ⟨y, hy⟩ : ∃ y, y = kids b k := ⟨_, rfl⟩
  have hxl : ∀ p ∈ x, p < a.length := fun p hp => by rw [hx] at hp; exact kids_lt hp
  have hyl : ∀ q ∈ y, q < b.length := fun q hq => by rw [hy] at hq; exact kids_lt hq
  have hxn : x.length ≤ 100 := by rw [hx]; exact Nat.le_trans (kidsN_len a i a.length) ha
  have hyn : y.length ≤ 100 := by rw [hy]; exact Nat.le_trans (kidsN_len b k b.length) hb
  refine acalls_of Tryd.func31 rfl rfl (by simp [Tryd.ntmps31]) (evC_sound rfl _ _ _ _ ?_)
  simp only [Tryd.ntmps31, Tryd.results31, argEnv, List.length_nil]
  simp only [zN, seval, implies_true, Nat.reduceLeDiff, Nat.reduceEqDiff, reduceCtorEq, reduceIte, stR, intD]
  repeat ((with_reducible refine And.intro ?_ ?_); (focus (first | omega | (simp only [lenR]; omega) | (refine qq ?_; rfl) | (refine dq ?_; kernel_rfl) | (intros; simp_all; done))))
  refine callF_pure (k_children a (by omega) i) ?_
  simp only [zN, seval, implies_true, Nat.reduceLeDiff, Nat.reduceEqDiff, reduceCtorEq, reduceIte, stR, intD]
  repeat ((with_reducible refine And.intro ?_ ?_); (focus (first | omega | (simp only [lenR]; omega) | (refine qq ?_; rfl) | (refine dq ?_; kernel_rfl) | (intros; simp_all; done))))
  refine callF_pure (k_children b (by omega) k) ?_
  simp only [zN, seval, implies_true, Nat.reduceLeDiff, Nat.reduceEqDiff, reduceCtorEq, reduceIte, stR, intD, ← hx, ← hy]
  refine for_of x.length (fun j => [(0, .ptr 0 0), (6, .d (.sl (x.map intD))), (7, .d (.sl (y.map intD))), (8, .d (.int .i64 j))]) (fun j => stR a b (ph1 a b y (x.take j) s)) (fun _ => True) trivial ?_ ?_
  ·refine weak_to [] [0, 1, 2] rfl (by simp) ?_ rfl
   simp only [zN, seval, implies_true, Nat.reduceLeDiff, Nat.reduceEqDiff, reduceCtorEq, reduceIte, stR, intD, Int.cast_ofNat_Int]
   done
  ·intro j _ hj
   by_cases h : j < x.length
   ·obtain ⟨p, hp⟩ : ∃ p, p = x.getD j default := ⟨_, rfl⟩
    have hpl : p < a.length := by rw [hp]; exact hxl _ (mem_getD h)
    obtain ⟨s1, hs1⟩ : ∃ s1, s1 = ph1 a b y (x.take j) s := ⟨_, rfl⟩
    have hz1 : Sz a b s1 := by rw [hs1]; exact sz_ph1 _ hs
    have hst := ph1_step a b y x s h
    rw [← hp, ← hs1] at hst
    have gx : (x.map intD).getD j default = .int .i64 p := by rw [a_getD _ _ _ h, ← hp]; rfl
    have gp : (a.map NodeT.toD).getD p default = (a.getD p default).toD := a_getD _ _ _ hpl
    have np : nm a p = (a.getD p default).name := rfl
    rw [← hs1, hst]
    simp only [zN, seval, implies_true, Nat.reduceLeDiff, Nat.reduceEqDiff, reduceCtorEq, reduceIte, stR, intD, (show (j:Int) < x.length by omega)]
    refine for_of y.length (fun q => [(0, .ptr 0 0), (6, .d (.sl (x.map intD))), (7, .d (.sl (y.map intD))), (8, .d (.int .i64 j)), (9, .d (.int .i64 q))]) (fun q => stR a b (opS s1 p ((y.take q).find? fun q => nm b q == nm a p))) (fun _ => True) trivial ?_ ?_
    ·refine weak_to [] [0, 1, 2] rfl (by simp) ?_ rfl
     simp only [zN, seval, implies_true, Nat.reduceLeDiff, Nat.reduceEqDiff, reduceCtorEq, reduceIte, stR, intD, Int.cast_ofNat_Int]
    ·intro q _ hq
     obtain ⟨s2, hs2⟩ : ∃ s2, s2 = opS s1 p ((y.take q).find? fun q => nm b q == nm a p) := ⟨_, rfl⟩
     have hz2 : Sz a b s2 := by rw [hs2]; exact hz1.op _ _
     rw [← hs2]
     by_cases h2 : q < y.length
     ·obtain ⟨r, hr⟩ : ∃ r, r = y.getD q default := ⟨_, rfl⟩
      have hrl : r < b.length := by rw [hr]; exact hyl _ (mem_getD h2)
      have gy : (y.map intD).getD q default = .int .i64 r := by rw [a_getD _ _ _ h2, ← hr]; rfl
      have gr : (b.map NodeT.toD).getD r default = (b.getD r default).toD := a_getD _ _ _ hrl
      have nr : nm b r = (b.getD r default).name := rfl
      have hcs := c1_step (a := a) hB k s1 p (j := q) (by rw [← hy]; exact h2)
      rw [← hy, ← hr, ← hs2] at hcs
      rw [hcs]
      simp only [zN, seval, implies_true, Nat.reduceLeDiff, Nat.reduceEqDiff, reduceCtorEq, reduceIte, stR, intD, (show (q:Int) < y.length by omega), (show (j:Int) < x.length by omega), h, h2, gx, gy, gp, gr, hpl, hrl, (show (p:Int) < a.length by omega), (show (r:Int) < b.length by omega)]
      repeat ((with_reducible refine And.intro ?_ ?_); (focus (first | omega | (simp only [lenR]; omega) | (refine qq ?_; rfl) | (refine dq ?_; kernel_rfl) | (intros; simp_all; done))))
      refine ifC.mk (fun h3 => ?_) (fun h3 => ?_)
      ·have h3 : nm a p = nm b r := by rw [np, nr]; simpa using h3
       rw [if_pos h3]
       repeat ((with_reducible refine And.intro ?_ ?_); (focus (first | omega | (simp only [lenR]; omega) | (refine qq ?_; rfl) | (refine dq ?_; kernel_rfl) | (intros; simp_all; done))))
       (try simp only [zN, seval, implies_true, Nat.reduceLeDiff, Nat.reduceEqDiff, reduceCtorEq, reduceIte, stR, intD, h, h2, gx, gy, (show (q:Int) < y.length by omega), (show (j:Int) < x.length by omega)])
       repeat ((with_reducible refine And.intro ?_ ?_); (focus (first | omega | (simp only [lenR]; omega) | (refine qq ?_; rfl) | (refine dq ?_; kernel_rfl) | (intros; simp_all; done))))
       refine callF_last (by kernel_rfl) ((k_Rpair a b (by omega) (by omega) s2 hz2 p r hpl hrl).mono fun r' s' hrs => ?_)
       obtain ⟨rfl, rfl⟩ := hrs
       simp only [zN, seval, implies_true, Nat.reduceLeDiff, Nat.reduceEqDiff, reduceCtorEq, reduceIte, stR, intD]
       refine weak_to [] [0, 1, 2] rfl (by simp) ?_ rfl
       simp only [zN, seval, implies_true, Nat.reduceLeDiff, Nat.reduceEqDiff, reduceCtorEq, reduceIte, stR, intD, @a_wrap ((q:Int) + 1) (by omega)]
      ·have h3 : ¬ nm a p = nm b r := by rw [np, nr]; simpa using h3
       rw [if_neg h3]
       refine weak_to [] [0, 1, 2] rfl (by simp) ?_ rfl
       simp only [zN, seval, implies_true, Nat.reduceLeDiff, Nat.reduceEqDiff, reduceCtorEq, reduceIte, stR, intD, @a_wrap ((q:Int) + 1) (by omega)]
     ·have : q = y.length := by omega
      subst this
      have hc1 : c1 a b y p = (y.take y.length).find? fun q => nm b q == nm a p := by rw [List.take_length]; rfl
      rw [← hc1] at hs2
      rw [← hs2]
      simp only [zN, seval, implies_true, Nat.reduceLeDiff, Nat.reduceEqDiff, reduceCtorEq, reduceIte, stR, intD, (show ¬ (y.length:Int) < y.length by omega)]
      refine ⟨h, ?_⟩
      refine weak_to [] [0, 1, 2] rfl (by simp) ?_ rfl
      simp only [zN, seval, implies_true, Nat.reduceLeDiff, Nat.reduceEqDiff, reduceCtorEq, reduceIte, stR, intD, @a_wrap ((j:Int) + 1) (by omega)]
   ·have : j = x.length := by omega
    subst this
    rw [List.take_length]
    obtain ⟨s1, hs1⟩ : ∃ s1, s1 = ph1 a b y x s := ⟨_, rfl⟩
    have hz1 : Sz a b s1 := by rw [hs1]; exact sz_ph1 _ hs
    rw [← hs1]
    simp only [zN, seval, implies_true, Nat.reduceLeDiff, Nat.reduceEqDiff, reduceCtorEq, reduceIte, stR, intD, (show ¬ (x.length:Int) < x.length by omega)]
    refine for_of x.length (fun j => [(0, .ptr 0 0), (6, .d (.sl (x.map intD))), (7, .d (.sl (y.map intD))), (10, .d (.int .i64 j))]) (fun j => stR a b (ph2 a b y (x.take j) s1)) (fun _ => True) trivial ?_ ?_
    ·refine weak_to [] [0, 1, 2] rfl (by simp) ?_ rfl
     simp only [zN, seval, implies_true, Nat.reduceLeDiff, Nat.reduceEqDiff, reduceCtorEq, reduceIte, stR, intD, Int.cast_ofNat_Int]
    ·intro j _ hj
     by_cases h : j < x.length
     ·obtain ⟨p, hp⟩ : ∃ p, p = x.getD j default := ⟨_, rfl⟩
      have hpl : p < a.length := by rw [hp]; exact hxl _ (mem_getD h)
      obtain ⟨s2, hs2⟩ : ∃ s2, s2 = ph2 a b y (x.take j) s1 := ⟨_, rfl⟩
      have hz2 : Sz a b s2 := by rw [hs2]; exact sz_ph2 _ hz1
      have hst := ph2_step a b y x s1 h
      rw [← hp, ← hs2] at hst
      have gx : (x.map intD).getD j default = .int .i64 p := by rw [a_getD _ _ _ h, ← hp]; rfl
      rw [← hs2, hst]
      simp only [zN, seval, implies_true, Nat.reduceLeDiff, Nat.reduceEqDiff, reduceCtorEq, reduceIte, stR, intD, (show (j:Int) < x.length by omega), h, gx]
      repeat ((with_reducible refine And.intro ?_ ?_); (focus (first | omega | (simp only [lenR]; omega) | (refine qq ?_; rfl) | (refine dq ?_; kernel_rfl) | (intros; simp_all; done))))
      refine callF_pure (k_Rshape a ha hca p hpl) ?_
      simp only [zN, seval, implies_true, Nat.reduceLeDiff, Nat.reduceEqDiff, reduceCtorEq, reduceIte, stR, intD]
      obtain ⟨P, hP⟩ : ∃ P : Nat → Bool, P = fun q => decide (s2.a q < 0) && (shp b q == shp a p) := ⟨_, rfl⟩
      have hc2 : c2 a b y s2 p = if s2.b p < 0 ∧ shp a p ≠ [] then y.find? P else none := by rw [hP]; rfl
      have hsl : (shp a p).length ≤ 100 := Nat.le_trans (shTo_len a p a.length) ha
      refine loop_of (τ := Nat × Al) (fun u => [(0, .ptr 0 0), (6, .d (.sl (x.map intD))), (7, .d (.sl (y.map intD))), (10, .d (.int .i64 j)), (11, .d (.sl ((shp a p).map .str))), (12, .d (.int .i64 u.1))]) (fun u => stR a b u.2)
       (fun u => u.1 ≤ y.length ∧ ((u.2 = s2 ∧ (y.take u.1).find? P = none) ∨ ∃ r, c2 a b y s2 p = some r ∧ u.2 = pairS s2 p r)) (fun u => y.length - u.1) (0, s2) ⟨Nat.zero_le _, .inl ⟨rfl, rfl⟩⟩ ?_ ?_
      ·refine weak_to [] [0, 1, 2] rfl (by simp) ?_ rfl
       simp only [zN, seval, implies_true, Nat.reduceLeDiff, Nat.reduceEqDiff, reduceCtorEq, reduceIte, stR, intD, Int.cast_ofNat_Int]
      ·rintro ⟨q, t⟩ ⟨hq, hI⟩
       simp only at hq hI
       have hzt : Sz a b t := by
        rcases hI with ⟨rfl, _⟩ | ⟨r, hr, rfl⟩
        ·exact hz2
        ·exact hz2.op p (some r)
       have gb := b_get (s := t) (p := p) (by rw [hzt.1]; exact hpl)
       have hpt : p < t.toB.length := by rw [hzt.1]; exact hpl
       simp only [zN, seval, implies_true, Nat.reduceLeDiff, Nat.reduceEqDiff, reduceCtorEq, reduceIte, stR, intD, h, gx, gb, hpt, (show (j:Int) < x.length by omega), (show (p:Int) < a.length by omega)]
       repeat ((with_reducible refine And.intro ?_ ?_); (focus (first | omega | (simp only [lenR]; omega) | (refine qq ?_; rfl) | (refine dq ?_; kernel_rfl) | (intros; simp_all; done))))
       refine ifC.mk (fun hc => ?_) (fun hc => ?_)
       ·have hc' : ((q < y.length) ∧ 0 < (shp a p).length) ∧ t.b p < 0 := by
         simp only [Bool.and_eq_true, decide_eq_true_eq] at hc; omega
        obtain ⟨⟨hql, hsp⟩, htb⟩ := hc'
        rcases hI with ⟨rfl, hn⟩ | ⟨r, hr, rfl⟩
        rotate_left
        ·exfalso
         have : (pairS s2 p r).b p = r := by rw [pair_b (by rw [hz2.1]; exact hpl), if_pos rfl]
         omega
        have hcc : c2 a b y t p = y.find? P := by rw [hc2, if_pos ⟨htb, fun e => by rw [e] at hsp; simp at hsp⟩]
        obtain ⟨r, hr⟩ : ∃ r, r = y.getD q default := ⟨_, rfl⟩
        have hrl : r < b.length := by rw [hr]; exact hyl _ (mem_getD hql)
        have gy : (y.map intD).getD q default = .int .i64 r := by rw [a_getD _ _ _ hql, ← hr]; rfl
        have ga := a_get (s := t) (p := r) (by rw [hz2.2]; exact hrl)
        have hra : r < t.toA.length := by rw [hz2.2]; exact hrl
        have hPr : P r = (decide (t.a r < 0) && (shp b r == shp a p)) := by rw [hP]
        have hfs := find_step P y hql
        rw [← hr, hn, Option.none_or, hPr] at hfs
        have hsl2 : (shp b r).length ≤ 100 := Nat.le_trans (shTo_len b r b.length) hb
        simp only [zN, seval, implies_true, Nat.reduceLeDiff, Nat.reduceEqDiff, reduceCtorEq, reduceIte, stR, intD, hql, gy, ga, hra, (show (q:Int) < y.length by omega), (show (r:Int) < b.length by omega)]
        repeat ((with_reducible refine And.intro ?_ ?_); (focus (first | omega | (simp only [lenR]; omega) | (refine qq ?_; rfl) | (refine dq ?_; kernel_rfl) | (intros; simp_all; done))))
        refine callG_pure (fun _ => k_Rshape b hb hcb r hrl) ?_
        simp only [zN, seval, implies_true, Nat.reduceLeDiff, Nat.reduceEqDiff, reduceCtorEq, reduceIte, stR, intD]
        refine callG_pure (fun _ => k_SameTexts (shp a p) (shp b r) (by omega) (by omega)) ?_
        simp only [zN, seval, implies_true, Nat.reduceLeDiff, Nat.reduceEqDiff, reduceCtorEq, reduceIte, stR, intD]
        repeat ((with_reducible refine And.intro ?_ ?_); (focus (first | omega | (simp only [lenR]; omega) | (refine qq ?_; rfl) | (refine dq ?_; kernel_rfl) | (intros; simp_all; done))))
        have hdec : (decide (t.a r < 0) && decide (shp a p = shp b r)) = (decide (t.a r < 0) && (shp b r == shp a p)) := by
         congr 1
         rw [Bool.eq_iff_iff, decide_eq_true_iff, beq_iff_eq]; exact eq_comm
        rw [hdec]
        refine ifC.mk (fun hd => ?_) (fun hd => ?_)
        ·rw [if_pos hd] at hfs
         repeat ((with_reducible refine And.intro ?_ ?_); (focus (first | omega | (simp only [lenR]; omega) | (refine qq ?_; rfl) | (refine dq ?_; kernel_rfl) | (intros; simp_all; done))))
         (try simp only [zN, seval, implies_true, Nat.reduceLeDiff, Nat.reduceEqDiff, reduceCtorEq, reduceIte, stR, intD, h, hql, gx, gy, (show (q:Int) < y.length by omega), (show (j:Int) < x.length by omega)])
         repeat ((with_reducible refine And.intro ?_ ?_); (focus (first | omega | (simp only [lenR]; omega) | (refine qq ?_; rfl) | (refine dq ?_; kernel_rfl) | (intros; simp_all; done))))
         refine callF_last (by kernel_rfl) ((k_Rpair a b (by omega) (by omega) t hz2 p r hpl hrl).mono fun r' s' hrs => ?_)
         obtain ⟨rfl, rfl⟩ := hrs
         simp only [zN, seval, implies_true, Nat.reduceLeDiff, Nat.reduceEqDiff, reduceCtorEq, reduceIte, stR, intD]
         refine ⟨(q + 1, pairS t p r), ⟨hql, .inr ⟨r, by rw [hcc]; exact find_of_take P y (q + 1) hfs, rfl⟩⟩, by simp only; omega, ?_⟩
         refine weak_to [] [0, 1, 2] rfl (by simp) ?_ rfl
         simp only [zN, seval, implies_true, Nat.reduceLeDiff, Nat.reduceEqDiff, reduceCtorEq, reduceIte, stR, intD, @a_wrap ((q:Int) + 1) (by omega)]
        ·rw [if_neg (by rw [hd]; simp)] at hfs
         refine ⟨(q + 1, t), ⟨hql, .inl ⟨rfl, hfs⟩⟩, by simp only; omega, ?_⟩
         refine weak_to [] [0, 1, 2] rfl (by simp) ?_ rfl
         simp only [zN, seval, implies_true, Nat.reduceLeDiff, Nat.reduceEqDiff, reduceCtorEq, reduceIte, stR, intD, @a_wrap ((q:Int) + 1) (by omega)]
       ·have hc' : ¬ (((q < y.length) ∧ 0 < (shp a p).length) ∧ t.b p < 0) := fun g => by
         rw [Bool.eq_false_iff] at hc
         apply hc
         simp only [Bool.and_eq_true, decide_eq_true_eq]; omega
        have hfin : t = opS s2 p (c2 a b y s2 p) := by
         rcases hI with ⟨rfl, hn⟩ | ⟨r, hr, rfl⟩
         ·have : c2 a b y t p = none := by
           rw [hc2]
           split
           ·rename_i g
            have : q = y.length := by
             have hp0 : 0 < (shp a p).length := List.length_pos_iff.2 g.2
             have : ¬ q < y.length := fun g2 => hc' ⟨⟨g2, hp0⟩, g.1⟩
             omega
            rw [this, List.take_length] at hn
            exact hn
           ·rfl
          rw [this]; rfl
         ·rw [hr]; rfl
        rw [← hfin]
        refine weak_to [] [0, 1, 2] rfl (by simp) ?_ rfl
        simp only [zN, seval, implies_true, Nat.reduceLeDiff, Nat.reduceEqDiff, reduceCtorEq, reduceIte, stR, intD, @a_wrap ((j:Int) + 1) (by omega)]
     ·have : j = x.length := by omega
      subst this
      rw [List.take_length]
      obtain ⟨s2, hs2⟩ : ∃ s2, s2 = ph2 a b y x s1 := ⟨_, rfl⟩
      have hz2 : Sz a b s2 := by rw [hs2]; exact sz_ph2 _ hz1
      rw [← hs2]
      obtain ⟨g, hg⟩ : ∃ g : Al → Nat → Al, g = fun (s : Al) (p : Nat) => if 0 ≤ s.b p then alignF a b f p (s.b p) s else s := ⟨_, rfl⟩
      have hgz : ∀ s p, Sz a b s → Sz a b (g s p) := fun s p h => by
       rw [hg]
       show Sz a b (if 0 ≤ s.b p then alignF a b f p (s.b p) s else s)
       split
       ·exact sz_align f _ _ h
       ·exact h
      have hfin : alignF a b (f + 1) i k s = x.foldl g s2 := by rw [hs2, hs1, hx, hy, hg]; rfl
      rw [hfin]
      simp only [zN, seval, implies_true, Nat.reduceLeDiff, Nat.reduceEqDiff, reduceCtorEq, reduceIte, stR, intD, (show ¬ (x.length:Int) < x.length by omega)]
      refine for_of x.length (fun j => [(0, .ptr 0 0), (6, .d (.sl (x.map intD))), (13, .d (.int .i64 j))]) (fun j => stR a b ((x.take j).foldl g s2)) (fun _ => True) trivial ?_ ?_
      ·refine weak_to [] [0, 1, 2] rfl (by simp) ?_ rfl
       simp only [zN, seval, implies_true, Nat.reduceLeDiff, Nat.reduceEqDiff, reduceCtorEq, reduceIte, stR, intD, Int.cast_ofNat_Int]
      ·intro j _ hj
       by_cases h : j < x.length
       ·obtain ⟨p, hp⟩ : ∃ p, p = x.getD j default := ⟨_, rfl⟩
        have hpx : p ∈ x := by rw [hp]; exact mem_getD h
        have hpl : p < a.length := hxl p hpx
        obtain ⟨t, ht⟩ : ∃ t, t = (x.take j).foldl g s2 := ⟨_, rfl⟩
        have hzt : Sz a b t := by rw [ht]; exact sz_foldl hgz _ hz2
        have hst := foldl_step g x s2 h
        rw [← hp, ← ht] at hst
        have gx : (x.map intD).getD j default = .int .i64 p := by rw [a_getD _ _ _ h, ← hp]; rfl
        have gb := b_get (s := t) (p := p) (by rw [hzt.1]; exact hpl)
        have hpt : p < t.toB.length := by rw [hzt.1]; exact hpl
        have hgt : g t p = if 0 ≤ t.b p then alignF a b f p (t.b p) t else t := by rw [hg]
        rw [← ht, hst, hgt]
        simp only [zN, seval, implies_true, Nat.reduceLeDiff, Nat.reduceEqDiff, reduceCtorEq, reduceIte, stR, intD, (show (j:Int) < x.length by omega), h, gx, gb, hpt, (show (p:Int) < a.length by omega)]
        repeat ((with_reducible refine And.intro ?_ ?_); (focus (first | omega | (simp only [lenR]; omega) | (refine qq ?_; rfl) | (refine dq ?_; kernel_rfl) | (intros; simp_all; done))))
        refine ifC.mk (fun hc => ?_) (fun hc => ?_)
        ·have hc : 0 ≤ t.b p := of_decide_eq_true hc
         rw [if_pos hc]
         repeat ((with_reducible refine And.intro ?_ ?_); (focus (first | omega | (simp only [lenR]; omega) | (refine qq ?_; rfl) | (refine dq ?_; kernel_rfl) | (intros; simp_all; done))))
         (try simp only [zN, seval, implies_true, Nat.reduceLeDiff, Nat.reduceEqDiff, reduceCtorEq, reduceIte, stR, intD, h, gx, gb, hpt, (show (j:Int) < x.length by omega), (show (p:Int) < a.length by omega)])
         repeat ((with_reducible refine And.intro ?_ ?_); (focus (first | omega | (simp only [lenR]; omega) | (refine qq ?_; rfl) | (refine dq ?_; kernel_rfl) | (intros; simp_all; done))))
         have hpi : i < p := by
          rw [hx] at hpx
          have h1 := (mem_kids.1 hpx).2
          have h2 := (tree_par hA.up hpl).2
          omega
         refine callF_last (by kernel_rfl) ((ih p (t.b p) t (by omega) (by omega) (by omega) hzt).mono fun r' s' hrs => ?_)
         obtain ⟨rfl, rfl⟩ := hrs
         simp only [zN, seval, implies_true, Nat.reduceLeDiff, Nat.reduceEqDiff, reduceCtorEq, reduceIte, stR, intD]
         refine weak_to [] [0, 1, 2] rfl (by simp) ?_ rfl
         simp only [zN, seval, implies_true, Nat.reduceLeDiff, Nat.reduceEqDiff, reduceCtorEq, reduceIte, stR, intD, @a_wrap ((j:Int) + 1) (by omega)]
        ·have hc : ¬ 0 ≤ t.b p := of_decide_eq_false hc
         rw [if_neg hc]
         refine weak_to [] [0, 1, 2] rfl (by simp) ?_ rfl
         simp only [zN, seval, implies_true, Nat.reduceLeDiff, Nat.reduceEqDiff, reduceCtorEq, reduceIte, stR, intD, @a_wrap ((j:Int) + 1) (by omega)]
       ·have : j = x.length := by omega
        subst this
        rw [List.take_length]
        simp only [zN, seval, implies_true, Nat.reduceLeDiff, Nat.reduceEqDiff, reduceCtorEq, reduceIte, stR, intD, (show ¬ (x.length:Int) < x.length by omega)]
        refine ⟨_, _, weakR_to [] [0, 1, 2] rfl (by simp) rfl rfl, rfl, rfl⟩
end YtfmbadfdbjhekaaDoor
end Go.Proofs
