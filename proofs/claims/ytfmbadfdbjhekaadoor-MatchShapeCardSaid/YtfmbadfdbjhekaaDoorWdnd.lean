/- A part of the proof: contracts of functions of this seat, and lemmas. No condition beyond those stated. -/
import Derived.Test.YtfmbadfdbjhekaaDoorWdnc
set_option linter.unusedVariables false
set_option linter.unusedSimpArgs false
set_option linter.unusedSectionVars false
set_option linter.unnecessarySimpa false
set_option maxRecDepth 100000
namespace Go.Proofs
open Go.AM
namespace YtfmbadfdbjhekaaDoor
variable {Gl : Globs}
theorem k_Rranges (l : List NodeT) (hl : l.length ≤ 2000) : Pure Tryd.prog Gl 47 [.d (.sl (l.map NodeT.toD))] (.d (.int .i64 (rangesF l))) := by
 refine Pure.of1 ?_
 refine acalls_of Tryd.func47 rfl rfl (by simp [Tryd.ntmps47]) (evC_sound rfl _ _ _ _ ?_)
 simp only [Tryd.ntmps47, Tryd.results47, argEnv, List.length_nil]
 simp only [zN, seval, implies_true, Nat.reduceLeDiff, Nat.reduceEqDiff, reduceCtorEq, reduceIte]
 refine for_of l.length (fun k => [(0, .d (.sl (l.map NodeT.toD))), (3, .d (.int .i64 (selfS (l.take k)))), (4, .d (.int .i64 (countS (l.take k)))), (5, .d (.int .i64 k))]) (fun _ => []) (fun k => firstErr (fun k => nodeE (l.getD k default)) k = 0) rfl ?_ ?_
 ·refine weak_to [] [] rfl List.nodup_nil ?_ rfl
  simp only [zN, seval, implies_true, Nat.reduceLeDiff, Nat.reduceEqDiff, reduceCtorEq, reduceIte, Int.cast_ofNat_Int]
  rfl
 ·intro k hi hk
  obtain ⟨b1, b2, b3, b4⟩ := sums_take hk hi
  by_cases h : k < l.length
  ·obtain ⟨x, hx⟩ : ∃ x, x = l.getD k default := ⟨_, rfl⟩
   have hs1 := selfS_step l h
   have hs2 := countS_step l h
   rw [← hx] at hs1 hs2
   simp only [zN, seval, implies_true, Nat.reduceLeDiff, Nat.reduceEqDiff, reduceCtorEq, reduceIte, (show (k:Int) < l.length by omega), h, a_getD _ _ _ (show k < l.length by omega)]
   rw [← hx]
   repeat ((with_reducible refine And.intro ?_ ?_); (focus (first | omega | (simp only [lenR]; omega) | (refine qq ?_; rfl) | (refine dq ?_; kernel_rfl) | (intros; simp_all; done))))
   refine callF_pure (k_RName _) ?_
   simp only [zN, seval, implies_true, Nat.reduceLeDiff, Nat.reduceEqDiff, reduceCtorEq, reduceIte]
   repeat ((with_reducible refine And.intro ?_ ?_); (focus (first | omega | (simp only [lenR]; omega) | (refine qq ?_; rfl) | (refine dq ?_; kernel_rfl) | (intros; simp_all; done))))
   refine ifC.mk (fun h1 => ?_) (fun h1 => ?_)
   ·have h1 : nameF x.name ≠ 0 := by simpa using h1
    refine ⟨_, _, ret_d, ?_, rfl⟩
    rw [rangesF_bad h hi (e := nameF x.name) (by rw [← hx, nodeE, if_neg h1]) h1]
   have h1 : nameF x.name = 0 := by simpa using h1
   repeat ((with_reducible refine And.intro ?_ ?_); (focus (first | omega | (simp only [lenR]; omega) | (refine qq ?_; rfl) | (refine dq ?_; kernel_rfl) | (intros; simp_all; done))))
   refine ifC.mk (fun h2 => ?_) (fun h2 => ?_)
   ·refine ⟨_, _, ret_d, ?_, rfl⟩
    rw [rangesF_bad h hi (e := 2) (by
     rw [← hx, nodeE, if_pos h1, if_pos]
     simp only [Bool.or_eq_true, Bool.and_eq_true, decide_eq_true_eq, beq_iff_eq, bne_iff_ne] at h2
     omega) (by decide)]
   ·have h2' : ¬ (x.self < 0 ∨ x.self > 100000000000000 ∨ x.count < 0 ∨ x.count > 20000 ∨ (x.count = 0 ∧ x.self ≠ 0)) := fun g => by
     simp only [Bool.or_eq_false_iff, Bool.and_eq_false_iff, decide_eq_false_iff_not, beq_eq_false_iff_ne, bne_eq_false_iff_eq] at h2
     omega
    repeat ((with_reducible refine And.intro ?_ ?_); (focus (first | omega | (simp only [lenR]; omega) | (refine qq ?_; rfl) | (refine dq ?_; kernel_rfl) | (intros; simp_all; done))))
    have hb : nodeE x = 0 := by rw [nodeE, if_pos h1, if_neg h2']
    refine ⟨firstErr_step hi (by rw [← hx]; exact hb), ?_⟩
    rw [hs1, hs2]
    refine weak_to [] [] rfl List.nodup_nil ?_ rfl
    simp only [zN, seval, implies_true, Nat.reduceLeDiff, Nat.reduceEqDiff, reduceCtorEq, reduceIte, @a_wrap ((k:Int) + 1) (by omega), @a_wrap (selfS (l.take k) + x.self) (by omega), @a_wrap (countS (l.take k) + x.count) (by omega)]
  ·simp only [zN, seval, implies_true, Nat.reduceLeDiff, Nat.reduceEqDiff, reduceCtorEq, reduceIte, (show ¬ (k:Int) < l.length by omega)]
   have : k = l.length := by omega
   subst this
   rw [List.take_length] at b1 b2 b3 b4 ⊢
   repeat ((with_reducible refine And.intro ?_ ?_); (focus (first | omega | (simp only [lenR]; omega) | (refine qq ?_; rfl) | (refine dq ?_; kernel_rfl) | (intros; simp_all; done))))
   refine ifC.mk (fun h1 => ?_) (fun h1 => ?_)
   ·refine ⟨_, _, ret_d, ?_, rfl⟩
    rw [rangesF, if_pos hi, if_pos (by simpa using h1)]
   ·refine ⟨_, _, ret_d, ?_, rfl⟩
    rw [rangesF, if_pos hi, if_neg (by simpa using h1)]
theorem k_above (l : List NodeT) {n : Nat} (hn : n ≤ l.length) (ht : TreeUp l n) (p : Int) (hp : 0 ≤ p) (i : Int) (h0 : -1 ≤ i) (hi : i < n) : Pure Tryd.prog Gl 61 [.d (.sl (l.map NodeT.toD)), .d (.int .i64 p), .d (.int .i64 i)] (.d (.bool (upW l p i))) := by
 refine Pure.of3 ?_
 refine acalls_of Tryd.func61 rfl rfl (by simp [Tryd.ntmps61]) (evC_sound rfl _ _ _ _ ?_)
 simp only [Tryd.ntmps61, Tryd.results61, argEnv, List.length_nil]
 simp only [zN, seval, implies_true, Nat.reduceLeDiff, Nat.reduceEqDiff, reduceCtorEq, reduceIte]
 refine loop_of (τ := Int) (fun a => [(0, .d (.sl (l.map NodeT.toD))), (1, .d (.int .i64 p)), (2, .d (.int .i64 a))]) (fun _ => [])
  (fun a => -1 ≤ a ∧ a < n ∧ upW l p a = upW l p i) (fun a => (a + 1).toNat) i ⟨h0, hi, rfl⟩ ?_ ?_
 ·refine weak_to [] [] rfl List.nodup_nil ?_ rfl
  simp only [zN, seval, implies_true, Nat.reduceLeDiff, Nat.reduceEqDiff, reduceCtorEq, reduceIte]
 ·intro a ⟨a1, a2, a3⟩
  simp only [zN, seval, implies_true, Nat.reduceLeDiff, Nat.reduceEqDiff, reduceCtorEq, reduceIte]
  refine ifC.mk (fun h1 => ?_) (fun h1 => ?_)
  ·have h1 : 0 ≤ a ∧ a ≠ p := by simpa using h1
   have ha : a.toNat < l.length := by omega
   have eu : upW l p a = upW l p (par l a.toNat) := by
    have := upW_step ht (p := p) (i := a.toNat) (by omega) (by omega)
    rwa [show ((a.toNat : Nat) : Int) = a by omega] at this
   have tp := tree_par ht (i := a.toNat) (by omega)
   have eg : (l.getD a.toNat default).parent = par l a.toNat := rfl
   simp only [zN, seval, implies_true, Nat.reduceLeDiff, Nat.reduceEqDiff, reduceCtorEq, reduceIte, a_getD _ _ _ (show a.toNat < l.length by omega), eg]
   repeat ((with_reducible refine And.intro ?_ ?_); (focus (first | omega | (simp only [lenR]; omega) | (refine qq ?_; rfl) | (refine dq ?_; kernel_rfl) | (intros; simp_all; done))))
   refine ⟨par l a.toNat, ⟨by omega, by omega, by rw [← eu, a3]⟩, by omega, ?_⟩
   refine weak_to [] [] rfl List.nodup_nil ?_ rfl
   simp only [zN, seval, implies_true, Nat.reduceLeDiff, Nat.reduceEqDiff, reduceCtorEq, reduceIte]
  ·have h1' : ¬ (0 ≤ a ∧ a ≠ p) := by simpa using h1
   refine ⟨_, _, ret_d, ?_, rfl⟩
   rw [← a3]
   by_cases e : a = p
   ·subst e
    have := upW_self (l := l) (i := a.toNat)
    rw [show ((a.toNat : Nat) : Int) = a by omega] at this
    rw [this]; simp
   ·rw [upW_neg (by omega)]; simp [e]
theorem k_forms (l : List NodeT) (hl : l.length ≤ 2000) : Pure Tryd.prog Gl 48 [.d (.sl (l.map NodeT.toD))] (.d (.int .i64 (firstErr (orderE l) l.length))) := by
 refine Pure.of1 ?_
 refine acalls_of Tryd.func48 rfl rfl (by simp [Tryd.ntmps48]) (evC_sound rfl _ _ _ _ ?_)
 simp only [Tryd.ntmps48, Tryd.results48, argEnv, List.length_nil]
 simp only [zN, seval, implies_true, Nat.reduceLeDiff, Nat.reduceEqDiff, reduceCtorEq, reduceIte]
 refine for_of l.length (fun k => [(0, .d (.sl (l.map NodeT.toD))), (3, .d (.int .i64 k))]) (fun _ => []) (fun k => firstErr (orderE l) k = 0) rfl ?_ ?_
 ·refine weak_to [] [] rfl List.nodup_nil ?_ rfl
  simp only [zN, seval, implies_true, Nat.reduceLeDiff, Nat.reduceEqDiff, reduceCtorEq, reduceIte, Int.cast_ofNat_Int]
 ·intro k hi hk
  by_cases h : k < l.length
  ·obtain ⟨x, hx⟩ : ∃ x, x = l.getD k default := ⟨_, rfl⟩
   have htree := tree_of hi
   have ep : par l k = x.parent := by rw [hx]; rfl
   have en : nm l k = x.name := by rw [hx]; rfl
   simp only [zN, seval, implies_true, Nat.reduceLeDiff, Nat.reduceEqDiff, reduceCtorEq, reduceIte, (show (k:Int) < l.length by omega), h, a_getD _ _ _ (show k < l.length by omega), @a_wrap ((k:Int) - 1) (by omega)]
   rw [← hx]
   repeat ((with_reducible refine And.intro ?_ ?_); (focus (first | omega | (simp only [lenR]; omega) | (refine qq ?_; rfl) | (refine dq ?_; kernel_rfl) | (intros; simp_all; done))))
   refine callG_pure (fun hg => k_above l hk htree x.parent (by simp at hg; omega) ((k : Int) - 1) (by omega) (by omega)) ?_
   simp only [zN, seval, implies_true, Nat.reduceLeDiff, Nat.reduceEqDiff, reduceCtorEq, reduceIte]
   repeat ((with_reducible refine And.intro ?_ ?_); (focus (first | omega | (simp only [lenR]; omega) | (refine qq ?_; rfl) | (refine dq ?_; kernel_rfl) | (intros; simp_all; done))))
   have hform : formOk l k = !(decide (x.parent < -1) || decide ((k : Int) ≤ x.parent) || decide (0 ≤ x.parent) && !upW l x.parent ((k : Int) - 1)) := by
    rw [formOk, ep, Bool.eq_iff_iff]
    simp only [Bool.or_eq_true, Bool.and_eq_true, decide_eq_true_eq, beq_iff_eq, Bool.not_eq_true', Bool.or_eq_false_iff, Bool.and_eq_false_iff, decide_eq_false_iff_not, Bool.not_eq_false']
    constructor
    ·rintro (g | ⟨⟨g1, g2⟩, g3⟩)
     ·exact ⟨⟨by omega, by omega⟩, .inl (by omega)⟩
     ·exact ⟨⟨by omega, by omega⟩, .inr g3⟩
    ·rintro ⟨⟨g1, g2⟩, g3⟩
     by_cases e : 0 ≤ x.parent
     ·exact .inr ⟨⟨e, by omega⟩, g3.resolve_left (by simpa using e)⟩
     ·exact .inl (by omega)
   refine ifC.mk (fun h1 => ?_) (fun h1 => ?_)
   ·refine ⟨_, _, ret_d, ?_, rfl⟩
    rw [orderE_bad h hi (e := 10) (by rw [orderE, if_neg (by rw [hform, h1]; simp)]) (by decide)]
   rw [h1] at hform
   have hform : formOk l k = true := hform
   simp only [zN, seval, implies_true, Nat.reduceLeDiff, Nat.reduceEqDiff, reduceCtorEq, reduceIte, @a_wrap ((k:Int) - 1) (by omega)]
   refine loop_of (τ := Nat) (fun m => [(0, .d (.sl (l.map NodeT.toD))), (3, .d (.int .i64 k)), (4, .d (.int .i64 x.parent)), (5, .d (.int .i64 ((m : Int) - 1)))]) (fun _ => []) (fun m => m ≤ k ∧ lastSib l k x.parent = lastSib l m x.parent) (fun m => m) k ⟨Nat.le_refl _, rfl⟩ ?_ ?_
   ·refine weak_to [] [] rfl List.nodup_nil ?_ rfl
    simp only [zN, seval, implies_true, Nat.reduceLeDiff, Nat.reduceEqDiff, reduceCtorEq, reduceIte]
   ·intro m ⟨m1, m2⟩
    cases m with
    | zero =>
     have hs : lastSib l k x.parent = none := m2
     have ho : orderE l k = 0 := by rw [orderE, if_pos hform, ep, hs]
     simp only [zN, seval, implies_true, Nat.reduceLeDiff, Nat.reduceEqDiff, reduceCtorEq, reduceIte]
     repeat ((with_reducible refine And.intro ?_ ?_); (focus (first | omega | (simp only [lenR]; omega) | (refine qq ?_; rfl) | (refine dq ?_; kernel_rfl) | (intros; simp_all; done))))
     refine ⟨firstErr_step hi ho, ?_⟩
     refine weak_to [] [] rfl List.nodup_nil ?_ rfl
     simp only [zN, seval, implies_true, Nat.reduceLeDiff, Nat.reduceEqDiff, reduceCtorEq, reduceIte, @a_wrap ((k:Int) + 1) (by omega)]
    | succ j =>
     have ej : (((j + 1 : Nat) : Int) - 1) = j := by omega
     rw [ej]
     have hjl : j < l.length := by omega
     obtain ⟨y, hy⟩ : ∃ y, y = l.getD j default := ⟨_, rfl⟩
     have ep2 : par l j = y.parent := by rw [hy]; rfl
     have en2 : nm l j = y.name := by rw [hy]; rfl
     have eg : (l.map NodeT.toD).getD j default = y.toD := by rw [a_getD _ _ _ hjl, ← hy]
     simp only [zN, seval, implies_true, Nat.reduceLeDiff, Nat.reduceEqDiff, reduceCtorEq, reduceIte, (show (0:Int) ≤ j by omega), (show (j:Int) < l.length by omega), eg, hjl]
     repeat ((with_reducible refine And.intro ?_ ?_); (focus (first | omega | (simp only [lenR]; omega) | (refine qq ?_; rfl) | (refine dq ?_; kernel_rfl) | (intros; simp_all; done))))
     refine ifC.mk (fun h2 => ?_) (fun h2 => ?_)
     ·have h2 : y.parent ≠ x.parent := by simpa using h2
      refine ⟨j, ⟨by omega, ?_⟩, by omega, ?_⟩
      ·rw [m2, lastSib, if_neg (by rw [ep2]; exact h2)]
      ·refine weak_to [] [] rfl List.nodup_nil ?_ rfl
       simp only [zN, seval, implies_true, Nat.reduceLeDiff, Nat.reduceEqDiff, reduceCtorEq, reduceIte, @a_wrap ((j:Int) - 1) (by omega)]
     ·have h2 : y.parent = x.parent := by simpa using h2
      have hs : lastSib l k x.parent = some j := by rw [m2, lastSib, if_pos (by rw [ep2]; exact h2)]
      have hor : orderE l k = if Op.bytesLess y.name x.name = true then 0 else 11 := by rw [orderE, if_pos hform, ep, hs, ← en, ← en2]
      simp only [zN, seval, implies_true, Nat.reduceLeDiff, Nat.reduceEqDiff, reduceCtorEq, reduceIte, eg, h, a_getD _ _ _ (show k < l.length by omega)]
      rw [← hx]
      repeat ((with_reducible refine And.intro ?_ ?_); (focus (first | omega | (simp only [lenR]; omega) | (refine qq ?_; rfl) | (refine dq ?_; kernel_rfl) | (intros; simp_all; done))))
      refine ifC.mk (fun h3 => ?_) (fun h3 => ?_)
      ·have h3 : Op.bytesLess y.name x.name = false := by simpa using h3
       refine ⟨_, _, ret_d, ?_, rfl⟩
       rw [orderE_bad h hi (e := 11) (by rw [hor, h3]; rfl) (by decide)]
      ·have h3 : Op.bytesLess y.name x.name = true := by simpa using h3
       have ho : orderE l k = 0 := by rw [hor, h3]; rfl
       refine ⟨firstErr_step hi ho, ?_⟩
       refine weak_to [] [] rfl List.nodup_nil ?_ rfl
       simp only [zN, seval, implies_true, Nat.reduceLeDiff, Nat.reduceEqDiff, reduceCtorEq, reduceIte, @a_wrap ((k:Int) + 1) (by omega)]
  ·simp only [zN, seval, implies_true, Nat.reduceLeDiff, Nat.reduceEqDiff, reduceCtorEq, reduceIte, (show ¬ (k:Int) < l.length by omega)]
   have : k = l.length := by omega
   subst this
   refine ⟨_, _, ret_d, ?_, rfl⟩
   rw [hi]
def kidsTo (l : List NodeT) (i j : Nat) : List Nat := (List.range j).filter fun k => par l k == (i : Int)
theorem kidsTo_step (l : List NodeT) (i j : Nat) : kidsTo l i (j + 1) = kidsTo l i j ++ if par l j = i then [j] else [] := by
 rw [kidsTo, List.range_succ, List.filter_append]
 congr 1
 by_cases e : par l j = i
 ·simp [e]
 ·simp [e]
theorem kidsTo_first {l : List NodeT} (h : TreeUp l l.length) {i : Nat} (hi : i < l.length) : kidsTo l i (i + 1) = [] := by
 rw [kidsTo, List.filter_eq_nil_iff]
 intro k hk
 have hk : k < i + 1 := List.mem_range.1 hk
 have := tree_par h (show k < l.length by omega)
 simp; omega
def sumTo (l : List NodeT) (i j : Nat) : Int := W64 (sf l i + ((kidsTo l i j).map (tt l)).sum)
theorem sumTo_step (l : List NodeT) (i j : Nat) : sumTo l i (j + 1) = if par l j = i then IntKind.i64.wrap (sumTo l i j + tt l j) else sumTo l i j := by
 unfold sumTo
 rw [kidsTo_step]
 by_cases e : par l j = i
 ·rw [if_pos e, if_pos e, ← W64_eq, W64_add, List.map_append, List.sum_append]
  simp only [List.map_cons, List.map_nil, List.sum_cons, List.sum_nil]
  congr 1; omega
 ·rw [if_neg e, if_neg e, List.append_nil]
theorem refBad_eq {l : List NodeT} (i : Nat) : refBad l i = (((kidsTo l i l.length).isEmpty && (ct l i == 0)) || (sumTo l i l.length != tt l i)) := rfl
theorem emp_step (l : List NodeT) (i j : Nat) : (kidsTo l i (j + 1)).isEmpty = if par l j = i then false else (kidsTo l i j).isEmpty := by
 rw [kidsTo_step]
 by_cases e : par l j = i
 ·rw [if_pos e, if_pos e]; simp
 ·rw [if_neg e, if_neg e, List.append_nil]
theorem k_totals (l : List NodeT) (hl : l.length ≤ 2000) (ht : TreeUp l l.length) (hr : ∀ i, i < l.length → 0 ≤ sf l i ∧ sf l i ≤ 100000000000000) : Pure Tryd.prog Gl 49 [.d (.sl (l.map NodeT.toD))] (.d (.int .i64 (if (List.range l.length).any (refBad l) = true then 10 else 0))) := by
 refine Pure.of1 ?_
 refine acalls_of Tryd.func49 rfl rfl (by simp [Tryd.ntmps49]) (evC_sound rfl _ _ _ _ ?_)
 simp only [Tryd.ntmps49, Tryd.results49, argEnv, List.length_nil]
 simp only [zN, seval, implies_true, Nat.reduceLeDiff, Nat.reduceEqDiff, reduceCtorEq, reduceIte]
 refine for_of l.length (fun k => [(0, .d (.sl (l.map NodeT.toD))), (3, .d (.int .i64 k))]) (fun _ => []) (fun k => (List.range k).any (refBad l) = false) rfl ?_ ?_
 ·refine weak_to [] [] rfl List.nodup_nil ?_ rfl
  simp only [zN, seval, implies_true, Nat.reduceLeDiff, Nat.reduceEqDiff, reduceCtorEq, reduceIte, Int.cast_ofNat_Int]
 ·intro k hi hk
  by_cases h : k < l.length
  ·obtain ⟨x, hx⟩ : ∃ x, x = l.getD k default := ⟨_, rfl⟩
   have es : sf l k = x.self := by rw [hx]; rfl
   have ec : ct l k = x.count := by rw [hx]; rfl
   have et : tt l k = x.total := by rw [hx]; rfl
   have hstep : (List.range (k + 1)).any (refBad l) = refBad l k := by
    rw [List.range_succ, List.any_append, hi]; simp
   have hs0 : sumTo l k (k + 1) = x.self := by
    have := hr k h
    rw [sumTo, kidsTo_first ht h, List.map_nil, List.sum_nil, es, Int.add_zero, W64_eq]
    exact wrap64 (by omega) (by omega)
   simp only [zN, seval, implies_true, Nat.reduceLeDiff, Nat.reduceEqDiff, reduceCtorEq, reduceIte, (show (k:Int) < l.length by omega), h, a_getD _ _ _ (show k < l.length by omega)]
   rw [← hx]
   repeat ((with_reducible refine And.intro ?_ ?_); (focus (first | omega | (simp only [lenR]; omega) | (refine qq ?_; rfl) | (refine dq ?_; kernel_rfl) | (intros; simp_all; done))))
   (try simp only [zN, seval, implies_true, Nat.reduceLeDiff, Nat.reduceEqDiff, reduceCtorEq, reduceIte])
   refine loop_of (τ := Nat) (fun j => [(0, .d (.sl (l.map NodeT.toD))), (3, .d (.int .i64 k)), (4, .d (.int .i64 (sumTo l k j))), (5, .d (.bool (kidsTo l k j).isEmpty)), (6, .d (.int .i64 j))]) (fun _ => []) (fun j => k + 1 ≤ j ∧ j ≤ l.length) (fun j => l.length - j) (k + 1) ⟨Nat.le_refl _, h⟩ ?_ ?_
   ·refine weak_to [] [] rfl List.nodup_nil ?_ rfl
    simp only [zN, seval, implies_true, Nat.reduceLeDiff, Nat.reduceEqDiff, reduceCtorEq, reduceIte, @a_wrap ((k:Int) + 1) (by omega)]
    rw [hs0, kidsTo_first ht h]
    rfl
   ·intro j ⟨j1, j2⟩
    by_cases hj : j < l.length
    ·obtain ⟨y, hy⟩ : ∃ y, y = l.getD j default := ⟨_, rfl⟩
     have ep2 : par l j = y.parent := by rw [hy]; rfl
     have et2 : tt l j = y.total := by rw [hy]; rfl
     have hst := sumTo_step l k j
     have hem := emp_step l k j
     rw [ep2] at hst hem
     rw [et2] at hst
     have eg : (l.map NodeT.toD).getD j default = y.toD := by rw [a_getD _ _ _ hj, ← hy]
     simp only [zN, seval, implies_true, Nat.reduceLeDiff, Nat.reduceEqDiff, reduceCtorEq, reduceIte, (show (j:Int) < l.length by omega), eg, hj]
     repeat ((with_reducible refine And.intro ?_ ?_); (focus (first | omega | (simp only [lenR]; omega) | (refine qq ?_; rfl) | (refine dq ?_; kernel_rfl) | (intros; simp_all; done))))
     refine ifC.mk (fun h2 => ?_) (fun h2 => ?_)
     ·have h2 : y.parent = k := by simpa using h2
      rw [if_pos h2] at hst hem
      (try simp only [zN, seval, implies_true, Nat.reduceLeDiff, Nat.reduceEqDiff, reduceCtorEq, reduceIte])
      repeat ((with_reducible refine And.intro ?_ ?_); (focus (first | omega | (simp only [lenR]; omega) | (refine qq ?_; rfl) | (refine dq ?_; kernel_rfl) | (intros; simp_all; done))))
      refine ⟨j + 1, ⟨by omega, by omega⟩, by omega, ?_⟩
      refine weak_to [] [] rfl List.nodup_nil ?_ rfl
      simp only [zN, seval, implies_true, Nat.reduceLeDiff, Nat.reduceEqDiff, reduceCtorEq, reduceIte, @a_wrap ((j:Int) + 1) (by omega)]
      rw [hst, hem]
      try rfl
     ·have h2 : ¬ y.parent = k := by simpa using h2
      rw [if_neg h2] at hst hem
      refine ⟨j + 1, ⟨by omega, by omega⟩, by omega, ?_⟩
      refine weak_to [] [] rfl List.nodup_nil ?_ rfl
      simp only [zN, seval, implies_true, Nat.reduceLeDiff, Nat.reduceEqDiff, reduceCtorEq, reduceIte, @a_wrap ((j:Int) + 1) (by omega)]
      rw [hst, hem]
      try rfl
    ·have : j = l.length := by omega
     subst this
     have hrb := refBad_eq (l := l) k
     rw [ec, et] at hrb
     simp only [zN, seval, implies_true, Nat.reduceLeDiff, Nat.reduceEqDiff, reduceCtorEq, reduceIte, (show ¬ (l.length:Int) < l.length by omega), h, a_getD _ _ _ (show k < l.length by omega)]
     rw [← hx]
     repeat ((with_reducible refine And.intro ?_ ?_); (focus (first | omega | (simp only [lenR]; omega) | (refine qq ?_; rfl) | (refine dq ?_; kernel_rfl) | (intros; simp_all; done))))
     rw [← hrb]
     refine ifC.mk (fun hb => ?_) (fun hb => ?_)
     ·refine ⟨_, _, ret_d, ?_, rfl⟩
      rw [if_pos (List.any_eq_true.2 ⟨k, by simpa using h, hb⟩)]
     ·refine ⟨hstep.trans hb, ?_⟩
      refine weak_to [] [] rfl List.nodup_nil ?_ rfl
      simp only [zN, seval, implies_true, Nat.reduceLeDiff, Nat.reduceEqDiff, reduceCtorEq, reduceIte, @a_wrap ((k:Int) + 1) (by omega)]
  ·simp only [zN, seval, implies_true, Nat.reduceLeDiff, Nat.reduceEqDiff, reduceCtorEq, reduceIte, (show ¬ (k:Int) < l.length by omega)]
   have : k = l.length := by omega
   subst this
   refine ⟨_, _, ret_d, ?_, rfl⟩
   rw [hi]; rfl
theorem sf_range {l : List NodeT} (h : rangesF l = 0) : ∀ i, i < l.length → 0 ≤ sf l i ∧ sf l i ≤ 100000000000000 ∧ 0 ≤ ct l i ∧ ct l i ≤ 20000 := fun i hi => by
 have h0 : firstErr (fun k => nodeE (l.getD k default)) l.length = 0 := by
  unfold rangesF at h
  split at h
  ·assumption
  ·contradiction
 have := nodeE_ok (firstErr_zero h0 i hi)
 exact ⟨this.2.1, this.2.2.1, this.2.2.2.1, this.2.2.2.2.1⟩
theorem k_RCheck (l : List NodeT) (hl0 : l.length < 1000000) : Pure Tryd.prog Gl 29 [.d (.sl (l.map NodeT.toD))] (.d (.int .i64 (checkF l))) := by
 refine Pure.of1 ?_
 refine acalls_of Tryd.func29 rfl rfl (by simp [Tryd.ntmps29]) (evC_sound rfl _ _ _ _ ?_)
 simp only [Tryd.ntmps29, Tryd.results29, argEnv, List.length_nil]
 simp only [zN, seval, implies_true, Nat.reduceLeDiff, Nat.reduceEqDiff, reduceCtorEq, reduceIte]
 refine ifC.mk (fun h1 => ?_) (fun h1 => ?_)
 ·refine ⟨_, _, ret_d, ?_, rfl⟩
  rw [checkF, if_pos (by have := of_decide_eq_true h1; omega)]
 have hl : l.length ≤ 2000 := by
  have : ¬ (2000 < (l.length : Int)) := of_decide_eq_false h1
  omega
 have hF1 : checkF l = if rangesF l = 0 then (if firstErr (orderE l) l.length = 0 then (if (List.range l.length).any (totBad l) = true then 10 else 0) else firstErr (orderE l) l.length) else rangesF l := by
  rw [checkF, if_neg (by omega)]
 repeat ((with_reducible refine And.intro ?_ ?_); (focus (first | omega | (simp only [lenR]; omega) | (refine qq ?_; rfl) | (refine dq ?_; kernel_rfl) | (intros; simp_all; done))))
 refine callF_pure (k_Rranges l hl) ?_
 simp only [zN, seval, implies_true, Nat.reduceLeDiff, Nat.reduceEqDiff, reduceCtorEq, reduceIte]
 repeat ((with_reducible refine And.intro ?_ ?_); (focus (first | omega | (simp only [lenR]; omega) | (refine qq ?_; rfl) | (refine dq ?_; kernel_rfl) | (intros; simp_all; done))))
 by_cases h2 : rangesF l = 0
 ·rw [if_pos h2] at hF1
  simp only [zN, seval, implies_true, Nat.reduceLeDiff, Nat.reduceEqDiff, reduceCtorEq, reduceIte, h2]
  repeat ((with_reducible refine And.intro ?_ ?_); (focus (first | omega | (simp only [lenR]; omega) | (refine qq ?_; rfl) | (refine dq ?_; kernel_rfl) | (intros; simp_all; done))))
  refine callF_pure (k_forms l hl) ?_
  simp only [zN, seval, implies_true, Nat.reduceLeDiff, Nat.reduceEqDiff, reduceCtorEq, reduceIte]
  repeat ((with_reducible refine And.intro ?_ ?_); (focus (first | omega | (simp only [lenR]; omega) | (refine qq ?_; rfl) | (refine dq ?_; kernel_rfl) | (intros; simp_all; done))))
  by_cases h3 : firstErr (orderE l) l.length = 0
  ·rw [if_pos h3] at hF1
   have ht := tree_of h3
   rw [bads_eq ht] at hF1
   simp only [zN, seval, implies_true, Nat.reduceLeDiff, Nat.reduceEqDiff, reduceCtorEq, reduceIte, h3]
   repeat ((with_reducible refine And.intro ?_ ?_); (focus (first | omega | (simp only [lenR]; omega) | (refine qq ?_; rfl) | (refine dq ?_; kernel_rfl) | (intros; simp_all; done))))
   refine callF_pure (k_totals l hl ht fun i hi => ⟨(sf_range h2 i hi).1, (sf_range h2 i hi).2.1⟩) ?_
   simp only [zN, seval, implies_true, Nat.reduceLeDiff, Nat.reduceEqDiff, reduceCtorEq, reduceIte]
   refine ⟨_, _, ret_d, ?_, rfl⟩
   rw [hF1]
  ·rw [if_neg h3] at hF1
   simp only [zN, seval, implies_true, Nat.reduceLeDiff, Nat.reduceEqDiff, reduceCtorEq, reduceIte, a_eq_f (show ¬ (firstErr (orderE l) l.length = 0) by omega)]
   repeat ((with_reducible refine And.intro ?_ ?_); (focus (first | omega | (simp only [lenR]; omega) | (refine qq ?_; rfl) | (refine dq ?_; kernel_rfl) | (intros; simp_all; done))))
   refine ⟨_, _, ret_d, ?_, rfl⟩
   rw [hF1]
 ·rw [if_neg h2] at hF1
  simp only [zN, seval, implies_true, Nat.reduceLeDiff, Nat.reduceEqDiff, reduceCtorEq, reduceIte, a_eq_f (show ¬ (rangesF l = 0) by omega)]
  repeat ((with_reducible refine And.intro ?_ ?_); (focus (first | omega | (simp only [lenR]; omega) | (refine qq ?_; rfl) | (refine dq ?_; kernel_rfl) | (intros; simp_all; done))))
  refine ⟨_, _, ret_d, ?_, rfl⟩
  rw [hF1]
end YtfmbadfdbjhekaaDoor
end Go.Proofs
