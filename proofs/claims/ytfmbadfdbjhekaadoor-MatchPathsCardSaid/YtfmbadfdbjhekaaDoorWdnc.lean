/- A part of the proof: contracts of functions of this seat, and lemmas. No condition beyond those stated. -/
import Derived.Test.YtfmbadfdbjhekaaDoorWdnb
set_option linter.unusedVariables false
set_option linter.unusedSimpArgs false
set_option linter.unusedSectionVars false
set_option linter.unnecessarySimpa false
set_option maxRecDepth 100000
namespace Go.Proofs
open Go.AM
namespace YtfmbadfdbjhekaaDoor
variable {Gl : Globs}
theorem rg_get {α : Type} [Inhabited α] (f : Nat → α) {n i : Nat} (h : i < n) : ((List.range n).map f).getD i default = f i := by simp [h]
theorem rg_set {α : Type} (f : Nat → α) {n i : Nat} (v : α) : ((List.range n).map f).set i v = (List.range n).map fun k => if k = i then v else f k := by
 apply List.ext_getElem
 ·simp
 ·intro k h1 h2
  simp only [List.getElem_set, List.getElem_map, List.getElem_range]
  by_cases e : i = k
  ·subst e; simp
  ·rw [if_neg e, if_neg (Ne.symm e)]
theorem rg_congr {α : Type} {f g : Nat → α} {n : Nat} (h : ∀ k, k < n → f k = g k) : (List.range n).map f = (List.range n).map g := List.map_congr_left fun k hk => h k (by simpa using hk)
theorem rg_rep {α : Type} (x : α) (n : Nat) : List.replicate n x = (List.range n).map fun _ => x := by
 apply List.ext_getElem <;> simp
def totL (l : List NodeT) (j : Nat) : List D := (List.range l.length).map fun k => .int .i64 (totA l j k)
def leafL (l : List NodeT) (j : Nat) : List D := (List.range l.length).map fun k => .bool (decide (j ≤ k) && leafB l k)
theorem totL0 (l : List NodeT) : List.replicate l.length (.int .i64 0) = totL l l.length := by
 rw [rg_rep, totL]
 refine rg_congr fun k hk => ?_
 rw [totA, if_neg (by omega), psum_end]
 rfl
theorem leafL0 (l : List NodeT) : List.replicate l.length (.bool false) = leafL l l.length := by
 rw [rg_rep, leafL]
 refine rg_congr fun k hk => ?_
 rw [decide_eq_false (by omega)]; rfl
theorem mk_ints (m : Nat) (hm : m ≤ 100000) : mkOk Tryd.prog 50 (.d (.int .i64 (m : Int))) (.d (.int .i64 (m : Int))) := by
 refine (show _ ∧ _ ∧ _ ∧ (0 : Int) ≤ m ∧ (m : Int) ≤ m ∧ ((8 : Nat) : Int) * (m : Int) ≤ 281474976710656 ∧ (m : Int) ≤ _ from ⟨rfl, rfl, rfl, ?_, ?_, ?_, ?_⟩) <;> omega
theorem mk_bools (m : Nat) (hm : m ≤ 100000) : mkOk Tryd.prog 52 (.d (.int .i64 (m : Int))) (.d (.int .i64 (m : Int))) := by
 refine (show _ ∧ _ ∧ _ ∧ (0 : Int) ≤ m ∧ (m : Int) ≤ m ∧ ((1 : Nat) : Int) * (m : Int) ≤ 281474976710656 ∧ (m : Int) ≤ _ from ⟨rfl, rfl, rfl, ?_, ?_, ?_, ?_⟩) <;> omega
theorem mkS_ints (σ : Sto) (m : Nat) : mkS Tryd.prog σ 50 (.d (.int .i64 (m : Int))) = σ ++ [.arr 1 (List.replicate m (.int .i64 0))] := rfl
theorem mkS_bools (σ : Sto) (m : Nat) : mkS Tryd.prog σ 52 (.d (.int .i64 (m : Int))) = σ ++ [.arr 1 (List.replicate m (.bool false))] := rfl
theorem renV_undef (ρ : List Nat) (σ : Sto) : renV ρ σ .undef = .undef := rfl
theorem totL_len (l : List NodeT) (j : Nat) : (totL l j).length = l.length := by simp [totL]
theorem leafL_len (l : List NodeT) (j : Nat) : (leafL l j).length = l.length := by simp [leafL]
theorem totL_get (l : List NodeT) (j : Nat) {i : Nat} (h : i < l.length) : (totL l j).getD i default = .int .i64 (totA l j i) := rg_get _ h
theorem leafL_get (l : List NodeT) (j : Nat) {i : Nat} (h : i < l.length) : (leafL l j).getD i default = .bool (decide (j ≤ i) && leafB l i) := rg_get _ h
theorem leafL_set (l : List NodeT) (i : Nat) : (leafL l (i + 1)).set i (.bool (leafB l i)) = leafL l i := by
 rw [leafL, rg_set, leafL]
 refine rg_congr fun k hk => ?_
 by_cases e : k = i
 ·subst e; simp
 ·rw [if_neg e]
  have : decide (i + 1 ≤ k) = decide (i ≤ k) := by rw [decide_eq_decide]; omega
  rw [this]
def totM (l : List NodeT) (i : Nat) : List D := (List.range l.length).map fun k => .int .i64 (if k = i then totW l i else totA l (i + 1) k)
theorem totM_len (l : List NodeT) (j : Nat) : (totM l j).length = l.length := by simp [totM]
theorem totL_setM (l : List NodeT) (i : Nat) : (totL l (i + 1)).set i (.int .i64 (totW l i)) = totM l i := by
 rw [totL, rg_set, totM]
 refine rg_congr fun k hk => ?_
 by_cases e : k = i
 ·rw [if_pos e, if_pos e]
 ·rw [if_neg e, if_neg e]
theorem totM_get (l : List NodeT) (i : Nat) {k : Nat} (h : k < l.length) : (totM l i).getD k default = .int .i64 (if k = i then totW l i else totA l (i + 1) k) := rg_get _ h
theorem tot_self {l : List NodeT} (h : TreeUp l l.length) {i : Nat} (hi : i < l.length) : IntKind.i64.wrap (totA l (i + 1) i + sf l i) = totW l i := by
 rw [totA, if_neg (by omega), psum_full h, totW_eq h hi, ← W64_eq, W64_add, Int.add_comm]
theorem tot_step {l : List NodeT} {i : Nat} (hi : i < l.length) {k : Nat} (hk : k < i) : totA l i k = W64 ((if par l i = k then totW l i else 0) + psum l (i + 1) k) := by
 rw [totA, if_neg (by omega), psum_step hi]
theorem totM_none {l : List NodeT} {i : Nat} (hi : i < l.length) (hp : par l i < 0) : totM l i = totL l i := by
 refine rg_congr fun k hk => ?_
 congr 1
 rcases Nat.lt_trichotomy k i with h | h | h
 ·rw [if_neg (by omega), tot_step hi h, if_neg (by omega), Int.zero_add, totA, if_neg (by omega)]
 ·subst h; rw [if_pos rfl, totA, if_pos (Nat.le_refl _)]
 ·rw [if_neg (by omega), totA, totA, if_pos (by omega), if_pos (by omega)]
theorem totM_set {l : List NodeT} {i p : Nat} (hi : i < l.length) (hp : par l i = p) (hpi : p < i) : (totM l i).set p (.int .i64 (IntKind.i64.wrap (totA l (i + 1) p + totW l i))) = totL l i := by
 rw [totM, rg_set, totL]
 refine rg_congr fun k hk => ?_
 rcases Nat.lt_trichotomy k i with h | h | h
 ·rw [tot_step hi h]
  by_cases e : k = p
  ·subst e
   rw [if_pos rfl, if_pos hp, totA, if_neg (by omega), ← W64_eq, W64_add, Int.add_comm]
  ·rw [if_neg e, if_neg (by omega), if_neg (by omega), Int.zero_add, totA, if_neg (by omega)]
 ·subst h; rw [if_neg (by omega), if_pos rfl, totA, if_pos (Nat.le_refl _)]
 ·rw [if_neg (by omega), if_neg (by omega), totA, totA, if_pos (by omega), if_pos (by omega)]
theorem k_flameCheck (l : List NodeT) (hl0 : l.length < 1000000) : Pure Tryd.prog Gl 18 [.d (.sl (l.map NodeT.toD))] (.d (.int .i64 (checkF l))) := by
 refine Pure.of1 ?_
 refine acalls_of Tryd.func18 rfl rfl (by simp [Tryd.ntmps18]) (evC_sound rfl _ _ _ _ ?_)
 simp only [Tryd.ntmps18, Tryd.results18, argEnv, List.length_nil]
 simp only [zN, seval, implies_true, Nat.reduceLeDiff, Nat.reduceEqDiff, reduceCtorEq, reduceIte]
 refine ifC.mk (fun h1 => ?_) (fun h1 => ?_)
 ·refine ⟨_, _, ret_d, ?_, rfl⟩
  rw [checkF, if_pos (by have := of_decide_eq_true h1; omega)]
 have hl : l.length ≤ 2000 := by
  have : ¬ (2000 < (l.length : Int)) := of_decide_eq_false h1
  omega
 have hF1 : checkF l = if rangesF l = 0 then (if firstErr (orderE l) l.length = 0 then (if (List.range l.length).any (totBad l) = true then 10 else 0) else firstErr (orderE l) l.length) else rangesF l := by
  rw [checkF, if_neg (by omega)]
 repeat ((with_reducible refine And.intro ?_ ?_); (focus (first | omega | (simp only [lenR]; omega) | (refine qq ?_; rfl) | (refine dq ?_; kernel_rfl) | (intros; simp_all; done))))
 refine callF_pure (k_ranges l hl) ?_
 simp only [zN, seval, implies_true, Nat.reduceLeDiff, Nat.reduceEqDiff, reduceCtorEq, reduceIte]
 repeat ((with_reducible refine And.intro ?_ ?_); (focus (first | omega | (simp only [lenR]; omega) | (refine qq ?_; rfl) | (refine dq ?_; kernel_rfl) | (intros; simp_all; done))))
 refine ifC.mk (fun h2 => ?_) (fun h2 => ?_)
 ·have h2 : rangesF l ≠ 0 := by simpa using h2
  refine ⟨_, _, ret_d, ?_, rfl⟩
  rw [hF1, if_neg h2]
 have h2 : rangesF l = 0 := by simpa using h2
 rw [if_pos h2] at hF1
 repeat ((with_reducible refine And.intro ?_ ?_); (focus (first | omega | (simp only [lenR]; omega) | (refine qq ?_; rfl) | (refine dq ?_; kernel_rfl) | (intros; simp_all; done))))
 refine callF_pure (k_order l hl) ?_
 simp only [zN, seval, implies_true, Nat.reduceLeDiff, Nat.reduceEqDiff, reduceCtorEq, reduceIte]
 repeat ((with_reducible refine And.intro ?_ ?_); (focus (first | omega | (simp only [lenR]; omega) | (refine qq ?_; rfl) | (refine dq ?_; kernel_rfl) | (intros; simp_all; done))))
 refine ifC.mk (fun h3 => ?_) (fun h3 => ?_)
 ·have h3 : firstErr (orderE l) l.length ≠ 0 := by simpa using h3
  refine ⟨_, _, ret_d, ?_, rfl⟩
  rw [hF1, if_neg h3]
 have h3 : firstErr (orderE l) l.length = 0 := by simpa using h3
 rw [if_pos h3] at hF1
 refine ⟨.inr (.inr (.inr (evFree_can
  (fun L => [(6, onV (L 5 && L 7) (.osl 1 0 l.length)), (5, onV (L 2 && L 6) (.osl 0 0 l.length)), (28, onV (L 5) (.osl 1 0 l.length)), (27, onV (L 4) (.d (.int .i64 l.length))), (26, onV (L 3) (.d (.sl (l.map NodeT.toD)))), (25, onV (L 2) (.osl 0 0 l.length)), (24, onV (L 1) (.d (.int .i64 l.length))), (23, onV (L 0) (.d (.sl (l.map NodeT.toD)))), (0, .d (.sl (l.map NodeT.toD)))])
  (fun L => [onB (L 2) (.arr 1 (List.replicate l.length (.int .i64 0))), onB (L 5) (.arr 1 (List.replicate l.length (.bool false)))]) (by kernel_rfl) ?_ ?_ ?_))), ?_⟩
 ·refine weak_to [] [0, 1] rfl (by simp) ?_ ?_
  ·rfl
  ·rfl
 ·simp only [stepsL]
  refine ⟨?_, ?_, ?_, ?_, ?_, ?_, ?_, ?_, trivial⟩
  ·(intro L hc hL hp; simp only [predsL, Region.binds, md_any, Bool.false_eq_true, false_imp_iff, true_imp_iff, and_true, true_and] at hp; (try simp only [Nat.zero_add, Nat.reduceAdd] at hL); simp only [zN, seval, implies_true, Nat.reduceLeDiff, Nat.reduceEqDiff, reduceCtorEq, reduceIte, hL, hp, onV_t, onB_t, onV_f, onB_f, updB, Bool.and_true, Bool.true_and, Bool.false_and, Bool.and_false])
   refine weak_to [] [0, 1] rfl (by simp) ?_ (by simp only [zN, seval, implies_true, Nat.reduceLeDiff, Nat.reduceEqDiff, reduceCtorEq, reduceIte, renB_onB])
   simp only [zN, seval, implies_true, Nat.reduceLeDiff, Nat.reduceEqDiff, reduceCtorEq, reduceIte, renV_onV, renB_onB, renV_undef, onV_f, onV_t]
  ·(intro L hc hL hp; simp only [predsL, Region.binds, md_any, Bool.false_eq_true, false_imp_iff, true_imp_iff, and_true, true_and] at hp; (try simp only [Nat.zero_add, Nat.reduceAdd] at hL); simp only [zN, seval, implies_true, Nat.reduceLeDiff, Nat.reduceEqDiff, reduceCtorEq, reduceIte, hL, hp, onV_t, onB_t, onV_f, onB_f, updB, Bool.and_true, Bool.true_and, Bool.false_and, Bool.and_false])
   refine weak_to [] [0, 1] rfl (by simp) ?_ (by simp only [zN, seval, implies_true, Nat.reduceLeDiff, Nat.reduceEqDiff, reduceCtorEq, reduceIte, renB_onB])
   simp only [zN, seval, implies_true, Nat.reduceLeDiff, Nat.reduceEqDiff, reduceCtorEq, reduceIte, renV_onV, renB_onB, renV_undef, onV_f, onV_t]
  ·intro L hc hL hp
   have h6 : L 6 = false := nope hL fun h => (hc 6 _ rfl h).1 rfl
   (simp only [predsL, Region.binds, md_any, Bool.false_eq_true, false_imp_iff, true_imp_iff, and_true, true_and] at hp; (try simp only [Nat.zero_add, Nat.reduceAdd] at hL); simp only [zN, seval, implies_true, Nat.reduceLeDiff, Nat.reduceEqDiff, reduceCtorEq, reduceIte, hL, hp, onV_t, onB_t, onV_f, onB_f, updB, Bool.and_true, Bool.true_and, Bool.false_and, Bool.and_false])
   simp only [zN, seval, implies_true, Nat.reduceLeDiff, Nat.reduceEqDiff, reduceCtorEq, reduceIte, h6]
   rw [mkS_ints]
   refine ⟨mk_ints _ (by omega), ?_⟩
   refine weak_to [] [2, 1] rfl (by simp) ?_ ?_
   ·simp only [zN, seval, implies_true, Nat.reduceLeDiff, Nat.reduceEqDiff, reduceCtorEq, reduceIte, renV_onV, renB_onB, renV_undef, onV_f, onV_t]
   ·simp only [zN, seval, implies_true, Nat.reduceLeDiff, Nat.reduceEqDiff, reduceCtorEq, reduceIte, renV_onV, renB_onB, renV_undef, onV_f, onV_t]
  ·(intro L hc hL hp; simp only [predsL, Region.binds, md_any, Bool.false_eq_true, false_imp_iff, true_imp_iff, and_true, true_and] at hp; (try simp only [Nat.zero_add, Nat.reduceAdd] at hL); simp only [zN, seval, implies_true, Nat.reduceLeDiff, Nat.reduceEqDiff, reduceCtorEq, reduceIte, hL, hp, onV_t, onB_t, onV_f, onB_f, updB, Bool.and_true, Bool.true_and, Bool.false_and, Bool.and_false])
   refine weak_to [] [0, 1] rfl (by simp) ?_ (by simp only [zN, seval, implies_true, Nat.reduceLeDiff, Nat.reduceEqDiff, reduceCtorEq, reduceIte, renB_onB])
   simp only [zN, seval, implies_true, Nat.reduceLeDiff, Nat.reduceEqDiff, reduceCtorEq, reduceIte, renV_onV, renB_onB, renV_undef, onV_f, onV_t]
  ·(intro L hc hL hp; simp only [predsL, Region.binds, md_any, Bool.false_eq_true, false_imp_iff, true_imp_iff, and_true, true_and] at hp; (try simp only [Nat.zero_add, Nat.reduceAdd] at hL); simp only [zN, seval, implies_true, Nat.reduceLeDiff, Nat.reduceEqDiff, reduceCtorEq, reduceIte, hL, hp, onV_t, onB_t, onV_f, onB_f, updB, Bool.and_true, Bool.true_and, Bool.false_and, Bool.and_false])
   refine weak_to [] [0, 1] rfl (by simp) ?_ (by simp only [zN, seval, implies_true, Nat.reduceLeDiff, Nat.reduceEqDiff, reduceCtorEq, reduceIte, renB_onB])
   simp only [zN, seval, implies_true, Nat.reduceLeDiff, Nat.reduceEqDiff, reduceCtorEq, reduceIte, renV_onV, renB_onB, renV_undef, onV_f, onV_t]
  ·intro L hc hL hp
   have h7 : L 7 = false := nope hL fun h => (hc 7 _ rfl h).1 rfl
   (simp only [predsL, Region.binds, md_any, Bool.false_eq_true, false_imp_iff, true_imp_iff, and_true, true_and] at hp; (try simp only [Nat.zero_add, Nat.reduceAdd] at hL); simp only [zN, seval, implies_true, Nat.reduceLeDiff, Nat.reduceEqDiff, reduceCtorEq, reduceIte, hL, hp, onV_t, onB_t, onV_f, onB_f, updB, Bool.and_true, Bool.true_and, Bool.false_and, Bool.and_false])
   simp only [zN, seval, implies_true, Nat.reduceLeDiff, Nat.reduceEqDiff, reduceCtorEq, reduceIte, h7]
   rw [mkS_bools]
   refine ⟨mk_bools _ (by omega), ?_⟩
   refine weak_to [] [0, 2] rfl (by simp) ?_ ?_
   ·simp only [zN, seval, implies_true, Nat.reduceLeDiff, Nat.reduceEqDiff, reduceCtorEq, reduceIte, renV_onV, renB_onB, renV_undef, onV_f, onV_t]
   ·simp only [zN, seval, implies_true, Nat.reduceLeDiff, Nat.reduceEqDiff, reduceCtorEq, reduceIte, renV_onV, renB_onB, renV_undef, onV_f, onV_t]
  ·(intro L hc hL hp; simp only [predsL, Region.binds, md_any, Bool.false_eq_true, false_imp_iff, true_imp_iff, and_true, true_and] at hp; (try simp only [Nat.zero_add, Nat.reduceAdd] at hL); simp only [zN, seval, implies_true, Nat.reduceLeDiff, Nat.reduceEqDiff, reduceCtorEq, reduceIte, hL, hp, onV_t, onB_t, onV_f, onB_f, updB, Bool.and_true, Bool.true_and, Bool.false_and, Bool.and_false])
   refine weak_to [] [0, 1] rfl (by simp) ?_ (by simp only [zN, seval, implies_true, Nat.reduceLeDiff, Nat.reduceEqDiff, reduceCtorEq, reduceIte, renB_onB])
   simp only [zN, seval, implies_true, Nat.reduceLeDiff, Nat.reduceEqDiff, reduceCtorEq, reduceIte, renV_onV, renB_onB, renV_undef, onV_f, onV_t]
  ·(intro L hc hL hp; simp only [predsL, Region.binds, md_any, Bool.false_eq_true, false_imp_iff, true_imp_iff, and_true, true_and] at hp; (try simp only [Nat.zero_add, Nat.reduceAdd] at hL); simp only [zN, seval, implies_true, Nat.reduceLeDiff, Nat.reduceEqDiff, reduceCtorEq, reduceIte, hL, hp, onV_t, onB_t, onV_f, onB_f, updB, Bool.and_true, Bool.true_and, Bool.false_and, Bool.and_false])
   refine weak_to [] [0, 1] rfl (by simp) ?_ (by simp only [zN, seval, implies_true, Nat.reduceLeDiff, Nat.reduceEqDiff, reduceCtorEq, reduceIte, renB_onB])
   simp only [zN, seval, implies_true, Nat.reduceLeDiff, Nat.reduceEqDiff, reduceCtorEq, reduceIte, renV_onV, renB_onB, renV_undef, onV_f, onV_t]
 ·simp only [zN, seval, implies_true, Nat.reduceLeDiff, Nat.reduceEqDiff, reduceCtorEq, reduceIte, onV_t, onB_t, Bool.and_true]
  refine loop_of (τ := Nat) (fun j => [(0, .d (.sl (l.map NodeT.toD))), (5, .osl 0 0 l.length), (6, .osl 1 0 l.length), (7, .d (.int .i64 ((j : Int) - 1)))]) (fun j => [.arr 1 (totL l j), .arr 1 (leafL l j)]) (fun j => j ≤ l.length) (fun j => j) l.length (Nat.le_refl _) ?_ ?_
  ·rw [totL0, leafL0]
   refine weak_to [] [0, 1] rfl (by simp) ?_ rfl
   simp only [zN, seval, implies_true, Nat.reduceLeDiff, Nat.reduceEqDiff, reduceCtorEq, reduceIte, @a_wrap ((l.length : Int) - 1) (by omega)]
  ·intro j hj
   cases j with
   | zero =>
    simp only [zN, seval, implies_true, Nat.reduceLeDiff, Nat.reduceEqDiff, reduceCtorEq, reduceIte]
    refine for_of l.length (fun k => [(5, .osl 0 0 l.length), (6, .osl 1 0 l.length), (85, .d (.sl (l.map NodeT.toD))), (86, .d (.int .i64 l.length)), (87, .d (.int .i64 k))]) (fun _ => [.arr 1 (totL l 0), .arr 1 (leafL l 0)]) (fun k => (List.range k).any (totBad l) = false) rfl ?_ ?_
    ·refine weak_to [] [0, 1] rfl (by simp) ?_ rfl
     simp only [zN, seval, implies_true, Nat.reduceLeDiff, Nat.reduceEqDiff, reduceCtorEq, reduceIte, Int.cast_ofNat_Int]
    ·intro k hi hk
     by_cases h : k < l.length
     ·obtain ⟨x, hx⟩ : ∃ x, x = l.getD k default := ⟨_, rfl⟩
      have hlf : (leafL l 0).getD k default = .bool (leafB l k) := by rw [leafL_get l 0 h]; simp
      have htl : (totL l 0).getD k default = .int .i64 (totW l k) := by rw [totL_get l 0 h, totA, if_pos (Nat.zero_le _)]
      have hbad : totBad l k = ((leafB l k && (x.count == 0)) || (x.total != totW l k)) := by rw [hx]; rfl
      have hstep : (List.range (k + 1)).any (totBad l) = totBad l k := by
       rw [List.range_succ, List.any_append, hi]; simp
      simp only [zN, seval, implies_true, Nat.reduceLeDiff, Nat.reduceEqDiff, reduceCtorEq, reduceIte, (show (k:Int) < l.length by omega), h, a_getD _ _ _ (show k < l.length by omega)]
      rw [← hx]
      simp only [zN, seval, implies_true, Nat.reduceLeDiff, Nat.reduceEqDiff, reduceCtorEq, reduceIte, totL_len, leafL_len, h, hlf, htl]
      repeat ((with_reducible refine And.intro ?_ ?_); (focus (first | omega | (simp only [lenR]; omega) | (refine qq ?_; rfl) | (refine dq ?_; kernel_rfl) | (intros; simp_all; done))))
      rw [← hbad]
      refine ifC.mk (fun hb => ?_) (fun hb => ?_)
      ·refine ⟨_, _, ret_d, ?_, rfl⟩
       rw [hF1, if_pos (List.any_eq_true.2 ⟨k, by simpa using h, hb⟩)]
      ·refine ⟨hstep.trans hb, ?_⟩
       refine weak_to [] [0, 1] rfl (by simp) ?_ rfl
       simp only [zN, seval, implies_true, Nat.reduceLeDiff, Nat.reduceEqDiff, reduceCtorEq, reduceIte, @a_wrap ((k:Int) + 1) (by omega)]
     ·simp only [zN, seval, implies_true, Nat.reduceLeDiff, Nat.reduceEqDiff, reduceCtorEq, reduceIte, (show ¬ (k:Int) < l.length by omega)]
      have : k = l.length := by omega
      subst this
      refine ⟨_, _, ret_d, ?_, rfl⟩
      rw [hF1, if_neg (by rw [hi]; simp)]
   | succ i =>
    have ei : (((i + 1 : Nat) : Int) - 1) = i := by omega
    rw [ei]
    have hil : i < l.length := hj
    obtain ⟨x, hx⟩ : ∃ x, x = l.getD i default := ⟨_, rfl⟩
    have htree := tree_of h3
    have es : sf l i = x.self := by rw [hx]; rfl
    have ep : par l i = x.parent := by rw [hx]; rfl
    have hself := tot_self htree hil
    rw [es] at hself
    simp only [zN, seval, implies_true, Nat.reduceLeDiff, Nat.reduceEqDiff, reduceCtorEq, reduceIte, (show (0:Int) ≤ i by omega), totL_len, hil, totL_get l (i + 1) hil, a_getD _ _ _ (show i < l.length by omega), (show (i:Int) < l.length by omega)]
    rw [← hx]
    simp only [zN, seval, implies_true, Nat.reduceLeDiff, Nat.reduceEqDiff, reduceCtorEq, reduceIte, hself, @a_wrap ((i:Int) + 1) (by omega), totL_setM]
    repeat ((with_reducible refine And.intro ?_ ?_); (focus (first | omega | (simp only [lenR]; omega) | (refine qq ?_; rfl) | (refine dq ?_; kernel_rfl) | (intros; simp_all; done))))
    by_cases hlast : i + 1 = l.length
    ·have hb : leafB l i = true := by simp [leafB, hlast]
     have hset : (leafL l (i + 1)).set i (.bool true) = leafL l i := by rw [← hb]; exact leafL_set l i
     simp only [zN, seval, implies_true, Nat.reduceLeDiff, Nat.reduceEqDiff, reduceCtorEq, reduceIte, a_eq_t (show (i:Int) + 1 = l.length by omega), Bool.not_true]
     repeat ((with_reducible refine And.intro ?_ ?_); (focus (first | omega | (simp only [lenR]; omega) | (refine qq ?_; rfl) | (refine dq ?_; kernel_rfl) | (intros; simp_all; done))))
     simp only [zN, seval, implies_true, Nat.reduceLeDiff, Nat.reduceEqDiff, reduceCtorEq, reduceIte, leafL_len, hil, hset]
     have tp := tree_par htree hil
     rw [ep] at tp
     refine ifC.mk (fun hq => ?_) (fun hq => ?_)
     ·have hq : 0 ≤ x.parent := of_decide_eq_true hq
      obtain ⟨p, hp⟩ : ∃ p : Nat, x.parent = p := ⟨x.parent.toNat, by omega⟩
      have hpi : p < i := by omega
      have hpl : p < l.length := by omega
      have hgp : (totM l i).getD p default = .int .i64 (totA l (i + 1) p) := by rw [totM_get l i hpl, if_neg (by omega)]
      have hgi : (totM l i).getD i default = .int .i64 (totW l i) := by rw [totM_get l i hil, if_pos rfl]
      have hset2 := totM_set hil (ep.trans hp) hpi
      rw [hp]
      simp only [zN, seval, implies_true, Nat.reduceLeDiff, Nat.reduceEqDiff, reduceCtorEq, reduceIte, totM_len, hpl, hil, hgp, hgi, hset2, (show (p:Int) < l.length by omega), (show (i:Int) < l.length by omega)]
      repeat ((with_reducible refine And.intro ?_ ?_); (focus (first | omega | (simp only [lenR]; omega) | (refine qq ?_; rfl) | (refine dq ?_; kernel_rfl) | (intros; simp_all; done))))
      refine ⟨i, by omega, by omega, ?_⟩
      refine weak_to [] [0, 1] rfl (by simp) ?_ rfl
      simp only [zN, seval, implies_true, Nat.reduceLeDiff, Nat.reduceEqDiff, reduceCtorEq, reduceIte, @a_wrap ((i:Int) - 1) (by omega)]
     ·have hq : ¬ 0 ≤ x.parent := of_decide_eq_false hq
      rw [totM_none hil (by rw [ep]; omega)]
      refine ⟨i, by omega, by omega, ?_⟩
      refine weak_to [] [0, 1] rfl (by simp) ?_ rfl
      simp only [zN, seval, implies_true, Nat.reduceLeDiff, Nat.reduceEqDiff, reduceCtorEq, reduceIte, @a_wrap ((i:Int) - 1) (by omega)]
    ·obtain ⟨y, hy⟩ : ∃ y, y = l.getD (i + 1) default := ⟨_, rfl⟩
     have hy2 : par l (i + 1) = y.parent := by rw [hy]; rfl
     have hb : leafB l i = (y.parent != (i : Int)) := by
      simp only [leafB, hlast, decide_false, Bool.false_or, hy2]; rfl
     have hset : (leafL l (i + 1)).set i (.bool (y.parent != (i : Int))) = leafL l i := by rw [← hb]; exact leafL_set l i
     have en : ((i : Int) + 1).toNat = i + 1 := by omega
     have eg : (l.map NodeT.toD).getD (i + 1) default = y.toD := by rw [a_getD _ _ _ (by omega), ← hy]
     simp only [zN, seval, implies_true, Nat.reduceLeDiff, Nat.reduceEqDiff, reduceCtorEq, reduceIte, a_eq_f (show ¬ ((i:Int) + 1 = l.length) by omega), Bool.not_false, en, eg]
     repeat ((with_reducible refine And.intro ?_ ?_); (focus (first | omega | (simp only [lenR]; omega) | (refine qq ?_; rfl) | (refine dq ?_; kernel_rfl) | (intros; simp_all; done))))
     simp only [zN, seval, implies_true, Nat.reduceLeDiff, Nat.reduceEqDiff, reduceCtorEq, reduceIte, leafL_len, hil, hset]
     have tp := tree_par htree hil
     rw [ep] at tp
     refine ifC.mk (fun hq => ?_) (fun hq => ?_)
     ·have hq : 0 ≤ x.parent := of_decide_eq_true hq
      obtain ⟨p, hp⟩ : ∃ p : Nat, x.parent = p := ⟨x.parent.toNat, by omega⟩
      have hpi : p < i := by omega
      have hpl : p < l.length := by omega
      have hgp : (totM l i).getD p default = .int .i64 (totA l (i + 1) p) := by rw [totM_get l i hpl, if_neg (by omega)]
      have hgi : (totM l i).getD i default = .int .i64 (totW l i) := by rw [totM_get l i hil, if_pos rfl]
      have hset2 := totM_set hil (ep.trans hp) hpi
      rw [hp]
      simp only [zN, seval, implies_true, Nat.reduceLeDiff, Nat.reduceEqDiff, reduceCtorEq, reduceIte, totM_len, hpl, hil, hgp, hgi, hset2, (show (p:Int) < l.length by omega), (show (i:Int) < l.length by omega)]
      repeat ((with_reducible refine And.intro ?_ ?_); (focus (first | omega | (simp only [lenR]; omega) | (refine qq ?_; rfl) | (refine dq ?_; kernel_rfl) | (intros; simp_all; done))))
      refine ⟨i, by omega, by omega, ?_⟩
      refine weak_to [] [0, 1] rfl (by simp) ?_ rfl
      simp only [zN, seval, implies_true, Nat.reduceLeDiff, Nat.reduceEqDiff, reduceCtorEq, reduceIte, @a_wrap ((i:Int) - 1) (by omega)]
     ·have hq : ¬ 0 ≤ x.parent := of_decide_eq_false hq
      rw [totM_none hil (by rw [ep]; omega)]
      refine ⟨i, by omega, by omega, ?_⟩
      refine weak_to [] [0, 1] rfl (by simp) ?_ rfl
      simp only [zN, seval, implies_true, Nat.reduceLeDiff, Nat.reduceEqDiff, reduceCtorEq, reduceIte, @a_wrap ((i:Int) - 1) (by omega)]
 ·simp only [zN, seval, implies_true, Nat.reduceLeDiff, Nat.reduceEqDiff, reduceCtorEq, reduceIte, mkS_ints, mkS_bools]
  refine ⟨mk_ints _ (by omega), mk_bools _ (by omega), ?_⟩
  refine loop_of (τ := Nat) (fun j => [(0, .d (.sl (l.map NodeT.toD))), (5, .osl 0 0 l.length), (6, .osl 1 0 l.length), (7, .d (.int .i64 ((j : Int) - 1)))]) (fun j => [.arr 1 (totL l j), .arr 1 (leafL l j)]) (fun j => j ≤ l.length) (fun j => j) l.length (Nat.le_refl _) ?_ ?_
  ·rw [totL0, leafL0]
   refine weak_to [] [0, 1] rfl (by simp) ?_ rfl
   simp only [zN, seval, implies_true, Nat.reduceLeDiff, Nat.reduceEqDiff, reduceCtorEq, reduceIte, @a_wrap ((l.length : Int) - 1) (by omega)]
  ·intro j hj
   cases j with
   | zero =>
    simp only [zN, seval, implies_true, Nat.reduceLeDiff, Nat.reduceEqDiff, reduceCtorEq, reduceIte]
    refine for_of l.length (fun k => [(5, .osl 0 0 l.length), (6, .osl 1 0 l.length), (85, .d (.sl (l.map NodeT.toD))), (86, .d (.int .i64 l.length)), (87, .d (.int .i64 k))]) (fun _ => [.arr 1 (totL l 0), .arr 1 (leafL l 0)]) (fun k => (List.range k).any (totBad l) = false) rfl ?_ ?_
    ·refine weak_to [] [0, 1] rfl (by simp) ?_ rfl
     simp only [zN, seval, implies_true, Nat.reduceLeDiff, Nat.reduceEqDiff, reduceCtorEq, reduceIte, Int.cast_ofNat_Int]
    ·intro k hi hk
     by_cases h : k < l.length
     ·obtain ⟨x, hx⟩ : ∃ x, x = l.getD k default := ⟨_, rfl⟩
      have hlf : (leafL l 0).getD k default = .bool (leafB l k) := by rw [leafL_get l 0 h]; simp
      have htl : (totL l 0).getD k default = .int .i64 (totW l k) := by rw [totL_get l 0 h, totA, if_pos (Nat.zero_le _)]
      have hbad : totBad l k = ((leafB l k && (x.count == 0)) || (x.total != totW l k)) := by rw [hx]; rfl
      have hstep : (List.range (k + 1)).any (totBad l) = totBad l k := by
       rw [List.range_succ, List.any_append, hi]; simp
      simp only [zN, seval, implies_true, Nat.reduceLeDiff, Nat.reduceEqDiff, reduceCtorEq, reduceIte, (show (k:Int) < l.length by omega), h, a_getD _ _ _ (show k < l.length by omega)]
      rw [← hx]
      simp only [zN, seval, implies_true, Nat.reduceLeDiff, Nat.reduceEqDiff, reduceCtorEq, reduceIte, totL_len, leafL_len, h, hlf, htl]
      repeat ((with_reducible refine And.intro ?_ ?_); (focus (first | omega | (simp only [lenR]; omega) | (refine qq ?_; rfl) | (refine dq ?_; kernel_rfl) | (intros; simp_all; done))))
      rw [← hbad]
      refine ifC.mk (fun hb => ?_) (fun hb => ?_)
      ·refine ⟨_, _, ret_d, ?_, rfl⟩
       rw [hF1, if_pos (List.any_eq_true.2 ⟨k, by simpa using h, hb⟩)]
      ·refine ⟨hstep.trans hb, ?_⟩
       refine weak_to [] [0, 1] rfl (by simp) ?_ rfl
       simp only [zN, seval, implies_true, Nat.reduceLeDiff, Nat.reduceEqDiff, reduceCtorEq, reduceIte, @a_wrap ((k:Int) + 1) (by omega)]
     ·simp only [zN, seval, implies_true, Nat.reduceLeDiff, Nat.reduceEqDiff, reduceCtorEq, reduceIte, (show ¬ (k:Int) < l.length by omega)]
      have : k = l.length := by omega
      subst this
      refine ⟨_, _, ret_d, ?_, rfl⟩
      rw [hF1, if_neg (by rw [hi]; simp)]
   | succ i =>
    have ei : (((i + 1 : Nat) : Int) - 1) = i := by omega
    rw [ei]
    have hil : i < l.length := hj
    obtain ⟨x, hx⟩ : ∃ x, x = l.getD i default := ⟨_, rfl⟩
    have htree := tree_of h3
    have es : sf l i = x.self := by rw [hx]; rfl
    have ep : par l i = x.parent := by rw [hx]; rfl
    have hself := tot_self htree hil
    rw [es] at hself
    simp only [zN, seval, implies_true, Nat.reduceLeDiff, Nat.reduceEqDiff, reduceCtorEq, reduceIte, (show (0:Int) ≤ i by omega), totL_len, hil, totL_get l (i + 1) hil, a_getD _ _ _ (show i < l.length by omega), (show (i:Int) < l.length by omega)]
    rw [← hx]
    simp only [zN, seval, implies_true, Nat.reduceLeDiff, Nat.reduceEqDiff, reduceCtorEq, reduceIte, hself, @a_wrap ((i:Int) + 1) (by omega), totL_setM]
    repeat ((with_reducible refine And.intro ?_ ?_); (focus (first | omega | (simp only [lenR]; omega) | (refine qq ?_; rfl) | (refine dq ?_; kernel_rfl) | (intros; simp_all; done))))
    by_cases hlast : i + 1 = l.length
    ·have hb : leafB l i = true := by simp [leafB, hlast]
     have hset : (leafL l (i + 1)).set i (.bool true) = leafL l i := by rw [← hb]; exact leafL_set l i
     simp only [zN, seval, implies_true, Nat.reduceLeDiff, Nat.reduceEqDiff, reduceCtorEq, reduceIte, a_eq_t (show (i:Int) + 1 = l.length by omega), Bool.not_true]
     repeat ((with_reducible refine And.intro ?_ ?_); (focus (first | omega | (simp only [lenR]; omega) | (refine qq ?_; rfl) | (refine dq ?_; kernel_rfl) | (intros; simp_all; done))))
     simp only [zN, seval, implies_true, Nat.reduceLeDiff, Nat.reduceEqDiff, reduceCtorEq, reduceIte, leafL_len, hil, hset]
     have tp := tree_par htree hil
     rw [ep] at tp
     refine ifC.mk (fun hq => ?_) (fun hq => ?_)
     ·have hq : 0 ≤ x.parent := of_decide_eq_true hq
      obtain ⟨p, hp⟩ : ∃ p : Nat, x.parent = p := ⟨x.parent.toNat, by omega⟩
      have hpi : p < i := by omega
      have hpl : p < l.length := by omega
      have hgp : (totM l i).getD p default = .int .i64 (totA l (i + 1) p) := by rw [totM_get l i hpl, if_neg (by omega)]
      have hgi : (totM l i).getD i default = .int .i64 (totW l i) := by rw [totM_get l i hil, if_pos rfl]
      have hset2 := totM_set hil (ep.trans hp) hpi
      rw [hp]
      simp only [zN, seval, implies_true, Nat.reduceLeDiff, Nat.reduceEqDiff, reduceCtorEq, reduceIte, totM_len, hpl, hil, hgp, hgi, hset2, (show (p:Int) < l.length by omega), (show (i:Int) < l.length by omega)]
      repeat ((with_reducible refine And.intro ?_ ?_); (focus (first | omega | (simp only [lenR]; omega) | (refine qq ?_; rfl) | (refine dq ?_; kernel_rfl) | (intros; simp_all; done))))
      refine ⟨i, by omega, by omega, ?_⟩
      refine weak_to [] [0, 1] rfl (by simp) ?_ rfl
      simp only [zN, seval, implies_true, Nat.reduceLeDiff, Nat.reduceEqDiff, reduceCtorEq, reduceIte, @a_wrap ((i:Int) - 1) (by omega)]
     ·have hq : ¬ 0 ≤ x.parent := of_decide_eq_false hq
      rw [totM_none hil (by rw [ep]; omega)]
      refine ⟨i, by omega, by omega, ?_⟩
      refine weak_to [] [0, 1] rfl (by simp) ?_ rfl
      simp only [zN, seval, implies_true, Nat.reduceLeDiff, Nat.reduceEqDiff, reduceCtorEq, reduceIte, @a_wrap ((i:Int) - 1) (by omega)]
    ·obtain ⟨y, hy⟩ : ∃ y, y = l.getD (i + 1) default := ⟨_, rfl⟩
     have hy2 : par l (i + 1) = y.parent := by rw [hy]; rfl
     have hb : leafB l i = (y.parent != (i : Int)) := by
      simp only [leafB, hlast, decide_false, Bool.false_or, hy2]; rfl
     have hset : (leafL l (i + 1)).set i (.bool (y.parent != (i : Int))) = leafL l i := by rw [← hb]; exact leafL_set l i
     have en : ((i : Int) + 1).toNat = i + 1 := by omega
     have eg : (l.map NodeT.toD).getD (i + 1) default = y.toD := by rw [a_getD _ _ _ (by omega), ← hy]
     simp only [zN, seval, implies_true, Nat.reduceLeDiff, Nat.reduceEqDiff, reduceCtorEq, reduceIte, a_eq_f (show ¬ ((i:Int) + 1 = l.length) by omega), Bool.not_false, en, eg]
     repeat ((with_reducible refine And.intro ?_ ?_); (focus (first | omega | (simp only [lenR]; omega) | (refine qq ?_; rfl) | (refine dq ?_; kernel_rfl) | (intros; simp_all; done))))
     simp only [zN, seval, implies_true, Nat.reduceLeDiff, Nat.reduceEqDiff, reduceCtorEq, reduceIte, leafL_len, hil, hset]
     have tp := tree_par htree hil
     rw [ep] at tp
     refine ifC.mk (fun hq => ?_) (fun hq => ?_)
     ·have hq : 0 ≤ x.parent := of_decide_eq_true hq
      obtain ⟨p, hp⟩ : ∃ p : Nat, x.parent = p := ⟨x.parent.toNat, by omega⟩
      have hpi : p < i := by omega
      have hpl : p < l.length := by omega
      have hgp : (totM l i).getD p default = .int .i64 (totA l (i + 1) p) := by rw [totM_get l i hpl, if_neg (by omega)]
      have hgi : (totM l i).getD i default = .int .i64 (totW l i) := by rw [totM_get l i hil, if_pos rfl]
      have hset2 := totM_set hil (ep.trans hp) hpi
      rw [hp]
      simp only [zN, seval, implies_true, Nat.reduceLeDiff, Nat.reduceEqDiff, reduceCtorEq, reduceIte, totM_len, hpl, hil, hgp, hgi, hset2, (show (p:Int) < l.length by omega), (show (i:Int) < l.length by omega)]
      repeat ((with_reducible refine And.intro ?_ ?_); (focus (first | omega | (simp only [lenR]; omega) | (refine qq ?_; rfl) | (refine dq ?_; kernel_rfl) | (intros; simp_all; done))))
      refine ⟨i, by omega, by omega, ?_⟩
      refine weak_to [] [0, 1] rfl (by simp) ?_ rfl
      simp only [zN, seval, implies_true, Nat.reduceLeDiff, Nat.reduceEqDiff, reduceCtorEq, reduceIte, @a_wrap ((i:Int) - 1) (by omega)]
     ·have hq : ¬ 0 ≤ x.parent := of_decide_eq_false hq
      rw [totM_none hil (by rw [ep]; omega)]
      refine ⟨i, by omega, by omega, ?_⟩
      refine weak_to [] [0, 1] rfl (by simp) ?_ rfl
      simp only [zN, seval, implies_true, Nat.reduceLeDiff, Nat.reduceEqDiff, reduceCtorEq, reduceIte, @a_wrap ((i:Int) - 1) (by omega)]
end YtfmbadfdbjhekaaDoor
end Go.Proofs
