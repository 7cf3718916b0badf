/- A part of the proof: contracts of functions of this seat, and lemmas. No condition beyond those stated. -/
import Derived.Test.YtfmbadfdbjhekaaDoorWdob
set_option linter.unusedVariables false
set_option linter.unusedSimpArgs false
set_option linter.unusedSectionVars false
set_option linter.unnecessarySimpa false
set_option maxRecDepth 100000
namespace Go.Proofs
open Go.AM
namespace YtfmbadfdbjhekaaDoor
variable {Gl : Globs}
def fdS (at_ : Int) (s : List UInt8) : Sto := [.box 1 (.d (.int .i64 at_)), .box 1 (.d (.str s))]
theorem k_fd1 (x : NodeT) (at_ : Int) (s : List UInt8) : ACalls Tryd.prog Gl 39 [.d x.toD, .ptr 0 0, .ptr 1 0] (fdS at_ s) (fun r σ => r = .d (.bool (x.parent == at_ && x.name == s)) ∧ σ = fdS at_ s) := by
 refine acalls_of Tryd.func39 rfl rfl (by simp [Tryd.ntmps39]) (evC_sound rfl _ _ _ _ ?_)
 simp only [Tryd.ntmps39, Tryd.results39, argEnv, List.length_nil]
 simp only [zN, seval, implies_true, Nat.reduceLeDiff, Nat.reduceEqDiff, reduceCtorEq, reduceIte, intD, fdS]
 repeat ((with_reducible refine And.intro ?_ ?_); (focus (first | omega | (simp only [lenR]; omega) | (refine qq ?_; rfl) | (refine dq ?_; kernel_rfl) | (intros; simp_all; done))))
 refine ⟨_, _, weakR_to [] [0, 1] rfl (by simp) (show renV _ _ _ = AV.d _ from rfl) rfl, ?_, rfl⟩
 try rfl
theorem k_fdIdx (l : List NodeT) (hl : l.length ≤ 2000) (at_ : Int) (s : List UInt8) : ACalls Tryd.prog Gl 38 [.d (.sl (l.map NodeT.toD)), .fn 39 [.ptr 0 0, .ptr 1 0]] (fdS at_ s)
  (fun r σ => (∃ j : Int, r = .d (.int .i64 j) ∧ (j < 0 ∨ ∃ k : Nat, j = k ∧ k < l.length ∧ par l k = at_ ∧ nm l k = s)) ∧ σ = fdS at_ s) := by
 refine acalls_of Tryd.func38 rfl rfl (by simp [Tryd.ntmps38]) (evC_sound rfl _ _ _ _ ?_)
 simp only [Tryd.ntmps38, Tryd.results38, argEnv, List.length_nil]
 simp only [zN, seval, implies_true, Nat.reduceLeDiff, Nat.reduceEqDiff, reduceCtorEq, reduceIte, intD]
 refine for_of l.length (fun k => [(0, .d (.sl (l.map NodeT.toD))), (1, .fn 39 [.ptr 0 0, .ptr 1 0]), (7, .d (.int .i64 l.length)), (8, .d (.int .i64 k))]) (fun _ => fdS at_ s) (fun _ => True) trivial ?_ ?_
 ·refine weak_sub ?_
  simp only [zN, seval, implies_true, Nat.reduceLeDiff, Nat.reduceEqDiff, reduceCtorEq, reduceIte, intD, Int.cast_ofNat_Int]
 ·intro k _ hk
  by_cases h : k < l.length
  ·obtain ⟨x, hx⟩ : ∃ x, x = l.getD k default := ⟨_, rfl⟩
   have eg : (l.map NodeT.toD).getD k default = x.toD := by rw [a_getD _ _ _ h, ← hx]
   have en : nm l k = x.name := by rw [hx]; rfl
   have ep : par l k = x.parent := by rw [hx]; rfl
   simp only [zN, seval, implies_true, Nat.reduceLeDiff, Nat.reduceEqDiff, reduceCtorEq, reduceIte, intD, (show (k:Int) < l.length by omega), h, eg]
   repeat ((with_reducible refine And.intro ?_ ?_); (focus (first | omega | (simp only [lenR]; omega) | (refine qq ?_; rfl) | (refine dq ?_; kernel_rfl) | (intros; simp_all; done))))
   refine callF_go ((k_fd1 x at_ s).mono fun r σ hr => ?_)
   obtain ⟨rfl, rfl⟩ := hr
   simp only [zN, seval, implies_true, Nat.reduceLeDiff, Nat.reduceEqDiff, reduceCtorEq, reduceIte, intD]
   refine ifC.mk (fun hc => ?_) (fun hc => ?_)
   ·have hc : x.parent = at_ ∧ x.name = s := by simpa using hc
    exact ⟨_, _, WeakR.refl _ _ _, ⟨k, rfl, .inr ⟨k, rfl, h, ep.trans hc.1, en.trans hc.2⟩⟩, rfl⟩
   ·refine weak_sub ?_
    simp only [zN, seval, implies_true, Nat.reduceLeDiff, Nat.reduceEqDiff, reduceCtorEq, reduceIte, intD, @a_wrap ((k:Int) + 1) (by omega)]
  ·have : k = l.length := by omega
   subst this
   simp only [zN, seval, implies_true, Nat.reduceLeDiff, Nat.reduceEqDiff, reduceCtorEq, reduceIte, intD, (show ¬ (l.length:Int) < l.length by omega)]
   exact ⟨_, _, WeakR.refl _ _ _, ⟨-1, rfl, .inl (by decide)⟩, rfl⟩
def pathI (l : List NodeT) (i : Int) : List (List UInt8) := (upN l (i + 1).toNat i).reverse
theorem pathI_nat (l : List NodeT) (i : Nat) : pathI l i = pathN l i := by
 rw [pathI, pathN, show ((i : Int) + 1).toNat = i + 1 by omega]
theorem pathI_neg (l : List NodeT) {i : Int} (h : i < 0) : pathI l i = [] := by rw [pathI, upN_neg l _ h]; rfl
theorem pathI_kid {l : List NodeT} (ht : TreeUp l l.length) {q : Nat} (hq : q < l.length) : pathI l q = pathI l (par l q) ++ [nm l q] := by
 have tp := tree_par ht hq
 rw [pathI_nat, pathN, upN_nat, List.reverse_cons, pathI, upN_fuel ht (par l q + 1).toNat q (par l q) (by omega) (by omega) (by omega)]
theorem k_Find (l : List NodeT) (hl : l.length ≤ 2000) (y : List (List UInt8)) (hy : y.length ≤ 2000) : ACalls Tryd.prog Gl 23 [.d (.sl (l.map NodeT.toD)), .d (.sl (y.map .str))] []
  (fun r σ => (∃ j : Int, r = .d (.int .i64 j) ∧ (j < 0 ∨ ∃ k : Nat, j = k ∧ k < l.length ∧ checkF l = 0 ∧ pathN l k = y)) ∧ σ = []) := by
 refine acalls_of Tryd.func23 rfl rfl (by simp [Tryd.ntmps23]) (evC_sound rfl _ _ _ _ ?_)
 simp only [Tryd.ntmps23, Tryd.results23, argEnv, List.length_nil]
 simp only [zN, seval, implies_true, Nat.reduceLeDiff, Nat.reduceEqDiff, reduceCtorEq, reduceIte, intD]
 refine callF_pure (k_flameCheck l (by omega)) ?_
 simp only [zN, seval, implies_true, Nat.reduceLeDiff, Nat.reduceEqDiff, reduceCtorEq, reduceIte, intD]
 repeat ((with_reducible refine And.intro ?_ ?_); (focus (first | omega | (simp only [lenR]; omega) | (refine qq ?_; rfl) | (refine dq ?_; kernel_rfl) | (intros; simp_all; done))))
 refine ifC.mk (fun h1 => ?_) (fun h1 => ?_)
 ·exact ⟨_, _, ret_d, ⟨-1, rfl, .inl (by decide)⟩, rfl⟩
 ·have h1' : checkF l = 0 ∧ y.length ≠ 0 := by
   simp only [Bool.or_eq_false_iff, bne_eq_false_iff_eq, beq_eq_false_iff_ne, ne_eq] at h1
   omega
  clear h1
  obtain ⟨h1, h2⟩ := h1'
  have ht := (checkF_ok h1).2.2.2.1
  repeat ((with_reducible refine And.intro ?_ ?_); (focus (first | omega | (simp only [lenR]; omega) | (refine qq ?_; rfl) | (refine dq ?_; kernel_rfl) | (intros; simp_all; done))))
  refine loop_of (τ := Nat × Int) (fun u => [(0, .d (.sl (l.map NodeT.toD))), (5, .ptr 0 0), (16, .d (.sl (y.map .str))), (17, .d (.int .i64 y.length)), (18, .d (.int .i64 u.1))]) (fun u => [.box 1 (.d (.int .i64 u.2))])
   (fun u => u.1 ≤ y.length ∧ -1 ≤ u.2 ∧ u.2 < l.length ∧ pathI l u.2 = y.take u.1) (fun u => y.length - u.1) (0, -1) ⟨Nat.zero_le _, by decide, by simp only; omega, pathI_neg l (by decide)⟩ ?_ ?_
  ·refine weak_to [] [0] rfl (by simp) ?_ rfl
   simp only [zN, seval, implies_true, Nat.reduceLeDiff, Nat.reduceEqDiff, reduceCtorEq, reduceIte, intD, Int.cast_ofNat_Int]
  ·rintro ⟨j, at_⟩ ⟨hj, ha1, ha2, hp⟩
   simp only at hj ha1 ha2 hp
   by_cases h : j < y.length
   ·obtain ⟨s, hs⟩ : ∃ s, s = y.getD j default := ⟨_, rfl⟩
    have gs : (y.map D.str).getD j default = .str s := by rw [hs]; simp [h]
    have ey := take_step y j h
    rw [← hs] at ey
    simp only [zN, seval, implies_true, Nat.reduceLeDiff, Nat.reduceEqDiff, reduceCtorEq, reduceIte, intD, (show (j:Int) < y.length by omega), h, gs]
    repeat ((with_reducible refine And.intro ?_ ?_); (focus (first | omega | (simp only [lenR]; omega) | (refine qq ?_; rfl) | (refine dq ?_; kernel_rfl) | (intros; simp_all; done))))
    refine callF_go ((k_fdIdx l hl at_ s).mono fun r σ hr => ?_)
    obtain ⟨⟨c, rfl, hcs⟩, rfl⟩ := hr
    simp only [zN, seval, implies_true, Nat.reduceLeDiff, Nat.reduceEqDiff, reduceCtorEq, reduceIte, intD, fdS]
    repeat ((with_reducible refine And.intro ?_ ?_); (focus (first | omega | (simp only [lenR]; omega) | (refine qq ?_; rfl) | (refine dq ?_; kernel_rfl) | (intros; simp_all; done))))
    rcases hcs with hc | ⟨k, rfl, hk, hpk, hnk⟩
    ·simp only [zN, seval, implies_true, Nat.reduceLeDiff, Nat.reduceEqDiff, reduceCtorEq, reduceIte, intD, decide_eq_true hc]
     exact ⟨_, _, ret_d, ⟨-1, rfl, .inl (by decide)⟩, rfl⟩
    ·simp only [zN, seval, implies_true, Nat.reduceLeDiff, Nat.reduceEqDiff, reduceCtorEq, reduceIte, intD, (show ¬ (k:Int) < 0 by omega)]
     refine ⟨(j + 1, (k : Int)), ⟨h, by simp only; omega, by simp only; omega, ?_⟩, by simp only; omega, ?_⟩
     ·simp only
      rw [pathI_kid ht hk, hpk, hp, hnk, ey]
     ·refine weak_to [] [0] rfl (by simp) ?_ rfl
      simp only [zN, seval, implies_true, Nat.reduceLeDiff, Nat.reduceEqDiff, reduceCtorEq, reduceIte, intD, @a_wrap ((j:Int) + 1) (by omega)]
   ·have : j = y.length := by omega
    subst this
    rw [List.take_length] at hp
    simp only [zN, seval, implies_true, Nat.reduceLeDiff, Nat.reduceEqDiff, reduceCtorEq, reduceIte, intD, (show ¬ (y.length:Int) < y.length by omega)]
    refine ⟨_, _, ret_d, ⟨at_, rfl, ?_⟩, rfl⟩
    by_cases hn : at_ < 0
    ·exact .inl hn
    ·obtain ⟨k, rfl⟩ : ∃ k : Nat, at_ = k := ⟨at_.toNat, by omega⟩
     exact .inr ⟨k, rfl, by omega, h1, by rw [← pathI_nat]; exact hp⟩
end YtfmbadfdbjhekaaDoor
end Go.Proofs
