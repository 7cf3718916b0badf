/- A part of the proof: contracts of functions of this seat, and lemmas. No condition beyond those stated. -/
import Derived.Test.YtfmbadfdbjhekaaDoorWdoa
set_option linter.unusedVariables false
set_option linter.unusedSimpArgs false
set_option linter.unusedSectionVars false
set_option linter.unnecessarySimpa false
set_option maxRecDepth 100000
namespace Go.Proofs
open Go.AM
namespace YtfmbadfdbjhekaaDoor
variable {Gl : Globs}
def upN (l : List NodeT) : Nat → Int → List (List UInt8)
 | 0, _ => []
 | f + 1, i => if 0 ≤ i then nm l i.toNat :: upN l f (par l i.toNat) else []
theorem upN_neg (l : List NodeT) (f : Nat) {i : Int} (h : i < 0) : upN l f i = [] := by
 cases f with
 | zero => rfl
 | succ f => rw [upN, if_neg (by omega)]
theorem upN_nat (l : List NodeT) (f i : Nat) : upN l (f + 1) i = nm l i :: upN l f (par l i) := by
 rw [upN, if_pos (by omega), Int.toNat_natCast]
theorem upN_fuel {l : List NodeT} (h : TreeUp l l.length) : ∀ (f g : Nat) (i : Int), i < l.length → i < f → i < g → upN l f i = upN l g i := by
 intro f
 induction f with
 | zero =>
  intro g i hi hf hg
  rw [upN_neg l _ (by omega), upN_neg l _ (by omega)]
 | succ f ih =>
  intro g i hi hf hg
  cases g with
  | zero => rw [upN_neg l _ (by omega), upN_neg l _ (by omega)]
  | succ g =>
   by_cases h0 : 0 ≤ i
   ·obtain ⟨k, rfl⟩ : ∃ k : Nat, i = k := ⟨i.toNat, by omega⟩
    have tp := tree_par h (show k < l.length by omega)
    rw [upN_nat, upN_nat, ih g (par l k) (by omega) (by omega) (by omega)]
   ·rw [upN_neg l _ (by omega), upN_neg l _ (by omega)]
theorem upN_len (l : List NodeT) : ∀ (f : Nat) (i : Int), (upN l f i).length ≤ f := by
 intro f
 induction f with
 | zero => intro i; exact Nat.le_refl _
 | succ f ih =>
  intro i
  rw [upN]
  split
  ·have := ih (par l i.toNat)
   simp only [List.length_cons]; omega
  ·simp
def pathN (l : List NodeT) (i : Nat) : List (List UInt8) := (upN l (i + 1) i).reverse
theorem pathN_len (l : List NodeT) (i : Nat) : (pathN l i).length ≤ i + 1 := by
 rw [pathN, List.length_reverse]; exact upN_len l _ _
theorem k_path (l : List NodeT) (hl : l.length ≤ 2000) (ht : TreeUp l l.length) (i : Nat) (hi : i < l.length) : Pure Tryd.prog Gl 37 [.d (.sl (l.map NodeT.toD)), .d (.int .i64 i)] (.d (.sl ((pathN l i).map .str))) := by
 refine Pure.of2 ?_
 refine acalls_of Tryd.func37 rfl rfl (by simp [Tryd.ntmps37]) (evC_sound rfl _ _ _ _ ?_)
 simp only [Tryd.ntmps37, Tryd.results37, argEnv, List.length_nil]
 simp only [zN, seval, implies_true, Nat.reduceLeDiff, Nat.reduceEqDiff, reduceCtorEq, reduceIte, intD]
 refine loop_of (τ := List (List UInt8) × Int) (fun u => [(0, .d (.sl (l.map NodeT.toD))), (1, .d (.int .i64 u.2)), (5, .osl 0 0 u.1.length)]) (fun u => [.arr 1 (u.1.map .str)])
  (fun u => -1 ≤ u.2 ∧ u.2 < l.length ∧ u.1.length + (u.2 + 1).toNat ≤ 2000 ∧ u.1 ++ upN l (u.2 + 1).toNat u.2 = upN l (i + 1) i) (fun u => (u.2 + 1).toNat) ([], (i : Int)) ?_ ?_ ?_
 ·refine ⟨by simp only; omega, by simp only; omega, by simp only [List.length_nil]; omega, ?_⟩
  simp only [List.nil_append]
  rw [show ((i : Int) + 1).toNat = i + 1 by omega]
 ·refine (weak_nils 5 1 rfl).trans ?_
  refine weak_to [] [0] rfl (by simp) ?_ rfl
  simp only [zN, seval, implies_true, Nat.reduceLeDiff, Nat.reduceEqDiff, reduceCtorEq, reduceIte, intD]
  try rfl
 ·rintro ⟨out, c⟩ ⟨h1, h2, h3, h4⟩
  simp only at h1 h2 h3 h4
  by_cases h : 0 ≤ c
  ·obtain ⟨k, rfl⟩ : ∃ k : Nat, c = k := ⟨c.toNat, by omega⟩
   have hkl : k < l.length := by omega
   have tp := tree_par ht hkl
   obtain ⟨x, hx⟩ : ∃ x, x = l.getD k default := ⟨_, rfl⟩
   have eg : (l.map NodeT.toD).getD k default = x.toD := by rw [a_getD _ _ _ hkl, ← hx]
   have en : nm l k = x.name := by rw [hx]; rfl
   have ep : par l k = x.parent := by rw [hx]; rfl
   rw [ep] at tp
   rw [show ((k : Int) + 1).toNat = k + 1 by omega, upN_nat, en, ep] at h4
   simp only [zN, seval, implies_true, Nat.reduceLeDiff, Nat.reduceEqDiff, reduceCtorEq, reduceIte, intD, (show 0 ≤ (k:Int) by omega), (show (k:Int) < l.length by omega), hkl, eg]
   repeat ((with_reducible refine And.intro ?_ ?_); (focus (first | omega | (simp only [lenR]; omega) | (refine qq ?_; rfl) | (refine dq ?_; kernel_rfl) | (intros; simp_all; done))))
   refine ⟨(out ++ [x.name], x.parent), ⟨by simp only; omega, by simp only; omega, by simp only [List.length_append, List.length_singleton]; omega, ?_⟩, by simp only; omega, ?_⟩
   ·simp only
    rw [List.append_assoc, ← h4, List.singleton_append, upN_fuel ht (x.parent + 1).toNat k x.parent (by omega) (by omega) (by omega)]
   ·have hm : (out ++ [x.name]).map D.str = List.take out.length (out.map D.str) ++ [.str x.name] := by rw [List.map_append, take_all]; rfl
    have hsl : (out ++ [x.name]).length = out.length + 1 := by simp
    rw [hsl, hm]
    refine weak_to [] [2] rfl (by simp) ?_ rfl
    simp only [zN, seval, implies_true, Nat.reduceLeDiff, Nat.reduceEqDiff, reduceCtorEq, reduceIte, intD]
    try rfl
  ·rw [upN_neg l _ (by omega), List.append_nil] at h4
   simp only [zN, seval, implies_true, Nat.reduceLeDiff, Nat.reduceEqDiff, reduceCtorEq, reduceIte, intD, (show ¬ 0 ≤ c by omega)]
   repeat ((with_reducible refine And.intro ?_ ?_); (focus (first | omega | (simp only [lenR]; omega) | (refine qq ?_; rfl) | (refine dq ?_; kernel_rfl) | (intros; simp_all; done))))
   refine callF_go ((k_Reverse out (by omega)).mono fun r s hrs => ?_)
   obtain ⟨rfl, rfl⟩ := hrs
   simp only [zN, seval, implies_true, Nat.reduceLeDiff, Nat.reduceEqDiff, reduceCtorEq, reduceIte, intD]
   refine ⟨_, _, ret_data rfl (x := .sl ((pathN l i).map .str)) ?_, rfl, rfl⟩
   show D.sl (List.take out.length (out.reverse.map D.str)) = _
   rw [pathN, ← h4]
   congr 1
   rw [List.take_of_length_le (by simp)]
def pathF (l : List NodeT) (i : Int) : List (List UInt8) := if checkF l = 0 ∧ 0 ≤ i ∧ i < l.length then pathN l i.toNat else []
theorem k_Path (l : List NodeT) (hl : l.length ≤ 2000) (i : Int) : Pure Tryd.prog Gl 22 [.d (.sl (l.map NodeT.toD)), .d (.int .i64 i)] (.d (.sl ((pathF l i).map .str))) := by
 refine Pure.of2 ?_
 refine acalls_of Tryd.func22 rfl rfl (by simp [Tryd.ntmps22]) (evC_sound rfl _ _ _ _ ?_)
 simp only [Tryd.ntmps22, Tryd.results22, argEnv, List.length_nil]
 simp only [zN, seval, implies_true, Nat.reduceLeDiff, Nat.reduceEqDiff, reduceCtorEq, reduceIte, intD]
 refine callF_pure (k_flameCheck l (by omega)) ?_
 simp only [zN, seval, implies_true, Nat.reduceLeDiff, Nat.reduceEqDiff, reduceCtorEq, reduceIte, intD]
 repeat ((with_reducible refine And.intro ?_ ?_); (focus (first | omega | (simp only [lenR]; omega) | (refine qq ?_; rfl) | (refine dq ?_; kernel_rfl) | (intros; simp_all; done))))
 refine ifC.mk (fun h1 => ?_) (fun h1 => ?_)
 ·have h1 : ¬ (checkF l = 0 ∧ 0 ≤ i ∧ i < l.length) := by
   simp only [Bool.or_eq_true, bne_iff_ne, decide_eq_true_eq] at h1
   omega
  refine ⟨_, _, ret_data rfl (x := .sl ((pathF l i).map .str)) ?_, rfl, rfl⟩
  rw [pathF, if_neg h1]; rfl
 ·have h1' : checkF l = 0 ∧ 0 ≤ i ∧ i < l.length := by
   simp only [Bool.or_eq_false_iff, bne_eq_false_iff_eq, decide_eq_false_iff_not] at h1
   omega
  clear h1
  obtain ⟨h1, h2, h3⟩ := h1'
  obtain ⟨m, rfl⟩ : ∃ m : Nat, i = m := ⟨i.toNat, by omega⟩
  refine callF_pure (k_path l hl (checkF_ok h1).2.2.2.1 m (by omega)) ?_
  simp only [zN, seval, implies_true, Nat.reduceLeDiff, Nat.reduceEqDiff, reduceCtorEq, reduceIte, intD]
  refine ⟨_, _, ret_d, ?_, rfl⟩
  rw [pathF, if_pos ⟨h1, h2, h3⟩]; rfl
end YtfmbadfdbjhekaaDoor
end Go.Proofs
