/- A part of the proof: contracts of functions of this seat, and lemmas. No condition beyond those stated. -/
import Derived.Test.YtfmbadfdbjhekaaDoorWdna
set_option linter.unusedVariables false
set_option linter.unusedSimpArgs false
set_option linter.unusedSectionVars false
set_option linter.unnecessarySimpa false
set_option maxRecDepth 100000
namespace Go.Proofs
open Go.AM
namespace YtfmbadfdbjhekaaDoor
variable {Gl : Globs}
def lastM (l : List NodeT) (i : Nat) : Key → Option AV
 | .i p => (lastSib l i p).map fun k => .d (.str (nm l k))
 | .s _ => none
theorem lastM0 (l : List NodeT) : (fun _ => none) = lastM l 0 := by funext k; cases k <;> rfl
theorem lastM_set (l : List NodeT) (i : Nat) : mset (lastM l i) (.i (par l i)) (.d (.str (nm l i))) = lastM l (i + 1) := by
 funext k
 cases k with
 | i m =>
  show (if Key.i m = Key.i (par l i) then _ else lastM l i (.i m)) = (lastSib l (i + 1) m).map _
  rw [lastSib]
  by_cases e : par l i = m
  ·rw [if_pos (by rw [e]), if_pos e]; rfl
  ·rw [if_neg (fun h => by cases h; exact e rfl), if_neg e]; rfl
 | s l => rfl
theorem lastM_still (l : List NodeT) (i : Nat) : ∀ k v, lastM l i k = some v → ∃ d, v = .d d := by
 intro k v h
 cases k with
 | i m =>
  simp only [lastM] at h
  cases hs : lastSib l i m with
  | none => rw [hs] at h; cases h
  | some j => rw [hs] at h; cases h; exact ⟨_, rfl⟩
 | s l => cases h
theorem lastM_ren (l : List NodeT) (i : Nat) (ρ : List Nat) (σ : Sto) : (fun k => (lastM l i k).map (renV ρ σ)) = lastM l i := map_still (fun d => by simp [renV, ren0]) (lastM_still l i)
theorem lastM_i (l : List NodeT) (i : Nat) (p : Int) : lastM l i (.i p) = (lastSib l i p).map fun k => .d (.str (nm l k)) := rfl
theorem orderE_bad {l : List NodeT} {k : Nat} (h : k < l.length) (hi : firstErr (orderE l) k = 0) {e : Int} (he : orderE l k = e) (h0 : e ≠ 0) : firstErr (orderE l) l.length = e := by
 subst he; exact firstErr_at hi h0 h
theorem y_some {α : Type} (x : α) : (some x).isSome = true := rfl
theorem opt_none {α β : Type} (f : α → β) : Option.map f none = none := rfl
theorem opt_some {α β : Type} (f : α → β) (x : α) : Option.map f (some x) = some (f x) := rfl
theorem getD_none {α : Type} (d : α) : (none : Option α).getD d = d := rfl
theorem getD_some {α : Type} (x d : α) : (some x).getD d = x := rfl
theorem k_order (l : List NodeT) (hl : l.length ≤ 2000) : Pure Tryd.prog Gl 34 [.d (.sl (l.map NodeT.toD))] (.d (.int .i64 (firstErr (orderE l) l.length))) := by
 refine Pure.of1 ?_
 refine acalls_of Tryd.func34 rfl rfl (by simp [Tryd.ntmps34]) (evC_sound rfl _ _ _ _ ?_)
 simp only [Tryd.ntmps34, Tryd.results34, argEnv, List.length_nil]
 simp only [zN, seval, implies_true, Nat.reduceLeDiff, Nat.reduceEqDiff, reduceCtorEq, reduceIte]
 rw [lastM0 l]
 refine for_of l.length (fun k => [(0, .d (.sl (l.map NodeT.toD))), (3, .mapr 0), (10, .d (.sl (l.map NodeT.toD))), (11, .d (.int .i64 l.length)), (12, .d (.int .i64 k))]) (fun k => [.map (some .i64) (lastM l k)]) (fun k => firstErr (orderE l) k = 0) rfl ?_ ?_
 ·refine weak_to [] [0] rfl (by simp) ?_ ?_
  ·simp only [zN, seval, implies_true, Nat.reduceLeDiff, Nat.reduceEqDiff, reduceCtorEq, reduceIte, Int.cast_ofNat_Int]
  ·show [renB [0] _ (.map _ _)] = _
   simp only [renB, lastM_ren]
 ·intro k hi hk
  by_cases h : k < l.length
  ·obtain ⟨x, hx⟩ : ∃ x, x = l.getD k default := ⟨_, rfl⟩
   have htree := tree_of hi
   have ep : par l k = x.parent := by rw [hx]; rfl
   have en : nm l k = x.name := by rw [hx]; rfl
   simp only [zN, seval, implies_true, Nat.reduceLeDiff, Nat.reduceEqDiff, reduceCtorEq, reduceIte, (show (k:Int) < l.length by omega), h, a_getD _ _ _ (show k < l.length by omega), @a_wrap ((k:Int) - 1) (by omega)]
   rw [← hx]
   repeat ((with_reducible refine And.intro ?_ ?_); (focus (first | omega | (simp only [lenR]; omega) | (refine qq ?_; rfl) | (refine dq ?_; kernel_rfl) | (intros; simp_all; done))))
   refine loop_of (τ := Int) (fun a => [(0, .d (.sl (l.map NodeT.toD))), (3, .mapr 0), (4, .d (.int .i64 k)), (5, .ptr 1 0), (6, .d (.int .i64 a)), (10, .d (.sl (l.map NodeT.toD))), (11, .d (.int .i64 l.length)), (12, .d (.int .i64 k))]) (fun _ => [.map (some .i64) (lastM l k), .box 5 (.d x.toD)])
    (fun a => -1 ≤ a ∧ a < k ∧ upW l x.parent a = upW l x.parent ((k : Int) - 1)) (fun a => (a + 1).toNat) ((k : Int) - 1) ⟨by omega, by omega, rfl⟩ ?_ ?_
   ·refine weak_to [] [0, 1] rfl (by simp) ?_ ?_
    ·simp only [zN, seval, implies_true, Nat.reduceLeDiff, Nat.reduceEqDiff, reduceCtorEq, reduceIte]
    ·show [renB [0, 1] _ (.map _ _), _] = _
     simp only [renB, lastM_ren]
     rfl
   ·intro a ⟨a1, a2, a3⟩
    simp only [zN, seval, implies_true, Nat.reduceLeDiff, Nat.reduceEqDiff, reduceCtorEq, reduceIte]
    refine ifC.mk (fun h1 => ?_) (fun h1 => ?_)
    ·have h1 : 0 ≤ a ∧ a ≠ x.parent := by simpa using h1
     have ha : a.toNat < l.length := by omega
     have eu : upW l x.parent a = upW l x.parent (par l a.toNat) := by
      have := upW_step htree (p := x.parent) (i := a.toNat) (by omega) (by omega)
      rwa [show ((a.toNat : Nat) : Int) = a by omega] at this
     have tp := tree_par htree (i := a.toNat) (by omega)
     have eg : (l.getD a.toNat default).parent = par l a.toNat := rfl
     simp only [zN, seval, implies_true, Nat.reduceLeDiff, Nat.reduceEqDiff, reduceCtorEq, reduceIte, a_getD _ _ _ (show a.toNat < l.length by omega), eg]
     repeat ((with_reducible refine And.intro ?_ ?_); (focus (first | omega | (simp only [lenR]; omega) | (refine qq ?_; rfl) | (refine dq ?_; kernel_rfl) | (intros; simp_all; done))))
     refine ⟨par l a.toNat, ⟨by omega, by omega, by rw [← eu, a3]⟩, by omega, ?_⟩
     refine weak_to [] [0, 1] rfl (by simp) ?_ ?_
     ·simp only [zN, seval, implies_true, Nat.reduceLeDiff, Nat.reduceEqDiff, reduceCtorEq, reduceIte]
     ·show [renB [0, 1] _ (.map _ _), _] = _
      simp only [renB, lastM_ren]
      rfl
    have h1' : ¬ (0 ≤ a ∧ a ≠ x.parent) := by simpa using h1
    have hform : formOk l k = true ↔ x.parent = a := by
     simp only [formOk, Bool.or_eq_true, Bool.and_eq_true, decide_eq_true_eq, beq_iff_eq, ep]
     rw [← a3]
     constructor
     ·rintro (g | ⟨⟨g1, g2⟩, g3⟩)
      ·omega
      ·have := upW_nn _ (Nat.le_refl _) g3
       by_cases e : 0 ≤ a
       ·exact (Decidable.not_not.1 fun e2 => h1' ⟨e, fun e3 => e2 e3.symm⟩)
       ·rw [upW_neg (by omega)] at g3; cases g3
     ·rintro rfl
      by_cases e : 0 ≤ x.parent
      ·exact .inr ⟨⟨e, a2⟩, by
        have := upW_self (l := l) (i := x.parent.toNat)
        rwa [show ((x.parent.toNat : Nat) : Int) = x.parent by omega] at this⟩
      ·exact .inl (by omega)
    refine ifC.mk (fun h2 => ?_) (fun h2 => ?_)
    ·have h2 : x.parent ≠ a := by simpa using h2
     refine ⟨_, _, ret_d, ?_, rfl⟩
     rw [orderE_bad h hi (e := 10) (by rw [orderE, if_neg (fun g => h2 (hform.1 g))]) (by decide)]
    have h2 : x.parent = a := by simpa using h2
    have hform := hform.2 h2
    have hset : mset (lastM l k) (.i x.parent) (.d (.str x.name)) = lastM l (k + 1) := by rw [← ep, ← en]; exact lastM_set l k
    cases hs : lastSib l k x.parent with
    | none =>
     have ho : orderE l k = 0 := by rw [orderE, if_pos hform, ep, hs]
     simp only [zN, seval, implies_true, Nat.reduceLeDiff, Nat.reduceEqDiff, reduceCtorEq, reduceIte, lastM_i, hs, opt_none, getD_none, y_isNone]
     rw [hset]
     refine ⟨firstErr_step hi ho, ?_⟩
     refine weak_to [] [0] rfl (by simp) ?_ ?_
     ·simp only [zN, seval, implies_true, Nat.reduceLeDiff, Nat.reduceEqDiff, reduceCtorEq, reduceIte, @a_wrap ((k:Int) + 1) (by omega)]
     ·show [renB [0] _ (.map _ _)] = _
      simp only [renB, lastM_ren]
    | some j =>
     simp only [zN, seval, implies_true, Nat.reduceLeDiff, Nat.reduceEqDiff, reduceCtorEq, reduceIte, lastM_i, hs, opt_some, getD_some, y_some]
     rw [hset]
     have hor : orderE l k = if Op.bytesLess (nm l j) x.name = true then 0 else 11 := by rw [orderE, if_pos hform, ep, hs, ← en]
     have hle : (Op.bytesLess x.name (nm l j) || x.name == nm l j) = !Op.bytesLess (nm l j) x.name := by
      rcases bl_cases x.name (nm l j) with ⟨q1, q2, q3⟩ | ⟨q1, q2, q3⟩ | ⟨q1, q2, q3⟩
      ·rw [q1, q3]; rfl
      ·rw [q2, bl_irr]; simp
      ·rw [q1, q3]; simp [q2]
     rw [hle] at *
     refine ifC.mk (fun h3 => ?_) (fun h3 => ?_)
     ·have h3 : Op.bytesLess (nm l j) x.name = false := by simpa using h3
      refine ⟨_, _, ret_d, ?_, rfl⟩
      rw [orderE_bad h hi (e := 11) (by rw [hor, h3]; rfl) (by decide)]
     ·have h3 : Op.bytesLess (nm l j) x.name = true := by simpa using h3
      have ho : orderE l k = 0 := by rw [hor, h3]; rfl
      refine ⟨firstErr_step hi ho, ?_⟩
      refine weak_to [] [0] rfl (by simp) ?_ ?_
      ·simp only [zN, seval, implies_true, Nat.reduceLeDiff, Nat.reduceEqDiff, reduceCtorEq, reduceIte, @a_wrap ((k:Int) + 1) (by omega)]
      ·show [renB [0] _ (.map _ _)] = _
       simp only [renB, lastM_ren]
  ·simp only [zN, seval, implies_true, Nat.reduceLeDiff, Nat.reduceEqDiff, reduceCtorEq, reduceIte, (show ¬ (k:Int) < l.length by omega)]
   have : k = l.length := by omega
   subst this
   refine ⟨_, _, ret_d, ?_, rfl⟩
   rw [hi]
end YtfmbadfdbjhekaaDoor
end Go.Proofs
