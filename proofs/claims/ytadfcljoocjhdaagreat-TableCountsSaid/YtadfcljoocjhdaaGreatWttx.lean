/- A part of the proof: contracts of functions of this seat, and lemmas. No condition beyond those stated. -/
import Derived.Test.YtadfcljoocjhdaaGreatWttw
import Derived.Test.YtadfcljoocjhdaaGreatWtx
import Derived.Test.YtadfcljoocjhdaaGreatWttr
set_option linter.unusedVariables false
set_option linter.unusedSimpArgs false
set_option linter.unusedSectionVars false
set_option linter.unnecessarySimpa false
set_option maxRecDepth 100000
namespace Go.Proofs
open Go.AM
namespace YtadfcljoocjhdaaGreat
variable {Gl : Globs}
def stk (n : Nat) : Bool := !decide (40 < (n : Int))
def smallTr (t : TraceT) : Bool := !(decide (70 < (t.threads.length : Int)) || decide (40 < (t.slices.length : Int)) || decide (40 < (t.states.length : Int)) || decide (40 < (t.flows.length : Int)) || decide (40 < (t.samples.length : Int)) || decide (40 < (t.steps.length : Int)) || decide (40 < (t.blocks.length : Int)) || decide (40 < (t.lost.length : Int)))
 && (t.samples.all (fun x => stk x.stack.length) && t.blocks.all (fun x => stk x.stack.length))
theorem smallTr_ok {t : TraceT} (h : smallTr t = true) : t.Few ∧ t.Small := by
 unfold smallTr at h
 rw [Bool.and_eq_true, Bool.and_eq_true] at h
 obtain ⟨h1, h2, h3⟩ := h
 simp at h1
 refine ⟨⟨by omega, by omega, by omega, by omega, by omega, by omega, by omega, by omega, fun x hx => ?_, fun x hx => ?_⟩, ⟨by omega, by omega, by omega, by omega, by omega, by omega, by omega, by omega⟩⟩
 ·have := List.all_eq_true.1 h2 x hx
  unfold stk at this
  simp at this
  omega
 ·have := List.all_eq_true.1 h3 x hx
  unfold stk at this
  simp at this
  omega
def okK (l : List Nat) (k : Nat) : Bool := if k < l.length then stk (l.getD k default) else true
theorem okK_step {α : Type} {f : α → Nat} (l : List α) (k : Nat) : (l.take (k + 1)).all (fun x => stk (f x)) = ((l.take k).all (fun x => stk (f x)) && okK (l.map f) k) := by
 unfold okK
 by_cases h : k < l.length
 ·rw [List.take_add_one, List.all_append]
  simp [h]
 ·rw [List.take_of_length_le (by omega), List.take_of_length_le (by omega), if_neg (by simpa using h), Bool.and_true]
theorem okK_bad {α : Type} (f : α → Nat) {l : List α} {k : Nat} (h : okK (l.map f) k = false) : l.all (fun x => stk (f x)) = false := by
 unfold okK at h
 split at h
 ·rename_i h1
  have h1 : k < l.length := by simpa using h1
  rw [List.all_eq_false]
  refine ⟨l[k], List.getElem_mem h1, ?_⟩
  have : (l.map f).getD k default = f l[k] := by simp [h1]
  rw [this] at h
  rw [h]; simp
 ·cases h
theorem k_small (t : TraceT) : Pure Tryz.prog Gl 19 [.d t.toD] (.d (.bool (smallTr t))) := by
 refine Pure.of1 ?_
 obtain ⟨F, hF⟩ : ∃ F, F = smallTr t := ⟨_, rfl⟩
 rw [← hF]
 rw [smallTr] at hF
 refine acalls_of Tryz.func19 rfl rfl (by simp [Tryz.ntmps19]) (evC_sound rfl _ _ _ _ ?_)
 simp only [Tryz.ntmps19, Tryz.results19, argEnv, List.length_nil]
 simp only [zT, seval, implies_true, Nat.reduceLeDiff, Nat.reduceEqDiff, reduceCtorEq, reduceIte]
 repeat ((with_reducible refine And.intro ?_ ?_); (focus (first | omega | (simp only [lenR]; omega) | (refine qq ?_; rfl) | (refine dq ?_; kernel_rfl) | (intros; simp_all; done))))
 refine ifC.mk (fun h1 => ?_) (fun h1 => ?_)
 ·refine ⟨_, _, ret_d, ?_, rfl⟩
  rw [hF, h1]; rfl
 rw [h1, Bool.not_false, Bool.true_and] at hF
 have h0 := h1
 simp at h0
 repeat ((with_reducible refine And.intro ?_ ?_); (focus (first | omega | (simp only [lenR]; omega) | (refine qq ?_; rfl) | (refine dq ?_; kernel_rfl) | (intros; simp_all; done))))
 have hstep : ∀ k, k ≤ 40 → ((t.samples.take (k + 1)).all (fun x => stk x.stack.length) = ((t.samples.take k).all (fun x => stk x.stack.length) && okK (t.samples.map fun x => x.stack.length) k)) ∧ ((t.blocks.take (k + 1)).all (fun x => stk x.stack.length) = ((t.blocks.take k).all (fun x => stk x.stack.length) && okK (t.blocks.map fun x => x.stack.length) k)) := fun k _ => ⟨okK_step _ _, okK_step _ _⟩
 have hbad : ∀ k, okK (t.samples.map fun x => x.stack.length) k = false ∨ okK (t.blocks.map fun x => x.stack.length) k = false → F = false := fun k h => by
  rw [hF]
  rcases h with h | h
  ·rw [okK_bad (fun x : SampleT => x.stack.length) h]; rfl
  ·rw [okK_bad (fun x : BlockT => x.stack.length) h, Bool.and_false]
 refine for_of 40 (fun k => [(1, .ptr 0 0), (3, .d (.int .i64 k))]) (fun _ => [.box 10 (.d t.toD)]) (fun k => (t.samples.take k).all (fun x => stk x.stack.length) = true ∧ (t.blocks.take k).all (fun x => stk x.stack.length) = true) ⟨rfl, rfl⟩ ?_ ?_
 ·refine weak_to [] [0] rfl (by simp) ?_ rfl
  simp only [zT, seval, implies_true, Nat.reduceLeDiff, Nat.reduceEqDiff, reduceCtorEq, reduceIte]
  all_goals rfl
 ·intro k hi hk
  by_cases h : k < 40
  ·obtain ⟨q1, q2⟩ := hstep k hk
   have hb := hbad k
   rw [hi.1, Bool.true_and] at q1
   rw [hi.2, Bool.true_and] at q2
   by_cases c1 : k < t.samples.length
   ·obtain ⟨x, hx⟩ : ∃ x, x = t.samples.getD k default := ⟨_, rfl⟩
    have hgx : (List.map SampleT.toD t.samples).getD k default = x.toD := by rw [hx]; simp [c1]
    have e1 : okK (t.samples.map fun x => x.stack.length) k = !decide (40 < (x.stack.length : Int)) := by rw [okK]; simp [c1, hx, stk]
    rw [e1] at q1 hb
    by_cases c2 : k < t.blocks.length
    ·obtain ⟨y, hy⟩ : ∃ y, y = t.blocks.getD k default := ⟨_, rfl⟩
     have hgy : (List.map BlockT.toD t.blocks).getD k default = y.toD := by rw [hy]; simp [c2]
     have e2 : okK (t.blocks.map fun x => x.stack.length) k = !decide (40 < (y.stack.length : Int)) := by rw [okK]; simp [c2, hy, stk]
     rw [e2] at q2 hb
     simp only [zT, seval, implies_true, Nat.reduceLeDiff, Nat.reduceEqDiff, reduceCtorEq, reduceIte, (show (k:Int) < 40 by omega), (show (k:Int) < t.samples.length by omega), (show (k:Int) < t.blocks.length by omega), c1, c2, hgx, hgy, h]
     repeat ((with_reducible refine And.intro ?_ ?_); (focus (first | omega | (simp only [lenR]; omega) | (refine qq ?_; rfl) | (refine dq ?_; kernel_rfl) | (intros; simp_all; done))))
     refine ifC.mk (fun h2 => ?_) (fun h2 => ?_)
     ·refine ⟨_, _, ret_d, ?_, rfl⟩
      rw [hb (by simp at h2 ⊢; omega)]
     ·rw [q1, q2]
      have h2' : decide (40 < (x.stack.length : Int)) = false ∧ decide (40 < (y.stack.length : Int)) = false := Bool.or_eq_false_iff.1 h2
      refine ⟨⟨by rw [h2'.1]; rfl, by rw [h2'.2]; rfl⟩, ?_⟩
      refine weak_to [] [0] rfl (by simp) ?_ rfl
      simp only [zT, seval, implies_true, Nat.reduceLeDiff, Nat.reduceEqDiff, reduceCtorEq, reduceIte, @a_wrap ((k:Int) + 1) (by omega)]
      all_goals rfl
    ·have e2 : okK (t.blocks.map fun x => x.stack.length) k = true := by rw [okK]; simp [c2]
     rw [e2] at q2
     simp only [zT, seval, implies_true, Nat.reduceLeDiff, Nat.reduceEqDiff, reduceCtorEq, reduceIte, (show (k:Int) < 40 by omega), (show (k:Int) < t.samples.length by omega), (show ¬ (k:Int) < t.blocks.length by omega), c1, hgx, h]
     repeat ((with_reducible refine And.intro ?_ ?_); (focus (first | omega | (simp only [lenR]; omega) | (refine qq ?_; rfl) | (refine dq ?_; kernel_rfl) | (intros; simp_all; done))))
     refine ifC.mk (fun h2 => ?_) (fun h2 => ?_)
     ·refine ⟨_, _, ret_d, ?_, rfl⟩
      rw [hb (.inl (by rw [h2]; rfl))]
     ·rw [q1, q2]
      refine ⟨⟨by rw [h2]; rfl, rfl⟩, ?_⟩
      refine weak_to [] [0] rfl (by simp) ?_ rfl
      simp only [zT, seval, implies_true, Nat.reduceLeDiff, Nat.reduceEqDiff, reduceCtorEq, reduceIte, @a_wrap ((k:Int) + 1) (by omega)]
      all_goals rfl
   ·have e1 : okK (t.samples.map fun x => x.stack.length) k = true := by rw [okK]; simp [c1]
    rw [e1] at q1
    by_cases c2 : k < t.blocks.length
    ·obtain ⟨y, hy⟩ : ∃ y, y = t.blocks.getD k default := ⟨_, rfl⟩
     have hgy : (List.map BlockT.toD t.blocks).getD k default = y.toD := by rw [hy]; simp [c2]
     have e2 : okK (t.blocks.map fun x => x.stack.length) k = !decide (40 < (y.stack.length : Int)) := by rw [okK]; simp [c2, hy, stk]
     rw [e2] at q2 hb
     simp only [zT, seval, implies_true, Nat.reduceLeDiff, Nat.reduceEqDiff, reduceCtorEq, reduceIte, (show (k:Int) < 40 by omega), (show ¬ (k:Int) < t.samples.length by omega), (show (k:Int) < t.blocks.length by omega), c2, hgy, h]
     repeat ((with_reducible refine And.intro ?_ ?_); (focus (first | omega | (simp only [lenR]; omega) | (refine qq ?_; rfl) | (refine dq ?_; kernel_rfl) | (intros; simp_all; done))))
     refine ifC.mk (fun h2 => ?_) (fun h2 => ?_)
     ·refine ⟨_, _, ret_d, ?_, rfl⟩
      rw [hb (.inr (by rw [h2]; rfl))]
     ·rw [q1, q2]
      refine ⟨⟨rfl, by rw [h2]; rfl⟩, ?_⟩
      refine weak_to [] [0] rfl (by simp) ?_ rfl
      simp only [zT, seval, implies_true, Nat.reduceLeDiff, Nat.reduceEqDiff, reduceCtorEq, reduceIte, @a_wrap ((k:Int) + 1) (by omega)]
      all_goals rfl
    ·have e2 : okK (t.blocks.map fun x => x.stack.length) k = true := by rw [okK]; simp [c2]
     rw [e2] at q2
     simp only [zT, seval, implies_true, Nat.reduceLeDiff, Nat.reduceEqDiff, reduceCtorEq, reduceIte, (show (k:Int) < 40 by omega), (show ¬ (k:Int) < t.samples.length by omega), (show ¬ (k:Int) < t.blocks.length by omega), h]
     repeat ((with_reducible refine And.intro ?_ ?_); (focus (first | omega | (simp only [lenR]; omega) | (refine qq ?_; rfl) | (refine dq ?_; kernel_rfl) | (intros; simp_all; done))))
     refine weak_to [] [0] rfl (by simp) ?_ rfl
     simp only [zT, seval, implies_true, Nat.reduceLeDiff, Nat.reduceEqDiff, reduceCtorEq, reduceIte, @a_wrap ((k:Int) + 1) (by omega)]
     all_goals rfl
  ·simp only [zT, seval, implies_true, Nat.reduceLeDiff, Nat.reduceEqDiff, reduceCtorEq, reduceIte, (show ¬ (k:Int) < 40 by omega)]
   have : k = 40 := by omega
   subst this
   rw [List.take_of_length_le (by omega), List.take_of_length_le (by omega)] at hi
   refine ⟨_, _, ret_d, ?_, rfl⟩
   rw [hF, hi.1, hi.2]; rfl
end YtadfcljoocjhdaaGreat
end Go.Proofs
