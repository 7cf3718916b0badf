/- A part of the proof: contracts of functions of this seat, and lemmas. No condition beyond those stated. -/
import Derived.Test.YtfmbadfdbjhekaaDoorWdnr
set_option linter.unusedVariables false
set_option linter.unusedSimpArgs false
set_option linter.unusedSectionVars false
set_option linter.unnecessarySimpa false
set_option maxRecDepth 100000
namespace Go.Proofs
open Go.AM
namespace YtfmbadfdbjhekaaDoor
variable {Gl : Globs}
theorem k_IndexFuncInt {τ : Type} (fv : FuncId) (caps : List AV) (St : τ → Sto) (P : Nat → Bool) (y : List Nat) (hy : y.length < 1000000) (hp : ∀ u, ∀ q ∈ y, ACalls Tryd.prog Gl fv (.d (.int .i64 q) :: caps) (St u) (fun r s => r = .d (.bool (P q)) ∧ ∃ u', s = St u')) (u : τ) :
  ACalls Tryd.prog Gl 41 [.d (.sl (y.map intD)), .fn fv caps] (St u)
   (fun r s => ∃ (j : Int) (u' : τ), r = .d (.int .i64 j) ∧ s = St u' ∧ ((j = -1 ∧ y.find? P = none) ∨ ∃ k : Nat, j = k ∧ k < y.length ∧ y.find? P = some (y.getD k default))) := by
 refine acalls_of Tryd.func41 rfl rfl (by simp [Tryd.ntmps41]) (evC_sound rfl _ _ _ _ ?_)
 simp only [Tryd.ntmps41, Tryd.results41, argEnv, List.length_nil]
 simp only [zN, seval, implies_true, Nat.reduceLeDiff, Nat.reduceEqDiff, reduceCtorEq, reduceIte, intD]
 refine loop_of (τ := Nat × τ) (fun v => [(0, .d (.sl (y.map intD))), (1, .fn fv caps), (7, .d (.int .i64 y.length)), (8, .d (.int .i64 v.1))]) (fun v => St v.2) (fun v => v.1 ≤ y.length ∧ (y.take v.1).find? P = none) (fun v => y.length - v.1) (0, u) ⟨Nat.zero_le _, rfl⟩ ?_ ?_
 ·refine weak_sub ?_
  simp only [zN, seval, implies_true, Nat.reduceLeDiff, Nat.reduceEqDiff, reduceCtorEq, reduceIte, intD, Int.cast_ofNat_Int]
 ·rintro ⟨k, u⟩ ⟨hk, hn⟩
  simp only at hk hn
  by_cases h : k < y.length
  ·obtain ⟨q, hq⟩ : ∃ q, q = y.getD k default := ⟨_, rfl⟩
   have hqm : q ∈ y := by rw [hq]; exact mem_getD h
   have gq : (y.map intD).getD k default = .int .i64 q := by rw [a_getD _ _ _ h, ← hq]; rfl
   have hfs := find_step P y h
   rw [hn, Option.none_or, ← hq] at hfs
   simp only [zN, seval, implies_true, Nat.reduceLeDiff, Nat.reduceEqDiff, reduceCtorEq, reduceIte, intD, (show (k:Int) < y.length by omega), h, gq]
   repeat ((with_reducible refine And.intro ?_ ?_); (focus (first | omega | (simp only [lenR]; omega) | (refine qq ?_; rfl) | (refine dq ?_; kernel_rfl) | (intros; simp_all; done))))
   refine callF_go ((hp u q hqm).mono fun r s hr => ?_)
   obtain ⟨rfl, u', rfl⟩ := hr
   simp only [zN, seval, implies_true, Nat.reduceLeDiff, Nat.reduceEqDiff, reduceCtorEq, reduceIte, intD]
   refine ifC.mk (fun hc => ?_) (fun hc => ?_)
   ·rw [if_pos hc] at hfs
    refine ⟨_, _, WeakR.refl _ _ _, _, u', rfl, rfl, .inr ⟨k, rfl, h, ?_⟩⟩
    rw [← hq]
    exact find_of_take P y (k + 1) hfs
   ·rw [if_neg (by rw [hc]; simp)] at hfs
    refine ⟨(k + 1, u'), ⟨h, hfs⟩, by simp only; omega, ?_⟩
    refine weak_sub ?_
    simp only [zN, seval, implies_true, Nat.reduceLeDiff, Nat.reduceEqDiff, reduceCtorEq, reduceIte, intD, @a_wrap ((k:Int) + 1) (by omega)]
  ·have : k = y.length := by omega
   subst this
   rw [List.take_length] at hn
   simp only [zN, seval, implies_true, Nat.reduceLeDiff, Nat.reduceEqDiff, reduceCtorEq, reduceIte, intD, (show ¬ (y.length:Int) < y.length by omega)]
   exact ⟨_, _, WeakR.refl _ _ _, _, u, rfl, rfl, .inl ⟨rfl, hn⟩⟩
end YtfmbadfdbjhekaaDoor
end Go.Proofs
