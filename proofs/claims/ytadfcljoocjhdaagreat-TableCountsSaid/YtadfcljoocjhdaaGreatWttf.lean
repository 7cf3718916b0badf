/- A part of the proof: contracts of functions of this seat, and lemmas. No condition beyond those stated. -/
import Derived.Test.YtadfcljoocjhdaaGreatWtte
set_option linter.unusedVariables false
set_option linter.unusedSimpArgs false
set_option linter.unusedSectionVars false
set_option linter.unnecessarySimpa false
set_option maxRecDepth 100000
namespace Go.Proofs
open Go.AM
namespace YtadfcljoocjhdaaGreat
variable {Gl : Globs}
theorem k_isNaNk (a : Int) : Pure Tryz.prog Gl 90 [.d (.int .i64 a)] (.d (.bool false)) := by
 refine Pure.of1 ?_
 refine acalls_of Tryz.func90 rfl rfl (by simp [Tryz.ntmps90]) (evC_sound rfl _ _ _ _ ?_)
 simp only [Tryz.ntmps90, Tryz.results90, argEnv, List.length_nil]
 simp only [zT, seval, implies_true, Nat.reduceLeDiff, Nat.reduceEqDiff, reduceCtorEq, reduceIte]
 refine ⟨_, _, ret_d, ?_, rfl⟩
 simp
theorem k_Comparek (a b : Int) : Pure Tryz.prog Gl 66 [.d (.int .i64 a), .d (.int .i64 b)] (.d (.int .i64 (cmpI a b))) := by
 refine Pure.of2 ?_
 refine acalls_of Tryz.func66 rfl rfl (by simp [Tryz.ntmps66]) (evC_sound rfl _ _ _ _ ?_)
 simp only [Tryz.ntmps66, Tryz.results66, argEnv, List.length_nil]
 simp only [zT, seval, implies_true, Nat.reduceLeDiff, Nat.reduceEqDiff, reduceCtorEq, reduceIte]
 refine callF_pure (k_isNaNk _) ?_
 simp only [zT, seval, implies_true, Nat.reduceLeDiff, Nat.reduceEqDiff, reduceCtorEq, reduceIte]
 refine callF_pure (k_isNaNk _) ?_
 simp only [zT, seval, implies_true, Nat.reduceLeDiff, Nat.reduceEqDiff, reduceCtorEq, reduceIte]
 refine ifC.mk (fun h1 => ?_) (fun h1 => ?_)
 ·refine ⟨_, _, ret_d, ?_, rfl⟩
  rw [cmpI, if_pos (by simpa using h1)]
 ·refine ifC.mk (fun h2 => ?_) (fun h2 => ?_)
  ·refine ⟨_, _, ret_d, ?_, rfl⟩
   rw [cmpI, if_neg (by simpa using h1), if_pos (by simpa using h2)]
  ·refine ⟨_, _, ret_d, ?_, rfl⟩
   rw [cmpI, if_neg (by simpa using h1), if_neg (by simpa using h2)]
def ordV (a b : ValT) : Int := if (a.k != b.k) = true then cmpI a.k b.k else if (a.k == 3) = true then cmpS a.s b.s else if (a.k == 1 || a.k == 2) = true then cmpI a.n b.n else 0
theorem k_Order (a b : ValT) : Pure Tryz.prog Gl 31 [.d a.toD, .d b.toD] (.d (.int .i64 (ordV a b))) := by
 refine Pure.of2 ?_
 obtain ⟨F, hF⟩ : ∃ F, F = ordV a b := ⟨_, rfl⟩
 rw [← hF]
 rw [ordV] at hF
 refine acalls_of Tryz.func31 rfl rfl (by simp [Tryz.ntmps31]) (evC_sound rfl _ _ _ _ ?_)
 simp only [Tryz.ntmps31, Tryz.results31, argEnv, List.length_nil]
 simp only [zT, seval, implies_true, Nat.reduceLeDiff, Nat.reduceEqDiff, reduceCtorEq, reduceIte]
 refine ifC.mk (fun h1 => ?_) (fun h1 => ?_)
 ·rw [if_pos h1] at hF
  refine callF_pure (k_Comparek _ _) ?_
  simp only [zT, seval, implies_true, Nat.reduceLeDiff, Nat.reduceEqDiff, reduceCtorEq, reduceIte]
  refine ⟨_, _, ret_d, ?_, rfl⟩
  rw [hF]
 rw [if_neg (by rw [h1]; simp)] at hF
 refine ifC.mk (fun h2 => ?_) (fun h2 => ?_)
 ·rw [if_pos h2] at hF
  refine callF_pure (k_Compares _ _) ?_
  simp only [zT, seval, implies_true, Nat.reduceLeDiff, Nat.reduceEqDiff, reduceCtorEq, reduceIte]
  refine ⟨_, _, ret_d, ?_, rfl⟩
  rw [hF]
 rw [if_neg (by rw [h2]; simp)] at hF
 repeat ((with_reducible refine And.intro ?_ ?_); (focus (first | omega | (simp only [lenR]; omega) | (refine qq ?_; rfl) | (refine dq ?_; kernel_rfl) | (intros; simp_all; done))))
 refine ifC.mk (fun h3 => ?_) (fun h3 => ?_)
 ·rw [if_pos h3] at hF
  refine callF_pure (k_Compare _ _) ?_
  simp only [zT, seval, implies_true, Nat.reduceLeDiff, Nat.reduceEqDiff, reduceCtorEq, reduceIte]
  refine ⟨_, _, ret_d, ?_, rfl⟩
  rw [hF]
 rw [if_neg (by rw [h3]; simp)] at hF
 refine ⟨_, _, ret_d, ?_, rfl⟩
 rw [hF]
theorem ordV_self (a : ValT) : ordV a a = 0 := by
 have h1 := cmpS_cases a.s a.s
 have h2 := cmpI_cases a.n a.n
 unfold ordV
 rw [if_neg (by simp)]
 split
 ·rcases h1 with ⟨_, h, _⟩ | ⟨_, _, _, h⟩ | ⟨_, h, _⟩
  ·exact absurd rfl h
  ·exact h
  ·exact absurd rfl h
 ·split
  ·rcases h2 with ⟨h, _⟩ | ⟨_, h⟩ | ⟨h, _⟩
   ·omega
   ·exact h
   ·omega
  ·rfl
theorem cmpI_anti (a b : Int) : cmpI b a = -cmpI a b := by
 rcases cmpI_cases a b with h | h | h <;> rcases cmpI_cases b a with g | g | g <;> omega
theorem cmpS_anti (a b : List UInt8) : cmpS b a = -cmpS a b := by
 rcases cmpS_cases a b with ⟨h1, h2, h3, h4⟩ | ⟨h1, h2, h3, h4⟩ | ⟨h1, h2, h3, h4⟩
 ·rcases cmpS_cases b a with ⟨g1, _, _, _⟩ | ⟨_, g2, _, _⟩ | ⟨_, _, _, g4⟩
  ·rw [h3] at g1; cases g1
  ·exact absurd g2.symm h2
  ·omega
 ·subst h2; omega
 ·rcases cmpS_cases b a with ⟨_, _, _, g4⟩ | ⟨_, g2, _, _⟩ | ⟨g1, _, _, _⟩
  ·omega
  ·exact absurd g2.symm h2
  ·rw [h3] at g1; cases g1
theorem ordV_anti (a b : ValT) : ordV b a = -ordV a b := by
 unfold ordV
 by_cases e : a.k = b.k
 ·have e1 : (a.k != b.k) = false := by simp [e]
  have e2 : (b.k != a.k) = false := by simp [e]
  rw [e1, e2, ← e]
  simp only [Bool.false_eq_true, if_false]
  split
  ·exact cmpS_anti _ _
  ·split
   ·exact cmpI_anti _ _
   ·rfl
 ·have e1 : (a.k != b.k) = true := by simp [e]
  have e2 : (b.k != a.k) = true := by simp; exact fun h => e h.symm
  rw [e1, e2]
  simp only [if_true]
  exact cmpI_anti _ _
theorem cmpI_le0 {a b : Int} : cmpI a b ≤ 0 ↔ a ≤ b := by
 rcases cmpI_cases a b with h | h | h <;> omega
end YtadfcljoocjhdaaGreat
end Go.Proofs
