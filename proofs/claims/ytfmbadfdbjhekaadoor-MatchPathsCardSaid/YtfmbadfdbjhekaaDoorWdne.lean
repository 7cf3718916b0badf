/- A part of the proof: contracts of functions of this seat, and lemmas. No condition beyond those stated. -/
import Derived.Test.YtfmbadfdbjhekaaDoorWdnd
set_option linter.unusedVariables false
set_option linter.unusedSimpArgs false
set_option linter.unusedSectionVars false
set_option linter.unnecessarySimpa false
set_option maxRecDepth 100000
namespace Go.Proofs
open Go.AM
namespace YtfmbadfdbjhekaaDoor
variable {Gl : Globs}
theorem k_small (d : Nat) (hd : d < 100) : Pure Tryd.prog Gl 70 [.d (.int .i64 d)] (.d (.str (txtN d))) := by
 refine Pure.of1 ?_
 refine acalls_of Tryd.func70 rfl rfl (by simp [Tryd.ntmps70]) (evC_sound rfl _ _ _ _ ?_)
 simp only [Tryd.ntmps70, Tryd.results70, argEnv, List.length_nil]
 simp only [zN, seval, implies_true, Nat.reduceLeDiff, Nat.reduceEqDiff, reduceCtorEq, reduceIte]
 by_cases h : d < 10
 ·simp only [zN, seval, implies_true, Nat.reduceLeDiff, Nat.reduceEqDiff, reduceCtorEq, reduceIte, (show (d:Int) < 10 by omega), @a_wrap ((d:Int) + 1) (by omega)]
  repeat ((with_reducible refine And.intro ?_ ?_); (focus (first | omega | (simp only [lenR]; omega) | (refine qq ?_; rfl) | (refine dq ?_; kernel_rfl) | (intros; simp_all; done))))
  refine ⟨_, _, ret_d, ?_, rfl⟩
  congr 2
  revert d
  decide +kernel
 ·simp only [zN, seval, implies_true, Nat.reduceLeDiff, Nat.reduceEqDiff, reduceCtorEq, reduceIte, (show ¬ (d:Int) < 10 by omega), @a_wrap ((d:Int) * 2) (by omega), @a_wrap ((d:Int) * 2 + 2) (by omega)]
  repeat ((with_reducible refine And.intro ?_ ?_); (focus (first | omega | (simp only [lenR]; omega) | (refine qq ?_; rfl) | (refine dq ?_; kernel_rfl) | (intros; simp_all; done))))
  refine ⟨_, _, ret_d, ?_, rfl⟩
  congr 2
  revert d
  decide +kernel
theorem txt_len {d : Nat} : (txtN d).length ≤ 2 := by unfold txtN; split <;> simp
theorem k_fint (d : Nat) (hd : d < 100) : Pure Tryd.prog Gl 68 [.d (.int .i64 d), .d (.int .i64 10)] (.d (.str (txtN d))) := by
 refine Pure.of2 ?_
 refine acalls_of Tryd.func68 rfl rfl (by simp [Tryd.ntmps68]) (evC_sound rfl _ _ _ _ ?_)
 simp only [Tryd.ntmps68, Tryd.results68, argEnv, List.length_nil]
 simp only [zN, seval, implies_true, Nat.reduceLeDiff, Nat.reduceEqDiff, reduceCtorEq, reduceIte]
 simp only [zN, seval, implies_true, Nat.reduceLeDiff, Nat.reduceEqDiff, reduceCtorEq, reduceIte, (show (0:Int) ≤ d by omega), (show (d:Int) < 100 by omega)]
 refine callF_pure (k_small d hd) ?_
 simp only [zN, seval, implies_true, Nat.reduceLeDiff, Nat.reduceEqDiff, reduceCtorEq, reduceIte]
 exact ⟨_, _, ret_d, rfl, rfl⟩
theorem k_itoa2 (d : Nat) (hd : d < 100) : Pure Tryd.prog Gl 66 [.d (.int .i64 d)] (.d (.str (txtN d))) := by
 refine Pure.of1 ?_
 refine acalls_of Tryd.func66 rfl rfl (by simp [Tryd.ntmps66]) (evC_sound rfl _ _ _ _ ?_)
 simp only [Tryd.ntmps66, Tryd.results66, argEnv, List.length_nil]
 simp only [zN, seval, implies_true, Nat.reduceLeDiff, Nat.reduceEqDiff, reduceCtorEq, reduceIte]
 refine callF_pure (k_fint d hd) ?_
 simp only [zN, seval, implies_true, Nat.reduceLeDiff, Nat.reduceEqDiff, reduceCtorEq, reduceIte]
 exact ⟨_, _, ret_d, rfl, rfl⟩
theorem k_itoa (d : Nat) (hd : d < 100) : Pure Tryd.prog Gl 63 [.d (.int .i64 d)] (.d (.str (txtN d))) := by
 refine Pure.of1 ?_
 refine acalls_of Tryd.func63 rfl rfl (by simp [Tryd.ntmps63]) (evC_sound rfl _ _ _ _ ?_)
 simp only [Tryd.ntmps63, Tryd.results63, argEnv, List.length_nil]
 simp only [zN, seval, implies_true, Nat.reduceLeDiff, Nat.reduceEqDiff, reduceCtorEq, reduceIte]
 refine callF_pure (k_itoa2 d hd) ?_
 simp only [zN, seval, implies_true, Nat.reduceLeDiff, Nat.reduceEqDiff, reduceCtorEq, reduceIte]
 exact ⟨_, _, ret_d, rfl, rfl⟩
theorem k_Text (d : Nat) (hd : d < 100) : Pure Tryd.prog Gl 54 [.d (.int .i64 d)] (.d (.str (txtN d))) := by
 refine Pure.of1 ?_
 refine acalls_of Tryd.func54 rfl rfl (by simp [Tryd.ntmps54]) (evC_sound rfl _ _ _ _ ?_)
 simp only [Tryd.ntmps54, Tryd.results54, argEnv, List.length_nil]
 simp only [zN, seval, implies_true, Nat.reduceLeDiff, Nat.reduceEqDiff, reduceCtorEq, reduceIte]
 refine callF_pure (k_itoa d hd) ?_
 simp only [zN, seval, implies_true, Nat.reduceLeDiff, Nat.reduceEqDiff, reduceCtorEq, reduceIte]
 exact ⟨_, _, ret_d, rfl, rfl⟩
end YtfmbadfdbjhekaaDoor
end Go.Proofs
