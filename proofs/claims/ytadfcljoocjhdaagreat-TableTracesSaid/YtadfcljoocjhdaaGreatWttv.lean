/- A part of the proof: contracts of functions of this seat, and lemmas. No condition beyond those stated. -/
import Derived.Test.YtadfcljoocjhdaaGreatWttr
import Derived.Test.YtadfcljoocjhdaaGreatWtx
set_option linter.unusedVariables false
set_option linter.unusedSimpArgs false
set_option linter.unusedSectionVars false
set_option linter.unnecessarySimpa false
set_option maxRecDepth 100000
namespace Go.Proofs
open Go.AM
namespace YtadfcljoocjhdaaGreat
variable {Gl : Globs}
def kindF (nm : List UInt8) : Int := if (nm == [110, 97, 109, 101] || nm == [108, 101, 97, 102]) = true then 3 else if (nm == [111, 112, 101, 110] || nm == [108, 105, 118, 101]) = true then 1 else 2
theorem k_kind (nm : List UInt8) : Pure Tryz.prog Gl 126 [.d (.str nm)] (.d (.int .i64 (kindF nm))) := by
 refine Pure.of1 ?_
 obtain ⟨F, hF⟩ : ∃ F, F = kindF nm := ⟨_, rfl⟩
 rw [← hF]
 rw [kindF] at hF
 refine acalls_of Tryz.func126 rfl rfl (by simp [Tryz.ntmps126]) (evC_sound rfl _ _ _ _ ?_)
 simp only [Tryz.ntmps126, Tryz.results126, argEnv, List.length_nil]
 simp only [zT, seval, implies_true, Nat.reduceLeDiff, Nat.reduceEqDiff, reduceCtorEq, reduceIte]
 refine ifC.mk (fun h1 => ?_) (fun h1 => ?_)
 ·(try simp only [zT, seval, implies_true, Nat.reduceLeDiff, Nat.reduceEqDiff, reduceCtorEq, reduceIte, h1])
  refine ⟨_, _, ret_d, ?_, rfl⟩
  rw [hF, h1]; rfl
 ·refine ifC.mk (fun h2 => ?_) (fun h2 => ?_)
  ·refine ⟨_, _, ret_d, ?_, rfl⟩
   rw [hF, h1, h2]; rfl
  ·rw [h1, h2] at hF
   refine ifC.mk (fun h3 => ?_) (fun h3 => ?_)
   ·(try simp only [zT, seval, implies_true, Nat.reduceLeDiff, Nat.reduceEqDiff, reduceCtorEq, reduceIte, h3])
    refine ⟨_, _, ret_d, ?_, rfl⟩
    rw [hF, h3]; rfl
   ·refine ifC.mk (fun h4 => ?_) (fun h4 => ?_)
    ·refine ⟨_, _, ret_d, ?_, rfl⟩
     rw [hF, h3, h4]; rfl
    ·refine ⟨_, _, ret_d, ?_, rfl⟩
     rw [hF, h3, h4]; rfl
def kcols (l : List (List UInt8)) : List ColT := l.map fun nm => ⟨nm, kindF nm⟩
theorem kcols_step (l : List (List UInt8)) {j : Nat} (h : j < l.length) : kcols (l.take (j + 1)) = kcols (l.take j) ++ [⟨l.getD j default, kindF (l.getD j default)⟩] := by
 rw [kcols, List.take_add_one, List.map_append]
 simp [kcols, h]
theorem k_columns (names : List (List UInt8)) (hn : names.length < 1000) : Pure Tryz.prog Gl 85 [.d (.sl (names.map .str))] (.d (.sl ((kcols names).map ColT.toD))) := by
 refine Pure.of1 ?_
 refine acalls_of Tryz.func85 rfl rfl (by simp [Tryz.ntmps85]) (evC_sound rfl _ _ _ _ ?_)
 simp only [Tryz.ntmps85, Tryz.results85, argEnv, List.length_nil]
 simp only [zT, seval, implies_true, Nat.reduceLeDiff, Nat.reduceEqDiff, reduceCtorEq, reduceIte]
 repeat ((with_reducible refine And.intro ?_ ?_); (focus (first | omega | (simp only [lenR]; omega) | (refine qq ?_; rfl) | (refine dq ?_; kernel_rfl) | (intros; simp_all; done))))
 refine for_of names.length (fun j => [(0, .d (.sl (names.map .str))), (3, .osl 0 0 j), (4, .d (.int .i64 j))]) (fun j => [.arr 2 ((kcols (names.take j)).map ColT.toD)]) (fun _ => True) trivial ?_ ?_
 ·refine (weak_nils 3 2 rfl).trans ?_
  refine weak_to [] [0] rfl (by simp) ?_ rfl
  simp only [zT, seval, implies_true, Nat.reduceLeDiff, Nat.reduceEqDiff, reduceCtorEq, reduceIte]
  all_goals rfl
 ·intro j hij hj
  by_cases g : j < names.length
  ·have hg : (List.map D.str names).getD j default = .str (names.getD j default) := by simp [g]
   have hs := kcols_step names g
   have hle : (kcols (names.take j)).length = j := by simp [kcols]; omega
   have hm : List.map ColT.toD (kcols (names.take (j + 1))) = List.take j (List.map ColT.toD (kcols (names.take j))) ++ [D.agg [.str (names.getD j default), .int .i64 (kindF (names.getD j default))]] := by
    rw [hs]; exact map_snoc _ _ _ hle
   simp only [zT, seval, implies_true, Nat.reduceLeDiff, Nat.reduceEqDiff, reduceCtorEq, reduceIte, (show (j:Int) < names.length by omega), g, hg]
   repeat ((with_reducible refine And.intro ?_ ?_); (focus (first | omega | (simp only [lenR]; omega) | (refine qq ?_; rfl) | (refine dq ?_; kernel_rfl) | (intros; simp_all; done))))
   refine callF_pure (k_kind _) ?_
   simp only [zT, seval, implies_true, Nat.reduceLeDiff, Nat.reduceEqDiff, reduceCtorEq, reduceIte]
   repeat ((with_reducible refine And.intro ?_ ?_); (focus (first | omega | (simp only [lenR]; omega) | (refine qq ?_; rfl) | (refine dq ?_; kernel_rfl) | (intros; simp_all; done))))
   rw [hm]
   refine weak_to [] [2] rfl (by simp) ?_ rfl
   simp only [zT, seval, implies_true, Nat.reduceLeDiff, Nat.reduceEqDiff, reduceCtorEq, reduceIte, @a_wrap ((j:Int) + 1) (by omega)]
   all_goals rfl
  ·simp only [zT, seval, implies_true, Nat.reduceLeDiff, Nat.reduceEqDiff, reduceCtorEq, reduceIte, (show ¬ (j:Int) < names.length by omega)]
   have : j = names.length := by omega
   subst this
   rw [List.take_length]
   refine ⟨_, _, ret_data rfl ?_, rfl, rfl⟩
   show D.sl (List.take names.length (List.map ColT.toD (kcols names))) = _
   rw [List.take_of_length_le (by simp [kcols])]
end YtadfcljoocjhdaaGreat
end Go.Proofs
