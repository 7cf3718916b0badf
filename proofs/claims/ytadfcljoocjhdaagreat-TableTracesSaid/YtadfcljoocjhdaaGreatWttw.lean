/- A part of the proof: contracts of functions of this seat, and lemmas. No condition beyond those stated. -/
import Derived.Test.YtadfcljoocjhdaaGreatWttv
set_option linter.unusedVariables false
set_option linter.unusedSimpArgs false
set_option linter.unusedSectionVars false
set_option linter.unnecessarySimpa false
set_option maxRecDepth 100000
namespace Go.Proofs
open Go.AM
namespace YtadfcljoocjhdaaGreat
variable {Gl : Globs}
theorem k_Rthr (t : TraceT) (ht : t.threads.length < 1000000) : Pure Tryz.prog Gl 52 [.d t.toD] (.d (thrTab t).toD) := by
 refine Pure.of1 ?_
 refine acalls_of Tryz.func52 rfl rfl (by simp [Tryz.ntmps52]) (evC_sound rfl _ _ _ _ ?_)
 simp only [Tryz.ntmps52, Tryz.results52, argEnv, List.length_nil]
 simp only [zT, seval, implies_true, Nat.reduceLeDiff, Nat.reduceEqDiff, reduceCtorEq, reduceIte]
 repeat ((with_reducible refine And.intro ?_ ?_); (focus (first | omega | (simp only [lenR]; omega) | (refine qq ?_; rfl) | (refine dq ?_; kernel_rfl) | (intros; simp_all; done))))
 refine callF_dataE (σ' := [.box 10 (.d t.toD), .box 2 (.agg [.nils, .nils]), .frz 1 ([([105, 100] : List UInt8), ([110, 97, 109, 101] : List UInt8)].map .str)]) (k_columns [([105, 100] : List UInt8), ([110, 97, 109, 101] : List UInt8)] (by decide)) rfl rfl ?_
 rw [show kcols [([105, 100] : List UInt8), ([110, 97, 109, 101] : List UInt8)] = thrCols by decide +kernel]
 simp only [zT, seval, implies_true, Nat.reduceLeDiff, Nat.reduceEqDiff, reduceCtorEq, reduceIte]
 repeat ((with_reducible refine And.intro ?_ ?_); (focus (first | omega | (simp only [lenR]; omega) | (refine qq ?_; rfl) | (refine dq ?_; kernel_rfl) | (intros; simp_all; done))))
 refine for_of t.threads.length (fun k => [(1, .ptr 0 0), (2, .ptr 1 0), (3, .ptr 2 0), (4, .d (.int .i64 k))])
  (fun k => [.box 10 (.d t.toD), .box 2 (.agg [.nils, .nils]), .box 2 (.agg [.d (.sl (thrCols.map ColT.toD)), .osl 3 0 (rowsOf thrRow t.threads k).length]), .arr 1 ((rowsOf thrRow t.threads k).map rowD)]) (fun _ => True) trivial ?_ ?_
 ·refine Weak.trans (weak_boxNil 3 1 1 (Nat.zero_le _) rfl rfl (by simp) (by simp)) ?_
  refine weak_to [] [0, 1, 3, 4] rfl (by simp) ?_ rfl
  simp only [zT, seval, implies_true, Nat.reduceLeDiff, Nat.reduceEqDiff, reduceCtorEq, reduceIte]
  all_goals rfl
 ·intro k hi hk
  by_cases h : k < t.threads.length
  ·obtain ⟨x, hx⟩ : ∃ x, x = t.threads.getD k default := ⟨_, rfl⟩
   have hg : (List.map ThreadT.toD t.threads).getD k default = x.toD := by rw [hx]; simp [h]
   have hs := rowsOf_step thrRow t.threads k
   have hkl : (rowsOf thrRow t.threads k).length = k := rowsOf_len _ _ _
   have hkl2 : (rowsOf thrRow t.threads (k + 1)).length = k + 1 := rowsOf_len _ _ _
   rw [← hx] at hs
   have hm : List.map rowD (rowsOf thrRow t.threads (k + 1)) = List.take k (List.map rowD (rowsOf thrRow t.threads k)) ++ [rowD (thrRow k x)] := by rw [hs]; exact map_snoc rowD _ _ hkl
   rw [hkl, hkl2, hm]
   simp only [zT, seval, implies_true, Nat.reduceLeDiff, Nat.reduceEqDiff, reduceCtorEq, reduceIte, (show (k:Int) < t.threads.length by omega), h, hg]
   repeat ((with_reducible refine And.intro ?_ ?_); (focus (first | omega | (simp only [lenR]; omega) | (refine qq ?_; rfl) | (refine dq ?_; kernel_rfl) | (intros; simp_all; done))))
   refine callF_pure (k_Rnum _) ?_
   simp only [zT, seval, implies_true, Nat.reduceLeDiff, Nat.reduceEqDiff, reduceCtorEq, reduceIte]
   repeat ((with_reducible refine And.intro ?_ ?_); (focus (first | omega | (simp only [lenR]; omega) | (refine qq ?_; rfl) | (refine dq ?_; kernel_rfl) | (intros; simp_all; done))))
   refine callF_pure (k_Rtxt _) ?_
   simp only [zT, seval, implies_true, Nat.reduceLeDiff, Nat.reduceEqDiff, reduceCtorEq, reduceIte]
   repeat ((with_reducible refine And.intro ?_ ?_); (focus (first | omega | (simp only [lenR]; omega) | (refine qq ?_; rfl) | (refine dq ?_; kernel_rfl) | (intros; simp_all; done))))
   refine weak_to [] [0, 1, 2, 7] rfl (by simp) ?_ rfl
   simp only [zT, seval, implies_true, Nat.reduceLeDiff, Nat.reduceEqDiff, reduceCtorEq, reduceIte, @a_wrap ((k:Int) + 1) (by omega)]
   all_goals rfl
  ·simp only [zT, seval, implies_true, Nat.reduceLeDiff, Nat.reduceEqDiff, reduceCtorEq, reduceIte, (show ¬ (k:Int) < t.threads.length by omega)]
   have : k = t.threads.length := by omega
   subst this
   repeat ((with_reducible refine And.intro ?_ ?_); (focus (first | omega | (simp only [lenR]; omega) | (refine qq ?_; rfl) | (refine dq ?_; kernel_rfl) | (intros; simp_all; done))))
   refine ⟨_, _, ret_data rfl ?_, rfl, rfl⟩
   show D.agg [.sl (thrCols.map ColT.toD), .sl (List.take (rowsOf thrRow t.threads t.threads.length).length ((rowsOf thrRow t.threads t.threads.length).map rowD))] = _
   rw [take_all]; rfl
theorem k_Rsli (t : TraceT) (ht : t.slices.length < 1000000) : Pure Tryz.prog Gl 53 [.d t.toD] (.d (sliTab t).toD) := by
 refine Pure.of1 ?_
 refine acalls_of Tryz.func53 rfl rfl (by simp [Tryz.ntmps53]) (evC_sound rfl _ _ _ _ ?_)
 simp only [Tryz.ntmps53, Tryz.results53, argEnv, List.length_nil]
 simp only [zT, seval, implies_true, Nat.reduceLeDiff, Nat.reduceEqDiff, reduceCtorEq, reduceIte]
 repeat ((with_reducible refine And.intro ?_ ?_); (focus (first | omega | (simp only [lenR]; omega) | (refine qq ?_; rfl) | (refine dq ?_; kernel_rfl) | (intros; simp_all; done))))
 refine callF_dataE (σ' := [.box 10 (.d t.toD), .box 2 (.agg [.nils, .nils]), .frz 1 ([([105, 100] : List UInt8), ([116, 104, 114, 101, 97, 100] : List UInt8), ([112, 97, 114, 101, 110, 116] : List UInt8), ([100, 101, 112, 116, 104] : List UInt8), ([110, 97, 109, 101] : List UInt8), ([102, 114, 111, 109] : List UInt8), ([116, 111] : List UInt8), ([115, 101, 108, 102] : List UInt8), ([111, 112, 101, 110] : List UInt8)].map .str)]) (k_columns [([105, 100] : List UInt8), ([116, 104, 114, 101, 97, 100] : List UInt8), ([112, 97, 114, 101, 110, 116] : List UInt8), ([100, 101, 112, 116, 104] : List UInt8), ([110, 97, 109, 101] : List UInt8), ([102, 114, 111, 109] : List UInt8), ([116, 111] : List UInt8), ([115, 101, 108, 102] : List UInt8), ([111, 112, 101, 110] : List UInt8)] (by decide)) rfl rfl ?_
 rw [show kcols [([105, 100] : List UInt8), ([116, 104, 114, 101, 97, 100] : List UInt8), ([112, 97, 114, 101, 110, 116] : List UInt8), ([100, 101, 112, 116, 104] : List UInt8), ([110, 97, 109, 101] : List UInt8), ([102, 114, 111, 109] : List UInt8), ([116, 111] : List UInt8), ([115, 101, 108, 102] : List UInt8), ([111, 112, 101, 110] : List UInt8)] = sliCols by decide +kernel]
 simp only [zT, seval, implies_true, Nat.reduceLeDiff, Nat.reduceEqDiff, reduceCtorEq, reduceIte]
 repeat ((with_reducible refine And.intro ?_ ?_); (focus (first | omega | (simp only [lenR]; omega) | (refine qq ?_; rfl) | (refine dq ?_; kernel_rfl) | (intros; simp_all; done))))
 refine for_of t.slices.length (fun k => [(1, .ptr 0 0), (2, .ptr 1 0), (3, .ptr 2 0), (4, .d (.int .i64 k))])
  (fun k => [.box 10 (.d t.toD), .box 2 (.agg [.nils, .nils]), .box 2 (.agg [.d (.sl (sliCols.map ColT.toD)), .osl 3 0 (rowsOf sliRow t.slices k).length]), .arr 1 ((rowsOf sliRow t.slices k).map rowD)]) (fun _ => True) trivial ?_ ?_
 ·refine Weak.trans (weak_boxNil 3 1 1 (Nat.zero_le _) rfl rfl (by simp) (by simp)) ?_
  refine weak_to [] [0, 1, 3, 4] rfl (by simp) ?_ rfl
  simp only [zT, seval, implies_true, Nat.reduceLeDiff, Nat.reduceEqDiff, reduceCtorEq, reduceIte]
  all_goals rfl
 ·intro k hi hk
  by_cases h : k < t.slices.length
  ·obtain ⟨x, hx⟩ : ∃ x, x = t.slices.getD k default := ⟨_, rfl⟩
   have hg : (List.map SliceT.toD t.slices).getD k default = x.toD := by rw [hx]; simp [h]
   have hs := rowsOf_step sliRow t.slices k
   have hkl : (rowsOf sliRow t.slices k).length = k := rowsOf_len _ _ _
   have hkl2 : (rowsOf sliRow t.slices (k + 1)).length = k + 1 := rowsOf_len _ _ _
   rw [← hx] at hs
   have hm : List.map rowD (rowsOf sliRow t.slices (k + 1)) = List.take k (List.map rowD (rowsOf sliRow t.slices k)) ++ [rowD (sliRow k x)] := by rw [hs]; exact map_snoc rowD _ _ hkl
   rw [hkl, hkl2, hm]
   simp only [zT, seval, implies_true, Nat.reduceLeDiff, Nat.reduceEqDiff, reduceCtorEq, reduceIte, (show (k:Int) < t.slices.length by omega), h, hg]
   repeat ((with_reducible refine And.intro ?_ ?_); (focus (first | omega | (simp only [lenR]; omega) | (refine qq ?_; rfl) | (refine dq ?_; kernel_rfl) | (intros; simp_all; done))))
   refine callF_pure (k_Rnum _) ?_
   simp only [zT, seval, implies_true, Nat.reduceLeDiff, Nat.reduceEqDiff, reduceCtorEq, reduceIte]
   repeat ((with_reducible refine And.intro ?_ ?_); (focus (first | omega | (simp only [lenR]; omega) | (refine qq ?_; rfl) | (refine dq ?_; kernel_rfl) | (intros; simp_all; done))))
   refine callF_pure (k_Rnum _) ?_
   simp only [zT, seval, implies_true, Nat.reduceLeDiff, Nat.reduceEqDiff, reduceCtorEq, reduceIte]
   repeat ((with_reducible refine And.intro ?_ ?_); (focus (first | omega | (simp only [lenR]; omega) | (refine qq ?_; rfl) | (refine dq ?_; kernel_rfl) | (intros; simp_all; done))))
   refine callF_pure (k_Roth _) ?_
   simp only [zT, seval, implies_true, Nat.reduceLeDiff, Nat.reduceEqDiff, reduceCtorEq, reduceIte]
   repeat ((with_reducible refine And.intro ?_ ?_); (focus (first | omega | (simp only [lenR]; omega) | (refine qq ?_; rfl) | (refine dq ?_; kernel_rfl) | (intros; simp_all; done))))
   refine callF_pure (k_Rnum _) ?_
   simp only [zT, seval, implies_true, Nat.reduceLeDiff, Nat.reduceEqDiff, reduceCtorEq, reduceIte]
   repeat ((with_reducible refine And.intro ?_ ?_); (focus (first | omega | (simp only [lenR]; omega) | (refine qq ?_; rfl) | (refine dq ?_; kernel_rfl) | (intros; simp_all; done))))
   refine callF_pure (k_Rtxt _) ?_
   simp only [zT, seval, implies_true, Nat.reduceLeDiff, Nat.reduceEqDiff, reduceCtorEq, reduceIte]
   repeat ((with_reducible refine And.intro ?_ ?_); (focus (first | omega | (simp only [lenR]; omega) | (refine qq ?_; rfl) | (refine dq ?_; kernel_rfl) | (intros; simp_all; done))))
   refine callF_pure (k_Rnum _) ?_
   simp only [zT, seval, implies_true, Nat.reduceLeDiff, Nat.reduceEqDiff, reduceCtorEq, reduceIte]
   repeat ((with_reducible refine And.intro ?_ ?_); (focus (first | omega | (simp only [lenR]; omega) | (refine qq ?_; rfl) | (refine dq ?_; kernel_rfl) | (intros; simp_all; done))))
   refine callF_pure (k_Rnum _) ?_
   simp only [zT, seval, implies_true, Nat.reduceLeDiff, Nat.reduceEqDiff, reduceCtorEq, reduceIte]
   repeat ((with_reducible refine And.intro ?_ ?_); (focus (first | omega | (simp only [lenR]; omega) | (refine qq ?_; rfl) | (refine dq ?_; kernel_rfl) | (intros; simp_all; done))))
   refine callF_pure (k_Rnum _) ?_
   simp only [zT, seval, implies_true, Nat.reduceLeDiff, Nat.reduceEqDiff, reduceCtorEq, reduceIte]
   repeat ((with_reducible refine And.intro ?_ ?_); (focus (first | omega | (simp only [lenR]; omega) | (refine qq ?_; rfl) | (refine dq ?_; kernel_rfl) | (intros; simp_all; done))))
   refine callF_pure (k_Rtru _) ?_
   simp only [zT, seval, implies_true, Nat.reduceLeDiff, Nat.reduceEqDiff, reduceCtorEq, reduceIte]
   repeat ((with_reducible refine And.intro ?_ ?_); (focus (first | omega | (simp only [lenR]; omega) | (refine qq ?_; rfl) | (refine dq ?_; kernel_rfl) | (intros; simp_all; done))))
   refine weak_to [] [0, 1, 2, 7] rfl (by simp) ?_ rfl
   simp only [zT, seval, implies_true, Nat.reduceLeDiff, Nat.reduceEqDiff, reduceCtorEq, reduceIte, @a_wrap ((k:Int) + 1) (by omega)]
   all_goals rfl
  ·simp only [zT, seval, implies_true, Nat.reduceLeDiff, Nat.reduceEqDiff, reduceCtorEq, reduceIte, (show ¬ (k:Int) < t.slices.length by omega)]
   have : k = t.slices.length := by omega
   subst this
   repeat ((with_reducible refine And.intro ?_ ?_); (focus (first | omega | (simp only [lenR]; omega) | (refine qq ?_; rfl) | (refine dq ?_; kernel_rfl) | (intros; simp_all; done))))
   refine ⟨_, _, ret_data rfl ?_, rfl, rfl⟩
   show D.agg [.sl (sliCols.map ColT.toD), .sl (List.take (rowsOf sliRow t.slices t.slices.length).length ((rowsOf sliRow t.slices t.slices.length).map rowD))] = _
   rw [take_all]; rfl
theorem k_Rsta (t : TraceT) (ht : t.states.length < 1000000) : Pure Tryz.prog Gl 54 [.d t.toD] (.d (staTab t).toD) := by
 refine Pure.of1 ?_
 refine acalls_of Tryz.func54 rfl rfl (by simp [Tryz.ntmps54]) (evC_sound rfl _ _ _ _ ?_)
 simp only [Tryz.ntmps54, Tryz.results54, argEnv, List.length_nil]
 simp only [zT, seval, implies_true, Nat.reduceLeDiff, Nat.reduceEqDiff, reduceCtorEq, reduceIte]
 repeat ((with_reducible refine And.intro ?_ ?_); (focus (first | omega | (simp only [lenR]; omega) | (refine qq ?_; rfl) | (refine dq ?_; kernel_rfl) | (intros; simp_all; done))))
 refine callF_dataE (σ' := [.box 10 (.d t.toD), .box 2 (.agg [.nils, .nils]), .frz 1 ([([116, 104, 114, 101, 97, 100] : List UInt8), ([115, 116, 97, 116, 101] : List UInt8), ([102, 114, 111, 109] : List UInt8), ([116, 111] : List UInt8), ([99, 112, 117] : List UInt8), ([111, 110] : List UInt8), ([98, 121] : List UInt8)].map .str)]) (k_columns [([116, 104, 114, 101, 97, 100] : List UInt8), ([115, 116, 97, 116, 101] : List UInt8), ([102, 114, 111, 109] : List UInt8), ([116, 111] : List UInt8), ([99, 112, 117] : List UInt8), ([111, 110] : List UInt8), ([98, 121] : List UInt8)] (by decide)) rfl rfl ?_
 rw [show kcols [([116, 104, 114, 101, 97, 100] : List UInt8), ([115, 116, 97, 116, 101] : List UInt8), ([102, 114, 111, 109] : List UInt8), ([116, 111] : List UInt8), ([99, 112, 117] : List UInt8), ([111, 110] : List UInt8), ([98, 121] : List UInt8)] = staCols by decide +kernel]
 simp only [zT, seval, implies_true, Nat.reduceLeDiff, Nat.reduceEqDiff, reduceCtorEq, reduceIte]
 repeat ((with_reducible refine And.intro ?_ ?_); (focus (first | omega | (simp only [lenR]; omega) | (refine qq ?_; rfl) | (refine dq ?_; kernel_rfl) | (intros; simp_all; done))))
 refine for_of t.states.length (fun k => [(1, .ptr 0 0), (2, .ptr 1 0), (3, .ptr 2 0), (4, .d (.int .i64 k))])
  (fun k => [.box 10 (.d t.toD), .box 2 (.agg [.nils, .nils]), .box 2 (.agg [.d (.sl (staCols.map ColT.toD)), .osl 3 0 (rowsOf staRow t.states k).length]), .arr 1 ((rowsOf staRow t.states k).map rowD)]) (fun _ => True) trivial ?_ ?_
 ·refine Weak.trans (weak_boxNil 3 1 1 (Nat.zero_le _) rfl rfl (by simp) (by simp)) ?_
  refine weak_to [] [0, 1, 3, 4] rfl (by simp) ?_ rfl
  simp only [zT, seval, implies_true, Nat.reduceLeDiff, Nat.reduceEqDiff, reduceCtorEq, reduceIte]
  all_goals rfl
 ·intro k hi hk
  by_cases h : k < t.states.length
  ·obtain ⟨x, hx⟩ : ∃ x, x = t.states.getD k default := ⟨_, rfl⟩
   have hg : (List.map StateT.toD t.states).getD k default = x.toD := by rw [hx]; simp [h]
   have hs := rowsOf_step staRow t.states k
   have hkl : (rowsOf staRow t.states k).length = k := rowsOf_len _ _ _
   have hkl2 : (rowsOf staRow t.states (k + 1)).length = k + 1 := rowsOf_len _ _ _
   rw [← hx] at hs
   have hm : List.map rowD (rowsOf staRow t.states (k + 1)) = List.take k (List.map rowD (rowsOf staRow t.states k)) ++ [rowD (staRow k x)] := by rw [hs]; exact map_snoc rowD _ _ hkl
   rw [hkl, hkl2, hm]
   simp only [zT, seval, implies_true, Nat.reduceLeDiff, Nat.reduceEqDiff, reduceCtorEq, reduceIte, (show (k:Int) < t.states.length by omega), h, hg]
   repeat ((with_reducible refine And.intro ?_ ?_); (focus (first | omega | (simp only [lenR]; omega) | (refine qq ?_; rfl) | (refine dq ?_; kernel_rfl) | (intros; simp_all; done))))
   refine callF_pure (k_Rnum _) ?_
   simp only [zT, seval, implies_true, Nat.reduceLeDiff, Nat.reduceEqDiff, reduceCtorEq, reduceIte]
   repeat ((with_reducible refine And.intro ?_ ?_); (focus (first | omega | (simp only [lenR]; omega) | (refine qq ?_; rfl) | (refine dq ?_; kernel_rfl) | (intros; simp_all; done))))
   refine callF_pure (k_Rnum _) ?_
   simp only [zT, seval, implies_true, Nat.reduceLeDiff, Nat.reduceEqDiff, reduceCtorEq, reduceIte]
   repeat ((with_reducible refine And.intro ?_ ?_); (focus (first | omega | (simp only [lenR]; omega) | (refine qq ?_; rfl) | (refine dq ?_; kernel_rfl) | (intros; simp_all; done))))
   refine callF_pure (k_Rnum _) ?_
   simp only [zT, seval, implies_true, Nat.reduceLeDiff, Nat.reduceEqDiff, reduceCtorEq, reduceIte]
   repeat ((with_reducible refine And.intro ?_ ?_); (focus (first | omega | (simp only [lenR]; omega) | (refine qq ?_; rfl) | (refine dq ?_; kernel_rfl) | (intros; simp_all; done))))
   refine callF_pure (k_Rnum _) ?_
   simp only [zT, seval, implies_true, Nat.reduceLeDiff, Nat.reduceEqDiff, reduceCtorEq, reduceIte]
   repeat ((with_reducible refine And.intro ?_ ?_); (focus (first | omega | (simp only [lenR]; omega) | (refine qq ?_; rfl) | (refine dq ?_; kernel_rfl) | (intros; simp_all; done))))
   refine callF_pure (k_Roth _) ?_
   simp only [zT, seval, implies_true, Nat.reduceLeDiff, Nat.reduceEqDiff, reduceCtorEq, reduceIte]
   repeat ((with_reducible refine And.intro ?_ ?_); (focus (first | omega | (simp only [lenR]; omega) | (refine qq ?_; rfl) | (refine dq ?_; kernel_rfl) | (intros; simp_all; done))))
   refine callF_pure (k_Roth _) ?_
   simp only [zT, seval, implies_true, Nat.reduceLeDiff, Nat.reduceEqDiff, reduceCtorEq, reduceIte]
   repeat ((with_reducible refine And.intro ?_ ?_); (focus (first | omega | (simp only [lenR]; omega) | (refine qq ?_; rfl) | (refine dq ?_; kernel_rfl) | (intros; simp_all; done))))
   refine callF_pure (k_Roth _) ?_
   simp only [zT, seval, implies_true, Nat.reduceLeDiff, Nat.reduceEqDiff, reduceCtorEq, reduceIte]
   repeat ((with_reducible refine And.intro ?_ ?_); (focus (first | omega | (simp only [lenR]; omega) | (refine qq ?_; rfl) | (refine dq ?_; kernel_rfl) | (intros; simp_all; done))))
   refine weak_to [] [0, 1, 2, 7] rfl (by simp) ?_ rfl
   simp only [zT, seval, implies_true, Nat.reduceLeDiff, Nat.reduceEqDiff, reduceCtorEq, reduceIte, @a_wrap ((k:Int) + 1) (by omega)]
   all_goals rfl
  ·simp only [zT, seval, implies_true, Nat.reduceLeDiff, Nat.reduceEqDiff, reduceCtorEq, reduceIte, (show ¬ (k:Int) < t.states.length by omega)]
   have : k = t.states.length := by omega
   subst this
   repeat ((with_reducible refine And.intro ?_ ?_); (focus (first | omega | (simp only [lenR]; omega) | (refine qq ?_; rfl) | (refine dq ?_; kernel_rfl) | (intros; simp_all; done))))
   refine ⟨_, _, ret_data rfl ?_, rfl, rfl⟩
   show D.agg [.sl (staCols.map ColT.toD), .sl (List.take (rowsOf staRow t.states t.states.length).length ((rowsOf staRow t.states t.states.length).map rowD))] = _
   rw [take_all]; rfl
theorem k_Rflo (t : TraceT) (ht : t.flows.length < 1000000) : Pure Tryz.prog Gl 55 [.d t.toD] (.d (floTab t).toD) := by
 refine Pure.of1 ?_
 refine acalls_of Tryz.func55 rfl rfl (by simp [Tryz.ntmps55]) (evC_sound rfl _ _ _ _ ?_)
 simp only [Tryz.ntmps55, Tryz.results55, argEnv, List.length_nil]
 simp only [zT, seval, implies_true, Nat.reduceLeDiff, Nat.reduceEqDiff, reduceCtorEq, reduceIte]
 repeat ((with_reducible refine And.intro ?_ ?_); (focus (first | omega | (simp only [lenR]; omega) | (refine qq ?_; rfl) | (refine dq ?_; kernel_rfl) | (intros; simp_all; done))))
 refine callF_dataE (σ' := [.box 10 (.d t.toD), .box 2 (.agg [.nils, .nils]), .frz 1 ([([105, 100] : List UInt8), ([115, 111, 117, 114, 99, 101] : List UInt8), ([116, 97, 114, 103, 101, 116] : List UInt8), ([102, 114, 111, 109] : List UInt8), ([116, 111] : List UInt8)].map .str)]) (k_columns [([105, 100] : List UInt8), ([115, 111, 117, 114, 99, 101] : List UInt8), ([116, 97, 114, 103, 101, 116] : List UInt8), ([102, 114, 111, 109] : List UInt8), ([116, 111] : List UInt8)] (by decide)) rfl rfl ?_
 rw [show kcols [([105, 100] : List UInt8), ([115, 111, 117, 114, 99, 101] : List UInt8), ([116, 97, 114, 103, 101, 116] : List UInt8), ([102, 114, 111, 109] : List UInt8), ([116, 111] : List UInt8)] = floCols by decide +kernel]
 simp only [zT, seval, implies_true, Nat.reduceLeDiff, Nat.reduceEqDiff, reduceCtorEq, reduceIte]
 repeat ((with_reducible refine And.intro ?_ ?_); (focus (first | omega | (simp only [lenR]; omega) | (refine qq ?_; rfl) | (refine dq ?_; kernel_rfl) | (intros; simp_all; done))))
 refine for_of t.flows.length (fun k => [(1, .ptr 0 0), (2, .ptr 1 0), (3, .ptr 2 0), (4, .d (.int .i64 k))])
  (fun k => [.box 10 (.d t.toD), .box 2 (.agg [.nils, .nils]), .box 2 (.agg [.d (.sl (floCols.map ColT.toD)), .osl 3 0 (rowsOf floRow t.flows k).length]), .arr 1 ((rowsOf floRow t.flows k).map rowD)]) (fun _ => True) trivial ?_ ?_
 ·refine Weak.trans (weak_boxNil 3 1 1 (Nat.zero_le _) rfl rfl (by simp) (by simp)) ?_
  refine weak_to [] [0, 1, 3, 4] rfl (by simp) ?_ rfl
  simp only [zT, seval, implies_true, Nat.reduceLeDiff, Nat.reduceEqDiff, reduceCtorEq, reduceIte]
  all_goals rfl
 ·intro k hi hk
  by_cases h : k < t.flows.length
  ·obtain ⟨x, hx⟩ : ∃ x, x = t.flows.getD k default := ⟨_, rfl⟩
   have hg : (List.map FlowT.toD t.flows).getD k default = x.toD := by rw [hx]; simp [h]
   have hs := rowsOf_step floRow t.flows k
   have hkl : (rowsOf floRow t.flows k).length = k := rowsOf_len _ _ _
   have hkl2 : (rowsOf floRow t.flows (k + 1)).length = k + 1 := rowsOf_len _ _ _
   rw [← hx] at hs
   have hm : List.map rowD (rowsOf floRow t.flows (k + 1)) = List.take k (List.map rowD (rowsOf floRow t.flows k)) ++ [rowD (floRow k x)] := by rw [hs]; exact map_snoc rowD _ _ hkl
   rw [hkl, hkl2, hm]
   simp only [zT, seval, implies_true, Nat.reduceLeDiff, Nat.reduceEqDiff, reduceCtorEq, reduceIte, (show (k:Int) < t.flows.length by omega), h, hg]
   repeat ((with_reducible refine And.intro ?_ ?_); (focus (first | omega | (simp only [lenR]; omega) | (refine qq ?_; rfl) | (refine dq ?_; kernel_rfl) | (intros; simp_all; done))))
   refine callF_pure (k_Rnum _) ?_
   simp only [zT, seval, implies_true, Nat.reduceLeDiff, Nat.reduceEqDiff, reduceCtorEq, reduceIte]
   repeat ((with_reducible refine And.intro ?_ ?_); (focus (first | omega | (simp only [lenR]; omega) | (refine qq ?_; rfl) | (refine dq ?_; kernel_rfl) | (intros; simp_all; done))))
   refine callF_pure (k_Rnum _) ?_
   simp only [zT, seval, implies_true, Nat.reduceLeDiff, Nat.reduceEqDiff, reduceCtorEq, reduceIte]
   repeat ((with_reducible refine And.intro ?_ ?_); (focus (first | omega | (simp only [lenR]; omega) | (refine qq ?_; rfl) | (refine dq ?_; kernel_rfl) | (intros; simp_all; done))))
   refine callF_pure (k_Rnum _) ?_
   simp only [zT, seval, implies_true, Nat.reduceLeDiff, Nat.reduceEqDiff, reduceCtorEq, reduceIte]
   repeat ((with_reducible refine And.intro ?_ ?_); (focus (first | omega | (simp only [lenR]; omega) | (refine qq ?_; rfl) | (refine dq ?_; kernel_rfl) | (intros; simp_all; done))))
   refine callF_pure (k_Rnum _) ?_
   simp only [zT, seval, implies_true, Nat.reduceLeDiff, Nat.reduceEqDiff, reduceCtorEq, reduceIte]
   repeat ((with_reducible refine And.intro ?_ ?_); (focus (first | omega | (simp only [lenR]; omega) | (refine qq ?_; rfl) | (refine dq ?_; kernel_rfl) | (intros; simp_all; done))))
   refine callF_pure (k_Rnum _) ?_
   simp only [zT, seval, implies_true, Nat.reduceLeDiff, Nat.reduceEqDiff, reduceCtorEq, reduceIte]
   repeat ((with_reducible refine And.intro ?_ ?_); (focus (first | omega | (simp only [lenR]; omega) | (refine qq ?_; rfl) | (refine dq ?_; kernel_rfl) | (intros; simp_all; done))))
   refine weak_to [] [0, 1, 2, 7] rfl (by simp) ?_ rfl
   simp only [zT, seval, implies_true, Nat.reduceLeDiff, Nat.reduceEqDiff, reduceCtorEq, reduceIte, @a_wrap ((k:Int) + 1) (by omega)]
   all_goals rfl
  ·simp only [zT, seval, implies_true, Nat.reduceLeDiff, Nat.reduceEqDiff, reduceCtorEq, reduceIte, (show ¬ (k:Int) < t.flows.length by omega)]
   have : k = t.flows.length := by omega
   subst this
   repeat ((with_reducible refine And.intro ?_ ?_); (focus (first | omega | (simp only [lenR]; omega) | (refine qq ?_; rfl) | (refine dq ?_; kernel_rfl) | (intros; simp_all; done))))
   refine ⟨_, _, ret_data rfl ?_, rfl, rfl⟩
   show D.agg [.sl (floCols.map ColT.toD), .sl (List.take (rowsOf floRow t.flows t.flows.length).length ((rowsOf floRow t.flows t.flows.length).map rowD))] = _
   rw [take_all]; rfl
theorem k_Rsam (t : TraceT) (ht : t.samples.length < 1000000) (hst : ∀ x ∈ t.samples, x.stack.length < 1000000) : Pure Tryz.prog Gl 56 [.d t.toD] (.d (samTab t).toD) := by
 refine Pure.of1 ?_
 refine acalls_of Tryz.func56 rfl rfl (by simp [Tryz.ntmps56]) (evC_sound rfl _ _ _ _ ?_)
 simp only [Tryz.ntmps56, Tryz.results56, argEnv, List.length_nil]
 simp only [zT, seval, implies_true, Nat.reduceLeDiff, Nat.reduceEqDiff, reduceCtorEq, reduceIte]
 repeat ((with_reducible refine And.intro ?_ ?_); (focus (first | omega | (simp only [lenR]; omega) | (refine qq ?_; rfl) | (refine dq ?_; kernel_rfl) | (intros; simp_all; done))))
 refine callF_dataE (σ' := [.box 10 (.d t.toD), .box 2 (.agg [.nils, .nils]), .frz 1 ([([97, 116] : List UInt8), ([116, 104, 114, 101, 97, 100] : List UInt8), ([119, 101, 105, 103, 104, 116] : List UInt8), ([108, 101, 97, 102] : List UInt8), ([100, 101, 112, 116, 104] : List UInt8)].map .str)]) (k_columns [([97, 116] : List UInt8), ([116, 104, 114, 101, 97, 100] : List UInt8), ([119, 101, 105, 103, 104, 116] : List UInt8), ([108, 101, 97, 102] : List UInt8), ([100, 101, 112, 116, 104] : List UInt8)] (by decide)) rfl rfl ?_
 rw [show kcols [([97, 116] : List UInt8), ([116, 104, 114, 101, 97, 100] : List UInt8), ([119, 101, 105, 103, 104, 116] : List UInt8), ([108, 101, 97, 102] : List UInt8), ([100, 101, 112, 116, 104] : List UInt8)] = samCols by decide +kernel]
 simp only [zT, seval, implies_true, Nat.reduceLeDiff, Nat.reduceEqDiff, reduceCtorEq, reduceIte]
 repeat ((with_reducible refine And.intro ?_ ?_); (focus (first | omega | (simp only [lenR]; omega) | (refine qq ?_; rfl) | (refine dq ?_; kernel_rfl) | (intros; simp_all; done))))
 refine for_of t.samples.length (fun k => [(1, .ptr 0 0), (2, .ptr 1 0), (3, .ptr 2 0), (4, .d (.int .i64 k))])
  (fun k => [.box 10 (.d t.toD), .box 2 (.agg [.nils, .nils]), .box 2 (.agg [.d (.sl (samCols.map ColT.toD)), .osl 3 0 (rowsOf samRow t.samples k).length]), .arr 1 ((rowsOf samRow t.samples k).map rowD)]) (fun _ => True) trivial ?_ ?_
 ·refine Weak.trans (weak_boxNil 3 1 1 (Nat.zero_le _) rfl rfl (by simp) (by simp)) ?_
  refine weak_to [] [0, 1, 3, 4] rfl (by simp) ?_ rfl
  simp only [zT, seval, implies_true, Nat.reduceLeDiff, Nat.reduceEqDiff, reduceCtorEq, reduceIte]
  all_goals rfl
 ·intro k hi hk
  by_cases h : k < t.samples.length
  ·obtain ⟨x, hx⟩ : ∃ x, x = t.samples.getD k default := ⟨_, rfl⟩
   have hg : (List.map SampleT.toD t.samples).getD k default = x.toD := by rw [hx]; simp [h]
   have hs := rowsOf_step samRow t.samples k
   have hkl : (rowsOf samRow t.samples k).length = k := rowsOf_len _ _ _
   have hkl2 : (rowsOf samRow t.samples (k + 1)).length = k + 1 := rowsOf_len _ _ _
   rw [← hx] at hs
   have hm : List.map rowD (rowsOf samRow t.samples (k + 1)) = List.take k (List.map rowD (rowsOf samRow t.samples k)) ++ [rowD (samRow k x)] := by rw [hs]; exact map_snoc rowD _ _ hkl
   rw [hkl, hkl2, hm]
   simp only [zT, seval, implies_true, Nat.reduceLeDiff, Nat.reduceEqDiff, reduceCtorEq, reduceIte, (show (k:Int) < t.samples.length by omega), h, hg]
   repeat ((with_reducible refine And.intro ?_ ?_); (focus (first | omega | (simp only [lenR]; omega) | (refine qq ?_; rfl) | (refine dq ?_; kernel_rfl) | (intros; simp_all; done))))
   have hxl := hst x (by rw [hx]; exact mem_getD h)
   refine ifC.mk (fun h2 => ?_) (fun h2 => ?_)
   ·have h2 : 0 < x.stack.length := by have := of_decide_eq_true h2; omega
    obtain ⟨m, hm⟩ : ∃ m, m = x.stack.length - 1 := ⟨_, rfl⟩
    have hwm : IntKind.i64.wrap ((x.stack.length : Int) - 1) = (m : Int) := by rw [@a_wrap ((x.stack.length : Int) - 1) (by omega)]; omega
    have hml : m < x.stack.length := by omega
    have hgs : (List.map D.str x.stack).getD m default = .str (x.stack.getD m default) := by simp [hml]
    have hleaf : txtV (x.stack.getD m default) = leafV x := by rw [leafV, if_pos h2, hm]
    simp only [zT, seval, implies_true, Nat.reduceLeDiff, Nat.reduceEqDiff, reduceCtorEq, reduceIte, hwm, (show (m:Int) < x.stack.length by omega), hml, hgs]
    repeat ((with_reducible refine And.intro ?_ ?_); (focus (first | omega | (simp only [lenR]; omega) | (refine qq ?_; rfl) | (refine dq ?_; kernel_rfl) | (intros; simp_all; done))))
    refine callF_pure (k_Rtxt _) ?_
    simp only [zT, seval, implies_true, Nat.reduceLeDiff, Nat.reduceEqDiff, reduceCtorEq, reduceIte]
    rw [hleaf]
    repeat ((with_reducible refine And.intro ?_ ?_); (focus (first | omega | (simp only [lenR]; omega) | (refine qq ?_; rfl) | (refine dq ?_; kernel_rfl) | (intros; simp_all; done))))
    refine callF_pure (k_Rnum _) ?_
    simp only [zT, seval, implies_true, Nat.reduceLeDiff, Nat.reduceEqDiff, reduceCtorEq, reduceIte]
    repeat ((with_reducible refine And.intro ?_ ?_); (focus (first | omega | (simp only [lenR]; omega) | (refine qq ?_; rfl) | (refine dq ?_; kernel_rfl) | (intros; simp_all; done))))
    refine callF_pure (k_Rnum _) ?_
    simp only [zT, seval, implies_true, Nat.reduceLeDiff, Nat.reduceEqDiff, reduceCtorEq, reduceIte]
    repeat ((with_reducible refine And.intro ?_ ?_); (focus (first | omega | (simp only [lenR]; omega) | (refine qq ?_; rfl) | (refine dq ?_; kernel_rfl) | (intros; simp_all; done))))
    refine callF_pure (k_Rnum _) ?_
    simp only [zT, seval, implies_true, Nat.reduceLeDiff, Nat.reduceEqDiff, reduceCtorEq, reduceIte]
    repeat ((with_reducible refine And.intro ?_ ?_); (focus (first | omega | (simp only [lenR]; omega) | (refine qq ?_; rfl) | (refine dq ?_; kernel_rfl) | (intros; simp_all; done))))
    refine callF_pure (k_Rnum _) ?_
    simp only [zT, seval, implies_true, Nat.reduceLeDiff, Nat.reduceEqDiff, reduceCtorEq, reduceIte]
    repeat ((with_reducible refine And.intro ?_ ?_); (focus (first | omega | (simp only [lenR]; omega) | (refine qq ?_; rfl) | (refine dq ?_; kernel_rfl) | (intros; simp_all; done))))
    refine weak_to [] [0, 1, 2, 8] rfl (by simp) ?_ rfl
    simp only [zT, seval, implies_true, Nat.reduceLeDiff, Nat.reduceEqDiff, reduceCtorEq, reduceIte, @a_wrap ((k:Int) + 1) (by omega)]
    all_goals rfl
   ·have h2 : ¬ 0 < x.stack.length := fun h => by have := of_decide_eq_false h2; omega
    have hleaf : D.agg [D.int IntKind.i64 0, D.int IntKind.i64 0, D.str []] = (leafV x).toD := by rw [leafV, if_neg h2]; rfl
    rw [hleaf]
    repeat ((with_reducible refine And.intro ?_ ?_); (focus (first | omega | (simp only [lenR]; omega) | (refine qq ?_; rfl) | (refine dq ?_; kernel_rfl) | (intros; simp_all; done))))
    refine callF_pure (k_Rnum _) ?_
    simp only [zT, seval, implies_true, Nat.reduceLeDiff, Nat.reduceEqDiff, reduceCtorEq, reduceIte]
    repeat ((with_reducible refine And.intro ?_ ?_); (focus (first | omega | (simp only [lenR]; omega) | (refine qq ?_; rfl) | (refine dq ?_; kernel_rfl) | (intros; simp_all; done))))
    refine callF_pure (k_Rnum _) ?_
    simp only [zT, seval, implies_true, Nat.reduceLeDiff, Nat.reduceEqDiff, reduceCtorEq, reduceIte]
    repeat ((with_reducible refine And.intro ?_ ?_); (focus (first | omega | (simp only [lenR]; omega) | (refine qq ?_; rfl) | (refine dq ?_; kernel_rfl) | (intros; simp_all; done))))
    refine callF_pure (k_Rnum _) ?_
    simp only [zT, seval, implies_true, Nat.reduceLeDiff, Nat.reduceEqDiff, reduceCtorEq, reduceIte]
    repeat ((with_reducible refine And.intro ?_ ?_); (focus (first | omega | (simp only [lenR]; omega) | (refine qq ?_; rfl) | (refine dq ?_; kernel_rfl) | (intros; simp_all; done))))
    refine callF_pure (k_Rnum _) ?_
    simp only [zT, seval, implies_true, Nat.reduceLeDiff, Nat.reduceEqDiff, reduceCtorEq, reduceIte]
    repeat ((with_reducible refine And.intro ?_ ?_); (focus (first | omega | (simp only [lenR]; omega) | (refine qq ?_; rfl) | (refine dq ?_; kernel_rfl) | (intros; simp_all; done))))
    refine weak_to [] [0, 1, 2, 8] rfl (by simp) ?_ rfl
    simp only [zT, seval, implies_true, Nat.reduceLeDiff, Nat.reduceEqDiff, reduceCtorEq, reduceIte, @a_wrap ((k:Int) + 1) (by omega)]
    all_goals rfl
  ·simp only [zT, seval, implies_true, Nat.reduceLeDiff, Nat.reduceEqDiff, reduceCtorEq, reduceIte, (show ¬ (k:Int) < t.samples.length by omega)]
   have : k = t.samples.length := by omega
   subst this
   repeat ((with_reducible refine And.intro ?_ ?_); (focus (first | omega | (simp only [lenR]; omega) | (refine qq ?_; rfl) | (refine dq ?_; kernel_rfl) | (intros; simp_all; done))))
   refine ⟨_, _, ret_data rfl ?_, rfl, rfl⟩
   show D.agg [.sl (samCols.map ColT.toD), .sl (List.take (rowsOf samRow t.samples t.samples.length).length ((rowsOf samRow t.samples t.samples.length).map rowD))] = _
   rw [take_all]; rfl
theorem k_Rcou (t : TraceT) (ht : t.steps.length < 1000000) : Pure Tryz.prog Gl 57 [.d t.toD] (.d (couTab t).toD) := by
 refine Pure.of1 ?_
 refine acalls_of Tryz.func57 rfl rfl (by simp [Tryz.ntmps57]) (evC_sound rfl _ _ _ _ ?_)
 simp only [Tryz.ntmps57, Tryz.results57, argEnv, List.length_nil]
 simp only [zT, seval, implies_true, Nat.reduceLeDiff, Nat.reduceEqDiff, reduceCtorEq, reduceIte]
 repeat ((with_reducible refine And.intro ?_ ?_); (focus (first | omega | (simp only [lenR]; omega) | (refine qq ?_; rfl) | (refine dq ?_; kernel_rfl) | (intros; simp_all; done))))
 refine callF_dataE (σ' := [.box 10 (.d t.toD), .box 2 (.agg [.nils, .nils]), .frz 1 ([([110, 97, 109, 101] : List UInt8), ([97, 116] : List UInt8), ([118, 97, 108, 117, 101] : List UInt8)].map .str)]) (k_columns [([110, 97, 109, 101] : List UInt8), ([97, 116] : List UInt8), ([118, 97, 108, 117, 101] : List UInt8)] (by decide)) rfl rfl ?_
 rw [show kcols [([110, 97, 109, 101] : List UInt8), ([97, 116] : List UInt8), ([118, 97, 108, 117, 101] : List UInt8)] = couCols by decide +kernel]
 simp only [zT, seval, implies_true, Nat.reduceLeDiff, Nat.reduceEqDiff, reduceCtorEq, reduceIte]
 repeat ((with_reducible refine And.intro ?_ ?_); (focus (first | omega | (simp only [lenR]; omega) | (refine qq ?_; rfl) | (refine dq ?_; kernel_rfl) | (intros; simp_all; done))))
 refine for_of t.steps.length (fun k => [(1, .ptr 0 0), (2, .ptr 1 0), (3, .ptr 2 0), (4, .d (.int .i64 k))])
  (fun k => [.box 10 (.d t.toD), .box 2 (.agg [.nils, .nils]), .box 2 (.agg [.d (.sl (couCols.map ColT.toD)), .osl 3 0 (rowsOf couRow t.steps k).length]), .arr 1 ((rowsOf couRow t.steps k).map rowD)]) (fun _ => True) trivial ?_ ?_
 ·refine Weak.trans (weak_boxNil 3 1 1 (Nat.zero_le _) rfl rfl (by simp) (by simp)) ?_
  refine weak_to [] [0, 1, 3, 4] rfl (by simp) ?_ rfl
  simp only [zT, seval, implies_true, Nat.reduceLeDiff, Nat.reduceEqDiff, reduceCtorEq, reduceIte]
  all_goals rfl
 ·intro k hi hk
  by_cases h : k < t.steps.length
  ·obtain ⟨x, hx⟩ : ∃ x, x = t.steps.getD k default := ⟨_, rfl⟩
   have hg : (List.map StepT.toD t.steps).getD k default = x.toD := by rw [hx]; simp [h]
   have hs := rowsOf_step couRow t.steps k
   have hkl : (rowsOf couRow t.steps k).length = k := rowsOf_len _ _ _
   have hkl2 : (rowsOf couRow t.steps (k + 1)).length = k + 1 := rowsOf_len _ _ _
   rw [← hx] at hs
   have hm : List.map rowD (rowsOf couRow t.steps (k + 1)) = List.take k (List.map rowD (rowsOf couRow t.steps k)) ++ [rowD (couRow k x)] := by rw [hs]; exact map_snoc rowD _ _ hkl
   rw [hkl, hkl2, hm]
   simp only [zT, seval, implies_true, Nat.reduceLeDiff, Nat.reduceEqDiff, reduceCtorEq, reduceIte, (show (k:Int) < t.steps.length by omega), h, hg]
   repeat ((with_reducible refine And.intro ?_ ?_); (focus (first | omega | (simp only [lenR]; omega) | (refine qq ?_; rfl) | (refine dq ?_; kernel_rfl) | (intros; simp_all; done))))
   refine callF_pure (k_Rtxt _) ?_
   simp only [zT, seval, implies_true, Nat.reduceLeDiff, Nat.reduceEqDiff, reduceCtorEq, reduceIte]
   repeat ((with_reducible refine And.intro ?_ ?_); (focus (first | omega | (simp only [lenR]; omega) | (refine qq ?_; rfl) | (refine dq ?_; kernel_rfl) | (intros; simp_all; done))))
   refine callF_pure (k_Rnum _) ?_
   simp only [zT, seval, implies_true, Nat.reduceLeDiff, Nat.reduceEqDiff, reduceCtorEq, reduceIte]
   repeat ((with_reducible refine And.intro ?_ ?_); (focus (first | omega | (simp only [lenR]; omega) | (refine qq ?_; rfl) | (refine dq ?_; kernel_rfl) | (intros; simp_all; done))))
   refine callF_pure (k_Rnum _) ?_
   simp only [zT, seval, implies_true, Nat.reduceLeDiff, Nat.reduceEqDiff, reduceCtorEq, reduceIte]
   repeat ((with_reducible refine And.intro ?_ ?_); (focus (first | omega | (simp only [lenR]; omega) | (refine qq ?_; rfl) | (refine dq ?_; kernel_rfl) | (intros; simp_all; done))))
   refine weak_to [] [0, 1, 2, 7] rfl (by simp) ?_ rfl
   simp only [zT, seval, implies_true, Nat.reduceLeDiff, Nat.reduceEqDiff, reduceCtorEq, reduceIte, @a_wrap ((k:Int) + 1) (by omega)]
   all_goals rfl
  ·simp only [zT, seval, implies_true, Nat.reduceLeDiff, Nat.reduceEqDiff, reduceCtorEq, reduceIte, (show ¬ (k:Int) < t.steps.length by omega)]
   have : k = t.steps.length := by omega
   subst this
   repeat ((with_reducible refine And.intro ?_ ?_); (focus (first | omega | (simp only [lenR]; omega) | (refine qq ?_; rfl) | (refine dq ?_; kernel_rfl) | (intros; simp_all; done))))
   refine ⟨_, _, ret_data rfl ?_, rfl, rfl⟩
   show D.agg [.sl (couCols.map ColT.toD), .sl (List.take (rowsOf couRow t.steps t.steps.length).length ((rowsOf couRow t.steps t.steps.length).map rowD))] = _
   rw [take_all]; rfl
theorem k_Rblo (t : TraceT) (ht : t.blocks.length < 1000000) : Pure Tryz.prog Gl 58 [.d t.toD] (.d (bloTab t).toD) := by
 refine Pure.of1 ?_
 refine acalls_of Tryz.func58 rfl rfl (by simp [Tryz.ntmps58]) (evC_sound rfl _ _ _ _ ?_)
 simp only [Tryz.ntmps58, Tryz.results58, argEnv, List.length_nil]
 simp only [zT, seval, implies_true, Nat.reduceLeDiff, Nat.reduceEqDiff, reduceCtorEq, reduceIte]
 repeat ((with_reducible refine And.intro ?_ ?_); (focus (first | omega | (simp only [lenR]; omega) | (refine qq ?_; rfl) | (refine dq ?_; kernel_rfl) | (intros; simp_all; done))))
 refine callF_dataE (σ' := [.box 10 (.d t.toD), .box 2 (.agg [.nils, .nils]), .frz 1 ([([105, 100] : List UInt8), ([116, 104, 114, 101, 97, 100] : List UInt8), ([115, 105, 122, 101] : List UInt8), ([102, 114, 111, 109] : List UInt8), ([116, 111] : List UInt8), ([108, 105, 118, 101] : List UInt8)].map .str)]) (k_columns [([105, 100] : List UInt8), ([116, 104, 114, 101, 97, 100] : List UInt8), ([115, 105, 122, 101] : List UInt8), ([102, 114, 111, 109] : List UInt8), ([116, 111] : List UInt8), ([108, 105, 118, 101] : List UInt8)] (by decide)) rfl rfl ?_
 rw [show kcols [([105, 100] : List UInt8), ([116, 104, 114, 101, 97, 100] : List UInt8), ([115, 105, 122, 101] : List UInt8), ([102, 114, 111, 109] : List UInt8), ([116, 111] : List UInt8), ([108, 105, 118, 101] : List UInt8)] = bloCols by decide +kernel]
 simp only [zT, seval, implies_true, Nat.reduceLeDiff, Nat.reduceEqDiff, reduceCtorEq, reduceIte]
 repeat ((with_reducible refine And.intro ?_ ?_); (focus (first | omega | (simp only [lenR]; omega) | (refine qq ?_; rfl) | (refine dq ?_; kernel_rfl) | (intros; simp_all; done))))
 refine for_of t.blocks.length (fun k => [(1, .ptr 0 0), (2, .ptr 1 0), (3, .ptr 2 0), (4, .d (.int .i64 k))])
  (fun k => [.box 10 (.d t.toD), .box 2 (.agg [.nils, .nils]), .box 2 (.agg [.d (.sl (bloCols.map ColT.toD)), .osl 3 0 (rowsOf bloRow t.blocks k).length]), .arr 1 ((rowsOf bloRow t.blocks k).map rowD)]) (fun _ => True) trivial ?_ ?_
 ·refine Weak.trans (weak_boxNil 3 1 1 (Nat.zero_le _) rfl rfl (by simp) (by simp)) ?_
  refine weak_to [] [0, 1, 3, 4] rfl (by simp) ?_ rfl
  simp only [zT, seval, implies_true, Nat.reduceLeDiff, Nat.reduceEqDiff, reduceCtorEq, reduceIte]
  all_goals rfl
 ·intro k hi hk
  by_cases h : k < t.blocks.length
  ·obtain ⟨x, hx⟩ : ∃ x, x = t.blocks.getD k default := ⟨_, rfl⟩
   have hg : (List.map BlockT.toD t.blocks).getD k default = x.toD := by rw [hx]; simp [h]
   have hs := rowsOf_step bloRow t.blocks k
   have hkl : (rowsOf bloRow t.blocks k).length = k := rowsOf_len _ _ _
   have hkl2 : (rowsOf bloRow t.blocks (k + 1)).length = k + 1 := rowsOf_len _ _ _
   rw [← hx] at hs
   have hm : List.map rowD (rowsOf bloRow t.blocks (k + 1)) = List.take k (List.map rowD (rowsOf bloRow t.blocks k)) ++ [rowD (bloRow k x)] := by rw [hs]; exact map_snoc rowD _ _ hkl
   rw [hkl, hkl2, hm]
   simp only [zT, seval, implies_true, Nat.reduceLeDiff, Nat.reduceEqDiff, reduceCtorEq, reduceIte, (show (k:Int) < t.blocks.length by omega), h, hg]
   repeat ((with_reducible refine And.intro ?_ ?_); (focus (first | omega | (simp only [lenR]; omega) | (refine qq ?_; rfl) | (refine dq ?_; kernel_rfl) | (intros; simp_all; done))))
   refine callF_pure (k_Rnum _) ?_
   simp only [zT, seval, implies_true, Nat.reduceLeDiff, Nat.reduceEqDiff, reduceCtorEq, reduceIte]
   repeat ((with_reducible refine And.intro ?_ ?_); (focus (first | omega | (simp only [lenR]; omega) | (refine qq ?_; rfl) | (refine dq ?_; kernel_rfl) | (intros; simp_all; done))))
   refine callF_pure (k_Rnum _) ?_
   simp only [zT, seval, implies_true, Nat.reduceLeDiff, Nat.reduceEqDiff, reduceCtorEq, reduceIte]
   repeat ((with_reducible refine And.intro ?_ ?_); (focus (first | omega | (simp only [lenR]; omega) | (refine qq ?_; rfl) | (refine dq ?_; kernel_rfl) | (intros; simp_all; done))))
   refine callF_pure (k_Rnum _) ?_
   simp only [zT, seval, implies_true, Nat.reduceLeDiff, Nat.reduceEqDiff, reduceCtorEq, reduceIte]
   repeat ((with_reducible refine And.intro ?_ ?_); (focus (first | omega | (simp only [lenR]; omega) | (refine qq ?_; rfl) | (refine dq ?_; kernel_rfl) | (intros; simp_all; done))))
   refine callF_pure (k_Rnum _) ?_
   simp only [zT, seval, implies_true, Nat.reduceLeDiff, Nat.reduceEqDiff, reduceCtorEq, reduceIte]
   repeat ((with_reducible refine And.intro ?_ ?_); (focus (first | omega | (simp only [lenR]; omega) | (refine qq ?_; rfl) | (refine dq ?_; kernel_rfl) | (intros; simp_all; done))))
   refine callF_pure (k_Rnum _) ?_
   simp only [zT, seval, implies_true, Nat.reduceLeDiff, Nat.reduceEqDiff, reduceCtorEq, reduceIte]
   repeat ((with_reducible refine And.intro ?_ ?_); (focus (first | omega | (simp only [lenR]; omega) | (refine qq ?_; rfl) | (refine dq ?_; kernel_rfl) | (intros; simp_all; done))))
   refine callF_pure (k_Rtru _) ?_
   simp only [zT, seval, implies_true, Nat.reduceLeDiff, Nat.reduceEqDiff, reduceCtorEq, reduceIte]
   repeat ((with_reducible refine And.intro ?_ ?_); (focus (first | omega | (simp only [lenR]; omega) | (refine qq ?_; rfl) | (refine dq ?_; kernel_rfl) | (intros; simp_all; done))))
   refine weak_to [] [0, 1, 2, 7] rfl (by simp) ?_ rfl
   simp only [zT, seval, implies_true, Nat.reduceLeDiff, Nat.reduceEqDiff, reduceCtorEq, reduceIte, @a_wrap ((k:Int) + 1) (by omega)]
   all_goals rfl
  ·simp only [zT, seval, implies_true, Nat.reduceLeDiff, Nat.reduceEqDiff, reduceCtorEq, reduceIte, (show ¬ (k:Int) < t.blocks.length by omega)]
   have : k = t.blocks.length := by omega
   subst this
   repeat ((with_reducible refine And.intro ?_ ?_); (focus (first | omega | (simp only [lenR]; omega) | (refine qq ?_; rfl) | (refine dq ?_; kernel_rfl) | (intros; simp_all; done))))
   refine ⟨_, _, ret_data rfl ?_, rfl, rfl⟩
   show D.agg [.sl (bloCols.map ColT.toD), .sl (List.take (rowsOf bloRow t.blocks t.blocks.length).length ((rowsOf bloRow t.blocks t.blocks.length).map rowD))] = _
   rw [take_all]; rfl
theorem k_Rlos (t : TraceT) (ht : t.lost.length < 1000000) : Pure Tryz.prog Gl 59 [.d t.toD] (.d (losTab t).toD) := by
 refine Pure.of1 ?_
 refine acalls_of Tryz.func59 rfl rfl (by simp [Tryz.ntmps59]) (evC_sound rfl _ _ _ _ ?_)
 simp only [Tryz.ntmps59, Tryz.results59, argEnv, List.length_nil]
 simp only [zT, seval, implies_true, Nat.reduceLeDiff, Nat.reduceEqDiff, reduceCtorEq, reduceIte]
 repeat ((with_reducible refine And.intro ?_ ?_); (focus (first | omega | (simp only [lenR]; omega) | (refine qq ?_; rfl) | (refine dq ?_; kernel_rfl) | (intros; simp_all; done))))
 refine callF_dataE (σ' := [.box 10 (.d t.toD), .box 2 (.agg [.nils, .nils]), .frz 1 ([([116, 104, 114, 101, 97, 100] : List UInt8), ([102, 114, 111, 109] : List UInt8), ([116, 111] : List UInt8), ([99, 111, 117, 110, 116] : List UInt8)].map .str)]) (k_columns [([116, 104, 114, 101, 97, 100] : List UInt8), ([102, 114, 111, 109] : List UInt8), ([116, 111] : List UInt8), ([99, 111, 117, 110, 116] : List UInt8)] (by decide)) rfl rfl ?_
 rw [show kcols [([116, 104, 114, 101, 97, 100] : List UInt8), ([102, 114, 111, 109] : List UInt8), ([116, 111] : List UInt8), ([99, 111, 117, 110, 116] : List UInt8)] = losCols by decide +kernel]
 simp only [zT, seval, implies_true, Nat.reduceLeDiff, Nat.reduceEqDiff, reduceCtorEq, reduceIte]
 repeat ((with_reducible refine And.intro ?_ ?_); (focus (first | omega | (simp only [lenR]; omega) | (refine qq ?_; rfl) | (refine dq ?_; kernel_rfl) | (intros; simp_all; done))))
 refine for_of t.lost.length (fun k => [(1, .ptr 0 0), (2, .ptr 1 0), (3, .ptr 2 0), (4, .d (.int .i64 k))])
  (fun k => [.box 10 (.d t.toD), .box 2 (.agg [.nils, .nils]), .box 2 (.agg [.d (.sl (losCols.map ColT.toD)), .osl 3 0 (rowsOf losRow t.lost k).length]), .arr 1 ((rowsOf losRow t.lost k).map rowD)]) (fun _ => True) trivial ?_ ?_
 ·refine Weak.trans (weak_boxNil 3 1 1 (Nat.zero_le _) rfl rfl (by simp) (by simp)) ?_
  refine weak_to [] [0, 1, 3, 4] rfl (by simp) ?_ rfl
  simp only [zT, seval, implies_true, Nat.reduceLeDiff, Nat.reduceEqDiff, reduceCtorEq, reduceIte]
  all_goals rfl
 ·intro k hi hk
  by_cases h : k < t.lost.length
  ·obtain ⟨x, hx⟩ : ∃ x, x = t.lost.getD k default := ⟨_, rfl⟩
   have hg : (List.map LossT.toD t.lost).getD k default = x.toD := by rw [hx]; simp [h]
   have hs := rowsOf_step losRow t.lost k
   have hkl : (rowsOf losRow t.lost k).length = k := rowsOf_len _ _ _
   have hkl2 : (rowsOf losRow t.lost (k + 1)).length = k + 1 := rowsOf_len _ _ _
   rw [← hx] at hs
   have hm : List.map rowD (rowsOf losRow t.lost (k + 1)) = List.take k (List.map rowD (rowsOf losRow t.lost k)) ++ [rowD (losRow k x)] := by rw [hs]; exact map_snoc rowD _ _ hkl
   rw [hkl, hkl2, hm]
   simp only [zT, seval, implies_true, Nat.reduceLeDiff, Nat.reduceEqDiff, reduceCtorEq, reduceIte, (show (k:Int) < t.lost.length by omega), h, hg]
   repeat ((with_reducible refine And.intro ?_ ?_); (focus (first | omega | (simp only [lenR]; omega) | (refine qq ?_; rfl) | (refine dq ?_; kernel_rfl) | (intros; simp_all; done))))
   refine callF_pure (k_Rnum _) ?_
   simp only [zT, seval, implies_true, Nat.reduceLeDiff, Nat.reduceEqDiff, reduceCtorEq, reduceIte]
   repeat ((with_reducible refine And.intro ?_ ?_); (focus (first | omega | (simp only [lenR]; omega) | (refine qq ?_; rfl) | (refine dq ?_; kernel_rfl) | (intros; simp_all; done))))
   refine callF_pure (k_Rnum _) ?_
   simp only [zT, seval, implies_true, Nat.reduceLeDiff, Nat.reduceEqDiff, reduceCtorEq, reduceIte]
   repeat ((with_reducible refine And.intro ?_ ?_); (focus (first | omega | (simp only [lenR]; omega) | (refine qq ?_; rfl) | (refine dq ?_; kernel_rfl) | (intros; simp_all; done))))
   refine callF_pure (k_Rnum _) ?_
   simp only [zT, seval, implies_true, Nat.reduceLeDiff, Nat.reduceEqDiff, reduceCtorEq, reduceIte]
   repeat ((with_reducible refine And.intro ?_ ?_); (focus (first | omega | (simp only [lenR]; omega) | (refine qq ?_; rfl) | (refine dq ?_; kernel_rfl) | (intros; simp_all; done))))
   refine callF_pure (k_Rnum _) ?_
   simp only [zT, seval, implies_true, Nat.reduceLeDiff, Nat.reduceEqDiff, reduceCtorEq, reduceIte]
   repeat ((with_reducible refine And.intro ?_ ?_); (focus (first | omega | (simp only [lenR]; omega) | (refine qq ?_; rfl) | (refine dq ?_; kernel_rfl) | (intros; simp_all; done))))
   refine weak_to [] [0, 1, 2, 7] rfl (by simp) ?_ rfl
   simp only [zT, seval, implies_true, Nat.reduceLeDiff, Nat.reduceEqDiff, reduceCtorEq, reduceIte, @a_wrap ((k:Int) + 1) (by omega)]
   all_goals rfl
  ·simp only [zT, seval, implies_true, Nat.reduceLeDiff, Nat.reduceEqDiff, reduceCtorEq, reduceIte, (show ¬ (k:Int) < t.lost.length by omega)]
   have : k = t.lost.length := by omega
   subst this
   repeat ((with_reducible refine And.intro ?_ ?_); (focus (first | omega | (simp only [lenR]; omega) | (refine qq ?_; rfl) | (refine dq ?_; kernel_rfl) | (intros; simp_all; done))))
   refine ⟨_, _, ret_data rfl ?_, rfl, rfl⟩
   show D.agg [.sl (losCols.map ColT.toD), .sl (List.take (rowsOf losRow t.lost t.lost.length).length ((rowsOf losRow t.lost t.lost.length).map rowD))] = _
   rw [take_all]; rfl
end YtadfcljoocjhdaaGreat
end Go.Proofs
