/- A part of the proof: contracts of functions of this seat, and lemmas. No condition beyond those stated. -/
import Derived.Test.YtadfcljoocjhdaaGreatWttg
import Derived.Test.YtadfcljoocjhdaaGreatWts8
import Derived.Test.YtadfcljoocjhdaaGreatWttm
set_option linter.unusedVariables false
set_option linter.unusedSimpArgs false
set_option linter.unusedSectionVars false
set_option linter.unnecessarySimpa false
set_option maxRecDepth 100000
namespace Go.Proofs
open Go.AM
namespace YtadfcljoocjhdaaGreat
variable {Gl : Globs}
def natD (l : List Nat) : D := .sl (l.map fun a : Nat => D.int .i64 a)
theorem k_Sorted1 (ats : List Nat) (row : List ValT) (hl : ats.length < 1000000) (hr : row.length < 1000000) (ha : ∀ a ∈ ats, a < row.length) :
  ACalls Tryz.prog Gl 70 [.d (rowD row), .ptr 0 0] [.box 1 (.d (natD ats))] (fun r s => r = .d (rowD (ats.map fun a => row.getD a default)) ∧ s = [.box 1 (.d (natD ats))]) := by
 rw [rowD, natD]
 refine acalls_of Tryz.func70 rfl rfl (by simp [Tryz.ntmps70]) (evC_sound rfl _ _ _ _ ?_)
 simp only [Tryz.ntmps70, Tryz.results70, argEnv, List.length_nil]
 simp only [zT, seval, implies_true, Nat.reduceLeDiff, Nat.reduceEqDiff, reduceCtorEq, reduceIte]
 repeat ((with_reducible refine And.intro ?_ ?_); (focus (first | omega | (simp only [lenR]; omega) | (refine qq ?_; rfl) | (refine dq ?_; kernel_rfl) | (intros; simp_all; done))))
 refine for_of ats.length (fun k => [(0, .d (.sl (row.map ValT.toD))), (4, .osl 1 0 k), (7, .d (.sl (ats.map fun a : Nat => D.int .i64 a))), (8, .d (.int .i64 ats.length)), (9, .d (.int .i64 k))]) (fun k => [.box 1 (.d (.sl (ats.map fun a : Nat => D.int .i64 a))), .arr 3 (((ats.take k).map fun a => row.getD a default).map ValT.toD)]) (fun _ => True) trivial ?_ ?_
 ·refine (weak_nils 4 3 rfl).trans ?_
  refine weak_to [] [0, 1] rfl (by simp) ?_ rfl
  simp only [zT, seval, implies_true, Nat.reduceLeDiff, Nat.reduceEqDiff, reduceCtorEq, reduceIte]
  all_goals rfl
 ·intro k hi hk
  by_cases h : k < ats.length
  ·obtain ⟨a, hak⟩ : ∃ a, a = ats.getD k default := ⟨_, rfl⟩
   have hal : a < row.length := ha a (by rw [hak]; exact mem_getD h)
   have hg : (List.map (fun a : Nat => D.int .i64 a) ats).getD k default = .int .i64 a := by rw [hak]; simp [h]
   have hgr : (List.map ValT.toD row).getD a default = (row.getD a default).toD := by simp [hal]
   have hm : (List.map ValT.toD ((ats.take (k + 1)).map fun a => row.getD a default)) = List.take k (List.map ValT.toD ((ats.take k).map fun a => row.getD a default)) ++ [(row.getD a default).toD] := by
    rw [show ats.take (k + 1) = ats.take k ++ [a] by rw [List.take_add_one, hak]; simp [h], List.map_append]
    exact map_snoc _ _ _ (by simp; omega)
   simp only [zT, seval, implies_true, Nat.reduceLeDiff, Nat.reduceEqDiff, reduceCtorEq, reduceIte, (show (k:Int) < ats.length by omega), h, hg, (show (a:Int) < row.length by omega), hal, hgr]
   repeat ((with_reducible refine And.intro ?_ ?_); (focus (first | omega | (simp only [lenR]; omega) | (refine qq ?_; rfl) | (refine dq ?_; kernel_rfl) | (intros; simp_all; done))))
   rw [hm]
   refine weak_to [] [0, 3] rfl (by simp) ?_ rfl
   simp only [zT, seval, implies_true, Nat.reduceLeDiff, Nat.reduceEqDiff, reduceCtorEq, reduceIte, @a_wrap ((k:Int) + 1) (by omega)]
   all_goals rfl
  ·simp only [zT, seval, implies_true, Nat.reduceLeDiff, Nat.reduceEqDiff, reduceCtorEq, reduceIte, (show ¬ (k:Int) < ats.length by omega)]
   have : k = ats.length := by omega
   subst this
   rw [List.take_length]
   refine ⟨_, _, (weakR_toD (by rfl)).trans (weakR_to [] [0] rfl (by simp) (show renV _ _ _ = AV.d _ from rfl) rfl), ?_, rfl⟩
   show AV.d (.sl (List.take _ (List.map ValT.toD _))) = _
   rw [List.take_of_length_le (by simp)]; rfl
theorem k_compared (f : Nat → ValT → ValT → Int) (L : D) (fv : FuncId) (n : Nat) (hn : n < 1000000) (hp : ∀ i x y, i < n → ACalls Tryz.prog Gl fv [.d (.int .i64 (i : Nat)), .d x.toD, .d y.toD, .ptr 0 0] [.box 1 (.d L)] (fun r s => r = .d (.int .i64 (f i x y)) ∧ s = [.box 1 (.d L)])) (a b : List ValT) (ha : a.length = n) (hb : b.length = n) :
  ACalls Tryz.prog Gl 74 [.d (rowD a), .d (rowD b), .fn fv [.ptr 0 0]] [.box 1 (.d L)] (fun r s => r = .d (.int .i64 (firstErr (fun i => f i (a.getD i default) (b.getD i default)) n)) ∧ s = [.box 1 (.d L)]) := by
 obtain ⟨F, hF⟩ : ∃ F, F = firstErr (fun i => f i (a.getD i default) (b.getD i default)) n := ⟨_, rfl⟩
 rw [← hF, rowD, rowD]
 refine acalls_of Tryz.func74 rfl rfl (by simp [Tryz.ntmps74]) (evC_sound rfl _ _ _ _ ?_)
 simp only [Tryz.ntmps74, Tryz.results74, argEnv, List.length_nil]
 simp only [zT, seval, implies_true, Nat.reduceLeDiff, Nat.reduceEqDiff, reduceCtorEq, reduceIte]
 have hmin : min (b.length : Int) (a.length : Int) = n := by rw [ha, hb]; omega
 have hmin2 : min (a.length : Int) (b.length : Int) = n := by rw [ha, hb]; omega
 repeat ((with_reducible refine And.intro ?_ ?_); (focus (first | omega | (simp only [lenR]; omega) | (refine qq ?_; rfl) | (refine dq ?_; kernel_rfl) | (intros; simp_all; done))))
 refine for_of n (fun k => [(0, .d (.sl (a.map ValT.toD))), (1, .d (.sl (b.map ValT.toD))), (2, .fn fv [.ptr 0 0]), (13, .d (.int .i64 n)), (14, .d (.int .i64 k))]) (fun k => [.box 1 (.d L)]) (fun k => firstErr (fun i => f i (a.getD i default) (b.getD i default)) k = 0) rfl ?_ ?_
 ·refine weak_to [] [0] rfl (by simp) ?_ rfl
  simp only [zT, seval, implies_true, Nat.reduceLeDiff, Nat.reduceEqDiff, reduceCtorEq, reduceIte, hmin, hmin2]
  all_goals rfl
 ·intro k hi hk
  by_cases h : k < n
  ·have hs := firstErr_snoc hi
   have h1 : k < a.length := by omega
   have h2 : k < b.length := by omega
   have hga : (List.map ValT.toD a).getD k default = (a.getD k default).toD := by simp [h1]
   have hgb : (List.map ValT.toD b).getD k default = (b.getD k default).toD := by simp [h2]
   simp only [zT, seval, implies_true, Nat.reduceLeDiff, Nat.reduceEqDiff, reduceCtorEq, reduceIte, (show (k:Int) < n by omega), (show (k:Int) < a.length by omega), (show (k:Int) < b.length by omega), h1, h2, hga, hgb]
   repeat ((with_reducible refine And.intro ?_ ?_); (focus (first | omega | (simp only [lenR]; omega) | (refine qq ?_; rfl) | (refine dq ?_; kernel_rfl) | (intros; simp_all; done))))
   refine callF_blk1 0 (hp k (a.getD k default) (b.getD k default) h) (fun s => rfl) rfl trivial ?_
   simp only [zT, seval, implies_true, Nat.reduceLeDiff, Nat.reduceEqDiff, reduceCtorEq, reduceIte]
   repeat ((with_reducible refine And.intro ?_ ?_); (focus (first | omega | (simp only [lenR]; omega) | (refine qq ?_; rfl) | (refine dq ?_; kernel_rfl) | (intros; simp_all; done))))
   refine ifC.mk (fun h3 => ?_) (fun h3 => ?_)
   ·have h3 := bne_iff_ne.1 h3
    refine ⟨_, _, weakR_to [] [0] rfl (by simp) (show renV _ _ _ = AV.d _ from rfl) rfl, ?_, rfl⟩
    rw [hF, firstErr_at (f := fun i => f i (a.getD i default) (b.getD i default)) hi h3 h]
   ·have h3 : f k (a.getD k default) (b.getD k default) = 0 := by simpa using h3
    refine ⟨h, by rw [hs, h3], ?_⟩
    refine weak_to [] [0] rfl (by simp) ?_ rfl
    simp only [zT, seval, implies_true, Nat.reduceLeDiff, Nat.reduceEqDiff, reduceCtorEq, reduceIte, @a_wrap ((k:Int) + 1) (by omega)]
    all_goals rfl
  ·simp only [zT, seval, implies_true, Nat.reduceLeDiff, Nat.reduceEqDiff, reduceCtorEq, reduceIte, (show ¬ (k:Int) < n by omega)]
   have : k = n := by omega
   subst this
   refine callF_pure (k_Compare _ _) ?_
   simp only [zT, seval, implies_true, Nat.reduceLeDiff, Nat.reduceEqDiff, reduceCtorEq, reduceIte]
   refine ⟨_, _, weakR_to [] [0] rfl (by simp) (show renV _ _ _ = AV.d _ from rfl) rfl, ?_, rfl⟩
   rw [hF, hi, ha, hb]
   rcases cmpI_cases (k : Int) (k : Int) with ⟨h, _⟩ | ⟨_, h⟩ | ⟨h, _⟩
   ·omega
   ·rw [h]
   ·omega
def srtD (l : List SrtT) : D := .sl (l.map SrtT.toD)
def cmpAt (l : List SrtT) (i : Nat) (x y : ValT) : Int := if (l.getD i default).desc = true then ordV y x else ordV x y
theorem k_Sorted21 (l : List SrtT) (hl : l.length < 1000000) (i : Nat) (x y : ValT) (hi : i < l.length) : ACalls Tryz.prog Gl 75 [.d (.int .i64 (i : Nat)), .d x.toD, .d y.toD, .ptr 0 0] [.box 1 (.d (srtD l))] (fun r s => r = .d (.int .i64 (cmpAt l i x y)) ∧ s = [.box 1 (.d (srtD l))]) := by
 obtain ⟨F, hF⟩ : ∃ F, F = cmpAt l i x y := ⟨_, rfl⟩
 rw [← hF, srtD]
 obtain ⟨s, hs⟩ : ∃ s, s = l.getD i default := ⟨_, rfl⟩
 have hg : (List.map SrtT.toD l).getD i default = s.toD := by rw [hs]; simp [hi]
 rw [cmpAt, ← hs] at hF
 refine acalls_of Tryz.func75 rfl rfl (by simp [Tryz.ntmps75]) (evC_sound rfl _ _ _ _ ?_)
 simp only [Tryz.ntmps75, Tryz.results75, argEnv, List.length_nil]
 simp only [zT, seval, implies_true, Nat.reduceLeDiff, Nat.reduceEqDiff, reduceCtorEq, reduceIte]
 (try simp only [zT, seval, implies_true, Nat.reduceLeDiff, Nat.reduceEqDiff, reduceCtorEq, reduceIte, (show (i:Int) < l.length by omega), hi, hg])
 repeat ((with_reducible refine And.intro ?_ ?_); (focus (first | omega | (simp only [lenR]; omega) | (refine qq ?_; rfl) | (refine dq ?_; kernel_rfl) | (intros; simp_all; done))))
 refine ifC.mk (fun h1 => ?_) (fun h1 => ?_)
 ·rw [if_pos h1] at hF
  refine callF_pure (k_Order y x) ?_
  simp only [zT, seval, implies_true, Nat.reduceLeDiff, Nat.reduceEqDiff, reduceCtorEq, reduceIte]
  refine ⟨_, _, weakR_to [] [0] rfl (by simp) (show renV _ _ _ = AV.d _ from rfl) rfl, ?_, rfl⟩
  rw [hF]
 ·rw [if_neg (by rw [h1]; simp)] at hF
  refine callF_pure (k_Order x y) ?_
  simp only [zT, seval, implies_true, Nat.reduceLeDiff, Nat.reduceEqDiff, reduceCtorEq, reduceIte]
  refine ⟨_, _, weakR_to [] [0] rfl (by simp) (show renV _ _ _ = AV.d _ from rfl) rfl, ?_, rfl⟩
  rw [hF]
end YtadfcljoocjhdaaGreat
end Go.Proofs
