/- A part of the proof: contracts of functions of this seat, and lemmas. No condition beyond those stated. -/
import Derived.Test.YtadfcljoocjhdaaGreatWtd
set_option linter.unusedVariables false
set_option linter.unusedSimpArgs false
set_option linter.unusedSectionVars false
set_option linter.unnecessarySimpa false
set_option maxRecDepth 100000
namespace Go.Proofs
open Go.AM
namespace YtadfcljoocjhdaaGreat
variable {Gl : Globs}
structure ValT where
 k : Int
 n : Int
 s : List UInt8
deriving Inhabited, DecidableEq
def ValT.toD (x : ValT) : D := .agg [.int .i64 x.k, .int .i64 x.n, .str x.s]
theorem w_isAgg (x : ValT) : x.toD.isAgg = true := rfl
theorem w_cells (x : ValT) : x.toD.cells = [.int .i64 x.k, .int .i64 x.n, .str x.s] := rfl
structure ColT where
 name : List UInt8
 ty : Int
deriving Inhabited, DecidableEq
def ColT.toD (x : ColT) : D := .agg [.str x.name, .int .i64 x.ty]
theorem x_isAgg (x : ColT) : x.toD.isAgg = true := rfl
theorem x_cells (x : ColT) : x.toD.cells = [.str x.name, .int .i64 x.ty] := rfl
def rowD (r : List ValT) : D := .sl (r.map ValT.toD)
theorem rowD_isAgg (r : List ValT) : (rowD r).isAgg = false := rfl
theorem rowD_cells (r : List ValT) : (rowD r).cells = [rowD r] := rfl
structure TabT where
 cols : List ColT
 rows : List (List ValT)
deriving Inhabited, DecidableEq
def TabT.toD (x : TabT) : D := .agg [.sl (x.cols.map ColT.toD), .sl (x.rows.map rowD)]
theorem tt_isAgg (x : TabT) : x.toD.isAgg = true := rfl
theorem tt_cells (x : TabT) : x.toD.cells = [.sl (x.cols.map ColT.toD), .sl (x.rows.map rowD)] := rfl
structure NamT where
 name : List UInt8
 tab : TabT
deriving Inhabited, DecidableEq
def NamT.toD (x : NamT) : D := .agg [.str x.name, .sl (x.tab.cols.map ColT.toD), .sl (x.tab.rows.map rowD)]
theorem nn_isAgg (x : NamT) : x.toD.isAgg = true := rfl
theorem nn_cells (x : NamT) : x.toD.cells = [.str x.name, .sl (x.tab.cols.map ColT.toD), .sl (x.tab.rows.map rowD)] := rfl
structure SrtT where
 col : List UInt8
 desc : Bool
deriving Inhabited, DecidableEq
def SrtT.toD (x : SrtT) : D := .agg [.str x.col, .bool x.desc]
theorem ss_isAgg (x : SrtT) : x.toD.isAgg = true := rfl
theorem ss_cells (x : SrtT) : x.toD.cells = [.str x.col, .bool x.desc] := rfl
theorem zT : type_of% (And.intro @zC (And.intro @w_isAgg (And.intro @w_cells (And.intro @x_isAgg (And.intro @x_cells (And.intro @rowD_isAgg (And.intro @rowD_cells (And.intro @tt_isAgg (And.intro @tt_cells (And.intro @nn_isAgg (And.intro @nn_cells (And.intro @ss_isAgg @ss_cells)))))))))))) := And.intro @zC (And.intro @w_isAgg (And.intro @w_cells (And.intro @x_isAgg (And.intro @x_cells (And.intro @rowD_isAgg (And.intro @rowD_cells (And.intro @tt_isAgg (And.intro @tt_cells (And.intro @nn_isAgg (And.intro @nn_cells (And.intro @ss_isAgg @ss_cells)))))))))))
def numV (n : Int) : ValT := ⟨2, n, []⟩
def txtV (s : List UInt8) : ValT := ⟨3, 0, s⟩
def othV (n : Int) : ValT := if n = -1 then ⟨0, 0, []⟩ else numV n
def truV (b : Bool) : ValT := if b = true then ⟨1, 1, []⟩ else ⟨1, 0, []⟩
theorem k_num (n : Int) : Pure Tryz.prog Gl 46 [.d (.int .i64 n)] (.d (numV n).toD) := by
 refine Pure.of1 ?_
 refine acalls_of Tryz.func46 rfl rfl (by simp [Tryz.ntmps46]) (evC_sound rfl _ _ _ _ ?_)
 simp only [Tryz.ntmps46, Tryz.results46, argEnv, List.length_nil]
 simp only [zT, seval, implies_true, Nat.reduceLeDiff, Nat.reduceEqDiff, reduceCtorEq, reduceIte]
 refine ⟨_, _, ret_data rfl ?_, rfl, rfl⟩
 rfl
theorem k_Rnum (n : Int) : Pure Tryz.prog Gl 26 [.d (.int .i64 n)] (.d (numV n).toD) := by
 refine Pure.of1 ?_
 refine acalls_of Tryz.func26 rfl rfl (by simp [Tryz.ntmps26]) (evC_sound rfl _ _ _ _ ?_)
 simp only [Tryz.ntmps26, Tryz.results26, argEnv, List.length_nil]
 simp only [zT, seval, implies_true, Nat.reduceLeDiff, Nat.reduceEqDiff, reduceCtorEq, reduceIte]
 refine ⟨_, _, ret_data rfl ?_, rfl, rfl⟩
 rfl
theorem k_txt (s : List UInt8) : Pure Tryz.prog Gl 47 [.d (.str s)] (.d (txtV s).toD) := by
 refine Pure.of1 ?_
 refine acalls_of Tryz.func47 rfl rfl (by simp [Tryz.ntmps47]) (evC_sound rfl _ _ _ _ ?_)
 simp only [Tryz.ntmps47, Tryz.results47, argEnv, List.length_nil]
 simp only [zT, seval, implies_true, Nat.reduceLeDiff, Nat.reduceEqDiff, reduceCtorEq, reduceIte]
 refine ⟨_, _, ret_data rfl ?_, rfl, rfl⟩
 rfl
theorem k_Rtxt (s : List UInt8) : Pure Tryz.prog Gl 36 [.d (.str s)] (.d (txtV s).toD) := by
 refine Pure.of1 ?_
 refine acalls_of Tryz.func36 rfl rfl (by simp [Tryz.ntmps36]) (evC_sound rfl _ _ _ _ ?_)
 simp only [Tryz.ntmps36, Tryz.results36, argEnv, List.length_nil]
 simp only [zT, seval, implies_true, Nat.reduceLeDiff, Nat.reduceEqDiff, reduceCtorEq, reduceIte]
 refine ⟨_, _, ret_data rfl ?_, rfl, rfl⟩
 rfl
theorem k_oth (n : Int) : Pure Tryz.prog Gl 48 [.d (.int .i64 n)] (.d (othV n).toD) := by
 refine Pure.of1 ?_
 refine acalls_of Tryz.func48 rfl rfl (by simp [Tryz.ntmps48]) (evC_sound rfl _ _ _ _ ?_)
 simp only [Tryz.ntmps48, Tryz.results48, argEnv, List.length_nil]
 simp only [zT, seval, implies_true, Nat.reduceLeDiff, Nat.reduceEqDiff, reduceCtorEq, reduceIte]
 refine ifC.mk (fun h => ?_) (fun h => ?_)
 ·refine ⟨_, _, ret_data rfl ?_, rfl, rfl⟩
  rw [othV, if_pos (by simpa using h)]; rfl
 ·refine callF_pure (k_num n) ?_
  simp only [zT, seval, implies_true, Nat.reduceLeDiff, Nat.reduceEqDiff, reduceCtorEq, reduceIte]
  refine ⟨_, _, ret_data rfl ?_, rfl, rfl⟩
  rw [othV, if_neg (by simpa using h)]; rfl
theorem k_tru (b : Bool) : Pure Tryz.prog Gl 49 [.d (.bool b)] (.d (truV b).toD) := by
 refine Pure.of1 ?_
 refine acalls_of Tryz.func49 rfl rfl (by simp [Tryz.ntmps49]) (evC_sound rfl _ _ _ _ ?_)
 simp only [Tryz.ntmps49, Tryz.results49, argEnv, List.length_nil]
 simp only [zT, seval, implies_true, Nat.reduceLeDiff, Nat.reduceEqDiff, reduceCtorEq, reduceIte]
 refine ifC.mk (fun h => ?_) (fun h => ?_)
 ·refine ⟨_, _, ret_data rfl ?_, rfl, rfl⟩
  rw [truV, if_pos h]; rfl
 ·refine ⟨_, _, ret_data rfl ?_, rfl, rfl⟩
  rw [truV, if_neg (by rw [h]; simp)]; rfl
def valE (k : Int) (v : ValT) : Int :=
 if (v.k != 0 && (v.k != k || !(k == 1 || k == 2 || k == 3))) = true then 14
 else if ((v.k == 1 && v.n != 0 && v.n != 1) || (v.k == 2 && !inB v.n)) = true then 2
 else if (v.k == 3 && decide (200 < (v.s.length : Int))) = true then 7
 else if ((v.k != 3 && !v.s == []) || ((v.k == 0 || v.k == 3) && v.n != 0)) = true then 1 else 0
theorem k_Value (k : Int) (v : ValT) : Pure Tryz.prog Gl 39 [.d (.int .i64 k), .d v.toD] (.d (.int .i64 (valE k v))) := by
 refine Pure.of2 ?_
 obtain ⟨F, hF⟩ : ∃ F, F = valE k v := ⟨_, rfl⟩
 rw [← hF]
 rw [valE] at hF
 refine acalls_of Tryz.func39 rfl rfl (by simp [Tryz.ntmps39]) (evC_sound rfl _ _ _ _ ?_)
 simp only [Tryz.ntmps39, Tryz.results39, argEnv, List.length_nil]
 simp only [zT, seval, implies_true, Nat.reduceLeDiff, Nat.reduceEqDiff, reduceCtorEq, reduceIte]
 refine ifC.mk (fun h1 => ?_) (fun h1 => ?_)
 ·refine ⟨_, _, ret_d, ?_, rfl⟩
  rw [hF, if_pos h1]
 rw [if_neg (by rw [h1]; simp)] at hF
 refine ifC.mk (fun h2 => ?_) (fun h2 => ?_)
 ·rw [if_pos (by rw [h2]; rfl)] at hF
  simp only [zT, seval, implies_true, Nat.reduceLeDiff, Nat.reduceEqDiff, reduceCtorEq, reduceIte, h2]
  refine ⟨_, _, ret_d, ?_, rfl⟩
  rw [hF]
 rw [h2, Bool.false_or] at hF
 repeat ((with_reducible refine And.intro ?_ ?_); (focus (first | omega | (simp only [lenR]; omega) | (refine qq ?_; rfl) | (refine dq ?_; kernel_rfl) | (intros; simp_all; done))))
 refine callG_pure (v := .d (.bool (inB v.n))) (fun _ => k_In _) ?_
 simp only [zT, seval, implies_true, Nat.reduceLeDiff, Nat.reduceEqDiff, reduceCtorEq, reduceIte]
 refine ifC.mk (fun h3 => ?_) (fun h3 => ?_)
 ·refine ⟨_, _, ret_d, ?_, rfl⟩
  rw [hF, if_pos h3]
 rw [if_neg (by rw [h3]; simp)] at hF
 repeat ((with_reducible refine And.intro ?_ ?_); (focus (first | omega | (simp only [lenR]; omega) | (refine qq ?_; rfl) | (refine dq ?_; kernel_rfl) | (intros; simp_all; done))))
 refine ifC.mk (fun h4 => ?_) (fun h4 => ?_)
 ·refine ⟨_, _, ret_d, ?_, rfl⟩
  rw [hF, if_pos h4]
 rw [if_neg (by rw [h4]; simp)] at hF
 refine ifC.mk (fun h5 => ?_) (fun h5 => ?_)
 ·rw [if_pos (by rw [h5]; rfl)] at hF
  simp only [zT, seval, implies_true, Nat.reduceLeDiff, Nat.reduceEqDiff, reduceCtorEq, reduceIte, h5]
  refine ⟨_, _, ret_d, ?_, rfl⟩
  rw [hF]
 rw [h5, Bool.false_or] at hF
 refine ifC.mk (fun h6 => ?_) (fun h6 => ?_)
 ·refine ⟨_, _, ret_d, ?_, rfl⟩
  rw [hF, if_pos h6]
 ·refine ⟨_, _, ret_d, ?_, rfl⟩
  rw [hF, if_neg (by rw [h6]; simp)]
end YtadfcljoocjhdaaGreat
end Go.Proofs
