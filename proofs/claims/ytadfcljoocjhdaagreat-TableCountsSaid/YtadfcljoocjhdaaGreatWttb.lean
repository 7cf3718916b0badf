/- A part of the proof: contracts of functions of this seat, and lemmas. No condition beyond those stated. -/
import Derived.Test.YtadfcljoocjhdaaGreatWtta
import Derived.Test.YtadfcljoocjhdaaGreatG4
set_option linter.unusedVariables false
set_option linter.unusedSimpArgs false
set_option linter.unusedSectionVars false
set_option linter.unnecessarySimpa false
set_option maxRecDepth 100000
namespace Go.Proofs
open Go.AM
namespace YtadfcljoocjhdaaGreat
variable {Gl : Globs}
theorem k_IndexFuncCol (fv : FuncId) (n : Nat) (y : D) (p : ColT → Bool) (hp : ∀ x : ColT, ACalls Tryz.prog Gl fv [.d x.toD, .ptr 0 0] [.box n (.d y)] (fun r s => r = .d (.bool (p x)) ∧ s = [.box n (.d y)])) (l : List ColT) (hl : l.length < 1000000) :
  ACalls Tryz.prog Gl 63 [.d (.sl (l.map ColT.toD)), .fn fv [.ptr 0 0]] [.box n (.d y)] (fun r s => r = .d (.int .i64 (idxF p l)) ∧ s = [.box n (.d y)]) := by
 refine acalls_of Tryz.func63 rfl rfl (by simp [Tryz.ntmps63]) (evC_sound rfl _ _ _ _ ?_)
 simp only [Tryz.ntmps63, Tryz.results63, argEnv, List.length_nil]
 simp only [zT, seval, implies_true, Nat.reduceLeDiff, Nat.reduceEqDiff, reduceCtorEq, reduceIte]
 refine for_of l.length (fun k => [(0, .d (.sl (l.map ColT.toD))), (1, .fn fv [.ptr 0 0]), (7, .d (.int .i64 l.length)), (8, .d (.int .i64 k))]) (fun _ => [.box n (.d y)]) (fun k => (l.take k).any p = false) rfl ?_ ?_
 ·refine weak_to [] [0] rfl (by simp) ?_ rfl
  simp only [zT, seval, implies_true, Nat.reduceLeDiff, Nat.reduceEqDiff, reduceCtorEq, reduceIte, Int.cast_ofNat_Int]
  rfl
 ·intro k hi hk
  by_cases h : k < l.length
  ·have hs := any_take p l k h
   simp only [zT, seval, implies_true, Nat.reduceLeDiff, Nat.reduceEqDiff, reduceCtorEq, reduceIte, (show (k:Int) < l.length by omega), h, a_getD _ _ _ (show k < l.length by omega)]
   refine callF_go ((hp _).mono fun r s hr => ?_)
   obtain ⟨rfl, rfl⟩ := hr
   simp only [zT, seval, implies_true, Nat.reduceLeDiff, Nat.reduceEqDiff, reduceCtorEq, reduceIte]
   refine ifC.mk (fun hc => ?_) (fun hc => ?_)
   ·refine ⟨_, _, weakR_to [] [0] rfl (by simp) (show renV _ _ _ = AV.d _ from rfl) rfl, ?_, rfl⟩
    rw [idxF_at h hi hc]
   ·refine ⟨by rw [hs, hi, hc]; rfl, ?_⟩
    refine weak_to [] [0] rfl (by simp) ?_ rfl
    simp only [zT, seval, implies_true, Nat.reduceLeDiff, Nat.reduceEqDiff, reduceCtorEq, reduceIte, @a_wrap ((k:Int) + 1) (by omega)]
    rfl
  ·simp only [zT, seval, implies_true, Nat.reduceLeDiff, Nat.reduceEqDiff, reduceCtorEq, reduceIte, (show ¬ (k:Int) < l.length by omega)]
   have : k = l.length := by omega
   subst this
   rw [List.take_length] at hi
   refine ⟨_, _, weakR_to [] [0] rfl (by simp) (show renV _ _ _ = AV.d _ from rfl) rfl, ?_, rfl⟩
   rw [idxF_none hi]
def colF (cols : List ColT) (nm : List UInt8) : Int := idxF (fun c : ColT => c.name == nm) cols
theorem k_Col1 (x : ColT) (nm : List UInt8) : ACalls Tryz.prog Gl 64 [.d x.toD, .ptr 0 0] [.box 1 (.d (.str nm))] (fun r s => r = .d (.bool (x.name == nm)) ∧ s = [.box 1 (.d (.str nm))]) := by
 refine acalls_of Tryz.func64 rfl rfl (by simp [Tryz.ntmps64]) (evC_sound rfl _ _ _ _ ?_)
 simp only [Tryz.ntmps64, Tryz.results64, argEnv, List.length_nil]
 simp only [zT, seval, implies_true, Nat.reduceLeDiff, Nat.reduceEqDiff, reduceCtorEq, reduceIte]
 repeat ((with_reducible refine And.intro ?_ ?_); (focus (first | omega | (simp only [lenR]; omega) | (refine qq ?_; rfl) | (refine dq ?_; kernel_rfl) | (intros; simp_all; done))))
 refine ⟨_, _, weakR_to [] [0] rfl (by simp) (show renV _ _ _ = AV.d _ from rfl) rfl, ?_, rfl⟩
 rfl
theorem k_Col (t : TabT) (nm : List UInt8) (hl : t.cols.length < 1000000) : Pure Tryz.prog Gl 25 [.d t.toD, .d (.str nm)] (.d (.int .i64 (colF t.cols nm))) := by
 refine Pure.of2 ?_
 refine acalls_of Tryz.func25 rfl rfl (by simp [Tryz.ntmps25]) (evC_sound rfl _ _ _ _ ?_)
 simp only [Tryz.ntmps25, Tryz.results25, argEnv, List.length_nil]
 simp only [zT, seval, implies_true, Nat.reduceLeDiff, Nat.reduceEqDiff, reduceCtorEq, reduceIte]
 repeat ((with_reducible refine And.intro ?_ ?_); (focus (first | omega | (simp only [lenR]; omega) | (refine qq ?_; rfl) | (refine dq ?_; kernel_rfl) | (intros; simp_all; done))))
 refine callF_go ?_
 refine (ACalls.under [1] (by simp) (by simp) (k_IndexFuncCol 64 1 (.str nm) (fun c : ColT => c.name == nm) (fun x => k_Col1 x nm) t.cols hl)).mono fun r s hr => ?_
 obtain ⟨r0, s0, ⟨rfl, rfl⟩, rfl, rfl⟩ := hr
 have hb2 : backS [1] [Blk.box 2 (.d t.toD), Blk.box 1 (.d (.str nm))] [Blk.box 1 (.d (.str nm))] = [Blk.box 2 (.d t.toD), Blk.box 1 (.d (.str nm))] := rfl
 simp only [zT, seval, implies_true, Nat.reduceLeDiff, Nat.reduceEqDiff, reduceCtorEq, reduceIte, back_d, hb2]
 exact ⟨_, _, ret_d, rfl, rfl⟩
def colE (cols : List ColT) (i : Nat) : Int :=
 if nameF (cols.getD i default).name ≠ 0 then nameF (cols.getD i default).name
 else if (cols.take i).any (fun c => c.name == (cols.getD i default).name) = true then 4
 else if ((cols.getD i default).ty != 1 && (cols.getD i default).ty != 2 && (cols.getD i default).ty != 3) = true then 14 else 0
def celE (cols : List ColT) (row : List ValT) (k : Nat) : Int := valE (cols.getD k default).ty (row.getD k default)
def rowE (cols : List ColT) (row : List ValT) : Int := if row.length ≠ cols.length then 10 else firstErr (celE cols row) cols.length
def checkF (t : TabT) : Int :=
 if (decide (32 < (t.cols.length : Int)) || decide (20000 < (t.rows.length : Int))) = true then 7
 else if firstErr (colE t.cols) t.cols.length ≠ 0 then firstErr (colE t.cols) t.cols.length
 else firstErr (fun i => rowE t.cols (t.rows.getD i default)) t.rows.length
theorem firstErr_snoc {f : Nat → Int} {k : Nat} (h : firstErr f k = 0) : firstErr f (k + 1) = f k := by
 by_cases e : f k = 0
 ·rw [firstErr_step h e, e]
 ·rw [firstErr_at h e (show k < k + 1 by omega)]
theorem k_Check (t : TabT) (hc : t.cols.length < 1000000) (hr : t.rows.length < 1000000) (hw : ∀ r ∈ t.rows, r.length < 1000000) : Pure Tryz.prog Gl 14 [.d t.toD] (.d (.int .i64 (checkF t))) := by
 refine Pure.of1 ?_
 obtain ⟨F, hF⟩ : ∃ F, F = checkF t := ⟨_, rfl⟩
 rw [← hF]
 rw [checkF] at hF
 refine acalls_of Tryz.func14 rfl rfl (by simp [Tryz.ntmps14]) (evC_sound rfl _ _ _ _ ?_)
 simp only [Tryz.ntmps14, Tryz.results14, argEnv, List.length_nil]
 simp only [zT, seval, implies_true, Nat.reduceLeDiff, Nat.reduceEqDiff, reduceCtorEq, reduceIte]
 repeat ((with_reducible refine And.intro ?_ ?_); (focus (first | omega | (simp only [lenR]; omega) | (refine qq ?_; rfl) | (refine dq ?_; kernel_rfl) | (intros; simp_all; done))))
 refine ifC.mk (fun h1 => ?_) (fun h1 => ?_)
 ·refine ⟨_, _, ret_d, ?_, rfl⟩
  rw [hF, if_pos h1]
 rw [if_neg (by rw [h1]; simp)] at hF
 repeat ((with_reducible refine And.intro ?_ ?_); (focus (first | omega | (simp only [lenR]; omega) | (refine qq ?_; rfl) | (refine dq ?_; kernel_rfl) | (intros; simp_all; done))))
 refine for_of t.cols.length (fun k => [(1, .ptr 0 0), (22, .d (.sl (t.cols.map ColT.toD))), (23, .d (.int .i64 t.cols.length)), (24, .d (.int .i64 k))]) (fun _ => [.box 2 (.d t.toD)]) (fun k => firstErr (colE t.cols) k = 0) rfl ?_ ?_
 ·refine weak_to [] [0] rfl (by simp) ?_ rfl
  simp only [zT, seval, implies_true, Nat.reduceLeDiff, Nat.reduceEqDiff, reduceCtorEq, reduceIte, Int.cast_ofNat_Int]
  all_goals rfl
 ·intro k hi hk
  by_cases h : k < t.cols.length
  ·have hs := firstErr_snoc hi
   obtain ⟨c, hcd⟩ : ∃ c, c = t.cols.getD k default := ⟨_, rfl⟩
   have hg : (List.map ColT.toD t.cols).getD k default = c.toD := by rw [hcd]; simp [h]
   have htk : List.take k (List.map ColT.toD t.cols) = List.map ColT.toD (t.cols.take k) := by rw [List.map_take]
   simp only [zT, seval, implies_true, Nat.reduceLeDiff, Nat.reduceEqDiff, reduceCtorEq, reduceIte, (show (k:Int) < t.cols.length by omega), h, hg]
   repeat ((with_reducible refine And.intro ?_ ?_); (focus (first | omega | (simp only [lenR]; omega) | (refine qq ?_; rfl) | (refine dq ?_; kernel_rfl) | (intros; simp_all; done))))
   refine callF_pure (k_Name _) ?_
   simp only [zT, seval, implies_true, Nat.reduceLeDiff, Nat.reduceEqDiff, reduceCtorEq, reduceIte]
   rw [colE, ← hcd] at hs
   refine ifC.mk (fun h2 => ?_) (fun h2 => ?_)
   ·have h2 := bne_iff_ne.1 h2
    rw [if_pos h2] at hs
    have : firstErr (colE t.cols) t.cols.length = nameF c.name := by rw [firstErr_at hi (by rw [colE, ← hcd, if_pos h2]; exact h2) h, colE, ← hcd, if_pos h2]
    refine ⟨_, _, ret_d, ?_, rfl⟩
    rw [hF, this, if_pos h2]
   ·have h2 : nameF c.name = 0 := by simpa using h2
    rw [if_neg (by rw [h2]; simp)] at hs
    repeat ((with_reducible refine And.intro ?_ ?_); (focus (first | omega | (simp only [lenR]; omega) | (refine qq ?_; rfl) | (refine dq ?_; kernel_rfl) | (intros; simp_all; done))))
    simp only [zT, seval, implies_true, Nat.reduceLeDiff, Nat.reduceEqDiff, reduceCtorEq, reduceIte, htk]
    refine callF_pureN (k_Col ⟨t.cols.take k, []⟩ c.name (by simp only [List.length_take]; omega)) (fun s => rfl) (fun s => rfl) ?_
    have ha : decide (colF (t.cols.take k) c.name ≥ 0) = (t.cols.take k).any (fun x => x.name == c.name) := idxF_any _ _
    simp only [zT, seval, implies_true, Nat.reduceLeDiff, Nat.reduceEqDiff, reduceCtorEq, reduceIte, ha]
    refine ifC.mk (fun h3 => ?_) (fun h3 => ?_)
    ·rw [if_pos h3] at hs
     have e : firstErr (colE t.cols) t.cols.length = 4 := by
      have e0 : colE t.cols k = 4 := by rw [colE, ← hcd, if_neg (by rw [h2]; simp), if_pos h3]
      rw [firstErr_at hi (by rw [e0]; decide) h, e0]
     refine ⟨_, _, ret_d, ?_, rfl⟩
     rw [hF, e]; rfl
    rw [if_neg (by rw [h3]; simp)] at hs
    refine ifC.mk (fun h4 => ?_) (fun h4 => ?_)
    ·have e : firstErr (colE t.cols) t.cols.length = 14 := by
      have e0 : colE t.cols k = 14 := by rw [colE, ← hcd, if_neg (by rw [h2]; simp), if_neg (by rw [h3]; simp), if_pos h4]
      rw [firstErr_at hi (by rw [e0]; decide) h, e0]
     refine ⟨_, _, ret_d, ?_, rfl⟩
     rw [hF, e]; rfl
    rw [if_neg (by rw [h4]; simp)] at hs
    refine ⟨hs, ?_⟩
    refine weak_to [] [0] rfl (by simp) ?_ rfl
    simp only [zT, seval, implies_true, Nat.reduceLeDiff, Nat.reduceEqDiff, reduceCtorEq, reduceIte, @a_wrap ((k:Int) + 1) (by omega)]
    all_goals rfl
  ·simp only [zT, seval, implies_true, Nat.reduceLeDiff, Nat.reduceEqDiff, reduceCtorEq, reduceIte, (show ¬ (k:Int) < t.cols.length by omega)]
   have : k = t.cols.length := by omega
   subst this
   rw [if_neg (by rw [hi]; simp)] at hF
   refine for_of t.rows.length (fun k => [(1, .ptr 0 0), (59, .d (.sl (t.rows.map rowD))), (60, .d (.int .i64 t.rows.length)), (61, .d (.int .i64 k))]) (fun _ => [.box 2 (.d t.toD)]) (fun k => firstErr (fun i => rowE t.cols (t.rows.getD i default)) k = 0) rfl ?_ ?_
   ·refine weak_to [] [0] rfl (by simp) ?_ rfl
    simp only [zT, seval, implies_true, Nat.reduceLeDiff, Nat.reduceEqDiff, reduceCtorEq, reduceIte, Int.cast_ofNat_Int]
    all_goals rfl
   ·intro k hi hk
    by_cases h : k < t.rows.length
    ·have hs := firstErr_snoc hi
     obtain ⟨r, hrd⟩ : ∃ r, r = t.rows.getD k default := ⟨_, rfl⟩
     have hrl := hw r (by rw [hrd]; exact mem_getD h)
     have hg : (List.map rowD t.rows).getD k default = .sl (r.map ValT.toD) := by rw [hrd]; simp [h, rowD]
     simp only [← hrd] at hs
     have hend : ∀ e, rowE t.cols r = e → e ≠ 0 → firstErr (fun i => rowE t.cols (t.rows.getD i default)) t.rows.length = e := fun e h1 h2 => by
      rw [firstErr_at hi (by simp only [← hrd]; rw [h1]; exact h2) h]
      simp only [← hrd]; exact h1
     simp only [zT, seval, implies_true, Nat.reduceLeDiff, Nat.reduceEqDiff, reduceCtorEq, reduceIte, (show (k:Int) < t.rows.length by omega), h, hg]
     repeat ((with_reducible refine And.intro ?_ ?_); (focus (first | omega | (simp only [lenR]; omega) | (refine qq ?_; rfl) | (refine dq ?_; kernel_rfl) | (intros; simp_all; done))))
     refine ifC.mk (fun h2 => ?_) (fun h2 => ?_)
     ·refine ⟨_, _, ret_d, ?_, rfl⟩
      rw [hF, hend 10 (by rw [rowE, if_pos (by have h2 := h2; simp at h2; omega)]) (by decide)]
     have h2 : r.length = t.cols.length := by simp at h2; omega
     have hre : rowE t.cols r = firstErr (celE t.cols r) t.cols.length := by rw [rowE, if_neg (by rw [h2]; simp)]
     (try simp only [zT, seval, implies_true, Nat.reduceLeDiff, Nat.reduceEqDiff, reduceCtorEq, reduceIte])
     refine for_of t.cols.length (fun j => [(1, .ptr 0 0), (59, .d (.sl (t.rows.map rowD))), (60, .d (.int .i64 t.rows.length)), (61, .d (.int .i64 k)), (71, .d (.sl (r.map ValT.toD))), (72, .d (.int .i64 t.cols.length)), (73, .d (.int .i64 j))]) (fun _ => [.box 2 (.d t.toD)]) (fun j => firstErr (celE t.cols r) j = 0) rfl ?_ ?_
     ·refine weak_to [] [0] rfl (by simp) ?_ rfl
      simp only [zT, seval, implies_true, Nat.reduceLeDiff, Nat.reduceEqDiff, reduceCtorEq, reduceIte, Int.cast_ofNat_Int, h2]
      all_goals rfl
     ·intro j hij hj
      by_cases g : j < t.cols.length
      ·have hs2 := firstErr_snoc hij
       have g2 : j < r.length := by omega
       obtain ⟨v, hv⟩ : ∃ v, v = r.getD j default := ⟨_, rfl⟩
       obtain ⟨c, hc⟩ : ∃ c, c = t.cols.getD j default := ⟨_, rfl⟩
       have hgv : (List.map ValT.toD r).getD j default = v.toD := by rw [hv]; simp [g2]
       have hgc : (List.map ColT.toD t.cols).getD j default = c.toD := by rw [hc]; simp [g]
       rw [celE, ← hv, ← hc] at hs2
       simp only [zT, seval, implies_true, Nat.reduceLeDiff, Nat.reduceEqDiff, reduceCtorEq, reduceIte, (show (j:Int) < t.cols.length by omega), (show (j:Int) < r.length by omega), g, g2, hgv, hgc]
       repeat ((with_reducible refine And.intro ?_ ?_); (focus (first | omega | (simp only [lenR]; omega) | (refine qq ?_; rfl) | (refine dq ?_; kernel_rfl) | (intros; simp_all; done))))
       refine callF_pure (k_Value c.ty v) ?_
       simp only [zT, seval, implies_true, Nat.reduceLeDiff, Nat.reduceEqDiff, reduceCtorEq, reduceIte]
       refine ifC.mk (fun h3 => ?_) (fun h3 => ?_)
       ·have h3 := bne_iff_ne.1 h3
        refine ⟨_, _, ret_d, ?_, rfl⟩
        rw [hF, hend (valE c.ty v) (by rw [hre, firstErr_at hij (by rw [celE, ← hv, ← hc]; exact h3) g, celE, ← hv, ← hc]) h3]
       ·have h3 : valE c.ty v = 0 := by simpa using h3
        refine ⟨by rw [hs2, h3], ?_⟩
        refine weak_to [] [0] rfl (by simp) ?_ rfl
        simp only [zT, seval, implies_true, Nat.reduceLeDiff, Nat.reduceEqDiff, reduceCtorEq, reduceIte, @a_wrap ((j:Int) + 1) (by omega)]
        all_goals rfl
      ·simp only [zT, seval, implies_true, Nat.reduceLeDiff, Nat.reduceEqDiff, reduceCtorEq, reduceIte, (show ¬ (j:Int) < t.cols.length by omega)]
       have : j = t.cols.length := by omega
       subst this
       refine ⟨by rw [hs, hre, hij], ?_⟩
       refine weak_to [] [0] rfl (by simp) ?_ rfl
       simp only [zT, seval, implies_true, Nat.reduceLeDiff, Nat.reduceEqDiff, reduceCtorEq, reduceIte, @a_wrap ((k:Int) + 1) (by omega)]
       all_goals rfl
    ·simp only [zT, seval, implies_true, Nat.reduceLeDiff, Nat.reduceEqDiff, reduceCtorEq, reduceIte, (show ¬ (k:Int) < t.rows.length by omega)]
     have : k = t.rows.length := by omega
     subst this
     refine ⟨_, _, ret_d, ?_, rfl⟩
     rw [hF, hi]
end YtadfcljoocjhdaaGreat
end Go.Proofs
