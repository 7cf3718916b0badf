/- A part of the proof: contracts of functions of this seat, and lemmas. No condition beyond those stated. -/
import Derived.Test.YtadfcljoocjhdaaGreatWttc
set_option linter.unusedVariables false
set_option linter.unusedSimpArgs false
set_option linter.unusedSectionVars false
set_option linter.unnecessarySimpa false
set_option maxRecDepth 100000
namespace Go.Proofs
open Go.AM
namespace YtadfcljoocjhdaaGreat
variable {Gl : Globs}
structure TabT.Few (t : TabT) : Prop where
 cols : t.cols.length < 1000000
 rows : t.rows.length < 1000000
 row : ∀ r ∈ t.rows, r.length < 1000000
theorem dbE_x {d : List NamT} {k : Nat} {x : NamT} (hx : x = d.getD k default) : dbE d k = if nameF x.name ≠ 0 then nameF x.name else if hasN (d.take k) x.name = true then 4 else checkF x.tab := by rw [dbE, ← hx]
theorem k_CheckAll (d : List NamT) (hl : d.length < 1000000) (hw : ∀ x ∈ d, x.tab.Few) : Pure Tryz.prog Gl 17 [.d (.sl (d.map NamT.toD))] (.d (.int .i64 (checkAllF d))) := by
 refine Pure.of1 ?_
 obtain ⟨F, hF⟩ : ∃ F, F = checkAllF d := ⟨_, rfl⟩
 rw [← hF]
 rw [checkAllF] at hF
 refine acalls_of Tryz.func17 rfl rfl (by simp [Tryz.ntmps17]) (evC_sound rfl _ _ _ _ ?_)
 simp only [Tryz.ntmps17, Tryz.results17, argEnv, List.length_nil]
 simp only [zT, seval, implies_true, Nat.reduceLeDiff, Nat.reduceEqDiff, reduceCtorEq, reduceIte]
 repeat ((with_reducible refine And.intro ?_ ?_); (focus (first | omega | (simp only [lenR]; omega) | (refine qq ?_; rfl) | (refine dq ?_; kernel_rfl) | (intros; simp_all; done))))
 refine ifC.mk (fun h1 => ?_) (fun h1 => ?_)
 ·refine ⟨_, _, ret_d, ?_, rfl⟩
  rw [hF, if_pos h1]
 rw [if_neg (by rw [h1]; simp)] at hF
 repeat ((with_reducible refine And.intro ?_ ?_); (focus (first | omega | (simp only [lenR]; omega) | (refine qq ?_; rfl) | (refine dq ?_; kernel_rfl) | (intros; simp_all; done))))
 refine for_of d.length (fun k => [(0, .d (.sl (d.map NamT.toD))), (12, .d (.sl (d.map NamT.toD))), (13, .d (.int .i64 d.length)), (14, .d (.int .i64 k))]) (fun _ => []) (fun k => firstErr (dbE d) k = 0) rfl ?_ ?_
 ·refine weak_to [] [] rfl (by simp) ?_ rfl
  simp only [zT, seval, implies_true, Nat.reduceLeDiff, Nat.reduceEqDiff, reduceCtorEq, reduceIte]
  all_goals rfl
 ·intro k hi hk
  by_cases h : k < d.length
  ·have hs := firstErr_snoc hi
   obtain ⟨x, hx⟩ : ∃ x, x = d.getD k default := ⟨_, rfl⟩
   have hg : (List.map NamT.toD d).getD k default = x.toD := by rw [hx]; simp [h]
   have hfw : x.tab.Few := hw x (by rw [hx]; exact mem_getD h)
   have htk : List.take k (List.map NamT.toD d) = List.map NamT.toD (d.take k) := by rw [List.map_take]
   have e0 := dbE_x hx
   have hend : ∀ e, dbE d k = e → e ≠ 0 → firstErr (dbE d) d.length = e := fun e e1 e2 => by
    rw [firstErr_at hi (by rw [e1]; exact e2) h, e1]
   simp only [zT, seval, implies_true, Nat.reduceLeDiff, Nat.reduceEqDiff, reduceCtorEq, reduceIte, (show (k:Int) < d.length by omega), h, hg]
   repeat ((with_reducible refine And.intro ?_ ?_); (focus (first | omega | (simp only [lenR]; omega) | (refine qq ?_; rfl) | (refine dq ?_; kernel_rfl) | (intros; simp_all; done))))
   refine callF_pure (k_Name _) ?_
   simp only [zT, seval, implies_true, Nat.reduceLeDiff, Nat.reduceEqDiff, reduceCtorEq, reduceIte]
   repeat ((with_reducible refine And.intro ?_ ?_); (focus (first | omega | (simp only [lenR]; omega) | (refine qq ?_; rfl) | (refine dq ?_; kernel_rfl) | (intros; simp_all; done))))
   refine ifC.mk (fun h2 => ?_) (fun h2 => ?_)
   ·have h2 := bne_iff_ne.1 h2
    rw [if_pos h2] at e0
    have := hend _ e0 h2
    refine ⟨_, _, ret_d, ?_, rfl⟩
    rw [hF, this]
   ·have h2 : nameF x.name = 0 := by simpa using h2
    rw [if_neg (by rw [h2]; simp)] at e0
    repeat ((with_reducible refine And.intro ?_ ?_); (focus (first | omega | (simp only [lenR]; omega) | (refine qq ?_; rfl) | (refine dq ?_; kernel_rfl) | (intros; simp_all; done))))
    simp only [zT, seval, implies_true, Nat.reduceLeDiff, Nat.reduceEqDiff, reduceCtorEq, reduceIte, htk]
    refine callF_pure (k_Find (d.take k) x.name (by simp only [List.length_take]; omega)) ?_
    simp only [zT, seval, implies_true, Nat.reduceLeDiff, Nat.reduceEqDiff, reduceCtorEq, reduceIte]
    repeat ((with_reducible refine And.intro ?_ ?_); (focus (first | omega | (simp only [lenR]; omega) | (refine qq ?_; rfl) | (refine dq ?_; kernel_rfl) | (intros; simp_all; done))))
    refine ifC.mk (fun h3 => ?_) (fun h3 => ?_)
    ·rw [if_pos h3] at e0
     have := hend _ e0 (by decide)
     refine ⟨_, _, ret_d, ?_, rfl⟩
     rw [hF, this]
    rw [if_neg (by rw [h3]; simp)] at e0
    repeat ((with_reducible refine And.intro ?_ ?_); (focus (first | omega | (simp only [lenR]; omega) | (refine qq ?_; rfl) | (refine dq ?_; kernel_rfl) | (intros; simp_all; done))))
    refine callF_pure (k_Check x.tab hfw.cols hfw.rows hfw.row) ?_
    simp only [zT, seval, implies_true, Nat.reduceLeDiff, Nat.reduceEqDiff, reduceCtorEq, reduceIte]
    repeat ((with_reducible refine And.intro ?_ ?_); (focus (first | omega | (simp only [lenR]; omega) | (refine qq ?_; rfl) | (refine dq ?_; kernel_rfl) | (intros; simp_all; done))))
    refine ifC.mk (fun h4 => ?_) (fun h4 => ?_)
    ·have h4 := bne_iff_ne.1 h4
     have := hend _ e0 h4
     refine ⟨_, _, ret_d, ?_, rfl⟩
     rw [hF, this]
    have h4 : checkF x.tab = 0 := by simpa using h4
    refine ⟨by rw [hs, e0, h4], ?_⟩
    refine weak_to [] [] rfl (by simp) ?_ rfl
    simp only [zT, seval, implies_true, Nat.reduceLeDiff, Nat.reduceEqDiff, reduceCtorEq, reduceIte, @a_wrap ((k:Int) + 1) (by omega)]
    all_goals rfl
  ·simp only [zT, seval, implies_true, Nat.reduceLeDiff, Nat.reduceEqDiff, reduceCtorEq, reduceIte, (show ¬ (k:Int) < d.length by omega)]
   have : k = d.length := by omega
   subst this
   refine ⟨_, _, ret_d, ?_, rfl⟩
   rw [hF, hi]
def cellS (v : ValT) : Bool := !decide (300 < (v.s.length : Int))
def rowS (r : List ValT) : Bool := !decide (40 < (r.length : Int)) && r.all cellS
def smallT (t : TabT) (most : Int) : Bool := !(decide (40 < (t.cols.length : Int)) || decide (most < (t.rows.length : Int))) && t.rows.all rowS
def smallAll (d : List NamT) (most : Int) : Bool := decide ((d.length : Int) ≤ 40) && d.all (fun x => smallT x.tab most)
end YtadfcljoocjhdaaGreat
end Go.Proofs
