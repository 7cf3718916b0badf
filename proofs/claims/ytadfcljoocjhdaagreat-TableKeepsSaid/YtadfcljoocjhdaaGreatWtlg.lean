/- Proved: TableKeepsSaid: for every input that can be read as data the law returns true and leaves its arguments as they were; no condition is added. -/
import Derived.Test.YtadfcljoocjhdaaGreatWttt
import Derived.Test.YtadfcljoocjhdaaGreatG4
set_option linter.unusedVariables false
set_option linter.unusedSimpArgs false
set_option linter.unusedSectionVars false
set_option linter.unnecessarySimpa false
set_option maxRecDepth 100000
namespace Go.Proofs
open Go.AM Go.ChangeShapes Go.WideShapes Go.ChangeAt Go.RowKit
namespace YtadfcljoocjhdaaGreat
variable {Gl : Globs}
def countF (t : TabT) (row : List ValT) : Nat := t.rows.countP fun r => decide (r = row)
theorem countP_take {α : Type} [Inhabited α] (p : α → Bool) (l : List α) {k : Nat} (h : k < l.length) : (l.take (k + 1)).countP p = (l.take k).countP p + if p (l.getD k default) = true then 1 else 0 := by
 rw [List.take_add_one, List.countP_append]
 simp [h, List.countP_cons]
theorem countP_le (p : List ValT → Bool) (l : List (List ValT)) (k : Nat) : (l.take k).countP p ≤ k := by
 have := List.countP_le_length (p := p) (l := l.take k)
 have h2 : (l.take k).length ≤ k := by simp; omega
 omega
theorem k_count (t : TabT) (ht : t.Few) (row : List ValT) (hr : row.length < 1000000) : Pure Tryz.prog Gl 35 [.d t.toD, .d (rowD row)] (.d (.int .i64 (countF t row))) := by
 refine Pure.of2 ?_
 obtain ⟨hc, hrl, hw⟩ := ht
 refine acalls_of Tryz.func35 rfl rfl (by simp [Tryz.ntmps35]) (evC_sound rfl _ _ _ _ ?_)
 simp only [Tryz.ntmps35, Tryz.results35, argEnv, List.length_nil]
 simp only [zT, seval, implies_true, Nat.reduceLeDiff, Nat.reduceEqDiff, reduceCtorEq, reduceIte]
 repeat ((with_reducible refine And.intro ?_ ?_); (focus (first | omega | (simp only [lenR]; omega) | (refine qq ?_; rfl) | (refine dq ?_; kernel_rfl) | (intros; simp_all; done))))
 refine for_of t.rows.length (fun k => [(1, .d (rowD row)), (2, .ptr 0 0), (5, .d (.int .i64 ((t.rows.take k).countP (fun r => decide (r = row))))), (6, .d (.int .i64 k))]) (fun _ => [.box 2 (.d t.toD)]) (fun _ => True) trivial ?_ ?_
 ·refine weak_to [] [0] rfl (by simp) ?_ rfl
  simp only [zT, seval, implies_true, Nat.reduceLeDiff, Nat.reduceEqDiff, reduceCtorEq, reduceIte]
  all_goals rfl
 ·intro k hi hk
  by_cases h : k < t.rows.length
  ·obtain ⟨r, hrd⟩ : ∃ r, r = t.rows.getD k default := ⟨_, rfl⟩
   have hg : (List.map rowD t.rows).getD k default = rowD r := by rw [hrd]; simp [h]
   have hs := countP_take (fun r => decide (r = row)) t.rows h
   have hle := countP_le (fun r => decide (r = row)) t.rows k
   rw [← hrd] at hs
   obtain ⟨m, hm⟩ : ∃ m, m = (t.rows.take k).countP (fun r => decide (r = row)) := ⟨_, rfl⟩
   rw [← hm] at hs hle ⊢
   simp only [zT, seval, implies_true, Nat.reduceLeDiff, Nat.reduceEqDiff, reduceCtorEq, reduceIte, (show (k:Int) < t.rows.length by omega), h, hg]
   repeat ((with_reducible refine And.intro ?_ ?_); (focus (first | omega | (simp only [lenR]; omega) | (refine qq ?_; rfl) | (refine dq ?_; kernel_rfl) | (intros; simp_all; done))))
   refine callF_pure (k_SameRow r row (hw r (by rw [hrd]; exact mem_getD h)) hr) ?_
   simp only [zT, seval, implies_true, Nat.reduceLeDiff, Nat.reduceEqDiff, reduceCtorEq, reduceIte]
   repeat ((with_reducible refine And.intro ?_ ?_); (focus (first | omega | (simp only [lenR]; omega) | (refine qq ?_; rfl) | (refine dq ?_; kernel_rfl) | (intros; simp_all; done))))
   refine ifC.mk (fun h2 => ?_) (fun h2 => ?_)
   ·rw [if_pos h2] at hs
    rw [hs]
    refine weak_to [] [0] rfl (by simp) ?_ rfl
    simp only [zT, seval, implies_true, Nat.reduceLeDiff, Nat.reduceEqDiff, reduceCtorEq, reduceIte, @a_wrap ((k:Int) + 1) (by omega), @a_wrap ((m:Int) + 1) (by omega)]
    all_goals rfl
   ·rw [if_neg (by rw [h2]; simp)] at hs
    rw [hs]
    refine weak_to [] [0] rfl (by simp) ?_ rfl
    simp only [zT, seval, implies_true, Nat.reduceLeDiff, Nat.reduceEqDiff, reduceCtorEq, reduceIte, @a_wrap ((k:Int) + 1) (by omega)]
    all_goals rfl
  ·simp only [zT, seval, implies_true, Nat.reduceLeDiff, Nat.reduceEqDiff, reduceCtorEq, reduceIte, (show ¬ (k:Int) < t.rows.length by omega)]
   have : k = t.rows.length := by omega
   subst this
   rw [List.take_length]
   refine ⟨_, _, ret_d, ?_, rfl⟩
   rfl
theorem lt_neg (cols : List ColT) (l : List SrtT) (a b c : List ValT) (h1 : ltR cols l a b = false) (h2 : ltR cols l b c = false) : ltR cols l a c = false := by
 have hp := pre_by cols l
 have h1 := of_decide_eq_false h1
 have h2 := of_decide_eq_false h2
 refine decide_eq_false ?_
 have a1 := hp.anti a b
 have a2 := hp.anti b c
 have a3 := hp.anti a c
 have := hp.trans c b a (by omega) (by omega)
 omega
theorem lt_asy (cols : List ColT) (l : List SrtT) (a b : List ValT) (h : ltR cols l a b = true) : ltR cols l b a = false := by
 have hp := pre_by cols l
 have h := of_decide_eq_true h
 refine decide_eq_false ?_
 have := hp.anti a b
 omega
theorem sorted_next (t : TabT) (s : SrtT) {i : Nat} (h : i + 1 < (sortedT t [s]).rows.length) : ordAt t.cols s ((sortedT t [s]).rows.getD i default) ((sortedT t [s]).rows.getD (i + 1) default) ≤ 0 := by
 have hp := sortF_pw (lt := ltR t.cols [s]) (l := t.rows) (lt_neg t.cols [s]) (lt_asy t.cols [s])
 have h1 : i < (sortF (ltR t.cols [s]) t.rows).length := Nat.lt_of_succ_lt h
 have := List.pairwise_iff_getElem.1 hp i (i + 1) h1 h (by omega)
 have e1 : (sortedT t [s]).rows.getD i default = (sortF (ltR t.cols [s]) t.rows)[i] := by show (sortF _ _).getD i default = _; simp [h1]
 have e2 : (sortedT t [s]).rows.getD (i + 1) default = (sortF (ltR t.cols [s]) t.rows)[i + 1] := by
  have h' : i + 1 < (sortF (ltR t.cols [s]) t.rows).length := h
  show (sortF _ _).getD (i + 1) default = _
  rw [List.getD_eq_getElem?_getD, List.getElem?_eq_getElem h']; rfl
 rw [e1, e2]
 have h2 := of_decide_eq_false this
 have h3 : ∀ a b, byF t.cols [s] a b = ordAt t.cols s a b := fun a b => by
  show (if (0:Int) = 0 then ordAt t.cols s a b else 0) = _
  rw [if_pos rfl]
 rw [h3] at h2
 have := (pre_at t.cols s).anti ((sortF (ltR t.cols [s]) t.rows)[i]) ((sortF (ltR t.cols [s]) t.rows)[i + 1])
 omega
theorem k_TKeeps (t : TabT) (s : SrtT) : Pure Tryz.prog Gl 11 [.d t.toD, .d s.toD] (.d (.bool true)) := by
 refine Pure.of2 ?_
 refine acalls_of Tryz.func11 rfl rfl (by simp [Tryz.ntmps11]) (evC_sound rfl _ _ _ _ ?_)
 simp only [Tryz.ntmps11, Tryz.results11, argEnv, List.length_nil]
 simp only [zT, seval, implies_true, Nat.reduceLeDiff, Nat.reduceEqDiff, reduceCtorEq, reduceIte]
 repeat ((with_reducible refine And.intro ?_ ?_); (focus (first | omega | (simp only [lenR]; omega) | (refine qq ?_; rfl) | (refine dq ?_; kernel_rfl) | (intros; simp_all; done))))
 refine callF_pure (k_Small t 40 (by decide)) ?_
 simp only [zT, seval, implies_true, Nat.reduceLeDiff, Nat.reduceEqDiff, reduceCtorEq, reduceIte]
 repeat ((with_reducible refine And.intro ?_ ?_); (focus (first | omega | (simp only [lenR]; omega) | (refine qq ?_; rfl) | (refine dq ?_; kernel_rfl) | (intros; simp_all; done))))
 refine ifC.mk (fun h1 => ?_) (fun h1 => ?_)
 ·refine callF_pure k_lives ?_
  simp only [zT, seval, implies_true, Nat.reduceLeDiff, Nat.reduceEqDiff, reduceCtorEq, reduceIte]
  exact ⟨_, _, ret_d, rfl, rfl⟩
 have h1 : smallT t 40 = true := by simpa using h1
 obtain ⟨hf, hcl, hrl⟩ := small_few h1 (by decide)
 have hrl : t.rows.length ≤ 40 := by omega
 have h1s : ([s] : List SrtT).length < 1000000 := by simp
 refine callF_dataE (σ' := [.box 2 (.d t.toD), .box 2 (.d s.toD), .frz 2 [s.toD]]) (k_Sorted t hf [s] h1s) rfl rfl ?_
 simp only [zT, seval, implies_true, Nat.reduceLeDiff, Nat.reduceEqDiff, reduceCtorEq, reduceIte]
 repeat ((with_reducible refine And.intro ?_ ?_); (focus (first | omega | (simp only [lenR]; omega) | (refine qq ?_; rfl) | (refine dq ?_; kernel_rfl) | (intros; simp_all; done))))
 refine ifC.mk (fun h2 => ?_) (fun h2 => ?_)
 ·have h2 := bne_iff_ne.1 h2
  have hz : sortedF t [s] = ⟨[], []⟩ := by rw [sortedF, if_neg h2]
  rw [hz]
  simp only [zT, seval, implies_true, Nat.reduceLeDiff, Nat.reduceEqDiff, reduceCtorEq, reduceIte, List.map_nil, List.length_nil]
  repeat ((with_reducible refine And.intro ?_ ?_); (focus (first | omega | (simp only [lenR]; omega) | (refine qq ?_; rfl) | (refine dq ?_; kernel_rfl) | (intros; simp_all; done))))
  refine callG_pure (v := .d (.bool true)) (fun _ => k_lives) ?_
  simp only [zT, seval, implies_true, Nat.reduceLeDiff, Nat.reduceEqDiff, reduceCtorEq, reduceIte]
  repeat ((with_reducible refine And.intro ?_ ?_); (focus (first | omega | (simp only [lenR]; omega) | (refine qq ?_; rfl) | (refine dq ?_; kernel_rfl) | (intros; simp_all; done))))
  exact ⟨_, _, ret_d, rfl, rfl⟩
 have h2 : sortedE t [s] = 0 := by simpa using h2
 have hz : sortedF t [s] = sortedT t [s] := by rw [sortedF, if_pos h2]
 have hck : checkF t = 0 := by
  unfold sortedE at h2
  split at h2
  ·rename_i g; exact absurd h2 g
  ·rename_i g; exact Decidable.not_not.1 g
 have hcs : ¬ colF t.cols s.col < 0 := fun h => by
  unfold sortedE at h2
  rw [if_neg (by rw [hck]; simp), if_pos (show noCol t [s] = true from List.any_eq_true.2 ⟨s, List.mem_cons_self, decide_eq_true h⟩)] at h2
  cases h2
 have hlen := row_len hck
 have hcl2 := colF_lt t.cols s.col
 obtain ⟨c, hcc⟩ : ∃ c : Nat, colF t.cols s.col = c := ⟨(colF t.cols s.col).toNat, by omega⟩
 have hnext := fun i h => sorted_next t s (i := i) h
 have hxl : (sortedT t [s]).rows.length = t.rows.length := sortF_length _ _
 have hxm : ∀ r ∈ (sortedT t [s]).rows, r ∈ t.rows := fun r hr => ((sortF_perm _ _).mem_iff).1 hr
 have hxf : (sortedT t [s]).Few := ⟨hf.cols, by rw [hxl]; exact hf.rows, fun r hr => hf.row r (hxm r hr)⟩
 have hxc : ∀ r, countF (sortedT t [s]) r = countF t r := fun r => (sortF_perm (ltR t.cols [s]) t.rows).countP_eq _
 have hoA : ∀ a b, ordAt t.cols s a b = if s.desc = true then ordV (b.getD c default) (a.getD c default) else ordV (a.getD c default) (b.getD c default) := fun a b => by
  rw [ordAt, keyAt, keyAt, hcc]; rfl
 rw [hz]
 obtain ⟨X, hX⟩ : ∃ X, X = sortedT t [s] := ⟨_, rfl⟩
 rw [← hX] at hnext hxl hxm hxf hxc ⊢
 repeat ((with_reducible refine And.intro ?_ ?_); (focus (first | omega | (simp only [lenR]; omega) | (refine qq ?_; rfl) | (refine dq ?_; kernel_rfl) | (intros; simp_all; done))))
 refine callF_pure (k_Col t s.col hf.cols) ?_
 simp only [zT, seval, implies_true, Nat.reduceLeDiff, Nat.reduceEqDiff, reduceCtorEq, reduceIte, hcc, hxl, bne_self_eq_false]
 repeat ((with_reducible refine And.intro ?_ ?_); (focus (first | omega | (simp only [lenR]; omega) | (refine qq ?_; rfl) | (refine dq ?_; kernel_rfl) | (intros; simp_all; done))))
 (try simp only [zT, seval, implies_true, Nat.reduceLeDiff, Nat.reduceEqDiff, reduceCtorEq, reduceIte, (show ¬ (c:Int) < 0 by omega)])
 repeat ((with_reducible refine And.intro ?_ ?_); (focus (first | omega | (simp only [lenR]; omega) | (refine qq ?_; rfl) | (refine dq ?_; kernel_rfl) | (intros; simp_all; done))))
 refine for_of t.rows.length (fun k => [(2, .ptr 0 0), (3, .ptr 1 0), (5, .ptr 2 0), (7, .d (.int .i64 c)), (8, .d (.int .i64 k))]) (fun _ => [.box 2 (.d t.toD), .box 2 (.d s.toD), .box 2 (.d X.toD)]) (fun _ => True) trivial ?_ ?_
 ·refine weak_to [] [0, 1, 3] rfl (by simp) ?_ rfl
  simp only [zT, seval, implies_true, Nat.reduceLeDiff, Nat.reduceEqDiff, reduceCtorEq, reduceIte]
  all_goals rfl
 ·intro k hi hk
  by_cases h : k < t.rows.length
  ·have hxk : k < X.rows.length := by omega
   obtain ⟨r, hrd⟩ : ∃ r, r = t.rows.getD k default := ⟨_, rfl⟩
   obtain ⟨y, hyd⟩ : ∃ y, y = X.rows.getD k default := ⟨_, rfl⟩
   have hrm : r ∈ t.rows := by rw [hrd]; exact mem_getD h
   have hym : y ∈ X.rows := by rw [hyd]; exact mem_getD hxk
   have hg : (List.map rowD t.rows).getD k default = rowD r := by rw [hrd]; simp [h]
   have hgy : (List.map rowD X.rows).getD k default = .sl (y.map ValT.toD) := by rw [hyd]; simp [hxk, rowD]
   have hyl : y.length = t.cols.length := hlen y (hxm y hym)
   simp only [zT, seval, implies_true, Nat.reduceLeDiff, Nat.reduceEqDiff, reduceCtorEq, reduceIte, (show (k:Int) < t.rows.length by omega), h, hg, hxl]
   repeat ((with_reducible refine And.intro ?_ ?_); (focus (first | omega | (simp only [lenR]; omega) | (refine qq ?_; rfl) | (refine dq ?_; kernel_rfl) | (intros; simp_all; done))))
   refine callF_pure (k_count t hf r (hf.row r hrm)) ?_
   simp only [zT, seval, implies_true, Nat.reduceLeDiff, Nat.reduceEqDiff, reduceCtorEq, reduceIte, (show (k:Int) < t.rows.length by omega), h, hg, hxl]
   repeat ((with_reducible refine And.intro ?_ ?_); (focus (first | omega | (simp only [lenR]; omega) | (refine qq ?_; rfl) | (refine dq ?_; kernel_rfl) | (intros; simp_all; done))))
   refine callF_pure (k_count X hxf r (hf.row r hrm)) ?_
   simp only [zT, seval, implies_true, Nat.reduceLeDiff, Nat.reduceEqDiff, reduceCtorEq, reduceIte, hxc, bne_self_eq_false, (show (k:Int) < t.rows.length by omega), h, hxk, hgy, hxl]
   repeat ((with_reducible refine And.intro ?_ ?_); (focus (first | omega | (simp only [lenR]; omega) | (refine qq ?_; rfl) | (refine dq ?_; kernel_rfl) | (intros; simp_all; done))))
   refine ifC.mk (fun h3 => ?_) (fun h3 => ?_)
   ·exfalso; simp at h3; omega
   refine ifC.mk (fun h4 => ?_) (fun h4 => ?_)
   ·have h4 := of_decide_eq_true h4
    obtain ⟨i, rfl⟩ : ∃ i, k = i + 1 := ⟨k - 1, by omega⟩
    have hii : i < X.rows.length := by omega
    obtain ⟨z, hzd⟩ : ∃ z, z = X.rows.getD i default := ⟨_, rfl⟩
    have hzm : z ∈ X.rows := by rw [hzd]; exact mem_getD hii
    have hzl : z.length = t.cols.length := hlen z (hxm z hzm)
    have hgz : (List.map rowD X.rows).getD i default = .sl (z.map ValT.toD) := by rw [hzd]; simp [hii, rowD]
    have hcy : c < y.length := by omega
    have hcz : c < z.length := by omega
    have hgyc : (List.map ValT.toD y).getD c default = (y.getD c default).toD := by simp [hcy]
    have hgzc : (List.map ValT.toD z).getD c default = (z.getD c default).toD := by simp [hcz]
    have hsub : IntKind.i64.wrap ((i : Int) + 1 - 1) = (i : Int) := by rw [@a_wrap ((i : Int) + 1 - 1) (by omega)]; omega
    have hord := hnext i hxk
    rw [← hzd, ← hyd, hoA, ordV_anti (z.getD c default) (y.getD c default)] at hord
    have hT1 : (i : Int) < t.rows.length := by omega
    have hT2 : (i : Int) + 1 < t.rows.length := by omega
    have hT3 : i < t.rows.length := by omega
    simp only [zT, seval, implies_true, Nat.reduceLeDiff, Nat.reduceEqDiff, reduceCtorEq, reduceIte, hsub, hT1, hT2, hT3, hgz, hgyc, hgzc, hxl, hgy, h, (show (c:Int) < y.length by omega), (show (c:Int) < z.length by omega), hcy, hcz]
    repeat ((with_reducible refine And.intro ?_ ?_); (focus (first | omega | (simp only [lenR]; omega) | (refine qq ?_; rfl) | (refine dq ?_; kernel_rfl) | (intros; simp_all; done))))
    refine callF_pure (k_Order _ _) ?_
    obtain ⟨n, hn⟩ : ∃ n, n = ordV (z.getD c default) (y.getD c default) := ⟨_, rfl⟩
    rw [← hn] at hord ⊢
    simp only [zT, seval, implies_true, Nat.reduceLeDiff, Nat.reduceEqDiff, reduceCtorEq, reduceIte]
    repeat ((with_reducible refine And.intro ?_ ?_); (focus (first | omega | (simp only [lenR]; omega) | (refine qq ?_; rfl) | (refine dq ?_; kernel_rfl) | (intros; simp_all; done))))
    have hbad : ((decide (0 < n) && !s.desc) || (decide (n < 0) && s.desc)) = false := by
     cases hd : s.desc
     ·rw [hd] at hord
      simp at hord ⊢
      omega
     ·rw [hd] at hord
      simp at hord ⊢
      omega
    simp only [zT, seval, implies_true, Nat.reduceLeDiff, Nat.reduceEqDiff, reduceCtorEq, reduceIte, hbad]
    refine weak_to [] [0, 1, 2] rfl (by simp) ?_ rfl
    simp only [zT, seval, implies_true, Nat.reduceLeDiff, Nat.reduceEqDiff, reduceCtorEq, reduceIte, @a_wrap ((i:Int) + 1 + 1) (by omega)]
    all_goals rfl
   ·refine weak_to [] [0, 1, 2] rfl (by simp) ?_ rfl
    simp only [zT, seval, implies_true, Nat.reduceLeDiff, Nat.reduceEqDiff, reduceCtorEq, reduceIte, @a_wrap ((k:Int) + 1) (by omega)]
    all_goals rfl
  ·simp only [zT, seval, implies_true, Nat.reduceLeDiff, Nat.reduceEqDiff, reduceCtorEq, reduceIte, (show ¬ (k:Int) < t.rows.length by omega)]
   refine callF_pure k_lives ?_
   simp only [zT, seval, implies_true, Nat.reduceLeDiff, Nat.reduceEqDiff, reduceCtorEq, reduceIte]
   exact ⟨_, _, ret_d, rfl, rfl⟩
theorem keeps_main (xs : List D) (h : TypedAll Tryz.prog 8 Tryz.f11.params.toList xs) : ACalls Tryz.prog [] 11 (xs.map AV.d) [] (fun r _ => r = .d (.bool true)) := by
 rw [Tryz.params11] at h
 obtain ⟨x, _, rfl, h1, y, _, rfl, h2, rfl⟩ := h
 obtain ⟨t, rfl⟩ := parTab h1
 obtain ⟨s, rfl⟩ := parSrt h2
 exact (k_TKeeps t s []).mono fun r s h => h.1
theorem tableKeeps_lifted (os : Os) (started : os.Started) (H : Type) (enc : TypeId × Value → H) :
  ReturnsInHanded {} Tryz.checked os 11 .any (Rows.tableKeepsSpec.pre6 enc Tryz.prog Tryz.f11 Rows.tableKeepsRow.domain false) (Rows.tableKeepsSpec.post enc Tryz.prog Tryz.f11 false true false false) := by
 refine returnsInHanded_of_change (C := Tryz.checked) own started (by kernel_rfl) Tryz.func11
  (ChangeSpec.witness6 (enc := enc) (C := Tryz.checked) false ⟨#[], #[.agg #[.slice none 0 0, .slice none 0 0], .agg #[.string ⟨#[]⟩, .bool false]], []⟩ 8 (by kernel_rfl) (by kernel_rfl) (by kernel_rfl) (by kernel_rfl)) ?_
 intro W base args ds gs before hval hW _ _
 exact law_contract (n := 8) (tb := 4) Tryz.func11 rfl rfl (by kernel_rfl) laidOut (by kernel_rfl) (by kernel_rfl) rfl
  (fun H ds h => by
   match ds, h with
   | [d1, d2], _ => rfl) keeps_main W base args ds gs before hval hW
theorem tableKeeps_holds : Rows.TableKeepsSaid :=
 OpenClaim.holds_of_wide 11 Tryz.f11 rfl rfl rfl rfl rfl rfl rfl ⟨rfl, rfl, rfl, rfl, rfl⟩ rfl rfl rfl rfl rfl (by kernel_rfl) Tryz.func11 (by kernel_rfl)
  (of_decide_eq_true (by kernel_rfl)) (by unfold Func.isWrapper; first | (rw [if_pos (by decide +kernel)]; kernel_rfl) | (rw [if_neg (by decide +kernel)]; exact ⟨rfl, rfl⟩))
  (fun os started H enc _ => tableKeeps_lifted os started H enc)
end YtadfcljoocjhdaaGreat
end Go.Proofs
