/- A part of the proof: contracts of functions of this seat, and lemmas. No condition beyond those stated. -/
import Derived.Test.YtadfcljoocjhdaaGreatWttj
set_option linter.unusedVariables false
set_option linter.unusedSimpArgs false
set_option linter.unusedSectionVars false
set_option linter.unnecessarySimpa false
set_option linter.unusedSimpArgs false
set_option linter.unusedVariables false
set_option maxRecDepth 100000
namespace Go.Proofs
open Go.AM
namespace YtadfcljoocjhdaaGreat
variable {Gl : Globs}
theorem k_by (t : TabT) (hc : t.cols.length < 1000000) (l : List SrtT) (hl : l.length < 1000000) (hno : noCol t l = false) (a b : List ValT) (ha : a.length = t.cols.length) (hb : b.length = t.cols.length) :
    Pure Tryz.prog Gl 77 [.d t.toD, .d (srtD l), .d (rowD a), .d (rowD b)] (.d (.int .i64 (byF t.cols l a b))) := by
  refine Pure.of4 ?_
  obtain ⟨F, hF⟩ : ∃ F, F = byF t.cols l a b := ⟨_, rfl⟩
  rw [← hF, srtD, rowD, rowD]
  rw [byF] at hF
  refine acalls_of Tryz.func77 rfl rfl (by simp [Tryz.ntmps77]) (evC_sound rfl _ _ _ _ ?_)
  simp only [Tryz.ntmps77, Tryz.results77, argEnv, List.length_nil]
  simp only [zT, seval, implies_true, Nat.reduceLeDiff, Nat.reduceEqDiff, reduceCtorEq, reduceIte]
  repeat ((with_reducible refine And.intro ?_ ?_); (focus (first | omega | (simp only [lenR]; omega) | (refine qq ?_; rfl) | (refine dq ?_; kernel_rfl) | (intros; simp_all; done))))
  refine for_of l.length (fun k => [(1, .d (.sl (l.map SrtT.toD))), (2, .d (.sl (a.map ValT.toD))), (3, .d (.sl (b.map ValT.toD))), (4, .ptr 0 0), (9, .d (.int .i64 k))]) (fun k => [.box 2 (.d t.toD)]) (fun k => firstErr (fun i => ordAt t.cols (l.getD i default) a b) k = 0) rfl ?_ ?_
  · refine weak_to [] [0] rfl (by simp) ?_ rfl
    simp only [zT, seval, implies_true, Nat.reduceLeDiff, Nat.reduceEqDiff, reduceCtorEq, reduceIte]
    all_goals rfl
  · intro k hi hk
    by_cases h : k < l.length
    · have hs := firstErr_snoc hi
      obtain ⟨x, hx⟩ : ∃ x, x = l.getD k default := ⟨_, rfl⟩
      have hg : (List.map SrtT.toD l).getD k default = x.toD := by rw [hx]; simp [h]
      have hx0 : ¬ colF t.cols x.col < 0 := fun h2 => by
        have : noCol t l = true := List.any_eq_true.2 ⟨x, by rw [hx]; exact mem_getD h, decide_eq_true h2⟩
        rw [this] at hno; cases hno
      have hxl := colF_lt t.cols x.col
      obtain ⟨c, hcc⟩ : ∃ c : Nat, colF t.cols x.col = c := ⟨(colF t.cols x.col).toNat, by omega⟩
      have h1 : c < a.length := by omega
      have h2 : c < b.length := by omega
      have hga : (List.map ValT.toD a).getD c default = (a.getD c default).toD := by simp [h1]
      have hgb : (List.map ValT.toD b).getD c default = (b.getD c default).toD := by simp [h2]
      have hab := ordV_abs (a.getD c default) (b.getD c default)
      have hanti := ordV_anti (a.getD c default) (b.getD c default)
      have hoA : ordAt t.cols x a b = if x.desc = true then ordV (b.getD c default) (a.getD c default) else ordV (a.getD c default) (b.getD c default) := by
        rw [ordAt, keyAt, keyAt, hcc]; rfl
      have hend : ∀ e, ordAt t.cols x a b = e → e ≠ 0 → F = e := fun e e1 e2 => by
        rw [hF, firstErr_at (f := fun i => ordAt t.cols (l.getD i default) a b) hi (by rw [← hx, e1]; exact e2) h, ← hx, e1]
      rw [← hx] at hs
      simp only [zT, seval, implies_true, Nat.reduceLeDiff, Nat.reduceEqDiff, reduceCtorEq, reduceIte, (show (k:Int) < l.length by omega), h, hg]
      repeat ((with_reducible refine And.intro ?_ ?_); (focus (first | omega | (simp only [lenR]; omega) | (refine qq ?_; rfl) | (refine dq ?_; kernel_rfl) | (intros; simp_all; done))))
      refine callF_pure (k_RCol t x.col hc) ?_
      simp only [zT, seval, implies_true, Nat.reduceLeDiff, Nat.reduceEqDiff, reduceCtorEq, reduceIte, hcc, (show (c:Int) < a.length by omega), (show (c:Int) < b.length by omega), h1, h2, hga, hgb]
      repeat ((with_reducible refine And.intro ?_ ?_); (focus (first | omega | (simp only [lenR]; omega) | (refine qq ?_; rfl) | (refine dq ?_; kernel_rfl) | (intros; simp_all; done))))
      refine callF_pure (k_ROrder _ _) ?_
      obtain ⟨n, hn⟩ : ∃ n, n = ordV (a.getD c default) (b.getD c default) := ⟨_, rfl⟩
      rw [← hn] at hab hanti hoA ⊢
      simp only [zT, seval, implies_true, Nat.reduceLeDiff, Nat.reduceEqDiff, reduceCtorEq, reduceIte, (show (k:Int) < l.length by omega), h, hg]
      repeat ((with_reducible refine And.intro ?_ ?_); (focus (first | omega | (simp only [lenR]; omega) | (refine qq ?_; rfl) | (refine dq ?_; kernel_rfl) | (intros; simp_all; done))))
      refine ifC.mk (fun h3 => ?_) (fun h3 => ?_)
      · have h4 : n ≠ 0 := by intro e; rw [e] at h3; simp at h3
        have h5 : x.desc = true := by simp at h3; exact h3.2
        (try simp only [zT, seval, implies_true, Nat.reduceLeDiff, Nat.reduceEqDiff, reduceCtorEq, reduceIte, @a_wrap (0 - n) (by omega)])
        refine ⟨_, _, ret_d, ?_, rfl⟩
        rw [hend (-n) (by rw [hoA, if_pos h5, hanti]) (by omega), show (0:Int) - n = -n by omega]
      · repeat ((with_reducible refine And.intro ?_ ?_); (focus (first | omega | (simp only [lenR]; omega) | (refine qq ?_; rfl) | (refine dq ?_; kernel_rfl) | (intros; simp_all; done))))
        refine ifC.mk (fun h4 => ?_) (fun h4 => ?_)
        · have h4 : n ≠ 0 := bne_iff_ne.1 h4
          have h5 : ¬ x.desc = true := fun h5 => by simp [h4, h5] at h3
          refine ⟨_, _, ret_d, ?_, rfl⟩
          rw [hend n (by rw [hoA, if_neg h5]) h4]
        · have h4 : n = 0 := by simpa using h4
          have : ordAt t.cols x a b = 0 := by rw [hoA, hanti, h4]; simp
          refine ⟨by rw [hs, this], ?_⟩
          refine weak_to [] [0] rfl (by simp) ?_ rfl
          simp only [zT, seval, implies_true, Nat.reduceLeDiff, Nat.reduceEqDiff, reduceCtorEq, reduceIte, @a_wrap ((k:Int) + 1) (by omega)]
          all_goals rfl
    · simp only [zT, seval, implies_true, Nat.reduceLeDiff, Nat.reduceEqDiff, reduceCtorEq, reduceIte, (show ¬ (k:Int) < l.length by omega)]
      have : k = l.length := by omega
      subst this
      refine ⟨_, _, ret_d, ?_, rfl⟩
      rw [hF, hi]
theorem tail_list (acc : List (List ValT)) (r : List ValT) {j : Nat} (h : j ≤ acc.length) : List.take (j + 1) (List.take j (List.take j (List.map rowD acc)) ++ [rowD r]) ++ List.drop j (List.map rowD acc) = (acc.take j ++ r :: acc.drop j).map rowD := by
  rw [List.take_take, Nat.min_self, List.take_of_length_le (l := List.take j (List.map rowD acc) ++ [rowD r]) (by simp; omega), List.map_append, List.map_cons, List.map_take, List.map_drop, List.append_assoc]
  rfl
theorem k_RSorted (t : TabT) (ht : t.Few) (l : List SrtT) (hl : l.length < 1000000) : Pure Tryz.prog Gl 34 [.d t.toD, .d (srtD l)] (.tup [.d (sortedF t l).toD, .d (.int .i64 (sortedE t l))]) := by
  refine Pure.of2t2 ?_
  obtain ⟨hc, hr, hw⟩ := ht
  refine acalls_of Tryz.func34 rfl rfl (by simp [Tryz.ntmps34]) (evC_sound rfl _ _ _ _ ?_)
  simp only [Tryz.ntmps34, Tryz.results34, argEnv, List.length_nil]
  simp only [zT, seval, implies_true, Nat.reduceLeDiff, Nat.reduceEqDiff, reduceCtorEq, reduceIte]
  repeat ((with_reducible refine And.intro ?_ ?_); (focus (first | omega | (simp only [lenR]; omega) | (refine qq ?_; rfl) | (refine dq ?_; kernel_rfl) | (intros; simp_all; done))))
  refine callF_pure (k_RCheck t hc hr hw) ?_
  simp only [zT, seval, implies_true, Nat.reduceLeDiff, Nat.reduceEqDiff, reduceCtorEq, reduceIte]
  repeat ((with_reducible refine And.intro ?_ ?_); (focus (first | omega | (simp only [lenR]; omega) | (refine qq ?_; rfl) | (refine dq ?_; kernel_rfl) | (intros; simp_all; done))))
  refine ifC.mk (fun h1 => ?_) (fun h1 => ?_)
  · have h1 := bne_iff_ne.1 h1
    repeat ((with_reducible refine And.intro ?_ ?_); (focus (first | omega | (simp only [lenR]; omega) | (refine qq ?_; rfl) | (refine dq ?_; kernel_rfl) | (intros; simp_all; done))))
    refine ⟨_, _, ret_tdata rfl rfl, ?_, rfl⟩
    rw [sortedF, sortedE, if_pos h1, if_neg h1]; rfl
  have h1 : checkF t = 0 := by simpa using h1
  have hlen := row_len h1
  have hE : sortedE t l = if noCol t l = true then 16 else 0 := by rw [sortedE, if_neg (by rw [h1]; simp)]
  repeat ((with_reducible refine And.intro ?_ ?_); (focus (first | omega | (simp only [lenR]; omega) | (refine qq ?_; rfl) | (refine dq ?_; kernel_rfl) | (intros; simp_all; done))))
  (try simp only [zT, seval, implies_true, Nat.reduceLeDiff, Nat.reduceEqDiff, reduceCtorEq, reduceIte, srtD])
  repeat ((with_reducible refine And.intro ?_ ?_); (focus (first | omega | (simp only [lenR]; omega) | (refine qq ?_; rfl) | (refine dq ?_; kernel_rfl) | (intros; simp_all; done))))
  refine for_of l.length (fun k => [(1, .d (.sl (l.map SrtT.toD))), (2, .ptr 0 0), (4, .ptr 1 0), (7, .d (.int .i64 k))])
    (fun k => [.box 2 (.d t.toD), .box 2 (.agg [.nils, .nils])]) (fun k => noCol t (l.take k) = false) rfl ?_ ?_
  · refine weak_to [] [0, 1] rfl (by simp) ?_ rfl
    simp only [zT, seval, implies_true, Nat.reduceLeDiff, Nat.reduceEqDiff, reduceCtorEq, reduceIte, srtD]
    all_goals rfl
  · intro k hi hk
    by_cases h : k < l.length
    · have hs := noCol_snoc (t := t) h
      obtain ⟨x, hx⟩ : ∃ x, x = l.getD k default := ⟨_, rfl⟩
      have hg : (List.map SrtT.toD l).getD k default = x.toD := by rw [hx]; simp [h]
      rw [← hx] at hs
      simp only [zT, seval, implies_true, Nat.reduceLeDiff, Nat.reduceEqDiff, reduceCtorEq, reduceIte, (show (k:Int) < l.length by omega), h, hg]
      repeat ((with_reducible refine And.intro ?_ ?_); (focus (first | omega | (simp only [lenR]; omega) | (refine qq ?_; rfl) | (refine dq ?_; kernel_rfl) | (intros; simp_all; done))))
      refine callF_pure (k_RCol t x.col hc) ?_
      simp only [zT, seval, implies_true, Nat.reduceLeDiff, Nat.reduceEqDiff, reduceCtorEq, reduceIte]
      repeat ((with_reducible refine And.intro ?_ ?_); (focus (first | omega | (simp only [lenR]; omega) | (refine qq ?_; rfl) | (refine dq ?_; kernel_rfl) | (intros; simp_all; done))))
      refine ifC.mk (fun h2 => ?_) (fun h2 => ?_)
      · repeat ((with_reducible refine And.intro ?_ ?_); (focus (first | omega | (simp only [lenR]; omega) | (refine qq ?_; rfl) | (refine dq ?_; kernel_rfl) | (intros; simp_all; done))))
        refine ⟨_, _, ret_tdata rfl rfl, ?_, rfl⟩
        have : noCol t l = true := List.any_eq_true.2 ⟨x, by rw [hx]; exact mem_getD h, h2⟩
        rw [sortedF, hE, this]; rfl
      · repeat ((with_reducible refine And.intro ?_ ?_); (focus (first | omega | (simp only [lenR]; omega) | (refine qq ?_; rfl) | (refine dq ?_; kernel_rfl) | (intros; simp_all; done))))
        refine weak_to [] [0, 1] rfl (by simp) ?_ rfl
        simp only [zT, seval, implies_true, Nat.reduceLeDiff, Nat.reduceEqDiff, reduceCtorEq, reduceIte, @a_wrap ((k:Int) + 1) (by omega)]
        all_goals rfl
    · simp only [zT, seval, implies_true, Nat.reduceLeDiff, Nat.reduceEqDiff, reduceCtorEq, reduceIte, (show ¬ (k:Int) < l.length by omega)]
      have : k = l.length := by omega
      subst this
      rw [List.take_length] at hi
      repeat ((with_reducible refine And.intro ?_ ?_); (focus (first | omega | (simp only [lenR]; omega) | (refine qq ?_; rfl) | (refine dq ?_; kernel_rfl) | (intros; simp_all; done))))
      refine for_of t.rows.length (fun k => [(1, .d (.sl (l.map SrtT.toD))), (2, .ptr 0 0), (4, .ptr 1 0), (8, .ptr 2 0), (9, .d (.int .i64 k))])
        (fun k => [.box 2 (.d t.toD), .box 2 (.agg [.nils, .nils]), .box 2 (.d (TabT.mk t.cols (sortF (ltR t.cols l) (t.rows.take k))).toD)]) (fun _ => True) trivial ?_ ?_
      · refine (weak_boxD (σ := [.box 2 (.d t.toD), .box 2 (.agg [.nils, .nils]), .box 2 (.agg [.d (.sl (t.cols.map ColT.toD)), .nils])]) 2 rfl (by simp) rfl).trans ?_
        refine weak_to [] [0, 1, 2] rfl (by simp) ?_ rfl
        simp only [zT, seval, implies_true, Nat.reduceLeDiff, Nat.reduceEqDiff, reduceCtorEq, reduceIte]
        all_goals rfl
      · intro k hi2 hk
        by_cases h : k < t.rows.length
        · obtain ⟨acc, hacc⟩ : ∃ acc, acc = sortF (ltR t.cols l) (t.rows.take k) := ⟨_, rfl⟩
          obtain ⟨r, hrd⟩ : ∃ r, r = t.rows.getD k default := ⟨_, rfl⟩
          have hrm : r ∈ t.rows := by rw [hrd]; exact mem_getD h
          have hg : (List.map rowD t.rows).getD k default = rowD r := by rw [hrd]; simp [h]
          have hal : acc.length = k := by rw [hacc, sortF_length]; simp; omega
          have ham : ∀ y ∈ acc, y ∈ t.rows := fun y hy => by
            rw [hacc] at hy
            exact List.mem_of_mem_take (((sortF_perm _ _).mem_iff).1 hy)
          have hnext : sortF (ltR t.cols l) (t.rows.take (k + 1)) = putF (ltR t.cols l) acc r := by
            rw [show t.rows.take (k + 1) = t.rows.take k ++ [r] by rw [List.take_add_one, hrd]; simp [h], sortF_snoc, ← hacc]
          rw [hnext, ← hacc]
          simp only [zT, seval, implies_true, Nat.reduceLeDiff, Nat.reduceEqDiff, reduceCtorEq, reduceIte, (show (k:Int) < t.rows.length by omega), h, hg]
          repeat ((with_reducible refine And.intro ?_ ?_); (focus (first | omega | (simp only [lenR]; omega) | (refine qq ?_; rfl) | (refine dq ?_; kernel_rfl) | (intros; simp_all; done))))
          refine loop_of (τ := Nat) (fun j => [(1, .d (.sl (l.map SrtT.toD))), (2, .ptr 0 0), (4, .ptr 1 0), (8, .ptr 2 0), (9, .d (.int .i64 k)), (10, .d (.int .i64 j))])
            (fun _ => [.box 2 (.d t.toD), .box 2 (.agg [.nils, .nils]), .box 2 (.d (TabT.mk t.cols acc).toD)]) (fun j => j ≤ acc.length ∧ putAt (ltR t.cols l) acc r acc.length = putAt (ltR t.cols l) acc r j) (fun j => j) acc.length ⟨Nat.le_refl _, rfl⟩ ?_ ?_
          · refine weak_to [] [0, 1, 2] rfl (by simp) ?_ rfl
            simp only [zT, seval, implies_true, Nat.reduceLeDiff, Nat.reduceEqDiff, reduceCtorEq, reduceIte]
            all_goals rfl
          · intro j hj
            obtain ⟨hj1, hj2⟩ := hj
            have hsz : ∀ y ∈ acc.map rowD, y.cells.length = 1 := fun y hy => by
              obtain ⟨r, _, rfl⟩ := List.mem_map.1 hy; rfl
            by_cases g : 0 < j
            · obtain ⟨i, rfl⟩ : ∃ i, j = i + 1 := ⟨j - 1, by omega⟩
              obtain ⟨y, hy⟩ : ∃ y, y = acc.getD i default := ⟨_, rfl⟩
              have hia : i < acc.length := by omega
              have hgy : (List.map rowD acc).getD i default = rowD y := by rw [hy]; simp [hia]
              have hym : y ∈ t.rows := ham y (by rw [hy]; exact mem_getD hia)
              have hsub : IntKind.i64.wrap ((i : Int) + 1 - 1) = (i : Int) := by rw [@a_wrap ((i : Int) + 1 - 1) (by omega)]; omega
              have hpa : putAt (ltR t.cols l) acc r (i + 1) = if byF t.cols l r y < 0 then putAt (ltR t.cols l) acc r i else i + 1 := by
                rw [putAt, ← hy]
                by_cases e : byF t.cols l r y < 0
                · rw [if_pos e, if_pos (show ltR t.cols l r y = true from decide_eq_true e)]
                · rw [if_neg e, if_neg (by rw [show ltR t.cols l r y = false from decide_eq_false e]; simp)]
              simp only [zT, seval, implies_true, Nat.reduceLeDiff, Nat.reduceEqDiff, reduceCtorEq, reduceIte, (show (0:Int) < (i:Int) + 1 by omega), hsub, (show (i:Int) < acc.length by omega), hia, hgy, (show (k:Int) < t.rows.length by omega), h, hg]
              repeat ((with_reducible refine And.intro ?_ ?_); (focus (first | omega | (simp only [lenR]; omega) | (refine qq ?_; rfl) | (refine dq ?_; kernel_rfl) | (intros; simp_all; done))))
              refine callG_pure (v := .d (.int .i64 (byF t.cols l r y))) (fun _ => k_by t hc l hl hi r y (hlen r hrm) (hlen y hym)) ?_
              simp only [zT, seval, implies_true, Nat.reduceLeDiff, Nat.reduceEqDiff, reduceCtorEq, reduceIte]
              repeat ((with_reducible refine And.intro ?_ ?_); (focus (first | omega | (simp only [lenR]; omega) | (refine qq ?_; rfl) | (refine dq ?_; kernel_rfl) | (intros; simp_all; done))))
              have htn : ((i : Int) + 1).toNat = i + 1 := by omega
              refine ifC.mk (fun h3 => ?_) (fun h3 => ?_)
              · refine ⟨i, ⟨by omega, by rw [hj2, hpa, if_pos (of_decide_eq_true h3)]⟩, by omega, ?_⟩
                refine weak_to [] [0, 1, 2] rfl (by simp) ?_ rfl
                simp only [zT, seval, implies_true, Nat.reduceLeDiff, Nat.reduceEqDiff, reduceCtorEq, reduceIte, hsub]
                all_goals rfl
              · have hpj : putAt (ltR t.cols l) acc r acc.length = i + 1 := by rw [hj2, hpa, if_neg (of_decide_eq_false h3)]
                have hput : putF (ltR t.cols l) acc r = acc.take (i + 1) ++ r :: acc.drop (i + 1) := by rw [putF, hpj]
                have hlt : (List.take (i + 1) (List.map rowD acc)).length = i + 1 := by simp; omega
                have htk : List.take acc.length (List.map rowD acc) = List.map rowD acc := take_all _ _
                have hld : (List.drop (i + 1) (List.map rowD acc)).length = acc.length - (i + 1) := by simp
                simp only [zT, seval, implies_true, Nat.reduceLeDiff, Nat.reduceEqDiff, reduceCtorEq, reduceIte, htn, h, hg, (show (k:Int) < t.rows.length by omega), hlt, htk, hld]
                refine ⟨⟨by omega, by omega⟩, ⟨fun x hx => hsz x (List.mem_of_mem_take hx), by omega, by omega⟩, ⟨by omega, by omega⟩, ⟨by omega, by omega, Int.le_refl _⟩, ⟨fun x hx => hsz x (List.mem_of_mem_drop hx), by omega, by omega⟩, ?_⟩
                rw [tail_list acc r hj1, ← hput]
                have hpl := putF_length (ltR t.cols l) acc r
                obtain ⟨S, hS⟩ : ∃ S, S = putF (ltR t.cols l) acc r := ⟨_, rfl⟩
                rw [← hS] at hpl ⊢
                have hn : i + 1 + 1 + (acc.length - (i + 1)) = S.length := by omega
                rw [hn]
                refine (weak_boxD (σ := [.box 2 (.d t.toD), .box 2 (.agg [.nils, .nils]), .box 2 (.agg [.d (.sl (t.cols.map ColT.toD)), .osl 7 0 S.length]), .dead, .dead, .arr 1 [rowD r], .dead, .arr 1 (S.map rowD)]) 2 rfl (by simp) rfl).trans ?_
                refine weak_to [] [0, 1, 2] rfl (by simp) ?_ ?_
                · simp only [zT, seval, implies_true, Nat.reduceLeDiff, Nat.reduceEqDiff, reduceCtorEq, reduceIte, @a_wrap ((k:Int) + 1) (by omega)]
                  all_goals rfl
                · show [Blk.box 2 (.d t.toD), Blk.box 2 (.agg [.nils, .nils]), Blk.box 2 (.d (.agg [.sl (t.cols.map ColT.toD), .sl (List.take S.length (S.map rowD))]))] = _
                  rw [take_all]; rfl
            · have : j = 0 := by omega
              subst this
              have hpj : putAt (ltR t.cols l) acc r acc.length = 0 := by rw [hj2, putAt]
              have hput : putF (ltR t.cols l) acc r = acc.take 0 ++ r :: acc.drop 0 := by rw [putF, hpj]
              have htk : List.take acc.length (List.map rowD acc) = List.map rowD acc := take_all _ _
              simp only [zT, seval, implies_true, Nat.reduceLeDiff, Nat.reduceEqDiff, reduceCtorEq, reduceIte]
              repeat ((with_reducible refine And.intro ?_ ?_); (focus (first | omega | (simp only [lenR]; omega) | (refine qq ?_; rfl) | (refine dq ?_; kernel_rfl) | (intros; simp_all; done))))
              refine callG_pure (v := .d (.int .i64 0)) (fun h => by cases h) ?_
              simp only [zT, seval, implies_true, Nat.reduceLeDiff, Nat.reduceEqDiff, reduceCtorEq, reduceIte]
              repeat ((with_reducible refine And.intro ?_ ?_); (focus (first | omega | (simp only [lenR]; omega) | (refine qq ?_; rfl) | (refine dq ?_; kernel_rfl) | (intros; simp_all; done))))
              simp only [zT, seval, implies_true, Nat.reduceLeDiff, Nat.reduceEqDiff, reduceCtorEq, reduceIte, htk, h, hg, (show (k:Int) < t.rows.length by omega)]
              refine ⟨Int.le_refl _, ⟨by omega, by omega⟩, ?_⟩
              have hpl := putF_length (ltR t.cols l) acc r
              rw [show rowD r :: List.map rowD acc = (putF (ltR t.cols l) acc r).map rowD by rw [hput]; rfl]
              obtain ⟨S, hS⟩ : ∃ S, S = putF (ltR t.cols l) acc r := ⟨_, rfl⟩
              rw [← hS] at hpl ⊢
              have hn : 1 + acc.length = S.length := by omega
              rw [hn]
              refine (weak_boxD (σ := [.box 2 (.d t.toD), .box 2 (.agg [.nils, .nils]), .box 2 (.agg [.d (.sl (t.cols.map ColT.toD)), .osl 7 0 S.length]), .dead, .dead, .arr 1 [rowD r], .dead, .arr 1 (S.map rowD)]) 2 rfl (by simp) rfl).trans ?_
              refine weak_to [] [0, 1, 2] rfl (by simp) ?_ ?_
              · simp only [zT, seval, implies_true, Nat.reduceLeDiff, Nat.reduceEqDiff, reduceCtorEq, reduceIte, @a_wrap ((k:Int) + 1) (by omega)]
                all_goals rfl
              · show [Blk.box 2 (.d t.toD), Blk.box 2 (.agg [.nils, .nils]), Blk.box 2 (.d (.agg [.sl (t.cols.map ColT.toD), .sl (List.take S.length (S.map rowD))]))] = _
                rw [take_all]; rfl
        · simp only [zT, seval, implies_true, Nat.reduceLeDiff, Nat.reduceEqDiff, reduceCtorEq, reduceIte, (show ¬ (k:Int) < t.rows.length by omega)]
          have : k = t.rows.length := by omega
          subst this
          rw [List.take_length]
          repeat ((with_reducible refine And.intro ?_ ?_); (focus (first | omega | (simp only [lenR]; omega) | (refine qq ?_; rfl) | (refine dq ?_; kernel_rfl) | (intros; simp_all; done))))
          have hz : sortedE t l = 0 := by rw [hE, hi]; rfl
          refine ⟨_, _, ret_t2, ?_, rfl⟩
          rw [sortedF, if_pos hz, hz]; rfl
end YtadfcljoocjhdaaGreat
end Go.Proofs
