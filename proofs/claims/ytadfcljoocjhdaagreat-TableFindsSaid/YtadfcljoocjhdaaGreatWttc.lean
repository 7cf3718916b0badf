/- A part of the proof: contracts of functions of this seat, and lemmas. No condition beyond those stated. -/
import Derived.Test.YtadfcljoocjhdaaGreatWttb
import Derived.Test.YtadfcljoocjhdaaGreatWttq
set_option linter.unusedVariables false
set_option linter.unusedSimpArgs false
set_option linter.unusedSectionVars false
set_option linter.unnecessarySimpa false
set_option linter.unusedSimpArgs false
set_option linter.unusedVariables false
set_option maxRecDepth 100000
namespace Go.Proofs
open Go.AM
namespace YtadfcljoocjhdaaGreat
variable {Gl : Globs}
theorem k_RCheck (t : TabT) (hc : t.cols.length < 1000000) (hr : t.rows.length < 1000000) (hw : ∀ r ∈ t.rows, r.length < 1000000) : Pure Tryz.prog Gl 15 [.d t.toD] (.d (.int .i64 (checkF t))) := by
  refine Pure.of1 ?_
  obtain ⟨F, hF⟩ : ∃ F, F = checkF t := ⟨_, rfl⟩
  rw [← hF]
  rw [checkF] at hF
  refine acalls_of Tryz.func15 rfl rfl (by simp [Tryz.ntmps15]) (evC_sound rfl _ _ _ _ ?_)
  simp only [Tryz.ntmps15, Tryz.results15, argEnv, List.length_nil]
  simp only [zT, seval, implies_true, Nat.reduceLeDiff, Nat.reduceEqDiff, reduceCtorEq, reduceIte]
  repeat ((with_reducible refine And.intro ?_ ?_); (focus (first | omega | (simp only [lenR]; omega) | (refine qq ?_; rfl) | (refine dq ?_; kernel_rfl) | (intros; simp_all; done))))
  refine ifC.mk (fun h1 => ?_) (fun h1 => ?_)
  · refine ⟨_, _, ret_d, ?_, rfl⟩
    rw [hF, if_pos h1]
  rw [if_neg (by rw [h1]; simp)] at hF
  repeat ((with_reducible refine And.intro ?_ ?_); (focus (first | omega | (simp only [lenR]; omega) | (refine qq ?_; rfl) | (refine dq ?_; kernel_rfl) | (intros; simp_all; done))))
  refine for_of t.cols.length (fun k => [(1, .ptr 0 0), (3, .d (.int .i64 k))]) (fun _ => [.box 2 (.d t.toD)]) (fun k => firstErr (colE t.cols) k = 0) rfl ?_ ?_
  · refine weak_to [] [0] rfl (by simp) ?_ rfl
    simp only [zT, seval, implies_true, Nat.reduceLeDiff, Nat.reduceEqDiff, reduceCtorEq, reduceIte, Int.cast_ofNat_Int]
    all_goals rfl
  · intro k hi hk
    by_cases h : k < t.cols.length
    · have hs := firstErr_snoc hi
      have htw := colE_tw t.cols h
      obtain ⟨c, hcd⟩ : ∃ c, c = t.cols.getD k default := ⟨_, rfl⟩
      have hg : (List.map ColT.toD t.cols).getD k default = c.toD := by rw [hcd]; simp [h]
      rw [← hcd] at htw
      have hend : ∀ e, colE t.cols k = e → e ≠ 0 → firstErr (colE t.cols) t.cols.length = e := fun e e1 e2 => by
        rw [firstErr_at hi (by rw [e1]; exact e2) h, e1]
      have e0 : colE t.cols k = if nameF c.name ≠ 0 then nameF c.name else if (t.cols.take k).any (fun x => x.name == c.name) = true then 4 else if (c.ty != 1 && c.ty != 2 && c.ty != 3) = true then 14 else 0 := by rw [colE, ← hcd]
      simp only [zT, seval, implies_true, Nat.reduceLeDiff, Nat.reduceEqDiff, reduceCtorEq, reduceIte, (show (k:Int) < t.cols.length by omega), h, hg]
      repeat ((with_reducible refine And.intro ?_ ?_); (focus (first | omega | (simp only [lenR]; omega) | (refine qq ?_; rfl) | (refine dq ?_; kernel_rfl) | (intros; simp_all; done))))
      refine callF_pure (k_RName _) ?_
      simp only [zT, seval, implies_true, Nat.reduceLeDiff, Nat.reduceEqDiff, reduceCtorEq, reduceIte]
      repeat ((with_reducible refine And.intro ?_ ?_); (focus (first | omega | (simp only [lenR]; omega) | (refine qq ?_; rfl) | (refine dq ?_; kernel_rfl) | (intros; simp_all; done))))
      refine ifC.mk (fun h2 => ?_) (fun h2 => ?_)
      · have h2 := bne_iff_ne.1 h2
        rw [if_pos h2] at e0
        have := hend _ e0 h2
        refine ⟨_, _, ret_d, ?_, rfl⟩
        rw [hF, this, if_pos h2]
      · have h2 : nameF c.name = 0 := by simpa using h2
        rw [if_neg (by rw [h2]; simp)] at e0
        repeat ((with_reducible refine And.intro ?_ ?_); (focus (first | omega | (simp only [lenR]; omega) | (refine qq ?_; rfl) | (refine dq ?_; kernel_rfl) | (intros; simp_all; done))))
        refine callF_pure (k_RCol t c.name hc) ?_
        simp only [zT, seval, implies_true, Nat.reduceLeDiff, Nat.reduceEqDiff, reduceCtorEq, reduceIte, htw]
        refine ifC.mk (fun h3 => ?_) (fun h3 => ?_)
        · rw [if_pos h3] at e0
          have := hend _ e0 (by decide)
          refine ⟨_, _, ret_d, ?_, rfl⟩
          rw [hF, this]; rfl
        rw [if_neg (by rw [h3]; simp)] at e0
        refine ifC.mk (fun h4 => ?_) (fun h4 => ?_)
        · rw [if_pos h4] at e0
          have := hend _ e0 (by decide)
          refine ⟨_, _, ret_d, ?_, rfl⟩
          rw [hF, this]; rfl
        rw [if_neg (by rw [h4]; simp)] at e0
        refine ⟨by rw [hs, e0], ?_⟩
        refine weak_to [] [0] rfl (by simp) ?_ rfl
        simp only [zT, seval, implies_true, Nat.reduceLeDiff, Nat.reduceEqDiff, reduceCtorEq, reduceIte, @a_wrap ((k:Int) + 1) (by omega)]
        all_goals rfl
    · simp only [zT, seval, implies_true, Nat.reduceLeDiff, Nat.reduceEqDiff, reduceCtorEq, reduceIte, (show ¬ (k:Int) < t.cols.length by omega)]
      have : k = t.cols.length := by omega
      subst this
      rw [if_neg (by rw [hi]; simp)] at hF
      refine for_of t.rows.length (fun k => [(1, .ptr 0 0), (6, .d (.int .i64 k))]) (fun _ => [.box 2 (.d t.toD)]) (fun k => firstErr (fun i => rowE t.cols (t.rows.getD i default)) k = 0) rfl ?_ ?_
      · refine weak_to [] [0] rfl (by simp) ?_ rfl
        simp only [zT, seval, implies_true, Nat.reduceLeDiff, Nat.reduceEqDiff, reduceCtorEq, reduceIte, Int.cast_ofNat_Int]
        all_goals rfl
      · intro k hi hk
        by_cases h : k < t.rows.length
        · have hs := firstErr_snoc hi
          obtain ⟨r, hrd⟩ : ∃ r, r = t.rows.getD k default := ⟨_, rfl⟩
          have hrl := hw r (by rw [hrd]; exact mem_getD h)
          have hg : (List.map rowD t.rows).getD k default = .sl (r.map ValT.toD) := by rw [hrd]; simp [h, rowD]
          simp only [← hrd] at hs
          have hend : ∀ e, rowE t.cols r = e → e ≠ 0 → firstErr (fun i => rowE t.cols (t.rows.getD i default)) t.rows.length = e := fun e h1 h2 => by
            rw [firstErr_at hi (by simp only [← hrd]; rw [h1]; exact h2) h]
            simp only [← hrd]; exact h1
          simp only [zT, seval, implies_true, Nat.reduceLeDiff, Nat.reduceEqDiff, reduceCtorEq, reduceIte, (show (k:Int) < t.rows.length by omega), h, hg]
          repeat ((with_reducible refine And.intro ?_ ?_); (focus (first | omega | (simp only [lenR]; omega) | (refine qq ?_; rfl) | (refine dq ?_; kernel_rfl) | (intros; simp_all; done))))
          refine ifC.mk (fun h2 => ?_) (fun h2 => ?_)
          · refine ⟨_, _, ret_d, ?_, rfl⟩
            rw [hF, hend 10 (by rw [rowE, if_pos (by have h2 := h2; simp at h2; omega)]) (by decide)]
          have h2 : r.length = t.cols.length := by simp at h2; omega
          have hre : rowE t.cols r = firstErr (celE t.cols r) t.cols.length := by rw [rowE, if_neg (by rw [h2]; simp)]
          (try simp only [zT, seval, implies_true, Nat.reduceLeDiff, Nat.reduceEqDiff, reduceCtorEq, reduceIte])
          refine for_of t.cols.length (fun j => [(1, .ptr 0 0), (6, .d (.int .i64 k)), (7, .d (.int .i64 j))]) (fun _ => [.box 2 (.d t.toD)]) (fun j => firstErr (celE t.cols r) j = 0) rfl ?_ ?_
          · refine weak_to [] [0] rfl (by simp) ?_ rfl
            simp only [zT, seval, implies_true, Nat.reduceLeDiff, Nat.reduceEqDiff, reduceCtorEq, reduceIte, Int.cast_ofNat_Int]
            all_goals rfl
          · intro j hij hj
            by_cases g : j < t.cols.length
            · have hs2 := firstErr_snoc hij
              have g2 : j < r.length := by omega
              obtain ⟨v, hv⟩ : ∃ v, v = r.getD j default := ⟨_, rfl⟩
              obtain ⟨c, hc⟩ : ∃ c, c = t.cols.getD j default := ⟨_, rfl⟩
              have hgv : (List.map ValT.toD r).getD j default = v.toD := by rw [hv]; simp [g2]
              have hgc : (List.map ColT.toD t.cols).getD j default = c.toD := by rw [hc]; simp [g]
              rw [celE, ← hv, ← hc] at hs2
              simp only [zT, seval, implies_true, Nat.reduceLeDiff, Nat.reduceEqDiff, reduceCtorEq, reduceIte, (show (j:Int) < t.cols.length by omega), (show (j:Int) < r.length by omega), g, g2, hg, h, hgv, hgc]
              repeat ((with_reducible refine And.intro ?_ ?_); (focus (first | omega | (simp only [lenR]; omega) | (refine qq ?_; rfl) | (refine dq ?_; kernel_rfl) | (intros; simp_all; done))))
              refine callF_pure (k_RValue c.ty v) ?_
              simp only [zT, seval, implies_true, Nat.reduceLeDiff, Nat.reduceEqDiff, reduceCtorEq, reduceIte]
              repeat ((with_reducible refine And.intro ?_ ?_); (focus (first | omega | (simp only [lenR]; omega) | (refine qq ?_; rfl) | (refine dq ?_; kernel_rfl) | (intros; simp_all; done))))
              refine ifC.mk (fun h3 => ?_) (fun h3 => ?_)
              · have h3 := bne_iff_ne.1 h3
                refine ⟨_, _, ret_d, ?_, rfl⟩
                rw [hF, hend (valE c.ty v) (by rw [hre, firstErr_at hij (by rw [celE, ← hv, ← hc]; exact h3) g, celE, ← hv, ← hc]) h3]
              · have h3 : valE c.ty v = 0 := by simpa using h3
                refine ⟨by rw [hs2, h3], ?_⟩
                refine weak_to [] [0] rfl (by simp) ?_ rfl
                simp only [zT, seval, implies_true, Nat.reduceLeDiff, Nat.reduceEqDiff, reduceCtorEq, reduceIte, @a_wrap ((j:Int) + 1) (by omega)]
                all_goals rfl
            · simp only [zT, seval, implies_true, Nat.reduceLeDiff, Nat.reduceEqDiff, reduceCtorEq, reduceIte, (show ¬ (j:Int) < t.cols.length by omega)]
              have : j = t.cols.length := by omega
              subst this
              refine ⟨by rw [hs, hre, hij], ?_⟩
              refine weak_to [] [0] rfl (by simp) ?_ rfl
              simp only [zT, seval, implies_true, Nat.reduceLeDiff, Nat.reduceEqDiff, reduceCtorEq, reduceIte, @a_wrap ((k:Int) + 1) (by omega)]
              all_goals rfl
        · simp only [zT, seval, implies_true, Nat.reduceLeDiff, Nat.reduceEqDiff, reduceCtorEq, reduceIte, (show ¬ (k:Int) < t.rows.length by omega)]
          have : k = t.rows.length := by omega
          subst this
          refine ⟨_, _, ret_d, ?_, rfl⟩
          rw [hF, hi]
/-! ### Find -/
theorem any_snoc {α : Type} [Inhabited α] {p : α → Bool} {l : List α} {k : Nat} (h : k < l.length) : (l.take (k + 1)).any p = ((l.take k).any p || p (l.getD k default)) := any_take p l k h
theorem hasN_at {d : List NamT} {nm : List UInt8} {k : Nat} (h : k < d.length) (hc : ((d.getD k default).name == nm) = true) : hasN d nm = true := List.any_eq_true.2 ⟨_, mem_getD h, hc⟩
theorem findF_at {d : List NamT} {nm : List UInt8} {k : Nat} (hi : (d.take k).any (fun x => x.name == nm) = false) (h : k < d.length) (hc : ((d.getD k default).name == nm) = true) : findF d nm = (d.getD k default).tab := by
  rw [findF, if_pos (hasN_at h hc), placeF, idxF_at h hi hc]; rfl
theorem k_Find (d : List NamT) (nm : List UInt8) (hl : d.length < 1000000) : Pure Tryz.prog Gl 24 [.d (.sl (d.map NamT.toD)), .d (.str nm)] (.tup [.d (findF d nm).toD, .d (.bool (hasN d nm))]) := by
  refine Pure.of2t2 ?_
  refine acalls_of Tryz.func24 rfl rfl (by simp [Tryz.ntmps24]) (evC_sound rfl _ _ _ _ ?_)
  simp only [Tryz.ntmps24, Tryz.results24, argEnv, List.length_nil]
  simp only [zT, seval, implies_true, Nat.reduceLeDiff, Nat.reduceEqDiff, reduceCtorEq, reduceIte]
  repeat ((with_reducible refine And.intro ?_ ?_); (focus (first | omega | (simp only [lenR]; omega) | (refine qq ?_; rfl) | (refine dq ?_; kernel_rfl) | (intros; simp_all; done))))
  refine for_of d.length (fun k => [(1, .d (.str nm)), (4, .ptr 0 0), (8, .d (.sl (d.map NamT.toD))), (9, .d (.int .i64 d.length)), (10, .d (.int .i64 k))]) (fun _ => [.box 2 (.agg [.nils, .nils])]) (fun k => (d.take k).any (fun x : NamT => x.name == nm) = false) rfl ?_ ?_
  · refine weak_to [] [0] rfl (by simp) ?_ rfl
    simp only [zT, seval, implies_true, Nat.reduceLeDiff, Nat.reduceEqDiff, reduceCtorEq, reduceIte]
    all_goals rfl
  · intro k hi hk
    by_cases h : k < d.length
    · have hs := any_snoc (p := fun x : NamT => x.name == nm) h
      obtain ⟨x, hx⟩ : ∃ x, x = d.getD k default := ⟨_, rfl⟩
      have hg : (List.map NamT.toD d).getD k default = x.toD := by rw [hx]; simp [h]
      rw [← hx] at hs
      simp only [zT, seval, implies_true, Nat.reduceLeDiff, Nat.reduceEqDiff, reduceCtorEq, reduceIte, (show (k:Int) < d.length by omega), h, hg]
      repeat ((with_reducible refine And.intro ?_ ?_); (focus (first | omega | (simp only [lenR]; omega) | (refine qq ?_; rfl) | (refine dq ?_; kernel_rfl) | (intros; simp_all; done))))
      refine ifC.mk (fun hc => ?_) (fun hc => ?_)
      · repeat ((with_reducible refine And.intro ?_ ?_); (focus (first | omega | (simp only [lenR]; omega) | (refine qq ?_; rfl) | (refine dq ?_; kernel_rfl) | (intros; simp_all; done))))
        refine ⟨_, _, ret_tdata rfl rfl, ?_, rfl⟩
        rw [findF_at hi h (by rw [← hx]; exact hc), hasN_at h (by rw [← hx]; exact hc), ← hx]
        rfl
      · refine ⟨by rw [hs, hi, hc]; rfl, ?_⟩
        refine weak_to [] [0] rfl (by simp) ?_ rfl
        simp only [zT, seval, implies_true, Nat.reduceLeDiff, Nat.reduceEqDiff, reduceCtorEq, reduceIte, @a_wrap ((k:Int) + 1) (by omega)]
        all_goals rfl
    · simp only [zT, seval, implies_true, Nat.reduceLeDiff, Nat.reduceEqDiff, reduceCtorEq, reduceIte, (show ¬ (k:Int) < d.length by omega)]
      have : k = d.length := by omega
      subst this
      rw [List.take_length] at hi
      repeat ((with_reducible refine And.intro ?_ ?_); (focus (first | omega | (simp only [lenR]; omega) | (refine qq ?_; rfl) | (refine dq ?_; kernel_rfl) | (intros; simp_all; done))))
      refine ⟨_, _, ret_tdata rfl rfl, ?_, rfl⟩
      have hh : hasN d nm = false := hi
      rw [findF, hh, if_neg (by simp)]
      rfl
theorem k_place (d : List NamT) (nm : List UInt8) (hl : d.length < 1000000) : Pure Tryz.prog Gl 42 [.d (.sl (d.map NamT.toD)), .d (.str nm)] (.d (.int .i64 (placeF d nm))) := by
  refine Pure.of2 ?_
  refine acalls_of Tryz.func42 rfl rfl (by simp [Tryz.ntmps42]) (evC_sound rfl _ _ _ _ ?_)
  simp only [Tryz.ntmps42, Tryz.results42, argEnv, List.length_nil]
  simp only [zT, seval, implies_true, Nat.reduceLeDiff, Nat.reduceEqDiff, reduceCtorEq, reduceIte]
  refine for_of d.length (fun k => [(0, .d (.sl (d.map NamT.toD))), (1, .d (.str nm)), (5, .d (.int .i64 k))]) (fun _ => []) (fun k => (d.take k).any (fun x : NamT => x.name == nm) = false) rfl ?_ ?_
  · refine weak_to [] [] rfl (by simp) ?_ rfl
    simp only [zT, seval, implies_true, Nat.reduceLeDiff, Nat.reduceEqDiff, reduceCtorEq, reduceIte]
    all_goals rfl
  · intro k hi hk
    by_cases h : k < d.length
    · have hs := any_snoc (p := fun x : NamT => x.name == nm) h
      obtain ⟨x, hx⟩ : ∃ x, x = d.getD k default := ⟨_, rfl⟩
      have hg : (List.map NamT.toD d).getD k default = x.toD := by rw [hx]; simp [h]
      rw [← hx] at hs
      simp only [zT, seval, implies_true, Nat.reduceLeDiff, Nat.reduceEqDiff, reduceCtorEq, reduceIte, (show (k:Int) < d.length by omega), h, hg]
      repeat ((with_reducible refine And.intro ?_ ?_); (focus (first | omega | (simp only [lenR]; omega) | (refine qq ?_; rfl) | (refine dq ?_; kernel_rfl) | (intros; simp_all; done))))
      refine ifC.mk (fun hc => ?_) (fun hc => ?_)
      · refine ⟨_, _, ret_d, ?_, rfl⟩
        rw [placeF, idxF_at h hi (by rw [← hx]; exact hc)]
      · refine ⟨by rw [hs, hi, hc]; rfl, ?_⟩
        refine weak_to [] [] rfl (by simp) ?_ rfl
        simp only [zT, seval, implies_true, Nat.reduceLeDiff, Nat.reduceEqDiff, reduceCtorEq, reduceIte, @a_wrap ((k:Int) + 1) (by omega)]
        all_goals rfl
    · simp only [zT, seval, implies_true, Nat.reduceLeDiff, Nat.reduceEqDiff, reduceCtorEq, reduceIte, (show ¬ (k:Int) < d.length by omega)]
      have : k = d.length := by omega
      subst this
      rw [List.take_length] at hi
      refine ⟨_, _, ret_d, ?_, rfl⟩
      rw [placeF, idxF_none hi]
theorem placeF_lt (d : List NamT) (nm : List UInt8) (h : hasN d nm = true) : 0 ≤ placeF d nm ∧ placeF d nm < d.length := by
  have h1 : decide (0 ≤ placeF d nm) = true := by rw [placeF, idxF_any]; exact h
  exact ⟨of_decide_eq_true h1, idxF_lt _ _⟩
theorem placeF_neg (d : List NamT) (nm : List UInt8) : decide (placeF d nm < 0) = !hasN d nm := by
  have h1 : decide (0 ≤ placeF d nm) = hasN d nm := by rw [placeF, idxF_any]; rfl
  rw [← h1, ← decide_not, decide_eq_decide]; omega
theorem k_RFind (d : List NamT) (nm : List UInt8) (hl : d.length < 1000000) : Pure Tryz.prog Gl 27 [.d (.sl (d.map NamT.toD)), .d (.str nm)] (.tup [.d (findF d nm).toD, .d (.bool (hasN d nm))]) := by
  refine Pure.of2t2 ?_
  refine acalls_of Tryz.func27 rfl rfl (by simp [Tryz.ntmps27]) (evC_sound rfl _ _ _ _ ?_)
  simp only [Tryz.ntmps27, Tryz.results27, argEnv, List.length_nil]
  simp only [zT, seval, implies_true, Nat.reduceLeDiff, Nat.reduceEqDiff, reduceCtorEq, reduceIte]
  repeat ((with_reducible refine And.intro ?_ ?_); (focus (first | omega | (simp only [lenR]; omega) | (refine qq ?_; rfl) | (refine dq ?_; kernel_rfl) | (intros; simp_all; done))))
  refine callF_pure (k_place d nm hl) ?_
  simp only [zT, seval, implies_true, Nat.reduceLeDiff, Nat.reduceEqDiff, reduceCtorEq, reduceIte, placeF_neg]
  repeat ((with_reducible refine And.intro ?_ ?_); (focus (first | omega | (simp only [lenR]; omega) | (refine qq ?_; rfl) | (refine dq ?_; kernel_rfl) | (intros; simp_all; done))))
  refine ifC.mk (fun hc => ?_) (fun hc => ?_)
  · repeat ((with_reducible refine And.intro ?_ ?_); (focus (first | omega | (simp only [lenR]; omega) | (refine qq ?_; rfl) | (refine dq ?_; kernel_rfl) | (intros; simp_all; done))))
    have hc : hasN d nm = false := by simpa using hc
    refine ⟨_, _, ret_tdata rfl rfl, ?_, rfl⟩
    rw [findF, hc, if_neg (by simp)]
    rfl
  · have hc : hasN d nm = true := by simpa using hc
    obtain ⟨p1, p2⟩ := placeF_lt d nm hc
    obtain ⟨j, hj⟩ : ∃ j : Nat, placeF d nm = j := ⟨(placeF d nm).toNat, by omega⟩
    have h : j < d.length := by omega
    obtain ⟨x, hx⟩ : ∃ x, x = d.getD j default := ⟨_, rfl⟩
    have hg : (List.map NamT.toD d).getD j default = x.toD := by rw [hx]; simp [h]
    simp only [zT, seval, implies_true, Nat.reduceLeDiff, Nat.reduceEqDiff, reduceCtorEq, reduceIte, hj, (show (j:Int) < d.length by omega), h, hg]
    repeat ((with_reducible refine And.intro ?_ ?_); (focus (first | omega | (simp only [lenR]; omega) | (refine qq ?_; rfl) | (refine dq ?_; kernel_rfl) | (intros; simp_all; done))))
    refine ⟨_, _, ret_tdata rfl rfl, ?_, rfl⟩
    rw [findF, hc, if_pos rfl, hj]
    show _ = AV.tup [.d ((d.getD j default).tab).toD, _]
    rw [← hx]
    rfl
end YtadfcljoocjhdaaGreat
end Go.Proofs
