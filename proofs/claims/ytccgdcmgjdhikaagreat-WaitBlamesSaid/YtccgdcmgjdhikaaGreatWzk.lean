/- A part of the proof: contracts of functions of this seat, and lemmas. No condition beyond those stated. -/
import Derived.Test.YtccgdcmgjdhikaaGreatWzj
set_option linter.unusedVariables false
set_option linter.unusedSimpArgs false
set_option linter.unusedSectionVars false
set_option linter.unnecessarySimpa false
set_option linter.unusedSimpArgs false
set_option linter.unusedVariables false
set_option maxRecDepth 100000
namespace Go.Proofs
open Go.AM
namespace YtccgdcmgjdhikaaGreat
variable {Gl : Globs}

/-! ### the example -/
def exT : TraceT := ⟨0, 9, [⟨1, [97], 0⟩, ⟨2, [98], 0⟩, ⟨3, [99], 0⟩], [], [⟨1, 2, 0, 9, -1, 2, -1⟩, ⟨2, 2, 0, 9, -1, 1, -1⟩, ⟨3, 2, 0, 9, -1, 1, -1⟩], [], [], [], [], []⟩
theorem exT_few : exT.Few := by constructor <;> first | decide | (intro x hx; cases hx)
theorem k_example : Pure Tryz.prog Gl 18 [] (.d exT.toD) := by
  refine Pure.of0 ?_
  refine acalls_of Tryz.func18 rfl rfl (by simp [Tryz.ntmps18]) (evC_sound rfl _ _ _ _ ?_)
  simp only [Tryz.ntmps18, Tryz.results18, argEnv, List.length_nil]
  simp only [zC, seval, implies_true, Nat.reduceLeDiff, Nat.reduceEqDiff, reduceCtorEq, reduceIte]
  repeat ((with_reducible refine And.intro ?_ ?_); (focus (first | omega | (simp only [List.length_take, List.length_drop, List.length_map, List.length_append, List.length_cons]; omega) | (refine (show quietOp _ = true from ?_); rfl) | (refine (show drawOk _ _ _ _ _ _ _ from Or.inl ?_); kernel_rfl) | (intros; simp_all; done))))
  refine ⟨_, _, ret_data rfl ?_, rfl, rfl⟩
  rfl
theorem exT_ok : traceF exT = 0 := by decide +kernel
theorem k_BSF0 (fv : FuncId) (x : Int) : ACalls Tryz.prog Gl 30 [.osl 0 0 0, .d (.int .i64 x), .fn fv []] [.arr 2 []] (fun r s => r = .tup [.d (.int .i64 0), .d (.bool false)] ∧ s = [.arr 2 []]) := by
  refine acalls_of Tryz.func30 rfl rfl (by simp [Tryz.ntmps30]) (evC_sound rfl _ _ _ _ ?_)
  simp only [Tryz.ntmps30, Tryz.results30, argEnv, List.length_nil]
  simp only [zC, seval, implies_true, Nat.reduceLeDiff, Nat.reduceEqDiff, reduceCtorEq, reduceIte]
  refine for_of 0 (fun k => [(0, .osl 0 0 0), (1, .d (.int .i64 x)), (2, .fn fv []), (8, .d (.int .i64 0)), (9, .d (.int .i64 0)), (10, .d (.int .i64 0))]) (fun _ => [.arr 2 []]) (fun _ => True) trivial ?_ ?_
  · refine weak_to [] [0] rfl (by simp) ?_ rfl
    simp only [zC, seval, implies_true, Nat.reduceLeDiff, Nat.reduceEqDiff, reduceCtorEq, reduceIte, Int.cast_ofNat_Int]
    all_goals rfl
  · intro j _ hj
    obtain rfl : j = 0 := by omega
    simp only [zC, seval, implies_true, Nat.reduceLeDiff, Nat.reduceEqDiff, reduceCtorEq, reduceIte, Int.cast_ofNat_Int]
    refine callG_pure (v := .d (.int .i64 0)) (fun h => by cases h) ?_
    simp only [zC, seval, implies_true, Nat.reduceLeDiff, Nat.reduceEqDiff, reduceCtorEq, reduceIte]
    repeat ((with_reducible refine And.intro ?_ ?_); (focus (first | omega | (simp only [List.length_take, List.length_drop, List.length_map, List.length_append, List.length_cons]; omega) | (refine (show quietOp _ = true from ?_); rfl) | (refine (show drawOk _ _ _ _ _ _ _ from Or.inl ?_); kernel_rfl) | (intros; simp_all; done))))
    exact ⟨_, _, weakR_to [] [0] rfl (by simp) (show renV _ _ _ = AV.tup [.d _, .d _] from rfl) rfl, rfl, rfl⟩
theorem k_Insert0 (a b : Int) : ACalls Tryz.prog Gl 33 [.osl 0 0 0, .d (.int .i64 0), .osl 1 0 1] [.arr 2 [], .arr 2 [.agg [.int .i64 a, .int .i64 b]]] (fun r s => r = .osl 2 0 1 ∧ s = [.dead, .arr 2 [.agg [.int .i64 a, .int .i64 b]], .arr 2 [.agg [.int .i64 a, .int .i64 b]]]) := by
  refine acalls_of Tryz.func33 rfl rfl (by simp [Tryz.ntmps33]) (evC_sound rfl _ _ _ _ ?_)
  simp only [Tryz.ntmps33, Tryz.results33, argEnv, List.length_nil]
  simp only [zC, seval, implies_true, Nat.reduceLeDiff, Nat.reduceEqDiff, reduceCtorEq, reduceIte]
  repeat ((with_reducible refine And.intro ?_ ?_); (focus (first | omega | (simp only [List.length_take, List.length_drop, List.length_map, List.length_append, List.length_cons]; omega) | (refine (show quietOp _ = true from ?_); rfl) | (refine (show drawOk _ _ _ _ _ _ _ from Or.inl ?_); kernel_rfl) | (intros; simp_all; done))))
  (try simp only [zC, seval, implies_true, Nat.reduceLeDiff, Nat.reduceEqDiff, reduceCtorEq, reduceIte, Int.cast_ofNat_Int])
  exact ⟨_, _, WeakR.refl _ _ _, rfl, rfl⟩
theorem k_BlameEx : Pure Tryz.prog Gl 13 [.d exT.toD, .d (.int .i64 3), .d (.agg [.int .i64 2, .int .i64 20])] (.tup [.d (.sl [.agg [.int .i64 1, .int .i64 7]]), .d (.int .i64 0)]) := by
  refine Pure.of3t2 ?_
  have hks : hasT exT.threads 3 = true := by decide +kernel
  have hvs : okSpan 2 20 = true := by decide +kernel
  refine acalls_of Tryz.func13 rfl rfl (by simp [Tryz.ntmps13]) (evC_sound rfl _ _ _ _ ?_)
  simp only [Tryz.ntmps13, Tryz.results13, argEnv, List.length_nil]
  simp only [zC, seval, implies_true, Nat.reduceLeDiff, Nat.reduceEqDiff, reduceCtorEq, reduceIte]
  repeat ((with_reducible refine And.intro ?_ ?_); (focus (first | omega | (simp only [List.length_take, List.length_drop, List.length_map, List.length_append, List.length_cons]; omega) | (refine (show quietOp _ = true from ?_); rfl) | (refine (show drawOk _ _ _ _ _ _ _ from Or.inl ?_); kernel_rfl) | (intros; simp_all; done))))
  refine callF_pure (k_traceCheck exT exT_few) ?_
  rw [exT_ok]
  simp only [zC, seval, implies_true, Nat.reduceLeDiff, Nat.reduceEqDiff, reduceCtorEq, reduceIte]
  refine callF_pure (k_known exT exT_few 3) ?_
  rw [hks]
  simp only [zC, seval, implies_true, Nat.reduceLeDiff, Nat.reduceEqDiff, reduceCtorEq, reduceIte, Bool.not_true]
  refine callF_pure (k_Valid _ _) ?_
  rw [hvs]
  simp only [zC, seval, implies_true, Nat.reduceLeDiff, Nat.reduceEqDiff, reduceCtorEq, reduceIte, Bool.not_true]
  repeat ((with_reducible refine And.intro ?_ ?_); (focus (first | omega | (simp only [List.length_take, List.length_drop, List.length_map, List.length_append, List.length_cons]; omega) | (refine (show quietOp _ = true from ?_); rfl) | (refine (show drawOk _ _ _ _ _ _ _ from Or.inl ?_); kernel_rfl) | (intros; simp_all; done))))
  have eL : exT.states.length = 3 := rfl
  have e0 : (List.map StateT.toD exT.states).getD 0 default = (⟨1, 2, 0, 9, -1, 2, -1⟩ : StateT).toD := rfl
  have e1 : (List.map StateT.toD exT.states).getD 1 default = (⟨2, 2, 0, 9, -1, 1, -1⟩ : StateT).toD := rfl
  have e2 : (List.map StateT.toD exT.states).getD 2 default = (⟨3, 2, 0, 9, -1, 1, -1⟩ : StateT).toD := rfl
  refine for_of 3 (fun k => [(1, .d (.int .i64 3)), (3, .ptr 0 0), (5, .ptr 1 0), (9, .osl 2 0 (if k = 3 then 1 else 0)), (28, .d (.sl (exT.states.map StateT.toD))), (29, .d (.int .i64 3)), (30, .d (.int .i64 k))]) (fun k => [.box 10 (.d exT.toD), .box 2 (.d (.agg [.int .i64 2, .int .i64 20])), .arr 2 (if k = 3 then [.agg [.int .i64 1, .int .i64 7]] else [])]) (fun _ => True) trivial ?_ ?_
  · refine (weak_nils 9 2 rfl).trans ?_
    refine weak_to [] [0, 1, 2] rfl (by simp) ?_ ?_
    · simp only [zC, seval, implies_true, Nat.reduceLeDiff, Nat.reduceEqDiff, reduceCtorEq, reduceIte, Int.cast_ofNat_Int]
      all_goals rfl
    · rfl
  · intro k _ hk
    have w7 : IntKind.i64.wrap (min 9 20 - max 0 2) = 7 := by decide
    have w1 : IntKind.i64.wrap 1 = 1 := by decide
    have w2 : IntKind.i64.wrap 2 = 2 := by decide
    have w3 : IntKind.i64.wrap 3 = 3 := by decide
    match k, hk with
    | 0, _ =>
      simp only [zC, seval, implies_true, Nat.reduceLeDiff, Nat.reduceEqDiff, reduceCtorEq, reduceIte, Int.cast_ofNat_Int, eL, e0, w1]
      refine weak_to [] [0, 1, 2] rfl (by simp) ?_ rfl
      rfl
    | 1, _ =>
      simp only [zC, seval, implies_true, Nat.reduceLeDiff, Nat.reduceEqDiff, reduceCtorEq, reduceIte, Int.cast_ofNat_Int, eL, e1, w2]
      refine weak_to [] [0, 1, 2] rfl (by simp) ?_ rfl
      rfl
    | 2, _ =>
      simp only [zC, seval, implies_true, Nat.reduceLeDiff, Nat.reduceEqDiff, reduceCtorEq, reduceIte, Int.cast_ofNat_Int, eL, e2, w7]
      refine callF_at1 2 (by simp) rfl (k_BSF0 31 1) ?_
      rintro r s ⟨rfl, rfl⟩
      simp only [zC, seval, implies_true, Nat.reduceLeDiff, Nat.reduceEqDiff, reduceCtorEq, reduceIte, back_t2]
      repeat ((with_reducible refine And.intro ?_ ?_); (focus (first | omega | (simp only [List.length_take, List.length_drop, List.length_map, List.length_append, List.length_cons]; omega) | (refine (show quietOp _ = true from ?_); rfl) | (refine (show drawOk _ _ _ _ _ _ _ from Or.inl ?_); kernel_rfl) | (intros; simp_all; done))))
      refine callF_go ?_
      refine (ACalls.under [2, 4] (by simp) (by simp) (k_Insert0 1 0)).mono fun r s hr => ?_
      obtain ⟨r0, s0, ⟨rfl, rfl⟩, rfl, rfl⟩ := hr
      have hb1 : back (backId [2, 4] 5) (.osl 2 0 1) = .osl 5 0 1 := rfl
      have hb2 : backS [2, 4] [.box 10 (.d exT.toD), .box 2 (.d (.agg [.int .i64 2, .int .i64 20])), .arr 2 [], .box 7 (.d (⟨3, 2, 0, 9, -1, 1, -1⟩ : StateT).toD), .arr 2 [.agg [.int .i64 1, .int .i64 0]]] [.dead, .arr 2 [.agg [.int .i64 1, .int .i64 0]], .arr 2 [.agg [.int .i64 1, .int .i64 0]]]
        = [.box 10 (.d exT.toD), .box 2 (.d (.agg [.int .i64 2, .int .i64 20])), .dead, .box 7 (.d (⟨3, 2, 0, 9, -1, 1, -1⟩ : StateT).toD), .arr 2 [.agg [.int .i64 1, .int .i64 0]], .arr 2 [.agg [.int .i64 1, .int .i64 0]]] := rfl
      simp only [zC, seval, implies_true, Nat.reduceLeDiff, Nat.reduceEqDiff, reduceCtorEq, reduceIte, hb1, hb2]
      repeat ((with_reducible refine And.intro ?_ ?_); (focus (first | omega | (simp only [List.length_take, List.length_drop, List.length_map, List.length_append, List.length_cons]; omega) | (refine (show quietOp _ = true from ?_); rfl) | (refine (show drawOk _ _ _ _ _ _ _ from Or.inl ?_); kernel_rfl) | (intros; simp_all; done))))
      simp only [zC, seval, implies_true, Nat.reduceLeDiff, Nat.reduceEqDiff, reduceCtorEq, reduceIte, w7, w3]
      repeat ((with_reducible refine And.intro ?_ ?_); (focus (first | omega | (simp only [List.length_take, List.length_drop, List.length_map, List.length_append, List.length_cons]; omega) | (refine (show quietOp _ = true from ?_); rfl) | (refine (show drawOk _ _ _ _ _ _ _ from Or.inl ?_); kernel_rfl) | (intros; simp_all; done))))
      have w7b : IntKind.i64.wrap 7 = 7 := by decide
      refine ⟨⟨rfl, by decide, by decide, by decide⟩, ⟨rfl, by decide, by decide, by decide⟩, ?_⟩
      refine weak_to [] [0, 1, 5] rfl (by simp) ?_ ?_
      · simp only [zC, seval, implies_true, Nat.reduceLeDiff, Nat.reduceEqDiff, reduceCtorEq, reduceIte, w7b]
        all_goals rfl
      · simp only [zC, seval, implies_true, Nat.reduceLeDiff, Nat.reduceEqDiff, reduceCtorEq, reduceIte, w7b]
        all_goals rfl
    | 3, _ =>
      simp only [zC, seval, implies_true, Nat.reduceLeDiff, Nat.reduceEqDiff, reduceCtorEq, reduceIte, Int.cast_ofNat_Int]
      refine ⟨_, _, ret_tdata rfl rfl, ?_, rfl⟩
      rfl
def fewR (t : TraceT) : Bool := !(decide (70 < t.threads.length) || decide (40 < t.slices.length) || decide (40 < t.states.length) || decide (40 < t.flows.length) || decide (40 < t.samples.length) || decide (40 < t.steps.length) || decide (40 < t.blocks.length) || decide (40 < t.lost.length))
def fewK (t : TraceT) (k : Nat) : Bool := !((decide ((k : Int) < (t.samples.length : Int)) && decide ((40 : Int) < ((t.samples.getD k default).stack.length : Int))) || (decide ((k : Int) < (t.blocks.length : Int)) && decide ((40 : Int) < ((t.blocks.getD k default).stack.length : Int))))
def fewF (t : TraceT) : Bool := fewR t && (List.range 40).all (fewK t)
theorem few_few {t : TraceT} (h : fewF t = true) : t.Few := by
  unfold fewF at h
  rw [Bool.and_eq_true] at h
  obtain ⟨h1, h2⟩ := h
  unfold fewR at h1
  simp only [Bool.not_eq_true', Bool.or_eq_false_iff, decide_eq_false_iff_not] at h1
  obtain ⟨⟨⟨⟨⟨⟨⟨a1, a2⟩, a3⟩, a4⟩, a5⟩, a6⟩, a7⟩, a8⟩ := h1
  rw [List.all_eq_true] at h2
  refine ⟨by omega, by omega, by omega, by omega, by omega, by omega, by omega, by omega, fun x hx => ?_, fun x hx => ?_⟩
  · obtain ⟨k, hk, rfl⟩ := List.getElem_of_mem hx
    have := h2 k (List.mem_range.2 (by omega))
    unfold fewK at this
    have e : t.samples.getD k default = t.samples[k] := by simp [hk]
    simp only [Bool.not_eq_true', Bool.or_eq_false_iff, Bool.and_eq_false_iff, decide_eq_false_iff_not, e] at this
    omega
  · obtain ⟨k, hk, rfl⟩ := List.getElem_of_mem hx
    have := h2 k (List.mem_range.2 (by omega))
    unfold fewK at this
    have e : t.blocks.getD k default = t.blocks[k] := by simp [hk]
    simp only [Bool.not_eq_true', Bool.or_eq_false_iff, Bool.and_eq_false_iff, decide_eq_false_iff_not, e] at this
    omega
theorem k_Few (t : TraceT) : Pure Tryz.prog Gl 17 [.d t.toD, .d (.int .i64 40)] (.d (.bool (fewF t))) := by
  refine Pure.of2 ?_
  obtain ⟨F, hF⟩ : ∃ F, F = fewF t := ⟨_, rfl⟩
  rw [← hF]
  rw [fewF] at hF
  refine acalls_of Tryz.func17 rfl rfl (by simp [Tryz.ntmps17]) (evC_sound rfl _ _ _ _ ?_)
  simp only [Tryz.ntmps17, Tryz.results17, argEnv, List.length_nil]
  simp only [zC, seval, implies_true, Nat.reduceLeDiff, Nat.reduceEqDiff, reduceCtorEq, reduceIte]
  repeat ((with_reducible refine And.intro ?_ ?_); (focus (first | omega | (simp only [List.length_take, List.length_drop, List.length_map, List.length_append, List.length_cons]; omega) | (refine (show quietOp _ = true from ?_); rfl) | (refine (show drawOk _ _ _ _ _ _ _ from Or.inl ?_); kernel_rfl) | (intros; simp_all; done))))
  refine ifC.mk (fun h1 => ?_) (fun h1 => ?_)
  · refine ⟨_, _, ret_d, ?_, rfl⟩
    have e : fewR t = false := by
      unfold fewR; rw [Bool.not_eq_false']
      simp only [Bool.or_eq_true, decide_eq_true_eq] at h1 ⊢
      omega
    rw [hF, e]; rfl
  · have e : fewR t = true := by
      unfold fewR; rw [Bool.not_eq_true']
      simp only [Bool.or_eq_false_iff, decide_eq_false_iff_not] at h1 ⊢
      omega
    rw [e, Bool.true_and] at hF
    have hlen : t.samples.length ≤ 40 ∧ t.blocks.length ≤ 40 := by
      simp only [Bool.or_eq_false_iff, decide_eq_false_iff_not] at h1
      omega
    refine for_of 40 (fun k => [(1, .d (.int .i64 40)), (2, .ptr 0 0), (5, .d (.int .i64 k))]) (fun _ => [.box 10 (.d t.toD)]) (fun k => (List.range k).all (fewK t) = true) rfl ?_ ?_
    · refine weak_to [] [0] rfl (by simp) ?_ rfl
      simp only [zC, seval, implies_true, Nat.reduceLeDiff, Nat.reduceEqDiff, reduceCtorEq, reduceIte, Int.cast_ofNat_Int]
      all_goals rfl
    · intro k hi hk
      by_cases h : k < 40
      · simp only [zC, seval, implies_true, Nat.reduceLeDiff, Nat.reduceEqDiff, reduceCtorEq, reduceIte, (show (k:Int) < 40 by omega)]
        rcases Nat.lt_or_ge k t.samples.length with h2 | h2 <;> rcases Nat.lt_or_ge k t.blocks.length with h3 | h3
        · have hat : fewK t k = !(decide ((40 : Int) < ((t.samples.getD k default).stack.length : Int)) || decide ((40 : Int) < ((t.blocks.getD k default).stack.length : Int))) := by unfold fewK; rw [decide_eq_true (show (k:Int) < (t.samples.length : Int) by omega), decide_eq_true (show (k:Int) < (t.blocks.length : Int) by omega)]; simp only [Bool.true_and, Bool.false_and, Bool.false_or, Bool.or_false]
          simp only [zC, seval, implies_true, Nat.reduceLeDiff, Nat.reduceEqDiff, reduceCtorEq, reduceIte, (show (k:Int) < t.samples.length by omega), h2, a_getD _ _ _ (show k < t.samples.length by omega), (show (k:Int) < t.blocks.length by omega), h3, a_getD _ _ _ (show k < t.blocks.length by omega)]
          repeat ((with_reducible refine And.intro ?_ ?_); (focus (first | omega | (simp only [List.length_take, List.length_drop, List.length_map, List.length_append, List.length_cons]; omega) | (refine (show quietOp _ = true from ?_); rfl) | (refine (show drawOk _ _ _ _ _ _ _ from Or.inl ?_); kernel_rfl) | (intros; simp_all; done))))
          refine ifC.mk (fun h4 => ?_) (fun h4 => ?_)
          · refine ⟨_, _, ret_d, ?_, rfl⟩
            rw [hF, range_all_at h (by rw [hat, h4]; rfl)]
          · refine ⟨h, by rw [range_all, hi, hat, h4]; rfl, ?_⟩
            refine weak_to [] [0] rfl (by simp) ?_ rfl
            simp only [zC, seval, implies_true, Nat.reduceLeDiff, Nat.reduceEqDiff, reduceCtorEq, reduceIte, @a_wrap ((k:Int) + 1) (by omega)]
            all_goals rfl
        · have hat : fewK t k = !(decide ((40 : Int) < ((t.samples.getD k default).stack.length : Int))) := by unfold fewK; rw [decide_eq_true (show (k:Int) < (t.samples.length : Int) by omega), decide_eq_false (show ¬ (k:Int) < (t.blocks.length : Int) by omega)]; simp only [Bool.true_and, Bool.false_and, Bool.false_or, Bool.or_false]
          simp only [zC, seval, implies_true, Nat.reduceLeDiff, Nat.reduceEqDiff, reduceCtorEq, reduceIte, (show (k:Int) < t.samples.length by omega), h2, a_getD _ _ _ (show k < t.samples.length by omega), (show ¬ (k:Int) < t.blocks.length by omega)]
          repeat ((with_reducible refine And.intro ?_ ?_); (focus (first | omega | (simp only [List.length_take, List.length_drop, List.length_map, List.length_append, List.length_cons]; omega) | (refine (show quietOp _ = true from ?_); rfl) | (refine (show drawOk _ _ _ _ _ _ _ from Or.inl ?_); kernel_rfl) | (intros; simp_all; done))))
          refine ifC.mk (fun h4 => ?_) (fun h4 => ?_)
          · refine ⟨_, _, ret_d, ?_, rfl⟩
            rw [hF, range_all_at h (by rw [hat, h4]; rfl)]
          · refine ⟨h, by rw [range_all, hi, hat, h4]; rfl, ?_⟩
            refine weak_to [] [0] rfl (by simp) ?_ rfl
            simp only [zC, seval, implies_true, Nat.reduceLeDiff, Nat.reduceEqDiff, reduceCtorEq, reduceIte, @a_wrap ((k:Int) + 1) (by omega)]
            all_goals rfl
        · have hat : fewK t k = !(decide ((40 : Int) < ((t.blocks.getD k default).stack.length : Int))) := by unfold fewK; rw [decide_eq_false (show ¬ (k:Int) < (t.samples.length : Int) by omega), decide_eq_true (show (k:Int) < (t.blocks.length : Int) by omega)]; simp only [Bool.true_and, Bool.false_and, Bool.false_or, Bool.or_false]
          simp only [zC, seval, implies_true, Nat.reduceLeDiff, Nat.reduceEqDiff, reduceCtorEq, reduceIte, (show ¬ (k:Int) < t.samples.length by omega), (show (k:Int) < t.blocks.length by omega), h3, a_getD _ _ _ (show k < t.blocks.length by omega)]
          repeat ((with_reducible refine And.intro ?_ ?_); (focus (first | omega | (simp only [List.length_take, List.length_drop, List.length_map, List.length_append, List.length_cons]; omega) | (refine (show quietOp _ = true from ?_); rfl) | (refine (show drawOk _ _ _ _ _ _ _ from Or.inl ?_); kernel_rfl) | (intros; simp_all; done))))
          refine ifC.mk (fun h4 => ?_) (fun h4 => ?_)
          · refine ⟨_, _, ret_d, ?_, rfl⟩
            rw [hF, range_all_at h (by rw [hat, h4]; rfl)]
          · refine ⟨h, by rw [range_all, hi, hat, h4]; rfl, ?_⟩
            refine weak_to [] [0] rfl (by simp) ?_ rfl
            simp only [zC, seval, implies_true, Nat.reduceLeDiff, Nat.reduceEqDiff, reduceCtorEq, reduceIte, @a_wrap ((k:Int) + 1) (by omega)]
            all_goals rfl
        · have hat : fewK t k = !(false) := by unfold fewK; rw [decide_eq_false (show ¬ (k:Int) < (t.samples.length : Int) by omega), decide_eq_false (show ¬ (k:Int) < (t.blocks.length : Int) by omega)]; simp only [Bool.true_and, Bool.false_and, Bool.false_or, Bool.or_false]
          simp only [zC, seval, implies_true, Nat.reduceLeDiff, Nat.reduceEqDiff, reduceCtorEq, reduceIte, (show ¬ (k:Int) < t.samples.length by omega), (show ¬ (k:Int) < t.blocks.length by omega)]
          repeat ((with_reducible refine And.intro ?_ ?_); (focus (first | omega | (simp only [List.length_take, List.length_drop, List.length_map, List.length_append, List.length_cons]; omega) | (refine (show quietOp _ = true from ?_); rfl) | (refine (show drawOk _ _ _ _ _ _ _ from Or.inl ?_); kernel_rfl) | (intros; simp_all; done))))
          refine ⟨by rw [range_all, hi, hat]; rfl, ?_⟩
          refine weak_to [] [0] rfl (by simp) ?_ rfl
          simp only [zC, seval, implies_true, Nat.reduceLeDiff, Nat.reduceEqDiff, reduceCtorEq, reduceIte, @a_wrap ((k:Int) + 1) (by omega)]
          all_goals rfl
      · simp only [zC, seval, implies_true, Nat.reduceLeDiff, Nat.reduceEqDiff, reduceCtorEq, reduceIte, (show ¬ (k:Int) < 40 by omega)]
        have : k = 40 := by omega
        subst this
        refine ⟨_, _, ret_d, ?_, rfl⟩
        rw [hF, hi]
theorem chainF_ex : chainF exT 3 5 = ([⟨3, 2, 0, 9⟩, ⟨1, 2, 0, 9⟩, ⟨2, 2, 0, 9⟩], 0) := by decide +kernel
theorem deadF_ex : deadF exT 5 = ([1, 2], 0) := by decide +kernel
theorem k_lives : Pure Tryz.prog Gl 8 [] (.d (.bool true)) := by
  refine Pure.of0 ?_
  refine acalls_of Tryz.func8 rfl rfl (by simp [Tryz.ntmps8]) (evC_sound rfl _ _ _ _ ?_)
  simp only [Tryz.ntmps8, Tryz.results8, argEnv, List.length_nil]
  simp only [zC, seval, implies_true, Nat.reduceLeDiff, Nat.reduceEqDiff, reduceCtorEq, reduceIte]
  refine callF_pure k_example ?_
  simp only [zC, seval, implies_true, Nat.reduceLeDiff, Nat.reduceEqDiff, reduceCtorEq, reduceIte]
  refine callF_pure (k_Chain exT exT_few 3 5) ?_
  have q1 : HopT.toD ⟨3, 2, 0, 9⟩ = .agg [.int .i64 3, .int .i64 2, .int .i64 0, .int .i64 9] := rfl
  have q2 : HopT.toD ⟨1, 2, 0, 9⟩ = .agg [.int .i64 1, .int .i64 2, .int .i64 0, .int .i64 9] := rfl
  have q3 : HopT.toD ⟨2, 2, 0, 9⟩ = .agg [.int .i64 2, .int .i64 2, .int .i64 0, .int .i64 9] := rfl
  rw [chainF_ex]
  simp only [zC, seval, implies_true, Nat.reduceLeDiff, Nat.reduceEqDiff, reduceCtorEq, reduceIte, List.map_cons, List.map_nil, q1, q2, q3]
  refine callF_pure k_example ?_
  simp only [zC, seval, implies_true, Nat.reduceLeDiff, Nat.reduceEqDiff, reduceCtorEq, reduceIte]
  refine callF_pure (k_Deadlock exT exT_few 5) ?_
  rw [deadF_ex]
  simp only [zC, seval, implies_true, Nat.reduceLeDiff, Nat.reduceEqDiff, reduceCtorEq, reduceIte, List.map_cons, List.map_nil]
  refine callF_pure k_example ?_
  simp only [zC, seval, implies_true, Nat.reduceLeDiff, Nat.reduceEqDiff, reduceCtorEq, reduceIte]
  refine callF_pure k_BlameEx ?_
  simp only [zC, seval, implies_true, Nat.reduceLeDiff, Nat.reduceEqDiff, reduceCtorEq, reduceIte, List.map_cons, List.map_nil, Int.cast_ofNat_Int]
  repeat ((with_reducible refine And.intro ?_ ?_); (focus (first | omega | (simp only [List.length_take, List.length_drop, List.length_map, List.length_append, List.length_cons]; omega) | (refine (show quietOp _ = true from ?_); rfl) | (refine (show drawOk _ _ _ _ _ _ _ from Or.inl ?_); kernel_rfl) | (intros; simp_all; done))))
  exact ⟨_, _, ret_d, rfl, rfl⟩
end YtccgdcmgjdhikaaGreat
end Go.Proofs
