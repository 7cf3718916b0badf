/- A part of the proof: contracts of functions of this seat, and lemmas. No condition beyond those stated. -/
import Derived.Test.YtadfcljoocjhdaaGreatWttr
set_option linter.unusedVariables false
set_option linter.unusedSimpArgs false
set_option linter.unusedSectionVars false
set_option linter.unnecessarySimpa false
set_option maxRecDepth 100000
namespace Go.Proofs
open Go.AM
namespace YtadfcljoocjhdaaGreat
variable {Gl : Globs}
theorem k_R33SameB (a b : List ValT) (n : Nat) (ha : a.length = n) (hb : b.length = n) (hl : n < 1000000) (B : Blk) (hB : ArrOrFrz 3 (b.map ValT.toD) B) : ACalls Tryz.prog Gl 78 [.d (rowD a), .osl 0 0 n] [B] (fun r s => r = .d (.bool (decide (a = b))) ∧ s = [B]) := by
 rw [rowD]
 rcases hB with rfl | rfl
 ·refine acalls_of Tryz.func78 rfl rfl (by simp [Tryz.ntmps78]) (evC_sound rfl _ _ _ _ ?_)
  simp only [Tryz.ntmps78, Tryz.results78, argEnv, List.length_nil]
  simp only [zT, seval, implies_true, Nat.reduceLeDiff, Nat.reduceEqDiff, reduceCtorEq, reduceIte]
  simp only [zT, seval, implies_true, Nat.reduceLeDiff, Nat.reduceEqDiff, reduceCtorEq, reduceIte, ha, hb, bne_self_eq_false]
  repeat ((with_reducible refine And.intro ?_ ?_); (focus (first | omega | (simp only [lenR]; omega) | (refine qq ?_; rfl) | (refine dq ?_; kernel_rfl) | (intros; simp_all; done))))
  refine for_of n (fun k => [(0, .d (.sl (a.map ValT.toD))), (1, .osl 0 0 n), (5, .d (.int .i64 k))]) (fun _ => [.arr 3 (b.map ValT.toD)]) (fun k => a.take k = b.take k) rfl ?_ ?_
  ·refine weak_to [] [0] rfl (by simp) ?_ rfl
   simp only [zT, seval, implies_true, Nat.reduceLeDiff, Nat.reduceEqDiff, reduceCtorEq, reduceIte]
   all_goals rfl
  ·intro k hi hk
   by_cases h : k < n
   ·have hak : k < a.length := by omega
    have hbk : k < b.length := by omega
    obtain ⟨x, hx⟩ : ∃ x, x = a.getD k default := ⟨_, rfl⟩
    obtain ⟨y, hy⟩ : ∃ y, y = b.getD k default := ⟨_, rfl⟩
    have hgx : (List.map ValT.toD a).getD k default = .agg [.int .i64 x.k, .int .i64 x.n, .str x.s] := by rw [hx]; simp [hak, ValT.toD]
    have hgy : (List.map ValT.toD b).getD k default = .agg [.int .i64 y.k, .int .i64 y.n, .str y.s] := by rw [hy]; simp [hbk, ValT.toD]
    simp only [zT, seval, implies_true, Nat.reduceLeDiff, Nat.reduceEqDiff, reduceCtorEq, reduceIte, ha, hb, (show (k:Int) < n by omega), h, hak, hbk, hgx, hgy]
    repeat ((with_reducible refine And.intro ?_ ?_); (focus (first | omega | (simp only [lenR]; omega) | (refine qq ?_; rfl) | (refine dq ?_; kernel_rfl) | (intros; simp_all; done))))
    (try simp only [zT, seval, implies_true, Nat.reduceLeDiff, Nat.reduceEqDiff, reduceCtorEq, reduceIte, valB, Bool.and_true])
    refine ifC.mk (fun h2 => ?_) (fun h2 => ?_)
    ·have h2 : x ≠ y := by simpa using h2
     refine ⟨_, _, weakR_to [] [0] rfl (by simp) (show renV _ _ _ = AV.d _ from rfl) rfl, ?_, rfl⟩
     rw [decide_eq_false (ne_getD (by rw [← hx, ← hy]; exact h2))]
    ·have h2 : x = y := by simpa using h2
     refine ⟨take_eq_step hak hbk hi (by rw [← hx, ← hy]; exact h2), ?_⟩
     refine weak_to [] [0] rfl (by simp) ?_ rfl
     simp only [zT, seval, implies_true, Nat.reduceLeDiff, Nat.reduceEqDiff, reduceCtorEq, reduceIte, @a_wrap ((k:Int) + 1) (by omega)]
     all_goals rfl
   ·simp only [zT, seval, implies_true, Nat.reduceLeDiff, Nat.reduceEqDiff, reduceCtorEq, reduceIte, ha, (show ¬ (k:Int) < n by omega)]
    have : k = n := by omega
    subst this
    refine ⟨_, _, weakR_to [] [0] rfl (by simp) (show renV _ _ _ = AV.d _ from rfl) rfl, ?_, rfl⟩
    rw [decide_eq_true (eq_take (by omega) (by rw [ha]; exact hi))]
 ·refine acalls_of Tryz.func78 rfl rfl (by simp [Tryz.ntmps78]) (evC_sound rfl _ _ _ _ ?_)
  simp only [Tryz.ntmps78, Tryz.results78, argEnv, List.length_nil]
  simp only [zT, seval, implies_true, Nat.reduceLeDiff, Nat.reduceEqDiff, reduceCtorEq, reduceIte]
  simp only [zT, seval, implies_true, Nat.reduceLeDiff, Nat.reduceEqDiff, reduceCtorEq, reduceIte, ha, hb, bne_self_eq_false]
  repeat ((with_reducible refine And.intro ?_ ?_); (focus (first | omega | (simp only [lenR]; omega) | (refine qq ?_; rfl) | (refine dq ?_; kernel_rfl) | (intros; simp_all; done))))
  refine for_of n (fun k => [(0, .d (.sl (a.map ValT.toD))), (1, .osl 0 0 n), (5, .d (.int .i64 k))]) (fun _ => [.frz 3 (b.map ValT.toD)]) (fun k => a.take k = b.take k) rfl ?_ ?_
  ·refine weak_to [] [0] rfl (by simp) ?_ rfl
   simp only [zT, seval, implies_true, Nat.reduceLeDiff, Nat.reduceEqDiff, reduceCtorEq, reduceIte]
   all_goals rfl
  ·intro k hi hk
   by_cases h : k < n
   ·have hak : k < a.length := by omega
    have hbk : k < b.length := by omega
    obtain ⟨x, hx⟩ : ∃ x, x = a.getD k default := ⟨_, rfl⟩
    obtain ⟨y, hy⟩ : ∃ y, y = b.getD k default := ⟨_, rfl⟩
    have hgx : (List.map ValT.toD a).getD k default = .agg [.int .i64 x.k, .int .i64 x.n, .str x.s] := by rw [hx]; simp [hak, ValT.toD]
    have hgy : (List.map ValT.toD b).getD k default = .agg [.int .i64 y.k, .int .i64 y.n, .str y.s] := by rw [hy]; simp [hbk, ValT.toD]
    simp only [zT, seval, implies_true, Nat.reduceLeDiff, Nat.reduceEqDiff, reduceCtorEq, reduceIte, ha, hb, (show (k:Int) < n by omega), h, hak, hbk, hgx, hgy]
    repeat ((with_reducible refine And.intro ?_ ?_); (focus (first | omega | (simp only [lenR]; omega) | (refine qq ?_; rfl) | (refine dq ?_; kernel_rfl) | (intros; simp_all; done))))
    (try simp only [zT, seval, implies_true, Nat.reduceLeDiff, Nat.reduceEqDiff, reduceCtorEq, reduceIte, valB, Bool.and_true])
    refine ifC.mk (fun h2 => ?_) (fun h2 => ?_)
    ·have h2 : x ≠ y := by simpa using h2
     refine ⟨_, _, weakR_to [] [0] rfl (by simp) (show renV _ _ _ = AV.d _ from rfl) rfl, ?_, rfl⟩
     rw [decide_eq_false (ne_getD (by rw [← hx, ← hy]; exact h2))]
    ·have h2 : x = y := by simpa using h2
     refine ⟨take_eq_step hak hbk hi (by rw [← hx, ← hy]; exact h2), ?_⟩
     refine weak_to [] [0] rfl (by simp) ?_ rfl
     simp only [zT, seval, implies_true, Nat.reduceLeDiff, Nat.reduceEqDiff, reduceCtorEq, reduceIte, @a_wrap ((k:Int) + 1) (by omega)]
     all_goals rfl
   ·simp only [zT, seval, implies_true, Nat.reduceLeDiff, Nat.reduceEqDiff, reduceCtorEq, reduceIte, ha, (show ¬ (k:Int) < n by omega)]
    have : k = n := by omega
    subst this
    refine ⟨_, _, weakR_to [] [0] rfl (by simp) (show renV _ _ _ = AV.d _ from rfl) rfl, ?_, rfl⟩
    rw [decide_eq_true (eq_take (by omega) (by rw [ha]; exact hi))]
theorem k_SameRowB (a b : List ValT) (n : Nat) (ha : a.length = n) (hb : b.length = n) (hl : n < 1000000) (B : Blk) (hB : ArrOrFrz 3 (b.map ValT.toD) B) : ACalls Tryz.prog Gl 37 [.d (rowD a), .osl 0 0 n] [B] (fun r s => r = .d (.bool (decide (a = b))) ∧ s = [B]) := by
 rcases hB with rfl | rfl
 ·refine acalls_of Tryz.func37 rfl rfl (by simp [Tryz.ntmps37]) (evC_sound rfl _ _ _ _ ?_)
  simp only [Tryz.ntmps37, Tryz.results37, argEnv, List.length_nil]
  simp only [zT, seval, implies_true, Nat.reduceLeDiff, Nat.reduceEqDiff, reduceCtorEq, reduceIte]
  refine callF_go ((k_R33SameB a b n ha hb hl _ (.inl rfl)).mono fun r s hrs => ?_)
  obtain ⟨rfl, rfl⟩ := hrs
  simp only [zT, seval, implies_true, Nat.reduceLeDiff, Nat.reduceEqDiff, reduceCtorEq, reduceIte]
  refine ⟨_, _, weakR_to [] [0] rfl (by simp) (show renV _ _ _ = AV.d _ from rfl) rfl, ?_, rfl⟩
  rfl
 ·refine acalls_of Tryz.func37 rfl rfl (by simp [Tryz.ntmps37]) (evC_sound rfl _ _ _ _ ?_)
  simp only [Tryz.ntmps37, Tryz.results37, argEnv, List.length_nil]
  simp only [zT, seval, implies_true, Nat.reduceLeDiff, Nat.reduceEqDiff, reduceCtorEq, reduceIte]
  refine callF_go ((k_R33SameB a b n ha hb hl _ (.inr rfl)).mono fun r s hrs => ?_)
  obtain ⟨rfl, rfl⟩ := hrs
  simp only [zT, seval, implies_true, Nat.reduceLeDiff, Nat.reduceEqDiff, reduceCtorEq, reduceIte]
  refine ⟨_, _, weakR_to [] [0] rfl (by simp) (show renV _ _ _ = AV.d _ from rfl) rfl, ?_, rfl⟩
  rfl
def liveT : TabT := ⟨[⟨[107], 2⟩, ⟨[115], 3⟩], [[numV 1, txtV [98]], [numV 2, txtV [97]], [numV 1, txtV [97]]]⟩
def liveL : List SrtT := [⟨[107], true⟩, ⟨[115], false⟩]
def liveW : TabT := ⟨[⟨[107], 2⟩, ⟨[115], 3⟩], [[numV 2, txtV [97]], [numV 1, txtV [97]], [numV 1, txtV [98]]]⟩
def liveTr : TraceT := ⟨0, 0, [⟨7, [97], 0⟩], [], [], [], [], [], [], []⟩
theorem live_S : sortedF liveT liveL = liveW := by decide +kernel
theorem live_E : sortedE liveT liveL = 0 := by decide +kernel
theorem live_O : ofE liveTr = 0 := by decide +kernel
theorem live_F : ofF liveTr = ofL liveTr := by rw [ofF, if_pos live_O]
theorem live_C : checkAllF (ofL liveTr) = 0 := ofL_ok (by decide +kernel) ⟨by decide, by decide, by decide, by decide, by decide, by decide, by decide, by decide⟩
theorem live_few : liveT.Few := ⟨by decide, by decide, by decide⟩
theorem live_chk : checkF liveT = 0 := by decide +kernel
theorem live_col : colF liveT.cols [115] = 1 := by decide +kernel
theorem live_ord : ordV (numV 5) (txtV []) = -1 := by decide +kernel
theorem live_wfew : liveW.Few := ⟨by decide, by decide, by decide⟩
theorem live_trfew : liveTr.Few := ⟨by decide, by decide, by decide, by decide, by decide, by decide, by decide, by decide, fun x hx => (by cases hx), fun x hx => (by cases hx)⟩
theorem live_dfew : ∀ x ∈ ofL liveTr, x.tab.Few := by
 have h : (ofL liveTr).all (fun x => decide (x.tab.cols.length < 1000000) && decide (x.tab.rows.length < 1000000) && x.tab.rows.all fun r => decide (r.length < 1000000)) = true := by decide +kernel
 intro x hx
 have := List.all_eq_true.1 h x hx
 simp only [Bool.and_eq_true, decide_eq_true_eq, List.all_eq_true] at this
 exact ⟨this.1.1, this.1.2, this.2⟩
theorem k_lives : Pure Tryz.prog Gl 13 [] (.d (.bool true)) := by
 refine Pure.of0 ?_
 refine acalls_of Tryz.func13 rfl rfl (by simp [Tryz.ntmps13]) (evC_sound rfl _ _ _ _ ?_)
 simp only [Tryz.ntmps13, Tryz.results13, argEnv, List.length_nil]
 simp only [zT, seval, implies_true, Nat.reduceLeDiff, Nat.reduceEqDiff, reduceCtorEq, reduceIte]
 repeat ((with_reducible refine And.intro ?_ ?_); (focus (first | omega | (simp only [lenR]; omega) | (refine qq ?_; rfl) | (refine dq ?_; kernel_rfl) | (intros; simp_all; done))))
 refine callF_pure (k_Rnum _) ?_
 simp only [zT, seval, implies_true, Nat.reduceLeDiff, Nat.reduceEqDiff, reduceCtorEq, reduceIte]
 refine callF_pure (k_Rtxt _) ?_
 simp only [zT, seval, implies_true, Nat.reduceLeDiff, Nat.reduceEqDiff, reduceCtorEq, reduceIte]
 repeat ((with_reducible refine And.intro ?_ ?_); (focus (first | omega | (simp only [lenR]; omega) | (refine qq ?_; rfl) | (refine dq ?_; kernel_rfl) | (intros; simp_all; done))))
 refine callF_pure (k_Rnum _) ?_
 simp only [zT, seval, implies_true, Nat.reduceLeDiff, Nat.reduceEqDiff, reduceCtorEq, reduceIte]
 refine callF_pure (k_Rtxt _) ?_
 simp only [zT, seval, implies_true, Nat.reduceLeDiff, Nat.reduceEqDiff, reduceCtorEq, reduceIte]
 repeat ((with_reducible refine And.intro ?_ ?_); (focus (first | omega | (simp only [lenR]; omega) | (refine qq ?_; rfl) | (refine dq ?_; kernel_rfl) | (intros; simp_all; done))))
 refine callF_pure (k_Rnum _) ?_
 simp only [zT, seval, implies_true, Nat.reduceLeDiff, Nat.reduceEqDiff, reduceCtorEq, reduceIte]
 refine callF_pure (k_Rtxt _) ?_
 simp only [zT, seval, implies_true, Nat.reduceLeDiff, Nat.reduceEqDiff, reduceCtorEq, reduceIte]
 repeat ((with_reducible refine And.intro ?_ ?_); (focus (first | omega | (simp only [lenR]; omega) | (refine qq ?_; rfl) | (refine dq ?_; kernel_rfl) | (intros; simp_all; done))))
 have hw1 : Weak 0 7 [] [.arr 2 (liveT.cols.map ColT.toD), .frz 3 (([numV 1, txtV [98]] : List ValT).map ValT.toD), .frz 3 (([numV 2, txtV [97]] : List ValT).map ValT.toD), .frz 3 (([numV 1, txtV [97]] : List ValT).map ValT.toD), .arr 1 (liveT.rows.map rowD), .box 2 (.agg [.osl 0 0 2, .osl 4 0 3]), .arr 2 (liveL.map SrtT.toD)] [] [.frz 2 (liveT.cols.map ColT.toD), .frz 3 (([numV 1, txtV [98]] : List ValT).map ValT.toD), .frz 3 (([numV 2, txtV [97]] : List ValT).map ValT.toD), .frz 3 (([numV 1, txtV [97]] : List ValT).map ValT.toD), .frz 1 (liveT.rows.map rowD), .box 2 (.d liveT.toD), .arr 2 (liveL.map SrtT.toD)] := weak_boxD (σ := [.arr 2 (liveT.cols.map ColT.toD), .frz 3 (([numV 1, txtV [98]] : List ValT).map ValT.toD), .frz 3 (([numV 2, txtV [97]] : List ValT).map ValT.toD), .frz 3 (([numV 1, txtV [97]] : List ValT).map ValT.toD), .arr 1 (liveT.rows.map rowD), .box 2 (.agg [.osl 0 0 2, .osl 4 0 3]), .arr 2 (liveL.map SrtT.toD)]) 5 rfl (by simp) rfl
 refine callF_go (ACalls.weak hw1 ((ACalls.data (show ACalls Tryz.prog Gl 33 [.d liveT.toD, .d (srtD liveL)] [.frz 2 (liveT.cols.map ColT.toD), .frz 3 (([numV 1, txtV [98]] : List ValT).map ValT.toD), .frz 3 (([numV 2, txtV [97]] : List ValT).map ValT.toD), .frz 3 (([numV 1, txtV [97]] : List ValT).map ValT.toD), .frz 1 (liveT.rows.map rowD), .box 2 (.d liveT.toD), .frz 2 (liveL.map SrtT.toD)] _ from k_Sorted liveT live_few liveL (by decide) _)).mono fun r s hrs => ?_))
 obtain ⟨rfl, rfl⟩ := hrs
 rw [live_S, live_E]
 have hl3 : liveT.rows.length = 3 := rfl
 have hr0 : (List.map rowD liveT.rows).getD 0 default = rowD [numV 1, txtV [98]] := rfl
 have hr1 : (List.map rowD liveT.rows).getD 1 default = rowD [numV 2, txtV [97]] := rfl
 have hr2 : (List.map rowD liveT.rows).getD 2 default = rowD [numV 1, txtV [97]] := rfl
 have h83 : (8 : Nat) = 8 := rfl
 simp only [zT, seval, implies_true, Nat.reduceLeDiff, Nat.reduceEqDiff, reduceCtorEq, reduceIte, hl3, hr0, hr1, hr2]
 repeat ((with_reducible refine And.intro ?_ ?_); (focus (first | omega | (simp only [lenR]; omega) | (refine qq ?_; rfl) | (refine dq ?_; kernel_rfl) | (intros; simp_all; done))))
 refine callF_go (ACalls.weak (weak_freeze 8) ((ACalls.data (show ACalls Tryz.prog Gl 20 [.d liveTr.toD] [.frz 2 (liveT.cols.map ColT.toD), .frz 3 (([numV 1, txtV [98]] : List ValT).map ValT.toD), .frz 3 (([numV 2, txtV [97]] : List ValT).map ValT.toD), .frz 3 (([numV 1, txtV [97]] : List ValT).map ValT.toD), .frz 1 (liveT.rows.map rowD), .box 2 (.d liveT.toD), .frz 2 (liveL.map SrtT.toD), .box 2 (.d liveW.toD), .frz 1 [rowD [numV 2, txtV [97]], rowD [numV 1, txtV [97]], rowD [numV 1, txtV [98]]], .frz 3 [D.agg [.int .i64 7, .str [97], .int .i64 0]]] _ from k_Of liveTr live_trfew _)).mono fun r s hrs => ?_))
 obtain ⟨rfl, rfl⟩ := hrs
 rw [live_F, live_O]
 obtain ⟨d, hd⟩ : ∃ d, d = ofL liveTr := ⟨_, rfl⟩
 have hdl : d.length = 8 := by rw [hd]; rfl
 have hd0 : (List.map NamT.toD d).getD 0 default = (NamT.mk [116, 104, 114, 101, 97, 100, 115] ⟨thrCols, [[numV 7, txtV [97]]]⟩).toD := by rw [hd]; rfl
 have hdc : checkAllF d = 0 := by rw [hd]; exact live_C
 have hdf : findF d [120] = ⟨[], []⟩ := by rw [hd]; decide +kernel
 have hdh : hasN d [120] = false := by rw [hd]; decide +kernel
 have hdw : ∀ x ∈ d, x.tab.Few := by rw [hd]; exact live_dfew
 rw [← hd]
 clear hd
 have hdi : (d.length : Int) = 8 := by rw [hdl]; rfl
 simp only [zT, seval, implies_true, Nat.reduceLeDiff, Nat.reduceEqDiff, reduceCtorEq, reduceIte, hdi, hdl, hd0]
 repeat ((with_reducible refine And.intro ?_ ?_); (focus (first | omega | (simp only [lenR]; omega) | (refine qq ?_; rfl) | (refine dq ?_; kernel_rfl) | (intros; simp_all; done))))
 simp only [zT, seval, implies_true, Nat.reduceLeDiff, Nat.reduceEqDiff, reduceCtorEq, reduceIte, beq_self_eq_true, Bool.not_true]
 refine callF_pure (k_Find d [120] (by omega)) ?_
 rw [hdf, hdh]
 simp only [zT, seval, implies_true, Nat.reduceLeDiff, Nat.reduceEqDiff, reduceCtorEq, reduceIte]
 repeat ((with_reducible refine And.intro ?_ ?_); (focus (first | omega | (simp only [lenR]; omega) | (refine qq ?_; rfl) | (refine dq ?_; kernel_rfl) | (intros; simp_all; done))))
 refine callF_frz (xs := [liveW.toD, liveW.toD]) (k_RSame liveW liveW live_wfew live_wfew) (fun s hs => ?_) ?_
 ·have hb := ext_frz hs (i := 8) rfl
  obtain ⟨q1, q2⟩ := dataA_two (o := 0) (k := 3) (c := .sl (List.map ColT.toD liveT.cols)) hb
  refine ⟨?_, ?_⟩
  ·simp only [List.append_nil, List.map_cons, List.map_nil, y_dataA_d]
   rw [q1]; rfl
  ·simp only [List.append_nil, List.flatMap_cons, List.flatMap_nil, y_refsD_d]
   rw [q2]
   exact freeze_frz hb
 have hsm : ∀ x : TabT, sameT x x = true := fun x => sameT_t rfl rfl
 simp only [zT, seval, implies_true, Nat.reduceLeDiff, Nat.reduceEqDiff, reduceCtorEq, reduceIte, hsm]
 repeat ((with_reducible refine And.intro ?_ ?_); (focus (first | omega | (simp only [lenR]; omega) | (refine qq ?_; rfl) | (refine dq ?_; kernel_rfl) | (intros; simp_all; done))))
 refine callG_pure (v := .d (.int .i64 0)) (fun _ => by rw [← live_chk]; exact k_Check liveT live_few.cols live_few.rows live_few.row) ?_
 simp only [zT, seval, implies_true, Nat.reduceLeDiff, Nat.reduceEqDiff, reduceCtorEq, reduceIte, beq_self_eq_true]
 repeat ((with_reducible refine And.intro ?_ ?_); (focus (first | omega | (simp only [lenR]; omega) | (refine qq ?_; rfl) | (refine dq ?_; kernel_rfl) | (intros; simp_all; done))))
 refine callG_pure (v := .d (.int .i64 1)) (fun _ => by rw [← live_col]; exact k_Col liveT [115] (by decide)) ?_
 simp only [zT, seval, implies_true, Nat.reduceLeDiff, Nat.reduceEqDiff, reduceCtorEq, reduceIte, beq_self_eq_true]
 repeat ((with_reducible refine And.intro ?_ ?_); (focus (first | omega | (simp only [lenR]; omega) | (refine qq ?_; rfl) | (refine dq ?_; kernel_rfl) | (intros; simp_all; done))))
 refine callG_pure (v := .d (numV 5).toD) (fun _ => k_Rnum _) ?_
 simp only [zT, seval, implies_true, Nat.reduceLeDiff, Nat.reduceEqDiff, reduceCtorEq, reduceIte]
 repeat ((with_reducible refine And.intro ?_ ?_); (focus (first | omega | (simp only [lenR]; omega) | (refine qq ?_; rfl) | (refine dq ?_; kernel_rfl) | (intros; simp_all; done))))
 refine callG_pure (v := .d (txtV []).toD) (fun _ => k_Rtxt _) ?_
 simp only [zT, seval, implies_true, Nat.reduceLeDiff, Nat.reduceEqDiff, reduceCtorEq, reduceIte]
 repeat ((with_reducible refine And.intro ?_ ?_); (focus (first | omega | (simp only [lenR]; omega) | (refine qq ?_; rfl) | (refine dq ?_; kernel_rfl) | (intros; simp_all; done))))
 refine callG_pure (v := .d (.int .i64 (-1))) (fun _ => by rw [← live_ord]; exact k_Order _ _) ?_
 simp only [zT, seval, implies_true, Nat.reduceLeDiff, Nat.reduceEqDiff, reduceCtorEq, reduceIte, beq_self_eq_true]
 repeat ((with_reducible refine And.intro ?_ ?_); (focus (first | omega | (simp only [lenR]; omega) | (refine qq ?_; rfl) | (refine dq ?_; kernel_rfl) | (intros; simp_all; done))))
 refine callG_pure (v := .d (.int .i64 0)) (fun _ => by rw [← hdc]; exact k_CheckAll d (by omega) hdw) ?_
 simp only [zT, seval, implies_true, Nat.reduceLeDiff, Nat.reduceEqDiff, reduceCtorEq, reduceIte, beq_self_eq_true]
 repeat ((with_reducible refine And.intro ?_ ?_); (focus (first | omega | (simp only [lenR]; omega) | (refine qq ?_; rfl) | (refine dq ?_; kernel_rfl) | (intros; simp_all; done))))
 (try simp only [zT, seval, implies_true, Nat.reduceLeDiff, Nat.reduceEqDiff, reduceCtorEq, reduceIte, hdi, hdl, hd0])
 repeat ((with_reducible refine And.intro ?_ ?_); (focus (first | omega | (simp only [lenR]; omega) | (refine qq ?_; rfl) | (refine dq ?_; kernel_rfl) | (intros; simp_all; done))))
 refine callG_pure (v := .d (numV 7).toD) (fun _ => k_Rnum _) ?_
 simp only [zT, seval, implies_true, Nat.reduceLeDiff, Nat.reduceEqDiff, reduceCtorEq, reduceIte]
 repeat ((with_reducible refine And.intro ?_ ?_); (focus (first | omega | (simp only [lenR]; omega) | (refine qq ?_; rfl) | (refine dq ?_; kernel_rfl) | (intros; simp_all; done))))
 refine callG_pure (v := .d (txtV [97]).toD) (fun _ => k_Rtxt _) ?_
 simp only [zT, seval, implies_true, Nat.reduceLeDiff, Nat.reduceEqDiff, reduceCtorEq, reduceIte]
 repeat ((with_reducible refine And.intro ?_ ?_); (focus (first | omega | (simp only [lenR]; omega) | (refine qq ?_; rfl) | (refine dq ?_; kernel_rfl) | (intros; simp_all; done))))
 refine callG_at1 (v := .bool true) 11 (fun B hB => k_SameRowB [numV 7, txtV [97]] [numV 7, txtV [97]] 2 rfl rfl (by decide) B hB) (fun s => rfl) rfl ?_
 simp only [zT, seval, implies_true, Nat.reduceLeDiff, Nat.reduceEqDiff, reduceCtorEq, reduceIte]
 repeat ((with_reducible refine And.intro ?_ ?_); (focus (first | omega | (simp only [lenR]; omega) | (refine qq ?_; rfl) | (refine dq ?_; kernel_rfl) | (intros; simp_all; done))))
 refine callG_pure (v := .d (.bool true)) (fun _ => by rw [← hsm liveT]; exact k_Same _ _ live_few live_few) ?_
 simp only [zT, seval, implies_true, Nat.reduceLeDiff, Nat.reduceEqDiff, reduceCtorEq, reduceIte]
 repeat ((with_reducible refine And.intro ?_ ?_); (focus (first | omega | (simp only [lenR]; omega) | (refine qq ?_; rfl) | (refine dq ?_; kernel_rfl) | (intros; simp_all; done))))
 exact ⟨_, _, ret_d, rfl, rfl⟩
end YtadfcljoocjhdaaGreat
end Go.Proofs
