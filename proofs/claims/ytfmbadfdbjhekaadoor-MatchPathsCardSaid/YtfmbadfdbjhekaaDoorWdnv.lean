/- A part of the proof: contracts of functions of this seat, and lemmas. No condition beyond those stated. -/
import Derived.Test.YtfmbadfdbjhekaaDoorWdnu
set_option linter.unusedVariables false
set_option linter.unusedSimpArgs false
set_option linter.unusedSectionVars false
set_option linter.unnecessarySimpa false
set_option maxRecDepth 100000
namespace Go.Proofs
open Go.AM
namespace YtfmbadfdbjhekaaDoor
variable {Gl : Globs}
theorem back_fresh (σ : Sto) (B : Blk) (hB : backB (backId [] σ.length) B = B) : backS [] σ [B] = σ ++ [B] := by
 apply List.ext_getElem?
 intro i
 rcases Nat.lt_trichotomy i σ.length with h | h | h
 ·rw [List.getElem?_append_left h]
  simp [backS, idxIn, h, blkAt, show i < σ.length + 1 by omega]
 ·subst h
  simp [backS, idxIn, blkAt]
  exact hB
 ·rw [List.getElem?_eq_none (by simp [backS]; omega), List.getElem?_eq_none (by simp; omega)]
theorem back_tree (N : Nat) (x : D) : back (backId [] N) (.agg [.d x, .mapr 0]) = .agg [.d x, .mapr N] := by
 simp [back, backL, backId]
def vf (x y : Bool) : AV := if y = true then .d (.sl [.int .i64 (-1)]) else onV x (.osl 6 0 1)
theorem stP_ren1' (a b : List NodeT) (s : Al) (m : Nat → Bool) (B : Blk) : renS [0, 1, 2, 3, 4, 5] (stP a b s m ++ [B]) = stP a b s m := by
 show [renB _ _ _, renB _ _ (.map (some .i64) (kidM a)), renB _ _ (.map (some .i64) (kidM b)), renB _ _ _, renB _ _ _, renB _ _ (.map (some .i64) (memM b m))] = _
 rw [kidM_ren, kidM_ren, memM_ren]; rfl
theorem stP_back1' (a b : List NodeT) (s s' : Al) (m m' : Nat → Bool) (B : Blk) : backS [0, 1, 2, 3, 4, 5] (stP a b s m ++ [B]) (stP a b s' m') = stP a b s' m' ++ [B] := by
 show [backB _ _, backB _ (.map (some .i64) (kidM a)), backB _ (.map (some .i64) (kidM b)), backB _ _, backB _ _, backB _ (.map (some .i64) (memM b m')), _] = _
 rw [kidM_back, kidM_back, memM_back]; rfl
theorem onP1' {f : FuncId} {args : List AV} {a b : List NodeT} {s : Al} {m : Nat → Bool} {B : Blk} {R : AV → Sto → Prop} (h : ACalls Tryd.prog Gl f args (stP a b s m) R) (ha : args.map (renV [0, 1, 2, 3, 4, 5] (stP a b s m ++ [B])) = args) :
  ACalls Tryd.prog Gl f args (stP a b s m ++ [B]) (fun r s1 => ∃ r0 s0, R r0 s0 ∧ r = back (backId [0, 1, 2, 3, 4, 5] (stP a b s m ++ [B]).length) r0 ∧ s1 = backS [0, 1, 2, 3, 4, 5] (stP a b s m ++ [B]) s0) := by
 refine ACalls.under [0, 1, 2, 3, 4, 5] (by decide) (by simp [stP]) ?_
 rw [ha, stP_ren1']; exact h
theorem vf_t (x : Bool) : vf x true = .d (.sl [.int .i64 (-1)]) := rfl
theorem vf_f (x : Bool) : vf x false = onV x (.osl 6 0 1) := rfl
theorem renV_vf {ρ : List Nat} (σ : Sto) (x : Bool) {y : Bool} (h : idxIn ρ 6 = some 6) : renV ρ σ (vf x y) = vf x y := by
 cases y
 ·cases x
  ·rfl
  ·show ren0 ρ σ (.osl 6 0 1) = .osl 6 0 1
   simp only [ren0, h]
 ·rfl
theorem back_osl (N k : Nat) : back (backId [] N) (.osl 0 0 k) = .osl N 0 k := by
 simp [back, backId]
theorem k_MOf (a b : List NodeT) (ha : a.length ≤ 100) (hb : b.length ≤ 100) : Pure Tryd.prog Gl 11 [.d (.sl (a.map NodeT.toD)), .d (.sl (b.map NodeT.toD))] (ofD a b) := by
 refine Pure.of2t2 ?_
 refine acalls_of Tryd.func11 rfl rfl (by simp [Tryd.ntmps11]) (evC_sound rfl _ _ _ _ ?_)
 simp only [Tryd.ntmps11, Tryd.results11, argEnv, List.length_nil]
 simp only [zN, seval, implies_true, Nat.reduceLeDiff, Nat.reduceEqDiff, reduceCtorEq, reduceIte, intD]
 refine callF_pure (k_chk2 a b (by omega) (by omega)) ?_
 simp only [zN, seval, implies_true, Nat.reduceLeDiff, Nat.reduceEqDiff, reduceCtorEq, reduceIte, intD]
 refine ifC.mk (fun h1 => ?_) (fun h1 => ?_)
 ·have h1 : ¬ chk2 a b = 0 := by simpa using h1
  refine ⟨_, _, ret_tdata rfl rfl, ?_, rfl⟩
  unfold chk2 at h1 ⊢
  by_cases h2 : checkF a = 0
  ·rw [if_pos h2] at h1 ⊢
   rw [ofF, if_pos h2, if_neg h1]; rfl
  ·rw [if_neg h2] at h1 ⊢
   rw [ofF, if_neg h2]; rfl
 have h1 : chk2 a b = 0 := by simpa using h1
 obtain ⟨hca, hcb⟩ : checkF a = 0 ∧ checkF b = 0 := by
  unfold chk2 at h1
  by_cases h2 : checkF a = 0
  ·rw [if_pos h2] at h1; exact ⟨h2, h1⟩
  ·rw [if_neg h2] at h1; exact absurd h1 h2
 have hof : ofF a b = (pairsOf a b, 0) := by rw [ofF, if_pos hca, if_pos hcb]
 rw [hof]
 obtain ⟨MA, hMA⟩ : ∃ MA : Blk, MA = .map (some .i64) (kidM a) := ⟨_, rfl⟩
 obtain ⟨MB, hMB⟩ : ∃ MB : Blk, MB = .map (some .i64) (kidM b) := ⟨_, rfl⟩
 have hMAr : ∀ ρ σ, renB ρ σ MA = MA := fun ρ σ => by rw [hMA, kidM_ren]
 have hMBr : ∀ ρ σ, renB ρ σ MB = MB := fun ρ σ => by rw [hMB, kidM_ren]
 refine ⟨.inr (.inr (.inr (evFree_can
  (fun L => [(7, onV (L 14) (.ptr 0 0)), (32, onV (L 13) (.ptr 0 0)), (31, onV (L 12) (.agg [.d (.sl (a.map NodeT.toD)), .mapr 1, .d (.sl (b.map NodeT.toD)), .mapr 2, .osl 3 0 a.length, .osl 4 0 b.length, .mapr 5])), (30, onV (L 11) (.mapr 5)), (29, onV (L 10) (.osl 4 0 b.length)), (28, onV (L 9) (.d (.int .i64 b.length))), (27, onV (L 8) (.d (.sl (b.map NodeT.toD)))), (26, onV (L 7) (.osl 3 0 a.length)), (25, onV (L 6) (.d (.int .i64 a.length))), (24, onV (L 5) (.d (.sl (a.map NodeT.toD)))), (23, vf (L 4) (L 7)), (22, onV (L 3) (.agg [.d (.sl (b.map NodeT.toD)), .mapr 2])), (21, onV (L 2) (.d (.sl (b.map NodeT.toD)))), (20, onV (L 1) (.agg [.d (.sl (a.map NodeT.toD)), .mapr 1])), (19, onV (L 0) (.d (.sl (a.map NodeT.toD)))), (0, .d (.sl (a.map NodeT.toD))), (1, .d (.sl (b.map NodeT.toD)))])
  (fun L => [onB (L 13) (.box 7 (.agg [.d (.sl (a.map NodeT.toD)), .mapr 1, .d (.sl (b.map NodeT.toD)), .mapr 2, .osl 3 0 a.length, .osl 4 0 b.length, .mapr 5])), onB (L 1) MA, onB (L 3) MB, onB (L 7) (.arr 1 ((List.replicate a.length (-1 : Int)).map (.int .i64))), onB (L 10) (.arr 1 (List.replicate b.length (.bool false))), onB (L 11) (.map (some .i64) fun _ => none), onB (L 4 && !L 7) (.arr 1 [.int .i64 (-1)])]) (by kernel_rfl) ?_ ?_ ?_))), ?_⟩
 ·refine weak_to [] [0, 1, 2, 3, 4, 5, 6] rfl (by simp) ?_ rfl
  rfl
 ·simp only [stepsL]
  refine ⟨?_, ?_, ?_, ?_, ?_, ?_, ?_, ?_, ?_, ?_, ?_, ?_, ?_, ?_, ?_, trivial⟩
  ·intro L hc hL hp
   have h1 : L 1 = false := nope hL fun h => predsL_on (hc 1 _ rfl h) 0 (by kernel_rfl)
   have h3 : L 3 = false := nope h1 fun h => predsL_on (hc 3 _ rfl h) 1 (by kernel_rfl)
   have h7 : L 7 = false := nope h3 fun h => predsL_on (hc 7 _ rfl h) 3 (by kernel_rfl)
   have h12 : L 12 = false := nope h1 fun h => predsL_on (hc 12 _ rfl h) 1 (by kernel_rfl)
   have h13 : L 13 = false := nope h12 fun h => predsL_on (hc 13 _ rfl h) 12 (by kernel_rfl)
   have h14 : L 14 = false := nope hL fun h => predsL_on (hc 14 _ rfl h) 0 (by kernel_rfl)
   (simp only [predsL, Region.binds, md_any, Bool.false_eq_true, false_imp_iff, true_imp_iff, and_true, true_and] at hp; (try simp only [Nat.zero_add, Nat.reduceAdd] at hL); simp only [zN, seval, implies_true, Nat.reduceLeDiff, Nat.reduceEqDiff, reduceCtorEq, reduceIte, intD, hL, hp, h1, h3, h7, h12, h13, h14, onV_t, onB_t, onV_f, onB_f, updB, Bool.and_true, Bool.true_and, Bool.false_and, Bool.and_false, Bool.not_true, Bool.not_false, vf_t, vf_f])
   repeat ((with_reducible refine And.intro ?_ ?_); (focus (first | omega | (simp only [lenR]; omega) | (refine qq ?_; rfl) | (refine dq ?_; kernel_rfl) | (intros; simp_all; done))))
   refine weak_sub ?_
   simp only [zN, seval, implies_true, Nat.reduceLeDiff, Nat.reduceEqDiff, reduceCtorEq, reduceIte, intD, onV_t, onV_f]
  ·intro L hc hL hp
   have h3 : L 3 = false := nope hL fun h => predsL_on (hc 3 _ rfl h) 1 (by kernel_rfl)
   have h7 : L 7 = false := nope h3 fun h => predsL_on (hc 7 _ rfl h) 3 (by kernel_rfl)
   have h12 : L 12 = false := nope hL fun h => predsL_on (hc 12 _ rfl h) 1 (by kernel_rfl)
   have h13 : L 13 = false := nope h12 fun h => predsL_on (hc 13 _ rfl h) 12 (by kernel_rfl)
   have h14 : L 14 = false := nope hL fun h => predsL_on (hc 14 _ rfl h) 1 (by kernel_rfl)
   (simp only [predsL, Region.binds, md_any, Bool.false_eq_true, false_imp_iff, true_imp_iff, and_true, true_and] at hp; (try simp only [Nat.zero_add, Nat.reduceAdd] at hL); simp only [zN, seval, implies_true, Nat.reduceLeDiff, Nat.reduceEqDiff, reduceCtorEq, reduceIte, intD, hL, hp, h3, h7, h12, h13, h14, onV_t, onB_t, onV_f, onB_f, updB, Bool.and_true, Bool.true_and, Bool.false_and, Bool.and_false, Bool.not_true, Bool.not_false, vf_t, vf_f])
   repeat ((with_reducible refine And.intro ?_ ?_); (focus (first | omega | (simp only [lenR]; omega) | (refine qq ?_; rfl) | (refine dq ?_; kernel_rfl) | (intros; simp_all; done))))
   refine callF_go ((ACalls.under [] (by simp) (by simp) (k_grow a (by omega) (checkF_ok hca).2.2.2.1)).mono fun r s hrs => ?_)
   obtain ⟨r0, s0, ⟨rfl, rfl⟩, rfl, rfl⟩ := hrs
   rw [back_fresh _ _ (kidM_back a _), back_tree, ← hMA]
   simp only [zN, seval, implies_true, Nat.reduceLeDiff, Nat.reduceEqDiff, reduceCtorEq, reduceIte, intD]
   refine weak_to [] [0, 7, 2, 3, 4, 5, 6] rfl (by simp) ?_ (by first | (simp only [zN, seval, implies_true, Nat.reduceLeDiff, Nat.reduceEqDiff, reduceCtorEq, reduceIte, intD, renB_onB, hMAr, hMBr]; done) | (simp only [zN, seval, implies_true, Nat.reduceLeDiff, Nat.reduceEqDiff, reduceCtorEq, reduceIte, intD, renB_onB, hMAr, hMBr]; rfl))
   simp only [zN, seval, implies_true, Nat.reduceLeDiff, Nat.reduceEqDiff, reduceCtorEq, reduceIte, intD, renV_onV, renB_onB, renV_undef, onV_f, onV_t, vf_t, vf_f, renV_vf _ _ (show idxIn [0, 7, 2, 3, 4, 5, 6] 6 = some 6 from rfl)]
   try rfl
  ·intro L hc hL hp
   have h3 : L 3 = false := nope hL fun h => predsL_on (hc 3 _ rfl h) 2 (by kernel_rfl)
   have h7 : L 7 = false := nope h3 fun h => predsL_on (hc 7 _ rfl h) 3 (by kernel_rfl)
   have h12 : L 12 = false := nope h3 fun h => predsL_on (hc 12 _ rfl h) 3 (by kernel_rfl)
   have h13 : L 13 = false := nope h12 fun h => predsL_on (hc 13 _ rfl h) 12 (by kernel_rfl)
   have h14 : L 14 = false := nope hL fun h => predsL_on (hc 14 _ rfl h) 2 (by kernel_rfl)
   (simp only [predsL, Region.binds, md_any, Bool.false_eq_true, false_imp_iff, true_imp_iff, and_true, true_and] at hp; (try simp only [Nat.zero_add, Nat.reduceAdd] at hL); simp only [zN, seval, implies_true, Nat.reduceLeDiff, Nat.reduceEqDiff, reduceCtorEq, reduceIte, intD, hL, hp, h3, h7, h12, h13, h14, onV_t, onB_t, onV_f, onB_f, updB, Bool.and_true, Bool.true_and, Bool.false_and, Bool.and_false, Bool.not_true, Bool.not_false, vf_t, vf_f])
   repeat ((with_reducible refine And.intro ?_ ?_); (focus (first | omega | (simp only [lenR]; omega) | (refine qq ?_; rfl) | (refine dq ?_; kernel_rfl) | (intros; simp_all; done))))
   refine weak_sub ?_
   simp only [zN, seval, implies_true, Nat.reduceLeDiff, Nat.reduceEqDiff, reduceCtorEq, reduceIte, intD, onV_t, onV_f]
  ·intro L hc hL hp
   have h7 : L 7 = false := nope hL fun h => predsL_on (hc 7 _ rfl h) 3 (by kernel_rfl)
   have h12 : L 12 = false := nope hL fun h => predsL_on (hc 12 _ rfl h) 3 (by kernel_rfl)
   have h13 : L 13 = false := nope h12 fun h => predsL_on (hc 13 _ rfl h) 12 (by kernel_rfl)
   have h14 : L 14 = false := nope hL fun h => predsL_on (hc 14 _ rfl h) 3 (by kernel_rfl)
   (simp only [predsL, Region.binds, md_any, Bool.false_eq_true, false_imp_iff, true_imp_iff, and_true, true_and] at hp; (try simp only [Nat.zero_add, Nat.reduceAdd] at hL); simp only [zN, seval, implies_true, Nat.reduceLeDiff, Nat.reduceEqDiff, reduceCtorEq, reduceIte, intD, hL, hp, h7, h12, h13, h14, onV_t, onB_t, onV_f, onB_f, updB, Bool.and_true, Bool.true_and, Bool.false_and, Bool.and_false, Bool.not_true, Bool.not_false, vf_t, vf_f])
   repeat ((with_reducible refine And.intro ?_ ?_); (focus (first | omega | (simp only [lenR]; omega) | (refine qq ?_; rfl) | (refine dq ?_; kernel_rfl) | (intros; simp_all; done))))
   refine callF_go ((ACalls.under [] (by simp) (by simp) (k_grow b (by omega) (checkF_ok hcb).2.2.2.1)).mono fun r s hrs => ?_)
   obtain ⟨r0, s0, ⟨rfl, rfl⟩, rfl, rfl⟩ := hrs
   rw [back_fresh _ _ (kidM_back b _), back_tree, ← hMB]
   simp only [zN, seval, implies_true, Nat.reduceLeDiff, Nat.reduceEqDiff, reduceCtorEq, reduceIte, intD]
   refine weak_to [] [0, 1, 7, 3, 4, 5, 6] rfl (by simp) ?_ (by first | (simp only [zN, seval, implies_true, Nat.reduceLeDiff, Nat.reduceEqDiff, reduceCtorEq, reduceIte, intD, renB_onB, hMAr, hMBr]; done) | (simp only [zN, seval, implies_true, Nat.reduceLeDiff, Nat.reduceEqDiff, reduceCtorEq, reduceIte, intD, renB_onB, hMAr, hMBr]; rfl))
   simp only [zN, seval, implies_true, Nat.reduceLeDiff, Nat.reduceEqDiff, reduceCtorEq, reduceIte, intD, renV_onV, renB_onB, renV_undef, onV_f, onV_t, vf_t, vf_f, renV_vf _ _ (show idxIn [0, 1, 7, 3, 4, 5, 6] 6 = some 6 from rfl)]
   try rfl
  ·intro L hc hL hp
   have h7 : L 7 = false := nope hL fun h => predsL_on (hc 7 _ rfl h) 4 (by kernel_rfl)
   have h12 : L 12 = false := nope h7 fun h => predsL_on (hc 12 _ rfl h) 7 (by kernel_rfl)
   have h13 : L 13 = false := nope h12 fun h => predsL_on (hc 13 _ rfl h) 12 (by kernel_rfl)
   have h14 : L 14 = false := nope hL fun h => predsL_on (hc 14 _ rfl h) 4 (by kernel_rfl)
   (simp only [predsL, Region.binds, md_any, Bool.false_eq_true, false_imp_iff, true_imp_iff, and_true, true_and] at hp; (try simp only [Nat.zero_add, Nat.reduceAdd] at hL); simp only [zN, seval, implies_true, Nat.reduceLeDiff, Nat.reduceEqDiff, reduceCtorEq, reduceIte, intD, hL, hp, h7, h12, h13, h14, onV_t, onB_t, onV_f, onB_f, updB, Bool.and_true, Bool.true_and, Bool.false_and, Bool.and_false, Bool.not_true, Bool.not_false, vf_t, vf_f])
   repeat ((with_reducible refine And.intro ?_ ?_); (focus (first | omega | (simp only [lenR]; omega) | (refine qq ?_; rfl) | (refine dq ?_; kernel_rfl) | (intros; simp_all; done))))
   refine weak_to [] [0, 1, 2, 3, 4, 5, 7] rfl (by simp) ?_ (by first | (simp only [zN, seval, implies_true, Nat.reduceLeDiff, Nat.reduceEqDiff, reduceCtorEq, reduceIte, intD, renB_onB, hMAr, hMBr]; done) | (simp only [zN, seval, implies_true, Nat.reduceLeDiff, Nat.reduceEqDiff, reduceCtorEq, reduceIte, intD, renB_onB, hMAr, hMBr]; rfl))
   simp only [zN, seval, implies_true, Nat.reduceLeDiff, Nat.reduceEqDiff, reduceCtorEq, reduceIte, intD, renV_onV, renB_onB, renV_undef, onV_f, onV_t, vf_t, vf_f]
   try rfl
  ·intro L hc hL hp
   have h6 : L 6 = false := nope hL fun h => predsL_on (hc 6 _ rfl h) 5 (by kernel_rfl)
   have h7 : L 7 = false := nope h6 fun h => predsL_on (hc 7 _ rfl h) 6 (by kernel_rfl)
   have h12 : L 12 = false := nope h7 fun h => predsL_on (hc 12 _ rfl h) 7 (by kernel_rfl)
   have h13 : L 13 = false := nope h12 fun h => predsL_on (hc 13 _ rfl h) 12 (by kernel_rfl)
   have h14 : L 14 = false := nope hL fun h => predsL_on (hc 14 _ rfl h) 5 (by kernel_rfl)
   (simp only [predsL, Region.binds, md_any, Bool.false_eq_true, false_imp_iff, true_imp_iff, and_true, true_and] at hp; (try simp only [Nat.zero_add, Nat.reduceAdd] at hL); simp only [zN, seval, implies_true, Nat.reduceLeDiff, Nat.reduceEqDiff, reduceCtorEq, reduceIte, intD, hL, hp, h6, h7, h12, h13, h14, onV_t, onB_t, onV_f, onB_f, updB, Bool.and_true, Bool.true_and, Bool.false_and, Bool.and_false, Bool.not_true, Bool.not_false, vf_t, vf_f])
   repeat ((with_reducible refine And.intro ?_ ?_); (focus (first | omega | (simp only [lenR]; omega) | (refine qq ?_; rfl) | (refine dq ?_; kernel_rfl) | (intros; simp_all; done))))
   refine weak_sub ?_
   simp only [zN, seval, implies_true, Nat.reduceLeDiff, Nat.reduceEqDiff, reduceCtorEq, reduceIte, intD, onV_t, onV_f]
  ·intro L hc hL hp
   have h7 : L 7 = false := nope hL fun h => predsL_on (hc 7 _ rfl h) 6 (by kernel_rfl)
   have h12 : L 12 = false := nope h7 fun h => predsL_on (hc 12 _ rfl h) 7 (by kernel_rfl)
   have h13 : L 13 = false := nope h12 fun h => predsL_on (hc 13 _ rfl h) 12 (by kernel_rfl)
   have h14 : L 14 = false := nope hL fun h => predsL_on (hc 14 _ rfl h) 6 (by kernel_rfl)
   (simp only [predsL, Region.binds, md_any, Bool.false_eq_true, false_imp_iff, true_imp_iff, and_true, true_and] at hp; (try simp only [Nat.zero_add, Nat.reduceAdd] at hL); simp only [zN, seval, implies_true, Nat.reduceLeDiff, Nat.reduceEqDiff, reduceCtorEq, reduceIte, intD, hL, hp, h7, h12, h13, h14, onV_t, onB_t, onV_f, onB_f, updB, Bool.and_true, Bool.true_and, Bool.false_and, Bool.and_false, Bool.not_true, Bool.not_false, vf_t, vf_f])
   repeat ((with_reducible refine And.intro ?_ ?_); (focus (first | omega | (simp only [lenR]; omega) | (refine qq ?_; rfl) | (refine dq ?_; kernel_rfl) | (intros; simp_all; done))))
   refine weak_sub ?_
   simp only [zN, seval, implies_true, Nat.reduceLeDiff, Nat.reduceEqDiff, reduceCtorEq, reduceIte, intD, onV_t, onV_f]
  ·intro L hc hL hp
   have h12 : L 12 = false := nope hL fun h => predsL_on (hc 12 _ rfl h) 7 (by kernel_rfl)
   have h13 : L 13 = false := nope h12 fun h => predsL_on (hc 13 _ rfl h) 12 (by kernel_rfl)
   have h14 : L 14 = false := nope hL fun h => predsL_on (hc 14 _ rfl h) 7 (by kernel_rfl)
   (simp only [predsL, Region.binds, md_any, Bool.false_eq_true, false_imp_iff, true_imp_iff, and_true, true_and] at hp; (try simp only [Nat.zero_add, Nat.reduceAdd] at hL); simp only [zN, seval, implies_true, Nat.reduceLeDiff, Nat.reduceEqDiff, reduceCtorEq, reduceIte, intD, hL, hp, h12, h13, h14, onV_t, onB_t, onV_f, onB_f, updB, Bool.and_true, Bool.true_and, Bool.false_and, Bool.and_false, Bool.not_true, Bool.not_false, vf_t, vf_f])
   repeat ((with_reducible refine And.intro ?_ ?_); (focus (first | omega | (simp only [lenR]; omega) | (refine qq ?_; rfl) | (refine dq ?_; kernel_rfl) | (intros; simp_all; done))))
   refine callF_go (ACalls.data ?_)
   show ACalls _ _ _ [.d (.sl [.int .i64 (-1)]), .d (.int .i64 a.length)] [Blk.dead, onB (L 1) MA, MB, Blk.dead, onB (L 10) (.arr 1 (List.replicate b.length (.bool false))), onB (L 11) (.map (some .i64) fun _ => none), .frz 1 [.int .i64 (-1)]] _
   refine (ACalls.under (args := [.d (.sl [.int .i64 (-1)]), .d (.int .i64 a.length)]) [] (by simp) (by simp) (k_Repeat a.length (by omega))).mono fun r s hrs => ?_
   obtain ⟨r0, s0, ⟨rfl, rfl⟩, rfl, rfl⟩ := hrs
   rw [back_fresh _ _ rfl, back_osl]
   simp only [zN, seval, implies_true, Nat.reduceLeDiff, Nat.reduceEqDiff, reduceCtorEq, reduceIte, intD]
   refine weak_to [] [0, 1, 2, 7, 4, 5, 8] rfl (by simp) ?_ (by first | (simp only [zN, seval, implies_true, Nat.reduceLeDiff, Nat.reduceEqDiff, reduceCtorEq, reduceIte, intD, renB_onB, hMAr, hMBr]; done) | (simp only [zN, seval, implies_true, Nat.reduceLeDiff, Nat.reduceEqDiff, reduceCtorEq, reduceIte, intD, renB_onB, hMAr, hMBr]; rfl))
   simp only [zN, seval, implies_true, Nat.reduceLeDiff, Nat.reduceEqDiff, reduceCtorEq, reduceIte, intD, renV_onV, renB_onB, renV_undef, onV_f, onV_t, vf_t, vf_f]
   try rfl
  ·intro L hc hL hp
   have h9 : L 9 = false := nope hL fun h => predsL_on (hc 9 _ rfl h) 8 (by kernel_rfl)
   have h10 : L 10 = false := nope h9 fun h => predsL_on (hc 10 _ rfl h) 9 (by kernel_rfl)
   have h12 : L 12 = false := nope h10 fun h => predsL_on (hc 12 _ rfl h) 10 (by kernel_rfl)
   have h13 : L 13 = false := nope h12 fun h => predsL_on (hc 13 _ rfl h) 12 (by kernel_rfl)
   have h14 : L 14 = false := nope hL fun h => predsL_on (hc 14 _ rfl h) 8 (by kernel_rfl)
   (simp only [predsL, Region.binds, md_any, Bool.false_eq_true, false_imp_iff, true_imp_iff, and_true, true_and] at hp; (try simp only [Nat.zero_add, Nat.reduceAdd] at hL); simp only [zN, seval, implies_true, Nat.reduceLeDiff, Nat.reduceEqDiff, reduceCtorEq, reduceIte, intD, hL, hp, h9, h10, h12, h13, h14, onV_t, onB_t, onV_f, onB_f, updB, Bool.and_true, Bool.true_and, Bool.false_and, Bool.and_false, Bool.not_true, Bool.not_false, vf_t, vf_f])
   repeat ((with_reducible refine And.intro ?_ ?_); (focus (first | omega | (simp only [lenR]; omega) | (refine qq ?_; rfl) | (refine dq ?_; kernel_rfl) | (intros; simp_all; done))))
   refine weak_sub ?_
   simp only [zN, seval, implies_true, Nat.reduceLeDiff, Nat.reduceEqDiff, reduceCtorEq, reduceIte, intD, onV_t, onV_f]
  ·intro L hc hL hp
   have h10 : L 10 = false := nope hL fun h => predsL_on (hc 10 _ rfl h) 9 (by kernel_rfl)
   have h12 : L 12 = false := nope h10 fun h => predsL_on (hc 12 _ rfl h) 10 (by kernel_rfl)
   have h13 : L 13 = false := nope h12 fun h => predsL_on (hc 13 _ rfl h) 12 (by kernel_rfl)
   have h14 : L 14 = false := nope hL fun h => predsL_on (hc 14 _ rfl h) 9 (by kernel_rfl)
   (simp only [predsL, Region.binds, md_any, Bool.false_eq_true, false_imp_iff, true_imp_iff, and_true, true_and] at hp; (try simp only [Nat.zero_add, Nat.reduceAdd] at hL); simp only [zN, seval, implies_true, Nat.reduceLeDiff, Nat.reduceEqDiff, reduceCtorEq, reduceIte, intD, hL, hp, h10, h12, h13, h14, onV_t, onB_t, onV_f, onB_f, updB, Bool.and_true, Bool.true_and, Bool.false_and, Bool.and_false, Bool.not_true, Bool.not_false, vf_t, vf_f])
   repeat ((with_reducible refine And.intro ?_ ?_); (focus (first | omega | (simp only [lenR]; omega) | (refine qq ?_; rfl) | (refine dq ?_; kernel_rfl) | (intros; simp_all; done))))
   refine weak_sub ?_
   simp only [zN, seval, implies_true, Nat.reduceLeDiff, Nat.reduceEqDiff, reduceCtorEq, reduceIte, intD, onV_t, onV_f]
  ·intro L hc hL hp
   have h12 : L 12 = false := nope hL fun h => predsL_on (hc 12 _ rfl h) 10 (by kernel_rfl)
   have h13 : L 13 = false := nope h12 fun h => predsL_on (hc 13 _ rfl h) 12 (by kernel_rfl)
   have h14 : L 14 = false := nope hL fun h => predsL_on (hc 14 _ rfl h) 10 (by kernel_rfl)
   (simp only [predsL, Region.binds, md_any, Bool.false_eq_true, false_imp_iff, true_imp_iff, and_true, true_and] at hp; (try simp only [Nat.zero_add, Nat.reduceAdd] at hL); simp only [zN, seval, implies_true, Nat.reduceLeDiff, Nat.reduceEqDiff, reduceCtorEq, reduceIte, intD, hL, hp, h12, h13, h14, onV_t, onB_t, onV_f, onB_f, updB, Bool.and_true, Bool.true_and, Bool.false_and, Bool.and_false, Bool.not_true, Bool.not_false, vf_t, vf_f])
   simp only [zN, seval, implies_true, Nat.reduceLeDiff, Nat.reduceEqDiff, reduceCtorEq, reduceIte, intD, mk_bools b.length (by omega), mkS_bools]
   repeat ((with_reducible refine And.intro ?_ ?_); (focus (first | omega | (simp only [lenR]; omega) | (refine qq ?_; rfl) | (refine dq ?_; kernel_rfl) | (intros; simp_all; done))))
   refine weak_to [] [0, 1, 2, 3, 7, 5, 6] rfl (by simp) ?_ (by first | (simp only [zN, seval, implies_true, Nat.reduceLeDiff, Nat.reduceEqDiff, reduceCtorEq, reduceIte, intD, renB_onB, hMAr, hMBr]; done) | (simp only [zN, seval, implies_true, Nat.reduceLeDiff, Nat.reduceEqDiff, reduceCtorEq, reduceIte, intD, renB_onB, hMAr, hMBr]; rfl))
   simp only [zN, seval, implies_true, Nat.reduceLeDiff, Nat.reduceEqDiff, reduceCtorEq, reduceIte, intD, renV_onV, renB_onB, renV_undef, onV_f, onV_t, vf_t, vf_f, renV_vf _ _ (show idxIn [0, 1, 2, 3, 7, 5, 6] 6 = some 6 from rfl)]
   try rfl
  ·intro L hc hL hp
   have h12 : L 12 = false := nope hL fun h => predsL_on (hc 12 _ rfl h) 11 (by kernel_rfl)
   have h13 : L 13 = false := nope h12 fun h => predsL_on (hc 13 _ rfl h) 12 (by kernel_rfl)
   have h14 : L 14 = false := nope hL fun h => predsL_on (hc 14 _ rfl h) 11 (by kernel_rfl)
   (simp only [predsL, Region.binds, md_any, Bool.false_eq_true, false_imp_iff, true_imp_iff, and_true, true_and] at hp; (try simp only [Nat.zero_add, Nat.reduceAdd] at hL); simp only [zN, seval, implies_true, Nat.reduceLeDiff, Nat.reduceEqDiff, reduceCtorEq, reduceIte, intD, hL, hp, h12, h13, h14, onV_t, onB_t, onV_f, onB_f, updB, Bool.and_true, Bool.true_and, Bool.false_and, Bool.and_false, Bool.not_true, Bool.not_false, vf_t, vf_f])
   repeat ((with_reducible refine And.intro ?_ ?_); (focus (first | omega | (simp only [lenR]; omega) | (refine qq ?_; rfl) | (refine dq ?_; kernel_rfl) | (intros; simp_all; done))))
   refine weak_to [] [0, 1, 2, 3, 4, 7, 6] rfl (by simp) ?_ (by first | (simp only [zN, seval, implies_true, Nat.reduceLeDiff, Nat.reduceEqDiff, reduceCtorEq, reduceIte, intD, renB_onB, hMAr, hMBr]; done) | (simp only [zN, seval, implies_true, Nat.reduceLeDiff, Nat.reduceEqDiff, reduceCtorEq, reduceIte, intD, renB_onB, hMAr, hMBr]; rfl))
   simp only [zN, seval, implies_true, Nat.reduceLeDiff, Nat.reduceEqDiff, reduceCtorEq, reduceIte, intD, renV_onV, renB_onB, renV_undef, onV_f, onV_t, vf_t, vf_f, renV_vf _ _ (show idxIn [0, 1, 2, 3, 4, 7, 6] 6 = some 6 from rfl)]
   try rfl
  ·intro L hc hL hp
   have h13 : L 13 = false := nope hL fun h => predsL_on (hc 13 _ rfl h) 12 (by kernel_rfl)
   have h14 : L 14 = false := nope hL fun h => predsL_on (hc 14 _ rfl h) 12 (by kernel_rfl)
   (simp only [predsL, Region.binds, md_any, Bool.false_eq_true, false_imp_iff, true_imp_iff, and_true, true_and] at hp; (try simp only [Nat.zero_add, Nat.reduceAdd] at hL); simp only [zN, seval, implies_true, Nat.reduceLeDiff, Nat.reduceEqDiff, reduceCtorEq, reduceIte, intD, hL, hp, h13, h14, onV_t, onB_t, onV_f, onB_f, updB, Bool.and_true, Bool.true_and, Bool.false_and, Bool.and_false, Bool.not_true, Bool.not_false, vf_t, vf_f])
   repeat ((with_reducible refine And.intro ?_ ?_); (focus (first | omega | (simp only [lenR]; omega) | (refine qq ?_; rfl) | (refine dq ?_; kernel_rfl) | (intros; simp_all; done))))
   refine weak_sub ?_
   simp only [zN, seval, implies_true, Nat.reduceLeDiff, Nat.reduceEqDiff, reduceCtorEq, reduceIte, intD, onV_t, onV_f]
  ·intro L hc hL hp
   have h14 : L 14 = false := nope hL fun h => predsL_on (hc 14 _ rfl h) 13 (by kernel_rfl)
   (simp only [predsL, Region.binds, md_any, Bool.false_eq_true, false_imp_iff, true_imp_iff, and_true, true_and] at hp; (try simp only [Nat.zero_add, Nat.reduceAdd] at hL); simp only [zN, seval, implies_true, Nat.reduceLeDiff, Nat.reduceEqDiff, reduceCtorEq, reduceIte, intD, hL, hp, h14, onV_t, onB_t, onV_f, onB_f, updB, Bool.and_true, Bool.true_and, Bool.false_and, Bool.and_false, Bool.not_true, Bool.not_false, vf_t, vf_f])
   repeat ((with_reducible refine And.intro ?_ ?_); (focus (first | omega | (simp only [lenR]; omega) | (refine qq ?_; rfl) | (refine dq ?_; kernel_rfl) | (intros; simp_all; done))))
   refine weak_to [] [7, 1, 2, 3, 4, 5, 6] rfl (by simp) ?_ (by first | (simp only [zN, seval, implies_true, Nat.reduceLeDiff, Nat.reduceEqDiff, reduceCtorEq, reduceIte, intD, renB_onB, hMAr, hMBr]; done) | (simp only [zN, seval, implies_true, Nat.reduceLeDiff, Nat.reduceEqDiff, reduceCtorEq, reduceIte, intD, renB_onB, hMAr, hMBr]; rfl))
   simp only [zN, seval, implies_true, Nat.reduceLeDiff, Nat.reduceEqDiff, reduceCtorEq, reduceIte, intD, renV_onV, renB_onB, renV_undef, onV_f, onV_t, vf_t, vf_f, renV_vf _ _ (show idxIn [7, 1, 2, 3, 4, 5, 6] 6 = some 6 from rfl)]
   try rfl
  ·intro L hc hL hp
   (simp only [predsL, Region.binds, md_any, Bool.false_eq_true, false_imp_iff, true_imp_iff, and_true, true_and] at hp; (try simp only [Nat.zero_add, Nat.reduceAdd] at hL); simp only [zN, seval, implies_true, Nat.reduceLeDiff, Nat.reduceEqDiff, reduceCtorEq, reduceIte, intD, hL, hp, onV_t, onB_t, onV_f, onB_f, updB, Bool.and_true, Bool.true_and, Bool.false_and, Bool.and_false, Bool.not_true, Bool.not_false, vf_t, vf_f])
   repeat ((with_reducible refine And.intro ?_ ?_); (focus (first | omega | (simp only [lenR]; omega) | (refine qq ?_; rfl) | (refine dq ?_; kernel_rfl) | (intros; simp_all; done))))
   refine weak_sub ?_
   simp only [zN, seval, implies_true, Nat.reduceLeDiff, Nat.reduceEqDiff, reduceCtorEq, reduceIte, intD, onV_t, onV_f]
 ·simp only [zN, seval, implies_true, Nat.reduceLeDiff, Nat.reduceEqDiff, reduceCtorEq, reduceIte, intD, onV_t, onB_t, onB_f, Bool.and_true, Bool.not_true, vf_t]
  repeat ((with_reducible refine And.intro ?_ ?_); (focus (first | omega | (simp only [lenR]; omega) | (refine qq ?_; rfl) | (refine dq ?_; kernel_rfl) | (intros; simp_all; done))))
  have est : [Blk.box 7 (.agg [.d (.sl (a.map NodeT.toD)), .mapr 1, .d (.sl (b.map NodeT.toD)), .mapr 2, .osl 3 0 a.length, .osl 4 0 b.length, .mapr 5]), MA, MB, .arr 1 ((List.replicate a.length (-1 : Int)).map (.int .i64)), .arr 1 (List.replicate b.length (.bool false)), .map (some .i64) fun _ => none, .dead] = stP a b (iniS a.length b.length) (fun _ => false) ++ [.dead] := by
   rw [hMA, hMB, stP, memM_none, tkB]
   simp [iniS]
  rw [est]
  have hg0 : Ge (iniS a.length b.length) := fun p => by rw [ini_b]; omega
  have hk := k_align (Gl := Gl) a b ha hb hca hcb (a.length + 1) (-1) (-1) (iniS a.length b.length) (fun _ => false) (by omega) (by omega) (by omega) (ini_sz a b) hg0
  refine callF_go ((onP1' hk (args := [.ptr 0 0, .d (.int .i64 (-1)), .d (.int .i64 (-1))]) rfl).mono fun r s hrs => ?_)
  obtain ⟨r0, s0, ⟨rfl, m1, rfl⟩, rfl, rfl⟩ := hrs
  rw [stP_back1']
  obtain ⟨t, ht⟩ : ∃ t, t = finS a b := ⟨_, rfl⟩
  have ht2 : alignF a b (a.length + 1) (-1) (-1) (iniS a.length b.length) = t := ht.symm
  have hzt : Sz a b t := by rw [ht]; exact sz_align _ _ _ (ini_sz a b)
  rw [ht2]
  obtain ⟨MM, hMM⟩ : ∃ MM : Blk, MM = .map (some .i64) (memM b m1) := ⟨_, rfl⟩
  have hMMr : ∀ ρ σ, renB ρ σ MM = MM := fun ρ σ => by rw [hMM, memM_ren]
  have est2 : stP a b t m1 ++ [.dead] = [Blk.box 7 (.agg [.d (.sl (a.map NodeT.toD)), .mapr 1, .d (.sl (b.map NodeT.toD)), .mapr 2, .osl 3 0 a.length, .osl 4 0 b.length, .mapr 5]), MA, MB, .arr 1 (t.toB.map (.int .i64)), .arr 1 (tkB t), MM, .dead] := by
   rw [hMA, hMB, hMM]; rfl
  rw [est2]
  clear est est2 hk ht2 hMM hMA hMB
  have hpo : pairsOf a b = pairsC t a.length b.length := by rw [pairsOf, ← ht]; rfl
  rw [hpo]
  simp only [zN, seval, implies_true, Nat.reduceLeDiff, Nat.reduceEqDiff, reduceCtorEq, reduceIte, intD]
  repeat ((with_reducible refine And.intro ?_ ?_); (focus (first | omega | (simp only [lenR]; omega) | (refine qq ?_; rfl) | (refine dq ?_; kernel_rfl) | (intros; simp_all; done))))
  refine for_of a.length (fun j => [(7, .ptr 0 0), (8, .osl 7 0 (pairsA t j).length), (38, .osl 3 0 a.length), (39, .d (.int .i64 a.length)), (40, .d (.int .i64 j))]) (fun j => [.box 7 (.agg [.d (.sl (a.map NodeT.toD)), .mapr 1, .d (.sl (b.map NodeT.toD)), .mapr 2, .osl 3 0 a.length, .osl 4 0 b.length, .mapr 5]), MA, MB, .arr 1 (t.toB.map (.int .i64)), .arr 1 (tkB t), MM, .dead, .arr 2 ((pairsA t j).map PairT.toD)]) (fun _ => True) trivial ?_ ?_
  ·refine (weak_nils 8 2 rfl).trans ?_
   refine weak_to [] [0, 1, 2, 3, 4, 5, 6, 7] rfl (by simp) ?_ (by first | (simp only [zN, seval, implies_true, Nat.reduceLeDiff, Nat.reduceEqDiff, reduceCtorEq, reduceIte, intD, hMAr, hMBr, hMMr]; done) | (simp only [zN, seval, implies_true, Nat.reduceLeDiff, Nat.reduceEqDiff, reduceCtorEq, reduceIte, intD, hMAr, hMBr, hMMr]; rfl))
   simp only [zN, seval, implies_true, Nat.reduceLeDiff, Nat.reduceEqDiff, reduceCtorEq, reduceIte, intD, Int.cast_ofNat_Int]
   try rfl
  ·intro j _ hjl
   have hlen := pairsA_len t j
   by_cases hj : j < a.length
   ·have hst := pairsA_step t j
    have gb := b_get (s := t) (p := j) (by rw [hzt.1]; exact hj)
    have hjt : j < t.toB.length := by rw [hzt.1]; exact hj
    have hsl : (pairsA t (j + 1)).length = (pairsA t j).length + 1 := by rw [hst]; simp
    have hm : (pairsA t (j + 1)).map PairT.toD = List.take (pairsA t j).length ((pairsA t j).map PairT.toD) ++ [.agg [.int .i64 j, .int .i64 (t.b j)]] := by
     rw [hst, List.map_append, take_all]; rfl
    simp only [zN, seval, implies_true, Nat.reduceLeDiff, Nat.reduceEqDiff, reduceCtorEq, reduceIte, intD, (show (j:Int) < a.length by omega), gb, hjt]
    repeat ((with_reducible refine And.intro ?_ ?_); (focus (first | omega | (simp only [lenR]; omega) | (refine qq ?_; rfl) | (refine dq ?_; kernel_rfl) | (intros; simp_all; done))))
    rw [hsl, hm]
    refine weak_to [] [0, 1, 2, 3, 4, 5, 6, 9] rfl (by simp) ?_ (by first | (simp only [zN, seval, implies_true, Nat.reduceLeDiff, Nat.reduceEqDiff, reduceCtorEq, reduceIte, intD, hMAr, hMBr, hMMr]; done) | (simp only [zN, seval, implies_true, Nat.reduceLeDiff, Nat.reduceEqDiff, reduceCtorEq, reduceIte, intD, hMAr, hMBr, hMMr]; rfl))
    simp only [zN, seval, implies_true, Nat.reduceLeDiff, Nat.reduceEqDiff, reduceCtorEq, reduceIte, intD, @a_wrap ((j:Int) + 1) (by omega)]
    try rfl
   ·have : j = a.length := by omega
    subst this
    simp only [zN, seval, implies_true, Nat.reduceLeDiff, Nat.reduceEqDiff, reduceCtorEq, reduceIte, intD, (show ¬ (a.length:Int) < a.length by omega)]
    repeat ((with_reducible refine And.intro ?_ ?_); (focus (first | omega | (simp only [lenR]; omega) | (refine qq ?_; rfl) | (refine dq ?_; kernel_rfl) | (intros; simp_all; done))))
    refine for_of b.length (fun j => [(7, .ptr 0 0), (8, .osl 7 0 (pairsC t a.length j).length), (55, .osl 4 0 b.length), (56, .d (.int .i64 b.length)), (57, .d (.int .i64 j))]) (fun j => [.box 7 (.agg [.d (.sl (a.map NodeT.toD)), .mapr 1, .d (.sl (b.map NodeT.toD)), .mapr 2, .osl 3 0 a.length, .osl 4 0 b.length, .mapr 5]), MA, MB, .arr 1 (t.toB.map (.int .i64)), .arr 1 (tkB t), MM, .dead, .arr 2 ((pairsC t a.length j).map PairT.toD)]) (fun _ => True) trivial ?_ ?_
    ·refine weak_to [] [0, 1, 2, 3, 4, 5, 6, 7] rfl (by simp) ?_ ?_
     ·simp only [zN, seval, implies_true, Nat.reduceLeDiff, Nat.reduceEqDiff, reduceCtorEq, reduceIte, intD, Int.cast_ofNat_Int, pairsC_0]
      try rfl
     ·rw [pairsC_0]
      (first | (simp only [zN, seval, implies_true, Nat.reduceLeDiff, Nat.reduceEqDiff, reduceCtorEq, reduceIte, intD, hMAr, hMBr, hMMr]; done) | (simp only [zN, seval, implies_true, Nat.reduceLeDiff, Nat.reduceEqDiff, reduceCtorEq, reduceIte, intD, hMAr, hMBr, hMMr]; rfl))
    ·intro j _ hjl
     have hlenC := pairsC_len t a.length j
     by_cases hj : j < b.length
     ·have hst := pairsC_step t a.length j
      have hjt : j < t.toA.length := by rw [hzt.2]; exact hj
      have ga := tkB_get (s := t) (q := j) hjt
      simp only [zN, seval, implies_true, Nat.reduceLeDiff, Nat.reduceEqDiff, reduceCtorEq, reduceIte, intD, (show (j:Int) < b.length by omega), ga, hjt, tkB_len]
      repeat ((with_reducible refine And.intro ?_ ?_); (focus (first | omega | (simp only [lenR]; omega) | (refine qq ?_; rfl) | (refine dq ?_; kernel_rfl) | (intros; simp_all; done))))
      refine ifC.mk (fun h3 => ?_) (fun h3 => ?_)
      ·have h3 : t.a j < 0 := by
        have : ¬ 0 ≤ t.a j := by simpa using h3
        omega
       rw [if_pos h3] at hst
       have hsl : (pairsC t a.length (j + 1)).length = (pairsC t a.length j).length + 1 := by rw [hst]; simp
       have hm : (pairsC t a.length (j + 1)).map PairT.toD = List.take (pairsC t a.length j).length ((pairsC t a.length j).map PairT.toD) ++ [.agg [.int .i64 (-1), .int .i64 j]] := by
        rw [hst, List.map_append, take_all]; rfl
       (try simp only [zN, seval, implies_true, Nat.reduceLeDiff, Nat.reduceEqDiff, reduceCtorEq, reduceIte, intD])
       repeat ((with_reducible refine And.intro ?_ ?_); (focus (first | omega | (simp only [lenR]; omega) | (refine qq ?_; rfl) | (refine dq ?_; kernel_rfl) | (intros; simp_all; done))))
       rw [hsl, hm]
       refine weak_to [] [0, 1, 2, 3, 4, 5, 6, 9] rfl (by simp) ?_ (by first | (simp only [zN, seval, implies_true, Nat.reduceLeDiff, Nat.reduceEqDiff, reduceCtorEq, reduceIte, intD, hMAr, hMBr, hMMr]; done) | (simp only [zN, seval, implies_true, Nat.reduceLeDiff, Nat.reduceEqDiff, reduceCtorEq, reduceIte, intD, hMAr, hMBr, hMMr]; rfl))
       simp only [zN, seval, implies_true, Nat.reduceLeDiff, Nat.reduceEqDiff, reduceCtorEq, reduceIte, intD, @a_wrap ((j:Int) + 1) (by omega)]
       try rfl
      ·have h3 : ¬ t.a j < 0 := by
        have : 0 ≤ t.a j := by simpa using h3
        omega
       rw [if_neg h3] at hst
       repeat ((with_reducible refine And.intro ?_ ?_); (focus (first | omega | (simp only [lenR]; omega) | (refine qq ?_; rfl) | (refine dq ?_; kernel_rfl) | (intros; simp_all; done))))
       rw [hst]
       refine weak_to [] [0, 1, 2, 3, 4, 5, 6, 7] rfl (by simp) ?_ (by first | (simp only [zN, seval, implies_true, Nat.reduceLeDiff, Nat.reduceEqDiff, reduceCtorEq, reduceIte, intD, hMAr, hMBr, hMMr]; done) | (simp only [zN, seval, implies_true, Nat.reduceLeDiff, Nat.reduceEqDiff, reduceCtorEq, reduceIte, intD, hMAr, hMBr, hMMr]; rfl))
       simp only [zN, seval, implies_true, Nat.reduceLeDiff, Nat.reduceEqDiff, reduceCtorEq, reduceIte, intD, @a_wrap ((j:Int) + 1) (by omega)]
       try rfl
     ·have : j = b.length := by omega
      subst this
      simp only [zN, seval, implies_true, Nat.reduceLeDiff, Nat.reduceEqDiff, reduceCtorEq, reduceIte, intD, (show ¬ (b.length:Int) < b.length by omega)]
      refine ⟨_, _, ret_tdata rfl (x := .sl ((pairsC t a.length b.length).map PairT.toD)) ?_, rfl, rfl⟩
      show D.sl (List.take (pairsC t a.length b.length).length ((pairsC t a.length b.length).map PairT.toD)) = _
      rw [take_all]
 ·simp only [zN, seval, implies_true, Nat.reduceLeDiff, Nat.reduceEqDiff, reduceCtorEq, reduceIte, intD]
  repeat ((with_reducible refine And.intro ?_ ?_); (focus (first | omega | (simp only [lenR]; omega) | (refine qq ?_; rfl) | (refine dq ?_; kernel_rfl) | (intros; simp_all; done))))
  refine callF_hat rfl (by kernel_rfl)
end YtfmbadfdbjhekaaDoor
end Go.Proofs
