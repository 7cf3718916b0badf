/- A part of the proof: contracts of functions of this seat, and lemmas. No condition beyond those stated. -/
import Derived.Test.YtfmbadfdbjhekaaDoorWdnq
set_option linter.unusedVariables false
set_option linter.unusedSimpArgs false
set_option linter.unusedSectionVars false
set_option linter.unnecessarySimpa false
set_option maxRecDepth 100000
namespace Go.Proofs
open Go.AM
namespace YtfmbadfdbjhekaaDoor
variable {Gl : Globs}
def stC (a b : List NodeT) (s : Al) (m : Nat → Bool) (x : D) : Sto := stP a b s m ++ [.box 1 (.ptr 0 0), .box 1 (.d x)]
theorem k_byName (a b : List NodeT) (s : Al) (m : Nat → Bool) (p q : Nat) (hp : p < a.length) (hq : q < b.length) : ACalls Tryd.prog Gl 42 [.d (.int .i64 q), .ptr 6 0, .ptr 7 0] (stC a b s m (.int .i64 p)) (fun r s' => r = .d (.bool (decide (nm b q = nm a p))) ∧ s' = stC a b s m (.int .i64 p)) := by
 obtain ⟨x, hx⟩ : ∃ x, x = a.getD p default := ⟨_, rfl⟩
 obtain ⟨y, hy⟩ : ∃ y, y = b.getD q default := ⟨_, rfl⟩
 have np : nm a p = x.name := by rw [hx]; rfl
 have nq : nm b q = y.name := by rw [hy]; rfl
 have gp : (a.map NodeT.toD).getD p default = x.toD := by rw [a_getD _ _ _ hp, ← hx]
 have gq : (b.map NodeT.toD).getD q default = y.toD := by rw [a_getD _ _ _ hq, ← hy]
 refine acalls_of Tryd.func42 rfl rfl (by simp [Tryd.ntmps42]) (evC_sound rfl _ _ _ _ ?_)
 simp only [Tryd.ntmps42, Tryd.results42, argEnv, List.length_nil]
 simp only [zN, seval, implies_true, Nat.reduceLeDiff, Nat.reduceEqDiff, reduceCtorEq, reduceIte, stP, intD, stC, (show (p:Int) < a.length by omega), (show (q:Int) < b.length by omega), gp, gq, hp, hq]
 repeat ((with_reducible refine And.intro ?_ ?_); (focus (first | omega | (simp only [lenR]; omega) | (refine qq ?_; rfl) | (refine dq ?_; kernel_rfl) | (intros; simp_all; done))))
 refine ⟨_, _, WeakR.refl _ _ _, ?_, rfl⟩
 rw [np, nq]
 congr 2
 rw [Bool.eq_iff_iff, beq_iff_eq, decide_eq_true_iff]
theorem stP_ren2 (a b : List NodeT) (s : Al) (m : Nat → Bool) (B1 B2 : Blk) : renS [0, 1, 2, 3, 4, 5] (stP a b s m ++ [B1, B2]) = stP a b s m := by
 show [renB _ _ _, renB _ _ (.map (some .i64) (kidM a)), renB _ _ (.map (some .i64) (kidM b)), renB _ _ _, renB _ _ _, renB _ _ (.map (some .i64) (memM b m))] = _
 rw [kidM_ren, kidM_ren, memM_ren]; rfl
theorem stP_back2 (a b : List NodeT) (s s' : Al) (m m' : Nat → Bool) (B1 B2 : Blk) : backS [0, 1, 2, 3, 4, 5] (stP a b s m ++ [B1, B2]) (stP a b s' m') = stP a b s' m' ++ [B1, B2] := by
 show [backB _ _, backB _ (.map (some .i64) (kidM a)), backB _ (.map (some .i64) (kidM b)), backB _ _, backB _ _, backB _ (.map (some .i64) (memM b m')), _, _] = _
 rw [kidM_back, kidM_back, memM_back]; rfl
theorem onP2 {f : FuncId} {args : List AV} {a b : List NodeT} {s : Al} {m : Nat → Bool} {B1 B2 : Blk} {R : AV → Sto → Prop} (h : ACalls Tryd.prog Gl f args (stP a b s m) R) (ha : args.map (renV [0, 1, 2, 3, 4, 5] (stP a b s m ++ [B1, B2])) = args) :
  ACalls Tryd.prog Gl f args (stP a b s m ++ [B1, B2]) (fun r s1 => ∃ r0 s0, R r0 s0 ∧ r = back (backId [0, 1, 2, 3, 4, 5] (stP a b s m ++ [B1, B2]).length) r0 ∧ s1 = backS [0, 1, 2, 3, 4, 5] (stP a b s m ++ [B1, B2]) s0) := by
 refine ACalls.under [0, 1, 2, 3, 4, 5] (by decide) (by simp [stP]) ?_
 rw [ha, stP_ren2]; exact h
theorem k_byShape (a b : List NodeT) (hb : b.length ≤ 100) (hcb : checkF b = 0) (s : Al) (m : Nat → Bool) (hs : Sz a b s) (t : List (List UInt8)) (ht : t.length ≤ 1000) (q : Nat) (hq : q < b.length) :
  ACalls Tryd.prog Gl 44 [.d (.int .i64 q), .ptr 6 0, .ptr 7 0] (stC a b s m (.sl (t.map .str))) (fun r s' => r = .d (.bool (decide (s.a q < 0) && (shp b q == t))) ∧ ∃ m', s' = stC a b s m' (.sl (t.map .str))) := by
 have hq2 : q < s.toA.length := by rw [hs.2]; exact hq
 have hsl : (shp b q).length ≤ 100 := Nat.le_trans (shTo_len b q b.length) hb
 by_cases hk : s.a q < 0
 ·obtain ⟨e, he⟩ : ∃ e, e = decide (shp b q = t) := ⟨_, rfl⟩
  have hfin : (decide (s.a q < 0) && (shp b q == t)) = e := by
   rw [he, decide_eq_true hk, Bool.true_and, Bool.eq_iff_iff, beq_iff_eq, decide_eq_true_iff]
  have htk : (tkB s).getD q default = .bool false := by rw [tkB_get hq2, decide_eq_false (by omega)]
  rw [hfin]
  refine acalls_of Tryd.func44 rfl rfl (by simp [Tryd.ntmps44]) ?_
  simp only [Tryd.ntmps44, Tryd.results44, argEnv, List.length_nil]
  refine AWp.seq (evC_sound rfl _ _ _ _ ?_)
  simp only [zN, seval, implies_true, Nat.reduceLeDiff, Nat.reduceEqDiff, reduceCtorEq, reduceIte, stP, intD, stC]
  refine AWp.seq (awp_free rfl (fun L => [(4, .d (.bool (L 15 && e))), (19, onV (L 14) (.d (.bool e))), (18, onV (L 13) (.iff true (.d (.bool e)))), (17, onV (L 12) (.iff true (.d (.sl (t.map .str))))), (16, onV (L 11) (.iff true (.d (.sl ((shp b q).map .str))))), (15, onV (L 10) (.iff true (.d (.int .i64 q)))), (14, onV (L 9) (.iff true (.ptr 0 0))), (13, onV (L 8) (.d (.bool true))), (12, onV (L 7) (.d (.bool true))), (11, onV (L 6) (.d (.bool false))), (10, onV (L 5) (.aptr 4 q 0)), (9, onV (L 4) (.d (.int .i64 q))), (8, onV (L 3) (.osl 4 0 b.length)), (7, onV (L 2) (.ptr 0 5)), (6, onV (L 1) (.ptr 0 0)), (5, onV (L 0) (.ptr 0 0)), (0, .d (.int .i64 q)), (1, .ptr 6 0), (2, .ptr 7 0)])
   (fun L => stP a b s (if L 11 = true then mOn m q else m) ++ [.box 1 (.ptr 0 0), .box 1 (.d (.sl (t.map .str)))]) (by kernel_rfl) ?_ ?_ ?_)
  ·refine weak_sub ?_
   rfl
  ·simp only [stepsG]
   refine ⟨?_, ?_, ?_, ?_, ?_, ?_, ?_, ?_, ?_, ?_, ?_, ?_, ?_, ?_, ?_, ?_, trivial⟩
   ·intro L hc hL hp
    refine .inl ?_
    (simp only [predsL, Region.binds, md_any, Bool.false_eq_true, false_imp_iff, true_imp_iff, and_true, true_and] at hp; (try simp only [Nat.zero_add, Nat.reduceAdd] at hL); simp only [zN, seval, implies_true, Nat.reduceLeDiff, Nat.reduceEqDiff, reduceCtorEq, reduceIte, stP, intD, hL, hp, onV_t, onV_f, updB, htk, hq, hq2, tkB_len, (show (q:Int) < b.length by omega)])
    repeat ((with_reducible refine And.intro ?_ ?_); (focus (first | omega | (simp only [lenR]; omega) | (refine qq ?_; rfl) | (refine dq ?_; kernel_rfl) | (intros; simp_all; done))))
    refine weak_sub ?_
    simp only [zN, seval, implies_true, Nat.reduceLeDiff, Nat.reduceEqDiff, reduceCtorEq, reduceIte, stP, intD, onV_t, onV_f]
   ·intro L hc hL hp
    refine .inl ?_
    (simp only [predsL, Region.binds, md_any, Bool.false_eq_true, false_imp_iff, true_imp_iff, and_true, true_and] at hp; (try simp only [Nat.zero_add, Nat.reduceAdd] at hL); simp only [zN, seval, implies_true, Nat.reduceLeDiff, Nat.reduceEqDiff, reduceCtorEq, reduceIte, stP, intD, hL, hp, onV_t, onV_f, updB, htk, hq, hq2, tkB_len, (show (q:Int) < b.length by omega)])
    repeat ((with_reducible refine And.intro ?_ ?_); (focus (first | omega | (simp only [lenR]; omega) | (refine qq ?_; rfl) | (refine dq ?_; kernel_rfl) | (intros; simp_all; done))))
    refine weak_sub ?_
    simp only [zN, seval, implies_true, Nat.reduceLeDiff, Nat.reduceEqDiff, reduceCtorEq, reduceIte, stP, intD, onV_t, onV_f]
   ·intro L hc hL hp
    refine .inl ?_
    (simp only [predsL, Region.binds, md_any, Bool.false_eq_true, false_imp_iff, true_imp_iff, and_true, true_and] at hp; (try simp only [Nat.zero_add, Nat.reduceAdd] at hL); simp only [zN, seval, implies_true, Nat.reduceLeDiff, Nat.reduceEqDiff, reduceCtorEq, reduceIte, stP, intD, hL, hp, onV_t, onV_f, updB, htk, hq, hq2, tkB_len, (show (q:Int) < b.length by omega)])
    repeat ((with_reducible refine And.intro ?_ ?_); (focus (first | omega | (simp only [lenR]; omega) | (refine qq ?_; rfl) | (refine dq ?_; kernel_rfl) | (intros; simp_all; done))))
    refine weak_sub ?_
    simp only [zN, seval, implies_true, Nat.reduceLeDiff, Nat.reduceEqDiff, reduceCtorEq, reduceIte, stP, intD, onV_t, onV_f]
   ·intro L hc hL hp
    refine .inl ?_
    (simp only [predsL, Region.binds, md_any, Bool.false_eq_true, false_imp_iff, true_imp_iff, and_true, true_and] at hp; (try simp only [Nat.zero_add, Nat.reduceAdd] at hL); simp only [zN, seval, implies_true, Nat.reduceLeDiff, Nat.reduceEqDiff, reduceCtorEq, reduceIte, stP, intD, hL, hp, onV_t, onV_f, updB, htk, hq, hq2, tkB_len, (show (q:Int) < b.length by omega)])
    repeat ((with_reducible refine And.intro ?_ ?_); (focus (first | omega | (simp only [lenR]; omega) | (refine qq ?_; rfl) | (refine dq ?_; kernel_rfl) | (intros; simp_all; done))))
    refine weak_sub ?_
    simp only [zN, seval, implies_true, Nat.reduceLeDiff, Nat.reduceEqDiff, reduceCtorEq, reduceIte, stP, intD, onV_t, onV_f]
   ·intro L hc hL hp
    refine .inl ?_
    (simp only [predsL, Region.binds, md_any, Bool.false_eq_true, false_imp_iff, true_imp_iff, and_true, true_and] at hp; (try simp only [Nat.zero_add, Nat.reduceAdd] at hL); simp only [zN, seval, implies_true, Nat.reduceLeDiff, Nat.reduceEqDiff, reduceCtorEq, reduceIte, stP, intD, hL, hp, onV_t, onV_f, updB, htk, hq, hq2, tkB_len, (show (q:Int) < b.length by omega)])
    repeat ((with_reducible refine And.intro ?_ ?_); (focus (first | omega | (simp only [lenR]; omega) | (refine qq ?_; rfl) | (refine dq ?_; kernel_rfl) | (intros; simp_all; done))))
    refine weak_sub ?_
    simp only [zN, seval, implies_true, Nat.reduceLeDiff, Nat.reduceEqDiff, reduceCtorEq, reduceIte, stP, intD, onV_t, onV_f]
   ·intro L hc hL hp
    refine .inl ?_
    (simp only [predsL, Region.binds, md_any, Bool.false_eq_true, false_imp_iff, true_imp_iff, and_true, true_and] at hp; (try simp only [Nat.zero_add, Nat.reduceAdd] at hL); simp only [zN, seval, implies_true, Nat.reduceLeDiff, Nat.reduceEqDiff, reduceCtorEq, reduceIte, stP, intD, hL, hp, onV_t, onV_f, updB, htk, hq, hq2, tkB_len, (show (q:Int) < b.length by omega)])
    repeat ((with_reducible refine And.intro ?_ ?_); (focus (first | omega | (simp only [lenR]; omega) | (refine qq ?_; rfl) | (refine dq ?_; kernel_rfl) | (intros; simp_all; done))))
    refine weak_sub ?_
    simp only [zN, seval, implies_true, Nat.reduceLeDiff, Nat.reduceEqDiff, reduceCtorEq, reduceIte, stP, intD, onV_t, onV_f]
   ·intro L hc hL hp
    refine .inl ?_
    (simp only [predsL, Region.binds, md_any, Bool.false_eq_true, false_imp_iff, true_imp_iff, and_true, true_and] at hp; (try simp only [Nat.zero_add, Nat.reduceAdd] at hL); simp only [zN, seval, implies_true, Nat.reduceLeDiff, Nat.reduceEqDiff, reduceCtorEq, reduceIte, stP, intD, hL, hp, onV_t, onV_f, updB, htk, hq, hq2, tkB_len, (show (q:Int) < b.length by omega)])
    repeat ((with_reducible refine And.intro ?_ ?_); (focus (first | omega | (simp only [lenR]; omega) | (refine qq ?_; rfl) | (refine dq ?_; kernel_rfl) | (intros; simp_all; done))))
    refine weak_sub ?_
    simp only [zN, seval, implies_true, Nat.reduceLeDiff, Nat.reduceEqDiff, reduceCtorEq, reduceIte, stP, intD, onV_t, onV_f]
   ·intro L hc hL hp
    refine .inl ?_
    (simp only [predsL, Region.binds, md_any, Bool.false_eq_true, false_imp_iff, true_imp_iff, and_true, true_and] at hp; (try simp only [Nat.zero_add, Nat.reduceAdd] at hL); simp only [zN, seval, implies_true, Nat.reduceLeDiff, Nat.reduceEqDiff, reduceCtorEq, reduceIte, stP, intD, hL, hp, onV_t, onV_f, updB, htk, hq, hq2, tkB_len, (show (q:Int) < b.length by omega)])
    repeat ((with_reducible refine And.intro ?_ ?_); (focus (first | omega | (simp only [lenR]; omega) | (refine qq ?_; rfl) | (refine dq ?_; kernel_rfl) | (intros; simp_all; done))))
    refine weak_sub ?_
    simp only [zN, seval, implies_true, Nat.reduceLeDiff, Nat.reduceEqDiff, reduceCtorEq, reduceIte, stP, intD, onV_t, onV_f]
   ·intro L hc hL hp
    refine .inl ?_
    (simp only [predsL, Region.binds, md_any, Bool.false_eq_true, false_imp_iff, true_imp_iff, and_true, true_and] at hp; (try simp only [Nat.zero_add, Nat.reduceAdd] at hL); simp only [zN, seval, implies_true, Nat.reduceLeDiff, Nat.reduceEqDiff, reduceCtorEq, reduceIte, stP, intD, hL, hp, onV_t, onV_f, updB, htk, hq, hq2, tkB_len, (show (q:Int) < b.length by omega)])
    repeat ((with_reducible refine And.intro ?_ ?_); (focus (first | omega | (simp only [lenR]; omega) | (refine qq ?_; rfl) | (refine dq ?_; kernel_rfl) | (intros; simp_all; done))))
    refine weak_sub ?_
    simp only [zN, seval, implies_true, Nat.reduceLeDiff, Nat.reduceEqDiff, reduceCtorEq, reduceIte, stP, intD, onV_t, onV_f]
   ·intro L hc hL hp
    refine .inl ?_
    (simp only [predsL, Region.binds, md_any, Bool.false_eq_true, false_imp_iff, true_imp_iff, and_true, true_and] at hp; (try simp only [Nat.zero_add, Nat.reduceAdd] at hL); simp only [zN, seval, implies_true, Nat.reduceLeDiff, Nat.reduceEqDiff, reduceCtorEq, reduceIte, stP, intD, hL, hp, onV_t, onV_f, updB, htk, hq, hq2, tkB_len, (show (q:Int) < b.length by omega)])
    repeat ((with_reducible refine And.intro ?_ ?_); (focus (first | omega | (simp only [lenR]; omega) | (refine qq ?_; rfl) | (refine dq ?_; kernel_rfl) | (intros; simp_all; done))))
    refine weak_sub ?_
    simp only [zN, seval, implies_true, Nat.reduceLeDiff, Nat.reduceEqDiff, reduceCtorEq, reduceIte, stP, intD, onV_t, onV_f]
   ·intro L hc hL hp
    refine .inl ?_
    (simp only [predsL, Region.binds, md_any, Bool.false_eq_true, false_imp_iff, true_imp_iff, and_true, true_and] at hp; (try simp only [Nat.zero_add, Nat.reduceAdd] at hL); simp only [zN, seval, implies_true, Nat.reduceLeDiff, Nat.reduceEqDiff, reduceCtorEq, reduceIte, stP, intD, hL, hp, onV_t, onV_f, updB, htk, hq, hq2, tkB_len, (show (q:Int) < b.length by omega)])
    repeat ((with_reducible refine And.intro ?_ ?_); (focus (first | omega | (simp only [lenR]; omega) | (refine qq ?_; rfl) | (refine dq ?_; kernel_rfl) | (intros; simp_all; done))))
    refine weak_sub ?_
    simp only [zN, seval, implies_true, Nat.reduceLeDiff, Nat.reduceEqDiff, reduceCtorEq, reduceIte, stP, intD, onV_t, onV_f]
   ·intro L hc hL hp
    refine .inr ?_
    (simp only [predsL, Region.binds, md_any, Bool.false_eq_true, false_imp_iff, true_imp_iff, and_true, true_and] at hp; (try simp only [Nat.zero_add, Nat.reduceAdd] at hL); simp only [zN, seval, implies_true, Nat.reduceLeDiff, Nat.reduceEqDiff, reduceCtorEq, reduceIte, stP, intD, hL, hp, onV_t, onV_f, updB, htk, hq, hq2, tkB_len, (show (q:Int) < b.length by omega)])
    refine ⟨8, true, rfl, by decide, ?_, ?_, ?_, ?_⟩
    ·simp only [zN, seval, implies_true, Nat.reduceLeDiff, Nat.reduceEqDiff, reduceCtorEq, reduceIte, stP, intD]
     skip
    ·simp only [zN, seval, implies_true, Nat.reduceLeDiff, Nat.reduceEqDiff, reduceCtorEq, reduceIte, stP, intD]
     skip
    ·show gdL Gl _ true [_, Operand.tmp 14, Operand.tmp 15]
     simp only [zN, seval, implies_true, Nat.reduceLeDiff, Nat.reduceEqDiff, reduceCtorEq, reduceIte, stP, intD]
    ·unfold evCallOp
     simp only [zN, seval, implies_true, Nat.reduceLeDiff, Nat.reduceEqDiff, reduceCtorEq, reduceIte, stP, intD]
     refine (onP2 (k_memo a b hb hcb s m q hq) (args := [.ptr 0 0, .d (.int .i64 q)]) rfl).mono fun r s1 hrs => ?_
     obtain ⟨r0, s0, ⟨rfl, rfl⟩, rfl, rfl⟩ := hrs
     rw [stP_back2, back_d]
     simp only [zN, seval, implies_true, Nat.reduceLeDiff, Nat.reduceEqDiff, reduceCtorEq, reduceIte, stP, intD, stP]
     refine weak_sub ?_
     simp only [zN, seval, implies_true, Nat.reduceLeDiff, Nat.reduceEqDiff, reduceCtorEq, reduceIte, stP, intD, onV_t, onV_f]
   ·intro L hc hL hp
    refine .inl ?_
    (simp only [predsL, Region.binds, md_any, Bool.false_eq_true, false_imp_iff, true_imp_iff, and_true, true_and] at hp; (try simp only [Nat.zero_add, Nat.reduceAdd] at hL); simp only [zN, seval, implies_true, Nat.reduceLeDiff, Nat.reduceEqDiff, reduceCtorEq, reduceIte, stP, intD, hL, hp, onV_t, onV_f, updB, htk, hq, hq2, tkB_len, (show (q:Int) < b.length by omega)])
    repeat ((with_reducible refine And.intro ?_ ?_); (focus (first | omega | (simp only [lenR]; omega) | (refine qq ?_; rfl) | (refine dq ?_; kernel_rfl) | (intros; simp_all; done))))
    refine weak_sub ?_
    simp only [zN, seval, implies_true, Nat.reduceLeDiff, Nat.reduceEqDiff, reduceCtorEq, reduceIte, stP, intD, onV_t, onV_f]
   ·intro L hc hL hp
    refine .inl ?_
    (simp only [predsL, Region.binds, md_any, Bool.false_eq_true, false_imp_iff, true_imp_iff, and_true, true_and] at hp; (try simp only [Nat.zero_add, Nat.reduceAdd] at hL); simp only [zN, seval, implies_true, Nat.reduceLeDiff, Nat.reduceEqDiff, reduceCtorEq, reduceIte, stP, intD, hL, hp, onV_t, onV_f, updB, htk, hq, hq2, tkB_len, (show (q:Int) < b.length by omega)])
    repeat ((with_reducible refine And.intro ?_ ?_); (focus (first | omega | (simp only [lenR]; omega) | (refine qq ?_; rfl) | (refine dq ?_; kernel_rfl) | (intros; simp_all; done))))
    refine callG_pure (fun _ => k_EqualTexts (shp b q) t (by omega) (by omega)) ?_
    simp only [zN, seval, implies_true, Nat.reduceLeDiff, Nat.reduceEqDiff, reduceCtorEq, reduceIte, stP, intD, ← he]
    refine weak_sub ?_
    simp only [zN, seval, implies_true, Nat.reduceLeDiff, Nat.reduceEqDiff, reduceCtorEq, reduceIte, stP, intD, onV_t, onV_f]
   ·intro L hc hL hp
    refine .inl ?_
    (simp only [predsL, Region.binds, md_any, Bool.false_eq_true, false_imp_iff, true_imp_iff, and_true, true_and] at hp; (try simp only [Nat.zero_add, Nat.reduceAdd] at hL); simp only [zN, seval, implies_true, Nat.reduceLeDiff, Nat.reduceEqDiff, reduceCtorEq, reduceIte, stP, intD, hL, hp, onV_t, onV_f, updB, htk, hq, hq2, tkB_len, (show (q:Int) < b.length by omega)])
    repeat ((with_reducible refine And.intro ?_ ?_); (focus (first | omega | (simp only [lenR]; omega) | (refine qq ?_; rfl) | (refine dq ?_; kernel_rfl) | (intros; simp_all; done))))
    refine weak_sub ?_
    simp only [zN, seval, implies_true, Nat.reduceLeDiff, Nat.reduceEqDiff, reduceCtorEq, reduceIte, stP, intD, onV_t, onV_f]
   ·intro L hc hL hp
    refine .inl ?_
    (simp only [predsL, Region.binds, md_any, Bool.false_eq_true, false_imp_iff, true_imp_iff, and_true, true_and] at hp; (try simp only [Nat.zero_add, Nat.reduceAdd] at hL); simp only [zN, seval, implies_true, Nat.reduceLeDiff, Nat.reduceEqDiff, reduceCtorEq, reduceIte, stP, intD, hL, hp, onV_t, onV_f, updB, htk, hq, hq2, tkB_len, (show (q:Int) < b.length by omega)])
    repeat ((with_reducible refine And.intro ?_ ?_); (focus (first | omega | (simp only [lenR]; omega) | (refine qq ?_; rfl) | (refine dq ?_; kernel_rfl) | (intros; simp_all; done))))
    refine weak_sub ?_
    simp only [zN, seval, implies_true, Nat.reduceLeDiff, Nat.reduceEqDiff, reduceCtorEq, reduceIte, stP, intD, onV_t, onV_f]
  ·simp only [zN, seval, implies_true, Nat.reduceLeDiff, Nat.reduceEqDiff, reduceCtorEq, reduceIte, stP, intD, onV_t]
   refine evC_sound rfl _ _ _ _ ?_
   simp only [zN, seval, implies_true, Nat.reduceLeDiff, Nat.reduceEqDiff, reduceCtorEq, reduceIte, stP, intD]
   repeat ((with_reducible refine And.intro ?_ ?_); (focus (first | omega | (simp only [lenR]; omega) | (refine qq ?_; rfl) | (refine dq ?_; kernel_rfl) | (intros; simp_all; done))))
   exact ⟨_, _, WeakR.refl _ _ _, rfl, _, rfl⟩
 ·refine acalls_of Tryd.func44 rfl rfl (by simp [Tryd.ntmps44]) (evC_sound rfl _ _ _ _ ?_)
  simp only [Tryd.ntmps44, Tryd.results44, argEnv, List.length_nil]
  simp only [zN, seval, implies_true, Nat.reduceLeDiff, Nat.reduceEqDiff, reduceCtorEq, reduceIte, stP, intD, stC, tkB_get hq2, hq, tkB_len, hq2, (show (q:Int) < b.length by omega), (show 0 ≤ s.a q by omega)]
  repeat ((with_reducible refine And.intro ?_ ?_); (focus (first | omega | (simp only [lenR]; omega) | (refine qq ?_; rfl) | (refine dq ?_; kernel_rfl) | (intros; simp_all; done))))
  refine callG_of (v := .undef) (fun h => by cases h) ?_
  simp only [zN, seval, implies_true, Nat.reduceLeDiff, Nat.reduceEqDiff, reduceCtorEq, reduceIte, stP, intD]
  repeat ((with_reducible refine And.intro ?_ ?_); (focus (first | omega | (simp only [lenR]; omega) | (refine qq ?_; rfl) | (refine dq ?_; kernel_rfl) | (intros; simp_all; done))))
  refine callG_of (v := .undef) (fun h => by cases h) ?_
  simp only [zN, seval, implies_true, Nat.reduceLeDiff, Nat.reduceEqDiff, reduceCtorEq, reduceIte, stP, intD]
  repeat ((with_reducible refine And.intro ?_ ?_); (focus (first | omega | (simp only [lenR]; omega) | (refine qq ?_; rfl) | (refine dq ?_; kernel_rfl) | (intros; simp_all; done))))
  refine ⟨_, _, WeakR.refl _ _ _, ?_, _, rfl⟩
  rw [decide_eq_false hk, Bool.false_and]
end YtfmbadfdbjhekaaDoor
end Go.Proofs
