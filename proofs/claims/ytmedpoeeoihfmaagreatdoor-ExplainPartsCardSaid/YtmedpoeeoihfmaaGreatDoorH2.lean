/- A part of the proof: contracts of functions of this seat, and lemmas. No condition beyond those stated. -/
import Derived.Test.YtmedpoeeoihfmaaGreatDoorH1
import Derived.Test.YtmedpoeeoihfmaaGreatDoorG4
set_option linter.unusedVariables false
set_option linter.unusedSimpArgs false
set_option linter.unusedSectionVars false
set_option linter.unnecessarySimpa false
set_option maxRecDepth 100000
namespace Go.Proofs
open Go.AM
namespace YtmedpoeeoihfmaaGreatDoor
variable {Gl : Globs}
def stC (a b : List NodeT) (s : Al) (m : Nat → Bool) (x : D) : Sto := stP a b s m ++ [.box 1 (.ptr 0 0), .box 1 (.d x)]
theorem k_byName (a b : List NodeT) (s : Al) (m : Nat → Bool) (p q : Nat) (hp : p < a.length) (hq : q < b.length) : ACalls Tryz.prog Gl 80 [.d (.int .i64 q), .ptr 6 0, .ptr 7 0] (stC a b s m (.int .i64 p)) (fun r s' => r = .d (.bool (decide (nm b q = nm a p))) ∧ s' = stC a b s m (.int .i64 p)) := by
 obtain ⟨x, hx⟩ : ∃ x, x = a.getD p default := ⟨_, rfl⟩
 obtain ⟨y, hy⟩ : ∃ y, y = b.getD q default := ⟨_, rfl⟩
 have np : nm a p = x.name := by rw [hx]; rfl
 have nq : nm b q = y.name := by rw [hy]; rfl
 have gp : (a.map NodeT.toD).getD p default = x.toD := by rw [a_getD _ _ _ hp, ← hx]
 have gq : (b.map NodeT.toD).getD q default = y.toD := by rw [a_getD _ _ _ hq, ← hy]
 refine acalls_of Tryz.func80 rfl rfl (by simp [Tryz.ntmps80]) (evC_sound rfl _ _ _ _ ?_)
 simp only [Tryz.ntmps80, Tryz.results80, argEnv, List.length_nil]
 simp only [zN, seval, implies_true, Nat.reduceLeDiff, Nat.reduceEqDiff, reduceCtorEq, reduceIte, stP, intD, stC, (show (p:Int) < a.length by omega), (show (q:Int) < b.length by omega), gp, gq, hp, hq]
 repeat ((with_reducible refine And.intro ?_ ?_); (focus (first | omega | (simp only [lenR]; omega) | (refine qq ?_; rfl) | (refine dq ?_; kernel_rfl) | (intros; simp_all; done))))
 refine ⟨_, _, WeakR.refl _ _ _, ?_, rfl⟩
 rw [np, nq]
 congr 2
 rw [Bool.eq_iff_iff, beq_iff_eq, decide_eq_true_iff]
theorem stP_ren2 (a b : List NodeT) (s : Al) (m : Nat → Bool) (B1 B2 : Blk) : renS [0, 1, 2, 3, 4, 5] (stP a b s m ++ [B1, B2]) = stP a b s m := by
 show [renB _ _ _, renB _ _ (.map (some .i64) (kidM a)), renB _ _ (.map (some .i64) (kidM b)), renB _ _ _, renB _ _ _, renB _ _ (.map (some .i64) (memM b m))] = _
 rw [kidM_ren, kidM_ren, memM_ren]; rfl
theorem stP_back2 (a b : List NodeT) (s s' : Al) (m m' : Nat → Bool) (B1 B2 : Blk) : backS [0, 1, 2, 3, 4, 5] (stP a b s m ++ [B1, B2]) (stP a b s' m') = stP a b s' m' ++ [B1, B2] := by
 show [backB _ _, backB _ (.map (some .i64) (kidM a)), backB _ (.map (some .i64) (kidM b)), backB _ _, backB _ _, backB _ (.map (some .i64) (memM b m')), _, _] = _
 rw [kidM_back, kidM_back, memM_back]; rfl
theorem onP2 {f : FuncId} {args : List AV} {a b : List NodeT} {s : Al} {m : Nat → Bool} {B1 B2 : Blk} {R : AV → Sto → Prop} (h : ACalls Tryz.prog Gl f args (stP a b s m) R) (ha : args.map (renV [0, 1, 2, 3, 4, 5] (stP a b s m ++ [B1, B2])) = args) :
  ACalls Tryz.prog Gl f args (stP a b s m ++ [B1, B2]) (fun r s1 => ∃ r0 s0, R r0 s0 ∧ r = back (backId [0, 1, 2, 3, 4, 5] (stP a b s m ++ [B1, B2]).length) r0 ∧ s1 = backS [0, 1, 2, 3, 4, 5] (stP a b s m ++ [B1, B2]) s0) := by
 refine ACalls.under [0, 1, 2, 3, 4, 5] (by decide) (by simp [stP]) ?_
 rw [ha, stP_ren2]; exact h
theorem k_byShape (a b : List NodeT) (hb : b.length ≤ 100) (hcb : checkF b = 0) (s : Al) (m : Nat → Bool) (hs : Sz a b s) (t : List (List UInt8)) (ht : t.length ≤ 1000) (q : Nat) (hq : q < b.length) :
  ACalls Tryz.prog Gl 83 [.d (.int .i64 q), .ptr 6 0, .ptr 7 0] (stC a b s m (.sl (t.map .str))) (fun r s' => r = .d (.bool (decide (s.a q < 0) && (shp b q == t))) ∧ ∃ m', s' = stC a b s m' (.sl (t.map .str))) := by
 have hq2 : q < s.toA.length := by rw [hs.2]; exact hq
 have hsl : (shp b q).length ≤ 100 := Nat.le_trans (shTo_len b q b.length) hb
 by_cases hk : s.a q < 0
 ·obtain ⟨e, he⟩ : ∃ e, e = decide (shp b q = t) := ⟨_, rfl⟩
  have hfin : (decide (s.a q < 0) && (shp b q == t)) = e := by
   rw [he, decide_eq_true hk, Bool.true_and, Bool.eq_iff_iff, beq_iff_eq, decide_eq_true_iff]
  have htk : (tkB s).getD q default = .bool false := by rw [tkB_get hq2, decide_eq_false (by omega)]
  rw [hfin]
  refine acalls_of Tryz.func83 rfl rfl (by simp [Tryz.ntmps83]) ?_
  simp only [Tryz.ntmps83, Tryz.results83, argEnv, List.length_nil]
  refine AWp.seq (evC_sound rfl _ _ _ _ ?_)
  simp only [zN, seval, implies_true, Nat.reduceLeDiff, Nat.reduceEqDiff, reduceCtorEq, reduceIte, stP, intD, stC]
  refine AWp.seq (awp_free rfl (fun L => [(4, .d (.bool (L 15 && e))), (19, onV (L 14) (.d (.bool e))), (18, onV (L 13) (.iff true (.d (.bool e)))), (17, onV (L 12) (.iff true (.d (.sl (t.map .str))))), (16, onV (L 11) (.iff true (.d (.sl ((shp b q).map .str))))), (15, onV (L 10) (.iff true (.d (.int .i64 q)))), (14, onV (L 9) (.iff true (.ptr 0 0))), (13, onV (L 8) (.d (.bool true))), (12, onV (L 7) (.d (.bool true))), (11, onV (L 6) (.d (.bool false))), (10, onV (L 5) (.aptr 4 q 0)), (9, onV (L 4) (.d (.int .i64 q))), (8, onV (L 3) (.osl 4 0 b.length)), (7, onV (L 2) (.ptr 0 5)), (6, onV (L 1) (.ptr 0 0)), (5, onV (L 0) (.ptr 0 0)), (0, .d (.int .i64 q)), (1, .ptr 6 0), (2, .ptr 7 0)])
   (fun L => stP a b s (if L 11 = true then mOn m q else m) ++ [.box 1 (.ptr 0 0), .box 1 (.d (.sl (t.map .str)))]) (by kernel_rfl) ?_ ?_ ?_)
  ·refine weak_sub ?_
   rfl
  ·simp only [stepsG]
   refine ⟨?_, ?_, ?_, ?_, ?_, ?_, ?_, ?_, ?_, ?_, ?_, ?_, ?_, ?_, ?_, ?_, trivial⟩
   ·intro L hc hL hp
    refine .inl ?_
    (simp only [predsL, Region.binds, frB] at hp; (try simp only [Nat.zero_add, Nat.reduceAdd] at hL); simp only [zN, seval, implies_true, Nat.reduceLeDiff, Nat.reduceEqDiff, reduceCtorEq, reduceIte, stP, intD, hL, hp, onV_t, onV_f, updB, htk, hq, hq2, tkB_len, (show (q:Int) < b.length by omega)])
    repeat ((with_reducible refine And.intro ?_ ?_); (focus (first | omega | (simp only [lenR]; omega) | (refine qq ?_; rfl) | (refine dq ?_; kernel_rfl) | (intros; simp_all; done))))
    refine weak_sub ?_
    simp only [zN, seval, implies_true, Nat.reduceLeDiff, Nat.reduceEqDiff, reduceCtorEq, reduceIte, stP, intD, onV_t, onV_f]
   ·intro L hc hL hp
    refine .inl ?_
    (simp only [predsL, Region.binds, frB] at hp; (try simp only [Nat.zero_add, Nat.reduceAdd] at hL); simp only [zN, seval, implies_true, Nat.reduceLeDiff, Nat.reduceEqDiff, reduceCtorEq, reduceIte, stP, intD, hL, hp, onV_t, onV_f, updB, htk, hq, hq2, tkB_len, (show (q:Int) < b.length by omega)])
    repeat ((with_reducible refine And.intro ?_ ?_); (focus (first | omega | (simp only [lenR]; omega) | (refine qq ?_; rfl) | (refine dq ?_; kernel_rfl) | (intros; simp_all; done))))
    refine weak_sub ?_
    simp only [zN, seval, implies_true, Nat.reduceLeDiff, Nat.reduceEqDiff, reduceCtorEq, reduceIte, stP, intD, onV_t, onV_f]
   ·intro L hc hL hp
    refine .inl ?_
    (simp only [predsL, Region.binds, frB] at hp; (try simp only [Nat.zero_add, Nat.reduceAdd] at hL); simp only [zN, seval, implies_true, Nat.reduceLeDiff, Nat.reduceEqDiff, reduceCtorEq, reduceIte, stP, intD, hL, hp, onV_t, onV_f, updB, htk, hq, hq2, tkB_len, (show (q:Int) < b.length by omega)])
    repeat ((with_reducible refine And.intro ?_ ?_); (focus (first | omega | (simp only [lenR]; omega) | (refine qq ?_; rfl) | (refine dq ?_; kernel_rfl) | (intros; simp_all; done))))
    refine weak_sub ?_
    simp only [zN, seval, implies_true, Nat.reduceLeDiff, Nat.reduceEqDiff, reduceCtorEq, reduceIte, stP, intD, onV_t, onV_f]
   ·intro L hc hL hp
    refine .inl ?_
    (simp only [predsL, Region.binds, frB] at hp; (try simp only [Nat.zero_add, Nat.reduceAdd] at hL); simp only [zN, seval, implies_true, Nat.reduceLeDiff, Nat.reduceEqDiff, reduceCtorEq, reduceIte, stP, intD, hL, hp, onV_t, onV_f, updB, htk, hq, hq2, tkB_len, (show (q:Int) < b.length by omega)])
    repeat ((with_reducible refine And.intro ?_ ?_); (focus (first | omega | (simp only [lenR]; omega) | (refine qq ?_; rfl) | (refine dq ?_; kernel_rfl) | (intros; simp_all; done))))
    refine weak_sub ?_
    simp only [zN, seval, implies_true, Nat.reduceLeDiff, Nat.reduceEqDiff, reduceCtorEq, reduceIte, stP, intD, onV_t, onV_f]
   ·intro L hc hL hp
    refine .inl ?_
    (simp only [predsL, Region.binds, frB] at hp; (try simp only [Nat.zero_add, Nat.reduceAdd] at hL); simp only [zN, seval, implies_true, Nat.reduceLeDiff, Nat.reduceEqDiff, reduceCtorEq, reduceIte, stP, intD, hL, hp, onV_t, onV_f, updB, htk, hq, hq2, tkB_len, (show (q:Int) < b.length by omega)])
    repeat ((with_reducible refine And.intro ?_ ?_); (focus (first | omega | (simp only [lenR]; omega) | (refine qq ?_; rfl) | (refine dq ?_; kernel_rfl) | (intros; simp_all; done))))
    refine weak_sub ?_
    simp only [zN, seval, implies_true, Nat.reduceLeDiff, Nat.reduceEqDiff, reduceCtorEq, reduceIte, stP, intD, onV_t, onV_f]
   ·intro L hc hL hp
    refine .inl ?_
    (simp only [predsL, Region.binds, frB] at hp; (try simp only [Nat.zero_add, Nat.reduceAdd] at hL); simp only [zN, seval, implies_true, Nat.reduceLeDiff, Nat.reduceEqDiff, reduceCtorEq, reduceIte, stP, intD, hL, hp, onV_t, onV_f, updB, htk, hq, hq2, tkB_len, (show (q:Int) < b.length by omega)])
    repeat ((with_reducible refine And.intro ?_ ?_); (focus (first | omega | (simp only [lenR]; omega) | (refine qq ?_; rfl) | (refine dq ?_; kernel_rfl) | (intros; simp_all; done))))
    refine weak_sub ?_
    simp only [zN, seval, implies_true, Nat.reduceLeDiff, Nat.reduceEqDiff, reduceCtorEq, reduceIte, stP, intD, onV_t, onV_f]
   ·intro L hc hL hp
    refine .inl ?_
    (simp only [predsL, Region.binds, frB] at hp; (try simp only [Nat.zero_add, Nat.reduceAdd] at hL); simp only [zN, seval, implies_true, Nat.reduceLeDiff, Nat.reduceEqDiff, reduceCtorEq, reduceIte, stP, intD, hL, hp, onV_t, onV_f, updB, htk, hq, hq2, tkB_len, (show (q:Int) < b.length by omega)])
    repeat ((with_reducible refine And.intro ?_ ?_); (focus (first | omega | (simp only [lenR]; omega) | (refine qq ?_; rfl) | (refine dq ?_; kernel_rfl) | (intros; simp_all; done))))
    refine weak_sub ?_
    simp only [zN, seval, implies_true, Nat.reduceLeDiff, Nat.reduceEqDiff, reduceCtorEq, reduceIte, stP, intD, onV_t, onV_f]
   ·intro L hc hL hp
    refine .inl ?_
    (simp only [predsL, Region.binds, frB] at hp; (try simp only [Nat.zero_add, Nat.reduceAdd] at hL); simp only [zN, seval, implies_true, Nat.reduceLeDiff, Nat.reduceEqDiff, reduceCtorEq, reduceIte, stP, intD, hL, hp, onV_t, onV_f, updB, htk, hq, hq2, tkB_len, (show (q:Int) < b.length by omega)])
    repeat ((with_reducible refine And.intro ?_ ?_); (focus (first | omega | (simp only [lenR]; omega) | (refine qq ?_; rfl) | (refine dq ?_; kernel_rfl) | (intros; simp_all; done))))
    refine weak_sub ?_
    simp only [zN, seval, implies_true, Nat.reduceLeDiff, Nat.reduceEqDiff, reduceCtorEq, reduceIte, stP, intD, onV_t, onV_f]
   ·intro L hc hL hp
    refine .inl ?_
    (simp only [predsL, Region.binds, frB] at hp; (try simp only [Nat.zero_add, Nat.reduceAdd] at hL); simp only [zN, seval, implies_true, Nat.reduceLeDiff, Nat.reduceEqDiff, reduceCtorEq, reduceIte, stP, intD, hL, hp, onV_t, onV_f, updB, htk, hq, hq2, tkB_len, (show (q:Int) < b.length by omega)])
    repeat ((with_reducible refine And.intro ?_ ?_); (focus (first | omega | (simp only [lenR]; omega) | (refine qq ?_; rfl) | (refine dq ?_; kernel_rfl) | (intros; simp_all; done))))
    refine weak_sub ?_
    simp only [zN, seval, implies_true, Nat.reduceLeDiff, Nat.reduceEqDiff, reduceCtorEq, reduceIte, stP, intD, onV_t, onV_f]
   ·intro L hc hL hp
    refine .inl ?_
    (simp only [predsL, Region.binds, frB] at hp; (try simp only [Nat.zero_add, Nat.reduceAdd] at hL); simp only [zN, seval, implies_true, Nat.reduceLeDiff, Nat.reduceEqDiff, reduceCtorEq, reduceIte, stP, intD, hL, hp, onV_t, onV_f, updB, htk, hq, hq2, tkB_len, (show (q:Int) < b.length by omega)])
    repeat ((with_reducible refine And.intro ?_ ?_); (focus (first | omega | (simp only [lenR]; omega) | (refine qq ?_; rfl) | (refine dq ?_; kernel_rfl) | (intros; simp_all; done))))
    refine weak_sub ?_
    simp only [zN, seval, implies_true, Nat.reduceLeDiff, Nat.reduceEqDiff, reduceCtorEq, reduceIte, stP, intD, onV_t, onV_f]
   ·intro L hc hL hp
    refine .inl ?_
    (simp only [predsL, Region.binds, frB] at hp; (try simp only [Nat.zero_add, Nat.reduceAdd] at hL); simp only [zN, seval, implies_true, Nat.reduceLeDiff, Nat.reduceEqDiff, reduceCtorEq, reduceIte, stP, intD, hL, hp, onV_t, onV_f, updB, htk, hq, hq2, tkB_len, (show (q:Int) < b.length by omega)])
    repeat ((with_reducible refine And.intro ?_ ?_); (focus (first | omega | (simp only [lenR]; omega) | (refine qq ?_; rfl) | (refine dq ?_; kernel_rfl) | (intros; simp_all; done))))
    refine weak_sub ?_
    simp only [zN, seval, implies_true, Nat.reduceLeDiff, Nat.reduceEqDiff, reduceCtorEq, reduceIte, stP, intD, onV_t, onV_f]
   ·intro L hc hL hp
    refine .inr ?_
    (simp only [predsL, Region.binds, frB] at hp; (try simp only [Nat.zero_add, Nat.reduceAdd] at hL); simp only [zN, seval, implies_true, Nat.reduceLeDiff, Nat.reduceEqDiff, reduceCtorEq, reduceIte, stP, intD, hL, hp, onV_t, onV_f, updB, htk, hq, hq2, tkB_len, (show (q:Int) < b.length by omega)])
    refine ⟨8, true, rfl, by decide, ?_, ?_, ?_, ?_⟩
    ·simp only [zN, seval, implies_true, Nat.reduceLeDiff, Nat.reduceEqDiff, reduceCtorEq, reduceIte, stP, intD]
     skip
    ·simp only [zN, seval, implies_true, Nat.reduceLeDiff, Nat.reduceEqDiff, reduceCtorEq, reduceIte, stP, intD]
     skip
    ·show gdL Gl _ true [_, Operand.tmp 14, Operand.tmp 15]
     simp only [zN, seval, implies_true, Nat.reduceLeDiff, Nat.reduceEqDiff, reduceCtorEq, reduceIte, stP, intD]
    ·unfold evCallOp
     simp only [zN, seval, implies_true, Nat.reduceLeDiff, Nat.reduceEqDiff, reduceCtorEq, reduceIte, stP, intD]
     refine (onP2 (k_memo a b hb hcb s m q hq) (args := [.ptr 0 0, .d (.int .i64 q)]) rfl).mono fun r s1 hrs => ?_
     obtain ⟨r0, s0, ⟨rfl, rfl⟩, rfl, rfl⟩ := hrs
     rw [stP_back2, back_d]
     simp only [zN, seval, implies_true, Nat.reduceLeDiff, Nat.reduceEqDiff, reduceCtorEq, reduceIte, stP, intD, stP]
     refine weak_sub ?_
     simp only [zN, seval, implies_true, Nat.reduceLeDiff, Nat.reduceEqDiff, reduceCtorEq, reduceIte, stP, intD, onV_t, onV_f]
   ·intro L hc hL hp
    refine .inl ?_
    (simp only [predsL, Region.binds, frB] at hp; (try simp only [Nat.zero_add, Nat.reduceAdd] at hL); simp only [zN, seval, implies_true, Nat.reduceLeDiff, Nat.reduceEqDiff, reduceCtorEq, reduceIte, stP, intD, hL, hp, onV_t, onV_f, updB, htk, hq, hq2, tkB_len, (show (q:Int) < b.length by omega)])
    repeat ((with_reducible refine And.intro ?_ ?_); (focus (first | omega | (simp only [lenR]; omega) | (refine qq ?_; rfl) | (refine dq ?_; kernel_rfl) | (intros; simp_all; done))))
    refine weak_sub ?_
    simp only [zN, seval, implies_true, Nat.reduceLeDiff, Nat.reduceEqDiff, reduceCtorEq, reduceIte, stP, intD, onV_t, onV_f]
   ·intro L hc hL hp
    refine .inl ?_
    (simp only [predsL, Region.binds, frB] at hp; (try simp only [Nat.zero_add, Nat.reduceAdd] at hL); simp only [zN, seval, implies_true, Nat.reduceLeDiff, Nat.reduceEqDiff, reduceCtorEq, reduceIte, stP, intD, hL, hp, onV_t, onV_f, updB, htk, hq, hq2, tkB_len, (show (q:Int) < b.length by omega)])
    repeat ((with_reducible refine And.intro ?_ ?_); (focus (first | omega | (simp only [lenR]; omega) | (refine qq ?_; rfl) | (refine dq ?_; kernel_rfl) | (intros; simp_all; done))))
    refine callG_pure (fun _ => k_EqualTexts (shp b q) t (by omega) (by omega)) ?_
    simp only [zN, seval, implies_true, Nat.reduceLeDiff, Nat.reduceEqDiff, reduceCtorEq, reduceIte, stP, intD, ← he]
    refine weak_sub ?_
    simp only [zN, seval, implies_true, Nat.reduceLeDiff, Nat.reduceEqDiff, reduceCtorEq, reduceIte, stP, intD, onV_t, onV_f]
   ·intro L hc hL hp
    refine .inl ?_
    (simp only [predsL, Region.binds, frB] at hp; (try simp only [Nat.zero_add, Nat.reduceAdd] at hL); simp only [zN, seval, implies_true, Nat.reduceLeDiff, Nat.reduceEqDiff, reduceCtorEq, reduceIte, stP, intD, hL, hp, onV_t, onV_f, updB, htk, hq, hq2, tkB_len, (show (q:Int) < b.length by omega)])
    repeat ((with_reducible refine And.intro ?_ ?_); (focus (first | omega | (simp only [lenR]; omega) | (refine qq ?_; rfl) | (refine dq ?_; kernel_rfl) | (intros; simp_all; done))))
    refine weak_sub ?_
    simp only [zN, seval, implies_true, Nat.reduceLeDiff, Nat.reduceEqDiff, reduceCtorEq, reduceIte, stP, intD, onV_t, onV_f]
   ·intro L hc hL hp
    refine .inl ?_
    (simp only [predsL, Region.binds, frB] at hp; (try simp only [Nat.zero_add, Nat.reduceAdd] at hL); simp only [zN, seval, implies_true, Nat.reduceLeDiff, Nat.reduceEqDiff, reduceCtorEq, reduceIte, stP, intD, hL, hp, onV_t, onV_f, updB, htk, hq, hq2, tkB_len, (show (q:Int) < b.length by omega)])
    repeat ((with_reducible refine And.intro ?_ ?_); (focus (first | omega | (simp only [lenR]; omega) | (refine qq ?_; rfl) | (refine dq ?_; kernel_rfl) | (intros; simp_all; done))))
    refine weak_sub ?_
    simp only [zN, seval, implies_true, Nat.reduceLeDiff, Nat.reduceEqDiff, reduceCtorEq, reduceIte, stP, intD, onV_t, onV_f]
  ·simp only [zN, seval, implies_true, Nat.reduceLeDiff, Nat.reduceEqDiff, reduceCtorEq, reduceIte, stP, intD, onV_t]
   refine evC_sound rfl _ _ _ _ ?_
   simp only [zN, seval, implies_true, Nat.reduceLeDiff, Nat.reduceEqDiff, reduceCtorEq, reduceIte, stP, intD]
   repeat ((with_reducible refine And.intro ?_ ?_); (focus (first | omega | (simp only [lenR]; omega) | (refine qq ?_; rfl) | (refine dq ?_; kernel_rfl) | (intros; simp_all; done))))
   exact ⟨_, _, WeakR.refl _ _ _, rfl, _, rfl⟩
 ·refine acalls_of Tryz.func83 rfl rfl (by simp [Tryz.ntmps83]) (evC_sound rfl _ _ _ _ ?_)
  simp only [Tryz.ntmps83, Tryz.results83, argEnv, List.length_nil]
  simp only [zN, seval, implies_true, Nat.reduceLeDiff, Nat.reduceEqDiff, reduceCtorEq, reduceIte, stP, intD, stC, tkB_get hq2, hq, tkB_len, hq2, (show (q:Int) < b.length by omega), (show 0 ≤ s.a q by omega)]
  repeat ((with_reducible refine And.intro ?_ ?_); (focus (first | omega | (simp only [lenR]; omega) | (refine qq ?_; rfl) | (refine dq ?_; kernel_rfl) | (intros; simp_all; done))))
  refine callG_of (v := .undef) (fun h => by cases h) ?_
  simp only [zN, seval, implies_true, Nat.reduceLeDiff, Nat.reduceEqDiff, reduceCtorEq, reduceIte, stP, intD]
  repeat ((with_reducible refine And.intro ?_ ?_); (focus (first | omega | (simp only [lenR]; omega) | (refine qq ?_; rfl) | (refine dq ?_; kernel_rfl) | (intros; simp_all; done))))
  refine callG_of (v := .undef) (fun h => by cases h) ?_
  simp only [zN, seval, implies_true, Nat.reduceLeDiff, Nat.reduceEqDiff, reduceCtorEq, reduceIte, stP, intD]
  repeat ((with_reducible refine And.intro ?_ ?_); (focus (first | omega | (simp only [lenR]; omega) | (refine qq ?_; rfl) | (refine dq ?_; kernel_rfl) | (intros; simp_all; done))))
  refine ⟨_, _, WeakR.refl _ _ _, ?_, _, rfl⟩
  rw [decide_eq_false hk, Bool.false_and]

theorem k_IndexFuncInt {τ : Type} (fv : FuncId) (caps : List AV) (St : τ → Sto) (P : Nat → Bool) (y : List Nat) (hy : y.length < 1000000) (hp : ∀ u, ∀ q ∈ y, ACalls Tryz.prog Gl fv (.d (.int .i64 q) :: caps) (St u) (fun r s => r = .d (.bool (P q)) ∧ ∃ u', s = St u')) (u : τ) :
  ACalls Tryz.prog Gl 79 [.d (.sl (y.map intD)), .fn fv caps] (St u)
   (fun r s => ∃ (j : Int) (u' : τ), r = .d (.int .i64 j) ∧ s = St u' ∧ ((j = -1 ∧ y.find? P = none) ∨ ∃ k : Nat, j = k ∧ k < y.length ∧ y.find? P = some (y.getD k default))) := by
 refine acalls_of Tryz.func79 rfl rfl (by simp [Tryz.ntmps79]) (evC_sound rfl _ _ _ _ ?_)
 simp only [Tryz.ntmps79, Tryz.results79, argEnv, List.length_nil]
 simp only [zN, seval, implies_true, Nat.reduceLeDiff, Nat.reduceEqDiff, reduceCtorEq, reduceIte, intD]
 refine loop_of (τ := Nat × τ) (fun v => [(0, .d (.sl (y.map intD))), (1, .fn fv caps), (7, .d (.int .i64 y.length)), (8, .d (.int .i64 v.1))]) (fun v => St v.2) (fun v => v.1 ≤ y.length ∧ (y.take v.1).find? P = none) (fun v => y.length - v.1) (0, u) ⟨Nat.zero_le _, rfl⟩ ?_ ?_
 ·refine weak_sub ?_
  simp only [zN, seval, implies_true, Nat.reduceLeDiff, Nat.reduceEqDiff, reduceCtorEq, reduceIte, intD, Int.cast_ofNat_Int]
 ·rintro ⟨k, u⟩ ⟨hk, hn⟩
  simp only at hk hn
  by_cases h : k < y.length
  ·obtain ⟨q, hq⟩ : ∃ q, q = y.getD k default := ⟨_, rfl⟩
   have hqm : q ∈ y := by rw [hq]; exact mem_getD h
   have gq : (y.map intD).getD k default = .int .i64 q := by rw [a_getD _ _ _ h, ← hq]; rfl
   have hfs := find_step P y h
   rw [hn, Option.none_or, ← hq] at hfs
   simp only [zN, seval, implies_true, Nat.reduceLeDiff, Nat.reduceEqDiff, reduceCtorEq, reduceIte, intD, (show (k:Int) < y.length by omega), h, gq]
   repeat ((with_reducible refine And.intro ?_ ?_); (focus (first | omega | (simp only [lenR]; omega) | (refine qq ?_; rfl) | (refine dq ?_; kernel_rfl) | (intros; simp_all; done))))
   refine callF_go ((hp u q hqm).mono fun r s hr => ?_)
   obtain ⟨rfl, u', rfl⟩ := hr
   simp only [zN, seval, implies_true, Nat.reduceLeDiff, Nat.reduceEqDiff, reduceCtorEq, reduceIte, intD]
   refine ifC.mk (fun hc => ?_) (fun hc => ?_)
   ·rw [if_pos hc] at hfs
    refine ⟨_, _, WeakR.refl _ _ _, _, u', rfl, rfl, .inr ⟨k, rfl, h, ?_⟩⟩
    rw [← hq]
    exact find_of_take P y (k + 1) hfs
   ·rw [if_neg (by rw [hc]; simp)] at hfs
    refine ⟨(k + 1, u'), ⟨h, hfs⟩, by simp only; omega, ?_⟩
    refine weak_sub ?_
    simp only [zN, seval, implies_true, Nat.reduceLeDiff, Nat.reduceEqDiff, reduceCtorEq, reduceIte, intD, @a_wrap ((k:Int) + 1) (by omega)]
  ·have : k = y.length := by omega
   subst this
   rw [List.take_length] at hn
   simp only [zN, seval, implies_true, Nat.reduceLeDiff, Nat.reduceEqDiff, reduceCtorEq, reduceIte, intD, (show ¬ (y.length:Int) < y.length by omega)]
   exact ⟨_, _, WeakR.refl _ _ _, _, u, rfl, rfl, .inl ⟨rfl, hn⟩⟩

def bX : Blk := .box 1 (.ptr 0 0)
theorem stP_ren1 (a b : List NodeT) (s : Al) (m : Nat → Bool) : renS [0, 1, 2, 3, 4, 5] (stP a b s m ++ [bX]) = stP a b s m := by
 show [renB _ _ _, renB _ _ (.map (some .i64) (kidM a)), renB _ _ (.map (some .i64) (kidM b)), renB _ _ _, renB _ _ _, renB _ _ (.map (some .i64) (memM b m))] = _
 rw [kidM_ren, kidM_ren, memM_ren]; rfl
theorem stP_back1 (a b : List NodeT) (s s' : Al) (m m' : Nat → Bool) : backS [0, 1, 2, 3, 4, 5] (stP a b s m ++ [bX]) (stP a b s' m') = stP a b s' m' ++ [bX] := by
 show [backB _ _, backB _ (.map (some .i64) (kidM a)), backB _ (.map (some .i64) (kidM b)), backB _ _, backB _ _, backB _ (.map (some .i64) (memM b m')), _] = _
 rw [kidM_back, kidM_back, memM_back]; rfl
theorem onP1 {f : FuncId} {args : List AV} {a b : List NodeT} {s : Al} {m : Nat → Bool} {R : AV → Sto → Prop} (h : ACalls Tryz.prog Gl f args (stP a b s m) R) (ha : args.map (renV [0, 1, 2, 3, 4, 5] (stP a b s m ++ [bX])) = args) :
  ACalls Tryz.prog Gl f args (stP a b s m ++ [bX]) (fun r s1 => ∃ r0 s0, R r0 s0 ∧ r = back (backId [0, 1, 2, 3, 4, 5] (stP a b s m ++ [bX]).length) r0 ∧ s1 = backS [0, 1, 2, 3, 4, 5] (stP a b s m ++ [bX]) s0) := by
 refine ACalls.under [0, 1, 2, 3, 4, 5] (by decide) (by simp [stP]) ?_
 rw [ha, stP_ren1]; exact h
theorem stP_ren3 (a b : List NodeT) (s : Al) (m : Nat → Bool) (B : Blk) : renS [0, 1, 2, 3, 4, 5, 6] (freezeL (stP a b s m ++ [bX, B]) []) = stP a b s m ++ [bX] := by
 show [renB _ _ _, renB _ _ (.map (some .i64) (kidM a)), renB _ _ (.map (some .i64) (kidM b)), renB _ _ _, renB _ _ _, renB _ _ (.map (some .i64) (memM b m)), _] = _
 rw [kidM_ren, kidM_ren, memM_ren]; rfl
theorem shapeA_ren (a b : List NodeT) (s : Al) (m : Nat → Bool) : renS [1] (stP a b s m ++ [bX]) = [.map (some .i64) (kidM a)] := by
 show [renB _ _ (.map (some .i64) (kidM a))] = _
 rw [kidM_ren]
theorem shapeA_back (a b : List NodeT) (s : Al) (m : Nat → Bool) : backS [1] (stP a b s m ++ [bX]) [.map (some .i64) (kidM a)] = stP a b s m ++ [bX] := by
 show [_, backB _ (.map (some .i64) (kidM a)), _, _, _, _, _] = _
 rw [kidM_back]; rfl
theorem weak_dat {n m : Nat} {σ : Sto} {env : Env} {V : AV} {x : D} (t : Nat) (h : getE env t = V) (hd : V.isD σ = true) (hx : V.toD σ = x) (hr : V.refs = []) : Weak n m env σ ((t, .d x) :: env) σ := by
 have := weak_toD (n := n) (m := m) (σ := σ) (env := env) t (by rw [h]; exact hd)
 rw [h, hr, hx] at this
 exact this
def kidV (l : List NodeT) (p : Int) : AV := if kids l p = [] then .nils else .d (.sl ((kids l p).map intD))
theorem kidV_get (l : List NodeT) (p : Int) : (kidM l (.i p)).getD .nils = kidV l p := by
 rw [kidM_get, kidV]; split <;> rfl
theorem kidV_vg (l : List NodeT) (p : Int) : (kidV l p).vg = true := by rw [kidV]; split <;> rfl
theorem kidV_un (l : List NodeT) (p : Int) : (kidV l p).un = kidV l p := by rw [kidV]; split <;> rfl
theorem kidV_len (l : List NodeT) (p : Int) : (kidV l p).len = (kids l p).length := by
 rw [kidV]
 split
 ·rename_i h; rw [h]; rfl
 ·show ((kids l p).map intD).length = _
  rw [List.length_map]
theorem kidV_hasLen (P : Program) (t : TypeId) (l : List NodeT) (p : Int) : (kidV l p).hasLen P t = (telem P t).isSome := by rw [kidV]; split <;> rfl
theorem kidV_isD (σ : Sto) (l : List NodeT) (p : Int) : (kidV l p).isD σ = true := by rw [kidV]; split <;> rfl
theorem kidV_toD (σ : Sto) (l : List NodeT) (p : Int) : (kidV l p).toD σ = .sl ((kids l p).map intD) := by
 rw [kidV]
 split
 ·rename_i h; rw [h]; rfl
 ·rfl
theorem kidV_refs (l : List NodeT) (p : Int) : (kidV l p).refs = [] := by rw [kidV]; split <;> rfl
def Ge (s : Al) : Prop := ∀ p, -1 ≤ s.b p
theorem Ge.op {a b : List NodeT} {s : Al} (h : Ge s) (hs : Sz a b s) {p : Nat} (hp : p < a.length) (o : Option Nat) : Ge (opS s p o) := by
 cases o with
 | none => exact h
 | some q =>
  intro i
  show -1 ≤ (pairS s p q).b i
  rw [pair_b (by rw [hs.1]; exact hp)]
  split
  ·omega
  ·exact h i
theorem ge_ph1 {a b : List NodeT} {y : List Nat} : ∀ (x : List Nat), (∀ p ∈ x, p < a.length) → ∀ {s : Al}, Sz a b s → Ge s → Ge (ph1 a b y x s)
 | [], _, _, _, h => h
 | p :: x, hx, _, hs, h => ge_ph1 x (fun q hq => hx q (List.mem_cons_of_mem _ hq)) (hs.op p _) (h.op hs (hx p (List.mem_cons_self ..)) _)
theorem ge_ph2 {a b : List NodeT} {y : List Nat} : ∀ (x : List Nat), (∀ p ∈ x, p < a.length) → ∀ {s : Al}, Sz a b s → Ge s → Ge (ph2 a b y x s)
 | [], _, _, _, h => h
 | p :: x, hx, _, hs, h => ge_ph2 x (fun q hq => hx q (List.mem_cons_of_mem _ hq)) (hs.op p _) (h.op hs (hx p (List.mem_cons_self ..)) _)
theorem ge_foldl {a b : List NodeT} {g : Al → Nat → Al} (hg : ∀ s p, Sz a b s → Ge s → Sz a b (g s p) ∧ Ge (g s p)) : ∀ (x : List Nat) {s : Al}, Sz a b s → Ge s → Ge (x.foldl g s)
 | [], _, _, h => h
 | p :: x, _, hs, h => ge_foldl hg x (hg _ p hs h).1 (hg _ p hs h).2
theorem ge_align {a b : List NodeT} : ∀ (f : Nat) (i k : Int) {s : Al}, Sz a b s → Ge s → Ge (alignF a b f i k s)
 | 0, _, _, _, _, h => h
 | f + 1, i, k, s, hs, h => by
  have hx : ∀ p ∈ kids a i, p < a.length := fun p hp => kids_lt hp
  rw [alignF]
  refine ge_foldl (a := a) (b := b) (fun s p hs h => ?_) _ (sz_ph2 _ (sz_ph1 _ hs)) (ge_ph2 _ hx (sz_ph1 _ hs) (ge_ph1 _ hx hs h))
  show Sz a b (if 0 ≤ s.b p then alignF a b f p (s.b p) s else s) ∧ Ge (if 0 ≤ s.b p then alignF a b f p (s.b p) s else s)
  split
  ·exact ⟨sz_align f _ _ hs, ge_align f _ _ hs h⟩
  ·exact ⟨hs, h⟩
theorem shp_nil {l : List NodeT} (h : TreeUp l l.length) {p : Nat} (hp : p < l.length) : shp l p = [] ↔ kids l p = [] := by
 rw [shp, List.map_eq_nil_iff, below_kids h hp]
 cases kids l p with
 | nil => simp
 | cons k r => simp

set_option maxHeartbeats 4000000 in
theorem k_align (a b : List NodeT) (ha : a.length ≤ 100) (hb : b.length ≤ 100) (hca : checkF a = 0) (hcb : checkF b = 0) : ∀ (f : Nat) (i k : Int) (s : Al) (m : Nat → Bool), (a.length : Int) ≤ f + i → -1 ≤ i → i < a.length → Sz a b s → Ge s →
  ACalls Tryz.prog Gl 47 [.ptr 0 0, .d (.int .i64 i), .d (.int .i64 k)] (stP a b s m) (fun r s' => r = .tup [] ∧ ∃ m', s' = stP a b (alignF a b f i k s) m') := by
 have hA := Tr.of hca
 have hB := Tr.of hcb
 intro f
 induction f with
 | zero =>
  intro i k s m hf hi hi2 hs hg
  omega
 | succ f ih =>
  intro i k s m hf hi hi2 hs hge
  obtain ⟨x, hx⟩ : ∃ x, x = kids a i := ⟨_, rfl⟩
  obtain ⟨y, hy⟩ : ∃ y, y = kids b k := ⟨_, rfl⟩
  have hxl : ∀ p ∈ x, p < a.length := fun p hp => by rw [hx] at hp; exact kids_lt hp
  have hyl : ∀ q ∈ y, q < b.length := fun q hq => by rw [hy] at hq; exact kids_lt hq
  have hxn : x.length ≤ 100 := by rw [hx]; exact Nat.le_trans (kidsN_len a i a.length) ha
  have hyn : y.length ≤ 100 := by rw [hy]; exact Nat.le_trans (kidsN_len b k b.length) hb
  have gx1 := kidV_get a i
  have gy1 := kidV_get b k
  refine acalls_of Tryz.func47 rfl rfl (by simp [Tryz.ntmps47]) (evC_sound rfl _ _ _ _ ?_)
  simp only [Tryz.ntmps47, Tryz.results47, argEnv, List.length_nil]
  simp only [zN, seval, implies_true, Nat.reduceLeDiff, Nat.reduceEqDiff, reduceCtorEq, reduceIte, stP, intD, gx1, gy1, kidV_vg, kidV_un, kidV_len, kidV_hasLen]
  repeat ((with_reducible refine And.intro ?_ ?_); (focus (first | omega | (simp only [lenR]; omega) | (refine qq ?_; rfl) | (refine dq ?_; kernel_rfl) | (intros; simp_all; done))))
  have hswX : Weak 119 6 [(33, AV.d (D.int IntKind.i64 0)), (32, AV.d (D.int IntKind.i64 ↑(kids a i).length)), (31, kidV a i), (7, kidV b k), (6, kidV a i), (3, .ptr 6 0)] (stP a b s m ++ [bX])
    [(3, .ptr 6 0), (6, .d (.sl (x.map intD))), (7, .d (.sl (y.map intD))), (31, .d (.sl (x.map intD))), (32, .d (.int .i64 x.length)), (33, .d (.int .i64 0))] (stP a b s m ++ [bX]) := by
   rw [hx, hy]
   exact (weak_dat (V := kidV a i) 6 rfl (kidV_isD _ a i) (kidV_toD _ a i) (kidV_refs a i)).trans ((weak_dat (V := kidV b k) 7 rfl (kidV_isD _ b k) (kidV_toD _ b k) (kidV_refs b k)).trans ((weak_dat (V := kidV a i) 31 rfl (kidV_isD _ a i) (kidV_toD _ a i) (kidV_refs a i)).trans (weak_sub rfl)))
  refine for_of x.length (fun j => [(3, .ptr 6 0), (6, .d (.sl (x.map intD))), (7, .d (.sl (y.map intD))), (31, .d (.sl (x.map intD))), (32, .d (.int .i64 x.length)), (33, .d (.int .i64 j))]) (fun j => stP a b (ph1 a b y (x.take j) s) m ++ [bX]) (fun _ => True) trivial ?_ ?_
  ·refine Weak.trans (weak_sub ?_) hswX
   simp only [zN, seval, implies_true, Nat.reduceLeDiff, Nat.reduceEqDiff, reduceCtorEq, reduceIte, stP, intD]
  ·intro j _ hj
   obtain ⟨s1, hs1⟩ : ∃ s1, s1 = ph1 a b y (x.take j) s := ⟨_, rfl⟩
   have hz1 : Sz a b s1 := by rw [hs1]; exact sz_ph1 _ hs
   rw [← hs1]
   by_cases h : j < x.length
   ·obtain ⟨p, hp⟩ : ∃ p, p = x.getD j default := ⟨_, rfl⟩
    have hpl : p < a.length := by rw [hp]; exact hxl _ (mem_getD h)
    have hst := ph1_step a b y x s h
    rw [← hp, ← hs1] at hst
    have gx : (x.map intD).getD j default = .int .i64 p := by rw [a_getD _ _ _ h, ← hp]; rfl
    rw [hst]
    simp only [zN, seval, implies_true, Nat.reduceLeDiff, Nat.reduceEqDiff, reduceCtorEq, reduceIte, stP, intD, (show (j:Int) < x.length by omega), h, gx, bX]
    repeat ((with_reducible refine And.intro ?_ ?_); (focus (first | omega | (simp only [lenR]; omega) | (refine qq ?_; rfl) | (refine dq ?_; kernel_rfl) | (intros; simp_all; done))))
    refine callF_go ((k_IndexFuncInt 80 [.ptr 6 0, .ptr 7 0] (fun _ : Unit => stC a b s1 m (.int .i64 p)) (fun q => nm b q == nm a p) y (by omega) (fun u q hq => (k_byName a b s1 m p q hpl (hyl q hq)).mono fun r s' hr => ?_) ()).mono fun r s' hr => ?_)
    ·obtain ⟨rfl, rfl⟩ := hr
     refine ⟨?_, (), rfl⟩
     congr 2
     rw [Bool.eq_iff_iff, beq_iff_eq, decide_eq_true_iff]
    ·obtain ⟨j0, u0, rfl, rfl, hcase⟩ := hr
     rcases hcase with ⟨rfl, hn⟩ | ⟨q0, rfl, hq0, hfd⟩
     ·have hc1 : c1 a b y p = none := hn
      rw [hc1]
      simp only [zN, seval, implies_true, Nat.reduceLeDiff, Nat.reduceEqDiff, reduceCtorEq, reduceIte, stP, intD, stC]
      refine weak_to [] [0, 1, 2, 3, 4, 5, 6] rfl (by decide) ?_ (stP_ren3 a b s1 m _)
      simp only [zN, seval, implies_true, Nat.reduceLeDiff, Nat.reduceEqDiff, reduceCtorEq, reduceIte, stP, intD, @a_wrap ((j:Int) + 1) (by omega)]
     ·obtain ⟨r, hr⟩ : ∃ r, r = y.getD q0 default := ⟨_, rfl⟩
      have hrl : r < b.length := by rw [hr]; exact hyl _ (mem_getD hq0)
      have gy : (y.map intD).getD q0 default = .int .i64 r := by rw [a_getD _ _ _ hq0, ← hr]; rfl
      have hc1 : c1 a b y p = some r := by rw [hr]; exact hfd
      rw [hc1]
      simp only [zN, seval, implies_true, Nat.reduceLeDiff, Nat.reduceEqDiff, reduceCtorEq, reduceIte, stP, intD, stC, (show 0 ≤ (q0:Int) by omega), (show (q0:Int) < y.length by omega), hq0, gy]
      repeat ((with_reducible refine And.intro ?_ ?_); (focus (first | omega | (simp only [lenR]; omega) | (refine qq ?_; rfl) | (refine dq ?_; kernel_rfl) | (intros; simp_all; done))))
      refine callF_last (by kernel_rfl) ((onP2 (k_pair a b (by omega) (by omega) s1 m hz1 p r hpl hrl) (args := [.ptr 0 0, .d (.int .i64 p), .d (.int .i64 r)]) rfl).mono fun r' s' hrs => ?_)
      obtain ⟨r0, s0, ⟨rfl, rfl⟩, rfl, rfl⟩ := hrs
      rw [stP_back2]
      simp only [zN, seval, implies_true, Nat.reduceLeDiff, Nat.reduceEqDiff, reduceCtorEq, reduceIte, stP, intD]
      refine weak_to [] [0, 1, 2, 3, 4, 5, 6] rfl (by decide) ?_ (stP_ren3 a b (pairS s1 p r) m _)
      simp only [zN, seval, implies_true, Nat.reduceLeDiff, Nat.reduceEqDiff, reduceCtorEq, reduceIte, stP, intD, @a_wrap ((j:Int) + 1) (by omega)]
   ·have : j = x.length := by omega
    subst this
    rw [List.take_length] at hs1
    have hge1 : Ge s1 := by rw [hs1]; exact ge_ph1 _ hxl hs hge
    simp only [zN, seval, implies_true, Nat.reduceLeDiff, Nat.reduceEqDiff, reduceCtorEq, reduceIte, stP, intD, (show ¬ (x.length:Int) < x.length by omega), bX]
    refine loop_of (τ := Nat × (Nat → Bool)) (fun u => [(3, .ptr 6 0), (6, .d (.sl (x.map intD))), (7, .d (.sl (y.map intD))), (50, .d (.sl (x.map intD))), (51, .d (.int .i64 x.length)), (52, .d (.int .i64 u.1))]) (fun u => stP a b (ph2 a b y (x.take u.1) s1) u.2 ++ [bX])
     (fun u => u.1 ≤ x.length) (fun u => x.length - u.1) (0, m) (Nat.zero_le _) ?_ ?_
    ·refine weak_sub ?_
     simp only [zN, seval, implies_true, Nat.reduceLeDiff, Nat.reduceEqDiff, reduceCtorEq, reduceIte, stP, intD, Int.cast_ofNat_Int]
    ·rintro ⟨j, m⟩ hj
     simp only at hj
     obtain ⟨s2, hs2⟩ : ∃ s2, s2 = ph2 a b y (x.take j) s1 := ⟨_, rfl⟩
     have hz2 : Sz a b s2 := by rw [hs2]; exact sz_ph2 _ hz1
     have hge2 : Ge s2 := by rw [hs2]; exact ge_ph2 _ (fun p hp => hxl p (List.mem_of_mem_take hp)) hz1 hge1
     rw [← hs2]
     by_cases h : j < x.length
     ·obtain ⟨p, hp⟩ : ∃ p, p = x.getD j default := ⟨_, rfl⟩
      have hpl : p < a.length := by rw [hp]; exact hxl _ (mem_getD h)
      have hst := ph2_step a b y x s1 h
      rw [← hp, ← hs2] at hst
      have gx : (x.map intD).getD j default = .int .i64 p := by rw [a_getD _ _ _ h, ← hp]; rfl
      have gb := b_get (s := s2) (p := p) (by rw [hz2.1]; exact hpl)
      have hpt : p < s2.toB.length := by rw [hz2.1]; exact hpl
      have gp1 := kidV_get a p
      have hgp := hge2 p
      simp only [zN, seval, implies_true, Nat.reduceLeDiff, Nat.reduceEqDiff, reduceCtorEq, reduceIte, stP, intD, (show (j:Int) < x.length by omega), h, gx, gb, hpt, bX, (show (p:Int) < a.length by omega), gp1, kidV_vg, kidV_un, kidV_len, kidV_hasLen, bxP_a]
      repeat ((with_reducible refine And.intro ?_ ?_); (focus (first | omega | (simp only [lenR]; omega) | (refine qq ?_; rfl) | (refine dq ?_; kernel_rfl) | (intros; simp_all; done))))
      have hc2 : c2 a b y s2 p = if s2.b p < 0 ∧ shp a p ≠ [] then y.find? (fun q => decide (s2.a q < 0) && (shp b q == shp a p)) else none := rfl
      refine ifC.mk (fun hc => ?_) (fun hc => ?_)
      ·have hcn : c2 a b y s2 p = none := by
        rw [hc2, if_neg]
        rintro ⟨g1, g2⟩
        rw [Ne, shp_nil hA.up hpl] at g2
        have : s2.b p = -1 := by omega
        rw [this] at hc
        have : (kids a p).length ≠ 0 := fun e => g2 (List.eq_nil_of_length_eq_zero e)
        simp at hc
        exact g2 hc
       have hst' : ph2 a b y (x.take (j + 1)) s1 = s2 := by rw [hst, hcn]; rfl
       refine ⟨(j + 1, m), h, by simp only; omega, ?_⟩
       simp only [hst']
       refine weak_sub ?_
       simp only [zN, seval, implies_true, Nat.reduceLeDiff, Nat.reduceEqDiff, reduceCtorEq, reduceIte, stP, intD, @a_wrap ((j:Int) + 1) (by omega)]
      ·have hb1 : s2.b p = -1 ∧ kids a p ≠ [] := by
        simp only [Bool.or_eq_false_iff, bne_eq_false_iff_eq, beq_eq_false_iff_ne, ne_eq, Int.natCast_eq_zero, List.length_eq_zero_iff] at hc
        exact hc
       have hcf : c2 a b y s2 p = y.find? (fun q => decide (s2.a q < 0) && (shp b q == shp a p)) := by
        rw [hc2, if_pos ⟨by omega, fun e => hb1.2 ((shp_nil hA.up hpl).1 e)⟩]
       have hsl : (shp a p).length ≤ 100 := Nat.le_trans (shTo_len a p a.length) ha
       repeat ((with_reducible refine And.intro ?_ ?_); (focus (first | omega | (simp only [lenR]; omega) | (refine qq ?_; rfl) | (refine dq ?_; kernel_rfl) | (intros; simp_all; done))))
       have hkk := k_shape (Gl := Gl) a ha hca p hpl
       rw [← shapeA_ren a b s2 m] at hkk
       have hgo := ACalls.under (σ := stP a b s2 m ++ [bX]) (args := [.agg [.d (.sl (a.map NodeT.toD)), .mapr 1], .d (.int .i64 p)]) [1] (by decide) (by simp [stP]) hkk
       refine callF_go (hgo.mono fun r s' hrs => ?_)
       obtain ⟨r0, s0, ⟨rfl, rfl⟩, rfl, rfl⟩ := hrs
       rw [shapeA_ren, shapeA_back, back_d]
       simp only [zN, seval, implies_true, Nat.reduceLeDiff, Nat.reduceEqDiff, reduceCtorEq, reduceIte, stP, intD, bX]
       repeat ((with_reducible refine And.intro ?_ ?_); (focus (first | omega | (simp only [lenR]; omega) | (refine qq ?_; rfl) | (refine dq ?_; kernel_rfl) | (intros; simp_all; done))))
       refine callF_go ((k_IndexFuncInt 83 [.ptr 6 0, .ptr 7 0] (fun m' : Nat → Bool => stC a b s2 m' (.sl ((shp a p).map .str))) (fun q => decide (s2.a q < 0) && (shp b q == shp a p)) y (by omega) (fun m' q hq => k_byShape a b hb hcb s2 m' hz2 (shp a p) (by omega) q (hyl q hq)) m).mono fun r s' hr => ?_)
       obtain ⟨j0, m1, rfl, rfl, hcase⟩ := hr
       rcases hcase with ⟨rfl, hn⟩ | ⟨q0, rfl, hq0, hfd⟩
       ·have hst' : ph2 a b y (x.take (j + 1)) s1 = s2 := by rw [hst, hcf, hn]; rfl
        simp only [zN, seval, implies_true, Nat.reduceLeDiff, Nat.reduceEqDiff, reduceCtorEq, reduceIte, stP, intD, stC]
        refine ⟨(j + 1, m1), h, by simp only; omega, ?_⟩
        simp only [hst']
        refine weak_to [] [0, 1, 2, 3, 4, 5, 6] rfl (by decide) ?_ (stP_ren3 a b s2 m1 _)
        simp only [zN, seval, implies_true, Nat.reduceLeDiff, Nat.reduceEqDiff, reduceCtorEq, reduceIte, stP, intD, @a_wrap ((j:Int) + 1) (by omega)]
       ·obtain ⟨r, hr⟩ : ∃ r, r = y.getD q0 default := ⟨_, rfl⟩
        have hrl : r < b.length := by rw [hr]; exact hyl _ (mem_getD hq0)
        have gy : (y.map intD).getD q0 default = .int .i64 r := by rw [a_getD _ _ _ hq0, ← hr]; rfl
        have hst' : ph2 a b y (x.take (j + 1)) s1 = pairS s2 p r := by rw [hst, hcf, hfd, ← hr]; rfl
        simp only [zN, seval, implies_true, Nat.reduceLeDiff, Nat.reduceEqDiff, reduceCtorEq, reduceIte, stP, intD, stC, (show 0 ≤ (q0:Int) by omega), (show (q0:Int) < y.length by omega), hq0, gy]
        repeat ((with_reducible refine And.intro ?_ ?_); (focus (first | omega | (simp only [lenR]; omega) | (refine qq ?_; rfl) | (refine dq ?_; kernel_rfl) | (intros; simp_all; done))))
        refine callF_last (by kernel_rfl) ((onP2 (k_pair a b (by omega) (by omega) s2 m1 hz2 p r hpl hrl) (args := [.ptr 0 0, .d (.int .i64 p), .d (.int .i64 r)]) rfl).mono fun r' s' hrs => ?_)
        obtain ⟨r0, s0, ⟨rfl, rfl⟩, rfl, rfl⟩ := hrs
        rw [stP_back2]
        simp only [zN, seval, implies_true, Nat.reduceLeDiff, Nat.reduceEqDiff, reduceCtorEq, reduceIte, stP, intD]
        refine ⟨(j + 1, m1), h, by simp only; omega, ?_⟩
        simp only [hst']
        refine weak_to [] [0, 1, 2, 3, 4, 5, 6] rfl (by decide) ?_ (stP_ren3 a b (pairS s2 p r) m1 _)
        simp only [zN, seval, implies_true, Nat.reduceLeDiff, Nat.reduceEqDiff, reduceCtorEq, reduceIte, stP, intD, @a_wrap ((j:Int) + 1) (by omega)]
     ·have : j = x.length := by omega
      subst this
      rw [List.take_length] at hs2
      obtain ⟨g, hg⟩ : ∃ g : Al → Nat → Al, g = fun (s : Al) (p : Nat) => if 0 ≤ s.b p then alignF a b f p (s.b p) s else s := ⟨_, rfl⟩
      have hgz : ∀ s p, Sz a b s → Sz a b (g s p) := fun s p h => by
       rw [hg]
       show Sz a b (if 0 ≤ s.b p then alignF a b f p (s.b p) s else s)
       split
       ·exact sz_align f _ _ h
       ·exact h
      have hgg : ∀ s p, Sz a b s → Ge s → Sz a b (g s p) ∧ Ge (g s p) := fun s p h1 h2 => ⟨hgz s p h1, by
       rw [hg]
       show Ge (if 0 ≤ s.b p then alignF a b f p (s.b p) s else s)
       split
       ·exact ge_align f _ _ h1 h2
       ·exact h2⟩
      have hfin : alignF a b (f + 1) i k s = x.foldl g s2 := by rw [hs2, hs1, hx, hy, hg]; rfl
      rw [hfin]
      simp only [zN, seval, implies_true, Nat.reduceLeDiff, Nat.reduceEqDiff, reduceCtorEq, reduceIte, stP, intD, (show ¬ (x.length:Int) < x.length by omega), bX]
      refine loop_of (τ := Nat × (Nat → Bool)) (fun u => [(3, .ptr 6 0), (94, .d (.sl (x.map intD))), (95, .d (.int .i64 x.length)), (96, .d (.int .i64 u.1))]) (fun u => stP a b ((x.take u.1).foldl g s2) u.2 ++ [bX])
       (fun u => u.1 ≤ x.length) (fun u => x.length - u.1) (0, m) (Nat.zero_le _) ?_ ?_
      ·refine weak_sub ?_
       simp only [zN, seval, implies_true, Nat.reduceLeDiff, Nat.reduceEqDiff, reduceCtorEq, reduceIte, stP, intD, Int.cast_ofNat_Int]
      ·rintro ⟨j, m⟩ hj
       simp only at hj
       obtain ⟨t, ht⟩ : ∃ t, t = (x.take j).foldl g s2 := ⟨_, rfl⟩
       have hzt : Sz a b t := by rw [ht]; exact sz_foldl hgz _ hz2
       have hgt : Ge t := by rw [ht]; exact ge_foldl hgg _ hz2 hge2
       by_cases h : j < x.length
       ·obtain ⟨p, hp⟩ : ∃ p, p = x.getD j default := ⟨_, rfl⟩
        have hpx : p ∈ x := by rw [hp]; exact mem_getD h
        have hpl : p < a.length := hxl p hpx
        have hst := foldl_step g x s2 h
        rw [← hp, ← ht] at hst
        have gx : (x.map intD).getD j default = .int .i64 p := by rw [a_getD _ _ _ h, ← hp]; rfl
        have gb := b_get (s := t) (p := p) (by rw [hzt.1]; exact hpl)
        have hpt : p < t.toB.length := by rw [hzt.1]; exact hpl
        have hgp := hgt p
        have hgt2 : g t p = if 0 ≤ t.b p then alignF a b f p (t.b p) t else t := by rw [hg]
        rw [← ht]
        simp only [zN, seval, implies_true, Nat.reduceLeDiff, Nat.reduceEqDiff, reduceCtorEq, reduceIte, stP, intD, (show (j:Int) < x.length by omega), h, gx, gb, hpt, bX, (show (p:Int) < a.length by omega)]
        repeat ((with_reducible refine And.intro ?_ ?_); (focus (first | omega | (simp only [lenR]; omega) | (refine qq ?_; rfl) | (refine dq ?_; kernel_rfl) | (intros; simp_all; done))))
        refine ifC.mk (fun hc => ?_) (fun hc => ?_)
        ·have hc : 0 ≤ t.b p := by
          have : t.b p ≠ -1 := by simpa using hc
          omega
         rw [if_pos hc] at hgt2
         repeat ((with_reducible refine And.intro ?_ ?_); (focus (first | omega | (simp only [lenR]; omega) | (refine qq ?_; rfl) | (refine dq ?_; kernel_rfl) | (intros; simp_all; done))))
         (try simp only [zN, seval, implies_true, Nat.reduceLeDiff, Nat.reduceEqDiff, reduceCtorEq, reduceIte, stP, intD, h, gx, gb, hpt, (show (j:Int) < x.length by omega), (show (p:Int) < a.length by omega)])
         repeat ((with_reducible refine And.intro ?_ ?_); (focus (first | omega | (simp only [lenR]; omega) | (refine qq ?_; rfl) | (refine dq ?_; kernel_rfl) | (intros; simp_all; done))))
         have hpi : i < p := by
          rw [hx] at hpx
          have h1 := (mem_kids.1 hpx).2
          have h2 := (tree_par hA.up hpl).2
          omega
         refine callF_last (by kernel_rfl) ((onP1 (ih p (t.b p) t m (by omega) (by omega) (by omega) hzt hgt) (args := [.ptr 0 0, .d (.int .i64 p), .d (.int .i64 (t.b p))]) rfl).mono fun r' s' hrs => ?_)
         obtain ⟨r0, s0, ⟨rfl, m1, rfl⟩, rfl, rfl⟩ := hrs
         rw [stP_back1]
         simp only [zN, seval, implies_true, Nat.reduceLeDiff, Nat.reduceEqDiff, reduceCtorEq, reduceIte, stP, intD]
         refine ⟨(j + 1, m1), h, by simp only; omega, ?_⟩
         simp only [hst, hgt2]
         refine weak_sub ?_
         simp only [zN, seval, implies_true, Nat.reduceLeDiff, Nat.reduceEqDiff, reduceCtorEq, reduceIte, stP, intD, @a_wrap ((j:Int) + 1) (by omega)]
        ·have hc : ¬ 0 ≤ t.b p := by
          have : t.b p = -1 := by simpa using hc
          omega
         rw [if_neg hc] at hgt2
         refine ⟨(j + 1, m), h, by simp only; omega, ?_⟩
         simp only [hst, hgt2]
         refine weak_sub ?_
         simp only [zN, seval, implies_true, Nat.reduceLeDiff, Nat.reduceEqDiff, reduceCtorEq, reduceIte, stP, intD, @a_wrap ((j:Int) + 1) (by omega)]
       ·have : j = x.length := by omega
        subst this
        rw [List.take_length] at ht
        simp only [zN, seval, implies_true, Nat.reduceLeDiff, Nat.reduceEqDiff, reduceCtorEq, reduceIte, stP, intD, (show ¬ (x.length:Int) < x.length by omega), bX, List.take_length, ← ht]
        refine ⟨_, _, weakR_to [] [0, 1, 2, 3, 4, 5] rfl (by simp) rfl (stP_ren1 a b t m), rfl, m, rfl⟩

theorem back_fresh (σ : Sto) (B : Blk) (hB : backB (backId [] σ.length) B = B) : backS [] σ [B] = σ ++ [B] := by
 apply List.ext_getElem?
 intro i
 rcases Nat.lt_trichotomy i σ.length with h | h | h
 ·rw [List.getElem?_append_left h]
  simp [backS, idxIn, h, blkAt, show i < σ.length + 1 by omega]
 ·subst h
  simp [backS, idxIn, blkAt]
  exact hB
 ·rw [List.getElem?_eq_none (by simp [backS]; omega), List.getElem?_eq_none (by simp; omega)]
theorem back_tree (N : Nat) (x : D) : back (backId [] N) (.agg [.d x, .mapr 0]) = .agg [.d x, .mapr N] := by
 simp [back, backL, backId]
def vf (x y : Bool) : AV := if y = true then .d (.sl [.int .i64 (-1)]) else onV x (.osl 6 0 1)
theorem stP_ren1' (a b : List NodeT) (s : Al) (m : Nat → Bool) (B : Blk) : renS [0, 1, 2, 3, 4, 5] (stP a b s m ++ [B]) = stP a b s m := by
 show [renB _ _ _, renB _ _ (.map (some .i64) (kidM a)), renB _ _ (.map (some .i64) (kidM b)), renB _ _ _, renB _ _ _, renB _ _ (.map (some .i64) (memM b m))] = _
 rw [kidM_ren, kidM_ren, memM_ren]; rfl
theorem stP_back1' (a b : List NodeT) (s s' : Al) (m m' : Nat → Bool) (B : Blk) : backS [0, 1, 2, 3, 4, 5] (stP a b s m ++ [B]) (stP a b s' m') = stP a b s' m' ++ [B] := by
 show [backB _ _, backB _ (.map (some .i64) (kidM a)), backB _ (.map (some .i64) (kidM b)), backB _ _, backB _ _, backB _ (.map (some .i64) (memM b m')), _] = _
 rw [kidM_back, kidM_back, memM_back]; rfl
theorem onP1' {f : FuncId} {args : List AV} {a b : List NodeT} {s : Al} {m : Nat → Bool} {B : Blk} {R : AV → Sto → Prop} (h : ACalls Tryz.prog Gl f args (stP a b s m) R) (ha : args.map (renV [0, 1, 2, 3, 4, 5] (stP a b s m ++ [B])) = args) :
  ACalls Tryz.prog Gl f args (stP a b s m ++ [B]) (fun r s1 => ∃ r0 s0, R r0 s0 ∧ r = back (backId [0, 1, 2, 3, 4, 5] (stP a b s m ++ [B]).length) r0 ∧ s1 = backS [0, 1, 2, 3, 4, 5] (stP a b s m ++ [B]) s0) := by
 refine ACalls.under [0, 1, 2, 3, 4, 5] (by decide) (by simp [stP]) ?_
 rw [ha, stP_ren1']; exact h
theorem vf_t (x : Bool) : vf x true = .d (.sl [.int .i64 (-1)]) := rfl
theorem vf_f (x : Bool) : vf x false = onV x (.osl 6 0 1) := rfl
theorem renV_vf {ρ : List Nat} (σ : Sto) (x : Bool) {y : Bool} (h : idxIn ρ 6 = some 6) : renV ρ σ (vf x y) = vf x y := by
 cases y
 ·cases x
  ·rfl
  ·show ren0 ρ σ (.osl 6 0 1) = .osl 6 0 1
   simp only [ren0, h]
 ·rfl
theorem back_osl (N k : Nat) : back (backId [] N) (.osl 0 0 k) = .osl N 0 k := by
 simp [back, backId]
theorem k_MOf (a b : List NodeT) (ha : a.length ≤ 100) (hb : b.length ≤ 100) : Pure Tryz.prog Gl 20 [.d (.sl (a.map NodeT.toD)), .d (.sl (b.map NodeT.toD))] (ofD a b) := by
 refine Pure.of2t2 ?_
 refine acalls_of Tryz.func20 rfl rfl (by simp [Tryz.ntmps20]) (evC_sound rfl _ _ _ _ ?_)
 simp only [Tryz.ntmps20, Tryz.results20, argEnv, List.length_nil]
 simp only [zN, seval, implies_true, Nat.reduceLeDiff, Nat.reduceEqDiff, reduceCtorEq, reduceIte, intD]
 refine callF_pure (k_chk2 a b (by omega) (by omega)) ?_
 simp only [zN, seval, implies_true, Nat.reduceLeDiff, Nat.reduceEqDiff, reduceCtorEq, reduceIte, intD]
 refine ifC.mk (fun h1 => ?_) (fun h1 => ?_)
 ·have h1 : ¬ chk2 a b = 0 := by simpa using h1
  refine ⟨_, _, ret_tdata rfl rfl, ?_, rfl⟩
  unfold chk2 at h1 ⊢
  by_cases h2 : checkF a = 0
  ·rw [if_pos h2] at h1 ⊢
   rw [ofF, if_pos h2, if_neg h1]; rfl
  ·rw [if_neg h2] at h1 ⊢
   rw [ofF, if_neg h2]; rfl
 have h1 : chk2 a b = 0 := by simpa using h1
 obtain ⟨hca, hcb⟩ : checkF a = 0 ∧ checkF b = 0 := by
  unfold chk2 at h1
  by_cases h2 : checkF a = 0
  ·rw [if_pos h2] at h1; exact ⟨h2, h1⟩
  ·rw [if_neg h2] at h1; exact absurd h1 h2
 have hof : ofF a b = (pairsOf a b, 0) := by rw [ofF, if_pos hca, if_pos hcb]
 rw [hof]
 obtain ⟨MA, hMA⟩ : ∃ MA : Blk, MA = .map (some .i64) (kidM a) := ⟨_, rfl⟩
 obtain ⟨MB, hMB⟩ : ∃ MB : Blk, MB = .map (some .i64) (kidM b) := ⟨_, rfl⟩
 have hMAr : ∀ ρ σ, renB ρ σ MA = MA := fun ρ σ => by rw [hMA, kidM_ren]
 have hMBr : ∀ ρ σ, renB ρ σ MB = MB := fun ρ σ => by rw [hMB, kidM_ren]
 refine ⟨.inr (.inr (.inr (evFree_can
  (fun L => [(7, onV (L 14) (.ptr 0 0)), (32, onV (L 13) (.ptr 0 0)), (31, onV (L 12) (.agg [.d (.sl (a.map NodeT.toD)), .mapr 1, .d (.sl (b.map NodeT.toD)), .mapr 2, .osl 3 0 a.length, .osl 4 0 b.length, .mapr 5])), (30, onV (L 11) (.mapr 5)), (29, onV (L 10) (.osl 4 0 b.length)), (28, onV (L 9) (.d (.int .i64 b.length))), (27, onV (L 8) (.d (.sl (b.map NodeT.toD)))), (26, onV (L 7) (.osl 3 0 a.length)), (25, onV (L 6) (.d (.int .i64 a.length))), (24, onV (L 5) (.d (.sl (a.map NodeT.toD)))), (23, vf (L 4) (L 7)), (22, onV (L 3) (.agg [.d (.sl (b.map NodeT.toD)), .mapr 2])), (21, onV (L 2) (.d (.sl (b.map NodeT.toD)))), (20, onV (L 1) (.agg [.d (.sl (a.map NodeT.toD)), .mapr 1])), (19, onV (L 0) (.d (.sl (a.map NodeT.toD)))), (0, .d (.sl (a.map NodeT.toD))), (1, .d (.sl (b.map NodeT.toD)))])
  (fun L => [onB (L 13) (.box 7 (.agg [.d (.sl (a.map NodeT.toD)), .mapr 1, .d (.sl (b.map NodeT.toD)), .mapr 2, .osl 3 0 a.length, .osl 4 0 b.length, .mapr 5])), onB (L 1) MA, onB (L 3) MB, onB (L 7) (.arr 1 ((List.replicate a.length (-1 : Int)).map (.int .i64))), onB (L 10) (.arr 1 (List.replicate b.length (.bool false))), onB (L 11) (.map (some .i64) fun _ => none), onB (L 4 && !L 7) (.arr 1 [.int .i64 (-1)])]) (by kernel_rfl) ?_ ?_ ?_))), ?_⟩
 ·refine weak_to [] [0, 1, 2, 3, 4, 5, 6] rfl (by simp) ?_ rfl
  rfl
 ·simp only [stepsL]
  refine ⟨?_, ?_, ?_, ?_, ?_, ?_, ?_, ?_, ?_, ?_, ?_, ?_, ?_, ?_, ?_, trivial⟩
  ·intro L hc hL hp
   have h1 : L 1 = false := nope hL fun h => predsL_on (hc 1 _ rfl h) 0 (by kernel_rfl)
   have h3 : L 3 = false := nope h1 fun h => predsL_on (hc 3 _ rfl h) 1 (by kernel_rfl)
   have h7 : L 7 = false := nope h3 fun h => predsL_on (hc 7 _ rfl h) 3 (by kernel_rfl)
   have h12 : L 12 = false := nope h1 fun h => predsL_on (hc 12 _ rfl h) 1 (by kernel_rfl)
   have h13 : L 13 = false := nope h12 fun h => predsL_on (hc 13 _ rfl h) 12 (by kernel_rfl)
   have h14 : L 14 = false := nope hL fun h => predsL_on (hc 14 _ rfl h) 0 (by kernel_rfl)
   (simp only [predsL, Region.binds, frB] at hp; (try simp only [Nat.zero_add, Nat.reduceAdd] at hL); simp only [zN, seval, implies_true, Nat.reduceLeDiff, Nat.reduceEqDiff, reduceCtorEq, reduceIte, intD, hL, hp, h1, h3, h7, h12, h13, h14, updB, frV, Bool.not_true, Bool.not_false, vf_t, vf_f])
   repeat ((with_reducible refine And.intro ?_ ?_); (focus (first | omega | (simp only [lenR]; omega) | (refine qq ?_; rfl) | (refine dq ?_; kernel_rfl) | (intros; simp_all; done))))
   refine weak_sub ?_
   simp only [zN, seval, implies_true, Nat.reduceLeDiff, Nat.reduceEqDiff, reduceCtorEq, reduceIte, intD, onV_t, onV_f]
  ·intro L hc hL hp
   have h3 : L 3 = false := nope hL fun h => predsL_on (hc 3 _ rfl h) 1 (by kernel_rfl)
   have h7 : L 7 = false := nope h3 fun h => predsL_on (hc 7 _ rfl h) 3 (by kernel_rfl)
   have h12 : L 12 = false := nope hL fun h => predsL_on (hc 12 _ rfl h) 1 (by kernel_rfl)
   have h13 : L 13 = false := nope h12 fun h => predsL_on (hc 13 _ rfl h) 12 (by kernel_rfl)
   have h14 : L 14 = false := nope hL fun h => predsL_on (hc 14 _ rfl h) 1 (by kernel_rfl)
   (simp only [predsL, Region.binds, frB] at hp; (try simp only [Nat.zero_add, Nat.reduceAdd] at hL); simp only [zN, seval, implies_true, Nat.reduceLeDiff, Nat.reduceEqDiff, reduceCtorEq, reduceIte, intD, hL, hp, h3, h7, h12, h13, h14, updB, frV, Bool.not_true, Bool.not_false, vf_t, vf_f])
   repeat ((with_reducible refine And.intro ?_ ?_); (focus (first | omega | (simp only [lenR]; omega) | (refine qq ?_; rfl) | (refine dq ?_; kernel_rfl) | (intros; simp_all; done))))
   refine callF_go ((ACalls.under [] (by simp) (by simp) (k_grow a (by omega) (checkF_ok hca).2.2.2.1)).mono fun r s hrs => ?_)
   obtain ⟨r0, s0, ⟨rfl, rfl⟩, rfl, rfl⟩ := hrs
   rw [back_fresh _ _ (kidM_back a _), back_tree, ← hMA]
   simp only [zN, seval, implies_true, Nat.reduceLeDiff, Nat.reduceEqDiff, reduceCtorEq, reduceIte, intD]
   refine weak_to [] [0, 7, 2, 3, 4, 5, 6] rfl (by simp) ?_ (by first | (simp only [zN, seval, implies_true, Nat.reduceLeDiff, Nat.reduceEqDiff, reduceCtorEq, reduceIte, intD, renB_onB, hMAr, hMBr]; done) | (simp only [zN, seval, implies_true, Nat.reduceLeDiff, Nat.reduceEqDiff, reduceCtorEq, reduceIte, intD, renB_onB, hMAr, hMBr]; rfl))
   simp only [zN, seval, implies_true, Nat.reduceLeDiff, Nat.reduceEqDiff, reduceCtorEq, reduceIte, intD, renV_onV, renB_onB, renV_undef, onV_f, onV_t, vf_t, vf_f, renV_vf _ _ (show idxIn [0, 7, 2, 3, 4, 5, 6] 6 = some 6 from rfl)]
   try rfl
  ·intro L hc hL hp
   have h3 : L 3 = false := nope hL fun h => predsL_on (hc 3 _ rfl h) 2 (by kernel_rfl)
   have h7 : L 7 = false := nope h3 fun h => predsL_on (hc 7 _ rfl h) 3 (by kernel_rfl)
   have h12 : L 12 = false := nope h3 fun h => predsL_on (hc 12 _ rfl h) 3 (by kernel_rfl)
   have h13 : L 13 = false := nope h12 fun h => predsL_on (hc 13 _ rfl h) 12 (by kernel_rfl)
   have h14 : L 14 = false := nope hL fun h => predsL_on (hc 14 _ rfl h) 2 (by kernel_rfl)
   (simp only [predsL, Region.binds, frB] at hp; (try simp only [Nat.zero_add, Nat.reduceAdd] at hL); simp only [zN, seval, implies_true, Nat.reduceLeDiff, Nat.reduceEqDiff, reduceCtorEq, reduceIte, intD, hL, hp, h3, h7, h12, h13, h14, updB, frV, Bool.not_true, Bool.not_false, vf_t, vf_f])
   repeat ((with_reducible refine And.intro ?_ ?_); (focus (first | omega | (simp only [lenR]; omega) | (refine qq ?_; rfl) | (refine dq ?_; kernel_rfl) | (intros; simp_all; done))))
   refine weak_sub ?_
   simp only [zN, seval, implies_true, Nat.reduceLeDiff, Nat.reduceEqDiff, reduceCtorEq, reduceIte, intD, onV_t, onV_f]
  ·intro L hc hL hp
   have h7 : L 7 = false := nope hL fun h => predsL_on (hc 7 _ rfl h) 3 (by kernel_rfl)
   have h12 : L 12 = false := nope hL fun h => predsL_on (hc 12 _ rfl h) 3 (by kernel_rfl)
   have h13 : L 13 = false := nope h12 fun h => predsL_on (hc 13 _ rfl h) 12 (by kernel_rfl)
   have h14 : L 14 = false := nope hL fun h => predsL_on (hc 14 _ rfl h) 3 (by kernel_rfl)
   (simp only [predsL, Region.binds, frB] at hp; (try simp only [Nat.zero_add, Nat.reduceAdd] at hL); simp only [zN, seval, implies_true, Nat.reduceLeDiff, Nat.reduceEqDiff, reduceCtorEq, reduceIte, intD, hL, hp, h7, h12, h13, h14, updB, frV, Bool.not_true, Bool.not_false, vf_t, vf_f])
   repeat ((with_reducible refine And.intro ?_ ?_); (focus (first | omega | (simp only [lenR]; omega) | (refine qq ?_; rfl) | (refine dq ?_; kernel_rfl) | (intros; simp_all; done))))
   refine callF_go ((ACalls.under [] (by simp) (by simp) (k_grow b (by omega) (checkF_ok hcb).2.2.2.1)).mono fun r s hrs => ?_)
   obtain ⟨r0, s0, ⟨rfl, rfl⟩, rfl, rfl⟩ := hrs
   rw [back_fresh _ _ (kidM_back b _), back_tree, ← hMB]
   simp only [zN, seval, implies_true, Nat.reduceLeDiff, Nat.reduceEqDiff, reduceCtorEq, reduceIte, intD]
   refine weak_to [] [0, 1, 7, 3, 4, 5, 6] rfl (by simp) ?_ (by first | (simp only [zN, seval, implies_true, Nat.reduceLeDiff, Nat.reduceEqDiff, reduceCtorEq, reduceIte, intD, renB_onB, hMAr, hMBr]; done) | (simp only [zN, seval, implies_true, Nat.reduceLeDiff, Nat.reduceEqDiff, reduceCtorEq, reduceIte, intD, renB_onB, hMAr, hMBr]; rfl))
   simp only [zN, seval, implies_true, Nat.reduceLeDiff, Nat.reduceEqDiff, reduceCtorEq, reduceIte, intD, renV_onV, renB_onB, renV_undef, onV_f, onV_t, vf_t, vf_f, renV_vf _ _ (show idxIn [0, 1, 7, 3, 4, 5, 6] 6 = some 6 from rfl)]
   try rfl
  ·intro L hc hL hp
   have h7 : L 7 = false := nope hL fun h => predsL_on (hc 7 _ rfl h) 4 (by kernel_rfl)
   have h12 : L 12 = false := nope h7 fun h => predsL_on (hc 12 _ rfl h) 7 (by kernel_rfl)
   have h13 : L 13 = false := nope h12 fun h => predsL_on (hc 13 _ rfl h) 12 (by kernel_rfl)
   have h14 : L 14 = false := nope hL fun h => predsL_on (hc 14 _ rfl h) 4 (by kernel_rfl)
   (simp only [predsL, Region.binds, frB] at hp; (try simp only [Nat.zero_add, Nat.reduceAdd] at hL); simp only [zN, seval, implies_true, Nat.reduceLeDiff, Nat.reduceEqDiff, reduceCtorEq, reduceIte, intD, hL, hp, h7, h12, h13, h14, updB, frV, Bool.not_true, Bool.not_false, vf_t, vf_f])
   repeat ((with_reducible refine And.intro ?_ ?_); (focus (first | omega | (simp only [lenR]; omega) | (refine qq ?_; rfl) | (refine dq ?_; kernel_rfl) | (intros; simp_all; done))))
   refine weak_to [] [0, 1, 2, 3, 4, 5, 7] rfl (by simp) ?_ (by first | (simp only [zN, seval, implies_true, Nat.reduceLeDiff, Nat.reduceEqDiff, reduceCtorEq, reduceIte, intD, renB_onB, hMAr, hMBr]; done) | (simp only [zN, seval, implies_true, Nat.reduceLeDiff, Nat.reduceEqDiff, reduceCtorEq, reduceIte, intD, renB_onB, hMAr, hMBr]; rfl))
   simp only [zN, seval, implies_true, Nat.reduceLeDiff, Nat.reduceEqDiff, reduceCtorEq, reduceIte, intD, renV_onV, renB_onB, renV_undef, onV_f, onV_t, vf_t, vf_f]
   try rfl
  ·intro L hc hL hp
   have h6 : L 6 = false := nope hL fun h => predsL_on (hc 6 _ rfl h) 5 (by kernel_rfl)
   have h7 : L 7 = false := nope h6 fun h => predsL_on (hc 7 _ rfl h) 6 (by kernel_rfl)
   have h12 : L 12 = false := nope h7 fun h => predsL_on (hc 12 _ rfl h) 7 (by kernel_rfl)
   have h13 : L 13 = false := nope h12 fun h => predsL_on (hc 13 _ rfl h) 12 (by kernel_rfl)
   have h14 : L 14 = false := nope hL fun h => predsL_on (hc 14 _ rfl h) 5 (by kernel_rfl)
   (simp only [predsL, Region.binds, frB] at hp; (try simp only [Nat.zero_add, Nat.reduceAdd] at hL); simp only [zN, seval, implies_true, Nat.reduceLeDiff, Nat.reduceEqDiff, reduceCtorEq, reduceIte, intD, hL, hp, h6, h7, h12, h13, h14, updB, frV, Bool.not_true, Bool.not_false, vf_t, vf_f])
   repeat ((with_reducible refine And.intro ?_ ?_); (focus (first | omega | (simp only [lenR]; omega) | (refine qq ?_; rfl) | (refine dq ?_; kernel_rfl) | (intros; simp_all; done))))
   refine weak_sub ?_
   simp only [zN, seval, implies_true, Nat.reduceLeDiff, Nat.reduceEqDiff, reduceCtorEq, reduceIte, intD, onV_t, onV_f]
  ·intro L hc hL hp
   have h7 : L 7 = false := nope hL fun h => predsL_on (hc 7 _ rfl h) 6 (by kernel_rfl)
   have h12 : L 12 = false := nope h7 fun h => predsL_on (hc 12 _ rfl h) 7 (by kernel_rfl)
   have h13 : L 13 = false := nope h12 fun h => predsL_on (hc 13 _ rfl h) 12 (by kernel_rfl)
   have h14 : L 14 = false := nope hL fun h => predsL_on (hc 14 _ rfl h) 6 (by kernel_rfl)
   (simp only [predsL, Region.binds, frB] at hp; (try simp only [Nat.zero_add, Nat.reduceAdd] at hL); simp only [zN, seval, implies_true, Nat.reduceLeDiff, Nat.reduceEqDiff, reduceCtorEq, reduceIte, intD, hL, hp, h7, h12, h13, h14, updB, frV, Bool.not_true, Bool.not_false, vf_t, vf_f])
   repeat ((with_reducible refine And.intro ?_ ?_); (focus (first | omega | (simp only [lenR]; omega) | (refine qq ?_; rfl) | (refine dq ?_; kernel_rfl) | (intros; simp_all; done))))
   refine weak_sub ?_
   simp only [zN, seval, implies_true, Nat.reduceLeDiff, Nat.reduceEqDiff, reduceCtorEq, reduceIte, intD, onV_t, onV_f]
  ·intro L hc hL hp
   have h12 : L 12 = false := nope hL fun h => predsL_on (hc 12 _ rfl h) 7 (by kernel_rfl)
   have h13 : L 13 = false := nope h12 fun h => predsL_on (hc 13 _ rfl h) 12 (by kernel_rfl)
   have h14 : L 14 = false := nope hL fun h => predsL_on (hc 14 _ rfl h) 7 (by kernel_rfl)
   (simp only [predsL, Region.binds, frB] at hp; (try simp only [Nat.zero_add, Nat.reduceAdd] at hL); simp only [zN, seval, implies_true, Nat.reduceLeDiff, Nat.reduceEqDiff, reduceCtorEq, reduceIte, intD, hL, hp, h12, h13, h14, updB, frV, Bool.not_true, Bool.not_false, vf_t, vf_f])
   repeat ((with_reducible refine And.intro ?_ ?_); (focus (first | omega | (simp only [lenR]; omega) | (refine qq ?_; rfl) | (refine dq ?_; kernel_rfl) | (intros; simp_all; done))))
   refine callF_go (ACalls.data ?_)
   show ACalls _ _ _ [.d (.sl [.int .i64 (-1)]), .d (.int .i64 a.length)] [Blk.dead, onB (L 1) MA, MB, Blk.dead, onB (L 10) (.arr 1 (List.replicate b.length (.bool false))), onB (L 11) (.map (some .i64) fun _ => none), .frz 1 [.int .i64 (-1)]] _
   refine (ACalls.under (args := [.d (.sl [.int .i64 (-1)]), .d (.int .i64 a.length)]) [] (by simp) (by simp) (k_Repeat a.length (by omega))).mono fun r s hrs => ?_
   obtain ⟨r0, s0, ⟨rfl, rfl⟩, rfl, rfl⟩ := hrs
   rw [back_fresh _ _ rfl, back_osl]
   simp only [zN, seval, implies_true, Nat.reduceLeDiff, Nat.reduceEqDiff, reduceCtorEq, reduceIte, intD]
   refine weak_to [] [0, 1, 2, 7, 4, 5, 8] rfl (by simp) ?_ (by first | (simp only [zN, seval, implies_true, Nat.reduceLeDiff, Nat.reduceEqDiff, reduceCtorEq, reduceIte, intD, renB_onB, hMAr, hMBr]; done) | (simp only [zN, seval, implies_true, Nat.reduceLeDiff, Nat.reduceEqDiff, reduceCtorEq, reduceIte, intD, renB_onB, hMAr, hMBr]; rfl))
   simp only [zN, seval, implies_true, Nat.reduceLeDiff, Nat.reduceEqDiff, reduceCtorEq, reduceIte, intD, renV_onV, renB_onB, renV_undef, onV_f, onV_t, vf_t, vf_f]
   try rfl
  ·intro L hc hL hp
   have h9 : L 9 = false := nope hL fun h => predsL_on (hc 9 _ rfl h) 8 (by kernel_rfl)
   have h10 : L 10 = false := nope h9 fun h => predsL_on (hc 10 _ rfl h) 9 (by kernel_rfl)
   have h12 : L 12 = false := nope h10 fun h => predsL_on (hc 12 _ rfl h) 10 (by kernel_rfl)
   have h13 : L 13 = false := nope h12 fun h => predsL_on (hc 13 _ rfl h) 12 (by kernel_rfl)
   have h14 : L 14 = false := nope hL fun h => predsL_on (hc 14 _ rfl h) 8 (by kernel_rfl)
   (simp only [predsL, Region.binds, frB] at hp; (try simp only [Nat.zero_add, Nat.reduceAdd] at hL); simp only [zN, seval, implies_true, Nat.reduceLeDiff, Nat.reduceEqDiff, reduceCtorEq, reduceIte, intD, hL, hp, h9, h10, h12, h13, h14, updB, frV, Bool.not_true, Bool.not_false, vf_t, vf_f])
   repeat ((with_reducible refine And.intro ?_ ?_); (focus (first | omega | (simp only [lenR]; omega) | (refine qq ?_; rfl) | (refine dq ?_; kernel_rfl) | (intros; simp_all; done))))
   refine weak_sub ?_
   simp only [zN, seval, implies_true, Nat.reduceLeDiff, Nat.reduceEqDiff, reduceCtorEq, reduceIte, intD, onV_t, onV_f]
  ·intro L hc hL hp
   have h10 : L 10 = false := nope hL fun h => predsL_on (hc 10 _ rfl h) 9 (by kernel_rfl)
   have h12 : L 12 = false := nope h10 fun h => predsL_on (hc 12 _ rfl h) 10 (by kernel_rfl)
   have h13 : L 13 = false := nope h12 fun h => predsL_on (hc 13 _ rfl h) 12 (by kernel_rfl)
   have h14 : L 14 = false := nope hL fun h => predsL_on (hc 14 _ rfl h) 9 (by kernel_rfl)
   (simp only [predsL, Region.binds, frB] at hp; (try simp only [Nat.zero_add, Nat.reduceAdd] at hL); simp only [zN, seval, implies_true, Nat.reduceLeDiff, Nat.reduceEqDiff, reduceCtorEq, reduceIte, intD, hL, hp, h10, h12, h13, h14, updB, frV, Bool.not_true, Bool.not_false, vf_t, vf_f])
   repeat ((with_reducible refine And.intro ?_ ?_); (focus (first | omega | (simp only [lenR]; omega) | (refine qq ?_; rfl) | (refine dq ?_; kernel_rfl) | (intros; simp_all; done))))
   refine weak_sub ?_
   simp only [zN, seval, implies_true, Nat.reduceLeDiff, Nat.reduceEqDiff, reduceCtorEq, reduceIte, intD, onV_t, onV_f]
  ·intro L hc hL hp
   have h12 : L 12 = false := nope hL fun h => predsL_on (hc 12 _ rfl h) 10 (by kernel_rfl)
   have h13 : L 13 = false := nope h12 fun h => predsL_on (hc 13 _ rfl h) 12 (by kernel_rfl)
   have h14 : L 14 = false := nope hL fun h => predsL_on (hc 14 _ rfl h) 10 (by kernel_rfl)
   (simp only [predsL, Region.binds, frB] at hp; (try simp only [Nat.zero_add, Nat.reduceAdd] at hL); simp only [zN, seval, implies_true, Nat.reduceLeDiff, Nat.reduceEqDiff, reduceCtorEq, reduceIte, intD, hL, hp, h12, h13, h14, updB, frV, Bool.not_true, Bool.not_false, vf_t, vf_f])
   simp only [zN, seval, implies_true, Nat.reduceLeDiff, Nat.reduceEqDiff, reduceCtorEq, reduceIte, intD, mk_bools b.length (by omega), mkS_bools]
   repeat ((with_reducible refine And.intro ?_ ?_); (focus (first | omega | (simp only [lenR]; omega) | (refine qq ?_; rfl) | (refine dq ?_; kernel_rfl) | (intros; simp_all; done))))
   refine weak_to [] [0, 1, 2, 3, 7, 5, 6] rfl (by simp) ?_ (by first | (simp only [zN, seval, implies_true, Nat.reduceLeDiff, Nat.reduceEqDiff, reduceCtorEq, reduceIte, intD, renB_onB, hMAr, hMBr]; done) | (simp only [zN, seval, implies_true, Nat.reduceLeDiff, Nat.reduceEqDiff, reduceCtorEq, reduceIte, intD, renB_onB, hMAr, hMBr]; rfl))
   simp only [zN, seval, implies_true, Nat.reduceLeDiff, Nat.reduceEqDiff, reduceCtorEq, reduceIte, intD, renV_onV, renB_onB, renV_undef, onV_f, onV_t, vf_t, vf_f, renV_vf _ _ (show idxIn [0, 1, 2, 3, 7, 5, 6] 6 = some 6 from rfl)]
   try rfl
  ·intro L hc hL hp
   have h12 : L 12 = false := nope hL fun h => predsL_on (hc 12 _ rfl h) 11 (by kernel_rfl)
   have h13 : L 13 = false := nope h12 fun h => predsL_on (hc 13 _ rfl h) 12 (by kernel_rfl)
   have h14 : L 14 = false := nope hL fun h => predsL_on (hc 14 _ rfl h) 11 (by kernel_rfl)
   (simp only [predsL, Region.binds, frB] at hp; (try simp only [Nat.zero_add, Nat.reduceAdd] at hL); simp only [zN, seval, implies_true, Nat.reduceLeDiff, Nat.reduceEqDiff, reduceCtorEq, reduceIte, intD, hL, hp, h12, h13, h14, updB, frV, Bool.not_true, Bool.not_false, vf_t, vf_f])
   repeat ((with_reducible refine And.intro ?_ ?_); (focus (first | omega | (simp only [lenR]; omega) | (refine qq ?_; rfl) | (refine dq ?_; kernel_rfl) | (intros; simp_all; done))))
   refine weak_to [] [0, 1, 2, 3, 4, 7, 6] rfl (by simp) ?_ (by first | (simp only [zN, seval, implies_true, Nat.reduceLeDiff, Nat.reduceEqDiff, reduceCtorEq, reduceIte, intD, renB_onB, hMAr, hMBr]; done) | (simp only [zN, seval, implies_true, Nat.reduceLeDiff, Nat.reduceEqDiff, reduceCtorEq, reduceIte, intD, renB_onB, hMAr, hMBr]; rfl))
   simp only [zN, seval, implies_true, Nat.reduceLeDiff, Nat.reduceEqDiff, reduceCtorEq, reduceIte, intD, renV_onV, renB_onB, renV_undef, onV_f, onV_t, vf_t, vf_f, renV_vf _ _ (show idxIn [0, 1, 2, 3, 4, 7, 6] 6 = some 6 from rfl)]
   try rfl
  ·intro L hc hL hp
   have h13 : L 13 = false := nope hL fun h => predsL_on (hc 13 _ rfl h) 12 (by kernel_rfl)
   have h14 : L 14 = false := nope hL fun h => predsL_on (hc 14 _ rfl h) 12 (by kernel_rfl)
   (simp only [predsL, Region.binds, frB] at hp; (try simp only [Nat.zero_add, Nat.reduceAdd] at hL); simp only [zN, seval, implies_true, Nat.reduceLeDiff, Nat.reduceEqDiff, reduceCtorEq, reduceIte, intD, hL, hp, h13, h14, updB, frV, Bool.not_true, Bool.not_false, vf_t, vf_f])
   repeat ((with_reducible refine And.intro ?_ ?_); (focus (first | omega | (simp only [lenR]; omega) | (refine qq ?_; rfl) | (refine dq ?_; kernel_rfl) | (intros; simp_all; done))))
   refine weak_sub ?_
   simp only [zN, seval, implies_true, Nat.reduceLeDiff, Nat.reduceEqDiff, reduceCtorEq, reduceIte, intD, onV_t, onV_f]
  ·intro L hc hL hp
   have h14 : L 14 = false := nope hL fun h => predsL_on (hc 14 _ rfl h) 13 (by kernel_rfl)
   (simp only [predsL, Region.binds, frB] at hp; (try simp only [Nat.zero_add, Nat.reduceAdd] at hL); simp only [zN, seval, implies_true, Nat.reduceLeDiff, Nat.reduceEqDiff, reduceCtorEq, reduceIte, intD, hL, hp, h14, updB, frV, Bool.not_true, Bool.not_false, vf_t, vf_f])
   repeat ((with_reducible refine And.intro ?_ ?_); (focus (first | omega | (simp only [lenR]; omega) | (refine qq ?_; rfl) | (refine dq ?_; kernel_rfl) | (intros; simp_all; done))))
   refine weak_to [] [7, 1, 2, 3, 4, 5, 6] rfl (by simp) ?_ (by first | (simp only [zN, seval, implies_true, Nat.reduceLeDiff, Nat.reduceEqDiff, reduceCtorEq, reduceIte, intD, renB_onB, hMAr, hMBr]; done) | (simp only [zN, seval, implies_true, Nat.reduceLeDiff, Nat.reduceEqDiff, reduceCtorEq, reduceIte, intD, renB_onB, hMAr, hMBr]; rfl))
   simp only [zN, seval, implies_true, Nat.reduceLeDiff, Nat.reduceEqDiff, reduceCtorEq, reduceIte, intD, renV_onV, renB_onB, renV_undef, onV_f, onV_t, vf_t, vf_f, renV_vf _ _ (show idxIn [7, 1, 2, 3, 4, 5, 6] 6 = some 6 from rfl)]
   try rfl
  ·intro L hc hL hp
   (simp only [predsL, Region.binds, frB] at hp; (try simp only [Nat.zero_add, Nat.reduceAdd] at hL); simp only [zN, seval, implies_true, Nat.reduceLeDiff, Nat.reduceEqDiff, reduceCtorEq, reduceIte, intD, hL, hp, updB, frV, Bool.not_true, Bool.not_false, vf_t, vf_f])
   repeat ((with_reducible refine And.intro ?_ ?_); (focus (first | omega | (simp only [lenR]; omega) | (refine qq ?_; rfl) | (refine dq ?_; kernel_rfl) | (intros; simp_all; done))))
   refine weak_sub ?_
   simp only [zN, seval, implies_true, Nat.reduceLeDiff, Nat.reduceEqDiff, reduceCtorEq, reduceIte, intD, onV_t, onV_f]
 ·simp only [zN, seval, implies_true, Nat.reduceLeDiff, Nat.reduceEqDiff, reduceCtorEq, reduceIte, intD, onV_t, onB_t, onB_f, Bool.and_true, Bool.not_true, vf_t]
  repeat ((with_reducible refine And.intro ?_ ?_); (focus (first | omega | (simp only [lenR]; omega) | (refine qq ?_; rfl) | (refine dq ?_; kernel_rfl) | (intros; simp_all; done))))
  have est : [Blk.box 7 (.agg [.d (.sl (a.map NodeT.toD)), .mapr 1, .d (.sl (b.map NodeT.toD)), .mapr 2, .osl 3 0 a.length, .osl 4 0 b.length, .mapr 5]), MA, MB, .arr 1 ((List.replicate a.length (-1 : Int)).map (.int .i64)), .arr 1 (List.replicate b.length (.bool false)), .map (some .i64) fun _ => none, .dead] = stP a b (iniS a.length b.length) (fun _ => false) ++ [.dead] := by
   rw [hMA, hMB, stP, memM_none, tkB]
   simp [iniS]
  rw [est]
  have hg0 : Ge (iniS a.length b.length) := fun p => by rw [ini_b]; omega
  have hk := k_align (Gl := Gl) a b ha hb hca hcb (a.length + 1) (-1) (-1) (iniS a.length b.length) (fun _ => false) (by omega) (by omega) (by omega) (ini_sz a b) hg0
  refine callF_go ((onP1' hk (args := [.ptr 0 0, .d (.int .i64 (-1)), .d (.int .i64 (-1))]) rfl).mono fun r s hrs => ?_)
  obtain ⟨r0, s0, ⟨rfl, m1, rfl⟩, rfl, rfl⟩ := hrs
  rw [stP_back1']
  obtain ⟨t, ht⟩ : ∃ t, t = finS a b := ⟨_, rfl⟩
  have ht2 : alignF a b (a.length + 1) (-1) (-1) (iniS a.length b.length) = t := ht.symm
  have hzt : Sz a b t := by rw [ht]; exact sz_align _ _ _ (ini_sz a b)
  rw [ht2]
  obtain ⟨MM, hMM⟩ : ∃ MM : Blk, MM = .map (some .i64) (memM b m1) := ⟨_, rfl⟩
  have hMMr : ∀ ρ σ, renB ρ σ MM = MM := fun ρ σ => by rw [hMM, memM_ren]
  have est2 : stP a b t m1 ++ [.dead] = [Blk.box 7 (.agg [.d (.sl (a.map NodeT.toD)), .mapr 1, .d (.sl (b.map NodeT.toD)), .mapr 2, .osl 3 0 a.length, .osl 4 0 b.length, .mapr 5]), MA, MB, .arr 1 (t.toB.map (.int .i64)), .arr 1 (tkB t), MM, .dead] := by
   rw [hMA, hMB, hMM]; rfl
  rw [est2]
  clear est est2 hk ht2 hMM hMA hMB
  have hpo : pairsOf a b = pairsC t a.length b.length := by rw [pairsOf, ← ht]; rfl
  rw [hpo]
  simp only [zN, seval, implies_true, Nat.reduceLeDiff, Nat.reduceEqDiff, reduceCtorEq, reduceIte, intD]
  repeat ((with_reducible refine And.intro ?_ ?_); (focus (first | omega | (simp only [lenR]; omega) | (refine qq ?_; rfl) | (refine dq ?_; kernel_rfl) | (intros; simp_all; done))))
  refine for_of a.length (fun j => [(7, .ptr 0 0), (8, .osl 7 0 (pairsA t j).length), (38, .osl 3 0 a.length), (39, .d (.int .i64 a.length)), (40, .d (.int .i64 j))]) (fun j => [.box 7 (.agg [.d (.sl (a.map NodeT.toD)), .mapr 1, .d (.sl (b.map NodeT.toD)), .mapr 2, .osl 3 0 a.length, .osl 4 0 b.length, .mapr 5]), MA, MB, .arr 1 (t.toB.map (.int .i64)), .arr 1 (tkB t), MM, .dead, .arr 2 ((pairsA t j).map PairT.toD)]) (fun _ => True) trivial ?_ ?_
  ·refine (weak_nils 8 2 rfl).trans ?_
   refine weak_to [] [0, 1, 2, 3, 4, 5, 6, 7] rfl (by simp) ?_ (by first | (simp only [zN, seval, implies_true, Nat.reduceLeDiff, Nat.reduceEqDiff, reduceCtorEq, reduceIte, intD, hMAr, hMBr, hMMr]; done) | (simp only [zN, seval, implies_true, Nat.reduceLeDiff, Nat.reduceEqDiff, reduceCtorEq, reduceIte, intD, hMAr, hMBr, hMMr]; rfl))
   simp only [zN, seval, implies_true, Nat.reduceLeDiff, Nat.reduceEqDiff, reduceCtorEq, reduceIte, intD, Int.cast_ofNat_Int]
   try rfl
  ·intro j _ hjl
   have hlen := pairsA_len t j
   by_cases hj : j < a.length
   ·have hst := pairsA_step t j
    have gb := b_get (s := t) (p := j) (by rw [hzt.1]; exact hj)
    have hjt : j < t.toB.length := by rw [hzt.1]; exact hj
    have hsl : (pairsA t (j + 1)).length = (pairsA t j).length + 1 := by rw [hst]; simp
    have hm : (pairsA t (j + 1)).map PairT.toD = List.take (pairsA t j).length ((pairsA t j).map PairT.toD) ++ [.agg [.int .i64 j, .int .i64 (t.b j)]] := by
     rw [hst, List.map_append, take_all]; rfl
    simp only [zN, seval, implies_true, Nat.reduceLeDiff, Nat.reduceEqDiff, reduceCtorEq, reduceIte, intD, (show (j:Int) < a.length by omega), gb, hjt]
    repeat ((with_reducible refine And.intro ?_ ?_); (focus (first | omega | (simp only [lenR]; omega) | (refine qq ?_; rfl) | (refine dq ?_; kernel_rfl) | (intros; simp_all; done))))
    rw [hsl, hm]
    refine weak_to [] [0, 1, 2, 3, 4, 5, 6, 9] rfl (by simp) ?_ (by first | (simp only [zN, seval, implies_true, Nat.reduceLeDiff, Nat.reduceEqDiff, reduceCtorEq, reduceIte, intD, hMAr, hMBr, hMMr]; done) | (simp only [zN, seval, implies_true, Nat.reduceLeDiff, Nat.reduceEqDiff, reduceCtorEq, reduceIte, intD, hMAr, hMBr, hMMr]; rfl))
    simp only [zN, seval, implies_true, Nat.reduceLeDiff, Nat.reduceEqDiff, reduceCtorEq, reduceIte, intD, @a_wrap ((j:Int) + 1) (by omega)]
    try rfl
   ·have : j = a.length := by omega
    subst this
    simp only [zN, seval, implies_true, Nat.reduceLeDiff, Nat.reduceEqDiff, reduceCtorEq, reduceIte, intD, (show ¬ (a.length:Int) < a.length by omega)]
    repeat ((with_reducible refine And.intro ?_ ?_); (focus (first | omega | (simp only [lenR]; omega) | (refine qq ?_; rfl) | (refine dq ?_; kernel_rfl) | (intros; simp_all; done))))
    refine for_of b.length (fun j => [(7, .ptr 0 0), (8, .osl 7 0 (pairsC t a.length j).length), (55, .osl 4 0 b.length), (56, .d (.int .i64 b.length)), (57, .d (.int .i64 j))]) (fun j => [.box 7 (.agg [.d (.sl (a.map NodeT.toD)), .mapr 1, .d (.sl (b.map NodeT.toD)), .mapr 2, .osl 3 0 a.length, .osl 4 0 b.length, .mapr 5]), MA, MB, .arr 1 (t.toB.map (.int .i64)), .arr 1 (tkB t), MM, .dead, .arr 2 ((pairsC t a.length j).map PairT.toD)]) (fun _ => True) trivial ?_ ?_
    ·refine weak_to [] [0, 1, 2, 3, 4, 5, 6, 7] rfl (by simp) ?_ ?_
     ·simp only [zN, seval, implies_true, Nat.reduceLeDiff, Nat.reduceEqDiff, reduceCtorEq, reduceIte, intD, Int.cast_ofNat_Int, pairsC_0]
      try rfl
     ·rw [pairsC_0]
      (first | (simp only [zN, seval, implies_true, Nat.reduceLeDiff, Nat.reduceEqDiff, reduceCtorEq, reduceIte, intD, hMAr, hMBr, hMMr]; done) | (simp only [zN, seval, implies_true, Nat.reduceLeDiff, Nat.reduceEqDiff, reduceCtorEq, reduceIte, intD, hMAr, hMBr, hMMr]; rfl))
    ·intro j _ hjl
     have hlenC := pairsC_len t a.length j
     by_cases hj : j < b.length
     ·have hst := pairsC_step t a.length j
      have hjt : j < t.toA.length := by rw [hzt.2]; exact hj
      have ga := tkB_get (s := t) (q := j) hjt
      simp only [zN, seval, implies_true, Nat.reduceLeDiff, Nat.reduceEqDiff, reduceCtorEq, reduceIte, intD, (show (j:Int) < b.length by omega), ga, hjt, tkB_len]
      repeat ((with_reducible refine And.intro ?_ ?_); (focus (first | omega | (simp only [lenR]; omega) | (refine qq ?_; rfl) | (refine dq ?_; kernel_rfl) | (intros; simp_all; done))))
      refine ifC.mk (fun h3 => ?_) (fun h3 => ?_)
      ·have h3 : t.a j < 0 := by
        have : ¬ 0 ≤ t.a j := by simpa using h3
        omega
       rw [if_pos h3] at hst
       have hsl : (pairsC t a.length (j + 1)).length = (pairsC t a.length j).length + 1 := by rw [hst]; simp
       have hm : (pairsC t a.length (j + 1)).map PairT.toD = List.take (pairsC t a.length j).length ((pairsC t a.length j).map PairT.toD) ++ [.agg [.int .i64 (-1), .int .i64 j]] := by
        rw [hst, List.map_append, take_all]; rfl
       (try simp only [zN, seval, implies_true, Nat.reduceLeDiff, Nat.reduceEqDiff, reduceCtorEq, reduceIte, intD])
       repeat ((with_reducible refine And.intro ?_ ?_); (focus (first | omega | (simp only [lenR]; omega) | (refine qq ?_; rfl) | (refine dq ?_; kernel_rfl) | (intros; simp_all; done))))
       rw [hsl, hm]
       refine weak_to [] [0, 1, 2, 3, 4, 5, 6, 9] rfl (by simp) ?_ (by first | (simp only [zN, seval, implies_true, Nat.reduceLeDiff, Nat.reduceEqDiff, reduceCtorEq, reduceIte, intD, hMAr, hMBr, hMMr]; done) | (simp only [zN, seval, implies_true, Nat.reduceLeDiff, Nat.reduceEqDiff, reduceCtorEq, reduceIte, intD, hMAr, hMBr, hMMr]; rfl))
       simp only [zN, seval, implies_true, Nat.reduceLeDiff, Nat.reduceEqDiff, reduceCtorEq, reduceIte, intD, @a_wrap ((j:Int) + 1) (by omega)]
       try rfl
      ·have h3 : ¬ t.a j < 0 := by
        have : 0 ≤ t.a j := by simpa using h3
        omega
       rw [if_neg h3] at hst
       repeat ((with_reducible refine And.intro ?_ ?_); (focus (first | omega | (simp only [lenR]; omega) | (refine qq ?_; rfl) | (refine dq ?_; kernel_rfl) | (intros; simp_all; done))))
       rw [hst]
       refine weak_to [] [0, 1, 2, 3, 4, 5, 6, 7] rfl (by simp) ?_ (by first | (simp only [zN, seval, implies_true, Nat.reduceLeDiff, Nat.reduceEqDiff, reduceCtorEq, reduceIte, intD, hMAr, hMBr, hMMr]; done) | (simp only [zN, seval, implies_true, Nat.reduceLeDiff, Nat.reduceEqDiff, reduceCtorEq, reduceIte, intD, hMAr, hMBr, hMMr]; rfl))
       simp only [zN, seval, implies_true, Nat.reduceLeDiff, Nat.reduceEqDiff, reduceCtorEq, reduceIte, intD, @a_wrap ((j:Int) + 1) (by omega)]
       try rfl
     ·have : j = b.length := by omega
      subst this
      simp only [zN, seval, implies_true, Nat.reduceLeDiff, Nat.reduceEqDiff, reduceCtorEq, reduceIte, intD, (show ¬ (b.length:Int) < b.length by omega)]
      refine ⟨_, _, ret_tdata rfl (x := .sl ((pairsC t a.length b.length).map PairT.toD)) ?_, rfl, rfl⟩
      show D.sl (List.take (pairsC t a.length b.length).length ((pairsC t a.length b.length).map PairT.toD)) = _
      rw [take_all]
 ·simp only [zN, seval, implies_true, Nat.reduceLeDiff, Nat.reduceEqDiff, reduceCtorEq, reduceIte, intD]
  repeat ((with_reducible refine And.intro ?_ ?_); (focus (first | omega | (simp only [lenR]; omega) | (refine qq ?_; rfl) | (refine dq ?_; kernel_rfl) | (intros; simp_all; done))))
  refine callF_hat rfl (by kernel_rfl)

def rvL (xs : List (List UInt8)) (k : Nat) : List D := (List.range xs.length).map fun p => .str (if p < k ∨ xs.length ≤ p + k then xs.getD (xs.length - 1 - p) [] else xs.getD p [])

def upN (l : List NodeT) : Nat → Int → List (List UInt8)
 | 0, _ => []
 | f + 1, i => if 0 ≤ i then nm l i.toNat :: upN l f (par l i.toNat) else []
theorem upN_neg (l : List NodeT) (f : Nat) {i : Int} (h : i < 0) : upN l f i = [] := by
 cases f with
 | zero => rfl
 | succ f => rw [upN, if_neg (by omega)]
theorem upN_nat (l : List NodeT) (f i : Nat) : upN l (f + 1) i = nm l i :: upN l f (par l i) := by
 rw [upN, if_pos (by omega), Int.toNat_natCast]
theorem upN_fuel {l : List NodeT} (h : TreeUp l l.length) : ∀ (f g : Nat) (i : Int), i < l.length → i < f → i < g → upN l f i = upN l g i := by
 intro f
 induction f with
 | zero =>
  intro g i hi hf hg
  rw [upN_neg l _ (by omega), upN_neg l _ (by omega)]
 | succ f ih =>
  intro g i hi hf hg
  cases g with
  | zero => rw [upN_neg l _ (by omega), upN_neg l _ (by omega)]
  | succ g =>
   by_cases h0 : 0 ≤ i
   ·obtain ⟨k, rfl⟩ : ∃ k : Nat, i = k := ⟨i.toNat, by omega⟩
    have tp := tree_par h (show k < l.length by omega)
    rw [upN_nat, upN_nat, ih g (par l k) (by omega) (by omega) (by omega)]
   ·rw [upN_neg l _ (by omega), upN_neg l _ (by omega)]
theorem upN_len (l : List NodeT) : ∀ (f : Nat) (i : Int), (upN l f i).length ≤ f := by
 intro f
 induction f with
 | zero => intro i; exact Nat.le_refl _
 | succ f ih =>
  intro i
  rw [upN]
  split
  ·have := ih (par l i.toNat)
   simp only [List.length_cons]; omega
  ·simp
def pathN (l : List NodeT) (i : Nat) : List (List UInt8) := (upN l (i + 1) i).reverse
theorem pathN_len (l : List NodeT) (i : Nat) : (pathN l i).length ≤ i + 1 := by
 rw [pathN, List.length_reverse]; exact upN_len l _ _
def pathF (l : List NodeT) (i : Int) : List (List UInt8) := if checkF l = 0 ∧ 0 ≤ i ∧ i < l.length then pathN l i.toNat else []

def fdS (at_ : Int) (s : List UInt8) : Sto := [.box 1 (.d (.int .i64 at_)), .box 1 (.d (.str s))]
def pathI (l : List NodeT) (i : Int) : List (List UInt8) := (upN l (i + 1).toNat i).reverse
theorem pathI_nat (l : List NodeT) (i : Nat) : pathI l i = pathN l i := by
 rw [pathI, pathN, show ((i : Int) + 1).toNat = i + 1 by omega]
theorem pathI_neg (l : List NodeT) {i : Int} (h : i < 0) : pathI l i = [] := by rw [pathI, upN_neg l _ h]; rfl
theorem pathI_kid {l : List NodeT} (ht : TreeUp l l.length) {q : Nat} (hq : q < l.length) : pathI l q = pathI l (par l q) ++ [nm l q] := by
 have tp := tree_par ht hq
 rw [pathI_nat, pathN, upN_nat, List.reverse_cons, pathI, upN_fuel ht (par l q + 1).toNat q (par l q) (by omega) (by omega) (by omega)]
end YtmedpoeeoihfmaaGreatDoor
end Go.Proofs

namespace Go.Proofs
open Go.AM
namespace YtmedpoeeoihfmaaGreatDoor
theorem pathN_kid {l : List NodeT} (ht : TreeUp l l.length) {q : Nat} (hq : q < l.length) : pathN l q = pathI l (par l q) ++ [nm l q] := by
 rw [← pathI_nat]; exact pathI_kid ht hq
theorem of_ok {a b : List NodeT} (h : (ofF a b).2 = 0) : checkF a = 0 ∧ checkF b = 0 ∧ (ofF a b).1 = pairsOf a b := by
 unfold ofF at h ⊢
 by_cases h1 : checkF a = 0
 ·rw [if_pos h1] at h ⊢
  by_cases h2 : checkF b = 0
  ·rw [if_pos h2]; exact ⟨h1, h2, rfl⟩
  ·rw [if_neg h2] at h; exact absurd h h2
 ·rw [if_neg h1] at h; exact absurd h h1
def belP (l : List NodeT) (i k : Nat) : Bool := decide ((pathN l i).length < (pathN l k).length) && decide ((pathN l k).take (pathN l i).length = pathN l i)

theorem zF : type_of% (And.intro @vcRules (And.intro @dRules (And.intro @bRules (And.intro @tyRules (And.intro @xRules (And.intro @pickV_true (And.intro @pickV_false (And.intro @Int.natCast_add @Int.natCast_one)))))))) := And.intro @vcRules (And.intro @dRules (And.intro @bRules (And.intro @tyRules (And.intro @xRules (And.intro @pickV_true (And.intro @pickV_false (And.intro @Int.natCast_add @Int.natCast_one)))))))
variable {Gl : Globs}
def wN (N : Nat) : D := .agg [.int .u64 ((N / 18446744073709551616 : Nat) : Int), .int .u64 ((N % 18446744073709551616 : Nat) : Int)]
theorem wN_isAgg (N : Nat) : (wN N).isAgg = true := rfl
theorem wN_cells (N : Nat) : (wN N).cells = [.int .u64 ((N / 18446744073709551616 : Nat) : Int), .int .u64 ((N % 18446744073709551616 : Nat) : Int)] := rfl
def gD (m : Bool) (N : Nat) : D := .agg [.bool m, .int .u64 ((N / 18446744073709551616 : Nat) : Int), .int .u64 ((N % 18446744073709551616 : Nat) : Int)]
theorem gD_isAgg (m : Bool) (N : Nat) : (gD m N).isAgg = true := rfl
theorem gD_cells (m : Bool) (N : Nat) : (gD m N).cells = [.bool m, .int .u64 ((N / 18446744073709551616 : Nat) : Int), .int .u64 ((N % 18446744073709551616 : Nat) : Int)] := rfl
theorem wG : type_of% (And.intro @wN_isAgg (And.intro @wN_cells (And.intro @gD_isAgg (And.intro @gD_cells (@yRules))))) := And.intro @wN_isAgg (And.intro @wN_cells (And.intro @gD_isAgg (And.intro @gD_cells (@yRules))))
theorem wrapu (n : Int) : IntKind.u64.wrap n = n % 18446744073709551616 := IntKind.wrap_u64 n
theorem wN_eq {N : Nat} {a b : Int} (ha : a = (N / 18446744073709551616 : Nat)) (hb : b = (N % 18446744073709551616 : Nat)) : D.agg [.int .u64 a, .int .u64 b] = wN N := by subst ha; subst hb; rfl
theorem wN_small {b : Nat} (hb : b < 18446744073709551616) : D.agg [.int .u64 0, .int .u64 (b : Int)] = wN b := wN_eq (by omega) (by omega)
theorem c60 (M N : Nat) (h : M + N < 340282366920938463463374607431768211456) : Pure Tryz.prog Gl 100 [.d (wN M), .d (wN N)] (.d (wN (M + N))) := by
 refine Pure.of2 ?_
 refine acalls_of Tryz.func100 rfl rfl (by simp [Tryz.ntmps100]) (evC_sound rfl _ _ _ _ ?_)
 simp only [Tryz.ntmps100, Tryz.results100, argEnv, List.length_nil]
 simp only [zF, seval, implies_true, Nat.reduceLeDiff, Nat.reduceEqDiff, reduceCtorEq, reduceIte, wG]
 repeat ((with_reducible refine And.intro ?_ ?_); (focus (first | omega | (simp only [lenR]; omega) | (refine qq ?_; rfl) | (refine dq ?_; kernel_rfl) | (intros; simp_all; done))))
 refine ifC.mk (fun hc => ?_) (fun hc => ?_)
 ·have hc : (((M % 18446744073709551616 : Nat) : Int) + ((N % 18446744073709551616 : Nat) : Int)) % 18446744073709551616 < ((M % 18446744073709551616 : Nat) : Int) := by simpa only [wrapu, decide_eq_true_eq] using hc
  refine ⟨_, _, ret_d, ?_, rfl⟩
  congr 1
  exact wN_eq (by simp only [wrapu]; omega) (by simp only [wrapu]; omega)
 ·have hc : ¬ (((M % 18446744073709551616 : Nat) : Int) + ((N % 18446744073709551616 : Nat) : Int)) % 18446744073709551616 < ((M % 18446744073709551616 : Nat) : Int) := by simpa only [wrapu, decide_eq_false_iff_not] using hc
  refine ⟨_, _, ret_d, ?_, rfl⟩
  congr 1
  exact wN_eq (by simp only [wrapu]; omega) (by simp only [wrapu]; omega)
theorem c62 (M N : Nat) (h : N ≤ M) (hM : M < 340282366920938463463374607431768211456) : Pure Tryz.prog Gl 102 [.d (wN M), .d (wN N)] (.d (wN (M - N))) := by
 refine Pure.of2 ?_
 refine acalls_of Tryz.func102 rfl rfl (by simp [Tryz.ntmps102]) (evC_sound rfl _ _ _ _ ?_)
 simp only [Tryz.ntmps102, Tryz.results102, argEnv, List.length_nil]
 simp only [zF, seval, implies_true, Nat.reduceLeDiff, Nat.reduceEqDiff, reduceCtorEq, reduceIte, wG]
 repeat ((with_reducible refine And.intro ?_ ?_); (focus (first | omega | (simp only [lenR]; omega) | (refine qq ?_; rfl) | (refine dq ?_; kernel_rfl) | (intros; simp_all; done))))
 refine ifC.mk (fun hc => ?_) (fun hc => ?_)
 ·have hc : ((M % 18446744073709551616 : Nat) : Int) < ((N % 18446744073709551616 : Nat) : Int) := by simpa only [decide_eq_true_eq] using hc
  refine ⟨_, _, ret_d, ?_, rfl⟩
  congr 1
  exact wN_eq (by simp only [wrapu]; omega) (by simp only [wrapu]; omega)
 ·have hc : ¬ ((M % 18446744073709551616 : Nat) : Int) < ((N % 18446744073709551616 : Nat) : Int) := by simpa only [decide_eq_false_iff_not] using hc
  refine ⟨_, _, ret_d, ?_, rfl⟩
  congr 1
  exact wN_eq (by simp only [wrapu]; omega) (by simp only [wrapu]; omega)
theorem c61 (M N : Nat) : Pure Tryz.prog Gl 101 [.d (wN M), .d (wN N)] (.d (.bool (decide (M < N)))) := by
 refine Pure.of2 ?_
 refine acalls_of Tryz.func101 rfl rfl (by simp [Tryz.ntmps101]) (evC_sound rfl _ _ _ _ ?_)
 simp only [Tryz.ntmps101, Tryz.results101, argEnv, List.length_nil]
 simp only [zF, seval, implies_true, Nat.reduceLeDiff, Nat.reduceEqDiff, reduceCtorEq, reduceIte, wG]
 refine ⟨_, _, ret_d, ?_, rfl⟩
 congr 2
 rw [Bool.eq_iff_iff]
 simp only [Bool.or_eq_true, Bool.and_eq_true, decide_eq_true_eq, beq_iff_eq]
 omega
theorem shrU (a b : Int) : intBin .shr .u64 a b = .int .u64 (a.fdiv (2 ^ (min b.toNat 64))) := rfl
theorem remU (a b : Int) : binD .rem (.int .u64 a) (.int .u64 b) = .int .u64 (a.tmod b) := rfl
theorem shr_nat (N i : Nat) (hi : i < 64) : ((N : Int).fdiv (2 ^ (min i 64))).tmod 2 = ((N / 2 ^ i % 2 : Nat) : Int) := by
 rw [show min i 64 = i by omega, Int.fdiv_eq_ediv_of_nonneg _ (by exact Int.le_of_lt (Int.pow_pos (by omega))), Int.tmod_eq_emod_of_nonneg]
 ·have : ((2 : Int) ^ i) = ((2 ^ i : Nat) : Int) := by simp
  rw [this, ← Int.natCast_ediv]
  omega
 ·exact Int.ediv_nonneg (by omega) (by exact Int.le_of_lt (Int.pow_pos (by omega)))
theorem c63 (N i : Nat) (hN : N < 18446744073709551616) (hi : i < 64) : Pure Tryz.prog Gl 114 [.d (wN N), .d (.int .i64 i)] (.d (.int .u64 ((N / 2 ^ i % 2 : Nat) : Int))) := by
 refine Pure.of2 ?_
 have e1 : IntKind.u64.wrap ((i : Nat) : Int) = (i : Int) := by rw [wrapu]; omega
 have e2 : N % 18446744073709551616 = N := by omega
 refine acalls_of Tryz.func114 rfl rfl (by simp [Tryz.ntmps114]) (evC_sound rfl _ _ _ _ ?_)
 simp only [Tryz.ntmps114, Tryz.results114, argEnv, List.length_nil]
 simp only [zF, seval, implies_true, Nat.reduceLeDiff, Nat.reduceEqDiff, reduceCtorEq, reduceIte, wG, (show ¬ (64:Int) ≤ i by omega), e1, shrU, remU, e2, shr_nat N i hi]
 repeat ((with_reducible refine And.intro ?_ ?_); (focus (first | omega | (simp only [lenR]; omega) | (refine qq ?_; rfl) | (refine dq ?_; kernel_rfl) | (intros; simp_all; done))))
 exact ⟨_, _, ret_d, rfl, rfl⟩
theorem c35 (n : Int) (h1 : -9223372036854775808 ≤ n) (h2 : n ≤ 9223372036854775807) : Pure Tryz.prog Gl 72 [.d (.int .i64 n)] (.d (.int .u64 (n.natAbs : Int))) := by
 refine Pure.of1 ?_
 refine acalls_of Tryz.func72 rfl rfl (by simp [Tryz.ntmps72]) (evC_sound rfl _ _ _ _ ?_)
 simp only [Tryz.ntmps72, Tryz.results72, argEnv, List.length_nil]
 simp only [zF, seval, implies_true, Nat.reduceLeDiff, Nat.reduceEqDiff, reduceCtorEq, reduceIte, wG]
 refine ifC.mk (fun hc => ?_) (fun hc => ?_)
 ·have hc : n < 0 := by simpa using hc
  refine ⟨_, _, ret_d, ?_, rfl⟩
  congr 2
  rw [@a_wrap (n + 1) (by omega), @a_wrap (0 - (n + 1)) (by omega)]
  simp only [wrapu]; omega
 ·have hc : ¬ n < 0 := by simpa using hc
  refine ⟨_, _, ret_d, ?_, rfl⟩
  congr 2
  simp only [wrapu]; omega
theorem bit_step (b m : Nat) : b / 2 ^ m = 2 * (b / 2 ^ (m + 1)) + b / 2 ^ m % 2 := by
 have : b / 2 ^ (m + 1) = b / 2 ^ m / 2 := by rw [Nat.pow_succ, Nat.div_div_eq_div_mul]
 omega
theorem c50 (a b : Nat) (ha : a < 18446744073709551616) (hb : b < 18446744073709551616) : Pure Tryz.prog Gl 99 [.d (.int .u64 a), .d (.int .u64 b)] (.d (wN (a * b))) := by
 refine Pure.of2 ?_
 refine acalls_of Tryz.func99 rfl rfl (by simp [Tryz.ntmps99]) (evC_sound rfl _ _ _ _ ?_)
 simp only [Tryz.ntmps99, Tryz.results99, argEnv, List.length_nil]
 simp only [zF, seval, implies_true, Nat.reduceLeDiff, Nat.reduceEqDiff, reduceCtorEq, reduceIte, wG]
 repeat ((with_reducible refine And.intro ?_ ?_); (focus (first | omega | (simp only [lenR]; omega) | (refine qq ?_; rfl) | (refine dq ?_; kernel_rfl) | (intros; simp_all; done))))
 refine for_of 64 (fun k => [(0, .d (.int .u64 a)), (1, .d (.int .u64 b)), (4, .ptr 0 0), (5, .ptr 1 0), (6, .d (.int .i64 (63 - (k : Int))))]) (fun k => [.box 2 (.d (wN 0)), .box 2 (.d (wN (a * (b / 2 ^ (64 - k)))))]) (fun _ => True) trivial ?_ ?_
 ·refine weak_to [] [0, 1] rfl (by simp) ?_ ?_
  ·simp only [zF, seval, implies_true, Nat.reduceLeDiff, Nat.reduceEqDiff, reduceCtorEq, reduceIte, wG, Int.cast_ofNat_Int, Int.sub_zero]
  ·have : b / 2 ^ (64 - 0) = 0 := Nat.div_eq_of_lt hb
   rw [this, Nat.mul_zero]; rfl
 ·intro k _ hk
  by_cases h : k < 64
  ·obtain ⟨m, hm⟩ : ∃ m, m = 63 - k := ⟨_, rfl⟩
   have em : (63 - (k : Int)) = (m : Int) := by omega
   have e64 : 64 - k = m + 1 := by omega
   have e64' : 64 - (k + 1) = m := by omega
   obtain ⟨q, hq⟩ : ∃ q, q = b / 2 ^ (m + 1) := ⟨_, rfl⟩
   have hbs := bit_step b m
   have hqb : 2 * q + 1 ≤ 18446744073709551616 := by
    have : b / 2 ^ (m + 1) ≤ b / 2 := by
     rw [Nat.pow_succ, Nat.mul_comm, ← Nat.div_div_eq_div_mul]; exact Nat.div_le_self _ _
    omega
   rw [e64, e64', ← hq]
   rw [← hq] at hbs
   have hp : a * (2 * q + 1) < 340282366920938463463374607431768211456 := by
    have : a * (2 * q + 1) ≤ a * 18446744073709551616 := Nat.mul_le_mul_left a hqb
    omega
   have hp2 : a * (2 * q + 1) = a * q + a * q + a := by rw [Nat.mul_add, Nat.mul_one, ← Nat.mul_assoc, Nat.mul_comm a 2, Nat.mul_assoc]; omega
   have hb1 : a * q + a * q < 340282366920938463463374607431768211456 := by omega
   have hb2 : a * q + a * q + a < 340282366920938463463374607431768211456 := by omega
   simp only [zF, seval, implies_true, Nat.reduceLeDiff, Nat.reduceEqDiff, reduceCtorEq, reduceIte, wG, em, (show (0:Int) ≤ m by omega)]
   repeat ((with_reducible refine And.intro ?_ ?_); (focus (first | omega | (simp only [lenR]; omega) | (refine qq ?_; rfl) | (refine dq ?_; kernel_rfl) | (intros; simp_all; done))))
   refine callF_pure (c60 (a * q) (a * q) hb1) ?_
   have z := wN_small hb
   simp only [zF, seval, implies_true, Nat.reduceLeDiff, Nat.reduceEqDiff, reduceCtorEq, reduceIte, wG, z]
   refine callF_pure (c63 b m hb (by omega)) ?_
   simp only [zF, seval, implies_true, Nat.reduceLeDiff, Nat.reduceEqDiff, reduceCtorEq, reduceIte, wG]
   repeat ((with_reducible refine And.intro ?_ ?_); (focus (first | omega | (simp only [lenR]; omega) | (refine qq ?_; rfl) | (refine dq ?_; kernel_rfl) | (intros; simp_all; done))))
   refine ifC.mk (fun hc => ?_) (fun hc => ?_)
   ·have hc : b / 2 ^ m % 2 = 1 := by have := beq_iff_eq.1 hc; omega
    have z := wN_small ha
    simp only [zF, seval, implies_true, Nat.reduceLeDiff, Nat.reduceEqDiff, reduceCtorEq, reduceIte, wG, z]
    repeat ((with_reducible refine And.intro ?_ ?_); (focus (first | omega | (simp only [lenR]; omega) | (refine qq ?_; rfl) | (refine dq ?_; kernel_rfl) | (intros; simp_all; done))))
    refine callF_pure (c60 (a * q + a * q) a hb2) ?_
    simp only [zF, seval, implies_true, Nat.reduceLeDiff, Nat.reduceEqDiff, reduceCtorEq, reduceIte, wG]
    repeat ((with_reducible refine And.intro ?_ ?_); (focus (first | omega | (simp only [lenR]; omega) | (refine qq ?_; rfl) | (refine dq ?_; kernel_rfl) | (intros; simp_all; done))))
    have e : a * (b / 2 ^ m) = a * q + a * q + a := by rw [hbs, hc, hp2]
    rw [e]
    refine weak_to [] [0, 1] rfl (by simp) ?_ rfl
    simp only [zF, seval, implies_true, Nat.reduceLeDiff, Nat.reduceEqDiff, reduceCtorEq, reduceIte, wG, @a_wrap ((m:Int) - 1) (by omega), show (63 - ((k:Int) + 1)) = (m:Int) - 1 by omega]
   ·have hc : b / 2 ^ m % 2 = 0 := by have := beq_eq_false_iff_ne.1 hc; omega
    have e : a * (b / 2 ^ m) = a * q + a * q := by
     rw [hbs, hc, Nat.add_zero, ← Nat.mul_assoc, Nat.mul_comm a 2, Nat.mul_assoc]; omega
    rw [e]
    refine ⟨h, ?_⟩
    refine weak_to [] [0, 1] rfl (by simp) ?_ rfl
    simp only [zF, seval, implies_true, Nat.reduceLeDiff, Nat.reduceEqDiff, reduceCtorEq, reduceIte, wG, @a_wrap ((m:Int) - 1) (by omega), show (63 - ((k:Int) + 1)) = (m:Int) - 1 by omega]
  ·have : k = 64 := by omega
   subst this
   simp only [zF, seval, implies_true, Nat.reduceLeDiff, Nat.reduceEqDiff, reduceCtorEq, reduceIte, wG, Int.cast_ofNat_Int]
   refine ⟨_, _, ret_d, ?_, rfl⟩
   simp
theorem g_build (m : Bool) (N : Nat) : D.agg [.bool m, .int .u64 ((N / 18446744073709551616 : Nat) : Int), .int .u64 ((N % 18446744073709551616 : Nat) : Int)] = gD m N := rfl
def sumG (p q : Bool × Nat) : Bool × Nat := if p.1 = q.1 then (p.1, p.2 + q.2) else if p.2 < q.2 then (q.1, q.2 - p.2) else (p.1, p.2 - q.2)
def valG (p : Bool × Nat) : Int := if p.1 = true then -(p.2 : Int) else p.2
theorem valG_sum (p q : Bool × Nat) : valG (sumG p q) = valG p + valG q := by
 obtain ⟨m, M⟩ := p
 obtain ⟨n, N⟩ := q
 unfold sumG valG
 cases m <;> cases n <;> simp only [Bool.false_eq_true, Bool.true_eq_false, if_true, if_false] <;> (try split) <;> (try simp only [Bool.false_eq_true, if_true, if_false]) <;> omega
theorem sumG_le (p q : Bool × Nat) : (sumG p q).2 ≤ p.2 + q.2 := by
 unfold sumG; split
 ·simp
 ·split <;> simp only <;> omega
theorem c45 (p q : Bool × Nat) (h : p.2 + q.2 < 340282366920938463463374607431768211456) : Pure Tryz.prog Gl 69 [.d (gD p.1 p.2), .d (gD q.1 q.2)] (.d (gD (sumG p q).1 (sumG p q).2)) := by
 obtain ⟨m, M⟩ := p
 obtain ⟨n, N⟩ := q
 simp only at h ⊢
 have zM : D.agg [.int .u64 ((M / 18446744073709551616 : Nat) : Int), .int .u64 ((M % 18446744073709551616 : Nat) : Int)] = wN M := rfl
 have zN : D.agg [.int .u64 ((N / 18446744073709551616 : Nat) : Int), .int .u64 ((N % 18446744073709551616 : Nat) : Int)] = wN N := rfl
 refine Pure.of2 ?_
 refine acalls_of Tryz.func69 rfl rfl (by simp [Tryz.ntmps69]) (evC_sound rfl _ _ _ _ ?_)
 simp only [Tryz.ntmps69, Tryz.results69, argEnv, List.length_nil]
 simp only [zF, seval, implies_true, Nat.reduceLeDiff, Nat.reduceEqDiff, reduceCtorEq, reduceIte, wG]
 refine ifC.mk (fun h1 => ?_) (fun h1 => ?_)
 ·have h1 : m = n := by simpa using h1
  refine ⟨.inl (by kernel_rfl), ?_⟩
  simp only [zF, seval, implies_true, Nat.reduceLeDiff, Nat.reduceEqDiff, reduceCtorEq, reduceIte, wG, zM, zN]
  refine callF_pure (c60 _ _ h) ?_
  simp only [zF, seval, implies_true, Nat.reduceLeDiff, Nat.reduceEqDiff, reduceCtorEq, reduceIte, wG]
  repeat ((with_reducible refine And.intro ?_ ?_); (focus (first | omega | (simp only [lenR]; omega) | (refine qq ?_; rfl) | (refine dq ?_; kernel_rfl) | (intros; simp_all; done))))
  refine ⟨_, _, ret_d, ?_, rfl⟩
  simp only [sumG, if_pos h1]; rfl
 ·have h1 : ¬ m = n := by simpa using h1
  (try simp only [zF, seval, implies_true, Nat.reduceLeDiff, Nat.reduceEqDiff, reduceCtorEq, reduceIte, wG, zM, zN])
  refine callF_pure (c61 _ _) ?_
  simp only [zF, seval, implies_true, Nat.reduceLeDiff, Nat.reduceEqDiff, reduceCtorEq, reduceIte, wG]
  refine ifC.mk (fun h2 => ?_) (fun h2 => ?_)
  ·have h2 : M < N := by simpa using h2
   refine ⟨.inl (by kernel_rfl), ?_⟩
   simp only [zF, seval, implies_true, Nat.reduceLeDiff, Nat.reduceEqDiff, reduceCtorEq, reduceIte, wG, zM, zN]
   refine callF_pure (c62 _ _ (by omega) (by omega)) ?_
   simp only [zF, seval, implies_true, Nat.reduceLeDiff, Nat.reduceEqDiff, reduceCtorEq, reduceIte, wG]
   repeat ((with_reducible refine And.intro ?_ ?_); (focus (first | omega | (simp only [lenR]; omega) | (refine qq ?_; rfl) | (refine dq ?_; kernel_rfl) | (intros; simp_all; done))))
   refine ⟨_, _, ret_d, ?_, rfl⟩
   simp only [sumG, if_neg h1, if_pos h2]; rfl
  ·have h2 : ¬ M < N := by simpa using h2
   refine ⟨.inl (by kernel_rfl), ?_⟩
   simp only [zF, seval, implies_true, Nat.reduceLeDiff, Nat.reduceEqDiff, reduceCtorEq, reduceIte, wG, zM, zN]
   refine callF_pure (c62 _ _ (by omega) (by omega)) ?_
   simp only [zF, seval, implies_true, Nat.reduceLeDiff, Nat.reduceEqDiff, reduceCtorEq, reduceIte, wG]
   repeat ((with_reducible refine And.intro ?_ ?_); (focus (first | omega | (simp only [lenR]; omega) | (refine qq ?_; rfl) | (refine dq ?_; kernel_rfl) | (intros; simp_all; done))))
   refine ⟨_, _, ret_d, ?_, rfl⟩
   simp only [sumG, if_neg h1, if_neg h2]; rfl
theorem c46 (n d : Int) (h1 : -9223372036854775808 ≤ n ∧ n ≤ 9223372036854775807) (h2 : -9223372036854775808 ≤ d ∧ d ≤ 9223372036854775807) : Pure Tryz.prog Gl 70 [.d (.int .i64 n), .d (.int .i64 d)] (.d (gD (decide (n < 0)) (n.natAbs * d.natAbs))) := by
 refine Pure.of2 ?_
 refine acalls_of Tryz.func70 rfl rfl (by simp [Tryz.ntmps70]) (evC_sound rfl _ _ _ _ ?_)
 simp only [Tryz.ntmps70, Tryz.results70, argEnv, List.length_nil]
 simp only [zF, seval, implies_true, Nat.reduceLeDiff, Nat.reduceEqDiff, reduceCtorEq, reduceIte, wG]
 refine callF_pure (c35 _ h1.1 h1.2) ?_
 simp only [zF, seval, implies_true, Nat.reduceLeDiff, Nat.reduceEqDiff, reduceCtorEq, reduceIte, wG]
 refine callF_pure (c35 _ h2.1 h2.2) ?_
 simp only [zF, seval, implies_true, Nat.reduceLeDiff, Nat.reduceEqDiff, reduceCtorEq, reduceIte, wG]
 refine callF_pure (c50 _ _ (by omega) (by omega)) ?_
 simp only [zF, seval, implies_true, Nat.reduceLeDiff, Nat.reduceEqDiff, reduceCtorEq, reduceIte, wG]
 repeat ((with_reducible refine And.intro ?_ ?_); (focus (first | omega | (simp only [lenR]; omega) | (refine qq ?_; rfl) | (refine dq ?_; kernel_rfl) | (intros; simp_all; done))))
 refine ⟨_, _, ret_d, rfl, rfl⟩
theorem mul_sign {n d : Int} (hd : 0 ≤ d) : valG (decide (n < 0), n.natAbs * d.natAbs) = n * d := by
 unfold valG
 have e : ((n.natAbs * d.natAbs : Nat) : Int) = (n.natAbs : Int) * d := by
  rw [Int.natCast_mul]; congr 1; omega
 by_cases h : n < 0
 ·simp only [decide_eq_true h, if_true]
  rw [e, ← Int.neg_mul]; congr 1; omega
 ·rw [decide_eq_false h]
  simp only [Bool.false_eq_true, if_false]
  rw [e]; congr 1; omega
end YtmedpoeeoihfmaaGreatDoor
end Go.Proofs
