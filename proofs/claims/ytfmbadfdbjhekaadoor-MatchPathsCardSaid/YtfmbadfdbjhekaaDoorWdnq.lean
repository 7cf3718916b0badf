/- A part of the proof: contracts of functions of this seat, and lemmas. No condition beyond those stated. -/
import Derived.Test.YtfmbadfdbjhekaaDoorWdnp
set_option linter.unusedVariables false
set_option linter.unusedSimpArgs false
set_option linter.unusedSectionVars false
set_option linter.unnecessarySimpa false
set_option maxRecDepth 100000
namespace Go.Proofs
open Go.AM
namespace YtfmbadfdbjhekaaDoor
variable {Gl : Globs}
def memM (b : List NodeT) (m : Nat → Bool) : Key → Option AV
 | .i q => if 0 ≤ q ∧ m q.toNat = true then some (.d (.sl ((shp b q.toNat).map .str))) else none
 | .s _ => none
theorem memM_get (b : List NodeT) (m : Nat → Bool) (q : Nat) : memM b m (.i q) = if m q = true then some (.d (.sl ((shp b q).map .str))) else none := by
 show (if 0 ≤ (q:Int) ∧ m (q:Int).toNat = true then some (AV.d (.sl ((shp b (q:Int).toNat).map .str))) else none) = _
 rw [Int.toNat_natCast]
 simp
theorem memM_still (b : List NodeT) (m : Nat → Bool) : ∀ k v, memM b m k = some v → ∃ d, v = .d d := by
 intro k v h
 cases k with
 | i p =>
  simp only [memM] at h
  split at h
  ·cases h; exact ⟨_, rfl⟩
  ·cases h
 | s t => cases h
theorem memM_ren (b : List NodeT) (m : Nat → Bool) (ρ : List Nat) (σ : Sto) : renB ρ σ (.map (some .i64) (memM b m)) = .map (some .i64) (memM b m) := still_ren (B := .map (some .i64) (memM b m)) (memM_still b m) ρ σ
theorem memM_back (l : List NodeT) (m : Nat → Bool) (b : Nat → Nat) : backB b (.map (some .i64) (memM l m)) = .map (some .i64) (memM l m) := still_back (B := .map (some .i64) (memM l m)) (memM_still l m) b
theorem memM_set (b : List NodeT) (m : Nat → Bool) (q : Nat) : mset (memM b m) (.i q) (.d (.sl ((shp b q).map .str))) = memM b (fun j => j == q || m j) := by
 funext k
 cases k with
 | i p =>
  unfold mset
  by_cases h : Key.i p = Key.i q
  ·cases h
   rw [if_pos rfl]
   show _ = if 0 ≤ (q:Int) ∧ (((q:Int).toNat == q) || m (q:Int).toNat) = true then _ else none
   rw [Int.toNat_natCast, if_pos ⟨by omega, by simp⟩]
  ·rw [if_neg h]
   have hpq : p ≠ q := fun e => h (by rw [e])
   show (if 0 ≤ p ∧ m p.toNat = true then _ else none) = if 0 ≤ p ∧ ((p.toNat == q) || m p.toNat) = true then _ else none
   by_cases h0 : 0 ≤ p
   ·have : (p.toNat == q) = false := by simp; omega
    rw [this, Bool.false_or]
   ·rw [if_neg (fun e => h0 e.1), if_neg (fun e => h0 e.1)]
 | s t => rfl
theorem memM_none (b : List NodeT) : memM b (fun _ => false) = fun _ => none := by
 funext k
 cases k <;> simp [memM]
def tkB (s : Al) : List D := s.toA.map fun x => .bool (decide (0 ≤ x))
def stP (a b : List NodeT) (s : Al) (m : Nat → Bool) : Sto :=
 [.box 7 (.agg [.d (.sl (a.map NodeT.toD)), .mapr 1, .d (.sl (b.map NodeT.toD)), .mapr 2, .osl 3 0 a.length, .osl 4 0 b.length, .mapr 5]), .map (some .i64) (kidM a), .map (some .i64) (kidM b), .arr 1 (s.toB.map (.int .i64)), .arr 1 (tkB s), .map (some .i64) (memM b m)]
theorem tkB_len (s : Al) : (tkB s).length = s.toA.length := by simp [tkB]
theorem tkB_get {s : Al} {q : Nat} (h : q < s.toA.length) : (tkB s).getD q default = .bool (decide (0 ≤ s.a q)) := by
 simp [tkB, Al.a, h]
theorem tkB_pair (s : Al) (p q : Nat) : tkB (pairS s p q) = (tkB s).set q (.bool true) := by
 simp only [tkB, pairS, List.map_set]
 rw [decide_eq_true (Int.natCast_nonneg p)]
theorem k_pair (a b : List NodeT) (ha : a.length ≤ 2000) (hb : b.length ≤ 2000) (s : Al) (m : Nat → Bool) (hs : Sz a b s) (p q : Nat) (hp : p < a.length) (hq : q < b.length) : ACalls Tryd.prog Gl 43 [.ptr 0 0, .d (.int .i64 p), .d (.int .i64 q)] (stP a b s m) (fun r s' => r = .tup [] ∧ s' = stP a b (pairS s p q) m) := by
 refine acalls_of Tryd.func43 rfl rfl (by simp [Tryd.ntmps43]) (evC_sound rfl _ _ _ _ ?_)
 simp only [Tryd.ntmps43, Tryd.results43, argEnv, List.length_nil]
 simp only [zN, seval, implies_true, Nat.reduceLeDiff, Nat.reduceEqDiff, reduceCtorEq, reduceIte, stP, intD]
 obtain ⟨h1, h2⟩ := hs
 have hp2 : p < s.toB.length := by omega
 have hq2 : q < s.toA.length := by omega
 simp only [zN, seval, implies_true, Nat.reduceLeDiff, Nat.reduceEqDiff, reduceCtorEq, reduceIte, stP, intD, (show (p:Int) < a.length by omega), (show (q:Int) < b.length by omega), hp2, hq2, tkB_len]
 repeat ((with_reducible refine And.intro ?_ ?_); (focus (first | omega | (simp only [lenR]; omega) | (refine qq ?_; rfl) | (refine dq ?_; kernel_rfl) | (intros; simp_all; done))))
 rw [← tkB_pair s p q]
 refine ⟨_, _, WeakR.refl _ _ _, rfl, ?_⟩
 simp only [stP, pairS, List.map_set]
def bxP (a b : List NodeT) : List AV := [.d (.sl (a.map NodeT.toD)), .mapr 1, .d (.sl (b.map NodeT.toD)), .mapr 2, .osl 3 0 a.length, .osl 4 0 b.length, .mapr 5]
theorem bxP_b (a b : List NodeT) : (AV.agg [.d (.sl (a.map NodeT.toD)), .mapr 1, .d (.sl (b.map NodeT.toD)), .mapr 2, .osl 3 0 a.length, .osl 4 0 b.length, .mapr 5]).subV 2 2 = .agg [.d (.sl (b.map NodeT.toD)), .mapr 2] := rfl
theorem bxP_a (a b : List NodeT) : (AV.agg [.d (.sl (a.map NodeT.toD)), .mapr 1, .d (.sl (b.map NodeT.toD)), .mapr 2, .osl 3 0 a.length, .osl 4 0 b.length, .mapr 5]).subV 0 2 = .agg [.d (.sl (a.map NodeT.toD)), .mapr 1] := rfl
def mOn (m : Nat → Bool) (q : Nat) : Nat → Bool := fun j => j == q || m j
theorem mOn_same {m : Nat → Bool} {q : Nat} (h : m q = true) : mOn m q = m := by
 funext j
 unfold mOn
 by_cases e : j = q
 ·rw [e, h]; simp
 ·simp [e]
theorem k_memo (a b : List NodeT) (hb : b.length ≤ 100) (hcb : checkF b = 0) (s : Al) (m : Nat → Bool) (q : Nat) (hq : q < b.length) : ACalls Tryd.prog Gl 46 [.ptr 0 0, .d (.int .i64 q)] (stP a b s m) (fun r s' => r = .d (.sl ((shp b q).map .str)) ∧ s' = stP a b s (mOn m q)) := by
 refine acalls_of Tryd.func46 rfl rfl (by simp [Tryd.ntmps46]) (evC_sound rfl _ _ _ _ ?_)
 simp only [Tryd.ntmps46, Tryd.results46, argEnv, List.length_nil]
 simp only [zN, seval, implies_true, Nat.reduceLeDiff, Nat.reduceEqDiff, reduceCtorEq, reduceIte, stP, intD]
 by_cases hm : m q = true
 ·simp only [zN, seval, implies_true, Nat.reduceLeDiff, Nat.reduceEqDiff, reduceCtorEq, reduceIte, stP, intD, memM_get, if_pos hm]
  repeat ((with_reducible refine And.intro ?_ ?_); (focus (first | omega | (simp only [lenR]; omega) | (refine qq ?_; rfl) | (refine dq ?_; kernel_rfl) | (intros; simp_all; done))))
  exact ⟨_, _, WeakR.refl _ _ _, rfl, by rw [mOn_same hm]⟩
 ·simp only [zN, seval, implies_true, Nat.reduceLeDiff, Nat.reduceEqDiff, reduceCtorEq, reduceIte, stP, intD, memM_get, if_neg hm, bxP_b]
  repeat ((with_reducible refine And.intro ?_ ?_); (focus (first | omega | (simp only [lenR]; omega) | (refine qq ?_; rfl) | (refine dq ?_; kernel_rfl) | (intros; simp_all; done))))
  have hkk := k_shape (Gl := Gl) b hb hcb q hq
  have er : renS [2] (stP a b s m) = [.map (some .i64) (kidM b)] := by
   show [renB _ _ (.map (some .i64) (kidM b))] = _
   rw [kidM_ren]
  rw [← er] at hkk
  have hgo := ACalls.under (σ := stP a b s m) (args := [.agg [.d (.sl (b.map NodeT.toD)), .mapr 2], .d (.int .i64 q)]) [2] (by decide) (by simp [stP]) hkk
  refine callF_go (hgo.mono fun r s1 hrs => ?_)
  obtain ⟨r0, s0, ⟨rfl, rfl⟩, rfl, rfl⟩ := hrs
  have eb : backS [2] (stP a b s m) (renS [2] (stP a b s m)) = stP a b s m := by
   rw [er]
   show [_, _, backB _ (.map (some .i64) (kidM b)), _, _, _] = _
   rw [kidM_back]; rfl
  rw [eb]
  simp only [zN, seval, implies_true, Nat.reduceLeDiff, Nat.reduceEqDiff, reduceCtorEq, reduceIte, stP, intD, memM_set, back_d]
  repeat ((with_reducible refine And.intro ?_ ?_); (focus (first | omega | (simp only [lenR]; omega) | (refine qq ?_; rfl) | (refine dq ?_; kernel_rfl) | (intros; simp_all; done))))
  exact ⟨_, _, WeakR.refl _ _ _, rfl, rfl⟩
end YtfmbadfdbjhekaaDoor
end Go.Proofs
