/- A part of the proof: contracts of functions of this seat, and lemmas. No condition beyond those stated. -/
import Derived.Test.YtadfcljoocjhdaaGreatWttd
set_option linter.unusedVariables false
set_option linter.unusedSimpArgs false
set_option linter.unusedSectionVars false
set_option linter.unnecessarySimpa false
set_option maxRecDepth 100000
namespace Go.Proofs
open Go.AM
namespace YtadfcljoocjhdaaGreat
variable {Gl : Globs}
theorem take_eq_step {α : Type} [Inhabited α] {a b : List α} {k : Nat} (h1 : k < a.length) (h2 : k < b.length) (h : a.take k = b.take k) (e : a.getD k default = b.getD k default) : a.take (k + 1) = b.take (k + 1) := by
 rw [List.take_add_one, List.take_add_one, h]
 simp [h1, h2] at e
 simp [h1, h2, e]
theorem ne_getD {α : Type} [Inhabited α] {a b : List α} {k : Nat} (e : a.getD k default ≠ b.getD k default) : a ≠ b := fun h => e (by rw [h])
theorem eq_take {α : Type} {a b : List α} (h : a.length = b.length) (e : a.take a.length = b.take a.length) : a = b := by
 rw [List.take_length, h, List.take_length] at e; exact e
theorem ne_len {α : Type} {a b : List α} (h : a.length ≠ b.length) : a ≠ b := fun e => h (by rw [e])
theorem colB (x y : ColT) : (x.name == y.name && x.ty == y.ty) = decide (x = y) := by
 cases x; cases y; rw [Bool.eq_iff_iff]; simp
theorem valB (x y : ValT) : (x.k == y.k && (x.n == y.n && x.s == y.s)) = decide (x = y) := by
 cases x; cases y; rw [Bool.eq_iff_iff]; simp
theorem k_EqualC (a b : List ColT) (hl : a.length < 1000000) (hb : b.length < 1000000) : Pure Tryz.prog Gl 65 [.d (.sl (a.map ColT.toD)), .d (.sl (b.map ColT.toD))] (.d (.bool (decide (a = b)))) := by
 refine Pure.of2 ?_
 refine acalls_of Tryz.func65 rfl rfl (by simp [Tryz.ntmps65]) (evC_sound rfl _ _ _ _ ?_)
 simp only [Tryz.ntmps65, Tryz.results65, argEnv, List.length_nil]
 simp only [zT, seval, implies_true, Nat.reduceLeDiff, Nat.reduceEqDiff, reduceCtorEq, reduceIte]
 repeat ((with_reducible refine And.intro ?_ ?_); (focus (first | omega | (simp only [lenR]; omega) | (refine qq ?_; rfl) | (refine dq ?_; kernel_rfl) | (intros; simp_all; done))))
 refine ifC.mk (fun h1 => ?_) (fun h1 => ?_)
 ·refine ⟨_, _, ret_d, ?_, rfl⟩
  have h1 : a.length ≠ b.length := by simp at h1; omega
  rw [decide_eq_false (ne_len h1)]
 have h1 : a.length = b.length := by simp at h1; omega
 (try simp only [zT, seval, implies_true, Nat.reduceLeDiff, Nat.reduceEqDiff, reduceCtorEq, reduceIte])
 refine for_of a.length (fun k => [(0, .d (.sl (a.map ColT.toD))), (1, .d (.sl (b.map ColT.toD))), (12, .d (.int .i64 a.length)), (13, .d (.int .i64 k))]) (fun _ => []) (fun k => a.take k = b.take k) rfl ?_ ?_
 ·refine weak_to [] [] rfl (by simp) ?_ rfl
  simp only [zT, seval, implies_true, Nat.reduceLeDiff, Nat.reduceEqDiff, reduceCtorEq, reduceIte]
  all_goals rfl
 ·intro k hi hk
  by_cases h : k < a.length
  ·have hbk : k < b.length := by omega
   obtain ⟨x, hx⟩ : ∃ x, x = a.getD k default := ⟨_, rfl⟩
   obtain ⟨y, hy⟩ : ∃ y, y = b.getD k default := ⟨_, rfl⟩
   have hgx : (List.map ColT.toD a).getD k default = .agg [.str x.name, .int .i64 x.ty] := by rw [hx]; simp [h, ColT.toD]
   have hgy : (List.map ColT.toD b).getD k default = .agg [.str y.name, .int .i64 y.ty] := by rw [hy]; simp [hbk, ColT.toD]
   simp only [zT, seval, implies_true, Nat.reduceLeDiff, Nat.reduceEqDiff, reduceCtorEq, reduceIte, (show (k:Int) < a.length by omega), (show (k:Int) < b.length by omega), h, hbk, hgx, hgy]
   repeat ((with_reducible refine And.intro ?_ ?_); (focus (first | omega | (simp only [lenR]; omega) | (refine qq ?_; rfl) | (refine dq ?_; kernel_rfl) | (intros; simp_all; done))))
   (try simp only [zT, seval, implies_true, Nat.reduceLeDiff, Nat.reduceEqDiff, reduceCtorEq, reduceIte, colB, Bool.and_true])
   refine ifC.mk (fun h2 => ?_) (fun h2 => ?_)
   ·have h2 : x ≠ y := by simpa using h2
    refine ⟨_, _, ret_d, ?_, rfl⟩
    rw [decide_eq_false (ne_getD (by rw [← hx, ← hy]; exact h2))]
   ·have h2 : x = y := by simpa using h2
    refine ⟨take_eq_step h hbk hi (by rw [← hx, ← hy]; exact h2), ?_⟩
    refine weak_to [] [] rfl (by simp) ?_ rfl
    simp only [zT, seval, implies_true, Nat.reduceLeDiff, Nat.reduceEqDiff, reduceCtorEq, reduceIte, @a_wrap ((k:Int) + 1) (by omega)]
    all_goals rfl
  ·simp only [zT, seval, implies_true, Nat.reduceLeDiff, Nat.reduceEqDiff, reduceCtorEq, reduceIte, (show ¬ (k:Int) < a.length by omega)]
   have : k = a.length := by omega
   subst this
   refine ⟨_, _, ret_d, ?_, rfl⟩
   rw [decide_eq_true (eq_take h1 hi)]
theorem k_R33Same (a b : List ValT) (hl : a.length < 1000000) (hb : b.length < 1000000) : Pure Tryz.prog Gl 78 [.d (rowD a), .d (rowD b)] (.d (.bool (decide (a = b)))) := by
 refine Pure.of2 ?_
 rw [rowD, rowD]
 refine acalls_of Tryz.func78 rfl rfl (by simp [Tryz.ntmps78]) (evC_sound rfl _ _ _ _ ?_)
 simp only [Tryz.ntmps78, Tryz.results78, argEnv, List.length_nil]
 simp only [zT, seval, implies_true, Nat.reduceLeDiff, Nat.reduceEqDiff, reduceCtorEq, reduceIte]
 repeat ((with_reducible refine And.intro ?_ ?_); (focus (first | omega | (simp only [lenR]; omega) | (refine qq ?_; rfl) | (refine dq ?_; kernel_rfl) | (intros; simp_all; done))))
 refine ifC.mk (fun h1 => ?_) (fun h1 => ?_)
 ·refine ⟨_, _, ret_d, ?_, rfl⟩
  have h1 : a.length ≠ b.length := by simp at h1; omega
  rw [decide_eq_false (ne_len h1)]
 have h1 : a.length = b.length := by simp at h1; omega
 (try simp only [zT, seval, implies_true, Nat.reduceLeDiff, Nat.reduceEqDiff, reduceCtorEq, reduceIte])
 refine for_of a.length (fun k => [(0, .d (.sl (a.map ValT.toD))), (1, .d (.sl (b.map ValT.toD))), (5, .d (.int .i64 k))]) (fun _ => []) (fun k => a.take k = b.take k) rfl ?_ ?_
 ·refine weak_to [] [] rfl (by simp) ?_ rfl
  simp only [zT, seval, implies_true, Nat.reduceLeDiff, Nat.reduceEqDiff, reduceCtorEq, reduceIte]
  all_goals rfl
 ·intro k hi hk
  by_cases h : k < a.length
  ·have hbk : k < b.length := by omega
   obtain ⟨x, hx⟩ : ∃ x, x = a.getD k default := ⟨_, rfl⟩
   obtain ⟨y, hy⟩ : ∃ y, y = b.getD k default := ⟨_, rfl⟩
   have hgx : (List.map ValT.toD a).getD k default = .agg [.int .i64 x.k, .int .i64 x.n, .str x.s] := by rw [hx]; simp [h, ValT.toD]
   have hgy : (List.map ValT.toD b).getD k default = .agg [.int .i64 y.k, .int .i64 y.n, .str y.s] := by rw [hy]; simp [hbk, ValT.toD]
   simp only [zT, seval, implies_true, Nat.reduceLeDiff, Nat.reduceEqDiff, reduceCtorEq, reduceIte, (show (k:Int) < a.length by omega), (show (k:Int) < b.length by omega), h, hbk, hgx, hgy]
   repeat ((with_reducible refine And.intro ?_ ?_); (focus (first | omega | (simp only [lenR]; omega) | (refine qq ?_; rfl) | (refine dq ?_; kernel_rfl) | (intros; simp_all; done))))
   (try simp only [zT, seval, implies_true, Nat.reduceLeDiff, Nat.reduceEqDiff, reduceCtorEq, reduceIte, valB, Bool.and_true])
   refine ifC.mk (fun h2 => ?_) (fun h2 => ?_)
   ·have h2 : x ≠ y := by simpa using h2
    refine ⟨_, _, ret_d, ?_, rfl⟩
    rw [decide_eq_false (ne_getD (by rw [← hx, ← hy]; exact h2))]
   ·have h2 : x = y := by simpa using h2
    refine ⟨take_eq_step h hbk hi (by rw [← hx, ← hy]; exact h2), ?_⟩
    refine weak_to [] [] rfl (by simp) ?_ rfl
    simp only [zT, seval, implies_true, Nat.reduceLeDiff, Nat.reduceEqDiff, reduceCtorEq, reduceIte, @a_wrap ((k:Int) + 1) (by omega)]
    all_goals rfl
  ·simp only [zT, seval, implies_true, Nat.reduceLeDiff, Nat.reduceEqDiff, reduceCtorEq, reduceIte, (show ¬ (k:Int) < a.length by omega)]
   have : k = a.length := by omega
   subst this
   refine ⟨_, _, ret_d, ?_, rfl⟩
   rw [decide_eq_true (eq_take h1 hi)]
theorem k_SameRow (a b : List ValT) (hl : a.length < 1000000) (hb : b.length < 1000000) : Pure Tryz.prog Gl 37 [.d (rowD a), .d (rowD b)] (.d (.bool (decide (a = b)))) := by
 refine Pure.of2 ?_
 refine acalls_of Tryz.func37 rfl rfl (by simp [Tryz.ntmps37]) (evC_sound rfl _ _ _ _ ?_)
 simp only [Tryz.ntmps37, Tryz.results37, argEnv, List.length_nil]
 simp only [zT, seval, implies_true, Nat.reduceLeDiff, Nat.reduceEqDiff, reduceCtorEq, reduceIte]
 refine callF_pure (k_R33Same a b hl hb) ?_
 simp only [zT, seval, implies_true, Nat.reduceLeDiff, Nat.reduceEqDiff, reduceCtorEq, reduceIte]
 exact ⟨_, _, ret_d, rfl, rfl⟩
def sameT (a b : TabT) : Bool := decide (a = b)
theorem sameT_f {a b : TabT} (h : a.cols ≠ b.cols ∨ a.rows ≠ b.rows) : sameT a b = false := decide_eq_false (fun e => by rcases h with h | h <;> exact h (by rw [e]))
theorem sameT_t {a b : TabT} (h1 : a.cols = b.cols) (h2 : a.rows = b.rows) : sameT a b = true := decide_eq_true (by cases a; cases b; simp_all)
theorem k_RSame (a b : TabT) (ha : a.Few) (hb : b.Few) : Pure Tryz.prog Gl 28 [.d a.toD, .d b.toD] (.d (.bool (sameT a b))) := by
 refine Pure.of2 ?_
 obtain ⟨F, hF⟩ : ∃ F, F = sameT a b := ⟨_, rfl⟩
 rw [← hF]
 obtain ⟨ha1, ha2, ha3⟩ := ha
 obtain ⟨hb1, hb2, hb3⟩ := hb
 refine acalls_of Tryz.func28 rfl rfl (by simp [Tryz.ntmps28]) (evC_sound rfl _ _ _ _ ?_)
 simp only [Tryz.ntmps28, Tryz.results28, argEnv, List.length_nil]
 simp only [zT, seval, implies_true, Nat.reduceLeDiff, Nat.reduceEqDiff, reduceCtorEq, reduceIte]
 repeat ((with_reducible refine And.intro ?_ ?_); (focus (first | omega | (simp only [lenR]; omega) | (refine qq ?_; rfl) | (refine dq ?_; kernel_rfl) | (intros; simp_all; done))))
 refine ifC.mk (fun h1 => ?_) (fun h1 => ?_)
 ·refine ⟨_, _, ret_d, ?_, rfl⟩
  rw [hF, sameT_f]
  simp at h1
  by_cases e : a.cols.length = b.cols.length
  ·exact .inr (ne_len (by omega))
  ·exact .inl (ne_len e)
 have h1a : a.cols.length = b.cols.length := by simp at h1; omega
 have h1b : a.rows.length = b.rows.length := by simp at h1; omega
 (try simp only [zT, seval, implies_true, Nat.reduceLeDiff, Nat.reduceEqDiff, reduceCtorEq, reduceIte])
 refine for_of a.cols.length (fun k => [(2, .ptr 0 0), (3, .ptr 1 0), (5, .d (.int .i64 k))]) (fun _ => [.box 2 (.d a.toD), .box 2 (.d b.toD)]) (fun k => a.cols.take k = b.cols.take k) rfl ?_ ?_
 ·refine weak_to [] [0, 1] rfl (by simp) ?_ rfl
  simp only [zT, seval, implies_true, Nat.reduceLeDiff, Nat.reduceEqDiff, reduceCtorEq, reduceIte]
  all_goals rfl
 ·intro k hi hk
  by_cases h : k < a.cols.length
  ·have hbk : k < b.cols.length := by omega
   obtain ⟨x, hx⟩ : ∃ x, x = a.cols.getD k default := ⟨_, rfl⟩
   obtain ⟨y, hy⟩ : ∃ y, y = b.cols.getD k default := ⟨_, rfl⟩
   have hgx : (List.map ColT.toD a.cols).getD k default = .agg [.str x.name, .int .i64 x.ty] := by rw [hx]; simp [h, ColT.toD]
   have hgy : (List.map ColT.toD b.cols).getD k default = .agg [.str y.name, .int .i64 y.ty] := by rw [hy]; simp [hbk, ColT.toD]
   simp only [zT, seval, implies_true, Nat.reduceLeDiff, Nat.reduceEqDiff, reduceCtorEq, reduceIte, (show (k:Int) < a.cols.length by omega), (show (k:Int) < b.cols.length by omega), h, hbk, hgx, hgy]
   repeat ((with_reducible refine And.intro ?_ ?_); (focus (first | omega | (simp only [lenR]; omega) | (refine qq ?_; rfl) | (refine dq ?_; kernel_rfl) | (intros; simp_all; done))))
   (try simp only [zT, seval, implies_true, Nat.reduceLeDiff, Nat.reduceEqDiff, reduceCtorEq, reduceIte, colB, Bool.and_true])
   refine ifC.mk (fun h2 => ?_) (fun h2 => ?_)
   ·have h2 : x ≠ y := by simpa using h2
    refine ⟨_, _, ret_d, ?_, rfl⟩
    rw [hF, sameT_f (.inl (ne_getD (by rw [← hx, ← hy]; exact h2)))]
   ·have h2 : x = y := by simpa using h2
    refine ⟨take_eq_step h hbk hi (by rw [← hx, ← hy]; exact h2), ?_⟩
    refine weak_to [] [0, 1] rfl (by simp) ?_ rfl
    simp only [zT, seval, implies_true, Nat.reduceLeDiff, Nat.reduceEqDiff, reduceCtorEq, reduceIte, @a_wrap ((k:Int) + 1) (by omega)]
    all_goals rfl
  ·simp only [zT, seval, implies_true, Nat.reduceLeDiff, Nat.reduceEqDiff, reduceCtorEq, reduceIte, (show ¬ (k:Int) < a.cols.length by omega)]
   have : k = a.cols.length := by omega
   subst this
   have hcE := eq_take h1a hi
   refine for_of a.rows.length (fun k => [(2, .ptr 0 0), (3, .ptr 1 0), (6, .d (.int .i64 k))]) (fun _ => [.box 2 (.d a.toD), .box 2 (.d b.toD)]) (fun k => a.rows.take k = b.rows.take k) rfl ?_ ?_
   ·refine weak_to [] [0, 1] rfl (by simp) ?_ rfl
    simp only [zT, seval, implies_true, Nat.reduceLeDiff, Nat.reduceEqDiff, reduceCtorEq, reduceIte]
    all_goals rfl
   ·intro k hi hk
    by_cases h : k < a.rows.length
    ·have hbk : k < b.rows.length := by omega
     obtain ⟨x, hx⟩ : ∃ x, x = a.rows.getD k default := ⟨_, rfl⟩
     obtain ⟨y, hy⟩ : ∃ y, y = b.rows.getD k default := ⟨_, rfl⟩
     have hgx : (List.map rowD a.rows).getD k default = rowD x := by rw [hx]; simp [h]
     have hgy : (List.map rowD b.rows).getD k default = rowD y := by rw [hy]; simp [hbk]
     simp only [zT, seval, implies_true, Nat.reduceLeDiff, Nat.reduceEqDiff, reduceCtorEq, reduceIte, (show (k:Int) < a.rows.length by omega), (show (k:Int) < b.rows.length by omega), h, hbk, hgx, hgy]
     repeat ((with_reducible refine And.intro ?_ ?_); (focus (first | omega | (simp only [lenR]; omega) | (refine qq ?_; rfl) | (refine dq ?_; kernel_rfl) | (intros; simp_all; done))))
     refine callF_pure (k_SameRow x y (ha3 x (by rw [hx]; exact mem_getD h)) (hb3 y (by rw [hy]; exact mem_getD hbk))) ?_
     simp only [zT, seval, implies_true, Nat.reduceLeDiff, Nat.reduceEqDiff, reduceCtorEq, reduceIte]
     repeat ((with_reducible refine And.intro ?_ ?_); (focus (first | omega | (simp only [lenR]; omega) | (refine qq ?_; rfl) | (refine dq ?_; kernel_rfl) | (intros; simp_all; done))))
     refine ifC.mk (fun h2 => ?_) (fun h2 => ?_)
     ·have h2 : x ≠ y := by simpa using h2
      refine ⟨_, _, ret_d, ?_, rfl⟩
      rw [hF, sameT_f (.inr (ne_getD (by rw [← hx, ← hy]; exact h2)))]
     ·have h2 : x = y := by simpa using h2
      refine ⟨take_eq_step h hbk hi (by rw [← hx, ← hy]; exact h2), ?_⟩
      refine weak_to [] [0, 1] rfl (by simp) ?_ rfl
      simp only [zT, seval, implies_true, Nat.reduceLeDiff, Nat.reduceEqDiff, reduceCtorEq, reduceIte, @a_wrap ((k:Int) + 1) (by omega)]
      all_goals rfl
    ·simp only [zT, seval, implies_true, Nat.reduceLeDiff, Nat.reduceEqDiff, reduceCtorEq, reduceIte, (show ¬ (k:Int) < a.rows.length by omega)]
     have : k = a.rows.length := by omega
     subst this
     refine ⟨_, _, ret_d, ?_, rfl⟩
     rw [hF, sameT_t hcE (eq_take h1b hi)]
theorem k_Same (a b : TabT) (ha : a.Few) (hb : b.Few) : Pure Tryz.prog Gl 30 [.d a.toD, .d b.toD] (.d (.bool (sameT a b))) := by
 refine Pure.of2 ?_
 obtain ⟨F, hF⟩ : ∃ F, F = sameT a b := ⟨_, rfl⟩
 rw [← hF]
 obtain ⟨ha1, ha2, ha3⟩ := ha
 obtain ⟨hb1, hb2, hb3⟩ := hb
 refine acalls_of Tryz.func30 rfl rfl (by simp [Tryz.ntmps30]) (evC_sound rfl _ _ _ _ ?_)
 simp only [Tryz.ntmps30, Tryz.results30, argEnv, List.length_nil]
 simp only [zT, seval, implies_true, Nat.reduceLeDiff, Nat.reduceEqDiff, reduceCtorEq, reduceIte]
 repeat ((with_reducible refine And.intro ?_ ?_); (focus (first | omega | (simp only [lenR]; omega) | (refine qq ?_; rfl) | (refine dq ?_; kernel_rfl) | (intros; simp_all; done))))
 refine callF_pure (k_EqualC a.cols b.cols ha1 hb1) ?_
 simp only [zT, seval, implies_true, Nat.reduceLeDiff, Nat.reduceEqDiff, reduceCtorEq, reduceIte]
 repeat ((with_reducible refine And.intro ?_ ?_); (focus (first | omega | (simp only [lenR]; omega) | (refine qq ?_; rfl) | (refine dq ?_; kernel_rfl) | (intros; simp_all; done))))
 refine ifC.mk (fun h1 => ?_) (fun h1 => ?_)
 ·refine ⟨_, _, ret_d, ?_, rfl⟩
  rw [hF, sameT_f]
  by_cases e : a.cols = b.cols
  ·refine .inr (ne_len ?_)
   simp [e] at h1
   omega
  ·exact .inl e
 have hcE : a.cols = b.cols := by simp at h1; exact h1.1
 have h1b : a.rows.length = b.rows.length := by simp at h1; omega
 repeat ((with_reducible refine And.intro ?_ ?_); (focus (first | omega | (simp only [lenR]; omega) | (refine qq ?_; rfl) | (refine dq ?_; kernel_rfl) | (intros; simp_all; done))))
 (try simp only [zT, seval, implies_true, Nat.reduceLeDiff, Nat.reduceEqDiff, reduceCtorEq, reduceIte])
 refine for_of a.rows.length (fun k => [(2, .ptr 0 0), (3, .ptr 1 0), (5, .d (.bool true)), (25, .d (.int .i64 a.rows.length)), (26, .d (.int .i64 k))]) (fun _ => [.box 2 (.d a.toD), .box 2 (.d b.toD)]) (fun k => a.rows.take k = b.rows.take k) rfl ?_ ?_
 ·refine weak_to [] [0, 1] rfl (by simp) ?_ rfl
  simp only [zT, seval, implies_true, Nat.reduceLeDiff, Nat.reduceEqDiff, reduceCtorEq, reduceIte]
  all_goals rfl
 ·intro k hi hk
  by_cases h : k < a.rows.length
  ·have hbk : k < b.rows.length := by omega
   obtain ⟨x, hx⟩ : ∃ x, x = a.rows.getD k default := ⟨_, rfl⟩
   obtain ⟨y, hy⟩ : ∃ y, y = b.rows.getD k default := ⟨_, rfl⟩
   have hxl := ha3 x (by rw [hx]; exact mem_getD h)
   have hyl := hb3 y (by rw [hy]; exact mem_getD hbk)
   have hgx : (List.map rowD a.rows).getD k default = .sl (x.map ValT.toD) := by rw [hx]; simp [h, rowD]
   have hgy : (List.map rowD b.rows).getD k default = .sl (y.map ValT.toD) := by rw [hy]; simp [hbk, rowD]
   have hno : x ≠ y → F = false := fun e => by rw [hF, sameT_f (.inr (ne_getD (by rw [← hx, ← hy]; exact e)))]
   simp only [zT, seval, implies_true, Nat.reduceLeDiff, Nat.reduceEqDiff, reduceCtorEq, reduceIte, (show (k:Int) < a.rows.length by omega), (show (k:Int) < b.rows.length by omega), h, hbk, hgx, hgy]
   repeat ((with_reducible refine And.intro ?_ ?_); (focus (first | omega | (simp only [lenR]; omega) | (refine qq ?_; rfl) | (refine dq ?_; kernel_rfl) | (intros; simp_all; done))))
   refine ifC.mk (fun h2 => ?_) (fun h2 => ?_)
   ·have h2 : x ≠ y := ne_len (by simp at h2; omega)
    repeat ((with_reducible refine And.intro ?_ ?_); (focus (first | omega | (simp only [lenR]; omega) | (refine qq ?_; rfl) | (refine dq ?_; kernel_rfl) | (intros; simp_all; done))))
    refine ⟨_, _, ret_d, ?_, rfl⟩
    rw [hno h2]
   have h2 : x.length = y.length := by simp at h2; omega
   (try simp only [zT, seval, implies_true, Nat.reduceLeDiff, Nat.reduceEqDiff, reduceCtorEq, reduceIte])
   repeat ((with_reducible refine And.intro ?_ ?_); (focus (first | omega | (simp only [lenR]; omega) | (refine qq ?_; rfl) | (refine dq ?_; kernel_rfl) | (intros; simp_all; done))))
   refine for_of x.length (fun j => [(2, .ptr 0 0), (3, .ptr 1 0), (5, .d (.bool true)), (6, .d (.int .i64 k)), (25, .d (.int .i64 a.rows.length)), (26, .d (.int .i64 k)), (47, .d (.int .i64 x.length)), (48, .d (.int .i64 j))]) (fun _ => [.box 2 (.d a.toD), .box 2 (.d b.toD)]) (fun j => x.take j = y.take j) rfl ?_ ?_
   ·refine weak_to [] [0, 1] rfl (by simp) ?_ rfl
    simp only [zT, seval, implies_true, Nat.reduceLeDiff, Nat.reduceEqDiff, reduceCtorEq, reduceIte]
    all_goals rfl
   ·intro j hij hj
    by_cases g : j < x.length
    ·have gy : j < y.length := by omega
     obtain ⟨u, hu⟩ : ∃ u, u = x.getD j default := ⟨_, rfl⟩
     obtain ⟨v, hv⟩ : ∃ v, v = y.getD j default := ⟨_, rfl⟩
     have hgu : (List.map ValT.toD x).getD j default = .agg [.int .i64 u.k, .int .i64 u.n, .str u.s] := by rw [hu]; simp [g, ValT.toD]
     have hgv : (List.map ValT.toD y).getD j default = .agg [.int .i64 v.k, .int .i64 v.n, .str v.s] := by rw [hv]; simp [gy, ValT.toD]
     simp only [zT, seval, implies_true, Nat.reduceLeDiff, Nat.reduceEqDiff, reduceCtorEq, reduceIte, (show (k:Int) < a.rows.length by omega), (show (k:Int) < b.rows.length by omega), h, hbk, hgx, hgy, (show (j:Int) < x.length by omega), (show (j:Int) < y.length by omega), g, gy, hgu, hgv]
     repeat ((with_reducible refine And.intro ?_ ?_); (focus (first | omega | (simp only [lenR]; omega) | (refine qq ?_; rfl) | (refine dq ?_; kernel_rfl) | (intros; simp_all; done))))
     (try simp only [zT, seval, implies_true, Nat.reduceLeDiff, Nat.reduceEqDiff, reduceCtorEq, reduceIte, valB, Bool.and_true])
     refine ifC.mk (fun h3 => ?_) (fun h3 => ?_)
     ·have h3 : u ≠ v := by simpa using h3
      repeat ((with_reducible refine And.intro ?_ ?_); (focus (first | omega | (simp only [lenR]; omega) | (refine qq ?_; rfl) | (refine dq ?_; kernel_rfl) | (intros; simp_all; done))))
      refine ⟨_, _, ret_d, ?_, rfl⟩
      rw [hno (ne_getD (by rw [← hu, ← hv]; exact h3))]
     ·have h3 : u = v := by simpa using h3
      refine ⟨take_eq_step g gy hij (by rw [← hu, ← hv]; exact h3), ?_⟩
      refine weak_to [] [0, 1] rfl (by simp) ?_ rfl
      simp only [zT, seval, implies_true, Nat.reduceLeDiff, Nat.reduceEqDiff, reduceCtorEq, reduceIte, @a_wrap ((j:Int) + 1) (by omega)]
      all_goals rfl
    ·simp only [zT, seval, implies_true, Nat.reduceLeDiff, Nat.reduceEqDiff, reduceCtorEq, reduceIte, (show ¬ (j:Int) < x.length by omega)]
     have : j = x.length := by omega
     subst this
     refine ⟨take_eq_step h hbk hi (by rw [← hx, ← hy]; exact eq_take h2 hij), ?_⟩
     refine weak_to [] [0, 1] rfl (by simp) ?_ rfl
     simp only [zT, seval, implies_true, Nat.reduceLeDiff, Nat.reduceEqDiff, reduceCtorEq, reduceIte, @a_wrap ((k:Int) + 1) (by omega)]
     all_goals rfl
  ·simp only [zT, seval, implies_true, Nat.reduceLeDiff, Nat.reduceEqDiff, reduceCtorEq, reduceIte, (show ¬ (k:Int) < a.rows.length by omega)]
   have : k = a.rows.length := by omega
   subst this
   repeat ((with_reducible refine And.intro ?_ ?_); (focus (first | omega | (simp only [lenR]; omega) | (refine qq ?_; rfl) | (refine dq ?_; kernel_rfl) | (intros; simp_all; done))))
   refine ⟨_, _, ret_d, ?_, rfl⟩
   rw [hF, sameT_t hcE (eq_take h1b hi)]
def sameA (a b : List NamT) : Bool := decide (a = b)
end YtadfcljoocjhdaaGreat
end Go.Proofs
