/- A part of the proof: contracts of functions of this seat, and lemmas. No condition beyond those stated. -/
import Derived.Test.YtadfcljoocjhdaaGreatWttf
set_option linter.unusedVariables false
set_option linter.unusedSimpArgs false
set_option linter.unusedSectionVars false
set_option linter.unnecessarySimpa false
set_option maxRecDepth 100000
namespace Go.Proofs
open Go.AM
namespace YtadfcljoocjhdaaGreat
variable {Gl : Globs}
structure Pre {α : Type} (c : α → α → Int) : Prop where
 self : ∀ a, c a a = 0
 anti : ∀ a b, c b a = -c a b
 trans : ∀ a b d, c a b ≤ 0 → c b d ≤ 0 → c a d ≤ 0
theorem Pre.strict {α : Type} {c : α → α → Int} (h : Pre c) {a b d : α} (h1 : c a b ≤ 0) (h2 : c b d ≤ 0) (h3 : c a b < 0 ∨ c b d < 0) : c a d < 0 := by
 have h4 := h.trans a b d h1 h2
 rcases Int.lt_or_le (c a d) 0 with h5 | h5
 ·exact h5
 exfalso
 have h6 : c d a ≤ 0 := by rw [h.anti a d]; omega
 rcases h3 with h3 | h3
 ·have := h.trans b d a h2 h6
  rw [h.anti a b] at this; omega
 ·have := h.trans d a b h6 h1
  rw [h.anti b d] at this; omega
theorem Pre.lex {α : Type} {f c : α → α → Int} (hf : Pre f) (hc : Pre c) : Pre (fun a b => if f a b = 0 then c a b else f a b) := by
 refine ⟨fun a => ?_, fun a b => ?_, fun a b d h1 h2 => ?_⟩
 ·simp only [hf.self, hc.self, if_true]
 ·rw [hf.anti a b, hc.anti a b]
  by_cases e : f a b = 0
  ·rw [if_pos (by omega), if_pos e]
  ·rw [if_neg (by omega), if_neg e]
 ·by_cases e1 : f a b = 0
  ·rw [if_pos e1] at h1
   by_cases e2 : f b d = 0
   ·rw [if_pos e2] at h2
    have q1 := hf.trans a b d (by omega) (by omega)
    have q2 := hf.trans d b a (by rw [hf.anti b d]; omega) (by rw [hf.anti a b]; omega)
    rw [hf.anti a d] at q2
    rw [if_pos (by omega)]
    exact hc.trans a b d h1 h2
   ·rw [if_neg e2] at h2
    have := hf.strict (a := a) (b := b) (d := d) (by omega) h2 (.inr (by omega))
    rw [if_neg (by omega)]; omega
  ·rw [if_neg e1] at h1
   have h3 : f b d ≤ 0 := by
    by_cases e2 : f b d = 0
    ·omega
    ·rw [if_neg e2] at h2; exact h2
   have := hf.strict (a := a) (b := b) (d := d) h1 h3 (.inl (by omega))
   rw [if_neg (by omega)]; omega
theorem Pre.zero {α : Type} : Pre (fun _ _ : α => (0 : Int)) := ⟨fun _ => rfl, fun _ _ => rfl, fun _ _ _ _ _ => Int.le_refl 0⟩
theorem Pre.first {α : Type} {f : Nat → α → α → Int} (h : ∀ i, Pre (f i)) : ∀ n, Pre (fun a b => firstErr (fun i => f i a b) n)
 | 0 => Pre.zero
 | n + 1 => (Pre.first h n).lex (h n)
theorem Pre.comap {α β : Type} {c : α → α → Int} (h : Pre c) (g : β → α) : Pre (fun a b => c (g a) (g b)) := ⟨fun a => h.self _, fun a b => h.anti _ _, fun a b d => h.trans _ _ _⟩
theorem Pre.flip {α : Type} {c : α → α → Int} (h : Pre c) : Pre (fun a b => c b a) := ⟨fun a => h.self _, fun a b => h.anti _ _, fun a b d h1 h2 => h.trans _ _ _ h2 h1⟩
theorem pre_int : Pre cmpI := ⟨fun a => by rcases cmpI_cases a a with ⟨h, _⟩ | ⟨_, h⟩ | ⟨h, _⟩ <;> omega, cmpI_anti, fun a b d h1 h2 => by rw [cmpI_le0] at *; omega⟩
theorem pre_str : Pre cmpS := by
 refine ⟨fun a => ?_, cmpS_anti, fun a b d h1 h2 => ?_⟩
 ·rcases cmpS_cases a a with ⟨_, h, _⟩ | ⟨_, _, _, h⟩ | ⟨_, h, _⟩
  ·exact absurd rfl h
  ·exact h
  ·exact absurd rfl h
 ·rcases cmpS_cases a b with ⟨a1, a2, a3, a4⟩ | ⟨a1, a2, a3, a4⟩ | ⟨a1, a2, a3, a4⟩
  ·rcases cmpS_cases b d with ⟨b1, b2, b3, b4⟩ | ⟨b1, b2, b3, b4⟩ | ⟨b1, b2, b3, b4⟩
   ·have := bl_trans a1 b1
    rcases cmpS_cases a d with ⟨c1, c2, c3, c4⟩ | ⟨c1, c2, c3, c4⟩ | ⟨c1, c2, c3, c4⟩
    ·omega
    ·omega
    ·rw [show ltS a d = true from this] at c1; cases c1
   ·subst b2; exact h1
   ·omega
  ·subst a2; exact h2
  ·omega
theorem pre_val : Pre ordV := by
 refine ⟨ordV_self, ordV_anti, fun a b d h1 h2 => ?_⟩
 have kle : ∀ x y : ValT, ordV x y ≤ 0 → x.k ≤ y.k := fun x y h => by
  by_cases e : x.k = y.k
  ·omega
  ·unfold ordV at h
   rw [if_pos (by simp [e]), cmpI_le0] at h; exact h
 have k1 := kle a b h1
 have k2 := kle b d h2
 by_cases e : a.k = d.k
 ·have e1 : a.k = b.k := by omega
  have e2 : b.k = d.k := by omega
  unfold ordV at h1 h2 ⊢
  rw [if_neg (by simp [e1])] at h1
  rw [if_neg (by simp [e2]), ← e1] at h2
  rw [if_neg (by simp [e])]
  split
  ·rename_i h3
   rw [if_pos h3] at h1 h2
   exact pre_str.trans _ _ _ h1 h2
  ·rename_i h3
   rw [if_neg h3] at h1 h2
   split
   ·rename_i h4
    rw [if_pos h4] at h1 h2
    exact pre_int.trans _ _ _ h1 h2
   ·omega
 ·unfold ordV
  rw [if_pos (by simp [e]), cmpI_le0]; omega
def keyAt (cols : List ColT) (s : SrtT) (r : List ValT) : ValT := r.getD (colF cols s.col).toNat default
def ordAt (cols : List ColT) (s : SrtT) (a b : List ValT) : Int := if s.desc = true then ordV (keyAt cols s b) (keyAt cols s a) else ordV (keyAt cols s a) (keyAt cols s b)
def byF (cols : List ColT) (l : List SrtT) (a b : List ValT) : Int := firstErr (fun i => ordAt cols (l.getD i default) a b) l.length
theorem pre_at (cols : List ColT) (s : SrtT) : Pre (ordAt cols s) := by
 unfold ordAt
 cases s.desc
 ·exact pre_val.comap (keyAt cols s)
 ·exact (pre_val.comap (keyAt cols s)).flip
theorem pre_by (cols : List ColT) (l : List SrtT) : Pre (byF cols l) := Pre.first (fun i => pre_at cols (l.getD i default)) l.length
def ltR (cols : List ColT) (l : List SrtT) (a b : List ValT) : Bool := decide (byF cols l a b < 0)
def sortedT (t : TabT) (l : List SrtT) : TabT := ⟨t.cols, sortF (ltR t.cols l) t.rows⟩
def noCol (t : TabT) (l : List SrtT) : Bool := l.any fun s => decide (colF t.cols s.col < 0)
def sortedE (t : TabT) (l : List SrtT) : Int := if checkF t ≠ 0 then checkF t else if noCol t l = true then 16 else 0
def sortedF (t : TabT) (l : List SrtT) : TabT := if sortedE t l = 0 then sortedT t l else ⟨[], []⟩
def valOf (d : D) : ValT := ⟨(d.cell 0).toInt, (d.cell 1).toInt, (d.cell 2).toStr⟩
def rowOf (d : D) : List ValT := d.toSl.map valOf
theorem rowOf_row (r : List ValT) : rowOf (rowD r) = r := by
 show (r.map ValT.toD).map valOf = r
 rw [List.map_map]
 exact List.map_id'' (fun x => rfl) r
def cmpD (cols : List ColT) (l : List SrtT) (x y : D) : Int := byF cols l (rowOf x) (rowOf y)
theorem cmpD_row (cols : List ColT) (l : List SrtT) (a b : List ValT) : cmpD cols l (rowD a) (rowD b) = byF cols l a b := by rw [cmpD, rowOf_row, rowOf_row]
def DmR (n : Nat) (x : D) : Prop := ∃ r : List ValT, x = rowD r ∧ r.length = n
theorem swoR (cols : List ColT) (l : List SrtT) (n : Nat) : Swo (DmR n) (fun x y => decide (cmpD cols l x y < 0)) := by
 have hp := (pre_by cols l).comap rowOf
 refine ⟨fun x _ => decide_eq_false ?_, fun x y z _ _ _ h1 h2 => ?_, fun x y z _ _ _ h1 h2 => ?_⟩
 ·have := hp.self x
  show ¬ byF cols l (rowOf x) (rowOf x) < 0
  omega
 ·have h1 := of_decide_eq_true h1
  have h2 := of_decide_eq_true h2
  exact decide_eq_true (hp.strict (Int.le_of_lt h1) (Int.le_of_lt h2) (.inl h1))
 ·have h1 := of_decide_eq_false h1
  have h2 := of_decide_eq_false h2
  refine decide_eq_false ?_
  have a1 := hp.anti x y
  have a2 := hp.anti y z
  have a3 := hp.anti x z
  have := hp.trans z y x (by unfold cmpD at h2; omega) (by unfold cmpD at h1; omega)
  unfold cmpD
  omega
end YtadfcljoocjhdaaGreat
end Go.Proofs
