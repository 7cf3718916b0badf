/- A part of the proof: contracts of functions of this seat, and lemmas. No condition beyond those stated. -/
import Derived.Test.YtfmbadfdbjhekaaDoorWdxq
set_option linter.unusedVariables false
set_option linter.unusedSimpArgs false
set_option linter.unusedSectionVars false
set_option linter.unnecessarySimpa false
namespace Go.Proofs
open Go.AM
namespace YtfmbadfdbjhekaaDoor
def W64 (n : Int) : Int := IntKind.i64.wrap n
theorem W64_eq (n : Int) : W64 n = IntKind.i64.wrap n := rfl
theorem W64_add (a b : Int) : W64 (W64 a + b) = W64 (a + b) := by
 simp only [W64, IntKind.wrap_i64]; omega
def nm (l : List NodeT) (i : Nat) : List UInt8 := (l.getD i default).name
def sf (l : List NodeT) (i : Nat) : Int := (l.getD i default).self
def tt (l : List NodeT) (i : Nat) : Int := (l.getD i default).total
def ct (l : List NodeT) (i : Nat) : Int := (l.getD i default).count
def lastSib (l : List NodeT) : Nat → Int → Option Nat
 | 0, _ => none
 | i + 1, p => if par l i = p then some i else lastSib l i p
theorem lastSib_lt {l : List NodeT} {p : Int} : ∀ {i k : Nat}, lastSib l i p = some k → k < i ∧ par l k = p
 | 0, k, h => by simp [lastSib] at h
 | i + 1, k, h => by
  rw [lastSib] at h
  split at h
  ·cases h; rename_i e; exact ⟨by omega, e⟩
  ·have := lastSib_lt h; exact ⟨by omega, this.2⟩
theorem lastSib_none {l : List NodeT} {p : Int} : ∀ {i : Nat}, lastSib l i p = none → ∀ k, k < i → par l k ≠ p
 | 0, _, k, hk => by omega
 | i + 1, h, k, hk => by
  rw [lastSib] at h
  split at h
  ·cases h
  ·rename_i e
   by_cases e2 : k = i
   ·rw [e2]; exact e
   ·exact lastSib_none h k (by omega)
theorem lastSib_max {l : List NodeT} {p : Int} : ∀ {i k : Nat}, lastSib l i p = some k → ∀ j, k < j → j < i → par l j ≠ p
 | 0, k, h => by simp [lastSib] at h
 | i + 1, k, h => by
  rw [lastSib] at h
  split at h
  ·cases h; intro j h1 h2; omega
  ·rename_i e
   intro j h1 h2
   by_cases e2 : j = i
   ·rw [e2]; exact e
   ·exact lastSib_max h j h1 (by omega)
def orderE (l : List NodeT) (i : Nat) : Int :=
 if formOk l i = true then (match lastSib l i (par l i) with | some k => if Op.bytesLess (nm l k) (nm l i) = true then 0 else 11 | none => 0) else 10
theorem orderE_form {l : List NodeT} {i : Nat} (h : orderE l i = 0) : formOk l i = true := by
 unfold orderE at h
 split at h
 ·assumption
 ·omega
theorem tree_of {l : List NodeT} {k : Nat} (h : firstErr (orderE l) k = 0) : TreeUp l k := fun i hi => orderE_form (firstErr_zero h i hi)
theorem sib_lt {l : List NodeT} {n : Nat} (h : firstErr (orderE l) n = 0) : ∀ {j i : Nat}, i < n → j < i → par l j = par l i → Op.bytesLess (nm l j) (nm l i) = true := by
 intro j i
 induction i using Nat.strongRecOn with
 | _ i ih =>
  intro hi hj hp
  have h0 := firstErr_zero h i hi
  unfold orderE at h0
  split at h0
  ·cases hs : lastSib l i (par l i) with
   | none => exact absurd hp (lastSib_none hs j hj)
   | some k =>
    rw [hs] at h0
    simp only at h0
    split at h0
    ·rename_i hb
     obtain ⟨h1, h2⟩ := lastSib_lt hs
     rcases Nat.lt_trichotomy j k with h3 | h3 | h3
     ·exact bl_trans (ih k h1 (by omega) h3 (by rw [hp, h2])) hb
     ·rw [h3]; exact hb
     ·exact absurd hp (lastSib_max hs j h3 hj)
    ·omega
  ·omega
def nodeE (n : NodeT) : Int := if nameF n.name = 0 then (if n.self < 0 ∨ n.self > 100000000000000 ∨ n.count < 0 ∨ n.count > 20000 ∨ (n.count = 0 ∧ n.self ≠ 0) then 2 else 0) else nameF n.name
def selfS (l : List NodeT) : Int := (l.map (·.self)).sum
def countS (l : List NodeT) : Int := (l.map (·.count)).sum
def rangesF (l : List NodeT) : Int := if firstErr (fun k => nodeE (l.getD k default)) l.length = 0 then (if selfS l > 100000000000000 ∨ countS l > 20000 then 2 else 0) else firstErr (fun k => nodeE (l.getD k default)) l.length
theorem nodeE_ok {n : NodeT} (h : nodeE n = 0) : nameF n.name = 0 ∧ 0 ≤ n.self ∧ n.self ≤ 100000000000000 ∧ 0 ≤ n.count ∧ n.count ≤ 20000 ∧ (n.count = 0 → n.self = 0) := by
 unfold nodeE at h
 split at h
 ·rename_i h0
  split at h
  ·omega
  ·refine ⟨h0, by omega, by omega, by omega, by omega, by omega⟩
 ·contradiction
theorem sums_take {l : List NodeT} : ∀ {k : Nat}, k ≤ l.length → firstErr (fun k => nodeE (l.getD k default)) k = 0 → 0 ≤ selfS (l.take k) ∧ selfS (l.take k) ≤ k * 100000000000000 ∧ 0 ≤ countS (l.take k) ∧ countS (l.take k) ≤ k * 20000
 | 0, _, _ => by simp [selfS, countS]
 | k + 1, hk, h => by
  have h0 := firstErr_zero h
  have ih := sums_take (l := l) (k := k) (by omega) (firstErr_all fun j hj => h0 j (by omega))
  have h1 := nodeE_ok (h0 k (by omega))
  rw [take_step l k (by omega)]
  simp only [selfS, countS, List.map_append, List.sum_append, List.map_cons, List.map_nil, List.sum_cons, List.sum_nil] at ih ⊢
  omega
def totF (l : List NodeT) : Nat → Nat → Int
 | 0, _ => 0
 | f + 1, i => W64 (sf l i + ((kids l i).map (totF l f)).sum)
def totW (l : List NodeT) (i : Nat) : Int := totF l l.length i
theorem kids_gt {l : List NodeT} (h : TreeUp l l.length) {i k : Nat} (hk : k ∈ kids l i) : i < k ∧ k < l.length := by
 obtain ⟨h1, h2⟩ := mem_kids.1 hk
 have := tree_par h h1
 omega
theorem totF_fuel {l : List NodeT} (h : TreeUp l l.length) : ∀ (f g i : Nat), i < l.length → l.length ≤ f + i → l.length ≤ g + i → totF l f i = totF l g i := by
 intro f
 induction f with
 | zero => intro g i h1 h2; omega
 | succ f ih =>
  intro g i h1 h2 h3
  obtain ⟨g, rfl⟩ : ∃ g', g = g' + 1 := ⟨g - 1, by omega⟩
  rw [totF, totF]
  congr 2
  congr 1
  refine List.map_congr_left fun k hk => ?_
  have := kids_gt h hk
  exact ih g k this.2 (by omega) (by omega)
theorem totW_eq {l : List NodeT} (h : TreeUp l l.length) {i : Nat} (hi : i < l.length) : totW l i = W64 (sf l i + ((kids l i).map (totW l)).sum) := by
 obtain ⟨n, hn⟩ : ∃ n, l.length = n + 1 := ⟨l.length - 1, by omega⟩
 have e : totW l i = totF l (n + 1) i := by rw [← hn]; rfl
 rw [e, totF]
 congr 2
 congr 1
 refine List.map_congr_left fun k hk => ?_
 have := kids_gt h hk
 exact totF_fuel h _ _ k this.2 (by omega) (by omega)
def psum (l : List NodeT) (j i : Nat) : Int := (((kids l i).filter fun k => decide (j ≤ k)).map (totW l)).sum
theorem filter_step {xs : List Nat} (hs : xs.Pairwise (· < ·)) (j : Nat) : xs.filter (fun k => decide (j ≤ k)) = (if j ∈ xs then [j] else []) ++ xs.filter (fun k => decide (j + 1 ≤ k)) := by
 induction xs with
 | nil => rfl
 | cons x xs ih =>
  rw [List.pairwise_cons] at hs
  have ih := ih hs.2
  rcases Nat.lt_trichotomy x j with h | h | h
  ·rw [List.filter_cons_of_neg (by simp; omega), List.filter_cons_of_neg (by simp; omega), ih]
   congr 1
   have : j ≠ x := by omega
   simp [this]
  ·subst h
   rw [List.filter_cons_of_pos (by simp), List.filter_cons_of_neg (by simp), if_pos List.mem_cons_self]
   have hn : x ∉ xs := fun hm => by have := hs.1 x hm; omega
   rw [ih, if_neg hn]
   rfl
  ·have hn : j ∉ x :: xs := fun hm => by
    rcases List.mem_cons.1 hm with e | hm
    ·omega
    ·have := hs.1 j hm; omega
   rw [if_neg hn, List.nil_append]
   refine List.filter_congr fun y hy => ?_
   have : j ≠ y := fun e => hn (e ▸ hy)
   simp; omega
theorem psum_step {l : List NodeT} {j : Nat} (hj : j < l.length) (i : Nat) : psum l j i = (if par l j = i then totW l j else 0) + psum l (j + 1) i := by
 unfold psum
 rw [filter_step (kids_sorted l i), List.map_append, List.sum_append]
 congr 1
 by_cases e : par l j = i
 ·rw [if_pos (mem_kids.2 ⟨hj, e⟩), if_pos e]; simp
 ·rw [if_neg (fun hm => e (mem_kids.1 hm).2), if_neg e]; rfl
theorem psum_full {l : List NodeT} (h : TreeUp l l.length) (i : Nat) : psum l (i + 1) i = ((kids l i).map (totW l)).sum := by
 unfold psum
 rw [List.filter_eq_self.2 fun k hk => by have := kids_gt h hk; simp; omega]
theorem psum_end (l : List NodeT) (i : Nat) : psum l l.length i = 0 := by
 unfold psum
 rw [List.filter_eq_nil_iff.2 fun k hk => by have := (mem_kids.1 hk).1; simp; omega]
 rfl
def leafB (l : List NodeT) (i : Nat) : Bool := decide (i + 1 = l.length) || !(par l (i + 1) == (i : Int))
def totA (l : List NodeT) (j i : Nat) : Int := if j ≤ i then totW l i else W64 (psum l j i)
def totBad (l : List NodeT) (i : Nat) : Bool := (leafB l i && (ct l i == 0)) || (tt l i != totW l i)
def checkF (l : List NodeT) : Int :=
 if l.length > 2000 then 7 else if rangesF l = 0 then (if firstErr (orderE l) l.length = 0 then (if (List.range l.length).any (totBad l) = true then 10 else 0) else firstErr (orderE l) l.length) else rangesF l
theorem checkF_ok {l : List NodeT} (h : checkF l = 0) : l.length ≤ 2000 ∧ rangesF l = 0 ∧ firstErr (orderE l) l.length = 0 ∧ TreeUp l l.length ∧ ∀ i, i < l.length → totBad l i = false := by
 unfold checkF at h
 split at h
 ·omega
 ·split at h
  ·split at h
   ·split at h
    ·omega
    ·rename_i h1 h2 h3 h4
     refine ⟨by omega, h2, h3, tree_of h3, fun i hi => ?_⟩
     rw [Bool.not_eq_true, List.any_eq_false] at h4
     simpa using h4 i (by simp [hi])
   ·contradiction
  ·contradiction
def refSum (l : List NodeT) (i k : Nat) : Int := W64 (sf l i + (((kids l i).filter fun j => decide (j < k)).map (tt l)).sum)
def refBad (l : List NodeT) (i : Nat) : Bool := ((kids l i).isEmpty && (ct l i == 0)) || (W64 (sf l i + ((kids l i).map (tt l)).sum) != tt l i)
end YtfmbadfdbjhekaaDoor
end Go.Proofs
