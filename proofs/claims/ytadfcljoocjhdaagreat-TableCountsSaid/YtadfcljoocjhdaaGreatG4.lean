/- A part of the proof: an abstract machine over data, and lemmas; nothing of the statement. No condition beyond those stated. -/
import Derived.Test.YtadfcljoocjhdaaGreatG3
import Derived.Carry
import Derived.ProofKit
import Derived.Lib.LaidTab
set_option linter.unusedVariables false
set_option linter.unusedSimpArgs false
set_option linter.unusedSectionVars false
set_option linter.unnecessarySimpa false

namespace Go.AM
variable {Dm : D → Prop} {lt : D → D → Bool} {xs : List D} {π ρ κ : Nat → Nat}
def Cut (s p : Nat) : Prop := ∃ j, p = j * s
theorem Cut.zero (s : Nat) : Cut s 0 := ⟨0, by simp⟩
theorem Cut.next {s p : Nat} (h : Cut s p) : Cut s (p + s) := by
 obtain ⟨j, rfl⟩ := h
 exact ⟨j + 1, by rw [Nat.add_mul]; omega⟩
theorem Cut.half {s p : Nat} (h : Cut (2 * s) p) : Cut s p := by
 obtain ⟨j, rfl⟩ := h
 exact ⟨j * 2, by rw [Nat.mul_assoc]⟩
theorem Cut.mid {s p : Nat} (h : Cut (2 * s) p) : Cut s (p + s) := h.half.next
theorem Cut.ge {s p q : Nat} (h : Cut s p) (k : Cut s q) (hl : p < q) : p + s ≤ q := by
 obtain ⟨i, rfl⟩ := h
 obtain ⟨j, rfl⟩ := k
 have h1 : i < j := by
  rcases Nat.lt_or_ge i j with h | h
  ·exact h
  ·have := Nat.mul_le_mul_right s h; omega
 have h2 : (i + 1) * s ≤ j * s := Nat.mul_le_mul_right s h1
 rw [Nat.add_mul] at h2
 omega
structure Blo (lt : D → D → Bool) (xs : List D) (c d : Nat) (ρ : Nat → Nat) : Prop where
 inn : ∀ p, c ≤ p → p < d → c ≤ ρ p ∧ ρ p < d
 sort : Sorted lt xs c d ρ
def Blks (lt : D → D → Bool) (xs : List D) (s n lo hi : Nat) (ρ : Nat → Nat) : Prop := ∀ c, Cut s c → lo ≤ c → c < hi → Blo lt xs c (min (c + s) n) ρ
theorem Blo.out {a b c d : Nat} (h : Blo lt xs c d ρ) (hM : Mv a b ρ κ) (hd : d ≤ a ∨ b ≤ c) : Blo lt xs c d κ :=
 ⟨fun p h1 h2 => by rw [hM.out p (by omega)]; exact h.inn p h1 h2, fun p q h1 h2 h3 => by rw [hM.out p (by omega), hM.out q (by omega)]; exact h.sort p q h1 h2 h3⟩
theorem Blo.mv {c d : Nat} (hi : ∀ p, c ≤ p → p < d → c ≤ ρ p ∧ ρ p < d) (hM : Mv c d ρ κ) (hS : Sorted lt xs c d κ) : Blo lt xs c d κ :=
 ⟨fun p h1 h2 => by obtain ⟨q, q1, q2, q3⟩ := hM.inn p h1 h2; rw [q3]; exact hi q q1 q2, hS⟩
theorem blks_step {s n a b : Nat} (hs : 0 < s) (ha : Cut s a) (hb : b = min (a + s) n) (hB : Blks lt xs s n 0 a ρ) (hid : ∀ p, a ≤ p → ρ p = p) (hM : Mv a b ρ κ) (hS : Sorted lt xs a b κ) :
  Blks lt xs s n 0 (a + 1) κ ∧ (∀ p, b ≤ p → a ≤ p → κ p = p) := by
 refine ⟨fun c hc h1 h2 => ?_, fun p h1 h2 => by rw [hM.out p (by omega)]; exact hid p h2⟩
 by_cases e : c = a
 ·subst e
  rw [← hb]
  exact Blo.mv (fun p h1 h2 => by rw [hid p h1]; omega) hM hS
 ·have := hc.ge ha (by omega)
  exact (hB c hc h1 (by omega)).out hM (by omega)
theorem blks_more {s n a a' : Nat} (ha : Cut s a) (h : Blks lt xs s n 0 (a + 1) ρ) (he : a' ≤ a + s) : Blks lt xs s n 0 a' ρ := fun c hc h1 h2 => by
 rcases Nat.lt_trichotomy c a with h' | h' | h'
 ·exact h c hc h1 (by omega)
 ·exact h c hc h1 (by omega)
 ·have := ha.ge hc h'; omega
theorem merge_pre {s n a b : Nat} (ha : Cut (2 * s) a) (hs : 0 < s) (hm : a + s < b) (hb : b = min (a + 2 * s) n) (hB : Blks lt xs s n a n ρ) :
  Sorted lt xs a (a + s) ρ ∧ Sorted lt xs (a + s) b ρ ∧ Tags a (a + s) b ρ ∧ (∀ p, a ≤ p → p < b → a ≤ ρ p ∧ ρ p < b) := by
 have h1 := hB a ha.half (Nat.le_refl _) (by omega)
 have h2 := hB (a + s) ha.mid (by omega) (by omega)
 have e1 : min (a + s) n = a + s := by omega
 have e2 : min (a + s + s) n = b := by omega
 rw [e1] at h1
 rw [e2] at h2
 refine ⟨h1.sort, h2.sort, fun p q p1 p2 q1 q2 => ?_, fun p p1 p2 => ?_⟩
 ·have := h1.inn p p1 p2
  have := h2.inn q q1 q2
  omega
 ·by_cases h : p < a + s
  ·have := h1.inn p p1 h; omega
  ·have := h2.inn p (by omega) p2; omega
theorem merge_step {s n a b : Nat} (ha : Cut (2 * s) a) (hs : 0 < s) (hm : a + s < b) (hb : b = min (a + 2 * s) n) (hB : Blks lt xs s n a n ρ) (hD : Blks lt xs (2 * s) n 0 a ρ) (hM : Mv a b ρ κ) (hS : Sorted lt xs a b κ) :
  Blks lt xs s n (a + 2 * s) n κ ∧ Blks lt xs (2 * s) n 0 (a + 1) κ := by
 obtain ⟨_, _, _, hin⟩ := merge_pre ha hs hm hb hB
 refine ⟨fun c hc h1 h2 => (hB c hc (by omega) h2).out hM (.inr (by omega)), fun c hc h1 h2 => ?_⟩
 by_cases e : c = a
 ·subst e
  rw [← hb]
  exact Blo.mv hin hM hS
 ·have := hc.ge ha (by omega)
  exact (hD c hc h1 (by omega)).out hM (by omega)
theorem merge_alone {s n a : Nat} (ha : Cut (2 * s) a) (hs : 0 < s) (hm : n ≤ a + s) (hB : Blks lt xs s n a n ρ) (hD : Blks lt xs (2 * s) n 0 a ρ) : Blks lt xs (2 * s) n 0 n ρ := fun c hc h1 h2 => by
 rcases Nat.lt_trichotomy c a with h' | h' | h'
 ·exact hD c hc h1 h'
 ·subst h'
  have := hB c ha.half (Nat.le_refl _) h2
  rw [show min (c + 2 * s) n = min (c + s) n by omega]; exact this
 ·have := ha.ge hc h'; omega
theorem blks_done {s n : Nat} (hn : n ≤ s) (h : Blks lt xs s n 0 n ρ) : Blo lt xs 0 n ρ := by
 by_cases e : n = 0
 ·subst e; exact ⟨fun p _ h => by omega, fun p q _ _ h => by omega⟩
 ·have := h 0 (Cut.zero s) (Nat.le_refl _) (by omega)
  rwa [show min (0 + s) n = n by omega] at this
theorem pairwise_unique {α : Type} {R : α → α → Prop} : ∀ {l1 l2 : List α}, (∀ x ∈ l1, ∀ y ∈ l1, R x y → R y x → False) → l1.Pairwise R → l2.Pairwise R → (∀ a, a ∈ l1 ↔ a ∈ l2) → l1 = l2
 | [], [], _, _, _, _ => rfl
 | [], b :: l2, _, _, _, h => by have := (h b).2 List.mem_cons_self; cases this
 | a :: l1, [], _, _, _, h => by have := (h a).1 List.mem_cons_self; cases this
 | a :: l1, b :: l2, hA, h1, h2, h => by
  rw [List.pairwise_cons] at h1 h2
  have hb : b ∈ a :: l1 := (h b).2 List.mem_cons_self
  have e : a = b := by
   apply Classical.byContradiction
   intro hne
   have m1 : b ∈ l1 := by
    rcases List.mem_cons.1 hb with e | h'
    ·exact absurd e.symm hne
    ·exact h'
   have m2 : a ∈ l2 := by
    rcases List.mem_cons.1 ((h a).1 List.mem_cons_self) with e | h'
    ·exact absurd e hne
    ·exact h'
   exact hA a List.mem_cons_self b hb (h1.1 b m1) (h2.1 a m2)
  subst e
  congr 1
  refine pairwise_unique (fun x hx y hy => hA x (List.mem_cons_of_mem _ hx) y (List.mem_cons_of_mem _ hy)) h1.2 h2.2 fun x => ⟨fun hx => ?_, fun hx => ?_⟩
  ·rcases List.mem_cons.1 ((h x).1 (List.mem_cons_of_mem _ hx)) with e | h'
   ·subst e; exact (hA x List.mem_cons_self x List.mem_cons_self (h1.1 x hx) (h1.1 x hx)).elim
   ·exact h'
  ·rcases List.mem_cons.1 ((h x).2 (List.mem_cons_of_mem _ hx)) with e | h'
   ·subst e; exact (hA x List.mem_cons_self x List.mem_cons_self (h2.1 x hx) (h2.1 x hx)).elim
   ·exact h'
theorem nodup_le : ∀ (n : Nat) (l : List Nat), l.Nodup → (∀ x ∈ l, x < n) → l.length ≤ n
 | 0, l, _, h => by
  cases l with
  | nil => exact Nat.le_refl _
  | cons a l => have := h a List.mem_cons_self; omega
 | n + 1, l, hn, h => by
  have h1 := nodup_le n (l.erase n) (hn.erase n) fun x hx => by
   have hm := List.mem_of_mem_erase hx
   have := h x hm
   have : x ≠ n := fun e => by
    subst e
    exact (List.Nodup.not_mem_erase hn) hx
   omega
  have := List.length_erase_le (a := n) (l := l)
  by_cases hm : n ∈ l
  ·rw [List.length_erase_of_mem hm] at h1; omega
  ·rw [List.erase_of_not_mem hm] at h1; omega
theorem nodup_all {n : Nat} {l : List Nat} (hn : l.Nodup) (h : ∀ x ∈ l, x < n) (hl : l.length = n) : ∀ i, i < n → i ∈ l := fun i hi => by
 apply Classical.byContradiction
 intro hm
 have := nodup_le n (i :: l) (List.nodup_cons.2 ⟨hm, hn⟩) fun x hx => by
  rcases List.mem_cons.1 hx with rfl | hx
  ·exact hi
  ·exact h x hx
 simp at this
 omega
def places (n : Nat) (ρ : Nat → Nat) : List Nat := (List.range n).map ρ
theorem places_sorted {n : Nat} (h : Sorted lt xs 0 n ρ) : (places n ρ).Pairwise (Lx lt xs) := by
 unfold places
 rw [List.pairwise_iff_getElem]
 intro i j hi hj hij
 simp only [List.length_map, List.length_range] at hi hj
 simp only [List.getElem_map, List.getElem_range]
 exact h i j (Nat.zero_le _) hij hj
theorem places_nodup {n : Nat} (hw : Swo Dm lt) (hx : ∀ y ∈ xs, Dm y) (hb : Blo lt xs 0 n ρ) (hn : n ≤ xs.length) : (places n ρ).Nodup := by
 refine (places_sorted hb.sort).imp_of_mem (S := (· ≠ ·)) fun {a b} ha hb' hL e => ?_
 subst e
 unfold places at ha
 obtain ⟨i, hi, rfl⟩ := List.mem_map.1 ha
 have := hb.inn i (Nat.zero_le _) (by simpa using hi)
 exact Lx.asymm hw hx (by omega) (by omega) hL hL
theorem places_mem {n : Nat} (hw : Swo Dm lt) (hx : ∀ y ∈ xs, Dm y) (hb : Blo lt xs 0 n ρ) (hn : n ≤ xs.length) (i : Nat) : i ∈ places n ρ ↔ i < n := by
 have hlt : ∀ x ∈ places n ρ, x < n := fun x hx => by
  unfold places at hx
  obtain ⟨i, hi, rfl⟩ := List.mem_map.1 hx
  exact (hb.inn i (Nat.zero_le _) (by simpa using hi)).2
 exact ⟨hlt i, nodup_all (places_nodup hw hx hb hn) hlt (by simp [places]) i⟩
theorem places_unique {n : Nat} (hw : Swo Dm lt) (hx : ∀ y ∈ xs, Dm y) (hb : Blo lt xs 0 n ρ) (hn : n ≤ xs.length) {l : List Nat} (h1 : l.Pairwise (Lx lt xs)) (h2 : ∀ i, i ∈ l ↔ i < n) : places n ρ = l :=
 pairwise_unique (fun i hi j hj a b => Lx.asymm hw hx (by have := (places_mem hw hx hb hn i).1 hi; omega) (by have := (places_mem hw hx hb hn j).1 hj; omega) a b) (places_sorted hb.sort) h1 fun a => by rw [places_mem hw hx hb hn, h2]
end Go.AM


namespace Go.AM
section
variable {α : Type} [Inhabited α]
def putAt (lt : α → α → Bool) (l : List α) (b : α) : Nat → Nat
 | 0 => 0
 | k + 1 => if lt b (l.getD k default) = true then putAt lt l b k else k + 1
def putF (lt : α → α → Bool) (l : List α) (b : α) : List α := l.take (putAt lt l b l.length) ++ b :: l.drop (putAt lt l b l.length)
def sortF (lt : α → α → Bool) (l : List α) : List α := l.foldl (putF lt) []
theorem putAt_le (lt : α → α → Bool) (l : List α) (b : α) : ∀ k, putAt lt l b k ≤ k
 | 0 => Nat.le_refl _
 | k + 1 => by
  have := putAt_le lt l b k
  unfold putAt; split <;> omega
theorem putAt_hi {lt : α → α → Bool} {l : List α} {b : α} : ∀ {k j : Nat}, putAt lt l b k ≤ j → j < k → lt b (l.getD j default) = true
 | 0, j, _, h => by omega
 | k + 1, j, h1, h2 => by
  unfold putAt at h1
  split at h1
  ·rename_i h
   by_cases e : j = k
   ·subst e; exact h
   ·exact putAt_hi h1 (by omega)
  ·omega
theorem putAt_lo {lt : α → α → Bool} {l : List α} {b : α} : ∀ {k : Nat}, 0 < putAt lt l b k → lt b (l.getD (putAt lt l b k - 1) default) = false
 | 0, h => by simp [putAt] at h
 | k + 1, h => by
  unfold putAt at h ⊢
  split at h
  ·rename_i h'
   rw [if_pos h']; exact putAt_lo h
  ·rename_i h'
   rw [if_neg h']; simpa using h'
theorem putF_length (lt : α → α → Bool) (l : List α) (b : α) : (putF lt l b).length = l.length + 1 := by
 have := putAt_le lt l b l.length
 simp [putF]; omega
theorem putF_mem {lt : α → α → Bool} {l : List α} {b x : α} : x ∈ putF lt l b ↔ x ∈ l ∨ x = b := by
 unfold putF
 rw [List.mem_append, List.mem_cons]
 have : x ∈ l ↔ x ∈ l.take (putAt lt l b l.length) ∨ x ∈ l.drop (putAt lt l b l.length) := by
  rw [← List.mem_append, List.take_append_drop]
 rw [this]
 constructor
 ·rintro (h | h | h) <;> simp [h]
 ·rintro ((h | h) | h) <;> simp [h]
theorem sortF_length (lt : α → α → Bool) (l : List α) : (sortF lt l).length = l.length := by
 have gen : ∀ (l a : List α), (l.foldl (putF lt) a).length = a.length + l.length := by
  intro l
  induction l with
  | nil => intro a; rfl
  | cons x l ih => intro a; rw [List.foldl_cons, ih, putF_length, List.length_cons]; omega
 have := gen l []
 unfold sortF
 simpa using this
theorem sortF_snoc (lt : α → α → Bool) (l : List α) (b : α) : sortF lt (l ++ [b]) = putF lt (sortF lt l) b := by simp [sortF]
end
section
variable {α β : Type} [Inhabited α] [Inhabited β] {g : α → β} {lt : β → β → Bool}
theorem putAt_map {l : List α} {b : α} : ∀ {k : Nat}, k ≤ l.length → putAt lt (l.map g) (g b) k = putAt (fun x y => lt (g x) (g y)) l b k
 | 0, _ => rfl
 | k + 1, h => by
  have e : (l.map g).getD k default = g (l.getD k default) := by simp [show k < l.length by omega]
  unfold putAt
  rw [e, putAt_map (by omega)]
theorem putF_map {l : List α} {b : α} : putF lt (l.map g) (g b) = (putF (fun x y => lt (g x) (g y)) l b).map g := by
 unfold putF
 rw [List.length_map, putAt_map (Nat.le_refl _), List.map_append, List.map_cons, List.map_take, List.map_drop]
theorem sortF_map {l : List α} : sortF lt (l.map g) = (sortF (fun x y => lt (g x) (g y)) l).map g := by
 have gen : ∀ (l a : List α), (l.map g).foldl (putF lt) (a.map g) = (l.foldl (putF fun x y => lt (g x) (g y)) a).map g := by
  intro l
  induction l with
  | nil => intro a; rfl
  | cons x l ih => intro a; rw [List.map_cons, List.foldl_cons, List.foldl_cons, putF_map, ih]
 exact gen l []
end
variable {Dm : D → Prop} {lt : D → D → Bool} {xs : List D}
theorem put_lx (hw : Swo Dm lt) (hx : ∀ y ∈ xs, Dm y) {l : List Nat} {k : Nat} (hk : k < xs.length) (hl : l.Pairwise (Lx lt xs)) (hlt : ∀ i ∈ l, i < k) :
  (putF (fun i j => lt (xs.getD i default) (xs.getD j default)) l k).Pairwise (Lx lt xs) := by
 obtain ⟨ltx, hltx⟩ : ∃ ltx, ltx = fun i j : Nat => lt (xs.getD i default) (xs.getD j default) := ⟨_, rfl⟩
 rw [← hltx]
 unfold putF
 obtain ⟨p, hp⟩ : ∃ p, p = putAt ltx l k l.length := ⟨_, rfl⟩
 have hle : p ≤ l.length := by rw [hp]; exact putAt_le _ _ _ _
 rw [← hp]
 have hsp : (l.take p ++ l.drop p).Pairwise (Lx lt xs) := by rw [List.take_append_drop]; exact hl
 rw [List.pairwise_append] at hsp ⊢
 obtain ⟨h1, h2, h3⟩ := hsp
 have hkd : ∀ j ∈ l.drop p, Lx lt xs k j := fun j hj => by
  obtain ⟨i, hi⟩ := List.getElem?_of_mem hj
  rw [List.getElem?_drop] at hi
  have hil : p + i < l.length := by
   rcases Nat.lt_or_ge (p + i) l.length with h | h
   ·exact h
   ·rw [List.getElem?_eq_none h] at hi; cases hi
  have := putAt_hi (lt := ltx) (l := l) (b := k) (k := l.length) (j := p + i) (by omega) hil
  rw [List.getD_eq_getElem?_getD, hi, hltx] at this
  exact .inl this
 have htk : ∀ j ∈ l.take p, Lx lt xs j k := fun j hj => by
  rcases Nat.eq_zero_or_pos p with hz | hpos
  ·rw [hz] at hj; simp at hj
  have hq : p - 1 < l.length := by omega
  have hlo := putAt_lo (lt := ltx) (l := l) (b := k) (k := l.length) (by omega)
  rw [← hp] at hlo
  have eq : l.getD (p - 1) default = l[p - 1] := by simp [hq]
  rw [eq, hltx] at hlo
  have hlast : Lx lt xs l[p - 1] k := .inr ⟨hlo, hlt _ (List.getElem_mem hq)⟩
  obtain ⟨i, hi⟩ := List.getElem?_of_mem hj
  have hip : i < p := by
   rcases Nat.lt_or_ge i p with h | h
   ·exact h
   ·rw [List.getElem?_eq_none (by simp; omega)] at hi; cases hi
  rw [List.getElem?_take_of_lt hip, List.getElem?_eq_getElem (by omega)] at hi
  simp only [Option.some.injEq] at hi
  by_cases e : i = p - 1
  ·subst e; rw [← hi]; exact hlast
  ·have hL : Lx lt xs l[i] l[p - 1] := List.pairwise_iff_getElem.1 hl i (p - 1) (by omega) hq (by omega)
   rw [← hi]
   have b1 := hlt _ (List.getElem_mem (l := l) (n := i) (by omega))
   have b2 := hlt _ (List.getElem_mem hq)
   exact Lx.trans hw hx (by omega) (by omega) hk hL hlast
 refine ⟨h1, List.pairwise_cons.2 ⟨hkd, h2⟩, fun a ha b hb => ?_⟩
 rcases List.mem_cons.1 hb with rfl | hb
 ·exact htk a ha
 ·exact h3 a ha b hb
theorem idx_sorted (hw : Swo Dm lt) (hx : ∀ y ∈ xs, Dm y) : ∀ n, n ≤ xs.length → (sortF (fun i j => lt (xs.getD i default) (xs.getD j default)) (List.range n)).Pairwise (Lx lt xs) ∧ ∀ i, i ∈ sortF (fun i j => lt (xs.getD i default) (xs.getD j default)) (List.range n) ↔ i < n
 | 0, _ => ⟨List.Pairwise.nil, fun i => by simp [sortF]⟩
 | n + 1, h => by
  obtain ⟨h1, h2⟩ := idx_sorted hw hx n (by omega)
  rw [List.range_succ, sortF_snoc]
  refine ⟨put_lx hw hx (by omega) h1 fun i hi => (h2 i).1 hi, fun i => ?_⟩
  rw [putF_mem, h2]; omega
theorem stabled_sortF (hw : Swo Dm lt) (hx : ∀ y ∈ xs, Dm y) {n : Nat} (hn : n ≤ xs.length) {zs : List D} {ρ : Nat → Nat} (hA : Arr Dm xs zs ρ) (hB : Blo lt xs 0 n ρ) (hid : ∀ p, n ≤ p → ρ p = p) :
  zs = sortF lt (xs.take n) ++ xs.drop n := by
 obtain ⟨h1, h2⟩ := idx_sorted hw hx n hn
 have hp := places_unique hw hx hB hn h1 h2
 have e1 : xs.take n = (List.range n).map fun i => xs.getD i default := by
  apply List.ext_getElem
  ·simp; omega
  ·intro i h3 h4
   simp only [List.length_take] at h3
   simp [show i < xs.length by omega]
 have e2 : sortF lt (xs.take n) = zs.take n := by
  rw [e1, sortF_map, ← hp]
  apply List.ext_getElem
  ·simp [places, hA.len]; omega
  ·intro i h3 h4
   simp only [places, List.length_map, List.length_range] at h3
   have := hA.get i (by omega)
   simp only [places, List.getElem_map, List.getElem_range, List.getElem_take]
   rw [← this]; simp [show i < zs.length by have := hA.len; omega]
 have e3 : xs.drop n = zs.drop n := by
  apply List.ext_getElem
  ·simp [hA.len]
  ·intro i h3 h4
   simp only [List.length_drop] at h3
   have := hA.get (n + i) (by omega)
   rw [hid _ (by omega)] at this
   have hl := hA.len
   simp only [List.getElem_drop]
   simp [show n + i < xs.length by omega, show n + i < zs.length by omega] at this
   exact this.symm
 rw [e2, e3, List.take_append_drop]
end Go.AM


set_option linter.unusedVariables false
namespace Go.AM
variable {P : Program} {Gl : Globs}
def dataA (σ : Sto) (u : AV) : AV := if u.isD σ = true then .d (u.toD σ) else u
def refsD (σ : Sto) (u : AV) : List Nat := if u.isD σ = true then u.refs else []
theorem ACalls.data {f : FuncId} {args : List AV} {σ : Sto} {R : AV → Sto → Prop} (h : ACalls P Gl f (args.map (dataA σ)) (freezeL σ (args.flatMap (refsD σ))) R) : ACalls P Gl f args σ R := by
 intro w I μ vals hR hG hl hv
 obtain ⟨I', r1, r2, r3, r4, r5, r6, r7, r8⟩ := freezeL_spec hR (args.flatMap (refsD σ))
 have hm := h w I' μ vals r1 (hG.keep r2) (by simpa using hl) fun i v u h1 h2 => by
  rw [List.getElem?_map] at h2
  cases ha : args[i]? with
  | none => rw [ha] at h2; cases h2
  | some a =>
   rw [ha] at h2
   simp only [Option.map_some, Option.some.injEq] at h2
   subst h2
   have hk := (hv i v a h1 ha).keep r2
   unfold dataA
   split
   ·rename_i hd
    refine .d _ _ ?_
    have := toD_rep' r1 hk (by rw [isD_congr (fun id => (r5 id).2)]; exact hd) (fun id hid => r4 id (List.mem_flatMap.2 ⟨a, List.mem_of_getElem? ha, by unfold refsD; rw [if_pos hd]; exact hid⟩) (refs_isArr hd id hid))
    rwa [toD_congr (fun id => (r5 id).1)] at this
   ·exact hk
 refine hm.mono fun v w' ⟨r, σ', I'', μ', q1, q2, q3, q4⟩ => ⟨r, σ', I'', μ', q1, r2.trans (q2.mono (by rw [r3]; exact Nat.le_refl _)), q3, q4⟩
section
variable {n : Nat} {all : Array Oper} {rest : List Oper} {KK : Env → Sto → Prop} {env : Env} {σ : Sto} {f : FuncId} {as caps : List AV} {v : AV} {dst : Option Tmp} {g : Bool}
end
theorem y_backS1 {σ : Sto} {i : Nat} (hi : i < σ.length) (es : Nat) (xs : List D) : backS [i] σ [.arr es xs] = σ.set i (.arr es xs) := by
 apply List.ext_getElem
 ·simp [backS]
 ·intro j h1 h2
  simp only [backS, List.length_cons, List.length_nil, Nat.sub_self, Nat.add_zero, List.length_map, List.length_range] at h1
  simp only [backS, List.getElem_map, List.getElem_range]
  rw [List.getElem_set]
  by_cases e : i = j
  ·subst e
   have : idxIn [i] i = some 0 := by simp [idxIn]
   rw [this, if_pos rfl]; rfl
  ·have : idxIn [i] j = none := by simp [idxIn, e]
   rw [this, if_neg e]
   have hj : j < σ.length := by omega
   simp only [hj, if_true]
   unfold blkAt
   simp [hj]
theorem y_back_osl (i N o k : Nat) : back (backId [i] N) (.osl 0 o k) = .osl i o k := rfl
theorem y_back_d (b : Nat → Nat) (x : D) : back b (.d x) = .d x := rfl
theorem y_back_tup0 (b : Nat → Nat) : back b (.tup []) = .tup [] := rfl
theorem y_bslOk (σ : Sto) (t : TypeId) (len : Nat) (parts : List (Nat × AV)) : bslOk P σ t len parts = (match telem P t with
 | some e => match tsz P e, dataZero P e, tzero P e with
  | some es, some _, some z => 0 < es ∧ z.cells.size = es ∧ 0 < len ∧ len * es ≤ 16777216 ∧ ∀ p ∈ parts, p.1 < len ∧ p.2.isD σ = true ∧ (p.2.toD σ).cells.length = es
  | _, _, _ => False
 | none => False) := by unfold bslOk; rfl
theorem y_bslX (σ : Sto) (t : TypeId) (len : Nat) (parts : List (Nat × AV)) : bslX P σ t len parts = (match telem P t with
 | some e => match dataZero P e with
  | some x => setParts (List.replicate len x) (parts.map fun p => (p.1, p.2.toD σ))
  | none => []
 | none => []) := by unfold bslX; rfl
theorem y_bslS (σ : Sto) (t : TypeId) (len : Nat) (parts : List (Nat × AV)) : bslS P σ t len parts = freezeL σ (parts.flatMap fun p => p.2.refs) ++ [.arr (apEs P t) (bslX P σ t len parts)] := rfl
theorem y_sp0 (xs : List D) : setParts xs [] = xs := rfl
theorem y_sp1 (xs : List D) (i : Nat) (x : D) (r : List (Nat × D)) : setParts xs ((i, x) :: r) = setParts (xs.set i x) r := rfl
theorem y_rep0 (x : D) : List.replicate 0 x = [] := rfl
theorem y_repS (n : Nat) (x : D) : List.replicate (n + 1) x = x :: List.replicate n x := rfl
theorem y_range2 {α : Type} (f : Nat → α) : List.map f (List.range 2) = [f 0, f 1] := rfl
theorem y_range3 {α : Type} (f : Nat → α) : List.map f (List.range 3) = [f 0, f 1, f 2] := rfl
theorem y_range4 {α : Type} (f : Nat → α) : List.map f (List.range 4) = [f 0, f 1, f 2, f 3] := rfl
theorem y_range5 {α : Type} (f : Nat → α) : List.map f (List.range 5) = [f 0, f 1, f 2, f 3, f 4] := rfl
theorem y_range6 {α : Type} (f : Nat → α) : List.map f (List.range 6) = [f 0, f 1, f 2, f 3, f 4, f 5] := rfl
theorem y_range7 {α : Type} (f : Nat → α) : List.map f (List.range 7) = [f 0, f 1, f 2, f 3, f 4, f 5, f 6] := rfl
theorem y_range8 {α : Type} (f : Nat → α) : List.map f (List.range 8) = [f 0, f 1, f 2, f 3, f 4, f 5, f 6, f 7] := rfl
theorem y_range9 {α : Type} (f : Nat → α) : List.map f (List.range 9) = [f 0, f 1, f 2, f 3, f 4, f 5, f 6, f 7, f 8] := rfl
theorem y_range10 {α : Type} (f : Nat → α) : List.map f (List.range 10) = [f 0, f 1, f 2, f 3, f 4, f 5, f 6, f 7, f 8, f 9] := rfl
theorem y_range11 {α : Type} (f : Nat → α) : List.map f (List.range 11) = [f 0, f 1, f 2, f 3, f 4, f 5, f 6, f 7, f 8, f 9, f 10] := rfl
theorem y_range12 {α : Type} (f : Nat → α) : List.map f (List.range 12) = [f 0, f 1, f 2, f 3, f 4, f 5, f 6, f 7, f 8, f 9, f 10, f 11] := rfl
theorem take_all {α β : Type} (f : α → β) (l : List α) : (l.map f).take l.length = l.map f := List.take_of_length_le (by simp)
theorem y_dataA_d (x : D) (σ : Sto) : dataA σ (.d x) = .d x := rfl
theorem y_dataA_nils (σ : Sto) : dataA σ .nils = .d (.sl []) := rfl
theorem y_dataA_fn (f : FuncId) (c : List AV) (σ : Sto) : dataA σ (.fn f c) = .fn f c := rfl
theorem y_refsD_d (x : D) (σ : Sto) : refsD σ (.d x) = [] := rfl
theorem y_refsD_nils (σ : Sto) : refsD σ .nils = [] := rfl
theorem y_refsD_fn (f : FuncId) (c : List AV) (σ : Sto) : refsD σ (.fn f c) = [] := rfl
def mapN (g : Int → Option Nat) : Key → Option AV
 | .i n => (g n).map fun i => .d (.int .i64 (i : Nat))
 | .s _ => none
def updN (g : Int → Option Nat) (n : Int) (v : Option Nat) : Int → Option Nat := fun m => if m = n then v else g m
theorem y_mapN (g : Int → Option Nat) (n : Int) : mapN g (.i n) = (g n).map fun i => .d (.int .i64 (i : Nat)) := rfl
theorem y_mset (g : Int → Option Nat) (n : Int) (i : Nat) : mset (mapN g) (.i n) (.d (.int .i64 i)) = mapN (updN g n (some i)) := by
 funext k
 cases k with
 | i m =>
  unfold mset updN mapN
  by_cases e : m = n
  ·subst e; simp
  ·simp [e]
 | s l => simp [mset, mapN]
theorem y_mdel (g : Int → Option Nat) (n : Int) : mdel (mapN g) (.i n) = mapN (updN g n none) := by
 funext k
 cases k with
 | i m =>
  unfold mdel updN mapN
  by_cases e : m = n
  ·subst e; simp
  ·simp [e]
 | s l => simp [mdel, mapN]
theorem y_mapN_ren (g : Int → Option Nat) (ρ : List Nat) (σ : Sto) : (fun k => (mapN g k).map (renV ρ σ)) = mapN g := by
 funext k
 cases k with
 | i m =>
  unfold mapN
  simp only [Option.map_map]
  rfl
 | s l => rfl
theorem y_renS (ρ : List Nat) (σ : Sto) : renS ρ σ = ρ.map fun id => renB ρ σ (blkAt σ id) := rfl
theorem y_renB_arr (ρ : List Nat) (σ : Sto) (es : Nat) (xs : List D) : renB ρ σ (.arr es xs) = .arr es xs := rfl
theorem y_renB_frz (ρ : List Nat) (σ : Sto) (es : Nat) (xs : List D) : renB ρ σ (.frz es xs) = .frz es xs := rfl
theorem y_renB_dead (ρ : List Nat) (σ : Sto) : renB ρ σ .dead = .dead := rfl
theorem y_isNone {α : Type} : (none : Option α).isSome = false := rfl
theorem yRules : type_of% (And.intro @y_backS1 (And.intro @y_back_osl (And.intro @y_back_d (And.intro @y_back_tup0 (And.intro @y_bslOk (And.intro @y_bslX (And.intro @y_bslS (And.intro @y_sp0 (And.intro @y_sp1 (And.intro @y_rep0 (And.intro @y_repS (And.intro @y_range2 (And.intro @y_range3 (And.intro @y_range4 (And.intro @y_range5 (And.intro @y_range6 (And.intro @y_range7 (And.intro @y_range8 (And.intro @y_range9 (And.intro @y_range10 (And.intro @y_range11 (And.intro @y_range12 (And.intro @y_dataA_d (And.intro @y_dataA_nils (And.intro @y_dataA_fn (And.intro @y_refsD_d (And.intro @y_refsD_nils (And.intro @y_refsD_fn (And.intro @y_mapN (And.intro @y_mset (And.intro @y_mdel (And.intro @y_mapN_ren (And.intro @y_renS (And.intro @y_renB_arr (And.intro @y_renB_frz (And.intro @y_renB_dead (@y_isNone))))))))))))))))))))))))))))))))))))) := And.intro @y_backS1 (And.intro @y_back_osl (And.intro @y_back_d (And.intro @y_back_tup0 (And.intro @y_bslOk (And.intro @y_bslX (And.intro @y_bslS (And.intro @y_sp0 (And.intro @y_sp1 (And.intro @y_rep0 (And.intro @y_repS (And.intro @y_range2 (And.intro @y_range3 (And.intro @y_range4 (And.intro @y_range5 (And.intro @y_range6 (And.intro @y_range7 (And.intro @y_range8 (And.intro @y_range9 (And.intro @y_range10 (And.intro @y_range11 (And.intro @y_range12 (And.intro @y_dataA_d (And.intro @y_dataA_nils (And.intro @y_dataA_fn (And.intro @y_refsD_d (And.intro @y_refsD_nils (And.intro @y_refsD_fn (And.intro @y_mapN (And.intro @y_mset (And.intro @y_mdel (And.intro @y_mapN_ren (And.intro @y_renS (And.intro @y_renB_arr (And.intro @y_renB_frz (And.intro @y_renB_dead (@y_isNone))))))))))))))))))))))))))))))))))))
end Go.AM


set_option linter.unusedVariables false
set_option linter.unusedSimpArgs false
namespace Go.AM
variable {P : Program} {Gl : Globs}
def ArrOrFrz (es : Nat) (xs : List D) (B : Blk) : Prop := B = .arr es xs ∨ B = .frz es xs
theorem backS1 {σ : Sto} {i : Nat} (hi : i < σ.length) {es : Nat} {xs : List D} {B : Blk} (hB : ArrOrFrz es xs B) : backS [i] σ [B] = σ.set i B := by
 have hb : ∀ b, backB b B = B := fun b => by rcases hB with rfl | rfl <;> rfl
 apply List.ext_getElem
 ·simp [backS]
 ·intro j h1 h2
  simp only [backS, List.length_cons, List.length_nil, Nat.sub_self, Nat.add_zero, List.length_map, List.length_range] at h1
  simp only [backS, List.getElem_map, List.getElem_range]
  rw [List.getElem_set]
  by_cases e : i = j
  ·subst e
   have : idxIn [i] i = some 0 := by simp [idxIn]
   rw [this, if_pos rfl]
   exact hb _
  ·have : idxIn [i] j = none := by simp [idxIn, e]
   rw [this, if_neg e]
   have hj : j < σ.length := by omega
   simp only [hj, if_true]
   unfold blkAt
   simp [hj]
theorem callD_at1 {n : Nat} {all : Array Oper} {draw : Bool} {rest : List Oper} {KK : Env → Sto → Prop} {env : Env} {σ : Sto} {f : FuncId} {as as' caps : List AV} {dst : Option Tmp} {es : Nat} {xs : List D} {v : D} (i : Nat)
  (h : ∀ B, ArrOrFrz es xs B → ACalls P Gl f as' [B] (fun r s => r = .d v ∧ s = [B])) (e : ∀ s, (as ++ caps).map (renV [i] s) = as') (hb : blkAt σ i = .arr es xs)
  (h2 : evOps P Gl n all draw rest (putE env dst (.d v)) σ KK) : callF P Gl n all draw dst rest (.fn f caps) as env σ KK := by
 have main : ∀ s, Ext σ s → ACalls P Gl f (as ++ caps) s (fun r σ' => r = .d v ∧ σ' = s) := fun s hs => by
  have hB : ArrOrFrz es xs (blkAt s i) := by
   rcases hs.2 i with h1 | h1 | h1
   ·rw [hb] at h1; cases h1
   ·rw [hb] at h1; exact .inl h1
   ·rw [hb] at h1; exact .inr h1
  have hil : i < s.length := by
   rcases Nat.lt_or_ge i s.length with h' | h'
   ·exact h'
   ·exfalso
    have : blkAt s i = .dead := by unfold blkAt; rw [List.getD_eq_getElem?_getD, List.getElem?_eq_none h']; rfl
    rcases hB with q | q <;> rw [this] at q <;> cases q
  have er : renS [i] s = [blkAt s i] := by
   have : ∀ B, ArrOrFrz es xs B → renB [i] s B = B := fun B hB => by rcases hB with rfl | rfl <;> rfl
   simp only [renS, List.map_cons, List.map_nil]; rw [this _ hB]
  refine (ACalls.under (P := P) (Gl := Gl) [i] (by simp) (by simpa using hil) (by rw [er, e]; exact h _ hB)).mono fun r s' hr => ?_
  obtain ⟨r0, s0, ⟨rfl, rfl⟩, rfl, rfl⟩ := hr
  refine ⟨rfl, ?_⟩
  rw [backS1 hil hB]
  apply List.ext_getElem
  ·simp
  ·intro j h1 h2
   rw [List.getElem_set]
   split
   ·subst_vars; unfold blkAt; simp [hil]
   ·rfl
 unfold callF
 cases draw with
 | true => exact .inl ⟨.d v, main, h2⟩
 | false =>
  refine (main σ (Ext.refl σ)).mono fun r s ⟨e1, e2⟩ => ?_
  subst e1; subst e2; exact h2
end Go.AM


set_option linter.unusedVariables false
set_option linter.unusedSimpArgs false
namespace Go.AM
variable {P : Program} {Gl : Globs}
inductive Rd (σ : Sto) : AV → D → Prop
 | d (x : D) : Rd σ (.d x) x
 | nils : Rd σ .nils (.sl [])
 | osl {i o k es : Nat} {xs : List D} (h : blkAt σ i = .frz es xs) {x : D} (e : x = .sl ((xs.drop o).take k)) : Rd σ (.osl i o k) x
inductive RdL (σ : Sto) : List AV → List D → Prop
 | nil : RdL σ [] []
 | cons {u : AV} {x : D} {r : List AV} {s : List D} (h : Rd σ u x) (t : RdL σ r s) : RdL σ (u :: r) (x :: s)
theorem ext_frz {σ s : Sto} (h : Ext σ s) {i es : Nat} {xs : List D} (hb : blkAt σ i = .frz es xs) : blkAt s i = .frz es xs := by
 rcases h.2 i with h1 | h1 | h1
 ·rw [hb] at h1; cases h1
 ·rw [h1, hb]
 ·rw [h1, hb]; rfl
theorem freeze_frz {s : Sto} {i es : Nat} {xs : List D} (hb : blkAt s i = .frz es xs) : freeze s i = s := by
 have hil : i < s.length := by
  rcases Nat.lt_or_ge i s.length with h' | h'
  ·exact h'
  ·unfold blkAt at hb; rw [List.getD_eq_getElem?_getD, List.getElem?_eq_none h'] at hb; cases hb
 unfold freeze
 rw [hb]
 apply List.ext_getElem
 ·simp
 ·intro j h1 h2
  rw [List.getElem_set]
  split
  ·subst_vars
   unfold blkAt at hb
   simp [hil] at hb
   rw [hb]; rfl
  ·rfl
section
variable {n : Nat} {all : Array Oper} {draw : Bool} {rest : List Oper} {KK : Env → Sto → Prop} {env : Env} {σ : Sto} {f : FuncId} {as : List AV} {xs : List D} {v : AV} {dst : Option Tmp} {g : Bool}
end
end Go.AM


namespace Go.AM
section
variable {α : Type} [Inhabited α] {lt : α → α → Bool}
end
section
variable {α : Type} [Inhabited α]
def keyLt (key : α → Int) (a b : α) : Bool := decide (key a < key b)
variable {key : α → Int}
end
end Go.AM


set_option linter.unusedVariables false
set_option linter.unusedSimpArgs false
namespace Go.AM
variable {P : Program} {Gl : Globs}
def Blk.still : Blk → Prop
 | .box _ (.d _) => True
 | .map _ f => ∀ k v, f k = some v → ∃ d, v = .d d
 | _ => False
theorem still_alive {B : Blk} (h : B.still) : B.isDead = false := by cases B <;> simp_all [Blk.still, Blk.isDead]
theorem still_frozen {B : Blk} (h : B.still) : B.frozen = B := by cases B <;> simp_all [Blk.still, Blk.frozen]
theorem map_still {g : AV → AV} (hg : ∀ d, g (.d d) = .d d) {f : Key → Option AV} (h : ∀ k v, f k = some v → ∃ d, v = .d d) : (fun k => (f k).map g) = f := by
 funext k
 cases e : f k with
 | none => rfl
 | some v => obtain ⟨d, rfl⟩ := h k v e; simp [hg]
theorem still_ren {B : Blk} (h : B.still) (ρ : List Nat) (σ : Sto) : renB ρ σ B = B := by
 cases B with
 | box n v => cases v <;> simp_all [Blk.still, renB, renV, ren0]
 | map ik f => simp only [renB]; rw [map_still (fun d => by simp [renV, ren0]) h]
 | _ => exact h.elim
theorem still_back {B : Blk} (h : B.still) (b : Nat → Nat) : backB b B = B := by
 cases B with
 | box n v => cases v <;> simp_all [Blk.still, backB, back]
 | map ik f => simp only [backB]; rw [map_still (fun d => by simp [back]) h]
 | _ => exact h.elim
theorem backS_still {σ : Sto} {i : Nat} (hi : i < σ.length) {B : Blk} (hB : B.still) : backS [i] σ [B] = σ.set i B := by
 apply List.ext_getElem
 ·simp [backS]
 ·intro j h1 h2
  simp only [backS, List.length_cons, List.length_nil, Nat.sub_self, Nat.add_zero, List.length_map, List.length_range] at h1
  simp only [backS, List.getElem_map, List.getElem_range]
  rw [List.getElem_set]
  by_cases e : i = j
  ·subst e
   have : idxIn [i] i = some 0 := by simp [idxIn]
   rw [this, if_pos rfl]
   exact still_back hB _
  ·have : idxIn [i] j = none := by simp [idxIn, e]
   rw [this, if_neg e]
   have hj : j < σ.length := by omega
   simp only [hj, if_true]
   unfold blkAt
   simp [hj]
theorem ext_blk1 {σ : Sto} {f : FuncId} {as as' : List AV} {B : Blk} {v : D} (i : Nat) (hB : B.still) (hb : blkAt σ i = B)
  (h : ACalls P Gl f as' [B] (fun r s => r = .d v ∧ s = [B])) (e : ∀ s, as.map (renV [i] s) = as') : ∀ s, Ext σ s → ACalls P Gl f as s (fun r σ' => r = .d v ∧ σ' = s) := fun s hs => by
 have hB' : blkAt s i = B := by
  rcases hs.2 i with h1 | h1 | h1
  ·rw [hb, still_alive hB] at h1; cases h1
  ·rw [h1, hb]
  ·rw [h1, hb, still_frozen hB]
 have hil : i < s.length := by
  rcases Nat.lt_or_ge i s.length with h' | h'
  ·exact h'
  ·exfalso
   have : blkAt s i = .dead := by unfold blkAt; rw [List.getD_eq_getElem?_getD, List.getElem?_eq_none h']; rfl
   have h2 := still_alive hB
   rw [← hB', this] at h2; cases h2
 have er : renS [i] s = [B] := by simp only [renS, List.map_cons, List.map_nil]; rw [hB', still_ren hB]
 refine (ACalls.under (P := P) (Gl := Gl) [i] (by simp) (by simpa using hil) (by rw [er, e]; exact h)).mono fun r s' hr => ?_
 obtain ⟨r0, s0, ⟨rfl, rfl⟩, rfl, rfl⟩ := hr
 refine ⟨rfl, ?_⟩
 rw [backS_still hil hB]
 apply List.ext_getElem
 ·simp
 ·intro j h1 h2
  rw [List.getElem_set]
  split
  ·rename_i e2
   subst e2
   rw [← hB']; unfold blkAt; simp [hil]
  ·rfl
theorem callF_blk1 {n : Nat} {all : Array Oper} {draw : Bool} {rest : List Oper} {KK : Env → Sto → Prop} {env : Env} {σ : Sto} {f : FuncId} {as as' caps : List AV} {dst : Option Tmp} {B : Blk} {v : D} (i : Nat)
  (h : ACalls P Gl f as' [B] (fun r s => r = .d v ∧ s = [B])) (e : ∀ s, (as ++ caps).map (renV [i] s) = as') (hb : blkAt σ i = B) (hB : B.still)
  (h2 : evOps P Gl n all draw rest (putE env dst (.d v)) σ KK) : callF P Gl n all draw dst rest (.fn f caps) as env σ KK := by
 have main := ext_blk1 (Gl := Gl) i hB hb h e
 unfold callF
 cases draw with
 | true => exact .inl ⟨.d v, main, h2⟩
 | false =>
  refine (main σ (Ext.refl σ)).mono fun r s ⟨e1, e2⟩ => ?_
  subst e1; subst e2; exact h2
theorem callG_blk1 {n : Nat} {all : Array Oper} {draw : Bool} {rest : List Oper} {KK : Env → Sto → Prop} {env : Env} {σ : Sto} {f : FuncId} {as as' caps : List AV} {dst : Option Tmp} {B : Blk} {v : D} {g : Bool} (i : Nat)
  (h : ACalls P Gl f as' [B] (fun r s => r = .d v ∧ s = [B])) (e : ∀ s, (as ++ caps).map (renV [i] s) = as') (hb : blkAt σ i = B) (hB : B.still)
  (h2 : evOps P Gl n all draw rest (putE env dst (.iff g (.d v))) σ KK) : callG P Gl n all draw dst rest g (.fn f caps) as env σ KK :=
 ⟨.d v, fun _ => ext_blk1 (Gl := Gl) i hB hb h e, h2⟩
theorem fresh_blk {f : FuncId} {args : List D} {B : Blk} {r : AV} (hB : B.still) (h : ACalls P Gl f (args.map AV.d) [] (fun r' s => r' = r ∧ s = [B])) (σ : Sto) :
  ACalls P Gl f (args.map AV.d) σ (fun r' s => r' = back (backId [] σ.length) r ∧ s = σ ++ [B]) := by
 have e : (args.map AV.d).map (renV [] σ) = args.map AV.d := by simp [renV, ren0]
 have h1 := ACalls.under (P := P) (Gl := Gl) (f := f) (args := args.map AV.d) (σ := σ) [] List.nodup_nil (by simp) (by rw [e]; exact h)
 refine h1.mono fun r1 s' h2 => ?_
 obtain ⟨r0, s0, ⟨h1, h2⟩, h3, h4⟩ := h2
 subst h1; subst h2; subst h3; subst h4
 refine ⟨rfl, ?_⟩
 apply List.ext_getElem
 ·simp [backS]
 ·intro i h1 h2
  simp only [backS, List.getElem_map, List.getElem_range]
  have : idxIn [] i = none := rfl
  rw [this]
  simp only [List.length_nil, Nat.zero_add]
  by_cases hi : i < σ.length
  ·rw [if_pos hi, List.getElem_append_left hi]
   unfold blkAt
   simp [hi]
  ·simp [backS] at h1
   have : i = σ.length := by omega
   subst this
   rw [if_neg (by omega), List.getElem_append_right (by omega)]
   simp [blkAt, still_back hB]
theorem g_makeFunc {n : Nat} {all : Array Oper} {draw : Bool} {rest : List Oper} {KK : Env → Sto → Prop} {env : Env} {σ : Sto} {dst : Option Tmp} {ty : TypeId} {pos : String} {af : Array Edge} (f : FuncId) (l : List Operand) {j : Nat} {b : Bool} : evOps P Gl n all draw (⟨dst, .makeFunc (.func f) #[] l.toArray, ty, pos, af, some (j, b)⟩ :: rest) env σ KK = (dstIn n dst = true ∧ slotBool (gSlot all env j) = true ∧ gdL Gl env (slotTest (gSlot all env j) b) l ∧
  evOps P Gl n all draw rest (putE env dst (.iff (slotTest (gSlot all env j) b) (.fn f (l.map (evU Gl env))))) σ KK) := by
 simp [evOps, isCall, gdOk, Op.operands, opOk, opV, quietOp, addOp]
theorem renS0_map {ik : Option IntKind} {f : Key → Option AV} (h : ∀ k v, f k = some v → ∃ d, v = .d d) (rest : Sto) : renS [0] (freezeL (.map ik f :: rest) []) = [.map ik f] := by
 show [renB [0] _ (.map ik f)] = _
 rw [still_ren (B := .map ik f) h]
theorem mapGet {f : Key → Option AV} (h : ∀ k v, f k = some v → ∃ d, v = .d d) (k : Key) (z : D) : ∃ d, (f k).getD (.d z) = .d d := by
 cases e : f k with
 | none => exact ⟨z, rfl⟩
 | some v => obtain ⟨d, rfl⟩ := h k v e; exact ⟨d, rfl⟩
theorem ext_at1 {σ : Sto} {f : FuncId} {as as' : List AV} {es : Nat} {xs : List D} {v : D} (i : Nat)
  (h : ∀ B, ArrOrFrz es xs B → ACalls P Gl f as' [B] (fun r s => r = .d v ∧ s = [B])) (e : ∀ s, as.map (renV [i] s) = as') (hb : blkAt σ i = .arr es xs) : ∀ s, Ext σ s → ACalls P Gl f as s (fun r σ' => r = .d v ∧ σ' = s) := fun s hs => by
 have hB : ArrOrFrz es xs (blkAt s i) := by
  rcases hs.2 i with h1 | h1 | h1
  ·rw [hb] at h1; cases h1
  ·rw [hb] at h1; exact .inl h1
  ·rw [hb] at h1; exact .inr h1
 have hil : i < s.length := by
  rcases Nat.lt_or_ge i s.length with h' | h'
  ·exact h'
  ·exfalso
   have : blkAt s i = .dead := by unfold blkAt; rw [List.getD_eq_getElem?_getD, List.getElem?_eq_none h']; rfl
   rcases hB with q | q <;> rw [this] at q <;> cases q
 have er : renS [i] s = [blkAt s i] := by
  have : ∀ B, ArrOrFrz es xs B → renB [i] s B = B := fun B hB => by rcases hB with rfl | rfl <;> rfl
  simp only [renS, List.map_cons, List.map_nil]; rw [this _ hB]
 refine (ACalls.under (P := P) (Gl := Gl) [i] (by simp) (by simpa using hil) (by rw [er, e]; exact h _ hB)).mono fun r s' hr => ?_
 obtain ⟨r0, s0, ⟨rfl, rfl⟩, rfl, rfl⟩ := hr
 refine ⟨rfl, ?_⟩
 rw [backS1 hil hB]
 apply List.ext_getElem
 ·simp
 ·intro j h1 h2
  rw [List.getElem_set]
  split
  ·subst_vars; unfold blkAt; simp [hil]
  ·rfl
theorem callG_at1 {n : Nat} {all : Array Oper} {draw : Bool} {rest : List Oper} {KK : Env → Sto → Prop} {env : Env} {σ : Sto} {f : FuncId} {as as' caps : List AV} {dst : Option Tmp} {es : Nat} {xs : List D} {v : D} {g : Bool} (i : Nat)
  (h : ∀ B, ArrOrFrz es xs B → ACalls P Gl f as' [B] (fun r s => r = .d v ∧ s = [B])) (e : ∀ s, (as ++ caps).map (renV [i] s) = as') (hb : blkAt σ i = .arr es xs)
  (h2 : evOps P Gl n all draw rest (putE env dst (.iff g (.d v))) σ KK) : callG P Gl n all draw dst rest g (.fn f caps) as env σ KK :=
 ⟨.d v, fun _ => ext_at1 (Gl := Gl) i h e hb, h2⟩
theorem weakR_tupD {m : Nat} {σ : Sto} {u : AV} {y : D} (hd : u.isD σ = true) : WeakR m (.tup [u, .d y]) σ (.tup [.d (u.toD σ), .d y]) (freezeL σ u.refs) := fun w I μ v h1 h2 h3 => by
 cases h2 with
 | tup vs cs hl h =>
  match vs, hl with
  | [v0, v1], _ =>
   have a0 := h 0 v0 u rfl rfl
   have a1 := h 1 v1 (.d y) rfl rfl
   obtain ⟨I', b1, b2, b3, _⟩ := toD_rep h1 a0 hd
   refine ⟨I', μ, b1, .tup [v0, v1] _ rfl ?_, b2.mono h3⟩
   intro i v x hv hx
   match i with
   | 0 => simp at hv hx; subst hv; subst hx; exact .d _ _ b3
   | 1 => simp at hv hx; subst hv; subst hx; exact a1.keep b2
   | i + 2 => simp at hv
theorem ret_tdata {σ : Sto} {u : AV} {x y : D} (hd : u.isD σ = true) (hx : u.toD σ = x) : WeakR 0 (.tup [u, .d y]) σ (.tup [.d x, .d y]) [] := by
 subst hx; exact (weakR_tupD hd).trans ret_t2
end Go.AM


namespace Go.AM
theorem bl_irr : ∀ x : List UInt8, Op.bytesLess x x = false
 | [] => rfl
 | a :: x => by rw [Op.bytesLess, bl_irr x]; simp
theorem bl_trans : ∀ {x y z : List UInt8}, Op.bytesLess x y = true → Op.bytesLess y z = true → Op.bytesLess x z = true
 | [], [], z, h, _ => by simp [Op.bytesLess] at h
 | [], b :: y, [], _, h => by simp [Op.bytesLess] at h
 | [], b :: y, c :: z, _, _ => by simp [Op.bytesLess]
 | a :: x, [], z, h, _ => by simp [Op.bytesLess] at h
 | a :: x, b :: y, [], _, h => by simp [Op.bytesLess] at h
 | a :: x, b :: y, c :: z, h1, h2 => by
  have ih := @bl_trans x y z
  simp only [Op.bytesLess, Bool.or_eq_true, decide_eq_true_eq, Bool.and_eq_true, beq_iff_eq] at h1 h2 ⊢
  rcases h1 with h1 | ⟨rfl, h1⟩
  ·rcases h2 with h2 | ⟨rfl, h2⟩
   ·exact .inl (UInt8.lt_trans h1 h2)
   ·exact .inl h1
  ·rcases h2 with h2 | ⟨rfl, h2⟩
   ·exact .inl h2
   ·exact .inr ⟨rfl, ih h1 h2⟩
theorem bl_total : ∀ {x y : List UInt8}, Op.bytesLess x y = false → Op.bytesLess y x = false → x = y
 | [], [], _, _ => rfl
 | [], b :: y, h, _ => by simp [Op.bytesLess] at h
 | a :: x, [], _, h => by simp [Op.bytesLess] at h
 | a :: x, b :: y, h1, h2 => by
  have ih := @bl_total x y
  simp only [Op.bytesLess, Bool.or_eq_false_iff, decide_eq_false_iff_not, Bool.and_eq_false_iff, beq_eq_false_iff_ne] at h1 h2
  have e : a = b := by
   have p := h1.1
   have q := h2.1
   rw [UInt8.not_lt] at p q
   exact UInt8.le_antisymm q p
  subst e
  have h1' : Op.bytesLess x y = false := h1.2.elim (fun h => absurd rfl h) id
  have h2' : Op.bytesLess y x = false := h2.2.elim (fun h => absurd rfl h) id
  rw [ih h1' h2']
theorem bl_asymm {x y : List UInt8} (h : Op.bytesLess x y = true) : Op.bytesLess y x = false := by
 rw [Bool.eq_false_iff]
 intro h2
 have := bl_trans h h2
 rw [bl_irr] at this; cases this
theorem bl_ne {x y : List UInt8} (h : Op.bytesLess x y = true) : x ≠ y := fun e => by subst e; rw [bl_irr] at h; cases h
theorem bl_cases (x y : List UInt8) : (Op.bytesLess x y = true ∧ x ≠ y ∧ Op.bytesLess y x = false) ∨ (Op.bytesLess x y = false ∧ x = y ∧ Op.bytesLess y x = false) ∨ (Op.bytesLess x y = false ∧ x ≠ y ∧ Op.bytesLess y x = true) := by
 cases h1 : Op.bytesLess x y with
 | true => exact .inl ⟨rfl, bl_ne h1, bl_asymm h1⟩
 | false =>
  cases h2 : Op.bytesLess y x with
  | true => exact .inr (.inr ⟨rfl, fun e => bl_ne h2 e.symm, rfl⟩)
  | false => exact .inr (.inl ⟨rfl, bl_total h1 h2, rfl⟩)
end Go.AM


set_option linter.unusedVariables false
set_option linter.unusedSimpArgs false
namespace Go.AM
variable {P : Program} {Gl : Globs}
theorem getE_sub (env : Env) : ∀ (l : Env) (t : Nat), getE (l.map fun p => (p.1, getE env p.1)) t = getE env t ∨ getE (l.map fun p => (p.1, getE env p.1)) t = .undef
 | [], t => .inr rfl
 | p :: r, t => by
  simp only [List.map_cons, getE]
  by_cases e : p.1 = t
  ·left; rw [if_pos e, e]
  ·rw [if_neg e]; exact getE_sub env r t
theorem weak_sub {n m : Nat} {env e' : Env} {σ : Sto} (he : (e'.map fun p => (p.1, getE env p.1)) = e') : Weak n m env σ e' σ := fun w I μ a h1 h2 h3 => by
 refine ⟨I, μ, h1, ⟨h2.defers, h2.size, fun t => ?_⟩, Keep.refl _ _ _ _ h3⟩
 rw [← he]
 rcases getE_sub env e' t with e | e
 ·rw [e]; exact h2.slot t
 ·rw [e]; exact .undef _
theorem callF_ext {n : Nat} {all : Array Oper} {draw : Bool} {rest : List Oper} {KK : Env → Sto → Prop} {env : Env} {σ : Sto} {f : FuncId} {as caps : List AV} {v : AV} {dst : Option Tmp}
  (h : ∀ s, Ext σ s → ACalls P Gl f (as ++ caps) s (fun r s' => r = v ∧ s' = s)) (h2 : evOps P Gl n all draw rest (putE env dst v) σ KK) : callF P Gl n all draw dst rest (.fn f caps) as env σ KK := by
 cases draw with
 | true => exact .inl ⟨v, h, h2⟩
 | false =>
  refine (h σ (Ext.refl σ)).mono fun r s ⟨e1, e2⟩ => ?_
  subst e1; subst e2; exact h2
theorem callG_ext {n : Nat} {all : Array Oper} {draw : Bool} {rest : List Oper} {KK : Env → Sto → Prop} {env : Env} {σ : Sto} {f : FuncId} {as caps : List AV} {v : AV} {dst : Option Tmp} {g : Bool}
  (h : g = true → ∀ s, Ext σ s → ACalls P Gl f (as ++ caps) s (fun r s' => r = v ∧ s' = s)) (h2 : evOps P Gl n all draw rest (putE env dst (.iff g v)) σ KK) : callG P Gl n all draw dst rest g (.fn f caps) as env σ KK :=
 ⟨v, h, h2⟩
def El0 (es : Nat) (x : D) : Prop := x.isAgg = false ∧ x.cells.length = es
theorem El0.at {Dm : D → Prop} {es : Nat} (hD : ∀ x, Dm x → El0 es x) {ys : List D} (h : ∀ y ∈ ys, Dm y) {i : Nat} (hi : i < ys.length) : (ys.getD i default).isAgg = false ∧ (ys.getD i default).cells.length = es := by
 have : ys.getD i default = ys[i] := by simp [hi]
 rw [this]; exact hD _ (h _ (List.getElem_mem hi))
theorem ext_boxes {σ : Sto} {f : FuncId} {as as' : List AV} {v : D} (ρ : List Nat) (τ : Sto) (hnd : ρ.Nodup) (hb : ∀ i ∈ ρ, (blkAt σ i).isBox = true)
  (h : ACalls P Gl f as' τ (fun r s => r = .d v ∧ s = τ)) (e : ∀ s, as.map (renV ρ s) = as') (hr : ∀ s, Ext σ s → renS ρ s = τ)
  (hk : ∀ (s : Sto) (j i : Nat), Ext σ s → ρ[j]? = some i → backB (backId ρ s.length) (blkAt τ j) = blkAt s i) :
  ∀ s, Ext σ s → ACalls P Gl f as s (fun r σ' => r = .d v ∧ σ' = s) := fun s hs => by
 have hlt : ∀ i ∈ ρ, i < s.length := fun i hi => by
  rcases Nat.lt_or_ge i s.length with h' | h'
  ·exact h'
  ·exfalso
   have h1 := hs.box (hb i hi)
   have h2 : blkAt s i = .dead := by unfold blkAt; rw [List.getD_eq_getElem?_getD, List.getElem?_eq_none h']; rfl
   have h3 := hb i hi
   rw [← h1, h2] at h3
   cases h3
 refine (ACalls.under (P := P) (Gl := Gl) ρ hnd hlt (by rw [hr s hs, e]; exact h)).mono fun r s' hr' => ?_
 obtain ⟨r0, s0, ⟨rfl, rfl⟩, rfl, rfl⟩ := hr'
 refine ⟨rfl, ?_⟩
 have hτ : s0.length = ρ.length := by rw [← hr s hs]; simp [renS]
 apply List.ext_getElem
 ·simp [backS, hτ]
 ·intro i h1 h2
  simp only [backS, List.getElem_map, List.getElem_range]
  cases e2 : idxIn ρ i with
  | some j =>
   have := idxIn_spec e2
   simp only
   rw [hk s j i hs this]
   unfold blkAt; simp [h2]
  | none =>
   simp only
   rw [if_pos h2]
   unfold blkAt; simp [h2]
end Go.AM


set_option linter.unusedVariables false
set_option linter.unusedSimpArgs false
namespace Go.AM
variable {P : Program} {Gl : Globs}
theorem callF_pureN {n : Nat} {all : Array Oper} {draw : Bool} {rest : List Oper} {KK : Env → Sto → Prop} {env : Env} {σ : Sto} {f : FuncId} {as as' caps : List AV} {v : AV} {dst : Option Tmp}
  (h : Pure P Gl f as' v) (e1 : ∀ s, (as ++ caps).map (dataA s) = as') (e2 : ∀ s, (as ++ caps).flatMap (refsD s) = []) (h2 : evOps P Gl n all draw rest (putE env dst v) σ KK) :
  callF P Gl n all draw dst rest (.fn f caps) as env σ KK :=
 callF_ext (fun s _ => ACalls.data (by rw [e1, e2]; exact h s)) h2
theorem back_d (b : Nat → Nat) (x : D) : back b (.d x) = .d x := by simp [back]
end Go.AM


set_option linter.unusedVariables false
namespace Go.AM
variable {P : Program} {Gl : Globs} {w : World} {I : Im} {μ : Pos} {σ : Sto}
theorem set_arr (σ : Sto) (id i : Nat) (B : Blk) (h1 : B.isArr = (blkAt σ id).isArr) (h2 : B.es = (blkAt σ id).es) (h3 : B.xs = (blkAt σ id).xs) (h4 : B.isDead = (blkAt σ id).isDead) (hid : id < σ.length) :
  (blkAt (σ.set id B) i).isArr = (blkAt σ i).isArr ∧ (blkAt (σ.set id B) i).es = (blkAt σ i).es ∧ (blkAt (σ.set id B) i).xs = (blkAt σ i).xs ∧ (blkAt (σ.set id B) i).isDead = (blkAt σ i).isDead := by
 by_cases e : id = i
 ·subst e; rw [blkAt_set_self hid]; exact ⟨h1, h2, h3, h4⟩
 ·rw [blkAt_set_ne e]; exact ⟨rfl, rfl, rfl, rfl⟩
theorem Rel.rebox (h : Rel w I μ σ) {id n : Nat} {v v' : AV} (hb : blkAt σ id = .box n v) (hid : id < σ.length) (hn : v'.ncells = n)
  (hc : ∀ j, j < n → (v'.cellAt j).one = true ∧ ∀ u, RepV w I μ σ u (v.cellAt j) → RepV w I μ σ u (v'.cellAt j)) :
  Rel w I μ (σ.set id (.box n v')) ∧ Keep σ.length w I μ σ w I μ (σ.set id (.box n v')) := by
 have hs := fun i => set_arr σ id i (.box n v') (by rw [hb]; rfl) (by rw [hb]; rfl) (by rw [hb]; rfl) (by rw [hb]; rfl) hid
 have k : Keep σ.length w I μ σ w I μ (σ.set id (.box n v')) :=
  ⟨rfl, rfl, rfl, Nat.le_refl _, fun _ h => h, fun _ h => h, fun _ h => .inl h, fun _ _ => rfl, fun _ => Nat.le_refl _, by simp, fun i hi ha => by
   obtain ⟨a1, a2, a3, a4⟩ := hs i
   refine ⟨by unfold alive at ha ⊢; rw [← a4]; exact ha, rfl, a1, a2, by rw [a3]; exact Nat.le_refl _⟩⟩
 refine ⟨⟨h.imm, fun i hi => ?_, fun i j b b' o o' hij hi hj h1 h2 => ?_⟩, k⟩
 ·rw [List.length_set] at hi
  by_cases e : id = i
  ·subst e
   rw [blkAt_set_self hid]
   have hB := h.blk id hid
   rw [hb] at hB
   obtain ⟨b, q1, q2, q3, q4, q5, q6⟩ := hB
   refine ⟨b, q1, q2, q3, q4, hn, fun j hj => ?_⟩
   obtain ⟨r1, u, r2, r3⟩ := q6 j hj
   obtain ⟨s1, s2⟩ := hc j hj
   exact ⟨s1, u, r2, (s2 u r3).keep k⟩
  ·rw [blkAt_set_ne e]
   exact (h.blk i hi).keep k rfl fun _ _ _ _ => ⟨rfl, fun hn => hn⟩
 ·have ow : ∀ i, (blkAt (σ.set id (.box n v')) i).own = true → (blkAt σ i).own = true := fun i hi => by
   by_cases e : id = i
   ·subst e; rw [hb]; rfl
   ·rwa [blkAt_set_ne e] at hi
  exact h.apart i j b b' o o' hij (ow i hi) (ow j hj) h1 h2
theorem weak_boxNil {n m : Nat} {env : Env} (id es k : Nat) {N : Nat} {cs : List AV} (hm : m ≤ σ.length) (hb : blkAt σ id = .box N (.agg cs)) (hk : cs.getD k .undef = .nils) (hkl : k < cs.length) (hid : id < σ.length) :
  Weak n m env σ env ((σ ++ [Blk.arr es []]).set id (.box N (.agg (cs.set k (.osl σ.length 0 0))))) := fun w I μ a h1 h2 h3 => by
 obtain ⟨μ', a1, a2⟩ := h1.addNone es
 have hb' : blkAt (σ ++ [Blk.arr es []]) id = .box N (.agg cs) := by rw [blkAt_append_old hid]; exact hb
 have hB := h1.blk id hid
 rw [hb] at hB
 obtain ⟨b, q1, q2, q3, q4, q5, q6⟩ := hB
 obtain ⟨r1, r2⟩ := a1.rebox (v' := .agg (cs.set k (.osl σ.length 0 0))) hb' (by simp; omega) (by rw [← q5]; simp [AV.ncells]) (fun j hj => by
  show ((cs.set k (.osl σ.length 0 0)).getD j .undef).one = true ∧ ∀ u, RepV w I μ' _ u (cs.getD j .undef) → RepV w I μ' _ u ((cs.set k (.osl σ.length 0 0)).getD j .undef)
  by_cases e : k = j
  ·subst e
   have e1 : (cs.set k (AV.osl σ.length 0 0)).getD k .undef = .osl σ.length 0 0 := by simp [hkl]
   rw [e1, hk]
   refine ⟨rfl, fun u hu => ?_⟩
   cases hu
   exact .osl _ _ 0 0 (by simp) (.inl ⟨rfl, none, rfl⟩)
  ·have e1 : (cs.set k (AV.osl σ.length 0 0)).getD j .undef = cs.getD j .undef := by simp [List.getD_eq_getElem?_getD, List.getElem?_set_ne e]
   rw [e1]
   exact ⟨(q6 j hj).1, fun u hu => hu⟩)
 refine ⟨I, μ', r1, ?_, ?_⟩
 ·have k2 := a2.trans (show Keep σ.length w I μ' (σ ++ [.arr es []]) w I μ' _ from ⟨r2.os, r2.tape, r2.output, r2.size, r2.imm, r2.fr, r2.rdn, r2.same, r2.bsize, by simp, fun i hi => r2.old i (by simp; omega)⟩)
  exact h2.keep k2
 ·have k2 := a2.trans (show Keep σ.length w I μ' (σ ++ [.arr es []]) w I μ' _ from ⟨r2.os, r2.tape, r2.output, r2.size, r2.imm, r2.fr, r2.rdn, r2.same, r2.bsize, by simp, fun i hi => r2.old i (by simp; omega)⟩)
  exact k2.mono h3
theorem weak_box1Nil {n m : Nat} {env : Env} (id es : Nat) (hm : m ≤ σ.length) (hb : blkAt σ id = .box 1 .nils) (hid : id < σ.length) :
  Weak n m env σ env ((σ ++ [Blk.arr es []]).set id (.box 1 (.osl σ.length 0 0))) := fun w I μ a h1 h2 h3 => by
 obtain ⟨μ', a1, a2⟩ := h1.addNone es
 have hb' : blkAt (σ ++ [Blk.arr es []]) id = .box 1 .nils := by rw [blkAt_append_old hid]; exact hb
 obtain ⟨r1, r2⟩ := a1.rebox (v' := .osl σ.length 0 0) hb' (by simp; omega) rfl (fun j hj => ⟨rfl, fun u hu => by
  cases hu
  exact .osl _ _ 0 0 (by simp) (.inl ⟨rfl, none, rfl⟩)⟩)
 have k2 := a2.trans (show Keep σ.length w I μ' (σ ++ [.arr es []]) w I μ' _ from ⟨r2.os, r2.tape, r2.output, r2.size, r2.imm, r2.fr, r2.rdn, r2.same, r2.bsize, by simp, fun i hi => r2.old i (by simp; omega)⟩)
 exact ⟨I, μ', r1, h2.keep k2, k2.mono h3⟩
theorem weak_box1D {n m : Nat} {env : Env} (id i o k : Nat) (hb : blkAt σ id = .box 1 (.osl i o k)) (hid : id < σ.length) (hd : (AV.osl i o k).isD σ = true) :
  Weak n m env σ env ((freezeL σ [i]).set id (.box 1 (.d ((AV.osl i o k).toD σ)))) := fun w I μ a h1 h2 h3 => by
 obtain ⟨I', r1, r2, r3, r4, r5, r6, r7, r8⟩ := freezeL_spec h1 [i]
 have hia : (blkAt σ i).isArr = true := hd
 have hni : id ∉ [i] := fun hm => by
  have : id = i := by simpa using hm
  subst this
  rw [hb] at hia; cases hia
 have hB := h1.blk id hid
 rw [hb] at hB
 have hD : ((AV.osl i o k).toD σ) = .sl (((AV.osl i o k).elems σ)) := rfl
 obtain ⟨s1, s2⟩ := r1.rebox (v' := .d ((AV.osl i o k).toD σ)) (by rw [r7 id hni]; exact hb) (by rw [r3]; exact hid) (by rw [hD]; rfl) (fun j hj => by
  have hj0 : j = 0 := by omega
  subst hj0
  have e1 : (AV.d ((AV.osl i o k).toD σ)).cellAt 0 = .d ((AV.osl i o k).toD σ) := rfl
  rw [e1]
  refine ⟨rfl, fun u hu => .d _ _ ?_⟩
  have eD : toD1 (freezeL σ [i]) (.osl i o k) = toD1 σ (.osl i o k) := by simp [toD1, (fun id => (r5 id).1)]
  have hD1' : isD1 (freezeL σ [i]) (.osl i o k) = true := by show (blkAt (freezeL σ [i]) i).isArr = true; rw [(r5 i).2]; exact hia
  show RepD w I' u (toD1 σ (.osl i o k))
  rw [← eD]
  refine toD1_rep r1 hu hD1' fun i' hi' => ?_
  have : i' = i := by simpa [ref1] using hi'
  subst this
  exact r4 i' (by simp) hia)
 rw [r3] at s2
 exact ⟨I', μ, s1, h2.keep (r2.trans s2), (r2.trans s2).mono h3⟩
theorem weak_boxD {n m : Nat} {env : Env} (id : Nat) {N : Nat} {cs : List AV} (hb : blkAt σ id = .box N (.agg cs)) (hid : id < σ.length) (hd : (AV.agg cs).isD σ = true) :
  Weak n m env σ env ((freezeL σ (AV.agg cs).refs).set id (.box N (.d ((AV.agg cs).toD σ)))) := fun w I μ a h1 h2 h3 => by
 obtain ⟨I', r1, r2, r3, r4, r5, r6, r7, r8⟩ := freezeL_spec h1 (AV.agg cs).refs
 have hni : id ∉ (AV.agg cs).refs := fun hm => by
  have := refs_isArr hd id hm
  rw [hb] at this; cases this
 have hB := h1.blk id hid
 rw [hb] at hB
 obtain ⟨b, q1, q2, q3, q4, q5, q6⟩ := hB
 obtain ⟨s1, s2⟩ := r1.rebox (v' := .d ((AV.agg cs).toD σ)) (by rw [r7 id hni]; exact hb) (by rw [r3]; exact hid) (by rw [← q5]; simp [AV.ncells, AV.toD, D.cells]) (fun j hj => by
  have hjl : j < cs.length := by have : cs.length = N := q5; omega
  have e1 : (AV.d ((AV.agg cs).toD σ)).cellAt j = .d (toD1 σ cs[j]) := by
   show AV.d (((cs.map (toD1 σ))).getD j default) = _
   simp [hjl]
  have e2 : (AV.agg cs).cellAt j = cs[j] := by show cs.getD j .undef = _; simp [hjl]
  rw [e1, e2]
  obtain ⟨t1, _⟩ := q6 j hj
  rw [e2] at t1
  refine ⟨by show (toD1 σ cs[j]).one = true; exact toD1_one _ _ t1, fun u hu => .d _ _ ?_⟩
  have hmem : cs[j] ∈ cs := List.getElem_mem hjl
  have eD : toD1 (freezeL σ (AV.agg cs).refs) cs[j] = toD1 σ cs[j] := by
   cases hc : cs[j] <;> simp [toD1, (fun id => (r5 id).1)]
  have hD1 : isD1 σ cs[j] = true := List.all_eq_true.1 hd _ hmem
  have hD1' : isD1 (freezeL σ (AV.agg cs).refs) cs[j] = true := by
   cases hc : cs[j] <;> rw [hc] at hD1 <;> simp_all [isD1]
  rw [← eD]
  refine toD1_rep r1 hu hD1' fun i hi => ?_
  have hir : i ∈ (AV.agg cs).refs := List.mem_flatMap.2 ⟨_, hmem, hi⟩
  exact r4 i hir (refs_isArr hd i hir))
 rw [r3] at s2
 exact ⟨I', μ, s1, h2.keep (r2.trans s2), (r2.trans s2).mono h3⟩
theorem weak_freeze {n m : Nat} {env : Env} (id : Nat) : Weak n m env σ env (freeze σ id) := fun w I μ a h1 h2 h3 =>
 ⟨_, μ, h1.freeze id, h2.keep (keep_freeze h1 id), (keep_freeze h1 id).mono h3⟩
theorem callF_frz {n : Nat} {all : Array Oper} {draw : Bool} {rest : List Oper} {KK : Env → Sto → Prop} {env : Env} {f : FuncId} {as caps : List AV} {v : AV} {dst : Option Tmp} {xs : List D}
  (h : Pure P Gl f (xs.map AV.d) v) (e : ∀ s, Ext σ s → (as ++ caps).map (dataA s) = xs.map AV.d ∧ freezeL s ((as ++ caps).flatMap (refsD s)) = s) (h2 : evOps P Gl n all draw rest (putE env dst v) σ KK) :
  callF P Gl n all draw dst rest (.fn f caps) as env σ KK :=
 callF_ext (fun s hs => ACalls.data (by rw [(e s hs).1, (e s hs).2]; exact h s)) h2
theorem dataA_two {s : Sto} {i o k es : Nat} {ys : List D} {c : D} (hb : blkAt s i = .frz es ys) : dataA s (.agg [.d c, .osl i o k]) = .d (.agg [c, .sl ((ys.drop o).take k)]) ∧ refsD s (.agg [.d c, .osl i o k]) = [i] := by
 simp [dataA, refsD, AV.isD, isD1, AV.toD, toD1, AV.refs, ref1, hb, Blk.isArr, Blk.xs]
theorem ACalls.weak {f : FuncId} {args : List AV} {σ' : Sto} {R : AV → Sto → Prop} (h : Weak 0 σ.length [] σ [] σ') (hc : ACalls P Gl f args σ' R) : ACalls P Gl f args σ R := by
 intro w I μ vals hR hG hl hv
 obtain ⟨I', μ', r1, _, r3⟩ := h w I μ (⟨#[], []⟩ : Act) hR ⟨rfl, rfl, fun t => .undef _⟩ (Nat.le_refl _)
 refine (hc w I' μ' vals r1 (hG.keep r3) hl fun i v u h1 h2 => (hv i v u h1 h2).keep r3).mono fun v w' ⟨r, s, J, ν, q1, q2, q3, q4⟩ => ?_
 exact ⟨r, s, J, ν, q1, r3.trans (q2.mono r3.len), q3, q4⟩
end Go.AM


namespace Go.AM
open Go.RowKit Go.ChangeShapes Go.WideShapes
def tiled (P : Program) : List Field → Nat → Option Nat
 | [], o => some o
 | f :: r, o => if f.offset = o then tiled P r (o + P.cellsOf f.type) else none
def dataTy (P : Program) : Nat → TypeId → Bool
 | 0, _ => false
 | n + 1, t => match P.underlying t with
  | some .bool => true
  | some (.int _) => true
  | some .string => true
  | some (.slice e) => decide (0 < P.cellsOf e) && dataTy P n e
  | some (.struct fs) => (tiled P fs.toList 0 == some (P.cellsOf t)) && fs.toList.all fun f => dataTy P n f.type
  | _ => false
def fieldsD (P : Program) (T : TypeId → List D → Prop) : List Field → List D → Prop
 | [], ds => ds = []
 | f :: r, ds => ∃ a b, ds = a ++ b ∧ a.length = P.cellsOf f.type ∧ T f.type a ∧ fieldsD P T r b
def TypedD (P : Program) : Nat → TypeId → List D → Prop
 | 0, _, _ => False
 | n + 1, t, ds => match P.underlying t with
  | some .bool => ∃ b, ds = [.bool b]
  | some (.int k) => ∃ i, ds = [.int k i] ∧ (Lit.int k i).wf = true
  | some .string => ∃ s, ds = [.str s] ∧ s.length ≤ maxLen
  | some (.slice e) => ∃ xs, ds = [.sl xs] ∧ xs.length ≤ maxLen ∧ ∀ x ∈ xs, TypedD P n e x.cells ∧ x.cells.length = P.cellsOf e ∧ x.isAgg = (tkind P e).getD false
  | some (.struct fs) => fieldsD P (TypedD P n) fs.toList ds
  | _ => False
variable {H : Type} {enc : TypeId × Value → H} {P : Program} {w : World} {I : Im} {spare : Nat → Bool} {held : Bool} {base : Nat}
structure CellsAre (w : World) (I : Im) (vs : List Value) (ds : List D) : Prop where
 len : ds.length = vs.length
 rep : ∀ (j : Nat) (v : Value) (x : D), vs[j]? = some v → ds[j]? = some x → RepD w I v x
 one : ∀ x ∈ ds, x.one = true
theorem CellsAre.single {v : Value} {x : D} (h : RepD w I v x) (ho : x.one = true) : CellsAre w I [v] [x] :=
 ⟨rfl, fun j v' x' hv hx => by
  cases j with
  | zero => simp at hv hx; subst hv; subst hx; exact h
  | succ j => simp at hv, fun y hy => by simp at hy; subst hy; exact ho⟩
theorem CellsAre.append {vs us : List Value} {ds es : List D} (h : CellsAre w I vs ds) (k : CellsAre w I us es) : CellsAre w I (vs ++ us) (ds ++ es) := by
 refine ⟨by simp [h.len, k.len], fun j v x hv hx => ?_, fun x hx => ?_⟩
 ·rcases Nat.lt_or_ge j vs.length with hj | hj
  ·rw [List.getElem?_append_left hj] at hv
   rw [List.getElem?_append_left (by rw [h.len]; exact hj)] at hx
   exact h.rep j v x hv hx
  ·rw [List.getElem?_append_right hj] at hv
   rw [List.getElem?_append_right (by rw [h.len]; exact hj), h.len] at hx
   exact k.rep _ v x hv hx
 ·rcases List.mem_append.1 hx with hx | hx
  ·exact h.one x hx
  ·exact k.one x hx
theorem mapM_some {α β : Type} {f : α → Option β} : ∀ {l : List α} {r : List β}, l.mapM f = some r → ∀ x ∈ l, ∃ y, f x = some y
 | [], _, _, x, hx => by simp at hx
 | a :: l, r, h, x, hx => by
  rw [List.mapM_cons] at h
  cases ha : f a with
  | none => rw [ha] at h; simp at h
  | some b =>
   rw [ha] at h
   cases hl : l.mapM f with
   | none => rw [hl] at h; simp at h
   | some r' =>
    rcases List.mem_cons.1 hx with rfl | hx
    ·exact ⟨b, ha⟩
    ·exact mapM_some hl x hx
theorem fields_read {n fuel : Nat} {cs : List Value} (ih : ∀ {t : TypeId} {cs : List Value} {x : DataW H × List MemPlace}, dataTy P n t = true → DataW.trod enc P w base spare held fuel t cs = some x → ∃ ds, CellsAre w I cs ds ∧ TypedD P n t ds) :
  ∀ (fs : List Field) (o : Nat), tiled P fs o = some cs.length → o ≤ cs.length → (∀ f ∈ fs, dataTy P n f.type = true) → (∀ f ∈ fs, ∃ y, DataW.trod enc P w base spare held fuel f.type ((cs.drop f.offset).take (P.cellsOf f.type)) = some y) →
   ∃ ds, CellsAre w I (cs.drop o) ds ∧ fieldsD P (TypedD P n) fs ds
 | [], o, ht, _, _, _ => by
  simp only [tiled, Option.some.injEq] at ht
  subst ht
  exact ⟨[], ⟨by simp, fun j v x hv => by simp at hv, fun x hx => by simp at hx⟩, rfl⟩
 | f :: r, o, ht, hle, hd, hr => by
  simp only [tiled] at ht
  split at ht
  ·rename_i ho
   obtain ⟨y, hy⟩ := hr f (by simp)
   obtain ⟨da, h1, h2⟩ := ih (hd f (by simp)) hy
   have hb : o + P.cellsOf f.type ≤ cs.length := by
    have mono : ∀ (l : List Field) (a b : Nat), tiled P l a = some b → a ≤ b := by
     intro l
     induction l with
     | nil => intro a b h; simp only [tiled, Option.some.injEq] at h; omega
     | cons g l ihl =>
      intro a b h
      simp only [tiled] at h
      split at h
      ·have := ihl _ _ h; omega
      ·cases h
    exact mono _ _ _ ht
   obtain ⟨db, h3, h4⟩ := fields_read ih r (o + P.cellsOf f.type) ht hb (fun g hg => hd g (by simp [hg])) (fun g hg => hr g (by simp [hg]))
   rw [ho] at h1
   have e : cs.drop o = (cs.drop o).take (P.cellsOf f.type) ++ cs.drop (o + P.cellsOf f.type) := by
    rw [← List.drop_drop, List.take_append_drop]
   refine ⟨da ++ db, by rw [e]; exact h1.append h3, da, db, rfl, ?_, h2, h4⟩
   rw [h1.len, List.length_take, List.length_drop]; omega
  ·cases ht
theorem cells_at {a : Addr} {k : Nat} {vs : List Value} (h : w.cells? base a k = some vs) : vs.length = k ∧ ∀ j, j < k → w.cell? (a.add j) = vs[j]? := by
 unfold World.cells? at h
 split at h
 ·have gen : ∀ (l : List Nat) (vs : List Value), (l.mapM (fun i => w.cell? (a.add i)) : Option (List Value)) = some vs → vs.length = l.length ∧ ∀ (j i : Nat), l[j]? = some i → w.cell? (a.add i) = vs[j]? := by
   intro l
   induction l with
   | nil => intro vs h; simp at h; subst h; exact ⟨rfl, fun j i hj => by simp at hj⟩
   | cons x l ih =>
    intro vs h
    rw [List.mapM_cons] at h
    cases hx : w.cell? (a.add x) with
    | none => rw [hx] at h; simp at h
    | some v =>
     rw [hx] at h
     cases hl : l.mapM (fun i => w.cell? (a.add i)) with
     | none => rw [hl] at h; simp at h
     | some r =>
      rw [hl] at h
      simp at h
      subst h
      obtain ⟨i1, i2⟩ := ih r hl
      refine ⟨by simp [i1], fun j i hj => ?_⟩
      cases j with
      | zero => simp at hj; subst hj; simpa using hx
      | succ j => simpa using i2 j i (by simpa using hj)
  obtain ⟨g1, g2⟩ := gen _ _ h
  exact ⟨by simpa using g1, fun j hj => g2 j j (by simp [hj])⟩
 ·cases h
theorem cell_lt {a : Addr} {v : Value} (h : w.cell? a = some v) : a.block < w.heap.size ∧ a.spot = none := by
 unfold World.cell? at h
 split at h
 ·rename_i c _ _ hc
  split at h
  ·cases h
  ·rename_i hs
   refine ⟨?_, by simpa using hs⟩
   rcases Nat.lt_or_ge a.block w.heap.size with h' | h'
   ·exact h'
   ·rw [Array.getElem?_eq_none h'] at hc; cases hc
 ·cases h
theorem typed_shape {n : Nat} {e : TypeId} {ds : List D} (h : TypedD P n e ds) (hk : (tkind P e).getD false = false) : ∃ x, ds = [x] ∧ x.isAgg = false := by
 cases n with
 | zero => exact h.elim
 | succ n =>
  simp only [TypedD] at h
  unfold tkind at hk
  cases hu : P.underlying e with
  | none => rw [hu] at h; exact h.elim
  | some td =>
   rw [hu] at h hk
   cases td <;> simp only at h hk
   all_goals first
    | exact h.elim
    | (obtain ⟨x, rfl⟩ := h; exact ⟨_, rfl, rfl⟩)
    | (obtain ⟨x, rfl, _⟩ := h; exact ⟨_, rfl, rfl⟩)
    | (simp at hk)
theorem add_add {a : Addr} (hs : a.spot = none) (i j : Nat) : (a.add i).add j = ⟨a.block, a.off + i + j, none⟩ := by
 obtain ⟨b, o, sp⟩ := a
 simp only at hs
 subst hs
 unfold Addr.add
 by_cases hi : i = 0 <;> by_cases hj : j = 0 <;> simp [hi, hj]
theorem read_slice (hI : ∀ b, b < w.heap.size → I.rd b) {n : Nat} {e : TypeId} {a : Addr} {len cap : Nat} (he : 0 < P.cellsOf e) (hlc : len ≤ cap) (hcm : cap ≤ maxLen)
  (hel : ∀ i, i < len → ∃ (vs : List Value) (ds : List D), vs.length = P.cellsOf e ∧ (∀ j, j < P.cellsOf e → w.cell? ((a.add (i * P.cellsOf e)).add j) = vs[j]?) ∧ CellsAre w I vs ds ∧ TypedD P n e ds) :
  ∃ xs, RepD w I (.slice (some a) len cap) (.sl xs) ∧ xs.length ≤ maxLen ∧ ∀ x ∈ xs, TypedD P n e x.cells ∧ x.cells.length = P.cellsOf e ∧ x.isAgg = (tkind P e).getD false := by
 rcases Nat.eq_zero_or_pos len with hz | hpos
 ·subst hz
  exact ⟨[], .nil _ _, by simp, fun x hx => by simp at hx⟩
 have hel2 : ∀ i, ∃ (vs : List Value) (x : D), i < len → (vs.length = P.cellsOf e ∧ (∀ j, j < P.cellsOf e → w.cell? ((a.add (i * P.cellsOf e)).add j) = vs[j]?) ∧ CellsAre w I vs x.cells ∧ TypedD P n e x.cells ∧ x.isAgg = (tkind P e).getD false) := fun i => by
  by_cases hi : i < len
  ·obtain ⟨vs, ds, h1, h2, h3, h4⟩ := hel i hi
   cases hk : (tkind P e).getD false with
   | true => exact ⟨vs, .agg ds, fun _ => ⟨h1, h2, h3, h4, rfl⟩⟩
   | false =>
    obtain ⟨x, rfl, hx⟩ := typed_shape h4 hk
    have hc : x.cells = [x] := by cases x <;> first | rfl | (simp [D.isAgg] at hx)
    exact ⟨vs, x, fun _ => ⟨h1, h2, by rw [hc]; exact h3, by rw [hc]; exact h4, hx⟩⟩
  ·exact ⟨[], default, fun h => absurd h hi⟩
 let vsOf : Nat → List Value := fun i => Classical.choose (hel2 i)
 let xOf : Nat → D := fun i => Classical.choose (Classical.choose_spec (hel2 i))
 have hsp : ∀ i, i < len → (vsOf i).length = P.cellsOf e ∧ (∀ j, j < P.cellsOf e → w.cell? ((a.add (i * P.cellsOf e)).add j) = (vsOf i)[j]?) ∧ CellsAre w I (vsOf i) (xOf i).cells ∧ TypedD P n e (xOf i).cells ∧ (xOf i).isAgg = (tkind P e).getD false :=
  fun i hi => Classical.choose_spec (Classical.choose_spec (hel2 i)) hi
 have h0 := (hsp 0 hpos).2.1 0 he
 have hp0 : 0 < (vsOf 0).length := by rw [(hsp 0 hpos).1]; exact he
 have hv0 : (vsOf 0)[0]? = some ((vsOf 0)[0]'hp0) := List.getElem?_eq_getElem hp0
 rw [hv0] at h0
 have ha : a.spot = none ∧ a.block < w.heap.size := by
  have := cell_lt h0
  simp only [Nat.zero_mul, Addr.add, if_true] at this
  exact ⟨this.2, this.1⟩
 let xs := (List.range len).map xOf
 have hlen : xs.length = len := by simp [xs]
 have hget : ∀ (i : Nat) (x : D), xs[i]? = some x → i < len ∧ x = xOf i := fun i x hx => by
  have hi : i < len := by
   rcases Nat.lt_or_ge i len with h | h
   ·exact h
   ·rw [List.getElem?_eq_none (by omega)] at hx; cases hx
  refine ⟨hi, ?_⟩
  simp only [xs, List.getElem?_map, List.getElem?_range hi, Option.map_some, Option.some.injEq] at hx
  exact hx.symm
 have hmem : ∀ x ∈ xs, ∃ i, i < len ∧ x = xOf i := fun x hx => by
  obtain ⟨i, hi, rfl⟩ := List.mem_map.1 hx
  exact ⟨i, List.mem_range.1 hi, rfl⟩
 refine ⟨xs, ?_, by omega, fun x hx => ?_⟩
 ·have hv : (Value.slice (some a) len cap) = .slice (some ⟨a.block, a.off, none⟩) xs.length cap := by
   rw [hlen]
   obtain ⟨b, o, sp⟩ := a
   simp only at ha
   rw [ha.1]
  rw [hv]
  refine .sl a.block a.off (P.cellsOf e) cap xs (fun i j => (vsOf i).getD j Go.undef) (hI _ ha.2) (by omega) (fun x hx => ?_) (fun x hx => ?_) (fun i j hi hj => ?_) (fun i j x y hx hy => ?_)
  ·obtain ⟨i, hi, rfl⟩ := hmem x hx
   have := (hsp i hi).2.2.1.len
   rw [this, (hsp i hi).1]
  ·obtain ⟨i, hi, rfl⟩ := hmem x hx
   exact (hsp i hi).2.2.1.one
  ·obtain ⟨g1, g2, _⟩ := hsp i (by omega)
   have := g2 j hj
   rw [add_add ha.1] at this
   rw [this]
   have hj' : j < (vsOf i).length := by rw [g1]; exact hj
   have : (vsOf i)[j]? = some ((vsOf i)[j]'hj') := List.getElem?_eq_getElem hj'
   rw [this, List.getD_eq_getElem?_getD, this]; rfl
  ·obtain ⟨hi, rfl⟩ := hget i x hx
   obtain ⟨g1, g2, g3, _⟩ := hsp i hi
   have hj : j < (vsOf i).length := by
    rw [← g3.len]
    rcases Nat.lt_or_ge j (xOf i).cells.length with h | h
    ·exact h
    ·rw [List.getElem?_eq_none h] at hy; cases hy
   have hvj : (vsOf i)[j]? = some (vsOf i)[j] := List.getElem?_eq_getElem hj
   have := g3.rep j _ y hvj hy
   rw [List.getD_eq_getElem?_getD, hvj]; exact this
 ·obtain ⟨i, hi, rfl⟩ := hmem x hx
  obtain ⟨g1, g2, g3, g4, g5⟩ := hsp i hi
  exact ⟨g4, by rw [g3.len, g1], g5⟩
theorem read_cells (hI : ∀ b, b < w.heap.size → I.rd b) : ∀ (n fuel : Nat) {t : TypeId} {cs : List Value} {x : DataW H × List MemPlace}, dataTy P n t = true → DataW.trod enc P w base spare held fuel t cs = some x → ∃ ds, CellsAre w I cs ds ∧ TypedD P n t ds := by
 intro n
 induction n with
 | zero => intro fuel t cs x hd; simp [dataTy] at hd
 | succ n ih =>
  intro fuel t cs x hd h
  cases fuel with
  | zero => simp [DataW.trod] at h
  | succ fuel =>
   simp only [dataTy] at hd
   simp only [TypedD]
   cases hu : P.underlying t with
   | none => rw [hu] at hd; cases hd
   | some td =>
    rw [hu] at hd
    simp only [DataW.trod, hu] at h
    cases td <;> simp only at hd <;> try (cases hd; done)
    · -- bool
     split at h <;> first
      | (rename_i b _; simp only [Option.some.injEq] at *; exact ⟨[.bool b], CellsAre.single (.bool b) rfl, b, rfl⟩)
      | (simp_all; done)
    · -- int
     rename_i k
     split at h <;> first
      | (simp_all; done)
      | skip
     rename_i k1 k2 i heq
     cases heq
     split at h
     ·rename_i hw
      obtain ⟨rfl, hw⟩ := hw
      exact ⟨[.int _ i], CellsAre.single (.int _ i) rfl, i, rfl, hw⟩
     ·cases h
    · -- string
     split at h <;> first
      | (simp_all; done)
      | skip
     rename_i s heq
     split at h
     ·rename_i hs
      refine ⟨[.str s.data.toList], CellsAre.single ?_ rfl, s.data.toList, rfl, by simpa using hs⟩
      have : s = ⟨s.data.toList.toArray⟩ := by cases s; simp
      rw [this]
      exact .str _
     ·cases h
    · -- slice
     rename_i e
     simp only [Bool.and_eq_true, decide_eq_true_eq] at hd
     split at h <;> first
      | (simp_all; done)
      | skip
     ·exact ⟨[.sl []], CellsAre.single (.nil none 0) rfl, [], rfl, by simp, fun x hx => by simp at hx⟩
     ·rename_i e' a len cap heq
      cases heq
      split at h
      ·rename_i hb
       rw [Option.bind_eq_some_iff] at h
       obtain ⟨els, hels, _⟩ := h
       have hall := mapM_some hels
       have hel : ∀ i, i < len → ∃ (vs : List Value) (ds : List D), vs.length = P.cellsOf e ∧ (∀ j, j < P.cellsOf e → w.cell? ((a.add (i * P.cellsOf e)).add j) = vs[j]?) ∧ CellsAre w I vs ds ∧ TypedD P n e ds := fun i hi => by
        obtain ⟨y, hy⟩ := hall i (List.mem_range.2 hi)
        rw [Option.bind_eq_some_iff] at hy
        obtain ⟨vs, h1, h2⟩ := hy
        obtain ⟨h3, h4⟩ := cells_at h1
        obtain ⟨ds, h5, h6⟩ := ih fuel hd.2 h2
        exact ⟨vs, ds, h3, h4, h5, h6⟩
       obtain ⟨xs, r1, r2, r3⟩ := read_slice hI hd.1 hb.2.1 hb.2.2 hel
       exact ⟨[.sl xs], CellsAre.single r1 rfl, xs, rfl, r2, r3⟩
      ·cases h
    · -- struct
     rename_i fs
     simp only [Bool.and_eq_true, beq_iff_eq, List.all_eq_true] at hd
     split at h <;> first
      | (simp_all; done)
      | skip
     rename_i fs' heq
     cases heq
     split at h
     ·rename_i hl
      rw [Option.map_eq_some_iff] at h
      obtain ⟨xs, hxs, _⟩ := h
      obtain ⟨ds, h1, h2⟩ := fields_read (I := I) (fun {t cs x} h1 h2 => ih fuel h1 h2) fs.toList 0 (by rw [hl]; exact hd.1) (Nat.zero_le _) (fun f hf => hd.2 f hf) (fun f hf => mapM_some hxs f hf)
      exact ⟨ds, by simpa using h1, h2⟩
     ·cases h
def datumOf (P : Program) (t : TypeId) (ds : List D) : D := if (tkind P t).getD false = true then .agg ds else ds.getD 0 default
def TypedV (P : Program) (n : Nat) (t : TypeId) (x : D) : Prop := TypedD P n t x.cells ∧ x.isAgg = (tkind P t).getD false
theorem read_value (hI : ∀ b, b < w.heap.size → I.rd b) {n : Nat} {t : TypeId} {v : Value} {d : DataW H} {ps : List MemPlace} (hd : dataTy P n t = true) (hok : Value.okWide P w .any base t v)
  (h : DataW.Trod enc P w 0 spare held t v d ps) : ∃ x, RepD w I v x ∧ TypedV P n t x := by
 obtain ⟨fuel, h⟩ := h
 obtain ⟨ds, h1, h2⟩ := read_cells hI n fuel hd h
 unfold TypedV
 cases hk : (tkind P t).getD false with
 | true =>
  have : ∃ cs, v = .agg cs := by
   unfold Value.okWide at hok
   unfold tkind at hk
   split at hok
   ·obtain ⟨cs, e, _⟩ := hok; exact ⟨cs, e⟩
   ·obtain ⟨cs, e, _⟩ := hok; exact ⟨cs, e⟩
   ·rename_i hns hna
    cases hu : P.underlying t with
    | none => rw [hu] at hk; simp at hk
    | some td =>
     rw [hu] at hk
     cases td <;> simp at hk
     all_goals first | exact absurd hu (hns _) | exact absurd hu (hna _ _)
  obtain ⟨cs, rfl⟩ := this
  refine ⟨.agg ds, ?_, h2, rfl⟩
  have e : (Value.agg cs).cells.toList = cs.toList := rfl
  rw [e] at h1
  have := RepD.agg (w := w) (I := I) cs.toList ds h1.len.symm h1.one h1.rep
  simpa using this
 | false =>
  obtain ⟨x, rfl, hx⟩ := typed_shape h2 hk
  have hc : x.cells = [x] := by cases x <;> first | rfl | (simp [D.isAgg] at hx)
  refine ⟨x, ?_, by rw [hc]; exact h2, hx⟩
  have hl := h1.len
  have : v.cells.toList = [v] := by
   cases v <;> first | rfl | skip
   rename_i cs
   exfalso
   unfold Value.okWide Cell.okWide Cell.ok at hok
   unfold tkind at hk
   cases hu : P.underlying t with
   | none => rw [hu] at hok; exact hok
   | some td =>
    rw [hu] at hk hok
    cases td <;> simp at hk hok
  rw [this] at h1
  exact h1.rep 0 v x rfl rfl
def TypedAll (P : Program) (n : Nat) : List TypeId → List D → Prop
 | [], xs => xs = []
 | t :: ts, xs => ∃ x r, xs = x :: r ∧ TypedV P n t x ∧ TypedAll P n ts r
theorem read_all (hI : ∀ b, b < w.heap.size → I.rd b) {n : Nat} : ∀ (ts : List TypeId) (vs : List Value) (ds : List (DataW H)) (ps : List MemPlace), (∀ t ∈ ts, dataTy P n t = true) →
  (∀ (j : Nat) t v, ts[j]? = some t → vs[j]? = some v → Value.okWide P w .any base t v) → DataW.TrodAll enc P w 0 spare held ts vs ds ps →
  ∃ xs : List D, TypedAll P n ts xs ∧ vs.length = xs.length ∧ ds.length = ts.length ∧ ∀ (i : Nat) (v : Value) (x : D), vs[i]? = some v → xs[i]? = some x → RepD w I v x
 | [], vs, ds, ps, _, _, h => by
  cases vs <;> cases ds <;> simp only [DataW.TrodAll] at h
  exact ⟨[], rfl, rfl, rfl, fun i v x hv => by simp at hv⟩
 | t :: ts, vs, ds, ps, hd, hok, h => by
  cases vs <;> cases ds <;> simp only [DataW.TrodAll] at h
  rename_i v vs d ds
  obtain ⟨p, q, h1, h2, _⟩ := h
  obtain ⟨x, r1, r2⟩ := read_value hI (hd t (by simp)) (hok 0 t v rfl rfl) h1
  obtain ⟨xs, r3, r4, r5, r6⟩ := read_all hI ts vs ds q (fun t ht => hd t (by simp [ht])) (fun j t v h1 h2 => hok (j + 1) t v (by simpa using h1) (by simpa using h2)) h2
  refine ⟨x :: xs, ⟨x, xs, rfl, r2, r3⟩, by simp [r4], by simp [r5], fun i u y hu hy => ?_⟩
  cases i with
  | zero => simp at hu hy; subst hu; subst hy; exact r1
  | succ i => exact r6 i u y (by simpa using hu) (by simpa using hy)
theorem trodAll_below {w' : World} (hl : laidOutB P = true) (hb : Below w.heap.size w w') : ∀ (ts : List TypeId) (vs : List Value) (ds : List (DataW H)) (ps : List MemPlace), (∀ t ∈ ts, P.readableRec t = true ∧ t < P.types.size) →
  DataW.TrodAll enc P w 0 (fun _ => true) true ts vs ds ps → (∀ x ∈ ps, x.block < w.heap.size) → DataW.TrodAll enc P w' 0 (fun b => decide (b < w.heap.size)) true ts vs ds ps
 | [], vs, ds, ps, _, h, _ => by
  cases vs <;> cases ds <;> simp only [DataW.TrodAll] at h ⊢
  exact h
 | t :: ts, vs, ds, ps, ht, h, hlt => by
  cases vs <;> cases ds <;> simp only [DataW.TrodAll] at h ⊢
  obtain ⟨p, q, h1, h2, rfl⟩ := h
  have h3 := ht t (by simp)
  exact ⟨p, q, Below.trod hl h3.1 h3.2 h1 hb fun x hx => hlt x (List.mem_append.2 (.inl hx)), trodAll_below hl hb ts _ _ q (fun t h => ht t (by simp [h])) h2 fun x hx => hlt x (List.mem_append.2 (.inr hx)), rfl⟩
theorem Keep.below {m : Nat} {w' : World} {I' : Im} {μ μ' : Pos} {σ σ' : Sto} (hI : ∀ b, b < w.heap.size → I.fr b) (k : Keep m w I μ σ w' I' μ' σ') : Below w.heap.size w w' :=
 ⟨k.os, k.tape, k.output, k.size, fun b hb => k.same b (hI b hb)⟩
theorem law_contract {fn : Func} {c : Code} {s : ChangeSpec} {f : FuncId} {n : Nat} {tb : TypeId} {apart fresh handsOn : Bool}
  (hf : P.funcs[f]? = some fn) (hname : (fn.name == "runtime.NumGoroutine") = false) (hb : fn.body = some c)
  (hty : (fn.params.toList.all fun t => dataTy P n t && P.readableRec t && decide (t < P.types.size)) = true) (hlaid : laidOutB P = true)
  (hres : fn.resultTypes = #[tb]) (htb : P.underlying tb = some .bool) (hvars : s.vars = [])
  (hspec : ∀ (H : Type) (ds : List (DataW H)), ds.length = fn.params.size → s.fn H ds = { results := [.lit (.bool true)], args := ds })
  (hmain : ∀ xs, TypedAll P n fn.params.toList xs → ACalls P [] f (xs.map AV.d) [] (fun r _ => r = .d (.bool true)))
  (W : World) (base : Nat) (args : Array Value) (ds gs : List (DataW H)) (before : List MemPlace)
  (hval : ∀ (j : Nat) t v, fn.params[j]? = some t → args[j]? = some v → Value.okWide P W .any base t v)
  (hW : DataW.Whole enc P fn.params.toList s.vars apart W args.toList ds gs before) :
  Calls P f args W fun e W' => ∃ v, e = .returned v ∧ s.post enc P fn apart fresh handsOn false W args v W' := by
 have hlt := hW.lt
 have hW' := hW
 obtain ⟨p, q, hA, hV, rfl, _, _⟩ := hW
 rw [hvars] at hV
 obtain ⟨rfl, rfl⟩ := trodVars_none hV
 simp only [List.all_eq_true, Bool.and_eq_true, decide_eq_true_eq] at hty
 let I : Im := { rd := fun b => b < W.heap.size, fr := fun b => b < W.heap.size, sub := fun _ h => h }
 obtain ⟨xs, h1, h2, h3, h4⟩ := read_all (I := I) (fun _ h => h) fn.params.toList args.toList ds p (fun t ht => (hty t ht).1.1) (fun j t v ht hv => hval j t v (by simpa using ht) (by simpa using hv)) hA
 have hm := hmain xs h1 W I (fun _ => none) args.toList ⟨fun _ h => h, fun id hid => absurd hid (Nat.not_lt_zero _), fun i j b b' o o' _ _ _ h => by cases h⟩ (GlOk.nil _ _) (by simp [h2]) (fun i v u hv hu => by
  rw [List.getElem?_map] at hu
  cases hx : xs[i]? with
  | none => rw [hx] at hu; cases hu
  | some x =>
   rw [hx] at hu
   simp only [Option.map_some, Option.some.injEq] at hu
   subst hu
   exact .d v x (h4 i v x hv hx))
 have e : (callFunc f args.toList.toArray).run P W = .ok (.enter f args) W := by
  have hne : ¬ fn.name = "runtime.NumGoroutine" := by simpa using hname
  simp [callFunc, hf, hb, hne]
 rw [e] at hm
 refine hm.2.mono fun x W' ⟨v, hx, r, σ', I', μ', q1, q2, q3, q4⟩ => ?_
 subst hx
 subst q4
 have hv : v = .bool true := by
  have := q3.inv_d
  cases this; rfl
 subst hv
 have hbel : Below W.heap.size W W' := q2.below (fun _ h => h)
 have hlen : (ds ++ []).length = fn.params.size := by simp [h3]
 refine ⟨_, rfl, ds, [], p ++ [], [], p, [], hW', ?_, ?_, ?_, ?_, fun h => by cases h⟩
 ·rw [hspec _ _ hlen, hres]
  exact trodAll_mk1 (shut_bool htb true)
 ·rw [hspec _ _ hlen]
  simp only [List.append_nil]
  exact trodAll_below hlaid hbel _ _ _ _ (fun t ht => ⟨(hty t ht).1.2, (hty t ht).2⟩) hA (by simpa using hlt)
 ·rw [hspec _ _ hlen, hvars]
  exact rfl
 ·exact hbel.frame _
end Go.AM


set_option linter.unusedVariables false
namespace Go.AM
open Go.RowKit Go.ChangeShapes Go.WideShapes
variable {H : Type} {enc : TypeId × Value → H} {P : Program} {w : World} {I : Im} {spare : Nat → Bool} {held : Bool} {base : Nat}
end Go.AM


namespace Go.AM
inductive Cel where
 | bool
 | int (k : IntKind)
 | str
 | sl (cs : List Cel) (agg : Bool)
mutual
def Conf : Cel → D → Prop
 | .bool, d => ∃ b, d = .bool b
 | .int k, d => ∃ i, d = .int k i ∧ (Lit.int k i).wf = true
 | .str, d => ∃ s, d = .str s ∧ s.length ≤ maxLen
 | .sl cs g, d => ∃ xs, d = .sl xs ∧ xs.length ≤ maxLen ∧ ∀ x ∈ xs, ConfL cs x.cells ∧ x.isAgg = g
def ConfL : List Cel → List D → Prop
 | [], ds => ds = []
 | c :: r, ds => ∃ d r', ds = d :: r' ∧ Conf c d ∧ ConfL r r'
end
theorem ConfL.append : ∀ {a b : List Cel} {x y : List D}, ConfL a x → ConfL b y → ConfL (a ++ b) (x ++ y)
 | [], b, x, y, h1, h2 => by
  simp only [ConfL] at h1
  subst h1
  simpa using h2
 | c :: r, b, x, y, h1, h2 => by
  simp only [ConfL] at h1
  obtain ⟨d, r', rfl, h3, h4⟩ := h1
  simp only [List.cons_append, ConfL]
  exact ⟨d, r' ++ y, rfl, h3, h4.append h2⟩
def shapeF (f : TypeId → Option (List Cel)) : List Field → Option (List Cel)
 | [] => some []
 | x :: r => match f x.type, shapeF f r with
  | some a, some b => some (a ++ b)
  | _, _ => none
def shapeOf (P : Program) : Nat → TypeId → Option (List Cel)
 | 0, _ => none
 | n + 1, t => match P.underlying t with
  | some .bool => some [.bool]
  | some (.int k) => some [.int k]
  | some .string => some [.str]
  | some (.slice e) => match shapeOf P n e with
   | some cs => some [.sl cs ((tkind P e).getD false)]
   | none => none
  | some (.struct fs) => shapeF (shapeOf P n) fs.toList
  | _ => none
theorem conf_of {P : Program} : ∀ {n : Nat} {t : TypeId} {cs : List Cel} {ds : List D}, shapeOf P n t = some cs → TypedD P n t ds → ConfL cs ds
 | 0, t, cs, ds, h, _ => by cases h
 | n + 1, t, cs, ds, h, ht => by
  simp only [TypedD] at ht
  unfold shapeOf at h
  cases hu : P.underlying t with
  | none => rw [hu] at ht; exact ht.elim
  | some td =>
   rw [hu] at ht h
   cases td <;> simp only at ht h <;> try (exact ht.elim)
   ·obtain ⟨b, rfl⟩ := ht
    cases h
    exact ⟨_, [], rfl, ⟨b, rfl⟩, rfl⟩
   ·obtain ⟨i, rfl, hw⟩ := ht
    cases h
    exact ⟨_, [], rfl, ⟨i, rfl, hw⟩, rfl⟩
   ·obtain ⟨s, rfl, hs⟩ := ht
    cases h
    exact ⟨_, [], rfl, ⟨s, rfl, hs⟩, rfl⟩
   ·obtain ⟨xs, rfl, hx, hxs⟩ := ht
    rename_i e
    cases hs : shapeOf P n e with
    | none => rw [hs] at h; cases h
    | some cs' =>
     rw [hs] at h
     cases h
     exact ⟨_, [], rfl, ⟨xs, rfl, hx, fun x hm => ⟨conf_of hs (hxs x hm).1, (hxs x hm).2.2⟩⟩, rfl⟩
   ·rename_i fs
    have gen : ∀ (l : List Field) (cs : List Cel) (ds : List D), shapeF (shapeOf P n) l = some cs → fieldsD P (TypedD P n) l ds → ConfL cs ds := by
     intro l
     induction l with
     | nil =>
      intro cs ds h1 h2
      cases h1
      simp only [fieldsD] at h2
      exact h2
     | cons x r ih =>
      intro cs ds h1 h2
      simp only [fieldsD] at h2
      obtain ⟨a, b, rfl, _, h3, h4⟩ := h2
      simp only [shapeF] at h1
      split at h1
      ·rename_i p q hp hq
       cases h1
       exact (conf_of hp h3).append (ih q b hq h4)
      ·cases h1
    exact gen _ _ _ h ht
theorem list_of {α : Type} {f : α → D} : ∀ {xs : List D}, (∀ x ∈ xs, ∃ a, x = f a) → ∃ l : List α, xs = l.map f
 | [], _ => ⟨[], rfl⟩
 | x :: r, h => by
  obtain ⟨a, rfl⟩ := h x List.mem_cons_self
  obtain ⟨l, rfl⟩ := list_of fun y hy => h y (List.mem_cons_of_mem _ hy)
  exact ⟨a :: l, rfl⟩
theorem one_of {c : Cel} {x : D} (h : ConfL [c] x.cells) (hg : x.isAgg = false) : Conf c x := by
 obtain ⟨d, r, h1, h2, h3⟩ := h
 have hc : x.cells = [x] := by cases x <;> first | rfl | (simp [D.isAgg] at hg)
 simp only [ConfL] at h3
 subst h3
 rw [hc] at h1
 simp only [List.cons.injEq, and_true] at h1
 rw [h1]; exact h2
theorem strs_of {xs : List D} (h : ∀ x ∈ xs, ConfL [.str] x.cells ∧ x.isAgg = false) : ∃ l : List (List UInt8), xs = l.map .str :=
 list_of fun x hx => by
  obtain ⟨s, hs, _⟩ := one_of (h x hx).1 (h x hx).2
  exact ⟨s, hs⟩
theorem agg_of {x : D} {l : List D} (hg : x.isAgg = true) (h : x.cells = l) : x = .agg l := by
 cases x <;> simp_all [D.isAgg, D.cells]
theorem param_of {P : Program} {n : Nat} {t : TypeId} {x : D} {cs : List Cel} {g : Bool} (h : TypedV P n t x) (hs : shapeOf P n t = some cs) (hk : (tkind P t).getD false = g) : ConfL cs x.cells ∧ x.isAgg = g := ⟨conf_of hs h.1, h.2.trans hk⟩
end Go.AM
