/-
  Stable sorting, in plain Lean: blocks, doubled; a sorted reading of a list is one list alone.
-/
import Derived.Test.YtgebmgahfpnjaaaAmS2
set_option linter.unnecessarySimpa false
set_option linter.unusedSectionVars false
set_option linter.unusedSimpArgs false
set_option linter.unusedVariables false
namespace Go.AM
variable {Dm : D → Prop} {lt : D → D → Bool} {xs : List D} {π ρ κ : Nat → Nat}

def Cut (s p : Nat) : Prop := ∃ j, p = j * s
theorem Cut.zero (s : Nat) : Cut s 0 := ⟨0, by simp⟩
theorem Cut.next {s p : Nat} (h : Cut s p) : Cut s (p + s) := by
  obtain ⟨j, rfl⟩ := h
  exact ⟨j + 1, by rw [Nat.add_mul]; omega⟩
theorem Cut.half {s p : Nat} (h : Cut (2 * s) p) : Cut s p := by
  obtain ⟨j, rfl⟩ := h
  exact ⟨j * 2, by rw [Nat.mul_assoc]⟩
theorem Cut.mid {s p : Nat} (h : Cut (2 * s) p) : Cut s (p + s) := h.half.next
theorem Cut.ge {s p q : Nat} (h : Cut s p) (k : Cut s q) (hl : p < q) : p + s ≤ q := by
  obtain ⟨i, rfl⟩ := h
  obtain ⟨j, rfl⟩ := k
  have h1 : i < j := by
    rcases Nat.lt_or_ge i j with h | h
    · exact h
    · have := Nat.mul_le_mul_right s h; omega
  have h2 : (i + 1) * s ≤ j * s := Nat.mul_le_mul_right s h1
  rw [Nat.add_mul] at h2
  omega

/-- one block, sorted in itself -/
structure Blo (lt : D → D → Bool) (xs : List D) (c d : Nat) (ρ : Nat → Nat) : Prop where
  inn : ∀ p, c ≤ p → p < d → c ≤ ρ p ∧ ρ p < d
  sort : Sorted lt xs c d ρ
/-- the blocks of s elements that begin from lo on and before hi, the last cut at n -/
def Blks (lt : D → D → Bool) (xs : List D) (s n lo hi : Nat) (ρ : Nat → Nat) : Prop := ∀ c, Cut s c → lo ≤ c → c < hi → Blo lt xs c (min (c + s) n) ρ

theorem Blo.out {a b c d : Nat} (h : Blo lt xs c d ρ) (hM : Mv a b ρ κ) (hd : d ≤ a ∨ b ≤ c) : Blo lt xs c d κ :=
  ⟨fun p h1 h2 => by rw [hM.out p (by omega)]; exact h.inn p h1 h2, fun p q h1 h2 h3 => by rw [hM.out p (by omega), hM.out q (by omega)]; exact h.sort p q h1 h2 h3⟩
theorem Blo.mv {c d : Nat} (hi : ∀ p, c ≤ p → p < d → c ≤ ρ p ∧ ρ p < d) (hM : Mv c d ρ κ) (hS : Sorted lt xs c d κ) : Blo lt xs c d κ :=
  ⟨fun p h1 h2 => by obtain ⟨q, q1, q2, q3⟩ := hM.inn p h1 h2; rw [q3]; exact hi q q1 q2, hS⟩

/-- one round of the first loop -/
theorem blks_step {s n a b : Nat} (hs : 0 < s) (ha : Cut s a) (hb : b = min (a + s) n) (hB : Blks lt xs s n 0 a ρ) (hid : ∀ p, a ≤ p → ρ p = p) (hM : Mv a b ρ κ) (hS : Sorted lt xs a b κ) :
    Blks lt xs s n 0 (a + 1) κ ∧ (∀ p, b ≤ p → a ≤ p → κ p = p) := by
  refine ⟨fun c hc h1 h2 => ?_, fun p h1 h2 => by rw [hM.out p (by omega)]; exact hid p h2⟩
  by_cases e : c = a
  · subst e
    rw [← hb]
    exact Blo.mv (fun p h1 h2 => by rw [hid p h1]; omega) hM hS
  · have := hc.ge ha (by omega)
    exact (hB c hc h1 (by omega)).out hM (by omega)

theorem blks_more {s n a a' : Nat} (ha : Cut s a) (h : Blks lt xs s n 0 (a + 1) ρ) (he : a' ≤ a + s) : Blks lt xs s n 0 a' ρ := fun c hc h1 h2 => by
  rcases Nat.lt_trichotomy c a with h' | h' | h'
  · exact h c hc h1 (by omega)
  · exact h c hc h1 (by omega)
  · have := ha.ge hc h'; omega

/-- what the merge of two blocks asks -/
theorem merge_pre {s n a b : Nat} (ha : Cut (2 * s) a) (hs : 0 < s) (hm : a + s < b) (hb : b = min (a + 2 * s) n) (hB : Blks lt xs s n a n ρ) :
    Sorted lt xs a (a + s) ρ ∧ Sorted lt xs (a + s) b ρ ∧ Tags a (a + s) b ρ ∧ (∀ p, a ≤ p → p < b → a ≤ ρ p ∧ ρ p < b) := by
  have h1 := hB a ha.half (Nat.le_refl _) (by omega)
  have h2 := hB (a + s) ha.mid (by omega) (by omega)
  have e1 : min (a + s) n = a + s := by omega
  have e2 : min (a + s + s) n = b := by omega
  rw [e1] at h1
  rw [e2] at h2
  refine ⟨h1.sort, h2.sort, fun p q p1 p2 q1 q2 => ?_, fun p p1 p2 => ?_⟩
  · have := h1.inn p p1 p2
    have := h2.inn q q1 q2
    omega
  · by_cases h : p < a + s
    · have := h1.inn p p1 h; omega
    · have := h2.inn p (by omega) p2; omega

/-- one round of the inner loop -/
theorem merge_step {s n a b : Nat} (ha : Cut (2 * s) a) (hs : 0 < s) (hm : a + s < b) (hb : b = min (a + 2 * s) n) (hB : Blks lt xs s n a n ρ) (hD : Blks lt xs (2 * s) n 0 a ρ) (hM : Mv a b ρ κ) (hS : Sorted lt xs a b κ) :
    Blks lt xs s n (a + 2 * s) n κ ∧ Blks lt xs (2 * s) n 0 (a + 1) κ := by
  obtain ⟨_, _, _, hin⟩ := merge_pre ha hs hm hb hB
  refine ⟨fun c hc h1 h2 => (hB c hc (by omega) h2).out hM (.inr (by omega)), fun c hc h1 h2 => ?_⟩
  by_cases e : c = a
  · subst e
    rw [← hb]
    exact Blo.mv hin hM hS
  · have := hc.ge ha (by omega)
    exact (hD c hc h1 (by omega)).out hM (by omega)

/-- the last block, alone -/
theorem merge_alone {s n a : Nat} (ha : Cut (2 * s) a) (hs : 0 < s) (hm : n ≤ a + s) (hB : Blks lt xs s n a n ρ) (hD : Blks lt xs (2 * s) n 0 a ρ) : Blks lt xs (2 * s) n 0 n ρ := fun c hc h1 h2 => by
  rcases Nat.lt_trichotomy c a with h' | h' | h'
  · exact hD c hc h1 h'
  · subst h'
    have := hB c ha.half (Nat.le_refl _) h2
    rw [show min (c + 2 * s) n = min (c + s) n by omega]; exact this
  · have := ha.ge hc h'; omega

theorem blks_done {s n : Nat} (hn : n ≤ s) (h : Blks lt xs s n 0 n ρ) : Blo lt xs 0 n ρ := by
  by_cases e : n = 0
  · subst e; exact ⟨fun p _ h => by omega, fun p q _ _ h => by omega⟩
  · have := h 0 (Cut.zero s) (Nat.le_refl _) (by omega)
    rwa [show min (0 + s) n = n by omega] at this

/-! ### one list alone -/
theorem pairwise_unique {α : Type} {R : α → α → Prop} : ∀ {l1 l2 : List α}, (∀ x ∈ l1, ∀ y ∈ l1, R x y → R y x → False) → l1.Pairwise R → l2.Pairwise R → (∀ a, a ∈ l1 ↔ a ∈ l2) → l1 = l2
  | [], [], _, _, _, _ => rfl
  | [], b :: l2, _, _, _, h => by have := (h b).2 List.mem_cons_self; cases this
  | a :: l1, [], _, _, _, h => by have := (h a).1 List.mem_cons_self; cases this
  | a :: l1, b :: l2, hA, h1, h2, h => by
    rw [List.pairwise_cons] at h1 h2
    have hb : b ∈ a :: l1 := (h b).2 List.mem_cons_self
    have e : a = b := by
      apply Classical.byContradiction
      intro hne
      have m1 : b ∈ l1 := by
        rcases List.mem_cons.1 hb with e | h'
        · exact absurd e.symm hne
        · exact h'
      have m2 : a ∈ l2 := by
        rcases List.mem_cons.1 ((h a).1 List.mem_cons_self) with e | h'
        · exact absurd e hne
        · exact h'
      exact hA a List.mem_cons_self b hb (h1.1 b m1) (h2.1 a m2)
    subst e
    congr 1
    refine pairwise_unique (fun x hx y hy => hA x (List.mem_cons_of_mem _ hx) y (List.mem_cons_of_mem _ hy)) h1.2 h2.2 fun x => ⟨fun hx => ?_, fun hx => ?_⟩
    · rcases List.mem_cons.1 ((h x).1 (List.mem_cons_of_mem _ hx)) with e | h'
      · subst e; exact (hA x List.mem_cons_self x List.mem_cons_self (h1.1 x hx) (h1.1 x hx)).elim
      · exact h'
    · rcases List.mem_cons.1 ((h x).2 (List.mem_cons_of_mem _ hx)) with e | h'
      · subst e; exact (hA x List.mem_cons_self x List.mem_cons_self (h2.1 x hx) (h2.1 x hx)).elim
      · exact h'

theorem nodup_le : ∀ (n : Nat) (l : List Nat), l.Nodup → (∀ x ∈ l, x < n) → l.length ≤ n
  | 0, l, _, h => by
    cases l with
    | nil => exact Nat.le_refl _
    | cons a l => have := h a List.mem_cons_self; omega
  | n + 1, l, hn, h => by
    have h1 := nodup_le n (l.erase n) (hn.erase n) fun x hx => by
      have hm := List.mem_of_mem_erase hx
      have := h x hm
      have : x ≠ n := fun e => by
        subst e
        exact (List.Nodup.not_mem_erase hn) hx
      omega
    have := List.length_erase_le (a := n) (l := l)
    by_cases hm : n ∈ l
    · rw [List.length_erase_of_mem hm] at h1; omega
    · rw [List.erase_of_not_mem hm] at h1; omega
theorem nodup_all {n : Nat} {l : List Nat} (hn : l.Nodup) (h : ∀ x ∈ l, x < n) (hl : l.length = n) : ∀ i, i < n → i ∈ l := fun i hi => by
  apply Classical.byContradiction
  intro hm
  have := nodup_le n (i :: l) (List.nodup_cons.2 ⟨hm, hn⟩) fun x hx => by
    rcases List.mem_cons.1 hx with rfl | hx
    · exact hi
    · exact h x hx
  simp at this
  omega

/-- the places of the sorted reading -/
def places (n : Nat) (ρ : Nat → Nat) : List Nat := (List.range n).map ρ

theorem places_sorted {n : Nat} (h : Sorted lt xs 0 n ρ) : (places n ρ).Pairwise (Lx lt xs) := by
  unfold places
  rw [List.pairwise_iff_getElem]
  intro i j hi hj hij
  simp only [List.length_map, List.length_range] at hi hj
  simp only [List.getElem_map, List.getElem_range]
  exact h i j (Nat.zero_le _) hij hj
theorem places_nodup {n : Nat} (hw : Swo Dm lt) (hx : ∀ y ∈ xs, Dm y) (hb : Blo lt xs 0 n ρ) (hn : n ≤ xs.length) : (places n ρ).Nodup := by
  refine (places_sorted hb.sort).imp_of_mem (S := (· ≠ ·)) fun {a b} ha hb' hL e => ?_
  subst e
  unfold places at ha
  obtain ⟨i, hi, rfl⟩ := List.mem_map.1 ha
  have := hb.inn i (Nat.zero_le _) (by simpa using hi)
  exact Lx.asymm hw hx (by omega) (by omega) hL hL
theorem places_mem {n : Nat} (hw : Swo Dm lt) (hx : ∀ y ∈ xs, Dm y) (hb : Blo lt xs 0 n ρ) (hn : n ≤ xs.length) (i : Nat) : i ∈ places n ρ ↔ i < n := by
  have hlt : ∀ x ∈ places n ρ, x < n := fun x hx => by
    unfold places at hx
    obtain ⟨i, hi, rfl⟩ := List.mem_map.1 hx
    exact (hb.inn i (Nat.zero_le _) (by simpa using hi)).2
  exact ⟨hlt i, nodup_all (places_nodup hw hx hb hn) hlt (by simp [places]) i⟩

/-- a list of all places in order is the list of the places of the sorted reading -/
theorem places_unique {n : Nat} (hw : Swo Dm lt) (hx : ∀ y ∈ xs, Dm y) (hb : Blo lt xs 0 n ρ) (hn : n ≤ xs.length) {l : List Nat} (h1 : l.Pairwise (Lx lt xs)) (h2 : ∀ i, i ∈ l ↔ i < n) : places n ρ = l :=
  pairwise_unique (fun i hi j hj a b => Lx.asymm hw hx (by have := (places_mem hw hx hb hn i).1 hi; omega) (by have := (places_mem hw hx hb hn j).1 hj; omega) a b) (places_sorted hb.sort) h1 fun a => by rw [places_mem hw hx hb hn, h2]

/-- what is read in order -/
theorem arr_places {ys : List D} (h : Arr Dm xs ys ρ) : ys = (places xs.length ρ).map fun i => xs.getD i default := by
  apply List.ext_getElem
  · simp [places, h.len]
  · intro i h1 h2
    have := h.get i (by rw [← h.len]; exact h1)
    simp only [places, List.getElem_map, List.getElem_range]
    rw [← this]; simp [h1]
end Go.AM
