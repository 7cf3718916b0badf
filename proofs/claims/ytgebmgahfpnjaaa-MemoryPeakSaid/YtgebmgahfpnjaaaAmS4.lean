/-
  Sorting by putting each element behind those that are not greater: what a stable sort hands back.
-/
import Derived.Test.YtgebmgahfpnjaaaAmS3
set_option linter.unnecessarySimpa false
set_option linter.unusedSectionVars false
set_option linter.unusedSimpArgs false
set_option linter.unusedVariables false
namespace Go.AM
section
variable {α : Type} [Inhabited α]
/-- where b goes in l: looked for from place k downwards -/
def putAt (lt : α → α → Bool) (l : List α) (b : α) : Nat → Nat
  | 0 => 0
  | k + 1 => if lt b (l.getD k default) = true then putAt lt l b k else k + 1
def putF (lt : α → α → Bool) (l : List α) (b : α) : List α := l.take (putAt lt l b l.length) ++ b :: l.drop (putAt lt l b l.length)
def sortF (lt : α → α → Bool) (l : List α) : List α := l.foldl (putF lt) []

theorem putAt_le (lt : α → α → Bool) (l : List α) (b : α) : ∀ k, putAt lt l b k ≤ k
  | 0 => Nat.le_refl _
  | k + 1 => by
    have := putAt_le lt l b k
    unfold putAt; split <;> omega
theorem putAt_hi {lt : α → α → Bool} {l : List α} {b : α} : ∀ {k j : Nat}, putAt lt l b k ≤ j → j < k → lt b (l.getD j default) = true
  | 0, j, _, h => by omega
  | k + 1, j, h1, h2 => by
    unfold putAt at h1
    split at h1
    · rename_i h
      by_cases e : j = k
      · subst e; exact h
      · exact putAt_hi h1 (by omega)
    · omega
theorem putAt_lo {lt : α → α → Bool} {l : List α} {b : α} : ∀ {k : Nat}, 0 < putAt lt l b k → lt b (l.getD (putAt lt l b k - 1) default) = false
  | 0, h => by simp [putAt] at h
  | k + 1, h => by
    unfold putAt at h ⊢
    split at h
    · rename_i h'
      rw [if_pos h']; exact putAt_lo h
    · rename_i h'
      rw [if_neg h']; simpa using h'
theorem putF_length (lt : α → α → Bool) (l : List α) (b : α) : (putF lt l b).length = l.length + 1 := by
  have := putAt_le lt l b l.length
  simp [putF]; omega
theorem putF_mem {lt : α → α → Bool} {l : List α} {b x : α} : x ∈ putF lt l b ↔ x ∈ l ∨ x = b := by
  unfold putF
  rw [List.mem_append, List.mem_cons]
  have : x ∈ l ↔ x ∈ l.take (putAt lt l b l.length) ∨ x ∈ l.drop (putAt lt l b l.length) := by
    rw [← List.mem_append, List.take_append_drop]
  rw [this]
  constructor
  · rintro (h | h | h) <;> simp [h]
  · rintro ((h | h) | h) <;> simp [h]
theorem sortF_length (lt : α → α → Bool) (l : List α) : (sortF lt l).length = l.length := by
  have gen : ∀ (l a : List α), (l.foldl (putF lt) a).length = a.length + l.length := by
    intro l
    induction l with
    | nil => intro a; rfl
    | cons x l ih => intro a; rw [List.foldl_cons, ih, putF_length, List.length_cons]; omega
  have := gen l []
  unfold sortF
  simpa using this
theorem sortF_snoc (lt : α → α → Bool) (l : List α) (b : α) : sortF lt (l ++ [b]) = putF lt (sortF lt l) b := by simp [sortF]
end

section
variable {α β : Type} [Inhabited α] [Inhabited β] {g : α → β} {lt : β → β → Bool}
theorem putAt_map {l : List α} {b : α} : ∀ {k : Nat}, k ≤ l.length → putAt lt (l.map g) (g b) k = putAt (fun x y => lt (g x) (g y)) l b k
  | 0, _ => rfl
  | k + 1, h => by
    have e : (l.map g).getD k default = g (l.getD k default) := by simp [show k < l.length by omega]
    unfold putAt
    rw [e, putAt_map (by omega)]
theorem putF_map {l : List α} {b : α} : putF lt (l.map g) (g b) = (putF (fun x y => lt (g x) (g y)) l b).map g := by
  unfold putF
  rw [List.length_map, putAt_map (Nat.le_refl _), List.map_append, List.map_cons, List.map_take, List.map_drop]
theorem sortF_map {l : List α} : sortF lt (l.map g) = (sortF (fun x y => lt (g x) (g y)) l).map g := by
  have gen : ∀ (l a : List α), (l.map g).foldl (putF lt) (a.map g) = (l.foldl (putF fun x y => lt (g x) (g y)) a).map g := by
    intro l
    induction l with
    | nil => intro a; rfl
    | cons x l ih => intro a; rw [List.map_cons, List.foldl_cons, List.foldl_cons, putF_map, ih]
  exact gen l []
end

variable {Dm : D → Prop} {lt : D → D → Bool} {xs : List D}

theorem put_lx (hw : Swo Dm lt) (hx : ∀ y ∈ xs, Dm y) {l : List Nat} {k : Nat} (hk : k < xs.length) (hl : l.Pairwise (Lx lt xs)) (hlt : ∀ i ∈ l, i < k) :
    (putF (fun i j => lt (xs.getD i default) (xs.getD j default)) l k).Pairwise (Lx lt xs) := by
  obtain ⟨ltx, hltx⟩ : ∃ ltx, ltx = fun i j : Nat => lt (xs.getD i default) (xs.getD j default) := ⟨_, rfl⟩
  rw [← hltx]
  unfold putF
  obtain ⟨p, hp⟩ : ∃ p, p = putAt ltx l k l.length := ⟨_, rfl⟩
  have hle : p ≤ l.length := by rw [hp]; exact putAt_le _ _ _ _
  rw [← hp]
  have hsp : (l.take p ++ l.drop p).Pairwise (Lx lt xs) := by rw [List.take_append_drop]; exact hl
  rw [List.pairwise_append] at hsp ⊢
  obtain ⟨h1, h2, h3⟩ := hsp
  have hkd : ∀ j ∈ l.drop p, Lx lt xs k j := fun j hj => by
    obtain ⟨i, hi⟩ := List.getElem?_of_mem hj
    rw [List.getElem?_drop] at hi
    have hil : p + i < l.length := by
      rcases Nat.lt_or_ge (p + i) l.length with h | h
      · exact h
      · rw [List.getElem?_eq_none h] at hi; cases hi
    have := putAt_hi (lt := ltx) (l := l) (b := k) (k := l.length) (j := p + i) (by omega) hil
    rw [List.getD_eq_getElem?_getD, hi, hltx] at this
    exact .inl this
  have htk : ∀ j ∈ l.take p, Lx lt xs j k := fun j hj => by
    rcases Nat.eq_zero_or_pos p with hz | hpos
    · rw [hz] at hj; simp at hj
    have hq : p - 1 < l.length := by omega
    have hlo := putAt_lo (lt := ltx) (l := l) (b := k) (k := l.length) (by omega)
    rw [← hp] at hlo
    have eq : l.getD (p - 1) default = l[p - 1] := by simp [hq]
    rw [eq, hltx] at hlo
    have hlast : Lx lt xs l[p - 1] k := .inr ⟨hlo, hlt _ (List.getElem_mem hq)⟩
    obtain ⟨i, hi⟩ := List.getElem?_of_mem hj
    have hip : i < p := by
      rcases Nat.lt_or_ge i p with h | h
      · exact h
      · rw [List.getElem?_eq_none (by simp; omega)] at hi; cases hi
    rw [List.getElem?_take_of_lt hip, List.getElem?_eq_getElem (by omega)] at hi
    simp only [Option.some.injEq] at hi
    by_cases e : i = p - 1
    · subst e; rw [← hi]; exact hlast
    · have hL : Lx lt xs l[i] l[p - 1] := List.pairwise_iff_getElem.1 hl i (p - 1) (by omega) hq (by omega)
      rw [← hi]
      have b1 := hlt _ (List.getElem_mem (l := l) (n := i) (by omega))
      have b2 := hlt _ (List.getElem_mem hq)
      exact Lx.trans hw hx (by omega) (by omega) hk hL hlast
  refine ⟨h1, List.pairwise_cons.2 ⟨hkd, h2⟩, fun a ha b hb => ?_⟩
  rcases List.mem_cons.1 hb with rfl | hb
  · exact htk a ha
  · exact h3 a ha b hb

theorem idx_sorted (hw : Swo Dm lt) (hx : ∀ y ∈ xs, Dm y) : ∀ n, n ≤ xs.length → (sortF (fun i j => lt (xs.getD i default) (xs.getD j default)) (List.range n)).Pairwise (Lx lt xs) ∧ ∀ i, i ∈ sortF (fun i j => lt (xs.getD i default) (xs.getD j default)) (List.range n) ↔ i < n
  | 0, _ => ⟨List.Pairwise.nil, fun i => by simp [sortF]⟩
  | n + 1, h => by
    obtain ⟨h1, h2⟩ := idx_sorted hw hx n (by omega)
    rw [List.range_succ, sortF_snoc]
    refine ⟨put_lx hw hx (by omega) h1 fun i hi => (h2 i).1 hi, fun i => ?_⟩
    rw [putF_mem, h2]; omega

/-- what a stable sort of the first n elements leaves -/
theorem stabled_sortF (hw : Swo Dm lt) (hx : ∀ y ∈ xs, Dm y) {n : Nat} (hn : n ≤ xs.length) {zs : List D} {ρ : Nat → Nat} (hA : Arr Dm xs zs ρ) (hB : Blo lt xs 0 n ρ) (hid : ∀ p, n ≤ p → ρ p = p) :
    zs = sortF lt (xs.take n) ++ xs.drop n := by
  obtain ⟨h1, h2⟩ := idx_sorted hw hx n hn
  have hp := places_unique hw hx hB hn h1 h2
  have e1 : xs.take n = (List.range n).map fun i => xs.getD i default := by
    apply List.ext_getElem
    · simp; omega
    · intro i h3 h4
      simp only [List.length_take] at h3
      simp [show i < xs.length by omega]
  have e2 : sortF lt (xs.take n) = zs.take n := by
    rw [e1, sortF_map, ← hp]
    apply List.ext_getElem
    · simp [places, hA.len]; omega
    · intro i h3 h4
      simp only [places, List.length_map, List.length_range] at h3
      have := hA.get i (by omega)
      simp only [places, List.getElem_map, List.getElem_range, List.getElem_take]
      rw [← this]; simp [show i < zs.length by have := hA.len; omega]
  have e3 : xs.drop n = zs.drop n := by
    apply List.ext_getElem
    · simp [hA.len]
    · intro i h3 h4
      simp only [List.length_drop] at h3
      have := hA.get (n + i) (by omega)
      rw [hid _ (by omega)] at this
      have hl := hA.len
      simp only [List.getElem_drop]
      simp [show n + i < xs.length by omega, show n + i < zs.length by omega] at this
      exact this.symm
  rw [e2, e3, List.take_append_drop]
end Go.AM
