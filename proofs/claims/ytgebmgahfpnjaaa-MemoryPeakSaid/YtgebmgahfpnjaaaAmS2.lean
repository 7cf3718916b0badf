/-
  Merging in place, in plain Lean: what the steps of the merge do to the order.
-/
import Derived.Test.YtgebmgahfpnjaaaAmS
set_option linter.unnecessarySimpa false
set_option linter.unusedSectionVars false
set_option linter.unusedSimpArgs false
set_option linter.unusedVariables false
namespace Go.AM
variable {Dm : D → Prop} {lt : D → D → Bool} {xs : List D} {π ρ κ : Nat → Nat} {a m b : Nat}

def Sorted (lt : D → D → Bool) (xs : List D) (a b : Nat) (π : Nat → Nat) : Prop := ∀ p q, a ≤ p → p < q → q < b → Lx lt xs (π p) (π q)
/-- the places lie in the list, and their numbers rise -/
def Rising (a b : Nat) (π : Nat → Nat) : Prop := ∀ p q, a ≤ p → p < q → q < b → π p < π q
/-- what stands ahead of m came ahead of what stands from m on -/
def Tags (a m b : Nat) (π : Nat → Nat) : Prop := ∀ p q, a ≤ p → p < m → m ≤ q → q < b → π p < π q

theorem merge_one_left (hm : m = a + 1) {i : Nat} (h1 : m ≤ i) (h2 : i ≤ b) (hS : Sorted lt xs m b π) (hL : ∀ q, m ≤ q → q < i → Lx lt xs (π q) (π a)) (hR : ∀ q, i ≤ q → q < b → Lx lt xs (π a) (π q))
    (k1 : ∀ p, a ≤ p → p < i - 1 → κ p = π (p + 1)) (k2 : κ (i - 1) = π a) (k3 : ∀ p, p < a ∨ i ≤ p → κ p = π p) : Mv a b π κ ∧ Sorted lt xs a b κ := by
  refine ⟨⟨fun p hp => k3 p (by omega), fun p p1 p2 => ?_⟩, fun p q h3 h4 h5 => ?_⟩
  · rcases Nat.lt_trichotomy p (i - 1) with h | h | h
    · exact ⟨p + 1, by omega, by omega, k1 p p1 h⟩
    · exact ⟨a, by omega, by omega, by rw [h, k2]⟩
    · exact ⟨p, p1, p2, k3 p (by omega)⟩
  · rcases Nat.lt_trichotomy q (i - 1) with h | h | h
    · rw [k1 p h3 (by omega), k1 q (by omega) h]; exact hS _ _ (by omega) (by omega) (by omega)
    · rw [k1 p h3 (by omega), h, k2]; exact hL _ (by omega) (by omega)
    · rw [k3 q (by omega)]
      rcases Nat.lt_trichotomy p (i - 1) with h' | h' | h'
      · rw [k1 p h3 h']; exact hS _ _ (by omega) (by omega) (by omega)
      · rw [h', k2]; exact hR q (by omega) h5
      · rw [k3 p (by omega)]; exact hS _ _ (by omega) h4 h5

theorem merge_one_right (hm : b = m + 1) {i : Nat} (h1 : a ≤ i) (h2 : i ≤ m) (hS : Sorted lt xs a m π) (hL : ∀ q, a ≤ q → q < i → Lx lt xs (π q) (π m)) (hR : ∀ q, i ≤ q → q < m → Lx lt xs (π m) (π q))
    (k1 : ∀ p, i < p → p ≤ m → κ p = π (p - 1)) (k2 : κ i = π m) (k3 : ∀ p, p < i ∨ m < p → κ p = π p) : Mv a b π κ ∧ Sorted lt xs a b κ := by
  refine ⟨⟨fun p hp => k3 p (by omega), fun p p1 p2 => ?_⟩, fun p q h3 h4 h5 => ?_⟩
  · rcases Nat.lt_trichotomy p i with h | h | h
    · exact ⟨p, p1, p2, k3 p (by omega)⟩
    · exact ⟨m, by omega, by omega, by rw [h, k2]⟩
    · exact ⟨p - 1, by omega, by omega, k1 p h (by omega)⟩
  · rcases Nat.lt_trichotomy p i with h | h | h
    · rw [k3 p (.inl h)]
      rcases Nat.lt_trichotomy q i with h' | h' | h'
      · rw [k3 q (.inl h')]; exact hS _ _ h3 h4 (by omega)
      · rw [h', k2]; exact hL p h3 h
      · rw [k1 q h' (by omega)]; exact hS _ _ h3 (by omega) (by omega)
    · rw [h, k2, k1 q (by omega) (by omega)]; exact hR _ (by omega) (by omega)
    · rw [k1 p h (by omega), k1 q (by omega) (by omega)]; exact hS _ _ (by omega) (by omega) (by omega)

/-- the turn in the middle: the lesser ones ahead of 'mid', the others behind -/
theorem merge_turn {s e d : Nat} (h1 : a ≤ s) (h2 : s ≤ m) (h3 : m ≤ e) (h4 : e ≤ b) (hd : d = s + (e - m)) (hS1 : Sorted lt xs a m π) (hS2 : Sorted lt xs m b π) (hT : Tags a m b π)
    (F1 : ∀ x y, a ≤ x → x < s → e ≤ y → y < b → Lx lt xs (π x) (π y)) (F2 : ∀ x y, m ≤ x → x < e → s ≤ y → y < m → Lx lt xs (π x) (π y))
    (hρ : ∀ p, a ≤ p → p < b → ρ p = π (rotI s m e p)) (ho : ∀ p, p < a ∨ b ≤ p → ρ p = π p) :
    Mv a b π ρ ∧ Sorted lt xs a s ρ ∧ Sorted lt xs s d ρ ∧ Sorted lt xs d e ρ ∧ Sorted lt xs e b ρ ∧ Tags a s d ρ ∧ Tags d e b ρ ∧ (∀ p q, a ≤ p → p < d → d ≤ q → q < b → Lx lt xs (ρ p) (ρ q)) := by
  have r1 : ∀ p, a ≤ p → p < s → ρ p = π p := fun p g1 g2 => by
    rw [hρ p g1 (by omega)]; congr 1; unfold rotI; rw [if_pos (by omega)]
  have r2 : ∀ p, s ≤ p → p < d → ρ p = π (p + (m - s)) := fun p g1 g2 => by
    rw [hρ p (by omega) (by omega)]; congr 1; unfold rotI; rw [if_neg (by omega), if_pos (by omega)]
  have r3 : ∀ p, d ≤ p → p < e → ρ p = π (p - (e - m)) := fun p g1 g2 => by
    rw [hρ p (by omega) (by omega)]; congr 1; unfold rotI; rw [if_neg (by omega), if_neg (by omega)]
  have r4 : ∀ p, e ≤ p → p < b → ρ p = π p := fun p g1 g2 => by
    rw [hρ p (by omega) (by omega)]; congr 1; unfold rotI; rw [if_pos (by omega)]
  refine ⟨⟨ho, fun p g1 g2 => ?_⟩, fun p q g1 g2 g3 => ?_, fun p q g1 g2 g3 => ?_, fun p q g1 g2 g3 => ?_, fun p q g1 g2 g3 => ?_, fun p q g1 g2 g3 g4 => ?_, fun p q g1 g2 g3 g4 => ?_, fun p q g1 g2 g3 g4 => ?_⟩
  · by_cases c1 : p < s
    · exact ⟨p, g1, g2, r1 p g1 c1⟩
    · by_cases c2 : p < d
      · exact ⟨_, by omega, by omega, r2 p (by omega) c2⟩
      · by_cases c3 : p < e
        · exact ⟨_, by omega, by omega, r3 p (by omega) c3⟩
        · exact ⟨p, g1, g2, r4 p (by omega) g2⟩
  · rw [r1 p g1 (by omega), r1 q (by omega) g3]; exact hS1 _ _ g1 g2 (by omega)
  · rw [r2 p g1 (by omega), r2 q (by omega) g3]; exact hS2 _ _ (by omega) (by omega) (by omega)
  · rw [r3 p g1 (by omega), r3 q (by omega) g3]; exact hS1 _ _ (by omega) (by omega) (by omega)
  · rw [r4 p g1 (by omega), r4 q (by omega) g3]; exact hS2 _ _ (by omega) g2 g3
  · rw [r1 p g1 g2, r2 q g3 g4]; exact hT _ _ g1 (by omega) (by omega) (by omega)
  · rw [r3 p g1 g2, r4 q g3 g4]; exact hT _ _ (by omega) (by omega) (by omega) g4
  · by_cases c1 : p < s
    · rw [r1 p g1 c1]
      by_cases c3 : q < e
      · rw [r3 q g3 c3]; exact hS1 _ _ g1 (by omega) (by omega)
      · rw [r4 q (by omega) g4]; exact F1 _ _ g1 c1 (by omega) g4
    · rw [r2 p (by omega) g2]
      by_cases c3 : q < e
      · rw [r3 q g3 c3]; exact F2 _ _ (by omega) (by omega) (by omega) (by omega)
      · rw [r4 q (by omega) g4]; exact hS2 _ _ (by omega) (by omega) g4

theorem merge_join {d : Nat} {κ1 κ2 : Nat → Nat} (h1 : a ≤ d) (h2 : d ≤ b) (hM : Mv a b π ρ) (m1 : Mv a d ρ κ1) (s1 : Sorted lt xs a d κ1) (m2 : Mv d b κ1 κ2) (s2 : Sorted lt xs d b κ2)
    (hX : ∀ p q, a ≤ p → p < d → d ≤ q → q < b → Lx lt xs (ρ p) (ρ q)) : Mv a b π κ2 ∧ Sorted lt xs a b κ2 := by
  refine ⟨(hM.trans (m1.mono (Nat.le_refl _) h2)).trans (m2.mono h1 (Nat.le_refl _)), fun p q g1 g2 g3 => ?_⟩
  by_cases c1 : q < d
  · rw [m2.out p (by omega), m2.out q (by omega)]; exact s1 p q g1 g2 c1
  · by_cases c2 : p < d
    · rw [m2.out p (by omega)]
      obtain ⟨p', p1, p2, p3⟩ := m1.inn p g1 c2
      obtain ⟨q', q1, q2, q3⟩ := m2.inn q (by omega) g3
      rw [p3, q3, m1.out q' (by omega)]
      exact hX _ _ p1 p2 q1 q2
    · exact s2 p q (by omega) g2 g3

/-- where the search between the two halves ends: it told A(c) ('the c-th of the left goes ahead of the (p-c)-th of the right') for each c below s, and not from s on -/
theorem merge_found {p s s0 r0 e : Nat} (hw : Swo Dm lt) (hx : ∀ y ∈ xs, Dm y) (hπ : ∀ i, i < xs.length → π i < xs.length) (hb : b ≤ xs.length) (hS1 : Sorted lt xs a m π) (hS2 : Sorted lt xs m b π)
    (h1 : a ≤ s0) (h2 : s0 ≤ s) (h3 : s ≤ r0) (h4 : r0 ≤ m) (he : e = p + 1 - s) (hem : m ≤ e) (heb : e ≤ b) (hps : r0 ≤ p + 1)
    (hlo : s0 = a ∨ e = b ∨ s0 < s) (hhi : r0 = m ∨ e = m ∨ s < r0)
    (hA : s0 < s → Lx lt xs (π (s - 1)) (π (p - (s - 1)))) (hB : s < r0 → Lx lt xs (π (p - s)) (π s)) (hlo2 : s0 = s → s0 = a ∨ e = b) (hhi2 : s = r0 → r0 = m ∨ e = m) :
    (∀ x y, a ≤ x → x < s → e ≤ y → y < b → Lx lt xs (π x) (π y)) ∧ (∀ x y, m ≤ x → x < e → s ≤ y → y < m → Lx lt xs (π x) (π y)) := by
  constructor
  · intro x y g1 g2 g3 g4
    rcases Nat.lt_or_ge s0 s with c | c
    · have hh := hA c
      have e1 : p - (s - 1) = e := by omega
      rw [e1] at hh
      have t1 : x = s - 1 ∨ Lx lt xs (π x) (π (s - 1)) := by
        by_cases c' : x = s - 1
        · exact .inl c'
        · exact .inr (hS1 _ _ g1 (by omega) (by omega))
      have t2 : Lx lt xs (π x) (π e) := by
        rcases t1 with t1 | t1
        · rw [t1]; exact hh
        · exact Lx.trans hw hx (hπ _ (by omega)) (hπ _ (by omega)) (hπ _ (by omega)) t1 hh
      by_cases c' : y = e
      · rw [c']; exact t2
      · exact Lx.trans hw hx (hπ _ (by omega)) (hπ _ (by omega)) (hπ _ (by omega)) t2 (hS2 _ _ hem (by omega) g4)
    · rcases hlo2 (by omega) with h | h <;> omega
  · intro x y g1 g2 g3 g4
    rcases Nat.lt_or_ge s r0 with c | c
    · have hh := hB c
      have e1 : p - s = e - 1 := by omega
      rw [e1] at hh
      have t2 : Lx lt xs (π x) (π s) := by
        by_cases c' : x = e - 1
        · rw [c']; exact hh
        · exact Lx.trans hw hx (hπ _ (by omega)) (hπ _ (by omega)) (hπ _ (by omega)) (hS2 _ _ g1 (by omega) (by omega)) hh
      by_cases c' : y = s
      · rw [c']; exact t2
      · exact Lx.trans hw hx (hπ _ (by omega)) (hπ _ (by omega)) (hπ _ (by omega)) t2 (hS1 _ _ (by omega) (by omega) g4)
    · rcases hhi2 (by omega) with h | h <;> omega

/-- below a lesser one all are less -/
theorem less_down {c d h k : Nat} (hw : Swo Dm lt) (hx : ∀ y ∈ xs, Dm y) (hπ : ∀ i, i < xs.length → π i < xs.length) (hd : d ≤ xs.length) (hk : k < xs.length) (hS : Sorted lt xs c d π) (h1 : c ≤ h) (h2 : h < d) (hl : Lx lt xs (π h) k) : ∀ q, c ≤ q → q < h + 1 → Lx lt xs (π q) k := by
  intro q g1 g2
  by_cases e : q = h
  · rw [e]; exact hl
  · exact Lx.trans hw hx (hπ _ (by omega)) (hπ _ (by omega)) hk (hS _ _ g1 (by omega) h2) hl
theorem more_up {c d h k : Nat} (hw : Swo Dm lt) (hx : ∀ y ∈ xs, Dm y) (hπ : ∀ i, i < xs.length → π i < xs.length) (hd : d ≤ xs.length) (hk : k < xs.length) (hS : Sorted lt xs c d π) (h1 : c ≤ h) (h2 : h < d) (hl : Lx lt xs k (π h)) : ∀ q, h ≤ q → q < d → Lx lt xs k (π q) := by
  intro q g1 g2
  by_cases e : q = h
  · rw [e]; exact hl
  · exact Lx.trans hw hx hk (hπ _ (by omega)) (hπ _ (by omega)) hl (hS _ _ h1 (by omega) g2)
end Go.AM
