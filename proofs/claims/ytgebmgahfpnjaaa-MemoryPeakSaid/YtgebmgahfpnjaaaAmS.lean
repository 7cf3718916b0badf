/-
  Arrays whose elements are moved about: each is the old one read at other places.
-/
import Derived.Test.YtgebmgahfpnjaaaAm21
set_option linter.unnecessarySimpa false
set_option linter.unusedSectionVars false
set_option linter.unusedSimpArgs false
set_option linter.unusedVariables false
namespace Go.AM

def El (es : Nat) (x : D) : Prop := x.isAgg = true ∧ x.cells.length = es

structure Arr (Dm : D → Prop) (xs ys : List D) (π : Nat → Nat) : Prop where
  len : ys.length = xs.length
  el : ∀ y ∈ ys, Dm y
  get : ∀ i, i < xs.length → ys.getD i default = xs.getD (π i) default

theorem El.at {Dm : D → Prop} {es : Nat} (hD : ∀ x, Dm x → El es x) {ys : List D} (h : ∀ y ∈ ys, Dm y) {i : Nat} (hi : i < ys.length) : (ys.getD i default).isAgg = true ∧ (ys.getD i default).cells.length = es := by
  have : ys.getD i default = ys[i] := by simp [hi]
  rw [this]; exact hD _ (h _ (List.getElem_mem hi))

theorem Arr.refl {Dm : D → Prop} {xs : List D} (h : ∀ y ∈ xs, Dm y) : Arr Dm xs xs (fun i => i) := ⟨rfl, h, fun _ _ => rfl⟩

theorem Arr.congr {Dm : D → Prop} {xs ys : List D} {π ρ : Nat → Nat} (h : Arr Dm xs ys π) (e : ∀ i, i < xs.length → π i = ρ i) : Arr Dm xs ys ρ :=
  ⟨h.len, h.el, fun i hi => by rw [← e i hi]; exact h.get i hi⟩

theorem Arr.trans {Dm : D → Prop} {xs ys zs : List D} {π ρ : Nat → Nat} (h : Arr Dm xs ys π) (k : Arr Dm ys zs ρ) (hρ : ∀ i, i < xs.length → ρ i < xs.length) : Arr Dm xs zs (fun i => π (ρ i)) :=
  ⟨k.len.trans h.len, k.el, fun i hi => by rw [k.get i (by rw [h.len]; exact hi), h.get _ (hρ i hi)]⟩

theorem Arr.at {Dm : D → Prop} {xs ys : List D} {π : Nat → Nat} (h : Arr Dm xs ys π) {i : Nat} (hi : i < xs.length) : Dm (ys.getD i default) := by
  have hl := h.len
  have : ys.getD i default = ys[i]'(by omega) := by simp [show i < ys.length by omega]
  rw [this]; exact h.el _ (List.getElem_mem _)

/-- two elements exchanged -/
theorem Arr.swap {Dm : D → Prop} {xs ys : List D} {π : Nat → Nat} (h : Arr Dm xs ys π) {i j : Nat} (hi : i < xs.length) (hj : j < xs.length) :
    Arr Dm xs ((ys.set i (ys.getD j default)).set j (ys.getD i default)) (fun p => if p = j then π i else if p = i then π j else π p) := by
  have hl := h.len
  have mem : ∀ k, k < xs.length → ys.getD k default ∈ ys := fun k hk => by
    have : ys.getD k default = ys[k]'(by omega) := by simp [show k < ys.length by omega]
    rw [this]; exact List.getElem_mem _
  refine ⟨by simp [hl], fun y hy => ?_, fun p hp => ?_⟩
  · rcases List.mem_or_eq_of_mem_set hy with hy | rfl
    · rcases List.mem_or_eq_of_mem_set hy with hy | rfl
      · exact h.el y hy
      · exact h.el _ (mem j hj)
    · exact h.el _ (mem i hi)
  · rw [List.getD_eq_getElem?_getD, List.getElem?_set]
    by_cases e1 : j = p
    · subst e1
      rw [if_pos rfl, if_pos (by simp [hl]; exact hj), if_pos rfl]
      simp only [Option.getD_some]
      exact h.get i hi
    · rw [if_neg e1, if_neg (fun e => e1 e.symm), List.getElem?_set]
      by_cases e2 : i = p
      · subst e2
        rw [if_pos rfl, if_pos (by omega), if_pos rfl]
        simp only [Option.getD_some]
        exact h.get j hj
      · rw [if_neg e2, if_neg (fun e => e2 e.symm), ← List.getD_eq_getElem?_getD]
        exact h.get p hp

/-- the places that swapRange exchanges -/
def swapI (a b k i : Nat) : Nat := if a ≤ i ∧ i < a + k then b + (i - a) else if b ≤ i ∧ i < b + k then a + (i - b) else i
theorem swapI_step (a b k i : Nat) (h : a + (k + 1) ≤ b ∨ b + (k + 1) ≤ a) : (if i = b + k then swapI a b k (a + k) else if i = a + k then swapI a b k (b + k) else swapI a b k i) = swapI a b (k + 1) i := by
  unfold swapI
  repeat' split
  all_goals omega
/-- the places that rotate reads: [a, b) turned so that m comes to a -/
def rotI (a m b i : Nat) : Nat := if i < a ∨ b ≤ i then i else if i < a + (b - m) then i + (m - a) else i - (b - m)

/-- the elements of [a, b) moved about among themselves -/
structure Mv (a b : Nat) (π ρ : Nat → Nat) : Prop where
  out : ∀ p, p < a ∨ b ≤ p → ρ p = π p
  inn : ∀ p, a ≤ p → p < b → ∃ q, a ≤ q ∧ q < b ∧ ρ p = π q
theorem Mv.refl (a b : Nat) (π : Nat → Nat) : Mv a b π π := ⟨fun _ _ => rfl, fun p h1 h2 => ⟨p, h1, h2, rfl⟩⟩
theorem Mv.trans {a b : Nat} {π ρ τ : Nat → Nat} (h : Mv a b π ρ) (k : Mv a b ρ τ) : Mv a b π τ :=
  ⟨fun p hp => (k.out p hp).trans (h.out p hp), fun p h1 h2 => by
    obtain ⟨q, q1, q2, q3⟩ := k.inn p h1 h2
    obtain ⟨r, r1, r2, r3⟩ := h.inn q q1 q2
    exact ⟨r, r1, r2, q3.trans r3⟩⟩
theorem Mv.mono {a b c d : Nat} {π ρ : Nat → Nat} (h : Mv a b π ρ) (h1 : c ≤ a) (h2 : b ≤ d) : Mv c d π ρ :=
  ⟨fun p hp => h.out p (by omega), fun p p1 p2 => by
    by_cases hp : a ≤ p ∧ p < b
    · obtain ⟨q, q1, q2, q3⟩ := h.inn p hp.1 hp.2; exact ⟨q, by omega, by omega, q3⟩
    · exact ⟨p, p1, p2, h.out p (by omega)⟩⟩

theorem Mv.bound {a b N : Nat} {π ρ : Nat → Nat} (h : Mv a b π ρ) (hb : b ≤ N) (hπ : ∀ p, p < N → π p < N) : ∀ p, p < N → ρ p < N := fun p hp => by
  by_cases hq : a ≤ p ∧ p < b
  · obtain ⟨q, _, q2, q3⟩ := h.inn p hq.1 hq.2
    rw [q3]; exact hπ q (by omega)
  · rw [h.out p (by omega)]; exact hπ p hp

/-- a comparison that orders the elements weakly -/
structure Swo (Dm : D → Prop) (lt : D → D → Bool) : Prop where
  irr : ∀ x, Dm x → lt x x = false
  trans : ∀ x y z, Dm x → Dm y → Dm z → lt x y = true → lt y z = true → lt x z = true
  neg : ∀ x y z, Dm x → Dm y → Dm z → lt x y = false → lt y z = false → lt x z = false

/-- before, or equal and of an earlier place -/
def Lx (lt : D → D → Bool) (xs : List D) (i j : Nat) : Prop := lt (xs.getD i default) (xs.getD j default) = true ∨ (lt (xs.getD j default) (xs.getD i default) = false ∧ i < j)

section
variable {Dm : D → Prop} {lt : D → D → Bool} {xs : List D}
theorem dm_at (hx : ∀ y ∈ xs, Dm y) {i : Nat} (hi : i < xs.length) : Dm (xs.getD i default) := (Arr.refl hx).at hi
theorem Lx.asymm (h : Swo Dm lt) (hx : ∀ y ∈ xs, Dm y) {i j : Nat} (hi : i < xs.length) (hj : j < xs.length) (h1 : Lx lt xs i j) (h2 : Lx lt xs j i) : False := by
  have di := dm_at hx hi
  have dj := dm_at hx hj
  rcases h1 with h1 | ⟨h1, l1⟩ <;> rcases h2 with h2 | ⟨h2, l2⟩
  · have := h.trans _ _ _ di dj di h1 h2
    rw [h.irr _ di] at this; cases this
  · rw [h1] at h2; cases h2
  · rw [h1] at h2; cases h2
  · omega
theorem Lx.total {i j : Nat} (hne : i ≠ j) : Lx lt xs i j ∨ Lx lt xs j i := by
  unfold Lx
  cases h1 : lt (xs.getD i default) (xs.getD j default) <;> cases h2 : lt (xs.getD j default) (xs.getD i default) <;> simp <;> omega
theorem Lx.trans (h : Swo Dm lt) (hx : ∀ y ∈ xs, Dm y) {i j k : Nat} (hi : i < xs.length) (hj : j < xs.length) (hk : k < xs.length) (h1 : Lx lt xs i j) (h2 : Lx lt xs j k) : Lx lt xs i k := by
  have di := dm_at hx hi
  have dj := dm_at hx hj
  have dk := dm_at hx hk
  unfold Lx at *
  cases e1 : lt (xs.getD i default) (xs.getD k default) with
  | true => exact .inl rfl
  | false =>
    right
    rcases h1 with h1 | ⟨h1, l1⟩ <;> rcases h2 with h2 | ⟨h2, l2⟩
    · rw [h.trans _ _ _ di dj dk h1 h2] at e1; cases e1
    · exfalso
      have := h.neg _ _ _ di dk dj e1 h2
      rw [h1] at this; cases this
    · exfalso
      have := h.neg _ _ _ dj di dk h1 e1
      rw [h2] at this; cases this
    · exact ⟨h.neg _ _ _ dk dj di h2 h1, by omega⟩
/-- a later one stands before an earlier one only if it is less -/
theorem Lx.tag {i j : Nat} (hij : j < i) : Lx lt xs i j ↔ lt (xs.getD i default) (xs.getD j default) = true := by
  unfold Lx
  constructor
  · rintro (h | ⟨_, h⟩)
    · exact h
    · omega
  · exact .inl
theorem Lx.tag' {i j : Nat} (hij : j < i) : Lx lt xs j i ↔ lt (xs.getD i default) (xs.getD j default) = false ∨ lt (xs.getD j default) (xs.getD i default) = true := by
  unfold Lx
  constructor
  · rintro (h | ⟨h, _⟩)
    · exact .inr h
    · exact .inl h
  · rintro (h | h)
    · exact .inr ⟨h, hij⟩
    · exact .inl h
end
end Go.AM
