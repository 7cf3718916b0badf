/-
  The shape of a type's cells, computed; what a datum of the type looks like.
-/
import Derived.Test.YtgebmgahfpnjaaaAmL
import Derived.Test.YtgebmgahfpnjaaaAmX
set_option linter.unnecessarySimpa false
set_option linter.unusedSectionVars false
set_option linter.unusedSimpArgs false
set_option linter.unusedVariables false
namespace Go.AM

inductive Cel where
  | bool
  | int (k : IntKind)
  | str
  | sl (cs : List Cel) (agg : Bool)

mutual
def Conf : Cel → D → Prop
  | .bool, d => ∃ b, d = .bool b
  | .int k, d => ∃ i, d = .int k i ∧ (Lit.int k i).wf = true
  | .str, d => ∃ s, d = .str s ∧ s.length ≤ maxLen
  | .sl cs g, d => ∃ xs, d = .sl xs ∧ xs.length ≤ maxLen ∧ ∀ x ∈ xs, ConfL cs x.cells ∧ x.isAgg = g
def ConfL : List Cel → List D → Prop
  | [], ds => ds = []
  | c :: r, ds => ∃ d r', ds = d :: r' ∧ Conf c d ∧ ConfL r r'
end

theorem ConfL.append : ∀ {a b : List Cel} {x y : List D}, ConfL a x → ConfL b y → ConfL (a ++ b) (x ++ y)
  | [], b, x, y, h1, h2 => by
    simp only [ConfL] at h1
    subst h1
    simpa using h2
  | c :: r, b, x, y, h1, h2 => by
    simp only [ConfL] at h1
    obtain ⟨d, r', rfl, h3, h4⟩ := h1
    simp only [List.cons_append, ConfL]
    exact ⟨d, r' ++ y, rfl, h3, h4.append h2⟩

def shapeF (f : TypeId → Option (List Cel)) : List Field → Option (List Cel)
  | [] => some []
  | x :: r => match f x.type, shapeF f r with
    | some a, some b => some (a ++ b)
    | _, _ => none
def shapeOf (P : Program) : Nat → TypeId → Option (List Cel)
  | 0, _ => none
  | n + 1, t => match P.underlying t with
    | some .bool => some [.bool]
    | some (.int k) => some [.int k]
    | some .string => some [.str]
    | some (.slice e) => match shapeOf P n e with
      | some cs => some [.sl cs ((tkind P e).getD false)]
      | none => none
    | some (.struct fs) => shapeF (shapeOf P n) fs.toList
    | _ => none

theorem conf_of {P : Program} : ∀ {n : Nat} {t : TypeId} {cs : List Cel} {ds : List D}, shapeOf P n t = some cs → TypedD P n t ds → ConfL cs ds
  | 0, t, cs, ds, h, _ => by cases h
  | n + 1, t, cs, ds, h, ht => by
    simp only [TypedD] at ht
    unfold shapeOf at h
    cases hu : P.underlying t with
    | none => rw [hu] at ht; exact ht.elim
    | some td =>
      rw [hu] at ht h
      cases td <;> simp only at ht h <;> try (exact ht.elim)
      · obtain ⟨b, rfl⟩ := ht
        cases h
        exact ⟨_, [], rfl, ⟨b, rfl⟩, rfl⟩
      · obtain ⟨i, rfl, hw⟩ := ht
        cases h
        exact ⟨_, [], rfl, ⟨i, rfl, hw⟩, rfl⟩
      · obtain ⟨s, rfl, hs⟩ := ht
        cases h
        exact ⟨_, [], rfl, ⟨s, rfl, hs⟩, rfl⟩
      · obtain ⟨xs, rfl, hx, hxs⟩ := ht
        rename_i e
        cases hs : shapeOf P n e with
        | none => rw [hs] at h; cases h
        | some cs' =>
          rw [hs] at h
          cases h
          exact ⟨_, [], rfl, ⟨xs, rfl, hx, fun x hm => ⟨conf_of hs (hxs x hm).1, (hxs x hm).2.2⟩⟩, rfl⟩
      · rename_i fs
        have gen : ∀ (l : List Field) (cs : List Cel) (ds : List D), shapeF (shapeOf P n) l = some cs → fieldsD P (TypedD P n) l ds → ConfL cs ds := by
          intro l
          induction l with
          | nil =>
            intro cs ds h1 h2
            cases h1
            simp only [fieldsD] at h2
            exact h2
          | cons x r ih =>
            intro cs ds h1 h2
            simp only [fieldsD] at h2
            obtain ⟨a, b, rfl, _, h3, h4⟩ := h2
            simp only [shapeF] at h1
            split at h1
            · rename_i p q hp hq
              cases h1
              exact (conf_of hp h3).append (ih q b hq h4)
            · cases h1
        exact gen _ _ _ h ht

theorem list_of {α : Type} {f : α → D} : ∀ {xs : List D}, (∀ x ∈ xs, ∃ a, x = f a) → ∃ l : List α, xs = l.map f
  | [], _ => ⟨[], rfl⟩
  | x :: r, h => by
    obtain ⟨a, rfl⟩ := h x List.mem_cons_self
    obtain ⟨l, rfl⟩ := list_of fun y hy => h y (List.mem_cons_of_mem _ hy)
    exact ⟨a :: l, rfl⟩
theorem list_ofP {α : Type} {f : α → D} {p : α → Prop} : ∀ {xs : List D}, (∀ x ∈ xs, ∃ a, x = f a ∧ p a) → ∃ l : List α, xs = l.map f ∧ ∀ a ∈ l, p a
  | [], _ => ⟨[], rfl, fun a ha => by cases ha⟩
  | x :: r, h => by
    obtain ⟨a, rfl, ha⟩ := h x List.mem_cons_self
    obtain ⟨l, rfl, hl⟩ := list_ofP fun y hy => h y (List.mem_cons_of_mem _ hy)
    exact ⟨a :: l, rfl, fun b hb => by
      rcases List.mem_cons.1 hb with rfl | hb
      · exact ha
      · exact hl b hb⟩
/-- one cell -/
theorem one_of {c : Cel} {x : D} (h : ConfL [c] x.cells) (hg : x.isAgg = false) : Conf c x := by
  obtain ⟨d, r, h1, h2, h3⟩ := h
  have hc : x.cells = [x] := by cases x <;> first | rfl | (simp [D.isAgg] at hg)
  simp only [ConfL] at h3
  subst h3
  rw [hc] at h1
  simp only [List.cons.injEq, and_true] at h1
  rw [h1]; exact h2
theorem strs_of {xs : List D} (h : ∀ x ∈ xs, ConfL [.str] x.cells ∧ x.isAgg = false) : ∃ l : List (List UInt8), xs = l.map .str :=
  list_of fun x hx => by
    obtain ⟨s, hs, _⟩ := one_of (h x hx).1 (h x hx).2
    exact ⟨s, hs⟩
theorem agg_of {x : D} {l : List D} (hg : x.isAgg = true) (h : x.cells = l) : x = .agg l := by
  cases x <;> simp_all [D.isAgg, D.cells]
/-- a parameter -/
theorem param_of {P : Program} {n : Nat} {t : TypeId} {x : D} {cs : List Cel} {g : Bool} (h : TypedV P n t x) (hs : shapeOf P n t = some cs) (hk : (tkind P t).getD false = g) : ConfL cs x.cells ∧ x.isAgg = g := ⟨conf_of hs h.1, h.2.trans hk⟩
theorem param1_of {P : Program} {n : Nat} {t : TypeId} {x : D} {c : Cel} (h : TypedV P n t x) (hs : shapeOf P n t = some [c]) (hk : (tkind P t).getD false = false) : Conf c x := one_of (conf_of hs h.1) (h.2.trans hk)
end Go.AM
