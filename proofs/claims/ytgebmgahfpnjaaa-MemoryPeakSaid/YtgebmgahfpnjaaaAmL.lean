/-
  From a law's arguments, as the statement reads them, to data; and back from a contract to the statement.
-/
import Derived.Test.YtgebmgahfpnjaaaAm21
import Derived.Carry
import Derived.ProofKit
set_option linter.unnecessarySimpa false
set_option linter.unusedSectionVars false
set_option linter.unusedSimpArgs false
set_option linter.unusedVariables false
namespace Go.AM
open Go.RowKit Go.ChangeShapes Go.WideShapes

/-- made of booleans, integers, strings, slices and structs alone; fields one behind the other -/
def tiled (P : Program) : List Field → Nat → Option Nat
  | [], o => some o
  | f :: r, o => if f.offset = o then tiled P r (o + P.cellsOf f.type) else none
def dataTy (P : Program) : Nat → TypeId → Bool
  | 0, _ => false
  | n + 1, t => match P.underlying t with
    | some .bool => true
    | some (.int _) => true
    | some .string => true
    | some (.slice e) => decide (0 < P.cellsOf e) && dataTy P n e
    | some (.struct fs) => (tiled P fs.toList 0 == some (P.cellsOf t)) && fs.toList.all fun f => dataTy P n f.type
    | _ => false

def fieldsD (P : Program) (T : TypeId → List D → Prop) : List Field → List D → Prop
  | [], ds => ds = []
  | f :: r, ds => ∃ a b, ds = a ++ b ∧ a.length = P.cellsOf f.type ∧ T f.type a ∧ fieldsD P T r b
/-- the cells ds are a datum of the type t -/
def TypedD (P : Program) : Nat → TypeId → List D → Prop
  | 0, _, _ => False
  | n + 1, t, ds => match P.underlying t with
    | some .bool => ∃ b, ds = [.bool b]
    | some (.int k) => ∃ i, ds = [.int k i] ∧ (Lit.int k i).wf = true
    | some .string => ∃ s, ds = [.str s] ∧ s.length ≤ maxLen
    | some (.slice e) => ∃ xs, ds = [.sl xs] ∧ xs.length ≤ maxLen ∧ ∀ x ∈ xs, TypedD P n e x.cells ∧ x.cells.length = P.cellsOf e ∧ x.isAgg = (tkind P e).getD false
    | some (.struct fs) => fieldsD P (TypedD P n) fs.toList ds
    | _ => False

variable {H : Type} {enc : TypeId × Value → H} {P : Program} {w : World} {I : Im} {spare : Nat → Bool} {held : Bool} {base : Nat}

/-- the cells vs hold the data ds -/
structure CellsAre (w : World) (I : Im) (vs : List Value) (ds : List D) : Prop where
  len : ds.length = vs.length
  rep : ∀ (j : Nat) (v : Value) (x : D), vs[j]? = some v → ds[j]? = some x → RepD w I v x
  one : ∀ x ∈ ds, x.one = true

theorem CellsAre.single {v : Value} {x : D} (h : RepD w I v x) (ho : x.one = true) : CellsAre w I [v] [x] :=
  ⟨rfl, fun j v' x' hv hx => by
    cases j with
    | zero => simp at hv hx; subst hv; subst hx; exact h
    | succ j => simp at hv, fun y hy => by simp at hy; subst hy; exact ho⟩
theorem CellsAre.append {vs us : List Value} {ds es : List D} (h : CellsAre w I vs ds) (k : CellsAre w I us es) : CellsAre w I (vs ++ us) (ds ++ es) := by
  refine ⟨by simp [h.len, k.len], fun j v x hv hx => ?_, fun x hx => ?_⟩
  · rcases Nat.lt_or_ge j vs.length with hj | hj
    · rw [List.getElem?_append_left hj] at hv
      rw [List.getElem?_append_left (by rw [h.len]; exact hj)] at hx
      exact h.rep j v x hv hx
    · rw [List.getElem?_append_right hj] at hv
      rw [List.getElem?_append_right (by rw [h.len]; exact hj), h.len] at hx
      exact k.rep _ v x hv hx
  · rcases List.mem_append.1 hx with hx | hx
    · exact h.one x hx
    · exact k.one x hx

theorem mapM_some {α β : Type} {f : α → Option β} : ∀ {l : List α} {r : List β}, l.mapM f = some r → ∀ x ∈ l, ∃ y, f x = some y
  | [], _, _, x, hx => by simp at hx
  | a :: l, r, h, x, hx => by
    rw [List.mapM_cons] at h
    cases ha : f a with
    | none => rw [ha] at h; simp at h
    | some b =>
      rw [ha] at h
      cases hl : l.mapM f with
      | none => rw [hl] at h; simp at h
      | some r' =>
        rcases List.mem_cons.1 hx with rfl | hx
        · exact ⟨b, ha⟩
        · exact mapM_some hl x hx

theorem fields_read {n fuel : Nat} {cs : List Value} (ih : ∀ {t : TypeId} {cs : List Value} {x : DataW H × List MemPlace}, dataTy P n t = true → DataW.trod enc P w base spare held fuel t cs = some x → ∃ ds, CellsAre w I cs ds ∧ TypedD P n t ds) :
    ∀ (fs : List Field) (o : Nat), tiled P fs o = some cs.length → o ≤ cs.length → (∀ f ∈ fs, dataTy P n f.type = true) → (∀ f ∈ fs, ∃ y, DataW.trod enc P w base spare held fuel f.type ((cs.drop f.offset).take (P.cellsOf f.type)) = some y) →
      ∃ ds, CellsAre w I (cs.drop o) ds ∧ fieldsD P (TypedD P n) fs ds
  | [], o, ht, _, _, _ => by
    simp only [tiled, Option.some.injEq] at ht
    subst ht
    exact ⟨[], ⟨by simp, fun j v x hv => by simp at hv, fun x hx => by simp at hx⟩, rfl⟩
  | f :: r, o, ht, hle, hd, hr => by
    simp only [tiled] at ht
    split at ht
    · rename_i ho
      obtain ⟨y, hy⟩ := hr f (by simp)
      obtain ⟨da, h1, h2⟩ := ih (hd f (by simp)) hy
      have hb : o + P.cellsOf f.type ≤ cs.length := by
        have mono : ∀ (l : List Field) (a b : Nat), tiled P l a = some b → a ≤ b := by
          intro l
          induction l with
          | nil => intro a b h; simp only [tiled, Option.some.injEq] at h; omega
          | cons g l ihl =>
            intro a b h
            simp only [tiled] at h
            split at h
            · have := ihl _ _ h; omega
            · cases h
        exact mono _ _ _ ht
      obtain ⟨db, h3, h4⟩ := fields_read ih r (o + P.cellsOf f.type) ht hb (fun g hg => hd g (by simp [hg])) (fun g hg => hr g (by simp [hg]))
      rw [ho] at h1
      have e : cs.drop o = (cs.drop o).take (P.cellsOf f.type) ++ cs.drop (o + P.cellsOf f.type) := by
        rw [← List.drop_drop, List.take_append_drop]
      refine ⟨da ++ db, by rw [e]; exact h1.append h3, da, db, rfl, ?_, h2, h4⟩
      rw [h1.len, List.length_take, List.length_drop]; omega
    · cases ht

theorem cells_at {a : Addr} {k : Nat} {vs : List Value} (h : w.cells? base a k = some vs) : vs.length = k ∧ ∀ j, j < k → w.cell? (a.add j) = vs[j]? := by
  unfold World.cells? at h
  split at h
  · have gen : ∀ (l : List Nat) (vs : List Value), (l.mapM (fun i => w.cell? (a.add i)) : Option (List Value)) = some vs → vs.length = l.length ∧ ∀ (j i : Nat), l[j]? = some i → w.cell? (a.add i) = vs[j]? := by
      intro l
      induction l with
      | nil => intro vs h; simp at h; subst h; exact ⟨rfl, fun j i hj => by simp at hj⟩
      | cons x l ih =>
        intro vs h
        rw [List.mapM_cons] at h
        cases hx : w.cell? (a.add x) with
        | none => rw [hx] at h; simp at h
        | some v =>
          rw [hx] at h
          cases hl : l.mapM (fun i => w.cell? (a.add i)) with
          | none => rw [hl] at h; simp at h
          | some r =>
            rw [hl] at h
            simp at h
            subst h
            obtain ⟨i1, i2⟩ := ih r hl
            refine ⟨by simp [i1], fun j i hj => ?_⟩
            cases j with
            | zero => simp at hj; subst hj; simpa using hx
            | succ j => simpa using i2 j i (by simpa using hj)
    obtain ⟨g1, g2⟩ := gen _ _ h
    exact ⟨by simpa using g1, fun j hj => g2 j j (by simp [hj])⟩
  · cases h

theorem cell_lt {a : Addr} {v : Value} (h : w.cell? a = some v) : a.block < w.heap.size ∧ a.spot = none := by
  unfold World.cell? at h
  split at h
  · rename_i c _ _ hc
    split at h
    · cases h
    · rename_i hs
      refine ⟨?_, by simpa using hs⟩
      rcases Nat.lt_or_ge a.block w.heap.size with h' | h'
      · exact h'
      · rw [Array.getElem?_eq_none h'] at hc; cases hc
  · cases h

theorem typed_shape {n : Nat} {e : TypeId} {ds : List D} (h : TypedD P n e ds) (hk : (tkind P e).getD false = false) : ∃ x, ds = [x] ∧ x.isAgg = false := by
  cases n with
  | zero => exact h.elim
  | succ n =>
    simp only [TypedD] at h
    unfold tkind at hk
    cases hu : P.underlying e with
    | none => rw [hu] at h; exact h.elim
    | some td =>
      rw [hu] at h hk
      cases td <;> simp only at h hk
      all_goals first
        | exact h.elim
        | (obtain ⟨x, rfl⟩ := h; exact ⟨_, rfl, rfl⟩)
        | (obtain ⟨x, rfl, _⟩ := h; exact ⟨_, rfl, rfl⟩)
        | (simp at hk)

theorem add_add {a : Addr} (hs : a.spot = none) (i j : Nat) : (a.add i).add j = ⟨a.block, a.off + i + j, none⟩ := by
  obtain ⟨b, o, sp⟩ := a
  simp only at hs
  subst hs
  unfold Addr.add
  by_cases hi : i = 0 <;> by_cases hj : j = 0 <;> simp [hi, hj]

theorem read_slice (hI : ∀ b, b < w.heap.size → I.rd b) {n : Nat} {e : TypeId} {a : Addr} {len cap : Nat} (he : 0 < P.cellsOf e) (hlc : len ≤ cap) (hcm : cap ≤ maxLen)
    (hel : ∀ i, i < len → ∃ (vs : List Value) (ds : List D), vs.length = P.cellsOf e ∧ (∀ j, j < P.cellsOf e → w.cell? ((a.add (i * P.cellsOf e)).add j) = vs[j]?) ∧ CellsAre w I vs ds ∧ TypedD P n e ds) :
    ∃ xs, RepD w I (.slice (some a) len cap) (.sl xs) ∧ xs.length ≤ maxLen ∧ ∀ x ∈ xs, TypedD P n e x.cells ∧ x.cells.length = P.cellsOf e ∧ x.isAgg = (tkind P e).getD false := by
  rcases Nat.eq_zero_or_pos len with hz | hpos
  · subst hz
    exact ⟨[], .nil _ _, by simp, fun x hx => by simp at hx⟩
  have hel2 : ∀ i, ∃ (vs : List Value) (x : D), i < len → (vs.length = P.cellsOf e ∧ (∀ j, j < P.cellsOf e → w.cell? ((a.add (i * P.cellsOf e)).add j) = vs[j]?) ∧ CellsAre w I vs x.cells ∧ TypedD P n e x.cells ∧ x.isAgg = (tkind P e).getD false) := fun i => by
    by_cases hi : i < len
    · obtain ⟨vs, ds, h1, h2, h3, h4⟩ := hel i hi
      cases hk : (tkind P e).getD false with
      | true => exact ⟨vs, .agg ds, fun _ => ⟨h1, h2, h3, h4, rfl⟩⟩
      | false =>
        obtain ⟨x, rfl, hx⟩ := typed_shape h4 hk
        have hc : x.cells = [x] := by cases x <;> first | rfl | (simp [D.isAgg] at hx)
        exact ⟨vs, x, fun _ => ⟨h1, h2, by rw [hc]; exact h3, by rw [hc]; exact h4, hx⟩⟩
    · exact ⟨[], default, fun h => absurd h hi⟩
  let vsOf : Nat → List Value := fun i => Classical.choose (hel2 i)
  let xOf : Nat → D := fun i => Classical.choose (Classical.choose_spec (hel2 i))
  have hsp : ∀ i, i < len → (vsOf i).length = P.cellsOf e ∧ (∀ j, j < P.cellsOf e → w.cell? ((a.add (i * P.cellsOf e)).add j) = (vsOf i)[j]?) ∧ CellsAre w I (vsOf i) (xOf i).cells ∧ TypedD P n e (xOf i).cells ∧ (xOf i).isAgg = (tkind P e).getD false :=
    fun i hi => Classical.choose_spec (Classical.choose_spec (hel2 i)) hi
  have h0 := (hsp 0 hpos).2.1 0 he
  have hp0 : 0 < (vsOf 0).length := by rw [(hsp 0 hpos).1]; exact he
  have hv0 : (vsOf 0)[0]? = some ((vsOf 0)[0]'hp0) := List.getElem?_eq_getElem hp0
  rw [hv0] at h0
  have ha : a.spot = none ∧ a.block < w.heap.size := by
    have := cell_lt h0
    simp only [Nat.zero_mul, Addr.add, if_true] at this
    exact ⟨this.2, this.1⟩
  let xs := (List.range len).map xOf
  have hlen : xs.length = len := by simp [xs]
  have hget : ∀ (i : Nat) (x : D), xs[i]? = some x → i < len ∧ x = xOf i := fun i x hx => by
    have hi : i < len := by
      rcases Nat.lt_or_ge i len with h | h
      · exact h
      · rw [List.getElem?_eq_none (by omega)] at hx; cases hx
    refine ⟨hi, ?_⟩
    simp only [xs, List.getElem?_map, List.getElem?_range hi, Option.map_some, Option.some.injEq] at hx
    exact hx.symm
  have hmem : ∀ x ∈ xs, ∃ i, i < len ∧ x = xOf i := fun x hx => by
    obtain ⟨i, hi, rfl⟩ := List.mem_map.1 hx
    exact ⟨i, List.mem_range.1 hi, rfl⟩
  refine ⟨xs, ?_, by omega, fun x hx => ?_⟩
  · have hv : (Value.slice (some a) len cap) = .slice (some ⟨a.block, a.off, none⟩) xs.length cap := by
      rw [hlen]
      obtain ⟨b, o, sp⟩ := a
      simp only at ha
      rw [ha.1]
    rw [hv]
    refine .sl a.block a.off (P.cellsOf e) cap xs (fun i j => (vsOf i).getD j Go.undef) (hI _ ha.2) (by omega) (fun x hx => ?_) (fun x hx => ?_) (fun i j hi hj => ?_) (fun i j x y hx hy => ?_)
    · obtain ⟨i, hi, rfl⟩ := hmem x hx
      have := (hsp i hi).2.2.1.len
      rw [this, (hsp i hi).1]
    · obtain ⟨i, hi, rfl⟩ := hmem x hx
      exact (hsp i hi).2.2.1.one
    · obtain ⟨g1, g2, _⟩ := hsp i (by omega)
      have := g2 j hj
      rw [add_add ha.1] at this
      rw [this]
      have hj' : j < (vsOf i).length := by rw [g1]; exact hj
      have : (vsOf i)[j]? = some ((vsOf i)[j]'hj') := List.getElem?_eq_getElem hj'
      rw [this, List.getD_eq_getElem?_getD, this]; rfl
    · obtain ⟨hi, rfl⟩ := hget i x hx
      obtain ⟨g1, g2, g3, _⟩ := hsp i hi
      have hj : j < (vsOf i).length := by
        rw [← g3.len]
        rcases Nat.lt_or_ge j (xOf i).cells.length with h | h
        · exact h
        · rw [List.getElem?_eq_none h] at hy; cases hy
      have hvj : (vsOf i)[j]? = some (vsOf i)[j] := List.getElem?_eq_getElem hj
      have := g3.rep j _ y hvj hy
      rw [List.getD_eq_getElem?_getD, hvj]; exact this
  · obtain ⟨i, hi, rfl⟩ := hmem x hx
    obtain ⟨g1, g2, g3, g4, g5⟩ := hsp i hi
    exact ⟨g4, by rw [g3.len, g1], g5⟩

theorem read_cells (hI : ∀ b, b < w.heap.size → I.rd b) : ∀ (n fuel : Nat) {t : TypeId} {cs : List Value} {x : DataW H × List MemPlace}, dataTy P n t = true → DataW.trod enc P w base spare held fuel t cs = some x → ∃ ds, CellsAre w I cs ds ∧ TypedD P n t ds := by
  intro n
  induction n with
  | zero => intro fuel t cs x hd; simp [dataTy] at hd
  | succ n ih =>
    intro fuel t cs x hd h
    cases fuel with
    | zero => simp [DataW.trod] at h
    | succ fuel =>
      simp only [dataTy] at hd
      simp only [TypedD]
      cases hu : P.underlying t with
      | none => rw [hu] at hd; cases hd
      | some td =>
        rw [hu] at hd
        simp only [DataW.trod, hu] at h
        cases td <;> simp only at hd <;> try (cases hd; done)
        · -- bool
          split at h <;> first
            | (rename_i b _; simp only [Option.some.injEq] at *; exact ⟨[.bool b], CellsAre.single (.bool b) rfl, b, rfl⟩)
            | (simp_all; done)
        · -- int
          rename_i k
          split at h <;> first
            | (simp_all; done)
            | skip
          rename_i k1 k2 i heq
          cases heq
          split at h
          · rename_i hw
            obtain ⟨rfl, hw⟩ := hw
            exact ⟨[.int _ i], CellsAre.single (.int _ i) rfl, i, rfl, hw⟩
          · cases h
        · -- string
          split at h <;> first
            | (simp_all; done)
            | skip
          rename_i s heq
          split at h
          · rename_i hs
            refine ⟨[.str s.data.toList], CellsAre.single ?_ rfl, s.data.toList, rfl, by simpa using hs⟩
            have : s = ⟨s.data.toList.toArray⟩ := by cases s; simp
            rw [this]
            exact .str _
          · cases h
        · -- slice
          rename_i e
          simp only [Bool.and_eq_true, decide_eq_true_eq] at hd
          split at h <;> first
            | (simp_all; done)
            | skip
          · exact ⟨[.sl []], CellsAre.single (.nil none 0) rfl, [], rfl, by simp, fun x hx => by simp at hx⟩
          · rename_i e' a len cap heq
            cases heq
            split at h
            · rename_i hb
              rw [Option.bind_eq_some_iff] at h
              obtain ⟨els, hels, _⟩ := h
              have hall := mapM_some hels
              have hel : ∀ i, i < len → ∃ (vs : List Value) (ds : List D), vs.length = P.cellsOf e ∧ (∀ j, j < P.cellsOf e → w.cell? ((a.add (i * P.cellsOf e)).add j) = vs[j]?) ∧ CellsAre w I vs ds ∧ TypedD P n e ds := fun i hi => by
                obtain ⟨y, hy⟩ := hall i (List.mem_range.2 hi)
                rw [Option.bind_eq_some_iff] at hy
                obtain ⟨vs, h1, h2⟩ := hy
                obtain ⟨h3, h4⟩ := cells_at h1
                obtain ⟨ds, h5, h6⟩ := ih fuel hd.2 h2
                exact ⟨vs, ds, h3, h4, h5, h6⟩
              obtain ⟨xs, r1, r2, r3⟩ := read_slice hI hd.1 hb.2.1 hb.2.2 hel
              exact ⟨[.sl xs], CellsAre.single r1 rfl, xs, rfl, r2, r3⟩
            · cases h
        · -- struct
          rename_i fs
          simp only [Bool.and_eq_true, beq_iff_eq, List.all_eq_true] at hd
          split at h <;> first
            | (simp_all; done)
            | skip
          rename_i fs' heq
          cases heq
          split at h
          · rename_i hl
            rw [Option.map_eq_some_iff] at h
            obtain ⟨xs, hxs, _⟩ := h
            obtain ⟨ds, h1, h2⟩ := fields_read (I := I) (fun {t cs x} h1 h2 => ih fuel h1 h2) fs.toList 0 (by rw [hl]; exact hd.1) (Nat.zero_le _) (fun f hf => hd.2 f hf) (fun f hf => mapM_some hxs f hf)
            exact ⟨ds, by simpa using h1, h2⟩
          · cases h

/-- a value of a type is a datum -/
def datumOf (P : Program) (t : TypeId) (ds : List D) : D := if (tkind P t).getD false = true then .agg ds else ds.getD 0 default
def TypedV (P : Program) (n : Nat) (t : TypeId) (x : D) : Prop := TypedD P n t x.cells ∧ x.isAgg = (tkind P t).getD false

theorem read_value (hI : ∀ b, b < w.heap.size → I.rd b) {n : Nat} {t : TypeId} {v : Value} {d : DataW H} {ps : List MemPlace} (hd : dataTy P n t = true) (hok : Value.okWide P w .any base t v)
    (h : DataW.Trod enc P w 0 spare held t v d ps) : ∃ x, RepD w I v x ∧ TypedV P n t x := by
  obtain ⟨fuel, h⟩ := h
  obtain ⟨ds, h1, h2⟩ := read_cells hI n fuel hd h
  unfold TypedV
  cases hk : (tkind P t).getD false with
  | true =>
    have : ∃ cs, v = .agg cs := by
      unfold Value.okWide at hok
      unfold tkind at hk
      split at hok
      · obtain ⟨cs, e, _⟩ := hok; exact ⟨cs, e⟩
      · obtain ⟨cs, e, _⟩ := hok; exact ⟨cs, e⟩
      · rename_i hns hna
        cases hu : P.underlying t with
        | none => rw [hu] at hk; simp at hk
        | some td =>
          rw [hu] at hk
          cases td <;> simp at hk
          all_goals first | exact absurd hu (hns _) | exact absurd hu (hna _ _)
    obtain ⟨cs, rfl⟩ := this
    refine ⟨.agg ds, ?_, h2, rfl⟩
    have e : (Value.agg cs).cells.toList = cs.toList := rfl
    rw [e] at h1
    have := RepD.agg (w := w) (I := I) cs.toList ds h1.len.symm h1.one h1.rep
    simpa using this
  | false =>
    obtain ⟨x, rfl, hx⟩ := typed_shape h2 hk
    have hc : x.cells = [x] := by cases x <;> first | rfl | (simp [D.isAgg] at hx)
    refine ⟨x, ?_, by rw [hc]; exact h2, hx⟩
    have hl := h1.len
    have : v.cells.toList = [v] := by
      cases v <;> first | rfl | skip
      rename_i cs
      exfalso
      unfold Value.okWide Cell.okWide Cell.ok at hok
      unfold tkind at hk
      cases hu : P.underlying t with
      | none => rw [hu] at hok; exact hok
      | some td =>
        rw [hu] at hk hok
        cases td <;> simp at hk hok
    rw [this] at h1
    exact h1.rep 0 v x rfl rfl

def TypedAll (P : Program) (n : Nat) : List TypeId → List D → Prop
  | [], xs => xs = []
  | t :: ts, xs => ∃ x r, xs = x :: r ∧ TypedV P n t x ∧ TypedAll P n ts r

theorem read_all (hI : ∀ b, b < w.heap.size → I.rd b) {n : Nat} : ∀ (ts : List TypeId) (vs : List Value) (ds : List (DataW H)) (ps : List MemPlace), (∀ t ∈ ts, dataTy P n t = true) →
    (∀ (j : Nat) t v, ts[j]? = some t → vs[j]? = some v → Value.okWide P w .any base t v) → DataW.TrodAll enc P w 0 spare held ts vs ds ps →
    ∃ xs : List D, TypedAll P n ts xs ∧ vs.length = xs.length ∧ ds.length = ts.length ∧ ∀ (i : Nat) (v : Value) (x : D), vs[i]? = some v → xs[i]? = some x → RepD w I v x
  | [], vs, ds, ps, _, _, h => by
    cases vs <;> cases ds <;> simp only [DataW.TrodAll] at h
    exact ⟨[], rfl, rfl, rfl, fun i v x hv => by simp at hv⟩
  | t :: ts, vs, ds, ps, hd, hok, h => by
    cases vs <;> cases ds <;> simp only [DataW.TrodAll] at h
    rename_i v vs d ds
    obtain ⟨p, q, h1, h2, _⟩ := h
    obtain ⟨x, r1, r2⟩ := read_value hI (hd t (by simp)) (hok 0 t v rfl rfl) h1
    obtain ⟨xs, r3, r4, r5, r6⟩ := read_all hI ts vs ds q (fun t ht => hd t (by simp [ht])) (fun j t v h1 h2 => hok (j + 1) t v (by simpa using h1) (by simpa using h2)) h2
    refine ⟨x :: xs, ⟨x, xs, rfl, r2, r3⟩, by simp [r4], by simp [r5], fun i u y hu hy => ?_⟩
    cases i with
    | zero => simp at hu hy; subst hu; subst hy; exact r1
    | succ i => exact r6 i u y (by simpa using hu) (by simpa using hy)

theorem trodAll_below {w' : World} (hl : laidOutB P = true) (hb : Below w.heap.size w w') : ∀ (ts : List TypeId) (vs : List Value) (ds : List (DataW H)) (ps : List MemPlace), (∀ t ∈ ts, P.readableRec t = true ∧ t < P.types.size) →
    DataW.TrodAll enc P w 0 (fun _ => true) true ts vs ds ps → (∀ x ∈ ps, x.block < w.heap.size) → DataW.TrodAll enc P w' 0 (fun b => decide (b < w.heap.size)) true ts vs ds ps
  | [], vs, ds, ps, _, h, _ => by
    cases vs <;> cases ds <;> simp only [DataW.TrodAll] at h ⊢
    exact h
  | t :: ts, vs, ds, ps, ht, h, hlt => by
    cases vs <;> cases ds <;> simp only [DataW.TrodAll] at h ⊢
    obtain ⟨p, q, h1, h2, rfl⟩ := h
    have h3 := ht t (by simp)
    exact ⟨p, q, Below.trod hl h3.1 h3.2 h1 hb fun x hx => hlt x (List.mem_append.2 (.inl hx)), trodAll_below hl hb ts _ _ q (fun t h => ht t (by simp [h])) h2 fun x hx => hlt x (List.mem_append.2 (.inr hx)), rfl⟩

theorem Keep.below {m : Nat} {w' : World} {I' : Im} {μ μ' : Pos} {σ σ' : Sto} (hI : ∀ b, b < w.heap.size → I.fr b) (k : Keep m w I μ σ w' I' μ' σ') : Below w.heap.size w w' :=
  ⟨k.os, k.tape, k.output, k.size, fun b hb => k.same b (hI b hb)⟩

/-- A LAW: for data of its parameters' types it returns true. -/
theorem law_contract {fn : Func} {c : Code} {s : ChangeSpec} {f : FuncId} {n : Nat} {tb : TypeId} {apart fresh handsOn : Bool}
    (hf : P.funcs[f]? = some fn) (hname : (fn.name == "runtime.NumGoroutine") = false) (hb : fn.body = some c)
    (hty : (fn.params.toList.all fun t => dataTy P n t && P.readableRec t && decide (t < P.types.size)) = true) (hlaid : laidOutB P = true)
    (hres : fn.resultTypes = #[tb]) (htb : P.underlying tb = some .bool) (hvars : s.vars = [])
    (hspec : ∀ (H : Type) (ds : List (DataW H)), ds.length = fn.params.size → s.fn H ds = { results := [.lit (.bool true)], args := ds })
    (hmain : ∀ xs, TypedAll P n fn.params.toList xs → ACalls P [] f (xs.map AV.d) [] (fun r _ => r = .d (.bool true)))
    (W : World) (base : Nat) (args : Array Value) (ds gs : List (DataW H)) (before : List MemPlace)
    (hval : ∀ (j : Nat) t v, fn.params[j]? = some t → args[j]? = some v → Value.okWide P W .any base t v)
    (hW : DataW.Whole enc P fn.params.toList s.vars apart W args.toList ds gs before) :
    Calls P f args W fun e W' => ∃ v, e = .returned v ∧ s.post enc P fn apart fresh handsOn false W args v W' := by
  have hlt := hW.lt
  have hW' := hW
  obtain ⟨p, q, hA, hV, rfl, _, _⟩ := hW
  rw [hvars] at hV
  obtain ⟨rfl, rfl⟩ := trodVars_none hV
  simp only [List.all_eq_true, Bool.and_eq_true, decide_eq_true_eq] at hty
  let I : Im := { rd := fun b => b < W.heap.size, fr := fun b => b < W.heap.size, sub := fun _ h => h }
  obtain ⟨xs, h1, h2, h3, h4⟩ := read_all (I := I) (fun _ h => h) fn.params.toList args.toList ds p (fun t ht => (hty t ht).1.1) (fun j t v ht hv => hval j t v (by simpa using ht) (by simpa using hv)) hA
  have hm := hmain xs h1 W I (fun _ => none) args.toList ⟨fun _ h => h, fun id hid => absurd hid (Nat.not_lt_zero _), fun i j b b' o o' _ _ _ h => by cases h⟩ (fun p hp => by cases hp) (by simp [h2]) (fun i v u hv hu => by
    rw [List.getElem?_map] at hu
    cases hx : xs[i]? with
    | none => rw [hx] at hu; cases hu
    | some x =>
      rw [hx] at hu
      simp only [Option.map_some, Option.some.injEq] at hu
      subst hu
      exact .d v x (h4 i v x hv hx))
  have e : (callFunc f args.toList.toArray).run P W = .ok (.enter f args) W := by
    have hne : ¬ fn.name = "runtime.NumGoroutine" := by simpa using hname
    simp [callFunc, hf, hb, hne]
  rw [e] at hm
  refine hm.2.mono fun x W' ⟨v, hx, r, σ', I', μ', q1, q2, q3, q4⟩ => ?_
  subst hx
  subst q4
  have hv : v = .bool true := by
    have := q3.inv_d
    cases this; rfl
  subst hv
  have hbel : Below W.heap.size W W' := q2.below (fun _ h => h)
  have hlen : (ds ++ []).length = fn.params.size := by simp [h3]
  refine ⟨_, rfl, ds, [], p ++ [], [], p, [], hW', ?_, ?_, ?_, ?_, fun h => by cases h⟩
  · rw [hspec _ _ hlen, hres]
    exact trodAll_mk1 (shut_bool htb true)
  · rw [hspec _ _ hlen]
    simp only [List.append_nil]
    exact trodAll_below hlaid hbel _ _ _ _ (fun t ht => ⟨(hty t ht).1.2, (hty t ht).2⟩) hA (by simpa using hlt)
  · rw [hspec _ _ hlen, hvars]
    exact rfl
  · exact hbel.frame _
end Go.AM
