/-
  The operations run, ninth part: slice literals, make, min and max, conversions of numbers.
-/
import Derived.Test.YtgebmgahfpnjaaaAm11
set_option linter.unnecessarySimpa false
set_option linter.unusedSectionVars false
set_option linter.unusedSimpArgs false
set_option linter.unusedVariables false
namespace Go.AM

variable {P : Program} {w : World} {I : Im} {μ : Pos} {σ : Sto}

/-! ### min, max -/
def minL : List AV → Int → Int
  | [], a => a
  | x :: r, a => minL r (if x.num < a then x.num else a)
def maxL : List AV → Int → Int
  | [], a => a
  | x :: r, a => maxL r (if x.num > a then x.num else a)
def kindOf : AV → IntKind
  | .d (.int k _) => k
  | _ => .i64
def minmaxOk : List AV → Prop
  | [] => False
  | x :: r => x.isIntv = true ∧ ∀ y ∈ r, y.isIntv = true
def minV : List AV → AV
  | [] => .undef
  | x :: r => .d (.int (kindOf x) (minL r x.num))
def maxV : List AV → AV
  | [] => .undef
  | x :: r => .d (.int (kindOf x) (maxL r x.num))

theorem int_rep' {v : Value} {u : AV} (hv : RepV w I μ σ v u) (hi : u.isIntv = true) : v = .int (kindOf u) u.num := by
  cases u with
  | d x =>
    have := hv.inv_d
    cases this <;> simp_all [AV.isIntv, AV.num, kindOf]
  | _ => simp [AV.isIntv] at hi

theorem run_minL (k : IntKind) : ∀ (vs : List Value) (us : List AV) (a : Int), vs.length = us.length → (∀ u ∈ us, u.isIntv = true) → (∀ (i : Nat) (v : Value) (u : AV), vs[i]? = some v → us[i]? = some u → RepV w I μ σ v u) →
    (vs.foldlM Builtin.min2 (.int k a)).run P w = .ok (.int k (minL us a)) w
  | [], us, a, hl, _, _ => by cases us <;> simp_all [minL]
  | v :: vs, us, a, hl, hi, hr => by
    cases us with
    | nil => simp at hl
    | cons u us =>
      have e := int_rep' (hr 0 v u rfl rfl) (hi u List.mem_cons_self)
      subst e
      simp only [List.foldlM_cons, Builtin.min2, Sem.run_bind, Sem.run_pure, Result.andThen_ok, minL]
      exact run_minL k vs us _ (by simpa using hl) (fun y hy => hi y (List.mem_cons_of_mem _ hy)) fun i v u hv hu => hr (i + 1) v u hv hu
theorem run_maxL (k : IntKind) : ∀ (vs : List Value) (us : List AV) (a : Int), vs.length = us.length → (∀ u ∈ us, u.isIntv = true) → (∀ (i : Nat) (v : Value) (u : AV), vs[i]? = some v → us[i]? = some u → RepV w I μ σ v u) →
    (vs.foldlM Builtin.max2 (.int k a)).run P w = .ok (.int k (maxL us a)) w
  | [], us, a, hl, _, _ => by cases us <;> simp_all [maxL]
  | v :: vs, us, a, hl, hi, hr => by
    cases us with
    | nil => simp at hl
    | cons u us =>
      have e := int_rep' (hr 0 v u rfl rfl) (hi u List.mem_cons_self)
      subst e
      simp only [List.foldlM_cons, Builtin.max2, Sem.run_bind, Sem.run_pure, Result.andThen_ok, maxL]
      exact run_maxL k vs us _ (by simpa using hl) (fun y hy => hi y (List.mem_cons_of_mem _ hy)) fun i v u hv hu => hr (i + 1) v u hv hu

theorem min_goes {ts : Array TypeId} {ty : TypeId} {vs : Array Value} {us : List AV} (hl : vs.size = us.length) (hr : ∀ (i : Nat) (v : Value) (u : AV), vs[i]? = some v → us[i]? = some u → RepV w I μ σ v u) (ho : minmaxOk us) :
    ∃ z, (Builtin.min_ ts ty vs).run P w = .ok z w ∧ RepV w I μ σ z (minV us) := by
  obtain ⟨vs⟩ := vs
  cases us with
  | nil => exact ho.elim
  | cons u us =>
    cases vs with
    | nil => simp at hl
    | cons v vs =>
      have e := int_rep' (hr 0 v u rfl rfl) ho.1
      subst e
      exact ⟨_, run_minL (kindOf u) vs us u.num (by simpa using hl) ho.2 (fun i v u hv hu => hr (i + 1) v u (by simpa using hv) hu), .d _ _ (.int _ _)⟩
theorem max_goes {ts : Array TypeId} {ty : TypeId} {vs : Array Value} {us : List AV} (hl : vs.size = us.length) (hr : ∀ (i : Nat) (v : Value) (u : AV), vs[i]? = some v → us[i]? = some u → RepV w I μ σ v u) (ho : minmaxOk us) :
    ∃ z, (Builtin.max_ ts ty vs).run P w = .ok z w ∧ RepV w I μ σ z (maxV us) := by
  obtain ⟨vs⟩ := vs
  cases us with
  | nil => exact ho.elim
  | cons u us =>
    cases vs with
    | nil => simp at hl
    | cons v vs =>
      have e := int_rep' (hr 0 v u rfl rfl) ho.1
      subst e
      exact ⟨_, run_maxL (kindOf u) vs us u.num (by simpa using hl) ho.2 (fun i v u hv hu => hr (i + 1) v u (by simpa using hv) hu), .d _ _ (.int _ _)⟩

/-! ### conversions between integer kinds -/
def tintk (P : Program) (t : TypeId) : Option IntKind := match P.underlying t with | some (.int k) => some k | _ => none
theorem conv_goes {s t : TypeId} {k : IntKind} (hk : tintk P t = some k) (hs : (P.underlying s).isSome = true) {v : Value} {u : AV} (hv : RepV w I μ σ v u) (hi : u.isIntv = true) :
    ∃ z, (convert s t v).run P w = .ok z w ∧ RepV w I μ σ z (.d (.int k (k.wrap u.num))) := by
  have hu : P.underlying t = some (.int k) := by
    unfold tintk at hk
    split at hk
    · simp at hk; subst hk; assumption
    · cases hk
  obtain ⟨d, hd⟩ := Option.isSome_iff_exists.1 hs
  have e := int_rep' hv hi
  subst e
  refine ⟨.int k (k.wrap u.num), ?_, .d _ _ (.int _ _)⟩
  simp only [convert, Sem.run_bind, run_underlying hd, run_underlying hu, Result.andThen_ok]
  cases d <;> simp [Conv.intToInt]

/-! ### slice literals -/
def dataZero (P : Program) (t : TypeId) : Option D :=
  match tzero P t with
  | some z => if (constV z).isD [] then some ((constV z).toD []) else none
  | none => none

/-- the cells of an array of len elements of es cells each hold the elements xs -/
def rowIs (w : World) (I : Im) (len es : Nat) (c : Array Value) (xs : List D) : Prop :=
  c.size = len * es ∧ xs.length = len ∧ (∀ x ∈ xs, x.cells.length = es) ∧ (∀ x ∈ xs, x.flat) ∧ ∀ (i j : Nat) (x y : D), xs[i]? = some x → x.cells[j]? = some y → ∃ u, c[i * es + j]? = some u ∧ RepD w I u y

theorem rowIs_set {len es : Nat} {c : Array Value} {xs : List D} (h : rowIs w I len es c xs) {i : Nat} (hi : i < len) {v : Value} {x : D} (hv : RepD w I v x) (hx : x.cells.length = es) :
    rowIs w I len es (v.cells.zipIdx.foldl (fun cs (x : Value × Nat) => cs.setIfInBounds (i * es + x.2) x.1) c) (xs.set i x) := by
  obtain ⟨h1, h2, h3, h4, h5⟩ := h
  obtain ⟨vs, c1, c2, c3⟩ := cellsD_rep hv
  rw [hx] at c2
  have hb : i * es + es ≤ len * es := by
    have : (i + 1) * es ≤ len * es := Nat.mul_le_mul_right es hi
    rw [Nat.add_mul] at this; omega
  obtain ⟨f1, f2⟩ := fold_set (i * es) v.cells vs c1 c (by omega)
  refine ⟨by rw [f1]; exact h1, by simpa using h2, fun z hz => ?_, fun z hz => ?_, fun i' j z y hz hy => ?_⟩
  · rcases List.mem_or_eq_of_mem_set hz with hz | rfl
    · exact h3 z hz
    · exact hx
  · rcases List.mem_or_eq_of_mem_set hz with hz | rfl
    · exact h4 z hz
    · exact hv.flat
  · have hjlt : ∀ z : D, z.cells.length = es → z.cells[j]? = some y → j < es := fun z hz hy => by
      rcases Nat.lt_or_ge j z.cells.length with h' | h'
      · omega
      · rw [List.getElem?_eq_none h'] at hy; cases hy
    by_cases e : i = i'
    · subst e
      rw [List.getElem?_set_self (by omega)] at hz
      simp only [Option.some.injEq] at hz
      subst hz
      have hj := hjlt _ hx hy
      rw [f2, if_pos (by omega)]
      have : i * es + j - i * es = j := by omega
      rw [this]
      have hlt : j < vs.length := by omega
      refine ⟨vs[j], List.getElem?_eq_getElem hlt, ?_⟩
      have := (c3 j _ (List.getElem?_eq_getElem hlt)).1
      rwa [D.cell_of hy] at this
    · rw [List.getElem?_set_ne e] at hz
      have hj := hjlt z (h3 z (List.mem_of_getElem? hz)) hy
      obtain ⟨u, hu, hr⟩ := h5 i' j z y hz hy
      refine ⟨u, ?_, hr⟩
      rw [f2, if_neg, hu]
      intro ⟨ha, hb'⟩
      rw [c2] at hb'
      rcases Nat.lt_or_gt_of_ne e with hlt | hgt
      · have : (i + 1) * es ≤ i' * es := Nat.mul_le_mul_right es hlt
        rw [Nat.add_mul] at this; omega
      · have : (i' + 1) * es ≤ i * es := Nat.mul_le_mul_right es hgt
        rw [Nat.add_mul] at this; omega

def setParts (xs : List D) : List (Nat × D) → List D
  | [] => xs
  | (i, x) :: r => setParts (xs.set i x) r

theorem fill_row {len es : Nat} : ∀ {parts : List (Nat × D)} {vals : List (Nat × Value)} {c : Array Value} {xs : List D}, parts.map Prod.fst = vals.map Prod.fst → (∀ p ∈ parts, p.1 < len ∧ p.2.cells.length = es) →
    (∀ (k : Nat) (p : Nat × D) (q : Nat × Value), parts[k]? = some p → vals[k]? = some q → RepD w I q.2 p.2) → rowIs w I len es c xs →
    ∃ c', Instr.fill (fun i => some (i * es, es)) c vals = some c' ∧ rowIs w I len es c' (setParts xs parts)
  | [], vals, c, xs, hf, _, _, hc => by
    cases vals with
    | nil => exact ⟨c, rfl, hc⟩
    | cons _ _ => simp at hf
  | (i, x) :: parts, vals, c, xs, hf, hp, hr, hc => by
    cases vals with
    | nil => simp at hf
    | cons q vals =>
      obtain ⟨i', u⟩ := q
      simp only [List.map_cons, List.cons.injEq] at hf
      obtain ⟨rfl, hf⟩ := hf
      obtain ⟨p1, p2⟩ := hp (i, x) List.mem_cons_self
      have hv : RepD w I u x := hr 0 (i, x) (i, u) rfl rfl
      obtain ⟨vs, c1, c2, _⟩ := cellsD_rep hv
      have hsz : u.cells.size = es := by rw [c1]; simp only [List.size_toArray]; rw [c2]; exact p2
      obtain ⟨c', g1, g2⟩ := fill_row (parts := parts) (vals := vals) hf (fun p hp' => hp p (List.mem_cons_of_mem _ hp')) (fun k p q hk hq => hr (k + 1) p q hk hq) (rowIs_set hc p1 hv p2)
      refine ⟨c', ?_, g2⟩
      have hb : i * es + es ≤ len * es := by
        have : (i + 1) * es ≤ len * es := Nat.mul_le_mul_right es p1
        rw [Nat.add_mul] at this; omega
      simp only [Instr.fill, hsz]
      rw [if_neg]
      · exact g1
      · simp only [ne_eq, not_true_eq_false, decide_false, Bool.false_or, decide_eq_true_eq]
        rw [hc.1]; omega

theorem rowIs_zero {e : TypeId} {z : Value} {x : D} (h : dataZero P e = some x) (hz : tzero P e = some z) (len es : Nat) (hes : z.cells.size = es) :
    rowIs w I len es ((Array.range (len * es)).map (z.cells[· % z.cells.size]!)) (List.replicate len x) ∧ x.cells.length = es ∧ RepD w I z x := by
  unfold dataZero at h
  rw [hz] at h
  simp only at h
  split at h
  · rename_i hd
    simp only [Option.some.injEq] at h
    have hrel : Rel w ⟨fun _ => False, fun _ => False, fun _ h => h⟩ (fun _ => none) [] := ⟨fun _ h => h.elim, fun id hid => by simp at hid, fun i j b b' o o' _ hi => by simp [blkAt, Blk.own] at hi⟩
    have hr0 : RepD w ⟨fun _ => False, fun _ => False, fun _ h => h⟩ z ((constV z).toD []) := toD_rep' hrel (constV_rep z) hd (fun id hid => by simp [blkAt, Blk.own])
    rw [h] at hr0
    have hr : RepD w I z x := hr0.keep (fun _ (h : False) => h.elim) (fun _ _ => rfl)
    obtain ⟨vs, c1, c2, c3⟩ := cellsD_rep hr
    have hxl : x.cells.length = es := by rw [← c2, ← hes, c1]; simp
    refine ⟨⟨by simp, by simp, fun y hy => ?_, fun y hy => ?_, fun i j y y' hy hy' => ?_⟩, hxl, hr⟩
    · rw [List.eq_of_mem_replicate hy]; exact hxl
    · rw [List.eq_of_mem_replicate hy]; exact hr.flat
    · have hi : i < len := by
        rcases Nat.lt_or_ge i len with h' | h'
        · exact h'
        · rw [List.getElem?_eq_none (by simpa using h')] at hy; cases hy
      rw [List.getElem?_replicate, if_pos hi] at hy
      simp only [Option.some.injEq] at hy
      subst hy
      have hj : j < es := by
        rcases Nat.lt_or_ge j x.cells.length with h' | h'
        · omega
        · rw [List.getElem?_eq_none h'] at hy'; cases hy'
      have hq : i * es + j < len * es := by
        have : (i + 1) * es ≤ len * es := Nat.mul_le_mul_right es hi
        rw [Nat.add_mul] at this; omega
      have hjv : j < vs.length := by omega
      refine ⟨vs[j], ?_, ?_⟩
      · simp only [Array.getElem?_map, Array.getElem?_range, hq, if_true, Option.map_some]
        have e1 : (i * es + j) % es = j := by rw [Nat.mul_comm, Nat.mul_add_mod]; exact Nat.mod_eq_of_lt hj
        rw [hes, e1, c1]
        simp [hjv]
      · have := (c3 j _ (List.getElem?_eq_getElem hjv)).1
        rwa [D.cell_of hy'] at this
  · cases h

def bslOk (P : Program) (σ : Sto) (t : TypeId) (len : Nat) (parts : List (Nat × AV)) : Prop :=
  match telem P t with
  | some e => match tsz P e, dataZero P e, tzero P e with
    | some es, some _, some z => 0 < es ∧ z.cells.size = es ∧ 0 < len ∧ len * es ≤ 16777216 ∧ ∀ p ∈ parts, p.1 < len ∧ p.2.isD σ = true ∧ (p.2.toD σ).cells.length = es
    | _, _, _ => False
  | none => False
def bslX (P : Program) (σ : Sto) (t : TypeId) (len : Nat) (parts : List (Nat × AV)) : List D :=
  match telem P t with
  | some e => match dataZero P e with
    | some x => setParts (List.replicate len x) (parts.map fun p => (p.1, p.2.toD σ))
    | none => []
  | none => []
def bslS (P : Program) (σ : Sto) (t : TypeId) (len : Nat) (parts : List (Nat × AV)) : Sto :=
  freezeL σ (parts.flatMap fun p => p.2.refs) ++ [.arr (apEs P t) (bslX P σ t len parts)]

theorem buildSlice_goes (h : Rel w I μ σ) {t : TypeId} {len : Nat} {parts : List (Nat × AV)} {vals : Array (Nat × Value)} (hf : parts.map Prod.fst = vals.toList.map Prod.fst)
    (hr : ∀ (k : Nat) (p : Nat × AV) (q : Nat × Value), parts[k]? = some p → vals.toList[k]? = some q → RepV w I μ σ q.2 p.2) (ho : bslOk P σ t len parts) :
    ∃ z w' I' μ', (Instr.buildSlice t len vals).run P w = .ok z w' ∧ Rel w' I' μ' (bslS P σ t len parts) ∧ Keep σ.length w I μ σ w' I' μ' (bslS P σ t len parts) ∧ RepV w' I' μ' (bslS P σ t len parts) z (.osl σ.length 0 len) := by
  unfold bslOk at ho
  cases hte : telem P t with
  | none => rw [hte] at ho; exact ho.elim
  | some e =>
  rw [hte] at ho
  cases hz1 : tsz P e with
  | none => simp [hz1] at ho
  | some es =>
  cases hz2 : dataZero P e with
  | none => simp [hz1, hz2] at ho
  | some x0 =>
  cases hz3 : tzero P e with
  | none => simp [hz1, hz2, hz3] at ho
  | some zv =>
  simp only [hz1, hz2, hz3] at ho
  obtain ⟨hes, hzs, hlen, hsmall, hp⟩ := ho
  have hap : apEs P t = es := by unfold apEs; rw [hte]; simp [hz1]
  have hX : bslX P σ t len parts = setParts (List.replicate len x0) (parts.map fun p => (p.1, p.2.toD σ)) := by unfold bslX; rw [hte]; simp [hz2]
  unfold bslS
  rw [hap, hX]
  obtain ⟨I', r1, r2, r3, r4, r5, r6, r7, r8⟩ := freezeL_spec h (parts.flatMap fun p => p.2.refs)
  generalize hF : freezeL σ (parts.flatMap fun p => p.2.refs) = σ' at *
  have hrow := (rowIs_zero (w := w) (I := I') hz2 hz3 len es hzs).1
  obtain ⟨c', g1, g2⟩ := fill_row (w := w) (I := I') (len := len) (es := es) (parts := parts.map fun p => (p.1, p.2.toD σ)) (vals := vals.toList) (by rw [List.map_map]; exact hf) (fun q hq => by
      obtain ⟨p, hp1, rfl⟩ := List.mem_map.1 hq
      exact ⟨(hp p hp1).1, (hp p hp1).2.2⟩) (fun k q v hk hv => by
      rw [List.getElem?_map] at hk
      cases hpk : parts[k]? with
      | none => rw [hpk] at hk; cases hk
      | some p =>
        rw [hpk] at hk
        simp only [Option.map_some, Option.some.injEq] at hk
        subst hk
        have hm := List.mem_of_getElem? hpk
        have := toD_rep' r1 ((hr k p v hpk hv).keep r2) (by rw [isD_congr (fun id => (r5 id).2)]; exact (hp p hm).2.1) (fun id hid => r4 id (List.mem_flatMap.2 ⟨p, hm, hid⟩) (refs_isArr (hp p hm).2.1 id hid))
        rwa [toD_congr (fun id => (r5 id).1)] at this) hrow
  obtain ⟨i, hi, i1, i3⟩ : ∃ i, P.info? e = some i ∧ i.size = es ∧ i.zero = some zv := by
    unfold tsz at hz1; unfold tzero at hz3
    cases hi : P.info? e with
    | none => rw [hi] at hz1; cases hz1
    | some i => rw [hi] at hz1 hz3; simp at hz1 hz3; exact ⟨i, rfl, hz1, hz3⟩
  have hpos : ¬ len * es = 0 := Nat.ne_of_gt (Nat.mul_pos hlen hes)
  have hrun := run_buildSlice (P := P) w t e len vals c' i zv (telem_spec hte) hi i3 (by rw [i1]; omega) (by rw [i1]; exact hpos) (by rw [i1]; exact g1)
  obtain ⟨q1, q2, q3, q4, q5⟩ := g2
  have hnew := r1.newArr c' e es (setParts (List.replicate len x0) (parts.map fun p => (p.1, p.2.toD σ))) (by rw [q2, q1]; exact Nat.le_refl _) q3 q4 q5
  have hk := keep_alloc r1 (.cells c' e) (w.heap.size, 0) (.arr es (setParts (List.replicate len x0) (parts.map fun p => (p.1, p.2.toD σ))))
  refine ⟨_, _, I', _, hrun, hnew, ?_, ?_⟩
  · rw [r3] at hk ⊢; exact r2.trans hk
  · refine .osl _ _ _ _ (by rw [List.length_append, r3]; simp) (.inr ⟨w.heap.size, 0, es, len, fun _ => ?_, Nat.le_refl _, by simp⟩)
    have eb : blkAt (σ' ++ [.arr es (setParts (List.replicate len x0) (parts.map fun p => (p.1, p.2.toD σ)))]) σ.length = .arr es (setParts (List.replicate len x0) (parts.map fun p => (p.1, p.2.toD σ))) := by rw [← r3]; exact blkAt_append_new
    rw [eb]
    refine ⟨by rw [← r3]; exact posNew_self _ _ _, rfl, rfl, by simp [Blk.xs, q2], ?_⟩
    rw [blkSize_new, q1]; simp

/-- '[]T{}' -/
theorem buildSlice0_goes (h : Rel w I μ σ) {t e : TypeId} {es : Nat} (hte : telem P t = some e) (hz : tsz P e = some es) :
    ∃ z w' μ', (Instr.buildSlice t 0 #[]).run P w = .ok z w' ∧ Rel w' I μ' (σ ++ [.arr es []]) ∧ Keep σ.length w I μ σ w' I μ' (σ ++ [.arr es []]) ∧ RepV w' I μ' (σ ++ [.arr es []]) z (.osl σ.length 0 0) := by
  have hnew := h.newArr #[] e es [] (by simp) (fun x hx => by simp at hx) (fun x hx => by simp at hx) (fun i j x y hx => by simp at hx)
  have hk := keep_alloc h (.cells #[] e) (w.heap.size, 0) (.arr es [])
  refine ⟨.slice (some ⟨w.heap.size, 0, none⟩) 0 0, _, _, ?_, hnew, hk, .osl _ _ _ _ (by simp) (.inl ⟨rfl, _, rfl⟩)⟩
  simp [Instr.buildSlice, run_underlying (telem_spec hte), run_sizeOf' hz, Instr.fill, newRow, Array.range_zero']

/-! ### make -/
def mkOk (P : Program) (t : TypeId) (l c : AV) : Prop :=
  match telem P t with
  | some e => match tsz P e, tbytes P e, dataZero P e, tzero P e with
    | some es, some by_, some _, some z => z.cells.size = es ∧ l.isIntv = true ∧ c.isIntv = true ∧ 0 ≤ l.num ∧ l.num ≤ c.num ∧ (by_ : Int) * c.num ≤ 281474976710656 ∧ c.num ≤ 9223372036854775807
    | _, _, _, _ => False
  | none => False
def mkX (P : Program) (t : TypeId) (l : AV) : List D :=
  match telem P t with
  | some e => match dataZero P e with
    | some x => List.replicate l.num.toNat x
    | none => []
  | none => []
def mkS (P : Program) (σ : Sto) (t : TypeId) (l : AV) : Sto := σ ++ [.arr (apEs P t) (mkX P t l)]

theorem makeSlice_goes (h : Rel w I μ σ) {t : TypeId} {lv cv : Value} {l c : AV} (hl : RepV w I μ σ lv l) (hc : RepV w I μ σ cv c) (ho : mkOk P t l c) :
    ∃ z w' μ', (Instr.makeSlice t lv cv).run P w = .ok z w' ∧ Rel w' I μ' (mkS P σ t l) ∧ Keep σ.length w I μ σ w' I μ' (mkS P σ t l) ∧ RepV w' I μ' (mkS P σ t l) z (.osl σ.length 0 l.num.toNat) := by
  unfold mkOk at ho
  cases hte : telem P t with
  | none => rw [hte] at ho; exact ho.elim
  | some e =>
  rw [hte] at ho
  cases hz1 : tsz P e with
  | none => simp [hz1] at ho
  | some es =>
  cases hz4 : tbytes P e with
  | none => simp [hz1, hz4] at ho
  | some by_ =>
  cases hz2 : dataZero P e with
  | none => simp [hz1, hz4, hz2] at ho
  | some x0 =>
  cases hz3 : tzero P e with
  | none => simp [hz1, hz4, hz2, hz3] at ho
  | some zv =>
  simp only [hz1, hz4, hz2, hz3] at ho
  obtain ⟨hzs, li, ci, l0, lc, hb, h63⟩ := ho
  obtain ⟨i, hi, i1, i2, i3⟩ := info_of hz1 hz4 hz3
  have e1 := int_rep' hl li
  have e2 := int_rep' hc ci
  subst e1; subst e2
  have hap : apEs P t = es := by unfold apEs; rw [hte]; simp [hz1]
  have hX : mkX P t l = List.replicate l.num.toNat x0 := by unfold mkX; rw [hte]; simp [hz2]
  unfold mkS
  rw [hap, hX]
  have hrun := run_make (P := P) w t e i zv (telem_spec hte) hi i3 (kindOf l) (kindOf c) l.num c.num l0 lc (by rw [i2]; exact hb) h63
  obtain ⟨⟨q1, q2, q3, q4, q5⟩, _, _⟩ := rowIs_zero (w := w) (I := I) hz2 hz3 c.num.toNat es hzs
  have hle : l.num.toNat ≤ c.num.toNat := by omega
  have hmc : madeCells zv.cells (c.num.toNat * i.size) = (Array.range (c.num.toNat * es)).map (zv.cells[· % zv.cells.size]!) := by rw [i1]; rfl
  rw [hmc] at hrun
  generalize hC : (Array.range (c.num.toNat * es)).map (zv.cells[· % zv.cells.size]!) = C at *
  have hsub : ∀ (i : Nat) (x : D), (List.replicate l.num.toNat x0)[i]? = some x → (List.replicate c.num.toNat x0)[i]? = some x := fun i x hx => by
    rw [List.getElem?_replicate] at hx ⊢
    split at hx
    · rw [if_pos (by omega)]; exact hx
    · cases hx
  have hmem : ∀ x ∈ List.replicate l.num.toNat x0, x ∈ List.replicate c.num.toNat x0 := fun x hx => by
    obtain ⟨i, hi⟩ := List.getElem?_of_mem hx
    exact List.mem_of_getElem? (hsub i x hi)
  have hnew := h.newArr C e es (List.replicate l.num.toNat x0) (by rw [q1, List.length_replicate]; exact Nat.mul_le_mul_right es hle) (fun x hx => q3 x (hmem x hx)) (fun x hx => q4 x (hmem x hx))
    (fun i j x y hx hy => q5 i j x y (hsub i x hx) hy)
  have hk := keep_alloc h (.cells C e) (w.heap.size, 0) (.arr es (List.replicate l.num.toNat x0))
  refine ⟨_, _, _, hrun, hnew, hk, .osl _ _ _ _ (by simp) (.inr ⟨w.heap.size, 0, es, c.num.toNat, fun _ => ?_, hle, by simp⟩)⟩
  rw [blkAt_append_new]
  refine ⟨posNew_self _ _ _, rfl, rfl, by simp [Blk.xs], ?_⟩
  rw [blkSize_new, q1]; simp

end Go.AM
