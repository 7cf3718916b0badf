/-
  How the relation goes on over changes of the world: draws, new blocks, writes into owned blocks, blocks given up, arrays frozen.
-/
import Derived.Test.YtgebmgahfpnjaaaAm1
set_option linter.unnecessarySimpa false
set_option linter.unusedSectionVars false
set_option linter.unusedSimpArgs false
set_option linter.unusedVariables false
namespace Go.AM

variable {w w' : World} {I : Im} {μ : Pos} {σ : Sto}

/-- A world that differs in its count of draws alone. -/
structure SameMem (w w' : World) : Prop where
  os : w'.os = w.os
  tape : w'.tape = w.tape
  output : w'.output = w.output
  heap : w'.heap = w.heap

theorem SameMem.refl (w : World) : SameMem w w := ⟨rfl, rfl, rfl, rfl⟩
theorem SameMem.drew (w : World) : SameMem w { w with drawn := w.drawn + 1 } := ⟨rfl, rfl, rfl, rfl⟩

theorem SameMem.keep (s : SameMem w w') : Keep σ.length w I μ σ w' I μ σ :=
  ⟨s.os, s.tape, s.output, by rw [s.heap]; exact Nat.le_refl _, fun _ h => h, fun _ h => h, fun _ h => .inl h, fun _ _ => by rw [s.heap], fun b => by unfold blkSize; rw [s.heap]; exact Nat.le_refl _, Nat.le_refl _, fun _ _ h => ⟨h, rfl, rfl, rfl, Nat.le_refl _⟩⟩

theorem SameMem.rel (s : SameMem w w') (h : Rel w I μ σ) : Rel w' I μ σ :=
  ⟨fun b hb => by rw [s.heap]; exact h.imm b hb, fun id hid => (h.blk id hid).keep s.keep rfl (fun _ b o _ => ⟨by rw [s.heap], fun hn => hn⟩), h.apart⟩

def posNew (μ : Pos) (id : Nat) (p : Nat × Nat) : Pos := fun i => if i = id then some p else μ i
theorem posNew_self (μ : Pos) (id : Nat) (p : Nat × Nat) : posNew μ id p id = some p := by simp [posNew]
theorem posNew_ne (μ : Pos) {id i : Nat} (p : Nat × Nat) (h : i ≠ id) : posNew μ id p i = μ i := by simp [posNew, h]

theorem blkSize_alloc (w : World) (o : Obj) (b : Nat) : blkSize w b ≤ blkSize (w.alloc o) b := by
  unfold blkSize
  rcases Nat.lt_or_ge b w.heap.size with h | h
  · rw [RowKit.Below.heap_alloc _ _ _ h]; exact Nat.le_refl _
  · rw [Array.getElem?_eq_none h]; exact Nat.zero_le _

theorem heap_alloc_new (w : World) (o : Obj) : (w.alloc o).heap[w.heap.size]? = some o := by
  show (w.heap.push o)[w.heap.size]? = some o
  simp
theorem blkSize_new (w : World) (c : Array Value) (t : TypeId) : blkSize (w.alloc (.cells c t)) w.heap.size = c.size := by
  unfold blkSize; rw [heap_alloc_new]
theorem plainBlk_new (w : World) (c : Array Value) (t : TypeId) : plainBlk (w.alloc (.cells c t)) w.heap.size := ⟨c, t, heap_alloc_new _ _⟩

/-- a new block of the world, and one more abstract block -/
theorem keep_alloc (h : Rel w I μ σ) (o : Obj) (p : Nat × Nat) (B : Blk) : Keep σ.length w I μ σ (w.alloc o) I (posNew μ σ.length p) (σ ++ [B]) :=
  ⟨rfl, rfl, rfl, by simp, fun _ h => h, fun _ h => h, fun _ h => .inl h, fun b hb => RowKit.Below.heap_alloc _ _ _ (h.imm b hb), blkSize_alloc w o, by simp, fun id hid ha => by
    refine ⟨?_, posNew_ne _ _ (by omega), ?_⟩
    · unfold alive at *; rw [blkAt_append_old hid] at ha; exact ha
    · rw [blkAt_append_old hid]; exact ⟨rfl, rfl, Nat.le_refl _⟩⟩

theorem own_lt (h : Rel w I μ σ) {id : Nat} (hid : id < σ.length) (ho : (blkAt σ id).own = true) {b o : Nat} (hμ : μ id = some (b, o)) : b < w.heap.size ∧ ¬ I.fr b := by
  have hb := h.blk id hid
  cases e : blkAt σ id with
  | dead => rw [e] at ho; simp [Blk.own] at ho
  | frz es xs => rw [e] at ho; simp [Blk.own] at ho
  | box n v =>
    rw [e] at hb
    obtain ⟨b', h1, h2, ⟨c, t, h3⟩, _⟩ := hb
    rw [hμ] at h1
    simp only [Option.some.injEq, Prod.mk.injEq] at h1
    obtain ⟨rfl, rfl⟩ := h1
    refine ⟨?_, h2⟩
    rcases Nat.lt_or_ge b w.heap.size with h' | h'
    · exact h'
    · rw [Array.getElem?_eq_none h'] at h3; cases h3
  | arr es xs =>
    rw [e] at hb
    rcases hb with ⟨h1, _⟩ | ⟨b', base, h1, h2, ⟨c, t, h3⟩, _⟩
    · rw [hμ] at h1; cases h1
    · rw [hμ] at h1
      simp only [Option.some.injEq, Prod.mk.injEq] at h1
      obtain ⟨rfl, rfl⟩ := h1
      refine ⟨?_, h2⟩
      rcases Nat.lt_or_ge b w.heap.size with h' | h'
      · exact h'
      · rw [Array.getElem?_eq_none h'] at h3; cases h3
  | map ik f =>
    rw [e] at hb
    obtain ⟨b', es, clock, h1, h2, h3, _⟩ := hb
    rw [hμ] at h1
    simp only [Option.some.injEq, Prod.mk.injEq] at h1
    obtain ⟨rfl, rfl⟩ := h1
    refine ⟨?_, h2⟩
    rcases Nat.lt_or_ge b w.heap.size with h' | h'
    · exact h'
    · rw [Array.getElem?_eq_none h'] at h3; cases h3

theorem blkAt_own_lt {id : Nat} (ho : (blkAt σ id).own = true) : id < σ.length := by
  rcases Nat.lt_or_ge id σ.length with h' | h'
  · exact h'
  · unfold blkAt at ho; rw [List.getD_eq_getElem?_getD, List.getElem?_eq_none h'] at ho; simp [Blk.own] at ho

theorem Rel.alloc (h : Rel w I μ σ) (o : Obj) (B : Blk)
    (hB : BlkRep (w.alloc o) I (posNew μ σ.length (w.heap.size, 0)) (σ ++ [B]) σ.length B) : Rel (w.alloc o) I (posNew μ σ.length (w.heap.size, 0)) (σ ++ [B]) := by
  refine ⟨fun b hb => ?_, fun id hid => ?_, ?_⟩
  · have := h.imm b hb
    simp; omega
  · simp only [List.length_append, List.length_cons, List.length_nil] at hid
    by_cases e : id = σ.length
    · subst e; rw [blkAt_append_new]; exact hB
    · have hid' : id < σ.length := by omega
      rw [blkAt_append_old hid']
      refine (h.blk id hid').keep (keep_alloc h o _ B) (posNew_ne _ _ e) fun ho b o' hμ => ⟨RowKit.Below.heap_alloc _ _ _ (own_lt h hid' ho hμ).1, fun hn => hn⟩
  · intro i j b b' oi oj hij hi hj hμi hμj
    have li := blkAt_own_lt hi
    have lj := blkAt_own_lt hj
    simp only [List.length_append, List.length_cons, List.length_nil] at li lj
    by_cases ei : i = σ.length
    · subst ei
      have lj' : j < σ.length := by omega
      rw [posNew_self] at hμi
      rw [posNew_ne _ _ (by omega)] at hμj
      rw [blkAt_append_old lj'] at hj
      have := (own_lt h lj' hj hμj).1
      simp only [Option.some.injEq, Prod.mk.injEq] at hμi
      omega
    · have li' : i < σ.length := by omega
      rw [posNew_ne _ _ ei] at hμi
      rw [blkAt_append_old li'] at hi
      by_cases ej : j = σ.length
      · subst ej
        rw [posNew_self] at hμj
        have := (own_lt h li' hi hμi).1
        simp only [Option.some.injEq, Prod.mk.injEq] at hμj
        omega
      · have lj' : j < σ.length := by omega
        rw [posNew_ne _ _ ej] at hμj
        rw [blkAt_append_old lj'] at hj
        exact h.apart i j b b' oi oj hij hi hj hμi hμj

/-- a new variable -/
theorem Rel.newBox (h : Rel w I μ σ) (c : Array Value) (t : TypeId) (v : AV) (hn : v.ncells = c.size)
    (hc : ∀ j u, c[j]? = some u → (v.cellAt j).one = true ∧ RepV w I μ σ u (v.cellAt j)) :
    Rel (w.alloc (.cells c t)) I (posNew μ σ.length (w.heap.size, 0)) (σ ++ [.box c.size v]) := by
  refine h.alloc _ _ ⟨w.heap.size, posNew_self _ _ _, fun hI => ?_, plainBlk_new _ _ _, blkSize_new _ _ _, hn, fun j hj => ?_⟩
  · have := h.imm _ hI; omega
  · obtain ⟨h1, h2⟩ := hc j c[j] (by simp [hj])
    exact ⟨h1, c[j], by rw [World.cell?_alloc_new]; simp [hj], h2.keep (keep_alloc h _ _ _)⟩

theorem newBox_rep (c : Array Value) (t : TypeId) (v : AV) :
    RepV (w.alloc (.cells c t)) I (posNew μ σ.length (w.heap.size, 0)) (σ ++ [.box c.size v]) (.pointer (some ⟨w.heap.size, 0, none⟩)) (.ptr σ.length 0) :=
  .ptr _ _ _ (by simp) ⟨w.heap.size, 0, fun _ => posNew_self _ _ _, rfl⟩

/-- a new array -/
theorem Rel.newArr (h : Rel w I μ σ) (c : Array Value) (t : TypeId) (es : Nat) (xs : List D) (hn : xs.length * es ≤ c.size) (hes : ∀ x ∈ xs, x.cells.length = es) (hfl : ∀ x ∈ xs, x.flat)
    (hc : ∀ (i j : Nat) (x y : D), xs[i]? = some x → x.cells[j]? = some y → ∃ u, c[i * es + j]? = some u ∧ RepD w I u y) :
    Rel (w.alloc (.cells c t)) I (posNew μ σ.length (w.heap.size, 0)) (σ ++ [.arr es xs]) := by
  refine h.alloc _ _ (.inr ⟨w.heap.size, 0, posNew_self _ _ _, fun hI => ?_, plainBlk_new _ _ _, by rw [blkSize_new]; omega, hes, hfl, fun i j x y hx hy => ?_⟩)
  · have := h.imm _ hI; omega
  · obtain ⟨u, h1, h2⟩ := hc i j x y hx hy
    have k := keep_alloc h (.cells c t) (w.heap.size, 0) (.arr es xs)
    exact ⟨u, by rw [World.cell?_alloc_new, Nat.zero_add]; exact h1, h2.keep k.imm k.rsame⟩

/-- what may be written: the world outside block b as it was -/
structure WroteAt (b : Nat) (w w' : World) : Prop where
  os : w'.os = w.os
  tape : w'.tape = w.tape
  output : w'.output = w.output
  size : w'.heap.size = w.heap.size
  else_ : ∀ b', b' ≠ b → w'.heap[b']? = w.heap[b']?
  bsize : blkSize w' b = blkSize w b
  plain : plainBlk w b → plainBlk w' b

theorem WroteAt.refl (b : Nat) (w : World) : WroteAt b w w := ⟨rfl, rfl, rfl, rfl, fun _ _ => rfl, rfl, id⟩
theorem WroteAt.trans {b : Nat} {w w1 w2 : World} (h : WroteAt b w w1) (k : WroteAt b w1 w2) : WroteAt b w w2 :=
  ⟨k.os.trans h.os, k.tape.trans h.tape, k.output.trans h.output, k.size.trans h.size, fun b' hb => (k.else_ b' hb).trans (h.else_ b' hb), k.bsize.trans h.bsize, fun hp => k.plain (h.plain hp)⟩
theorem WroteAt.setCell (w : World) (a : Addr) (v : Value) : WroteAt a.block w (w.setCell a v) := by
  refine ⟨rfl, rfl, rfl, by simp [World.setCell], fun b' hb => RowKit.Below.heap_setCell _ _ _ _ hb, ?_, ?_⟩
  · unfold blkSize World.setCell
    simp only [Array.getElem?_modify, ↓reduceIte]
    cases h : w.heap[a.block]? with
    | none => rfl
    | some o =>
      cases o <;> simp
      split <;> simp
  · rintro ⟨c, t, hc⟩
    unfold plainBlk World.setCell
    simp only [Array.getElem?_modify, ↓reduceIte, hc, Option.map_some]
    exact ⟨_, _, rfl⟩

theorem keep_upd {id b base : Nat} (h : Rel w I μ σ) (hown : (blkAt σ id).own = true) (hμ : μ id = some (b, base)) (ww : WroteAt b w w') (B : Blk)
    (ha : B.isArr = (blkAt σ id).isArr) (he : B.es = (blkAt σ id).es) (hl : (blkAt σ id).xs.length ≤ B.xs.length) : Keep σ.length w I μ σ w' I μ (σ.set id B) := by
  have hid := blkAt_own_lt hown
  obtain ⟨_, hnI⟩ := own_lt h hid hown hμ
  refine ⟨ww.os, ww.tape, ww.output, by rw [ww.size]; exact Nat.le_refl _, fun _ h => h, fun _ h => h, fun _ h => .inl h, fun b' hb => ww.else_ b' (fun e => hnI (e ▸ hb)), fun b' => ?_, by simp, fun i hi hal => ?_⟩
  · by_cases e : b' = b
    · subst e; rw [ww.bsize]; exact Nat.le_refl _
    · rw [blkSize_same (ww.else_ b' e)]; exact Nat.le_refl _
  · by_cases e : id = i
    · subst e
      rw [blkAt_set_self hid]
      refine ⟨?_, rfl, ha, he, hl⟩
      unfold alive
      cases hB : blkAt σ id <;> simp_all [Blk.own, Blk.isDead]
    · unfold alive at *
      rw [blkAt_set_ne e] at hal ⊢
      exact ⟨hal, rfl, rfl, rfl, Nat.le_refl _⟩

/-- a write into an owned block -/
theorem Rel.upd {id b base : Nat} (h : Rel w I μ σ) (hown : (blkAt σ id).own = true) (hμ : μ id = some (b, base)) (ww : WroteAt b w w') (B : Blk)
    (ha : B.isArr = (blkAt σ id).isArr) (he : B.es = (blkAt σ id).es) (hl : (blkAt σ id).xs.length ≤ B.xs.length)
    (hrep : BlkRep w' I μ (σ.set id B) id B) : Rel w' I μ (σ.set id B) := by
  have hid := blkAt_own_lt hown
  have k := keep_upd h hown hμ ww B ha he hl
  refine ⟨fun b' hb => by rw [ww.size]; exact h.imm b' hb, fun i hi => ?_, ?_⟩
  · by_cases e : id = i
    · subst e; rw [blkAt_set_self hid]; exact hrep
    · rw [blkAt_set_ne e]
      simp only [List.length_set] at hi
      refine (h.blk i hi).keep k rfl fun ho b' o' hμ' => ⟨ww.else_ b' ?_, fun hn => hn⟩
      exact (h.apart id i b b' base o' e hown ho hμ hμ').symm
  · intro i j bi bj oi oj hij hi hj hμi hμj
    have t : ∀ i, (blkAt (σ.set id B) i).own = true → (blkAt σ i).own = true := fun i hi => by
      by_cases e : id = i
      · subst e; exact hown
      · rwa [blkAt_set_ne e] at hi
    exact h.apart i j bi bj oi oj hij (t i hi) (t j hj) hμi hμj

/-- a block given up -/
theorem keep_kill (id : Nat) : Keep σ.length w I μ σ w I μ (σ.set id .dead) := by
  refine ⟨rfl, rfl, rfl, Nat.le_refl _, fun _ h => h, fun _ h => h, fun _ h => .inl h, fun _ _ => rfl, fun _ => Nat.le_refl _, by simp, fun i hi hal => ?_⟩
  by_cases e : id = i
  · subst e; unfold alive at hal; rw [blkAt_set_self hi] at hal; simp [Blk.isDead] at hal
  · unfold alive at *
    rw [blkAt_set_ne e] at hal ⊢
    exact ⟨hal, rfl, rfl, rfl, Nat.le_refl _⟩

theorem Rel.kill (h : Rel w I μ σ) (id : Nat) : Rel w I μ (σ.set id .dead) := by
  refine ⟨h.imm, fun i hi => ?_, ?_⟩
  · simp only [List.length_set] at hi
    by_cases e : id = i
    · subst e; rw [blkAt_set_self hi]; trivial
    · rw [blkAt_set_ne e]
      exact (h.blk i hi).keep (keep_kill id) rfl fun _ _ _ _ => ⟨rfl, fun hn => hn⟩
  · intro i j bi bj oi oj hij hi hj
    have t : ∀ i, (blkAt (σ.set id .dead) i).own = true → (blkAt σ i).own = true := fun i hi => by
      by_cases e : id = i
      · subst e; have := blkAt_own_lt hi; simp only [List.length_set] at this; rw [blkAt_set_self this] at hi; simp [Blk.own] at hi
      · rwa [blkAt_set_ne e] at hi
    exact h.apart i j bi bj oi oj hij (t i hi) (t j hj)

/-- an array frozen -/
def Blk.frozen : Blk → Blk
  | .arr es xs => .frz es xs
  | B => B
def freeze (σ : Sto) (id : Nat) : Sto := σ.set id (blkAt σ id).frozen
def immAnd (I : Im) (μ : Pos) (σ : Sto) (id : Nat) : Im where
  rd := fun b => I.rd b ∨ ((blkAt σ id).isArr = true ∧ (blkAt σ id).own = true ∧ ∃ o, μ id = some (b, o))
  fr := fun b => I.fr b ∨ ((blkAt σ id).isArr = true ∧ (blkAt σ id).own = true ∧ ∃ o, μ id = some (b, o))
  sub := fun b h => h.elim (fun h => .inl (I.sub b h)) .inr

theorem keep_freeze (h : Rel w I μ σ) (id : Nat) : Keep σ.length w I μ σ w (immAnd I μ σ id) μ (freeze σ id) := by
  refine ⟨rfl, rfl, rfl, Nat.le_refl _, fun _ h => .inl h, fun _ h => .inl h, (fun b hb => hb.elim .inl fun hb => .inr (by obtain ⟨_, h2, o, h3⟩ := hb; exact (own_lt h (blkAt_own_lt h2) h2 h3).2)), fun _ _ => rfl, fun _ => Nat.le_refl _, by simp [freeze], fun i hi hal => ?_⟩
  unfold alive freeze at *
  by_cases e : id = i
  · subst e
    rw [blkAt_set_self hi] at hal ⊢
    cases hB : blkAt σ id <;> simp_all [Blk.frozen, Blk.isArr, Blk.isDead, Blk.es, Blk.xs]
  · rw [blkAt_set_ne e] at hal ⊢
    exact ⟨hal, rfl, rfl, rfl, Nat.le_refl _⟩

theorem Rel.freeze (h : Rel w I μ σ) (id : Nat) : Rel w (immAnd I μ σ id) μ (freeze σ id) := by
  have k : Keep σ.length w I μ σ w (immAnd I μ σ id) μ (AM.freeze σ id) := keep_freeze h id
  refine ⟨fun b hb => ?_, fun i hi => ?_, ?_⟩
  · rcases hb with hb | ⟨h1, h2, o, h3⟩
    · exact h.imm b hb
    · exact (own_lt h (blkAt_own_lt h2) h2 h3).1
  · simp only [AM.freeze, List.length_set] at hi
    by_cases e : id = i
    · subst e
      have hb := h.blk id hi
      have e2 : blkAt (AM.freeze σ id) id = (blkAt σ id).frozen := by unfold AM.freeze; rw [blkAt_set_self hi]
      rw [e2]
      cases hB : blkAt σ id with
      | arr es xs =>
        rw [hB] at hb
        show BlkRep _ _ _ _ _ (.frz es xs)
        rcases hb with h1 | ⟨b, base, h1, h2, h3, h4, h5, h6, h7⟩
        · exact .inl h1
        · refine .inr ⟨b, base, h1, .inr ⟨by rw [hB]; rfl, by rw [hB]; rfl, base, h1⟩, h5, h6, fun i j x y hx hy => ?_⟩
          obtain ⟨v, hv, hr⟩ := h7 i j x y hx hy
          exact ⟨v, hv, hr.keep k.imm k.rsame⟩
      | dead => trivial
      | box n v =>
        rw [hB] at hb
        refine hb.keep (B := .box n v) k rfl fun _ b o hμ => ⟨rfl, fun hn hI => ?_⟩
        rcases hI with hI | ⟨h1, _⟩
        · exact hn hI
        · rw [hB] at h1; simp [Blk.isArr] at h1
      | frz es xs =>
        rw [hB] at hb
        exact hb.keep (B := .frz es xs) k rfl fun ho => by simp [Blk.own] at ho
      | map ik f =>
        rw [hB] at hb
        refine hb.keep (B := .map ik f) k rfl fun _ b o hμ => ⟨rfl, fun hn hI => ?_⟩
        rcases hI with hI | ⟨h1, _⟩
        · exact hn hI
        · rw [hB] at h1; simp [Blk.isArr] at h1
    · have e2 : blkAt (AM.freeze σ id) i = blkAt σ i := by unfold AM.freeze; rw [blkAt_set_ne e]
      rw [e2]
      refine (h.blk i hi).keep k rfl fun ho b o hμ => ⟨rfl, fun hn hI => ?_⟩
      rcases hI with hI | ⟨_, h2, o', h3⟩
      · exact hn hI
      · exact h.apart id i b b o' o e h2 ho h3 hμ rfl
  · intro i j bi bj oi oj hij hi hj
    have t : ∀ i, (blkAt (AM.freeze σ id) i).own = true → (blkAt σ i).own = true := fun i hi => by
      unfold AM.freeze at hi
      by_cases e : id = i
      · subst e
        have := blkAt_own_lt hi; simp only [List.length_set] at this; rw [blkAt_set_self this] at hi
        cases hB : blkAt σ id <;> rw [hB] at hi <;> simp_all [Blk.own, Blk.frozen]
      · rwa [blkAt_set_ne e] at hi
    exact h.apart i j bi bj oi oj hij (t i hi) (t j hj)

/-- an owned or frozen array's slice, read as data (the array frozen) -/
theorem RepV.oslData (h : Rel w I μ σ) {v : Value} {id off len : Nat} (hv : RepV w I μ σ v (.osl id off len)) (hz : (blkAt σ id).isArr = true) (hown : (blkAt σ id).own = false) :
    RepD w I v (.sl (((blkAt σ id).xs.drop off).take len)) := by
  cases hv with
  | osl _ _ _ _ hid hv =>
    rcases hv with ⟨rfl, a, rfl⟩ | ⟨b, base, es, cap, h1, h2, rfl⟩
    · simpa using RepD.nil a 0
    · cases hB : blkAt σ id with
      | frz es' xs =>
        have hb := h.blk id hid
        have hal : alive σ id := by unfold alive; rw [hB]; rfl
        obtain ⟨p1, p2, p3, p4, p5⟩ := h1 hal
        rw [hB] at hb p3 p4
        simp only [Blk.es, Blk.xs] at p3 p4 ⊢
        subst p3
        rcases hb with ⟨h3, rfl⟩ | ⟨b', base', h3, hs⟩
        · rw [p1] at h3; cases h3
        · rw [p1] at h3
          simp only [Option.some.injEq, Prod.mk.injEq] at h3
          obtain ⟨rfl, rfl⟩ := h3
          have hlen : ((xs.drop off).take len).length = len := by simp; omega
          have hget : ∀ i x, ((xs.drop off).take len)[i]? = some x → xs[off + i]? = some x := fun i x hx => by
            rw [List.getElem?_take] at hx
            split at hx
            · simpa using hx
            · cases hx
          have hmem : ∀ x ∈ (xs.drop off).take len, x ∈ xs := fun x hx => List.mem_of_mem_drop (List.mem_of_mem_take hx)
          have key := RepD.sl (w := w) (I := I) b (base + off * es') es' cap ((xs.drop off).take len) (fun i j => (w.cell? ⟨b, base + off * es' + i * es' + j, none⟩).getD Go.undef) hs.imm (by rw [hlen]; exact h2)
            (fun x hx => hs.size x (hmem x hx)) (fun x hx => hs.flat x (hmem x hx)) (fun i j hi hj => ?_) (fun i j x y hx hy => ?_)
          · rw [hlen] at key; exact key
          · have hx : ((xs.drop off).take len)[i]? = some ((xs.drop off).take len)[i] := List.getElem?_eq_getElem hi
            have hx' := hget i _ hx
            have hsz := hs.size _ (List.mem_of_getElem? hx')
            have hy : ((xs.drop off).take len)[i].cells[j]? = some (((xs.drop off).take len)[i].cells[j]'(by rw [hsz]; exact hj)) := List.getElem?_eq_getElem _
            obtain ⟨u, hu, _⟩ := hs.cell (off + i) j _ _ hx' hy
            have ea : base + (off + i) * es' + j = base + off * es' + i * es' + j := by rw [Nat.add_mul]; omega
            rw [ea] at hu
            rw [hu]; rfl
          · obtain ⟨u, hu, hr⟩ := hs.cell (off + i) j x y (hget i x hx) hy
            have ea : base + (off + i) * es' + j = base + off * es' + i * es' + j := by rw [Nat.add_mul]; omega
            rw [ea] at hu
            rw [hu]; exact hr
      | dead => rw [hB] at hz; simp [Blk.isArr] at hz
      | box n v => rw [hB] at hz; simp [Blk.isArr] at hz
      | map ik f => rw [hB] at hz; simp [Blk.isArr] at hz
      | arr es xs => rw [hB] at hown; simp [Blk.own] at hown

end Go.AM
