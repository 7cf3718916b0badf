/-
  The operations run, fifth part: addresses, slices of strings and arrays, lengths, new variables.
-/
import Derived.Test.YtgebmgahfpnjaaaAm7
set_option linter.unnecessarySimpa false
set_option linter.unusedSectionVars false
set_option linter.unusedSimpArgs false
set_option linter.unusedVariables false
namespace Go.AM

variable {P : Program} {w : World} {I : Im} {μ : Pos} {σ : Sto}

theorem shift_rep {v : Value} {p : AV} (hv : RepV w I μ σ v p) (hp : p.isPtr = true) (n : Nat) : ∃ b o, v = .pointer (some ⟨b, o, none⟩) ∧ RepV w I μ σ (.pointer (some ⟨b, o + n, none⟩)) (p.shift n) := by
  cases p with
  | ptr id off =>
    cases hv with
    | ptr _ _ _ hid hh =>
      obtain ⟨b, base, h1, rfl⟩ := hh
      exact ⟨b, _, rfl, .ptr _ _ _ hid ⟨b, base, h1, by rw [Nat.add_assoc]⟩⟩
  | eptr es xs i off =>
    cases hv with
    | eptr b o _ _ _ _ hh => exact ⟨b, _, rfl, by rw [Nat.add_assoc]; exact .eptr b o es xs i (off + n) hh⟩
  | aptr id i off =>
    cases hv with
    | aptr _ _ _ _ hid hh =>
      obtain ⟨b, base, es, h1, rfl⟩ := hh
      exact ⟨b, _, rfl, .aptr _ _ _ _ hid ⟨b, base, es, h1, by rw [Nat.add_assoc]⟩⟩
  | _ => simp [AV.isPtr] at hp

theorem tfld_spec {s : TypeId} {f o n : Nat} {g : Bool} (h : tfld P s f = some (o, n, g)) : ∃ fs x, P.underlying s = some (.struct fs) ∧ fs[f]? = some x ∧ x.offset = o ∧ tsz P x.type = some n ∧ tkind P x.type = some g := by
  unfold tfld at h
  split at h
  · rename_i fs hu
    split at h
    · rename_i x hx
      split at h
      · rename_i n' g' h1 h2
        simp only [Option.some.injEq, Prod.mk.injEq] at h
        obtain ⟨rfl, rfl, rfl⟩ := h
        exact ⟨fs, x, hu, hx, rfl, h1, h2⟩
      · cases h
    · cases h
  · cases h

theorem fieldAddr_goes {s : TypeId} {f o n : Nat} {g : Bool} (h : tfld P s f = some (o, n, g)) (hn : n ≠ 0) {v : Value} {p : AV} (hv : RepV w I μ σ v p) (hp : p.isPtr = true) :
    ∃ u, (Instr.fieldAt s v f).run P w = .ok u w ∧ RepV w I μ σ u (p.shift o) := by
  obtain ⟨fs, x, h1, h2, rfl, h4, _⟩ := tfld_spec h
  obtain ⟨b, o', rfl, hr⟩ := shift_rep hv hp x.offset
  refine ⟨_, ?_, hr⟩
  simp only [Instr.fieldAt, Instr.sureAddr, fieldPlace, Sem.run_bind, run_underlying h1, Result.andThen_ok, h2, Sem.run_pure, run_sizeOf' h4, if_neg hn, addr_add]

theorem field_goes {s : TypeId} {f o n N : Nat} {g : Bool} (h : tfld P s f = some (o, n, g)) {v : Value} {u : AV} (hv : RepV w I μ σ v u) (ha : u.isAgg = true) (hN : u.ncells = N) (hb : o + n ≤ N) (hg : g = true ∨ n = 1) :
    ∃ z, (Instr.field s v f).run P w = .ok z w ∧ RepV w I μ σ z (if g = true then u.subV o n else u.cellAt o) := by
  obtain ⟨fs, x, h1, h2, rfl, h4, h5⟩ := tfld_spec h
  have hs : u.storable = true := by cases u <;> simp_all [AV.isAgg, AV.storable]
  obtain ⟨vs, hc1, hc2, hc3⟩ := cells_rep hv hs
  rw [hN] at hc2
  have hvs : v = .agg vs.toArray := by
    cases u with
    | agg cs => cases hv; rename_i vs' _ _ _; simp only [Value.cells] at hc1; rw [hc1]
    | d x =>
      have := hv.inv_d
      rw [D.agg_of_isAgg ha] at this
      cases this; simp only [Value.cells] at hc1; rw [hc1]
    | _ => simp [AV.isAgg] at ha
  subst hvs
  cases g with
  | false =>
    have hn : n = 1 := by simpa using hg
    subst hn
    have hl : x.offset < vs.length := by omega
    refine ⟨vs[x.offset], ?_, ?_⟩
    · simp only [Instr.field, asAgg, Sem.run_bind, run_underlying h1, Result.andThen_ok, h2, Sem.run_pure, part, run_isAgg' h5]
      simp [hl]
    · simpa using (hc3 x.offset _ (List.getElem?_eq_getElem hl)).1
  | true =>
    refine ⟨.agg ((vs.drop x.offset).take n).toArray, ?_, ?_⟩
    · simp only [Instr.field, asAgg, Sem.run_bind, run_underlying h1, Result.andThen_ok, h2, Sem.run_pure, part, run_isAgg' h5, if_true, run_sizeOf' h4]
      congr 3
      simp
    · simp only [if_true]
      have rep : ∀ i c, ((vs.drop x.offset).take n)[i]? = some c → i < n ∧ RepV w I μ σ c (u.cellAt (x.offset + i)) ∧ (u.cellAt (x.offset + i)).one = true := fun i c hc => by
        rcases Nat.lt_or_ge i n with hi | hi
        · rw [List.getElem?_take_of_lt hi, List.getElem?_drop] at hc
          exact ⟨hi, (hc3 _ c hc).1, (hc3 _ c hc).2.1⟩
        · rw [List.getElem?_eq_none (by simp; omega)] at hc; cases hc
      have hlen : ((vs.drop x.offset).take n).length = n := by simp; omega
      cases u with
      | d y =>
        have hyl : y.cells.length = N := hN
        refine .d _ _ (.agg _ _ (by simp; omega) (fun c hc => hv.inv_d.flat c (List.mem_of_mem_drop (List.mem_of_mem_take hc))) fun i c z hc hz => ?_)
        obtain ⟨hi, r, _⟩ := rep i c hc
        rw [List.getElem?_take_of_lt hi, List.getElem?_drop] at hz
        have := r.inv_d
        rwa [D.cell_of hz] at this
      | agg cs =>
        have hyl : cs.length = N := hN
        refine mkAgg_rep (by simp; omega) (fun c hc => ?_) fun i c z hc hz => ?_
        · cases hv with
          | agg _ _ _ hone _ => exact hone c (List.mem_of_mem_drop (List.mem_of_mem_take hc))
        · obtain ⟨hi, r, _⟩ := rep i c hc
          rw [List.getElem?_take_of_lt hi, List.getElem?_drop] at hz
          simpa [AV.cellAt, List.getD_eq_getElem?_getD, hz] using r
      | _ => simp [AV.isAgg] at ha

theorem tidx_slice {t : TypeId} {es : Nat} (h : tidx P t = some (none, es)) : ∃ e, P.underlying t = some (.slice e) ∧ tsz P e = some es := by
  unfold tidx at h
  split at h
  · rename_i e hu
    cases hs : tsz P e with
    | none => rw [hs] at h; cases h
    | some n => rw [hs] at h; simp at h; subst h; exact ⟨e, hu, hs⟩
  · rename_i k e hu
    cases hs : tsz P e with
    | none => rw [hs] at h; cases h
    | some n => rw [hs] at h; simp at h
  · cases h
theorem tidx_array {t : TypeId} {k es : Nat} (h : tidx P t = some (some k, es)) : ∃ e, P.underlying t = some (.array k e) ∧ tsz P e = some es := by
  unfold tidx at h
  split at h
  · rename_i e hu
    cases hs : tsz P e with
    | none => rw [hs] at h; cases h
    | some n => rw [hs] at h; simp at h
  · rename_i k' e hu
    cases hs : tsz P e with
    | none => rw [hs] at h; cases h
    | some n => rw [hs] at h; simp at h; obtain ⟨rfl, rfl⟩ := h; exact ⟨e, hu, hs⟩
  · cases h

theorem int_rep {v : Value} {u : AV} (hv : RepV w I μ σ v u) (hi : u.isIntv = true) : ∃ k, v = .int k u.num := by
  cases u with
  | d x =>
    have := hv.inv_d
    cases this <;> simp_all [AV.isIntv, AV.num]
  | _ => simp [AV.isIntv] at hi

theorem idx_goes {t : TypeId} {es : Nat} (ht : tidx P t = some (none, es)) {v iv : Value} {u i : AV} (hv : RepV w I μ σ v u) (hi : RepV w I μ σ iv i) (hint : i.isIntv = true) (ho : idxOk σ es i.num u) :
    ∃ z, (Instr.indexAt t v iv).run P w = .ok z w ∧ RepV w I μ σ z (idxV es i.num u) := by
  obtain ⟨e, h1, h2⟩ := tidx_slice ht
  obtain ⟨k, rfl⟩ := int_rep hi hint
  generalize i.num = n at *
  cases u with
  | d x =>
    cases x with
    | sl xs =>
      obtain ⟨p1, p2, p3⟩ := ho
      cases hv.inv_d with
      | nil a cap => simp at p2; omega
      | sl b off es' cap _ vals hI hcap hes hfl hc hr =>
        have hlt : n.toNat < xs.length := by omega
        have hes' : es' = es := by rw [← hes _ (getD_mem hlt)]; exact p3
        subst hes'
        refine ⟨.pointer (some ⟨b, off + n.toNat * es' + 0, none⟩), ?_, .eptr b off es' xs n.toNat 0 ⟨hI, hes, hfl, fun i j x y hx hy => ?_⟩⟩
        · simp only [Instr.indexAt, asIntOf, Sem.run_bind, Sem.run_pure, Result.andThen_ok, run_underlying h1]
          simp only [p1, p2, and_self, if_true, Sem.run_bind, run_sizeOf' h2, Result.andThen_ok, Sem.run_pure, addr_add, Nat.add_zero]
        · have hil : i < xs.length := by
            rcases Nat.lt_or_ge i xs.length with h' | h'
            · exact h'
            · rw [List.getElem?_eq_none h'] at hx; cases hx
          have hjl : j < es' := by
            rw [← hes x (List.mem_of_getElem? hx)]
            rcases Nat.lt_or_ge j x.cells.length with h' | h'
            · exact h'
            · rw [List.getElem?_eq_none h'] at hy; cases hy
          exact ⟨vals i j, hc i j hil hjl, hr i j x y hx hy⟩
    | _ => exact ho.elim
  | osl id off len =>
    obtain ⟨p1, p2, p3, p4⟩ := ho
    have hal : alive σ id := by unfold alive; cases hB : blkAt σ id <;> simp_all [Blk.isArr, Blk.isDead]
    cases hv with
    | osl _ _ _ _ hid hh =>
      rcases hh with ⟨rfl, _⟩ | ⟨b, base, es', cap, q1, q2, rfl⟩
      · simp at p2; omega
      · obtain ⟨r1, r2, r3, r4, r5⟩ := q1 hal
        rw [p4] at r3
        subst r3
        refine ⟨.pointer (some ⟨b, base + off * es + n.toNat * es, none⟩), ?_, .aptr _ _ _ _ hid ⟨b, base, es, fun _ => ⟨r1, p4⟩, ?_⟩⟩
        · simp only [Instr.indexAt, asIntOf, Sem.run_bind, Sem.run_pure, Result.andThen_ok, run_underlying h1]
          simp only [p1, p2, and_self, if_true, Sem.run_bind, run_sizeOf' h2, Result.andThen_ok, Sem.run_pure, addr_add]
        · rw [Nat.add_mul, Nat.add_zero, Nat.add_assoc]
  | _ => exact ho.elim

theorem aidx_goes {t : TypeId} {k es : Nat} (ht : tidx P t = some (some k, es)) {v iv : Value} {p i : AV} (hv : RepV w I μ σ v p) (hi : RepV w I μ σ iv i) (hint : i.isIntv = true) (ho : aidxOk k i.num p) :
    ∃ z, (Instr.indexAt t v iv).run P w = .ok z w ∧ RepV w I μ σ z (p.shift (i.num.toNat * es)) := by
  obtain ⟨e, h1, h2⟩ := tidx_array ht
  obtain ⟨kk, rfl⟩ := int_rep hi hint
  obtain ⟨p1, p2, p3, p4⟩ := ho
  obtain ⟨b, o, rfl, hr⟩ := shift_rep hv p1 (i.num.toNat * es)
  refine ⟨_, ?_, hr⟩
  simp only [Instr.indexAt, asIntOf, Instr.sureAddr, Sem.run_bind, Sem.run_pure, Result.andThen_ok, run_underlying h1]
  simp only [p2, p3, and_self, if_true, Sem.run_bind, run_sizeOf' h2, Result.andThen_ok, Sem.run_pure, addr_add]

theorem telem_spec {t e : TypeId} (h : telem P t = some e) : P.underlying t = some (.slice e) := by
  unfold telem at h
  split at h
  · rename_i e' hu; simp at h; subst h; exact hu
  · cases h
theorem tstr_spec {t : TypeId} (h : tstr P t = true) : P.underlying t = some .string := by
  unfold tstr at h
  split at h
  · assumption
  · cases h

theorem index_goes {t : TypeId} (ht : tstr P t = true) {v iv : Value} {i : AV} {s : List UInt8} (hv : RepV w I μ σ v (.d (.str s))) (hi : RepV w I μ σ iv i) (hint : i.isIntv = true) (h0 : 0 ≤ i.num) (h1 : i.num < s.length) :
    ∃ z, (Instr.index t v iv).run P w = .ok z w ∧ RepV w I μ σ z (.d (.int .u8 (s.getD i.num.toNat 0).toNat)) := by
  obtain ⟨k, rfl⟩ := int_rep hi hint
  cases hv.inv_d
  have hu := tstr_spec ht
  have hlt : i.num.toNat < s.length := by omega
  refine ⟨_, ?_, .d _ _ (.int _ _)⟩
  simp only [Instr.index, asIntOf, Sem.run_bind, Sem.run_pure, Result.andThen_ok, run_underlying hu, h0, if_true]
  have : (⟨s.toArray⟩ : ByteArray)[i.num.toNat]? = some (s.getD i.num.toNat 0) := by
    show (if h : i.num.toNat < (⟨s.toArray⟩ : ByteArray).size then some ((⟨s.toArray⟩ : ByteArray)[i.num.toNat]) else none) = _
    have hsz : (⟨s.toArray⟩ : ByteArray).size = s.length := by simp [ByteArray.size]
    rw [dif_pos (by rw [hsz]; exact hlt)]
    congr 1
    rw [List.getD_eq_getElem?_getD, List.getElem?_eq_getElem hlt]
    rfl
  rw [this]
  rfl

end Go.AM
