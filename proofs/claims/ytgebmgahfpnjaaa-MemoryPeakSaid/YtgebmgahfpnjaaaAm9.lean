/-
  The operations run, sixth part: slicing, lengths, appends, literals.
-/
import Derived.Test.YtgebmgahfpnjaaaAm8
set_option linter.unnecessarySimpa false
set_option linter.unusedSectionVars false
set_option linter.unusedSimpArgs false
set_option linter.unusedVariables false
namespace Go.AM

variable {P : Program} {w : World} {I : Im} {μ : Pos} {σ : Sto}

theorem len_goes {t ty : TypeId} {v : Value} {u : AV} (hv : RepV w I μ σ v u) (ho : u.hasLen P t = true) : (Builtin.len_ #[t] ty #[v]).run P w = .ok (.int .i64 u.len) w := by
  have slice : ∀ {a : Option Addr} {n c : Nat}, (telem P t).isSome = true → (Builtin.len_ #[t] ty #[.slice a n c]).run P w = .ok (.int .i64 n) w := fun {a n c} ht => by
    obtain ⟨el, he⟩ := Option.isSome_iff_exists.1 ht
    simp [Builtin.len_, run_underlying (telem_spec he), goInt]
  cases u with
  | d x =>
    cases x with
    | sl xs =>
      cases hv.inv_d with
      | nil a cap => exact slice ho
      | sl b off es cap _ vals _ _ _ _ _ _ => exact slice ho
    | str s =>
      cases hv.inv_d
      have hu := tstr_spec (show tstr P t = true from ho)
      have hsz : (⟨s.toArray⟩ : ByteArray).size = s.length := by simp [ByteArray.size]
      simp [Builtin.len_, run_underlying hu, goInt, AV.len, hsz]
    | _ => simp [AV.hasLen] at ho
  | nils => cases hv; exact slice ho
  | osl id off len =>
    cases hv with
    | osl _ _ _ _ hid hh =>
      rcases hh with ⟨rfl, a, rfl⟩ | ⟨b, base, es, cap, _, _, rfl⟩
      · exact slice ho
      · exact slice ho
  | _ => simp [AV.hasLen] at ho

theorem run_sliceBound {x : Value} {k : IntKind} {i : Int} {y : Nat} {c : BoundsCode} (hx : x = .int k i) (h0 : 0 ≤ i) (h1 : i ≤ y) : (Instr.sliceBound x y c).run P w = .ok i.toNat w := by
  subst hx
  simp [Instr.sliceBound, asIntOf, h0, h1]

/-- the bounds of x[lo:hi] -/
theorem run_sliceBounds (isS : Bool) {len cap : Nat} {lo hi : Option Value} {l h : Int} (hl : (lo = none ∧ l = 0) ∨ ∃ k, lo = some (.int k l)) (hh : (hi = none ∧ h = len) ∨ ∃ k, hi = some (.int k h)) (h0 : 0 ≤ l) (h1 : l ≤ h) (h2 : h ≤ cap) :
    (Instr.sliceBounds isS len cap lo hi none).run P w = .ok (l.toNat, h.toNat, cap) w := by
  unfold Instr.sliceBounds
  have hh' : h = ((h.toNat : Nat) : Int) := by omega
  rcases hl with ⟨rfl, rfl⟩ | ⟨k, rfl⟩ <;> rcases hh with ⟨rfl, rfl⟩ | ⟨k', rfl⟩
  · simp
  · simp [run_sliceBound (P := P) (w := w) (x := .int k' h) rfl (by omega) h2]
  · simp [run_sliceBound (P := P) (w := w) (x := .int k l) (y := len) rfl h0 (by omega)]
  · simp only [Sem.run_bind, Sem.run_pure, Result.andThen_ok, run_sliceBound (P := P) (w := w) (x := .int k' h) rfl (by omega) h2, Option.isSome_none, Bool.false_eq_true, if_false]
    rw [run_sliceBound (P := P) (w := w) (x := .int k l) (y := h.toNat) rfl h0 (by omega)]
    simp

theorem slice_goes {t : TypeId} {v : Value} {lo hi : Option Value} {l h : Int} {u : AV} (hv : RepV w I μ σ v u) (hl : (lo = none ∧ l = 0) ∨ ∃ k, lo = some (.int k l)) (hh : (hi = none ∧ h = u.len) ∨ ∃ k, hi = some (.int k h)) (ho : slOk P t σ l h u) :
    ∃ z, (Instr.sliceAt t v lo hi none).run P w = .ok z w ∧ RepV w I μ σ z (slV l h u) := by
  have isSlice : ∀ {e : TypeId}, P.underlying t = some (.slice e) → (Instr.sliceAt t v lo hi none).run P w = (Instr.slice t v lo hi none).run P w := fun {e} hu => by simp [Instr.sliceAt, run_underlying hu]
  have go : ∀ {a : Option Addr} {len cap n : Nat} {e : TypeId}, v = .slice a len cap → P.underlying t = some (.slice e) → tsz P e = some n → ((hi = none ∧ h = len) ∨ ∃ k, hi = some (.int k h)) → 0 ≤ l → l ≤ h → h ≤ cap →
      (Instr.sliceAt t v lo hi none).run P w = .ok (.slice (if cap = l.toNat then a else a.map (·.add (l.toNat * n))) (h.toNat - l.toNat) (cap - l.toNat)) w := by
    intro a len cap n e hv hu hs hh' h0 h1 h2
    rw [isSlice hu]
    subst hv
    simp only [Instr.slice, Sem.run_bind, run_underlying hu, Result.andThen_ok, run_sliceBounds (P := P) (w := w) true hl hh' h0 h1 h2, run_sizeOf' hs, Sem.run_pure]
  cases u with
  | d x =>
    cases x with
    | str s =>
      obtain ⟨h3, h0, h1, h2⟩ := ho
      have hu := tstr_spec h3
      cases hv.inv_d
      have hsz : (⟨s.toArray⟩ : ByteArray).size = s.length := by simp [ByteArray.size]
      refine ⟨.string ((⟨s.toArray⟩ : ByteArray).extract l.toNat h.toNat), ?_, ?_⟩
      · have e1 : (Instr.sliceAt t (.string ⟨s.toArray⟩) lo hi none).run P w = (Instr.slice t (.string ⟨s.toArray⟩) lo hi none).run P w := by simp [Instr.sliceAt, run_underlying hu]
        rw [e1]
        have := run_sliceBounds (P := P) (w := w) false (len := (⟨s.toArray⟩ : ByteArray).size) (cap := (⟨s.toArray⟩ : ByteArray).size) hl (by rw [hsz]; exact hh) h0 h1 (by rw [hsz]; exact h2)
        simp only [Instr.slice, Sem.run_bind, run_underlying hu, Result.andThen_ok, Option.isSome_none, Bool.false_eq_true, if_false, Sem.run_pure, this]
      · have e2 : (⟨s.toArray⟩ : ByteArray).extract l.toNat h.toNat = ⟨((s.take h.toNat).drop l.toNat).toArray⟩ := by
          apply ByteArray.ext
          simp [ByteArray.data_extract, List.extract_eq_take_drop, List.drop_take]
        rw [e2]; exact .d _ _ (.str _)
    | sl xs =>
      obtain ⟨⟨h3, h4⟩, h0, h1, h2, h5⟩ := ho
      obtain ⟨e, he⟩ := Option.isSome_iff_exists.1 h4
      have hu := telem_spec he
      cases hti : tidx P t with
      | none => rw [hti] at h3; cases h3
      | some q =>
        obtain ⟨kk, es⟩ := q
        have hq : kk = none ∧ tsz P e = some es := by
          unfold tidx at hti
          rw [hu] at hti
          cases hs : tsz P e with
          | none => simp [hs] at hti
          | some n => simp [hs] at hti; exact ⟨hti.1.symm, by rw [hti.2]⟩
        obtain ⟨rfl, hs⟩ := hq
        rw [hti] at h5
        simp only at h5
        cases hv.inv_d with
        | nil a cap =>
          have hl0 : l = 0 := by simp at h2; omega
          have hh0 : h = 0 := by simp at h2; omega
          subst hl0; subst hh0
          refine ⟨_, go rfl hu hs hh (by omega) (by omega) (by omega), ?_⟩
          exact .d _ _ (by simpa using RepD.nil _ cap)
        | sl b off es' cap _ vals hI hcap hes hfl hc hr =>
          refine ⟨_, go rfl hu hs hh h0 h1 (by omega), ?_⟩
          have hlen : ((xs.take h.toNat).drop l.toNat).length = h.toNat - l.toNat := by simp; omega
          by_cases hz : h.toNat - l.toNat = 0
          · rw [hz]
            have : (xs.take h.toNat).drop l.toNat = [] := List.eq_nil_of_length_eq_zero (by omega)
            show RepV w I μ σ _ (.d (.sl ((xs.take h.toNat).drop l.toNat)))
            rw [this]
            exact .d _ _ (.nil _ _)
          · have hne : cap ≠ l.toNat := by omega
            rw [if_neg hne]
            have hxs : ∃ x, x ∈ xs := by
              cases xs with
              | nil => simp at h2; omega
              | cons x r => exact ⟨x, List.mem_cons_self⟩
            obtain ⟨x0, hx0⟩ := hxs
            have hes' : es' = es := by rw [← hes x0 hx0]; exact h5 x0 hx0
            subst hes'
            have hget : ∀ (i : Nat) (x : D), ((xs.take h.toNat).drop l.toNat)[i]? = some x → xs[l.toNat + i]? = some x ∧ l.toNat + i < xs.length := fun i x hx => by
              rw [List.getElem?_drop, List.getElem?_take] at hx
              split at hx
              · refine ⟨hx, ?_⟩
                rcases Nat.lt_or_ge (l.toNat + i) xs.length with h' | h'
                · exact h'
                · rw [List.getElem?_eq_none h'] at hx; cases hx
              · cases hx
            have hmem : ∀ x ∈ (xs.take h.toNat).drop l.toNat, x ∈ xs := fun x hx => List.mem_of_mem_take (List.mem_of_mem_drop hx)
            have key := RepD.sl (w := w) (I := I) b (off + l.toNat * es') es' (cap - l.toNat) ((xs.take h.toNat).drop l.toNat) (fun i j => vals (l.toNat + i) j) hI (by rw [hlen]; omega)
              (fun x hx => hes x (hmem x hx)) (fun x hx => hfl x (hmem x hx)) (fun i j hi hj => ?_) (fun i j x y hx hy => hr (l.toNat + i) j x y (hget i x hx).1 hy)
            · rw [hlen] at key
              show RepV w I μ σ _ (.d (.sl ((xs.take h.toNat).drop l.toNat)))
              simpa [addr_add] using RepV.d (μ := μ) (σ := σ) _ _ key
            · have hx : ((xs.take h.toNat).drop l.toNat)[i]? = some ((xs.take h.toNat).drop l.toNat)[i] := List.getElem?_eq_getElem hi
              have := hc (l.toNat + i) j (hget i _ hx).2 hj
              rw [← this]
              congr 2
              rw [Nat.add_mul]; omega
    | _ => exact ho.elim
  | nils =>
    obtain ⟨h3, h4, rfl, rfl⟩ := ho
    obtain ⟨e, he⟩ := Option.isSome_iff_exists.1 h3
    have hu := telem_spec he
    obtain ⟨q, hq⟩ := Option.isSome_iff_exists.1 h4
    have hs : ∃ n, tsz P e = some n := by
      unfold tidx at hq
      rw [hu] at hq
      cases hs : tsz P e with
      | none => simp [hs] at hq
      | some n => exact ⟨n, rfl⟩
    obtain ⟨n, hs⟩ := hs
    cases hv
    refine ⟨_, go rfl hu hs hh (by omega) (by omega) (by omega), ?_⟩
    simpa [slV] using (RepV.nils (w := w) (I := I) (μ := μ) (σ := σ))
  | osl id off len =>
    obtain ⟨h3, h0, h1, h2, h4, h5⟩ := ho
    obtain ⟨e, he⟩ := Option.isSome_iff_exists.1 h3
    have hu := telem_spec he
    obtain ⟨e', hu', hs⟩ := tidx_slice h5
    rw [hu] at hu'
    simp only [Option.some.injEq, TypeDesc.slice.injEq] at hu'
    subst hu'
    have hal : alive σ id := by unfold alive; cases hB : blkAt σ id <;> simp_all [Blk.isArr, Blk.isDead]
    cases hv with
    | osl _ _ _ _ hid hv' =>
      rcases hv' with ⟨rfl, a, rfl⟩ | ⟨b, base, es, cap, q1, q2, rfl⟩
      · have hl0 : l = 0 := by simp at h2; omega
        have hh0 : h = 0 := by simp at h2; omega
        subst hl0; subst hh0
        refine ⟨_, go rfl hu hs hh (by omega) (by omega) (by omega), ?_⟩
        simp only [Int.toNat_zero, Nat.sub_self, if_true, slV]
        exact .osl _ _ _ _ hid (.inl ⟨rfl, a, rfl⟩)
      · obtain ⟨r1, r2, r3, r4, r5⟩ := q1 hal
        refine ⟨_, go rfl hu hs hh h0 h1 (by omega), ?_⟩
        subst r3
        by_cases hz : cap = l.toNat
        · rw [if_pos hz]
          have e1 : h.toNat - l.toNat = 0 := by omega
          have e2 : cap - l.toNat = 0 := by omega
          simp only [slV, e1, e2]
          exact .osl _ _ _ _ hid (.inl ⟨rfl, _, rfl⟩)
        · rw [if_neg hz]
          refine .osl _ _ _ _ hid (.inr ⟨b, base, (blkAt σ id).es, cap - l.toNat, fun _ => ⟨r1, r2, rfl, by omega, ?_⟩, by omega, ?_⟩)
          · have : off + l.toNat + (cap - l.toNat) = off + cap := by omega
            rw [this]; exact r5
          · simp only [Option.map_some, addr_add]
            congr 3
            rw [Nat.add_mul]; omega
  | _ => exact ho.elim

/-! ### new variables -/
theorem box_goes (h : Rel w I μ σ) (t : TypeId) {v : Value} {u : AV} (hv : RepV w I μ σ v u) (hs : u.storable = true) :
    ∃ w' μ', (Instr.box t v).run P w = .ok (.pointer (some ⟨w.heap.size, 0, none⟩)) w' ∧ Rel w' I μ' (σ ++ [.box u.ncells u]) ∧ Keep σ.length w I μ σ w' I μ' (σ ++ [.box u.ncells u]) ∧
      RepV w' I μ' (σ ++ [.box u.ncells u]) (.pointer (some ⟨w.heap.size, 0, none⟩)) (.ptr σ.length 0) := by
  obtain ⟨vs, hc1, hc2, hc3⟩ := cells_rep hv hs
  have hsz : vs.toArray.size = u.ncells := by simpa using hc2
  have k := keep_alloc h (.cells vs.toArray t) (w.heap.size, 0) (.box vs.toArray.size u)
  have r := h.newBox vs.toArray t u (by rw [hsz]) (fun j c hc => by
    have := hc3 j c (by simpa using hc)
    exact ⟨this.2.1, this.1⟩)
  have q := newBox_rep (I := I) (μ := μ) (σ := σ) (w := w) vs.toArray t u
  rw [hsz] at k r q
  refine ⟨_, _, ?_, r, k, q⟩
  simp only [Instr.box, newVar, newRow, hc1, Sem.run_bind, run_newObj, Result.andThen_ok, Sem.run_pure]
  rfl

theorem alloc_goes (h : Rel w I μ σ) {t : TypeId} {z : Value} (hz : tzero P t = some z) (hs : (constV z).storable = true) :
    ∃ w' μ', (Instr.alloc t true (.tuple #[])).run P w = .ok (.pointer (some ⟨w.heap.size, 0, none⟩)) w' ∧ Rel w' I μ' (σ ++ [.box (constV z).ncells (constV z)]) ∧ Keep σ.length w I μ σ w' I μ' (σ ++ [.box (constV z).ncells (constV z)]) ∧
      RepV w' I μ' (σ ++ [.box (constV z).ncells (constV z)]) (.pointer (some ⟨w.heap.size, 0, none⟩)) (.ptr σ.length 0) := by
  obtain ⟨w', μ', h1, h2⟩ := box_goes (P := P) h t (constV_rep z) hs
  refine ⟨w', μ', ?_, h2⟩
  simp only [Instr.alloc, Sem.run_bind, run_zeroValue' hz, Result.andThen_ok]
  simp only [Instr.box, Sem.run_bind] at h1
  exact h1

end Go.AM
