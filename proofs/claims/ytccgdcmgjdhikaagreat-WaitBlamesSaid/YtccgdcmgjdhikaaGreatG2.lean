/- A part of the proof: an abstract machine over data, and lemmas; nothing of the statement. No condition beyond those stated. -/
import Derived.Test.YtccgdcmgjdhikaaGreatG1
import Derived.Laws.Tables
import Derived.Great.BuildSlice
import Derived.Laws.MakeOwn
import Derived.MapKept
set_option linter.unusedVariables false
set_option linter.unusedSimpArgs false
set_option linter.unusedSectionVars false
set_option linter.unnecessarySimpa false
/-
  The operations run, sixth part: slicing, lengths, appends, literals.
-/
namespace Go.AM

variable {P : Program} {w : World} {I : Im} {μ : Pos} {σ : Sto}

theorem len_goes {t ty : TypeId} {v : Value} {u : AV} (hv : RepV w I μ σ v u) (ho : u.hasLen P t = true) : (Builtin.len_ #[t] ty #[v]).run P w = .ok (.int .i64 u.len) w := by
  have slice : ∀ {a : Option Addr} {n c : Nat}, (telem P t).isSome = true → (Builtin.len_ #[t] ty #[.slice a n c]).run P w = .ok (.int .i64 n) w := fun {a n c} ht => by
    obtain ⟨el, he⟩ := Option.isSome_iff_exists.1 ht
    simp [Builtin.len_, run_underlying (telem_spec he), goInt]
  cases u with
  | d x =>
    cases x with
    | sl xs =>
      cases hv.inv_d with
      | nil a cap => exact slice ho
      | sl b off es cap _ vals _ _ _ _ _ _ => exact slice ho
    | str s =>
      cases hv.inv_d
      have hu := tstr_spec (show tstr P t = true from ho)
      have hsz : (⟨s.toArray⟩ : ByteArray).size = s.length := by simp [ByteArray.size]
      simp [Builtin.len_, run_underlying hu, goInt, AV.len, hsz]
    | _ => simp [AV.hasLen] at ho
  | nils => cases hv; exact slice ho
  | osl id off len =>
    cases hv with
    | osl _ _ _ _ hid hh =>
      rcases hh with ⟨rfl, a, rfl⟩ | ⟨b, base, es, cap, _, _, rfl⟩
      · exact slice ho
      · exact slice ho
  | _ => simp [AV.hasLen] at ho

theorem run_sliceBound {x : Value} {k : IntKind} {i : Int} {y : Nat} {c : BoundsCode} (hx : x = .int k i) (h0 : 0 ≤ i) (h1 : i ≤ y) : (Instr.sliceBound x y c).run P w = .ok i.toNat w := by
  subst hx
  simp [Instr.sliceBound, asIntOf, h0, h1]

/-- the bounds of x[lo:hi] -/
theorem run_sliceBounds (isS : Bool) {len cap : Nat} {lo hi : Option Value} {l h : Int} (hl : (lo = none ∧ l = 0) ∨ ∃ k, lo = some (.int k l)) (hh : (hi = none ∧ h = len) ∨ ∃ k, hi = some (.int k h)) (h0 : 0 ≤ l) (h1 : l ≤ h) (h2 : h ≤ cap) :
    (Instr.sliceBounds isS len cap lo hi none).run P w = .ok (l.toNat, h.toNat, cap) w := by
  unfold Instr.sliceBounds
  have hh' : h = ((h.toNat : Nat) : Int) := by omega
  rcases hl with ⟨rfl, rfl⟩ | ⟨k, rfl⟩ <;> rcases hh with ⟨rfl, rfl⟩ | ⟨k', rfl⟩
  · simp
  · simp [run_sliceBound (P := P) (w := w) (x := .int k' h) rfl (by omega) h2]
  · simp [run_sliceBound (P := P) (w := w) (x := .int k l) (y := len) rfl h0 (by omega)]
  · simp only [Sem.run_bind, Sem.run_pure, Result.andThen_ok, run_sliceBound (P := P) (w := w) (x := .int k' h) rfl (by omega) h2, Option.isSome_none, Bool.false_eq_true, if_false]
    rw [run_sliceBound (P := P) (w := w) (x := .int k l) (y := h.toNat) rfl h0 (by omega)]
    simp

theorem slice_goes {t : TypeId} {v : Value} {lo hi : Option Value} {l h : Int} {u : AV} (hv : RepV w I μ σ v u) (hl : (lo = none ∧ l = 0) ∨ ∃ k, lo = some (.int k l)) (hh : (hi = none ∧ h = u.len) ∨ ∃ k, hi = some (.int k h)) (ho : slOk P t σ l h u) :
    ∃ z, (Instr.sliceAt t v lo hi none).run P w = .ok z w ∧ RepV w I μ σ z (slV l h u) := by
  have isSlice : ∀ {e : TypeId}, P.underlying t = some (.slice e) → (Instr.sliceAt t v lo hi none).run P w = (Instr.slice t v lo hi none).run P w := fun {e} hu => by simp [Instr.sliceAt, run_underlying hu]
  have go : ∀ {a : Option Addr} {len cap n : Nat} {e : TypeId}, v = .slice a len cap → P.underlying t = some (.slice e) → tsz P e = some n → ((hi = none ∧ h = len) ∨ ∃ k, hi = some (.int k h)) → 0 ≤ l → l ≤ h → h ≤ cap →
      (Instr.sliceAt t v lo hi none).run P w = .ok (.slice (if cap = l.toNat then a else a.map (·.add (l.toNat * n))) (h.toNat - l.toNat) (cap - l.toNat)) w := by
    intro a len cap n e hv hu hs hh' h0 h1 h2
    rw [isSlice hu]
    subst hv
    simp only [Instr.slice, Sem.run_bind, run_underlying hu, Result.andThen_ok, run_sliceBounds (P := P) (w := w) true hl hh' h0 h1 h2, run_sizeOf' hs, Sem.run_pure]
  cases u with
  | d x =>
    cases x with
    | str s =>
      obtain ⟨h3, h0, h1, h2⟩ := ho
      have hu := tstr_spec h3
      cases hv.inv_d
      have hsz : (⟨s.toArray⟩ : ByteArray).size = s.length := by simp [ByteArray.size]
      refine ⟨.string ((⟨s.toArray⟩ : ByteArray).extract l.toNat h.toNat), ?_, ?_⟩
      · have e1 : (Instr.sliceAt t (.string ⟨s.toArray⟩) lo hi none).run P w = (Instr.slice t (.string ⟨s.toArray⟩) lo hi none).run P w := by simp [Instr.sliceAt, run_underlying hu]
        rw [e1]
        have := run_sliceBounds (P := P) (w := w) false (len := (⟨s.toArray⟩ : ByteArray).size) (cap := (⟨s.toArray⟩ : ByteArray).size) hl (by rw [hsz]; exact hh) h0 h1 (by rw [hsz]; exact h2)
        simp only [Instr.slice, Sem.run_bind, run_underlying hu, Result.andThen_ok, Option.isSome_none, Bool.false_eq_true, if_false, Sem.run_pure, this]
      · have e2 : (⟨s.toArray⟩ : ByteArray).extract l.toNat h.toNat = ⟨((s.take h.toNat).drop l.toNat).toArray⟩ := by
          apply ByteArray.ext
          simp [ByteArray.data_extract, List.extract_eq_take_drop, List.drop_take]
        rw [e2]; exact .d _ _ (.str _)
    | sl xs =>
      obtain ⟨⟨h3, h4⟩, h0, h1, h2, h5⟩ := ho
      obtain ⟨e, he⟩ := Option.isSome_iff_exists.1 h4
      have hu := telem_spec he
      cases hti : tidx P t with
      | none => rw [hti] at h3; cases h3
      | some q =>
        obtain ⟨kk, es⟩ := q
        have hq : kk = none ∧ tsz P e = some es := by
          unfold tidx at hti
          rw [hu] at hti
          cases hs : tsz P e with
          | none => simp [hs] at hti
          | some n => simp [hs] at hti; exact ⟨hti.1.symm, by rw [hti.2]⟩
        obtain ⟨rfl, hs⟩ := hq
        rw [hti] at h5
        simp only at h5
        cases hv.inv_d with
        | nil a cap =>
          have hl0 : l = 0 := by simp at h2; omega
          have hh0 : h = 0 := by simp at h2; omega
          subst hl0; subst hh0
          refine ⟨_, go rfl hu hs hh (by omega) (by omega) (by omega), ?_⟩
          exact .d _ _ (by simpa using RepD.nil _ cap)
        | sl b off es' cap _ vals hI hcap hes hfl hc hr =>
          refine ⟨_, go rfl hu hs hh h0 h1 (by omega), ?_⟩
          have hlen : ((xs.take h.toNat).drop l.toNat).length = h.toNat - l.toNat := by simp; omega
          by_cases hz : h.toNat - l.toNat = 0
          · rw [hz]
            have : (xs.take h.toNat).drop l.toNat = [] := List.eq_nil_of_length_eq_zero (by omega)
            show RepV w I μ σ _ (.d (.sl ((xs.take h.toNat).drop l.toNat)))
            rw [this]
            exact .d _ _ (.nil _ _)
          · have hne : cap ≠ l.toNat := by omega
            rw [if_neg hne]
            have hxs : ∃ x, x ∈ xs := by
              cases xs with
              | nil => simp at h2; omega
              | cons x r => exact ⟨x, List.mem_cons_self⟩
            obtain ⟨x0, hx0⟩ := hxs
            have hes' : es' = es := by rw [← hes x0 hx0]; exact h5 x0 hx0
            subst hes'
            have hget : ∀ (i : Nat) (x : D), ((xs.take h.toNat).drop l.toNat)[i]? = some x → xs[l.toNat + i]? = some x ∧ l.toNat + i < xs.length := fun i x hx => by
              rw [List.getElem?_drop, List.getElem?_take] at hx
              split at hx
              · refine ⟨hx, ?_⟩
                rcases Nat.lt_or_ge (l.toNat + i) xs.length with h' | h'
                · exact h'
                · rw [List.getElem?_eq_none h'] at hx; cases hx
              · cases hx
            have hmem : ∀ x ∈ (xs.take h.toNat).drop l.toNat, x ∈ xs := fun x hx => List.mem_of_mem_take (List.mem_of_mem_drop hx)
            have key := RepD.sl (w := w) (I := I) b (off + l.toNat * es') es' (cap - l.toNat) ((xs.take h.toNat).drop l.toNat) (fun i j => vals (l.toNat + i) j) hI (by rw [hlen]; omega)
              (fun x hx => hes x (hmem x hx)) (fun x hx => hfl x (hmem x hx)) (fun i j hi hj => ?_) (fun i j x y hx hy => hr (l.toNat + i) j x y (hget i x hx).1 hy)
            · rw [hlen] at key
              show RepV w I μ σ _ (.d (.sl ((xs.take h.toNat).drop l.toNat)))
              simpa [addr_add] using RepV.d (μ := μ) (σ := σ) _ _ key
            · have hx : ((xs.take h.toNat).drop l.toNat)[i]? = some ((xs.take h.toNat).drop l.toNat)[i] := List.getElem?_eq_getElem hi
              have := hc (l.toNat + i) j (hget i _ hx).2 hj
              rw [← this]
              congr 2
              rw [Nat.add_mul]; omega
    | _ => exact ho.elim
  | nils =>
    obtain ⟨h3, h4, rfl, rfl⟩ := ho
    obtain ⟨e, he⟩ := Option.isSome_iff_exists.1 h3
    have hu := telem_spec he
    obtain ⟨q, hq⟩ := Option.isSome_iff_exists.1 h4
    have hs : ∃ n, tsz P e = some n := by
      unfold tidx at hq
      rw [hu] at hq
      cases hs : tsz P e with
      | none => simp [hs] at hq
      | some n => exact ⟨n, rfl⟩
    obtain ⟨n, hs⟩ := hs
    cases hv
    refine ⟨_, go rfl hu hs hh (by omega) (by omega) (by omega), ?_⟩
    simpa [slV] using (RepV.nils (w := w) (I := I) (μ := μ) (σ := σ))
  | osl id off len =>
    obtain ⟨h3, h0, h1, h2, h4, h5⟩ := ho
    obtain ⟨e, he⟩ := Option.isSome_iff_exists.1 h3
    have hu := telem_spec he
    obtain ⟨e', hu', hs⟩ := tidx_slice h5
    rw [hu] at hu'
    simp only [Option.some.injEq, TypeDesc.slice.injEq] at hu'
    subst hu'
    have hal : alive σ id := by unfold alive; cases hB : blkAt σ id <;> simp_all [Blk.isArr, Blk.isDead]
    cases hv with
    | osl _ _ _ _ hid hv' =>
      rcases hv' with ⟨rfl, a, rfl⟩ | ⟨b, base, es, cap, q1, q2, rfl⟩
      · have hl0 : l = 0 := by simp at h2; omega
        have hh0 : h = 0 := by simp at h2; omega
        subst hl0; subst hh0
        refine ⟨_, go rfl hu hs hh (by omega) (by omega) (by omega), ?_⟩
        simp only [Int.toNat_zero, Nat.sub_self, if_true, slV]
        exact .osl _ _ _ _ hid (.inl ⟨rfl, a, rfl⟩)
      · obtain ⟨r1, r2, r3, r4, r5⟩ := q1 hal
        refine ⟨_, go rfl hu hs hh h0 h1 (by omega), ?_⟩
        subst r3
        by_cases hz : cap = l.toNat
        · rw [if_pos hz]
          have e1 : h.toNat - l.toNat = 0 := by omega
          have e2 : cap - l.toNat = 0 := by omega
          simp only [slV, e1, e2]
          exact .osl _ _ _ _ hid (.inl ⟨rfl, _, rfl⟩)
        · rw [if_neg hz]
          refine .osl _ _ _ _ hid (.inr ⟨b, base, (blkAt σ id).es, cap - l.toNat, fun _ => ⟨r1, r2, rfl, by omega, ?_⟩, by omega, ?_⟩)
          · have : off + l.toNat + (cap - l.toNat) = off + cap := by omega
            rw [this]; exact r5
          · simp only [Option.map_some, addr_add]
            congr 3
            rw [Nat.add_mul]; omega
  | _ => exact ho.elim

/-! ### new variables -/
theorem box_goes (h : Rel w I μ σ) (t : TypeId) {v : Value} {u : AV} (hv : RepV w I μ σ v u) (hs : u.storable = true) :
    ∃ w' μ', (Instr.box t v).run P w = .ok (.pointer (some ⟨w.heap.size, 0, none⟩)) w' ∧ Rel w' I μ' (σ ++ [.box u.ncells u]) ∧ Keep σ.length w I μ σ w' I μ' (σ ++ [.box u.ncells u]) ∧
      RepV w' I μ' (σ ++ [.box u.ncells u]) (.pointer (some ⟨w.heap.size, 0, none⟩)) (.ptr σ.length 0) := by
  obtain ⟨vs, hc1, hc2, hc3⟩ := cells_rep hv hs
  have hsz : vs.toArray.size = u.ncells := by simpa using hc2
  have k := keep_alloc h (.cells vs.toArray t) (w.heap.size, 0) (.box vs.toArray.size u)
  have r := h.newBox vs.toArray t u (by rw [hsz]) (fun j c hc => by
    have := hc3 j c (by simpa using hc)
    exact ⟨this.2.1, this.1⟩)
  have q := newBox_rep (I := I) (μ := μ) (σ := σ) (w := w) vs.toArray t u
  rw [hsz] at k r q
  refine ⟨_, _, ?_, r, k, q⟩
  simp only [Instr.box, newVar, newRow, hc1, Sem.run_bind, run_newObj, Result.andThen_ok, Sem.run_pure]
  rfl

theorem alloc_goes (h : Rel w I μ σ) {t : TypeId} {z : Value} (hz : tzero P t = some z) (hs : (constV z).storable = true) :
    ∃ w' μ', (Instr.alloc t true (.tuple #[])).run P w = .ok (.pointer (some ⟨w.heap.size, 0, none⟩)) w' ∧ Rel w' I μ' (σ ++ [.box (constV z).ncells (constV z)]) ∧ Keep σ.length w I μ σ w' I μ' (σ ++ [.box (constV z).ncells (constV z)]) ∧
      RepV w' I μ' (σ ++ [.box (constV z).ncells (constV z)]) (.pointer (some ⟨w.heap.size, 0, none⟩)) (.ptr σ.length 0) := by
  obtain ⟨w', μ', h1, h2⟩ := box_goes (P := P) h t (constV_rep z) hs
  refine ⟨w', μ', ?_, h2⟩
  simp only [Instr.alloc, Sem.run_bind, run_zeroValue' hz, Result.andThen_ok]
  simp only [Instr.box, Sem.run_bind] at h1
  exact h1

end Go.AM

/-
  The operations run, seventh part: append.
-/
namespace Go.AM

variable {P : Program} {w : World} {I : Im} {μ : Pos} {σ : Sto}

/-- the cells of a row of elements, as values -/
theorem row_cells {b o es : Nat} {xs : List D} (hes : 0 < es) (hsz : ∀ x ∈ xs, x.cells.length = es) (hfl : ∀ x ∈ xs, x.flat)
    (hc : ∀ (i j : Nat) (x y : D), xs[i]? = some x → x.cells[j]? = some y → ∃ v, w.cell? ⟨b, o + i * es + j, none⟩ = some v ∧ RepD w I v y) :
    ∃ news : List Value, news.length = xs.length * es ∧ (∀ j u, news[j]? = some u → w.cell? ⟨b, o + j, none⟩ = some u) ∧
      (∀ (i j : Nat) (x y : D), xs[i]? = some x → x.cells[j]? = some y → ∃ u, news[i * es + j]? = some u ∧ RepD w I u y) ∧ (∀ u ∈ news, u.oneCell' = true) := by
  have at_ : ∀ q, q < xs.length * es → ∃ u y, w.cell? ⟨b, o + q, none⟩ = some u ∧ RepD w I u y ∧ y.one = true := fun q hq => by
    have hi : q / es < xs.length := Nat.div_lt_of_lt_mul (by rw [Nat.mul_comm]; exact hq)
    have hj : q % es < es := Nat.mod_lt _ hes
    have hx : xs[q / es]? = some xs[q / es] := List.getElem?_eq_getElem hi
    have hjl : q % es < xs[q / es].cells.length := by rw [hsz _ (List.getElem_mem hi)]; exact hj
    obtain ⟨v, hv, hr⟩ := hc (q / es) (q % es) _ _ hx (List.getElem?_eq_getElem hjl)
    have e : o + q / es * es + q % es = o + q := by rw [Nat.add_assoc, Nat.div_add_mod']
    rw [e] at hv
    exact ⟨v, _, hv, hr, hfl _ (List.getElem_mem hi) _ (List.getElem_mem hjl)⟩
  refine ⟨(List.range (xs.length * es)).map fun q => (w.cell? ⟨b, o + q, none⟩).getD Go.undef, by simp, fun j u hu => ?_, fun i j x y hx hy => ?_, fun u hu => ?_⟩
  · rw [List.getElem?_map] at hu
    rcases Nat.lt_or_ge j (xs.length * es) with hj | hj
    · obtain ⟨u', _, hu', _⟩ := at_ j hj
      simp [hj, hu'] at hu
      rw [← hu]; exact hu'
    · simp [hj] at hu
  · obtain ⟨v, hv, hr⟩ := hc i j x y hx hy
    refine ⟨v, ?_, hr⟩
    have hil : i < xs.length := by
      rcases Nat.lt_or_ge i xs.length with h' | h'
      · exact h'
      · rw [List.getElem?_eq_none h'] at hx; cases hx
    have hjl : j < es := by
      rw [← hsz x (List.mem_of_getElem? hx)]
      rcases Nat.lt_or_ge j x.cells.length with h' | h'
      · exact h'
      · rw [List.getElem?_eq_none h'] at hy; cases hy
    have hq : i * es + j < xs.length * es := by
      have : (i + 1) * es ≤ xs.length * es := Nat.mul_le_mul_right es hil
      rw [Nat.add_mul] at this
      omega
    rw [List.getElem?_map]
    rw [Nat.add_assoc] at hv
    simp [hq, hv]
  · obtain ⟨j, hj⟩ := List.getElem?_of_mem hu
    rw [List.getElem?_map] at hj
    rcases Nat.lt_or_ge j (xs.length * es) with hjl | hjl
    · obtain ⟨u', y, hu', hr, h1⟩ := at_ j hjl
      simp [hjl, hu'] at hj
      rw [← hj]; exact hr.oneCell h1
    · simp [hjl] at hj

def srcOk (σ : Sto) (es : Nat) : AV → Prop
  | .d (.sl xs) => ∀ x ∈ xs, x.cells.length = es
  | .osl id _ _ => (blkAt σ id).isArr = true ∧ (blkAt σ id).es = es
  | .nils => True
  | _ => False
def dstOk (σ : Sto) (es : Nat) : AV → Prop
  | .osl id _ _ => (blkAt σ id).isOwnArr = true ∧ (blkAt σ id).es = es
  | .nils => True
  | _ => False

theorem run_loadCells_at {b o : Nat} {cs : List Value} (h : ∀ j v, cs[j]? = some v → w.cell? ⟨b, o + j, none⟩ = some v) : (loadCells ⟨b, o, none⟩ cs.length).run P w = .ok cs.toArray w :=
  run_loadCells_list w _ cs fun j v hj => by rw [addr_add]; exact h j v hj

/-- what a slice that is read holds -/
theorem src_cells (h : Rel w I μ σ) {es : Nat} (hes : 0 < es) {v : Value} {x : AV} (hv : RepV w I μ σ v x) (ho : srcOk σ es x) :
    ∃ (a : Option Addr) (c : Nat) (news : List Value), v = .slice a (x.elems σ).length c ∧ news.length = (x.elems σ).length * es ∧
      (∀ w' : World, w'.heap = w.heap → (Builtin.firstCells es (x.elems σ).length v).run P w' = .ok news.toArray w') ∧
      (∀ (i j : Nat) (z y : D), (x.elems σ)[i]? = some z → z.cells[j]? = some y → ∃ u, news[i * es + j]? = some u ∧ RepD w I u y) ∧ (∀ u ∈ news, u.oneCell' = true) ∧
      (∀ z ∈ x.elems σ, z.cells.length = es) ∧ (∀ z ∈ x.elems σ, z.flat) ∧ (∀ (b o : Nat), a = some ⟨b, o, none⟩ → ∀ j u, news[j]? = some u → w.cell? ⟨b, o + j, none⟩ = some u) := by
  have none_ : ∀ (a : Option Addr) (c : Nat), v = .slice a 0 c → x.elems σ = [] → ∃ (a : Option Addr) (c : Nat) (news : List Value), v = .slice a (x.elems σ).length c ∧ news.length = (x.elems σ).length * es ∧
      (∀ w' : World, w'.heap = w.heap → (Builtin.firstCells es (x.elems σ).length v).run P w' = .ok news.toArray w') ∧
      (∀ (i j : Nat) (z y : D), (x.elems σ)[i]? = some z → z.cells[j]? = some y → ∃ u, news[i * es + j]? = some u ∧ RepD w I u y) ∧ (∀ u ∈ news, u.oneCell' = true) ∧
      (∀ z ∈ x.elems σ, z.cells.length = es) ∧ (∀ z ∈ x.elems σ, z.flat) ∧ (∀ (b o : Nat), a = some ⟨b, o, none⟩ → ∀ j u, news[j]? = some u → w.cell? ⟨b, o + j, none⟩ = some u) := by
    intro a c hv he
    rw [he]
    refine ⟨a, c, [], hv, by simp, fun w' _ => ?_, fun i j z y hz => by simp at hz, fun u hu => by simp at hu, fun z hz => by simp at hz, fun z hz => by simp at hz, fun b o _ j u hu => by simp at hu⟩
    subst hv
    cases a with
    | none => simp [Builtin.firstCells]
    | some a => simp [Builtin.firstCells, loadCells, loadCellsFrom]
  have some_ : ∀ (b o c : Nat), v = .slice (some ⟨b, o, none⟩) (x.elems σ).length c → (∀ z ∈ x.elems σ, z.cells.length = es) → (∀ z ∈ x.elems σ, z.flat) →
      (∀ (i j : Nat) (z y : D), (x.elems σ)[i]? = some z → z.cells[j]? = some y → ∃ v, w.cell? ⟨b, o + i * es + j, none⟩ = some v ∧ RepD w I v y) → ∃ (a : Option Addr) (c : Nat) (news : List Value), v = .slice a (x.elems σ).length c ∧ news.length = (x.elems σ).length * es ∧
      (∀ w' : World, w'.heap = w.heap → (Builtin.firstCells es (x.elems σ).length v).run P w' = .ok news.toArray w') ∧
      (∀ (i j : Nat) (z y : D), (x.elems σ)[i]? = some z → z.cells[j]? = some y → ∃ u, news[i * es + j]? = some u ∧ RepD w I u y) ∧ (∀ u ∈ news, u.oneCell' = true) ∧
      (∀ z ∈ x.elems σ, z.cells.length = es) ∧ (∀ z ∈ x.elems σ, z.flat) ∧ (∀ (b o : Nat), a = some ⟨b, o, none⟩ → ∀ j u, news[j]? = some u → w.cell? ⟨b, o + j, none⟩ = some u) := by
    intro b o c hv h1 h2 h3
    obtain ⟨news, n1, n2, n3, n4⟩ := row_cells hes h1 h2 h3
    refine ⟨some ⟨b, o, none⟩, c, news, hv, n1, fun w' hw' => ?_, n3, n4, h1, h2, fun b' o' he => by simp only [Option.some.injEq, Addr.mk.injEq] at he; obtain ⟨rfl, rfl, _⟩ := he; exact n2⟩
    subst hv
    have : (loadCells ⟨b, o, none⟩ news.length).run P w' = .ok news.toArray w' := run_loadCells_at fun j u hj => by
      rw [World.cell?_of_block (w := w) (by rw [hw'])]; exact n2 j u hj
    rw [n1] at this
    simpa [Builtin.firstCells] using this
  cases x with
  | d y =>
    cases y with
    | sl xs =>
      cases hv.inv_d with
      | nil a cap => exact none_ a cap rfl rfl
      | sl b off es' cap _ vals hI hcap hes' hfl hc hr =>
        have e : xs = [] ∨ es' = es := by
          cases xs with
          | nil => exact .inl rfl
          | cons z r => right; rw [← hes' z List.mem_cons_self]; exact ho z List.mem_cons_self
        rcases e with rfl | rfl
        · exact none_ _ cap rfl rfl
        · refine some_ b off cap rfl hes' hfl fun i j z y hz hy => ?_
          have hz' : xs[i]? = some z := hz
          have hil : i < xs.length := by
            rcases Nat.lt_or_ge i xs.length with h' | h'
            · exact h'
            · rw [List.getElem?_eq_none h'] at hz'; cases hz'
          have hjl : j < es' := by
            rw [← hes' z (List.mem_of_getElem? hz')]
            rcases Nat.lt_or_ge j z.cells.length with h' | h'
            · exact h'
            · rw [List.getElem?_eq_none h'] at hy; cases hy
          exact ⟨vals i j, hc i j hil hjl, hr i j z y hz' hy⟩
    | _ => exact ho.elim
  | nils => cases hv; exact none_ none 0 rfl rfl
  | osl id off len =>
    obtain ⟨h1, h2⟩ := ho
    have hal : alive σ id := by unfold alive; cases hB : blkAt σ id <;> simp_all [Blk.isArr, Blk.isDead]
    cases hv with
    | osl _ _ _ _ hid hh =>
      rcases hh with ⟨rfl, a, rfl⟩ | ⟨b, base, es', cap, q1, q2, rfl⟩
      · exact none_ a 0 rfl (by simp [AV.elems])
      · obtain ⟨r1, r2, r3, r4, r5⟩ := q1 hal
        rw [h2] at r3
        subst r3
        have hlen : ((AV.osl id off len).elems σ).length = len := by simp [AV.elems]; omega
        by_cases hz : len = 0
        · subst hz; exact none_ _ cap rfl (by simp [AV.elems])
        · obtain ⟨b', base', _, _, hμ, h5, h6, h7⟩ := h.arrOf h1 (i := off) (by omega)
          rw [r1] at hμ
          simp only [Option.some.injEq, Prod.mk.injEq] at hμ
          obtain ⟨rfl, rfl⟩ := hμ
          rw [h2] at h5 h7
          have hmem : ∀ z ∈ (AV.osl id off len).elems σ, z ∈ (blkAt σ id).xs := fun z hz => List.mem_of_mem_drop (List.mem_of_mem_take hz)
          refine some_ b (base + off * es) cap (by rw [hlen]) (fun z hz => h5 z (hmem z hz)) (fun z hz => h6 z (hmem z hz)) fun i j z y hz hy => ?_
          have hz' : (blkAt σ id).xs[off + i]? = some z := by
            simp only [AV.elems] at hz
            rw [List.getElem?_take] at hz
            split at hz
            · simpa using hz
            · cases hz
          obtain ⟨v, hv, hr⟩ := h7 (off + i) j z y hz' hy
          refine ⟨v, ?_, hr⟩
          rw [← hv]
          congr 2
          rw [Nat.add_mul]; omega
  | _ => exact ho.elim

/-- append, where there is room -/
theorem run_append_in {t1 t2 ty e : TypeId} {i : TypeInfo} {e2 : TypeId} (ht : P.underlying t1 = some (.slice e)) (hi : P.info? e = some i) (ht2 : P.underlying t2 = some (.slice e2))
    {sb xa : Option Addr} {sLen sCap m c : Nat} {news : List Value} (hf : (Builtin.firstCells i.size m (.slice xa m c)).run P w = .ok news.toArray w) (hroom : sLen + m ≤ sCap)
    {w' : World} (hst : match sb with | some a => (storeCells (a.add (sLen * i.size)) news).run P w = .ok () w' | none => w' = w) :
    (Builtin.append_ #[t1, t2] ty #[.slice sb sLen sCap, .slice xa m c]).run P w = .ok (.slice sb (sLen + m) sCap) w' := by
  cases sb with
  | none => subst hst; simp [Builtin.append_, run_underlying ht, run_underlying ht2, sizeOf, typeInfo, hi, Builtin.lenOf, hroom, hf]
  | some a => simp [Builtin.append_, run_underlying ht, run_underlying ht2, sizeOf, typeInfo, hi, Builtin.lenOf, hroom, hf, hst]

theorem run_append_new {t1 t2 ty e : TypeId} {i : TypeInfo} {z : Value} {e2 : TypeId} (ht : P.underlying t1 = some (.slice e)) (hi : P.info? e = some i) (hz : i.zero = some z) (ht2 : P.underlying t2 = some (.slice e2))
    {sb xa : Option Addr} {sLen sCap m c : Nat} {olds news : List Value} (hf : ∀ w' : World, w'.heap = w.heap → (Builtin.firstCells i.size m (.slice xa m c)).run P w' = .ok news.toArray w')
    (ho : ∀ w' : World, w'.heap = w.heap → (Builtin.firstCells i.size sLen (.slice sb sLen sCap)).run P w' = .ok olds.toArray w')
    (hg : sCap < sLen + m) (h63 : sLen + m ≤ 4611686018427387904) (hfit : (sLen + m) * i.bytes ≤ 140737488355328) :
    (Builtin.append_ #[t1, t2] ty #[.slice sb sLen sCap, .slice xa m c]).run P w =
      .ok (.slice (some ⟨w.heap.size, 0, none⟩) (sLen + m) (grownCap w (sLen + m) sCap e))
        (w.drew.alloc (.cells (olds.toArray ++ news.toArray ++ Builtin.zeroCells z.cells (grownCap w (sLen + m) sCap e - (sLen + m))) e)) := by
  have hn : ¬ (sLen + m ≤ sCap) := by omega
  have h63' : ¬ (9223372036854775807 < ((sLen : Int) + (m : Int))) := by omega
  have h48 := growslice_fits hg hfit
  have h48' : ¬ (281474976710656 < Builtin.nextslicecap (sLen + m) sCap * i.bytes) := by omega
  have hf' := hf w.drew rfl
  have ho' := ho w.drew rfl
  simp [Builtin.append_, run_underlying ht, run_underlying ht2, sizeOf, typeInfo, zeroValue, hi, hz, Builtin.lenOf, hn, h63', h48', Question.forced, hf', ho', newRow, grownCap]
  congr 2
  apply Array.ext'
  simp

theorem WroteAt.free {w' : World} (h : Rel w I μ σ) {b : Nat} (hI : ¬ I.fr b) (hno : ∀ id o, (blkAt σ id).own = true → μ id ≠ some (b, o)) (ww : WroteAt b w w') : Rel w' I μ σ ∧ Keep σ.length w I μ σ w' I μ σ := by
  have k : Keep σ.length w I μ σ w' I μ σ := ⟨ww.os, ww.tape, ww.output, by rw [ww.size]; exact Nat.le_refl _, fun _ h => h, fun _ h => h, fun _ h => .inl h, fun b' hb => ww.else_ b' (fun e => hI (e ▸ hb)), fun b' => by
    by_cases e : b' = b
    · subst e; rw [ww.bsize]; exact Nat.le_refl _
    · rw [blkSize_same (ww.else_ b' e)]; exact Nat.le_refl _, Nat.le_refl _, fun _ _ h => ⟨h, rfl, rfl, rfl, Nat.le_refl _⟩⟩
  refine ⟨⟨fun b' hb => by rw [ww.size]; exact h.imm b' hb, fun id hid => (h.blk id hid).keep k rfl fun ho b' o hμ => ⟨ww.else_ b' (fun e => hno id o ho (by rw [hμ, e])), fun hn => hn⟩, h.apart⟩, k⟩

/-- one more array, in a block that no other owns -/
theorem Rel.addArr (h : Rel w I μ σ) {b base es : Nat} {xs : List D} (hI : ¬ I.fr b) (hno : ∀ id o, (blkAt σ id).own = true → μ id ≠ some (b, o)) (hp : plainBlk w b) (hn : base + xs.length * es ≤ blkSize w b)
    (hes : ∀ x ∈ xs, x.cells.length = es) (hfl : ∀ x ∈ xs, x.flat)
    (hc : ∀ (i j : Nat) (x y : D), xs[i]? = some x → x.cells[j]? = some y → ∃ u, w.cell? ⟨b, base + i * es + j, none⟩ = some u ∧ RepD w I u y) :
    Rel w I (posNew μ σ.length (b, base)) (σ ++ [.arr es xs]) ∧ Keep σ.length w I μ σ w I (posNew μ σ.length (b, base)) (σ ++ [.arr es xs]) := by
  have k : Keep σ.length w I μ σ w I (posNew μ σ.length (b, base)) (σ ++ [.arr es xs]) :=
    ⟨rfl, rfl, rfl, Nat.le_refl _, fun _ h => h, fun _ h => h, fun _ h => .inl h, fun _ _ => rfl, fun _ => Nat.le_refl _, by simp, fun id hid ha => by
      unfold alive at *
      rw [blkAt_append_old hid] at ha ⊢
      exact ⟨ha, posNew_ne _ _ (by omega), rfl, rfl, Nat.le_refl _⟩⟩
  refine ⟨⟨h.imm, fun id hid => ?_, ?_⟩, k⟩
  · simp only [List.length_append, List.length_cons, List.length_nil] at hid
    by_cases e : id = σ.length
    · subst e
      rw [blkAt_append_new]
      exact .inr ⟨b, base, posNew_self _ _ _, hI, hp, hn, hes, hfl, hc⟩
    · have hid' : id < σ.length := by omega
      rw [blkAt_append_old hid']
      exact (h.blk id hid').keep k (posNew_ne _ _ e) fun _ _ _ _ => ⟨rfl, fun hn => hn⟩
  · intro i j bi bj oi oj hij hi hj hμi hμj
    have li := blkAt_own_lt hi
    have lj := blkAt_own_lt hj
    simp only [List.length_append, List.length_cons, List.length_nil] at li lj
    by_cases ei : i = σ.length
    · subst ei
      have lj' : j < σ.length := by omega
      rw [posNew_self] at hμi
      rw [posNew_ne _ _ (by omega)] at hμj
      rw [blkAt_append_old lj'] at hj
      simp only [Option.some.injEq, Prod.mk.injEq] at hμi
      obtain ⟨rfl, rfl⟩ := hμi
      intro e; subst e
      exact hno j oj hj hμj
    · have li' : i < σ.length := by omega
      rw [posNew_ne _ _ ei] at hμi
      rw [blkAt_append_old li'] at hi
      by_cases ej : j = σ.length
      · subst ej
        rw [posNew_self] at hμj
        simp only [Option.some.injEq, Prod.mk.injEq] at hμj
        obtain ⟨rfl, rfl⟩ := hμj
        intro e; subst e
        exact hno i oi hi hμi
      · have lj' : j < σ.length := by omega
        rw [posNew_ne _ _ ej] at hμj
        rw [blkAt_append_old lj'] at hj
        exact h.apart i j bi bj oi oj hij hi hj hμi hμj

/-- one more array, of no elements, wherever -/
theorem Rel.addNone (h : Rel w I μ σ) (es : Nat) : ∃ μ', Rel w I μ' (σ ++ [.arr es []]) ∧ Keep σ.length w I μ σ w I μ' (σ ++ [.arr es []]) := by
  let μ' : Pos := fun i => if i = σ.length then none else μ i
  have ne : ∀ i, i ≠ σ.length → μ' i = μ i := fun i hi => by simp [μ', hi]
  have k : Keep σ.length w I μ σ w I μ' (σ ++ [.arr es []]) :=
    ⟨rfl, rfl, rfl, Nat.le_refl _, fun _ h => h, fun _ h => h, fun _ h => .inl h, fun _ _ => rfl, fun _ => Nat.le_refl _, by simp, fun id hid ha => by
      unfold alive at *
      rw [blkAt_append_old hid] at ha ⊢
      exact ⟨ha, ne _ (by omega), rfl, rfl, Nat.le_refl _⟩⟩
  refine ⟨μ', ⟨h.imm, fun id hid => ?_, ?_⟩, k⟩
  · simp only [List.length_append, List.length_cons, List.length_nil] at hid
    by_cases e : id = σ.length
    · subst e
      rw [blkAt_append_new]
      exact .inl ⟨by simp [μ'], rfl⟩
    · have hid' : id < σ.length := by omega
      rw [blkAt_append_old hid']
      exact (h.blk id hid').keep k (ne _ e) fun _ _ _ _ => ⟨rfl, fun hn => hn⟩
  · intro i j bi bj oi oj hij hi hj hμi hμj
    have li := blkAt_own_lt hi
    have lj := blkAt_own_lt hj
    simp only [List.length_append, List.length_cons, List.length_nil] at li lj
    by_cases ei : i = σ.length
    · subst ei; simp [μ'] at hμi
    · by_cases ej : j = σ.length
      · subst ej; simp [μ'] at hμj
      · rw [ne _ ei] at hμi
        rw [ne _ ej] at hμj
        rw [blkAt_append_old (by omega)] at hi hj
        exact h.apart i j bi bj oi oj hij hi hj hμi hμj

def killS (σ : Sto) : AV → Sto
  | .osl id _ _ => σ.set id .dead
  | _ => σ

theorem killS_ok (h : Rel w I μ σ) (s : AV) : Rel w I μ (killS σ s) ∧ Keep σ.length w I μ σ w I μ (killS σ s) ∧ (killS σ s).length = σ.length := by
  cases s with
  | osl id _ _ => exact ⟨h.kill id, keep_kill id, by simp [killS]⟩
  | _ => exact ⟨h, Keep.refl _ _ _ _ (Nat.le_refl _), rfl⟩

def apOk (P : Program) (σ : Sto) (t1 t2 : TypeId) (s x : AV) : Prop :=
  match telem P t1 with
  | some e => match tsz P e, tbytes P e, tzero P e with
    | some es, some by_, some z => 0 < es ∧ z.cells.size = es ∧ (telem P t2).isSome = true ∧ dstOk σ es s ∧ srcOk σ es x ∧ (s.len + (x.elems σ).length) * by_ ≤ 140737488355328 ∧ s.len + (x.elems σ).length ≤ 4611686018427387904
    | _, _, _ => False
  | none => False
def apEs (P : Program) (t1 : TypeId) : Nat := match telem P t1 with | some e => (tsz P e).getD 0 | none => 0
def apS (P : Program) (σ : Sto) (t1 : TypeId) (s x : AV) : Sto := killS σ s ++ [.arr (apEs P t1) (s.elems σ ++ x.elems σ)]
def apV (σ : Sto) (s x : AV) : AV := .osl σ.length 0 (s.len + (x.elems σ).length)

theorem info_of {e : TypeId} {es by_ : Nat} {z : Value} (h1 : tsz P e = some es) (h2 : tbytes P e = some by_) (h3 : tzero P e = some z) : ∃ i, P.info? e = some i ∧ i.size = es ∧ i.bytes = by_ ∧ i.zero = some z := by
  unfold tsz at h1; unfold tbytes at h2; unfold tzero at h3
  cases hi : P.info? e with
  | none => rw [hi] at h1; cases h1
  | some i =>
    rw [hi] at h1 h2 h3
    simp at h1 h2 h3
    exact ⟨i, rfl, h1, h2, h3⟩

theorem inv_nils {v : Value} (h : RepV w I μ σ v .nils) : v = .slice none 0 0 := by cases h; rfl

theorem inv_osl {v : Value} {id off len : Nat} (h : RepV w I μ σ v (.osl id off len)) : id < σ.length ∧ ((len = 0 ∧ ∃ a, v = .slice a 0 0) ∨
        ∃ b base es cap, (alive σ id → μ id = some (b, base) ∧ (blkAt σ id).isArr = true ∧ (blkAt σ id).es = es ∧ off + len ≤ (blkAt σ id).xs.length ∧ base + (off + cap) * es ≤ blkSize w b) ∧
          len ≤ cap ∧ v = .slice (some ⟨b, base + off * es, none⟩) len cap) := by
  cases h with
  | osl _ _ _ _ hid hh => exact ⟨hid, hh⟩

theorem append_goes (h : Rel w I μ σ) {t1 t2 ty : TypeId} {sv xv : Value} {s x : AV} (hs : RepV w I μ σ sv s) (hx : RepV w I μ σ xv x) (ho : apOk P σ t1 t2 s x) :
    ∃ z w' μ', (Builtin.append_ #[t1, t2] ty #[sv, xv]).run P w = .ok z w' ∧ Rel w' I μ' (apS P σ t1 s x) ∧ Keep σ.length w I μ σ w' I μ' (apS P σ t1 s x) ∧ RepV w' I μ' (apS P σ t1 s x) z (apV σ s x) := by
  unfold apOk at ho
  cases hte : telem P t1 with
  | none => rw [hte] at ho; exact ho.elim
  | some e =>
  rw [hte] at ho
  cases hz1 : tsz P e with
  | none => simp [hz1] at ho
  | some es =>
  cases hz2 : tbytes P e with
  | none => simp [hz1, hz2] at ho
  | some by_ =>
  cases hz3 : tzero P e with
  | none => simp [hz1, hz2, hz3] at ho
  | some zv =>
  simp only [hz1, hz2, hz3] at ho
  obtain ⟨hes, hzs, ht2, hd, hsrc, hbytes, h62⟩ := ho
  obtain ⟨i, hi, i1, i2, i3⟩ := info_of hz1 hz2 hz3
  obtain ⟨e2, he2⟩ := Option.isSome_iff_exists.1 ht2
  have hu1 := telem_spec hte
  have hu2 := telem_spec he2
  have hap : apEs P t1 = es := by unfold apEs; rw [hte]; simp [hz1]
  obtain ⟨xa, xc, news, hxv, hnl, hfx, hnr, hn1, hxs, hxf, _⟩ := src_cells (P := P) h hes hx hsrc
  have hsrcS : srcOk σ es s := by
    cases s with
    | osl id off len => exact ⟨by have := hd.1; cases hB : blkAt σ id <;> simp_all [Blk.isOwnArr, Blk.isArr], hd.2⟩
    | nils => trivial
    | _ => exact hd.elim
  obtain ⟨sa, sc, olds, hsv, hol, hfs, hor, ho1, hss, hsf, hoc⟩ := src_cells (P := P) h hes hs hsrcS
  have hlen : s.len = (s.elems σ).length := by
    cases s with
    | nils => rfl
    | osl id off len =>
      cases hs with
      | osl _ _ _ _ hid hh =>
        rcases hh with ⟨rfl, a, rfl⟩ | ⟨b, base, es', cap, _, _, rfl⟩
        · simp at hsv; exact hsv.2.1
        · simp at hsv; exact hsv.2.1
    | _ => exact hd.elim
  obtain ⟨hr1, hk1, hl1⟩ := killS_ok h s
  rw [hlen] at hbytes h62
  have hV : apV σ s x = .osl σ.length 0 ((s.elems σ).length + (x.elems σ).length) := by unfold apV; rw [hlen]
  have hallsz : ∀ z ∈ s.elems σ ++ x.elems σ, z.cells.length = es := fun z hz => (List.mem_append.1 hz).elim (hss z) (hxs z)
  have hallfl : ∀ z ∈ s.elems σ ++ x.elems σ, z.flat := fun z hz => (List.mem_append.1 hz).elim (hsf z) (hxf z)
  have hjl : ∀ {z y : D} {j : Nat}, z.cells.length = es → z.cells[j]? = some y → j < es := fun {z y j} hz hy => by
    rcases Nat.lt_or_ge j z.cells.length with h' | h'
    · omega
    · rw [List.getElem?_eq_none h'] at hy; cases hy
  -- the cells of both, one behind the other
  have hboth : ∀ (i j : Nat) (z y : D), (s.elems σ ++ x.elems σ)[i]? = some z → z.cells[j]? = some y → ∃ u, (olds ++ news)[i * es + j]? = some u ∧ RepD w I u y := fun i j z y hz hy => by
    have hj := hjl (hallsz z (List.mem_of_getElem? hz)) hy
    by_cases hi' : i < (s.elems σ).length
    · rw [List.getElem?_append_left hi'] at hz
      obtain ⟨u, hu, hr⟩ := hor i j z y hz hy
      refine ⟨u, ?_, hr⟩
      have : i * es + j < olds.length := by
        rw [hol]
        have : (i + 1) * es ≤ (s.elems σ).length * es := Nat.mul_le_mul_right es hi'
        rw [Nat.add_mul] at this; omega
      rw [List.getElem?_append_left this]; exact hu
    · rw [List.getElem?_append_right (by omega)] at hz
      obtain ⟨u, hu, hr⟩ := hnr (i - (s.elems σ).length) j z y hz hy
      refine ⟨u, ?_, hr⟩
      have e3 : i * es + j = olds.length + ((i - (s.elems σ).length) * es + j) := by
        rw [hol, ← Nat.add_assoc, ← Nat.add_mul]
        congr 2; omega
      rw [e3, List.getElem?_append_right (by omega), Nat.add_sub_cancel_left]; exact hu
  subst hxv; subst hsv
  unfold apS
  rw [hap, hV]
  by_cases hroom : (s.elems σ).length + (x.elems σ).length ≤ sc
  · -- in place
    have degen : (∃ a, (Value.slice sa (s.elems σ).length sc) = .slice a 0 0) → ∃ z w' μ', (Builtin.append_ #[t1, t2] ty #[.slice sa (s.elems σ).length sc, .slice xa (x.elems σ).length xc]).run P w = .ok z w' ∧ Rel w' I μ' (killS σ s ++ [.arr es (s.elems σ ++ x.elems σ)]) ∧
        Keep σ.length w I μ σ w' I μ' (killS σ s ++ [.arr es (s.elems σ ++ x.elems σ)]) ∧ RepV w' I μ' (killS σ s ++ [.arr es (s.elems σ ++ x.elems σ)]) z (.osl σ.length 0 ((s.elems σ).length + (x.elems σ).length)) := by
      rintro ⟨a, ha⟩
      simp only [Value.slice.injEq] at ha
      obtain ⟨rfl, hl0, rfl⟩ := ha
      have hm0 : (x.elems σ).length = 0 := by omega
      have e1 : s.elems σ = [] := List.eq_nil_of_length_eq_zero hl0
      have e2' : x.elems σ = [] := List.eq_nil_of_length_eq_zero hm0
      have hn0 : news = [] := List.eq_nil_of_length_eq_zero (by rw [hnl, hm0, Nat.zero_mul])
      obtain ⟨μ', q1, q2⟩ := hr1.addNone es
      rw [hl1] at q2
      rw [e1, e2']
      refine ⟨.slice sa 0 0, w, μ', ?_, q1, hk1.trans q2, .osl _ _ _ _ (by rw [List.length_append, hl1]; simp) (.inl ⟨rfl, sa, rfl⟩)⟩
      have := run_append_in (P := P) (w := w) (ty := ty) hu1 hi hu2 (sb := sa) (sLen := 0) (sCap := 0) (m := 0) (c := xc) (xa := xa) (news := []) (by have := hfx w rfl; rw [hm0, hn0] at this; rw [i1]; exact this) (Nat.le_refl 0) (w' := w) (by
        cases sa with
        | none => rfl
        | some a => simp [storeCells])
      simpa using this
    cases s with
    | nils => exact degen ⟨none, inv_nils hs⟩
    | osl id off len =>
      have hal : alive σ id := by have := hd.1; unfold alive; cases hB : blkAt σ id <;> simp_all [Blk.isOwnArr, Blk.isDead]
      have hown : (blkAt σ id).own = true := by have := hd.1; cases hB : blkAt σ id <;> simp_all [Blk.isOwnArr, Blk.own]
      have hlen' : len = ((AV.osl id off len).elems σ).length := hlen
      generalize hE : (AV.osl id off len).elems σ = E at *
      obtain ⟨hid, hh⟩ := inv_osl hs
      · rcases hh with ⟨hl0, a, ha⟩ | ⟨b, base, es', cap, q1, q2, hv⟩
        · exact degen ⟨a, ha⟩
        · simp only [Value.slice.injEq] at hv
          obtain ⟨rfl, hEl, rfl⟩ := hv
          obtain ⟨r1, r2, r3, r4, r5⟩ := q1 hal
          have hes2 : (blkAt σ id).es = es := hd.2
          rw [hes2] at r3
          subst r3
          obtain ⟨hbl, hnI⟩ := own_lt h hid hown r1
          have hpl : plainBlk w b := by
            have hb := h.blk id hid
            cases hB : blkAt σ id with
            | arr es' xs' =>
              rw [hB] at hb
              rcases hb with ⟨h1, _⟩ | ⟨b', base', h1, _, h3, _⟩
              · rw [r1] at h1; cases h1
              · rw [r1] at h1
                simp only [Option.some.injEq, Prod.mk.injEq] at h1
                obtain ⟨rfl, rfl⟩ := h1
                exact h3
            | _ => simp [dstOk, hB, Blk.isOwnArr] at hd
          have hbnd : base + off * es + E.length * es + news.length ≤ blkSize w b := by
            rw [hnl]
            have h3 : (off + (E.length + (x.elems σ).length)) * es ≤ (off + sc) * es := Nat.mul_le_mul_right es (by omega)
            rw [Nat.add_mul, Nat.add_mul] at h3
            omega
          obtain ⟨w', hr, ww, hw⟩ := store_run (P := P) (w := w) (b := b) (o := base + off * es + E.length * es) (vs := news) hpl hbnd hn1
          have hno : ∀ j o, (blkAt (killS σ (.osl id off len)) j).own = true → μ j ≠ some (b, o) := fun j o hj hμj => by
            have hne : id ≠ j := fun e => by
              subst e
              have := blkAt_own_lt hj
              simp only [killS, List.length_set] at this
              rw [killS, blkAt_set_self this] at hj
              simp [Blk.own] at hj
            rw [killS, blkAt_set_ne hne] at hj
            exact h.apart id j b b base o hne hown hj r1 hμj rfl
          obtain ⟨f1, f2⟩ := WroteAt.free hr1 hnI hno ww
          have cellNew : ∀ q u, (olds ++ news)[q]? = some u → w'.cell? ⟨b, base + off * es + q, none⟩ = some u := fun q u hq => by
            rw [hw]
            by_cases hlt : q < olds.length
            · rw [List.getElem?_append_left hlt] at hq
              rw [if_neg (by rw [hol] at hlt; omega)]
              exact hoc _ _ rfl q u hq
            · rw [List.getElem?_append_right (by omega)] at hq
              have hlt2 : q - olds.length < news.length := by
                rcases Nat.lt_or_ge (q - olds.length) news.length with h' | h'
                · exact h'
                · rw [List.getElem?_eq_none h'] at hq; cases hq
              rw [if_pos ⟨by rw [hol] at hlt; omega, by rw [hol] at hlt hlt2; omega⟩, ← hq]
              congr 1
              rw [hol]; omega
          obtain ⟨g1, g2⟩ := f1.addArr (base := base + off * es) (es := es) (xs := E ++ x.elems σ) hnI hno (ww.plain hpl) (by
            rw [ww.bsize, List.length_append]
            rw [hnl] at hbnd
            rw [Nat.add_mul]; omega) hallsz hallfl (fun i j z y hz hy => by
              obtain ⟨u, hu, hr⟩ := hboth i j z y hz hy
              exact ⟨u, by rw [Nat.add_assoc]; exact cellNew _ u hu, hr.keep f2.imm f2.rsame⟩)
          refine ⟨_, w', _, run_append_in (P := P) (w := w) (ty := ty) hu1 hi hu2 (by rw [i1]; exact hfx w rfl) hroom (by rw [i1]; simp only [addr_add]; exact hr), by rw [hl1] at g1; exact g1, ?_, ?_⟩
          · rw [hl1] at g2 f2; exact hk1.trans (f2.trans g2)
          · refine .osl _ _ _ _ (by rw [List.length_append, hl1]; simp) (.inr ⟨b, base + off * es, es, sc, fun _ => ?_, hroom, by simp⟩)
            have eb : blkAt (killS σ (.osl id off len) ++ [.arr es (E ++ x.elems σ)]) σ.length = .arr es (E ++ x.elems σ) := by rw [← hl1]; exact blkAt_append_new
            rw [eb]
            refine ⟨posNew_self _ _ _, rfl, rfl, by simp [Blk.xs], ?_⟩
            rw [ww.bsize, Nat.zero_add]
            rw [Nat.add_mul] at r5; omega
    | _ => exact hd.elim
  · -- a new array
    have hrun := run_append_new (P := P) (w := w) (ty := ty) hu1 hi i3 hu2 (fun w' hw' => by rw [i1]; exact hfx w' hw') (fun w' hw' => by rw [i1]; exact hfs w' hw') (Nat.lt_of_not_le hroom) h62 (by rw [i2]; exact hbytes)
    have sm : SameMem w w.drew := SameMem.drew w
    have hr2 := sm.rel hr1
    have hk2 : Keep (killS σ s).length w I μ (killS σ s) w.drew I μ (killS σ s) := sm.keep
    have hcap := grownCap_ge w ((s.elems σ).length + (x.elems σ).length) sc e
    generalize grownCap w ((s.elems σ).length + (x.elems σ).length) sc e = cap at *
    have hcsz : (olds.toArray ++ news.toArray ++ Builtin.zeroCells zv.cells (cap - ((s.elems σ).length + (x.elems σ).length))).size = cap * es := by
      simp only [Array.size_append, List.size_toArray, size_zeroCells, hzs, hol, hnl, ← Nat.add_mul]
      congr 1; omega
    have hnew := hr2.newArr (olds.toArray ++ news.toArray ++ Builtin.zeroCells zv.cells (cap - ((s.elems σ).length + (x.elems σ).length))) e es (s.elems σ ++ x.elems σ) (by
      rw [hcsz, List.length_append]; exact Nat.mul_le_mul_right es hcap) hallsz hallfl (fun i j z y hz hy => by
        obtain ⟨u, hu, hr⟩ := hboth i j z y hz hy
        refine ⟨u, ?_, RepD.keep (w := w) (w' := w.drew) (I := I) (I' := I) (fun _ h => h) (fun _ _ => rfl) hr⟩
        have hlt : i * es + j < (olds ++ news).length := by
          rcases Nat.lt_or_ge (i * es + j) (olds ++ news).length with h' | h'
          · exact h'
          · rw [List.getElem?_eq_none h'] at hu; cases hu
        rw [Array.getElem?_append_left (by simpa using hlt)]
        have : (olds.toArray ++ news.toArray) = (olds ++ news).toArray := by simp
        rw [this]; simpa using hu)
    have hk3 := keep_alloc hr2 (.cells (olds.toArray ++ news.toArray ++ Builtin.zeroCells zv.cells (cap - ((s.elems σ).length + (x.elems σ).length))) e) (w.drew.heap.size, 0) (.arr es (s.elems σ ++ x.elems σ))
    refine ⟨_, _, _, hrun, hnew, ?_, ?_⟩
    · rw [hl1] at hk2 hk3 ⊢; exact hk1.trans (hk2.trans hk3)
    · refine .osl _ _ _ _ (by rw [List.length_append, hl1]; simp) (.inr ⟨w.heap.size, 0, es, cap, fun _ => ?_, hcap, by simp⟩)
      have eb : blkAt (killS σ s ++ [.arr es (s.elems σ ++ x.elems σ)]) σ.length = .arr es (s.elems σ ++ x.elems σ) := by rw [← hl1]; exact blkAt_append_new
      rw [eb]
      refine ⟨by rw [← hl1]; exact posNew_self _ _ _, rfl, rfl, by simp [Blk.xs], ?_⟩
      have := blkSize_new w.drew (olds.toArray ++ news.toArray ++ Builtin.zeroCells zv.cells (cap - ((s.elems σ).length + (x.elems σ).length))) e
      have e5 : w.drew.heap.size = w.heap.size := rfl
      rw [e5] at this
      rw [this, hcsz]
      simp

end Go.AM

/-
  The operations run, eighth part: literals, make, min and max, conversions of numbers.
-/
namespace Go.AM

variable {P : Program} {w : World} {I : Im} {μ : Pos} {σ : Sto}

theorem fold_set_list (off : Nat) : ∀ (vs : List Value) (k : Nat) (c : Array Value), off + k + vs.length ≤ c.size →
    ((vs.zipIdx k).foldl (fun (cs : Array Value) p => cs.setIfInBounds (off + p.2) p.1) c).size = c.size ∧
    ∀ q, ((vs.zipIdx k).foldl (fun (cs : Array Value) p => cs.setIfInBounds (off + p.2) p.1) c)[q]? = if off + k ≤ q ∧ q < off + k + vs.length then vs[q - (off + k)]? else c[q]?
  | [], k, c, _ => ⟨rfl, fun q => by simp only [List.zipIdx_nil, List.foldl_nil, List.length_nil, Nat.add_zero]; rw [if_neg (by omega)]⟩
  | v :: vs, k, c, h => by
    simp only [List.length_cons] at h
    have ih := fold_set_list off vs (k + 1) (c.setIfInBounds (off + k) v) (by simp; omega)
    simp only [List.zipIdx_cons, List.foldl_cons]
    refine ⟨by rw [ih.1]; simp, fun q => ?_⟩
    rw [ih.2 q]
    simp only [List.length_cons]
    by_cases h1 : q = off + k
    · subst h1
      rw [if_neg (by omega), if_pos (by omega), Array.getElem?_setIfInBounds_self_of_lt (by omega), Nat.sub_self]
      rfl
    · by_cases h2 : off + (k + 1) ≤ q ∧ q < off + (k + 1) + vs.length
      · rw [if_pos h2, if_pos (by omega)]
        have : q - (off + k) = (q - (off + (k + 1))) + 1 := by omega
        rw [this]; rfl
      · rw [if_neg h2, if_neg (by omega), Array.getElem?_setIfInBounds_ne (by omega)]

theorem fold_set (off : Nat) (cs : Array Value) (vs : List Value) (hv : cs = vs.toArray) (c : Array Value) (h : off + vs.length ≤ c.size) :
    (cs.zipIdx.foldl (fun cs (x : Value × Nat) => cs.setIfInBounds (off + x.2) x.1) c).size = c.size ∧
    ∀ q, (cs.zipIdx.foldl (fun cs (x : Value × Nat) => cs.setIfInBounds (off + x.2) x.1) c)[q]? = if off ≤ q ∧ q < off + vs.length then vs[q - off]? else c[q]? := by
  subst hv
  have e : ((vs.toArray).zipIdx.foldl (fun cs (x : Value × Nat) => cs.setIfInBounds (off + x.2) x.1) c) = (vs.zipIdx 0).foldl (fun (cs : Array Value) p => cs.setIfInBounds (off + p.2) p.1) c := by
    rw [← Array.foldl_toList]
    simp
  rw [e]
  have := fold_set_list off vs 0 c (by simpa using h)
  simpa using this

def setCells (cs : List AV) (off : Nat) (v : AV) : Nat → List AV
  | 0 => cs
  | n + 1 => (setCells cs off v n).set (off + n) (v.cellAt n)
theorem setCells_length (cs : List AV) (off : Nat) (v : AV) (n : Nat) : (setCells cs off v n).length = cs.length := by
  induction n with
  | zero => rfl
  | succ n ih => simp [setCells, ih]
theorem setCells_get (cs : List AV) (off : Nat) (v : AV) (n q : Nat) (h : off + n ≤ cs.length) : (setCells cs off v n)[q]? = if off ≤ q ∧ q < off + n then some (v.cellAt (q - off)) else cs[q]? := by
  induction n with
  | zero => rw [if_neg (by omega)]; rfl
  | succ n ih =>
    simp only [setCells]
    by_cases e : q = off + n
    · subst e
      rw [if_pos (by omega), List.getElem?_set_self (by rw [setCells_length]; omega)]
      congr 2; omega
    · rw [List.getElem?_set_ne (by omega), ih (by omega)]
      by_cases h2 : off ≤ q ∧ q < off + n
      · rw [if_pos h2, if_pos (by omega)]
      · rw [if_neg h2, if_neg (by omega)]

def fillA (pl : List (Nat × Nat)) : List AV → List (Nat × AV) → List AV
  | cs, [] => cs
  | cs, (i, v) :: rest => match pl[i]? with
    | some (off, size) => fillA pl (setCells cs off v size) rest
    | none => fillA pl cs rest
def fillOk (pl : List (Nat × Nat)) (N : Nat) : List (Nat × AV) → Prop
  | [] => True
  | (i, v) :: rest => (match pl[i]? with
    | some (off, size) => v.ncells = size ∧ off + size ≤ N ∧ v.storable = true
    | none => False) ∧ fillOk pl N rest

def cellsAre (w : World) (I : Im) (μ : Pos) (σ : Sto) (c : Array Value) (l : List AV) : Prop :=
  c.size = l.length ∧ (∀ x ∈ l, x.one = true) ∧ ∀ (j : Nat) (u : Value) (x : AV), c[j]? = some u → l[j]? = some x → RepV w I μ σ u x

theorem fill_rel {pl : List (Nat × Nat)} {place : Nat → Option (Nat × Nat)} : ∀ {parts : List (Nat × AV)} {vals : List (Nat × Value)} {c : Array Value} {l : List AV},
    parts.map Prod.fst = vals.map Prod.fst → (∀ i ∈ parts.map Prod.fst, ∀ p, pl[i]? = some p → place i = some p) → (∀ (k : Nat) (p : Nat × AV) (q : Nat × Value), parts[k]? = some p → vals[k]? = some q → RepV w I μ σ q.2 p.2) →
    cellsAre w I μ σ c l → fillOk pl l.length parts → ∃ c', Instr.fill place c vals = some c' ∧ cellsAre w I μ σ c' (fillA pl l parts)
  | [], vals, c, l, hf, _, _, hc, _ => by
    cases vals with
    | nil => exact ⟨c, rfl, hc⟩
    | cons _ _ => simp at hf
  | (i, v) :: parts, vals, c, l, hf, hp, hr, hc, ho => by
    cases vals with
    | nil => simp at hf
    | cons q vals =>
      obtain ⟨i', u⟩ := q
      simp only [List.map_cons, List.cons.injEq] at hf
      obtain ⟨rfl, hf⟩ := hf
      obtain ⟨ho1, ho2⟩ := ho
      cases hpl : pl[i]? with
      | none => rw [hpl] at ho1; exact ho1.elim
      | some os =>
        obtain ⟨off, size⟩ := os
        rw [hpl] at ho1
        obtain ⟨p1, p2, p3⟩ := ho1
        have hpi := hp i (by simp) _ hpl
        have hv : RepV w I μ σ u v := hr 0 (i, v) (i, u) rfl rfl
        obtain ⟨vs, hc1, hc2, hc3⟩ := cells_rep hv p3
        rw [p1] at hc2
        have hsz : u.cells.size = size := by rw [hc1]; simpa using hc2
        obtain ⟨f1, f2⟩ := fold_set off u.cells vs hc1 c (by rw [hc.1]; omega)
        have hc' : cellsAre w I μ σ (u.cells.zipIdx.foldl (fun cs (x : Value × Nat) => cs.setIfInBounds (off + x.2) x.1) c) (setCells l off v size) := by
          refine ⟨by rw [f1, setCells_length]; exact hc.1, fun x hx => ?_, fun j u' x hu hx => ?_⟩
          · obtain ⟨j, hj⟩ := List.getElem?_of_mem hx
            rw [setCells_get _ _ _ _ _ p2] at hj
            split at hj
            · rename_i hin
              simp only [Option.some.injEq] at hj
              subst hj
              have hlt : j - off < vs.length := by omega
              exact (hc3 _ _ (List.getElem?_eq_getElem hlt)).2.1
            · exact hc.2.1 x (List.mem_of_getElem? hj)
          · rw [f2, hc2] at hu
            rw [setCells_get _ _ _ _ _ p2] at hx
            split at hx
            · rename_i hin
              rw [if_pos hin] at hu
              simp only [Option.some.injEq] at hx
              subst hx
              exact (hc3 _ _ hu).1
            · rename_i hin
              rw [if_neg hin] at hu
              exact hc.2.2 j u' x hu hx
        obtain ⟨c', g1, g2⟩ := fill_rel (parts := parts) (vals := vals) hf (fun i hi p hpi => hp i (by simp only [List.map_cons, List.mem_cons]; exact .inr hi) p hpi) (fun k p q hk hq => hr (k + 1) p q hk hq) hc' (by rw [setCells_length]; exact ho2)
        refine ⟨c', ?_, by simp only [fillA, hpl]; exact g2⟩
        simp only [Instr.fill, hpi, hsz]
        rw [if_neg]
        · exact g1
        · simp only [ne_eq, not_true_eq_false, decide_false, Bool.false_or, decide_eq_true_eq]
          rw [hc.1]; omega

def tplaces (P : Program) (t : TypeId) : Option (List (Nat × Nat)) :=
  match P.underlying t with
  | some (.array n e) => (P.info? e).map fun ie => (List.range n).map fun i => (i * ie.size, ie.size)
  | some (.struct fields) => fields.toList.mapM (fun f => (P.info? f.type).map fun i => (f.offset, i.size))
  | _ => none
def tzeroA (P : Program) (t : TypeId) : Option (List AV) :=
  match tzero P t with
  | some z => if (z.cells.toList.map const1).all AV.one then some (z.cells.toList.map const1) else none
  | none => none

theorem cellsAre_zero {t : TypeId} {l : List AV} (h : tzeroA P t = some l) : ∃ z, tzero P t = some z ∧ cellsAre w I μ σ z.cells l := by
  unfold tzeroA at h
  split at h
  · rename_i z hz
    split at h
    · rename_i hall
      simp only [Option.some.injEq] at h
      subst h
      refine ⟨z, by assumption, by simp, fun x hx => List.all_eq_true.1 hall x hx, fun j u x hu hx => ?_⟩
      rw [List.getElem?_map] at hx
      have : z.cells.toList[j]? = some u := by simpa using hu
      rw [this] at hx
      simp at hx
      subst hx
      exact const1_rep u
    · cases h
  · cases h

theorem build_goes {t : TypeId} {pl : List (Nat × Nat)} {zc : List AV} (hpl : tplaces P t = some pl) (hz : tzeroA P t = some zc) {parts : List (Nat × AV)} {vals : Array (Nat × Value)} (hf : parts.map Prod.fst = vals.toList.map Prod.fst)
    (hr : ∀ (k : Nat) (p : Nat × AV) (q : Nat × Value), parts[k]? = some p → vals.toList[k]? = some q → RepV w I μ σ q.2 p.2) (ho : fillOk pl zc.length parts) :
    ∃ z, (Instr.build t vals).run P w = .ok z w ∧ RepV w I μ σ z (mkAgg (fillA pl zc parts)) := by
  obtain ⟨z, hz1, hz2⟩ := cellsAre_zero (w := w) (I := I) (μ := μ) (σ := σ) hz
  have fin : ∀ place : Nat → Option (Nat × Nat), (∀ i p, pl[i]? = some p → place i = some p) → (∀ c, Instr.fill place z.cells vals.toList = some c → P.built t vals.toList = some c) →
      ∃ z, (Instr.build t vals).run P w = .ok z w ∧ RepV w I μ σ z (mkAgg (fillA pl zc parts)) := by
    intro place h1 h2
    obtain ⟨c', g1, g2, g3, g4⟩ := fill_rel hf (fun i _ p hp => h1 i p hp) hr hz2 ho
    refine ⟨.agg c', run_build w t vals c' (h2 c' g1), ?_⟩
    have := mkAgg_rep (w := w) (I := I) (μ := μ) (σ := σ) (vs := c'.toList) (cs := fillA pl zc parts) (by simpa using g2) g3 (fun i v x hv hx => g4 i v x (by simpa using hv) hx)
    simpa using this
  unfold tzero at hz1
  unfold tplaces at hpl
  cases hi : P.info? t with
  | none => rw [hi] at hz1; cases hz1
  | some it =>
    rw [hi] at hz1
    have hz1' : it.zero = some z := hz1
    split at hpl
    · rename_i n e hu
      cases hie : P.info? e with
      | none => rw [hie] at hpl; cases hpl
      | some ie =>
        rw [hie] at hpl
        simp only [Option.map_some, Option.some.injEq] at hpl
        refine fin (fun i => some (i * ie.size, ie.size)) (fun i p hp => ?_) fun c hc => ?_
        · subst hpl
          rw [List.getElem?_map] at hp
          cases hri : (List.range n)[i]? with
          | none => rw [hri] at hp; cases hp
          | some k =>
            rw [hri] at hp
            simp only [Option.map_some, Option.some.injEq] at hp
            have := List.getElem?_eq_some_iff.1 hri
            obtain ⟨_, hk⟩ := this
            simp at hk
            subst hk; rw [← hp]
        · unfold Program.built; simp only [hi, hu, hz1', hie]; exact hc
    · rename_i fields hu
      refine fin (pl.toArray[·]?) (fun i p hp => by simpa using hp) fun c hc => ?_
      unfold Program.built; simp only [hi, hu, hz1', hpl]; exact hc
    · cases hpl

end Go.AM

/-
  The operations run, ninth part: slice literals, make, min and max, conversions of numbers.
-/
namespace Go.AM

variable {P : Program} {w : World} {I : Im} {μ : Pos} {σ : Sto}

/-! ### min, max -/
def minL : List AV → Int → Int
  | [], a => a
  | x :: r, a => minL r (if x.num < a then x.num else a)
def maxL : List AV → Int → Int
  | [], a => a
  | x :: r, a => maxL r (if x.num > a then x.num else a)
def kindOf : AV → IntKind
  | .d (.int k _) => k
  | _ => .i64
def minmaxOk : List AV → Prop
  | [] => False
  | x :: r => x.isIntv = true ∧ ∀ y ∈ r, y.isIntv = true
def minV : List AV → AV
  | [] => .undef
  | x :: r => .d (.int (kindOf x) (minL r x.num))
def maxV : List AV → AV
  | [] => .undef
  | x :: r => .d (.int (kindOf x) (maxL r x.num))

theorem int_rep' {v : Value} {u : AV} (hv : RepV w I μ σ v u) (hi : u.isIntv = true) : v = .int (kindOf u) u.num := by
  cases u with
  | d x =>
    have := hv.inv_d
    cases this <;> simp_all [AV.isIntv, AV.num, kindOf]
  | _ => simp [AV.isIntv] at hi

theorem run_minL (k : IntKind) : ∀ (vs : List Value) (us : List AV) (a : Int), vs.length = us.length → (∀ u ∈ us, u.isIntv = true) → (∀ (i : Nat) (v : Value) (u : AV), vs[i]? = some v → us[i]? = some u → RepV w I μ σ v u) →
    (vs.foldlM Builtin.min2 (.int k a)).run P w = .ok (.int k (minL us a)) w
  | [], us, a, hl, _, _ => by cases us <;> simp_all [minL]
  | v :: vs, us, a, hl, hi, hr => by
    cases us with
    | nil => simp at hl
    | cons u us =>
      have e := int_rep' (hr 0 v u rfl rfl) (hi u List.mem_cons_self)
      subst e
      simp only [List.foldlM_cons, Builtin.min2, Sem.run_bind, Sem.run_pure, Result.andThen_ok, minL]
      exact run_minL k vs us _ (by simpa using hl) (fun y hy => hi y (List.mem_cons_of_mem _ hy)) fun i v u hv hu => hr (i + 1) v u hv hu
theorem run_maxL (k : IntKind) : ∀ (vs : List Value) (us : List AV) (a : Int), vs.length = us.length → (∀ u ∈ us, u.isIntv = true) → (∀ (i : Nat) (v : Value) (u : AV), vs[i]? = some v → us[i]? = some u → RepV w I μ σ v u) →
    (vs.foldlM Builtin.max2 (.int k a)).run P w = .ok (.int k (maxL us a)) w
  | [], us, a, hl, _, _ => by cases us <;> simp_all [maxL]
  | v :: vs, us, a, hl, hi, hr => by
    cases us with
    | nil => simp at hl
    | cons u us =>
      have e := int_rep' (hr 0 v u rfl rfl) (hi u List.mem_cons_self)
      subst e
      simp only [List.foldlM_cons, Builtin.max2, Sem.run_bind, Sem.run_pure, Result.andThen_ok, maxL]
      exact run_maxL k vs us _ (by simpa using hl) (fun y hy => hi y (List.mem_cons_of_mem _ hy)) fun i v u hv hu => hr (i + 1) v u hv hu

theorem min_goes {ts : Array TypeId} {ty : TypeId} {vs : Array Value} {us : List AV} (hl : vs.size = us.length) (hr : ∀ (i : Nat) (v : Value) (u : AV), vs[i]? = some v → us[i]? = some u → RepV w I μ σ v u) (ho : minmaxOk us) :
    ∃ z, (Builtin.min_ ts ty vs).run P w = .ok z w ∧ RepV w I μ σ z (minV us) := by
  obtain ⟨vs⟩ := vs
  cases us with
  | nil => exact ho.elim
  | cons u us =>
    cases vs with
    | nil => simp at hl
    | cons v vs =>
      have e := int_rep' (hr 0 v u rfl rfl) ho.1
      subst e
      exact ⟨_, run_minL (kindOf u) vs us u.num (by simpa using hl) ho.2 (fun i v u hv hu => hr (i + 1) v u (by simpa using hv) hu), .d _ _ (.int _ _)⟩
theorem max_goes {ts : Array TypeId} {ty : TypeId} {vs : Array Value} {us : List AV} (hl : vs.size = us.length) (hr : ∀ (i : Nat) (v : Value) (u : AV), vs[i]? = some v → us[i]? = some u → RepV w I μ σ v u) (ho : minmaxOk us) :
    ∃ z, (Builtin.max_ ts ty vs).run P w = .ok z w ∧ RepV w I μ σ z (maxV us) := by
  obtain ⟨vs⟩ := vs
  cases us with
  | nil => exact ho.elim
  | cons u us =>
    cases vs with
    | nil => simp at hl
    | cons v vs =>
      have e := int_rep' (hr 0 v u rfl rfl) ho.1
      subst e
      exact ⟨_, run_maxL (kindOf u) vs us u.num (by simpa using hl) ho.2 (fun i v u hv hu => hr (i + 1) v u (by simpa using hv) hu), .d _ _ (.int _ _)⟩

/-! ### conversions between integer kinds -/
def tintk (P : Program) (t : TypeId) : Option IntKind := match P.underlying t with | some (.int k) => some k | _ => none
theorem conv_goes {s t : TypeId} {k : IntKind} (hk : tintk P t = some k) (hs : (P.underlying s).isSome = true) {v : Value} {u : AV} (hv : RepV w I μ σ v u) (hi : u.isIntv = true) :
    ∃ z, (convert s t v).run P w = .ok z w ∧ RepV w I μ σ z (.d (.int k (k.wrap u.num))) := by
  have hu : P.underlying t = some (.int k) := by
    unfold tintk at hk
    split at hk
    · simp at hk; subst hk; assumption
    · cases hk
  obtain ⟨d, hd⟩ := Option.isSome_iff_exists.1 hs
  have e := int_rep' hv hi
  subst e
  refine ⟨.int k (k.wrap u.num), ?_, .d _ _ (.int _ _)⟩
  simp only [convert, Sem.run_bind, run_underlying hd, run_underlying hu, Result.andThen_ok]
  cases d <;> simp [Conv.intToInt]

/-! ### slice literals -/
def dataZero (P : Program) (t : TypeId) : Option D :=
  match tzero P t with
  | some z => if (constV z).isD [] then some ((constV z).toD []) else none
  | none => none

/-- the cells of an array of len elements of es cells each hold the elements xs -/
def rowIs (w : World) (I : Im) (len es : Nat) (c : Array Value) (xs : List D) : Prop :=
  c.size = len * es ∧ xs.length = len ∧ (∀ x ∈ xs, x.cells.length = es) ∧ (∀ x ∈ xs, x.flat) ∧ ∀ (i j : Nat) (x y : D), xs[i]? = some x → x.cells[j]? = some y → ∃ u, c[i * es + j]? = some u ∧ RepD w I u y

theorem rowIs_set {len es : Nat} {c : Array Value} {xs : List D} (h : rowIs w I len es c xs) {i : Nat} (hi : i < len) {v : Value} {x : D} (hv : RepD w I v x) (hx : x.cells.length = es) :
    rowIs w I len es (v.cells.zipIdx.foldl (fun cs (x : Value × Nat) => cs.setIfInBounds (i * es + x.2) x.1) c) (xs.set i x) := by
  obtain ⟨h1, h2, h3, h4, h5⟩ := h
  obtain ⟨vs, c1, c2, c3⟩ := cellsD_rep hv
  rw [hx] at c2
  have hb : i * es + es ≤ len * es := by
    have : (i + 1) * es ≤ len * es := Nat.mul_le_mul_right es hi
    rw [Nat.add_mul] at this; omega
  obtain ⟨f1, f2⟩ := fold_set (i * es) v.cells vs c1 c (by omega)
  refine ⟨by rw [f1]; exact h1, by simpa using h2, fun z hz => ?_, fun z hz => ?_, fun i' j z y hz hy => ?_⟩
  · rcases List.mem_or_eq_of_mem_set hz with hz | rfl
    · exact h3 z hz
    · exact hx
  · rcases List.mem_or_eq_of_mem_set hz with hz | rfl
    · exact h4 z hz
    · exact hv.flat
  · have hjlt : ∀ z : D, z.cells.length = es → z.cells[j]? = some y → j < es := fun z hz hy => by
      rcases Nat.lt_or_ge j z.cells.length with h' | h'
      · omega
      · rw [List.getElem?_eq_none h'] at hy; cases hy
    by_cases e : i = i'
    · subst e
      rw [List.getElem?_set_self (by omega)] at hz
      simp only [Option.some.injEq] at hz
      subst hz
      have hj := hjlt _ hx hy
      rw [f2, if_pos (by omega)]
      have : i * es + j - i * es = j := by omega
      rw [this]
      have hlt : j < vs.length := by omega
      refine ⟨vs[j], List.getElem?_eq_getElem hlt, ?_⟩
      have := (c3 j _ (List.getElem?_eq_getElem hlt)).1
      rwa [D.cell_of hy] at this
    · rw [List.getElem?_set_ne e] at hz
      have hj := hjlt z (h3 z (List.mem_of_getElem? hz)) hy
      obtain ⟨u, hu, hr⟩ := h5 i' j z y hz hy
      refine ⟨u, ?_, hr⟩
      rw [f2, if_neg, hu]
      intro ⟨ha, hb'⟩
      rw [c2] at hb'
      rcases Nat.lt_or_gt_of_ne e with hlt | hgt
      · have : (i + 1) * es ≤ i' * es := Nat.mul_le_mul_right es hlt
        rw [Nat.add_mul] at this; omega
      · have : (i' + 1) * es ≤ i * es := Nat.mul_le_mul_right es hgt
        rw [Nat.add_mul] at this; omega

def setParts (xs : List D) : List (Nat × D) → List D
  | [] => xs
  | (i, x) :: r => setParts (xs.set i x) r

theorem fill_row {len es : Nat} : ∀ {parts : List (Nat × D)} {vals : List (Nat × Value)} {c : Array Value} {xs : List D}, parts.map Prod.fst = vals.map Prod.fst → (∀ p ∈ parts, p.1 < len ∧ p.2.cells.length = es) →
    (∀ (k : Nat) (p : Nat × D) (q : Nat × Value), parts[k]? = some p → vals[k]? = some q → RepD w I q.2 p.2) → rowIs w I len es c xs →
    ∃ c', Instr.fill (fun i => some (i * es, es)) c vals = some c' ∧ rowIs w I len es c' (setParts xs parts)
  | [], vals, c, xs, hf, _, _, hc => by
    cases vals with
    | nil => exact ⟨c, rfl, hc⟩
    | cons _ _ => simp at hf
  | (i, x) :: parts, vals, c, xs, hf, hp, hr, hc => by
    cases vals with
    | nil => simp at hf
    | cons q vals =>
      obtain ⟨i', u⟩ := q
      simp only [List.map_cons, List.cons.injEq] at hf
      obtain ⟨rfl, hf⟩ := hf
      obtain ⟨p1, p2⟩ := hp (i, x) List.mem_cons_self
      have hv : RepD w I u x := hr 0 (i, x) (i, u) rfl rfl
      obtain ⟨vs, c1, c2, _⟩ := cellsD_rep hv
      have hsz : u.cells.size = es := by rw [c1]; simp only [List.size_toArray]; rw [c2]; exact p2
      obtain ⟨c', g1, g2⟩ := fill_row (parts := parts) (vals := vals) hf (fun p hp' => hp p (List.mem_cons_of_mem _ hp')) (fun k p q hk hq => hr (k + 1) p q hk hq) (rowIs_set hc p1 hv p2)
      refine ⟨c', ?_, g2⟩
      have hb : i * es + es ≤ len * es := by
        have : (i + 1) * es ≤ len * es := Nat.mul_le_mul_right es p1
        rw [Nat.add_mul] at this; omega
      simp only [Instr.fill, hsz]
      rw [if_neg]
      · exact g1
      · simp only [ne_eq, not_true_eq_false, decide_false, Bool.false_or, decide_eq_true_eq]
        rw [hc.1]; omega

theorem rowIs_zero {e : TypeId} {z : Value} {x : D} (h : dataZero P e = some x) (hz : tzero P e = some z) (len es : Nat) (hes : z.cells.size = es) :
    rowIs w I len es ((Array.range (len * es)).map (z.cells[· % z.cells.size]!)) (List.replicate len x) ∧ x.cells.length = es ∧ RepD w I z x := by
  unfold dataZero at h
  rw [hz] at h
  simp only at h
  split at h
  · rename_i hd
    simp only [Option.some.injEq] at h
    have hrel : Rel w ⟨fun _ => False, fun _ => False, fun _ h => h⟩ (fun _ => none) [] := ⟨fun _ h => h.elim, fun id hid => by simp at hid, fun i j b b' o o' _ hi => by simp [blkAt, Blk.own] at hi⟩
    have hr0 : RepD w ⟨fun _ => False, fun _ => False, fun _ h => h⟩ z ((constV z).toD []) := toD_rep' hrel (constV_rep z) hd (fun id hid => by simp [blkAt, Blk.own])
    rw [h] at hr0
    have hr : RepD w I z x := hr0.keep (fun _ (h : False) => h.elim) (fun _ _ => rfl)
    obtain ⟨vs, c1, c2, c3⟩ := cellsD_rep hr
    have hxl : x.cells.length = es := by rw [← c2, ← hes, c1]; simp
    refine ⟨⟨by simp, by simp, fun y hy => ?_, fun y hy => ?_, fun i j y y' hy hy' => ?_⟩, hxl, hr⟩
    · rw [List.eq_of_mem_replicate hy]; exact hxl
    · rw [List.eq_of_mem_replicate hy]; exact hr.flat
    · have hi : i < len := by
        rcases Nat.lt_or_ge i len with h' | h'
        · exact h'
        · rw [List.getElem?_eq_none (by simpa using h')] at hy; cases hy
      rw [List.getElem?_replicate, if_pos hi] at hy
      simp only [Option.some.injEq] at hy
      subst hy
      have hj : j < es := by
        rcases Nat.lt_or_ge j x.cells.length with h' | h'
        · omega
        · rw [List.getElem?_eq_none h'] at hy'; cases hy'
      have hq : i * es + j < len * es := by
        have : (i + 1) * es ≤ len * es := Nat.mul_le_mul_right es hi
        rw [Nat.add_mul] at this; omega
      have hjv : j < vs.length := by omega
      refine ⟨vs[j], ?_, ?_⟩
      · simp only [Array.getElem?_map, Array.getElem?_range, hq, if_true, Option.map_some]
        have e1 : (i * es + j) % es = j := by rw [Nat.mul_comm, Nat.mul_add_mod]; exact Nat.mod_eq_of_lt hj
        rw [hes, e1, c1]
        simp [hjv]
      · have := (c3 j _ (List.getElem?_eq_getElem hjv)).1
        rwa [D.cell_of hy'] at this
  · cases h

def bslOk (P : Program) (σ : Sto) (t : TypeId) (len : Nat) (parts : List (Nat × AV)) : Prop :=
  match telem P t with
  | some e => match tsz P e, dataZero P e, tzero P e with
    | some es, some _, some z => 0 < es ∧ z.cells.size = es ∧ 0 < len ∧ len * es ≤ 16777216 ∧ ∀ p ∈ parts, p.1 < len ∧ p.2.isD σ = true ∧ (p.2.toD σ).cells.length = es
    | _, _, _ => False
  | none => False
def bslX (P : Program) (σ : Sto) (t : TypeId) (len : Nat) (parts : List (Nat × AV)) : List D :=
  match telem P t with
  | some e => match dataZero P e with
    | some x => setParts (List.replicate len x) (parts.map fun p => (p.1, p.2.toD σ))
    | none => []
  | none => []
def bslS (P : Program) (σ : Sto) (t : TypeId) (len : Nat) (parts : List (Nat × AV)) : Sto :=
  freezeL σ (parts.flatMap fun p => p.2.refs) ++ [.arr (apEs P t) (bslX P σ t len parts)]

theorem buildSlice_goes (h : Rel w I μ σ) {t : TypeId} {len : Nat} {parts : List (Nat × AV)} {vals : Array (Nat × Value)} (hf : parts.map Prod.fst = vals.toList.map Prod.fst)
    (hr : ∀ (k : Nat) (p : Nat × AV) (q : Nat × Value), parts[k]? = some p → vals.toList[k]? = some q → RepV w I μ σ q.2 p.2) (ho : bslOk P σ t len parts) :
    ∃ z w' I' μ', (Instr.buildSlice t len vals).run P w = .ok z w' ∧ Rel w' I' μ' (bslS P σ t len parts) ∧ Keep σ.length w I μ σ w' I' μ' (bslS P σ t len parts) ∧ RepV w' I' μ' (bslS P σ t len parts) z (.osl σ.length 0 len) := by
  unfold bslOk at ho
  cases hte : telem P t with
  | none => rw [hte] at ho; exact ho.elim
  | some e =>
  rw [hte] at ho
  cases hz1 : tsz P e with
  | none => simp [hz1] at ho
  | some es =>
  cases hz2 : dataZero P e with
  | none => simp [hz1, hz2] at ho
  | some x0 =>
  cases hz3 : tzero P e with
  | none => simp [hz1, hz2, hz3] at ho
  | some zv =>
  simp only [hz1, hz2, hz3] at ho
  obtain ⟨hes, hzs, hlen, hsmall, hp⟩ := ho
  have hap : apEs P t = es := by unfold apEs; rw [hte]; simp [hz1]
  have hX : bslX P σ t len parts = setParts (List.replicate len x0) (parts.map fun p => (p.1, p.2.toD σ)) := by unfold bslX; rw [hte]; simp [hz2]
  unfold bslS
  rw [hap, hX]
  obtain ⟨I', r1, r2, r3, r4, r5, r6, r7, r8⟩ := freezeL_spec h (parts.flatMap fun p => p.2.refs)
  generalize hF : freezeL σ (parts.flatMap fun p => p.2.refs) = σ' at *
  have hrow := (rowIs_zero (w := w) (I := I') hz2 hz3 len es hzs).1
  obtain ⟨c', g1, g2⟩ := fill_row (w := w) (I := I') (len := len) (es := es) (parts := parts.map fun p => (p.1, p.2.toD σ)) (vals := vals.toList) (by rw [List.map_map]; exact hf) (fun q hq => by
      obtain ⟨p, hp1, rfl⟩ := List.mem_map.1 hq
      exact ⟨(hp p hp1).1, (hp p hp1).2.2⟩) (fun k q v hk hv => by
      rw [List.getElem?_map] at hk
      cases hpk : parts[k]? with
      | none => rw [hpk] at hk; cases hk
      | some p =>
        rw [hpk] at hk
        simp only [Option.map_some, Option.some.injEq] at hk
        subst hk
        have hm := List.mem_of_getElem? hpk
        have := toD_rep' r1 ((hr k p v hpk hv).keep r2) (by rw [isD_congr (fun id => (r5 id).2)]; exact (hp p hm).2.1) (fun id hid => r4 id (List.mem_flatMap.2 ⟨p, hm, hid⟩) (refs_isArr (hp p hm).2.1 id hid))
        rwa [toD_congr (fun id => (r5 id).1)] at this) hrow
  obtain ⟨i, hi, i1, i3⟩ : ∃ i, P.info? e = some i ∧ i.size = es ∧ i.zero = some zv := by
    unfold tsz at hz1; unfold tzero at hz3
    cases hi : P.info? e with
    | none => rw [hi] at hz1; cases hz1
    | some i => rw [hi] at hz1 hz3; simp at hz1 hz3; exact ⟨i, rfl, hz1, hz3⟩
  have hpos : ¬ len * es = 0 := Nat.ne_of_gt (Nat.mul_pos hlen hes)
  have hrun := run_buildSlice (P := P) w t e len vals c' i zv (telem_spec hte) hi i3 (by rw [i1]; omega) (by rw [i1]; exact hpos) (by rw [i1]; exact g1)
  obtain ⟨q1, q2, q3, q4, q5⟩ := g2
  have hnew := r1.newArr c' e es (setParts (List.replicate len x0) (parts.map fun p => (p.1, p.2.toD σ))) (by rw [q2, q1]; exact Nat.le_refl _) q3 q4 q5
  have hk := keep_alloc r1 (.cells c' e) (w.heap.size, 0) (.arr es (setParts (List.replicate len x0) (parts.map fun p => (p.1, p.2.toD σ))))
  refine ⟨_, _, I', _, hrun, hnew, ?_, ?_⟩
  · rw [r3] at hk ⊢; exact r2.trans hk
  · refine .osl _ _ _ _ (by rw [List.length_append, r3]; simp) (.inr ⟨w.heap.size, 0, es, len, fun _ => ?_, Nat.le_refl _, by simp⟩)
    have eb : blkAt (σ' ++ [.arr es (setParts (List.replicate len x0) (parts.map fun p => (p.1, p.2.toD σ)))]) σ.length = .arr es (setParts (List.replicate len x0) (parts.map fun p => (p.1, p.2.toD σ))) := by rw [← r3]; exact blkAt_append_new
    rw [eb]
    refine ⟨by rw [← r3]; exact posNew_self _ _ _, rfl, rfl, by simp [Blk.xs, q2], ?_⟩
    rw [blkSize_new, q1]; simp

/-- '[]T{}' -/
theorem buildSlice0_goes (h : Rel w I μ σ) {t e : TypeId} {es : Nat} (hte : telem P t = some e) (hz : tsz P e = some es) :
    ∃ z w' μ', (Instr.buildSlice t 0 #[]).run P w = .ok z w' ∧ Rel w' I μ' (σ ++ [.arr es []]) ∧ Keep σ.length w I μ σ w' I μ' (σ ++ [.arr es []]) ∧ RepV w' I μ' (σ ++ [.arr es []]) z (.osl σ.length 0 0) := by
  have hnew := h.newArr #[] e es [] (by simp) (fun x hx => by simp at hx) (fun x hx => by simp at hx) (fun i j x y hx => by simp at hx)
  have hk := keep_alloc h (.cells #[] e) (w.heap.size, 0) (.arr es [])
  refine ⟨.slice (some ⟨w.heap.size, 0, none⟩) 0 0, _, _, ?_, hnew, hk, .osl _ _ _ _ (by simp) (.inl ⟨rfl, _, rfl⟩)⟩
  simp [Instr.buildSlice, run_underlying (telem_spec hte), run_sizeOf' hz, Instr.fill, newRow, Array.range_zero']

/-! ### make -/
def mkOk (P : Program) (t : TypeId) (l c : AV) : Prop :=
  match telem P t with
  | some e => match tsz P e, tbytes P e, dataZero P e, tzero P e with
    | some es, some by_, some _, some z => z.cells.size = es ∧ l.isIntv = true ∧ c.isIntv = true ∧ 0 ≤ l.num ∧ l.num ≤ c.num ∧ (by_ : Int) * c.num ≤ 281474976710656 ∧ c.num ≤ 9223372036854775807
    | _, _, _, _ => False
  | none => False
def mkX (P : Program) (t : TypeId) (l : AV) : List D :=
  match telem P t with
  | some e => match dataZero P e with
    | some x => List.replicate l.num.toNat x
    | none => []
  | none => []
def mkS (P : Program) (σ : Sto) (t : TypeId) (l : AV) : Sto := σ ++ [.arr (apEs P t) (mkX P t l)]

theorem makeSlice_goes (h : Rel w I μ σ) {t : TypeId} {lv cv : Value} {l c : AV} (hl : RepV w I μ σ lv l) (hc : RepV w I μ σ cv c) (ho : mkOk P t l c) :
    ∃ z w' μ', (Instr.makeSlice t lv cv).run P w = .ok z w' ∧ Rel w' I μ' (mkS P σ t l) ∧ Keep σ.length w I μ σ w' I μ' (mkS P σ t l) ∧ RepV w' I μ' (mkS P σ t l) z (.osl σ.length 0 l.num.toNat) := by
  unfold mkOk at ho
  cases hte : telem P t with
  | none => rw [hte] at ho; exact ho.elim
  | some e =>
  rw [hte] at ho
  cases hz1 : tsz P e with
  | none => simp [hz1] at ho
  | some es =>
  cases hz4 : tbytes P e with
  | none => simp [hz1, hz4] at ho
  | some by_ =>
  cases hz2 : dataZero P e with
  | none => simp [hz1, hz4, hz2] at ho
  | some x0 =>
  cases hz3 : tzero P e with
  | none => simp [hz1, hz4, hz2, hz3] at ho
  | some zv =>
  simp only [hz1, hz4, hz2, hz3] at ho
  obtain ⟨hzs, li, ci, l0, lc, hb, h63⟩ := ho
  obtain ⟨i, hi, i1, i2, i3⟩ := info_of hz1 hz4 hz3
  have e1 := int_rep' hl li
  have e2 := int_rep' hc ci
  subst e1; subst e2
  have hap : apEs P t = es := by unfold apEs; rw [hte]; simp [hz1]
  have hX : mkX P t l = List.replicate l.num.toNat x0 := by unfold mkX; rw [hte]; simp [hz2]
  unfold mkS
  rw [hap, hX]
  have hrun := run_make (P := P) w t e i zv (telem_spec hte) hi i3 (kindOf l) (kindOf c) l.num c.num l0 lc (by rw [i2]; exact hb) h63
  obtain ⟨⟨q1, q2, q3, q4, q5⟩, _, _⟩ := rowIs_zero (w := w) (I := I) hz2 hz3 c.num.toNat es hzs
  have hle : l.num.toNat ≤ c.num.toNat := by omega
  have hmc : madeCells zv.cells (c.num.toNat * i.size) = (Array.range (c.num.toNat * es)).map (zv.cells[· % zv.cells.size]!) := by rw [i1]; rfl
  rw [hmc] at hrun
  generalize hC : (Array.range (c.num.toNat * es)).map (zv.cells[· % zv.cells.size]!) = C at *
  have hsub : ∀ (i : Nat) (x : D), (List.replicate l.num.toNat x0)[i]? = some x → (List.replicate c.num.toNat x0)[i]? = some x := fun i x hx => by
    rw [List.getElem?_replicate] at hx ⊢
    split at hx
    · rw [if_pos (by omega)]; exact hx
    · cases hx
  have hmem : ∀ x ∈ List.replicate l.num.toNat x0, x ∈ List.replicate c.num.toNat x0 := fun x hx => by
    obtain ⟨i, hi⟩ := List.getElem?_of_mem hx
    exact List.mem_of_getElem? (hsub i x hi)
  have hnew := h.newArr C e es (List.replicate l.num.toNat x0) (by rw [q1, List.length_replicate]; exact Nat.mul_le_mul_right es hle) (fun x hx => q3 x (hmem x hx)) (fun x hx => q4 x (hmem x hx))
    (fun i j x y hx hy => q5 i j x y (hsub i x hx) hy)
  have hk := keep_alloc h (.cells C e) (w.heap.size, 0) (.arr es (List.replicate l.num.toNat x0))
  refine ⟨_, _, _, hrun, hnew, hk, .osl _ _ _ _ (by simp) (.inr ⟨w.heap.size, 0, es, c.num.toNat, fun _ => ?_, hle, by simp⟩)⟩
  rw [blkAt_append_new]
  refine ⟨posNew_self _ _ _, rfl, rfl, by simp [Blk.xs], ?_⟩
  rw [blkSize_new, q1]; simp

end Go.AM

/-
  The operations run: maps; the clearing of a slice.
-/
namespace Go.AM
open Go.MapKept (IsKey run_findKey run_checkKey sameNow_of_keys)

variable {P : Program} {w : World} {I : Im} {μ : Pos} {σ : Sto}

def kdesc : Option IntKind → TypeDesc → Prop
  | some ik, d => d = .int ik
  | none, d => d = .string

theorem tmap_spec {t : TypeId} {ik : Option IntKind} {e : TypeId} (h : tmap P t = some (ik, e)) : ∃ k d, P.underlying t = some (.map k e) ∧ P.underlying k = some d ∧ kdesc ik d := by
  unfold tmap at h
  split at h
  · rename_i k e' hu
    split at h
    · rename_i q hk
      simp only [Option.some.injEq, Prod.mk.injEq] at h
      obtain ⟨rfl, rfl⟩ := h
      exact ⟨k, _, hu, hk, rfl⟩
    · rename_i hk
      simp only [Option.some.injEq, Prod.mk.injEq] at h
      obtain ⟨rfl, rfl⟩ := h
      exact ⟨k, _, hu, hk, rfl⟩
    · cases h
  · cases h

theorem key_rep {ik : Option IntKind} {v : Value} {u : AV} (hv : RepV w I μ σ v u) (hk : keyOk ik u) : keyFits ik (keyOf u) ∧ v = keyVal ik (keyOf u) := by
  cases u with
  | d x =>
    cases x with
    | int k n =>
      simp only [keyOk] at hk
      subst hk
      cases hv.inv_d
      exact ⟨trivial, rfl⟩
    | str l =>
      simp only [keyOk] at hk
      subst hk
      cases hv.inv_d
      exact ⟨trivial, rfl⟩
    | _ => exact hk.elim
  | _ => exact hk.elim

theorem keyVal_inj {ik : Option IntKind} {k k' : Key} (h : keyFits ik k) (h' : keyFits ik k') (e : keyVal ik k = keyVal ik k') : k = k' := by
  cases ik <;> cases k <;> cases k' <;> simp_all [keyFits, keyVal]

theorem isKey_of {ik : Option IntKind} {d : TypeDesc} (hi : kdesc ik d) {k : Key} (hk : keyFits ik k) : IsKey d (keyVal ik k) := by
  cases ik <;> cases k <;> simp_all [keyFits, keyVal, kdesc, IsKey]
theorem checkKey_goes {ik : Option IntKind} {kt : TypeId} {d : TypeDesc} (hd : P.underlying kt = some d) (hi : kdesc ik d) {k : Key} (hk : keyFits ik k) (em : Bool) : (Instr.checkKey em 10000 kt (keyVal ik k)).run P w = .ok () w :=
  run_checkKey hd (isKey_of hi hk) em 9999

theorem sameNow_key {ik : Option IntKind} {d : TypeDesc} (hi : kdesc ik d) {k k' : Key} (hk : keyFits ik k) (hk' : keyFits ik k') : Instr.sameNow d (keyVal ik k) (keyVal ik k') = some (decide (k = k')) := by
  obtain ⟨r, h1, h2⟩ := sameNow_of_keys (isKey_of hi hk) (isKey_of hi hk')
  rw [h1]
  congr 1
  rw [Bool.eq_iff_iff, h2, decide_eq_true_eq]
  exact ⟨keyVal_inj hk hk', fun e => by rw [e]⟩

theorem findNow_spec {ik : Option IntKind} {d : TypeDesc} (hi : kdesc ik d) {k : Key} (hk : keyFits ik k) : ∀ (es : List MapEntry) (i : Nat), (∀ e ∈ es, ∃ k', keyFits ik k' ∧ e.key = keyVal ik k') →
    (∃ e n, es[n]? = some e ∧ e.key = keyVal ik k ∧ Instr.findNow d (keyVal ik k) es i = some (some (i + n, e.val))) ∨ ((∀ e ∈ es, e.key ≠ keyVal ik k) ∧ Instr.findNow d (keyVal ik k) es i = some none)
  | [], i, _ => .inr ⟨fun e he => by simp at he, rfl⟩
  | e :: es, i, h => by
    obtain ⟨k', h1, h2⟩ := h e List.mem_cons_self
    have hs := sameNow_key hi hk h1
    rw [← h2] at hs
    by_cases hkk : k = k'
    · subst hkk
      left
      refine ⟨e, 0, rfl, h2, ?_⟩
      simp [Instr.findNow, hs]
    · have hs' : Instr.sameNow d (keyVal ik k) e.key = some false := by rw [hs]; simp [hkk]
      have hf : Instr.findNow d (keyVal ik k) (e :: es) i = Instr.findNow d (keyVal ik k) es (i + 1) := by simp [Instr.findNow, hs']
      rw [hf]
      rcases findNow_spec hi hk es (i + 1) (fun e' he' => h e' (List.mem_cons_of_mem _ he')) with ⟨e', n, q1, q2, q3⟩ | ⟨q1, q2⟩
      · exact .inl ⟨e', n + 1, by simpa using q1, q2, by rw [q3]; congr 3; omega⟩
      · refine .inr ⟨fun e' he' => ?_, q2⟩
        rcases List.mem_cons.1 he' with rfl | he'
        · rw [h2]; intro hc; exact hkk (keyVal_inj h1 hk hc).symm
        · exact q1 e' he'

/-- a map that is alive -/
theorem Rel.mapOf (h : Rel w I μ σ) {id : Nat} (hb : (blkAt σ id).isMap = true) : ∃ b es clock, id < σ.length ∧ alive σ id ∧ (blkAt σ id).own = true ∧ μ id = some (b, 0) ∧ ¬ I.fr b ∧ w.heap[b]? = some (.map es clock) ∧ MapIs w I μ σ (blkAt σ id).mk (blkAt σ id).mf es.toList := by
  cases hB : blkAt σ id with
  | map ik f =>
    have ho : (blkAt σ id).own = true := by rw [hB]; rfl
    have hid := blkAt_own_lt ho
    have := h.blk id hid
    rw [hB] at this
    obtain ⟨b, es, clock, h1, h2, h3, h4⟩ := this
    exact ⟨b, es, clock, hid, by unfold alive; rw [hB]; rfl, rfl, h1, h2, h3, h4⟩
  | _ => rw [hB] at hb; simp [Blk.isMap] at hb

def lkV (σ : Sto) (z m k : AV) (ok : Bool) : AV := if ok = true then .tup [(lkF σ m (keyOf k)).getD z, .d (.bool (lkF σ m (keyOf k)).isSome)] else (lkF σ m (keyOf k)).getD z

theorem zeroV_rep {e : TypeId} {z : Value} (hz : tzero P e = some z) : RepV w I μ σ z (zeroV P e) := by
  unfold zeroV; rw [hz]; exact constV_rep z

theorem pair_rep {v1 v2 : Value} {u1 u2 : AV} (h1 : RepV w I μ σ v1 u1) (h2 : RepV w I μ σ v2 u2) : RepV w I μ σ (.tuple #[v1, v2]) (.tup [u1, u2]) :=
  .tup [v1, v2] [u1, u2] rfl fun i v u hv hu => by
    match i with
    | 0 => simp at hv hu; subst hv; subst hu; exact h1
    | 1 => simp at hv hu; subst hv; subst hu; exact h2
    | i + 2 => simp at hv

theorem lookup_goes (h : Rel w I μ σ) {t : TypeId} {ik : Option IntKind} {e : TypeId} (ht : tmap P t = some (ik, e)) {mv kv : Value} {m k : AV} (hm : RepV w I μ σ mv m) (hk : RepV w I μ σ kv k) (hko : keyOk ik k) (ho : lkOk σ ik m)
    (hz : (tzero P e).isSome = true) (ok : Bool) : ∃ z, (Instr.lookup t mv kv ok).run P w = .ok z w ∧ RepV w I μ σ z (lkV σ (zeroV P e) m k ok) := by
  obtain ⟨kt, d, hu, hd, hi⟩ := tmap_spec ht
  obtain ⟨z0, hz⟩ := Option.isSome_iff_exists.1 hz
  obtain ⟨hf, rfl⟩ := key_rep hk hko
  have hzr := zeroV_rep (P := P) (w := w) (I := I) (μ := μ) (σ := σ) hz
  have hzrun := run_zeroValue' (P := P) (w := w) hz
  have fin : ∀ (v : Value) (b : Bool) (u : AV), RepV w I μ σ v u → RepV w I μ σ (if ok = true then .tuple #[v, .bool b] else v) (if ok = true then .tup [u, .d (.bool b)] else u) := fun v b u hr => by
    cases ok with
    | true => exact pair_rep hr (.d _ _ (.bool _))
    | false => exact hr
  cases m with
  | mapr id =>
    obtain ⟨hb, hik⟩ := ho
    obtain ⟨b, es, clock, _, hal, _, h1, _, h3, hM⟩ := h.mapOf hb
    cases hm with
    | mapr _ _ _ hh =>
      obtain ⟨b', h4, rfl⟩ := hh
      have := h4 hal
      rw [h1] at this
      simp only [Option.some.injEq, Prod.mk.injEq, and_true] at this
      subst this
      rw [hik] at hM
      have hck := checkKey_goes (P := P) (w := w) hd hi hf es.isEmpty
      rcases findNow_spec hi hf es.toList 0 hM.keys with ⟨en, n, q1, q2, q3⟩ | ⟨q1, q2⟩
      · have hrun := run_findKey (P := P) (w := w) hd q3
        have hsome : ∃ u, (blkAt σ id).mf (keyOf k) = some u ∧ RepV w I μ σ en.val u := by
          cases hfk : (blkAt σ id).mf (keyOf k) with
          | none => exact absurd q2 (hM.miss _ hf hfk en (List.mem_of_getElem? q1))
          | some u =>
            obtain ⟨e2, r1, r2, r3⟩ := hM.hit _ u hf hfk
            have : e2 = en := by
              apply Classical.byContradiction
              intro hne
              have hp := hM.nodup
              rw [List.pairwise_iff_getElem] at hp
              obtain ⟨i2, hi2⟩ := List.getElem?_of_mem r1
              have hl2 : i2 < es.toList.length := by
                rcases Nat.lt_or_ge i2 es.toList.length with h' | h'
                · exact h'
                · rw [List.getElem?_eq_none h'] at hi2; cases hi2
              have hl1 : n < es.toList.length := by
                rcases Nat.lt_or_ge n es.toList.length with h' | h'
                · exact h'
                · rw [List.getElem?_eq_none h'] at q1; cases q1
              rw [List.getElem?_eq_getElem hl1] at q1
              rw [List.getElem?_eq_getElem hl2] at hi2
              simp only [Option.some.injEq] at q1 hi2
              rcases Nat.lt_trichotomy n i2 with hlt | heq | hgt
              · exact hp n i2 hl1 hl2 hlt (by rw [q1, hi2, q2, r2])
              · subst heq; exact hne (hi2.symm.trans q1)
              · exact hp i2 n hl2 hl1 hgt (by rw [q1, hi2, q2, r2])
            subst this
            exact ⟨u, rfl, r3⟩
        obtain ⟨u, hu1, hu2⟩ := hsome
        refine ⟨if ok = true then .tuple #[en.val, .bool true] else en.val, ?_, ?_⟩
        · simp only [Instr.lookup, Sem.run_bind, run_underlying hu, Result.andThen_ok, MapKept.run_getObj_map h3, hck, hrun, Sem.run_pure]
        · have e0 : lkF σ (.mapr id) (keyOf k) = some u := hu1
          unfold lkV
          rw [e0]
          exact fin en.val true u hu2
      · have hrun := run_findKey (P := P) (w := w) hd q2
        have hnone : (blkAt σ id).mf (keyOf k) = none := by
          cases hfk : (blkAt σ id).mf (keyOf k) with
          | none => rfl
          | some u =>
            obtain ⟨e2, r1, r2, r3⟩ := hM.hit _ u hf hfk
            exact absurd r2 (q1 e2 r1)
        refine ⟨if ok = true then .tuple #[z0, .bool false] else z0, ?_, ?_⟩
        · simp only [Instr.lookup, Sem.run_bind, run_underlying hu, Result.andThen_ok, MapKept.run_getObj_map h3, hck, hrun, hzrun, Sem.run_pure]
        · have e0 : lkF σ (.mapr id) (keyOf k) = none := hnone
          unfold lkV
          rw [e0]
          exact fin z0 false _ hzr
  | d x =>
    cases x with
    | raw v =>
      cases v with
      | map p =>
        cases p with
        | none =>
          have hmv : mv = .map none := by cases hm.inv_d; rfl
          subst hmv
          have hck := checkKey_goes (P := P) (w := w) hd hi hf true
          have hrun := run_findKey (P := P) (w := w) (kt := kt) (l := []) (k := keyVal ik (keyOf k)) (a := none) hd rfl
          refine ⟨if ok = true then .tuple #[z0, .bool false] else z0, ?_, fin z0 false _ hzr⟩
          simp only [Instr.lookup, Sem.run_bind, run_underlying hu, Result.andThen_ok, Sem.run_pure, Array.isEmpty_empty, hck, hrun, hzrun]
        | some b => exact ho.elim
      | _ => exact ho.elim
    | _ => exact ho.elim
  | _ => exact ho.elim

/-! ### writes -/
theorem wrote_map {b : Nat} {es : Array MapEntry} {clock : Nat} (hb : w.heap[b]? = some (.map es clock)) (es' : Array MapEntry) (clock' : Nat) : WroteAt b w { w with heap := w.heap.setIfInBounds b (.map es' clock') } := by
  have hlt : b < w.heap.size := by
    rcases Nat.lt_or_ge b w.heap.size with h' | h'
    · exact h'
    · rw [Array.getElem?_eq_none h'] at hb; cases hb
  refine ⟨rfl, rfl, rfl, by simp, fun b' hb' => by simp [Array.getElem?_setIfInBounds_ne (Ne.symm hb')], ?_, ?_⟩
  · unfold blkSize; simp [hb, Array.getElem?_setIfInBounds_self_of_lt hlt]
  · rintro ⟨c, t, hc⟩; rw [hb] at hc; cases hc
theorem heap_map {b : Nat} {es : Array MapEntry} {clock : Nat} (hb : w.heap[b]? = some (.map es clock)) (o : Obj) : ({ w with heap := w.heap.setIfInBounds b o } : World).heap[b]? = some o := by
  have hlt : b < w.heap.size := by
    rcases Nat.lt_or_ge b w.heap.size with h' | h'
    · exact h'
    · rw [Array.getElem?_eq_none h'] at hb; cases hb
  simp [Array.getElem?_setIfInBounds_self_of_lt hlt]

/-- the map's block written anew -/
theorem Rel.setMap (h : Rel w I μ σ) {id b : Nat} {es es' : Array MapEntry} {clock clock' : Nat} {f' : Key → Option AV} (hb : (blkAt σ id).isMap = true) (hμ : μ id = some (b, 0)) (hh : w.heap[b]? = some (.map es clock))
    (hM : MapIs w I μ σ (blkAt σ id).mk f' es'.toList) :
    Rel { w with heap := w.heap.setIfInBounds b (.map es' clock') } I μ (σ.set id (.map (blkAt σ id).mk f')) ∧ Keep σ.length w I μ σ { w with heap := w.heap.setIfInBounds b (.map es' clock') } I μ (σ.set id (.map (blkAt σ id).mk f')) := by
  have hown : (blkAt σ id).own = true := by cases hB : blkAt σ id <;> simp_all [Blk.isMap, Blk.own]
  have hid := blkAt_own_lt hown
  have ww := wrote_map hh es' clock'
  have a1 : (Blk.map (blkAt σ id).mk f').isArr = (blkAt σ id).isArr := by cases hB : blkAt σ id <;> simp_all [Blk.isMap, Blk.isArr]
  have a2 : (Blk.map (blkAt σ id).mk f').es = (blkAt σ id).es := by cases hB : blkAt σ id <;> simp_all [Blk.isMap, Blk.es]
  have a3 : (blkAt σ id).xs.length ≤ (Blk.map (blkAt σ id).mk f').xs.length := by cases hB : blkAt σ id <;> simp_all [Blk.isMap, Blk.xs]
  have k := keep_upd h hown hμ ww (.map (blkAt σ id).mk f') a1 a2 a3
  refine ⟨h.upd hown hμ ww _ a1 a2 a3 ⟨b, es', clock', hμ, (own_lt h hid hown hμ).2, heap_map hh _, hM.imp' fun v u hv => hv.keep k⟩, k⟩

theorem mapUpdate_goes (h : Rel w I μ σ) {t : TypeId} {ik : Option IntKind} {e : TypeId} (ht : tmap P t = some (ik, e)) {mv kv vv : Value} {m k v : AV} (hm : RepV w I μ σ mv m) (hk : RepV w I μ σ kv k) (hv : RepV w I μ σ vv v) (hko : keyOk ik k) (ho : muOk σ ik m v) :
    ∃ w', (Instr.mapUpdate t mv kv vv).run P w = .ok () w' ∧ Rel w' I μ (muS σ (keyOf k) v m) ∧ Keep σ.length w I μ σ w' I μ (muS σ (keyOf k) v m) := by
  obtain ⟨kt, d, hu, hd, hi⟩ := tmap_spec ht
  obtain ⟨hf, rfl⟩ := key_rep hk hko
  cases m with
  | mapr id =>
    obtain ⟨hb, hik, _⟩ := ho
    obtain ⟨b, es, clock, _, hal, _, h1, _, h3, hM⟩ := h.mapOf hb
    cases hm with
    | mapr _ _ _ hh =>
      obtain ⟨b', h4, rfl⟩ := hh
      have := h4 hal
      rw [h1] at this
      simp only [Option.some.injEq, Prod.mk.injEq, and_true] at this
      subst this
      have hM' := hM
      rw [hik] at hM'
      have hck := checkKey_goes (P := P) (w := w) hd hi hf false
      rcases findNow_spec hi hf es.toList 0 hM'.keys with ⟨en, n, q1, q2, q3⟩ | ⟨q1, q2⟩
      · have hrun := run_findKey (P := P) (w := w) hd q3
        have hn : n < es.size := by
          rcases Nat.lt_or_ge n es.size with h' | h'
          · exact h'
          · rw [List.getElem?_eq_none (by simpa using h')] at q1; cases q1
        have q1' : es[n]? = some en := by simpa using q1
        have hstay : (Instr.keyThatStays en.key (keyVal ik (keyOf k))).run P w = .ok (keyVal ik (keyOf k)) w := by
          rw [q2]
          have : Instr.sameBits 10000 (keyVal ik (keyOf k)) (keyVal ik (keyOf k)) = true := by
            cases ik <;> cases keyOf k <;> simp [keyVal, Instr.sameBits, MapKept.bytes_beq]
          simp [Instr.keyThatStays, this]
        obtain ⟨r1, r2⟩ := h.setMap (clock' := clock) (es' := es.modify n fun e => { e with key := keyVal ik (keyOf k), val := vv }) (f' := mset (blkAt σ id).mf (keyOf k) v) hb h1 h3 (by
          rw [hik]
          have hget : ∀ j : Nat, (es.modify n fun e => { e with key := keyVal ik (keyOf k), val := vv }).toList[j]? = if n = j then (es.toList[j]?).map (fun e => { e with key := keyVal ik (keyOf k), val := vv }) else es.toList[j]? := fun j => by
            rw [Array.toList_modify, List.getElem?_modify]
            by_cases e : n = j <;> simp [e]
          have hkeys : ∀ e' ∈ (es.modify n fun e => { e with key := keyVal ik (keyOf k), val := vv }).toList, ∃ j e0, es.toList[j]? = some e0 ∧ e'.key = e0.key ∧ ((j = n ∧ e'.val = vv) ∨ (j ≠ n ∧ e' = e0)) := fun e' he' => by
            obtain ⟨j, hj⟩ := List.getElem?_of_mem he'
            rw [hget] at hj
            by_cases e : n = j
            · subst e
              rw [if_pos rfl, q1] at hj
              simp only [Option.map_some, Option.some.injEq] at hj
              subst hj
              exact ⟨n, en, q1, q2.symm, .inl ⟨rfl, rfl⟩⟩
            · rw [if_neg e] at hj
              exact ⟨j, e', hj, rfl, .inr ⟨fun h => e h.symm, rfl⟩⟩
          refine ⟨fun e' he' => ?_, ?_, fun k' u' hk' hu' => ?_, fun k' hk' hu' e' he' => ?_⟩
          · obtain ⟨j, e0, g1, g2, _⟩ := hkeys e' he'
            rw [g2]; exact hM'.keys e0 (List.mem_of_getElem? g1)
          · rw [List.pairwise_iff_getElem]
            intro i j hi' hj' hij
            have hp := hM'.nodup
            rw [List.pairwise_iff_getElem] at hp
            have hli : i < es.toList.length := by simpa using hi'
            have hlj : j < es.toList.length := by simpa using hj'
            have gi : ((es.modify n fun e => { e with key := keyVal ik (keyOf k), val := vv }).toList[i]).key = (es.toList[i]).key := by
              have := hget i
              rw [List.getElem?_eq_getElem hi', List.getElem?_eq_getElem hli] at this
              by_cases e : n = i
              · subst e
                rw [if_pos rfl] at this
                simp only [Option.map_some, Option.some.injEq] at this
                rw [this]
                rw [List.getElem?_eq_getElem hli] at q1
                simp only [Option.some.injEq] at q1
                rw [q1]; exact q2.symm
              · rw [if_neg e] at this
                simp only [Option.some.injEq] at this
                rw [this]
            have gj : ((es.modify n fun e => { e with key := keyVal ik (keyOf k), val := vv }).toList[j]).key = (es.toList[j]).key := by
              have := hget j
              rw [List.getElem?_eq_getElem hj', List.getElem?_eq_getElem hlj] at this
              by_cases e : n = j
              · subst e
                rw [if_pos rfl] at this
                simp only [Option.map_some, Option.some.injEq] at this
                rw [this]
                rw [List.getElem?_eq_getElem hlj] at q1
                simp only [Option.some.injEq] at q1
                rw [q1]; exact q2.symm
              · rw [if_neg e] at this
                simp only [Option.some.injEq] at this
                rw [this]
            rw [gi, gj]
            exact hp i j hli hlj hij
          · unfold mset at hu'
            by_cases e : k' = keyOf k
            · subst e
              rw [if_pos rfl] at hu'
              simp only [Option.some.injEq] at hu'
              subst hu'
              refine ⟨{ en with key := keyVal ik (keyOf k), val := vv }, List.mem_of_getElem? (i := n) (by rw [hget, if_pos rfl, q1]; rfl), rfl, hv⟩
            · rw [if_neg e] at hu'
              obtain ⟨e0, g1, g2, g3⟩ := hM'.hit k' u' hk' hu'
              obtain ⟨j, hj⟩ := List.getElem?_of_mem g1
              have hne : n ≠ j := fun h => by
                subst h
                rw [q1] at hj
                simp only [Option.some.injEq] at hj
                subst hj
                exact e (keyVal_inj hk' hf (g2.symm.trans q2))
              exact ⟨e0, List.mem_of_getElem? (i := j) (by rw [hget, if_neg hne, hj]), g2, g3⟩
          · unfold mset at hu'
            by_cases e : k' = keyOf k
            · rw [if_pos e] at hu'; cases hu'
            · rw [if_neg e] at hu'
              obtain ⟨j, e0, g1, g2, _⟩ := hkeys e' he'
              rw [g2]; exact hM'.miss k' hk' hu' e0 (List.mem_of_getElem? g1))
        refine ⟨_, ?_, r1, r2⟩
        simp only [Instr.mapUpdate, Sem.run_bind, run_underlying hu, Result.andThen_ok, MapKept.run_getObj_map h3, hck, hrun, Nat.zero_add, q1', Option.map_some, Option.getD_some, hstay, MapKept.run_setObj_map _ h3]
      · have hrun := run_findKey (P := P) (w := w) hd q2
        obtain ⟨r1, r2⟩ := h.setMap (clock' := clock + 1) (es' := es.push { key := keyVal ik (keyOf k), val := vv, born := clock }) (f' := mset (blkAt σ id).mf (keyOf k) v) hb h1 h3 (by
          rw [hik]
          refine ⟨fun e' he' => ?_, ?_, fun k' u' hk' hu' => ?_, fun k' hk' hu' e' he' => ?_⟩
          · rw [Array.toList_push] at he'
            rcases List.mem_append.1 he' with he' | he'
            · exact hM'.keys e' he'
            · simp at he'; subst he'; exact ⟨_, hf, rfl⟩
          · rw [Array.toList_push, List.pairwise_append]
            refine ⟨hM'.nodup, by simp, fun a ha b' hb' => ?_⟩
            simp at hb'; subst hb'
            exact q1 a ha
          · rw [Array.toList_push]
            unfold mset at hu'
            by_cases e : k' = keyOf k
            · subst e
              rw [if_pos rfl] at hu'
              simp only [Option.some.injEq] at hu'
              subst hu'
              exact ⟨_, List.mem_append_right _ List.mem_cons_self, rfl, hv⟩
            · rw [if_neg e] at hu'
              obtain ⟨e0, g1, g2, g3⟩ := hM'.hit k' u' hk' hu'
              exact ⟨e0, List.mem_append_left _ g1, g2, g3⟩
          · rw [Array.toList_push] at he'
            unfold mset at hu'
            by_cases e : k' = keyOf k
            · rw [if_pos e] at hu'; cases hu'
            · rw [if_neg e] at hu'
              rcases List.mem_append.1 he' with he' | he'
              · exact hM'.miss k' hk' hu' e' he'
              · simp at he'; subst he'
                exact fun hc => e (keyVal_inj hk' hf hc.symm))
        refine ⟨_, ?_, r1, r2⟩
        simp only [Instr.mapUpdate, Sem.run_bind, run_underlying hu, Result.andThen_ok, MapKept.run_getObj_map h3, hck, hrun, MapKept.run_setObj_map _ h3]
  | _ => exact ho.elim

theorem delete_goes (h : Rel w I μ σ) {t ty t2 : TypeId} {ik : Option IntKind} {e : TypeId} (ht : tmap P t = some (ik, e)) {mv kv : Value} {id : Nat} {k : AV} (hm : RepV w I μ σ mv (.mapr id)) (hk : RepV w I μ σ kv k) (hko : keyOk ik k) (hb : (blkAt σ id).isMap = true) (hik : (blkAt σ id).mk = ik) :
    ∃ w', (Builtin.delete_ #[t, t2] ty #[mv, kv]).run P w = .ok (.tuple #[]) w' ∧ Rel w' I μ (mdS σ (keyOf k) (.mapr id)) ∧ Keep σ.length w I μ σ w' I μ (mdS σ (keyOf k) (.mapr id)) := by
  obtain ⟨kt, d, hu, hd, hi⟩ := tmap_spec ht
  obtain ⟨hf, rfl⟩ := key_rep hk hko
  obtain ⟨b, es, clock, _, hal, _, h1, _, h3, hM⟩ := h.mapOf hb
  cases hm with
  | mapr _ _ _ hh =>
    obtain ⟨b', h4, rfl⟩ := hh
    have := h4 hal
    rw [h1] at this
    simp only [Option.some.injEq, Prod.mk.injEq, and_true] at this
    subst this
    have hM' := hM
    rw [hik] at hM'
    have hck := checkKey_goes (P := P) (w := w) hd hi hf es.isEmpty
    rcases findNow_spec hi hf es.toList 0 hM'.keys with ⟨en, n, q1, q2, q3⟩ | ⟨q1, q2⟩
    · have hrun := run_findKey (P := P) (w := w) hd q3
      have hn : n < es.size := by
        rcases Nat.lt_or_ge n es.size with h' | h'
        · exact h'
        · rw [List.getElem?_eq_none (by simpa using h')] at q1; cases q1
      have hl : (es.eraseIdxIfInBounds n).toList = es.toList.eraseIdx n := by
        simp [Array.eraseIdxIfInBounds, hn]
      have hmem : ∀ e', e' ∈ es.toList.eraseIdx n ↔ e' ∈ es.toList ∧ e'.key ≠ keyVal ik (keyOf k) := fun e' => by
        have hp := hM'.nodup
        rw [List.pairwise_iff_getElem] at hp
        have hnl : n < es.toList.length := by simpa using hn
        have hen : es.toList[n] = en := by rw [List.getElem?_eq_getElem hnl] at q1; simpa using q1
        rw [List.mem_eraseIdx_iff_getElem?]
        constructor
        · rintro ⟨j, hj, hje⟩
          refine ⟨List.mem_of_getElem? hje, fun hc => ?_⟩
          have hjl : j < es.toList.length := by
            rcases Nat.lt_or_ge j es.toList.length with h' | h'
            · exact h'
            · rw [List.getElem?_eq_none h'] at hje; cases hje
          rw [List.getElem?_eq_getElem hjl] at hje
          simp only [Option.some.injEq] at hje
          rcases Nat.lt_or_ge j n with hlt | hge
          · exact hp j n hjl hnl hlt (by rw [hen, hje, hc, q2])
          · exact hp n j hnl hjl (by omega) (by rw [hen, hje, hc, q2])
        · rintro ⟨hm', hc⟩
          obtain ⟨j, hj⟩ := List.getElem?_of_mem hm'
          refine ⟨j, fun hjn => ?_, hj⟩
          subst hjn
          rw [q1] at hj
          simp only [Option.some.injEq] at hj
          subst hj
          exact hc q2
      obtain ⟨r1, r2⟩ := h.setMap (clock' := clock) (es' := es.eraseIdxIfInBounds n) (f' := mdel (blkAt σ id).mf (keyOf k)) hb h1 h3 (by
        rw [hik, hl]
        refine ⟨fun e' he' => hM'.keys e' ((hmem e').1 he').1, hM'.nodup.sublist (List.eraseIdx_sublist _ _), fun k' u' hk' hu' => ?_, fun k' hk' hu' e' he' => ?_⟩
        · unfold mdel at hu'
          by_cases e : k' = keyOf k
          · rw [if_pos e] at hu'; cases hu'
          · rw [if_neg e] at hu'
            obtain ⟨e0, g1, g2, g3⟩ := hM'.hit k' u' hk' hu'
            exact ⟨e0, (hmem e0).2 ⟨g1, fun hc => e (keyVal_inj hk' hf (g2.symm.trans hc))⟩, g2, g3⟩
        · have := (hmem e').1 he'
          unfold mdel at hu'
          by_cases e : k' = keyOf k
          · rw [e]; exact this.2
          · rw [if_neg e] at hu'; exact hM'.miss k' hk' hu' e' this.1)
      refine ⟨_, ?_, r1, r2⟩
      simp [Builtin.delete_, run_underlying hu, MapKept.run_getObj_map h3, hck, hrun, MapKept.run_setObj_map _ h3]
    · have hrun := run_findKey (P := P) (w := w) hd q2
      obtain ⟨r1, r2⟩ := h.setMap (clock' := clock) (es' := es) (f' := mdel (blkAt σ id).mf (keyOf k)) hb h1 h3 (by
        rw [hik]
        refine ⟨hM'.keys, hM'.nodup, fun k' u' hk' hu' => ?_, fun k' hk' hu' e' he' => ?_⟩
        · unfold mdel at hu'
          by_cases e : k' = keyOf k
          · rw [if_pos e] at hu'; cases hu'
          · rw [if_neg e] at hu'; exact hM'.hit k' u' hk' hu'
        · unfold mdel at hu'
          by_cases e : k' = keyOf k
          · rw [e]; exact q1 e' he'
          · rw [if_neg e] at hu'; exact hM'.miss k' hk' hu' e' he')
      refine ⟨_, ?_, r1, r2⟩
      simp [Builtin.delete_, run_underlying hu, MapKept.run_getObj_map h3, hck, hrun, MapKept.run_setObj_map _ h3]

theorem makeMap_goes (h : Rel w I μ σ) (t : TypeId) (ik : Option IntKind) :
    ∃ w' μ', (Instr.makeMap t none).run P w = .ok (.map (some w.heap.size)) w' ∧ Rel w' I μ' (σ ++ [.map ik fun _ => none]) ∧ Keep σ.length w I μ σ w' I μ' (σ ++ [.map ik fun _ => none]) ∧ RepV w' I μ' (σ ++ [.map ik fun _ => none]) (.map (some w.heap.size)) (.mapr σ.length) := by
  refine ⟨w.alloc (.map #[] 0), posNew μ σ.length (w.heap.size, 0), rfl, h.alloc _ _ ⟨w.heap.size, #[], 0, posNew_self _ _ _, fun hI => ?_, heap_alloc_new _ _, ?_⟩, keep_alloc h _ _ _, .mapr _ _ (by simp) ⟨w.heap.size, fun _ => posNew_self _ _ _, rfl⟩⟩
  · have := h.imm _ hI; omega
  · exact ⟨fun e he => by simp at he, by simp, fun k v _ hv => by simp at hv, fun k _ _ e he => by simp at he⟩

/-! ### clear -/
theorem clearL_length (xs : List D) (off n : Nat) (z : D) : (clearL xs off n z).length = xs.length := by simp [clearL]
theorem clearL_get (xs : List D) (off n : Nat) (z : D) (i : Nat) (hi : i < xs.length) : (clearL xs off n z)[i]? = some (if off ≤ i ∧ i < off + n then z else xs.getD i default) := by
  simp [clearL, hi]
theorem clearL_none (xs : List D) (off : Nat) (z : D) : clearL xs off 0 z = xs := by
  apply List.ext_getElem?
  intro i
  rcases Nat.lt_or_ge i xs.length with hi | hi
  · rw [clearL_get _ _ _ _ _ hi, if_neg (by omega), getD_of_lt hi]
  · rw [List.getElem?_eq_none hi, List.getElem?_eq_none (by rw [clearL_length]; exact hi)]

def clOk (P : Program) (σ : Sto) (t : TypeId) : AV → Prop
  | .osl id _ _ => (blkAt σ id).isOwnArr = true ∧ (match telem P t with | some e => (match tzero P e, dataZero P e with | some z, some _ => z.cells.size = (blkAt σ id).es | _, _ => False) | none => False)
  | _ => False
def clX (P : Program) (t : TypeId) : D := match telem P t with | some e => (dataZero P e).getD default | none => default
def clS (P : Program) (σ : Sto) (t : TypeId) : AV → Sto
  | .osl id off len => σ.set id (.arr (blkAt σ id).es (clearL (blkAt σ id).xs off len (clX P t)))
  | _ => σ

theorem clear_goes (h : Rel w I μ σ) {t ty : TypeId} {v : Value} {u : AV} (hv : RepV w I μ σ v u) (ho : clOk P σ t u) :
    ∃ w', (Builtin.clear_ #[t] ty #[v]).run P w = .ok (.tuple #[]) w' ∧ Rel w' I μ (clS P σ t u) ∧ Keep σ.length w I μ σ w' I μ (clS P σ t u) := by
  cases u with
  | osl id off len =>
    obtain ⟨hb, ho⟩ := ho
    cases hte : telem P t with
    | none => rw [hte] at ho; exact ho.elim
    | some e =>
    cases hz : tzero P e with
    | none => simp [hte, hz] at ho
    | some z =>
    cases hdz : dataZero P e with
    | none => simp [hte, hz, hdz] at ho
    | some x =>
    simp only [hte, hz, hdz] at ho
    have hX : clX P t = x := by unfold clX; rw [hte]; simp [hdz]
    have hu := telem_spec hte
    cases hB : blkAt σ id with
    | arr es xs =>
      rw [hB] at ho
      simp only [Blk.es] at ho
      have hown : (blkAt σ id).own = true := by rw [hB]; rfl
      have hid := blkAt_own_lt hown
      have hal : alive σ id := by unfold alive; rw [hB]; rfl
      simp only [clS, hB, Blk.es, Blk.xs, hX]
      clear hX
      have same : len = 0 → Rel w I μ (σ.set id (.arr es (clearL xs off len x))) ∧ Keep σ.length w I μ σ w I μ (σ.set id (.arr es (clearL xs off len x))) := fun hl => by
        subst hl
        rw [clearL_none]
        have e2 : σ.set id (.arr es xs) = σ := by
          apply List.ext_getElem?
          intro i
          by_cases e : id = i
          · subst e
            rw [List.getElem?_set_self hid]
            unfold blkAt at hB
            rw [List.getD_eq_getElem?_getD, List.getElem?_eq_getElem hid] at hB
            simp only [Option.getD_some] at hB
            rw [List.getElem?_eq_getElem hid, hB]
          · rw [List.getElem?_set_ne e]
        rw [e2]; exact ⟨h, Keep.refl _ _ _ _ (Nat.le_refl _)⟩
      obtain ⟨_, hh⟩ := inv_osl hv
      rcases hh with ⟨rfl, a, rfl⟩ | ⟨b, base, es', cap, h1, h2, rfl⟩
      · obtain ⟨r1, r2⟩ := same rfl
        refine ⟨w, ?_, r1, r2⟩
        cases a <;> simp [Builtin.clear_, run_underlying hu]
      · by_cases hl : len = 0
        · obtain ⟨r1, r2⟩ := same hl
          refine ⟨w, ?_, r1, r2⟩
          subst hl
          simp [Builtin.clear_, run_underlying hu]
        · obtain ⟨hμ, _, p3, p4, _⟩ := h1 hal
          rw [hB] at p3 p4
          simp only [Blk.es, Blk.xs] at p3 p4
          subst p3
          have hblk := h.blk id hid
          rw [hB] at hblk
          rcases hblk with ⟨hn, _⟩ | ⟨b', base', hμ', hnI, hpl, hsz, h5, h6, h7⟩
          · rw [hμ] at hn; cases hn
          · rw [hμ] at hμ'
            simp only [Option.some.injEq, Prod.mk.injEq] at hμ'
            obtain ⟨rfl, rfl⟩ := hμ'
            obtain ⟨hrow, hxl, _⟩ := rowIs_zero (P := P) (w := w) (I := I) hdz hz len es ho
            have hzc : Builtin.zeroCells z.cells len = (Array.range (len * es)).map (z.cells[· % z.cells.size]!) := by unfold Builtin.zeroCells; rw [ho]
            rw [← hzc] at hrow
            obtain ⟨z1, z2, z3, z4, z5⟩ := hrow
            have hxm : x ∈ List.replicate len x := by simp [hl]
            have hxf := z4 x hxm
            have hle : (off + len) * es ≤ xs.length * es := Nat.mul_le_mul_right es p4
            rw [Nat.add_mul] at hle
            obtain ⟨w', hr, ww, hw⟩ := store_run (P := P) (w := w) (b := b) (o := base + off * es) (vs := (Builtin.zeroCells z.cells len).toList) hpl (by simp [z1]; omega) (fun c hc => by
              obtain ⟨q, hq⟩ := List.getElem?_of_mem hc
              have hql : q < len * es := by
                rcases Nat.lt_or_ge q (len * es) with h' | h'
                · exact h'
                · rw [List.getElem?_eq_none (by simp [z1]; exact h')] at hq; cases hq
              have hes : 0 < es := by
                rcases Nat.eq_zero_or_pos es with h' | h'
                · subst h'; simp at hql
                · exact h'
              have hi : q / es < len := Nat.div_lt_of_lt_mul (by rw [Nat.mul_comm]; exact hql)
              have hj : q % es < es := Nat.mod_lt _ hes
              obtain ⟨u, hu1, hu2⟩ := z5 (q / es) (q % es) x _ (by simp [hi]) (List.getElem?_eq_getElem (by rw [hxl]; exact hj))
              rw [Nat.div_add_mod'] at hu1
              have : c = u := by
                rw [Array.getElem?_toList, hu1] at hq
                simpa using hq.symm
              rw [this]
              exact hu2.oneCell (hxf _ (List.getElem_mem _)))
            have k := keep_upd h hown hμ ww (.arr es (clearL xs off len x)) (by rw [hB]; rfl) (by rw [hB]; rfl) (by rw [hB]; simp [Blk.xs, clearL_length])
            refine ⟨w', ?_, ?_, k⟩
            · have hlz : ∃ m, len = m + 1 := ⟨len - 1, by omega⟩
              obtain ⟨m, rfl⟩ := hlz
              simp [Builtin.clear_, run_underlying hu, run_zeroValue' hz, hr]
            · refine h.upd hown hμ ww _ (by rw [hB]; rfl) (by rw [hB]; rfl) (by rw [hB]; simp [Blk.xs, clearL_length]) (.inr ⟨b, base, hμ, hnI, ww.plain hpl, by rw [ww.bsize, clearL_length]; exact hsz, fun y hy => ?_, fun y hy => ?_, fun i j y c hy hc => ?_⟩)
              · unfold clearL at hy
                obtain ⟨i, hi, rfl⟩ := List.mem_map.1 hy
                simp only [List.mem_range] at hi
                split
                · exact hxl
                · exact h5 _ (getD_mem hi)
              · unfold clearL at hy
                obtain ⟨i, hi, rfl⟩ := List.mem_map.1 hy
                simp only [List.mem_range] at hi
                split
                · exact hxf
                · exact h6 _ (getD_mem hi)
              · have hil : i < xs.length := by
                  rcases Nat.lt_or_ge i xs.length with h' | h'
                  · exact h'
                  · rw [List.getElem?_eq_none (by rw [clearL_length]; exact h')] at hy; cases hy
                rw [clearL_get _ _ _ _ _ hil] at hy
                simp only [Option.some.injEq] at hy
                rw [hw]
                have hvl : (Builtin.zeroCells z.cells len).toList.length = len * es := by simpa using z1
                by_cases hin : off ≤ i ∧ i < off + len
                · rw [if_pos hin] at hy
                  subst hy
                  have hjl : j < es := by
                    rw [← hxl]
                    rcases Nat.lt_or_ge j x.cells.length with h' | h'
                    · exact h'
                    · rw [List.getElem?_eq_none h'] at hc; cases hc
                  have e1 : i * es = off * es + (i - off) * es := by rw [← Nat.add_mul]; congr 1; omega
                  have e2 : (i - off + 1) * es ≤ len * es := Nat.mul_le_mul_right es (by omega)
                  rw [Nat.add_mul] at e2
                  rw [hvl, if_pos (by omega)]
                  obtain ⟨u, hu1, hu2⟩ := z5 (i - off) j x c (by rw [List.getElem?_replicate, if_pos (by omega)]) hc
                  refine ⟨u, ?_, hu2.keep k.imm k.rsame⟩
                  rw [Array.getElem?_toList, ← hu1]
                  congr 1; omega
                · rw [if_neg hin] at hy
                  subst hy
                  have hjl : j < es := by
                    rw [← h5 _ (getD_mem hil)]
                    rcases Nat.lt_or_ge j (xs.getD i default).cells.length with h' | h'
                    · exact h'
                    · rw [List.getElem?_eq_none h'] at hc; cases hc
                  have hout : ¬ (base + off * es ≤ base + i * es + j ∧ base + i * es + j < base + off * es + len * es) := by
                    rcases Nat.lt_or_ge i off with h' | h'
                    · have : (i + 1) * es ≤ off * es := Nat.mul_le_mul_right es h'
                      rw [Nat.add_mul] at this
                      omega
                    · have : (off + len) * es ≤ i * es := Nat.mul_le_mul_right es (by omega)
                      rw [Nat.add_mul] at this
                      omega
                  rw [hvl, if_neg hout]
                  obtain ⟨u, hu1, hu2⟩ := h7 i j _ c (getD_of_lt hil) hc
                  exact ⟨u, hu1, hu2.keep k.imm k.rsame⟩
    | _ => rw [hB] at hb; simp [Blk.isOwnArr] at hb
  | _ => exact ho.elim
end Go.AM

/-
  The evaluator of operations, and that it is sound: operations in the order of the text.
-/
namespace Go.AM

def AV.notNil : AV → Bool
  | .ptr .. | .eptr .. | .aptr .. | .fn .. => true
  | _ => false
def pickV (c : Bool) : AV → AV → AV
  | .d (.bool p), .d (.bool q) => .d (.bool (bif c then p else q))
  | .d x, .d y => .d (bif c then x else y)
  | a, b => bif c then a else b
theorem pickV_true (a b : AV) : pickV true a b = a := by
  unfold pickV; split <;> rfl
theorem pickV_false (a b : AV) : pickV false a b = b := by
  unfold pickV; split <;> rfl

def AV.strOf : AV → List UInt8
  | .d (.str s) => s
  | _ => []
def AV.isStrv : AV → Bool
  | .d (.str _) => true
  | _ => false
def AV.tupAt : AV → Nat → AV
  | .tup vs, i => vs.getD i .undef
  | _, _ => .undef
def AV.tupLen : AV → Nat
  | .tup vs => vs.length
  | _ => 0

/-- an operand's value, its guard put by -/
def evU (Gl : Globs) (env : Env) (x : Operand) : AV := (evO Gl env x).un
def evG (Gl : Globs) (env : Env) (x : Operand) : Bool := (evO Gl env x).vg

def loOf (Gl : Globs) (env : Env) : Option Operand → Int
  | some x => (evU Gl env x).num
  | none => 0
def hiOf (Gl : Globs) (env : Env) (len : Nat) : Option Operand → Int
  | some x => (evU Gl env x).num
  | none => len
def boundOk (Gl : Globs) (env : Env) : Option Operand → Prop
  | some x => (evU Gl env x).isIntv = true
  | none => True

def cvOk (P : Program) (s t : TypeId) (u : AV) : Prop := (P.underlying s).isSome = true ∧ (tintk P t).isSome = true ∧ u.isIntv = true
def cvV (P : Program) (t : TypeId) (u : AV) : AV := match tintk P t with | some k => .d (.int k (k.wrap u.num)) | none => .undef

def delOk (σ : Sto) (ik : Option IntKind) : AV → Prop
  | .mapr id => (blkAt σ id).isMap = true ∧ (blkAt σ id).mk = ik
  | _ => False

def isCall : Op → Bool
  | .call { callee := .builtin _, .. } => false
  | .call _ => true
  | _ => false
/-- leaves the store as it is -/
def quietOp : Op → Bool
  | .alloc _ | .box _ _ | .buildSlice .. | .store .. | .makeSlice .. | .makeMap .. | .mapUpdate .. | .insert .. => false
  | .call { callee := .builtin .append, .. } => false
  | .call { callee := .builtin .delete, .. } => false
  | .call { callee := .builtin .clear, .. } => false
  | _ => true

def partsU (Gl : Globs) (env : Env) (parts : Array (Nat × Operand)) : List (Nat × AV) := parts.toList.map fun p => (p.1, evU Gl env p.2)

def biOk (P : Program) (Gl : Globs) (σ : Sto) (env : Env) (b : Builtin) (args : List Operand) (ts : List TypeId) : Prop :=
  match b, args, ts with
  | .len, [x], [t] => (evU Gl env x).hasLen P t = true
  | .append, [s, x], [t1, t2] => apOk P σ t1 t2 (evU Gl env s) (evU Gl env x)
  | .min, args, _ => minmaxOk (args.map (evU Gl env))
  | .max, args, _ => minmaxOk (args.map (evU Gl env))
  | .delete, [m, k], [t, _] => match tmap P t with | some (ik, _) => keyOk ik (evU Gl env k) ∧ delOk σ ik (evU Gl env m) | none => False
  | .clear, [s], [t] => clOk P σ t (evU Gl env s)
  | _, _, _ => False
def biV (Gl : Globs) (σ : Sto) (env : Env) (b : Builtin) (args : List Operand) : AV :=
  match b, args with
  | .len, [x] => .d (.int .i64 (evU Gl env x).len)
  | .append, [s, x] => apV σ (evU Gl env s) (evU Gl env x)
  | .min, args => minV (args.map (evU Gl env))
  | .max, args => maxV (args.map (evU Gl env))
  | _, _ => .undef
def biS (P : Program) (Gl : Globs) (σ : Sto) (env : Env) (b : Builtin) (args : List Operand) (ts : List TypeId) : Sto :=
  match b, args, ts with
  | .append, [s, x], [t1, _] => apS P σ t1 (evU Gl env s) (evU Gl env x)
  | .delete, [m, k], _ => mdS σ (keyOf (evU Gl env k)) (evU Gl env m)
  | .clear, [s], [t] => clS P σ t (evU Gl env s)
  | _, _, _ => σ

def opOk (P : Program) (Gl : Globs) (σ : Sto) (env : Env) : Op → Prop
  | .move _ => True
  | .assign _ => True
  | .pick c _ _ => (evU Gl env c).isBoolv = true
  | .alloc t => match tzero P t with | some z => (constV z).storable = true | none => False
  | .box _ x => (evU Gl env x).storable = true
  | .build t parts => match tplaces P t, tzeroA P t with | some pl, some zc => fillOk pl zc.length (partsU Gl env parts) | _, _ => False
  | .buildSlice t n parts => match n with
    | 0 => parts = #[] ∧ (match telem P t with | some e => (tsz P e).isSome = true | none => False)
    | n + 1 => bslOk P σ t (n + 1) (partsU Gl env parts)
  | .load t x => match tkind P t, tsz P t with | some g, some n => ldOk σ g n (evU Gl env x) | _, _ => False
  | .store t a x => match tsz P t with | some n => stOk σ n (evU Gl env x) (evU Gl env a) | none => False
  | .nilCheck x => (evU Gl env x).notNil = true
  | .binOp op t x y _ => binOk P t op (evU Gl env x) (evU Gl env y)
  | .unOp op _ x => unOk op (evU Gl env x)
  | .convert s t x => cvOk P s t (evU Gl env x)
  | .makeFunc fn first _ => match fn with | .func _ => first = #[] | _ => False
  | .makeSlice t l c => mkOk P t (evU Gl env l) (evU Gl env c)
  | .slice t x lo hi mx => match mx with
    | none => boundOk Gl env lo ∧ boundOk Gl env hi ∧ slOk P t σ (loOf Gl env lo) (hiOf Gl env (evU Gl env x).len hi) (evU Gl env x)
    | some _ => False
  | .fieldAddr s x f => match tfld P s f with | some (_, n, _) => n ≠ 0 ∧ (evU Gl env x).isPtr = true | none => False
  | .field s x f => match tfld P s f with | some (o, n, g) => (evU Gl env x).isAgg = true ∧ o + n ≤ (evU Gl env x).ncells ∧ (g = true ∨ n = 1) | none => False
  | .indexAddr t x i => (evU Gl env i).isIntv = true ∧ (match tidx P t with
    | some (none, es) => idxOk σ es (evU Gl env i).num (evU Gl env x)
    | some (some k, _) => aidxOk k (evU Gl env i).num (evU Gl env x)
    | none => False)
  | .index t x i => tstr P t = true ∧ (evU Gl env x).isStrv = true ∧ (evU Gl env i).isIntv = true ∧ 0 ≤ (evU Gl env i).num ∧ (evU Gl env i).num < (evU Gl env x).strOf.length
  | .extract t i => i < (evU Gl env t).tupLen
  | .lookup t m k _ => match tmap P t with | some (ik, e) => keyOk ik (evU Gl env k) ∧ lkOk σ ik (evU Gl env m) ∧ (tzero P e).isSome = true | none => False
  | .mapUpdate t m k x => match tmap P t with | some (ik, _) => keyOk ik (evU Gl env k) ∧ muOk σ ik (evU Gl env m) (evU Gl env x) | none => False
  | .insert t m k x => match tmap P t with | some (ik, _) => keyOk ik (evU Gl env k) ∧ muOk σ ik (evU Gl env m) (evU Gl env x) | none => False
  | .makeMap t r => r = none ∧ (tmap P t).isSome = true
  | .call c => match c.callee with | .builtin b => biOk P Gl σ env b c.args.toList c.argTypes.toList | _ => False
  | _ => False

def opV (P : Program) (Gl : Globs) (σ : Sto) (env : Env) : Op → AV
  | .move x => evU Gl env x
  | .assign x => evU Gl env x
  | .pick c a b => pickV (evU Gl env c).truth (evU Gl env a) (evU Gl env b)
  | .alloc _ => .ptr σ.length 0
  | .box _ _ => .ptr σ.length 0
  | .build t parts => match tplaces P t, tzeroA P t with | some pl, some zc => mkAgg (fillA pl zc (partsU Gl env parts)) | _, _ => .undef
  | .buildSlice _ n _ => .osl (σ.length) 0 n
  | .load t x => match tkind P t, tsz P t with | some g, some n => ldV σ g n (evU Gl env x) | _, _ => .undef
  | .store .. => .undef
  | .nilCheck x => evU Gl env x
  | .binOp op _ x y _ => binV op (evU Gl env x) (evU Gl env y)
  | .unOp op _ x => unV op (evU Gl env x)
  | .convert _ t x => cvV P t (evU Gl env x)
  | .makeFunc fn _ caps => match fn with | .func f => .fn f (caps.toList.map (evU Gl env)) | _ => .undef
  | .makeSlice _ l _ => .osl σ.length 0 (evU Gl env l).num.toNat
  | .slice _ x lo hi _ => slV (loOf Gl env lo) (hiOf Gl env (evU Gl env x).len hi) (evU Gl env x)
  | .fieldAddr s x f => match tfld P s f with | some (o, _, _) => (evU Gl env x).shift o | none => .undef
  | .field s x f => match tfld P s f with | some (o, n, g) => (if g = true then (evU Gl env x).subV o n else (evU Gl env x).cellAt o) | none => .undef
  | .indexAddr t x i => match tidx P t with
    | some (none, es) => idxV es (evU Gl env i).num (evU Gl env x)
    | some (some _, es) => (evU Gl env x).shift ((evU Gl env i).num.toNat * es)
    | none => .undef
  | .index _ x i => .d (.int .u8 ((evU Gl env x).strOf.getD (evU Gl env i).num.toNat 0).toNat)
  | .extract t i => (evU Gl env t).tupAt i
  | .lookup t m k ok => match tmap P t with | some (_, e) => lkV σ (zeroV P e) (evU Gl env m) (evU Gl env k) ok | none => .undef
  | .makeMap _ _ => .mapr σ.length
  | .call c => match c.callee with | .builtin b => biV Gl σ env b c.args.toList | _ => .undef
  | _ => .undef

def opS (P : Program) (Gl : Globs) (σ : Sto) (env : Env) : Op → Sto
  | .alloc t => match tzero P t with | some z => σ ++ [.box (constV z).ncells (constV z)] | none => σ
  | .box _ x => σ ++ [.box (evU Gl env x).ncells (evU Gl env x)]
  | .buildSlice t n parts => match n with
    | 0 => σ ++ [.arr (apEs P t) []]
    | n + 1 => bslS P σ t (n + 1) (partsU Gl env parts)
  | .store t a x => match tsz P t with | some n => stS σ n (evU Gl env x) (evU Gl env a) | none => σ
  | .makeSlice t l _ => mkS P σ t (evU Gl env l)
  | .mapUpdate _ m k x => muS σ (keyOf (evU Gl env k)) (evU Gl env x) (evU Gl env m)
  | .insert _ m k x => muS σ (keyOf (evU Gl env k)) (evU Gl env x) (evU Gl env m)
  | .makeMap t _ => match tmap P t with | some (ik, _) => σ ++ [.map ik fun _ => none] | none => σ
  | .call c => match c.callee with | .builtin b => biS P Gl σ env b c.args.toList c.argTypes.toList | _ => σ
  | _ => σ

/-- the operands that an operation reads are there (under its guard) -/
def gdL (Gl : Globs) (env : Env) (g : Bool) : List Operand → Prop
  | [] => True
  | x :: r => (g = true → evG Gl env x = true) ∧ gdL Gl env g r
def gdOk (Gl : Globs) (env : Env) (g : Bool) : Op → Prop
  | .pick c a b => (g = true → evG Gl env c = true) ∧ (g = true → (evU Gl env c).truth = true → evG Gl env a = true) ∧ (g = true → (evU Gl env c).truth = false → evG Gl env b = true)
  | op => gdL Gl env g op.operands.toList

variable {w : World} {I : Im} {μ : Pos} {σ : Sto}

structure GlOk (Gl : Globs) (w : World) (I : Im) : Prop where
  sl : ∀ p ∈ Gl, SlAt w I p.1 0 p.2.cells.length [p.2]
  ex : ∀ p ∈ Gl, ∃ c t fz, w.heap[p.1]? = some (.cells c t fz) ∧ c.size = p.2.cells.length
theorem GlOk.nil (w : World) (I : Im) : GlOk [] w I := ⟨fun p hp => (by cases hp), fun p hp => (by cases hp)⟩
theorem GlOk.keep {Gl : Globs} {m : Nat} {w' : World} {I' : Im} {μ' : Pos} {σ' : Sto} (h : GlOk Gl w I) (k : Keep m w I μ σ w' I' μ' σ') : GlOk Gl w' I' :=
  ⟨fun p hp => (h.sl p hp).keep k.imm k.rsame, fun p hp => by
    obtain ⟨c, t, f, h1, h2⟩ := h.ex p hp
    exact ⟨c, t, f, (k.rsame _ (h.sl p hp).imm).trans h1, h2⟩⟩

/-- an operation's run is what it is worth -/
def Goes (r : Result Next) (w : World) (I : Im) (μ : Pos) (σ : Sto) (v : AV) (σ' : Sto) : Prop :=
  ∃ u w' I' μ', (r = .ok (.value u) w' ∨ (r = .ok .skip w' ∧ u = Go.undef)) ∧ Rel w' I' μ' σ' ∧ Keep σ.length w I μ σ w' I' μ' σ' ∧ RepV w' I' μ' σ' u v

theorem Goes.same {P : Program} {s : Sem Value} {u : Value} {v : AV} (h : Rel w I μ σ) (hr : s.run P w = .ok u w) (hv : RepV w I μ σ u v) : Goes ((do pure (.value (← s)) : Sem Next).run P w) w I μ σ v σ :=
  ⟨u, w, I, μ, .inl (by simp [hr]), h, Keep.refl _ _ _ _ (Nat.le_refl _), hv⟩
theorem Goes.of {P : Program} {s : Sem Value} {u : Value} {v : AV} {w' : World} {I' : Im} {μ' : Pos} {σ' : Sto} (hr : s.run P w = .ok u w') (h : Rel w' I' μ' σ') (k : Keep σ.length w I μ σ w' I' μ' σ') (hv : RepV w' I' μ' σ' u v) :
    Goes ((do pure (.value (← s)) : Sem Next).run P w) w I μ σ v σ' :=
  ⟨u, w', I', μ', .inl (by simp [hr]), h, k, hv⟩

end Go.AM

/-
  Each operation that is no call runs as the evaluator says.
-/
namespace Go.AM

variable {P : Program} {w : World} {I : Im} {μ : Pos} {σ : Sto} {n : Nat} {Gl : Globs} {env : Env} {a : Act}

theorem evU_rep (hG : GlOk Gl w I) (hE : RelEnv n w I μ σ env a) {x : Operand} (hg : evG Gl env x = true) : RepV w I μ σ (a.eval x) (evU Gl env x) := un_rep (evO_rep hG.sl hE x) hg

theorem gdL_mem : ∀ {l : List Operand}, gdL Gl env true l → ∀ x ∈ l, evG Gl env x = true
  | y :: r, h, x, hx => by
    cases hx with
    | head => exact h.1 rfl
    | tail _ hx => exact gdL_mem h.2 x hx

theorem bool_rep {v : Value} {u : AV} (hv : RepV w I μ σ v u) (hb : u.isBoolv = true) : v = .bool u.truth := by
  cases u with
  | d x =>
    have := hv.inv_d
    cases this <;> simp_all [AV.isBoolv, AV.truth]
  | _ => simp [AV.isBoolv] at hb

theorem args_rep (hG : GlOk Gl w I) (hE : RelEnv n w I μ σ env a) {l : List Operand} (hl : ∀ x ∈ l, evG Gl env x = true) :
    ∀ (i : Nat) (v : Value) (u : AV), (l.map a.eval)[i]? = some v → (l.map (evU Gl env))[i]? = some u → RepV w I μ σ v u := fun i v u hv hu => by
  rw [List.getElem?_map] at hv hu
  cases hx : l[i]? with
  | none => rw [hx] at hv; cases hv
  | some x =>
    rw [hx] at hv hu
    simp only [Option.map_some, Option.some.injEq] at hv hu
    subst hv; subst hu
    exact evU_rep hG hE (hl x (List.mem_of_getElem? hx))

theorem parts_rep (hG : GlOk Gl w I) (hE : RelEnv n w I μ σ env a) {parts : Array (Nat × Operand)} (hl : ∀ x ∈ parts.toList.map (·.2), evG Gl env x = true) :
    (partsU Gl env parts).map Prod.fst = (parts.map fun (i, x) => (i, a.eval x)).toList.map Prod.fst ∧
    ∀ (k : Nat) (p : Nat × AV) (q : Nat × Value), (partsU Gl env parts)[k]? = some p → (parts.map fun (i, x) => (i, a.eval x)).toList[k]? = some q → RepV w I μ σ q.2 p.2 := by
  refine ⟨by simp [partsU, Function.comp_def], fun k p q hp hq => ?_⟩
  unfold partsU at hp
  rw [Array.toList_map, List.getElem?_map] at hq
  rw [List.getElem?_map] at hp
  cases hx : parts.toList[k]? with
  | none => rw [hx] at hp; cases hp
  | some x =>
    rw [hx] at hp hq
    simp only [Option.map_some, Option.some.injEq] at hp hq
    subst hp; subst hq
    exact evU_rep hG hE (hl _ (List.mem_map.2 ⟨x, List.mem_of_getElem? hx, rfl⟩))

theorem builtin_goes (hR : Rel w I μ σ) (hG : GlOk Gl w I) (hE : RelEnv n w I μ σ env a) {b : Builtin} {args : Array Operand} {ts : Array TypeId} (ty : TypeId) (cs : Array Bool) (hl : ∀ x ∈ args.toList, evG Gl env x = true)
    (ho : biOk P Gl σ env b args.toList ts.toList) : Goes ((builtin b ts ty cs (args.map a.eval)).run P w) w I μ σ (biV Gl σ env b args.toList) (biS P Gl σ env b args.toList ts.toList) := by
  obtain ⟨args⟩ := args
  obtain ⟨ts⟩ := ts
  simp only at hl ho ⊢
  unfold biOk at ho
  split at ho
  · rename_i x t
    exact Goes.same hR (u := .int .i64 (evU Gl env x).len) (by simpa using len_goes (P := P) (evU_rep hG hE (hl x (by simp))) ho) (.d _ _ (.int _ _))
  · rename_i s x t1 t2
    obtain ⟨z, w', μ', h1, h2, h3, h4⟩ := append_goes (P := P) (ty := ty) hR (evU_rep hG hE (hl s (by simp))) (evU_rep hG hE (hl x (by simp))) ho
    exact Goes.of (by simpa using h1) h2 h3 h4
  · rename_i args' _
    obtain ⟨z, h1, h2⟩ := min_goes (P := P) (w := w) (I := I) (μ := μ) (σ := σ) (ts := ts.toArray) (ty := ty) (vs := (args.map a.eval).toArray) (us := args.map (evU Gl env)) (by simp) (fun i v u hv hu => args_rep hG hE hl i v u (by simpa using hv) hu) ho
    exact Goes.same hR (by simpa [builtin] using h1) h2
  · rename_i args' _
    obtain ⟨z, h1, h2⟩ := max_goes (P := P) (w := w) (I := I) (μ := μ) (σ := σ) (ts := ts.toArray) (ty := ty) (vs := (args.map a.eval).toArray) (us := args.map (evU Gl env)) (by simp) (fun i v u hv hu => args_rep hG hE hl i v u (by simpa using hv) hu) ho
    exact Goes.same hR (by simpa [builtin] using h1) h2
  · rename_i m k t t2
    cases ht : tmap P t with
    | none => rw [ht] at ho; exact ho.elim
    | some q =>
      obtain ⟨ik, e⟩ := q
      rw [ht] at ho
      obtain ⟨h1, h2⟩ := ho
      have hm := evU_rep hG hE (hl m (by simp))
      have hk := evU_rep hG hE (hl k (by simp))
      simp only [biS]
      cases hu : evU Gl env m with
      | mapr id =>
        rw [hu] at h2 hm
        obtain ⟨w', h3, h4, h5⟩ := delete_goes (P := P) (t2 := t2) (ty := ty) hR ht hm hk h1 h2.1 h2.2
        exact Goes.of (by simpa using h3) h4 h5 (.undef _)
      | _ => rw [hu] at h2; exact h2.elim
  · rename_i s t
    obtain ⟨w', h1, h2, h3⟩ := clear_goes (P := P) (ty := ty) hR (evU_rep hG hE (hl s (by simp))) ho
    exact Goes.of (by simpa using h1) h2 h3 (.undef _)
  · exact ho.elim

theorem op_goes (hR : Rel w I μ σ) (hG : GlOk Gl w I) (hE : RelEnv n w I μ σ env a) (o : Oper) (hc : isCall o.op = false) (hgd : gdOk Gl env true o.op) (ho : opOk P Gl σ env o.op) :
    Goes ((execOp a.eval o).run P w) w I μ σ (opV P Gl σ env o.op) (opS P Gl σ env o.op) := by
  obtain ⟨dst, op, ty, pos, af, gd⟩ := o
  simp only at hc hgd ho ⊢
  have U : ∀ {x : Operand}, x ∈ op.operands.toList → (∀ c p q, op ≠ .pick c p q) → RepV w I μ σ (a.eval x) (evU Gl env x) := fun {x} hx hnp => by
    refine evU_rep hG hE (gdL_mem (l := op.operands.toList) ?_ x hx)
    cases op <;> first | exact hgd | (exact absurd rfl (hnp _ _ _))
  cases op with
  | move x => exact ⟨_, w, I, μ, .inl rfl, hR, Keep.refl _ _ _ _ (Nat.le_refl _), U (by simp [Op.operands]) (by simp)⟩
  | assign x => exact ⟨_, w, I, μ, .inl rfl, hR, Keep.refl _ _ _ _ (Nat.le_refl _), U (by simp [Op.operands]) (by simp)⟩
  | pick c p q =>
    obtain ⟨g1, g2, g3⟩ := hgd
    have hb := bool_rep (evU_rep hG hE (g1 rfl)) ho
    cases ht : (evU Gl env c).truth with
    | true =>
      refine ⟨a.eval p, w, I, μ, .inl ?_, hR, Keep.refl _ _ _ _ (Nat.le_refl _), ?_⟩
      · simp [execOp, hb, asBool, ht]
      · simp only [opV, ht, pickV_true]; exact evU_rep hG hE (g2 rfl ht)
    | false =>
      refine ⟨a.eval q, w, I, μ, .inl ?_, hR, Keep.refl _ _ _ _ (Nat.le_refl _), ?_⟩
      · simp [execOp, hb, asBool, ht]
      · simp only [opV, ht, pickV_false]; exact evU_rep hG hE (g3 rfl ht)
  | alloc t =>
    simp only [opOk] at ho
    cases hz : tzero P t with
    | none => rw [hz] at ho; exact ho.elim
    | some z =>
      rw [hz] at ho
      obtain ⟨w', μ', h1, h2, h3, h4⟩ := alloc_goes (P := P) hR hz ho
      simp only [opV, opS, hz]
      exact Goes.of h1 h2 h3 h4
  | box t x =>
    obtain ⟨w', μ', h1, h2, h3, h4⟩ := box_goes (P := P) hR t (U (x := x) (by simp [Op.operands]) (by simp)) ho
    exact Goes.of h1 h2 h3 h4
  | build t parts =>
    simp only [opOk] at ho
    split at ho
    · rename_i pl zc h1 h2
      have hl : ∀ x ∈ parts.toList.map (·.2), evG Gl env x = true := gdL_mem (by simpa [gdOk, Op.operands] using hgd)
      obtain ⟨p1, p2⟩ := parts_rep (w := w) (I := I) (μ := μ) (σ := σ) (n := n) (a := a) hG hE hl
      obtain ⟨z, h3, h4⟩ := build_goes (P := P) h1 h2 p1 p2 ho
      simp only [opV, opS, h1, h2]
      exact Goes.same hR h3 h4
    · exact ho.elim
  | buildSlice t k parts =>
    have hl : ∀ x ∈ parts.toList.map (·.2), evG Gl env x = true := gdL_mem (by simpa [gdOk, Op.operands] using hgd)
    obtain ⟨p1, p2⟩ := parts_rep (w := w) (I := I) (μ := μ) (σ := σ) (n := n) (a := a) hG hE hl
    cases k with
    | zero =>
      simp only [opOk] at ho
      obtain ⟨rfl, ho⟩ := ho
      cases hte : telem P t with
      | none => rw [hte] at ho; exact ho.elim
      | some e =>
        rw [hte] at ho
        obtain ⟨es, hs⟩ := Option.isSome_iff_exists.1 ho
        obtain ⟨z, w', μ', h1, h2, h3, h4⟩ := buildSlice0_goes (P := P) hR hte hs
        have : apEs P t = es := by unfold apEs; rw [hte]; simp [hs]
        simp only [opV, opS, this]
        exact Goes.of (by simpa using h1) h2 h3 h4
    | succ k =>
      obtain ⟨z, w', I', μ', h1, h2, h3, h4⟩ := buildSlice_goes (P := P) hR p1 p2 ho
      exact Goes.of h1 h2 h3 h4
  | load t x =>
    simp only [opOk] at ho
    split at ho
    · rename_i g k h1 h2
      obtain ⟨u, h3, h4⟩ := load_goes (P := P) hR h1 h2 (U (x := x) (by simp [Op.operands]) (by simp)) ho
      simp only [opV, opS, h1, h2]
      exact Goes.same hR h3 h4
    · exact ho.elim
  | store t p x =>
    simp only [opOk] at ho
    split at ho
    · rename_i k h1
      obtain ⟨w', I', h3, h4, h5⟩ := store_goes (P := P) hR h1 (U (x := x) (by simp [Op.operands]) (by simp)) (U (x := p) (by simp [Op.operands]) (by simp)) ho
      simp only [opV, opS, h1]
      exact ⟨Go.undef, w', I', μ, .inr ⟨by simp [execOp, h3], rfl⟩, h4, h5, .undef _⟩
    · exact ho.elim
  | nilCheck x =>
    have hx := U (x := x) (by simp [Op.operands]) (by simp)
    simp only [opOk] at ho
    refine ⟨a.eval x, w, I, μ, .inl ?_, hR, Keep.refl _ _ _ _ (Nat.le_refl _), hx⟩
    generalize evU Gl env x = u at *
    generalize hv : a.eval x = v at *
    cases hx <;> simp [AV.notNil] at ho
    · rename_i h; obtain ⟨_, _, _, rfl⟩ := h; simp [execOp, hv]
    · simp [execOp, hv]
    · rename_i h; obtain ⟨_, _, _, _, rfl⟩ := h; simp [execOp, hv]
    · simp [execOp, hv]
  | lookup t m k ok =>
    simp only [opOk] at ho
    split at ho
    · rename_i ik e h1
      obtain ⟨h2, h3, h4⟩ := ho
      obtain ⟨z, h5, h6⟩ := lookup_goes (P := P) hR h1 (U (x := m) (by simp [Op.operands]) (by simp)) (U (x := k) (by simp [Op.operands]) (by simp)) h2 h3 h4 ok
      simp only [opV, opS, h1]
      exact Goes.same hR h5 h6
    · exact ho.elim
  | mapUpdate t m k x =>
    simp only [opOk] at ho
    split at ho
    · rename_i ik e h1
      obtain ⟨w', h3, h4, h5⟩ := mapUpdate_goes (P := P) hR h1 (U (x := m) (by simp [Op.operands]) (by simp)) (U (x := k) (by simp [Op.operands]) (by simp)) (U (x := x) (by simp [Op.operands]) (by simp)) ho.1 ho.2
      exact ⟨Go.undef, w', I, μ, .inr ⟨by simp [execOp, h3], rfl⟩, h4, h5, .undef _⟩
    · exact ho.elim
  | insert t m k x =>
    simp only [opOk] at ho
    split at ho
    · rename_i ik e h1
      obtain ⟨w', h3, h4, h5⟩ := mapUpdate_goes (P := P) hR h1 (U (x := m) (by simp [Op.operands]) (by simp)) (U (x := k) (by simp [Op.operands]) (by simp)) (U (x := x) (by simp [Op.operands]) (by simp)) ho.1 ho.2
      exact ⟨Go.undef, w', I, μ, .inr ⟨by simp [execOp, h3], rfl⟩, h4, h5, .undef _⟩
    · exact ho.elim
  | makeMap t r =>
    obtain ⟨rfl, h1⟩ := ho
    obtain ⟨q, h1⟩ := Option.isSome_iff_exists.1 h1
    obtain ⟨ik, e⟩ := q
    obtain ⟨w', μ', h2, h3, h4, h5⟩ := makeMap_goes (P := P) hR t ik
    simp only [opV, opS, h1]
    exact Goes.of (by simpa using h2) h3 h4 h5
  | binOp op t x y yt =>
    obtain ⟨z, h1, h2⟩ := binop_goes (P := P) (op := op) (t := t) (x := x) (y := y) (U (x := x) (by simp [Op.operands]) (by simp)) (U (x := y) (by simp [Op.operands]) (by simp)) ho
    exact Goes.same hR h1 h2
  | unOp op t x =>
    obtain ⟨z, h1, h2⟩ := unop_goes (P := P) (op := op) (U (x := x) (by simp [Op.operands]) (by simp)) ho
    exact Goes.same hR h1 h2
  | convert s t x =>
    obtain ⟨h1, h2, h3⟩ := ho
    obtain ⟨k, hk⟩ := Option.isSome_iff_exists.1 h2
    obtain ⟨z, h4, h5⟩ := conv_goes (P := P) hk h1 (U (x := x) (by simp [Op.operands]) (by simp)) h3
    simp only [opV, cvV, hk, opS]
    exact Goes.same hR h4 h5
  | makeFunc fn first caps =>
    cases fn with
    | func f =>
      simp only [opOk] at ho
      subst ho
      have hl : ∀ x ∈ caps.toList, evG Gl env x = true := gdL_mem (by simpa [gdOk, Op.operands] using hgd)
      refine Goes.same hR (u := .func (.func f) #[] (caps.toList.map a.eval).toArray) ?_ (.fn f _ _ (by simp) (args_rep hG hE hl))
      simp [Instr.makeFunc]
      apply Array.ext'
      simp
    | _ => exact ho.elim
  | makeSlice t l c =>
    obtain ⟨z, w', μ', h1, h2, h3, h4⟩ := makeSlice_goes (P := P) hR (U (x := l) (by simp [Op.operands]) (by simp)) (U (x := c) (by simp [Op.operands]) (by simp)) ho
    exact Goes.of h1 h2 h3 h4
  | slice t x lo hi mx =>
    cases mx with
    | some _ => exact ho.elim
    | none =>
      obtain ⟨b1, b2, h1⟩ := ho
      have hx := U (x := x) (by simp [Op.operands]) (by simp)
      have hlo : ((lo.map a.eval) = none ∧ loOf Gl env lo = 0) ∨ ∃ k, (lo.map a.eval) = some (.int k (loOf Gl env lo)) := by
        cases lo with
        | none => exact .inl ⟨rfl, rfl⟩
        | some l => exact .inr ⟨_, by rw [Option.map_some, int_rep' (U (x := l) (by simp [Op.operands]) (by simp)) b1]; rfl⟩
      have hhi : ((hi.map a.eval) = none ∧ hiOf Gl env (evU Gl env x).len hi = (evU Gl env x).len) ∨ ∃ k, (hi.map a.eval) = some (.int k (hiOf Gl env (evU Gl env x).len hi)) := by
        cases hi with
        | none => exact .inl ⟨rfl, rfl⟩
        | some l => exact .inr ⟨_, by rw [Option.map_some, int_rep' (U (x := l) (by simp [Op.operands]) (by simp)) b2]; rfl⟩
      obtain ⟨z, h2, h3⟩ := slice_goes (P := P) hx hlo hhi h1
      exact Goes.same hR h2 h3
  | fieldAddr s x f =>
    simp only [opOk] at ho
    split at ho
    · rename_i o k g h1
      obtain ⟨z, h2, h3⟩ := fieldAddr_goes (P := P) h1 ho.1 (U (x := x) (by simp [Op.operands]) (by simp)) ho.2
      simp only [opV, opS, h1]
      exact Goes.same hR h2 h3
    · exact ho.elim
  | field s x f =>
    simp only [opOk] at ho
    split at ho
    · rename_i o k g h1
      obtain ⟨z, h2, h3⟩ := field_goes (P := P) h1 (U (x := x) (by simp [Op.operands]) (by simp)) ho.1 rfl ho.2.1 ho.2.2
      simp only [opV, opS, h1]
      exact Goes.same hR h2 h3
    · exact ho.elim
  | indexAddr t x i =>
    obtain ⟨hi, ho⟩ := ho
    have hx := U (x := x) (by simp [Op.operands]) (by simp)
    have hiv := U (x := i) (by simp [Op.operands]) (by simp)
    split at ho
    · rename_i es h1
      obtain ⟨z, h2, h3⟩ := idx_goes (P := P) h1 hx hiv hi ho
      simp only [opV, opS, h1]
      exact Goes.same hR h2 h3
    · rename_i k es h1
      obtain ⟨z, h2, h3⟩ := aidx_goes (P := P) h1 hx hiv hi ho
      simp only [opV, opS, h1]
      exact Goes.same hR h2 h3
    · exact ho.elim
  | index t x i =>
    obtain ⟨h1, h2, h3, h4, h5⟩ := ho
    have hx := U (x := x) (by simp [Op.operands]) (by simp)
    have hiv := U (x := i) (by simp [Op.operands]) (by simp)
    have e : evU Gl env x = .d (.str (evU Gl env x).strOf) := by
      generalize evU Gl env x = u at *
      cases u with
      | d y => cases y <;> simp_all [AV.isStrv, AV.strOf]
      | _ => simp [AV.isStrv] at h2
    rw [e] at hx
    obtain ⟨z, h6, h7⟩ := index_goes (P := P) h1 hx hiv h3 h4 h5
    exact Goes.same hR h6 h7
  | extract t i =>
    have hx := U (x := t) (by simp [Op.operands]) (by simp)
    simp only [opOk] at ho
    generalize hu : evU Gl env t = u at *
    generalize hv : a.eval t = v at *
    cases hx with
    | tup vs cs hl hh =>
      simp only [AV.tupLen] at ho
      have hl' : i < vs.length := by omega
      refine Goes.same hR (u := vs[i]) ?_ ?_
      · simp [Instr.extract, hv, hl']
      · simp only [opV, hu, AV.tupAt, List.getD_eq_getElem?_getD, List.getElem?_eq_getElem ho, Option.getD_some]
        exact hh i _ _ (List.getElem?_eq_getElem hl') (List.getElem?_eq_getElem ho)
    | _ => simp [AV.tupLen] at ho
  | call c =>
    obtain ⟨callee, args, ats⟩ := c
    cases callee with
    | builtin b =>
      have hl : ∀ x ∈ args.toList, evG Gl env x = true := gdL_mem (by simpa [gdOk, Op.operands, Call.operands] using hgd)
      have e : ∃ cs, (execOp a.eval ⟨dst, .call ⟨.builtin b, args, ats⟩, ty, pos, af, gd⟩).run P w = (builtin b ats ty cs (args.map a.eval)).run P w :=
        ⟨_, by simp only [execOp, resolve, invoke, Sem.run_bind, Sem.run_pure, Result.andThen_ok]; rfl⟩
      obtain ⟨cs, e⟩ := e
      rw [e]
      exact builtin_goes (P := P) hR hG hE (b := b) (args := args) (ts := ats) ty cs hl ho
    | value f => exact ho.elim
    | invoke r m => exact ho.elim
  | _ => exact ho.elim

end Go.AM
