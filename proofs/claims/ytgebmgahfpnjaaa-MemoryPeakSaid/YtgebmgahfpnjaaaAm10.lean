/-
  The operations run, seventh part: append.
-/
import Derived.Test.YtgebmgahfpnjaaaAm9
set_option linter.unnecessarySimpa false
set_option linter.unusedSectionVars false
set_option linter.unusedSimpArgs false
set_option linter.unusedVariables false
namespace Go.AM

variable {P : Program} {w : World} {I : Im} {μ : Pos} {σ : Sto}

/-- the cells of a row of elements, as values -/
theorem row_cells {b o es : Nat} {xs : List D} (hes : 0 < es) (hsz : ∀ x ∈ xs, x.cells.length = es) (hfl : ∀ x ∈ xs, x.flat)
    (hc : ∀ (i j : Nat) (x y : D), xs[i]? = some x → x.cells[j]? = some y → ∃ v, w.cell? ⟨b, o + i * es + j, none⟩ = some v ∧ RepD w I v y) :
    ∃ news : List Value, news.length = xs.length * es ∧ (∀ j u, news[j]? = some u → w.cell? ⟨b, o + j, none⟩ = some u) ∧
      (∀ (i j : Nat) (x y : D), xs[i]? = some x → x.cells[j]? = some y → ∃ u, news[i * es + j]? = some u ∧ RepD w I u y) ∧ (∀ u ∈ news, u.oneCell' = true) := by
  have at_ : ∀ q, q < xs.length * es → ∃ u y, w.cell? ⟨b, o + q, none⟩ = some u ∧ RepD w I u y ∧ y.one = true := fun q hq => by
    have hi : q / es < xs.length := Nat.div_lt_of_lt_mul (by rw [Nat.mul_comm]; exact hq)
    have hj : q % es < es := Nat.mod_lt _ hes
    have hx : xs[q / es]? = some xs[q / es] := List.getElem?_eq_getElem hi
    have hjl : q % es < xs[q / es].cells.length := by rw [hsz _ (List.getElem_mem hi)]; exact hj
    obtain ⟨v, hv, hr⟩ := hc (q / es) (q % es) _ _ hx (List.getElem?_eq_getElem hjl)
    have e : o + q / es * es + q % es = o + q := by rw [Nat.add_assoc, Nat.div_add_mod']
    rw [e] at hv
    exact ⟨v, _, hv, hr, hfl _ (List.getElem_mem hi) _ (List.getElem_mem hjl)⟩
  refine ⟨(List.range (xs.length * es)).map fun q => (w.cell? ⟨b, o + q, none⟩).getD Go.undef, by simp, fun j u hu => ?_, fun i j x y hx hy => ?_, fun u hu => ?_⟩
  · rw [List.getElem?_map] at hu
    rcases Nat.lt_or_ge j (xs.length * es) with hj | hj
    · obtain ⟨u', _, hu', _⟩ := at_ j hj
      simp [hj, hu'] at hu
      rw [← hu]; exact hu'
    · simp [hj] at hu
  · obtain ⟨v, hv, hr⟩ := hc i j x y hx hy
    refine ⟨v, ?_, hr⟩
    have hil : i < xs.length := by
      rcases Nat.lt_or_ge i xs.length with h' | h'
      · exact h'
      · rw [List.getElem?_eq_none h'] at hx; cases hx
    have hjl : j < es := by
      rw [← hsz x (List.mem_of_getElem? hx)]
      rcases Nat.lt_or_ge j x.cells.length with h' | h'
      · exact h'
      · rw [List.getElem?_eq_none h'] at hy; cases hy
    have hq : i * es + j < xs.length * es := by
      have : (i + 1) * es ≤ xs.length * es := Nat.mul_le_mul_right es hil
      rw [Nat.add_mul] at this
      omega
    rw [List.getElem?_map]
    rw [Nat.add_assoc] at hv
    simp [hq, hv]
  · obtain ⟨j, hj⟩ := List.getElem?_of_mem hu
    rw [List.getElem?_map] at hj
    rcases Nat.lt_or_ge j (xs.length * es) with hjl | hjl
    · obtain ⟨u', y, hu', hr, h1⟩ := at_ j hjl
      simp [hjl, hu'] at hj
      rw [← hj]; exact hr.oneCell h1
    · simp [hjl] at hj

def srcOk (σ : Sto) (es : Nat) : AV → Prop
  | .d (.sl xs) => ∀ x ∈ xs, x.cells.length = es
  | .osl id _ _ => (blkAt σ id).isArr = true ∧ (blkAt σ id).es = es
  | .nils => True
  | _ => False
def dstOk (σ : Sto) (es : Nat) : AV → Prop
  | .osl id _ _ => (blkAt σ id).isOwnArr = true ∧ (blkAt σ id).es = es
  | .nils => True
  | _ => False

theorem run_loadCells_at {b o : Nat} {cs : List Value} (h : ∀ j v, cs[j]? = some v → w.cell? ⟨b, o + j, none⟩ = some v) : (loadCells ⟨b, o, none⟩ cs.length).run P w = .ok cs.toArray w :=
  run_loadCells_list w _ cs fun j v hj => by rw [addr_add]; exact h j v hj

/-- what a slice that is read holds -/
theorem src_cells (h : Rel w I μ σ) {es : Nat} (hes : 0 < es) {v : Value} {x : AV} (hv : RepV w I μ σ v x) (ho : srcOk σ es x) :
    ∃ (a : Option Addr) (c : Nat) (news : List Value), v = .slice a (x.elems σ).length c ∧ news.length = (x.elems σ).length * es ∧
      (∀ w' : World, w'.heap = w.heap → (Builtin.firstCells es (x.elems σ).length v).run P w' = .ok news.toArray w') ∧
      (∀ (i j : Nat) (z y : D), (x.elems σ)[i]? = some z → z.cells[j]? = some y → ∃ u, news[i * es + j]? = some u ∧ RepD w I u y) ∧ (∀ u ∈ news, u.oneCell' = true) ∧
      (∀ z ∈ x.elems σ, z.cells.length = es) ∧ (∀ z ∈ x.elems σ, z.flat) ∧ (∀ (b o : Nat), a = some ⟨b, o, none⟩ → ∀ j u, news[j]? = some u → w.cell? ⟨b, o + j, none⟩ = some u) := by
  have none_ : ∀ (a : Option Addr) (c : Nat), v = .slice a 0 c → x.elems σ = [] → ∃ (a : Option Addr) (c : Nat) (news : List Value), v = .slice a (x.elems σ).length c ∧ news.length = (x.elems σ).length * es ∧
      (∀ w' : World, w'.heap = w.heap → (Builtin.firstCells es (x.elems σ).length v).run P w' = .ok news.toArray w') ∧
      (∀ (i j : Nat) (z y : D), (x.elems σ)[i]? = some z → z.cells[j]? = some y → ∃ u, news[i * es + j]? = some u ∧ RepD w I u y) ∧ (∀ u ∈ news, u.oneCell' = true) ∧
      (∀ z ∈ x.elems σ, z.cells.length = es) ∧ (∀ z ∈ x.elems σ, z.flat) ∧ (∀ (b o : Nat), a = some ⟨b, o, none⟩ → ∀ j u, news[j]? = some u → w.cell? ⟨b, o + j, none⟩ = some u) := by
    intro a c hv he
    rw [he]
    refine ⟨a, c, [], hv, by simp, fun w' _ => ?_, fun i j z y hz => by simp at hz, fun u hu => by simp at hu, fun z hz => by simp at hz, fun z hz => by simp at hz, fun b o _ j u hu => by simp at hu⟩
    subst hv
    cases a with
    | none => simp [Builtin.firstCells]
    | some a => simp [Builtin.firstCells, loadCells, loadCellsFrom]
  have some_ : ∀ (b o c : Nat), v = .slice (some ⟨b, o, none⟩) (x.elems σ).length c → (∀ z ∈ x.elems σ, z.cells.length = es) → (∀ z ∈ x.elems σ, z.flat) →
      (∀ (i j : Nat) (z y : D), (x.elems σ)[i]? = some z → z.cells[j]? = some y → ∃ v, w.cell? ⟨b, o + i * es + j, none⟩ = some v ∧ RepD w I v y) → ∃ (a : Option Addr) (c : Nat) (news : List Value), v = .slice a (x.elems σ).length c ∧ news.length = (x.elems σ).length * es ∧
      (∀ w' : World, w'.heap = w.heap → (Builtin.firstCells es (x.elems σ).length v).run P w' = .ok news.toArray w') ∧
      (∀ (i j : Nat) (z y : D), (x.elems σ)[i]? = some z → z.cells[j]? = some y → ∃ u, news[i * es + j]? = some u ∧ RepD w I u y) ∧ (∀ u ∈ news, u.oneCell' = true) ∧
      (∀ z ∈ x.elems σ, z.cells.length = es) ∧ (∀ z ∈ x.elems σ, z.flat) ∧ (∀ (b o : Nat), a = some ⟨b, o, none⟩ → ∀ j u, news[j]? = some u → w.cell? ⟨b, o + j, none⟩ = some u) := by
    intro b o c hv h1 h2 h3
    obtain ⟨news, n1, n2, n3, n4⟩ := row_cells hes h1 h2 h3
    refine ⟨some ⟨b, o, none⟩, c, news, hv, n1, fun w' hw' => ?_, n3, n4, h1, h2, fun b' o' he => by simp only [Option.some.injEq, Addr.mk.injEq] at he; obtain ⟨rfl, rfl, _⟩ := he; exact n2⟩
    subst hv
    have : (loadCells ⟨b, o, none⟩ news.length).run P w' = .ok news.toArray w' := run_loadCells_at fun j u hj => by
      rw [World.cell?_of_block (w := w) (by rw [hw'])]; exact n2 j u hj
    rw [n1] at this
    simpa [Builtin.firstCells] using this
  cases x with
  | d y =>
    cases y with
    | sl xs =>
      cases hv.inv_d with
      | nil a cap => exact none_ a cap rfl rfl
      | sl b off es' cap _ vals hI hcap hes' hfl hc hr =>
        have e : xs = [] ∨ es' = es := by
          cases xs with
          | nil => exact .inl rfl
          | cons z r => right; rw [← hes' z List.mem_cons_self]; exact ho z List.mem_cons_self
        rcases e with rfl | rfl
        · exact none_ _ cap rfl rfl
        · refine some_ b off cap rfl hes' hfl fun i j z y hz hy => ?_
          have hz' : xs[i]? = some z := hz
          have hil : i < xs.length := by
            rcases Nat.lt_or_ge i xs.length with h' | h'
            · exact h'
            · rw [List.getElem?_eq_none h'] at hz'; cases hz'
          have hjl : j < es' := by
            rw [← hes' z (List.mem_of_getElem? hz')]
            rcases Nat.lt_or_ge j z.cells.length with h' | h'
            · exact h'
            · rw [List.getElem?_eq_none h'] at hy; cases hy
          exact ⟨vals i j, hc i j hil hjl, hr i j z y hz' hy⟩
    | _ => exact ho.elim
  | nils => cases hv; exact none_ none 0 rfl rfl
  | osl id off len =>
    obtain ⟨h1, h2⟩ := ho
    have hal : alive σ id := by unfold alive; cases hB : blkAt σ id <;> simp_all [Blk.isArr, Blk.isDead]
    cases hv with
    | osl _ _ _ _ hid hh =>
      rcases hh with ⟨rfl, a, rfl⟩ | ⟨b, base, es', cap, q1, q2, rfl⟩
      · exact none_ a 0 rfl (by simp [AV.elems])
      · obtain ⟨r1, r2, r3, r4, r5⟩ := q1 hal
        rw [h2] at r3
        subst r3
        have hlen : ((AV.osl id off len).elems σ).length = len := by simp [AV.elems]; omega
        by_cases hz : len = 0
        · subst hz; exact none_ _ cap rfl (by simp [AV.elems])
        · obtain ⟨b', base', _, _, hμ, h5, h6, h7⟩ := h.arrOf h1 (i := off) (by omega)
          rw [r1] at hμ
          simp only [Option.some.injEq, Prod.mk.injEq] at hμ
          obtain ⟨rfl, rfl⟩ := hμ
          rw [h2] at h5 h7
          have hmem : ∀ z ∈ (AV.osl id off len).elems σ, z ∈ (blkAt σ id).xs := fun z hz => List.mem_of_mem_drop (List.mem_of_mem_take hz)
          refine some_ b (base + off * es) cap (by rw [hlen]) (fun z hz => h5 z (hmem z hz)) (fun z hz => h6 z (hmem z hz)) fun i j z y hz hy => ?_
          have hz' : (blkAt σ id).xs[off + i]? = some z := by
            simp only [AV.elems] at hz
            rw [List.getElem?_take] at hz
            split at hz
            · simpa using hz
            · cases hz
          obtain ⟨v, hv, hr⟩ := h7 (off + i) j z y hz' hy
          refine ⟨v, ?_, hr⟩
          rw [← hv]
          congr 2
          rw [Nat.add_mul]; omega
  | _ => exact ho.elim

/-- append, where there is room -/
theorem run_append_in {t1 t2 ty e : TypeId} {i : TypeInfo} {e2 : TypeId} (ht : P.underlying t1 = some (.slice e)) (hi : P.info? e = some i) (ht2 : P.underlying t2 = some (.slice e2))
    {sb xa : Option Addr} {sLen sCap m c : Nat} {news : List Value} (hf : (Builtin.firstCells i.size m (.slice xa m c)).run P w = .ok news.toArray w) (hroom : sLen + m ≤ sCap)
    {w' : World} (hst : match sb with | some a => (storeCells (a.add (sLen * i.size)) news).run P w = .ok () w' | none => w' = w) :
    (Builtin.append_ #[t1, t2] ty #[.slice sb sLen sCap, .slice xa m c]).run P w = .ok (.slice sb (sLen + m) sCap) w' := by
  cases sb with
  | none => subst hst; simp [Builtin.append_, run_underlying ht, run_underlying ht2, sizeOf, typeInfo, hi, Builtin.lenOf, hroom, hf]
  | some a => simp [Builtin.append_, run_underlying ht, run_underlying ht2, sizeOf, typeInfo, hi, Builtin.lenOf, hroom, hf, hst]

theorem run_append_new {t1 t2 ty e : TypeId} {i : TypeInfo} {z : Value} {e2 : TypeId} (ht : P.underlying t1 = some (.slice e)) (hi : P.info? e = some i) (hz : i.zero = some z) (ht2 : P.underlying t2 = some (.slice e2))
    {sb xa : Option Addr} {sLen sCap m c : Nat} {olds news : List Value} (hf : ∀ w' : World, w'.heap = w.heap → (Builtin.firstCells i.size m (.slice xa m c)).run P w' = .ok news.toArray w')
    (ho : ∀ w' : World, w'.heap = w.heap → (Builtin.firstCells i.size sLen (.slice sb sLen sCap)).run P w' = .ok olds.toArray w')
    (hg : sCap < sLen + m) (h63 : sLen + m ≤ 4611686018427387904) (hfit : (sLen + m) * i.bytes ≤ 140737488355328) :
    (Builtin.append_ #[t1, t2] ty #[.slice sb sLen sCap, .slice xa m c]).run P w =
      .ok (.slice (some ⟨w.heap.size, 0, none⟩) (sLen + m) (grownCap w (sLen + m) sCap e))
        (w.drew.alloc (.cells (olds.toArray ++ news.toArray ++ Builtin.zeroCells z.cells (grownCap w (sLen + m) sCap e - (sLen + m))) e)) := by
  have hn : ¬ (sLen + m ≤ sCap) := by omega
  have h63' : ¬ (9223372036854775807 < ((sLen : Int) + (m : Int))) := by omega
  have h48 := growslice_fits hg hfit
  have h48' : ¬ (281474976710656 < Builtin.nextslicecap (sLen + m) sCap * i.bytes) := by omega
  have hf' := hf w.drew rfl
  have ho' := ho w.drew rfl
  simp [Builtin.append_, run_underlying ht, run_underlying ht2, sizeOf, typeInfo, zeroValue, hi, hz, Builtin.lenOf, hn, h63', h48', Question.forced, hf', ho', newRow, grownCap]
  congr 2
  apply Array.ext'
  simp

theorem WroteAt.free {w' : World} (h : Rel w I μ σ) {b : Nat} (hI : ¬ I.fr b) (hno : ∀ id o, (blkAt σ id).own = true → μ id ≠ some (b, o)) (ww : WroteAt b w w') : Rel w' I μ σ ∧ Keep σ.length w I μ σ w' I μ σ := by
  have k : Keep σ.length w I μ σ w' I μ σ := ⟨ww.os, ww.tape, ww.output, by rw [ww.size]; exact Nat.le_refl _, fun _ h => h, fun _ h => h, fun _ h => .inl h, fun b' hb => ww.else_ b' (fun e => hI (e ▸ hb)), fun b' => by
    by_cases e : b' = b
    · subst e; rw [ww.bsize]; exact Nat.le_refl _
    · rw [blkSize_same (ww.else_ b' e)]; exact Nat.le_refl _, Nat.le_refl _, fun _ _ h => ⟨h, rfl, rfl, rfl, Nat.le_refl _⟩⟩
  refine ⟨⟨fun b' hb => by rw [ww.size]; exact h.imm b' hb, fun id hid => (h.blk id hid).keep k rfl fun ho b' o hμ => ⟨ww.else_ b' (fun e => hno id o ho (by rw [hμ, e])), fun hn => hn⟩, h.apart⟩, k⟩

/-- one more array, in a block that no other owns -/
theorem Rel.addArr (h : Rel w I μ σ) {b base es : Nat} {xs : List D} (hI : ¬ I.fr b) (hno : ∀ id o, (blkAt σ id).own = true → μ id ≠ some (b, o)) (hp : plainBlk w b) (hn : base + xs.length * es ≤ blkSize w b)
    (hes : ∀ x ∈ xs, x.cells.length = es) (hfl : ∀ x ∈ xs, x.flat)
    (hc : ∀ (i j : Nat) (x y : D), xs[i]? = some x → x.cells[j]? = some y → ∃ u, w.cell? ⟨b, base + i * es + j, none⟩ = some u ∧ RepD w I u y) :
    Rel w I (posNew μ σ.length (b, base)) (σ ++ [.arr es xs]) ∧ Keep σ.length w I μ σ w I (posNew μ σ.length (b, base)) (σ ++ [.arr es xs]) := by
  have k : Keep σ.length w I μ σ w I (posNew μ σ.length (b, base)) (σ ++ [.arr es xs]) :=
    ⟨rfl, rfl, rfl, Nat.le_refl _, fun _ h => h, fun _ h => h, fun _ h => .inl h, fun _ _ => rfl, fun _ => Nat.le_refl _, by simp, fun id hid ha => by
      unfold alive at *
      rw [blkAt_append_old hid] at ha ⊢
      exact ⟨ha, posNew_ne _ _ (by omega), rfl, rfl, Nat.le_refl _⟩⟩
  refine ⟨⟨h.imm, fun id hid => ?_, ?_⟩, k⟩
  · simp only [List.length_append, List.length_cons, List.length_nil] at hid
    by_cases e : id = σ.length
    · subst e
      rw [blkAt_append_new]
      exact .inr ⟨b, base, posNew_self _ _ _, hI, hp, hn, hes, hfl, hc⟩
    · have hid' : id < σ.length := by omega
      rw [blkAt_append_old hid']
      exact (h.blk id hid').keep k (posNew_ne _ _ e) fun _ _ _ _ => ⟨rfl, fun hn => hn⟩
  · intro i j bi bj oi oj hij hi hj hμi hμj
    have li := blkAt_own_lt hi
    have lj := blkAt_own_lt hj
    simp only [List.length_append, List.length_cons, List.length_nil] at li lj
    by_cases ei : i = σ.length
    · subst ei
      have lj' : j < σ.length := by omega
      rw [posNew_self] at hμi
      rw [posNew_ne _ _ (by omega)] at hμj
      rw [blkAt_append_old lj'] at hj
      simp only [Option.some.injEq, Prod.mk.injEq] at hμi
      obtain ⟨rfl, rfl⟩ := hμi
      intro e; subst e
      exact hno j oj hj hμj
    · have li' : i < σ.length := by omega
      rw [posNew_ne _ _ ei] at hμi
      rw [blkAt_append_old li'] at hi
      by_cases ej : j = σ.length
      · subst ej
        rw [posNew_self] at hμj
        simp only [Option.some.injEq, Prod.mk.injEq] at hμj
        obtain ⟨rfl, rfl⟩ := hμj
        intro e; subst e
        exact hno i oi hi hμi
      · have lj' : j < σ.length := by omega
        rw [posNew_ne _ _ ej] at hμj
        rw [blkAt_append_old lj'] at hj
        exact h.apart i j bi bj oi oj hij hi hj hμi hμj

/-- one more array, of no elements, wherever -/
theorem Rel.addNone (h : Rel w I μ σ) (es : Nat) : ∃ μ', Rel w I μ' (σ ++ [.arr es []]) ∧ Keep σ.length w I μ σ w I μ' (σ ++ [.arr es []]) := by
  let μ' : Pos := fun i => if i = σ.length then none else μ i
  have ne : ∀ i, i ≠ σ.length → μ' i = μ i := fun i hi => by simp [μ', hi]
  have k : Keep σ.length w I μ σ w I μ' (σ ++ [.arr es []]) :=
    ⟨rfl, rfl, rfl, Nat.le_refl _, fun _ h => h, fun _ h => h, fun _ h => .inl h, fun _ _ => rfl, fun _ => Nat.le_refl _, by simp, fun id hid ha => by
      unfold alive at *
      rw [blkAt_append_old hid] at ha ⊢
      exact ⟨ha, ne _ (by omega), rfl, rfl, Nat.le_refl _⟩⟩
  refine ⟨μ', ⟨h.imm, fun id hid => ?_, ?_⟩, k⟩
  · simp only [List.length_append, List.length_cons, List.length_nil] at hid
    by_cases e : id = σ.length
    · subst e
      rw [blkAt_append_new]
      exact .inl ⟨by simp [μ'], rfl⟩
    · have hid' : id < σ.length := by omega
      rw [blkAt_append_old hid']
      exact (h.blk id hid').keep k (ne _ e) fun _ _ _ _ => ⟨rfl, fun hn => hn⟩
  · intro i j bi bj oi oj hij hi hj hμi hμj
    have li := blkAt_own_lt hi
    have lj := blkAt_own_lt hj
    simp only [List.length_append, List.length_cons, List.length_nil] at li lj
    by_cases ei : i = σ.length
    · subst ei; simp [μ'] at hμi
    · by_cases ej : j = σ.length
      · subst ej; simp [μ'] at hμj
      · rw [ne _ ei] at hμi
        rw [ne _ ej] at hμj
        rw [blkAt_append_old (by omega)] at hi hj
        exact h.apart i j bi bj oi oj hij hi hj hμi hμj

def killS (σ : Sto) : AV → Sto
  | .osl id _ _ => σ.set id .dead
  | _ => σ

theorem killS_ok (h : Rel w I μ σ) (s : AV) : Rel w I μ (killS σ s) ∧ Keep σ.length w I μ σ w I μ (killS σ s) ∧ (killS σ s).length = σ.length := by
  cases s with
  | osl id _ _ => exact ⟨h.kill id, keep_kill id, by simp [killS]⟩
  | _ => exact ⟨h, Keep.refl _ _ _ _ (Nat.le_refl _), rfl⟩

def apOk (P : Program) (σ : Sto) (t1 t2 : TypeId) (s x : AV) : Prop :=
  match telem P t1 with
  | some e => match tsz P e, tbytes P e, tzero P e with
    | some es, some by_, some z => 0 < es ∧ z.cells.size = es ∧ (telem P t2).isSome = true ∧ dstOk σ es s ∧ srcOk σ es x ∧ (s.len + (x.elems σ).length) * by_ ≤ 140737488355328 ∧ s.len + (x.elems σ).length ≤ 4611686018427387904
    | _, _, _ => False
  | none => False
def apEs (P : Program) (t1 : TypeId) : Nat := match telem P t1 with | some e => (tsz P e).getD 0 | none => 0
def apS (P : Program) (σ : Sto) (t1 : TypeId) (s x : AV) : Sto := killS σ s ++ [.arr (apEs P t1) (s.elems σ ++ x.elems σ)]
def apV (σ : Sto) (s x : AV) : AV := .osl σ.length 0 (s.len + (x.elems σ).length)

theorem info_of {e : TypeId} {es by_ : Nat} {z : Value} (h1 : tsz P e = some es) (h2 : tbytes P e = some by_) (h3 : tzero P e = some z) : ∃ i, P.info? e = some i ∧ i.size = es ∧ i.bytes = by_ ∧ i.zero = some z := by
  unfold tsz at h1; unfold tbytes at h2; unfold tzero at h3
  cases hi : P.info? e with
  | none => rw [hi] at h1; cases h1
  | some i =>
    rw [hi] at h1 h2 h3
    simp at h1 h2 h3
    exact ⟨i, rfl, h1, h2, h3⟩

theorem inv_nils {v : Value} (h : RepV w I μ σ v .nils) : v = .slice none 0 0 := by cases h; rfl

theorem inv_osl {v : Value} {id off len : Nat} (h : RepV w I μ σ v (.osl id off len)) : id < σ.length ∧ ((len = 0 ∧ ∃ a, v = .slice a 0 0) ∨
        ∃ b base es cap, (alive σ id → μ id = some (b, base) ∧ (blkAt σ id).isArr = true ∧ (blkAt σ id).es = es ∧ off + len ≤ (blkAt σ id).xs.length ∧ base + (off + cap) * es ≤ blkSize w b) ∧
          len ≤ cap ∧ v = .slice (some ⟨b, base + off * es, none⟩) len cap) := by
  cases h with
  | osl _ _ _ _ hid hh => exact ⟨hid, hh⟩

theorem append_goes (h : Rel w I μ σ) {t1 t2 ty : TypeId} {sv xv : Value} {s x : AV} (hs : RepV w I μ σ sv s) (hx : RepV w I μ σ xv x) (ho : apOk P σ t1 t2 s x) :
    ∃ z w' μ', (Builtin.append_ #[t1, t2] ty #[sv, xv]).run P w = .ok z w' ∧ Rel w' I μ' (apS P σ t1 s x) ∧ Keep σ.length w I μ σ w' I μ' (apS P σ t1 s x) ∧ RepV w' I μ' (apS P σ t1 s x) z (apV σ s x) := by
  unfold apOk at ho
  cases hte : telem P t1 with
  | none => rw [hte] at ho; exact ho.elim
  | some e =>
  rw [hte] at ho
  cases hz1 : tsz P e with
  | none => simp [hz1] at ho
  | some es =>
  cases hz2 : tbytes P e with
  | none => simp [hz1, hz2] at ho
  | some by_ =>
  cases hz3 : tzero P e with
  | none => simp [hz1, hz2, hz3] at ho
  | some zv =>
  simp only [hz1, hz2, hz3] at ho
  obtain ⟨hes, hzs, ht2, hd, hsrc, hbytes, h62⟩ := ho
  obtain ⟨i, hi, i1, i2, i3⟩ := info_of hz1 hz2 hz3
  obtain ⟨e2, he2⟩ := Option.isSome_iff_exists.1 ht2
  have hu1 := telem_spec hte
  have hu2 := telem_spec he2
  have hap : apEs P t1 = es := by unfold apEs; rw [hte]; simp [hz1]
  obtain ⟨xa, xc, news, hxv, hnl, hfx, hnr, hn1, hxs, hxf, _⟩ := src_cells (P := P) h hes hx hsrc
  have hsrcS : srcOk σ es s := by
    cases s with
    | osl id off len => exact ⟨by have := hd.1; cases hB : blkAt σ id <;> simp_all [Blk.isOwnArr, Blk.isArr], hd.2⟩
    | nils => trivial
    | _ => exact hd.elim
  obtain ⟨sa, sc, olds, hsv, hol, hfs, hor, ho1, hss, hsf, hoc⟩ := src_cells (P := P) h hes hs hsrcS
  have hlen : s.len = (s.elems σ).length := by
    cases s with
    | nils => rfl
    | osl id off len =>
      cases hs with
      | osl _ _ _ _ hid hh =>
        rcases hh with ⟨rfl, a, rfl⟩ | ⟨b, base, es', cap, _, _, rfl⟩
        · simp at hsv; exact hsv.2.1
        · simp at hsv; exact hsv.2.1
    | _ => exact hd.elim
  obtain ⟨hr1, hk1, hl1⟩ := killS_ok h s
  rw [hlen] at hbytes h62
  have hV : apV σ s x = .osl σ.length 0 ((s.elems σ).length + (x.elems σ).length) := by unfold apV; rw [hlen]
  have hallsz : ∀ z ∈ s.elems σ ++ x.elems σ, z.cells.length = es := fun z hz => (List.mem_append.1 hz).elim (hss z) (hxs z)
  have hallfl : ∀ z ∈ s.elems σ ++ x.elems σ, z.flat := fun z hz => (List.mem_append.1 hz).elim (hsf z) (hxf z)
  have hjl : ∀ {z y : D} {j : Nat}, z.cells.length = es → z.cells[j]? = some y → j < es := fun {z y j} hz hy => by
    rcases Nat.lt_or_ge j z.cells.length with h' | h'
    · omega
    · rw [List.getElem?_eq_none h'] at hy; cases hy
  -- the cells of both, one behind the other
  have hboth : ∀ (i j : Nat) (z y : D), (s.elems σ ++ x.elems σ)[i]? = some z → z.cells[j]? = some y → ∃ u, (olds ++ news)[i * es + j]? = some u ∧ RepD w I u y := fun i j z y hz hy => by
    have hj := hjl (hallsz z (List.mem_of_getElem? hz)) hy
    by_cases hi' : i < (s.elems σ).length
    · rw [List.getElem?_append_left hi'] at hz
      obtain ⟨u, hu, hr⟩ := hor i j z y hz hy
      refine ⟨u, ?_, hr⟩
      have : i * es + j < olds.length := by
        rw [hol]
        have : (i + 1) * es ≤ (s.elems σ).length * es := Nat.mul_le_mul_right es hi'
        rw [Nat.add_mul] at this; omega
      rw [List.getElem?_append_left this]; exact hu
    · rw [List.getElem?_append_right (by omega)] at hz
      obtain ⟨u, hu, hr⟩ := hnr (i - (s.elems σ).length) j z y hz hy
      refine ⟨u, ?_, hr⟩
      have e3 : i * es + j = olds.length + ((i - (s.elems σ).length) * es + j) := by
        rw [hol, ← Nat.add_assoc, ← Nat.add_mul]
        congr 2; omega
      rw [e3, List.getElem?_append_right (by omega), Nat.add_sub_cancel_left]; exact hu
  subst hxv; subst hsv
  unfold apS
  rw [hap, hV]
  by_cases hroom : (s.elems σ).length + (x.elems σ).length ≤ sc
  · -- in place
    have degen : (∃ a, (Value.slice sa (s.elems σ).length sc) = .slice a 0 0) → ∃ z w' μ', (Builtin.append_ #[t1, t2] ty #[.slice sa (s.elems σ).length sc, .slice xa (x.elems σ).length xc]).run P w = .ok z w' ∧ Rel w' I μ' (killS σ s ++ [.arr es (s.elems σ ++ x.elems σ)]) ∧
        Keep σ.length w I μ σ w' I μ' (killS σ s ++ [.arr es (s.elems σ ++ x.elems σ)]) ∧ RepV w' I μ' (killS σ s ++ [.arr es (s.elems σ ++ x.elems σ)]) z (.osl σ.length 0 ((s.elems σ).length + (x.elems σ).length)) := by
      rintro ⟨a, ha⟩
      simp only [Value.slice.injEq] at ha
      obtain ⟨rfl, hl0, rfl⟩ := ha
      have hm0 : (x.elems σ).length = 0 := by omega
      have e1 : s.elems σ = [] := List.eq_nil_of_length_eq_zero hl0
      have e2' : x.elems σ = [] := List.eq_nil_of_length_eq_zero hm0
      have hn0 : news = [] := List.eq_nil_of_length_eq_zero (by rw [hnl, hm0, Nat.zero_mul])
      obtain ⟨μ', q1, q2⟩ := hr1.addNone es
      rw [hl1] at q2
      rw [e1, e2']
      refine ⟨.slice sa 0 0, w, μ', ?_, q1, hk1.trans q2, .osl _ _ _ _ (by rw [List.length_append, hl1]; simp) (.inl ⟨rfl, sa, rfl⟩)⟩
      have := run_append_in (P := P) (w := w) (ty := ty) hu1 hi hu2 (sb := sa) (sLen := 0) (sCap := 0) (m := 0) (c := xc) (xa := xa) (news := []) (by have := hfx w rfl; rw [hm0, hn0] at this; rw [i1]; exact this) (Nat.le_refl 0) (w' := w) (by
        cases sa with
        | none => rfl
        | some a => simp [storeCells])
      simpa using this
    cases s with
    | nils => exact degen ⟨none, inv_nils hs⟩
    | osl id off len =>
      have hal : alive σ id := by have := hd.1; unfold alive; cases hB : blkAt σ id <;> simp_all [Blk.isOwnArr, Blk.isDead]
      have hown : (blkAt σ id).own = true := by have := hd.1; cases hB : blkAt σ id <;> simp_all [Blk.isOwnArr, Blk.own]
      have hlen' : len = ((AV.osl id off len).elems σ).length := hlen
      generalize hE : (AV.osl id off len).elems σ = E at *
      obtain ⟨hid, hh⟩ := inv_osl hs
      · rcases hh with ⟨hl0, a, ha⟩ | ⟨b, base, es', cap, q1, q2, hv⟩
        · exact degen ⟨a, ha⟩
        · simp only [Value.slice.injEq] at hv
          obtain ⟨rfl, hEl, rfl⟩ := hv
          obtain ⟨r1, r2, r3, r4, r5⟩ := q1 hal
          have hes2 : (blkAt σ id).es = es := hd.2
          rw [hes2] at r3
          subst r3
          obtain ⟨hbl, hnI⟩ := own_lt h hid hown r1
          have hpl : plainBlk w b := by
            have hb := h.blk id hid
            cases hB : blkAt σ id with
            | arr es' xs' =>
              rw [hB] at hb
              rcases hb with ⟨h1, _⟩ | ⟨b', base', h1, _, h3, _⟩
              · rw [r1] at h1; cases h1
              · rw [r1] at h1
                simp only [Option.some.injEq, Prod.mk.injEq] at h1
                obtain ⟨rfl, rfl⟩ := h1
                exact h3
            | _ => simp [dstOk, hB, Blk.isOwnArr] at hd
          have hbnd : base + off * es + E.length * es + news.length ≤ blkSize w b := by
            rw [hnl]
            have h3 : (off + (E.length + (x.elems σ).length)) * es ≤ (off + sc) * es := Nat.mul_le_mul_right es (by omega)
            rw [Nat.add_mul, Nat.add_mul] at h3
            omega
          obtain ⟨w', hr, ww, hw⟩ := store_run (P := P) (w := w) (b := b) (o := base + off * es + E.length * es) (vs := news) hpl hbnd hn1
          have hno : ∀ j o, (blkAt (killS σ (.osl id off len)) j).own = true → μ j ≠ some (b, o) := fun j o hj hμj => by
            have hne : id ≠ j := fun e => by
              subst e
              have := blkAt_own_lt hj
              simp only [killS, List.length_set] at this
              rw [killS, blkAt_set_self this] at hj
              simp [Blk.own] at hj
            rw [killS, blkAt_set_ne hne] at hj
            exact h.apart id j b b base o hne hown hj r1 hμj rfl
          obtain ⟨f1, f2⟩ := WroteAt.free hr1 hnI hno ww
          have cellNew : ∀ q u, (olds ++ news)[q]? = some u → w'.cell? ⟨b, base + off * es + q, none⟩ = some u := fun q u hq => by
            rw [hw]
            by_cases hlt : q < olds.length
            · rw [List.getElem?_append_left hlt] at hq
              rw [if_neg (by rw [hol] at hlt; omega)]
              exact hoc _ _ rfl q u hq
            · rw [List.getElem?_append_right (by omega)] at hq
              have hlt2 : q - olds.length < news.length := by
                rcases Nat.lt_or_ge (q - olds.length) news.length with h' | h'
                · exact h'
                · rw [List.getElem?_eq_none h'] at hq; cases hq
              rw [if_pos ⟨by rw [hol] at hlt; omega, by rw [hol] at hlt hlt2; omega⟩, ← hq]
              congr 1
              rw [hol]; omega
          obtain ⟨g1, g2⟩ := f1.addArr (base := base + off * es) (es := es) (xs := E ++ x.elems σ) hnI hno (ww.plain hpl) (by
            rw [ww.bsize, List.length_append]
            rw [hnl] at hbnd
            rw [Nat.add_mul]; omega) hallsz hallfl (fun i j z y hz hy => by
              obtain ⟨u, hu, hr⟩ := hboth i j z y hz hy
              exact ⟨u, by rw [Nat.add_assoc]; exact cellNew _ u hu, hr.keep f2.imm f2.rsame⟩)
          refine ⟨_, w', _, run_append_in (P := P) (w := w) (ty := ty) hu1 hi hu2 (by rw [i1]; exact hfx w rfl) hroom (by rw [i1]; simp only [addr_add]; exact hr), by rw [hl1] at g1; exact g1, ?_, ?_⟩
          · rw [hl1] at g2 f2; exact hk1.trans (f2.trans g2)
          · refine .osl _ _ _ _ (by rw [List.length_append, hl1]; simp) (.inr ⟨b, base + off * es, es, sc, fun _ => ?_, hroom, by simp⟩)
            have eb : blkAt (killS σ (.osl id off len) ++ [.arr es (E ++ x.elems σ)]) σ.length = .arr es (E ++ x.elems σ) := by rw [← hl1]; exact blkAt_append_new
            rw [eb]
            refine ⟨posNew_self _ _ _, rfl, rfl, by simp [Blk.xs], ?_⟩
            rw [ww.bsize, Nat.zero_add]
            rw [Nat.add_mul] at r5; omega
    | _ => exact hd.elim
  · -- a new array
    have hrun := run_append_new (P := P) (w := w) (ty := ty) hu1 hi i3 hu2 (fun w' hw' => by rw [i1]; exact hfx w' hw') (fun w' hw' => by rw [i1]; exact hfs w' hw') (Nat.lt_of_not_le hroom) h62 (by rw [i2]; exact hbytes)
    have sm : SameMem w w.drew := SameMem.drew w
    have hr2 := sm.rel hr1
    have hk2 : Keep (killS σ s).length w I μ (killS σ s) w.drew I μ (killS σ s) := sm.keep
    have hcap := grownCap_ge w ((s.elems σ).length + (x.elems σ).length) sc e
    generalize grownCap w ((s.elems σ).length + (x.elems σ).length) sc e = cap at *
    have hcsz : (olds.toArray ++ news.toArray ++ Builtin.zeroCells zv.cells (cap - ((s.elems σ).length + (x.elems σ).length))).size = cap * es := by
      simp only [Array.size_append, List.size_toArray, size_zeroCells, hzs, hol, hnl, ← Nat.add_mul]
      congr 1; omega
    have hnew := hr2.newArr (olds.toArray ++ news.toArray ++ Builtin.zeroCells zv.cells (cap - ((s.elems σ).length + (x.elems σ).length))) e es (s.elems σ ++ x.elems σ) (by
      rw [hcsz, List.length_append]; exact Nat.mul_le_mul_right es hcap) hallsz hallfl (fun i j z y hz hy => by
        obtain ⟨u, hu, hr⟩ := hboth i j z y hz hy
        refine ⟨u, ?_, RepD.keep (w := w) (w' := w.drew) (I := I) (I' := I) (fun _ h => h) (fun _ _ => rfl) hr⟩
        have hlt : i * es + j < (olds ++ news).length := by
          rcases Nat.lt_or_ge (i * es + j) (olds ++ news).length with h' | h'
          · exact h'
          · rw [List.getElem?_eq_none h'] at hu; cases hu
        rw [Array.getElem?_append_left (by simpa using hlt)]
        have : (olds.toArray ++ news.toArray) = (olds ++ news).toArray := by simp
        rw [this]; simpa using hu)
    have hk3 := keep_alloc hr2 (.cells (olds.toArray ++ news.toArray ++ Builtin.zeroCells zv.cells (cap - ((s.elems σ).length + (x.elems σ).length))) e) (w.drew.heap.size, 0) (.arr es (s.elems σ ++ x.elems σ))
    refine ⟨_, _, _, hrun, hnew, ?_, ?_⟩
    · rw [hl1] at hk2 hk3 ⊢; exact hk1.trans (hk2.trans hk3)
    · refine .osl _ _ _ _ (by rw [List.length_append, hl1]; simp) (.inr ⟨w.heap.size, 0, es, cap, fun _ => ?_, hcap, by simp⟩)
      have eb : blkAt (killS σ s ++ [.arr es (s.elems σ ++ x.elems σ)]) σ.length = .arr es (s.elems σ ++ x.elems σ) := by rw [← hl1]; exact blkAt_append_new
      rw [eb]
      refine ⟨by rw [← hl1]; exact posNew_self _ _ _, rfl, rfl, by simp [Blk.xs], ?_⟩
      have := blkSize_new w.drew (olds.toArray ++ news.toArray ++ Builtin.zeroCells zv.cells (cap - ((s.elems σ).length + (x.elems σ).length))) e
      have e5 : w.drew.heap.size = w.heap.size := rfl
      rw [e5] at this
      rw [this, hcsz]
      simp

end Go.AM
