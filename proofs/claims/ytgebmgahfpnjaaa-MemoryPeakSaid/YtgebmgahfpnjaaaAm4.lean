/-
  The operations run: each abstract operation is what the model's operation comes to. First part: constants, loads, data.
-/
import Derived.Test.YtgebmgahfpnjaaaAm3
set_option linter.unnecessarySimpa false
set_option linter.unusedSectionVars false
set_option linter.unusedSimpArgs false
set_option linter.unusedVariables false
namespace Go.AM

variable {P : Program} {w : World} {I : Im} {μ : Pos} {σ : Sto}

theorem bytes_eta (s : ByteArray) : (⟨s.data.toList.toArray⟩ : ByteArray) = s := by
  cases s; simp

theorem allD_spec : ∀ {cs : List AV} {ds : List D}, allD cs = some ds → cs = ds.map AV.d
  | [], ds, h => by simp [allD] at h; subst h; rfl
  | c :: r, ds, h => by
    cases c <;> simp only [allD] at h <;> first | cases h | skip
    rename_i x
    cases hr : allD r with
    | none => simp [hr] at h
    | some l =>
      simp [hr] at h
      subst h
      rw [allD_spec hr]; rfl

theorem RepV.inv_d {v : Value} {x : D} (h : RepV w I μ σ v (.d x)) : RepD w I v x := by cases h; assumption

theorem mkAgg_rep {vs : List Value} {cs : List AV} (hl : vs.length = cs.length) (hone : ∀ c ∈ cs, c.one = true)
    (h : ∀ (i : Nat) (v : Value) (x : AV), vs[i]? = some v → cs[i]? = some x → RepV w I μ σ v x) : RepV w I μ σ (.agg vs.toArray) (mkAgg cs) := by
  unfold mkAgg
  cases hd : allD cs with
  | none => exact .agg vs cs hl hone h
  | some ds =>
    have e := allD_spec hd
    subst e
    refine .d _ _ (.agg vs ds (by simpa using hl) (fun c hc => hone (.d c) (List.mem_map.2 ⟨c, hc, rfl⟩)) fun i v x hv hx => ?_)
    exact (h i v (.d x) hv (by simp [hx])).inv_d

theorem const1_rep (v : Value) : RepV w I μ σ v (const1 v) := by
  unfold const1
  split <;> first
    | exact .d _ _ (.bool _)
    | exact .d _ _ (.int _ _)
    | exact .nils
    | exact .undef _
    | (refine .d _ _ ?_; rename_i s; have := RepD.str (w := w) (I := I) s.data.toList; rwa [bytes_eta] at this)
    | exact .d _ _ (.raw _ rfl)

theorem constV_rep (v : Value) : RepV w I μ σ v (constV v) := by
  cases v with
  | agg cs =>
    show RepV w I μ σ _ (if (cs.toList.map const1).all AV.one then mkAgg (cs.toList.map const1) else .undef)
    by_cases h : (cs.toList.map const1).all AV.one = true
    · rw [if_pos h]
      have := mkAgg_rep (w := w) (I := I) (μ := μ) (σ := σ) (vs := cs.toList) (cs := cs.toList.map const1) (by simp) (fun c hc => List.all_eq_true.1 h c hc) (fun i v x hv hx => by
        rw [List.getElem?_map, hv] at hx
        simp only [Option.map_some, Option.some.injEq] at hx
        subst hx
        exact const1_rep v)
      simpa only [Array.toArray_toList] using this
    · rw [if_neg h]; exact .undef _
  | _ => exact const1_rep _

theorem globV_rep (Gl : Globs) (hG : ∀ p ∈ Gl, SlAt w I p.1 0 p.2.cells.length [p.2]) (g : Nat) : RepV w I μ σ (.pointer (some ⟨g, 0, none⟩)) (globV Gl g) := by
  unfold globV
  cases h : Gl.find? (fun p => p.1 == g) with
  | none => exact .undef _
  | some p =>
    have h1 := List.mem_of_find?_eq_some h
    have h2 := List.find?_some h
    simp at h2
    subst h2
    simpa using RepV.eptr (w := w) (I := I) (μ := μ) (σ := σ) p.1 0 p.2.cells.length [p.2] 0 0 (hG p h1)

theorem evO_rep {n : Nat} {Gl : Globs} (hG : ∀ p ∈ Gl, SlAt w I p.1 0 p.2.cells.length [p.2]) {env : Env} {a : Act} (h : RelEnv n w I μ σ env a) (x : Operand) : RepV w I μ σ (a.eval x) (evO Gl env x) := by
  cases x with
  | tmp t => exact h.slot t
  | const v => exact constV_rep v
  | global g => exact globV_rep Gl hG g
  | func f => exact .fn f [] [] rfl (fun i v x hv => by simp at hv)

theorem un_rep {v : Value} {x : AV} (h : RepV w I μ σ v x) (hg : x.vg = true) : RepV w I μ σ v x.un := by
  cases h with
  | iff g _ x h1 h2 => exact h1 hg
  | mapr _ id hid h => exact .mapr _ id hid h
  | anyb b => exact .anyb b
  | undef => exact .undef _
  | d _ _ h => exact .d _ _ h
  | nils => exact .nils
  | agg vs cs hl hone h => exact .agg vs cs hl hone h
  | ptr _ id off hid h => exact .ptr _ id off hid h
  | eptr b o es xs i off h => exact .eptr b o es xs i off h
  | aptr _ id i off hid h => exact .aptr _ id i off hid h
  | osl _ id off len hid h => exact .osl _ id off len hid h
  | fn f vs caps hl h => exact .fn f vs caps hl h
  | tup vs cs hl h => exact .tup vs cs hl h

/-! ### types -/
theorem run_isAgg' {t : TypeId} {g : Bool} (h : tkind P t = some g) : (isAgg t).run P w = .ok g w := by
  unfold tkind at h
  unfold isAgg underlying
  cases hu : P.underlying t with
  | none => rw [hu] at h; cases h
  | some d =>
    rw [hu] at h
    cases d <;> simp at h <;> subst h <;> simp [hu]

theorem run_sizeOf' {t : TypeId} {n : Nat} (h : tsz P t = some n) : (sizeOf t).run P w = .ok n w := by
  unfold tsz at h
  unfold sizeOf typeInfo
  cases hi : P.info? t with
  | none => rw [hi] at h; cases h
  | some i => rw [hi] at h; simp at h; subst h; simp [hi]

theorem run_zeroValue' {t : TypeId} {z : Value} (h : tzero P t = some z) : (zeroValue t).run P w = .ok z w := by
  unfold tzero at h
  unfold zeroValue typeInfo
  cases hi : P.info? t with
  | none => rw [hi] at h; cases h
  | some i => rw [hi] at h; simp at h; simp [hi, h]

theorem addr_add (b o j : Nat) : (⟨b, o, none⟩ : Addr).add j = ⟨b, o + j, none⟩ := by
  unfold Addr.add; split
  · subst_vars; rfl
  · rfl

/-! ### loads -/
theorem run_loadVar_agg {t : TypeId} {b o : Nat} (h1 : tkind P t = some true) (cs : List Value) (h2 : tsz P t = some cs.length) (h : ∀ j v, cs[j]? = some v → w.cell? ⟨b, o + j, none⟩ = some v) :
    (loadVar t ⟨b, o, none⟩).run P w = .ok (.agg cs.toArray) w := by
  unfold loadVar
  simp only [Sem.run_bind, run_isAgg' h1, Result.andThen_ok, if_true, run_sizeOf' h2]
  rw [run_loadCells_list w _ cs (fun j v hv => by rw [addr_add]; exact h j v hv)]
  rfl
theorem run_loadVar_one {t : TypeId} {a : Addr} {v : Value} (h1 : tkind P t = some false) (h : w.cell? a = some v) : (loadVar t a).run P w = .ok v w := by
  unfold loadVar
  simp only [Sem.run_bind, run_isAgg' h1, Result.andThen_ok]
  simp [h]

theorem D.cells_of_not_agg {x : D} (h : x.isAgg = false) : x.cells = [x] := by cases x <;> simp_all [D.isAgg, D.cells]
theorem D.agg_of_isAgg {x : D} (h : x.isAgg = true) : x = .agg x.cells := by cases x <;> simp_all [D.isAgg, D.cells]
theorem D.one_of_not_agg {x : D} (h : x.isAgg = false) : x.one = true := by cases x <;> simp_all [D.isAgg, D.one]
theorem D.flat_sub {x : D} (h : x.flat) (off n : Nat) : (x.sub off n).flat := fun c hc => h c (List.mem_of_mem_drop (List.mem_of_mem_take hc))
theorem RepD.flat {v : Value} {x : D} (h : RepD w I v x) : x.flat := by
  cases h <;> intro c hc <;> simp [D.cells] at hc <;> first | (subst hc; rfl) | skip
  rename_i h _
  exact h c hc
theorem RepD.oneCell {v : Value} {x : D} (h : RepD w I v x) (h1 : x.one = true) : v.oneCell' = true := by
  cases h <;> simp_all [D.one, Value.oneCell']
  rename_i h
  cases v <;> simp_all [simpleValue]

/-- n cells of an element that begins at ⟨b, B⟩, from its cell off on, loaded as a value of type t -/
theorem load_part {t : TypeId} {g : Bool} {n N off b B : Nat} {x : D} (hk : tkind P t = some g) (hs : tsz P t = some n) (hN : x.cells.length = N) (hf : x.flat)
    (hc : ∀ (j : Nat) (y : D), x.cells[j]? = some y → ∃ v, w.cell? ⟨b, B + j, none⟩ = some v ∧ RepD w I v y) (ho : partOk N off n g x.isAgg) :
    ∃ u, (loadVar t ⟨b, B + off, none⟩).run P w = .ok u w ∧ RepD w I u (x.partD N off n g) := by
  obtain ⟨h1, h2⟩ := ho
  have hget : ∀ j, j < n → ∃ v y, x.cells[off + j]? = some y ∧ w.cell? ⟨b, B + off + j, none⟩ = some v ∧ RepD w I v y := fun j hj => by
    have hlt : off + j < x.cells.length := by omega
    obtain ⟨v, hv, hr⟩ := hc (off + j) _ (List.getElem?_eq_getElem hlt)
    exact ⟨v, _, List.getElem?_eq_getElem hlt, by rw [Nat.add_assoc]; exact hv, hr⟩
  cases g with
  | true =>
    let cs : List Value := (List.range n).map fun j => (w.cell? ⟨b, B + off + j, none⟩).getD Go.undef
    have hlen : cs.length = n := by simp [cs]
    have hrun := run_loadVar_agg (P := P) (w := w) (t := t) (b := b) (o := B + off) hk cs (by rw [hlen]; exact hs) (fun j v hv => by
      simp only [cs, List.getElem?_map] at hv
      rcases Nat.lt_or_ge j n with hj | hj
      · obtain ⟨v', y, _, hv', _⟩ := hget j hj
        simp [hj, hv'] at hv
        subst hv; exact hv'
      · simp [hj] at hv)
    refine ⟨_, hrun, ?_⟩
    have key : RepD w I (.agg cs.toArray) (x.sub off n) := by
      refine .agg cs ((x.cells.drop off).take n) (by simp [hlen]; omega) (fun c hc => hf c (List.mem_of_mem_drop (List.mem_of_mem_take hc))) fun i v y hv hy => ?_
      rcases Nat.lt_or_ge i n with hi | hi
      · obtain ⟨v', y', hy', hv', hr⟩ := hget i hi
        rw [List.getElem?_take_of_lt hi, List.getElem?_drop, hy'] at hy
        simp only [cs, List.getElem?_map] at hv
        simp [hi, hv'] at hv
        simp at hy
        subst hv; subst hy; exact hr
      · rw [List.getElem?_eq_none (by simp [hlen]; omega)] at hv; cases hv
    unfold D.partD
    split
    · rename_i he
      rw [if_pos he] at h2
      have : x.sub off n = x := by
        obtain ⟨rfl, rfl⟩ := he
        unfold D.sub
        rw [List.drop_zero, List.take_of_length_le (by omega)]
        exact (D.agg_of_isAgg h2).symm
      rwa [this] at key
    · simpa using key
  | false =>
    have hn : n = 1 := by
      split at h2
      · rename_i he
        have := D.cells_of_not_agg h2
        rw [this] at hN
        simp at hN
        omega
      · simpa using h2.2
    subst hn
    obtain ⟨v, y, hy, hv, hr⟩ := hget 0 (by omega)
    refine ⟨v, run_loadVar_one hk hv, ?_⟩
    unfold D.partD
    split
    · rename_i he
      rw [if_pos he] at h2
      obtain ⟨rfl, rfl⟩ := he
      rw [D.cells_of_not_agg h2] at hy
      simp at hy
      subst hy; exact hr
    · simp only [Bool.false_eq_true, if_false]
      unfold D.cell
      rw [List.getD_eq_getElem?_getD]
      rw [Nat.add_zero] at hy
      rw [hy]; exact hr

theorem AV.cellAt_of_not_agg {v : AV} (h : v.isAgg = false) : v.cellAt 0 = v := by
  cases v <;> simp_all [AV.isAgg, AV.cellAt]
  rename_i x
  unfold D.cell; rw [D.cells_of_not_agg h]; rfl
theorem AV.ncells_of_not_agg {v : AV} (h : v.isAgg = false) : v.ncells = 1 := by
  cases v <;> simp_all [AV.isAgg, AV.ncells]
  rename_i x
  rw [D.cells_of_not_agg h]; rfl

/-- the same of a variable -/
theorem load_partV {t : TypeId} {g : Bool} {n N off b B : Nat} {v : AV} (hk : tkind P t = some g) (hs : tsz P t = some n) (hN : v.ncells = N)
    (hc : ∀ j, j < N → (v.cellAt j).one = true ∧ ∃ u, w.cell? ⟨b, B + j, none⟩ = some u ∧ RepV w I μ σ u (v.cellAt j)) (ho : partOk N off n g v.isAgg) :
    ∃ u, (loadVar t ⟨b, B + off, none⟩).run P w = .ok u w ∧ RepV w I μ σ u (v.partV N off n g) := by
  obtain ⟨h1, h2⟩ := ho
  have hget : ∀ j, j < n → (v.cellAt (off + j)).one = true ∧ ∃ u, w.cell? ⟨b, B + off + j, none⟩ = some u ∧ RepV w I μ σ u (v.cellAt (off + j)) := fun j hj => by
    obtain ⟨h3, u, hu, hr⟩ := hc (off + j) (by omega)
    exact ⟨h3, u, by rw [Nat.add_assoc]; exact hu, hr⟩
  cases g with
  | true =>
    let cs : List Value := (List.range n).map fun j => (w.cell? ⟨b, B + off + j, none⟩).getD Go.undef
    have hlen : cs.length = n := by simp [cs]
    have hcs : ∀ i u, cs[i]? = some u → i < n ∧ w.cell? ⟨b, B + off + i, none⟩ = some u := fun i u hu => by
      simp only [cs, List.getElem?_map] at hu
      rcases Nat.lt_or_ge i n with hi | hi
      · obtain ⟨_, u', hu', _⟩ := hget i hi
        simp [hi, hu'] at hu
        subst hu; exact ⟨hi, hu'⟩
      · simp [hi] at hu
    have hrun := run_loadVar_agg (P := P) (w := w) (t := t) (b := b) (o := B + off) hk cs (by rw [hlen]; exact hs) (fun j u hu => (hcs j u hu).2)
    refine ⟨_, hrun, ?_⟩
    -- the value as an aggregate of its cells
    have rep : ∀ i u, cs[i]? = some u → RepV w I μ σ u (v.cellAt (off + i)) := fun i u hu => by
      obtain ⟨hi, hu'⟩ := hcs i u hu
      obtain ⟨_, u2, hu2, hr⟩ := hget i hi
      rw [hu2] at hu'
      simp at hu'
      subst hu'; exact hr
    cases v with
    | d x =>
      have hx : ∀ j, j < N → (x.cell j).one = true := fun j hj => (hc j hj).1
      have hxl : x.cells.length = N := hN
      have key : RepD w I (.agg cs.toArray) (x.sub off n) := by
        refine .agg cs ((x.cells.drop off).take n) (by simp [hlen]; omega) (fun c hc' => ?_) fun i u y hu hy => ?_
        · obtain ⟨k, hk'⟩ := List.getElem?_of_mem (List.mem_of_mem_drop (List.mem_of_mem_take hc'))
          have hkl : k < x.cells.length := by
            rcases Nat.lt_or_ge k x.cells.length with h' | h'
            · exact h'
            · rw [List.getElem?_eq_none h'] at hk'; cases hk'
          have := hx k (by omega)
          unfold D.cell at this
          rw [List.getD_eq_getElem?_getD, hk'] at this
          exact this
        · have hi := (hcs i u hu).1
          have := (rep i u hu).inv_d
          rw [List.getElem?_take_of_lt hi, List.getElem?_drop] at hy
          unfold D.cell at this
          rw [List.getD_eq_getElem?_getD, hy] at this
          exact this
      show RepV w I μ σ _ (AV.partV _ _ _ _ _)
      unfold AV.partV
      split
      · rename_i he
        rw [if_pos he] at h2
        obtain ⟨rfl, rfl⟩ := he
        have : x.sub 0 n = x := by
          unfold D.sub
          rw [List.drop_zero, List.take_of_length_le (by omega)]
          exact (D.agg_of_isAgg h2).symm
        rw [this] at key
        exact .d _ _ key
      · simp only [if_true, AV.subV]
        exact .d _ _ key
    | agg l =>
      have hll : l.length = N := hN
      have key : RepV w I μ σ (.agg cs.toArray) (mkAgg ((l.drop off).take n)) := by
        refine mkAgg_rep (by simp [hlen]; omega) (fun c hc' => ?_) fun i u y hu hy => ?_
        · obtain ⟨k, hk'⟩ := List.getElem?_of_mem (List.mem_of_mem_drop (List.mem_of_mem_take hc'))
          have hkl : k < l.length := by
            rcases Nat.lt_or_ge k l.length with h' | h'
            · exact h'
            · rw [List.getElem?_eq_none h'] at hk'; cases hk'
          have := (hc k (by omega)).1
          simp only [AV.cellAt, List.getD_eq_getElem?_getD, hk', Option.getD_some] at this
          exact this
        · have hi := (hcs i u hu).1
          have := rep i u hu
          rw [List.getElem?_take_of_lt hi, List.getElem?_drop] at hy
          simp only [AV.cellAt, List.getD_eq_getElem?_getD, hy, Option.getD_some] at this
          exact this
      unfold AV.partV
      split
      · rename_i he
        obtain ⟨rfl, rfl⟩ := he
        refine .agg cs l (by omega) (fun c hc' => ?_) fun i u y hu hy => ?_
        · obtain ⟨k, hk'⟩ := List.getElem?_of_mem hc'
          have hkl : k < l.length := by
            rcases Nat.lt_or_ge k l.length with h' | h'
            · exact h'
            · rw [List.getElem?_eq_none h'] at hk'; cases hk'
          have := (hc k (by omega)).1
          simp only [AV.cellAt, List.getD_eq_getElem?_getD, hk', Option.getD_some] at this
          exact this
        · have := rep i u hu
          simp only [AV.cellAt, List.getD_eq_getElem?_getD, Nat.zero_add, hy, Option.getD_some] at this
          exact this
      · simp only [if_true, AV.subV]
        exact key
    | _ =>
      exfalso
      split at h2 <;> simp [AV.isAgg] at h2
  | false =>
    have hn : n = 1 := by
      split at h2
      · rename_i he
        have := AV.ncells_of_not_agg h2
        omega
      · simpa using h2.2
    subst hn
    obtain ⟨_, u, hu, hr⟩ := hget 0 (by omega)
    refine ⟨u, run_loadVar_one hk hu, ?_⟩
    unfold AV.partV
    split
    · rename_i he
      rw [if_pos he] at h2
      obtain ⟨rfl, rfl⟩ := he
      rw [AV.cellAt_of_not_agg h2] at hr
      exact hr
    · simpa using hr

end Go.AM
