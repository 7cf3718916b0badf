/-
  The operations run, second part: data out of owned arrays (frozen), stores.
-/
import Derived.Test.YtgebmgahfpnjaaaAm4
set_option linter.unnecessarySimpa false
set_option linter.unusedSectionVars false
set_option linter.unusedSimpArgs false
set_option linter.unusedVariables false
namespace Go.AM

variable {P : Program} {w : World} {I : Im} {μ : Pos} {σ : Sto}

theorem blkAt_freeze (σ : Sto) (id i : Nat) : blkAt (freeze σ id) i = if id = i then (blkAt σ i).frozen else blkAt σ i := by
  unfold freeze
  by_cases e : id = i
  · subst e
    rw [if_pos rfl]
    rcases Nat.lt_or_ge id σ.length with h | h
    · rw [blkAt_set_self h]
    · rw [List.set_eq_of_length_le h]
      unfold blkAt
      rw [List.getD_eq_getElem?_getD, List.getElem?_eq_none h]; rfl
  · rw [if_neg e, blkAt_set_ne e]
theorem Blk.frozen_xs (B : Blk) : B.frozen.xs = B.xs ∧ B.frozen.isArr = B.isArr ∧ B.frozen.es = B.es := by cases B <;> exact ⟨rfl, rfl, rfl⟩
theorem Blk.frozen_own (B : Blk) (h : B.isArr = true) : B.frozen.own = false := by cases B <;> simp_all [Blk.frozen, Blk.own, Blk.isArr]
theorem Blk.frozen_own' (B : Blk) (h : B.own = false) : B.frozen.own = false := by cases B <;> simp_all [Blk.frozen, Blk.own]

theorem freezeL_spec (h : Rel w I μ σ) (l : List Nat) : ∃ I', Rel w I' μ (freezeL σ l) ∧ Keep σ.length w I μ σ w I' μ (freezeL σ l) ∧ (freezeL σ l).length = σ.length ∧
    (∀ id, id ∈ l → (blkAt σ id).isArr = true → (blkAt (freezeL σ l) id).own = false) ∧
    (∀ id, (blkAt (freezeL σ l) id).xs = (blkAt σ id).xs ∧ (blkAt (freezeL σ l) id).isArr = (blkAt σ id).isArr) ∧
    (∀ id, (blkAt σ id).own = false → (blkAt (freezeL σ l) id).own = false) ∧
    (∀ id, id ∉ l → blkAt (freezeL σ l) id = blkAt σ id) ∧ (∀ b, I'.fr b → I.fr b ∨ ∃ id o, id ∈ l ∧ (blkAt σ id).own = true ∧ (blkAt σ id).isArr = true ∧ μ id = some (b, o)) := by
  induction l generalizing I σ with
  | nil => exact ⟨I, h, Keep.refl _ _ _ _ (Nat.le_refl _), rfl, (fun _ h => by cases h), fun _ => ⟨rfl, rfl⟩, fun _ h => h, fun _ _ => rfl, fun _ h => .inl h⟩
  | cons a l ih =>
    have h1 := h.freeze a
    have k1 : Keep σ.length w I μ σ w (immAnd I μ σ a) μ (freeze σ a) := keep_freeze h a
    have hlen : (freeze σ a).length = σ.length := by simp [freeze]
    obtain ⟨I', r1, r2, r3, r4, r5, r6, r7, r8⟩ := ih h1
    rw [hlen] at r2 r3
    refine ⟨I', r1, k1.trans r2, r3, fun id hid hz => ?_, fun id => ?_, fun id ho => ?_, fun id hid => ?_, fun b hb => ?_⟩
    · by_cases e : a = id
      · subst e
        refine r6 a ?_
        rw [blkAt_freeze, if_pos rfl]
        exact Blk.frozen_own _ hz
      · cases hid with
        | head => exact absurd rfl e
        | tail _ hid =>
          refine r4 id hid ?_
          rw [blkAt_freeze, if_neg e]; exact hz
    · obtain ⟨e1, e2⟩ := r5 id
      rw [blkAt_freeze] at e1 e2
      split at e1 <;> rename_i hc
      · rw [if_pos hc] at e2
        exact ⟨e1.trans (Blk.frozen_xs _).1, e2.trans (Blk.frozen_xs _).2.1⟩
      · rw [if_neg hc] at e2; exact ⟨e1, e2⟩
    · refine r6 id ?_
      rw [blkAt_freeze]
      split
      · exact Blk.frozen_own' _ ho
      · exact ho
    · have := r7 id (fun hm => hid (List.mem_cons_of_mem _ hm))
      show blkAt (freezeL (freeze σ a) l) id = _
      rw [this, blkAt_freeze, if_neg (fun e => hid (by rw [e]; exact List.mem_cons_self))]
    · rcases r8 b hb with hI | ⟨id, o, hid, ho, hz, hm⟩
      · rcases hI with hI | ⟨h2, h3, o, h4⟩
        · exact .inl hI
        · exact .inr ⟨a, o, List.mem_cons_self, h3, h2, h4⟩
      · refine .inr ⟨id, o, List.mem_cons_of_mem _ hid, ?_, ?_, hm⟩
        · rw [blkAt_freeze] at ho
          split at ho
          · cases hB : blkAt σ id <;> rw [hB] at ho <;> simp_all [Blk.frozen, Blk.own]
          · exact ho
        · rw [blkAt_freeze] at hz
          split at hz
          · rw [(Blk.frozen_xs _).2.1] at hz; exact hz
          · exact hz

theorem toD1_rep {σ' : Sto} (h : Rel w I μ σ') {v : Value} {u : AV} (hv : RepV w I μ σ' v u) (hd : isD1 σ' u = true) (hf : ∀ id ∈ ref1 u, (blkAt σ' id).own = false) : RepD w I v (toD1 σ' u) := by
  cases u with
  | d x => exact hv.inv_d
  | nils => cases hv; exact .nil none 0
  | osl id off len => exact hv.oslData h hd (hf id (by simp [ref1]))
  | _ => simp [isD1] at hd

theorem toD1_one (σ : Sto) (u : AV) (h1 : u.one = true) : (toD1 σ u).one = true := by
  cases u <;> simp_all [toD1, AV.one, D.one, default]

theorem toD_rep' {σ' : Sto} (h : Rel w I μ σ') {v : Value} {u : AV} (hv : RepV w I μ σ' v u) (hd : u.isD σ' = true) (hf : ∀ id ∈ u.refs, (blkAt σ' id).own = false) : RepD w I v (u.toD σ') := by
  cases u with
  | agg cs =>
    cases hv with
    | agg vs _ hl hone hh =>
      refine .agg vs (cs.map (toD1 σ')) (by simpa using hl) (fun c hc => ?_) fun i v x hv hx => ?_
      · obtain ⟨u, hu, rfl⟩ := List.mem_map.1 hc
        exact toD1_one _ _ (hone u hu)
      · rw [List.getElem?_map] at hx
        cases hc : cs[i]? with
        | none => rw [hc] at hx; cases hx
        | some c =>
          rw [hc] at hx
          simp at hx
          subst hx
          have hm := List.mem_of_getElem? hc
          refine toD1_rep h (hh i v c hv hc) (List.all_eq_true.1 hd c hm) fun id hid => hf id ?_
          exact List.mem_flatMap.2 ⟨c, hm, hid⟩
  | d x => exact toD1_rep h hv hd hf
  | nils => exact toD1_rep h hv hd hf
  | osl id off len => exact toD1_rep h hv hd hf
  | _ => simp [AV.isD, isD1] at hd

theorem isD_congr {σ σ' : Sto} (e : ∀ id, (blkAt σ' id).isArr = (blkAt σ id).isArr) (u : AV) : u.isD σ' = u.isD σ := by
  have : isD1 σ' = isD1 σ := by
    funext u; cases u <;> simp [isD1, e]
  cases u <;> simp [AV.isD, this]
theorem toD_congr {σ σ' : Sto} (e : ∀ id, (blkAt σ' id).xs = (blkAt σ id).xs) (u : AV) : u.toD σ' = u.toD σ := by
  have : toD1 σ' = toD1 σ := by
    funext u; cases u <;> simp [toD1, e]
  cases u <;> simp [AV.toD, this]
theorem refs_isArr {u : AV} (hd : u.isD σ = true) : ∀ id ∈ u.refs, (blkAt σ id).isArr = true := by
  have one : ∀ u : AV, isD1 σ u = true → ∀ id ∈ ref1 u, (blkAt σ id).isArr = true := fun u hu id hid => by
    cases u <;> simp [ref1] at hid
    subst hid; exact hu
  intro id hid
  cases u with
  | agg cs =>
    obtain ⟨c, hc, hid⟩ := List.mem_flatMap.1 hid
    exact one c (List.all_eq_true.1 hd c hc) id hid
  | osl a b c => exact one (.osl a b c) hd id hid
  | _ => simp [AV.refs, ref1] at hid

/-- a value read as data: the arrays that it reaches are frozen -/
theorem toD_rep (h : Rel w I μ σ) {v : Value} {u : AV} (hv : RepV w I μ σ v u) (hd : u.isD σ = true) :
    ∃ I', Rel w I' μ (freezeL σ u.refs) ∧ Keep σ.length w I μ σ w I' μ (freezeL σ u.refs) ∧ RepD w I' v (u.toD σ) ∧ (freezeL σ u.refs).length = σ.length ∧
      (∀ id, id ∉ u.refs → blkAt (freezeL σ u.refs) id = blkAt σ id) ∧
      (∀ b, I'.fr b → I.fr b ∨ ∃ id o, id ∈ u.refs ∧ (blkAt σ id).own = true ∧ (blkAt σ id).isArr = true ∧ μ id = some (b, o)) := by
  obtain ⟨I', r1, r2, r3, r4, r5, r6, r7, r8⟩ := freezeL_spec h u.refs
  refine ⟨I', r1, r2, ?_, r3, r7, r8⟩
  have := toD_rep' r1 (hv.keep r2) (by rw [isD_congr (fun id => (r5 id).2)]; exact hd) (fun id hid => r4 id hid (refs_isArr hd id hid))
  rwa [toD_congr (fun id => (r5 id).1)] at this

/-! ### stores -/
theorem store_run {b o : Nat} {vs : List Value} (hp : plainBlk w b) (hn : o + vs.length ≤ blkSize w b) (h1 : ∀ v ∈ vs, v.oneCell' = true) :
    ∃ w', (storeCells ⟨b, o, none⟩ vs).run P w = .ok () w' ∧ WroteAt b w w' ∧ ∀ j, w'.cell? ⟨b, j, none⟩ = if o ≤ j ∧ j < o + vs.length then vs[j - o]? else w.cell? ⟨b, j, none⟩ := by
  obtain ⟨c, t, hc⟩ := hp
  have hsz : blkSize w b = c.size := by unfold blkSize; rw [hc]
  rw [hsz] at hn
  refine ⟨_, run_storeCells_at P b o t vs 0 c w hc (by simpa using hn) h1, ?_, fun j => ?_⟩
  · have hh := setRow_heap w b c (c.toList.take (o + 0) ++ vs ++ c.toList.drop (o + 0 + vs.length)).toArray t (0, 0) hc
    refine ⟨rfl, rfl, rfl, by simp, fun b' hb => setRow_other w b b' _ hb, ?_, fun _ => ⟨_, _, hh⟩⟩
    rw [hsz]
    unfold blkSize
    rw [hh]
    simp
    omega
  · have hh := setRow_heap w b c (c.toList.take (o + 0) ++ vs ++ c.toList.drop (o + 0 + vs.length)).toArray t (0, 0) hc
    have e1 : (w.setRow b (c.toList.take (o + 0) ++ vs ++ c.toList.drop (o + 0 + vs.length)).toArray).cell? ⟨b, j, none⟩ = (c.toList.take o ++ vs ++ c.toList.drop (o + vs.length))[j]? := by
      unfold World.cell?
      rw [hh]
      simp
    have e2 : w.cell? ⟨b, j, none⟩ = c.toList[j]? := by
      unfold World.cell?
      rw [hc]
      simp
    rw [e1, e2, List.append_assoc]
    by_cases hj : j < o
    · rw [if_neg (by omega), List.getElem?_append_left (by simp; omega), List.getElem?_take_of_lt hj]
    · have hlo : (c.toList.take o).length = o := by simp; omega
      rw [List.getElem?_append_right (by omega), hlo]
      by_cases hj2 : j < o + vs.length
      · rw [if_pos ⟨by omega, hj2⟩, List.getElem?_append_left (by omega)]
      · rw [if_neg (by omega), List.getElem?_append_right (by omega), List.getElem?_drop]
        congr 1
        omega

/-- the cells of a value that can be stored -/
theorem cells_rep {v : Value} {u : AV} (hv : RepV w I μ σ v u) (hs : u.storable = true) :
    ∃ vs : List Value, v.cells = vs.toArray ∧ vs.length = u.ncells ∧ ∀ j c, vs[j]? = some c → RepV w I μ σ c (u.cellAt j) ∧ (u.cellAt j).one = true ∧ c.oneCell' = true := by
  have single : ∀ (v : Value) (u : AV), u.one = true → u.isAgg = false → v.oneCell' = true → RepV w I μ σ v u → ∃ vs : List Value, v.cells = vs.toArray ∧ vs.length = u.ncells ∧ ∀ j c, vs[j]? = some c → RepV w I μ σ c (u.cellAt j) ∧ (u.cellAt j).one = true ∧ c.oneCell' = true := by
    intro v u h1 h2 h3 h4
    refine ⟨[v], ?_, by rw [AV.ncells_of_not_agg h2]; rfl, fun j c hc => ?_⟩
    · cases v <;> simp_all [Value.oneCell', Value.cells]
    · cases j with
      | zero =>
        simp at hc
        subst hc
        rw [AV.cellAt_of_not_agg h2]
        exact ⟨h4, h1, h3⟩
      | succ j => simp at hc
  cases u with
  | undef => simp [AV.storable] at hs
  | tup _ => simp [AV.storable] at hs
  | iff _ _ => simp [AV.storable] at hs
  | anyb => simp [AV.storable] at hs
  | agg cs =>
    cases hv with
    | agg vs _ hl hone hh =>
      refine ⟨vs, rfl, hl, fun j c hc => ?_⟩
      have hjl : j < cs.length := by
        rcases Nat.lt_or_ge j vs.length with h' | h'
        · omega
        · rw [List.getElem?_eq_none h'] at hc; cases hc
      have hx : cs[j]? = some cs[j] := List.getElem?_eq_getElem hjl
      have r := hh j c _ hc hx
      have e : (AV.agg cs).cellAt j = cs[j] := by simp [AV.cellAt, List.getD_eq_getElem?_getD, hx]
      rw [e]
      have h1 := hone cs[j] (List.getElem_mem hjl)
      refine ⟨r, h1, ?_⟩
      generalize cs[j] = q at *
      cases r <;> simp_all [AV.one, Value.oneCell']
      · rename_i h; exact h.oneCell h1
      · rename_i h; obtain ⟨_, _, _, rfl⟩ := h; rfl
      · rename_i h; obtain ⟨_, _, _, _, rfl⟩ := h; rfl
      · rename_i h; rcases h with ⟨_, _, rfl⟩ | ⟨_, _, _, _, _, _, rfl⟩ <;> rfl
      · rename_i h; obtain ⟨_, _, rfl⟩ := h; rfl
  | d x =>
    cases hx : x.isAgg with
    | false => exact single v (.d x) (D.one_of_not_agg hx) hx (hv.inv_d.oneCell (D.one_of_not_agg hx)) hv
    | true =>
      have e := D.agg_of_isAgg hx
      have hr := hv.inv_d
      rw [e] at hr
      cases hr with
      | agg vs _ hl hone hh =>
        refine ⟨vs, rfl, hl, fun j c hc => ?_⟩
        have hjl : j < x.cells.length := by
          rcases Nat.lt_or_ge j vs.length with h' | h'
          · omega
          · rw [List.getElem?_eq_none h'] at hc; cases hc
        have hy : x.cells[j]? = some x.cells[j] := List.getElem?_eq_getElem hjl
        have r := hh j c _ hc hy
        have e2 : (AV.d x).cellAt j = .d x.cells[j] := by simp [AV.cellAt, D.cell, List.getD_eq_getElem?_getD, hy]
        rw [e2]
        have h1 := hone x.cells[j] (List.getElem_mem hjl)
        exact ⟨.d _ _ r, h1, r.oneCell h1⟩
  | nils => exact single v .nils rfl rfl (by cases hv; rfl) hv
  | ptr id off => exact single v _ rfl rfl (by cases hv; rename_i h; obtain ⟨_, _, _, rfl⟩ := h; rfl) hv
  | eptr es xs i off => exact single v _ rfl rfl (by cases hv; rfl) hv
  | aptr id i off => exact single v _ rfl rfl (by cases hv; rename_i h; obtain ⟨_, _, _, _, rfl⟩ := h; rfl) hv
  | osl id off len => exact single v _ rfl rfl (by cases hv; rename_i h; rcases h with ⟨_, _, rfl⟩ | ⟨_, _, _, _, _, _, rfl⟩ <;> rfl) hv
  | mapr id => exact single v _ rfl rfl (by cases hv; rename_i h; obtain ⟨_, _, rfl⟩ := h; rfl) hv
  | fn f caps => exact single v _ rfl rfl (by cases hv; rfl) hv

end Go.AM
