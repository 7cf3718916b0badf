/-
  The operations run, third part: load and store through any pointer; new variables.
-/
import Derived.Test.YtgebmgahfpnjaaaAm5
set_option linter.unnecessarySimpa false
set_option linter.unusedSectionVars false
set_option linter.unusedSimpArgs false
set_option linter.unusedVariables false
namespace Go.AM

variable {P : Program} {w : World} {I : Im} {μ : Pos} {σ : Sto}

theorem Rel.boxOf (h : Rel w I μ σ) {id : Nat} (hb : (blkAt σ id).isBox = true) : ∃ n v b, blkAt σ id = .box n v ∧ id < σ.length ∧ alive σ id ∧ (blkAt σ id).own = true ∧ μ id = some (b, 0) ∧ plainBlk w b ∧ blkSize w b = n ∧ v.ncells = n ∧
    ∀ j, j < n → (v.cellAt j).one = true ∧ ∃ u, w.cell? ⟨b, j, none⟩ = some u ∧ RepV w I μ σ u (v.cellAt j) := by
  cases hB : blkAt σ id with
  | box n v =>
    have ho : (blkAt σ id).own = true := by rw [hB]; rfl
    have hid := blkAt_own_lt ho
    have := h.blk id hid
    rw [hB] at this
    obtain ⟨b, h1, _, h3, h4, h5, h6⟩ := this
    exact ⟨n, v, b, rfl, hid, by unfold alive; rw [hB]; rfl, rfl, h1, h3, h4, h5, h6⟩
  | _ => rw [hB] at hb; simp [Blk.isBox] at hb

theorem Rel.arrOf (h : Rel w I μ σ) {id : Nat} (hb : (blkAt σ id).isArr = true) {i : Nat} (hi : i < (blkAt σ id).xs.length) : ∃ b base, id < σ.length ∧ alive σ id ∧ μ id = some (b, base) ∧
    (∀ x ∈ (blkAt σ id).xs, x.cells.length = (blkAt σ id).es) ∧ (∀ x ∈ (blkAt σ id).xs, x.flat) ∧
    (∀ (i j : Nat) (x y : D), (blkAt σ id).xs[i]? = some x → x.cells[j]? = some y → ∃ v, w.cell? ⟨b, base + i * (blkAt σ id).es + j, none⟩ = some v ∧ RepD w I v y) := by
  have hal : alive σ id := by unfold alive; cases hB : blkAt σ id <;> simp_all [Blk.isArr, Blk.isDead]
  have hid := alive_lt hal
  have hb2 := h.blk id hid
  cases hB : blkAt σ id with
  | arr es xs =>
    rw [hB] at hb2 hi
    rcases hb2 with ⟨_, rfl⟩ | ⟨b, base, h1, _, _, _, h5, h6, h7⟩
    · simp [Blk.xs] at hi
    · exact ⟨b, base, hid, hal, h1, h5, h6, h7⟩
  | frz es xs =>
    rw [hB] at hb2 hi
    rcases hb2 with ⟨_, rfl⟩ | ⟨b, base, h1, hs⟩
    · simp [Blk.xs] at hi
    · exact ⟨b, base, hid, hal, h1, hs.size, hs.flat, hs.cell⟩
  | dead => rw [hB] at hb; simp [Blk.isArr] at hb
  | box _ _ => rw [hB] at hb; simp [Blk.isArr] at hb
  | map _ _ => rw [hB] at hb; simp [Blk.isArr] at hb

theorem getD_of_lt {xs : List D} {i : Nat} (h : i < xs.length) : xs[i]? = some (xs.getD i default) := by
  rw [List.getD_eq_getElem?_getD, List.getElem?_eq_getElem h]; rfl
theorem getD_mem {xs : List D} {i : Nat} (h : i < xs.length) : xs.getD i default ∈ xs := List.mem_of_getElem? (getD_of_lt h)

theorem load_goes (h : Rel w I μ σ) {t : TypeId} {g : Bool} {n : Nat} (hk : tkind P t = some g) (hs : tsz P t = some n) {v : Value} {p : AV} (hv : RepV w I μ σ v p) (ho : ldOk σ g n p) :
    ∃ u, (Instr.loadAt t v).run P w = .ok u w ∧ RepV w I μ σ u (ldV σ g n p) := by
  cases p with
  | ptr id off =>
    obtain ⟨hb, hp⟩ := ho
    obtain ⟨N, bv, b, hB, hid, hal, _, hμ, _, _, h5, h6⟩ := h.boxOf hb
    cases hv with
    | ptr _ _ _ _ hh =>
      obtain ⟨b', base, h1, rfl⟩ := hh
      have e := h1 hal
      rw [hμ] at e
      simp only [Option.some.injEq, Prod.mk.injEq] at e
      obtain ⟨rfl, rfl⟩ := e
      simp only [ldV, hB, Blk.boxV, Blk.boxN] at hp ⊢
      obtain ⟨u, hu, hr⟩ := load_partV (P := P) (B := 0) hk hs h5 (fun j hj => by rw [Nat.zero_add]; exact h6 j hj) hp
      refine ⟨u, ?_, hr⟩
      simp only [Instr.loadAt, Instr.sureAddr, Sem.run_bind, Sem.run_pure, Result.andThen_ok]
      exact hu
  | eptr es xs i off =>
    obtain ⟨hi, hp⟩ := ho
    cases hv with
    | eptr b o _ _ _ _ hh =>
      have hx := getD_of_lt hi
      obtain ⟨u, hu, hr⟩ := load_part (P := P) (B := o + i * es) hk hs (hh.size _ (getD_mem hi)) (hh.flat _ (getD_mem hi)) (fun j y hy => hh.cell i j _ y hx hy) hp
      refine ⟨u, ?_, .d _ _ hr⟩
      simp only [Instr.loadAt, Instr.sureAddr, Sem.run_bind, Sem.run_pure, Result.andThen_ok]
      exact hu
  | aptr id i off =>
    obtain ⟨hb, hi, hp⟩ := ho
    obtain ⟨b, base, hid, hal, hμ, h5, h6, h7⟩ := h.arrOf hb hi
    cases hv with
    | aptr _ _ _ _ _ hh =>
      obtain ⟨b', base', es, h1, rfl⟩ := hh
      obtain ⟨e, e2⟩ := h1 hal
      rw [hμ] at e
      simp only [Option.some.injEq, Prod.mk.injEq] at e
      obtain ⟨rfl, rfl⟩ := e
      subst e2
      have hx := getD_of_lt hi
      obtain ⟨u, hu, hr⟩ := load_part (P := P) (B := base + i * (blkAt σ id).es) hk hs (h5 _ (getD_mem hi)) (h6 _ (getD_mem hi)) (fun j y hy => h7 i j _ y hx hy) hp
      refine ⟨u, ?_, .d _ _ hr⟩
      simp only [Instr.loadAt, Instr.sureAddr, Sem.run_bind, Sem.run_pure, Result.andThen_ok]
      exact hu
  | _ => exact ho.elim

theorem mkAgg_cellAt (cs : List AV) (j : Nat) (hj : j < cs.length) : (mkAgg cs).cellAt j = cs.getD j .undef := by
  unfold mkAgg
  cases hd : allD cs with
  | none => rfl
  | some ds =>
    have e := allD_spec hd
    subst e
    simp only [List.length_map] at hj
    simp [AV.cellAt, D.cell, D.cells, List.getD_eq_getElem?_getD, List.getElem?_eq_getElem hj]
theorem mkAgg_ncells (cs : List AV) : (mkAgg cs).ncells = cs.length := by
  unfold mkAgg
  cases hd : allD cs with
  | none => rfl
  | some ds =>
    have e := allD_spec hd
    subst e
    simp [AV.ncells, D.cells]

theorem putV_cellAt {v u : AV} {N off n j : Nat} (hj : j < N) : (putV v N off n u).cellAt j = if off ≤ j ∧ j < off + n then u.cellAt (j - off) else v.cellAt j := by
  unfold putV
  split
  · rename_i he
    obtain ⟨rfl, rfl⟩ := he
    rw [if_pos ⟨by omega, by omega⟩]; rfl
  · rw [mkAgg_cellAt _ _ (by simpa using hj)]
    simp [List.getD_eq_getElem?_getD, hj]
theorem putV_ncells {v u : AV} {N off n : Nat} (hu : u.ncells = n) : (putV v N off n u).ncells = N := by
  unfold putV
  split
  · rename_i he; rw [hu]; exact he.2
  · rw [mkAgg_ncells]; simp

theorem run_storeAt {t : TypeId} {b o n : Nat} {v : Value} {vs : List Value} {w' : World} (hs : tsz P t = some n) (hc : v.cells = vs.toArray) (hl : vs.length = n) (hr : (storeCells ⟨b, o, none⟩ vs).run P w = .ok () w') :
    (Instr.storeAt t (.pointer (some ⟨b, o, none⟩)) v).run P w = .ok () w' := by
  simp only [Instr.storeAt, Instr.sureAddr, storeVar, Sem.run_bind, Sem.run_pure, Result.andThen_ok, run_sizeOf' hs, hc, List.size_toArray, hl]
  simpa only [ne_eq, not_true_eq_false, if_false] using hr

/-- the cells of data -/
theorem cellsD_rep {v : Value} {x : D} (hv : RepD w I v x) : ∃ vs : List Value, v.cells = vs.toArray ∧ vs.length = x.cells.length ∧ ∀ j c, vs[j]? = some c → RepD w I c (x.cell j) ∧ c.oneCell' = true := by
  obtain ⟨vs, h1, h2, h3⟩ := cells_rep (RepV.d (μ := fun _ => none) (σ := []) v x hv) rfl
  exact ⟨vs, h1, h2, fun j c hc => ⟨(h3 j c hc).1.inv_d, (h3 j c hc).2.2⟩⟩

theorem putAt_cells {x u : D} {N off n : Nat} (hu : u.cells.length = n) : (x.putAt N off n u).cells.length = N := by
  unfold D.putAt
  split
  · rename_i he; rw [hu]; exact he.2
  · simp [D.cells]
theorem putAt_cell {x u : D} {N off n j : Nat} (hj : j < N) : (x.putAt N off n u).cell j = if off ≤ j ∧ j < off + n then u.cell (j - off) else x.cell j := by
  unfold D.putAt
  split
  · rename_i he
    obtain ⟨rfl, rfl⟩ := he
    rw [if_pos ⟨by omega, by omega⟩]; rfl
  · simp [D.cell, D.cells, List.getD_eq_getElem?_getD, hj]
theorem D.cell_of {x y : D} {j : Nat} (h : x.cells[j]? = some y) : x.cell j = y := by unfold D.cell; rw [List.getD_eq_getElem?_getD, h]; rfl
theorem D.one_cell {x : D} (h : x.flat) {j : Nat} (hj : j < x.cells.length) : (x.cell j).one = true := by
  have e : x.cells[j]? = some x.cells[j] := List.getElem?_eq_getElem hj
  rw [D.cell_of e]; exact h _ (List.getElem_mem hj)
theorem putAt_flat {x u : D} {N off n : Nat} (hx : x.flat) (hu : u.flat) (hxl : x.cells.length = N) (hul : u.cells.length = n) : (x.putAt N off n u).flat := by
  intro c hc
  obtain ⟨j, hj⟩ := List.getElem?_of_mem hc
  have hjl : j < N := by
    rw [← putAt_cells (x := x) (N := N) (off := off) hul]
    rcases Nat.lt_or_ge j (x.putAt N off n u).cells.length with h' | h'
    · exact h'
    · rw [List.getElem?_eq_none h'] at hj; cases hj
  rw [← D.cell_of hj, putAt_cell hjl]
  split
  · exact D.one_cell hu (by omega)
  · exact D.one_cell hx (by omega)

theorem store_goes (h : Rel w I μ σ) {t : TypeId} {n : Nat} (hs : tsz P t = some n) {v q : Value} {u p : AV} (hv : RepV w I μ σ v u) (hq : RepV w I μ σ q p) (ho : stOk σ n u p) :
    ∃ w' I', (Instr.storeAt t q v).run P w = .ok () w' ∧ Rel w' I' μ (stS σ n u p) ∧ Keep σ.length w I μ σ w' I' μ (stS σ n u p) := by
  cases p with
  | ptr id off =>
    obtain ⟨hb, hp, hst, hnc⟩ := ho
    obtain ⟨N, bv, b, hB, hid, hal, hown, hμ, hpl, h4, h5, h6⟩ := h.boxOf hb
    cases hq with
    | ptr _ _ _ _ hh =>
      obtain ⟨b', base, h1, rfl⟩ := hh
      have e := h1 hal
      rw [hμ] at e
      simp only [Option.some.injEq, Prod.mk.injEq] at e
      obtain ⟨rfl, rfl⟩ := e
      simp only [stS, hB, Blk.boxV, Blk.boxN] at hp ⊢
      obtain ⟨vs, hc1, hc2, hc3⟩ := cells_rep hv hst
      rw [hnc] at hc2
      obtain ⟨w', hr, ww, hw⟩ := store_run (P := P) (w := w) (b := b) (o := 0 + off) (vs := vs) hpl (by omega) (fun c hc => by
        obtain ⟨j, hj⟩ := List.getElem?_of_mem hc
        exact (hc3 j c hj).2.2)
      have k := keep_upd h hown hμ ww (.box N (putV bv N off n u)) (by rw [hB]; rfl) (by rw [hB]; rfl) (by rw [hB]; exact Nat.le_refl _)
      refine ⟨w', I, run_storeAt hs hc1 hc2 hr, ?_, k⟩
      refine h.upd hown hμ ww _ (by rw [hB]; rfl) (by rw [hB]; rfl) (by rw [hB]; exact Nat.le_refl _) ⟨b, hμ, (own_lt h hid hown hμ).2, ww.plain hpl, ww.bsize.trans h4, putV_ncells hnc, fun j hj => ?_⟩
      rw [putV_cellAt hj, hw j]
      by_cases hin : off ≤ j ∧ j < off + n
      · have hlt : j - off < vs.length := by omega
        obtain ⟨r1, r2, _⟩ := hc3 (j - off) _ (List.getElem?_eq_getElem hlt)
        rw [if_pos hin, if_pos ⟨by omega, by omega⟩]
        exact ⟨r2, _, by rw [← List.getElem?_eq_getElem hlt]; congr 1; omega, r1.keep k⟩
      · rw [if_neg hin, if_neg (by omega)]
        obtain ⟨r1, u', hu', r2⟩ := h6 j hj
        exact ⟨r1, u', hu', r2.keep k⟩
  | aptr id i off =>
    obtain ⟨hb, hi, hp, hd, hnc, hnr⟩ := ho
    obtain ⟨I', r1, r2, r3, r4, r5, r6⟩ := toD_rep h hv hd
    cases hB : blkAt σ id with
    | arr es xs =>
      have hB' : blkAt (freezeL σ u.refs) id = .arr es xs := by rw [r5 id hnr, hB]
      rw [hB] at hi hp
      simp only [Blk.xs, Blk.es] at hi hp
      have hown : (blkAt (freezeL σ u.refs) id).own = true := by rw [hB']; rfl
      have hid := blkAt_own_lt hown
      have hb2 := r1.blk id hid
      have hal : alive σ id := by unfold alive; rw [hB]; rfl
      rw [hB'] at hb2
      rcases hb2 with ⟨_, rfl⟩ | ⟨b, base, hμ, hnI, hpl, hsz, h5, h6, h7⟩
      · simp at hi
      · cases hq with
        | aptr _ _ _ _ _ hh =>
          obtain ⟨b', base', es', h1, rfl⟩ := hh
          obtain ⟨e, e2⟩ := h1 hal
          rw [hμ] at e
          simp only [Option.some.injEq, Prod.mk.injEq] at e
          obtain ⟨rfl, rfl⟩ := e
          rw [hB] at e2
          simp only [Blk.es] at e2
          subst e2
          simp only [stS, hB, Blk.es, Blk.xs]
          obtain ⟨vs, hc1, hc2, hc3⟩ := cellsD_rep r3
          have hxi := getD_of_lt hi
          have hxm := getD_mem hi
          have hbound : base + i * es + off + n ≤ base + xs.length * es := by
            have : (i + 1) * es ≤ xs.length * es := Nat.mul_le_mul_right es hi
            rw [Nat.add_mul] at this
            omega
          have hgoal : ∀ y, y = u.toD σ → y.cells.length = n → y.flat → (∀ j c, vs[j]? = some c → RepD w I' c (y.cell j) ∧ c.oneCell' = true) → vs.length = n →
              ∃ w' I'', (Instr.storeAt t (.pointer (some ⟨b, base + i * es + off, none⟩)) v).run P w = .ok () w' ∧ Rel w' I'' μ ((freezeL σ u.refs).set id (.arr es (xs.set i ((xs.getD i default).putAt es off n y)))) ∧
                Keep σ.length w I μ σ w' I'' μ ((freezeL σ u.refs).set id (.arr es (xs.set i ((xs.getD i default).putAt es off n y)))) := by
            intro y _ hyn hyf hyc hvl
            obtain ⟨w', hr, ww, hw⟩ := store_run (P := P) (w := w) (b := b) (o := base + i * es + off) (vs := vs) hpl (by omega) (fun c hc => by
              obtain ⟨j, hj⟩ := List.getElem?_of_mem hc
              exact (hyc j c hj).2)
            have k := keep_upd r1 hown hμ ww (.arr es (xs.set i ((xs.getD i default).putAt es off n y))) (by rw [hB']; rfl) (by rw [hB']; rfl) (by rw [hB']; simp [Blk.xs])
            rw [r4] at k
            refine ⟨w', I', run_storeAt hs hc1 hvl hr, ?_, r2.trans k⟩
            refine r1.upd hown hμ ww _ (by rw [hB']; rfl) (by rw [hB']; rfl) (by rw [hB']; simp [Blk.xs]) (.inr ⟨b, base, hμ, hnI, ww.plain hpl, by rw [ww.bsize]; simpa using hsz, fun x hx => ?_, fun x hx => ?_, fun i' j x y' hx hy => ?_⟩)
            · rcases List.mem_or_eq_of_mem_set hx with hx | rfl
              · exact h5 x hx
              · exact putAt_cells hyn
            · rcases List.mem_or_eq_of_mem_set hx with hx | rfl
              · exact h6 x hx
              · exact putAt_flat (h6 _ hxm) hyf (h5 _ hxm) hyn
            · by_cases ei : i = i'
              · subst ei
                rw [List.getElem?_set_self hi] at hx
                simp only [Option.some.injEq] at hx
                subst hx
                have hjl : j < es := by
                  rw [← putAt_cells (x := xs.getD i default) (N := es) (off := off) hyn]
                  rcases Nat.lt_or_ge j ((xs.getD i default).putAt es off n y).cells.length with h' | h'
                  · exact h'
                  · rw [List.getElem?_eq_none h'] at hy; cases hy
                rw [← D.cell_of hy, putAt_cell hjl, hw]
                by_cases hin : off ≤ j ∧ j < off + n
                · have hlt : j - off < vs.length := by omega
                  rw [if_pos hin, if_pos ⟨by omega, by omega⟩]
                  refine ⟨_, by rw [← List.getElem?_eq_getElem hlt]; congr 1; omega, ?_⟩
                  exact ((hyc (j - off) _ (List.getElem?_eq_getElem hlt)).1).keep k.imm k.rsame
                · rw [if_neg hin, if_neg (by omega)]
                  have hjx : j < (xs.getD i default).cells.length := by rw [h5 _ hxm]; exact hjl
                  obtain ⟨v', hv', hr'⟩ := h7 i j _ _ hxi (List.getElem?_eq_getElem hjx)
                  rw [D.cell_of (List.getElem?_eq_getElem hjx)]
                  exact ⟨v', hv', hr'.keep k.imm k.rsame⟩
              · rw [List.getElem?_set_ne ei] at hx
                obtain ⟨v', hv', hr'⟩ := h7 i' j x y' hx hy
                refine ⟨v', ?_, hr'.keep k.imm k.rsame⟩
                rw [hw, if_neg]
                · exact hv'
                · have hjl : j < es := by
                    rw [← h5 x (List.mem_of_getElem? hx)]
                    rcases Nat.lt_or_ge j x.cells.length with h' | h'
                    · exact h'
                    · rw [List.getElem?_eq_none h'] at hy; cases hy
                  rw [hvl]
                  intro ⟨ha, hb'⟩
                  rcases Nat.lt_or_gt_of_ne ei with hlt | hgt
                  · have : (i + 1) * es ≤ i' * es := Nat.mul_le_mul_right es hlt
                    rw [Nat.add_mul] at this
                    omega
                  · have : (i' + 1) * es ≤ i * es := Nat.mul_le_mul_right es hgt
                    rw [Nat.add_mul] at this
                    omega
          exact hgoal _ rfl hnc r3.flat hc3 (hc2.trans hnc)
    | _ => rw [hB] at hb; simp [Blk.isOwnArr] at hb
  | _ => exact ho.elim

end Go.AM
