/-
  A contract shown in a small store holds in each greater one: what the function is not given it leaves.
-/
import Derived.Test.YtgebmgahfpnjaaaAm20
set_option linter.unnecessarySimpa false
set_option linter.unusedSectionVars false
set_option linter.unusedSimpArgs false
set_option linter.unusedVariables false
namespace Go.AM

def backId (ρ : List Nat) (N : Nat) (j : Nat) : Nat := if j < ρ.length then ρ.getD j 0 else N + (j - ρ.length)
mutual
def back (b : Nat → Nat) : AV → AV
  | .undef => .undef
  | .d x => .d x
  | .nils => .nils
  | .agg cs => .agg (backL b cs)
  | .ptr id off => .ptr (b id) off
  | .eptr es xs i off => .eptr es xs i off
  | .aptr id i off => .aptr (b id) i off
  | .osl id off len => .osl (b id) off len
  | .fn f caps => .fn f (backL b caps)
  | .tup vs => .tup (backL b vs)
  | .iff g v => .iff g (back b v)
  | .mapr id => .mapr (b id)
  | .anyb => .anyb
def backL (b : Nat → Nat) : List AV → List AV
  | [] => []
  | c :: r => back b c :: backL b r
end
theorem backL_map (b : Nat → Nat) : ∀ l : List AV, backL b l = l.map (back b)
  | [] => rfl
  | c :: r => by rw [backL, backL_map b r]; rfl
def backB (b : Nat → Nat) : Blk → Blk
  | .box n v => .box n (back b v)
  | .map ik f => .map ik fun k => (f k).map (back b)
  | B => B
/-- the caller's store behind the call -/
def backS (ρ : List Nat) (σ s : Sto) : Sto := (List.range (σ.length + (s.length - ρ.length))).map fun id =>
  match idxIn ρ id with
  | some j => backB (backId ρ σ.length) (blkAt s j)
  | none => if id < σ.length then blkAt σ id else backB (backId ρ σ.length) (blkAt s (ρ.length + (id - σ.length)))

variable {P : Program} {Gl : Globs} {w w' : World} {I I' : Im} {μ μ' : Pos} {σ s s' : Sto}

theorem backB_spec (b : Nat → Nat) (B : Blk) : (backB b B).isDead = B.isDead ∧ (backB b B).isArr = B.isArr ∧ (backB b B).es = B.es ∧ (backB b B).xs = B.xs ∧ (backB b B).own = B.own := by
  cases B <;> exact ⟨rfl, rfl, rfl, rfl, rfl⟩
theorem back_one (b : Nat → Nat) (v : AV) : (back b v).one = v.one := by
  cases v <;> rfl

theorem RepD.im (h : ∀ b, I.rd b → I'.rd b) {v : Value} {x : D} (hv : RepD w I v x) : RepD w I' v x := hv.keep h (fun _ _ => rfl)

theorem back_rep {b : Nat → Nat} (hI : ∀ x, I.rd x → I'.rd x)
    (hb : ∀ j < s.length, b j < s'.length ∧ (alive s' (b j) → alive s j ∧ μ' (b j) = μ j ∧ (blkAt s' (b j)).isArr = (blkAt s j).isArr ∧ (blkAt s' (b j)).es = (blkAt s j).es ∧ (blkAt s' (b j)).xs = (blkAt s j).xs))
    {v : Value} {u : AV} (hv : RepV w I μ s v u) : RepV w I' μ' s' v (back b u) := by
  have lst : ∀ {vs : List Value} {cs : List AV}, (∀ (i : Nat) (v : Value) (x : AV), vs[i]? = some v → cs[i]? = some x → RepV w I' μ' s' v (back b x)) → ∀ (i : Nat) (v : Value) (x : AV), vs[i]? = some v → (backL b cs)[i]? = some x → RepV w I' μ' s' v x := fun {vs cs} h i v x hv hx => by
    rw [backL_map, List.getElem?_map] at hx
    cases hc : cs[i]? with
    | none => rw [hc] at hx; cases hx
    | some c =>
      rw [hc] at hx
      simp only [Option.map_some, Option.some.injEq] at hx
      subst hx
      exact h i v c hv hc
  induction hv with
  | undef v => exact .undef v
  | d v x h => exact .d v x (h.im hI)
  | nils => exact .nils
  | agg vs cs hl hone h ih =>
    refine .agg vs _ (by rw [backL_map]; simpa using hl) (fun c hc => ?_) (lst ih)
    rw [backL_map] at hc
    obtain ⟨c', hc', rfl⟩ := List.mem_map.1 hc
    rw [back_one]; exact hone c' hc'
  | ptr v id off hid h =>
    obtain ⟨q1, q2⟩ := hb id hid
    obtain ⟨b', base, h1, h2⟩ := h
    exact .ptr v _ off q1 ⟨b', base, fun ha => by rw [(q2 ha).2.1]; exact h1 (q2 ha).1, h2⟩
  | eptr b' o es xs i off h => exact .eptr b' o es xs i off (h.keep hI (fun _ _ => rfl))
  | aptr v id i off hid h =>
    obtain ⟨q1, q2⟩ := hb id hid
    obtain ⟨b', base, es, h1, h2⟩ := h
    exact .aptr v _ i off q1 ⟨b', base, es, fun ha => by obtain ⟨a1, a2, a3, a4, a5⟩ := q2 ha; rw [a2, a4]; exact h1 a1, h2⟩
  | osl v id off len hid h =>
    obtain ⟨q1, q2⟩ := hb id hid
    refine .osl v _ off len q1 ?_
    rcases h with h | ⟨b', base, es, cap, h1, h2, h3⟩
    · exact .inl h
    · refine .inr ⟨b', base, es, cap, fun ha => ?_, h2, h3⟩
      obtain ⟨a1, a2, a3, a4, a5⟩ := q2 ha
      rw [a2, a3, a4, a5]; exact h1 a1
  | fn f vs caps hl h ih => exact .fn f vs _ (by rw [backL_map]; simpa using hl) (lst ih)
  | tup vs cs hl h ih => exact .tup vs _ (by rw [backL_map]; simpa using hl) (lst ih)
  | iff g v x h1 h2 ih => exact .iff g v _ ih h2
  | mapr v id hid h =>
    obtain ⟨q1, q2⟩ := hb id hid
    obtain ⟨b', h1, h2⟩ := h
    exact .mapr v _ q1 ⟨b', fun ha => by rw [(q2 ha).2.1]; exact h1 (q2 ha).1, h2⟩
  | anyb c => exact .anyb c

theorem back_cells (b : Nat → Nat) (v : AV) (j : Nat) (hj : j < v.ncells) : (back b v).ncells = v.ncells ∧ (back b v).cellAt j = back b (v.cellAt j) := by
  cases v with
  | agg cs =>
    simp only [back, AV.ncells, backL_map] at hj ⊢
    refine ⟨by simp, ?_⟩
    simp only [AV.cellAt, List.getD_eq_getElem?_getD, List.getElem?_map, List.getElem?_eq_getElem hj, Option.map_some, Option.getD_some]
  | _ => exact ⟨rfl, rfl⟩

theorem backS_len (ρ : List Nat) (σ s : Sto) : (backS ρ σ s).length = σ.length + (s.length - ρ.length) := by simp [backS]
theorem blkAt_backS {ρ : List Nat} {σ s : Sto} {id : Nat} (h : id < σ.length + (s.length - ρ.length)) : blkAt (backS ρ σ s) id = (match idxIn ρ id with
    | some j => backB (backId ρ σ.length) (blkAt s j)
    | none => if id < σ.length then blkAt σ id else backB (backId ρ σ.length) (blkAt s (ρ.length + (id - σ.length)))) := by
  conv => lhs; unfold blkAt backS
  rw [List.getD_eq_getElem?_getD, List.getElem?_map, List.getElem?_range h]
  rfl
theorem idxIn_of {ρ : List Nat} (hnd : ρ.Nodup) {j : Nat} (hj : j < ρ.length) : idxIn ρ (ρ.getD j 0) = some j := by
  have e : ρ.getD j 0 = ρ[j] := by simp [hj]
  rw [e]
  unfold idxIn
  rw [List.findIdx?_eq_some_iff_getElem]
  refine ⟨hj, by simp, fun k hk => ?_⟩
  simp only [beq_iff_eq]
  intro he
  have := (List.getElem_inj hnd).1 he
  omega
theorem idxIn_none {ρ : List Nat} {id : Nat} (h : idxIn ρ id = none) : id ∉ ρ := by
  unfold idxIn at h
  rw [List.findIdx?_eq_none_iff] at h
  intro hm
  have := h id hm
  simp at this

mutual
theorem back_id : ∀ u : AV, back (fun j => j) u = u
  | .undef | .d _ | .nils | .ptr .. | .eptr .. | .aptr .. | .osl .. | .mapr _ | .anyb => by simp [back]
  | .agg cs => by rw [back, backL_id cs]
  | .fn f caps => by rw [back, backL_id caps]
  | .tup vs => by rw [back, backL_id vs]
  | .iff g v => by rw [back, back_id v]
theorem backL_id : ∀ l : List AV, backL (fun j => j) l = l
  | [] => by simp [backL]
  | c :: r => by rw [backL, back_id c, backL_id r]
end

theorem RepV.im (h : ∀ b, I.rd b → I'.rd b) {v : Value} {u : AV} (hv : RepV w I μ s v u) : RepV w I' μ s v u := by
  have := back_rep (I' := I') (μ' := μ) (s' := s) (b := fun j => j) h (fun j hj => ⟨hj, fun ha => ⟨ha, rfl, rfl, rfl, rfl⟩⟩) hv
  rwa [back_id] at this

theorem plain_lt {b : Nat} (h : plainBlk w b) : b < w.heap.size := by
  obtain ⟨c, t, hc⟩ := h
  rcases Nat.lt_or_ge b w.heap.size with h' | h'
  · exact h'
  · rw [Array.getElem?_eq_none h'] at hc; cases hc

theorem own_pos (hR : Rel w I μ σ) {id : Nat} (ho : (blkAt σ id).own = true) {b o : Nat} (hm : μ id = some (b, o)) : b < w.heap.size ∧ ¬ I.fr b := by
  have hb := hR.blk id (blkAt_own_lt ho)
  cases hB : blkAt σ id with
  | box k v =>
    rw [hB] at hb
    obtain ⟨b', h1, h2, h3, _⟩ := hb
    rw [hm] at h1; cases h1
    exact ⟨plain_lt h3, h2⟩
  | arr es xs =>
    rw [hB] at hb
    rcases hb with ⟨h1, _⟩ | ⟨b', base, h1, h2, h3, _⟩
    · rw [hm] at h1; cases h1
    · rw [hm] at h1; cases h1
      exact ⟨plain_lt h3, h2⟩
  | map ik f =>
    rw [hB] at hb
    obtain ⟨b', es, clock, h1, h2, h3, _⟩ := hb
    rw [hm] at h1; cases h1
    refine ⟨?_, h2⟩
    rcases Nat.lt_or_ge b w.heap.size with h' | h'
    · exact h'
    · rw [Array.getElem?_eq_none h'] at h3; cases h3
  | _ => rw [hB] at ho; simp [Blk.own] at ho

theorem BlkRep.im {id id' : Nat} {B : Blk} {b : Nat → Nat} (hI : ∀ x, I.rd x → I'.rd x) (hf : B.own = true → ∀ x o, μ id = some (x, o) → ¬ I.fr x → ¬ I'.fr x)
    (hμ : μ' id' = μ id) (hv : ∀ {v : Value} {u : AV}, RepV w I μ s v u → RepV w I' μ' s' v (back b u)) (hb : BlkRep w I μ s id B) : BlkRep w I' μ' s' id' (backB b B) := by
  cases B with
  | dead => trivial
  | box k v =>
    obtain ⟨x, h1, h2, h3, h4, h5, h6⟩ := hb
    refine ⟨x, hμ.trans h1, hf rfl x 0 h1 h2, h3, h4, ?_, fun q hq => ?_⟩
    · rcases Nat.eq_zero_or_pos v.ncells with hz | hp
      · cases v <;> simp_all [AV.ncells, back, backL_map]
      · rw [(back_cells b v 0 hp).1]; exact h5
    · obtain ⟨a0, u, a1, a2⟩ := h6 q hq
      rw [(back_cells b v q (by omega)).2, back_one]
      exact ⟨a0, u, a1, hv a2⟩
  | arr es xs =>
    rcases hb with hb | ⟨x, base, h1, h2, h3, h4, h5, h6, h7⟩
    · exact .inl ⟨hμ.trans hb.1, hb.2⟩
    · exact .inr ⟨x, base, hμ.trans h1, hf rfl x base h1 h2, h3, h4, h5, h6, fun i q x y hx hy => by obtain ⟨v, a1, a2⟩ := h7 i q x y hx hy; exact ⟨v, a1, a2.im hI⟩⟩
  | frz es xs =>
    rcases hb with hb | ⟨x, base, h1, h2⟩
    · exact .inl ⟨hμ.trans hb.1, hb.2⟩
    · exact .inr ⟨x, base, hμ.trans h1, SlAt.keep (w := w) hI (fun _ _ => rfl) h2⟩
  | map ik f =>
    obtain ⟨x, es, clock, h1, h2, h3, h4⟩ := hb
    exact ⟨x, es, clock, hμ.trans h1, hf rfl x 0 h1 h2, h3, h4.imp fun v u hr => hv hr⟩

/-- THE FRAME. -/
theorem ACalls.under {f : FuncId} {args : List AV} {R : AV → Sto → Prop} (ρ : List Nat) (hnd : ρ.Nodup) (hlt : ∀ id ∈ ρ, id < σ.length) (h : ACalls P Gl f (args.map (renV ρ σ)) (renS ρ σ) R) :
    ACalls P Gl f args σ (fun r s => ∃ r0 s0, R r0 s0 ∧ r = back (backId ρ σ.length) r0 ∧ s = backS ρ σ s0) := by
  intro w I μ vals hR hG hl hv
  -- the blocks that are given
  let given : Nat → Prop := fun b => ∃ id ∈ ρ, (blkAt σ id).own = true ∧ ∃ o, μ id = some (b, o)
  let J : Im := { rd := I.rd, fr := fun b => b < w.heap.size ∧ ¬ given b, sub := fun b hb => ⟨hR.imm b (I.sub b hb), fun ⟨id, _, ho, o, hm⟩ => (own_pos hR ho hm).2 (I.sub b hb)⟩ }
  have frJ : ∀ b, I.fr b → J.fr b := fun b hb => ⟨hR.imm b hb, fun ⟨id, _, ho, o, hm⟩ => (own_pos hR ho hm).2 hb⟩
  obtain ⟨r1, r2⟩ := ren_ok (m := 0) hR (ρ := ρ) rfl hnd
  have hlen0 : (renS ρ σ).length = ρ.length := by simp [renS]
  have own0 : ∀ j, (blkAt (renS ρ σ) j).own = true → ∃ id, ρ[j]? = some id ∧ (blkAt σ id).own = true := fun j hj => by
    have hl := blkAt_own_lt hj
    rw [hlen0] at hl
    have hs : ρ[j]? = some ρ[j] := List.getElem?_eq_getElem hl
    refine ⟨ρ[j], hs, ?_⟩
    rw [blkAt_renS hs] at hj
    cases hB : blkAt σ ρ[j] with
    | box k v => rfl
    | arr es xs => rfl
    | map ik f => rfl
    | _ => rw [hB] at hj; simp [renB, Blk.own] at hj
  have posR : ∀ j id, ρ[j]? = some id → renPos ρ μ j = μ id := fun j id hj => by unfold renPos; rw [hj]
  have notJ : ∀ j, (blkAt (renS ρ σ) j).own = true → ∀ b o, renPos ρ μ j = some (b, o) → ¬ J.fr b := fun j hj b o hm hf => by
    obtain ⟨id, h1, h2⟩ := own0 j hj
    rw [posR j id h1] at hm
    exact hf.2 ⟨id, List.mem_of_getElem? h1, h2, o, hm⟩
  have backBid : ∀ B : Blk, backB (fun j => j) B = B := fun B => by
    cases B with
    | map ik f =>
      simp only [backB]
      congr 1
      funext k
      cases f k <;> simp [back_id]
    | _ => simp [backB, back_id]
  have hRJ : Rel w J (renPos ρ μ) (renS ρ σ) := by
    refine ⟨fun b hb => hb.1, fun j hj => ?_, r1.apart⟩
    have := BlkRep.im (w := w) (I := I) (I' := J) (s := renS ρ σ) (μ' := renPos ρ μ) (s' := renS ρ σ) (id' := j) (b := fun j => j) (fun _ h => h) (fun ho b o hm _ => notJ j ho b o hm) rfl (fun {v u} hv => by rw [back_id]; exact RepV.im (I := I) (I' := J) (fun _ h => h) hv) (r1.blk j hj)
    rwa [backBid] at this
  have hGJ : GlOk Gl w J := fun p hp => SlAt.keep (w := w) (I := I) (I' := J) (fun _ h => h) (fun _ _ => rfl) (hG p hp)
  refine (h w J (renPos ρ μ) vals hRJ hGJ (by simp [hl]) fun i v u hv' hu => ?_).mono fun v w' ⟨r0, s0, I1, μ1, q1, q2, q3, q4⟩ => ?_
  · rw [List.getElem?_map] at hu
    cases ha : args[i]? with
    | none => rw [ha] at hu; cases hu
    | some a =>
      rw [ha] at hu
      simp only [Option.map_some, Option.some.injEq] at hu
      subst hu
      exact RepV.im (I := I) (I' := J) (fun _ h => h) (renV_rep hR (hv i v a hv' ha))
  · have hge : ρ.length ≤ s0.length := by have := q2.len; omega
    let I2 : Im := { rd := I1.rd, fr := fun b => I.fr b ∨ I1.rd b, sub := fun b hb => .inr hb }
    let N := σ.length
    let s2 := backS ρ σ s0
    let μ2 : Pos := fun id => match idxIn ρ id with | some j => μ1 j | none => if id < N then μ id else μ1 (ρ.length + (id - N))
    have s2len : s2.length = N + (s0.length - ρ.length) := backS_len ρ σ s0
    have hρ : ∀ j, j < ρ.length → ρ.getD j 0 ∈ ρ := fun j hj => by simp [hj]
    have hnone : ∀ id, N ≤ id → idxIn ρ id = none := fun id hid => by
      cases hx : idxIn ρ id with
      | none => rfl
      | some j => have := hlt id (List.mem_of_getElem? (idxIn_spec hx)); omega
    have factB : ∀ j, j < s0.length → backId ρ N j < s2.length ∧ blkAt s2 (backId ρ N j) = backB (backId ρ N) (blkAt s0 j) ∧ μ2 (backId ρ N j) = μ1 j := fun j hj => by
      by_cases hj2 : j < ρ.length
      · have e : backId ρ N j = ρ.getD j 0 := by unfold backId; rw [if_pos hj2]
        have hlt' : ρ.getD j 0 < N := hlt _ (hρ j hj2)
        rw [e]
        refine ⟨by omega, ?_, ?_⟩
        · show blkAt (backS ρ σ s0) _ = _
          rw [blkAt_backS (by omega), idxIn_of hnd hj2]
        · simp only [μ2]; rw [idxIn_of hnd hj2]
      · have e : backId ρ N j = N + (j - ρ.length) := by unfold backId; rw [if_neg hj2]
        rw [e]
        refine ⟨by omega, ?_, ?_⟩
        · show blkAt (backS ρ σ s0) _ = _
          rw [blkAt_backS (by omega), hnone _ (by omega)]
          simp only
          rw [if_neg (by omega)]
          congr 2; omega
        · simp only [μ2]; rw [hnone _ (by omega)]
          simp only
          rw [if_neg (by omega)]
          congr 1; omega
    have factC : ∀ id, id < s2.length → (∃ j, j < s0.length ∧ id = backId ρ N j) ∨ (id < N ∧ id ∉ ρ ∧ blkAt s2 id = blkAt σ id ∧ μ2 id = μ id) := fun id hid => by
      cases hx : idxIn ρ id with
      | some j =>
        left
        have hs := idxIn_spec hx
        have hj : j < ρ.length := by
          rcases Nat.lt_or_ge j ρ.length with h' | h'
          · exact h'
          · rw [List.getElem?_eq_none h'] at hs; cases hs
        refine ⟨j, by omega, ?_⟩
        unfold backId; rw [if_pos hj, List.getD_eq_getElem?_getD, hs]; rfl
      | none =>
        by_cases hn : id < N
        · right
          refine ⟨hn, idxIn_none hx, ?_, ?_⟩
          · show blkAt (backS ρ σ s0) _ = _
            rw [blkAt_backS (by omega), hx]
            simp only
            rw [if_pos hn]
          · simp only [μ2]; rw [hx]; simp only; rw [if_pos hn]
        · left
          refine ⟨ρ.length + (id - N), by omega, ?_⟩
          unfold backId; rw [if_neg (by omega)]; omega
    have aliveB : ∀ j, j < s0.length → (alive s2 (backId ρ N j) → alive s0 j) := fun j hj ha => by
      unfold alive at *
      rw [(factB j hj).2.1, (backB_spec _ _).1] at ha
      exact ha
    have repB : ∀ {v : Value} {u : AV}, RepV w' I1 μ1 s0 v u → RepV w' I2 μ2 s2 v (back (backId ρ N) u) := fun {v u} hv =>
      back_rep (I := I1) (I' := I2) (fun _ h => h) (fun j hj => by
        obtain ⟨b1, b2, b3⟩ := factB j hj
        obtain ⟨_, c2, c3, c4, _⟩ := backB_spec (backId ρ N) (blkAt s0 j)
        exact ⟨b1, fun ha => ⟨aliveB j hj ha, b3, by rw [b2, c2], by rw [b2, c3], by rw [b2, c4]⟩⟩) hv
    have kp : Keep N w I μ σ w' I2 μ2 s2 := by
      refine ⟨q2.os, q2.tape, q2.output, q2.size, q2.imm, fun b hb => .inl hb, fun b hb => ?_, fun b hb => q2.same b (frJ b hb), q2.bsize, by omega, fun id hid ha => ?_⟩
      · rcases q2.rdn b hb with h1 | h1
        · exact .inl h1
        · exact .inr fun hf => h1 (frJ b hf)
      · rcases factC id (by omega) with ⟨j, hj, rfl⟩ | ⟨_, _, c3, c4⟩
        · obtain ⟨b1, b2, b3⟩ := factB j hj
          obtain ⟨_, c2, c3, c4, _⟩ := backB_spec (backId ρ N) (blkAt s0 j)
          have hj2 : j < ρ.length := by
            rcases Nat.lt_or_ge j ρ.length with h' | h'
            · exact h'
            · unfold backId at hid; rw [if_neg (by omega)] at hid; omega
          have hs : ρ[j]? = some (backId ρ N j) := by
            unfold backId; rw [if_pos hj2]; simp [hj2]
          obtain ⟨o1, o2, o3, o4, o5⟩ := q2.old j (by omega) (aliveB j hj ha)
          have hb0 := blkAt_renS (σ := σ) hs
          obtain ⟨d1, d2, d3⟩ := renB_arr ρ σ (blkAt σ (backId ρ N j))
          refine ⟨?_, ?_, ?_, ?_, ?_⟩
          · unfold alive at o1 ⊢; rw [hb0] at o1; exact renB_alive o1
          · rw [b3, o2]; exact posR j _ hs
          · rw [b2, c2, o3, hb0, d1]
          · rw [b2, c3, o4, hb0, d2]
          · rw [b2, c4]; rw [hb0, d3] at o5; exact o5
        · unfold alive at ha ⊢
          rw [c3] at ha
          exact ⟨ha, c4, by rw [c3], by rw [c3], by rw [c3]; exact Nat.le_refl _⟩
    have ownC : ∀ id, id ∉ ρ → (blkAt σ id).own = true → ∀ b o, μ id = some (b, o) → J.fr b := fun id hid ho b o hm =>
      ⟨(own_pos hR ho hm).1, fun ⟨id', h1, h2, o', h3⟩ => hR.apart id id' b b o o' (fun e => hid (e ▸ h1)) ho h2 hm h3 rfl⟩
    refine ⟨back (backId ρ N) r0, s2, I2, μ2, ?_, kp, repB q3, r0, s0, q4, rfl, rfl⟩
    refine ⟨fun b hb => ?_, fun id hid => ?_, fun i j b b' o o' hij hi hj hμi hμj => ?_⟩
    · rcases hb with hb | hb
      · exact Nat.lt_of_lt_of_le (hR.imm b hb) q2.size
      · exact q1.imm b (I1.sub b hb)
    · rcases factC id hid with ⟨j, hj, rfl⟩ | ⟨c1, c2, c3, c4⟩
      · obtain ⟨b1, b2, b3⟩ := factB j hj
        rw [b2]
        refine BlkRep.im (I := I1) (I' := I2) (fun _ h => h) (fun ho b o hm hn hf => ?_) b3 repB (q1.blk j hj)
        rcases hf with hf | hf
        · exact hn (q2.fr b (frJ b hf))
        · exact hn (I1.sub b hf)
      · rw [c3]
        refine BlkRep.keep kp c4 (fun ho b o hm => ?_) (hR.blk id c1)
        have hJ := ownC id c2 ho b o hm
        refine ⟨q2.same b hJ, fun hn hf => ?_⟩
        rcases hf with hf | hf
        · exact hn hf
        · rcases q2.rdn b hf with h1 | h1
          · exact hn (I.sub b h1)
          · exact h1 hJ
    · rcases factC i (blkAt_own_lt hi) with ⟨j1, hj1, rfl⟩ | ⟨c1, c2, c3, c4⟩ <;> rcases factC j (blkAt_own_lt hj) with ⟨j2, hj2, rfl⟩ | ⟨e1, e2, e3, e4⟩
      · rw [(factB j1 hj1).2.1, (backB_spec _ _).2.2.2.2] at hi
        rw [(factB j2 hj2).2.1, (backB_spec _ _).2.2.2.2] at hj
        rw [(factB j1 hj1).2.2] at hμi
        rw [(factB j2 hj2).2.2] at hμj
        exact q1.apart j1 j2 b b' o o' (fun e => hij (by rw [e])) hi hj hμi hμj
      · rw [(factB j1 hj1).2.1, (backB_spec _ _).2.2.2.2] at hi
        rw [(factB j1 hj1).2.2] at hμi
        rw [e3] at hj
        rw [e4] at hμj
        intro e
        subst e
        exact (own_pos q1 hi hμi).2 (q2.fr _ (ownC j e2 hj _ _ hμj))
      · rw [(factB j2 hj2).2.1, (backB_spec _ _).2.2.2.2] at hj
        rw [(factB j2 hj2).2.2] at hμj
        rw [c3] at hi
        rw [c4] at hμi
        intro e
        subst e
        exact (own_pos q1 hj hμj).2 (q2.fr _ (ownC i c2 hi _ _ hμi))
      · rw [c3] at hi
        rw [c4] at hμi
        rw [e3] at hj
        rw [e4] at hμj
        exact hR.apart i j b b' o o' hij hi hj hμi hμj

theorem backS_nil (σ : Sto) : backS [] σ [] = σ := by
  unfold backS
  simp only [List.length_nil, Nat.sub_zero, Nat.add_zero]
  apply List.ext_getElem?
  intro i
  rw [List.getElem?_map]
  rcases Nat.lt_or_ge i σ.length with h | h
  · rw [List.getElem?_range h]
    simp only [Option.map_some, idxIn, List.findIdx?_nil, if_pos h]
    unfold blkAt
    simp [h]
  · rw [List.getElem?_eq_none (by simpa using h), List.getElem?_eq_none h]; rfl

/-- a function of data -/
theorem ACalls.pure {f : FuncId} {args : List D} {y : D} (h : ACalls P Gl f (args.map AV.d) [] (fun r s => r = .d y ∧ s = [])) (s : Sto) : ACalls P Gl f (args.map AV.d) s (fun r s' => r = .d y ∧ s' = s) := by
  have e : (args.map AV.d).map (renV [] s) = args.map AV.d := by simp [renV, ren0]
  have h1 := ACalls.under (P := P) (Gl := Gl) (f := f) (args := args.map AV.d) (R := fun r s => r = .d y ∧ s = []) (σ := s) [] List.nodup_nil (by simp) (by rw [e]; exact h)
  refine h1.mono fun r s' h2 => ?_
  obtain ⟨r0, s0, ⟨h1, h2⟩, h3, h4⟩ := h2
  subst h1; subst h2; subst h3; subst h4
  exact ⟨by simp [back], backS_nil s⟩
end Go.AM
