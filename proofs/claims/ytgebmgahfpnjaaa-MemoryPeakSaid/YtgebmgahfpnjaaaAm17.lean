/-
  Functions: a contract out of the body. What is known weakened: renamings of the store, arrays frozen.
-/
import Derived.Test.YtgebmgahfpnjaaaAm16
set_option linter.unnecessarySimpa false
set_option linter.unusedSectionVars false
set_option linter.unusedSimpArgs false
set_option linter.unusedVariables false
namespace Go.AM

variable {P : Program} {Gl : Globs} {w : World} {I : Im} {μ : Pos} {σ : Sto} {n m : Nat} {env : Env} {a : Act}

def argEnv : List AV → Nat → Env
  | [], _ => []
  | v :: r, k => (k, v) :: argEnv r (k + 1)

theorem getE_argEnv : ∀ (args : List AV) (k t : Nat), getE (argEnv args k) t = if k ≤ t then args.getD (t - k) .undef else .undef
  | [], k, t => by simp [argEnv, getE]
  | v :: r, k, t => by
    simp only [argEnv, getE]
    by_cases e : k = t
    · subst e; simp
    · rw [if_neg e, getE_argEnv r (k + 1) t]
      by_cases h : k ≤ t
      · rw [if_pos h, if_pos (by omega)]
        have : t - k = (t - (k + 1)) + 1 := by omega
        rw [this]; rfl
      · rw [if_neg h, if_neg (by omega)]

def resOk1 (P : Program) (env : Env) (σ : Sto) : ResultVar → Prop
  | .tmp t => (getE env t).vg = true
  | .cell t ty => match tkind P ty, tsz P ty with | some g, some k => ldOk σ g k (getE env t) | _, _ => False
def resV1 (P : Program) (env : Env) (σ : Sto) : ResultVar → AV
  | .tmp t => (getE env t).un
  | .cell t ty => match tkind P ty, tsz P ty with | some g, some k => ldV σ g k (getE env t) | _, _ => .undef
def resOk (P : Program) (env : Env) (σ : Sto) : List ResultVar → Prop
  | [] => True
  | r :: rs => resOk1 P env σ r ∧ resOk P env σ rs
def resV (P : Program) (env : Env) (σ : Sto) : List ResultVar → AV
  | [r] => resV1 P env σ r
  | rs => .tup (rs.map (resV1 P env σ))

def WeakR (m : Nat) (r : AV) (s : Sto) (r' : AV) (s' : Sto) : Prop :=
  ∀ w I μ v, Rel w I μ s → RepV w I μ s v r → m ≤ s.length → ∃ I' μ', Rel w I' μ' s' ∧ RepV w I' μ' s' v r' ∧ Keep m w I μ s w I' μ' s'
theorem WeakR.refl (m : Nat) (r : AV) (s : Sto) : WeakR m r s r s := fun _ I μ _ h1 h2 h3 => ⟨I, μ, h1, h2, Keep.refl _ _ _ _ h3⟩

/-- the end of a function: what it hands back, weakened as the contract wants it -/
def retK (P : Program) (m : Nat) (rs : List ResultVar) (R : AV → Sto → Prop) : AExit → Env → Sto → Prop
  | .exit _, _, _ => False
  | _, env, σ => resOk P env σ rs ∧ ∃ r' s', WeakR m (resV P env σ rs) σ r' s' ∧ R r' s'

def resS (tmps : Array Value) : ResultVar → Sem Value
  | .tmp t => pure (tmps.getD t Go.undef)
  | .cell t ty => do loadVar ty (← asAddr (tmps.getD t Go.undef))

theorem res1_run (hR : Rel w I μ σ) (hE : RelEnv n w I μ σ env a) {r : ResultVar} (ho : resOk1 P env σ r) :
    ∃ v, (resS a.tmps r).run P w = .ok v w ∧ RepV w I μ σ v (resV1 P env σ r) := by
  cases r with
  | tmp t => exact ⟨_, rfl, un_rep (hE.slot t) ho⟩
  | cell t ty =>
    simp only [resOk1] at ho
    split at ho
    · rename_i g k h1 h2
      obtain ⟨u, h3, h4⟩ := load_goes (P := P) hR h1 h2 (hE.slot t) ho
      refine ⟨u, ?_, by simp only [resV1, h1, h2]; exact h4⟩
      have hp : ∃ ad, a.tmps.getD t Go.undef = .pointer (some ad) := by
        have hv := hE.slot t
        generalize getE env t = p at *
        generalize a.tmps.getD t Go.undef = q at *
        cases p <;> simp only [ldOk] at ho <;> cases hv
        · rename_i h; obtain ⟨_, _, _, e⟩ := h; exact ⟨_, e⟩
        · exact ⟨_, rfl⟩
        · rename_i h; obtain ⟨_, _, _, _, e⟩ := h; exact ⟨_, e⟩
      obtain ⟨ad, e⟩ := hp
      rw [e] at h3
      simp only [resS, e, asAddr, Sem.run_bind, Sem.run_pure, Result.andThen_ok]
      simpa [Instr.loadAt, Instr.sureAddr] using h3
    · exact ho.elim

theorem res_list (hR : Rel w I μ σ) (hE : RelEnv n w I μ σ env a) : ∀ (rs : List ResultVar), resOk P env σ rs →
    ∃ vs : List Value, (rs.mapM (resS a.tmps)).run P w = .ok vs w ∧ vs.length = rs.length ∧
      ∀ (i : Nat) (v : Value) (u : AV), vs[i]? = some v → (rs.map (resV1 P env σ))[i]? = some u → RepV w I μ σ v u
  | [], _ => ⟨[], rfl, rfl, fun i v u hv => by simp at hv⟩
  | r :: rs, ho => by
    obtain ⟨v, h1, h2⟩ := res1_run (P := P) hR hE ho.1
    obtain ⟨vs, h3, h4, h5⟩ := res_list hR hE rs ho.2
    refine ⟨v :: vs, ?_, by simp [h4], fun i v' u hv hu => ?_⟩
    · rw [List.mapM_cons]
      simp only [Sem.run_bind]
      rw [h1]
      simp only [Result.andThen_ok]
      rw [h3]
      simp
    · cases i with
      | zero => simp at hv hu; subst hv; subst hu; exact h2
      | succ i => exact h5 i v' u (by simpa using hv) (by simpa using hu)

theorem results_run (hR : Rel w I μ σ) (hE : RelEnv n w I μ σ env a) {fn : Func} (ho : resOk P env σ fn.results.toList) : ∃ v, (results fn a.tmps).run P w = .ok v w ∧ RepV w I μ σ v (resV P env σ fn.results.toList) := by
  obtain ⟨vs, h1, h2, h3⟩ := res_list (P := P) hR hE fn.results.toList ho
  have hrun : (fn.results.mapM (resS a.tmps)).run P w = .ok vs.toArray w := by
    rw [Array.mapM_eq_mapM_toList]
    simp only [Sem.run_map, h1, Result.andThen_ok]
  have e : (results fn a.tmps).run P w = .ok (if h : vs.toArray.size = 1 then vs.toArray[0] else .tuple vs.toArray) w := by
    have e0 : results fn a.tmps = (do let vs ← fn.results.mapM (resS a.tmps); pure (if h : vs.size = 1 then vs[0] else .tuple vs)) := by
      unfold results
      congr 1
    rw [e0]
    simp only [Sem.run_bind, hrun, Result.andThen_ok, Sem.run_pure]
  refine ⟨_, e, ?_⟩
  cases hl : fn.results.toList with
  | nil =>
    rw [hl] at h2 h3
    have : vs = [] := List.eq_nil_of_length_eq_zero h2
    subst this
    exact .tup [] [] rfl (fun i v u hv => by simp at hv)
  | cons r rs =>
    rw [hl] at h2 h3
    cases rs with
    | nil =>
      cases vs with
      | nil => simp at h2
      | cons v vs =>
        simp at h2
        subst h2
        exact h3 0 v _ rfl rfl
    | cons r2 rs =>
      rw [dif_neg (by simp [h2])]
      exact .tup vs _ (by simp [h2]) h3

theorem argEnv_rel {vals : List Value} {args : List AV} (hl : vals.length = args.length) (hr : ∀ (i : Nat) (v : Value) (u : AV), vals[i]? = some v → args[i]? = some u → RepV w I μ σ v u) (hn : args.length ≤ n) :
    RelEnv n w I μ σ (argEnv args 0) { tmps := vals.toArray ++ Array.replicate (n - vals.toArray.size) Go.undef, defers := [] } := by
  refine ⟨rfl, by simp; omega, fun t => ?_⟩
  rw [getE_argEnv]
  simp only [Nat.zero_le, if_true, Nat.sub_zero]
  rcases Nat.lt_or_ge t args.length with ht | ht
  · have h1 : vals[t]? = some vals[t] := List.getElem?_eq_getElem (by omega)
    have h2 : args[t]? = some args[t] := List.getElem?_eq_getElem ht
    have e : (vals.toArray ++ Array.replicate (n - vals.toArray.size) Go.undef).getD t Go.undef = vals[t] := by
      rw [Array.getD_eq_getD_getElem?, Array.getElem?_append_left (by simp; omega)]
      simp [h1]
    rw [e, List.getD_eq_getElem?_getD, h2]
    exact hr t _ _ h1 h2
  · rw [List.getD_eq_getElem?_getD, List.getElem?_eq_none ht]
    exact .undef _

/-- A CONTRACT OUT OF THE BODY. -/
theorem acalls_of {f : FuncId} {fn : Func} {c : Code} {args : List AV} {R : AV → Sto → Prop} (hf : P.funcs[f]? = some fn) (hname : (fn.name == "runtime.NumGoroutine") = false) (hb : fn.body = some c) (hn : args.length ≤ fn.ntmps)
    (h : AWp P Gl fn.ntmps σ.length c (argEnv args 0) σ (retK P σ.length fn.results.toList R)) : ACalls P Gl f args σ R := by
  intro w I μ vals hR hG hl hr
  have e : (callFunc f vals.toArray).run P w = .ok (.enter f vals.toArray) w := by
    have hne : ¬ fn.name = "runtime.NumGoroutine" := by simpa using hname
    simp [callFunc, hf, hb, hne]
  rw [e]
  refine ⟨rfl, calls_of_wp hf hb ?_⟩
  refine Code.wp_mono (fun x a' w' q => ?_) (h w I μ _ hR hG (argEnv_rel hl hr hn) (Nat.le_refl _))
  obtain ⟨ae, env', σ', I', μ', q1, q2, q3, q4, q5, q6⟩ := q
  have fin : (resOk P env' σ' fn.results.toList ∧ ∃ r' s', WeakR σ.length (resV P env' σ' fn.results.toList) σ' r' s' ∧ R r' s') → ∃ v, (results fn a'.tmps).run P w' = .ok v w' ∧ Post w I μ σ R v w' := by
    rintro ⟨h1, r', s', h2, h3⟩
    obtain ⟨v, h4, h5⟩ := results_run (P := P) q2 q4 h1
    obtain ⟨I2, μ2, h6, h7, h8⟩ := h2 w' I' μ' v q2 h5 q5.len
    exact ⟨v, h4, r', s', I2, μ2, h6, q5.trans h8, h7, h3⟩
  cases x <;> cases ae <;> simp only [eRel] at q1
  · obtain ⟨v, h1, h2⟩ := fin q6; exact ⟨q4.defers, v, h1, v, rfl, h2⟩
  · exact q6.elim
  · obtain ⟨v, h1, h2⟩ := fin q6; exact ⟨q4.defers, v, h1, v, rfl, h2⟩

/-! ### renamings -/
def idxIn (ρ : List Nat) (id : Nat) : Option Nat := ρ.findIdx? (· == id)
/-- a reference renamed; an array that is frozen read as data -/
def ren0 (ρ : List Nat) (σ : Sto) : AV → AV
  | .d x => .d x
  | .nils => .nils
  | .eptr es xs i off => .eptr es xs i off
  | .ptr id off => match idxIn ρ id with | some j => .ptr j off | none => .undef
  | .aptr id i off => match idxIn ρ id with | some j => .aptr j i off | none => .undef
  | .osl id off len => match idxIn ρ id with
    | some j => .osl j off len
    | none => if (blkAt σ id).isArr = true ∧ (blkAt σ id).own = false then .d (.sl (((blkAt σ id).xs.drop off).take len)) else .undef
  | .mapr id => match idxIn ρ id with | some j => .mapr j | none => .undef
  | .anyb => .anyb
  | _ => .undef
def renV (ρ : List Nat) (σ : Sto) : AV → AV
  | .agg cs => if (cs.map (ren0 ρ σ)).all AV.one then mkAgg (cs.map (ren0 ρ σ)) else .undef
  | .tup vs => .tup (vs.map (ren0 ρ σ))
  | .fn f caps => .fn f (caps.map (ren0 ρ σ))
  | .iff _ _ => .undef
  | v => ren0 ρ σ v
def renB (ρ : List Nat) (σ : Sto) : Blk → Blk
  | .box n v => match renV ρ σ v with
    | .undef => .dead
    | v' => .box n v'
  | .map ik f => .map ik fun k => (f k).map (renV ρ σ)
  | B => B
def renS (ρ : List Nat) (σ : Sto) : Sto := ρ.map fun id => renB ρ σ (blkAt σ id)
def renPos (ρ : List Nat) (μ : Pos) : Pos := fun j => match ρ[j]? with | some id => μ id | none => none

theorem idxIn_spec {ρ : List Nat} {id j : Nat} (h : idxIn ρ id = some j) : ρ[j]? = some id := by
  unfold idxIn at h
  have := List.findIdx?_eq_some_iff_getElem.1 h
  obtain ⟨hj, h1, _⟩ := this
  rw [List.getElem?_eq_getElem hj]
  simpa using h1

theorem blkAt_renS {ρ : List Nat} {j id : Nat} (h : ρ[j]? = some id) : blkAt (renS ρ σ) j = renB ρ σ (blkAt σ id) := by
  unfold renS
  conv => lhs; unfold blkAt
  rw [List.getD_eq_getElem?_getD, List.getElem?_map, h]; rfl
theorem renB_arr (ρ : List Nat) (σ' : Sto) (B : Blk) : (renB ρ σ' B).isArr = B.isArr ∧ (renB ρ σ' B).es = B.es ∧ (renB ρ σ' B).xs = B.xs := by
  cases B with
  | box n v => simp only [renB]; split <;> exact ⟨rfl, rfl, rfl⟩
  | _ => exact ⟨rfl, rfl, rfl⟩
theorem renB_alive {ρ : List Nat} {σ' : Sto} {B : Blk} (h : (renB ρ σ' B).isDead = false) : B.isDead = false := by
  cases B <;> simp_all [renB, Blk.isDead]

theorem ren0_rep (hR : Rel w I μ σ) {ρ : List Nat} {v : Value} {u : AV} (hv : RepV w I μ σ v u) : RepV w I (renPos ρ μ) (renS ρ σ) v (ren0 ρ σ u) := by
  have key : ∀ {id j : Nat}, idxIn ρ id = some j → j < (renS ρ σ).length ∧ (alive (renS ρ σ) j → alive σ id) ∧ renPos ρ μ j = μ id ∧ (blkAt (renS ρ σ) j).isArr = (blkAt σ id).isArr ∧ (blkAt (renS ρ σ) j).es = (blkAt σ id).es ∧ (blkAt (renS ρ σ) j).xs = (blkAt σ id).xs := fun {id j} hj => by
    have hs := idxIn_spec hj
    have hb := blkAt_renS (σ := σ) hs
    obtain ⟨a1, a2, a3⟩ := renB_arr ρ σ (blkAt σ id)
    refine ⟨?_, fun ha => ?_, by unfold renPos; rw [hs], by rw [hb, a1], by rw [hb, a2], by rw [hb, a3]⟩
    · unfold renS; rw [List.length_map]
      rcases Nat.lt_or_ge j ρ.length with h' | h'
      · exact h'
      · rw [List.getElem?_eq_none h'] at hs; cases hs
    · unfold alive at *; rw [hb] at ha; exact renB_alive ha
  cases u with
  | d x => exact .d _ _ hv.inv_d
  | nils => cases hv; exact .nils
  | eptr es xs i off => cases hv with | eptr b o _ _ _ _ hh => exact .eptr b o es xs i off hh
  | ptr id off =>
    simp only [ren0]
    cases hj : idxIn ρ id with
    | none => exact .undef _
    | some j =>
      obtain ⟨k1, k2, k3, _⟩ := key hj
      cases hv with
      | ptr _ _ _ hid hh =>
        obtain ⟨b, base, h1, h2⟩ := hh
        exact .ptr _ _ _ k1 ⟨b, base, fun ha => by rw [k3]; exact h1 (k2 ha), h2⟩
  | aptr id i off =>
    simp only [ren0]
    cases hj : idxIn ρ id with
    | none => exact .undef _
    | some j =>
      obtain ⟨k1, k2, k3, k4, k5, k6⟩ := key hj
      cases hv with
      | aptr _ _ _ _ hid hh =>
        obtain ⟨b, base, es, h1, h2⟩ := hh
        exact .aptr _ _ _ _ k1 ⟨b, base, es, fun ha => by rw [k3, k5]; exact h1 (k2 ha), h2⟩
  | osl id off len =>
    simp only [ren0]
    cases hj : idxIn ρ id with
    | none =>
      by_cases hc : (blkAt σ id).isArr = true ∧ (blkAt σ id).own = false
      · simp only [if_pos hc]; exact .d _ _ (hv.oslData hR hc.1 hc.2)
      · simp only [if_neg hc]; exact .undef _
    | some j =>
      obtain ⟨k1, k2, k3, k4, k5, k6⟩ := key hj
      obtain ⟨hid, hh⟩ := inv_osl hv
      refine .osl _ _ _ _ k1 ?_
      rcases hh with hh | ⟨b, base, es, cap, h1, h2, h3⟩
      · exact .inl hh
      · refine .inr ⟨b, base, es, cap, fun ha => ?_, h2, h3⟩
        rw [k3, k4, k5, k6]; exact h1 (k2 ha)
  | mapr id =>
    simp only [ren0]
    cases hj : idxIn ρ id with
    | none => exact .undef _
    | some j =>
      obtain ⟨k1, k2, k3, _⟩ := key hj
      cases hv with
      | mapr _ _ hid hh =>
        obtain ⟨b, h1, h2⟩ := hh
        exact .mapr _ _ k1 ⟨b, fun ha => by rw [k3]; exact h1 (k2 ha), h2⟩
  | anyb => cases hv; exact .anyb _
  | _ => exact .undef _

theorem renV_rep (hR : Rel w I μ σ) {ρ : List Nat} {v : Value} {u : AV} (hv : RepV w I μ σ v u) : RepV w I (renPos ρ μ) (renS ρ σ) v (renV ρ σ u) := by
  have lst : ∀ {vs : List Value} {cs : List AV}, (∀ (i : Nat) (v : Value) (x : AV), vs[i]? = some v → cs[i]? = some x → RepV w I μ σ v x) → ∀ (i : Nat) (v : Value) (x : AV), vs[i]? = some v → (cs.map (ren0 ρ σ))[i]? = some x → RepV w I (renPos ρ μ) (renS ρ σ) v x := fun {vs cs} h i v x hv hx => by
    rw [List.getElem?_map] at hx
    cases hc : cs[i]? with
    | none => rw [hc] at hx; cases hx
    | some c =>
      rw [hc] at hx
      simp only [Option.map_some, Option.some.injEq] at hx
      subst hx
      exact ren0_rep hR (h i v c hv hc)
  cases u with
  | agg cs =>
    cases hv with
    | agg vs _ hl hone hh =>
      simp only [renV]
      split
      · rename_i hall
        exact mkAgg_rep (by simpa using hl) (fun c hc => List.all_eq_true.1 hall c hc) (lst hh)
      · exact .undef _
  | tup cs => cases hv with | tup vs _ hl hh => exact .tup vs _ (by simpa using hl) (lst hh)
  | fn f cs => cases hv with | fn _ vs _ hl hh => exact .fn f vs _ (by simpa using hl) (lst hh)
  | iff g x => exact .undef _
  | _ => exact ren0_rep hR hv

theorem renV_cells (ρ : List Nat) (σ' : Sto) (v : AV) (hu : renV ρ σ' v ≠ .undef) (j : Nat) (hj : j < v.ncells) : (renV ρ σ' v).ncells = v.ncells ∧ (renV ρ σ' v).cellAt j = renV ρ σ' (v.cellAt j) := by
  cases v with
  | d x => exact ⟨rfl, rfl⟩
  | agg cs =>
    simp only [renV] at hu ⊢
    split at hu
    · rename_i hall
      rw [if_pos hall]
      simp only [AV.ncells] at hj
      refine ⟨by rw [mkAgg_ncells]; simp [AV.ncells], ?_⟩
      rw [mkAgg_cellAt _ _ (by simpa using hj)]
      have hone : (ren0 ρ σ' cs[j]).one = true := List.all_eq_true.1 hall _ (List.mem_map.2 ⟨cs[j], List.getElem_mem hj, rfl⟩)
      simp only [AV.cellAt, List.getD_eq_getElem?_getD, List.getElem?_map, List.getElem?_eq_getElem hj, Option.map_some, Option.getD_some]
      generalize cs[j] = c at *
      cases c <;> first | rfl | (simp [ren0, AV.one] at hone; done)
    · exact absurd rfl hu
  | undef => exact absurd rfl hu
  | iff _ _ => exact absurd rfl hu
  | nils => exact ⟨rfl, rfl⟩
  | eptr _ _ _ _ => exact ⟨rfl, rfl⟩
  | fn _ _ => exact ⟨rfl, rfl⟩
  | tup _ => exact ⟨rfl, rfl⟩
  | anyb => exact ⟨rfl, rfl⟩
  | mapr id =>
    simp only [renV, ren0] at hu ⊢
    cases h : idxIn ρ id with
    | none => rw [h] at hu; exact absurd rfl hu
    | some k => simp only [AV.cellAt, h]; exact ⟨rfl, trivial⟩
  | ptr id off =>
    simp only [renV, ren0] at hu ⊢
    cases h : idxIn ρ id with
    | none => rw [h] at hu; exact absurd rfl hu
    | some k => simp only [AV.cellAt, h]; exact ⟨rfl, trivial⟩
  | aptr id i off =>
    simp only [renV, ren0] at hu ⊢
    cases h : idxIn ρ id with
    | none => rw [h] at hu; exact absurd rfl hu
    | some k => simp only [AV.cellAt, h]; exact ⟨rfl, trivial⟩
  | osl id off len =>
    simp only [renV, ren0] at hu ⊢
    cases h : idxIn ρ id with
    | some k => simp only [AV.cellAt, h]; exact ⟨rfl, trivial⟩
    | none =>
      rw [h] at hu
      by_cases hc : (blkAt σ' id).isArr = true ∧ (blkAt σ' id).own = false
      · have hj0 : j = 0 := by simp only [AV.ncells] at hj; omega
        subst hj0
        simp only [if_pos hc, AV.cellAt, h]
        exact ⟨rfl, rfl⟩
      · simp only [if_neg hc] at hu; first | exact absurd rfl hu | exact (hu trivial).elim

def renE (live : List Nat) (ρ : List Nat) (σ : Sto) (env : Env) : Env := live.map fun t => (t, renV ρ σ (getE env t))
theorem getE_renE : ∀ (live : List Nat) (ρ : List Nat) (σ : Sto) (env : Env) (t : Nat), getE (renE live ρ σ env) t = if t ∈ live then renV ρ σ (getE env t) else .undef
  | [], ρ, σ, env, t => by simp [renE, getE]
  | s :: live, ρ, σ, env, t => by
    have ih := getE_renE live ρ σ env t
    unfold renE at ih ⊢
    simp only [List.map_cons, getE]
    by_cases e : s = t
    · subst e; simp
    · rw [if_neg e, ih]
      simp [Ne.symm e]

theorem ren_ok (hR : Rel w I μ σ) {ρ : List Nat} (hm : ρ.take m = List.range m) (hnd : ρ.Nodup) : Rel w I (renPos ρ μ) (renS ρ σ) ∧ Keep m w I μ σ w I (renPos ρ μ) (renS ρ σ) := by
  have hml : m ≤ ρ.length := by
    have := congrArg List.length hm
    simp at this; omega
  have hid : ∀ id, id < m → ρ[id]? = some id := fun id h => by
    have : (ρ.take m)[id]? = some id := by rw [hm]; simp [h]
    rwa [List.getElem?_take_of_lt h] at this
  refine ⟨⟨hR.imm, fun j hj => ?_, fun i j b b' o o' hij hi hj hμi hμj => ?_⟩, ⟨rfl, rfl, rfl, Nat.le_refl _, fun _ h => h, fun _ h => h, fun _ h => .inl h, fun _ _ => rfl, fun _ => Nat.le_refl _, by simpa [renS] using hml, fun id h hal => ?_⟩⟩
  · simp only [renS, List.length_map] at hj
    have hs : ρ[j]? = some ρ[j] := List.getElem?_eq_getElem hj
    rw [blkAt_renS hs]
    generalize ρ[j] = id at hs
    have hp : renPos ρ μ j = μ id := by unfold renPos; rw [hs]
    rcases Nat.lt_or_ge id σ.length with hl | hl
    · have hb := hR.blk id hl
      cases hB : blkAt σ id with
      | dead => trivial
      | arr es xs => rw [hB] at hb; simp only [renB, BlkRep] at hb ⊢; rw [hp]; exact hb
      | frz es xs => rw [hB] at hb; simp only [renB, BlkRep] at hb ⊢; rw [hp]; exact hb
      | map ik f =>
        rw [hB] at hb
        obtain ⟨b, es, clock, h1, h2, h3, h4⟩ := hb
        exact ⟨b, es, clock, by rw [hp]; exact h1, h2, h3, h4.imp fun v u hv => renV_rep hR hv⟩
      | box k v =>
        rw [hB] at hb
        obtain ⟨b, h1, h2, h3, h4, h5, h6⟩ := hb
        by_cases hu : renV ρ σ v = .undef
        · simp only [renB, hu]; trivial
        · have e : renB ρ σ (.box k v) = .box k (renV ρ σ v) := by
            simp only [renB]
          rw [e]
          refine ⟨b, by rw [hp]; exact h1, h2, h3, h4, ?_, fun q hq => ?_⟩
          · rcases Nat.eq_zero_or_pos v.ncells with hz | hpos
            · have : k = 0 := by omega
              subst this
              cases v with
              | d x => exact h5
              | agg cs =>
                simp only [renV] at hu ⊢
                split at hu
                · rename_i hall; rw [if_pos hall, mkAgg_ncells]; simpa [AV.ncells] using h5
                · exact absurd rfl hu
              | _ => simp [AV.ncells] at hz
            · rw [(renV_cells ρ σ v hu 0 hpos).1]; exact h5
          · obtain ⟨r1, u, r2, r3⟩ := h6 q hq
            obtain ⟨_, c2⟩ := renV_cells ρ σ v hu q (by omega)
            have hrep := renV_rep hR (ρ := ρ) r3
            rw [c2]
            refine ⟨?_, u, r2, hrep⟩
            -- still of one cell
            have hne : renV ρ σ (v.cellAt q) ≠ .undef ∨ True := .inr trivial
            rw [← c2]
            cases v with
            | d x => exact r1
            | agg cs =>
              simp only [renV] at hu ⊢
              split at hu
              · rename_i hall
                rw [if_pos hall, mkAgg_cellAt _ _ (by simp only [AV.ncells] at h5; simpa [h5] using hq)]
                have hql : q < cs.length := by simp only [AV.ncells] at h5; omega
                simp only [List.getD_eq_getElem?_getD, List.getElem?_map, List.getElem?_eq_getElem hql, Option.map_some, Option.getD_some]
                exact List.all_eq_true.1 hall _ (List.mem_map.2 ⟨cs[q], List.getElem_mem hql, rfl⟩)
              · exact absurd rfl hu
            | tup _ => simp [AV.cellAt, AV.one] at r1
            | iff _ _ => simp [AV.cellAt, AV.one] at r1
            | undef => simp [AV.cellAt, AV.one] at r1
            | nils => rfl
            | eptr _ _ _ _ => rfl
            | fn _ _ => rfl
            | anyb => simp [AV.cellAt, AV.one] at r1
            | mapr id' =>
              simp only [renV, ren0] at hu ⊢
              cases h : idxIn ρ id' with
              | none => rw [h] at hu; exact absurd rfl hu
              | some k' => rfl
            | ptr id' off =>
              simp only [renV, ren0] at hu ⊢
              cases h : idxIn ρ id' with
              | none => rw [h] at hu; exact absurd rfl hu
              | some k' => rfl
            | aptr id' i off =>
              simp only [renV, ren0] at hu ⊢
              cases h : idxIn ρ id' with
              | none => rw [h] at hu; exact absurd rfl hu
              | some k' => rfl
            | osl id' off len =>
              simp only [renV, ren0] at hu ⊢
              cases h : idxIn ρ id' with
              | some k' => rfl
              | none =>
                rw [h] at hu
                by_cases hc : (blkAt σ id').isArr = true ∧ (blkAt σ id').own = false
                · simp only [if_pos hc, AV.cellAt]
                  cases q with
                  | zero => rfl
                  | succ q => rfl
                · simp only [if_neg hc] at hu; first | exact absurd rfl hu | exact (hu trivial).elim
    · have : blkAt σ id = .dead := by unfold blkAt; rw [List.getD_eq_getElem?_getD, List.getElem?_eq_none hl]; rfl
      rw [this]; trivial
  · have own_ : ∀ j, (blkAt (renS ρ σ) j).own = true → ∃ id, ρ[j]? = some id ∧ (blkAt σ id).own = true := fun j hj => by
      have hl := blkAt_own_lt hj
      simp only [renS, List.length_map] at hl
      have hs : ρ[j]? = some ρ[j] := List.getElem?_eq_getElem hl
      refine ⟨ρ[j], hs, ?_⟩
      rw [blkAt_renS hs] at hj
      cases hB : blkAt σ ρ[j] with
      | box k v => rfl
      | arr es xs => rfl
      | map ik f => rfl
      | _ => rw [hB] at hj; simp [renB, Blk.own] at hj
    obtain ⟨id1, e1, o1⟩ := own_ i hi
    obtain ⟨id2, e2, o2⟩ := own_ j hj
    have hne : id1 ≠ id2 := fun e => by
      subst e
      have hl1 : i < ρ.length := by
        rcases Nat.lt_or_ge i ρ.length with h' | h'
        · exact h'
        · rw [List.getElem?_eq_none h'] at e1; cases e1
      exact hij ((List.getElem?_inj hl1 hnd).1 (e1.trans e2.symm))
    unfold renPos at hμi hμj
    rw [e1] at hμi
    rw [e2] at hμj
    exact hR.apart id1 id2 b b' o o' hne o1 o2 hμi hμj
  · have hs := hid id h
    have hb := blkAt_renS (σ := σ) hs
    obtain ⟨a1, a2, a3⟩ := renB_arr ρ σ (blkAt σ id)
    unfold alive at *
    rw [hb] at hal ⊢
    exact ⟨renB_alive hal, by unfold renPos; rw [hs], a1, a2, by rw [a3]; exact Nat.le_refl _⟩

/-- a state weakened: some arrays frozen, the store renamed, the slots that live on kept -/
theorem weak_ren (live fz ρ : List Nat) (hm : ρ.take m = List.range m) (hnd : ρ.Nodup) (env : Env) (σ : Sto) : Weak n m env σ (renE live ρ (freezeL σ fz) env) (renS ρ (freezeL σ fz)) := by
  intro w I μ a h1 h2 h3
  obtain ⟨I', r1, r2, r3, _⟩ := freezeL_spec h1 fz
  obtain ⟨q1, q2⟩ := ren_ok (m := m) r1 hm hnd
  refine ⟨I', renPos ρ μ, q1, ⟨h2.defers, h2.size, fun t => ?_⟩, (r2.mono h3).trans q2⟩
  rw [getE_renE]
  split
  · exact renV_rep r1 (((h2.slot t)).keep r2)
  · exact .undef _

theorem weakR_ren (fz ρ : List Nat) (hm : ρ.take m = List.range m) (hnd : ρ.Nodup) (r : AV) (σ : Sto) : WeakR m r σ (renV ρ (freezeL σ fz) r) (renS ρ (freezeL σ fz)) := by
  intro w I μ v h1 h2 h3
  obtain ⟨I', r1, r2, r3, _⟩ := freezeL_spec h1 fz
  obtain ⟨q1, q2⟩ := ren_ok (m := m) r1 hm hnd
  exact ⟨I', renPos ρ μ, q1, renV_rep r1 (h2.keep r2), (r2.mono h3).trans q2⟩

end Go.AM
