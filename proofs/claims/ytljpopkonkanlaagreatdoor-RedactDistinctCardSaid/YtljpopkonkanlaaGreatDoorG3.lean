/- A part of the proof: an abstract machine over data, and lemmas; nothing of the statement. No condition beyond those stated. -/
import Derived.Test.YtljpopkonkanlaaGreatDoorG2
import Derived.IntWalk
import Derived.Lib.Bytealg
set_option linter.unusedVariables false
set_option linter.unusedSimpArgs false
set_option linter.unusedSectionVars false
set_option linter.unnecessarySimpa false

namespace Go.AM
variable {P : Program} {Gl : qa5} {w : World} {I : Im} {μ : Pos} {σ : Sto} {n m : Nat} {env : Env} {a : Act}
def qak : List AV → Nat → Env
 | [], _ => []
 | v :: r, k => (k, v) :: qak r (k + 1)
theorem qtc : ∀ (args : List AV) (k t : Nat), qd0 (qak args k) t = if k ≤ t then args.getD (t - k) .undef else .undef
 | [], k, t => by simp [qak, qd0]
 | v :: r, k, t => by
  simp only [qak, qd0]
  by_cases e : k = t
  ·subst e; simp
  ·rw [if_neg e, qtc r (k + 1) t]
   by_cases h : k ≤ t
   ·rw [if_pos h, if_pos (by omega)]
    have : t - k = (t - (k + 1)) + 1 := by omega
    rw [this]; rfl
   ·rw [if_neg h, if_neg (by omega)]
def qu8 (P : Program) (env : Env) (σ : Sto) : ResultVar → Prop
 | .tmp t => (qd0 env t).vg = true
 | .cell t ty => match qbg P ty, tsz P ty with | some g, some k => Qap σ g k (qd0 env t) | _, _ => False
def qy2 (P : Program) (env : Env) (σ : Sto) : ResultVar → AV
 | .tmp t => (qd0 env t).un
 | .cell t ty => match qbg P ty, tsz P ty with | some g, some k => ldV σ g k (qd0 env t) | _, _ => .undef
def qub (P : Program) (env : Env) (σ : Sto) : List ResultVar → Prop
 | [] => True
 | r :: rs => qu8 P env σ r ∧ qub P env σ rs
def Qk4 (P : Program) (env : Env) (σ : Sto) : List ResultVar → AV
 | [r] => qy2 P env σ r
 | rs => .tup (rs.map (qy2 P env σ))
def qcm (m : Nat) (r : AV) (s : Sto) (r' : AV) (s' : Sto) : Prop :=
 ∀ w I μ v, Rel w I μ s → qa8 w I μ s v r → m ≤ s.length → ∃ I' μ', Rel w I' μ' s' ∧ qa8 w I' μ' s' v r' ∧ qce m w I μ s w I' μ' s'
theorem qcm.refl (m : Nat) (r : AV) (s : Sto) : qcm m r s r s := fun _ I μ _ h1 h2 h3 => ⟨I, μ, h1, h2, qce.refl _ _ _ _ h3⟩
def Qrv (P : Program) (m : Nat) (rs : List ResultVar) (R : AV → Sto → Prop) : qfr → Env → Sto → Prop
 | .exit _, _, _ => False
 | _, env, σ => qub P env σ rs ∧ ∃ r' s', qcm m (Qk4 P env σ rs) σ r' s' ∧ R r' s'
def Qp3 (tmps : Array Value) : ResultVar → Sem Value
 | .tmp t => pure (tmps.getD t Go.undef)
 | .cell t ty => do loadVar ty (← asAddr (tmps.getD t Go.undef))
theorem Qhy (hR : Rel w I μ σ) (hE : qbk n w I μ σ env a) {r : ResultVar} (ho : qu8 P env σ r) :
  ∃ v, (Qp3 a.tmps r).run P w = .ok v w ∧ qa8 w I μ σ v (qy2 P env σ r) := by
 cases r with
 | tmp t => exact ⟨_, rfl, Qkj (hE.slot t) ho⟩
 | cell t ty =>
  simp only [qu8] at ho
  split at ho
  ·rename_i g k h1 h2
   obtain ⟨u, h3, h4⟩ := q25 (P := P) hR h1 h2 (hE.slot t) ho
   refine ⟨u, ?_, by simp only [qy2, h1, h2]; exact h4⟩
   have hp : ∃ ad, a.tmps.getD t Go.undef = .pointer (some ad) := by
    have hv := hE.slot t
    generalize qd0 env t = p at *
    generalize a.tmps.getD t Go.undef = q at *
    cases p <;> simp only [Qap] at ho <;> cases hv
    ·rename_i h; obtain ⟨_, _, _, e⟩ := h; exact ⟨_, e⟩
    ·exact ⟨_, rfl⟩
    ·rename_i h; obtain ⟨_, _, _, _, e⟩ := h; exact ⟨_, e⟩
   obtain ⟨ad, e⟩ := hp
   rw [e] at h3
   simp only [Qp3, e, asAddr, Sem.run_bind, Sem.run_pure, Result.andThen_ok]
   simpa [Instr.loadAt, Instr.sureAddr] using h3
  ·exact ho.elim
theorem q61 (hR : Rel w I μ σ) (hE : qbk n w I μ σ env a) : ∀ (rs : List ResultVar), qub P env σ rs →
  ∃ vs : List Value, (rs.mapM (Qp3 a.tmps)).run P w = .ok vs w ∧ vs.length = rs.length ∧
   ∀ (i : Nat) (v : Value) (u : AV), vs[i]? = some v → (rs.map (qy2 P env σ))[i]? = some u → qa8 w I μ σ v u
 | [], _ => ⟨[], rfl, rfl, fun i v u hv => by simp at hv⟩
 | r :: rs, ho => by
  obtain ⟨v, h1, h2⟩ := Qhy (P := P) hR hE ho.1
  obtain ⟨vs, h3, h4, h5⟩ := q61 hR hE rs ho.2
  refine ⟨v :: vs, ?_, by simp [h4], fun i v' u hv hu => ?_⟩
  ·rw [List.mapM_cons]
   simp only [Sem.run_bind]
   rw [h1]
   simp only [Result.andThen_ok]
   rw [h3]
   simp
  ·cases i with
   | zero => simp at hv hu; subst hv; subst hu; exact h2
   | succ i => exact h5 i v' u (by simpa using hv) (by simpa using hu)
theorem q4l (hR : Rel w I μ σ) (hE : qbk n w I μ σ env a) {fn : Func} (ho : qub P env σ fn.results.toList) : ∃ v, (results fn a.tmps).run P w = .ok v w ∧ qa8 w I μ σ v (Qk4 P env σ fn.results.toList) := by
 obtain ⟨vs, h1, h2, h3⟩ := q61 (P := P) hR hE fn.results.toList ho
 have hrun : (fn.results.mapM (Qp3 a.tmps)).run P w = .ok vs.toArray w := by
  rw [Array.mapM_eq_mapM_toList]
  simp only [Sem.run_map, h1, Result.andThen_ok]
 have e : (results fn a.tmps).run P w = .ok (if h : vs.toArray.size = 1 then vs.toArray[0] else .tuple vs.toArray) w := by
  have e0 : results fn a.tmps = (do let vs ← fn.results.mapM (Qp3 a.tmps); pure (if h : vs.size = 1 then vs[0] else .tuple vs)) := by
   unfold results
   congr 1
  rw [e0]
  simp only [Sem.run_bind, hrun, Result.andThen_ok, Sem.run_pure]
 refine ⟨_, e, ?_⟩
 cases hl : fn.results.toList with
 | nil =>
  rw [hl] at h2 h3
  have : vs = [] := List.eq_nil_of_length_eq_zero h2
  subst this
  exact .tup [] [] rfl (fun i v u hv => by simp at hv)
 | cons r rs =>
  rw [hl] at h2 h3
  cases rs with
  | nil =>
   cases vs with
   | nil => simp at h2
   | cons v vs =>
    simp at h2
    subst h2
    exact h3 0 v _ rfl rfl
  | cons r2 rs =>
   rw [dif_neg (by simp [h2])]
   exact .tup vs _ (by simp [h2]) h3
theorem Qbn {vals : List Value} {args : List AV} (hl : vals.length = args.length) (hr : ∀ (i : Nat) (v : Value) (u : AV), vals[i]? = some v → args[i]? = some u → qa8 w I μ σ v u) (hn : args.length ≤ n) :
  qbk n w I μ σ (qak args 0) { tmps := vals.toArray ++ Array.replicate (n - vals.toArray.size) Go.undef, defers := [] } := by
 refine ⟨rfl, by simp; omega, fun t => ?_⟩
 rw [qtc]
 simp only [Nat.zero_le, if_true, Nat.sub_zero]
 rcases Nat.lt_or_ge t args.length with ht | ht
 ·have h1 : vals[t]? = some vals[t] := List.getElem?_eq_getElem (by omega)
  have h2 : args[t]? = some args[t] := List.getElem?_eq_getElem ht
  have e : (vals.toArray ++ Array.replicate (n - vals.toArray.size) Go.undef).getD t Go.undef = vals[t] := by
   rw [Array.getD_eq_getD_getElem?, Array.getElem?_append_left (by simp; omega)]
   simp [h1]
  rw [e, List.getD_eq_getElem?_getD, h2]
  exact hr t _ _ h1 h2
 ·rw [List.getD_eq_getElem?_getD, List.getElem?_eq_none ht]
  exact .undef _
theorem qac {f : FuncId} {fn : Func} {c : Code} {args : List AV} {R : AV → Sto → Prop} (hf : P.funcs[f]? = some fn) (hname : (fn.name == "runtime.NumGoroutine") = false) (hb : fn.body = some c) (hn : args.length ≤ fn.ntmps)
  (h : AWp P Gl fn.ntmps σ.length c (qak args 0) σ (Qrv P σ.length fn.results.toList R)) : qaf P Gl f args σ R := by
 intro w I μ vals hR hG hl hr
 have e : (callFunc f vals.toArray).run P w = .ok (.enter f vals.toArray) w := by
  have hne : ¬ fn.name = "runtime.NumGoroutine" := by simpa using hname
  simp [callFunc, hf, hb, hne]
 rw [e]
 refine ⟨rfl, calls_of_wp hf hb ?_⟩
 refine Code.wp_mono (fun x a' w' q => ?_) (h w I μ _ hR hG (Qbn hl hr hn) (Nat.le_refl _))
 obtain ⟨ae, env', σ', I', μ', q1, q2, q3, q4, q5, q6⟩ := q
 have fin : (qub P env' σ' fn.results.toList ∧ ∃ r' s', qcm σ.length (Qk4 P env' σ' fn.results.toList) σ' r' s' ∧ R r' s') → ∃ v, (results fn a'.tmps).run P w' = .ok v w' ∧ Qr6 w I μ σ R v w' := by
  rintro ⟨h1, r', s', h2, h3⟩
  obtain ⟨v, h4, h5⟩ := q4l (P := P) q2 q4 h1
  obtain ⟨I2, μ2, h6, h7, h8⟩ := h2 w' I' μ' v q2 h5 q5.len
  exact ⟨v, h4, r', s', I2, μ2, h6, q5.trans h8, h7, h3⟩
 cases x <;> cases ae <;> simp only [Qhd] at q1
 ·obtain ⟨v, h1, h2⟩ := fin q6; exact ⟨q4.defers, v, h1, v, rfl, h2⟩
 ·exact q6.elim
 ·obtain ⟨v, h1, h2⟩ := fin q6; exact ⟨q4.defers, v, h1, v, rfl, h2⟩
def qca (ρ : List Nat) (id : Nat) : Option Nat := ρ.findIdx? (· == id)
def qjd (ρ : List Nat) (σ : Sto) : AV → AV
 | .d x => .d x
 | .nils => .nils
 | .eptr es xs i off => .eptr es xs i off
 | .ptr id off => match qca ρ id with | some j => .ptr j off | none => .undef
 | .aptr id i off => match qca ρ id with | some j => .aptr j i off | none => .undef
 | .osl id off len => match qca ρ id with
  | some j => .osl j off len
  | none => if (qaa σ id).isArr = true ∧ (qaa σ id).own = false then .d (.sl (((qaa σ id).xs.drop off).take len)) else .undef
 | .rsl id len => match qca ρ id with | some j => .rsl j len | none => .undef
 | .mapr id => match qca ρ id with | some j => .mapr j | none => .undef
 | .anyb => .anyb
 | _ => .undef
def qbf (ρ : List Nat) (σ : Sto) : AV → AV
 | .agg cs => if (cs.map (qjd ρ σ)).all AV.one then qfs (cs.map (qjd ρ σ)) else .undef
 | .tup vs => .tup (vs.map (qjd ρ σ))
 | .fn f caps => .fn f (caps.map (qjd ρ σ))
 | .iff _ _ => .undef
 | v => qjd ρ σ v
def qbu (ρ : List Nat) (σ : Sto) : Blk → Blk
 | .box n v => match qbf ρ σ v with
  | .undef => .dead
  | v' => .box n v'
 | .map ik f => .map ik fun k => (f k).map (qbf ρ σ)
 | B => B
def qdb (ρ : List Nat) (σ : Sto) : Sto := ρ.map fun id => qbu ρ σ (qaa σ id)
def qec (ρ : List Nat) (μ : Pos) : Pos := fun j => match ρ[j]? with | some id => μ id | none => none
theorem qiz {ρ : List Nat} {id j : Nat} (h : qca ρ id = some j) : ρ[j]? = some id := by
 unfold qca at h
 have := List.findIdx?_eq_some_iff_getElem.1 h
 obtain ⟨hj, h1, _⟩ := this
 rw [List.getElem?_eq_getElem hj]
 simpa using h1
theorem qe7 {ρ : List Nat} {j id : Nat} (h : ρ[j]? = some id) : qaa (qdb ρ σ) j = qbu ρ σ (qaa σ id) := by
 unfold qdb
 conv => lhs; unfold qaa
 rw [List.getD_eq_getElem?_getD, List.getElem?_map, h]; rfl
theorem qy5 (ρ : List Nat) (σ' : Sto) (B : Blk) : (qbu ρ σ' B).isArr = B.isArr ∧ (qbu ρ σ' B).es = B.es ∧ (qbu ρ σ' B).xs = B.xs := by
 cases B with
 | box n v => simp only [qbu]; split <;> exact ⟨rfl, rfl, rfl⟩
 | _ => exact ⟨rfl, rfl, rfl⟩
theorem qmk {ρ : List Nat} {σ' : Sto} {B : Blk} (h : (qbu ρ σ' B).isDead = false) : B.isDead = false := by
 cases B <;> simp_all [qbu, Blk.isDead]
theorem q66 (hR : Rel w I μ σ) {ρ : List Nat} {v : Value} {u : AV} (hv : qa8 w I μ σ v u) : qa8 w I (qec ρ μ) (qdb ρ σ) v (qjd ρ σ u) := by
 have key : ∀ {id j : Nat}, qca ρ id = some j → j < (qdb ρ σ).length ∧ (qb6 (qdb ρ σ) j → qb6 σ id) ∧ qec ρ μ j = μ id ∧ (qaa (qdb ρ σ) j).isArr = (qaa σ id).isArr ∧ (qaa (qdb ρ σ) j).es = (qaa σ id).es ∧ (qaa (qdb ρ σ) j).xs = (qaa σ id).xs := fun {id j} hj => by
  have hs := qiz hj
  have hb := qe7 (σ := σ) hs
  obtain ⟨a1, a2, a3⟩ := qy5 ρ σ (qaa σ id)
  refine ⟨?_, fun ha => ?_, by unfold qec; rw [hs], by rw [hb, a1], by rw [hb, a2], by rw [hb, a3]⟩
  ·unfold qdb; rw [List.length_map]
   rcases Nat.lt_or_ge j ρ.length with h' | h'
   ·exact h'
   ·rw [List.getElem?_eq_none h'] at hs; cases hs
  ·unfold qb6 at *; rw [hb] at ha; exact qmk ha
 cases u with
 | d x => exact .d _ _ hv.inv_d
 | nils => cases hv; exact .nils
 | eptr es xs i off => cases hv with | eptr b o _ _ _ _ hh => exact .eptr b o es xs i off hh
 | ptr id off =>
  simp only [qjd]
  cases hj : qca ρ id with
  | none => exact .undef _
  | some j =>
   obtain ⟨k1, k2, k3, _⟩ := key hj
   cases hv with
   | ptr _ _ _ hid hh =>
    obtain ⟨b, base, h1, h2⟩ := hh
    exact .ptr _ _ _ k1 ⟨b, base, fun ha => by rw [k3]; exact h1 (k2 ha), h2⟩
 | aptr id i off =>
  simp only [qjd]
  cases hj : qca ρ id with
  | none => exact .undef _
  | some j =>
   obtain ⟨k1, k2, k3, k4, k5, k6⟩ := key hj
   cases hv with
   | aptr _ _ _ _ hid hh =>
    obtain ⟨b, base, es, h1, h2⟩ := hh
    exact .aptr _ _ _ _ k1 ⟨b, base, es, fun ha => by rw [k3, k5]; exact h1 (k2 ha), h2⟩
 | osl id off len =>
  simp only [qjd]
  cases hj : qca ρ id with
  | none =>
   by_cases hc : (qaa σ id).isArr = true ∧ (qaa σ id).own = false
   ·simp only [if_pos hc]; exact .d _ _ (hv.oslData hR hc.1 hc.2)
   ·simp only [if_neg hc]; exact .undef _
  | some j =>
   obtain ⟨k1, k2, k3, k4, k5, k6⟩ := key hj
   obtain ⟨hid, hh⟩ := qs8 hv
   refine .osl _ _ _ _ k1 ?_
   rcases hh with hh | ⟨b, base, es, cap, h1, h2, h3⟩
   ·exact .inl hh
   ·refine .inr ⟨b, base, es, cap, fun ha => ?_, h2, h3⟩
    rw [k3, k4, k5, k6]; exact h1 (k2 ha)
 | rsl id len =>
  simp only [qjd]
  cases hj : qca ρ id with
  | none => exact .undef _
  | some j =>
   obtain ⟨k1, k2, k3, _⟩ := key hj
   cases hv with
   | rsl _ _ _ hid hh =>
    obtain ⟨b, base, cap, h1, h2⟩ := hh
    exact .rsl _ _ _ k1 ⟨b, base, cap, fun ha => by rw [k3]; exact h1 (k2 ha), h2⟩
 | mapr id =>
  simp only [qjd]
  cases hj : qca ρ id with
  | none => exact .undef _
  | some j =>
   obtain ⟨k1, k2, k3, _⟩ := key hj
   cases hv with
   | mapr _ _ hid hh =>
    obtain ⟨b, h1, h2⟩ := hh
    exact .mapr _ _ k1 ⟨b, fun ha => by rw [k3]; exact h1 (k2 ha), h2⟩
 | anyb => cases hv; exact .anyb _
 | _ => exact .undef _
theorem qkp (hR : Rel w I μ σ) {ρ : List Nat} {v : Value} {u : AV} (hv : qa8 w I μ σ v u) : qa8 w I (qec ρ μ) (qdb ρ σ) v (qbf ρ σ u) := by
 have lst : ∀ {vs : List Value} {cs : List AV}, (∀ (i : Nat) (v : Value) (x : AV), vs[i]? = some v → cs[i]? = some x → qa8 w I μ σ v x) → ∀ (i : Nat) (v : Value) (x : AV), vs[i]? = some v → (cs.map (qjd ρ σ))[i]? = some x → qa8 w I (qec ρ μ) (qdb ρ σ) v x := fun {vs cs} h i v x hv hx => by
  rw [List.getElem?_map] at hx
  cases hc : cs[i]? with
  | none => rw [hc] at hx; cases hx
  | some c =>
   rw [hc] at hx
   simp only [Option.map_some, Option.some.injEq] at hx
   subst hx
   exact q66 hR (h i v c hv hc)
 cases u with
 | agg cs =>
  cases hv with
  | agg vs _ hl hone hh =>
   simp only [qbf]
   split
   ·rename_i hall
    exact qij (by simpa using hl) (fun c hc => List.all_eq_true.1 hall c hc) (lst hh)
   ·exact .undef _
 | tup cs => cases hv with | tup vs _ hl hh => exact .tup vs _ (by simpa using hl) (lst hh)
 | fn f cs => cases hv with | fn _ vs _ hl hh => exact .fn f vs _ (by simpa using hl) (lst hh)
 | iff g x => exact .undef _
 | _ => exact q66 hR hv
theorem qu9 (ρ : List Nat) (σ' : Sto) (v : AV) (hu : qbf ρ σ' v ≠ .undef) (j : Nat) (hj : j < v.ncells) : (qbf ρ σ' v).ncells = v.ncells ∧ (qbf ρ σ' v).cellAt j = qbf ρ σ' (v.cellAt j) := by
 cases v with
 | d x => exact ⟨rfl, rfl⟩
 | agg cs =>
  simp only [qbf] at hu ⊢
  split at hu
  ·rename_i hall
   rw [if_pos hall]
   simp only [AV.ncells] at hj
   refine ⟨by rw [qik]; simp [AV.ncells], ?_⟩
   rw [qil _ _ (by simpa using hj)]
   have hone : (qjd ρ σ' cs[j]).one = true := List.all_eq_true.1 hall _ (List.mem_map.2 ⟨cs[j], List.getElem_mem hj, rfl⟩)
   simp only [AV.cellAt, List.getD_eq_getElem?_getD, List.getElem?_map, List.getElem?_eq_getElem hj, Option.map_some, Option.getD_some]
   generalize cs[j] = c at *
   cases c <;> first | rfl | (simp [qjd, AV.one] at hone; done)
  ·exact absurd rfl hu
 | undef => exact absurd rfl hu
 | iff _ _ => exact absurd rfl hu
 | nils => exact ⟨rfl, rfl⟩
 | eptr _ _ _ _ => exact ⟨rfl, rfl⟩
 | fn _ _ => exact ⟨rfl, rfl⟩
 | tup _ => exact ⟨rfl, rfl⟩
 | anyb => exact ⟨rfl, rfl⟩
 | mapr id =>
  simp only [qbf, qjd] at hu ⊢
  cases h : qca ρ id with
  | none => rw [h] at hu; exact absurd rfl hu
  | some k => simp only [AV.cellAt, h]; exact ⟨rfl, trivial⟩
 | ptr id off =>
  simp only [qbf, qjd] at hu ⊢
  cases h : qca ρ id with
  | none => rw [h] at hu; exact absurd rfl hu
  | some k => simp only [AV.cellAt, h]; exact ⟨rfl, trivial⟩
 | rsl id len =>
  simp only [qbf, qjd] at hu ⊢
  cases h : qca ρ id with
  | none => rw [h] at hu; exact absurd rfl hu
  | some k => simp only [AV.cellAt, h]; exact ⟨rfl, trivial⟩
 | aptr id i off =>
  simp only [qbf, qjd] at hu ⊢
  cases h : qca ρ id with
  | none => rw [h] at hu; exact absurd rfl hu
  | some k => simp only [AV.cellAt, h]; exact ⟨rfl, trivial⟩
 | osl id off len =>
  simp only [qbf, qjd] at hu ⊢
  cases h : qca ρ id with
  | some k => simp only [AV.cellAt, h]; exact ⟨rfl, trivial⟩
  | none =>
   rw [h] at hu
   by_cases hc : (qaa σ' id).isArr = true ∧ (qaa σ' id).own = false
   ·have hj0 : j = 0 := by simp only [AV.ncells] at hj; omega
    subst hj0
    simp only [if_pos hc, AV.cellAt, h]
    exact ⟨rfl, rfl⟩
   ·simp only [if_neg hc] at hu; first | exact absurd rfl hu | exact (hu trivial).elim
def Qk6 (live : List Nat) (ρ : List Nat) (σ : Sto) (env : Env) : Env := live.map fun t => (t, qbf ρ σ (qd0 env t))
theorem q3m : ∀ (live : List Nat) (ρ : List Nat) (σ : Sto) (env : Env) (t : Nat), qd0 (Qk6 live ρ σ env) t = if t ∈ live then qbf ρ σ (qd0 env t) else .undef
 | [], ρ, σ, env, t => by simp [Qk6, qd0]
 | s :: live, ρ, σ, env, t => by
  have ih := q3m live ρ σ env t
  unfold Qk6 at ih ⊢
  simp only [List.map_cons, qd0]
  by_cases e : s = t
  ·subst e; simp
  ·rw [if_neg e, ih]
   simp [Ne.symm e]
theorem Qco (hR : Rel w I μ σ) {ρ : List Nat} (hm : ρ.take m = List.range m) (hnd : ρ.Nodup) : Rel w I (qec ρ μ) (qdb ρ σ) ∧ qce m w I μ σ w I (qec ρ μ) (qdb ρ σ) := by
 have hml : m ≤ ρ.length := by
  have := congrArg List.length hm
  simp at this; omega
 have hid : ∀ id, id < m → ρ[id]? = some id := fun id h => by
  have : (ρ.take m)[id]? = some id := by rw [hm]; simp [h]
  rwa [List.getElem?_take_of_lt h] at this
 refine ⟨⟨hR.imm, fun j hj => ?_, fun i j b b' o o' hij hi hj hμi hμj => ?_⟩, ⟨rfl, rfl, rfl, Nat.le_refl _, fun _ h => h, fun _ h => h, fun _ h => .inl h, fun _ _ => rfl, fun _ => Nat.le_refl _, by simpa [qdb] using hml, fun id h hal => ?_⟩⟩
 ·simp only [qdb, List.length_map] at hj
  have hs : ρ[j]? = some ρ[j] := List.getElem?_eq_getElem hj
  rw [qe7 hs]
  generalize ρ[j] = id at hs
  have hp : qec ρ μ j = μ id := by unfold qec; rw [hs]
  rcases Nat.lt_or_ge id σ.length with hl | hl
  ·have hb := hR.blk id hl
   cases hB : qaa σ id with
   | dead => trivial
   | arr es xs => rw [hB] at hb; simp only [qbu, qd8] at hb ⊢; rw [hp]; exact hb
   | frz es xs => rw [hB] at hb; simp only [qbu, qd8] at hb ⊢; rw [hp]; exact hb
   | map ik f =>
    rw [hB] at hb
    obtain ⟨b, es, clock, h1, h2, h3, h4⟩ := hb
    exact ⟨b, es, clock, by rw [hp]; exact h1, h2, h3, h4.imp fun v u hv => qkp hR hv⟩
   | box k v =>
    rw [hB] at hb
    obtain ⟨b, base, h1, h2, h3, h4, h5, h6⟩ := hb
    by_cases hu : qbf ρ σ v = .undef
    ·simp only [qbu, hu]; trivial
    ·have e : qbu ρ σ (.box k v) = .box k (qbf ρ σ v) := by
      simp only [qbu]
     rw [e]
     refine ⟨b, base, by rw [hp]; exact h1, h2, h3, h4, ?_, fun q hq => ?_⟩
     ·rcases Nat.eq_zero_or_pos v.ncells with hz | hpos
      ·have : k = 0 := by omega
       subst this
       cases v with
       | d x => exact h5
       | agg cs =>
        simp only [qbf] at hu ⊢
        split at hu
        ·rename_i hall; rw [if_pos hall, qik]; simpa [AV.ncells] using h5
        ·exact absurd rfl hu
       | _ => simp [AV.ncells] at hz
      ·rw [(qu9 ρ σ v hu 0 hpos).1]; exact h5
     ·obtain ⟨r1, u, r2, r3⟩ := h6 q hq
      obtain ⟨_, c2⟩ := qu9 ρ σ v hu q (by omega)
      have hrep := qkp hR (ρ := ρ) r3
      rw [c2]
      refine ⟨?_, u, r2, hrep⟩
      have hne : qbf ρ σ (v.cellAt q) ≠ .undef ∨ True := .inr trivial
      rw [← c2]
      cases v with
      | d x => exact r1
      | agg cs =>
       simp only [qbf] at hu ⊢
       split at hu
       ·rename_i hall
        rw [if_pos hall, qil _ _ (by simp only [AV.ncells] at h5; simpa [h5] using hq)]
        have hql : q < cs.length := by simp only [AV.ncells] at h5; omega
        simp only [List.getD_eq_getElem?_getD, List.getElem?_map, List.getElem?_eq_getElem hql, Option.map_some, Option.getD_some]
        exact List.all_eq_true.1 hall _ (List.mem_map.2 ⟨cs[q], List.getElem_mem hql, rfl⟩)
       ·exact absurd rfl hu
      | tup _ => simp [AV.cellAt, AV.one] at r1
      | iff _ _ => simp [AV.cellAt, AV.one] at r1
      | undef => simp [AV.cellAt, AV.one] at r1
      | nils => rfl
      | eptr _ _ _ _ => rfl
      | fn _ _ => rfl
      | anyb => simp [AV.cellAt, AV.one] at r1
      | mapr id' =>
       simp only [qbf, qjd] at hu ⊢
       cases h : qca ρ id' with
       | none => rw [h] at hu; exact absurd rfl hu
       | some k' => rfl
      | ptr id' off =>
       simp only [qbf, qjd] at hu ⊢
       cases h : qca ρ id' with
       | none => rw [h] at hu; exact absurd rfl hu
       | some k' => rfl
      | aptr id' i off =>
       simp only [qbf, qjd] at hu ⊢
       cases h : qca ρ id' with
       | none => rw [h] at hu; exact absurd rfl hu
       | some k' => rfl
      | rsl id' len =>
       simp only [qbf, qjd] at hu ⊢
       cases h : qca ρ id' with
       | none => rw [h] at hu; exact absurd rfl hu
       | some k' => rfl
      | osl id' off len =>
       simp only [qbf, qjd] at hu ⊢
       cases h : qca ρ id' with
       | some k' => rfl
       | none =>
        rw [h] at hu
        by_cases hc : (qaa σ id').isArr = true ∧ (qaa σ id').own = false
        ·simp only [if_pos hc, AV.cellAt]
         cases q with
         | zero => rfl
         | succ q => rfl
        ·simp only [if_neg hc] at hu; first | exact absurd rfl hu | exact (hu trivial).elim
  ·have : qaa σ id = .dead := by unfold qaa; rw [List.getD_eq_getElem?_getD, List.getElem?_eq_none hl]; rfl
   rw [this]; trivial
 ·have own_ : ∀ j, (qaa (qdb ρ σ) j).own = true → ∃ id, ρ[j]? = some id ∧ (qaa σ id).own = true := fun j hj => by
   have hl := qa3 hj
   simp only [qdb, List.length_map] at hl
   have hs : ρ[j]? = some ρ[j] := List.getElem?_eq_getElem hl
   refine ⟨ρ[j], hs, ?_⟩
   rw [qe7 hs] at hj
   cases hB : qaa σ ρ[j] with
   | box k v => rfl
   | arr es xs => rfl
   | map ik f => rfl
   | _ => rw [hB] at hj; simp [qbu, Blk.own] at hj
  obtain ⟨id1, e1, o1⟩ := own_ i hi
  obtain ⟨id2, e2, o2⟩ := own_ j hj
  have hne : id1 ≠ id2 := fun e => by
   subst e
   have hl1 : i < ρ.length := by
    rcases Nat.lt_or_ge i ρ.length with h' | h'
    ·exact h'
    ·rw [List.getElem?_eq_none h'] at e1; cases e1
   exact hij ((List.getElem?_inj hl1 hnd).1 (e1.trans e2.symm))
  unfold qec at hμi hμj
  rw [e1] at hμi
  rw [e2] at hμj
  exact hR.apart id1 id2 b b' o o' hne o1 o2 hμi hμj
 ·have hs := hid id h
  have hb := qe7 (σ := σ) hs
  obtain ⟨a1, a2, a3⟩ := qy5 ρ σ (qaa σ id)
  unfold qb6 at *
  rw [hb] at hal ⊢
  exact ⟨qmk hal, by unfold qec; rw [hs], a1, a2, by rw [a3]; exact Nat.le_refl _⟩
theorem Qhj (live fz ρ : List Nat) (hm : ρ.take m = List.range m) (hnd : ρ.Nodup) (env : Env) (σ : Sto) : qhn n m env σ (Qk6 live ρ (freezeL σ fz) env) (qdb ρ (freezeL σ fz)) := by
 intro w I μ a h1 h2 h3
 obtain ⟨I', r1, r2, r3, _⟩ := qd5 h1 fz
 obtain ⟨q1, q2⟩ := Qco (m := m) r1 hm hnd
 refine ⟨I', qec ρ μ, q1, ⟨h2.defers, h2.size, fun t => ?_⟩, (r2.mono h3).trans q2⟩
 rw [q3m]
 split
 ·exact qkp r1 (((h2.slot t)).keep r2)
 ·exact .undef _
theorem Qb5 (fz ρ : List Nat) (hm : ρ.take m = List.range m) (hnd : ρ.Nodup) (r : AV) (σ : Sto) : qcm m r σ (qbf ρ (freezeL σ fz) r) (qdb ρ (freezeL σ fz)) := by
 intro w I μ v h1 h2 h3
 obtain ⟨I', r1, r2, r3, _⟩ := qd5 h1 fz
 obtain ⟨q1, q2⟩ := Qco (m := m) r1 hm hnd
 exact ⟨I', qec ρ μ, q1, qkp r1 (h2.keep r2), (r2.mono h3).trans q2⟩
end Go.AM


namespace Go.AM
set_option linter.unusedSimpArgs false
section
variable {P : Program} {Gl : qa5} {n m : Nat} {env : Env} {σ : Sto} {K : qfr → Env → Sto → Prop} {all : Array Oper} {draw : Bool} {rest : List Oper} {KK : Env → Sto → Prop}
theorem q9l : evC P Gl n m .skip env σ K = K .normal env σ := rfl
theorem qtk {id : Nat} {l : List Oper} : evC P Gl n m (.region id l.toArray false) env σ K = qal P Gl n l.toArray false l env σ (K .normal) := by simp [evC]
theorem qtj {id : Nat} {l : List Oper} : evC P Gl n m (.region id l.toArray true) env σ K = (qyd P Gl n m l.toArray env σ (K .normal) ∧ qal P Gl n l.toArray true l env σ (K .normal)) := by simp [evC]
def Qsi (P : Program) (Gl : qa5) (n m : Nat) (y : Code) (K : qfr → Env → Sto → Prop) (env : Env) (σ : Sto) : Prop := evC P Gl n m y env σ K
theorem q6v {y : Code} : Qsi P Gl n m y K env σ = evC P Gl n m y env σ K := rfl
theorem Qf2 {x y : Code} : evC P Gl n m (.seq x y) env σ K = evC P Gl n m x env σ (qkl K (Qsi P Gl n m y K)) := rfl
def ifC (b : Bool) (X Y : Prop) : Prop := (b = true → X) ∧ (b = false → Y)
theorem ifC.mk {b : Bool} {X Y : Prop} (h1 : b = true → X) (h2 : b = false → Y) : ifC b X Y := ⟨h1, h2⟩
theorem q86 {X Y : Prop} : ifC true X Y = X := by simp [ifC]
theorem q3k {X Y : Prop} : ifC false X Y = Y := by simp [ifC]
theorem Qe5 {b b' : Bool} {X Y : Prop} (h : b = b') : ifC b X Y = ifC b' X Y := by rw [h]
attribute [congr] Qe5
theorem q9o {c : Operand} {x y : Code} : evC P Gl n m (.cond c x y) env σ K = (evG Gl env c = true ∧ q31 (evU Gl env c) (evC P Gl n m x env σ K) (evC P Gl n m y env σ K)) := rfl
theorem qyf {b : Bool} {X Y : Prop} : q31 (.d (.bool b)) X Y = ifC b X Y := by cases b <;> simp [q31, AV.isBoolq, Qrl, Qqs, ifC]
theorem q30 {X Y : Prop} : q31 .anyb X Y = (X ∧ Y) := by simp [q31, AV.isBoolq, Qrl, Qqs]
theorem q5x {u u' : AV} {X Y : Prop} (h : u = u') : q31 u X Y = q31 u' X Y := by rw [h]
attribute [congr] q5x
theorem q3y {id : Nat} {c : Code} : evC P Gl n m (.block id c) env σ K = evC P Gl n m c env σ (qer id K) := rfl
theorem q3w {c : Code} : evC P Gl n m (.scope c) env σ K = evC P Gl n m c env σ K := rfl
theorem q3x {l : Nat} : evC P Gl n m (.label l) env σ K = K .normal env σ := rfl
theorem q9n {id : Nat} : evC P Gl n m (.exit id) env σ K = K (.exit id) env σ := rfl
theorem Qf3 : evC P Gl n m .ret env σ K = K .ret env σ := rfl
theorem qm3 {f : Env → Sto → Prop} : qkl K f .normal env σ = f env σ := rfl
theorem qu0 {f : Env → Sto → Prop} {i : Nat} : qkl K f (.exit i) env σ = K (.exit i) env σ := rfl
theorem q0i {f : Env → Sto → Prop} : qkl K f .ret env σ = K .ret env σ := rfl
theorem qty {i id : Nat} : qer id K (.exit i) env σ = if i = id then K .normal env σ else K (.exit i) env σ := rfl
theorem ql6 {id : Nat} : qer id K .normal env σ = K .normal env σ := rfl
theorem qyk {id : Nat} : qer id K .ret env σ = K .ret env σ := rfl
def qfp (P : Program) (Gl : qa5) (n : Nat) (all : Array Oper) (draw : Bool) (dst : Option Tmp) (rest : List Oper) (fv : AV) (as : List AV) (env : Env) (σ : Sto) (K : Env → Sto → Prop) : Prop :=
 match fv with
 | .fn f caps => if draw = true then (∃ r0, (∀ s, Ext σ s → qaf P Gl f (as ++ caps) s (fun r σ' => r = r0 ∧ σ' = s)) ∧ qal P Gl n all draw rest (putE env dst r0) σ K) ∨ (rest = [] ∧ qpc all = true ∧ qaf P Gl f (as ++ caps) σ (fun r σ' => K (putE env dst r) σ')) ∨ Qhc all = true
  else qaf P Gl f (as ++ caps) σ (fun r σ' => qal P Gl n all draw rest (putE env dst r) σ' K)
 | _ => draw = true ∧ Qhc all = true
def qtt (P : Program) (Gl : qa5) (n : Nat) (all : Array Oper) (draw : Bool) (dst : Option Tmp) (rest : List Oper) (g : Bool) (fv : AV) (as : List AV) (env : Env) (σ : Sto) (K : Env → Sto → Prop) : Prop :=
 ∃ r0, (g = true → match fv with | .fn f caps => ∀ s, Ext σ s → qaf P Gl f (as ++ caps) s (fun r σ' => r = r0 ∧ σ' = s) | _ => False) ∧ qal P Gl n all draw rest (putE env dst (.iff g r0)) σ K
theorem Qjq {f : FuncId} {as caps : List AV} {v : AV} {dst : Option Tmp} (h : ∀ s, qaf P Gl f (as ++ caps) s (fun r s' => r = v ∧ s' = s)) (h2 : qal P Gl n all draw rest (putE env dst v) σ KK) : qfp P Gl n all draw dst rest (.fn f caps) as env σ KK := by
 cases draw with
 | true => exact .inl ⟨v, fun s _ => h s, h2⟩
 | false =>
  refine (h σ).mono fun r s ⟨e1, e2⟩ => ?_
  subst e1; subst e2; exact h2
theorem qaq {f : FuncId} {as caps : List AV} {dst : Option Tmp} (h : qaf P Gl f (as ++ caps) σ (fun r σ' => qal P Gl n all false rest (putE env dst r) σ' KK)) : qfp P Gl n all false dst rest (.fn f caps) as env σ KK := h
theorem Qjp {f : FuncId} {as caps : List AV} {v : AV} {dst : Option Tmp} {g : Bool} (h : g = true → ∀ s, qaf P Gl f (as ++ caps) s (fun r s' => r = v ∧ s' = s)) (h2 : qal P Gl n all draw rest (putE env dst (.iff g v)) σ KK) : qtt P Gl n all draw dst rest g (.fn f caps) as env σ KK :=
 ⟨v, fun hg s _ => h hg s, h2⟩
theorem q3v : qal P Gl n all draw [] env σ KK = KK env σ := rfl
theorem q5n {env' : Env} {σ' : Sto} (h1 : env = env') (h2 : σ = σ') : qal P Gl n all draw rest env σ KK = qal P Gl n all draw rest env' σ' KK := by rw [h1, h2]
theorem Qf4 {c : Code} {env' : Env} {σ' : Sto} (h1 : env = env') (h2 : σ = σ') : evC P Gl n m c env σ K = evC P Gl n m c env' σ' K := by rw [h1, h2]
theorem q52 {dst : Option Tmp} {fv fv' : AV} {as as' : List AV} {env' : Env} {σ' : Sto} (h0 : fv = fv') (h3 : as = as') (h1 : env = env') (h2 : σ = σ') : qfp P Gl n all draw dst rest fv as env σ KK = qfp P Gl n all draw dst rest fv' as' env' σ' KK := by rw [h0, h3, h1, h2]
theorem q50 {dst : Option Tmp} {g g' : Bool} {fv fv' : AV} {as as' : List AV} {env' : Env} {σ' : Sto} (h4 : g = g') (h0 : fv = fv') (h3 : as = as') (h1 : env = env') (h2 : σ = σ') : qtt P Gl n all draw dst rest g fv as env σ KK = qtt P Gl n all draw dst rest g' fv' as' env' σ' KK := by rw [h0, h3, h1, h2, h4]
attribute [congr] q5n Qf4 q52 q50
section
variable {dst : Option Tmp} {ty : TypeId} {pos : String} {af : Array Edge}
theorem Qls (x : Operand) : qal P Gl n all draw (⟨dst, .move x, ty, pos, af, none⟩ :: rest) env σ KK = (qb4 n dst = true ∧ evG Gl env x = true ∧ qb9 P Gl σ env (.move x) ∧ qal P Gl n all draw rest (putE env dst (opV P Gl σ env (.move x))) (opS P Gl σ env (.move x)) KK) := by
 simp [qal, qaw, qdh, gdL, Op.operands, and_assoc]
theorem Ql0 (x : Operand) {j : Nat} {b : Bool} : qal P Gl n all draw (⟨dst, .move x, ty, pos, af, some (j, b)⟩ :: rest) env σ KK = (qb4 n dst = true ∧ qbi (qaz all env j) = true ∧ (qaj (qaz all env j) b = true → evG Gl env x = true) ∧ (qaj (qaz all env j) b = true → qb9 P Gl σ env (.move x)) ∧ qal P Gl n all draw rest (putE env dst (.iff (qaj (qaz all env j) b) (opV P Gl σ env (.move x)))) σ KK) := by
 simp [qal, qaw, qdh, gdL, Op.operands, qbj, qcl, and_assoc]
theorem q8x (x : Operand) : qal P Gl n all draw (⟨dst, .assign x, ty, pos, af, none⟩ :: rest) env σ KK = (qb4 n dst = true ∧ evG Gl env x = true ∧ qb9 P Gl σ env (.assign x) ∧ qal P Gl n all draw rest (putE env dst (opV P Gl σ env (.assign x))) (opS P Gl σ env (.assign x)) KK) := by
 simp [qal, qaw, qdh, gdL, Op.operands, and_assoc]
theorem q9d (x : Operand) {j : Nat} {b : Bool} : qal P Gl n all draw (⟨dst, .assign x, ty, pos, af, some (j, b)⟩ :: rest) env σ KK = (qb4 n dst = true ∧ qbi (qaz all env j) = true ∧ (qaj (qaz all env j) b = true → evG Gl env x = true) ∧ (qaj (qaz all env j) b = true → qb9 P Gl σ env (.assign x)) ∧ qal P Gl n all draw rest (putE env dst (.iff (qaj (qaz all env j) b) (opV P Gl σ env (.assign x)))) σ KK) := by
 simp [qal, qaw, qdh, gdL, Op.operands, qbj, qcl, and_assoc]
theorem Qdu (t : TypeId) : qal P Gl n all draw (⟨dst, .alloc t, ty, pos, af, none⟩ :: rest) env σ KK = (qb4 n dst = true ∧ qb9 P Gl σ env (.alloc t) ∧ qal P Gl n all draw rest (putE env dst (opV P Gl σ env (.alloc t))) (opS P Gl σ env (.alloc t)) KK) := by
 simp [qal, qaw, qdh, gdL, Op.operands, and_assoc]
theorem Qqo (t : TypeId) (x : Operand) : qal P Gl n all draw (⟨dst, .box t x, ty, pos, af, none⟩ :: rest) env σ KK = (qb4 n dst = true ∧ evG Gl env x = true ∧ qb9 P Gl σ env (.box t x) ∧ qal P Gl n all draw rest (putE env dst (opV P Gl σ env (.box t x))) (opS P Gl σ env (.box t x)) KK) := by
 simp [qal, qaw, qdh, gdL, Op.operands, and_assoc]
theorem Qlt (t : TypeId) (x : Operand) : qal P Gl n all draw (⟨dst, .load t x, ty, pos, af, none⟩ :: rest) env σ KK = (qb4 n dst = true ∧ evG Gl env x = true ∧ qb9 P Gl σ env (.load t x) ∧ qal P Gl n all draw rest (putE env dst (opV P Gl σ env (.load t x))) (opS P Gl σ env (.load t x)) KK) := by
 simp [qal, qaw, qdh, gdL, Op.operands, and_assoc]
theorem Ql1 (t : TypeId) (x : Operand) {j : Nat} {b : Bool} : qal P Gl n all draw (⟨dst, .load t x, ty, pos, af, some (j, b)⟩ :: rest) env σ KK = (qb4 n dst = true ∧ qbi (qaz all env j) = true ∧ (qaj (qaz all env j) b = true → evG Gl env x = true) ∧ (qaj (qaz all env j) b = true → qb9 P Gl σ env (.load t x)) ∧ qal P Gl n all draw rest (putE env dst (.iff (qaj (qaz all env j) b) (opV P Gl σ env (.load t x)))) σ KK) := by
 simp [qal, qaw, qdh, gdL, Op.operands, qbj, qcl, and_assoc]
theorem Qdn (t : TypeId) (x y : Operand) : qal P Gl n all draw (⟨dst, .store t x y, ty, pos, af, none⟩ :: rest) env σ KK = (qb4 n dst = true ∧ evG Gl env x = true ∧ evG Gl env y = true ∧ qb9 P Gl σ env (.store t x y) ∧ qal P Gl n all draw rest (putE env dst (opV P Gl σ env (.store t x y))) (opS P Gl σ env (.store t x y)) KK) := by
 simp [qal, qaw, qdh, gdL, Op.operands, and_assoc]
theorem qxq (x : Operand) : qal P Gl n all draw (⟨dst, .nilCheck x, ty, pos, af, none⟩ :: rest) env σ KK = (qb4 n dst = true ∧ evG Gl env x = true ∧ qb9 P Gl σ env (.nilCheck x) ∧ qal P Gl n all draw rest (putE env dst (opV P Gl σ env (.nilCheck x))) (opS P Gl σ env (.nilCheck x)) KK) := by
 simp [qal, qaw, qdh, gdL, Op.operands, and_assoc]
theorem qx9 (x : Operand) {j : Nat} {b : Bool} : qal P Gl n all draw (⟨dst, .nilCheck x, ty, pos, af, some (j, b)⟩ :: rest) env σ KK = (qb4 n dst = true ∧ qbi (qaz all env j) = true ∧ (qaj (qaz all env j) b = true → evG Gl env x = true) ∧ (qaj (qaz all env j) b = true → qb9 P Gl σ env (.nilCheck x)) ∧ qal P Gl n all draw rest (putE env dst (.iff (qaj (qaz all env j) b) (opV P Gl σ env (.nilCheck x)))) σ KK) := by
 simp [qal, qaw, qdh, gdL, Op.operands, qbj, qcl, and_assoc]
theorem Qdt (o : BinOp) (t u : TypeId) (x y : Operand) : qal P Gl n all draw (⟨dst, .binOp o t x y u, ty, pos, af, none⟩ :: rest) env σ KK = (qb4 n dst = true ∧ evG Gl env x = true ∧ evG Gl env y = true ∧ qb9 P Gl σ env (.binOp o t x y u) ∧ qal P Gl n all draw rest (putE env dst (opV P Gl σ env (.binOp o t x y u))) (opS P Gl σ env (.binOp o t x y u)) KK) := by
 simp [qal, qaw, qdh, gdL, Op.operands, and_assoc]
theorem Qfl (o : BinOp) (t u : TypeId) (x y : Operand) {j : Nat} {b : Bool} : qal P Gl n all draw (⟨dst, .binOp o t x y u, ty, pos, af, some (j, b)⟩ :: rest) env σ KK = (qb4 n dst = true ∧ qbi (qaz all env j) = true ∧ (qaj (qaz all env j) b = true → evG Gl env x = true) ∧ (qaj (qaz all env j) b = true → evG Gl env y = true) ∧ (qaj (qaz all env j) b = true → qb9 P Gl σ env (.binOp o t x y u)) ∧ qal P Gl n all draw rest (putE env dst (.iff (qaj (qaz all env j) b) (opV P Gl σ env (.binOp o t x y u)))) σ KK) := by
 simp [qal, qaw, qdh, gdL, Op.operands, qbj, qcl, and_assoc]
theorem Qlq (o : UnOp) (t : TypeId) (x : Operand) : qal P Gl n all draw (⟨dst, .unOp o t x, ty, pos, af, none⟩ :: rest) env σ KK = (qb4 n dst = true ∧ evG Gl env x = true ∧ qb9 P Gl σ env (.unOp o t x) ∧ qal P Gl n all draw rest (putE env dst (opV P Gl σ env (.unOp o t x))) (opS P Gl σ env (.unOp o t x)) KK) := by
 simp [qal, qaw, qdh, gdL, Op.operands, and_assoc]
theorem Qly (o : UnOp) (t : TypeId) (x : Operand) {j : Nat} {b : Bool} : qal P Gl n all draw (⟨dst, .unOp o t x, ty, pos, af, some (j, b)⟩ :: rest) env σ KK = (qb4 n dst = true ∧ qbi (qaz all env j) = true ∧ (qaj (qaz all env j) b = true → evG Gl env x = true) ∧ (qaj (qaz all env j) b = true → qb9 P Gl σ env (.unOp o t x)) ∧ qal P Gl n all draw rest (putE env dst (.iff (qaj (qaz all env j) b) (opV P Gl σ env (.unOp o t x)))) σ KK) := by
 simp [qal, qaw, qdh, gdL, Op.operands, qbj, qcl, and_assoc]
theorem q2v (s t : TypeId) (x : Operand) : qal P Gl n all draw (⟨dst, .convert s t x, ty, pos, af, none⟩ :: rest) env σ KK = (qb4 n dst = true ∧ evG Gl env x = true ∧ qb9 P Gl σ env (.convert s t x) ∧ qal P Gl n all draw rest (putE env dst (opV P Gl σ env (.convert s t x))) (opS P Gl σ env (.convert s t x)) KK) := by
 simp [qal, qaw, qdh, gdL, Op.operands, and_assoc]
theorem q3t (s t : TypeId) (x : Operand) {j : Nat} {b : Bool} : qal P Gl n all draw (⟨dst, .convert s t x, ty, pos, af, some (j, b)⟩ :: rest) env σ KK = (qb4 n dst = true ∧ qbi (qaz all env j) = true ∧ (qaj (qaz all env j) b = true → evG Gl env x = true) ∧ (qaj (qaz all env j) b = true → qb9 P Gl σ env (.convert s t x)) ∧ qal P Gl n all draw rest (putE env dst (.iff (qaj (qaz all env j) b) (opV P Gl σ env (.convert s t x)))) σ KK) := by
 simp [qal, qaw, qdh, gdL, Op.operands, qbj, qcl, and_assoc]
theorem qsp (t : TypeId) (x y : Operand) : qal P Gl n all draw (⟨dst, .makeSlice t x y, ty, pos, af, none⟩ :: rest) env σ KK = (qb4 n dst = true ∧ evG Gl env x = true ∧ evG Gl env y = true ∧ qb9 P Gl σ env (.makeSlice t x y) ∧ qal P Gl n all draw rest (putE env dst (opV P Gl σ env (.makeSlice t x y))) (opS P Gl σ env (.makeSlice t x y)) KK) := by
 simp [qal, qaw, qdh, gdL, Op.operands, and_assoc]
theorem q2s (t : TypeId) (x : Operand) : qal P Gl n all draw (⟨dst, .slice t x none none none, ty, pos, af, none⟩ :: rest) env σ KK = (qb4 n dst = true ∧ evG Gl env x = true ∧ qb9 P Gl σ env (.slice t x none none none) ∧ qal P Gl n all draw rest (putE env dst (opV P Gl σ env (.slice t x none none none))) (opS P Gl σ env (.slice t x none none none)) KK) := by
 simp [qal, qaw, qdh, gdL, Op.operands, and_assoc]
theorem q3r (t : TypeId) (x : Operand) {j : Nat} {b : Bool} : qal P Gl n all draw (⟨dst, .slice t x none none none, ty, pos, af, some (j, b)⟩ :: rest) env σ KK = (qb4 n dst = true ∧ qbi (qaz all env j) = true ∧ (qaj (qaz all env j) b = true → evG Gl env x = true) ∧ (qaj (qaz all env j) b = true → qb9 P Gl σ env (.slice t x none none none)) ∧ qal P Gl n all draw rest (putE env dst (.iff (qaj (qaz all env j) b) (opV P Gl σ env (.slice t x none none none)))) σ KK) := by
 simp [qal, qaw, qdh, gdL, Op.operands, qbj, qcl, and_assoc]
theorem q2q (t : TypeId) (x y : Operand) : qal P Gl n all draw (⟨dst, .slice t x (some y) none none, ty, pos, af, none⟩ :: rest) env σ KK = (qb4 n dst = true ∧ evG Gl env x = true ∧ evG Gl env y = true ∧ qb9 P Gl σ env (.slice t x (some y) none none) ∧ qal P Gl n all draw rest (putE env dst (opV P Gl σ env (.slice t x (some y) none none))) (opS P Gl σ env (.slice t x (some y) none none)) KK) := by
 simp [qal, qaw, qdh, gdL, Op.operands, and_assoc]
theorem q3p (t : TypeId) (x y : Operand) {j : Nat} {b : Bool} : qal P Gl n all draw (⟨dst, .slice t x (some y) none none, ty, pos, af, some (j, b)⟩ :: rest) env σ KK = (qb4 n dst = true ∧ qbi (qaz all env j) = true ∧ (qaj (qaz all env j) b = true → evG Gl env x = true) ∧ (qaj (qaz all env j) b = true → evG Gl env y = true) ∧ (qaj (qaz all env j) b = true → qb9 P Gl σ env (.slice t x (some y) none none)) ∧ qal P Gl n all draw rest (putE env dst (.iff (qaj (qaz all env j) b) (opV P Gl σ env (.slice t x (some y) none none)))) σ KK) := by
 simp [qal, qaw, qdh, gdL, Op.operands, qbj, qcl, and_assoc]
theorem q2r (t : TypeId) (x y : Operand) : qal P Gl n all draw (⟨dst, .slice t x none (some y) none, ty, pos, af, none⟩ :: rest) env σ KK = (qb4 n dst = true ∧ evG Gl env x = true ∧ evG Gl env y = true ∧ qb9 P Gl σ env (.slice t x none (some y) none) ∧ qal P Gl n all draw rest (putE env dst (opV P Gl σ env (.slice t x none (some y) none))) (opS P Gl σ env (.slice t x none (some y) none)) KK) := by
 simp [qal, qaw, qdh, gdL, Op.operands, and_assoc]
theorem q3q (t : TypeId) (x y : Operand) {j : Nat} {b : Bool} : qal P Gl n all draw (⟨dst, .slice t x none (some y) none, ty, pos, af, some (j, b)⟩ :: rest) env σ KK = (qb4 n dst = true ∧ qbi (qaz all env j) = true ∧ (qaj (qaz all env j) b = true → evG Gl env x = true) ∧ (qaj (qaz all env j) b = true → evG Gl env y = true) ∧ (qaj (qaz all env j) b = true → qb9 P Gl σ env (.slice t x none (some y) none)) ∧ qal P Gl n all draw rest (putE env dst (.iff (qaj (qaz all env j) b) (opV P Gl σ env (.slice t x none (some y) none)))) σ KK) := by
 simp [qal, qaw, qdh, gdL, Op.operands, qbj, qcl, and_assoc]
theorem q2p (t : TypeId) (x y z : Operand) : qal P Gl n all draw (⟨dst, .slice t x (some y) (some z) none, ty, pos, af, none⟩ :: rest) env σ KK = (qb4 n dst = true ∧ evG Gl env x = true ∧ evG Gl env y = true ∧ evG Gl env z = true ∧ qb9 P Gl σ env (.slice t x (some y) (some z) none) ∧ qal P Gl n all draw rest (putE env dst (opV P Gl σ env (.slice t x (some y) (some z) none))) (opS P Gl σ env (.slice t x (some y) (some z) none)) KK) := by
 simp [qal, qaw, qdh, gdL, Op.operands, and_assoc]
theorem q3o (t : TypeId) (x y z : Operand) {j : Nat} {b : Bool} : qal P Gl n all draw (⟨dst, .slice t x (some y) (some z) none, ty, pos, af, some (j, b)⟩ :: rest) env σ KK = (qb4 n dst = true ∧ qbi (qaz all env j) = true ∧ (qaj (qaz all env j) b = true → evG Gl env x = true) ∧ (qaj (qaz all env j) b = true → evG Gl env y = true) ∧ (qaj (qaz all env j) b = true → evG Gl env z = true) ∧ (qaj (qaz all env j) b = true → qb9 P Gl σ env (.slice t x (some y) (some z) none)) ∧ qal P Gl n all draw rest (putE env dst (.iff (qaj (qaz all env j) b) (opV P Gl σ env (.slice t x (some y) (some z) none)))) σ KK) := by
 simp [qal, qaw, qdh, gdL, Op.operands, qbj, qcl, and_assoc]
theorem q8u (t : TypeId) (x y z : Operand) : qal P Gl n all draw (⟨dst, .slice t x none (some y) (some z), ty, pos, af, none⟩ :: rest) env σ KK = (qb4 n dst = true ∧ evG Gl env x = true ∧ evG Gl env y = true ∧ evG Gl env z = true ∧ qb9 P Gl σ env (.slice t x none (some y) (some z)) ∧ qal P Gl n all draw rest (putE env dst (opV P Gl σ env (.slice t x none (some y) (some z)))) (opS P Gl σ env (.slice t x none (some y) (some z))) KK) := by
 simp [qal, qaw, qdh, gdL, Op.operands, and_assoc]
theorem qsr (s : TypeId) (x : Operand) (f : Nat) : qal P Gl n all draw (⟨dst, .fieldAddr s x f, ty, pos, af, none⟩ :: rest) env σ KK = (qb4 n dst = true ∧ evG Gl env x = true ∧ qb9 P Gl σ env (.fieldAddr s x f) ∧ qal P Gl n all draw rest (putE env dst (opV P Gl σ env (.fieldAddr s x f))) (opS P Gl σ env (.fieldAddr s x f)) KK) := by
 simp [qal, qaw, qdh, gdL, Op.operands, and_assoc]
theorem qtg (s : TypeId) (x : Operand) (f : Nat) {j : Nat} {b : Bool} : qal P Gl n all draw (⟨dst, .fieldAddr s x f, ty, pos, af, some (j, b)⟩ :: rest) env σ KK = (qb4 n dst = true ∧ qbi (qaz all env j) = true ∧ (qaj (qaz all env j) b = true → evG Gl env x = true) ∧ (qaj (qaz all env j) b = true → qb9 P Gl σ env (.fieldAddr s x f)) ∧ qal P Gl n all draw rest (putE env dst (.iff (qaj (qaz all env j) b) (opV P Gl σ env (.fieldAddr s x f)))) σ KK) := by
 simp [qal, qaw, qdh, gdL, Op.operands, qbj, qcl, and_assoc]
theorem Qdq (s : TypeId) (x : Operand) (f : Nat) : qal P Gl n all draw (⟨dst, .field s x f, ty, pos, af, none⟩ :: rest) env σ KK = (qb4 n dst = true ∧ evG Gl env x = true ∧ qb9 P Gl σ env (.field s x f) ∧ qal P Gl n all draw rest (putE env dst (opV P Gl σ env (.field s x f))) (opS P Gl σ env (.field s x f)) KK) := by
 simp [qal, qaw, qdh, gdL, Op.operands, and_assoc]
theorem Qfj (s : TypeId) (x : Operand) (f : Nat) {j : Nat} {b : Bool} : qal P Gl n all draw (⟨dst, .field s x f, ty, pos, af, some (j, b)⟩ :: rest) env σ KK = (qb4 n dst = true ∧ qbi (qaz all env j) = true ∧ (qaj (qaz all env j) b = true → evG Gl env x = true) ∧ (qaj (qaz all env j) b = true → qb9 P Gl σ env (.field s x f)) ∧ qal P Gl n all draw rest (putE env dst (.iff (qaj (qaz all env j) b) (opV P Gl σ env (.field s x f)))) σ KK) := by
 simp [qal, qaw, qdh, gdL, Op.operands, qbj, qcl, and_assoc]
theorem qsq (t : TypeId) (x y : Operand) : qal P Gl n all draw (⟨dst, .indexAddr t x y, ty, pos, af, none⟩ :: rest) env σ KK = (qb4 n dst = true ∧ evG Gl env x = true ∧ evG Gl env y = true ∧ qb9 P Gl σ env (.indexAddr t x y) ∧ qal P Gl n all draw rest (putE env dst (opV P Gl σ env (.indexAddr t x y))) (opS P Gl σ env (.indexAddr t x y)) KK) := by
 simp [qal, qaw, qdh, gdL, Op.operands, and_assoc]
theorem qtf (t : TypeId) (x y : Operand) {j : Nat} {b : Bool} : qal P Gl n all draw (⟨dst, .indexAddr t x y, ty, pos, af, some (j, b)⟩ :: rest) env σ KK = (qb4 n dst = true ∧ qbi (qaz all env j) = true ∧ (qaj (qaz all env j) b = true → evG Gl env x = true) ∧ (qaj (qaz all env j) b = true → evG Gl env y = true) ∧ (qaj (qaz all env j) b = true → qb9 P Gl σ env (.indexAddr t x y)) ∧ qal P Gl n all draw rest (putE env dst (.iff (qaj (qaz all env j) b) (opV P Gl σ env (.indexAddr t x y)))) σ KK) := by
 simp [qal, qaw, qdh, gdL, Op.operands, qbj, qcl, and_assoc]
theorem Qdp (t : TypeId) (x y : Operand) : qal P Gl n all draw (⟨dst, .index t x y, ty, pos, af, none⟩ :: rest) env σ KK = (qb4 n dst = true ∧ evG Gl env x = true ∧ evG Gl env y = true ∧ qb9 P Gl σ env (.index t x y) ∧ qal P Gl n all draw rest (putE env dst (opV P Gl σ env (.index t x y))) (opS P Gl σ env (.index t x y)) KK) := by
 simp [qal, qaw, qdh, gdL, Op.operands, and_assoc]
theorem Qfi (t : TypeId) (x y : Operand) {j : Nat} {b : Bool} : qal P Gl n all draw (⟨dst, .index t x y, ty, pos, af, some (j, b)⟩ :: rest) env σ KK = (qb4 n dst = true ∧ qbi (qaz all env j) = true ∧ (qaj (qaz all env j) b = true → evG Gl env x = true) ∧ (qaj (qaz all env j) b = true → evG Gl env y = true) ∧ (qaj (qaz all env j) b = true → qb9 P Gl σ env (.index t x y)) ∧ qal P Gl n all draw rest (putE env dst (.iff (qaj (qaz all env j) b) (opV P Gl σ env (.index t x y)))) σ KK) := by
 simp [qal, qaw, qdh, gdL, Op.operands, qbj, qcl, and_assoc]
theorem q2u (x : Operand) (i : Nat) : qal P Gl n all draw (⟨dst, .extract x i, ty, pos, af, none⟩ :: rest) env σ KK = (qb4 n dst = true ∧ evG Gl env x = true ∧ qb9 P Gl σ env (.extract x i) ∧ qal P Gl n all draw rest (putE env dst (opV P Gl σ env (.extract x i))) (opS P Gl σ env (.extract x i)) KK) := by
 simp [qal, qaw, qdh, gdL, Op.operands, and_assoc]
theorem q3s (x : Operand) (i : Nat) {j : Nat} {b : Bool} : qal P Gl n all draw (⟨dst, .extract x i, ty, pos, af, some (j, b)⟩ :: rest) env σ KK = (qb4 n dst = true ∧ qbi (qaz all env j) = true ∧ (qaj (qaz all env j) b = true → evG Gl env x = true) ∧ (qaj (qaz all env j) b = true → qb9 P Gl σ env (.extract x i)) ∧ qal P Gl n all draw rest (putE env dst (.iff (qaj (qaz all env j) b) (opV P Gl σ env (.extract x i)))) σ KK) := by
 simp [qal, qaw, qdh, gdL, Op.operands, qbj, qcl, and_assoc]
theorem q8v (t : TypeId) (x y : Operand) (k : Bool) : qal P Gl n all draw (⟨dst, .lookup t x y k, ty, pos, af, none⟩ :: rest) env σ KK = (qb4 n dst = true ∧ evG Gl env x = true ∧ evG Gl env y = true ∧ qb9 P Gl σ env (.lookup t x y k) ∧ qal P Gl n all draw rest (putE env dst (opV P Gl σ env (.lookup t x y k))) (opS P Gl σ env (.lookup t x y k)) KK) := by
 simp [qal, qaw, qdh, gdL, Op.operands, and_assoc]
theorem q9c (t : TypeId) (x y : Operand) (k : Bool) {j : Nat} {b : Bool} : qal P Gl n all draw (⟨dst, .lookup t x y k, ty, pos, af, some (j, b)⟩ :: rest) env σ KK = (qb4 n dst = true ∧ qbi (qaz all env j) = true ∧ (qaj (qaz all env j) b = true → evG Gl env x = true) ∧ (qaj (qaz all env j) b = true → evG Gl env y = true) ∧ (qaj (qaz all env j) b = true → qb9 P Gl σ env (.lookup t x y k)) ∧ qal P Gl n all draw rest (putE env dst (.iff (qaj (qaz all env j) b) (opV P Gl σ env (.lookup t x y k)))) σ KK) := by
 simp [qal, qaw, qdh, gdL, Op.operands, qbj, qcl, and_assoc]
theorem qso (t : TypeId) (x y z : Operand) : qal P Gl n all draw (⟨dst, .mapUpdate t x y z, ty, pos, af, none⟩ :: rest) env σ KK = (qb4 n dst = true ∧ evG Gl env x = true ∧ evG Gl env y = true ∧ evG Gl env z = true ∧ qb9 P Gl σ env (.mapUpdate t x y z) ∧ qal P Gl n all draw rest (putE env dst (opV P Gl σ env (.mapUpdate t x y z))) (opS P Gl σ env (.mapUpdate t x y z)) KK) := by
 simp [qal, qaw, qdh, gdL, Op.operands, and_assoc]
theorem q8w (t : TypeId) (x y z : Operand) : qal P Gl n all draw (⟨dst, .insert t x y z, ty, pos, af, none⟩ :: rest) env σ KK = (qb4 n dst = true ∧ evG Gl env x = true ∧ evG Gl env y = true ∧ evG Gl env z = true ∧ qb9 P Gl σ env (.insert t x y z) ∧ qal P Gl n all draw rest (putE env dst (opV P Gl σ env (.insert t x y z))) (opS P Gl σ env (.insert t x y z)) KK) := by
 simp [qal, qaw, qdh, gdL, Op.operands, and_assoc]
theorem q2t (t : TypeId) : qal P Gl n all draw (⟨dst, .makeMap t none, ty, pos, af, none⟩ :: rest) env σ KK = (qb4 n dst = true ∧ qb9 P Gl σ env (.makeMap t none) ∧ qal P Gl n all draw rest (putE env dst (opV P Gl σ env (.makeMap t none))) (opS P Gl σ env (.makeMap t none)) KK) := by
 simp [qal, qaw, qdh, gdL, Op.operands, and_assoc]
theorem Qlr (c x y : Operand) : qal P Gl n all draw (⟨dst, .pick c x y, ty, pos, af, none⟩ :: rest) env σ KK = (qb4 n dst = true ∧ evG Gl env c = true ∧ ((evU Gl env c).truth = true → evG Gl env x = true) ∧ ((evU Gl env c).truth = false → evG Gl env y = true) ∧ (evU Gl env c).isBoolv = true ∧
  qal P Gl n all draw rest (putE env dst (qy9 (evU Gl env c).truth (evU Gl env x) (evU Gl env y))) σ KK) := by
 simp [qal, qaw, qdh, qb9, opV, opS, and_assoc]
theorem Qlz (c x y : Operand) {j : Nat} {b : Bool} : qal P Gl n all draw (⟨dst, .pick c x y, ty, pos, af, some (j, b)⟩ :: rest) env σ KK = (qb4 n dst = true ∧ qbi (qaz all env j) = true ∧ (qaj (qaz all env j) b = true → evG Gl env c = true) ∧
  (qaj (qaz all env j) b = true → (evU Gl env c).truth = true → evG Gl env x = true) ∧ (qaj (qaz all env j) b = true → (evU Gl env c).truth = false → evG Gl env y = true) ∧ (qaj (qaz all env j) b = true → (evU Gl env c).isBoolv = true) ∧
  qal P Gl n all draw rest (putE env dst (.iff (qaj (qaz all env j) b) (qy9 (evU Gl env c).truth (evU Gl env x) (evU Gl env y)))) σ KK) := by
 simp [qal, qaw, qdh, qb9, opV, qbj, qcl, and_assoc]
theorem Qds (t : TypeId) (l : List (Nat × Operand)) : qal P Gl n all draw (⟨dst, .build t l.toArray, ty, pos, af, none⟩ :: rest) env σ KK = (qb4 n dst = true ∧ gdL Gl env true (l.map (·.2)) ∧ qb9 P Gl σ env (.build t l.toArray) ∧
  qal P Gl n all draw rest (putE env dst (opV P Gl σ env (.build t l.toArray))) σ KK) := by
 simp [qal, qaw, qdh, Op.operands, opS]
theorem Qfk (t : TypeId) (l : List (Nat × Operand)) {j : Nat} {b : Bool} : qal P Gl n all draw (⟨dst, .build t l.toArray, ty, pos, af, some (j, b)⟩ :: rest) env σ KK = (qb4 n dst = true ∧ qbi (qaz all env j) = true ∧ gdL Gl env (qaj (qaz all env j) b) (l.map (·.2)) ∧ (qaj (qaz all env j) b = true → qb9 P Gl σ env (.build t l.toArray)) ∧
  qal P Gl n all draw rest (putE env dst (.iff (qaj (qaz all env j) b) (opV P Gl σ env (.build t l.toArray)))) σ KK) := by
 simp [qal, qaw, qdh, Op.operands, qbj, qcl]
theorem qou (t : TypeId) (k : Nat) (l : List (Nat × Operand)) : qal P Gl n all draw (⟨dst, .buildSlice t k l.toArray, ty, pos, af, none⟩ :: rest) env σ KK = (qb4 n dst = true ∧ gdL Gl env true (l.map (·.2)) ∧ qb9 P Gl σ env (.buildSlice t k l.toArray) ∧
  qal P Gl n all draw rest (putE env dst (opV P Gl σ env (.buildSlice t k l.toArray))) (opS P Gl σ env (.buildSlice t k l.toArray)) KK) := by
 simp [qal, qaw, qdh, Op.operands]
theorem qoz (t : TypeId) (k : Nat) (l : List (Nat × Operand)) {j : Nat} {b : Bool} : qal P Gl n all draw (⟨dst, .buildSlice t k l.toArray, ty, pos, af, some (j, b)⟩ :: rest) env σ KK = (qb4 n dst = true ∧ qbi (qaz all env j) = true ∧ qaj (qaz all env j) b = true ∧ gdL Gl env true (l.map (·.2)) ∧ qb9 P Gl σ env (.buildSlice t k l.toArray) ∧
  qal P Gl n all draw rest (putE env dst (.iff true (opV P Gl σ env (.buildSlice t k l.toArray)))) (opS P Gl σ env (.buildSlice t k l.toArray)) KK) := by
 simp [qal, qaw, qdh, Op.operands, qcl]
theorem qxr (f : FuncId) (l : List Operand) : qal P Gl n all draw (⟨dst, .makeFunc (.func f) #[] l.toArray, ty, pos, af, none⟩ :: rest) env σ KK = (qb4 n dst = true ∧ gdL Gl env true l ∧
  qal P Gl n all draw rest (putE env dst (.fn f (l.map (evU Gl env)))) σ KK) := by
 simp [qal, qaw, qdh, Op.operands, qb9, opV, opS]
theorem q2w (bi : Builtin) (l : List Operand) (ts : List TypeId) : qal P Gl n all draw (⟨dst, .call ⟨.builtin bi, l.toArray, ts.toArray⟩, ty, pos, af, none⟩ :: rest) env σ KK = (qb4 n dst = true ∧ gdL Gl env true l ∧ qz3 P Gl σ env bi l ts ∧
  qal P Gl n all draw rest (putE env dst (biV Gl σ env bi l)) (biS P Gl σ env bi l ts) KK) := by
 simp [qal, qaw, qdh, Op.operands, Call.operands, qb9, opV, opS]
theorem q3u (bi : Builtin) (l : List Operand) (ts : List TypeId) {j : Nat} {b : Bool} : qal P Gl n all draw (⟨dst, .call ⟨.builtin bi, l.toArray, ts.toArray⟩, ty, pos, af, some (j, b)⟩ :: rest) env σ KK = (qb4 n dst = true ∧ qbj (.call ⟨.builtin bi, l.toArray, ts.toArray⟩) = true ∧ qbi (qaz all env j) = true ∧
  gdL Gl env (qaj (qaz all env j) b) l ∧ (qaj (qaz all env j) b = true → qz3 P Gl σ env bi l ts) ∧ qal P Gl n all draw rest (putE env dst (.iff (qaj (qaz all env j) b) (biV Gl σ env bi l))) σ KK) := by
 simp [qal, qaw, qdh, Op.operands, Call.operands, qb9, opV, qcl]
theorem Qlu (f : Operand) (l : List Operand) (ts : List TypeId) : qal P Gl n all draw (⟨dst, .call ⟨.value f, l.toArray, ts.toArray⟩, ty, pos, af, none⟩ :: rest) env σ KK = (qb4 n dst = true ∧ evG Gl env f = true ∧ gdL Gl env true l ∧
  qfp P Gl n all draw dst rest (evU Gl env f) (l.map (evU Gl env)) env σ KK) := by
 have hl : (#[f] ++ l.toArray).toList = f :: l := by simp
 simp only [qal, qaw, qdh, Op.operands, Call.operands, qc5, qfp, hl, gdL]
 have hno : (∀ s, Ext σ s → False) = False := eq_false fun h => h σ (Ext.refl σ)
 cases evU Gl env f <;> cases draw <;> simp [and_assoc, hno]
theorem Ql2 (f : Operand) (l : List Operand) (ts : List TypeId) {j : Nat} {b : Bool} : qal P Gl n all draw (⟨dst, .call ⟨.value f, l.toArray, ts.toArray⟩, ty, pos, af, some (j, b)⟩ :: rest) env σ KK = (qb4 n dst = true ∧ qbi (qaz all env j) = true ∧ (qaj (qaz all env j) b = true → evG Gl env f = true) ∧ gdL Gl env (qaj (qaz all env j) b) l ∧
  qtt P Gl n all draw dst rest (qaj (qaz all env j) b) (evU Gl env f) (l.map (evU Gl env)) env σ KK) := by
 have hl : (#[f] ++ l.toArray).toList = f :: l := by simp
 simp only [qal, qaw, qdh, Op.operands, Call.operands, qc5, qtt, qbj, qcl, Bool.false_eq_true, if_false, hl, gdL]
 have hno : (∀ s, Ext σ s → False) = False := eq_false fun h => h σ (Ext.refl σ)
 cases evU Gl env f <;> simp [and_assoc, hno]
end
end
theorem qys : type_of% (And.intro @qoz (And.intro @q3w (And.intro @q3x (And.intro @q6v (And.intro @q86 (And.intro @q3k (And.intro @q9l (And.intro @qtk (And.intro @qtj (And.intro @Qf2 (And.intro @q9o (And.intro @qyf (And.intro @q30 (And.intro @q3y (And.intro @q9n (And.intro @Qf3 (And.intro @qm3 (And.intro @qu0 (And.intro @q0i (And.intro @qty (And.intro @ql6 (And.intro @qyk (And.intro @q3v (And.intro @Qls (And.intro @Ql0 (And.intro @q8x (And.intro @q9d (And.intro @Qdu (And.intro @Qqo (And.intro @Qlt (And.intro @Ql1 (And.intro @Qdn (And.intro @qxq (And.intro @qx9 (And.intro @Qdt (And.intro @Qfl (And.intro @Qlq (And.intro @Qly (And.intro @q2v (And.intro @q3t (And.intro @qsp (And.intro @q2s (And.intro @q3r (And.intro @q2q (And.intro @q3p (And.intro @q2r (And.intro (And.intro @q8u @q3q) (And.intro @q2p (And.intro @q3o (And.intro @qsr (And.intro @qtg (And.intro @Qdq (And.intro @Qfj (And.intro @qsq (And.intro @qtf (And.intro @Qdp (And.intro @Qfi (And.intro @q2u (And.intro @q3s (And.intro @q8v (And.intro @q9c (And.intro @qso (And.intro @q8w (And.intro @q2t (And.intro @Qlr (And.intro @Qlz (And.intro @Qds (And.intro @Qfk (And.intro @qou (And.intro @qxr (And.intro @q2w (And.intro @q3u (And.intro @Qlu (@Ql2)))))))))))))))))))))))))))))))))))))))))))))))))))))))))))))))))))))))))) := And.intro @qoz (And.intro @q3w (And.intro @q3x (And.intro @q6v (And.intro @q86 (And.intro @q3k (And.intro @q9l (And.intro @qtk (And.intro @qtj (And.intro @Qf2 (And.intro @q9o (And.intro @qyf (And.intro @q30 (And.intro @q3y (And.intro @q9n (And.intro @Qf3 (And.intro @qm3 (And.intro @qu0 (And.intro @q0i (And.intro @qty (And.intro @ql6 (And.intro @qyk (And.intro @q3v (And.intro @Qls (And.intro @Ql0 (And.intro @q8x (And.intro @q9d (And.intro @Qdu (And.intro @Qqo (And.intro @Qlt (And.intro @Ql1 (And.intro @Qdn (And.intro @qxq (And.intro @qx9 (And.intro @Qdt (And.intro @Qfl (And.intro @Qlq (And.intro @Qly (And.intro @q2v (And.intro @q3t (And.intro @qsp (And.intro @q2s (And.intro @q3r (And.intro @q2q (And.intro @q3p (And.intro @q2r (And.intro (And.intro @q8u @q3q) (And.intro @q2p (And.intro @q3o (And.intro @qsr (And.intro @qtg (And.intro @Qdq (And.intro @Qfj (And.intro @qsq (And.intro @qtf (And.intro @Qdp (And.intro @Qfi (And.intro @q2u (And.intro @q3s (And.intro @q8v (And.intro @q9c (And.intro @qso (And.intro @q8w (And.intro @q2t (And.intro @Qlr (And.intro @Qlz (And.intro @Qds (And.intro @Qfk (And.intro @qou (And.intro @qxr (And.intro @q2w (And.intro @q3u (And.intro @Qlu (@Ql2)))))))))))))))))))))))))))))))))))))))))))))))))))))))))))))))))))))))))
end Go.AM


set_option linter.unusedSimpArgs false
namespace Go.AM
section
variable {P : Program} {Gl : qa5} {env : Env} {σ : Sto} {n : Nat}
theorem qr2 (s t : Nat) (v : AV) (r : Env) : qd0 ((s, v) :: r) t = if s = t then v else qd0 r t := rfl
theorem qwo (t : Nat) : qd0 [] t = .undef := rfl
theorem qrb (d : Nat) (v : AV) : putE env (some d) v = (d, v) :: env := rfl
theorem qrc (v : AV) : putE env none v = env := rfl
theorem qwt (d : Nat) : (qb4 n (some d) = true) = (d < n) := by simp [qb4]
theorem qwu : (qb4 n none = true) = True := by simp [qb4]
theorem Qgf (v : Value) : (qfn v).vg = true ∧ (qfn v).un = qfn v := by unfold qfn; split <;> exact ⟨rfl, rfl⟩
theorem Qid (l : List AV) : (qfs l).vg = true ∧ (qfs l).un = qfs l := by unfold qfs; split <;> exact ⟨rfl, rfl⟩
theorem q3z (v : Value) : (qc0 v).vg = true ∧ (qc0 v).un = qc0 v := by
 unfold qc0; split
 ·split
  ·exact Qid _
  ·exact ⟨rfl, rfl⟩
 ·exact Qgf _
theorem q19 (t : Nat) : evG Gl env (.tmp t) = (qd0 env t).vg := rfl
theorem qr7 (v : Value) : evG Gl env (.const v) = true := (q3z v).1
theorem qwr (f : FuncId) : evG Gl env (.func f) = true := rfl
theorem q89 (g : Nat) : (q3l Gl g).vg = true ∧ (q3l Gl g).un = q3l Gl g := by unfold q3l; split <;> exact ⟨rfl, rfl⟩
theorem qod (g : Nat) : evG Gl env (.global g) = true := (q89 g).1
theorem q18 (t : Nat) : evU Gl env (.tmp t) = (qd0 env t).un := rfl
theorem qr6 (v : Value) : evU Gl env (.const v) = qc0 v := (q3z v).2
theorem qwq (f : FuncId) : evU Gl env (.func f) = .fn f [] := rfl
theorem qoc (g : Nat) : evU Gl env (.global g) = q3l Gl g := (q89 g).2
theorem Qk8 (x : D) : (AV.d x).un = .d x := rfl
theorem q05 : AV.nils.un = .nils := rfl
theorem q7k (l : List AV) : (AV.agg l).un = .agg l := rfl
theorem q7h (i o : Nat) : (AV.ptr i o).un = .ptr i o := rfl
theorem q07 (e : Nat) (xs : List D) (i o : Nat) : (AV.eptr e xs i o).un = .eptr e xs i o := rfl
theorem q08 (j i o : Nat) : (AV.aptr j i o).un = .aptr j i o := rfl
theorem q7i (j i o : Nat) : (AV.osl j i o).un = .osl j i o := rfl
theorem Qcv (f : FuncId) (c : List AV) : (AV.fn f c).un = .fn f c := rfl
theorem q7g (l : List AV) : (AV.tup l).un = .tup l := rfl
theorem q7j (g : Bool) (v : AV) : (AV.iff g v).un = v := rfl
theorem Qk7 (x : D) : (AV.d x).vg = true := rfl
theorem q0u : AV.nils.vg = true := rfl
theorem q7c (l : List AV) : (AV.agg l).vg = true := rfl
theorem q69 (i o : Nat) : (AV.ptr i o).vg = true := rfl
theorem q0w (e : Nat) (xs : List D) (i o : Nat) : (AV.eptr e xs i o).vg = true := rfl
theorem q0x (j i o : Nat) : (AV.aptr j i o).vg = true := rfl
theorem q7a (j i o : Nat) : (AV.osl j i o).vg = true := rfl
theorem Qct (f : FuncId) (c : List AV) : (AV.fn f c).vg = true := rfl
theorem q68 (l : List AV) : (AV.tup l).vg = true := rfl
theorem q7b (g : Bool) (v : AV) : (AV.iff g v).vg = g := rfl
theorem qog (k : IntKind) (i : Int) : qc0 (.int k i) = .d (.int k i) := rfl
theorem qlf (b : Bool) : qc0 (.bool b) = .d (.bool b) := rfl
theorem qof (s : ByteArray) : qc0 (.string s) = .d (.str s.data.toList) := rfl
theorem qle : qc0 (.slice none 0 0) = .nils := rfl
theorem q15 (g : Bool) : gdL Gl env g [] = True := rfl
theorem qwp (g : Bool) (x : Operand) (r : List Operand) : gdL Gl env g (x :: r) = ((g = true → evG Gl env x = true) ∧ gdL Gl env g r) := rfl
theorem Qcx (b : Bool) : (AV.d (.bool b)).truth = b := rfl
theorem q12 (b : Bool) : (AV.d (.bool b)).isBoolv = true := rfl
theorem q75 (k : IntKind) (i : Int) : (AV.d (.int k i)).isIntv = true := rfl
theorem Qqb (k : IntKind) (i : Int) : (AV.d (.int k i)).num = i := rfl
theorem qnd (b : Bool) : qbi (.d (.bool b)) = true := rfl
theorem qjk (g b : Bool) : qbi (.iff g (.d (.bool b))) = true := rfl
theorem qnc (x b : Bool) : qaj (.d (.bool x)) b = (x == b) := rfl
theorem qjj (g x b : Bool) : qaj (.iff g (.d (.bool x))) b = (g && (x == b)) := rfl
theorem q4p {dst : Option Tmp} {op : Op} {ty : TypeId} {pos : String} {af : Array Edge} {g : Option (Nat × Bool)} (l : List Oper) : qaz ((⟨dst, op, ty, pos, af, g⟩ :: l).toArray) env 0 = (match dst with | some d => qd0 env d | none => .undef) := by
 cases dst <;> simp [qaz]
theorem qh7 (o : Oper) (l : List Oper) (j : Nat) : qaz ((o :: l).toArray) env (j + 1) = qaz l.toArray env j := by simp [qaz]
theorem qnk (c p q : Bool) : qy9 c (.d (.bool p)) (.d (.bool q)) = .d (.bool (bif c then p else q)) := rfl
theorem qrd (c : Bool) (k k' : IntKind) (p q : Int) : qy9 c (.d (.int k p)) (.d (.int k' q)) = .d (bif c then .int k p else .int k' q) := rfl
theorem Qll (B : Blk) (σ : Sto) : qaa (B :: σ) 0 = B := rfl
theorem Qde (B : Blk) (σ : Sto) (i : Nat) : qaa (B :: σ) (i + 1) = qaa σ i := by simp [qaa]
theorem Qlk (k : Nat) (v : AV) : (Blk.box k v).boxN = k := rfl
theorem Qlj (k : Nat) (v : AV) : (Blk.box k v).boxV = v := rfl
theorem Qc8 (k : Nat) (v : AV) : (Blk.box k v).isBox = true := rfl
theorem qwi (es : Nat) (xs : List D) : (Blk.arr es xs).isOwnArr = true := rfl
theorem Qc9 (es : Nat) (xs : List D) : (Blk.arr es xs).isArr = true := rfl
theorem q77 (es : Nat) (xs : List D) : (Blk.frz es xs).isArr = true := rfl
theorem Qsm (es : Nat) (xs : List D) : (Blk.arr es xs).es = es := rfl
theorem Qqe (es : Nat) (xs : List D) : (Blk.frz es xs).es = es := rfl
theorem Qsj (es : Nat) (xs : List D) : (Blk.arr es xs).xs = xs := rfl
theorem Qp8 (es : Nat) (xs : List D) : (Blk.frz es xs).xs = xs := rfl
theorem Qqa (es : Nat) (xs : List D) : (Blk.arr es xs).own = true := rfl
theorem Qla (es : Nat) (xs : List D) : (Blk.frz es xs).own = false := rfl
theorem qwh (g : Bool) (k id off : Nat) : Qap σ g k (.ptr id off) = ((qaa σ id).isBox = true ∧ qlo (qaa σ id).boxN off k g (qaa σ id).boxV.isAgg) := rfl
theorem qro (g : Bool) (k es : Nat) (xs : List D) (i off : Nat) : Qap σ g k (.eptr es xs i off) = (i < xs.length ∧ qlo es off k g (xs.getD i default).isAgg) := rfl
theorem qrp (g : Bool) (k id i off : Nat) : Qap σ g k (.aptr id i off) = ((qaa σ id).isArr = true ∧ i < (qaa σ id).xs.length ∧ qlo (qaa σ id).es off k g ((qaa σ id).xs.getD i default).isAgg) := rfl
theorem q1z (g : Bool) (k id off : Nat) : ldV σ g k (.ptr id off) = (qaa σ id).boxV.partV (qaa σ id).boxN off k g := rfl
theorem qwf (g : Bool) (k es : Nat) (xs : List D) (i off : Nat) : ldV σ g k (.eptr es xs i off) = .d ((xs.getD i default).partD es off k g) := rfl
theorem qwg (g : Bool) (k id i off : Nat) : ldV σ g k (.aptr id i off) = .d (((qaa σ id).xs.getD i default).partD (qaa σ id).es off k g) := rfl
theorem q72 (N off k : Nat) (g whole : Bool) : qlo N off k g whole = (off + k ≤ N ∧ (if off = 0 ∧ k = N then whole = g else (whole = true ∧ (g = true ∨ k = 1)))) := rfl
theorem q1r (x : D) (N off k : Nat) (g : Bool) : (AV.d x).partV N off k g = .d (x.partD N off k g) := by
 unfold AV.partV D.partD; split
 ·rfl
 ·split <;> rfl
theorem Qc2 (v : AV) (N off k : Nat) (g : Bool) : v.partV N off k g = if off = 0 ∧ k = N then v else if g = true then v.subV off k else v.cellAt off := rfl
theorem Qc3 (x : D) (N off k : Nat) (g : Bool) : x.partD N off k g = if off = 0 ∧ k = N then x else if g = true then x.sub off k else x.cell off := rfl
theorem q7n (x : D) (o k : Nat) : (AV.d x).subV o k = .d (x.sub o k) := rfl
theorem qww (x : D) (j : Nat) : (AV.d x).cellAt j = .d (x.cell j) := rfl
theorem qok (l : List AV) (j : Nat) : (AV.agg l).cellAt j = l.getD j .undef := rfl
theorem qvl (k id off : Nat) (u : AV) : Qpw σ k u (.ptr id off) = ((qaa σ id).isBox = true ∧ off + k ≤ (qaa σ id).boxN ∧ u.storable = true ∧ u.ncells = k) := rfl
theorem qqq (k id i off : Nat) (u : AV) : Qpw σ k u (.aptr id i off) = ((qaa σ id).isOwnArr = true ∧ i < (qaa σ id).xs.length ∧ off + k ≤ (qaa σ id).es ∧ u.isD σ = true ∧ (u.toD σ).cells.length = k ∧ (¬ id ∈ u.refs)) := rfl
theorem q1e (k id off : Nat) (u : AV) : stS σ k u (.ptr id off) = σ.set id (.box (qaa σ id).boxN (Qlm (qaa σ id).boxV (qaa σ id).boxN off k u)) := rfl
theorem qvk (k id i off : Nat) (u : AV) : stS σ k u (.aptr id i off) = (freezeL σ u.refs).set id (.arr (qaa σ id).es ((qaa σ id).xs.set i (((qaa σ id).xs.getD i default).putAt (qaa σ id).es off k (u.toD σ)))) := rfl
theorem Qk9 (v : AV) (N off k : Nat) (u : AV) : Qlm v N off k u = if off = 0 ∧ k = N then u else qfs ((List.range N).map fun j => if off ≤ j ∧ j < off + k then u.cellAt (j - off) else v.cellAt j) := rfl
theorem q13 (x : D) : (AV.d x).isAgg = x.isAgg := rfl
theorem qry (l : List AV) : (AV.agg l).isAgg = true := rfl
theorem qrx (i o k : Nat) : (AV.osl i o k).isAgg = false := rfl
theorem qn5 : AV.nils.isAgg = false := rfl
theorem qnb (x : D) : (AV.d x).storable = true := rfl
theorem qji (l : List AV) : (AV.agg l).storable = true := rfl
theorem qjh (i o k : Nat) : (AV.osl i o k).storable = true := rfl
theorem qh3 : AV.nils.storable = true := rfl
theorem qv8 (x : D) : (AV.d x).ncells = x.cells.length := rfl
theorem qny (l : List AV) : (AV.agg l).ncells = l.length := rfl
theorem qnx (i o k : Nat) : (AV.osl i o k).ncells = 1 := rfl
theorem qk4 : AV.nils.ncells = 1 := rfl
theorem Qc7 (x : D) : (AV.d x).isD σ = true := rfl
theorem qwj : AV.nils.isD σ = true := rfl
theorem q10 (i o k : Nat) : (AV.osl i o k).isD σ = (qaa σ i).isArr := rfl
theorem q11 (l : List AV) : (AV.agg l).isD σ = l.all (q3j σ) := rfl
theorem Qcy (x : D) : (AV.d x).toD σ = x := rfl
theorem qvi : AV.nils.toD σ = .sl [] := rfl
theorem q1c (i o k : Nat) : (AV.osl i o k).toD σ = .sl (((qaa σ i).xs.drop o).take k) := rfl
theorem q1d (l : List AV) : (AV.agg l).toD σ = .agg (l.map (q6q σ)) := rfl
theorem q7z (x : D) : (AV.d x).refs = [] := rfl
theorem qq9 : AV.nils.refs = [] := rfl
theorem qv0 (i o k : Nat) : (AV.osl i o k).refs = [i] := rfl
theorem qv1 (l : List AV) : (AV.agg l).refs = l.flatMap q4m := rfl
theorem qlc : freezeL σ [] = σ := rfl
theorem qf6 (i : Nat) (l : List Nat) : freezeL σ (i :: l) = freezeL (freeze σ i) l := rfl
theorem q17 (B : Blk) : freeze (B :: σ) 0 = B.frozen :: σ := rfl
theorem q16 (B : Blk) (i : Nat) : freeze (B :: σ) (i + 1) = B :: freeze σ i := by simp [freeze, Qde]
theorem q8l (es : Nat) (xs : List D) : (Blk.arr es xs).frozen = .frz es xs := rfl
theorem qru (i o : Nat) : (AV.ptr i o).isPtr = true := rfl
theorem qnz (e : Nat) (xs : List D) (i o : Nat) : (AV.eptr e xs i o).isPtr = true := rfl
theorem qn0 (j i o : Nat) : (AV.aptr j i o).isPtr = true := rfl
theorem qqr (i o k : Nat) : (AV.ptr i o).shift k = .ptr i (o + k) := rfl
theorem qne (e : Nat) (xs : List D) (i o k : Nat) : (AV.eptr e xs i o).shift k = .eptr e xs i (o + k) := rfl
theorem qnf (j i o k : Nat) : (AV.aptr j i o).shift k = .aptr j i (o + k) := rfl
theorem qns (i o : Nat) : (AV.ptr i o).notNil = true := rfl
theorem qk2 (e : Nat) (xs : List D) (i o : Nat) : (AV.eptr e xs i o).notNil = true := rfl
theorem qk3 (j i o : Nat) : (AV.aptr j i o).notNil = true := rfl
theorem qrj (f : FuncId) (c : List AV) : (AV.fn f c).notNil = true := rfl
theorem qsb (l : List D) : (D.agg l).cells = l := rfl
theorem qos (l : List D) : (D.agg l).isAgg = true := rfl
theorem qor (k : IntKind) (i : Int) : (D.int k i).isAgg = false := rfl
theorem qll (b : Bool) : (D.bool b).isAgg = false := rfl
theorem qoq (s : List UInt8) : (D.str s).isAgg = false := rfl
theorem qsk (l : List D) : (D.sl l).isAgg = false := rfl
theorem qsa (k : IntKind) (i : Int) : (D.int k i).cells = [.int k i] := rfl
theorem qoh (b : Bool) : (D.bool b).cells = [.bool b] := rfl
theorem qr9 (s : List UInt8) : (D.str s).cells = [.str s] := rfl
theorem qwv (l : List D) : (D.sl l).cells = [.sl l] := rfl
theorem Qc1 (x : D) (N off k : Nat) (u : D) : x.putAt N off k u = if off = 0 ∧ k = N then u else .agg ((List.range N).map fun j => if off ≤ j ∧ j < off + k then u.cell (j - off) else x.cell j) := rfl
theorem qwz (o : BinOp) (x : D) (k : IntKind) (i : Int) : Qhe o (.d x) (.d (.int k i)) = .d (qmf o x (.int k i)) := rfl
theorem qse (o : BinOp) (x : D) (b : Bool) : Qhe o (.d x) (.d (.bool b)) = .d (qmf o x (.bool b)) := rfl
theorem qwx (o : BinOp) (x : D) (l : List UInt8) : Qhe o (.d x) (.d (.str l)) = .d (qmf o x (.str l)) := rfl
theorem qw0 (o : BinOp) (x : D) (l : List D) : Qhe o (.d x) (.d (.agg l)) = .d (qmf o x (.agg l)) := rfl
theorem qsd (o : BinOp) (u : AV) : Qhe o u .nils = qih o (qcy u) := rfl
theorem qwy (o : BinOp) (u : AV) (v : Value) : Qhe o u (.d (.raw v)) = qih o (qcy u) := rfl
theorem qnu (a : AV) : qih .eql a = a := rfl
theorem qnt (b : Bool) : qih .neq (.d (.bool b)) = .d (.bool (!b)) := rfl
theorem qnv : qih .neq .anyb = .anyb := rfl
theorem qk6 : qcy .nils = .d (.bool true) := rfl
theorem qn1 (v : Value) : qcy (.d (.raw v)) = .d (.bool true) := rfl
theorem qn4 : qcy (.d (.sl [])) = .anyb := rfl
theorem qk9 (x : D) (l : List D) : qcy (.d (.sl (x :: l))) = .d (.bool false) := rfl
theorem qn3 (i o k : Nat) : qcy (.osl i o k) = if k = 0 then .anyb else .d (.bool false) := rfl
theorem qn2 (i o : Nat) : qcy (.ptr i o) = .d (.bool false) := rfl
theorem qk8 (e : Nat) (xs : List D) (i o : Nat) : qcy (.eptr e xs i o) = .d (.bool false) := rfl
theorem qla (j i o : Nat) : qcy (.aptr j i o) = .d (.bool false) := rfl
theorem qk7 (i : Nat) : qcy (.mapr i) = .d (.bool false) := rfl
theorem qsg (t : TypeId) (o : BinOp) (x : D) (k : IntKind) (i : Int) : qhp P t o (.d x) (.d (.int k i)) = qew P t o x (.int k i) := rfl
theorem qol (t : TypeId) (o : BinOp) (x : D) (b : Bool) : qhp P t o (.d x) (.d (.bool b)) = qew P t o x (.bool b) := rfl
theorem qsf (t : TypeId) (o : BinOp) (x : D) (l : List UInt8) : qhp P t o (.d x) (.d (.str l)) = qew P t o x (.str l) := rfl
theorem qsh (t : TypeId) (o : BinOp) (x : D) (l : List D) : qhp P t o (.d x) (.d (.agg l)) = qew P t o x (.agg l) := rfl
theorem qgj (t : TypeId) (o : BinOp) : qhp P t o .nils .nils = ((o = .eql ∨ o = .neq) ∧ (qb5 P t).isSome = true) := rfl
theorem qia (t : TypeId) (o : BinOp) (l : List D) : qhp P t o (.d (.sl l)) .nils = ((o = .eql ∨ o = .neq) ∧ (qb5 P t).isSome = true) := rfl
theorem qhf (t : TypeId) (o : BinOp) (i j k : Nat) : qhp P t o (.osl i j k) .nils = ((o = .eql ∨ o = .neq) ∧ (qb5 P t).isSome = true) := rfl
theorem qh8 (t : TypeId) (o : BinOp) (i j : Nat) : qhp P t o (.ptr i j) (.d (.raw (.pointer none))) = ((o = .eql ∨ o = .neq) ∧ q96 P t = true) := rfl
theorem qhd (t : TypeId) (o : BinOp) (e : Nat) (xs : List D) (i j : Nat) : qhp P t o (.eptr e xs i j) (.d (.raw (.pointer none))) = ((o = .eql ∨ o = .neq) ∧ q96 P t = true) := rfl
theorem qhe (t : TypeId) (o : BinOp) (k i j : Nat) : qhp P t o (.aptr k i j) (.d (.raw (.pointer none))) = ((o = .eql ∨ o = .neq) ∧ q96 P t = true) := rfl
theorem qh9 (t : TypeId) (o : BinOp) : qhp P t o (.d (.raw (.pointer none))) (.d (.raw (.pointer none))) = ((o = .eql ∨ o = .neq) ∧ q96 P t = true) := rfl
theorem qhg (t : TypeId) (o : BinOp) (i : Nat) : qhp P t o (.mapr i) (.d (.raw (.map none))) = ((o = .eql ∨ o = .neq) ∧ (qhq P t).isSome = true) := rfl
theorem qib (t : TypeId) (o : BinOp) : qhp P t o (.d (.raw (.map none))) (.d (.raw (.map none))) = ((o = .eql ∨ o = .neq) ∧ (qhq P t).isSome = true) := rfl
theorem q06 (i : Nat) : (AV.mapr i).un = .mapr i := rfl
theorem q09 : AV.anyb.un = .anyb := rfl
theorem q0v (i : Nat) : (AV.mapr i).vg = true := rfl
theorem q0y : AV.anyb.vg = true := rfl
theorem qh4 (i : Nat) : (AV.mapr i).storable = true := rfl
theorem qjg (i o : Nat) : (AV.ptr i o).storable = true := rfl
theorem qku (f : FuncId) (c : List AV) : (AV.fn f c).storable = true := rfl
theorem qk5 (i : Nat) : (AV.mapr i).ncells = 1 := rfl
theorem qnw (i o : Nat) : (AV.ptr i o).ncells = 1 := rfl
theorem qrk (f : FuncId) (c : List AV) : (AV.fn f c).ncells = 1 := rfl
theorem qn6 (i : Nat) : (AV.mapr i).isAgg = false := rfl
theorem qrw (i o : Nat) : (AV.ptr i o).isAgg = false := rfl
theorem qwl (f : FuncId) (c : List AV) : (AV.fn f c).isAgg = false := rfl
theorem qlh (i j : Nat) : (AV.mapr i).cellAt j = .mapr i := rfl
theorem qoi (i o j : Nat) : (AV.ptr i o).cellAt j = .ptr i o := rfl
theorem qoj (i o k j : Nat) : (AV.osl i o k).cellAt j = .osl i o k := rfl
theorem qlg (j : Nat) : AV.nils.cellAt j = .nils := rfl
theorem qsc (f : FuncId) (c : List AV) (j : Nat) : (AV.fn f c).cellAt j = .fn f c := rfl
theorem qsj (i : Nat) (r : List AV) : qyp (.mapr i :: r) = none := rfl
theorem q2j (f : FuncId) (c : List AV) (r : List AV) : qyp (.fn f c :: r) = none := rfl
theorem Qc6 (ik : Option IntKind) (f : Key → Option AV) : (Blk.map ik f).isMap = true := rfl
theorem Qsk (ik : Option IntKind) (f : Key → Option AV) : (Blk.map ik f).mk = ik := rfl
theorem Qsl (ik : Option IntKind) (f : Key → Option AV) : (Blk.map ik f).mf = f := rfl
theorem qrt (k : IntKind) (i : Int) : qci (.d (.int k i)) = .i i := rfl
theorem qrs (l : List UInt8) : qci (.d (.str l)) = .s l := rfl
theorem qrr (ik : Option IntKind) (k : IntKind) (i : Int) : qi6 ik (.d (.int k i)) = (ik = some k) := rfl
theorem qrq (ik : Option IntKind) (l : List UInt8) : qi6 ik (.d (.str l)) = (ik = none) := rfl
theorem qrn (ik : Option IntKind) (i : Nat) : Qlw σ ik (.mapr i) = ((qaa σ i).isMap = true ∧ (qaa σ i).mk = ik) := rfl
theorem qwc (ik : Option IntKind) : Qlw σ ik (.d (.raw (.map none))) = True := rfl
theorem qwd (i : Nat) (k : Key) : lkF σ (.mapr i) k = (qaa σ i).mf k := rfl
theorem q1w (v : Value) (k : Key) : lkF σ (.d (.raw v)) k = none := rfl
theorem Qc4 (z m k : AV) : lkV σ z m k true = .tup [(lkF σ m (qci k)).getD z, .d (.bool (lkF σ m (qci k)).isSome)] := rfl
theorem Qc5 (z m k : AV) : lkV σ z m k false = (lkF σ m (qci k)).getD z := rfl
theorem Qlb (ik : Option IntKind) (i : Nat) (v : AV) : Qoo σ ik (.mapr i) v = ((qaa σ i).isMap = true ∧ (qaa σ i).mk = ik ∧ v.storable = true) := rfl
theorem Qqc (i : Nat) (k : Key) (v : AV) : muS σ k v (.mapr i) = σ.set i (.map (qaa σ i).mk (qfx (qaa σ i).mf k v)) := rfl
theorem Qqd (i : Nat) (k : Key) : mdS σ k (.mapr i) = σ.set i (.map (qaa σ i).mk (Qd0 (qaa σ i).mf k)) := rfl
theorem qrf (t : TypeId) (x y : Operand) (b : Bool) : qb9 P Gl σ env (.lookup t x y b) = (match qhq P t with | some (ik, e) => qi6 ik (evU Gl env y) ∧ Qlw σ ik (evU Gl env x) ∧ (qbm P e).isSome = true | none => False) := rfl
theorem qvd (t : TypeId) (x y : Operand) (b : Bool) : opV P Gl σ env (.lookup t x y b) = (match qhq P t with | some (_, e) => lkV σ (qb7 P e) (evU Gl env x) (evU Gl env y) b | none => .undef) := rfl
theorem qvn (t : TypeId) (x y : Operand) (b : Bool) : opS P Gl σ env (.lookup t x y b) = σ := rfl
theorem qjm (t : TypeId) (x y z : Operand) : qb9 P Gl σ env (.mapUpdate t x y z) = (match qhq P t with | some (ik, _) => qi6 ik (evU Gl env y) ∧ Qoo σ ik (evU Gl env x) (evU Gl env z) | none => False) := rfl
theorem qkq (t : TypeId) (x y z : Operand) : opV P Gl σ env (.mapUpdate t x y z) = .undef := rfl
theorem qkv (t : TypeId) (x y z : Operand) : opS P Gl σ env (.mapUpdate t x y z) = muS σ (qci (evU Gl env y)) (evU Gl env z) (evU Gl env x) := rfl
theorem qrg (t : TypeId) (x y z : Operand) : qb9 P Gl σ env (.insert t x y z) = (match qhq P t with | some (ik, _) => qi6 ik (evU Gl env y) ∧ Qoo σ ik (evU Gl env x) (evU Gl env z) | none => False) := rfl
theorem qve (t : TypeId) (x y z : Operand) : opV P Gl σ env (.insert t x y z) = .undef := rfl
theorem qvo (t : TypeId) (x y z : Operand) : opS P Gl σ env (.insert t x y z) = muS σ (qci (evU Gl env y)) (evU Gl env z) (evU Gl env x) := rfl
theorem qnp (t : TypeId) (r : Option Operand) : qb9 P Gl σ env (.makeMap t r) = (r = none ∧ (qhq P t).isSome = true) := rfl
theorem qqm (t : TypeId) (r : Option Operand) : opV P Gl σ env (.makeMap t r) = .mapr σ.length := rfl
theorem qqy (t : TypeId) (r : Option Operand) : opS P Gl σ env (.makeMap t r) = (match qhq P t with | some (ik, _) => σ ++ [.map ik fun _ => none] | none => σ) := rfl
theorem qjs (m k : Operand) (t t2 : TypeId) : qz3 P Gl σ env .delete [m, k] [t, t2] = (match qhq P t with | some (ik, _) => qi6 ik (evU Gl env k) ∧ Qn3 σ ik (evU Gl env m) | none => False) := rfl
theorem qli (l : List Operand) : biV Gl σ env .delete l = .undef := rfl
theorem qlj (m k : Operand) (ts : List TypeId) : biS P Gl σ env .delete [m, k] ts = mdS σ (qci (evU Gl env k)) (evU Gl env m) := rfl
theorem Qdb (ik : Option IntKind) (i : Nat) : Qn3 σ ik (.mapr i) = ((qaa σ i).isMap = true ∧ (qaa σ i).mk = ik) := rfl
theorem qlk (x : Operand) (t : TypeId) : qz3 P Gl σ env .clear [x] [t] = Qrq P σ t (evU Gl env x) := rfl
theorem qoo (l : List Operand) : biV Gl σ env .clear l = .undef := rfl
theorem qop (x : Operand) (t : TypeId) : biS P Gl σ env .clear [x] [t] = clS P σ t (evU Gl env x) := rfl
theorem Qlh (t : TypeId) (i o k : Nat) : Qrq P σ t (.osl i o k) = ((qaa σ i).isOwnArr = true ∧ (match qb5 P t with | some e => (match qbm P e, qas P e with | some z, some _ => z.cells.size = (qaa σ i).es | _, _ => False) | none => False)) := rfl
theorem Qqh (t : TypeId) : clX P t = (match qb5 P t with | some e => (qas P e).getD default | none => default) := rfl
theorem Qqi (t : TypeId) (i o k : Nat) : clS P σ t (.osl i o k) = σ.set i (.arr (qaa σ i).es (qgs (qaa σ i).xs o k (clX P t))) := rfl
theorem qq4 (ρ : List Nat) (i : Nat) : qbf ρ σ (.mapr i) = (match qca ρ i with | some j => .mapr j | none => .undef) := rfl
theorem qq7 (ρ : List Nat) : qbf ρ σ .anyb = .anyb := rfl
theorem qvz (ρ : List Nat) (ik : Option IntKind) (f : Key → Option AV) : qbu ρ σ (.map ik f) = .map ik fun k => (f k).map (qbf ρ σ) := rfl
theorem qr3 (x y : AV) : (some x).getD y = x := rfl
theorem qr4 (y : AV) : (none : Option AV).getD y = y := rfl
theorem qw3 (o : BinOp) (a b : List UInt8) : qmf o (.str a) (.str b) = qjb o a b := rfl
theorem qid (a b : Bool) : qmf .eql (.bool a) (.bool b) = .bool (a == b) := rfl
theorem qic (a b : Bool) : qmf .neq (.bool a) (.bool b) = .bool (!(a == b)) := rfl
theorem qjr (a b : List D) : qmf .eql (.agg a) (.agg b) = .bool (ql9 a b) := rfl
theorem qjq (a b : List D) : qmf .neq (.agg a) (.agg b) = .bool (!(ql9 a b)) := rfl
theorem qon (t : TypeId) (o : BinOp) (k k' : IntKind) (a b : Int) : qew P t o (.int k a) (.int k' b) = qcz o k k' b := rfl
theorem qom (t : TypeId) (o : BinOp) (a b : List UInt8) : qew P t o (.str a) (.str b) = qd9 o a b := rfl
theorem qgl (t : TypeId) (a b : Bool) : qew P t .eql (.bool a) (.bool b) = (P.underlying t = some .bool) := by simp [qew]
theorem qgk (t : TypeId) (a b : Bool) : qew P t .neq (.bool a) (.bool b) = (P.underlying t = some .bool) := by simp [qew]
theorem qhi (t : TypeId) (a b : List D) : qew P t .eql (.agg a) (.agg b) = (match qyw P t with | some l => qmd l a b = true | none => False) := by unfold qew; cases qyw P t <;> simp
theorem qhh (t : TypeId) (a b : List D) : qew P t .neq (.agg a) (.agg b) = (match qyw P t with | some l => qmd l a b = true | none => False) := by unfold qew; cases qyw P t <;> simp
theorem q1a (b : Bool) : unV .not (.d (.bool b)) = .d (.bool (!b)) := rfl
theorem q1b (k : IntKind) (i : Int) : unV .neg (.d (.int k i)) = .d (.int k (k.wrap (0 - i))) := rfl
theorem qvg (b : Bool) : Qml .not (.d (.bool b)) = True := rfl
theorem qvh (k : IntKind) (i : Int) : Qml .neg (.d (.int k i)) = True := rfl
theorem q74 (xs : List D) : (AV.d (.sl xs)).len = xs.length := rfl
theorem q1x (s : List UInt8) : (AV.d (.str s)).len = s.length := rfl
theorem q1y (i o k : Nat) : (AV.osl i o k).len = k := rfl
theorem qwe : AV.nils.len = 0 := rfl
theorem qr1 (t : TypeId) (xs : List D) : (AV.d (.sl xs)).hasLen P t = (qb5 P t).isSome := rfl
theorem qn8 (t : TypeId) (s : List UInt8) : (AV.d (.str s)).hasLen P t = Qcb P t := rfl
theorem qn9 (t : TypeId) (i o k : Nat) : (AV.osl i o k).hasLen P t = (qb5 P t).isSome := rfl
theorem qlb (t : TypeId) : AV.nils.hasLen P t = (qb5 P t).isSome := rfl
theorem qws (xs : List D) : (AV.d (.sl xs)).elems σ = xs := rfl
theorem qr8 (i o k : Nat) : (AV.osl i o k).elems σ = ((qaa σ i).xs.drop o).take k := rfl
theorem qoe : AV.nils.elems σ = [] := rfl
theorem qwn (es : Nat) (i : Int) (xs : List D) : qzr σ es i (.d (.sl xs)) = (0 ≤ i ∧ i < xs.length ∧ (xs.getD i.toNat default).cells.length = es) := rfl
theorem qrz (es : Nat) (i : Int) (id o k : Nat) : qzr σ es i (.osl id o k) = (0 ≤ i ∧ i < k ∧ (qaa σ id).isArr = true ∧ (qaa σ id).es = es) := rfl
theorem q14 (es : Nat) (i : Int) (xs : List D) : Qqz es i (.d (.sl xs)) = .eptr es xs i.toNat 0 := rfl
theorem qwm (es : Nat) (i : Int) (id o k : Nat) : Qqz es i (.osl id o k) = .aptr id (o + i.toNat) 0 := rfl
theorem Qdc (d s : Operand) (t t2 : TypeId) : qz3 P Gl σ env .copy [d, s] [t, t2] = Qro P σ t (evU Gl env d) (evU Gl env s) := rfl
theorem Qle (d s : Operand) : biV Gl σ env .copy [d, s] = .d (.int .i64 (cpN σ (evU Gl env d) (evU Gl env s))) := rfl
theorem Qlf (d s : Operand) (ts : List TypeId) : biS P Gl σ env .copy [d, s] ts = cpS σ (evU Gl env d) (evU Gl env s) := rfl
theorem Qlg (t : TypeId) (i o k : Nat) (s : AV) : Qro P σ t (.osl i o k) s = ((qaa σ i).isOwnArr = true ∧ 0 < (qaa σ i).es ∧ o + k ≤ (qaa σ i).xs.length ∧ qqd σ (qaa σ i).es s ∧ (match qb5 P t with | some e => tsz P e = some (qaa σ i).es | none => False)) := rfl
theorem Qqg (i o k : Nat) (s : AV) : cpN σ (.osl i o k) s = min (s.elems σ).length k := rfl
theorem Qqf (i o k : Nat) (s : AV) : cpS σ (.osl i o k) s = σ.set i (.arr (qaa σ i).es (cpX (qaa σ i).xs o (min (s.elems σ).length k) (s.elems σ))) := rfl
theorem qxj (x : Operand) (t : TypeId) : qz3 P Gl σ env .len [x] [t] = ((evU Gl env x).hasLen P t = true) := rfl
theorem q2f (x : Operand) : biV Gl σ env .len [x] = .d (.int .i64 (evU Gl env x).len) := rfl
theorem q2g (x : Operand) (t : TypeId) : biS P Gl σ env .len [x] [t] = σ := rfl
theorem qxk (s x : Operand) (t1 t2 : TypeId) : qz3 P Gl σ env .append [s, x] [t1, t2] = Qot P σ t1 t2 (evU Gl env s) (evU Gl env x) := rfl
theorem q2h (s x : Operand) : biV Gl σ env .append [s, x] = apV σ (evU Gl env s) (evU Gl env x) := rfl
theorem q2i (s x : Operand) (t1 t2 : TypeId) : biS P Gl σ env .append [s, x] [t1, t2] = apS P σ t1 (evU Gl env s) (evU Gl env x) := rfl
theorem qxh (l : List Operand) (ts : List TypeId) : qz3 P Gl σ env .min l ts = qg1 (l.map (evU Gl env)) := by unfold qz3; rfl
theorem q2b (l : List Operand) : biV Gl σ env .min l = Qrk (l.map (evU Gl env)) := by unfold biV; rfl
theorem q2c (l : List Operand) (ts : List TypeId) : biS P Gl σ env .min l ts = σ := by unfold biS; rfl
theorem qxi (l : List Operand) (ts : List TypeId) : qz3 P Gl σ env .max l ts = qg1 (l.map (evU Gl env)) := by unfold qz3; rfl
theorem q2d (l : List Operand) : biV Gl σ env .max l = Qrm (l.map (evU Gl env)) := by unfold biV; rfl
theorem q2e (l : List Operand) (ts : List TypeId) : biS P Gl σ env .max l ts = σ := by unfold biS; rfl
theorem qv9 (x : AV) (r : List AV) : qg1 (x :: r) = (x.isIntv = true ∧ ∀ y ∈ r, y.isIntv = true) := rfl
theorem Qlc (k : IntKind) (i : Int) (r : List AV) : Qrk (.d (.int k i) :: r) = .d (.int k (Qha r i)) := rfl
theorem Qld (k : IntKind) (i : Int) (r : List AV) : Qrm (.d (.int k i) :: r) = .d (.int k (Qhb r i)) := rfl
theorem qwa (a : Int) : Qha [] a = a := rfl
theorem qwb (a : Int) : Qhb [] a = a := rfl
theorem qrl (x : AV) (r : List AV) (a : Int) : Qha (x :: r) a = Qha r (min a x.num) := by
 show Qha r (if x.num < a then x.num else a) = _
 congr 1; omega
theorem qrm (x : AV) (r : List AV) (a : Int) : Qhb (x :: r) a = Qhb r (max a x.num) := by
 show Qhb r (if x.num > a then x.num else a) = _
 congr 1; omega
theorem Qcw (l : List AV) (i : Nat) : (AV.tup l).tupAt i = l.getD i .undef := rfl
theorem q7l (l : List AV) : (AV.tup l).tupLen = l.length := rfl
theorem q1t (x : Operand) : qb9 P Gl σ env (.move x) = True := rfl
theorem q7e (x : Operand) : opV P Gl σ env (.move x) = evU Gl env x := rfl
theorem q7w (x : Operand) : opS P Gl σ env (.move x) = σ := rfl
theorem qrh (x : Operand) : qb9 P Gl σ env (.assign x) = True := rfl
theorem qvf (x : Operand) : opV P Gl σ env (.assign x) = evU Gl env x := rfl
theorem qvp (x : Operand) : opS P Gl σ env (.assign x) = σ := rfl
theorem q04 (t : TypeId) : opV P Gl σ env (.alloc t) = .ptr σ.length 0 := rfl
theorem q73 (t : TypeId) (x : Operand) : qb9 P Gl σ env (.box t x) = ((evU Gl env x).storable = true) := rfl
theorem Qcu (t : TypeId) (x : Operand) : opV P Gl σ env (.box t x) = .ptr σ.length 0 := rfl
theorem Qc0 (t : TypeId) (x : Operand) : opS P Gl σ env (.box t x) = σ ++ [.box (evU Gl env x).ncells (evU Gl env x)] := rfl
theorem qv6 (t : TypeId) (parts : Array (Nat × Operand)) : qb9 P Gl σ env (.build t parts) = (match qc7 P t, qds P t with | some pl, some zc => qo1 pl zc.length (qfg Gl env parts) | _, _ => False) := rfl
theorem q02 (t : TypeId) (parts : Array (Nat × Operand)) : opV P Gl σ env (.build t parts) = (match qc7 P t, qds P t with | some pl, some zc => qfs (qmr pl zc (qfg Gl env parts)) | _, _ => .undef) := rfl
theorem q1p (t : TypeId) (parts : Array (Nat × Operand)) : opS P Gl σ env (.build t parts) = σ := rfl
theorem qhc (t : TypeId) (parts : Array (Nat × Operand)) : qb9 P Gl σ env (.buildSlice t 0 parts) = (parts = #[] ∧ (match qb5 P t with | some e => (tsz P e).isSome = true | none => False)) := rfl
theorem qh2 (t : TypeId) (parts : Array (Nat × Operand)) : opV P Gl σ env (.buildSlice t 0 parts) = .osl σ.length 0 0 := rfl
theorem qh5 (t : TypeId) (parts : Array (Nat × Operand)) : opS P Gl σ env (.buildSlice t 0 parts) = σ ++ [.arr (qo7 P t) []] := rfl
theorem qh6 (t : TypeId) (k : Nat) (parts : Array (Nat × Operand)) : qb9 P Gl σ env (.buildSlice t (k + 1) parts) = (Qbk P σ t (k + 1) (qfg Gl env parts)) := rfl
theorem qjf (t : TypeId) (k : Nat) (parts : Array (Nat × Operand)) : opV P Gl σ env (.buildSlice t (k + 1) parts) = .osl σ.length 0 (k + 1) := rfl
theorem qjl (t : TypeId) (k : Nat) (parts : Array (Nat × Operand)) : opS P Gl σ env (.buildSlice t (k + 1) parts) = Qn8 P σ t (k + 1) (qfg Gl env parts) := rfl
theorem q1u (t : TypeId) (x : Operand) : qb9 P Gl σ env (.load t x) = (match qbg P t, tsz P t with | some g, some n => Qap σ g n (evU Gl env x) | _, _ => False) := rfl
theorem q7f (t : TypeId) (x : Operand) : opV P Gl σ env (.load t x) = (match qbg P t, tsz P t with | some g, some n => ldV σ g n (evU Gl env x) | _, _ => .undef) := rfl
theorem q7x (t : TypeId) (x : Operand) : opS P Gl σ env (.load t x) = σ := rfl
theorem qv3 (t : TypeId) (a x : Operand) : qb9 P Gl σ env (.store t a x) = (match tsz P t with | some n => Qpw σ n (evU Gl env x) (evU Gl env a) | none => False) := rfl
theorem q0z (t : TypeId) (a x : Operand) : opV P Gl σ env (.store t a x) = .undef := rfl
theorem q1m (t : TypeId) (a x : Operand) : opS P Gl σ env (.store t a x) = (match tsz P t with | some n => stS σ n (evU Gl env x) (evU Gl env a) | none => σ) := rfl
theorem qk1 (x : Operand) : qb9 P Gl σ env (.nilCheck x) = ((evU Gl env x).notNil = true) := rfl
theorem qna (x : Operand) : opV P Gl σ env (.nilCheck x) = evU Gl env x := rfl
theorem qng (x : Operand) : opS P Gl σ env (.nilCheck x) = σ := rfl
theorem qv7 (o : BinOp) (t u : TypeId) (x y : Operand) : qb9 P Gl σ env (.binOp o t x y u) = (qhp P t o (evU Gl env x) (evU Gl env y)) := rfl
theorem q03 (o : BinOp) (t u : TypeId) (x y : Operand) : opV P Gl σ env (.binOp o t x y u) = Qhe o (evU Gl env x) (evU Gl env y) := rfl
theorem q1q (o : BinOp) (t u : TypeId) (x y : Operand) : opS P Gl σ env (.binOp o t x y u) = σ := rfl
theorem q1s (o : UnOp) (t : TypeId) (x : Operand) : qb9 P Gl σ env (.unOp o t x) = (Qml o (evU Gl env x)) := rfl
theorem q7d (o : UnOp) (t : TypeId) (x : Operand) : opV P Gl σ env (.unOp o t x) = unV o (evU Gl env x) := rfl
theorem q7v (o : UnOp) (t : TypeId) (x : Operand) : opS P Gl σ env (.unOp o t x) = σ := rfl
theorem qnr (s t : TypeId) (x : Operand) : qb9 P Gl σ env (.convert s t x) = ((P.underlying s).isSome = true ∧ (qt8 P t).isSome = true ∧ (evU Gl env x).isIntv = true) := rfl
theorem qqo (s t : TypeId) (x : Operand) : opV P Gl σ env (.convert s t x) = (match qt8 P t with | some k => .d (.int k (k.wrap (evU Gl env x).num)) | none => .undef) := rfl
theorem qq0 (s t : TypeId) (x : Operand) : opS P Gl σ env (.convert s t x) = σ := rfl
theorem qjn (t : TypeId) (x y : Operand) : qb9 P Gl σ env (.makeSlice t x y) = (Qqr P t (evU Gl env x) (evU Gl env y)) := rfl
theorem qkr (t : TypeId) (x y : Operand) : opV P Gl σ env (.makeSlice t x y) = .osl σ.length 0 (evU Gl env x).num.toNat := rfl
theorem qkw (t : TypeId) (x y : Operand) : opS P Gl σ env (.makeSlice t x y) = mkS P σ t (evU Gl env x) := rfl
theorem qno (t : TypeId) (x : Operand) : qb9 P Gl σ env (.slice t x none none none) = (Qad P t σ 0 (evU Gl env x).len (evU Gl env x)) := by simp [qb9, qg9, Qd5, Qfc, Qq9]
theorem qql (t : TypeId) (x : Operand) : opV P Gl σ env (.slice t x none none none) = slV 0 (evU Gl env x).len (evU Gl env x) := rfl
theorem qqx (t : TypeId) (x : Operand) : opS P Gl σ env (.slice t x none none none) = σ := rfl
theorem qnm (t : TypeId) (x y : Operand) : qb9 P Gl σ env (.slice t x (some y) none none) = ((evU Gl env y).isIntv = true ∧ Qad P t σ (evU Gl env y).num (evU Gl env x).len (evU Gl env x)) := by simp [qb9, qg9, Qd5, Qfc, Qq9]
theorem qqj (t : TypeId) (x y : Operand) : opV P Gl σ env (.slice t x (some y) none none) = slV (evU Gl env y).num (evU Gl env x).len (evU Gl env x) := rfl
theorem qqv (t : TypeId) (x y : Operand) : opS P Gl σ env (.slice t x (some y) none none) = σ := rfl
theorem qre (t : TypeId) (x y z : Operand) : qb9 P Gl σ env (.slice t x none (some y) (some z)) = Qce P t (evU Gl env x) (evU Gl env y) (evU Gl env z) := rfl
theorem qvc (t : TypeId) (x y z : Operand) : opV P Gl σ env (.slice t x none (some y) (some z)) = slV 0 (evU Gl env y).num (evU Gl env x) := rfl
theorem qvm (t : TypeId) (x y z : Operand) : opS P Gl σ env (.slice t x none (some y) (some z)) = σ := rfl
theorem Qcz (t : TypeId) (i o k : Nat) (h m : AV) : Qce P t (.osl i o k) h m = (h.isIntv = true ∧ m.isIntv = true ∧ 0 ≤ h.num ∧ h.num ≤ m.num ∧ m.num ≤ k ∧ (match qb5 P t with | some e => (tsz P e).isSome = true | none => False)) := rfl
theorem qnn (t : TypeId) (x y : Operand) : qb9 P Gl σ env (.slice t x none (some y) none) = ((evU Gl env y).isIntv = true ∧ Qad P t σ 0 (evU Gl env y).num (evU Gl env x)) := by simp [qb9, qg9, Qd5, Qfc, Qq9]
theorem qqk (t : TypeId) (x y : Operand) : opV P Gl σ env (.slice t x none (some y) none) = slV 0 (evU Gl env y).num (evU Gl env x) := rfl
theorem qqw (t : TypeId) (x y : Operand) : opS P Gl σ env (.slice t x none (some y) none) = σ := rfl
theorem qnl (t : TypeId) (x y z : Operand) : qb9 P Gl σ env (.slice t x (some y) (some z) none) = ((evU Gl env y).isIntv = true ∧ (evU Gl env z).isIntv = true ∧ Qad P t σ (evU Gl env y).num (evU Gl env z).num (evU Gl env x)) := by simp [qb9, qg9, Qd5, Qfc, Qq9]
theorem qqi (t : TypeId) (x y z : Operand) : opV P Gl σ env (.slice t x (some y) (some z) none) = slV (evU Gl env y).num (evU Gl env z).num (evU Gl env x) := rfl
theorem qqu (t : TypeId) (x y z : Operand) : opS P Gl σ env (.slice t x (some y) (some z) none) = σ := rfl
theorem qjp (s : TypeId) (x : Operand) (f : Nat) : qb9 P Gl σ env (.fieldAddr s x f) = (match qdn P s f with | some (_, n, _) => n ≠ 0 ∧ (evU Gl env x).isPtr = true | none => False) := rfl
theorem qkt (s : TypeId) (x : Operand) (f : Nat) : opV P Gl σ env (.fieldAddr s x f) = (match qdn P s f with | some (o, _, _) => (evU Gl env x).shift o | none => .undef) := rfl
theorem qky (s : TypeId) (x : Operand) (f : Nat) : opS P Gl σ env (.fieldAddr s x f) = σ := rfl
theorem qv5 (s : TypeId) (x : Operand) (f : Nat) : qb9 P Gl σ env (.field s x f) = (match qdn P s f with | some (o, n, g) => (evU Gl env x).isAgg = true ∧ o + n ≤ (evU Gl env x).ncells ∧ (g = true ∨ n = 1) | none => False) := rfl
theorem q01 (s : TypeId) (x : Operand) (f : Nat) : opV P Gl σ env (.field s x f) = (match qdn P s f with | some (o, n, g) => (if g = true then (evU Gl env x).subV o n else (evU Gl env x).cellAt o) | none => .undef) := rfl
theorem q1o (s : TypeId) (x : Operand) (f : Nat) : opS P Gl σ env (.field s x f) = σ := rfl
theorem qjo (t : TypeId) (x i : Operand) : qb9 P Gl σ env (.indexAddr t x i) = ((evU Gl env i).isIntv = true ∧ (match qi4 P t with | some (none, es) => qzr σ es (evU Gl env i).num (evU Gl env x) | some (some k, _) => Qg2 k (evU Gl env i).num (evU Gl env x) | none => False)) := rfl
theorem qks (t : TypeId) (x i : Operand) : opV P Gl σ env (.indexAddr t x i) = (match qi4 P t with | some (none, es) => Qqz es (evU Gl env i).num (evU Gl env x) | some (some _, es) => (evU Gl env x).shift ((evU Gl env i).num.toNat * es) | none => .undef) := rfl
theorem qkx (t : TypeId) (x i : Operand) : opS P Gl σ env (.indexAddr t x i) = σ := rfl
theorem qv4 (t : TypeId) (x i : Operand) : qb9 P Gl σ env (.index t x i) = (Qcb P t = true ∧ (evU Gl env x).isStrv = true ∧ (evU Gl env i).isIntv = true ∧ 0 ≤ (evU Gl env i).num ∧ (evU Gl env i).num < (evU Gl env x).strOf.length) := rfl
theorem q00 (t : TypeId) (x i : Operand) : opV P Gl σ env (.index t x i) = .d (.int .u8 ((evU Gl env x).strOf.getD (evU Gl env i).num.toNat 0).toNat) := rfl
theorem q1n (t : TypeId) (x i : Operand) : opS P Gl σ env (.index t x i) = σ := rfl
theorem qnq (x : Operand) (i : Nat) : qb9 P Gl σ env (.extract x i) = (i < (evU Gl env x).tupLen) := rfl
theorem qqn (x : Operand) (i : Nat) : opV P Gl σ env (.extract x i) = (evU Gl env x).tupAt i := rfl
theorem qqz (x : Operand) (i : Nat) : opS P Gl σ env (.extract x i) = σ := rfl
theorem q71 (l : List (Nat × Operand)) : qfg Gl env l.toArray = l.map fun p => (p.1, evU Gl env p.2) := rfl
theorem qr5 (pl : List (Nat × Nat)) (cs : List AV) : qmr pl cs [] = cs := rfl
theorem qob (pl : List (Nat × Nat)) (cs : List AV) (i : Nat) (v : AV) (r : List (Nat × AV)) : qmr pl cs ((i, v) :: r) = (match pl[i]? with | some (off, size) => qmr pl (qea cs off v size) r | none => qmr pl cs r) := rfl
theorem qoa (pl : List (Nat × Nat)) (N : Nat) : qo1 pl N [] = True := rfl
theorem qld (pl : List (Nat × Nat)) (N : Nat) (i : Nat) (v : AV) (r : List (Nat × AV)) : qo1 pl N ((i, v) :: r) = ((match pl[i]? with | some (off, size) => v.ncells = size ∧ off + size ≤ N ∧ v.storable = true | none => False) ∧ qo1 pl N r) := rfl
theorem qqt (cs : List AV) (off : Nat) (v : AV) : qea cs off v 0 = cs := rfl
theorem qqs (cs : List AV) (off : Nat) (v : AV) (k : Nat) : qea cs off v (k + 1) = (qea cs off v k).set (off + k) (v.cellAt k) := rfl
theorem q1v (l : List AV) : qfs l = (match qyp l with | some ds => .d (.agg ds) | none => .agg l) := rfl
theorem qxn : qyp [] = some [] := rfl
theorem q8m (x : D) (r : List AV) : qyp (.d x :: r) = (qyp r).map (x :: ·) := rfl
theorem qxm (i o k : Nat) (r : List AV) : qyp (.osl i o k :: r) = none := rfl
theorem qsi (r : List AV) : qyp (.nils :: r) = none := rfl
theorem qxl (i o : Nat) (r : List AV) : qyp (.ptr i o :: r) = none := rfl
theorem Qli (x : D) (i : Nat) : x.cell i = x.cells.getD i default := rfl
theorem Qp9 (x : D) (o k : Nat) : x.sub o k = .agg ((x.cells.drop o).take k) := rfl
theorem qxe (k k' : IntKind) (a b : Int) : qmf .eql (.int k a) (.int k' b) = .bool (a == b) := rfl
theorem qw8 (k k' : IntKind) (a b : Int) : qmf .neq (.int k a) (.int k' b) = .bool (a != b) := rfl
theorem qxa (k k' : IntKind) (a b : Int) : qmf .lss (.int k a) (.int k' b) = .bool (decide (a < b)) := rfl
theorem qxb (k k' : IntKind) (a b : Int) : qmf .leq (.int k a) (.int k' b) = .bool (decide (a ≤ b)) := rfl
theorem qxc (k k' : IntKind) (a b : Int) : qmf .gtr (.int k a) (.int k' b) = .bool (decide (b < a)) := rfl
theorem qxd (k k' : IntKind) (a b : Int) : qmf .geq (.int k a) (.int k' b) = .bool (decide (b ≤ a)) := rfl
theorem qxg (k k' : IntKind) (a b : Int) : qmf .add (.int k a) (.int k' b) = .int k (k.wrap (a + b)) := rfl
theorem qw2 (k k' : IntKind) (a b : Int) : qmf .sub (.int k a) (.int k' b) = .int k (k.wrap (a - b)) := rfl
theorem qw9 (k k' : IntKind) (a b : Int) : qmf .mul (.int k a) (.int k' b) = .int k (k.wrap (a * b)) := rfl
theorem qw7 (k k' : IntKind) (a b : Int) : qmf .quo (.int k a) (.int k' b) = .int k (k.wrap (a.tdiv b)) := rfl
theorem qw6 (k k' : IntKind) (a b : Int) : qmf .rem (.int k a) (.int k' b) = .int k (a.tmod b) := rfl
theorem qw5 (k k' : IntKind) (a b : Int) : qmf .shl (.int k a) (.int k' b) = qjw .shl k a b := rfl
theorem qw4 (k k' : IntKind) (a b : Int) : qmf .shr (.int k a) (.int k' b) = qjw .shr k a b := rfl
theorem qxf (k k' : IntKind) (a b : Int) : qmf .and (.int k a) (.int k' b) = qjw .and k a b := rfl
theorem q2a (k k' : IntKind) (a b : Int) : qmf .or (.int k a) (.int k' b) = qjw .or k a b := rfl
theorem qw1 (k k' : IntKind) (a b : Int) : qmf .xor (.int k a) (.int k' b) = qjw .xor k a b := rfl
theorem q8j (k k' : IntKind) (b : Int) : qcz .eql k k' b = (k = k') := rfl
theorem q8d (k k' : IntKind) (b : Int) : qcz .neq k k' b = (k = k') := rfl
theorem q8f (k k' : IntKind) (b : Int) : qcz .lss k k' b = (k = k') := rfl
theorem q8g (k k' : IntKind) (b : Int) : qcz .leq k k' b = (k = k') := rfl
theorem q8h (k k' : IntKind) (b : Int) : qcz .gtr k k' b = (k = k') := rfl
theorem q8i (k k' : IntKind) (b : Int) : qcz .geq k k' b = (k = k') := rfl
theorem q8k (k k' : IntKind) (b : Int) : qcz .add k k' b = (k = k') := rfl
theorem q78 (k k' : IntKind) (b : Int) : qcz .sub k k' b = (k = k') := rfl
theorem q8e (k k' : IntKind) (b : Int) : qcz .mul k k' b = (k = k') := rfl
theorem q8c (k k' : IntKind) (b : Int) : qcz .quo k k' b = (k = k' ∧ b ≠ 0) := rfl
theorem q8b (k k' : IntKind) (b : Int) : qcz .rem k k' b = (k = k' ∧ b ≠ 0) := rfl
theorem q8a (k k' : IntKind) (b : Int) : qcz .shl k k' b = (0 ≤ b) := rfl
theorem q79 (k k' : IntKind) (b : Int) : qcz .shr k k' b = (0 ≤ b) := rfl
theorem q7u (a b : List UInt8) : qjb .add a b = .str (a ++ b) := rfl
theorem q7t (a b : List UInt8) : qjb .eql a b = .bool (a == b) := rfl
theorem q7o (a b : List UInt8) : qjb .neq a b = .bool (!(a == b)) := rfl
theorem q7p (a b : List UInt8) : qjb .lss a b = .bool (Op.bytesLess a b) := rfl
theorem q7r (a b : List UInt8) : qjb .gtr a b = .bool (!(Op.bytesLess a b || a == b)) := rfl
theorem q7q (a b : List UInt8) : qjb .leq a b = .bool (Op.bytesLess a b || a == b) := rfl
theorem q7s (a b : List UInt8) : qjb .geq a b = .bool (!(Op.bytesLess a b)) := rfl
theorem q1l (a b : List UInt8) : qd9 .add a b = (((a.length + b.length : Nat) : Int) ≤ 9223372036854775807) := rfl
theorem q1k (a b : List UInt8) : qd9 .eql a b = True := rfl
theorem q1f (a b : List UInt8) : qd9 .neq a b = True := rfl
theorem q1g (a b : List UInt8) : qd9 .lss a b = True := rfl
theorem q1i (a b : List UInt8) : qd9 .gtr a b = True := rfl
theorem q1h (a b : List UInt8) : qd9 .leq a b = True := rfl
theorem q1j (a b : List UInt8) : qd9 .geq a b = True := rfl
theorem qri (t : TypeId) : qb9 P Gl σ env (.alloc t) = ((qb7 P t).storable = true) := by
 have e : qb9 P Gl σ env (.alloc t) = (match qbm P t with | some z => (qc0 z).storable = true | none => False) := rfl
 rw [e]; unfold qb7; cases qbm P t <;> simp [AV.storable]
theorem qvq (t : TypeId) (h : (qb7 P t).storable = true) : opS P Gl σ env (.alloc t) = σ ++ [.box (qb7 P t).ncells (qb7 P t)] := by
 have e : opS P Gl σ env (.alloc t) = (match qbm P t with | some z => σ ++ [.box (qc0 z).ncells (qc0 z)] | none => σ) := rfl
 rw [e]; unfold qb7 at h ⊢
 cases hz : qbm P t with
 | none => simp only [hz] at h; cases h
 | some z => rfl
theorem q76 (x : D) : q3j σ (.d x) = true := rfl
theorem qrv : q3j σ .nils = true := rfl
theorem qwk (i o k : Nat) : q3j σ (.osl i o k) = (qaa σ i).isArr := rfl
theorem q7m (x : D) : q6q σ (.d x) = x := rfl
theorem qqp : q6q σ .nils = .sl [] := rfl
theorem qvj (i o k : Nat) : q6q σ (.osl i o k) = .sl (((qaa σ i).xs.drop o).take k) := rfl
theorem q70 (x : D) : q4m (.d x) = [] := rfl
theorem qra : q4m .nils = [] := rfl
theorem qv2 (i o k : Nat) : q4m (.osl i o k) = [i] := rfl
theorem qvy (ρ : List Nat) : Qk6 [] ρ σ env = [] := rfl
theorem qq8 (t : Nat) (l ρ : List Nat) : Qk6 (t :: l) ρ σ env = (t, qbf ρ σ (qd0 env t)) :: Qk6 l ρ σ env := rfl
theorem qvx : qdb [] σ = [] := rfl
theorem q7y (ρ : List Nat) (x : D) : qbf ρ σ (.d x) = .d x := rfl
theorem qq3 (ρ : List Nat) : qbf ρ σ .nils = .nils := rfl
theorem qq5 (ρ : List Nat) (es : Nat) (xs : List D) (i off : Nat) : qbf ρ σ (.eptr es xs i off) = .eptr es xs i off := rfl
theorem qvv (ρ : List Nat) (i o : Nat) : qbf ρ σ (.ptr i o) = (match qca ρ i with | some j => .ptr j o | none => .undef) := rfl
theorem qq6 (ρ : List Nat) (id i o : Nat) : qbf ρ σ (.aptr id i o) = (match qca ρ id with | some j => .aptr j i o | none => .undef) := rfl
theorem qvw (ρ : List Nat) (id o k : Nat) : qbf ρ σ (.osl id o k) = (match qca ρ id with | some j => .osl j o k | none => if (qaa σ id).isArr = true ∧ (qaa σ id).own = false then .d (.sl (((qaa σ id).xs.drop o).take k)) else .undef) := rfl
theorem qr0 (i : Nat) : qca [] i = none := rfl
theorem qn7 (r : Nat) (l : List Nat) (i : Nat) : qca (r :: l) i = if r = i then some 0 else (qca l i).map (· + 1) := by
 unfold qca; rw [List.findIdx?_cons]; by_cases h : r = i <;> simp [h]
theorem qvr {m : Nat} {rs : List ResultVar} {R : AV → Sto → Prop} : Qrv P m rs R .ret env σ = (qub P env σ rs ∧ ∃ r' s', qcm m (Qk4 P env σ rs) σ r' s' ∧ R r' s') := rfl
theorem qkz {m : Nat} {rs : List ResultVar} {R : AV → Sto → Prop} : Qrv P m rs R .normal env σ = (qub P env σ rs ∧ ∃ r' s', qcm m (Qk4 P env σ rs) σ r' s' ∧ R r' s') := rfl
theorem qq2 : qub P env σ [] = True := rfl
theorem qni (r : ResultVar) (rs : List ResultVar) : qub P env σ (r :: rs) = (qu8 P env σ r ∧ qub P env σ rs) := rfl
theorem qnj (t : Nat) : qu8 P env σ (.tmp t) = ((qd0 env t).vg = true) := rfl
theorem qk0 (t : Nat) (ty : TypeId) : qu8 P env σ (.cell t ty) = (match qbg P ty, tsz P ty with | some g, some k => Qap σ g k (qd0 env t) | _, _ => False) := rfl
theorem qq1 (t : Nat) : qy2 P env σ (.tmp t) = (qd0 env t).un := rfl
theorem qnh (t : Nat) (ty : TypeId) : qy2 P env σ (.cell t ty) = (match qbg P ty, tsz P ty with | some g, some k => ldV σ g k (qd0 env t) | _, _ => .undef) := rfl
theorem qvt (r : ResultVar) : Qk4 P env σ [r] = qy2 P env σ r := rfl
theorem qvu : Qk4 P env σ [] = .tup [] := rfl
theorem qvs (r1 r2 : ResultVar) (rs : List ResultVar) : Qk4 P env σ (r1 :: r2 :: rs) = .tup ((r1 :: r2 :: rs).map (qy2 P env σ)) := rfl
end
theorem q9r : type_of% (And.intro (And.intro @qr2 (And.intro @qwo (And.intro @qrb (And.intro @qrc (And.intro @qwt (And.intro @qwu (And.intro @q19 (And.intro @qr7 (And.intro @qwr (And.intro @qod (And.intro @q18 (And.intro @qr6 (And.intro @qwq (And.intro @qoc (And.intro @Qk8 (And.intro @q05 (And.intro @q7k (And.intro @q7h (And.intro @q07 (And.intro @q08 (And.intro @q7i (And.intro @Qcv (And.intro @q7g (And.intro @q7j (And.intro @Qk7 (And.intro @q0u (And.intro @q7c (And.intro @q69 (And.intro @q0w (And.intro @q0x (And.intro @q7a (And.intro @Qct (And.intro @q68 (And.intro @q7b (And.intro @qog (And.intro @qlf (And.intro @qof (And.intro @qle (And.intro @q15 (@qwp)))))))))))))))))))))))))))))))))))))))) (And.intro (And.intro @Qcx (And.intro @q12 (And.intro @q75 (And.intro @Qqb (And.intro @qnd (And.intro @qjk (And.intro @qnc (And.intro @qjj (And.intro @q4p (And.intro @qh7 (And.intro @qnk (And.intro @qrd (And.intro @Qll (And.intro @Qde (And.intro @Qlk (And.intro @Qlj (And.intro @Qc8 (And.intro @qwi (And.intro @Qc9 (And.intro @q77 (And.intro @Qsm (And.intro @Qqe (And.intro @Qsj (And.intro @Qp8 (And.intro @Qqa (And.intro @Qla (And.intro @qwh (And.intro @qro (And.intro @qrp (And.intro @q1z (And.intro @qwf (And.intro @qwg (And.intro @q72 (And.intro @q1r (And.intro @Qc2 (And.intro @Qc3 (And.intro @q7n (And.intro @qww (And.intro @qok (@qvl)))))))))))))))))))))))))))))))))))))))) (And.intro (And.intro @qqq (And.intro @q1e (And.intro @qvk (And.intro @Qk9 (And.intro @q13 (And.intro @qry (And.intro @qrx (And.intro @qn5 (And.intro @qnb (And.intro @qji (And.intro @qjh (And.intro @qh3 (And.intro @qv8 (And.intro @qny (And.intro @qnx (And.intro @qk4 (And.intro @Qc7 (And.intro @qwj (And.intro @q10 (And.intro @q11 (And.intro @Qcy (And.intro @qvi (And.intro @q1c (And.intro @q1d (And.intro @q7z (And.intro @qq9 (And.intro @qv0 (And.intro @qv1 (And.intro @qlc (And.intro @qf6 (And.intro @q17 (And.intro @q16 (And.intro @q8l (And.intro @qru (And.intro @qnz (And.intro @qn0 (And.intro @qqr (And.intro @qne (And.intro @qnf (@qns)))))))))))))))))))))))))))))))))))))))) (And.intro (And.intro @qk2 (And.intro @qk3 (And.intro @qrj (And.intro @qsb (And.intro @qos (And.intro @qor (And.intro @qll (And.intro @qoq (And.intro @qsk (And.intro @qsa (And.intro @qoh (And.intro @qr9 (And.intro @qwv (And.intro @Qc1 (And.intro @qwz (And.intro @qse (And.intro @qwx (And.intro @qw0 (And.intro @qsd (And.intro @qwy (And.intro @qnu (And.intro @qnt (And.intro @qnv (And.intro @qk6 (And.intro @qn1 (And.intro @qn4 (And.intro @qk9 (And.intro @qn3 (And.intro @qn2 (And.intro @qk8 (And.intro @qla (And.intro @qk7 (And.intro @qsg (And.intro @qol (And.intro @qsf (And.intro @qsh (And.intro @qgj (And.intro @qia (And.intro @qhf (@qh8)))))))))))))))))))))))))))))))))))))))) (And.intro (And.intro @qhd (And.intro @qhe (And.intro @qh9 (And.intro @qhg (And.intro @qib (And.intro @q06 (And.intro @q09 (And.intro @q0v (And.intro @q0y (And.intro @qh4 (And.intro @qjg (And.intro @qku (And.intro @qk5 (And.intro @qnw (And.intro @qrk (And.intro @qn6 (And.intro @qrw (And.intro @qwl (And.intro @qlh (And.intro @qoi (And.intro @qoj (And.intro @qlg (And.intro @qsc (And.intro @qsj (And.intro @q2j (And.intro @Qc6 (And.intro @Qsk (And.intro @Qsl (And.intro @qrt (And.intro @qrs (And.intro @qrr (And.intro @qrq (And.intro @qrn (And.intro @qwc (And.intro @qwd (And.intro @q1w (And.intro @Qc4 (And.intro @Qc5 (And.intro @Qlb (@Qqc)))))))))))))))))))))))))))))))))))))))) (And.intro (And.intro @Qqd (And.intro @qrf (And.intro @qvd (And.intro @qvn (And.intro @qjm (And.intro @qkq (And.intro @qkv (And.intro @qrg (And.intro @qve (And.intro @qvo (And.intro @qnp (And.intro @qqm (And.intro @qqy (And.intro @qjs (And.intro @qli (And.intro @qlj (And.intro @Qdb (And.intro @qlk (And.intro @qoo (And.intro @qop (And.intro @Qlh (And.intro @Qqh (And.intro @Qqi (And.intro @qq4 (And.intro @qq7 (And.intro @qvz (And.intro @qr3 (And.intro @qr4 (And.intro @qw3 (And.intro @qid (And.intro @qic (And.intro @qjr (And.intro @qjq (And.intro @qon (And.intro @qom (And.intro @qgl (And.intro @qgk (And.intro @qhi (And.intro @qhh (@q1a)))))))))))))))))))))))))))))))))))))))) (And.intro (And.intro @q1b (And.intro @qvg (And.intro @qvh (And.intro @q74 (And.intro @q1x (And.intro @q1y (And.intro @qwe (And.intro @qr1 (And.intro @qn8 (And.intro @qn9 (And.intro @qlb (And.intro @qws (And.intro @qr8 (And.intro @qoe (And.intro @qwn (And.intro @qrz (And.intro @q14 (And.intro @qwm (And.intro (And.intro @Qdc (And.intro @Qle (And.intro @Qlf (And.intro @Qlg (And.intro @Qqg (And.intro @Qqf @qxj)))))) (And.intro @q2f (And.intro @q2g (And.intro @qxk (And.intro @q2h (And.intro @q2i (And.intro @qxh (And.intro @q2b (And.intro @q2c (And.intro @qxi (And.intro @q2d (And.intro @q2e (And.intro @qv9 (And.intro @Qlc (And.intro @Qld (And.intro @qwa (And.intro @qwb (And.intro @qrl (And.intro @qrm (And.intro @Qcw (And.intro @q7l (@q1t)))))))))))))))))))))))))))))))))))))))) (And.intro (And.intro @q7e (And.intro @q7w (And.intro @qrh (And.intro @qvf (And.intro @qvp (And.intro @q04 (And.intro @q73 (And.intro @Qcu (And.intro @Qc0 (And.intro @qv6 (And.intro @q02 (And.intro @q1p (And.intro @qhc (And.intro @qh2 (And.intro @qh5 (And.intro @qh6 (And.intro @qjf (And.intro @qjl (And.intro @q1u (And.intro @q7f (And.intro @q7x (And.intro @qv3 (And.intro @q0z (And.intro @q1m (And.intro @qk1 (And.intro @qna (And.intro @qng (And.intro @qv7 (And.intro @q03 (And.intro @q1q (And.intro @q1s (And.intro @q7d (And.intro @q7v (And.intro @qnr (And.intro @qqo (And.intro @qq0 (And.intro @qjn (And.intro @qkr (And.intro @qkw (@qno)))))))))))))))))))))))))))))))))))))))) (And.intro (And.intro @qql (And.intro @qqx (And.intro @qnm (And.intro @qqj (And.intro @qqv (And.intro @qnn (And.intro @qqk (And.intro (And.intro @qre (And.intro @qvc (And.intro @qvm (And.intro @Qcz @qqw)))) (And.intro @qnl (And.intro @qqi (And.intro @qqu (And.intro @qjp (And.intro @qkt (And.intro @qky (And.intro @qv5 (And.intro @q01 (And.intro @q1o (And.intro @qjo (And.intro @qks (And.intro @qkx (And.intro @qv4 (And.intro @q00 (And.intro @q1n (And.intro @qnq (And.intro @qqn (And.intro @qqz (And.intro @q71 (And.intro @qr5 (And.intro @qob (And.intro @qoa (And.intro @qld (And.intro @qqt (And.intro @qqs (And.intro @q1v (And.intro @qxn (And.intro @q8m (And.intro @qxm (And.intro @qsi (And.intro @qxl (@Qli)))))))))))))))))))))))))))))))))))))))) (And.intro (And.intro @Qp9 (And.intro @qxe (And.intro @qw8 (And.intro @qxa (And.intro @qxb (And.intro @qxc (And.intro @qxd (And.intro @qxg (And.intro @qw2 (And.intro @qw9 (And.intro @qw7 (And.intro @qw6 (And.intro @qw5 (And.intro @qw4 (And.intro @qxf (And.intro @q2a (And.intro @qw1 (And.intro @q8j (And.intro @q8d (And.intro @q8f (And.intro @q8g (And.intro @q8h (And.intro @q8i (And.intro @q8k (And.intro @q78 (And.intro @q8e (And.intro @q8c (And.intro @q8b (And.intro @q8a (And.intro @q79 (And.intro @q7u (And.intro @q7t (And.intro @q7o (And.intro @q7p (And.intro @q7r (And.intro @q7q (And.intro @q7s (And.intro @q1l (And.intro @q1k (@q1f)))))))))))))))))))))))))))))))))))))))) (And.intro @q1g (And.intro @q1i (And.intro @q1h (And.intro @q1j (And.intro @qri (And.intro @qvq (And.intro @q76 (And.intro @qrv (And.intro @qwk (And.intro @q7m (And.intro @qqp (And.intro @qvj (And.intro @q70 (And.intro @qra (And.intro @qv2 (And.intro @qvy (And.intro @qq8 (And.intro @qvx (And.intro @q7y (And.intro @qq3 (And.intro @qq5 (And.intro @qvv (And.intro @qq6 (And.intro @qvw (And.intro @qr0 (And.intro @qn7 (And.intro @qvr (And.intro @qkz (And.intro @qq2 (And.intro @qni (And.intro @qnj (And.intro @qk0 (And.intro @qq1 (And.intro @qnh (And.intro @qvt (And.intro @qvu (@qvs))))))))))))))))))))))))))))))))))))))))))))))) := And.intro (And.intro @qr2 (And.intro @qwo (And.intro @qrb (And.intro @qrc (And.intro @qwt (And.intro @qwu (And.intro @q19 (And.intro @qr7 (And.intro @qwr (And.intro @qod (And.intro @q18 (And.intro @qr6 (And.intro @qwq (And.intro @qoc (And.intro @Qk8 (And.intro @q05 (And.intro @q7k (And.intro @q7h (And.intro @q07 (And.intro @q08 (And.intro @q7i (And.intro @Qcv (And.intro @q7g (And.intro @q7j (And.intro @Qk7 (And.intro @q0u (And.intro @q7c (And.intro @q69 (And.intro @q0w (And.intro @q0x (And.intro @q7a (And.intro @Qct (And.intro @q68 (And.intro @q7b (And.intro @qog (And.intro @qlf (And.intro @qof (And.intro @qle (And.intro @q15 (@qwp)))))))))))))))))))))))))))))))))))))))) (And.intro (And.intro @Qcx (And.intro @q12 (And.intro @q75 (And.intro @Qqb (And.intro @qnd (And.intro @qjk (And.intro @qnc (And.intro @qjj (And.intro @q4p (And.intro @qh7 (And.intro @qnk (And.intro @qrd (And.intro @Qll (And.intro @Qde (And.intro @Qlk (And.intro @Qlj (And.intro @Qc8 (And.intro @qwi (And.intro @Qc9 (And.intro @q77 (And.intro @Qsm (And.intro @Qqe (And.intro @Qsj (And.intro @Qp8 (And.intro @Qqa (And.intro @Qla (And.intro @qwh (And.intro @qro (And.intro @qrp (And.intro @q1z (And.intro @qwf (And.intro @qwg (And.intro @q72 (And.intro @q1r (And.intro @Qc2 (And.intro @Qc3 (And.intro @q7n (And.intro @qww (And.intro @qok (@qvl)))))))))))))))))))))))))))))))))))))))) (And.intro (And.intro @qqq (And.intro @q1e (And.intro @qvk (And.intro @Qk9 (And.intro @q13 (And.intro @qry (And.intro @qrx (And.intro @qn5 (And.intro @qnb (And.intro @qji (And.intro @qjh (And.intro @qh3 (And.intro @qv8 (And.intro @qny (And.intro @qnx (And.intro @qk4 (And.intro @Qc7 (And.intro @qwj (And.intro @q10 (And.intro @q11 (And.intro @Qcy (And.intro @qvi (And.intro @q1c (And.intro @q1d (And.intro @q7z (And.intro @qq9 (And.intro @qv0 (And.intro @qv1 (And.intro @qlc (And.intro @qf6 (And.intro @q17 (And.intro @q16 (And.intro @q8l (And.intro @qru (And.intro @qnz (And.intro @qn0 (And.intro @qqr (And.intro @qne (And.intro @qnf (@qns)))))))))))))))))))))))))))))))))))))))) (And.intro (And.intro @qk2 (And.intro @qk3 (And.intro @qrj (And.intro @qsb (And.intro @qos (And.intro @qor (And.intro @qll (And.intro @qoq (And.intro @qsk (And.intro @qsa (And.intro @qoh (And.intro @qr9 (And.intro @qwv (And.intro @Qc1 (And.intro @qwz (And.intro @qse (And.intro @qwx (And.intro @qw0 (And.intro @qsd (And.intro @qwy (And.intro @qnu (And.intro @qnt (And.intro @qnv (And.intro @qk6 (And.intro @qn1 (And.intro @qn4 (And.intro @qk9 (And.intro @qn3 (And.intro @qn2 (And.intro @qk8 (And.intro @qla (And.intro @qk7 (And.intro @qsg (And.intro @qol (And.intro @qsf (And.intro @qsh (And.intro @qgj (And.intro @qia (And.intro @qhf (@qh8)))))))))))))))))))))))))))))))))))))))) (And.intro (And.intro @qhd (And.intro @qhe (And.intro @qh9 (And.intro @qhg (And.intro @qib (And.intro @q06 (And.intro @q09 (And.intro @q0v (And.intro @q0y (And.intro @qh4 (And.intro @qjg (And.intro @qku (And.intro @qk5 (And.intro @qnw (And.intro @qrk (And.intro @qn6 (And.intro @qrw (And.intro @qwl (And.intro @qlh (And.intro @qoi (And.intro @qoj (And.intro @qlg (And.intro @qsc (And.intro @qsj (And.intro @q2j (And.intro @Qc6 (And.intro @Qsk (And.intro @Qsl (And.intro @qrt (And.intro @qrs (And.intro @qrr (And.intro @qrq (And.intro @qrn (And.intro @qwc (And.intro @qwd (And.intro @q1w (And.intro @Qc4 (And.intro @Qc5 (And.intro @Qlb (@Qqc)))))))))))))))))))))))))))))))))))))))) (And.intro (And.intro @Qqd (And.intro @qrf (And.intro @qvd (And.intro @qvn (And.intro @qjm (And.intro @qkq (And.intro @qkv (And.intro @qrg (And.intro @qve (And.intro @qvo (And.intro @qnp (And.intro @qqm (And.intro @qqy (And.intro @qjs (And.intro @qli (And.intro @qlj (And.intro @Qdb (And.intro @qlk (And.intro @qoo (And.intro @qop (And.intro @Qlh (And.intro @Qqh (And.intro @Qqi (And.intro @qq4 (And.intro @qq7 (And.intro @qvz (And.intro @qr3 (And.intro @qr4 (And.intro @qw3 (And.intro @qid (And.intro @qic (And.intro @qjr (And.intro @qjq (And.intro @qon (And.intro @qom (And.intro @qgl (And.intro @qgk (And.intro @qhi (And.intro @qhh (@q1a)))))))))))))))))))))))))))))))))))))))) (And.intro (And.intro @q1b (And.intro @qvg (And.intro @qvh (And.intro @q74 (And.intro @q1x (And.intro @q1y (And.intro @qwe (And.intro @qr1 (And.intro @qn8 (And.intro @qn9 (And.intro @qlb (And.intro @qws (And.intro @qr8 (And.intro @qoe (And.intro @qwn (And.intro @qrz (And.intro @q14 (And.intro @qwm (And.intro (And.intro @Qdc (And.intro @Qle (And.intro @Qlf (And.intro @Qlg (And.intro @Qqg (And.intro @Qqf @qxj)))))) (And.intro @q2f (And.intro @q2g (And.intro @qxk (And.intro @q2h (And.intro @q2i (And.intro @qxh (And.intro @q2b (And.intro @q2c (And.intro @qxi (And.intro @q2d (And.intro @q2e (And.intro @qv9 (And.intro @Qlc (And.intro @Qld (And.intro @qwa (And.intro @qwb (And.intro @qrl (And.intro @qrm (And.intro @Qcw (And.intro @q7l (@q1t)))))))))))))))))))))))))))))))))))))))) (And.intro (And.intro @q7e (And.intro @q7w (And.intro @qrh (And.intro @qvf (And.intro @qvp (And.intro @q04 (And.intro @q73 (And.intro @Qcu (And.intro @Qc0 (And.intro @qv6 (And.intro @q02 (And.intro @q1p (And.intro @qhc (And.intro @qh2 (And.intro @qh5 (And.intro @qh6 (And.intro @qjf (And.intro @qjl (And.intro @q1u (And.intro @q7f (And.intro @q7x (And.intro @qv3 (And.intro @q0z (And.intro @q1m (And.intro @qk1 (And.intro @qna (And.intro @qng (And.intro @qv7 (And.intro @q03 (And.intro @q1q (And.intro @q1s (And.intro @q7d (And.intro @q7v (And.intro @qnr (And.intro @qqo (And.intro @qq0 (And.intro @qjn (And.intro @qkr (And.intro @qkw (@qno)))))))))))))))))))))))))))))))))))))))) (And.intro (And.intro @qql (And.intro @qqx (And.intro @qnm (And.intro @qqj (And.intro @qqv (And.intro @qnn (And.intro @qqk (And.intro (And.intro @qre (And.intro @qvc (And.intro @qvm (And.intro @Qcz @qqw)))) (And.intro @qnl (And.intro @qqi (And.intro @qqu (And.intro @qjp (And.intro @qkt (And.intro @qky (And.intro @qv5 (And.intro @q01 (And.intro @q1o (And.intro @qjo (And.intro @qks (And.intro @qkx (And.intro @qv4 (And.intro @q00 (And.intro @q1n (And.intro @qnq (And.intro @qqn (And.intro @qqz (And.intro @q71 (And.intro @qr5 (And.intro @qob (And.intro @qoa (And.intro @qld (And.intro @qqt (And.intro @qqs (And.intro @q1v (And.intro @qxn (And.intro @q8m (And.intro @qxm (And.intro @qsi (And.intro @qxl (@Qli)))))))))))))))))))))))))))))))))))))))) (And.intro (And.intro @Qp9 (And.intro @qxe (And.intro @qw8 (And.intro @qxa (And.intro @qxb (And.intro @qxc (And.intro @qxd (And.intro @qxg (And.intro @qw2 (And.intro @qw9 (And.intro @qw7 (And.intro @qw6 (And.intro @qw5 (And.intro @qw4 (And.intro @qxf (And.intro @q2a (And.intro @qw1 (And.intro @q8j (And.intro @q8d (And.intro @q8f (And.intro @q8g (And.intro @q8h (And.intro @q8i (And.intro @q8k (And.intro @q78 (And.intro @q8e (And.intro @q8c (And.intro @q8b (And.intro @q8a (And.intro @q79 (And.intro @q7u (And.intro @q7t (And.intro @q7o (And.intro @q7p (And.intro @q7r (And.intro @q7q (And.intro @q7s (And.intro @q1l (And.intro @q1k (@q1f)))))))))))))))))))))))))))))))))))))))) (And.intro @q1g (And.intro @q1i (And.intro @q1h (And.intro @q1j (And.intro @qri (And.intro @qvq (And.intro @q76 (And.intro @qrv (And.intro @qwk (And.intro @q7m (And.intro @qqp (And.intro @qvj (And.intro @q70 (And.intro @qra (And.intro @qv2 (And.intro @qvy (And.intro @qq8 (And.intro @qvx (And.intro @q7y (And.intro @qq3 (And.intro @qq5 (And.intro @qvv (And.intro @qq6 (And.intro @qvw (And.intro @qr0 (And.intro @qn7 (And.intro @qvr (And.intro @qkz (And.intro @qq2 (And.intro @qni (And.intro @qnj (And.intro @qk0 (And.intro @qq1 (And.intro @qnh (And.intro @qvt (And.intro @qvu (@qvs))))))))))))))))))))))))))))))))))))))))))))))
end Go.AM


set_option linter.unusedSimpArgs false
namespace Go.AM
variable {P : Program} {Gl : qa5} {n m : Nat} {env : Env} {σ : Sto} {K : qfr → Env → Sto → Prop}
theorem qad (fz ρ : List Nat) {e' : Env} {s' : Sto} (hm : ρ.take m = List.range m) (hnd : ρ.Nodup) (he : Qk6 (e'.map (·.1)) ρ (freezeL σ fz) env = e') (hs : qdb ρ (freezeL σ fz) = s') : qhn n m env σ e' s' := by
 have := Qhj (n := n) (e'.map (·.1)) fz ρ hm hnd env σ
 rw [he, hs] at this
 exact this
theorem qae (fz ρ : List Nat) {r r' : AV} {s' : Sto} (hm : ρ.take m = List.range m) (hnd : ρ.Nodup) (he : qbf ρ (freezeL σ fz) r = r') (hs : qdb ρ (freezeL σ fz) = s') : qcm m r σ r' s' := by
 have := Qb5 (m := m) fz ρ hm hnd r σ
 rw [he, hs] at this
 exact this
theorem qcn {all : Array Oper} {draw : Bool} {K1 K2 : Env → Sto → Prop} (hk : ∀ e s, K1 e s → K2 e s) : ∀ (l : List Oper) (env : Env) (σ : Sto), qal P Gl n all draw l env σ K1 → qal P Gl n all draw l env σ K2
 | [], _, _, h => hk _ _ h
 | o :: l, env, σ, h => by
  simp only [qal] at h ⊢
  refine ⟨h.1, ?_⟩
  have h2 := h.2
  cases hg : o.guard with
  | none =>
   rw [hg] at h2
   simp only at h2 ⊢
   refine ⟨h2.1, ?_⟩
   have h3 := h2.2
   by_cases hc : qaw o.op = true
   ·rw [if_pos hc] at h3 ⊢
    by_cases hd : draw = true
    ·rw [if_pos hd] at h3 ⊢
     rcases h3 with ⟨r0, h4, h5⟩ | ⟨h4, h5, h6⟩ | h6
     ·exact .inl ⟨r0, h4, qcn hk l _ _ h5⟩
     rotate_left
     ·exact .inr (.inr h6)
     ·refine .inr (.inl ⟨h4, h5, ?_⟩)
      revert h6
      unfold qc5
      split
      ·split
       ·split
        ·exact fun h => h.mono fun r s h => hk _ _ h
        ·exact id
       ·exact id
      ·exact id
    ·rw [if_neg hd] at h3 ⊢
     revert h3
     unfold qc5
     split
     ·split
      ·split
       ·exact fun h => h.mono fun r s h => qcn hk l _ _ h
       ·exact id
      ·exact id
     ·exact id
   ·rw [if_neg hc] at h3 ⊢
    exact ⟨h3.1, qcn hk l _ _ h3.2⟩
  | some jb =>
   obtain ⟨j, b⟩ := jb
   rw [hg] at h2
   simp only at h2 ⊢
   by_cases ha : qcl o.op = true
   ·rw [if_pos ha] at h2 ⊢
    exact ⟨h2.1, h2.2.1, h2.2.2.1, h2.2.2.2.1, qcn hk l _ _ h2.2.2.2.2⟩
   rw [if_neg ha] at h2 ⊢
   refine ⟨h2.1, h2.2.1, h2.2.2.1, ?_⟩
   have h3 := h2.2.2.2
   by_cases hc : qaw o.op = true
   ·rw [if_pos hc] at h3 ⊢
    obtain ⟨r0, h4, h5⟩ := h3
    exact ⟨r0, h4, qcn hk l _ _ h5⟩
   ·rw [if_neg hc] at h3 ⊢
    exact ⟨h3.1, qcn hk l _ _ h3.2⟩
theorem q53 {K1 K2 : qfr → Env → Sto → Prop} {id : Nat} (hk : ∀ e env s, K1 e env s → K2 e env s) : ∀ e env s, qer id K1 e env s → qer id K2 e env s := by
 intro e env s h
 cases e with
 | exit i =>
  simp only [qer] at h ⊢
  split
  ·rename_i hi; rw [if_pos hi] at h; exact hk _ _ _ h
  ·rename_i hi; rw [if_neg hi] at h; exact hk _ _ _ h
 | _ => exact hk _ _ _ h
theorem qyc {all : Array Oper} {K1 K2 : Env → Sto → Prop} (hk : ∀ e s, K1 e s → K2 e s) : ∀ (f : Nat) (listed : Array Bool) (e : Env) (s : Sto), qzt P Gl n all K1 f listed e s → qzt P Gl n all K2 f listed e s
 | 0, _, _, _, h => ⟨h.1, hk _ _ h.2⟩
 | f + 1, _, _, _, h => ⟨fun h1 => hk _ _ (h.1 h1), fun i hi => by
   obtain ⟨o, h1, h2⟩ := h.2 i hi
   exact ⟨o, h1, qcn (fun e s h => qyc hk f _ e s h) _ _ _ h2⟩⟩
theorem q5r {all : Array Oper} {env : Env} {σ : Sto} {K1 K2 : Env → Sto → Prop} (hk : ∀ e s, K1 e s → K2 e s) (h : qyd P Gl n m all env σ K1) : qyd P Gl n m all env σ K2 := by
 rcases h with h | h | ⟨hl, k, f, h1, h2, h3⟩ | ⟨J, h1, h2, h3⟩
 ·exact .inl h
 ·exact .inr (.inl h)
 ·exact .inr (.inr (.inl ⟨hl, k, f, h1, h2, qcn (fun e s h => qyc (fun e s ⟨e0, g1, g2⟩ => ⟨e0, g1, hk _ _ g2⟩) f _ e s h) _ _ _ h3⟩))
 ·exact .inr (.inr (.inr ⟨J, h1, fun l e s a b c => hk _ _ (h2 l e s a b c), h3⟩))
theorem q9m : ∀ (c : Code) {env : Env} {σ : Sto} {K1 K2 : qfr → Env → Sto → Prop}, (∀ e env s, K1 e env s → K2 e env s) → evC P Gl n m c env σ K1 → evC P Gl n m c env σ K2 := by
 intro c
 induction c with
 | skip => intro env σ K1 K2 hk h; exact hk _ _ _ h
 | region id ops draw => intro env σ K1 K2 hk h; exact ⟨fun hd => q5r (fun e s h => hk _ e s h) (h.1 hd), qcn (fun e s h => hk _ e s h) _ _ _ h.2⟩
 | seq x y ihx ihy => intro env σ K1 K2 hk h; exact ihx (qge hk fun e s h => ihy hk h) h
 | cond c x y ihx ihy => intro env σ K1 K2 hk h; exact ⟨h.1, h.2.1, fun ht => ihx hk (h.2.2.1 ht), fun ht => ihy hk (h.2.2.2 ht)⟩
 | block id c ih => intro env σ K1 K2 hk h; exact ih (q53 hk) h
 | loop c ih =>
  intro env σ K1 K2 hk h
  obtain ⟨Inv, ν, h0, hs⟩ := h
  exact ⟨Inv, ν, h0, fun e s hi => ih (qge hk fun _ _ h => h) (hs e s hi)⟩
 | exit id => intro env σ K1 K2 hk h; exact hk _ _ _ h
 | ret => intro env σ K1 K2 hk h; exact hk _ _ _ h
 | scope c ih => intro env σ K1 K2 hk h; exact ih hk h
 | label l => intro env σ K1 K2 hk h; exact hk _ _ _ h
 | _ => intro env σ K1 K2 hk h; exact h.elim
theorem qck {c : Code} {τ : Type} (E : τ → Env) (S : τ → Sto) (Inv : τ → Prop) (ν : τ → Nat) (x0 : τ) (h0 : Inv x0) (hw : qhn n m env σ (E x0) (S x0))
  (hs : ∀ x, Inv x → evC P Gl n m c (E x) (S x) (qkl K fun e s => ∃ y, Inv y ∧ ν y < ν x ∧ qhn n m e s (E y) (S y))) :
  evC P Gl n m (.loop c) env σ K := by
 classical
 let μ : Env → Sto → Nat := fun e s => if h : ∃ k, ∃ x, Inv x ∧ e = E x ∧ s = S x ∧ ν x = k then Classical.choose (qd6 h) else 0
 have hμ : ∀ x, Inv x → (∃ y, Inv y ∧ E x = E y ∧ S x = S y ∧ ν y = μ (E x) (S x)) ∧ μ (E x) (S x) ≤ ν x := fun x hx => by
  have h : ∃ k, ∃ y, Inv y ∧ E x = E y ∧ S x = S y ∧ ν y = k := ⟨_, x, hx, rfl, rfl, rfl⟩
  have e : μ (E x) (S x) = Classical.choose (qd6 h) := by simp only [μ]; rw [dif_pos h]
  rw [e]
  have := Classical.choose_spec (qd6 h)
  exact ⟨this.1, this.2 _ ⟨x, hx, rfl, rfl, rfl⟩⟩
 refine ⟨fun e s => ∃ x, Inv x ∧ e = E x ∧ s = S x, μ, ⟨_, _, hw, x0, h0, rfl, rfl⟩, ?_⟩
 rintro e s ⟨x, hx, rfl, rfl⟩
 obtain ⟨⟨y, hy, e1, e2, e3⟩, _⟩ := hμ x hx
 rw [e1, e2]
 rw [e1, e2] at e3
 refine q9m _ (fun a b c h => ?_) (hs y hy)
 revert h
 refine qge (fun _ _ _ h => h) (fun e s h => ?_) a b c
 obtain ⟨z, hz, hlt, hw⟩ := h
 refine ⟨_, _, hw, ⟨z, hz, rfl, rfl⟩, ?_⟩
 have := (hμ z hz).2
 omega
theorem qa7 {c : Code} (N : Nat) (E : Nat → Env) (S : Nat → Sto) (Inv : Nat → Prop) (h0 : Inv 0) (hw : qhn n m env σ (E 0) (S 0))
  (hs : ∀ k, Inv k → k ≤ N → evC P Gl n m c (E k) (S k) (qkl K fun e s => k < N ∧ Inv (k + 1) ∧ qhn n m e s (E (k + 1)) (S (k + 1)))) :
  evC P Gl n m (.loop c) env σ K :=
 qck E S (fun k => Inv k ∧ k ≤ N) (fun k => N - k) 0 ⟨h0, Nat.zero_le _⟩ hw fun k hk => q9m _ (qge (fun _ _ _ h => h) fun _ _ h => ⟨k + 1, ⟨h.2.1, by omega⟩, by omega, h.2.2⟩) (hs k hk.1 hk.2)
end Go.AM


namespace Go.AM
def qb1 (ρ : List Nat) (N : Nat) (j : Nat) : Nat := if j < ρ.length then ρ.getD j 0 else N + (j - ρ.length)
mutual
def qf1 (b : Nat → Nat) : AV → AV
 | .undef => .undef
 | .d x => .d x
 | .nils => .nils
 | .agg cs => .agg (qt1 b cs)
 | .ptr id off => .ptr (b id) off
 | .eptr es xs i off => .eptr es xs i off
 | .aptr id i off => .aptr (b id) i off
 | .osl id off len => .osl (b id) off len
 | .rsl id len => .rsl (b id) len
 | .fn f caps => .fn f (qt1 b caps)
 | .tup vs => .tup (qt1 b vs)
 | .iff g v => .iff g (qf1 b v)
 | .mapr id => .mapr (b id)
 | .anyb => .anyb
def qt1 (b : Nat → Nat) : List AV → List AV
 | [] => []
 | c :: r => qf1 b c :: qt1 b r
end
theorem qes (b : Nat → Nat) : ∀ l : List AV, qt1 b l = l.map (qf1 b)
 | [] => rfl
 | c :: r => by rw [qt1, qes b r]; rfl
def qc3 (b : Nat → Nat) : Blk → Blk
 | .box n v => .box n (qf1 b v)
 | .map ik f => .map ik fun k => (f k).map (qf1 b)
 | B => B
def qdr (ρ : List Nat) (σ s : Sto) : Sto := (List.range (σ.length + (s.length - ρ.length))).map fun id =>
 match qca ρ id with
 | some j => qc3 (qb1 ρ σ.length) (qaa s j)
 | none => if id < σ.length then qaa σ id else qc3 (qb1 ρ σ.length) (qaa s (ρ.length + (id - σ.length)))
variable {P : Program} {Gl : qa5} {w w' : World} {I I' : Im} {μ μ' : Pos} {σ s s' : Sto}
theorem qel (b : Nat → Nat) (B : Blk) : (qc3 b B).isDead = B.isDead ∧ (qc3 b B).isArr = B.isArr ∧ (qc3 b B).es = B.es ∧ (qc3 b B).xs = B.xs ∧ (qc3 b B).own = B.own := by
 cases B <;> exact ⟨rfl, rfl, rfl, rfl, rfl⟩
theorem q9x (b : Nat → Nat) (v : AV) : (qf1 b v).one = v.one := by
 cases v <;> rfl
theorem qc6.im (h : ∀ b, I.rd b → I'.rd b) {v : Value} {x : D} (hv : qc6 w I v x) : qc6 w I' v x := hv.keep h (fun _ _ => rfl)
theorem q9w {b : Nat → Nat} (hI : ∀ x, I.rd x → I'.rd x)
  (hb : ∀ j < s.length, b j < s'.length ∧ (qb6 s' (b j) → qb6 s j ∧ μ' (b j) = μ j ∧ (qaa s' (b j)).isArr = (qaa s j).isArr ∧ (qaa s' (b j)).es = (qaa s j).es ∧ (qaa s' (b j)).xs = (qaa s j).xs))
  {v : Value} {u : AV} (hv : qa8 w I μ s v u) : qa8 w I' μ' s' v (qf1 b u) := by
 have lst : ∀ {vs : List Value} {cs : List AV}, (∀ (i : Nat) (v : Value) (x : AV), vs[i]? = some v → cs[i]? = some x → qa8 w I' μ' s' v (qf1 b x)) → ∀ (i : Nat) (v : Value) (x : AV), vs[i]? = some v → (qt1 b cs)[i]? = some x → qa8 w I' μ' s' v x := fun {vs cs} h i v x hv hx => by
  rw [qes, List.getElem?_map] at hx
  cases hc : cs[i]? with
  | none => rw [hc] at hx; cases hx
  | some c =>
   rw [hc] at hx
   simp only [Option.map_some, Option.some.injEq] at hx
   subst hx
   exact h i v c hv hc
 induction hv with
 | undef v => exact .undef v
 | d v x h => exact .d v x (h.im hI)
 | nils => exact .nils
 | agg vs cs hl hone h ih =>
  refine .agg vs _ (by rw [qes]; simpa using hl) (fun c hc => ?_) (lst ih)
  rw [qes] at hc
  obtain ⟨c', hc', rfl⟩ := List.mem_map.1 hc
  rw [q9x]; exact hone c' hc'
 | ptr v id off hid h =>
  obtain ⟨q1, q2⟩ := hb id hid
  obtain ⟨b', base, h1, h2⟩ := h
  exact .ptr v _ off q1 ⟨b', base, fun ha => by rw [(q2 ha).2.1]; exact h1 (q2 ha).1, h2⟩
 | eptr b' o es xs i off h => exact .eptr b' o es xs i off (h.keep hI (fun _ _ => rfl))
 | aptr v id i off hid h =>
  obtain ⟨q1, q2⟩ := hb id hid
  obtain ⟨b', base, es, h1, h2⟩ := h
  exact .aptr v _ i off q1 ⟨b', base, es, fun ha => by obtain ⟨a1, a2, a3, a4, a5⟩ := q2 ha; rw [a2, a4]; exact h1 a1, h2⟩
 | osl v id off len hid h =>
  obtain ⟨q1, q2⟩ := hb id hid
  refine .osl v _ off len q1 ?_
  rcases h with h | ⟨b', base, es, cap, h1, h2, h3⟩
  ·exact .inl h
  ·refine .inr ⟨b', base, es, cap, fun ha => ?_, h2, h3⟩
   obtain ⟨a1, a2, a3, a4, a5⟩ := q2 ha
   rw [a2, a3, a4, a5]; exact h1 a1
 | rsl v id len hid h =>
  obtain ⟨q1, q2⟩ := hb id hid
  obtain ⟨b', base, cap, h1, h2⟩ := h
  exact .rsl v _ len q1 ⟨b', base, cap, fun ha => by rw [(q2 ha).2.1]; exact h1 (q2 ha).1, h2⟩
 | fn f vs caps hl h ih => exact .fn f vs _ (by rw [qes]; simpa using hl) (lst ih)
 | tup vs cs hl h ih => exact .tup vs _ (by rw [qes]; simpa using hl) (lst ih)
 | iff g v x h1 h2 ih => exact .iff g v _ ih h2
 | mapr v id hid h =>
  obtain ⟨q1, q2⟩ := hb id hid
  obtain ⟨b', h1, h2⟩ := h
  exact .mapr v _ q1 ⟨b', fun ha => by rw [(q2 ha).2.1]; exact h1 (q2 ha).1, h2⟩
 | anyb c => exact .anyb c
theorem qym (b : Nat → Nat) (v : AV) (j : Nat) (hj : j < v.ncells) : (qf1 b v).ncells = v.ncells ∧ (qf1 b v).cellAt j = qf1 b (v.cellAt j) := by
 cases v with
 | agg cs =>
  simp only [qf1, AV.ncells, qes] at hj ⊢
  refine ⟨by simp, ?_⟩
  simp only [AV.cellAt, List.getD_eq_getElem?_getD, List.getElem?_map, List.getElem?_eq_getElem hj, Option.map_some, Option.getD_some]
 | _ => exact ⟨rfl, rfl⟩
theorem Qgr (ρ : List Nat) (σ s : Sto) : (qdr ρ σ s).length = σ.length + (s.length - ρ.length) := by simp [qdr]
theorem qkd {ρ : List Nat} {σ s : Sto} {id : Nat} (h : id < σ.length + (s.length - ρ.length)) : qaa (qdr ρ σ s) id = (match qca ρ id with
  | some j => qc3 (qb1 ρ σ.length) (qaa s j)
  | none => if id < σ.length then qaa σ id else qc3 (qb1 ρ σ.length) (qaa s (ρ.length + (id - σ.length)))) := by
 conv => lhs; unfold qaa qdr
 rw [List.getD_eq_getElem?_getD, List.getElem?_map, List.getElem?_range h]
 rfl
theorem q87 {ρ : List Nat} (hnd : ρ.Nodup) {j : Nat} (hj : j < ρ.length) : qca ρ (ρ.getD j 0) = some j := by
 have e : ρ.getD j 0 = ρ[j] := by simp [hj]
 rw [e]
 unfold qca
 rw [List.findIdx?_eq_some_iff_getElem]
 refine ⟨hj, by simp, fun k hk => ?_⟩
 simp only [beq_iff_eq]
 intro he
 have := (List.getElem_inj hnd).1 he
 omega
theorem Qa6 {ρ : List Nat} {id : Nat} (h : qca ρ id = none) : id ∉ ρ := by
 unfold qca at h
 rw [List.findIdx?_eq_none_iff] at h
 intro hm
 have := h id hm
 simp at this
mutual
theorem qmw : ∀ u : AV, qf1 (fun j => j) u = u
 | .undef | .d _ | .nils | .ptr .. | .eptr .. | .aptr .. | .osl .. | .rsl .. | .mapr _ | .anyb => by simp [qf1]
 | .agg cs => by rw [qf1, qpv cs]
 | .fn f caps => by rw [qf1, qpv caps]
 | .tup vs => by rw [qf1, qpv vs]
 | .iff g v => by rw [qf1, qmw v]
theorem qpv : ∀ l : List AV, qt1 (fun j => j) l = l
 | [] => by simp [qt1]
 | c :: r => by rw [qt1, qmw c, qpv r]
end
theorem qa8.im (h : ∀ b, I.rd b → I'.rd b) {v : Value} {u : AV} (hv : qa8 w I μ s v u) : qa8 w I' μ s v u := by
 have := q9w (I' := I') (μ' := μ) (s' := s) (b := fun j => j) h (fun j hj => ⟨hj, fun ha => ⟨ha, rfl, rfl, rfl, rfl⟩⟩) hv
 rwa [qmw] at this
theorem q8q {b : Nat} (h : qc4 w b) : b < w.heap.size := by
 obtain ⟨c, t, hc⟩ := h
 rcases Nat.lt_or_ge b w.heap.size with h' | h'
 ·exact h'
 ·rw [Array.getElem?_eq_none h'] at hc; cases hc
theorem qsn (hR : Rel w I μ σ) {id : Nat} (ho : (qaa σ id).own = true) {b o : Nat} (hm : μ id = some (b, o)) : b < w.heap.size ∧ ¬ I.fr b := by
 have hb := hR.blk id (qa3 ho)
 cases hB : qaa σ id with
 | box k v =>
  rw [hB] at hb
  obtain ⟨b', base, h1, h2, h3, _⟩ := hb
  rw [hm] at h1; cases h1
  exact ⟨q8q h3, h2⟩
 | arr es xs =>
  rw [hB] at hb
  rcases hb with ⟨h1, _⟩ | ⟨b', base, h1, h2, h3, _⟩
  ·rw [hm] at h1; cases h1
  ·rw [hm] at h1; cases h1
   exact ⟨q8q h3, h2⟩
 | map ik f =>
  rw [hB] at hb
  obtain ⟨b', es, clock, h1, h2, ⟨h3, _⟩, _⟩ := hb
  rw [hm] at h1; cases h1
  refine ⟨?_, h2⟩
  rcases Nat.lt_or_ge b w.heap.size with h' | h'
  ·exact h'
  ·rw [Array.getElem?_eq_none h'] at h3; cases h3
 | _ => rw [hB] at ho; simp [Blk.own] at ho
theorem qd8.im {id id' : Nat} {B : Blk} {b : Nat → Nat} (hI : ∀ x, I.rd x → I'.rd x) (hf : B.own = true → ∀ x o, μ id = some (x, o) → ¬ I.fr x → ¬ I'.fr x)
  (hμ : μ' id' = μ id) (hv : ∀ {v : Value} {u : AV}, qa8 w I μ s v u → qa8 w I' μ' s' v (qf1 b u)) (hb : qd8 w I μ s id B) : qd8 w I' μ' s' id' (qc3 b B) := by
 cases B with
 | dead => trivial
 | box k v =>
  obtain ⟨x, base, h1, h2, h3, h4, h5, h6⟩ := hb
  refine ⟨x, base, hμ.trans h1, hf rfl x base h1 h2, h3, h4, ?_, fun q hq => ?_⟩
  ·rcases Nat.eq_zero_or_pos v.ncells with hz | hp
   ·cases v <;> simp_all [AV.ncells, qf1, qes]
   ·rw [(qym b v 0 hp).1]; exact h5
  ·obtain ⟨a0, u, a1, a2⟩ := h6 q hq
   rw [(qym b v q (by omega)).2, q9x]
   exact ⟨a0, u, a1, hv a2⟩
 | arr es xs =>
  rcases hb with hb | ⟨x, base, h1, h2, h3, h4, h5, h6, h7⟩
  ·exact .inl ⟨hμ.trans hb.1, hb.2⟩
  ·exact .inr ⟨x, base, hμ.trans h1, hf rfl x base h1 h2, h3, h4, h5, h6, fun i q x y hx hy => by obtain ⟨v, a1, a2⟩ := h7 i q x y hx hy; exact ⟨v, a1, a2.im hI⟩⟩
 | frz es xs =>
  rcases hb with hb | ⟨x, base, h1, h2⟩
  ·exact .inl ⟨hμ.trans hb.1, hb.2⟩
  ·exact .inr ⟨x, base, hμ.trans h1, Qbp.keep (w := w) hI (fun _ _ => rfl) h2⟩
 | map ik f =>
  obtain ⟨x, es, clock, h1, h2, h3, h4⟩ := hb
  exact ⟨x, es, clock, hμ.trans h1, hf rfl x 0 h1 h2, h3, h4.imp fun v u hr => hv hr⟩
theorem qaf.under {f : FuncId} {args : List AV} {R : AV → Sto → Prop} (ρ : List Nat) (hnd : ρ.Nodup) (hlt : ∀ id ∈ ρ, id < σ.length) (h : qaf P Gl f (args.map (qbf ρ σ)) (qdb ρ σ) R) :
  qaf P Gl f args σ (fun r s => ∃ r0 s0, R r0 s0 ∧ r = qf1 (qb1 ρ σ.length) r0 ∧ s = qdr ρ σ s0) := by
 intro w I μ vals hR hG hl hv
 let given : Nat → Prop := fun b => ∃ id ∈ ρ, (qaa σ id).own = true ∧ ∃ o, μ id = some (b, o)
 let J : Im := { rd := I.rd, fr := fun b => b < w.heap.size ∧ ¬ given b, sub := fun b hb => ⟨hR.imm b (I.sub b hb), fun ⟨id, _, ho, o, hm⟩ => (qsn hR ho hm).2 (I.sub b hb)⟩ }
 have frJ : ∀ b, I.fr b → J.fr b := fun b hb => ⟨hR.imm b hb, fun ⟨id, _, ho, o, hm⟩ => (qsn hR ho hm).2 hb⟩
 obtain ⟨r1, r2⟩ := Qco (m := 0) hR (ρ := ρ) rfl hnd
 have hlen0 : (qdb ρ σ).length = ρ.length := by simp [qdb]
 have own0 : ∀ j, (qaa (qdb ρ σ) j).own = true → ∃ id, ρ[j]? = some id ∧ (qaa σ id).own = true := fun j hj => by
  have hl := qa3 hj
  rw [hlen0] at hl
  have hs : ρ[j]? = some ρ[j] := List.getElem?_eq_getElem hl
  refine ⟨ρ[j], hs, ?_⟩
  rw [qe7 hs] at hj
  cases hB : qaa σ ρ[j] with
  | box k v => rfl
  | arr es xs => rfl
  | map ik f => rfl
  | _ => rw [hB] at hj; simp [qbu, Blk.own] at hj
 have posR : ∀ j id, ρ[j]? = some id → qec ρ μ j = μ id := fun j id hj => by unfold qec; rw [hj]
 have notJ : ∀ j, (qaa (qdb ρ σ) j).own = true → ∀ b o, qec ρ μ j = some (b, o) → ¬ J.fr b := fun j hj b o hm hf => by
  obtain ⟨id, h1, h2⟩ := own0 j hj
  rw [posR j id h1] at hm
  exact hf.2 ⟨id, List.mem_of_getElem? h1, h2, o, hm⟩
 have backBid : ∀ B : Blk, qc3 (fun j => j) B = B := fun B => by
  cases B with
  | map ik f =>
   simp only [qc3]
   congr 1
   funext k
   cases f k <;> simp [qmw]
  | _ => simp [qc3, qmw]
 have hRJ : Rel w J (qec ρ μ) (qdb ρ σ) := by
  refine ⟨fun b hb => hb.1, fun j hj => ?_, r1.apart⟩
  have := qd8.im (w := w) (I := I) (I' := J) (s := qdb ρ σ) (μ' := qec ρ μ) (s' := qdb ρ σ) (id' := j) (b := fun j => j) (fun _ h => h) (fun ho b o hm _ => notJ j ho b o hm) rfl (fun {v u} hv => by rw [qmw]; exact qa8.im (I := I) (I' := J) (fun _ h => h) hv) (r1.blk j hj)
  rwa [backBid] at this
 have hGJ : qe2 Gl w J := ⟨fun p hp => Qbp.keep (w := w) (I := I) (I' := J) (fun _ h => h) (fun _ _ => rfl) (hG.sl p hp), hG.ex⟩
 refine (h w J (qec ρ μ) vals hRJ hGJ (by simp [hl]) fun i v u hv' hu => ?_).mono fun v w' ⟨r0, s0, I1, μ1, q1, q2, q3, q4⟩ => ?_
 ·rw [List.getElem?_map] at hu
  cases ha : args[i]? with
  | none => rw [ha] at hu; cases hu
  | some a =>
   rw [ha] at hu
   simp only [Option.map_some, Option.some.injEq] at hu
   subst hu
   exact qa8.im (I := I) (I' := J) (fun _ h => h) (qkp hR (hv i v a hv' ha))
 ·have hge : ρ.length ≤ s0.length := by have := q2.len; omega
  let I2 : Im := { rd := I1.rd, fr := fun b => I.fr b ∨ I1.rd b, sub := fun b hb => .inr hb }
  let N := σ.length
  let s2 := qdr ρ σ s0
  let μ2 : Pos := fun id => match qca ρ id with | some j => μ1 j | none => if id < N then μ id else μ1 (ρ.length + (id - N))
  have s2len : s2.length = N + (s0.length - ρ.length) := Qgr ρ σ s0
  have hρ : ∀ j, j < ρ.length → ρ.getD j 0 ∈ ρ := fun j hj => by simp [hj]
  have hnone : ∀ id, N ≤ id → qca ρ id = none := fun id hid => by
   cases hx : qca ρ id with
   | none => rfl
   | some j => have := hlt id (List.mem_of_getElem? (qiz hx)); omega
  have factB : ∀ j, j < s0.length → qb1 ρ N j < s2.length ∧ qaa s2 (qb1 ρ N j) = qc3 (qb1 ρ N) (qaa s0 j) ∧ μ2 (qb1 ρ N j) = μ1 j := fun j hj => by
   by_cases hj2 : j < ρ.length
   ·have e : qb1 ρ N j = ρ.getD j 0 := by unfold qb1; rw [if_pos hj2]
    have hlt' : ρ.getD j 0 < N := hlt _ (hρ j hj2)
    rw [e]
    refine ⟨by omega, ?_, ?_⟩
    ·show qaa (qdr ρ σ s0) _ = _
     rw [qkd (by omega), q87 hnd hj2]
    ·simp only [μ2]; rw [q87 hnd hj2]
   ·have e : qb1 ρ N j = N + (j - ρ.length) := by unfold qb1; rw [if_neg hj2]
    rw [e]
    refine ⟨by omega, ?_, ?_⟩
    ·show qaa (qdr ρ σ s0) _ = _
     rw [qkd (by omega), hnone _ (by omega)]
     simp only
     rw [if_neg (by omega)]
     congr 2; omega
    ·simp only [μ2]; rw [hnone _ (by omega)]
     simp only
     rw [if_neg (by omega)]
     congr 1; omega
  have factC : ∀ id, id < s2.length → (∃ j, j < s0.length ∧ id = qb1 ρ N j) ∨ (id < N ∧ id ∉ ρ ∧ qaa s2 id = qaa σ id ∧ μ2 id = μ id) := fun id hid => by
   cases hx : qca ρ id with
   | some j =>
    left
    have hs := qiz hx
    have hj : j < ρ.length := by
     rcases Nat.lt_or_ge j ρ.length with h' | h'
     ·exact h'
     ·rw [List.getElem?_eq_none h'] at hs; cases hs
    refine ⟨j, by omega, ?_⟩
    unfold qb1; rw [if_pos hj, List.getD_eq_getElem?_getD, hs]; rfl
   | none =>
    by_cases hn : id < N
    ·right
     refine ⟨hn, Qa6 hx, ?_, ?_⟩
     ·show qaa (qdr ρ σ s0) _ = _
      rw [qkd (by omega), hx]
      simp only
      rw [if_pos hn]
     ·simp only [μ2]; rw [hx]; simp only; rw [if_pos hn]
    ·left
     refine ⟨ρ.length + (id - N), by omega, ?_⟩
     unfold qb1; rw [if_neg (by omega)]; omega
  have aliveB : ∀ j, j < s0.length → (qb6 s2 (qb1 ρ N j) → qb6 s0 j) := fun j hj ha => by
   unfold qb6 at *
   rw [(factB j hj).2.1, (qel _ _).1] at ha
   exact ha
  have repB : ∀ {v : Value} {u : AV}, qa8 w' I1 μ1 s0 v u → qa8 w' I2 μ2 s2 v (qf1 (qb1 ρ N) u) := fun {v u} hv =>
   q9w (I := I1) (I' := I2) (fun _ h => h) (fun j hj => by
    obtain ⟨b1, b2, b3⟩ := factB j hj
    obtain ⟨_, c2, c3, c4, _⟩ := qel (qb1 ρ N) (qaa s0 j)
    exact ⟨b1, fun ha => ⟨aliveB j hj ha, b3, by rw [b2, c2], by rw [b2, c3], by rw [b2, c4]⟩⟩) hv
  have kp : qce N w I μ σ w' I2 μ2 s2 := by
   refine ⟨q2.os, q2.tape, q2.output, q2.size, q2.imm, fun b hb => .inl hb, fun b hb => ?_, fun b hb => q2.same b (frJ b hb), q2.bsize, by omega, fun id hid ha => ?_⟩
   ·rcases q2.rdn b hb with h1 | h1
    ·exact .inl h1
    ·exact .inr fun hf => h1 (frJ b hf)
   ·rcases factC id (by omega) with ⟨j, hj, rfl⟩ | ⟨_, _, c3, c4⟩
    ·obtain ⟨b1, b2, b3⟩ := factB j hj
     obtain ⟨_, c2, c3, c4, _⟩ := qel (qb1 ρ N) (qaa s0 j)
     have hj2 : j < ρ.length := by
      rcases Nat.lt_or_ge j ρ.length with h' | h'
      ·exact h'
      ·unfold qb1 at hid; rw [if_neg (by omega)] at hid; omega
     have hs : ρ[j]? = some (qb1 ρ N j) := by
      unfold qb1; rw [if_pos hj2]; simp [hj2]
     obtain ⟨o1, o2, o3, o4, o5⟩ := q2.old j (by omega) (aliveB j hj ha)
     have hb0 := qe7 (σ := σ) hs
     obtain ⟨d1, d2, d3⟩ := qy5 ρ σ (qaa σ (qb1 ρ N j))
     refine ⟨?_, ?_, ?_, ?_, ?_⟩
     ·unfold qb6 at o1 ⊢; rw [hb0] at o1; exact qmk o1
     ·rw [b3, o2]; exact posR j _ hs
     ·rw [b2, c2, o3, hb0, d1]
     ·rw [b2, c3, o4, hb0, d2]
     ·rw [b2, c4]; rw [hb0, d3] at o5; exact o5
    ·unfold qb6 at ha ⊢
     rw [c3] at ha
     exact ⟨ha, c4, by rw [c3], by rw [c3], by rw [c3]; exact Nat.le_refl _⟩
  have ownC : ∀ id, id ∉ ρ → (qaa σ id).own = true → ∀ b o, μ id = some (b, o) → J.fr b := fun id hid ho b o hm =>
   ⟨(qsn hR ho hm).1, fun ⟨id', h1, h2, o', h3⟩ => hR.apart id id' b b o o' (fun e => hid (e ▸ h1)) ho h2 hm h3 rfl⟩
  refine ⟨qf1 (qb1 ρ N) r0, s2, I2, μ2, ?_, kp, repB q3, r0, s0, q4, rfl, rfl⟩
  refine ⟨fun b hb => ?_, fun id hid => ?_, fun i j b b' o o' hij hi hj hμi hμj => ?_⟩
  ·rcases hb with hb | hb
   ·exact Nat.lt_of_lt_of_le (hR.imm b hb) q2.size
   ·exact q1.imm b (I1.sub b hb)
  ·rcases factC id hid with ⟨j, hj, rfl⟩ | ⟨c1, c2, c3, c4⟩
   ·obtain ⟨b1, b2, b3⟩ := factB j hj
    rw [b2]
    refine qd8.im (I := I1) (I' := I2) (fun _ h => h) (fun ho b o hm hn hf => ?_) b3 repB (q1.blk j hj)
    rcases hf with hf | hf
    ·exact hn (q2.fr b (frJ b hf))
    ·exact hn (I1.sub b hf)
   ·rw [c3]
    refine qd8.keep kp c4 (fun ho b o hm => ?_) (hR.blk id c1)
    have hJ := ownC id c2 ho b o hm
    refine ⟨q2.same b hJ, fun hn hf => ?_⟩
    rcases hf with hf | hf
    ·exact hn hf
    ·rcases q2.rdn b hf with h1 | h1
     ·exact hn (I.sub b h1)
     ·exact h1 hJ
  ·rcases factC i (qa3 hi) with ⟨j1, hj1, rfl⟩ | ⟨c1, c2, c3, c4⟩ <;> rcases factC j (qa3 hj) with ⟨j2, hj2, rfl⟩ | ⟨e1, e2, e3, e4⟩
   ·rw [(factB j1 hj1).2.1, (qel _ _).2.2.2.2] at hi
    rw [(factB j2 hj2).2.1, (qel _ _).2.2.2.2] at hj
    rw [(factB j1 hj1).2.2] at hμi
    rw [(factB j2 hj2).2.2] at hμj
    exact q1.apart j1 j2 b b' o o' (fun e => hij (by rw [e])) hi hj hμi hμj
   ·rw [(factB j1 hj1).2.1, (qel _ _).2.2.2.2] at hi
    rw [(factB j1 hj1).2.2] at hμi
    rw [e3] at hj
    rw [e4] at hμj
    intro e
    subst e
    exact (qsn q1 hi hμi).2 (q2.fr _ (ownC j e2 hj _ _ hμj))
   ·rw [(factB j2 hj2).2.1, (qel _ _).2.2.2.2] at hj
    rw [(factB j2 hj2).2.2] at hμj
    rw [c3] at hi
    rw [c4] at hμi
    intro e
    subst e
    exact (qsn q1 hj hμj).2 (q2.fr _ (ownC i c2 hi _ _ hμi))
   ·rw [c3] at hi
    rw [c4] at hμi
    rw [e3] at hj
    rw [e4] at hμj
    exact hR.apart i j b b' o o' hij hi hj hμi hμj
theorem q36 (σ : Sto) : qdr [] σ [] = σ := by
 unfold qdr
 simp only [List.length_nil, Nat.sub_zero, Nat.add_zero]
 apply List.ext_getElem?
 intro i
 rw [List.getElem?_map]
 rcases Nat.lt_or_ge i σ.length with h | h
 ·rw [List.getElem?_range h]
  simp only [Option.map_some, qca, List.findIdx?_nil, if_pos h]
  unfold qaa
  simp [h]
 ·rw [List.getElem?_eq_none (by simpa using h), List.getElem?_eq_none h]; rfl
theorem qaf.pure {f : FuncId} {args : List D} {y : D} (h : qaf P Gl f (args.map AV.d) [] (fun r s => r = .d y ∧ s = [])) (s : Sto) : qaf P Gl f (args.map AV.d) s (fun r s' => r = .d y ∧ s' = s) := by
 have e : (args.map AV.d).map (qbf [] s) = args.map AV.d := by simp [qbf, qjd]
 have h1 := qaf.under (P := P) (Gl := Gl) (f := f) (args := args.map AV.d) (R := fun r s => r = .d y ∧ s = []) (σ := s) [] List.nodup_nil (by simp) (by rw [e]; exact h)
 refine h1.mono fun r s' h2 => ?_
 obtain ⟨r0, s0, ⟨h1, h2⟩, h3, h4⟩ := h2
 subst h1; subst h2; subst h3; subst h4
 exact ⟨by simp [qf1], q36 s⟩
end Go.AM


namespace Go.AM
theorem Qgv : type_of% (And.intro @List.set_cons_zero.{0} (And.intro @List.set_cons_succ.{0} (And.intro @List.nil_append.{0} (And.intro @List.cons_append.{0} (And.intro @List.append_nil.{0} (And.intro @List.length_cons.{0} (And.intro @List.length_nil.{0} (And.intro @List.length_map.{0,0} (And.intro @List.map_cons.{0,0} (And.intro @List.map_nil.{0,0} (And.intro @List.getD_cons_zero.{0} (And.intro @List.getD_cons_succ.{0} (And.intro @List.drop_zero.{0} (And.intro @List.drop_succ_cons.{0} (And.intro @List.drop_nil.{0} (And.intro @List.take_zero.{0} (And.intro @List.take_succ_cons.{0} (And.intro @List.take_nil.{0} (And.intro @List.all_cons.{0} (And.intro @List.all_nil.{0} (And.intro @List.flatMap_cons.{0,0} (And.intro @List.flatMap_nil.{0,0} (And.intro @Int.toNat_natCast (And.intro @true_and (And.intro @and_true (And.intro @false_and (And.intro @and_false (And.intro @true_or (And.intro @or_true (And.intro @false_or (And.intro @or_false (And.intro @and_self (And.intro @or_self (And.intro @not_true_eq_false (And.intro @not_false_eq_true (And.intro @if_true.{1} (And.intro @if_false.{1} (And.intro @true_implies (And.intro @false_implies (And.intro @implies_true.{0} (And.intro @Option.isSome_some.{0} (And.intro @Option.map_some.{0,0} (And.intro @Option.map_none.{0,0} (And.intro @Bool.and_true (And.intro @Bool.true_and (And.intro @Bool.and_false (And.intro @Bool.false_and (And.intro @Bool.or_true (And.intro @Bool.true_or (And.intro @Bool.or_false (And.intro @Bool.false_or (And.intro @Bool.not_true (And.intro @Bool.not_false (And.intro @Bool.false_eq_true (And.intro @ne_eq.{1} (And.intro @Nat.le_refl (And.intro @Nat.zero_add (And.intro @Nat.add_zero (And.intro @decide_true (And.intro @decide_false (And.intro @Nat.zero_le (And.intro @cond_true.{1} (And.intro @cond_false.{1} (And.intro @Int.natCast_nonneg (And.intro @List.getElem?_cons_zero.{0} (And.intro @List.getElem?_cons_succ.{0} (And.intro @eq_self.{1} (And.intro @List.length_append.{0} (And.intro @List.getD_nil.{0} (And.intro @List.append_assoc.{0} (And.intro @List.length_set.{0} (And.intro @beq_true (And.intro @beq_false (And.intro @imp_self (And.intro @List.mem_cons.{0} (And.intro @List.not_mem_nil.{0} (And.intro @forall_eq_or_imp.{1} (And.intro @forall_eq.{1} (And.intro @Bool.cond_false_right (And.intro @Bool.cond_true_right (And.intro @Bool.cond_false_left (And.intro @Bool.cond_true_left (And.intro @Bool.cond_self.{1} (@Bool.not_not)))))))))))))))))))))))))))))))))))))))))))))))))))))))))))))))))))))))))))))))))))) := And.intro @List.set_cons_zero.{0} (And.intro @List.set_cons_succ.{0} (And.intro @List.nil_append.{0} (And.intro @List.cons_append.{0} (And.intro @List.append_nil.{0} (And.intro @List.length_cons.{0} (And.intro @List.length_nil.{0} (And.intro @List.length_map.{0,0} (And.intro @List.map_cons.{0,0} (And.intro @List.map_nil.{0,0} (And.intro @List.getD_cons_zero.{0} (And.intro @List.getD_cons_succ.{0} (And.intro @List.drop_zero.{0} (And.intro @List.drop_succ_cons.{0} (And.intro @List.drop_nil.{0} (And.intro @List.take_zero.{0} (And.intro @List.take_succ_cons.{0} (And.intro @List.take_nil.{0} (And.intro @List.all_cons.{0} (And.intro @List.all_nil.{0} (And.intro @List.flatMap_cons.{0,0} (And.intro @List.flatMap_nil.{0,0} (And.intro @Int.toNat_natCast (And.intro @true_and (And.intro @and_true (And.intro @false_and (And.intro @and_false (And.intro @true_or (And.intro @or_true (And.intro @false_or (And.intro @or_false (And.intro @and_self (And.intro @or_self (And.intro @not_true_eq_false (And.intro @not_false_eq_true (And.intro @if_true.{1} (And.intro @if_false.{1} (And.intro @true_implies (And.intro @false_implies (And.intro @implies_true.{0} (And.intro @Option.isSome_some.{0} (And.intro @Option.map_some.{0,0} (And.intro @Option.map_none.{0,0} (And.intro @Bool.and_true (And.intro @Bool.true_and (And.intro @Bool.and_false (And.intro @Bool.false_and (And.intro @Bool.or_true (And.intro @Bool.true_or (And.intro @Bool.or_false (And.intro @Bool.false_or (And.intro @Bool.not_true (And.intro @Bool.not_false (And.intro @Bool.false_eq_true (And.intro @ne_eq.{1} (And.intro @Nat.le_refl (And.intro @Nat.zero_add (And.intro @Nat.add_zero (And.intro @decide_true (And.intro @decide_false (And.intro @Nat.zero_le (And.intro @cond_true.{1} (And.intro @cond_false.{1} (And.intro @Int.natCast_nonneg (And.intro @List.getElem?_cons_zero.{0} (And.intro @List.getElem?_cons_succ.{0} (And.intro @eq_self.{1} (And.intro @List.length_append.{0} (And.intro @List.getD_nil.{0} (And.intro @List.append_assoc.{0} (And.intro @List.length_set.{0} (And.intro @beq_true (And.intro @beq_false (And.intro @imp_self (And.intro @List.mem_cons.{0} (And.intro @List.not_mem_nil.{0} (And.intro @forall_eq_or_imp.{1} (And.intro @forall_eq.{1} (And.intro @Bool.cond_false_right (And.intro @Bool.cond_true_right (And.intro @Bool.cond_false_left (And.intro @Bool.cond_true_left (And.intro @Bool.cond_self.{1} (@Bool.not_not)))))))))))))))))))))))))))))))))))))))))))))))))))))))))))))))))))))))))))))))))))
theorem q9y : type_of% (And.intro @Qgv (And.intro @implies_true.{0} @implies_true.{1})) := And.intro @Qgv (And.intro @implies_true.{0} @implies_true.{1})
theorem Qjb {α : Type} [Inhabited α] (f : α → D) (l : List α) (i : Nat) (h : i < l.length) : (l.map f).getD i default = f (l.getD i default) := by
 simp [h]
theorem qbl {n : Int} (h1 : -9223372036854775808 ≤ n) (h2 : n ≤ 9223372036854775807) : IntKind.i64.wrap n = n := by
 rw [IntKind.wrap_i64]; omega
end Go.AM


set_option linter.unusedVariables false
namespace Go.AM
theorem Qmh {a b : Int} (h : a = b) : (a == b) = true := by simp [h]
theorem Qg5 {a b : Int} (h : ¬ a = b) : (a == b) = false := by simp [h]
theorem qat {α : Type} [Inhabited α] (f : α → D) (l : List α) (i : Nat) (h : i < l.length) : (l.map f).getD i default = f (l.getD i default) := Qjb f l i h
theorem qai {n : Int} (h : -9223372036854775808 ≤ n ∧ n ≤ 9223372036854775807) : IntKind.i64.wrap n = n := qbl h.1 h.2
end Go.AM


set_option linter.unusedVariables false
namespace Go.AM
variable {P : Program} {Gl : qa5}
def qbw (P : Program) (Gl : qa5) (f : FuncId) (args : List AV) (r : AV) : Prop := ∀ σ, qaf P Gl f args σ (fun r' s => r' = r ∧ s = σ)
theorem qbw.of {f : FuncId} {args : List D} {y : D} (h : qaf P Gl f (args.map AV.d) [] (fun r s => r = .d y ∧ s = [])) : qbw P Gl f (args.map AV.d) (.d y) := fun σ => qaf.pure h σ
theorem qbw.ofT {f : FuncId} {args : List D} {y : AV} (hy : ∀ b, qf1 b y = y) (h : qaf P Gl f (args.map AV.d) [] (fun r s => r = y ∧ s = [])) : qbw P Gl f (args.map AV.d) y := fun s => by
 have e : (args.map AV.d).map (qbf [] s) = args.map AV.d := by simp [qbf, qjd]
 have h1 := qaf.under (P := P) (Gl := Gl) (f := f) (args := args.map AV.d) (R := fun r s => r = y ∧ s = []) (σ := s) [] List.nodup_nil (by simp) (by rw [e]; exact h)
 refine h1.mono fun r s' h2 => ?_
 obtain ⟨r0, s0, ⟨h1, h2⟩, h3, h4⟩ := h2
 subst h1; subst h2; subst h3; subst h4
 exact ⟨hy _, q36 s⟩
theorem q56 (x y : D) (b : Nat → Nat) : qf1 b (.tup [.d x, .d y]) = .tup [.d x, .d y] := by simp [qf1, qt1]
theorem qbw.of1t2 {f : FuncId} {a x y : D} (h : qaf P Gl f [.d a] [] (fun r s => r = .tup [.d x, .d y] ∧ s = [])) : qbw P Gl f [.d a] (.tup [.d x, .d y]) := qbw.ofT (args := [a]) (q56 x y) h
theorem qbw.of2t2 {f : FuncId} {a b x y : D} (h : qaf P Gl f [.d a, .d b] [] (fun r s => r = .tup [.d x, .d y] ∧ s = [])) : qbw P Gl f [.d a, .d b] (.tup [.d x, .d y]) := qbw.ofT (args := [a, b]) (q56 x y) h
theorem qbw.of3t2 {f : FuncId} {a b c x y : D} (h : qaf P Gl f [.d a, .d b, .d c] [] (fun r s => r = .tup [.d x, .d y] ∧ s = [])) : qbw P Gl f [.d a, .d b, .d c] (.tup [.d x, .d y]) := qbw.ofT (args := [a, b, c]) (q56 x y) h
def qja (P : Program) (Gl : qa5) (f : FuncId) (args : List AV) (es : Nat) (xs : List D) : Prop := ∀ σ, qaf P Gl f args σ (fun r s => r = .osl σ.length 0 xs.length ∧ s = σ ++ [.arr es xs])
theorem qja.of {f : FuncId} {args : List D} {es : Nat} {xs : List D} (h : qaf P Gl f (args.map AV.d) [] (fun r s => r = .osl 0 0 xs.length ∧ s = [.arr es xs])) : qja P Gl f (args.map AV.d) es xs := fun s => by
 have e : (args.map AV.d).map (qbf [] s) = args.map AV.d := by simp [qbf, qjd]
 have h1 := qaf.under (P := P) (Gl := Gl) (f := f) (args := args.map AV.d) (σ := s) [] List.nodup_nil (by simp) (by rw [e]; exact h)
 refine h1.mono fun r s' h2 => ?_
 obtain ⟨r0, s0, ⟨h1, h2⟩, h3, h4⟩ := h2
 subst h1; subst h2; subst h3; subst h4
 refine ⟨by simp [qf1, qb1], ?_⟩
 apply List.ext_getElem
 ·simp [qdr]
 ·intro i h1 h2
  simp only [qdr, List.getElem_map, List.getElem_range]
  have : qca [] i = none := rfl
  rw [this]
  simp only [List.length_nil, Nat.zero_add]
  by_cases hi : i < s.length
  ·rw [if_pos hi, List.getElem_append_left hi]
   unfold qaa
   simp [hi]
  ·simp [qdr] at h1
   have : i = s.length := by omega
   subst this
   rw [if_neg (by omega), List.getElem_append_right (by omega)]
   simp [qaa, qc3]
theorem qbw.of0 {f : FuncId} {y : D} (h : qaf P Gl f [] [] (fun r s => r = .d y ∧ s = [])) : qbw P Gl f [] (.d y) := qbw.of (args := []) h
theorem qbw.of1 {f : FuncId} {a y : D} (h : qaf P Gl f [.d a] [] (fun r s => r = .d y ∧ s = [])) : qbw P Gl f [.d a] (.d y) := qbw.of (args := [a]) h
theorem qbw.of2 {f : FuncId} {a b y : D} (h : qaf P Gl f [.d a, .d b] [] (fun r s => r = .d y ∧ s = [])) : qbw P Gl f [.d a, .d b] (.d y) := qbw.of (args := [a, b]) h
theorem qbw.of3 {f : FuncId} {a b c y : D} (h : qaf P Gl f [.d a, .d b, .d c] [] (fun r s => r = .d y ∧ s = [])) : qbw P Gl f [.d a, .d b, .d c] (.d y) := qbw.of (args := [a, b, c]) h
theorem Qfy {f : FuncId} {fn : Func} {e : Array Value → Sem Value} (hf : P.funcs[f]? = some fn) (hname : (fn.name == "runtime.NumGoroutine") = false) (hb : fn.body.isNone = true) (hn : Extern.findNext fn = none) (he : Extern.find fn = some e)
  {args : List AV} {r : AV} (h : ∀ w I μ σ (vals : List Value), (∀ (i : Nat) (v : Value) (u : AV), vals[i]? = some v → args[i]? = some u → qa8 w I μ σ v u) → vals.length = args.length → ∃ v, (e vals.toArray).run P w = .ok v w ∧ qa8 w I μ σ v r) :
  qbw P Gl f args r := by
 intro σ w I μ vals hR hG hl hv
 obtain ⟨v, h1, h2⟩ := h w I μ σ vals hv hl
 rw [run_callFunc_extern hf hname hb hn he vals.toArray w]
 simp only [Sem.run_bind, h1, Result.andThen_ok, Sem.run_pure]
 exact ⟨r, σ, I, μ, hR, qce.refl _ _ _ _ (Nat.le_refl _), h2, rfl, rfl⟩
theorem qi8 {f : FuncId} {fn : Func} (hf : P.funcs[f]? = some fn) (hname : (fn.name == "runtime.NumGoroutine") = false) (hb : fn.body.isNone = true) (hn : Extern.findNext fn = none) (he : Extern.find fn = some Extern.BytealgIndexByte.indexByte) (s : List UInt8) (c : Int) :
  qbw P Gl f [.d (.str s), .d (.int .u8 c)] (.d (.int .i64 (Lib.indexByte s c.toNat.toUInt8))) := by
 refine Qfy hf hname hb hn he fun w I μ σ vals hv hl => ?_
 match vals, hl with
 | [a, b], _ =>
  have h1 := (hv 0 a _ rfl rfl).inv_d
  have h2 := (hv 1 b _ rfl rfl).inv_d
  cases h1
  cases h2
  exact ⟨_, Lib.run_indexByteString _ _ _, .d _ _ (.int _ _)⟩
section
variable {n : Nat} {all : Array Oper} {draw : Bool} {rest : List Oper} {KK : Env → Sto → Prop} {env : Env} {σ : Sto} {f : FuncId} {as caps : List AV} {v : AV} {dst : Option Tmp} {g : Bool}
theorem q51 (h : qbw P Gl f (as ++ caps) v) (h2 : qal P Gl n all draw rest (putE env dst v) σ KK) : qfp P Gl n all draw dst rest (.fn f caps) as env σ KK :=
 Qjq (fun s => h s) h2
theorem q5z (h : g = true → qbw P Gl f (as ++ caps) v) (h2 : qal P Gl n all draw rest (putE env dst (.iff g v)) σ KK) : qtt P Gl n all draw dst rest g (.fn f caps) as env σ KK :=
 Qjp (fun hg s => h hg s) h2
theorem qah (h : qbw P Gl f as v) (h2 : qal P Gl n all draw rest (putE env dst v) σ KK) : qfp P Gl n all draw dst rest (.fn f []) as env σ KK :=
 q51 (by rwa [List.append_nil]) h2
theorem qbs (h : g = true → qbw P Gl f as v) (h2 : qal P Gl n all draw rest (putE env dst (.iff g v)) σ KK) : qtt P Gl n all draw dst rest g (.fn f []) as env σ KK :=
 q5z (fun hg => by rw [List.append_nil]; exact h hg) h2
end
theorem qct {α : Type} [Inhabited α] {l : List α} {k : Nat} (h : k < l.length) : l.getD k default ∈ l := by
 have : l.getD k default = l[k] := by simp [h]
 rw [this]; exact List.getElem_mem h
theorem qa1 {α : Type} [Inhabited α] (l : List α) (k : Nat) (h : k < l.length) : l.take (k + 1) = l.take k ++ [l.getD k default] := by
 rw [List.take_add_one, List.getElem?_eq_getElem h, List.getD_eq_getElem?_getD, List.getElem?_eq_getElem h]; rfl
theorem qe1 {α : Type} [Inhabited α] (p : α → Bool) (l : List α) (k : Nat) (h : k < l.length) : (l.take (k + 1)).all p = ((l.take k).all p && p (l.getD k default)) := by
 rw [qa1 l k h, List.all_append]; simp only [List.all_cons, List.all_nil, Bool.and_true]
theorem qyo {α : Type} [Inhabited α] (p : α → Bool) (l : List α) (k : Nat) (h : k < l.length) (hp : p (l.getD k default) = false) : l.all p = false := by
 rw [List.all_eq_false]
 exact ⟨l[k], List.getElem_mem h, by simpa [h] using hp⟩
theorem qdy {α : Type} [Inhabited α] (p : α → Bool) (l : List α) (k : Nat) (h : k < l.length) : (l.take (k + 1)).any p = ((l.take k).any p || p (l.getD k default)) := by
 rw [qa1 l k h, List.any_append]; simp only [List.any_cons, List.any_nil, Bool.or_false]
theorem q33 (l : List UInt8) : (ByteArray.mk l.toArray).data.toList = l := rfl
theorem qz4 (n : Nat) : (n : Int).toNat = n := rfl
theorem qa0 {x : D} {σ : Sto} : qcm 0 (.d x) σ (.d x) [] := qae [] [] rfl List.nodup_nil rfl rfl
theorem qu7 {x y : D} {σ : Sto} : qcm 0 (.tup [.d x, .d y]) σ (.tup [.d x, .d y]) [] := qae [] [] rfl List.nodup_nil rfl rfl
theorem qcm.trans {m : Nat} {r1 r2 r3 : AV} {s1 s2 s3 : Sto} (h : qcm m r1 s1 r2 s2) (k : qcm m r2 s2 r3 s3) : qcm m r1 s1 r3 s3 := fun w I μ v h1 h2 h3 => by
 obtain ⟨I1, μ1, a1, a2, a3⟩ := h w I μ v h1 h2 h3
 obtain ⟨I2, μ2, b1, b2, b3⟩ := k w I1 μ1 v a1 a2 a3.len
 exact ⟨I2, μ2, b1, b2, a3.trans b3⟩
theorem qhn.trans {n m : Nat} {e1 e2 e3 : Env} {s1 s2 s3 : Sto} (h : qhn n m e1 s1 e2 s2) (k : qhn n m e2 s2 e3 s3) : qhn n m e1 s1 e3 s3 := fun w I μ a h1 h2 h3 => by
 obtain ⟨I1, μ1, a1, a2, a3⟩ := h w I μ a h1 h2 h3
 obtain ⟨I2, μ2, b1, b2, b3⟩ := k w I1 μ1 a a1 a2 a3.len
 exact ⟨I2, μ2, b1, b2, a3.trans b3⟩
theorem qeh {m : Nat} {σ : Sto} (es : Nat) (hm : m ≤ σ.length) : qcm m .nils σ (.osl σ.length 0 0) (σ ++ [.arr es []]) := fun w I μ v h1 h2 h3 => by
 obtain ⟨μ', a1, a2⟩ := h1.addNone es
 cases h2
 exact ⟨I, μ', a1, .osl _ _ 0 0 (by simp) (.inl ⟨rfl, none, rfl⟩), a2.mono hm⟩
theorem qhs {n m : Nat} {σ : Sto} {env : Env} (t es : Nat) (h : qd0 env t = .nils) : qhn n m env σ ((t, .osl σ.length 0 0) :: env) (σ ++ [.arr es []]) := fun w I μ a h1 h2 h3 => by
 obtain ⟨μ', a1, a2⟩ := h1.addNone es
 refine ⟨I, μ', a1, ⟨h2.defers, h2.size, fun t' => ?_⟩, a2.mono h3⟩
 have h4 := h2.slot t'
 simp only [qd0]
 by_cases e : t = t'
 ·rw [if_pos e]
  subst e
  rw [h] at h4
  generalize a.tmps.getD t Go.undef = v at h4
  cases h4
  exact .osl _ _ 0 0 (by simp) (.inl ⟨rfl, none, rfl⟩)
 ·rw [if_neg e]
  exact h4.keep a2
theorem qcw {m : Nat} {σ : Sto} {u : AV} (hd : u.isD σ = true) : qcm m u σ (.d (u.toD σ)) (freezeL σ u.refs) := fun w I μ v h1 h2 h3 => by
 obtain ⟨I', a1, a2, a3, _⟩ := q4e h1 h2 hd
 exact ⟨I', μ, a1, .d _ _ a3, a2.mono h3⟩
theorem Qmw {σ : Sto} {u : AV} (hd : u.isD σ = true) : qcm 0 u σ (.d (u.toD σ)) [] := (qcw hd).trans qa0
theorem q60 {σ : Sto} {u : AV} {x : D} (hd : u.isD σ = true) (hx : u.toD σ = x) : qcm 0 u σ (.d x) [] := by subst hx; exact Qmw hd
theorem Qkh (σ : Sto) (t1 t2 : TypeId) (s x : AV) : Qot P σ t1 t2 s x = (match qb5 P t1 with
 | some e => match tsz P e, qbh P e, qbm P e with
  | some es, some by_, some z => 0 < es ∧ z.cells.size = es ∧ (qb5 P t2).isSome = true ∧ Qf5 σ es s ∧ qqd σ es x ∧ (s.len + (x.elems σ).length) * by_ ≤ 140737488355328 ∧ s.len + (x.elems σ).length ≤ 4611686018427387904
  | _, _, _ => False
 | none => False) := by unfold Qot; rfl
theorem qp6 (i o k es : Nat) (σ : Sto) : Qf5 σ es (.osl i o k) = ((qaa σ i).isOwnArr = true ∧ (qaa σ i).es = es) := rfl
theorem qm1 (es : Nat) (σ : Sto) : Qf5 σ es .nils = True := rfl
theorem qp3 (i o k es : Nat) (σ : Sto) : qqd σ es (.osl i o k) = ((qaa σ i).isArr = true ∧ (qaa σ i).es = es) := rfl
theorem qmz (es : Nat) (σ : Sto) : qqd σ es .nils = True := rfl
theorem quu (xs : List D) (es : Nat) (σ : Sto) : qqd σ es (.d (.sl xs)) = ∀ x ∈ xs, x.cells.length = es := rfl
theorem Qo0 (s x : AV) (σ : Sto) : apV σ s x = .osl σ.length 0 (s.len + (x.elems σ).length) := rfl
theorem Qo1 (s x : AV) (σ : Sto) (t : TypeId) : apS P σ t s x = qf7 σ s ++ [.arr (qo7 P t) (s.elems σ ++ x.elems σ)] := rfl
theorem qp5 (i o k : Nat) (σ : Sto) : qf7 σ (.osl i o k) = σ.set i .dead := rfl
theorem qm0 (σ : Sto) : qf7 σ .nils = σ := rfl
theorem q0f (x : D) (σ : Sto) : qf7 σ (.d x) = σ := rfl
def qbe (f : Nat → Int) : Nat → Int
 | 0 => 0
 | k + 1 => if qbe f k = 0 then f k else qbe f k
theorem qbq {f : Nat → Int} {k : Nat} (h : qbe f k = 0) (he : f k = 0) : qbe f (k + 1) = 0 := by simp [qbe, h, he]
theorem qcf {f : Nat → Int} {k : Nat} (h : qbe f k = 0) (he : f k ≠ 0) : ∀ {n : Nat}, k < n → qbe f n = f k := by
 intro n hn
 induction n with
 | zero => omega
 | succ n ih =>
  by_cases e : k = n
  ·subst e; simp [qbe, h]
  ·rw [qbe, ih (by omega), if_neg he]
theorem qlz {f : Nat → Int} {n : Nat} (h : qbe f n = 0) : ∀ k, k < n → f k = 0 := by
 induction n with
 | zero => intro k hk; omega
 | succ n ih =>
  rw [qbe] at h
  by_cases e : qbe f n = 0
  ·rw [if_pos e] at h
   intro k hk
   by_cases e2 : k = n
   ·subst e2; exact h
   ·exact ih e k (by omega)
  ·rw [if_neg e] at h; exact absurd h e
theorem Qsc (a b : Bool) : (a = true → b = true → (a && b) = true) = True := by cases a <;> cases b <;> simp
theorem Qsb (a : Bool) : (a = false → (!a) = true) = True := by cases a <;> simp
theorem Qsa (a : Bool) : ((!a) = true → (!a) = true) = True := by cases a <;> simp
theorem Qr9 (a b : Bool) : (a = true → (!b) = true → (a && !b) = true) = True := by cases a <;> cases b <;> simp
theorem Qr8 (a b : Bool) : (a = true → b = false → (a && !b) = true) = True := by cases a <;> cases b <;> simp
theorem Qbu (l : List UInt8) : (AV.d (.str l)).strOf = l := rfl
theorem q6n (l : List UInt8) : (AV.d (.str l)).isStrv = true := rfl
theorem Qkf (a b : D) (r s : List D) : ql9 (a :: r) (b :: s) = (a.beq1 b && ql9 r s) := rfl
theorem Qbz : ql9 [] [] = true := rfl
theorem Qb1 (k k' : IntKind) (a b : Int) : (D.int k a).beq1 (.int k' b) = (a == b) := rfl
theorem Qb2 (a b : Bool) : (D.bool a).beq1 (.bool b) = (a == b) := rfl
theorem Qb0 (a b : List UInt8) : (D.str a).beq1 (.str b) = (a == b) := rfl
theorem Qke (c : Nat) (cs : List Nat) (a b : D) (r s : List D) : qmd (c :: cs) (a :: r) (b :: s) = (a.cmp1 c b && qmd cs r s) := rfl
theorem Qbv : qmd [] [] [] = true := rfl
theorem Qbx (k k' : IntKind) (a b : Int) : (D.int k a).cmp1 0 (.int k' b) = decide (k = k') := rfl
theorem Qby (a b : Bool) : (D.bool a).cmp1 1 (.bool b) = true := rfl
theorem Qbw (a b : List UInt8) : (D.str a).cmp1 2 (.str b) = true := rfl
theorem q0a (lo hi : Int) (l : List UInt8) : slV lo hi (.d (.str l)) = .d (.str ((l.take hi.toNat).drop lo.toNat)) := rfl
theorem q6m (lo hi : Int) (l : List D) : slV lo hi (.d (.sl l)) = .d (.sl ((l.take hi.toNat).drop lo.toNat)) := rfl
theorem q0b (lo hi : Int) (i o k : Nat) : slV lo hi (.osl i o k) = .osl i (o + lo.toNat) (hi.toNat - lo.toNat) := rfl
theorem quv (lo hi : Int) : slV lo hi .nils = .nils := rfl
theorem quw (t : TypeId) (σ : Sto) (lo hi : Int) (l : List UInt8) : Qad P t σ lo hi (.d (.str l)) = (Qcb P t = true ∧ 0 ≤ lo ∧ lo ≤ hi ∧ hi ≤ l.length) := rfl
theorem q0c (t : TypeId) (σ : Sto) (lo hi : Int) (xs : List D) : Qad P t σ lo hi (.d (.sl xs)) = (((qi4 P t).isSome = true ∧ (qb5 P t).isSome = true) ∧ 0 ≤ lo ∧ lo ≤ hi ∧ hi ≤ xs.length ∧ (match qi4 P t with | some (_, es) => ∀ x ∈ xs, x.cells.length = es | none => False)) := rfl
theorem qux (t : TypeId) (σ : Sto) (lo hi : Int) (i o k : Nat) : Qad P t σ lo hi (.osl i o k) = ((qb5 P t).isSome = true ∧ 0 ≤ lo ∧ lo ≤ hi ∧ hi ≤ k ∧ (qaa σ i).isArr = true ∧ qi4 P t = some (none, (qaa σ i).es)) := rfl
theorem qp4 (t : TypeId) (σ : Sto) (lo hi : Int) : Qad P t σ lo hi .nils = ((qb5 P t).isSome = true ∧ (qi4 P t).isSome = true ∧ lo = 0 ∧ hi = 0) := rfl
theorem q6o {α : Type} (f : α → D) (l : List α) (p : D → Prop) : (∀ x, x ∈ l.map f → p x) = ∀ y, y ∈ l → p (f y) := by simp
theorem q0e {n : Nat} {all : Array Oper} {draw : Bool} {env : Env} {σ : Sto} {K : Env → Sto → Prop} (o : Oper) (a b : List Oper) : qal P Gl n all draw (List.append (o :: a) b) env σ K = qal P Gl n all draw (o :: List.append a b) env σ K := rfl
theorem q0d {n : Nat} {all : Array Oper} {draw : Bool} {env : Env} {σ : Sto} {K : Env → Sto → Prop} (b : List Oper) : qal P Gl n all draw (List.append [] b) env σ K = qal P Gl n all draw b env σ K := rfl
theorem Qoz {α : Type} (a : α) (l m : List α) : List.append (a :: l) m = a :: List.append l m := rfl
theorem Qkg {α : Type} (m : List α) : List.append [] m = m := rfl
theorem Qoy {env : Env} {dst : Option Tmp} {op : Op} {ty : TypeId} {pos : String} {af : Array Edge} {g : Option (Nat × Bool)} (l m : List Oper) : qaz ((List.append (⟨dst, op, ty, pos, af, g⟩ :: l) m).toArray) env 0 = (match dst with | some d => qd0 env d | none => .undef) := q4p (List.append l m)
theorem Qow {env : Env} (o : Oper) (l m : List Oper) (j : Nat) : qaz ((List.append (o :: l) m).toArray) env (j + 1) = qaz (List.append l m).toArray env j := qh7 o (List.append l m) j
theorem Qox {env : Env} (m : List Oper) (j : Nat) : qaz ((List.append [] m).toArray) env j = qaz m.toArray env j := rfl
theorem Qki : type_of% (And.intro @Qkh (And.intro @qp6 (And.intro @qm1 (And.intro @qp3 (And.intro @qmz (And.intro @quu (And.intro @Qo0 (And.intro @Qo1 (And.intro @qp5 (And.intro @qm0 (And.intro @q0f (And.intro @Qsc (And.intro @Qsb (And.intro @Qsa (And.intro @Qr9 (And.intro @Qr8 (And.intro @Qbu (And.intro @q6n (And.intro @Qkf (And.intro @Qbz (And.intro @Qb1 (And.intro @Qb2 (And.intro @Qb0 (And.intro @Qke (And.intro @Qbv (And.intro @Qbx (And.intro @Qby (And.intro @Qbw (And.intro @q0a (And.intro @q6m (And.intro @q0b (And.intro @quv (And.intro @quw (And.intro @q0c (And.intro @qux (And.intro @qp4 (And.intro @q6o (And.intro @q0e (And.intro @q0d (And.intro @Qoz (And.intro @Qkg (And.intro @Qoy (And.intro @Qow (@Qox)))))))))))))))))))))))))))))))))))))))))))) := And.intro @Qkh (And.intro @qp6 (And.intro @qm1 (And.intro @qp3 (And.intro @qmz (And.intro @quu (And.intro @Qo0 (And.intro @Qo1 (And.intro @qp5 (And.intro @qm0 (And.intro @q0f (And.intro @Qsc (And.intro @Qsb (And.intro @Qsa (And.intro @Qr9 (And.intro @Qr8 (And.intro @Qbu (And.intro @q6n (And.intro @Qkf (And.intro @Qbz (And.intro @Qb1 (And.intro @Qb2 (And.intro @Qb0 (And.intro @Qke (And.intro @Qbv (And.intro @Qbx (And.intro @Qby (And.intro @Qbw (And.intro @q0a (And.intro @q6m (And.intro @q0b (And.intro @quv (And.intro @quw (And.intro @q0c (And.intro @qux (And.intro @qp4 (And.intro @q6o (And.intro @q0e (And.intro @q0d (And.intro @Qoz (And.intro @Qkg (And.intro @Qoy (And.intro @Qow (@Qox)))))))))))))))))))))))))))))))))))))))))))
end Go.AM


namespace Go.AM
def El (es : Nat) (x : D) : Prop := x.isAgg = true ∧ x.cells.length = es
structure Arr (Dm : D → Prop) (xs ys : List D) (π : Nat → Nat) : Prop where
 len : ys.length = xs.length
 el : ∀ y ∈ ys, Dm y
 get : ∀ i, i < xs.length → ys.getD i default = xs.getD (π i) default
theorem El.at {Dm : D → Prop} {es : Nat} (hD : ∀ x, Dm x → El es x) {ys : List D} (h : ∀ y ∈ ys, Dm y) {i : Nat} (hi : i < ys.length) : (ys.getD i default).isAgg = true ∧ (ys.getD i default).cells.length = es := by
 have : ys.getD i default = ys[i] := by simp [hi]
 rw [this]; exact hD _ (h _ (List.getElem_mem hi))
theorem Arr.refl {Dm : D → Prop} {xs : List D} (h : ∀ y ∈ xs, Dm y) : Arr Dm xs xs (fun i => i) := ⟨rfl, h, fun _ _ => rfl⟩
theorem Arr.congr {Dm : D → Prop} {xs ys : List D} {π ρ : Nat → Nat} (h : Arr Dm xs ys π) (e : ∀ i, i < xs.length → π i = ρ i) : Arr Dm xs ys ρ :=
 ⟨h.len, h.el, fun i hi => by rw [← e i hi]; exact h.get i hi⟩
theorem Arr.trans {Dm : D → Prop} {xs ys zs : List D} {π ρ : Nat → Nat} (h : Arr Dm xs ys π) (k : Arr Dm ys zs ρ) (hρ : ∀ i, i < xs.length → ρ i < xs.length) : Arr Dm xs zs (fun i => π (ρ i)) :=
 ⟨k.len.trans h.len, k.el, fun i hi => by rw [k.get i (by rw [h.len]; exact hi), h.get _ (hρ i hi)]⟩
theorem Arr.at {Dm : D → Prop} {xs ys : List D} {π : Nat → Nat} (h : Arr Dm xs ys π) {i : Nat} (hi : i < xs.length) : Dm (ys.getD i default) := by
 have hl := h.len
 have : ys.getD i default = ys[i]'(by omega) := by simp [show i < ys.length by omega]
 rw [this]; exact h.el _ (List.getElem_mem _)
theorem Arr.swap {Dm : D → Prop} {xs ys : List D} {π : Nat → Nat} (h : Arr Dm xs ys π) {i j : Nat} (hi : i < xs.length) (hj : j < xs.length) :
  Arr Dm xs ((ys.set i (ys.getD j default)).set j (ys.getD i default)) (fun p => if p = j then π i else if p = i then π j else π p) := by
 have hl := h.len
 have mem : ∀ k, k < xs.length → ys.getD k default ∈ ys := fun k hk => by
  have : ys.getD k default = ys[k]'(by omega) := by simp [show k < ys.length by omega]
  rw [this]; exact List.getElem_mem _
 refine ⟨by simp [hl], fun y hy => ?_, fun p hp => ?_⟩
 ·rcases List.mem_or_eq_of_mem_set hy with hy | rfl
  ·rcases List.mem_or_eq_of_mem_set hy with hy | rfl
   ·exact h.el y hy
   ·exact h.el _ (mem j hj)
  ·exact h.el _ (mem i hi)
 ·rw [List.getD_eq_getElem?_getD, List.getElem?_set]
  by_cases e1 : j = p
  ·subst e1
   rw [if_pos rfl, if_pos (by simp [hl]; exact hj), if_pos rfl]
   simp only [Option.getD_some]
   exact h.get i hi
  ·rw [if_neg e1, if_neg (fun e => e1 e.symm), List.getElem?_set]
   by_cases e2 : i = p
   ·subst e2
    rw [if_pos rfl, if_pos (by omega), if_pos rfl]
    simp only [Option.getD_some]
    exact h.get j hj
   ·rw [if_neg e2, if_neg (fun e => e2 e.symm), ← List.getD_eq_getElem?_getD]
    exact h.get p hp
def qi5 (a b k i : Nat) : Nat := if a ≤ i ∧ i < a + k then b + (i - a) else if b ≤ i ∧ i < b + k then a + (i - b) else i
theorem q98 (a b k i : Nat) (h : a + (k + 1) ≤ b ∨ b + (k + 1) ≤ a) : (if i = b + k then qi5 a b k (a + k) else if i = a + k then qi5 a b k (b + k) else qi5 a b k i) = qi5 a b (k + 1) i := by
 unfold qi5
 repeat' split
 all_goals omega
def qm8 (a m b i : Nat) : Nat := if i < a ∨ b ≤ i then i else if i < a + (b - m) then i + (m - a) else i - (b - m)
structure Mv (a b : Nat) (π ρ : Nat → Nat) : Prop where
 out : ∀ p, p < a ∨ b ≤ p → ρ p = π p
 inn : ∀ p, a ≤ p → p < b → ∃ q, a ≤ q ∧ q < b ∧ ρ p = π q
theorem Mv.refl (a b : Nat) (π : Nat → Nat) : Mv a b π π := ⟨fun _ _ => rfl, fun p h1 h2 => ⟨p, h1, h2, rfl⟩⟩
theorem Mv.trans {a b : Nat} {π ρ τ : Nat → Nat} (h : Mv a b π ρ) (k : Mv a b ρ τ) : Mv a b π τ :=
 ⟨fun p hp => (k.out p hp).trans (h.out p hp), fun p h1 h2 => by
  obtain ⟨q, q1, q2, q3⟩ := k.inn p h1 h2
  obtain ⟨r, r1, r2, r3⟩ := h.inn q q1 q2
  exact ⟨r, r1, r2, q3.trans r3⟩⟩
theorem Mv.mono {a b c d : Nat} {π ρ : Nat → Nat} (h : Mv a b π ρ) (h1 : c ≤ a) (h2 : b ≤ d) : Mv c d π ρ :=
 ⟨fun p hp => h.out p (by omega), fun p p1 p2 => by
  by_cases hp : a ≤ p ∧ p < b
  ·obtain ⟨q, q1, q2, q3⟩ := h.inn p hp.1 hp.2; exact ⟨q, by omega, by omega, q3⟩
  ·exact ⟨p, p1, p2, h.out p (by omega)⟩⟩
theorem Mv.bound {a b N : Nat} {π ρ : Nat → Nat} (h : Mv a b π ρ) (hb : b ≤ N) (hπ : ∀ p, p < N → π p < N) : ∀ p, p < N → ρ p < N := fun p hp => by
 by_cases hq : a ≤ p ∧ p < b
 ·obtain ⟨q, _, q2, q3⟩ := h.inn p hq.1 hq.2
  rw [q3]; exact hπ q (by omega)
 ·rw [h.out p (by omega)]; exact hπ p hp
structure Swo (Dm : D → Prop) (lt : D → D → Bool) : Prop where
 irr : ∀ x, Dm x → lt x x = false
 trans : ∀ x y z, Dm x → Dm y → Dm z → lt x y = true → lt y z = true → lt x z = true
 neg : ∀ x y z, Dm x → Dm y → Dm z → lt x y = false → lt y z = false → lt x z = false
def Lx (lt : D → D → Bool) (xs : List D) (i j : Nat) : Prop := lt (xs.getD i default) (xs.getD j default) = true ∨ (lt (xs.getD j default) (xs.getD i default) = false ∧ i < j)
section
variable {Dm : D → Prop} {lt : D → D → Bool} {xs : List D}
theorem Qf8 (hx : ∀ y ∈ xs, Dm y) {i : Nat} (hi : i < xs.length) : Dm (xs.getD i default) := (Arr.refl hx).at hi
theorem Lx.asymm (h : Swo Dm lt) (hx : ∀ y ∈ xs, Dm y) {i j : Nat} (hi : i < xs.length) (hj : j < xs.length) (h1 : Lx lt xs i j) (h2 : Lx lt xs j i) : False := by
 have di := Qf8 hx hi
 have dj := Qf8 hx hj
 rcases h1 with h1 | ⟨h1, l1⟩ <;> rcases h2 with h2 | ⟨h2, l2⟩
 ·have := h.trans _ _ _ di dj di h1 h2
  rw [h.irr _ di] at this; cases this
 ·rw [h1] at h2; cases h2
 ·rw [h1] at h2; cases h2
 ·omega
theorem Lx.trans (h : Swo Dm lt) (hx : ∀ y ∈ xs, Dm y) {i j k : Nat} (hi : i < xs.length) (hj : j < xs.length) (hk : k < xs.length) (h1 : Lx lt xs i j) (h2 : Lx lt xs j k) : Lx lt xs i k := by
 have di := Qf8 hx hi
 have dj := Qf8 hx hj
 have dk := Qf8 hx hk
 unfold Lx at *
 cases e1 : lt (xs.getD i default) (xs.getD k default) with
 | true => exact .inl rfl
 | false =>
  right
  rcases h1 with h1 | ⟨h1, l1⟩ <;> rcases h2 with h2 | ⟨h2, l2⟩
  ·rw [h.trans _ _ _ di dj dk h1 h2] at e1; cases e1
  ·exfalso
   have := h.neg _ _ _ di dk dj e1 h2
   rw [h1] at this; cases this
  ·exfalso
   have := h.neg _ _ _ dj di dk h1 e1
   rw [h2] at this; cases this
  ·exact ⟨h.neg _ _ _ dk dj di h2 h1, by omega⟩
theorem Lx.tag {i j : Nat} (hij : j < i) : Lx lt xs i j ↔ lt (xs.getD i default) (xs.getD j default) = true := by
 unfold Lx
 constructor
 ·rintro (h | ⟨_, h⟩)
  ·exact h
  ·omega
 ·exact .inl
theorem Lx.tag' {i j : Nat} (hij : j < i) : Lx lt xs j i ↔ lt (xs.getD i default) (xs.getD j default) = false ∨ lt (xs.getD j default) (xs.getD i default) = true := by
 unfold Lx
 constructor
 ·rintro (h | ⟨h, _⟩)
  ·exact .inr h
  ·exact .inl h
 ·rintro (h | h)
  ·exact .inr ⟨h, hij⟩
  ·exact .inl h
end
end Go.AM


namespace Go.AM
variable {Dm : D → Prop} {lt : D → D → Bool} {xs : List D} {π ρ κ : Nat → Nat} {a m b : Nat}
def qb0 (lt : D → D → Bool) (xs : List D) (a b : Nat) (π : Nat → Nat) : Prop := ∀ p q, a ≤ p → p < q → q < b → Lx lt xs (π p) (π q)
def Qrh (a b : Nat) (π : Nat → Nat) : Prop := ∀ p q, a ≤ p → p < q → q < b → π p < π q
def Qmi (a m b : Nat) (π : Nat → Nat) : Prop := ∀ p q, a ≤ p → p < m → m ≤ q → q < b → π p < π q
theorem que (hm : m = a + 1) {i : Nat} (h1 : m ≤ i) (h2 : i ≤ b) (hS : qb0 lt xs m b π) (hL : ∀ q, m ≤ q → q < i → Lx lt xs (π q) (π a)) (hR : ∀ q, i ≤ q → q < b → Lx lt xs (π a) (π q))
  (k1 : ∀ p, a ≤ p → p < i - 1 → κ p = π (p + 1)) (k2 : κ (i - 1) = π a) (k3 : ∀ p, p < a ∨ i ≤ p → κ p = π p) : Mv a b π κ ∧ qb0 lt xs a b κ := by
 refine ⟨⟨fun p hp => k3 p (by omega), fun p p1 p2 => ?_⟩, fun p q h3 h4 h5 => ?_⟩
 ·rcases Nat.lt_trichotomy p (i - 1) with h | h | h
  ·exact ⟨p + 1, by omega, by omega, k1 p p1 h⟩
  ·exact ⟨a, by omega, by omega, by rw [h, k2]⟩
  ·exact ⟨p, p1, p2, k3 p (by omega)⟩
 ·rcases Nat.lt_trichotomy q (i - 1) with h | h | h
  ·rw [k1 p h3 (by omega), k1 q (by omega) h]; exact hS _ _ (by omega) (by omega) (by omega)
  ·rw [k1 p h3 (by omega), h, k2]; exact hL _ (by omega) (by omega)
  ·rw [k3 q (by omega)]
   rcases Nat.lt_trichotomy p (i - 1) with h' | h' | h'
   ·rw [k1 p h3 h']; exact hS _ _ (by omega) (by omega) (by omega)
   ·rw [h', k2]; exact hR q (by omega) h5
   ·rw [k3 p (by omega)]; exact hS _ _ (by omega) h4 h5
theorem qsu (hm : b = m + 1) {i : Nat} (h1 : a ≤ i) (h2 : i ≤ m) (hS : qb0 lt xs a m π) (hL : ∀ q, a ≤ q → q < i → Lx lt xs (π q) (π m)) (hR : ∀ q, i ≤ q → q < m → Lx lt xs (π m) (π q))
  (k1 : ∀ p, i < p → p ≤ m → κ p = π (p - 1)) (k2 : κ i = π m) (k3 : ∀ p, p < i ∨ m < p → κ p = π p) : Mv a b π κ ∧ qb0 lt xs a b κ := by
 refine ⟨⟨fun p hp => k3 p (by omega), fun p p1 p2 => ?_⟩, fun p q h3 h4 h5 => ?_⟩
 ·rcases Nat.lt_trichotomy p i with h | h | h
  ·exact ⟨p, p1, p2, k3 p (by omega)⟩
  ·exact ⟨m, by omega, by omega, by rw [h, k2]⟩
  ·exact ⟨p - 1, by omega, by omega, k1 p h (by omega)⟩
 ·rcases Nat.lt_trichotomy p i with h | h | h
  ·rw [k3 p (.inl h)]
   rcases Nat.lt_trichotomy q i with h' | h' | h'
   ·rw [k3 q (.inl h')]; exact hS _ _ h3 h4 (by omega)
   ·rw [h', k2]; exact hL p h3 h
   ·rw [k1 q h' (by omega)]; exact hS _ _ h3 (by omega) (by omega)
  ·rw [h, k2, k1 q (by omega) (by omega)]; exact hR _ (by omega) (by omega)
  ·rw [k1 p h (by omega), k1 q (by omega) (by omega)]; exact hS _ _ (by omega) (by omega) (by omega)
theorem qxs {s e d : Nat} (h1 : a ≤ s) (h2 : s ≤ m) (h3 : m ≤ e) (h4 : e ≤ b) (hd : d = s + (e - m)) (hS1 : qb0 lt xs a m π) (hS2 : qb0 lt xs m b π) (hT : Qmi a m b π)
  (F1 : ∀ x y, a ≤ x → x < s → e ≤ y → y < b → Lx lt xs (π x) (π y)) (F2 : ∀ x y, m ≤ x → x < e → s ≤ y → y < m → Lx lt xs (π x) (π y))
  (hρ : ∀ p, a ≤ p → p < b → ρ p = π (qm8 s m e p)) (ho : ∀ p, p < a ∨ b ≤ p → ρ p = π p) :
  Mv a b π ρ ∧ qb0 lt xs a s ρ ∧ qb0 lt xs s d ρ ∧ qb0 lt xs d e ρ ∧ qb0 lt xs e b ρ ∧ Qmi a s d ρ ∧ Qmi d e b ρ ∧ (∀ p q, a ≤ p → p < d → d ≤ q → q < b → Lx lt xs (ρ p) (ρ q)) := by
 have r1 : ∀ p, a ≤ p → p < s → ρ p = π p := fun p g1 g2 => by
  rw [hρ p g1 (by omega)]; congr 1; unfold qm8; rw [if_pos (by omega)]
 have r2 : ∀ p, s ≤ p → p < d → ρ p = π (p + (m - s)) := fun p g1 g2 => by
  rw [hρ p (by omega) (by omega)]; congr 1; unfold qm8; rw [if_neg (by omega), if_pos (by omega)]
 have r3 : ∀ p, d ≤ p → p < e → ρ p = π (p - (e - m)) := fun p g1 g2 => by
  rw [hρ p (by omega) (by omega)]; congr 1; unfold qm8; rw [if_neg (by omega), if_neg (by omega)]
 have r4 : ∀ p, e ≤ p → p < b → ρ p = π p := fun p g1 g2 => by
  rw [hρ p (by omega) (by omega)]; congr 1; unfold qm8; rw [if_pos (by omega)]
 refine ⟨⟨ho, fun p g1 g2 => ?_⟩, fun p q g1 g2 g3 => ?_, fun p q g1 g2 g3 => ?_, fun p q g1 g2 g3 => ?_, fun p q g1 g2 g3 => ?_, fun p q g1 g2 g3 g4 => ?_, fun p q g1 g2 g3 g4 => ?_, fun p q g1 g2 g3 g4 => ?_⟩
 ·by_cases c1 : p < s
  ·exact ⟨p, g1, g2, r1 p g1 c1⟩
  ·by_cases c2 : p < d
   ·exact ⟨_, by omega, by omega, r2 p (by omega) c2⟩
   ·by_cases c3 : p < e
    ·exact ⟨_, by omega, by omega, r3 p (by omega) c3⟩
    ·exact ⟨p, g1, g2, r4 p (by omega) g2⟩
 ·rw [r1 p g1 (by omega), r1 q (by omega) g3]; exact hS1 _ _ g1 g2 (by omega)
 ·rw [r2 p g1 (by omega), r2 q (by omega) g3]; exact hS2 _ _ (by omega) (by omega) (by omega)
 ·rw [r3 p g1 (by omega), r3 q (by omega) g3]; exact hS1 _ _ (by omega) (by omega) (by omega)
 ·rw [r4 p g1 (by omega), r4 q (by omega) g3]; exact hS2 _ _ (by omega) g2 g3
 ·rw [r1 p g1 g2, r2 q g3 g4]; exact hT _ _ g1 (by omega) (by omega) (by omega)
 ·rw [r3 p g1 g2, r4 q g3 g4]; exact hT _ _ (by omega) (by omega) (by omega) g4
 ·by_cases c1 : p < s
  ·rw [r1 p g1 c1]
   by_cases c3 : q < e
   ·rw [r3 q g3 c3]; exact hS1 _ _ g1 (by omega) (by omega)
   ·rw [r4 q (by omega) g4]; exact F1 _ _ g1 c1 (by omega) g4
  ·rw [r2 p (by omega) g2]
   by_cases c3 : q < e
   ·rw [r3 q g3 c3]; exact F2 _ _ (by omega) (by omega) (by omega) (by omega)
   ·rw [r4 q (by omega) g4]; exact hS2 _ _ (by omega) (by omega) g4
theorem qcd {d : Nat} {κ1 κ2 : Nat → Nat} (h1 : a ≤ d) (h2 : d ≤ b) (hM : Mv a b π ρ) (m1 : Mv a d ρ κ1) (s1 : qb0 lt xs a d κ1) (m2 : Mv d b κ1 κ2) (s2 : qb0 lt xs d b κ2)
  (hX : ∀ p q, a ≤ p → p < d → d ≤ q → q < b → Lx lt xs (ρ p) (ρ q)) : Mv a b π κ2 ∧ qb0 lt xs a b κ2 := by
 refine ⟨(hM.trans (m1.mono (Nat.le_refl _) h2)).trans (m2.mono h1 (Nat.le_refl _)), fun p q g1 g2 g3 => ?_⟩
 by_cases c1 : q < d
 ·rw [m2.out p (by omega), m2.out q (by omega)]; exact s1 p q g1 g2 c1
 ·by_cases c2 : p < d
  ·rw [m2.out p (by omega)]
   obtain ⟨p', p1, p2, p3⟩ := m1.inn p g1 c2
   obtain ⟨q', q1, q2, q3⟩ := m2.inn q (by omega) g3
   rw [p3, q3, m1.out q' (by omega)]
   exact hX _ _ p1 p2 q1 q2
  ·exact s2 p q (by omega) g2 g3
theorem qsv {p s s0 r0 e : Nat} (hw : Swo Dm lt) (hx : ∀ y ∈ xs, Dm y) (hπ : ∀ i, i < xs.length → π i < xs.length) (hb : b ≤ xs.length) (hS1 : qb0 lt xs a m π) (hS2 : qb0 lt xs m b π)
  (h1 : a ≤ s0) (h2 : s0 ≤ s) (h3 : s ≤ r0) (h4 : r0 ≤ m) (he : e = p + 1 - s) (hem : m ≤ e) (heb : e ≤ b) (hps : r0 ≤ p + 1)
  (hlo : s0 = a ∨ e = b ∨ s0 < s) (hhi : r0 = m ∨ e = m ∨ s < r0)
  (hA : s0 < s → Lx lt xs (π (s - 1)) (π (p - (s - 1)))) (hB : s < r0 → Lx lt xs (π (p - s)) (π s)) (hlo2 : s0 = s → s0 = a ∨ e = b) (hhi2 : s = r0 → r0 = m ∨ e = m) :
  (∀ x y, a ≤ x → x < s → e ≤ y → y < b → Lx lt xs (π x) (π y)) ∧ (∀ x y, m ≤ x → x < e → s ≤ y → y < m → Lx lt xs (π x) (π y)) := by
 constructor
 ·intro x y g1 g2 g3 g4
  rcases Nat.lt_or_ge s0 s with c | c
  ·have hh := hA c
   have e1 : p - (s - 1) = e := by omega
   rw [e1] at hh
   have t1 : x = s - 1 ∨ Lx lt xs (π x) (π (s - 1)) := by
    by_cases c' : x = s - 1
    ·exact .inl c'
    ·exact .inr (hS1 _ _ g1 (by omega) (by omega))
   have t2 : Lx lt xs (π x) (π e) := by
    rcases t1 with t1 | t1
    ·rw [t1]; exact hh
    ·exact Lx.trans hw hx (hπ _ (by omega)) (hπ _ (by omega)) (hπ _ (by omega)) t1 hh
   by_cases c' : y = e
   ·rw [c']; exact t2
   ·exact Lx.trans hw hx (hπ _ (by omega)) (hπ _ (by omega)) (hπ _ (by omega)) t2 (hS2 _ _ hem (by omega) g4)
  ·rcases hlo2 (by omega) with h | h <;> omega
 ·intro x y g1 g2 g3 g4
  rcases Nat.lt_or_ge s r0 with c | c
  ·have hh := hB c
   have e1 : p - s = e - 1 := by omega
   rw [e1] at hh
   have t2 : Lx lt xs (π x) (π s) := by
    by_cases c' : x = e - 1
    ·rw [c']; exact hh
    ·exact Lx.trans hw hx (hπ _ (by omega)) (hπ _ (by omega)) (hπ _ (by omega)) (hS2 _ _ g1 (by omega) (by omega)) hh
   by_cases c' : y = s
   ·rw [c']; exact t2
   ·exact Lx.trans hw hx (hπ _ (by omega)) (hπ _ (by omega)) (hπ _ (by omega)) t2 (hS1 _ _ (by omega) (by omega) g4)
  ·rcases hhi2 (by omega) with h | h <;> omega
theorem q26 {c d h k : Nat} (hw : Swo Dm lt) (hx : ∀ y ∈ xs, Dm y) (hπ : ∀ i, i < xs.length → π i < xs.length) (hd : d ≤ xs.length) (hk : k < xs.length) (hS : qb0 lt xs c d π) (h1 : c ≤ h) (h2 : h < d) (hl : Lx lt xs (π h) k) : ∀ q, c ≤ q → q < h + 1 → Lx lt xs (π q) k := by
 intro q g1 g2
 by_cases e : q = h
 ·rw [e]; exact hl
 ·exact Lx.trans hw hx (hπ _ (by omega)) (hπ _ (by omega)) hk (hS _ _ g1 (by omega) h2) hl
theorem Qdx {c d h k : Nat} (hw : Swo Dm lt) (hx : ∀ y ∈ xs, Dm y) (hπ : ∀ i, i < xs.length → π i < xs.length) (hd : d ≤ xs.length) (hk : k < xs.length) (hS : qb0 lt xs c d π) (h1 : c ≤ h) (h2 : h < d) (hl : Lx lt xs k (π h)) : ∀ q, h ≤ q → q < d → Lx lt xs k (π q) := by
 intro q g1 g2
 by_cases e : q = h
 ·rw [e]; exact hl
 ·exact Lx.trans hw hx hk (hπ _ (by omega)) (hπ _ (by omega)) hl (hS _ _ h1 (by omega) g2)
end Go.AM


namespace Go.AM
variable {Dm : D → Prop} {lt : D → D → Bool} {xs : List D} {π ρ κ : Nat → Nat}
def Cut (s p : Nat) : Prop := ∃ j, p = j * s
theorem Cut.zero (s : Nat) : Cut s 0 := ⟨0, by simp⟩
theorem Cut.next {s p : Nat} (h : Cut s p) : Cut s (p + s) := by
 obtain ⟨j, rfl⟩ := h
 exact ⟨j + 1, by rw [Nat.add_mul]; omega⟩
theorem Cut.half {s p : Nat} (h : Cut (2 * s) p) : Cut s p := by
 obtain ⟨j, rfl⟩ := h
 exact ⟨j * 2, by rw [Nat.mul_assoc]⟩
theorem Cut.mid {s p : Nat} (h : Cut (2 * s) p) : Cut s (p + s) := h.half.next
theorem Cut.ge {s p q : Nat} (h : Cut s p) (k : Cut s q) (hl : p < q) : p + s ≤ q := by
 obtain ⟨i, rfl⟩ := h
 obtain ⟨j, rfl⟩ := k
 have h1 : i < j := by
  rcases Nat.lt_or_ge i j with h | h
  ·exact h
  ·have := Nat.mul_le_mul_right s h; omega
 have h2 : (i + 1) * s ≤ j * s := Nat.mul_le_mul_right s h1
 rw [Nat.add_mul] at h2
 omega
structure Blo (lt : D → D → Bool) (xs : List D) (c d : Nat) (ρ : Nat → Nat) : Prop where
 inn : ∀ p, c ≤ p → p < d → c ≤ ρ p ∧ ρ p < d
 sort : qb0 lt xs c d ρ
def q39 (lt : D → D → Bool) (xs : List D) (s n lo hi : Nat) (ρ : Nat → Nat) : Prop := ∀ c, Cut s c → lo ≤ c → c < hi → Blo lt xs c (min (c + s) n) ρ
theorem Blo.out {a b c d : Nat} (h : Blo lt xs c d ρ) (hM : Mv a b ρ κ) (hd : d ≤ a ∨ b ≤ c) : Blo lt xs c d κ :=
 ⟨fun p h1 h2 => by rw [hM.out p (by omega)]; exact h.inn p h1 h2, fun p q h1 h2 h3 => by rw [hM.out p (by omega), hM.out q (by omega)]; exact h.sort p q h1 h2 h3⟩
theorem Blo.mv {c d : Nat} (hi : ∀ p, c ≤ p → p < d → c ≤ ρ p ∧ ρ p < d) (hM : Mv c d ρ κ) (hS : qb0 lt xs c d κ) : Blo lt xs c d κ :=
 ⟨fun p h1 h2 => by obtain ⟨q, q1, q2, q3⟩ := hM.inn p h1 h2; rw [q3]; exact hi q q1 q2, hS⟩
theorem q35 {s n a b : Nat} (hs : 0 < s) (ha : Cut s a) (hb : b = min (a + s) n) (hB : q39 lt xs s n 0 a ρ) (hid : ∀ p, a ≤ p → ρ p = p) (hM : Mv a b ρ κ) (hS : qb0 lt xs a b κ) :
  q39 lt xs s n 0 (a + 1) κ ∧ (∀ p, b ≤ p → a ≤ p → κ p = p) := by
 refine ⟨fun c hc h1 h2 => ?_, fun p h1 h2 => by rw [hM.out p (by omega)]; exact hid p h2⟩
 by_cases e : c = a
 ·subst e
  rw [← hb]
  exact Blo.mv (fun p h1 h2 => by rw [hid p h1]; omega) hM hS
 ·have := hc.ge ha (by omega)
  exact (hB c hc h1 (by omega)).out hM (by omega)
theorem ql7 {s n a a' : Nat} (ha : Cut s a) (h : q39 lt xs s n 0 (a + 1) ρ) (he : a' ≤ a + s) : q39 lt xs s n 0 a' ρ := fun c hc h1 h2 => by
 rcases Nat.lt_trichotomy c a with h' | h' | h'
 ·exact h c hc h1 (by omega)
 ·exact h c hc h1 (by omega)
 ·have := ha.ge hc h'; omega
theorem qst {s n a b : Nat} (ha : Cut (2 * s) a) (hs : 0 < s) (hm : a + s < b) (hb : b = min (a + 2 * s) n) (hB : q39 lt xs s n a n ρ) :
  qb0 lt xs a (a + s) ρ ∧ qb0 lt xs (a + s) b ρ ∧ Qmi a (a + s) b ρ ∧ (∀ p, a ≤ p → p < b → a ≤ ρ p ∧ ρ p < b) := by
 have h1 := hB a ha.half (Nat.le_refl _) (by omega)
 have h2 := hB (a + s) ha.mid (by omega) (by omega)
 have e1 : min (a + s) n = a + s := by omega
 have e2 : min (a + s + s) n = b := by omega
 rw [e1] at h1
 rw [e2] at h2
 refine ⟨h1.sort, h2.sort, fun p q p1 p2 q1 q2 => ?_, fun p p1 p2 => ?_⟩
 ·have := h1.inn p p1 p2
  have := h2.inn q q1 q2
  omega
 ·by_cases h : p < a + s
  ·have := h1.inn p p1 h; omega
  ·have := h2.inn p (by omega) p2; omega
theorem qxt {s n a b : Nat} (ha : Cut (2 * s) a) (hs : 0 < s) (hm : a + s < b) (hb : b = min (a + 2 * s) n) (hB : q39 lt xs s n a n ρ) (hD : q39 lt xs (2 * s) n 0 a ρ) (hM : Mv a b ρ κ) (hS : qb0 lt xs a b κ) :
  q39 lt xs s n (a + 2 * s) n κ ∧ q39 lt xs (2 * s) n 0 (a + 1) κ := by
 obtain ⟨_, _, _, hin⟩ := qst ha hs hm hb hB
 refine ⟨fun c hc h1 h2 => (hB c hc (by omega) h2).out hM (.inr (by omega)), fun c hc h1 h2 => ?_⟩
 by_cases e : c = a
 ·subst e
  rw [← hb]
  exact Blo.mv hin hM hS
 ·have := hc.ge ha (by omega)
  exact (hD c hc h1 (by omega)).out hM (by omega)
theorem q4v {s n a : Nat} (ha : Cut (2 * s) a) (hs : 0 < s) (hm : n ≤ a + s) (hB : q39 lt xs s n a n ρ) (hD : q39 lt xs (2 * s) n 0 a ρ) : q39 lt xs (2 * s) n 0 n ρ := fun c hc h1 h2 => by
 rcases Nat.lt_trichotomy c a with h' | h' | h'
 ·exact hD c hc h1 h'
 ·subst h'
  have := hB c ha.half (Nat.le_refl _) h2
  rw [show min (c + 2 * s) n = min (c + s) n by omega]; exact this
 ·have := ha.ge hc h'; omega
theorem Qgm {s n : Nat} (hn : n ≤ s) (h : q39 lt xs s n 0 n ρ) : Blo lt xs 0 n ρ := by
 by_cases e : n = 0
 ·subst e; exact ⟨fun p _ h => by omega, fun p q _ _ h => by omega⟩
 ·have := h 0 (Cut.zero s) (Nat.le_refl _) (by omega)
  rwa [show min (0 + s) n = n by omega] at this
theorem qie {α : Type} {R : α → α → Prop} : ∀ {l1 l2 : List α}, (∀ x ∈ l1, ∀ y ∈ l1, R x y → R y x → False) → l1.Pairwise R → l2.Pairwise R → (∀ a, a ∈ l1 ↔ a ∈ l2) → l1 = l2
 | [], [], _, _, _, _ => rfl
 | [], b :: l2, _, _, _, h => by have := (h b).2 List.mem_cons_self; cases this
 | a :: l1, [], _, _, _, h => by have := (h a).1 List.mem_cons_self; cases this
 | a :: l1, b :: l2, hA, h1, h2, h => by
  rw [List.pairwise_cons] at h1 h2
  have hb : b ∈ a :: l1 := (h b).2 List.mem_cons_self
  have e : a = b := by
   apply Classical.byContradiction
   intro hne
   have m1 : b ∈ l1 := by
    rcases List.mem_cons.1 hb with e | h'
    ·exact absurd e.symm hne
    ·exact h'
   have m2 : a ∈ l2 := by
    rcases List.mem_cons.1 ((h a).1 List.mem_cons_self) with e | h'
    ·exact absurd e hne
    ·exact h'
   exact hA a List.mem_cons_self b hb (h1.1 b m1) (h2.1 a m2)
  subst e
  congr 1
  refine qie (fun x hx y hy => hA x (List.mem_cons_of_mem _ hx) y (List.mem_cons_of_mem _ hy)) h1.2 h2.2 fun x => ⟨fun hx => ?_, fun hx => ?_⟩
  ·rcases List.mem_cons.1 ((h x).1 (List.mem_cons_of_mem _ hx)) with e | h'
   ·subst e; exact (hA x List.mem_cons_self x List.mem_cons_self (h1.1 x hx) (h1.1 x hx)).elim
   ·exact h'
  ·rcases List.mem_cons.1 ((h x).2 (List.mem_cons_of_mem _ hx)) with e | h'
   ·subst e; exact (hA x List.mem_cons_self x List.mem_cons_self (h2.1 x hx) (h2.1 x hx)).elim
   ·exact h'
theorem q8z : ∀ (n : Nat) (l : List Nat), l.Nodup → (∀ x ∈ l, x < n) → l.length ≤ n
 | 0, l, _, h => by
  cases l with
  | nil => exact Nat.le_refl _
  | cons a l => have := h a List.mem_cons_self; omega
 | n + 1, l, hn, h => by
  have h1 := q8z n (l.erase n) (hn.erase n) fun x hx => by
   have hm := List.mem_of_mem_erase hx
   have := h x hm
   have : x ≠ n := fun e => by
    subst e
    exact (List.Nodup.not_mem_erase hn) hx
   omega
  have := List.length_erase_le (a := n) (l := l)
  by_cases hm : n ∈ l
  ·rw [List.length_erase_of_mem hm] at h1; omega
  ·rw [List.erase_of_not_mem hm] at h1; omega
theorem Qdv {n : Nat} {l : List Nat} (hn : l.Nodup) (h : ∀ x ∈ l, x < n) (hl : l.length = n) : ∀ i, i < n → i ∈ l := fun i hi => by
 apply Classical.byContradiction
 intro hm
 have := q8z n (i :: l) (List.nodup_cons.2 ⟨hm, hn⟩) fun x hx => by
  rcases List.mem_cons.1 hx with rfl | hx
  ·exact hi
  ·exact h x hx
 simp at this
 omega
def qhj (n : Nat) (ρ : Nat → Nat) : List Nat := (List.range n).map ρ
theorem qln {n : Nat} (h : qb0 lt xs 0 n ρ) : (qhj n ρ).Pairwise (Lx lt xs) := by
 unfold qhj
 rw [List.pairwise_iff_getElem]
 intro i j hi hj hij
 simp only [List.length_map, List.length_range] at hi hj
 simp only [List.getElem_map, List.getElem_range]
 exact h i j (Nat.zero_le _) hij hj
theorem q2m {n : Nat} (hw : Swo Dm lt) (hx : ∀ y ∈ xs, Dm y) (hb : Blo lt xs 0 n ρ) (hn : n ≤ xs.length) : (qhj n ρ).Nodup := by
 refine (qln hb.sort).imp_of_mem (S := (· ≠ ·)) fun {a b} ha hb' hL e => ?_
 subst e
 unfold qhj at ha
 obtain ⟨i, hi, rfl⟩ := List.mem_map.1 ha
 have := hb.inn i (Nat.zero_le _) (by simpa using hi)
 exact Lx.asymm hw hx (by omega) (by omega) hL hL
theorem qmm {n : Nat} (hw : Swo Dm lt) (hx : ∀ y ∈ xs, Dm y) (hb : Blo lt xs 0 n ρ) (hn : n ≤ xs.length) (i : Nat) : i ∈ qhj n ρ ↔ i < n := by
 have hlt : ∀ x ∈ qhj n ρ, x < n := fun x hx => by
  unfold qhj at hx
  obtain ⟨i, hi, rfl⟩ := List.mem_map.1 hx
  exact (hb.inn i (Nat.zero_le _) (by simpa using hi)).2
 exact ⟨hlt i, Qdv (q2m hw hx hb hn) hlt (by simp [qhj]) i⟩
theorem qy8 {n : Nat} (hw : Swo Dm lt) (hx : ∀ y ∈ xs, Dm y) (hb : Blo lt xs 0 n ρ) (hn : n ≤ xs.length) {l : List Nat} (h1 : l.Pairwise (Lx lt xs)) (h2 : ∀ i, i ∈ l ↔ i < n) : qhj n ρ = l :=
 qie (fun i hi j hj a b => Lx.asymm hw hx (by have := (qmm hw hx hb hn i).1 hi; omega) (by have := (qmm hw hx hb hn j).1 hj; omega) a b) (qln hb.sort) h1 fun a => by rw [qmm hw hx hb hn, h2]
end Go.AM
