/- A part of the proof: an abstract machine over data, and lemmas; nothing of the statement. No condition beyond those stated. -/
import Derived.Scope
import Derived.Test.YtmedpoeeoihfmaaGreatDoorG2
import Derived.IntWalk
import Derived.Lib.Bytealg
set_option linter.unusedVariables false
set_option linter.unusedSimpArgs false
set_option linter.unusedSectionVars false
set_option linter.unnecessarySimpa false

namespace Go.AM
inductive AExit where
 | normal
 | exit (id : Nat)
 | ret
def eRel : Exit → AExit → Prop
 | .normal, .normal => True
 | .exit i, .exit j => i = j
 | .ret, .ret => True
 | _, _ => False
def APost (n m : Nat) (w : World) (I : Im) (μ : Pos) (σ : Sto) (K : AExit → Env → Sto → Prop) (Gl : Globs) : Exit → Act → World → Prop := fun e a' w' =>
 ∃ ae env' σ' I' μ', eRel e ae ∧ Rel w' I' μ' σ' ∧ GlOk Gl w' I' ∧ RelEnv n w' I' μ' σ' env' a' ∧ Keep m w I μ σ w' I' μ' σ' ∧ K ae env' σ'
def AWp (P : Program) (Gl : Globs) (n m : Nat) (c : Code) (env : Env) (σ : Sto) (K : AExit → Env → Sto → Prop) : Prop :=
 ∀ w I μ a, Rel w I μ σ → GlOk Gl w I → RelEnv n w I μ σ env a → m ≤ σ.length → c.wp P (APost n m w I μ σ K Gl) a w
def thenK (K : AExit → Env → Sto → Prop) (next : Env → Sto → Prop) : AExit → Env → Sto → Prop
 | .normal, env, σ => next env σ
 | e, env, σ => K e env σ
def blockK (id : Nat) (K : AExit → Env → Sto → Prop) : AExit → Env → Sto → Prop
 | .exit i, env, σ => if i = id then K .normal env σ else K (.exit i) env σ
 | e, env, σ => K e env σ
def evLoop (n m : Nat) (step : Env → Sto → (AExit → Env → Sto → Prop) → Prop) (env : Env) (σ : Sto) (K : AExit → Env → Sto → Prop) : Prop :=
 ∃ (Inv : Env → Sto → Prop) (ν : Env → Sto → Nat), (∃ e s, Weak n m env σ e s ∧ Inv e s) ∧
  ∀ e s, Inv e s → step e s (thenK K fun e' s' => ∃ e2 s2, Weak n m e' s' e2 s2 ∧ Inv e2 s2 ∧ ν e2 s2 < ν e s)
def mayT : AV → Bool
 | .d (.bool b) => b
 | .anyb => true
 | _ => false
def mayF : AV → Bool
 | .d (.bool b) => !b
 | .anyb => true
 | _ => false
def AV.isBoolq : AV → Bool
 | .d (.bool _) => true
 | .anyb => true
 | _ => false
def condK (u : AV) (X Y : Prop) : Prop := u.isBoolq = true ∧ (mayT u = true → X) ∧ (mayF u = true → Y)
def evC (P : Program) (Gl : Globs) (n m : Nat) : Code → Env → Sto → (AExit → Env → Sto → Prop) → Prop
 | .skip, env, σ, K => K .normal env σ
 | .region _ ops draw, env, σ, K => (draw = true → drawOk P Gl n m ops env σ (K .normal)) ∧ evOps P Gl n ops draw ops.toList env σ (K .normal)
 | .seq x y, env, σ, K => evC P Gl n m x env σ (thenK K fun env' σ' => evC P Gl n m y env' σ' K)
 | .cond c x y, env, σ, K => evG Gl env c = true ∧ condK (evU Gl env c) (evC P Gl n m x env σ K) (evC P Gl n m y env σ K)
 | .block id c, env, σ, K => evC P Gl n m c env σ (blockK id K)
 | .loop c, env, σ, K => evLoop n m (evC P Gl n m c) env σ K
 | .exit id, env, σ, K => K (.exit id) env σ
 | .ret, env, σ, K => K .ret env σ
 | .scope c, env, σ, K => evC P Gl n m c env σ K
 | .label _, env, σ, K => K .normal env σ
 | _, _, _, _ => False
variable {P : Program} {Gl : Globs} {n m : Nat} {env : Env} {σ : Sto} {K : AExit → Env → Sto → Prop}
theorem APost.trans {w w1 : World} {I I1 : Im} {μ μ1 : Pos} {σ σ1 : Sto} (k : Keep m w I μ σ w1 I1 μ1 σ1) {K' : AExit → Env → Sto → Prop} (hk : ∀ e env s, K e env s → K' e env s) {e : Exit} {a' : Act} {w' : World} (h : APost n m w1 I1 μ1 σ1 K Gl e a' w') : APost n m w I μ σ K' Gl e a' w' := by
 obtain ⟨ae, env', σ', I', μ', h1, h2, h3, h4, h5, h6⟩ := h
 exact ⟨ae, env', σ', I', μ', h1, h2, h3, h4, k.trans h5, hk _ _ _ h6⟩
theorem AWp.mono {c : Code} {K' : AExit → Env → Sto → Prop} (h : AWp P Gl n m c env σ K) (hk : ∀ e env s, K e env s → K' e env s) : AWp P Gl n m c env σ K' :=
 fun w I μ a h1 h2 h3 h4 => Code.wp_mono (fun _ _ _ q => APost.trans (Keep.refl _ _ _ _ h4) hk q) (h w I μ a h1 h2 h3 h4)
theorem AWp.seq {x y : Code} (h : AWp P Gl n m x env σ (thenK K fun env' σ' => AWp P Gl n m y env' σ' K)) : AWp P Gl n m (.seq x y) env σ K := by
 intro w I μ a h1 h2 h3 h4
 refine wp_seq (Code.wp_mono (fun e a' w' q => ?_) (h w I μ a h1 h2 h3 h4))
 obtain ⟨ae, env', σ', I', μ', q1, q2, q3, q4, q5, q6⟩ := q
 cases e <;> cases ae <;> simp only [eRel] at q1 <;> simp only [Exit.then]
 ·exact Code.wp_mono (fun _ _ _ q => APost.trans q5 (fun _ _ _ h => h) q) (q6 w' I' μ' a' q2 q3 q4 q5.len)
 ·subst q1; exact ⟨.exit _, env', σ', I', μ', (rfl : eRel (.exit _) (.exit _)), q2, q3, q4, q5, q6⟩
 ·exact ⟨.ret, env', σ', I', μ', trivial, q2, q3, q4, q5, q6⟩
theorem AWp.block {id : Nat} {c : Code} (h : AWp P Gl n m c env σ (blockK id K)) : AWp P Gl n m (.block id c) env σ K := by
 intro w I μ a h1 h2 h3 h4
 refine wp_block (Code.wp_mono (fun e a' w' q => ?_) (h w I μ a h1 h2 h3 h4))
 obtain ⟨ae, env', σ', I', μ', q1, q2, q3, q4, q5, q6⟩ := q
 cases e <;> cases ae <;> simp only [eRel] at q1 <;> simp only [Exit.inBlock]
 ·exact ⟨.normal, env', σ', I', μ', trivial, q2, q3, q4, q5, q6⟩
 ·subst q1
  simp only [blockK] at q6
  split
  ·rename_i he; rw [if_pos he] at q6; exact ⟨.normal, env', σ', I', μ', trivial, q2, q3, q4, q5, q6⟩
  ·rename_i he; rw [if_neg he] at q6; exact ⟨.exit _, env', σ', I', μ', rfl, q2, q3, q4, q5, q6⟩
 ·exact ⟨.ret, env', σ', I', μ', trivial, q2, q3, q4, q5, q6⟩
theorem AWp.weak {c : Code} {env' : Env} {σ' : Sto} (hw : Weak n m env σ env' σ') (h : AWp P Gl n m c env' σ' K) : AWp P Gl n m c env σ K := by
 intro w I μ a h1 h2 h3 h4
 obtain ⟨I', μ', q1, q2, q3⟩ := hw w I μ a h1 h3 h4
 exact Code.wp_mono (fun _ _ _ q => APost.trans q3 (fun _ _ _ h => h) q) (h w I' μ' a q1 (h2.keep q3) q2 q3.len)
theorem exists_least {T : Nat → Prop} (h : ∃ k, T k) : ∃ k, T k ∧ ∀ j, T j → k ≤ j := by
 obtain ⟨k, hk⟩ := h
 induction k using Nat.strongRecOn with
 | _ k ih =>
  by_cases hx : ∃ j, j < k ∧ T j
  ·obtain ⟨j, hj, ht⟩ := hx; exact ih j hj ht
  ·exact ⟨k, hk, fun j hj => Nat.le_of_not_lt fun hlt => hx ⟨j, hlt, hj⟩⟩
theorem AWp.loop {c : Code} (h : evLoop n m (fun e s k => AWp P Gl n m c e s k) env σ K) : AWp P Gl n m (.loop c) env σ K := by
 intro w I μ a h1 h2 h3 h4
 obtain ⟨Inv, ν, ⟨e0, s0, hw0, hi0⟩, hstep⟩ := h
 let T : Act → World → Nat → Prop := fun a' w' k => ∃ e s I' μ', ν e s = k ∧ Inv e s ∧ Rel w' I' μ' s ∧ GlOk Gl w' I' ∧ RelEnv n w' I' μ' s e a' ∧ Keep m w I μ σ w' I' μ' s
 let least : Act → World → Nat := fun a' w' => open Classical in if h : ∃ k, T a' w' k then Classical.choose (exists_least h) else 0
 have least_spec : ∀ a' w' (h : ∃ k, T a' w' k), T a' w' (least a' w') ∧ ∀ j, T a' w' j → least a' w' ≤ j := fun a' w' h => by
  have : least a' w' = Classical.choose (exists_least h) := by simp only [least]; rw [dif_pos h]
  rw [this]; exact Classical.choose_spec (exists_least h)
 obtain ⟨I0, μ0, q1, q2, q3⟩ := hw0 w I μ a h1 h3 h4
 refine wp_loop (fun a' w' => ∃ k, T a' w' k) least ⟨ν e0 s0, e0, s0, I0, μ0, rfl, hi0, q1, h2.keep q3, q2, q3⟩ fun a' w' hI => ?_
 obtain ⟨⟨e, s, I', μ', hk, hi, r1, r2, r3, r4⟩, hmin⟩ := least_spec a' w' hI
 refine Code.wp_mono (fun x a2 w2 q => ?_) (hstep e s hi w' I' μ' a' r1 r2 r3 r4.len)
 obtain ⟨ae, env', σ', I2, μ2, p1, p2, p3, p4, p5, p6⟩ := q
 cases x <;> cases ae <;> simp only [eRel] at p1 <;> simp only [Exit.then]
 ·obtain ⟨e2, s2, hw2, hi2, hlt⟩ := p6
  obtain ⟨I3, μ3, t1, t2, t3⟩ := hw2 w2 I2 μ2 a2 p2 p4 p5.len
  have hT : T a2 w2 (ν e2 s2) := ⟨e2, s2, I3, μ3, rfl, hi2, t1, p3.keep t3, t2, (r4.trans p5).trans t3⟩
  refine ⟨⟨_, hT⟩, ?_⟩
  have := (least_spec a2 w2 ⟨_, hT⟩).2 _ hT
  omega
 ·subst p1; exact ⟨.exit _, env', σ', I2, μ2, (rfl : eRel (.exit _) (.exit _)), p2, p3, p4, r4.trans p5, p6⟩
 ·exact ⟨.ret, env', σ', I2, μ2, trivial, p2, p3, p4, r4.trans p5, p6⟩
theorem thenK_mono {K K' : AExit → Env → Sto → Prop} {f g : Env → Sto → Prop} (hk : ∀ e env s, K e env s → K' e env s) (hf : ∀ env s, f env s → g env s) : ∀ e env s, thenK K f e env s → thenK K' g e env s := by
 intro e env s h
 cases e <;> first | exact hf _ _ h | exact hk _ _ _ h
theorem evC_sound (hP : P.follows .mixedOrders = true) :
  ∀ (c : Code) (env : Env) (σ : Sto) (K : AExit → Env → Sto → Prop), evC P Gl n m c env σ K → AWp P Gl n m c env σ K := by
 intro c
 induction c with
 | skip =>
  intro env σ K h w I μ a h1 h2 h3 h4
  exact wp_skip ⟨.normal, env, σ, I, μ, trivial, h1, h2, h3, Keep.refl _ _ _ _ h4, h⟩
 | region id ops draw =>
  intro env σ K h
  cases draw with
  | false =>
   intro w I μ a h1 h2 h3 h4
   refine wp_region_list (evOps_sound ops.toList env σ h.2 h1 h2 h3 h4 fun env' σ' w' I' μ' a' k1 k2 k3 k4 k5 => ?_)
   exact ⟨.normal, env', σ', I', μ', trivial, k2, k3, k4, k5, k1⟩
  | true =>
   intro w I μ a h1 h2 h3 h4
   refine draw_sound' hP (h.1 rfl) h.2 h1 h2 h3 h4 fun env' σ' w' I' μ' a' k1 k2 k3 k4 k5 => ?_
   exact ⟨.normal, env', σ', I', μ', trivial, k2, k3, k4, k5, k1⟩
 | seq x y ihx ihy =>
  intro env σ K h
  exact AWp.seq (AWp.mono (ihx env σ _ h) (thenK_mono (fun _ _ _ h => h) fun env s h => ihy env s K h))
 | cond c x y ihx ihy =>
  intro env σ K h w I μ a h1 h2 h3 h4
  obtain ⟨g1, g2, g3, g4⟩ := h
  have hr := evU_rep h2 h3 g1
  have hb : ∃ b, a.eval c = .bool b ∧ (b = true → mayT (evU Gl env c) = true) ∧ (b = false → mayF (evU Gl env c) = true) := by
   generalize evU Gl env c = u at *
   generalize a.eval c = v at *
   cases u with
   | d x =>
    cases x with
    | bool b => cases hr.inv_d; exact ⟨b, rfl, fun h => h, fun h => by simp [mayF, h]⟩
    | _ => simp [AV.isBoolq] at g2
   | anyb => cases hr with | anyb b => exact ⟨b, rfl, fun _ => rfl, fun _ => rfl⟩
   | _ => simp [AV.isBoolq] at g2
  obtain ⟨b, hb, hT, hF⟩ := hb
  refine wp_cond_split hb (fun ht => ?_) (fun ht => ?_)
  ·exact ihx env σ K (g3 (hT ht)) w I μ a h1 h2 h3 h4
  ·exact ihy env σ K (g4 (hF ht)) w I μ a h1 h2 h3 h4
 | block id c ih =>
  intro env σ K h
  exact AWp.block (ih env σ _ h)
 | loop c ih =>
  intro env σ K h
  obtain ⟨Inv, ν, h1, h2⟩ := h
  exact AWp.loop ⟨Inv, ν, h1, fun e s hi => ih e s _ (h2 e s hi)⟩
 | exit id =>
  intro env σ K h w I μ a h1 h2 h3 h4
  exact wp_exit ⟨.exit id, env, σ, I, μ, rfl, h1, h2, h3, Keep.refl _ _ _ _ h4, h⟩
 | ret =>
  intro env σ K h w I μ a h1 h2 h3 h4
  exact wp_ret ⟨.ret, env, σ, I, μ, trivial, h1, h2, h3, Keep.refl _ _ _ _ h4, h⟩
 | scope c ih =>
  intro env σ K h w I μ a h1 h2 h3 h4
  refine wp_scope_straight (Code.wp_mono (fun e a' w' q => ?_) (ih env σ K h w I μ a h1 h2 h3 h4))
  obtain ⟨ae, env', σ', I', μ', q1, q2, q3, q4, q5, q6⟩ := q
  cases e <;> cases ae <;> simp only [eRel] at q1
  ·exact ⟨.normal, env', σ', I', μ', trivial, q2, q3, q4, q5, q6⟩
  ·subst q1; exact ⟨.exit _, env', σ', I', μ', (rfl : eRel (.exit _) (.exit _)), q2, q3, q4, q5, q6⟩
  ·exact ⟨.ret, env', σ', I', μ', trivial, q2, q3, q4, q5, q6⟩
 | label l =>
  intro env σ K h w I μ a h1 h2 h3 h4
  exact wp_label ⟨.normal, env, σ, I, μ, trivial, h1, h2, h3, Keep.refl _ _ _ _ h4, h⟩
 | _ => intro env σ K h; exact h.elim
end Go.AM


namespace Go.AM
variable {P : Program} {Gl : Globs} {w : World} {I : Im} {μ : Pos} {σ : Sto} {n m : Nat} {env : Env} {a : Act}
def argEnv : List AV → Nat → Env
 | [], _ => []
 | v :: r, k => (k, v) :: argEnv r (k + 1)
theorem getE_argEnv : ∀ (args : List AV) (k t : Nat), getE (argEnv args k) t = if k ≤ t then args.getD (t - k) .undef else .undef
 | [], k, t => by simp [argEnv, getE]
 | v :: r, k, t => by
  simp only [argEnv, getE]
  by_cases e : k = t
  ·subst e; simp
  ·rw [if_neg e, getE_argEnv r (k + 1) t]
   by_cases h : k ≤ t
   ·rw [if_pos h, if_pos (by omega)]
    have : t - k = (t - (k + 1)) + 1 := by omega
    rw [this]; rfl
   ·rw [if_neg h, if_neg (by omega)]
def resOk1 (P : Program) (env : Env) (σ : Sto) : ResultVar → Prop
 | .tmp t => (getE env t).vg = true
 | .cell t ty => match tkind P ty, tsz P ty with | some g, some k => ldOk σ g k (getE env t) | _, _ => False
def resV1 (P : Program) (env : Env) (σ : Sto) : ResultVar → AV
 | .tmp t => (getE env t).un
 | .cell t ty => match tkind P ty, tsz P ty with | some g, some k => ldV σ g k (getE env t) | _, _ => .undef
def resOk (P : Program) (env : Env) (σ : Sto) : List ResultVar → Prop
 | [] => True
 | r :: rs => resOk1 P env σ r ∧ resOk P env σ rs
def resV (P : Program) (env : Env) (σ : Sto) : List ResultVar → AV
 | [r] => resV1 P env σ r
 | rs => .tup (rs.map (resV1 P env σ))
def WeakR (m : Nat) (r : AV) (s : Sto) (r' : AV) (s' : Sto) : Prop :=
 ∀ w I μ v, Rel w I μ s → RepV w I μ s v r → m ≤ s.length → ∃ I' μ', Rel w I' μ' s' ∧ RepV w I' μ' s' v r' ∧ Keep m w I μ s w I' μ' s'
theorem WeakR.refl (m : Nat) (r : AV) (s : Sto) : WeakR m r s r s := fun _ I μ _ h1 h2 h3 => ⟨I, μ, h1, h2, Keep.refl _ _ _ _ h3⟩
def retK (P : Program) (m : Nat) (rs : List ResultVar) (R : AV → Sto → Prop) : AExit → Env → Sto → Prop
 | .exit _, _, _ => False
 | _, env, σ => resOk P env σ rs ∧ ∃ r' s', WeakR m (resV P env σ rs) σ r' s' ∧ R r' s'
def resS (tmps : Array Value) : ResultVar → Sem Value
 | .tmp t => pure (tmps.getD t Go.undef)
 | .cell t ty => do loadVar ty (← asAddr (tmps.getD t Go.undef))
theorem res1_run (hR : Rel w I μ σ) (hE : RelEnv n w I μ σ env a) {r : ResultVar} (ho : resOk1 P env σ r) :
  ∃ v, (resS a.tmps r).run P w = .ok v w ∧ RepV w I μ σ v (resV1 P env σ r) := by
 cases r with
 | tmp t => exact ⟨_, rfl, un_rep (hE.slot t) ho⟩
 | cell t ty =>
  simp only [resOk1] at ho
  split at ho
  ·rename_i g k h1 h2
   obtain ⟨u, h3, h4⟩ := load_goes (P := P) hR h1 h2 (hE.slot t) ho
   refine ⟨u, ?_, by simp only [resV1, h1, h2]; exact h4⟩
   have hp : ∃ ad, a.tmps.getD t Go.undef = .pointer (some ad) := by
    have hv := hE.slot t
    generalize getE env t = p at *
    generalize a.tmps.getD t Go.undef = q at *
    cases p <;> simp only [ldOk] at ho <;> cases hv
    ·rename_i h; obtain ⟨_, _, _, e⟩ := h; exact ⟨_, e⟩
    ·exact ⟨_, rfl⟩
    ·rename_i h; obtain ⟨_, _, _, _, e⟩ := h; exact ⟨_, e⟩
   obtain ⟨ad, e⟩ := hp
   rw [e] at h3
   simp only [resS, e, asAddr, Sem.run_bind, Sem.run_pure, Result.andThen_ok]
   simpa [Instr.loadAt, Instr.sureAddr] using h3
  ·exact ho.elim
theorem res_list (hR : Rel w I μ σ) (hE : RelEnv n w I μ σ env a) : ∀ (rs : List ResultVar), resOk P env σ rs →
  ∃ vs : List Value, (rs.mapM (resS a.tmps)).run P w = .ok vs w ∧ vs.length = rs.length ∧
   ∀ (i : Nat) (v : Value) (u : AV), vs[i]? = some v → (rs.map (resV1 P env σ))[i]? = some u → RepV w I μ σ v u
 | [], _ => ⟨[], rfl, rfl, fun i v u hv => by simp at hv⟩
 | r :: rs, ho => by
  obtain ⟨v, h1, h2⟩ := res1_run (P := P) hR hE ho.1
  obtain ⟨vs, h3, h4, h5⟩ := res_list hR hE rs ho.2
  refine ⟨v :: vs, ?_, by simp [h4], fun i v' u hv hu => ?_⟩
  ·rw [List.mapM_cons]
   simp only [Sem.run_bind]
   rw [h1]
   simp only [Result.andThen_ok]
   rw [h3]
   simp
  ·cases i with
   | zero => simp at hv hu; subst hv; subst hu; exact h2
   | succ i => exact h5 i v' u (by simpa using hv) (by simpa using hu)
theorem results_run (hR : Rel w I μ σ) (hE : RelEnv n w I μ σ env a) {fn : Func} (ho : resOk P env σ fn.results.toList) : ∃ v, (results fn a.tmps).run P w = .ok v w ∧ RepV w I μ σ v (resV P env σ fn.results.toList) := by
 obtain ⟨vs, h1, h2, h3⟩ := res_list (P := P) hR hE fn.results.toList ho
 have hrun : (fn.results.mapM (resS a.tmps)).run P w = .ok vs.toArray w := by
  rw [Array.mapM_eq_mapM_toList]
  simp only [Sem.run_map, h1, Result.andThen_ok]
 have e : (results fn a.tmps).run P w = .ok (if h : vs.toArray.size = 1 then vs.toArray[0] else .tuple vs.toArray) w := by
  have e0 : results fn a.tmps = (do let vs ← fn.results.mapM (resS a.tmps); pure (if h : vs.size = 1 then vs[0] else .tuple vs)) := by
   unfold results
   congr 1
  rw [e0]
  simp only [Sem.run_bind, hrun, Result.andThen_ok, Sem.run_pure]
 refine ⟨_, e, ?_⟩
 cases hl : fn.results.toList with
 | nil =>
  rw [hl] at h2 h3
  have : vs = [] := List.eq_nil_of_length_eq_zero h2
  subst this
  exact .tup [] [] rfl (fun i v u hv => by simp at hv)
 | cons r rs =>
  rw [hl] at h2 h3
  cases rs with
  | nil =>
   cases vs with
   | nil => simp at h2
   | cons v vs =>
    simp at h2
    subst h2
    exact h3 0 v _ rfl rfl
  | cons r2 rs =>
   rw [dif_neg (by simp [h2])]
   exact .tup vs _ (by simp [h2]) h3
theorem argEnv_rel {vals : List Value} {args : List AV} (hl : vals.length = args.length) (hr : ∀ (i : Nat) (v : Value) (u : AV), vals[i]? = some v → args[i]? = some u → RepV w I μ σ v u) (hn : args.length ≤ n) :
  RelEnv n w I μ σ (argEnv args 0) { tmps := vals.toArray ++ Array.replicate (n - vals.toArray.size) Go.undef, defers := [] } := by
 refine ⟨rfl, by simp; omega, fun t => ?_⟩
 rw [getE_argEnv]
 simp only [Nat.zero_le, if_true, Nat.sub_zero]
 rcases Nat.lt_or_ge t args.length with ht | ht
 ·have h1 : vals[t]? = some vals[t] := List.getElem?_eq_getElem (by omega)
  have h2 : args[t]? = some args[t] := List.getElem?_eq_getElem ht
  have e : (vals.toArray ++ Array.replicate (n - vals.toArray.size) Go.undef).getD t Go.undef = vals[t] := by
   rw [Array.getD_eq_getD_getElem?, Array.getElem?_append_left (by simp; omega)]
   simp [h1]
  rw [e, List.getD_eq_getElem?_getD, h2]
  exact hr t _ _ h1 h2
 ·rw [List.getD_eq_getElem?_getD, List.getElem?_eq_none ht]
  exact .undef _
theorem acalls_of {f : FuncId} {fn : Func} {c : Code} {args : List AV} {R : AV → Sto → Prop} (hf : P.funcs[f]? = some fn) (hname : (fn.name == "runtime.NumGoroutine") = false) (hb : fn.body = some c) (hn : args.length ≤ fn.ntmps)
  (h : AWp P Gl fn.ntmps σ.length c (argEnv args 0) σ (retK P σ.length fn.results.toList R)) : ACalls P Gl f args σ R := by
 intro w I μ vals hR hG hl hr
 have e : (callFunc f vals.toArray).run P w = .ok (.enter f vals.toArray) w := by
  have hne : ¬ fn.name = "runtime.NumGoroutine" := by simpa using hname
  simp [callFunc, hf, hb, hne]
 rw [e]
 refine ⟨rfl, calls_of_wp hf hb ?_⟩
 refine Code.wp_mono (fun x a' w' q => ?_) (h w I μ _ hR hG (argEnv_rel hl hr hn) (Nat.le_refl _))
 obtain ⟨ae, env', σ', I', μ', q1, q2, q3, q4, q5, q6⟩ := q
 have fin : (resOk P env' σ' fn.results.toList ∧ ∃ r' s', WeakR σ.length (resV P env' σ' fn.results.toList) σ' r' s' ∧ R r' s') → ∃ v, (results fn a'.tmps).run P w' = .ok v w' ∧ Post w I μ σ R v w' := by
  rintro ⟨h1, r', s', h2, h3⟩
  obtain ⟨v, h4, h5⟩ := results_run (P := P) q2 q4 h1
  obtain ⟨I2, μ2, h6, h7, h8⟩ := h2 w' I' μ' v q2 h5 q5.len
  exact ⟨v, h4, r', s', I2, μ2, h6, q5.trans h8, h7, h3⟩
 cases x <;> cases ae <;> simp only [eRel] at q1
 ·obtain ⟨v, h1, h2⟩ := fin q6; exact ⟨q4.defers, v, h1, v, rfl, h2⟩
 ·exact q6.elim
 ·obtain ⟨v, h1, h2⟩ := fin q6; exact ⟨q4.defers, v, h1, v, rfl, h2⟩
def idxIn (ρ : List Nat) (id : Nat) : Option Nat := ρ.findIdx? (· == id)
def ren0 (ρ : List Nat) (σ : Sto) : AV → AV
 | .d x => .d x
 | .nils => .nils
 | .eptr es xs i off => .eptr es xs i off
 | .ptr id off => match idxIn ρ id with | some j => .ptr j off | none => .undef
 | .aptr id i off => match idxIn ρ id with | some j => .aptr j i off | none => .undef
 | .osl id off len => match idxIn ρ id with
  | some j => .osl j off len
  | none => if (blkAt σ id).isArr = true ∧ (blkAt σ id).own = false then .d (.sl (((blkAt σ id).xs.drop off).take len)) else .undef
 | .rsl id len => match idxIn ρ id with | some j => .rsl j len | none => .undef
 | .mapr id => match idxIn ρ id with | some j => .mapr j | none => .undef
 | .anyb => .anyb
 | _ => .undef
def renV (ρ : List Nat) (σ : Sto) : AV → AV
 | .agg cs => if (cs.map (ren0 ρ σ)).all AV.one then mkAgg (cs.map (ren0 ρ σ)) else .undef
 | .tup vs => .tup (vs.map (ren0 ρ σ))
 | .fn f caps => .fn f (caps.map (ren0 ρ σ))
 | .iff _ _ => .undef
 | v => ren0 ρ σ v
def renB (ρ : List Nat) (σ : Sto) : Blk → Blk
 | .box n v => match renV ρ σ v with
  | .undef => .dead
  | v' => .box n v'
 | .map ik f => .map ik fun k => (f k).map (renV ρ σ)
 | B => B
def renS (ρ : List Nat) (σ : Sto) : Sto := ρ.map fun id => renB ρ σ (blkAt σ id)
def renPos (ρ : List Nat) (μ : Pos) : Pos := fun j => match ρ[j]? with | some id => μ id | none => none
theorem idxIn_spec {ρ : List Nat} {id j : Nat} (h : idxIn ρ id = some j) : ρ[j]? = some id := by
 unfold idxIn at h
 have := List.findIdx?_eq_some_iff_getElem.1 h
 obtain ⟨hj, h1, _⟩ := this
 rw [List.getElem?_eq_getElem hj]
 simpa using h1
theorem blkAt_renS {ρ : List Nat} {j id : Nat} (h : ρ[j]? = some id) : blkAt (renS ρ σ) j = renB ρ σ (blkAt σ id) := by
 unfold renS
 conv => lhs; unfold blkAt
 rw [List.getD_eq_getElem?_getD, List.getElem?_map, h]; rfl
theorem renB_arr (ρ : List Nat) (σ' : Sto) (B : Blk) : (renB ρ σ' B).isArr = B.isArr ∧ (renB ρ σ' B).es = B.es ∧ (renB ρ σ' B).xs = B.xs := by
 cases B with
 | box n v => simp only [renB]; split <;> exact ⟨rfl, rfl, rfl⟩
 | _ => exact ⟨rfl, rfl, rfl⟩
theorem renB_alive {ρ : List Nat} {σ' : Sto} {B : Blk} (h : (renB ρ σ' B).isDead = false) : B.isDead = false := by
 cases B <;> simp_all [renB, Blk.isDead]
theorem ren0_rep (hR : Rel w I μ σ) {ρ : List Nat} {v : Value} {u : AV} (hv : RepV w I μ σ v u) : RepV w I (renPos ρ μ) (renS ρ σ) v (ren0 ρ σ u) := by
 have key : ∀ {id j : Nat}, idxIn ρ id = some j → j < (renS ρ σ).length ∧ (alive (renS ρ σ) j → alive σ id) ∧ renPos ρ μ j = μ id ∧ (blkAt (renS ρ σ) j).isArr = (blkAt σ id).isArr ∧ (blkAt (renS ρ σ) j).es = (blkAt σ id).es ∧ (blkAt (renS ρ σ) j).xs = (blkAt σ id).xs := fun {id j} hj => by
  have hs := idxIn_spec hj
  have hb := blkAt_renS (σ := σ) hs
  obtain ⟨a1, a2, a3⟩ := renB_arr ρ σ (blkAt σ id)
  refine ⟨?_, fun ha => ?_, by unfold renPos; rw [hs], by rw [hb, a1], by rw [hb, a2], by rw [hb, a3]⟩
  ·unfold renS; rw [List.length_map]
   rcases Nat.lt_or_ge j ρ.length with h' | h'
   ·exact h'
   ·rw [List.getElem?_eq_none h'] at hs; cases hs
  ·unfold alive at *; rw [hb] at ha; exact renB_alive ha
 cases u with
 | d x => exact .d _ _ hv.inv_d
 | nils => cases hv; exact .nils
 | eptr es xs i off => cases hv with | eptr b o _ _ _ _ hh => exact .eptr b o es xs i off hh
 | ptr id off =>
  simp only [ren0]
  cases hj : idxIn ρ id with
  | none => exact .undef _
  | some j =>
   obtain ⟨k1, k2, k3, _⟩ := key hj
   cases hv with
   | ptr _ _ _ hid hh =>
    obtain ⟨b, base, h1, h2⟩ := hh
    exact .ptr _ _ _ k1 ⟨b, base, fun ha => by rw [k3]; exact h1 (k2 ha), h2⟩
 | aptr id i off =>
  simp only [ren0]
  cases hj : idxIn ρ id with
  | none => exact .undef _
  | some j =>
   obtain ⟨k1, k2, k3, k4, k5, k6⟩ := key hj
   cases hv with
   | aptr _ _ _ _ hid hh =>
    obtain ⟨b, base, es, h1, h2⟩ := hh
    exact .aptr _ _ _ _ k1 ⟨b, base, es, fun ha => by rw [k3, k5]; exact h1 (k2 ha), h2⟩
 | osl id off len =>
  simp only [ren0]
  cases hj : idxIn ρ id with
  | none =>
   by_cases hc : (blkAt σ id).isArr = true ∧ (blkAt σ id).own = false
   ·simp only [if_pos hc]; exact .d _ _ (hv.oslData hR hc.1 hc.2)
   ·simp only [if_neg hc]; exact .undef _
  | some j =>
   obtain ⟨k1, k2, k3, k4, k5, k6⟩ := key hj
   obtain ⟨hid, hh⟩ := inv_osl hv
   refine .osl _ _ _ _ k1 ?_
   rcases hh with hh | ⟨b, base, es, cap, h1, h2, h3⟩
   ·exact .inl hh
   ·refine .inr ⟨b, base, es, cap, fun ha => ?_, h2, h3⟩
    rw [k3, k4, k5, k6]; exact h1 (k2 ha)
 | rsl id len =>
  simp only [ren0]
  cases hj : idxIn ρ id with
  | none => exact .undef _
  | some j =>
   obtain ⟨k1, k2, k3, _⟩ := key hj
   cases hv with
   | rsl _ _ _ hid hh =>
    obtain ⟨b, base, cap, h1, h2⟩ := hh
    exact .rsl _ _ _ k1 ⟨b, base, cap, fun ha => by rw [k3]; exact h1 (k2 ha), h2⟩
 | mapr id =>
  simp only [ren0]
  cases hj : idxIn ρ id with
  | none => exact .undef _
  | some j =>
   obtain ⟨k1, k2, k3, _⟩ := key hj
   cases hv with
   | mapr _ _ hid hh =>
    obtain ⟨b, h1, h2⟩ := hh
    exact .mapr _ _ k1 ⟨b, fun ha => by rw [k3]; exact h1 (k2 ha), h2⟩
 | anyb => cases hv; exact .anyb _
 | _ => exact .undef _
theorem renV_rep (hR : Rel w I μ σ) {ρ : List Nat} {v : Value} {u : AV} (hv : RepV w I μ σ v u) : RepV w I (renPos ρ μ) (renS ρ σ) v (renV ρ σ u) := by
 have lst : ∀ {vs : List Value} {cs : List AV}, (∀ (i : Nat) (v : Value) (x : AV), vs[i]? = some v → cs[i]? = some x → RepV w I μ σ v x) → ∀ (i : Nat) (v : Value) (x : AV), vs[i]? = some v → (cs.map (ren0 ρ σ))[i]? = some x → RepV w I (renPos ρ μ) (renS ρ σ) v x := fun {vs cs} h i v x hv hx => by
  rw [List.getElem?_map] at hx
  cases hc : cs[i]? with
  | none => rw [hc] at hx; cases hx
  | some c =>
   rw [hc] at hx
   simp only [Option.map_some, Option.some.injEq] at hx
   subst hx
   exact ren0_rep hR (h i v c hv hc)
 cases u with
 | agg cs =>
  cases hv with
  | agg vs _ hl hone hh =>
   simp only [renV]
   split
   ·rename_i hall
    exact mkAgg_rep (by simpa using hl) (fun c hc => List.all_eq_true.1 hall c hc) (lst hh)
   ·exact .undef _
 | tup cs => cases hv with | tup vs _ hl hh => exact .tup vs _ (by simpa using hl) (lst hh)
 | fn f cs => cases hv with | fn _ vs _ hl hh => exact .fn f vs _ (by simpa using hl) (lst hh)
 | iff g x => exact .undef _
 | _ => exact ren0_rep hR hv
theorem renV_cells (ρ : List Nat) (σ' : Sto) (v : AV) (hu : renV ρ σ' v ≠ .undef) (j : Nat) (hj : j < v.ncells) : (renV ρ σ' v).ncells = v.ncells ∧ (renV ρ σ' v).cellAt j = renV ρ σ' (v.cellAt j) := by
 cases v with
 | d x => exact ⟨rfl, rfl⟩
 | agg cs =>
  simp only [renV] at hu ⊢
  split at hu
  ·rename_i hall
   rw [if_pos hall]
   simp only [AV.ncells] at hj
   refine ⟨by rw [mkAgg_ncells]; simp [AV.ncells], ?_⟩
   rw [mkAgg_cellAt _ _ (by simpa using hj)]
   have hone : (ren0 ρ σ' cs[j]).one = true := List.all_eq_true.1 hall _ (List.mem_map.2 ⟨cs[j], List.getElem_mem hj, rfl⟩)
   simp only [AV.cellAt, List.getD_eq_getElem?_getD, List.getElem?_map, List.getElem?_eq_getElem hj, Option.map_some, Option.getD_some]
   generalize cs[j] = c at *
   cases c <;> first | rfl | (simp [ren0, AV.one] at hone; done)
  ·exact absurd rfl hu
 | undef => exact absurd rfl hu
 | iff _ _ => exact absurd rfl hu
 | nils => exact ⟨rfl, rfl⟩
 | eptr _ _ _ _ => exact ⟨rfl, rfl⟩
 | fn _ _ => exact ⟨rfl, rfl⟩
 | tup _ => exact ⟨rfl, rfl⟩
 | anyb => exact ⟨rfl, rfl⟩
 | mapr id =>
  simp only [renV, ren0] at hu ⊢
  cases h : idxIn ρ id with
  | none => rw [h] at hu; exact absurd rfl hu
  | some k => simp only [AV.cellAt, h]; exact ⟨rfl, trivial⟩
 | ptr id off =>
  simp only [renV, ren0] at hu ⊢
  cases h : idxIn ρ id with
  | none => rw [h] at hu; exact absurd rfl hu
  | some k => simp only [AV.cellAt, h]; exact ⟨rfl, trivial⟩
 | rsl id len =>
  simp only [renV, ren0] at hu ⊢
  cases h : idxIn ρ id with
  | none => rw [h] at hu; exact absurd rfl hu
  | some k => simp only [AV.cellAt, h]; exact ⟨rfl, trivial⟩
 | aptr id i off =>
  simp only [renV, ren0] at hu ⊢
  cases h : idxIn ρ id with
  | none => rw [h] at hu; exact absurd rfl hu
  | some k => simp only [AV.cellAt, h]; exact ⟨rfl, trivial⟩
 | osl id off len =>
  simp only [renV, ren0] at hu ⊢
  cases h : idxIn ρ id with
  | some k => simp only [AV.cellAt, h]; exact ⟨rfl, trivial⟩
  | none =>
   rw [h] at hu
   by_cases hc : (blkAt σ' id).isArr = true ∧ (blkAt σ' id).own = false
   ·have hj0 : j = 0 := by simp only [AV.ncells] at hj; omega
    subst hj0
    simp only [if_pos hc, AV.cellAt, h]
    exact ⟨rfl, rfl⟩
   ·simp only [if_neg hc] at hu; first | exact absurd rfl hu | exact (hu trivial).elim
def renE (live : List Nat) (ρ : List Nat) (σ : Sto) (env : Env) : Env := live.map fun t => (t, renV ρ σ (getE env t))
theorem getE_renE : ∀ (live : List Nat) (ρ : List Nat) (σ : Sto) (env : Env) (t : Nat), getE (renE live ρ σ env) t = if t ∈ live then renV ρ σ (getE env t) else .undef
 | [], ρ, σ, env, t => by simp [renE, getE]
 | s :: live, ρ, σ, env, t => by
  have ih := getE_renE live ρ σ env t
  unfold renE at ih ⊢
  simp only [List.map_cons, getE]
  by_cases e : s = t
  ·subst e; simp
  ·rw [if_neg e, ih]
   simp [Ne.symm e]
theorem ren_ok (hR : Rel w I μ σ) {ρ : List Nat} (hm : ρ.take m = List.range m) (hnd : ρ.Nodup) : Rel w I (renPos ρ μ) (renS ρ σ) ∧ Keep m w I μ σ w I (renPos ρ μ) (renS ρ σ) := by
 have hml : m ≤ ρ.length := by
  have := congrArg List.length hm
  simp at this; omega
 have hid : ∀ id, id < m → ρ[id]? = some id := fun id h => by
  have : (ρ.take m)[id]? = some id := by rw [hm]; simp [h]
  rwa [List.getElem?_take_of_lt h] at this
 refine ⟨⟨hR.imm, fun j hj => ?_, fun i j b b' o o' hij hi hj hμi hμj => ?_⟩, ⟨rfl, rfl, rfl, Nat.le_refl _, fun _ h => h, fun _ h => h, fun _ h => .inl h, fun _ _ => rfl, fun _ => Nat.le_refl _, by simpa [renS] using hml, fun id h hal => ?_⟩⟩
 ·simp only [renS, List.length_map] at hj
  have hs : ρ[j]? = some ρ[j] := List.getElem?_eq_getElem hj
  rw [blkAt_renS hs]
  generalize ρ[j] = id at hs
  have hp : renPos ρ μ j = μ id := by unfold renPos; rw [hs]
  rcases Nat.lt_or_ge id σ.length with hl | hl
  ·have hb := hR.blk id hl
   cases hB : blkAt σ id with
   | dead => trivial
   | arr es xs => rw [hB] at hb; simp only [renB, BlkRep] at hb ⊢; rw [hp]; exact hb
   | frz es xs => rw [hB] at hb; simp only [renB, BlkRep] at hb ⊢; rw [hp]; exact hb
   | map ik f =>
    rw [hB] at hb
    obtain ⟨b, es, clock, h1, h2, h3, h4⟩ := hb
    exact ⟨b, es, clock, by rw [hp]; exact h1, h2, h3, h4.imp fun v u hv => renV_rep hR hv⟩
   | box k v =>
    rw [hB] at hb
    obtain ⟨b, base, h1, h2, h3, h4, h5, h6⟩ := hb
    by_cases hu : renV ρ σ v = .undef
    ·simp only [renB, hu]; trivial
    ·have e : renB ρ σ (.box k v) = .box k (renV ρ σ v) := by
      simp only [renB]
     rw [e]
     refine ⟨b, base, by rw [hp]; exact h1, h2, h3, h4, ?_, fun q hq => ?_⟩
     ·rcases Nat.eq_zero_or_pos v.ncells with hz | hpos
      ·have : k = 0 := by omega
       subst this
       cases v with
       | d x => exact h5
       | agg cs =>
        simp only [renV] at hu ⊢
        split at hu
        ·rename_i hall; rw [if_pos hall, mkAgg_ncells]; simpa [AV.ncells] using h5
        ·exact absurd rfl hu
       | _ => simp [AV.ncells] at hz
      ·rw [(renV_cells ρ σ v hu 0 hpos).1]; exact h5
     ·obtain ⟨r1, u, r2, r3⟩ := h6 q hq
      obtain ⟨_, c2⟩ := renV_cells ρ σ v hu q (by omega)
      have hrep := renV_rep hR (ρ := ρ) r3
      rw [c2]
      refine ⟨?_, u, r2, hrep⟩
      have hne : renV ρ σ (v.cellAt q) ≠ .undef ∨ True := .inr trivial
      rw [← c2]
      cases v with
      | d x => exact r1
      | agg cs =>
       simp only [renV] at hu ⊢
       split at hu
       ·rename_i hall
        rw [if_pos hall, mkAgg_cellAt _ _ (by simp only [AV.ncells] at h5; simpa [h5] using hq)]
        have hql : q < cs.length := by simp only [AV.ncells] at h5; omega
        simp only [List.getD_eq_getElem?_getD, List.getElem?_map, List.getElem?_eq_getElem hql, Option.map_some, Option.getD_some]
        exact List.all_eq_true.1 hall _ (List.mem_map.2 ⟨cs[q], List.getElem_mem hql, rfl⟩)
       ·exact absurd rfl hu
      | tup _ => simp [AV.cellAt, AV.one] at r1
      | iff _ _ => simp [AV.cellAt, AV.one] at r1
      | undef => simp [AV.cellAt, AV.one] at r1
      | nils => rfl
      | eptr _ _ _ _ => rfl
      | fn _ _ => rfl
      | anyb => simp [AV.cellAt, AV.one] at r1
      | mapr id' =>
       simp only [renV, ren0] at hu ⊢
       cases h : idxIn ρ id' with
       | none => rw [h] at hu; exact absurd rfl hu
       | some k' => rfl
      | ptr id' off =>
       simp only [renV, ren0] at hu ⊢
       cases h : idxIn ρ id' with
       | none => rw [h] at hu; exact absurd rfl hu
       | some k' => rfl
      | aptr id' i off =>
       simp only [renV, ren0] at hu ⊢
       cases h : idxIn ρ id' with
       | none => rw [h] at hu; exact absurd rfl hu
       | some k' => rfl
      | rsl id' len =>
       simp only [renV, ren0] at hu ⊢
       cases h : idxIn ρ id' with
       | none => rw [h] at hu; exact absurd rfl hu
       | some k' => rfl
      | osl id' off len =>
       simp only [renV, ren0] at hu ⊢
       cases h : idxIn ρ id' with
       | some k' => rfl
       | none =>
        rw [h] at hu
        by_cases hc : (blkAt σ id').isArr = true ∧ (blkAt σ id').own = false
        ·simp only [if_pos hc, AV.cellAt]
         cases q with
         | zero => rfl
         | succ q => rfl
        ·simp only [if_neg hc] at hu; first | exact absurd rfl hu | exact (hu trivial).elim
  ·have : blkAt σ id = .dead := by unfold blkAt; rw [List.getD_eq_getElem?_getD, List.getElem?_eq_none hl]; rfl
   rw [this]; trivial
 ·have own_ : ∀ j, (blkAt (renS ρ σ) j).own = true → ∃ id, ρ[j]? = some id ∧ (blkAt σ id).own = true := fun j hj => by
   have hl := blkAt_own_lt hj
   simp only [renS, List.length_map] at hl
   have hs : ρ[j]? = some ρ[j] := List.getElem?_eq_getElem hl
   refine ⟨ρ[j], hs, ?_⟩
   rw [blkAt_renS hs] at hj
   cases hB : blkAt σ ρ[j] with
   | box k v => rfl
   | arr es xs => rfl
   | map ik f => rfl
   | _ => rw [hB] at hj; simp [renB, Blk.own] at hj
  obtain ⟨id1, e1, o1⟩ := own_ i hi
  obtain ⟨id2, e2, o2⟩ := own_ j hj
  have hne : id1 ≠ id2 := fun e => by
   subst e
   have hl1 : i < ρ.length := by
    rcases Nat.lt_or_ge i ρ.length with h' | h'
    ·exact h'
    ·rw [List.getElem?_eq_none h'] at e1; cases e1
   exact hij ((List.getElem?_inj hl1 hnd).1 (e1.trans e2.symm))
  unfold renPos at hμi hμj
  rw [e1] at hμi
  rw [e2] at hμj
  exact hR.apart id1 id2 b b' o o' hne o1 o2 hμi hμj
 ·have hs := hid id h
  have hb := blkAt_renS (σ := σ) hs
  obtain ⟨a1, a2, a3⟩ := renB_arr ρ σ (blkAt σ id)
  unfold alive at *
  rw [hb] at hal ⊢
  exact ⟨renB_alive hal, by unfold renPos; rw [hs], a1, a2, by rw [a3]; exact Nat.le_refl _⟩
theorem weak_ren (live fz ρ : List Nat) (hm : ρ.take m = List.range m) (hnd : ρ.Nodup) (env : Env) (σ : Sto) : Weak n m env σ (renE live ρ (freezeL σ fz) env) (renS ρ (freezeL σ fz)) := by
 intro w I μ a h1 h2 h3
 obtain ⟨I', r1, r2, r3, _⟩ := freezeL_spec h1 fz
 obtain ⟨q1, q2⟩ := ren_ok (m := m) r1 hm hnd
 refine ⟨I', renPos ρ μ, q1, ⟨h2.defers, h2.size, fun t => ?_⟩, (r2.mono h3).trans q2⟩
 rw [getE_renE]
 split
 ·exact renV_rep r1 (((h2.slot t)).keep r2)
 ·exact .undef _
theorem weakR_ren (fz ρ : List Nat) (hm : ρ.take m = List.range m) (hnd : ρ.Nodup) (r : AV) (σ : Sto) : WeakR m r σ (renV ρ (freezeL σ fz) r) (renS ρ (freezeL σ fz)) := by
 intro w I μ v h1 h2 h3
 obtain ⟨I', r1, r2, r3, _⟩ := freezeL_spec h1 fz
 obtain ⟨q1, q2⟩ := ren_ok (m := m) r1 hm hnd
 exact ⟨I', renPos ρ μ, q1, renV_rep r1 (h2.keep r2), (r2.mono h3).trans q2⟩
end Go.AM


namespace Go.AM
set_option linter.unusedSimpArgs false
section
variable {P : Program} {Gl : Globs} {n m : Nat} {env : Env} {σ : Sto} {K : AExit → Env → Sto → Prop} {all : Array Oper} {draw : Bool} {rest : List Oper} {KK : Env → Sto → Prop}
theorem evC_skip : evC P Gl n m .skip env σ K = K .normal env σ := rfl
theorem evC_region0 {id : Nat} {l : List Oper} : evC P Gl n m (.region id l.toArray false) env σ K = evOps P Gl n l.toArray false l env σ (K .normal) := by simp [evC]
theorem evC_region1 {id : Nat} {l : List Oper} : evC P Gl n m (.region id l.toArray true) env σ K = (drawOk P Gl n m l.toArray env σ (K .normal) ∧ evOps P Gl n l.toArray true l env σ (K .normal)) := by simp [evC]
def seqK (P : Program) (Gl : Globs) (n m : Nat) (y : Code) (K : AExit → Env → Sto → Prop) (env : Env) (σ : Sto) : Prop := evC P Gl n m y env σ K
theorem seqK_app {y : Code} : seqK P Gl n m y K env σ = evC P Gl n m y env σ K := rfl
theorem evC_seq {x y : Code} : evC P Gl n m (.seq x y) env σ K = evC P Gl n m x env σ (thenK K (seqK P Gl n m y K)) := rfl
def ifC (b : Bool) (X Y : Prop) : Prop := (b = true → X) ∧ (b = false → Y)
theorem ifC.mk {b : Bool} {X Y : Prop} (h1 : b = true → X) (h2 : b = false → Y) : ifC b X Y := ⟨h1, h2⟩
theorem ifC_true {X Y : Prop} : ifC true X Y = X := by simp [ifC]
theorem ifC_false {X Y : Prop} : ifC false X Y = Y := by simp [ifC]
theorem ifC_congr {b b' : Bool} {X Y : Prop} (h : b = b') : ifC b X Y = ifC b' X Y := by rw [h]
attribute [congr] ifC_congr
theorem evC_cond {c : Operand} {x y : Code} : evC P Gl n m (.cond c x y) env σ K = (evG Gl env c = true ∧ condK (evU Gl env c) (evC P Gl n m x env σ K) (evC P Gl n m y env σ K)) := rfl
theorem condK_bool {b : Bool} {X Y : Prop} : condK (.d (.bool b)) X Y = ifC b X Y := by cases b <;> simp [condK, AV.isBoolq, mayT, mayF, ifC]
theorem condK_any {X Y : Prop} : condK .anyb X Y = (X ∧ Y) := by simp [condK, AV.isBoolq, mayT, mayF]
theorem condK_congr {u u' : AV} {X Y : Prop} (h : u = u') : condK u X Y = condK u' X Y := by rw [h]
attribute [congr] condK_congr
theorem evC_block {id : Nat} {c : Code} : evC P Gl n m (.block id c) env σ K = evC P Gl n m c env σ (blockK id K) := rfl
theorem evC_scope {c : Code} : evC P Gl n m (.scope c) env σ K = evC P Gl n m c env σ K := rfl
theorem evC_label {l : Nat} : evC P Gl n m (.label l) env σ K = K .normal env σ := rfl
theorem evC_exit {id : Nat} : evC P Gl n m (.exit id) env σ K = K (.exit id) env σ := rfl
theorem evC_ret : evC P Gl n m .ret env σ K = K .ret env σ := rfl
theorem thenK_normal {f : Env → Sto → Prop} : thenK K f .normal env σ = f env σ := rfl
theorem thenK_exit {f : Env → Sto → Prop} {i : Nat} : thenK K f (.exit i) env σ = K (.exit i) env σ := rfl
theorem thenK_ret {f : Env → Sto → Prop} : thenK K f .ret env σ = K .ret env σ := rfl
theorem blockK_exit {i id : Nat} : blockK id K (.exit i) env σ = if i = id then K .normal env σ else K (.exit i) env σ := rfl
theorem blockK_normal {id : Nat} : blockK id K .normal env σ = K .normal env σ := rfl
theorem blockK_ret {id : Nat} : blockK id K .ret env σ = K .ret env σ := rfl
def callF (P : Program) (Gl : Globs) (n : Nat) (all : Array Oper) (draw : Bool) (dst : Option Tmp) (rest : List Oper) (fv : AV) (as : List AV) (env : Env) (σ : Sto) (K : Env → Sto → Prop) : Prop :=
 match fv with
 | .fn f caps => if draw = true then (∃ r0, (∀ s, Ext σ s → ACalls P Gl f (as ++ caps) s (fun r σ' => r = r0 ∧ σ' = s)) ∧ evOps P Gl n all draw rest (putE env dst r0) σ K) ∨ (rest = [] ∧ lastB all = true ∧ ACalls P Gl f (as ++ caps) σ (fun r σ' => K (putE env dst r) σ')) ∨ hatB all = true
  else ACalls P Gl f (as ++ caps) σ (fun r σ' => evOps P Gl n all draw rest (putE env dst r) σ' K)
 | _ => draw = true ∧ hatB all = true
def callG (P : Program) (Gl : Globs) (n : Nat) (all : Array Oper) (draw : Bool) (dst : Option Tmp) (rest : List Oper) (g : Bool) (fv : AV) (as : List AV) (env : Env) (σ : Sto) (K : Env → Sto → Prop) : Prop :=
 ∃ r0, (g = true → match fv with | .fn f caps => ∀ s, Ext σ s → ACalls P Gl f (as ++ caps) s (fun r σ' => r = r0 ∧ σ' = s) | _ => False) ∧ evOps P Gl n all draw rest (putE env dst (.iff g r0)) σ K
theorem callF_of {f : FuncId} {as caps : List AV} {v : AV} {dst : Option Tmp} (h : ∀ s, ACalls P Gl f (as ++ caps) s (fun r s' => r = v ∧ s' = s)) (h2 : evOps P Gl n all draw rest (putE env dst v) σ KK) : callF P Gl n all draw dst rest (.fn f caps) as env σ KK := by
 cases draw with
 | true => exact .inl ⟨v, fun s _ => h s, h2⟩
 | false =>
  refine (h σ).mono fun r s ⟨e1, e2⟩ => ?_
  subst e1; subst e2; exact h2
theorem callF_go {f : FuncId} {as caps : List AV} {dst : Option Tmp} (h : ACalls P Gl f (as ++ caps) σ (fun r σ' => evOps P Gl n all false rest (putE env dst r) σ' KK)) : callF P Gl n all false dst rest (.fn f caps) as env σ KK := h
theorem callF_last {f : FuncId} {as caps : List AV} {dst : Option Tmp} (hl : lastB all = true) (h : ACalls P Gl f (as ++ caps) σ (fun r σ' => KK (putE env dst r) σ')) : callF P Gl n all true dst [] (.fn f caps) as env σ KK := .inr (.inl ⟨rfl, hl, h⟩)
theorem callF_hat {fv : AV} {as : List AV} {dst : Option Tmp} {f : FuncId} {caps : List AV} (hf : fv = .fn f caps) (h : hatB all = true) : callF P Gl n all true dst rest fv as env σ KK := by subst hf; exact .inr (.inr h)
theorem callG_of {f : FuncId} {as caps : List AV} {v : AV} {dst : Option Tmp} {g : Bool} (h : g = true → ∀ s, ACalls P Gl f (as ++ caps) s (fun r s' => r = v ∧ s' = s)) (h2 : evOps P Gl n all draw rest (putE env dst (.iff g v)) σ KK) : callG P Gl n all draw dst rest g (.fn f caps) as env σ KK :=
 ⟨v, fun hg s _ => h hg s, h2⟩
theorem evOps_nil : evOps P Gl n all draw [] env σ KK = KK env σ := rfl
theorem evOps_congr {env' : Env} {σ' : Sto} (h1 : env = env') (h2 : σ = σ') : evOps P Gl n all draw rest env σ KK = evOps P Gl n all draw rest env' σ' KK := by rw [h1, h2]
theorem evC_congr {c : Code} {env' : Env} {σ' : Sto} (h1 : env = env') (h2 : σ = σ') : evC P Gl n m c env σ K = evC P Gl n m c env' σ' K := by rw [h1, h2]
theorem callF_congr {dst : Option Tmp} {fv fv' : AV} {as as' : List AV} {env' : Env} {σ' : Sto} (h0 : fv = fv') (h3 : as = as') (h1 : env = env') (h2 : σ = σ') : callF P Gl n all draw dst rest fv as env σ KK = callF P Gl n all draw dst rest fv' as' env' σ' KK := by rw [h0, h3, h1, h2]
theorem callG_congr {dst : Option Tmp} {g g' : Bool} {fv fv' : AV} {as as' : List AV} {env' : Env} {σ' : Sto} (h4 : g = g') (h0 : fv = fv') (h3 : as = as') (h1 : env = env') (h2 : σ = σ') : callG P Gl n all draw dst rest g fv as env σ KK = callG P Gl n all draw dst rest g' fv' as' env' σ' KK := by rw [h0, h3, h1, h2, h4]
attribute [congr] evOps_congr evC_congr callF_congr callG_congr
section
variable {dst : Option Tmp} {ty : TypeId} {pos : String} {af : Array Edge}
theorem o_move (x : Operand) : evOps P Gl n all draw (⟨dst, .move x, ty, pos, af, none⟩ :: rest) env σ KK = (dstIn n dst = true ∧ evG Gl env x = true ∧ opOk P Gl σ env (.move x) ∧ evOps P Gl n all draw rest (putE env dst (opV P Gl σ env (.move x))) (opS P Gl σ env (.move x)) KK) := by
 simp [evOps, isCall, gdOk, gdL, Op.operands, and_assoc]
theorem g_move (x : Operand) {j : Nat} {b : Bool} : evOps P Gl n all draw (⟨dst, .move x, ty, pos, af, some (j, b)⟩ :: rest) env σ KK = (dstIn n dst = true ∧ slotBool (gSlot all env j) = true ∧ (slotTest (gSlot all env j) b = true → evG Gl env x = true) ∧ (slotTest (gSlot all env j) b = true → opOk P Gl σ env (.move x)) ∧ evOps P Gl n all draw rest (putE env dst (.iff (slotTest (gSlot all env j) b) (opV P Gl σ env (.move x)))) σ KK) := by
 simp [evOps, isCall, gdOk, gdL, Op.operands, quietOp, addOp, and_assoc]
theorem o_assign (x : Operand) : evOps P Gl n all draw (⟨dst, .assign x, ty, pos, af, none⟩ :: rest) env σ KK = (dstIn n dst = true ∧ evG Gl env x = true ∧ opOk P Gl σ env (.assign x) ∧ evOps P Gl n all draw rest (putE env dst (opV P Gl σ env (.assign x))) (opS P Gl σ env (.assign x)) KK) := by
 simp [evOps, isCall, gdOk, gdL, Op.operands, and_assoc]
theorem g_assign (x : Operand) {j : Nat} {b : Bool} : evOps P Gl n all draw (⟨dst, .assign x, ty, pos, af, some (j, b)⟩ :: rest) env σ KK = (dstIn n dst = true ∧ slotBool (gSlot all env j) = true ∧ (slotTest (gSlot all env j) b = true → evG Gl env x = true) ∧ (slotTest (gSlot all env j) b = true → opOk P Gl σ env (.assign x)) ∧ evOps P Gl n all draw rest (putE env dst (.iff (slotTest (gSlot all env j) b) (opV P Gl σ env (.assign x)))) σ KK) := by
 simp [evOps, isCall, gdOk, gdL, Op.operands, quietOp, addOp, and_assoc]
theorem o_alloc (t : TypeId) : evOps P Gl n all draw (⟨dst, .alloc t, ty, pos, af, none⟩ :: rest) env σ KK = (dstIn n dst = true ∧ opOk P Gl σ env (.alloc t) ∧ evOps P Gl n all draw rest (putE env dst (opV P Gl σ env (.alloc t))) (opS P Gl σ env (.alloc t)) KK) := by
 simp [evOps, isCall, gdOk, gdL, Op.operands, and_assoc]
theorem o_box (t : TypeId) (x : Operand) : evOps P Gl n all draw (⟨dst, .box t x, ty, pos, af, none⟩ :: rest) env σ KK = (dstIn n dst = true ∧ evG Gl env x = true ∧ opOk P Gl σ env (.box t x) ∧ evOps P Gl n all draw rest (putE env dst (opV P Gl σ env (.box t x))) (opS P Gl σ env (.box t x)) KK) := by
 simp [evOps, isCall, gdOk, gdL, Op.operands, and_assoc]
theorem o_load (t : TypeId) (x : Operand) : evOps P Gl n all draw (⟨dst, .load t x, ty, pos, af, none⟩ :: rest) env σ KK = (dstIn n dst = true ∧ evG Gl env x = true ∧ opOk P Gl σ env (.load t x) ∧ evOps P Gl n all draw rest (putE env dst (opV P Gl σ env (.load t x))) (opS P Gl σ env (.load t x)) KK) := by
 simp [evOps, isCall, gdOk, gdL, Op.operands, and_assoc]
theorem g_load (t : TypeId) (x : Operand) {j : Nat} {b : Bool} : evOps P Gl n all draw (⟨dst, .load t x, ty, pos, af, some (j, b)⟩ :: rest) env σ KK = (dstIn n dst = true ∧ slotBool (gSlot all env j) = true ∧ (slotTest (gSlot all env j) b = true → evG Gl env x = true) ∧ (slotTest (gSlot all env j) b = true → opOk P Gl σ env (.load t x)) ∧ evOps P Gl n all draw rest (putE env dst (.iff (slotTest (gSlot all env j) b) (opV P Gl σ env (.load t x)))) σ KK) := by
 simp [evOps, isCall, gdOk, gdL, Op.operands, quietOp, addOp, and_assoc]
theorem o_store (t : TypeId) (x y : Operand) : evOps P Gl n all draw (⟨dst, .store t x y, ty, pos, af, none⟩ :: rest) env σ KK = (dstIn n dst = true ∧ evG Gl env x = true ∧ evG Gl env y = true ∧ opOk P Gl σ env (.store t x y) ∧ evOps P Gl n all draw rest (putE env dst (opV P Gl σ env (.store t x y))) (opS P Gl σ env (.store t x y)) KK) := by
 simp [evOps, isCall, gdOk, gdL, Op.operands, and_assoc]
theorem o_nilCheck (x : Operand) : evOps P Gl n all draw (⟨dst, .nilCheck x, ty, pos, af, none⟩ :: rest) env σ KK = (dstIn n dst = true ∧ evG Gl env x = true ∧ opOk P Gl σ env (.nilCheck x) ∧ evOps P Gl n all draw rest (putE env dst (opV P Gl σ env (.nilCheck x))) (opS P Gl σ env (.nilCheck x)) KK) := by
 simp [evOps, isCall, gdOk, gdL, Op.operands, and_assoc]
theorem g_nilCheck (x : Operand) {j : Nat} {b : Bool} : evOps P Gl n all draw (⟨dst, .nilCheck x, ty, pos, af, some (j, b)⟩ :: rest) env σ KK = (dstIn n dst = true ∧ slotBool (gSlot all env j) = true ∧ (slotTest (gSlot all env j) b = true → evG Gl env x = true) ∧ (slotTest (gSlot all env j) b = true → opOk P Gl σ env (.nilCheck x)) ∧ evOps P Gl n all draw rest (putE env dst (.iff (slotTest (gSlot all env j) b) (opV P Gl σ env (.nilCheck x)))) σ KK) := by
 simp [evOps, isCall, gdOk, gdL, Op.operands, quietOp, addOp, and_assoc]
theorem o_binOp (o : BinOp) (t u : TypeId) (x y : Operand) : evOps P Gl n all draw (⟨dst, .binOp o t x y u, ty, pos, af, none⟩ :: rest) env σ KK = (dstIn n dst = true ∧ evG Gl env x = true ∧ evG Gl env y = true ∧ opOk P Gl σ env (.binOp o t x y u) ∧ evOps P Gl n all draw rest (putE env dst (opV P Gl σ env (.binOp o t x y u))) (opS P Gl σ env (.binOp o t x y u)) KK) := by
 simp [evOps, isCall, gdOk, gdL, Op.operands, and_assoc]
theorem g_binOp (o : BinOp) (t u : TypeId) (x y : Operand) {j : Nat} {b : Bool} : evOps P Gl n all draw (⟨dst, .binOp o t x y u, ty, pos, af, some (j, b)⟩ :: rest) env σ KK = (dstIn n dst = true ∧ slotBool (gSlot all env j) = true ∧ (slotTest (gSlot all env j) b = true → evG Gl env x = true) ∧ (slotTest (gSlot all env j) b = true → evG Gl env y = true) ∧ (slotTest (gSlot all env j) b = true → opOk P Gl σ env (.binOp o t x y u)) ∧ evOps P Gl n all draw rest (putE env dst (.iff (slotTest (gSlot all env j) b) (opV P Gl σ env (.binOp o t x y u)))) σ KK) := by
 simp [evOps, isCall, gdOk, gdL, Op.operands, quietOp, addOp, and_assoc]
theorem o_unOp (o : UnOp) (t : TypeId) (x : Operand) : evOps P Gl n all draw (⟨dst, .unOp o t x, ty, pos, af, none⟩ :: rest) env σ KK = (dstIn n dst = true ∧ evG Gl env x = true ∧ opOk P Gl σ env (.unOp o t x) ∧ evOps P Gl n all draw rest (putE env dst (opV P Gl σ env (.unOp o t x))) (opS P Gl σ env (.unOp o t x)) KK) := by
 simp [evOps, isCall, gdOk, gdL, Op.operands, and_assoc]
theorem g_unOp (o : UnOp) (t : TypeId) (x : Operand) {j : Nat} {b : Bool} : evOps P Gl n all draw (⟨dst, .unOp o t x, ty, pos, af, some (j, b)⟩ :: rest) env σ KK = (dstIn n dst = true ∧ slotBool (gSlot all env j) = true ∧ (slotTest (gSlot all env j) b = true → evG Gl env x = true) ∧ (slotTest (gSlot all env j) b = true → opOk P Gl σ env (.unOp o t x)) ∧ evOps P Gl n all draw rest (putE env dst (.iff (slotTest (gSlot all env j) b) (opV P Gl σ env (.unOp o t x)))) σ KK) := by
 simp [evOps, isCall, gdOk, gdL, Op.operands, quietOp, addOp, and_assoc]
theorem o_convert (s t : TypeId) (x : Operand) : evOps P Gl n all draw (⟨dst, .convert s t x, ty, pos, af, none⟩ :: rest) env σ KK = (dstIn n dst = true ∧ evG Gl env x = true ∧ opOk P Gl σ env (.convert s t x) ∧ evOps P Gl n all draw rest (putE env dst (opV P Gl σ env (.convert s t x))) (opS P Gl σ env (.convert s t x)) KK) := by
 simp [evOps, isCall, gdOk, gdL, Op.operands, and_assoc]
theorem g_convert (s t : TypeId) (x : Operand) {j : Nat} {b : Bool} : evOps P Gl n all draw (⟨dst, .convert s t x, ty, pos, af, some (j, b)⟩ :: rest) env σ KK = (dstIn n dst = true ∧ slotBool (gSlot all env j) = true ∧ (slotTest (gSlot all env j) b = true → evG Gl env x = true) ∧ (slotTest (gSlot all env j) b = true → opOk P Gl σ env (.convert s t x)) ∧ evOps P Gl n all draw rest (putE env dst (.iff (slotTest (gSlot all env j) b) (opV P Gl σ env (.convert s t x)))) σ KK) := by
 simp [evOps, isCall, gdOk, gdL, Op.operands, quietOp, addOp, and_assoc]
theorem o_makeSlice (t : TypeId) (x y : Operand) : evOps P Gl n all draw (⟨dst, .makeSlice t x y, ty, pos, af, none⟩ :: rest) env σ KK = (dstIn n dst = true ∧ evG Gl env x = true ∧ evG Gl env y = true ∧ opOk P Gl σ env (.makeSlice t x y) ∧ evOps P Gl n all draw rest (putE env dst (opV P Gl σ env (.makeSlice t x y))) (opS P Gl σ env (.makeSlice t x y)) KK) := by
 simp [evOps, isCall, gdOk, gdL, Op.operands, and_assoc]
theorem o_slice00 (t : TypeId) (x : Operand) : evOps P Gl n all draw (⟨dst, .slice t x none none none, ty, pos, af, none⟩ :: rest) env σ KK = (dstIn n dst = true ∧ evG Gl env x = true ∧ opOk P Gl σ env (.slice t x none none none) ∧ evOps P Gl n all draw rest (putE env dst (opV P Gl σ env (.slice t x none none none))) (opS P Gl σ env (.slice t x none none none)) KK) := by
 simp [evOps, isCall, gdOk, gdL, Op.operands, and_assoc]
theorem g_slice00 (t : TypeId) (x : Operand) {j : Nat} {b : Bool} : evOps P Gl n all draw (⟨dst, .slice t x none none none, ty, pos, af, some (j, b)⟩ :: rest) env σ KK = (dstIn n dst = true ∧ slotBool (gSlot all env j) = true ∧ (slotTest (gSlot all env j) b = true → evG Gl env x = true) ∧ (slotTest (gSlot all env j) b = true → opOk P Gl σ env (.slice t x none none none)) ∧ evOps P Gl n all draw rest (putE env dst (.iff (slotTest (gSlot all env j) b) (opV P Gl σ env (.slice t x none none none)))) σ KK) := by
 simp [evOps, isCall, gdOk, gdL, Op.operands, quietOp, addOp, and_assoc]
theorem o_slice10 (t : TypeId) (x y : Operand) : evOps P Gl n all draw (⟨dst, .slice t x (some y) none none, ty, pos, af, none⟩ :: rest) env σ KK = (dstIn n dst = true ∧ evG Gl env x = true ∧ evG Gl env y = true ∧ opOk P Gl σ env (.slice t x (some y) none none) ∧ evOps P Gl n all draw rest (putE env dst (opV P Gl σ env (.slice t x (some y) none none))) (opS P Gl σ env (.slice t x (some y) none none)) KK) := by
 simp [evOps, isCall, gdOk, gdL, Op.operands, and_assoc]
theorem g_slice10 (t : TypeId) (x y : Operand) {j : Nat} {b : Bool} : evOps P Gl n all draw (⟨dst, .slice t x (some y) none none, ty, pos, af, some (j, b)⟩ :: rest) env σ KK = (dstIn n dst = true ∧ slotBool (gSlot all env j) = true ∧ (slotTest (gSlot all env j) b = true → evG Gl env x = true) ∧ (slotTest (gSlot all env j) b = true → evG Gl env y = true) ∧ (slotTest (gSlot all env j) b = true → opOk P Gl σ env (.slice t x (some y) none none)) ∧ evOps P Gl n all draw rest (putE env dst (.iff (slotTest (gSlot all env j) b) (opV P Gl σ env (.slice t x (some y) none none)))) σ KK) := by
 simp [evOps, isCall, gdOk, gdL, Op.operands, quietOp, addOp, and_assoc]
theorem o_slice01 (t : TypeId) (x y : Operand) : evOps P Gl n all draw (⟨dst, .slice t x none (some y) none, ty, pos, af, none⟩ :: rest) env σ KK = (dstIn n dst = true ∧ evG Gl env x = true ∧ evG Gl env y = true ∧ opOk P Gl σ env (.slice t x none (some y) none) ∧ evOps P Gl n all draw rest (putE env dst (opV P Gl σ env (.slice t x none (some y) none))) (opS P Gl σ env (.slice t x none (some y) none)) KK) := by
 simp [evOps, isCall, gdOk, gdL, Op.operands, and_assoc]
theorem g_slice01 (t : TypeId) (x y : Operand) {j : Nat} {b : Bool} : evOps P Gl n all draw (⟨dst, .slice t x none (some y) none, ty, pos, af, some (j, b)⟩ :: rest) env σ KK = (dstIn n dst = true ∧ slotBool (gSlot all env j) = true ∧ (slotTest (gSlot all env j) b = true → evG Gl env x = true) ∧ (slotTest (gSlot all env j) b = true → evG Gl env y = true) ∧ (slotTest (gSlot all env j) b = true → opOk P Gl σ env (.slice t x none (some y) none)) ∧ evOps P Gl n all draw rest (putE env dst (.iff (slotTest (gSlot all env j) b) (opV P Gl σ env (.slice t x none (some y) none)))) σ KK) := by
 simp [evOps, isCall, gdOk, gdL, Op.operands, quietOp, addOp, and_assoc]
theorem o_slice11 (t : TypeId) (x y z : Operand) : evOps P Gl n all draw (⟨dst, .slice t x (some y) (some z) none, ty, pos, af, none⟩ :: rest) env σ KK = (dstIn n dst = true ∧ evG Gl env x = true ∧ evG Gl env y = true ∧ evG Gl env z = true ∧ opOk P Gl σ env (.slice t x (some y) (some z) none) ∧ evOps P Gl n all draw rest (putE env dst (opV P Gl σ env (.slice t x (some y) (some z) none))) (opS P Gl σ env (.slice t x (some y) (some z) none)) KK) := by
 simp [evOps, isCall, gdOk, gdL, Op.operands, and_assoc]
theorem g_slice11 (t : TypeId) (x y z : Operand) {j : Nat} {b : Bool} : evOps P Gl n all draw (⟨dst, .slice t x (some y) (some z) none, ty, pos, af, some (j, b)⟩ :: rest) env σ KK = (dstIn n dst = true ∧ slotBool (gSlot all env j) = true ∧ (slotTest (gSlot all env j) b = true → evG Gl env x = true) ∧ (slotTest (gSlot all env j) b = true → evG Gl env y = true) ∧ (slotTest (gSlot all env j) b = true → evG Gl env z = true) ∧ (slotTest (gSlot all env j) b = true → opOk P Gl σ env (.slice t x (some y) (some z) none)) ∧ evOps P Gl n all draw rest (putE env dst (.iff (slotTest (gSlot all env j) b) (opV P Gl σ env (.slice t x (some y) (some z) none)))) σ KK) := by
 simp [evOps, isCall, gdOk, gdL, Op.operands, quietOp, addOp, and_assoc]
theorem o_slice3 (t : TypeId) (x y z : Operand) : evOps P Gl n all draw (⟨dst, .slice t x none (some y) (some z), ty, pos, af, none⟩ :: rest) env σ KK = (dstIn n dst = true ∧ evG Gl env x = true ∧ evG Gl env y = true ∧ evG Gl env z = true ∧ opOk P Gl σ env (.slice t x none (some y) (some z)) ∧ evOps P Gl n all draw rest (putE env dst (opV P Gl σ env (.slice t x none (some y) (some z)))) (opS P Gl σ env (.slice t x none (some y) (some z))) KK) := by
 simp [evOps, isCall, gdOk, gdL, Op.operands, and_assoc]
theorem o_fieldAddr (s : TypeId) (x : Operand) (f : Nat) : evOps P Gl n all draw (⟨dst, .fieldAddr s x f, ty, pos, af, none⟩ :: rest) env σ KK = (dstIn n dst = true ∧ evG Gl env x = true ∧ opOk P Gl σ env (.fieldAddr s x f) ∧ evOps P Gl n all draw rest (putE env dst (opV P Gl σ env (.fieldAddr s x f))) (opS P Gl σ env (.fieldAddr s x f)) KK) := by
 simp [evOps, isCall, gdOk, gdL, Op.operands, and_assoc]
theorem g_fieldAddr (s : TypeId) (x : Operand) (f : Nat) {j : Nat} {b : Bool} : evOps P Gl n all draw (⟨dst, .fieldAddr s x f, ty, pos, af, some (j, b)⟩ :: rest) env σ KK = (dstIn n dst = true ∧ slotBool (gSlot all env j) = true ∧ (slotTest (gSlot all env j) b = true → evG Gl env x = true) ∧ (slotTest (gSlot all env j) b = true → opOk P Gl σ env (.fieldAddr s x f)) ∧ evOps P Gl n all draw rest (putE env dst (.iff (slotTest (gSlot all env j) b) (opV P Gl σ env (.fieldAddr s x f)))) σ KK) := by
 simp [evOps, isCall, gdOk, gdL, Op.operands, quietOp, addOp, and_assoc]
theorem o_field (s : TypeId) (x : Operand) (f : Nat) : evOps P Gl n all draw (⟨dst, .field s x f, ty, pos, af, none⟩ :: rest) env σ KK = (dstIn n dst = true ∧ evG Gl env x = true ∧ opOk P Gl σ env (.field s x f) ∧ evOps P Gl n all draw rest (putE env dst (opV P Gl σ env (.field s x f))) (opS P Gl σ env (.field s x f)) KK) := by
 simp [evOps, isCall, gdOk, gdL, Op.operands, and_assoc]
theorem g_field (s : TypeId) (x : Operand) (f : Nat) {j : Nat} {b : Bool} : evOps P Gl n all draw (⟨dst, .field s x f, ty, pos, af, some (j, b)⟩ :: rest) env σ KK = (dstIn n dst = true ∧ slotBool (gSlot all env j) = true ∧ (slotTest (gSlot all env j) b = true → evG Gl env x = true) ∧ (slotTest (gSlot all env j) b = true → opOk P Gl σ env (.field s x f)) ∧ evOps P Gl n all draw rest (putE env dst (.iff (slotTest (gSlot all env j) b) (opV P Gl σ env (.field s x f)))) σ KK) := by
 simp [evOps, isCall, gdOk, gdL, Op.operands, quietOp, addOp, and_assoc]
theorem o_indexAddr (t : TypeId) (x y : Operand) : evOps P Gl n all draw (⟨dst, .indexAddr t x y, ty, pos, af, none⟩ :: rest) env σ KK = (dstIn n dst = true ∧ evG Gl env x = true ∧ evG Gl env y = true ∧ opOk P Gl σ env (.indexAddr t x y) ∧ evOps P Gl n all draw rest (putE env dst (opV P Gl σ env (.indexAddr t x y))) (opS P Gl σ env (.indexAddr t x y)) KK) := by
 simp [evOps, isCall, gdOk, gdL, Op.operands, and_assoc]
theorem g_indexAddr (t : TypeId) (x y : Operand) {j : Nat} {b : Bool} : evOps P Gl n all draw (⟨dst, .indexAddr t x y, ty, pos, af, some (j, b)⟩ :: rest) env σ KK = (dstIn n dst = true ∧ slotBool (gSlot all env j) = true ∧ (slotTest (gSlot all env j) b = true → evG Gl env x = true) ∧ (slotTest (gSlot all env j) b = true → evG Gl env y = true) ∧ (slotTest (gSlot all env j) b = true → opOk P Gl σ env (.indexAddr t x y)) ∧ evOps P Gl n all draw rest (putE env dst (.iff (slotTest (gSlot all env j) b) (opV P Gl σ env (.indexAddr t x y)))) σ KK) := by
 simp [evOps, isCall, gdOk, gdL, Op.operands, quietOp, addOp, and_assoc]
theorem o_index (t : TypeId) (x y : Operand) : evOps P Gl n all draw (⟨dst, .index t x y, ty, pos, af, none⟩ :: rest) env σ KK = (dstIn n dst = true ∧ evG Gl env x = true ∧ evG Gl env y = true ∧ opOk P Gl σ env (.index t x y) ∧ evOps P Gl n all draw rest (putE env dst (opV P Gl σ env (.index t x y))) (opS P Gl σ env (.index t x y)) KK) := by
 simp [evOps, isCall, gdOk, gdL, Op.operands, and_assoc]
theorem g_index (t : TypeId) (x y : Operand) {j : Nat} {b : Bool} : evOps P Gl n all draw (⟨dst, .index t x y, ty, pos, af, some (j, b)⟩ :: rest) env σ KK = (dstIn n dst = true ∧ slotBool (gSlot all env j) = true ∧ (slotTest (gSlot all env j) b = true → evG Gl env x = true) ∧ (slotTest (gSlot all env j) b = true → evG Gl env y = true) ∧ (slotTest (gSlot all env j) b = true → opOk P Gl σ env (.index t x y)) ∧ evOps P Gl n all draw rest (putE env dst (.iff (slotTest (gSlot all env j) b) (opV P Gl σ env (.index t x y)))) σ KK) := by
 simp [evOps, isCall, gdOk, gdL, Op.operands, quietOp, addOp, and_assoc]
theorem o_extract (x : Operand) (i : Nat) : evOps P Gl n all draw (⟨dst, .extract x i, ty, pos, af, none⟩ :: rest) env σ KK = (dstIn n dst = true ∧ evG Gl env x = true ∧ opOk P Gl σ env (.extract x i) ∧ evOps P Gl n all draw rest (putE env dst (opV P Gl σ env (.extract x i))) (opS P Gl σ env (.extract x i)) KK) := by
 simp [evOps, isCall, gdOk, gdL, Op.operands, and_assoc]
theorem g_extract (x : Operand) (i : Nat) {j : Nat} {b : Bool} : evOps P Gl n all draw (⟨dst, .extract x i, ty, pos, af, some (j, b)⟩ :: rest) env σ KK = (dstIn n dst = true ∧ slotBool (gSlot all env j) = true ∧ (slotTest (gSlot all env j) b = true → evG Gl env x = true) ∧ (slotTest (gSlot all env j) b = true → opOk P Gl σ env (.extract x i)) ∧ evOps P Gl n all draw rest (putE env dst (.iff (slotTest (gSlot all env j) b) (opV P Gl σ env (.extract x i)))) σ KK) := by
 simp [evOps, isCall, gdOk, gdL, Op.operands, quietOp, addOp, and_assoc]
theorem o_lookup (t : TypeId) (x y : Operand) (k : Bool) : evOps P Gl n all draw (⟨dst, .lookup t x y k, ty, pos, af, none⟩ :: rest) env σ KK = (dstIn n dst = true ∧ evG Gl env x = true ∧ evG Gl env y = true ∧ opOk P Gl σ env (.lookup t x y k) ∧ evOps P Gl n all draw rest (putE env dst (opV P Gl σ env (.lookup t x y k))) (opS P Gl σ env (.lookup t x y k)) KK) := by
 simp [evOps, isCall, gdOk, gdL, Op.operands, and_assoc]
theorem g_lookup (t : TypeId) (x y : Operand) (k : Bool) {j : Nat} {b : Bool} : evOps P Gl n all draw (⟨dst, .lookup t x y k, ty, pos, af, some (j, b)⟩ :: rest) env σ KK = (dstIn n dst = true ∧ slotBool (gSlot all env j) = true ∧ (slotTest (gSlot all env j) b = true → evG Gl env x = true) ∧ (slotTest (gSlot all env j) b = true → evG Gl env y = true) ∧ (slotTest (gSlot all env j) b = true → opOk P Gl σ env (.lookup t x y k)) ∧ evOps P Gl n all draw rest (putE env dst (.iff (slotTest (gSlot all env j) b) (opV P Gl σ env (.lookup t x y k)))) σ KK) := by
 simp [evOps, isCall, gdOk, gdL, Op.operands, quietOp, addOp, and_assoc]
theorem o_mapUpdate (t : TypeId) (x y z : Operand) : evOps P Gl n all draw (⟨dst, .mapUpdate t x y z, ty, pos, af, none⟩ :: rest) env σ KK = (dstIn n dst = true ∧ evG Gl env x = true ∧ evG Gl env y = true ∧ evG Gl env z = true ∧ opOk P Gl σ env (.mapUpdate t x y z) ∧ evOps P Gl n all draw rest (putE env dst (opV P Gl σ env (.mapUpdate t x y z))) (opS P Gl σ env (.mapUpdate t x y z)) KK) := by
 simp [evOps, isCall, gdOk, gdL, Op.operands, and_assoc]
theorem o_insert (t : TypeId) (x y z : Operand) : evOps P Gl n all draw (⟨dst, .insert t x y z, ty, pos, af, none⟩ :: rest) env σ KK = (dstIn n dst = true ∧ evG Gl env x = true ∧ evG Gl env y = true ∧ evG Gl env z = true ∧ opOk P Gl σ env (.insert t x y z) ∧ evOps P Gl n all draw rest (putE env dst (opV P Gl σ env (.insert t x y z))) (opS P Gl σ env (.insert t x y z)) KK) := by
 simp [evOps, isCall, gdOk, gdL, Op.operands, and_assoc]
theorem o_makeMap (t : TypeId) : evOps P Gl n all draw (⟨dst, .makeMap t none, ty, pos, af, none⟩ :: rest) env σ KK = (dstIn n dst = true ∧ opOk P Gl σ env (.makeMap t none) ∧ evOps P Gl n all draw rest (putE env dst (opV P Gl σ env (.makeMap t none))) (opS P Gl σ env (.makeMap t none)) KK) := by
 simp [evOps, isCall, gdOk, gdL, Op.operands, and_assoc]
theorem o_pick (c x y : Operand) : evOps P Gl n all draw (⟨dst, .pick c x y, ty, pos, af, none⟩ :: rest) env σ KK = (dstIn n dst = true ∧ evG Gl env c = true ∧ ((evU Gl env c).truth = true → evG Gl env x = true) ∧ ((evU Gl env c).truth = false → evG Gl env y = true) ∧ (evU Gl env c).isBoolv = true ∧
  evOps P Gl n all draw rest (putE env dst (pickV (evU Gl env c).truth (evU Gl env x) (evU Gl env y))) σ KK) := by
 simp [evOps, isCall, gdOk, opOk, opV, opS, and_assoc]
theorem g_pick (c x y : Operand) {j : Nat} {b : Bool} : evOps P Gl n all draw (⟨dst, .pick c x y, ty, pos, af, some (j, b)⟩ :: rest) env σ KK = (dstIn n dst = true ∧ slotBool (gSlot all env j) = true ∧ (slotTest (gSlot all env j) b = true → evG Gl env c = true) ∧
  (slotTest (gSlot all env j) b = true → (evU Gl env c).truth = true → evG Gl env x = true) ∧ (slotTest (gSlot all env j) b = true → (evU Gl env c).truth = false → evG Gl env y = true) ∧ (slotTest (gSlot all env j) b = true → (evU Gl env c).isBoolv = true) ∧
  evOps P Gl n all draw rest (putE env dst (.iff (slotTest (gSlot all env j) b) (pickV (evU Gl env c).truth (evU Gl env x) (evU Gl env y)))) σ KK) := by
 simp [evOps, isCall, gdOk, opOk, opV, quietOp, addOp, and_assoc]
theorem o_build (t : TypeId) (l : List (Nat × Operand)) : evOps P Gl n all draw (⟨dst, .build t l.toArray, ty, pos, af, none⟩ :: rest) env σ KK = (dstIn n dst = true ∧ gdL Gl env true (l.map (·.2)) ∧ opOk P Gl σ env (.build t l.toArray) ∧
  evOps P Gl n all draw rest (putE env dst (opV P Gl σ env (.build t l.toArray))) σ KK) := by
 simp [evOps, isCall, gdOk, Op.operands, opS]
theorem g_build (t : TypeId) (l : List (Nat × Operand)) {j : Nat} {b : Bool} : evOps P Gl n all draw (⟨dst, .build t l.toArray, ty, pos, af, some (j, b)⟩ :: rest) env σ KK = (dstIn n dst = true ∧ slotBool (gSlot all env j) = true ∧ gdL Gl env (slotTest (gSlot all env j) b) (l.map (·.2)) ∧ (slotTest (gSlot all env j) b = true → opOk P Gl σ env (.build t l.toArray)) ∧
  evOps P Gl n all draw rest (putE env dst (.iff (slotTest (gSlot all env j) b) (opV P Gl σ env (.build t l.toArray)))) σ KK) := by
 simp [evOps, isCall, gdOk, Op.operands, quietOp, addOp]
theorem o_buildSlice (t : TypeId) (k : Nat) (l : List (Nat × Operand)) : evOps P Gl n all draw (⟨dst, .buildSlice t k l.toArray, ty, pos, af, none⟩ :: rest) env σ KK = (dstIn n dst = true ∧ gdL Gl env true (l.map (·.2)) ∧ opOk P Gl σ env (.buildSlice t k l.toArray) ∧
  evOps P Gl n all draw rest (putE env dst (opV P Gl σ env (.buildSlice t k l.toArray))) (opS P Gl σ env (.buildSlice t k l.toArray)) KK) := by
 simp [evOps, isCall, gdOk, Op.operands]
theorem g_buildSlice (t : TypeId) (k : Nat) (l : List (Nat × Operand)) {j : Nat} {b : Bool} : evOps P Gl n all draw (⟨dst, .buildSlice t k l.toArray, ty, pos, af, some (j, b)⟩ :: rest) env σ KK = (dstIn n dst = true ∧ slotBool (gSlot all env j) = true ∧ slotTest (gSlot all env j) b = true ∧ gdL Gl env true (l.map (·.2)) ∧ opOk P Gl σ env (.buildSlice t k l.toArray) ∧
  evOps P Gl n all draw rest (putE env dst (.iff true (opV P Gl σ env (.buildSlice t k l.toArray)))) (opS P Gl σ env (.buildSlice t k l.toArray)) KK) := by
 simp [evOps, isCall, gdOk, Op.operands, addOp]
theorem o_makeFunc (f : FuncId) (l : List Operand) : evOps P Gl n all draw (⟨dst, .makeFunc (.func f) #[] l.toArray, ty, pos, af, none⟩ :: rest) env σ KK = (dstIn n dst = true ∧ gdL Gl env true l ∧
  evOps P Gl n all draw rest (putE env dst (.fn f (l.map (evU Gl env)))) σ KK) := by
 simp [evOps, isCall, gdOk, Op.operands, opOk, opV, opS]
theorem o_builtin (bi : Builtin) (l : List Operand) (ts : List TypeId) : evOps P Gl n all draw (⟨dst, .call ⟨.builtin bi, l.toArray, ts.toArray⟩, ty, pos, af, none⟩ :: rest) env σ KK = (dstIn n dst = true ∧ gdL Gl env true l ∧ biOk P Gl σ env bi l ts ∧
  evOps P Gl n all draw rest (putE env dst (biV Gl σ env bi l)) (biS P Gl σ env bi l ts) KK) := by
 simp [evOps, isCall, gdOk, Op.operands, Call.operands, opOk, opV, opS]
theorem g_builtin (bi : Builtin) (l : List Operand) (ts : List TypeId) {j : Nat} {b : Bool} : evOps P Gl n all draw (⟨dst, .call ⟨.builtin bi, l.toArray, ts.toArray⟩, ty, pos, af, some (j, b)⟩ :: rest) env σ KK = (dstIn n dst = true ∧ quietOp (.call ⟨.builtin bi, l.toArray, ts.toArray⟩) = true ∧ slotBool (gSlot all env j) = true ∧
  gdL Gl env (slotTest (gSlot all env j) b) l ∧ (slotTest (gSlot all env j) b = true → biOk P Gl σ env bi l ts) ∧ evOps P Gl n all draw rest (putE env dst (.iff (slotTest (gSlot all env j) b) (biV Gl σ env bi l))) σ KK) := by
 simp [evOps, isCall, gdOk, Op.operands, Call.operands, opOk, opV, addOp]
theorem o_call (f : Operand) (l : List Operand) (ts : List TypeId) : evOps P Gl n all draw (⟨dst, .call ⟨.value f, l.toArray, ts.toArray⟩, ty, pos, af, none⟩ :: rest) env σ KK = (dstIn n dst = true ∧ evG Gl env f = true ∧ gdL Gl env true l ∧
  callF P Gl n all draw dst rest (evU Gl env f) (l.map (evU Gl env)) env σ KK) := by
 have hl : (#[f] ++ l.toArray).toList = f :: l := by simp
 simp only [evOps, isCall, gdOk, Op.operands, Call.operands, evCallOp, callF, hl, gdL]
 have hno : (∀ s, Ext σ s → False) = False := eq_false fun h => h σ (Ext.refl σ)
 cases evU Gl env f <;> cases draw <;> simp [and_assoc, hno]
theorem g_call (f : Operand) (l : List Operand) (ts : List TypeId) {j : Nat} {b : Bool} : evOps P Gl n all draw (⟨dst, .call ⟨.value f, l.toArray, ts.toArray⟩, ty, pos, af, some (j, b)⟩ :: rest) env σ KK = (dstIn n dst = true ∧ slotBool (gSlot all env j) = true ∧ (slotTest (gSlot all env j) b = true → evG Gl env f = true) ∧ gdL Gl env (slotTest (gSlot all env j) b) l ∧
  callG P Gl n all draw dst rest (slotTest (gSlot all env j) b) (evU Gl env f) (l.map (evU Gl env)) env σ KK) := by
 have hl : (#[f] ++ l.toArray).toList = f :: l := by simp
 simp only [evOps, isCall, gdOk, Op.operands, Call.operands, evCallOp, callG, quietOp, addOp, Bool.false_eq_true, if_false, hl, gdL]
 have hno : (∀ s, Ext σ s → False) = False := eq_false fun h => h σ (Ext.refl σ)
 cases evU Gl env f <;> simp [and_assoc, hno]
end
end
theorem vcRules : type_of% (And.intro @g_buildSlice (And.intro @evC_scope (And.intro @evC_label (And.intro @seqK_app (And.intro @ifC_true (And.intro @ifC_false (And.intro @evC_skip (And.intro @evC_region0 (And.intro @evC_region1 (And.intro @evC_seq (And.intro @evC_cond (And.intro @condK_bool (And.intro @condK_any (And.intro @evC_block (And.intro @evC_exit (And.intro @evC_ret (And.intro @thenK_normal (And.intro @thenK_exit (And.intro @thenK_ret (And.intro @blockK_exit (And.intro @blockK_normal (And.intro @blockK_ret (And.intro @evOps_nil (And.intro @o_move (And.intro @g_move (And.intro @o_assign (And.intro @g_assign (And.intro @o_alloc (And.intro @o_box (And.intro @o_load (And.intro @g_load (And.intro @o_store (And.intro @o_nilCheck (And.intro @g_nilCheck (And.intro @o_binOp (And.intro @g_binOp (And.intro @o_unOp (And.intro @g_unOp (And.intro @o_convert (And.intro @g_convert (And.intro @o_makeSlice (And.intro @o_slice00 (And.intro @g_slice00 (And.intro @o_slice10 (And.intro @g_slice10 (And.intro @o_slice01 (And.intro (And.intro @o_slice3 @g_slice01) (And.intro @o_slice11 (And.intro @g_slice11 (And.intro @o_fieldAddr (And.intro @g_fieldAddr (And.intro @o_field (And.intro @g_field (And.intro @o_indexAddr (And.intro @g_indexAddr (And.intro @o_index (And.intro @g_index (And.intro @o_extract (And.intro @g_extract (And.intro @o_lookup (And.intro @g_lookup (And.intro @o_mapUpdate (And.intro @o_insert (And.intro @o_makeMap (And.intro @o_pick (And.intro @g_pick (And.intro @o_build (And.intro @g_build (And.intro @o_buildSlice (And.intro @o_makeFunc (And.intro @o_builtin (And.intro @g_builtin (And.intro @o_call (@g_call)))))))))))))))))))))))))))))))))))))))))))))))))))))))))))))))))))))))))) := And.intro @g_buildSlice (And.intro @evC_scope (And.intro @evC_label (And.intro @seqK_app (And.intro @ifC_true (And.intro @ifC_false (And.intro @evC_skip (And.intro @evC_region0 (And.intro @evC_region1 (And.intro @evC_seq (And.intro @evC_cond (And.intro @condK_bool (And.intro @condK_any (And.intro @evC_block (And.intro @evC_exit (And.intro @evC_ret (And.intro @thenK_normal (And.intro @thenK_exit (And.intro @thenK_ret (And.intro @blockK_exit (And.intro @blockK_normal (And.intro @blockK_ret (And.intro @evOps_nil (And.intro @o_move (And.intro @g_move (And.intro @o_assign (And.intro @g_assign (And.intro @o_alloc (And.intro @o_box (And.intro @o_load (And.intro @g_load (And.intro @o_store (And.intro @o_nilCheck (And.intro @g_nilCheck (And.intro @o_binOp (And.intro @g_binOp (And.intro @o_unOp (And.intro @g_unOp (And.intro @o_convert (And.intro @g_convert (And.intro @o_makeSlice (And.intro @o_slice00 (And.intro @g_slice00 (And.intro @o_slice10 (And.intro @g_slice10 (And.intro @o_slice01 (And.intro (And.intro @o_slice3 @g_slice01) (And.intro @o_slice11 (And.intro @g_slice11 (And.intro @o_fieldAddr (And.intro @g_fieldAddr (And.intro @o_field (And.intro @g_field (And.intro @o_indexAddr (And.intro @g_indexAddr (And.intro @o_index (And.intro @g_index (And.intro @o_extract (And.intro @g_extract (And.intro @o_lookup (And.intro @g_lookup (And.intro @o_mapUpdate (And.intro @o_insert (And.intro @o_makeMap (And.intro @o_pick (And.intro @g_pick (And.intro @o_build (And.intro @g_build (And.intro @o_buildSlice (And.intro @o_makeFunc (And.intro @o_builtin (And.intro @g_builtin (And.intro @o_call (@g_call)))))))))))))))))))))))))))))))))))))))))))))))))))))))))))))))))))))))))
end Go.AM


set_option linter.unusedSimpArgs false
namespace Go.AM
section
variable {P : Program} {Gl : Globs} {env : Env} {σ : Sto} {n : Nat}
theorem r_getE_cons (s t : Nat) (v : AV) (r : Env) : getE ((s, v) :: r) t = if s = t then v else getE r t := rfl
theorem r_getE_nil (t : Nat) : getE [] t = .undef := rfl
theorem r_putE_some (d : Nat) (v : AV) : putE env (some d) v = (d, v) :: env := rfl
theorem r_putE_none (v : AV) : putE env none v = env := rfl
theorem r_dst_some (d : Nat) : (dstIn n (some d) = true) = (d < n) := by simp [dstIn]
theorem r_dst_none : (dstIn n none = true) = True := by simp [dstIn]
theorem const1_vg (v : Value) : (const1 v).vg = true ∧ (const1 v).un = const1 v := by unfold const1; split <;> exact ⟨rfl, rfl⟩
theorem mkAgg_vg (l : List AV) : (mkAgg l).vg = true ∧ (mkAgg l).un = mkAgg l := by unfold mkAgg; split <;> exact ⟨rfl, rfl⟩
theorem constV_vg (v : Value) : (constV v).vg = true ∧ (constV v).un = constV v := by
 unfold constV; split
 ·split
  ·exact mkAgg_vg _
  ·exact ⟨rfl, rfl⟩
 ·exact const1_vg _
theorem r_evG_tmp (t : Nat) : evG Gl env (.tmp t) = (getE env t).vg := rfl
theorem r_evG_const (v : Value) : evG Gl env (.const v) = true := (constV_vg v).1
theorem r_evG_func (f : FuncId) : evG Gl env (.func f) = true := rfl
theorem globV_vg (g : Nat) : (globV Gl g).vg = true ∧ (globV Gl g).un = globV Gl g := by unfold globV; split <;> exact ⟨rfl, rfl⟩
theorem r_evG_global (g : Nat) : evG Gl env (.global g) = true := (globV_vg g).1
theorem r_evU_tmp (t : Nat) : evU Gl env (.tmp t) = (getE env t).un := rfl
theorem r_evU_const (v : Value) : evU Gl env (.const v) = constV v := (constV_vg v).2
theorem r_evU_func (f : FuncId) : evU Gl env (.func f) = .fn f [] := rfl
theorem r_evU_global (g : Nat) : evU Gl env (.global g) = globV Gl g := (globV_vg g).2
theorem r_un_d (x : D) : (AV.d x).un = .d x := rfl
theorem r_un_nils : AV.nils.un = .nils := rfl
theorem r_un_agg (l : List AV) : (AV.agg l).un = .agg l := rfl
theorem r_un_ptr (i o : Nat) : (AV.ptr i o).un = .ptr i o := rfl
theorem r_un_eptr (e : Nat) (xs : List D) (i o : Nat) : (AV.eptr e xs i o).un = .eptr e xs i o := rfl
theorem r_un_aptr (j i o : Nat) : (AV.aptr j i o).un = .aptr j i o := rfl
theorem r_un_osl (j i o : Nat) : (AV.osl j i o).un = .osl j i o := rfl
theorem r_un_fn (f : FuncId) (c : List AV) : (AV.fn f c).un = .fn f c := rfl
theorem r_un_tup (l : List AV) : (AV.tup l).un = .tup l := rfl
theorem r_un_iff (g : Bool) (v : AV) : (AV.iff g v).un = v := rfl
theorem r_vg_d (x : D) : (AV.d x).vg = true := rfl
theorem r_vg_nils : AV.nils.vg = true := rfl
theorem r_vg_agg (l : List AV) : (AV.agg l).vg = true := rfl
theorem r_vg_ptr (i o : Nat) : (AV.ptr i o).vg = true := rfl
theorem r_vg_eptr (e : Nat) (xs : List D) (i o : Nat) : (AV.eptr e xs i o).vg = true := rfl
theorem r_vg_aptr (j i o : Nat) : (AV.aptr j i o).vg = true := rfl
theorem r_vg_osl (j i o : Nat) : (AV.osl j i o).vg = true := rfl
theorem r_vg_fn (f : FuncId) (c : List AV) : (AV.fn f c).vg = true := rfl
theorem r_vg_tup (l : List AV) : (AV.tup l).vg = true := rfl
theorem r_vg_iff (g : Bool) (v : AV) : (AV.iff g v).vg = g := rfl
theorem r_constV_int (k : IntKind) (i : Int) : constV (.int k i) = .d (.int k i) := rfl
theorem r_constV_bool (b : Bool) : constV (.bool b) = .d (.bool b) := rfl
theorem r_constV_str (s : ByteArray) : constV (.string s) = .d (.str s.data.toList) := rfl
theorem r_constV_nils : constV (.slice none 0 0) = .nils := rfl
theorem r_gdL_nil (g : Bool) : gdL Gl env g [] = True := rfl
theorem r_gdL_cons (g : Bool) (x : Operand) (r : List Operand) : gdL Gl env g (x :: r) = ((g = true → evG Gl env x = true) ∧ gdL Gl env g r) := rfl
theorem r_truth (b : Bool) : (AV.d (.bool b)).truth = b := rfl
theorem r_isBoolv (b : Bool) : (AV.d (.bool b)).isBoolv = true := rfl
theorem r_isIntv (k : IntKind) (i : Int) : (AV.d (.int k i)).isIntv = true := rfl
theorem r_num (k : IntKind) (i : Int) : (AV.d (.int k i)).num = i := rfl
theorem r_slotBool_d (b : Bool) : slotBool (.d (.bool b)) = true := rfl
theorem r_slotBool_iff (g b : Bool) : slotBool (.iff g (.d (.bool b))) = true := rfl
theorem r_slotTest_d (x b : Bool) : slotTest (.d (.bool x)) b = (x == b) := rfl
theorem r_slotTest_iff (g x b : Bool) : slotTest (.iff g (.d (.bool x))) b = (g && (x == b)) := rfl
theorem r_gSlot {dst : Option Tmp} {op : Op} {ty : TypeId} {pos : String} {af : Array Edge} {g : Option (Nat × Bool)} (l : List Oper) : gSlot ((⟨dst, op, ty, pos, af, g⟩ :: l).toArray) env 0 = (match dst with | some d => getE env d | none => .undef) := by
 cases dst <;> simp [gSlot]
theorem r_gSlot_succ (o : Oper) (l : List Oper) (j : Nat) : gSlot ((o :: l).toArray) env (j + 1) = gSlot l.toArray env j := by simp [gSlot]
theorem r_pickV_bool (c p q : Bool) : pickV c (.d (.bool p)) (.d (.bool q)) = .d (.bool (bif c then p else q)) := rfl
theorem r_pickV_int (c : Bool) (k k' : IntKind) (p q : Int) : pickV c (.d (.int k p)) (.d (.int k' q)) = .d (bif c then .int k p else .int k' q) := rfl
theorem r_blk0 (B : Blk) (σ : Sto) : blkAt (B :: σ) 0 = B := rfl
theorem r_blkS (B : Blk) (σ : Sto) (i : Nat) : blkAt (B :: σ) (i + 1) = blkAt σ i := by simp [blkAt]
theorem r_boxN (k : Nat) (v : AV) : (Blk.box k v).boxN = k := rfl
theorem r_boxV (k : Nat) (v : AV) : (Blk.box k v).boxV = v := rfl
theorem r_isBox (k : Nat) (v : AV) : (Blk.box k v).isBox = true := rfl
theorem r_isOwnArr (es : Nat) (xs : List D) : (Blk.arr es xs).isOwnArr = true := rfl
theorem r_isArr (es : Nat) (xs : List D) : (Blk.arr es xs).isArr = true := rfl
theorem r_isArr' (es : Nat) (xs : List D) : (Blk.frz es xs).isArr = true := rfl
theorem r_es (es : Nat) (xs : List D) : (Blk.arr es xs).es = es := rfl
theorem r_es' (es : Nat) (xs : List D) : (Blk.frz es xs).es = es := rfl
theorem r_xs (es : Nat) (xs : List D) : (Blk.arr es xs).xs = xs := rfl
theorem r_xs' (es : Nat) (xs : List D) : (Blk.frz es xs).xs = xs := rfl
theorem r_own (es : Nat) (xs : List D) : (Blk.arr es xs).own = true := rfl
theorem r_own' (es : Nat) (xs : List D) : (Blk.frz es xs).own = false := rfl
theorem r_ldOk_ptr (g : Bool) (k id off : Nat) : ldOk σ g k (.ptr id off) = ((blkAt σ id).isBox = true ∧ partOk (blkAt σ id).boxN off k g (blkAt σ id).boxV.isAgg) := rfl
theorem r_ldOk_eptr (g : Bool) (k es : Nat) (xs : List D) (i off : Nat) : ldOk σ g k (.eptr es xs i off) = (i < xs.length ∧ partOk es off k g (xs.getD i default).isAgg) := rfl
theorem r_ldOk_aptr (g : Bool) (k id i off : Nat) : ldOk σ g k (.aptr id i off) = ((blkAt σ id).isArr = true ∧ i < (blkAt σ id).xs.length ∧ partOk (blkAt σ id).es off k g ((blkAt σ id).xs.getD i default).isAgg) := rfl
theorem r_ldV_ptr (g : Bool) (k id off : Nat) : ldV σ g k (.ptr id off) = (blkAt σ id).boxV.partV (blkAt σ id).boxN off k g := rfl
theorem r_ldV_eptr (g : Bool) (k es : Nat) (xs : List D) (i off : Nat) : ldV σ g k (.eptr es xs i off) = .d ((xs.getD i default).partD es off k g) := rfl
theorem r_ldV_aptr (g : Bool) (k id i off : Nat) : ldV σ g k (.aptr id i off) = .d (((blkAt σ id).xs.getD i default).partD (blkAt σ id).es off k g) := rfl
theorem r_partOk (N off k : Nat) (g whole : Bool) : partOk N off k g whole = (off + k ≤ N ∧ (if off = 0 ∧ k = N then whole = g else (whole = true ∧ (g = true ∨ k = 1)))) := rfl
theorem r_partV_d (x : D) (N off k : Nat) (g : Bool) : (AV.d x).partV N off k g = .d (x.partD N off k g) := by
 unfold AV.partV D.partD; split
 ·rfl
 ·split <;> rfl
theorem r_partV (v : AV) (N off k : Nat) (g : Bool) : v.partV N off k g = if off = 0 ∧ k = N then v else if g = true then v.subV off k else v.cellAt off := rfl
theorem r_partD (x : D) (N off k : Nat) (g : Bool) : x.partD N off k g = if off = 0 ∧ k = N then x else if g = true then x.sub off k else x.cell off := rfl
theorem r_subV_d (x : D) (o k : Nat) : (AV.d x).subV o k = .d (x.sub o k) := rfl
theorem r_cellAt_d (x : D) (j : Nat) : (AV.d x).cellAt j = .d (x.cell j) := rfl
theorem r_cellAt_agg (l : List AV) (j : Nat) : (AV.agg l).cellAt j = l.getD j .undef := rfl
theorem r_stOk_ptr (k id off : Nat) (u : AV) : stOk σ k u (.ptr id off) = ((blkAt σ id).isBox = true ∧ off + k ≤ (blkAt σ id).boxN ∧ u.storable = true ∧ u.ncells = k) := rfl
theorem r_stOk_aptr (k id i off : Nat) (u : AV) : stOk σ k u (.aptr id i off) = ((blkAt σ id).isOwnArr = true ∧ i < (blkAt σ id).xs.length ∧ off + k ≤ (blkAt σ id).es ∧ u.isD σ = true ∧ (u.toD σ).cells.length = k ∧ (¬ id ∈ u.refs)) := rfl
theorem r_stS_ptr (k id off : Nat) (u : AV) : stS σ k u (.ptr id off) = σ.set id (.box (blkAt σ id).boxN (putV (blkAt σ id).boxV (blkAt σ id).boxN off k u)) := rfl
theorem r_stS_aptr (k id i off : Nat) (u : AV) : stS σ k u (.aptr id i off) = (freezeL σ u.refs).set id (.arr (blkAt σ id).es ((blkAt σ id).xs.set i (((blkAt σ id).xs.getD i default).putAt (blkAt σ id).es off k (u.toD σ)))) := rfl
theorem r_putV (v : AV) (N off k : Nat) (u : AV) : putV v N off k u = if off = 0 ∧ k = N then u else mkAgg ((List.range N).map fun j => if off ≤ j ∧ j < off + k then u.cellAt (j - off) else v.cellAt j) := rfl
theorem r_isAgg_d (x : D) : (AV.d x).isAgg = x.isAgg := rfl
theorem r_isAgg_agg (l : List AV) : (AV.agg l).isAgg = true := rfl
theorem r_isAgg_osl (i o k : Nat) : (AV.osl i o k).isAgg = false := rfl
theorem r_isAgg_nils : AV.nils.isAgg = false := rfl
theorem r_storable_d (x : D) : (AV.d x).storable = true := rfl
theorem r_storable_agg (l : List AV) : (AV.agg l).storable = true := rfl
theorem r_storable_osl (i o k : Nat) : (AV.osl i o k).storable = true := rfl
theorem r_storable_nils : AV.nils.storable = true := rfl
theorem r_ncells_d (x : D) : (AV.d x).ncells = x.cells.length := rfl
theorem r_ncells_agg (l : List AV) : (AV.agg l).ncells = l.length := rfl
theorem r_ncells_osl (i o k : Nat) : (AV.osl i o k).ncells = 1 := rfl
theorem r_ncells_nils : AV.nils.ncells = 1 := rfl
theorem r_isD_d (x : D) : (AV.d x).isD σ = true := rfl
theorem r_isD_nils : AV.nils.isD σ = true := rfl
theorem r_isD_osl (i o k : Nat) : (AV.osl i o k).isD σ = (blkAt σ i).isArr := rfl
theorem r_isD_agg (l : List AV) : (AV.agg l).isD σ = l.all (isD1 σ) := rfl
theorem r_toD_d (x : D) : (AV.d x).toD σ = x := rfl
theorem r_toD_nils : AV.nils.toD σ = .sl [] := rfl
theorem r_toD_osl (i o k : Nat) : (AV.osl i o k).toD σ = .sl (((blkAt σ i).xs.drop o).take k) := rfl
theorem r_toD_agg (l : List AV) : (AV.agg l).toD σ = .agg (l.map (toD1 σ)) := rfl
theorem r_refs_d (x : D) : (AV.d x).refs = [] := rfl
theorem r_refs_nils : AV.nils.refs = [] := rfl
theorem r_refs_osl (i o k : Nat) : (AV.osl i o k).refs = [i] := rfl
theorem r_refs_agg (l : List AV) : (AV.agg l).refs = l.flatMap ref1 := rfl
theorem r_freezeL_nil : freezeL σ [] = σ := rfl
theorem r_freezeL_cons (i : Nat) (l : List Nat) : freezeL σ (i :: l) = freezeL (freeze σ i) l := rfl
theorem r_freeze0 (B : Blk) : freeze (B :: σ) 0 = B.frozen :: σ := rfl
theorem r_freezeS (B : Blk) (i : Nat) : freeze (B :: σ) (i + 1) = B :: freeze σ i := by simp [freeze, r_blkS]
theorem r_frozen (es : Nat) (xs : List D) : (Blk.arr es xs).frozen = .frz es xs := rfl
theorem r_isPtr_ptr (i o : Nat) : (AV.ptr i o).isPtr = true := rfl
theorem r_isPtr_eptr (e : Nat) (xs : List D) (i o : Nat) : (AV.eptr e xs i o).isPtr = true := rfl
theorem r_isPtr_aptr (j i o : Nat) : (AV.aptr j i o).isPtr = true := rfl
theorem r_shift_ptr (i o k : Nat) : (AV.ptr i o).shift k = .ptr i (o + k) := rfl
theorem r_shift_eptr (e : Nat) (xs : List D) (i o k : Nat) : (AV.eptr e xs i o).shift k = .eptr e xs i (o + k) := rfl
theorem r_shift_aptr (j i o k : Nat) : (AV.aptr j i o).shift k = .aptr j i (o + k) := rfl
theorem r_notNil_ptr (i o : Nat) : (AV.ptr i o).notNil = true := rfl
theorem r_notNil_eptr (e : Nat) (xs : List D) (i o : Nat) : (AV.eptr e xs i o).notNil = true := rfl
theorem r_notNil_aptr (j i o : Nat) : (AV.aptr j i o).notNil = true := rfl
theorem r_notNil_fn (f : FuncId) (c : List AV) : (AV.fn f c).notNil = true := rfl
theorem r_cells_agg (l : List D) : (D.agg l).cells = l := rfl
theorem r_DisAgg_agg (l : List D) : (D.agg l).isAgg = true := rfl
theorem r_DisAgg_int (k : IntKind) (i : Int) : (D.int k i).isAgg = false := rfl
theorem r_DisAgg_bool (b : Bool) : (D.bool b).isAgg = false := rfl
theorem r_DisAgg_str (s : List UInt8) : (D.str s).isAgg = false := rfl
theorem r_DisAgg_sl (l : List D) : (D.sl l).isAgg = false := rfl
theorem r_cells_int (k : IntKind) (i : Int) : (D.int k i).cells = [.int k i] := rfl
theorem r_cells_bool (b : Bool) : (D.bool b).cells = [.bool b] := rfl
theorem r_cells_str (s : List UInt8) : (D.str s).cells = [.str s] := rfl
theorem r_cells_sl (l : List D) : (D.sl l).cells = [.sl l] := rfl
theorem r_putAt (x : D) (N off k : Nat) (u : D) : x.putAt N off k u = if off = 0 ∧ k = N then u else .agg ((List.range N).map fun j => if off ≤ j ∧ j < off + k then u.cell (j - off) else x.cell j) := rfl
theorem r_binV_int (o : BinOp) (x : D) (k : IntKind) (i : Int) : binV o (.d x) (.d (.int k i)) = .d (binD o x (.int k i)) := rfl
theorem r_binV_bool (o : BinOp) (x : D) (b : Bool) : binV o (.d x) (.d (.bool b)) = .d (binD o x (.bool b)) := rfl
theorem r_binV_str (o : BinOp) (x : D) (l : List UInt8) : binV o (.d x) (.d (.str l)) = .d (binD o x (.str l)) := rfl
theorem r_binV_agg (o : BinOp) (x : D) (l : List D) : binV o (.d x) (.d (.agg l)) = .d (binD o x (.agg l)) := rfl
theorem r_binV_nils (o : BinOp) (u : AV) : binV o u .nils = nilBin o (isNilV u) := rfl
theorem r_binV_raw (o : BinOp) (u : AV) (v : Value) : binV o u (.d (.raw v)) = nilBin o (isNilV u) := rfl
theorem r_nilBin_eql (a : AV) : nilBin .eql a = a := rfl
theorem r_nilBin_neq (b : Bool) : nilBin .neq (.d (.bool b)) = .d (.bool (!b)) := rfl
theorem r_nilBin_any : nilBin .neq .anyb = .anyb := rfl
theorem r_isNilV_nils : isNilV .nils = .d (.bool true) := rfl
theorem r_isNilV_raw (v : Value) : isNilV (.d (.raw v)) = .d (.bool true) := rfl
theorem r_isNilV_nil : isNilV (.d (.sl [])) = .anyb := rfl
theorem r_isNilV_cons (x : D) (l : List D) : isNilV (.d (.sl (x :: l))) = .d (.bool false) := rfl
theorem r_isNilV_osl (i o k : Nat) : isNilV (.osl i o k) = if k = 0 then .anyb else .d (.bool false) := rfl
theorem r_isNilV_ptr (i o : Nat) : isNilV (.ptr i o) = .d (.bool false) := rfl
theorem r_isNilV_eptr (e : Nat) (xs : List D) (i o : Nat) : isNilV (.eptr e xs i o) = .d (.bool false) := rfl
theorem r_isNilV_aptr (j i o : Nat) : isNilV (.aptr j i o) = .d (.bool false) := rfl
theorem r_isNilV_mapr (i : Nat) : isNilV (.mapr i) = .d (.bool false) := rfl
theorem r_binOk_int (t : TypeId) (o : BinOp) (x : D) (k : IntKind) (i : Int) : binOk P t o (.d x) (.d (.int k i)) = binOkD P t o x (.int k i) := rfl
theorem r_binOk_bool (t : TypeId) (o : BinOp) (x : D) (b : Bool) : binOk P t o (.d x) (.d (.bool b)) = binOkD P t o x (.bool b) := rfl
theorem r_binOk_str (t : TypeId) (o : BinOp) (x : D) (l : List UInt8) : binOk P t o (.d x) (.d (.str l)) = binOkD P t o x (.str l) := rfl
theorem r_binOk_agg (t : TypeId) (o : BinOp) (x : D) (l : List D) : binOk P t o (.d x) (.d (.agg l)) = binOkD P t o x (.agg l) := rfl
theorem r_binOk_nils_nils (t : TypeId) (o : BinOp) : binOk P t o .nils .nils = ((o = .eql ∨ o = .neq) ∧ (telem P t).isSome = true) := rfl
theorem r_binOk_nils_sl (t : TypeId) (o : BinOp) (l : List D) : binOk P t o (.d (.sl l)) .nils = ((o = .eql ∨ o = .neq) ∧ (telem P t).isSome = true) := rfl
theorem r_binOk_nils_osl (t : TypeId) (o : BinOp) (i j k : Nat) : binOk P t o (.osl i j k) .nils = ((o = .eql ∨ o = .neq) ∧ (telem P t).isSome = true) := rfl
theorem r_binOk_ptr_ptr (t : TypeId) (o : BinOp) (i j : Nat) : binOk P t o (.ptr i j) (.d (.raw (.pointer none))) = ((o = .eql ∨ o = .neq) ∧ tptr P t = true) := rfl
theorem r_binOk_ptr_eptr (t : TypeId) (o : BinOp) (e : Nat) (xs : List D) (i j : Nat) : binOk P t o (.eptr e xs i j) (.d (.raw (.pointer none))) = ((o = .eql ∨ o = .neq) ∧ tptr P t = true) := rfl
theorem r_binOk_ptr_aptr (t : TypeId) (o : BinOp) (k i j : Nat) : binOk P t o (.aptr k i j) (.d (.raw (.pointer none))) = ((o = .eql ∨ o = .neq) ∧ tptr P t = true) := rfl
theorem r_binOk_ptr_nil (t : TypeId) (o : BinOp) : binOk P t o (.d (.raw (.pointer none))) (.d (.raw (.pointer none))) = ((o = .eql ∨ o = .neq) ∧ tptr P t = true) := rfl
theorem r_binOk_map_mapr (t : TypeId) (o : BinOp) (i : Nat) : binOk P t o (.mapr i) (.d (.raw (.map none))) = ((o = .eql ∨ o = .neq) ∧ (tmap P t).isSome = true) := rfl
theorem r_binOk_map_nil (t : TypeId) (o : BinOp) : binOk P t o (.d (.raw (.map none))) (.d (.raw (.map none))) = ((o = .eql ∨ o = .neq) ∧ (tmap P t).isSome = true) := rfl
theorem r_un_mapr (i : Nat) : (AV.mapr i).un = .mapr i := rfl
theorem r_un_anyb : AV.anyb.un = .anyb := rfl
theorem r_vg_mapr (i : Nat) : (AV.mapr i).vg = true := rfl
theorem r_vg_anyb : AV.anyb.vg = true := rfl
theorem r_storable_mapr (i : Nat) : (AV.mapr i).storable = true := rfl
theorem r_storable_ptr (i o : Nat) : (AV.ptr i o).storable = true := rfl
theorem r_storable_fn (f : FuncId) (c : List AV) : (AV.fn f c).storable = true := rfl
theorem r_ncells_mapr (i : Nat) : (AV.mapr i).ncells = 1 := rfl
theorem r_ncells_ptr (i o : Nat) : (AV.ptr i o).ncells = 1 := rfl
theorem r_ncells_fn (f : FuncId) (c : List AV) : (AV.fn f c).ncells = 1 := rfl
theorem r_isAgg_mapr (i : Nat) : (AV.mapr i).isAgg = false := rfl
theorem r_isAgg_ptr (i o : Nat) : (AV.ptr i o).isAgg = false := rfl
theorem r_isAgg_fn (f : FuncId) (c : List AV) : (AV.fn f c).isAgg = false := rfl
theorem r_cellAt_mapr (i j : Nat) : (AV.mapr i).cellAt j = .mapr i := rfl
theorem r_cellAt_ptr (i o j : Nat) : (AV.ptr i o).cellAt j = .ptr i o := rfl
theorem r_cellAt_osl (i o k j : Nat) : (AV.osl i o k).cellAt j = .osl i o k := rfl
theorem r_cellAt_nils (j : Nat) : AV.nils.cellAt j = .nils := rfl
theorem r_cellAt_fn (f : FuncId) (c : List AV) (j : Nat) : (AV.fn f c).cellAt j = .fn f c := rfl
theorem r_allD_mapr (i : Nat) (r : List AV) : allD (.mapr i :: r) = none := rfl
theorem r_allD_fn (f : FuncId) (c : List AV) (r : List AV) : allD (.fn f c :: r) = none := rfl
theorem r_isMap (ik : Option IntKind) (f : Key → Option AV) : (Blk.map ik f).isMap = true := rfl
theorem r_mk (ik : Option IntKind) (f : Key → Option AV) : (Blk.map ik f).mk = ik := rfl
theorem r_mf (ik : Option IntKind) (f : Key → Option AV) : (Blk.map ik f).mf = f := rfl
theorem r_keyOf_int (k : IntKind) (i : Int) : keyOf (.d (.int k i)) = .i i := rfl
theorem r_keyOf_str (l : List UInt8) : keyOf (.d (.str l)) = .s l := rfl
theorem r_keyOk_int (ik : Option IntKind) (k : IntKind) (i : Int) : keyOk ik (.d (.int k i)) = (ik = some k) := rfl
theorem r_keyOk_str (ik : Option IntKind) (l : List UInt8) : keyOk ik (.d (.str l)) = (ik = none) := rfl
theorem r_lkOk_mapr (ik : Option IntKind) (i : Nat) : lkOk σ ik (.mapr i) = ((blkAt σ i).isMap = true ∧ (blkAt σ i).mk = ik) := rfl
theorem r_lkOk_nil (ik : Option IntKind) : lkOk σ ik (.d (.raw (.map none))) = True := rfl
theorem r_lkF_mapr (i : Nat) (k : Key) : lkF σ (.mapr i) k = (blkAt σ i).mf k := rfl
theorem r_lkF_nil (v : Value) (k : Key) : lkF σ (.d (.raw v)) k = none := rfl
theorem r_lkV_t (z m k : AV) : lkV σ z m k true = .tup [(lkF σ m (keyOf k)).getD z, .d (.bool (lkF σ m (keyOf k)).isSome)] := rfl
theorem r_lkV_f (z m k : AV) : lkV σ z m k false = (lkF σ m (keyOf k)).getD z := rfl
theorem r_muOk (ik : Option IntKind) (i : Nat) (v : AV) : muOk σ ik (.mapr i) v = ((blkAt σ i).isMap = true ∧ (blkAt σ i).mk = ik ∧ v.storable = true) := rfl
theorem r_muS (i : Nat) (k : Key) (v : AV) : muS σ k v (.mapr i) = σ.set i (.map (blkAt σ i).mk (mset (blkAt σ i).mf k v)) := rfl
theorem r_mdS (i : Nat) (k : Key) : mdS σ k (.mapr i) = σ.set i (.map (blkAt σ i).mk (mdel (blkAt σ i).mf k)) := rfl
theorem r_ok_lookup (t : TypeId) (x y : Operand) (b : Bool) : opOk P Gl σ env (.lookup t x y b) = (match tmap P t with | some (ik, e) => keyOk ik (evU Gl env y) ∧ lkOk σ ik (evU Gl env x) ∧ (tzero P e).isSome = true | none => False) := rfl
theorem r_v_lookup (t : TypeId) (x y : Operand) (b : Bool) : opV P Gl σ env (.lookup t x y b) = (match tmap P t with | some (_, e) => lkV σ (zeroV P e) (evU Gl env x) (evU Gl env y) b | none => .undef) := rfl
theorem r_s_lookup (t : TypeId) (x y : Operand) (b : Bool) : opS P Gl σ env (.lookup t x y b) = σ := rfl
theorem r_ok_mapUpdate (t : TypeId) (x y z : Operand) : opOk P Gl σ env (.mapUpdate t x y z) = (match tmap P t with | some (ik, _) => keyOk ik (evU Gl env y) ∧ muOk σ ik (evU Gl env x) (evU Gl env z) | none => False) := rfl
theorem r_v_mapUpdate (t : TypeId) (x y z : Operand) : opV P Gl σ env (.mapUpdate t x y z) = .undef := rfl
theorem r_s_mapUpdate (t : TypeId) (x y z : Operand) : opS P Gl σ env (.mapUpdate t x y z) = muS σ (keyOf (evU Gl env y)) (evU Gl env z) (evU Gl env x) := rfl
theorem r_ok_insert (t : TypeId) (x y z : Operand) : opOk P Gl σ env (.insert t x y z) = (match tmap P t with | some (ik, _) => keyOk ik (evU Gl env y) ∧ muOk σ ik (evU Gl env x) (evU Gl env z) | none => False) := rfl
theorem r_v_insert (t : TypeId) (x y z : Operand) : opV P Gl σ env (.insert t x y z) = .undef := rfl
theorem r_s_insert (t : TypeId) (x y z : Operand) : opS P Gl σ env (.insert t x y z) = muS σ (keyOf (evU Gl env y)) (evU Gl env z) (evU Gl env x) := rfl
theorem r_ok_makeMap (t : TypeId) (r : Option Operand) : opOk P Gl σ env (.makeMap t r) = (r = none ∧ (tmap P t).isSome = true) := rfl
theorem r_v_makeMap (t : TypeId) (r : Option Operand) : opV P Gl σ env (.makeMap t r) = .mapr σ.length := rfl
theorem r_s_makeMap (t : TypeId) (r : Option Operand) : opS P Gl σ env (.makeMap t r) = (match tmap P t with | some (ik, _) => σ ++ [.map ik fun _ => none] | none => σ) := rfl
theorem r_bi_delete_ok (m k : Operand) (t t2 : TypeId) : biOk P Gl σ env .delete [m, k] [t, t2] = (match tmap P t with | some (ik, _) => keyOk ik (evU Gl env k) ∧ delOk σ ik (evU Gl env m) | none => False) := rfl
theorem r_bi_delete_v (l : List Operand) : biV Gl σ env .delete l = .undef := rfl
theorem r_bi_delete_s (m k : Operand) (ts : List TypeId) : biS P Gl σ env .delete [m, k] ts = mdS σ (keyOf (evU Gl env k)) (evU Gl env m) := rfl
theorem r_delOk (ik : Option IntKind) (i : Nat) : delOk σ ik (.mapr i) = ((blkAt σ i).isMap = true ∧ (blkAt σ i).mk = ik) := rfl
theorem r_bi_clear_ok (x : Operand) (t : TypeId) : biOk P Gl σ env .clear [x] [t] = clOk P σ t (evU Gl env x) := rfl
theorem r_bi_clear_v (l : List Operand) : biV Gl σ env .clear l = .undef := rfl
theorem r_bi_clear_s (x : Operand) (t : TypeId) : biS P Gl σ env .clear [x] [t] = clS P σ t (evU Gl env x) := rfl
theorem r_clOk (t : TypeId) (i o k : Nat) : clOk P σ t (.osl i o k) = ((blkAt σ i).isOwnArr = true ∧ (match telem P t with | some e => (match tzero P e, dataZero P e with | some z, some _ => z.cells.size = (blkAt σ i).es | _, _ => False) | none => False)) := rfl
theorem r_clX (t : TypeId) : clX P t = (match telem P t with | some e => (dataZero P e).getD default | none => default) := rfl
theorem r_clS (t : TypeId) (i o k : Nat) : clS P σ t (.osl i o k) = σ.set i (.arr (blkAt σ i).es (clearL (blkAt σ i).xs o k (clX P t))) := rfl
theorem r_renV_mapr (ρ : List Nat) (i : Nat) : renV ρ σ (.mapr i) = (match idxIn ρ i with | some j => .mapr j | none => .undef) := rfl
theorem r_renV_anyb (ρ : List Nat) : renV ρ σ .anyb = .anyb := rfl
theorem r_renB_map (ρ : List Nat) (ik : Option IntKind) (f : Key → Option AV) : renB ρ σ (.map ik f) = .map ik fun k => (f k).map (renV ρ σ) := rfl
theorem r_getD_some (x y : AV) : (some x).getD y = x := rfl
theorem r_getD_none (y : AV) : (none : Option AV).getD y = y := rfl
theorem r_binD_str (o : BinOp) (a b : List UInt8) : binD o (.str a) (.str b) = strBin o a b := rfl
theorem r_binD_bool_eql (a b : Bool) : binD .eql (.bool a) (.bool b) = .bool (a == b) := rfl
theorem r_binD_bool_neq (a b : Bool) : binD .neq (.bool a) (.bool b) = .bool (!(a == b)) := rfl
theorem r_binD_agg_eql (a b : List D) : binD .eql (.agg a) (.agg b) = .bool (beqL a b) := rfl
theorem r_binD_agg_neq (a b : List D) : binD .neq (.agg a) (.agg b) = .bool (!(beqL a b)) := rfl
theorem r_binOkD_int (t : TypeId) (o : BinOp) (k k' : IntKind) (a b : Int) : binOkD P t o (.int k a) (.int k' b) = intBinOk o k k' b := rfl
theorem r_binOkD_str (t : TypeId) (o : BinOp) (a b : List UInt8) : binOkD P t o (.str a) (.str b) = strBinOk o a b := rfl
theorem r_binOkD_bool_eql (t : TypeId) (a b : Bool) : binOkD P t .eql (.bool a) (.bool b) = (P.underlying t = some .bool) := by simp [binOkD]
theorem r_binOkD_bool_neq (t : TypeId) (a b : Bool) : binOkD P t .neq (.bool a) (.bool b) = (P.underlying t = some .bool) := by simp [binOkD]
theorem r_binOkD_agg_eql (t : TypeId) (a b : List D) : binOkD P t .eql (.agg a) (.agg b) = (match tcmp P t with | some l => cmpL l a b = true | none => False) := by unfold binOkD; cases tcmp P t <;> simp
theorem r_binOkD_agg_neq (t : TypeId) (a b : List D) : binOkD P t .neq (.agg a) (.agg b) = (match tcmp P t with | some l => cmpL l a b = true | none => False) := by unfold binOkD; cases tcmp P t <;> simp
theorem r_unV_not (b : Bool) : unV .not (.d (.bool b)) = .d (.bool (!b)) := rfl
theorem r_unV_neg (k : IntKind) (i : Int) : unV .neg (.d (.int k i)) = .d (.int k (k.wrap (0 - i))) := rfl
theorem r_unOk_not (b : Bool) : unOk .not (.d (.bool b)) = True := rfl
theorem r_unOk_neg (k : IntKind) (i : Int) : unOk .neg (.d (.int k i)) = True := rfl
theorem r_len_sl (xs : List D) : (AV.d (.sl xs)).len = xs.length := rfl
theorem r_len_str (s : List UInt8) : (AV.d (.str s)).len = s.length := rfl
theorem r_len_osl (i o k : Nat) : (AV.osl i o k).len = k := rfl
theorem r_len_nils : AV.nils.len = 0 := rfl
theorem r_hasLen_sl (t : TypeId) (xs : List D) : (AV.d (.sl xs)).hasLen P t = (telem P t).isSome := rfl
theorem r_hasLen_str (t : TypeId) (s : List UInt8) : (AV.d (.str s)).hasLen P t = tstr P t := rfl
theorem r_hasLen_osl (t : TypeId) (i o k : Nat) : (AV.osl i o k).hasLen P t = (telem P t).isSome := rfl
theorem r_hasLen_nils (t : TypeId) : AV.nils.hasLen P t = (telem P t).isSome := rfl
theorem r_elems_sl (xs : List D) : (AV.d (.sl xs)).elems σ = xs := rfl
theorem r_elems_osl (i o k : Nat) : (AV.osl i o k).elems σ = ((blkAt σ i).xs.drop o).take k := rfl
theorem r_elems_nils : AV.nils.elems σ = [] := rfl
theorem r_idxOk_sl (es : Nat) (i : Int) (xs : List D) : idxOk σ es i (.d (.sl xs)) = (0 ≤ i ∧ i < xs.length ∧ (xs.getD i.toNat default).cells.length = es) := rfl
theorem r_idxOk_osl (es : Nat) (i : Int) (id o k : Nat) : idxOk σ es i (.osl id o k) = (0 ≤ i ∧ i < k ∧ (blkAt σ id).isArr = true ∧ (blkAt σ id).es = es) := rfl
theorem r_idxV_sl (es : Nat) (i : Int) (xs : List D) : idxV es i (.d (.sl xs)) = .eptr es xs i.toNat 0 := rfl
theorem r_idxV_osl (es : Nat) (i : Int) (id o k : Nat) : idxV es i (.osl id o k) = .aptr id (o + i.toNat) 0 := rfl
theorem r_cp_ok (d s : Operand) (t t2 : TypeId) : biOk P Gl σ env .copy [d, s] [t, t2] = cpOk P σ t (evU Gl env d) (evU Gl env s) := rfl
theorem r_cp_v (d s : Operand) : biV Gl σ env .copy [d, s] = .d (.int .i64 (cpN σ (evU Gl env d) (evU Gl env s))) := rfl
theorem r_cp_s (d s : Operand) (ts : List TypeId) : biS P Gl σ env .copy [d, s] ts = cpS σ (evU Gl env d) (evU Gl env s) := rfl
theorem r_cpOk (t : TypeId) (i o k : Nat) (s : AV) : cpOk P σ t (.osl i o k) s = ((blkAt σ i).isOwnArr = true ∧ 0 < (blkAt σ i).es ∧ o + k ≤ (blkAt σ i).xs.length ∧ srcOk σ (blkAt σ i).es s ∧ (match telem P t with | some e => tsz P e = some (blkAt σ i).es | none => False)) := rfl
theorem r_cpN (i o k : Nat) (s : AV) : cpN σ (.osl i o k) s = min (s.elems σ).length k := rfl
theorem r_cpS (i o k : Nat) (s : AV) : cpS σ (.osl i o k) s = σ.set i (.arr (blkAt σ i).es (cpX (blkAt σ i).xs o (min (s.elems σ).length k) (s.elems σ))) := rfl
theorem r_biLen_ok (x : Operand) (t : TypeId) : biOk P Gl σ env .len [x] [t] = ((evU Gl env x).hasLen P t = true) := rfl
theorem r_biLen_V (x : Operand) : biV Gl σ env .len [x] = .d (.int .i64 (evU Gl env x).len) := rfl
theorem r_biLen_S (x : Operand) (t : TypeId) : biS P Gl σ env .len [x] [t] = σ := rfl
theorem r_biApp_ok (s x : Operand) (t1 t2 : TypeId) : biOk P Gl σ env .append [s, x] [t1, t2] = apOk P σ t1 t2 (evU Gl env s) (evU Gl env x) := rfl
theorem r_biApp_V (s x : Operand) : biV Gl σ env .append [s, x] = apV σ (evU Gl env s) (evU Gl env x) := rfl
theorem r_biApp_S (s x : Operand) (t1 t2 : TypeId) : biS P Gl σ env .append [s, x] [t1, t2] = apS P σ t1 (evU Gl env s) (evU Gl env x) := rfl
theorem r_biMin_ok (l : List Operand) (ts : List TypeId) : biOk P Gl σ env .min l ts = minmaxOk (l.map (evU Gl env)) := by unfold biOk; rfl
theorem r_biMin_V (l : List Operand) : biV Gl σ env .min l = minV (l.map (evU Gl env)) := by unfold biV; rfl
theorem r_biMin_S (l : List Operand) (ts : List TypeId) : biS P Gl σ env .min l ts = σ := by unfold biS; rfl
theorem r_biMax_ok (l : List Operand) (ts : List TypeId) : biOk P Gl σ env .max l ts = minmaxOk (l.map (evU Gl env)) := by unfold biOk; rfl
theorem r_biMax_V (l : List Operand) : biV Gl σ env .max l = maxV (l.map (evU Gl env)) := by unfold biV; rfl
theorem r_biMax_S (l : List Operand) (ts : List TypeId) : biS P Gl σ env .max l ts = σ := by unfold biS; rfl
theorem r_minmaxOk (x : AV) (r : List AV) : minmaxOk (x :: r) = (x.isIntv = true ∧ ∀ y ∈ r, y.isIntv = true) := rfl
theorem r_minV (k : IntKind) (i : Int) (r : List AV) : minV (.d (.int k i) :: r) = .d (.int k (minL r i)) := rfl
theorem r_maxV (k : IntKind) (i : Int) (r : List AV) : maxV (.d (.int k i) :: r) = .d (.int k (maxL r i)) := rfl
theorem r_minL_nil (a : Int) : minL [] a = a := rfl
theorem r_maxL_nil (a : Int) : maxL [] a = a := rfl
theorem r_minL_cons (x : AV) (r : List AV) (a : Int) : minL (x :: r) a = minL r (min a x.num) := by
 show minL r (if x.num < a then x.num else a) = _
 congr 1; omega
theorem r_maxL_cons (x : AV) (r : List AV) (a : Int) : maxL (x :: r) a = maxL r (max a x.num) := by
 show maxL r (if x.num > a then x.num else a) = _
 congr 1; omega
theorem r_tupAt (l : List AV) (i : Nat) : (AV.tup l).tupAt i = l.getD i .undef := rfl
theorem r_tupLen (l : List AV) : (AV.tup l).tupLen = l.length := rfl
theorem r_ok_move (x : Operand) : opOk P Gl σ env (.move x) = True := rfl
theorem r_v_move (x : Operand) : opV P Gl σ env (.move x) = evU Gl env x := rfl
theorem r_s_move (x : Operand) : opS P Gl σ env (.move x) = σ := rfl
theorem r_ok_assign (x : Operand) : opOk P Gl σ env (.assign x) = True := rfl
theorem r_v_assign (x : Operand) : opV P Gl σ env (.assign x) = evU Gl env x := rfl
theorem r_s_assign (x : Operand) : opS P Gl σ env (.assign x) = σ := rfl
theorem r_v_alloc (t : TypeId) : opV P Gl σ env (.alloc t) = .ptr σ.length 0 := rfl
theorem r_ok_box (t : TypeId) (x : Operand) : opOk P Gl σ env (.box t x) = ((evU Gl env x).storable = true) := rfl
theorem r_v_box (t : TypeId) (x : Operand) : opV P Gl σ env (.box t x) = .ptr σ.length 0 := rfl
theorem r_s_box (t : TypeId) (x : Operand) : opS P Gl σ env (.box t x) = σ ++ [.box (evU Gl env x).ncells (evU Gl env x)] := rfl
theorem r_ok_build (t : TypeId) (parts : Array (Nat × Operand)) : opOk P Gl σ env (.build t parts) = (match tplaces P t, tzeroA P t with | some pl, some zc => fillOk pl zc.length (partsU Gl env parts) | _, _ => False) := rfl
theorem r_v_build (t : TypeId) (parts : Array (Nat × Operand)) : opV P Gl σ env (.build t parts) = (match tplaces P t, tzeroA P t with | some pl, some zc => mkAgg (fillA pl zc (partsU Gl env parts)) | _, _ => .undef) := rfl
theorem r_s_build (t : TypeId) (parts : Array (Nat × Operand)) : opS P Gl σ env (.build t parts) = σ := rfl
theorem r_ok_buildSlice0 (t : TypeId) (parts : Array (Nat × Operand)) : opOk P Gl σ env (.buildSlice t 0 parts) = (parts = #[] ∧ (match telem P t with | some e => (tsz P e).isSome = true | none => False)) := rfl
theorem r_v_buildSlice0 (t : TypeId) (parts : Array (Nat × Operand)) : opV P Gl σ env (.buildSlice t 0 parts) = .osl σ.length 0 0 := rfl
theorem r_s_buildSlice0 (t : TypeId) (parts : Array (Nat × Operand)) : opS P Gl σ env (.buildSlice t 0 parts) = σ ++ [.arr (apEs P t) []] := rfl
theorem r_ok_buildSlice (t : TypeId) (k : Nat) (parts : Array (Nat × Operand)) : opOk P Gl σ env (.buildSlice t (k + 1) parts) = (bslOk P σ t (k + 1) (partsU Gl env parts)) := rfl
theorem r_v_buildSlice (t : TypeId) (k : Nat) (parts : Array (Nat × Operand)) : opV P Gl σ env (.buildSlice t (k + 1) parts) = .osl σ.length 0 (k + 1) := rfl
theorem r_s_buildSlice (t : TypeId) (k : Nat) (parts : Array (Nat × Operand)) : opS P Gl σ env (.buildSlice t (k + 1) parts) = bslS P σ t (k + 1) (partsU Gl env parts) := rfl
theorem r_ok_load (t : TypeId) (x : Operand) : opOk P Gl σ env (.load t x) = (match tkind P t, tsz P t with | some g, some n => ldOk σ g n (evU Gl env x) | _, _ => False) := rfl
theorem r_v_load (t : TypeId) (x : Operand) : opV P Gl σ env (.load t x) = (match tkind P t, tsz P t with | some g, some n => ldV σ g n (evU Gl env x) | _, _ => .undef) := rfl
theorem r_s_load (t : TypeId) (x : Operand) : opS P Gl σ env (.load t x) = σ := rfl
theorem r_ok_store (t : TypeId) (a x : Operand) : opOk P Gl σ env (.store t a x) = (match tsz P t with | some n => stOk σ n (evU Gl env x) (evU Gl env a) | none => False) := rfl
theorem r_v_store (t : TypeId) (a x : Operand) : opV P Gl σ env (.store t a x) = .undef := rfl
theorem r_s_store (t : TypeId) (a x : Operand) : opS P Gl σ env (.store t a x) = (match tsz P t with | some n => stS σ n (evU Gl env x) (evU Gl env a) | none => σ) := rfl
theorem r_ok_nilCheck (x : Operand) : opOk P Gl σ env (.nilCheck x) = ((evU Gl env x).notNil = true) := rfl
theorem r_v_nilCheck (x : Operand) : opV P Gl σ env (.nilCheck x) = evU Gl env x := rfl
theorem r_s_nilCheck (x : Operand) : opS P Gl σ env (.nilCheck x) = σ := rfl
theorem r_ok_binOp (o : BinOp) (t u : TypeId) (x y : Operand) : opOk P Gl σ env (.binOp o t x y u) = (binOk P t o (evU Gl env x) (evU Gl env y)) := rfl
theorem r_v_binOp (o : BinOp) (t u : TypeId) (x y : Operand) : opV P Gl σ env (.binOp o t x y u) = binV o (evU Gl env x) (evU Gl env y) := rfl
theorem r_s_binOp (o : BinOp) (t u : TypeId) (x y : Operand) : opS P Gl σ env (.binOp o t x y u) = σ := rfl
theorem r_ok_unOp (o : UnOp) (t : TypeId) (x : Operand) : opOk P Gl σ env (.unOp o t x) = (unOk o (evU Gl env x)) := rfl
theorem r_v_unOp (o : UnOp) (t : TypeId) (x : Operand) : opV P Gl σ env (.unOp o t x) = unV o (evU Gl env x) := rfl
theorem r_s_unOp (o : UnOp) (t : TypeId) (x : Operand) : opS P Gl σ env (.unOp o t x) = σ := rfl
theorem r_ok_convert (s t : TypeId) (x : Operand) : opOk P Gl σ env (.convert s t x) = ((P.underlying s).isSome = true ∧ (tintk P t).isSome = true ∧ (evU Gl env x).isIntv = true) := rfl
theorem r_v_convert (s t : TypeId) (x : Operand) : opV P Gl σ env (.convert s t x) = (match tintk P t with | some k => .d (.int k (k.wrap (evU Gl env x).num)) | none => .undef) := rfl
theorem r_s_convert (s t : TypeId) (x : Operand) : opS P Gl σ env (.convert s t x) = σ := rfl
theorem r_ok_makeSlice (t : TypeId) (x y : Operand) : opOk P Gl σ env (.makeSlice t x y) = (mkOk P t (evU Gl env x) (evU Gl env y)) := rfl
theorem r_v_makeSlice (t : TypeId) (x y : Operand) : opV P Gl σ env (.makeSlice t x y) = .osl σ.length 0 (evU Gl env x).num.toNat := rfl
theorem r_s_makeSlice (t : TypeId) (x y : Operand) : opS P Gl σ env (.makeSlice t x y) = mkS P σ t (evU Gl env x) := rfl
theorem r_ok_slice00 (t : TypeId) (x : Operand) : opOk P Gl σ env (.slice t x none none none) = (slOk P t σ 0 (evU Gl env x).len (evU Gl env x)) := by simp [opOk, boundOk, loOf, hiOf, cvOk]
theorem r_v_slice00 (t : TypeId) (x : Operand) : opV P Gl σ env (.slice t x none none none) = slV 0 (evU Gl env x).len (evU Gl env x) := rfl
theorem r_s_slice00 (t : TypeId) (x : Operand) : opS P Gl σ env (.slice t x none none none) = σ := rfl
theorem r_ok_slice10 (t : TypeId) (x y : Operand) : opOk P Gl σ env (.slice t x (some y) none none) = ((evU Gl env y).isIntv = true ∧ slOk P t σ (evU Gl env y).num (evU Gl env x).len (evU Gl env x)) := by simp [opOk, boundOk, loOf, hiOf, cvOk]
theorem r_v_slice10 (t : TypeId) (x y : Operand) : opV P Gl σ env (.slice t x (some y) none none) = slV (evU Gl env y).num (evU Gl env x).len (evU Gl env x) := rfl
theorem r_s_slice10 (t : TypeId) (x y : Operand) : opS P Gl σ env (.slice t x (some y) none none) = σ := rfl
theorem r_ok_slice3 (t : TypeId) (x y z : Operand) : opOk P Gl σ env (.slice t x none (some y) (some z)) = sl3Ok P t (evU Gl env x) (evU Gl env y) (evU Gl env z) := rfl
theorem r_v_slice3 (t : TypeId) (x y z : Operand) : opV P Gl σ env (.slice t x none (some y) (some z)) = slV 0 (evU Gl env y).num (evU Gl env x) := rfl
theorem r_s_slice3 (t : TypeId) (x y z : Operand) : opS P Gl σ env (.slice t x none (some y) (some z)) = σ := rfl
theorem r_sl3Ok (t : TypeId) (i o k : Nat) (h m : AV) : sl3Ok P t (.osl i o k) h m = (h.isIntv = true ∧ m.isIntv = true ∧ 0 ≤ h.num ∧ h.num ≤ m.num ∧ m.num ≤ k ∧ (match telem P t with | some e => (tsz P e).isSome = true | none => False)) := rfl
theorem r_ok_slice01 (t : TypeId) (x y : Operand) : opOk P Gl σ env (.slice t x none (some y) none) = ((evU Gl env y).isIntv = true ∧ slOk P t σ 0 (evU Gl env y).num (evU Gl env x)) := by simp [opOk, boundOk, loOf, hiOf, cvOk]
theorem r_v_slice01 (t : TypeId) (x y : Operand) : opV P Gl σ env (.slice t x none (some y) none) = slV 0 (evU Gl env y).num (evU Gl env x) := rfl
theorem r_s_slice01 (t : TypeId) (x y : Operand) : opS P Gl σ env (.slice t x none (some y) none) = σ := rfl
theorem r_ok_slice11 (t : TypeId) (x y z : Operand) : opOk P Gl σ env (.slice t x (some y) (some z) none) = ((evU Gl env y).isIntv = true ∧ (evU Gl env z).isIntv = true ∧ slOk P t σ (evU Gl env y).num (evU Gl env z).num (evU Gl env x)) := by simp [opOk, boundOk, loOf, hiOf, cvOk]
theorem r_v_slice11 (t : TypeId) (x y z : Operand) : opV P Gl σ env (.slice t x (some y) (some z) none) = slV (evU Gl env y).num (evU Gl env z).num (evU Gl env x) := rfl
theorem r_s_slice11 (t : TypeId) (x y z : Operand) : opS P Gl σ env (.slice t x (some y) (some z) none) = σ := rfl
theorem r_ok_fieldAddr (s : TypeId) (x : Operand) (f : Nat) : opOk P Gl σ env (.fieldAddr s x f) = (match tfld P s f with | some (_, n, _) => n ≠ 0 ∧ (evU Gl env x).isPtr = true | none => False) := rfl
theorem r_v_fieldAddr (s : TypeId) (x : Operand) (f : Nat) : opV P Gl σ env (.fieldAddr s x f) = (match tfld P s f with | some (o, _, _) => (evU Gl env x).shift o | none => .undef) := rfl
theorem r_s_fieldAddr (s : TypeId) (x : Operand) (f : Nat) : opS P Gl σ env (.fieldAddr s x f) = σ := rfl
theorem r_ok_field (s : TypeId) (x : Operand) (f : Nat) : opOk P Gl σ env (.field s x f) = (match tfld P s f with | some (o, n, g) => (evU Gl env x).isAgg = true ∧ o + n ≤ (evU Gl env x).ncells ∧ (g = true ∨ n = 1) | none => False) := rfl
theorem r_v_field (s : TypeId) (x : Operand) (f : Nat) : opV P Gl σ env (.field s x f) = (match tfld P s f with | some (o, n, g) => (if g = true then (evU Gl env x).subV o n else (evU Gl env x).cellAt o) | none => .undef) := rfl
theorem r_s_field (s : TypeId) (x : Operand) (f : Nat) : opS P Gl σ env (.field s x f) = σ := rfl
theorem r_ok_indexAddr (t : TypeId) (x i : Operand) : opOk P Gl σ env (.indexAddr t x i) = ((evU Gl env i).isIntv = true ∧ (match tidx P t with | some (none, es) => idxOk σ es (evU Gl env i).num (evU Gl env x) | some (some k, _) => aidxOk k (evU Gl env i).num (evU Gl env x) | none => False)) := rfl
theorem r_v_indexAddr (t : TypeId) (x i : Operand) : opV P Gl σ env (.indexAddr t x i) = (match tidx P t with | some (none, es) => idxV es (evU Gl env i).num (evU Gl env x) | some (some _, es) => (evU Gl env x).shift ((evU Gl env i).num.toNat * es) | none => .undef) := rfl
theorem r_s_indexAddr (t : TypeId) (x i : Operand) : opS P Gl σ env (.indexAddr t x i) = σ := rfl
theorem r_ok_index (t : TypeId) (x i : Operand) : opOk P Gl σ env (.index t x i) = (tstr P t = true ∧ (evU Gl env x).isStrv = true ∧ (evU Gl env i).isIntv = true ∧ 0 ≤ (evU Gl env i).num ∧ (evU Gl env i).num < (evU Gl env x).strOf.length) := rfl
theorem r_v_index (t : TypeId) (x i : Operand) : opV P Gl σ env (.index t x i) = .d (.int .u8 ((evU Gl env x).strOf.getD (evU Gl env i).num.toNat 0).toNat) := rfl
theorem r_s_index (t : TypeId) (x i : Operand) : opS P Gl σ env (.index t x i) = σ := rfl
theorem r_ok_extract (x : Operand) (i : Nat) : opOk P Gl σ env (.extract x i) = (i < (evU Gl env x).tupLen) := rfl
theorem r_v_extract (x : Operand) (i : Nat) : opV P Gl σ env (.extract x i) = (evU Gl env x).tupAt i := rfl
theorem r_s_extract (x : Operand) (i : Nat) : opS P Gl σ env (.extract x i) = σ := rfl
theorem r_partsU (l : List (Nat × Operand)) : partsU Gl env l.toArray = l.map fun p => (p.1, evU Gl env p.2) := rfl
theorem r_fillA_nil (pl : List (Nat × Nat)) (cs : List AV) : fillA pl cs [] = cs := rfl
theorem r_fillA_cons (pl : List (Nat × Nat)) (cs : List AV) (i : Nat) (v : AV) (r : List (Nat × AV)) : fillA pl cs ((i, v) :: r) = (match pl[i]? with | some (off, size) => fillA pl (setCells cs off v size) r | none => fillA pl cs r) := rfl
theorem r_fillOk_nil (pl : List (Nat × Nat)) (N : Nat) : fillOk pl N [] = True := rfl
theorem r_fillOk_cons (pl : List (Nat × Nat)) (N : Nat) (i : Nat) (v : AV) (r : List (Nat × AV)) : fillOk pl N ((i, v) :: r) = ((match pl[i]? with | some (off, size) => v.ncells = size ∧ off + size ≤ N ∧ v.storable = true | none => False) ∧ fillOk pl N r) := rfl
theorem r_setCells0 (cs : List AV) (off : Nat) (v : AV) : setCells cs off v 0 = cs := rfl
theorem r_setCellsS (cs : List AV) (off : Nat) (v : AV) (k : Nat) : setCells cs off v (k + 1) = (setCells cs off v k).set (off + k) (v.cellAt k) := rfl
theorem r_mkAgg_d (l : List AV) : mkAgg l = (match allD l with | some ds => .d (.agg ds) | none => .agg l) := rfl
theorem r_allD_nil : allD [] = some [] := rfl
theorem r_allD_d (x : D) (r : List AV) : allD (.d x :: r) = (allD r).map (x :: ·) := rfl
theorem r_allD_osl (i o k : Nat) (r : List AV) : allD (.osl i o k :: r) = none := rfl
theorem r_allD_nils (r : List AV) : allD (.nils :: r) = none := rfl
theorem r_allD_ptr (i o : Nat) (r : List AV) : allD (.ptr i o :: r) = none := rfl
theorem r_cell (x : D) (i : Nat) : x.cell i = x.cells.getD i default := rfl
theorem r_sub (x : D) (o k : Nat) : x.sub o k = .agg ((x.cells.drop o).take k) := rfl
theorem r_binD_eql (k k' : IntKind) (a b : Int) : binD .eql (.int k a) (.int k' b) = .bool (a == b) := rfl
theorem r_binD_neq (k k' : IntKind) (a b : Int) : binD .neq (.int k a) (.int k' b) = .bool (a != b) := rfl
theorem r_binD_lss (k k' : IntKind) (a b : Int) : binD .lss (.int k a) (.int k' b) = .bool (decide (a < b)) := rfl
theorem r_binD_leq (k k' : IntKind) (a b : Int) : binD .leq (.int k a) (.int k' b) = .bool (decide (a ≤ b)) := rfl
theorem r_binD_gtr (k k' : IntKind) (a b : Int) : binD .gtr (.int k a) (.int k' b) = .bool (decide (b < a)) := rfl
theorem r_binD_geq (k k' : IntKind) (a b : Int) : binD .geq (.int k a) (.int k' b) = .bool (decide (b ≤ a)) := rfl
theorem r_binD_add (k k' : IntKind) (a b : Int) : binD .add (.int k a) (.int k' b) = .int k (k.wrap (a + b)) := rfl
theorem r_binD_sub (k k' : IntKind) (a b : Int) : binD .sub (.int k a) (.int k' b) = .int k (k.wrap (a - b)) := rfl
theorem r_binD_mul (k k' : IntKind) (a b : Int) : binD .mul (.int k a) (.int k' b) = .int k (k.wrap (a * b)) := rfl
theorem r_binD_quo (k k' : IntKind) (a b : Int) : binD .quo (.int k a) (.int k' b) = .int k (k.wrap (a.tdiv b)) := rfl
theorem r_binD_rem (k k' : IntKind) (a b : Int) : binD .rem (.int k a) (.int k' b) = .int k (a.tmod b) := rfl
theorem r_binD_shl (k k' : IntKind) (a b : Int) : binD .shl (.int k a) (.int k' b) = intBin .shl k a b := rfl
theorem r_binD_shr (k k' : IntKind) (a b : Int) : binD .shr (.int k a) (.int k' b) = intBin .shr k a b := rfl
theorem r_binD_and (k k' : IntKind) (a b : Int) : binD .and (.int k a) (.int k' b) = intBin .and k a b := rfl
theorem r_binD_or (k k' : IntKind) (a b : Int) : binD .or (.int k a) (.int k' b) = intBin .or k a b := rfl
theorem r_binD_xor (k k' : IntKind) (a b : Int) : binD .xor (.int k a) (.int k' b) = intBin .xor k a b := rfl
theorem r_ib_eql (k k' : IntKind) (b : Int) : intBinOk .eql k k' b = (k = k') := rfl
theorem r_ib_neq (k k' : IntKind) (b : Int) : intBinOk .neq k k' b = (k = k') := rfl
theorem r_ib_lss (k k' : IntKind) (b : Int) : intBinOk .lss k k' b = (k = k') := rfl
theorem r_ib_leq (k k' : IntKind) (b : Int) : intBinOk .leq k k' b = (k = k') := rfl
theorem r_ib_gtr (k k' : IntKind) (b : Int) : intBinOk .gtr k k' b = (k = k') := rfl
theorem r_ib_geq (k k' : IntKind) (b : Int) : intBinOk .geq k k' b = (k = k') := rfl
theorem r_ib_add (k k' : IntKind) (b : Int) : intBinOk .add k k' b = (k = k') := rfl
theorem r_ib_sub (k k' : IntKind) (b : Int) : intBinOk .sub k k' b = (k = k') := rfl
theorem r_ib_mul (k k' : IntKind) (b : Int) : intBinOk .mul k k' b = (k = k') := rfl
theorem r_ib_quo (k k' : IntKind) (b : Int) : intBinOk .quo k k' b = (k = k' ∧ b ≠ 0) := rfl
theorem r_ib_rem (k k' : IntKind) (b : Int) : intBinOk .rem k k' b = (k = k' ∧ b ≠ 0) := rfl
theorem r_ib_shl (k k' : IntKind) (b : Int) : intBinOk .shl k k' b = (0 ≤ b) := rfl
theorem r_ib_shr (k k' : IntKind) (b : Int) : intBinOk .shr k k' b = (0 ≤ b) := rfl
theorem r_sb_add (a b : List UInt8) : strBin .add a b = .str (a ++ b) := rfl
theorem r_sb_eql (a b : List UInt8) : strBin .eql a b = .bool (a == b) := rfl
theorem r_sb_neq (a b : List UInt8) : strBin .neq a b = .bool (!(a == b)) := rfl
theorem r_sb_lss (a b : List UInt8) : strBin .lss a b = .bool (Op.bytesLess a b) := rfl
theorem r_sb_gtr (a b : List UInt8) : strBin .gtr a b = .bool (!(Op.bytesLess a b || a == b)) := rfl
theorem r_sb_leq (a b : List UInt8) : strBin .leq a b = .bool (Op.bytesLess a b || a == b) := rfl
theorem r_sb_geq (a b : List UInt8) : strBin .geq a b = .bool (!(Op.bytesLess a b)) := rfl
theorem r_sbo_add (a b : List UInt8) : strBinOk .add a b = (((a.length + b.length : Nat) : Int) ≤ 9223372036854775807) := rfl
theorem r_sbo_eql (a b : List UInt8) : strBinOk .eql a b = True := rfl
theorem r_sbo_neq (a b : List UInt8) : strBinOk .neq a b = True := rfl
theorem r_sbo_lss (a b : List UInt8) : strBinOk .lss a b = True := rfl
theorem r_sbo_gtr (a b : List UInt8) : strBinOk .gtr a b = True := rfl
theorem r_sbo_leq (a b : List UInt8) : strBinOk .leq a b = True := rfl
theorem r_sbo_geq (a b : List UInt8) : strBinOk .geq a b = True := rfl
theorem r_ok_alloc' (t : TypeId) : opOk P Gl σ env (.alloc t) = ((zeroV P t).storable = true) := by
 have e : opOk P Gl σ env (.alloc t) = (match tzero P t with | some z => (constV z).storable = true | none => False) := rfl
 rw [e]; unfold zeroV; cases tzero P t <;> simp [AV.storable]
theorem r_s_alloc' (t : TypeId) (h : (zeroV P t).storable = true) : opS P Gl σ env (.alloc t) = σ ++ [.box (zeroV P t).ncells (zeroV P t)] := by
 have e : opS P Gl σ env (.alloc t) = (match tzero P t with | some z => σ ++ [.box (constV z).ncells (constV z)] | none => σ) := rfl
 rw [e]; unfold zeroV at h ⊢
 cases hz : tzero P t with
 | none => simp only [hz] at h; cases h
 | some z => rfl
theorem r_isD1_d (x : D) : isD1 σ (.d x) = true := rfl
theorem r_isD1_nils : isD1 σ .nils = true := rfl
theorem r_isD1_osl (i o k : Nat) : isD1 σ (.osl i o k) = (blkAt σ i).isArr := rfl
theorem r_toD1_d (x : D) : toD1 σ (.d x) = x := rfl
theorem r_toD1_nils : toD1 σ .nils = .sl [] := rfl
theorem r_toD1_osl (i o k : Nat) : toD1 σ (.osl i o k) = .sl (((blkAt σ i).xs.drop o).take k) := rfl
theorem r_ref1_d (x : D) : ref1 (.d x) = [] := rfl
theorem r_ref1_nils : ref1 .nils = [] := rfl
theorem r_ref1_osl (i o k : Nat) : ref1 (.osl i o k) = [i] := rfl
theorem r_renE_nil (ρ : List Nat) : renE [] ρ σ env = [] := rfl
theorem r_renE_cons (t : Nat) (l ρ : List Nat) : renE (t :: l) ρ σ env = (t, renV ρ σ (getE env t)) :: renE l ρ σ env := rfl
theorem r_renS_nil : renS [] σ = [] := rfl
theorem r_renV_d (ρ : List Nat) (x : D) : renV ρ σ (.d x) = .d x := rfl
theorem r_renV_nils (ρ : List Nat) : renV ρ σ .nils = .nils := rfl
theorem r_renV_eptr (ρ : List Nat) (es : Nat) (xs : List D) (i off : Nat) : renV ρ σ (.eptr es xs i off) = .eptr es xs i off := rfl
theorem r_renV_ptr (ρ : List Nat) (i o : Nat) : renV ρ σ (.ptr i o) = (match idxIn ρ i with | some j => .ptr j o | none => .undef) := rfl
theorem r_renV_aptr (ρ : List Nat) (id i o : Nat) : renV ρ σ (.aptr id i o) = (match idxIn ρ id with | some j => .aptr j i o | none => .undef) := rfl
theorem r_renV_osl (ρ : List Nat) (id o k : Nat) : renV ρ σ (.osl id o k) = (match idxIn ρ id with | some j => .osl j o k | none => if (blkAt σ id).isArr = true ∧ (blkAt σ id).own = false then .d (.sl (((blkAt σ id).xs.drop o).take k)) else .undef) := rfl
theorem r_idxIn_nil (i : Nat) : idxIn [] i = none := rfl
theorem r_idxIn_cons (r : Nat) (l : List Nat) (i : Nat) : idxIn (r :: l) i = if r = i then some 0 else (idxIn l i).map (· + 1) := by
 unfold idxIn; rw [List.findIdx?_cons]; by_cases h : r = i <;> simp [h]
theorem r_retK_ret {m : Nat} {rs : List ResultVar} {R : AV → Sto → Prop} : retK P m rs R .ret env σ = (resOk P env σ rs ∧ ∃ r' s', WeakR m (resV P env σ rs) σ r' s' ∧ R r' s') := rfl
theorem r_retK_normal {m : Nat} {rs : List ResultVar} {R : AV → Sto → Prop} : retK P m rs R .normal env σ = (resOk P env σ rs ∧ ∃ r' s', WeakR m (resV P env σ rs) σ r' s' ∧ R r' s') := rfl
theorem r_resOk_nil : resOk P env σ [] = True := rfl
theorem r_resOk_cons (r : ResultVar) (rs : List ResultVar) : resOk P env σ (r :: rs) = (resOk1 P env σ r ∧ resOk P env σ rs) := rfl
theorem r_resOk1_tmp (t : Nat) : resOk1 P env σ (.tmp t) = ((getE env t).vg = true) := rfl
theorem r_resOk1_cell (t : Nat) (ty : TypeId) : resOk1 P env σ (.cell t ty) = (match tkind P ty, tsz P ty with | some g, some k => ldOk σ g k (getE env t) | _, _ => False) := rfl
theorem r_resV1_tmp (t : Nat) : resV1 P env σ (.tmp t) = (getE env t).un := rfl
theorem r_resV1_cell (t : Nat) (ty : TypeId) : resV1 P env σ (.cell t ty) = (match tkind P ty, tsz P ty with | some g, some k => ldV σ g k (getE env t) | _, _ => .undef) := rfl
theorem r_resV_one (r : ResultVar) : resV P env σ [r] = resV1 P env σ r := rfl
theorem r_resV_nil : resV P env σ [] = .tup [] := rfl
theorem r_resV_two (r1 r2 : ResultVar) (rs : List ResultVar) : resV P env σ (r1 :: r2 :: rs) = .tup ((r1 :: r2 :: rs).map (resV1 P env σ)) := rfl
end
theorem dRules : type_of% (And.intro (And.intro @r_getE_cons (And.intro @r_getE_nil (And.intro @r_putE_some (And.intro @r_putE_none (And.intro @r_dst_some (And.intro @r_dst_none (And.intro @r_evG_tmp (And.intro @r_evG_const (And.intro @r_evG_func (And.intro @r_evG_global (And.intro @r_evU_tmp (And.intro @r_evU_const (And.intro @r_evU_func (And.intro @r_evU_global (And.intro @r_un_d (And.intro @r_un_nils (And.intro @r_un_agg (And.intro @r_un_ptr (And.intro @r_un_eptr (And.intro @r_un_aptr (And.intro @r_un_osl (And.intro @r_un_fn (And.intro @r_un_tup (And.intro @r_un_iff (And.intro @r_vg_d (And.intro @r_vg_nils (And.intro @r_vg_agg (And.intro @r_vg_ptr (And.intro @r_vg_eptr (And.intro @r_vg_aptr (And.intro @r_vg_osl (And.intro @r_vg_fn (And.intro @r_vg_tup (And.intro @r_vg_iff (And.intro @r_constV_int (And.intro @r_constV_bool (And.intro @r_constV_str (And.intro @r_constV_nils (And.intro @r_gdL_nil (@r_gdL_cons)))))))))))))))))))))))))))))))))))))))) (And.intro (And.intro @r_truth (And.intro @r_isBoolv (And.intro @r_isIntv (And.intro @r_num (And.intro @r_slotBool_d (And.intro @r_slotBool_iff (And.intro @r_slotTest_d (And.intro @r_slotTest_iff (And.intro @r_gSlot (And.intro @r_gSlot_succ (And.intro @r_pickV_bool (And.intro @r_pickV_int (And.intro @r_blk0 (And.intro @r_blkS (And.intro @r_boxN (And.intro @r_boxV (And.intro @r_isBox (And.intro @r_isOwnArr (And.intro @r_isArr (And.intro @r_isArr' (And.intro @r_es (And.intro @r_es' (And.intro @r_xs (And.intro @r_xs' (And.intro @r_own (And.intro @r_own' (And.intro @r_ldOk_ptr (And.intro @r_ldOk_eptr (And.intro @r_ldOk_aptr (And.intro @r_ldV_ptr (And.intro @r_ldV_eptr (And.intro @r_ldV_aptr (And.intro @r_partOk (And.intro @r_partV_d (And.intro @r_partV (And.intro @r_partD (And.intro @r_subV_d (And.intro @r_cellAt_d (And.intro @r_cellAt_agg (@r_stOk_ptr)))))))))))))))))))))))))))))))))))))))) (And.intro (And.intro @r_stOk_aptr (And.intro @r_stS_ptr (And.intro @r_stS_aptr (And.intro @r_putV (And.intro @r_isAgg_d (And.intro @r_isAgg_agg (And.intro @r_isAgg_osl (And.intro @r_isAgg_nils (And.intro @r_storable_d (And.intro @r_storable_agg (And.intro @r_storable_osl (And.intro @r_storable_nils (And.intro @r_ncells_d (And.intro @r_ncells_agg (And.intro @r_ncells_osl (And.intro @r_ncells_nils (And.intro @r_isD_d (And.intro @r_isD_nils (And.intro @r_isD_osl (And.intro @r_isD_agg (And.intro @r_toD_d (And.intro @r_toD_nils (And.intro @r_toD_osl (And.intro @r_toD_agg (And.intro @r_refs_d (And.intro @r_refs_nils (And.intro @r_refs_osl (And.intro @r_refs_agg (And.intro @r_freezeL_nil (And.intro @r_freezeL_cons (And.intro @r_freeze0 (And.intro @r_freezeS (And.intro @r_frozen (And.intro @r_isPtr_ptr (And.intro @r_isPtr_eptr (And.intro @r_isPtr_aptr (And.intro @r_shift_ptr (And.intro @r_shift_eptr (And.intro @r_shift_aptr (@r_notNil_ptr)))))))))))))))))))))))))))))))))))))))) (And.intro (And.intro @r_notNil_eptr (And.intro @r_notNil_aptr (And.intro @r_notNil_fn (And.intro @r_cells_agg (And.intro @r_DisAgg_agg (And.intro @r_DisAgg_int (And.intro @r_DisAgg_bool (And.intro @r_DisAgg_str (And.intro @r_DisAgg_sl (And.intro @r_cells_int (And.intro @r_cells_bool (And.intro @r_cells_str (And.intro @r_cells_sl (And.intro @r_putAt (And.intro @r_binV_int (And.intro @r_binV_bool (And.intro @r_binV_str (And.intro @r_binV_agg (And.intro @r_binV_nils (And.intro @r_binV_raw (And.intro @r_nilBin_eql (And.intro @r_nilBin_neq (And.intro @r_nilBin_any (And.intro @r_isNilV_nils (And.intro @r_isNilV_raw (And.intro @r_isNilV_nil (And.intro @r_isNilV_cons (And.intro @r_isNilV_osl (And.intro @r_isNilV_ptr (And.intro @r_isNilV_eptr (And.intro @r_isNilV_aptr (And.intro @r_isNilV_mapr (And.intro @r_binOk_int (And.intro @r_binOk_bool (And.intro @r_binOk_str (And.intro @r_binOk_agg (And.intro @r_binOk_nils_nils (And.intro @r_binOk_nils_sl (And.intro @r_binOk_nils_osl (@r_binOk_ptr_ptr)))))))))))))))))))))))))))))))))))))))) (And.intro (And.intro @r_binOk_ptr_eptr (And.intro @r_binOk_ptr_aptr (And.intro @r_binOk_ptr_nil (And.intro @r_binOk_map_mapr (And.intro @r_binOk_map_nil (And.intro @r_un_mapr (And.intro @r_un_anyb (And.intro @r_vg_mapr (And.intro @r_vg_anyb (And.intro @r_storable_mapr (And.intro @r_storable_ptr (And.intro @r_storable_fn (And.intro @r_ncells_mapr (And.intro @r_ncells_ptr (And.intro @r_ncells_fn (And.intro @r_isAgg_mapr (And.intro @r_isAgg_ptr (And.intro @r_isAgg_fn (And.intro @r_cellAt_mapr (And.intro @r_cellAt_ptr (And.intro @r_cellAt_osl (And.intro @r_cellAt_nils (And.intro @r_cellAt_fn (And.intro @r_allD_mapr (And.intro @r_allD_fn (And.intro @r_isMap (And.intro @r_mk (And.intro @r_mf (And.intro @r_keyOf_int (And.intro @r_keyOf_str (And.intro @r_keyOk_int (And.intro @r_keyOk_str (And.intro @r_lkOk_mapr (And.intro @r_lkOk_nil (And.intro @r_lkF_mapr (And.intro @r_lkF_nil (And.intro @r_lkV_t (And.intro @r_lkV_f (And.intro @r_muOk (@r_muS)))))))))))))))))))))))))))))))))))))))) (And.intro (And.intro @r_mdS (And.intro @r_ok_lookup (And.intro @r_v_lookup (And.intro @r_s_lookup (And.intro @r_ok_mapUpdate (And.intro @r_v_mapUpdate (And.intro @r_s_mapUpdate (And.intro @r_ok_insert (And.intro @r_v_insert (And.intro @r_s_insert (And.intro @r_ok_makeMap (And.intro @r_v_makeMap (And.intro @r_s_makeMap (And.intro @r_bi_delete_ok (And.intro @r_bi_delete_v (And.intro @r_bi_delete_s (And.intro @r_delOk (And.intro @r_bi_clear_ok (And.intro @r_bi_clear_v (And.intro @r_bi_clear_s (And.intro @r_clOk (And.intro @r_clX (And.intro @r_clS (And.intro @r_renV_mapr (And.intro @r_renV_anyb (And.intro @r_renB_map (And.intro @r_getD_some (And.intro @r_getD_none (And.intro @r_binD_str (And.intro @r_binD_bool_eql (And.intro @r_binD_bool_neq (And.intro @r_binD_agg_eql (And.intro @r_binD_agg_neq (And.intro @r_binOkD_int (And.intro @r_binOkD_str (And.intro @r_binOkD_bool_eql (And.intro @r_binOkD_bool_neq (And.intro @r_binOkD_agg_eql (And.intro @r_binOkD_agg_neq (@r_unV_not)))))))))))))))))))))))))))))))))))))))) (And.intro (And.intro @r_unV_neg (And.intro @r_unOk_not (And.intro @r_unOk_neg (And.intro @r_len_sl (And.intro @r_len_str (And.intro @r_len_osl (And.intro @r_len_nils (And.intro @r_hasLen_sl (And.intro @r_hasLen_str (And.intro @r_hasLen_osl (And.intro @r_hasLen_nils (And.intro @r_elems_sl (And.intro @r_elems_osl (And.intro @r_elems_nils (And.intro @r_idxOk_sl (And.intro @r_idxOk_osl (And.intro @r_idxV_sl (And.intro @r_idxV_osl (And.intro (And.intro @r_cp_ok (And.intro @r_cp_v (And.intro @r_cp_s (And.intro @r_cpOk (And.intro @r_cpN (And.intro @r_cpS @r_biLen_ok)))))) (And.intro @r_biLen_V (And.intro @r_biLen_S (And.intro @r_biApp_ok (And.intro @r_biApp_V (And.intro @r_biApp_S (And.intro @r_biMin_ok (And.intro @r_biMin_V (And.intro @r_biMin_S (And.intro @r_biMax_ok (And.intro @r_biMax_V (And.intro @r_biMax_S (And.intro @r_minmaxOk (And.intro @r_minV (And.intro @r_maxV (And.intro @r_minL_nil (And.intro @r_maxL_nil (And.intro @r_minL_cons (And.intro @r_maxL_cons (And.intro @r_tupAt (And.intro @r_tupLen (@r_ok_move)))))))))))))))))))))))))))))))))))))))) (And.intro (And.intro @r_v_move (And.intro @r_s_move (And.intro @r_ok_assign (And.intro @r_v_assign (And.intro @r_s_assign (And.intro @r_v_alloc (And.intro @r_ok_box (And.intro @r_v_box (And.intro @r_s_box (And.intro @r_ok_build (And.intro @r_v_build (And.intro @r_s_build (And.intro @r_ok_buildSlice0 (And.intro @r_v_buildSlice0 (And.intro @r_s_buildSlice0 (And.intro @r_ok_buildSlice (And.intro @r_v_buildSlice (And.intro @r_s_buildSlice (And.intro @r_ok_load (And.intro @r_v_load (And.intro @r_s_load (And.intro @r_ok_store (And.intro @r_v_store (And.intro @r_s_store (And.intro @r_ok_nilCheck (And.intro @r_v_nilCheck (And.intro @r_s_nilCheck (And.intro @r_ok_binOp (And.intro @r_v_binOp (And.intro @r_s_binOp (And.intro @r_ok_unOp (And.intro @r_v_unOp (And.intro @r_s_unOp (And.intro @r_ok_convert (And.intro @r_v_convert (And.intro @r_s_convert (And.intro @r_ok_makeSlice (And.intro @r_v_makeSlice (And.intro @r_s_makeSlice (@r_ok_slice00)))))))))))))))))))))))))))))))))))))))) (And.intro (And.intro @r_v_slice00 (And.intro @r_s_slice00 (And.intro @r_ok_slice10 (And.intro @r_v_slice10 (And.intro @r_s_slice10 (And.intro @r_ok_slice01 (And.intro @r_v_slice01 (And.intro (And.intro @r_ok_slice3 (And.intro @r_v_slice3 (And.intro @r_s_slice3 (And.intro @r_sl3Ok @r_s_slice01)))) (And.intro @r_ok_slice11 (And.intro @r_v_slice11 (And.intro @r_s_slice11 (And.intro @r_ok_fieldAddr (And.intro @r_v_fieldAddr (And.intro @r_s_fieldAddr (And.intro @r_ok_field (And.intro @r_v_field (And.intro @r_s_field (And.intro @r_ok_indexAddr (And.intro @r_v_indexAddr (And.intro @r_s_indexAddr (And.intro @r_ok_index (And.intro @r_v_index (And.intro @r_s_index (And.intro @r_ok_extract (And.intro @r_v_extract (And.intro @r_s_extract (And.intro @r_partsU (And.intro @r_fillA_nil (And.intro @r_fillA_cons (And.intro @r_fillOk_nil (And.intro @r_fillOk_cons (And.intro @r_setCells0 (And.intro @r_setCellsS (And.intro @r_mkAgg_d (And.intro @r_allD_nil (And.intro @r_allD_d (And.intro @r_allD_osl (And.intro @r_allD_nils (And.intro @r_allD_ptr (@r_cell)))))))))))))))))))))))))))))))))))))))) (And.intro (And.intro @r_sub (And.intro @r_binD_eql (And.intro @r_binD_neq (And.intro @r_binD_lss (And.intro @r_binD_leq (And.intro @r_binD_gtr (And.intro @r_binD_geq (And.intro @r_binD_add (And.intro @r_binD_sub (And.intro @r_binD_mul (And.intro @r_binD_quo (And.intro @r_binD_rem (And.intro @r_binD_shl (And.intro @r_binD_shr (And.intro @r_binD_and (And.intro @r_binD_or (And.intro @r_binD_xor (And.intro @r_ib_eql (And.intro @r_ib_neq (And.intro @r_ib_lss (And.intro @r_ib_leq (And.intro @r_ib_gtr (And.intro @r_ib_geq (And.intro @r_ib_add (And.intro @r_ib_sub (And.intro @r_ib_mul (And.intro @r_ib_quo (And.intro @r_ib_rem (And.intro @r_ib_shl (And.intro @r_ib_shr (And.intro @r_sb_add (And.intro @r_sb_eql (And.intro @r_sb_neq (And.intro @r_sb_lss (And.intro @r_sb_gtr (And.intro @r_sb_leq (And.intro @r_sb_geq (And.intro @r_sbo_add (And.intro @r_sbo_eql (@r_sbo_neq)))))))))))))))))))))))))))))))))))))))) (And.intro @r_sbo_lss (And.intro @r_sbo_gtr (And.intro @r_sbo_leq (And.intro @r_sbo_geq (And.intro @r_ok_alloc' (And.intro @r_s_alloc' (And.intro @r_isD1_d (And.intro @r_isD1_nils (And.intro @r_isD1_osl (And.intro @r_toD1_d (And.intro @r_toD1_nils (And.intro @r_toD1_osl (And.intro @r_ref1_d (And.intro @r_ref1_nils (And.intro @r_ref1_osl (And.intro @r_renE_nil (And.intro @r_renE_cons (And.intro @r_renS_nil (And.intro @r_renV_d (And.intro @r_renV_nils (And.intro @r_renV_eptr (And.intro @r_renV_ptr (And.intro @r_renV_aptr (And.intro @r_renV_osl (And.intro @r_idxIn_nil (And.intro @r_idxIn_cons (And.intro @r_retK_ret (And.intro @r_retK_normal (And.intro @r_resOk_nil (And.intro @r_resOk_cons (And.intro @r_resOk1_tmp (And.intro @r_resOk1_cell (And.intro @r_resV1_tmp (And.intro @r_resV1_cell (And.intro @r_resV_one (And.intro @r_resV_nil (@r_resV_two))))))))))))))))))))))))))))))))))))))))))))))) := And.intro (And.intro @r_getE_cons (And.intro @r_getE_nil (And.intro @r_putE_some (And.intro @r_putE_none (And.intro @r_dst_some (And.intro @r_dst_none (And.intro @r_evG_tmp (And.intro @r_evG_const (And.intro @r_evG_func (And.intro @r_evG_global (And.intro @r_evU_tmp (And.intro @r_evU_const (And.intro @r_evU_func (And.intro @r_evU_global (And.intro @r_un_d (And.intro @r_un_nils (And.intro @r_un_agg (And.intro @r_un_ptr (And.intro @r_un_eptr (And.intro @r_un_aptr (And.intro @r_un_osl (And.intro @r_un_fn (And.intro @r_un_tup (And.intro @r_un_iff (And.intro @r_vg_d (And.intro @r_vg_nils (And.intro @r_vg_agg (And.intro @r_vg_ptr (And.intro @r_vg_eptr (And.intro @r_vg_aptr (And.intro @r_vg_osl (And.intro @r_vg_fn (And.intro @r_vg_tup (And.intro @r_vg_iff (And.intro @r_constV_int (And.intro @r_constV_bool (And.intro @r_constV_str (And.intro @r_constV_nils (And.intro @r_gdL_nil (@r_gdL_cons)))))))))))))))))))))))))))))))))))))))) (And.intro (And.intro @r_truth (And.intro @r_isBoolv (And.intro @r_isIntv (And.intro @r_num (And.intro @r_slotBool_d (And.intro @r_slotBool_iff (And.intro @r_slotTest_d (And.intro @r_slotTest_iff (And.intro @r_gSlot (And.intro @r_gSlot_succ (And.intro @r_pickV_bool (And.intro @r_pickV_int (And.intro @r_blk0 (And.intro @r_blkS (And.intro @r_boxN (And.intro @r_boxV (And.intro @r_isBox (And.intro @r_isOwnArr (And.intro @r_isArr (And.intro @r_isArr' (And.intro @r_es (And.intro @r_es' (And.intro @r_xs (And.intro @r_xs' (And.intro @r_own (And.intro @r_own' (And.intro @r_ldOk_ptr (And.intro @r_ldOk_eptr (And.intro @r_ldOk_aptr (And.intro @r_ldV_ptr (And.intro @r_ldV_eptr (And.intro @r_ldV_aptr (And.intro @r_partOk (And.intro @r_partV_d (And.intro @r_partV (And.intro @r_partD (And.intro @r_subV_d (And.intro @r_cellAt_d (And.intro @r_cellAt_agg (@r_stOk_ptr)))))))))))))))))))))))))))))))))))))))) (And.intro (And.intro @r_stOk_aptr (And.intro @r_stS_ptr (And.intro @r_stS_aptr (And.intro @r_putV (And.intro @r_isAgg_d (And.intro @r_isAgg_agg (And.intro @r_isAgg_osl (And.intro @r_isAgg_nils (And.intro @r_storable_d (And.intro @r_storable_agg (And.intro @r_storable_osl (And.intro @r_storable_nils (And.intro @r_ncells_d (And.intro @r_ncells_agg (And.intro @r_ncells_osl (And.intro @r_ncells_nils (And.intro @r_isD_d (And.intro @r_isD_nils (And.intro @r_isD_osl (And.intro @r_isD_agg (And.intro @r_toD_d (And.intro @r_toD_nils (And.intro @r_toD_osl (And.intro @r_toD_agg (And.intro @r_refs_d (And.intro @r_refs_nils (And.intro @r_refs_osl (And.intro @r_refs_agg (And.intro @r_freezeL_nil (And.intro @r_freezeL_cons (And.intro @r_freeze0 (And.intro @r_freezeS (And.intro @r_frozen (And.intro @r_isPtr_ptr (And.intro @r_isPtr_eptr (And.intro @r_isPtr_aptr (And.intro @r_shift_ptr (And.intro @r_shift_eptr (And.intro @r_shift_aptr (@r_notNil_ptr)))))))))))))))))))))))))))))))))))))))) (And.intro (And.intro @r_notNil_eptr (And.intro @r_notNil_aptr (And.intro @r_notNil_fn (And.intro @r_cells_agg (And.intro @r_DisAgg_agg (And.intro @r_DisAgg_int (And.intro @r_DisAgg_bool (And.intro @r_DisAgg_str (And.intro @r_DisAgg_sl (And.intro @r_cells_int (And.intro @r_cells_bool (And.intro @r_cells_str (And.intro @r_cells_sl (And.intro @r_putAt (And.intro @r_binV_int (And.intro @r_binV_bool (And.intro @r_binV_str (And.intro @r_binV_agg (And.intro @r_binV_nils (And.intro @r_binV_raw (And.intro @r_nilBin_eql (And.intro @r_nilBin_neq (And.intro @r_nilBin_any (And.intro @r_isNilV_nils (And.intro @r_isNilV_raw (And.intro @r_isNilV_nil (And.intro @r_isNilV_cons (And.intro @r_isNilV_osl (And.intro @r_isNilV_ptr (And.intro @r_isNilV_eptr (And.intro @r_isNilV_aptr (And.intro @r_isNilV_mapr (And.intro @r_binOk_int (And.intro @r_binOk_bool (And.intro @r_binOk_str (And.intro @r_binOk_agg (And.intro @r_binOk_nils_nils (And.intro @r_binOk_nils_sl (And.intro @r_binOk_nils_osl (@r_binOk_ptr_ptr)))))))))))))))))))))))))))))))))))))))) (And.intro (And.intro @r_binOk_ptr_eptr (And.intro @r_binOk_ptr_aptr (And.intro @r_binOk_ptr_nil (And.intro @r_binOk_map_mapr (And.intro @r_binOk_map_nil (And.intro @r_un_mapr (And.intro @r_un_anyb (And.intro @r_vg_mapr (And.intro @r_vg_anyb (And.intro @r_storable_mapr (And.intro @r_storable_ptr (And.intro @r_storable_fn (And.intro @r_ncells_mapr (And.intro @r_ncells_ptr (And.intro @r_ncells_fn (And.intro @r_isAgg_mapr (And.intro @r_isAgg_ptr (And.intro @r_isAgg_fn (And.intro @r_cellAt_mapr (And.intro @r_cellAt_ptr (And.intro @r_cellAt_osl (And.intro @r_cellAt_nils (And.intro @r_cellAt_fn (And.intro @r_allD_mapr (And.intro @r_allD_fn (And.intro @r_isMap (And.intro @r_mk (And.intro @r_mf (And.intro @r_keyOf_int (And.intro @r_keyOf_str (And.intro @r_keyOk_int (And.intro @r_keyOk_str (And.intro @r_lkOk_mapr (And.intro @r_lkOk_nil (And.intro @r_lkF_mapr (And.intro @r_lkF_nil (And.intro @r_lkV_t (And.intro @r_lkV_f (And.intro @r_muOk (@r_muS)))))))))))))))))))))))))))))))))))))))) (And.intro (And.intro @r_mdS (And.intro @r_ok_lookup (And.intro @r_v_lookup (And.intro @r_s_lookup (And.intro @r_ok_mapUpdate (And.intro @r_v_mapUpdate (And.intro @r_s_mapUpdate (And.intro @r_ok_insert (And.intro @r_v_insert (And.intro @r_s_insert (And.intro @r_ok_makeMap (And.intro @r_v_makeMap (And.intro @r_s_makeMap (And.intro @r_bi_delete_ok (And.intro @r_bi_delete_v (And.intro @r_bi_delete_s (And.intro @r_delOk (And.intro @r_bi_clear_ok (And.intro @r_bi_clear_v (And.intro @r_bi_clear_s (And.intro @r_clOk (And.intro @r_clX (And.intro @r_clS (And.intro @r_renV_mapr (And.intro @r_renV_anyb (And.intro @r_renB_map (And.intro @r_getD_some (And.intro @r_getD_none (And.intro @r_binD_str (And.intro @r_binD_bool_eql (And.intro @r_binD_bool_neq (And.intro @r_binD_agg_eql (And.intro @r_binD_agg_neq (And.intro @r_binOkD_int (And.intro @r_binOkD_str (And.intro @r_binOkD_bool_eql (And.intro @r_binOkD_bool_neq (And.intro @r_binOkD_agg_eql (And.intro @r_binOkD_agg_neq (@r_unV_not)))))))))))))))))))))))))))))))))))))))) (And.intro (And.intro @r_unV_neg (And.intro @r_unOk_not (And.intro @r_unOk_neg (And.intro @r_len_sl (And.intro @r_len_str (And.intro @r_len_osl (And.intro @r_len_nils (And.intro @r_hasLen_sl (And.intro @r_hasLen_str (And.intro @r_hasLen_osl (And.intro @r_hasLen_nils (And.intro @r_elems_sl (And.intro @r_elems_osl (And.intro @r_elems_nils (And.intro @r_idxOk_sl (And.intro @r_idxOk_osl (And.intro @r_idxV_sl (And.intro @r_idxV_osl (And.intro (And.intro @r_cp_ok (And.intro @r_cp_v (And.intro @r_cp_s (And.intro @r_cpOk (And.intro @r_cpN (And.intro @r_cpS @r_biLen_ok)))))) (And.intro @r_biLen_V (And.intro @r_biLen_S (And.intro @r_biApp_ok (And.intro @r_biApp_V (And.intro @r_biApp_S (And.intro @r_biMin_ok (And.intro @r_biMin_V (And.intro @r_biMin_S (And.intro @r_biMax_ok (And.intro @r_biMax_V (And.intro @r_biMax_S (And.intro @r_minmaxOk (And.intro @r_minV (And.intro @r_maxV (And.intro @r_minL_nil (And.intro @r_maxL_nil (And.intro @r_minL_cons (And.intro @r_maxL_cons (And.intro @r_tupAt (And.intro @r_tupLen (@r_ok_move)))))))))))))))))))))))))))))))))))))))) (And.intro (And.intro @r_v_move (And.intro @r_s_move (And.intro @r_ok_assign (And.intro @r_v_assign (And.intro @r_s_assign (And.intro @r_v_alloc (And.intro @r_ok_box (And.intro @r_v_box (And.intro @r_s_box (And.intro @r_ok_build (And.intro @r_v_build (And.intro @r_s_build (And.intro @r_ok_buildSlice0 (And.intro @r_v_buildSlice0 (And.intro @r_s_buildSlice0 (And.intro @r_ok_buildSlice (And.intro @r_v_buildSlice (And.intro @r_s_buildSlice (And.intro @r_ok_load (And.intro @r_v_load (And.intro @r_s_load (And.intro @r_ok_store (And.intro @r_v_store (And.intro @r_s_store (And.intro @r_ok_nilCheck (And.intro @r_v_nilCheck (And.intro @r_s_nilCheck (And.intro @r_ok_binOp (And.intro @r_v_binOp (And.intro @r_s_binOp (And.intro @r_ok_unOp (And.intro @r_v_unOp (And.intro @r_s_unOp (And.intro @r_ok_convert (And.intro @r_v_convert (And.intro @r_s_convert (And.intro @r_ok_makeSlice (And.intro @r_v_makeSlice (And.intro @r_s_makeSlice (@r_ok_slice00)))))))))))))))))))))))))))))))))))))))) (And.intro (And.intro @r_v_slice00 (And.intro @r_s_slice00 (And.intro @r_ok_slice10 (And.intro @r_v_slice10 (And.intro @r_s_slice10 (And.intro @r_ok_slice01 (And.intro @r_v_slice01 (And.intro (And.intro @r_ok_slice3 (And.intro @r_v_slice3 (And.intro @r_s_slice3 (And.intro @r_sl3Ok @r_s_slice01)))) (And.intro @r_ok_slice11 (And.intro @r_v_slice11 (And.intro @r_s_slice11 (And.intro @r_ok_fieldAddr (And.intro @r_v_fieldAddr (And.intro @r_s_fieldAddr (And.intro @r_ok_field (And.intro @r_v_field (And.intro @r_s_field (And.intro @r_ok_indexAddr (And.intro @r_v_indexAddr (And.intro @r_s_indexAddr (And.intro @r_ok_index (And.intro @r_v_index (And.intro @r_s_index (And.intro @r_ok_extract (And.intro @r_v_extract (And.intro @r_s_extract (And.intro @r_partsU (And.intro @r_fillA_nil (And.intro @r_fillA_cons (And.intro @r_fillOk_nil (And.intro @r_fillOk_cons (And.intro @r_setCells0 (And.intro @r_setCellsS (And.intro @r_mkAgg_d (And.intro @r_allD_nil (And.intro @r_allD_d (And.intro @r_allD_osl (And.intro @r_allD_nils (And.intro @r_allD_ptr (@r_cell)))))))))))))))))))))))))))))))))))))))) (And.intro (And.intro @r_sub (And.intro @r_binD_eql (And.intro @r_binD_neq (And.intro @r_binD_lss (And.intro @r_binD_leq (And.intro @r_binD_gtr (And.intro @r_binD_geq (And.intro @r_binD_add (And.intro @r_binD_sub (And.intro @r_binD_mul (And.intro @r_binD_quo (And.intro @r_binD_rem (And.intro @r_binD_shl (And.intro @r_binD_shr (And.intro @r_binD_and (And.intro @r_binD_or (And.intro @r_binD_xor (And.intro @r_ib_eql (And.intro @r_ib_neq (And.intro @r_ib_lss (And.intro @r_ib_leq (And.intro @r_ib_gtr (And.intro @r_ib_geq (And.intro @r_ib_add (And.intro @r_ib_sub (And.intro @r_ib_mul (And.intro @r_ib_quo (And.intro @r_ib_rem (And.intro @r_ib_shl (And.intro @r_ib_shr (And.intro @r_sb_add (And.intro @r_sb_eql (And.intro @r_sb_neq (And.intro @r_sb_lss (And.intro @r_sb_gtr (And.intro @r_sb_leq (And.intro @r_sb_geq (And.intro @r_sbo_add (And.intro @r_sbo_eql (@r_sbo_neq)))))))))))))))))))))))))))))))))))))))) (And.intro @r_sbo_lss (And.intro @r_sbo_gtr (And.intro @r_sbo_leq (And.intro @r_sbo_geq (And.intro @r_ok_alloc' (And.intro @r_s_alloc' (And.intro @r_isD1_d (And.intro @r_isD1_nils (And.intro @r_isD1_osl (And.intro @r_toD1_d (And.intro @r_toD1_nils (And.intro @r_toD1_osl (And.intro @r_ref1_d (And.intro @r_ref1_nils (And.intro @r_ref1_osl (And.intro @r_renE_nil (And.intro @r_renE_cons (And.intro @r_renS_nil (And.intro @r_renV_d (And.intro @r_renV_nils (And.intro @r_renV_eptr (And.intro @r_renV_ptr (And.intro @r_renV_aptr (And.intro @r_renV_osl (And.intro @r_idxIn_nil (And.intro @r_idxIn_cons (And.intro @r_retK_ret (And.intro @r_retK_normal (And.intro @r_resOk_nil (And.intro @r_resOk_cons (And.intro @r_resOk1_tmp (And.intro @r_resOk1_cell (And.intro @r_resV1_tmp (And.intro @r_resV1_cell (And.intro @r_resV_one (And.intro @r_resV_nil (@r_resV_two))))))))))))))))))))))))))))))))))))))))))))))
end Go.AM


set_option linter.unusedSimpArgs false
namespace Go.AM
variable {P : Program} {Gl : Globs} {n m : Nat} {env : Env} {σ : Sto} {K : AExit → Env → Sto → Prop}
theorem weak_to (fz ρ : List Nat) {e' : Env} {s' : Sto} (hm : ρ.take m = List.range m) (hnd : ρ.Nodup) (he : renE (e'.map (·.1)) ρ (freezeL σ fz) env = e') (hs : renS ρ (freezeL σ fz) = s') : Weak n m env σ e' s' := by
 have := weak_ren (n := n) (e'.map (·.1)) fz ρ hm hnd env σ
 rw [he, hs] at this
 exact this
theorem weakR_to (fz ρ : List Nat) {r r' : AV} {s' : Sto} (hm : ρ.take m = List.range m) (hnd : ρ.Nodup) (he : renV ρ (freezeL σ fz) r = r') (hs : renS ρ (freezeL σ fz) = s') : WeakR m r σ r' s' := by
 have := weakR_ren (m := m) fz ρ hm hnd r σ
 rw [he, hs] at this
 exact this
theorem evOps_mono {all : Array Oper} {draw : Bool} {K1 K2 : Env → Sto → Prop} (hk : ∀ e s, K1 e s → K2 e s) : ∀ (l : List Oper) (env : Env) (σ : Sto), evOps P Gl n all draw l env σ K1 → evOps P Gl n all draw l env σ K2
 | [], _, _, h => hk _ _ h
 | o :: l, env, σ, h => by
  simp only [evOps] at h ⊢
  refine ⟨h.1, ?_⟩
  have h2 := h.2
  cases hg : o.guard with
  | none =>
   rw [hg] at h2
   simp only at h2 ⊢
   refine ⟨h2.1, ?_⟩
   have h3 := h2.2
   by_cases hc : isCall o.op = true
   ·rw [if_pos hc] at h3 ⊢
    by_cases hd : draw = true
    ·rw [if_pos hd] at h3 ⊢
     rcases h3 with ⟨r0, h4, h5⟩ | ⟨h4, h5, h6⟩ | h6
     ·exact .inl ⟨r0, h4, evOps_mono hk l _ _ h5⟩
     rotate_left
     ·exact .inr (.inr h6)
     ·refine .inr (.inl ⟨h4, h5, ?_⟩)
      revert h6
      unfold evCallOp
      split
      ·split
       ·split
        ·exact fun h => h.mono fun r s h => hk _ _ h
        ·exact id
       ·exact id
      ·exact id
    ·rw [if_neg hd] at h3 ⊢
     revert h3
     unfold evCallOp
     split
     ·split
      ·split
       ·exact fun h => h.mono fun r s h => evOps_mono hk l _ _ h
       ·exact id
      ·exact id
     ·exact id
   ·rw [if_neg hc] at h3 ⊢
    exact ⟨h3.1, evOps_mono hk l _ _ h3.2⟩
  | some jb =>
   obtain ⟨j, b⟩ := jb
   rw [hg] at h2
   simp only at h2 ⊢
   by_cases ha : addOp o.op = true
   ·rw [if_pos ha] at h2 ⊢
    exact ⟨h2.1, h2.2.1, h2.2.2.1, h2.2.2.2.1, evOps_mono hk l _ _ h2.2.2.2.2⟩
   rw [if_neg ha] at h2 ⊢
   refine ⟨h2.1, h2.2.1, h2.2.2.1, ?_⟩
   have h3 := h2.2.2.2
   by_cases hc : isCall o.op = true
   ·rw [if_pos hc] at h3 ⊢
    obtain ⟨r0, h4, h5⟩ := h3
    exact ⟨r0, h4, evOps_mono hk l _ _ h5⟩
   ·rw [if_neg hc] at h3 ⊢
    exact ⟨h3.1, evOps_mono hk l _ _ h3.2⟩
theorem blockK_mono {K1 K2 : AExit → Env → Sto → Prop} {id : Nat} (hk : ∀ e env s, K1 e env s → K2 e env s) : ∀ e env s, blockK id K1 e env s → blockK id K2 e env s := by
 intro e env s h
 cases e with
 | exit i =>
  simp only [blockK] at h ⊢
  split
  ·rename_i hi; rw [if_pos hi] at h; exact hk _ _ _ h
  ·rename_i hi; rw [if_neg hi] at h; exact hk _ _ _ h
 | _ => exact hk _ _ _ h
theorem evAny_mono {all : Array Oper} {K1 K2 : Env → Sto → Prop} (hk : ∀ e s, K1 e s → K2 e s) : ∀ (f : Nat) (listed : Array Bool) (e : Env) (s : Sto), evAny P Gl n all K1 f listed e s → evAny P Gl n all K2 f listed e s
 | 0, _, _, _, h => ⟨h.1, hk _ _ h.2⟩
 | f + 1, _, _, _, h => ⟨fun h1 => hk _ _ (h.1 h1), fun i hi => by
   obtain ⟨o, h1, h2⟩ := h.2 i hi
   exact ⟨o, h1, evOps_mono (fun e s h => evAny_mono hk f _ e s h) _ _ _ h2⟩⟩
theorem drawOk_mono {all : Array Oper} {env : Env} {σ : Sto} {K1 K2 : Env → Sto → Prop} (hk : ∀ e s, K1 e s → K2 e s) (h : drawOk P Gl n m all env σ K1) : drawOk P Gl n m all env σ K2 := by
 rcases h with h | h | ⟨hl, k, f, h1, h2, h3⟩ | ⟨J, h1, h2, h3⟩
 ·exact .inl h
 ·exact .inr (.inl h)
 ·exact .inr (.inr (.inl ⟨hl, k, f, h1, h2, evOps_mono (fun e s h => evAny_mono (fun e s ⟨e0, g1, g2⟩ => ⟨e0, g1, hk _ _ g2⟩) f _ e s h) _ _ _ h3⟩))
 ·exact .inr (.inr (.inr ⟨J, h1, fun l e s a b c => hk _ _ (h2 l e s a b c), h3⟩))
theorem evC_mono : ∀ (c : Code) {env : Env} {σ : Sto} {K1 K2 : AExit → Env → Sto → Prop}, (∀ e env s, K1 e env s → K2 e env s) → evC P Gl n m c env σ K1 → evC P Gl n m c env σ K2 := by
 intro c
 induction c with
 | skip => intro env σ K1 K2 hk h; exact hk _ _ _ h
 | region id ops draw => intro env σ K1 K2 hk h; exact ⟨fun hd => drawOk_mono (fun e s h => hk _ e s h) (h.1 hd), evOps_mono (fun e s h => hk _ e s h) _ _ _ h.2⟩
 | seq x y ihx ihy => intro env σ K1 K2 hk h; exact ihx (thenK_mono hk fun e s h => ihy hk h) h
 | cond c x y ihx ihy => intro env σ K1 K2 hk h; exact ⟨h.1, h.2.1, fun ht => ihx hk (h.2.2.1 ht), fun ht => ihy hk (h.2.2.2 ht)⟩
 | block id c ih => intro env σ K1 K2 hk h; exact ih (blockK_mono hk) h
 | loop c ih =>
  intro env σ K1 K2 hk h
  obtain ⟨Inv, ν, h0, hs⟩ := h
  exact ⟨Inv, ν, h0, fun e s hi => ih (thenK_mono hk fun _ _ h => h) (hs e s hi)⟩
 | exit id => intro env σ K1 K2 hk h; exact hk _ _ _ h
 | ret => intro env σ K1 K2 hk h; exact hk _ _ _ h
 | scope c ih => intro env σ K1 K2 hk h; exact ih hk h
 | label l => intro env σ K1 K2 hk h; exact hk _ _ _ h
 | _ => intro env σ K1 K2 hk h; exact h.elim
theorem loop_of {c : Code} {τ : Type} (E : τ → Env) (S : τ → Sto) (Inv : τ → Prop) (ν : τ → Nat) (x0 : τ) (h0 : Inv x0) (hw : Weak n m env σ (E x0) (S x0))
  (hs : ∀ x, Inv x → evC P Gl n m c (E x) (S x) (thenK K fun e s => ∃ y, Inv y ∧ ν y < ν x ∧ Weak n m e s (E y) (S y))) :
  evC P Gl n m (.loop c) env σ K := by
 classical
 let μ : Env → Sto → Nat := fun e s => if h : ∃ k, ∃ x, Inv x ∧ e = E x ∧ s = S x ∧ ν x = k then Classical.choose (exists_least h) else 0
 have hμ : ∀ x, Inv x → (∃ y, Inv y ∧ E x = E y ∧ S x = S y ∧ ν y = μ (E x) (S x)) ∧ μ (E x) (S x) ≤ ν x := fun x hx => by
  have h : ∃ k, ∃ y, Inv y ∧ E x = E y ∧ S x = S y ∧ ν y = k := ⟨_, x, hx, rfl, rfl, rfl⟩
  have e : μ (E x) (S x) = Classical.choose (exists_least h) := by simp only [μ]; rw [dif_pos h]
  rw [e]
  have := Classical.choose_spec (exists_least h)
  exact ⟨this.1, this.2 _ ⟨x, hx, rfl, rfl, rfl⟩⟩
 refine ⟨fun e s => ∃ x, Inv x ∧ e = E x ∧ s = S x, μ, ⟨_, _, hw, x0, h0, rfl, rfl⟩, ?_⟩
 rintro e s ⟨x, hx, rfl, rfl⟩
 obtain ⟨⟨y, hy, e1, e2, e3⟩, _⟩ := hμ x hx
 rw [e1, e2]
 rw [e1, e2] at e3
 refine evC_mono _ (fun a b c h => ?_) (hs y hy)
 revert h
 refine thenK_mono (fun _ _ _ h => h) (fun e s h => ?_) a b c
 obtain ⟨z, hz, hlt, hw⟩ := h
 refine ⟨_, _, hw, ⟨z, hz, rfl, rfl⟩, ?_⟩
 have := (hμ z hz).2
 omega
theorem for_of {c : Code} (N : Nat) (E : Nat → Env) (S : Nat → Sto) (Inv : Nat → Prop) (h0 : Inv 0) (hw : Weak n m env σ (E 0) (S 0))
  (hs : ∀ k, Inv k → k ≤ N → evC P Gl n m c (E k) (S k) (thenK K fun e s => k < N ∧ Inv (k + 1) ∧ Weak n m e s (E (k + 1)) (S (k + 1)))) :
  evC P Gl n m (.loop c) env σ K :=
 loop_of E S (fun k => Inv k ∧ k ≤ N) (fun k => N - k) 0 ⟨h0, Nat.zero_le _⟩ hw fun k hk => evC_mono _ (thenK_mono (fun _ _ _ h => h) fun _ _ h => ⟨k + 1, ⟨h.2.1, by omega⟩, by omega, h.2.2⟩) (hs k hk.1 hk.2)
end Go.AM


namespace Go.AM
def backId (ρ : List Nat) (N : Nat) (j : Nat) : Nat := if j < ρ.length then ρ.getD j 0 else N + (j - ρ.length)
mutual
def back (b : Nat → Nat) : AV → AV
 | .undef => .undef
 | .d x => .d x
 | .nils => .nils
 | .agg cs => .agg (backL b cs)
 | .ptr id off => .ptr (b id) off
 | .eptr es xs i off => .eptr es xs i off
 | .aptr id i off => .aptr (b id) i off
 | .osl id off len => .osl (b id) off len
 | .rsl id len => .rsl (b id) len
 | .fn f caps => .fn f (backL b caps)
 | .tup vs => .tup (backL b vs)
 | .iff g v => .iff g (back b v)
 | .mapr id => .mapr (b id)
 | .anyb => .anyb
def backL (b : Nat → Nat) : List AV → List AV
 | [] => []
 | c :: r => back b c :: backL b r
end
theorem backL_map (b : Nat → Nat) : ∀ l : List AV, backL b l = l.map (back b)
 | [] => rfl
 | c :: r => by rw [backL, backL_map b r]; rfl
def backB (b : Nat → Nat) : Blk → Blk
 | .box n v => .box n (back b v)
 | .map ik f => .map ik fun k => (f k).map (back b)
 | B => B
def backS (ρ : List Nat) (σ s : Sto) : Sto := (List.range (σ.length + (s.length - ρ.length))).map fun id =>
 match idxIn ρ id with
 | some j => backB (backId ρ σ.length) (blkAt s j)
 | none => if id < σ.length then blkAt σ id else backB (backId ρ σ.length) (blkAt s (ρ.length + (id - σ.length)))
variable {P : Program} {Gl : Globs} {w w' : World} {I I' : Im} {μ μ' : Pos} {σ s s' : Sto}
theorem backB_spec (b : Nat → Nat) (B : Blk) : (backB b B).isDead = B.isDead ∧ (backB b B).isArr = B.isArr ∧ (backB b B).es = B.es ∧ (backB b B).xs = B.xs ∧ (backB b B).own = B.own := by
 cases B <;> exact ⟨rfl, rfl, rfl, rfl, rfl⟩
theorem back_one (b : Nat → Nat) (v : AV) : (back b v).one = v.one := by
 cases v <;> rfl
theorem RepD.im (h : ∀ b, I.rd b → I'.rd b) {v : Value} {x : D} (hv : RepD w I v x) : RepD w I' v x := hv.keep h (fun _ _ => rfl)
theorem back_rep {b : Nat → Nat} (hI : ∀ x, I.rd x → I'.rd x)
  (hb : ∀ j < s.length, b j < s'.length ∧ (alive s' (b j) → alive s j ∧ μ' (b j) = μ j ∧ (blkAt s' (b j)).isArr = (blkAt s j).isArr ∧ (blkAt s' (b j)).es = (blkAt s j).es ∧ (blkAt s' (b j)).xs = (blkAt s j).xs))
  {v : Value} {u : AV} (hv : RepV w I μ s v u) : RepV w I' μ' s' v (back b u) := by
 have lst : ∀ {vs : List Value} {cs : List AV}, (∀ (i : Nat) (v : Value) (x : AV), vs[i]? = some v → cs[i]? = some x → RepV w I' μ' s' v (back b x)) → ∀ (i : Nat) (v : Value) (x : AV), vs[i]? = some v → (backL b cs)[i]? = some x → RepV w I' μ' s' v x := fun {vs cs} h i v x hv hx => by
  rw [backL_map, List.getElem?_map] at hx
  cases hc : cs[i]? with
  | none => rw [hc] at hx; cases hx
  | some c =>
   rw [hc] at hx
   simp only [Option.map_some, Option.some.injEq] at hx
   subst hx
   exact h i v c hv hc
 induction hv with
 | undef v => exact .undef v
 | d v x h => exact .d v x (h.im hI)
 | nils => exact .nils
 | agg vs cs hl hone h ih =>
  refine .agg vs _ (by rw [backL_map]; simpa using hl) (fun c hc => ?_) (lst ih)
  rw [backL_map] at hc
  obtain ⟨c', hc', rfl⟩ := List.mem_map.1 hc
  rw [back_one]; exact hone c' hc'
 | ptr v id off hid h =>
  obtain ⟨q1, q2⟩ := hb id hid
  obtain ⟨b', base, h1, h2⟩ := h
  exact .ptr v _ off q1 ⟨b', base, fun ha => by rw [(q2 ha).2.1]; exact h1 (q2 ha).1, h2⟩
 | eptr b' o es xs i off h => exact .eptr b' o es xs i off (h.keep hI (fun _ _ => rfl))
 | aptr v id i off hid h =>
  obtain ⟨q1, q2⟩ := hb id hid
  obtain ⟨b', base, es, h1, h2⟩ := h
  exact .aptr v _ i off q1 ⟨b', base, es, fun ha => by obtain ⟨a1, a2, a3, a4, a5⟩ := q2 ha; rw [a2, a4]; exact h1 a1, h2⟩
 | osl v id off len hid h =>
  obtain ⟨q1, q2⟩ := hb id hid
  refine .osl v _ off len q1 ?_
  rcases h with h | ⟨b', base, es, cap, h1, h2, h3⟩
  ·exact .inl h
  ·refine .inr ⟨b', base, es, cap, fun ha => ?_, h2, h3⟩
   obtain ⟨a1, a2, a3, a4, a5⟩ := q2 ha
   rw [a2, a3, a4, a5]; exact h1 a1
 | rsl v id len hid h =>
  obtain ⟨q1, q2⟩ := hb id hid
  obtain ⟨b', base, cap, h1, h2⟩ := h
  exact .rsl v _ len q1 ⟨b', base, cap, fun ha => by rw [(q2 ha).2.1]; exact h1 (q2 ha).1, h2⟩
 | fn f vs caps hl h ih => exact .fn f vs _ (by rw [backL_map]; simpa using hl) (lst ih)
 | tup vs cs hl h ih => exact .tup vs _ (by rw [backL_map]; simpa using hl) (lst ih)
 | iff g v x h1 h2 ih => exact .iff g v _ ih h2
 | mapr v id hid h =>
  obtain ⟨q1, q2⟩ := hb id hid
  obtain ⟨b', h1, h2⟩ := h
  exact .mapr v _ q1 ⟨b', fun ha => by rw [(q2 ha).2.1]; exact h1 (q2 ha).1, h2⟩
 | anyb c => exact .anyb c
theorem back_cells (b : Nat → Nat) (v : AV) (j : Nat) (hj : j < v.ncells) : (back b v).ncells = v.ncells ∧ (back b v).cellAt j = back b (v.cellAt j) := by
 cases v with
 | agg cs =>
  simp only [back, AV.ncells, backL_map] at hj ⊢
  refine ⟨by simp, ?_⟩
  simp only [AV.cellAt, List.getD_eq_getElem?_getD, List.getElem?_map, List.getElem?_eq_getElem hj, Option.map_some, Option.getD_some]
 | _ => exact ⟨rfl, rfl⟩
theorem backS_len (ρ : List Nat) (σ s : Sto) : (backS ρ σ s).length = σ.length + (s.length - ρ.length) := by simp [backS]
theorem blkAt_backS {ρ : List Nat} {σ s : Sto} {id : Nat} (h : id < σ.length + (s.length - ρ.length)) : blkAt (backS ρ σ s) id = (match idxIn ρ id with
  | some j => backB (backId ρ σ.length) (blkAt s j)
  | none => if id < σ.length then blkAt σ id else backB (backId ρ σ.length) (blkAt s (ρ.length + (id - σ.length)))) := by
 conv => lhs; unfold blkAt backS
 rw [List.getD_eq_getElem?_getD, List.getElem?_map, List.getElem?_range h]
 rfl
theorem idxIn_of {ρ : List Nat} (hnd : ρ.Nodup) {j : Nat} (hj : j < ρ.length) : idxIn ρ (ρ.getD j 0) = some j := by
 have e : ρ.getD j 0 = ρ[j] := by simp [hj]
 rw [e]
 unfold idxIn
 rw [List.findIdx?_eq_some_iff_getElem]
 refine ⟨hj, by simp, fun k hk => ?_⟩
 simp only [beq_iff_eq]
 intro he
 have := (List.getElem_inj hnd).1 he
 omega
theorem idxIn_none {ρ : List Nat} {id : Nat} (h : idxIn ρ id = none) : id ∉ ρ := by
 unfold idxIn at h
 rw [List.findIdx?_eq_none_iff] at h
 intro hm
 have := h id hm
 simp at this
mutual
theorem back_id : ∀ u : AV, back (fun j => j) u = u
 | .undef | .d _ | .nils | .ptr .. | .eptr .. | .aptr .. | .osl .. | .rsl .. | .mapr _ | .anyb => by simp [back]
 | .agg cs => by rw [back, backL_id cs]
 | .fn f caps => by rw [back, backL_id caps]
 | .tup vs => by rw [back, backL_id vs]
 | .iff g v => by rw [back, back_id v]
theorem backL_id : ∀ l : List AV, backL (fun j => j) l = l
 | [] => by simp [backL]
 | c :: r => by rw [backL, back_id c, backL_id r]
end
theorem RepV.im (h : ∀ b, I.rd b → I'.rd b) {v : Value} {u : AV} (hv : RepV w I μ s v u) : RepV w I' μ s v u := by
 have := back_rep (I' := I') (μ' := μ) (s' := s) (b := fun j => j) h (fun j hj => ⟨hj, fun ha => ⟨ha, rfl, rfl, rfl, rfl⟩⟩) hv
 rwa [back_id] at this
theorem plain_lt {b : Nat} (h : plainBlk w b) : b < w.heap.size := by
 obtain ⟨c, t, hc⟩ := h
 rcases Nat.lt_or_ge b w.heap.size with h' | h'
 ·exact h'
 ·rw [Array.getElem?_eq_none h'] at hc; cases hc
theorem own_pos (hR : Rel w I μ σ) {id : Nat} (ho : (blkAt σ id).own = true) {b o : Nat} (hm : μ id = some (b, o)) : b < w.heap.size ∧ ¬ I.fr b := by
 have hb := hR.blk id (blkAt_own_lt ho)
 cases hB : blkAt σ id with
 | box k v =>
  rw [hB] at hb
  obtain ⟨b', base, h1, h2, h3, _⟩ := hb
  rw [hm] at h1; cases h1
  exact ⟨plain_lt h3, h2⟩
 | arr es xs =>
  rw [hB] at hb
  rcases hb with ⟨h1, _⟩ | ⟨b', base, h1, h2, h3, _⟩
  ·rw [hm] at h1; cases h1
  ·rw [hm] at h1; cases h1
   exact ⟨plain_lt h3, h2⟩
 | map ik f =>
  rw [hB] at hb
  obtain ⟨b', es, clock, h1, h2, h3, _⟩ := hb
  rw [hm] at h1; cases h1
  refine ⟨?_, h2⟩
  rcases Nat.lt_or_ge b w.heap.size with h' | h'
  ·exact h'
  ·rw [Array.getElem?_eq_none h'] at h3; cases h3
 | _ => rw [hB] at ho; simp [Blk.own] at ho
theorem BlkRep.im {id id' : Nat} {B : Blk} {b : Nat → Nat} (hI : ∀ x, I.rd x → I'.rd x) (hf : B.own = true → ∀ x o, μ id = some (x, o) → ¬ I.fr x → ¬ I'.fr x)
  (hμ : μ' id' = μ id) (hv : ∀ {v : Value} {u : AV}, RepV w I μ s v u → RepV w I' μ' s' v (back b u)) (hb : BlkRep w I μ s id B) : BlkRep w I' μ' s' id' (backB b B) := by
 cases B with
 | dead => trivial
 | box k v =>
  obtain ⟨x, base, h1, h2, h3, h4, h5, h6⟩ := hb
  refine ⟨x, base, hμ.trans h1, hf rfl x base h1 h2, h3, h4, ?_, fun q hq => ?_⟩
  ·rcases Nat.eq_zero_or_pos v.ncells with hz | hp
   ·cases v <;> simp_all [AV.ncells, back, backL_map]
   ·rw [(back_cells b v 0 hp).1]; exact h5
  ·obtain ⟨a0, u, a1, a2⟩ := h6 q hq
   rw [(back_cells b v q (by omega)).2, back_one]
   exact ⟨a0, u, a1, hv a2⟩
 | arr es xs =>
  rcases hb with hb | ⟨x, base, h1, h2, h3, h4, h5, h6, h7⟩
  ·exact .inl ⟨hμ.trans hb.1, hb.2⟩
  ·exact .inr ⟨x, base, hμ.trans h1, hf rfl x base h1 h2, h3, h4, h5, h6, fun i q x y hx hy => by obtain ⟨v, a1, a2⟩ := h7 i q x y hx hy; exact ⟨v, a1, a2.im hI⟩⟩
 | frz es xs =>
  rcases hb with hb | ⟨x, base, h1, h2⟩
  ·exact .inl ⟨hμ.trans hb.1, hb.2⟩
  ·exact .inr ⟨x, base, hμ.trans h1, SlAt.keep (w := w) hI (fun _ _ => rfl) h2⟩
 | map ik f =>
  obtain ⟨x, es, clock, h1, h2, h3, h4⟩ := hb
  exact ⟨x, es, clock, hμ.trans h1, hf rfl x 0 h1 h2, h3, h4.imp fun v u hr => hv hr⟩
theorem ACalls.under {f : FuncId} {args : List AV} {R : AV → Sto → Prop} (ρ : List Nat) (hnd : ρ.Nodup) (hlt : ∀ id ∈ ρ, id < σ.length) (h : ACalls P Gl f (args.map (renV ρ σ)) (renS ρ σ) R) :
  ACalls P Gl f args σ (fun r s => ∃ r0 s0, R r0 s0 ∧ r = back (backId ρ σ.length) r0 ∧ s = backS ρ σ s0) := by
 intro w I μ vals hR hG hl hv
 let given : Nat → Prop := fun b => ∃ id ∈ ρ, (blkAt σ id).own = true ∧ ∃ o, μ id = some (b, o)
 let J : Im := { rd := I.rd, fr := fun b => b < w.heap.size ∧ ¬ given b, sub := fun b hb => ⟨hR.imm b (I.sub b hb), fun ⟨id, _, ho, o, hm⟩ => (own_pos hR ho hm).2 (I.sub b hb)⟩ }
 have frJ : ∀ b, I.fr b → J.fr b := fun b hb => ⟨hR.imm b hb, fun ⟨id, _, ho, o, hm⟩ => (own_pos hR ho hm).2 hb⟩
 obtain ⟨r1, r2⟩ := ren_ok (m := 0) hR (ρ := ρ) rfl hnd
 have hlen0 : (renS ρ σ).length = ρ.length := by simp [renS]
 have own0 : ∀ j, (blkAt (renS ρ σ) j).own = true → ∃ id, ρ[j]? = some id ∧ (blkAt σ id).own = true := fun j hj => by
  have hl := blkAt_own_lt hj
  rw [hlen0] at hl
  have hs : ρ[j]? = some ρ[j] := List.getElem?_eq_getElem hl
  refine ⟨ρ[j], hs, ?_⟩
  rw [blkAt_renS hs] at hj
  cases hB : blkAt σ ρ[j] with
  | box k v => rfl
  | arr es xs => rfl
  | map ik f => rfl
  | _ => rw [hB] at hj; simp [renB, Blk.own] at hj
 have posR : ∀ j id, ρ[j]? = some id → renPos ρ μ j = μ id := fun j id hj => by unfold renPos; rw [hj]
 have notJ : ∀ j, (blkAt (renS ρ σ) j).own = true → ∀ b o, renPos ρ μ j = some (b, o) → ¬ J.fr b := fun j hj b o hm hf => by
  obtain ⟨id, h1, h2⟩ := own0 j hj
  rw [posR j id h1] at hm
  exact hf.2 ⟨id, List.mem_of_getElem? h1, h2, o, hm⟩
 have backBid : ∀ B : Blk, backB (fun j => j) B = B := fun B => by
  cases B with
  | map ik f =>
   simp only [backB]
   congr 1
   funext k
   cases f k <;> simp [back_id]
  | _ => simp [backB, back_id]
 have hRJ : Rel w J (renPos ρ μ) (renS ρ σ) := by
  refine ⟨fun b hb => hb.1, fun j hj => ?_, r1.apart⟩
  have := BlkRep.im (w := w) (I := I) (I' := J) (s := renS ρ σ) (μ' := renPos ρ μ) (s' := renS ρ σ) (id' := j) (b := fun j => j) (fun _ h => h) (fun ho b o hm _ => notJ j ho b o hm) rfl (fun {v u} hv => by rw [back_id]; exact RepV.im (I := I) (I' := J) (fun _ h => h) hv) (r1.blk j hj)
  rwa [backBid] at this
 have hGJ : GlOk Gl w J := ⟨fun p hp => SlAt.keep (w := w) (I := I) (I' := J) (fun _ h => h) (fun _ _ => rfl) (hG.sl p hp), hG.ex⟩
 refine (h w J (renPos ρ μ) vals hRJ hGJ (by simp [hl]) fun i v u hv' hu => ?_).mono fun v w' ⟨r0, s0, I1, μ1, q1, q2, q3, q4⟩ => ?_
 ·rw [List.getElem?_map] at hu
  cases ha : args[i]? with
  | none => rw [ha] at hu; cases hu
  | some a =>
   rw [ha] at hu
   simp only [Option.map_some, Option.some.injEq] at hu
   subst hu
   exact RepV.im (I := I) (I' := J) (fun _ h => h) (renV_rep hR (hv i v a hv' ha))
 ·have hge : ρ.length ≤ s0.length := by have := q2.len; omega
  let I2 : Im := { rd := I1.rd, fr := fun b => I.fr b ∨ I1.rd b, sub := fun b hb => .inr hb }
  let N := σ.length
  let s2 := backS ρ σ s0
  let μ2 : Pos := fun id => match idxIn ρ id with | some j => μ1 j | none => if id < N then μ id else μ1 (ρ.length + (id - N))
  have s2len : s2.length = N + (s0.length - ρ.length) := backS_len ρ σ s0
  have hρ : ∀ j, j < ρ.length → ρ.getD j 0 ∈ ρ := fun j hj => by simp [hj]
  have hnone : ∀ id, N ≤ id → idxIn ρ id = none := fun id hid => by
   cases hx : idxIn ρ id with
   | none => rfl
   | some j => have := hlt id (List.mem_of_getElem? (idxIn_spec hx)); omega
  have factB : ∀ j, j < s0.length → backId ρ N j < s2.length ∧ blkAt s2 (backId ρ N j) = backB (backId ρ N) (blkAt s0 j) ∧ μ2 (backId ρ N j) = μ1 j := fun j hj => by
   by_cases hj2 : j < ρ.length
   ·have e : backId ρ N j = ρ.getD j 0 := by unfold backId; rw [if_pos hj2]
    have hlt' : ρ.getD j 0 < N := hlt _ (hρ j hj2)
    rw [e]
    refine ⟨by omega, ?_, ?_⟩
    ·show blkAt (backS ρ σ s0) _ = _
     rw [blkAt_backS (by omega), idxIn_of hnd hj2]
    ·simp only [μ2]; rw [idxIn_of hnd hj2]
   ·have e : backId ρ N j = N + (j - ρ.length) := by unfold backId; rw [if_neg hj2]
    rw [e]
    refine ⟨by omega, ?_, ?_⟩
    ·show blkAt (backS ρ σ s0) _ = _
     rw [blkAt_backS (by omega), hnone _ (by omega)]
     simp only
     rw [if_neg (by omega)]
     congr 2; omega
    ·simp only [μ2]; rw [hnone _ (by omega)]
     simp only
     rw [if_neg (by omega)]
     congr 1; omega
  have factC : ∀ id, id < s2.length → (∃ j, j < s0.length ∧ id = backId ρ N j) ∨ (id < N ∧ id ∉ ρ ∧ blkAt s2 id = blkAt σ id ∧ μ2 id = μ id) := fun id hid => by
   cases hx : idxIn ρ id with
   | some j =>
    left
    have hs := idxIn_spec hx
    have hj : j < ρ.length := by
     rcases Nat.lt_or_ge j ρ.length with h' | h'
     ·exact h'
     ·rw [List.getElem?_eq_none h'] at hs; cases hs
    refine ⟨j, by omega, ?_⟩
    unfold backId; rw [if_pos hj, List.getD_eq_getElem?_getD, hs]; rfl
   | none =>
    by_cases hn : id < N
    ·right
     refine ⟨hn, idxIn_none hx, ?_, ?_⟩
     ·show blkAt (backS ρ σ s0) _ = _
      rw [blkAt_backS (by omega), hx]
      simp only
      rw [if_pos hn]
     ·simp only [μ2]; rw [hx]; simp only; rw [if_pos hn]
    ·left
     refine ⟨ρ.length + (id - N), by omega, ?_⟩
     unfold backId; rw [if_neg (by omega)]; omega
  have aliveB : ∀ j, j < s0.length → (alive s2 (backId ρ N j) → alive s0 j) := fun j hj ha => by
   unfold alive at *
   rw [(factB j hj).2.1, (backB_spec _ _).1] at ha
   exact ha
  have repB : ∀ {v : Value} {u : AV}, RepV w' I1 μ1 s0 v u → RepV w' I2 μ2 s2 v (back (backId ρ N) u) := fun {v u} hv =>
   back_rep (I := I1) (I' := I2) (fun _ h => h) (fun j hj => by
    obtain ⟨b1, b2, b3⟩ := factB j hj
    obtain ⟨_, c2, c3, c4, _⟩ := backB_spec (backId ρ N) (blkAt s0 j)
    exact ⟨b1, fun ha => ⟨aliveB j hj ha, b3, by rw [b2, c2], by rw [b2, c3], by rw [b2, c4]⟩⟩) hv
  have kp : Keep N w I μ σ w' I2 μ2 s2 := by
   refine ⟨q2.os, q2.tape, q2.output, q2.size, q2.imm, fun b hb => .inl hb, fun b hb => ?_, fun b hb => q2.same b (frJ b hb), q2.bsize, by omega, fun id hid ha => ?_⟩
   ·rcases q2.rdn b hb with h1 | h1
    ·exact .inl h1
    ·exact .inr fun hf => h1 (frJ b hf)
   ·rcases factC id (by omega) with ⟨j, hj, rfl⟩ | ⟨_, _, c3, c4⟩
    ·obtain ⟨b1, b2, b3⟩ := factB j hj
     obtain ⟨_, c2, c3, c4, _⟩ := backB_spec (backId ρ N) (blkAt s0 j)
     have hj2 : j < ρ.length := by
      rcases Nat.lt_or_ge j ρ.length with h' | h'
      ·exact h'
      ·unfold backId at hid; rw [if_neg (by omega)] at hid; omega
     have hs : ρ[j]? = some (backId ρ N j) := by
      unfold backId; rw [if_pos hj2]; simp [hj2]
     obtain ⟨o1, o2, o3, o4, o5⟩ := q2.old j (by omega) (aliveB j hj ha)
     have hb0 := blkAt_renS (σ := σ) hs
     obtain ⟨d1, d2, d3⟩ := renB_arr ρ σ (blkAt σ (backId ρ N j))
     refine ⟨?_, ?_, ?_, ?_, ?_⟩
     ·unfold alive at o1 ⊢; rw [hb0] at o1; exact renB_alive o1
     ·rw [b3, o2]; exact posR j _ hs
     ·rw [b2, c2, o3, hb0, d1]
     ·rw [b2, c3, o4, hb0, d2]
     ·rw [b2, c4]; rw [hb0, d3] at o5; exact o5
    ·unfold alive at ha ⊢
     rw [c3] at ha
     exact ⟨ha, c4, by rw [c3], by rw [c3], by rw [c3]; exact Nat.le_refl _⟩
  have ownC : ∀ id, id ∉ ρ → (blkAt σ id).own = true → ∀ b o, μ id = some (b, o) → J.fr b := fun id hid ho b o hm =>
   ⟨(own_pos hR ho hm).1, fun ⟨id', h1, h2, o', h3⟩ => hR.apart id id' b b o o' (fun e => hid (e ▸ h1)) ho h2 hm h3 rfl⟩
  refine ⟨back (backId ρ N) r0, s2, I2, μ2, ?_, kp, repB q3, r0, s0, q4, rfl, rfl⟩
  refine ⟨fun b hb => ?_, fun id hid => ?_, fun i j b b' o o' hij hi hj hμi hμj => ?_⟩
  ·rcases hb with hb | hb
   ·exact Nat.lt_of_lt_of_le (hR.imm b hb) q2.size
   ·exact q1.imm b (I1.sub b hb)
  ·rcases factC id hid with ⟨j, hj, rfl⟩ | ⟨c1, c2, c3, c4⟩
   ·obtain ⟨b1, b2, b3⟩ := factB j hj
    rw [b2]
    refine BlkRep.im (I := I1) (I' := I2) (fun _ h => h) (fun ho b o hm hn hf => ?_) b3 repB (q1.blk j hj)
    rcases hf with hf | hf
    ·exact hn (q2.fr b (frJ b hf))
    ·exact hn (I1.sub b hf)
   ·rw [c3]
    refine BlkRep.keep kp c4 (fun ho b o hm => ?_) (hR.blk id c1)
    have hJ := ownC id c2 ho b o hm
    refine ⟨q2.same b hJ, fun hn hf => ?_⟩
    rcases hf with hf | hf
    ·exact hn hf
    ·rcases q2.rdn b hf with h1 | h1
     ·exact hn (I.sub b h1)
     ·exact h1 hJ
  ·rcases factC i (blkAt_own_lt hi) with ⟨j1, hj1, rfl⟩ | ⟨c1, c2, c3, c4⟩ <;> rcases factC j (blkAt_own_lt hj) with ⟨j2, hj2, rfl⟩ | ⟨e1, e2, e3, e4⟩
   ·rw [(factB j1 hj1).2.1, (backB_spec _ _).2.2.2.2] at hi
    rw [(factB j2 hj2).2.1, (backB_spec _ _).2.2.2.2] at hj
    rw [(factB j1 hj1).2.2] at hμi
    rw [(factB j2 hj2).2.2] at hμj
    exact q1.apart j1 j2 b b' o o' (fun e => hij (by rw [e])) hi hj hμi hμj
   ·rw [(factB j1 hj1).2.1, (backB_spec _ _).2.2.2.2] at hi
    rw [(factB j1 hj1).2.2] at hμi
    rw [e3] at hj
    rw [e4] at hμj
    intro e
    subst e
    exact (own_pos q1 hi hμi).2 (q2.fr _ (ownC j e2 hj _ _ hμj))
   ·rw [(factB j2 hj2).2.1, (backB_spec _ _).2.2.2.2] at hj
    rw [(factB j2 hj2).2.2] at hμj
    rw [c3] at hi
    rw [c4] at hμi
    intro e
    subst e
    exact (own_pos q1 hj hμj).2 (q2.fr _ (ownC i c2 hi _ _ hμi))
   ·rw [c3] at hi
    rw [c4] at hμi
    rw [e3] at hj
    rw [e4] at hμj
    exact hR.apart i j b b' o o' hij hi hj hμi hμj
theorem backS_nil (σ : Sto) : backS [] σ [] = σ := by
 unfold backS
 simp only [List.length_nil, Nat.sub_zero, Nat.add_zero]
 apply List.ext_getElem?
 intro i
 rw [List.getElem?_map]
 rcases Nat.lt_or_ge i σ.length with h | h
 ·rw [List.getElem?_range h]
  simp only [Option.map_some, idxIn, List.findIdx?_nil, if_pos h]
  unfold blkAt
  simp [h]
 ·rw [List.getElem?_eq_none (by simpa using h), List.getElem?_eq_none h]; rfl
theorem ACalls.pure {f : FuncId} {args : List D} {y : D} (h : ACalls P Gl f (args.map AV.d) [] (fun r s => r = .d y ∧ s = [])) (s : Sto) : ACalls P Gl f (args.map AV.d) s (fun r s' => r = .d y ∧ s' = s) := by
 have e : (args.map AV.d).map (renV [] s) = args.map AV.d := by simp [renV, ren0]
 have h1 := ACalls.under (P := P) (Gl := Gl) (f := f) (args := args.map AV.d) (R := fun r s => r = .d y ∧ s = []) (σ := s) [] List.nodup_nil (by simp) (by rw [e]; exact h)
 refine h1.mono fun r s' h2 => ?_
 obtain ⟨r0, s0, ⟨h1, h2⟩, h3, h4⟩ := h2
 subst h1; subst h2; subst h3; subst h4
 exact ⟨by simp [back], backS_nil s⟩
end Go.AM


namespace Go.AM
theorem bRules0 : type_of% (And.intro @List.set_cons_zero.{0} (And.intro @List.set_cons_succ.{0} (And.intro @List.nil_append.{0} (And.intro @List.cons_append.{0} (And.intro @List.append_nil.{0} (And.intro @List.length_cons.{0} (And.intro @List.length_nil.{0} (And.intro @List.length_map.{0,0} (And.intro @List.map_cons.{0,0} (And.intro @List.map_nil.{0,0} (And.intro @List.getD_cons_zero.{0} (And.intro @List.getD_cons_succ.{0} (And.intro @List.drop_zero.{0} (And.intro @List.drop_succ_cons.{0} (And.intro @List.drop_nil.{0} (And.intro @List.take_zero.{0} (And.intro @List.take_succ_cons.{0} (And.intro @List.take_nil.{0} (And.intro @List.all_cons.{0} (And.intro @List.all_nil.{0} (And.intro @List.flatMap_cons.{0,0} (And.intro @List.flatMap_nil.{0,0} (And.intro @Int.toNat_natCast (And.intro @true_and (And.intro @and_true (And.intro @false_and (And.intro @and_false (And.intro @true_or (And.intro @or_true (And.intro @false_or (And.intro @or_false (And.intro @and_self (And.intro @or_self (And.intro @not_true_eq_false (And.intro @not_false_eq_true (And.intro @if_true.{1} (And.intro @if_false.{1} (And.intro @true_implies (And.intro @false_implies (And.intro @implies_true.{0} (And.intro @Option.isSome_some.{0} (And.intro @Option.map_some.{0,0} (And.intro @Option.map_none.{0,0} (And.intro @Bool.and_true (And.intro @Bool.true_and (And.intro @Bool.and_false (And.intro @Bool.false_and (And.intro @Bool.or_true (And.intro @Bool.true_or (And.intro @Bool.or_false (And.intro @Bool.false_or (And.intro @Bool.not_true (And.intro @Bool.not_false (And.intro @Bool.false_eq_true (And.intro @ne_eq.{1} (And.intro @Nat.le_refl (And.intro @Nat.zero_add (And.intro @Nat.add_zero (And.intro @decide_true (And.intro @decide_false (And.intro @Nat.zero_le (And.intro @cond_true.{1} (And.intro @cond_false.{1} (And.intro @Int.natCast_nonneg (And.intro @List.getElem?_cons_zero.{0} (And.intro @List.getElem?_cons_succ.{0} (And.intro @eq_self.{1} (And.intro @List.length_append.{0} (And.intro @List.getD_nil.{0} (And.intro @List.append_assoc.{0} (And.intro @List.length_set.{0} (And.intro @beq_true (And.intro @beq_false (And.intro @imp_self (And.intro @List.mem_cons.{0} (And.intro @List.not_mem_nil.{0} (And.intro @forall_eq_or_imp.{1} (And.intro @forall_eq.{1} (And.intro @Bool.cond_false_right (And.intro @Bool.cond_true_right (And.intro @Bool.cond_false_left (And.intro @Bool.cond_true_left (And.intro @Bool.cond_self.{1} (@Bool.not_not)))))))))))))))))))))))))))))))))))))))))))))))))))))))))))))))))))))))))))))))))))) := And.intro @List.set_cons_zero.{0} (And.intro @List.set_cons_succ.{0} (And.intro @List.nil_append.{0} (And.intro @List.cons_append.{0} (And.intro @List.append_nil.{0} (And.intro @List.length_cons.{0} (And.intro @List.length_nil.{0} (And.intro @List.length_map.{0,0} (And.intro @List.map_cons.{0,0} (And.intro @List.map_nil.{0,0} (And.intro @List.getD_cons_zero.{0} (And.intro @List.getD_cons_succ.{0} (And.intro @List.drop_zero.{0} (And.intro @List.drop_succ_cons.{0} (And.intro @List.drop_nil.{0} (And.intro @List.take_zero.{0} (And.intro @List.take_succ_cons.{0} (And.intro @List.take_nil.{0} (And.intro @List.all_cons.{0} (And.intro @List.all_nil.{0} (And.intro @List.flatMap_cons.{0,0} (And.intro @List.flatMap_nil.{0,0} (And.intro @Int.toNat_natCast (And.intro @true_and (And.intro @and_true (And.intro @false_and (And.intro @and_false (And.intro @true_or (And.intro @or_true (And.intro @false_or (And.intro @or_false (And.intro @and_self (And.intro @or_self (And.intro @not_true_eq_false (And.intro @not_false_eq_true (And.intro @if_true.{1} (And.intro @if_false.{1} (And.intro @true_implies (And.intro @false_implies (And.intro @implies_true.{0} (And.intro @Option.isSome_some.{0} (And.intro @Option.map_some.{0,0} (And.intro @Option.map_none.{0,0} (And.intro @Bool.and_true (And.intro @Bool.true_and (And.intro @Bool.and_false (And.intro @Bool.false_and (And.intro @Bool.or_true (And.intro @Bool.true_or (And.intro @Bool.or_false (And.intro @Bool.false_or (And.intro @Bool.not_true (And.intro @Bool.not_false (And.intro @Bool.false_eq_true (And.intro @ne_eq.{1} (And.intro @Nat.le_refl (And.intro @Nat.zero_add (And.intro @Nat.add_zero (And.intro @decide_true (And.intro @decide_false (And.intro @Nat.zero_le (And.intro @cond_true.{1} (And.intro @cond_false.{1} (And.intro @Int.natCast_nonneg (And.intro @List.getElem?_cons_zero.{0} (And.intro @List.getElem?_cons_succ.{0} (And.intro @eq_self.{1} (And.intro @List.length_append.{0} (And.intro @List.getD_nil.{0} (And.intro @List.append_assoc.{0} (And.intro @List.length_set.{0} (And.intro @beq_true (And.intro @beq_false (And.intro @imp_self (And.intro @List.mem_cons.{0} (And.intro @List.not_mem_nil.{0} (And.intro @forall_eq_or_imp.{1} (And.intro @forall_eq.{1} (And.intro @Bool.cond_false_right (And.intro @Bool.cond_true_right (And.intro @Bool.cond_false_left (And.intro @Bool.cond_true_left (And.intro @Bool.cond_self.{1} (@Bool.not_not)))))))))))))))))))))))))))))))))))))))))))))))))))))))))))))))))))))))))))))))))))
theorem bRules : type_of% (And.intro @bRules0 (And.intro @implies_true.{0} @implies_true.{1})) := And.intro @bRules0 (And.intro @implies_true.{0} @implies_true.{1})
theorem getD_map {α : Type} [Inhabited α] (f : α → D) (l : List α) (i : Nat) (h : i < l.length) : (l.map f).getD i default = f (l.getD i default) := by
 simp [h]
theorem wrap64 {n : Int} (h1 : -9223372036854775808 ≤ n) (h2 : n ≤ 9223372036854775807) : IntKind.i64.wrap n = n := by
 rw [IntKind.wrap_i64]; omega
end Go.AM


set_option linter.unusedVariables false
namespace Go.AM
theorem a_eq_t {a b : Int} (h : a = b) : (a == b) = true := by simp [h]
theorem a_eq_f {a b : Int} (h : ¬ a = b) : (a == b) = false := by simp [h]
theorem a_getD {α : Type} [Inhabited α] (f : α → D) (l : List α) (i : Nat) (h : i < l.length) : (l.map f).getD i default = f (l.getD i default) := getD_map f l i h
theorem a_wrap {n : Int} (h : -9223372036854775808 ≤ n ∧ n ≤ 9223372036854775807) : IntKind.i64.wrap n = n := wrap64 h.1 h.2
end Go.AM


set_option linter.unusedVariables false
namespace Go.AM
variable {P : Program} {Gl : Globs}
def Pure (P : Program) (Gl : Globs) (f : FuncId) (args : List AV) (r : AV) : Prop := ∀ σ, ACalls P Gl f args σ (fun r' s => r' = r ∧ s = σ)
theorem Pure.of {f : FuncId} {args : List D} {y : D} (h : ACalls P Gl f (args.map AV.d) [] (fun r s => r = .d y ∧ s = [])) : Pure P Gl f (args.map AV.d) (.d y) := fun σ => ACalls.pure h σ
theorem Pure.ofT {f : FuncId} {args : List D} {y : AV} (hy : ∀ b, back b y = y) (h : ACalls P Gl f (args.map AV.d) [] (fun r s => r = y ∧ s = [])) : Pure P Gl f (args.map AV.d) y := fun s => by
 have e : (args.map AV.d).map (renV [] s) = args.map AV.d := by simp [renV, ren0]
 have h1 := ACalls.under (P := P) (Gl := Gl) (f := f) (args := args.map AV.d) (R := fun r s => r = y ∧ s = []) (σ := s) [] List.nodup_nil (by simp) (by rw [e]; exact h)
 refine h1.mono fun r s' h2 => ?_
 obtain ⟨r0, s0, ⟨h1, h2⟩, h3, h4⟩ := h2
 subst h1; subst h2; subst h3; subst h4
 exact ⟨hy _, backS_nil s⟩
theorem back_t2 (x y : D) (b : Nat → Nat) : back b (.tup [.d x, .d y]) = .tup [.d x, .d y] := by simp [back, backL]
theorem Pure.of1t2 {f : FuncId} {a x y : D} (h : ACalls P Gl f [.d a] [] (fun r s => r = .tup [.d x, .d y] ∧ s = [])) : Pure P Gl f [.d a] (.tup [.d x, .d y]) := Pure.ofT (args := [a]) (back_t2 x y) h
theorem Pure.of2t2 {f : FuncId} {a b x y : D} (h : ACalls P Gl f [.d a, .d b] [] (fun r s => r = .tup [.d x, .d y] ∧ s = [])) : Pure P Gl f [.d a, .d b] (.tup [.d x, .d y]) := Pure.ofT (args := [a, b]) (back_t2 x y) h
theorem Pure.of3t2 {f : FuncId} {a b c x y : D} (h : ACalls P Gl f [.d a, .d b, .d c] [] (fun r s => r = .tup [.d x, .d y] ∧ s = [])) : Pure P Gl f [.d a, .d b, .d c] (.tup [.d x, .d y]) := Pure.ofT (args := [a, b, c]) (back_t2 x y) h
def Fresh (P : Program) (Gl : Globs) (f : FuncId) (args : List AV) (es : Nat) (xs : List D) : Prop := ∀ σ, ACalls P Gl f args σ (fun r s => r = .osl σ.length 0 xs.length ∧ s = σ ++ [.arr es xs])
theorem Fresh.of {f : FuncId} {args : List D} {es : Nat} {xs : List D} (h : ACalls P Gl f (args.map AV.d) [] (fun r s => r = .osl 0 0 xs.length ∧ s = [.arr es xs])) : Fresh P Gl f (args.map AV.d) es xs := fun s => by
 have e : (args.map AV.d).map (renV [] s) = args.map AV.d := by simp [renV, ren0]
 have h1 := ACalls.under (P := P) (Gl := Gl) (f := f) (args := args.map AV.d) (σ := s) [] List.nodup_nil (by simp) (by rw [e]; exact h)
 refine h1.mono fun r s' h2 => ?_
 obtain ⟨r0, s0, ⟨h1, h2⟩, h3, h4⟩ := h2
 subst h1; subst h2; subst h3; subst h4
 refine ⟨by simp [back, backId], ?_⟩
 apply List.ext_getElem
 ·simp [backS]
 ·intro i h1 h2
  simp only [backS, List.getElem_map, List.getElem_range]
  have : idxIn [] i = none := rfl
  rw [this]
  simp only [List.length_nil, Nat.zero_add]
  by_cases hi : i < s.length
  ·rw [if_pos hi, List.getElem_append_left hi]
   unfold blkAt
   simp [hi]
  ·simp [backS] at h1
   have : i = s.length := by omega
   subst this
   rw [if_neg (by omega), List.getElem_append_right (by omega)]
   simp [blkAt, backB]
theorem Pure.of0 {f : FuncId} {y : D} (h : ACalls P Gl f [] [] (fun r s => r = .d y ∧ s = [])) : Pure P Gl f [] (.d y) := Pure.of (args := []) h
theorem Pure.of1 {f : FuncId} {a y : D} (h : ACalls P Gl f [.d a] [] (fun r s => r = .d y ∧ s = [])) : Pure P Gl f [.d a] (.d y) := Pure.of (args := [a]) h
theorem Pure.of2 {f : FuncId} {a b y : D} (h : ACalls P Gl f [.d a, .d b] [] (fun r s => r = .d y ∧ s = [])) : Pure P Gl f [.d a, .d b] (.d y) := Pure.of (args := [a, b]) h
theorem Pure.of3 {f : FuncId} {a b c y : D} (h : ACalls P Gl f [.d a, .d b, .d c] [] (fun r s => r = .d y ∧ s = [])) : Pure P Gl f [.d a, .d b, .d c] (.d y) := Pure.of (args := [a, b, c]) h
theorem ext_calls {f : FuncId} {fn : Func} {e : Array Value → Sem Value} (hf : P.funcs[f]? = some fn) (hname : (fn.name == "runtime.NumGoroutine") = false) (hb : fn.body.isNone = true) (hn : Extern.findNext fn = none) (he : Extern.find fn = some e)
  {args : List AV} {r : AV} (h : ∀ w I μ σ (vals : List Value), (∀ (i : Nat) (v : Value) (u : AV), vals[i]? = some v → args[i]? = some u → RepV w I μ σ v u) → vals.length = args.length → ∃ v, (e vals.toArray).run P w = .ok v w ∧ RepV w I μ σ v r) :
  Pure P Gl f args r := by
 intro σ w I μ vals hR hG hl hv
 obtain ⟨v, h1, h2⟩ := h w I μ σ vals hv hl
 rw [run_callFunc_extern hf hname hb hn he vals.toArray w]
 simp only [Sem.run_bind, h1, Result.andThen_ok, Sem.run_pure]
 exact ⟨r, σ, I, μ, hR, Keep.refl _ _ _ _ (Nat.le_refl _), h2, rfl, rfl⟩
theorem indexByteString_pure {f : FuncId} {fn : Func} (hf : P.funcs[f]? = some fn) (hname : (fn.name == "runtime.NumGoroutine") = false) (hb : fn.body.isNone = true) (hn : Extern.findNext fn = none) (he : Extern.find fn = some Extern.BytealgIndexByte.indexByte) (s : List UInt8) (c : Int) :
  Pure P Gl f [.d (.str s), .d (.int .u8 c)] (.d (.int .i64 (Lib.indexByte s c.toNat.toUInt8))) := by
 refine ext_calls hf hname hb hn he fun w I μ σ vals hv hl => ?_
 match vals, hl with
 | [a, b], _ =>
  have h1 := (hv 0 a _ rfl rfl).inv_d
  have h2 := (hv 1 b _ rfl rfl).inv_d
  cases h1
  cases h2
  exact ⟨_, Lib.run_indexByteString _ _ _, .d _ _ (.int _ _)⟩
section
variable {n : Nat} {all : Array Oper} {draw : Bool} {rest : List Oper} {KK : Env → Sto → Prop} {env : Env} {σ : Sto} {f : FuncId} {as caps : List AV} {v : AV} {dst : Option Tmp} {g : Bool}
theorem callF_pureC (h : Pure P Gl f (as ++ caps) v) (h2 : evOps P Gl n all draw rest (putE env dst v) σ KK) : callF P Gl n all draw dst rest (.fn f caps) as env σ KK :=
 callF_of (fun s => h s) h2
theorem callG_pureC (h : g = true → Pure P Gl f (as ++ caps) v) (h2 : evOps P Gl n all draw rest (putE env dst (.iff g v)) σ KK) : callG P Gl n all draw dst rest g (.fn f caps) as env σ KK :=
 callG_of (fun hg s => h hg s) h2
theorem callF_pure (h : Pure P Gl f as v) (h2 : evOps P Gl n all draw rest (putE env dst v) σ KK) : callF P Gl n all draw dst rest (.fn f []) as env σ KK :=
 callF_pureC (by rwa [List.append_nil]) h2
theorem callG_pure (h : g = true → Pure P Gl f as v) (h2 : evOps P Gl n all draw rest (putE env dst (.iff g v)) σ KK) : callG P Gl n all draw dst rest g (.fn f []) as env σ KK :=
 callG_pureC (fun hg => by rw [List.append_nil]; exact h hg) h2
end
theorem mem_getD {α : Type} [Inhabited α] {l : List α} {k : Nat} (h : k < l.length) : l.getD k default ∈ l := by
 have : l.getD k default = l[k] := by simp [h]
 rw [this]; exact List.getElem_mem h
theorem take_step {α : Type} [Inhabited α] (l : List α) (k : Nat) (h : k < l.length) : l.take (k + 1) = l.take k ++ [l.getD k default] := by
 rw [List.take_add_one, List.getElem?_eq_getElem h, List.getD_eq_getElem?_getD, List.getElem?_eq_getElem h]; rfl
theorem all_take {α : Type} [Inhabited α] (p : α → Bool) (l : List α) (k : Nat) (h : k < l.length) : (l.take (k + 1)).all p = ((l.take k).all p && p (l.getD k default)) := by
 rw [take_step l k h, List.all_append]; simp only [List.all_cons, List.all_nil, Bool.and_true]
theorem all_at {α : Type} [Inhabited α] (p : α → Bool) (l : List α) (k : Nat) (h : k < l.length) (hp : p (l.getD k default) = false) : l.all p = false := by
 rw [List.all_eq_false]
 exact ⟨l[k], List.getElem_mem h, by simpa [h] using hp⟩
theorem any_take {α : Type} [Inhabited α] (p : α → Bool) (l : List α) (k : Nat) (h : k < l.length) : (l.take (k + 1)).any p = ((l.take k).any p || p (l.getD k default)) := by
 rw [take_step l k h, List.any_append]; simp only [List.any_cons, List.any_nil, Bool.or_false]
theorem any_at {α : Type} [Inhabited α] (p : α → Bool) (l : List α) (k : Nat) (h : k < l.length) (hp : p (l.getD k default) = true) : l.any p = true := by
 rw [List.any_eq_true]
 exact ⟨l[k], List.getElem_mem h, by simpa [h] using hp⟩
theorem bytes_lit (l : List UInt8) : (ByteArray.mk l.toArray).data.toList = l := rfl
theorem ret_d {x : D} {σ : Sto} : WeakR 0 (.d x) σ (.d x) [] := weakR_to [] [] rfl List.nodup_nil rfl rfl
theorem ret_t2 {x y : D} {σ : Sto} : WeakR 0 (.tup [.d x, .d y]) σ (.tup [.d x, .d y]) [] := weakR_to [] [] rfl List.nodup_nil rfl rfl
theorem WeakR.trans {m : Nat} {r1 r2 r3 : AV} {s1 s2 s3 : Sto} (h : WeakR m r1 s1 r2 s2) (k : WeakR m r2 s2 r3 s3) : WeakR m r1 s1 r3 s3 := fun w I μ v h1 h2 h3 => by
 obtain ⟨I1, μ1, a1, a2, a3⟩ := h w I μ v h1 h2 h3
 obtain ⟨I2, μ2, b1, b2, b3⟩ := k w I1 μ1 v a1 a2 a3.len
 exact ⟨I2, μ2, b1, b2, a3.trans b3⟩
theorem Weak.trans {n m : Nat} {e1 e2 e3 : Env} {s1 s2 s3 : Sto} (h : Weak n m e1 s1 e2 s2) (k : Weak n m e2 s2 e3 s3) : Weak n m e1 s1 e3 s3 := fun w I μ a h1 h2 h3 => by
 obtain ⟨I1, μ1, a1, a2, a3⟩ := h w I μ a h1 h2 h3
 obtain ⟨I2, μ2, b1, b2, b3⟩ := k w I1 μ1 a a1 a2 a3.len
 exact ⟨I2, μ2, b1, b2, a3.trans b3⟩
theorem weakR_nils {m : Nat} {σ : Sto} (es : Nat) (hm : m ≤ σ.length) : WeakR m .nils σ (.osl σ.length 0 0) (σ ++ [.arr es []]) := fun w I μ v h1 h2 h3 => by
 obtain ⟨μ', a1, a2⟩ := h1.addNone es
 cases h2
 exact ⟨I, μ', a1, .osl _ _ 0 0 (by simp) (.inl ⟨rfl, none, rfl⟩), a2.mono hm⟩
theorem weak_nils {n m : Nat} {σ : Sto} {env : Env} (t es : Nat) (h : getE env t = .nils) : Weak n m env σ ((t, .osl σ.length 0 0) :: env) (σ ++ [.arr es []]) := fun w I μ a h1 h2 h3 => by
 obtain ⟨μ', a1, a2⟩ := h1.addNone es
 refine ⟨I, μ', a1, ⟨h2.defers, h2.size, fun t' => ?_⟩, a2.mono h3⟩
 have h4 := h2.slot t'
 simp only [getE]
 by_cases e : t = t'
 ·rw [if_pos e]
  subst e
  rw [h] at h4
  generalize a.tmps.getD t Go.undef = v at h4
  cases h4
  exact .osl _ _ 0 0 (by simp) (.inl ⟨rfl, none, rfl⟩)
 ·rw [if_neg e]
  exact h4.keep a2
theorem weakR_toD {m : Nat} {σ : Sto} {u : AV} (hd : u.isD σ = true) : WeakR m u σ (.d (u.toD σ)) (freezeL σ u.refs) := fun w I μ v h1 h2 h3 => by
 obtain ⟨I', a1, a2, a3, _⟩ := toD_rep h1 h2 hd
 exact ⟨I', μ, a1, .d _ _ a3, a2.mono h3⟩
theorem ret_toD {σ : Sto} {u : AV} (hd : u.isD σ = true) : WeakR 0 u σ (.d (u.toD σ)) [] := (weakR_toD hd).trans ret_d
theorem ret_data {σ : Sto} {u : AV} {x : D} (hd : u.isD σ = true) (hx : u.toD σ = x) : WeakR 0 u σ (.d x) [] := by subst hx; exact ret_toD hd
theorem weak_toD {n m : Nat} {σ : Sto} {env : Env} (t : Nat) (hd : (getE env t).isD σ = true) : Weak n m env σ ((t, .d ((getE env t).toD σ)) :: env) (freezeL σ (getE env t).refs) := fun w I μ a h1 h2 h3 => by
 obtain ⟨I', a1, a2, a3, _⟩ := toD_rep h1 (h2.slot t) hd
 refine ⟨I', μ, a1, ⟨h2.defers, h2.size, fun t' => ?_⟩, a2.mono h3⟩
 simp only [getE]
 by_cases e : t = t'
 ·subst e
  rw [if_pos rfl]; exact .d _ _ a3
 ·rw [if_neg e]
  exact (h2.slot t').keep a2
theorem x_apOk (σ : Sto) (t1 t2 : TypeId) (s x : AV) : apOk P σ t1 t2 s x = (match telem P t1 with
 | some e => match tsz P e, tbytes P e, tzero P e with
  | some es, some by_, some z => 0 < es ∧ z.cells.size = es ∧ (telem P t2).isSome = true ∧ dstOk σ es s ∧ srcOk σ es x ∧ (s.len + (x.elems σ).length) * by_ ≤ 140737488355328 ∧ s.len + (x.elems σ).length ≤ 4611686018427387904
  | _, _, _ => False
 | none => False) := by unfold apOk; rfl
theorem x_dstOk_osl (i o k es : Nat) (σ : Sto) : dstOk σ es (.osl i o k) = ((blkAt σ i).isOwnArr = true ∧ (blkAt σ i).es = es) := rfl
theorem x_dstOk_nils (es : Nat) (σ : Sto) : dstOk σ es .nils = True := rfl
theorem x_srcOk_osl (i o k es : Nat) (σ : Sto) : srcOk σ es (.osl i o k) = ((blkAt σ i).isArr = true ∧ (blkAt σ i).es = es) := rfl
theorem x_srcOk_nils (es : Nat) (σ : Sto) : srcOk σ es .nils = True := rfl
theorem x_srcOk_sl (xs : List D) (es : Nat) (σ : Sto) : srcOk σ es (.d (.sl xs)) = ∀ x ∈ xs, x.cells.length = es := rfl
theorem x_apV (s x : AV) (σ : Sto) : apV σ s x = .osl σ.length 0 (s.len + (x.elems σ).length) := rfl
theorem x_apS (s x : AV) (σ : Sto) (t : TypeId) : apS P σ t s x = killS σ s ++ [.arr (apEs P t) (s.elems σ ++ x.elems σ)] := rfl
theorem x_killS_osl (i o k : Nat) (σ : Sto) : killS σ (.osl i o k) = σ.set i .dead := rfl
theorem x_killS_nils (σ : Sto) : killS σ .nils = σ := rfl
theorem x_killS_d (x : D) (σ : Sto) : killS σ (.d x) = σ := rfl
def firstErr (f : Nat → Int) : Nat → Int
 | 0 => 0
 | k + 1 => if firstErr f k = 0 then f k else firstErr f k
theorem firstErr_step {f : Nat → Int} {k : Nat} (h : firstErr f k = 0) (he : f k = 0) : firstErr f (k + 1) = 0 := by simp [firstErr, h, he]
theorem firstErr_at {f : Nat → Int} {k : Nat} (h : firstErr f k = 0) (he : f k ≠ 0) : ∀ {n : Nat}, k < n → firstErr f n = f k := by
 intro n hn
 induction n with
 | zero => omega
 | succ n ih =>
  by_cases e : k = n
  ·subst e; simp [firstErr, h]
  ·rw [firstErr, ih (by omega), if_neg he]
theorem firstErr_zero {f : Nat → Int} {n : Nat} (h : firstErr f n = 0) : ∀ k, k < n → f k = 0 := by
 induction n with
 | zero => intro k hk; omega
 | succ n ih =>
  rw [firstErr] at h
  by_cases e : firstErr f n = 0
  ·rw [if_pos e] at h
   intro k hk
   by_cases e2 : k = n
   ·subst e2; exact h
   ·exact ih e k (by omega)
  ·rw [if_neg e] at h; exact absurd h e
theorem firstErr_all {f : Nat → Int} {n : Nat} (h : ∀ k, k < n → f k = 0) : firstErr f n = 0 := by
 induction n with
 | zero => rfl
 | succ n ih => exact firstErr_step (ih fun k hk => h k (by omega)) (h n (by omega))
theorem x_g1 (a b : Bool) : (a = true → b = true → (a && b) = true) = True := by cases a <;> cases b <;> simp
theorem x_g2 (a : Bool) : (a = false → (!a) = true) = True := by cases a <;> simp
theorem x_g3 (a : Bool) : ((!a) = true → (!a) = true) = True := by cases a <;> simp
theorem x_g4 (a b : Bool) : (a = true → (!b) = true → (a && !b) = true) = True := by cases a <;> cases b <;> simp
theorem x_g5 (a b : Bool) : (a = true → b = false → (a && !b) = true) = True := by cases a <;> cases b <;> simp
theorem x_strOf (l : List UInt8) : (AV.d (.str l)).strOf = l := rfl
theorem x_isStrv (l : List UInt8) : (AV.d (.str l)).isStrv = true := rfl
theorem x_beqL (a b : D) (r s : List D) : beqL (a :: r) (b :: s) = (a.beq1 b && beqL r s) := rfl
theorem x_beqL0 : beqL [] [] = true := rfl
theorem x_beq1i (k k' : IntKind) (a b : Int) : (D.int k a).beq1 (.int k' b) = (a == b) := rfl
theorem x_beq1b (a b : Bool) : (D.bool a).beq1 (.bool b) = (a == b) := rfl
theorem x_beq1s (a b : List UInt8) : (D.str a).beq1 (.str b) = (a == b) := rfl
theorem x_cmpL (c : Nat) (cs : List Nat) (a b : D) (r s : List D) : cmpL (c :: cs) (a :: r) (b :: s) = (a.cmp1 c b && cmpL cs r s) := rfl
theorem x_cmpL0 : cmpL [] [] [] = true := rfl
theorem x_cmp1i (k k' : IntKind) (a b : Int) : (D.int k a).cmp1 0 (.int k' b) = decide (k = k') := rfl
theorem x_cmp1b (a b : Bool) : (D.bool a).cmp1 1 (.bool b) = true := rfl
theorem x_cmp1s (a b : List UInt8) : (D.str a).cmp1 2 (.str b) = true := rfl
theorem x_slV_str (lo hi : Int) (l : List UInt8) : slV lo hi (.d (.str l)) = .d (.str ((l.take hi.toNat).drop lo.toNat)) := rfl
theorem x_slV_sl (lo hi : Int) (l : List D) : slV lo hi (.d (.sl l)) = .d (.sl ((l.take hi.toNat).drop lo.toNat)) := rfl
theorem x_slV_osl (lo hi : Int) (i o k : Nat) : slV lo hi (.osl i o k) = .osl i (o + lo.toNat) (hi.toNat - lo.toNat) := rfl
theorem x_slV_nils (lo hi : Int) : slV lo hi .nils = .nils := rfl
theorem x_slOk_str (t : TypeId) (σ : Sto) (lo hi : Int) (l : List UInt8) : slOk P t σ lo hi (.d (.str l)) = (tstr P t = true ∧ 0 ≤ lo ∧ lo ≤ hi ∧ hi ≤ l.length) := rfl
theorem x_slOk_sl (t : TypeId) (σ : Sto) (lo hi : Int) (xs : List D) : slOk P t σ lo hi (.d (.sl xs)) = (((tidx P t).isSome = true ∧ (telem P t).isSome = true) ∧ 0 ≤ lo ∧ lo ≤ hi ∧ hi ≤ xs.length ∧ (match tidx P t with | some (_, es) => ∀ x ∈ xs, x.cells.length = es | none => False)) := rfl
theorem x_slOk_osl (t : TypeId) (σ : Sto) (lo hi : Int) (i o k : Nat) : slOk P t σ lo hi (.osl i o k) = ((telem P t).isSome = true ∧ 0 ≤ lo ∧ lo ≤ hi ∧ hi ≤ k ∧ (blkAt σ i).isArr = true ∧ tidx P t = some (none, (blkAt σ i).es)) := rfl
theorem x_slOk_nils (t : TypeId) (σ : Sto) (lo hi : Int) : slOk P t σ lo hi .nils = ((telem P t).isSome = true ∧ (tidx P t).isSome = true ∧ lo = 0 ∧ hi = 0) := rfl
theorem x_allmap {α : Type} (f : α → D) (l : List α) (p : D → Prop) : (∀ x, x ∈ l.map f → p x) = ∀ y, y ∈ l → p (f y) := by simp
theorem x_ops_app {n : Nat} {all : Array Oper} {draw : Bool} {env : Env} {σ : Sto} {K : Env → Sto → Prop} (o : Oper) (a b : List Oper) : evOps P Gl n all draw (List.append (o :: a) b) env σ K = evOps P Gl n all draw (o :: List.append a b) env σ K := rfl
theorem x_ops_nil {n : Nat} {all : Array Oper} {draw : Bool} {env : Env} {σ : Sto} {K : Env → Sto → Prop} (b : List Oper) : evOps P Gl n all draw (List.append [] b) env σ K = evOps P Gl n all draw b env σ K := rfl
theorem x_app {α : Type} (a : α) (l m : List α) : List.append (a :: l) m = a :: List.append l m := rfl
theorem x_app0 {α : Type} (m : List α) : List.append [] m = m := rfl
theorem x_gs0 {env : Env} {dst : Option Tmp} {op : Op} {ty : TypeId} {pos : String} {af : Array Edge} {g : Option (Nat × Bool)} (l m : List Oper) : gSlot ((List.append (⟨dst, op, ty, pos, af, g⟩ :: l) m).toArray) env 0 = (match dst with | some d => getE env d | none => .undef) := r_gSlot (List.append l m)
theorem x_gsS {env : Env} (o : Oper) (l m : List Oper) (j : Nat) : gSlot ((List.append (o :: l) m).toArray) env (j + 1) = gSlot (List.append l m).toArray env j := r_gSlot_succ o (List.append l m) j
theorem x_gsN {env : Env} (m : List Oper) (j : Nat) : gSlot ((List.append [] m).toArray) env j = gSlot m.toArray env j := rfl
theorem xRules : type_of% (And.intro @x_apOk (And.intro @x_dstOk_osl (And.intro @x_dstOk_nils (And.intro @x_srcOk_osl (And.intro @x_srcOk_nils (And.intro @x_srcOk_sl (And.intro @x_apV (And.intro @x_apS (And.intro @x_killS_osl (And.intro @x_killS_nils (And.intro @x_killS_d (And.intro @x_g1 (And.intro @x_g2 (And.intro @x_g3 (And.intro @x_g4 (And.intro @x_g5 (And.intro @x_strOf (And.intro @x_isStrv (And.intro @x_beqL (And.intro @x_beqL0 (And.intro @x_beq1i (And.intro @x_beq1b (And.intro @x_beq1s (And.intro @x_cmpL (And.intro @x_cmpL0 (And.intro @x_cmp1i (And.intro @x_cmp1b (And.intro @x_cmp1s (And.intro @x_slV_str (And.intro @x_slV_sl (And.intro @x_slV_osl (And.intro @x_slV_nils (And.intro @x_slOk_str (And.intro @x_slOk_sl (And.intro @x_slOk_osl (And.intro @x_slOk_nils (And.intro @x_allmap (And.intro @x_ops_app (And.intro @x_ops_nil (And.intro @x_app (And.intro @x_app0 (And.intro @x_gs0 (And.intro @x_gsS (@x_gsN)))))))))))))))))))))))))))))))))))))))))))) := And.intro @x_apOk (And.intro @x_dstOk_osl (And.intro @x_dstOk_nils (And.intro @x_srcOk_osl (And.intro @x_srcOk_nils (And.intro @x_srcOk_sl (And.intro @x_apV (And.intro @x_apS (And.intro @x_killS_osl (And.intro @x_killS_nils (And.intro @x_killS_d (And.intro @x_g1 (And.intro @x_g2 (And.intro @x_g3 (And.intro @x_g4 (And.intro @x_g5 (And.intro @x_strOf (And.intro @x_isStrv (And.intro @x_beqL (And.intro @x_beqL0 (And.intro @x_beq1i (And.intro @x_beq1b (And.intro @x_beq1s (And.intro @x_cmpL (And.intro @x_cmpL0 (And.intro @x_cmp1i (And.intro @x_cmp1b (And.intro @x_cmp1s (And.intro @x_slV_str (And.intro @x_slV_sl (And.intro @x_slV_osl (And.intro @x_slV_nils (And.intro @x_slOk_str (And.intro @x_slOk_sl (And.intro @x_slOk_osl (And.intro @x_slOk_nils (And.intro @x_allmap (And.intro @x_ops_app (And.intro @x_ops_nil (And.intro @x_app (And.intro @x_app0 (And.intro @x_gs0 (And.intro @x_gsS (@x_gsN)))))))))))))))))))))))))))))))))))))))))))
end Go.AM
