/-
  Code: the evaluator of a function's body, and that it is sound.
-/
import Derived.Test.YtgebmgahfpnjaaaAmE
set_option linter.unnecessarySimpa false
set_option linter.unusedSectionVars false
set_option linter.unusedSimpArgs false
set_option linter.unusedVariables false
namespace Go.AM

inductive AExit where
  | normal
  | exit (id : Nat)
  | ret

def eRel : Exit → AExit → Prop
  | .normal, .normal => True
  | .exit i, .exit j => i = j
  | .ret, .ret => True
  | _, _ => False

/-- what is known of a state may be weakened to this -/
def Weak (n m : Nat) (env : Env) (σ : Sto) (env' : Env) (σ' : Sto) : Prop :=
  ∀ w I μ a, Rel w I μ σ → RelEnv n w I μ σ env a → m ≤ σ.length → ∃ I' μ', Rel w I' μ' σ' ∧ RelEnv n w I' μ' σ' env' a ∧ Keep m w I μ σ w I' μ' σ'

theorem Weak.refl (n m : Nat) (env : Env) (σ : Sto) : Weak n m env σ env σ := fun _ I μ _ h1 h2 h3 => ⟨I, μ, h1, h2, Keep.refl _ _ _ _ h3⟩

def APost (n m : Nat) (w : World) (I : Im) (μ : Pos) (σ : Sto) (K : AExit → Env → Sto → Prop) (Gl : Globs) : Exit → Act → World → Prop := fun e a' w' =>
  ∃ ae env' σ' I' μ', eRel e ae ∧ Rel w' I' μ' σ' ∧ GlOk Gl w' I' ∧ RelEnv n w' I' μ' σ' env' a' ∧ Keep m w I μ σ w' I' μ' σ' ∧ K ae env' σ'

def AWp (P : Program) (Gl : Globs) (n m : Nat) (c : Code) (env : Env) (σ : Sto) (K : AExit → Env → Sto → Prop) : Prop :=
  ∀ w I μ a, Rel w I μ σ → GlOk Gl w I → RelEnv n w I μ σ env a → m ≤ σ.length → c.wp P (APost n m w I μ σ K Gl) a w

def thenK (K : AExit → Env → Sto → Prop) (next : Env → Sto → Prop) : AExit → Env → Sto → Prop
  | .normal, env, σ => next env σ
  | e, env, σ => K e env σ
def blockK (id : Nat) (K : AExit → Env → Sto → Prop) : AExit → Env → Sto → Prop
  | .exit i, env, σ => if i = id then K .normal env σ else K (.exit i) env σ
  | e, env, σ => K e env σ

/-- the rounds of a loop: an invariant and a measure; the state weakened at each round's head -/
def evLoop (n m : Nat) (step : Env → Sto → (AExit → Env → Sto → Prop) → Prop) (env : Env) (σ : Sto) (K : AExit → Env → Sto → Prop) : Prop :=
  ∃ (Inv : Env → Sto → Prop) (ν : Env → Sto → Nat), (∃ e s, Weak n m env σ e s ∧ Inv e s) ∧
    ∀ e s, Inv e s → step e s (thenK K fun e' s' => ∃ e2 s2, Weak n m e' s' e2 s2 ∧ Inv e2 s2 ∧ ν e2 s2 < ν e s)

/-- a test: what it may come to -/
def mayT : AV → Bool
  | .d (.bool b) => b
  | .anyb => true
  | _ => false
def mayF : AV → Bool
  | .d (.bool b) => !b
  | .anyb => true
  | _ => false
def AV.isBoolq : AV → Bool
  | .d (.bool _) => true
  | .anyb => true
  | _ => false
def condK (u : AV) (X Y : Prop) : Prop := u.isBoolq = true ∧ (mayT u = true → X) ∧ (mayF u = true → Y)

def evC (P : Program) (Gl : Globs) (n m : Nat) : Code → Env → Sto → (AExit → Env → Sto → Prop) → Prop
  | .skip, env, σ, K => K .normal env σ
  | .region _ ops draw, env, σ, K => (draw = true → drawChk ops = true) ∧ evOps P Gl n ops draw ops.toList env σ (K .normal)
  | .seq x y, env, σ, K => evC P Gl n m x env σ (thenK K fun env' σ' => evC P Gl n m y env' σ' K)
  | .cond c x y, env, σ, K => evG Gl env c = true ∧ condK (evU Gl env c) (evC P Gl n m x env σ K) (evC P Gl n m y env σ K)
  | .block id c, env, σ, K => evC P Gl n m c env σ (blockK id K)
  | .loop c, env, σ, K => evLoop n m (evC P Gl n m c) env σ K
  | .exit id, env, σ, K => K (.exit id) env σ
  | .ret, env, σ, K => K .ret env σ
  | _, _, _, _ => False

variable {P : Program} {Gl : Globs} {n m : Nat} {env : Env} {σ : Sto} {K : AExit → Env → Sto → Prop}

theorem APost.trans {w w1 : World} {I I1 : Im} {μ μ1 : Pos} {σ σ1 : Sto} (k : Keep m w I μ σ w1 I1 μ1 σ1) {K' : AExit → Env → Sto → Prop} (hk : ∀ e env s, K e env s → K' e env s) {e : Exit} {a' : Act} {w' : World} (h : APost n m w1 I1 μ1 σ1 K Gl e a' w') : APost n m w I μ σ K' Gl e a' w' := by
  obtain ⟨ae, env', σ', I', μ', h1, h2, h3, h4, h5, h6⟩ := h
  exact ⟨ae, env', σ', I', μ', h1, h2, h3, h4, k.trans h5, hk _ _ _ h6⟩

theorem AWp.mono {c : Code} {K' : AExit → Env → Sto → Prop} (h : AWp P Gl n m c env σ K) (hk : ∀ e env s, K e env s → K' e env s) : AWp P Gl n m c env σ K' :=
  fun w I μ a h1 h2 h3 h4 => Code.wp_mono (fun _ _ _ q => APost.trans (Keep.refl _ _ _ _ h4) hk q) (h w I μ a h1 h2 h3 h4)

theorem AWp.seq {x y : Code} (h : AWp P Gl n m x env σ (thenK K fun env' σ' => AWp P Gl n m y env' σ' K)) : AWp P Gl n m (.seq x y) env σ K := by
  intro w I μ a h1 h2 h3 h4
  refine wp_seq (Code.wp_mono (fun e a' w' q => ?_) (h w I μ a h1 h2 h3 h4))
  obtain ⟨ae, env', σ', I', μ', q1, q2, q3, q4, q5, q6⟩ := q
  cases e <;> cases ae <;> simp only [eRel] at q1 <;> simp only [Exit.then]
  · exact Code.wp_mono (fun _ _ _ q => APost.trans q5 (fun _ _ _ h => h) q) (q6 w' I' μ' a' q2 q3 q4 q5.len)
  · subst q1; exact ⟨.exit _, env', σ', I', μ', (rfl : eRel (.exit _) (.exit _)), q2, q3, q4, q5, q6⟩
  · exact ⟨.ret, env', σ', I', μ', trivial, q2, q3, q4, q5, q6⟩

theorem AWp.block {id : Nat} {c : Code} (h : AWp P Gl n m c env σ (blockK id K)) : AWp P Gl n m (.block id c) env σ K := by
  intro w I μ a h1 h2 h3 h4
  refine wp_block (Code.wp_mono (fun e a' w' q => ?_) (h w I μ a h1 h2 h3 h4))
  obtain ⟨ae, env', σ', I', μ', q1, q2, q3, q4, q5, q6⟩ := q
  cases e <;> cases ae <;> simp only [eRel] at q1 <;> simp only [Exit.inBlock]
  · exact ⟨.normal, env', σ', I', μ', trivial, q2, q3, q4, q5, q6⟩
  · subst q1
    simp only [blockK] at q6
    split
    · rename_i he; rw [if_pos he] at q6; exact ⟨.normal, env', σ', I', μ', trivial, q2, q3, q4, q5, q6⟩
    · rename_i he; rw [if_neg he] at q6; exact ⟨.exit _, env', σ', I', μ', rfl, q2, q3, q4, q5, q6⟩
  · exact ⟨.ret, env', σ', I', μ', trivial, q2, q3, q4, q5, q6⟩

theorem AWp.weak {c : Code} {env' : Env} {σ' : Sto} (hw : Weak n m env σ env' σ') (h : AWp P Gl n m c env' σ' K) : AWp P Gl n m c env σ K := by
  intro w I μ a h1 h2 h3 h4
  obtain ⟨I', μ', q1, q2, q3⟩ := hw w I μ a h1 h3 h4
  exact Code.wp_mono (fun _ _ _ q => APost.trans q3 (fun _ _ _ h => h) q) (h w I' μ' a q1 (h2.keep q3) q2 q3.len)

theorem exists_least {T : Nat → Prop} (h : ∃ k, T k) : ∃ k, T k ∧ ∀ j, T j → k ≤ j := by
  obtain ⟨k, hk⟩ := h
  induction k using Nat.strongRecOn with
  | _ k ih =>
    by_cases hx : ∃ j, j < k ∧ T j
    · obtain ⟨j, hj, ht⟩ := hx; exact ih j hj ht
    · exact ⟨k, hk, fun j hj => Nat.le_of_not_lt fun hlt => hx ⟨j, hlt, hj⟩⟩

theorem AWp.loop {c : Code} (h : evLoop n m (fun e s k => AWp P Gl n m c e s k) env σ K) : AWp P Gl n m (.loop c) env σ K := by
  intro w I μ a h1 h2 h3 h4
  obtain ⟨Inv, ν, ⟨e0, s0, hw0, hi0⟩, hstep⟩ := h
  let T : Act → World → Nat → Prop := fun a' w' k => ∃ e s I' μ', ν e s = k ∧ Inv e s ∧ Rel w' I' μ' s ∧ GlOk Gl w' I' ∧ RelEnv n w' I' μ' s e a' ∧ Keep m w I μ σ w' I' μ' s
  let least : Act → World → Nat := fun a' w' => open Classical in if h : ∃ k, T a' w' k then Classical.choose (exists_least h) else 0
  have least_spec : ∀ a' w' (h : ∃ k, T a' w' k), T a' w' (least a' w') ∧ ∀ j, T a' w' j → least a' w' ≤ j := fun a' w' h => by
    have : least a' w' = Classical.choose (exists_least h) := by simp only [least]; rw [dif_pos h]
    rw [this]; exact Classical.choose_spec (exists_least h)
  obtain ⟨I0, μ0, q1, q2, q3⟩ := hw0 w I μ a h1 h3 h4
  refine wp_loop (fun a' w' => ∃ k, T a' w' k) least ⟨ν e0 s0, e0, s0, I0, μ0, rfl, hi0, q1, h2.keep q3, q2, q3⟩ fun a' w' hI => ?_
  obtain ⟨⟨e, s, I', μ', hk, hi, r1, r2, r3, r4⟩, hmin⟩ := least_spec a' w' hI
  refine Code.wp_mono (fun x a2 w2 q => ?_) (hstep e s hi w' I' μ' a' r1 r2 r3 r4.len)
  obtain ⟨ae, env', σ', I2, μ2, p1, p2, p3, p4, p5, p6⟩ := q
  cases x <;> cases ae <;> simp only [eRel] at p1 <;> simp only [Exit.then]
  · obtain ⟨e2, s2, hw2, hi2, hlt⟩ := p6
    obtain ⟨I3, μ3, t1, t2, t3⟩ := hw2 w2 I2 μ2 a2 p2 p4 p5.len
    have hT : T a2 w2 (ν e2 s2) := ⟨e2, s2, I3, μ3, rfl, hi2, t1, p3.keep t3, t2, (r4.trans p5).trans t3⟩
    refine ⟨⟨_, hT⟩, ?_⟩
    have := (least_spec a2 w2 ⟨_, hT⟩).2 _ hT
    omega
  · subst p1; exact ⟨.exit _, env', σ', I2, μ2, (rfl : eRel (.exit _) (.exit _)), p2, p3, p4, r4.trans p5, p6⟩
  · exact ⟨.ret, env', σ', I2, μ2, trivial, p2, p3, p4, r4.trans p5, p6⟩

theorem thenK_mono {K K' : AExit → Env → Sto → Prop} {f g : Env → Sto → Prop} (hk : ∀ e env s, K e env s → K' e env s) (hf : ∀ env s, f env s → g env s) : ∀ e env s, thenK K f e env s → thenK K' g e env s := by
  intro e env s h
  cases e <;> first | exact hf _ _ h | exact hk _ _ _ h

/-- THE EVALUATOR IS SOUND. -/
theorem evC_sound (hP : P.follows .mixedOrders = true) :
    ∀ (c : Code) (env : Env) (σ : Sto) (K : AExit → Env → Sto → Prop), evC P Gl n m c env σ K → AWp P Gl n m c env σ K := by
  intro c
  induction c with
  | skip =>
    intro env σ K h w I μ a h1 h2 h3 h4
    exact wp_skip ⟨.normal, env, σ, I, μ, trivial, h1, h2, h3, Keep.refl _ _ _ _ h4, h⟩
  | region id ops draw =>
    intro env σ K h
    cases draw with
    | false =>
      intro w I μ a h1 h2 h3 h4
      refine wp_region_list (evOps_sound ops.toList env σ h.2 h1 h2 h3 h4 fun env' σ' w' I' μ' a' k1 k2 k3 k4 k5 => ?_)
      exact ⟨.normal, env', σ', I', μ', trivial, k2, k3, k4, k5, k1⟩
    | true =>
      intro w I μ a h1 h2 h3 h4
      refine draw_sound hP (h.1 rfl) h.2 h1 h2 h3 h4 fun env' σ' w' I' μ' a' k1 k2 k3 k4 k5 => ?_
      exact ⟨.normal, env', σ', I', μ', trivial, k2, k3, k4, k5, k1⟩
  | seq x y ihx ihy =>
    intro env σ K h
    exact AWp.seq (AWp.mono (ihx env σ _ h) (thenK_mono (fun _ _ _ h => h) fun env s h => ihy env s K h))
  | cond c x y ihx ihy =>
    intro env σ K h w I μ a h1 h2 h3 h4
    obtain ⟨g1, g2, g3, g4⟩ := h
    have hr := evU_rep h2 h3 g1
    have hb : ∃ b, a.eval c = .bool b ∧ (b = true → mayT (evU Gl env c) = true) ∧ (b = false → mayF (evU Gl env c) = true) := by
      generalize evU Gl env c = u at *
      generalize a.eval c = v at *
      cases u with
      | d x =>
        cases x with
        | bool b => cases hr.inv_d; exact ⟨b, rfl, fun h => h, fun h => by simp [mayF, h]⟩
        | _ => simp [AV.isBoolq] at g2
      | anyb => cases hr with | anyb b => exact ⟨b, rfl, fun _ => rfl, fun _ => rfl⟩
      | _ => simp [AV.isBoolq] at g2
    obtain ⟨b, hb, hT, hF⟩ := hb
    refine wp_cond_split hb (fun ht => ?_) (fun ht => ?_)
    · exact ihx env σ K (g3 (hT ht)) w I μ a h1 h2 h3 h4
    · exact ihy env σ K (g4 (hF ht)) w I μ a h1 h2 h3 h4
  | block id c ih =>
    intro env σ K h
    exact AWp.block (ih env σ _ h)
  | loop c ih =>
    intro env σ K h
    obtain ⟨Inv, ν, h1, h2⟩ := h
    exact AWp.loop ⟨Inv, ν, h1, fun e s hi => ih e s _ (h2 e s hi)⟩
  | exit id =>
    intro env σ K h w I μ a h1 h2 h3 h4
    exact wp_exit ⟨.exit id, env, σ, I, μ, rfl, h1, h2, h3, Keep.refl _ _ _ _ h4, h⟩
  | ret =>
    intro env σ K h w I μ a h1 h2 h3 h4
    exact wp_ret ⟨.ret, env, σ, I, μ, trivial, h1, h2, h3, Keep.refl _ _ _ _ h4, h⟩
  | _ => intro env σ K h; exact h.elim

end Go.AM
