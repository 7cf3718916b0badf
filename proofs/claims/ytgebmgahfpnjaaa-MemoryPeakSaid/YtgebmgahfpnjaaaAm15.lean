/-
  Calls, and lists of operations carried out in the order of the text.
-/
import Derived.Test.YtgebmgahfpnjaaaAm14
set_option linter.unnecessarySimpa false
set_option linter.unusedSectionVars false
set_option linter.unusedSimpArgs false
set_option linter.unusedVariables false
namespace Go.AM

/-- What a call comes to: its value and the world, whether it is entered or answered at once. -/
def CallRes (P : Program) (r : Result Next) (w : World) (Q : Value → World → Prop) : Prop :=
  match r with
  | .ok (.enter f args) w' => w' = w ∧ Calls P f args w fun e w'' => ∃ v, e = .returned v ∧ Q v w''
  | .ok (.value v) w' => Q v w'
  | _ => False

def Post (w : World) (I : Im) (μ : Pos) (σ : Sto) (R : AV → Sto → Prop) (v : Value) (w' : World) : Prop :=
  ∃ r σ' I' μ', Rel w' I' μ' σ' ∧ Keep σ.length w I μ σ w' I' μ' σ' ∧ RepV w' I' μ' σ' v r ∧ R r σ'

/-- THE CONTRACT of a function on abstract values. -/
def ACalls (P : Program) (Gl : Globs) (f : FuncId) (args : List AV) (σ : Sto) (R : AV → Sto → Prop) : Prop :=
  ∀ w I μ (vals : List Value), Rel w I μ σ → GlOk Gl w I → vals.length = args.length → (∀ (i : Nat) (v : Value) (u : AV), vals[i]? = some v → args[i]? = some u → RepV w I μ σ v u) →
    CallRes P ((callFunc f vals.toArray).run P w) w (Post w I μ σ R)

theorem CallRes.mono {P : Program} {r : Result Next} {w : World} {Q Q' : Value → World → Prop} (h : CallRes P r w Q) (hq : ∀ v w', Q v w' → Q' v w') : CallRes P r w Q' := by
  unfold CallRes at *
  split at h
  · exact ⟨h.1, h.2.mono fun e w'' ⟨v, hv, hr⟩ => ⟨v, hv, hq _ _ hr⟩⟩
  · exact hq _ _ h
  · exact h.elim

theorem ACalls.mono {P : Program} {Gl : Globs} {f : FuncId} {args : List AV} {σ : Sto} {R R' : AV → Sto → Prop} (h : ACalls P Gl f args σ R) (hr : ∀ r σ', R r σ' → R' r σ') : ACalls P Gl f args σ R' :=
  fun w I μ vals h1 h2 h3 h4 => (h w I μ vals h1 h2 h3 h4).mono fun _ _ ⟨r, σ', I', μ', q1, q2, q3, q4⟩ => ⟨r, σ', I', μ', q1, q2, q3, hr _ _ q4⟩

/-- a call operation: of a function, or of a function value -/
def evCallOp (P : Program) (Gl : Globs) (env : Env) (σ : Sto) (op : Op) (R : AV → Sto → Prop) : Prop :=
  match op with
  | .call c => match c.callee with
    | .value x => match evU Gl env x with
      | .fn f caps => ACalls P Gl f (c.args.toList.map (evU Gl env) ++ caps) σ R
      | _ => False
    | _ => False
  | _ => False

def slotBool (v : AV) : Bool := match v with
  | .d (.bool _) => true
  | .iff _ (.d (.bool _)) => true
  | _ => false
def slotTest (v : AV) (b : Bool) : Bool := match v with
  | .d (.bool x) => x == b
  | .iff g (.d (.bool x)) => g && (x == b)
  | _ => false
def gSlot (all : Array Oper) (env : Env) (j : Nat) : AV := match (all[j]?).bind (·.dst) with
  | some d => getE env d
  | none => .undef
def dstIn (n : Nat) : Option Tmp → Bool
  | some d => decide (d < n)
  | none => true
def putE (env : Env) (dst : Option Tmp) (v : AV) : Env := match dst with
  | some d => (d, v) :: env
  | none => env

/-- the store s has all that σ has, some arrays frozen -/
def Ext (σ s : Sto) : Prop := σ.length ≤ s.length ∧ ∀ id, (blkAt σ id).isDead = true ∨ blkAt s id = blkAt σ id ∨ blkAt s id = (blkAt σ id).frozen
theorem Ext.refl (σ : Sto) : Ext σ σ := ⟨Nat.le_refl _, fun _ => .inr (.inl rfl)⟩

def evOps (P : Program) (Gl : Globs) (n : Nat) (all : Array Oper) (draw : Bool) : List Oper → Env → Sto → (Env → Sto → Prop) → Prop
  | [], env, σ, K => K env σ
  | o :: rest, env, σ, K =>
    dstIn n o.dst = true ∧
    match o.guard with
    | none => gdOk Gl env true o.op ∧
      (if isCall o.op = true then
        (if draw = true then ∃ r0, (∀ s, Ext σ s → evCallOp P Gl env s o.op (fun r σ' => r = r0 ∧ σ' = s)) ∧ evOps P Gl n all draw rest (putE env o.dst r0) σ K
         else evCallOp P Gl env σ o.op (fun r σ' => evOps P Gl n all draw rest (putE env o.dst r) σ' K))
       else opOk P Gl σ env o.op ∧ evOps P Gl n all draw rest (putE env o.dst (opV P Gl σ env o.op)) (opS P Gl σ env o.op) K)
    | some (j, b) => quietOp o.op = true ∧ slotBool (gSlot all env j) = true ∧ gdOk Gl env (slotTest (gSlot all env j) b) o.op ∧
      (if isCall o.op = true then
        ∃ r0, (slotTest (gSlot all env j) b = true → ∀ s, Ext σ s → evCallOp P Gl env s o.op (fun r σ' => r = r0 ∧ σ' = s)) ∧ evOps P Gl n all draw rest (putE env o.dst (.iff (slotTest (gSlot all env j) b) r0)) σ K
       else (slotTest (gSlot all env j) b = true → opOk P Gl σ env o.op) ∧ evOps P Gl n all draw rest (putE env o.dst (.iff (slotTest (gSlot all env j) b) (opV P Gl σ env o.op))) σ K)

variable {P : Program} {w : World} {I : Im} {μ : Pos} {σ : Sto} {n : Nat} {Gl : Globs} {env : Env} {a : Act}

theorem opS_quiet {op : Op} (h : quietOp op = true) : opS P Gl σ env op = σ := by
  cases op <;> first | rfl | (simp [quietOp] at h; done) | skip
  rename_i c
  obtain ⟨callee, args, ts⟩ := c
  cases callee <;> first | rfl | skip
  rename_i b
  cases b <;> first | rfl | (simp [quietOp] at h; done)

theorem wanted_none {all : Array Oper} {o : Oper} (h : o.guard = none) (tmps : Array Value) : Region.wanted o (yielded all tmps) = true := by simp [Region.wanted, h]

theorem wanted_slot (hE : RelEnv n w I μ σ env a) {all : Array Oper} {o : Oper} {j : Nat} {b : Bool} (h : o.guard = some (j, b)) (hs : slotBool (gSlot all env j) = true) : Region.wanted o (yielded all a.tmps) = slotTest (gSlot all env j) b := by
  unfold gSlot at *
  cases hd : (all[j]?).bind (·.dst) with
  | none => rw [hd] at hs; simp [slotBool] at hs
  | some d =>
    rw [hd] at hs
    simp only at hs
    have hv := hE.slot d
    have hy : yielded all a.tmps j = match a.tmps.getD d Go.undef with | .bool b => some b | _ => none := by
      unfold yielded
      cases ho : all[j]? with
      | none => simp [ho] at hd
      | some o' =>
        simp [ho] at hd
        simp [hd]
        cases a.tmps[d]? with
        | none => rfl
        | some q => cases q <;> rfl
    simp only [Region.wanted, h, hy]
    generalize a.tmps.getD d Go.undef = v at *
    generalize getE env d = u at *
    cases u with
    | d x =>
      have := hv.inv_d
      cases this <;> simp_all [slotBool, slotTest]
    | iff g x =>
      cases x with
      | d y =>
        cases y with
        | bool c =>
          cases hv with
          | iff _ _ _ h1 h2 =>
            cases g with
            | true =>
              have := (h1 rfl).inv_d
              cases this
              simp [slotTest]
            | false =>
              have := h2 rfl
              subst this
              simp [slotTest, Go.undef]
        | _ => simp [slotBool] at hs
      | _ => simp [slotBool] at hs
    | _ => simp [slotBool] at hs

theorem RelEnv.putE (hE : RelEnv n w I μ σ env a) {dst : Option Tmp} (hd : dstIn n dst = true) {v : Value} {u : AV} (hv : RepV w I μ σ v u) : RelEnv n w I μ σ (AM.putE env dst u) (a.put dst v) := by
  cases dst with
  | none => exact hE
  | some d => exact hE.put (by simpa [dstIn] using hd) hv

/-- a call's run -/
theorem call_goes (hR : Rel w I μ σ) (hG : GlOk Gl w I) (hE : RelEnv n w I μ σ env a) {o : Oper} (hgd : gdOk Gl env true o.op) {R : AV → Sto → Prop} (h : evCallOp P Gl env σ o.op R) :
    CallRes P ((execOp a.eval o).run P w) w (Post w I μ σ R) := by
  obtain ⟨dst, op, ty, pos, af, gd⟩ := o
  simp only at hgd h
  unfold evCallOp at h
  split at h
  · rename_i c
    obtain ⟨callee, args, ats⟩ := c
    simp only at h hgd
    split at h
    · rename_i x
      split at h
      · rename_i f caps hu
        have hgl := gdL_mem (l := (Op.call ⟨.value x, args, ats⟩).operands.toList) hgd
        have hx := evU_rep hG hE (hgl x (by simp [Op.operands, Call.operands]))
        rw [hu] at hx
        have hl : ∀ y ∈ args.toList, evG Gl env y = true := fun y hy => hgl y (by simp [Op.operands, Call.operands]; exact .inr (by simpa using hy))
        generalize hav : a.eval x = fv at *
        cases hx with
        | fn _ vs _ hvl hvr =>
          have := h w I μ (args.toList.map a.eval ++ vs) hR hG (by simp [hvl]) (fun i v u hv hu => by
            rcases Nat.lt_or_ge i args.toList.length with hi | hi
            · rw [List.getElem?_append_left (by simpa using hi)] at hv hu
              exact args_rep hG hE hl i v u hv hu
            · rw [List.getElem?_append_right (by simpa using hi)] at hv hu
              simp only [List.length_map] at hv hu
              exact hvr _ v u hv hu)
          have e : (execOp a.eval ⟨dst, .call ⟨.value x, args, ats⟩, ty, pos, af, gd⟩).run P w = (callFunc f (args.toList.map a.eval ++ vs).toArray).run P w := by
            simp only [execOp, resolve, hav, Deferred.ofValue, Sem.run_bind, Sem.run_pure, Result.andThen_ok, invoke]
            congr 2
            apply Array.ext'
            simp
          rw [e]; exact this
      · exact h.elim
    · exact h.elim
  · exact h.elim

theorem Oper.wp_of_call {o : Oper} {next : Act → World → Prop} {Q : Exit → Act → World → Prop} {R : Value → World → Prop} (h : CallRes P ((execOp a.eval o).run P w) w R) (hn : ∀ v w', R v w' → next (a.put o.dst v) w') : o.wp P a w next Q := by
  unfold Oper.wp
  generalize (execOp a.eval o).run P w = r at *
  unfold CallRes at h
  split at h
  · obtain ⟨rfl, hc⟩ := h
    rw [Oper.upon_enter]
    exact hc.mono fun e w'' ⟨v, he, hr⟩ => by subst he; exact hn v w'' hr
  · rw [Oper.upon_value]; exact hn _ _ h
  · exact h.elim

theorem Oper.wp_of_goes {o : Oper} {next : Act → World → Prop} {Q : Exit → Act → World → Prop} {v : AV} {σ' : Sto} (h : Goes ((execOp a.eval o).run P w) w I μ σ v σ')
    (hn : ∀ u w' I' μ', Rel w' I' μ' σ' → Keep σ.length w I μ σ w' I' μ' σ' → RepV w' I' μ' σ' u v → next (a.put o.dst u) w') : o.wp P a w next Q := by
  obtain ⟨u, w', I', μ', h1, h2, h3, h4⟩ := h
  unfold Oper.wp
  rcases h1 with h1 | ⟨h1, rfl⟩
  · rw [h1, Oper.upon_value]; exact hn u w' I' μ' h2 h3 h4
  · rw [h1, Oper.upon_skip]; exact hn _ w' I' μ' h2 h3 h4

/-- THE OPERATIONS IN THE ORDER OF THE TEXT. -/
theorem evOps_sound {all : Array Oper} {m : Nat} {K : Env → Sto → Prop} {Q : Exit → Act → World → Prop} : ∀ (ops : List Oper) (env : Env) (σ : Sto), evOps P Gl n all false ops env σ K → ∀ {w : World} {I : Im} {μ : Pos} {a : Act},
    Rel w I μ σ → GlOk Gl w I → RelEnv n w I μ σ env a → m ≤ σ.length →
    (∀ env' σ' w' I' μ' a', K env' σ' → Rel w' I' μ' σ' → GlOk Gl w' I' → RelEnv n w' I' μ' σ' env' a' → Keep m w I μ σ w' I' μ' σ' → Q .normal a' w') → wpList P all Q ops a w
  | [], env, σ, h, w, I, μ, a, hR, hG, hE, hm, hq => hq env σ w I μ a h hR hG hE (Keep.refl _ _ _ _ hm)
  | o :: rest, env, σ, h, w, I, μ, a, hR, hG, hE, hm, hq => by
    obtain ⟨hd, h⟩ := h
    cases hgd : o.guard with
    | none =>
      rw [hgd] at h
      obtain ⟨hg, h⟩ := h
      unfold wpList
      rw [if_pos (wanted_none hgd _)]
      left
      cases hc : isCall o.op with
      | true =>
        simp only [hc, if_true, Bool.false_eq_true, if_false] at h
        refine Oper.wp_of_call (call_goes hR hG hE hg h) fun v w' ⟨r, σ', I', μ', q1, q2, q3, q4⟩ => ?_
        exact evOps_sound rest _ _ q4 q1 (hG.keep q2) ((hE.keep q2).putE hd q3) (Nat.le_trans hm q2.len) fun env' σ2 w2 I2 μ2 a2 k1 k2 k3 k4 k5 => hq env' σ2 w2 I2 μ2 a2 k1 k2 k3 k4 ((q2.mono hm).trans k5)
      | false =>
        simp only [hc, Bool.false_eq_true, if_false] at h
        refine Oper.wp_of_goes (op_goes hR hG hE o hc hg h.1) fun u w' I' μ' q1 q2 q3 => ?_
        exact evOps_sound rest _ _ h.2 q1 (hG.keep q2) ((hE.keep q2).putE hd q3) (Nat.le_trans hm q2.len) fun env' σ2 w2 I2 μ2 a2 k1 k2 k3 k4 k5 => hq env' σ2 w2 I2 μ2 a2 k1 k2 k3 k4 ((q2.mono hm).trans k5)
    | some jb =>
      obtain ⟨j, b⟩ := jb
      rw [hgd] at h
      obtain ⟨hqt, hs, hg, h⟩ := h
      have hw := wanted_slot hE (all := all) hgd hs
      unfold wpList
      cases ht : slotTest (gSlot all env j) b with
      | false =>
        rw [hw, ht, if_neg (by simp)]
        rw [ht] at h
        have : ∃ x, evOps P Gl n all false rest (putE env o.dst (.iff false x)) σ K := by
          cases hc : isCall o.op with
          | true => simp only [hc, if_true] at h; obtain ⟨r0, _, h⟩ := h; exact ⟨r0, h⟩
          | false => simp only [hc, Bool.false_eq_true, if_false] at h; exact ⟨_, h.2⟩
        obtain ⟨x, hx⟩ := this
        exact evOps_sound rest _ _ hx hR hG (hE.putE hd (.iff false _ x (fun h => by cases h) (fun _ => rfl))) hm hq
      | true =>
        rw [hw, ht, if_pos rfl]
        left
        rw [ht] at h hg
        cases hc : isCall o.op with
        | true =>
          simp only [hc, if_true] at h
          obtain ⟨r0, h1, h2⟩ := h
          refine Oper.wp_of_call (call_goes hR hG hE hg (h1 trivial σ (Ext.refl σ))) fun v w' ⟨r, σ', I', μ', q1, q2, q3, q4⟩ => ?_
          obtain ⟨rfl, rfl⟩ := q4
          exact evOps_sound rest _ _ h2 q1 (hG.keep q2) ((hE.keep q2).putE hd (.iff true _ _ (fun _ => q3) (fun h => by cases h))) (Nat.le_trans hm q2.len) fun env' σ2 w2 I2 μ2 a2 k1 k2 k3 k4 k5 => hq env' σ2 w2 I2 μ2 a2 k1 k2 k3 k4 ((q2.mono hm).trans k5)
        | false =>
          simp only [hc, Bool.false_eq_true, if_false] at h
          have hgo := op_goes hR hG hE o hc hg (h.1 trivial)
          rw [opS_quiet hqt] at hgo
          refine Oper.wp_of_goes hgo fun u w' I' μ' q1 q2 q3 => ?_
          exact evOps_sound rest _ _ h.2 q1 (hG.keep q2) ((hE.keep q2).putE hd (.iff true _ _ (fun _ => q3) (fun h => by cases h))) (Nat.le_trans hm q2.len) fun env' σ2 w2 I2 μ2 a2 k1 k2 k3 k4 k5 => hq env' σ2 w2 I2 μ2 a2 k1 k2 k3 k4 ((q2.mono hm).trans k5)

end Go.AM
