/- A part of the proof: an abstract machine over data, and lemmas; nothing of the statement. No condition beyond those stated. -/
import Derived.Test.YtccgdcmgjdhikaaGreatG2
set_option linter.unusedVariables false
set_option linter.unusedSimpArgs false
set_option linter.unusedSectionVars false
set_option linter.unnecessarySimpa false
/-
  Calls, and lists of operations carried out in the order of the text.
-/
namespace Go.AM

/-- What a call comes to: its value and the world, whether it is entered or answered at once. -/
def CallRes (P : Program) (r : Result Next) (w : World) (Q : Value → World → Prop) : Prop :=
  match r with
  | .ok (.enter f args) w' => w' = w ∧ Calls P f args w fun e w'' => ∃ v, e = .returned v ∧ Q v w''
  | .ok (.value v) w' => Q v w'
  | _ => False

def Post (w : World) (I : Im) (μ : Pos) (σ : Sto) (R : AV → Sto → Prop) (v : Value) (w' : World) : Prop :=
  ∃ r σ' I' μ', Rel w' I' μ' σ' ∧ Keep σ.length w I μ σ w' I' μ' σ' ∧ RepV w' I' μ' σ' v r ∧ R r σ'

/-- THE CONTRACT of a function on abstract values. -/
def ACalls (P : Program) (Gl : Globs) (f : FuncId) (args : List AV) (σ : Sto) (R : AV → Sto → Prop) : Prop :=
  ∀ w I μ (vals : List Value), Rel w I μ σ → GlOk Gl w I → vals.length = args.length → (∀ (i : Nat) (v : Value) (u : AV), vals[i]? = some v → args[i]? = some u → RepV w I μ σ v u) →
    CallRes P ((callFunc f vals.toArray).run P w) w (Post w I μ σ R)

theorem CallRes.mono {P : Program} {r : Result Next} {w : World} {Q Q' : Value → World → Prop} (h : CallRes P r w Q) (hq : ∀ v w', Q v w' → Q' v w') : CallRes P r w Q' := by
  unfold CallRes at *
  split at h
  · exact ⟨h.1, h.2.mono fun e w'' ⟨v, hv, hr⟩ => ⟨v, hv, hq _ _ hr⟩⟩
  · exact hq _ _ h
  · exact h.elim

theorem ACalls.mono {P : Program} {Gl : Globs} {f : FuncId} {args : List AV} {σ : Sto} {R R' : AV → Sto → Prop} (h : ACalls P Gl f args σ R) (hr : ∀ r σ', R r σ' → R' r σ') : ACalls P Gl f args σ R' :=
  fun w I μ vals h1 h2 h3 h4 => (h w I μ vals h1 h2 h3 h4).mono fun _ _ ⟨r, σ', I', μ', q1, q2, q3, q4⟩ => ⟨r, σ', I', μ', q1, q2, q3, hr _ _ q4⟩

/-- a call operation: of a function, or of a function value -/
def evCallOp (P : Program) (Gl : Globs) (env : Env) (σ : Sto) (op : Op) (R : AV → Sto → Prop) : Prop :=
  match op with
  | .call c => match c.callee with
    | .value x => match evU Gl env x with
      | .fn f caps => ACalls P Gl f (c.args.toList.map (evU Gl env) ++ caps) σ R
      | _ => False
    | _ => False
  | _ => False

def slotBool (v : AV) : Bool := match v with
  | .d (.bool _) => true
  | .iff _ (.d (.bool _)) => true
  | _ => false
def slotTest (v : AV) (b : Bool) : Bool := match v with
  | .d (.bool x) => x == b
  | .iff g (.d (.bool x)) => g && (x == b)
  | _ => false
def gSlot (all : Array Oper) (env : Env) (j : Nat) : AV := match (all[j]?).bind (·.dst) with
  | some d => getE env d
  | none => .undef
def dstIn (n : Nat) : Option Tmp → Bool
  | some d => decide (d < n)
  | none => true
def putE (env : Env) (dst : Option Tmp) (v : AV) : Env := match dst with
  | some d => (d, v) :: env
  | none => env

/-- the store s has all that σ has, some arrays frozen -/
def Ext (σ s : Sto) : Prop := σ.length ≤ s.length ∧ ∀ id, (blkAt σ id).isDead = true ∨ blkAt s id = blkAt σ id ∨ blkAt s id = (blkAt σ id).frozen
theorem Ext.refl (σ : Sto) : Ext σ σ := ⟨Nat.le_refl _, fun _ => .inr (.inl rfl)⟩

def evOps (P : Program) (Gl : Globs) (n : Nat) (all : Array Oper) (draw : Bool) : List Oper → Env → Sto → (Env → Sto → Prop) → Prop
  | [], env, σ, K => K env σ
  | o :: rest, env, σ, K =>
    dstIn n o.dst = true ∧
    match o.guard with
    | none => gdOk Gl env true o.op ∧
      (if isCall o.op = true then
        (if draw = true then ∃ r0, (∀ s, Ext σ s → evCallOp P Gl env s o.op (fun r σ' => r = r0 ∧ σ' = s)) ∧ evOps P Gl n all draw rest (putE env o.dst r0) σ K
         else evCallOp P Gl env σ o.op (fun r σ' => evOps P Gl n all draw rest (putE env o.dst r) σ' K))
       else opOk P Gl σ env o.op ∧ evOps P Gl n all draw rest (putE env o.dst (opV P Gl σ env o.op)) (opS P Gl σ env o.op) K)
    | some (j, b) => quietOp o.op = true ∧ slotBool (gSlot all env j) = true ∧ gdOk Gl env (slotTest (gSlot all env j) b) o.op ∧
      (if isCall o.op = true then
        ∃ r0, (slotTest (gSlot all env j) b = true → ∀ s, Ext σ s → evCallOp P Gl env s o.op (fun r σ' => r = r0 ∧ σ' = s)) ∧ evOps P Gl n all draw rest (putE env o.dst (.iff (slotTest (gSlot all env j) b) r0)) σ K
       else (slotTest (gSlot all env j) b = true → opOk P Gl σ env o.op) ∧ evOps P Gl n all draw rest (putE env o.dst (.iff (slotTest (gSlot all env j) b) (opV P Gl σ env o.op))) σ K)

variable {P : Program} {w : World} {I : Im} {μ : Pos} {σ : Sto} {n : Nat} {Gl : Globs} {env : Env} {a : Act}

theorem opS_quiet {op : Op} (h : quietOp op = true) : opS P Gl σ env op = σ := by
  cases op <;> first | rfl | (simp [quietOp] at h; done) | skip
  rename_i c
  obtain ⟨callee, args, ts⟩ := c
  cases callee <;> first | rfl | skip
  rename_i b
  cases b <;> first | rfl | (simp [quietOp] at h; done)

theorem wanted_none {all : Array Oper} {o : Oper} (h : o.guard = none) (tmps : Array Value) : Region.wanted o (yielded all tmps) = true := by simp [Region.wanted, h]

theorem wanted_slot (hE : RelEnv n w I μ σ env a) {all : Array Oper} {o : Oper} {j : Nat} {b : Bool} (h : o.guard = some (j, b)) (hs : slotBool (gSlot all env j) = true) : Region.wanted o (yielded all a.tmps) = slotTest (gSlot all env j) b := by
  unfold gSlot at *
  cases hd : (all[j]?).bind (·.dst) with
  | none => rw [hd] at hs; simp [slotBool] at hs
  | some d =>
    rw [hd] at hs
    simp only at hs
    have hv := hE.slot d
    have hy : yielded all a.tmps j = match a.tmps.getD d Go.undef with | .bool b => some b | _ => none := by
      unfold yielded
      cases ho : all[j]? with
      | none => simp [ho] at hd
      | some o' =>
        simp [ho] at hd
        simp [hd]
        cases a.tmps[d]? with
        | none => rfl
        | some q => cases q <;> rfl
    simp only [Region.wanted, h, hy]
    generalize a.tmps.getD d Go.undef = v at *
    generalize getE env d = u at *
    cases u with
    | d x =>
      have := hv.inv_d
      cases this <;> simp_all [slotBool, slotTest]
    | iff g x =>
      cases x with
      | d y =>
        cases y with
        | bool c =>
          cases hv with
          | iff _ _ _ h1 h2 =>
            cases g with
            | true =>
              have := (h1 rfl).inv_d
              cases this
              simp [slotTest]
            | false =>
              have := h2 rfl
              subst this
              simp [slotTest, Go.undef]
        | _ => simp [slotBool] at hs
      | _ => simp [slotBool] at hs
    | _ => simp [slotBool] at hs

theorem RelEnv.putE (hE : RelEnv n w I μ σ env a) {dst : Option Tmp} (hd : dstIn n dst = true) {v : Value} {u : AV} (hv : RepV w I μ σ v u) : RelEnv n w I μ σ (AM.putE env dst u) (a.put dst v) := by
  cases dst with
  | none => exact hE
  | some d => exact hE.put (by simpa [dstIn] using hd) hv

/-- a call's run -/
theorem call_goes (hR : Rel w I μ σ) (hG : GlOk Gl w I) (hE : RelEnv n w I μ σ env a) {o : Oper} (hgd : gdOk Gl env true o.op) {R : AV → Sto → Prop} (h : evCallOp P Gl env σ o.op R) :
    CallRes P ((execOp a.eval o).run P w) w (Post w I μ σ R) := by
  obtain ⟨dst, op, ty, pos, af, gd⟩ := o
  simp only at hgd h
  unfold evCallOp at h
  split at h
  · rename_i c
    obtain ⟨callee, args, ats⟩ := c
    simp only at h hgd
    split at h
    · rename_i x
      split at h
      · rename_i f caps hu
        have hgl := gdL_mem (l := (Op.call ⟨.value x, args, ats⟩).operands.toList) hgd
        have hx := evU_rep hG hE (hgl x (by simp [Op.operands, Call.operands]))
        rw [hu] at hx
        have hl : ∀ y ∈ args.toList, evG Gl env y = true := fun y hy => hgl y (by simp [Op.operands, Call.operands]; exact .inr (by simpa using hy))
        generalize hav : a.eval x = fv at *
        cases hx with
        | fn _ vs _ hvl hvr =>
          have := h w I μ (args.toList.map a.eval ++ vs) hR hG (by simp [hvl]) (fun i v u hv hu => by
            rcases Nat.lt_or_ge i args.toList.length with hi | hi
            · rw [List.getElem?_append_left (by simpa using hi)] at hv hu
              exact args_rep hG hE hl i v u hv hu
            · rw [List.getElem?_append_right (by simpa using hi)] at hv hu
              simp only [List.length_map] at hv hu
              exact hvr _ v u hv hu)
          have e : (execOp a.eval ⟨dst, .call ⟨.value x, args, ats⟩, ty, pos, af, gd⟩).run P w = (callFunc f (args.toList.map a.eval ++ vs).toArray).run P w := by
            simp only [execOp, resolve, hav, Deferred.ofValue, Sem.run_bind, Sem.run_pure, Result.andThen_ok, invoke]
            congr 2
            apply Array.ext'
            simp
          rw [e]; exact this
      · exact h.elim
    · exact h.elim
  · exact h.elim

theorem Oper.wp_of_call {o : Oper} {next : Act → World → Prop} {Q : Exit → Act → World → Prop} {R : Value → World → Prop} (h : CallRes P ((execOp a.eval o).run P w) w R) (hn : ∀ v w', R v w' → next (a.put o.dst v) w') : o.wp P a w next Q := by
  unfold Oper.wp
  generalize (execOp a.eval o).run P w = r at *
  unfold CallRes at h
  split at h
  · obtain ⟨rfl, hc⟩ := h
    rw [Oper.upon_enter]
    exact hc.mono fun e w'' ⟨v, he, hr⟩ => by subst he; exact hn v w'' hr
  · rw [Oper.upon_value]; exact hn _ _ h
  · exact h.elim

theorem Oper.wp_of_goes {o : Oper} {next : Act → World → Prop} {Q : Exit → Act → World → Prop} {v : AV} {σ' : Sto} (h : Goes ((execOp a.eval o).run P w) w I μ σ v σ')
    (hn : ∀ u w' I' μ', Rel w' I' μ' σ' → Keep σ.length w I μ σ w' I' μ' σ' → RepV w' I' μ' σ' u v → next (a.put o.dst u) w') : o.wp P a w next Q := by
  obtain ⟨u, w', I', μ', h1, h2, h3, h4⟩ := h
  unfold Oper.wp
  rcases h1 with h1 | ⟨h1, rfl⟩
  · rw [h1, Oper.upon_value]; exact hn u w' I' μ' h2 h3 h4
  · rw [h1, Oper.upon_skip]; exact hn _ w' I' μ' h2 h3 h4

/-- THE OPERATIONS IN THE ORDER OF THE TEXT. -/
theorem evOps_sound {all : Array Oper} {m : Nat} {K : Env → Sto → Prop} {Q : Exit → Act → World → Prop} : ∀ (ops : List Oper) (env : Env) (σ : Sto), evOps P Gl n all false ops env σ K → ∀ {w : World} {I : Im} {μ : Pos} {a : Act},
    Rel w I μ σ → GlOk Gl w I → RelEnv n w I μ σ env a → m ≤ σ.length →
    (∀ env' σ' w' I' μ' a', K env' σ' → Rel w' I' μ' σ' → GlOk Gl w' I' → RelEnv n w' I' μ' σ' env' a' → Keep m w I μ σ w' I' μ' σ' → Q .normal a' w') → wpList P all Q ops a w
  | [], env, σ, h, w, I, μ, a, hR, hG, hE, hm, hq => hq env σ w I μ a h hR hG hE (Keep.refl _ _ _ _ hm)
  | o :: rest, env, σ, h, w, I, μ, a, hR, hG, hE, hm, hq => by
    obtain ⟨hd, h⟩ := h
    cases hgd : o.guard with
    | none =>
      rw [hgd] at h
      obtain ⟨hg, h⟩ := h
      unfold wpList
      rw [if_pos (wanted_none hgd _)]
      left
      cases hc : isCall o.op with
      | true =>
        simp only [hc, if_true, Bool.false_eq_true, if_false] at h
        refine Oper.wp_of_call (call_goes hR hG hE hg h) fun v w' ⟨r, σ', I', μ', q1, q2, q3, q4⟩ => ?_
        exact evOps_sound rest _ _ q4 q1 (hG.keep q2) ((hE.keep q2).putE hd q3) (Nat.le_trans hm q2.len) fun env' σ2 w2 I2 μ2 a2 k1 k2 k3 k4 k5 => hq env' σ2 w2 I2 μ2 a2 k1 k2 k3 k4 ((q2.mono hm).trans k5)
      | false =>
        simp only [hc, Bool.false_eq_true, if_false] at h
        refine Oper.wp_of_goes (op_goes hR hG hE o hc hg h.1) fun u w' I' μ' q1 q2 q3 => ?_
        exact evOps_sound rest _ _ h.2 q1 (hG.keep q2) ((hE.keep q2).putE hd q3) (Nat.le_trans hm q2.len) fun env' σ2 w2 I2 μ2 a2 k1 k2 k3 k4 k5 => hq env' σ2 w2 I2 μ2 a2 k1 k2 k3 k4 ((q2.mono hm).trans k5)
    | some jb =>
      obtain ⟨j, b⟩ := jb
      rw [hgd] at h
      obtain ⟨hqt, hs, hg, h⟩ := h
      have hw := wanted_slot hE (all := all) hgd hs
      unfold wpList
      cases ht : slotTest (gSlot all env j) b with
      | false =>
        rw [hw, ht, if_neg (by simp)]
        rw [ht] at h
        have : ∃ x, evOps P Gl n all false rest (putE env o.dst (.iff false x)) σ K := by
          cases hc : isCall o.op with
          | true => simp only [hc, if_true] at h; obtain ⟨r0, _, h⟩ := h; exact ⟨r0, h⟩
          | false => simp only [hc, Bool.false_eq_true, if_false] at h; exact ⟨_, h.2⟩
        obtain ⟨x, hx⟩ := this
        exact evOps_sound rest _ _ hx hR hG (hE.putE hd (.iff false _ x (fun h => by cases h) (fun _ => rfl))) hm hq
      | true =>
        rw [hw, ht, if_pos rfl]
        left
        rw [ht] at h hg
        cases hc : isCall o.op with
        | true =>
          simp only [hc, if_true] at h
          obtain ⟨r0, h1, h2⟩ := h
          refine Oper.wp_of_call (call_goes hR hG hE hg (h1 trivial σ (Ext.refl σ))) fun v w' ⟨r, σ', I', μ', q1, q2, q3, q4⟩ => ?_
          obtain ⟨rfl, rfl⟩ := q4
          exact evOps_sound rest _ _ h2 q1 (hG.keep q2) ((hE.keep q2).putE hd (.iff true _ _ (fun _ => q3) (fun h => by cases h))) (Nat.le_trans hm q2.len) fun env' σ2 w2 I2 μ2 a2 k1 k2 k3 k4 k5 => hq env' σ2 w2 I2 μ2 a2 k1 k2 k3 k4 ((q2.mono hm).trans k5)
        | false =>
          simp only [hc, Bool.false_eq_true, if_false] at h
          have hgo := op_goes hR hG hE o hc hg (h.1 trivial)
          rw [opS_quiet hqt] at hgo
          refine Oper.wp_of_goes hgo fun u w' I' μ' q1 q2 q3 => ?_
          exact evOps_sound rest _ _ h.2 q1 (hG.keep q2) ((hE.keep q2).putE hd (.iff true _ _ (fun _ => q3) (fun h => by cases h))) (Nat.le_trans hm q2.len) fun env' σ2 w2 I2 μ2 a2 k1 k2 k3 k4 k5 => hq env' σ2 w2 I2 μ2 a2 k1 k2 k3 k4 ((q2.mono hm).trans k5)

end Go.AM

/-
  Regions whose operations may run in any order that their edges allow: what they come to in the order of the text they come to in each.
-/
namespace Go.AM

/-! ### what an operation reads -/
def tmpsIn (l : List Operand) : List Tmp := l.filterMap fun | .tmp t => some t | _ => none
def readsO (all : Array Oper) (o : Oper) : List Tmp :=
  tmpsIn o.op.operands.toList ++ (match o.guard with | some (j, _) => ((all[j]?).bind (·.dst)).toList | none => [])

variable {P : Program} {Gl : Globs} {env env' : Env} {σ σ' s : Sto} {n : Nat} {all : Array Oper}

def SameOn (l : List Tmp) (env env' : Env) : Prop := ∀ t ∈ l, getE env t = getE env' t
def Sees (env env' : Env) (l : List Operand) : Prop := ∀ x ∈ l, ∀ t, x = .tmp t → getE env t = getE env' t

theorem evU_same {x : Operand} (h : ∀ t, x = .tmp t → getE env t = getE env' t) : evU Gl env x = evU Gl env' x := by
  cases x with
  | tmp t => simp only [evU, evO, h t rfl]
  | _ => rfl
theorem evG_same {x : Operand} (h : ∀ t, x = .tmp t → getE env t = getE env' t) : evG Gl env x = evG Gl env' x := by
  cases x with
  | tmp t => simp only [evG, evO, h t rfl]
  | _ => rfl

theorem gdL_same {g : Bool} : ∀ {l : List Operand}, Sees env env' l → gdL Gl env g l = gdL Gl env' g l
  | [], _ => rfl
  | x :: l, h => by
    simp only [gdL]
    rw [evG_same (h x (by simp)), gdL_same (l := l) fun y hy => h y (by simp [hy])]

theorem map_same {l : List Operand} (h : Sees env env' l) : l.map (evU Gl env) = l.map (evU Gl env') :=
  List.map_congr_left fun x hx => evU_same (h x hx)
theorem parts_same {l : Array (Nat × Operand)} (h : Sees env env' (l.toList.map (·.2))) : partsU Gl env l = partsU Gl env' l :=
  List.map_congr_left fun p hp => by rw [evU_same (h p.2 (List.mem_map.2 ⟨p, hp, rfl⟩))]

theorem bound_same {o : Option Operand} (h : Sees env env' o.toList) (k : Nat) : boundOk Gl env o = boundOk Gl env' o ∧ loOf Gl env o = loOf Gl env' o ∧ hiOf Gl env k o = hiOf Gl env' k o := by
  cases o with
  | none => exact ⟨rfl, rfl, rfl⟩
  | some x => simp only [boundOk, loOf, hiOf, evU_same (Gl := Gl) (h x (by simp))]; exact ⟨trivial, trivial, trivial⟩

theorem gdOk_same {g : Bool} {op : Op} (h : Sees env env' op.operands.toList) : gdOk Gl env g op = gdOk Gl env' g op := by
  cases op <;> first
    | exact gdL_same h
    | skip
  rename_i c a b
  simp only [Op.operands] at h
  simp only [gdOk, evG_same (Gl := Gl) (h c (by simp)), evU_same (Gl := Gl) (h c (by simp)), evG_same (Gl := Gl) (h a (by simp)), evG_same (Gl := Gl) (h b (by simp))]

theorem bi_same {b : Builtin} {args : List Operand} {ts : List TypeId} (h : Sees env env' args) :
    biOk P Gl σ env b args ts = biOk P Gl σ env' b args ts ∧ biV Gl σ env b args = biV Gl σ env' b args ∧ biS P Gl σ env b args ts = biS P Gl σ env' b args ts := by
  have hm := map_same (Gl := Gl) h
  have hu : ∀ x ∈ args, evU Gl env x = evU Gl env' x := fun x hx => evU_same (h x hx)
  refine ⟨?_, ?_, ?_⟩
  · unfold biOk
    split <;> first | rfl | rw [hm] | simp [hu]
  · unfold biV
    split <;> first | rfl | rw [hm] | simp [hu]
  · unfold biS
    split <;> first | rfl | rw [hm] | simp [hu]

theorem op_same {op : Op} (h : Sees env env' op.operands.toList) : opOk P Gl σ env op = opOk P Gl σ env' op ∧ opV P Gl σ env op = opV P Gl σ env' op ∧ opS P Gl σ env op = opS P Gl σ env' op := by
  have hu : ∀ x ∈ op.operands.toList, evU Gl env x = evU Gl env' x := fun x hx => evU_same (h x hx)
  cases op with
  | build t ps =>
    have := parts_same (Gl := Gl) (l := ps) (by simpa [Op.operands] using h)
    simp only [opOk, opV, opS, this]; exact ⟨trivial, trivial, trivial⟩
  | buildSlice t k ps =>
    have := parts_same (Gl := Gl) (l := ps) (by simpa [Op.operands] using h)
    simp only [opOk, opV, opS, this]; exact ⟨trivial, trivial, trivial⟩
  | makeFunc fn first caps =>
    have : caps.toList.map (evU Gl env) = caps.toList.map (evU Gl env') := map_same fun x hx => h x (by simp [Op.operands]; exact .inr (by simpa using hx))
    simp only [opOk, opV, opS, this]; exact ⟨trivial, trivial, trivial⟩
  | slice t x lo hi mx =>
    have e0 : evU Gl env x = evU Gl env' x := hu x (by simp [Op.operands])
    have e1 := fun k => bound_same (Gl := Gl) (o := lo) (fun y hy => h y (by simp [Op.operands]; exact .inr (.inl (by simpa using hy)))) k
    have e2 := fun k => bound_same (Gl := Gl) (o := hi) (fun y hy => h y (by simp [Op.operands]; exact .inr (.inr (.inl (by simpa using hy))))) k
    simp only [opOk, opV, opS, e0, (e1 0).1, (e1 0).2.1, (e2 0).1, (e2 _).2.2]; exact ⟨trivial, trivial, trivial⟩
  | call c =>
    obtain ⟨callee, args, ats⟩ := c
    cases callee with
    | builtin b =>
      have := bi_same (P := P) (Gl := Gl) (σ := σ) (b := b) (args := args.toList) (ts := ats.toList) (fun x hx => h x (by simpa [Op.operands, Call.operands] using hx))
      simp only [opOk, opV, opS]
      exact this
    | _ => exact ⟨rfl, rfl, rfl⟩
  | _ =>
    simp only [Op.operands, List.mem_cons, List.not_mem_nil, or_false, forall_eq_or_imp, forall_eq] at hu
    first
      | (simp only [opOk, opV, opS]; exact ⟨trivial, trivial, trivial⟩)
      | (simp only [opOk, opV, opS, hu]; exact ⟨trivial, trivial, trivial⟩)
      | exact ⟨rfl, rfl, rfl⟩

theorem callOp_same {op : Op} {R : AV → Sto → Prop} (h : Sees env env' op.operands.toList) : evCallOp P Gl env σ op R = evCallOp P Gl env' σ op R := by
  cases op with
  | call c =>
    obtain ⟨callee, args, ats⟩ := c
    cases callee with
    | value x =>
      have e : evU Gl env x = evU Gl env' x := evU_same (h x (by simp [Op.operands, Call.operands]))
      have e2 : args.toList.map (evU Gl env) = args.toList.map (evU Gl env') := map_same fun y hy => h y (by simp [Op.operands, Call.operands]; exact .inr (by simpa using hy))
      simp only [evCallOp, e, e2]
    | _ => rfl
  | _ => rfl

theorem sees_of {l : List Operand} (h : SameOn (tmpsIn l) env env') : Sees env env' l := by
  intro x hx t e
  subst e
  exact h t (List.mem_filterMap.2 ⟨_, hx, rfl⟩)

/-! ### the store grown -/
theorem Ext.box (h : Ext σ s) {id : Nat} (hb : (blkAt σ id).isBox = true) : blkAt s id = blkAt σ id := by
  rcases h.2 id with h1 | h1 | h1
  · cases hB : blkAt σ id <;> simp_all [Blk.isDead, Blk.isBox]
  · exact h1
  · cases hB : blkAt σ id <;> simp_all [Blk.isBox, Blk.frozen]
theorem Ext.arr (h : Ext σ s) {id : Nat} (hb : (blkAt σ id).isArr = true) : (blkAt s id).isArr = true ∧ (blkAt s id).es = (blkAt σ id).es ∧ (blkAt s id).xs = (blkAt σ id).xs := by
  rcases h.2 id with h1 | h1 | h1
  · cases hB : blkAt σ id <;> simp_all [Blk.isDead, Blk.isArr]
  · rw [h1]; exact ⟨hb, rfl, rfl⟩
  · rw [h1]; cases hB : blkAt σ id <;> simp_all [Blk.isArr, Blk.frozen, Blk.es, Blk.xs]
theorem Ext.map (h : Ext σ s) {id : Nat} (hb : (blkAt σ id).isMap = true) : blkAt s id = blkAt σ id := by
  rcases h.2 id with h1 | h1 | h1
  · cases hB : blkAt σ id <;> simp_all [Blk.isDead, Blk.isMap]
  · exact h1
  · cases hB : blkAt σ id <;> simp_all [Blk.isMap, Blk.frozen]
theorem Ext.trans {s' : Sto} (h : Ext σ s) (k : Ext s s') : Ext σ s' := by
  refine ⟨Nat.le_trans h.1 k.1, fun id => ?_⟩
  rcases h.2 id with h1 | h1 | h1
  · exact .inl h1
  · rcases k.2 id with k1 | k1 | k1
    · rw [h1] at k1; exact .inl k1
    · exact .inr (.inl (k1.trans h1))
    · rw [h1] at k1; exact .inr (.inr k1)
  · rcases k.2 id with k1 | k1 | k1
    · rw [h1] at k1
      left
      cases hB : blkAt σ id <;> simp_all [Blk.isDead, Blk.frozen]
    · exact .inr (.inr (k1.trans h1))
    · rw [h1] at k1
      refine .inr (.inr (k1.trans ?_))
      cases hB : blkAt σ id <;> rfl
theorem Ext.append (B : Blk) : Ext σ (σ ++ [B]) := by
  refine ⟨by simp, fun id => ?_⟩
  rcases Nat.lt_or_ge id σ.length with h | h
  · exact .inr (.inl (blkAt_append_old h))
  · left; unfold blkAt; rw [List.getD_eq_getElem?_getD, List.getElem?_eq_none h]; rfl
theorem Ext.freeze (id : Nat) : Ext σ (freeze σ id) := by
  refine ⟨by simp [AM.freeze], fun j => ?_⟩
  unfold AM.freeze
  by_cases e : id = j
  · subst e
    rcases Nat.lt_or_ge id σ.length with h | h
    · exact .inr (.inr (blkAt_set_self h))
    · left; unfold blkAt; rw [List.getD_eq_getElem?_getD, List.getElem?_eq_none h]; rfl
  · exact .inr (.inl (blkAt_set_ne e))
theorem Ext.freezeL : ∀ (l : List Nat) {σ : Sto}, Ext σ (freezeL σ l)
  | [], σ => Ext.refl σ
  | i :: l, σ => (Ext.freeze i).trans (Ext.freezeL l)

theorem ldOk_ext (h : Ext σ s) {g : Bool} {k : Nat} {v : AV} (ho : ldOk σ g k v) : ldOk s g k v ∧ ldV s g k v = ldV σ g k v := by
  cases v with
  | ptr id off => simp only [ldOk, ldV] at ho ⊢; rw [h.box ho.1]; exact ⟨ho, rfl⟩
  | eptr es xs i off => exact ⟨ho, rfl⟩
  | aptr id i off =>
    simp only [ldOk, ldV] at ho ⊢
    obtain ⟨e1, e2, e3⟩ := h.arr ho.1
    rw [e2, e3, e1]; exact ⟨⟨rfl, ho.2⟩, rfl⟩
  | _ => exact ho.elim
theorem idxOk_ext (h : Ext σ s) {es : Nat} {i : Int} {v : AV} (ho : idxOk σ es i v) : idxOk s es i v := by
  cases v with
  | osl id off len =>
    simp only [idxOk] at ho ⊢
    obtain ⟨e1, e2, e3⟩ := h.arr ho.2.2.1
    rw [e2, e1]; exact ⟨ho.1, ho.2.1, rfl, ho.2.2.2⟩
  | d x => cases x <;> exact ho
  | _ => exact ho.elim
theorem slOk_ext (h : Ext σ s) {t : TypeId} {lo hi : Int} {v : AV} (ho : slOk P t σ lo hi v) : slOk P t s lo hi v := by
  cases v with
  | osl id off len =>
    simp only [slOk] at ho ⊢
    obtain ⟨e1, e2, e3⟩ := h.arr ho.2.2.2.2.1
    rw [e2, e1]; exact ⟨ho.1, ho.2.1, ho.2.2.1, ho.2.2.2.1, rfl, ho.2.2.2.2.2⟩
  | d x => cases x <;> exact ho
  | _ => exact ho

theorem len_sto (σ s : Sto) (args : List Operand) (ts : List TypeId) : biOk P Gl s env .len args ts = biOk P Gl σ env .len args ts ∧ biV Gl s env .len args = biV Gl σ env .len args := by
  match args, ts with
  | [], _ => exact ⟨rfl, rfl⟩
  | [_], [] => exact ⟨rfl, rfl⟩
  | [_], [_] => exact ⟨rfl, rfl⟩
  | [_], _ :: _ :: _ => exact ⟨rfl, rfl⟩
  | _ :: _ :: _, _ => exact ⟨rfl, rfl⟩

/-- a quiet operation comes to the same in a store that has more -/
theorem op_ext (h : Ext σ s) {op : Op} (hq : quietOp op = true) (ho : opOk P Gl σ env op) : opOk P Gl s env op ∧ opV P Gl s env op = opV P Gl σ env op := by
  cases op with
  | load t x =>
    simp only [opOk, opV] at ho ⊢
    cases h1 : tkind P t <;> cases h2 : tsz P t <;> simp only [h1, h2] at ho ⊢
    exact ldOk_ext h ho
  | indexAddr t x i =>
    simp only [opOk, opV] at ho ⊢
    refine ⟨⟨ho.1, ?_⟩, trivial⟩
    have h2 := ho.2
    split <;> rename_i e <;> simp only [e] at h2
    · exact idxOk_ext h h2
    · exact h2
  | slice t x lo hi mx =>
    simp only [opOk, opV] at ho ⊢
    cases mx with
    | some _ => exact ho.elim
    | none => exact ⟨⟨ho.1, ho.2.1, slOk_ext h ho.2.2⟩, trivial⟩
  | lookup t m k ok =>
    simp only [opOk, opV] at ho ⊢
    cases h1 : tmap P t with
    | none => simp only [h1] at ho
    | some q =>
      obtain ⟨ik, e⟩ := q
      simp only [h1] at ho ⊢
      obtain ⟨h2, h3, h4⟩ := ho
      generalize evU Gl env m = u at *
      cases u with
      | mapr id =>
        have he := h.map h3.1
        simp only [lkOk, lkV, lkF, he] at h3 ⊢
        exact ⟨⟨h2, h3, h4⟩, trivial⟩
      | d x =>
        have e : lkOk s ik (.d x) = lkOk σ ik (.d x) := by cases x <;> first | rfl | (rename_i v; cases v <;> first | rfl | (rename_i p; cases p <;> rfl))
        rw [e]; exact ⟨⟨h2, h3, h4⟩, rfl⟩
      | _ => exact h3.elim
  | call c =>
    obtain ⟨callee, args, ats⟩ := c
    cases callee with
    | builtin b =>
      simp only [opOk, opV] at ho ⊢
      cases b <;> first | exact ⟨ho, rfl⟩ | (simp [quietOp] at hq; done) | skip
      obtain ⟨q1, q2⟩ := len_sto (P := P) (Gl := Gl) (env := env) σ s args.toList ats.toList
      exact ⟨by rw [q1]; exact ho, q2⟩
    | _ => exact ho.elim
  | _ => first | exact ⟨ho, rfl⟩ | (simp [quietOp] at hq; done)

/-- looks at no store -/
def noSto : Op → Bool
  | .load .. | .indexAddr .. | .slice .. | .lookup .. => false
  | .call { callee := .builtin .append, .. } => false
  | .call { callee := .builtin .delete, .. } => false
  | .call { callee := .builtin .clear, .. } => false
  | .call { callee := .builtin _, .. } => true
  | .call _ => false
  | op => quietOp op
theorem noSto_quiet {op : Op} (h : noSto op = true) : quietOp op = true ∧ isCall op = false := by
  cases op with
  | call c =>
    obtain ⟨callee, args, ats⟩ := c
    cases callee with
    | builtin b => cases b <;> simp_all [noSto, quietOp, isCall]
    | _ => simp [noSto] at h
  | _ => simp_all [noSto, quietOp, isCall]
theorem op_noSto {op : Op} (h : noSto op = true) (σ s : Sto) : opOk P Gl s env op = opOk P Gl σ env op ∧ opV P Gl s env op = opV P Gl σ env op := by
  cases op with
  | call c =>
    obtain ⟨callee, args, ats⟩ := c
    cases callee with
    | builtin b => cases b <;> first | exact ⟨rfl, rfl⟩ | (simp [noSto] at h; done) | exact len_sto σ s _ _
    | _ => simp [noSto] at h
  | _ => first | exact ⟨rfl, rfl⟩ | (simp [noSto, quietOp] at h; done)

/-- only adds a block -/
def addOp : Op → Bool
  | .alloc _ | .box _ _ | .buildSlice .. | .makeSlice .. | .makeMap .. => true
  | _ => false
theorem op_add {op : Op} (h : addOp op = true) (ho : opOk P Gl σ env op) : Ext σ (opS P Gl σ env op) := by
  cases op with
  | alloc t =>
    simp only [opOk, opS] at ho ⊢
    split
    · exact Ext.append _
    · exact Ext.refl _
  | box t x => exact Ext.append _
  | buildSlice t k ps =>
    cases k with
    | zero => exact Ext.append _
    | succ k => exact (Ext.freezeL _).trans (Ext.append _)
  | makeSlice t l c => exact Ext.append _
  | makeMap t r =>
    simp only [opS]
    split
    · exact Ext.append _
    · exact Ext.refl _
  | _ => simp [addOp] at h

/-! ### one operation -/
def Step (P : Program) (Gl : Globs) (n : Nat) (all : Array Oper) (o : Oper) (env : Env) (σ : Sto) (v : AV) (σ' : Sto) : Prop :=
  dstIn n o.dst = true ∧
  match o.guard with
  | none => gdOk Gl env true o.op ∧
    (if isCall o.op = true then (∀ s, Ext σ s → evCallOp P Gl env s o.op (fun r s' => r = v ∧ s' = s)) ∧ σ' = σ
     else opOk P Gl σ env o.op ∧ v = opV P Gl σ env o.op ∧ σ' = opS P Gl σ env o.op)
  | some (j, b) => quietOp o.op = true ∧ slotBool (gSlot all env j) = true ∧ gdOk Gl env (slotTest (gSlot all env j) b) o.op ∧ σ' = σ ∧
    (if isCall o.op = true then ∃ r0, v = .iff (slotTest (gSlot all env j) b) r0 ∧ (slotTest (gSlot all env j) b = true → ∀ s, Ext σ s → evCallOp P Gl env s o.op (fun r s' => r = r0 ∧ s' = s))
     else ∃ r0, v = .iff (slotTest (gSlot all env j) b) r0 ∧ (slotTest (gSlot all env j) b = true → opOk P Gl σ env o.op ∧ r0 = opV P Gl σ env o.op))

def Steps (P : Program) (Gl : Globs) (n : Nat) (all : Array Oper) : List Oper → Env → Sto → (Env → Sto → Prop) → Prop
  | [], env, σ, K => K env σ
  | o :: rest, env, σ, K => ∃ v σ', Step P Gl n all o env σ v σ' ∧ Steps P Gl n all rest (putE env o.dst v) σ' K

theorem steps_of {K : Env → Sto → Prop} : ∀ (l : List Oper) (env : Env) (σ : Sto), evOps P Gl n all true l env σ K → Steps P Gl n all l env σ K
  | [], _, _, h => h
  | o :: rest, env, σ, h => by
    simp only [evOps] at h
    simp only [Steps, Step]
    cases hg : o.guard with
    | none =>
      rw [hg] at h
      simp only at h ⊢
      cases hc : isCall o.op with
      | true =>
        simp only [hc, if_true] at h ⊢
        obtain ⟨h1, h2, r0, h3, h4⟩ := h
        exact ⟨r0, σ, ⟨h1, h2, h3, rfl⟩, steps_of rest _ _ h4⟩
      | false =>
        simp only [hc, Bool.false_eq_true, if_false] at h ⊢
        obtain ⟨h1, h2, h3, h4⟩ := h
        exact ⟨_, _, ⟨h1, h2, h3, rfl, rfl⟩, steps_of rest _ _ h4⟩
    | some jb =>
      obtain ⟨j, b⟩ := jb
      rw [hg] at h
      simp only at h ⊢
      cases hc : isCall o.op with
      | true =>
        simp only [hc, if_true] at h ⊢
        obtain ⟨h1, h2, h3, h4, r0, h5, h6⟩ := h
        exact ⟨_, σ, ⟨h1, h2, h3, h4, rfl, r0, rfl, h5⟩, steps_of rest _ _ h6⟩
      | false =>
        simp only [hc, Bool.false_eq_true, if_false] at h ⊢
        obtain ⟨h1, h2, h3, h4, h5, h6⟩ := h
        exact ⟨_, _, ⟨h1, h2, h3, h4, rfl, _, rfl, fun ht => ⟨h5 ht, rfl⟩⟩, steps_of rest _ _ h6⟩

theorem gSlot_same {o : Oper} {j : Nat} {b : Bool} (hg : o.guard = some (j, b)) (h : SameOn (readsO all o) env env') : gSlot all env j = gSlot all env' j := by
  unfold gSlot
  cases hd : (all[j]?).bind (·.dst) with
  | none => rfl
  | some d => exact h d (by simp [readsO, hg, hd])

theorem step_same {o : Oper} {v : AV} (h : SameOn (readsO all o) env env') (hs : Step P Gl n all o env σ v σ') : Step P Gl n all o env' σ v σ' := by
  have hsee : Sees env env' o.op.operands.toList := sees_of fun t ht => h t (by simp [readsO, ht])
  obtain ⟨e1, e2, e3⟩ := op_same (P := P) (Gl := Gl) (σ := σ) hsee
  obtain ⟨hd, hs⟩ := hs
  refine ⟨hd, ?_⟩
  cases hg : o.guard with
  | none =>
    rw [hg] at hs
    simp only at hs ⊢
    rw [gdOk_same hsee] at hs
    refine ⟨hs.1, ?_⟩
    have h2 := hs.2
    cases hc : isCall o.op with
    | true =>
      simp only [hc, if_true] at h2 ⊢
      exact ⟨fun s hx => by rw [← callOp_same hsee]; exact h2.1 s hx, h2.2⟩
    | false =>
      simp only [hc, Bool.false_eq_true, if_false] at h2 ⊢
      rw [← e1, ← e2, ← e3]; exact h2
  | some jb =>
    obtain ⟨j, b⟩ := jb
    rw [hg] at hs
    simp only at hs ⊢
    rw [← gSlot_same hg h, ← gdOk_same hsee]
    obtain ⟨h1, h2, h3, h4, h5⟩ := hs
    refine ⟨h1, h2, h3, h4, ?_⟩
    cases hc : isCall o.op with
    | true =>
      simp only [hc, if_true] at h5 ⊢
      obtain ⟨r0, q1, q2⟩ := h5
      exact ⟨r0, q1, fun ht s hx => by rw [← callOp_same hsee]; exact q2 ht s hx⟩
    | false =>
      simp only [hc, Bool.false_eq_true, if_false] at h5 ⊢
      rw [← e1, ← e2]; exact h5

theorem getE_putE {d : Option Tmp} {v : AV} {t : Tmp} (h : d ≠ some t) : getE (putE env d v) t = getE env t := by
  cases d with
  | none => rfl
  | some d => simp only [putE, getE]; rw [if_neg fun e => h (by rw [e])]

/-- leaves the store -/
def still (o : Oper) : Bool := o.guard.isSome || quietOp o.op
theorem step_still {o : Oper} {v : AV} (h : still o = true) (hs : Step P Gl n all o env σ v σ') : σ' = σ := by
  obtain ⟨_, hs⟩ := hs
  cases hg : o.guard with
  | none =>
    rw [hg] at hs
    simp only [still, hg, Option.isSome_none, Bool.false_or] at h
    have h2 := hs.2
    cases hc : isCall o.op with
    | true => simp only [hc, if_true] at h2; exact h2.2
    | false => simp only [hc, Bool.false_eq_true, if_false] at h2; rw [h2.2.2]; exact opS_quiet h
  | some jb => rw [hg] at hs; exact hs.2.2.2.1

theorem step_ext {o : Oper} {v : AV} {s : Sto} (h : still o = true) (hx : Ext σ s) (hs : Step P Gl n all o env σ v σ') : Step P Gl n all o env s v s := by
  obtain ⟨hd, hs⟩ := hs
  refine ⟨hd, ?_⟩
  cases hg : o.guard with
  | none =>
    rw [hg] at hs
    simp only [still, hg, Option.isSome_none, Bool.false_or] at h
    refine ⟨hs.1, ?_⟩
    have h2 := hs.2
    cases hc : isCall o.op with
    | true =>
      simp only [hc, if_true] at h2 ⊢
      exact ⟨fun s' hx' => h2.1 s' (hx.trans hx'), trivial⟩
    | false =>
      simp only [hc, Bool.false_eq_true, if_false] at h2 ⊢
      obtain ⟨q1, q2⟩ := op_ext hx h h2.1
      exact ⟨q1, by rw [q2]; exact h2.2.1, (opS_quiet h).symm⟩
  | some jb =>
    obtain ⟨j, b⟩ := jb
    rw [hg] at hs
    obtain ⟨h1, h2, h3, h4, h5⟩ := hs
    refine ⟨h1, h2, h3, rfl, ?_⟩
    cases hc : isCall o.op with
    | true =>
      simp only [hc, if_true] at h5 ⊢
      obtain ⟨r0, q1, q2⟩ := h5
      exact ⟨r0, q1, fun ht s' hx' => q2 ht s' (hx.trans hx')⟩
    | false =>
      simp only [hc, Bool.false_eq_true, if_false] at h5 ⊢
      obtain ⟨r0, q1, q2⟩ := h5
      exact ⟨r0, q1, fun ht => by
        obtain ⟨p1, p2⟩ := q2 ht
        obtain ⟨q3, q4⟩ := op_ext hx h1 p1
        exact ⟨q3, by rw [q4]; exact p2⟩⟩

theorem step_noSto {o : Oper} {v : AV} (h : noSto o.op = true) (hs : Step P Gl n all o env σ v σ') : σ' = σ ∧ ∀ s, Step P Gl n all o env s v s := by
  obtain ⟨hq, hnc⟩ := noSto_quiet h
  have hst : still o = true := by simp [still, hq]
  refine ⟨step_still hst hs, fun s => ?_⟩
  obtain ⟨e1, e2⟩ := op_noSto (P := P) (Gl := Gl) (env := env) h σ s
  obtain ⟨hd, hs⟩ := hs
  refine ⟨hd, ?_⟩
  cases hg : o.guard with
  | none =>
    rw [hg] at hs
    simp only [hnc, Bool.false_eq_true, if_false] at hs ⊢
    rw [e1, e2, opS_quiet hq]
    exact ⟨hs.1, hs.2.1, hs.2.2.1, rfl⟩
  | some jb =>
    obtain ⟨j, b⟩ := jb
    rw [hg] at hs
    simp only [hnc, Bool.false_eq_true, if_false] at hs ⊢
    obtain ⟨h1, h2, h3, h4, r0, q1, q2⟩ := hs
    exact ⟨h1, h2, h3, trivial, r0, q1, fun ht => by rw [e1, e2]; exact q2 ht⟩

def addO (o : Oper) : Bool := o.guard.isNone && addOp o.op
theorem step_add {o : Oper} {v : AV} (h : addO o = true) (hs : Step P Gl n all o env σ v σ') : Ext σ σ' := by
  simp only [addO, Bool.and_eq_true, Option.isNone_iff_eq_none] at h
  obtain ⟨hd, hs⟩ := hs
  rw [h.1] at hs
  have hc : isCall o.op = false := by
    have := h.2
    generalize o.op = op at *
    cases op <;> first | rfl | (simp [addOp] at this; done)
  simp only [hc, Bool.false_eq_true, if_false] at hs
  rw [hs.2.2.2]
  exact op_add h.2 hs.2.1

/-- x stands ahead of y in the text; y may be carried out first -/
def indep (all : Array Oper) (x y : Oper) : Bool :=
  (match x.dst, y.dst with | some a, some b => a != b | _, _ => true) &&
  (match x.dst with | some a => !(readsO all y).contains a | none => true) &&
  (match y.dst with | some b => !(readsO all x).contains b | none => true) &&
  ((still x && still y) || noSto x.op || noSto y.op || (still x && addO y))

theorem indep_spec {x y : Oper} (h : indep all x y = true) : (∀ a, x.dst = some a → y.dst ≠ some a) ∧ (∀ a, x.dst = some a → a ∉ readsO all y) ∧ (∀ b, y.dst = some b → b ∉ readsO all x) ∧
    ((still x = true ∧ still y = true) ∨ noSto x.op = true ∨ noSto y.op = true ∨ (still x = true ∧ addO y = true)) := by
  simp only [indep, Bool.and_eq_true, Bool.or_eq_true] at h
  obtain ⟨⟨⟨h1, h2⟩, h3⟩, h4⟩ := h
  refine ⟨fun a ha hb => ?_, fun a ha => ?_, fun b hb => ?_, ?_⟩
  · rw [ha, hb] at h1; simp at h1
  · rw [ha] at h2; simpa using h2
  · rw [hb] at h3; simpa using h3
  · rcases h4 with ((h4 | h4) | h4) | h4
    · exact .inl h4
    · exact .inr (.inl h4)
    · exact .inr (.inr (.inl h4))
    · exact .inr (.inr (.inr h4))

theorem sameOn_put {o : Oper} {d : Option Tmp} {v : AV} (h : ∀ a, d = some a → a ∉ readsO all o) : SameOn (readsO all o) (putE env d v) env := by
  intro t ht
  exact getE_putE fun e => h t e ht
theorem SameOn.symm {l : List Tmp} (h : SameOn l env env') : SameOn l env' env := fun t ht => (h t ht).symm

theorem step_swap {x y : Oper} (h : indep all x y = true) {v1 v2 : AV} {σ1 σ2 : Sto} (h1 : Step P Gl n all x env σ v1 σ1) (h2 : Step P Gl n all y (putE env x.dst v1) σ1 v2 σ2) :
    ∃ σy, Step P Gl n all y env σ v2 σy ∧ Step P Gl n all x (putE env y.dst v2) σy v1 σ2 := by
  obtain ⟨_, q2, q3, q4⟩ := indep_spec h
  have h2' := step_same (sameOn_put (env := env) (v := v1) q2) h2
  have back : ∀ {s s' : Sto}, Step P Gl n all x env s v1 s' → Step P Gl n all x (putE env y.dst v2) s v1 s' := fun hh => step_same (sameOn_put (env := env) (v := v2) q3).symm hh
  rcases q4 with ⟨hx, hy⟩ | hx | hy | ⟨hx, hy⟩
  · have e1 := step_still hx h1
    have e2 := step_still hy h2
    subst e1; subst e2
    exact ⟨_, h2', back h1⟩
  · obtain ⟨e1, g1⟩ := step_noSto hx h1
    subst e1
    exact ⟨_, h2', back (g1 _)⟩
  · obtain ⟨e2, g2⟩ := step_noSto hy h2'
    subst e2
    exact ⟨_, g2 _, back h1⟩
  · have e1 := step_still hx h1
    subst e1
    exact ⟨_, h2', back (step_ext hx (step_add hy h2') h1)⟩

def SameE (env env' : Env) : Prop := ∀ t, getE env t = getE env' t
theorem SameE.put (h : SameE env env') (d : Option Tmp) (v : AV) : SameE (putE env d v) (putE env' d v) := by
  intro t
  cases d with
  | none => exact h t
  | some d =>
    simp only [putE, getE]
    split
    · rfl
    · exact h t
theorem SameE.swap {d e : Option Tmp} (hne : ∀ a, d = some a → e ≠ some a) (v u : AV) : SameE (putE (putE env d v) e u) (putE (putE env e u) d v) := by
  intro t
  by_cases h1 : e = some t
  · have h2 : d ≠ some t := fun h => hne t h h1
    rw [getE_putE h2, h1]
    simp [putE, getE]
  · rw [getE_putE h1]
    by_cases h2 : d = some t
    · rw [h2]; simp [putE, getE]
    · rw [getE_putE h2, getE_putE h2, getE_putE h1]

/-- what is said of a state, whatever way it is written -/
def KX (K : Env → Sto → Prop) (env : Env) (σ : Sto) : Prop := ∃ env0, SameE env0 env ∧ K env0 σ
theorem KX.ext {K : Env → Sto → Prop} (h : SameE env env') (hk : KX K env σ) : KX K env' σ := by
  obtain ⟨e0, h0, hk⟩ := hk
  exact ⟨e0, fun t => (h0 t).trans (h t), hk⟩

theorem steps_ext {K : Env → Sto → Prop} : ∀ (l : List Oper) {env env' : Env} {σ : Sto}, SameE env env' → Steps P Gl n all l env σ (KX K) → Steps P Gl n all l env' σ (KX K)
  | [], _, _, _, h, hk => KX.ext h hk
  | o :: rest, _, _, _, h, hk => by
    obtain ⟨v, σ', h1, h2⟩ := hk
    exact ⟨v, σ', step_same (fun t _ => h t) h1, steps_ext rest (h.put _ _) h2⟩

theorem steps_front {K : Env → Sto → Prop} {y : Oper} {post : List Oper} : ∀ (pre : List Oper) {env : Env} {σ : Sto}, (∀ x ∈ pre, indep all x y = true) → Steps P Gl n all (pre ++ y :: post) env σ (KX K) → Steps P Gl n all (y :: (pre ++ post)) env σ (KX K)
  | [], _, _, _, h => h
  | x :: pre, env, σ, hi, h => by
    obtain ⟨v1, σ1, h1, h2⟩ := h
    obtain ⟨v2, σ2, h3, h4⟩ := steps_front pre (fun z hz => hi z (by simp [hz])) h2
    have hxy := hi x (by simp)
    obtain ⟨σy, h5, h6⟩ := step_swap hxy h1 h3
    exact ⟨v2, σy, h5, v1, σ2, h6, steps_ext _ (SameE.swap (indep_spec hxy).1 _ _) h4⟩
end Go.AM

/-
  Regions whose operations may run in any order: the runs.
-/
namespace Go.AM
variable {P : Program} {Gl : Globs} {env : Env} {σ σ' : Sto} {n : Nat} {all : Array Oper} {w : World} {I : Im} {μ : Pos} {a : Act} {Q : Exit → Act → World → Prop}

theorem step_sound {o : Oper} {i : Nat} {v : AV} {Kw : Act → World → Prop} (hR : Rel w I μ σ) (hG : GlOk Gl w I) (hE : RelEnv n w I μ σ env a) (hi : all[i]? = some o) (hs : Step P Gl n all o env σ v σ')
    (hn : ∀ a' w' I' μ', Rel w' I' μ' σ' → GlOk Gl w' I' → RelEnv n w' I' μ' σ' (putE env o.dst v) a' → Keep σ.length w I μ σ w' I' μ' σ' → Kw a' w') : wpOp P all Q i Kw a w := by
  unfold wpOp
  rw [hi]
  simp only
  obtain ⟨hd, hs⟩ := hs
  cases hgd : o.guard with
  | none =>
    rw [hgd] at hs
    obtain ⟨hg, h⟩ := hs
    rw [if_pos (wanted_none hgd _)]
    left
    cases hc : isCall o.op with
    | true =>
      simp only [hc, if_true] at h
      obtain ⟨h1, rfl⟩ := h
      refine Oper.wp_of_call (call_goes hR hG hE hg (h1 σ' (Ext.refl _))) fun u w' ⟨r, s', I', μ', q1, q2, q3, q4⟩ => ?_
      obtain ⟨rfl, rfl⟩ := q4
      exact hn _ _ _ _ q1 (hG.keep q2) ((hE.keep q2).putE hd q3) q2
    | false =>
      simp only [hc, Bool.false_eq_true, if_false] at h
      obtain ⟨h1, rfl, rfl⟩ := h
      refine Oper.wp_of_goes (op_goes hR hG hE o hc hg h1) fun u w' I' μ' q1 q2 q3 => ?_
      exact hn _ _ _ _ q1 (hG.keep q2) ((hE.keep q2).putE hd q3) q2
  | some jb =>
    obtain ⟨j, b⟩ := jb
    rw [hgd] at hs
    obtain ⟨hqt, hsl, hg, rfl, h⟩ := hs
    have hw := wanted_slot hE (all := all) hgd hsl
    cases ht : slotTest (gSlot all env j) b with
    | false =>
      rw [hw, ht, if_neg (by simp)]
      rw [ht] at h
      have : ∃ x, v = .iff false x := by
        cases hc : isCall o.op with
        | true => simp only [hc, if_true] at h; obtain ⟨r0, h, _⟩ := h; exact ⟨r0, h⟩
        | false => simp only [hc, Bool.false_eq_true, if_false] at h; obtain ⟨r0, h, _⟩ := h; exact ⟨r0, h⟩
      obtain ⟨x, rfl⟩ := this
      exact hn _ _ _ _ hR hG (hE.putE hd (.iff false _ x (fun h => by cases h) (fun _ => rfl))) (Keep.refl _ _ _ _ (Nat.le_refl _))
    | true =>
      rw [hw, ht, if_pos rfl]
      left
      rw [ht] at h hg
      cases hc : isCall o.op with
      | true =>
        simp only [hc, if_true] at h
        obtain ⟨r0, rfl, h2⟩ := h
        refine Oper.wp_of_call (call_goes hR hG hE hg (h2 trivial _ (Ext.refl _))) fun u w' ⟨r, s', I', μ', q1, q2, q3, q4⟩ => ?_
        obtain ⟨rfl, rfl⟩ := q4
        exact hn _ _ _ _ q1 (hG.keep q2) ((hE.keep q2).putE hd (.iff true _ _ (fun _ => q3) (fun h => by cases h))) q2
      | false =>
        simp only [hc, Bool.false_eq_true, if_false] at h
        obtain ⟨r0, rfl, h2⟩ := h
        obtain ⟨h3, rfl⟩ := h2 trivial
        have hgo := op_goes hR hG hE o hc hg h3
        rw [opS_quiet hqt] at hgo
        refine Oper.wp_of_goes hgo fun u w' I' μ' q1 q2 q3 => ?_
        exact hn _ _ _ _ q1 (hG.keep q2) ((hE.keep q2).putE hd (.iff true _ _ (fun _ => q3) (fun h => by cases h))) q2

/-! ### who stands ahead of whom -/
def befMask (acc : List Nat) (l : List Edge) (s : Nat) : Nat := l.foldl (fun s e => if Region.binds .any e = true then s ||| 2 ^ e.on ||| acc.getD e.on 0 else s) s
def befs : List Oper → List Nat → List Nat
  | [], acc => acc
  | o :: r, acc => befs r (acc ++ [befMask acc o.after.toList 0])

theorem befMask_spec {acc : List Nat} {j : Nat} : ∀ (l : List Edge) (s : Nat), (befMask acc l s).testBit j = true → s.testBit j = true ∨ ∃ e ∈ l, Region.binds .any e = true ∧ (e.on = j ∨ (acc.getD e.on 0).testBit j = true)
  | [], s, h => .inl h
  | e :: l, s, h => by
    rcases befMask_spec l _ h with h1 | ⟨e', h1, h2⟩
    · simp only at h1
      by_cases hb : Region.binds .any e = true
      · rw [if_pos hb] at h1
        simp only [Nat.testBit_or, Bool.or_eq_true, Nat.testBit_two_pow, decide_eq_true_eq] at h1
        rcases h1 with (h1 | h1) | h1
        · exact .inl h1
        · exact .inr ⟨e, by simp, hb, .inl h1⟩
        · exact .inr ⟨e, by simp, hb, .inr h1⟩
      · rw [if_neg hb] at h1; exact .inl h1
    · exact .inr ⟨e', by simp [h1], h2⟩

def Preds (all : Array Oper) (D : Nat → Prop) (i : Nat) : Prop := ∀ o, all[i]? = some o → ∀ e ∈ o.after.toList, Region.binds .any e = true → D e.on

theorem befs_spec {D : Nat → Prop} (hD : ∀ i, D i → Preds all D i) : ∀ (rest : List Oper) (acc : List Nat), (∀ k, rest[k]? = all[acc.length + k]?) →
    (∀ i < acc.length, ∀ j, (acc.getD i 0).testBit j = true → Preds all D i → D j) →
    ∀ i < (befs rest acc).length, ∀ j, ((befs rest acc).getD i 0).testBit j = true → Preds all D i → D j
  | [], acc, _, h => h
  | o :: r, acc, hk, h => by
    have h0 : all[acc.length]? = some o := by have := hk 0; simpa using this.symm
    refine befs_spec hD r _ (fun k => ?_) (fun i hi j hj hp => ?_)
    · have := hk (k + 1)
      simp only [List.getElem?_cons_succ] at this
      rw [this, List.length_append, List.length_singleton]
      congr 1; omega
    · rcases Nat.lt_or_ge i acc.length with hlt | hge
      · have e : (acc ++ [befMask acc o.after.toList 0]).getD i 0 = acc.getD i 0 := by
          simp [List.getD_eq_getElem?_getD, List.getElem?_append_left hlt]
        rw [e] at hj
        exact h i hlt j hj hp
      · have hi' : i = acc.length := by simp only [List.length_append, List.length_singleton] at hi; omega
        subst hi'
        have e : (acc ++ [befMask acc o.after.toList 0]).getD acc.length 0 = befMask acc o.after.toList 0 := by
          simp [List.getD_eq_getElem?_getD]
        rw [e] at hj
        rcases befMask_spec _ _ hj with h1 | ⟨e', h1, h2, h3⟩
        · simp at h1
        · have hde := hp o h0 e' h1 h2
          rcases h3 with rfl | h3
          · exact hde
          · have hlt : e'.on < acc.length := by
              rcases Nat.lt_or_ge e'.on acc.length with h' | h'
              · exact h'
              · rw [List.getD_eq_getElem?_getD, List.getElem?_eq_none h'] at h3; simp at h3
            exact h _ hlt j h3 (hD _ hde)

theorem befs_length : ∀ (rest : List Oper) (acc : List Nat), (befs rest acc).length = acc.length + rest.length
  | [], acc => rfl
  | o :: r, acc => by rw [befs, befs_length r]; simp; omega

def drawChk (ops : Array Oper) : Bool :=
  ((List.range ops.size).all fun i => (List.range i).all fun j => ((befs ops.toList []).getD i 0).testBit j || (match ops[j]?, ops[i]? with | some x, some y => indep ops x y | _, _ => true)) &&
  ((List.range ops.size).all fun i => match ops[i]? with | some o => o.after.toList.all fun e => !Region.binds .any e || decide (e.on < i) | none => true)

theorem drawChk_pair (h : drawChk all = true) {i j : Nat} (hij : j < i) {x y : Oper} (hx : all[j]? = some x) (hy : all[i]? = some y) {D : Nat → Prop} (hD : ∀ i, D i → Preds all D i) (hp : Preds all D i) (hj : ¬ D j) : indep all x y = true := by
  simp only [drawChk, Bool.and_eq_true, List.all_eq_true, List.mem_range] at h
  have hi : i < all.size := by
    rcases Nat.lt_or_ge i all.size with h' | h'
    · exact h'
    · rw [Array.getElem?_eq_none h'] at hy; cases hy
  have := h.1 i hi j hij
  rw [hx, hy] at this
  rcases Bool.or_eq_true _ _ ▸ this with h1 | h1
  · refine absurd (befs_spec hD all.toList [] (fun k => by simp) (fun i hi => absurd hi (Nat.not_lt_zero _)) i ?_ j h1 hp) hj
    rw [befs_length]; simpa using hi
  · exact h1
theorem drawChk_text (h : drawChk all = true) {i : Nat} {o : Oper} (ho : all[i]? = some o) : ∀ e ∈ o.after.toList, Region.binds .any e = true → e.on < i := by
  simp only [drawChk, Bool.and_eq_true, List.all_eq_true, List.mem_range] at h
  have hi : i < all.size := by
    rcases Nat.lt_or_ge i all.size with h' | h'
    · exact h'
    · rw [Array.getElem?_eq_none h'] at ho; cases ho
  intro e he hb
  have := h.2 i hi
  rw [ho] at this
  simp only [List.all_eq_true] at this
  have := this e he
  simpa [hb] using this

/-! ### the runs -/
def remL (all : Array Oper) (listed : Array Bool) : List Nat := (List.range all.size).filter fun i => !listed.getD i true
def opsAt (all : Array Oper) (l : List Nat) : List Oper := l.filterMap (all[·]?)

theorem range_split {N i : Nat} (h : i < N) : List.range N = List.range i ++ i :: (List.range (N - i - 1)).map (i + 1 + ·) := by
  have e : N = i + (1 + (N - i - 1)) := by omega
  conv => lhs; rw [e, List.range_add]
  congr 1
  rw [Nat.add_comm 1, List.range_succ_eq_map]
  simp [Function.comp_def, Nat.add_comm, Nat.add_left_comm]

theorem remL_split {listed : Array Bool} (hs : listed.size = all.size) {i : Nat} (hi : i < all.size) (hl : listed.getD i true = false) :
    ∃ pre post, remL all listed = pre ++ i :: post ∧ remL all (listed.setIfInBounds i true) = pre ++ post ∧ ∀ j ∈ pre, j < i ∧ listed.getD j true = false := by
  have hne : ∀ j, j ≠ i → (listed.setIfInBounds i true).getD j true = listed.getD j true := fun j hj => by
    rw [Array.getD_eq_getD_getElem?, Array.getD_eq_getD_getElem?, Array.getElem?_setIfInBounds_ne (fun e => hj e.symm)]
  have heq : (listed.setIfInBounds i true).getD i true = true := by
    rw [Array.getD_eq_getD_getElem?, Array.getElem?_setIfInBounds_self_of_lt (by omega)]; rfl
  refine ⟨(List.range i).filter fun j => !listed.getD j true, ((List.range (all.size - i - 1)).map (i + 1 + ·)).filter fun j => !listed.getD j true, ?_, ?_, ?_⟩
  · unfold remL
    rw [range_split hi, List.filter_append, List.filter_cons, if_pos (by rw [hl]; rfl)]
  · unfold remL
    rw [range_split hi, List.filter_append, List.filter_cons, if_neg (by rw [heq]; simp)]
    congr 1
    · exact List.filter_congr fun j hj => by rw [hne j (by have := List.mem_range.1 hj; omega)]
    · exact List.filter_congr fun j hj => by
        obtain ⟨k, _, rfl⟩ := List.mem_map.1 hj
        rw [hne _ (by omega)]
  · intro j hj
    have := List.mem_filter.1 hj
    exact ⟨List.mem_range.1 this.1, by simpa using this.2⟩

theorem mem_ready {listed : Array Bool} {i : Nat} : i ∈ Region.ready .any all listed ↔ i < all.size ∧ listed.getD i true = false ∧ ∃ o, all[i]? = some o ∧ ∀ e ∈ o.after.toList, Region.binds .any e = true → listed.getD e.on false = true := by
  unfold Region.ready
  rw [List.mem_filter, List.mem_range]
  constructor
  · rintro ⟨h1, h2⟩
    simp only [Bool.and_eq_true, Bool.not_eq_true'] at h2
    refine ⟨h1, h2.1, ?_⟩
    have h3 := h2.2
    rw [Array.getElem?_eq_getElem h1] at h3 ⊢
    refine ⟨_, rfl, fun e he hb => ?_⟩
    simp only [Option.map_some, Option.getD_some, Array.all_eq_true'] at h3
    have := h3 e (by simpa using he)
    simpa [hb] using this
  · rintro ⟨h1, h2, o, h3, h4⟩
    refine ⟨h1, ?_⟩
    simp only [Bool.and_eq_true, Bool.not_eq_true']
    refine ⟨h2, ?_⟩
    rw [h3]
    simp only [Option.map_some, Option.getD_some, Array.all_eq_true']
    intro e he
    cases hb : Region.binds .any e with
    | false => rfl
    | true => simp [h4 e (by simpa using he) hb]

theorem getD_tf {listed : Array Bool} {i : Nat} (h : i < listed.size) : listed.getD i false = listed.getD i true := by
  simp [h]

theorem any_sound (hck : drawChk all = true) {m : Nat} {K : Env → Sto → Prop} : ∀ (fuel : Nat) (listed : Array Bool) (env : Env) (σ : Sto) (w : World) (I : Im) (μ : Pos) (a : Act),
    listed.size = all.size → (∀ i, listed.getD i false = true → Preds all (fun j => listed.getD j false = true) i) → (remL all listed).length ≤ fuel →
    Steps P Gl n all (opsAt all (remL all listed)) env σ (KX K) → Rel w I μ σ → GlOk Gl w I → RelEnv n w I μ σ env a → m ≤ σ.length →
    (∀ env' σ' w' I' μ' a', K env' σ' → Rel w' I' μ' σ' → GlOk Gl w' I' → RelEnv n w' I' μ' σ' env' a' → Keep m w I μ σ w' I' μ' σ' → Q .normal a' w') → wpAny P .any all Q fuel listed a w := by
  intro fuel
  induction fuel with
  | zero =>
    intro listed env σ w I μ a hsz hD hlen hst hR hG hE hm hq
    have hnil : remL all listed = [] := List.eq_nil_of_length_eq_zero (by omega)
    refine ⟨?_, ?_⟩
    · rw [List.eq_nil_iff_forall_not_mem]
      intro i hi
      obtain ⟨h1, h2, _⟩ := mem_ready.1 hi
      have : i ∈ remL all listed := List.mem_filter.2 ⟨List.mem_range.2 h1, by rw [h2]; rfl⟩
      rw [hnil] at this; cases this
    · rw [hnil] at hst
      obtain ⟨e0, h0, hk⟩ := hst
      exact hq e0 σ w I μ a hk hR hG ⟨hE.defers, hE.size, fun t => by rw [h0 t]; exact hE.slot t⟩ (Keep.refl _ _ _ _ hm)
  | succ fuel ih =>
    intro listed env σ w I μ a hsz hD hlen hst hR hG hE hm hq
    refine ⟨fun hrd => ?_, fun i hi => ?_⟩
    · have hall : ∀ i, i < all.size → listed.getD i true = true := by
        intro i
        induction i using Nat.strongRecOn with
        | _ i ihi =>
          intro hi
          cases hl : listed.getD i true with
          | true => rfl
          | false =>
            exfalso
            have : i ∈ Region.ready .any all listed := mem_ready.2 ⟨hi, hl, all[i], Array.getElem?_eq_getElem hi, fun e he hb => by
              have hlt := drawChk_text hck (Array.getElem?_eq_getElem hi) e he hb
              rw [getD_tf (by omega)]
              exact ihi _ hlt (by omega)⟩
            rw [hrd] at this; cases this
      have hnil : remL all listed = [] := by
        rw [List.eq_nil_iff_forall_not_mem]
        intro i hi
        have := List.mem_filter.1 hi
        have h2 := hall i (List.mem_range.1 this.1)
        rw [h2] at this
        simp at this
      rw [hnil] at hst
      obtain ⟨e0, h0, hk⟩ := hst
      exact hq e0 σ w I μ a hk hR hG ⟨hE.defers, hE.size, fun t => by rw [h0 t]; exact hE.slot t⟩ (Keep.refl _ _ _ _ hm)
    · obtain ⟨h1, h2, o, h3, h4⟩ := mem_ready.1 hi
      obtain ⟨pre, post, e1, e2, e3⟩ := remL_split hsz h1 h2
      have hpre : ∀ x ∈ opsAt all pre, indep all x o = true := fun x hx => by
        obtain ⟨j, hj, hjx⟩ := List.mem_filterMap.1 hx
        obtain ⟨hlt, hnl⟩ := e3 j hj
        refine drawChk_pair hck hlt hjx h3 (D := fun j => listed.getD j false = true) hD (fun o' ho' => by rw [h3] at ho'; cases ho'; exact h4) ?_
        intro hd
        have hd : listed.getD j false = true := hd
        rw [getD_tf (by omega), hnl] at hd
        cases hd
      rw [e1] at hst
      have e4 : opsAt all (pre ++ i :: post) = opsAt all pre ++ o :: opsAt all post := by
        simp [opsAt, h3]
      rw [e4] at hst
      obtain ⟨v, σ', s1, s2⟩ := steps_front _ hpre hst
      have hset : ∀ j, (listed.setIfInBounds i true).getD j false = true ↔ (listed.getD j false = true ∨ j = i) := fun j => by
        by_cases e : j = i
        · subst e
          rw [Array.getD_eq_getD_getElem?, Array.getElem?_setIfInBounds_self_of_lt (by omega)]; simp
        · rw [Array.getD_eq_getD_getElem?, Array.getElem?_setIfInBounds_ne (fun h => e h.symm), ← Array.getD_eq_getD_getElem?]
          simp [e]
      refine step_sound hR hG hE h3 s1 fun a' w' I' μ' q1 q2 q3 q4 => ?_
      refine ih (listed.setIfInBounds i true) _ σ' w' I' μ' a' (by simpa using hsz) (fun j hj o' ho' e he hb => ?_) ?_ ?_ q1 q2 q3 (Nat.le_trans hm q4.len) fun env' σ2 w2 I2 μ2 a2 k1 k2 k3 k4 k5 => hq env' σ2 w2 I2 μ2 a2 k1 k2 k3 k4 ((q4.mono hm).trans k5)
      · refine (hset e.on).2 ?_
        rcases (hset j).1 hj with hj | rfl
        · exact .inl (hD j hj o' ho' e he hb)
        · rw [h3] at ho'; cases ho'; exact .inl (h4 e he hb)
      · rw [e1] at hlen; rw [e2]; simp at hlen ⊢; omega
      · rw [e2]
        have e5 : opsAt all (pre ++ post) = opsAt all pre ++ opsAt all post := by simp [opsAt]
        rw [e5]; exact s2

theorem draw_sound (hP : P.follows .mixedOrders = true) (hck : drawChk all = true) {m id : Nat} {K : Env → Sto → Prop} (h : evOps P Gl n all true all.toList env σ K) (hR : Rel w I μ σ) (hG : GlOk Gl w I) (hE : RelEnv n w I μ σ env a) (hm : m ≤ σ.length)
    (hq : ∀ env' σ' w' I' μ' a', K env' σ' → Rel w' I' μ' σ' → GlOk Gl w' I' → RelEnv n w' I' μ' σ' env' a' → Keep m w I μ σ w' I' μ' σ' → Q .normal a' w') : (Code.region id all true).wp P Q a w := by
  refine wp_region_any hP ?_
  have hs := SameMem.drew w
  have hk := hs.keep (I := I) (μ := μ) (σ := σ)
  have hfalse : ∀ (i : Nat) (b : Bool), i < all.size → (Array.replicate all.size false).getD i b = false := fun i b hi => by simp [hi]
  have hrem : remL all (Array.replicate all.size false) = List.range all.size := by
    unfold remL
    rw [List.filter_eq_self]
    intro i hi
    rw [hfalse i _ (List.mem_range.1 hi)]; rfl
  have hops : opsAt all (List.range all.size) = all.toList := by
    apply List.ext_getElem?
    intro k
    have hall : ∀ N, N ≤ all.size → ∀ k, (opsAt all (List.range N))[k]? = if k < N then all[k]? else none := by
      intro N
      induction N with
      | zero => intro _ k; simp [opsAt]
      | succ N ih =>
        intro hN k
        have hlen : (opsAt all (List.range N)).length = N := by
          have h1 := ih (by omega)
          rcases Nat.lt_trichotomy (opsAt all (List.range N)).length N with hlt | he | hgt
          · have := h1 (opsAt all (List.range N)).length
            rw [if_pos hlt, List.getElem?_eq_none (Nat.le_refl _), Array.getElem?_eq_getElem (by omega)] at this
            cases this
          · exact he
          · have := h1 N
            rw [if_neg (Nat.lt_irrefl _), List.getElem?_eq_getElem hgt] at this
            cases this
        have e : opsAt all (List.range (N + 1)) = opsAt all (List.range N) ++ [all[N]] := by
          rw [List.range_succ]
          simp [opsAt, Array.getElem?_eq_getElem (show N < all.size by omega)]
        rw [e]
        rcases Nat.lt_trichotomy k N with hlt | he | hgt
        · rw [List.getElem?_append_left (by omega), ih (by omega), if_pos hlt, if_pos (by omega)]
        · subst he
          rw [List.getElem?_append_right (by omega), hlen, if_pos (by omega)]
          simp [Array.getElem?_eq_getElem (show k < all.size by omega)]
        · rw [List.getElem?_eq_none (by simp [hlen]; omega), if_neg (by omega)]
    rw [hall _ (Nat.le_refl _)]
    rcases Nat.lt_or_ge k all.size with h1 | h1
    · rw [if_pos h1]; simp
    · rw [if_neg (by omega)]; simp; omega
  have hmono : ∀ (l : List Oper) (env : Env) (σ : Sto), Steps P Gl n all l env σ K → Steps P Gl n all l env σ (KX K) := by
    intro l
    induction l with
    | nil => intro env σ h; exact ⟨env, fun _ => rfl, h⟩
    | cons o l ih => intro env σ h; obtain ⟨v, σ', h1, h2⟩ := h; exact ⟨v, σ', h1, ih _ _ h2⟩
  refine any_sound (P := P) (Gl := Gl) (n := n) hck all.size _ env σ _ I μ a (by simp) (fun i hi => ?_) (by rw [hrem]; simp) ?_ (hs.rel hR) (hG.keep hk) (hE.keep hk) hm fun env' σ' w' I' μ' a' k1 k2 k3 k4 k5 => hq env' σ' w' I' μ' a' k1 k2 k3 k4 ((hk.mono hm).trans k5)
  · exfalso
    rcases Nat.lt_or_ge i all.size with h1 | h1
    · rw [hfalse i _ h1] at hi; cases hi
    · simp [Nat.not_lt.2 h1] at hi
  · rw [hrem, hops]
    exact hmono _ _ _ (steps_of _ _ _ h)

/-! ### regions whose orders are gone through one by one -/
def evAny (P : Program) (Gl : Globs) (n : Nat) (all : Array Oper) (K : Env → Sto → Prop) : Nat → Array Bool → Env → Sto → Prop
  | 0, listed, env, σ => Region.ready .any all listed = [] ∧ K env σ
  | f + 1, listed, env, σ => (Region.ready .any all listed = [] → K env σ) ∧ ∀ i ∈ Region.ready .any all listed, ∃ o, all[i]? = some o ∧ evOps P Gl n all true [o] env σ (evAny P Gl n all K f (listed.setIfInBounds i true))
theorem evAny_node {K : Env → Sto → Prop} {f : Nat} {listed : Array Bool} (l : List Nat) (hr : Region.ready .any all listed = l) (h0 : l ≠ []) (h : ∀ i ∈ l, ∃ o, all[i]? = some o ∧ evOps P Gl n all true [o] env σ (evAny P Gl n all K f (listed.setIfInBounds i true))) :
    evAny P Gl n all K (f + 1) listed env σ := by
  refine ⟨fun h1 => absurd (hr.symm.trans h1) h0, ?_⟩
  rw [hr]; exact h
theorem evAny_leaf {K : Env → Sto → Prop} {listed : Array Bool} (hr : Region.ready .any all listed = []) (h : K env σ) : evAny P Gl n all K 0 listed env σ := ⟨hr, h⟩

theorem evAny_sound {m : Nat} {K : Env → Sto → Prop} : ∀ (fuel : Nat) (listed : Array Bool) (env : Env) (σ : Sto) (w : World) (I : Im) (μ : Pos) (a : Act),
    evAny P Gl n all (KX K) fuel listed env σ → Rel w I μ σ → GlOk Gl w I → RelEnv n w I μ σ env a → m ≤ σ.length →
    (∀ env' σ' w' I' μ' a', K env' σ' → Rel w' I' μ' σ' → GlOk Gl w' I' → RelEnv n w' I' μ' σ' env' a' → Keep m w I μ σ w' I' μ' σ' → Q .normal a' w') → wpAny P .any all Q fuel listed a w := by
  intro fuel
  induction fuel with
  | zero =>
    intro listed env σ w I μ a h hR hG hE hm hq
    obtain ⟨h1, e0, h0, hk⟩ := h
    exact ⟨h1, hq e0 σ w I μ a hk hR hG ⟨hE.defers, hE.size, fun t => by rw [h0 t]; exact hE.slot t⟩ (Keep.refl _ _ _ _ hm)⟩
  | succ fuel ih =>
    intro listed env σ w I μ a h hR hG hE hm hq
    obtain ⟨h1, h2⟩ := h
    refine ⟨fun hrd => ?_, fun i hi => ?_⟩
    · obtain ⟨e0, h0, hk⟩ := h1 hrd
      exact hq e0 σ w I μ a hk hR hG ⟨hE.defers, hE.size, fun t => by rw [h0 t]; exact hE.slot t⟩ (Keep.refl _ _ _ _ hm)
    · obtain ⟨o, h3, h4⟩ := h2 i hi
      obtain ⟨v, σ', s1, s2⟩ := steps_of _ _ _ h4
      refine step_sound hR hG hE h3 s1 fun a' w' I' μ' q1 q2 q3 q4 => ?_
      exact ih _ _ σ' w' I' μ' a' s2 q1 q2 q3 (Nat.le_trans hm q4.len) fun env' σ2 w2 I2 μ2 a2 k1 k2 k3 k4 k5 => hq env' σ2 w2 I2 μ2 a2 k1 k2 k3 k4 ((q4.mono hm).trans k5)

end Go.AM

/-
  Regions whose first operations commute with all, and whose last ones are gone through order by order.
-/
set_option linter.unusedVariables false
namespace Go.AM
variable {P : Program} {Gl : Globs} {env : Env} {σ σ' : Sto} {n : Nat} {all : Array Oper} {w : World} {I : Im} {μ : Pos} {a : Act} {Q : Exit → Act → World → Prop}

def drawChkK (k : Nat) (ops : Array Oper) : Bool :=
  ((List.range ops.size).all fun i => (List.range i).all fun j => decide (k ≤ j) || ((befs ops.toList []).getD i 0).testBit j || (match ops[j]?, ops[i]? with | some x, some y => indep ops x y | _, _ => true)) &&
  ((List.range ops.size).all fun i => match ops[i]? with | some o => o.after.toList.all fun e => !Region.binds .any e || decide (e.on < i) | none => true)
theorem drawChkK_pair {k : Nat} (h : drawChkK k all = true) {i j : Nat} (hij : j < i) (hk : j < k) {x y : Oper} (hx : all[j]? = some x) (hy : all[i]? = some y) {D : Nat → Prop} (hD : ∀ i, D i → Preds all D i) (hp : Preds all D i) (hj : ¬ D j) : indep all x y = true := by
  simp only [drawChkK, Bool.and_eq_true, List.all_eq_true, List.mem_range] at h
  have hi : i < all.size := by
    rcases Nat.lt_or_ge i all.size with h' | h'
    · exact h'
    · rw [Array.getElem?_eq_none h'] at hy; cases hy
  have := h.1 i hi j hij
  rw [hx, hy] at this
  rcases Bool.or_eq_true _ _ ▸ this with h1 | h1
  · rcases Bool.or_eq_true _ _ ▸ h1 with h2 | h2
    · have := of_decide_eq_true h2
      omega
    · refine absurd (befs_spec hD all.toList [] (fun k => by simp) (fun i hi => absurd hi (Nat.not_lt_zero _)) i ?_ j h2 hp) hj
      rw [befs_length]; simpa using hi
  · exact h1
theorem drawChkK_text {k : Nat} (h : drawChkK k all = true) {i : Nat} {o : Oper} (ho : all[i]? = some o) : ∀ e ∈ o.after.toList, Region.binds .any e = true → e.on < i := by
  simp only [drawChkK, Bool.and_eq_true, List.all_eq_true, List.mem_range] at h
  have hi : i < all.size := by
    rcases Nat.lt_or_ge i all.size with h' | h'
    · exact h'
    · rw [Array.getElem?_eq_none h'] at ho; cases ho
  intro e he hb
  have := h.2 i hi
  rw [ho] at this
  simp only [List.all_eq_true] at this
  have := this e he
  simpa [hb] using this

def remA (k : Nat) (listed : Array Bool) : List Nat := (List.range k).filter fun i => !listed.getD i true
def markA (k : Nat) (listed : Array Bool) : Array Bool := Array.ofFn (n := listed.size) fun i => decide (i.val < k) || listed.getD i.val true
theorem markA_size {k : Nat} {listed : Array Bool} : (markA k listed).size = listed.size := by simp [markA]
theorem markA_get {k i : Nat} {listed : Array Bool} {b : Bool} (h : i < listed.size) : (markA k listed).getD i b = (decide (i < k) || listed.getD i true) := by
  simp [markA, h]
theorem bitD_set {listed : Array Bool} {i j : Nat} {b : Bool} (h : i < listed.size) : (listed.setIfInBounds i true).getD j b = if j = i then true else listed.getD j b := by
  by_cases e : j = i
  · subst e
    rw [if_pos rfl, Array.getD_eq_getD_getElem?, Array.getElem?_setIfInBounds_self_of_lt h]; rfl
  · rw [if_neg e, Array.getD_eq_getD_getElem?, Array.getElem?_setIfInBounds_ne (fun h => e h.symm), ← Array.getD_eq_getD_getElem?]
theorem arr_ext {a b : Array Bool} (hs : a.size = b.size) (h : ∀ i, i < a.size → a.getD i true = b.getD i true) : a = b := by
  apply Array.ext hs
  intro i h1 h2
  have := h i h1
  simpa [h1, h2] using this
theorem markA_set_lo {k i : Nat} {listed : Array Bool} (hi : i < k) (hs : i < listed.size) : markA k (listed.setIfInBounds i true) = markA k listed := by
  refine arr_ext (by simp [markA_size]) fun j hj => ?_
  have hj' : j < listed.size := by simpa [markA_size] using hj
  rw [markA_get (by simpa using hj'), markA_get hj', bitD_set hs]
  by_cases e : j = i
  · subst e; simp [hi]
  · rw [if_neg e]
theorem markA_set_hi {k i : Nat} {listed : Array Bool} (hs : i < listed.size) : markA k (listed.setIfInBounds i true) = (markA k listed).setIfInBounds i true := by
  refine arr_ext (by simp [markA_size]) fun j hj => ?_
  have hj' : j < listed.size := by simpa [markA_size] using hj
  rw [markA_get (by simpa using hj'), bitD_set hs, bitD_set (by simpa [markA_size] using hs), markA_get hj']
  by_cases e : j = i
  · rw [if_pos e, if_pos e]; simp
  · rw [if_neg e, if_neg e]
theorem remA_split {k i : Nat} {listed : Array Bool} (hs : k ≤ listed.size) (hi : i < k) (hl : listed.getD i true = false) :
    ∃ pre post, remA k listed = pre ++ i :: post ∧ remA k (listed.setIfInBounds i true) = pre ++ post ∧ ∀ j ∈ pre, j < i ∧ listed.getD j true = false := by
  refine ⟨(List.range i).filter fun j => !listed.getD j true, ((List.range (k - i - 1)).map (i + 1 + ·)).filter fun j => !listed.getD j true, ?_, ?_, ?_⟩
  · unfold remA
    rw [range_split hi, List.filter_append, List.filter_cons, if_pos (by rw [hl]; rfl)]
  · unfold remA
    rw [range_split hi, List.filter_append, List.filter_cons, if_neg (by rw [bitD_set (by omega), if_pos rfl]; simp)]
    congr 1
    · exact List.filter_congr fun j hj => by rw [bitD_set (by omega), if_neg (by have := List.mem_range.1 hj; omega)]
    · exact List.filter_congr fun j hj => by
        obtain ⟨k, _, rfl⟩ := List.mem_map.1 hj
        rw [bitD_set (by omega), if_neg (by omega)]
  · intro j hj
    have := List.mem_filter.1 hj
    exact ⟨List.mem_range.1 this.1, by simpa using this.2⟩
theorem remA_hi {k i : Nat} {listed : Array Bool} (hs : i < listed.size) (hi : k ≤ i) : remA k (listed.setIfInBounds i true) = remA k listed := by
  unfold remA
  exact List.filter_congr fun j hj => by rw [bitD_set hs, if_neg (by have := List.mem_range.1 hj; omega)]
theorem steps_mono {K K' : Env → Sto → Prop} : ∀ {l : List Oper} {env : Env} {σ : Sto}, Steps P Gl n all l env σ K → (∀ e s, K e s → K' e s) → Steps P Gl n all l env σ K'
  | [], _, _, h, hk => hk _ _ h
  | o :: r, _, _, h, hk => by
    obtain ⟨v, σ', h1, h2⟩ := h
    exact ⟨v, σ', h1, steps_mono h2 hk⟩
theorem steps_app {K : Env → Sto → Prop} : ∀ {l l' : List Oper} {env : Env} {σ : Sto}, Steps P Gl n all l env σ (fun e s => Steps P Gl n all l' e s K) → Steps P Gl n all (l ++ l') env σ K
  | [], _, _, _, h => h
  | o :: r, _, _, _, h => by
    obtain ⟨v, σ', h1, h2⟩ := h
    exact ⟨v, σ', h1, steps_app h2⟩

theorem any_mix {k : Nat} (hck : drawChkK k all = true) (hk : k ≤ all.size) {m : Nat} {K : Env → Sto → Prop} : ∀ (fuel : Nat) (listed : Array Bool) (f : Nat) (env : Env) (σ : Sto) (w : World) (I : Im) (μ : Pos) (a : Act),
    listed.size = all.size → (∀ i, listed.getD i false = true → Preds all (fun j => listed.getD j false = true) i) → (remL all listed).length ≤ fuel →
    Steps P Gl n all (opsAt all (remA k listed)) env σ (KX (evAny P Gl n all (KX K) f (markA k listed))) → Rel w I μ σ → GlOk Gl w I → RelEnv n w I μ σ env a → m ≤ σ.length →
    (∀ env' σ' w' I' μ' a', K env' σ' → Rel w' I' μ' σ' → GlOk Gl w' I' → RelEnv n w' I' μ' σ' env' a' → Keep m w I μ σ w' I' μ' σ' → Q .normal a' w') → wpAny P .any all Q fuel listed a w := by
  intro fuel
  -- all are listed: the end
  have fin : ∀ (listed : Array Bool) (f : Nat) (env : Env) (σ : Sto) (w : World) (I : Im) (μ : Pos) (a : Act), listed.size = all.size → (∀ i, i < all.size → listed.getD i true = true) →
      Steps P Gl n all (opsAt all (remA k listed)) env σ (KX (evAny P Gl n all (KX K) f (markA k listed))) → Rel w I μ σ → GlOk Gl w I → RelEnv n w I μ σ env a → m ≤ σ.length →
      (∀ env' σ' w' I' μ' a', K env' σ' → Rel w' I' μ' σ' → GlOk Gl w' I' → RelEnv n w' I' μ' σ' env' a' → Keep m w I μ σ w' I' μ' σ' → Q .normal a' w') → Q .normal a w := by
    intro listed f env σ w I μ a hsz hall hst hR hG hE hm hq
    have hnil : remA k listed = [] := by
      rw [List.eq_nil_iff_forall_not_mem]
      intro i hi
      have := List.mem_filter.1 hi
      rw [hall i (by have := List.mem_range.1 this.1; omega)] at this
      simp at this
    rw [hnil] at hst
    obtain ⟨e0, h0, hst⟩ := hst
    have hrd : Region.ready .any all (markA k listed) = [] := by
      rw [List.eq_nil_iff_forall_not_mem]
      intro i hi
      obtain ⟨h1, h2, _⟩ := mem_ready.1 hi
      rw [markA_get (by omega), hall i h1] at h2
      simp at h2
    have : KX K e0 σ := by
      cases f with
      | zero => exact hst.2
      | succ f => exact hst.1 hrd
    obtain ⟨e1, h1, hkk⟩ := this
    exact hq e1 σ w I μ a hkk hR hG ⟨hE.defers, hE.size, fun t => by rw [h1 t, h0 t]; exact hE.slot t⟩ (Keep.refl _ _ _ _ hm)
  induction fuel with
  | zero =>
    intro listed f env σ w I μ a hsz hD hlen hst hR hG hE hm hq
    have hnil : remL all listed = [] := List.eq_nil_of_length_eq_zero (by omega)
    have hall : ∀ i, i < all.size → listed.getD i true = true := fun i hi => by
      cases hl : listed.getD i true with
      | true => rfl
      | false =>
        have : i ∈ remL all listed := List.mem_filter.2 ⟨List.mem_range.2 hi, by rw [hl]; rfl⟩
        rw [hnil] at this; cases this
    refine ⟨?_, fin listed f env σ w I μ a hsz hall hst hR hG hE hm hq⟩
    rw [List.eq_nil_iff_forall_not_mem]
    intro i hi
    obtain ⟨h1, h2, _⟩ := mem_ready.1 hi
    rw [hall i h1] at h2; cases h2
  | succ fuel ih =>
    intro listed f env σ w I μ a hsz hD hlen hst hR hG hE hm hq
    refine ⟨fun hrd => ?_, fun i hi => ?_⟩
    · refine fin listed f env σ w I μ a hsz (fun i => ?_) hst hR hG hE hm hq
      induction i using Nat.strongRecOn with
      | _ i ihi =>
        intro hi
        cases hl : listed.getD i true with
        | true => rfl
        | false =>
          exfalso
          have : i ∈ Region.ready .any all listed := mem_ready.2 ⟨hi, hl, all[i], Array.getElem?_eq_getElem hi, fun e he hb => by
            have hlt := drawChkK_text hck (Array.getElem?_eq_getElem hi) e he hb
            rw [getD_tf (by omega)]
            exact ihi _ hlt (by omega)⟩
          rw [hrd] at this; cases this
    · obtain ⟨h1, h2, o, h3, h4⟩ := mem_ready.1 hi
      have hset : ∀ j, (listed.setIfInBounds i true).getD j false = true ↔ (listed.getD j false = true ∨ j = i) := fun j => by
        rw [bitD_set (by omega)]
        by_cases e : j = i
        · simp [e]
        · simp [e]
      have hclos : ∀ j, (listed.setIfInBounds i true).getD j false = true → Preds all (fun j => (listed.setIfInBounds i true).getD j false = true) j := fun j hj o' ho' e he hb => by
        refine (hset e.on).2 ?_
        rcases (hset j).1 hj with hj | rfl
        · exact .inl (hD j hj o' ho' e he hb)
        · rw [h3] at ho'; cases ho'; exact .inl (h4 e he hb)
      have hfuel : (remL all (listed.setIfInBounds i true)).length ≤ fuel := by
        obtain ⟨pre, post, e1, e2, _⟩ := remL_split hsz h1 h2
        rw [e1] at hlen; rw [e2]; simp at hlen ⊢; omega
      have hind : ∀ j, j < k → j < i → listed.getD j true = false → ∀ x, all[j]? = some x → indep all x o = true := fun j hjk hji hnl x hx => by
        refine drawChkK_pair hck hji hjk hx h3 (D := fun j => listed.getD j false = true) hD (fun o' ho' => by rw [h3] at ho'; cases ho'; exact h4) ?_
        intro hd
        have hd : listed.getD j false = true := hd
        rw [getD_tf (by omega), hnl] at hd
        cases hd
      rcases Nat.lt_or_ge i k with hik | hik
      · obtain ⟨pre, post, e1, e2, e3⟩ := remA_split (by omega) hik h2
        have hpre : ∀ x ∈ opsAt all pre, indep all x o = true := fun x hx => by
          obtain ⟨j, hj, hjx⟩ := List.mem_filterMap.1 hx
          obtain ⟨hlt, hnl⟩ := e3 j hj
          exact hind j (by omega) hlt hnl x hjx
        rw [e1] at hst
        have e4 : opsAt all (pre ++ i :: post) = opsAt all pre ++ o :: opsAt all post := by simp [opsAt, h3]
        rw [e4] at hst
        obtain ⟨v, σ', s1, s2⟩ := steps_front _ hpre hst
        refine step_sound hR hG hE h3 s1 fun a' w' I' μ' q1 q2 q3 q4 => ?_
        refine ih (listed.setIfInBounds i true) f _ σ' w' I' μ' a' (by simpa using hsz) hclos hfuel ?_ q1 q2 q3 (Nat.le_trans hm q4.len) fun env' σ2 w2 I2 μ2 a2 k1 k2 k3 k4 k5 => hq env' σ2 w2 I2 μ2 a2 k1 k2 k3 k4 ((q4.mono hm).trans k5)
        rw [e2, markA_set_lo hik (by omega)]
        have e5 : opsAt all (pre ++ post) = opsAt all pre ++ opsAt all post := by simp [opsAt]
        rw [e5]; exact s2
      · have hmk : i ∈ Region.ready .any all (markA k listed) := mem_ready.2 ⟨h1, by rw [markA_get (by omega), h2]; simp; omega, o, h3, fun e he hb => by
          have := h4 e he hb
          have hlt := drawChkK_text hck h3 e he hb
          rw [markA_get (by omega)]
          rw [getD_tf (by omega)] at this
          rw [this]; simp⟩
        have hst2 : Steps P Gl n all (opsAt all (remA k listed) ++ [o]) env σ (KX (evAny P Gl n all (KX K) (f - 1) ((markA k listed).setIfInBounds i true))) := by
          refine steps_app (steps_mono hst fun e s ⟨e0, g0, g1⟩ => ?_)
          cases f with
          | zero => rw [g1.1] at hmk; cases hmk
          | succ f =>
            obtain ⟨o', g2, g3⟩ := g1.2 i hmk
            rw [h3] at g2; cases g2
            refine steps_ext _ g0 (steps_mono (steps_of _ _ _ g3) fun e s h => ⟨e, fun _ => rfl, h⟩)
        have hpre : ∀ x ∈ opsAt all (remA k listed), indep all x o = true := fun x hx => by
          obtain ⟨j, hj, hjx⟩ := List.mem_filterMap.1 hx
          have hj := List.mem_filter.1 hj
          have hjk := List.mem_range.1 hj.1
          exact hind j hjk (by omega) (by simpa using hj.2) x hjx
        obtain ⟨v, σ', s1, s2⟩ := steps_front _ hpre hst2
        refine step_sound hR hG hE h3 s1 fun a' w' I' μ' q1 q2 q3 q4 => ?_
        refine ih (listed.setIfInBounds i true) (f - 1) _ σ' w' I' μ' a' (by simpa using hsz) hclos hfuel ?_ q1 q2 q3 (Nat.le_trans hm q4.len) fun env' σ2 w2 I2 μ2 a2 k1 k2 k3 k4 k5 => hq env' σ2 w2 I2 μ2 a2 k1 k2 k3 k4 ((q4.mono hm).trans k5)
        rw [remA_hi (by omega) hik, markA_set_hi (by omega)]
        rw [List.append_nil] at s2; exact s2

theorem range_ops {k : Nat} (hk : k ≤ all.size) : opsAt all (remA k (Array.replicate all.size false)) = all.toList.take k := by
  have h1 : remA k (Array.replicate all.size false) = List.range k := by
    unfold remA
    rw [List.filter_eq_self]
    intro i hi
    have := List.mem_range.1 hi
    simp [show i < all.size by omega]
  rw [h1]
  have gen : ∀ N, N ≤ all.size → opsAt all (List.range N) = all.toList.take N := by
    intro N
    induction N with
    | zero => intro _; rfl
    | succ N ih =>
      intro hN
      have e : opsAt all (List.range (N + 1)) = opsAt all (List.range N) ++ [all[N]] := by
        rw [List.range_succ]
        simp [opsAt, Array.getElem?_eq_getElem (show N < all.size by omega)]
      rw [e, ih (by omega), List.take_add_one]
      simp [show N < all.size by omega]
  exact gen k hk
/-- what a region whose order is open asks: the check, or all its orders, or the check of its first operations and all orders of the last ones -/
def drawOk (P : Program) (Gl : Globs) (n : Nat) (all : Array Oper) (env : Env) (σ : Sto) (K : Env → Sto → Prop) : Prop :=
  drawChk all = true ∨ (∀ K', evOps P Gl n all true all.toList env σ K' → evAny P Gl n all (KX K') all.size (Array.replicate all.size false) env σ) ∨
    ∃ k f, k ≤ all.size ∧ drawChkK k all = true ∧ evOps P Gl n all true (all.toList.take k) env σ (evAny P Gl n all (KX K) f (markA k (Array.replicate all.size false)))

theorem draw_sound' (hP : P.follows .mixedOrders = true) {m id : Nat} {K : Env → Sto → Prop} (hck : drawOk P Gl n all env σ K) (h : evOps P Gl n all true all.toList env σ K) (hR : Rel w I μ σ) (hG : GlOk Gl w I) (hE : RelEnv n w I μ σ env a) (hm : m ≤ σ.length)
    (hq : ∀ env' σ' w' I' μ' a', K env' σ' → Rel w' I' μ' σ' → GlOk Gl w' I' → RelEnv n w' I' μ' σ' env' a' → Keep m w I μ σ w' I' μ' σ' → Q .normal a' w') : (Code.region id all true).wp P Q a w := by
  rcases hck with hck | hck | ⟨k, f, hk, hck, hst⟩
  · exact draw_sound hP hck h hR hG hE hm hq
  · refine wp_region_any hP ?_
    have hs := SameMem.drew w
    have hk := hs.keep (I := I) (μ := μ) (σ := σ)
    exact evAny_sound all.size _ env σ _ I μ a (hck K h) (hs.rel hR) (hG.keep hk) (hE.keep hk) hm fun env' σ' w' I' μ' a' k1 k2 k3 k4 k5 => hq env' σ' w' I' μ' a' k1 k2 k3 k4 ((hk.mono hm).trans k5)
  · refine wp_region_any hP ?_
    have hs := SameMem.drew w
    have hk2 := hs.keep (I := I) (μ := μ) (σ := σ)
    refine any_mix hck hk all.size _ f env σ _ I μ a (by simp) (fun i hi => ?_) ?_ ?_ (hs.rel hR) (hG.keep hk2) (hE.keep hk2) hm fun env' σ' w' I' μ' a' k1 k2 k3 k4 k5 => hq env' σ' w' I' μ' a' k1 k2 k3 k4 ((hk2.mono hm).trans k5)
    · exfalso
      rcases Nat.lt_or_ge i all.size with h1 | h1
      · simp [h1] at hi
      · simp [Nat.not_lt.2 h1] at hi
    · unfold remL
      exact Nat.le_trans (List.length_filter_le _ _) (by simp)
    · rw [range_ops hk]
      exact steps_mono (steps_of _ _ _ hst) fun e s h => ⟨e, fun _ => rfl, h⟩
end Go.AM

/-
  Code: the evaluator of a function's body, and that it is sound.
-/
namespace Go.AM

inductive AExit where
  | normal
  | exit (id : Nat)
  | ret

def eRel : Exit → AExit → Prop
  | .normal, .normal => True
  | .exit i, .exit j => i = j
  | .ret, .ret => True
  | _, _ => False

/-- what is known of a state may be weakened to this -/
def Weak (n m : Nat) (env : Env) (σ : Sto) (env' : Env) (σ' : Sto) : Prop :=
  ∀ w I μ a, Rel w I μ σ → RelEnv n w I μ σ env a → m ≤ σ.length → ∃ I' μ', Rel w I' μ' σ' ∧ RelEnv n w I' μ' σ' env' a ∧ Keep m w I μ σ w I' μ' σ'

theorem Weak.refl (n m : Nat) (env : Env) (σ : Sto) : Weak n m env σ env σ := fun _ I μ _ h1 h2 h3 => ⟨I, μ, h1, h2, Keep.refl _ _ _ _ h3⟩

def APost (n m : Nat) (w : World) (I : Im) (μ : Pos) (σ : Sto) (K : AExit → Env → Sto → Prop) (Gl : Globs) : Exit → Act → World → Prop := fun e a' w' =>
  ∃ ae env' σ' I' μ', eRel e ae ∧ Rel w' I' μ' σ' ∧ GlOk Gl w' I' ∧ RelEnv n w' I' μ' σ' env' a' ∧ Keep m w I μ σ w' I' μ' σ' ∧ K ae env' σ'

def AWp (P : Program) (Gl : Globs) (n m : Nat) (c : Code) (env : Env) (σ : Sto) (K : AExit → Env → Sto → Prop) : Prop :=
  ∀ w I μ a, Rel w I μ σ → GlOk Gl w I → RelEnv n w I μ σ env a → m ≤ σ.length → c.wp P (APost n m w I μ σ K Gl) a w

def thenK (K : AExit → Env → Sto → Prop) (next : Env → Sto → Prop) : AExit → Env → Sto → Prop
  | .normal, env, σ => next env σ
  | e, env, σ => K e env σ
def blockK (id : Nat) (K : AExit → Env → Sto → Prop) : AExit → Env → Sto → Prop
  | .exit i, env, σ => if i = id then K .normal env σ else K (.exit i) env σ
  | e, env, σ => K e env σ

/-- the rounds of a loop: an invariant and a measure; the state weakened at each round's head -/
def evLoop (n m : Nat) (step : Env → Sto → (AExit → Env → Sto → Prop) → Prop) (env : Env) (σ : Sto) (K : AExit → Env → Sto → Prop) : Prop :=
  ∃ (Inv : Env → Sto → Prop) (ν : Env → Sto → Nat), (∃ e s, Weak n m env σ e s ∧ Inv e s) ∧
    ∀ e s, Inv e s → step e s (thenK K fun e' s' => ∃ e2 s2, Weak n m e' s' e2 s2 ∧ Inv e2 s2 ∧ ν e2 s2 < ν e s)

/-- a test: what it may come to -/
def mayT : AV → Bool
  | .d (.bool b) => b
  | .anyb => true
  | _ => false
def mayF : AV → Bool
  | .d (.bool b) => !b
  | .anyb => true
  | _ => false
def AV.isBoolq : AV → Bool
  | .d (.bool _) => true
  | .anyb => true
  | _ => false
def condK (u : AV) (X Y : Prop) : Prop := u.isBoolq = true ∧ (mayT u = true → X) ∧ (mayF u = true → Y)

def evC (P : Program) (Gl : Globs) (n m : Nat) : Code → Env → Sto → (AExit → Env → Sto → Prop) → Prop
  | .skip, env, σ, K => K .normal env σ
  | .region _ ops draw, env, σ, K => (draw = true → drawOk P Gl n ops env σ (K .normal)) ∧ evOps P Gl n ops draw ops.toList env σ (K .normal)
  | .seq x y, env, σ, K => evC P Gl n m x env σ (thenK K fun env' σ' => evC P Gl n m y env' σ' K)
  | .cond c x y, env, σ, K => evG Gl env c = true ∧ condK (evU Gl env c) (evC P Gl n m x env σ K) (evC P Gl n m y env σ K)
  | .block id c, env, σ, K => evC P Gl n m c env σ (blockK id K)
  | .loop c, env, σ, K => evLoop n m (evC P Gl n m c) env σ K
  | .exit id, env, σ, K => K (.exit id) env σ
  | .ret, env, σ, K => K .ret env σ
  | _, _, _, _ => False

variable {P : Program} {Gl : Globs} {n m : Nat} {env : Env} {σ : Sto} {K : AExit → Env → Sto → Prop}

theorem APost.trans {w w1 : World} {I I1 : Im} {μ μ1 : Pos} {σ σ1 : Sto} (k : Keep m w I μ σ w1 I1 μ1 σ1) {K' : AExit → Env → Sto → Prop} (hk : ∀ e env s, K e env s → K' e env s) {e : Exit} {a' : Act} {w' : World} (h : APost n m w1 I1 μ1 σ1 K Gl e a' w') : APost n m w I μ σ K' Gl e a' w' := by
  obtain ⟨ae, env', σ', I', μ', h1, h2, h3, h4, h5, h6⟩ := h
  exact ⟨ae, env', σ', I', μ', h1, h2, h3, h4, k.trans h5, hk _ _ _ h6⟩

theorem AWp.mono {c : Code} {K' : AExit → Env → Sto → Prop} (h : AWp P Gl n m c env σ K) (hk : ∀ e env s, K e env s → K' e env s) : AWp P Gl n m c env σ K' :=
  fun w I μ a h1 h2 h3 h4 => Code.wp_mono (fun _ _ _ q => APost.trans (Keep.refl _ _ _ _ h4) hk q) (h w I μ a h1 h2 h3 h4)

theorem AWp.seq {x y : Code} (h : AWp P Gl n m x env σ (thenK K fun env' σ' => AWp P Gl n m y env' σ' K)) : AWp P Gl n m (.seq x y) env σ K := by
  intro w I μ a h1 h2 h3 h4
  refine wp_seq (Code.wp_mono (fun e a' w' q => ?_) (h w I μ a h1 h2 h3 h4))
  obtain ⟨ae, env', σ', I', μ', q1, q2, q3, q4, q5, q6⟩ := q
  cases e <;> cases ae <;> simp only [eRel] at q1 <;> simp only [Exit.then]
  · exact Code.wp_mono (fun _ _ _ q => APost.trans q5 (fun _ _ _ h => h) q) (q6 w' I' μ' a' q2 q3 q4 q5.len)
  · subst q1; exact ⟨.exit _, env', σ', I', μ', (rfl : eRel (.exit _) (.exit _)), q2, q3, q4, q5, q6⟩
  · exact ⟨.ret, env', σ', I', μ', trivial, q2, q3, q4, q5, q6⟩

theorem AWp.block {id : Nat} {c : Code} (h : AWp P Gl n m c env σ (blockK id K)) : AWp P Gl n m (.block id c) env σ K := by
  intro w I μ a h1 h2 h3 h4
  refine wp_block (Code.wp_mono (fun e a' w' q => ?_) (h w I μ a h1 h2 h3 h4))
  obtain ⟨ae, env', σ', I', μ', q1, q2, q3, q4, q5, q6⟩ := q
  cases e <;> cases ae <;> simp only [eRel] at q1 <;> simp only [Exit.inBlock]
  · exact ⟨.normal, env', σ', I', μ', trivial, q2, q3, q4, q5, q6⟩
  · subst q1
    simp only [blockK] at q6
    split
    · rename_i he; rw [if_pos he] at q6; exact ⟨.normal, env', σ', I', μ', trivial, q2, q3, q4, q5, q6⟩
    · rename_i he; rw [if_neg he] at q6; exact ⟨.exit _, env', σ', I', μ', rfl, q2, q3, q4, q5, q6⟩
  · exact ⟨.ret, env', σ', I', μ', trivial, q2, q3, q4, q5, q6⟩

theorem AWp.weak {c : Code} {env' : Env} {σ' : Sto} (hw : Weak n m env σ env' σ') (h : AWp P Gl n m c env' σ' K) : AWp P Gl n m c env σ K := by
  intro w I μ a h1 h2 h3 h4
  obtain ⟨I', μ', q1, q2, q3⟩ := hw w I μ a h1 h3 h4
  exact Code.wp_mono (fun _ _ _ q => APost.trans q3 (fun _ _ _ h => h) q) (h w I' μ' a q1 (h2.keep q3) q2 q3.len)

theorem exists_least {T : Nat → Prop} (h : ∃ k, T k) : ∃ k, T k ∧ ∀ j, T j → k ≤ j := by
  obtain ⟨k, hk⟩ := h
  induction k using Nat.strongRecOn with
  | _ k ih =>
    by_cases hx : ∃ j, j < k ∧ T j
    · obtain ⟨j, hj, ht⟩ := hx; exact ih j hj ht
    · exact ⟨k, hk, fun j hj => Nat.le_of_not_lt fun hlt => hx ⟨j, hlt, hj⟩⟩

theorem AWp.loop {c : Code} (h : evLoop n m (fun e s k => AWp P Gl n m c e s k) env σ K) : AWp P Gl n m (.loop c) env σ K := by
  intro w I μ a h1 h2 h3 h4
  obtain ⟨Inv, ν, ⟨e0, s0, hw0, hi0⟩, hstep⟩ := h
  let T : Act → World → Nat → Prop := fun a' w' k => ∃ e s I' μ', ν e s = k ∧ Inv e s ∧ Rel w' I' μ' s ∧ GlOk Gl w' I' ∧ RelEnv n w' I' μ' s e a' ∧ Keep m w I μ σ w' I' μ' s
  let least : Act → World → Nat := fun a' w' => open Classical in if h : ∃ k, T a' w' k then Classical.choose (exists_least h) else 0
  have least_spec : ∀ a' w' (h : ∃ k, T a' w' k), T a' w' (least a' w') ∧ ∀ j, T a' w' j → least a' w' ≤ j := fun a' w' h => by
    have : least a' w' = Classical.choose (exists_least h) := by simp only [least]; rw [dif_pos h]
    rw [this]; exact Classical.choose_spec (exists_least h)
  obtain ⟨I0, μ0, q1, q2, q3⟩ := hw0 w I μ a h1 h3 h4
  refine wp_loop (fun a' w' => ∃ k, T a' w' k) least ⟨ν e0 s0, e0, s0, I0, μ0, rfl, hi0, q1, h2.keep q3, q2, q3⟩ fun a' w' hI => ?_
  obtain ⟨⟨e, s, I', μ', hk, hi, r1, r2, r3, r4⟩, hmin⟩ := least_spec a' w' hI
  refine Code.wp_mono (fun x a2 w2 q => ?_) (hstep e s hi w' I' μ' a' r1 r2 r3 r4.len)
  obtain ⟨ae, env', σ', I2, μ2, p1, p2, p3, p4, p5, p6⟩ := q
  cases x <;> cases ae <;> simp only [eRel] at p1 <;> simp only [Exit.then]
  · obtain ⟨e2, s2, hw2, hi2, hlt⟩ := p6
    obtain ⟨I3, μ3, t1, t2, t3⟩ := hw2 w2 I2 μ2 a2 p2 p4 p5.len
    have hT : T a2 w2 (ν e2 s2) := ⟨e2, s2, I3, μ3, rfl, hi2, t1, p3.keep t3, t2, (r4.trans p5).trans t3⟩
    refine ⟨⟨_, hT⟩, ?_⟩
    have := (least_spec a2 w2 ⟨_, hT⟩).2 _ hT
    omega
  · subst p1; exact ⟨.exit _, env', σ', I2, μ2, (rfl : eRel (.exit _) (.exit _)), p2, p3, p4, r4.trans p5, p6⟩
  · exact ⟨.ret, env', σ', I2, μ2, trivial, p2, p3, p4, r4.trans p5, p6⟩

theorem thenK_mono {K K' : AExit → Env → Sto → Prop} {f g : Env → Sto → Prop} (hk : ∀ e env s, K e env s → K' e env s) (hf : ∀ env s, f env s → g env s) : ∀ e env s, thenK K f e env s → thenK K' g e env s := by
  intro e env s h
  cases e <;> first | exact hf _ _ h | exact hk _ _ _ h

/-- THE EVALUATOR IS SOUND. -/
theorem evC_sound (hP : P.follows .mixedOrders = true) :
    ∀ (c : Code) (env : Env) (σ : Sto) (K : AExit → Env → Sto → Prop), evC P Gl n m c env σ K → AWp P Gl n m c env σ K := by
  intro c
  induction c with
  | skip =>
    intro env σ K h w I μ a h1 h2 h3 h4
    exact wp_skip ⟨.normal, env, σ, I, μ, trivial, h1, h2, h3, Keep.refl _ _ _ _ h4, h⟩
  | region id ops draw =>
    intro env σ K h
    cases draw with
    | false =>
      intro w I μ a h1 h2 h3 h4
      refine wp_region_list (evOps_sound ops.toList env σ h.2 h1 h2 h3 h4 fun env' σ' w' I' μ' a' k1 k2 k3 k4 k5 => ?_)
      exact ⟨.normal, env', σ', I', μ', trivial, k2, k3, k4, k5, k1⟩
    | true =>
      intro w I μ a h1 h2 h3 h4
      refine draw_sound' hP (h.1 rfl) h.2 h1 h2 h3 h4 fun env' σ' w' I' μ' a' k1 k2 k3 k4 k5 => ?_
      exact ⟨.normal, env', σ', I', μ', trivial, k2, k3, k4, k5, k1⟩
  | seq x y ihx ihy =>
    intro env σ K h
    exact AWp.seq (AWp.mono (ihx env σ _ h) (thenK_mono (fun _ _ _ h => h) fun env s h => ihy env s K h))
  | cond c x y ihx ihy =>
    intro env σ K h w I μ a h1 h2 h3 h4
    obtain ⟨g1, g2, g3, g4⟩ := h
    have hr := evU_rep h2 h3 g1
    have hb : ∃ b, a.eval c = .bool b ∧ (b = true → mayT (evU Gl env c) = true) ∧ (b = false → mayF (evU Gl env c) = true) := by
      generalize evU Gl env c = u at *
      generalize a.eval c = v at *
      cases u with
      | d x =>
        cases x with
        | bool b => cases hr.inv_d; exact ⟨b, rfl, fun h => h, fun h => by simp [mayF, h]⟩
        | _ => simp [AV.isBoolq] at g2
      | anyb => cases hr with | anyb b => exact ⟨b, rfl, fun _ => rfl, fun _ => rfl⟩
      | _ => simp [AV.isBoolq] at g2
    obtain ⟨b, hb, hT, hF⟩ := hb
    refine wp_cond_split hb (fun ht => ?_) (fun ht => ?_)
    · exact ihx env σ K (g3 (hT ht)) w I μ a h1 h2 h3 h4
    · exact ihy env σ K (g4 (hF ht)) w I μ a h1 h2 h3 h4
  | block id c ih =>
    intro env σ K h
    exact AWp.block (ih env σ _ h)
  | loop c ih =>
    intro env σ K h
    obtain ⟨Inv, ν, h1, h2⟩ := h
    exact AWp.loop ⟨Inv, ν, h1, fun e s hi => ih e s _ (h2 e s hi)⟩
  | exit id =>
    intro env σ K h w I μ a h1 h2 h3 h4
    exact wp_exit ⟨.exit id, env, σ, I, μ, rfl, h1, h2, h3, Keep.refl _ _ _ _ h4, h⟩
  | ret =>
    intro env σ K h w I μ a h1 h2 h3 h4
    exact wp_ret ⟨.ret, env, σ, I, μ, trivial, h1, h2, h3, Keep.refl _ _ _ _ h4, h⟩
  | _ => intro env σ K h; exact h.elim

end Go.AM

/-
  Functions: a contract out of the body. What is known weakened: renamings of the store, arrays frozen.
-/
namespace Go.AM

variable {P : Program} {Gl : Globs} {w : World} {I : Im} {μ : Pos} {σ : Sto} {n m : Nat} {env : Env} {a : Act}

def argEnv : List AV → Nat → Env
  | [], _ => []
  | v :: r, k => (k, v) :: argEnv r (k + 1)

theorem getE_argEnv : ∀ (args : List AV) (k t : Nat), getE (argEnv args k) t = if k ≤ t then args.getD (t - k) .undef else .undef
  | [], k, t => by simp [argEnv, getE]
  | v :: r, k, t => by
    simp only [argEnv, getE]
    by_cases e : k = t
    · subst e; simp
    · rw [if_neg e, getE_argEnv r (k + 1) t]
      by_cases h : k ≤ t
      · rw [if_pos h, if_pos (by omega)]
        have : t - k = (t - (k + 1)) + 1 := by omega
        rw [this]; rfl
      · rw [if_neg h, if_neg (by omega)]

def resOk1 (P : Program) (env : Env) (σ : Sto) : ResultVar → Prop
  | .tmp t => (getE env t).vg = true
  | .cell t ty => match tkind P ty, tsz P ty with | some g, some k => ldOk σ g k (getE env t) | _, _ => False
def resV1 (P : Program) (env : Env) (σ : Sto) : ResultVar → AV
  | .tmp t => (getE env t).un
  | .cell t ty => match tkind P ty, tsz P ty with | some g, some k => ldV σ g k (getE env t) | _, _ => .undef
def resOk (P : Program) (env : Env) (σ : Sto) : List ResultVar → Prop
  | [] => True
  | r :: rs => resOk1 P env σ r ∧ resOk P env σ rs
def resV (P : Program) (env : Env) (σ : Sto) : List ResultVar → AV
  | [r] => resV1 P env σ r
  | rs => .tup (rs.map (resV1 P env σ))

def WeakR (m : Nat) (r : AV) (s : Sto) (r' : AV) (s' : Sto) : Prop :=
  ∀ w I μ v, Rel w I μ s → RepV w I μ s v r → m ≤ s.length → ∃ I' μ', Rel w I' μ' s' ∧ RepV w I' μ' s' v r' ∧ Keep m w I μ s w I' μ' s'
theorem WeakR.refl (m : Nat) (r : AV) (s : Sto) : WeakR m r s r s := fun _ I μ _ h1 h2 h3 => ⟨I, μ, h1, h2, Keep.refl _ _ _ _ h3⟩

/-- the end of a function: what it hands back, weakened as the contract wants it -/
def retK (P : Program) (m : Nat) (rs : List ResultVar) (R : AV → Sto → Prop) : AExit → Env → Sto → Prop
  | .exit _, _, _ => False
  | _, env, σ => resOk P env σ rs ∧ ∃ r' s', WeakR m (resV P env σ rs) σ r' s' ∧ R r' s'

def resS (tmps : Array Value) : ResultVar → Sem Value
  | .tmp t => pure (tmps.getD t Go.undef)
  | .cell t ty => do loadVar ty (← asAddr (tmps.getD t Go.undef))

theorem res1_run (hR : Rel w I μ σ) (hE : RelEnv n w I μ σ env a) {r : ResultVar} (ho : resOk1 P env σ r) :
    ∃ v, (resS a.tmps r).run P w = .ok v w ∧ RepV w I μ σ v (resV1 P env σ r) := by
  cases r with
  | tmp t => exact ⟨_, rfl, un_rep (hE.slot t) ho⟩
  | cell t ty =>
    simp only [resOk1] at ho
    split at ho
    · rename_i g k h1 h2
      obtain ⟨u, h3, h4⟩ := load_goes (P := P) hR h1 h2 (hE.slot t) ho
      refine ⟨u, ?_, by simp only [resV1, h1, h2]; exact h4⟩
      have hp : ∃ ad, a.tmps.getD t Go.undef = .pointer (some ad) := by
        have hv := hE.slot t
        generalize getE env t = p at *
        generalize a.tmps.getD t Go.undef = q at *
        cases p <;> simp only [ldOk] at ho <;> cases hv
        · rename_i h; obtain ⟨_, _, _, e⟩ := h; exact ⟨_, e⟩
        · exact ⟨_, rfl⟩
        · rename_i h; obtain ⟨_, _, _, _, e⟩ := h; exact ⟨_, e⟩
      obtain ⟨ad, e⟩ := hp
      rw [e] at h3
      simp only [resS, e, asAddr, Sem.run_bind, Sem.run_pure, Result.andThen_ok]
      simpa [Instr.loadAt, Instr.sureAddr] using h3
    · exact ho.elim

theorem res_list (hR : Rel w I μ σ) (hE : RelEnv n w I μ σ env a) : ∀ (rs : List ResultVar), resOk P env σ rs →
    ∃ vs : List Value, (rs.mapM (resS a.tmps)).run P w = .ok vs w ∧ vs.length = rs.length ∧
      ∀ (i : Nat) (v : Value) (u : AV), vs[i]? = some v → (rs.map (resV1 P env σ))[i]? = some u → RepV w I μ σ v u
  | [], _ => ⟨[], rfl, rfl, fun i v u hv => by simp at hv⟩
  | r :: rs, ho => by
    obtain ⟨v, h1, h2⟩ := res1_run (P := P) hR hE ho.1
    obtain ⟨vs, h3, h4, h5⟩ := res_list hR hE rs ho.2
    refine ⟨v :: vs, ?_, by simp [h4], fun i v' u hv hu => ?_⟩
    · rw [List.mapM_cons]
      simp only [Sem.run_bind]
      rw [h1]
      simp only [Result.andThen_ok]
      rw [h3]
      simp
    · cases i with
      | zero => simp at hv hu; subst hv; subst hu; exact h2
      | succ i => exact h5 i v' u (by simpa using hv) (by simpa using hu)

theorem results_run (hR : Rel w I μ σ) (hE : RelEnv n w I μ σ env a) {fn : Func} (ho : resOk P env σ fn.results.toList) : ∃ v, (results fn a.tmps).run P w = .ok v w ∧ RepV w I μ σ v (resV P env σ fn.results.toList) := by
  obtain ⟨vs, h1, h2, h3⟩ := res_list (P := P) hR hE fn.results.toList ho
  have hrun : (fn.results.mapM (resS a.tmps)).run P w = .ok vs.toArray w := by
    rw [Array.mapM_eq_mapM_toList]
    simp only [Sem.run_map, h1, Result.andThen_ok]
  have e : (results fn a.tmps).run P w = .ok (if h : vs.toArray.size = 1 then vs.toArray[0] else .tuple vs.toArray) w := by
    have e0 : results fn a.tmps = (do let vs ← fn.results.mapM (resS a.tmps); pure (if h : vs.size = 1 then vs[0] else .tuple vs)) := by
      unfold results
      congr 1
    rw [e0]
    simp only [Sem.run_bind, hrun, Result.andThen_ok, Sem.run_pure]
  refine ⟨_, e, ?_⟩
  cases hl : fn.results.toList with
  | nil =>
    rw [hl] at h2 h3
    have : vs = [] := List.eq_nil_of_length_eq_zero h2
    subst this
    exact .tup [] [] rfl (fun i v u hv => by simp at hv)
  | cons r rs =>
    rw [hl] at h2 h3
    cases rs with
    | nil =>
      cases vs with
      | nil => simp at h2
      | cons v vs =>
        simp at h2
        subst h2
        exact h3 0 v _ rfl rfl
    | cons r2 rs =>
      rw [dif_neg (by simp [h2])]
      exact .tup vs _ (by simp [h2]) h3

theorem argEnv_rel {vals : List Value} {args : List AV} (hl : vals.length = args.length) (hr : ∀ (i : Nat) (v : Value) (u : AV), vals[i]? = some v → args[i]? = some u → RepV w I μ σ v u) (hn : args.length ≤ n) :
    RelEnv n w I μ σ (argEnv args 0) { tmps := vals.toArray ++ Array.replicate (n - vals.toArray.size) Go.undef, defers := [] } := by
  refine ⟨rfl, by simp; omega, fun t => ?_⟩
  rw [getE_argEnv]
  simp only [Nat.zero_le, if_true, Nat.sub_zero]
  rcases Nat.lt_or_ge t args.length with ht | ht
  · have h1 : vals[t]? = some vals[t] := List.getElem?_eq_getElem (by omega)
    have h2 : args[t]? = some args[t] := List.getElem?_eq_getElem ht
    have e : (vals.toArray ++ Array.replicate (n - vals.toArray.size) Go.undef).getD t Go.undef = vals[t] := by
      rw [Array.getD_eq_getD_getElem?, Array.getElem?_append_left (by simp; omega)]
      simp [h1]
    rw [e, List.getD_eq_getElem?_getD, h2]
    exact hr t _ _ h1 h2
  · rw [List.getD_eq_getElem?_getD, List.getElem?_eq_none ht]
    exact .undef _

/-- A CONTRACT OUT OF THE BODY. -/
theorem acalls_of {f : FuncId} {fn : Func} {c : Code} {args : List AV} {R : AV → Sto → Prop} (hf : P.funcs[f]? = some fn) (hname : (fn.name == "runtime.NumGoroutine") = false) (hb : fn.body = some c) (hn : args.length ≤ fn.ntmps)
    (h : AWp P Gl fn.ntmps σ.length c (argEnv args 0) σ (retK P σ.length fn.results.toList R)) : ACalls P Gl f args σ R := by
  intro w I μ vals hR hG hl hr
  have e : (callFunc f vals.toArray).run P w = .ok (.enter f vals.toArray) w := by
    have hne : ¬ fn.name = "runtime.NumGoroutine" := by simpa using hname
    simp [callFunc, hf, hb, hne]
  rw [e]
  refine ⟨rfl, calls_of_wp hf hb ?_⟩
  refine Code.wp_mono (fun x a' w' q => ?_) (h w I μ _ hR hG (argEnv_rel hl hr hn) (Nat.le_refl _))
  obtain ⟨ae, env', σ', I', μ', q1, q2, q3, q4, q5, q6⟩ := q
  have fin : (resOk P env' σ' fn.results.toList ∧ ∃ r' s', WeakR σ.length (resV P env' σ' fn.results.toList) σ' r' s' ∧ R r' s') → ∃ v, (results fn a'.tmps).run P w' = .ok v w' ∧ Post w I μ σ R v w' := by
    rintro ⟨h1, r', s', h2, h3⟩
    obtain ⟨v, h4, h5⟩ := results_run (P := P) q2 q4 h1
    obtain ⟨I2, μ2, h6, h7, h8⟩ := h2 w' I' μ' v q2 h5 q5.len
    exact ⟨v, h4, r', s', I2, μ2, h6, q5.trans h8, h7, h3⟩
  cases x <;> cases ae <;> simp only [eRel] at q1
  · obtain ⟨v, h1, h2⟩ := fin q6; exact ⟨q4.defers, v, h1, v, rfl, h2⟩
  · exact q6.elim
  · obtain ⟨v, h1, h2⟩ := fin q6; exact ⟨q4.defers, v, h1, v, rfl, h2⟩

/-! ### renamings -/
def idxIn (ρ : List Nat) (id : Nat) : Option Nat := ρ.findIdx? (· == id)
/-- a reference renamed; an array that is frozen read as data -/
def ren0 (ρ : List Nat) (σ : Sto) : AV → AV
  | .d x => .d x
  | .nils => .nils
  | .eptr es xs i off => .eptr es xs i off
  | .ptr id off => match idxIn ρ id with | some j => .ptr j off | none => .undef
  | .aptr id i off => match idxIn ρ id with | some j => .aptr j i off | none => .undef
  | .osl id off len => match idxIn ρ id with
    | some j => .osl j off len
    | none => if (blkAt σ id).isArr = true ∧ (blkAt σ id).own = false then .d (.sl (((blkAt σ id).xs.drop off).take len)) else .undef
  | .mapr id => match idxIn ρ id with | some j => .mapr j | none => .undef
  | .anyb => .anyb
  | _ => .undef
def renV (ρ : List Nat) (σ : Sto) : AV → AV
  | .agg cs => if (cs.map (ren0 ρ σ)).all AV.one then mkAgg (cs.map (ren0 ρ σ)) else .undef
  | .tup vs => .tup (vs.map (ren0 ρ σ))
  | .fn f caps => .fn f (caps.map (ren0 ρ σ))
  | .iff _ _ => .undef
  | v => ren0 ρ σ v
def renB (ρ : List Nat) (σ : Sto) : Blk → Blk
  | .box n v => match renV ρ σ v with
    | .undef => .dead
    | v' => .box n v'
  | .map ik f => .map ik fun k => (f k).map (renV ρ σ)
  | B => B
def renS (ρ : List Nat) (σ : Sto) : Sto := ρ.map fun id => renB ρ σ (blkAt σ id)
def renPos (ρ : List Nat) (μ : Pos) : Pos := fun j => match ρ[j]? with | some id => μ id | none => none

theorem idxIn_spec {ρ : List Nat} {id j : Nat} (h : idxIn ρ id = some j) : ρ[j]? = some id := by
  unfold idxIn at h
  have := List.findIdx?_eq_some_iff_getElem.1 h
  obtain ⟨hj, h1, _⟩ := this
  rw [List.getElem?_eq_getElem hj]
  simpa using h1

theorem blkAt_renS {ρ : List Nat} {j id : Nat} (h : ρ[j]? = some id) : blkAt (renS ρ σ) j = renB ρ σ (blkAt σ id) := by
  unfold renS
  conv => lhs; unfold blkAt
  rw [List.getD_eq_getElem?_getD, List.getElem?_map, h]; rfl
theorem renB_arr (ρ : List Nat) (σ' : Sto) (B : Blk) : (renB ρ σ' B).isArr = B.isArr ∧ (renB ρ σ' B).es = B.es ∧ (renB ρ σ' B).xs = B.xs := by
  cases B with
  | box n v => simp only [renB]; split <;> exact ⟨rfl, rfl, rfl⟩
  | _ => exact ⟨rfl, rfl, rfl⟩
theorem renB_alive {ρ : List Nat} {σ' : Sto} {B : Blk} (h : (renB ρ σ' B).isDead = false) : B.isDead = false := by
  cases B <;> simp_all [renB, Blk.isDead]

theorem ren0_rep (hR : Rel w I μ σ) {ρ : List Nat} {v : Value} {u : AV} (hv : RepV w I μ σ v u) : RepV w I (renPos ρ μ) (renS ρ σ) v (ren0 ρ σ u) := by
  have key : ∀ {id j : Nat}, idxIn ρ id = some j → j < (renS ρ σ).length ∧ (alive (renS ρ σ) j → alive σ id) ∧ renPos ρ μ j = μ id ∧ (blkAt (renS ρ σ) j).isArr = (blkAt σ id).isArr ∧ (blkAt (renS ρ σ) j).es = (blkAt σ id).es ∧ (blkAt (renS ρ σ) j).xs = (blkAt σ id).xs := fun {id j} hj => by
    have hs := idxIn_spec hj
    have hb := blkAt_renS (σ := σ) hs
    obtain ⟨a1, a2, a3⟩ := renB_arr ρ σ (blkAt σ id)
    refine ⟨?_, fun ha => ?_, by unfold renPos; rw [hs], by rw [hb, a1], by rw [hb, a2], by rw [hb, a3]⟩
    · unfold renS; rw [List.length_map]
      rcases Nat.lt_or_ge j ρ.length with h' | h'
      · exact h'
      · rw [List.getElem?_eq_none h'] at hs; cases hs
    · unfold alive at *; rw [hb] at ha; exact renB_alive ha
  cases u with
  | d x => exact .d _ _ hv.inv_d
  | nils => cases hv; exact .nils
  | eptr es xs i off => cases hv with | eptr b o _ _ _ _ hh => exact .eptr b o es xs i off hh
  | ptr id off =>
    simp only [ren0]
    cases hj : idxIn ρ id with
    | none => exact .undef _
    | some j =>
      obtain ⟨k1, k2, k3, _⟩ := key hj
      cases hv with
      | ptr _ _ _ hid hh =>
        obtain ⟨b, base, h1, h2⟩ := hh
        exact .ptr _ _ _ k1 ⟨b, base, fun ha => by rw [k3]; exact h1 (k2 ha), h2⟩
  | aptr id i off =>
    simp only [ren0]
    cases hj : idxIn ρ id with
    | none => exact .undef _
    | some j =>
      obtain ⟨k1, k2, k3, k4, k5, k6⟩ := key hj
      cases hv with
      | aptr _ _ _ _ hid hh =>
        obtain ⟨b, base, es, h1, h2⟩ := hh
        exact .aptr _ _ _ _ k1 ⟨b, base, es, fun ha => by rw [k3, k5]; exact h1 (k2 ha), h2⟩
  | osl id off len =>
    simp only [ren0]
    cases hj : idxIn ρ id with
    | none =>
      by_cases hc : (blkAt σ id).isArr = true ∧ (blkAt σ id).own = false
      · simp only [if_pos hc]; exact .d _ _ (hv.oslData hR hc.1 hc.2)
      · simp only [if_neg hc]; exact .undef _
    | some j =>
      obtain ⟨k1, k2, k3, k4, k5, k6⟩ := key hj
      obtain ⟨hid, hh⟩ := inv_osl hv
      refine .osl _ _ _ _ k1 ?_
      rcases hh with hh | ⟨b, base, es, cap, h1, h2, h3⟩
      · exact .inl hh
      · refine .inr ⟨b, base, es, cap, fun ha => ?_, h2, h3⟩
        rw [k3, k4, k5, k6]; exact h1 (k2 ha)
  | mapr id =>
    simp only [ren0]
    cases hj : idxIn ρ id with
    | none => exact .undef _
    | some j =>
      obtain ⟨k1, k2, k3, _⟩ := key hj
      cases hv with
      | mapr _ _ hid hh =>
        obtain ⟨b, h1, h2⟩ := hh
        exact .mapr _ _ k1 ⟨b, fun ha => by rw [k3]; exact h1 (k2 ha), h2⟩
  | anyb => cases hv; exact .anyb _
  | _ => exact .undef _

theorem renV_rep (hR : Rel w I μ σ) {ρ : List Nat} {v : Value} {u : AV} (hv : RepV w I μ σ v u) : RepV w I (renPos ρ μ) (renS ρ σ) v (renV ρ σ u) := by
  have lst : ∀ {vs : List Value} {cs : List AV}, (∀ (i : Nat) (v : Value) (x : AV), vs[i]? = some v → cs[i]? = some x → RepV w I μ σ v x) → ∀ (i : Nat) (v : Value) (x : AV), vs[i]? = some v → (cs.map (ren0 ρ σ))[i]? = some x → RepV w I (renPos ρ μ) (renS ρ σ) v x := fun {vs cs} h i v x hv hx => by
    rw [List.getElem?_map] at hx
    cases hc : cs[i]? with
    | none => rw [hc] at hx; cases hx
    | some c =>
      rw [hc] at hx
      simp only [Option.map_some, Option.some.injEq] at hx
      subst hx
      exact ren0_rep hR (h i v c hv hc)
  cases u with
  | agg cs =>
    cases hv with
    | agg vs _ hl hone hh =>
      simp only [renV]
      split
      · rename_i hall
        exact mkAgg_rep (by simpa using hl) (fun c hc => List.all_eq_true.1 hall c hc) (lst hh)
      · exact .undef _
  | tup cs => cases hv with | tup vs _ hl hh => exact .tup vs _ (by simpa using hl) (lst hh)
  | fn f cs => cases hv with | fn _ vs _ hl hh => exact .fn f vs _ (by simpa using hl) (lst hh)
  | iff g x => exact .undef _
  | _ => exact ren0_rep hR hv

theorem renV_cells (ρ : List Nat) (σ' : Sto) (v : AV) (hu : renV ρ σ' v ≠ .undef) (j : Nat) (hj : j < v.ncells) : (renV ρ σ' v).ncells = v.ncells ∧ (renV ρ σ' v).cellAt j = renV ρ σ' (v.cellAt j) := by
  cases v with
  | d x => exact ⟨rfl, rfl⟩
  | agg cs =>
    simp only [renV] at hu ⊢
    split at hu
    · rename_i hall
      rw [if_pos hall]
      simp only [AV.ncells] at hj
      refine ⟨by rw [mkAgg_ncells]; simp [AV.ncells], ?_⟩
      rw [mkAgg_cellAt _ _ (by simpa using hj)]
      have hone : (ren0 ρ σ' cs[j]).one = true := List.all_eq_true.1 hall _ (List.mem_map.2 ⟨cs[j], List.getElem_mem hj, rfl⟩)
      simp only [AV.cellAt, List.getD_eq_getElem?_getD, List.getElem?_map, List.getElem?_eq_getElem hj, Option.map_some, Option.getD_some]
      generalize cs[j] = c at *
      cases c <;> first | rfl | (simp [ren0, AV.one] at hone; done)
    · exact absurd rfl hu
  | undef => exact absurd rfl hu
  | iff _ _ => exact absurd rfl hu
  | nils => exact ⟨rfl, rfl⟩
  | eptr _ _ _ _ => exact ⟨rfl, rfl⟩
  | fn _ _ => exact ⟨rfl, rfl⟩
  | tup _ => exact ⟨rfl, rfl⟩
  | anyb => exact ⟨rfl, rfl⟩
  | mapr id =>
    simp only [renV, ren0] at hu ⊢
    cases h : idxIn ρ id with
    | none => rw [h] at hu; exact absurd rfl hu
    | some k => simp only [AV.cellAt, h]; exact ⟨rfl, trivial⟩
  | ptr id off =>
    simp only [renV, ren0] at hu ⊢
    cases h : idxIn ρ id with
    | none => rw [h] at hu; exact absurd rfl hu
    | some k => simp only [AV.cellAt, h]; exact ⟨rfl, trivial⟩
  | aptr id i off =>
    simp only [renV, ren0] at hu ⊢
    cases h : idxIn ρ id with
    | none => rw [h] at hu; exact absurd rfl hu
    | some k => simp only [AV.cellAt, h]; exact ⟨rfl, trivial⟩
  | osl id off len =>
    simp only [renV, ren0] at hu ⊢
    cases h : idxIn ρ id with
    | some k => simp only [AV.cellAt, h]; exact ⟨rfl, trivial⟩
    | none =>
      rw [h] at hu
      by_cases hc : (blkAt σ' id).isArr = true ∧ (blkAt σ' id).own = false
      · have hj0 : j = 0 := by simp only [AV.ncells] at hj; omega
        subst hj0
        simp only [if_pos hc, AV.cellAt, h]
        exact ⟨rfl, rfl⟩
      · simp only [if_neg hc] at hu; first | exact absurd rfl hu | exact (hu trivial).elim

def renE (live : List Nat) (ρ : List Nat) (σ : Sto) (env : Env) : Env := live.map fun t => (t, renV ρ σ (getE env t))
theorem getE_renE : ∀ (live : List Nat) (ρ : List Nat) (σ : Sto) (env : Env) (t : Nat), getE (renE live ρ σ env) t = if t ∈ live then renV ρ σ (getE env t) else .undef
  | [], ρ, σ, env, t => by simp [renE, getE]
  | s :: live, ρ, σ, env, t => by
    have ih := getE_renE live ρ σ env t
    unfold renE at ih ⊢
    simp only [List.map_cons, getE]
    by_cases e : s = t
    · subst e; simp
    · rw [if_neg e, ih]
      simp [Ne.symm e]

theorem ren_ok (hR : Rel w I μ σ) {ρ : List Nat} (hm : ρ.take m = List.range m) (hnd : ρ.Nodup) : Rel w I (renPos ρ μ) (renS ρ σ) ∧ Keep m w I μ σ w I (renPos ρ μ) (renS ρ σ) := by
  have hml : m ≤ ρ.length := by
    have := congrArg List.length hm
    simp at this; omega
  have hid : ∀ id, id < m → ρ[id]? = some id := fun id h => by
    have : (ρ.take m)[id]? = some id := by rw [hm]; simp [h]
    rwa [List.getElem?_take_of_lt h] at this
  refine ⟨⟨hR.imm, fun j hj => ?_, fun i j b b' o o' hij hi hj hμi hμj => ?_⟩, ⟨rfl, rfl, rfl, Nat.le_refl _, fun _ h => h, fun _ h => h, fun _ h => .inl h, fun _ _ => rfl, fun _ => Nat.le_refl _, by simpa [renS] using hml, fun id h hal => ?_⟩⟩
  · simp only [renS, List.length_map] at hj
    have hs : ρ[j]? = some ρ[j] := List.getElem?_eq_getElem hj
    rw [blkAt_renS hs]
    generalize ρ[j] = id at hs
    have hp : renPos ρ μ j = μ id := by unfold renPos; rw [hs]
    rcases Nat.lt_or_ge id σ.length with hl | hl
    · have hb := hR.blk id hl
      cases hB : blkAt σ id with
      | dead => trivial
      | arr es xs => rw [hB] at hb; simp only [renB, BlkRep] at hb ⊢; rw [hp]; exact hb
      | frz es xs => rw [hB] at hb; simp only [renB, BlkRep] at hb ⊢; rw [hp]; exact hb
      | map ik f =>
        rw [hB] at hb
        obtain ⟨b, es, clock, h1, h2, h3, h4⟩ := hb
        exact ⟨b, es, clock, by rw [hp]; exact h1, h2, h3, h4.imp fun v u hv => renV_rep hR hv⟩
      | box k v =>
        rw [hB] at hb
        obtain ⟨b, h1, h2, h3, h4, h5, h6⟩ := hb
        by_cases hu : renV ρ σ v = .undef
        · simp only [renB, hu]; trivial
        · have e : renB ρ σ (.box k v) = .box k (renV ρ σ v) := by
            simp only [renB]
          rw [e]
          refine ⟨b, by rw [hp]; exact h1, h2, h3, h4, ?_, fun q hq => ?_⟩
          · rcases Nat.eq_zero_or_pos v.ncells with hz | hpos
            · have : k = 0 := by omega
              subst this
              cases v with
              | d x => exact h5
              | agg cs =>
                simp only [renV] at hu ⊢
                split at hu
                · rename_i hall; rw [if_pos hall, mkAgg_ncells]; simpa [AV.ncells] using h5
                · exact absurd rfl hu
              | _ => simp [AV.ncells] at hz
            · rw [(renV_cells ρ σ v hu 0 hpos).1]; exact h5
          · obtain ⟨r1, u, r2, r3⟩ := h6 q hq
            obtain ⟨_, c2⟩ := renV_cells ρ σ v hu q (by omega)
            have hrep := renV_rep hR (ρ := ρ) r3
            rw [c2]
            refine ⟨?_, u, r2, hrep⟩
            -- still of one cell
            have hne : renV ρ σ (v.cellAt q) ≠ .undef ∨ True := .inr trivial
            rw [← c2]
            cases v with
            | d x => exact r1
            | agg cs =>
              simp only [renV] at hu ⊢
              split at hu
              · rename_i hall
                rw [if_pos hall, mkAgg_cellAt _ _ (by simp only [AV.ncells] at h5; simpa [h5] using hq)]
                have hql : q < cs.length := by simp only [AV.ncells] at h5; omega
                simp only [List.getD_eq_getElem?_getD, List.getElem?_map, List.getElem?_eq_getElem hql, Option.map_some, Option.getD_some]
                exact List.all_eq_true.1 hall _ (List.mem_map.2 ⟨cs[q], List.getElem_mem hql, rfl⟩)
              · exact absurd rfl hu
            | tup _ => simp [AV.cellAt, AV.one] at r1
            | iff _ _ => simp [AV.cellAt, AV.one] at r1
            | undef => simp [AV.cellAt, AV.one] at r1
            | nils => rfl
            | eptr _ _ _ _ => rfl
            | fn _ _ => rfl
            | anyb => simp [AV.cellAt, AV.one] at r1
            | mapr id' =>
              simp only [renV, ren0] at hu ⊢
              cases h : idxIn ρ id' with
              | none => rw [h] at hu; exact absurd rfl hu
              | some k' => rfl
            | ptr id' off =>
              simp only [renV, ren0] at hu ⊢
              cases h : idxIn ρ id' with
              | none => rw [h] at hu; exact absurd rfl hu
              | some k' => rfl
            | aptr id' i off =>
              simp only [renV, ren0] at hu ⊢
              cases h : idxIn ρ id' with
              | none => rw [h] at hu; exact absurd rfl hu
              | some k' => rfl
            | osl id' off len =>
              simp only [renV, ren0] at hu ⊢
              cases h : idxIn ρ id' with
              | some k' => rfl
              | none =>
                rw [h] at hu
                by_cases hc : (blkAt σ id').isArr = true ∧ (blkAt σ id').own = false
                · simp only [if_pos hc, AV.cellAt]
                  cases q with
                  | zero => rfl
                  | succ q => rfl
                · simp only [if_neg hc] at hu; first | exact absurd rfl hu | exact (hu trivial).elim
    · have : blkAt σ id = .dead := by unfold blkAt; rw [List.getD_eq_getElem?_getD, List.getElem?_eq_none hl]; rfl
      rw [this]; trivial
  · have own_ : ∀ j, (blkAt (renS ρ σ) j).own = true → ∃ id, ρ[j]? = some id ∧ (blkAt σ id).own = true := fun j hj => by
      have hl := blkAt_own_lt hj
      simp only [renS, List.length_map] at hl
      have hs : ρ[j]? = some ρ[j] := List.getElem?_eq_getElem hl
      refine ⟨ρ[j], hs, ?_⟩
      rw [blkAt_renS hs] at hj
      cases hB : blkAt σ ρ[j] with
      | box k v => rfl
      | arr es xs => rfl
      | map ik f => rfl
      | _ => rw [hB] at hj; simp [renB, Blk.own] at hj
    obtain ⟨id1, e1, o1⟩ := own_ i hi
    obtain ⟨id2, e2, o2⟩ := own_ j hj
    have hne : id1 ≠ id2 := fun e => by
      subst e
      have hl1 : i < ρ.length := by
        rcases Nat.lt_or_ge i ρ.length with h' | h'
        · exact h'
        · rw [List.getElem?_eq_none h'] at e1; cases e1
      exact hij ((List.getElem?_inj hl1 hnd).1 (e1.trans e2.symm))
    unfold renPos at hμi hμj
    rw [e1] at hμi
    rw [e2] at hμj
    exact hR.apart id1 id2 b b' o o' hne o1 o2 hμi hμj
  · have hs := hid id h
    have hb := blkAt_renS (σ := σ) hs
    obtain ⟨a1, a2, a3⟩ := renB_arr ρ σ (blkAt σ id)
    unfold alive at *
    rw [hb] at hal ⊢
    exact ⟨renB_alive hal, by unfold renPos; rw [hs], a1, a2, by rw [a3]; exact Nat.le_refl _⟩

/-- a state weakened: some arrays frozen, the store renamed, the slots that live on kept -/
theorem weak_ren (live fz ρ : List Nat) (hm : ρ.take m = List.range m) (hnd : ρ.Nodup) (env : Env) (σ : Sto) : Weak n m env σ (renE live ρ (freezeL σ fz) env) (renS ρ (freezeL σ fz)) := by
  intro w I μ a h1 h2 h3
  obtain ⟨I', r1, r2, r3, _⟩ := freezeL_spec h1 fz
  obtain ⟨q1, q2⟩ := ren_ok (m := m) r1 hm hnd
  refine ⟨I', renPos ρ μ, q1, ⟨h2.defers, h2.size, fun t => ?_⟩, (r2.mono h3).trans q2⟩
  rw [getE_renE]
  split
  · exact renV_rep r1 (((h2.slot t)).keep r2)
  · exact .undef _

theorem weakR_ren (fz ρ : List Nat) (hm : ρ.take m = List.range m) (hnd : ρ.Nodup) (r : AV) (σ : Sto) : WeakR m r σ (renV ρ (freezeL σ fz) r) (renS ρ (freezeL σ fz)) := by
  intro w I μ v h1 h2 h3
  obtain ⟨I', r1, r2, r3, _⟩ := freezeL_spec h1 fz
  obtain ⟨q1, q2⟩ := ren_ok (m := m) r1 hm hnd
  exact ⟨I', renPos ρ μ, q1, renV_rep r1 (h2.keep r2), (r2.mono h3).trans q2⟩

end Go.AM
