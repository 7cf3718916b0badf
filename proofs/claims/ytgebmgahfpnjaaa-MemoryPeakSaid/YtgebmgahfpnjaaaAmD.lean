/-
  Regions whose operations may run in any order that their edges allow: what they come to in the order of the text they come to in each.
-/
import Derived.Test.YtgebmgahfpnjaaaAm15
set_option linter.unnecessarySimpa false
set_option linter.unusedSectionVars false
set_option linter.unusedSimpArgs false
set_option linter.unusedVariables false
namespace Go.AM

/-! ### what an operation reads -/
def tmpsIn (l : List Operand) : List Tmp := l.filterMap fun | .tmp t => some t | _ => none
def readsO (all : Array Oper) (o : Oper) : List Tmp :=
  tmpsIn o.op.operands.toList ++ (match o.guard with | some (j, _) => ((all[j]?).bind (·.dst)).toList | none => [])

variable {P : Program} {Gl : Globs} {env env' : Env} {σ σ' s : Sto} {n : Nat} {all : Array Oper}

def SameOn (l : List Tmp) (env env' : Env) : Prop := ∀ t ∈ l, getE env t = getE env' t
def Sees (env env' : Env) (l : List Operand) : Prop := ∀ x ∈ l, ∀ t, x = .tmp t → getE env t = getE env' t

theorem evU_same {x : Operand} (h : ∀ t, x = .tmp t → getE env t = getE env' t) : evU Gl env x = evU Gl env' x := by
  cases x with
  | tmp t => simp only [evU, evO, h t rfl]
  | _ => rfl
theorem evG_same {x : Operand} (h : ∀ t, x = .tmp t → getE env t = getE env' t) : evG Gl env x = evG Gl env' x := by
  cases x with
  | tmp t => simp only [evG, evO, h t rfl]
  | _ => rfl

theorem gdL_same {g : Bool} : ∀ {l : List Operand}, Sees env env' l → gdL Gl env g l = gdL Gl env' g l
  | [], _ => rfl
  | x :: l, h => by
    simp only [gdL]
    rw [evG_same (h x (by simp)), gdL_same (l := l) fun y hy => h y (by simp [hy])]

theorem map_same {l : List Operand} (h : Sees env env' l) : l.map (evU Gl env) = l.map (evU Gl env') :=
  List.map_congr_left fun x hx => evU_same (h x hx)
theorem parts_same {l : Array (Nat × Operand)} (h : Sees env env' (l.toList.map (·.2))) : partsU Gl env l = partsU Gl env' l :=
  List.map_congr_left fun p hp => by rw [evU_same (h p.2 (List.mem_map.2 ⟨p, hp, rfl⟩))]

theorem bound_same {o : Option Operand} (h : Sees env env' o.toList) (k : Nat) : boundOk Gl env o = boundOk Gl env' o ∧ loOf Gl env o = loOf Gl env' o ∧ hiOf Gl env k o = hiOf Gl env' k o := by
  cases o with
  | none => exact ⟨rfl, rfl, rfl⟩
  | some x => simp only [boundOk, loOf, hiOf, evU_same (Gl := Gl) (h x (by simp))]; exact ⟨trivial, trivial, trivial⟩

theorem gdOk_same {g : Bool} {op : Op} (h : Sees env env' op.operands.toList) : gdOk Gl env g op = gdOk Gl env' g op := by
  cases op <;> first
    | exact gdL_same h
    | skip
  rename_i c a b
  simp only [Op.operands] at h
  simp only [gdOk, evG_same (Gl := Gl) (h c (by simp)), evU_same (Gl := Gl) (h c (by simp)), evG_same (Gl := Gl) (h a (by simp)), evG_same (Gl := Gl) (h b (by simp))]

theorem bi_same {b : Builtin} {args : List Operand} {ts : List TypeId} (h : Sees env env' args) :
    biOk P Gl σ env b args ts = biOk P Gl σ env' b args ts ∧ biV Gl σ env b args = biV Gl σ env' b args ∧ biS P Gl σ env b args ts = biS P Gl σ env' b args ts := by
  have hm := map_same (Gl := Gl) h
  have hu : ∀ x ∈ args, evU Gl env x = evU Gl env' x := fun x hx => evU_same (h x hx)
  refine ⟨?_, ?_, ?_⟩
  · unfold biOk
    split <;> first | rfl | rw [hm] | simp [hu]
  · unfold biV
    split <;> first | rfl | rw [hm] | simp [hu]
  · unfold biS
    split <;> first | rfl | rw [hm] | simp [hu]

theorem op_same {op : Op} (h : Sees env env' op.operands.toList) : opOk P Gl σ env op = opOk P Gl σ env' op ∧ opV P Gl σ env op = opV P Gl σ env' op ∧ opS P Gl σ env op = opS P Gl σ env' op := by
  have hu : ∀ x ∈ op.operands.toList, evU Gl env x = evU Gl env' x := fun x hx => evU_same (h x hx)
  cases op with
  | build t ps =>
    have := parts_same (Gl := Gl) (l := ps) (by simpa [Op.operands] using h)
    simp only [opOk, opV, opS, this]; exact ⟨trivial, trivial, trivial⟩
  | buildSlice t k ps =>
    have := parts_same (Gl := Gl) (l := ps) (by simpa [Op.operands] using h)
    simp only [opOk, opV, opS, this]; exact ⟨trivial, trivial, trivial⟩
  | makeFunc fn first caps =>
    have : caps.toList.map (evU Gl env) = caps.toList.map (evU Gl env') := map_same fun x hx => h x (by simp [Op.operands]; exact .inr (by simpa using hx))
    simp only [opOk, opV, opS, this]; exact ⟨trivial, trivial, trivial⟩
  | slice t x lo hi mx =>
    have e0 : evU Gl env x = evU Gl env' x := hu x (by simp [Op.operands])
    have e1 := fun k => bound_same (Gl := Gl) (o := lo) (fun y hy => h y (by simp [Op.operands]; exact .inr (.inl (by simpa using hy)))) k
    have e2 := fun k => bound_same (Gl := Gl) (o := hi) (fun y hy => h y (by simp [Op.operands]; exact .inr (.inr (.inl (by simpa using hy))))) k
    simp only [opOk, opV, opS, e0, (e1 0).1, (e1 0).2.1, (e2 0).1, (e2 _).2.2]; exact ⟨trivial, trivial, trivial⟩
  | call c =>
    obtain ⟨callee, args, ats⟩ := c
    cases callee with
    | builtin b =>
      have := bi_same (P := P) (Gl := Gl) (σ := σ) (b := b) (args := args.toList) (ts := ats.toList) (fun x hx => h x (by simpa [Op.operands, Call.operands] using hx))
      simp only [opOk, opV, opS]
      exact this
    | _ => exact ⟨rfl, rfl, rfl⟩
  | _ =>
    simp only [Op.operands, List.mem_cons, List.not_mem_nil, or_false, forall_eq_or_imp, forall_eq] at hu
    first
      | (simp only [opOk, opV, opS]; exact ⟨trivial, trivial, trivial⟩)
      | (simp only [opOk, opV, opS, hu]; exact ⟨trivial, trivial, trivial⟩)
      | exact ⟨rfl, rfl, rfl⟩

theorem callOp_same {op : Op} {R : AV → Sto → Prop} (h : Sees env env' op.operands.toList) : evCallOp P Gl env σ op R = evCallOp P Gl env' σ op R := by
  cases op with
  | call c =>
    obtain ⟨callee, args, ats⟩ := c
    cases callee with
    | value x =>
      have e : evU Gl env x = evU Gl env' x := evU_same (h x (by simp [Op.operands, Call.operands]))
      have e2 : args.toList.map (evU Gl env) = args.toList.map (evU Gl env') := map_same fun y hy => h y (by simp [Op.operands, Call.operands]; exact .inr (by simpa using hy))
      simp only [evCallOp, e, e2]
    | _ => rfl
  | _ => rfl

theorem sees_of {l : List Operand} (h : SameOn (tmpsIn l) env env') : Sees env env' l := by
  intro x hx t e
  subst e
  exact h t (List.mem_filterMap.2 ⟨_, hx, rfl⟩)

/-! ### the store grown -/
theorem Ext.box (h : Ext σ s) {id : Nat} (hb : (blkAt σ id).isBox = true) : blkAt s id = blkAt σ id := by
  rcases h.2 id with h1 | h1 | h1
  · cases hB : blkAt σ id <;> simp_all [Blk.isDead, Blk.isBox]
  · exact h1
  · cases hB : blkAt σ id <;> simp_all [Blk.isBox, Blk.frozen]
theorem Ext.arr (h : Ext σ s) {id : Nat} (hb : (blkAt σ id).isArr = true) : (blkAt s id).isArr = true ∧ (blkAt s id).es = (blkAt σ id).es ∧ (blkAt s id).xs = (blkAt σ id).xs := by
  rcases h.2 id with h1 | h1 | h1
  · cases hB : blkAt σ id <;> simp_all [Blk.isDead, Blk.isArr]
  · rw [h1]; exact ⟨hb, rfl, rfl⟩
  · rw [h1]; cases hB : blkAt σ id <;> simp_all [Blk.isArr, Blk.frozen, Blk.es, Blk.xs]
theorem Ext.map (h : Ext σ s) {id : Nat} (hb : (blkAt σ id).isMap = true) : blkAt s id = blkAt σ id := by
  rcases h.2 id with h1 | h1 | h1
  · cases hB : blkAt σ id <;> simp_all [Blk.isDead, Blk.isMap]
  · exact h1
  · cases hB : blkAt σ id <;> simp_all [Blk.isMap, Blk.frozen]
theorem Ext.trans {s' : Sto} (h : Ext σ s) (k : Ext s s') : Ext σ s' := by
  refine ⟨Nat.le_trans h.1 k.1, fun id => ?_⟩
  rcases h.2 id with h1 | h1 | h1
  · exact .inl h1
  · rcases k.2 id with k1 | k1 | k1
    · rw [h1] at k1; exact .inl k1
    · exact .inr (.inl (k1.trans h1))
    · rw [h1] at k1; exact .inr (.inr k1)
  · rcases k.2 id with k1 | k1 | k1
    · rw [h1] at k1
      left
      cases hB : blkAt σ id <;> simp_all [Blk.isDead, Blk.frozen]
    · exact .inr (.inr (k1.trans h1))
    · rw [h1] at k1
      refine .inr (.inr (k1.trans ?_))
      cases hB : blkAt σ id <;> rfl
theorem Ext.append (B : Blk) : Ext σ (σ ++ [B]) := by
  refine ⟨by simp, fun id => ?_⟩
  rcases Nat.lt_or_ge id σ.length with h | h
  · exact .inr (.inl (blkAt_append_old h))
  · left; unfold blkAt; rw [List.getD_eq_getElem?_getD, List.getElem?_eq_none h]; rfl
theorem Ext.freeze (id : Nat) : Ext σ (freeze σ id) := by
  refine ⟨by simp [AM.freeze], fun j => ?_⟩
  unfold AM.freeze
  by_cases e : id = j
  · subst e
    rcases Nat.lt_or_ge id σ.length with h | h
    · exact .inr (.inr (blkAt_set_self h))
    · left; unfold blkAt; rw [List.getD_eq_getElem?_getD, List.getElem?_eq_none h]; rfl
  · exact .inr (.inl (blkAt_set_ne e))
theorem Ext.freezeL : ∀ (l : List Nat) {σ : Sto}, Ext σ (freezeL σ l)
  | [], σ => Ext.refl σ
  | i :: l, σ => (Ext.freeze i).trans (Ext.freezeL l)

theorem ldOk_ext (h : Ext σ s) {g : Bool} {k : Nat} {v : AV} (ho : ldOk σ g k v) : ldOk s g k v ∧ ldV s g k v = ldV σ g k v := by
  cases v with
  | ptr id off => simp only [ldOk, ldV] at ho ⊢; rw [h.box ho.1]; exact ⟨ho, rfl⟩
  | eptr es xs i off => exact ⟨ho, rfl⟩
  | aptr id i off =>
    simp only [ldOk, ldV] at ho ⊢
    obtain ⟨e1, e2, e3⟩ := h.arr ho.1
    rw [e2, e3, e1]; exact ⟨⟨rfl, ho.2⟩, rfl⟩
  | _ => exact ho.elim
theorem idxOk_ext (h : Ext σ s) {es : Nat} {i : Int} {v : AV} (ho : idxOk σ es i v) : idxOk s es i v := by
  cases v with
  | osl id off len =>
    simp only [idxOk] at ho ⊢
    obtain ⟨e1, e2, e3⟩ := h.arr ho.2.2.1
    rw [e2, e1]; exact ⟨ho.1, ho.2.1, rfl, ho.2.2.2⟩
  | d x => cases x <;> exact ho
  | _ => exact ho.elim
theorem slOk_ext (h : Ext σ s) {t : TypeId} {lo hi : Int} {v : AV} (ho : slOk P t σ lo hi v) : slOk P t s lo hi v := by
  cases v with
  | osl id off len =>
    simp only [slOk] at ho ⊢
    obtain ⟨e1, e2, e3⟩ := h.arr ho.2.2.2.2.1
    rw [e2, e1]; exact ⟨ho.1, ho.2.1, ho.2.2.1, ho.2.2.2.1, rfl, ho.2.2.2.2.2⟩
  | d x => cases x <;> exact ho
  | _ => exact ho

theorem len_sto (σ s : Sto) (args : List Operand) (ts : List TypeId) : biOk P Gl s env .len args ts = biOk P Gl σ env .len args ts ∧ biV Gl s env .len args = biV Gl σ env .len args := by
  match args, ts with
  | [], _ => exact ⟨rfl, rfl⟩
  | [_], [] => exact ⟨rfl, rfl⟩
  | [_], [_] => exact ⟨rfl, rfl⟩
  | [_], _ :: _ :: _ => exact ⟨rfl, rfl⟩
  | _ :: _ :: _, _ => exact ⟨rfl, rfl⟩

/-- a quiet operation comes to the same in a store that has more -/
theorem op_ext (h : Ext σ s) {op : Op} (hq : quietOp op = true) (ho : opOk P Gl σ env op) : opOk P Gl s env op ∧ opV P Gl s env op = opV P Gl σ env op := by
  cases op with
  | load t x =>
    simp only [opOk, opV] at ho ⊢
    cases h1 : tkind P t <;> cases h2 : tsz P t <;> simp only [h1, h2] at ho ⊢
    exact ldOk_ext h ho
  | indexAddr t x i =>
    simp only [opOk, opV] at ho ⊢
    refine ⟨⟨ho.1, ?_⟩, trivial⟩
    have h2 := ho.2
    split <;> rename_i e <;> simp only [e] at h2
    · exact idxOk_ext h h2
    · exact h2
  | slice t x lo hi mx =>
    simp only [opOk, opV] at ho ⊢
    cases mx with
    | some _ => exact ho.elim
    | none => exact ⟨⟨ho.1, ho.2.1, slOk_ext h ho.2.2⟩, trivial⟩
  | lookup t m k ok =>
    simp only [opOk, opV] at ho ⊢
    cases h1 : tmap P t with
    | none => simp only [h1] at ho
    | some q =>
      obtain ⟨ik, e⟩ := q
      simp only [h1] at ho ⊢
      obtain ⟨h2, h3, h4⟩ := ho
      generalize evU Gl env m = u at *
      cases u with
      | mapr id =>
        have he := h.map h3.1
        simp only [lkOk, lkV, lkF, he] at h3 ⊢
        exact ⟨⟨h2, h3, h4⟩, trivial⟩
      | d x =>
        have e : lkOk s ik (.d x) = lkOk σ ik (.d x) := by cases x <;> first | rfl | (rename_i v; cases v <;> first | rfl | (rename_i p; cases p <;> rfl))
        rw [e]; exact ⟨⟨h2, h3, h4⟩, rfl⟩
      | _ => exact h3.elim
  | call c =>
    obtain ⟨callee, args, ats⟩ := c
    cases callee with
    | builtin b =>
      simp only [opOk, opV] at ho ⊢
      cases b <;> first | exact ⟨ho, rfl⟩ | (simp [quietOp] at hq; done) | skip
      obtain ⟨q1, q2⟩ := len_sto (P := P) (Gl := Gl) (env := env) σ s args.toList ats.toList
      exact ⟨by rw [q1]; exact ho, q2⟩
    | _ => exact ho.elim
  | _ => first | exact ⟨ho, rfl⟩ | (simp [quietOp] at hq; done)

/-- looks at no store -/
def noSto : Op → Bool
  | .load .. | .indexAddr .. | .slice .. | .lookup .. => false
  | .call { callee := .builtin .append, .. } => false
  | .call { callee := .builtin .delete, .. } => false
  | .call { callee := .builtin .clear, .. } => false
  | .call { callee := .builtin _, .. } => true
  | .call _ => false
  | op => quietOp op
theorem noSto_quiet {op : Op} (h : noSto op = true) : quietOp op = true ∧ isCall op = false := by
  cases op with
  | call c =>
    obtain ⟨callee, args, ats⟩ := c
    cases callee with
    | builtin b => cases b <;> simp_all [noSto, quietOp, isCall]
    | _ => simp [noSto] at h
  | _ => simp_all [noSto, quietOp, isCall]
theorem op_noSto {op : Op} (h : noSto op = true) (σ s : Sto) : opOk P Gl s env op = opOk P Gl σ env op ∧ opV P Gl s env op = opV P Gl σ env op := by
  cases op with
  | call c =>
    obtain ⟨callee, args, ats⟩ := c
    cases callee with
    | builtin b => cases b <;> first | exact ⟨rfl, rfl⟩ | (simp [noSto] at h; done) | exact len_sto σ s _ _
    | _ => simp [noSto] at h
  | _ => first | exact ⟨rfl, rfl⟩ | (simp [noSto, quietOp] at h; done)

/-- only adds a block -/
def addOp : Op → Bool
  | .alloc _ | .box _ _ | .buildSlice .. | .makeSlice .. | .makeMap .. => true
  | _ => false
theorem op_add {op : Op} (h : addOp op = true) (ho : opOk P Gl σ env op) : Ext σ (opS P Gl σ env op) := by
  cases op with
  | alloc t =>
    simp only [opOk, opS] at ho ⊢
    split
    · exact Ext.append _
    · exact Ext.refl _
  | box t x => exact Ext.append _
  | buildSlice t k ps =>
    cases k with
    | zero => exact Ext.append _
    | succ k => exact (Ext.freezeL _).trans (Ext.append _)
  | makeSlice t l c => exact Ext.append _
  | makeMap t r =>
    simp only [opS]
    split
    · exact Ext.append _
    · exact Ext.refl _
  | _ => simp [addOp] at h

/-! ### one operation -/
def Step (P : Program) (Gl : Globs) (n : Nat) (all : Array Oper) (o : Oper) (env : Env) (σ : Sto) (v : AV) (σ' : Sto) : Prop :=
  dstIn n o.dst = true ∧
  match o.guard with
  | none => gdOk Gl env true o.op ∧
    (if isCall o.op = true then (∀ s, Ext σ s → evCallOp P Gl env s o.op (fun r s' => r = v ∧ s' = s)) ∧ σ' = σ
     else opOk P Gl σ env o.op ∧ v = opV P Gl σ env o.op ∧ σ' = opS P Gl σ env o.op)
  | some (j, b) => quietOp o.op = true ∧ slotBool (gSlot all env j) = true ∧ gdOk Gl env (slotTest (gSlot all env j) b) o.op ∧ σ' = σ ∧
    (if isCall o.op = true then ∃ r0, v = .iff (slotTest (gSlot all env j) b) r0 ∧ (slotTest (gSlot all env j) b = true → ∀ s, Ext σ s → evCallOp P Gl env s o.op (fun r s' => r = r0 ∧ s' = s))
     else ∃ r0, v = .iff (slotTest (gSlot all env j) b) r0 ∧ (slotTest (gSlot all env j) b = true → opOk P Gl σ env o.op ∧ r0 = opV P Gl σ env o.op))

def Steps (P : Program) (Gl : Globs) (n : Nat) (all : Array Oper) : List Oper → Env → Sto → (Env → Sto → Prop) → Prop
  | [], env, σ, K => K env σ
  | o :: rest, env, σ, K => ∃ v σ', Step P Gl n all o env σ v σ' ∧ Steps P Gl n all rest (putE env o.dst v) σ' K

theorem steps_of {K : Env → Sto → Prop} : ∀ (l : List Oper) (env : Env) (σ : Sto), evOps P Gl n all true l env σ K → Steps P Gl n all l env σ K
  | [], _, _, h => h
  | o :: rest, env, σ, h => by
    simp only [evOps] at h
    simp only [Steps, Step]
    cases hg : o.guard with
    | none =>
      rw [hg] at h
      simp only at h ⊢
      cases hc : isCall o.op with
      | true =>
        simp only [hc, if_true] at h ⊢
        obtain ⟨h1, h2, r0, h3, h4⟩ := h
        exact ⟨r0, σ, ⟨h1, h2, h3, rfl⟩, steps_of rest _ _ h4⟩
      | false =>
        simp only [hc, Bool.false_eq_true, if_false] at h ⊢
        obtain ⟨h1, h2, h3, h4⟩ := h
        exact ⟨_, _, ⟨h1, h2, h3, rfl, rfl⟩, steps_of rest _ _ h4⟩
    | some jb =>
      obtain ⟨j, b⟩ := jb
      rw [hg] at h
      simp only at h ⊢
      cases hc : isCall o.op with
      | true =>
        simp only [hc, if_true] at h ⊢
        obtain ⟨h1, h2, h3, h4, r0, h5, h6⟩ := h
        exact ⟨_, σ, ⟨h1, h2, h3, h4, rfl, r0, rfl, h5⟩, steps_of rest _ _ h6⟩
      | false =>
        simp only [hc, Bool.false_eq_true, if_false] at h ⊢
        obtain ⟨h1, h2, h3, h4, h5, h6⟩ := h
        exact ⟨_, _, ⟨h1, h2, h3, h4, rfl, _, rfl, fun ht => ⟨h5 ht, rfl⟩⟩, steps_of rest _ _ h6⟩

theorem gSlot_same {o : Oper} {j : Nat} {b : Bool} (hg : o.guard = some (j, b)) (h : SameOn (readsO all o) env env') : gSlot all env j = gSlot all env' j := by
  unfold gSlot
  cases hd : (all[j]?).bind (·.dst) with
  | none => rfl
  | some d => exact h d (by simp [readsO, hg, hd])

theorem step_same {o : Oper} {v : AV} (h : SameOn (readsO all o) env env') (hs : Step P Gl n all o env σ v σ') : Step P Gl n all o env' σ v σ' := by
  have hsee : Sees env env' o.op.operands.toList := sees_of fun t ht => h t (by simp [readsO, ht])
  obtain ⟨e1, e2, e3⟩ := op_same (P := P) (Gl := Gl) (σ := σ) hsee
  obtain ⟨hd, hs⟩ := hs
  refine ⟨hd, ?_⟩
  cases hg : o.guard with
  | none =>
    rw [hg] at hs
    simp only at hs ⊢
    rw [gdOk_same hsee] at hs
    refine ⟨hs.1, ?_⟩
    have h2 := hs.2
    cases hc : isCall o.op with
    | true =>
      simp only [hc, if_true] at h2 ⊢
      exact ⟨fun s hx => by rw [← callOp_same hsee]; exact h2.1 s hx, h2.2⟩
    | false =>
      simp only [hc, Bool.false_eq_true, if_false] at h2 ⊢
      rw [← e1, ← e2, ← e3]; exact h2
  | some jb =>
    obtain ⟨j, b⟩ := jb
    rw [hg] at hs
    simp only at hs ⊢
    rw [← gSlot_same hg h, ← gdOk_same hsee]
    obtain ⟨h1, h2, h3, h4, h5⟩ := hs
    refine ⟨h1, h2, h3, h4, ?_⟩
    cases hc : isCall o.op with
    | true =>
      simp only [hc, if_true] at h5 ⊢
      obtain ⟨r0, q1, q2⟩ := h5
      exact ⟨r0, q1, fun ht s hx => by rw [← callOp_same hsee]; exact q2 ht s hx⟩
    | false =>
      simp only [hc, Bool.false_eq_true, if_false] at h5 ⊢
      rw [← e1, ← e2]; exact h5

theorem getE_putE {d : Option Tmp} {v : AV} {t : Tmp} (h : d ≠ some t) : getE (putE env d v) t = getE env t := by
  cases d with
  | none => rfl
  | some d => simp only [putE, getE]; rw [if_neg fun e => h (by rw [e])]

/-- leaves the store -/
def still (o : Oper) : Bool := o.guard.isSome || quietOp o.op
theorem step_still {o : Oper} {v : AV} (h : still o = true) (hs : Step P Gl n all o env σ v σ') : σ' = σ := by
  obtain ⟨_, hs⟩ := hs
  cases hg : o.guard with
  | none =>
    rw [hg] at hs
    simp only [still, hg, Option.isSome_none, Bool.false_or] at h
    have h2 := hs.2
    cases hc : isCall o.op with
    | true => simp only [hc, if_true] at h2; exact h2.2
    | false => simp only [hc, Bool.false_eq_true, if_false] at h2; rw [h2.2.2]; exact opS_quiet h
  | some jb => rw [hg] at hs; exact hs.2.2.2.1

theorem step_ext {o : Oper} {v : AV} {s : Sto} (h : still o = true) (hx : Ext σ s) (hs : Step P Gl n all o env σ v σ') : Step P Gl n all o env s v s := by
  obtain ⟨hd, hs⟩ := hs
  refine ⟨hd, ?_⟩
  cases hg : o.guard with
  | none =>
    rw [hg] at hs
    simp only [still, hg, Option.isSome_none, Bool.false_or] at h
    refine ⟨hs.1, ?_⟩
    have h2 := hs.2
    cases hc : isCall o.op with
    | true =>
      simp only [hc, if_true] at h2 ⊢
      exact ⟨fun s' hx' => h2.1 s' (hx.trans hx'), trivial⟩
    | false =>
      simp only [hc, Bool.false_eq_true, if_false] at h2 ⊢
      obtain ⟨q1, q2⟩ := op_ext hx h h2.1
      exact ⟨q1, by rw [q2]; exact h2.2.1, (opS_quiet h).symm⟩
  | some jb =>
    obtain ⟨j, b⟩ := jb
    rw [hg] at hs
    obtain ⟨h1, h2, h3, h4, h5⟩ := hs
    refine ⟨h1, h2, h3, rfl, ?_⟩
    cases hc : isCall o.op with
    | true =>
      simp only [hc, if_true] at h5 ⊢
      obtain ⟨r0, q1, q2⟩ := h5
      exact ⟨r0, q1, fun ht s' hx' => q2 ht s' (hx.trans hx')⟩
    | false =>
      simp only [hc, Bool.false_eq_true, if_false] at h5 ⊢
      obtain ⟨r0, q1, q2⟩ := h5
      exact ⟨r0, q1, fun ht => by
        obtain ⟨p1, p2⟩ := q2 ht
        obtain ⟨q3, q4⟩ := op_ext hx h1 p1
        exact ⟨q3, by rw [q4]; exact p2⟩⟩

theorem step_noSto {o : Oper} {v : AV} (h : noSto o.op = true) (hs : Step P Gl n all o env σ v σ') : σ' = σ ∧ ∀ s, Step P Gl n all o env s v s := by
  obtain ⟨hq, hnc⟩ := noSto_quiet h
  have hst : still o = true := by simp [still, hq]
  refine ⟨step_still hst hs, fun s => ?_⟩
  obtain ⟨e1, e2⟩ := op_noSto (P := P) (Gl := Gl) (env := env) h σ s
  obtain ⟨hd, hs⟩ := hs
  refine ⟨hd, ?_⟩
  cases hg : o.guard with
  | none =>
    rw [hg] at hs
    simp only [hnc, Bool.false_eq_true, if_false] at hs ⊢
    rw [e1, e2, opS_quiet hq]
    exact ⟨hs.1, hs.2.1, hs.2.2.1, rfl⟩
  | some jb =>
    obtain ⟨j, b⟩ := jb
    rw [hg] at hs
    simp only [hnc, Bool.false_eq_true, if_false] at hs ⊢
    obtain ⟨h1, h2, h3, h4, r0, q1, q2⟩ := hs
    exact ⟨h1, h2, h3, trivial, r0, q1, fun ht => by rw [e1, e2]; exact q2 ht⟩

def addO (o : Oper) : Bool := o.guard.isNone && addOp o.op
theorem step_add {o : Oper} {v : AV} (h : addO o = true) (hs : Step P Gl n all o env σ v σ') : Ext σ σ' := by
  simp only [addO, Bool.and_eq_true, Option.isNone_iff_eq_none] at h
  obtain ⟨hd, hs⟩ := hs
  rw [h.1] at hs
  have hc : isCall o.op = false := by
    have := h.2
    generalize o.op = op at *
    cases op <;> first | rfl | (simp [addOp] at this; done)
  simp only [hc, Bool.false_eq_true, if_false] at hs
  rw [hs.2.2.2]
  exact op_add h.2 hs.2.1

/-- x stands ahead of y in the text; y may be carried out first -/
def indep (all : Array Oper) (x y : Oper) : Bool :=
  (match x.dst, y.dst with | some a, some b => a != b | _, _ => true) &&
  (match x.dst with | some a => !(readsO all y).contains a | none => true) &&
  (match y.dst with | some b => !(readsO all x).contains b | none => true) &&
  ((still x && still y) || noSto x.op || noSto y.op || (still x && addO y))

theorem indep_spec {x y : Oper} (h : indep all x y = true) : (∀ a, x.dst = some a → y.dst ≠ some a) ∧ (∀ a, x.dst = some a → a ∉ readsO all y) ∧ (∀ b, y.dst = some b → b ∉ readsO all x) ∧
    ((still x = true ∧ still y = true) ∨ noSto x.op = true ∨ noSto y.op = true ∨ (still x = true ∧ addO y = true)) := by
  simp only [indep, Bool.and_eq_true, Bool.or_eq_true] at h
  obtain ⟨⟨⟨h1, h2⟩, h3⟩, h4⟩ := h
  refine ⟨fun a ha hb => ?_, fun a ha => ?_, fun b hb => ?_, ?_⟩
  · rw [ha, hb] at h1; simp at h1
  · rw [ha] at h2; simpa using h2
  · rw [hb] at h3; simpa using h3
  · rcases h4 with ((h4 | h4) | h4) | h4
    · exact .inl h4
    · exact .inr (.inl h4)
    · exact .inr (.inr (.inl h4))
    · exact .inr (.inr (.inr h4))

theorem sameOn_put {o : Oper} {d : Option Tmp} {v : AV} (h : ∀ a, d = some a → a ∉ readsO all o) : SameOn (readsO all o) (putE env d v) env := by
  intro t ht
  exact getE_putE fun e => h t e ht
theorem SameOn.symm {l : List Tmp} (h : SameOn l env env') : SameOn l env' env := fun t ht => (h t ht).symm

theorem step_swap {x y : Oper} (h : indep all x y = true) {v1 v2 : AV} {σ1 σ2 : Sto} (h1 : Step P Gl n all x env σ v1 σ1) (h2 : Step P Gl n all y (putE env x.dst v1) σ1 v2 σ2) :
    ∃ σy, Step P Gl n all y env σ v2 σy ∧ Step P Gl n all x (putE env y.dst v2) σy v1 σ2 := by
  obtain ⟨_, q2, q3, q4⟩ := indep_spec h
  have h2' := step_same (sameOn_put (env := env) (v := v1) q2) h2
  have back : ∀ {s s' : Sto}, Step P Gl n all x env s v1 s' → Step P Gl n all x (putE env y.dst v2) s v1 s' := fun hh => step_same (sameOn_put (env := env) (v := v2) q3).symm hh
  rcases q4 with ⟨hx, hy⟩ | hx | hy | ⟨hx, hy⟩
  · have e1 := step_still hx h1
    have e2 := step_still hy h2
    subst e1; subst e2
    exact ⟨_, h2', back h1⟩
  · obtain ⟨e1, g1⟩ := step_noSto hx h1
    subst e1
    exact ⟨_, h2', back (g1 _)⟩
  · obtain ⟨e2, g2⟩ := step_noSto hy h2'
    subst e2
    exact ⟨_, g2 _, back h1⟩
  · have e1 := step_still hx h1
    subst e1
    exact ⟨_, h2', back (step_ext hx (step_add hy h2') h1)⟩

def SameE (env env' : Env) : Prop := ∀ t, getE env t = getE env' t
theorem SameE.put (h : SameE env env') (d : Option Tmp) (v : AV) : SameE (putE env d v) (putE env' d v) := by
  intro t
  cases d with
  | none => exact h t
  | some d =>
    simp only [putE, getE]
    split
    · rfl
    · exact h t
theorem SameE.swap {d e : Option Tmp} (hne : ∀ a, d = some a → e ≠ some a) (v u : AV) : SameE (putE (putE env d v) e u) (putE (putE env e u) d v) := by
  intro t
  by_cases h1 : e = some t
  · have h2 : d ≠ some t := fun h => hne t h h1
    rw [getE_putE h2, h1]
    simp [putE, getE]
  · rw [getE_putE h1]
    by_cases h2 : d = some t
    · rw [h2]; simp [putE, getE]
    · rw [getE_putE h2, getE_putE h2, getE_putE h1]

/-- what is said of a state, whatever way it is written -/
def KX (K : Env → Sto → Prop) (env : Env) (σ : Sto) : Prop := ∃ env0, SameE env0 env ∧ K env0 σ
theorem KX.ext {K : Env → Sto → Prop} (h : SameE env env') (hk : KX K env σ) : KX K env' σ := by
  obtain ⟨e0, h0, hk⟩ := hk
  exact ⟨e0, fun t => (h0 t).trans (h t), hk⟩

theorem steps_ext {K : Env → Sto → Prop} : ∀ (l : List Oper) {env env' : Env} {σ : Sto}, SameE env env' → Steps P Gl n all l env σ (KX K) → Steps P Gl n all l env' σ (KX K)
  | [], _, _, _, h, hk => KX.ext h hk
  | o :: rest, _, _, _, h, hk => by
    obtain ⟨v, σ', h1, h2⟩ := hk
    exact ⟨v, σ', step_same (fun t _ => h t) h1, steps_ext rest (h.put _ _) h2⟩

theorem steps_front {K : Env → Sto → Prop} {y : Oper} {post : List Oper} : ∀ (pre : List Oper) {env : Env} {σ : Sto}, (∀ x ∈ pre, indep all x y = true) → Steps P Gl n all (pre ++ y :: post) env σ (KX K) → Steps P Gl n all (y :: (pre ++ post)) env σ (KX K)
  | [], _, _, _, h => h
  | x :: pre, env, σ, hi, h => by
    obtain ⟨v1, σ1, h1, h2⟩ := h
    obtain ⟨v2, σ2, h3, h4⟩ := steps_front pre (fun z hz => hi z (by simp [hz])) h2
    have hxy := hi x (by simp)
    obtain ⟨σy, h5, h6⟩ := step_swap hxy h1 h3
    exact ⟨v2, σy, h5, v1, σ2, h6, steps_ext _ (SameE.swap (indep_spec hxy).1 _ _) h4⟩
end Go.AM
