/-
  Each operation that is no call runs as the evaluator says.
-/
import Derived.Test.YtgebmgahfpnjaaaAm13
set_option linter.unnecessarySimpa false
set_option linter.unusedSectionVars false
set_option linter.unusedSimpArgs false
set_option linter.unusedVariables false
namespace Go.AM

variable {P : Program} {w : World} {I : Im} {μ : Pos} {σ : Sto} {n : Nat} {Gl : Globs} {env : Env} {a : Act}

theorem evU_rep (hG : GlOk Gl w I) (hE : RelEnv n w I μ σ env a) {x : Operand} (hg : evG Gl env x = true) : RepV w I μ σ (a.eval x) (evU Gl env x) := un_rep (evO_rep hG hE x) hg

theorem gdL_mem : ∀ {l : List Operand}, gdL Gl env true l → ∀ x ∈ l, evG Gl env x = true
  | y :: r, h, x, hx => by
    cases hx with
    | head => exact h.1 rfl
    | tail _ hx => exact gdL_mem h.2 x hx

theorem bool_rep {v : Value} {u : AV} (hv : RepV w I μ σ v u) (hb : u.isBoolv = true) : v = .bool u.truth := by
  cases u with
  | d x =>
    have := hv.inv_d
    cases this <;> simp_all [AV.isBoolv, AV.truth]
  | _ => simp [AV.isBoolv] at hb

theorem args_rep (hG : GlOk Gl w I) (hE : RelEnv n w I μ σ env a) {l : List Operand} (hl : ∀ x ∈ l, evG Gl env x = true) :
    ∀ (i : Nat) (v : Value) (u : AV), (l.map a.eval)[i]? = some v → (l.map (evU Gl env))[i]? = some u → RepV w I μ σ v u := fun i v u hv hu => by
  rw [List.getElem?_map] at hv hu
  cases hx : l[i]? with
  | none => rw [hx] at hv; cases hv
  | some x =>
    rw [hx] at hv hu
    simp only [Option.map_some, Option.some.injEq] at hv hu
    subst hv; subst hu
    exact evU_rep hG hE (hl x (List.mem_of_getElem? hx))

theorem parts_rep (hG : GlOk Gl w I) (hE : RelEnv n w I μ σ env a) {parts : Array (Nat × Operand)} (hl : ∀ x ∈ parts.toList.map (·.2), evG Gl env x = true) :
    (partsU Gl env parts).map Prod.fst = (parts.map fun (i, x) => (i, a.eval x)).toList.map Prod.fst ∧
    ∀ (k : Nat) (p : Nat × AV) (q : Nat × Value), (partsU Gl env parts)[k]? = some p → (parts.map fun (i, x) => (i, a.eval x)).toList[k]? = some q → RepV w I μ σ q.2 p.2 := by
  refine ⟨by simp [partsU, Function.comp_def], fun k p q hp hq => ?_⟩
  unfold partsU at hp
  rw [Array.toList_map, List.getElem?_map] at hq
  rw [List.getElem?_map] at hp
  cases hx : parts.toList[k]? with
  | none => rw [hx] at hp; cases hp
  | some x =>
    rw [hx] at hp hq
    simp only [Option.map_some, Option.some.injEq] at hp hq
    subst hp; subst hq
    exact evU_rep hG hE (hl _ (List.mem_map.2 ⟨x, List.mem_of_getElem? hx, rfl⟩))

theorem builtin_goes (hR : Rel w I μ σ) (hG : GlOk Gl w I) (hE : RelEnv n w I μ σ env a) {b : Builtin} {args : Array Operand} {ts : Array TypeId} (ty : TypeId) (cs : Array Bool) (hl : ∀ x ∈ args.toList, evG Gl env x = true)
    (ho : biOk P Gl σ env b args.toList ts.toList) : Goes ((builtin b ts ty cs (args.map a.eval)).run P w) w I μ σ (biV Gl σ env b args.toList) (biS P Gl σ env b args.toList ts.toList) := by
  obtain ⟨args⟩ := args
  obtain ⟨ts⟩ := ts
  simp only at hl ho ⊢
  unfold biOk at ho
  split at ho
  · rename_i x t
    exact Goes.same hR (u := .int .i64 (evU Gl env x).len) (by simpa using len_goes (P := P) (evU_rep hG hE (hl x (by simp))) ho) (.d _ _ (.int _ _))
  · rename_i s x t1 t2
    obtain ⟨z, w', μ', h1, h2, h3, h4⟩ := append_goes (P := P) (ty := ty) hR (evU_rep hG hE (hl s (by simp))) (evU_rep hG hE (hl x (by simp))) ho
    exact Goes.of (by simpa using h1) h2 h3 h4
  · rename_i args' _
    obtain ⟨z, h1, h2⟩ := min_goes (P := P) (w := w) (I := I) (μ := μ) (σ := σ) (ts := ts.toArray) (ty := ty) (vs := (args.map a.eval).toArray) (us := args.map (evU Gl env)) (by simp) (fun i v u hv hu => args_rep hG hE hl i v u (by simpa using hv) hu) ho
    exact Goes.same hR (by simpa [builtin] using h1) h2
  · rename_i args' _
    obtain ⟨z, h1, h2⟩ := max_goes (P := P) (w := w) (I := I) (μ := μ) (σ := σ) (ts := ts.toArray) (ty := ty) (vs := (args.map a.eval).toArray) (us := args.map (evU Gl env)) (by simp) (fun i v u hv hu => args_rep hG hE hl i v u (by simpa using hv) hu) ho
    exact Goes.same hR (by simpa [builtin] using h1) h2
  · rename_i m k t t2
    cases ht : tmap P t with
    | none => rw [ht] at ho; exact ho.elim
    | some q =>
      obtain ⟨ik, e⟩ := q
      rw [ht] at ho
      obtain ⟨h1, h2⟩ := ho
      have hm := evU_rep hG hE (hl m (by simp))
      have hk := evU_rep hG hE (hl k (by simp))
      simp only [biS]
      cases hu : evU Gl env m with
      | mapr id =>
        rw [hu] at h2 hm
        obtain ⟨w', h3, h4, h5⟩ := delete_goes (P := P) (t2 := t2) (ty := ty) hR ht hm hk h1 h2.1 h2.2
        exact Goes.of (by simpa using h3) h4 h5 (.undef _)
      | _ => rw [hu] at h2; exact h2.elim
  · rename_i s t
    obtain ⟨w', h1, h2, h3⟩ := clear_goes (P := P) (ty := ty) hR (evU_rep hG hE (hl s (by simp))) ho
    exact Goes.of (by simpa using h1) h2 h3 (.undef _)
  · exact ho.elim

theorem op_goes (hR : Rel w I μ σ) (hG : GlOk Gl w I) (hE : RelEnv n w I μ σ env a) (o : Oper) (hc : isCall o.op = false) (hgd : gdOk Gl env true o.op) (ho : opOk P Gl σ env o.op) :
    Goes ((execOp a.eval o).run P w) w I μ σ (opV P Gl σ env o.op) (opS P Gl σ env o.op) := by
  obtain ⟨dst, op, ty, pos, af, gd⟩ := o
  simp only at hc hgd ho ⊢
  have U : ∀ {x : Operand}, x ∈ op.operands.toList → (∀ c p q, op ≠ .pick c p q) → RepV w I μ σ (a.eval x) (evU Gl env x) := fun {x} hx hnp => by
    refine evU_rep hG hE (gdL_mem (l := op.operands.toList) ?_ x hx)
    cases op <;> first | exact hgd | (exact absurd rfl (hnp _ _ _))
  cases op with
  | move x => exact ⟨_, w, I, μ, .inl rfl, hR, Keep.refl _ _ _ _ (Nat.le_refl _), U (by simp [Op.operands]) (by simp)⟩
  | assign x => exact ⟨_, w, I, μ, .inl rfl, hR, Keep.refl _ _ _ _ (Nat.le_refl _), U (by simp [Op.operands]) (by simp)⟩
  | pick c p q =>
    obtain ⟨g1, g2, g3⟩ := hgd
    have hb := bool_rep (evU_rep hG hE (g1 rfl)) ho
    cases ht : (evU Gl env c).truth with
    | true =>
      refine ⟨a.eval p, w, I, μ, .inl ?_, hR, Keep.refl _ _ _ _ (Nat.le_refl _), ?_⟩
      · simp [execOp, hb, asBool, ht]
      · simp only [opV, ht, pickV_true]; exact evU_rep hG hE (g2 rfl ht)
    | false =>
      refine ⟨a.eval q, w, I, μ, .inl ?_, hR, Keep.refl _ _ _ _ (Nat.le_refl _), ?_⟩
      · simp [execOp, hb, asBool, ht]
      · simp only [opV, ht, pickV_false]; exact evU_rep hG hE (g3 rfl ht)
  | alloc t =>
    simp only [opOk] at ho
    cases hz : tzero P t with
    | none => rw [hz] at ho; exact ho.elim
    | some z =>
      rw [hz] at ho
      obtain ⟨w', μ', h1, h2, h3, h4⟩ := alloc_goes (P := P) hR hz ho
      simp only [opV, opS, hz]
      exact Goes.of h1 h2 h3 h4
  | box t x =>
    obtain ⟨w', μ', h1, h2, h3, h4⟩ := box_goes (P := P) hR t (U (x := x) (by simp [Op.operands]) (by simp)) ho
    exact Goes.of h1 h2 h3 h4
  | build t parts =>
    simp only [opOk] at ho
    split at ho
    · rename_i pl zc h1 h2
      have hl : ∀ x ∈ parts.toList.map (·.2), evG Gl env x = true := gdL_mem (by simpa [gdOk, Op.operands] using hgd)
      obtain ⟨p1, p2⟩ := parts_rep (w := w) (I := I) (μ := μ) (σ := σ) (n := n) (a := a) hG hE hl
      obtain ⟨z, h3, h4⟩ := build_goes (P := P) h1 h2 p1 p2 ho
      simp only [opV, opS, h1, h2]
      exact Goes.same hR h3 h4
    · exact ho.elim
  | buildSlice t k parts =>
    have hl : ∀ x ∈ parts.toList.map (·.2), evG Gl env x = true := gdL_mem (by simpa [gdOk, Op.operands] using hgd)
    obtain ⟨p1, p2⟩ := parts_rep (w := w) (I := I) (μ := μ) (σ := σ) (n := n) (a := a) hG hE hl
    cases k with
    | zero =>
      simp only [opOk] at ho
      obtain ⟨rfl, ho⟩ := ho
      cases hte : telem P t with
      | none => rw [hte] at ho; exact ho.elim
      | some e =>
        rw [hte] at ho
        obtain ⟨es, hs⟩ := Option.isSome_iff_exists.1 ho
        obtain ⟨z, w', μ', h1, h2, h3, h4⟩ := buildSlice0_goes (P := P) hR hte hs
        have : apEs P t = es := by unfold apEs; rw [hte]; simp [hs]
        simp only [opV, opS, this]
        exact Goes.of (by simpa using h1) h2 h3 h4
    | succ k =>
      obtain ⟨z, w', I', μ', h1, h2, h3, h4⟩ := buildSlice_goes (P := P) hR p1 p2 ho
      exact Goes.of h1 h2 h3 h4
  | load t x =>
    simp only [opOk] at ho
    split at ho
    · rename_i g k h1 h2
      obtain ⟨u, h3, h4⟩ := load_goes (P := P) hR h1 h2 (U (x := x) (by simp [Op.operands]) (by simp)) ho
      simp only [opV, opS, h1, h2]
      exact Goes.same hR h3 h4
    · exact ho.elim
  | store t p x =>
    simp only [opOk] at ho
    split at ho
    · rename_i k h1
      obtain ⟨w', I', h3, h4, h5⟩ := store_goes (P := P) hR h1 (U (x := x) (by simp [Op.operands]) (by simp)) (U (x := p) (by simp [Op.operands]) (by simp)) ho
      simp only [opV, opS, h1]
      exact ⟨Go.undef, w', I', μ, .inr ⟨by simp [execOp, h3], rfl⟩, h4, h5, .undef _⟩
    · exact ho.elim
  | nilCheck x =>
    have hx := U (x := x) (by simp [Op.operands]) (by simp)
    simp only [opOk] at ho
    refine ⟨a.eval x, w, I, μ, .inl ?_, hR, Keep.refl _ _ _ _ (Nat.le_refl _), hx⟩
    generalize evU Gl env x = u at *
    generalize hv : a.eval x = v at *
    cases hx <;> simp [AV.notNil] at ho
    · rename_i h; obtain ⟨_, _, _, rfl⟩ := h; simp [execOp, hv]
    · simp [execOp, hv]
    · rename_i h; obtain ⟨_, _, _, _, rfl⟩ := h; simp [execOp, hv]
    · simp [execOp, hv]
  | lookup t m k ok =>
    simp only [opOk] at ho
    split at ho
    · rename_i ik e h1
      obtain ⟨h2, h3, h4⟩ := ho
      obtain ⟨z, h5, h6⟩ := lookup_goes (P := P) hR h1 (U (x := m) (by simp [Op.operands]) (by simp)) (U (x := k) (by simp [Op.operands]) (by simp)) h2 h3 h4 ok
      simp only [opV, opS, h1]
      exact Goes.same hR h5 h6
    · exact ho.elim
  | mapUpdate t m k x =>
    simp only [opOk] at ho
    split at ho
    · rename_i ik e h1
      obtain ⟨w', h3, h4, h5⟩ := mapUpdate_goes (P := P) hR h1 (U (x := m) (by simp [Op.operands]) (by simp)) (U (x := k) (by simp [Op.operands]) (by simp)) (U (x := x) (by simp [Op.operands]) (by simp)) ho.1 ho.2
      exact ⟨Go.undef, w', I, μ, .inr ⟨by simp [execOp, h3], rfl⟩, h4, h5, .undef _⟩
    · exact ho.elim
  | insert t m k x =>
    simp only [opOk] at ho
    split at ho
    · rename_i ik e h1
      obtain ⟨w', h3, h4, h5⟩ := mapUpdate_goes (P := P) hR h1 (U (x := m) (by simp [Op.operands]) (by simp)) (U (x := k) (by simp [Op.operands]) (by simp)) (U (x := x) (by simp [Op.operands]) (by simp)) ho.1 ho.2
      exact ⟨Go.undef, w', I, μ, .inr ⟨by simp [execOp, h3], rfl⟩, h4, h5, .undef _⟩
    · exact ho.elim
  | makeMap t r =>
    obtain ⟨rfl, h1⟩ := ho
    obtain ⟨q, h1⟩ := Option.isSome_iff_exists.1 h1
    obtain ⟨ik, e⟩ := q
    obtain ⟨w', μ', h2, h3, h4, h5⟩ := makeMap_goes (P := P) hR t ik
    simp only [opV, opS, h1]
    exact Goes.of (by simpa using h2) h3 h4 h5
  | binOp op t x y yt =>
    obtain ⟨z, h1, h2⟩ := binop_goes (P := P) (op := op) (t := t) (x := x) (y := y) (U (x := x) (by simp [Op.operands]) (by simp)) (U (x := y) (by simp [Op.operands]) (by simp)) ho
    exact Goes.same hR h1 h2
  | unOp op t x =>
    obtain ⟨z, h1, h2⟩ := unop_goes (P := P) (op := op) (U (x := x) (by simp [Op.operands]) (by simp)) ho
    exact Goes.same hR h1 h2
  | convert s t x =>
    obtain ⟨h1, h2, h3⟩ := ho
    obtain ⟨k, hk⟩ := Option.isSome_iff_exists.1 h2
    obtain ⟨z, h4, h5⟩ := conv_goes (P := P) hk h1 (U (x := x) (by simp [Op.operands]) (by simp)) h3
    simp only [opV, cvV, hk, opS]
    exact Goes.same hR h4 h5
  | makeFunc fn first caps =>
    cases fn with
    | func f =>
      simp only [opOk] at ho
      subst ho
      have hl : ∀ x ∈ caps.toList, evG Gl env x = true := gdL_mem (by simpa [gdOk, Op.operands] using hgd)
      refine Goes.same hR (u := .func (.func f) #[] (caps.toList.map a.eval).toArray) ?_ (.fn f _ _ (by simp) (args_rep hG hE hl))
      simp [Instr.makeFunc]
      apply Array.ext'
      simp
    | _ => exact ho.elim
  | makeSlice t l c =>
    obtain ⟨z, w', μ', h1, h2, h3, h4⟩ := makeSlice_goes (P := P) hR (U (x := l) (by simp [Op.operands]) (by simp)) (U (x := c) (by simp [Op.operands]) (by simp)) ho
    exact Goes.of h1 h2 h3 h4
  | slice t x lo hi mx =>
    cases mx with
    | some _ => exact ho.elim
    | none =>
      obtain ⟨b1, b2, h1⟩ := ho
      have hx := U (x := x) (by simp [Op.operands]) (by simp)
      have hlo : ((lo.map a.eval) = none ∧ loOf Gl env lo = 0) ∨ ∃ k, (lo.map a.eval) = some (.int k (loOf Gl env lo)) := by
        cases lo with
        | none => exact .inl ⟨rfl, rfl⟩
        | some l => exact .inr ⟨_, by rw [Option.map_some, int_rep' (U (x := l) (by simp [Op.operands]) (by simp)) b1]; rfl⟩
      have hhi : ((hi.map a.eval) = none ∧ hiOf Gl env (evU Gl env x).len hi = (evU Gl env x).len) ∨ ∃ k, (hi.map a.eval) = some (.int k (hiOf Gl env (evU Gl env x).len hi)) := by
        cases hi with
        | none => exact .inl ⟨rfl, rfl⟩
        | some l => exact .inr ⟨_, by rw [Option.map_some, int_rep' (U (x := l) (by simp [Op.operands]) (by simp)) b2]; rfl⟩
      obtain ⟨z, h2, h3⟩ := slice_goes (P := P) hx hlo hhi h1
      exact Goes.same hR h2 h3
  | fieldAddr s x f =>
    simp only [opOk] at ho
    split at ho
    · rename_i o k g h1
      obtain ⟨z, h2, h3⟩ := fieldAddr_goes (P := P) h1 ho.1 (U (x := x) (by simp [Op.operands]) (by simp)) ho.2
      simp only [opV, opS, h1]
      exact Goes.same hR h2 h3
    · exact ho.elim
  | field s x f =>
    simp only [opOk] at ho
    split at ho
    · rename_i o k g h1
      obtain ⟨z, h2, h3⟩ := field_goes (P := P) h1 (U (x := x) (by simp [Op.operands]) (by simp)) ho.1 rfl ho.2.1 ho.2.2
      simp only [opV, opS, h1]
      exact Goes.same hR h2 h3
    · exact ho.elim
  | indexAddr t x i =>
    obtain ⟨hi, ho⟩ := ho
    have hx := U (x := x) (by simp [Op.operands]) (by simp)
    have hiv := U (x := i) (by simp [Op.operands]) (by simp)
    split at ho
    · rename_i es h1
      obtain ⟨z, h2, h3⟩ := idx_goes (P := P) h1 hx hiv hi ho
      simp only [opV, opS, h1]
      exact Goes.same hR h2 h3
    · rename_i k es h1
      obtain ⟨z, h2, h3⟩ := aidx_goes (P := P) h1 hx hiv hi ho
      simp only [opV, opS, h1]
      exact Goes.same hR h2 h3
    · exact ho.elim
  | index t x i =>
    obtain ⟨h1, h2, h3, h4, h5⟩ := ho
    have hx := U (x := x) (by simp [Op.operands]) (by simp)
    have hiv := U (x := i) (by simp [Op.operands]) (by simp)
    have e : evU Gl env x = .d (.str (evU Gl env x).strOf) := by
      generalize evU Gl env x = u at *
      cases u with
      | d y => cases y <;> simp_all [AV.isStrv, AV.strOf]
      | _ => simp [AV.isStrv] at h2
    rw [e] at hx
    obtain ⟨z, h6, h7⟩ := index_goes (P := P) h1 hx hiv h3 h4 h5
    exact Goes.same hR h6 h7
  | extract t i =>
    have hx := U (x := t) (by simp [Op.operands]) (by simp)
    simp only [opOk] at ho
    generalize hu : evU Gl env t = u at *
    generalize hv : a.eval t = v at *
    cases hx with
    | tup vs cs hl hh =>
      simp only [AV.tupLen] at ho
      have hl' : i < vs.length := by omega
      refine Goes.same hR (u := vs[i]) ?_ ?_
      · simp [Instr.extract, hv, hl']
      · simp only [opV, hu, AV.tupAt, List.getD_eq_getElem?_getD, List.getElem?_eq_getElem ho, Option.getD_some]
        exact hh i _ _ (List.getElem?_eq_getElem hl') (List.getElem?_eq_getElem ho)
    | _ => simp [AV.tupLen] at ho
  | call c =>
    obtain ⟨callee, args, ats⟩ := c
    cases callee with
    | builtin b =>
      have hl : ∀ x ∈ args.toList, evG Gl env x = true := gdL_mem (by simpa [gdOk, Op.operands, Call.operands] using hgd)
      have e : ∃ cs, (execOp a.eval ⟨dst, .call ⟨.builtin b, args, ats⟩, ty, pos, af, gd⟩).run P w = (builtin b ats ty cs (args.map a.eval)).run P w :=
        ⟨_, by simp only [execOp, resolve, invoke, Sem.run_bind, Sem.run_pure, Result.andThen_ok]; rfl⟩
      obtain ⟨cs, e⟩ := e
      rw [e]
      exact builtin_goes (P := P) hR hG hE (b := b) (args := args) (ts := ats) ty cs hl ho
    | value f => exact ho.elim
    | invoke r m => exact ho.elim
  | _ => exact ho.elim

end Go.AM
