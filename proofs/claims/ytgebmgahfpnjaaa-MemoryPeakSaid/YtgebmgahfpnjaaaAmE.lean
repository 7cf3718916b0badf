/-
  Regions whose operations may run in any order: the runs.
-/
import Derived.Test.YtgebmgahfpnjaaaAmD
set_option linter.unnecessarySimpa false
set_option linter.unusedSectionVars false
set_option linter.unusedSimpArgs false
set_option linter.unusedVariables false
namespace Go.AM
variable {P : Program} {Gl : Globs} {env : Env} {σ σ' : Sto} {n : Nat} {all : Array Oper} {w : World} {I : Im} {μ : Pos} {a : Act} {Q : Exit → Act → World → Prop}

theorem step_sound {o : Oper} {i : Nat} {v : AV} {Kw : Act → World → Prop} (hR : Rel w I μ σ) (hG : GlOk Gl w I) (hE : RelEnv n w I μ σ env a) (hi : all[i]? = some o) (hs : Step P Gl n all o env σ v σ')
    (hn : ∀ a' w' I' μ', Rel w' I' μ' σ' → GlOk Gl w' I' → RelEnv n w' I' μ' σ' (putE env o.dst v) a' → Keep σ.length w I μ σ w' I' μ' σ' → Kw a' w') : wpOp P all Q i Kw a w := by
  unfold wpOp
  rw [hi]
  simp only
  obtain ⟨hd, hs⟩ := hs
  cases hgd : o.guard with
  | none =>
    rw [hgd] at hs
    obtain ⟨hg, h⟩ := hs
    rw [if_pos (wanted_none hgd _)]
    left
    cases hc : isCall o.op with
    | true =>
      simp only [hc, if_true] at h
      obtain ⟨h1, rfl⟩ := h
      refine Oper.wp_of_call (call_goes hR hG hE hg (h1 σ' (Ext.refl _))) fun u w' ⟨r, s', I', μ', q1, q2, q3, q4⟩ => ?_
      obtain ⟨rfl, rfl⟩ := q4
      exact hn _ _ _ _ q1 (hG.keep q2) ((hE.keep q2).putE hd q3) q2
    | false =>
      simp only [hc, Bool.false_eq_true, if_false] at h
      obtain ⟨h1, rfl, rfl⟩ := h
      refine Oper.wp_of_goes (op_goes hR hG hE o hc hg h1) fun u w' I' μ' q1 q2 q3 => ?_
      exact hn _ _ _ _ q1 (hG.keep q2) ((hE.keep q2).putE hd q3) q2
  | some jb =>
    obtain ⟨j, b⟩ := jb
    rw [hgd] at hs
    obtain ⟨hqt, hsl, hg, rfl, h⟩ := hs
    have hw := wanted_slot hE (all := all) hgd hsl
    cases ht : slotTest (gSlot all env j) b with
    | false =>
      rw [hw, ht, if_neg (by simp)]
      rw [ht] at h
      have : ∃ x, v = .iff false x := by
        cases hc : isCall o.op with
        | true => simp only [hc, if_true] at h; obtain ⟨r0, h, _⟩ := h; exact ⟨r0, h⟩
        | false => simp only [hc, Bool.false_eq_true, if_false] at h; obtain ⟨r0, h, _⟩ := h; exact ⟨r0, h⟩
      obtain ⟨x, rfl⟩ := this
      exact hn _ _ _ _ hR hG (hE.putE hd (.iff false _ x (fun h => by cases h) (fun _ => rfl))) (Keep.refl _ _ _ _ (Nat.le_refl _))
    | true =>
      rw [hw, ht, if_pos rfl]
      left
      rw [ht] at h hg
      cases hc : isCall o.op with
      | true =>
        simp only [hc, if_true] at h
        obtain ⟨r0, rfl, h2⟩ := h
        refine Oper.wp_of_call (call_goes hR hG hE hg (h2 trivial _ (Ext.refl _))) fun u w' ⟨r, s', I', μ', q1, q2, q3, q4⟩ => ?_
        obtain ⟨rfl, rfl⟩ := q4
        exact hn _ _ _ _ q1 (hG.keep q2) ((hE.keep q2).putE hd (.iff true _ _ (fun _ => q3) (fun h => by cases h))) q2
      | false =>
        simp only [hc, Bool.false_eq_true, if_false] at h
        obtain ⟨r0, rfl, h2⟩ := h
        obtain ⟨h3, rfl⟩ := h2 trivial
        have hgo := op_goes hR hG hE o hc hg h3
        rw [opS_quiet hqt] at hgo
        refine Oper.wp_of_goes hgo fun u w' I' μ' q1 q2 q3 => ?_
        exact hn _ _ _ _ q1 (hG.keep q2) ((hE.keep q2).putE hd (.iff true _ _ (fun _ => q3) (fun h => by cases h))) q2

/-! ### who stands ahead of whom -/
def befMask (acc : List Nat) (l : List Edge) (s : Nat) : Nat := l.foldl (fun s e => if Region.binds .any e = true then s ||| 2 ^ e.on ||| acc.getD e.on 0 else s) s
def befs : List Oper → List Nat → List Nat
  | [], acc => acc
  | o :: r, acc => befs r (acc ++ [befMask acc o.after.toList 0])

theorem befMask_spec {acc : List Nat} {j : Nat} : ∀ (l : List Edge) (s : Nat), (befMask acc l s).testBit j = true → s.testBit j = true ∨ ∃ e ∈ l, Region.binds .any e = true ∧ (e.on = j ∨ (acc.getD e.on 0).testBit j = true)
  | [], s, h => .inl h
  | e :: l, s, h => by
    rcases befMask_spec l _ h with h1 | ⟨e', h1, h2⟩
    · simp only at h1
      by_cases hb : Region.binds .any e = true
      · rw [if_pos hb] at h1
        simp only [Nat.testBit_or, Bool.or_eq_true, Nat.testBit_two_pow, decide_eq_true_eq] at h1
        rcases h1 with (h1 | h1) | h1
        · exact .inl h1
        · exact .inr ⟨e, by simp, hb, .inl h1⟩
        · exact .inr ⟨e, by simp, hb, .inr h1⟩
      · rw [if_neg hb] at h1; exact .inl h1
    · exact .inr ⟨e', by simp [h1], h2⟩

def Preds (all : Array Oper) (D : Nat → Prop) (i : Nat) : Prop := ∀ o, all[i]? = some o → ∀ e ∈ o.after.toList, Region.binds .any e = true → D e.on

theorem befs_spec {D : Nat → Prop} (hD : ∀ i, D i → Preds all D i) : ∀ (rest : List Oper) (acc : List Nat), (∀ k, rest[k]? = all[acc.length + k]?) →
    (∀ i < acc.length, ∀ j, (acc.getD i 0).testBit j = true → Preds all D i → D j) →
    ∀ i < (befs rest acc).length, ∀ j, ((befs rest acc).getD i 0).testBit j = true → Preds all D i → D j
  | [], acc, _, h => h
  | o :: r, acc, hk, h => by
    have h0 : all[acc.length]? = some o := by have := hk 0; simpa using this.symm
    refine befs_spec hD r _ (fun k => ?_) (fun i hi j hj hp => ?_)
    · have := hk (k + 1)
      simp only [List.getElem?_cons_succ] at this
      rw [this, List.length_append, List.length_singleton]
      congr 1; omega
    · rcases Nat.lt_or_ge i acc.length with hlt | hge
      · have e : (acc ++ [befMask acc o.after.toList 0]).getD i 0 = acc.getD i 0 := by
          simp [List.getD_eq_getElem?_getD, List.getElem?_append_left hlt]
        rw [e] at hj
        exact h i hlt j hj hp
      · have hi' : i = acc.length := by simp only [List.length_append, List.length_singleton] at hi; omega
        subst hi'
        have e : (acc ++ [befMask acc o.after.toList 0]).getD acc.length 0 = befMask acc o.after.toList 0 := by
          simp [List.getD_eq_getElem?_getD]
        rw [e] at hj
        rcases befMask_spec _ _ hj with h1 | ⟨e', h1, h2, h3⟩
        · simp at h1
        · have hde := hp o h0 e' h1 h2
          rcases h3 with rfl | h3
          · exact hde
          · have hlt : e'.on < acc.length := by
              rcases Nat.lt_or_ge e'.on acc.length with h' | h'
              · exact h'
              · rw [List.getD_eq_getElem?_getD, List.getElem?_eq_none h'] at h3; simp at h3
            exact h _ hlt j h3 (hD _ hde)

theorem befs_length : ∀ (rest : List Oper) (acc : List Nat), (befs rest acc).length = acc.length + rest.length
  | [], acc => rfl
  | o :: r, acc => by rw [befs, befs_length r]; simp; omega

def drawChk (ops : Array Oper) : Bool :=
  ((List.range ops.size).all fun i => (List.range i).all fun j => ((befs ops.toList []).getD i 0).testBit j || (match ops[j]?, ops[i]? with | some x, some y => indep ops x y | _, _ => true)) &&
  ((List.range ops.size).all fun i => match ops[i]? with | some o => o.after.toList.all fun e => !Region.binds .any e || decide (e.on < i) | none => true)

theorem drawChk_pair (h : drawChk all = true) {i j : Nat} (hij : j < i) {x y : Oper} (hx : all[j]? = some x) (hy : all[i]? = some y) {D : Nat → Prop} (hD : ∀ i, D i → Preds all D i) (hp : Preds all D i) (hj : ¬ D j) : indep all x y = true := by
  simp only [drawChk, Bool.and_eq_true, List.all_eq_true, List.mem_range] at h
  have hi : i < all.size := by
    rcases Nat.lt_or_ge i all.size with h' | h'
    · exact h'
    · rw [Array.getElem?_eq_none h'] at hy; cases hy
  have := h.1 i hi j hij
  rw [hx, hy] at this
  rcases Bool.or_eq_true _ _ ▸ this with h1 | h1
  · refine absurd (befs_spec hD all.toList [] (fun k => by simp) (fun i hi => absurd hi (Nat.not_lt_zero _)) i ?_ j h1 hp) hj
    rw [befs_length]; simpa using hi
  · exact h1
theorem drawChk_text (h : drawChk all = true) {i : Nat} {o : Oper} (ho : all[i]? = some o) : ∀ e ∈ o.after.toList, Region.binds .any e = true → e.on < i := by
  simp only [drawChk, Bool.and_eq_true, List.all_eq_true, List.mem_range] at h
  have hi : i < all.size := by
    rcases Nat.lt_or_ge i all.size with h' | h'
    · exact h'
    · rw [Array.getElem?_eq_none h'] at ho; cases ho
  intro e he hb
  have := h.2 i hi
  rw [ho] at this
  simp only [List.all_eq_true] at this
  have := this e he
  simpa [hb] using this

/-! ### the runs -/
def remL (all : Array Oper) (listed : Array Bool) : List Nat := (List.range all.size).filter fun i => !listed.getD i true
def opsAt (all : Array Oper) (l : List Nat) : List Oper := l.filterMap (all[·]?)

theorem range_split {N i : Nat} (h : i < N) : List.range N = List.range i ++ i :: (List.range (N - i - 1)).map (i + 1 + ·) := by
  have e : N = i + (1 + (N - i - 1)) := by omega
  conv => lhs; rw [e, List.range_add]
  congr 1
  rw [Nat.add_comm 1, List.range_succ_eq_map]
  simp [Function.comp_def, Nat.add_comm, Nat.add_left_comm]

theorem remL_split {listed : Array Bool} (hs : listed.size = all.size) {i : Nat} (hi : i < all.size) (hl : listed.getD i true = false) :
    ∃ pre post, remL all listed = pre ++ i :: post ∧ remL all (listed.setIfInBounds i true) = pre ++ post ∧ ∀ j ∈ pre, j < i ∧ listed.getD j true = false := by
  have hne : ∀ j, j ≠ i → (listed.setIfInBounds i true).getD j true = listed.getD j true := fun j hj => by
    rw [Array.getD_eq_getD_getElem?, Array.getD_eq_getD_getElem?, Array.getElem?_setIfInBounds_ne (fun e => hj e.symm)]
  have heq : (listed.setIfInBounds i true).getD i true = true := by
    rw [Array.getD_eq_getD_getElem?, Array.getElem?_setIfInBounds_self_of_lt (by omega)]; rfl
  refine ⟨(List.range i).filter fun j => !listed.getD j true, ((List.range (all.size - i - 1)).map (i + 1 + ·)).filter fun j => !listed.getD j true, ?_, ?_, ?_⟩
  · unfold remL
    rw [range_split hi, List.filter_append, List.filter_cons, if_pos (by rw [hl]; rfl)]
  · unfold remL
    rw [range_split hi, List.filter_append, List.filter_cons, if_neg (by rw [heq]; simp)]
    congr 1
    · exact List.filter_congr fun j hj => by rw [hne j (by have := List.mem_range.1 hj; omega)]
    · exact List.filter_congr fun j hj => by
        obtain ⟨k, _, rfl⟩ := List.mem_map.1 hj
        rw [hne _ (by omega)]
  · intro j hj
    have := List.mem_filter.1 hj
    exact ⟨List.mem_range.1 this.1, by simpa using this.2⟩

theorem mem_ready {listed : Array Bool} {i : Nat} : i ∈ Region.ready .any all listed ↔ i < all.size ∧ listed.getD i true = false ∧ ∃ o, all[i]? = some o ∧ ∀ e ∈ o.after.toList, Region.binds .any e = true → listed.getD e.on false = true := by
  unfold Region.ready
  rw [List.mem_filter, List.mem_range]
  constructor
  · rintro ⟨h1, h2⟩
    simp only [Bool.and_eq_true, Bool.not_eq_true'] at h2
    refine ⟨h1, h2.1, ?_⟩
    have h3 := h2.2
    rw [Array.getElem?_eq_getElem h1] at h3 ⊢
    refine ⟨_, rfl, fun e he hb => ?_⟩
    simp only [Option.map_some, Option.getD_some, Array.all_eq_true'] at h3
    have := h3 e (by simpa using he)
    simpa [hb] using this
  · rintro ⟨h1, h2, o, h3, h4⟩
    refine ⟨h1, ?_⟩
    simp only [Bool.and_eq_true, Bool.not_eq_true']
    refine ⟨h2, ?_⟩
    rw [h3]
    simp only [Option.map_some, Option.getD_some, Array.all_eq_true']
    intro e he
    cases hb : Region.binds .any e with
    | false => rfl
    | true => simp [h4 e (by simpa using he) hb]

theorem getD_tf {listed : Array Bool} {i : Nat} (h : i < listed.size) : listed.getD i false = listed.getD i true := by
  simp [h]

theorem any_sound (hck : drawChk all = true) {m : Nat} {K : Env → Sto → Prop} : ∀ (fuel : Nat) (listed : Array Bool) (env : Env) (σ : Sto) (w : World) (I : Im) (μ : Pos) (a : Act),
    listed.size = all.size → (∀ i, listed.getD i false = true → Preds all (fun j => listed.getD j false = true) i) → (remL all listed).length ≤ fuel →
    Steps P Gl n all (opsAt all (remL all listed)) env σ (KX K) → Rel w I μ σ → GlOk Gl w I → RelEnv n w I μ σ env a → m ≤ σ.length →
    (∀ env' σ' w' I' μ' a', K env' σ' → Rel w' I' μ' σ' → GlOk Gl w' I' → RelEnv n w' I' μ' σ' env' a' → Keep m w I μ σ w' I' μ' σ' → Q .normal a' w') → wpAny P .any all Q fuel listed a w := by
  intro fuel
  induction fuel with
  | zero =>
    intro listed env σ w I μ a hsz hD hlen hst hR hG hE hm hq
    have hnil : remL all listed = [] := List.eq_nil_of_length_eq_zero (by omega)
    refine ⟨?_, ?_⟩
    · rw [List.eq_nil_iff_forall_not_mem]
      intro i hi
      obtain ⟨h1, h2, _⟩ := mem_ready.1 hi
      have : i ∈ remL all listed := List.mem_filter.2 ⟨List.mem_range.2 h1, by rw [h2]; rfl⟩
      rw [hnil] at this; cases this
    · rw [hnil] at hst
      obtain ⟨e0, h0, hk⟩ := hst
      exact hq e0 σ w I μ a hk hR hG ⟨hE.defers, hE.size, fun t => by rw [h0 t]; exact hE.slot t⟩ (Keep.refl _ _ _ _ hm)
  | succ fuel ih =>
    intro listed env σ w I μ a hsz hD hlen hst hR hG hE hm hq
    refine ⟨fun hrd => ?_, fun i hi => ?_⟩
    · have hall : ∀ i, i < all.size → listed.getD i true = true := by
        intro i
        induction i using Nat.strongRecOn with
        | _ i ihi =>
          intro hi
          cases hl : listed.getD i true with
          | true => rfl
          | false =>
            exfalso
            have : i ∈ Region.ready .any all listed := mem_ready.2 ⟨hi, hl, all[i], Array.getElem?_eq_getElem hi, fun e he hb => by
              have hlt := drawChk_text hck (Array.getElem?_eq_getElem hi) e he hb
              rw [getD_tf (by omega)]
              exact ihi _ hlt (by omega)⟩
            rw [hrd] at this; cases this
      have hnil : remL all listed = [] := by
        rw [List.eq_nil_iff_forall_not_mem]
        intro i hi
        have := List.mem_filter.1 hi
        have h2 := hall i (List.mem_range.1 this.1)
        rw [h2] at this
        simp at this
      rw [hnil] at hst
      obtain ⟨e0, h0, hk⟩ := hst
      exact hq e0 σ w I μ a hk hR hG ⟨hE.defers, hE.size, fun t => by rw [h0 t]; exact hE.slot t⟩ (Keep.refl _ _ _ _ hm)
    · obtain ⟨h1, h2, o, h3, h4⟩ := mem_ready.1 hi
      obtain ⟨pre, post, e1, e2, e3⟩ := remL_split hsz h1 h2
      have hpre : ∀ x ∈ opsAt all pre, indep all x o = true := fun x hx => by
        obtain ⟨j, hj, hjx⟩ := List.mem_filterMap.1 hx
        obtain ⟨hlt, hnl⟩ := e3 j hj
        refine drawChk_pair hck hlt hjx h3 (D := fun j => listed.getD j false = true) hD (fun o' ho' => by rw [h3] at ho'; cases ho'; exact h4) ?_
        intro hd
        have hd : listed.getD j false = true := hd
        rw [getD_tf (by omega), hnl] at hd
        cases hd
      rw [e1] at hst
      have e4 : opsAt all (pre ++ i :: post) = opsAt all pre ++ o :: opsAt all post := by
        simp [opsAt, h3]
      rw [e4] at hst
      obtain ⟨v, σ', s1, s2⟩ := steps_front _ hpre hst
      have hset : ∀ j, (listed.setIfInBounds i true).getD j false = true ↔ (listed.getD j false = true ∨ j = i) := fun j => by
        by_cases e : j = i
        · subst e
          rw [Array.getD_eq_getD_getElem?, Array.getElem?_setIfInBounds_self_of_lt (by omega)]; simp
        · rw [Array.getD_eq_getD_getElem?, Array.getElem?_setIfInBounds_ne (fun h => e h.symm), ← Array.getD_eq_getD_getElem?]
          simp [e]
      refine step_sound hR hG hE h3 s1 fun a' w' I' μ' q1 q2 q3 q4 => ?_
      refine ih (listed.setIfInBounds i true) _ σ' w' I' μ' a' (by simpa using hsz) (fun j hj o' ho' e he hb => ?_) ?_ ?_ q1 q2 q3 (Nat.le_trans hm q4.len) fun env' σ2 w2 I2 μ2 a2 k1 k2 k3 k4 k5 => hq env' σ2 w2 I2 μ2 a2 k1 k2 k3 k4 ((q4.mono hm).trans k5)
      · refine (hset e.on).2 ?_
        rcases (hset j).1 hj with hj | rfl
        · exact .inl (hD j hj o' ho' e he hb)
        · rw [h3] at ho'; cases ho'; exact .inl (h4 e he hb)
      · rw [e1] at hlen; rw [e2]; simp at hlen ⊢; omega
      · rw [e2]
        have e5 : opsAt all (pre ++ post) = opsAt all pre ++ opsAt all post := by simp [opsAt]
        rw [e5]; exact s2

theorem draw_sound (hP : P.follows .mixedOrders = true) (hck : drawChk all = true) {m id : Nat} {K : Env → Sto → Prop} (h : evOps P Gl n all true all.toList env σ K) (hR : Rel w I μ σ) (hG : GlOk Gl w I) (hE : RelEnv n w I μ σ env a) (hm : m ≤ σ.length)
    (hq : ∀ env' σ' w' I' μ' a', K env' σ' → Rel w' I' μ' σ' → GlOk Gl w' I' → RelEnv n w' I' μ' σ' env' a' → Keep m w I μ σ w' I' μ' σ' → Q .normal a' w') : (Code.region id all true).wp P Q a w := by
  refine wp_region_any hP ?_
  have hs := SameMem.drew w
  have hk := hs.keep (I := I) (μ := μ) (σ := σ)
  have hfalse : ∀ (i : Nat) (b : Bool), i < all.size → (Array.replicate all.size false).getD i b = false := fun i b hi => by simp [hi]
  have hrem : remL all (Array.replicate all.size false) = List.range all.size := by
    unfold remL
    rw [List.filter_eq_self]
    intro i hi
    rw [hfalse i _ (List.mem_range.1 hi)]; rfl
  have hops : opsAt all (List.range all.size) = all.toList := by
    apply List.ext_getElem?
    intro k
    have hall : ∀ N, N ≤ all.size → ∀ k, (opsAt all (List.range N))[k]? = if k < N then all[k]? else none := by
      intro N
      induction N with
      | zero => intro _ k; simp [opsAt]
      | succ N ih =>
        intro hN k
        have hlen : (opsAt all (List.range N)).length = N := by
          have h1 := ih (by omega)
          rcases Nat.lt_trichotomy (opsAt all (List.range N)).length N with hlt | he | hgt
          · have := h1 (opsAt all (List.range N)).length
            rw [if_pos hlt, List.getElem?_eq_none (Nat.le_refl _), Array.getElem?_eq_getElem (by omega)] at this
            cases this
          · exact he
          · have := h1 N
            rw [if_neg (Nat.lt_irrefl _), List.getElem?_eq_getElem hgt] at this
            cases this
        have e : opsAt all (List.range (N + 1)) = opsAt all (List.range N) ++ [all[N]] := by
          rw [List.range_succ]
          simp [opsAt, Array.getElem?_eq_getElem (show N < all.size by omega)]
        rw [e]
        rcases Nat.lt_trichotomy k N with hlt | he | hgt
        · rw [List.getElem?_append_left (by omega), ih (by omega), if_pos hlt, if_pos (by omega)]
        · subst he
          rw [List.getElem?_append_right (by omega), hlen, if_pos (by omega)]
          simp [Array.getElem?_eq_getElem (show k < all.size by omega)]
        · rw [List.getElem?_eq_none (by simp [hlen]; omega), if_neg (by omega)]
    rw [hall _ (Nat.le_refl _)]
    rcases Nat.lt_or_ge k all.size with h1 | h1
    · rw [if_pos h1]; simp
    · rw [if_neg (by omega)]; simp; omega
  have hmono : ∀ (l : List Oper) (env : Env) (σ : Sto), Steps P Gl n all l env σ K → Steps P Gl n all l env σ (KX K) := by
    intro l
    induction l with
    | nil => intro env σ h; exact ⟨env, fun _ => rfl, h⟩
    | cons o l ih => intro env σ h; obtain ⟨v, σ', h1, h2⟩ := h; exact ⟨v, σ', h1, ih _ _ h2⟩
  refine any_sound (P := P) (Gl := Gl) (n := n) hck all.size _ env σ _ I μ a (by simp) (fun i hi => ?_) (by rw [hrem]; simp) ?_ (hs.rel hR) (hG.keep hk) (hE.keep hk) hm fun env' σ' w' I' μ' a' k1 k2 k3 k4 k5 => hq env' σ' w' I' μ' a' k1 k2 k3 k4 ((hk.mono hm).trans k5)
  · exfalso
    rcases Nat.lt_or_ge i all.size with h1 | h1
    · rw [hfalse i _ h1] at hi; cases hi
    · simp [Nat.not_lt.2 h1] at hi
  · rw [hrem, hops]
    exact hmono _ _ _ (steps_of _ _ _ h)
end Go.AM
