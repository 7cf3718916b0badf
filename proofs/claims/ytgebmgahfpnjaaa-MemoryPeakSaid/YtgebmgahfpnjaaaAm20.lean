/-
  Loops: rounds counted, the state at each round's head given.
-/
import Derived.Test.YtgebmgahfpnjaaaAm19
set_option linter.unnecessarySimpa false
set_option linter.unusedSectionVars false
set_option linter.unusedVariables false
set_option linter.unusedSimpArgs false
namespace Go.AM
variable {P : Program} {Gl : Globs} {n m : Nat} {env : Env} {σ : Sto} {K : AExit → Env → Sto → Prop}

theorem weak_to (fz ρ : List Nat) {e' : Env} {s' : Sto} (hm : ρ.take m = List.range m) (hnd : ρ.Nodup) (he : renE (e'.map (·.1)) ρ (freezeL σ fz) env = e') (hs : renS ρ (freezeL σ fz) = s') : Weak n m env σ e' s' := by
  have := weak_ren (n := n) (e'.map (·.1)) fz ρ hm hnd env σ
  rw [he, hs] at this
  exact this
theorem weakR_to (fz ρ : List Nat) {r r' : AV} {s' : Sto} (hm : ρ.take m = List.range m) (hnd : ρ.Nodup) (he : renV ρ (freezeL σ fz) r = r') (hs : renS ρ (freezeL σ fz) = s') : WeakR m r σ r' s' := by
  have := weakR_ren (m := m) fz ρ hm hnd r σ
  rw [he, hs] at this
  exact this

theorem evOps_mono {all : Array Oper} {draw : Bool} {K1 K2 : Env → Sto → Prop} (hk : ∀ e s, K1 e s → K2 e s) : ∀ (l : List Oper) (env : Env) (σ : Sto), evOps P Gl n all draw l env σ K1 → evOps P Gl n all draw l env σ K2
  | [], _, _, h => hk _ _ h
  | o :: l, env, σ, h => by
    simp only [evOps] at h ⊢
    refine ⟨h.1, ?_⟩
    have h2 := h.2
    cases hg : o.guard with
    | none =>
      rw [hg] at h2
      simp only at h2 ⊢
      refine ⟨h2.1, ?_⟩
      have h3 := h2.2
      by_cases hc : isCall o.op = true
      · rw [if_pos hc] at h3 ⊢
        by_cases hd : draw = true
        · rw [if_pos hd] at h3 ⊢
          obtain ⟨r0, h4, h5⟩ := h3
          exact ⟨r0, h4, evOps_mono hk l _ _ h5⟩
        · rw [if_neg hd] at h3 ⊢
          revert h3
          unfold evCallOp
          split
          · split
            · split
              · exact fun h => h.mono fun r s h => evOps_mono hk l _ _ h
              · exact id
            · exact id
          · exact id
      · rw [if_neg hc] at h3 ⊢
        exact ⟨h3.1, evOps_mono hk l _ _ h3.2⟩
    | some jb =>
      obtain ⟨j, b⟩ := jb
      rw [hg] at h2
      simp only at h2 ⊢
      refine ⟨h2.1, h2.2.1, h2.2.2.1, ?_⟩
      have h3 := h2.2.2.2
      by_cases hc : isCall o.op = true
      · rw [if_pos hc] at h3 ⊢
        obtain ⟨r0, h4, h5⟩ := h3
        exact ⟨r0, h4, evOps_mono hk l _ _ h5⟩
      · rw [if_neg hc] at h3 ⊢
        exact ⟨h3.1, evOps_mono hk l _ _ h3.2⟩

theorem blockK_mono {K1 K2 : AExit → Env → Sto → Prop} {id : Nat} (hk : ∀ e env s, K1 e env s → K2 e env s) : ∀ e env s, blockK id K1 e env s → blockK id K2 e env s := by
  intro e env s h
  cases e with
  | exit i =>
    simp only [blockK] at h ⊢
    split
    · rename_i hi; rw [if_pos hi] at h; exact hk _ _ _ h
    · rename_i hi; rw [if_neg hi] at h; exact hk _ _ _ h
  | _ => exact hk _ _ _ h

theorem evC_mono : ∀ (c : Code) {env : Env} {σ : Sto} {K1 K2 : AExit → Env → Sto → Prop}, (∀ e env s, K1 e env s → K2 e env s) → evC P Gl n m c env σ K1 → evC P Gl n m c env σ K2 := by
  intro c
  induction c with
  | skip => intro env σ K1 K2 hk h; exact hk _ _ _ h
  | region id ops draw => intro env σ K1 K2 hk h; exact ⟨h.1, evOps_mono (fun e s h => hk _ e s h) _ _ _ h.2⟩
  | seq x y ihx ihy => intro env σ K1 K2 hk h; exact ihx (thenK_mono hk fun e s h => ihy hk h) h
  | cond c x y ihx ihy => intro env σ K1 K2 hk h; exact ⟨h.1, h.2.1, fun ht => ihx hk (h.2.2.1 ht), fun ht => ihy hk (h.2.2.2 ht)⟩
  | block id c ih => intro env σ K1 K2 hk h; exact ih (blockK_mono hk) h
  | loop c ih =>
    intro env σ K1 K2 hk h
    obtain ⟨Inv, ν, h0, hs⟩ := h
    exact ⟨Inv, ν, h0, fun e s hi => ih (thenK_mono hk fun _ _ h => h) (hs e s hi)⟩
  | exit id => intro env σ K1 K2 hk h; exact hk _ _ _ h
  | ret => intro env σ K1 K2 hk h; exact hk _ _ _ h
  | _ => intro env σ K1 K2 hk h; exact h.elim

/-- rounds with a state of any kind -/
theorem loop_of {c : Code} {τ : Type} (E : τ → Env) (S : τ → Sto) (Inv : τ → Prop) (ν : τ → Nat) (x0 : τ) (h0 : Inv x0) (hw : Weak n m env σ (E x0) (S x0))
    (hs : ∀ x, Inv x → evC P Gl n m c (E x) (S x) (thenK K fun e s => ∃ y, Inv y ∧ ν y < ν x ∧ Weak n m e s (E y) (S y))) :
    evC P Gl n m (.loop c) env σ K := by
  classical
  let μ : Env → Sto → Nat := fun e s => if h : ∃ k, ∃ x, Inv x ∧ e = E x ∧ s = S x ∧ ν x = k then Classical.choose (exists_least h) else 0
  have hμ : ∀ x, Inv x → (∃ y, Inv y ∧ E x = E y ∧ S x = S y ∧ ν y = μ (E x) (S x)) ∧ μ (E x) (S x) ≤ ν x := fun x hx => by
    have h : ∃ k, ∃ y, Inv y ∧ E x = E y ∧ S x = S y ∧ ν y = k := ⟨_, x, hx, rfl, rfl, rfl⟩
    have e : μ (E x) (S x) = Classical.choose (exists_least h) := by simp only [μ]; rw [dif_pos h]
    rw [e]
    have := Classical.choose_spec (exists_least h)
    exact ⟨this.1, this.2 _ ⟨x, hx, rfl, rfl, rfl⟩⟩
  refine ⟨fun e s => ∃ x, Inv x ∧ e = E x ∧ s = S x, μ, ⟨_, _, hw, x0, h0, rfl, rfl⟩, ?_⟩
  rintro e s ⟨x, hx, rfl, rfl⟩
  obtain ⟨⟨y, hy, e1, e2, e3⟩, _⟩ := hμ x hx
  rw [e1, e2]
  rw [e1, e2] at e3
  refine evC_mono _ (fun a b c h => ?_) (hs y hy)
  revert h
  refine thenK_mono (fun _ _ _ h => h) (fun e s h => ?_) a b c
  obtain ⟨z, hz, hlt, hw⟩ := h
  refine ⟨_, _, hw, ⟨z, hz, rfl, rfl⟩, ?_⟩
  have := (hμ z hz).2
  omega

/-- rounds counted: at the head of round k the state is the k-th -/
theorem for_of {c : Code} (N : Nat) (E : Nat → Env) (S : Nat → Sto) (Inv : Nat → Prop) (h0 : Inv 0) (hw : Weak n m env σ (E 0) (S 0))
    (hs : ∀ k, Inv k → k ≤ N → evC P Gl n m c (E k) (S k) (thenK K fun e s => k < N ∧ Inv (k + 1) ∧ Weak n m e s (E (k + 1)) (S (k + 1)))) :
    evC P Gl n m (.loop c) env σ K :=
  loop_of E S (fun k => Inv k ∧ k ≤ N) (fun k => N - k) 0 ⟨h0, Nat.zero_le _⟩ hw fun k hk => evC_mono _ (thenK_mono (fun _ _ _ h => h) fun _ _ h => ⟨k + 1, ⟨h.2.1, by omega⟩, by omega, h.2.2⟩) (hs k hk.1 hk.2)
end Go.AM
