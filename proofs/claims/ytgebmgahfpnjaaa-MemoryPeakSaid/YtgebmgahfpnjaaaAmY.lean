/-
  Calls that only read what they are handed; maps from integers to places.
-/
import Derived.Test.YtgebmgahfpnjaaaAmX
import Derived.Test.YtgebmgahfpnjaaaAmS4
set_option linter.unnecessarySimpa false
set_option linter.unusedSectionVars false
set_option linter.unusedSimpArgs false
set_option linter.unusedVariables false
namespace Go.AM
variable {P : Program} {Gl : Globs}

/-- a value as data, where it can be read so -/
def dataA (σ : Sto) (u : AV) : AV := if u.isD σ = true then .d (u.toD σ) else u
def refsD (σ : Sto) (u : AV) : List Nat := if u.isD σ = true then u.refs else []

theorem ACalls.data {f : FuncId} {args : List AV} {σ : Sto} {R : AV → Sto → Prop} (h : ACalls P Gl f (args.map (dataA σ)) (freezeL σ (args.flatMap (refsD σ))) R) : ACalls P Gl f args σ R := by
  intro w I μ vals hR hG hl hv
  obtain ⟨I', r1, r2, r3, r4, r5, r6, r7, r8⟩ := freezeL_spec hR (args.flatMap (refsD σ))
  have hm := h w I' μ vals r1 (hG.keep r2) (by simpa using hl) fun i v u h1 h2 => by
    rw [List.getElem?_map] at h2
    cases ha : args[i]? with
    | none => rw [ha] at h2; cases h2
    | some a =>
      rw [ha] at h2
      simp only [Option.map_some, Option.some.injEq] at h2
      subst h2
      have hk := (hv i v a h1 ha).keep r2
      unfold dataA
      split
      · rename_i hd
        refine .d _ _ ?_
        have := toD_rep' r1 hk (by rw [isD_congr (fun id => (r5 id).2)]; exact hd) (fun id hid => r4 id (List.mem_flatMap.2 ⟨a, List.mem_of_getElem? ha, by unfold refsD; rw [if_pos hd]; exact hid⟩) (refs_isArr hd id hid))
        rwa [toD_congr (fun id => (r5 id).1)] at this
      · exact hk
  refine hm.mono fun v w' ⟨r, σ', I'', μ', q1, q2, q3, q4⟩ => ⟨r, σ', I'', μ', q1, r2.trans (q2.mono (by rw [r3]; exact Nat.le_refl _)), q3, q4⟩

section
variable {n : Nat} {all : Array Oper} {rest : List Oper} {KK : Env → Sto → Prop} {env : Env} {σ : Sto} {f : FuncId} {as caps : List AV} {v : AV} {dst : Option Tmp} {g : Bool}
theorem callF_data (h : Pure P f ((as ++ caps).map (dataA σ)) v) (h2 : evOps P [] n all false rest (putE env dst v) (freezeL σ ((as ++ caps).flatMap (refsD σ))) KK) : callF P [] n all false dst rest (.fn f caps) as env σ KK :=
  callF_go (ACalls.data ((h _).mono fun r s ⟨e1, e2⟩ => by rw [e1, e2]; exact h2))
theorem callF_dataC (h : ACalls P [] f ((as ++ caps).map (dataA σ)) (freezeL σ ((as ++ caps).flatMap (refsD σ))) (fun r σ' => evOps P [] n all false rest (putE env dst r) σ' KK)) : callF P [] n all false dst rest (.fn f caps) as env σ KK :=
  callF_go (ACalls.data h)
end
/-! ### a call that is handed one array of the store -/
theorem y_backS1 {σ : Sto} {i : Nat} (hi : i < σ.length) (es : Nat) (xs : List D) : backS [i] σ [.arr es xs] = σ.set i (.arr es xs) := by
  apply List.ext_getElem
  · simp [backS]
  · intro j h1 h2
    simp only [backS, List.length_cons, List.length_nil, Nat.sub_self, Nat.add_zero, List.length_map, List.length_range] at h1
    simp only [backS, List.getElem_map, List.getElem_range]
    rw [List.getElem_set]
    by_cases e : i = j
    · subst e
      have : idxIn [i] i = some 0 := by simp [idxIn]
      rw [this, if_pos rfl]; rfl
    · have : idxIn [i] j = none := by simp [idxIn, e]
      rw [this, if_neg e]
      have hj : j < σ.length := by omega
      simp only [hj, if_true]
      unfold blkAt
      simp [hj]
theorem callF_at1 {n : Nat} {all : Array Oper} {rest : List Oper} {KK : Env → Sto → Prop} {env : Env} {σ : Sto} {f : FuncId} {as caps : List AV} {dst : Option Tmp} {Q : AV → Sto → Prop} {es : Nat} {xs : List D} (i : Nat) (hi : i < σ.length) (hb : blkAt σ i = .arr es xs)
    (h : ACalls P [] f ((as ++ caps).map (renV [i] σ)) [.arr es xs] Q)
    (h2 : ∀ r s, Q r s → evOps P [] n all false rest (putE env dst (back (backId [i] σ.length) r)) (backS [i] σ s) KK) : callF P [] n all false dst rest (.fn f caps) as env σ KK := by
  have e : renS [i] σ = [.arr es xs] := by simp [renS, hb, renB]
  refine callF_go ((ACalls.under [i] (by simp) (by simpa using hi) (by rw [e]; exact h)).mono fun r s hr => ?_)
  obtain ⟨r0, s0, h3, rfl, rfl⟩ := hr
  exact h2 _ _ h3
theorem y_back_osl (i N o k : Nat) : back (backId [i] N) (.osl 0 o k) = .osl i o k := rfl
theorem y_back_d (b : Nat → Nat) (x : D) : back b (.d x) = .d x := rfl
theorem y_back_tup0 (b : Nat → Nat) : back b (.tup []) = .tup [] := rfl
theorem y_bslOk (σ : Sto) (t : TypeId) (len : Nat) (parts : List (Nat × AV)) : bslOk P σ t len parts = (match telem P t with
  | some e => match tsz P e, dataZero P e, tzero P e with
    | some es, some _, some z => 0 < es ∧ z.cells.size = es ∧ 0 < len ∧ len * es ≤ 16777216 ∧ ∀ p ∈ parts, p.1 < len ∧ p.2.isD σ = true ∧ (p.2.toD σ).cells.length = es
    | _, _, _ => False
  | none => False) := by unfold bslOk; rfl
theorem y_bslX (σ : Sto) (t : TypeId) (len : Nat) (parts : List (Nat × AV)) : bslX P σ t len parts = (match telem P t with
  | some e => match dataZero P e with
    | some x => setParts (List.replicate len x) (parts.map fun p => (p.1, p.2.toD σ))
    | none => []
  | none => []) := by unfold bslX; rfl
theorem y_bslS (σ : Sto) (t : TypeId) (len : Nat) (parts : List (Nat × AV)) : bslS P σ t len parts = freezeL σ (parts.flatMap fun p => p.2.refs) ++ [.arr (apEs P t) (bslX P σ t len parts)] := rfl
theorem y_sp0 (xs : List D) : setParts xs [] = xs := rfl
theorem y_sp1 (xs : List D) (i : Nat) (x : D) (r : List (Nat × D)) : setParts xs ((i, x) :: r) = setParts (xs.set i x) r := rfl
theorem y_rep0 (x : D) : List.replicate 0 x = [] := rfl
theorem y_repS (n : Nat) (x : D) : List.replicate (n + 1) x = x :: List.replicate n x := rfl
theorem y_range2 {α : Type} (f : Nat → α) : List.map f (List.range 2) = [f 0, f 1] := rfl
theorem y_range3 {α : Type} (f : Nat → α) : List.map f (List.range 3) = [f 0, f 1, f 2] := rfl
theorem y_range4 {α : Type} (f : Nat → α) : List.map f (List.range 4) = [f 0, f 1, f 2, f 3] := rfl
theorem y_range5 {α : Type} (f : Nat → α) : List.map f (List.range 5) = [f 0, f 1, f 2, f 3, f 4] := rfl
theorem y_range6 {α : Type} (f : Nat → α) : List.map f (List.range 6) = [f 0, f 1, f 2, f 3, f 4, f 5] := rfl
theorem y_range7 {α : Type} (f : Nat → α) : List.map f (List.range 7) = [f 0, f 1, f 2, f 3, f 4, f 5, f 6] := rfl
theorem y_range8 {α : Type} (f : Nat → α) : List.map f (List.range 8) = [f 0, f 1, f 2, f 3, f 4, f 5, f 6, f 7] := rfl
theorem y_range9 {α : Type} (f : Nat → α) : List.map f (List.range 9) = [f 0, f 1, f 2, f 3, f 4, f 5, f 6, f 7, f 8] := rfl
theorem y_range10 {α : Type} (f : Nat → α) : List.map f (List.range 10) = [f 0, f 1, f 2, f 3, f 4, f 5, f 6, f 7, f 8, f 9] := rfl
theorem y_range11 {α : Type} (f : Nat → α) : List.map f (List.range 11) = [f 0, f 1, f 2, f 3, f 4, f 5, f 6, f 7, f 8, f 9, f 10] := rfl
theorem y_range12 {α : Type} (f : Nat → α) : List.map f (List.range 12) = [f 0, f 1, f 2, f 3, f 4, f 5, f 6, f 7, f 8, f 9, f 10, f 11] := rfl
theorem getD_set {α : Type} (l : List α) (i : Nat) (x d : α) (h : i < l.length) : (l.set i x).getD i d = x := by simp [h]
theorem take_all {α β : Type} (f : α → β) (l : List α) : (l.map f).take l.length = l.map f := List.take_of_length_le (by simp)
theorem callF_dataE {n : Nat} {all : Array Oper} {rest : List Oper} {KK : Env → Sto → Prop} {env : Env} {σ σ' : Sto} {f : FuncId} {as as' caps : List AV} {v : AV} {dst : Option Tmp} (h : Pure P f as' v) (e1 : (as ++ caps).map (dataA σ) = as') (e2 : freezeL σ ((as ++ caps).flatMap (refsD σ)) = σ')
    (h2 : evOps P [] n all false rest (putE env dst v) σ' KK) : callF P [] n all false dst rest (.fn f caps) as env σ KK := callF_data (by rw [e1]; exact h) (by rw [e2]; exact h2)
theorem y_dataA_d (x : D) (σ : Sto) : dataA σ (.d x) = .d x := rfl
theorem y_dataA_nils (σ : Sto) : dataA σ .nils = .d (.sl []) := rfl
theorem y_dataA_osl (i o k : Nat) (σ : Sto) (h : (blkAt σ i).isArr = true) : dataA σ (.osl i o k) = .d (.sl (((blkAt σ i).xs.drop o).take k)) := by simp [dataA, AV.isD, isD1, h, AV.toD, toD1]
theorem y_dataA_fn (f : FuncId) (c : List AV) (σ : Sto) : dataA σ (.fn f c) = .fn f c := rfl
theorem y_refsD_d (x : D) (σ : Sto) : refsD σ (.d x) = [] := rfl
theorem y_refsD_nils (σ : Sto) : refsD σ .nils = [] := rfl
theorem y_refsD_fn (f : FuncId) (c : List AV) (σ : Sto) : refsD σ (.fn f c) = [] := rfl
theorem y_refsD_osl (i o k : Nat) (σ : Sto) (h : (blkAt σ i).isArr = true) : refsD σ (.osl i o k) = [i] := by simp [refsD, AV.isD, isD1, h, AV.refs, ref1]

/-! ### maps from integers to places -/
def mapN (g : Int → Option Nat) : Key → Option AV
  | .i n => (g n).map fun i => .d (.int .i64 (i : Nat))
  | .s _ => none
def updN (g : Int → Option Nat) (n : Int) (v : Option Nat) : Int → Option Nat := fun m => if m = n then v else g m
theorem y_mapN0 : (fun _ => none) = mapN fun _ => none := by funext k; cases k <;> rfl
theorem y_mapN (g : Int → Option Nat) (n : Int) : mapN g (.i n) = (g n).map fun i => .d (.int .i64 (i : Nat)) := rfl
theorem y_mset (g : Int → Option Nat) (n : Int) (i : Nat) : mset (mapN g) (.i n) (.d (.int .i64 i)) = mapN (updN g n (some i)) := by
  funext k
  cases k with
  | i m =>
    unfold mset updN mapN
    by_cases e : m = n
    · subst e; simp
    · simp [e]
  | s l => simp [mset, mapN]
theorem y_mdel (g : Int → Option Nat) (n : Int) : mdel (mapN g) (.i n) = mapN (updN g n none) := by
  funext k
  cases k with
  | i m =>
    unfold mdel updN mapN
    by_cases e : m = n
    · subst e; simp
    · simp [e]
  | s l => simp [mdel, mapN]
theorem y_mapN_ren (g : Int → Option Nat) (ρ : List Nat) (σ : Sto) : (fun k => (mapN g k).map (renV ρ σ)) = mapN g := by
  funext k
  cases k with
  | i m =>
    unfold mapN
    simp only [Option.map_map]
    rfl
  | s l => rfl
theorem y_renS (ρ : List Nat) (σ : Sto) : renS ρ σ = ρ.map fun id => renB ρ σ (blkAt σ id) := rfl
theorem y_renB_arr (ρ : List Nat) (σ : Sto) (es : Nat) (xs : List D) : renB ρ σ (.arr es xs) = .arr es xs := rfl
theorem y_renB_frz (ρ : List Nat) (σ : Sto) (es : Nat) (xs : List D) : renB ρ σ (.frz es xs) = .frz es xs := rfl
theorem y_renB_dead (ρ : List Nat) (σ : Sto) : renB ρ σ .dead = .dead := rfl
theorem y_isNone {α : Type} : (none : Option α).isSome = false := rfl
theorem yRules : type_of% (And.intro @y_backS1 (And.intro @y_back_osl (And.intro @y_back_d (And.intro @y_back_tup0 (And.intro @y_bslOk (And.intro @y_bslX (And.intro @y_bslS (And.intro @y_sp0 (And.intro @y_sp1 (And.intro @y_rep0 (And.intro @y_repS (And.intro @y_range2 (And.intro @y_range3 (And.intro @y_range4 (And.intro @y_range5 (And.intro @y_range6 (And.intro @y_range7 (And.intro @y_range8 (And.intro @y_range9 (And.intro @y_range10 (And.intro @y_range11 (And.intro @y_range12 (And.intro @y_dataA_d (And.intro @y_dataA_nils (And.intro @y_dataA_fn (And.intro @y_refsD_d (And.intro @y_refsD_nils (And.intro @y_refsD_fn (And.intro @y_mapN (And.intro @y_mset (And.intro @y_mdel (And.intro @y_mapN_ren (And.intro @y_renS (And.intro @y_renB_arr (And.intro @y_renB_frz (And.intro @y_renB_dead (@y_isNone))))))))))))))))))))))))))))))))))))) := And.intro @y_backS1 (And.intro @y_back_osl (And.intro @y_back_d (And.intro @y_back_tup0 (And.intro @y_bslOk (And.intro @y_bslX (And.intro @y_bslS (And.intro @y_sp0 (And.intro @y_sp1 (And.intro @y_rep0 (And.intro @y_repS (And.intro @y_range2 (And.intro @y_range3 (And.intro @y_range4 (And.intro @y_range5 (And.intro @y_range6 (And.intro @y_range7 (And.intro @y_range8 (And.intro @y_range9 (And.intro @y_range10 (And.intro @y_range11 (And.intro @y_range12 (And.intro @y_dataA_d (And.intro @y_dataA_nils (And.intro @y_dataA_fn (And.intro @y_refsD_d (And.intro @y_refsD_nils (And.intro @y_refsD_fn (And.intro @y_mapN (And.intro @y_mset (And.intro @y_mdel (And.intro @y_mapN_ren (And.intro @y_renS (And.intro @y_renB_arr (And.intro @y_renB_frz (And.intro @y_renB_dead (@y_isNone))))))))))))))))))))))))))))))))))))
end Go.AM
