/- A part of the proof: an abstract machine over data, and lemmas; nothing of the statement. No condition beyond those stated. -/
import Derived.Test.YtfmbadfdbjhekaaDoorG3
import Derived.Carry
import Derived.ProofKit
import Derived.Lib.LaidTab
set_option linter.unusedVariables false
set_option linter.unusedSimpArgs false
set_option linter.unusedSectionVars false
set_option linter.unnecessarySimpa false

set_option linter.unusedVariables false
namespace Go.AM
variable {P : Program} {Gl : Globs}
def dataA (σ : Sto) (u : AV) : AV := if u.isD σ = true then .d (u.toD σ) else u
def refsD (σ : Sto) (u : AV) : List Nat := if u.isD σ = true then u.refs else []
theorem ACalls.data {f : FuncId} {args : List AV} {σ : Sto} {R : AV → Sto → Prop} (h : ACalls P Gl f (args.map (dataA σ)) (freezeL σ (args.flatMap (refsD σ))) R) : ACalls P Gl f args σ R := by
 intro w I μ vals hR hG hl hv
 obtain ⟨I', r1, r2, r3, r4, r5, r6, r7, r8⟩ := freezeL_spec hR (args.flatMap (refsD σ))
 have hm := h w I' μ vals r1 (hG.keep r2) (by simpa using hl) fun i v u h1 h2 => by
  rw [List.getElem?_map] at h2
  cases ha : args[i]? with
  | none => rw [ha] at h2; cases h2
  | some a =>
   rw [ha] at h2
   simp only [Option.map_some, Option.some.injEq] at h2
   subst h2
   have hk := (hv i v a h1 ha).keep r2
   unfold dataA
   split
   ·rename_i hd
    refine .d _ _ ?_
    have := toD_rep' r1 hk (by rw [isD_congr (fun id => (r5 id).2)]; exact hd) (fun id hid => r4 id (List.mem_flatMap.2 ⟨a, List.mem_of_getElem? ha, by unfold refsD; rw [if_pos hd]; exact hid⟩) (refs_isArr hd id hid))
    rwa [toD_congr (fun id => (r5 id).1)] at this
   ·exact hk
 refine hm.mono fun v w' ⟨r, σ', I'', μ', q1, q2, q3, q4⟩ => ⟨r, σ', I'', μ', q1, r2.trans (q2.mono (by rw [r3]; exact Nat.le_refl _)), q3, q4⟩
section
variable {n : Nat} {all : Array Oper} {rest : List Oper} {KK : Env → Sto → Prop} {env : Env} {σ : Sto} {f : FuncId} {as caps : List AV} {v : AV} {dst : Option Tmp} {g : Bool}
theorem callF_data (h : Pure P Gl f ((as ++ caps).map (dataA σ)) v) (h2 : evOps P Gl n all false rest (putE env dst v) (freezeL σ ((as ++ caps).flatMap (refsD σ))) KK) : callF P Gl n all false dst rest (.fn f caps) as env σ KK :=
 callF_go (ACalls.data ((h _).mono fun r s ⟨e1, e2⟩ => by rw [e1, e2]; exact h2))
end
theorem y_backS1 {σ : Sto} {i : Nat} (hi : i < σ.length) (es : Nat) (xs : List D) : backS [i] σ [.arr es xs] = σ.set i (.arr es xs) := by
 apply List.ext_getElem
 ·simp [backS]
 ·intro j h1 h2
  simp only [backS, List.length_cons, List.length_nil, Nat.sub_self, Nat.add_zero, List.length_map, List.length_range] at h1
  simp only [backS, List.getElem_map, List.getElem_range]
  rw [List.getElem_set]
  by_cases e : i = j
  ·subst e
   have : idxIn [i] i = some 0 := by simp [idxIn]
   rw [this, if_pos rfl]; rfl
  ·have : idxIn [i] j = none := by simp [idxIn, e]
   rw [this, if_neg e]
   have hj : j < σ.length := by omega
   simp only [hj, if_true]
   unfold blkAt
   simp [hj]
theorem y_back_osl (i N o k : Nat) : back (backId [i] N) (.osl 0 o k) = .osl i o k := rfl
theorem y_back_d (b : Nat → Nat) (x : D) : back b (.d x) = .d x := rfl
theorem y_back_tup0 (b : Nat → Nat) : back b (.tup []) = .tup [] := rfl
theorem y_bslOk (σ : Sto) (t : TypeId) (len : Nat) (parts : List (Nat × AV)) : bslOk P σ t len parts = (match telem P t with
 | some e => match tsz P e, dataZero P e, tzero P e with
  | some es, some _, some z => 0 < es ∧ z.cells.size = es ∧ 0 < len ∧ len * es ≤ 16777216 ∧ ∀ p ∈ parts, p.1 < len ∧ p.2.isD σ = true ∧ (p.2.toD σ).cells.length = es
  | _, _, _ => False
 | none => False) := by unfold bslOk; rfl
theorem y_bslX (σ : Sto) (t : TypeId) (len : Nat) (parts : List (Nat × AV)) : bslX P σ t len parts = (match telem P t with
 | some e => match dataZero P e with
  | some x => setParts (List.replicate len x) (parts.map fun p => (p.1, p.2.toD σ))
  | none => []
 | none => []) := by unfold bslX; rfl
theorem y_bslS (σ : Sto) (t : TypeId) (len : Nat) (parts : List (Nat × AV)) : bslS P σ t len parts = freezeL σ (parts.flatMap fun p => p.2.refs) ++ [.arr (apEs P t) (bslX P σ t len parts)] := rfl
theorem y_sp0 (xs : List D) : setParts xs [] = xs := rfl
theorem y_sp1 (xs : List D) (i : Nat) (x : D) (r : List (Nat × D)) : setParts xs ((i, x) :: r) = setParts (xs.set i x) r := rfl
theorem y_rep0 (x : D) : List.replicate 0 x = [] := rfl
theorem y_repS (n : Nat) (x : D) : List.replicate (n + 1) x = x :: List.replicate n x := rfl
theorem y_range2 {α : Type} (f : Nat → α) : List.map f (List.range 2) = [f 0, f 1] := rfl
theorem y_range3 {α : Type} (f : Nat → α) : List.map f (List.range 3) = [f 0, f 1, f 2] := rfl
theorem y_range4 {α : Type} (f : Nat → α) : List.map f (List.range 4) = [f 0, f 1, f 2, f 3] := rfl
theorem y_range5 {α : Type} (f : Nat → α) : List.map f (List.range 5) = [f 0, f 1, f 2, f 3, f 4] := rfl
theorem y_range6 {α : Type} (f : Nat → α) : List.map f (List.range 6) = [f 0, f 1, f 2, f 3, f 4, f 5] := rfl
theorem y_range7 {α : Type} (f : Nat → α) : List.map f (List.range 7) = [f 0, f 1, f 2, f 3, f 4, f 5, f 6] := rfl
theorem y_range8 {α : Type} (f : Nat → α) : List.map f (List.range 8) = [f 0, f 1, f 2, f 3, f 4, f 5, f 6, f 7] := rfl
theorem y_range9 {α : Type} (f : Nat → α) : List.map f (List.range 9) = [f 0, f 1, f 2, f 3, f 4, f 5, f 6, f 7, f 8] := rfl
theorem y_range10 {α : Type} (f : Nat → α) : List.map f (List.range 10) = [f 0, f 1, f 2, f 3, f 4, f 5, f 6, f 7, f 8, f 9] := rfl
theorem y_range11 {α : Type} (f : Nat → α) : List.map f (List.range 11) = [f 0, f 1, f 2, f 3, f 4, f 5, f 6, f 7, f 8, f 9, f 10] := rfl
theorem y_range12 {α : Type} (f : Nat → α) : List.map f (List.range 12) = [f 0, f 1, f 2, f 3, f 4, f 5, f 6, f 7, f 8, f 9, f 10, f 11] := rfl
theorem take_all {α β : Type} (f : α → β) (l : List α) : (l.map f).take l.length = l.map f := List.take_of_length_le (by simp)
theorem callF_dataE {n : Nat} {all : Array Oper} {rest : List Oper} {KK : Env → Sto → Prop} {env : Env} {σ σ' : Sto} {f : FuncId} {as as' caps : List AV} {v : AV} {dst : Option Tmp} (h : Pure P Gl f as' v) (e1 : (as ++ caps).map (dataA σ) = as') (e2 : freezeL σ ((as ++ caps).flatMap (refsD σ)) = σ')
  (h2 : evOps P Gl n all false rest (putE env dst v) σ' KK) : callF P Gl n all false dst rest (.fn f caps) as env σ KK := callF_data (by rw [e1]; exact h) (by rw [e2]; exact h2)
theorem y_dataA_d (x : D) (σ : Sto) : dataA σ (.d x) = .d x := rfl
theorem y_dataA_nils (σ : Sto) : dataA σ .nils = .d (.sl []) := rfl
theorem y_dataA_osl (i o k : Nat) (σ : Sto) (h : (blkAt σ i).isArr = true) : dataA σ (.osl i o k) = .d (.sl (((blkAt σ i).xs.drop o).take k)) := by simp [dataA, AV.isD, isD1, h, AV.toD, toD1]
theorem y_dataA_fn (f : FuncId) (c : List AV) (σ : Sto) : dataA σ (.fn f c) = .fn f c := rfl
theorem y_refsD_d (x : D) (σ : Sto) : refsD σ (.d x) = [] := rfl
theorem y_refsD_nils (σ : Sto) : refsD σ .nils = [] := rfl
theorem y_refsD_fn (f : FuncId) (c : List AV) (σ : Sto) : refsD σ (.fn f c) = [] := rfl
theorem y_refsD_osl (i o k : Nat) (σ : Sto) (h : (blkAt σ i).isArr = true) : refsD σ (.osl i o k) = [i] := by simp [refsD, AV.isD, isD1, h, AV.refs, ref1]
def mapN (g : Int → Option Nat) : Key → Option AV
 | .i n => (g n).map fun i => .d (.int .i64 (i : Nat))
 | .s _ => none
def updN (g : Int → Option Nat) (n : Int) (v : Option Nat) : Int → Option Nat := fun m => if m = n then v else g m
theorem y_mapN (g : Int → Option Nat) (n : Int) : mapN g (.i n) = (g n).map fun i => .d (.int .i64 (i : Nat)) := rfl
theorem y_mset (g : Int → Option Nat) (n : Int) (i : Nat) : mset (mapN g) (.i n) (.d (.int .i64 i)) = mapN (updN g n (some i)) := by
 funext k
 cases k with
 | i m =>
  unfold mset updN mapN
  by_cases e : m = n
  ·subst e; simp
  ·simp [e]
 | s l => simp [mset, mapN]
theorem y_mdel (g : Int → Option Nat) (n : Int) : mdel (mapN g) (.i n) = mapN (updN g n none) := by
 funext k
 cases k with
 | i m =>
  unfold mdel updN mapN
  by_cases e : m = n
  ·subst e; simp
  ·simp [e]
 | s l => simp [mdel, mapN]
theorem y_mapN_ren (g : Int → Option Nat) (ρ : List Nat) (σ : Sto) : (fun k => (mapN g k).map (renV ρ σ)) = mapN g := by
 funext k
 cases k with
 | i m =>
  unfold mapN
  simp only [Option.map_map]
  rfl
 | s l => rfl
theorem y_renS (ρ : List Nat) (σ : Sto) : renS ρ σ = ρ.map fun id => renB ρ σ (blkAt σ id) := rfl
theorem y_renB_arr (ρ : List Nat) (σ : Sto) (es : Nat) (xs : List D) : renB ρ σ (.arr es xs) = .arr es xs := rfl
theorem y_renB_frz (ρ : List Nat) (σ : Sto) (es : Nat) (xs : List D) : renB ρ σ (.frz es xs) = .frz es xs := rfl
theorem y_renB_dead (ρ : List Nat) (σ : Sto) : renB ρ σ .dead = .dead := rfl
theorem y_isNone {α : Type} : (none : Option α).isSome = false := rfl
theorem yRules : type_of% (And.intro @y_backS1 (And.intro @y_back_osl (And.intro @y_back_d (And.intro @y_back_tup0 (And.intro @y_bslOk (And.intro @y_bslX (And.intro @y_bslS (And.intro @y_sp0 (And.intro @y_sp1 (And.intro @y_rep0 (And.intro @y_repS (And.intro @y_range2 (And.intro @y_range3 (And.intro @y_range4 (And.intro @y_range5 (And.intro @y_range6 (And.intro @y_range7 (And.intro @y_range8 (And.intro @y_range9 (And.intro @y_range10 (And.intro @y_range11 (And.intro @y_range12 (And.intro @y_dataA_d (And.intro @y_dataA_nils (And.intro @y_dataA_fn (And.intro @y_refsD_d (And.intro @y_refsD_nils (And.intro @y_refsD_fn (And.intro @y_mapN (And.intro @y_mset (And.intro @y_mdel (And.intro @y_mapN_ren (And.intro @y_renS (And.intro @y_renB_arr (And.intro @y_renB_frz (And.intro @y_renB_dead (@y_isNone))))))))))))))))))))))))))))))))))))) := And.intro @y_backS1 (And.intro @y_back_osl (And.intro @y_back_d (And.intro @y_back_tup0 (And.intro @y_bslOk (And.intro @y_bslX (And.intro @y_bslS (And.intro @y_sp0 (And.intro @y_sp1 (And.intro @y_rep0 (And.intro @y_repS (And.intro @y_range2 (And.intro @y_range3 (And.intro @y_range4 (And.intro @y_range5 (And.intro @y_range6 (And.intro @y_range7 (And.intro @y_range8 (And.intro @y_range9 (And.intro @y_range10 (And.intro @y_range11 (And.intro @y_range12 (And.intro @y_dataA_d (And.intro @y_dataA_nils (And.intro @y_dataA_fn (And.intro @y_refsD_d (And.intro @y_refsD_nils (And.intro @y_refsD_fn (And.intro @y_mapN (And.intro @y_mset (And.intro @y_mdel (And.intro @y_mapN_ren (And.intro @y_renS (And.intro @y_renB_arr (And.intro @y_renB_frz (And.intro @y_renB_dead (@y_isNone))))))))))))))))))))))))))))))))))))
end Go.AM


set_option linter.unusedVariables false
set_option linter.unusedSimpArgs false
namespace Go.AM
variable {P : Program} {Gl : Globs}
def ArrOrFrz (es : Nat) (xs : List D) (B : Blk) : Prop := B = .arr es xs ∨ B = .frz es xs
theorem backS1 {σ : Sto} {i : Nat} (hi : i < σ.length) {es : Nat} {xs : List D} {B : Blk} (hB : ArrOrFrz es xs B) : backS [i] σ [B] = σ.set i B := by
 have hb : ∀ b, backB b B = B := fun b => by rcases hB with rfl | rfl <;> rfl
 apply List.ext_getElem
 ·simp [backS]
 ·intro j h1 h2
  simp only [backS, List.length_cons, List.length_nil, Nat.sub_self, Nat.add_zero, List.length_map, List.length_range] at h1
  simp only [backS, List.getElem_map, List.getElem_range]
  rw [List.getElem_set]
  by_cases e : i = j
  ·subst e
   have : idxIn [i] i = some 0 := by simp [idxIn]
   rw [this, if_pos rfl]
   exact hb _
  ·have : idxIn [i] j = none := by simp [idxIn, e]
   rw [this, if_neg e]
   have hj : j < σ.length := by omega
   simp only [hj, if_true]
   unfold blkAt
   simp [hj]
end Go.AM


set_option linter.unusedVariables false
set_option linter.unusedSimpArgs false
namespace Go.AM
variable {P : Program} {Gl : Globs}
inductive Rd (σ : Sto) : AV → D → Prop
 | d (x : D) : Rd σ (.d x) x
 | nils : Rd σ .nils (.sl [])
 | osl {i o k es : Nat} {xs : List D} (h : blkAt σ i = .frz es xs) {x : D} (e : x = .sl ((xs.drop o).take k)) : Rd σ (.osl i o k) x
inductive RdL (σ : Sto) : List AV → List D → Prop
 | nil : RdL σ [] []
 | cons {u : AV} {x : D} {r : List AV} {s : List D} (h : Rd σ u x) (t : RdL σ r s) : RdL σ (u :: r) (x :: s)
theorem ext_frz {σ s : Sto} (h : Ext σ s) {i es : Nat} {xs : List D} (hb : blkAt σ i = .frz es xs) : blkAt s i = .frz es xs := by
 rcases h.2 i with h1 | h1 | h1
 ·rw [hb] at h1; cases h1
 ·rw [h1, hb]
 ·rw [h1, hb]; rfl
theorem freeze_frz {s : Sto} {i es : Nat} {xs : List D} (hb : blkAt s i = .frz es xs) : freeze s i = s := by
 have hil : i < s.length := by
  rcases Nat.lt_or_ge i s.length with h' | h'
  ·exact h'
  ·unfold blkAt at hb; rw [List.getD_eq_getElem?_getD, List.getElem?_eq_none h'] at hb; cases hb
 unfold freeze
 rw [hb]
 apply List.ext_getElem
 ·simp
 ·intro j h1 h2
  rw [List.getElem_set]
  split
  ·subst_vars
   unfold blkAt at hb
   simp [hil] at hb
   rw [hb]; rfl
  ·rfl
theorem RdL.spec {σ s : Sto} (hs : Ext σ s) {as : List AV} {xs : List D} (h : RdL σ as xs) : as.map (dataA s) = xs.map AV.d ∧ ∀ id ∈ as.flatMap (refsD s), ∃ es ys, blkAt s id = .frz es ys := by
 induction h with
 | nil => exact ⟨rfl, fun _ h => by simp at h⟩
 | cons h t ih =>
  obtain ⟨h1, h2⟩ := ih
  cases h with
  | d x => exact ⟨by rw [List.map_cons, h1, y_dataA_d]; rfl, fun id hid => h2 id (by simpa [refsD, AV.isD, isD1, AV.refs, ref1] using hid)⟩
  | nils => exact ⟨by rw [List.map_cons, h1, y_dataA_nils]; rfl, fun id hid => h2 id (by simpa [refsD, AV.isD, isD1, AV.refs, ref1] using hid)⟩
  | osl hb e =>
   have hb' := ext_frz hs hb
   have ha := (congrArg Blk.isArr hb').trans (show _ = true from rfl)
   refine ⟨by rw [List.map_cons, h1, y_dataA_osl _ _ _ _ ha, hb', e]; rfl, fun id hid => ?_⟩
   rw [List.flatMap_cons, y_refsD_osl _ _ _ _ ha, List.mem_append] at hid
   rcases hid with hid | hid
   ·simp only [List.mem_cons, List.not_mem_nil, or_false] at hid
    subst hid
    exact ⟨_, _, hb'⟩
   ·exact h2 id hid
theorem freezeL_frz {s : Sto} : ∀ {l : List Nat}, (∀ id ∈ l, ∃ es ys, blkAt s id = .frz es ys) → freezeL s l = s
 | [], _ => rfl
 | i :: l, h => by
  obtain ⟨es, ys, hb⟩ := h i List.mem_cons_self
  rw [r_freezeL_cons, freeze_frz hb]
  exact freezeL_frz fun id hid => h id (List.mem_cons_of_mem _ hid)
theorem pure_rd {σ s : Sto} (hs : Ext σ s) {f : FuncId} {as : List AV} {xs : List D} {v : AV} (hr : RdL σ as xs) (h : Pure P Gl f (xs.map AV.d) v) : ACalls P Gl f as s (fun r s' => r = v ∧ s' = s) := by
 obtain ⟨h1, h2⟩ := hr.spec hs
 refine ACalls.data ?_
 rw [h1, freezeL_frz h2]
 exact h s
section
variable {n : Nat} {all : Array Oper} {draw : Bool} {rest : List Oper} {KK : Env → Sto → Prop} {env : Env} {σ : Sto} {f : FuncId} {as : List AV} {xs : List D} {v : AV} {dst : Option Tmp} {g : Bool}
theorem callG_rd (h : g = true → Pure P Gl f (xs.map AV.d) v) (hr : RdL σ as xs) (h2 : evOps P Gl n all draw rest (putE env dst (.iff g v)) σ KK) : callG P Gl n all draw dst rest g (.fn f []) as env σ KK :=
 ⟨v, fun hg s hs => by rw [List.append_nil]; exact pure_rd hs hr (h hg), h2⟩
end
end Go.AM


namespace Go.AM
section
variable {α : Type} [Inhabited α] {lt : α → α → Bool}
end
section
variable {α : Type} [Inhabited α]
def keyLt (key : α → Int) (a b : α) : Bool := decide (key a < key b)
variable {key : α → Int}
end
end Go.AM


set_option linter.unusedVariables false
set_option linter.unusedSimpArgs false
namespace Go.AM
variable {P : Program} {Gl : Globs}
def Blk.still : Blk → Prop
 | .box _ (.d _) => True
 | .map _ f => ∀ k v, f k = some v → ∃ d, v = .d d
 | _ => False
theorem map_still {g : AV → AV} (hg : ∀ d, g (.d d) = .d d) {f : Key → Option AV} (h : ∀ k v, f k = some v → ∃ d, v = .d d) : (fun k => (f k).map g) = f := by
 funext k
 cases e : f k with
 | none => rfl
 | some v => obtain ⟨d, rfl⟩ := h k v e; simp [hg]
theorem still_ren {B : Blk} (h : B.still) (ρ : List Nat) (σ : Sto) : renB ρ σ B = B := by
 cases B with
 | box n v => cases v <;> simp_all [Blk.still, renB, renV, ren0]
 | map ik f => simp only [renB]; rw [map_still (fun d => by simp [renV, ren0]) h]
 | _ => exact h.elim
theorem still_back {B : Blk} (h : B.still) (b : Nat → Nat) : backB b B = B := by
 cases B with
 | box n v => cases v <;> simp_all [Blk.still, backB, back]
 | map ik f => simp only [backB]; rw [map_still (fun d => by simp [back]) h]
 | _ => exact h.elim
theorem ext_at1 {σ : Sto} {f : FuncId} {as as' : List AV} {es : Nat} {xs : List D} {v : D} (i : Nat)
  (h : ∀ B, ArrOrFrz es xs B → ACalls P Gl f as' [B] (fun r s => r = .d v ∧ s = [B])) (e : ∀ s, as.map (renV [i] s) = as') (hb : blkAt σ i = .arr es xs) : ∀ s, Ext σ s → ACalls P Gl f as s (fun r σ' => r = .d v ∧ σ' = s) := fun s hs => by
 have hB : ArrOrFrz es xs (blkAt s i) := by
  rcases hs.2 i with h1 | h1 | h1
  ·rw [hb] at h1; cases h1
  ·rw [hb] at h1; exact .inl h1
  ·rw [hb] at h1; exact .inr h1
 have hil : i < s.length := by
  rcases Nat.lt_or_ge i s.length with h' | h'
  ·exact h'
  ·exfalso
   have : blkAt s i = .dead := by unfold blkAt; rw [List.getD_eq_getElem?_getD, List.getElem?_eq_none h']; rfl
   rcases hB with q | q <;> rw [this] at q <;> cases q
 have er : renS [i] s = [blkAt s i] := by
  have : ∀ B, ArrOrFrz es xs B → renB [i] s B = B := fun B hB => by rcases hB with rfl | rfl <;> rfl
  simp only [renS, List.map_cons, List.map_nil]; rw [this _ hB]
 refine (ACalls.under (P := P) (Gl := Gl) [i] (by simp) (by simpa using hil) (by rw [er, e]; exact h _ hB)).mono fun r s' hr => ?_
 obtain ⟨r0, s0, ⟨rfl, rfl⟩, rfl, rfl⟩ := hr
 refine ⟨rfl, ?_⟩
 rw [backS1 hil hB]
 apply List.ext_getElem
 ·simp
 ·intro j h1 h2
  rw [List.getElem_set]
  split
  ·subst_vars; unfold blkAt; simp [hil]
  ·rfl
theorem callG_at1 {n : Nat} {all : Array Oper} {draw : Bool} {rest : List Oper} {KK : Env → Sto → Prop} {env : Env} {σ : Sto} {f : FuncId} {as as' caps : List AV} {dst : Option Tmp} {es : Nat} {xs : List D} {v : D} {g : Bool} (i : Nat)
  (h : ∀ B, ArrOrFrz es xs B → ACalls P Gl f as' [B] (fun r s => r = .d v ∧ s = [B])) (e : ∀ s, (as ++ caps).map (renV [i] s) = as') (hb : blkAt σ i = .arr es xs)
  (h2 : evOps P Gl n all draw rest (putE env dst (.iff g (.d v))) σ KK) : callG P Gl n all draw dst rest g (.fn f caps) as env σ KK :=
 ⟨.d v, fun _ => ext_at1 (Gl := Gl) i h e hb, h2⟩
theorem weakR_tupD {m : Nat} {σ : Sto} {u : AV} {y : D} (hd : u.isD σ = true) : WeakR m (.tup [u, .d y]) σ (.tup [.d (u.toD σ), .d y]) (freezeL σ u.refs) := fun w I μ v h1 h2 h3 => by
 cases h2 with
 | tup vs cs hl h =>
  match vs, hl with
  | [v0, v1], _ =>
   have a0 := h 0 v0 u rfl rfl
   have a1 := h 1 v1 (.d y) rfl rfl
   obtain ⟨I', b1, b2, b3, _⟩ := toD_rep h1 a0 hd
   refine ⟨I', μ, b1, .tup [v0, v1] _ rfl ?_, b2.mono h3⟩
   intro i v x hv hx
   match i with
   | 0 => simp at hv hx; subst hv; subst hx; exact .d _ _ b3
   | 1 => simp at hv hx; subst hv; subst hx; exact a1.keep b2
   | i + 2 => simp at hv
theorem ret_tdata {σ : Sto} {u : AV} {x y : D} (hd : u.isD σ = true) (hx : u.toD σ = x) : WeakR 0 (.tup [u, .d y]) σ (.tup [.d x, .d y]) [] := by
 subst hx; exact (weakR_tupD hd).trans ret_t2
end Go.AM


set_option linter.unusedVariables false
set_option linter.unusedSimpArgs false
namespace Go.AM
variable {P : Program} {Gl : Globs} {n m : Nat} {all : Array Oper} {env : Env} {σ : Sto}
def updB (L : Nat → Bool) (i j : Nat) : Bool := if j = i then true else L j
def predsL (L : Nat → Bool) : List Edge → Prop
 | [] => True
 | e :: r => (Region.binds .any e = true → L e.on = true) ∧ predsL L r
theorem predsL_of {L : Nat → Bool} : ∀ {l : List Edge}, (∀ e ∈ l, Region.binds .any e = true → L e.on = true) → predsL L l
 | [], _ => trivial
 | e :: r, h => ⟨h e List.mem_cons_self, predsL_of fun x hx => h x (List.mem_cons_of_mem _ hx)⟩
def Closed (all : Array Oper) (L : Nat → Bool) : Prop := ∀ j o, all[j]? = some o → L j = true → predsL L o.after.toList
theorem predsL_up {L M : Nat → Bool} (h : ∀ j, L j = true → M j = true) : ∀ {l : List Edge}, predsL L l → predsL M l
 | [], _ => trivial
 | e :: r, hp => ⟨fun hb => h _ (hp.1 hb), predsL_up h hp.2⟩
theorem Closed.upd {L : Nat → Bool} (h : Closed all L) {i : Nat} {o : Oper} (ho : all[i]? = some o) (hp : predsL L o.after.toList) : Closed all (updB L i) := fun j o' ho' hj => by
 have up : ∀ k, L k = true → updB L i k = true := fun k hk => by unfold updB; split <;> first | rfl | exact hk
 unfold updB at hj
 split at hj
 ·rename_i e
  subst e
  rw [ho] at ho'; cases ho'
  exact predsL_up up hp
 ·exact predsL_up up (h j o' ho' hj)
theorem nope {a b : Bool} (hb : b = false) (h : a = true → b = true) : a = false := by
 cases a with
 | false => rfl
 | true => rw [h rfl] at hb; cases hb
theorem predsL_on {L : Nat → Bool} : ∀ {l : List Edge}, predsL L l → ∀ j, (l.any fun e => (e.on == j) && Region.binds .any e) = true → L j = true
 | [], _, j, hb => by simp at hb
 | e :: r, h, j, hb => by
  rw [List.any_cons, Bool.or_eq_true] at hb
  rcases hb with hb | hb
  ·simp only [Bool.and_eq_true, beq_iff_eq] at hb
   rw [← hb.1]; exact h.1 hb.2
  ·exact predsL_on h.2 j hb
def stepsL (P : Program) (Gl : Globs) (n m : Nat) (all : Array Oper) (E : (Nat → Bool) → Env) (S : (Nat → Bool) → Sto) : Nat → List Oper → Prop
 | _, [] => True
 | i, o :: r => (∀ L : Nat → Bool, Closed all L → L i = false → predsL L o.after.toList → evOps P Gl n all false [o] (E L) (S L) fun e' s' => Weak n m e' s' (E (updB L i)) (S (updB L i))) ∧ stepsL P Gl n m all E S (i + 1) r
theorem stepsL_at {E : (Nat → Bool) → Env} {S : (Nat → Bool) → Sto} : ∀ {l : List Oper} {k i : Nat} {o : Oper}, stepsL P Gl n m all E S k l → l[i]? = some o →
  ∀ L : Nat → Bool, Closed all L → L (k + i) = false → predsL L o.after.toList → evOps P Gl n all false [o] (E L) (S L) fun e' s' => Weak n m e' s' (E (updB L (k + i))) (S (updB L (k + i)))
 | [], k, i, o, _, h => by simp at h
 | x :: r, k, 0, o, hs, h => by
  simp only [List.getElem?_cons_zero, Option.some.injEq] at h
  subst h
  exact hs.1
 | x :: r, k, i + 1, o, hs, h => by
  simp only [List.getElem?_cons_succ] at h
  have := stepsL_at hs.2 h
  rwa [show k + 1 + i = k + (i + 1) by omega] at this
def textB (all : Array Oper) : Bool := (List.range all.size).all fun i => match all[i]? with | some o => o.after.toList.all fun e => !Region.binds .any e || decide (e.on < i) | none => true
theorem textB_text (h : textB all = true) {i : Nat} {o : Oper} (ho : all[i]? = some o) : ∀ e ∈ o.after.toList, Region.binds .any e = true → e.on < i := by
 simp only [textB, List.all_eq_true, List.mem_range] at h
 have hi : i < all.size := by
  rcases Nat.lt_or_ge i all.size with h' | h'
  ·exact h'
  ·rw [Array.getElem?_eq_none h'] at ho; cases ho
 intro e he hb
 have := h i hi
 rw [ho] at this
 simp only [List.all_eq_true] at this
 have := this e he
 simpa [hb] using this
theorem evFree_can (E : (Nat → Bool) → Env) (S : (Nat → Bool) → Sto) {K : Env → Sto → Prop} (ht : textB all = true) (h0 : Weak n m env σ (E fun i => decide (all.size ≤ i)) (S fun i => decide (all.size ≤ i)))
  (hs : stepsL P Gl n m all E S 0 all.toList) (hk : K (E fun _ => true) (S fun _ => true)) : evFree P Gl n m all env σ K := by
 refine ⟨fun listed e s => e = E (fun i => listed.getD i true) ∧ s = S (fun i => listed.getD i true) ∧ Closed all (fun i => listed.getD i true), ⟨_, _, h0, ?_⟩, fun listed e s hJ hsz hrd => ?_, fun listed e s i hJ hsz hi o ho => ?_⟩
 ·have : (fun i => (Array.replicate all.size false).getD i true) = fun i => decide (all.size ≤ i) := by
   funext i
   rcases Nat.lt_or_ge i all.size with h | h
   ·have : ¬ all.size ≤ i := by omega
    simp [h, this]
   ·simp [h, Nat.not_lt.2 h]
  refine ⟨congrArg E this.symm, congrArg S this.symm, ?_⟩
  rw [this]
  intro j o ho hj
  have hj := of_decide_eq_true hj
  rw [Array.getElem?_eq_none hj] at ho; cases ho
 ·obtain ⟨rfl, rfl, _⟩ := hJ
  have hall : ∀ i, listed.getD i true = true := fun i => by
   induction i using Nat.strongRecOn with
   | _ i ih =>
    rcases Nat.lt_or_ge i all.size with hi | hi
    ·cases hl : listed.getD i true with
     | true => rfl
     | false =>
      exfalso
      have : i ∈ Region.ready .any all listed := mem_ready.2 ⟨hi, hl, all[i], Array.getElem?_eq_getElem hi, fun e he hb => by
       have hlt := textB_text ht (Array.getElem?_eq_getElem hi) e he hb
       rw [getD_tf (by omega)]
       exact ih _ hlt⟩
      rw [hrd] at this; cases this
    ·simp [hsz, Nat.not_lt.2 hi]
  have : (fun i => listed.getD i true) = fun _ => true := funext hall
  rw [this]; exact hk
 ·obtain ⟨rfl, rfl, hcl⟩ := hJ
  obtain ⟨g1, g2, o', g3, g4⟩ := mem_ready.1 hi
  rw [ho] at g3; cases g3
  have hb := fun e he hb => textB_text ht ho e he hb
  have hpr : predsL (fun i => listed.getD i true) o.after.toList := predsL_of fun e he hbb => by
   have h1 := g4 e he hbb
   have := hb e he hbb
   rwa [getD_tf (by omega)] at h1
  have := stepsL_at (i := i) (o := o) hs (by simpa using ho) (fun i => listed.getD i true) hcl (by simpa using g2) hpr
  have eu : (fun j => (listed.setIfInBounds i true).getD j true) = updB (fun i => listed.getD i true) (0 + i) := by
   funext j
   rw [bitD_set (by omega), Nat.zero_add]
   rfl
  refine evOps_mono (fun e' s' h => ?_) _ _ _ this
  refine ⟨_, _, h, congrArg E eu.symm, congrArg S eu.symm, ?_⟩
  rw [eu]
  have := hcl.upd ho hpr
  rwa [Nat.zero_add]
def gCall (P : Program) (Gl : Globs) (n : Nat) (all : Array Oper) (o : Oper) (env : Env) (σ : Sto) (K : Env → Sto → Prop) : Prop :=
 ∃ j b, o.guard = some (j, b) ∧ dstIn n o.dst = true ∧ slotBool (gSlot all env j) = true ∧ slotTest (gSlot all env j) b = true ∧ gdOk Gl env true o.op ∧ evCallOp P Gl env σ o.op (fun r σ' => K (putE env o.dst (.iff true r)) σ')
theorem gCall_sound {w : World} {I : Im} {μ : Pos} {a : Act} {Q : Exit → Act → World → Prop} {o : Oper} {i : Nat} {Kw : Act → World → Prop} {K : Env → Sto → Prop} (hR : Rel w I μ σ) (hG : GlOk Gl w I) (hE : RelEnv n w I μ σ env a) (hi : all[i]? = some o) (hs : gCall P Gl n all o env σ K)
  (hn : ∀ env' σ' a' w' I' μ', K env' σ' → Rel w' I' μ' σ' → GlOk Gl w' I' → RelEnv n w' I' μ' σ' env' a' → Keep σ.length w I μ σ w' I' μ' σ' → Kw a' w') : wpOp P all Q i Kw a w := by
 obtain ⟨j, b, hgd, hd, hs1, hs2, hg, h1⟩ := hs
 unfold wpOp
 rw [hi]
 simp only
 have hw := wanted_slot hE (all := all) hgd hs1
 rw [hs2] at hw
 rw [if_pos hw]
 left
 refine Oper.wp_of_call (call_goes hR hG hE hg h1) fun u w' ⟨r, s', I', μ', q1, q2, q3, q4⟩ => ?_
 exact hn _ _ _ _ _ _ q4 q1 (hG.keep q2) ((hE.keep q2).putE hd (.iff true _ _ (fun _ => q3) (fun h => by cases h))) q2
def stepsG (P : Program) (Gl : Globs) (n m : Nat) (all : Array Oper) (E : (Nat → Bool) → Env) (S : (Nat → Bool) → Sto) : Nat → List Oper → Prop
 | _, [] => True
 | i, o :: r => (∀ L : Nat → Bool, Closed all L → L i = false → predsL L o.after.toList →
   (evOps P Gl n all false [o] (E L) (S L) fun e' s' => Weak n m e' s' (E (updB L i)) (S (updB L i))) ∨ gCall P Gl n all o (E L) (S L) fun e' s' => Weak n m e' s' (E (updB L i)) (S (updB L i))) ∧ stepsG P Gl n m all E S (i + 1) r
theorem stepsG_at {E : (Nat → Bool) → Env} {S : (Nat → Bool) → Sto} : ∀ {l : List Oper} {k i : Nat} {o : Oper}, stepsG P Gl n m all E S k l → l[i]? = some o →
  ∀ L : Nat → Bool, Closed all L → L (k + i) = false → predsL L o.after.toList → (evOps P Gl n all false [o] (E L) (S L) fun e' s' => Weak n m e' s' (E (updB L (k + i))) (S (updB L (k + i)))) ∨ gCall P Gl n all o (E L) (S L) fun e' s' => Weak n m e' s' (E (updB L (k + i))) (S (updB L (k + i)))
 | [], k, i, o, _, h => by simp at h
 | x :: r, k, 0, o, hs, h => by
  simp only [List.getElem?_cons_zero, Option.some.injEq] at h
  subst h
  exact hs.1
 | x :: r, k, i + 1, o, hs, h => by
  simp only [List.getElem?_cons_succ] at h
  have := stepsG_at hs.2 h
  rwa [show k + 1 + i = k + (i + 1) by omega] at this
theorem rep_get (N i : Nat) : (Array.replicate N false).getD i true = decide (N ≤ i) := by
 rcases Nat.lt_or_ge i N with h | h
 ·have : ¬ N ≤ i := by omega
  simp [h, this]
 ·simp [h, Nat.not_lt.2 h]
theorem freeG_sound (E : (Nat → Bool) → Env) (S : (Nat → Bool) → Sto) {K : Env → Sto → Prop} {Q : Exit → Act → World → Prop} (ht : textB all = true) (hs : stepsG P Gl n m all E S 0 all.toList) (hk : K (E fun _ => true) (S fun _ => true)) :
  ∀ (fuel : Nat) (listed : Array Bool) (w : World) (I : Im) (μ : Pos) (a : Act), listed.size = all.size → (remL all listed).length ≤ fuel → Closed all (fun i => listed.getD i true) →
  Rel w I μ (S fun i => listed.getD i true) → GlOk Gl w I → RelEnv n w I μ (S fun i => listed.getD i true) (E fun i => listed.getD i true) a → m ≤ (S fun i => listed.getD i true).length →
  (∀ w' I' μ' a', Rel w' I' μ' (S fun _ => true) → GlOk Gl w' I' → RelEnv n w' I' μ' (S fun _ => true) (E fun _ => true) a' → Keep m w I μ (S fun i => listed.getD i true) w' I' μ' (S fun _ => true) → Q .normal a' w') → wpAny P .any all Q fuel listed a w := by
 have hall : ∀ listed : Array Bool, listed.size = all.size → Region.ready .any all listed = [] → (fun i => listed.getD i true) = fun _ => true := fun listed hsz hrd => by
  funext i
  induction i using Nat.strongRecOn with
  | _ i ih =>
   rcases Nat.lt_or_ge i all.size with hi | hi
   ·cases hl : listed.getD i true with
    | true => rfl
    | false =>
     exfalso
     have : i ∈ Region.ready .any all listed := mem_ready.2 ⟨hi, hl, all[i], Array.getElem?_eq_getElem hi, fun e he hb => by
      have hlt := textB_text ht (Array.getElem?_eq_getElem hi) e he hb
      rw [getD_tf (by omega)]
      exact ih _ hlt⟩
     rw [hrd] at this; cases this
   ·simp [hsz, Nat.not_lt.2 hi]
 intro fuel
 induction fuel with
 | zero =>
  intro listed w I μ a hsz hlen hcl hR hG hE hm hq
  have hnil : remL all listed = [] := List.eq_nil_of_length_eq_zero (by omega)
  have hrd : Region.ready .any all listed = [] := by
   rw [List.eq_nil_iff_forall_not_mem]
   intro i hi
   obtain ⟨g1, g2, _⟩ := mem_ready.1 hi
   have : i ∈ remL all listed := List.mem_filter.2 ⟨List.mem_range.2 g1, by rw [g2]; rfl⟩
   rw [hnil] at this; cases this
  rw [hall listed hsz hrd] at hR hE hm hq
  exact ⟨hrd, hq w I μ a hR hG hE (Keep.refl _ _ _ _ hm)⟩
 | succ fuel ih =>
  intro listed w I μ a hsz hlen hcl hR hG hE hm hq
  refine ⟨fun hrd => ?_, fun i hi => ?_⟩
  ·rw [hall listed hsz hrd] at hR hE hm hq
   exact hq w I μ a hR hG hE (Keep.refl _ _ _ _ hm)
  obtain ⟨g1, g2, o, g3, g4⟩ := mem_ready.1 hi
  have hfuel : (remL all (listed.setIfInBounds i true)).length ≤ fuel := by
   obtain ⟨pre, post, e1, e2, _⟩ := remL_split hsz g1 g2
   rw [e1] at hlen; rw [e2]; simp at hlen ⊢; omega
  have hb := fun e he hb => textB_text ht g3 e he hb
  have hpr : predsL (fun i => listed.getD i true) o.after.toList := predsL_of fun e he hbb => by
   have h1 := g4 e he hbb
   have := hb e he hbb
   rwa [getD_tf (by omega)] at h1
  have eu : (fun j => (listed.setIfInBounds i true).getD j true) = updB (fun i => listed.getD i true) (0 + i) := by
   funext j
   rw [bitD_set (by omega), Nat.zero_add]
   rfl
  have hcl2 : Closed all (fun j => (listed.setIfInBounds i true).getD j true) := by
   rw [eu]
   have := hcl.upd g3 hpr
   rwa [Nat.zero_add]
  have step : ∀ env' σ' a' w' I' μ', Weak n m env' σ' (E (updB (fun i => listed.getD i true) (0 + i))) (S (updB (fun i => listed.getD i true) (0 + i))) → Rel w' I' μ' σ' → GlOk Gl w' I' → RelEnv n w' I' μ' σ' env' a' → Keep (S fun i => listed.getD i true).length w I μ (S fun i => listed.getD i true) w' I' μ' σ' →
    wpAny P .any all Q fuel (listed.setIfInBounds i true) a' w' := fun env' σ' a' w' I' μ' hw k1 k2 k3 k4 => by
   obtain ⟨I2, μ2, q1, q2, q3⟩ := hw w' I' μ' a' k1 k3 (Nat.le_trans hm k4.len)
   rw [← eu] at q1 q2 q3
   exact ih _ w' I2 μ2 a' (by simpa using hsz) hfuel hcl2 q1 (k2.keep q3) q2 q3.len fun w3 I3 μ3 a3 r1 r2 r3 r4 => hq w3 I3 μ3 a3 r1 r2 r3 ((k4.mono hm).trans (q3.trans r4))
  rcases stepsG_at (i := i) (o := o) hs (by simpa using g3) (fun i => listed.getD i true) hcl (by simpa using g2) hpr with h1 | h1
  ·exact direct_sound hR hG hE g3 (direct_free h1) step
  ·exact gCall_sound hR hG hE g3 h1 step
theorem awp_free (hP : P.follows .mixedOrders = true) {id : Nat} {l : List Oper} {K : AExit → Env → Sto → Prop} (E : (Nat → Bool) → Env) (S : (Nat → Bool) → Sto) (ht : textB l.toArray = true) (h0 : Weak n m env σ (E fun i => decide (l.toArray.size ≤ i)) (S fun i => decide (l.toArray.size ≤ i)))
  (hs : stepsG P Gl n m l.toArray E S 0 l) (hk : K .normal (E fun _ => true) (S fun _ => true)) : AWp P Gl n m (.region id l.toArray true) env σ K := by
 intro w I μ a h1 h2 h3 h4
 refine wp_region_any hP ?_
 have hm := SameMem.drew w
 have hk2 := hm.keep (I := I) (μ := μ) (σ := σ)
 have hE2 := h3.keep hk2
 obtain ⟨I0, μ0, a1, a2, a3⟩ := h0 _ I μ a (hm.rel h1) hE2 h4
 have hst : (fun i => (Array.replicate l.toArray.size false).getD i true) = fun i => decide (l.toArray.size ≤ i) := by
  funext i
  exact rep_get _ _
 refine freeG_sound (m := m) (K := K .normal) E S ht (by simpa using hs) hk l.toArray.size (Array.replicate l.toArray.size false) _ I0 μ0 a (by simp) ?_ ?_ (by rw [hst]; exact a1) ((h2.keep hk2).keep a3) (by rw [hst]; exact a2) (by rw [hst]; exact a3.len) fun w' I' μ' a' r1 r2 r3 r4 => ?_
 ·unfold remL
  exact Nat.le_trans (List.length_filter_le _ _) (by simp)
 ·rw [hst]
  intro j o ho hj
  have hj := of_decide_eq_true hj
  rw [Array.getElem?_eq_none hj] at ho; cases ho
 ·rw [hst] at r4
  exact ⟨.normal, _, _, I', μ', trivial, r1, r2, r3, (hk2.mono h4).trans (a3.trans r4), hk⟩
def onB (b : Bool) (B : Blk) : Blk := if b = true then B else .dead
def onV (b : Bool) (v : AV) : AV := if b = true then v else .undef
theorem onB_t (B : Blk) : onB true B = B := rfl
theorem onB_f (B : Blk) : onB false B = .dead := rfl
theorem onV_t (v : AV) : onV true v = v := rfl
theorem onV_f (v : AV) : onV false v = .undef := rfl
theorem renV_onV (ρ : List Nat) (b : Bool) (v : AV) : renV ρ σ (onV b v) = onV b (renV ρ σ v) := by cases b <;> rfl
theorem renB_onB (ρ : List Nat) (b : Bool) (B : Blk) : renB ρ σ (onB b B) = onB b (renB ρ σ B) := by cases b <;> rfl
theorem md_any : (Region.Mode.any == Region.Mode.text) = false := rfl
theorem ren_ok2 {w : World} {I : Im} {μ : Pos} (hR : Rel w I μ σ) {ρ : List Nat} (hm : ∀ j, j < m → ∃ id, ρ[j]? = some id ∧ (id = j ∨ σ.length ≤ id)) (hnd : ρ.Nodup) : Rel w I (renPos ρ μ) (renS ρ σ) ∧ Keep m w I μ σ w I (renPos ρ μ) (renS ρ σ) := by
 obtain ⟨h1, h2⟩ := ren_ok (m := 0) hR (ρ := ρ) rfl hnd
 refine ⟨h1, ⟨rfl, rfl, rfl, Nat.le_refl _, fun _ h => h, fun _ h => h, fun _ h => .inl h, fun _ _ => rfl, fun _ => Nat.le_refl _, ?_, fun id h hal => ?_⟩⟩
 ·simp only [renS, List.length_map]
  rcases Nat.lt_or_ge ρ.length m with hl | hl
  ·obtain ⟨id, h3, _⟩ := hm ρ.length hl
   simp at h3
  ·exact hl
 ·obtain ⟨i, h3, h4⟩ := hm id h
  have hb := blkAt_renS (σ := σ) h3
  rcases h4 with rfl | h4
  ·obtain ⟨a1, a2, a3⟩ := renB_arr ρ σ (blkAt σ i)
   refine ⟨?_, by unfold renPos; rw [h3], by rw [hb, a1], by rw [hb, a2], by rw [hb, a3]; exact Nat.le_refl _⟩
   unfold alive at hal ⊢
   rw [hb] at hal
   exact renB_alive hal
  ·exfalso
   have : blkAt σ i = .dead := by unfold blkAt; rw [List.getD_eq_getElem?_getD, List.getElem?_eq_none h4]; rfl
   rw [this] at hb
   unfold alive at hal
   rw [hb] at hal
   cases hal
theorem weak_mv (fz ρ : List Nat) {e' : Env} {s' : Sto} (hm : ∀ j, j < m → ∃ id, ρ[j]? = some id ∧ (id = j ∨ σ.length ≤ id)) (hnd : ρ.Nodup) (he : renE (e'.map (·.1)) ρ (freezeL σ fz) env = e') (hs : renS ρ (freezeL σ fz) = s') : Weak n m env σ e' s' := by
 intro w I μ a h1 h2 h3
 obtain ⟨I', r1, r2, r3, _⟩ := freezeL_spec h1 fz
 obtain ⟨q1, q2⟩ := ren_ok2 (m := m) r1 (fun j hj => by rw [r3]; exact hm j hj) hnd
 rw [hs] at q1 q2
 refine ⟨I', renPos ρ μ, q1, ⟨h2.defers, h2.size, fun t => ?_⟩, (r2.mono h3).trans q2⟩
 rw [← he, getE_renE, ← hs]
 split
 ·exact renV_rep r1 (((h2.slot t)).keep r2)
 ·exact .undef _
theorem weakR_of {r : AV} {σ' : Sto} (h : Weak 0 σ.length [] σ [] σ') : WeakR m r σ r σ' := by
 intro w I μ v h1 h2 h3
 obtain ⟨I', μ', a1, _, a3⟩ := h w I μ (⟨#[], []⟩ : Act) h1 ⟨rfl, rfl, fun t => .undef _⟩ (Nat.le_refl _)
 exact ⟨I', μ', a1, h2.keep a3, a3.mono h3⟩
end Go.AM


set_option linter.unusedVariables false
set_option linter.unusedSimpArgs false
namespace Go.AM
variable {P : Program} {Gl : Globs}
theorem getE_sub (env : Env) : ∀ (l : Env) (t : Nat), getE (l.map fun p => (p.1, getE env p.1)) t = getE env t ∨ getE (l.map fun p => (p.1, getE env p.1)) t = .undef
 | [], t => .inr rfl
 | p :: r, t => by
  simp only [List.map_cons, getE]
  by_cases e : p.1 = t
  ·left; rw [if_pos e, e]
  ·rw [if_neg e]; exact getE_sub env r t
theorem weak_sub {n m : Nat} {env e' : Env} {σ : Sto} (he : (e'.map fun p => (p.1, getE env p.1)) = e') : Weak n m env σ e' σ := fun w I μ a h1 h2 h3 => by
 refine ⟨I, μ, h1, ⟨h2.defers, h2.size, fun t => ?_⟩, Keep.refl _ _ _ _ h3⟩
 rw [← he]
 rcases getE_sub env e' t with e | e
 ·rw [e]; exact h2.slot t
 ·rw [e]; exact .undef _
def El0 (es : Nat) (x : D) : Prop := x.isAgg = false ∧ x.cells.length = es
theorem El0.at {Dm : D → Prop} {es : Nat} (hD : ∀ x, Dm x → El0 es x) {ys : List D} (h : ∀ y ∈ ys, Dm y) {i : Nat} (hi : i < ys.length) : (ys.getD i default).isAgg = false ∧ (ys.getD i default).cells.length = es := by
 have : ys.getD i default = ys[i] := by simp [hi]
 rw [this]; exact hD _ (h _ (List.getElem_mem hi))
end Go.AM


set_option linter.unusedVariables false
namespace Go.AM
variable {P : Program} {Gl : Globs} {w : World} {I : Im} {μ : Pos} {σ : Sto}
theorem set_arr (σ : Sto) (id i : Nat) (B : Blk) (h1 : B.isArr = (blkAt σ id).isArr) (h2 : B.es = (blkAt σ id).es) (h3 : B.xs = (blkAt σ id).xs) (h4 : B.isDead = (blkAt σ id).isDead) (hid : id < σ.length) :
  (blkAt (σ.set id B) i).isArr = (blkAt σ i).isArr ∧ (blkAt (σ.set id B) i).es = (blkAt σ i).es ∧ (blkAt (σ.set id B) i).xs = (blkAt σ i).xs ∧ (blkAt (σ.set id B) i).isDead = (blkAt σ i).isDead := by
 by_cases e : id = i
 ·subst e; rw [blkAt_set_self hid]; exact ⟨h1, h2, h3, h4⟩
 ·rw [blkAt_set_ne e]; exact ⟨rfl, rfl, rfl, rfl⟩
theorem Rel.rebox (h : Rel w I μ σ) {id n : Nat} {v v' : AV} (hb : blkAt σ id = .box n v) (hid : id < σ.length) (hn : v'.ncells = n)
  (hc : ∀ j, j < n → (v'.cellAt j).one = true ∧ ∀ u, RepV w I μ σ u (v.cellAt j) → RepV w I μ σ u (v'.cellAt j)) :
  Rel w I μ (σ.set id (.box n v')) ∧ Keep σ.length w I μ σ w I μ (σ.set id (.box n v')) := by
 have hs := fun i => set_arr σ id i (.box n v') (by rw [hb]; rfl) (by rw [hb]; rfl) (by rw [hb]; rfl) (by rw [hb]; rfl) hid
 have k : Keep σ.length w I μ σ w I μ (σ.set id (.box n v')) :=
  ⟨rfl, rfl, rfl, Nat.le_refl _, fun _ h => h, fun _ h => h, fun _ h => .inl h, fun _ _ => rfl, fun _ => Nat.le_refl _, by simp, fun i hi ha => by
   obtain ⟨a1, a2, a3, a4⟩ := hs i
   refine ⟨by unfold alive at ha ⊢; rw [← a4]; exact ha, rfl, a1, a2, by rw [a3]; exact Nat.le_refl _⟩⟩
 refine ⟨⟨h.imm, fun i hi => ?_, fun i j b b' o o' hij hi hj h1 h2 => ?_⟩, k⟩
 ·rw [List.length_set] at hi
  by_cases e : id = i
  ·subst e
   rw [blkAt_set_self hid]
   have hB := h.blk id hid
   rw [hb] at hB
   obtain ⟨b, q1, q2, q3, q4, q5, q6⟩ := hB
   refine ⟨b, q1, q2, q3, q4, hn, fun j hj => ?_⟩
   obtain ⟨r1, u, r2, r3⟩ := q6 j hj
   obtain ⟨s1, s2⟩ := hc j hj
   exact ⟨s1, u, r2, (s2 u r3).keep k⟩
  ·rw [blkAt_set_ne e]
   exact (h.blk i hi).keep k rfl fun _ _ _ _ => ⟨rfl, fun hn => hn⟩
 ·have ow : ∀ i, (blkAt (σ.set id (.box n v')) i).own = true → (blkAt σ i).own = true := fun i hi => by
   by_cases e : id = i
   ·subst e; rw [hb]; rfl
   ·rwa [blkAt_set_ne e] at hi
  exact h.apart i j b b' o o' hij (ow i hi) (ow j hj) h1 h2
theorem weak_box1Nil {n m : Nat} {env : Env} (id es : Nat) (hm : m ≤ σ.length) (hb : blkAt σ id = .box 1 .nils) (hid : id < σ.length) :
  Weak n m env σ env ((σ ++ [Blk.arr es []]).set id (.box 1 (.osl σ.length 0 0))) := fun w I μ a h1 h2 h3 => by
 obtain ⟨μ', a1, a2⟩ := h1.addNone es
 have hb' : blkAt (σ ++ [Blk.arr es []]) id = .box 1 .nils := by rw [blkAt_append_old hid]; exact hb
 obtain ⟨r1, r2⟩ := a1.rebox (v' := .osl σ.length 0 0) hb' (by simp; omega) rfl (fun j hj => ⟨rfl, fun u hu => by
  cases hu
  exact .osl _ _ 0 0 (by simp) (.inl ⟨rfl, none, rfl⟩)⟩)
 have k2 := a2.trans (show Keep σ.length w I μ' (σ ++ [.arr es []]) w I μ' _ from ⟨r2.os, r2.tape, r2.output, r2.size, r2.imm, r2.fr, r2.rdn, r2.same, r2.bsize, by simp, fun i hi => r2.old i (by simp; omega)⟩)
 exact ⟨I, μ', r1, h2.keep k2, k2.mono h3⟩
theorem ACalls.weak {f : FuncId} {args : List AV} {σ' : Sto} {R : AV → Sto → Prop} (h : Weak 0 σ.length [] σ [] σ') (hc : ACalls P Gl f args σ' R) : ACalls P Gl f args σ R := by
 intro w I μ vals hR hG hl hv
 obtain ⟨I', μ', r1, _, r3⟩ := h w I μ (⟨#[], []⟩ : Act) hR ⟨rfl, rfl, fun t => .undef _⟩ (Nat.le_refl _)
 refine (hc w I' μ' vals r1 (hG.keep r3) hl fun i v u h1 h2 => (hv i v u h1 h2).keep r3).mono fun v w' ⟨r, s, J, ν, q1, q2, q3, q4⟩ => ?_
 exact ⟨r, s, J, ν, q1, r3.trans (q2.mono r3.len), q3, q4⟩
end Go.AM


set_option linter.unusedVariables false
namespace Go.AM
variable {P : Program} {Gl : Globs} {w : World} {I : Im} {μ : Pos} {σ : Sto}
theorem Rel.remap (h : Rel w I μ σ) {id : Nat} {ik : Option IntKind} {f f' : Key → Option AV} (hb : blkAt σ id = .map ik f) (hid : id < σ.length)
  (hc : ∀ k, (f k = none ∧ f' k = none) ∨ ∃ v v', f k = some v ∧ f' k = some v' ∧ ∀ u, RepV w I μ σ u v → RepV w I μ σ u v') :
  Rel w I μ (σ.set id (.map ik f')) ∧ Keep σ.length w I μ σ w I μ (σ.set id (.map ik f')) := by
 have hs := fun i => set_arr σ id i (.map ik f') (by rw [hb]; rfl) (by rw [hb]; rfl) (by rw [hb]; rfl) (by rw [hb]; rfl) hid
 have k : Keep σ.length w I μ σ w I μ (σ.set id (.map ik f')) :=
  ⟨rfl, rfl, rfl, Nat.le_refl _, fun _ h => h, fun _ h => h, fun _ h => .inl h, fun _ _ => rfl, fun _ => Nat.le_refl _, by simp, fun i hi ha => by
   obtain ⟨a1, a2, a3, a4⟩ := hs i
   refine ⟨by unfold alive at ha ⊢; rw [← a4]; exact ha, rfl, a1, a2, by rw [a3]; exact Nat.le_refl _⟩⟩
 refine ⟨⟨h.imm, fun i hi => ?_, fun i j b b' o o' hij hi hj h1 h2 => ?_⟩, k⟩
 ·rw [List.length_set] at hi
  by_cases e : id = i
  ·subst e
   rw [blkAt_set_self hid]
   have hB := h.blk id hid
   rw [hb] at hB
   obtain ⟨b, es, clock, q1, q2, q3, q4⟩ := hB
   refine ⟨b, es, clock, q1, q2, q3, ⟨q4.keys, q4.nodup, fun key v' hf hv' => ?_, fun key hf hv' => ?_⟩⟩
   ·rcases hc key with ⟨_, e2⟩ | ⟨v, v2, e1, e2, e3⟩
    ·rw [e2] at hv'; cases hv'
    ·rw [e2] at hv'; cases hv'
     obtain ⟨e, he, hk, hr⟩ := q4.hit key v hf e1
     exact ⟨e, he, hk, (e3 _ hr).keep k⟩
   ·rcases hc key with ⟨e1, _⟩ | ⟨v, v2, e1, e2, e3⟩
    ·exact q4.miss key hf e1
    ·rw [e2] at hv'; cases hv'
  ·rw [blkAt_set_ne e]
   exact (h.blk i hi).keep k rfl fun _ _ _ _ => ⟨rfl, fun hn => hn⟩
 ·have ow : ∀ i, (blkAt (σ.set id (.map ik f')) i).own = true → (blkAt σ i).own = true := fun i hi => by
   by_cases e : id = i
   ·subst e; rw [hb]; rfl
   ·rwa [blkAt_set_ne e] at hi
  exact h.apart i j b b' o o' hij (ow i hi) (ow j hj) h1 h2
theorem weak_mapD {n m : Nat} {env : Env} (id : Nat) {ik : Option IntKind} {f : Key → Option AV} (L : List Nat) (hb : blkAt σ id = .map ik f) (hid : id < σ.length) (hd : ∀ k v, f k = some v → v.isD σ = true ∧ ∀ i ∈ v.refs, i ∈ L) (hL : ∀ i ∈ L, (blkAt σ i).isArr = true) :
  Weak n m env σ env ((freezeL σ L).set id (.map ik fun k => (f k).map fun v => .d (v.toD σ))) := fun w I μ a h1 h2 h3 => by
 obtain ⟨I', r1, r2, r3, r4, r5, r6, r7, r8⟩ := freezeL_spec h1 L
 have hni : id ∉ L := fun hm => by
  have := hL id hm
  rw [hb] at this; cases this
 obtain ⟨s1, s2⟩ := r1.remap (f' := fun k => (f k).map fun v => .d (v.toD σ)) (by rw [r7 id hni]; exact hb) (by rw [r3]; exact hid) (fun k => by
  cases hf : f k with
  | none => exact .inl ⟨rfl, rfl⟩
  | some v =>
   refine .inr ⟨v, _, rfl, rfl, fun u hu => .d _ _ ?_⟩
   obtain ⟨d1, d2⟩ := hd k v hf
   have := toD_rep' r1 hu (by rw [isD_congr (fun id => (r5 id).2)]; exact d1) (fun i hi => r4 i (d2 i hi) (hL i (d2 i hi)))
   rwa [toD_congr (fun id => (r5 id).1)] at this)
 rw [r3] at s2
 exact ⟨I', μ, s1, h2.keep (r2.trans s2), (r2.trans s2).mono h3⟩
end Go.AM


namespace Go.AM
theorem bl_irr : ∀ x : List UInt8, Op.bytesLess x x = false
 | [] => rfl
 | a :: x => by rw [Op.bytesLess, bl_irr x]; simp
theorem bl_trans : ∀ {x y z : List UInt8}, Op.bytesLess x y = true → Op.bytesLess y z = true → Op.bytesLess x z = true
 | [], [], z, h, _ => by simp [Op.bytesLess] at h
 | [], b :: y, [], _, h => by simp [Op.bytesLess] at h
 | [], b :: y, c :: z, _, _ => by simp [Op.bytesLess]
 | a :: x, [], z, h, _ => by simp [Op.bytesLess] at h
 | a :: x, b :: y, [], _, h => by simp [Op.bytesLess] at h
 | a :: x, b :: y, c :: z, h1, h2 => by
  have ih := @bl_trans x y z
  simp only [Op.bytesLess, Bool.or_eq_true, decide_eq_true_eq, Bool.and_eq_true, beq_iff_eq] at h1 h2 ⊢
  rcases h1 with h1 | ⟨rfl, h1⟩
  ·rcases h2 with h2 | ⟨rfl, h2⟩
   ·exact .inl (UInt8.lt_trans h1 h2)
   ·exact .inl h1
  ·rcases h2 with h2 | ⟨rfl, h2⟩
   ·exact .inl h2
   ·exact .inr ⟨rfl, ih h1 h2⟩
theorem bl_total : ∀ {x y : List UInt8}, Op.bytesLess x y = false → Op.bytesLess y x = false → x = y
 | [], [], _, _ => rfl
 | [], b :: y, h, _ => by simp [Op.bytesLess] at h
 | a :: x, [], _, h => by simp [Op.bytesLess] at h
 | a :: x, b :: y, h1, h2 => by
  have ih := @bl_total x y
  simp only [Op.bytesLess, Bool.or_eq_false_iff, decide_eq_false_iff_not, Bool.and_eq_false_iff, beq_eq_false_iff_ne] at h1 h2
  have e : a = b := by
   have p := h1.1
   have q := h2.1
   rw [UInt8.not_lt] at p q
   exact UInt8.le_antisymm q p
  subst e
  have h1' : Op.bytesLess x y = false := h1.2.elim (fun h => absurd rfl h) id
  have h2' : Op.bytesLess y x = false := h2.2.elim (fun h => absurd rfl h) id
  rw [ih h1' h2']
theorem bl_asymm {x y : List UInt8} (h : Op.bytesLess x y = true) : Op.bytesLess y x = false := by
 rw [Bool.eq_false_iff]
 intro h2
 have := bl_trans h h2
 rw [bl_irr] at this; cases this
theorem bl_ne {x y : List UInt8} (h : Op.bytesLess x y = true) : x ≠ y := fun e => by subst e; rw [bl_irr] at h; cases h
theorem bl_cases (x y : List UInt8) : (Op.bytesLess x y = true ∧ x ≠ y ∧ Op.bytesLess y x = false) ∨ (Op.bytesLess x y = false ∧ x = y ∧ Op.bytesLess y x = false) ∨ (Op.bytesLess x y = false ∧ x ≠ y ∧ Op.bytesLess y x = true) := by
 cases h1 : Op.bytesLess x y with
 | true => exact .inl ⟨rfl, bl_ne h1, bl_asymm h1⟩
 | false =>
  cases h2 : Op.bytesLess y x with
  | true => exact .inr (.inr ⟨rfl, fun e => bl_ne h2 e.symm, rfl⟩)
  | false => exact .inr (.inl ⟨rfl, bl_total h1 h2, rfl⟩)
end Go.AM


set_option linter.unusedVariables false
set_option linter.unusedSimpArgs false
namespace Go.AM
variable {P : Program} {Gl : Globs}
theorem back_d (b : Nat → Nat) (x : D) : back b (.d x) = .d x := by simp [back]
end Go.AM


namespace Go.AM
open Go.RowKit Go.ChangeShapes Go.WideShapes
def tiled (P : Program) : List Field → Nat → Option Nat
 | [], o => some o
 | f :: r, o => if f.offset = o then tiled P r (o + P.cellsOf f.type) else none
def dataTy (P : Program) : Nat → TypeId → Bool
 | 0, _ => false
 | n + 1, t => match P.underlying t with
  | some .bool => true
  | some (.int _) => true
  | some .string => true
  | some (.slice e) => decide (0 < P.cellsOf e) && dataTy P n e
  | some (.struct fs) => (tiled P fs.toList 0 == some (P.cellsOf t)) && fs.toList.all fun f => dataTy P n f.type
  | _ => false
def fieldsD (P : Program) (T : TypeId → List D → Prop) : List Field → List D → Prop
 | [], ds => ds = []
 | f :: r, ds => ∃ a b, ds = a ++ b ∧ a.length = P.cellsOf f.type ∧ T f.type a ∧ fieldsD P T r b
def TypedD (P : Program) : Nat → TypeId → List D → Prop
 | 0, _, _ => False
 | n + 1, t, ds => match P.underlying t with
  | some .bool => ∃ b, ds = [.bool b]
  | some (.int k) => ∃ i, ds = [.int k i] ∧ (Lit.int k i).wf = true
  | some .string => ∃ s, ds = [.str s] ∧ s.length ≤ maxLen
  | some (.slice e) => ∃ xs, ds = [.sl xs] ∧ xs.length ≤ maxLen ∧ ∀ x ∈ xs, TypedD P n e x.cells ∧ x.cells.length = P.cellsOf e ∧ x.isAgg = (tkind P e).getD false
  | some (.struct fs) => fieldsD P (TypedD P n) fs.toList ds
  | _ => False
variable {H : Type} {enc : TypeId × Value → H} {P : Program} {w : World} {I : Im} {spare : Nat → Bool} {held : Bool} {base : Nat}
structure CellsAre (w : World) (I : Im) (vs : List Value) (ds : List D) : Prop where
 len : ds.length = vs.length
 rep : ∀ (j : Nat) (v : Value) (x : D), vs[j]? = some v → ds[j]? = some x → RepD w I v x
 one : ∀ x ∈ ds, x.one = true
theorem CellsAre.single {v : Value} {x : D} (h : RepD w I v x) (ho : x.one = true) : CellsAre w I [v] [x] :=
 ⟨rfl, fun j v' x' hv hx => by
  cases j with
  | zero => simp at hv hx; subst hv; subst hx; exact h
  | succ j => simp at hv, fun y hy => by simp at hy; subst hy; exact ho⟩
theorem CellsAre.append {vs us : List Value} {ds es : List D} (h : CellsAre w I vs ds) (k : CellsAre w I us es) : CellsAre w I (vs ++ us) (ds ++ es) := by
 refine ⟨by simp [h.len, k.len], fun j v x hv hx => ?_, fun x hx => ?_⟩
 ·rcases Nat.lt_or_ge j vs.length with hj | hj
  ·rw [List.getElem?_append_left hj] at hv
   rw [List.getElem?_append_left (by rw [h.len]; exact hj)] at hx
   exact h.rep j v x hv hx
  ·rw [List.getElem?_append_right hj] at hv
   rw [List.getElem?_append_right (by rw [h.len]; exact hj), h.len] at hx
   exact k.rep _ v x hv hx
 ·rcases List.mem_append.1 hx with hx | hx
  ·exact h.one x hx
  ·exact k.one x hx
theorem mapM_some {α β : Type} {f : α → Option β} : ∀ {l : List α} {r : List β}, l.mapM f = some r → ∀ x ∈ l, ∃ y, f x = some y
 | [], _, _, x, hx => by simp at hx
 | a :: l, r, h, x, hx => by
  rw [List.mapM_cons] at h
  cases ha : f a with
  | none => rw [ha] at h; simp at h
  | some b =>
   rw [ha] at h
   cases hl : l.mapM f with
   | none => rw [hl] at h; simp at h
   | some r' =>
    rcases List.mem_cons.1 hx with rfl | hx
    ·exact ⟨b, ha⟩
    ·exact mapM_some hl x hx
theorem fields_read {n fuel : Nat} {cs : List Value} (ih : ∀ {t : TypeId} {cs : List Value} {x : DataW H × List MemPlace}, dataTy P n t = true → DataW.trod enc P w base spare held fuel t cs = some x → ∃ ds, CellsAre w I cs ds ∧ TypedD P n t ds) :
  ∀ (fs : List Field) (o : Nat), tiled P fs o = some cs.length → o ≤ cs.length → (∀ f ∈ fs, dataTy P n f.type = true) → (∀ f ∈ fs, ∃ y, DataW.trod enc P w base spare held fuel f.type ((cs.drop f.offset).take (P.cellsOf f.type)) = some y) →
   ∃ ds, CellsAre w I (cs.drop o) ds ∧ fieldsD P (TypedD P n) fs ds
 | [], o, ht, _, _, _ => by
  simp only [tiled, Option.some.injEq] at ht
  subst ht
  exact ⟨[], ⟨by simp, fun j v x hv => by simp at hv, fun x hx => by simp at hx⟩, rfl⟩
 | f :: r, o, ht, hle, hd, hr => by
  simp only [tiled] at ht
  split at ht
  ·rename_i ho
   obtain ⟨y, hy⟩ := hr f (by simp)
   obtain ⟨da, h1, h2⟩ := ih (hd f (by simp)) hy
   have hb : o + P.cellsOf f.type ≤ cs.length := by
    have mono : ∀ (l : List Field) (a b : Nat), tiled P l a = some b → a ≤ b := by
     intro l
     induction l with
     | nil => intro a b h; simp only [tiled, Option.some.injEq] at h; omega
     | cons g l ihl =>
      intro a b h
      simp only [tiled] at h
      split at h
      ·have := ihl _ _ h; omega
      ·cases h
    exact mono _ _ _ ht
   obtain ⟨db, h3, h4⟩ := fields_read ih r (o + P.cellsOf f.type) ht hb (fun g hg => hd g (by simp [hg])) (fun g hg => hr g (by simp [hg]))
   rw [ho] at h1
   have e : cs.drop o = (cs.drop o).take (P.cellsOf f.type) ++ cs.drop (o + P.cellsOf f.type) := by
    rw [← List.drop_drop, List.take_append_drop]
   refine ⟨da ++ db, by rw [e]; exact h1.append h3, da, db, rfl, ?_, h2, h4⟩
   rw [h1.len, List.length_take, List.length_drop]; omega
  ·cases ht
theorem cells_at {a : Addr} {k : Nat} {vs : List Value} (h : w.cells? base a k = some vs) : vs.length = k ∧ ∀ j, j < k → w.cell? (a.add j) = vs[j]? := by
 unfold World.cells? at h
 split at h
 ·have gen : ∀ (l : List Nat) (vs : List Value), (l.mapM (fun i => w.cell? (a.add i)) : Option (List Value)) = some vs → vs.length = l.length ∧ ∀ (j i : Nat), l[j]? = some i → w.cell? (a.add i) = vs[j]? := by
   intro l
   induction l with
   | nil => intro vs h; simp at h; subst h; exact ⟨rfl, fun j i hj => by simp at hj⟩
   | cons x l ih =>
    intro vs h
    rw [List.mapM_cons] at h
    cases hx : w.cell? (a.add x) with
    | none => rw [hx] at h; simp at h
    | some v =>
     rw [hx] at h
     cases hl : l.mapM (fun i => w.cell? (a.add i)) with
     | none => rw [hl] at h; simp at h
     | some r =>
      rw [hl] at h
      simp at h
      subst h
      obtain ⟨i1, i2⟩ := ih r hl
      refine ⟨by simp [i1], fun j i hj => ?_⟩
      cases j with
      | zero => simp at hj; subst hj; simpa using hx
      | succ j => simpa using i2 j i (by simpa using hj)
  obtain ⟨g1, g2⟩ := gen _ _ h
  exact ⟨by simpa using g1, fun j hj => g2 j j (by simp [hj])⟩
 ·cases h
theorem cell_lt {a : Addr} {v : Value} (h : w.cell? a = some v) : a.block < w.heap.size ∧ a.spot = none := by
 unfold World.cell? at h
 split at h
 ·rename_i c _ _ hc
  split at h
  ·cases h
  ·rename_i hs
   refine ⟨?_, by simpa using hs⟩
   rcases Nat.lt_or_ge a.block w.heap.size with h' | h'
   ·exact h'
   ·rw [Array.getElem?_eq_none h'] at hc; cases hc
 ·cases h
theorem typed_shape {n : Nat} {e : TypeId} {ds : List D} (h : TypedD P n e ds) (hk : (tkind P e).getD false = false) : ∃ x, ds = [x] ∧ x.isAgg = false := by
 cases n with
 | zero => exact h.elim
 | succ n =>
  simp only [TypedD] at h
  unfold tkind at hk
  cases hu : P.underlying e with
  | none => rw [hu] at h; exact h.elim
  | some td =>
   rw [hu] at h hk
   cases td <;> simp only at h hk
   all_goals first
    | exact h.elim
    | (obtain ⟨x, rfl⟩ := h; exact ⟨_, rfl, rfl⟩)
    | (obtain ⟨x, rfl, _⟩ := h; exact ⟨_, rfl, rfl⟩)
    | (simp at hk)
theorem add_add {a : Addr} (hs : a.spot = none) (i j : Nat) : (a.add i).add j = ⟨a.block, a.off + i + j, none⟩ := by
 obtain ⟨b, o, sp⟩ := a
 simp only at hs
 subst hs
 unfold Addr.add
 by_cases hi : i = 0 <;> by_cases hj : j = 0 <;> simp [hi, hj]
theorem read_slice (hI : ∀ b, b < w.heap.size → I.rd b) {n : Nat} {e : TypeId} {a : Addr} {len cap : Nat} (he : 0 < P.cellsOf e) (hlc : len ≤ cap) (hcm : cap ≤ maxLen)
  (hel : ∀ i, i < len → ∃ (vs : List Value) (ds : List D), vs.length = P.cellsOf e ∧ (∀ j, j < P.cellsOf e → w.cell? ((a.add (i * P.cellsOf e)).add j) = vs[j]?) ∧ CellsAre w I vs ds ∧ TypedD P n e ds) :
  ∃ xs, RepD w I (.slice (some a) len cap) (.sl xs) ∧ xs.length ≤ maxLen ∧ ∀ x ∈ xs, TypedD P n e x.cells ∧ x.cells.length = P.cellsOf e ∧ x.isAgg = (tkind P e).getD false := by
 rcases Nat.eq_zero_or_pos len with hz | hpos
 ·subst hz
  exact ⟨[], .nil _ _, by simp, fun x hx => by simp at hx⟩
 have hel2 : ∀ i, ∃ (vs : List Value) (x : D), i < len → (vs.length = P.cellsOf e ∧ (∀ j, j < P.cellsOf e → w.cell? ((a.add (i * P.cellsOf e)).add j) = vs[j]?) ∧ CellsAre w I vs x.cells ∧ TypedD P n e x.cells ∧ x.isAgg = (tkind P e).getD false) := fun i => by
  by_cases hi : i < len
  ·obtain ⟨vs, ds, h1, h2, h3, h4⟩ := hel i hi
   cases hk : (tkind P e).getD false with
   | true => exact ⟨vs, .agg ds, fun _ => ⟨h1, h2, h3, h4, rfl⟩⟩
   | false =>
    obtain ⟨x, rfl, hx⟩ := typed_shape h4 hk
    have hc : x.cells = [x] := by cases x <;> first | rfl | (simp [D.isAgg] at hx)
    exact ⟨vs, x, fun _ => ⟨h1, h2, by rw [hc]; exact h3, by rw [hc]; exact h4, hx⟩⟩
  ·exact ⟨[], default, fun h => absurd h hi⟩
 let vsOf : Nat → List Value := fun i => Classical.choose (hel2 i)
 let xOf : Nat → D := fun i => Classical.choose (Classical.choose_spec (hel2 i))
 have hsp : ∀ i, i < len → (vsOf i).length = P.cellsOf e ∧ (∀ j, j < P.cellsOf e → w.cell? ((a.add (i * P.cellsOf e)).add j) = (vsOf i)[j]?) ∧ CellsAre w I (vsOf i) (xOf i).cells ∧ TypedD P n e (xOf i).cells ∧ (xOf i).isAgg = (tkind P e).getD false :=
  fun i hi => Classical.choose_spec (Classical.choose_spec (hel2 i)) hi
 have h0 := (hsp 0 hpos).2.1 0 he
 have hp0 : 0 < (vsOf 0).length := by rw [(hsp 0 hpos).1]; exact he
 have hv0 : (vsOf 0)[0]? = some ((vsOf 0)[0]'hp0) := List.getElem?_eq_getElem hp0
 rw [hv0] at h0
 have ha : a.spot = none ∧ a.block < w.heap.size := by
  have := cell_lt h0
  simp only [Nat.zero_mul, Addr.add, if_true] at this
  exact ⟨this.2, this.1⟩
 let xs := (List.range len).map xOf
 have hlen : xs.length = len := by simp [xs]
 have hget : ∀ (i : Nat) (x : D), xs[i]? = some x → i < len ∧ x = xOf i := fun i x hx => by
  have hi : i < len := by
   rcases Nat.lt_or_ge i len with h | h
   ·exact h
   ·rw [List.getElem?_eq_none (by omega)] at hx; cases hx
  refine ⟨hi, ?_⟩
  simp only [xs, List.getElem?_map, List.getElem?_range hi, Option.map_some, Option.some.injEq] at hx
  exact hx.symm
 have hmem : ∀ x ∈ xs, ∃ i, i < len ∧ x = xOf i := fun x hx => by
  obtain ⟨i, hi, rfl⟩ := List.mem_map.1 hx
  exact ⟨i, List.mem_range.1 hi, rfl⟩
 refine ⟨xs, ?_, by omega, fun x hx => ?_⟩
 ·have hv : (Value.slice (some a) len cap) = .slice (some ⟨a.block, a.off, none⟩) xs.length cap := by
   rw [hlen]
   obtain ⟨b, o, sp⟩ := a
   simp only at ha
   rw [ha.1]
  rw [hv]
  refine .sl a.block a.off (P.cellsOf e) cap xs (fun i j => (vsOf i).getD j Go.undef) (hI _ ha.2) (by omega) (fun x hx => ?_) (fun x hx => ?_) (fun i j hi hj => ?_) (fun i j x y hx hy => ?_)
  ·obtain ⟨i, hi, rfl⟩ := hmem x hx
   have := (hsp i hi).2.2.1.len
   rw [this, (hsp i hi).1]
  ·obtain ⟨i, hi, rfl⟩ := hmem x hx
   exact (hsp i hi).2.2.1.one
  ·obtain ⟨g1, g2, _⟩ := hsp i (by omega)
   have := g2 j hj
   rw [add_add ha.1] at this
   rw [this]
   have hj' : j < (vsOf i).length := by rw [g1]; exact hj
   have : (vsOf i)[j]? = some ((vsOf i)[j]'hj') := List.getElem?_eq_getElem hj'
   rw [this, List.getD_eq_getElem?_getD, this]; rfl
  ·obtain ⟨hi, rfl⟩ := hget i x hx
   obtain ⟨g1, g2, g3, _⟩ := hsp i hi
   have hj : j < (vsOf i).length := by
    rw [← g3.len]
    rcases Nat.lt_or_ge j (xOf i).cells.length with h | h
    ·exact h
    ·rw [List.getElem?_eq_none h] at hy; cases hy
   have hvj : (vsOf i)[j]? = some (vsOf i)[j] := List.getElem?_eq_getElem hj
   have := g3.rep j _ y hvj hy
   rw [List.getD_eq_getElem?_getD, hvj]; exact this
 ·obtain ⟨i, hi, rfl⟩ := hmem x hx
  obtain ⟨g1, g2, g3, g4, g5⟩ := hsp i hi
  exact ⟨g4, by rw [g3.len, g1], g5⟩
theorem read_cells (hI : ∀ b, b < w.heap.size → I.rd b) : ∀ (n fuel : Nat) {t : TypeId} {cs : List Value} {x : DataW H × List MemPlace}, dataTy P n t = true → DataW.trod enc P w base spare held fuel t cs = some x → ∃ ds, CellsAre w I cs ds ∧ TypedD P n t ds := by
 intro n
 induction n with
 | zero => intro fuel t cs x hd; simp [dataTy] at hd
 | succ n ih =>
  intro fuel t cs x hd h
  cases fuel with
  | zero => simp [DataW.trod] at h
  | succ fuel =>
   simp only [dataTy] at hd
   simp only [TypedD]
   cases hu : P.underlying t with
   | none => rw [hu] at hd; cases hd
   | some td =>
    rw [hu] at hd
    simp only [DataW.trod, hu] at h
    cases td <;> simp only at hd <;> try (cases hd; done)
    · -- bool
     split at h <;> first
      | (rename_i b _; simp only [Option.some.injEq] at *; exact ⟨[.bool b], CellsAre.single (.bool b) rfl, b, rfl⟩)
      | (simp_all; done)
    · -- int
     rename_i k
     split at h <;> first
      | (simp_all; done)
      | skip
     rename_i k1 k2 i heq
     cases heq
     split at h
     ·rename_i hw
      obtain ⟨rfl, hw⟩ := hw
      exact ⟨[.int _ i], CellsAre.single (.int _ i) rfl, i, rfl, hw⟩
     ·cases h
    · -- string
     split at h <;> first
      | (simp_all; done)
      | skip
     rename_i s heq
     split at h
     ·rename_i hs
      refine ⟨[.str s.data.toList], CellsAre.single ?_ rfl, s.data.toList, rfl, by simpa using hs⟩
      have : s = ⟨s.data.toList.toArray⟩ := by cases s; simp
      rw [this]
      exact .str _
     ·cases h
    · -- slice
     rename_i e
     simp only [Bool.and_eq_true, decide_eq_true_eq] at hd
     split at h <;> first
      | (simp_all; done)
      | skip
     ·exact ⟨[.sl []], CellsAre.single (.nil none 0) rfl, [], rfl, by simp, fun x hx => by simp at hx⟩
     ·rename_i e' a len cap heq
      cases heq
      split at h
      ·rename_i hb
       rw [Option.bind_eq_some_iff] at h
       obtain ⟨els, hels, _⟩ := h
       have hall := mapM_some hels
       have hel : ∀ i, i < len → ∃ (vs : List Value) (ds : List D), vs.length = P.cellsOf e ∧ (∀ j, j < P.cellsOf e → w.cell? ((a.add (i * P.cellsOf e)).add j) = vs[j]?) ∧ CellsAre w I vs ds ∧ TypedD P n e ds := fun i hi => by
        obtain ⟨y, hy⟩ := hall i (List.mem_range.2 hi)
        rw [Option.bind_eq_some_iff] at hy
        obtain ⟨vs, h1, h2⟩ := hy
        obtain ⟨h3, h4⟩ := cells_at h1
        obtain ⟨ds, h5, h6⟩ := ih fuel hd.2 h2
        exact ⟨vs, ds, h3, h4, h5, h6⟩
       obtain ⟨xs, r1, r2, r3⟩ := read_slice hI hd.1 hb.2.1 hb.2.2 hel
       exact ⟨[.sl xs], CellsAre.single r1 rfl, xs, rfl, r2, r3⟩
      ·cases h
    · -- struct
     rename_i fs
     simp only [Bool.and_eq_true, beq_iff_eq, List.all_eq_true] at hd
     split at h <;> first
      | (simp_all; done)
      | skip
     rename_i fs' heq
     cases heq
     split at h
     ·rename_i hl
      rw [Option.map_eq_some_iff] at h
      obtain ⟨xs, hxs, _⟩ := h
      obtain ⟨ds, h1, h2⟩ := fields_read (I := I) (fun {t cs x} h1 h2 => ih fuel h1 h2) fs.toList 0 (by rw [hl]; exact hd.1) (Nat.zero_le _) (fun f hf => hd.2 f hf) (fun f hf => mapM_some hxs f hf)
      exact ⟨ds, by simpa using h1, h2⟩
     ·cases h
def datumOf (P : Program) (t : TypeId) (ds : List D) : D := if (tkind P t).getD false = true then .agg ds else ds.getD 0 default
def TypedV (P : Program) (n : Nat) (t : TypeId) (x : D) : Prop := TypedD P n t x.cells ∧ x.isAgg = (tkind P t).getD false
theorem read_value (hI : ∀ b, b < w.heap.size → I.rd b) {n : Nat} {t : TypeId} {v : Value} {d : DataW H} {ps : List MemPlace} (hd : dataTy P n t = true) (hok : Value.okWide P w .any base t v)
  (h : DataW.Trod enc P w 0 spare held t v d ps) : ∃ x, RepD w I v x ∧ TypedV P n t x := by
 obtain ⟨fuel, h⟩ := h
 obtain ⟨ds, h1, h2⟩ := read_cells hI n fuel hd h
 unfold TypedV
 cases hk : (tkind P t).getD false with
 | true =>
  have : ∃ cs, v = .agg cs := by
   unfold Value.okWide at hok
   unfold tkind at hk
   split at hok
   ·obtain ⟨cs, e, _⟩ := hok; exact ⟨cs, e⟩
   ·obtain ⟨cs, e, _⟩ := hok; exact ⟨cs, e⟩
   ·rename_i hns hna
    cases hu : P.underlying t with
    | none => rw [hu] at hk; simp at hk
    | some td =>
     rw [hu] at hk
     cases td <;> simp at hk
     all_goals first | exact absurd hu (hns _) | exact absurd hu (hna _ _)
  obtain ⟨cs, rfl⟩ := this
  refine ⟨.agg ds, ?_, h2, rfl⟩
  have e : (Value.agg cs).cells.toList = cs.toList := rfl
  rw [e] at h1
  have := RepD.agg (w := w) (I := I) cs.toList ds h1.len.symm h1.one h1.rep
  simpa using this
 | false =>
  obtain ⟨x, rfl, hx⟩ := typed_shape h2 hk
  have hc : x.cells = [x] := by cases x <;> first | rfl | (simp [D.isAgg] at hx)
  refine ⟨x, ?_, by rw [hc]; exact h2, hx⟩
  have hl := h1.len
  have : v.cells.toList = [v] := by
   cases v <;> first | rfl | skip
   rename_i cs
   exfalso
   unfold Value.okWide Cell.okWide Cell.ok at hok
   unfold tkind at hk
   cases hu : P.underlying t with
   | none => rw [hu] at hok; exact hok
   | some td =>
    rw [hu] at hk hok
    cases td <;> simp at hk hok
  rw [this] at h1
  exact h1.rep 0 v x rfl rfl
def TypedAll (P : Program) (n : Nat) : List TypeId → List D → Prop
 | [], xs => xs = []
 | t :: ts, xs => ∃ x r, xs = x :: r ∧ TypedV P n t x ∧ TypedAll P n ts r
theorem read_all (hI : ∀ b, b < w.heap.size → I.rd b) {n : Nat} : ∀ (ts : List TypeId) (vs : List Value) (ds : List (DataW H)) (ps : List MemPlace), (∀ t ∈ ts, dataTy P n t = true) →
  (∀ (j : Nat) t v, ts[j]? = some t → vs[j]? = some v → Value.okWide P w .any base t v) → DataW.TrodAll enc P w 0 spare held ts vs ds ps →
  ∃ xs : List D, TypedAll P n ts xs ∧ vs.length = xs.length ∧ ds.length = ts.length ∧ ∀ (i : Nat) (v : Value) (x : D), vs[i]? = some v → xs[i]? = some x → RepD w I v x
 | [], vs, ds, ps, _, _, h => by
  cases vs <;> cases ds <;> simp only [DataW.TrodAll] at h
  exact ⟨[], rfl, rfl, rfl, fun i v x hv => by simp at hv⟩
 | t :: ts, vs, ds, ps, hd, hok, h => by
  cases vs <;> cases ds <;> simp only [DataW.TrodAll] at h
  rename_i v vs d ds
  obtain ⟨p, q, h1, h2, _⟩ := h
  obtain ⟨x, r1, r2⟩ := read_value hI (hd t (by simp)) (hok 0 t v rfl rfl) h1
  obtain ⟨xs, r3, r4, r5, r6⟩ := read_all hI ts vs ds q (fun t ht => hd t (by simp [ht])) (fun j t v h1 h2 => hok (j + 1) t v (by simpa using h1) (by simpa using h2)) h2
  refine ⟨x :: xs, ⟨x, xs, rfl, r2, r3⟩, by simp [r4], by simp [r5], fun i u y hu hy => ?_⟩
  cases i with
  | zero => simp at hu hy; subst hu; subst hy; exact r1
  | succ i => exact r6 i u y (by simpa using hu) (by simpa using hy)
theorem trodAll_below {w' : World} (hl : laidOutB P = true) (hb : Below w.heap.size w w') : ∀ (ts : List TypeId) (vs : List Value) (ds : List (DataW H)) (ps : List MemPlace), (∀ t ∈ ts, P.readableRec t = true ∧ t < P.types.size) →
  DataW.TrodAll enc P w 0 (fun _ => true) true ts vs ds ps → (∀ x ∈ ps, x.block < w.heap.size) → DataW.TrodAll enc P w' 0 (fun b => decide (b < w.heap.size)) true ts vs ds ps
 | [], vs, ds, ps, _, h, _ => by
  cases vs <;> cases ds <;> simp only [DataW.TrodAll] at h ⊢
  exact h
 | t :: ts, vs, ds, ps, ht, h, hlt => by
  cases vs <;> cases ds <;> simp only [DataW.TrodAll] at h ⊢
  obtain ⟨p, q, h1, h2, rfl⟩ := h
  have h3 := ht t (by simp)
  exact ⟨p, q, Below.trod hl h3.1 h3.2 h1 hb fun x hx => hlt x (List.mem_append.2 (.inl hx)), trodAll_below hl hb ts _ _ q (fun t h => ht t (by simp [h])) h2 fun x hx => hlt x (List.mem_append.2 (.inr hx)), rfl⟩
theorem Keep.below {m : Nat} {w' : World} {I' : Im} {μ μ' : Pos} {σ σ' : Sto} (hI : ∀ b, b < w.heap.size → I.fr b) (k : Keep m w I μ σ w' I' μ' σ') : Below w.heap.size w w' :=
 ⟨k.os, k.tape, k.output, k.size, fun b hb => k.same b (hI b hb)⟩
theorem law_contract {fn : Func} {c : Code} {s : ChangeSpec} {f : FuncId} {n : Nat} {tb : TypeId} {apart fresh handsOn : Bool}
  (hf : P.funcs[f]? = some fn) (hname : (fn.name == "runtime.NumGoroutine") = false) (hb : fn.body = some c)
  (hty : (fn.params.toList.all fun t => dataTy P n t && P.readableRec t && decide (t < P.types.size)) = true) (hlaid : laidOutB P = true)
  (hres : fn.resultTypes = #[tb]) (htb : P.underlying tb = some .bool) (hvars : s.vars = [])
  (hspec : ∀ (H : Type) (ds : List (DataW H)), ds.length = fn.params.size → s.fn H ds = { results := [.lit (.bool true)], args := ds })
  (hmain : ∀ xs, TypedAll P n fn.params.toList xs → ACalls P [] f (xs.map AV.d) [] (fun r _ => r = .d (.bool true)))
  (W : World) (base : Nat) (args : Array Value) (ds gs : List (DataW H)) (before : List MemPlace)
  (hval : ∀ (j : Nat) t v, fn.params[j]? = some t → args[j]? = some v → Value.okWide P W .any base t v)
  (hW : DataW.Whole enc P fn.params.toList s.vars apart W args.toList ds gs before) :
  Calls P f args W fun e W' => ∃ v, e = .returned v ∧ s.post enc P fn apart fresh handsOn false W args v W' := by
 have hlt := hW.lt
 have hW' := hW
 obtain ⟨p, q, hA, hV, rfl, _, _⟩ := hW
 rw [hvars] at hV
 obtain ⟨rfl, rfl⟩ := trodVars_none hV
 simp only [List.all_eq_true, Bool.and_eq_true, decide_eq_true_eq] at hty
 let I : Im := { rd := fun b => b < W.heap.size, fr := fun b => b < W.heap.size, sub := fun _ h => h }
 obtain ⟨xs, h1, h2, h3, h4⟩ := read_all (I := I) (fun _ h => h) fn.params.toList args.toList ds p (fun t ht => (hty t ht).1.1) (fun j t v ht hv => hval j t v (by simpa using ht) (by simpa using hv)) hA
 have hm := hmain xs h1 W I (fun _ => none) args.toList ⟨fun _ h => h, fun id hid => absurd hid (Nat.not_lt_zero _), fun i j b b' o o' _ _ _ h => by cases h⟩ (GlOk.nil _ _) (by simp [h2]) (fun i v u hv hu => by
  rw [List.getElem?_map] at hu
  cases hx : xs[i]? with
  | none => rw [hx] at hu; cases hu
  | some x =>
   rw [hx] at hu
   simp only [Option.map_some, Option.some.injEq] at hu
   subst hu
   exact .d v x (h4 i v x hv hx))
 have e : (callFunc f args.toList.toArray).run P W = .ok (.enter f args) W := by
  have hne : ¬ fn.name = "runtime.NumGoroutine" := by simpa using hname
  simp [callFunc, hf, hb, hne]
 rw [e] at hm
 refine hm.2.mono fun x W' ⟨v, hx, r, σ', I', μ', q1, q2, q3, q4⟩ => ?_
 subst hx
 subst q4
 have hv : v = .bool true := by
  have := q3.inv_d
  cases this; rfl
 subst hv
 have hbel : Below W.heap.size W W' := q2.below (fun _ h => h)
 have hlen : (ds ++ []).length = fn.params.size := by simp [h3]
 refine ⟨_, rfl, ds, [], p ++ [], [], p, [], hW', ?_, ?_, ?_, ?_, fun h => by cases h⟩
 ·rw [hspec _ _ hlen, hres]
  exact trodAll_mk1 (shut_bool htb true)
 ·rw [hspec _ _ hlen]
  simp only [List.append_nil]
  exact trodAll_below hlaid hbel _ _ _ _ (fun t ht => ⟨(hty t ht).1.2, (hty t ht).2⟩) hA (by simpa using hlt)
 ·rw [hspec _ _ hlen, hvars]
  exact rfl
 ·exact hbel.frame _
end Go.AM


set_option linter.unusedVariables false
namespace Go.AM
open Go.RowKit Go.ChangeShapes Go.WideShapes
variable {H : Type} {enc : TypeId × Value → H} {P : Program} {w : World} {I : Im} {spare : Nat → Bool} {held : Bool} {base : Nat}
end Go.AM


namespace Go.AM
inductive Cel where
 | bool
 | int (k : IntKind)
 | str
 | sl (cs : List Cel) (agg : Bool)
mutual
def Conf : Cel → D → Prop
 | .bool, d => ∃ b, d = .bool b
 | .int k, d => ∃ i, d = .int k i ∧ (Lit.int k i).wf = true
 | .str, d => ∃ s, d = .str s ∧ s.length ≤ maxLen
 | .sl cs g, d => ∃ xs, d = .sl xs ∧ xs.length ≤ maxLen ∧ ∀ x ∈ xs, ConfL cs x.cells ∧ x.isAgg = g
def ConfL : List Cel → List D → Prop
 | [], ds => ds = []
 | c :: r, ds => ∃ d r', ds = d :: r' ∧ Conf c d ∧ ConfL r r'
end
theorem ConfL.append : ∀ {a b : List Cel} {x y : List D}, ConfL a x → ConfL b y → ConfL (a ++ b) (x ++ y)
 | [], b, x, y, h1, h2 => by
  simp only [ConfL] at h1
  subst h1
  simpa using h2
 | c :: r, b, x, y, h1, h2 => by
  simp only [ConfL] at h1
  obtain ⟨d, r', rfl, h3, h4⟩ := h1
  simp only [List.cons_append, ConfL]
  exact ⟨d, r' ++ y, rfl, h3, h4.append h2⟩
def shapeF (f : TypeId → Option (List Cel)) : List Field → Option (List Cel)
 | [] => some []
 | x :: r => match f x.type, shapeF f r with
  | some a, some b => some (a ++ b)
  | _, _ => none
def shapeOf (P : Program) : Nat → TypeId → Option (List Cel)
 | 0, _ => none
 | n + 1, t => match P.underlying t with
  | some .bool => some [.bool]
  | some (.int k) => some [.int k]
  | some .string => some [.str]
  | some (.slice e) => match shapeOf P n e with
   | some cs => some [.sl cs ((tkind P e).getD false)]
   | none => none
  | some (.struct fs) => shapeF (shapeOf P n) fs.toList
  | _ => none
theorem conf_of {P : Program} : ∀ {n : Nat} {t : TypeId} {cs : List Cel} {ds : List D}, shapeOf P n t = some cs → TypedD P n t ds → ConfL cs ds
 | 0, t, cs, ds, h, _ => by cases h
 | n + 1, t, cs, ds, h, ht => by
  simp only [TypedD] at ht
  unfold shapeOf at h
  cases hu : P.underlying t with
  | none => rw [hu] at ht; exact ht.elim
  | some td =>
   rw [hu] at ht h
   cases td <;> simp only at ht h <;> try (exact ht.elim)
   ·obtain ⟨b, rfl⟩ := ht
    cases h
    exact ⟨_, [], rfl, ⟨b, rfl⟩, rfl⟩
   ·obtain ⟨i, rfl, hw⟩ := ht
    cases h
    exact ⟨_, [], rfl, ⟨i, rfl, hw⟩, rfl⟩
   ·obtain ⟨s, rfl, hs⟩ := ht
    cases h
    exact ⟨_, [], rfl, ⟨s, rfl, hs⟩, rfl⟩
   ·obtain ⟨xs, rfl, hx, hxs⟩ := ht
    rename_i e
    cases hs : shapeOf P n e with
    | none => rw [hs] at h; cases h
    | some cs' =>
     rw [hs] at h
     cases h
     exact ⟨_, [], rfl, ⟨xs, rfl, hx, fun x hm => ⟨conf_of hs (hxs x hm).1, (hxs x hm).2.2⟩⟩, rfl⟩
   ·rename_i fs
    have gen : ∀ (l : List Field) (cs : List Cel) (ds : List D), shapeF (shapeOf P n) l = some cs → fieldsD P (TypedD P n) l ds → ConfL cs ds := by
     intro l
     induction l with
     | nil =>
      intro cs ds h1 h2
      cases h1
      simp only [fieldsD] at h2
      exact h2
     | cons x r ih =>
      intro cs ds h1 h2
      simp only [fieldsD] at h2
      obtain ⟨a, b, rfl, _, h3, h4⟩ := h2
      simp only [shapeF] at h1
      split at h1
      ·rename_i p q hp hq
       cases h1
       exact (conf_of hp h3).append (ih q b hq h4)
      ·cases h1
    exact gen _ _ _ h ht
theorem list_of {α : Type} {f : α → D} : ∀ {xs : List D}, (∀ x ∈ xs, ∃ a, x = f a) → ∃ l : List α, xs = l.map f
 | [], _ => ⟨[], rfl⟩
 | x :: r, h => by
  obtain ⟨a, rfl⟩ := h x List.mem_cons_self
  obtain ⟨l, rfl⟩ := list_of fun y hy => h y (List.mem_cons_of_mem _ hy)
  exact ⟨a :: l, rfl⟩
theorem one_of {c : Cel} {x : D} (h : ConfL [c] x.cells) (hg : x.isAgg = false) : Conf c x := by
 obtain ⟨d, r, h1, h2, h3⟩ := h
 have hc : x.cells = [x] := by cases x <;> first | rfl | (simp [D.isAgg] at hg)
 simp only [ConfL] at h3
 subst h3
 rw [hc] at h1
 simp only [List.cons.injEq, and_true] at h1
 rw [h1]; exact h2
theorem agg_of {x : D} {l : List D} (hg : x.isAgg = true) (h : x.cells = l) : x = .agg l := by
 cases x <;> simp_all [D.isAgg, D.cells]
theorem param1_of {P : Program} {n : Nat} {t : TypeId} {x : D} {c : Cel} (h : TypedV P n t x) (hs : shapeOf P n t = some [c]) (hk : (tkind P t).getD false = false) : Conf c x := one_of (conf_of hs h.1) (h.2.trans hk)
end Go.AM
