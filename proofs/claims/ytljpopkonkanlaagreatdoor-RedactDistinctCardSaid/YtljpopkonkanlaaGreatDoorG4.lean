/- A part of the proof: an abstract machine over data, and lemmas; nothing of the statement. No condition beyond those stated. -/
import Derived.Test.YtljpopkonkanlaaGreatDoorG3
import Derived.Sort.Grow
import Derived.Deep.Draws
import Derived.Laws.Externs
import Derived.Carry
import Derived.ProofKit
import Derived.Lib.LaidTab
import Derived.Maps.RangeRun
set_option linter.unusedVariables false
set_option linter.unusedSimpArgs false
set_option linter.unusedSectionVars false
set_option linter.unnecessarySimpa false

namespace Go.AM
section
variable {α : Type} [Inhabited α]
def putAt (lt : α → α → Bool) (l : List α) (b : α) : Nat → Nat
 | 0 => 0
 | k + 1 => if lt b (l.getD k default) = true then putAt lt l b k else k + 1
def q8n (lt : α → α → Bool) (l : List α) (b : α) : List α := l.take (putAt lt l b l.length) ++ b :: l.drop (putAt lt l b l.length)
def qj0 (lt : α → α → Bool) (l : List α) : List α := l.foldl (q8n lt) []
theorem qy6 (lt : α → α → Bool) (l : List α) (b : α) : ∀ k, putAt lt l b k ≤ k
 | 0 => Nat.le_refl _
 | k + 1 => by
  have := qy6 lt l b k
  unfold putAt; split <;> omega
theorem q8p {lt : α → α → Bool} {l : List α} {b : α} : ∀ {k j : Nat}, putAt lt l b k ≤ j → j < k → lt b (l.getD j default) = true
 | 0, j, _, h => by omega
 | k + 1, j, h1, h2 => by
  unfold putAt at h1
  split at h1
  ·rename_i h
   by_cases e : j = k
   ·subst e; exact h
   ·exact q8p h1 (by omega)
  ·omega
theorem q8o {lt : α → α → Bool} {l : List α} {b : α} : ∀ {k : Nat}, 0 < putAt lt l b k → lt b (l.getD (putAt lt l b k - 1) default) = false
 | 0, h => by simp [putAt] at h
 | k + 1, h => by
  unfold putAt at h ⊢
  split at h
  ·rename_i h'
   rw [if_pos h']; exact q8o h
  ·rename_i h'
   rw [if_neg h']; simpa using h'
theorem q4s (lt : α → α → Bool) (l : List α) (b : α) : (q8n lt l b).length = l.length + 1 := by
 have := qy6 lt l b l.length
 simp [q8n]; omega
theorem Qh2 {lt : α → α → Bool} {l : List α} {b x : α} : x ∈ q8n lt l b ↔ x ∈ l ∨ x = b := by
 unfold q8n
 rw [List.mem_append, List.mem_cons]
 have : x ∈ l ↔ x ∈ l.take (putAt lt l b l.length) ∨ x ∈ l.drop (putAt lt l b l.length) := by
  rw [← List.mem_append, List.take_append_drop]
 rw [this]
 constructor
 ·rintro (h | h | h) <;> simp [h]
 ·rintro ((h | h) | h) <;> simp [h]
theorem qm5 (lt : α → α → Bool) (l : List α) : (qj0 lt l).length = l.length := by
 have gen : ∀ (l a : List α), (l.foldl (q8n lt) a).length = a.length + l.length := by
  intro l
  induction l with
  | nil => intro a; rfl
  | cons x l ih => intro a; rw [List.foldl_cons, ih, q4s, List.length_cons]; omega
 have := gen l []
 unfold qj0
 simpa using this
theorem Qaa (lt : α → α → Bool) (l : List α) (b : α) : qj0 lt (l ++ [b]) = q8n lt (qj0 lt l) b := by simp [qj0]
end
section
variable {α β : Type} [Inhabited α] [Inhabited β] {g : α → β} {lt : β → β → Bool}
theorem q2k {l : List α} {b : α} : ∀ {k : Nat}, k ≤ l.length → putAt lt (l.map g) (g b) k = putAt (fun x y => lt (g x) (g y)) l b k
 | 0, _ => rfl
 | k + 1, h => by
  have e : (l.map g).getD k default = g (l.getD k default) := by simp [show k < l.length by omega]
  unfold putAt
  rw [e, q2k (by omega)]
theorem Qh3 {l : List α} {b : α} : q8n lt (l.map g) (g b) = (q8n (fun x y => lt (g x) (g y)) l b).map g := by
 unfold q8n
 rw [List.length_map, q2k (Nat.le_refl _), List.map_append, List.map_cons, List.map_take, List.map_drop]
theorem q0n {l : List α} : qj0 lt (l.map g) = (qj0 (fun x y => lt (g x) (g y)) l).map g := by
 have gen : ∀ (l a : List α), (l.map g).foldl (q8n lt) (a.map g) = (l.foldl (q8n fun x y => lt (g x) (g y)) a).map g := by
  intro l
  induction l with
  | nil => intro a; rfl
  | cons x l ih => intro a; rw [List.map_cons, List.foldl_cons, List.foldl_cons, Qh3, ih]
 exact gen l []
end
variable {Dm : D → Prop} {lt : D → D → Bool} {xs : List D}
theorem Qqj (hw : Swo Dm lt) (hx : ∀ y ∈ xs, Dm y) {l : List Nat} {k : Nat} (hk : k < xs.length) (hl : l.Pairwise (Lx lt xs)) (hlt : ∀ i ∈ l, i < k) :
  (q8n (fun i j => lt (xs.getD i default) (xs.getD j default)) l k).Pairwise (Lx lt xs) := by
 obtain ⟨ltx, hltx⟩ : ∃ ltx, ltx = fun i j : Nat => lt (xs.getD i default) (xs.getD j default) := ⟨_, rfl⟩
 rw [← hltx]
 unfold q8n
 obtain ⟨p, hp⟩ : ∃ p, p = putAt ltx l k l.length := ⟨_, rfl⟩
 have hle : p ≤ l.length := by rw [hp]; exact qy6 _ _ _ _
 rw [← hp]
 have hsp : (l.take p ++ l.drop p).Pairwise (Lx lt xs) := by rw [List.take_append_drop]; exact hl
 rw [List.pairwise_append] at hsp ⊢
 obtain ⟨h1, h2, h3⟩ := hsp
 have hkd : ∀ j ∈ l.drop p, Lx lt xs k j := fun j hj => by
  obtain ⟨i, hi⟩ := List.getElem?_of_mem hj
  rw [List.getElem?_drop] at hi
  have hil : p + i < l.length := by
   rcases Nat.lt_or_ge (p + i) l.length with h | h
   ·exact h
   ·rw [List.getElem?_eq_none h] at hi; cases hi
  have := q8p (lt := ltx) (l := l) (b := k) (k := l.length) (j := p + i) (by omega) hil
  rw [List.getD_eq_getElem?_getD, hi, hltx] at this
  exact .inl this
 have htk : ∀ j ∈ l.take p, Lx lt xs j k := fun j hj => by
  rcases Nat.eq_zero_or_pos p with hz | hpos
  ·rw [hz] at hj; simp at hj
  have hq : p - 1 < l.length := by omega
  have hlo := q8o (lt := ltx) (l := l) (b := k) (k := l.length) (by omega)
  rw [← hp] at hlo
  have eq : l.getD (p - 1) default = l[p - 1] := by simp [hq]
  rw [eq, hltx] at hlo
  have hlast : Lx lt xs l[p - 1] k := .inr ⟨hlo, hlt _ (List.getElem_mem hq)⟩
  obtain ⟨i, hi⟩ := List.getElem?_of_mem hj
  have hip : i < p := by
   rcases Nat.lt_or_ge i p with h | h
   ·exact h
   ·rw [List.getElem?_eq_none (by simp; omega)] at hi; cases hi
  rw [List.getElem?_take_of_lt hip, List.getElem?_eq_getElem (by omega)] at hi
  simp only [Option.some.injEq] at hi
  by_cases e : i = p - 1
  ·subst e; rw [← hi]; exact hlast
  ·have hL : Lx lt xs l[i] l[p - 1] := List.pairwise_iff_getElem.1 hl i (p - 1) (by omega) hq (by omega)
   rw [← hi]
   have b1 := hlt _ (List.getElem_mem (l := l) (n := i) (by omega))
   have b2 := hlt _ (List.getElem_mem hq)
   exact Lx.trans hw hx (by omega) (by omega) hk hL hlast
 refine ⟨h1, List.pairwise_cons.2 ⟨hkd, h2⟩, fun a ha b hb => ?_⟩
 rcases List.mem_cons.1 hb with rfl | hb
 ·exact htk a ha
 ·exact h3 a ha b hb
theorem qx5 (hw : Swo Dm lt) (hx : ∀ y ∈ xs, Dm y) : ∀ n, n ≤ xs.length → (qj0 (fun i j => lt (xs.getD i default) (xs.getD j default)) (List.range n)).Pairwise (Lx lt xs) ∧ ∀ i, i ∈ qj0 (fun i j => lt (xs.getD i default) (xs.getD j default)) (List.range n) ↔ i < n
 | 0, _ => ⟨List.Pairwise.nil, fun i => by simp [qj0]⟩
 | n + 1, h => by
  obtain ⟨h1, h2⟩ := qx5 hw hx n (by omega)
  rw [List.range_succ, Qaa]
  refine ⟨Qqj hw hx (by omega) h1 fun i hi => (h2 i).1 hi, fun i => ?_⟩
  rw [Qh2, h2]; omega
theorem qyy (hw : Swo Dm lt) (hx : ∀ y ∈ xs, Dm y) {n : Nat} (hn : n ≤ xs.length) {zs : List D} {ρ : Nat → Nat} (hA : Arr Dm xs zs ρ) (hB : Blo lt xs 0 n ρ) (hid : ∀ p, n ≤ p → ρ p = p) :
  zs = qj0 lt (xs.take n) ++ xs.drop n := by
 obtain ⟨h1, h2⟩ := qx5 hw hx n hn
 have hp := qy8 hw hx hB hn h1 h2
 have e1 : xs.take n = (List.range n).map fun i => xs.getD i default := by
  apply List.ext_getElem
  ·simp; omega
  ·intro i h3 h4
   simp only [List.length_take] at h3
   simp [show i < xs.length by omega]
 have e2 : qj0 lt (xs.take n) = zs.take n := by
  rw [e1, q0n, ← hp]
  apply List.ext_getElem
  ·simp [qhj, hA.len]; omega
  ·intro i h3 h4
   simp only [qhj, List.length_map, List.length_range] at h3
   have := hA.get i (by omega)
   simp only [qhj, List.getElem_map, List.getElem_range, List.getElem_take]
   rw [← this]; simp [show i < zs.length by have := hA.len; omega]
 have e3 : xs.drop n = zs.drop n := by
  apply List.ext_getElem
  ·simp [hA.len]
  ·intro i h3 h4
   simp only [List.length_drop] at h3
   have := hA.get (n + i) (by omega)
   rw [hid _ (by omega)] at this
   have hl := hA.len
   simp only [List.getElem_drop]
   simp [show n + i < xs.length by omega, show n + i < zs.length by omega] at this
   exact this.symm
 rw [e2, e3, List.take_append_drop]
end Go.AM


set_option linter.unusedVariables false
namespace Go.AM
variable {P : Program} {Gl : qa5}
def ql2 (σ : Sto) (u : AV) : AV := if u.isD σ = true then .d (u.toD σ) else u
def qh0 (σ : Sto) (u : AV) : List Nat := if u.isD σ = true then u.refs else []
theorem qaf.data {f : FuncId} {args : List AV} {σ : Sto} {R : AV → Sto → Prop} (h : qaf P Gl f (args.map (ql2 σ)) (freezeL σ (args.flatMap (qh0 σ))) R) : qaf P Gl f args σ R := by
 intro w I μ vals hR hG hl hv
 obtain ⟨I', r1, r2, r3, r4, r5, r6, r7, r8⟩ := qd5 hR (args.flatMap (qh0 σ))
 have hm := h w I' μ vals r1 (hG.keep r2) (by simpa using hl) fun i v u h1 h2 => by
  rw [List.getElem?_map] at h2
  cases ha : args[i]? with
  | none => rw [ha] at h2; cases h2
  | some a =>
   rw [ha] at h2
   simp only [Option.map_some, Option.some.injEq] at h2
   subst h2
   have hk := (hv i v a h1 ha).keep r2
   unfold ql2
   split
   ·rename_i hd
    refine .d _ _ ?_
    have := qki r1 hk (by rw [qlw (fun id => (r5 id).2)]; exact hd) (fun id hid => r4 id (List.mem_flatMap.2 ⟨a, List.mem_of_getElem? ha, by unfold qh0; rw [if_pos hd]; exact hid⟩) (qml hd id hid))
    rwa [qkj (fun id => (r5 id).1)] at this
   ·exact hk
 refine hm.mono fun v w' ⟨r, σ', I'', μ', q1, q2, q3, q4⟩ => ⟨r, σ', I'', μ', q1, r2.trans (q2.mono (by rw [r3]; exact Nat.le_refl _)), q3, q4⟩
section
variable {n : Nat} {all : Array Oper} {rest : List Oper} {KK : Env → Sto → Prop} {env : Env} {σ : Sto} {f : FuncId} {as caps : List AV} {v : AV} {dst : Option Tmp} {g : Bool}
theorem Qbi (h : qbw P Gl f ((as ++ caps).map (ql2 σ)) v) (h2 : qal P Gl n all false rest (putE env dst v) (freezeL σ ((as ++ caps).flatMap (qh0 σ))) KK) : qfp P Gl n all false dst rest (.fn f caps) as env σ KK :=
 qaq (qaf.data ((h _).mono fun r s ⟨e1, e2⟩ => by rw [e1, e2]; exact h2))
theorem qtw (h : qaf P Gl f ((as ++ caps).map (ql2 σ)) (freezeL σ ((as ++ caps).flatMap (qh0 σ))) (fun r σ' => qal P Gl n all false rest (putE env dst r) σ' KK)) : qfp P Gl n all false dst rest (.fn f caps) as env σ KK :=
 qaq (qaf.data h)
end
theorem qyr {σ : Sto} {i : Nat} (hi : i < σ.length) (es : Nat) (xs : List D) : qdr [i] σ [.arr es xs] = σ.set i (.arr es xs) := by
 apply List.ext_getElem
 ·simp [qdr]
 ·intro j h1 h2
  simp only [qdr, List.length_cons, List.length_nil, Nat.sub_self, Nat.add_zero, List.length_map, List.length_range] at h1
  simp only [qdr, List.getElem_map, List.getElem_range]
  rw [List.getElem_set]
  by_cases e : i = j
  ·subst e
   have : qca [i] i = some 0 := by simp [qca]
   rw [this, if_pos rfl]; rfl
  ·have : qca [i] j = none := by simp [qca, e]
   rw [this, if_neg e]
   have hj : j < σ.length := by omega
   simp only [hj, if_true]
   unfold qaa
   simp [hj]
theorem Qgk {n : Nat} {all : Array Oper} {rest : List Oper} {KK : Env → Sto → Prop} {env : Env} {σ : Sto} {f : FuncId} {as caps : List AV} {dst : Option Tmp} {Q : AV → Sto → Prop} {es : Nat} {xs : List D} (i : Nat) (hi : i < σ.length) (hb : qaa σ i = .arr es xs)
  (h : qaf P Gl f ((as ++ caps).map (qbf [i] σ)) [.arr es xs] Q)
  (h2 : ∀ r s, Q r s → qal P Gl n all false rest (putE env dst (qf1 (qb1 [i] σ.length) r)) (qdr [i] σ s) KK) : qfp P Gl n all false dst rest (.fn f caps) as env σ KK := by
 have e : qdb [i] σ = [.arr es xs] := by simp [qdb, hb, qbu]
 refine qaq ((qaf.under [i] (by simp) (by simpa using hi) (by rw [e]; exact h)).mono fun r s hr => ?_)
 obtain ⟨r0, s0, h3, rfl, rfl⟩ := hr
 exact h2 _ _ h3
theorem qut (i N o k : Nat) : qf1 (qb1 [i] N) (.osl 0 o k) = .osl i o k := rfl
theorem q6l (b : Nat → Nat) (x : D) : qf1 b (.d x) = .d x := rfl
theorem qp2 (b : Nat → Nat) : qf1 b (.tup []) = .tup [] := rfl
theorem Qbt (σ : Sto) (t : TypeId) (len : Nat) (parts : List (Nat × AV)) : Qbk P σ t len parts = (match qb5 P t with
 | some e => match tsz P e, qas P e, qbm P e with
  | some es, some _, some z => 0 < es ∧ z.cells.size = es ∧ 0 < len ∧ len * es ≤ 16777216 ∧ ∀ p ∈ parts, p.1 < len ∧ p.2.isD σ = true ∧ (p.2.toD σ).cells.length = es
  | _, _, _ => False
 | none => False) := by unfold Qbk; rfl
theorem Qkb (σ : Sto) (t : TypeId) (len : Nat) (parts : List (Nat × AV)) : Qor P σ t len parts = (match qb5 P t with
 | some e => match qas P e with
  | some x => qdv (List.replicate len x) (parts.map fun p => (p.1, p.2.toD σ))
  | none => []
 | none => []) := by unfold Qor; rfl
theorem Qkc (σ : Sto) (t : TypeId) (len : Nat) (parts : List (Nat × AV)) : Qn8 P σ t len parts = freezeL σ (parts.flatMap fun p => p.2.refs) ++ [.arr (qo7 P t) (Qor P σ t len parts)] := rfl
theorem Qov (xs : List D) : qdv xs [] = xs := rfl
theorem Qou (xs : List D) (i : Nat) (x : D) (r : List (Nat × D)) : qdv xs ((i, x) :: r) = qdv (xs.set i x) r := rfl
theorem Qj6 (x : D) : List.replicate 0 x = [] := rfl
theorem Qj5 (n : Nat) (x : D) : List.replicate (n + 1) x = x :: List.replicate n x := rfl
theorem q6i {α : Type} (f : Nat → α) : List.map f (List.range 2) = [f 0, f 1] := rfl
theorem q6h {α : Type} (f : Nat → α) : List.map f (List.range 3) = [f 0, f 1, f 2] := rfl
theorem q6g {α : Type} (f : Nat → α) : List.map f (List.range 4) = [f 0, f 1, f 2, f 3] := rfl
theorem q6f {α : Type} (f : Nat → α) : List.map f (List.range 5) = [f 0, f 1, f 2, f 3, f 4] := rfl
theorem q6e {α : Type} (f : Nat → α) : List.map f (List.range 6) = [f 0, f 1, f 2, f 3, f 4, f 5] := rfl
theorem q6d {α : Type} (f : Nat → α) : List.map f (List.range 7) = [f 0, f 1, f 2, f 3, f 4, f 5, f 6] := rfl
theorem q6c {α : Type} (f : Nat → α) : List.map f (List.range 8) = [f 0, f 1, f 2, f 3, f 4, f 5, f 6, f 7] := rfl
theorem q6b {α : Type} (f : Nat → α) : List.map f (List.range 9) = [f 0, f 1, f 2, f 3, f 4, f 5, f 6, f 7, f 8] := rfl
theorem qz9 {α : Type} (f : Nat → α) : List.map f (List.range 10) = [f 0, f 1, f 2, f 3, f 4, f 5, f 6, f 7, f 8, f 9] := rfl
theorem qz8 {α : Type} (f : Nat → α) : List.map f (List.range 11) = [f 0, f 1, f 2, f 3, f 4, f 5, f 6, f 7, f 8, f 9, f 10] := rfl
theorem qz7 {α : Type} (f : Nat → α) : List.map f (List.range 12) = [f 0, f 1, f 2, f 3, f 4, f 5, f 6, f 7, f 8, f 9, f 10, f 11] := rfl
theorem qba {α β : Type} (f : α → β) (l : List α) : (l.map f).take l.length = l.map f := List.take_of_length_le (by simp)
theorem qtv {n : Nat} {all : Array Oper} {rest : List Oper} {KK : Env → Sto → Prop} {env : Env} {σ σ' : Sto} {f : FuncId} {as as' caps : List AV} {v : AV} {dst : Option Tmp} (h : qbw P Gl f as' v) (e1 : (as ++ caps).map (ql2 σ) = as') (e2 : freezeL σ ((as ++ caps).flatMap (qh0 σ)) = σ')
  (h2 : qal P Gl n all false rest (putE env dst v) σ' KK) : qfp P Gl n all false dst rest (.fn f caps) as env σ KK := Qbi (by rw [e1]; exact h) (by rw [e2]; exact h2)
theorem qp1 (x : D) (σ : Sto) : ql2 σ (.d x) = .d x := rfl
theorem qhr (σ : Sto) : ql2 σ .nils = .d (.sl []) := rfl
theorem qp0 (i o k : Nat) (σ : Sto) (h : (qaa σ i).isArr = true) : ql2 σ (.osl i o k) = .d (.sl (((qaa σ i).xs.drop o).take k)) := by simp [ql2, AV.isD, q3j, h, AV.toD, q6q]
theorem qus (f : FuncId) (c : List AV) (σ : Sto) : ql2 σ (.fn f c) = .fn f c := rfl
theorem qz6 (x : D) (σ : Sto) : qh0 σ (.d x) = [] := rfl
theorem qmy (σ : Sto) : qh0 σ .nils = [] := rfl
theorem quq (f : FuncId) (c : List AV) (σ : Sto) : qh0 σ (.fn f c) = [] := rfl
theorem qpz (i o k : Nat) (σ : Sto) (h : (qaa σ i).isArr = true) : qh0 σ (.osl i o k) = [i] := by simp [qh0, AV.isD, q3j, h, AV.refs, q4m]
def Qbq (g : Int → Option Nat) : Key → Option AV
 | .i n => (g n).map fun i => .d (.int .i64 (i : Nat))
 | .s _ => none
def Qri (g : Int → Option Nat) (n : Int) (v : Option Nat) : Int → Option Nat := fun m => if m = n then v else g m
theorem Qka (g : Int → Option Nat) (n : Int) : Qbq g (.i n) = (g n).map fun i => .d (.int .i64 (i : Nat)) := rfl
theorem Qj8 (g : Int → Option Nat) (n : Int) (i : Nat) : qfx (Qbq g) (.i n) (.d (.int .i64 i)) = Qbq (Qri g n (some i)) := by
 funext k
 cases k with
 | i m =>
  unfold qfx Qri Qbq
  by_cases e : m = n
  ·subst e; simp
  ·simp [e]
 | s l => simp [qfx, Qbq]
theorem Qj9 (g : Int → Option Nat) (n : Int) : Qd0 (Qbq g) (.i n) = Qbq (Qri g n none) := by
 funext k
 cases k with
 | i m =>
  unfold Qd0 Qri Qbq
  by_cases e : m = n
  ·subst e; simp
  ·simp [e]
 | s l => simp [Qd0, Qbq]
theorem qur (g : Int → Option Nat) (ρ : List Nat) (σ : Sto) : (fun k => (Qbq g k).map (qbf ρ σ)) = Qbq g := by
 funext k
 cases k with
 | i m =>
  unfold Qbq
  simp only [Option.map_map]
  rfl
 | s l => rfl
theorem Qj7 (ρ : List Nat) (σ : Sto) : qdb ρ σ = ρ.map fun id => qbu ρ σ (qaa σ id) := rfl
theorem qup (ρ : List Nat) (σ : Sto) (es : Nat) (xs : List D) : qbu ρ σ (.arr es xs) = .arr es xs := rfl
theorem qun (ρ : List Nat) (σ : Sto) (es : Nat) (xs : List D) : qbu ρ σ (.frz es xs) = .frz es xs := rfl
theorem qpy (ρ : List Nat) (σ : Sto) : qbu ρ σ .dead = .dead := rfl
theorem q6k {α : Type} : (none : Option α).isSome = false := rfl
theorem Qkd : type_of% (And.intro @qyr (And.intro @qut (And.intro @q6l (And.intro @qp2 (And.intro @Qbt (And.intro @Qkb (And.intro @Qkc (And.intro @Qov (And.intro @Qou (And.intro @Qj6 (And.intro @Qj5 (And.intro @q6i (And.intro @q6h (And.intro @q6g (And.intro @q6f (And.intro @q6e (And.intro @q6d (And.intro @q6c (And.intro @q6b (And.intro @qz9 (And.intro @qz8 (And.intro @qz7 (And.intro @qp1 (And.intro @qhr (And.intro @qus (And.intro @qz6 (And.intro @qmy (And.intro @quq (And.intro @Qka (And.intro @Qj8 (And.intro @Qj9 (And.intro @qur (And.intro @Qj7 (And.intro @qup (And.intro @qun (And.intro @qpy (@q6k))))))))))))))))))))))))))))))))))))) := And.intro @qyr (And.intro @qut (And.intro @q6l (And.intro @qp2 (And.intro @Qbt (And.intro @Qkb (And.intro @Qkc (And.intro @Qov (And.intro @Qou (And.intro @Qj6 (And.intro @Qj5 (And.intro @q6i (And.intro @q6h (And.intro @q6g (And.intro @q6f (And.intro @q6e (And.intro @q6d (And.intro @q6c (And.intro @q6b (And.intro @qz9 (And.intro @qz8 (And.intro @qz7 (And.intro @qp1 (And.intro @qhr (And.intro @qus (And.intro @qz6 (And.intro @qmy (And.intro @quq (And.intro @Qka (And.intro @Qj8 (And.intro @Qj9 (And.intro @qur (And.intro @Qj7 (And.intro @qup (And.intro @qun (And.intro @qpy (@q6k))))))))))))))))))))))))))))))))))))
end Go.AM


set_option linter.unusedVariables false
set_option linter.unusedSimpArgs false
namespace Go.AM
variable {P : Program} {Gl : qa5}
def qdz (es : Nat) (xs : List D) (B : Blk) : Prop := B = .arr es xs ∨ B = .frz es xs
theorem Qme {σ : Sto} {i : Nat} (hi : i < σ.length) {es : Nat} {xs : List D} {B : Blk} (hB : qdz es xs B) : qdr [i] σ [B] = σ.set i B := by
 have hb : ∀ b, qc3 b B = B := fun b => by rcases hB with rfl | rfl <;> rfl
 apply List.ext_getElem
 ·simp [qdr]
 ·intro j h1 h2
  simp only [qdr, List.length_cons, List.length_nil, Nat.sub_self, Nat.add_zero, List.length_map, List.length_range] at h1
  simp only [qdr, List.getElem_map, List.getElem_range]
  rw [List.getElem_set]
  by_cases e : i = j
  ·subst e
   have : qca [i] i = some 0 := by simp [qca]
   rw [this, if_pos rfl]
   exact hb _
  ·have : qca [i] j = none := by simp [qca, e]
   rw [this, if_neg e]
   have hj : j < σ.length := by omega
   simp only [hj, if_true]
   unfold qaa
   simp [hj]
theorem ql5 {n : Nat} {all : Array Oper} {draw : Bool} {rest : List Oper} {KK : Env → Sto → Prop} {env : Env} {σ : Sto} {f : FuncId} {as as' caps : List AV} {dst : Option Tmp} {es : Nat} {xs : List D} {v : D} (i : Nat)
  (h : ∀ B, qdz es xs B → qaf P Gl f as' [B] (fun r s => r = .d v ∧ s = [B])) (e : ∀ s, (as ++ caps).map (qbf [i] s) = as') (hb : qaa σ i = .arr es xs)
  (h2 : qal P Gl n all draw rest (putE env dst (.d v)) σ KK) : qfp P Gl n all draw dst rest (.fn f caps) as env σ KK := by
 have main : ∀ s, Ext σ s → qaf P Gl f (as ++ caps) s (fun r σ' => r = .d v ∧ σ' = s) := fun s hs => by
  have hB : qdz es xs (qaa s i) := by
   rcases hs.2 i with h1 | h1 | h1
   ·rw [hb] at h1; cases h1
   ·rw [hb] at h1; exact .inl h1
   ·rw [hb] at h1; exact .inr h1
  have hil : i < s.length := by
   rcases Nat.lt_or_ge i s.length with h' | h'
   ·exact h'
   ·exfalso
    have : qaa s i = .dead := by unfold qaa; rw [List.getD_eq_getElem?_getD, List.getElem?_eq_none h']; rfl
    rcases hB with q | q <;> rw [this] at q <;> cases q
  have er : qdb [i] s = [qaa s i] := by
   have : ∀ B, qdz es xs B → qbu [i] s B = B := fun B hB => by rcases hB with rfl | rfl <;> rfl
   simp only [qdb, List.map_cons, List.map_nil]; rw [this _ hB]
  refine (qaf.under (P := P) (Gl := Gl) [i] (by simp) (by simpa using hil) (by rw [er, e]; exact h _ hB)).mono fun r s' hr => ?_
  obtain ⟨r0, s0, ⟨rfl, rfl⟩, rfl, rfl⟩ := hr
  refine ⟨rfl, ?_⟩
  rw [Qme hil hB]
  apply List.ext_getElem
  ·simp
  ·intro j h1 h2
   rw [List.getElem_set]
   split
   ·subst_vars; unfold qaa; simp [hil]
   ·rfl
 unfold qfp
 cases draw with
 | true => exact .inl ⟨.d v, main, h2⟩
 | false =>
  refine (main σ (Ext.refl σ)).mono fun r s ⟨e1, e2⟩ => ?_
  subst e1; subst e2; exact h2
end Go.AM


set_option linter.unusedVariables false
set_option linter.unusedSimpArgs false
namespace Go.AM
variable {P : Program} {Gl : qa5}
inductive Rd (σ : Sto) : AV → D → Prop
 | d (x : D) : Rd σ (.d x) x
 | nils : Rd σ .nils (.sl [])
 | osl {i o k es : Nat} {xs : List D} (h : qaa σ i = .frz es xs) {x : D} (e : x = .sl ((xs.drop o).take k)) : Rd σ (.osl i o k) x
inductive RdL (σ : Sto) : List AV → List D → Prop
 | nil : RdL σ [] []
 | cons {u : AV} {x : D} {r : List AV} {s : List D} (h : Rd σ u x) (t : RdL σ r s) : RdL σ (u :: r) (x :: s)
theorem Qnt {σ s : Sto} (h : Ext σ s) {i es : Nat} {xs : List D} (hb : qaa σ i = .frz es xs) : qaa s i = .frz es xs := by
 rcases h.2 i with h1 | h1 | h1
 ·rw [hb] at h1; cases h1
 ·rw [h1, hb]
 ·rw [h1, hb]; rfl
theorem Qa8 {s : Sto} {i es : Nat} {xs : List D} (hb : qaa s i = .frz es xs) : freeze s i = s := by
 have hil : i < s.length := by
  rcases Nat.lt_or_ge i s.length with h' | h'
  ·exact h'
  ·unfold qaa at hb; rw [List.getD_eq_getElem?_getD, List.getElem?_eq_none h'] at hb; cases hb
 unfold freeze
 rw [hb]
 apply List.ext_getElem
 ·simp
 ·intro j h1 h2
  rw [List.getElem_set]
  split
  ·subst_vars
   unfold qaa at hb
   simp [hil] at hb
   rw [hb]; rfl
  ·rfl
theorem RdL.spec {σ s : Sto} (hs : Ext σ s) {as : List AV} {xs : List D} (h : RdL σ as xs) : as.map (ql2 s) = xs.map AV.d ∧ ∀ id ∈ as.flatMap (qh0 s), ∃ es ys, qaa s id = .frz es ys := by
 induction h with
 | nil => exact ⟨rfl, fun _ h => by simp at h⟩
 | cons h t ih =>
  obtain ⟨h1, h2⟩ := ih
  cases h with
  | d x => exact ⟨by rw [List.map_cons, h1, qp1]; rfl, fun id hid => h2 id (by simpa [qh0, AV.isD, q3j, AV.refs, q4m] using hid)⟩
  | nils => exact ⟨by rw [List.map_cons, h1, qhr]; rfl, fun id hid => h2 id (by simpa [qh0, AV.isD, q3j, AV.refs, q4m] using hid)⟩
  | osl hb e =>
   have hb' := Qnt hs hb
   have ha := (congrArg Blk.isArr hb').trans (show _ = true from rfl)
   refine ⟨by rw [List.map_cons, h1, qp0 _ _ _ _ ha, hb', e]; rfl, fun id hid => ?_⟩
   rw [List.flatMap_cons, qpz _ _ _ _ ha, List.mem_append] at hid
   rcases hid with hid | hid
   ·simp only [List.mem_cons, List.not_mem_nil, or_false] at hid
    subst hid
    exact ⟨_, _, hb'⟩
   ·exact h2 id hid
theorem qth {s : Sto} : ∀ {l : List Nat}, (∀ id ∈ l, ∃ es ys, qaa s id = .frz es ys) → freezeL s l = s
 | [], _ => rfl
 | i :: l, h => by
  obtain ⟨es, ys, hb⟩ := h i List.mem_cons_self
  rw [qf6, Qa8 hb]
  exact qth fun id hid => h id (List.mem_cons_of_mem _ hid)
theorem Qm2 {σ s : Sto} (hs : Ext σ s) {f : FuncId} {as : List AV} {xs : List D} {v : AV} (hr : RdL σ as xs) (h : qbw P Gl f (xs.map AV.d) v) : qaf P Gl f as s (fun r s' => r = v ∧ s' = s) := by
 obtain ⟨h1, h2⟩ := hr.spec hs
 refine qaf.data ?_
 rw [h1, qth h2]
 exact h s
section
variable {n : Nat} {all : Array Oper} {draw : Bool} {rest : List Oper} {KK : Env → Sto → Prop} {env : Env} {σ : Sto} {f : FuncId} {as : List AV} {xs : List D} {v : AV} {dst : Option Tmp} {g : Bool}
theorem ql4 (h : g = true → qbw P Gl f (xs.map AV.d) v) (hr : RdL σ as xs) (h2 : qal P Gl n all draw rest (putE env dst (.iff g v)) σ KK) : qtt P Gl n all draw dst rest g (.fn f []) as env σ KK :=
 ⟨v, fun hg s hs => by rw [List.append_nil]; exact Qm2 hs hr (h hg), h2⟩
end
end Go.AM


namespace Go.AM
section
variable {α : Type} [Inhabited α] {lt : α → α → Bool}
end
section
variable {α : Type} [Inhabited α]
variable {key : α → Int}
end
end Go.AM


set_option linter.unusedVariables false
set_option linter.unusedSimpArgs false
namespace Go.AM
variable {P : Program} {Gl : qa5}
def Blk.still : Blk → Prop
 | .box _ (.d _) => True
 | .map _ f => ∀ k v, f k = some v → ∃ d, v = .d d
 | _ => False
theorem qqa {B : Blk} (h : B.still) : B.isDead = false := by cases B <;> simp_all [Blk.still, Blk.isDead]
theorem q0k {B : Blk} (h : B.still) : B.frozen = B := by cases B <;> simp_all [Blk.still, Blk.frozen]
theorem q21 {g : AV → AV} (hg : ∀ d, g (.d d) = .d d) {f : Key → Option AV} (h : ∀ k v, f k = some v → ∃ d, v = .d d) : (fun k => (f k).map g) = f := by
 funext k
 cases e : f k with
 | none => rfl
 | some v => obtain ⟨d, rfl⟩ := h k v e; simp [hg]
theorem qgf {B : Blk} (h : B.still) (ρ : List Nat) (σ : Sto) : qbu ρ σ B = B := by
 cases B with
 | box n v => cases v <;> simp_all [Blk.still, qbu, qbf, qjd]
 | map ik f => simp only [qbu]; rw [q21 (fun d => by simp [qbf, qjd]) h]
 | _ => exact h.elim
theorem qgg {B : Blk} (h : B.still) (b : Nat → Nat) : qc3 b B = B := by
 cases B with
 | box n v => cases v <;> simp_all [Blk.still, qc3, qf1]
 | map ik f => simp only [qc3]; rw [q21 (fun d => by simp [qf1]) h]
 | _ => exact h.elim
theorem q57 {σ : Sto} {i : Nat} (hi : i < σ.length) {B : Blk} (hB : B.still) : qdr [i] σ [B] = σ.set i B := by
 apply List.ext_getElem
 ·simp [qdr]
 ·intro j h1 h2
  simp only [qdr, List.length_cons, List.length_nil, Nat.sub_self, Nat.add_zero, List.length_map, List.length_range] at h1
  simp only [qdr, List.getElem_map, List.getElem_range]
  rw [List.getElem_set]
  by_cases e : i = j
  ·subst e
   have : qca [i] i = some 0 := by simp [qca]
   rw [this, if_pos rfl]
   exact qgg hB _
  ·have : qca [i] j = none := by simp [qca, e]
   rw [this, if_neg e]
   have hj : j < σ.length := by omega
   simp only [hj, if_true]
   unfold qaa
   simp [hj]
theorem q9j {σ : Sto} {f : FuncId} {as as' : List AV} {B : Blk} {v : D} (i : Nat) (hB : B.still) (hb : qaa σ i = B)
  (h : qaf P Gl f as' [B] (fun r s => r = .d v ∧ s = [B])) (e : ∀ s, as.map (qbf [i] s) = as') : ∀ s, Ext σ s → qaf P Gl f as s (fun r σ' => r = .d v ∧ σ' = s) := fun s hs => by
 have hB' : qaa s i = B := by
  rcases hs.2 i with h1 | h1 | h1
  ·rw [hb, qqa hB] at h1; cases h1
  ·rw [h1, hb]
  ·rw [h1, hb, q0k hB]
 have hil : i < s.length := by
  rcases Nat.lt_or_ge i s.length with h' | h'
  ·exact h'
  ·exfalso
   have : qaa s i = .dead := by unfold qaa; rw [List.getD_eq_getElem?_getD, List.getElem?_eq_none h']; rfl
   have h2 := qqa hB
   rw [← hB', this] at h2; cases h2
 have er : qdb [i] s = [B] := by simp only [qdb, List.map_cons, List.map_nil]; rw [hB', qgf hB]
 refine (qaf.under (P := P) (Gl := Gl) [i] (by simp) (by simpa using hil) (by rw [er, e]; exact h)).mono fun r s' hr => ?_
 obtain ⟨r0, s0, ⟨rfl, rfl⟩, rfl, rfl⟩ := hr
 refine ⟨rfl, ?_⟩
 rw [q57 hil hB]
 apply List.ext_getElem
 ·simp
 ·intro j h1 h2
  rw [List.getElem_set]
  split
  ·rename_i e2
   subst e2
   rw [← hB']; unfold qaa; simp [hil]
  ·rfl
theorem qdm {n : Nat} {all : Array Oper} {draw : Bool} {rest : List Oper} {KK : Env → Sto → Prop} {env : Env} {σ : Sto} {f : FuncId} {as as' caps : List AV} {dst : Option Tmp} {B : Blk} {v : D} (i : Nat)
  (h : qaf P Gl f as' [B] (fun r s => r = .d v ∧ s = [B])) (e : ∀ s, (as ++ caps).map (qbf [i] s) = as') (hb : qaa σ i = B) (hB : B.still)
  (h2 : qal P Gl n all draw rest (putE env dst (.d v)) σ KK) : qfp P Gl n all draw dst rest (.fn f caps) as env σ KK := by
 have main := q9j (Gl := Gl) i hB hb h e
 unfold qfp
 cases draw with
 | true => exact .inl ⟨.d v, main, h2⟩
 | false =>
  refine (main σ (Ext.refl σ)).mono fun r s ⟨e1, e2⟩ => ?_
  subst e1; subst e2; exact h2
theorem qgt {n : Nat} {all : Array Oper} {draw : Bool} {rest : List Oper} {KK : Env → Sto → Prop} {env : Env} {σ : Sto} {f : FuncId} {as as' caps : List AV} {dst : Option Tmp} {B : Blk} {v : D} {g : Bool} (i : Nat)
  (h : qaf P Gl f as' [B] (fun r s => r = .d v ∧ s = [B])) (e : ∀ s, (as ++ caps).map (qbf [i] s) = as') (hb : qaa σ i = B) (hB : B.still)
  (h2 : qal P Gl n all draw rest (putE env dst (.iff g (.d v))) σ KK) : qtt P Gl n all draw dst rest g (.fn f caps) as env σ KK :=
 ⟨.d v, fun _ => q9j (Gl := Gl) i hB hb h e, h2⟩
theorem Qfn {f : FuncId} {args : List D} {B : Blk} {r : AV} (hB : B.still) (h : qaf P Gl f (args.map AV.d) [] (fun r' s => r' = r ∧ s = [B])) (σ : Sto) :
  qaf P Gl f (args.map AV.d) σ (fun r' s => r' = qf1 (qb1 [] σ.length) r ∧ s = σ ++ [B]) := by
 have e : (args.map AV.d).map (qbf [] σ) = args.map AV.d := by simp [qbf, qjd]
 have h1 := qaf.under (P := P) (Gl := Gl) (f := f) (args := args.map AV.d) (σ := σ) [] List.nodup_nil (by simp) (by rw [e]; exact h)
 refine h1.mono fun r1 s' h2 => ?_
 obtain ⟨r0, s0, ⟨h1, h2⟩, h3, h4⟩ := h2
 subst h1; subst h2; subst h3; subst h4
 refine ⟨rfl, ?_⟩
 apply List.ext_getElem
 ·simp [qdr]
 ·intro i h1 h2
  simp only [qdr, List.getElem_map, List.getElem_range]
  have : qca [] i = none := rfl
  rw [this]
  simp only [List.length_nil, Nat.zero_add]
  by_cases hi : i < σ.length
  ·rw [if_pos hi, List.getElem_append_left hi]
   unfold qaa
   simp [hi]
  ·simp [qdr] at h1
   have : i = σ.length := by omega
   subst this
   rw [if_neg (by omega), List.getElem_append_right (by omega)]
   simp [qaa, qgg hB]
theorem qya {n : Nat} {all : Array Oper} {draw : Bool} {rest : List Oper} {KK : Env → Sto → Prop} {env : Env} {σ : Sto} {dst : Option Tmp} {ty : TypeId} {pos : String} {af : Array Edge} (f : FuncId) (l : List Operand) {j : Nat} {b : Bool} : qal P Gl n all draw (⟨dst, .makeFunc (.func f) #[] l.toArray, ty, pos, af, some (j, b)⟩ :: rest) env σ KK = (qb4 n dst = true ∧ qbi (qaz all env j) = true ∧ gdL Gl env (qaj (qaz all env j) b) l ∧
  qal P Gl n all draw rest (putE env dst (.iff (qaj (qaz all env j) b) (.fn f (l.map (evU Gl env))))) σ KK) := by
 simp [qal, qaw, qdh, Op.operands, qb9, opV, qbj, qcl]
theorem qbr {ik : Option IntKind} {f : Key → Option AV} (h : ∀ k v, f k = some v → ∃ d, v = .d d) (rest : Sto) : qdb [0] (freezeL (.map ik f :: rest) []) = [.map ik f] := by
 show [qbu [0] _ (.map ik f)] = _
 rw [qgf (B := .map ik f) h]
theorem qxw {f : Key → Option AV} (h : ∀ k v, f k = some v → ∃ d, v = .d d) (k : Key) (z : D) : ∃ d, (f k).getD (.d z) = .d d := by
 cases e : f k with
 | none => exact ⟨z, rfl⟩
 | some v => obtain ⟨d, rfl⟩ := h k v e; exact ⟨d, rfl⟩
theorem Qnu {σ : Sto} {f : FuncId} {as as' : List AV} {es : Nat} {xs : List D} {v : D} (i : Nat)
  (h : ∀ B, qdz es xs B → qaf P Gl f as' [B] (fun r s => r = .d v ∧ s = [B])) (e : ∀ s, as.map (qbf [i] s) = as') (hb : qaa σ i = .arr es xs) : ∀ s, Ext σ s → qaf P Gl f as s (fun r σ' => r = .d v ∧ σ' = s) := fun s hs => by
 have hB : qdz es xs (qaa s i) := by
  rcases hs.2 i with h1 | h1 | h1
  ·rw [hb] at h1; cases h1
  ·rw [hb] at h1; exact .inl h1
  ·rw [hb] at h1; exact .inr h1
 have hil : i < s.length := by
  rcases Nat.lt_or_ge i s.length with h' | h'
  ·exact h'
  ·exfalso
   have : qaa s i = .dead := by unfold qaa; rw [List.getD_eq_getElem?_getD, List.getElem?_eq_none h']; rfl
   rcases hB with q | q <;> rw [this] at q <;> cases q
 have er : qdb [i] s = [qaa s i] := by
  have : ∀ B, qdz es xs B → qbu [i] s B = B := fun B hB => by rcases hB with rfl | rfl <;> rfl
  simp only [qdb, List.map_cons, List.map_nil]; rw [this _ hB]
 refine (qaf.under (P := P) (Gl := Gl) [i] (by simp) (by simpa using hil) (by rw [er, e]; exact h _ hB)).mono fun r s' hr => ?_
 obtain ⟨r0, s0, ⟨rfl, rfl⟩, rfl, rfl⟩ := hr
 refine ⟨rfl, ?_⟩
 rw [Qme hil hB]
 apply List.ext_getElem
 ·simp
 ·intro j h1 h2
  rw [List.getElem_set]
  split
  ·subst_vars; unfold qaa; simp [hil]
  ·rfl
theorem Qgj {n : Nat} {all : Array Oper} {draw : Bool} {rest : List Oper} {KK : Env → Sto → Prop} {env : Env} {σ : Sto} {f : FuncId} {as as' caps : List AV} {dst : Option Tmp} {es : Nat} {xs : List D} {v : D} {g : Bool} (i : Nat)
  (h : ∀ B, qdz es xs B → qaf P Gl f as' [B] (fun r s => r = .d v ∧ s = [B])) (e : ∀ s, (as ++ caps).map (qbf [i] s) = as') (hb : qaa σ i = .arr es xs)
  (h2 : qal P Gl n all draw rest (putE env dst (.iff g (.d v))) σ KK) : qtt P Gl n all draw dst rest g (.fn f caps) as env σ KK :=
 ⟨.d v, fun _ => Qnu (Gl := Gl) i h e hb, h2⟩
theorem q92 {m : Nat} {σ : Sto} {u : AV} {y : D} (hd : u.isD σ = true) : qcm m (.tup [u, .d y]) σ (.tup [.d (u.toD σ), .d y]) (freezeL σ u.refs) := fun w I μ v h1 h2 h3 => by
 cases h2 with
 | tup vs cs hl h =>
  match vs, hl with
  | [v0, v1], _ =>
   have a0 := h 0 v0 u rfl rfl
   have a1 := h 1 v1 (.d y) rfl rfl
   obtain ⟨I', b1, b2, b3, _⟩ := q4e h1 a0 hd
   refine ⟨I', μ, b1, .tup [v0, v1] _ rfl ?_, b2.mono h3⟩
   intro i v x hv hx
   match i with
   | 0 => simp at hv hx; subst hv; subst hx; exact .d _ _ b3
   | 1 => simp at hv hx; subst hv; subst hx; exact a1.keep b2
   | i + 2 => simp at hv
theorem qdc {σ : Sto} {u : AV} {x y : D} (hd : u.isD σ = true) (hx : u.toD σ = x) : qcm 0 (.tup [u, .d y]) σ (.tup [.d x, .d y]) [] := by
 subst hx; exact (q92 hd).trans qu7
end Go.AM


set_option linter.unusedVariables false
set_option linter.unusedSimpArgs false
namespace Go.AM
variable {P : Program} {Gl : qa5}
theorem q9a (env : Env) : ∀ (l : Env) (t : Nat), qd0 (l.map fun p => (p.1, qd0 env p.1)) t = qd0 env t ∨ qd0 (l.map fun p => (p.1, qd0 env p.1)) t = .undef
 | [], t => .inr rfl
 | p :: r, t => by
  simp only [List.map_cons, qd0]
  by_cases e : p.1 = t
  ·left; rw [if_pos e, e]
  ·rw [if_neg e]; exact q9a env r t
theorem qbp {n m : Nat} {env e' : Env} {σ : Sto} (he : (e'.map fun p => (p.1, qd0 env p.1)) = e') : qhn n m env σ e' σ := fun w I μ a h1 h2 h3 => by
 refine ⟨I, μ, h1, ⟨h2.defers, h2.size, fun t => ?_⟩, qce.refl _ _ _ _ h3⟩
 rw [← he]
 rcases q9a env e' t with e | e
 ·rw [e]; exact h2.slot t
 ·rw [e]; exact .undef _
theorem qgu {n : Nat} {all : Array Oper} {draw : Bool} {rest : List Oper} {KK : Env → Sto → Prop} {env : Env} {σ : Sto} {f : FuncId} {as caps : List AV} {v : AV} {dst : Option Tmp}
  (h : ∀ s, Ext σ s → qaf P Gl f (as ++ caps) s (fun r s' => r = v ∧ s' = s)) (h2 : qal P Gl n all draw rest (putE env dst v) σ KK) : qfp P Gl n all draw dst rest (.fn f caps) as env σ KK := by
 cases draw with
 | true => exact .inl ⟨v, h, h2⟩
 | false =>
  refine (h σ (Ext.refl σ)).mono fun r s ⟨e1, e2⟩ => ?_
  subst e1; subst e2; exact h2
theorem q32 {n : Nat} {all : Array Oper} {draw : Bool} {rest : List Oper} {KK : Env → Sto → Prop} {env : Env} {σ : Sto} {f : FuncId} {as caps : List AV} {v : AV} {dst : Option Tmp} {g : Bool}
  (h : g = true → ∀ s, Ext σ s → qaf P Gl f (as ++ caps) s (fun r s' => r = v ∧ s' = s)) (h2 : qal P Gl n all draw rest (putE env dst (.iff g v)) σ KK) : qtt P Gl n all draw dst rest g (.fn f caps) as env σ KK :=
 ⟨v, h, h2⟩
def El0 (es : Nat) (x : D) : Prop := x.isAgg = false ∧ x.cells.length = es
theorem El0.at {Dm : D → Prop} {es : Nat} (hD : ∀ x, Dm x → El0 es x) {ys : List D} (h : ∀ y ∈ ys, Dm y) {i : Nat} (hi : i < ys.length) : (ys.getD i default).isAgg = false ∧ (ys.getD i default).cells.length = es := by
 have : ys.getD i default = ys[i] := by simp [hi]
 rw [this]; exact hD _ (h _ (List.getElem_mem hi))
end Go.AM


set_option linter.unusedVariables false
namespace Go.AM
variable {P : Program} {Gl : qa5} {w : World} {I : Im} {μ : Pos} {σ : Sto}
theorem Qms (σ : Sto) (id i : Nat) (B : Blk) (h1 : B.isArr = (qaa σ id).isArr) (h2 : B.es = (qaa σ id).es) (h3 : B.xs = (qaa σ id).xs) (h4 : B.isDead = (qaa σ id).isDead) (hid : id < σ.length) :
  (qaa (σ.set id B) i).isArr = (qaa σ i).isArr ∧ (qaa (σ.set id B) i).es = (qaa σ i).es ∧ (qaa (σ.set id B) i).xs = (qaa σ i).xs ∧ (qaa (σ.set id B) i).isDead = (qaa σ i).isDead := by
 by_cases e : id = i
 ·subst e; rw [qbo hid]; exact ⟨h1, h2, h3, h4⟩
 ·rw [qbx e]; exact ⟨rfl, rfl, rfl, rfl⟩
theorem qaf.weak {f : FuncId} {args : List AV} {σ' : Sto} {R : AV → Sto → Prop} (h : qhn 0 σ.length [] σ [] σ') (hc : qaf P Gl f args σ' R) : qaf P Gl f args σ R := by
 intro w I μ vals hR hG hl hv
 obtain ⟨I', μ', r1, _, r3⟩ := h w I μ (⟨#[], []⟩ : Act) hR ⟨rfl, rfl, fun t => .undef _⟩ (Nat.le_refl _)
 refine (hc w I' μ' vals r1 (hG.keep r3) hl fun i v u h1 h2 => (hv i v u h1 h2).keep r3).mono fun v w' ⟨r, s, J, ν, q1, q2, q3, q4⟩ => ?_
 exact ⟨r, s, J, ν, q1, r3.trans (q2.mono r3.len), q3, q4⟩
end Go.AM


set_option linter.unusedVariables false
namespace Go.AM
variable {P : Program} {Gl : qa5} {w : World} {I : Im} {μ : Pos} {σ : Sto}
theorem Rel.remap (h : Rel w I μ σ) {id : Nat} {ik : Option IntKind} {f f' : Key → Option AV} (hb : qaa σ id = .map ik f) (hid : id < σ.length)
  (hc : ∀ k, (f k = none ∧ f' k = none) ∨ ∃ v v', f k = some v ∧ f' k = some v' ∧ ∀ u, qa8 w I μ σ u v → qa8 w I μ σ u v') :
  Rel w I μ (σ.set id (.map ik f')) ∧ qce σ.length w I μ σ w I μ (σ.set id (.map ik f')) := by
 have hs := fun i => Qms σ id i (.map ik f') (by rw [hb]; rfl) (by rw [hb]; rfl) (by rw [hb]; rfl) (by rw [hb]; rfl) hid
 have k : qce σ.length w I μ σ w I μ (σ.set id (.map ik f')) :=
  ⟨rfl, rfl, rfl, Nat.le_refl _, fun _ h => h, fun _ h => h, fun _ h => .inl h, fun _ _ => rfl, fun _ => Nat.le_refl _, by simp, fun i hi ha => by
   obtain ⟨a1, a2, a3, a4⟩ := hs i
   refine ⟨by unfold qb6 at ha ⊢; rw [← a4]; exact ha, rfl, a1, a2, by rw [a3]; exact Nat.le_refl _⟩⟩
 refine ⟨⟨h.imm, fun i hi => ?_, fun i j b b' o o' hij hi hj h1 h2 => ?_⟩, k⟩
 ·rw [List.length_set] at hi
  by_cases e : id = i
  ·subst e
   rw [qbo hid]
   have hB := h.blk id hid
   rw [hb] at hB
   obtain ⟨b, es, clock, q1, q2, q3, q4⟩ := hB
   refine ⟨b, es, clock, q1, q2, q3, ⟨q4.keys, q4.nodup, fun key v' hf hv' => ?_, fun key hf hv' => ?_⟩⟩
   ·rcases hc key with ⟨_, e2⟩ | ⟨v, v2, e1, e2, e3⟩
    ·rw [e2] at hv'; cases hv'
    ·rw [e2] at hv'; cases hv'
     obtain ⟨e, he, hk, hr⟩ := q4.hit key v hf e1
     exact ⟨e, he, hk, (e3 _ hr).keep k⟩
   ·rcases hc key with ⟨e1, _⟩ | ⟨v, v2, e1, e2, e3⟩
    ·exact q4.miss key hf e1
    ·rw [e2] at hv'; cases hv'
  ·rw [qbx e]
   exact (h.blk i hi).keep k rfl fun _ _ _ _ => ⟨rfl, fun hn => hn⟩
 ·have ow : ∀ i, (qaa (σ.set id (.map ik f')) i).own = true → (qaa σ i).own = true := fun i hi => by
   by_cases e : id = i
   ·subst e; rw [hb]; rfl
   ·rwa [qbx e] at hi
  exact h.apart i j b b' o o' hij (ow i hi) (ow j hj) h1 h2
theorem Qb4 {n m : Nat} {env : Env} (id : Nat) {ik : Option IntKind} {f : Key → Option AV} (L : List Nat) (hb : qaa σ id = .map ik f) (hid : id < σ.length) (hd : ∀ k v, f k = some v → v.isD σ = true ∧ ∀ i ∈ v.refs, i ∈ L) (hL : ∀ i ∈ L, (qaa σ i).isArr = true) :
  qhn n m env σ env ((freezeL σ L).set id (.map ik fun k => (f k).map fun v => .d (v.toD σ))) := fun w I μ a h1 h2 h3 => by
 obtain ⟨I', r1, r2, r3, r4, r5, r6, r7, r8⟩ := qd5 h1 L
 have hni : id ∉ L := fun hm => by
  have := hL id hm
  rw [hb] at this; cases this
 obtain ⟨s1, s2⟩ := r1.remap (f' := fun k => (f k).map fun v => .d (v.toD σ)) (by rw [r7 id hni]; exact hb) (by rw [r3]; exact hid) (fun k => by
  cases hf : f k with
  | none => exact .inl ⟨rfl, rfl⟩
  | some v =>
   refine .inr ⟨v, _, rfl, rfl, fun u hu => .d _ _ ?_⟩
   obtain ⟨d1, d2⟩ := hd k v hf
   have := qki r1 hu (by rw [qlw (fun id => (r5 id).2)]; exact d1) (fun i hi => r4 i (d2 i hi) (hL i (d2 i hi)))
   rwa [qkj (fun id => (r5 id).1)] at this)
 rw [r3] at s2
 exact ⟨I', μ, s1, h2.keep (r2.trans s2), (r2.trans s2).mono h3⟩
end Go.AM


namespace Go.AM
theorem Qgn : ∀ x : List UInt8, Op.bytesLess x x = false
 | [] => rfl
 | a :: x => by rw [Op.bytesLess, Qgn x]; simp
theorem qz2 : ∀ {x y z : List UInt8}, Op.bytesLess x y = true → Op.bytesLess y z = true → Op.bytesLess x z = true
 | [], [], z, h, _ => by simp [Op.bytesLess] at h
 | [], b :: y, [], _, h => by simp [Op.bytesLess] at h
 | [], b :: y, c :: z, _, _ => by simp [Op.bytesLess]
 | a :: x, [], z, h, _ => by simp [Op.bytesLess] at h
 | a :: x, b :: y, [], _, h => by simp [Op.bytesLess] at h
 | a :: x, b :: y, c :: z, h1, h2 => by
  have ih := @qz2 x y z
  simp only [Op.bytesLess, Bool.or_eq_true, decide_eq_true_eq, Bool.and_eq_true, beq_iff_eq] at h1 h2 ⊢
  rcases h1 with h1 | ⟨rfl, h1⟩
  ·rcases h2 with h2 | ⟨rfl, h2⟩
   ·exact .inl (UInt8.lt_trans h1 h2)
   ·exact .inl h1
  ·rcases h2 with h2 | ⟨rfl, h2⟩
   ·exact .inl h2
   ·exact .inr ⟨rfl, ih h1 h2⟩
theorem q9t : ∀ {x y : List UInt8}, Op.bytesLess x y = false → Op.bytesLess y x = false → x = y
 | [], [], _, _ => rfl
 | [], b :: y, h, _ => by simp [Op.bytesLess] at h
 | a :: x, [], _, h => by simp [Op.bytesLess] at h
 | a :: x, b :: y, h1, h2 => by
  have ih := @q9t x y
  simp only [Op.bytesLess, Bool.or_eq_false_iff, decide_eq_false_iff_not, Bool.and_eq_false_iff, beq_eq_false_iff_ne] at h1 h2
  have e : a = b := by
   have p := h1.1
   have q := h2.1
   rw [UInt8.not_lt] at p q
   exact UInt8.le_antisymm q p
  subst e
  have h1' : Op.bytesLess x y = false := h1.2.elim (fun h => absurd rfl h) id
  have h2' : Op.bytesLess y x = false := h2.2.elim (fun h => absurd rfl h) id
  rw [ih h1' h2']
theorem Qjs {x y : List UInt8} (h : Op.bytesLess x y = true) : Op.bytesLess y x = false := by
 rw [Bool.eq_false_iff]
 intro h2
 have := qz2 h h2
 rw [Qgn] at this; cases this
theorem Qrb {x y : List UInt8} (h : Op.bytesLess x y = true) : x ≠ y := fun e => by subst e; rw [Qgn] at h; cases h
theorem Qjr (x y : List UInt8) : (Op.bytesLess x y = true ∧ x ≠ y ∧ Op.bytesLess y x = false) ∨ (Op.bytesLess x y = false ∧ x = y ∧ Op.bytesLess y x = false) ∨ (Op.bytesLess x y = false ∧ x ≠ y ∧ Op.bytesLess y x = true) := by
 cases h1 : Op.bytesLess x y with
 | true => exact .inl ⟨rfl, Qrb h1, Qjs h1⟩
 | false =>
  cases h2 : Op.bytesLess y x with
  | true => exact .inr (.inr ⟨rfl, fun e => Qrb h2 e.symm, rfl⟩)
  | false => exact .inr (.inl ⟨rfl, q9t h1 h2, rfl⟩)
end Go.AM


set_option linter.unusedVariables false
namespace Go.AM
variable {P : Program} {Gl : qa5} {w : World} {I : Im} {μ : Pos} {σ : Sto}
theorem Rel.relay (h : Rel w I μ σ) {id : Nat} {b base : Nat} {B : Blk} (hid : id < σ.length) (hown : (qaa σ id).own = true) (hμ : μ id = some (b, base))
  (hB : qd8 w I (qdt μ σ.length (b, base)) (σ.set id .dead ++ [B]) σ.length B) : Rel w I (qdt μ σ.length (b, base)) (σ.set id .dead ++ [B]) ∧ qce σ.length w I μ σ w I (qdt μ σ.length (b, base)) (σ.set id .dead ++ [B]) := by
 have hl : (σ.set id .dead).length = σ.length := List.length_set ..
 have hold : ∀ i, i < σ.length → i ≠ id → qaa (σ.set id .dead ++ [B]) i = qaa σ i := fun i hi hne => by rw [qay (by rw [hl]; exact hi), qbx (Ne.symm hne)]
 have hdead : qaa (σ.set id .dead ++ [B]) id = .dead := by rw [qay (by rw [hl]; exact hid), qbo hid]
 have hnew : qaa (σ.set id .dead ++ [B]) σ.length = B := by
  have := qb3 (σ := σ.set id .dead) (B := B)
  rwa [hl] at this
 have hpos : ∀ i, i < σ.length → qdt μ σ.length (b, base) i = μ i := fun i hi => qcx _ _ (by omega)
 have k : qce σ.length w I μ σ w I (qdt μ σ.length (b, base)) (σ.set id .dead ++ [B]) :=
  ⟨rfl, rfl, rfl, Nat.le_refl _, fun _ h => h, fun _ h => h, fun _ h => .inl h, fun _ _ => rfl, fun _ => Nat.le_refl _, by simp, fun i hi ha => by
   by_cases e : i = id
   ·subst e
    unfold qb6 at ha
    rw [hdead] at ha; cases ha
   ·refine ⟨by unfold qb6 at ha ⊢; rw [hold i hi e] at ha; exact ha, hpos i hi, ?_, ?_, ?_⟩ <;> rw [hold i hi e]
    exact Nat.le_refl _⟩
 refine ⟨⟨h.imm, fun i hi => ?_, fun i j b1 b2 o1 o2 hij hi hj h1 h2 => ?_⟩, k⟩
 ·have hi' : i < σ.length + 1 := by simpa using hi
  rcases Nat.lt_or_ge i σ.length with hlt | hge
  ·by_cases e : i = id
   ·subst e; rw [hdead]; trivial
   ·rw [hold i hlt e]
    exact (h.blk i hlt).keep k (hpos i hlt) fun _ _ _ _ => ⟨rfl, fun hn => hn⟩
  ·have : i = σ.length := by omega
   subst this
   rw [hnew]; exact hB
 ·have old : ∀ i, (qaa (σ.set id .dead ++ [B]) i).own = true → i ≠ σ.length → i < σ.length ∧ i ≠ id ∧ (qaa σ i).own = true := fun i ho hne => by
   have h3 := qa3 ho
   have h4 : i < σ.length := by simp at h3; omega
   have h5 : i ≠ id := fun e => by subst e; rw [hdead] at ho; cases ho
   exact ⟨h4, h5, by rw [hold i h4 h5] at ho; exact ho⟩
  by_cases ei : i = σ.length
  ·subst ei
   have ej : j ≠ σ.length := fun e => hij e.symm
   obtain ⟨q1, q2, q3⟩ := old j hj ej
   rw [qbn] at h1
   simp only [Option.some.injEq, Prod.mk.injEq] at h1
   rw [hpos j q1] at h2
   rw [← h1.1]
   exact h.apart id j b b2 base o2 (Ne.symm q2) hown q3 hμ h2
  ·obtain ⟨q1, q2, q3⟩ := old i hi ei
   rw [hpos i q1] at h1
   by_cases ej : j = σ.length
   ·subst ej
    rw [qbn] at h2
    simp only [Option.some.injEq, Prod.mk.injEq] at h2
    rw [← h2.1]
    exact h.apart i id b1 b o1 base q2 q3 hown h1 hμ
   ·obtain ⟨r1, r2, r3⟩ := old j hj ej
    rw [hpos j r1] at h2
    exact h.apart i j b1 b2 o1 o2 hij q3 r3 h1 h2
end Go.AM


set_option linter.unusedVariables false
namespace Go.AM
variable {P : Program} {Gl : qa5} {w : World} {I : Im} {μ : Pos} {σ : Sto}
theorem Qjz (ds : List D) : qyp (ds.map AV.d) = some ds := by
 induction ds with
 | nil => rfl
 | cons d ds ih => simp [qyp, ih]
end Go.AM


set_option linter.unusedVariables false
namespace Go.AM
variable {P : Program} {Gl : qa5}
theorem q29 {w : World} {I : Im} {μ : Pos} {σ : Sto} (h : Rel w I μ σ) (k : Nat) (os : Array Obj) : qce σ.length w I μ σ (Sort.grow (w.drewN k) os) I μ σ := by
 refine ⟨rfl, rfl, rfl, ?_, fun _ h => h, fun _ h => h, fun _ h => .inl h, fun b hb => ?_, fun b => ?_, Nat.le_refl _, fun _ _ h => ⟨h, rfl, rfl, rfl, Nat.le_refl _⟩⟩
 ·simp [Sort.grow, World.drewN]
 ·have := h.imm b hb
  simp only [Sort.grow, World.drewN]
  rw [Array.getElem?_append_left this]
 ·rcases Nat.lt_or_ge b w.heap.size with hb | hb
  ·rw [qd7 (w := w) (w' := Sort.grow (w.drewN k) os)]
   ·exact Nat.le_refl _
   ·simp only [Sort.grow, World.drewN]
    rw [Array.getElem?_append_left hb]
  ·have : qb8 w b = 0 := by
    unfold qb8
    rw [Array.getElem?_eq_none hb]
   omega
theorem Qh1 {w : World} {I : Im} {μ : Pos} {σ : Sto} (h : Rel w I μ σ) (k : Nat) (os : Array Obj) : Rel (Sort.grow (w.drewN k) os) I μ σ := by
 refine ⟨fun b hb => ?_, fun id hid => ?_, h.apart⟩
 ·have := h.imm b hb
  simp [Sort.grow, World.drewN]; omega
 ·refine (h.blk id hid).keep (q29 h k os) rfl fun ho b o hμ => ⟨?_, fun hn => hn⟩
  have := (qif h hid ho hμ).1
  simp only [Sort.grow, World.drewN]
  rw [Array.getElem?_append_left this]
theorem qy7 {f : FuncId} {fn : Func} (hf : P.funcs[f]? = some fn) (hname : (fn.name == "runtime.NumGoroutine") = false) (hb : fn.body.isSome = true) {args : List AV} {vs : List Value} {v : Value} {r : AV}
  (hv : ∀ (w : World) I μ σ (vals : List Value), (∀ (i : Nat) (v : Value) (u : AV), vals[i]? = some v → args[i]? = some u → qa8 w I μ σ v u) → vals.length = args.length → vals = vs)
  (h : ∀ (w : World) I, qe2 Gl w I → Calls P f vs.toArray w fun e w' => e = .returned v ∧ ∃ k os, w' = Sort.grow (w.drewN k) os)
  (hr : ∀ (w : World) I μ σ, qa8 w I μ σ v r) : qbw P Gl f args r := by
 intro σ w I μ vals hR hG hl hreps
 obtain rfl := hv w I μ σ vals hreps hl
 have hne : ¬ fn.name = "runtime.NumGoroutine" := by simpa using hname
 obtain ⟨c, hc⟩ := Option.isSome_iff_exists.1 hb
 have e : (callFunc f vals.toArray).run P w = .ok (.enter f vals.toArray) w := by simp [callFunc, hf, hc, hne]
 rw [e]
 refine ⟨rfl, (h w I hG).mono fun x w' ⟨hx, k, os, hw⟩ => ⟨v, hx, ?_⟩⟩
 subst hw
 exact ⟨r, σ, I, μ, Qh1 hR k os, q29 hR k os, hr _ _ _ _, rfl, rfl⟩
theorem Qcn {k : IntKind} {a : Int} {w : World} {I : Im} {μ : Pos} {σ : Sto} {vals : List Value} (hv : ∀ (i : Nat) (v : Value) (u : AV), vals[i]? = some v → [AV.d (.int k a)][i]? = some u → qa8 w I μ σ v u) (hl : vals.length = [AV.d (.int k a)].length) : vals = [.int k a] := by
 match vals, hl with
 | [x], _ =>
  have h1 := (hv 0 x _ rfl rfl).inv_d
  cases h1
  rfl
end Go.AM


namespace Go.AM
open Go.RowKit Go.ChangeShapes Go.WideShapes
def q0h (P : Program) : List Field → Nat → Option Nat
 | [], o => some o
 | f :: r, o => if f.offset = o then q0h P r (o + P.cellsOf f.type) else none
def qjy (P : Program) : Nat → TypeId → Bool
 | 0, _ => false
 | n + 1, t => match P.underlying t with
  | some .bool => true
  | some (.int _) => true
  | some .string => true
  | some (.slice e) => decide (0 < P.cellsOf e) && qjy P n e
  | some (.struct fs) => (q0h P fs.toList 0 == some (P.cellsOf t)) && fs.toList.all fun f => qjy P n f.type
  | _ => false
def qms (P : Program) (T : TypeId → List D → Prop) : List Field → List D → Prop
 | [], ds => ds = []
 | f :: r, ds => ∃ a b, ds = a ++ b ∧ a.length = P.cellsOf f.type ∧ T f.type a ∧ qms P T r b
def qet (P : Program) : Nat → TypeId → List D → Prop
 | 0, _, _ => False
 | n + 1, t, ds => match P.underlying t with
  | some .bool => ∃ b, ds = [.bool b]
  | some (.int k) => ∃ i, ds = [.int k i] ∧ (Lit.int k i).wf = true
  | some .string => ∃ s, ds = [.str s] ∧ s.length ≤ maxLen
  | some (.slice e) => ∃ xs, ds = [.sl xs] ∧ xs.length ≤ maxLen ∧ ∀ x ∈ xs, qet P n e x.cells ∧ x.cells.length = P.cellsOf e ∧ x.isAgg = (qbg P e).getD false
  | some (.struct fs) => qms P (qet P n) fs.toList ds
  | _ => False
variable {H : Type} {enc : TypeId × Value → H} {P : Program} {w : World} {I : Im} {spare : Nat → Bool} {held : Bool} {base : Nat}
structure qcu (w : World) (I : Im) (vs : List Value) (ds : List D) : Prop where
 len : ds.length = vs.length
 rep : ∀ (j : Nat) (v : Value) (x : D), vs[j]? = some v → ds[j]? = some x → qc6 w I v x
 one : ∀ x ∈ ds, x.one = true
theorem qcu.single {v : Value} {x : D} (h : qc6 w I v x) (ho : x.one = true) : qcu w I [v] [x] :=
 ⟨rfl, fun j v' x' hv hx => by
  cases j with
  | zero => simp at hv hx; subst hv; subst hx; exact h
  | succ j => simp at hv, fun y hy => by simp at hy; subst hy; exact ho⟩
theorem qcu.append {vs us : List Value} {ds es : List D} (h : qcu w I vs ds) (k : qcu w I us es) : qcu w I (vs ++ us) (ds ++ es) := by
 refine ⟨by simp [h.len, k.len], fun j v x hv hx => ?_, fun x hx => ?_⟩
 ·rcases Nat.lt_or_ge j vs.length with hj | hj
  ·rw [List.getElem?_append_left hj] at hv
   rw [List.getElem?_append_left (by rw [h.len]; exact hj)] at hx
   exact h.rep j v x hv hx
  ·rw [List.getElem?_append_right hj] at hv
   rw [List.getElem?_append_right (by rw [h.len]; exact hj), h.len] at hx
   exact k.rep _ v x hv hx
 ·rcases List.mem_append.1 hx with hx | hx
  ·exact h.one x hx
  ·exact k.one x hx
theorem qsx {α β : Type} {f : α → Option β} : ∀ {l : List α} {r : List β}, l.mapM f = some r → ∀ x ∈ l, ∃ y, f x = some y
 | [], _, _, x, hx => by simp at hx
 | a :: l, r, h, x, hx => by
  rw [List.mapM_cons] at h
  cases ha : f a with
  | none => rw [ha] at h; simp at h
  | some b =>
   rw [ha] at h
   cases hl : l.mapM f with
   | none => rw [hl] at h; simp at h
   | some r' =>
    rcases List.mem_cons.1 hx with rfl | hx
    ·exact ⟨b, ha⟩
    ·exact qsx hl x hx
theorem qti {n fuel : Nat} {cs : List Value} (ih : ∀ {t : TypeId} {cs : List Value} {x : DataW H × List MemPlace}, qjy P n t = true → DataW.trod enc P w base spare held fuel t cs = some x → ∃ ds, qcu w I cs ds ∧ qet P n t ds) :
  ∀ (fs : List Field) (o : Nat), q0h P fs o = some cs.length → o ≤ cs.length → (∀ f ∈ fs, qjy P n f.type = true) → (∀ f ∈ fs, ∃ y, DataW.trod enc P w base spare held fuel f.type ((cs.drop f.offset).take (P.cellsOf f.type)) = some y) →
   ∃ ds, qcu w I (cs.drop o) ds ∧ qms P (qet P n) fs ds
 | [], o, ht, _, _, _ => by
  simp only [q0h, Option.some.injEq] at ht
  subst ht
  exact ⟨[], ⟨by simp, fun j v x hv => by simp at hv, fun x hx => by simp at hx⟩, rfl⟩
 | f :: r, o, ht, hle, hd, hr => by
  simp only [q0h] at ht
  split at ht
  ·rename_i ho
   obtain ⟨y, hy⟩ := hr f (by simp)
   obtain ⟨da, h1, h2⟩ := ih (hd f (by simp)) hy
   have hb : o + P.cellsOf f.type ≤ cs.length := by
    have mono : ∀ (l : List Field) (a b : Nat), q0h P l a = some b → a ≤ b := by
     intro l
     induction l with
     | nil => intro a b h; simp only [q0h, Option.some.injEq] at h; omega
     | cons g l ihl =>
      intro a b h
      simp only [q0h] at h
      split at h
      ·have := ihl _ _ h; omega
      ·cases h
    exact mono _ _ _ ht
   obtain ⟨db, h3, h4⟩ := qti ih r (o + P.cellsOf f.type) ht hb (fun g hg => hd g (by simp [hg])) (fun g hg => hr g (by simp [hg]))
   rw [ho] at h1
   have e : cs.drop o = (cs.drop o).take (P.cellsOf f.type) ++ cs.drop (o + P.cellsOf f.type) := by
    rw [← List.drop_drop, List.take_append_drop]
   refine ⟨da ++ db, by rw [e]; exact h1.append h3, da, db, rfl, ?_, h2, h4⟩
   rw [h1.len, List.length_take, List.length_drop]; omega
  ·cases ht
theorem Qjo {a : Addr} {k : Nat} {vs : List Value} (h : w.cells? base a k = some vs) : vs.length = k ∧ ∀ j, j < k → w.cell? (a.add j) = vs[j]? := by
 unfold World.cells? at h
 split at h
 ·have gen : ∀ (l : List Nat) (vs : List Value), (l.mapM (fun i => w.cell? (a.add i)) : Option (List Value)) = some vs → vs.length = l.length ∧ ∀ (j i : Nat), l[j]? = some i → w.cell? (a.add i) = vs[j]? := by
   intro l
   induction l with
   | nil => intro vs h; simp at h; subst h; exact ⟨rfl, fun j i hj => by simp at hj⟩
   | cons x l ih =>
    intro vs h
    rw [List.mapM_cons] at h
    cases hx : w.cell? (a.add x) with
    | none => rw [hx] at h; simp at h
    | some v =>
     rw [hx] at h
     cases hl : l.mapM (fun i => w.cell? (a.add i)) with
     | none => rw [hl] at h; simp at h
     | some r =>
      rw [hl] at h
      simp at h
      subst h
      obtain ⟨i1, i2⟩ := ih r hl
      refine ⟨by simp [i1], fun j i hj => ?_⟩
      cases j with
      | zero => simp at hj; subst hj; simpa using hx
      | succ j => simpa using i2 j i (by simpa using hj)
  obtain ⟨g1, g2⟩ := gen _ _ h
  exact ⟨by simpa using g1, fun j hj => g2 j j (by simp [hj])⟩
 ·cases h
theorem Qn7 {a : Addr} {v : Value} (h : w.cell? a = some v) : a.block < w.heap.size ∧ a.spot = none := by
 unfold World.cell? at h
 split at h
 ·rename_i c _ _ hc
  split at h
  ·cases h
  ·rename_i hs
   refine ⟨?_, by simpa using hs⟩
   rcases Nat.lt_or_ge a.block w.heap.size with h' | h'
   ·exact h'
   ·rw [Array.getElem?_eq_none h'] at hc; cases hc
 ·cases h
theorem qp7 {n : Nat} {e : TypeId} {ds : List D} (h : qet P n e ds) (hk : (qbg P e).getD false = false) : ∃ x, ds = [x] ∧ x.isAgg = false := by
 cases n with
 | zero => exact h.elim
 | succ n =>
  simp only [qet] at h
  unfold qbg at hk
  cases hu : P.underlying e with
  | none => rw [hu] at h; exact h.elim
  | some td =>
   rw [hu] at h hk
   cases td <;> simp only at h hk
   all_goals first
    | exact h.elim
    | (obtain ⟨x, rfl⟩ := h; exact ⟨_, rfl, rfl⟩)
    | (obtain ⟨x, rfl, _⟩ := h; exact ⟨_, rfl, rfl⟩)
    | (simp at hk)
theorem Qoh {a : Addr} (hs : a.spot = none) (i j : Nat) : (a.add i).add j = ⟨a.block, a.off + i + j, none⟩ := by
 obtain ⟨b, o, sp⟩ := a
 simp only at hs
 subst hs
 unfold Addr.add
 by_cases hi : i = 0 <;> by_cases hj : j = 0 <;> simp [hi, hj]
theorem Qah (hI : ∀ b, b < w.heap.size → I.rd b) {n : Nat} {e : TypeId} {a : Addr} {len cap : Nat} (he : 0 < P.cellsOf e) (hlc : len ≤ cap) (hcm : cap ≤ maxLen)
  (hel : ∀ i, i < len → ∃ (vs : List Value) (ds : List D), vs.length = P.cellsOf e ∧ (∀ j, j < P.cellsOf e → w.cell? ((a.add (i * P.cellsOf e)).add j) = vs[j]?) ∧ qcu w I vs ds ∧ qet P n e ds) :
  ∃ xs, qc6 w I (.slice (some a) len cap) (.sl xs) ∧ xs.length ≤ maxLen ∧ ∀ x ∈ xs, qet P n e x.cells ∧ x.cells.length = P.cellsOf e ∧ x.isAgg = (qbg P e).getD false := by
 rcases Nat.eq_zero_or_pos len with hz | hpos
 ·subst hz
  exact ⟨[], .nil _ _, by simp, fun x hx => by simp at hx⟩
 have hel2 : ∀ i, ∃ (vs : List Value) (x : D), i < len → (vs.length = P.cellsOf e ∧ (∀ j, j < P.cellsOf e → w.cell? ((a.add (i * P.cellsOf e)).add j) = vs[j]?) ∧ qcu w I vs x.cells ∧ qet P n e x.cells ∧ x.isAgg = (qbg P e).getD false) := fun i => by
  by_cases hi : i < len
  ·obtain ⟨vs, ds, h1, h2, h3, h4⟩ := hel i hi
   cases hk : (qbg P e).getD false with
   | true => exact ⟨vs, .agg ds, fun _ => ⟨h1, h2, h3, h4, rfl⟩⟩
   | false =>
    obtain ⟨x, rfl, hx⟩ := qp7 h4 hk
    have hc : x.cells = [x] := by cases x <;> first | rfl | (simp [D.isAgg] at hx)
    exact ⟨vs, x, fun _ => ⟨h1, h2, by rw [hc]; exact h3, by rw [hc]; exact h4, hx⟩⟩
  ·exact ⟨[], default, fun h => absurd h hi⟩
 let vsOf : Nat → List Value := fun i => Classical.choose (hel2 i)
 let xOf : Nat → D := fun i => Classical.choose (Classical.choose_spec (hel2 i))
 have hsp : ∀ i, i < len → (vsOf i).length = P.cellsOf e ∧ (∀ j, j < P.cellsOf e → w.cell? ((a.add (i * P.cellsOf e)).add j) = (vsOf i)[j]?) ∧ qcu w I (vsOf i) (xOf i).cells ∧ qet P n e (xOf i).cells ∧ (xOf i).isAgg = (qbg P e).getD false :=
  fun i hi => Classical.choose_spec (Classical.choose_spec (hel2 i)) hi
 have h0 := (hsp 0 hpos).2.1 0 he
 have hp0 : 0 < (vsOf 0).length := by rw [(hsp 0 hpos).1]; exact he
 have hv0 : (vsOf 0)[0]? = some ((vsOf 0)[0]'hp0) := List.getElem?_eq_getElem hp0
 rw [hv0] at h0
 have ha : a.spot = none ∧ a.block < w.heap.size := by
  have := Qn7 h0
  simp only [Nat.zero_mul, Addr.add, if_true] at this
  exact ⟨this.2, this.1⟩
 let xs := (List.range len).map xOf
 have hlen : xs.length = len := by simp [xs]
 have hget : ∀ (i : Nat) (x : D), xs[i]? = some x → i < len ∧ x = xOf i := fun i x hx => by
  have hi : i < len := by
   rcases Nat.lt_or_ge i len with h | h
   ·exact h
   ·rw [List.getElem?_eq_none (by omega)] at hx; cases hx
  refine ⟨hi, ?_⟩
  simp only [xs, List.getElem?_map, List.getElem?_range hi, Option.map_some, Option.some.injEq] at hx
  exact hx.symm
 have hmem : ∀ x ∈ xs, ∃ i, i < len ∧ x = xOf i := fun x hx => by
  obtain ⟨i, hi, rfl⟩ := List.mem_map.1 hx
  exact ⟨i, List.mem_range.1 hi, rfl⟩
 refine ⟨xs, ?_, by omega, fun x hx => ?_⟩
 ·have hv : (Value.slice (some a) len cap) = .slice (some ⟨a.block, a.off, none⟩) xs.length cap := by
   rw [hlen]
   obtain ⟨b, o, sp⟩ := a
   simp only at ha
   rw [ha.1]
  rw [hv]
  refine .sl a.block a.off (P.cellsOf e) cap xs (fun i j => (vsOf i).getD j Go.undef) (hI _ ha.2) (by omega) (fun x hx => ?_) (fun x hx => ?_) (fun i j hi hj => ?_) (fun i j x y hx hy => ?_)
  ·obtain ⟨i, hi, rfl⟩ := hmem x hx
   have := (hsp i hi).2.2.1.len
   rw [this, (hsp i hi).1]
  ·obtain ⟨i, hi, rfl⟩ := hmem x hx
   exact (hsp i hi).2.2.1.one
  ·obtain ⟨g1, g2, _⟩ := hsp i (by omega)
   have := g2 j hj
   rw [Qoh ha.1] at this
   rw [this]
   have hj' : j < (vsOf i).length := by rw [g1]; exact hj
   have : (vsOf i)[j]? = some ((vsOf i)[j]'hj') := List.getElem?_eq_getElem hj'
   rw [this, List.getD_eq_getElem?_getD, this]; rfl
  ·obtain ⟨hi, rfl⟩ := hget i x hx
   obtain ⟨g1, g2, g3, _⟩ := hsp i hi
   have hj : j < (vsOf i).length := by
    rw [← g3.len]
    rcases Nat.lt_or_ge j (xOf i).cells.length with h | h
    ·exact h
    ·rw [List.getElem?_eq_none h] at hy; cases hy
   have hvj : (vsOf i)[j]? = some (vsOf i)[j] := List.getElem?_eq_getElem hj
   have := g3.rep j _ y hvj hy
   rw [List.getD_eq_getElem?_getD, hvj]; exact this
 ·obtain ⟨i, hi, rfl⟩ := hmem x hx
  obtain ⟨g1, g2, g3, g4, g5⟩ := hsp i hi
  exact ⟨g4, by rw [g3.len, g1], g5⟩
theorem Qai (hI : ∀ b, b < w.heap.size → I.rd b) : ∀ (n fuel : Nat) {t : TypeId} {cs : List Value} {x : DataW H × List MemPlace}, qjy P n t = true → DataW.trod enc P w base spare held fuel t cs = some x → ∃ ds, qcu w I cs ds ∧ qet P n t ds := by
 intro n
 induction n with
 | zero => intro fuel t cs x hd; simp [qjy] at hd
 | succ n ih =>
  intro fuel t cs x hd h
  cases fuel with
  | zero => simp [DataW.trod] at h
  | succ fuel =>
   simp only [qjy] at hd
   simp only [qet]
   cases hu : P.underlying t with
   | none => rw [hu] at hd; cases hd
   | some td =>
    rw [hu] at hd
    simp only [DataW.trod, hu] at h
    cases td <;> simp only at hd <;> try (cases hd; done)
    · -- bool
     split at h <;> first
      | (rename_i b _; simp only [Option.some.injEq] at *; exact ⟨[.bool b], qcu.single (.bool b) rfl, b, rfl⟩)
      | (simp_all; done)
    · -- int
     rename_i k
     split at h <;> first
      | (simp_all; done)
      | skip
     rename_i k1 k2 i heq
     cases heq
     split at h
     ·rename_i hw
      obtain ⟨rfl, hw⟩ := hw
      exact ⟨[.int _ i], qcu.single (.int _ i) rfl, i, rfl, hw⟩
     ·cases h
    · -- string
     split at h <;> first
      | (simp_all; done)
      | skip
     rename_i s heq
     split at h
     ·rename_i hs
      refine ⟨[.str s.data.toList], qcu.single ?_ rfl, s.data.toList, rfl, by simpa using hs⟩
      have : s = ⟨s.data.toList.toArray⟩ := by cases s; simp
      rw [this]
      exact .str _
     ·cases h
    · -- slice
     rename_i e
     simp only [Bool.and_eq_true, decide_eq_true_eq] at hd
     split at h <;> first
      | (simp_all; done)
      | skip
     ·exact ⟨[.sl []], qcu.single (.nil none 0) rfl, [], rfl, by simp, fun x hx => by simp at hx⟩
     ·rename_i e' a len cap heq
      cases heq
      split at h
      ·rename_i hb
       rw [Option.bind_eq_some_iff] at h
       obtain ⟨els, hels, _⟩ := h
       have hall := qsx hels
       have hel : ∀ i, i < len → ∃ (vs : List Value) (ds : List D), vs.length = P.cellsOf e ∧ (∀ j, j < P.cellsOf e → w.cell? ((a.add (i * P.cellsOf e)).add j) = vs[j]?) ∧ qcu w I vs ds ∧ qet P n e ds := fun i hi => by
        obtain ⟨y, hy⟩ := hall i (List.mem_range.2 hi)
        rw [Option.bind_eq_some_iff] at hy
        obtain ⟨vs, h1, h2⟩ := hy
        obtain ⟨h3, h4⟩ := Qjo h1
        obtain ⟨ds, h5, h6⟩ := ih fuel hd.2 h2
        exact ⟨vs, ds, h3, h4, h5, h6⟩
       obtain ⟨xs, r1, r2, r3⟩ := Qah hI hd.1 hb.2.1 hb.2.2 hel
       exact ⟨[.sl xs], qcu.single r1 rfl, xs, rfl, r2, r3⟩
      ·cases h
    · -- struct
     rename_i fs
     simp only [Bool.and_eq_true, beq_iff_eq, List.all_eq_true] at hd
     split at h <;> first
      | (simp_all; done)
      | skip
     rename_i fs' heq
     cases heq
     split at h
     ·rename_i hl
      rw [Option.map_eq_some_iff] at h
      obtain ⟨xs, hxs, _⟩ := h
      obtain ⟨ds, h1, h2⟩ := qti (I := I) (fun {t cs x} h1 h2 => ih fuel h1 h2) fs.toList 0 (by rw [hl]; exact hd.1) (Nat.zero_le _) (fun f hf => hd.2 f hf) (fun f hf => qsx hxs f hf)
      exact ⟨ds, by simpa using h1, h2⟩
     ·cases h
def qt2 (P : Program) (n : Nat) (t : TypeId) (x : D) : Prop := qet P n t x.cells ∧ x.isAgg = (qbg P t).getD false
theorem Qag (hI : ∀ b, b < w.heap.size → I.rd b) {n : Nat} {t : TypeId} {v : Value} {d : DataW H} {ps : List MemPlace} (hd : qjy P n t = true) (hok : Value.okWide P w .any base t v)
  (h : DataW.Trod enc P w 0 spare held t v d ps) : ∃ x, qc6 w I v x ∧ qt2 P n t x := by
 obtain ⟨fuel, h⟩ := h
 obtain ⟨ds, h1, h2⟩ := Qai hI n fuel hd h
 unfold qt2
 cases hk : (qbg P t).getD false with
 | true =>
  have : ∃ cs, v = .agg cs := by
   unfold Value.okWide at hok
   unfold qbg at hk
   split at hok
   ·obtain ⟨cs, e, _⟩ := hok; exact ⟨cs, e⟩
   ·obtain ⟨cs, e, _⟩ := hok; exact ⟨cs, e⟩
   ·rename_i hns hna
    cases hu : P.underlying t with
    | none => rw [hu] at hk; simp at hk
    | some td =>
     rw [hu] at hk
     cases td <;> simp at hk
     all_goals first | exact absurd hu (hns _) | exact absurd hu (hna _ _)
  obtain ⟨cs, rfl⟩ := this
  refine ⟨.agg ds, ?_, h2, rfl⟩
  have e : (Value.agg cs).cells.toList = cs.toList := rfl
  rw [e] at h1
  have := qc6.agg (w := w) (I := I) cs.toList ds h1.len.symm h1.one h1.rep
  simpa using this
 | false =>
  obtain ⟨x, rfl, hx⟩ := qp7 h2 hk
  have hc : x.cells = [x] := by cases x <;> first | rfl | (simp [D.isAgg] at hx)
  refine ⟨x, ?_, by rw [hc]; exact h2, hx⟩
  have hl := h1.len
  have : v.cells.toList = [v] := by
   cases v <;> first | rfl | skip
   rename_i cs
   exfalso
   unfold Value.okWide Cell.okWide Cell.ok at hok
   unfold qbg at hk
   cases hu : P.underlying t with
   | none => rw [hu] at hok; exact hok
   | some td =>
    rw [hu] at hk hok
    cases td <;> simp at hk hok
  rw [this] at h1
  exact h1.rep 0 v x rfl rfl
def qpx (P : Program) (n : Nat) : List TypeId → List D → Prop
 | [], xs => xs = []
 | t :: ts, xs => ∃ x r, xs = x :: r ∧ qt2 P n t x ∧ qpx P n ts r
theorem q67 (hI : ∀ b, b < w.heap.size → I.rd b) {n : Nat} : ∀ (ts : List TypeId) (vs : List Value) (ds : List (DataW H)) (ps : List MemPlace), (∀ t ∈ ts, qjy P n t = true) →
  (∀ (j : Nat) t v, ts[j]? = some t → vs[j]? = some v → Value.okWide P w .any base t v) → DataW.TrodAll enc P w 0 spare held ts vs ds ps →
  ∃ xs : List D, qpx P n ts xs ∧ vs.length = xs.length ∧ ds.length = ts.length ∧ ∀ (i : Nat) (v : Value) (x : D), vs[i]? = some v → xs[i]? = some x → qc6 w I v x
 | [], vs, ds, ps, _, _, h => by
  cases vs <;> cases ds <;> simp only [DataW.TrodAll] at h
  exact ⟨[], rfl, rfl, rfl, fun i v x hv => by simp at hv⟩
 | t :: ts, vs, ds, ps, hd, hok, h => by
  cases vs <;> cases ds <;> simp only [DataW.TrodAll] at h
  rename_i v vs d ds
  obtain ⟨p, q, h1, h2, _⟩ := h
  obtain ⟨x, r1, r2⟩ := Qag hI (hd t (by simp)) (hok 0 t v rfl rfl) h1
  obtain ⟨xs, r3, r4, r5, r6⟩ := q67 hI ts vs ds q (fun t ht => hd t (by simp [ht])) (fun j t v h1 h2 => hok (j + 1) t v (by simpa using h1) (by simpa using h2)) h2
  refine ⟨x :: xs, ⟨x, xs, rfl, r2, r3⟩, by simp [r4], by simp [r5], fun i u y hu hy => ?_⟩
  cases i with
  | zero => simp at hu hy; subst hu; subst hy; exact r1
  | succ i => exact r6 i u y (by simpa using hu) (by simpa using hy)
theorem qkg {w' : World} (hl : laidOutB P = true) (hb : Below w.heap.size w w') : ∀ (ts : List TypeId) (vs : List Value) (ds : List (DataW H)) (ps : List MemPlace), (∀ t ∈ ts, P.readableRec t = true ∧ t < P.types.size) →
  DataW.TrodAll enc P w 0 (fun _ => true) true ts vs ds ps → (∀ x ∈ ps, x.block < w.heap.size) → DataW.TrodAll enc P w' 0 (fun b => decide (b < w.heap.size)) true ts vs ds ps
 | [], vs, ds, ps, _, h, _ => by
  cases vs <;> cases ds <;> simp only [DataW.TrodAll] at h ⊢
  exact h
 | t :: ts, vs, ds, ps, ht, h, hlt => by
  cases vs <;> cases ds <;> simp only [DataW.TrodAll] at h ⊢
  obtain ⟨p, q, h1, h2, rfl⟩ := h
  have h3 := ht t (by simp)
  exact ⟨p, q, Below.trod hl h3.1 h3.2 h1 hb fun x hx => hlt x (List.mem_append.2 (.inl hx)), qkg hl hb ts _ _ q (fun t h => ht t (by simp [h])) h2 fun x hx => hlt x (List.mem_append.2 (.inr hx)), rfl⟩
theorem qce.below {m : Nat} {w' : World} {I' : Im} {μ μ' : Pos} {σ σ' : Sto} (hI : ∀ b, b < w.heap.size → I.fr b) (k : qce m w I μ σ w' I' μ' σ') : Below w.heap.size w w' :=
 ⟨k.os, k.tape, k.output, k.size, fun b hb => k.same b (hI b hb)⟩
end Go.AM


set_option linter.unusedVariables false
namespace Go.AM
open Go.RowKit Go.ChangeShapes Go.WideShapes
variable {H : Type} {enc : TypeId × Value → H} {P : Program} {w : World} {I : Im} {spare : Nat → Bool} {held : Bool} {base : Nat}
theorem q5j {name : String} {k : IntKind} {zs : List Int} {g : Nat} {I : Im} (h : Lib.TabIs P w name k zs) (hg : P.globalNamed name = some g) (hI : I.rd g) : qe2 [(g, .agg (zs.map fun z => .int k z))] w I := by
 refine ⟨fun p hp => ?_, fun p hp => ?_⟩
 ·rcases List.mem_singleton.1 hp with rfl
  refine ⟨hI, fun x hx => ?_, fun x hx => ?_, fun i j x y hx hy => ?_⟩
  ·rcases List.mem_singleton.1 hx with rfl
   rfl
  ·rcases List.mem_singleton.1 hx with rfl
   intro c hc
   obtain ⟨z, _, rfl⟩ := List.mem_map.1 hc
   rfl
  ·cases i with
   | zero =>
    simp only [List.getElem?_cons_zero, Option.some.injEq] at hx
    subst hx
    have hj : j < zs.length := by
     rcases Nat.lt_or_ge j zs.length with h | h
     ·exact h
     ·rw [show (D.agg (zs.map fun z => .int k z)).cells = zs.map fun z => D.int k z from rfl, List.getElem?_eq_none (by simp; omega)] at hy; cases hy
    refine ⟨.int k (zs.getD j 0), ?_, ?_⟩
    ·have := h.cell hg j hj
     simpa using this
    ·rw [show (D.agg (zs.map fun z => .int k z)).cells = zs.map fun z => D.int k z from rfl, List.getElem?_map, List.getElem?_eq_getElem hj] at hy
     cases hy
     rw [List.getD_eq_getElem?_getD, List.getElem?_eq_getElem hj]
     exact .int _ _
   | succ i => simp at hx
 ·rcases List.mem_singleton.1 hp with rfl
  unfold Lib.TabIs World.var? at h
  rw [hg] at h
  simp only [Option.bind_some] at h
  split at h
  ·rename_i cs t f hh
   cases h
   exact ⟨_, t, f, hh, by simp [D.cells]⟩
  ·cases h
theorem q4f {name : String} {k : IntKind} {zs : List Int} {g : Nat} {I : Im} (h : qe2 [(g, .agg (zs.map fun z => .int k z))] w I) (hg : P.globalNamed name = some g) : Lib.TabIs P w name k zs := by
 obtain ⟨c, t, f, h1, h2⟩ := h.ex _ (List.mem_singleton.2 rfl)
 have hs := h.sl _ (List.mem_singleton.2 rfl)
 have hv : w.var? P name = some c := by
  unfold World.var?
  rw [hg]
  simp only [Option.bind_some]
  rw [h1]
 unfold Lib.TabIs
 rw [hv]
 congr 1
 have h2 : c.size = zs.length := by simpa [D.cells] using h2
 apply Array.ext
 ·simp [h2]
 ·intro i i1 i2
  have hi : i < zs.length := by omega
  obtain ⟨v, hc, hr⟩ := hs.cell 0 i (.agg (zs.map fun z => .int k z)) (.int k zs[i]) rfl (by simp [D.cells, hi])
  have hcell := World.var?_cell hg hv i
  simp only [Nat.zero_mul, Nat.zero_add] at hc
  rw [hc, Array.getElem?_eq_getElem i1] at hcell
  cases hr
  simp only [Option.some.injEq] at hcell
  rw [← hcell]
  simp
theorem qs0 {Gl : qa5} {fn : Func} {c : Code} {s : ChangeSpec} {f : FuncId} {n : Nat} {tb : TypeId} {apart fresh handsOn : Bool}
  (hf : P.funcs[f]? = some fn) (hname : (fn.name == "runtime.NumGoroutine") = false) (hb : fn.body = some c)
  (hty : (fn.params.toList.all fun t => qjy P n t && P.readableRec t && decide (t < P.types.size)) = true) (hlaid : laidOutB P = true)
  (hres : fn.resultTypes = #[tb]) (htb : P.underlying tb = some .bool) (hvars : s.vars = [])
  (hspec : ∀ (H : Type) (ds : List (DataW H)), ds.length = fn.params.size → s.fn H ds = { results := [.lit (.bool true)], args := ds })
  (hmain : ∀ xs, qpx P n fn.params.toList xs → qaf P Gl f (xs.map AV.d) [] (fun r _ => r = .d (.bool true)))
  (W : World) (base : Nat) (args : Array Value) (ds gs : List (DataW H)) (before : List MemPlace)
  (hval : ∀ (j : Nat) t v, fn.params[j]? = some t → args[j]? = some v → Value.okWide P W .any base t v)
  (hW : DataW.Whole enc P fn.params.toList s.vars apart W args.toList ds gs before) (hGl : ∀ I : Im, (∀ b, b < W.heap.size → I.rd b) → qe2 Gl W I) :
  Calls P f args W fun e W' => ∃ v, e = .returned v ∧ s.post enc P fn apart fresh handsOn false W args v W' := by
 have hlt := hW.lt
 have hW' := hW
 obtain ⟨p, q, hA, hV, rfl, _, _⟩ := hW
 rw [hvars] at hV
 obtain ⟨rfl, rfl⟩ := trodVars_none hV
 simp only [List.all_eq_true, Bool.and_eq_true, decide_eq_true_eq] at hty
 let I : Im := { rd := fun b => b < W.heap.size, fr := fun b => b < W.heap.size, sub := fun _ h => h }
 obtain ⟨xs, h1, h2, h3, h4⟩ := q67 (I := I) (fun _ h => h) fn.params.toList args.toList ds p (fun t ht => (hty t ht).1.1) (fun j t v ht hv => hval j t v (by simpa using ht) (by simpa using hv)) hA
 have hm := hmain xs h1 W I (fun _ => none) args.toList ⟨fun _ h => h, fun id hid => absurd hid (Nat.not_lt_zero _), fun i j b b' o o' _ _ _ h => by cases h⟩ (hGl _ (fun _ h => h)) (by simp [h2]) (fun i v u hv hu => by
  rw [List.getElem?_map] at hu
  cases hx : xs[i]? with
  | none => rw [hx] at hu; cases hu
  | some x =>
   rw [hx] at hu
   simp only [Option.map_some, Option.some.injEq] at hu
   subst hu
   exact .d v x (h4 i v x hv hx))
 have e : (callFunc f args.toList.toArray).run P W = .ok (.enter f args) W := by
  have hne : ¬ fn.name = "runtime.NumGoroutine" := by simpa using hname
  simp [callFunc, hf, hb, hne]
 rw [e] at hm
 refine hm.2.mono fun x W' ⟨v, hx, r, σ', I', μ', q1, q2, q3, q4⟩ => ?_
 subst hx
 subst q4
 have hv : v = .bool true := by
  have := q3.inv_d
  cases this; rfl
 subst hv
 have hbel : Below W.heap.size W W' := q2.below (fun _ h => h)
 have hlen : (ds ++ []).length = fn.params.size := by simp [h3]
 refine ⟨_, rfl, ds, [], p ++ [], [], p, [], hW', ?_, ?_, ?_, ?_, fun h => by cases h⟩
 ·rw [hspec _ _ hlen, hres]
  exact trodAll_mk1 (shut_bool htb true)
 ·rw [hspec _ _ hlen]
  simp only [List.append_nil]
  exact qkg hlaid hbel _ _ _ _ (fun t ht => ⟨(hty t ht).1.2, (hty t ht).2⟩) hA (by simpa using hlt)
 ·rw [hspec _ _ hlen, hvars]
  exact rfl
 ·exact hbel.frame _
end Go.AM


set_option linter.unusedVariables false
set_option linter.unusedSimpArgs false
namespace Go.AM
variable {P : Program} {Gl : qa5} {w : World} {I : Im} {μ : Pos} {σ : Sto}
theorem qe8 {m : Nat} (id k : Nat) {es : Nat} {xs : List D} (hm : m ≤ σ.length) (hB : qaa σ id = .arr es xs) (hk : k ≤ xs.length) (hp : 0 < xs.length) :
  qcm m (.osl id 0 k) σ (.osl σ.length 0 k) (σ.set id .dead ++ [.arr es (xs.take k)]) := fun w I μ v h1 h2 h3 => by
 have hown : (qaa σ id).own = true := by rw [hB]; rfl
 have hid := qa3 hown
 have hal : qb6 σ id := by unfold qb6; rw [hB]; rfl
 have hblk := h1.blk id hid
 rw [hB] at hblk
 rcases hblk with ⟨_, e0⟩ | ⟨b, base, e1, e2, e3, e4, e5, e6, e7⟩
 ·rw [e0] at hp; cases hp
 have hm2 : (xs.take k).length * es ≤ xs.length * es := Nat.mul_le_mul_right _ (by rw [List.length_take]; omega)
 have harr : qd8 w I (qdt μ σ.length (b, base)) (σ.set id .dead ++ [.arr es (xs.take k)]) σ.length (.arr es (xs.take k)) := by
  refine .inr ⟨b, base, qbn _ _ _, e2, e3, by omega, fun x hx => e5 x (List.mem_of_mem_take hx), fun x hx => e6 x (List.mem_of_mem_take hx), fun i j x y hx hy => ?_⟩
  have hi : i < k := by
   rcases Nat.lt_or_ge i k with h | h
   ·exact h
   ·rw [List.getElem?_eq_none (by rw [List.length_take]; omega)] at hx; cases hx
  rw [List.getElem?_take_of_lt hi] at hx
  exact e7 i j x y hx hy
 obtain ⟨g1, g2⟩ := h1.relay hid hown e1 harr
 refine ⟨I, _, g1, ?_, g2.mono hm⟩
 have hnew : qaa (σ.set id .dead ++ [Blk.arr es (xs.take k)]) σ.length = .arr es (xs.take k) := by
  have := qb3 (σ := σ.set id .dead) (B := .arr es (xs.take k))
  rwa [List.length_set] at this
 cases h2 with
 | osl _ _ _ _ _ hh =>
 rcases hh with ⟨h0, a, rfl⟩ | ⟨b', base', es', cap, q1, q2, rfl⟩
 ·exact .osl _ _ _ _ (by simp) (.inl ⟨h0, a, rfl⟩)
 ·obtain ⟨r1, r2, r3, r4, r5⟩ := q1 hal
  rw [e1] at r1
  simp only [Option.some.injEq, Prod.mk.injEq] at r1
  obtain ⟨rfl, rfl⟩ := r1
  rw [hB] at r3 r4
  refine .osl _ _ _ _ (by simp) (.inr ⟨b, base, es', cap, fun _ => ⟨qbn _ _ _, by rw [hnew]; rfl, by rw [hnew]; exact r3, ?_, r5⟩, q2, rfl⟩)
  rw [hnew]
  show 0 + k ≤ (xs.take k).length
  rw [List.length_take]; omega
theorem Qgq {ρ : List Nat} {τ ν : Sto} (hlt : ∀ id ∈ ρ, id < σ.length) (hτ : τ.length = ρ.length) (hk : ∀ j i, ρ[j]? = some i → qc3 (qb1 ρ σ.length) (qaa τ j) = qaa σ i) :
  qdr ρ σ (τ ++ ν) = σ ++ ν.map (qc3 (qb1 ρ σ.length)) := by
 apply List.ext_getElem
 ·simp [qdr, hτ]
 ·intro k h1 h2
  simp only [qdr, List.getElem_map, List.getElem_range]
  cases e : qca ρ k with
  | some j =>
   have e2 := qiz e
   have hj : j < ρ.length := by
    rcases Nat.lt_or_ge j ρ.length with h | h
    ·exact h
    ·rw [List.getElem?_eq_none h] at e2; cases e2
   have hks : k < σ.length := hlt k (List.mem_of_getElem? e2)
   simp only
   rw [qay (by omega), hk j k e2, List.getElem_append_left hks]
   unfold qaa; simp [hks]
  | none =>
   simp only
   by_cases h : k < σ.length
   ·rw [if_pos h, List.getElem_append_left h]; unfold qaa; simp [h]
   ·rw [if_neg h, List.getElem_append_right (by omega)]
    simp only [List.getElem_map]
    congr 1
    unfold qaa
    rw [List.getD_eq_getElem?_getD, List.getElem?_append_right (by omega)]
    rw [show ρ.length + (k - σ.length) - τ.length = k - σ.length by omega]
    rw [List.getElem?_eq_getElem (by simp at h2; omega)]
    rfl
theorem qaf.under_new {f : FuncId} {args as' : List AV} {R : AV → Sto → Prop} (ρ : List Nat) (τ : Sto) (hnd : ρ.Nodup) (hlt : ∀ id ∈ ρ, id < σ.length) (hr : qdb ρ σ = τ) (he : args.map (qbf ρ σ) = as')
  (hk : ∀ j i, ρ[j]? = some i → qc3 (qb1 ρ σ.length) (qaa τ j) = qaa σ i)
  (h : qaf P Gl f as' τ (fun r s => ∃ ν, s = τ ++ ν ∧ R r ν)) : qaf P Gl f args σ (fun r s => ∃ r0 ν, R r0 ν ∧ r = qf1 (qb1 ρ σ.length) r0 ∧ s = σ ++ ν.map (qc3 (qb1 ρ σ.length))) := by
 refine (qaf.under (P := P) (Gl := Gl) ρ hnd hlt (by rw [hr, he]; exact h)).mono fun r s hh => ?_
 obtain ⟨r0, s0, ⟨ν, rfl, h1⟩, rfl, rfl⟩ := hh
 exact ⟨r0, ν, h1, rfl, Qgq hlt (by rw [← hr]; simp [qdb]) hk⟩
theorem qbz {n : Nat} {all : Array Oper} {rest : List Oper} {KK : Env → Sto → Prop} {env : Env} {f : FuncId} {as caps as' : List AV} {dst : Option Tmp} {R : AV → Sto → Prop} (ρ : List Nat) (τ : Sto) (hnd : ρ.Nodup) (hlt : ∀ id ∈ ρ, id < σ.length) (hr : qdb ρ σ = τ) (he : (as ++ caps).map (qbf ρ σ) = as')
  (hk : ∀ j i, ρ[j]? = some i → qc3 (qb1 ρ σ.length) (qaa τ j) = qaa σ i)
  (h : qaf P Gl f as' τ (fun r s => ∃ ν, s = τ ++ ν ∧ R r ν))
  (h2 : ∀ r ν, R r ν → qal P Gl n all false rest (putE env dst (qf1 (qb1 ρ σ.length) r)) (σ ++ ν.map (qc3 (qb1 ρ σ.length))) KK) : qfp P Gl n all false dst rest (.fn f caps) as env σ KK :=
 qaq ((qaf.under_new ρ τ hnd hlt hr he hk h).mono fun r s hh => by
  obtain ⟨r0, ν, h1, rfl, rfl⟩ := hh
  exact h2 _ _ h1)
theorem hk1 {τ : Sto} {b : Nat → Nat} {i0 : Nat} (h0 : qc3 b (qaa τ 0) = qaa σ i0) : ∀ j i, [i0][j]? = some i → qc3 b (qaa τ j) = qaa σ i := fun j i h => by
 match j, h with
 | 0, h => simp at h; subst h; exact h0
 | j + 1, h => simp at h
theorem hk2 {τ : Sto} {b : Nat → Nat} {i0 i1 : Nat} (h0 : qc3 b (qaa τ 0) = qaa σ i0) (h1 : qc3 b (qaa τ 1) = qaa σ i1) : ∀ j i, [i0, i1][j]? = some i → qc3 b (qaa τ j) = qaa σ i := fun j i h => by
 match j, h with
 | 0, h => simp at h; subst h; exact h0
 | 1, h => simp at h; subst h; exact h1
 | j + 2, h => simp at h
theorem hk3 {τ : Sto} {b : Nat → Nat} {i0 i1 i2 : Nat} (h0 : qc3 b (qaa τ 0) = qaa σ i0) (h1 : qc3 b (qaa τ 1) = qaa σ i1) (h2 : qc3 b (qaa τ 2) = qaa σ i2) : ∀ j i, [i0, i1, i2][j]? = some i → qc3 b (qaa τ j) = qaa σ i := fun j i h => by
 match j, h with
 | 0, h => simp at h; subst h; exact h0
 | 1, h => simp at h; subst h; exact h1
 | 2, h => simp at h; subst h; exact h2
 | j + 3, h => simp at h
end Go.AM


set_option linter.unusedVariables false
set_option linter.unusedSimpArgs false
namespace Go.AM
variable {P : Program} {Gl : qa5} {n m : Nat} {all : Array Oper} {env : Env} {σ : Sto}
def Qg7 (L : Nat → Bool) (i j : Nat) : Bool := if j = i then true else L j
def qjt (L : Nat → Bool) : List Edge → Prop
 | [] => True
 | e :: r => (Region.binds .any e = true → L e.on = true) ∧ qjt L r
theorem q2l {L : Nat → Bool} : ∀ {l : List Edge}, (∀ e ∈ l, Region.binds .any e = true → L e.on = true) → qjt L l
 | [], _ => trivial
 | e :: r, h => ⟨h e List.mem_cons_self, q2l fun x hx => h x (List.mem_cons_of_mem _ hx)⟩
def qyq (all : Array Oper) (L : Nat → Bool) : Prop := ∀ j o, all[j]? = some o → L j = true → qjt L o.after.toList
theorem qsl {L M : Nat → Bool} (h : ∀ j, L j = true → M j = true) : ∀ {l : List Edge}, qjt L l → qjt M l
 | [], _ => trivial
 | e :: r, hp => ⟨fun hb => h _ (hp.1 hb), qsl h hp.2⟩
theorem qyq.upd {L : Nat → Bool} (h : qyq all L) {i : Nat} {o : Oper} (ho : all[i]? = some o) (hp : qjt L o.after.toList) : qyq all (Qg7 L i) := fun j o' ho' hj => by
 have up : ∀ k, L k = true → Qg7 L i k = true := fun k hk => by unfold Qg7; split <;> first | rfl | exact hk
 unfold Qg7 at hj
 split at hj
 ·rename_i e
  subst e
  rw [ho] at ho'; cases ho'
  exact qsl up hp
 ·exact qsl up (h j o' ho' hj)
def q6s (P : Program) (Gl : qa5) (n m : Nat) (all : Array Oper) (E : (Nat → Bool) → Env) (S : (Nat → Bool) → Sto) : Nat → List Oper → Prop
 | _, [] => True
 | i, o :: r => (∀ L : Nat → Bool, qyq all L → L i = false → qjt L o.after.toList → qal P Gl n all false [o] (E L) (S L) fun e' s' => qhn n m e' s' (E (Qg7 L i)) (S (Qg7 L i))) ∧ q6s P Gl n m all E S (i + 1) r
theorem q0m {E : (Nat → Bool) → Env} {S : (Nat → Bool) → Sto} : ∀ {l : List Oper} {k i : Nat} {o : Oper}, q6s P Gl n m all E S k l → l[i]? = some o →
  ∀ L : Nat → Bool, qyq all L → L (k + i) = false → qjt L o.after.toList → qal P Gl n all false [o] (E L) (S L) fun e' s' => qhn n m e' s' (E (Qg7 L (k + i))) (S (Qg7 L (k + i)))
 | [], k, i, o, _, h => by simp at h
 | x :: r, k, 0, o, hs, h => by
  simp only [List.getElem?_cons_zero, Option.some.injEq] at h
  subst h
  exact hs.1
 | x :: r, k, i + 1, o, hs, h => by
  simp only [List.getElem?_cons_succ] at h
  have := q0m hs.2 h
  rwa [show k + 1 + i = k + (i + 1) by omega] at this
def Qmm (all : Array Oper) : Bool := (List.range all.size).all fun i => match all[i]? with | some o => o.after.toList.all fun e => !Region.binds .any e || decide (e.on < i) | none => true
theorem qu1 (h : Qmm all = true) {i : Nat} {o : Oper} (ho : all[i]? = some o) : ∀ e ∈ o.after.toList, Region.binds .any e = true → e.on < i := by
 simp only [Qmm, List.all_eq_true, List.mem_range] at h
 have hi : i < all.size := by
  rcases Nat.lt_or_ge i all.size with h' | h'
  ·exact h'
  ·rw [Array.getElem?_eq_none h'] at ho; cases ho
 intro e he hb
 have := h i hi
 rw [ho] at this
 simp only [List.all_eq_true] at this
 have := this e he
 simpa [hb] using this
theorem Qbc (E : (Nat → Bool) → Env) (S : (Nat → Bool) → Sto) {K : Env → Sto → Prop} (ht : Qmm all = true) (h0 : qhn n m env σ (E fun i => decide (all.size ≤ i)) (S fun i => decide (all.size ≤ i)))
  (hs : q6s P Gl n m all E S 0 all.toList) (hk : K (E fun _ => true) (S fun _ => true)) : Qmb P Gl n m all env σ K := by
 refine ⟨fun listed e s => e = E (fun i => listed.getD i true) ∧ s = S (fun i => listed.getD i true) ∧ qyq all (fun i => listed.getD i true), ⟨_, _, h0, ?_⟩, fun listed e s hJ hsz hrd => ?_, fun listed e s i hJ hsz hi o ho => ?_⟩
 ·have : (fun i => (Array.replicate all.size false).getD i true) = fun i => decide (all.size ≤ i) := by
   funext i
   rcases Nat.lt_or_ge i all.size with h | h
   ·have : ¬ all.size ≤ i := by omega
    simp [h, this]
   ·simp [h, Nat.not_lt.2 h]
  refine ⟨congrArg E this.symm, congrArg S this.symm, ?_⟩
  rw [this]
  intro j o ho hj
  have hj := of_decide_eq_true hj
  rw [Array.getElem?_eq_none hj] at ho; cases ho
 ·obtain ⟨rfl, rfl, _⟩ := hJ
  have hall : ∀ i, listed.getD i true = true := fun i => by
   induction i using Nat.strongRecOn with
   | _ i ih =>
    rcases Nat.lt_or_ge i all.size with hi | hi
    ·cases hl : listed.getD i true with
     | true => rfl
     | false =>
      exfalso
      have : i ∈ Region.ready .any all listed := qcp.2 ⟨hi, hl, all[i], Array.getElem?_eq_getElem hi, fun e he hb => by
       have hlt := qu1 ht (Array.getElem?_eq_getElem hi) e he hb
       rw [qfk (by omega)]
       exact ih _ hlt⟩
      rw [hrd] at this; cases this
    ·simp [hsz, Nat.not_lt.2 hi]
  have : (fun i => listed.getD i true) = fun _ => true := funext hall
  rw [this]; exact hk
 ·obtain ⟨rfl, rfl, hcl⟩ := hJ
  obtain ⟨g1, g2, o', g3, g4⟩ := qcp.1 hi
  rw [ho] at g3; cases g3
  have hb := fun e he hb => qu1 ht ho e he hb
  have hpr : qjt (fun i => listed.getD i true) o.after.toList := q2l fun e he hbb => by
   have h1 := g4 e he hbb
   have := hb e he hbb
   rwa [qfk (by omega)] at h1
  have := q0m (i := i) (o := o) hs (by simpa using ho) (fun i => listed.getD i true) hcl (by simpa using g2) hpr
  have eu : (fun j => (listed.setIfInBounds i true).getD j true) = Qg7 (fun i => listed.getD i true) (0 + i) := by
   funext j
   rw [qdx (by omega), Nat.zero_add]
   rfl
  refine qcn (fun e' s' h => ?_) _ _ _ this
  refine ⟨_, _, h, congrArg E eu.symm, congrArg S eu.symm, ?_⟩
  rw [eu]
  have := hcl.upd ho hpr
  rwa [Nat.zero_add]
def onV (b : Bool) (v : AV) : AV := if b = true then v else .undef
theorem Qm9 (v : AV) : onV true v = v := rfl
theorem Qqm (v : AV) : onV false v = .undef := rfl
theorem q62 (ρ : List Nat) (b : Bool) (v : AV) : qbf ρ σ (onV b v) = onV b (qbf ρ σ v) := by cases b <;> rfl
theorem Qlv : (Region.Mode.any == Region.Mode.text) = false := rfl
theorem Qhk {r : AV} {σ' : Sto} (h : qhn 0 σ.length [] σ [] σ') : qcm m r σ r σ' := by
 intro w I μ v h1 h2 h3
 obtain ⟨I', μ', a1, _, a3⟩ := h w I μ (⟨#[], []⟩ : Act) h1 ⟨rfl, rfl, fun t => .undef _⟩ (Nat.le_refl _)
 exact ⟨I', μ', a1, h2.keep a3, a3.mono h3⟩
theorem frB : type_of% (And.intro @Qlv (And.intro @Bool.false_eq_true (And.intro @false_imp_iff (And.intro @true_imp_iff (And.intro @and_true (@true_and)))))) := And.intro @Qlv (And.intro @Bool.false_eq_true (And.intro @false_imp_iff (And.intro @true_imp_iff (And.intro @and_true (@true_and)))))
end Go.AM


set_option linter.unusedVariables false
set_option linter.unusedSimpArgs false
namespace Go.AM
variable {P : Program} {Gl : qa5} {σ : Sto}
theorem qyi {n : Nat} {all : Array Oper} {rest : List Oper} {KK : Env → Sto → Prop} {env : Env} {f : FuncId} {as caps as' : List AV} {dst : Option Tmp} {v : D} (ρ : List Nat) (τ : Sto) (hnd : ρ.Nodup) (hlt : ∀ id ∈ ρ, id < σ.length) (hr : qdb ρ σ = τ) (he : (as ++ caps).map (qbf ρ σ) = as')
  (hk : ∀ j i, ρ[j]? = some i → qc3 (qb1 ρ σ.length) (qaa τ j) = qaa σ i)
  (h : qaf P Gl f as' τ (fun r s => r = .d v ∧ s = τ)) (h2 : qal P Gl n all false rest (putE env dst (.d v)) σ KK) : qfp P Gl n all false dst rest (.fn f caps) as env σ KK :=
 qbz (R := fun r ν => r = .d v ∧ ν = []) ρ τ hnd hlt hr he hk (h.mono fun r s hr => ⟨[], by rw [hr.2, List.append_nil], hr.1, rfl⟩) fun r ν hr => by
  obtain ⟨rfl, rfl⟩ := hr
  rw [List.map_nil, List.append_nil]; exact h2
theorem qtu {n : Nat} {all : Array Oper} {rest : List Oper} {KK : Env → Sto → Prop} {env : Env} {f : FuncId} {as caps as' : List AV} {dst : Option Tmp} {es m : Nat} {xs : List D} (ρ : List Nat) (τ : Sto) (hnd : ρ.Nodup) (hlt : ∀ id ∈ ρ, id < σ.length) (hr : qdb ρ σ = τ) (he : (as ++ caps).map (qbf ρ σ) = as')
  (hk : ∀ j i, ρ[j]? = some i → qc3 (qb1 ρ σ.length) (qaa τ j) = qaa σ i)
  (h : qaf P Gl f as' τ (fun r s => r = .osl τ.length 0 m ∧ s = τ ++ [.arr es xs])) (h2 : qal P Gl n all false rest (putE env dst (.osl σ.length 0 m)) (σ ++ [.arr es xs]) KK) : qfp P Gl n all false dst rest (.fn f caps) as env σ KK :=
 qbz (R := fun r ν => r = .osl τ.length 0 m ∧ ν = [.arr es xs]) ρ τ hnd hlt hr he hk (h.mono fun r s hr => ⟨[.arr es xs], hr.2, hr.1, rfl⟩) fun r ν hr' => by
  obtain ⟨rfl, rfl⟩ := hr'
  have hl : τ.length = ρ.length := by rw [← hr]; simp [qdb]
  have e : qf1 (qb1 ρ σ.length) (.osl τ.length 0 m) = .osl σ.length 0 m := by
   show AV.osl (qb1 ρ σ.length τ.length) 0 m = _
   rw [hl]
   congr 1
   unfold qb1
   rw [if_neg (Nat.lt_irrefl _), Nat.sub_self, Nat.add_zero]
  rw [e]; exact h2
end Go.AM


set_option linter.unusedVariables false
set_option linter.unusedSimpArgs false
namespace Go.AM
variable {P : Program} {Gl : qa5} {σ : Sto}
theorem q9i {f : FuncId} {ag as' : List AV} {v : D} (ρ : List Nat) (τ : Sto) (hnd : ρ.Nodup) (hf : ∀ i ∈ ρ, (qaa σ i).frozen = qaa σ i ∧ (qaa σ i).isDead = false)
  (h : qaf P Gl f as' τ (fun r s => r = .d v ∧ s = τ)) (e : ∀ s, ag.map (qbf ρ s) = as') (hr : ∀ s, (∀ i ∈ ρ, qaa s i = qaa σ i) → qdb ρ s = τ)
  (hk : ∀ N j i, ρ[j]? = some i → qc3 (qb1 ρ N) (qaa τ j) = qaa σ i) :
  ∀ s, Ext σ s → qaf P Gl f ag s (fun r σ' => r = .d v ∧ σ' = s) := fun s hs => by
 have hb : ∀ i ∈ ρ, qaa s i = qaa σ i := fun i hi => by
  obtain ⟨q1, q2⟩ := hf i hi
  rcases hs.2 i with h1 | h1 | h1
  ·rw [q2] at h1; cases h1
  ·exact h1
  ·rw [h1, q1]
 have hlt : ∀ i ∈ ρ, i < s.length := fun i hi => by
  rcases Nat.lt_or_ge i s.length with h' | h'
  ·exact h'
  ·exfalso
   have h2 : qaa s i = .dead := by unfold qaa; rw [List.getD_eq_getElem?_getD, List.getElem?_eq_none h']; rfl
   have h3 := (hf i hi).2
   rw [← hb i hi, h2] at h3
   cases h3
 refine (qaf.under_new (P := P) (Gl := Gl) (σ := s) (R := fun r ν => r = .d v ∧ ν = []) ρ τ hnd hlt (hr s hb) (e s) (fun j i hj => ?_) (h.mono fun r s' hh => ⟨[], by rw [hh.2, List.append_nil], hh.1, rfl⟩)).mono fun r s' hh => ?_
 ·rw [hk s.length j i hj, hb i (List.mem_of_getElem? hj)]
 ·obtain ⟨r0, ν, ⟨rfl, rfl⟩, rfl, rfl⟩ := hh
  refine ⟨rfl, ?_⟩
  rw [List.map_nil, List.append_nil]
end Go.AM


set_option linter.unusedVariables false
set_option linter.unusedSimpArgs false
namespace Go.AM
open Go.ChangeMaps (setBlock)
structure qul (w w' : World) : Prop where
 cell : ∀ a, w'.cell? a = w.cell? a
 bsize : ∀ b, qb8 w' b = qb8 w b
 blk : ∀ (b : Nat) c t z, w.heap[b]? = some (.cells c t z) → w'.heap[b]? = some (.cells c t z)
 mp : ∀ (b : Nat) es cl, w.heap[b]? = some (.map es cl) → w'.heap[b]? = some (.map es cl)
 size : w.heap.size ≤ w'.heap.size
variable {w w' : World} {I : Im} {μ : Pos} {σ : Sto}
theorem qc6.cong (s : qul w w') {v : Value} {x : D} (h : qc6 w I v x) : qc6 w' I v x := by
 induction h with
 | int k n => exact .int k n
 | bool b => exact .bool b
 | str l => exact .str l
 | raw v h => exact .raw v h
 | agg vs cs hl hone h ih => exact .agg vs cs hl hone ih
 | nil a cap => exact .nil a cap
 | sl b off es cap xs vals hI hcap hes hfl hc hr ih => exact .sl b off es cap xs vals hI hcap hes hfl (fun i j hi hj => (s.cell _).trans (hc i j hi hj)) ih
theorem Qbp.cong (s : qul w w') {b o es : Nat} {xs : List D} (h : Qbp w I b o es xs) : Qbp w' I b o es xs :=
 ⟨h.imm, h.size, h.flat, fun i j x y hx hy => by
  obtain ⟨v, h1, h2⟩ := h.cell i j x y hx hy
  exact ⟨v, (s.cell _).trans h1, h2.cong s⟩⟩
theorem qa8.cong (s : qul w w') {v : Value} {x : AV} (h : qa8 w I μ σ v x) : qa8 w' I μ σ v x := by
 induction h with
 | undef v => exact .undef v
 | d v x h => exact .d v x (h.cong s)
 | nils => exact .nils
 | agg vs cs hl hone h ih => exact .agg vs cs hl hone ih
 | ptr v id off hid h => exact .ptr v id off hid h
 | eptr b o es xs i off h => exact .eptr b o es xs i off (h.cong s)
 | aptr v id i off hid h => exact .aptr v id i off hid h
 | osl v id off len hid h =>
  refine .osl v id off len hid ?_
  rcases h with h | ⟨b, base, es, cap, h1, h2, h3⟩
  ·exact .inl h
  ·exact .inr ⟨b, base, es, cap, fun ha => by obtain ⟨p1, p2, p3, p4, p5⟩ := h1 ha; exact ⟨p1, p2, p3, p4, by rw [s.bsize]; exact p5⟩, h2, h3⟩
 | rsl v id len hid h =>
  obtain ⟨b, base, cap, h1, h2, h3⟩ := h
  exact .rsl v id len hid ⟨b, base, cap, fun ha => by obtain ⟨p1, p2⟩ := h1 ha; exact ⟨p1, by rw [s.bsize]; exact p2⟩, h2, h3⟩
 | fn f vs caps hl h ih => exact .fn f vs caps hl ih
 | tup vs cs hl h ih => exact .tup vs cs hl ih
 | iff g v x h1 h2 ih => exact .iff g v x ih h2
 | mapr v id hid h => exact .mapr v id hid h
 | anyb b => exact .anyb b
theorem qc4.cong (s : qul w w') {b : Nat} (h : qc4 w b) : qc4 w' b := by
 obtain ⟨c, t, h⟩ := h
 exact ⟨c, t, s.blk _ _ _ _ h⟩
theorem qd8.cong (s : qul w w') {id : Nat} {B : Blk} (h : qd8 w I μ σ id B) : qd8 w' I μ σ id B := by
 cases B with
 | dead => trivial
 | box n v =>
  obtain ⟨b, base, h1, h2, h3, h4, h5, h6⟩ := h
  refine ⟨b, base, h1, h2, h3.cong s, by rw [s.bsize]; exact h4, h5, fun j hj => ?_⟩
  obtain ⟨h7, u, h8, h9⟩ := h6 j hj
  exact ⟨h7, u, (s.cell _).trans h8, h9.cong s⟩
 | arr es xs =>
  rcases h with h | ⟨b, base, h1, h2, h3, h4, h5, h6, h7⟩
  ·exact .inl h
  ·refine .inr ⟨b, base, h1, h2, h3.cong s, by rw [s.bsize]; exact h4, h5, h6, fun i j x y hx hy => ?_⟩
   obtain ⟨v, hv, hr⟩ := h7 i j x y hx hy
   exact ⟨v, (s.cell _).trans hv, hr.cong s⟩
 | frz es xs =>
  rcases h with h | ⟨b, base, h1, h2⟩
  ·exact .inl h
  ·exact .inr ⟨b, base, h1, h2.cong s⟩
 | map ik f =>
  obtain ⟨b, es, clock, h1, h2, h3, h4⟩ := h
  exact ⟨b, es, clock, h1, h2, ⟨s.mp _ _ _ h3.1, h3.2⟩, h4.imp' fun v u hv => hv.cong s⟩
theorem Rel.cong (s : qul w w') (h : Rel w I μ σ) : Rel w' I μ σ :=
 ⟨fun b hb => Nat.lt_of_lt_of_le (h.imm b hb) s.size, fun id hid => (h.blk id hid).cong s, h.apart⟩
theorem qbk.cong (s : qul w w') {n : Nat} {env : Env} {a : Act} (h : qbk n w I μ σ env a) : qbk n w' I μ σ env a :=
 ⟨h.defers, h.size, fun t => (h.slot t).cong s⟩
theorem qe2.cong (s : qul w w') {Gl : qa5} (h : qe2 Gl w I) : qe2 Gl w' I :=
 ⟨fun p hp => (h.sl p hp).cong s, fun p hp => by
  obtain ⟨c, t, f, h1, h2⟩ := h.ex p hp
  exact ⟨c, t, f, s.blk _ _ _ _ h1, h2⟩⟩
theorem Qe3 {r : Nat} {m m' : Option Nat} {s s' : Nat} {sn sn' : Array Nat} {c c' : Nat} {w1 : World} (hal : w1 = w ∨ w1 = w.drew) (hr : w.heap[r]? = some (.mapIter m s sn c)) :
  qul w (setBlock w1 r (.mapIter m' s' sn' c')) ∧ (setBlock w1 r (.mapIter m' s' sn' c')).heap[r]? = some (.mapIter m' s' sn' c') ∧ (∀ b, b ≠ r → (setBlock w1 r (.mapIter m' s' sn' c')).heap[b]? = w.heap[b]?) ∧
  (setBlock w1 r (.mapIter m' s' sn' c')).os = w.os ∧ (setBlock w1 r (.mapIter m' s' sn' c')).tape = w.tape ∧ (setBlock w1 r (.mapIter m' s' sn' c')).output = w.output ∧ (setBlock w1 r (.mapIter m' s' sn' c')).heap.size = w.heap.size := by
 have hh : w1.heap = w.heap := by rcases hal with rfl | rfl <;> rfl
 have hos : w1.os = w.os := by rcases hal with rfl | rfl <;> rfl
 have htp : w1.tape = w.tape := by rcases hal with rfl | rfl <;> rfl
 have hou : w1.output = w.output := by rcases hal with rfl | rfl <;> rfl
 have hlt : r < w.heap.size := by
  rcases Nat.lt_or_ge r w.heap.size with h' | h'
  ·exact h'
  ·rw [Array.getElem?_eq_none h'] at hr; cases hr
 have e0 : (setBlock w1 r (.mapIter m' s' sn' c')).heap = w.heap.setIfInBounds r (.mapIter m' s' sn' c') := by
  show w1.heap.setIfInBounds r _ = _
  rw [hh]
 have e1 : (setBlock w1 r (.mapIter m' s' sn' c')).heap[r]? = some (.mapIter m' s' sn' c') := by rw [e0]; simp [Array.getElem?_setIfInBounds_self_of_lt hlt]
 have e2 : ∀ b, b ≠ r → (setBlock w1 r (.mapIter m' s' sn' c')).heap[b]? = w.heap[b]? := fun b hb => by rw [e0]; simp [Array.getElem?_setIfInBounds_ne (Ne.symm hb)]
 have e3 : (setBlock w1 r (.mapIter m' s' sn' c')).heap.size = w.heap.size := by rw [e0]; simp
 refine ⟨⟨fun a => ?_, fun b => ?_, fun b c t z h => ?_, fun b es cl h => ?_, by rw [e3]; exact Nat.le_refl _⟩, e1, e2, hos, htp, hou, e3⟩
 ·by_cases e : a.block = r
  ·subst e
   simp only [World.cell?, hr, e1]
  ·exact World.cell?_of_block (w := w) (e2 _ e)
 ·by_cases e : b = r
  ·subst e; unfold qb8; rw [hr, e1]
  ·exact qd7 (e2 b e)
 ·by_cases e : b = r
  ·subst e; rw [hr] at h; cases h
  ·rw [e2 b e]; exact h
 ·by_cases e : b = r
  ·subst e; rw [hr] at h; cases h
  ·rw [e2 b e]; exact h
structure Qj4 (w : World) (I : Im) (r mb : Nat) (g : List UInt8 → Option D) (since : Nat) (seen : Array Nat) (es : Array MapEntry) (clock : Nat) : Prop where
 it : ∃ c0, w.heap[r]? = some (.mapIter (some mb) since seen c0) ∧ since ≤ c0
 mp : w.heap[mb]? = some (.map es clock)
 fr1 : I.fr r
 fr2 : I.fr mb
 st : MapKept.Stamped es clock
 old : ∀ x ∈ es.toList, x.born < since
 sc : since ≤ clock
 all : ∀ e ∈ es.toList, ∃ l x, e.key = .string ⟨l.toArray⟩ ∧ g l = some x ∧ qc6 w I e.val x
 has : ∀ l x, g l = some x → ∃ e ∈ es.toList, e.key = .string ⟨l.toArray⟩
theorem qhm : ∀ {l : List MapEntry}, l.Pairwise (fun x y => x.key ≠ y.key) → ∀ {x y : MapEntry}, x ∈ l → y ∈ l → x.key = y.key → x = y
 | [], _, _, _, hx, _, _ => by simp at hx
 | a :: r, hp, x, y, hx, hy, h => by
  obtain ⟨h1, h2⟩ := List.pairwise_cons.1 hp
  rcases List.mem_cons.1 hx with ex | hx'
  ·rcases List.mem_cons.1 hy with ey | hy'
   ·rw [ex, ey]
   ·exact absurd (ex ▸ h) (h1 y hy')
  ·rcases List.mem_cons.1 hy with ey | hy'
   ·exact absurd (ey ▸ h).symm (h1 x hx')
   ·exact qhm h2 hx' hy' h
variable {r mb since clock : Nat} {g : List UInt8 → Option D} {seen : Array Nat} {es : Array MapEntry}
theorem Qj4.keep {m : Nat} {I' : Im} {μ' : Pos} {σ' : Sto} (h : Qj4 w I r mb g since seen es clock) (k : qce m w I μ σ w' I' μ' σ') : Qj4 w' I' r mb g since seen es clock := by
 obtain ⟨c0, h1, h2⟩ := h.it
 exact ⟨⟨c0, (k.same _ h.fr1).trans h1, h2⟩, (k.same _ h.fr2).trans h.mp, k.fr _ h.fr1, k.fr _ h.fr2, h.st, h.old, h.sc, fun e he => by
  obtain ⟨l, x, a1, a2, a3⟩ := h.all e he
  exact ⟨l, x, a1, a2, a3.keep k.imm k.rsame⟩, h.has⟩
theorem Qj4.next {P : Program} (h : Qj4 w I r mb g since seen es clock) (ty : TypeId) :
  ((∀ x ∈ es.toList, seen.contains x.born = true) ∧ (Instr.next (.pointer (some ⟨r, 0, none⟩)) false ty).run P w = .ok (.tuple #[.bool false]) w) ∨
  ∃ e ∈ es.toList, ∃ w2, (Instr.next (.pointer (some ⟨r, 0, none⟩)) false ty).run P w = .ok (.tuple #[.bool true, e.key, e.val]) w2 ∧ Qj4 w2 I r mb g since (seen.push e.born) es clock ∧ qul w w2 ∧ (∀ b, b ≠ r → w2.heap[b]? = w.heap[b]?) ∧
   w2.os = w.os ∧ w2.tape = w.tape ∧ w2.output = w.output ∧ w2.heap.size = w.heap.size ∧ (leftOf es (seen.push e.born)).size < (leftOf es seen).size ∧ ∀ w5 : World, w5.heap[r]? = w2.heap[r]? → w5.heap[mb]? = w2.heap[mb]? → (Instr.entry (.pointer (some ⟨r, 0, none⟩))).run P w5 = .ok (.tuple #[e.key, e.val]) w5 := by
 obtain ⟨c0, h1, h2⟩ := h.it
 rcases run_next_at (P := P) w ty r mb since c0 seen es clock h1 h.mp h.old h2 with ⟨h0, hrun⟩ | ⟨e, he, w1, hal, hrun⟩
 ·exact .inl ⟨all_seen es seen h0, hrun⟩
 ·obtain ⟨hem, hes⟩ := mem_left he
  obtain ⟨s1, s2, s3, s4, s5, s6, s7⟩ := Qe3 (m' := some mb) (s' := since) (sn' := seen.push e.born) (c' := clock) hal h1
  have hne : mb ≠ r := fun e => by have h3 := h.mp; rw [e, h1] at h3; cases h3
  have hmp : (setBlock w1 r (.mapIter (some mb) since (seen.push e.born) clock)).heap[mb]? = some (.map es clock) := (s3 mb hne).trans h.mp
  refine .inr ⟨e, hem, _, hrun, ⟨⟨clock, s2, h.sc⟩, hmp, h.fr1, h.fr2, h.st, h.old, h.sc, fun x hx => ?_, h.has⟩, s1, s3, s4, s5, s6, s7, left_shrinks es seen e he, fun w5 g1 g2 => ?_⟩
  ·obtain ⟨l, x, a1, a2, a3⟩ := h.all x hx
   exact ⟨l, x, a1, a2, a3.cong s1⟩
  ·exact run_entry_at _ r mb since seen es clock e (g1.trans s2) (g2.trans hmp) hem h.st.2.1
theorem q4o {P : Program} (hR : Rel w I μ σ) {j : Nat} {f : Key → Option AV} (hb : qaa σ j = .map none f) (hg : ∀ l, f (.s l) = (g l).map AV.d) {v : Value} (hv : qa8 w I μ σ v (.mapr j)) {t e : TypeId} (ht : qhq P t = some (none, e)) :
  ∃ mb w' I' μ' es clock, (Instr.range t v).run P w = .ok (.pointer (some ⟨w.heap.size, 0, none⟩)) w' ∧ Rel w' I' μ' (σ.set j .dead ++ [.frz 0 []]) ∧ qce σ.length w I μ σ w' I' μ' (σ.set j .dead ++ [.frz 0 []]) ∧
   μ' σ.length = some (w.heap.size, 0) ∧ Qj4 w' I' w.heap.size mb g clock #[] es clock ∧ qa8 w' I' μ' (σ.set j .dead ++ [.frz 0 []]) (.pointer (some ⟨w.heap.size, 0, none⟩)) (.ptr σ.length 0) := by
 obtain ⟨mb, es, clock, hj, hal, how, h1, h2, ⟨h3, h4⟩, h5⟩ := hR.mapOf (id := j) (by rw [hb]; rfl)
 rw [hb] at h5
 change qum w I μ σ none f es.toList at h5
 obtain ⟨kt, d, hu, hd, hi⟩ := qkk ht
 have ev : v = .map (some mb) := by
  cases hv with
  | mapr _ _ _ hh =>
   obtain ⟨b', q1, rfl⟩ := hh
   have := q1 hal
   rw [h1] at this
   simp only [Option.some.injEq, Prod.mk.injEq, and_true] at this
   rw [this]
 subst ev
 have hmb : mb < w.heap.size := by
  rcases Nat.lt_or_ge mb w.heap.size with h' | h'
  ·exact h'
  ·rw [Array.getElem?_eq_none h'] at h3; cases h3
 let I' : Im := ⟨fun b => I.rd b ∨ b = w.heap.size, fun b => I.fr b ∨ b = w.heap.size ∨ b = mb, fun b hb => hb.elim (fun h => .inl (I.sub b h)) (fun h => .inr (.inl h))⟩
 have hold : ∀ id, id < σ.length → id ≠ j → qaa (σ.set j .dead ++ [.frz 0 []]) id = qaa σ id := fun id hid hne => by
  rw [qay (by simpa using hid), qbx (Ne.symm hne)]
 have hdead : qaa (σ.set j .dead ++ [.frz 0 []]) j = .dead := by
  rw [qay (by simpa using hj), qbo hj]
 have hnew : qaa (σ.set j .dead ++ [.frz 0 []]) σ.length = .frz 0 [] := by
  have := @qb3 (σ.set j .dead) (.frz 0 [])
  rwa [List.length_set] at this
 have k : qce σ.length w I μ σ (w.alloc (.mapIter (some mb) clock #[] clock)) I' (qdt μ σ.length (w.heap.size, 0)) (σ.set j .dead ++ [.frz 0 []]) :=
  ⟨rfl, rfl, rfl, by simp, fun _ h => .inl h, fun _ h => .inl h, fun b hb => hb.elim .inl fun h => .inr fun hf => by have := hR.imm b hf; omega, fun b hb => RowKit.Below.heap_alloc _ _ _ (hR.imm b hb), ql8 w _, by simp, fun id hid ha => by
   by_cases e : id = j
   ·subst e; unfold qb6 at ha; rw [hdead] at ha; cases ha
   ·unfold qb6 at ha ⊢
    rw [hold id hid e] at ha ⊢
    exact ⟨ha, qcx _ _ (by omega), rfl, rfl, Nat.le_refl _⟩⟩
 refine ⟨mb, _, I', _, es, clock, run_range_map w t kt e mb es clock hu h3, ⟨fun b hb => ?_, fun id hid => ?_, fun i q b b' o o' hiq hi hq hmi hmq => ?_⟩, k, qbn _ _ _, ?_, ?_⟩
 ·rcases hb with hb | rfl | rfl
  ·have := hR.imm b hb; simp; omega
  ·simp
  ·simp; omega
 ·by_cases e1 : id = σ.length
  ·subst e1
   rw [hnew]
   exact .inr ⟨w.heap.size, 0, qbn _ _ _, { imm := .inr rfl, size := (fun x hx => (by cases hx)), flat := (fun x hx => (by cases hx)), cell := (fun i j x y hx => (by simp at hx)) }⟩
  ·have hid' : id < σ.length := by simp at hid; omega
   by_cases e2 : id = j
   ·subst e2; rw [hdead]; trivial
   ·rw [hold id hid' e2]
    refine (hR.blk id hid').keep k (qcx _ _ e1) fun ho b o hm => ?_
    obtain ⟨q1, q2⟩ := qif hR hid' ho hm
    refine ⟨RowKit.Below.heap_alloc _ _ _ q1, fun hn hf => ?_⟩
    rcases hf with hf | hf | hf
    ·exact hn hf
    ·omega
    ·exact hR.apart id j b mb o 0 e2 ho how hm h1 hf
 ·have low : ∀ x, (qaa (σ.set j .dead ++ [.frz 0 []]) x).own = true → x < σ.length ∧ x ≠ j ∧ (qaa σ x).own = true := fun x hx => by
   have hl := qa3 hx
   simp only [List.length_append, List.length_set, List.length_cons, List.length_nil] at hl
   by_cases e1 : x = σ.length
   ·subst e1; rw [hnew] at hx; cases hx
   ·have hl' : x < σ.length := by omega
    by_cases e2 : x = j
    ·subst e2; rw [hdead] at hx; cases hx
    ·rw [hold x hl' e2] at hx; exact ⟨hl', e2, hx⟩
  obtain ⟨i1, i2, i3⟩ := low i hi
  obtain ⟨j1, j2, j3⟩ := low q hq
  rw [qcx _ _ (by omega)] at hmi hmq
  exact hR.apart i q b b' o o' hiq i3 j3 hmi hmq
 ·refine ⟨⟨clock, qen _ _, Nat.le_refl _⟩, (RowKit.Below.heap_alloc _ _ _ hmb).trans h3, .inr (.inl rfl), .inr (.inr rfl), h4, h4.1, Nat.le_refl _, fun x hx => ?_, fun l x hx => ?_⟩
  ·obtain ⟨key, q1, q2⟩ := h5.keys x hx
   cases key with
   | i n => exact q1.elim
   | s l =>
    cases hgl : g l with
    | none =>
     exact absurd q2 (h5.miss (.s l) trivial (by rw [hg, hgl]; rfl) x hx)
    | some y =>
     obtain ⟨e', a1, a2, a3⟩ := h5.hit (.s l) (.d y) trivial (by rw [hg, hgl]; rfl)
     have : x = e' := qhm h5.nodup hx a1 (q2.trans a2.symm)
     subst this
     exact ⟨l, y, q2, hgl, a3.inv_d.keep k.imm k.rsame⟩
  ·obtain ⟨e', a1, a2, a3⟩ := h5.hit (.s l) (.d x) trivial (by rw [hg, hx]; rfl)
   exact ⟨e', a1, a2⟩
 ·exact .ptr _ _ _ (by simp) ⟨w.heap.size, 0, fun _ => qbn _ _ _, rfl⟩
theorem qcs {P : Program} {n : Nat} {Gl : qa5} {all : Array Oper} {m : Nat} {K : Env → Sto → Prop} {Q : Exit → Act → World → Prop} (l2 : List Oper) : ∀ (ops : List Oper) (env : Env) (σ : Sto), qal P Gl n all false ops env σ K → ∀ {w : World} {I : Im} {μ : Pos} {a : Act},
  Rel w I μ σ → qe2 Gl w I → qbk n w I μ σ env a → m ≤ σ.length →
  (∀ env' σ' w' I' μ' a', K env' σ' → Rel w' I' μ' σ' → qe2 Gl w' I' → qbk n w' I' μ' σ' env' a' → qce m w I μ σ w' I' μ' σ' → wpList P all Q l2 a' w') → wpList P all Q (ops ++ l2) a w
 | [], env, σ, h, w, I, μ, a, hR, hG, hE, hm, hq => hq env σ w I μ a h hR hG hE (qce.refl _ _ _ _ hm)
 | o :: rest, env, σ, h, w, I, μ, a, hR, hG, hE, hm, hq => by
  obtain ⟨hd, h⟩ := h
  rw [List.cons_append]
  cases hgd : o.guard with
  | none =>
   rw [hgd] at h
   obtain ⟨hg, h⟩ := h
   unfold wpList
   rw [if_pos (qgw hgd _)]
   left
   cases hc : qaw o.op with
   | true =>
    simp only [hc, if_true, Bool.false_eq_true, if_false] at h
    refine Oper.wp_of_call (qfo hR hG hE hg h) fun v w' ⟨r, σ', I', μ', q1, q2, q3, q4⟩ => ?_
    exact qcs l2 rest _ _ q4 q1 (hG.keep q2) ((hE.keep q2).putE hd q3) (Nat.le_trans hm q2.len) fun env' σ2 w2 I2 μ2 a2 k1 k2 k3 k4 k5 => hq env' σ2 w2 I2 μ2 a2 k1 k2 k3 k4 ((q2.mono hm).trans k5)
   | false =>
    simp only [hc, Bool.false_eq_true, if_false] at h
    refine Oper.wp_of_goes (qg0 hR hG hE o hc hg h.1) fun u w' I' μ' q1 q2 q3 => ?_
    exact qcs l2 rest _ _ h.2 q1 (hG.keep q2) ((hE.keep q2).putE hd q3) (Nat.le_trans hm q2.len) fun env' σ2 w2 I2 μ2 a2 k1 k2 k3 k4 k5 => hq env' σ2 w2 I2 μ2 a2 k1 k2 k3 k4 ((q2.mono hm).trans k5)
  | some jb =>
   obtain ⟨j, b⟩ := jb
   rw [hgd] at h
   simp only at h
   by_cases ha : qcl o.op = true
   ·rw [if_pos ha] at h
    obtain ⟨hs, ht, hg, h1, h2⟩ := h
    have hw := qei hE (all := all) hgd hs
    have hc : qaw o.op = false := by
     generalize o.op = op at *
     cases op <;> first | rfl | (simp [qcl] at ha; done)
    unfold wpList
    rw [hw, ht, if_pos rfl]
    left
    refine Oper.wp_of_goes (qg0 hR hG hE o hc hg h1) fun u w' I' μ' q1 q2 q3 => ?_
    exact qcs l2 rest _ _ h2 q1 (hG.keep q2) ((hE.keep q2).putE hd (.iff true _ _ (fun _ => q3) (fun h => by cases h))) (Nat.le_trans hm q2.len) fun env' σ2 w2 I2 μ2 a2 k1 k2 k3 k4 k5 => hq env' σ2 w2 I2 μ2 a2 k1 k2 k3 k4 ((q2.mono hm).trans k5)
   rw [if_neg ha] at h
   obtain ⟨hqt, hs, hg, h⟩ := h
   have hw := qei hE (all := all) hgd hs
   unfold wpList
   cases ht : qaj (qaz all env j) b with
   | false =>
    rw [hw, ht, if_neg (by simp)]
    rw [ht] at h
    have : ∃ x, qal P Gl n all false rest (putE env o.dst (.iff false x)) σ K := by
     cases hc : qaw o.op with
     | true => simp only [hc, if_true] at h; obtain ⟨r0, _, h⟩ := h; exact ⟨r0, h⟩
     | false => simp only [hc, Bool.false_eq_true, if_false] at h; exact ⟨_, h.2⟩
    obtain ⟨x, hx⟩ := this
    exact qcs l2 rest _ _ hx hR hG (hE.putE hd (.iff false _ x (fun h => by cases h) (fun _ => rfl))) hm hq
   | true =>
    rw [hw, ht, if_pos rfl]
    left
    rw [ht] at h hg
    cases hc : qaw o.op with
    | true =>
     simp only [hc, if_true] at h
     obtain ⟨r0, h1, h2⟩ := h
     refine Oper.wp_of_call (qfo hR hG hE hg (h1 trivial σ (Ext.refl σ))) fun v w' ⟨r, σ', I', μ', q1, q2, q3, q4⟩ => ?_
     obtain ⟨rfl, rfl⟩ := q4
     exact qcs l2 rest _ _ h2 q1 (hG.keep q2) ((hE.keep q2).putE hd (.iff true _ _ (fun _ => q3) (fun h => by cases h))) (Nat.le_trans hm q2.len) fun env' σ2 w2 I2 μ2 a2 k1 k2 k3 k4 k5 => hq env' σ2 w2 I2 μ2 a2 k1 k2 k3 k4 ((q2.mono hm).trans k5)
    | false =>
     simp only [hc, Bool.false_eq_true, if_false] at h
     have hgo := qg0 hR hG hE o hc hg (h.1 trivial)
     rw [qgm hqt] at hgo
     refine Oper.wp_of_goes hgo fun u w' I' μ' q1 q2 q3 => ?_
     exact qcs l2 rest _ _ h.2 q1 (hG.keep q2) ((hE.keep q2).putE hd (.iff true _ _ (fun _ => q3) (fun h => by cases h))) (Nat.le_trans hm q2.len) fun env' σ2 w2 I2 μ2 a2 k1 k2 k3 k4 k5 => hq env' σ2 w2 I2 μ2 a2 k1 k2 k3 k4 ((q2.mono hm).trans k5)
variable {P : Program} {Gl : qa5} {n m : Nat} {env : Env}
theorem Qgw {i1 i2 i3 b0 b1 tM tI tN tB tE : Nat} {all1 all2 all3 : Array Oper} {l1 l2 l3 : List Oper} {oR oN oE : Oper} {body : Code} {t e : TypeId} {K : qfr → Env → Sto → Prop}
  (a1 : all1 = (l1 ++ [oR]).toArray) (a2 : all2 = (oN :: l2).toArray) (a3 : all3 = (oE :: l3).toArray)
  (r1 : oR.op = .range t (.tmp tM)) (r2 : oR.guard = none) (r3 : oR.dst = some tI) (n1 : oN.op = .next (.tmp tI) false) (n2 : oN.guard = none) (n3 : oN.dst = some tN) (q1 : oE.op = .entry (.tmp tI)) (q2 : oE.guard = none) (q3 : oE.dst = some tE)
  (u1 : tI < n) (u2 : tN < n) (u3 : tE < n) (ht : qhq P t = some (none, e))
  (h1 : qal P Gl n all1 false l1 env σ (fun e1 s1 => ∃ e2 s2 j f, ∃ g : List UInt8 → Option D, ∃ E S, ∃ Good : List UInt8 → Prop, qhn n m e1 s1 e2 s2 ∧ qd0 e2 tM = .mapr j ∧ qaa s2 j = .map none f ∧ (∀ l, f (.s l) = (g l).map AV.d) ∧
   qhn n (s2.length + 1) (putE e2 (some tI) (.ptr s2.length 0)) (s2.set j .dead ++ [.frz 0 []]) E S ∧ qd0 E tI = .ptr s2.length 0 ∧ qaa S s2.length = .frz 0 [] ∧
   (∀ b : Bool, qal P Gl n all2 false l2 (putE E (some tN) (if b = true then .tup [.d (.bool true), .undef, .undef] else .tup [.d (.bool false)])) S (fun e3 s3 => qd0 e3 tB = .d (.bool b) ∧ qhn n (s2.length + 1) e3 s3 E S)) ∧
   (∀ l x, g l = some x → qal P Gl n all3 false l3 (putE E (some tE) (.tup [.d (.str l), .d x])) S (fun e3 s3 => AWp P Gl n (s2.length + 1) body e3 s3 (qer b1 (qkl (qer b0 K) fun e4 s4 => Good l ∧ qhn n (s2.length + 1) e4 s4 E S)))) ∧
   ((∀ l x, g l = some x → Good l) → K .normal E S))) :
  AWp P Gl n m (.seq (.region i1 all1 false) (.block b0 (.loop (.seq (.region i2 all2 false) (.seq (.cond (.tmp tB) .skip (.exit b0)) (.block b1 (.seq (.region i3 all3 false) body))))))) env σ K := by
 intro w I μ a hR hG hE hm
 refine wp_seq (wp_region_list ?_)
 rw [show all1.toList = l1 ++ [oR] by rw [a1]]
 refine qcs [oR] l1 env σ h1 hR hG hE hm fun e1 s1 w1 I1 μ1 act1 hk k2 k3 k4 k5 => ?_
 obtain ⟨e2, s2, j, f, g, E, S, Good, hw1, hmj, hbj, hg, hw2, hEi, hSi, hnx, hen, hend⟩ := hk
 obtain ⟨I2, μ2, w1R, w1E, w1K⟩ := hw1 w1 I1 μ1 act1 k2 k4 k5.len
 have hG2 := k3.keep w1K
 have hmr : qa8 w1 I2 μ2 s2 (act1.eval (.tmp tM)) (.mapr j) := by
  have := w1E.slot tM
  rw [hmj] at this
  exact this
 obtain ⟨mb, w2, I3, μ3, es, clock, hrun, R3, K3, hμ3, hIt, hv3⟩ := q4o (P := P) (t := t) w1R hbj hg hmr ht
 refine wpList_plain r2 fun K' hK' => ?_
 unfold Oper.wp
 simp only [execOp, r1, hrun, Sem.run_bind, Result.andThen, Sem.run_pure]
 refine hK' _ _ ?_
 rw [r3]
 show (Code.block b0 _).wp P _ _ _
 have E3 : qbk n w2 I3 μ3 (s2.set j .dead ++ [.frz 0 []]) (putE e2 (some tI) (.ptr s2.length 0)) (act1.put (some tI) (.pointer (some ⟨w1.heap.size, 0, none⟩))) := (w1E.keep K3).putE (dst := some tI) (by simpa [qb4] using u1) hv3
 obtain ⟨I4, μ4, R4, E4, K4⟩ := hw2 w2 I3 μ3 _ R3 E3 (by simp)
 have hal : qb6 S s2.length := by unfold qb6; rw [hSi]; rfl
 have hμ4 : μ4 s2.length = some (w1.heap.size, 0) := ((K4.old s2.length (by omega) hal).2.1).trans hμ3
 have hr0 : ∀ b, I.fr b → b ≠ w1.heap.size := fun b hb e => by
  have h1 := hR.imm b hb
  have h2 := k5.size
  omega
 refine wp_block ?_
 let Inv : Act → World → Prop := fun a' w' => ∃ I' μ' seen, Rel w' I' μ' S ∧ qe2 Gl w' I' ∧ qbk n w' I' μ' S E a' ∧ qce m w I μ σ w' I' μ' S ∧ μ' s2.length = some (w1.heap.size, 0) ∧ Qj4 w' I' w1.heap.size mb g clock seen es clock ∧
  (leftOf es seen).size = (leftOf es (w'.iterSeen w1.heap.size)).size ∧ ∀ x ∈ es.toList, seen.contains x.born = true → ∃ l, x.key = .string ⟨l.toArray⟩ ∧ Good l
 have seenOf : ∀ {w' : World} {I' : Im} {seen : Array Nat}, Qj4 w' I' w1.heap.size mb g clock seen es clock → w'.iterSeen w1.heap.size = seen := fun h => by
  obtain ⟨c0, h1, _⟩ := h.it
  unfold World.iterSeen; rw [h1]
 refine wp_loop Inv (fun _ w' => (leftOf es (w'.iterSeen w1.heap.size)).size) ⟨I4, μ4, #[], R4, (hG2.keep K3).keep K4, E4, ((k5.trans w1K).trans (K3.mono w1K.len)).trans (K4.mono (by have := w1K.len; omega)), hμ4, hIt.keep K4, by rw [seenOf (hIt.keep K4)], fun x hx hc => by simp at hc⟩ ?_
 rintro a' w' ⟨I', μ', seen, hR', hG', hE', hK', hμ', hI', hsz, hgood⟩
 have hit : a'.eval (.tmp tI) = .pointer (some ⟨w1.heap.size, 0, none⟩) := by
  have hs := hE'.slot tI
  rw [hEi] at hs
  change qa8 w' I' μ' S (a'.eval (.tmp tI)) _ at hs
  revert hs
  generalize a'.eval (.tmp tI) = v
  intro hs
  cases hs with
  | ptr _ _ _ hid hh =>
   obtain ⟨b, base, g1, g2⟩ := hh
   have := g1 hal
   rw [hμ'] at this
   simp only [Option.some.injEq, Prod.mk.injEq] at this
   obtain ⟨rfl, rfl⟩ := this
   exact g2
 have hlen : s2.length + 1 ≤ S.length := by have := K4.len; omega
 have hm2 : m ≤ s2.length := w1K.len
 refine wp_seq (wp_region_list ?_)
 rw [show all2.toList = oN :: l2 by rw [a2]]
 refine wpList_plain n2 fun K5 hK5 => ?_
 unfold Oper.wp
 simp only [execOp, n1]
 rw [hit]
 rcases hI'.next (P := P) oN.type with ⟨hall, hrun⟩ | ⟨x, hx, w3, hrun, hI3, hs3, hoth, o1, o2, o3, o4, hlt, hent⟩
 ·simp only [hrun, Sem.run_bind, Result.andThen, Sem.run_pure]
  refine hK5 _ _ ?_
  rw [n3]
  have E5 := qbk.putE (dst := some tN) hE' (by simpa [qb4] using u2) (show qa8 w' I' μ' S (.tuple #[.bool false]) (.tup [.d (.bool false)]) from .tup [.bool false] _ rfl fun i v u hv hu => by
   cases i with
   | zero =>
    simp only [List.getElem?_cons_zero, Option.some.injEq] at hv hu
    subst hv; subst hu; exact .d _ _ (.bool _)
   | succ i => simp at hv)
  have hx2 := hnx false
  rw [if_neg (by simp)] at hx2
  refine qc2 (m := s2.length + 1) l2 _ _ hx2 hR' hG' E5 hlen fun e3 s3 w5 I5 μ5 a5 hk x1 x2 x3 x4 => ?_
  obtain ⟨hb, hw⟩ := hk
  obtain ⟨I6, μ6, y1, y2, y3⟩ := hw w5 I5 μ5 a5 x1 x3 x4.len
  have hbv : a5.eval (.tmp tB) = .bool false := by
   have h := x3.slot tB
   rw [hb] at h
   change qa8 w5 I5 μ5 s3 (a5.eval (.tmp tB)) _ at h
   exact (qz1 h rfl)
  refine wp_seq (wp_cond_split hbv (fun h => by cases h) (fun _ => wp_exit ?_))
  simp only [Exit.then, Exit.inBlock, if_true]
  refine ⟨.normal, E, S, I6, μ6, trivial, y1, x2.keep y3, y2, hK'.trans ((x4.trans y3).mono (by omega)), hend fun l x hx => ?_⟩
  obtain ⟨en, he1, he2⟩ := hI'.has l x hx
  obtain ⟨l', e1, e2⟩ := hgood en he1 (hall en he1)
  rw [he2] at e1
  simp only [Value.string.injEq, ByteArray.mk.injEq] at e1
  have e1 : l = l' := congrArg Array.toList e1
  rw [e1]; exact e2
 ·simp only [hrun, Sem.run_bind, Result.andThen, Sem.run_pure]
  refine hK5 _ _ ?_
  rw [n3]
  have hR3 := hR'.cong hs3
  have hG3 := hG'.cong hs3
  have hE3 := hE'.cong hs3
  have hK3 : qce m w I μ σ w3 I' μ' S := ⟨o1.trans hK'.os, o2.trans hK'.tape, o3.trans hK'.output, by rw [o4]; exact hK'.size, hK'.imm, hK'.fr, hK'.rdn, fun b hb => (hoth b (hr0 b hb)).trans (hK'.same b hb), fun b => by rw [hs3.bsize]; exact hK'.bsize b, hK'.len, hK'.old⟩
  obtain ⟨l, xv, hkey, hgl, hval⟩ := hI3.all x hx
  have E5 := qbk.putE (dst := some tN) hE3 (by simpa [qb4] using u2) (show qa8 w3 I' μ' S (.tuple #[.bool true, x.key, x.val]) (.tup [.d (.bool true), .undef, .undef]) from .tup [.bool true, x.key, x.val] _ rfl fun i v u hv hu => by
   match i with
   | 0 => simp only [List.getElem?_cons_zero, Option.some.injEq] at hv hu; subst hv; subst hu; exact .d _ _ (.bool _)
   | 1 => simp only [List.getElem?_cons_zero, List.getElem?_cons_succ, Option.some.injEq] at hv hu; subst hv; subst hu; exact .undef _
   | 2 => simp only [List.getElem?_cons_zero, List.getElem?_cons_succ, Option.some.injEq] at hv hu; subst hv; subst hu; exact .undef _
   | i + 3 => simp at hv)
  have hx2 := hnx true
  rw [if_pos rfl] at hx2
  refine qc2 (m := s2.length + 1) l2 _ _ hx2 hR3 hG3 E5 hlen fun e3 s3 w5 I5 μ5 a5 hk x1 x2 x3 x4 => ?_
  obtain ⟨hb, hw⟩ := hk
  obtain ⟨I6, μ6, y1, y2, y3⟩ := hw w5 I5 μ5 a5 x1 x3 x4.len
  have hbv : a5.eval (.tmp tB) = .bool true := by
   have h := x3.slot tB
   rw [hb] at h
   change qa8 w5 I5 μ5 s3 (a5.eval (.tmp tB)) _ at h
   exact (qz1 h rfl)
  have k6 := x4.trans y3
  have hI6 := (hI3.keep x4).keep y3
  refine wp_seq (wp_cond_split hbv (fun _ => wp_skip ?_) (fun h => by cases h))
  simp only [Exit.then]
  refine wp_block (wp_seq (wp_region_list ?_))
  rw [show all3.toList = oE :: l3 by rw [a3]]
  refine wpList_plain q2 fun K7 hK7 => ?_
  unfold Oper.wp
  simp only [execOp, q1]
  have hμ6 : μ6 s2.length = some (w1.heap.size, 0) := ((k6.old s2.length (by omega) hal).2.1).trans hμ'
  have hit6 : a5.eval (.tmp tI) = .pointer (some ⟨w1.heap.size, 0, none⟩) := by
   have hs := y2.slot tI
   rw [hEi] at hs
   change qa8 w5 I6 μ6 S (a5.eval (.tmp tI)) _ at hs
   revert hs
   generalize a5.eval (.tmp tI) = v
   intro hs
   cases hs with
   | ptr _ _ _ hid hh =>
    obtain ⟨b, base, g1, g2⟩ := hh
    have := g1 hal
    rw [hμ6] at this
    simp only [Option.some.injEq, Prod.mk.injEq] at this
    obtain ⟨rfl, rfl⟩ := this
    exact g2
  rw [hit6]
  have hent6 : (Instr.entry (.pointer (some ⟨w1.heap.size, 0, none⟩))).run P w5 = .ok (.tuple #[x.key, x.val]) w5 := by
   exact hent w5 (x4.same _ hI3.fr1) (x4.same _ hI3.fr2)
  simp only [hent6, Sem.run_bind, Result.andThen, Sem.run_pure]
  refine hK7 _ _ ?_
  rw [q3]
  have hval6 : qc6 w5 I6 x.val xv := by
   have := (hval.keep x4.imm x4.rsame).keep y3.imm y3.rsame
   exact this
  have E7 := qbk.putE (dst := some tE) y2 (by simpa [qb4] using u3) (show qa8 w5 I6 μ6 S (.tuple #[x.key, x.val]) (.tup [.d (.str l), .d xv]) from .tup [x.key, x.val] _ rfl fun i v u hv hu => by
   match i with
   | 0 => simp only [List.getElem?_cons_zero, Option.some.injEq] at hv hu; subst hv; subst hu; rw [hkey]; exact .d _ _ (.str _)
   | 1 => simp only [List.getElem?_cons_zero, List.getElem?_cons_succ, Option.some.injEq] at hv hu; subst hv; subst hu; exact .d _ _ hval6
   | i + 2 => simp at hv)
  have hG6 := (x2.keep y3)
  refine qc2 (m := s2.length + 1) l3 _ _ (hen l xv hgl) y1 hG6 E7 hlen fun e7 s7 w7 I7 μ7 a7 hk7 z1 z2 z3 z4 => ?_
  refine Code.wp_mono (fun ex a8 w8 q => ?_) (hk7 w7 I7 μ7 a7 z1 z2 z3 z4.len)
  obtain ⟨ae, env', σ', I8, μ8, p1, p2, p3, p4, p5, p6⟩ := q
  have kall : qce (s2.length + 1) w3 I' μ' S w8 I8 μ8 σ' := (k6.trans z4).trans p5
  have kout : qce m w I μ σ w8 I8 μ8 σ' := hK3.trans (kall.mono (by omega))
  have again : (∃ e4 s4, env' = e4 ∧ σ' = s4 ∧ Good l ∧ qhn n (s2.length + 1) e4 s4 E S) → Inv a8 w8 ∧ (leftOf es (w8.iterSeen w1.heap.size)).size < (leftOf es (w'.iterSeen w1.heap.size)).size := by
   rintro ⟨e4, s4, rfl, rfl, hgd, hw8⟩
   obtain ⟨I9, μ9, v1, v2, v3⟩ := hw8 w8 I8 μ8 a8 p2 p4 p5.len
   have k9 := kall.trans v3
   have hI9 := hI3.keep k9
   refine ⟨⟨I9, μ9, seen.push x.born, v1, p3.keep v3, v2, kout.trans (v3.mono (by omega)), ((k9.old s2.length (by omega) hal).2.1).trans hμ', hI9, by rw [seenOf hI9], fun y hy hc => ?_⟩, by rw [seenOf hI9, seenOf hI']; exact hlt⟩
   rw [contains_push, Bool.or_eq_true] at hc
   rcases hc with hc | hc
   ·exact hgood y hy hc
   ·have : y = x := born_inj hI3.st.2.1 hy hx (by simpa using hc)
    subst this
    exact ⟨l, hkey, hgd⟩
  cases ex <;> cases ae <;> simp only [Qhd] at p1
  ·exact again ⟨_, _, rfl, rfl, p6⟩
  ·subst p1
   rename_i i0
   simp only [qer] at p6
   by_cases e1 : i0 = b1
   ·rw [if_pos e1] at p6
    simp only [Exit.inBlock, Exit.then]
    rw [if_pos e1]
    exact again ⟨_, _, rfl, rfl, p6⟩
   ·rw [if_neg e1] at p6
    simp only [qkl] at p6
    simp only [Exit.inBlock, Exit.then]
    rw [if_neg e1]
    by_cases e2 : i0 = b0
    ·simp only [qer, if_pos e2] at p6
     rw [if_pos e2]
     exact ⟨.normal, env', σ', I8, μ8, trivial, p2, p3, p4, kout, p6⟩
    ·simp only [qer, if_neg e2] at p6
     rw [if_neg e2]
     exact ⟨.exit i0, env', σ', I8, μ8, rfl, p2, p3, p4, kout, p6⟩
  ·exact ⟨.ret, env', σ', I8, μ8, trivial, p2, p3, p4, kout, p6⟩
theorem Qbm {i1 i2 i3 b0 b1 tM tI tN tB tE : Nat} {x1 x2 : Oper} {l2 l3 : List Oper} {oR oN oE : Oper} {body : Code} {t e : TypeId} {K : qfr → Env → Sto → Prop}
  (r1 : oR.op = .range t (.tmp tM)) (r2 : oR.guard = none) (r3 : oR.dst = some tI) (n1 : oN.op = .next (.tmp tI) false) (n2 : oN.guard = none) (n3 : oN.dst = some tN) (q1 : oE.op = .entry (.tmp tI)) (q2 : oE.guard = none) (q3 : oE.dst = some tE)
  (u1 : tI < n) (u2 : tN < n) (u3 : tE < n) (ht : qhq P t = some (none, e))
  (h1 : qal P Gl n [x1, x2, oR].toArray false [x1, x2] env σ (fun e1 s1 => ∃ e2 s2 j f, ∃ g : List UInt8 → Option D, ∃ E S, ∃ Good : List UInt8 → Prop, qhn n m e1 s1 e2 s2 ∧ qd0 e2 tM = .mapr j ∧ qaa s2 j = .map none f ∧ (∀ l, f (.s l) = (g l).map AV.d) ∧
   qhn n (s2.length + 1) (putE e2 (some tI) (.ptr s2.length 0)) (s2.set j .dead ++ [.frz 0 []]) E S ∧ qd0 E tI = .ptr s2.length 0 ∧ qaa S s2.length = .frz 0 [] ∧
   (∀ b : Bool, qal P Gl n (oN :: l2).toArray false l2 (putE E (some tN) (if b = true then .tup [.d (.bool true), .undef, .undef] else .tup [.d (.bool false)])) S (fun e3 s3 => qd0 e3 tB = .d (.bool b) ∧ qhn n (s2.length + 1) e3 s3 E S)) ∧
   (∀ l x, g l = some x → qal P Gl n (oE :: l3).toArray false l3 (putE E (some tE) (.tup [.d (.str l), .d x])) S (fun e3 s3 => AWp P Gl n (s2.length + 1) body e3 s3 (qer b1 (qkl (qer b0 K) fun e4 s4 => Good l ∧ qhn n (s2.length + 1) e4 s4 E S)))) ∧
   ((∀ l x, g l = some x → Good l) → K .normal E S))) :
  AWp P Gl n m (.seq (.region i1 [x1, x2, oR].toArray false) (.block b0 (.loop (.seq (.region i2 (oN :: l2).toArray false) (.seq (.cond (.tmp tB) .skip (.exit b0)) (.block b1 (.seq (.region i3 (oE :: l3).toArray false) body))))))) env σ K :=
 Qgw (l1 := [x1, x2]) rfl rfl rfl r1 r2 r3 n1 n2 n3 q1 q2 q3 u1 u2 u3 ht h1
end Go.AM


namespace Go.AM
inductive Cel where
 | bool
 | int (k : IntKind)
 | str
 | sl (cs : List Cel) (agg : Bool)
mutual
def Qr7 : Cel → D → Prop
 | .bool, d => ∃ b, d = .bool b
 | .int k, d => ∃ i, d = .int k i ∧ (Lit.int k i).wf = true
 | .str, d => ∃ s, d = .str s ∧ s.length ≤ maxLen
 | .sl cs g, d => ∃ xs, d = .sl xs ∧ xs.length ≤ maxLen ∧ ∀ x ∈ xs, qkf cs x.cells ∧ x.isAgg = g
def qkf : List Cel → List D → Prop
 | [], ds => ds = []
 | c :: r, ds => ∃ d r', ds = d :: r' ∧ Qr7 c d ∧ qkf r r'
end
theorem qkf.append : ∀ {a b : List Cel} {x y : List D}, qkf a x → qkf b y → qkf (a ++ b) (x ++ y)
 | [], b, x, y, h1, h2 => by
  simp only [qkf] at h1
  subst h1
  simpa using h2
 | c :: r, b, x, y, h1, h2 => by
  simp only [qkf] at h1
  obtain ⟨d, r', rfl, h3, h4⟩ := h1
  simp only [List.cons_append, qkf]
  exact ⟨d, r' ++ y, rfl, h3, h4.append h2⟩
def q6t (f : TypeId → Option (List Cel)) : List Field → Option (List Cel)
 | [] => some []
 | x :: r => match f x.type, q6t f r with
  | some a, some b => some (a ++ b)
  | _, _ => none
def qj1 (P : Program) : Nat → TypeId → Option (List Cel)
 | 0, _ => none
 | n + 1, t => match P.underlying t with
  | some .bool => some [.bool]
  | some (.int k) => some [.int k]
  | some .string => some [.str]
  | some (.slice e) => match qj1 P n e with
   | some cs => some [.sl cs ((qbg P e).getD false)]
   | none => none
  | some (.struct fs) => q6t (qj1 P n) fs.toList
  | _ => none
theorem q5w {P : Program} : ∀ {n : Nat} {t : TypeId} {cs : List Cel} {ds : List D}, qj1 P n t = some cs → qet P n t ds → qkf cs ds
 | 0, t, cs, ds, h, _ => by cases h
 | n + 1, t, cs, ds, h, ht => by
  simp only [qet] at ht
  unfold qj1 at h
  cases hu : P.underlying t with
  | none => rw [hu] at ht; exact ht.elim
  | some td =>
   rw [hu] at ht h
   cases td <;> simp only at ht h <;> try (exact ht.elim)
   ·obtain ⟨b, rfl⟩ := ht
    cases h
    exact ⟨_, [], rfl, ⟨b, rfl⟩, rfl⟩
   ·obtain ⟨i, rfl, hw⟩ := ht
    cases h
    exact ⟨_, [], rfl, ⟨i, rfl, hw⟩, rfl⟩
   ·obtain ⟨s, rfl, hs⟩ := ht
    cases h
    exact ⟨_, [], rfl, ⟨s, rfl, hs⟩, rfl⟩
   ·obtain ⟨xs, rfl, hx, hxs⟩ := ht
    rename_i e
    cases hs : qj1 P n e with
    | none => rw [hs] at h; cases h
    | some cs' =>
     rw [hs] at h
     cases h
     exact ⟨_, [], rfl, ⟨xs, rfl, hx, fun x hm => ⟨q5w hs (hxs x hm).1, (hxs x hm).2.2⟩⟩, rfl⟩
   ·rename_i fs
    have gen : ∀ (l : List Field) (cs : List Cel) (ds : List D), q6t (qj1 P n) l = some cs → qms P (qet P n) l ds → qkf cs ds := by
     intro l
     induction l with
     | nil =>
      intro cs ds h1 h2
      cases h1
      simp only [qms] at h2
      exact h2
     | cons x r ih =>
      intro cs ds h1 h2
      simp only [qms] at h2
      obtain ⟨a, b, rfl, _, h3, h4⟩ := h2
      simp only [q6t] at h1
      split at h1
      ·rename_i p q hp hq
       cases h1
       exact (q5w hp h3).append (ih q b hq h4)
      ·cases h1
    exact gen _ _ _ h ht
theorem Qd6 {α : Type} {f : α → D} : ∀ {xs : List D}, (∀ x ∈ xs, ∃ a, x = f a) → ∃ l : List α, xs = l.map f
 | [], _ => ⟨[], rfl⟩
 | x :: r, h => by
  obtain ⟨a, rfl⟩ := h x List.mem_cons_self
  obtain ⟨l, rfl⟩ := Qd6 fun y hy => h y (List.mem_cons_of_mem _ hy)
  exact ⟨a :: l, rfl⟩
theorem q81 {α : Type} {f : α → D} {p : α → Prop} : ∀ {xs : List D}, (∀ x ∈ xs, ∃ a, x = f a ∧ p a) → ∃ l : List α, xs = l.map f ∧ ∀ a ∈ l, p a
 | [], _ => ⟨[], rfl, fun a ha => by cases ha⟩
 | x :: r, h => by
  obtain ⟨a, rfl, ha⟩ := h x List.mem_cons_self
  obtain ⟨l, rfl, hl⟩ := q81 fun y hy => h y (List.mem_cons_of_mem _ hy)
  exact ⟨a :: l, rfl, fun b hb => by
   rcases List.mem_cons.1 hb with rfl | hb
   ·exact ha
   ·exact hl b hb⟩
theorem Qlp {c : Cel} {x : D} (h : qkf [c] x.cells) (hg : x.isAgg = false) : Qr7 c x := by
 obtain ⟨d, r, h1, h2, h3⟩ := h
 have hc : x.cells = [x] := by cases x <;> first | rfl | (simp [D.isAgg] at hg)
 simp only [qkf] at h3
 subst h3
 rw [hc] at h1
 simp only [List.cons.injEq, and_true] at h1
 rw [h1]; exact h2
theorem Qrf {x : D} {l : List D} (hg : x.isAgg = true) (h : x.cells = l) : x = .agg l := by
 cases x <;> simp_all [D.isAgg, D.cells]
theorem qsm {P : Program} {n : Nat} {t : TypeId} {x : D} {c : Cel} (h : qt2 P n t x) (hs : qj1 P n t = some [c]) (hk : (qbg P t).getD false = false) : Qr7 c x := Qlp (q5w hs h.1) (h.2.trans hk)
end Go.AM
