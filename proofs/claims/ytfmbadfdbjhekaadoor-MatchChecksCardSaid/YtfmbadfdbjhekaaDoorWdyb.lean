/- A part of the proof: contracts of functions of this seat, and lemmas. No condition beyond those stated. -/
import Derived.Test.YtfmbadfdbjhekaaDoorWdya
set_option linter.unusedVariables false
set_option linter.unusedSimpArgs false
set_option linter.unusedSectionVars false
set_option linter.unnecessarySimpa false
namespace Go.Proofs
open Go.AM
namespace YtfmbadfdbjhekaaDoor
def txtN (d : Nat) : List UInt8 := if d < 10 then [UInt8.ofNat (48 + d)] else [UInt8.ofNat (48 + d / 10), UInt8.ofNat (48 + d % 10)]
def shp (l : List NodeT) (i : Nat) : List (List UInt8) := (belowL l i).map fun k => txtN (depW l i l.length k) ++ 32 :: nm l k
structure Al where
 toB : List Int
 toA : List Int
def Al.b (s : Al) (p : Nat) : Int := s.toB.getD p (-1)
def Al.a (s : Al) (q : Nat) : Int := s.toA.getD q (-1)
def pairS (s : Al) (p q : Nat) : Al := ⟨s.toB.set p q, s.toA.set q p⟩
theorem pair_b {s : Al} {p q i : Nat} (h : p < s.toB.length) : (pairS s p q).b i = if i = p then (q : Int) else s.b i := by
 simp only [pairS, Al.b, List.getD_eq_getElem?_getD, List.getElem?_set]
 by_cases e : p = i
 ·subst e; simp [h]
 ·rw [if_neg e, if_neg (by omega)]
theorem pair_a {s : Al} {p q i : Nat} (h : q < s.toA.length) : (pairS s p q).a i = if i = q then (p : Int) else s.a i := by
 simp only [pairS, Al.a, List.getD_eq_getElem?_getD, List.getElem?_set]
 by_cases e : q = i
 ·subst e; simp [h]
 ·rw [if_neg e, if_neg (by omega)]
theorem pair_len {s : Al} {p q : Nat} : (pairS s p q).toB.length = s.toB.length ∧ (pairS s p q).toA.length = s.toA.length := by simp [pairS]
def c1 (a b : List NodeT) (y : List Nat) (p : Nat) : Option Nat := y.find? fun q => nm b q == nm a p
def c2 (a b : List NodeT) (y : List Nat) (s : Al) (p : Nat) : Option Nat := if s.b p < 0 ∧ shp a p ≠ [] then y.find? fun q => decide (s.a q < 0) && (shp b q == shp a p) else none
def opS (s : Al) (p : Nat) : Option Nat → Al
 | some q => pairS s p q
 | none => s
def ph1 (a b : List NodeT) (y x : List Nat) (s : Al) : Al := x.foldl (fun s p => opS s p (c1 a b y p)) s
def ph2 (a b : List NodeT) (y x : List Nat) (s : Al) : Al := x.foldl (fun s p => opS s p (c2 a b y s p)) s
def alignF (a b : List NodeT) : Nat → Int → Int → Al → Al
 | 0, _, _, s => s
 | f + 1, i, k, s => (kids a i).foldl (fun (s : Al) (p : Nat) => if 0 ≤ s.b p then alignF a b f p (s.b p) s else s) (ph2 a b (kids b k) (kids a i) (ph1 a b (kids b k) (kids a i) s))
structure Tr (l : List NodeT) : Prop where
 up : TreeUp l l.length
 sib : ∀ {j i : Nat}, i < l.length → j < i → par l j = par l i → Op.bytesLess (nm l j) (nm l i) = true
theorem Tr.of {l : List NodeT} (h : checkF l = 0) : Tr l := by
 obtain ⟨_, _, h3, h4, _⟩ := checkF_ok h
 exact ⟨h4, fun hi hj hp => sib_lt h3 hi hj hp⟩
theorem Tr.name {l : List NodeT} (h : Tr l) {i j : Nat} (hi : i < l.length) (hj : j < l.length) (hp : par l i = par l j) (hn : nm l i = nm l j) : i = j := by
 rcases Nat.lt_trichotomy i j with g | g | g
 ·have := h.sib hj g hp; rw [hn, bl_irr] at this; cases this
 ·exact g
 ·have := h.sib hi g hp.symm; rw [hn, bl_irr] at this; cases this
structure Mut (la lb : Nat) (s : Al) : Prop where
 eb : s.toB.length = la
 ea : s.toA.length = lb
 rb : ∀ p, -1 ≤ s.b p ∧ s.b p < lb
 ra : ∀ q, -1 ≤ s.a q ∧ s.a q < la
 iff : ∀ p q : Nat, p < la → q < lb → (s.b p = q ↔ s.a q = p)
def Agr (x y : List Nat) (s t : Al) : Prop := (∀ p ∈ x, s.b p = t.b p) ∧ (∀ q ∈ y, s.a q = t.a q)
structure Fr (la lb : Nat) (x y : List Nat) (s t : Al) : Prop where
 eb : t.toB.length = s.toB.length
 ea : t.toA.length = s.toA.length
 b : ∀ p, p ∉ x → t.b p = s.b p
 a : ∀ q, q ∉ y → t.a q = s.a q
theorem Fr.refl (la lb : Nat) (x y : List Nat) (s : Al) : Fr la lb x y s s := ⟨rfl, rfl, fun _ _ => rfl, fun _ _ => rfl⟩
theorem Fr.op {la lb : Nat} {x y : List Nat} {s t : Al} (h : Fr la lb x y s t) {p : Nat} (hp : p ∈ x) (hpl : p < s.toB.length) {o : Option Nat} (ho : ∀ q, o = some q → q ∈ y ∧ q < s.toA.length) : Fr la lb x y s (opS t p o) := by
 cases o with
 | none => exact h
 | some q =>
  obtain ⟨h1, h2⟩ := ho q rfl
  obtain ⟨l1, l2⟩ := pair_len (s := t) (p := p) (q := q)
  refine ⟨l1.trans h.eb, l2.trans h.ea, fun i hi => ?_, fun i hi => ?_⟩
  ·show (pairS t p q).b i = _
   rw [pair_b (by rw [h.eb]; exact hpl), if_neg (fun e => hi (by rw [e]; exact hp))]; exact h.b i hi
  ·show (pairS t p q).a i = _
   rw [pair_a (by rw [h.ea]; exact h2), if_neg (fun e => hi (by rw [e]; exact h1))]; exact h.a i hi
theorem op_len (s : Al) (p : Nat) (o : Option Nat) : (opS s p o).toB.length = s.toB.length ∧ (opS s p o).toA.length = s.toA.length := by
 cases o with
 | none => exact ⟨rfl, rfl⟩
 | some q => exact pair_len
theorem kids_lt {l : List NodeT} {i : Int} {k : Nat} (h : k ∈ kids l i) : k < l.length := (mem_kids.1 h).1
section
variable {a b : List NodeT} {i k : Int} {s0 : Al}
def Why (a b : List NodeT) (p q : Nat) : Prop := nm b q = nm a p ∨ (shp b q = shp a p ∧ shp a p ≠ [])
end
def iniS (la lb : Nat) : Al := ⟨List.replicate la (-1), List.replicate lb (-1)⟩
theorem ini_b (la lb p : Nat) : (iniS la lb).b p = -1 := by
 simp only [iniS, Al.b, List.getD_eq_getElem?_getD, List.getElem?_replicate]; split <;> rfl
def locM (a b : List NodeT) (i k : Int) (p : Nat) : Int := (ph2 a b (kids b k) (kids a i) (ph1 a b (kids b k) (kids a i) (iniS a.length b.length))).b p
def cpt (a b : List NodeT) (p : Nat) : Int :=
 if h : 0 ≤ par a p ∧ par a p < p then (if cpt a b (par a p).toNat < 0 then -1 else locM a b (par a p) (cpt a b (par a p).toNat) p) else if par a p = -1 then locM a b (-1) (-1) p else -1
termination_by p
decreasing_by all_goals omega
def Corr (a b : List NodeT) (p q : Nat) : Prop := (par a p = -1 ∧ par b q = -1) ∨ ∃ i k : Nat, par a p = i ∧ par b q = k ∧ cpt a b i = k ∧ i < p
def Bel (l : List NodeT) (i : Int) (p : Nat) : Prop := i = -1 ∨ (upW l i p = true ∧ (p : Int) ≠ i)
open Classical in
def finS (a b : List NodeT) : Al := alignF a b (a.length + 1) (-1) (-1) (iniS a.length b.length)
end YtfmbadfdbjhekaaDoor
end Go.Proofs
