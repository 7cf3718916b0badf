/- A part of the proof: contracts of functions of this seat, and lemmas. No condition beyond those stated. -/
import Derived.Test.YtfmbadfdbjhekaaDoorWdya
set_option linter.unusedVariables false
set_option linter.unusedSimpArgs false
set_option linter.unusedSectionVars false
set_option linter.unnecessarySimpa false
namespace Go.Proofs
open Go.AM
namespace YtfmbadfdbjhekaaDoor
def txtN (d : Nat) : List UInt8 := if d < 10 then [UInt8.ofNat (48 + d)] else [UInt8.ofNat (48 + d / 10), UInt8.ofNat (48 + d % 10)]
def shp (l : List NodeT) (i : Nat) : List (List UInt8) := (belowL l i).map fun k => txtN (depW l i l.length k) ++ 32 :: nm l k
structure Al where
 toB : List Int
 toA : List Int
def Al.b (s : Al) (p : Nat) : Int := s.toB.getD p (-1)
def Al.a (s : Al) (q : Nat) : Int := s.toA.getD q (-1)
def pairS (s : Al) (p q : Nat) : Al := ⟨s.toB.set p q, s.toA.set q p⟩
theorem pair_b {s : Al} {p q i : Nat} (h : p < s.toB.length) : (pairS s p q).b i = if i = p then (q : Int) else s.b i := by
 simp only [pairS, Al.b, List.getD_eq_getElem?_getD, List.getElem?_set]
 by_cases e : p = i
 ·subst e; simp [h]
 ·rw [if_neg e, if_neg (by omega)]
theorem pair_a {s : Al} {p q i : Nat} (h : q < s.toA.length) : (pairS s p q).a i = if i = q then (p : Int) else s.a i := by
 simp only [pairS, Al.a, List.getD_eq_getElem?_getD, List.getElem?_set]
 by_cases e : q = i
 ·subst e; simp [h]
 ·rw [if_neg e, if_neg (by omega)]
theorem pair_len {s : Al} {p q : Nat} : (pairS s p q).toB.length = s.toB.length ∧ (pairS s p q).toA.length = s.toA.length := by simp [pairS]
def c1 (a b : List NodeT) (y : List Nat) (p : Nat) : Option Nat := y.find? fun q => nm b q == nm a p
def c2 (a b : List NodeT) (y : List Nat) (s : Al) (p : Nat) : Option Nat := if s.b p < 0 ∧ shp a p ≠ [] then y.find? fun q => decide (s.a q < 0) && (shp b q == shp a p) else none
def opS (s : Al) (p : Nat) : Option Nat → Al
 | some q => pairS s p q
 | none => s
def ph1 (a b : List NodeT) (y x : List Nat) (s : Al) : Al := x.foldl (fun s p => opS s p (c1 a b y p)) s
def ph2 (a b : List NodeT) (y x : List Nat) (s : Al) : Al := x.foldl (fun s p => opS s p (c2 a b y s p)) s
def alignF (a b : List NodeT) : Nat → Int → Int → Al → Al
 | 0, _, _, s => s
 | f + 1, i, k, s => (kids a i).foldl (fun (s : Al) (p : Nat) => if 0 ≤ s.b p then alignF a b f p (s.b p) s else s) (ph2 a b (kids b k) (kids a i) (ph1 a b (kids b k) (kids a i) s))
structure Tr (l : List NodeT) : Prop where
 up : TreeUp l l.length
 sib : ∀ {j i : Nat}, i < l.length → j < i → par l j = par l i → Op.bytesLess (nm l j) (nm l i) = true
theorem Tr.of {l : List NodeT} (h : checkF l = 0) : Tr l := by
 obtain ⟨_, _, h3, h4, _⟩ := checkF_ok h
 exact ⟨h4, fun hi hj hp => sib_lt h3 hi hj hp⟩
theorem Tr.name {l : List NodeT} (h : Tr l) {i j : Nat} (hi : i < l.length) (hj : j < l.length) (hp : par l i = par l j) (hn : nm l i = nm l j) : i = j := by
 rcases Nat.lt_trichotomy i j with g | g | g
 ·have := h.sib hj g hp; rw [hn, bl_irr] at this; cases this
 ·exact g
 ·have := h.sib hi g hp.symm; rw [hn, bl_irr] at this; cases this
theorem kids_name {l : List NodeT} (h : Tr l) {k : Int} {i j : Nat} (hi : i ∈ kids l k) (hj : j ∈ kids l k) (hn : nm l i = nm l j) : i = j := by
 obtain ⟨h1, h2⟩ := mem_kids.1 hi
 obtain ⟨h3, h4⟩ := mem_kids.1 hj
 exact h.name h1 h3 (h2.trans h4.symm) hn
structure Mut (la lb : Nat) (s : Al) : Prop where
 eb : s.toB.length = la
 ea : s.toA.length = lb
 rb : ∀ p, -1 ≤ s.b p ∧ s.b p < lb
 ra : ∀ q, -1 ≤ s.a q ∧ s.a q < la
 iff : ∀ p q : Nat, p < la → q < lb → (s.b p = q ↔ s.a q = p)
theorem Mut.pair {la lb : Nat} {s : Al} (h : Mut la lb s) {p q : Nat} (hp : p < la) (hq : q < lb) (h1 : s.b p < 0) (h2 : s.a q < 0) : Mut la lb (pairS s p q) := by
 obtain ⟨l1, l2⟩ := pair_len (s := s) (p := p) (q := q)
 have hb := fun i => pair_b (s := s) (p := p) (q := q) (i := i) (by rw [h.eb]; exact hp)
 have ha := fun i => pair_a (s := s) (p := p) (q := q) (i := i) (by rw [h.ea]; exact hq)
 refine ⟨l1.trans h.eb, l2.trans h.ea, fun i => ?_, fun i => ?_, fun i j hi hj => ?_⟩
 ·rw [hb]; have := h.rb i; split <;> omega
 ·rw [ha]; have := h.ra i; split <;> omega
 ·rw [hb, ha]
  have := h.iff i j hi hj
  have hpq := h.iff p j hp hj
  have hqp := h.iff i q hi hq
  by_cases e1 : i = p
  ·rw [if_pos e1]
   by_cases e2 : j = q
   ·rw [if_pos e2]; constructor <;> intro _ <;> omega
   ·rw [if_neg e2]
    constructor
    ·intro hh; omega
    ·intro hh; subst e1; have := hpq.2 hh; omega
  ·rw [if_neg e1]
   by_cases e2 : j = q
   ·rw [if_pos e2]
    constructor
    ·intro hh; subst e2; have := hqp.1 hh; omega
    ·intro hh; omega
   ·rw [if_neg e2]; exact this
def Agr (x y : List Nat) (s t : Al) : Prop := (∀ p ∈ x, s.b p = t.b p) ∧ (∀ q ∈ y, s.a q = t.a q)
theorem c2_agr {a b : List NodeT} {x y : List Nat} {s t : Al} (h : Agr x y s t) {p : Nat} (hp : p ∈ x) : c2 a b y s p = c2 a b y t p := by
 unfold c2
 rw [h.1 p hp]
 congr 1
 have gen : ∀ z : List Nat, (∀ q ∈ z, q ∈ y) → z.find? (fun q => decide (s.a q < 0) && (shp b q == shp a p)) = z.find? (fun q => decide (t.a q < 0) && (shp b q == shp a p)) := by
  intro z
  induction z with
  | nil => intro _; rfl
  | cons q z ih =>
   intro hz
   rw [List.find?_cons, List.find?_cons, h.2 q (hz q List.mem_cons_self), ih fun r hr => hz r (List.mem_cons_of_mem _ hr)]
 exact gen y fun _ h => h
theorem c1_mem {a b : List NodeT} {y : List Nat} {p q : Nat} (h : c1 a b y p = some q) : q ∈ y ∧ nm b q = nm a p := by
 have h1 := List.mem_of_find?_eq_some h
 have h2 := List.find?_some h
 exact ⟨h1, by simpa using h2⟩
theorem c2_mem {a b : List NodeT} {y : List Nat} {s : Al} {p q : Nat} (h : c2 a b y s p = some q) : q ∈ y ∧ s.b p < 0 ∧ s.a q < 0 ∧ shp b q = shp a p ∧ shp a p ≠ [] := by
 unfold c2 at h
 split at h
 ·rename_i h0
  have h1 := List.mem_of_find?_eq_some h
  have h2 := List.find?_some h
  simp only [Bool.and_eq_true, decide_eq_true_eq, beq_iff_eq] at h2
  exact ⟨h1, h0.1, h2.1, h2.2, h0.2⟩
 ·cases h
structure Fr (la lb : Nat) (x y : List Nat) (s t : Al) : Prop where
 eb : t.toB.length = s.toB.length
 ea : t.toA.length = s.toA.length
 b : ∀ p, p ∉ x → t.b p = s.b p
 a : ∀ q, q ∉ y → t.a q = s.a q
theorem Fr.refl (la lb : Nat) (x y : List Nat) (s : Al) : Fr la lb x y s s := ⟨rfl, rfl, fun _ _ => rfl, fun _ _ => rfl⟩
theorem Fr.op {la lb : Nat} {x y : List Nat} {s t : Al} (h : Fr la lb x y s t) {p : Nat} (hp : p ∈ x) (hpl : p < s.toB.length) {o : Option Nat} (ho : ∀ q, o = some q → q ∈ y ∧ q < s.toA.length) : Fr la lb x y s (opS t p o) := by
 cases o with
 | none => exact h
 | some q =>
  obtain ⟨h1, h2⟩ := ho q rfl
  obtain ⟨l1, l2⟩ := pair_len (s := t) (p := p) (q := q)
  refine ⟨l1.trans h.eb, l2.trans h.ea, fun i hi => ?_, fun i hi => ?_⟩
  ·show (pairS t p q).b i = _
   rw [pair_b (by rw [h.eb]; exact hpl), if_neg (fun e => hi (by rw [e]; exact hp))]; exact h.b i hi
  ·show (pairS t p q).a i = _
   rw [pair_a (by rw [h.ea]; exact h2), if_neg (fun e => hi (by rw [e]; exact h1))]; exact h.a i hi
theorem op_agr {x y : List Nat} {s t : Al} (h : Agr x y s t) (hl : s.toB.length = t.toB.length ∧ s.toA.length = t.toA.length) {p : Nat} (hpl : p < s.toB.length) {o : Option Nat} (ho : ∀ q, o = some q → q < s.toA.length) : Agr x y (opS s p o) (opS t p o) := by
 cases o with
 | none => exact h
 | some q =>
  have h2 := ho q rfl
  refine ⟨fun i hi => ?_, fun i hi => ?_⟩
  ·show (pairS s p q).b i = (pairS t p q).b i
   rw [pair_b hpl, pair_b (by rw [← hl.1]; exact hpl), h.1 i hi]
  ·show (pairS s p q).a i = (pairS t p q).a i
   rw [pair_a h2, pair_a (by rw [← hl.2]; exact h2), h.2 i hi]
theorem op_len (s : Al) (p : Nat) (o : Option Nat) : (opS s p o).toB.length = s.toB.length ∧ (opS s p o).toA.length = s.toA.length := by
 cases o with
 | none => exact ⟨rfl, rfl⟩
 | some q => exact pair_len
theorem ph1_fr {a b : List NodeT} {la lb : Nat} {x y : List Nat} (hx : ∀ p ∈ x, p < la) (hy : ∀ q ∈ y, q < lb) {s : Al} (hs : s.toB.length = la ∧ s.toA.length = lb) : ∀ (z : List Nat), (∀ p ∈ z, p ∈ x) → ∀ (t : Al), Fr la lb x y s t → Fr la lb x y s (ph1 a b y z t) := by
 intro z
 induction z with
 | nil => intro _ t h; exact h
 | cons p z ih =>
  intro hz t h
  refine ih (fun q hq => hz q (List.mem_cons_of_mem _ hq)) _ (h.op (hz p List.mem_cons_self) (by rw [hs.1]; exact hx p (hz p List.mem_cons_self)) fun q hq => ?_)
  have := (c1_mem hq).1
  exact ⟨this, by rw [hs.2]; exact hy q this⟩
theorem ph1_agr {a b : List NodeT} {la lb : Nat} {x y : List Nat} (hx : ∀ p ∈ x, p < la) (hy : ∀ q ∈ y, q < lb) : ∀ (z : List Nat), (∀ p ∈ z, p ∈ x) → ∀ (s t : Al), (s.toB.length = la ∧ s.toA.length = lb) → (t.toB.length = la ∧ t.toA.length = lb) → Agr x y s t → Agr x y (ph1 a b y z s) (ph1 a b y z t) := by
 intro z
 induction z with
 | nil => intro _ s t _ _ h; exact h
 | cons p z ih =>
  intro hz s t hs ht h
  have hp := hx p (hz p List.mem_cons_self)
  have l1 := op_len s p (c1 a b y p)
  have l2 := op_len t p (c1 a b y p)
  refine ih (fun q hq => hz q (List.mem_cons_of_mem _ hq)) _ _ ⟨l1.1.trans hs.1, l1.2.trans hs.2⟩ ⟨l2.1.trans ht.1, l2.2.trans ht.2⟩ (op_agr h ⟨hs.1.trans ht.1.symm, hs.2.trans ht.2.symm⟩ (by rw [hs.1]; exact hp) fun q hq => ?_)
  rw [hs.2]; exact hy q (c1_mem hq).1
theorem ph2_agr {a b : List NodeT} {la lb : Nat} {x y : List Nat} (hx : ∀ p ∈ x, p < la) (hy : ∀ q ∈ y, q < lb) : ∀ (z : List Nat), (∀ p ∈ z, p ∈ x) → ∀ (s t : Al), (s.toB.length = la ∧ s.toA.length = lb) → (t.toB.length = la ∧ t.toA.length = lb) → Agr x y s t → Agr x y (ph2 a b y z s) (ph2 a b y z t) := by
 intro z
 induction z with
 | nil => intro _ s t _ _ h; exact h
 | cons p z ih =>
  intro hz s t hs ht h
  have hp := hx p (hz p List.mem_cons_self)
  have l1 := op_len s p (c2 a b y s p)
  have l2 := op_len t p (c2 a b y s p)
  have e := c2_agr (a := a) (b := b) h (hz p List.mem_cons_self)
  show Agr x y (ph2 a b y z (opS s p (c2 a b y s p))) (ph2 a b y z (opS t p (c2 a b y t p)))
  rw [← e]
  refine ih (fun q hq => hz q (List.mem_cons_of_mem _ hq)) _ _ ⟨l1.1.trans hs.1, l1.2.trans hs.2⟩ ⟨l2.1.trans ht.1, l2.2.trans ht.2⟩ (op_agr h ⟨hs.1.trans ht.1.symm, hs.2.trans ht.2.symm⟩ (by rw [hs.1]; exact hp) fun q hq => ?_)
  rw [hs.2]; exact hy q (c2_mem hq).1
theorem foldl_inv {β : Type} (f : β → Nat → β) (x : List Nat) (I : List Nat → β → Prop) (hs : ∀ d p r s, x = d ++ p :: r → I d s → I (d ++ [p]) (f s p)) : ∀ (r d : List Nat) (s : β), x = d ++ r → I d s → I x (r.foldl f s) := by
 intro r
 induction r with
 | nil => intro d s e h; rw [List.append_nil] at e; rw [e]; exact h
 | cons p r ih => intro d s e h; exact ih (d ++ [p]) _ (by simp [e]) (hs d p r s e h)
theorem foldl_inv0 {β : Type} (f : β → Nat → β) (x : List Nat) (I : List Nat → β → Prop) (hs : ∀ d p r s, x = d ++ p :: r → I d s → I (d ++ [p]) (f s p)) (s : β) (h : I [] s) : I x (x.foldl f s) := foldl_inv f x I hs x [] s rfl h
theorem kids_lt {l : List NodeT} {i : Int} {k : Nat} (h : k ∈ kids l i) : k < l.length := (mem_kids.1 h).1
theorem nodup_mid {x d r : List Nat} {p : Nat} (hx : x.Pairwise (· < ·)) (e : x = d ++ p :: r) : p ∉ d := fun hm => by
 rw [e, List.pairwise_append] at hx
 have := hx.2.2 p hm p List.mem_cons_self
 omega
section
variable {a b : List NodeT} {i k : Int} {s0 : Al}
theorem ph1_loc (hA : Tr a) (hB : Tr b) (h0 : Mut a.length b.length s0) (hf : (∀ p ∈ kids a i, s0.b p < 0) ∧ (∀ q ∈ kids b k, s0.a q < 0)) :
  Mut a.length b.length (ph1 a b (kids b k) (kids a i) s0) ∧ Fr a.length b.length (kids a i) (kids b k) s0 (ph1 a b (kids b k) (kids a i) s0) ∧ (∀ p ∈ kids a i, p ∉ kids a i → (ph1 a b (kids b k) (kids a i) s0).b p < 0) ∧
   (∀ p ∈ kids a i, ∀ q ∈ kids b k, nm b q = nm a p → (ph1 a b (kids b k) (kids a i) s0).b p = q) ∧ (∀ p ∈ kids a i, 0 ≤ (ph1 a b (kids b k) (kids a i) s0).b p → ∃ q ∈ kids b k, (ph1 a b (kids b k) (kids a i) s0).b p = (q : Int) ∧ nm b q = nm a p) := by
 have hx := fun p (hp : p ∈ kids a i) => kids_lt hp
 have hy := fun q (hq : q ∈ kids b k) => kids_lt hq
 refine foldl_inv0 (fun s p => opS s p (c1 a b (kids b k) p)) (kids a i) (fun d s => Mut a.length b.length s ∧ Fr a.length b.length (kids a i) (kids b k) s0 s ∧ (∀ p ∈ kids a i, p ∉ d → s.b p < 0) ∧
   (∀ p ∈ d, ∀ q ∈ kids b k, nm b q = nm a p → s.b p = q) ∧ (∀ p ∈ kids a i, 0 ≤ s.b p → ∃ q ∈ kids b k, s.b p = (q : Int) ∧ nm b q = nm a p)) ?_ s0 ⟨h0, Fr.refl _ _ _ _ _, fun p hp _ => hf.1 p hp, fun p hp => by simp at hp, fun p hp h => by have := hf.1 p hp; omega⟩
 intro d p r s e ⟨i1, i2, i3, i4, i5⟩
 have hpd := nodup_mid (kids_sorted a i) e
 have hpx : p ∈ kids a i := by rw [e]; simp
 have hdx : ∀ z ∈ d, z ∈ kids a i := fun z hz => by rw [e]; simp [hz]
 cases hc : c1 a b (kids b k) p with
 | none =>
  refine ⟨i1, i2, fun z hz hzd => i3 z hz fun hm => hzd (by simp [hm]), fun z hz q hq hn => ?_, i5⟩
  rcases List.mem_append.1 hz with hz | hz
  ·exact i4 z hz q hq hn
  ·have : z = p := by simpa using hz
   subst this
   unfold c1 at hc
   rw [List.find?_eq_none] at hc
   exact absurd (by simpa using hn) (hc q hq)
 | some q =>
  obtain ⟨q1, q2⟩ := c1_mem hc
  have hb := i3 p hpx hpd
  have ha : s.a q < 0 := by
   rcases Int.lt_or_le (s.a q) 0 with h | h
   ·exact h
   exfalso
   obtain ⟨p', hp'⟩ : ∃ p' : Nat, s.a q = p' := ⟨(s.a q).toNat, by omega⟩
   have hp'l : p' < a.length := by have := (i1.ra q).2; omega
   have h1 := (i1.iff p' q hp'l (hy q q1)).2 hp'
   by_cases hm : p' ∈ kids a i
   ·obtain ⟨q', g1, g2, g3⟩ := i5 p' hm (by omega)
    have : q' = q := by omega
    subst this
    have := kids_name hA hm hpx (g3.symm.trans q2)
    subst this
    omega
   ·rw [i2.b p' hm] at h1
    have := (h0.iff p' q hp'l (hy q q1)).1 h1
    have := hf.2 q q1
    omega
  have hpl := hx p hpx
  have hbe := fun z => pair_b (s := s) (p := p) (q := q) (i := z) (by rw [i1.eb]; exact hpl)
  refine ⟨i1.pair hpl (hy q q1) hb ha, i2.op (o := some q) hpx (by rw [h0.eb]; exact hpl) fun q' hq' => by cases hq'; exact ⟨q1, by rw [h0.ea]; exact hy q q1⟩, fun z hz hzd => ?_, fun z hz q' hq' hn => ?_, fun z hz h => ?_⟩
  ·show (pairS s p q).b z < 0
   rw [hbe, if_neg (fun e => hzd (by simp [e]))]
   exact i3 z hz fun hm => hzd (by simp [hm])
  ·show (pairS s p q).b z = q'
   rw [hbe]
   rcases List.mem_append.1 hz with hz | hz
   ·rw [if_neg (fun e => hpd (by rw [← e]; exact hz))]; exact i4 z hz q' hq' hn
   ·have : z = p := by simpa using hz
    subst this
    rw [if_pos rfl]
    have := kids_name hB q1 hq' (q2.trans hn.symm)
    omega
  ·change 0 ≤ (pairS s p q).b z at h
   show ∃ q' ∈ kids b k, (pairS s p q).b z = (q' : Int) ∧ _
   rw [hbe] at h ⊢
   by_cases e : z = p
   ·rw [if_pos e]; subst e; exact ⟨q, q1, rfl, q2⟩
   ·rw [if_neg e] at h ⊢; exact i5 z hz h
def Why (a b : List NodeT) (p q : Nat) : Prop := nm b q = nm a p ∨ (shp b q = shp a p ∧ shp a p ≠ [])
theorem ph_loc (hA : Tr a) (hB : Tr b) (h0 : Mut a.length b.length s0) (hf : (∀ p ∈ kids a i, s0.b p < 0) ∧ (∀ q ∈ kids b k, s0.a q < 0)) {s1 : Al} (hs1 : s1 = ph2 a b (kids b k) (kids a i) (ph1 a b (kids b k) (kids a i) s0)) :
  Mut a.length b.length s1 ∧ Fr a.length b.length (kids a i) (kids b k) s0 s1 ∧
   (∀ p ∈ kids a i, ∀ q ∈ kids b k, nm b q = nm a p → s1.b p = q) ∧ (∀ p ∈ kids a i, 0 ≤ s1.b p → ∃ q ∈ kids b k, s1.b p = (q : Int) ∧ Why a b p q) := by
 obtain ⟨j1, j2, _, j4, j5⟩ := ph1_loc (i := i) (k := k) hA hB h0 hf
 generalize ph1 a b (kids b k) (kids a i) s0 = t0 at *
 have hx := fun p (hp : p ∈ kids a i) => kids_lt hp
 have hy := fun q (hq : q ∈ kids b k) => kids_lt hq
 have key := foldl_inv0 (fun s p => opS s p (c2 a b (kids b k) s p)) (kids a i) (fun d s => Mut a.length b.length s ∧ Fr a.length b.length (kids a i) (kids b k) s0 s ∧
   (∀ p ∈ kids a i, 0 ≤ t0.b p → s.b p = t0.b p) ∧ (∀ p ∈ kids a i, 0 ≤ s.b p → ∃ q ∈ kids b k, s.b p = (q : Int) ∧ Why a b p q)) (fun d p r s e ⟨i1, i2, i3, i4⟩ => by
  have hpx : p ∈ kids a i := by rw [e]; simp
  show Mut a.length b.length (opS s p (c2 a b (kids b k) s p)) ∧ _
  cases hc : c2 a b (kids b k) s p with
  | none => exact ⟨i1, i2, i3, i4⟩
  | some q =>
   obtain ⟨q1, q2, q3, q4, q5⟩ := c2_mem hc
   have hpl := hx p hpx
   have hbe := fun z => pair_b (s := s) (p := p) (q := q) (i := z) (by rw [i1.eb]; exact hpl)
   refine ⟨i1.pair hpl (hy q q1) q2 q3, ?_, ?_, ?_⟩
   ·exact i2.op (o := some q) hpx (by rw [h0.eb]; exact hpl) fun q' hq' => by cases hq'; exact ⟨q1, by rw [h0.ea]; exact hy q q1⟩
   ·intro z hz h
    show (pairS s p q).b z = _
    rw [hbe]
    have := i3 z hz h
    by_cases e : z = p
    ·subst e; omega
    ·rw [if_neg e]; exact this
   ·intro z hz h
    change 0 ≤ (pairS s p q).b z at h
    show ∃ q' ∈ kids b k, (pairS s p q).b z = (q' : Int) ∧ _
    rw [hbe] at h ⊢
    by_cases e : z = p
    ·rw [if_pos e]; subst e; exact ⟨q, q1, rfl, .inr ⟨q4, q5⟩⟩
    ·rw [if_neg e] at h ⊢; exact i4 z hz h) t0 ⟨j1, j2, fun _ _ _ => rfl, fun p hp h => by obtain ⟨q, g1, g2, g3⟩ := j5 p hp h; exact ⟨q, g1, g2, .inl g3⟩⟩
 have es : s1 = (kids a i).foldl (fun s p => opS s p (c2 a b (kids b k) s p)) t0 := hs1
 rw [← es] at key
 obtain ⟨k1, k2, k3, k4⟩ := key
 refine ⟨k1, k2, fun p hp q hq hn => ?_, k4⟩
 have := j4 p hp q hq hn
 rw [k3 p hp (by omega)]; exact this
end
def iniS (la lb : Nat) : Al := ⟨List.replicate la (-1), List.replicate lb (-1)⟩
theorem ini_b (la lb p : Nat) : (iniS la lb).b p = -1 := by
 simp only [iniS, Al.b, List.getD_eq_getElem?_getD, List.getElem?_replicate]; split <;> rfl
theorem ini_a (la lb p : Nat) : (iniS la lb).a p = -1 := by
 simp only [iniS, Al.a, List.getD_eq_getElem?_getD, List.getElem?_replicate]; split <;> rfl
theorem ini_mut (la lb : Nat) : Mut la lb (iniS la lb) := by
 refine ⟨by simp [iniS], by simp [iniS], fun p => ?_, fun p => ?_, fun p q hp hq => ?_⟩
 ·rw [ini_b]; omega
 ·rw [ini_a]; omega
 ·rw [ini_b, ini_a]; omega
def locM (a b : List NodeT) (i k : Int) (p : Nat) : Int := (ph2 a b (kids b k) (kids a i) (ph1 a b (kids b k) (kids a i) (iniS a.length b.length))).b p
theorem locM_eq {a b : List NodeT} {i k : Int} {s0 : Al} (h0 : Mut a.length b.length s0) (hf : (∀ p ∈ kids a i, s0.b p < 0) ∧ (∀ q ∈ kids b k, s0.a q < 0)) {p : Nat} (hp : p ∈ kids a i) :
  (ph2 a b (kids b k) (kids a i) (ph1 a b (kids b k) (kids a i) s0)).b p = locM a b i k p := by
 have hx := fun p (hp : p ∈ kids a i) => kids_lt hp
 have hy := fun q (hq : q ∈ kids b k) => kids_lt hq
 have hI := ini_mut a.length b.length
 have hag : Agr (kids a i) (kids b k) s0 (iniS a.length b.length) := ⟨fun p hp => by rw [ini_b]; have := hf.1 p hp; have := (h0.rb p).1; omega, fun q hq => by rw [ini_a]; have := hf.2 q hq; have := (h0.ra q).1; omega⟩
 have h1 := ph1_agr (a := a) (b := b) hx hy (kids a i) (fun _ h => h) _ _ ⟨h0.eb, h0.ea⟩ ⟨hI.eb, hI.ea⟩ hag
 have f1 := ph1_fr (a := a) (b := b) hx hy ⟨h0.eb, h0.ea⟩ (kids a i) (fun _ h => h) s0 (Fr.refl _ _ _ _ _)
 have f2 := ph1_fr (a := a) (b := b) hx hy ⟨hI.eb, hI.ea⟩ (kids a i) (fun _ h => h) _ (Fr.refl _ _ _ _ _)
 exact (ph2_agr hx hy (kids a i) (fun _ h => h) _ _ ⟨f1.eb.trans h0.eb, f1.ea.trans h0.ea⟩ ⟨f2.eb.trans hI.eb, f2.ea.trans hI.ea⟩ h1).1 p hp
theorem locM_spec {a b : List NodeT} (hA : Tr a) (hB : Tr b) (i k : Int) :
  (∀ p ∈ kids a i, ∀ q ∈ kids b k, nm b q = nm a p → locM a b i k p = q) ∧ (∀ p ∈ kids a i, 0 ≤ locM a b i k p → ∃ q ∈ kids b k, locM a b i k p = (q : Int) ∧ Why a b p q) ∧
  (∀ p ∈ kids a i, -1 ≤ locM a b i k p) ∧ (∀ p ∈ kids a i, ∀ p' ∈ kids a i, 0 ≤ locM a b i k p → locM a b i k p = locM a b i k p' → p = p') := by
 obtain ⟨h1, h2, h3, h4⟩ := ph_loc (i := i) (k := k) hA hB (ini_mut a.length b.length) ⟨fun p _ => by rw [ini_b]; omega, fun p _ => by rw [ini_a]; omega⟩ rfl
 refine ⟨h3, h4, fun p _ => (h1.rb p).1, fun p hp p' hp' h e => ?_⟩
 obtain ⟨q, q1, q2, _⟩ := h4 p hp h
 have e1 := (h1.iff p q (kids_lt hp) (kids_lt q1)).1 q2
 have e2 := (h1.iff p' q (kids_lt hp') (kids_lt q1)).1 (e.symm.trans q2)
 omega
def cpt (a b : List NodeT) (p : Nat) : Int :=
 if h : 0 ≤ par a p ∧ par a p < p then (if cpt a b (par a p).toNat < 0 then -1 else locM a b (par a p) (cpt a b (par a p).toNat) p) else if par a p = -1 then locM a b (-1) (-1) p else -1
termination_by p
decreasing_by all_goals omega
theorem cpt_root {a b : List NodeT} {p : Nat} (h : par a p = -1) : cpt a b p = locM a b (-1) (-1) p := by
 rw [cpt, dif_neg (by omega), if_pos h]
theorem cpt_kid {a b : List NodeT} (hA : Tr a) {p i : Nat} (hp : p < a.length) (h : par a p = i) : cpt a b p = if cpt a b i < 0 then -1 else locM a b i (cpt a b i) p := by
 have := tree_par hA.up hp
 rw [cpt, dif_pos (by omega), h]; rfl
def Corr (a b : List NodeT) (p q : Nat) : Prop := (par a p = -1 ∧ par b q = -1) ∨ ∃ i k : Nat, par a p = i ∧ par b q = k ∧ cpt a b i = k ∧ i < p
theorem cpt_val {a b : List NodeT} (hA : Tr a) (hB : Tr b) {p : Nat} (hp : p < a.length) : -1 ≤ cpt a b p ∧ (0 ≤ cpt a b p → ∃ q, q < b.length ∧ cpt a b p = (q : Int) ∧ Corr a b p q ∧ Why a b p q) := by
 obtain ⟨t1, t2⟩ := tree_par hA.up hp
 by_cases h : par a p = -1
 ·rw [cpt_root h]
  obtain ⟨_, m2, m3, _⟩ := locM_spec hA hB (-1) (-1)
  have hm : p ∈ kids a (-1) := mem_kids.2 ⟨hp, h⟩
  refine ⟨m3 p hm, fun h0 => ?_⟩
  obtain ⟨q, q1, q2, q3⟩ := m2 p hm h0
  exact ⟨q, kids_lt q1, q2, .inl ⟨h, (mem_kids.1 q1).2⟩, q3⟩
 ·obtain ⟨i, hi⟩ : ∃ i : Nat, par a p = i := ⟨(par a p).toNat, by omega⟩
  rw [cpt_kid hA hp hi]
  split
  ·exact ⟨by omega, fun h0 => by omega⟩
  ·rename_i hk
   obtain ⟨_, m2, m3, _⟩ := locM_spec hA hB i (cpt a b i)
   have hm : p ∈ kids a i := mem_kids.2 ⟨hp, hi⟩
   refine ⟨m3 p hm, fun h0 => ?_⟩
   obtain ⟨q, q1, q2, q3⟩ := m2 p hm h0
   exact ⟨q, kids_lt q1, q2, .inr ⟨i, (cpt a b i).toNat, hi, by rw [(mem_kids.1 q1).2]; omega, by omega, by omega⟩, q3⟩
theorem cpt_name {a b : List NodeT} (hA : Tr a) (hB : Tr b) {p q : Nat} (hp : p < a.length) (hq : q < b.length) (hc : Corr a b p q) (hn : nm b q = nm a p) : cpt a b p = q := by
 rcases hc with ⟨h1, h2⟩ | ⟨i, k, h1, h2, h3, h4⟩
 ·rw [cpt_root h1]
  exact (locM_spec hA hB (-1) (-1)).1 p (mem_kids.2 ⟨hp, h1⟩) q (mem_kids.2 ⟨hq, h2⟩) hn
 ·rw [cpt_kid hA hp h1, if_neg (by omega), h3]
  exact (locM_spec hA hB i k).1 p (mem_kids.2 ⟨hp, h1⟩) q (mem_kids.2 ⟨hq, h2⟩) hn
theorem cpt_inj {a b : List NodeT} (hA : Tr a) (hB : Tr b) : ∀ {p p' : Nat}, p < a.length → p' < a.length → 0 ≤ cpt a b p → cpt a b p = cpt a b p' → p = p' := by
 intro p
 induction p using Nat.strongRecOn with
 | _ p ih =>
  intro p' hp hp' h e
  obtain ⟨q, q1, q2, q3, _⟩ := (cpt_val hA hB hp).2 h
  obtain ⟨q', r1, r2, r3, _⟩ := (cpt_val hA hB hp').2 (by omega)
  have : q = q' := by omega
  subst this
  rcases q3 with ⟨h1, h2⟩ | ⟨i, k, h1, h2, h3, h4⟩
  ·rcases r3 with ⟨g1, g2⟩ | ⟨i', k', g1, g2, g3, g4⟩
   ·rw [cpt_root h1] at h e
    rw [cpt_root g1] at e
    exact (locM_spec hA hB (-1) (-1)).2.2.2 p (mem_kids.2 ⟨hp, h1⟩) p' (mem_kids.2 ⟨hp', g1⟩) h e
   ·omega
  ·rcases r3 with ⟨g1, g2⟩ | ⟨i', k', g1, g2, g3, g4⟩
   ·omega
   ·have hii : i = i' := ih i h4 (by omega) (by omega) (by omega) (by omega)
    subst hii
    rw [cpt_kid hA hp h1, if_neg (by omega), h3] at h e
    rw [cpt_kid hA hp' g1, if_neg (by omega), h3] at e
    exact (locM_spec hA hB i k).2.2.2 p (mem_kids.2 ⟨hp, h1⟩) p' (mem_kids.2 ⟨hp', g1⟩) h e
def Bel (l : List NodeT) (i : Int) (p : Nat) : Prop := i = -1 ∨ (upW l i p = true ∧ (p : Int) ≠ i)
theorem bel_kid {l : List NodeT} (h : TreeUp l l.length) {i : Int} {p : Nat} (hp : p ∈ kids l i) (hi : -1 ≤ i) : Bel l i p := by
 by_cases e : i = -1
 ·exact .inl e
 ·obtain ⟨h1, h2⟩ := mem_kids.1 hp
  obtain ⟨t1, t2⟩ := tree_par h h1
  obtain ⟨i, rfl⟩ : ∃ j : Nat, i = j := ⟨i.toNat, by omega⟩
  exact .inr ⟨by rw [upW_step h h1 (by omega), h2]; exact upW_self, by omega⟩
theorem bel_step {l : List NodeT} (h : TreeUp l l.length) {r p : Nat} (hp : p < l.length) (hb : Bel l r p) : ∃ i : Nat, par l p = i ∧ i < p ∧ (i = r ∨ Bel l r i) := by
 rcases hb with e | ⟨h1, h2⟩
 ·omega
 ·rw [upW_step h hp h2] at h1
  obtain ⟨t1, t2⟩ := tree_par h hp
  have := upW_ge h1
  obtain ⟨i, hi⟩ : ∃ i : Nat, par l p = i := ⟨(par l p).toNat, by omega⟩
  rw [hi] at h1
  refine ⟨i, hi, by omega, ?_⟩
  by_cases e : i = r
  ·exact .inl e
  ·exact .inr (.inr ⟨h1, by omega⟩)
theorem bel_trans {l : List NodeT} (h : TreeUp l l.length) {i : Int} {r p : Nat} (hr : Bel l i r) (hp : p < l.length) (hb : Bel l r p) : Bel l i p := by
 rcases hr with e | ⟨h1, h2⟩
 ·exact .inl e
 ·rcases hb with e | ⟨h3, h4⟩
  ·omega
  ·have g1 := upW_ge h1
   have g2 := upW_ge h3
   have g0 := upW_nn _ (Nat.le_refl _) h1
   obtain ⟨i, rfl⟩ : ∃ j : Nat, i = j := ⟨i.toNat, by omega⟩
   exact .inr ⟨up_trans h h1 p p (Nat.le_refl _) hp h3, by omega⟩
theorem bel_find {l : List NodeT} (h : TreeUp l l.length) {i : Int} (hi : -1 ≤ i) : ∀ {p : Nat}, p < l.length → Bel l i p → p ∈ kids l i ∨ ∃ r ∈ kids l i, Bel l r p := by
 intro p
 induction p using Nat.strongRecOn with
 | _ p ih =>
  intro hp hb
  obtain ⟨t1, t2⟩ := tree_par h hp
  by_cases e : par l p = i
  ·exact .inl (mem_kids.2 ⟨hp, e⟩)
  ·right
   have hb2 : ∃ j : Nat, par l p = j ∧ Bel l i j := by
    rcases hb with e1 | ⟨h1, h2⟩
    ·exact ⟨(par l p).toNat, by omega, .inl e1⟩
    ·have g0 := upW_nn _ (Nat.le_refl _) h1
     rw [upW_step h hp h2] at h1
     have := upW_ge h1
     exact ⟨(par l p).toNat, by omega, .inr ⟨by rw [show (((par l p).toNat : Nat) : Int) = par l p by omega]; exact h1, by omega⟩⟩
   obtain ⟨j, hj, hb2⟩ := hb2
   have hjr : ∀ r : Nat, j = r ∨ Bel l r j → Bel l r p := fun r hr => by
    rcases hr with rfl | hr
    ·exact .inr ⟨by rw [upW_step h hp (by omega), hj]; exact upW_self, by omega⟩
    ·rcases hr with e | ⟨g1, g2⟩
     ·omega
     ·have := upW_ge g1
      exact .inr ⟨by rw [upW_step h hp (by omega), hj]; exact g1, by omega⟩
   rcases ih j (by omega) (by omega) hb2 with h1 | ⟨r, h1, h2⟩
   ·exact ⟨j, h1, hjr j (.inl rfl)⟩
   ·exact ⟨r, h1, hjr r (.inr h2)⟩
theorem bel_apart {l : List NodeT} (h : TreeUp l l.length) {i : Int} {r r' : Nat} (hr : r ∈ kids l i) (hr' : r' ∈ kids l i) (hi : -1 ≤ i) : ∀ {p : Nat}, p < l.length → Bel l r p → (p = r' ∨ Bel l r' p) → r = r' := by
 intro p
 induction p using Nat.strongRecOn with
 | _ p ih =>
  intro hp h1 h2
  obtain ⟨j, j1, j2, j3⟩ := bel_step h hp h1
  obtain ⟨k1, k2⟩ := mem_kids.1 hr
  obtain ⟨k3, k4⟩ := mem_kids.1 hr'
  have t1 := tree_par h k1
  rcases h2 with rfl | h2
  ·exfalso
   rw [k4] at j1
   rcases j3 with rfl | j3
   ·omega
   ·rcases j3 with e | ⟨g1, g2⟩
    ·omega
    ·have := upW_ge g1; omega
  ·obtain ⟨j', q1, q2, q3⟩ := bel_step h hp h2
   have : j = j' := by omega
   subst this
   rcases j3 with rfl | j3
   ·rcases q3 with rfl | q3
    ·rfl
    ·rcases q3 with e | ⟨g1, g2⟩
     ·omega
     ·exfalso
      rw [upW_step h k1 g2, k2] at g1
      have := upW_ge g1
      have := tree_par h k3
      omega
   ·exact ih j (by omega) (by omega) j3 q3
theorem cpt_neg {a b : List NodeT} (hA : Tr a) {r : Nat} (hr : cpt a b r < 0) : ∀ {p : Nat}, p < a.length → Bel a r p → cpt a b p = -1 := by
 intro p
 induction p using Nat.strongRecOn with
 | _ p ih =>
  intro hp hb
  obtain ⟨j, j1, j2, j3⟩ := bel_step hA.up hp hb
  rw [cpt_kid hA hp j1]
  rcases j3 with rfl | j3
  ·rw [if_pos hr]
  ·rw [ih j j2 (by omega) j3, if_pos (by omega)]
open Classical in
theorem align_cpt {a b : List NodeT} (hA : Tr a) (hB : Tr b) : ∀ (f : Nat) (i k : Int) (s : Al), (a.length : Int) ≤ f + i → ((i = -1 ∧ k = -1) ∨ ∃ i' k' : Nat, i = i' ∧ k = k' ∧ i' < a.length ∧ cpt a b i' = k') →
  Mut a.length b.length s → (∀ p, p < a.length → s.b p = -1 ∨ s.b p = cpt a b p) → (∀ p, p < a.length → Bel a i p → s.b p = -1) →
  Mut a.length b.length (alignF a b f i k s) ∧ ∀ p, p < a.length → (alignF a b f i k s).b p = if Bel a i p then cpt a b p else s.b p := by
 intro f
 induction f with
 | zero =>
  intro i k s hf hik
  rcases hik with ⟨h1, h2⟩ | ⟨i', k', h1, h2, h3, h4⟩ <;> omega
 | succ f ih =>
  intro i k s hf hik hM hG hF
  have hi1 : -1 ≤ i := by rcases hik with ⟨h1, h2⟩ | ⟨i', k', h1, h2, h3, h4⟩ <;> omega
  have fr1 : ∀ p ∈ kids a i, s.b p < 0 := fun p hp => by rw [hF p (kids_lt hp) (bel_kid hA.up hp hi1)]; omega
  have fr2 : ∀ q ∈ kids b k, s.a q < 0 := fun q hq => by
   rcases Int.lt_or_le (s.a q) 0 with h | h
   ·exact h
   exfalso
   obtain ⟨p, hp⟩ : ∃ p : Nat, s.a q = p := ⟨(s.a q).toNat, by omega⟩
   have hpl : p < a.length := by have := (hM.ra q).2; omega
   have h1 := (hM.iff p q hpl (kids_lt hq)).2 hp
   have h2 : cpt a b p = q := by rcases hG p hpl with e | e <;> omega
   obtain ⟨q', g1, g2, g3, _⟩ := (cpt_val hA hB hpl).2 (by omega)
   have : q' = q := by omega
   subst this
   have hqk := (mem_kids.1 hq).2
   have hpm : p ∈ kids a i := by
    refine mem_kids.2 ⟨hpl, ?_⟩
    rcases hik with ⟨e1, e2⟩ | ⟨i', k', e1, e2, e3, e4⟩ <;> rcases g3 with ⟨h3, h4⟩ | ⟨i2, k2, h3, h4, h5, h6⟩
    ·omega
    ·omega
    ·omega
    ·have : i2 = i' := cpt_inj hA hB (by omega) e3 (by omega) (by omega)
     omega
   have := fr1 p hpm
   omega
  obtain ⟨s1, hs1⟩ : ∃ s1, s1 = ph2 a b (kids b k) (kids a i) (ph1 a b (kids b k) (kids a i) s) := ⟨_, rfl⟩
  obtain ⟨l1, l2, _, _⟩ := ph_loc (i := i) (k := k) hA hB hM ⟨fr1, fr2⟩ hs1
  have lx : ∀ p ∈ kids a i, s1.b p = cpt a b p := fun p hp => by
   rw [hs1, locM_eq hM ⟨fr1, fr2⟩ hp]
   rcases hik with ⟨e1, e2⟩ | ⟨i', k', e1, e2, e3, e4⟩
   ·subst e1; subst e2; exact (cpt_root (mem_kids.1 hp).2).symm
   ·subst e1; subst e2
    rw [cpt_kid hA (kids_lt hp) (mem_kids.1 hp).2, e4, if_neg (by omega)]
  have hkk : ∀ r ∈ kids a i, ∀ p ∈ kids a i, ¬ Bel a r p := fun r hr p hp hb => by
   have := bel_apart hA.up hr hp hi1 (kids_lt hp) hb (.inl rfl)
   subst this
   rcases hb with e | ⟨_, e⟩ <;> omega
  have hub : ∀ r ∈ kids a i, ∀ p, p < a.length → Bel a r p → Bel a i p := fun r hr p hp hb => bel_trans hA.up (bel_kid hA.up hr hi1) hp hb
  have key := foldl_inv0 (fun (s : Al) (p : Nat) => if 0 ≤ s.b p then alignF a b f p (s.b p) s else s) (kids a i) (fun d t => Mut a.length b.length t ∧ ∀ p, p < a.length → t.b p = if p ∈ kids a i ∨ ∃ r ∈ d, Bel a r p then cpt a b p else s.b p) (fun d r rest t e ⟨i1, i2⟩ => by
   have hrx : r ∈ kids a i := by rw [e]; simp
   have hdx : ∀ z ∈ d, z ∈ kids a i := fun z hz => by rw [e]; simp [hz]
   have hrd := nodup_mid (kids_sorted a i) e
   have hrl := kids_lt hrx
   have tr : t.b r = cpt a b r := by rw [i2 r hrl, if_pos (.inl hrx)]
   have t3 := tree_par hA.up hrl
   rw [(mem_kids.1 hrx).2] at t3
   by_cases h0 : 0 ≤ t.b r
   ·simp only [if_pos h0]
    have fresh : ∀ p, p < a.length → Bel a r p → t.b p = -1 := fun p hp hb => by
     rw [i2 p hp, if_neg]
     ·exact hF p hp (hub r hrx p hp hb)
     ·rintro (hm | ⟨r', hr', hb'⟩)
      ·exact hkk r hrx p hm hb
      ·have := bel_apart hA.up hrx (hdx r' hr') hi1 hp hb (.inr hb')
       exact hrd (this ▸ hr')
    obtain ⟨q, q1, q2, _⟩ := (cpt_val hA hB hrl).2 (by omega)
    obtain ⟨j1, j2⟩ := ih r (t.b r) t (by omega) (.inr ⟨r, q, rfl, by omega, hrl, q2⟩) i1 (fun p hp => by
     rw [i2 p hp]
     split
     ·exact .inr rfl
     ·exact hG p hp) fresh
    refine ⟨j1, fun p hp => ?_⟩
    rw [j2 p hp, i2 p hp]
    by_cases hb : Bel a r p
    ·rw [if_pos hb, if_pos (.inr ⟨r, by simp, hb⟩)]
    ·rw [if_neg hb]
     by_cases hm : p ∈ kids a i ∨ ∃ r ∈ d, Bel a r p
     ·rw [if_pos hm, if_pos (hm.imp id fun ⟨r', h1, h2⟩ => ⟨r', by simp [h1], h2⟩)]
     ·rw [if_neg hm, if_neg]
      rintro (h1 | ⟨r', h1, h2⟩)
      ·exact hm (.inl h1)
      ·rcases List.mem_append.1 h1 with h1 | h1
       ·exact hm (.inr ⟨r', h1, h2⟩)
       ·have : r' = r := by simpa using h1
        subst this; exact hb h2
   ·simp only [if_neg h0]
    refine ⟨i1, fun p hp => ?_⟩
    rw [i2 p hp]
    by_cases hm : p ∈ kids a i ∨ ∃ r ∈ d, Bel a r p
    ·rw [if_pos hm, if_pos (hm.imp id fun ⟨r', h1, h2⟩ => ⟨r', by simp [h1], h2⟩)]
    ·rw [if_neg hm]
     by_cases hb : Bel a r p
     ·rw [if_pos (.inr ⟨r, by simp, hb⟩), cpt_neg hA (by omega) hp hb]
      exact hF p hp (hub r hrx p hp hb)
     ·rw [if_neg]
      rintro (h1 | ⟨r', h1, h2⟩)
      ·exact hm (.inl h1)
      ·rcases List.mem_append.1 h1 with h1 | h1
       ·exact hm (.inr ⟨r', h1, h2⟩)
       ·have : r' = r := by simpa using h1
        subst this; exact hb h2) s1 ⟨l1, fun p hp => by
    by_cases hm : p ∈ kids a i
    ·rw [if_pos (.inl hm), lx p hm]
    ·rw [if_neg (by rintro (h | ⟨r, hr, _⟩); exact hm h; simp at hr)]; exact l2.b p hm⟩
  have es : alignF a b (f + 1) i k s = (kids a i).foldl (fun (s : Al) (p : Nat) => if 0 ≤ s.b p then alignF a b f p (s.b p) s else s) s1 := by rw [hs1]; rfl
  rw [es]
  refine ⟨key.1, fun p hp => ?_⟩
  rw [key.2 p hp]
  by_cases hb : Bel a i p
  ·rw [if_pos hb, if_pos (bel_find hA.up hi1 hp hb)]
  ·rw [if_neg hb, if_neg]
   rintro (h | ⟨r, hr, h2⟩)
   ·exact hb (bel_kid hA.up h hi1)
   ·exact hb (hub r hr p hp h2)
def finS (a b : List NodeT) : Al := alignF a b (a.length + 1) (-1) (-1) (iniS a.length b.length)
theorem fin_spec {a b : List NodeT} (hA : Tr a) (hB : Tr b) : Mut a.length b.length (finS a b) ∧ ∀ p, p < a.length → (finS a b).b p = cpt a b p := by
 obtain ⟨h1, h2⟩ := align_cpt hA hB (a.length + 1) (-1) (-1) (iniS a.length b.length) (by omega) (.inl ⟨rfl, rfl⟩) (ini_mut _ _) (fun p _ => .inl (ini_b _ _ _)) (fun p _ _ => ini_b _ _ _)
 exact ⟨h1, fun p hp => by show (alignF a b (a.length + 1) (-1) (-1) (iniS a.length b.length)).b p = _; rw [h2 p hp, if_pos (.inl rfl)]⟩
end YtfmbadfdbjhekaaDoor
end Go.Proofs
