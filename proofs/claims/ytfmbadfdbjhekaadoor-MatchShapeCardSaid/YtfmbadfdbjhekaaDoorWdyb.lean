/- A part of the proof: contracts of functions of this seat, and lemmas. No condition beyond those stated. -/
import Derived.Test.YtfmbadfdbjhekaaDoorWdya
set_option linter.unusedVariables false
set_option linter.unusedSimpArgs false
set_option linter.unusedSectionVars false
set_option linter.unnecessarySimpa false
namespace Go.Proofs
open Go.AM
namespace YtfmbadfdbjhekaaDoor
def txtN (d : Nat) : List UInt8 := if d < 10 then [UInt8.ofNat (48 + d)] else [UInt8.ofNat (48 + d / 10), UInt8.ofNat (48 + d % 10)]
def shp (l : List NodeT) (i : Nat) : List (List UInt8) := (belowL l i).map fun k => txtN (depW l i l.length k) ++ 32 :: nm l k
structure Al where
 toB : List Int
 toA : List Int
def Al.b (s : Al) (p : Nat) : Int := s.toB.getD p (-1)
def Al.a (s : Al) (q : Nat) : Int := s.toA.getD q (-1)
def pairS (s : Al) (p q : Nat) : Al := ⟨s.toB.set p q, s.toA.set q p⟩
theorem pair_b {s : Al} {p q i : Nat} (h : p < s.toB.length) : (pairS s p q).b i = if i = p then (q : Int) else s.b i := by
 simp only [pairS, Al.b, List.getD_eq_getElem?_getD, List.getElem?_set]
 by_cases e : p = i
 ·subst e; simp [h]
 ·rw [if_neg e, if_neg (by omega)]
theorem pair_a {s : Al} {p q i : Nat} (h : q < s.toA.length) : (pairS s p q).a i = if i = q then (p : Int) else s.a i := by
 simp only [pairS, Al.a, List.getD_eq_getElem?_getD, List.getElem?_set]
 by_cases e : q = i
 ·subst e; simp [h]
 ·rw [if_neg e, if_neg (by omega)]
theorem pair_len {s : Al} {p q : Nat} : (pairS s p q).toB.length = s.toB.length ∧ (pairS s p q).toA.length = s.toA.length := by simp [pairS]
def c1 (a b : List NodeT) (y : List Nat) (p : Nat) : Option Nat := y.find? fun q => nm b q == nm a p
def c2 (a b : List NodeT) (y : List Nat) (s : Al) (p : Nat) : Option Nat := if s.b p < 0 ∧ shp a p ≠ [] then y.find? fun q => decide (s.a q < 0) && (shp b q == shp a p) else none
def opS (s : Al) (p : Nat) : Option Nat → Al
 | some q => pairS s p q
 | none => s
def ph1 (a b : List NodeT) (y x : List Nat) (s : Al) : Al := x.foldl (fun s p => opS s p (c1 a b y p)) s
def ph2 (a b : List NodeT) (y x : List Nat) (s : Al) : Al := x.foldl (fun s p => opS s p (c2 a b y s p)) s
def alignF (a b : List NodeT) : Nat → Int → Int → Al → Al
 | 0, _, _, s => s
 | f + 1, i, k, s => (kids a i).foldl (fun (s : Al) (p : Nat) => if 0 ≤ s.b p then alignF a b f p (s.b p) s else s) (ph2 a b (kids b k) (kids a i) (ph1 a b (kids b k) (kids a i) s))
structure Tr (l : List NodeT) : Prop where
 up : TreeUp l l.length
 sib : ∀ {j i : Nat}, i < l.length → j < i → par l j = par l i → Op.bytesLess (nm l j) (nm l i) = true
theorem Tr.of {l : List NodeT} (h : checkF l = 0) : Tr l := by
 obtain ⟨_, _, h3, h4, _⟩ := checkF_ok h
 exact ⟨h4, fun hi hj hp => sib_lt h3 hi hj hp⟩
theorem Tr.name {l : List NodeT} (h : Tr l) {i j : Nat} (hi : i < l.length) (hj : j < l.length) (hp : par l i = par l j) (hn : nm l i = nm l j) : i = j := by
 rcases Nat.lt_trichotomy i j with g | g | g
 ·have := h.sib hj g hp; rw [hn, bl_irr] at this; cases this
 ·exact g
 ·have := h.sib hi g hp.symm; rw [hn, bl_irr] at this; cases this
theorem kids_name {l : List NodeT} (h : Tr l) {k : Int} {i j : Nat} (hi : i ∈ kids l k) (hj : j ∈ kids l k) (hn : nm l i = nm l j) : i = j := by
 obtain ⟨h1, h2⟩ := mem_kids.1 hi
 obtain ⟨h3, h4⟩ := mem_kids.1 hj
 exact h.name h1 h3 (h2.trans h4.symm) hn
structure Mut (la lb : Nat) (s : Al) : Prop where
 eb : s.toB.length = la
 ea : s.toA.length = lb
 rb : ∀ p, -1 ≤ s.b p ∧ s.b p < lb
 ra : ∀ q, -1 ≤ s.a q ∧ s.a q < la
 iff : ∀ p q : Nat, p < la → q < lb → (s.b p = q ↔ s.a q = p)
theorem Mut.pair {la lb : Nat} {s : Al} (h : Mut la lb s) {p q : Nat} (hp : p < la) (hq : q < lb) (h1 : s.b p < 0) (h2 : s.a q < 0) : Mut la lb (pairS s p q) := by
 obtain ⟨l1, l2⟩ := pair_len (s := s) (p := p) (q := q)
 have hb := fun i => pair_b (s := s) (p := p) (q := q) (i := i) (by rw [h.eb]; exact hp)
 have ha := fun i => pair_a (s := s) (p := p) (q := q) (i := i) (by rw [h.ea]; exact hq)
 refine ⟨l1.trans h.eb, l2.trans h.ea, fun i => ?_, fun i => ?_, fun i j hi hj => ?_⟩
 ·rw [hb]; have := h.rb i; split <;> omega
 ·rw [ha]; have := h.ra i; split <;> omega
 ·rw [hb, ha]
  have := h.iff i j hi hj
  have hpq := h.iff p j hp hj
  have hqp := h.iff i q hi hq
  by_cases e1 : i = p
  ·rw [if_pos e1]
   by_cases e2 : j = q
   ·rw [if_pos e2]; constructor <;> intro _ <;> omega
   ·rw [if_neg e2]
    constructor
    ·intro hh; omega
    ·intro hh; subst e1; have := hpq.2 hh; omega
  ·rw [if_neg e1]
   by_cases e2 : j = q
   ·rw [if_pos e2]
    constructor
    ·intro hh; subst e2; have := hqp.1 hh; omega
    ·intro hh; omega
   ·rw [if_neg e2]; exact this
def Agr (x y : List Nat) (s t : Al) : Prop := (∀ p ∈ x, s.b p = t.b p) ∧ (∀ q ∈ y, s.a q = t.a q)
theorem c1_mem {a b : List NodeT} {y : List Nat} {p q : Nat} (h : c1 a b y p = some q) : q ∈ y ∧ nm b q = nm a p := by
 have h1 := List.mem_of_find?_eq_some h
 have h2 := List.find?_some h
 exact ⟨h1, by simpa using h2⟩
theorem c2_mem {a b : List NodeT} {y : List Nat} {s : Al} {p q : Nat} (h : c2 a b y s p = some q) : q ∈ y ∧ s.b p < 0 ∧ s.a q < 0 ∧ shp b q = shp a p ∧ shp a p ≠ [] := by
 unfold c2 at h
 split at h
 ·rename_i h0
  have h1 := List.mem_of_find?_eq_some h
  have h2 := List.find?_some h
  simp only [Bool.and_eq_true, decide_eq_true_eq, beq_iff_eq] at h2
  exact ⟨h1, h0.1, h2.1, h2.2, h0.2⟩
 ·cases h
structure Fr (la lb : Nat) (x y : List Nat) (s t : Al) : Prop where
 eb : t.toB.length = s.toB.length
 ea : t.toA.length = s.toA.length
 b : ∀ p, p ∉ x → t.b p = s.b p
 a : ∀ q, q ∉ y → t.a q = s.a q
theorem Fr.refl (la lb : Nat) (x y : List Nat) (s : Al) : Fr la lb x y s s := ⟨rfl, rfl, fun _ _ => rfl, fun _ _ => rfl⟩
theorem Fr.op {la lb : Nat} {x y : List Nat} {s t : Al} (h : Fr la lb x y s t) {p : Nat} (hp : p ∈ x) (hpl : p < s.toB.length) {o : Option Nat} (ho : ∀ q, o = some q → q ∈ y ∧ q < s.toA.length) : Fr la lb x y s (opS t p o) := by
 cases o with
 | none => exact h
 | some q =>
  obtain ⟨h1, h2⟩ := ho q rfl
  obtain ⟨l1, l2⟩ := pair_len (s := t) (p := p) (q := q)
  refine ⟨l1.trans h.eb, l2.trans h.ea, fun i hi => ?_, fun i hi => ?_⟩
  ·show (pairS t p q).b i = _
   rw [pair_b (by rw [h.eb]; exact hpl), if_neg (fun e => hi (by rw [e]; exact hp))]; exact h.b i hi
  ·show (pairS t p q).a i = _
   rw [pair_a (by rw [h.ea]; exact h2), if_neg (fun e => hi (by rw [e]; exact h1))]; exact h.a i hi
theorem op_len (s : Al) (p : Nat) (o : Option Nat) : (opS s p o).toB.length = s.toB.length ∧ (opS s p o).toA.length = s.toA.length := by
 cases o with
 | none => exact ⟨rfl, rfl⟩
 | some q => exact pair_len
theorem foldl_inv {β : Type} (f : β → Nat → β) (x : List Nat) (I : List Nat → β → Prop) (hs : ∀ d p r s, x = d ++ p :: r → I d s → I (d ++ [p]) (f s p)) : ∀ (r d : List Nat) (s : β), x = d ++ r → I d s → I x (r.foldl f s) := by
 intro r
 induction r with
 | nil => intro d s e h; rw [List.append_nil] at e; rw [e]; exact h
 | cons p r ih => intro d s e h; exact ih (d ++ [p]) _ (by simp [e]) (hs d p r s e h)
theorem foldl_inv0 {β : Type} (f : β → Nat → β) (x : List Nat) (I : List Nat → β → Prop) (hs : ∀ d p r s, x = d ++ p :: r → I d s → I (d ++ [p]) (f s p)) (s : β) (h : I [] s) : I x (x.foldl f s) := foldl_inv f x I hs x [] s rfl h
theorem kids_lt {l : List NodeT} {i : Int} {k : Nat} (h : k ∈ kids l i) : k < l.length := (mem_kids.1 h).1
theorem nodup_mid {x d r : List Nat} {p : Nat} (hx : x.Pairwise (· < ·)) (e : x = d ++ p :: r) : p ∉ d := fun hm => by
 rw [e, List.pairwise_append] at hx
 have := hx.2.2 p hm p List.mem_cons_self
 omega
section
variable {a b : List NodeT} {i k : Int} {s0 : Al}
theorem ph1_loc (hA : Tr a) (hB : Tr b) (h0 : Mut a.length b.length s0) (hf : (∀ p ∈ kids a i, s0.b p < 0) ∧ (∀ q ∈ kids b k, s0.a q < 0)) :
  Mut a.length b.length (ph1 a b (kids b k) (kids a i) s0) ∧ Fr a.length b.length (kids a i) (kids b k) s0 (ph1 a b (kids b k) (kids a i) s0) ∧ (∀ p ∈ kids a i, p ∉ kids a i → (ph1 a b (kids b k) (kids a i) s0).b p < 0) ∧
   (∀ p ∈ kids a i, ∀ q ∈ kids b k, nm b q = nm a p → (ph1 a b (kids b k) (kids a i) s0).b p = q) ∧ (∀ p ∈ kids a i, 0 ≤ (ph1 a b (kids b k) (kids a i) s0).b p → ∃ q ∈ kids b k, (ph1 a b (kids b k) (kids a i) s0).b p = (q : Int) ∧ nm b q = nm a p) := by
 have hx := fun p (hp : p ∈ kids a i) => kids_lt hp
 have hy := fun q (hq : q ∈ kids b k) => kids_lt hq
 refine foldl_inv0 (fun s p => opS s p (c1 a b (kids b k) p)) (kids a i) (fun d s => Mut a.length b.length s ∧ Fr a.length b.length (kids a i) (kids b k) s0 s ∧ (∀ p ∈ kids a i, p ∉ d → s.b p < 0) ∧
   (∀ p ∈ d, ∀ q ∈ kids b k, nm b q = nm a p → s.b p = q) ∧ (∀ p ∈ kids a i, 0 ≤ s.b p → ∃ q ∈ kids b k, s.b p = (q : Int) ∧ nm b q = nm a p)) ?_ s0 ⟨h0, Fr.refl _ _ _ _ _, fun p hp _ => hf.1 p hp, fun p hp => by simp at hp, fun p hp h => by have := hf.1 p hp; omega⟩
 intro d p r s e ⟨i1, i2, i3, i4, i5⟩
 have hpd := nodup_mid (kids_sorted a i) e
 have hpx : p ∈ kids a i := by rw [e]; simp
 have hdx : ∀ z ∈ d, z ∈ kids a i := fun z hz => by rw [e]; simp [hz]
 cases hc : c1 a b (kids b k) p with
 | none =>
  refine ⟨i1, i2, fun z hz hzd => i3 z hz fun hm => hzd (by simp [hm]), fun z hz q hq hn => ?_, i5⟩
  rcases List.mem_append.1 hz with hz | hz
  ·exact i4 z hz q hq hn
  ·have : z = p := by simpa using hz
   subst this
   unfold c1 at hc
   rw [List.find?_eq_none] at hc
   exact absurd (by simpa using hn) (hc q hq)
 | some q =>
  obtain ⟨q1, q2⟩ := c1_mem hc
  have hb := i3 p hpx hpd
  have ha : s.a q < 0 := by
   rcases Int.lt_or_le (s.a q) 0 with h | h
   ·exact h
   exfalso
   obtain ⟨p', hp'⟩ : ∃ p' : Nat, s.a q = p' := ⟨(s.a q).toNat, by omega⟩
   have hp'l : p' < a.length := by have := (i1.ra q).2; omega
   have h1 := (i1.iff p' q hp'l (hy q q1)).2 hp'
   by_cases hm : p' ∈ kids a i
   ·obtain ⟨q', g1, g2, g3⟩ := i5 p' hm (by omega)
    have : q' = q := by omega
    subst this
    have := kids_name hA hm hpx (g3.symm.trans q2)
    subst this
    omega
   ·rw [i2.b p' hm] at h1
    have := (h0.iff p' q hp'l (hy q q1)).1 h1
    have := hf.2 q q1
    omega
  have hpl := hx p hpx
  have hbe := fun z => pair_b (s := s) (p := p) (q := q) (i := z) (by rw [i1.eb]; exact hpl)
  refine ⟨i1.pair hpl (hy q q1) hb ha, i2.op (o := some q) hpx (by rw [h0.eb]; exact hpl) fun q' hq' => by cases hq'; exact ⟨q1, by rw [h0.ea]; exact hy q q1⟩, fun z hz hzd => ?_, fun z hz q' hq' hn => ?_, fun z hz h => ?_⟩
  ·show (pairS s p q).b z < 0
   rw [hbe, if_neg (fun e => hzd (by simp [e]))]
   exact i3 z hz fun hm => hzd (by simp [hm])
  ·show (pairS s p q).b z = q'
   rw [hbe]
   rcases List.mem_append.1 hz with hz | hz
   ·rw [if_neg (fun e => hpd (by rw [← e]; exact hz))]; exact i4 z hz q' hq' hn
   ·have : z = p := by simpa using hz
    subst this
    rw [if_pos rfl]
    have := kids_name hB q1 hq' (q2.trans hn.symm)
    omega
  ·change 0 ≤ (pairS s p q).b z at h
   show ∃ q' ∈ kids b k, (pairS s p q).b z = (q' : Int) ∧ _
   rw [hbe] at h ⊢
   by_cases e : z = p
   ·rw [if_pos e]; subst e; exact ⟨q, q1, rfl, q2⟩
   ·rw [if_neg e] at h ⊢; exact i5 z hz h
def Why (a b : List NodeT) (p q : Nat) : Prop := nm b q = nm a p ∨ (shp b q = shp a p ∧ shp a p ≠ [])
theorem ph_loc (hA : Tr a) (hB : Tr b) (h0 : Mut a.length b.length s0) (hf : (∀ p ∈ kids a i, s0.b p < 0) ∧ (∀ q ∈ kids b k, s0.a q < 0)) {s1 : Al} (hs1 : s1 = ph2 a b (kids b k) (kids a i) (ph1 a b (kids b k) (kids a i) s0)) :
  Mut a.length b.length s1 ∧ Fr a.length b.length (kids a i) (kids b k) s0 s1 ∧
   (∀ p ∈ kids a i, ∀ q ∈ kids b k, nm b q = nm a p → s1.b p = q) ∧ (∀ p ∈ kids a i, 0 ≤ s1.b p → ∃ q ∈ kids b k, s1.b p = (q : Int) ∧ Why a b p q) := by
 obtain ⟨j1, j2, _, j4, j5⟩ := ph1_loc (i := i) (k := k) hA hB h0 hf
 generalize ph1 a b (kids b k) (kids a i) s0 = t0 at *
 have hx := fun p (hp : p ∈ kids a i) => kids_lt hp
 have hy := fun q (hq : q ∈ kids b k) => kids_lt hq
 have key := foldl_inv0 (fun s p => opS s p (c2 a b (kids b k) s p)) (kids a i) (fun d s => Mut a.length b.length s ∧ Fr a.length b.length (kids a i) (kids b k) s0 s ∧
   (∀ p ∈ kids a i, 0 ≤ t0.b p → s.b p = t0.b p) ∧ (∀ p ∈ kids a i, 0 ≤ s.b p → ∃ q ∈ kids b k, s.b p = (q : Int) ∧ Why a b p q)) (fun d p r s e ⟨i1, i2, i3, i4⟩ => by
  have hpx : p ∈ kids a i := by rw [e]; simp
  show Mut a.length b.length (opS s p (c2 a b (kids b k) s p)) ∧ _
  cases hc : c2 a b (kids b k) s p with
  | none => exact ⟨i1, i2, i3, i4⟩
  | some q =>
   obtain ⟨q1, q2, q3, q4, q5⟩ := c2_mem hc
   have hpl := hx p hpx
   have hbe := fun z => pair_b (s := s) (p := p) (q := q) (i := z) (by rw [i1.eb]; exact hpl)
   refine ⟨i1.pair hpl (hy q q1) q2 q3, ?_, ?_, ?_⟩
   ·exact i2.op (o := some q) hpx (by rw [h0.eb]; exact hpl) fun q' hq' => by cases hq'; exact ⟨q1, by rw [h0.ea]; exact hy q q1⟩
   ·intro z hz h
    show (pairS s p q).b z = _
    rw [hbe]
    have := i3 z hz h
    by_cases e : z = p
    ·subst e; omega
    ·rw [if_neg e]; exact this
   ·intro z hz h
    change 0 ≤ (pairS s p q).b z at h
    show ∃ q' ∈ kids b k, (pairS s p q).b z = (q' : Int) ∧ _
    rw [hbe] at h ⊢
    by_cases e : z = p
    ·rw [if_pos e]; subst e; exact ⟨q, q1, rfl, .inr ⟨q4, q5⟩⟩
    ·rw [if_neg e] at h ⊢; exact i4 z hz h) t0 ⟨j1, j2, fun _ _ _ => rfl, fun p hp h => by obtain ⟨q, g1, g2, g3⟩ := j5 p hp h; exact ⟨q, g1, g2, .inl g3⟩⟩
 have es : s1 = (kids a i).foldl (fun s p => opS s p (c2 a b (kids b k) s p)) t0 := hs1
 rw [← es] at key
 obtain ⟨k1, k2, k3, k4⟩ := key
 refine ⟨k1, k2, fun p hp q hq hn => ?_, k4⟩
 have := j4 p hp q hq hn
 rw [k3 p hp (by omega)]; exact this
end
def iniS (la lb : Nat) : Al := ⟨List.replicate la (-1), List.replicate lb (-1)⟩
theorem ini_b (la lb p : Nat) : (iniS la lb).b p = -1 := by
 simp only [iniS, Al.b, List.getD_eq_getElem?_getD, List.getElem?_replicate]; split <;> rfl
theorem ini_a (la lb p : Nat) : (iniS la lb).a p = -1 := by
 simp only [iniS, Al.a, List.getD_eq_getElem?_getD, List.getElem?_replicate]; split <;> rfl
theorem ini_mut (la lb : Nat) : Mut la lb (iniS la lb) := by
 refine ⟨by simp [iniS], by simp [iniS], fun p => ?_, fun p => ?_, fun p q hp hq => ?_⟩
 ·rw [ini_b]; omega
 ·rw [ini_a]; omega
 ·rw [ini_b, ini_a]; omega
def locM (a b : List NodeT) (i k : Int) (p : Nat) : Int := (ph2 a b (kids b k) (kids a i) (ph1 a b (kids b k) (kids a i) (iniS a.length b.length))).b p
theorem locM_spec {a b : List NodeT} (hA : Tr a) (hB : Tr b) (i k : Int) :
  (∀ p ∈ kids a i, ∀ q ∈ kids b k, nm b q = nm a p → locM a b i k p = q) ∧ (∀ p ∈ kids a i, 0 ≤ locM a b i k p → ∃ q ∈ kids b k, locM a b i k p = (q : Int) ∧ Why a b p q) ∧
  (∀ p ∈ kids a i, -1 ≤ locM a b i k p) ∧ (∀ p ∈ kids a i, ∀ p' ∈ kids a i, 0 ≤ locM a b i k p → locM a b i k p = locM a b i k p' → p = p') := by
 obtain ⟨h1, h2, h3, h4⟩ := ph_loc (i := i) (k := k) hA hB (ini_mut a.length b.length) ⟨fun p _ => by rw [ini_b]; omega, fun p _ => by rw [ini_a]; omega⟩ rfl
 refine ⟨h3, h4, fun p _ => (h1.rb p).1, fun p hp p' hp' h e => ?_⟩
 obtain ⟨q, q1, q2, _⟩ := h4 p hp h
 have e1 := (h1.iff p q (kids_lt hp) (kids_lt q1)).1 q2
 have e2 := (h1.iff p' q (kids_lt hp') (kids_lt q1)).1 (e.symm.trans q2)
 omega
def cpt (a b : List NodeT) (p : Nat) : Int :=
 if h : 0 ≤ par a p ∧ par a p < p then (if cpt a b (par a p).toNat < 0 then -1 else locM a b (par a p) (cpt a b (par a p).toNat) p) else if par a p = -1 then locM a b (-1) (-1) p else -1
termination_by p
decreasing_by all_goals omega
theorem cpt_root {a b : List NodeT} {p : Nat} (h : par a p = -1) : cpt a b p = locM a b (-1) (-1) p := by
 rw [cpt, dif_neg (by omega), if_pos h]
theorem cpt_kid {a b : List NodeT} (hA : Tr a) {p i : Nat} (hp : p < a.length) (h : par a p = i) : cpt a b p = if cpt a b i < 0 then -1 else locM a b i (cpt a b i) p := by
 have := tree_par hA.up hp
 rw [cpt, dif_pos (by omega), h]; rfl
def Corr (a b : List NodeT) (p q : Nat) : Prop := (par a p = -1 ∧ par b q = -1) ∨ ∃ i k : Nat, par a p = i ∧ par b q = k ∧ cpt a b i = k ∧ i < p
theorem cpt_name {a b : List NodeT} (hA : Tr a) (hB : Tr b) {p q : Nat} (hp : p < a.length) (hq : q < b.length) (hc : Corr a b p q) (hn : nm b q = nm a p) : cpt a b p = q := by
 rcases hc with ⟨h1, h2⟩ | ⟨i, k, h1, h2, h3, h4⟩
 ·rw [cpt_root h1]
  exact (locM_spec hA hB (-1) (-1)).1 p (mem_kids.2 ⟨hp, h1⟩) q (mem_kids.2 ⟨hq, h2⟩) hn
 ·rw [cpt_kid hA hp h1, if_neg (by omega), h3]
  exact (locM_spec hA hB i k).1 p (mem_kids.2 ⟨hp, h1⟩) q (mem_kids.2 ⟨hq, h2⟩) hn
def Bel (l : List NodeT) (i : Int) (p : Nat) : Prop := i = -1 ∨ (upW l i p = true ∧ (p : Int) ≠ i)
open Classical in
def finS (a b : List NodeT) : Al := alignF a b (a.length + 1) (-1) (-1) (iniS a.length b.length)
end YtfmbadfdbjhekaaDoor
end Go.Proofs
