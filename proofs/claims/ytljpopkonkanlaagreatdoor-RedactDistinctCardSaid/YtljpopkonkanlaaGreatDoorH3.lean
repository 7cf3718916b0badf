/- A part of the proof: contracts of functions of this seat, and lemmas. No condition beyond those stated. -/
import Derived.Test.YtljpopkonkanlaaGreatDoorH2
import Derived.Test.YtljpopkonkanlaaGreatDoorG4
import Derived.Test.YtljpopkonkanlaaGreatDoorH1
import Derived.Test.YtljpopkonkanlaaGreatDoorRows
import Derived.Test.YtljpopkonkanlaaGreatDoorCards
import Derived.Test.YtljpopkonkanlaaGreatDoorTie
import Derived.ProofKit
import Derived.LaidMore
import Derived.OpenShut
import Derived.Stop.Joined
import Derived.Stop.LaidErr
import Derived.SevenTiedAt
import Derived.MakeChecks
import Derived.Lay
set_option linter.unusedVariables false
set_option linter.unusedSimpArgs false
set_option linter.unusedSectionVars false
set_option linter.unnecessarySimpa false
set_option maxRecDepth 100000
namespace Go.Proofs
open Go.AM
namespace YtljpopkonkanlaaGreatDoor
variable {Gl : qa5}
def q93 (pl : List Int) (s : qag) : Int := if 0 ≤ s.parent then pl.getD s.parent.toNat 0 else -1
def qeq (p : qag → Bool) (u : List qag × List Int) (s : qag) : List qag × List Int :=
 if p s = true then (u.1 ++ [{ s with parent := q93 u.2 s }], u.2 ++ [(u.1.length : Int)]) else (u.1, u.2 ++ [q93 u.2 s])
def chF (p : qag → Bool) (l : List qag) : List qag × List Int := l.foldl (qeq p) ([], [])
def qmp (out : List qag) (s : qag) : List qag :=
 if 0 ≤ s.parent then out.set s.parent.toNat { out.getD s.parent.toNat default with self := (out.getD s.parent.toNat default).self - (s.hi - s.lo) } else out
def Qg9 (out : List qag) (s : qag) : qag := { s with depth := if 0 ≤ s.parent then (out.getD s.parent.toNat default).depth + 1 else 0, self := s.hi - s.lo }
def qcg (out : List qag) (s : qag) : List qag := qmp out s ++ [Qg9 out s]
def qfu (l : List qag) : List qag := l.foldl qcg []
theorem qim (out : List qag) (s : qag) : (qmp out s).length = out.length := by
 unfold qmp; split <;> simp
theorem qc1 (out : List qag) (s : qag) : (qcg out s).length = out.length + 1 := by
 rw [qcg, List.length_append, qim]; rfl
theorem qfl (l : List qag) (s : qag) : qfu (l ++ [s]) = qcg (qfu l) s := by
 rw [qfu, List.foldl_append]; rfl
theorem qf0 (l : List qag) : (qfu l).length = l.length := by
 suffices h : ∀ (l out : List qag), (l.foldl qcg out).length = out.length + l.length by simpa [qfu] using h l []
 intro l
 induction l with
 | nil => intro out; simp
 | cons s l ih => intro out; rw [List.foldl_cons, ih, qc1, List.length_cons]; omega
def qgp (l : List qag) : Prop := ∀ i, i < l.length → (0 ≤ (l.getD i default).lo ∧ (l.getD i default).lo ≤ (l.getD i default).hi ∧ (l.getD i default).hi ≤ 1000000000000000) ∧ -1 ≤ (l.getD i default).parent ∧ (l.getD i default).parent < i
def okL (n : Nat) (out : List qag) : Prop := ∀ j, j < out.length → 0 ≤ (out.getD j default).depth ∧ (out.getD j default).depth ≤ n ∧ -((n : Int) * 1000000000000000) ≤ (out.getD j default).self ∧ (out.getD j default).self ≤ 1000000000000000
theorem qe6 (l : List qag) (s : qag) (j : Nat) (h : j < l.length + 1) : (l ++ [s]).getD j default = if j < l.length then l.getD j default else s := by
 by_cases e : j < l.length
 ·rw [if_pos e, List.getD_eq_getElem?_getD, List.getElem?_append_left e, List.getD_eq_getElem?_getD]
 ·have : j = l.length := by omega
  subst this
  rw [if_neg e]; simp
theorem qx8 {l : List qag} {s : qag} (h : qgp (l ++ [s])) : qgp l ∧ (0 ≤ s.lo ∧ s.lo ≤ s.hi ∧ s.hi ≤ 1000000000000000) ∧ -1 ≤ s.parent ∧ s.parent < l.length := by
 constructor
 ·intro i hi
  have := h i (by simp; omega)
  rw [qe6 _ _ _ (by omega), if_pos hi] at this
  exact this
 ·have := h l.length (by simp)
  rw [qe6 _ _ _ (by omega), if_neg (by omega)] at this
  exact this
theorem Qfg {l : List qag} {s : qag} (h : qgp l) (hs : 0 ≤ s.lo ∧ s.lo ≤ s.hi ∧ s.hi ≤ 1000000000000000) (h1 : -1 ≤ s.parent) (h2 : s.parent < l.length) : qgp (l ++ [s]) := by
 intro i hi
 rw [List.length_append] at hi
 have hi : i < l.length + 1 := hi
 rw [qe6 _ _ _ hi]
 split
 ·rename_i e; exact h i e
 ·exact ⟨hs, h1, by omega⟩
theorem Qdm {l : List qag} : qgp l → okL l.length (qfu l) := by
 obtain ⟨n, hn⟩ : ∃ n, n = l.length := ⟨_, rfl⟩
 induction n generalizing l with
 | zero =>
  intro _ j hj
  have : l = [] := List.eq_nil_of_length_eq_zero hn.symm
  subst this; simp [qfu] at hj
 | succ n ih =>
  intro hg
  rcases List.eq_nil_or_concat l with rfl | ⟨v, s, rfl⟩
  ·simp at hn
  rw [List.concat_eq_append] at hg hn ⊢
  obtain ⟨g1, g2, g3, g4⟩ := qx8 hg
  have hv : n = v.length := by rw [List.length_append] at hn; simp at hn; exact hn
  have ok := ih (l := v) hv g1
  rw [← hv] at ok
  intro j hj
  rw [qfl, qc1, qf0] at hj
  have hl := qf0 v
  rw [List.length_append, qfl, qcg, qe6 _ _ _ (by rw [qim]; omega), qim, ← hv]
  have e1 : n + [s].length = n + 1 := rfl
  rw [e1]
  by_cases hjn : j < (qfu v).length
  ·rw [if_pos hjn]
   have o1 := ok j hjn
   unfold qmp
   split
   ·rename_i hp
    by_cases hjp : s.parent.toNat = j
    ·subst hjp
     have e : ((qfu v).set s.parent.toNat { (qfu v).getD s.parent.toNat default with self := ((qfu v).getD s.parent.toNat default).self - (s.hi - s.lo) }).getD s.parent.toNat default = { (qfu v).getD s.parent.toNat default with self := ((qfu v).getD s.parent.toNat default).self - (s.hi - s.lo) } := by simp [hjn]
     rw [e]
     refine ⟨o1.1, by have := o1.2.1; simp only; omega, ?_, ?_⟩
     ·have := o1.2.2.1; simp only; omega
     ·have := o1.2.2.2; simp only; omega
    ·have e : ∀ z, ((qfu v).set s.parent.toNat z).getD j default = (qfu v).getD j default := fun z => by
      rw [List.getD_eq_getElem?_getD, List.getElem?_set_ne hjp, List.getD_eq_getElem?_getD]
     rw [e]
     exact ⟨o1.1, by have := o1.2.1; omega, by have := o1.2.2.1; omega, o1.2.2.2⟩
   ·exact ⟨o1.1, by have := o1.2.1; omega, by have := o1.2.2.1; omega, o1.2.2.2⟩
  ·rw [if_neg hjn]
   unfold Qg9
   refine ⟨?_, ?_, by simp only; omega, by simp only; omega⟩
   ·simp only
    split
    ·rename_i hp; have := ok s.parent.toNat (by omega); omega
    ·omega
   ·simp only
    split
    ·rename_i hp; have := ok s.parent.toNat (by omega); omega
    ·omega
theorem qzz (p : qag → Bool) (l : List qag) (s : qag) : chF p (l ++ [s]) = qeq p (chF p l) s := by
 rw [chF, List.foldl_append]; rfl
theorem qtr (p : qag → Bool) {l : List qag} : qgp l → (chF p l).2.length = l.length ∧ (chF p l).1.length ≤ l.length ∧ (∀ q, q < l.length → -1 ≤ (chF p l).2.getD q 0 ∧ (chF p l).2.getD q 0 < (chF p l).1.length) ∧ qgp (chF p l).1 := by
 obtain ⟨n, hn⟩ : ∃ n, n = l.length := ⟨_, rfl⟩
 induction n generalizing l with
 | zero =>
  intro _
  have : l = [] := List.eq_nil_of_length_eq_zero hn.symm
  subst this
  refine ⟨rfl, Nat.le_refl _, fun q hq => by simp at hq, fun i hi => by simp [chF] at hi⟩
 | succ n ih =>
  intro hg
  rcases List.eq_nil_or_concat l with rfl | ⟨v, s, rfl⟩
  ·simp at hn
  rw [List.concat_eq_append] at hg hn ⊢
  obtain ⟨g1, g2, g3, g4⟩ := qx8 hg
  have hv : n = v.length := by rw [List.length_append] at hn; simp at hn; exact hn
  obtain ⟨f1, f2, f3, f4⟩ := ih (l := v) hv g1
  have hup : -1 ≤ q93 (chF p v).2 s ∧ q93 (chF p v).2 s < (chF p v).1.length := by
   unfold q93
   split
   ·exact f3 s.parent.toNat (by omega)
   ·omega
  have gd : ∀ (a : List Int) (x : Int) (q : Nat), q < a.length + 1 → (a ++ [x]).getD q 0 = if q < a.length then a.getD q 0 else x := fun a x q hq => by
   by_cases e : q < a.length
   ·rw [if_pos e, List.getD_eq_getElem?_getD, List.getElem?_append_left e, List.getD_eq_getElem?_getD]
   ·have : q = a.length := by omega
    subst this
    rw [if_neg e]; simp
  have e1 : (v ++ [s]).length = v.length + 1 := by simp
  rw [e1, qzz, qeq]
  split
  ·refine ⟨by simp [f1], by simp; omega, fun q hq => ?_, Qfg f4 g2 hup.1 hup.2⟩
   simp only
   rw [gd _ _ _ (by omega), List.length_append]
   split
   ·have := f3 q (by omega); simp only [List.length_cons, List.length_nil]; omega
   ·simp only [List.length_cons, List.length_nil]; omega
  ·refine ⟨by simp [f1], by simp only; omega, fun q hq => ?_, f4⟩
   simp only
   rw [gd _ _ _ (by omega)]
   split
   ·exact f3 q (by omega)
   ·exact hup
theorem qx7 {l : List qag} (h : qgp l) (k : Nat) : qgp (l.take k) := by
 intro i hi
 rw [List.length_take] at hi
 have e : (l.take k).getD i default = l.getD i default := by
  rw [List.getD_eq_getElem?_getD, List.getElem?_take_of_lt (by omega), List.getD_eq_getElem?_getD]
 rw [e]; exact h i (by omega)
def q4a (pl : List Int) (n : Nat) : List D := pl.map (D.int .i64) ++ List.replicate n (.int .i64 0)
theorem q8r (pl : List Int) (n : Nat) : (q4a pl n).length = pl.length + n := by simp [q4a]
theorem q8s {pl : List Int} {n q : Nat} (h : q < pl.length) : (q4a pl n).getD q default = .int .i64 (pl.getD q 0) := by
 rw [q4a, List.getD_eq_getElem?_getD, List.getElem?_append_left (by simpa using h)]
 simp [h]
theorem qfw (pl : List Int) (n : Nat) (x y : Int) : ((q4a pl (n + 1)).set pl.length (.int .i64 x)).set pl.length (.int .i64 y) = q4a (pl ++ [y]) n := by
 rw [List.set_set, q4a, List.replicate_succ]
 rw [List.set_append_right _ _ (by simp)]
 simp [q4a]
theorem qlp (pl : List Int) (n : Nat) (y : Int) : (q4a pl (n + 1)).set pl.length (.int .i64 y) = q4a (pl ++ [y]) n := by
 rw [q4a, List.replicate_succ, List.set_append_right _ _ (by simp)]
 simp [q4a]
theorem quc (g : Int → Bool) (ρ : List Nat) (σ : Sto) : qdb (0 :: 1 :: ρ) (freezeL (.box 1 (.mapr 1) :: .map (some .i64) (qa9 g) :: σ) []) = .box 1 (.mapr 1) :: .map (some .i64) (qa9 g) :: ρ.map fun id => qbu (0 :: 1 :: ρ) (.box 1 (.mapr 1) :: .map (some .i64) (qa9 g) :: σ) (qaa (.box 1 (.mapr 1) :: .map (some .i64) (qa9 g) :: σ) id) := by
 show qbu (0 :: 1 :: ρ) _ (.box 1 (.mapr 1)) :: qbu (0 :: 1 :: ρ) _ (.map (some .i64) (qa9 g)) :: _ = _
 rw [qbv]; rfl
theorem Qdy (m : Nat) (hm : m ≤ 100000) : Qqr Tryz.prog 160 (.d (.int .i64 (m : Int))) (.d (.int .i64 (m : Int))) := by
 refine (show _ ∧ _ ∧ _ ∧ (0 : Int) ≤ m ∧ (m : Int) ≤ m ∧ ((8 : Nat) : Int) * (m : Int) ≤ 281474976710656 ∧ (m : Int) ≤ _ from ⟨rfl, rfl, rfl, ?_, ?_, ?_, ?_⟩) <;> omega
theorem q80 (σ : Sto) (m : Nat) : mkS Tryz.prog σ 160 (.d (.int .i64 (m : Int))) = σ ++ [.arr 1 (List.replicate m (.int .i64 0))] := rfl
theorem Qez (g : Int → Bool) {fv : FuncId} (p : qag → Bool) (hp : ∀ x : qag, qaf Tryz.prog Gl fv [.d x.toD, .ptr 0 0] (.box 1 (.mapr 1) :: .map (some .i64) (qa9 g) :: []) (fun r s => r = .d (.bool (p x)) ∧ s = (.box 1 (.mapr 1) :: .map (some .i64) (qa9 g) :: []))) (l : List qag) (hl : l.length ≤ 1000) (hg : qgp l) :
  qaf Tryz.prog Gl 64 [.d (.sl (l.map qag.toD)), .fn fv [.ptr 0 0]] (.box 1 (.mapr 1) :: .map (some .i64) (qa9 g) :: []) (fun r s => r = .d (.sl ((qfu (chF p l).1).map qag.toD)) ∧ s = (.box 1 (.mapr 1) :: .map (some .i64) (qa9 g) :: [])) := by
 refine qac Tryz.func64 rfl rfl (by simp [Tryz.ntmps64]) (qab rfl _ _ _ _ ?_)
 simp only [Tryz.ntmps64, Tryz.results64, qak, List.length_nil]
 simp only [zU, seval, qam]
 refine ⟨Qdy l.length (by omega), ?_⟩
 rw [q80]
 refine qa7 l.length (fun k => [(1, .fn fv [.ptr 0 0]), (5, .osl 2 0 (qfu (chF p (l.take k)).1).length), (6, .osl 3 0 l.length), (13, .d (.sl (l.map qag.toD))), (14, .d (.int .i64 l.length)), (15, .d (.int .i64 k))])
  (fun k => (.box 1 (.mapr 1) :: .map (some .i64) (qa9 g) :: .arr 8 ((qfu (chF p (l.take k)).1).map qag.toD) :: .arr 1 (q4a (chF p (l.take k)).2 (l.length - k)) :: [])) (fun _ => True) trivial ?_ ?_
 ·refine (qhs 5 8 rfl).trans ?_
  refine qad [] [0, 1, 3, 2] rfl (by simp) ?_ ?_
  ·simp only [zU, seval, qam]
   try rfl
  ·refine (quc g _ _).trans ?_
   rfl
 intro k _ hk
 have hgk := qx7 hg k
 obtain ⟨f1, f2, f3, f4⟩ := qtr p hgk
 have hkl : (l.take k).length = k := by rw [List.length_take]; omega
 rw [hkl] at f1 f2 f3
 by_cases h : k < l.length
 ·obtain ⟨x, hx⟩ : ∃ x, x = l.getD k default := ⟨_, rfl⟩
  have eg : (l.map qag.toD).getD k default = x.toD := by rw [qat _ _ _ h, ← hx]
  have ht : l.take (k + 1) = l.take k ++ [x] := by rw [qa1 l k h, ← hx]
  have gx := hg k h
  rw [← hx] at gx
  obtain ⟨o, ho⟩ : ∃ o, o = (chF p (l.take k)).1 := ⟨_, rfl⟩
  obtain ⟨pl, hpl⟩ : ∃ pl, pl = (chF p (l.take k)).2 := ⟨_, rfl⟩
  obtain ⟨out, hout⟩ : ∃ out, out = qfu o := ⟨_, rfl⟩
  have hc : chF p (l.take (k + 1)) = qeq p (o, pl) x := by rw [ht, qzz, ho, hpl]
  have hol : out.length = o.length := by rw [hout, qf0]
  have hok : okL o.length out := by rw [hout]; exact Qdm (by rw [ho]; exact f4)
  rw [hc]
  rw [← ho, ← hpl] at f3
  rw [← ho] at f2 f4
  rw [← hpl] at f1
  rw [← ho, ← hpl, ← hout]
  obtain ⟨m, hm⟩ : ∃ m, l.length - k = m + 1 := ⟨l.length - k - 1, by omega⟩
  have hm2 : l.length - (k + 1) = m := by omega
  rw [hm, hm2]
  have hpll := q8r pl (m + 1)
  obtain ⟨up, hup⟩ : ∃ up, up = q93 pl x := ⟨_, rfl⟩
  have hupb : -1 ≤ up ∧ up < o.length := by
   rw [hup, q93]; split
   ·exact f3 _ (by omega)
   ·omega
  simp only [zU, seval, qam, (show (k:Int) < l.length by omega), h, eg]
  repeat ((with_reducible refine And.intro ?_ ?_); (focus (first | omega | (simp only [qa2]; omega) | (refine qq ?_; rfl) | (refine dq ?_; kernel_rfl) | (intros; simp_all; done))))
  refine ifC.mk (fun h1 => ?_) (fun h1 => ?_)
  ·have h1 : 0 ≤ x.parent := of_decide_eq_true h1
   obtain ⟨q, hq⟩ : ∃ q : Nat, x.parent = q := ⟨x.parent.toNat, by omega⟩
   have hqk : q < pl.length := by omega
   have eq : (q4a pl (m + 1)).getD q default = .int .i64 up := by rw [q8s hqk, hup, q93, if_pos h1, hq, Int.toNat_natCast]
   (try simp only [zU, seval, qam, hq, (show (q:Int) < l.length by omega), (show q < l.length by omega), hpll, (show q < pl.length + (m + 1) by omega), eq])
   refine ⟨by omega, ?_⟩
   refine qbz (R := fun r ν => r = .d (.bool (p x)) ∧ ν = []) [0, 1] (.box 1 (.mapr 1) :: .map (some .i64) (qa9 g) :: []) (by simp) (by simp) (show [qbu [0, 1] _ (.box 1 (.mapr 1)), qbu [0, 1] _ (.map (some .i64) (qa9 g))] = _ by rw [qbv]; rfl) rfl (hk2 rfl (qcr g _)) ((hp x).mono fun r s hr => ⟨[], by rw [hr.2]; rfl, hr.1, rfl⟩) (fun r ν hr => ?_)
   obtain ⟨rfl, rfl⟩ := hr
   have ekl : k = pl.length := f1.symm
   simp only [zU, seval, qam, List.map_nil, List.append_nil]
   refine ifC.mk (fun hc => ?_) (fun hc => ?_)
   ·have hc : p x = false := by simpa using hc
    rw [qeq, if_neg (by rw [hc]; simp), ← hup, ← hout]
    refine qad [] [0, 1, 2, 3] rfl (by simp) ?_ ?_
    ·simp only [zU, seval, qam, @qai ((k:Int) + 1) (by omega)]
     try rfl
    ·rw [ekl, qlp]
     refine (quc g _ _).trans ?_
     rfl
   ·have hc : p x = true := by simpa using hc
    have e1 : x.hi - x.lo = IntKind.i64.wrap (x.hi - x.lo) := (@qai (x.hi - x.lo) (by omega)).symm
    rw [qeq, if_pos hc, ← hup]
    have efin : qfu (o ++ [{ x with parent := up }]) = qcg out { x with parent := up } := by rw [qfl, ← hout]
    simp only [efin]
    (try simp only [zU, seval, qam, @qai (x.hi - x.lo) (by omega)])
    refine ifC.mk (fun h2 => ?_) (fun h2 => ?_)
    ·have h2 : 0 ≤ up := of_decide_eq_true h2
     obtain ⟨u, hu⟩ : ∃ u : Nat, up = u := ⟨up.toNat, by omega⟩
     have hul : u < out.length := by omega
     obtain ⟨y, hy⟩ : ∃ y, y = out.getD u default := ⟨_, rfl⟩
     have egy : (out.map qag.toD).getD u default = y.toD := by rw [qat _ _ _ hul, ← hy]
     have hyk := hok u hul
     rw [← hy] at hyk
     (try simp only [zU, seval, qam, hu, (show (u:Int) < out.length by omega), hul, egy, @qai (y.depth + 1) (by omega), @qai (y.self - (x.hi - x.lo)) (by omega)])
     refine ⟨.inl (by kernel_rfl), ?_⟩
     (try simp only [zU, seval, qam, (show (u:Int) < out.length by omega), hul, egy, (show (k:Int) < l.length by omega), hpll, (show k < pl.length + (m + 1) by omega)])
     refine ⟨⟨by omega, by omega⟩, ?_⟩
     have ef : (qcg out { x with parent := (u : Int) }).map qag.toD = (out.map qag.toD).set u (qag.toD { y with self := y.self - (x.hi - x.lo) }) ++ [qag.toD { x with parent := (u : Int), depth := y.depth + 1, self := x.hi - x.lo }] := by
      simp only [qcg, qmp, Qg9, (show (0:Int) ≤ u by omega), Int.toNat_natCast, ← hy, if_true, List.map_append, List.map_set]
      rfl
     rw [ef, qc1]
     refine qad [] [0, 1, 6, 3] rfl (by simp) ?_ ?_
     ·simp only [zU, seval, qam, @qai ((k:Int) + 1) (by omega)]
      try rfl
     ·rw [ekl, qfw]
      rw [List.take_of_length_le (by rw [List.length_set, List.length_map]; exact Nat.le_refl _), ← hol]
      refine (quc g _ _).trans ?_
      rfl
    ·have h2 : ¬ 0 ≤ up := of_decide_eq_false h2
     (try simp only [zU, seval, qam, (show (k:Int) < l.length by omega), hpll, (show k < pl.length + (m + 1) by omega)])
     refine ⟨⟨by omega, by omega⟩, ?_⟩
     have ef : (qcg out { x with parent := up }).map qag.toD = out.map qag.toD ++ [qag.toD { x with parent := up, depth := 0, self := x.hi - x.lo }] := by
      simp only [qcg, qmp, Qg9, h2, if_false, List.map_append]
      rfl
     rw [ef, qc1]
     refine qad [] [0, 1, 6, 3] rfl (by simp) ?_ ?_
     ·simp only [zU, seval, qam, @qai ((k:Int) + 1) (by omega)]
      try rfl
     ·rw [ekl, qfw, ← hol, qba]
      refine (quc g _ _).trans ?_
      rfl
  ·have h1 : ¬ 0 ≤ x.parent := of_decide_eq_false h1
   have eu : up = -1 := by rw [hup, q93, if_neg h1]
   (try simp only [zU, seval, qam, hpll])
   rw [← eu]
   refine ⟨by omega, ?_⟩
   refine qbz (R := fun r ν => r = .d (.bool (p x)) ∧ ν = []) [0, 1] (.box 1 (.mapr 1) :: .map (some .i64) (qa9 g) :: []) (by simp) (by simp) (show [qbu [0, 1] _ (.box 1 (.mapr 1)), qbu [0, 1] _ (.map (some .i64) (qa9 g))] = _ by rw [qbv]; rfl) rfl (hk2 rfl (qcr g _)) ((hp x).mono fun r s hr => ⟨[], by rw [hr.2]; rfl, hr.1, rfl⟩) (fun r ν hr => ?_)
   obtain ⟨rfl, rfl⟩ := hr
   have ekl : k = pl.length := f1.symm
   simp only [zU, seval, qam, List.map_nil, List.append_nil]
   refine ifC.mk (fun hc => ?_) (fun hc => ?_)
   ·have hc : p x = false := by simpa using hc
    rw [qeq, if_neg (by rw [hc]; simp), ← hup, ← hout]
    refine qad [] [0, 1, 2, 3] rfl (by simp) ?_ ?_
    ·simp only [zU, seval, qam, @qai ((k:Int) + 1) (by omega)]
     try rfl
    ·rw [ekl, qlp]
     refine (quc g _ _).trans ?_
     rfl
   ·have hc : p x = true := by simpa using hc
    have e1 : x.hi - x.lo = IntKind.i64.wrap (x.hi - x.lo) := (@qai (x.hi - x.lo) (by omega)).symm
    rw [qeq, if_pos hc, ← hup]
    have efin : qfu (o ++ [{ x with parent := up }]) = qcg out { x with parent := up } := by rw [qfl, ← hout]
    simp only [efin]
    (try simp only [zU, seval, qam, @qai (x.hi - x.lo) (by omega)])
    refine ifC.mk (fun h2 => ?_) (fun h2 => ?_)
    ·have h2 : 0 ≤ up := of_decide_eq_true h2
     obtain ⟨u, hu⟩ : ∃ u : Nat, up = u := ⟨up.toNat, by omega⟩
     have hul : u < out.length := by omega
     obtain ⟨y, hy⟩ : ∃ y, y = out.getD u default := ⟨_, rfl⟩
     have egy : (out.map qag.toD).getD u default = y.toD := by rw [qat _ _ _ hul, ← hy]
     have hyk := hok u hul
     rw [← hy] at hyk
     (try simp only [zU, seval, qam, hu, (show (u:Int) < out.length by omega), hul, egy, @qai (y.depth + 1) (by omega), @qai (y.self - (x.hi - x.lo)) (by omega)])
     refine ⟨.inl (by kernel_rfl), ?_⟩
     (try simp only [zU, seval, qam, (show (u:Int) < out.length by omega), hul, egy, (show (k:Int) < l.length by omega), hpll, (show k < pl.length + (m + 1) by omega)])
     refine ⟨⟨by omega, by omega⟩, ?_⟩
     have ef : (qcg out { x with parent := (u : Int) }).map qag.toD = (out.map qag.toD).set u (qag.toD { y with self := y.self - (x.hi - x.lo) }) ++ [qag.toD { x with parent := (u : Int), depth := y.depth + 1, self := x.hi - x.lo }] := by
      simp only [qcg, qmp, Qg9, (show (0:Int) ≤ u by omega), Int.toNat_natCast, ← hy, if_true, List.map_append, List.map_set]
      rfl
     rw [ef, qc1]
     refine qad [] [0, 1, 6, 3] rfl (by simp) ?_ ?_
     ·simp only [zU, seval, qam, @qai ((k:Int) + 1) (by omega)]
      try rfl
     ·rw [ekl, qfw]
      rw [List.take_of_length_le (by rw [List.length_set, List.length_map]; exact Nat.le_refl _), ← hol]
      refine (quc g _ _).trans ?_
      rfl
    ·have h2 : ¬ 0 ≤ up := of_decide_eq_false h2
     (try simp only [zU, seval, qam, (show (k:Int) < l.length by omega), hpll, (show k < pl.length + (m + 1) by omega)])
     refine ⟨⟨by omega, by omega⟩, ?_⟩
     have ef : (qcg out { x with parent := up }).map qag.toD = out.map qag.toD ++ [qag.toD { x with parent := up, depth := 0, self := x.hi - x.lo }] := by
      simp only [qcg, qmp, Qg9, h2, if_false, List.map_append]
      rfl
     rw [ef, qc1]
     refine qad [] [0, 1, 6, 3] rfl (by simp) ?_ ?_
     ·simp only [zU, seval, qam, @qai ((k:Int) + 1) (by omega)]
      try rfl
     ·rw [ekl, qfw, ← hol, qba]
      refine (quc g _ _).trans ?_
      rfl
 ·have : k = l.length := by omega
  subst this
  simp only [zU, seval, qam, (show ¬ (l.length:Int) < l.length by omega), List.take_length]
  refine ⟨_, _, (qcw rfl).trans (qae [] [0, 1] rfl (by simp) (show qbf _ _ _ = AV.d _ from rfl) (quc g [] _)), ?_, rfl⟩
  simp only [zU, seval, qam, qba]
theorem Qey (rs : D) {fv : FuncId} (p : qag → Bool) (hp : ∀ x : qag, qaf Tryz.prog Gl fv [.d x.toD, .ptr 0 0] (.box 1 (.d rs) :: []) (fun r s => r = .d (.bool (p x)) ∧ s = (.box 1 (.d rs) :: []))) (l : List qag) (hl : l.length ≤ 1000) (hg : qgp l) :
  qaf Tryz.prog Gl 64 [.d (.sl (l.map qag.toD)), .fn fv [.ptr 0 0]] (.box 1 (.d rs) :: []) (fun r s => r = .osl 1 0 (qfu (chF p l).1).length ∧ s = (.box 1 (.d rs) :: .arr 8 ((qfu (chF p l).1).map qag.toD) :: [])) := by
 refine qac Tryz.func64 rfl rfl (by simp [Tryz.ntmps64]) (qab rfl _ _ _ _ ?_)
 simp only [Tryz.ntmps64, Tryz.results64, qak, List.length_nil]
 simp only [zU, seval, qam]
 refine ⟨Qdy l.length (by omega), ?_⟩
 rw [q80]
 refine qa7 l.length (fun k => [(1, .fn fv [.ptr 0 0]), (5, .osl 1 0 (qfu (chF p (l.take k)).1).length), (6, .osl 2 0 l.length), (13, .d (.sl (l.map qag.toD))), (14, .d (.int .i64 l.length)), (15, .d (.int .i64 k))])
  (fun k => (.box 1 (.d rs) :: .arr 8 ((qfu (chF p (l.take k)).1).map qag.toD) :: .arr 1 (q4a (chF p (l.take k)).2 (l.length - k)) :: [])) (fun _ => True) trivial ?_ ?_
 ·refine (qhs 5 8 rfl).trans ?_
  refine qad [] [0, 2, 1] rfl (by simp) ?_ ?_
  ·simp only [zU, seval, qam]
   try rfl
  ·skip
   rfl
 intro k _ hk
 have hgk := qx7 hg k
 obtain ⟨f1, f2, f3, f4⟩ := qtr p hgk
 have hkl : (l.take k).length = k := by rw [List.length_take]; omega
 rw [hkl] at f1 f2 f3
 by_cases h : k < l.length
 ·obtain ⟨x, hx⟩ : ∃ x, x = l.getD k default := ⟨_, rfl⟩
  have eg : (l.map qag.toD).getD k default = x.toD := by rw [qat _ _ _ h, ← hx]
  have ht : l.take (k + 1) = l.take k ++ [x] := by rw [qa1 l k h, ← hx]
  have gx := hg k h
  rw [← hx] at gx
  obtain ⟨o, ho⟩ : ∃ o, o = (chF p (l.take k)).1 := ⟨_, rfl⟩
  obtain ⟨pl, hpl⟩ : ∃ pl, pl = (chF p (l.take k)).2 := ⟨_, rfl⟩
  obtain ⟨out, hout⟩ : ∃ out, out = qfu o := ⟨_, rfl⟩
  have hc : chF p (l.take (k + 1)) = qeq p (o, pl) x := by rw [ht, qzz, ho, hpl]
  have hol : out.length = o.length := by rw [hout, qf0]
  have hok : okL o.length out := by rw [hout]; exact Qdm (by rw [ho]; exact f4)
  rw [hc]
  rw [← ho, ← hpl] at f3
  rw [← ho] at f2 f4
  rw [← hpl] at f1
  rw [← ho, ← hpl, ← hout]
  obtain ⟨m, hm⟩ : ∃ m, l.length - k = m + 1 := ⟨l.length - k - 1, by omega⟩
  have hm2 : l.length - (k + 1) = m := by omega
  rw [hm, hm2]
  have hpll := q8r pl (m + 1)
  obtain ⟨up, hup⟩ : ∃ up, up = q93 pl x := ⟨_, rfl⟩
  have hupb : -1 ≤ up ∧ up < o.length := by
   rw [hup, q93]; split
   ·exact f3 _ (by omega)
   ·omega
  simp only [zU, seval, qam, (show (k:Int) < l.length by omega), h, eg]
  repeat ((with_reducible refine And.intro ?_ ?_); (focus (first | omega | (simp only [qa2]; omega) | (refine qq ?_; rfl) | (refine dq ?_; kernel_rfl) | (intros; simp_all; done))))
  refine ifC.mk (fun h1 => ?_) (fun h1 => ?_)
  ·have h1 : 0 ≤ x.parent := of_decide_eq_true h1
   obtain ⟨q, hq⟩ : ∃ q : Nat, x.parent = q := ⟨x.parent.toNat, by omega⟩
   have hqk : q < pl.length := by omega
   have eq : (q4a pl (m + 1)).getD q default = .int .i64 up := by rw [q8s hqk, hup, q93, if_pos h1, hq, Int.toNat_natCast]
   (try simp only [zU, seval, qam, hq, (show (q:Int) < l.length by omega), (show q < l.length by omega), hpll, (show q < pl.length + (m + 1) by omega), eq])
   refine ⟨by omega, ?_⟩
   refine qbz (R := fun r ν => r = .d (.bool (p x)) ∧ ν = []) [0] (.box 1 (.d rs) :: []) (by simp) (by simp) rfl rfl (hk1 rfl) ((hp x).mono fun r s hr => ⟨[], by rw [hr.2]; rfl, hr.1, rfl⟩) (fun r ν hr => ?_)
   obtain ⟨rfl, rfl⟩ := hr
   have ekl : k = pl.length := f1.symm
   simp only [zU, seval, qam, List.map_nil, List.append_nil]
   refine ifC.mk (fun hc => ?_) (fun hc => ?_)
   ·have hc : p x = false := by simpa using hc
    rw [qeq, if_neg (by rw [hc]; simp), ← hup, ← hout]
    refine qad [] [0, 1, 2] rfl (by simp) ?_ ?_
    ·simp only [zU, seval, qam, @qai ((k:Int) + 1) (by omega)]
     try rfl
    ·rw [ekl, qlp]
     skip
     rfl
   ·have hc : p x = true := by simpa using hc
    have e1 : x.hi - x.lo = IntKind.i64.wrap (x.hi - x.lo) := (@qai (x.hi - x.lo) (by omega)).symm
    rw [qeq, if_pos hc, ← hup]
    have efin : qfu (o ++ [{ x with parent := up }]) = qcg out { x with parent := up } := by rw [qfl, ← hout]
    simp only [efin]
    (try simp only [zU, seval, qam, @qai (x.hi - x.lo) (by omega)])
    refine ifC.mk (fun h2 => ?_) (fun h2 => ?_)
    ·have h2 : 0 ≤ up := of_decide_eq_true h2
     obtain ⟨u, hu⟩ : ∃ u : Nat, up = u := ⟨up.toNat, by omega⟩
     have hul : u < out.length := by omega
     obtain ⟨y, hy⟩ : ∃ y, y = out.getD u default := ⟨_, rfl⟩
     have egy : (out.map qag.toD).getD u default = y.toD := by rw [qat _ _ _ hul, ← hy]
     have hyk := hok u hul
     rw [← hy] at hyk
     (try simp only [zU, seval, qam, hu, (show (u:Int) < out.length by omega), hul, egy, @qai (y.depth + 1) (by omega), @qai (y.self - (x.hi - x.lo)) (by omega)])
     refine ⟨.inl (by kernel_rfl), ?_⟩
     (try simp only [zU, seval, qam, (show (u:Int) < out.length by omega), hul, egy, (show (k:Int) < l.length by omega), hpll, (show k < pl.length + (m + 1) by omega)])
     refine ⟨⟨by omega, by omega⟩, ?_⟩
     have ef : (qcg out { x with parent := (u : Int) }).map qag.toD = (out.map qag.toD).set u (qag.toD { y with self := y.self - (x.hi - x.lo) }) ++ [qag.toD { x with parent := (u : Int), depth := y.depth + 1, self := x.hi - x.lo }] := by
      simp only [qcg, qmp, Qg9, (show (0:Int) ≤ u by omega), Int.toNat_natCast, ← hy, if_true, List.map_append, List.map_set]
      rfl
     rw [ef, qc1]
     refine qad [] [0, 5, 2] rfl (by simp) ?_ ?_
     ·simp only [zU, seval, qam, @qai ((k:Int) + 1) (by omega)]
      try rfl
     ·rw [ekl, qfw]
      rw [List.take_of_length_le (by rw [List.length_set, List.length_map]; exact Nat.le_refl _), ← hol]
      skip
      rfl
    ·have h2 : ¬ 0 ≤ up := of_decide_eq_false h2
     (try simp only [zU, seval, qam, (show (k:Int) < l.length by omega), hpll, (show k < pl.length + (m + 1) by omega)])
     refine ⟨⟨by omega, by omega⟩, ?_⟩
     have ef : (qcg out { x with parent := up }).map qag.toD = out.map qag.toD ++ [qag.toD { x with parent := up, depth := 0, self := x.hi - x.lo }] := by
      simp only [qcg, qmp, Qg9, h2, if_false, List.map_append]
      rfl
     rw [ef, qc1]
     refine qad [] [0, 5, 2] rfl (by simp) ?_ ?_
     ·simp only [zU, seval, qam, @qai ((k:Int) + 1) (by omega)]
      try rfl
     ·rw [ekl, qfw, ← hol, qba]
      skip
      rfl
  ·have h1 : ¬ 0 ≤ x.parent := of_decide_eq_false h1
   have eu : up = -1 := by rw [hup, q93, if_neg h1]
   (try simp only [zU, seval, qam, hpll])
   rw [← eu]
   refine ⟨by omega, ?_⟩
   refine qbz (R := fun r ν => r = .d (.bool (p x)) ∧ ν = []) [0] (.box 1 (.d rs) :: []) (by simp) (by simp) rfl rfl (hk1 rfl) ((hp x).mono fun r s hr => ⟨[], by rw [hr.2]; rfl, hr.1, rfl⟩) (fun r ν hr => ?_)
   obtain ⟨rfl, rfl⟩ := hr
   have ekl : k = pl.length := f1.symm
   simp only [zU, seval, qam, List.map_nil, List.append_nil]
   refine ifC.mk (fun hc => ?_) (fun hc => ?_)
   ·have hc : p x = false := by simpa using hc
    rw [qeq, if_neg (by rw [hc]; simp), ← hup, ← hout]
    refine qad [] [0, 1, 2] rfl (by simp) ?_ ?_
    ·simp only [zU, seval, qam, @qai ((k:Int) + 1) (by omega)]
     try rfl
    ·rw [ekl, qlp]
     skip
     rfl
   ·have hc : p x = true := by simpa using hc
    have e1 : x.hi - x.lo = IntKind.i64.wrap (x.hi - x.lo) := (@qai (x.hi - x.lo) (by omega)).symm
    rw [qeq, if_pos hc, ← hup]
    have efin : qfu (o ++ [{ x with parent := up }]) = qcg out { x with parent := up } := by rw [qfl, ← hout]
    simp only [efin]
    (try simp only [zU, seval, qam, @qai (x.hi - x.lo) (by omega)])
    refine ifC.mk (fun h2 => ?_) (fun h2 => ?_)
    ·have h2 : 0 ≤ up := of_decide_eq_true h2
     obtain ⟨u, hu⟩ : ∃ u : Nat, up = u := ⟨up.toNat, by omega⟩
     have hul : u < out.length := by omega
     obtain ⟨y, hy⟩ : ∃ y, y = out.getD u default := ⟨_, rfl⟩
     have egy : (out.map qag.toD).getD u default = y.toD := by rw [qat _ _ _ hul, ← hy]
     have hyk := hok u hul
     rw [← hy] at hyk
     (try simp only [zU, seval, qam, hu, (show (u:Int) < out.length by omega), hul, egy, @qai (y.depth + 1) (by omega), @qai (y.self - (x.hi - x.lo)) (by omega)])
     refine ⟨.inl (by kernel_rfl), ?_⟩
     (try simp only [zU, seval, qam, (show (u:Int) < out.length by omega), hul, egy, (show (k:Int) < l.length by omega), hpll, (show k < pl.length + (m + 1) by omega)])
     refine ⟨⟨by omega, by omega⟩, ?_⟩
     have ef : (qcg out { x with parent := (u : Int) }).map qag.toD = (out.map qag.toD).set u (qag.toD { y with self := y.self - (x.hi - x.lo) }) ++ [qag.toD { x with parent := (u : Int), depth := y.depth + 1, self := x.hi - x.lo }] := by
      simp only [qcg, qmp, Qg9, (show (0:Int) ≤ u by omega), Int.toNat_natCast, ← hy, if_true, List.map_append, List.map_set]
      rfl
     rw [ef, qc1]
     refine qad [] [0, 5, 2] rfl (by simp) ?_ ?_
     ·simp only [zU, seval, qam, @qai ((k:Int) + 1) (by omega)]
      try rfl
     ·rw [ekl, qfw]
      rw [List.take_of_length_le (by rw [List.length_set, List.length_map]; exact Nat.le_refl _), ← hol]
      skip
      rfl
    ·have h2 : ¬ 0 ≤ up := of_decide_eq_false h2
     (try simp only [zU, seval, qam, (show (k:Int) < l.length by omega), hpll, (show k < pl.length + (m + 1) by omega)])
     refine ⟨⟨by omega, by omega⟩, ?_⟩
     have ef : (qcg out { x with parent := up }).map qag.toD = out.map qag.toD ++ [qag.toD { x with parent := up, depth := 0, self := x.hi - x.lo }] := by
      simp only [qcg, qmp, Qg9, h2, if_false, List.map_append]
      rfl
     rw [ef, qc1]
     refine qad [] [0, 5, 2] rfl (by simp) ?_ ?_
     ·simp only [zU, seval, qam, @qai ((k:Int) + 1) (by omega)]
      try rfl
     ·rw [ekl, qfw, ← hol, qba]
      skip
      rfl
 ·have : k = l.length := by omega
  subst this
  simp only [zU, seval, qam, (show ¬ (l.length:Int) < l.length by omega), List.take_length]
  exact ⟨_, _, qae [] [0, 1] rfl (by simp) rfl rfl, rfl, rfl⟩

theorem q4n : (D.raw (Value.map none)).cells.length = 1 := rfl
theorem Qp7 (g : Int → Bool) (σ : Sto) : qdb [0, 1] (.box 1 (.mapr 1) :: .map (some .i64) (qa9 g) :: σ) = [.box 1 (.mapr 1), .map (some .i64) (qa9 g)] := by
 show [qbu [0, 1] _ (.box 1 (.mapr 1)), qbu [0, 1] _ (.map (some .i64) (qa9 g))] = _
 rw [qbv]; rfl
section
variable {n : Nat} {all : Array Oper} {rest : List Oper} {KK : Env → Sto → Prop} {env : Env} {f : FuncId} {ag caps as' : List AV} {dst : Option Tmp}
theorem cG {v : D} (g : Int → Bool) (σ : Sto) (h : qaf Tryz.prog Gl f as' [.box 1 (.mapr 1), .map (some .i64) (qa9 g)] (fun r s => r = .d v ∧ s = [.box 1 (.mapr 1), .map (some .i64) (qa9 g)]))
  (he : (ag ++ caps).map (qbf [0, 1] (.box 1 (.mapr 1) :: .map (some .i64) (qa9 g) :: σ)) = as')
  (h2 : qal Tryz.prog Gl n all false rest (putE env dst (.d v)) (.box 1 (.mapr 1) :: .map (some .i64) (qa9 g) :: σ) KK) : qfp Tryz.prog Gl n all false dst rest (.fn f caps) ag env (.box 1 (.mapr 1) :: .map (some .i64) (qa9 g) :: σ) KK :=
 qyi [0, 1] [.box 1 (.mapr 1), .map (some .i64) (qa9 g)] (by simp) (by simp) (Qp7 g σ) he (hk2 rfl (qcr g _)) h h2
theorem Qr3 {es m : Nat} {xs : List D} (g : Int → Bool) (σ : Sto) (h : qaf Tryz.prog Gl f as' [.box 1 (.mapr 1), .map (some .i64) (qa9 g)] (fun r s => r = .osl 2 0 m ∧ s = [.box 1 (.mapr 1), .map (some .i64) (qa9 g), .arr es xs]))
  (he : (ag ++ caps).map (qbf [0, 1] (.box 1 (.mapr 1) :: .map (some .i64) (qa9 g) :: σ)) = as')
  (h2 : qal Tryz.prog Gl n all false rest (putE env dst (.osl (σ.length + 2) 0 m)) (.box 1 (.mapr 1) :: .map (some .i64) (qa9 g) :: σ ++ [.arr es xs]) KK) : qfp Tryz.prog Gl n all false dst rest (.fn f caps) ag env (.box 1 (.mapr 1) :: .map (some .i64) (qa9 g) :: σ) KK :=
 qtu [0, 1] [.box 1 (.mapr 1), .map (some .i64) (qa9 g)] (by simp) (by simp) (Qp7 g σ) he (hk2 rfl (qcr g _)) h h2
end
def qft (l : List qap) (ths : List qao) (m : Int) : Bool := ths.any fun x => x.id == m && qc8 l qau x.name
theorem Qno {l : List qap} {ths : List qao} {x : qao} (h : qc8 l qau x.name = true) : (fun m => m == x.id || qft l ths m) = qft l (ths ++ [x]) := by
 funext m
 rw [qft, qft, List.any_append, List.any_cons, List.any_nil, Bool.or_false, h, Bool.and_true, Bool.or_comm]
 congr 1
 rw [Bool.eq_iff_iff]; simp; exact ⟨fun e => e.symm, fun e => e.symm⟩
theorem Qnp {l : List qap} {ths : List qao} {x : qao} (h : qc8 l qau x.name = false) : qft l (ths ++ [x]) = qft l ths := by
 funext m
 rw [qft, qft, List.any_append, List.any_cons, List.any_nil, Bool.or_false, h, Bool.and_false, Bool.or_false]
def qga (l : List qap) (t : qa4) : qa4 :=
 { t with
  threads := t.threads.filter (fun x => !qft l t.threads x.id)
  flows := t.flows.filter (fun x => !(qft l t.threads x.ft || qft l t.threads x.tt))
  samples := t.samples.filter (fun x => !qft l t.threads x.thread)
  blocks := t.blocks.filter (fun x => !qft l t.threads x.thread)
  lost := t.lost.filter (fun x => !qft l t.threads x.thread)
  slices := qfu (chF (fun x => !qft l t.threads x.thread) t.slices).1
  states := qf3 (qft l t.threads) t.states }
def qa4.lim (t : qa4) : Prop := t.threads.length ≤ 1000 ∧ t.slices.length ≤ 1000 ∧ t.states.length ≤ 1000 ∧ t.flows.length ≤ 1000 ∧ t.samples.length ≤ 1000 ∧ t.steps.length ≤ 1000 ∧ t.blocks.length ≤ 1000 ∧ t.lost.length ≤ 1000
def Qrs (t : qa4) : AV := .agg [.d (.int .i64 t.lo), .d (.int .i64 t.hi), .osl 0 0 t.threads.length, .d (.sl (t.slices.map qag.toD)), .d (.sl (t.states.map qax.toD)), .d (.sl (t.flows.map qbt.toD)), .d (.sl (t.samples.map qan.toD)), .d (.sl (t.steps.map qbb.toD)), .d (.sl (t.blocks.map qar.toD)), .d (.sl (t.lost.map qcc.toD))]
def zT : AV := .agg [.d (.int .i64 0), .d (.int .i64 0), .nils, .nils, .nils, .nils, .nils, .nils, .nils, .nils]
theorem qzn (l : List qap) (t : qa4) (hl : l.length < 1000000) (ht : t.lim) (hg : qgp t.slices) : qaf Tryz.prog Gl 43 [.d (.sl (l.map qap.toD)), .d t.toD] []
  (fun r s => r = Qrs (qga l t) ∧ s = [.arr 3 ((qga l t).threads.map qao.toD)]) := by
 obtain ⟨h1, h2, h3, h4, h5, h6, h7, h8⟩ := ht
 refine qac Tryz.func43 rfl rfl (by simp [Tryz.ntmps43]) (qab rfl _ _ _ _ ?_)
 simp only [Tryz.ntmps43, Tryz.results43, qak, List.length_nil]
 simp only [zU, seval, qam, q4n]
 refine qa7 t.threads.length (fun k => [(0, .d (.sl (l.map qap.toD))), (3, .ptr 2 0), (4, .ptr 3 0), (5, .ptr 0 0), (10, .d (.sl (t.threads.map qao.toD))), (11, .d (.int .i64 t.threads.length)), (12, .d (.int .i64 k))])
  (fun k => [.box 1 (.mapr 1), .map (some .i64) (qa9 (qft l (t.threads.take k))), .box 10 (.d t.toD), .box 10 zT]) (fun _ => True) trivial ?_ ?_
 ·refine qad [] [3, 2, 0, 1] rfl (by simp) ?_ ?_
  ·simp only [zU, seval, qam, q4n]
   try rfl
  ·rw [Qd1]
   show [_, qbu [3, 2, 0, 1] _ (.map (some .i64) (qa9 fun _ => false)), _, _] = _
   rw [qbv]; rfl
 intro k _ hk
 by_cases h : k < t.threads.length
 ·obtain ⟨x, hx⟩ : ∃ x, x = t.threads.getD k default := ⟨_, rfl⟩
  have eg : (t.threads.map qao.toD).getD k default = x.toD := by rw [qat _ _ _ h, ← hx]
  have hst : t.threads.take (k + 1) = t.threads.take k ++ [x] := by rw [qa1 _ k h, ← hx]
  rw [hst]
  simp only [zU, seval, qam, q4n, (show (k:Int) < t.threads.length by omega), h, eg]
  repeat ((with_reducible refine And.intro ?_ ?_); (focus (first | omega | (simp only [qa2]; omega) | (refine qq ?_; rfl) | (refine dq ?_; kernel_rfl) | (intros; simp_all; done))))
  refine qah (qez l _ _ hl) ?_
  simp only [zU, seval, qam, q4n]
  refine ifC.mk (fun hc => ?_) (fun hc => ?_)
  ·have hc : qc8 l qau x.name = true := hc
   (try simp only [zU, seval, qam, q4n, Qig])
   rw [← Qno hc]
   refine qad [] [0, 1, 2, 3] rfl (by simp) ?_ ((quc _ [2, 3] _).trans rfl)
   simp only [zU, seval, qam, q4n, @qai ((k:Int) + 1) (by omega)]
   try rfl
  ·have hc : qc8 l qau x.name = false := hc
   rw [Qnp hc]
   refine qad [] [0, 1, 2, 3] rfl (by simp) ?_ ((quc _ [2, 3] _).trans rfl)
   simp only [zU, seval, qam, q4n, @qai ((k:Int) + 1) (by omega)]
   try rfl
 have : k = t.threads.length := by omega
 subst this
 obtain ⟨g, hgd⟩ : ∃ g, g = qft l t.threads := ⟨_, rfl⟩
 simp only [zU, seval, qam, q4n, (show ¬ (t.threads.length:Int) < t.threads.length by omega), List.take_length]
 rw [← hgd]
 refine Qr3 g _ (qs2 g (fun x => g x.id) (Qer g) t.threads (by omega)) rfl ?_
 simp only [zU, seval, qam, q4n]
 repeat ((with_reducible refine And.intro ?_ ?_); (focus (first | omega | (simp only [qa2]; omega) | (refine qq ?_; rfl) | (refine dq ?_; kernel_rfl) | (intros; simp_all; done))))
 refine cG g _ (qzh g (fun x => g x.ft || g x.tt) (Qnh g) t.flows (by omega)) rfl ?_
 simp only [zU, seval, qam, q4n]
 repeat ((with_reducible refine And.intro ?_ ?_); (focus (first | omega | (simp only [qa2]; omega) | (refine qq ?_; rfl) | (refine dq ?_; kernel_rfl) | (intros; simp_all; done))))
 refine cG g _ (qs3 g (fun x => g x.thread) (Qes g) t.samples (by omega)) rfl ?_
 simp only [zU, seval, qam, q4n]
 repeat ((with_reducible refine And.intro ?_ ?_); (focus (first | omega | (simp only [qa2]; omega) | (refine qq ?_; rfl) | (refine dq ?_; kernel_rfl) | (intros; simp_all; done))))
 refine cG g _ (qug g (fun x => g x.thread) (Qix g) t.blocks (by omega)) rfl ?_
 simp only [zU, seval, qam, q4n]
 repeat ((with_reducible refine And.intro ?_ ?_); (focus (first | omega | (simp only [qa2]; omega) | (refine qq ?_; rfl) | (refine dq ?_; kernel_rfl) | (intros; simp_all; done))))
 refine cG g _ (qzg g (fun x => g x.thread) (Qng g) t.lost (by omega)) rfl ?_
 simp only [zU, seval, qam, q4n]
 repeat ((with_reducible refine And.intro ?_ ?_); (focus (first | omega | (simp only [qa2]; omega) | (refine qq ?_; rfl) | (refine dq ?_; kernel_rfl) | (intros; simp_all; done))))
 refine cG g _ (Qez g (fun x => !g x.thread) (Qiw g) t.slices (by omega) hg) rfl ?_
 simp only [zU, seval, qam, q4n]
 repeat ((with_reducible refine And.intro ?_ ?_); (focus (first | omega | (simp only [qa2]; omega) | (refine qq ?_; rfl) | (refine dq ?_; kernel_rfl) | (intros; simp_all; done))))
 refine qyi [1] [.map (some .i64) (qa9 g)] (by simp) (by simp) (by show [qbu [1] _ (.map (some .i64) (qa9 g))] = _; rw [qbv]) rfl (hk1 (qcr g _)) (Qin g t.states (by omega)) ?_
 simp only [zU, seval, qam, q4n]
 repeat ((with_reducible refine And.intro ?_ ?_); (focus (first | omega | (simp only [qa2]; omega) | (refine qq ?_; rfl) | (refine dq ?_; kernel_rfl) | (intros; simp_all; done))))
 have ed : qga l t = { t with
   threads := t.threads.filter (fun x => !g x.id)
   flows := t.flows.filter (fun x => !(g x.ft || g x.tt))
   samples := t.samples.filter (fun x => !g x.thread)
   blocks := t.blocks.filter (fun x => !g x.thread)
   lost := t.lost.filter (fun x => !g x.thread)
   slices := qfu (chF (fun x => !g x.thread) t.slices).1
   states := qf3 g t.states } := by rw [hgd]; rfl
 rw [ed]
 refine ⟨_, _, qae [] [4] rfl (by simp) rfl rfl, ?_, ?_⟩
 ·rfl
 ·rfl

def qgv {α : Type} (f : α → α) (l : List α) (k : Nat) : List α := (l.take k).map f ++ l.drop k
theorem qg3 {α : Type} (f : α → α) (l : List α) (k : Nat) : (qgv f l k).length = l.length := by
 simp [qgv]; omega
theorem qfi {α : Type} (f : α → α) (l : List α) : qgv f l 0 = l := by simp [qgv]
theorem qg5 {α : Type} (f : α → α) (l : List α) : qgv f l l.length = l.map f := by simp [qgv]
theorem qg4 {α : Type} [Inhabited α] (f : α → α) {l : List α} {k : Nat} (h : k < l.length) : (qgv f l k).getD k default = l.getD k default := by
 rw [qgv, List.getD_eq_getElem?_getD, List.getElem?_append_right (by simp; omega)]
 simp [show min k l.length = k by omega]
theorem qg2 {α : Type} [Inhabited α] (f : α → α) {l : List α} {k : Nat} (h : k < l.length) : (qgv f l k).set k (f (l.getD k default)) = qgv f l (k + 1) := by
 rw [qgv, qgv, qa1 l k h, List.map_append, List.set_append_right _ _ (by simp; omega)]
 simp only [List.length_map, List.length_take, show min k l.length = k by omega, Nat.sub_self]
 rw [List.drop_eq_getElem_cons h, List.set_cons_zero]
 simp [h]
def frD (l : List qap) (s : List (List UInt8)) : List (List UInt8) := s.filter (fun x => !qc8 l qbc x)
theorem Qqv (l : List qap) (hl : l.length < 1000000) (s : List (List UInt8)) (hs : s.length < 1000000) : qaf Tryz.prog Gl 66 [.d (.sl (s.map .str)), .ptr 0 0] [.box 1 (.d (.sl (l.map qap.toD)))] (fun r σ => r = .d (.sl ((frD l s).map .str)) ∧ σ = [.box 1 (.d (.sl (l.map qap.toD)))]) := by
 refine qac Tryz.func66 rfl rfl (by simp [Tryz.ntmps66]) (qab rfl _ _ _ _ ?_)
 simp only [Tryz.ntmps66, Tryz.results66, qak, List.length_nil]
 simp only [zU, seval]
 refine qaq ((qze _ (fun x => qc8 l qbc x) (Qne l hl) s hs).mono fun r σ hr => ?_)
 obtain ⟨rfl, rfl⟩ := hr
 simp only [zU, seval]
 exact ⟨_, _, qae [] [0] rfl (by simp) (show qbf _ _ _ = AV.d _ from rfl) rfl, rfl, rfl⟩
def frS (l : List qap) (x : qan) : qan := { x with stack := frD l x.stack }
def Qfq (l : List qap) (x : qar) : qar := { x with stack := frD l x.stack }
def qkc (l : List qap) (t : qa4) : qa4 :=
 { t with
  slices := qfu (chF (fun x => !qc8 l qa6 x.name) t.slices).1
  samples := t.samples.map (frS l)
  blocks := t.blocks.map (Qfq l)
  steps := t.steps.filter (fun x => !qc8 l qav x.name) }
def qev (t : qa4) : AV := .agg [.d (.int .i64 t.lo), .d (.int .i64 t.hi), .osl 0 0 t.threads.length, .osl 1 0 t.slices.length, .d (.sl (t.states.map qax.toD)), .d (.sl (t.flows.map qbt.toD)), .osl 2 0 t.samples.length, .osl 3 0 t.steps.length, .osl 4 0 t.blocks.length, .d (.sl (t.lost.map qcc.toD))]
def Qhn (t : qa4) : Sto := [.arr 3 (t.threads.map qao.toD), .arr 8 (t.slices.map qag.toD), .arr 4 (t.samples.map qan.toD), .arr 3 (t.steps.map qbb.toD), .arr 7 (t.blocks.map qar.toD)]
def qa4.limS (t : qa4) : Prop := (∀ x ∈ t.samples, x.stack.length < 1000000) ∧ ∀ x ∈ t.blocks, x.stack.length < 1000000
theorem q45 (l : List qap) (t : qa4) (hl : l.length < 1000000) (ht : t.lim) (hs : t.limS) (hg : qgp t.slices) : qaf Tryz.prog Gl 42 [.d (.sl (l.map qap.toD)), Qrs t] [.arr 3 (t.threads.map qao.toD)]
  (fun r s => r = qev (qkc l t) ∧ s = Qhn (qkc l t)) := by
 obtain ⟨h1, h2, h3, h4, h5, h6, h7, h8⟩ := ht
 obtain ⟨rs, hrs⟩ : ∃ rs, rs = D.sl (l.map qap.toD) := ⟨_, rfl⟩
 refine qac Tryz.func42 rfl rfl (by simp [Tryz.ntmps42]) (qab rfl _ _ _ _ ?_)
 simp only [Tryz.ntmps42, Tryz.results42, qak, List.length_nil]
 simp only [zU, seval, Qrs]
 refine qtu [1] [.box 1 (.d (.sl (l.map qap.toD)))] (by simp) (by simp) rfl rfl (hk1 rfl) (Qey _ (fun x => !qc8 l qa6 x.name) (Qis l hl) t.slices (by omega) hg) ?_
 simp only [zU, seval]
 repeat ((with_reducible refine And.intro ?_ ?_); (focus (first | omega | (simp only [qa2]; omega) | (refine qq ?_; rfl) | (refine dq ?_; kernel_rfl) | (intros; simp_all; done))))
 refine qaq ((qlt t.samples (by omega) _).mono fun r s hr => ?_)
 obtain ⟨rfl, rfl⟩ := hr
 simp only [zU, seval]
 repeat ((with_reducible refine And.intro ?_ ?_); (focus (first | omega | (simp only [qa2]; omega) | (refine qq ?_; rfl) | (refine dq ?_; kernel_rfl) | (intros; simp_all; done))))
 obtain ⟨sl, hsl⟩ : ∃ sl, sl = qfu (chF (fun x => !qc8 l qa6 x.name) t.slices).1 := ⟨_, rfl⟩
 rw [← hsl]
 obtain ⟨R, hR⟩ : ∃ R, R = D.sl (l.map qap.toD) := ⟨_, rfl⟩
 rw [← hR]
 refine qa7 t.samples.length (fun k => [(2, .ptr 1 0), (3, .ptr 2 0), (4, .ptr 3 0), (5, .fn 66 [.ptr 1 0]), (21, .osl 5 0 t.samples.length), (22, .d (.int .i64 t.samples.length)), (23, .d (.int .i64 k))])
  (fun k => [.arr 3 (t.threads.map qao.toD), .box 1 (.d R), .box 10 (.agg [.d (.int .i64 t.lo), .d (.int .i64 t.hi), .osl 0 0 t.threads.length, .osl 4 0 sl.length, .d (.sl (t.states.map qax.toD)), .d (.sl (t.flows.map qbt.toD)), .osl 5 0 t.samples.length, .d (.sl (t.steps.map qbb.toD)), .d (.sl (t.blocks.map qar.toD)), .d (.sl (t.lost.map qcc.toD))]), .box 10 zT, .arr 8 (sl.map qag.toD), .arr 4 ((qgv (frS l) t.samples k).map qan.toD)]) (fun _ => True) trivial ?_ ?_
 ·refine qad [] [0, 1, 2, 3, 4, 5] rfl (by simp) ?_ ?_
  ·simp only [zU, seval]
   try rfl
  ·rw [qfi]; rfl
 intro k _ hk
 by_cases h : k < t.samples.length
 ·obtain ⟨x, hx⟩ : ∃ x, x = t.samples.getD k default := ⟨_, rfl⟩
  have hml := qg3 (frS l) t.samples k
  have eg : ((qgv (frS l) t.samples k).map qan.toD).getD k default = x.toD := by rw [qat _ _ _ (by omega), qg4 _ h, ← hx]
  have est : (qgv (frS l) t.samples k).set k (frS l x) = qgv (frS l) t.samples (k + 1) := by rw [hx, qg2 _ h]
  have hxs := hs.1 x (by rw [hx]; exact qct h)
  simp only [zU, seval, (show (k:Int) < t.samples.length by omega), h, eg, hml]
  repeat ((with_reducible refine And.intro ?_ ?_); (focus (first | omega | (simp only [qa2]; omega) | (refine qq ?_; rfl) | (refine dq ?_; kernel_rfl) | (intros; simp_all; done))))
  refine qdm 1 (Qqv l hl x.stack hxs) (fun s => rfl) (by rw [hR]; rfl) trivial ?_
  simp only [zU, seval, (show (k:Int) < t.samples.length by omega), h, eg, hml]
  refine qad [] [0, 1, 2, 3, 4, 5] rfl (by simp) ?_ ?_
  ·simp only [zU, seval, @qai ((k:Int) + 1) (by omega)]
   try rfl
  ·rw [← est, List.map_set]; rfl
 have : k = t.samples.length := by omega
 subst this
 obtain ⟨sa, hsa⟩ : ∃ sa, sa = t.samples.map (frS l) := ⟨_, rfl⟩
 have hsal : t.samples.length = sa.length := by rw [hsa, List.length_map]
 rw [qg5, ← hsa]
 simp only [zU, seval, (show ¬ (t.samples.length:Int) < t.samples.length by omega)]
 rw [hsal]
 refine qaq ((qox t.blocks (by omega) _).mono fun r s hr => ?_)
 obtain ⟨rfl, rfl⟩ := hr
 simp only [zU, seval]
 repeat ((with_reducible refine And.intro ?_ ?_); (focus (first | omega | (simp only [qa2]; omega) | (refine qq ?_; rfl) | (refine dq ?_; kernel_rfl) | (intros; simp_all; done))))
 refine qa7 t.blocks.length (fun k => [(2, .ptr 1 0), (3, .ptr 2 0), (4, .ptr 3 0), (5, .fn 66 [.ptr 1 0]), (43, .osl 6 0 t.blocks.length), (44, .d (.int .i64 t.blocks.length)), (45, .d (.int .i64 k))])
  (fun k => [.arr 3 (t.threads.map qao.toD), .box 1 (.d R), .box 10 (.agg [.d (.int .i64 t.lo), .d (.int .i64 t.hi), .osl 0 0 t.threads.length, .osl 4 0 sl.length, .d (.sl (t.states.map qax.toD)), .d (.sl (t.flows.map qbt.toD)), .osl 5 0 sa.length, .d (.sl (t.steps.map qbb.toD)), .osl 6 0 t.blocks.length, .d (.sl (t.lost.map qcc.toD))]), .box 10 zT, .arr 8 (sl.map qag.toD), .arr 4 (sa.map qan.toD), .arr 7 ((qgv (Qfq l) t.blocks k).map qar.toD)]) (fun _ => True) trivial ?_ ?_
 ·refine qad [] [0, 1, 2, 3, 4, 5, 6] rfl (by simp) ?_ ?_
  ·simp only [zU, seval]
   try rfl
  ·rw [qfi]; rfl
 intro k _ hk
 by_cases h : k < t.blocks.length
 ·obtain ⟨x, hx⟩ : ∃ x, x = t.blocks.getD k default := ⟨_, rfl⟩
  have hml := qg3 (Qfq l) t.blocks k
  have eg : ((qgv (Qfq l) t.blocks k).map qar.toD).getD k default = x.toD := by rw [qat _ _ _ (by omega), qg4 _ h, ← hx]
  have est : (qgv (Qfq l) t.blocks k).set k (Qfq l x) = qgv (Qfq l) t.blocks (k + 1) := by rw [hx, qg2 _ h]
  have hxs := hs.2 x (by rw [hx]; exact qct h)
  simp only [zU, seval, (show (k:Int) < t.blocks.length by omega), h, eg, hml]
  repeat ((with_reducible refine And.intro ?_ ?_); (focus (first | omega | (simp only [qa2]; omega) | (refine qq ?_; rfl) | (refine dq ?_; kernel_rfl) | (intros; simp_all; done))))
  refine qdm 1 (Qqv l hl x.stack hxs) (fun s => rfl) (by rw [hR]; rfl) trivial ?_
  simp only [zU, seval, (show (k:Int) < t.blocks.length by omega), h, eg, hml]
  refine qad [] [0, 1, 2, 3, 4, 5, 6] rfl (by simp) ?_ ?_
  ·simp only [zU, seval, @qai ((k:Int) + 1) (by omega)]
   try rfl
  ·rw [← est, List.map_set]; rfl
 have : k = t.blocks.length := by omega
 subst this
 obtain ⟨bl, hbl⟩ : ∃ bl, bl = t.blocks.map (Qfq l) := ⟨_, rfl⟩
 have hbll : t.blocks.length = bl.length := by rw [hbl, List.length_map]
 rw [qg5, ← hbl]
 simp only [zU, seval, (show ¬ (t.blocks.length:Int) < t.blocks.length by omega)]
 rw [hbll, hR]
 refine qtu [1] [.box 1 (.d (.sl (l.map qap.toD)))] (by simp) (by simp) rfl rfl (hk1 rfl) (qzf _ (fun x => qc8 l qav x.name) (Qnf l hl) t.steps (by omega)) ?_
 simp only [zU, seval]
 repeat ((with_reducible refine And.intro ?_ ?_); (focus (first | omega | (simp only [qa2]; omega) | (refine qq ?_; rfl) | (refine dq ?_; kernel_rfl) | (intros; simp_all; done))))
 have ed : qkc l t = { t with slices := sl, samples := sa, blocks := bl, steps := t.steps.filter (fun x => !qc8 l qav x.name) } := by rw [hsl, hsa, hbl]; rfl
 rw [ed]
 refine ⟨_, _, qae [] [0, 4, 5, 7, 6] rfl (by simp) rfl rfl, ?_, ?_⟩
 ·rfl
 ·rfl

def val (p : Bool) (i n : Nat) : Option AV := if p = true then some (.osl i 0 n) else none
def qb2 (a b c d : Option AV) : Key → Option AV
 | .s n => if n = qau then a else if n = qa6 then b else if n = qbc then c else if n = qav then d else none
 | .i _ => none
theorem qsy : (fun _ => none) = qb2 none none none none := by
 funext k; cases k <;> simp [qb2]
theorem qd3 : (D.raw (Value.slice none 0 0)).cells.length = 1 := rfl
theorem L1 (a b c d : Option AV) : qb2 a b c d (.s [116, 104, 114, 101, 97, 100]) = a := by simp [qb2, qau]
theorem L2 (a b c d : Option AV) : qb2 a b c d (.s [115, 108, 105, 99, 101]) = b := by simp [qb2, qau, qa6]
theorem L3 (a b c d : Option AV) : qb2 a b c d (.s [102, 114, 97, 109, 101]) = c := by simp [qb2, qau, qa6, qbc]
theorem L4 (a b c d : Option AV) : qb2 a b c d (.s [99, 111, 117, 110, 116, 101, 114]) = d := by simp [qb2, qau, qa6, qbc, qav]
theorem M1 (a b c d : Option AV) (v : AV) : qfx (qb2 a b c d) (.s [116, 104, 114, 101, 97, 100]) v = qb2 (some v) b c d := by
 funext k; cases k with
 | i n => simp [qfx, qb2]
 | s n => by_cases h : n = qau <;> simp [qfx, qb2, h, qau] <;> simp_all [qau]
theorem M2 (a b c d : Option AV) (v : AV) : qfx (qb2 a b c d) (.s [115, 108, 105, 99, 101]) v = qb2 a (some v) c d := by
 funext k; cases k with
 | i n => simp [qfx, qb2]
 | s n => by_cases h : n = qa6 <;> simp [qfx, qb2, h, qau, qa6] <;> simp_all [qa6]
theorem M3 (a b c d : Option AV) (v : AV) : qfx (qb2 a b c d) (.s [102, 114, 97, 109, 101]) v = qb2 a b (some v) d := by
 funext k; cases k with
 | i n => simp [qfx, qb2]
 | s n => by_cases h : n = qbc <;> simp [qfx, qb2, h, qau, qa6, qbc] <;> simp_all [qbc]
theorem M4 (a b c d : Option AV) (v : AV) : qfx (qb2 a b c d) (.s [99, 111, 117, 110, 116, 101, 114]) v = qb2 a b c (some v) := by
 funext k; cases k with
 | i n => simp [qfx, qb2]
 | s n => by_cases h : n = qav <;> simp [qfx, qb2, h, qau, qa6, qbc, qav] <;> simp_all [qav]
theorem qed (f : AV → AV) (a b c d : Option AV) : (fun k => (qb2 a b c d k).map f) = qb2 (a.map f) (b.map f) (c.map f) (d.map f) := by
 funext k; cases k with
 | i n => rfl
 | s n =>
  simp only [qb2]
  split
  ·rfl
  split
  ·rfl
  split
  ·rfl
  split
  ·rfl
  ·rfl
theorem qyt {ρ : List Nat} {σ : Sto} (p : Bool) {i j : Nat} (n : Nat) (h : qca ρ i = some j) : (val p i n).map (qbf ρ σ) = val p j n := by
 cases p with
 | false => rfl
 | true => show some (qbf ρ σ (.osl i 0 n)) = _; simp [qbf, qjd, h, val]
theorem qho {ρ : List Nat} {σ : Sto} (p1 p2 p3 p4 : Bool) (n1 n2 n3 n4 : Nat) {i1 i2 i3 i4 j1 j2 j3 j4 : Nat} (h1 : qca ρ i1 = some j1) (h2 : qca ρ i2 = some j2) (h3 : qca ρ i3 = some j3) (h4 : qca ρ i4 = some j4) :
  qbu ρ σ (.map none (qb2 (val p1 i1 n1) (val p2 i2 n2) (val p3 i3 n3) (val p4 i4 n4))) = .map none (qb2 (val p1 j1 n1) (val p2 j2 n2) (val p3 j3 n3) (val p4 j4 n4)) := by
 show Blk.map none _ = _
 rw [qed, qyt _ _ h1, qyt _ _ h2, qyt _ _ h3, qyt _ _ h4]
theorem qd2 {n m : Nat} {env : Env} {σ : Sto} (es : Nat) (hm : m ≤ σ.length) : qhn n m env σ env (σ ++ [.arr es []]) := fun w I μ a h1 h2 h3 => by
 obtain ⟨μ', a1, a2⟩ := h1.addNone es
 exact ⟨I, μ', a1, h2.keep a2, a2.mono hm⟩
theorem Qnq {l : List qan} (h : ∀ x ∈ l, x.stack.length < 1000000) : ((l.map (·.stack)).flatten).length ≤ l.length * 1000000 := by
 induction l with
 | nil => simp
 | cons x l ih =>
  have h1 := ih fun y hy => h y (List.mem_cons_of_mem _ hy)
  have h2 := h x List.mem_cons_self
  simp only [List.map_cons, List.flatten_cons, List.length_append, List.length_cons]; omega
theorem Qr2 {l : List qar} (h : ∀ x ∈ l, x.stack.length < 1000000) : ((l.map (·.stack)).flatten).length ≤ l.length * 1000000 := by
 induction l with
 | nil => simp
 | cons x l ih =>
  have h1 := ih fun y hy => h y (List.mem_cons_of_mem _ hy)
  have h2 := h x List.mem_cons_self
  simp only [List.map_cons, List.flatten_cons, List.length_append, List.length_cons]; omega
theorem Ql4 (x : qan) : (List.map (fun y : qan => y.stack) [x]).flatten = x.stack := by simp
theorem Qq1 (x : qar) : (List.map (fun y : qar => y.stack) [x]).flatten = x.stack := by simp
theorem Ql5 (l : List qan) : (List.map (fun y : qan => y.stack) (l.take 0)).flatten = [] := by simp
theorem Qq2 (l : List qar) : (List.map (fun y : qar => y.stack) (l.take 0)).flatten = [] := by simp
theorem qgd (i n : Nat) : val false i n = none := rfl
theorem qgc (i n : Nat) : val true i n = some (.osl i 0 n) := rfl
def frN (t : qa4) : List (List UInt8) := (t.samples.map (·.stack)).flatten ++ (t.blocks.map (·.stack)).flatten
def frK (t : qa4) (k : Nat) : List (List UInt8) := (t.samples.map (·.stack)).flatten ++ ((t.blocks.take k).map (·.stack)).flatten
theorem qpr (t : qa4) : frK t 0 = (t.samples.map (·.stack)).flatten := by rw [frK, Qq2, List.append_nil]
theorem q9e {t : qa4} {k : Nat} {x : qar} (h : t.blocks.take (k + 1) = t.blocks.take k ++ [x]) : frK t (k + 1) = frK t k ++ x.stack := by
 rw [frK, h, List.map_append, List.flatten_append, Qq1, ← List.append_assoc]; rfl
theorem Qfp (t : qa4) : frK t t.blocks.length = frN t := by rw [frK, List.take_length]; rfl
theorem Ql3 {t : qa4} (hs : t.limS) (k : Nat) : (frK t k).length ≤ t.samples.length * 1000000 + t.blocks.length * 1000000 := by
 have h1 := Qnq (l := t.samples) hs.1
 have h2 := Qr2 (l := t.blocks.take k) fun y hy => hs.2 y (List.mem_of_mem_take hy)
 rw [List.length_take] at h2
 rw [frK, List.length_append]
 have : min k t.blocks.length ≤ t.blocks.length := Nat.min_le_right _ _
 have := Nat.mul_le_mul_right 1000000 this
 omega
theorem Qip (t : qa4) (ht : t.lim) (hs : t.limS) : qaf Tryz.prog Gl 44 [qev t] [.arr 3 (t.threads.map qao.toD), .arr 8 (t.slices.map qag.toD), .arr 4 (t.samples.map qan.toD), .arr 3 (t.steps.map qbb.toD), .arr 7 (t.blocks.map qar.toD)]
  (fun r s => r = .mapr 5 ∧ s = [.arr 3 (t.threads.map qao.toD), .arr 8 (t.slices.map qag.toD), .arr 4 (t.samples.map qan.toD), .arr 3 (t.steps.map qbb.toD), .arr 7 (t.blocks.map qar.toD), .map none (qb2 (val (decide (0 < t.threads.length)) 6 t.threads.length) (val (decide (0 < t.slices.length)) 7 t.slices.length) (val (decide (0 < t.samples.length + t.blocks.length)) 8 (frN t).length) (val (decide (0 < t.steps.length)) 9 t.steps.length)),
   .arr 1 ((t.threads.map (·.name)).map .str), .arr 1 ((t.slices.map (·.name)).map .str), .arr 1 ((frN t).map .str), .arr 1 ((t.steps.map (·.name)).map .str)]) := by
 obtain ⟨h1, h2, h3, h4, h5, h6, h7, h8⟩ := ht
 refine qac Tryz.func44 rfl rfl (by simp [Tryz.ntmps44]) (qab rfl _ _ _ _ ?_)
 simp only [Tryz.ntmps44, Tryz.results44, qak, List.length_nil]
 simp only [zU, seval, L1, L2, L3, L4, M1, M2, M3, M4, qd3, qev]
 refine qa7 t.threads.length (fun k => [(1, .ptr 5 0), (3, .mapr 6), (16, .osl 0 0 t.threads.length), (17, .d (.int .i64 t.threads.length)), (18, .d (.int .i64 k))])
  (fun k => [.arr 3 (t.threads.map qao.toD), .arr 8 (t.slices.map qag.toD), .arr 4 (t.samples.map qan.toD), .arr 3 (t.steps.map qbb.toD), .arr 7 (t.blocks.map qar.toD), .box 10 (qev t), .map none (qb2 (val (decide (0 < k)) 7 k) (val false 8 0) (val false 9 0) (val false 10 0)), .arr 1 (((t.threads.take k).map (·.name)).map .str), .arr 1 (([] : List (List UInt8)).map .str), .arr 1 (([] : List (List UInt8)).map .str), .arr 1 (([] : List (List UInt8)).map .str)]) (fun _ => True) trivial ?_ ?_
 ·refine (qd2 1 (by simp)).trans ((qd2 1 (by simp)).trans ((qd2 1 (by simp)).trans ((qd2 1 (by simp)).trans ?_)))
  refine qad [] [0, 1, 2, 3, 4, 5, 6, 7, 8, 9, 10] rfl (by simp) ?_ ?_
  ·simp only [zU, seval, L1, L2, L3, L4, M1, M2, M3, M4, qd3]
   try rfl
  ·rw [qsy]
   show [_, _, _, _, _, _, qbu _ _ (.map none (qb2 (val false 7 0) (val false 8 0) (val false 9 0) (val false 10 0))), _, _, _, _] = _
   rw [qho _ _ _ _ _ _ _ _ rfl rfl rfl rfl]; rfl
 intro k _ hk
 by_cases h : k < t.threads.length
 ·obtain ⟨x, hx⟩ : ∃ x, x = t.threads.getD k default := ⟨_, rfl⟩
  have eg : (t.threads.map qao.toD).getD k default = x.toD := by rw [qat _ _ _ h, ← hx]
  have ht : t.threads.take (k + 1) = t.threads.take k ++ [x] := by rw [qa1 _ k h, ← hx]
  obtain ⟨p, hp⟩ : ∃ p, p = (decide (0 < k)) := ⟨_, rfl⟩
  rw [← hp]
  rw [ht, show (decide (0 < k + 1)) = true from decide_eq_true (by omega), List.map_append, List.map_append]
  skip
  cases p with
  | false =>
   have hk0 : k = 0 := by simpa using hp
   subst hk0
   simp only [zU, seval, L1, L2, L3, L4, M1, M2, M3, M4, qd3, (show (0:Int) < t.threads.length by omega), h, eg, qgc, qgd, Option.getD_some, Option.getD_none]
   repeat ((with_reducible refine And.intro ?_ ?_); (focus (first | omega | (simp only [qa2]; omega) | (refine qq ?_; rfl) | (refine dq ?_; kernel_rfl) | (intros; simp_all; done))))
   refine qad [] [0, 1, 2, 3, 4, 5, 6, 13, 8, 9, 10] rfl (by simp) ?_ ?_
   ·simp only [zU, seval, L1, L2, L3, L4, M1, M2, M3, M4, qd3, @qai ((1:Int)) (by omega)]
    try rfl
   ·show [_, _, _, _, _, _, qbu _ _ (.map none (qb2 (val true 13 1) (val false 8 0) (val false 9 0) (val false 10 0))), _, _, _, _] = _
    rw [qho _ _ _ _ _ _ _ _ rfl rfl rfl rfl]; rfl
  | true =>
   simp only [zU, seval, L1, L2, L3, L4, M1, M2, M3, M4, qd3, (show (k:Int) < t.threads.length by omega), h, eg, qgc, qgd, Option.getD_some, Option.getD_none, qba]
   repeat ((with_reducible refine And.intro ?_ ?_); (focus (first | omega | (simp only [qa2]; omega) | (refine qq ?_; rfl) | (refine dq ?_; kernel_rfl) | (intros; simp_all; done))))
   rw [show List.take k (((t.threads.take k).map (·.name)).map D.str) = ((t.threads.take k).map (·.name)).map D.str from List.take_of_length_le (by simp only [List.length_map, List.length_take]; omega)]
   refine qad [] [0, 1, 2, 3, 4, 5, 6, 13, 8, 9, 10] rfl (by simp) ?_ ?_
   ·simp only [zU, seval, L1, L2, L3, L4, M1, M2, M3, M4, qd3, @qai ((k:Int) + 1) (by omega)]
    try rfl
   ·show [_, _, _, _, _, _, qbu _ _ (.map none (qb2 (val true 13 (k + 1)) (val false 8 0) (val false 9 0) (val false 10 0))), _, _, _, _] = _
    rw [qho _ _ _ _ _ _ _ _ rfl rfl rfl rfl]; rfl
 have : k = t.threads.length := by omega
 subst this
 simp only [zU, seval, L1, L2, L3, L4, M1, M2, M3, M4, qd3, qev, (show ¬ (t.threads.length:Int) < t.threads.length by omega), List.take_length]
 refine qa7 t.slices.length (fun k => [(1, .ptr 5 0), (3, .mapr 6), (31, .osl 1 0 t.slices.length), (32, .d (.int .i64 t.slices.length)), (33, .d (.int .i64 k))])
  (fun k => [.arr 3 (t.threads.map qao.toD), .arr 8 (t.slices.map qag.toD), .arr 4 (t.samples.map qan.toD), .arr 3 (t.steps.map qbb.toD), .arr 7 (t.blocks.map qar.toD), .box 10 (qev t), .map none (qb2 (val (decide (0 < t.threads.length)) 7 t.threads.length) (val (decide (0 < k)) 8 k) (val false 9 0) (val false 10 0)), .arr 1 ((t.threads.map (·.name)).map .str), .arr 1 (((t.slices.take k).map (·.name)).map .str), .arr 1 (([] : List (List UInt8)).map .str), .arr 1 (([] : List (List UInt8)).map .str)]) (fun _ => True) trivial ?_ ?_
 ·refine qad [] [0, 1, 2, 3, 4, 5, 6, 7, 8, 9, 10] rfl (by simp) ?_ ?_
  ·simp only [zU, seval, L1, L2, L3, L4, M1, M2, M3, M4, qd3]
   try rfl
  ·show [_, _, _, _, _, _, qbu _ _ (.map none (qb2 (val (decide (0 < t.threads.length)) 7 t.threads.length) (val (decide (0 < 0)) 8 0) (val false 9 0) (val false 10 0))), _, _, _, _] = _
   rw [qho _ _ _ _ _ _ _ _ rfl rfl rfl rfl]; rfl
 intro k _ hk
 by_cases h : k < t.slices.length
 ·obtain ⟨x, hx⟩ : ∃ x, x = t.slices.getD k default := ⟨_, rfl⟩
  have eg : (t.slices.map qag.toD).getD k default = x.toD := by rw [qat _ _ _ h, ← hx]
  have ht : t.slices.take (k + 1) = t.slices.take k ++ [x] := by rw [qa1 _ k h, ← hx]
  obtain ⟨p, hp⟩ : ∃ p, p = (decide (0 < k)) := ⟨_, rfl⟩
  rw [← hp]
  rw [ht, show (decide (0 < k + 1)) = true from decide_eq_true (by omega), List.map_append, List.map_append]
  skip
  cases p with
  | false =>
   have hk0 : k = 0 := by simpa using hp
   subst hk0
   simp only [zU, seval, L1, L2, L3, L4, M1, M2, M3, M4, qd3, (show (0:Int) < t.slices.length by omega), h, eg, qgc, qgd, Option.getD_some, Option.getD_none]
   repeat ((with_reducible refine And.intro ?_ ?_); (focus (first | omega | (simp only [qa2]; omega) | (refine qq ?_; rfl) | (refine dq ?_; kernel_rfl) | (intros; simp_all; done))))
   refine qad [] [0, 1, 2, 3, 4, 5, 6, 7, 13, 9, 10] rfl (by simp) ?_ ?_
   ·simp only [zU, seval, L1, L2, L3, L4, M1, M2, M3, M4, qd3, @qai ((1:Int)) (by omega)]
    try rfl
   ·show [_, _, _, _, _, _, qbu _ _ (.map none (qb2 (val (decide (0 < t.threads.length)) 7 t.threads.length) (val true 13 1) (val false 9 0) (val false 10 0))), _, _, _, _] = _
    rw [qho _ _ _ _ _ _ _ _ rfl rfl rfl rfl]; rfl
  | true =>
   simp only [zU, seval, L1, L2, L3, L4, M1, M2, M3, M4, qd3, (show (k:Int) < t.slices.length by omega), h, eg, qgc, qgd, Option.getD_some, Option.getD_none, qba]
   repeat ((with_reducible refine And.intro ?_ ?_); (focus (first | omega | (simp only [qa2]; omega) | (refine qq ?_; rfl) | (refine dq ?_; kernel_rfl) | (intros; simp_all; done))))
   rw [show List.take k (((t.slices.take k).map (·.name)).map D.str) = ((t.slices.take k).map (·.name)).map D.str from List.take_of_length_le (by simp only [List.length_map, List.length_take]; omega)]
   refine qad [] [0, 1, 2, 3, 4, 5, 6, 7, 13, 9, 10] rfl (by simp) ?_ ?_
   ·simp only [zU, seval, L1, L2, L3, L4, M1, M2, M3, M4, qd3, @qai ((k:Int) + 1) (by omega)]
    try rfl
   ·show [_, _, _, _, _, _, qbu _ _ (.map none (qb2 (val (decide (0 < t.threads.length)) 7 t.threads.length) (val true 13 (k + 1)) (val false 9 0) (val false 10 0))), _, _, _, _] = _
    rw [qho _ _ _ _ _ _ _ _ rfl rfl rfl rfl]; rfl
 have : k = t.slices.length := by omega
 subst this
 simp only [zU, seval, L1, L2, L3, L4, M1, M2, M3, M4, qd3, qev, (show ¬ (t.slices.length:Int) < t.slices.length by omega), List.take_length]
 refine qa7 t.samples.length (fun k => [(1, .ptr 5 0), (3, .mapr 6), (46, .osl 2 0 t.samples.length), (47, .d (.int .i64 t.samples.length)), (48, .d (.int .i64 k))])
  (fun k => [.arr 3 (t.threads.map qao.toD), .arr 8 (t.slices.map qag.toD), .arr 4 (t.samples.map qan.toD), .arr 3 (t.steps.map qbb.toD), .arr 7 (t.blocks.map qar.toD), .box 10 (qev t), .map none (qb2 (val (decide (0 < t.threads.length)) 7 t.threads.length) (val (decide (0 < t.slices.length)) 8 t.slices.length) (val (decide (0 < k)) 9 (((t.samples.take k).map (·.stack)).flatten).length) (val false 10 0)), .arr 1 ((t.threads.map (·.name)).map .str), .arr 1 ((t.slices.map (·.name)).map .str), .arr 1 (((t.samples.take k).map (·.stack)).flatten.map .str), .arr 1 (([] : List (List UInt8)).map .str)]) (fun _ => True) trivial ?_ ?_
 ·refine qad [] [0, 1, 2, 3, 4, 5, 6, 7, 8, 9, 10] rfl (by simp) ?_ ?_
  ·simp only [zU, seval, L1, L2, L3, L4, M1, M2, M3, M4, qd3]
   try rfl
  ·show [_, _, _, _, _, _, qbu _ _ (.map none (qb2 (val (decide (0 < t.threads.length)) 7 t.threads.length) (val (decide (0 < t.slices.length)) 8 t.slices.length) (val (decide (0 < 0)) 9 0) (val false 10 0))), _, _, _, _] = _
   rw [qho _ _ _ _ _ _ _ _ rfl rfl rfl rfl]; rfl
 intro k _ hk
 by_cases h : k < t.samples.length
 ·obtain ⟨x, hx⟩ : ∃ x, x = t.samples.getD k default := ⟨_, rfl⟩
  have eg : (t.samples.map qan.toD).getD k default = x.toD := by rw [qat _ _ _ h, ← hx]
  have ht : t.samples.take (k + 1) = t.samples.take k ++ [x] := by rw [qa1 _ k h, ← hx]
  obtain ⟨p, hp⟩ : ∃ p, p = (decide (0 < k)) := ⟨_, rfl⟩
  rw [← hp]
  rw [ht, show (decide (0 < k + 1)) = true from decide_eq_true (by omega), List.map_append, List.flatten_append, Ql4, List.map_append]
  have hsx := hs.1 x (by rw [hx]; exact qct h)
  have hA := Qnq (l := t.samples.take k) fun y hy => hs.1 y (List.mem_of_mem_take hy)
  rw [List.length_take] at hA
  cases p with
  | false =>
   have hk0 : k = 0 := by simpa using hp
   subst hk0
   rw [Ql5, List.map_nil, List.nil_append]
   simp only [zU, seval, L1, L2, L3, L4, M1, M2, M3, M4, qd3, (show (0:Int) < t.samples.length by omega), h, eg, qgc, qgd, Option.getD_some, Option.getD_none]
   repeat ((with_reducible refine And.intro ?_ ?_); (focus (first | omega | (simp only [qa2]; omega) | (refine qq ?_; rfl) | (refine dq ?_; kernel_rfl) | (intros; simp_all; done))))
   refine qad [] [0, 1, 2, 3, 4, 5, 6, 7, 8, 12, 10] rfl (by simp) ?_ ?_
   ·simp only [zU, seval, L1, L2, L3, L4, M1, M2, M3, M4, qd3, @qai ((1:Int)) (by omega)]
    try rfl
   ·show [_, _, _, _, _, _, qbu _ _ (.map none (qb2 (val (decide (0 < t.threads.length)) 7 t.threads.length) (val (decide (0 < t.slices.length)) 8 t.slices.length) (val true 12 _) (val false 10 0))), _, _, _, _] = _
    rw [qho _ _ _ _ _ _ _ _ rfl rfl rfl rfl]; rfl
  | true =>
   simp only [zU, seval, L1, L2, L3, L4, M1, M2, M3, M4, qd3, (show (k:Int) < t.samples.length by omega), h, eg, qgc, qgd, Option.getD_some, Option.getD_none, qba]
   repeat ((with_reducible refine And.intro ?_ ?_); (focus (first | omega | (simp only [qa2]; omega) | (refine qq ?_; rfl) | (refine dq ?_; kernel_rfl) | (intros; simp_all; done))))
   refine qad [] [0, 1, 2, 3, 4, 5, 6, 7, 8, 12, 10] rfl (by simp) ?_ ?_
   ·simp only [zU, seval, L1, L2, L3, L4, M1, M2, M3, M4, qd3, @qai ((k:Int) + 1) (by omega)]
    try rfl
   ·show [_, _, _, _, _, _, qbu _ _ (.map none (qb2 (val (decide (0 < t.threads.length)) 7 t.threads.length) (val (decide (0 < t.slices.length)) 8 t.slices.length) (val true 12 _) (val false 10 0))), _, _, _, _] = _
    rw [qho _ _ _ _ _ _ _ _ rfl rfl rfl rfl]; rfl
 have : k = t.samples.length := by omega
 subst this
 simp only [zU, seval, L1, L2, L3, L4, M1, M2, M3, M4, qd3, qev, (show ¬ (t.samples.length:Int) < t.samples.length by omega), List.take_length]
 refine qa7 t.blocks.length (fun k => [(1, .ptr 5 0), (3, .mapr 6), (60, .osl 4 0 t.blocks.length), (61, .d (.int .i64 t.blocks.length)), (62, .d (.int .i64 k))])
  (fun k => [.arr 3 (t.threads.map qao.toD), .arr 8 (t.slices.map qag.toD), .arr 4 (t.samples.map qan.toD), .arr 3 (t.steps.map qbb.toD), .arr 7 (t.blocks.map qar.toD), .box 10 (qev t), .map none (qb2 (val (decide (0 < t.threads.length)) 7 t.threads.length) (val (decide (0 < t.slices.length)) 8 t.slices.length) (val (decide (0 < t.samples.length + k)) 9 (frK t k).length) (val false 10 0)), .arr 1 ((t.threads.map (·.name)).map .str), .arr 1 ((t.slices.map (·.name)).map .str), .arr 1 ((frK t k).map .str), .arr 1 (([] : List (List UInt8)).map .str)]) (fun _ => True) trivial ?_ ?_
 ·refine qad [] [0, 1, 2, 3, 4, 5, 6, 7, 8, 9, 10] rfl (by simp) ?_ ?_
  ·simp only [zU, seval, L1, L2, L3, L4, M1, M2, M3, M4, qd3]
   try rfl
  ·rw [qpr]
   show [_, _, _, _, _, _, qbu _ _ (.map none (qb2 (val (decide (0 < t.threads.length)) 7 t.threads.length) (val (decide (0 < t.slices.length)) 8 t.slices.length) (val (decide (0 < t.samples.length + 0)) 9 ((t.samples.map (·.stack)).flatten).length) (val false 10 0))), _, _, _, _] = _
   rw [qho _ _ _ _ _ _ _ _ rfl rfl rfl rfl]; rfl
 intro k _ hk
 by_cases h : k < t.blocks.length
 ·obtain ⟨x, hx⟩ : ∃ x, x = t.blocks.getD k default := ⟨_, rfl⟩
  have eg : (t.blocks.map qar.toD).getD k default = x.toD := by rw [qat _ _ _ h, ← hx]
  have ht : t.blocks.take (k + 1) = t.blocks.take k ++ [x] := by rw [qa1 _ k h, ← hx]
  obtain ⟨p, hp⟩ : ∃ p, p = (decide (0 < t.samples.length + k)) := ⟨_, rfl⟩
  rw [← hp]
  rw [show (decide (0 < t.samples.length + (k + 1))) = true from decide_eq_true (by omega), q9e ht, List.map_append]
  have hsx := hs.2 x (by rw [hx]; exact qct h)
  have hA := Ql3 hs k
  cases p with
  | false =>
   have hp2 : ¬ 0 < t.samples.length + k := by intro hq; rw [decide_eq_true hq] at hp; cases hp
   have hk0 : t.samples.length = 0 ∧ k = 0 := by omega
   obtain ⟨hk1, rfl⟩ := hk0
   have e0 : frK t 0 = [] := by rw [qpr, List.eq_nil_of_length_eq_zero hk1]; simp
   rw [e0, List.map_nil, List.nil_append]
   simp only [zU, seval, L1, L2, L3, L4, M1, M2, M3, M4, qd3, (show (0:Int) < t.blocks.length by omega), h, eg, qgc, qgd, Option.getD_some, Option.getD_none]
   repeat ((with_reducible refine And.intro ?_ ?_); (focus (first | omega | (simp only [qa2]; omega) | (refine qq ?_; rfl) | (refine dq ?_; kernel_rfl) | (intros; simp_all; done))))
   refine qad [] [0, 1, 2, 3, 4, 5, 6, 7, 8, 12, 10] rfl (by simp) ?_ ?_
   ·simp only [zU, seval, L1, L2, L3, L4, M1, M2, M3, M4, qd3, @qai ((1:Int)) (by omega)]
    try rfl
   ·show [_, _, _, _, _, _, qbu _ _ (.map none (qb2 (val (decide (0 < t.threads.length)) 7 t.threads.length) (val (decide (0 < t.slices.length)) 8 t.slices.length) (val true 12 _) (val false 10 0))), _, _, _, _] = _
    rw [qho _ _ _ _ _ _ _ _ rfl rfl rfl rfl]; rfl
  | true =>
   simp only [zU, seval, L1, L2, L3, L4, M1, M2, M3, M4, qd3, (show (k:Int) < t.blocks.length by omega), h, eg, qgc, qgd, Option.getD_some, Option.getD_none, qba]
   repeat ((with_reducible refine And.intro ?_ ?_); (focus (first | omega | (simp only [qa2]; omega) | (refine qq ?_; rfl) | (refine dq ?_; kernel_rfl) | (intros; simp_all; done))))
   refine qad [] [0, 1, 2, 3, 4, 5, 6, 7, 8, 12, 10] rfl (by simp) ?_ ?_
   ·simp only [zU, seval, L1, L2, L3, L4, M1, M2, M3, M4, qd3, @qai ((k:Int) + 1) (by omega)]
    try rfl
   ·show [_, _, _, _, _, _, qbu _ _ (.map none (qb2 (val (decide (0 < t.threads.length)) 7 t.threads.length) (val (decide (0 < t.slices.length)) 8 t.slices.length) (val true 12 _) (val false 10 0))), _, _, _, _] = _
    rw [qho _ _ _ _ _ _ _ _ rfl rfl rfl rfl]; rfl
 have : k = t.blocks.length := by omega
 subst this
 rw [Qfp]
 simp only [zU, seval, L1, L2, L3, L4, M1, M2, M3, M4, qd3, qev, (show ¬ (t.blocks.length:Int) < t.blocks.length by omega), List.take_length]
 refine qa7 t.steps.length (fun k => [(1, .ptr 5 0), (3, .mapr 6), (74, .osl 3 0 t.steps.length), (75, .d (.int .i64 t.steps.length)), (76, .d (.int .i64 k))])
  (fun k => [.arr 3 (t.threads.map qao.toD), .arr 8 (t.slices.map qag.toD), .arr 4 (t.samples.map qan.toD), .arr 3 (t.steps.map qbb.toD), .arr 7 (t.blocks.map qar.toD), .box 10 (qev t), .map none (qb2 (val (decide (0 < t.threads.length)) 7 t.threads.length) (val (decide (0 < t.slices.length)) 8 t.slices.length) (val (decide (0 < t.samples.length + t.blocks.length)) 9 (frN t).length) (val (decide (0 < k)) 10 k)), .arr 1 ((t.threads.map (·.name)).map .str), .arr 1 ((t.slices.map (·.name)).map .str), .arr 1 ((frN t).map .str), .arr 1 (((t.steps.take k).map (·.name)).map .str)]) (fun _ => True) trivial ?_ ?_
 ·refine qad [] [0, 1, 2, 3, 4, 5, 6, 7, 8, 9, 10] rfl (by simp) ?_ ?_
  ·simp only [zU, seval, L1, L2, L3, L4, M1, M2, M3, M4, qd3]
   try rfl
  ·show [_, _, _, _, _, _, qbu _ _ (.map none (qb2 (val (decide (0 < t.threads.length)) 7 t.threads.length) (val (decide (0 < t.slices.length)) 8 t.slices.length) (val (decide (0 < t.samples.length + t.blocks.length)) 9 (frN t).length) (val (decide (0 < 0)) 10 0))), _, _, _, _] = _
   rw [qho _ _ _ _ _ _ _ _ rfl rfl rfl rfl]; rfl
 intro k _ hk
 by_cases h : k < t.steps.length
 ·obtain ⟨x, hx⟩ : ∃ x, x = t.steps.getD k default := ⟨_, rfl⟩
  have eg : (t.steps.map qbb.toD).getD k default = x.toD := by rw [qat _ _ _ h, ← hx]
  have ht : t.steps.take (k + 1) = t.steps.take k ++ [x] := by rw [qa1 _ k h, ← hx]
  obtain ⟨p, hp⟩ : ∃ p, p = (decide (0 < k)) := ⟨_, rfl⟩
  rw [← hp]
  rw [ht, show (decide (0 < k + 1)) = true from decide_eq_true (by omega), List.map_append, List.map_append]
  skip
  cases p with
  | false =>
   have hk0 : k = 0 := by simpa using hp
   subst hk0
   simp only [zU, seval, L1, L2, L3, L4, M1, M2, M3, M4, qd3, (show (0:Int) < t.steps.length by omega), h, eg, qgc, qgd, Option.getD_some, Option.getD_none]
   repeat ((with_reducible refine And.intro ?_ ?_); (focus (first | omega | (simp only [qa2]; omega) | (refine qq ?_; rfl) | (refine dq ?_; kernel_rfl) | (intros; simp_all; done))))
   refine qad [] [0, 1, 2, 3, 4, 5, 6, 7, 8, 9, 13] rfl (by simp) ?_ ?_
   ·simp only [zU, seval, L1, L2, L3, L4, M1, M2, M3, M4, qd3, @qai ((1:Int)) (by omega)]
    try rfl
   ·show [_, _, _, _, _, _, qbu _ _ (.map none (qb2 (val (decide (0 < t.threads.length)) 7 t.threads.length) (val (decide (0 < t.slices.length)) 8 t.slices.length) (val (decide (0 < t.samples.length + t.blocks.length)) 9 (frN t).length) (val true 13 1))), _, _, _, _] = _
    rw [qho _ _ _ _ _ _ _ _ rfl rfl rfl rfl]; rfl
  | true =>
   simp only [zU, seval, L1, L2, L3, L4, M1, M2, M3, M4, qd3, (show (k:Int) < t.steps.length by omega), h, eg, qgc, qgd, Option.getD_some, Option.getD_none, qba]
   repeat ((with_reducible refine And.intro ?_ ?_); (focus (first | omega | (simp only [qa2]; omega) | (refine qq ?_; rfl) | (refine dq ?_; kernel_rfl) | (intros; simp_all; done))))
   rw [show List.take k (((t.steps.take k).map (·.name)).map D.str) = ((t.steps.take k).map (·.name)).map D.str from List.take_of_length_le (by simp only [List.length_map, List.length_take]; omega)]
   refine qad [] [0, 1, 2, 3, 4, 5, 6, 7, 8, 9, 13] rfl (by simp) ?_ ?_
   ·simp only [zU, seval, L1, L2, L3, L4, M1, M2, M3, M4, qd3, @qai ((k:Int) + 1) (by omega)]
    try rfl
   ·show [_, _, _, _, _, _, qbu _ _ (.map none (qb2 (val (decide (0 < t.threads.length)) 7 t.threads.length) (val (decide (0 < t.slices.length)) 8 t.slices.length) (val (decide (0 < t.samples.length + t.blocks.length)) 9 (frN t).length) (val true 13 (k + 1)))), _, _, _, _] = _
    rw [qho _ _ _ _ _ _ _ _ rfl rfl rfl rfl]; rfl
 have : k = t.steps.length := by omega
 subst this
 simp only [zU, seval, L1, L2, L3, L4, M1, M2, M3, M4, qd3, qev, (show ¬ (t.steps.length:Int) < t.steps.length by omega), List.take_length]
 refine ⟨_, _, qae [] [0, 1, 2, 3, 4, 6, 7, 8, 9, 10] rfl (by simp) rfl (?_ : qdb _ _ = [.arr 3 (t.threads.map qao.toD), .arr 8 (t.slices.map qag.toD), .arr 4 (t.samples.map qan.toD), .arr 3 (t.steps.map qbb.toD), .arr 7 (t.blocks.map qar.toD), .map none (qb2 (val (decide (0 < t.threads.length)) 6 t.threads.length) (val (decide (0 < t.slices.length)) 7 t.slices.length) (val (decide (0 < t.samples.length + t.blocks.length)) 8 (frN t).length) (val (decide (0 < t.steps.length)) 9 t.steps.length)), .arr 1 ((t.threads.map (·.name)).map .str), .arr 1 ((t.slices.map (·.name)).map .str), .arr 1 ((frN t).map .str), .arr 1 ((t.steps.map (·.name)).map .str)]), rfl, rfl⟩
 show [_, _, _, _, _, qbu _ _ (.map none (qb2 (val (decide (0 < t.threads.length)) 7 t.threads.length) (val (decide (0 < t.slices.length)) 8 t.slices.length) (val (decide (0 < t.samples.length + t.blocks.length)) 9 (frN t).length) (val (decide (0 < t.steps.length)) 10 t.steps.length))), _, _, _, _] = _
 rw [qho _ _ _ _ _ _ _ _ rfl rfl rfl rfl]; rfl
theorem Qir (t : qa4) (ht : t.lim) (hs : t.limS) : qaf Tryz.prog Gl 44 [.d t.toD] []
  (fun r s => r = .mapr 0 ∧ s = [.map none (qb2 (val (decide (0 < t.threads.length)) 1 t.threads.length) (val (decide (0 < t.slices.length)) 2 t.slices.length) (val (decide (0 < t.samples.length + t.blocks.length)) 3 (frN t).length) (val (decide (0 < t.steps.length)) 4 t.steps.length)),
   .arr 1 ((t.threads.map (·.name)).map .str), .arr 1 ((t.slices.map (·.name)).map .str), .arr 1 ((frN t).map .str), .arr 1 ((t.steps.map (·.name)).map .str)]) := by
 obtain ⟨h1, h2, h3, h4, h5, h6, h7, h8⟩ := ht
 refine qac Tryz.func44 rfl rfl (by simp [Tryz.ntmps44]) (qab rfl _ _ _ _ ?_)
 simp only [Tryz.ntmps44, Tryz.results44, qak, List.length_nil]
 simp only [zU, seval, L1, L2, L3, L4, M1, M2, M3, M4, qd3, qev]
 refine qa7 t.threads.length (fun k => [(1, .ptr 0 0), (3, .mapr 1), (16, .d (.sl (t.threads.map qao.toD))), (17, .d (.int .i64 t.threads.length)), (18, .d (.int .i64 k))])
  (fun k => [.box 10 (.d t.toD), .map none (qb2 (val (decide (0 < k)) 2 k) (val false 3 0) (val false 4 0) (val false 5 0)), .arr 1 (((t.threads.take k).map (·.name)).map .str), .arr 1 (([] : List (List UInt8)).map .str), .arr 1 (([] : List (List UInt8)).map .str), .arr 1 (([] : List (List UInt8)).map .str)]) (fun _ => True) trivial ?_ ?_
 ·refine (qd2 1 (by simp)).trans ((qd2 1 (by simp)).trans ((qd2 1 (by simp)).trans ((qd2 1 (by simp)).trans ?_)))
  refine qad [] [0, 1, 2, 3, 4, 5] rfl (by simp) ?_ ?_
  ·simp only [zU, seval, L1, L2, L3, L4, M1, M2, M3, M4, qd3]
   try rfl
  ·rw [qsy]
   show [_, qbu _ _ (.map none (qb2 (val false 2 0) (val false 3 0) (val false 4 0) (val false 5 0))), _, _, _, _] = _
   rw [qho _ _ _ _ _ _ _ _ rfl rfl rfl rfl]; rfl
 intro k _ hk
 by_cases h : k < t.threads.length
 ·obtain ⟨x, hx⟩ : ∃ x, x = t.threads.getD k default := ⟨_, rfl⟩
  have eg : (t.threads.map qao.toD).getD k default = x.toD := by rw [qat _ _ _ h, ← hx]
  have ht : t.threads.take (k + 1) = t.threads.take k ++ [x] := by rw [qa1 _ k h, ← hx]
  obtain ⟨p, hp⟩ : ∃ p, p = (decide (0 < k)) := ⟨_, rfl⟩
  rw [← hp]
  rw [ht, show (decide (0 < k + 1)) = true from decide_eq_true (by omega), List.map_append, List.map_append]
  skip
  cases p with
  | false =>
   have hk0 : k = 0 := by simpa using hp
   subst hk0
   simp only [zU, seval, L1, L2, L3, L4, M1, M2, M3, M4, qd3, (show (0:Int) < t.threads.length by omega), h, eg, qgc, qgd, Option.getD_some, Option.getD_none]
   repeat ((with_reducible refine And.intro ?_ ?_); (focus (first | omega | (simp only [qa2]; omega) | (refine qq ?_; rfl) | (refine dq ?_; kernel_rfl) | (intros; simp_all; done))))
   refine qad [] [0, 1, 8, 3, 4, 5] rfl (by simp) ?_ ?_
   ·simp only [zU, seval, L1, L2, L3, L4, M1, M2, M3, M4, qd3, @qai ((1:Int)) (by omega)]
    try rfl
   ·show [_, qbu _ _ (.map none (qb2 (val true 8 1) (val false 3 0) (val false 4 0) (val false 5 0))), _, _, _, _] = _
    rw [qho _ _ _ _ _ _ _ _ rfl rfl rfl rfl]; rfl
  | true =>
   simp only [zU, seval, L1, L2, L3, L4, M1, M2, M3, M4, qd3, (show (k:Int) < t.threads.length by omega), h, eg, qgc, qgd, Option.getD_some, Option.getD_none, qba]
   repeat ((with_reducible refine And.intro ?_ ?_); (focus (first | omega | (simp only [qa2]; omega) | (refine qq ?_; rfl) | (refine dq ?_; kernel_rfl) | (intros; simp_all; done))))
   rw [show List.take k (((t.threads.take k).map (·.name)).map D.str) = ((t.threads.take k).map (·.name)).map D.str from List.take_of_length_le (by simp only [List.length_map, List.length_take]; omega)]
   refine qad [] [0, 1, 8, 3, 4, 5] rfl (by simp) ?_ ?_
   ·simp only [zU, seval, L1, L2, L3, L4, M1, M2, M3, M4, qd3, @qai ((k:Int) + 1) (by omega)]
    try rfl
   ·show [_, qbu _ _ (.map none (qb2 (val true 8 (k + 1)) (val false 3 0) (val false 4 0) (val false 5 0))), _, _, _, _] = _
    rw [qho _ _ _ _ _ _ _ _ rfl rfl rfl rfl]; rfl
 have : k = t.threads.length := by omega
 subst this
 simp only [zU, seval, L1, L2, L3, L4, M1, M2, M3, M4, qd3, qev, (show ¬ (t.threads.length:Int) < t.threads.length by omega), List.take_length]
 refine qa7 t.slices.length (fun k => [(1, .ptr 0 0), (3, .mapr 1), (31, .d (.sl (t.slices.map qag.toD))), (32, .d (.int .i64 t.slices.length)), (33, .d (.int .i64 k))])
  (fun k => [.box 10 (.d t.toD), .map none (qb2 (val (decide (0 < t.threads.length)) 2 t.threads.length) (val (decide (0 < k)) 3 k) (val false 4 0) (val false 5 0)), .arr 1 ((t.threads.map (·.name)).map .str), .arr 1 (((t.slices.take k).map (·.name)).map .str), .arr 1 (([] : List (List UInt8)).map .str), .arr 1 (([] : List (List UInt8)).map .str)]) (fun _ => True) trivial ?_ ?_
 ·refine qad [] [0, 1, 2, 3, 4, 5] rfl (by simp) ?_ ?_
  ·simp only [zU, seval, L1, L2, L3, L4, M1, M2, M3, M4, qd3]
   try rfl
  ·show [_, qbu _ _ (.map none (qb2 (val (decide (0 < t.threads.length)) 2 t.threads.length) (val (decide (0 < 0)) 3 0) (val false 4 0) (val false 5 0))), _, _, _, _] = _
   rw [qho _ _ _ _ _ _ _ _ rfl rfl rfl rfl]; rfl
 intro k _ hk
 by_cases h : k < t.slices.length
 ·obtain ⟨x, hx⟩ : ∃ x, x = t.slices.getD k default := ⟨_, rfl⟩
  have eg : (t.slices.map qag.toD).getD k default = x.toD := by rw [qat _ _ _ h, ← hx]
  have ht : t.slices.take (k + 1) = t.slices.take k ++ [x] := by rw [qa1 _ k h, ← hx]
  obtain ⟨p, hp⟩ : ∃ p, p = (decide (0 < k)) := ⟨_, rfl⟩
  rw [← hp]
  rw [ht, show (decide (0 < k + 1)) = true from decide_eq_true (by omega), List.map_append, List.map_append]
  skip
  cases p with
  | false =>
   have hk0 : k = 0 := by simpa using hp
   subst hk0
   simp only [zU, seval, L1, L2, L3, L4, M1, M2, M3, M4, qd3, (show (0:Int) < t.slices.length by omega), h, eg, qgc, qgd, Option.getD_some, Option.getD_none]
   repeat ((with_reducible refine And.intro ?_ ?_); (focus (first | omega | (simp only [qa2]; omega) | (refine qq ?_; rfl) | (refine dq ?_; kernel_rfl) | (intros; simp_all; done))))
   refine qad [] [0, 1, 2, 8, 4, 5] rfl (by simp) ?_ ?_
   ·simp only [zU, seval, L1, L2, L3, L4, M1, M2, M3, M4, qd3, @qai ((1:Int)) (by omega)]
    try rfl
   ·show [_, qbu _ _ (.map none (qb2 (val (decide (0 < t.threads.length)) 2 t.threads.length) (val true 8 1) (val false 4 0) (val false 5 0))), _, _, _, _] = _
    rw [qho _ _ _ _ _ _ _ _ rfl rfl rfl rfl]; rfl
  | true =>
   simp only [zU, seval, L1, L2, L3, L4, M1, M2, M3, M4, qd3, (show (k:Int) < t.slices.length by omega), h, eg, qgc, qgd, Option.getD_some, Option.getD_none, qba]
   repeat ((with_reducible refine And.intro ?_ ?_); (focus (first | omega | (simp only [qa2]; omega) | (refine qq ?_; rfl) | (refine dq ?_; kernel_rfl) | (intros; simp_all; done))))
   rw [show List.take k (((t.slices.take k).map (·.name)).map D.str) = ((t.slices.take k).map (·.name)).map D.str from List.take_of_length_le (by simp only [List.length_map, List.length_take]; omega)]
   refine qad [] [0, 1, 2, 8, 4, 5] rfl (by simp) ?_ ?_
   ·simp only [zU, seval, L1, L2, L3, L4, M1, M2, M3, M4, qd3, @qai ((k:Int) + 1) (by omega)]
    try rfl
   ·show [_, qbu _ _ (.map none (qb2 (val (decide (0 < t.threads.length)) 2 t.threads.length) (val true 8 (k + 1)) (val false 4 0) (val false 5 0))), _, _, _, _] = _
    rw [qho _ _ _ _ _ _ _ _ rfl rfl rfl rfl]; rfl
 have : k = t.slices.length := by omega
 subst this
 simp only [zU, seval, L1, L2, L3, L4, M1, M2, M3, M4, qd3, qev, (show ¬ (t.slices.length:Int) < t.slices.length by omega), List.take_length]
 refine qa7 t.samples.length (fun k => [(1, .ptr 0 0), (3, .mapr 1), (46, .d (.sl (t.samples.map qan.toD))), (47, .d (.int .i64 t.samples.length)), (48, .d (.int .i64 k))])
  (fun k => [.box 10 (.d t.toD), .map none (qb2 (val (decide (0 < t.threads.length)) 2 t.threads.length) (val (decide (0 < t.slices.length)) 3 t.slices.length) (val (decide (0 < k)) 4 (((t.samples.take k).map (·.stack)).flatten).length) (val false 5 0)), .arr 1 ((t.threads.map (·.name)).map .str), .arr 1 ((t.slices.map (·.name)).map .str), .arr 1 (((t.samples.take k).map (·.stack)).flatten.map .str), .arr 1 (([] : List (List UInt8)).map .str)]) (fun _ => True) trivial ?_ ?_
 ·refine qad [] [0, 1, 2, 3, 4, 5] rfl (by simp) ?_ ?_
  ·simp only [zU, seval, L1, L2, L3, L4, M1, M2, M3, M4, qd3]
   try rfl
  ·show [_, qbu _ _ (.map none (qb2 (val (decide (0 < t.threads.length)) 2 t.threads.length) (val (decide (0 < t.slices.length)) 3 t.slices.length) (val (decide (0 < 0)) 4 0) (val false 5 0))), _, _, _, _] = _
   rw [qho _ _ _ _ _ _ _ _ rfl rfl rfl rfl]; rfl
 intro k _ hk
 by_cases h : k < t.samples.length
 ·obtain ⟨x, hx⟩ : ∃ x, x = t.samples.getD k default := ⟨_, rfl⟩
  have eg : (t.samples.map qan.toD).getD k default = x.toD := by rw [qat _ _ _ h, ← hx]
  have ht : t.samples.take (k + 1) = t.samples.take k ++ [x] := by rw [qa1 _ k h, ← hx]
  obtain ⟨p, hp⟩ : ∃ p, p = (decide (0 < k)) := ⟨_, rfl⟩
  rw [← hp]
  rw [ht, show (decide (0 < k + 1)) = true from decide_eq_true (by omega), List.map_append, List.flatten_append, Ql4, List.map_append]
  have hsx := hs.1 x (by rw [hx]; exact qct h)
  have hA := Qnq (l := t.samples.take k) fun y hy => hs.1 y (List.mem_of_mem_take hy)
  rw [List.length_take] at hA
  cases p with
  | false =>
   have hk0 : k = 0 := by simpa using hp
   subst hk0
   rw [Ql5, List.map_nil, List.nil_append]
   simp only [zU, seval, L1, L2, L3, L4, M1, M2, M3, M4, qd3, (show (0:Int) < t.samples.length by omega), h, eg, qgc, qgd, Option.getD_some, Option.getD_none]
   repeat ((with_reducible refine And.intro ?_ ?_); (focus (first | omega | (simp only [qa2]; omega) | (refine qq ?_; rfl) | (refine dq ?_; kernel_rfl) | (intros; simp_all; done))))
   refine qad [] [0, 1, 2, 3, 7, 5] rfl (by simp) ?_ ?_
   ·simp only [zU, seval, L1, L2, L3, L4, M1, M2, M3, M4, qd3, @qai ((1:Int)) (by omega)]
    try rfl
   ·show [_, qbu _ _ (.map none (qb2 (val (decide (0 < t.threads.length)) 2 t.threads.length) (val (decide (0 < t.slices.length)) 3 t.slices.length) (val true 7 _) (val false 5 0))), _, _, _, _] = _
    rw [qho _ _ _ _ _ _ _ _ rfl rfl rfl rfl]; rfl
  | true =>
   simp only [zU, seval, L1, L2, L3, L4, M1, M2, M3, M4, qd3, (show (k:Int) < t.samples.length by omega), h, eg, qgc, qgd, Option.getD_some, Option.getD_none, qba]
   repeat ((with_reducible refine And.intro ?_ ?_); (focus (first | omega | (simp only [qa2]; omega) | (refine qq ?_; rfl) | (refine dq ?_; kernel_rfl) | (intros; simp_all; done))))
   refine qad [] [0, 1, 2, 3, 7, 5] rfl (by simp) ?_ ?_
   ·simp only [zU, seval, L1, L2, L3, L4, M1, M2, M3, M4, qd3, @qai ((k:Int) + 1) (by omega)]
    try rfl
   ·show [_, qbu _ _ (.map none (qb2 (val (decide (0 < t.threads.length)) 2 t.threads.length) (val (decide (0 < t.slices.length)) 3 t.slices.length) (val true 7 _) (val false 5 0))), _, _, _, _] = _
    rw [qho _ _ _ _ _ _ _ _ rfl rfl rfl rfl]; rfl
 have : k = t.samples.length := by omega
 subst this
 simp only [zU, seval, L1, L2, L3, L4, M1, M2, M3, M4, qd3, qev, (show ¬ (t.samples.length:Int) < t.samples.length by omega), List.take_length]
 refine qa7 t.blocks.length (fun k => [(1, .ptr 0 0), (3, .mapr 1), (60, .d (.sl (t.blocks.map qar.toD))), (61, .d (.int .i64 t.blocks.length)), (62, .d (.int .i64 k))])
  (fun k => [.box 10 (.d t.toD), .map none (qb2 (val (decide (0 < t.threads.length)) 2 t.threads.length) (val (decide (0 < t.slices.length)) 3 t.slices.length) (val (decide (0 < t.samples.length + k)) 4 (frK t k).length) (val false 5 0)), .arr 1 ((t.threads.map (·.name)).map .str), .arr 1 ((t.slices.map (·.name)).map .str), .arr 1 ((frK t k).map .str), .arr 1 (([] : List (List UInt8)).map .str)]) (fun _ => True) trivial ?_ ?_
 ·refine qad [] [0, 1, 2, 3, 4, 5] rfl (by simp) ?_ ?_
  ·simp only [zU, seval, L1, L2, L3, L4, M1, M2, M3, M4, qd3]
   try rfl
  ·rw [qpr]
   show [_, qbu _ _ (.map none (qb2 (val (decide (0 < t.threads.length)) 2 t.threads.length) (val (decide (0 < t.slices.length)) 3 t.slices.length) (val (decide (0 < t.samples.length + 0)) 4 ((t.samples.map (·.stack)).flatten).length) (val false 5 0))), _, _, _, _] = _
   rw [qho _ _ _ _ _ _ _ _ rfl rfl rfl rfl]; rfl
 intro k _ hk
 by_cases h : k < t.blocks.length
 ·obtain ⟨x, hx⟩ : ∃ x, x = t.blocks.getD k default := ⟨_, rfl⟩
  have eg : (t.blocks.map qar.toD).getD k default = x.toD := by rw [qat _ _ _ h, ← hx]
  have ht : t.blocks.take (k + 1) = t.blocks.take k ++ [x] := by rw [qa1 _ k h, ← hx]
  obtain ⟨p, hp⟩ : ∃ p, p = (decide (0 < t.samples.length + k)) := ⟨_, rfl⟩
  rw [← hp]
  rw [show (decide (0 < t.samples.length + (k + 1))) = true from decide_eq_true (by omega), q9e ht, List.map_append]
  have hsx := hs.2 x (by rw [hx]; exact qct h)
  have hA := Ql3 hs k
  cases p with
  | false =>
   have hp2 : ¬ 0 < t.samples.length + k := by intro hq; rw [decide_eq_true hq] at hp; cases hp
   have hk0 : t.samples.length = 0 ∧ k = 0 := by omega
   obtain ⟨hk1, rfl⟩ := hk0
   have e0 : frK t 0 = [] := by rw [qpr, List.eq_nil_of_length_eq_zero hk1]; simp
   rw [e0, List.map_nil, List.nil_append]
   simp only [zU, seval, L1, L2, L3, L4, M1, M2, M3, M4, qd3, (show (0:Int) < t.blocks.length by omega), h, eg, qgc, qgd, Option.getD_some, Option.getD_none]
   repeat ((with_reducible refine And.intro ?_ ?_); (focus (first | omega | (simp only [qa2]; omega) | (refine qq ?_; rfl) | (refine dq ?_; kernel_rfl) | (intros; simp_all; done))))
   refine qad [] [0, 1, 2, 3, 7, 5] rfl (by simp) ?_ ?_
   ·simp only [zU, seval, L1, L2, L3, L4, M1, M2, M3, M4, qd3, @qai ((1:Int)) (by omega)]
    try rfl
   ·show [_, qbu _ _ (.map none (qb2 (val (decide (0 < t.threads.length)) 2 t.threads.length) (val (decide (0 < t.slices.length)) 3 t.slices.length) (val true 7 _) (val false 5 0))), _, _, _, _] = _
    rw [qho _ _ _ _ _ _ _ _ rfl rfl rfl rfl]; rfl
  | true =>
   simp only [zU, seval, L1, L2, L3, L4, M1, M2, M3, M4, qd3, (show (k:Int) < t.blocks.length by omega), h, eg, qgc, qgd, Option.getD_some, Option.getD_none, qba]
   repeat ((with_reducible refine And.intro ?_ ?_); (focus (first | omega | (simp only [qa2]; omega) | (refine qq ?_; rfl) | (refine dq ?_; kernel_rfl) | (intros; simp_all; done))))
   refine qad [] [0, 1, 2, 3, 7, 5] rfl (by simp) ?_ ?_
   ·simp only [zU, seval, L1, L2, L3, L4, M1, M2, M3, M4, qd3, @qai ((k:Int) + 1) (by omega)]
    try rfl
   ·show [_, qbu _ _ (.map none (qb2 (val (decide (0 < t.threads.length)) 2 t.threads.length) (val (decide (0 < t.slices.length)) 3 t.slices.length) (val true 7 _) (val false 5 0))), _, _, _, _] = _
    rw [qho _ _ _ _ _ _ _ _ rfl rfl rfl rfl]; rfl
 have : k = t.blocks.length := by omega
 subst this
 rw [Qfp]
 simp only [zU, seval, L1, L2, L3, L4, M1, M2, M3, M4, qd3, qev, (show ¬ (t.blocks.length:Int) < t.blocks.length by omega), List.take_length]
 refine qa7 t.steps.length (fun k => [(1, .ptr 0 0), (3, .mapr 1), (74, .d (.sl (t.steps.map qbb.toD))), (75, .d (.int .i64 t.steps.length)), (76, .d (.int .i64 k))])
  (fun k => [.box 10 (.d t.toD), .map none (qb2 (val (decide (0 < t.threads.length)) 2 t.threads.length) (val (decide (0 < t.slices.length)) 3 t.slices.length) (val (decide (0 < t.samples.length + t.blocks.length)) 4 (frN t).length) (val (decide (0 < k)) 5 k)), .arr 1 ((t.threads.map (·.name)).map .str), .arr 1 ((t.slices.map (·.name)).map .str), .arr 1 ((frN t).map .str), .arr 1 (((t.steps.take k).map (·.name)).map .str)]) (fun _ => True) trivial ?_ ?_
 ·refine qad [] [0, 1, 2, 3, 4, 5] rfl (by simp) ?_ ?_
  ·simp only [zU, seval, L1, L2, L3, L4, M1, M2, M3, M4, qd3]
   try rfl
  ·show [_, qbu _ _ (.map none (qb2 (val (decide (0 < t.threads.length)) 2 t.threads.length) (val (decide (0 < t.slices.length)) 3 t.slices.length) (val (decide (0 < t.samples.length + t.blocks.length)) 4 (frN t).length) (val (decide (0 < 0)) 5 0))), _, _, _, _] = _
   rw [qho _ _ _ _ _ _ _ _ rfl rfl rfl rfl]; rfl
 intro k _ hk
 by_cases h : k < t.steps.length
 ·obtain ⟨x, hx⟩ : ∃ x, x = t.steps.getD k default := ⟨_, rfl⟩
  have eg : (t.steps.map qbb.toD).getD k default = x.toD := by rw [qat _ _ _ h, ← hx]
  have ht : t.steps.take (k + 1) = t.steps.take k ++ [x] := by rw [qa1 _ k h, ← hx]
  obtain ⟨p, hp⟩ : ∃ p, p = (decide (0 < k)) := ⟨_, rfl⟩
  rw [← hp]
  rw [ht, show (decide (0 < k + 1)) = true from decide_eq_true (by omega), List.map_append, List.map_append]
  skip
  cases p with
  | false =>
   have hk0 : k = 0 := by simpa using hp
   subst hk0
   simp only [zU, seval, L1, L2, L3, L4, M1, M2, M3, M4, qd3, (show (0:Int) < t.steps.length by omega), h, eg, qgc, qgd, Option.getD_some, Option.getD_none]
   repeat ((with_reducible refine And.intro ?_ ?_); (focus (first | omega | (simp only [qa2]; omega) | (refine qq ?_; rfl) | (refine dq ?_; kernel_rfl) | (intros; simp_all; done))))
   refine qad [] [0, 1, 2, 3, 4, 8] rfl (by simp) ?_ ?_
   ·simp only [zU, seval, L1, L2, L3, L4, M1, M2, M3, M4, qd3, @qai ((1:Int)) (by omega)]
    try rfl
   ·show [_, qbu _ _ (.map none (qb2 (val (decide (0 < t.threads.length)) 2 t.threads.length) (val (decide (0 < t.slices.length)) 3 t.slices.length) (val (decide (0 < t.samples.length + t.blocks.length)) 4 (frN t).length) (val true 8 1))), _, _, _, _] = _
    rw [qho _ _ _ _ _ _ _ _ rfl rfl rfl rfl]; rfl
  | true =>
   simp only [zU, seval, L1, L2, L3, L4, M1, M2, M3, M4, qd3, (show (k:Int) < t.steps.length by omega), h, eg, qgc, qgd, Option.getD_some, Option.getD_none, qba]
   repeat ((with_reducible refine And.intro ?_ ?_); (focus (first | omega | (simp only [qa2]; omega) | (refine qq ?_; rfl) | (refine dq ?_; kernel_rfl) | (intros; simp_all; done))))
   rw [show List.take k (((t.steps.take k).map (·.name)).map D.str) = ((t.steps.take k).map (·.name)).map D.str from List.take_of_length_le (by simp only [List.length_map, List.length_take]; omega)]
   refine qad [] [0, 1, 2, 3, 4, 8] rfl (by simp) ?_ ?_
   ·simp only [zU, seval, L1, L2, L3, L4, M1, M2, M3, M4, qd3, @qai ((k:Int) + 1) (by omega)]
    try rfl
   ·show [_, qbu _ _ (.map none (qb2 (val (decide (0 < t.threads.length)) 2 t.threads.length) (val (decide (0 < t.slices.length)) 3 t.slices.length) (val (decide (0 < t.samples.length + t.blocks.length)) 4 (frN t).length) (val true 8 (k + 1)))), _, _, _, _] = _
    rw [qho _ _ _ _ _ _ _ _ rfl rfl rfl rfl]; rfl
 have : k = t.steps.length := by omega
 subst this
 simp only [zU, seval, L1, L2, L3, L4, M1, M2, M3, M4, qd3, qev, (show ¬ (t.steps.length:Int) < t.steps.length by omega), List.take_length]
 refine ⟨_, _, qae [] [1, 2, 3, 4, 5] rfl (by simp) rfl (?_ : qdb _ _ = [.map none (qb2 (val (decide (0 < t.threads.length)) 1 t.threads.length) (val (decide (0 < t.slices.length)) 2 t.slices.length) (val (decide (0 < t.samples.length + t.blocks.length)) 3 (frN t).length) (val (decide (0 < t.steps.length)) 4 t.steps.length)), .arr 1 ((t.threads.map (·.name)).map .str), .arr 1 ((t.slices.map (·.name)).map .str), .arr 1 ((frN t).map .str), .arr 1 ((t.steps.map (·.name)).map .str)]), rfl, rfl⟩
 show [qbu _ _ (.map none (qb2 (val (decide (0 < t.threads.length)) 2 t.threads.length) (val (decide (0 < t.slices.length)) 3 t.slices.length) (val (decide (0 < t.samples.length + t.blocks.length)) 4 (frN t).length) (val (decide (0 < t.steps.length)) 5 t.steps.length))), _, _, _, _] = _
 rw [qho _ _ _ _ _ _ _ _ rfl rfl rfl rfl]; rfl

theorem Qgh (a b : Int) : quk b a = -quk a b := by
 rcases qi2 a b with h | h | h <;> rcases qi2 b a with g | g | g <;> omega
theorem Qgg (a b : List UInt8) : q4c b a = -q4c a b := by
 rcases qej a b with ⟨h1, h2, h3, h4⟩ | ⟨h1, h2, h3, h4⟩ | ⟨h1, h2, h3, h4⟩
 ·rcases qej b a with ⟨g1, _, _, _⟩ | ⟨_, g2, _, _⟩ | ⟨_, _, _, g4⟩
  ·rw [h3] at g1; cases g1
  ·exact absurd g2.symm h2
  ·omega
 ·subst h2; omega
 ·rcases qej b a with ⟨_, _, _, g4⟩ | ⟨_, g2, _, _⟩ | ⟨g1, _, _, _⟩
  ·omega
  ·exact absurd g2.symm h2
  ·rw [h3] at g1; cases g1
theorem Qjl {a b : Int} : quk a b ≤ 0 ↔ a ≤ b := by
 rcases qi2 a b with h | h | h <;> omega
structure Pre {α : Type} (c : α → α → Int) : Prop where
 self : ∀ a, c a a = 0
 anti : ∀ a b, c b a = -c a b
 trans : ∀ a b d, c a b ≤ 0 → c b d ≤ 0 → c a d ≤ 0
theorem Pre.strict {α : Type} {c : α → α → Int} (h : Pre c) {a b d : α} (h1 : c a b ≤ 0) (h2 : c b d ≤ 0) (h3 : c a b < 0 ∨ c b d < 0) : c a d < 0 := by
 have h4 := h.trans a b d h1 h2
 rcases Int.lt_or_le (c a d) 0 with h5 | h5
 ·exact h5
 exfalso
 have h6 : c d a ≤ 0 := by rw [h.anti a d]; omega
 rcases h3 with h3 | h3
 ·have := h.trans b d a h2 h6
  rw [h.anti a b] at this; omega
 ·have := h.trans d a b h6 h1
  rw [h.anti b d] at this; omega
theorem Pre.lex {α : Type} {f c : α → α → Int} (hf : Pre f) (hc : Pre c) : Pre (fun a b => if f a b = 0 then c a b else f a b) := by
 refine ⟨fun a => ?_, fun a b => ?_, fun a b d h1 h2 => ?_⟩
 ·simp only [hf.self, hc.self, if_true]
 ·rw [hf.anti a b, hc.anti a b]
  by_cases e : f a b = 0
  ·rw [if_pos (by omega), if_pos e]
  ·rw [if_neg (by omega), if_neg e]
 ·by_cases e1 : f a b = 0
  ·rw [if_pos e1] at h1
   by_cases e2 : f b d = 0
   ·rw [if_pos e2] at h2
    have q1 := hf.trans a b d (by omega) (by omega)
    have q2 := hf.trans d b a (by rw [hf.anti b d]; omega) (by rw [hf.anti a b]; omega)
    rw [hf.anti a d] at q2
    rw [if_pos (by omega)]
    exact hc.trans a b d h1 h2
   ·rw [if_neg e2] at h2
    have := hf.strict (a := a) (b := b) (d := d) (by omega) h2 (.inr (by omega))
    rw [if_neg (by omega)]; omega
  ·rw [if_neg e1] at h1
   have h3 : f b d ≤ 0 := by
    by_cases e2 : f b d = 0
    ·omega
    ·rw [if_neg e2] at h2; exact h2
   have := hf.strict (a := a) (b := b) (d := d) h1 h3 (.inl (by omega))
   rw [if_neg (by omega)]; omega
theorem Pre.zero {α : Type} : Pre (fun _ _ : α => (0 : Int)) := ⟨fun _ => rfl, fun _ _ => rfl, fun _ _ _ _ _ => Int.le_refl 0⟩
theorem Pre.comap {α β : Type} {c : α → α → Int} (h : Pre c) (g : β → α) : Pre (fun a b => c (g a) (g b)) := ⟨fun a => h.self _, fun a b => h.anti _ _, fun a b d => h.trans _ _ _⟩
theorem Qm4 : Pre quk := ⟨fun a => by rcases qi2 a a with ⟨h, _⟩ | ⟨_, h⟩ | ⟨h, _⟩ <;> omega, Qgh, fun a b d h1 h2 => by rw [Qjl] at *; omega⟩
theorem Qm3 : Pre q4c := by
 refine ⟨fun a => ?_, Qgg, fun a b d h1 h2 => ?_⟩
 ·rcases qej a a with ⟨_, h, _⟩ | ⟨_, _, _, h⟩ | ⟨_, h, _⟩
  ·exact absurd rfl h
  ·exact h
  ·exact absurd rfl h
 ·rcases qej a b with ⟨a1, a2, a3, a4⟩ | ⟨a1, a2, a3, a4⟩ | ⟨a1, a2, a3, a4⟩
  ·rcases qej b d with ⟨b1, b2, b3, b4⟩ | ⟨b1, b2, b3, b4⟩ | ⟨b1, b2, b3, b4⟩
   ·have := qz2 a1 b1
    rcases qej a d with ⟨c1, c2, c3, c4⟩ | ⟨c1, c2, c3, c4⟩ | ⟨c1, c2, c3, c4⟩
    ·omega
    ·omega
    ·rw [show ltS a d = true from this] at c1; cases c1
   ·subst b2; exact h1
   ·omega
  ·subst a2; exact h2
  ·omega
theorem qix : Pre qhk := by
 have h := (Qm3.comap (fun x : qbb => x.name)).lex (Qm4.comap (fun x : qbb => x.at_))
 exact h
def unT (d : D) : qbb := match d with | .agg [.str n, .int _ a, .int _ v] => ⟨n, a, v⟩ | _ => default
def DmT (d : D) : Prop := ∃ x : qbb, d = x.toD
def Qrp (a b : D) : Int := qhk (unT a) (unT b)
theorem Qsh : Swo DmT (fun x y => decide (Qrp x y < 0)) := by
 refine ⟨fun x _ => ?_, fun x y z _ _ _ h1 h2 => ?_, fun x y z _ _ _ h1 h2 => ?_⟩
 ·rw [Qrp, qix.self]; rfl
 ·have h1 : qhk (unT x) (unT y) < 0 := of_decide_eq_true h1
  have h2 : qhk (unT y) (unT z) < 0 := of_decide_eq_true h2
  exact decide_eq_true (show qhk (unT x) (unT z) < 0 from qix.strict (by omega) (by omega) (.inl h1))
 ·have h1 : ¬ qhk (unT x) (unT y) < 0 := of_decide_eq_false h1
  have h2 : ¬ qhk (unT y) (unT z) < 0 := of_decide_eq_false h2
  refine decide_eq_false (show ¬ qhk (unT x) (unT z) < 0 from ?_)
  have a1 := qix.anti (unT x) (unT y)
  have a2 := qix.anti (unT y) (unT z)
  have a3 := qix.anti (unT x) (unT z)
  have := qix.trans (unT z) (unT y) (unT x) (by omega) (by omega)
  omega
theorem Qej (a b : qbb) : qbw Tryz.prog Gl 86 [.d a.toD, .d b.toD] (.d (.int .i64 (qhk a b))) := by
 refine qbw.of2 ?_
 refine qac Tryz.func86 rfl rfl (by simp [Tryz.ntmps86]) (qab rfl _ _ _ _ ?_)
 simp only [Tryz.ntmps86, Tryz.results86, qak, List.length_nil]
 simp only [zU, seval]
 refine ⟨.inl (by kernel_rfl), qah (qx2 _ _) ?_⟩
 simp only [zU, seval]
 refine qah (qin _ _) ?_
 simp only [zU, seval]
 repeat ((with_reducible refine And.intro ?_ ?_); (focus (first | omega | (simp only [qa2]; omega) | (refine qq ?_; rfl) | (refine dq ?_; kernel_rfl) | (intros; simp_all; done))))
 refine ql5 2 (fun B hB => Qr1 [q4c a.name b.name, quk a.at_ b.at_] (by simp) B hB) (fun _ => rfl) rfl ?_
 rw [Qdk]
 simp only [zU, seval]
 exact ⟨_, _, qa0, rfl, rfl⟩
theorem Qra : q59 Gl [] DmT Qrp 86 [] := by
 refine ⟨fun d hd => ?_, fun a b ha hb ys s hs => ?_, Qsh⟩
 ·obtain ⟨x, rfl⟩ := hd
  exact ⟨rfl, rfl⟩
 ·obtain ⟨x, rfl⟩ := ha
  obtain ⟨y, rfl⟩ := hb
  exact Qej x y s
def ltT (a b : qbb) : Bool := decide (qhk a b < 0)
theorem q41 (l : List qbb) (hl : l.length < 1000000) : qaf Tryz.prog Gl 85 [.osl 0 0 l.length, .fn 86 []] [.arr 3 (l.map qbb.toD)]
  (fun r s => r = .tup [] ∧ s = [.arr 3 ((qj0 ltT l).map qbb.toD)]) := by
 have hx : ∀ y ∈ l.map qbb.toD, DmT y := fun y hy => by
  obtain ⟨x, hx, rfl⟩ := List.mem_map.1 hy
  exact ⟨x, rfl⟩
 have hsort := qqe (Gl := Gl) (τ := []) DmT Qrp 86 [] Qra (l.map qbb.toD) hx l.length (by simp) (by omega)
 refine hsort.mono fun r s hss => ?_
 obtain ⟨rfl, zs, ρ, rfl, hA, hB, hid⟩ := hss
 refine ⟨rfl, ?_⟩
 have e := qyy Qsh hx (by simp) hA hB hid
 rw [qba, q0n, List.drop_of_length_le (by simp), List.append_nil] at e
 rw [e]; rfl

theorem qcb (g : List UInt8 → Option (List UInt8)) (n : List UInt8) : (qby g (.s n)).getD (.d (.str [])) = .d (.str ((g n).getD [])) := by
 simp only [qby]; cases g n <;> rfl
def nmT (g : List UInt8 → Option (List UInt8)) (x : qao) : qao := { x with name := (g x.name).getD [] }
def nmS (g : List UInt8 → Option (List UInt8)) (x : qag) : qag := { x with name := (g x.name).getD [] }
def nmA (g : List UInt8 → Option (List UInt8)) (x : qan) : qan := { x with stack := q37 g x.stack }
def nmB (g : List UInt8 → Option (List UInt8)) (x : qar) : qar := { x with stack := q37 g x.stack }
def nmC (g : List UInt8 → Option (List UInt8)) (x : qbb) : qbb := { x with name := (g x.name).getD [] }
def Qmx (g1 g2 g3 g4 : List UInt8 → Option (List UInt8)) (t : qa4) : qa4 :=
 { t with threads := t.threads.map (nmT g1), slices := t.slices.map (nmS g2), samples := t.samples.map (nmA g3), blocks := t.blocks.map (nmB g3), steps := qj0 ltT (t.steps.map (nmC g4)) }
theorem qey (g : List UInt8 → Option (List UInt8)) (ρ : List Nat) (σ : Sto) : qbu ρ σ (.map none (qby g)) = .map none (qby g) := qgf (B := .map none (qby g)) (qxv g) ρ σ
theorem Qgs (g : List UInt8 → Option (List UInt8)) (b : Nat → Nat) : qc3 b (.map none (qby g)) = .map none (qby g) := qgg (B := .map none (qby g)) (qxv g) b
theorem qjc (R : List D) (g1 g2 g3 g4 : List UInt8 → Option (List UInt8)) (x0 x1 x2 x3 x4 : List D) (v w : AV) (σ : Sto) (hv : qbu [0, 1, 2, 3, 4, 5, 6, 7, 8, 9, 10, 11, 12, 13, 14, 15] (.arr 3 x0 :: .arr 8 x1 :: .arr 4 x2 :: .arr 3 x3 :: .arr 7 x4 :: .map none (qb2 (some (.ptr 6 0)) (some (.ptr 8 0)) (some (.ptr 10 0)) (some (.ptr 12 0))) :: .box 3 (.agg [.d (.sl R), .d (.str qau), .mapr 7]) :: .map none (qby g1) :: .box 3 (.agg [.d (.sl R), .d (.str qa6), .mapr 9]) :: .map none (qby g2) :: .box 3 (.agg [.d (.sl R), .d (.str qbc), .mapr 11]) :: .map none (qby g3) :: .box 3 (.agg [.d (.sl R), .d (.str qav), .mapr 13]) :: .map none (qby g4) :: .box 10 v :: .box 10 w :: σ) (.box 10 v) = .box 10 v)
  (hw : qbu [0, 1, 2, 3, 4, 5, 6, 7, 8, 9, 10, 11, 12, 13, 14, 15] (.arr 3 x0 :: .arr 8 x1 :: .arr 4 x2 :: .arr 3 x3 :: .arr 7 x4 :: .map none (qb2 (some (.ptr 6 0)) (some (.ptr 8 0)) (some (.ptr 10 0)) (some (.ptr 12 0))) :: .box 3 (.agg [.d (.sl R), .d (.str qau), .mapr 7]) :: .map none (qby g1) :: .box 3 (.agg [.d (.sl R), .d (.str qa6), .mapr 9]) :: .map none (qby g2) :: .box 3 (.agg [.d (.sl R), .d (.str qbc), .mapr 11]) :: .map none (qby g3) :: .box 3 (.agg [.d (.sl R), .d (.str qav), .mapr 13]) :: .map none (qby g4) :: .box 10 v :: .box 10 w :: σ) (.box 10 w) = .box 10 w) :
  qdb [0, 1, 2, 3, 4, 5, 6, 7, 8, 9, 10, 11, 12, 13, 14, 15] (freezeL (.arr 3 x0 :: .arr 8 x1 :: .arr 4 x2 :: .arr 3 x3 :: .arr 7 x4 :: .map none (qb2 (some (.ptr 6 0)) (some (.ptr 8 0)) (some (.ptr 10 0)) (some (.ptr 12 0))) :: .box 3 (.agg [.d (.sl R), .d (.str qau), .mapr 7]) :: .map none (qby g1) :: .box 3 (.agg [.d (.sl R), .d (.str qa6), .mapr 9]) :: .map none (qby g2) :: .box 3 (.agg [.d (.sl R), .d (.str qbc), .mapr 11]) :: .map none (qby g3) :: .box 3 (.agg [.d (.sl R), .d (.str qav), .mapr 13]) :: .map none (qby g4) :: .box 10 v :: .box 10 w :: σ) []) = [.arr 3 x0, .arr 8 x1, .arr 4 x2, .arr 3 x3, .arr 7 x4, .map none (qb2 (some (.ptr 6 0)) (some (.ptr 8 0)) (some (.ptr 10 0)) (some (.ptr 12 0))), .box 3 (.agg [.d (.sl R), .d (.str qau), .mapr 7]), .map none (qby g1), .box 3 (.agg [.d (.sl R), .d (.str qa6), .mapr 9]), .map none (qby g2), .box 3 (.agg [.d (.sl R), .d (.str qbc), .mapr 11]), .map none (qby g3), .box 3 (.agg [.d (.sl R), .d (.str qav), .mapr 13]), .map none (qby g4), .box 10 v, .box 10 w] := by
 show [_, _, _, _, _, .map none (fun k => (qb2 (some (.ptr 6 0)) (some (.ptr 8 0)) (some (.ptr 10 0)) (some (.ptr 12 0)) k).map (qbf _ _)), _, qbu _ _ (.map none (qby g1)), _, qbu _ _ (.map none (qby g2)), _, qbu _ _ (.map none (qby g3)), _, qbu _ _ (.map none (qby g4)), qbu _ _ (.box 10 v), qbu _ _ (.box 10 w)] = _
 rw [qed, qey, qey, qey, qey]
 show [_, _, _, _, _, _, _, _, _, _, _, _, _, _, qbu [0, 1, 2, 3, 4, 5, 6, 7, 8, 9, 10, 11, 12, 13, 14, 15] (.arr 3 x0 :: .arr 8 x1 :: .arr 4 x2 :: .arr 3 x3 :: .arr 7 x4 :: .map none (qb2 (some (.ptr 6 0)) (some (.ptr 8 0)) (some (.ptr 10 0)) (some (.ptr 12 0))) :: .box 3 (.agg [.d (.sl R), .d (.str qau), .mapr 7]) :: .map none (qby g1) :: .box 3 (.agg [.d (.sl R), .d (.str qa6), .mapr 9]) :: .map none (qby g2) :: .box 3 (.agg [.d (.sl R), .d (.str qbc), .mapr 11]) :: .map none (qby g3) :: .box 3 (.agg [.d (.sl R), .d (.str qav), .mapr 13]) :: .map none (qby g4) :: .box 10 v :: .box 10 w :: σ) (.box 10 v), qbu [0, 1, 2, 3, 4, 5, 6, 7, 8, 9, 10, 11, 12, 13, 14, 15] (.arr 3 x0 :: .arr 8 x1 :: .arr 4 x2 :: .arr 3 x3 :: .arr 7 x4 :: .map none (qb2 (some (.ptr 6 0)) (some (.ptr 8 0)) (some (.ptr 10 0)) (some (.ptr 12 0))) :: .box 3 (.agg [.d (.sl R), .d (.str qau), .mapr 7]) :: .map none (qby g1) :: .box 3 (.agg [.d (.sl R), .d (.str qa6), .mapr 9]) :: .map none (qby g2) :: .box 3 (.agg [.d (.sl R), .d (.str qbc), .mapr 11]) :: .map none (qby g3) :: .box 3 (.agg [.d (.sl R), .d (.str qav), .mapr 13]) :: .map none (qby g4) :: .box 10 v :: .box 10 w :: σ) (.box 10 w)] = _
 rw [hv, hw]; rfl
theorem Qm0 (R : List D) (g1 g2 g3 g4 : List UInt8 → Option (List UInt8)) (x0 x1 x2 x3 x4 : List D) (σ : Sto) :
  qdb [0, 1, 2, 3, 4, 5, 6, 7, 8, 9, 10, 11, 12, 13] (freezeL (.arr 3 x0 :: .arr 8 x1 :: .arr 4 x2 :: .arr 3 x3 :: .arr 7 x4 :: .map none (qb2 (some (.ptr 6 0)) (some (.ptr 8 0)) (some (.ptr 10 0)) (some (.ptr 12 0))) :: .box 3 (.agg [.d (.sl R), .d (.str qau), .mapr 7]) :: .map none (qby g1) :: .box 3 (.agg [.d (.sl R), .d (.str qa6), .mapr 9]) :: .map none (qby g2) :: .box 3 (.agg [.d (.sl R), .d (.str qbc), .mapr 11]) :: .map none (qby g3) :: .box 3 (.agg [.d (.sl R), .d (.str qav), .mapr 13]) :: .map none (qby g4) :: σ) []) = [.arr 3 x0, .arr 8 x1, .arr 4 x2, .arr 3 x3, .arr 7 x4, .map none (qb2 (some (.ptr 6 0)) (some (.ptr 8 0)) (some (.ptr 10 0)) (some (.ptr 12 0))), .box 3 (.agg [.d (.sl R), .d (.str qau), .mapr 7]), .map none (qby g1), .box 3 (.agg [.d (.sl R), .d (.str qa6), .mapr 9]), .map none (qby g2), .box 3 (.agg [.d (.sl R), .d (.str qbc), .mapr 11]), .map none (qby g3), .box 3 (.agg [.d (.sl R), .d (.str qav), .mapr 13]), .map none (qby g4)] := by
 show [_, _, _, _, _, .map none (fun k => (qb2 (some (.ptr 6 0)) (some (.ptr 8 0)) (some (.ptr 10 0)) (some (.ptr 12 0)) k).map (qbf _ _)), _, qbu _ _ (.map none (qby g1)), _, qbu _ _ (.map none (qby g2)), _, qbu _ _ (.map none (qby g3)), _, qbu _ _ (.map none (qby g4))] = _
 rw [qed, qey, qey, qey, qey]
 rfl
theorem Qat (R : List D) (g1 g2 g3 g4 : List UInt8 → Option (List UInt8)) (t : qa4) (ht : t.lim) (hs : t.limS) : qaf Tryz.prog Gl 45 [qev t, .mapr 5] (Qhn t ++ [.map none (qb2 (some (.ptr 6 0)) (some (.ptr 8 0)) (some (.ptr 10 0)) (some (.ptr 12 0))), .box 3 (.agg [.d (.sl R), .d (.str qau), .mapr 7]), .map none (qby g1), .box 3 (.agg [.d (.sl R), .d (.str qa6), .mapr 9]), .map none (qby g2), .box 3 (.agg [.d (.sl R), .d (.str qbc), .mapr 11]), .map none (qby g3), .box 3 (.agg [.d (.sl R), .d (.str qav), .mapr 13]), .map none (qby g4)])
  (fun r s => r = qev (Qmx g1 g2 g3 g4 t) ∧ s = Qhn (Qmx g1 g2 g3 g4 t) ++ [.map none (qb2 (some (.ptr 6 0)) (some (.ptr 8 0)) (some (.ptr 10 0)) (some (.ptr 12 0))), .box 3 (.agg [.d (.sl R), .d (.str qau), .mapr 7]), .map none (qby g1), .box 3 (.agg [.d (.sl R), .d (.str qa6), .mapr 9]), .map none (qby g2), .box 3 (.agg [.d (.sl R), .d (.str qbc), .mapr 11]), .map none (qby g3), .box 3 (.agg [.d (.sl R), .d (.str qav), .mapr 13]), .map none (qby g4)]) := by
 obtain ⟨h1, h2, h3, h4, h5, h6, h7, h8⟩ := ht
 refine qac Tryz.func45 rfl rfl (by simp [Tryz.ntmps45]) (qab rfl _ _ _ _ ?_)
 simp only [Tryz.ntmps45, Tryz.results45, qak, List.length_nil]
 simp only [zU, seval, L1, L2, L3, L4, qcb, Qhn, qev]
 refine qa7 t.threads.length (fun k => [(1, .mapr 5), (2, .ptr 14 0), (4, .ptr 15 0), (16, .osl 0 0 t.threads.length), (17, .d (.int .i64 t.threads.length)), (18, .d (.int .i64 k))])
  (fun k => [.arr 3 ((qgv (nmT g1) t.threads k).map qao.toD), .arr 8 (t.slices.map qag.toD), .arr 4 (t.samples.map qan.toD), .arr 3 (t.steps.map qbb.toD), .arr 7 (t.blocks.map qar.toD), .map none (qb2 (some (.ptr 6 0)) (some (.ptr 8 0)) (some (.ptr 10 0)) (some (.ptr 12 0))), .box 3 (.agg [.d (.sl R), .d (.str qau), .mapr 7]), .map none (qby g1), .box 3 (.agg [.d (.sl R), .d (.str qa6), .mapr 9]), .map none (qby g2), .box 3 (.agg [.d (.sl R), .d (.str qbc), .mapr 11]), .map none (qby g3), .box 3 (.agg [.d (.sl R), .d (.str qav), .mapr 13]), .map none (qby g4), .box 10 (qev t), .box 10 zT]) (fun _ => True) trivial ?_ ?_
 ·refine qad [] [0, 1, 2, 3, 4, 5, 6, 7, 8, 9, 10, 11, 12, 13, 14, 15] rfl (by simp) ?_ ?_
  ·simp only [zU, seval, L1, L2, L3, L4, qcb]
   try rfl
  ·rw [qfi]
   exact qjc R g1 g2 g3 g4 _ _ _ _ _ (qev t) zT _ rfl rfl
 intro k _ hk
 by_cases h : k < t.threads.length
 ·obtain ⟨x, hx⟩ : ∃ x, x = t.threads.getD k default := ⟨_, rfl⟩
  have hml := qg3 (nmT g1) t.threads k
  have eg : ((qgv (nmT g1) t.threads k).map qao.toD).getD k default = x.toD := by rw [qat _ _ _ (by omega), qg4 _ h, ← hx]
  have est : (qgv (nmT g1) t.threads k).set k (nmT g1 x) = qgv (nmT g1) t.threads (k + 1) := by rw [hx, qg2 _ h]
  simp only [zU, seval, L1, L2, L3, L4, qcb, qev, (show (k:Int) < t.threads.length by omega), h, eg, hml]
  repeat ((with_reducible refine And.intro ?_ ?_); (focus (first | omega | (simp only [qa2]; omega) | (refine qq ?_; rfl) | (refine dq ?_; kernel_rfl) | (intros; simp_all; done))))
  refine qad [] [0, 1, 2, 3, 4, 5, 6, 7, 8, 9, 10, 11, 12, 13, 14, 15] rfl (by simp) ?_ ?_
  ·simp only [zU, seval, L1, L2, L3, L4, qcb, @qai ((k:Int) + 1) (by omega)]
   try rfl
  ·rw [← est, List.map_set]
   exact qjc R g1 g2 g3 g4 _ _ _ _ _ (qev t) zT _ rfl rfl
 have : k = t.threads.length := by omega
 subst this
 rw [qg5]
 simp only [zU, seval, L1, L2, L3, L4, qcb, qev, (show ¬ (t.threads.length:Int) < t.threads.length by omega)]
 refine qa7 t.slices.length (fun k => [(1, .mapr 5), (2, .ptr 14 0), (4, .ptr 15 0), (38, .osl 1 0 t.slices.length), (39, .d (.int .i64 t.slices.length)), (40, .d (.int .i64 k))])
  (fun k => [.arr 3 ((t.threads.map (nmT g1)).map qao.toD), .arr 8 ((qgv (nmS g2) t.slices k).map qag.toD), .arr 4 (t.samples.map qan.toD), .arr 3 (t.steps.map qbb.toD), .arr 7 (t.blocks.map qar.toD), .map none (qb2 (some (.ptr 6 0)) (some (.ptr 8 0)) (some (.ptr 10 0)) (some (.ptr 12 0))), .box 3 (.agg [.d (.sl R), .d (.str qau), .mapr 7]), .map none (qby g1), .box 3 (.agg [.d (.sl R), .d (.str qa6), .mapr 9]), .map none (qby g2), .box 3 (.agg [.d (.sl R), .d (.str qbc), .mapr 11]), .map none (qby g3), .box 3 (.agg [.d (.sl R), .d (.str qav), .mapr 13]), .map none (qby g4), .box 10 (qev t), .box 10 zT]) (fun _ => True) trivial ?_ ?_
 ·refine qad [] [0, 1, 2, 3, 4, 5, 6, 7, 8, 9, 10, 11, 12, 13, 14, 15] rfl (by simp) ?_ ?_
  ·simp only [zU, seval, L1, L2, L3, L4, qcb]
   try rfl
  ·rw [qfi]
   exact qjc R g1 g2 g3 g4 _ _ _ _ _ (qev t) zT _ rfl rfl
 intro k _ hk
 by_cases h : k < t.slices.length
 ·obtain ⟨x, hx⟩ : ∃ x, x = t.slices.getD k default := ⟨_, rfl⟩
  have hml := qg3 (nmS g2) t.slices k
  have eg : ((qgv (nmS g2) t.slices k).map qag.toD).getD k default = x.toD := by rw [qat _ _ _ (by omega), qg4 _ h, ← hx]
  have est : (qgv (nmS g2) t.slices k).set k (nmS g2 x) = qgv (nmS g2) t.slices (k + 1) := by rw [hx, qg2 _ h]
  simp only [zU, seval, L1, L2, L3, L4, qcb, qev, (show (k:Int) < t.slices.length by omega), h, eg, hml]
  repeat ((with_reducible refine And.intro ?_ ?_); (focus (first | omega | (simp only [qa2]; omega) | (refine qq ?_; rfl) | (refine dq ?_; kernel_rfl) | (intros; simp_all; done))))
  refine qad [] [0, 1, 2, 3, 4, 5, 6, 7, 8, 9, 10, 11, 12, 13, 14, 15] rfl (by simp) ?_ ?_
  ·simp only [zU, seval, L1, L2, L3, L4, qcb, @qai ((k:Int) + 1) (by omega)]
   try rfl
  ·rw [← est, List.map_set]
   exact qjc R g1 g2 g3 g4 _ _ _ _ _ (qev t) zT _ rfl rfl
 have : k = t.slices.length := by omega
 subst this
 rw [qg5]
 simp only [zU, seval, L1, L2, L3, L4, qcb, qev, (show ¬ (t.slices.length:Int) < t.slices.length by omega)]
 refine qa7 t.samples.length (fun k => [(1, .mapr 5), (2, .ptr 14 0), (4, .ptr 15 0), (60, .osl 2 0 t.samples.length), (61, .d (.int .i64 t.samples.length)), (62, .d (.int .i64 k))])
  (fun k => [.arr 3 ((t.threads.map (nmT g1)).map qao.toD), .arr 8 ((t.slices.map (nmS g2)).map qag.toD), .arr 4 ((qgv (nmA g3) t.samples k).map qan.toD), .arr 3 (t.steps.map qbb.toD), .arr 7 (t.blocks.map qar.toD), .map none (qb2 (some (.ptr 6 0)) (some (.ptr 8 0)) (some (.ptr 10 0)) (some (.ptr 12 0))), .box 3 (.agg [.d (.sl R), .d (.str qau), .mapr 7]), .map none (qby g1), .box 3 (.agg [.d (.sl R), .d (.str qa6), .mapr 9]), .map none (qby g2), .box 3 (.agg [.d (.sl R), .d (.str qbc), .mapr 11]), .map none (qby g3), .box 3 (.agg [.d (.sl R), .d (.str qav), .mapr 13]), .map none (qby g4), .box 10 (qev t), .box 10 zT]) (fun _ => True) trivial ?_ ?_
 ·refine qad [] [0, 1, 2, 3, 4, 5, 6, 7, 8, 9, 10, 11, 12, 13, 14, 15] rfl (by simp) ?_ ?_
  ·simp only [zU, seval, L1, L2, L3, L4, qcb]
   try rfl
  ·rw [qfi]
   exact qjc R g1 g2 g3 g4 _ _ _ _ _ (qev t) zT _ rfl rfl
 intro k _ hk
 by_cases h : k < t.samples.length
 ·obtain ⟨x, hx⟩ : ∃ x, x = t.samples.getD k default := ⟨_, rfl⟩
  have hml := qg3 (nmA g3) t.samples k
  have eg : ((qgv (nmA g3) t.samples k).map qan.toD).getD k default = x.toD := by rw [qat _ _ _ (by omega), qg4 _ h, ← hx]
  have est : (qgv (nmA g3) t.samples k).set k (nmA g3 x) = qgv (nmA g3) t.samples (k + 1) := by rw [hx, qg2 _ h]
  simp only [zU, seval, L1, L2, L3, L4, qcb, qev, (show (k:Int) < t.samples.length by omega), h, eg, hml]
  repeat ((with_reducible refine And.intro ?_ ?_); (focus (first | omega | (simp only [qa2]; omega) | (refine qq ?_; rfl) | (refine dq ?_; kernel_rfl) | (intros; simp_all; done))))
  have hxs := hs.1 x (by rw [hx]; exact qct h)
  refine qgu (q9i [10, 11] [.box 3 (.agg [.d (.sl R), .d (.str qbc), .mapr 1]), .map none (qby g3)] (by simp) (by simp [qaa, Blk.frozen, Blk.isDead]) (Qnj R qbc g3 x.stack hxs) (fun s => rfl) (fun s hb => ?_) (fun N => hk2 rfl (Qgs g3 _))) ?_
  ·show [qbu [10, 11] s (qaa s 10), qbu [10, 11] s (qaa s 11)] = _
   rw [hb 10 (by simp), hb 11 (by simp)]
   show [_, qbu [10, 11] s (.map none (qby g3))] = _
   rw [qey]; rfl
  simp only [zU, seval, L1, L2, L3, L4, qcb, qev, (show (k:Int) < t.samples.length by omega), h, eg, hml]
  repeat ((with_reducible refine And.intro ?_ ?_); (focus (first | omega | (simp only [qa2]; omega) | (refine qq ?_; rfl) | (refine dq ?_; kernel_rfl) | (intros; simp_all; done))))
  refine qad [] [0, 1, 2, 3, 4, 5, 6, 7, 8, 9, 10, 11, 12, 13, 14, 15] rfl (by simp) ?_ ?_
  ·simp only [zU, seval, L1, L2, L3, L4, qcb, @qai ((k:Int) + 1) (by omega)]
   try rfl
  ·rw [← est, List.map_set]
   exact qjc R g1 g2 g3 g4 _ _ _ _ _ (qev t) zT _ rfl rfl
 have : k = t.samples.length := by omega
 subst this
 rw [qg5]
 simp only [zU, seval, L1, L2, L3, L4, qcb, qev, (show ¬ (t.samples.length:Int) < t.samples.length by omega)]
 refine qa7 t.blocks.length (fun k => [(1, .mapr 5), (2, .ptr 14 0), (4, .ptr 15 0), (79, .osl 4 0 t.blocks.length), (80, .d (.int .i64 t.blocks.length)), (81, .d (.int .i64 k))])
  (fun k => [.arr 3 ((t.threads.map (nmT g1)).map qao.toD), .arr 8 ((t.slices.map (nmS g2)).map qag.toD), .arr 4 ((t.samples.map (nmA g3)).map qan.toD), .arr 3 (t.steps.map qbb.toD), .arr 7 ((qgv (nmB g3) t.blocks k).map qar.toD), .map none (qb2 (some (.ptr 6 0)) (some (.ptr 8 0)) (some (.ptr 10 0)) (some (.ptr 12 0))), .box 3 (.agg [.d (.sl R), .d (.str qau), .mapr 7]), .map none (qby g1), .box 3 (.agg [.d (.sl R), .d (.str qa6), .mapr 9]), .map none (qby g2), .box 3 (.agg [.d (.sl R), .d (.str qbc), .mapr 11]), .map none (qby g3), .box 3 (.agg [.d (.sl R), .d (.str qav), .mapr 13]), .map none (qby g4), .box 10 (qev t), .box 10 zT]) (fun _ => True) trivial ?_ ?_
 ·refine qad [] [0, 1, 2, 3, 4, 5, 6, 7, 8, 9, 10, 11, 12, 13, 14, 15] rfl (by simp) ?_ ?_
  ·simp only [zU, seval, L1, L2, L3, L4, qcb]
   try rfl
  ·rw [qfi]
   exact qjc R g1 g2 g3 g4 _ _ _ _ _ (qev t) zT _ rfl rfl
 intro k _ hk
 by_cases h : k < t.blocks.length
 ·obtain ⟨x, hx⟩ : ∃ x, x = t.blocks.getD k default := ⟨_, rfl⟩
  have hml := qg3 (nmB g3) t.blocks k
  have eg : ((qgv (nmB g3) t.blocks k).map qar.toD).getD k default = x.toD := by rw [qat _ _ _ (by omega), qg4 _ h, ← hx]
  have est : (qgv (nmB g3) t.blocks k).set k (nmB g3 x) = qgv (nmB g3) t.blocks (k + 1) := by rw [hx, qg2 _ h]
  simp only [zU, seval, L1, L2, L3, L4, qcb, qev, (show (k:Int) < t.blocks.length by omega), h, eg, hml]
  repeat ((with_reducible refine And.intro ?_ ?_); (focus (first | omega | (simp only [qa2]; omega) | (refine qq ?_; rfl) | (refine dq ?_; kernel_rfl) | (intros; simp_all; done))))
  have hxs := hs.2 x (by rw [hx]; exact qct h)
  refine qgu (q9i [10, 11] [.box 3 (.agg [.d (.sl R), .d (.str qbc), .mapr 1]), .map none (qby g3)] (by simp) (by simp [qaa, Blk.frozen, Blk.isDead]) (Qnj R qbc g3 x.stack hxs) (fun s => rfl) (fun s hb => ?_) (fun N => hk2 rfl (Qgs g3 _))) ?_
  ·show [qbu [10, 11] s (qaa s 10), qbu [10, 11] s (qaa s 11)] = _
   rw [hb 10 (by simp), hb 11 (by simp)]
   show [_, qbu [10, 11] s (.map none (qby g3))] = _
   rw [qey]; rfl
  simp only [zU, seval, L1, L2, L3, L4, qcb, qev, (show (k:Int) < t.blocks.length by omega), h, eg, hml]
  repeat ((with_reducible refine And.intro ?_ ?_); (focus (first | omega | (simp only [qa2]; omega) | (refine qq ?_; rfl) | (refine dq ?_; kernel_rfl) | (intros; simp_all; done))))
  refine qad [] [0, 1, 2, 3, 4, 5, 6, 7, 8, 9, 10, 11, 12, 13, 14, 15] rfl (by simp) ?_ ?_
  ·simp only [zU, seval, L1, L2, L3, L4, qcb, @qai ((k:Int) + 1) (by omega)]
   try rfl
  ·rw [← est, List.map_set]
   exact qjc R g1 g2 g3 g4 _ _ _ _ _ (qev t) zT _ rfl rfl
 have : k = t.blocks.length := by omega
 subst this
 rw [qg5]
 simp only [zU, seval, L1, L2, L3, L4, qcb, qev, (show ¬ (t.blocks.length:Int) < t.blocks.length by omega)]
 refine qa7 t.steps.length (fun k => [(1, .mapr 5), (2, .ptr 14 0), (4, .ptr 15 0), (98, .osl 3 0 t.steps.length), (99, .d (.int .i64 t.steps.length)), (100, .d (.int .i64 k))])
  (fun k => [.arr 3 ((t.threads.map (nmT g1)).map qao.toD), .arr 8 ((t.slices.map (nmS g2)).map qag.toD), .arr 4 ((t.samples.map (nmA g3)).map qan.toD), .arr 3 ((qgv (nmC g4) t.steps k).map qbb.toD), .arr 7 ((t.blocks.map (nmB g3)).map qar.toD), .map none (qb2 (some (.ptr 6 0)) (some (.ptr 8 0)) (some (.ptr 10 0)) (some (.ptr 12 0))), .box 3 (.agg [.d (.sl R), .d (.str qau), .mapr 7]), .map none (qby g1), .box 3 (.agg [.d (.sl R), .d (.str qa6), .mapr 9]), .map none (qby g2), .box 3 (.agg [.d (.sl R), .d (.str qbc), .mapr 11]), .map none (qby g3), .box 3 (.agg [.d (.sl R), .d (.str qav), .mapr 13]), .map none (qby g4), .box 10 (qev t), .box 10 zT]) (fun _ => True) trivial ?_ ?_
 ·refine qad [] [0, 1, 2, 3, 4, 5, 6, 7, 8, 9, 10, 11, 12, 13, 14, 15] rfl (by simp) ?_ ?_
  ·simp only [zU, seval, L1, L2, L3, L4, qcb]
   try rfl
  ·rw [qfi]
   exact qjc R g1 g2 g3 g4 _ _ _ _ _ (qev t) zT _ rfl rfl
 intro k _ hk
 by_cases h : k < t.steps.length
 ·obtain ⟨x, hx⟩ : ∃ x, x = t.steps.getD k default := ⟨_, rfl⟩
  have hml := qg3 (nmC g4) t.steps k
  have eg : ((qgv (nmC g4) t.steps k).map qbb.toD).getD k default = x.toD := by rw [qat _ _ _ (by omega), qg4 _ h, ← hx]
  have est : (qgv (nmC g4) t.steps k).set k (nmC g4 x) = qgv (nmC g4) t.steps (k + 1) := by rw [hx, qg2 _ h]
  simp only [zU, seval, L1, L2, L3, L4, qcb, qev, (show (k:Int) < t.steps.length by omega), h, eg, hml]
  repeat ((with_reducible refine And.intro ?_ ?_); (focus (first | omega | (simp only [qa2]; omega) | (refine qq ?_; rfl) | (refine dq ?_; kernel_rfl) | (intros; simp_all; done))))
  refine qad [] [0, 1, 2, 3, 4, 5, 6, 7, 8, 9, 10, 11, 12, 13, 14, 15] rfl (by simp) ?_ ?_
  ·simp only [zU, seval, L1, L2, L3, L4, qcb, @qai ((k:Int) + 1) (by omega)]
   try rfl
  ·rw [← est, List.map_set]
   exact qjc R g1 g2 g3 g4 _ _ _ _ _ (qev t) zT _ rfl rfl
 have : k = t.steps.length := by omega
 subst this
 rw [qg5]
 simp only [zU, seval, L1, L2, L3, L4, qcb, qev, (show ¬ (t.steps.length:Int) < t.steps.length by omega)]
 obtain ⟨L, hL⟩ : ∃ L, L = t.steps.map (nmC g4) := ⟨_, rfl⟩
 have hLl : t.steps.length = L.length := by rw [hL, List.length_map]
 have hrl : (Qmx g1 g2 g3 g4 t).steps.length = t.steps.length := by rw [Qmx, qm5, List.length_map]
 rw [← hL, hLl]
 refine Qgk 3 (by simp) rfl (q41 L (by omega)) (fun r s hr => ?_)
 obtain ⟨rfl, rfl⟩ := hr
 rw [qyr (by simp)]
 simp only [zU, seval, L1, L2, L3, L4, qcb]
 repeat ((with_reducible refine And.intro ?_ ?_); (focus (first | omega | (simp only [qa2]; omega) | (refine qq ?_; rfl) | (refine dq ?_; kernel_rfl) | (intros; simp_all; done))))
 rw [hrl, hLl]
 refine ⟨_, _, qae [] [0, 1, 2, 3, 4, 5, 6, 7, 8, 9, 10, 11, 12, 13] rfl (by simp) rfl (Qm0 R g1 g2 g3 g4 _ _ _ _ _ _), ?_, ?_⟩
 ·simp only [Qmx, List.length_map]; rfl
 ·simp only [Qmx, hL]

theorem L1s (a b c d : Option AV) : qb2 a b c d (.s qau) = a := L1 a b c d
theorem L2s (a b c d : Option AV) : qb2 a b c d (.s qa6) = b := L2 a b c d
theorem L3s (a b c d : Option AV) : qb2 a b c d (.s qbc) = c := L3 a b c d
theorem L4s (a b c d : Option AV) : qb2 a b c d (.s qav) = d := L4 a b c d
theorem M1s (a b c d : Option AV) (v : AV) : qfx (qb2 a b c d) (.s qau) v = qb2 (some v) b c d := M1 a b c d v
theorem M2s (a b c d : Option AV) (v : AV) : qfx (qb2 a b c d) (.s qa6) v = qb2 a (some v) c d := M2 a b c d v
theorem M3s (a b c d : Option AV) (v : AV) : qfx (qb2 a b c d) (.s qbc) v = qb2 a b (some v) d := M3 a b c d v
theorem M4s (a b c d : Option AV) (v : AV) : qfx (qb2 a b c d) (.s qav) v = qb2 a b c (some v) := M4 a b c d v
theorem qpj (p : Bool) (i n : Nat) : ((val p i n).getD .nils).vg = true := by cases p <;> rfl
theorem qpi (p : Bool) (i n : Nat) : ((val p i n).getD .nils).un = (val p i n).getD .nils := by cases p <;> rfl
theorem Qgi (p : qag → Bool) : ∀ (l : List qag) (u : List qag × List Int), (l.foldl (qeq p) u).1.length ≤ u.1.length + l.length
 | [], u => by simp
 | s :: l, u => by
  have ih := Qgi p l (qeq p u s)
  have h : (qeq p u s).1.length ≤ u.1.length + 1 := by
   unfold qeq; split <;> simp
  simp only [List.foldl_cons, List.length_cons]; omega
theorem Qmc (p : qag → Bool) (l : List qag) : (chF p l).1.length ≤ l.length := by
 have := Qgi p l ([], []); simpa [chF] using this
theorem Qfv {o : List qag} : ∀ j, j < o.length → ((qfu o).getD j default).thread = (o.getD j default).thread ∧ ((qfu o).getD j default).parent = (o.getD j default).parent ∧ ((qfu o).getD j default).name = (o.getD j default).name ∧ ((qfu o).getD j default).lo = (o.getD j default).lo ∧ ((qfu o).getD j default).hi = (o.getD j default).hi ∧ ((qfu o).getD j default).open_ = (o.getD j default).open_ := by
 obtain ⟨n, hn⟩ : ∃ n, n = o.length := ⟨_, rfl⟩
 induction n generalizing o with
 | zero => intro j hj; omega
 | succ n ih =>
  rcases List.eq_nil_or_concat o with rfl | ⟨v, s, rfl⟩
  ·simp at hn
  rw [List.concat_eq_append] at hn ⊢
  have hv : n = v.length := by rw [List.length_append] at hn; simp at hn; exact hn
  intro j hj
  have hj : j < v.length + 1 := by simpa using hj
  have hl := qf0 v
  rw [qfl, qcg, qe6 _ _ _ (by rw [qim]; omega), qim, qe6 _ _ _ hj, hl]
  by_cases hjn : j < v.length
  ·rw [if_pos hjn, if_pos hjn]
   have h0 := ih hv j hjn
   unfold qmp
   split
   ·by_cases hjp : s.parent.toNat = j
    ·subst hjp
     have hjf : s.parent.toNat < (qfu v).length := by omega
     have e : ∀ z, ((qfu v).set s.parent.toNat z).getD s.parent.toNat default = z := fun z => by simp [hjf]
     rw [e]; exact h0
    ·have e : ∀ z, ((qfu v).set s.parent.toNat z).getD j default = (qfu v).getD j default := fun z => by
      rw [List.getD_eq_getElem?_getD, List.getElem?_set_ne hjp, List.getD_eq_getElem?_getD]
     rw [e]; exact h0
   ·exact h0
  ·rw [if_neg hjn, if_neg hjn]
   exact ⟨rfl, rfl, rfl, rfl, rfl, rfl⟩
theorem Qff {o : List qag} (h : qgp o) : qgp (qfu o) := by
 intro i hi
 rw [qf0] at hi
 obtain ⟨_, e2, _, e4, e5, _⟩ := Qfv (o := o) i hi
 rw [e2, e4, e5]; exact h i hi
theorem Qf6 {l : List qap} {t : qa4} (h : t.lim) : (qga l t).lim := by
 obtain ⟨h1, h2, h3, h4, h5, h6, h7, h8⟩ := h
 refine ⟨Nat.le_trans (List.length_filter_le _ _) h1, ?_, Nat.le_trans (qu3 _ _) h3, Nat.le_trans (List.length_filter_le _ _) h4, Nat.le_trans (List.length_filter_le _ _) h5, h6, Nat.le_trans (List.length_filter_le _ _) h7, Nat.le_trans (List.length_filter_le _ _) h8⟩
 show (qfu _).length ≤ 1000
 rw [qf0]; exact Nat.le_trans (Qmc _ _) h2
theorem Qbd {l : List qap} {t : qa4} (h : t.limS) : (qga l t).limS :=
 ⟨fun x hx => h.1 x (List.mem_filter.1 hx).1, fun x hx => h.2 x (List.mem_filter.1 hx).1⟩
theorem Qbe {l : List qap} {t : qa4} (h : qgp t.slices) : qgp (qga l t).slices := Qff (qtr _ h).2.2.2
theorem Qf7 {l : List qap} {t : qa4} (h : t.lim) : (qkc l t).lim := by
 obtain ⟨h1, h2, h3, h4, h5, h6, h7, h8⟩ := h
 refine ⟨h1, ?_, h3, h4, ?_, Nat.le_trans (List.length_filter_le _ _) h6, ?_, h8⟩
 ·show (qfu _).length ≤ 1000
  rw [qf0]; exact Nat.le_trans (Qmc _ _) h2
 ·show (t.samples.map _).length ≤ 1000
  rw [List.length_map]; exact h5
 ·show (t.blocks.map _).length ≤ 1000
  rw [List.length_map]; exact h7
theorem Qbf {l : List qap} {t : qa4} (h : t.limS) : (qkc l t).limS := by
 refine ⟨fun x hx => ?_, fun x hx => ?_⟩
 ·obtain ⟨y, hy, rfl⟩ := List.mem_map.1 hx
  exact Nat.lt_of_le_of_lt (List.length_filter_le _ _) (h.1 y hy)
 ·obtain ⟨y, hy, rfl⟩ := List.mem_map.1 hx
  exact Nat.lt_of_le_of_lt (List.length_filter_le _ _) (h.2 y hy)
def qt6 : qa4 := ⟨0, 0, [], [], [], [], [], [], [], []⟩
def Qch (t : qa4) : Nat := t.slices.length + t.states.length + t.flows.length + t.samples.length + t.steps.length + t.blocks.length + t.lost.length
def Qoq (t : qa4) : qa4 := if Qch t = 0 then { t with lo := 0, hi := 0 } else t
def quj (l : List qap) (t : qa4) : Bool := qeu l qau (t.threads.map (·.name)) || qeu l qa6 (t.slices.map (·.name)) || qeu l qbc (frN t) || qeu l qav (t.steps.map (·.name))
def Qrw (l : List qap) (t : qa4) : qa4 := Qmx (qc9 l qau (t.threads.map (·.name))) (qc9 l qa6 (t.slices.map (·.name))) (qc9 l qbc (frN t)) (qc9 l qav (t.steps.map (·.name))) t
def qt7 (l : List qap) (t : qa4) : qa4 × Int :=
 if qme l ≠ 0 then (qt6, qme l) else if qkh t ≠ 0 then (qt6, qkh t)
 else if quj l (qkc l (qga l t)) = true then (qt6, 4) else (Qoq (Qrw l (qkc l (qga l t))), 0)
theorem qph (b : Nat → Nat) (p : Bool) (i n : Nat) : (val p i n).map (qf1 b) = val p (b i) n := by cases p <;> rfl
theorem q3f (l : List qap) (what : List UInt8) (s : List (List UInt8)) (hl : l.length < 1000000) (hs : s.length < 1000000) (σ : Sto) : qaf Tryz.prog G2 36 [.d (.sl (l.map qap.toD)), .d (.str what), .d (.sl (s.map .str))] σ
  (fun r s' => r = .tup [.ptr σ.length 0, .d (.bool (!qeu l what s))] ∧ s' = σ ++ [.box 3 (.agg [.d (.sl (l.map qap.toD)), .d (.str what), .mapr (σ.length + 1)]), .map none (qby (qc9 l what s))]) := by
 refine (qaf.under_new (R := fun r ν => r = .tup [.ptr 0 0, .d (.bool (!qeu l what s))] ∧ ν = [.box 3 (.agg [.d (.sl (l.map qap.toD)), .d (.str what), .mapr 1]), .map none (qby (qc9 l what s))]) [] [] (by simp) (by simp) rfl rfl (fun j i h => by simp at h) ((qxz l what s hl hs).mono fun r s' hr => ⟨_, by rw [List.nil_append], hr.1, hr.2⟩)).mono fun r s' hr => ?_
 obtain ⟨r0, ν, ⟨rfl, rfl⟩, rfl, rfl⟩ := hr
 refine ⟨?_, ?_⟩
 ·show AV.tup [.ptr (qb1 [] σ.length 0) 0, _] = _
  rfl
 ·show σ ++ [.box 3 (.agg [.d _, .d _, .mapr (qb1 [] σ.length 1)]), qc3 _ (.map none (qby _))] = _
  rw [Qgs]; rfl
theorem qpq {n m : Nat} {all : Array Oper} {rest : List Oper} {KK : Env → Sto → Prop} {env : Env} {dst : Option Tmp} (l : List qap) (what : List UInt8) (hl : l.length < 1000000) (p : Bool) (i : Nat) (N : List (List UInt8)) (hN : N.length < 1000000) (hn : N.length = m) (hp : p = false → N = []) (σ : Sto) (hb : qaa σ i = .frz 1 (N.map .str))
  (h2 : qal Tryz.prog G2 n all false rest (putE env dst (.tup [.ptr σ.length 0, .d (.bool (!qeu l what N))])) (σ ++ [.box 3 (.agg [.d (.sl (l.map qap.toD)), .d (.str what), .mapr (σ.length + 1)]), .map none (qby (qc9 l what N))]) KK) :
  qfp Tryz.prog G2 n all false dst rest (.fn 36 []) [.d (.sl (l.map qap.toD)), .d (.str what), (val p i m).getD .nils] env σ KK := by
 have hc := (q3f l what N hl hN σ).mono (R' := fun r σ' => qal Tryz.prog G2 n all false rest (putE env dst r) σ' KK) fun r s hr => by obtain ⟨rfl, rfl⟩ := hr; exact h2
 cases p with
 | false =>
  have := hp rfl
  subst this
  exact qtw hc
 | true =>
  subst hn
  refine qtw ?_
  have hil : i < σ.length := by
   rcases Nat.lt_or_ge i σ.length with h | h
   ·exact h
   ·exfalso
    have : qaa σ i = .dead := by unfold qaa; rw [List.getD_eq_getElem?_getD, List.getElem?_eq_none h]; rfl
    rw [this] at hb; cases hb
  have e1 : ql2 σ (.osl i 0 N.length) = .d (.sl (N.map .str)) := by
   rw [qp0 _ _ _ _ (by rw [hb]; rfl), hb]
   show AV.d (.sl (((N.map D.str).drop 0).take N.length)) = _
   rw [List.drop_zero, List.take_of_length_le (by simp)]
  have e2 : qh0 σ (.osl i 0 N.length) = [i] := qpz _ _ _ _ (by rw [hb]; rfl)
  have e3 : freezeL σ [i] = σ := by
   show σ.set i (qaa σ i).frozen = σ
   rw [hb]
   apply List.ext_getElem?
   intro j
   rw [List.getElem?_set]
   split
   ·rename_i h; subst h
    have : σ[i]? = some (qaa σ i) := by unfold qaa; simp [hil]
    rw [this, hb]; rfl
   ·rfl
  have e4 : ([.d (.sl (l.map qap.toD)), .d (.str what), (val true i N.length).getD .nils] ++ ([] : List AV)).map (ql2 σ) = [.d (.sl (l.map qap.toD)), .d (.str what), .d (.sl (N.map .str))] := by
   show [_, _, ql2 σ (.osl i 0 N.length)] = _
   rw [e1]; rfl
  have e5 : ([.d (.sl (l.map qap.toD)), .d (.str what), (val true i N.length).getD .nils] ++ ([] : List AV)).flatMap (qh0 σ) = [i] := by
   show ([] ++ ([] ++ (qh0 σ (.osl i 0 N.length) ++ []))) = _
   rw [e2]; rfl
  rw [e4, e5, e3]
  exact hc
theorem qmo {α β : Type} {L : List α} (f : α → β) (h : decide (0 < L.length) = false) : L.map f = [] := by
 have h1 : ¬ 0 < L.length := of_decide_eq_false h
 rw [List.eq_nil_of_length_eq_zero (show L.length = 0 by omega)]; rfl
theorem Qfo {t : qa4} (h : decide (0 < t.samples.length + t.blocks.length) = false) : frN t = [] := by
 have h1 : ¬ 0 < t.samples.length + t.blocks.length := of_decide_eq_false h
 rw [frN, List.eq_nil_of_length_eq_zero (show t.samples.length = 0 by omega), List.eq_nil_of_length_eq_zero (show t.blocks.length = 0 by omega)]; rfl
theorem Qfr (p : qan → Bool) : ∀ l : List qan, (((l.filter p).map (·.stack)).flatten).length ≤ ((l.map (·.stack)).flatten).length
 | [] => Nat.le_refl _
 | x :: l => by
  have ih := Qfr p l
  rw [List.filter_cons]
  split
  ·simp only [List.map_cons, List.flatten_cons, List.length_append]; omega
  ·simp only [List.map_cons, List.flatten_cons, List.length_append]; omega
theorem Qfs (p : qar → Bool) : ∀ l : List qar, (((l.filter p).map (·.stack)).flatten).length ≤ ((l.map (·.stack)).flatten).length
 | [] => Nat.le_refl _
 | x :: l => by
  have ih := Qfs p l
  rw [List.filter_cons]
  split
  ·simp only [List.map_cons, List.flatten_cons, List.length_append]; omega
  ·simp only [List.map_cons, List.flatten_cons, List.length_append]; omega
theorem Qft (r : List qap) : ∀ l : List qan, (((l.map (frS r)).map (·.stack)).flatten).length ≤ ((l.map (·.stack)).flatten).length
 | [] => Nat.le_refl _
 | x :: l => by
  have ih := Qft r l
  have h : (frS r x).stack.length ≤ x.stack.length := List.length_filter_le _ _
  simp only [List.map_cons, List.flatten_cons, List.length_append]; omega
theorem Qfu (r : List qap) : ∀ l : List qar, (((l.map (Qfq r)).map (·.stack)).flatten).length ≤ ((l.map (·.stack)).flatten).length
 | [] => Nat.le_refl _
 | x :: l => by
  have ih := Qfu r l
  have h : (Qfq r x).stack.length ≤ x.stack.length := List.length_filter_le _ _
  simp only [List.map_cons, List.flatten_cons, List.length_append]; omega
theorem Qjc (l : List qap) (t : qa4) : (frN (qkc l (qga l t))).length ≤ (frN t).length := by
 have a1 := Qft l (qga l t).samples
 have a2 := Qfu l (qga l t).blocks
 have a3 := Qfr (fun x => !qft l t.threads x.thread) t.samples
 have a4 := Qfs (fun x => !qft l t.threads x.thread) t.blocks
 have e1 : (frN (qkc l (qga l t))).length = ((((qga l t).samples.map (frS l)).map (·.stack)).flatten).length + ((((qga l t).blocks.map (Qfq l)).map (·.stack)).flatten).length := by rw [frN, List.length_append]; rfl
 have e2 : (frN t).length = ((t.samples.map (·.stack)).flatten).length + ((t.blocks.map (·.stack)).flatten).length := by rw [frN, List.length_append]
 have b1 : ((qga l t).samples.map (·.stack)) = ((t.samples.filter (fun x => !qft l t.threads x.thread)).map (·.stack)) := rfl
 have b2 : ((qga l t).blocks.map (·.stack)) = ((t.blocks.filter (fun x => !qft l t.threads x.thread)).map (·.stack)) := rfl
 rw [b1] at a1
 rw [b2] at a2
 omega
def okK (l : List qap) (t2 : qa4) (k : Nat) : Prop := (0 < k → qeu l qau (t2.threads.map (·.name)) = false) ∧ (1 < k → qeu l qa6 (t2.slices.map (·.name)) = false) ∧ (2 < k → qeu l qbc (frN t2) = false) ∧ (3 < k → qeu l qav (t2.steps.map (·.name)) = false)
def hmK (k : Nat) : Key → Option AV := qb2 (if 0 < k then some (.ptr 14 0) else none) (if 1 < k then some (.ptr 16 0) else none) (if 2 < k then some (.ptr 18 0) else none) (if 3 < k then some (.ptr 20 0) else none)
def Qsu (l : List qap) (t2 : qa4) : Sto := [.box 3 (.agg [.d (.sl (l.map qap.toD)), .d (.str qau), .mapr 15]), .map none (qby (qc9 l qau (t2.threads.map (·.name)))), .box 3 (.agg [.d (.sl (l.map qap.toD)), .d (.str qa6), .mapr 17]), .map none (qby (qc9 l qa6 (t2.slices.map (·.name)))), .box 3 (.agg [.d (.sl (l.map qap.toD)), .d (.str qbc), .mapr 19]), .map none (qby (qc9 l qbc (frN t2))), .box 3 (.agg [.d (.sl (l.map qap.toD)), .d (.str qav), .mapr 21]), .map none (qby (qc9 l qav (t2.steps.map (·.name))))]
theorem Qnk (l : List qap) (t : qa4) (hl : l.length < 1000000) (hf : t.Few) (ht : t.lim) (hs : t.limS) (hg : qkh t = 0 → qgp t.slices) (hfn : qkh t = 0 → (frN t).length < 1000000) : qbw Tryz.prog G2 20 [.d (.sl (l.map qap.toD)), .d t.toD] (.tup [.d (qt7 l t).1.toD, .d (.int .i64 (qt7 l t).2)]) := by
 refine qbw.of2t2 ?_
 refine qac Tryz.func20 rfl rfl (by simp [Tryz.ntmps20]) (qab rfl _ _ _ _ ?_)
 simp only [Tryz.ntmps20, Tryz.results20, qak, List.length_nil]
 simp only [zU, seval, L1, L2, L3, L4, M1, M2, M3, M4, L1s, L2s, L3s, L4s, M1s, M2s, M3s, M4s, qpj, qpi]
 refine qah (q5g l hl) ?_
 simp only [zU, seval, L1, L2, L3, L4, M1, M2, M3, M4, L1s, L2s, L3s, L4s, M1s, M2s, M3s, M4s, qpj, qpi]
 refine ifC.mk (fun h0 => ?_) (fun h0 => ?_)
 ·have h0 : qme l ≠ 0 := by simpa using h0
  refine ⟨_, _, qdc rfl (x := qt6.toD) rfl, ?_, rfl⟩
  rw [qt7, if_pos h0]
 have h0 : qme l = 0 := by simpa using h0
 (try simp only [zU, seval, L1, L2, L3, L4, M1, M2, M3, M4, L1s, L2s, L3s, L4s, M1s, M2s, M3s, M4s, qpj, qpi])
 refine qah (q3a t hf) ?_
 simp only [zU, seval, L1, L2, L3, L4, M1, M2, M3, M4, L1s, L2s, L3s, L4s, M1s, M2s, M3s, M4s, qpj, qpi]
 refine ifC.mk (fun h1 => ?_) (fun h1 => ?_)
 ·have h1 : qkh t ≠ 0 := by simpa using h1
  refine ⟨_, _, qdc rfl (x := qt6.toD) rfl, ?_, rfl⟩
  rw [qt7, if_neg (by rw [h0]; simp), if_pos h1]
 have h1 : qkh t = 0 := by simpa using h1
 have e0 : qt7 l t = if quj l (qkc l (qga l t)) = true then (qt6, 4) else (Qoq (Qrw l (qkc l (qga l t))), 0) := by
  rw [qt7, if_neg (by rw [h0]; simp), if_neg (by rw [h1]; simp)]
 have g1 := hg h1
 have f1 := hfn h1
 (try simp only [zU, seval, L1, L2, L3, L4, M1, M2, M3, M4, L1s, L2s, L3s, L4s, M1s, M2s, M3s, M4s, qpj, qpi])
 refine qbz (R := fun r ν => r = Qrs (qga l t) ∧ ν = [.arr 3 ((qga l t).threads.map qao.toD)]) [] [] (by simp) (by simp) rfl rfl (fun j i h => by simp at h) ((qzn l t hl ht g1).mono fun r s hr => ⟨_, by rw [List.nil_append], hr.1, hr.2⟩) (fun r ν hr => ?_)
 obtain ⟨rfl, rfl⟩ := hr
 obtain ⟨t1, ht1⟩ : ∃ t1, t1 = qga l t := ⟨_, rfl⟩
 have l1 : t1.lim := by rw [ht1]; exact Qf6 ht
 have s1 : t1.limS := by rw [ht1]; exact Qbd hs
 have g2 : qgp t1.slices := by rw [ht1]; exact Qbe g1
 rw [← ht1] at e0 ⊢
 show qal _ _ _ _ _ _ (putE _ _ (.agg [.d (.int .i64 t1.lo), .d (.int .i64 t1.hi), .osl 2 0 t1.threads.length, .d (.sl (t1.slices.map qag.toD)), .d (.sl (t1.states.map qax.toD)), .d (.sl (t1.flows.map qbt.toD)), .d (.sl (t1.samples.map qan.toD)), .d (.sl (t1.steps.map qbb.toD)), .d (.sl (t1.blocks.map qar.toD)), .d (.sl (t1.lost.map qcc.toD))])) [.box 10 (.d t.toD), .box 10 zT, .arr 3 (t1.threads.map qao.toD)] _
 simp only [zU, seval, L1, L2, L3, L4, M1, M2, M3, M4, L1s, L2s, L3s, L4s, M1s, M2s, M3s, M4s, qpj, qpi]
 refine qbz (R := fun r ν => r = qev (qkc l t1) ∧ ν = (Qhn (qkc l t1)).tail) [2] [.arr 3 (t1.threads.map qao.toD)] (by simp) (by simp) rfl rfl (hk1 rfl) ((q45 l t1 hl l1 s1 g2).mono fun r s hr => ⟨(Qhn (qkc l t1)).tail, by rw [hr.2]; rfl, hr.1, rfl⟩) (fun r ν hr => ?_)
 obtain ⟨rfl, rfl⟩ := hr
 obtain ⟨t2, ht2⟩ : ∃ t2, t2 = qkc l t1 := ⟨_, rfl⟩
 have l2 : t2.lim := by rw [ht2]; exact Qf7 l1
 have s2 : t2.limS := by rw [ht2]; exact Qbf s1
 have et : t1.threads = t2.threads := by rw [ht2]; rfl
 rw [et, ← ht2]
 rw [← ht2] at e0
 have hfr : (frN t2).length < 1000000 := by rw [ht2, ht1]; exact Nat.lt_of_le_of_lt (Qjc l t) f1
 obtain ⟨h1, h2, h3, h4, h5, h6, h7, h8⟩ := l2
 show qal _ _ _ _ _ _ (putE _ _ (.agg [.d (.int .i64 t2.lo), .d (.int .i64 t2.hi), .osl 2 0 t2.threads.length, .osl 3 0 t2.slices.length, .d (.sl (t2.states.map qax.toD)), .d (.sl (t2.flows.map qbt.toD)), .osl 4 0 t2.samples.length, .osl 5 0 t2.steps.length, .osl 6 0 t2.blocks.length, .d (.sl (t2.lost.map qcc.toD))])) [.box 10 (.d t.toD), .box 10 zT, .arr 3 (t2.threads.map qao.toD), .arr 8 (t2.slices.map qag.toD), .arr 4 (t2.samples.map qan.toD), .arr 3 (t2.steps.map qbb.toD), .arr 7 (t2.blocks.map qar.toD)] _
 simp only [zU, seval, L1, L2, L3, L4, M1, M2, M3, M4, L1s, L2s, L3s, L4s, M1s, M2s, M3s, M4s, qpj, qpi]
 repeat ((with_reducible refine And.intro ?_ ?_); (focus (first | omega | (simp only [qa2]; omega) | (refine qq ?_; rfl) | (refine dq ?_; kernel_rfl) | (intros; simp_all; done))))
 refine qbz (R := fun r ν => r = .mapr 5 ∧ ν = [.map none (qb2 (val (decide (0 < t2.threads.length)) 6 t2.threads.length) (val (decide (0 < t2.slices.length)) 7 t2.slices.length) (val (decide (0 < t2.samples.length + t2.blocks.length)) 8 (frN t2).length) (val (decide (0 < t2.steps.length)) 9 t2.steps.length)),
   .arr 1 ((t2.threads.map (·.name)).map .str), .arr 1 ((t2.slices.map (·.name)).map .str), .arr 1 ((frN t2).map .str), .arr 1 ((t2.steps.map (·.name)).map .str)]) [2, 3, 4, 5, 6] (Qhn t2) (by simp) (by simp) rfl rfl (fun j i h => by rcases j with _ | _ | _ | _ | _ | j <;> simp at h <;> subst h <;> rfl) ((Qip t2 ⟨h1, h2, h3, h4, h5, h6, h7, h8⟩ s2).mono fun r s hr => ⟨_, by rw [hr.2]; rfl, hr.1, rfl⟩) (fun r ν hr => ?_)
 obtain ⟨rfl, rfl⟩ := hr
 have em : qc3 (qb1 [2, 3, 4, 5, 6] 7) (.map none (qb2 (val (decide (0 < t2.threads.length)) 6 t2.threads.length) (val (decide (0 < t2.slices.length)) 7 t2.slices.length) (val (decide (0 < t2.samples.length + t2.blocks.length)) 8 (frN t2).length) (val (decide (0 < t2.steps.length)) 9 t2.steps.length))) = .map none (qb2 (val (decide (0 < t2.threads.length)) 8 t2.threads.length) (val (decide (0 < t2.slices.length)) 9 t2.slices.length) (val (decide (0 < t2.samples.length + t2.blocks.length)) 10 (frN t2).length) (val (decide (0 < t2.steps.length)) 11 t2.steps.length)) := by
  show Blk.map none _ = _
  rw [qed, qph, qph, qph, qph]; rfl
 show qal _ _ _ _ _ _ (putE _ _ (.mapr 7)) [.box 10 (.agg [.d (.int .i64 t2.lo), .d (.int .i64 t2.hi), .osl 2 0 t2.threads.length, .osl 3 0 t2.slices.length, .d (.sl (t2.states.map qax.toD)), .d (.sl (t2.flows.map qbt.toD)), .osl 4 0 t2.samples.length, .osl 5 0 t2.steps.length, .osl 6 0 t2.blocks.length, .d (.sl (t2.lost.map qcc.toD))]), .box 10 zT, .arr 3 (t2.threads.map qao.toD), .arr 8 (t2.slices.map qag.toD), .arr 4 (t2.samples.map qan.toD), .arr 3 (t2.steps.map qbb.toD), .arr 7 (t2.blocks.map qar.toD), qc3 (qb1 [2, 3, 4, 5, 6] 7) (.map none (qb2 (val (decide (0 < t2.threads.length)) 6 t2.threads.length) (val (decide (0 < t2.slices.length)) 7 t2.slices.length) (val (decide (0 < t2.samples.length + t2.blocks.length)) 8 (frN t2).length) (val (decide (0 < t2.steps.length)) 9 t2.steps.length))), .arr 1 ((t2.threads.map (·.name)).map .str), .arr 1 ((t2.slices.map (·.name)).map .str), .arr 1 ((frN t2).map .str), .arr 1 ((t2.steps.map (·.name)).map .str)] _
 rw [em]
 simp only [zU, seval, L1, L2, L3, L4, M1, M2, M3, M4, L1s, L2s, L3s, L4s, M1s, M2s, M3s, M4s, qpj, qpi]
 repeat ((with_reducible refine And.intro ?_ ?_); (focus (first | omega | (simp only [qa2]; omega) | (refine qq ?_; rfl) | (refine dq ?_; kernel_rfl) | (intros; simp_all; done))))
 refine qa7 4 (fun k => [(0, .d (.sl (l.map qap.toD))), (3, .ptr 0 0), (4, .ptr 1 0), (8, .mapr 7), (9, .mapr 12), (34, .osl 13 0 4), (35, .d (.int .i64 4)), (36, .d (.int .i64 k))]) (fun k => [.box 10 (.agg [.d (.int .i64 t2.lo), .d (.int .i64 t2.hi), .osl 2 0 t2.threads.length, .osl 3 0 t2.slices.length, .d (.sl (t2.states.map qax.toD)), .d (.sl (t2.flows.map qbt.toD)), .osl 4 0 t2.samples.length, .osl 5 0 t2.steps.length, .osl 6 0 t2.blocks.length, .d (.sl (t2.lost.map qcc.toD))]), .box 10 zT, .arr 3 (t2.threads.map qao.toD), .arr 8 (t2.slices.map qag.toD), .arr 4 (t2.samples.map qan.toD), .arr 3 (t2.steps.map qbb.toD), .arr 7 (t2.blocks.map qar.toD), .map none (qb2 (val (decide (0 < t2.threads.length)) 8 t2.threads.length) (val (decide (0 < t2.slices.length)) 9 t2.slices.length) (val (decide (0 < t2.samples.length + t2.blocks.length)) 10 (frN t2).length) (val (decide (0 < t2.steps.length)) 11 t2.steps.length)), .frz 1 ((t2.threads.map (·.name)).map .str), .frz 1 ((t2.slices.map (·.name)).map .str), .frz 1 ((frN t2).map .str), .frz 1 ((t2.steps.map (·.name)).map .str), .map none (hmK k), .arr 1 [.str qau, .str qa6, .str qbc, .str qav]] ++ (Qsu l t2).take (2 * k)) (okK l t2) ⟨fun h => absurd h (by omega), fun h => absurd h (by omega), fun h => absurd h (by omega), fun h => absurd h (by omega)⟩ ?_ ?_
 ·refine qad [8, 9, 10, 11] [0, 1, 2, 3, 4, 5, 6, 7, 8, 9, 10, 11, 12, 13] rfl (by simp) ?_ ?_
  ·simp only [zU, seval, L1, L2, L3, L4, M1, M2, M3, M4, L1s, L2s, L3s, L4s, M1s, M2s, M3s, M4s, qpj, qpi]
   try rfl
  ·rw [qsy]
   show [_, _, _, _, _, _, _, qbu _ _ (.map none (qb2 (val (decide (0 < t2.threads.length)) 8 t2.threads.length) (val (decide (0 < t2.slices.length)) 9 t2.slices.length) (val (decide (0 < t2.samples.length + t2.blocks.length)) 10 (frN t2).length) (val (decide (0 < t2.steps.length)) 11 t2.steps.length))), _, _, _, _, .map none (fun k => (qb2 none none none none k).map (qbf _ _)), _] = _
   rw [qho _ _ _ _ _ _ _ _ rfl rfl rfl rfl, qed]; rfl
 intro k hok hk4
 have hk5 : k = 0 ∨ k = 1 ∨ k = 2 ∨ k = 3 ∨ k = 4 := by omega
 have hcol : ∀ b1 b2 b3 b4, qeu l qau (t2.threads.map (·.name)) = b1 → qeu l qa6 (t2.slices.map (·.name)) = b2 → qeu l qbc (frN t2) = b3 → qeu l qav (t2.steps.map (·.name)) = b4 → quj l t2 = (b1 || b2 || b3 || b4) := fun b1 b2 b3 b4 q1 q2 q3 q4 => by rw [quj, q1, q2, q3, q4]
 rcases hk5 with rfl | rfl | rfl | rfl | rfl
 ·show evC _ _ _ _ _ [(0, .d (.sl (l.map qap.toD))), (3, .ptr 0 0), (4, .ptr 1 0), (8, .mapr 7), (9, .mapr 12), (34, .osl 13 0 4), (35, .d (.int .i64 4)), (36, .d (.int .i64 0))] [.box 10 (.agg [.d (.int .i64 t2.lo), .d (.int .i64 t2.hi), .osl 2 0 t2.threads.length, .osl 3 0 t2.slices.length, .d (.sl (t2.states.map qax.toD)), .d (.sl (t2.flows.map qbt.toD)), .osl 4 0 t2.samples.length, .osl 5 0 t2.steps.length, .osl 6 0 t2.blocks.length, .d (.sl (t2.lost.map qcc.toD))]), .box 10 zT, .arr 3 (t2.threads.map qao.toD), .arr 8 (t2.slices.map qag.toD), .arr 4 (t2.samples.map qan.toD), .arr 3 (t2.steps.map qbb.toD), .arr 7 (t2.blocks.map qar.toD), .map none (qb2 (val (decide (0 < t2.threads.length)) 8 t2.threads.length) (val (decide (0 < t2.slices.length)) 9 t2.slices.length) (val (decide (0 < t2.samples.length + t2.blocks.length)) 10 (frN t2).length) (val (decide (0 < t2.steps.length)) 11 t2.steps.length)), .frz 1 ((t2.threads.map (·.name)).map .str), .frz 1 ((t2.slices.map (·.name)).map .str), .frz 1 ((frN t2).map .str), .frz 1 ((t2.steps.map (·.name)).map .str), .map none (qb2 none none none none), .arr 1 [.str qau, .str qa6, .str qbc, .str qav]] _
  simp only [zU, seval, L1, L2, L3, L4, M1, M2, M3, M4, L1s, L2s, L3s, L4s, M1s, M2s, M3s, M4s, qpj, qpi]
  refine qpq l qau hl (decide (0 < t2.threads.length)) 8 (t2.threads.map (·.name)) (by first | (simp only [List.length_map]; omega) | omega) (by first | rfl | simp only [List.length_map]) (fun hp => qmo _ hp) _ rfl ?_
  simp only [zU, seval, L1, L2, L3, L4, M1, M2, M3, M4, L1s, L2s, L3s, L4s, M1s, M2s, M3s, M4s, qpj, qpi]
  refine ifC.mk (fun hc => ?_) (fun hc => ?_)
  ·refine ⟨_, _, qdc rfl (x := qt6.toD) rfl, ?_, rfl⟩
   rw [e0, if_pos (by rw [quj, hc]; simp)]
  ·refine ⟨⟨fun _ => hc, fun h => absurd h (by omega), fun h => absurd h (by omega), fun h => absurd h (by omega)⟩, ?_⟩
   refine qad [] [0, 1, 2, 3, 4, 5, 6, 7, 8, 9, 10, 11, 12, 13, 14, 15] rfl (by simp) ?_ ?_
   ·simp only [zU, seval, L1, L2, L3, L4, M1, M2, M3, M4, L1s, L2s, L3s, L4s, M1s, M2s, M3s, M4s, qpj, qpi, Int.reduceAdd]
    try rfl
   ·show [_, _, _, _, _, _, _, qbu _ _ (.map none (qb2 (val (decide (0 < t2.threads.length)) 8 t2.threads.length) (val (decide (0 < t2.slices.length)) 9 t2.slices.length) (val (decide (0 < t2.samples.length + t2.blocks.length)) 10 (frN t2).length) (val (decide (0 < t2.steps.length)) 11 t2.steps.length))), _, _, _, _, .map none (fun k => (qb2 (some (.ptr 14 0)) none none none k).map (qbf _ _)), _, _, qbu _ _ (.map none (qby (qc9 l qau (t2.threads.map (·.name)))))] = _
    rw [qho _ _ _ _ _ _ _ _ rfl rfl rfl rfl, qed, qey]; rfl
 ·show evC _ _ _ _ _ [(0, .d (.sl (l.map qap.toD))), (3, .ptr 0 0), (4, .ptr 1 0), (8, .mapr 7), (9, .mapr 12), (34, .osl 13 0 4), (35, .d (.int .i64 4)), (36, .d (.int .i64 1))] [.box 10 (.agg [.d (.int .i64 t2.lo), .d (.int .i64 t2.hi), .osl 2 0 t2.threads.length, .osl 3 0 t2.slices.length, .d (.sl (t2.states.map qax.toD)), .d (.sl (t2.flows.map qbt.toD)), .osl 4 0 t2.samples.length, .osl 5 0 t2.steps.length, .osl 6 0 t2.blocks.length, .d (.sl (t2.lost.map qcc.toD))]), .box 10 zT, .arr 3 (t2.threads.map qao.toD), .arr 8 (t2.slices.map qag.toD), .arr 4 (t2.samples.map qan.toD), .arr 3 (t2.steps.map qbb.toD), .arr 7 (t2.blocks.map qar.toD), .map none (qb2 (val (decide (0 < t2.threads.length)) 8 t2.threads.length) (val (decide (0 < t2.slices.length)) 9 t2.slices.length) (val (decide (0 < t2.samples.length + t2.blocks.length)) 10 (frN t2).length) (val (decide (0 < t2.steps.length)) 11 t2.steps.length)), .frz 1 ((t2.threads.map (·.name)).map .str), .frz 1 ((t2.slices.map (·.name)).map .str), .frz 1 ((frN t2).map .str), .frz 1 ((t2.steps.map (·.name)).map .str), .map none (qb2 (some (.ptr 14 0)) none none none), .arr 1 [.str qau, .str qa6, .str qbc, .str qav], .box 3 (.agg [.d (.sl (l.map qap.toD)), .d (.str qau), .mapr 15]), .map none (qby (qc9 l qau (t2.threads.map (·.name))))] _
  simp only [zU, seval, L1, L2, L3, L4, M1, M2, M3, M4, L1s, L2s, L3s, L4s, M1s, M2s, M3s, M4s, qpj, qpi]
  refine qpq l qa6 hl (decide (0 < t2.slices.length)) 9 (t2.slices.map (·.name)) (by first | (simp only [List.length_map]; omega) | omega) (by first | rfl | simp only [List.length_map]) (fun hp => qmo _ hp) _ rfl ?_
  simp only [zU, seval, L1, L2, L3, L4, M1, M2, M3, M4, L1s, L2s, L3s, L4s, M1s, M2s, M3s, M4s, qpj, qpi]
  refine ifC.mk (fun hc => ?_) (fun hc => ?_)
  ·refine ⟨_, _, qdc rfl (x := qt6.toD) rfl, ?_, rfl⟩
   rw [e0, if_pos (by rw [quj, hc]; simp)]
  ·refine ⟨⟨fun _ => hok.1 (by omega), fun _ => hc, fun h => absurd h (by omega), fun h => absurd h (by omega)⟩, ?_⟩
   refine qad [] [0, 1, 2, 3, 4, 5, 6, 7, 8, 9, 10, 11, 12, 13, 14, 15, 16, 17] rfl (by simp) ?_ ?_
   ·simp only [zU, seval, L1, L2, L3, L4, M1, M2, M3, M4, L1s, L2s, L3s, L4s, M1s, M2s, M3s, M4s, qpj, qpi, Int.reduceAdd]
    try rfl
   ·show [_, _, _, _, _, _, _, qbu _ _ (.map none (qb2 (val (decide (0 < t2.threads.length)) 8 t2.threads.length) (val (decide (0 < t2.slices.length)) 9 t2.slices.length) (val (decide (0 < t2.samples.length + t2.blocks.length)) 10 (frN t2).length) (val (decide (0 < t2.steps.length)) 11 t2.steps.length))), _, _, _, _, .map none (fun k => (qb2 (some (.ptr 14 0)) (some (.ptr 16 0)) none none k).map (qbf _ _)), _, _, qbu _ _ (.map none (qby (qc9 l qau (t2.threads.map (·.name))))), _, qbu _ _ (.map none (qby (qc9 l qa6 (t2.slices.map (·.name)))))] = _
    rw [qho _ _ _ _ _ _ _ _ rfl rfl rfl rfl, qed, qey, qey]; rfl
 ·show evC _ _ _ _ _ [(0, .d (.sl (l.map qap.toD))), (3, .ptr 0 0), (4, .ptr 1 0), (8, .mapr 7), (9, .mapr 12), (34, .osl 13 0 4), (35, .d (.int .i64 4)), (36, .d (.int .i64 2))] [.box 10 (.agg [.d (.int .i64 t2.lo), .d (.int .i64 t2.hi), .osl 2 0 t2.threads.length, .osl 3 0 t2.slices.length, .d (.sl (t2.states.map qax.toD)), .d (.sl (t2.flows.map qbt.toD)), .osl 4 0 t2.samples.length, .osl 5 0 t2.steps.length, .osl 6 0 t2.blocks.length, .d (.sl (t2.lost.map qcc.toD))]), .box 10 zT, .arr 3 (t2.threads.map qao.toD), .arr 8 (t2.slices.map qag.toD), .arr 4 (t2.samples.map qan.toD), .arr 3 (t2.steps.map qbb.toD), .arr 7 (t2.blocks.map qar.toD), .map none (qb2 (val (decide (0 < t2.threads.length)) 8 t2.threads.length) (val (decide (0 < t2.slices.length)) 9 t2.slices.length) (val (decide (0 < t2.samples.length + t2.blocks.length)) 10 (frN t2).length) (val (decide (0 < t2.steps.length)) 11 t2.steps.length)), .frz 1 ((t2.threads.map (·.name)).map .str), .frz 1 ((t2.slices.map (·.name)).map .str), .frz 1 ((frN t2).map .str), .frz 1 ((t2.steps.map (·.name)).map .str), .map none (qb2 (some (.ptr 14 0)) (some (.ptr 16 0)) none none), .arr 1 [.str qau, .str qa6, .str qbc, .str qav], .box 3 (.agg [.d (.sl (l.map qap.toD)), .d (.str qau), .mapr 15]), .map none (qby (qc9 l qau (t2.threads.map (·.name)))), .box 3 (.agg [.d (.sl (l.map qap.toD)), .d (.str qa6), .mapr 17]), .map none (qby (qc9 l qa6 (t2.slices.map (·.name))))] _
  simp only [zU, seval, L1, L2, L3, L4, M1, M2, M3, M4, L1s, L2s, L3s, L4s, M1s, M2s, M3s, M4s, qpj, qpi]
  refine qpq l qbc hl (decide (0 < t2.samples.length + t2.blocks.length)) 10 (frN t2) (by first | (simp only [List.length_map]; omega) | omega) (by first | rfl | simp only [List.length_map]) (fun hp => Qfo hp) _ rfl ?_
  simp only [zU, seval, L1, L2, L3, L4, M1, M2, M3, M4, L1s, L2s, L3s, L4s, M1s, M2s, M3s, M4s, qpj, qpi]
  refine ifC.mk (fun hc => ?_) (fun hc => ?_)
  ·refine ⟨_, _, qdc rfl (x := qt6.toD) rfl, ?_, rfl⟩
   rw [e0, if_pos (by rw [quj, hc]; simp)]
  ·refine ⟨⟨fun _ => hok.1 (by omega), fun _ => hok.2.1 (by omega), fun _ => hc, fun h => absurd h (by omega)⟩, ?_⟩
   refine qad [] [0, 1, 2, 3, 4, 5, 6, 7, 8, 9, 10, 11, 12, 13, 14, 15, 16, 17, 18, 19] rfl (by simp) ?_ ?_
   ·simp only [zU, seval, L1, L2, L3, L4, M1, M2, M3, M4, L1s, L2s, L3s, L4s, M1s, M2s, M3s, M4s, qpj, qpi, Int.reduceAdd]
    try rfl
   ·show [_, _, _, _, _, _, _, qbu _ _ (.map none (qb2 (val (decide (0 < t2.threads.length)) 8 t2.threads.length) (val (decide (0 < t2.slices.length)) 9 t2.slices.length) (val (decide (0 < t2.samples.length + t2.blocks.length)) 10 (frN t2).length) (val (decide (0 < t2.steps.length)) 11 t2.steps.length))), _, _, _, _, .map none (fun k => (qb2 (some (.ptr 14 0)) (some (.ptr 16 0)) (some (.ptr 18 0)) none k).map (qbf _ _)), _, _, qbu _ _ (.map none (qby (qc9 l qau (t2.threads.map (·.name))))), _, qbu _ _ (.map none (qby (qc9 l qa6 (t2.slices.map (·.name))))), _, qbu _ _ (.map none (qby (qc9 l qbc (frN t2))))] = _
    rw [qho _ _ _ _ _ _ _ _ rfl rfl rfl rfl, qed, qey, qey, qey]; rfl
 ·show evC _ _ _ _ _ [(0, .d (.sl (l.map qap.toD))), (3, .ptr 0 0), (4, .ptr 1 0), (8, .mapr 7), (9, .mapr 12), (34, .osl 13 0 4), (35, .d (.int .i64 4)), (36, .d (.int .i64 3))] [.box 10 (.agg [.d (.int .i64 t2.lo), .d (.int .i64 t2.hi), .osl 2 0 t2.threads.length, .osl 3 0 t2.slices.length, .d (.sl (t2.states.map qax.toD)), .d (.sl (t2.flows.map qbt.toD)), .osl 4 0 t2.samples.length, .osl 5 0 t2.steps.length, .osl 6 0 t2.blocks.length, .d (.sl (t2.lost.map qcc.toD))]), .box 10 zT, .arr 3 (t2.threads.map qao.toD), .arr 8 (t2.slices.map qag.toD), .arr 4 (t2.samples.map qan.toD), .arr 3 (t2.steps.map qbb.toD), .arr 7 (t2.blocks.map qar.toD), .map none (qb2 (val (decide (0 < t2.threads.length)) 8 t2.threads.length) (val (decide (0 < t2.slices.length)) 9 t2.slices.length) (val (decide (0 < t2.samples.length + t2.blocks.length)) 10 (frN t2).length) (val (decide (0 < t2.steps.length)) 11 t2.steps.length)), .frz 1 ((t2.threads.map (·.name)).map .str), .frz 1 ((t2.slices.map (·.name)).map .str), .frz 1 ((frN t2).map .str), .frz 1 ((t2.steps.map (·.name)).map .str), .map none (qb2 (some (.ptr 14 0)) (some (.ptr 16 0)) (some (.ptr 18 0)) none), .arr 1 [.str qau, .str qa6, .str qbc, .str qav], .box 3 (.agg [.d (.sl (l.map qap.toD)), .d (.str qau), .mapr 15]), .map none (qby (qc9 l qau (t2.threads.map (·.name)))), .box 3 (.agg [.d (.sl (l.map qap.toD)), .d (.str qa6), .mapr 17]), .map none (qby (qc9 l qa6 (t2.slices.map (·.name)))), .box 3 (.agg [.d (.sl (l.map qap.toD)), .d (.str qbc), .mapr 19]), .map none (qby (qc9 l qbc (frN t2)))] _
  simp only [zU, seval, L1, L2, L3, L4, M1, M2, M3, M4, L1s, L2s, L3s, L4s, M1s, M2s, M3s, M4s, qpj, qpi]
  refine qpq l qav hl (decide (0 < t2.steps.length)) 11 (t2.steps.map (·.name)) (by first | (simp only [List.length_map]; omega) | omega) (by first | rfl | simp only [List.length_map]) (fun hp => qmo _ hp) _ rfl ?_
  simp only [zU, seval, L1, L2, L3, L4, M1, M2, M3, M4, L1s, L2s, L3s, L4s, M1s, M2s, M3s, M4s, qpj, qpi]
  refine ifC.mk (fun hc => ?_) (fun hc => ?_)
  ·refine ⟨_, _, qdc rfl (x := qt6.toD) rfl, ?_, rfl⟩
   rw [e0, if_pos (by rw [quj, hc]; simp)]
  ·refine ⟨⟨fun _ => hok.1 (by omega), fun _ => hok.2.1 (by omega), fun _ => hok.2.2.1 (by omega), fun _ => hc⟩, ?_⟩
   refine qad [] [0, 1, 2, 3, 4, 5, 6, 7, 8, 9, 10, 11, 12, 13, 14, 15, 16, 17, 18, 19, 20, 21] rfl (by simp) ?_ ?_
   ·simp only [zU, seval, L1, L2, L3, L4, M1, M2, M3, M4, L1s, L2s, L3s, L4s, M1s, M2s, M3s, M4s, qpj, qpi, Int.reduceAdd]
    try rfl
   ·show [_, _, _, _, _, _, _, qbu _ _ (.map none (qb2 (val (decide (0 < t2.threads.length)) 8 t2.threads.length) (val (decide (0 < t2.slices.length)) 9 t2.slices.length) (val (decide (0 < t2.samples.length + t2.blocks.length)) 10 (frN t2).length) (val (decide (0 < t2.steps.length)) 11 t2.steps.length))), _, _, _, _, .map none (fun k => (qb2 (some (.ptr 14 0)) (some (.ptr 16 0)) (some (.ptr 18 0)) (some (.ptr 20 0)) k).map (qbf _ _)), _, _, qbu _ _ (.map none (qby (qc9 l qau (t2.threads.map (·.name))))), _, qbu _ _ (.map none (qby (qc9 l qa6 (t2.slices.map (·.name))))), _, qbu _ _ (.map none (qby (qc9 l qbc (frN t2)))), _, qbu _ _ (.map none (qby (qc9 l qav (t2.steps.map (·.name)))))] = _
    rw [qho _ _ _ _ _ _ _ _ rfl rfl rfl rfl, qed, qey, qey, qey, qey]; rfl
 ·obtain ⟨q1, q2, q3, q4⟩ := hok
  have ec : quj l t2 = false := by rw [quj, q1 (by omega), q2 (by omega), q3 (by omega), q4 (by omega)]; rfl
  rw [if_neg (by rw [ec]; simp)] at e0
  show evC _ _ _ _ _ [(0, .d (.sl (l.map qap.toD))), (3, .ptr 0 0), (4, .ptr 1 0), (8, .mapr 7), (9, .mapr 12), (34, .osl 13 0 4), (35, .d (.int .i64 4)), (36, .d (.int .i64 4))] [.box 10 (.agg [.d (.int .i64 t2.lo), .d (.int .i64 t2.hi), .osl 2 0 t2.threads.length, .osl 3 0 t2.slices.length, .d (.sl (t2.states.map qax.toD)), .d (.sl (t2.flows.map qbt.toD)), .osl 4 0 t2.samples.length, .osl 5 0 t2.steps.length, .osl 6 0 t2.blocks.length, .d (.sl (t2.lost.map qcc.toD))]), .box 10 zT, .arr 3 (t2.threads.map qao.toD), .arr 8 (t2.slices.map qag.toD), .arr 4 (t2.samples.map qan.toD), .arr 3 (t2.steps.map qbb.toD), .arr 7 (t2.blocks.map qar.toD), .map none (qb2 (val (decide (0 < t2.threads.length)) 8 t2.threads.length) (val (decide (0 < t2.slices.length)) 9 t2.slices.length) (val (decide (0 < t2.samples.length + t2.blocks.length)) 10 (frN t2).length) (val (decide (0 < t2.steps.length)) 11 t2.steps.length)), .frz 1 ((t2.threads.map (·.name)).map .str), .frz 1 ((t2.slices.map (·.name)).map .str), .frz 1 ((frN t2).map .str), .frz 1 ((t2.steps.map (·.name)).map .str), .map none (qb2 (some (.ptr 14 0)) (some (.ptr 16 0)) (some (.ptr 18 0)) (some (.ptr 20 0))), .arr 1 [.str qau, .str qa6, .str qbc, .str qav], .box 3 (.agg [.d (.sl (l.map qap.toD)), .d (.str qau), .mapr 15]), .map none (qby (qc9 l qau (t2.threads.map (·.name)))), .box 3 (.agg [.d (.sl (l.map qap.toD)), .d (.str qa6), .mapr 17]), .map none (qby (qc9 l qa6 (t2.slices.map (·.name)))), .box 3 (.agg [.d (.sl (l.map qap.toD)), .d (.str qbc), .mapr 19]), .map none (qby (qc9 l qbc (frN t2))), .box 3 (.agg [.d (.sl (l.map qap.toD)), .d (.str qav), .mapr 21]), .map none (qby (qc9 l qav (t2.steps.map (·.name))))] _
  simp only [zU, seval, L1, L2, L3, L4, M1, M2, M3, M4, L1s, L2s, L3s, L4s, M1s, M2s, M3s, M4s, qpj, qpi]
  repeat ((with_reducible refine And.intro ?_ ?_); (focus (first | omega | (simp only [qa2]; omega) | (refine qq ?_; rfl) | (refine dq ?_; kernel_rfl) | (intros; simp_all; done))))
  obtain ⟨t3, ht3⟩ : ∃ t3, t3 = Qrw l t2 := ⟨_, rfl⟩
  have hrep := Qat (Gl := G2) (l.map qap.toD) (qc9 l qau (t2.threads.map (·.name))) (qc9 l qa6 (t2.slices.map (·.name))) (qc9 l qbc (frN t2)) (qc9 l qav (t2.steps.map (·.name))) t2 ⟨h1, h2, h3, h4, h5, h6, h7, h8⟩ s2
  refine qaq ((qaf.under [2, 3, 4, 5, 6, 12, 14, 15, 16, 17, 18, 19, 20, 21] (by decide) (by simp) (R := fun r s => r = qev t3 ∧ s = Qhn t3 ++ [.map none (qb2 (some (.ptr 6 0)) (some (.ptr 8 0)) (some (.ptr 10 0)) (some (.ptr 12 0))), .box 3 (.agg [.d (.sl (l.map qap.toD)), .d (.str qau), .mapr 7]), .map none (qby (qc9 l qau (t2.threads.map (·.name)))), .box 3 (.agg [.d (.sl (l.map qap.toD)), .d (.str qa6), .mapr 9]), .map none (qby (qc9 l qa6 (t2.slices.map (·.name)))), .box 3 (.agg [.d (.sl (l.map qap.toD)), .d (.str qbc), .mapr 11]), .map none (qby (qc9 l qbc (frN t2))), .box 3 (.agg [.d (.sl (l.map qap.toD)), .d (.str qav), .mapr 13]), .map none (qby (qc9 l qav (t2.steps.map (·.name))))]) ?_).mono fun r s hss => ?_)
  ·have er : qdb [2, 3, 4, 5, 6, 12, 14, 15, 16, 17, 18, 19, 20, 21] [.box 10 (.agg [.d (.int .i64 t2.lo), .d (.int .i64 t2.hi), .osl 2 0 t2.threads.length, .osl 3 0 t2.slices.length, .d (.sl (t2.states.map qax.toD)), .d (.sl (t2.flows.map qbt.toD)), .osl 4 0 t2.samples.length, .osl 5 0 t2.steps.length, .osl 6 0 t2.blocks.length, .d (.sl (t2.lost.map qcc.toD))]), .box 10 zT, .arr 3 (t2.threads.map qao.toD), .arr 8 (t2.slices.map qag.toD), .arr 4 (t2.samples.map qan.toD), .arr 3 (t2.steps.map qbb.toD), .arr 7 (t2.blocks.map qar.toD), .map none (qb2 (val (decide (0 < t2.threads.length)) 8 t2.threads.length) (val (decide (0 < t2.slices.length)) 9 t2.slices.length) (val (decide (0 < t2.samples.length + t2.blocks.length)) 10 (frN t2).length) (val (decide (0 < t2.steps.length)) 11 t2.steps.length)), .frz 1 ((t2.threads.map (·.name)).map .str), .frz 1 ((t2.slices.map (·.name)).map .str), .frz 1 ((frN t2).map .str), .frz 1 ((t2.steps.map (·.name)).map .str), .map none (qb2 (some (.ptr 14 0)) (some (.ptr 16 0)) (some (.ptr 18 0)) (some (.ptr 20 0))), .arr 1 [.str qau, .str qa6, .str qbc, .str qav], .box 3 (.agg [.d (.sl (l.map qap.toD)), .d (.str qau), .mapr 15]), .map none (qby (qc9 l qau (t2.threads.map (·.name)))), .box 3 (.agg [.d (.sl (l.map qap.toD)), .d (.str qa6), .mapr 17]), .map none (qby (qc9 l qa6 (t2.slices.map (·.name)))), .box 3 (.agg [.d (.sl (l.map qap.toD)), .d (.str qbc), .mapr 19]), .map none (qby (qc9 l qbc (frN t2))), .box 3 (.agg [.d (.sl (l.map qap.toD)), .d (.str qav), .mapr 21]), .map none (qby (qc9 l qav (t2.steps.map (·.name))))] = Qhn t2 ++ [.map none (qb2 (some (.ptr 6 0)) (some (.ptr 8 0)) (some (.ptr 10 0)) (some (.ptr 12 0))), .box 3 (.agg [.d (.sl (l.map qap.toD)), .d (.str qau), .mapr 7]), .map none (qby (qc9 l qau (t2.threads.map (·.name)))), .box 3 (.agg [.d (.sl (l.map qap.toD)), .d (.str qa6), .mapr 9]), .map none (qby (qc9 l qa6 (t2.slices.map (·.name)))), .box 3 (.agg [.d (.sl (l.map qap.toD)), .d (.str qbc), .mapr 11]), .map none (qby (qc9 l qbc (frN t2))), .box 3 (.agg [.d (.sl (l.map qap.toD)), .d (.str qav), .mapr 13]), .map none (qby (qc9 l qav (t2.steps.map (·.name))))] := by
    show [_, _, _, _, _, .map none (fun k => ((qb2 (some (.ptr 14 0)) (some (.ptr 16 0)) (some (.ptr 18 0)) (some (.ptr 20 0))) k).map (qbf _ _)), _, qbu _ _ (.map none (qby (qc9 l qau (t2.threads.map (·.name))))), _, qbu _ _ (.map none (qby (qc9 l qa6 (t2.slices.map (·.name))))), _, qbu _ _ (.map none (qby (qc9 l qbc (frN t2)))), _, qbu _ _ (.map none (qby (qc9 l qav (t2.steps.map (·.name)))))] = _
    rw [qed, qey, qey, qey, qey]; rfl
   rw [er]
   rw [ht3]
   exact hrep
  obtain ⟨r0, s0, ⟨rfl, rfl⟩, rfl, rfl⟩ := hss
  have m2 : t3.slices.length ≤ 1000 := by rw [ht3]; show (t2.slices.map _).length ≤ 1000; rw [List.length_map]; exact h2
  have m3 : t3.states.length ≤ 1000 := by rw [ht3]; exact h3
  have m4 : t3.flows.length ≤ 1000 := by rw [ht3]; exact h4
  have m5 : t3.samples.length ≤ 1000 := by rw [ht3]; show (t2.samples.map _).length ≤ 1000; rw [List.length_map]; exact h5
  have m6 : t3.steps.length ≤ 1000 := by rw [ht3]; show (qj0 _ _).length ≤ 1000; rw [qm5, List.length_map]; exact h6
  have m7 : t3.blocks.length ≤ 1000 := by rw [ht3]; show (t2.blocks.map _).length ≤ 1000; rw [List.length_map]; exact h7
  have m8 : t3.lost.length ≤ 1000 := by rw [ht3]; exact h8
  rw [← ht3] at e0
  show qal _ _ _ _ _ _ (putE _ _ (.agg [.d (.int .i64 t3.lo), .d (.int .i64 t3.hi), .osl 2 0 t3.threads.length, .osl 3 0 t3.slices.length, .d (.sl (t3.states.map qax.toD)), .d (.sl (t3.flows.map qbt.toD)), .osl 4 0 t3.samples.length, .osl 5 0 t3.steps.length, .osl 6 0 t3.blocks.length, .d (.sl (t3.lost.map qcc.toD))])) [.box 10 (.agg [.d (.int .i64 t2.lo), .d (.int .i64 t2.hi), .osl 2 0 t2.threads.length, .osl 3 0 t2.slices.length, .d (.sl (t2.states.map qax.toD)), .d (.sl (t2.flows.map qbt.toD)), .osl 4 0 t2.samples.length, .osl 5 0 t2.steps.length, .osl 6 0 t2.blocks.length, .d (.sl (t2.lost.map qcc.toD))]), .box 10 zT, .arr 3 (t3.threads.map qao.toD), .arr 8 (t3.slices.map qag.toD), .arr 4 (t3.samples.map qan.toD), .arr 3 (t3.steps.map qbb.toD), .arr 7 (t3.blocks.map qar.toD), _, _, _, _, _, _, _, _, _, _, _, _, _, _, _] _
  simp only [zU, seval, L1, L2, L3, L4, M1, M2, M3, M4, L1s, L2s, L3s, L4s, M1s, M2s, M3s, M4s, qpj, qpi]
  repeat ((with_reducible refine And.intro ?_ ?_); (focus (first | omega | (simp only [qa2]; omega) | (refine qq ?_; rfl) | (refine dq ?_; kernel_rfl) | (intros; simp_all; done))))
  (try simp only [zU, seval, L1, L2, L3, L4, M1, M2, M3, M4, L1s, L2s, L3s, L4s, M1s, M2s, M3s, M4s, qpj, qpi, @qai ((t3.slices.length : Int) + t3.states.length) (by omega), @qai ((t3.slices.length : Int) + t3.states.length + t3.flows.length) (by omega), @qai ((t3.slices.length : Int) + t3.states.length + t3.flows.length + t3.samples.length) (by omega), @qai ((t3.slices.length : Int) + t3.states.length + t3.flows.length + t3.samples.length + t3.steps.length) (by omega), @qai ((t3.slices.length : Int) + t3.states.length + t3.flows.length + t3.samples.length + t3.steps.length + t3.blocks.length) (by omega), @qai ((t3.slices.length : Int) + t3.states.length + t3.flows.length + t3.samples.length + t3.steps.length + t3.blocks.length + t3.lost.length) (by omega)])
  refine ifC.mk (fun hc => ?_) (fun hc => ?_)
  ·have hr : Qch t3 = 0 := by simp only [beq_iff_eq] at hc; unfold Qch; omega
   refine ⟨_, _, qdc rfl (x := (Qoq t3).toD) ?_, ?_, rfl⟩
   ·rw [Qoq, if_pos hr]
    show D.agg [.int .i64 0, .int .i64 0, .sl (((t3.threads.map qao.toD).drop 0).take t3.threads.length), .sl (((t3.slices.map qag.toD).drop 0).take t3.slices.length), .sl (t3.states.map qax.toD), .sl (t3.flows.map qbt.toD), .sl (((t3.samples.map qan.toD).drop 0).take t3.samples.length), .sl (((t3.steps.map qbb.toD).drop 0).take t3.steps.length), .sl (((t3.blocks.map qar.toD).drop 0).take t3.blocks.length), .sl (t3.lost.map qcc.toD)] = _
    rw [List.drop_zero, qba, List.drop_zero, qba, List.drop_zero, qba, List.drop_zero, qba, List.drop_zero, qba]; rfl
   ·rw [e0]
  ·have hr : ¬ Qch t3 = 0 := by simp only [beq_eq_false_iff_ne, ne_eq] at hc; unfold Qch; omega
   refine ⟨_, _, qdc rfl (x := (Qoq t3).toD) ?_, ?_, rfl⟩
   ·rw [Qoq, if_neg hr]
    show D.agg [.int .i64 t3.lo, .int .i64 t3.hi, .sl (((t3.threads.map qao.toD).drop 0).take t3.threads.length), .sl (((t3.slices.map qag.toD).drop 0).take t3.slices.length), .sl (t3.states.map qax.toD), .sl (t3.flows.map qbt.toD), .sl (((t3.samples.map qan.toD).drop 0).take t3.samples.length), .sl (((t3.steps.map qbb.toD).drop 0).take t3.steps.length), .sl (((t3.blocks.map qar.toD).drop 0).take t3.blocks.length), .sl (t3.lost.map qcc.toD)] = _
    rw [List.drop_zero, qba, List.drop_zero, qba, List.drop_zero, qba, List.drop_zero, qba, List.drop_zero, qba]; rfl
   ·rw [e0]











theorem Qdh {P : Program} {f : FuncId} {args : List AV} {σ : Sto} {R R' : AV → Sto → Prop} (h : qaf P Gl f args σ R) (hw : ∀ r s, R r s → ∃ r' s', qcm σ.length r s r' s' ∧ R' r' s') : qaf P Gl f args σ R' :=
 fun w I μ vals h1 h2 h3 h4 => (h w I μ vals h1 h2 h3 h4).mono fun v w' q => by
  obtain ⟨r, s, I', μ', q1, q2, q3, q4⟩ := q
  obtain ⟨r', s', g1, g2⟩ := hw r s q4
  obtain ⟨I2, μ2, k1, k2, k3⟩ := g1 w' I' μ' v q1 q3 q2.len
  exact ⟨r', s', I2, μ2, k1, q2.trans k3, k2, g2⟩
def Qna (a b c d : Option D) (n : List UInt8) : Option D := if n = qau then a else if n = qa6 then b else if n = qbc then c else if n = qav then d else none
def q4t (p : Bool) (s : List (List UInt8)) : Option D := if p = true then some (.sl (s.map .str)) else none
def gN (t : qa4) : List UInt8 → Option D := Qna (q4t (decide (0 < t.threads.length)) (t.threads.map (·.name))) (q4t (decide (0 < t.slices.length)) (t.slices.map (·.name))) (q4t (decide (0 < t.samples.length + t.blocks.length)) (frN t)) (q4t (decide (0 < t.steps.length)) (t.steps.map (·.name)))
def kN (t : qa4) : Key → Option AV := qb2 ((q4t (decide (0 < t.threads.length)) (t.threads.map (·.name))).map .d) ((q4t (decide (0 < t.slices.length)) (t.slices.map (·.name))).map .d) ((q4t (decide (0 < t.samples.length + t.blocks.length)) (frN t)).map .d) ((q4t (decide (0 < t.steps.length)) (t.steps.map (·.name))).map .d)
theorem Qsq (t : qa4) (n : List UInt8) : kN t (.s n) = (gN t n).map AV.d := by
 unfold kN gN Qna
 simp only [qb2]
 repeat' split
 all_goals rfl
theorem q84 (t : qa4) : ∀ k v, kN t k = some v → ∃ d, v = AV.d d := by
 intro k v hv
 cases k with
 | i n => cases hv
 | s n =>
  rw [Qsq] at hv
  cases hg : gN t n with
  | none => rw [hg] at hv; cases hv
  | some d => rw [hg] at hv; cases hv; exact ⟨d, rfl⟩
theorem q6r : ∀ {a b : List (List UInt8)}, a.map D.str = b.map D.str → a = b := by
 intro a
 induction a with
 | nil => intro b h; cases b with | nil => rfl | cons _ _ => simp at h
 | cons x a ih => intro b h; cases b with
  | nil => simp at h
  | cons y b => simp only [List.map_cons, List.cons.injEq, D.str.injEq] at h; rw [h.1, ih h.2]
theorem Qiq (t : qa4) (ht : t.lim) (hs : t.limS) : qaf Tryz.prog Gl 44 [.d t.toD] [] (fun r s => r = .mapr 0 ∧ s = [.map none (kN t)]) := by
 refine Qdh (Qir t ht hs) fun r s hr => ?_
 obtain ⟨rfl, rfl⟩ := hr
 refine ⟨.mapr 0, [.map none (kN t)], ?_, rfl, rfl⟩
 obtain ⟨b1, hb1⟩ : ∃ b, b = decide (0 < t.threads.length) := ⟨_, rfl⟩
 obtain ⟨b2, hb2⟩ : ∃ b, b = decide (0 < t.slices.length) := ⟨_, rfl⟩
 obtain ⟨b3, hb3⟩ : ∃ b, b = decide (0 < t.samples.length + t.blocks.length) := ⟨_, rfl⟩
 obtain ⟨b4, hb4⟩ : ∃ b, b = decide (0 < t.steps.length) := ⟨_, rfl⟩
 unfold kN
 rw [← hb1, ← hb2, ← hb3, ← hb4]
 refine (Qhk (Qb4 0 [1, 2, 3, 4] rfl (by simp) ?_ ?_)).trans ?_
 ·intro k v hv
  cases k with
  | i n => cases hv
  | s n =>
   simp only [qb2] at hv
   have fin : ∀ (p : Bool) (i n : Nat) (σ : Sto), (qaa σ i).isArr = true → i ∈ [1, 2, 3, 4] → val p i n = some v → v.isD σ = true ∧ ∀ j ∈ v.refs, j ∈ [1, 2, 3, 4] := fun p i n σ ha hi hv => by
    cases p with
    | false => cases hv
    | true =>
     cases hv
     refine ⟨ha, fun j hj => ?_⟩
     simp only [AV.refs, q4m, List.mem_singleton] at hj
     rw [hj]; exact hi
   split at hv
   ·exact fin _ _ _ _ rfl (by decide) hv
   split at hv
   ·exact fin _ _ _ _ rfl (by decide) hv
   split at hv
   ·exact fin _ _ _ _ rfl (by decide) hv
   split at hv
   ·exact fin _ _ _ _ rfl (by decide) hv
   ·cases hv
 ·intro i hi
  simp only [List.mem_cons, List.not_mem_nil, or_false] at hi
  rcases hi with rfl | rfl | rfl | rfl <;> rfl
 ·rw [qed]
  refine qae [] [0] rfl (by simp) rfl ?_
  have e : ∀ (p : Bool) (i : Nat) (xs : List (List UInt8)) (n : Nat) (σ : Sto), n = xs.length → (qaa σ i).xs = xs.map .str → (val p i n).map (fun v => AV.d (v.toD σ)) = (q4t p xs).map .d := fun p i xs n σ hn hx => by
   cases p with
   | false => rfl
   | true =>
    show some (AV.d (.sl (((qaa σ i).xs.drop 0).take n))) = some (AV.d (.sl (xs.map .str)))
    rw [hx, List.drop_zero, List.take_of_length_le (by simp [hn])]
  show [qbu _ _ (.map none (qb2 _ _ _ _))] = _
  rw [e b1 1 (t.threads.map (·.name)) _ _ (by simp) rfl, e b2 2 (t.slices.map (·.name)) _ _ (by simp) rfl, e b3 3 (frN t) _ _ rfl rfl, e b4 4 (t.steps.map (·.name)) _ _ (by simp) rfl]
  refine congrArg (fun x => [x]) (qgf (B := .map none _) (fun k v hv => ?_) _ _)
  cases k with
  | i n => cases hv
  | s n =>
   simp only [qb2] at hv
   have fin : ∀ (o : Option D), o.map AV.d = some v → ∃ d, v = .d d := fun o ho => by
    cases o with
    | none => cases ho
    | some d => cases ho; exact ⟨d, rfl⟩
   split at hv
   ·exact fin _ hv
   split at hv
   ·exact fin _ hv
   split at hv
   ·exact fin _ hv
   split at hv
   ·exact fin _ hv
   ·cases hv
def okN (l : List qap) (what x : List UInt8) : Bool := qdp x || (qke what x l == qfe)
def qtq (l : List qap) (t : qa4) : Bool := (t.threads.map (·.name)).all (okN l qau) && (t.slices.map (·.name)).all (okN l qa6) && (frN t).all (okN l qbc) && (t.steps.map (·.name)).all (okN l qav)
def Qq0 (l : List qap) (t : qa4) (what : List UInt8) : Prop := ∀ xs : List (List UInt8), gN t what = some (.sl (xs.map .str)) → xs.all (okN l what) = true
theorem Qfm (t : qa4) {what : List UInt8} {x : D} (h : gN t what = some x) : ∃ xs : List (List UInt8), x = .sl (xs.map .str) ∧ (what = qau ∧ xs = t.threads.map (·.name) ∨ what = qa6 ∧ xs = t.slices.map (·.name) ∨ what = qbc ∧ xs = frN t ∨ what = qav ∧ xs = t.steps.map (·.name)) := by
 have fin : ∀ (p : Bool) (s : List (List UInt8)), q4t p s = some x → x = .sl (s.map .str) := fun p s ho => by
  cases p with
  | false => cases ho
  | true => cases ho; rfl
 unfold gN Qna at h
 split at h
 ·rename_i e; exact ⟨_, fin _ _ h, .inl ⟨e, rfl⟩⟩
 split at h
 ·rename_i e; exact ⟨_, fin _ _ h, .inr (.inl ⟨e, rfl⟩)⟩
 split at h
 ·rename_i e; exact ⟨_, fin _ _ h, .inr (.inr (.inl ⟨e, rfl⟩))⟩
 split at h
 ·rename_i e; exact ⟨_, fin _ _ h, .inr (.inr (.inr ⟨e, rfl⟩))⟩
 ·cases h
theorem Qsy (t : qa4) : gN t qau = q4t (decide (0 < t.threads.length)) (t.threads.map (·.name)) := rfl
theorem Qsx (t : qa4) : gN t qa6 = q4t (decide (0 < t.slices.length)) (t.slices.map (·.name)) := rfl
theorem Qsw (t : qa4) : gN t qbc = q4t (decide (0 < t.samples.length + t.blocks.length)) (frN t) := rfl
theorem Qsv (t : qa4) : gN t qav = q4t (decide (0 < t.steps.length)) (t.steps.map (·.name)) := rfl
theorem Qjm {l : List qap} {t : qa4} (h : ∀ what x, gN t what = some x → Qq0 l t what) : qtq l t = true := by
 have fin : ∀ (what : List UInt8) (p : Bool) (s : List (List UInt8)), gN t what = q4t p s → (p = false → s = []) → s.all (okN l what) = true := fun what p s hg hp => by
  cases p with
  | false => rw [hp rfl]; rfl
  | true => exact h what (.sl (s.map .str)) hg s hg
 rw [qtq, fin _ _ _ (Qsy t) (fun h => qmo _ h), fin _ _ _ (Qsx t) (fun h => qmo _ h), fin _ _ _ (Qsw t) (fun h => Qfo h), fin _ _ _ (Qsv t) (fun h => qmo _ h)]
 rfl
theorem Qr4 {p : List UInt8 → Bool} {xs : List (List UInt8)} {k : Nat} (h : k < xs.length) (hp : p (xs.getD k default) = false) : xs.all p = false := by
 rw [Bool.eq_false_iff]
 intro ha
 have := (List.all_eq_true.1 ha) (xs.getD k default) (qct h)
 rw [hp] at this; cases this
theorem Qn6 {l : List qap} {t : qa4} {what : List UInt8} {xs : List (List UInt8)} (h : what = qau ∧ xs = t.threads.map (·.name) ∨ what = qa6 ∧ xs = t.slices.map (·.name) ∨ what = qbc ∧ xs = frN t ∨ what = qav ∧ xs = t.steps.map (·.name)) (ha : xs.all (okN l what) = false) : qtq l t = false := by
 rcases h with ⟨rfl, rfl⟩ | ⟨rfl, rfl⟩ | ⟨rfl, rfl⟩ | ⟨rfl, rfl⟩ <;> simp [qtq, ha]
def Qsn (t : qa4) : Prop := ∀ (what : List UInt8) (xs : List (List UInt8)), gN t what = some (.sl (xs.map .str)) → xs.length < 1000000 ∧ ∀ x ∈ xs, x.length < 9223372036854775808
theorem Qe2 (l : List qap) (t : qa4) (hl : l.length < 1000000) (ht : t.lim) (hs : t.limS) (hn : Qsn t) : qbw Tryz.prog Gl 23 [.d (.sl (l.map qap.toD)), .d t.toD] (.d (.bool (qtq l t))) := by
 refine qbw.of2 ?_
 refine qac Tryz.func23 rfl rfl (by simp [Tryz.ntmps23]) (AWp.seq (qab rfl _ _ _ _ ?_))
 simp only [Tryz.ntmps23, Tryz.results23, qak, List.length_nil]
 simp only [zU, seval]
 refine AWp.seq (Qbm (tM := 10) (tI := 11) (tN := 12) (tB := 13) (tE := 14) (t := 77) (e := 28) ?_ ?_ ?_ ?_ ?_ ?_ ?_ ?_ ?_ (show 11 < 34 by decide) (show 12 < 34 by decide) (show 14 < 34 by decide) (by kernel_rfl) ?_)
 rotate_left 9
 ·obtain ⟨L, hL⟩ : ∃ L, L = D.sl (l.map qap.toD) := ⟨_, rfl⟩
  refine qcn (K1 := fun e1 s1 => qhn 34 0 e1 s1 [(0, .d (.sl (l.map qap.toD))), (10, .mapr 0)] [.map none (kN t)]) (fun e1 s1 hw => ⟨_, _, 0, kN t, gN t, [(0, .d (.sl (l.map qap.toD))), (11, .ptr 1 0)], [.dead, .frz 0 []], Qq0 l t, hw, rfl, rfl, Qsq t, ?wk, rfl, rfl, fun b => ?nx, fun what x hx => ?bd, fun hall => ?en⟩) _ _ _ ?op
  case wk =>
   refine qad [] [0, 1] rfl (by simp) ?_ rfl
   simp only [zU, seval, List.length_cons, List.length_nil]
   try rfl
  case nx =>
   refine qcn (K1 := fun e1 s1 => e1 = putE (putE [(0, .d (.sl (l.map qap.toD))), (11, .ptr 1 0)] (some 12) (if b = true then .tup [.d (.bool true), .undef, .undef] else .tup [.d (.bool false)])) (some 13) (.d (.bool b)) ∧ s1 = [.dead, .frz 0 []]) (fun e1 s1 hw => ?_) _ _ _ ?_
   ·obtain ⟨rfl, rfl⟩ := hw
    refine ⟨rfl, ?_⟩
    refine qad [] [0, 1] rfl (by simp) ?_ rfl
    cases b <;> rfl
   ·cases b
    ·simp only [zU, seval]
    ·simp only [zU, seval]
  case bd =>
   obtain ⟨xs, rfl, hcase⟩ := Qfm t hx
   obtain ⟨hn1, hn2⟩ := hn what xs hx
   refine qcn (K1 := fun e1 s1 => qhn 34 2 e1 s1 [(0, .d (.sl (l.map qap.toD))), (5, .d (.str what)), (6, .d (.sl (xs.map .str))), (11, .ptr 1 0)] [.dead, .frz 0 []]) (fun e1 s1 hw => ?_) _ _ _ ?_
   ·refine AWp.weak hw (qab rfl _ _ _ _ ?_)
    simp only [zU, seval]
    refine qa7 xs.length (fun k => [(0, .d (.sl (l.map qap.toD))), (5, .d (.str what)), (11, .ptr 1 0), (17, .d (.sl (xs.map .str))), (18, .d (.int .i64 xs.length)), (19, .d (.int .i64 k))]) (fun _ => [.dead, .frz 0 []]) (fun k => (xs.take k).all (okN l what) = true) rfl ?_ ?_
    ·refine qad [] [0, 1] rfl (by simp) ?_ rfl
     simp only [zU, seval]
     all_goals rfl
    ·intro k hi hk
     by_cases h : k < xs.length
     ·have hxk := hn2 (xs.getD k default) (qct h)
      simp only [zU, seval, (show (k:Int) < xs.length by omega), h, qat _ _ _ (show k < xs.length by omega)]
      repeat ((with_reducible refine And.intro ?_ ?_); (focus (first | omega | (simp only [qa2]; omega) | (refine qq ?_; rfl) | (refine dq ?_; kernel_rfl) | (intros; simp_all; done))))
      refine qah (Qa0 _ hxk) ?_
      simp only [zU, seval]
      repeat ((with_reducible refine And.intro ?_ ?_); (focus (first | omega | (simp only [qa2]; omega) | (refine qq ?_; rfl) | (refine dq ?_; kernel_rfl) | (intros; simp_all; done))))
      refine qbs (fun _ => qez l what _ hl) ?_
      simp only [zU, seval]
      repeat ((with_reducible refine And.intro ?_ ?_); (focus (first | omega | (simp only [qa2]; omega) | (refine qq ?_; rfl) | (refine dq ?_; kernel_rfl) | (intros; simp_all; done))))
      have hstep : (xs.take (k + 1)).all (okN l what) = okN l what (xs.getD k default) := by rw [qa1 xs k h, List.all_append, hi]; simp
      refine ifC.mk (fun hc => ?_) (fun hc => ?_)
      ·have hc : okN l what (xs.getD k default) = false := by
        unfold okN
        cases e1 : qdp (xs.getD k default) <;> simp_all [qfe]
       refine ⟨_, _, qa0, ?_, rfl⟩
       rw [Qn6 hcase (Qr4 h hc)]
      ·have hc : okN l what (xs.getD k default) = true := by
        unfold okN
        cases e1 : qdp (xs.getD k default) <;> simp_all [qfe]
       refine ⟨by rw [hstep]; exact hc, ?_⟩
       refine qad [] [0, 1] rfl (by simp) ?_ rfl
       simp only [zU, seval, @qai ((k:Int) + 1) (by omega)]
       all_goals rfl
     ·have : k = xs.length := by omega
      subst this
      rw [List.take_length] at hi
      simp only [zU, seval, (show ¬ (xs.length:Int) < xs.length by omega)]
      refine ⟨fun ys hy => ?_, ?_⟩
      ·have e := D.sl.inj (Option.some.inj (hx.symm.trans hy))
       rw [← q6r e]; exact hi
      ·refine qad [] [0, 1] rfl (by simp) ?_ rfl
       simp only [zU, seval]
       all_goals rfl
   ·simp only [zU, seval]
    refine qad [] [0, 1] rfl (by simp) ?_ rfl
    simp only [zU, seval]
    all_goals rfl
  case en =>
   show AWp _ _ _ _ _ _ _ _
   refine qab rfl _ _ _ _ ?_
   simp only [zU, seval]
   refine ⟨_, _, qa0, ?_, rfl⟩
   rw [Qjm hall]
  case op =>
   simp only [zU, seval]
   refine qbz (R := fun r ν => r = .mapr 0 ∧ ν = [.map none (kN t)]) [] [] (by simp) (by simp) rfl rfl (fun j i h => by simp at h) ((Qiq t ht hs).mono fun r s hr => ⟨s, by rw [List.nil_append], hr.1, hr.2⟩) (fun r ν hr => ?_)
   obtain ⟨rfl, rfl⟩ := hr
   rw [show ([.map none (kN t)] : Sto).map (qc3 (qb1 [] ([Blk.box 10 (.d t.toD)] : Sto).length)) = [.map none (kN t)] from congrArg (fun x => [x]) (qgg (B := .map none (kN t)) (q84 t) _)]
   simp only [zU, seval]
   refine qad [] [1] rfl (by simp) ?_ ?_
   ·simp only [zU, seval]
    try rfl
   ·exact congrArg (fun x => [x]) (qgf (B := .map none (kN t)) (q84 t) _ _)
 all_goals rfl

def Qrc (t : qa4) : Nat → List (List UInt8)
 | 0 => t.threads.map (·.name)
 | 1 => t.slices.map (·.name)
 | 2 => frN t
 | _ => t.steps.map (·.name)
def Qrn (t : qa4) : Prop := ∀ k, k < 4 → (Qrc t k).length < 1000000 ∧ ∀ x ∈ Qrc t k, x.length < 9223372036854775808
theorem Qd7 {t : qa4} (h : Qrn t) : Qsn t := fun what xs hg => by
 obtain ⟨ys, e, hc⟩ := Qfm t hg
 have e2 : xs = ys := q6r (D.sl.inj e)
 subst e2
 rcases hc with ⟨_, rfl⟩ | ⟨_, rfl⟩ | ⟨_, rfl⟩ | ⟨_, rfl⟩
 ·exact h 0 (by omega)
 ·exact h 1 (by omega)
 ·exact h 2 (by omega)
 ·exact h 3 (by omega)

end YtljpopkonkanlaaGreatDoor
end Go.Proofs

set_option maxRecDepth 100000
namespace Go.Proofs
open Go.AM
namespace YtljpopkonkanlaaGreatDoor
end YtljpopkonkanlaaGreatDoor
end Go.Proofs

set_option maxRecDepth 100000
namespace Go.Proofs
open Go.AM
namespace YtljpopkonkanlaaGreatDoor
variable {Gl : qa5}
def exA : qa4 := ⟨0, 10, [⟨1, [109, 97, 105, 110], 0⟩], [⟨1, -1, 0, [97], 0, 10, 4, false⟩, ⟨1, 0, 1, [98], 2, 8, 4, false⟩, ⟨1, 1, 2, [99], 3, 5, 2, false⟩], [⟨1, 5, 0, 10, -1, -1, -1⟩], [], [], [], [], []⟩
def exL : List qap := [⟨qbc, [119], q4k⟩, ⟨qa6, [98], qt9⟩]
def exN : List (List UInt8) := [[119, 114, 105, 116, 101, 114], [109, 97, 105, 110], [119, 111, 114, 107, 101, 114], [119, 114, 105, 116, 101, 114]]
def exW : List (List UInt8) := [[104, 105, 100, 100, 101, 110, 45, 49], [109, 97, 105, 110], [104, 105, 100, 100, 101, 110, 45, 50], [104, 105, 100, 100, 101, 110, 45, 49]]
def exS : qag := ⟨1, 0, 1, [99], 3, 5, 2, false⟩
theorem Qnw : exA.Few := by constructor <;> first | decide | (intro x hx; cases hx)
theorem Qf1 : exA.lim := by refine ⟨?_, ?_, ?_, ?_, ?_, ?_, ?_, ?_⟩ <;> decide
theorem q9k : exA.limS := ⟨fun x hx => (by cases hx), fun x hx => (by cases hx)⟩
theorem Qji : qgp exA.slices := by
 intro i hi
 match i, hi with
 | 0, _ => decide
 | 1, _ => decide
 | 2, _ => decide
theorem Qf0 : qzc exL qbc exN = exW := by decide +kernel
theorem Qjg : q4b exL qbc exN = 0 := by decide +kernel
theorem Qnx : (qt7 exL exA).2 = 0 := by decide +kernel
theorem Qfz : (qt7 exL exA).1.slices = [⟨1, -1, 0, [97], 0, 10, 8, false⟩, exS] := by decide +kernel
theorem Ql6 : (qt7 exL exA).1.threads = [⟨1, [109, 97, 105, 110], 0⟩] := by decide +kernel
theorem Qq3 : frN (qt7 exL exA).1 = [] := by decide +kernel
theorem Ql8 : (qt7 exL exA).1.samples = [] := by decide +kernel
theorem Ql9 : (qt7 exL exA).1.blocks = [] := by decide +kernel
theorem Ql7 : (qt7 exL exA).1.steps = [] := by decide +kernel
theorem Qjf : (qt7 exL exA).1.states.length ≤ 1000 ∧ (qt7 exL exA).1.flows.length ≤ 1000 ∧ (qt7 exL exA).1.lost.length ≤ 1000 := by decide +kernel
theorem Qnz : qtq exL (qt7 exL exA).1 = true := by decide +kernel
theorem Qny : qtq exL exA = false := by decide +kernel
theorem Qq5 : qke qa6 [98, 99] exL = qt9 := by decide +kernel
theorem Qq4 : qke qa6 [97] exL = qfe := by decide +kernel
theorem Qn0 : qme exL = 0 := by decide +kernel
theorem Qnv : (qt7 exL exA).1.lim := by
 obtain ⟨h1, h2, h3⟩ := Qjf
 unfold qa4.lim
 rw [Ql6, Qfz, Ql8, Ql9, Ql7]
 exact ⟨by decide, by decide, h1, h2, by decide, by decide, by decide, h3⟩
theorem Qjd : (qt7 exL exA).1.limS := by
 unfold qa4.limS
 rw [Ql8, Ql9]
 exact ⟨fun x hx => (by cases hx), fun x hx => (by cases hx)⟩
theorem Qd8 {t : qa4} {A B C E : List (List UInt8)} (h1 : t.threads.map (·.name) = A) (h2 : t.slices.map (·.name) = B) (h3 : frN t = C) (h4 : t.steps.map (·.name) = E)
  (h : (A.length < 1000000 ∧ B.length < 1000000 ∧ C.length < 1000000 ∧ E.length < 1000000) ∧ ([A, B, C, E].all fun s => s.all fun x => decide (x.length < 9223372036854775808)) = true) : Qrn t := fun k hk => by
 obtain ⟨⟨a1, a2, a3, a4⟩, ha⟩ := h
 simp only [List.all_cons, List.all_nil, Bool.and_true, Bool.and_eq_true, List.all_eq_true, decide_eq_true_eq] at ha
 obtain ⟨b1, b2, b3, b4⟩ := ha
 match k, hk with
 | 0, _ => show (t.threads.map (·.name)).length < _ ∧ _; rw [h1]; exact ⟨a1, fun x hx => b1 x (by rw [← h1]; exact hx)⟩
 | 1, _ => show (t.slices.map (·.name)).length < _ ∧ _; rw [h2]; exact ⟨a2, fun x hx => b2 x (by rw [← h2]; exact hx)⟩
 | 2, _ => show (frN t).length < _ ∧ _; rw [h3]; exact ⟨a3, fun x hx => b3 x (by rw [← h3]; exact hx)⟩
 | 3, _ => show (t.steps.map (·.name)).length < _ ∧ _; rw [h4]; exact ⟨a4, fun x hx => b4 x (by rw [← h4]; exact hx)⟩
theorem Qje : Qrn (qt7 exL exA).1 := Qd8 (A := [[109, 97, 105, 110]]) (B := [[97], [99]]) (C := []) (E := []) (by rw [Ql6]; rfl) (by rw [Qfz]; rfl) Qq3 (by rw [Ql7]; rfl) (by decide)
theorem Qjh : Qrn exA := Qd8 (A := [[109, 97, 105, 110]]) (B := [[97], [98], [99]]) (C := []) (E := []) rfl rfl rfl rfl (by decide)
theorem q3i : qbw Tryz.prog Gl 29 [] (.d exA.toD) := by
 refine qbw.of0 ?_
 refine qac Tryz.func29 rfl rfl (by simp [Tryz.ntmps29]) (qab rfl _ _ _ _ ?_)
 simp only [Tryz.ntmps29, Tryz.results29, qak, List.length_nil]
 simp only [zU, seval]
 repeat ((with_reducible refine And.intro ?_ ?_); (focus (first | omega | (simp only [qa2]; omega) | (refine qq ?_; rfl) | (refine dq ?_; kernel_rfl) | (intros; simp_all; done))))
 refine ⟨_, _, q60 rfl ?_, rfl, rfl⟩
 rfl
theorem Qit (a b : List (List UInt8)) (n : Nat) (hb : b.length = n) (ha : a.length < 1000000) (hn : n < 1000000) (B : Blk) (hB : qdz 1 (b.map .str) B) : qaf Tryz.prog Gl 17 [.d (.sl (a.map .str)), .osl 0 0 n] [B] (fun r s => r = .d (.bool (a == b)) ∧ s = [B]) := by
 rcases hB with rfl | rfl
 ·refine qac Tryz.func17 rfl rfl (by simp [Tryz.ntmps17]) (qab rfl _ _ _ _ ?_)
  simp only [Tryz.ntmps17, Tryz.results17, qak, List.length_nil]
  simp only [zU, seval]
  (try simp only [zU, seval, hb])
  repeat ((with_reducible refine And.intro ?_ ?_); (focus (first | omega | (simp only [qa2]; omega) | (refine qq ?_; rfl) | (refine dq ?_; kernel_rfl) | (intros; simp_all; done))))
  refine ifC.mk (fun h0 => ?_) (fun h0 => ?_)
  ·have h0 : ¬ a.length = b.length := by simp at h0; omega
   refine ⟨_, _, qae [] [0] rfl (by simp) (show qbf _ _ _ = AV.d _ from rfl) rfl, ?_, rfl⟩
   have : (a == b) = false := by
    rw [Bool.eq_false_iff]; intro h; exact h0 (congrArg List.length (by simpa using h))
   rw [this]
  ·have h0 : a.length = b.length := by simp at h0; omega
   refine qa7 a.length (fun k => [(0, .d (.sl (a.map .str))), (1, .osl 0 0 n), (5, .d (.int .i64 k))]) (fun _ => [.arr 1 (b.map .str)]) (fun k => a.take k = b.take k) rfl ?_ ?_
   ·refine qad [] [0] rfl (by simp) ?_ rfl
    simp only [zU, seval]
    all_goals rfl
   ·intro k hi hk
    by_cases h : k < a.length
    ·have hb2 : k < b.length := by omega
     have hb3 : k < n := by omega
     simp only [zU, seval, (show (k:Int) < a.length by omega), (show (k:Int) < n by omega), h, hb2, hb3, qat _ _ _ (show k < a.length by omega), qat _ _ _ (show k < b.length by omega)]
     repeat ((with_reducible refine And.intro ?_ ?_); (focus (first | omega | (simp only [qa2]; omega) | (refine qq ?_; rfl) | (refine dq ?_; kernel_rfl) | (intros; simp_all; done))))
     refine ifC.mk (fun hc => ?_) (fun hc => ?_)
     ·have hc : ¬ a.getD k default = b.getD k default := by simpa using hc
      refine ⟨_, _, qae [] [0] rfl (by simp) (show qbf _ _ _ = AV.d _ from rfl) rfl, ?_, rfl⟩
      have : (a == b) = false := by
       rw [Bool.eq_false_iff]; intro h; exact hc (by rw [show a = b by simpa using h])
      rw [this]
     ·have hc : a.getD k default = b.getD k default := by simpa using hc
      refine ⟨by rw [qa1 a k h, qa1 b k hb2, hi, hc], ?_⟩
      refine qad [] [0] rfl (by simp) ?_ rfl
      simp only [zU, seval, @qai ((k:Int) + 1) (by omega)]
      all_goals rfl
    ·simp only [zU, seval, (show ¬ (k:Int) < a.length by omega)]
     have : k = a.length := by omega
     subst this
     refine ⟨_, _, qae [] [0] rfl (by simp) (show qbf _ _ _ = AV.d _ from rfl) rfl, ?_, rfl⟩
     rw [List.take_length, h0, List.take_length] at hi
     rw [hi]; simp
 ·refine qac Tryz.func17 rfl rfl (by simp [Tryz.ntmps17]) (qab rfl _ _ _ _ ?_)
  simp only [Tryz.ntmps17, Tryz.results17, qak, List.length_nil]
  simp only [zU, seval]
  (try simp only [zU, seval, hb])
  repeat ((with_reducible refine And.intro ?_ ?_); (focus (first | omega | (simp only [qa2]; omega) | (refine qq ?_; rfl) | (refine dq ?_; kernel_rfl) | (intros; simp_all; done))))
  refine ifC.mk (fun h0 => ?_) (fun h0 => ?_)
  ·have h0 : ¬ a.length = b.length := by simp at h0; omega
   refine ⟨_, _, qae [] [0] rfl (by simp) (show qbf _ _ _ = AV.d _ from rfl) rfl, ?_, rfl⟩
   have : (a == b) = false := by
    rw [Bool.eq_false_iff]; intro h; exact h0 (congrArg List.length (by simpa using h))
   rw [this]
  ·have h0 : a.length = b.length := by simp at h0; omega
   refine qa7 a.length (fun k => [(0, .d (.sl (a.map .str))), (1, .osl 0 0 n), (5, .d (.int .i64 k))]) (fun _ => [.frz 1 (b.map .str)]) (fun k => a.take k = b.take k) rfl ?_ ?_
   ·refine qad [] [0] rfl (by simp) ?_ rfl
    simp only [zU, seval]
    all_goals rfl
   ·intro k hi hk
    by_cases h : k < a.length
    ·have hb2 : k < b.length := by omega
     have hb3 : k < n := by omega
     simp only [zU, seval, (show (k:Int) < a.length by omega), (show (k:Int) < n by omega), h, hb2, hb3, qat _ _ _ (show k < a.length by omega), qat _ _ _ (show k < b.length by omega)]
     repeat ((with_reducible refine And.intro ?_ ?_); (focus (first | omega | (simp only [qa2]; omega) | (refine qq ?_; rfl) | (refine dq ?_; kernel_rfl) | (intros; simp_all; done))))
     refine ifC.mk (fun hc => ?_) (fun hc => ?_)
     ·have hc : ¬ a.getD k default = b.getD k default := by simpa using hc
      refine ⟨_, _, qae [] [0] rfl (by simp) (show qbf _ _ _ = AV.d _ from rfl) rfl, ?_, rfl⟩
      have : (a == b) = false := by
       rw [Bool.eq_false_iff]; intro h; exact hc (by rw [show a = b by simpa using h])
      rw [this]
     ·have hc : a.getD k default = b.getD k default := by simpa using hc
      refine ⟨by rw [qa1 a k h, qa1 b k hb2, hi, hc], ?_⟩
      refine qad [] [0] rfl (by simp) ?_ rfl
      simp only [zU, seval, @qai ((k:Int) + 1) (by omega)]
      all_goals rfl
    ·simp only [zU, seval, (show ¬ (k:Int) < a.length by omega)]
     have : k = a.length := by omega
     subst this
     refine ⟨_, _, qae [] [0] rfl (by simp) (show qbf _ _ _ = AV.d _ from rfl) rfl, ?_, rfl⟩
     rw [List.take_length, h0, List.take_length] at hi
     rw [hi]; simp
end YtljpopkonkanlaaGreatDoor
end Go.Proofs

set_option maxRecDepth 100000
namespace Go.Proofs
open Go.AM
namespace YtljpopkonkanlaaGreatDoor
theorem Qqn (a b : qag) : qhp Tryz.prog 57 .eql (.d a.toD) (.d b.toD) = True := eq_true (by
 refine (show True ∧ (match qyw Tryz.prog 57 with | some l => qmd l _ _ = true | none => False) from ⟨trivial, ?_⟩)
 rw [Qo2]; rfl)
theorem qzl : qbw Tryz.prog G2 10 [] (.d (.bool true)) := by
 refine qbw.of0 ?_
 refine qac Tryz.func10 rfl rfl (by simp [Tryz.ntmps10]) (qab rfl _ _ _ _ ?_)
 simp only [Tryz.ntmps10, Tryz.results10, qak, List.length_nil]
 simp only [zU, seval]
 repeat ((with_reducible refine And.intro ?_ ?_); (focus (first | omega | (simp only [qa2]; omega) | (refine qq ?_; rfl) | (refine dq ?_; kernel_rfl) | (intros; simp_all; done))))
 refine qtv (σ' := [.frz 3 (exL.map qap.toD), .frz 1 (exN.map .str)]) (Qe1 exL qbc exN (by decide) (by decide)) rfl rfl ?_
 rw [Qf0, Qjg]
 simp only [zU, seval]
 repeat ((with_reducible refine And.intro ?_ ?_); (focus (first | omega | (simp only [qa2]; omega) | (refine qq ?_; rfl) | (refine dq ?_; kernel_rfl) | (intros; simp_all; done))))
 refine qah q3i ?_
 simp only [zU, seval]
 refine qtv (σ' := [.frz 3 (exL.map qap.toD), .frz 1 (exN.map .str)]) (Qnk exL exA (by decide) Qnw Qf1 q9k (fun _ => Qji) (fun _ => by decide)) rfl rfl ?_
 have hl := Qnv
 have hls := Qjd
 have hla := Qje
 have hsl := Qfz
 have hcl := Qnz
 rw [Qnx]
 obtain ⟨R, hR⟩ : ∃ R, R = (qt7 exL exA).1 := ⟨_, rfl⟩
 rw [← hR] at hl hls hla hsl hcl ⊢
 clear hR
 have hsn : R.slices.length = 2 := by rw [hsl]; rfl
 have hs0 : (R.slices.map qag.toD).getD 0 default = (⟨1, -1, 0, [97], 0, 10, 8, false⟩ : qag).toD := by rw [hsl]; rfl
 have hs1 : (R.slices.map qag.toD).getD 1 default = (.agg [.int .i64 1, .int .i64 0, .int .i64 1, .str [99], .int .i64 3, .int .i64 5, .int .i64 2, .bool false]) := by rw [hsl]; rfl
 simp only [zU, seval, hsn, hs0, hs1]
 repeat ((with_reducible refine And.intro ?_ ?_); (focus (first | omega | (simp only [qa2]; omega) | (refine qq ?_; rfl) | (refine dq ?_; kernel_rfl) | (intros; simp_all; done))))
 refine Qgj (v := .bool (exW == exW)) 3 (fun B hB => Qit exW exW 4 rfl (by decide) (by decide) B hB) (fun s => rfl) rfl ?_
 have q1 : qew Tryz.prog 57 .eql (.agg [.int .i64 1, .int .i64 0, .int .i64 1, .str [99], .int .i64 3, .int .i64 5, .int .i64 2, .bool false]) (.agg [.int .i64 1, .int .i64 0, .int .i64 1, .str [99], .int .i64 3, .int .i64 5, .int .i64 2, .bool false]) = True := Qqn exS exS
 have q2 : qmf .eql (.agg [.int .i64 1, .int .i64 0, .int .i64 1, .str [99], .int .i64 3, .int .i64 5, .int .i64 2, .bool false]) (.agg [.int .i64 1, .int .i64 0, .int .i64 1, .str [99], .int .i64 3, .int .i64 5, .int .i64 2, .bool false]) = .bool true := rfl
 have hww : (exW == exW) = true := by decide
 rw [hww]
 simp only [zU, seval, hsn, hs0, hs1, q1, q2]
 repeat ((with_reducible refine And.intro ?_ ?_); (focus (first | omega | (simp only [qa2]; omega) | (refine qq ?_; rfl) | (refine dq ?_; kernel_rfl) | (intros; simp_all; done))))
 refine ql4 (v := .d (.bool true)) (xs := [.sl (exL.map qap.toD), R.toD]) (fun _ => by rw [← hcl]; exact Qe2 exL R (by decide) hl hls (Qd7 hla)) (.cons (.osl (es := 3) (xs := exL.map qap.toD) rfl rfl) (.cons (.d _) .nil)) ?_
 simp only [zU, seval]
 repeat ((with_reducible refine And.intro ?_ ?_); (focus (first | omega | (simp only [qa2]; omega) | (refine qq ?_; rfl) | (refine dq ?_; kernel_rfl) | (intros; simp_all; done))))
 refine qbs (v := .d exA.toD) (fun _ => q3i) ?_
 simp only [zU, seval]
 repeat ((with_reducible refine And.intro ?_ ?_); (focus (first | omega | (simp only [qa2]; omega) | (refine qq ?_; rfl) | (refine dq ?_; kernel_rfl) | (intros; simp_all; done))))
 refine ql4 (v := .d (.bool false)) (xs := [.sl (exL.map qap.toD), exA.toD]) (fun _ => by rw [← Qny]; exact Qe2 exL exA (by decide) Qf1 q9k (Qd7 Qjh)) (.cons (.osl (es := 3) (xs := exL.map qap.toD) rfl rfl) (.cons (.d _) .nil)) ?_
 simp only [zU, seval]
 repeat ((with_reducible refine And.intro ?_ ?_); (focus (first | omega | (simp only [qa2]; omega) | (refine qq ?_; rfl) | (refine dq ?_; kernel_rfl) | (intros; simp_all; done))))
 refine ql4 (v := .d (.str qt9)) (xs := [.sl (exL.map qap.toD), .str qa6, .str [98, 99]]) (fun _ => by rw [← Qq5]; exact qez exL qa6 [98, 99] (by decide)) (.cons (.osl (es := 3) (xs := exL.map qap.toD) rfl rfl) (.cons (.d _) (.cons (.d _) .nil))) ?_
 simp only [zU, seval, qt9]
 repeat ((with_reducible refine And.intro ?_ ?_); (focus (first | omega | (simp only [qa2]; omega) | (refine qq ?_; rfl) | (refine dq ?_; kernel_rfl) | (intros; simp_all; done))))
 refine ql4 (v := .d (.str qfe)) (xs := [.sl (exL.map qap.toD), .str qa6, .str [97]]) (fun _ => by rw [← Qq4]; exact qez exL qa6 [97] (by decide)) (.cons (.osl (es := 3) (xs := exL.map qap.toD) rfl rfl) (.cons (.d _) (.cons (.d _) .nil))) ?_
 simp only [zU, seval, qfe]
 repeat ((with_reducible refine And.intro ?_ ?_); (focus (first | omega | (simp only [qa2]; omega) | (refine qq ?_; rfl) | (refine dq ?_; kernel_rfl) | (intros; simp_all; done))))
 refine ql4 (v := .d (.int .i64 0)) (xs := [.sl (exL.map qap.toD)]) (fun _ => by rw [← Qn0]; exact q5g exL (by decide)) (.cons (.osl (es := 3) (xs := exL.map qap.toD) rfl rfl) .nil) ?_
 simp only [zU, seval]
 repeat ((with_reducible refine And.intro ?_ ?_); (focus (first | omega | (simp only [qa2]; omega) | (refine qq ?_; rfl) | (refine dq ?_; kernel_rfl) | (intros; simp_all; done))))
 exact ⟨_, _, qa0, rfl, rfl⟩
end YtljpopkonkanlaaGreatDoor
end Go.Proofs

set_option maxRecDepth 100000
namespace Go.Proofs
open Go.AM Go.ChangeShapes Go.WideShapes Go.ChangeAt Go.RowKit
namespace YtljpopkonkanlaaGreatDoor
theorem own : ownKnob Tryz.prog.godebug = none := by kernel_rfl
theorem Qnb : laidOutB Tryz.prog = true := by kernel_rfl
def q4x : List (String × DataW Unit) := [("math/bits.deBruijn32tab", Rows.laid_math_bits_deBruijn32tab), ("math/bits.deBruijn64tab", Rows.laid_math_bits_deBruijn64tab), ("internal/strconv.uint64pow10", Rows.laid_internal_strconv_uint64pow10), ("unicode/utf8.acceptRanges", Rows.laid_unicode_utf8_acceptRanges), ("unicode/utf8.first", Rows.laid_unicode_utf8_first)]
theorem Qik (os : Os) (args : Array Value) : laidMetH Tryz.prog q4x ((World.laidAll Tryz.prog os q4x).forCall (fun _ _ => 0) ⟨#[], args, []⟩).memory := by
 rw [MakeChecks.laidMetH_plain _ _ _ (by kernel_rfl)]; exact laidMet_laidAll _ (by kernel_rfl) (by kernel_rfl)
theorem Qh4 : (Tryz.prog.globals[3]?).map (·.type) = some 217 := by kernel_rfl
theorem Qa7 {W : World} (h : laidMetH Tryz.prog q4x W) (I : Im) (hI : ∀ b, b < W.heap.size → I.rd b) : qe2 G2 W I := by
 rw [MakeChecks.laidMetH_plain _ _ _ (by kernel_rfl)] at h
 have h2 := (h.tail).tail
 have ht : Lib.TabIs Tryz.prog W "internal/strconv.uint64pow10" .u64 Lib.pow10Tab :=
  Lib.tabIs_of_head (n := 20) qpn Qh4 (by kernel_rfl) (e := 204) (by kernel_rfl) (by kernel_rfl) (by kernel_rfl) h2
 refine q5j ht qpn (hI _ ?_)
 have := ht
 unfold Lib.TabIs World.var? at this
 rw [qpn] at this
 simp only [Option.bind_some] at this
 split at this
 ·rename_i hh
  exact (Array.getElem?_eq_some_iff.1 hh).1
 ·cases this
theorem Qhm {xs : List D} (h : ∀ x ∈ xs, qkf [.str] x.cells ∧ x.isAgg = false) : ∃ l : List (List UInt8), xs = l.map .str ∧ ∀ y ∈ l, y.length ≤ maxLen :=
 q81 fun x hx => by
  obtain ⟨s, hs, hl⟩ := Qlp (h x hx).1 (h x hx).2
  exact ⟨s, hs, hl⟩
theorem Qmv {x : D} (h : qkf [.str, .str, .str] x.cells) (hg : x.isAgg = true) : ∃ b : qap, x = b.toD := by
 obtain ⟨_, _, e1, ⟨a0, rfl, _⟩, _, _, rfl, ⟨a1, rfl, _⟩, _, _, rfl, ⟨a2, rfl, _⟩, rfl⟩ := h
 exact ⟨⟨a0, a1, a2⟩, Qrf hg e1⟩
theorem Qh5 {x : D} (h : qt2 Tryz.prog 5 22 x) : ∃ l : List qap, x = .sl (l.map qap.toD) ∧ l.length ≤ maxLen := by
 obtain ⟨xs, rfl, hl, hx⟩ := qsm h (c := .sl [.str, .str, .str] true) (by kernel_rfl) (by kernel_rfl)
 obtain ⟨l, rfl⟩ := Qd6 fun y hy => Qmv (hx y hy).1 (hx y hy).2
 exact ⟨l, rfl, by simpa using hl⟩
theorem Qqk {x : D} (h : qt2 Tryz.prog 5 9 x) : ∃ s : List UInt8, x = .str s ∧ s.length ≤ maxLen := qsm h (c := .str) (by kernel_rfl) (by kernel_rfl)
theorem Qm5 {x : D} (h : qt2 Tryz.prog 5 28 x) : ∃ l : List (List UInt8), x = .sl (l.map .str) ∧ l.length ≤ maxLen ∧ ∀ y ∈ l, y.length ≤ maxLen := by
 obtain ⟨xs, rfl, hl, hx⟩ := qsm h (c := .sl [.str] false) (by kernel_rfl) (by kernel_rfl)
 obtain ⟨l, rfl, hb⟩ := Qhm hx
 exact ⟨l, rfl, by simpa using hl, hb⟩

theorem Qic (l : List qap) (what : List UInt8) (s : List (List UInt8)) : (qzc l what s).length ≤ s.length := by
 unfold qzc
 split
 ·exact Qh7 _ _ _ _
 ·exact Nat.zero_le _
end YtljpopkonkanlaaGreatDoor
end Go.Proofs

set_option maxRecDepth 100000
namespace Go.Proofs
open Go.AM
namespace YtljpopkonkanlaaGreatDoor
theorem q2o {a b : Nat} (ha : a < 10) (hb : b < 10) (h : UInt8.ofNat (48 + a) = UInt8.ofNat (48 + b)) : a = b := by
 have := congrArg UInt8.toNat h
 rw [UInt8.toNat_ofNat_of_lt' (show 48 + a < 256 by omega), UInt8.toNat_ofNat_of_lt' (show 48 + b < 256 by omega)] at this
 omega
theorem qtp (n : Nat) (h : ¬ n < 10) : Lib.decDigits n = Lib.decDigits (n / 10) ++ [UInt8.ofNat (48 + n % 10)] := by
 rw [Lib.decDigits, dif_neg h]
theorem q9q (n : Nat) : Lib.decDigits n ≠ [] := by
 intro h
 have := Lib.decDigits_length n
 have h2 := Lib.nDigits_pos n
 rw [h] at this
 simp at this; omega
theorem Qn4 : ∀ (n m : Nat), Lib.decDigits n = Lib.decDigits m → n = m := by
 intro n
 induction n using Nat.strongRecOn with
 | _ n ih =>
 intro m h
 by_cases hn : n < 10
 ·by_cases hm : m < 10
  ·rw [Lib.decDigits_one hn, Lib.decDigits_one hm] at h
   simp only [List.cons.injEq, and_true] at h
   exact q2o hn hm h
  ·rw [Lib.decDigits_one hn, qtp m hm] at h
   exfalso
   have h3 := congrArg List.length h
   have h4 : 0 < (Lib.decDigits (m / 10)).length := List.length_pos_iff.2 (q9q _)
   rw [List.length_append] at h3
   simp only [List.length_cons, List.length_nil] at h3; omega
 ·by_cases hm : m < 10
  ·rw [Lib.decDigits_one hm, qtp n hn] at h
   exfalso
   have h3 := congrArg List.length h
   have h4 : 0 < (Lib.decDigits (n / 10)).length := List.length_pos_iff.2 (q9q _)
   rw [List.length_append] at h3
   simp only [List.length_cons, List.length_nil] at h3; omega
  ·rw [qtp n hn, qtp m hm] at h
   obtain ⟨h1, h2⟩ := List.append_inj' h rfl
   have e1 := ih (n / 10) (by omega) (m / 10) h1
   simp only [List.cons.injEq, and_true] at h2
   have e2 := q2o (Nat.mod_lt _ (by decide)) (Nat.mod_lt _ (by decide)) h2
   omega
theorem Qq7 {i : Nat} (h : i < 10) : q9p (UInt8.ofNat (48 + i)) = true := by
 match i, h with
 | 0, _ => rfl
 | 1, _ => rfl
 | 2, _ => rfl
 | 3, _ => rfl
 | 4, _ => rfl
 | 5, _ => rfl
 | 6, _ => rfl
 | 7, _ => rfl
 | 8, _ => rfl
 | 9, _ => rfl
theorem Qgb : ∀ n : Nat, 0 < n → (Lib.decDigits n).all q9p = true ∧ ((Lib.decDigits n).getD 0 0).toNat ≠ 48 := by
 intro n
 induction n using Nat.strongRecOn with
 | _ n ih =>
 intro hp
 by_cases hn : n < 10
 ·rw [Lib.decDigits_one hn]
  refine ⟨by simp only [List.all_cons, List.all_nil, Bool.and_true]; exact Qq7 hn, ?_⟩
  show (UInt8.ofNat (48 + n)).toNat ≠ 48
  rw [UInt8.toNat_ofNat_of_lt' (show 48 + n < 256 by omega)]; omega
 ·obtain ⟨h1, h2⟩ := ih (n / 10) (by omega) (by omega)
  rw [qtp n hn]
  refine ⟨by rw [List.all_append, h1]; simp only [List.all_cons, List.all_nil, Bool.and_true, Bool.true_and]; exact Qq7 (Nat.mod_lt _ (by decide)), ?_⟩
  have h4 : 0 < (Lib.decDigits (n / 10)).length := List.length_pos_iff.2 (q9q _)
  rw [List.getD_eq_getElem?_getD, List.getElem?_append_left h4, ← List.getD_eq_getElem?_getD]
  exact h2
theorem q9v (d : List UInt8) : qpu (qda ++ d) qda = true := by
 unfold qpu
 rw [List.take_left' rfl, decide_eq_true (by simp)]
 simp
theorem Qe8 (n : Nat) (hn : 0 < n) : qdp (qda ++ Lib.decDigits n) = true := by
 obtain ⟨h1, h2⟩ := Qgb n hn
 unfold qdp
 rw [q9v, List.drop_left' rfl]
 have e1 : (Lib.decDigits n == []) = false := by
  cases e : Lib.decDigits n with
  | nil => exact absurd e (q9q n)
  | cons a b => rfl
 have e2 : ((((Lib.decDigits n).getD 0 0).toNat : Int) == 48) = false := by
  rw [Bool.eq_false_iff]; intro h
  rw [beq_iff_eq] at h
  omega
 rw [e1, e2, h1]; rfl
theorem qoy {x y : List UInt8} : ∀ {H : List (List UInt8)}, 0 ≤ qfj (eqS x) H → qfj (eqS x) H = qfj (eqS y) H → x = y
 | [], h, _ => by simp [qfj] at h
 | a :: H, h, he => by
  unfold qfj at h he
  by_cases h1 : eqS x a = true
  ·rw [if_pos h1] at he
   by_cases h2 : eqS y a = true
   ·have e1 : a = x := by simpa [eqS] using h1
    have e2 : a = y := by simpa [eqS] using h2
    rw [← e1, e2]
   ·rw [if_neg h2] at he
    split at he <;> have := qio (eqS y) H <;> omega
  ·rw [if_neg h1] at h he
   by_cases h2 : eqS y a = true
   ·rw [if_pos h2] at he
    split at he <;> have := qio (eqS x) H <;> omega
   ·rw [if_neg h2] at he
    split at h
    ·omega
    ·rename_i h3
     rw [if_neg h3] at he
     split at he
     ·omega
     ·have g1 := qio (eqS x) H
      exact qoy (H := H) (by omega) (by omega)
theorem Qsz {l : List qap} (h : qme l = 0) (what x : List UInt8) : qke what x l = qfe ∨ qke what x l = q4k ∨ qke what x l = qt9 := by
 have hr : ∀ r ∈ l, Qod r = false := fun r hr => by
  unfold qme at h
  split at h
  ·cases h
  obtain ⟨i, hi, rfl⟩ := List.getElem_of_mem hr
  have := qlz h i hi
  have e : l.getD i default = l[i] := by simp [hi]
  rw [e] at this
  unfold q0q at this
  split at this
  ·cases this
  ·rename_i h1; simpa using h1
 clear h
 induction l with
 | nil => exact .inl rfl
 | cons r l ih =>
  unfold qke
  split
  ·have := hr r List.mem_cons_self
   unfold Qod at this
   simp only [Bool.or_eq_false_iff, Bool.and_eq_false_iff, Bool.not_eq_false', beq_iff_eq] at this
   rcases this.2 with (h1 | h1) | h1
   ·exact .inl h1
   ·exact .inr (.inl h1)
   ·exact .inr (.inr h1)
  ·exact ih fun r hr' => hr r (List.mem_cons_of_mem _ hr')
theorem q8y {l : List qap} (h : qme l = 0) {what x : List UInt8} (hd : qc8 l what x = false) : hid l what x = true ∨ qke what x l = qfe := by
 rcases Qsz h what x with h1 | h1 | h1
 ·exact .inr h1
 ·exact .inl (by rw [hid, h1]; rfl)
 ·rw [qc8, h1] at hd; cases hd
theorem Qgz {x : List UInt8} {s : List (List UInt8)} (h : x ∈ s) : s.any (eqS x) = true := List.any_eq_true.2 ⟨x, h, by simp [eqS]⟩
theorem qy4 {l : List qap} {what x : List UInt8} {s : List (List UInt8)} (hx : x ∈ s) (hh : hid l what x = true) : 0 ≤ qfj (eqS x) (qf4 l what s) ∧ qpb (qf4 l what s) x = qda ++ Lib.decDigits (qfj (eqS x) (qf4 l what s) + 1).toNat := by
 have h1 : (qf4 l what s).any (eqS x) = true := by rw [qgx, Qgz hx, hh]; rfl
 have h2 := qdl (eqS x) (qf4 l what s)
 rw [h1, decide_eq_true_eq] at h2
 exact ⟨h2, by rw [qpb, if_neg (by omega)]⟩
theorem qy3 {l : List qap} {what x : List UInt8} {s : List (List UInt8)} (hh : hid l what x = false) : qpb (qf4 l what s) x = x := by
 have h1 : (qf4 l what s).any (eqS x) = false := by rw [qgx, hh, Bool.and_false]
 rw [qpb, if_pos (by rw [qdf h1]; decide)]
theorem Qjk {l : List qap} {what : List UInt8} {s : List (List UInt8)} (hc : qeu l what s = false) {x y : List UInt8} (hx : x ∈ s) (hh : hid l what x = true) (hy : y ∈ s) (hk : qke what y l = qfe) : qpu y qda = false := by
 have h1 : (qf4 l what s).any (eqS x) = true := by rw [qgx, Qgz hx, hh]; rfl
 have h2 : (qf4 l what s).isEmpty = false := by
  cases e : qf4 l what s with
  | nil => rw [e] at h1; cases h1
  | cons a b => rfl
 rw [qeu, h2, Bool.not_false, Bool.true_and, List.any_eq_false] at hc
 have := hc y hy
 unfold qdj at this
 rw [hk] at this
 simpa using this
theorem Qmz {l : List qap} (h : qme l = 0) {what : List UInt8} {s : List (List UInt8)} (hc : qeu l what s = false) {x y : List UInt8} (hx : x ∈ s) (hy : y ∈ s) (dx : qc8 l what x = false) (dy : qc8 l what y = false) :
  qpb (qf4 l what s) x = qpb (qf4 l what s) y ↔ x = y := by
 refine ⟨fun he => ?_, fun he => by rw [he]⟩
 have mix : ∀ {x y : List UInt8}, x ∈ s → y ∈ s → hid l what x = true → hid l what y = false → qc8 l what y = false → qpb (qf4 l what s) x = qpb (qf4 l what s) y → False := fun {x y} hx hy h1 h2 h3 he => by
  rcases q8y h h3 with h4 | h4
  ·rw [h2] at h4; cases h4
  ·have h5 := Qjk hc hx h1 hy h4
   rw [(qy4 hx h1).2, qy3 h2] at he
   rw [← he, q9v] at h5
   cases h5
 cases h1 : hid l what x with
 | true =>
  cases h2 : hid l what y with
  | true =>
   obtain ⟨a1, a2⟩ := qy4 hx h1
   obtain ⟨b1, b2⟩ := qy4 hy h2
   rw [a2, b2] at he
   have := Qn4 _ _ (List.append_cancel_left he)
   exact qoy a1 (by omega)
  | false => exact (mix hx hy h1 h2 dy he).elim
 | false =>
  cases h2 : hid l what y with
  | true => exact (mix hy hx h2 h1 dx he.symm).elim
  | false => rwa [qy3 h1, qy3 h2] at he
theorem Qcp {l : List qap} (h : qme l = 0) {what : List UInt8} {s : List (List UInt8)} {x : List UInt8} (hx : x ∈ s) (dx : qc8 l what x = false) : qdp (qpb (qf4 l what s) x) = true ∨ qke what (qpb (qf4 l what s) x) l = qfe := by
 rcases q8y h dx with h1 | h1
 ·obtain ⟨a1, a2⟩ := qy4 hx h1
  rw [a2]
  exact .inl (Qe8 _ (by omega))
 ·have h2 : hid l what x = false := by rw [hid, h1]; rfl
  rw [qy3 h2]
  exact .inr h1
theorem q2y {l : List qap} {what : List UInt8} {s : List (List UInt8)} (h : q4b l what s = 0) : qme l = 0 ∧ qeu l what s = false ∧ qzc l what s = Qql l what s := by
 refine ⟨?_, ?_, by rw [qzc, if_pos h]⟩
 ·unfold q4b at h
  split at h
  ·rename_i h1; exact absurd h h1
  ·rename_i h1; exact Classical.byContradiction h1
 ·unfold q4b at h
  split at h
  ·rename_i h1; exact absurd h h1
  split at h
  ·cases h
  split at h
  ·rename_i h1; exact absurd h h1
  split at h
  ·cases h
  ·rename_i h1; simpa using h1
theorem Qib {l : List qap} {what : List UInt8} {s : List (List UInt8)} (h : q4b l what s = 0) (hl : (qzc l what s).length = s.length) : (∀ x ∈ s, qc8 l what x = false) ∧ qzc l what s = s.map (qpb (qf4 l what s)) := by
 obtain ⟨h1, h2, h3⟩ := q2y h
 rw [h3, Qql, Qm6, List.length_map] at hl
 have hf := List.filter_eq_self.1 (List.filter_sublist.eq_of_length hl)
 refine ⟨fun x hx => by simpa using hf x hx, ?_⟩
 rw [h3, Qql, Qm6, List.filter_eq_self.2 hf]
end YtljpopkonkanlaaGreatDoor
end Go.Proofs

set_option maxRecDepth 100000
namespace Go.Proofs
open Go.AM Go.ChangeShapes Go.WideShapes Go.ChangeAt Go.RowKit
namespace YtljpopkonkanlaaGreatDoor
theorem Qmy {H : List (List UInt8)} {x : List UInt8} (hx : x.length ≤ maxLen) (hH : H.length < 1000000) : (qpb H x).length < 9223372036854775808 := by
 unfold qpb
 split
 ·exact Nat.lt_succ_of_le hx
 ·have h1 := qzs (eqS x) H
  have := Qga (n := (qfj (eqS x) H + 1).toNat) (by omega)
  rw [List.length_append]
  show 7 + _ < _
  omega
theorem Qoc {a b c d : List UInt8} (h : a = b ↔ c = d) : (a == b) = (c == d) := by
 rw [Bool.eq_iff_iff, beq_iff_eq, beq_iff_eq]; exact h
theorem q46 (l : List qap) (what : List UInt8) (s : List (List UInt8)) (hl : l.length ≤ maxLen) (hs : s.length ≤ maxLen) (hm : ∀ y ∈ s, y.length ≤ maxLen) : qbw Tryz.prog G2 5 [.d (.sl (l.map qap.toD)), .d (.str what), .d (.sl (s.map .str))] (.d (.bool true)) := by
 refine qbw.of3 ?_
 refine qac Tryz.func5 rfl rfl (by simp [Tryz.ntmps5]) (qab rfl _ _ _ _ ?_)
 simp only [Tryz.ntmps5, Tryz.results5, qak, List.length_nil]
 simp only [zU, seval]
 repeat ((with_reducible refine And.intro ?_ ?_); (focus (first | omega | (simp only [qa2]; omega) | (refine qq ?_; rfl) | (refine dq ?_; kernel_rfl) | (intros; simp_all; done))))
 refine ifC.mk (fun h0 => ?_) (fun h0 => ?_)
 ·refine qah qzl ?_
  simp only [zU, seval]
  exact ⟨_, _, qa0, rfl, rfl⟩
 have h0 : l.length ≤ 50 ∧ s.length ≤ 40 := by
  simp only [Bool.or_eq_false_iff, decide_eq_false_iff_not] at h0
  omega
 have hn := Qic l what s
 (try simp only [zU, seval])
 refine qah (Qe1 l what s (by omega) (by omega)) ?_
 simp only [zU, seval]
 repeat ((with_reducible refine And.intro ?_ ?_); (focus (first | omega | (simp only [qa2]; omega) | (refine qq ?_; rfl) | (refine dq ?_; kernel_rfl) | (intros; simp_all; done))))
 refine ifC.mk (fun h1 => ?_) (fun h1 => ?_)
 ·have h1 : q4b l what s ≠ 0 := by simpa using h1
  have e : qzc l what s = [] := by rw [qzc, if_neg h1]
  rw [e]
  (try simp only [zU, seval, List.map_nil, List.length_nil])
  refine qbs (fun _ => qzl) ?_
  simp only [zU, seval]
  repeat ((with_reducible refine And.intro ?_ ?_); (focus (first | omega | (simp only [qa2]; omega) | (refine qq ?_; rfl) | (refine dq ?_; kernel_rfl) | (intros; simp_all; done))))
  exact ⟨_, _, qa0, rfl, rfl⟩
 have h1 : q4b l what s = 0 := by simpa using h1
 (try simp only [zU, seval])
 refine ifC.mk (fun h2 => ?_) (fun h2 => ?_)
 ·have h2 : (qzc l what s).length < s.length := by simp at h2; omega
  (try simp only [zU, seval, (show ((qzc l what s).length : Int) < s.length by omega), h2])
  refine qbs (fun _ => qzl) ?_
  simp only [zU, seval]
  repeat ((with_reducible refine And.intro ?_ ?_); (focus (first | omega | (simp only [qa2]; omega) | (refine qq ?_; rfl) | (refine dq ?_; kernel_rfl) | (intros; simp_all; done))))
  exact ⟨_, _, qa0, rfl, rfl⟩
 have h2 : (qzc l what s).length = s.length := by simp at h2; omega
 obtain ⟨hd, hX⟩ := Qib h1 h2
 obtain ⟨c1, c2, _⟩ := q2y h1
 have hH := Qcg l what s
 obtain ⟨X, hXX⟩ : ∃ X, X = qzc l what s := ⟨_, rfl⟩
 rw [← hXX] at h2 hX ⊢
 have hg : ∀ k, k < s.length → X.getD k default = qpb (qf4 l what s) (s.getD k default) := fun k hk => by
  rw [hX]; simp [hk]
 (try simp only [zU, seval])
 refine qa7 s.length (fun k => [(0, .d (.sl (l.map qap.toD))), (1, .d (.str what)), (2, .d (.sl (s.map .str))), (7, .d (.sl (X.map .str))), (9, .d (.int .i64 k))]) (fun _ => []) (fun _ => True) trivial ?_ ?_
 ·refine qad [] [] rfl List.nodup_nil ?_ rfl
  simp only [zU, seval]
  all_goals rfl
 intro k _ hk
 by_cases h : k < s.length
 ·have hXk : k < X.length := by omega
  have hsk : s.getD k default ∈ s := qct h
  have hlen : (X.getD k default).length < 9223372036854775808 := by rw [hg k h]; exact Qmy (hm _ hsk) (by omega)
  simp only [zU, seval, (show (k:Int) < s.length by omega), h]
  refine qa7 k (fun j => [(0, .d (.sl (l.map qap.toD))), (1, .d (.str what)), (2, .d (.sl (s.map .str))), (7, .d (.sl (X.map .str))), (9, .d (.int .i64 k)), (10, .d (.int .i64 j))]) (fun _ => []) (fun _ => True) trivial ?_ ?_
  ·refine qad [] [] rfl List.nodup_nil ?_ rfl
   simp only [zU, seval]
   all_goals rfl
  intro j _ hj
  by_cases h3 : j < k
  ·have hjs : j < s.length := by omega
   have hjX : j < X.length := by omega
   have hsj : s.getD j default ∈ s := qct hjs
   have hb : (X.getD k default == X.getD j default) = (s.getD k default == s.getD j default) := by
    refine Qoc ?_
    rw [hg k h, hg j hjs]
    exact Qmz c1 c2 hsk hsj (hd _ hsk) (hd _ hsj)
   simp only [zU, seval, (show (j:Int) < k by omega), h3, (show (k:Int) < s.length by omega), h, (show (k:Int) < X.length by omega), hXk, (show (j:Int) < s.length by omega), hjs, (show (j:Int) < X.length by omega), hjX, qat _ _ _ (show k < s.length by omega), qat _ _ _ (show k < X.length by omega), qat _ _ _ (show j < s.length by omega), qat _ _ _ (show j < X.length by omega), hb, beq_self_eq_true, Bool.not_true]
   repeat ((with_reducible refine And.intro ?_ ?_); (focus (first | omega | (simp only [qa2]; omega) | (refine qq ?_; rfl) | (refine dq ?_; kernel_rfl) | (intros; simp_all; done))))
   (try simp only [zU, seval, (show (j:Int) < k by omega), h3, (show (k:Int) < s.length by omega), h, (show (k:Int) < X.length by omega), hXk, (show (j:Int) < s.length by omega), hjs, (show (j:Int) < X.length by omega), hjX, qat _ _ _ (show k < s.length by omega), qat _ _ _ (show k < X.length by omega), qat _ _ _ (show j < s.length by omega), qat _ _ _ (show j < X.length by omega), hb, beq_self_eq_true, Bool.not_true])
   refine qad [] [] rfl List.nodup_nil ?_ rfl
   simp only [zU, seval, @qai ((j:Int) + 1) (by omega)]
   all_goals rfl
  ·simp only [zU, seval, (show ¬ (j:Int) < k by omega), (show (k:Int) < X.length by omega), hXk, qat _ _ _ (show k < X.length by omega)]
   repeat ((with_reducible refine And.intro ?_ ?_); (focus (first | omega | (simp only [qa2]; omega) | (refine qq ?_; rfl) | (refine dq ?_; kernel_rfl) | (intros; simp_all; done))))
   refine qah (Qi2 _ hlen) ?_
   simp only [zU, seval, (show (k:Int) < X.length by omega), hXk, qat _ _ _ (show k < X.length by omega)]
   repeat ((with_reducible refine And.intro ?_ ?_); (focus (first | omega | (simp only [qa2]; omega) | (refine qq ?_; rfl) | (refine dq ?_; kernel_rfl) | (intros; simp_all; done))))
   refine qbs (fun _ => qez l what _ (by omega)) ?_
   simp only [zU, seval]
   repeat ((with_reducible refine And.intro ?_ ?_); (focus (first | omega | (simp only [qa2]; omega) | (refine qq ?_; rfl) | (refine dq ?_; kernel_rfl) | (intros; simp_all; done))))
   have hcl : ((!qdp (X.getD k default)) && !(qke what (X.getD k default) l == qfe)) = false := by
    rw [hg k h]
    rcases Qcp c1 hsk (hd _ hsk) with h4 | h4
    ·rw [h4]; rfl
    ·rw [h4]; simp
   refine ifC.mk (fun hc => ?_) (fun hc => ?_)
   ·exfalso
    have hc : ((!qdp (X.getD k default)) && !(qke what (X.getD k default) l == qfe)) = true := hc
    rw [hcl] at hc; cases hc
   ·refine qad [] [] rfl List.nodup_nil ?_ rfl
    simp only [zU, seval, @qai ((k:Int) + 1) (by omega)]
    all_goals rfl
 ·have : k = s.length := by omega
  subst this
  simp only [zU, seval, (show ¬ (s.length:Int) < s.length by omega)]
  refine qah qzl ?_
  simp only [zU, seval]
  exact ⟨_, _, qa0, rfl, rfl⟩
theorem qzx (xs : List D) (h : qpx Tryz.prog 5 Tryz.f5.params.toList xs) : qaf Tryz.prog G2 5 (xs.map AV.d) [] (fun r _ => r = .d (.bool true)) := by
 rw [Tryz.params5] at h
 obtain ⟨x, _, rfl, h1, y, _, rfl, h2, z, _, rfl, h3, rfl⟩ := h
 obtain ⟨l, rfl, l1⟩ := Qh5 h1
 obtain ⟨a, rfl, a1⟩ := Qqk h2
 obtain ⟨b, rfl, b1, b2⟩ := Qm5 h3
 exact (q46 l a b l1 b1 b2 []).mono fun r s h => h.1
end YtljpopkonkanlaaGreatDoor
end Go.Proofs
