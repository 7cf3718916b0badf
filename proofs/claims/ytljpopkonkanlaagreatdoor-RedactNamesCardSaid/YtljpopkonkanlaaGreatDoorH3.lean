/- A part of the proof: contracts of functions of this seat, and lemmas. No condition beyond those stated. -/
import Derived.Test.YtljpopkonkanlaaGreatDoorH2
import Derived.Test.YtljpopkonkanlaaGreatDoorG4
import Derived.Test.YtljpopkonkanlaaGreatDoorH1
import Derived.Test.YtljpopkonkanlaaGreatDoorRows
import Derived.Test.YtljpopkonkanlaaGreatDoorCards
import Derived.Test.YtljpopkonkanlaaGreatDoorTie
import Derived.ProofKit
import Derived.LaidMore
import Derived.OpenShut
import Derived.Stop.Joined
import Derived.Stop.LaidErr
import Derived.SevenTiedAt
import Derived.MakeChecks
import Derived.Lay
set_option linter.unusedVariables false
set_option linter.unusedSimpArgs false
set_option linter.unusedSectionVars false
set_option linter.unnecessarySimpa false
set_option maxRecDepth 100000
namespace Go.Proofs
open Go.AM
namespace YtljpopkonkanlaaGreatDoor
variable {Gl : qa7}
def q9z (g : Int → Bool) (s : qa0) : qa0 := { s with by_ := if g s.by_ = true then -1 else s.by_, on_ := if g s.on_ = true then -1 else s.on_, state := if g s.on_ = true then 1 else s.state }
def Qid (y x : qa0) : Bool := y.thread == x.thread && y.state == x.state && y.cpu == x.cpu && y.on_ == x.on_
def Qjz (out : List qa0) (x : qa0) : List qa0 :=
 if out.length ≠ 0 ∧ Qid (out.getD (out.length - 1) default) x = true then out.set (out.length - 1) { out.getD (out.length - 1) default with hi := x.hi, by_ := x.by_ } else out ++ [x]
def stS (g : Int → Bool) (out : List qa0) (s : qa0) : List qa0 := if g s.thread = true then out else Qjz out (q9z g s)
def qf5 (g : Int → Bool) (l : List qa0) : List qa0 := l.foldl (stS g) []
theorem Qjy (out : List qa0) (x : qa0) : (Qjz out x).length ≤ out.length + 1 := by
 unfold Qjz; split <;> simp
theorem Qmm (g : Int → Bool) (out : List qa0) (s : qa0) : (stS g out s).length ≤ out.length + 1 := by
 unfold stS; split
 ·omega
 ·exact Qjy _ _
theorem qm4 (g : Int → Bool) : ∀ (l out : List qa0), (l.foldl (stS g) out).length ≤ out.length + l.length
 | [], out => by simp
 | x :: l, out => by
  have := qm4 g l (stS g out x)
  have h2 := Qmm g out x
  simp only [List.foldl_cons, List.length_cons]; omega
theorem qu5 (g : Int → Bool) (l : List qa0) : (qf5 g l).length ≤ l.length := by
 have := qm4 g l []; simpa [qf5] using this
theorem Qhx (g : Int → Bool) (xs : List D) (σ : Sto) : qdd [0, 1] (freezeL (.map (some .i64) (qbb g) :: .arr 7 xs :: σ) []) = [.map (some .i64) (qbb g), .arr 7 xs] := by
 show [qbv [0, 1] _ (.map (some .i64) (qbb g)), _] = _
 rw [qbw]; rfl
theorem Qp1 (g : Int → Bool) (σ : Sto) : qdd [0] (freezeL (.map (some .i64) (qbb g) :: σ) []) = [.map (some .i64) (qbb g)] := by
 show [qbv [0] _ (.map (some .i64) (qbb g))] = _
 rw [qbw]
def Qog (b : Bool) (x y : Int) : Int := if b = true then x else y
theorem Qpw (x y : Int) : Qog true x y = x := rfl
theorem Qpx (x y : Int) : Qog false x y = y := rfl
def yS (y x : qa0) (a b : Bool) : qa0 := { y with hi := Qog a x.hi y.hi, by_ := Qog b x.by_ y.by_ }
theorem Qhf (y x : qa0) (a b : Bool) : (yS y x a b).toD.cells = [.int .i64 y.thread, .int .i64 y.state, .int .i64 y.lo, .int .i64 (Qog a x.hi y.hi), .int .i64 y.cpu, .int .i64 y.on_, .int .i64 (Qog b x.by_ y.by_)] := rfl
theorem Qhe (y x : qa0) (a b : Bool) : (yS y x a b).toD.isAgg = true := rfl
theorem q3o (l : List D) (i : Nat) (x : D) (h : i < l.length) : (l.set i x).getD i default = x := by simp [h]
theorem qy2 (l : List D) (i : Nat) : l.set i (l.getD i default) = l := by
 apply List.ext_getElem?
 intro k
 rw [List.getElem?_set]
 split
 ·rename_i h; subst h
  split
  ·rename_i h; simp [h]
  ·rename_i h; simp at h; simp [h]
 ·rfl
theorem rnU (ρ : List Nat) (σ : Sto) : qbf ρ σ .undef = .undef := rfl
theorem Qk2 (g : Int → Bool) (xs : List D) (x : D) (σ : Sto) : qdd [0, 1, 2] (freezeL (.map (some .i64) (qbb g) :: .arr 7 xs :: .box 7 (.d x) :: σ) []) = [.map (some .i64) (qbb g), .arr 7 xs, .box 7 (.d x)] := by
 show [qbv [0, 1, 2] _ (.map (some .i64) (qbb g)), _, _] = _
 rw [qbw]; rfl
theorem Qp0 (g : Int → Bool) (xs : List D) (B C : Blk) : qdd [0, 4] (freezeL [.map (some .i64) (qbb g), .dead, B, C, .arr 7 xs] []) = [.map (some .i64) (qbb g), .arr 7 xs] := by
 show [qbv [0, 4] _ (.map (some .i64) (qbb g)), _] = _
 rw [qbw]; rfl
theorem Qpz (g : Int → Bool) (xs : List D) (B C E : Blk) : qdd [0, 5] (freezeL [.map (some .i64) (qbb g), .dead, B, C, E, .arr 7 xs] []) = [.map (some .i64) (qbb g), .arr 7 xs] := by
 show [qbv [0, 5] _ (.map (some .i64) (qbb g)), _] = _
 rw [qbw]; rfl
set_option maxHeartbeats 4000000 in
theorem Qij (g : Int → Bool) (l : List qa0) (hl : l.length < 1000000) : qag Tryz.prog Gl 84 [.d (.sl (l.map qa0.toD)), .mapr 0] [.map (some .i64) (qbb g)]
  (fun r s => r = .d (.sl ((qf5 g l).map qa0.toD)) ∧ s = [.map (some .i64) (qbb g)]) := by
 refine qac Tryz.func84 rfl rfl (by simp [Tryz.ntmps84]) (qab rfl _ _ _ _ ?_)
 simp only [Tryz.ntmps84, Tryz.results84, qaj, List.length_nil]
 simp only [zU, seval, qam]
 refine qa4 l.length (fun k => [(1, .mapr 0), (5, .osl 1 0 (qf5 g (l.take k)).length), (10, .d (.sl (l.map qa0.toD))), (11, .d (.int .i64 l.length)), (12, .d (.int .i64 k))]) (fun k => [.map (some .i64) (qbb g), .arr 7 ((qf5 g (l.take k)).map qa0.toD)]) (fun _ => True) trivial ?_ ?_
 ·refine (qe9 5 7 rfl).trans ?_
  refine qad [] [0, 1] rfl (by simp) ?_ (Qhx g _ _)
  simp only [zU, seval, qam]
  all_goals rfl
 intro k _ hk
 have hyl := qu5 g (l.take k)
 rw [List.length_take] at hyl
 by_cases h : k < l.length
 ·have hst : qf5 g (l.take (k + 1)) = stS g (qf5 g (l.take k)) (l.getD k default) := qyf _ _ _ _ h
  obtain ⟨x, hx⟩ : ∃ x, x = l.getD k default := ⟨_, rfl⟩
  have eg : (l.map qa0.toD).getD k default = x.toD := by rw [qas _ _ _ h, ← hx]
  obtain ⟨ys, hys⟩ : ∃ ys, ys = qf5 g (l.take k) := ⟨_, rfl⟩
  rw [← hys, ← hx] at hst
  rw [← hys] at hyl ⊢
  rw [hst, stS]
  simp only [zU, seval, qam, (show (k:Int) < l.length by omega), h, eg]
  repeat ((with_reducible refine And.intro ?_ ?_); (focus (first | omega | (simp only [qax]; omega) | (refine qq ?_; rfl) | (refine dq ?_; kernel_rfl) | (intros; simp_all; done))))
  refine ifC.mk (fun h1 => ?_) (fun h1 => ?_)
  ·rw [if_pos h1]
   refine qad [] [0, 1] rfl (by simp) ?_ (Qhx g _ _)
   simp only [zU, seval, qam, @qai ((k:Int) + 1) (by omega)]
   all_goals rfl
  rw [if_neg (by rw [h1]; simp)]
  (try simp only [zU, seval, qam])
  have ea : q9z g x = ⟨x.thread, if g x.on_ = true then 1 else x.state, x.lo, x.hi, x.cpu, if g x.on_ = true then -1 else x.on_, if g x.by_ = true then -1 else x.by_⟩ := rfl
  refine ifC.mk (fun h2 => ?_) (fun h2 => ?_) <;> refine ifC.mk (fun h3 => ?_) (fun h3 => ?_)
  all_goals simp only [h2, h3, reduceIte, Bool.false_eq_true] at ea
  all_goals
   rcases List.eq_nil_or_concat ys with e | ⟨zs, y, e⟩
   ·subst e
    rw [Qjz, if_neg (by simp), ea]
    (try simp only [zU, seval, qam, List.length_nil, List.map_nil, @qai ((-1:Int)) (by omega)])
    repeat ((with_reducible refine And.intro ?_ ?_); (focus (first | omega | (simp only [qax]; omega) | (refine qq ?_; rfl) | (refine dq ?_; kernel_rfl) | (intros; simp_all; done))))
    refine qad [] [0, 4] rfl (by simp) ?_ ?_
    ·simp only [zU, seval, qam, @qai ((k:Int) + 1) (by omega)]
     all_goals rfl
    ·exact Qp0 g _ _ _
   ·rw [List.concat_eq_append] at e
    have hyl2 : ys.length = zs.length + 1 := by rw [e]; simp
    have hyl3 : (ys.map qa0.toD).length = zs.length + 1 := by rw [List.length_map, hyl2]
    have hlt3 : zs.length < (ys.map qa0.toD).length := by omega
    have e0 : ((zs.length : Int) + 1 - 1) = zs.length := by omega
    have ey : ys.getD zs.length default = y := by rw [e]; simp
    have egy : (ys.map qa0.toD).getD zs.length default = y.toD := by rw [qas _ _ _ (by omega), ey]
    (try simp only [zU, seval, qam, hyl2, e0, @qai ((zs.length : Int)) (by omega), Int.toNat_natCast, egy, (show (zs.length : Int) < (zs.length : Int) + 1 by omega), (show zs.length < zs.length + 1 by omega)])
    repeat ((with_reducible refine And.intro ?_ ?_); (focus (first | omega | (simp only [qax]; omega) | (refine qq ?_; rfl) | (refine dq ?_; kernel_rfl) | (intros; simp_all; done))))
    refine ifC.mk (fun h4 => ?_) (fun h4 => ?_)
    ·have hlk : ys.length ≠ 0 ∧ Qid (ys.getD (ys.length - 1) default) (q9z g x) = true := by
      refine ⟨by omega, ?_⟩
      rw [hyl2, Nat.add_sub_cancel, ey, ea]; exact h4
     have hadd : (Qjz ys (q9z g x)).map qa0.toD = (ys.map qa0.toD).set zs.length (yS y (q9z g x) true true).toD := by
      rw [Qjz, if_pos hlk, hyl2, Nat.add_sub_cancel, ey, List.map_set]; rfl
     have haddl : (Qjz ys (q9z g x)).length = zs.length + 1 := by
      rw [Qjz, if_pos hlk, List.length_set, hyl2]
     rw [hadd, haddl]
     refine ⟨.inr (.inr (.inr (Qbe
      (fun L => [(66, onV (L 0) (.osl 1 0 (zs.length + 1))), (67, onV (L 1) (.d (.int .i64 zs.length))), (68, onV (L 2) (.osl 1 0 (zs.length + 1))), (69, onV (L 3) (.d (.int .i64 zs.length))), (70, onV (L 4) (.ptr 2 2)), (71, onV (L 5) (.ptr 2 3)), (72, onV (L 6) (.d (.int .i64 (q9z g x).hi))), (73, onV (L 7) (.ptr 2 6)), (74, onV (L 8) (.d (.int .i64 (q9z g x).by_))),
       (75, onV (L 9) (.aptr 1 zs.length 0)), (76, onV (L 10) (.aptr 1 zs.length 2)), (77, onV (L 11) (.aptr 1 zs.length 3)), (78, onV (L 13) (.aptr 1 zs.length 0)), (79, onV (L 14) (.aptr 1 zs.length 6)),
       (1, .mapr 0), (5, .osl 1 0 (zs.length + 1)), (7, .ptr 2 0), (8, .d (.int .i64 zs.length)), (10, .d (.sl (l.map qa0.toD))), (11, .d (.int .i64 l.length)), (12, .d (.int .i64 k))])
      (fun L => [.map (some .i64) (qbb g), .arr 7 ((ys.map qa0.toD).set zs.length (yS y (q9z g x) (L 12) (L 15)).toD), .box 7 (.d (q9z g x).toD)]) (by kernel_rfl) ?_ ?_ ?_))), ?_⟩
     ·refine qad [] [0, 1, 2] rfl (by simp) ?_ ?_
      ·rfl
      ·have e3 : (ys.map qa0.toD).set zs.length y.toD = ys.map qa0.toD := by rw [← egy, qy2]
       have eb : (yS y (q9z g x) (decide (16 ≤ 12)) (decide (16 ≤ 15))).toD = y.toD := rfl
       show _ = [_, Blk.arr 7 ((ys.map qa0.toD).set zs.length (yS y (q9z g x) (decide (16 ≤ 12)) (decide (16 ≤ 15))).toD), _]
       rw [eb, e3, ea]
       exact Qk2 g _ _ _
     ·simp only [q6v]
      refine ⟨?_, ?_, ?_, ?_, ?_, ?_, ?_, ?_, ?_, ?_, ?_, ?_, ?_, ?_, ?_, ?_, trivial⟩
      all_goals ((intro L hc hL hp; (try simp only [qjr, Region.binds, frB] at hp); (try simp only [Nat.zero_add, Nat.reduceAdd] at hL); simp only [zU, seval, qam, hL, hp, Qm4, Qqi, Qg4, Qpw, Qpx, Qhf, Qhe, q64, List.length_set, hyl3, hyl2, q3o _ _ _ hlt3, List.set_set, (show (zs.length : Int) < (zs.length : Int) + 1 by omega), (show zs.length < zs.length + 1 by omega)]); refine qad [] [0, 1, 2] rfl (by simp) ?_ ?_)
      all_goals first | exact Qk2 g _ _ _ | (simp only [zU, seval, qam, q64, rnU, Qm4, Qqi]; try rfl)
      all_goals skip
     ·simp only [zU, seval, qam, Qm4]
      refine qad [] [0, 1] rfl (by simp) ?_ (Qhx g _ _)
      simp only [zU, seval, qam, @qai ((k:Int) + 1) (by omega)]
      try rfl
     ·(try simp only [zU, seval, qam, List.set_set, q3o _ _ _ hlt3])
      refine qad [] [0, 1] rfl (by simp) ?_ ?_
      ·simp only [zU, seval, qam, @qai ((k:Int) + 1) (by omega)]
       try rfl
      ·rw [ea]
       exact Qhx g _ _
    ·have hlk : ¬ (ys.length ≠ 0 ∧ Qid (ys.getD (ys.length - 1) default) (q9z g x) = true) := by
      rw [hyl2, Nat.add_sub_cancel, ey]
      have hq : Qid y (q9z g x) = false := by rw [ea]; exact h4
      rw [hq]
      exact fun hq => by cases hq.2
     rw [Qjz, if_neg hlk, ea]
     (try simp only [zU, seval, qam, hyl2, qa6])
     refine ⟨⟨by omega, by omega⟩, ?_⟩
     refine qad [] [0, 5] rfl (by simp) ?_ ?_
     ·simp only [zU, seval, qam, @qai ((k:Int) + 1) (by omega), hyl2]
      try rfl
     ·rw [List.map_append, show (ys.map qa0.toD).take (zs.length + 1) = ys.map qa0.toD from List.take_of_length_le (by omega)]
      exact Qpz g _ _ _ _
 ·have : k = l.length := by omega
  subst this
  simp only [zU, seval, qam, (show ¬ (l.length:Int) < l.length by omega), List.take_length]
  refine ⟨_, _, (qcy rfl).trans (qae [] [0] rfl (by simp) (show qbf _ _ _ = AV.d _ from rfl) (Qp1 g _)), ?_, rfl⟩
  simp only [zU, seval, qam, qa6]

def q93 (pl : List Int) (s : qah) : Int := if 0 ≤ s.parent then pl.getD s.parent.toNat 0 else -1
def qer (p : qah → Bool) (u : List qah × List Int) (s : qah) : List qah × List Int :=
 if p s = true then (u.1 ++ [{ s with parent := q93 u.2 s }], u.2 ++ [(u.1.length : Int)]) else (u.1, u.2 ++ [q93 u.2 s])
def chF (p : qah → Bool) (l : List qah) : List qah × List Int := l.foldl (qer p) ([], [])
def qmp (out : List qah) (s : qah) : List qah :=
 if 0 ≤ s.parent then out.set s.parent.toNat { out.getD s.parent.toNat default with self := (out.getD s.parent.toNat default).self - (s.hi - s.lo) } else out
def Qg6 (out : List qah) (s : qah) : qah := { s with depth := if 0 ≤ s.parent then (out.getD s.parent.toNat default).depth + 1 else 0, self := s.hi - s.lo }
def qcg (out : List qah) (s : qah) : List qah := qmp out s ++ [Qg6 out s]
def qfv (l : List qah) : List qah := l.foldl qcg []
theorem qil (out : List qah) (s : qah) : (qmp out s).length = out.length := by
 unfold qmp; split <;> simp
theorem qc3 (out : List qah) (s : qah) : (qcg out s).length = out.length + 1 := by
 rw [qcg, List.length_append, qil]; rfl
theorem qfl (l : List qah) (s : qah) : qfv (l ++ [s]) = qcg (qfv l) s := by
 rw [qfv, List.foldl_append]; rfl
theorem qf2 (l : List qah) : (qfv l).length = l.length := by
 suffices h : ∀ (l out : List qah), (l.foldl qcg out).length = out.length + l.length by simpa [qfv] using h l []
 intro l
 induction l with
 | nil => intro out; simp
 | cons s l ih => intro out; rw [List.foldl_cons, ih, qc3, List.length_cons]; omega
def qgp (l : List qah) : Prop := ∀ i, i < l.length → (0 ≤ (l.getD i default).lo ∧ (l.getD i default).lo ≤ (l.getD i default).hi ∧ (l.getD i default).hi ≤ 1000000000000000) ∧ -1 ≤ (l.getD i default).parent ∧ (l.getD i default).parent < i
def okL (n : Nat) (out : List qah) : Prop := ∀ j, j < out.length → 0 ≤ (out.getD j default).depth ∧ (out.getD j default).depth ≤ n ∧ -((n : Int) * 1000000000000000) ≤ (out.getD j default).self ∧ (out.getD j default).self ≤ 1000000000000000
theorem qe7 (l : List qah) (s : qah) (j : Nat) (h : j < l.length + 1) : (l ++ [s]).getD j default = if j < l.length then l.getD j default else s := by
 by_cases e : j < l.length
 ·rw [if_pos e, List.getD_eq_getElem?_getD, List.getElem?_append_left e, List.getD_eq_getElem?_getD]
 ·have : j = l.length := by omega
  subst this
  rw [if_neg e]; simp
theorem qyb {l : List qah} {s : qah} (h : qgp (l ++ [s])) : qgp l ∧ (0 ≤ s.lo ∧ s.lo ≤ s.hi ∧ s.hi ≤ 1000000000000000) ∧ -1 ≤ s.parent ∧ s.parent < l.length := by
 constructor
 ·intro i hi
  have := h i (by simp; omega)
  rw [qe7 _ _ _ (by omega), if_pos hi] at this
  exact this
 ·have := h l.length (by simp)
  rw [qe7 _ _ _ (by omega), if_neg (by omega)] at this
  exact this
theorem Qfj {l : List qah} {s : qah} (h : qgp l) (hs : 0 ≤ s.lo ∧ s.lo ≤ s.hi ∧ s.hi ≤ 1000000000000000) (h1 : -1 ≤ s.parent) (h2 : s.parent < l.length) : qgp (l ++ [s]) := by
 intro i hi
 rw [List.length_append] at hi
 have hi : i < l.length + 1 := hi
 rw [qe7 _ _ _ hi]
 split
 ·rename_i e; exact h i e
 ·exact ⟨hs, h1, by omega⟩
theorem Qdm {l : List qah} : qgp l → okL l.length (qfv l) := by
 obtain ⟨n, hn⟩ : ∃ n, n = l.length := ⟨_, rfl⟩
 induction n generalizing l with
 | zero =>
  intro _ j hj
  have : l = [] := List.eq_nil_of_length_eq_zero hn.symm
  subst this; simp [qfv] at hj
 | succ n ih =>
  intro hg
  rcases List.eq_nil_or_concat l with rfl | ⟨v, s, rfl⟩
  ·simp at hn
  rw [List.concat_eq_append] at hg hn ⊢
  obtain ⟨g1, g2, g3, g4⟩ := qyb hg
  have hv : n = v.length := by rw [List.length_append] at hn; simp at hn; exact hn
  have ok := ih (l := v) hv g1
  rw [← hv] at ok
  intro j hj
  rw [qfl, qc3, qf2] at hj
  have hl := qf2 v
  rw [List.length_append, qfl, qcg, qe7 _ _ _ (by rw [qil]; omega), qil, ← hv]
  have e1 : n + [s].length = n + 1 := rfl
  rw [e1]
  by_cases hjn : j < (qfv v).length
  ·rw [if_pos hjn]
   have o1 := ok j hjn
   unfold qmp
   split
   ·rename_i hp
    by_cases hjp : s.parent.toNat = j
    ·subst hjp
     have e : ((qfv v).set s.parent.toNat { (qfv v).getD s.parent.toNat default with self := ((qfv v).getD s.parent.toNat default).self - (s.hi - s.lo) }).getD s.parent.toNat default = { (qfv v).getD s.parent.toNat default with self := ((qfv v).getD s.parent.toNat default).self - (s.hi - s.lo) } := by simp [hjn]
     rw [e]
     refine ⟨o1.1, by have := o1.2.1; simp only; omega, ?_, ?_⟩
     ·have := o1.2.2.1; simp only; omega
     ·have := o1.2.2.2; simp only; omega
    ·have e : ∀ z, ((qfv v).set s.parent.toNat z).getD j default = (qfv v).getD j default := fun z => by
      rw [List.getD_eq_getElem?_getD, List.getElem?_set_ne hjp, List.getD_eq_getElem?_getD]
     rw [e]
     exact ⟨o1.1, by have := o1.2.1; omega, by have := o1.2.2.1; omega, o1.2.2.2⟩
   ·exact ⟨o1.1, by have := o1.2.1; omega, by have := o1.2.2.1; omega, o1.2.2.2⟩
  ·rw [if_neg hjn]
   unfold Qg6
   refine ⟨?_, ?_, by simp only; omega, by simp only; omega⟩
   ·simp only
    split
    ·rename_i hp; have := ok s.parent.toNat (by omega); omega
    ·omega
   ·simp only
    split
    ·rename_i hp; have := ok s.parent.toNat (by omega); omega
    ·omega
theorem qzz (p : qah → Bool) (l : List qah) (s : qah) : chF p (l ++ [s]) = qer p (chF p l) s := by
 rw [chF, List.foldl_append]; rfl
theorem qtr (p : qah → Bool) {l : List qah} : qgp l → (chF p l).2.length = l.length ∧ (chF p l).1.length ≤ l.length ∧ (∀ q, q < l.length → -1 ≤ (chF p l).2.getD q 0 ∧ (chF p l).2.getD q 0 < (chF p l).1.length) ∧ qgp (chF p l).1 := by
 obtain ⟨n, hn⟩ : ∃ n, n = l.length := ⟨_, rfl⟩
 induction n generalizing l with
 | zero =>
  intro _
  have : l = [] := List.eq_nil_of_length_eq_zero hn.symm
  subst this
  refine ⟨rfl, Nat.le_refl _, fun q hq => by simp at hq, fun i hi => by simp [chF] at hi⟩
 | succ n ih =>
  intro hg
  rcases List.eq_nil_or_concat l with rfl | ⟨v, s, rfl⟩
  ·simp at hn
  rw [List.concat_eq_append] at hg hn ⊢
  obtain ⟨g1, g2, g3, g4⟩ := qyb hg
  have hv : n = v.length := by rw [List.length_append] at hn; simp at hn; exact hn
  obtain ⟨f1, f2, f3, f4⟩ := ih (l := v) hv g1
  have hup : -1 ≤ q93 (chF p v).2 s ∧ q93 (chF p v).2 s < (chF p v).1.length := by
   unfold q93
   split
   ·exact f3 s.parent.toNat (by omega)
   ·omega
  have gd : ∀ (a : List Int) (x : Int) (q : Nat), q < a.length + 1 → (a ++ [x]).getD q 0 = if q < a.length then a.getD q 0 else x := fun a x q hq => by
   by_cases e : q < a.length
   ·rw [if_pos e, List.getD_eq_getElem?_getD, List.getElem?_append_left e, List.getD_eq_getElem?_getD]
   ·have : q = a.length := by omega
    subst this
    rw [if_neg e]; simp
  have e1 : (v ++ [s]).length = v.length + 1 := by simp
  rw [e1, qzz, qer]
  split
  ·refine ⟨by simp [f1], by simp; omega, fun q hq => ?_, Qfj f4 g2 hup.1 hup.2⟩
   simp only
   rw [gd _ _ _ (by omega), List.length_append]
   split
   ·have := f3 q (by omega); simp only [List.length_cons, List.length_nil]; omega
   ·simp only [List.length_cons, List.length_nil]; omega
  ·refine ⟨by simp [f1], by simp only; omega, fun q hq => ?_, f4⟩
   simp only
   rw [gd _ _ _ (by omega)]
   split
   ·exact f3 q (by omega)
   ·exact hup
theorem qya {l : List qah} (h : qgp l) (k : Nat) : qgp (l.take k) := by
 intro i hi
 rw [List.length_take] at hi
 have e : (l.take k).getD i default = l.getD i default := by
  rw [List.getD_eq_getElem?_getD, List.getElem?_take_of_lt (by omega), List.getD_eq_getElem?_getD]
 rw [e]; exact h i (by omega)
def q4b (pl : List Int) (n : Nat) : List D := pl.map (D.int .i64) ++ List.replicate n (.int .i64 0)
theorem q8t (pl : List Int) (n : Nat) : (q4b pl n).length = pl.length + n := by simp [q4b]
theorem q8u {pl : List Int} {n q : Nat} (h : q < pl.length) : (q4b pl n).getD q default = .int .i64 (pl.getD q 0) := by
 rw [q4b, List.getD_eq_getElem?_getD, List.getElem?_append_left (by simpa using h)]
 simp [h]
theorem qfx (pl : List Int) (n : Nat) (x y : Int) : ((q4b pl (n + 1)).set pl.length (.int .i64 x)).set pl.length (.int .i64 y) = q4b (pl ++ [y]) n := by
 rw [List.set_set, q4b, List.replicate_succ]
 rw [List.set_append_right _ _ (by simp)]
 simp [q4b]
theorem qlq (pl : List Int) (n : Nat) (y : Int) : (q4b pl (n + 1)).set pl.length (.int .i64 y) = q4b (pl ++ [y]) n := by
 rw [q4b, List.replicate_succ, List.set_append_right _ _ (by simp)]
 simp [q4b]
theorem que (g : Int → Bool) (ρ : List Nat) (σ : Sto) : qdd (0 :: 1 :: ρ) (freezeL (.box 1 (.mapr 1) :: .map (some .i64) (qbb g) :: σ) []) = .box 1 (.mapr 1) :: .map (some .i64) (qbb g) :: ρ.map fun id => qbv (0 :: 1 :: ρ) (.box 1 (.mapr 1) :: .map (some .i64) (qbb g) :: σ) (qaa (.box 1 (.mapr 1) :: .map (some .i64) (qbb g) :: σ) id) := by
 show qbv (0 :: 1 :: ρ) _ (.box 1 (.mapr 1)) :: qbv (0 :: 1 :: ρ) _ (.map (some .i64) (qbb g)) :: _ = _
 rw [qbw]; rfl
theorem Qdx (m : Nat) (hm : m ≤ 100000) : Qqn Tryz.prog 160 (.d (.int .i64 (m : Int))) (.d (.int .i64 (m : Int))) := by
 refine (show _ ∧ _ ∧ _ ∧ (0 : Int) ≤ m ∧ (m : Int) ≤ m ∧ ((8 : Nat) : Int) * (m : Int) ≤ 281474976710656 ∧ (m : Int) ≤ _ from ⟨rfl, rfl, rfl, ?_, ?_, ?_, ?_⟩) <;> omega
theorem q82 (σ : Sto) (m : Nat) : mkS Tryz.prog σ 160 (.d (.int .i64 (m : Int))) = σ ++ [.arr 1 (List.replicate m (.int .i64 0))] := rfl
theorem Qez (g : Int → Bool) {fv : FuncId} (p : qah → Bool) (hp : ∀ x : qah, qag Tryz.prog Gl fv [.d x.toD, .ptr 0 0] (.box 1 (.mapr 1) :: .map (some .i64) (qbb g) :: []) (fun r s => r = .d (.bool (p x)) ∧ s = (.box 1 (.mapr 1) :: .map (some .i64) (qbb g) :: []))) (l : List qah) (hl : l.length ≤ 1000) (hg : qgp l) :
  qag Tryz.prog Gl 64 [.d (.sl (l.map qah.toD)), .fn fv [.ptr 0 0]] (.box 1 (.mapr 1) :: .map (some .i64) (qbb g) :: []) (fun r s => r = .d (.sl ((qfv (chF p l).1).map qah.toD)) ∧ s = (.box 1 (.mapr 1) :: .map (some .i64) (qbb g) :: [])) := by
 refine qac Tryz.func64 rfl rfl (by simp [Tryz.ntmps64]) (qab rfl _ _ _ _ ?_)
 simp only [Tryz.ntmps64, Tryz.results64, qaj, List.length_nil]
 simp only [zU, seval, qam]
 refine ⟨Qdx l.length (by omega), ?_⟩
 rw [q82]
 refine qa4 l.length (fun k => [(1, .fn fv [.ptr 0 0]), (5, .osl 2 0 (qfv (chF p (l.take k)).1).length), (6, .osl 3 0 l.length), (13, .d (.sl (l.map qah.toD))), (14, .d (.int .i64 l.length)), (15, .d (.int .i64 k))])
  (fun k => (.box 1 (.mapr 1) :: .map (some .i64) (qbb g) :: .arr 8 ((qfv (chF p (l.take k)).1).map qah.toD) :: .arr 1 (q4b (chF p (l.take k)).2 (l.length - k)) :: [])) (fun _ => True) trivial ?_ ?_
 ·refine (qe9 5 8 rfl).trans ?_
  refine qad [] [0, 1, 3, 2] rfl (by simp) ?_ ?_
  ·simp only [zU, seval, qam]
   try rfl
  ·refine (que g _ _).trans ?_
   rfl
 intro k _ hk
 have hgk := qya hg k
 obtain ⟨f1, f2, f3, f4⟩ := qtr p hgk
 have hkl : (l.take k).length = k := by rw [List.length_take]; omega
 rw [hkl] at f1 f2 f3
 by_cases h : k < l.length
 ·obtain ⟨x, hx⟩ : ∃ x, x = l.getD k default := ⟨_, rfl⟩
  have eg : (l.map qah.toD).getD k default = x.toD := by rw [qas _ _ _ h, ← hx]
  have ht : l.take (k + 1) = l.take k ++ [x] := by rw [qay l k h, ← hx]
  have gx := hg k h
  rw [← hx] at gx
  obtain ⟨o, ho⟩ : ∃ o, o = (chF p (l.take k)).1 := ⟨_, rfl⟩
  obtain ⟨pl, hpl⟩ : ∃ pl, pl = (chF p (l.take k)).2 := ⟨_, rfl⟩
  obtain ⟨out, hout⟩ : ∃ out, out = qfv o := ⟨_, rfl⟩
  have hc : chF p (l.take (k + 1)) = qer p (o, pl) x := by rw [ht, qzz, ho, hpl]
  have hol : out.length = o.length := by rw [hout, qf2]
  have hok : okL o.length out := by rw [hout]; exact Qdm (by rw [ho]; exact f4)
  rw [hc]
  rw [← ho, ← hpl] at f3
  rw [← ho] at f2 f4
  rw [← hpl] at f1
  rw [← ho, ← hpl, ← hout]
  obtain ⟨m, hm⟩ : ∃ m, l.length - k = m + 1 := ⟨l.length - k - 1, by omega⟩
  have hm2 : l.length - (k + 1) = m := by omega
  rw [hm, hm2]
  have hpll := q8t pl (m + 1)
  obtain ⟨up, hup⟩ : ∃ up, up = q93 pl x := ⟨_, rfl⟩
  have hupb : -1 ≤ up ∧ up < o.length := by
   rw [hup, q93]; split
   ·exact f3 _ (by omega)
   ·omega
  simp only [zU, seval, qam, (show (k:Int) < l.length by omega), h, eg]
  repeat ((with_reducible refine And.intro ?_ ?_); (focus (first | omega | (simp only [qax]; omega) | (refine qq ?_; rfl) | (refine dq ?_; kernel_rfl) | (intros; simp_all; done))))
  refine ifC.mk (fun h1 => ?_) (fun h1 => ?_)
  ·have h1 : 0 ≤ x.parent := of_decide_eq_true h1
   obtain ⟨q, hq⟩ : ∃ q : Nat, x.parent = q := ⟨x.parent.toNat, by omega⟩
   have hqk : q < pl.length := by omega
   have eq : (q4b pl (m + 1)).getD q default = .int .i64 up := by rw [q8u hqk, hup, q93, if_pos h1, hq, Int.toNat_natCast]
   (try simp only [zU, seval, qam, hq, (show (q:Int) < l.length by omega), (show q < l.length by omega), hpll, (show q < pl.length + (m + 1) by omega), eq])
   refine ⟨by omega, ?_⟩
   refine qbz (R := fun r ν => r = .d (.bool (p x)) ∧ ν = []) [0, 1] (.box 1 (.mapr 1) :: .map (some .i64) (qbb g) :: []) (by simp) (by simp) (show [qbv [0, 1] _ (.box 1 (.mapr 1)), qbv [0, 1] _ (.map (some .i64) (qbb g))] = _ by rw [qbw]; rfl) rfl (hk2 rfl (qct g _)) ((hp x).mono fun r s hr => ⟨[], by rw [hr.2]; rfl, hr.1, rfl⟩) (fun r ν hr => ?_)
   obtain ⟨rfl, rfl⟩ := hr
   have ekl : k = pl.length := f1.symm
   simp only [zU, seval, qam, List.map_nil, List.append_nil]
   refine ifC.mk (fun hc => ?_) (fun hc => ?_)
   ·have hc : p x = false := by simpa using hc
    rw [qer, if_neg (by rw [hc]; simp), ← hup, ← hout]
    refine qad [] [0, 1, 2, 3] rfl (by simp) ?_ ?_
    ·simp only [zU, seval, qam, @qai ((k:Int) + 1) (by omega)]
     try rfl
    ·rw [ekl, qlq]
     refine (que g _ _).trans ?_
     rfl
   ·have hc : p x = true := by simpa using hc
    have e1 : x.hi - x.lo = IntKind.i64.wrap (x.hi - x.lo) := (@qai (x.hi - x.lo) (by omega)).symm
    rw [qer, if_pos hc, ← hup]
    have efin : qfv (o ++ [{ x with parent := up }]) = qcg out { x with parent := up } := by rw [qfl, ← hout]
    simp only [efin]
    (try simp only [zU, seval, qam, @qai (x.hi - x.lo) (by omega)])
    refine ifC.mk (fun h2 => ?_) (fun h2 => ?_)
    ·have h2 : 0 ≤ up := of_decide_eq_true h2
     obtain ⟨u, hu⟩ : ∃ u : Nat, up = u := ⟨up.toNat, by omega⟩
     have hul : u < out.length := by omega
     obtain ⟨y, hy⟩ : ∃ y, y = out.getD u default := ⟨_, rfl⟩
     have egy : (out.map qah.toD).getD u default = y.toD := by rw [qas _ _ _ hul, ← hy]
     have hyk := hok u hul
     rw [← hy] at hyk
     (try simp only [zU, seval, qam, hu, (show (u:Int) < out.length by omega), hul, egy, @qai (y.depth + 1) (by omega), @qai (y.self - (x.hi - x.lo)) (by omega)])
     refine ⟨.inl (by kernel_rfl), ?_⟩
     (try simp only [zU, seval, qam, (show (u:Int) < out.length by omega), hul, egy, (show (k:Int) < l.length by omega), hpll, (show k < pl.length + (m + 1) by omega)])
     refine ⟨⟨by omega, by omega⟩, ?_⟩
     have ef : (qcg out { x with parent := (u : Int) }).map qah.toD = (out.map qah.toD).set u (qah.toD { y with self := y.self - (x.hi - x.lo) }) ++ [qah.toD { x with parent := (u : Int), depth := y.depth + 1, self := x.hi - x.lo }] := by
      simp only [qcg, qmp, Qg6, (show (0:Int) ≤ u by omega), Int.toNat_natCast, ← hy, if_true, List.map_append, List.map_set]
      rfl
     rw [ef, qc3]
     refine qad [] [0, 1, 6, 3] rfl (by simp) ?_ ?_
     ·simp only [zU, seval, qam, @qai ((k:Int) + 1) (by omega)]
      try rfl
     ·rw [ekl, qfx]
      rw [List.take_of_length_le (by rw [List.length_set, List.length_map]; exact Nat.le_refl _), ← hol]
      refine (que g _ _).trans ?_
      rfl
    ·have h2 : ¬ 0 ≤ up := of_decide_eq_false h2
     (try simp only [zU, seval, qam, (show (k:Int) < l.length by omega), hpll, (show k < pl.length + (m + 1) by omega)])
     refine ⟨⟨by omega, by omega⟩, ?_⟩
     have ef : (qcg out { x with parent := up }).map qah.toD = out.map qah.toD ++ [qah.toD { x with parent := up, depth := 0, self := x.hi - x.lo }] := by
      simp only [qcg, qmp, Qg6, h2, if_false, List.map_append]
      rfl
     rw [ef, qc3]
     refine qad [] [0, 1, 6, 3] rfl (by simp) ?_ ?_
     ·simp only [zU, seval, qam, @qai ((k:Int) + 1) (by omega)]
      try rfl
     ·rw [ekl, qfx, ← hol, qa6]
      refine (que g _ _).trans ?_
      rfl
  ·have h1 : ¬ 0 ≤ x.parent := of_decide_eq_false h1
   have eu : up = -1 := by rw [hup, q93, if_neg h1]
   (try simp only [zU, seval, qam, hpll])
   rw [← eu]
   refine ⟨by omega, ?_⟩
   refine qbz (R := fun r ν => r = .d (.bool (p x)) ∧ ν = []) [0, 1] (.box 1 (.mapr 1) :: .map (some .i64) (qbb g) :: []) (by simp) (by simp) (show [qbv [0, 1] _ (.box 1 (.mapr 1)), qbv [0, 1] _ (.map (some .i64) (qbb g))] = _ by rw [qbw]; rfl) rfl (hk2 rfl (qct g _)) ((hp x).mono fun r s hr => ⟨[], by rw [hr.2]; rfl, hr.1, rfl⟩) (fun r ν hr => ?_)
   obtain ⟨rfl, rfl⟩ := hr
   have ekl : k = pl.length := f1.symm
   simp only [zU, seval, qam, List.map_nil, List.append_nil]
   refine ifC.mk (fun hc => ?_) (fun hc => ?_)
   ·have hc : p x = false := by simpa using hc
    rw [qer, if_neg (by rw [hc]; simp), ← hup, ← hout]
    refine qad [] [0, 1, 2, 3] rfl (by simp) ?_ ?_
    ·simp only [zU, seval, qam, @qai ((k:Int) + 1) (by omega)]
     try rfl
    ·rw [ekl, qlq]
     refine (que g _ _).trans ?_
     rfl
   ·have hc : p x = true := by simpa using hc
    have e1 : x.hi - x.lo = IntKind.i64.wrap (x.hi - x.lo) := (@qai (x.hi - x.lo) (by omega)).symm
    rw [qer, if_pos hc, ← hup]
    have efin : qfv (o ++ [{ x with parent := up }]) = qcg out { x with parent := up } := by rw [qfl, ← hout]
    simp only [efin]
    (try simp only [zU, seval, qam, @qai (x.hi - x.lo) (by omega)])
    refine ifC.mk (fun h2 => ?_) (fun h2 => ?_)
    ·have h2 : 0 ≤ up := of_decide_eq_true h2
     obtain ⟨u, hu⟩ : ∃ u : Nat, up = u := ⟨up.toNat, by omega⟩
     have hul : u < out.length := by omega
     obtain ⟨y, hy⟩ : ∃ y, y = out.getD u default := ⟨_, rfl⟩
     have egy : (out.map qah.toD).getD u default = y.toD := by rw [qas _ _ _ hul, ← hy]
     have hyk := hok u hul
     rw [← hy] at hyk
     (try simp only [zU, seval, qam, hu, (show (u:Int) < out.length by omega), hul, egy, @qai (y.depth + 1) (by omega), @qai (y.self - (x.hi - x.lo)) (by omega)])
     refine ⟨.inl (by kernel_rfl), ?_⟩
     (try simp only [zU, seval, qam, (show (u:Int) < out.length by omega), hul, egy, (show (k:Int) < l.length by omega), hpll, (show k < pl.length + (m + 1) by omega)])
     refine ⟨⟨by omega, by omega⟩, ?_⟩
     have ef : (qcg out { x with parent := (u : Int) }).map qah.toD = (out.map qah.toD).set u (qah.toD { y with self := y.self - (x.hi - x.lo) }) ++ [qah.toD { x with parent := (u : Int), depth := y.depth + 1, self := x.hi - x.lo }] := by
      simp only [qcg, qmp, Qg6, (show (0:Int) ≤ u by omega), Int.toNat_natCast, ← hy, if_true, List.map_append, List.map_set]
      rfl
     rw [ef, qc3]
     refine qad [] [0, 1, 6, 3] rfl (by simp) ?_ ?_
     ·simp only [zU, seval, qam, @qai ((k:Int) + 1) (by omega)]
      try rfl
     ·rw [ekl, qfx]
      rw [List.take_of_length_le (by rw [List.length_set, List.length_map]; exact Nat.le_refl _), ← hol]
      refine (que g _ _).trans ?_
      rfl
    ·have h2 : ¬ 0 ≤ up := of_decide_eq_false h2
     (try simp only [zU, seval, qam, (show (k:Int) < l.length by omega), hpll, (show k < pl.length + (m + 1) by omega)])
     refine ⟨⟨by omega, by omega⟩, ?_⟩
     have ef : (qcg out { x with parent := up }).map qah.toD = out.map qah.toD ++ [qah.toD { x with parent := up, depth := 0, self := x.hi - x.lo }] := by
      simp only [qcg, qmp, Qg6, h2, if_false, List.map_append]
      rfl
     rw [ef, qc3]
     refine qad [] [0, 1, 6, 3] rfl (by simp) ?_ ?_
     ·simp only [zU, seval, qam, @qai ((k:Int) + 1) (by omega)]
      try rfl
     ·rw [ekl, qfx, ← hol, qa6]
      refine (que g _ _).trans ?_
      rfl
 ·have : k = l.length := by omega
  subst this
  simp only [zU, seval, qam, (show ¬ (l.length:Int) < l.length by omega), List.take_length]
  refine ⟨_, _, (qcy rfl).trans (qae [] [0, 1] rfl (by simp) (show qbf _ _ _ = AV.d _ from rfl) (que g [] _)), ?_, rfl⟩
  simp only [zU, seval, qam, qa6]
theorem Qey (rs : D) {fv : FuncId} (p : qah → Bool) (hp : ∀ x : qah, qag Tryz.prog Gl fv [.d x.toD, .ptr 0 0] (.box 1 (.d rs) :: []) (fun r s => r = .d (.bool (p x)) ∧ s = (.box 1 (.d rs) :: []))) (l : List qah) (hl : l.length ≤ 1000) (hg : qgp l) :
  qag Tryz.prog Gl 64 [.d (.sl (l.map qah.toD)), .fn fv [.ptr 0 0]] (.box 1 (.d rs) :: []) (fun r s => r = .osl 1 0 (qfv (chF p l).1).length ∧ s = (.box 1 (.d rs) :: .arr 8 ((qfv (chF p l).1).map qah.toD) :: [])) := by
 refine qac Tryz.func64 rfl rfl (by simp [Tryz.ntmps64]) (qab rfl _ _ _ _ ?_)
 simp only [Tryz.ntmps64, Tryz.results64, qaj, List.length_nil]
 simp only [zU, seval, qam]
 refine ⟨Qdx l.length (by omega), ?_⟩
 rw [q82]
 refine qa4 l.length (fun k => [(1, .fn fv [.ptr 0 0]), (5, .osl 1 0 (qfv (chF p (l.take k)).1).length), (6, .osl 2 0 l.length), (13, .d (.sl (l.map qah.toD))), (14, .d (.int .i64 l.length)), (15, .d (.int .i64 k))])
  (fun k => (.box 1 (.d rs) :: .arr 8 ((qfv (chF p (l.take k)).1).map qah.toD) :: .arr 1 (q4b (chF p (l.take k)).2 (l.length - k)) :: [])) (fun _ => True) trivial ?_ ?_
 ·refine (qe9 5 8 rfl).trans ?_
  refine qad [] [0, 2, 1] rfl (by simp) ?_ ?_
  ·simp only [zU, seval, qam]
   try rfl
  ·skip
   rfl
 intro k _ hk
 have hgk := qya hg k
 obtain ⟨f1, f2, f3, f4⟩ := qtr p hgk
 have hkl : (l.take k).length = k := by rw [List.length_take]; omega
 rw [hkl] at f1 f2 f3
 by_cases h : k < l.length
 ·obtain ⟨x, hx⟩ : ∃ x, x = l.getD k default := ⟨_, rfl⟩
  have eg : (l.map qah.toD).getD k default = x.toD := by rw [qas _ _ _ h, ← hx]
  have ht : l.take (k + 1) = l.take k ++ [x] := by rw [qay l k h, ← hx]
  have gx := hg k h
  rw [← hx] at gx
  obtain ⟨o, ho⟩ : ∃ o, o = (chF p (l.take k)).1 := ⟨_, rfl⟩
  obtain ⟨pl, hpl⟩ : ∃ pl, pl = (chF p (l.take k)).2 := ⟨_, rfl⟩
  obtain ⟨out, hout⟩ : ∃ out, out = qfv o := ⟨_, rfl⟩
  have hc : chF p (l.take (k + 1)) = qer p (o, pl) x := by rw [ht, qzz, ho, hpl]
  have hol : out.length = o.length := by rw [hout, qf2]
  have hok : okL o.length out := by rw [hout]; exact Qdm (by rw [ho]; exact f4)
  rw [hc]
  rw [← ho, ← hpl] at f3
  rw [← ho] at f2 f4
  rw [← hpl] at f1
  rw [← ho, ← hpl, ← hout]
  obtain ⟨m, hm⟩ : ∃ m, l.length - k = m + 1 := ⟨l.length - k - 1, by omega⟩
  have hm2 : l.length - (k + 1) = m := by omega
  rw [hm, hm2]
  have hpll := q8t pl (m + 1)
  obtain ⟨up, hup⟩ : ∃ up, up = q93 pl x := ⟨_, rfl⟩
  have hupb : -1 ≤ up ∧ up < o.length := by
   rw [hup, q93]; split
   ·exact f3 _ (by omega)
   ·omega
  simp only [zU, seval, qam, (show (k:Int) < l.length by omega), h, eg]
  repeat ((with_reducible refine And.intro ?_ ?_); (focus (first | omega | (simp only [qax]; omega) | (refine qq ?_; rfl) | (refine dq ?_; kernel_rfl) | (intros; simp_all; done))))
  refine ifC.mk (fun h1 => ?_) (fun h1 => ?_)
  ·have h1 : 0 ≤ x.parent := of_decide_eq_true h1
   obtain ⟨q, hq⟩ : ∃ q : Nat, x.parent = q := ⟨x.parent.toNat, by omega⟩
   have hqk : q < pl.length := by omega
   have eq : (q4b pl (m + 1)).getD q default = .int .i64 up := by rw [q8u hqk, hup, q93, if_pos h1, hq, Int.toNat_natCast]
   (try simp only [zU, seval, qam, hq, (show (q:Int) < l.length by omega), (show q < l.length by omega), hpll, (show q < pl.length + (m + 1) by omega), eq])
   refine ⟨by omega, ?_⟩
   refine qbz (R := fun r ν => r = .d (.bool (p x)) ∧ ν = []) [0] (.box 1 (.d rs) :: []) (by simp) (by simp) rfl rfl (hk1 rfl) ((hp x).mono fun r s hr => ⟨[], by rw [hr.2]; rfl, hr.1, rfl⟩) (fun r ν hr => ?_)
   obtain ⟨rfl, rfl⟩ := hr
   have ekl : k = pl.length := f1.symm
   simp only [zU, seval, qam, List.map_nil, List.append_nil]
   refine ifC.mk (fun hc => ?_) (fun hc => ?_)
   ·have hc : p x = false := by simpa using hc
    rw [qer, if_neg (by rw [hc]; simp), ← hup, ← hout]
    refine qad [] [0, 1, 2] rfl (by simp) ?_ ?_
    ·simp only [zU, seval, qam, @qai ((k:Int) + 1) (by omega)]
     try rfl
    ·rw [ekl, qlq]
     skip
     rfl
   ·have hc : p x = true := by simpa using hc
    have e1 : x.hi - x.lo = IntKind.i64.wrap (x.hi - x.lo) := (@qai (x.hi - x.lo) (by omega)).symm
    rw [qer, if_pos hc, ← hup]
    have efin : qfv (o ++ [{ x with parent := up }]) = qcg out { x with parent := up } := by rw [qfl, ← hout]
    simp only [efin]
    (try simp only [zU, seval, qam, @qai (x.hi - x.lo) (by omega)])
    refine ifC.mk (fun h2 => ?_) (fun h2 => ?_)
    ·have h2 : 0 ≤ up := of_decide_eq_true h2
     obtain ⟨u, hu⟩ : ∃ u : Nat, up = u := ⟨up.toNat, by omega⟩
     have hul : u < out.length := by omega
     obtain ⟨y, hy⟩ : ∃ y, y = out.getD u default := ⟨_, rfl⟩
     have egy : (out.map qah.toD).getD u default = y.toD := by rw [qas _ _ _ hul, ← hy]
     have hyk := hok u hul
     rw [← hy] at hyk
     (try simp only [zU, seval, qam, hu, (show (u:Int) < out.length by omega), hul, egy, @qai (y.depth + 1) (by omega), @qai (y.self - (x.hi - x.lo)) (by omega)])
     refine ⟨.inl (by kernel_rfl), ?_⟩
     (try simp only [zU, seval, qam, (show (u:Int) < out.length by omega), hul, egy, (show (k:Int) < l.length by omega), hpll, (show k < pl.length + (m + 1) by omega)])
     refine ⟨⟨by omega, by omega⟩, ?_⟩
     have ef : (qcg out { x with parent := (u : Int) }).map qah.toD = (out.map qah.toD).set u (qah.toD { y with self := y.self - (x.hi - x.lo) }) ++ [qah.toD { x with parent := (u : Int), depth := y.depth + 1, self := x.hi - x.lo }] := by
      simp only [qcg, qmp, Qg6, (show (0:Int) ≤ u by omega), Int.toNat_natCast, ← hy, if_true, List.map_append, List.map_set]
      rfl
     rw [ef, qc3]
     refine qad [] [0, 5, 2] rfl (by simp) ?_ ?_
     ·simp only [zU, seval, qam, @qai ((k:Int) + 1) (by omega)]
      try rfl
     ·rw [ekl, qfx]
      rw [List.take_of_length_le (by rw [List.length_set, List.length_map]; exact Nat.le_refl _), ← hol]
      skip
      rfl
    ·have h2 : ¬ 0 ≤ up := of_decide_eq_false h2
     (try simp only [zU, seval, qam, (show (k:Int) < l.length by omega), hpll, (show k < pl.length + (m + 1) by omega)])
     refine ⟨⟨by omega, by omega⟩, ?_⟩
     have ef : (qcg out { x with parent := up }).map qah.toD = out.map qah.toD ++ [qah.toD { x with parent := up, depth := 0, self := x.hi - x.lo }] := by
      simp only [qcg, qmp, Qg6, h2, if_false, List.map_append]
      rfl
     rw [ef, qc3]
     refine qad [] [0, 5, 2] rfl (by simp) ?_ ?_
     ·simp only [zU, seval, qam, @qai ((k:Int) + 1) (by omega)]
      try rfl
     ·rw [ekl, qfx, ← hol, qa6]
      skip
      rfl
  ·have h1 : ¬ 0 ≤ x.parent := of_decide_eq_false h1
   have eu : up = -1 := by rw [hup, q93, if_neg h1]
   (try simp only [zU, seval, qam, hpll])
   rw [← eu]
   refine ⟨by omega, ?_⟩
   refine qbz (R := fun r ν => r = .d (.bool (p x)) ∧ ν = []) [0] (.box 1 (.d rs) :: []) (by simp) (by simp) rfl rfl (hk1 rfl) ((hp x).mono fun r s hr => ⟨[], by rw [hr.2]; rfl, hr.1, rfl⟩) (fun r ν hr => ?_)
   obtain ⟨rfl, rfl⟩ := hr
   have ekl : k = pl.length := f1.symm
   simp only [zU, seval, qam, List.map_nil, List.append_nil]
   refine ifC.mk (fun hc => ?_) (fun hc => ?_)
   ·have hc : p x = false := by simpa using hc
    rw [qer, if_neg (by rw [hc]; simp), ← hup, ← hout]
    refine qad [] [0, 1, 2] rfl (by simp) ?_ ?_
    ·simp only [zU, seval, qam, @qai ((k:Int) + 1) (by omega)]
     try rfl
    ·rw [ekl, qlq]
     skip
     rfl
   ·have hc : p x = true := by simpa using hc
    have e1 : x.hi - x.lo = IntKind.i64.wrap (x.hi - x.lo) := (@qai (x.hi - x.lo) (by omega)).symm
    rw [qer, if_pos hc, ← hup]
    have efin : qfv (o ++ [{ x with parent := up }]) = qcg out { x with parent := up } := by rw [qfl, ← hout]
    simp only [efin]
    (try simp only [zU, seval, qam, @qai (x.hi - x.lo) (by omega)])
    refine ifC.mk (fun h2 => ?_) (fun h2 => ?_)
    ·have h2 : 0 ≤ up := of_decide_eq_true h2
     obtain ⟨u, hu⟩ : ∃ u : Nat, up = u := ⟨up.toNat, by omega⟩
     have hul : u < out.length := by omega
     obtain ⟨y, hy⟩ : ∃ y, y = out.getD u default := ⟨_, rfl⟩
     have egy : (out.map qah.toD).getD u default = y.toD := by rw [qas _ _ _ hul, ← hy]
     have hyk := hok u hul
     rw [← hy] at hyk
     (try simp only [zU, seval, qam, hu, (show (u:Int) < out.length by omega), hul, egy, @qai (y.depth + 1) (by omega), @qai (y.self - (x.hi - x.lo)) (by omega)])
     refine ⟨.inl (by kernel_rfl), ?_⟩
     (try simp only [zU, seval, qam, (show (u:Int) < out.length by omega), hul, egy, (show (k:Int) < l.length by omega), hpll, (show k < pl.length + (m + 1) by omega)])
     refine ⟨⟨by omega, by omega⟩, ?_⟩
     have ef : (qcg out { x with parent := (u : Int) }).map qah.toD = (out.map qah.toD).set u (qah.toD { y with self := y.self - (x.hi - x.lo) }) ++ [qah.toD { x with parent := (u : Int), depth := y.depth + 1, self := x.hi - x.lo }] := by
      simp only [qcg, qmp, Qg6, (show (0:Int) ≤ u by omega), Int.toNat_natCast, ← hy, if_true, List.map_append, List.map_set]
      rfl
     rw [ef, qc3]
     refine qad [] [0, 5, 2] rfl (by simp) ?_ ?_
     ·simp only [zU, seval, qam, @qai ((k:Int) + 1) (by omega)]
      try rfl
     ·rw [ekl, qfx]
      rw [List.take_of_length_le (by rw [List.length_set, List.length_map]; exact Nat.le_refl _), ← hol]
      skip
      rfl
    ·have h2 : ¬ 0 ≤ up := of_decide_eq_false h2
     (try simp only [zU, seval, qam, (show (k:Int) < l.length by omega), hpll, (show k < pl.length + (m + 1) by omega)])
     refine ⟨⟨by omega, by omega⟩, ?_⟩
     have ef : (qcg out { x with parent := up }).map qah.toD = out.map qah.toD ++ [qah.toD { x with parent := up, depth := 0, self := x.hi - x.lo }] := by
      simp only [qcg, qmp, Qg6, h2, if_false, List.map_append]
      rfl
     rw [ef, qc3]
     refine qad [] [0, 5, 2] rfl (by simp) ?_ ?_
     ·simp only [zU, seval, qam, @qai ((k:Int) + 1) (by omega)]
      try rfl
     ·rw [ekl, qfx, ← hol, qa6]
      skip
      rfl
 ·have : k = l.length := by omega
  subst this
  simp only [zU, seval, qam, (show ¬ (l.length:Int) < l.length by omega), List.take_length]
  exact ⟨_, _, qae [] [0, 1] rfl (by simp) rfl rfl, rfl, rfl⟩

theorem q4o : (D.raw (Value.map none)).cells.length = 1 := rfl
theorem Qp2 (g : Int → Bool) (σ : Sto) : qdd [0, 1] (.box 1 (.mapr 1) :: .map (some .i64) (qbb g) :: σ) = [.box 1 (.mapr 1), .map (some .i64) (qbb g)] := by
 show [qbv [0, 1] _ (.box 1 (.mapr 1)), qbv [0, 1] _ (.map (some .i64) (qbb g))] = _
 rw [qbw]; rfl
section
variable {n : Nat} {all : Array Oper} {rest : List Oper} {KK : Env → Sto → Prop} {env : Env} {f : FuncId} {ag caps as' : List AV} {dst : Option Tmp}
theorem cG {v : D} (g : Int → Bool) (σ : Sto) (h : qag Tryz.prog Gl f as' [.box 1 (.mapr 1), .map (some .i64) (qbb g)] (fun r s => r = .d v ∧ s = [.box 1 (.mapr 1), .map (some .i64) (qbb g)]))
  (he : (ag ++ caps).map (qbf [0, 1] (.box 1 (.mapr 1) :: .map (some .i64) (qbb g) :: σ)) = as')
  (h2 : qal Tryz.prog Gl n all false rest (putE env dst (.d v)) (.box 1 (.mapr 1) :: .map (some .i64) (qbb g) :: σ) KK) : qfp Tryz.prog Gl n all false dst rest (.fn f caps) ag env (.box 1 (.mapr 1) :: .map (some .i64) (qbb g) :: σ) KK :=
 qym [0, 1] [.box 1 (.mapr 1), .map (some .i64) (qbb g)] (by simp) (by simp) (Qp2 g σ) he (hk2 rfl (qct g _)) h h2
theorem Qr0 {es m : Nat} {xs : List D} (g : Int → Bool) (σ : Sto) (h : qag Tryz.prog Gl f as' [.box 1 (.mapr 1), .map (some .i64) (qbb g)] (fun r s => r = .osl 2 0 m ∧ s = [.box 1 (.mapr 1), .map (some .i64) (qbb g), .arr es xs]))
  (he : (ag ++ caps).map (qbf [0, 1] (.box 1 (.mapr 1) :: .map (some .i64) (qbb g) :: σ)) = as')
  (h2 : qal Tryz.prog Gl n all false rest (putE env dst (.osl (σ.length + 2) 0 m)) (.box 1 (.mapr 1) :: .map (some .i64) (qbb g) :: σ ++ [.arr es xs]) KK) : qfp Tryz.prog Gl n all false dst rest (.fn f caps) ag env (.box 1 (.mapr 1) :: .map (some .i64) (qbb g) :: σ) KK :=
 qtu [0, 1] [.box 1 (.mapr 1), .map (some .i64) (qbb g)] (by simp) (by simp) (Qp2 g σ) he (hk2 rfl (qct g _)) h h2
end
def qfu (l : List qap) (ths : List qao) (m : Int) : Bool := ths.any fun x => x.id == m && qdb l qav x.name
theorem Qnl {l : List qap} {ths : List qao} {x : qao} (h : qdb l qav x.name = true) : (fun m => m == x.id || qfu l ths m) = qfu l (ths ++ [x]) := by
 funext m
 rw [qfu, qfu, List.any_append, List.any_cons, List.any_nil, Bool.or_false, h, Bool.and_true, Bool.or_comm]
 congr 1
 rw [Bool.eq_iff_iff]; simp; exact ⟨fun e => e.symm, fun e => e.symm⟩
theorem Qnm {l : List qap} {ths : List qao} {x : qao} (h : qdb l qav x.name = false) : qfu l (ths ++ [x]) = qfu l ths := by
 funext m
 rw [qfu, qfu, List.any_append, List.any_cons, List.any_nil, Bool.or_false, h, Bool.and_false, Bool.or_false]
def qga (l : List qap) (t : qa5) : qa5 :=
 { t with
  threads := t.threads.filter (fun x => !qfu l t.threads x.id)
  flows := t.flows.filter (fun x => !(qfu l t.threads x.ft || qfu l t.threads x.tt))
  samples := t.samples.filter (fun x => !qfu l t.threads x.thread)
  blocks := t.blocks.filter (fun x => !qfu l t.threads x.thread)
  lost := t.lost.filter (fun x => !qfu l t.threads x.thread)
  slices := qfv (chF (fun x => !qfu l t.threads x.thread) t.slices).1
  states := qf5 (qfu l t.threads) t.states }
def qa5.lim (t : qa5) : Prop := t.threads.length ≤ 1000 ∧ t.slices.length ≤ 1000 ∧ t.states.length ≤ 1000 ∧ t.flows.length ≤ 1000 ∧ t.samples.length ≤ 1000 ∧ t.steps.length ≤ 1000 ∧ t.blocks.length ≤ 1000 ∧ t.lost.length ≤ 1000
def Qrp (t : qa5) : AV := .agg [.d (.int .i64 t.lo), .d (.int .i64 t.hi), .osl 0 0 t.threads.length, .d (.sl (t.slices.map qah.toD)), .d (.sl (t.states.map qa0.toD)), .d (.sl (t.flows.map qbu.toD)), .d (.sl (t.samples.map qan.toD)), .d (.sl (t.steps.map qbc.toD)), .d (.sl (t.blocks.map qar.toD)), .d (.sl (t.lost.map qcd.toD))]
def zT : AV := .agg [.d (.int .i64 0), .d (.int .i64 0), .nils, .nils, .nils, .nils, .nils, .nils, .nils, .nils]
theorem qzm (l : List qap) (t : qa5) (hl : l.length < 1000000) (ht : t.lim) (hg : qgp t.slices) : qag Tryz.prog Gl 43 [.d (.sl (l.map qap.toD)), .d t.toD] []
  (fun r s => r = Qrp (qga l t) ∧ s = [.arr 3 ((qga l t).threads.map qao.toD)]) := by
 obtain ⟨h1, h2, h3, h4, h5, h6, h7, h8⟩ := ht
 refine qac Tryz.func43 rfl rfl (by simp [Tryz.ntmps43]) (qab rfl _ _ _ _ ?_)
 simp only [Tryz.ntmps43, Tryz.results43, qaj, List.length_nil]
 simp only [zU, seval, qam, q4o]
 refine qa4 t.threads.length (fun k => [(0, .d (.sl (l.map qap.toD))), (3, .ptr 2 0), (4, .ptr 3 0), (5, .ptr 0 0), (10, .d (.sl (t.threads.map qao.toD))), (11, .d (.int .i64 t.threads.length)), (12, .d (.int .i64 k))])
  (fun k => [.box 1 (.mapr 1), .map (some .i64) (qbb (qfu l (t.threads.take k))), .box 10 (.d t.toD), .box 10 zT]) (fun _ => True) trivial ?_ ?_
 ·refine qad [] [3, 2, 0, 1] rfl (by simp) ?_ ?_
  ·simp only [zU, seval, qam, q4o]
   try rfl
  ·rw [Qd0]
   show [_, qbv [3, 2, 0, 1] _ (.map (some .i64) (qbb fun _ => false)), _, _] = _
   rw [qbw]; rfl
 intro k _ hk
 by_cases h : k < t.threads.length
 ·obtain ⟨x, hx⟩ : ∃ x, x = t.threads.getD k default := ⟨_, rfl⟩
  have eg : (t.threads.map qao.toD).getD k default = x.toD := by rw [qas _ _ _ h, ← hx]
  have hst : t.threads.take (k + 1) = t.threads.take k ++ [x] := by rw [qay _ k h, ← hx]
  rw [hst]
  simp only [zU, seval, qam, q4o, (show (k:Int) < t.threads.length by omega), h, eg]
  repeat ((with_reducible refine And.intro ?_ ?_); (focus (first | omega | (simp only [qax]; omega) | (refine qq ?_; rfl) | (refine dq ?_; kernel_rfl) | (intros; simp_all; done))))
  refine qaf (qf0 l _ _ hl) ?_
  simp only [zU, seval, qam, q4o]
  refine ifC.mk (fun hc => ?_) (fun hc => ?_)
  ·have hc : qdb l qav x.name = true := hc
   (try simp only [zU, seval, qam, q4o, Qic])
   rw [← Qnl hc]
   refine qad [] [0, 1, 2, 3] rfl (by simp) ?_ ((que _ [2, 3] _).trans rfl)
   simp only [zU, seval, qam, q4o, @qai ((k:Int) + 1) (by omega)]
   try rfl
  ·have hc : qdb l qav x.name = false := hc
   rw [Qnm hc]
   refine qad [] [0, 1, 2, 3] rfl (by simp) ?_ ((que _ [2, 3] _).trans rfl)
   simp only [zU, seval, qam, q4o, @qai ((k:Int) + 1) (by omega)]
   try rfl
 have : k = t.threads.length := by omega
 subst this
 obtain ⟨g, hgd⟩ : ∃ g, g = qfu l t.threads := ⟨_, rfl⟩
 simp only [zU, seval, qam, q4o, (show ¬ (t.threads.length:Int) < t.threads.length by omega), List.take_length]
 rw [← hgd]
 refine Qr0 g _ (qs1 g (fun x => g x.id) (Qer g) t.threads (by omega)) rfl ?_
 simp only [zU, seval, qam, q4o]
 repeat ((with_reducible refine And.intro ?_ ?_); (focus (first | omega | (simp only [qax]; omega) | (refine qq ?_; rfl) | (refine dq ?_; kernel_rfl) | (intros; simp_all; done))))
 refine cG g _ (qzh g (fun x => g x.ft || g x.tt) (Qne g) t.flows (by omega)) rfl ?_
 simp only [zU, seval, qam, q4o]
 repeat ((with_reducible refine And.intro ?_ ?_); (focus (first | omega | (simp only [qax]; omega) | (refine qq ?_; rfl) | (refine dq ?_; kernel_rfl) | (intros; simp_all; done))))
 refine cG g _ (qs2 g (fun x => g x.thread) (Qes g) t.samples (by omega)) rfl ?_
 simp only [zU, seval, qam, q4o]
 repeat ((with_reducible refine And.intro ?_ ?_); (focus (first | omega | (simp only [qax]; omega) | (refine qq ?_; rfl) | (refine dq ?_; kernel_rfl) | (intros; simp_all; done))))
 refine cG g _ (qui g (fun x => g x.thread) (Qiv g) t.blocks (by omega)) rfl ?_
 simp only [zU, seval, qam, q4o]
 repeat ((with_reducible refine And.intro ?_ ?_); (focus (first | omega | (simp only [qax]; omega) | (refine qq ?_; rfl) | (refine dq ?_; kernel_rfl) | (intros; simp_all; done))))
 refine cG g _ (qzg g (fun x => g x.thread) (Qnd g) t.lost (by omega)) rfl ?_
 simp only [zU, seval, qam, q4o]
 repeat ((with_reducible refine And.intro ?_ ?_); (focus (first | omega | (simp only [qax]; omega) | (refine qq ?_; rfl) | (refine dq ?_; kernel_rfl) | (intros; simp_all; done))))
 refine cG g _ (Qez g (fun x => !g x.thread) (Qiu g) t.slices (by omega) hg) rfl ?_
 simp only [zU, seval, qam, q4o]
 repeat ((with_reducible refine And.intro ?_ ?_); (focus (first | omega | (simp only [qax]; omega) | (refine qq ?_; rfl) | (refine dq ?_; kernel_rfl) | (intros; simp_all; done))))
 refine qym [1] [.map (some .i64) (qbb g)] (by simp) (by simp) (by show [qbv [1] _ (.map (some .i64) (qbb g))] = _; rw [qbw]) rfl (hk1 (qct g _)) (Qij g t.states (by omega)) ?_
 simp only [zU, seval, qam, q4o]
 repeat ((with_reducible refine And.intro ?_ ?_); (focus (first | omega | (simp only [qax]; omega) | (refine qq ?_; rfl) | (refine dq ?_; kernel_rfl) | (intros; simp_all; done))))
 have ed : qga l t = { t with
   threads := t.threads.filter (fun x => !g x.id)
   flows := t.flows.filter (fun x => !(g x.ft || g x.tt))
   samples := t.samples.filter (fun x => !g x.thread)
   blocks := t.blocks.filter (fun x => !g x.thread)
   lost := t.lost.filter (fun x => !g x.thread)
   slices := qfv (chF (fun x => !g x.thread) t.slices).1
   states := qf5 g t.states } := by rw [hgd]; rfl
 rw [ed]
 refine ⟨_, _, qae [] [4] rfl (by simp) rfl rfl, ?_, ?_⟩
 ·rfl
 ·rfl

def qgv {α : Type} (f : α → α) (l : List α) (k : Nat) : List α := (l.take k).map f ++ l.drop k
theorem qg2 {α : Type} (f : α → α) (l : List α) (k : Nat) : (qgv f l k).length = l.length := by
 simp [qgv]; omega
theorem qfi {α : Type} (f : α → α) (l : List α) : qgv f l 0 = l := by simp [qgv]
theorem qg4 {α : Type} (f : α → α) (l : List α) : qgv f l l.length = l.map f := by simp [qgv]
theorem qg3 {α : Type} [Inhabited α] (f : α → α) {l : List α} {k : Nat} (h : k < l.length) : (qgv f l k).getD k default = l.getD k default := by
 rw [qgv, List.getD_eq_getElem?_getD, List.getElem?_append_right (by simp; omega)]
 simp [show min k l.length = k by omega]
theorem qg1 {α : Type} [Inhabited α] (f : α → α) {l : List α} {k : Nat} (h : k < l.length) : (qgv f l k).set k (f (l.getD k default)) = qgv f l (k + 1) := by
 rw [qgv, qgv, qay l k h, List.map_append, List.set_append_right _ _ (by simp; omega)]
 simp only [List.length_map, List.length_take, show min k l.length = k by omega, Nat.sub_self]
 rw [List.drop_eq_getElem_cons h, List.set_cons_zero]
 simp [h]
def frD (l : List qap) (s : List (List UInt8)) : List (List UInt8) := s.filter (fun x => !qdb l qbd x)
theorem Qqr (l : List qap) (hl : l.length < 1000000) (s : List (List UInt8)) (hs : s.length < 1000000) : qag Tryz.prog Gl 66 [.d (.sl (s.map .str)), .ptr 0 0] [.box 1 (.d (.sl (l.map qap.toD)))] (fun r σ => r = .d (.sl ((frD l s).map .str)) ∧ σ = [.box 1 (.d (.sl (l.map qap.toD)))]) := by
 refine qac Tryz.func66 rfl rfl (by simp [Tryz.ntmps66]) (qab rfl _ _ _ _ ?_)
 simp only [Tryz.ntmps66, Tryz.results66, qaj, List.length_nil]
 simp only [zU, seval]
 refine qaq ((qze _ (fun x => qdb l qbd x) (Qna l hl) s hs).mono fun r σ hr => ?_)
 obtain ⟨rfl, rfl⟩ := hr
 simp only [zU, seval]
 exact ⟨_, _, qae [] [0] rfl (by simp) (show qbf _ _ _ = AV.d _ from rfl) rfl, rfl, rfl⟩
def frS (l : List qap) (x : qan) : qan := { x with stack := frD l x.stack }
def Qft (l : List qap) (x : qar) : qar := { x with stack := frD l x.stack }
def qkc (l : List qap) (t : qa5) : qa5 :=
 { t with
  slices := qfv (chF (fun x => !qdb l qa8 x.name) t.slices).1
  samples := t.samples.map (frS l)
  blocks := t.blocks.map (Qft l)
  steps := t.steps.filter (fun x => !qdb l qaw x.name) }
def qew (t : qa5) : AV := .agg [.d (.int .i64 t.lo), .d (.int .i64 t.hi), .osl 0 0 t.threads.length, .osl 1 0 t.slices.length, .d (.sl (t.states.map qa0.toD)), .d (.sl (t.flows.map qbu.toD)), .osl 2 0 t.samples.length, .osl 3 0 t.steps.length, .osl 4 0 t.blocks.length, .d (.sl (t.lost.map qcd.toD))]
def Qhk (t : qa5) : Sto := [.arr 3 (t.threads.map qao.toD), .arr 8 (t.slices.map qah.toD), .arr 4 (t.samples.map qan.toD), .arr 3 (t.steps.map qbc.toD), .arr 7 (t.blocks.map qar.toD)]
def qa5.limS (t : qa5) : Prop := (∀ x ∈ t.samples, x.stack.length < 1000000) ∧ ∀ x ∈ t.blocks, x.stack.length < 1000000
theorem q48 (l : List qap) (t : qa5) (hl : l.length < 1000000) (ht : t.lim) (hs : t.limS) (hg : qgp t.slices) : qag Tryz.prog Gl 42 [.d (.sl (l.map qap.toD)), Qrp t] [.arr 3 (t.threads.map qao.toD)]
  (fun r s => r = qew (qkc l t) ∧ s = Qhk (qkc l t)) := by
 obtain ⟨h1, h2, h3, h4, h5, h6, h7, h8⟩ := ht
 obtain ⟨rs, hrs⟩ : ∃ rs, rs = D.sl (l.map qap.toD) := ⟨_, rfl⟩
 refine qac Tryz.func42 rfl rfl (by simp [Tryz.ntmps42]) (qab rfl _ _ _ _ ?_)
 simp only [Tryz.ntmps42, Tryz.results42, qaj, List.length_nil]
 simp only [zU, seval, Qrp]
 refine qtu [1] [.box 1 (.d (.sl (l.map qap.toD)))] (by simp) (by simp) rfl rfl (hk1 rfl) (Qey _ (fun x => !qdb l qa8 x.name) (Qiq l hl) t.slices (by omega) hg) ?_
 simp only [zU, seval]
 repeat ((with_reducible refine And.intro ?_ ?_); (focus (first | omega | (simp only [qax]; omega) | (refine qq ?_; rfl) | (refine dq ?_; kernel_rfl) | (intros; simp_all; done))))
 refine qaq ((qlu t.samples (by omega) _).mono fun r s hr => ?_)
 obtain ⟨rfl, rfl⟩ := hr
 simp only [zU, seval]
 repeat ((with_reducible refine And.intro ?_ ?_); (focus (first | omega | (simp only [qax]; omega) | (refine qq ?_; rfl) | (refine dq ?_; kernel_rfl) | (intros; simp_all; done))))
 obtain ⟨sl, hsl⟩ : ∃ sl, sl = qfv (chF (fun x => !qdb l qa8 x.name) t.slices).1 := ⟨_, rfl⟩
 rw [← hsl]
 obtain ⟨R, hR⟩ : ∃ R, R = D.sl (l.map qap.toD) := ⟨_, rfl⟩
 rw [← hR]
 refine qa4 t.samples.length (fun k => [(2, .ptr 1 0), (3, .ptr 2 0), (4, .ptr 3 0), (5, .fn 66 [.ptr 1 0]), (21, .osl 5 0 t.samples.length), (22, .d (.int .i64 t.samples.length)), (23, .d (.int .i64 k))])
  (fun k => [.arr 3 (t.threads.map qao.toD), .box 1 (.d R), .box 10 (.agg [.d (.int .i64 t.lo), .d (.int .i64 t.hi), .osl 0 0 t.threads.length, .osl 4 0 sl.length, .d (.sl (t.states.map qa0.toD)), .d (.sl (t.flows.map qbu.toD)), .osl 5 0 t.samples.length, .d (.sl (t.steps.map qbc.toD)), .d (.sl (t.blocks.map qar.toD)), .d (.sl (t.lost.map qcd.toD))]), .box 10 zT, .arr 8 (sl.map qah.toD), .arr 4 ((qgv (frS l) t.samples k).map qan.toD)]) (fun _ => True) trivial ?_ ?_
 ·refine qad [] [0, 1, 2, 3, 4, 5] rfl (by simp) ?_ ?_
  ·simp only [zU, seval]
   try rfl
  ·rw [qfi]; rfl
 intro k _ hk
 by_cases h : k < t.samples.length
 ·obtain ⟨x, hx⟩ : ∃ x, x = t.samples.getD k default := ⟨_, rfl⟩
  have hml := qg2 (frS l) t.samples k
  have eg : ((qgv (frS l) t.samples k).map qan.toD).getD k default = x.toD := by rw [qas _ _ _ (by omega), qg3 _ h, ← hx]
  have est : (qgv (frS l) t.samples k).set k (frS l x) = qgv (frS l) t.samples (k + 1) := by rw [hx, qg1 _ h]
  have hxs := hs.1 x (by rw [hx]; exact qde h)
  simp only [zU, seval, (show (k:Int) < t.samples.length by omega), h, eg, hml]
  repeat ((with_reducible refine And.intro ?_ ?_); (focus (first | omega | (simp only [qax]; omega) | (refine qq ?_; rfl) | (refine dq ?_; kernel_rfl) | (intros; simp_all; done))))
  refine qdn 1 (Qqr l hl x.stack hxs) (fun s => rfl) (by rw [hR]; rfl) trivial ?_
  simp only [zU, seval, (show (k:Int) < t.samples.length by omega), h, eg, hml]
  refine qad [] [0, 1, 2, 3, 4, 5] rfl (by simp) ?_ ?_
  ·simp only [zU, seval, @qai ((k:Int) + 1) (by omega)]
   try rfl
  ·rw [← est, List.map_set]; rfl
 have : k = t.samples.length := by omega
 subst this
 obtain ⟨sa, hsa⟩ : ∃ sa, sa = t.samples.map (frS l) := ⟨_, rfl⟩
 have hsal : t.samples.length = sa.length := by rw [hsa, List.length_map]
 rw [qg4, ← hsa]
 simp only [zU, seval, (show ¬ (t.samples.length:Int) < t.samples.length by omega)]
 rw [hsal]
 refine qaq ((qox t.blocks (by omega) _).mono fun r s hr => ?_)
 obtain ⟨rfl, rfl⟩ := hr
 simp only [zU, seval]
 repeat ((with_reducible refine And.intro ?_ ?_); (focus (first | omega | (simp only [qax]; omega) | (refine qq ?_; rfl) | (refine dq ?_; kernel_rfl) | (intros; simp_all; done))))
 refine qa4 t.blocks.length (fun k => [(2, .ptr 1 0), (3, .ptr 2 0), (4, .ptr 3 0), (5, .fn 66 [.ptr 1 0]), (43, .osl 6 0 t.blocks.length), (44, .d (.int .i64 t.blocks.length)), (45, .d (.int .i64 k))])
  (fun k => [.arr 3 (t.threads.map qao.toD), .box 1 (.d R), .box 10 (.agg [.d (.int .i64 t.lo), .d (.int .i64 t.hi), .osl 0 0 t.threads.length, .osl 4 0 sl.length, .d (.sl (t.states.map qa0.toD)), .d (.sl (t.flows.map qbu.toD)), .osl 5 0 sa.length, .d (.sl (t.steps.map qbc.toD)), .osl 6 0 t.blocks.length, .d (.sl (t.lost.map qcd.toD))]), .box 10 zT, .arr 8 (sl.map qah.toD), .arr 4 (sa.map qan.toD), .arr 7 ((qgv (Qft l) t.blocks k).map qar.toD)]) (fun _ => True) trivial ?_ ?_
 ·refine qad [] [0, 1, 2, 3, 4, 5, 6] rfl (by simp) ?_ ?_
  ·simp only [zU, seval]
   try rfl
  ·rw [qfi]; rfl
 intro k _ hk
 by_cases h : k < t.blocks.length
 ·obtain ⟨x, hx⟩ : ∃ x, x = t.blocks.getD k default := ⟨_, rfl⟩
  have hml := qg2 (Qft l) t.blocks k
  have eg : ((qgv (Qft l) t.blocks k).map qar.toD).getD k default = x.toD := by rw [qas _ _ _ (by omega), qg3 _ h, ← hx]
  have est : (qgv (Qft l) t.blocks k).set k (Qft l x) = qgv (Qft l) t.blocks (k + 1) := by rw [hx, qg1 _ h]
  have hxs := hs.2 x (by rw [hx]; exact qde h)
  simp only [zU, seval, (show (k:Int) < t.blocks.length by omega), h, eg, hml]
  repeat ((with_reducible refine And.intro ?_ ?_); (focus (first | omega | (simp only [qax]; omega) | (refine qq ?_; rfl) | (refine dq ?_; kernel_rfl) | (intros; simp_all; done))))
  refine qdn 1 (Qqr l hl x.stack hxs) (fun s => rfl) (by rw [hR]; rfl) trivial ?_
  simp only [zU, seval, (show (k:Int) < t.blocks.length by omega), h, eg, hml]
  refine qad [] [0, 1, 2, 3, 4, 5, 6] rfl (by simp) ?_ ?_
  ·simp only [zU, seval, @qai ((k:Int) + 1) (by omega)]
   try rfl
  ·rw [← est, List.map_set]; rfl
 have : k = t.blocks.length := by omega
 subst this
 obtain ⟨bl, hbl⟩ : ∃ bl, bl = t.blocks.map (Qft l) := ⟨_, rfl⟩
 have hbll : t.blocks.length = bl.length := by rw [hbl, List.length_map]
 rw [qg4, ← hbl]
 simp only [zU, seval, (show ¬ (t.blocks.length:Int) < t.blocks.length by omega)]
 rw [hbll, hR]
 refine qtu [1] [.box 1 (.d (.sl (l.map qap.toD)))] (by simp) (by simp) rfl rfl (hk1 rfl) (qzf _ (fun x => qdb l qaw x.name) (Qnb l hl) t.steps (by omega)) ?_
 simp only [zU, seval]
 repeat ((with_reducible refine And.intro ?_ ?_); (focus (first | omega | (simp only [qax]; omega) | (refine qq ?_; rfl) | (refine dq ?_; kernel_rfl) | (intros; simp_all; done))))
 have ed : qkc l t = { t with slices := sl, samples := sa, blocks := bl, steps := t.steps.filter (fun x => !qdb l qaw x.name) } := by rw [hsl, hsa, hbl]; rfl
 rw [ed]
 refine ⟨_, _, qae [] [0, 4, 5, 7, 6] rfl (by simp) rfl rfl, ?_, ?_⟩
 ·rfl
 ·rfl

def val (p : Bool) (i n : Nat) : Option AV := if p = true then some (.osl i 0 n) else none
def qb2 (a b c d : Option AV) : Key → Option AV
 | .s n => if n = qav then a else if n = qa8 then b else if n = qbd then c else if n = qaw then d else none
 | .i _ => none
theorem qsy : (fun _ => none) = qb2 none none none none := by
 funext k; cases k <;> simp [qb2]
theorem qd1 : (D.raw (Value.slice none 0 0)).cells.length = 1 := rfl
theorem L1 (a b c d : Option AV) : qb2 a b c d (.s [116, 104, 114, 101, 97, 100]) = a := by simp [qb2, qav]
theorem L2 (a b c d : Option AV) : qb2 a b c d (.s [115, 108, 105, 99, 101]) = b := by simp [qb2, qav, qa8]
theorem L3 (a b c d : Option AV) : qb2 a b c d (.s [102, 114, 97, 109, 101]) = c := by simp [qb2, qav, qa8, qbd]
theorem L4 (a b c d : Option AV) : qb2 a b c d (.s [99, 111, 117, 110, 116, 101, 114]) = d := by simp [qb2, qav, qa8, qbd, qaw]
theorem M1 (a b c d : Option AV) (v : AV) : qfy (qb2 a b c d) (.s [116, 104, 114, 101, 97, 100]) v = qb2 (some v) b c d := by
 funext k; cases k with
 | i n => simp [qfy, qb2]
 | s n => by_cases h : n = qav <;> simp [qfy, qb2, h, qav] <;> simp_all [qav]
theorem M2 (a b c d : Option AV) (v : AV) : qfy (qb2 a b c d) (.s [115, 108, 105, 99, 101]) v = qb2 a (some v) c d := by
 funext k; cases k with
 | i n => simp [qfy, qb2]
 | s n => by_cases h : n = qa8 <;> simp [qfy, qb2, h, qav, qa8] <;> simp_all [qa8]
theorem M3 (a b c d : Option AV) (v : AV) : qfy (qb2 a b c d) (.s [102, 114, 97, 109, 101]) v = qb2 a b (some v) d := by
 funext k; cases k with
 | i n => simp [qfy, qb2]
 | s n => by_cases h : n = qbd <;> simp [qfy, qb2, h, qav, qa8, qbd] <;> simp_all [qbd]
theorem M4 (a b c d : Option AV) (v : AV) : qfy (qb2 a b c d) (.s [99, 111, 117, 110, 116, 101, 114]) v = qb2 a b c (some v) := by
 funext k; cases k with
 | i n => simp [qfy, qb2]
 | s n => by_cases h : n = qaw <;> simp [qfy, qb2, h, qav, qa8, qbd, qaw] <;> simp_all [qaw]
theorem qec (f : AV → AV) (a b c d : Option AV) : (fun k => (qb2 a b c d k).map f) = qb2 (a.map f) (b.map f) (c.map f) (d.map f) := by
 funext k; cases k with
 | i n => rfl
 | s n =>
  simp only [qb2]
  split
  ·rfl
  split
  ·rfl
  split
  ·rfl
  split
  ·rfl
  ·rfl
theorem qyw {ρ : List Nat} {σ : Sto} (p : Bool) {i j : Nat} (n : Nat) (h : qcb ρ i = some j) : (val p i n).map (qbf ρ σ) = val p j n := by
 cases p with
 | false => rfl
 | true => show some (qbf ρ σ (.osl i 0 n)) = _; simp [qbf, qjb, h, val]
theorem qhn {ρ : List Nat} {σ : Sto} (p1 p2 p3 p4 : Bool) (n1 n2 n3 n4 : Nat) {i1 i2 i3 i4 j1 j2 j3 j4 : Nat} (h1 : qcb ρ i1 = some j1) (h2 : qcb ρ i2 = some j2) (h3 : qcb ρ i3 = some j3) (h4 : qcb ρ i4 = some j4) :
  qbv ρ σ (.map none (qb2 (val p1 i1 n1) (val p2 i2 n2) (val p3 i3 n3) (val p4 i4 n4))) = .map none (qb2 (val p1 j1 n1) (val p2 j2 n2) (val p3 j3 n3) (val p4 j4 n4)) := by
 show Blk.map none _ = _
 rw [qec, qyw _ _ h1, qyw _ _ h2, qyw _ _ h3, qyw _ _ h4]
theorem qd0 {n m : Nat} {env : Env} {σ : Sto} (es : Nat) (hm : m ≤ σ.length) : qhm n m env σ env (σ ++ [.arr es []]) := fun w I μ a h1 h2 h3 => by
 obtain ⟨μ', a1, a2⟩ := h1.addNone es
 exact ⟨I, μ', a1, h2.keep a2, a2.mono hm⟩
theorem Qnn {l : List qan} (h : ∀ x ∈ l, x.stack.length < 1000000) : ((l.map (·.stack)).flatten).length ≤ l.length * 1000000 := by
 induction l with
 | nil => simp
 | cons x l ih =>
  have h1 := ih fun y hy => h y (List.mem_cons_of_mem _ hy)
  have h2 := h x List.mem_cons_self
  simp only [List.map_cons, List.flatten_cons, List.length_append, List.length_cons]; omega
theorem Qrz {l : List qar} (h : ∀ x ∈ l, x.stack.length < 1000000) : ((l.map (·.stack)).flatten).length ≤ l.length * 1000000 := by
 induction l with
 | nil => simp
 | cons x l ih =>
  have h1 := ih fun y hy => h y (List.mem_cons_of_mem _ hy)
  have h2 := h x List.mem_cons_self
  simp only [List.map_cons, List.flatten_cons, List.length_append, List.length_cons]; omega
theorem Ql1 (x : qan) : (List.map (fun y : qan => y.stack) [x]).flatten = x.stack := by simp
theorem Qqy (x : qar) : (List.map (fun y : qar => y.stack) [x]).flatten = x.stack := by simp
theorem Ql2 (l : List qan) : (List.map (fun y : qan => y.stack) (l.take 0)).flatten = [] := by simp
theorem Qqz (l : List qar) : (List.map (fun y : qar => y.stack) (l.take 0)).flatten = [] := by simp
theorem qgd (i n : Nat) : val false i n = none := rfl
theorem qgc (i n : Nat) : val true i n = some (.osl i 0 n) := rfl
def frN (t : qa5) : List (List UInt8) := (t.samples.map (·.stack)).flatten ++ (t.blocks.map (·.stack)).flatten
def frK (t : qa5) (k : Nat) : List (List UInt8) := (t.samples.map (·.stack)).flatten ++ ((t.blocks.take k).map (·.stack)).flatten
theorem qpr (t : qa5) : frK t 0 = (t.samples.map (·.stack)).flatten := by rw [frK, Qqz, List.append_nil]
theorem q9h {t : qa5} {k : Nat} {x : qar} (h : t.blocks.take (k + 1) = t.blocks.take k ++ [x]) : frK t (k + 1) = frK t k ++ x.stack := by
 rw [frK, h, List.map_append, List.flatten_append, Qqy, ← List.append_assoc]; rfl
theorem Qfs (t : qa5) : frK t t.blocks.length = frN t := by rw [frK, List.take_length]; rfl
theorem Ql0 {t : qa5} (hs : t.limS) (k : Nat) : (frK t k).length ≤ t.samples.length * 1000000 + t.blocks.length * 1000000 := by
 have h1 := Qnn (l := t.samples) hs.1
 have h2 := Qrz (l := t.blocks.take k) fun y hy => hs.2 y (List.mem_of_mem_take hy)
 rw [List.length_take] at h2
 rw [frK, List.length_append]
 have : min k t.blocks.length ≤ t.blocks.length := Nat.min_le_right _ _
 have := Nat.mul_le_mul_right 1000000 this
 omega
theorem Qim (t : qa5) (ht : t.lim) (hs : t.limS) : qag Tryz.prog Gl 44 [qew t] [.arr 3 (t.threads.map qao.toD), .arr 8 (t.slices.map qah.toD), .arr 4 (t.samples.map qan.toD), .arr 3 (t.steps.map qbc.toD), .arr 7 (t.blocks.map qar.toD)]
  (fun r s => r = .mapr 5 ∧ s = [.arr 3 (t.threads.map qao.toD), .arr 8 (t.slices.map qah.toD), .arr 4 (t.samples.map qan.toD), .arr 3 (t.steps.map qbc.toD), .arr 7 (t.blocks.map qar.toD), .map none (qb2 (val (decide (0 < t.threads.length)) 6 t.threads.length) (val (decide (0 < t.slices.length)) 7 t.slices.length) (val (decide (0 < t.samples.length + t.blocks.length)) 8 (frN t).length) (val (decide (0 < t.steps.length)) 9 t.steps.length)),
   .arr 1 ((t.threads.map (·.name)).map .str), .arr 1 ((t.slices.map (·.name)).map .str), .arr 1 ((frN t).map .str), .arr 1 ((t.steps.map (·.name)).map .str)]) := by
 obtain ⟨h1, h2, h3, h4, h5, h6, h7, h8⟩ := ht
 refine qac Tryz.func44 rfl rfl (by simp [Tryz.ntmps44]) (qab rfl _ _ _ _ ?_)
 simp only [Tryz.ntmps44, Tryz.results44, qaj, List.length_nil]
 simp only [zU, seval, L1, L2, L3, L4, M1, M2, M3, M4, qd1, qew]
 refine qa4 t.threads.length (fun k => [(1, .ptr 5 0), (3, .mapr 6), (16, .osl 0 0 t.threads.length), (17, .d (.int .i64 t.threads.length)), (18, .d (.int .i64 k))])
  (fun k => [.arr 3 (t.threads.map qao.toD), .arr 8 (t.slices.map qah.toD), .arr 4 (t.samples.map qan.toD), .arr 3 (t.steps.map qbc.toD), .arr 7 (t.blocks.map qar.toD), .box 10 (qew t), .map none (qb2 (val (decide (0 < k)) 7 k) (val false 8 0) (val false 9 0) (val false 10 0)), .arr 1 (((t.threads.take k).map (·.name)).map .str), .arr 1 (([] : List (List UInt8)).map .str), .arr 1 (([] : List (List UInt8)).map .str), .arr 1 (([] : List (List UInt8)).map .str)]) (fun _ => True) trivial ?_ ?_
 ·refine (qd0 1 (by simp)).trans ((qd0 1 (by simp)).trans ((qd0 1 (by simp)).trans ((qd0 1 (by simp)).trans ?_)))
  refine qad [] [0, 1, 2, 3, 4, 5, 6, 7, 8, 9, 10] rfl (by simp) ?_ ?_
  ·simp only [zU, seval, L1, L2, L3, L4, M1, M2, M3, M4, qd1]
   try rfl
  ·rw [qsy]
   show [_, _, _, _, _, _, qbv _ _ (.map none (qb2 (val false 7 0) (val false 8 0) (val false 9 0) (val false 10 0))), _, _, _, _] = _
   rw [qhn _ _ _ _ _ _ _ _ rfl rfl rfl rfl]; rfl
 intro k _ hk
 by_cases h : k < t.threads.length
 ·obtain ⟨x, hx⟩ : ∃ x, x = t.threads.getD k default := ⟨_, rfl⟩
  have eg : (t.threads.map qao.toD).getD k default = x.toD := by rw [qas _ _ _ h, ← hx]
  have ht : t.threads.take (k + 1) = t.threads.take k ++ [x] := by rw [qay _ k h, ← hx]
  obtain ⟨p, hp⟩ : ∃ p, p = (decide (0 < k)) := ⟨_, rfl⟩
  rw [← hp]
  rw [ht, show (decide (0 < k + 1)) = true from decide_eq_true (by omega), List.map_append, List.map_append]
  skip
  cases p with
  | false =>
   have hk0 : k = 0 := by simpa using hp
   subst hk0
   simp only [zU, seval, L1, L2, L3, L4, M1, M2, M3, M4, qd1, (show (0:Int) < t.threads.length by omega), h, eg, qgc, qgd, Option.getD_some, Option.getD_none]
   repeat ((with_reducible refine And.intro ?_ ?_); (focus (first | omega | (simp only [qax]; omega) | (refine qq ?_; rfl) | (refine dq ?_; kernel_rfl) | (intros; simp_all; done))))
   refine qad [] [0, 1, 2, 3, 4, 5, 6, 13, 8, 9, 10] rfl (by simp) ?_ ?_
   ·simp only [zU, seval, L1, L2, L3, L4, M1, M2, M3, M4, qd1, @qai ((1:Int)) (by omega)]
    try rfl
   ·show [_, _, _, _, _, _, qbv _ _ (.map none (qb2 (val true 13 1) (val false 8 0) (val false 9 0) (val false 10 0))), _, _, _, _] = _
    rw [qhn _ _ _ _ _ _ _ _ rfl rfl rfl rfl]; rfl
  | true =>
   simp only [zU, seval, L1, L2, L3, L4, M1, M2, M3, M4, qd1, (show (k:Int) < t.threads.length by omega), h, eg, qgc, qgd, Option.getD_some, Option.getD_none, qa6]
   repeat ((with_reducible refine And.intro ?_ ?_); (focus (first | omega | (simp only [qax]; omega) | (refine qq ?_; rfl) | (refine dq ?_; kernel_rfl) | (intros; simp_all; done))))
   rw [show List.take k (((t.threads.take k).map (·.name)).map D.str) = ((t.threads.take k).map (·.name)).map D.str from List.take_of_length_le (by simp only [List.length_map, List.length_take]; omega)]
   refine qad [] [0, 1, 2, 3, 4, 5, 6, 13, 8, 9, 10] rfl (by simp) ?_ ?_
   ·simp only [zU, seval, L1, L2, L3, L4, M1, M2, M3, M4, qd1, @qai ((k:Int) + 1) (by omega)]
    try rfl
   ·show [_, _, _, _, _, _, qbv _ _ (.map none (qb2 (val true 13 (k + 1)) (val false 8 0) (val false 9 0) (val false 10 0))), _, _, _, _] = _
    rw [qhn _ _ _ _ _ _ _ _ rfl rfl rfl rfl]; rfl
 have : k = t.threads.length := by omega
 subst this
 simp only [zU, seval, L1, L2, L3, L4, M1, M2, M3, M4, qd1, qew, (show ¬ (t.threads.length:Int) < t.threads.length by omega), List.take_length]
 refine qa4 t.slices.length (fun k => [(1, .ptr 5 0), (3, .mapr 6), (31, .osl 1 0 t.slices.length), (32, .d (.int .i64 t.slices.length)), (33, .d (.int .i64 k))])
  (fun k => [.arr 3 (t.threads.map qao.toD), .arr 8 (t.slices.map qah.toD), .arr 4 (t.samples.map qan.toD), .arr 3 (t.steps.map qbc.toD), .arr 7 (t.blocks.map qar.toD), .box 10 (qew t), .map none (qb2 (val (decide (0 < t.threads.length)) 7 t.threads.length) (val (decide (0 < k)) 8 k) (val false 9 0) (val false 10 0)), .arr 1 ((t.threads.map (·.name)).map .str), .arr 1 (((t.slices.take k).map (·.name)).map .str), .arr 1 (([] : List (List UInt8)).map .str), .arr 1 (([] : List (List UInt8)).map .str)]) (fun _ => True) trivial ?_ ?_
 ·refine qad [] [0, 1, 2, 3, 4, 5, 6, 7, 8, 9, 10] rfl (by simp) ?_ ?_
  ·simp only [zU, seval, L1, L2, L3, L4, M1, M2, M3, M4, qd1]
   try rfl
  ·show [_, _, _, _, _, _, qbv _ _ (.map none (qb2 (val (decide (0 < t.threads.length)) 7 t.threads.length) (val (decide (0 < 0)) 8 0) (val false 9 0) (val false 10 0))), _, _, _, _] = _
   rw [qhn _ _ _ _ _ _ _ _ rfl rfl rfl rfl]; rfl
 intro k _ hk
 by_cases h : k < t.slices.length
 ·obtain ⟨x, hx⟩ : ∃ x, x = t.slices.getD k default := ⟨_, rfl⟩
  have eg : (t.slices.map qah.toD).getD k default = x.toD := by rw [qas _ _ _ h, ← hx]
  have ht : t.slices.take (k + 1) = t.slices.take k ++ [x] := by rw [qay _ k h, ← hx]
  obtain ⟨p, hp⟩ : ∃ p, p = (decide (0 < k)) := ⟨_, rfl⟩
  rw [← hp]
  rw [ht, show (decide (0 < k + 1)) = true from decide_eq_true (by omega), List.map_append, List.map_append]
  skip
  cases p with
  | false =>
   have hk0 : k = 0 := by simpa using hp
   subst hk0
   simp only [zU, seval, L1, L2, L3, L4, M1, M2, M3, M4, qd1, (show (0:Int) < t.slices.length by omega), h, eg, qgc, qgd, Option.getD_some, Option.getD_none]
   repeat ((with_reducible refine And.intro ?_ ?_); (focus (first | omega | (simp only [qax]; omega) | (refine qq ?_; rfl) | (refine dq ?_; kernel_rfl) | (intros; simp_all; done))))
   refine qad [] [0, 1, 2, 3, 4, 5, 6, 7, 13, 9, 10] rfl (by simp) ?_ ?_
   ·simp only [zU, seval, L1, L2, L3, L4, M1, M2, M3, M4, qd1, @qai ((1:Int)) (by omega)]
    try rfl
   ·show [_, _, _, _, _, _, qbv _ _ (.map none (qb2 (val (decide (0 < t.threads.length)) 7 t.threads.length) (val true 13 1) (val false 9 0) (val false 10 0))), _, _, _, _] = _
    rw [qhn _ _ _ _ _ _ _ _ rfl rfl rfl rfl]; rfl
  | true =>
   simp only [zU, seval, L1, L2, L3, L4, M1, M2, M3, M4, qd1, (show (k:Int) < t.slices.length by omega), h, eg, qgc, qgd, Option.getD_some, Option.getD_none, qa6]
   repeat ((with_reducible refine And.intro ?_ ?_); (focus (first | omega | (simp only [qax]; omega) | (refine qq ?_; rfl) | (refine dq ?_; kernel_rfl) | (intros; simp_all; done))))
   rw [show List.take k (((t.slices.take k).map (·.name)).map D.str) = ((t.slices.take k).map (·.name)).map D.str from List.take_of_length_le (by simp only [List.length_map, List.length_take]; omega)]
   refine qad [] [0, 1, 2, 3, 4, 5, 6, 7, 13, 9, 10] rfl (by simp) ?_ ?_
   ·simp only [zU, seval, L1, L2, L3, L4, M1, M2, M3, M4, qd1, @qai ((k:Int) + 1) (by omega)]
    try rfl
   ·show [_, _, _, _, _, _, qbv _ _ (.map none (qb2 (val (decide (0 < t.threads.length)) 7 t.threads.length) (val true 13 (k + 1)) (val false 9 0) (val false 10 0))), _, _, _, _] = _
    rw [qhn _ _ _ _ _ _ _ _ rfl rfl rfl rfl]; rfl
 have : k = t.slices.length := by omega
 subst this
 simp only [zU, seval, L1, L2, L3, L4, M1, M2, M3, M4, qd1, qew, (show ¬ (t.slices.length:Int) < t.slices.length by omega), List.take_length]
 refine qa4 t.samples.length (fun k => [(1, .ptr 5 0), (3, .mapr 6), (46, .osl 2 0 t.samples.length), (47, .d (.int .i64 t.samples.length)), (48, .d (.int .i64 k))])
  (fun k => [.arr 3 (t.threads.map qao.toD), .arr 8 (t.slices.map qah.toD), .arr 4 (t.samples.map qan.toD), .arr 3 (t.steps.map qbc.toD), .arr 7 (t.blocks.map qar.toD), .box 10 (qew t), .map none (qb2 (val (decide (0 < t.threads.length)) 7 t.threads.length) (val (decide (0 < t.slices.length)) 8 t.slices.length) (val (decide (0 < k)) 9 (((t.samples.take k).map (·.stack)).flatten).length) (val false 10 0)), .arr 1 ((t.threads.map (·.name)).map .str), .arr 1 ((t.slices.map (·.name)).map .str), .arr 1 (((t.samples.take k).map (·.stack)).flatten.map .str), .arr 1 (([] : List (List UInt8)).map .str)]) (fun _ => True) trivial ?_ ?_
 ·refine qad [] [0, 1, 2, 3, 4, 5, 6, 7, 8, 9, 10] rfl (by simp) ?_ ?_
  ·simp only [zU, seval, L1, L2, L3, L4, M1, M2, M3, M4, qd1]
   try rfl
  ·show [_, _, _, _, _, _, qbv _ _ (.map none (qb2 (val (decide (0 < t.threads.length)) 7 t.threads.length) (val (decide (0 < t.slices.length)) 8 t.slices.length) (val (decide (0 < 0)) 9 0) (val false 10 0))), _, _, _, _] = _
   rw [qhn _ _ _ _ _ _ _ _ rfl rfl rfl rfl]; rfl
 intro k _ hk
 by_cases h : k < t.samples.length
 ·obtain ⟨x, hx⟩ : ∃ x, x = t.samples.getD k default := ⟨_, rfl⟩
  have eg : (t.samples.map qan.toD).getD k default = x.toD := by rw [qas _ _ _ h, ← hx]
  have ht : t.samples.take (k + 1) = t.samples.take k ++ [x] := by rw [qay _ k h, ← hx]
  obtain ⟨p, hp⟩ : ∃ p, p = (decide (0 < k)) := ⟨_, rfl⟩
  rw [← hp]
  rw [ht, show (decide (0 < k + 1)) = true from decide_eq_true (by omega), List.map_append, List.flatten_append, Ql1, List.map_append]
  have hsx := hs.1 x (by rw [hx]; exact qde h)
  have hA := Qnn (l := t.samples.take k) fun y hy => hs.1 y (List.mem_of_mem_take hy)
  rw [List.length_take] at hA
  cases p with
  | false =>
   have hk0 : k = 0 := by simpa using hp
   subst hk0
   rw [Ql2, List.map_nil, List.nil_append]
   simp only [zU, seval, L1, L2, L3, L4, M1, M2, M3, M4, qd1, (show (0:Int) < t.samples.length by omega), h, eg, qgc, qgd, Option.getD_some, Option.getD_none]
   repeat ((with_reducible refine And.intro ?_ ?_); (focus (first | omega | (simp only [qax]; omega) | (refine qq ?_; rfl) | (refine dq ?_; kernel_rfl) | (intros; simp_all; done))))
   refine qad [] [0, 1, 2, 3, 4, 5, 6, 7, 8, 12, 10] rfl (by simp) ?_ ?_
   ·simp only [zU, seval, L1, L2, L3, L4, M1, M2, M3, M4, qd1, @qai ((1:Int)) (by omega)]
    try rfl
   ·show [_, _, _, _, _, _, qbv _ _ (.map none (qb2 (val (decide (0 < t.threads.length)) 7 t.threads.length) (val (decide (0 < t.slices.length)) 8 t.slices.length) (val true 12 _) (val false 10 0))), _, _, _, _] = _
    rw [qhn _ _ _ _ _ _ _ _ rfl rfl rfl rfl]; rfl
  | true =>
   simp only [zU, seval, L1, L2, L3, L4, M1, M2, M3, M4, qd1, (show (k:Int) < t.samples.length by omega), h, eg, qgc, qgd, Option.getD_some, Option.getD_none, qa6]
   repeat ((with_reducible refine And.intro ?_ ?_); (focus (first | omega | (simp only [qax]; omega) | (refine qq ?_; rfl) | (refine dq ?_; kernel_rfl) | (intros; simp_all; done))))
   refine qad [] [0, 1, 2, 3, 4, 5, 6, 7, 8, 12, 10] rfl (by simp) ?_ ?_
   ·simp only [zU, seval, L1, L2, L3, L4, M1, M2, M3, M4, qd1, @qai ((k:Int) + 1) (by omega)]
    try rfl
   ·show [_, _, _, _, _, _, qbv _ _ (.map none (qb2 (val (decide (0 < t.threads.length)) 7 t.threads.length) (val (decide (0 < t.slices.length)) 8 t.slices.length) (val true 12 _) (val false 10 0))), _, _, _, _] = _
    rw [qhn _ _ _ _ _ _ _ _ rfl rfl rfl rfl]; rfl
 have : k = t.samples.length := by omega
 subst this
 simp only [zU, seval, L1, L2, L3, L4, M1, M2, M3, M4, qd1, qew, (show ¬ (t.samples.length:Int) < t.samples.length by omega), List.take_length]
 refine qa4 t.blocks.length (fun k => [(1, .ptr 5 0), (3, .mapr 6), (60, .osl 4 0 t.blocks.length), (61, .d (.int .i64 t.blocks.length)), (62, .d (.int .i64 k))])
  (fun k => [.arr 3 (t.threads.map qao.toD), .arr 8 (t.slices.map qah.toD), .arr 4 (t.samples.map qan.toD), .arr 3 (t.steps.map qbc.toD), .arr 7 (t.blocks.map qar.toD), .box 10 (qew t), .map none (qb2 (val (decide (0 < t.threads.length)) 7 t.threads.length) (val (decide (0 < t.slices.length)) 8 t.slices.length) (val (decide (0 < t.samples.length + k)) 9 (frK t k).length) (val false 10 0)), .arr 1 ((t.threads.map (·.name)).map .str), .arr 1 ((t.slices.map (·.name)).map .str), .arr 1 ((frK t k).map .str), .arr 1 (([] : List (List UInt8)).map .str)]) (fun _ => True) trivial ?_ ?_
 ·refine qad [] [0, 1, 2, 3, 4, 5, 6, 7, 8, 9, 10] rfl (by simp) ?_ ?_
  ·simp only [zU, seval, L1, L2, L3, L4, M1, M2, M3, M4, qd1]
   try rfl
  ·rw [qpr]
   show [_, _, _, _, _, _, qbv _ _ (.map none (qb2 (val (decide (0 < t.threads.length)) 7 t.threads.length) (val (decide (0 < t.slices.length)) 8 t.slices.length) (val (decide (0 < t.samples.length + 0)) 9 ((t.samples.map (·.stack)).flatten).length) (val false 10 0))), _, _, _, _] = _
   rw [qhn _ _ _ _ _ _ _ _ rfl rfl rfl rfl]; rfl
 intro k _ hk
 by_cases h : k < t.blocks.length
 ·obtain ⟨x, hx⟩ : ∃ x, x = t.blocks.getD k default := ⟨_, rfl⟩
  have eg : (t.blocks.map qar.toD).getD k default = x.toD := by rw [qas _ _ _ h, ← hx]
  have ht : t.blocks.take (k + 1) = t.blocks.take k ++ [x] := by rw [qay _ k h, ← hx]
  obtain ⟨p, hp⟩ : ∃ p, p = (decide (0 < t.samples.length + k)) := ⟨_, rfl⟩
  rw [← hp]
  rw [show (decide (0 < t.samples.length + (k + 1))) = true from decide_eq_true (by omega), q9h ht, List.map_append]
  have hsx := hs.2 x (by rw [hx]; exact qde h)
  have hA := Ql0 hs k
  cases p with
  | false =>
   have hp2 : ¬ 0 < t.samples.length + k := by intro hq; rw [decide_eq_true hq] at hp; cases hp
   have hk0 : t.samples.length = 0 ∧ k = 0 := by omega
   obtain ⟨hk1, rfl⟩ := hk0
   have e0 : frK t 0 = [] := by rw [qpr, List.eq_nil_of_length_eq_zero hk1]; simp
   rw [e0, List.map_nil, List.nil_append]
   simp only [zU, seval, L1, L2, L3, L4, M1, M2, M3, M4, qd1, (show (0:Int) < t.blocks.length by omega), h, eg, qgc, qgd, Option.getD_some, Option.getD_none]
   repeat ((with_reducible refine And.intro ?_ ?_); (focus (first | omega | (simp only [qax]; omega) | (refine qq ?_; rfl) | (refine dq ?_; kernel_rfl) | (intros; simp_all; done))))
   refine qad [] [0, 1, 2, 3, 4, 5, 6, 7, 8, 12, 10] rfl (by simp) ?_ ?_
   ·simp only [zU, seval, L1, L2, L3, L4, M1, M2, M3, M4, qd1, @qai ((1:Int)) (by omega)]
    try rfl
   ·show [_, _, _, _, _, _, qbv _ _ (.map none (qb2 (val (decide (0 < t.threads.length)) 7 t.threads.length) (val (decide (0 < t.slices.length)) 8 t.slices.length) (val true 12 _) (val false 10 0))), _, _, _, _] = _
    rw [qhn _ _ _ _ _ _ _ _ rfl rfl rfl rfl]; rfl
  | true =>
   simp only [zU, seval, L1, L2, L3, L4, M1, M2, M3, M4, qd1, (show (k:Int) < t.blocks.length by omega), h, eg, qgc, qgd, Option.getD_some, Option.getD_none, qa6]
   repeat ((with_reducible refine And.intro ?_ ?_); (focus (first | omega | (simp only [qax]; omega) | (refine qq ?_; rfl) | (refine dq ?_; kernel_rfl) | (intros; simp_all; done))))
   refine qad [] [0, 1, 2, 3, 4, 5, 6, 7, 8, 12, 10] rfl (by simp) ?_ ?_
   ·simp only [zU, seval, L1, L2, L3, L4, M1, M2, M3, M4, qd1, @qai ((k:Int) + 1) (by omega)]
    try rfl
   ·show [_, _, _, _, _, _, qbv _ _ (.map none (qb2 (val (decide (0 < t.threads.length)) 7 t.threads.length) (val (decide (0 < t.slices.length)) 8 t.slices.length) (val true 12 _) (val false 10 0))), _, _, _, _] = _
    rw [qhn _ _ _ _ _ _ _ _ rfl rfl rfl rfl]; rfl
 have : k = t.blocks.length := by omega
 subst this
 rw [Qfs]
 simp only [zU, seval, L1, L2, L3, L4, M1, M2, M3, M4, qd1, qew, (show ¬ (t.blocks.length:Int) < t.blocks.length by omega), List.take_length]
 refine qa4 t.steps.length (fun k => [(1, .ptr 5 0), (3, .mapr 6), (74, .osl 3 0 t.steps.length), (75, .d (.int .i64 t.steps.length)), (76, .d (.int .i64 k))])
  (fun k => [.arr 3 (t.threads.map qao.toD), .arr 8 (t.slices.map qah.toD), .arr 4 (t.samples.map qan.toD), .arr 3 (t.steps.map qbc.toD), .arr 7 (t.blocks.map qar.toD), .box 10 (qew t), .map none (qb2 (val (decide (0 < t.threads.length)) 7 t.threads.length) (val (decide (0 < t.slices.length)) 8 t.slices.length) (val (decide (0 < t.samples.length + t.blocks.length)) 9 (frN t).length) (val (decide (0 < k)) 10 k)), .arr 1 ((t.threads.map (·.name)).map .str), .arr 1 ((t.slices.map (·.name)).map .str), .arr 1 ((frN t).map .str), .arr 1 (((t.steps.take k).map (·.name)).map .str)]) (fun _ => True) trivial ?_ ?_
 ·refine qad [] [0, 1, 2, 3, 4, 5, 6, 7, 8, 9, 10] rfl (by simp) ?_ ?_
  ·simp only [zU, seval, L1, L2, L3, L4, M1, M2, M3, M4, qd1]
   try rfl
  ·show [_, _, _, _, _, _, qbv _ _ (.map none (qb2 (val (decide (0 < t.threads.length)) 7 t.threads.length) (val (decide (0 < t.slices.length)) 8 t.slices.length) (val (decide (0 < t.samples.length + t.blocks.length)) 9 (frN t).length) (val (decide (0 < 0)) 10 0))), _, _, _, _] = _
   rw [qhn _ _ _ _ _ _ _ _ rfl rfl rfl rfl]; rfl
 intro k _ hk
 by_cases h : k < t.steps.length
 ·obtain ⟨x, hx⟩ : ∃ x, x = t.steps.getD k default := ⟨_, rfl⟩
  have eg : (t.steps.map qbc.toD).getD k default = x.toD := by rw [qas _ _ _ h, ← hx]
  have ht : t.steps.take (k + 1) = t.steps.take k ++ [x] := by rw [qay _ k h, ← hx]
  obtain ⟨p, hp⟩ : ∃ p, p = (decide (0 < k)) := ⟨_, rfl⟩
  rw [← hp]
  rw [ht, show (decide (0 < k + 1)) = true from decide_eq_true (by omega), List.map_append, List.map_append]
  skip
  cases p with
  | false =>
   have hk0 : k = 0 := by simpa using hp
   subst hk0
   simp only [zU, seval, L1, L2, L3, L4, M1, M2, M3, M4, qd1, (show (0:Int) < t.steps.length by omega), h, eg, qgc, qgd, Option.getD_some, Option.getD_none]
   repeat ((with_reducible refine And.intro ?_ ?_); (focus (first | omega | (simp only [qax]; omega) | (refine qq ?_; rfl) | (refine dq ?_; kernel_rfl) | (intros; simp_all; done))))
   refine qad [] [0, 1, 2, 3, 4, 5, 6, 7, 8, 9, 13] rfl (by simp) ?_ ?_
   ·simp only [zU, seval, L1, L2, L3, L4, M1, M2, M3, M4, qd1, @qai ((1:Int)) (by omega)]
    try rfl
   ·show [_, _, _, _, _, _, qbv _ _ (.map none (qb2 (val (decide (0 < t.threads.length)) 7 t.threads.length) (val (decide (0 < t.slices.length)) 8 t.slices.length) (val (decide (0 < t.samples.length + t.blocks.length)) 9 (frN t).length) (val true 13 1))), _, _, _, _] = _
    rw [qhn _ _ _ _ _ _ _ _ rfl rfl rfl rfl]; rfl
  | true =>
   simp only [zU, seval, L1, L2, L3, L4, M1, M2, M3, M4, qd1, (show (k:Int) < t.steps.length by omega), h, eg, qgc, qgd, Option.getD_some, Option.getD_none, qa6]
   repeat ((with_reducible refine And.intro ?_ ?_); (focus (first | omega | (simp only [qax]; omega) | (refine qq ?_; rfl) | (refine dq ?_; kernel_rfl) | (intros; simp_all; done))))
   rw [show List.take k (((t.steps.take k).map (·.name)).map D.str) = ((t.steps.take k).map (·.name)).map D.str from List.take_of_length_le (by simp only [List.length_map, List.length_take]; omega)]
   refine qad [] [0, 1, 2, 3, 4, 5, 6, 7, 8, 9, 13] rfl (by simp) ?_ ?_
   ·simp only [zU, seval, L1, L2, L3, L4, M1, M2, M3, M4, qd1, @qai ((k:Int) + 1) (by omega)]
    try rfl
   ·show [_, _, _, _, _, _, qbv _ _ (.map none (qb2 (val (decide (0 < t.threads.length)) 7 t.threads.length) (val (decide (0 < t.slices.length)) 8 t.slices.length) (val (decide (0 < t.samples.length + t.blocks.length)) 9 (frN t).length) (val true 13 (k + 1)))), _, _, _, _] = _
    rw [qhn _ _ _ _ _ _ _ _ rfl rfl rfl rfl]; rfl
 have : k = t.steps.length := by omega
 subst this
 simp only [zU, seval, L1, L2, L3, L4, M1, M2, M3, M4, qd1, qew, (show ¬ (t.steps.length:Int) < t.steps.length by omega), List.take_length]
 refine ⟨_, _, qae [] [0, 1, 2, 3, 4, 6, 7, 8, 9, 10] rfl (by simp) rfl (?_ : qdd _ _ = [.arr 3 (t.threads.map qao.toD), .arr 8 (t.slices.map qah.toD), .arr 4 (t.samples.map qan.toD), .arr 3 (t.steps.map qbc.toD), .arr 7 (t.blocks.map qar.toD), .map none (qb2 (val (decide (0 < t.threads.length)) 6 t.threads.length) (val (decide (0 < t.slices.length)) 7 t.slices.length) (val (decide (0 < t.samples.length + t.blocks.length)) 8 (frN t).length) (val (decide (0 < t.steps.length)) 9 t.steps.length)), .arr 1 ((t.threads.map (·.name)).map .str), .arr 1 ((t.slices.map (·.name)).map .str), .arr 1 ((frN t).map .str), .arr 1 ((t.steps.map (·.name)).map .str)]), rfl, rfl⟩
 show [_, _, _, _, _, qbv _ _ (.map none (qb2 (val (decide (0 < t.threads.length)) 7 t.threads.length) (val (decide (0 < t.slices.length)) 8 t.slices.length) (val (decide (0 < t.samples.length + t.blocks.length)) 9 (frN t).length) (val (decide (0 < t.steps.length)) 10 t.steps.length))), _, _, _, _] = _
 rw [qhn _ _ _ _ _ _ _ _ rfl rfl rfl rfl]; rfl
theorem Qip (t : qa5) (ht : t.lim) (hs : t.limS) : qag Tryz.prog Gl 44 [.d t.toD] []
  (fun r s => r = .mapr 0 ∧ s = [.map none (qb2 (val (decide (0 < t.threads.length)) 1 t.threads.length) (val (decide (0 < t.slices.length)) 2 t.slices.length) (val (decide (0 < t.samples.length + t.blocks.length)) 3 (frN t).length) (val (decide (0 < t.steps.length)) 4 t.steps.length)),
   .arr 1 ((t.threads.map (·.name)).map .str), .arr 1 ((t.slices.map (·.name)).map .str), .arr 1 ((frN t).map .str), .arr 1 ((t.steps.map (·.name)).map .str)]) := by
 obtain ⟨h1, h2, h3, h4, h5, h6, h7, h8⟩ := ht
 refine qac Tryz.func44 rfl rfl (by simp [Tryz.ntmps44]) (qab rfl _ _ _ _ ?_)
 simp only [Tryz.ntmps44, Tryz.results44, qaj, List.length_nil]
 simp only [zU, seval, L1, L2, L3, L4, M1, M2, M3, M4, qd1, qew]
 refine qa4 t.threads.length (fun k => [(1, .ptr 0 0), (3, .mapr 1), (16, .d (.sl (t.threads.map qao.toD))), (17, .d (.int .i64 t.threads.length)), (18, .d (.int .i64 k))])
  (fun k => [.box 10 (.d t.toD), .map none (qb2 (val (decide (0 < k)) 2 k) (val false 3 0) (val false 4 0) (val false 5 0)), .arr 1 (((t.threads.take k).map (·.name)).map .str), .arr 1 (([] : List (List UInt8)).map .str), .arr 1 (([] : List (List UInt8)).map .str), .arr 1 (([] : List (List UInt8)).map .str)]) (fun _ => True) trivial ?_ ?_
 ·refine (qd0 1 (by simp)).trans ((qd0 1 (by simp)).trans ((qd0 1 (by simp)).trans ((qd0 1 (by simp)).trans ?_)))
  refine qad [] [0, 1, 2, 3, 4, 5] rfl (by simp) ?_ ?_
  ·simp only [zU, seval, L1, L2, L3, L4, M1, M2, M3, M4, qd1]
   try rfl
  ·rw [qsy]
   show [_, qbv _ _ (.map none (qb2 (val false 2 0) (val false 3 0) (val false 4 0) (val false 5 0))), _, _, _, _] = _
   rw [qhn _ _ _ _ _ _ _ _ rfl rfl rfl rfl]; rfl
 intro k _ hk
 by_cases h : k < t.threads.length
 ·obtain ⟨x, hx⟩ : ∃ x, x = t.threads.getD k default := ⟨_, rfl⟩
  have eg : (t.threads.map qao.toD).getD k default = x.toD := by rw [qas _ _ _ h, ← hx]
  have ht : t.threads.take (k + 1) = t.threads.take k ++ [x] := by rw [qay _ k h, ← hx]
  obtain ⟨p, hp⟩ : ∃ p, p = (decide (0 < k)) := ⟨_, rfl⟩
  rw [← hp]
  rw [ht, show (decide (0 < k + 1)) = true from decide_eq_true (by omega), List.map_append, List.map_append]
  skip
  cases p with
  | false =>
   have hk0 : k = 0 := by simpa using hp
   subst hk0
   simp only [zU, seval, L1, L2, L3, L4, M1, M2, M3, M4, qd1, (show (0:Int) < t.threads.length by omega), h, eg, qgc, qgd, Option.getD_some, Option.getD_none]
   repeat ((with_reducible refine And.intro ?_ ?_); (focus (first | omega | (simp only [qax]; omega) | (refine qq ?_; rfl) | (refine dq ?_; kernel_rfl) | (intros; simp_all; done))))
   refine qad [] [0, 1, 8, 3, 4, 5] rfl (by simp) ?_ ?_
   ·simp only [zU, seval, L1, L2, L3, L4, M1, M2, M3, M4, qd1, @qai ((1:Int)) (by omega)]
    try rfl
   ·show [_, qbv _ _ (.map none (qb2 (val true 8 1) (val false 3 0) (val false 4 0) (val false 5 0))), _, _, _, _] = _
    rw [qhn _ _ _ _ _ _ _ _ rfl rfl rfl rfl]; rfl
  | true =>
   simp only [zU, seval, L1, L2, L3, L4, M1, M2, M3, M4, qd1, (show (k:Int) < t.threads.length by omega), h, eg, qgc, qgd, Option.getD_some, Option.getD_none, qa6]
   repeat ((with_reducible refine And.intro ?_ ?_); (focus (first | omega | (simp only [qax]; omega) | (refine qq ?_; rfl) | (refine dq ?_; kernel_rfl) | (intros; simp_all; done))))
   rw [show List.take k (((t.threads.take k).map (·.name)).map D.str) = ((t.threads.take k).map (·.name)).map D.str from List.take_of_length_le (by simp only [List.length_map, List.length_take]; omega)]
   refine qad [] [0, 1, 8, 3, 4, 5] rfl (by simp) ?_ ?_
   ·simp only [zU, seval, L1, L2, L3, L4, M1, M2, M3, M4, qd1, @qai ((k:Int) + 1) (by omega)]
    try rfl
   ·show [_, qbv _ _ (.map none (qb2 (val true 8 (k + 1)) (val false 3 0) (val false 4 0) (val false 5 0))), _, _, _, _] = _
    rw [qhn _ _ _ _ _ _ _ _ rfl rfl rfl rfl]; rfl
 have : k = t.threads.length := by omega
 subst this
 simp only [zU, seval, L1, L2, L3, L4, M1, M2, M3, M4, qd1, qew, (show ¬ (t.threads.length:Int) < t.threads.length by omega), List.take_length]
 refine qa4 t.slices.length (fun k => [(1, .ptr 0 0), (3, .mapr 1), (31, .d (.sl (t.slices.map qah.toD))), (32, .d (.int .i64 t.slices.length)), (33, .d (.int .i64 k))])
  (fun k => [.box 10 (.d t.toD), .map none (qb2 (val (decide (0 < t.threads.length)) 2 t.threads.length) (val (decide (0 < k)) 3 k) (val false 4 0) (val false 5 0)), .arr 1 ((t.threads.map (·.name)).map .str), .arr 1 (((t.slices.take k).map (·.name)).map .str), .arr 1 (([] : List (List UInt8)).map .str), .arr 1 (([] : List (List UInt8)).map .str)]) (fun _ => True) trivial ?_ ?_
 ·refine qad [] [0, 1, 2, 3, 4, 5] rfl (by simp) ?_ ?_
  ·simp only [zU, seval, L1, L2, L3, L4, M1, M2, M3, M4, qd1]
   try rfl
  ·show [_, qbv _ _ (.map none (qb2 (val (decide (0 < t.threads.length)) 2 t.threads.length) (val (decide (0 < 0)) 3 0) (val false 4 0) (val false 5 0))), _, _, _, _] = _
   rw [qhn _ _ _ _ _ _ _ _ rfl rfl rfl rfl]; rfl
 intro k _ hk
 by_cases h : k < t.slices.length
 ·obtain ⟨x, hx⟩ : ∃ x, x = t.slices.getD k default := ⟨_, rfl⟩
  have eg : (t.slices.map qah.toD).getD k default = x.toD := by rw [qas _ _ _ h, ← hx]
  have ht : t.slices.take (k + 1) = t.slices.take k ++ [x] := by rw [qay _ k h, ← hx]
  obtain ⟨p, hp⟩ : ∃ p, p = (decide (0 < k)) := ⟨_, rfl⟩
  rw [← hp]
  rw [ht, show (decide (0 < k + 1)) = true from decide_eq_true (by omega), List.map_append, List.map_append]
  skip
  cases p with
  | false =>
   have hk0 : k = 0 := by simpa using hp
   subst hk0
   simp only [zU, seval, L1, L2, L3, L4, M1, M2, M3, M4, qd1, (show (0:Int) < t.slices.length by omega), h, eg, qgc, qgd, Option.getD_some, Option.getD_none]
   repeat ((with_reducible refine And.intro ?_ ?_); (focus (first | omega | (simp only [qax]; omega) | (refine qq ?_; rfl) | (refine dq ?_; kernel_rfl) | (intros; simp_all; done))))
   refine qad [] [0, 1, 2, 8, 4, 5] rfl (by simp) ?_ ?_
   ·simp only [zU, seval, L1, L2, L3, L4, M1, M2, M3, M4, qd1, @qai ((1:Int)) (by omega)]
    try rfl
   ·show [_, qbv _ _ (.map none (qb2 (val (decide (0 < t.threads.length)) 2 t.threads.length) (val true 8 1) (val false 4 0) (val false 5 0))), _, _, _, _] = _
    rw [qhn _ _ _ _ _ _ _ _ rfl rfl rfl rfl]; rfl
  | true =>
   simp only [zU, seval, L1, L2, L3, L4, M1, M2, M3, M4, qd1, (show (k:Int) < t.slices.length by omega), h, eg, qgc, qgd, Option.getD_some, Option.getD_none, qa6]
   repeat ((with_reducible refine And.intro ?_ ?_); (focus (first | omega | (simp only [qax]; omega) | (refine qq ?_; rfl) | (refine dq ?_; kernel_rfl) | (intros; simp_all; done))))
   rw [show List.take k (((t.slices.take k).map (·.name)).map D.str) = ((t.slices.take k).map (·.name)).map D.str from List.take_of_length_le (by simp only [List.length_map, List.length_take]; omega)]
   refine qad [] [0, 1, 2, 8, 4, 5] rfl (by simp) ?_ ?_
   ·simp only [zU, seval, L1, L2, L3, L4, M1, M2, M3, M4, qd1, @qai ((k:Int) + 1) (by omega)]
    try rfl
   ·show [_, qbv _ _ (.map none (qb2 (val (decide (0 < t.threads.length)) 2 t.threads.length) (val true 8 (k + 1)) (val false 4 0) (val false 5 0))), _, _, _, _] = _
    rw [qhn _ _ _ _ _ _ _ _ rfl rfl rfl rfl]; rfl
 have : k = t.slices.length := by omega
 subst this
 simp only [zU, seval, L1, L2, L3, L4, M1, M2, M3, M4, qd1, qew, (show ¬ (t.slices.length:Int) < t.slices.length by omega), List.take_length]
 refine qa4 t.samples.length (fun k => [(1, .ptr 0 0), (3, .mapr 1), (46, .d (.sl (t.samples.map qan.toD))), (47, .d (.int .i64 t.samples.length)), (48, .d (.int .i64 k))])
  (fun k => [.box 10 (.d t.toD), .map none (qb2 (val (decide (0 < t.threads.length)) 2 t.threads.length) (val (decide (0 < t.slices.length)) 3 t.slices.length) (val (decide (0 < k)) 4 (((t.samples.take k).map (·.stack)).flatten).length) (val false 5 0)), .arr 1 ((t.threads.map (·.name)).map .str), .arr 1 ((t.slices.map (·.name)).map .str), .arr 1 (((t.samples.take k).map (·.stack)).flatten.map .str), .arr 1 (([] : List (List UInt8)).map .str)]) (fun _ => True) trivial ?_ ?_
 ·refine qad [] [0, 1, 2, 3, 4, 5] rfl (by simp) ?_ ?_
  ·simp only [zU, seval, L1, L2, L3, L4, M1, M2, M3, M4, qd1]
   try rfl
  ·show [_, qbv _ _ (.map none (qb2 (val (decide (0 < t.threads.length)) 2 t.threads.length) (val (decide (0 < t.slices.length)) 3 t.slices.length) (val (decide (0 < 0)) 4 0) (val false 5 0))), _, _, _, _] = _
   rw [qhn _ _ _ _ _ _ _ _ rfl rfl rfl rfl]; rfl
 intro k _ hk
 by_cases h : k < t.samples.length
 ·obtain ⟨x, hx⟩ : ∃ x, x = t.samples.getD k default := ⟨_, rfl⟩
  have eg : (t.samples.map qan.toD).getD k default = x.toD := by rw [qas _ _ _ h, ← hx]
  have ht : t.samples.take (k + 1) = t.samples.take k ++ [x] := by rw [qay _ k h, ← hx]
  obtain ⟨p, hp⟩ : ∃ p, p = (decide (0 < k)) := ⟨_, rfl⟩
  rw [← hp]
  rw [ht, show (decide (0 < k + 1)) = true from decide_eq_true (by omega), List.map_append, List.flatten_append, Ql1, List.map_append]
  have hsx := hs.1 x (by rw [hx]; exact qde h)
  have hA := Qnn (l := t.samples.take k) fun y hy => hs.1 y (List.mem_of_mem_take hy)
  rw [List.length_take] at hA
  cases p with
  | false =>
   have hk0 : k = 0 := by simpa using hp
   subst hk0
   rw [Ql2, List.map_nil, List.nil_append]
   simp only [zU, seval, L1, L2, L3, L4, M1, M2, M3, M4, qd1, (show (0:Int) < t.samples.length by omega), h, eg, qgc, qgd, Option.getD_some, Option.getD_none]
   repeat ((with_reducible refine And.intro ?_ ?_); (focus (first | omega | (simp only [qax]; omega) | (refine qq ?_; rfl) | (refine dq ?_; kernel_rfl) | (intros; simp_all; done))))
   refine qad [] [0, 1, 2, 3, 7, 5] rfl (by simp) ?_ ?_
   ·simp only [zU, seval, L1, L2, L3, L4, M1, M2, M3, M4, qd1, @qai ((1:Int)) (by omega)]
    try rfl
   ·show [_, qbv _ _ (.map none (qb2 (val (decide (0 < t.threads.length)) 2 t.threads.length) (val (decide (0 < t.slices.length)) 3 t.slices.length) (val true 7 _) (val false 5 0))), _, _, _, _] = _
    rw [qhn _ _ _ _ _ _ _ _ rfl rfl rfl rfl]; rfl
  | true =>
   simp only [zU, seval, L1, L2, L3, L4, M1, M2, M3, M4, qd1, (show (k:Int) < t.samples.length by omega), h, eg, qgc, qgd, Option.getD_some, Option.getD_none, qa6]
   repeat ((with_reducible refine And.intro ?_ ?_); (focus (first | omega | (simp only [qax]; omega) | (refine qq ?_; rfl) | (refine dq ?_; kernel_rfl) | (intros; simp_all; done))))
   refine qad [] [0, 1, 2, 3, 7, 5] rfl (by simp) ?_ ?_
   ·simp only [zU, seval, L1, L2, L3, L4, M1, M2, M3, M4, qd1, @qai ((k:Int) + 1) (by omega)]
    try rfl
   ·show [_, qbv _ _ (.map none (qb2 (val (decide (0 < t.threads.length)) 2 t.threads.length) (val (decide (0 < t.slices.length)) 3 t.slices.length) (val true 7 _) (val false 5 0))), _, _, _, _] = _
    rw [qhn _ _ _ _ _ _ _ _ rfl rfl rfl rfl]; rfl
 have : k = t.samples.length := by omega
 subst this
 simp only [zU, seval, L1, L2, L3, L4, M1, M2, M3, M4, qd1, qew, (show ¬ (t.samples.length:Int) < t.samples.length by omega), List.take_length]
 refine qa4 t.blocks.length (fun k => [(1, .ptr 0 0), (3, .mapr 1), (60, .d (.sl (t.blocks.map qar.toD))), (61, .d (.int .i64 t.blocks.length)), (62, .d (.int .i64 k))])
  (fun k => [.box 10 (.d t.toD), .map none (qb2 (val (decide (0 < t.threads.length)) 2 t.threads.length) (val (decide (0 < t.slices.length)) 3 t.slices.length) (val (decide (0 < t.samples.length + k)) 4 (frK t k).length) (val false 5 0)), .arr 1 ((t.threads.map (·.name)).map .str), .arr 1 ((t.slices.map (·.name)).map .str), .arr 1 ((frK t k).map .str), .arr 1 (([] : List (List UInt8)).map .str)]) (fun _ => True) trivial ?_ ?_
 ·refine qad [] [0, 1, 2, 3, 4, 5] rfl (by simp) ?_ ?_
  ·simp only [zU, seval, L1, L2, L3, L4, M1, M2, M3, M4, qd1]
   try rfl
  ·rw [qpr]
   show [_, qbv _ _ (.map none (qb2 (val (decide (0 < t.threads.length)) 2 t.threads.length) (val (decide (0 < t.slices.length)) 3 t.slices.length) (val (decide (0 < t.samples.length + 0)) 4 ((t.samples.map (·.stack)).flatten).length) (val false 5 0))), _, _, _, _] = _
   rw [qhn _ _ _ _ _ _ _ _ rfl rfl rfl rfl]; rfl
 intro k _ hk
 by_cases h : k < t.blocks.length
 ·obtain ⟨x, hx⟩ : ∃ x, x = t.blocks.getD k default := ⟨_, rfl⟩
  have eg : (t.blocks.map qar.toD).getD k default = x.toD := by rw [qas _ _ _ h, ← hx]
  have ht : t.blocks.take (k + 1) = t.blocks.take k ++ [x] := by rw [qay _ k h, ← hx]
  obtain ⟨p, hp⟩ : ∃ p, p = (decide (0 < t.samples.length + k)) := ⟨_, rfl⟩
  rw [← hp]
  rw [show (decide (0 < t.samples.length + (k + 1))) = true from decide_eq_true (by omega), q9h ht, List.map_append]
  have hsx := hs.2 x (by rw [hx]; exact qde h)
  have hA := Ql0 hs k
  cases p with
  | false =>
   have hp2 : ¬ 0 < t.samples.length + k := by intro hq; rw [decide_eq_true hq] at hp; cases hp
   have hk0 : t.samples.length = 0 ∧ k = 0 := by omega
   obtain ⟨hk1, rfl⟩ := hk0
   have e0 : frK t 0 = [] := by rw [qpr, List.eq_nil_of_length_eq_zero hk1]; simp
   rw [e0, List.map_nil, List.nil_append]
   simp only [zU, seval, L1, L2, L3, L4, M1, M2, M3, M4, qd1, (show (0:Int) < t.blocks.length by omega), h, eg, qgc, qgd, Option.getD_some, Option.getD_none]
   repeat ((with_reducible refine And.intro ?_ ?_); (focus (first | omega | (simp only [qax]; omega) | (refine qq ?_; rfl) | (refine dq ?_; kernel_rfl) | (intros; simp_all; done))))
   refine qad [] [0, 1, 2, 3, 7, 5] rfl (by simp) ?_ ?_
   ·simp only [zU, seval, L1, L2, L3, L4, M1, M2, M3, M4, qd1, @qai ((1:Int)) (by omega)]
    try rfl
   ·show [_, qbv _ _ (.map none (qb2 (val (decide (0 < t.threads.length)) 2 t.threads.length) (val (decide (0 < t.slices.length)) 3 t.slices.length) (val true 7 _) (val false 5 0))), _, _, _, _] = _
    rw [qhn _ _ _ _ _ _ _ _ rfl rfl rfl rfl]; rfl
  | true =>
   simp only [zU, seval, L1, L2, L3, L4, M1, M2, M3, M4, qd1, (show (k:Int) < t.blocks.length by omega), h, eg, qgc, qgd, Option.getD_some, Option.getD_none, qa6]
   repeat ((with_reducible refine And.intro ?_ ?_); (focus (first | omega | (simp only [qax]; omega) | (refine qq ?_; rfl) | (refine dq ?_; kernel_rfl) | (intros; simp_all; done))))
   refine qad [] [0, 1, 2, 3, 7, 5] rfl (by simp) ?_ ?_
   ·simp only [zU, seval, L1, L2, L3, L4, M1, M2, M3, M4, qd1, @qai ((k:Int) + 1) (by omega)]
    try rfl
   ·show [_, qbv _ _ (.map none (qb2 (val (decide (0 < t.threads.length)) 2 t.threads.length) (val (decide (0 < t.slices.length)) 3 t.slices.length) (val true 7 _) (val false 5 0))), _, _, _, _] = _
    rw [qhn _ _ _ _ _ _ _ _ rfl rfl rfl rfl]; rfl
 have : k = t.blocks.length := by omega
 subst this
 rw [Qfs]
 simp only [zU, seval, L1, L2, L3, L4, M1, M2, M3, M4, qd1, qew, (show ¬ (t.blocks.length:Int) < t.blocks.length by omega), List.take_length]
 refine qa4 t.steps.length (fun k => [(1, .ptr 0 0), (3, .mapr 1), (74, .d (.sl (t.steps.map qbc.toD))), (75, .d (.int .i64 t.steps.length)), (76, .d (.int .i64 k))])
  (fun k => [.box 10 (.d t.toD), .map none (qb2 (val (decide (0 < t.threads.length)) 2 t.threads.length) (val (decide (0 < t.slices.length)) 3 t.slices.length) (val (decide (0 < t.samples.length + t.blocks.length)) 4 (frN t).length) (val (decide (0 < k)) 5 k)), .arr 1 ((t.threads.map (·.name)).map .str), .arr 1 ((t.slices.map (·.name)).map .str), .arr 1 ((frN t).map .str), .arr 1 (((t.steps.take k).map (·.name)).map .str)]) (fun _ => True) trivial ?_ ?_
 ·refine qad [] [0, 1, 2, 3, 4, 5] rfl (by simp) ?_ ?_
  ·simp only [zU, seval, L1, L2, L3, L4, M1, M2, M3, M4, qd1]
   try rfl
  ·show [_, qbv _ _ (.map none (qb2 (val (decide (0 < t.threads.length)) 2 t.threads.length) (val (decide (0 < t.slices.length)) 3 t.slices.length) (val (decide (0 < t.samples.length + t.blocks.length)) 4 (frN t).length) (val (decide (0 < 0)) 5 0))), _, _, _, _] = _
   rw [qhn _ _ _ _ _ _ _ _ rfl rfl rfl rfl]; rfl
 intro k _ hk
 by_cases h : k < t.steps.length
 ·obtain ⟨x, hx⟩ : ∃ x, x = t.steps.getD k default := ⟨_, rfl⟩
  have eg : (t.steps.map qbc.toD).getD k default = x.toD := by rw [qas _ _ _ h, ← hx]
  have ht : t.steps.take (k + 1) = t.steps.take k ++ [x] := by rw [qay _ k h, ← hx]
  obtain ⟨p, hp⟩ : ∃ p, p = (decide (0 < k)) := ⟨_, rfl⟩
  rw [← hp]
  rw [ht, show (decide (0 < k + 1)) = true from decide_eq_true (by omega), List.map_append, List.map_append]
  skip
  cases p with
  | false =>
   have hk0 : k = 0 := by simpa using hp
   subst hk0
   simp only [zU, seval, L1, L2, L3, L4, M1, M2, M3, M4, qd1, (show (0:Int) < t.steps.length by omega), h, eg, qgc, qgd, Option.getD_some, Option.getD_none]
   repeat ((with_reducible refine And.intro ?_ ?_); (focus (first | omega | (simp only [qax]; omega) | (refine qq ?_; rfl) | (refine dq ?_; kernel_rfl) | (intros; simp_all; done))))
   refine qad [] [0, 1, 2, 3, 4, 8] rfl (by simp) ?_ ?_
   ·simp only [zU, seval, L1, L2, L3, L4, M1, M2, M3, M4, qd1, @qai ((1:Int)) (by omega)]
    try rfl
   ·show [_, qbv _ _ (.map none (qb2 (val (decide (0 < t.threads.length)) 2 t.threads.length) (val (decide (0 < t.slices.length)) 3 t.slices.length) (val (decide (0 < t.samples.length + t.blocks.length)) 4 (frN t).length) (val true 8 1))), _, _, _, _] = _
    rw [qhn _ _ _ _ _ _ _ _ rfl rfl rfl rfl]; rfl
  | true =>
   simp only [zU, seval, L1, L2, L3, L4, M1, M2, M3, M4, qd1, (show (k:Int) < t.steps.length by omega), h, eg, qgc, qgd, Option.getD_some, Option.getD_none, qa6]
   repeat ((with_reducible refine And.intro ?_ ?_); (focus (first | omega | (simp only [qax]; omega) | (refine qq ?_; rfl) | (refine dq ?_; kernel_rfl) | (intros; simp_all; done))))
   rw [show List.take k (((t.steps.take k).map (·.name)).map D.str) = ((t.steps.take k).map (·.name)).map D.str from List.take_of_length_le (by simp only [List.length_map, List.length_take]; omega)]
   refine qad [] [0, 1, 2, 3, 4, 8] rfl (by simp) ?_ ?_
   ·simp only [zU, seval, L1, L2, L3, L4, M1, M2, M3, M4, qd1, @qai ((k:Int) + 1) (by omega)]
    try rfl
   ·show [_, qbv _ _ (.map none (qb2 (val (decide (0 < t.threads.length)) 2 t.threads.length) (val (decide (0 < t.slices.length)) 3 t.slices.length) (val (decide (0 < t.samples.length + t.blocks.length)) 4 (frN t).length) (val true 8 (k + 1)))), _, _, _, _] = _
    rw [qhn _ _ _ _ _ _ _ _ rfl rfl rfl rfl]; rfl
 have : k = t.steps.length := by omega
 subst this
 simp only [zU, seval, L1, L2, L3, L4, M1, M2, M3, M4, qd1, qew, (show ¬ (t.steps.length:Int) < t.steps.length by omega), List.take_length]
 refine ⟨_, _, qae [] [1, 2, 3, 4, 5] rfl (by simp) rfl (?_ : qdd _ _ = [.map none (qb2 (val (decide (0 < t.threads.length)) 1 t.threads.length) (val (decide (0 < t.slices.length)) 2 t.slices.length) (val (decide (0 < t.samples.length + t.blocks.length)) 3 (frN t).length) (val (decide (0 < t.steps.length)) 4 t.steps.length)), .arr 1 ((t.threads.map (·.name)).map .str), .arr 1 ((t.slices.map (·.name)).map .str), .arr 1 ((frN t).map .str), .arr 1 ((t.steps.map (·.name)).map .str)]), rfl, rfl⟩
 show [qbv _ _ (.map none (qb2 (val (decide (0 < t.threads.length)) 2 t.threads.length) (val (decide (0 < t.slices.length)) 3 t.slices.length) (val (decide (0 < t.samples.length + t.blocks.length)) 4 (frN t).length) (val (decide (0 < t.steps.length)) 5 t.steps.length))), _, _, _, _] = _
 rw [qhn _ _ _ _ _ _ _ _ rfl rfl rfl rfl]; rfl

theorem Qgi (a b : Int) : qum b a = -qum a b := by
 rcases qi0 a b with h | h | h <;> rcases qi0 b a with g | g | g <;> omega
theorem Qgh (a b : List UInt8) : q4c b a = -q4c a b := by
 rcases qej a b with ⟨h1, h2, h3, h4⟩ | ⟨h1, h2, h3, h4⟩ | ⟨h1, h2, h3, h4⟩
 ·rcases qej b a with ⟨g1, _, _, _⟩ | ⟨_, g2, _, _⟩ | ⟨_, _, _, g4⟩
  ·rw [h3] at g1; cases g1
  ·exact absurd g2.symm h2
  ·omega
 ·subst h2; omega
 ·rcases qej b a with ⟨_, _, _, g4⟩ | ⟨_, g2, _, _⟩ | ⟨g1, _, _, _⟩
  ·omega
  ·exact absurd g2.symm h2
  ·rw [h3] at g1; cases g1
theorem Qji {a b : Int} : qum a b ≤ 0 ↔ a ≤ b := by
 rcases qi0 a b with h | h | h <;> omega
structure Pre {α : Type} (c : α → α → Int) : Prop where
 self : ∀ a, c a a = 0
 anti : ∀ a b, c b a = -c a b
 trans : ∀ a b d, c a b ≤ 0 → c b d ≤ 0 → c a d ≤ 0
theorem Pre.strict {α : Type} {c : α → α → Int} (h : Pre c) {a b d : α} (h1 : c a b ≤ 0) (h2 : c b d ≤ 0) (h3 : c a b < 0 ∨ c b d < 0) : c a d < 0 := by
 have h4 := h.trans a b d h1 h2
 rcases Int.lt_or_le (c a d) 0 with h5 | h5
 ·exact h5
 exfalso
 have h6 : c d a ≤ 0 := by rw [h.anti a d]; omega
 rcases h3 with h3 | h3
 ·have := h.trans b d a h2 h6
  rw [h.anti a b] at this; omega
 ·have := h.trans d a b h6 h1
  rw [h.anti b d] at this; omega
theorem Pre.lex {α : Type} {f c : α → α → Int} (hf : Pre f) (hc : Pre c) : Pre (fun a b => if f a b = 0 then c a b else f a b) := by
 refine ⟨fun a => ?_, fun a b => ?_, fun a b d h1 h2 => ?_⟩
 ·simp only [hf.self, hc.self, if_true]
 ·rw [hf.anti a b, hc.anti a b]
  by_cases e : f a b = 0
  ·rw [if_pos (by omega), if_pos e]
  ·rw [if_neg (by omega), if_neg e]
 ·by_cases e1 : f a b = 0
  ·rw [if_pos e1] at h1
   by_cases e2 : f b d = 0
   ·rw [if_pos e2] at h2
    have q1 := hf.trans a b d (by omega) (by omega)
    have q2 := hf.trans d b a (by rw [hf.anti b d]; omega) (by rw [hf.anti a b]; omega)
    rw [hf.anti a d] at q2
    rw [if_pos (by omega)]
    exact hc.trans a b d h1 h2
   ·rw [if_neg e2] at h2
    have := hf.strict (a := a) (b := b) (d := d) (by omega) h2 (.inr (by omega))
    rw [if_neg (by omega)]; omega
  ·rw [if_neg e1] at h1
   have h3 : f b d ≤ 0 := by
    by_cases e2 : f b d = 0
    ·omega
    ·rw [if_neg e2] at h2; exact h2
   have := hf.strict (a := a) (b := b) (d := d) h1 h3 (.inl (by omega))
   rw [if_neg (by omega)]; omega
theorem Pre.zero {α : Type} : Pre (fun _ _ : α => (0 : Int)) := ⟨fun _ => rfl, fun _ _ => rfl, fun _ _ _ _ _ => Int.le_refl 0⟩
theorem Pre.comap {α β : Type} {c : α → α → Int} (h : Pre c) (g : β → α) : Pre (fun a b => c (g a) (g b)) := ⟨fun a => h.self _, fun a b => h.anti _ _, fun a b d => h.trans _ _ _⟩
theorem Qm0 : Pre qum := ⟨fun a => by rcases qi0 a a with ⟨h, _⟩ | ⟨_, h⟩ | ⟨h, _⟩ <;> omega, Qgi, fun a b d h1 h2 => by rw [Qji] at *; omega⟩
theorem Qmz : Pre q4c := by
 refine ⟨fun a => ?_, Qgh, fun a b d h1 h2 => ?_⟩
 ·rcases qej a a with ⟨_, h, _⟩ | ⟨_, _, _, h⟩ | ⟨_, h, _⟩
  ·exact absurd rfl h
  ·exact h
  ·exact absurd rfl h
 ·rcases qej a b with ⟨a1, a2, a3, a4⟩ | ⟨a1, a2, a3, a4⟩ | ⟨a1, a2, a3, a4⟩
  ·rcases qej b d with ⟨b1, b2, b3, b4⟩ | ⟨b1, b2, b3, b4⟩ | ⟨b1, b2, b3, b4⟩
   ·have := qz2 a1 b1
    rcases qej a d with ⟨c1, c2, c3, c4⟩ | ⟨c1, c2, c3, c4⟩ | ⟨c1, c2, c3, c4⟩
    ·omega
    ·omega
    ·rw [show ltS a d = true from this] at c1; cases c1
   ·subst b2; exact h1
   ·omega
  ·subst a2; exact h2
  ·omega
theorem qiv : Pre qhj := by
 have h := (Qmz.comap (fun x : qbc => x.name)).lex (Qm0.comap (fun x : qbc => x.at_))
 exact h
def unT (d : D) : qbc := match d with | .agg [.str n, .int _ a, .int _ v] => ⟨n, a, v⟩ | _ => default
def DmT (d : D) : Prop := ∃ x : qbc, d = x.toD
def Qrm (a b : D) : Int := qhj (unT a) (unT b)
theorem Qse : Swo DmT (fun x y => decide (Qrm x y < 0)) := by
 refine ⟨fun x _ => ?_, fun x y z _ _ _ h1 h2 => ?_, fun x y z _ _ _ h1 h2 => ?_⟩
 ·rw [Qrm, qiv.self]; rfl
 ·have h1 : qhj (unT x) (unT y) < 0 := of_decide_eq_true h1
  have h2 : qhj (unT y) (unT z) < 0 := of_decide_eq_true h2
  exact decide_eq_true (show qhj (unT x) (unT z) < 0 from qiv.strict (by omega) (by omega) (.inl h1))
 ·have h1 : ¬ qhj (unT x) (unT y) < 0 := of_decide_eq_false h1
  have h2 : ¬ qhj (unT y) (unT z) < 0 := of_decide_eq_false h2
  refine decide_eq_false (show ¬ qhj (unT x) (unT z) < 0 from ?_)
  have a1 := qiv.anti (unT x) (unT y)
  have a2 := qiv.anti (unT y) (unT z)
  have a3 := qiv.anti (unT x) (unT z)
  have := qiv.trans (unT z) (unT y) (unT x) (by omega) (by omega)
  omega
theorem Qeh (a b : qbc) : qbg Tryz.prog Gl 86 [.d a.toD, .d b.toD] (.d (.int .i64 (qhj a b))) := by
 refine qbg.of2 ?_
 refine qac Tryz.func86 rfl rfl (by simp [Tryz.ntmps86]) (qab rfl _ _ _ _ ?_)
 simp only [Tryz.ntmps86, Tryz.results86, qaj, List.length_nil]
 simp only [zU, seval]
 refine ⟨.inl (by kernel_rfl), qaf (qx5 _ _) ?_⟩
 simp only [zU, seval]
 refine qaf (qim _ _) ?_
 simp only [zU, seval]
 repeat ((with_reducible refine And.intro ?_ ?_); (focus (first | omega | (simp only [qax]; omega) | (refine qq ?_; rfl) | (refine dq ?_; kernel_rfl) | (intros; simp_all; done))))
 refine ql4 2 (fun B hB => Qry [q4c a.name b.name, qum a.at_ b.at_] (by simp) B hB) (fun _ => rfl) rfl ?_
 rw [Qdk]
 simp only [zU, seval]
 exact ⟨_, _, qau, rfl, rfl⟩
theorem Qq6 : q6c Gl [] DmT Qrm 86 [] := by
 refine ⟨fun d hd => ?_, fun a b ha hb ys s hs => ?_, Qse⟩
 ·obtain ⟨x, rfl⟩ := hd
  exact ⟨rfl, rfl⟩
 ·obtain ⟨x, rfl⟩ := ha
  obtain ⟨y, rfl⟩ := hb
  exact Qeh x y s
def ltT (a b : qbc) : Bool := decide (qhj a b < 0)
theorem q44 (l : List qbc) (hl : l.length < 1000000) : qag Tryz.prog Gl 85 [.osl 0 0 l.length, .fn 86 []] [.arr 3 (l.map qbc.toD)]
  (fun r s => r = .tup [] ∧ s = [.arr 3 ((qjy ltT l).map qbc.toD)]) := by
 have hx : ∀ y ∈ l.map qbc.toD, DmT y := fun y hy => by
  obtain ⟨x, hx, rfl⟩ := List.mem_map.1 hy
  exact ⟨x, rfl⟩
 have hsort := qqd (Gl := Gl) (τ := []) DmT Qrm 86 [] Qq6 (l.map qbc.toD) hx l.length (by simp) (by omega)
 refine hsort.mono fun r s hss => ?_
 obtain ⟨rfl, zs, ρ, rfl, hA, hB, hid⟩ := hss
 refine ⟨rfl, ?_⟩
 have e := qy1 Qse hx (by simp) hA hB hid
 rw [qa6, q0p, List.drop_of_length_le (by simp), List.append_nil] at e
 rw [e]; rfl

theorem qcc (g : List UInt8 → Option (List UInt8)) (n : List UInt8) : (qby g (.s n)).getD (.d (.str [])) = .d (.str ((g n).getD [])) := by
 simp only [qby]; cases g n <;> rfl
def nmT (g : List UInt8 → Option (List UInt8)) (x : qao) : qao := { x with name := (g x.name).getD [] }
def nmS (g : List UInt8 → Option (List UInt8)) (x : qah) : qah := { x with name := (g x.name).getD [] }
def nmA (g : List UInt8 → Option (List UInt8)) (x : qan) : qan := { x with stack := q39 g x.stack }
def nmB (g : List UInt8 → Option (List UInt8)) (x : qar) : qar := { x with stack := q39 g x.stack }
def nmC (g : List UInt8 → Option (List UInt8)) (x : qbc) : qbc := { x with name := (g x.name).getD [] }
def Qmv (g1 g2 g3 g4 : List UInt8 → Option (List UInt8)) (t : qa5) : qa5 :=
 { t with threads := t.threads.map (nmT g1), slices := t.slices.map (nmS g2), samples := t.samples.map (nmA g3), blocks := t.blocks.map (nmB g3), steps := qjy ltT (t.steps.map (nmC g4)) }
theorem qez (g : List UInt8 → Option (List UInt8)) (ρ : List Nat) (σ : Sto) : qbv ρ σ (.map none (qby g)) = .map none (qby g) := qgf (B := .map none (qby g)) (qxy g) ρ σ
theorem Qgs (g : List UInt8 → Option (List UInt8)) (b : Nat → Nat) : qc5 b (.map none (qby g)) = .map none (qby g) := qgg (B := .map none (qby g)) (qxy g) b
theorem qja (R : List D) (g1 g2 g3 g4 : List UInt8 → Option (List UInt8)) (x0 x1 x2 x3 x4 : List D) (v w : AV) (σ : Sto) (hv : qbv [0, 1, 2, 3, 4, 5, 6, 7, 8, 9, 10, 11, 12, 13, 14, 15] (.arr 3 x0 :: .arr 8 x1 :: .arr 4 x2 :: .arr 3 x3 :: .arr 7 x4 :: .map none (qb2 (some (.ptr 6 0)) (some (.ptr 8 0)) (some (.ptr 10 0)) (some (.ptr 12 0))) :: .box 3 (.agg [.d (.sl R), .d (.str qav), .mapr 7]) :: .map none (qby g1) :: .box 3 (.agg [.d (.sl R), .d (.str qa8), .mapr 9]) :: .map none (qby g2) :: .box 3 (.agg [.d (.sl R), .d (.str qbd), .mapr 11]) :: .map none (qby g3) :: .box 3 (.agg [.d (.sl R), .d (.str qaw), .mapr 13]) :: .map none (qby g4) :: .box 10 v :: .box 10 w :: σ) (.box 10 v) = .box 10 v)
  (hw : qbv [0, 1, 2, 3, 4, 5, 6, 7, 8, 9, 10, 11, 12, 13, 14, 15] (.arr 3 x0 :: .arr 8 x1 :: .arr 4 x2 :: .arr 3 x3 :: .arr 7 x4 :: .map none (qb2 (some (.ptr 6 0)) (some (.ptr 8 0)) (some (.ptr 10 0)) (some (.ptr 12 0))) :: .box 3 (.agg [.d (.sl R), .d (.str qav), .mapr 7]) :: .map none (qby g1) :: .box 3 (.agg [.d (.sl R), .d (.str qa8), .mapr 9]) :: .map none (qby g2) :: .box 3 (.agg [.d (.sl R), .d (.str qbd), .mapr 11]) :: .map none (qby g3) :: .box 3 (.agg [.d (.sl R), .d (.str qaw), .mapr 13]) :: .map none (qby g4) :: .box 10 v :: .box 10 w :: σ) (.box 10 w) = .box 10 w) :
  qdd [0, 1, 2, 3, 4, 5, 6, 7, 8, 9, 10, 11, 12, 13, 14, 15] (freezeL (.arr 3 x0 :: .arr 8 x1 :: .arr 4 x2 :: .arr 3 x3 :: .arr 7 x4 :: .map none (qb2 (some (.ptr 6 0)) (some (.ptr 8 0)) (some (.ptr 10 0)) (some (.ptr 12 0))) :: .box 3 (.agg [.d (.sl R), .d (.str qav), .mapr 7]) :: .map none (qby g1) :: .box 3 (.agg [.d (.sl R), .d (.str qa8), .mapr 9]) :: .map none (qby g2) :: .box 3 (.agg [.d (.sl R), .d (.str qbd), .mapr 11]) :: .map none (qby g3) :: .box 3 (.agg [.d (.sl R), .d (.str qaw), .mapr 13]) :: .map none (qby g4) :: .box 10 v :: .box 10 w :: σ) []) = [.arr 3 x0, .arr 8 x1, .arr 4 x2, .arr 3 x3, .arr 7 x4, .map none (qb2 (some (.ptr 6 0)) (some (.ptr 8 0)) (some (.ptr 10 0)) (some (.ptr 12 0))), .box 3 (.agg [.d (.sl R), .d (.str qav), .mapr 7]), .map none (qby g1), .box 3 (.agg [.d (.sl R), .d (.str qa8), .mapr 9]), .map none (qby g2), .box 3 (.agg [.d (.sl R), .d (.str qbd), .mapr 11]), .map none (qby g3), .box 3 (.agg [.d (.sl R), .d (.str qaw), .mapr 13]), .map none (qby g4), .box 10 v, .box 10 w] := by
 show [_, _, _, _, _, .map none (fun k => (qb2 (some (.ptr 6 0)) (some (.ptr 8 0)) (some (.ptr 10 0)) (some (.ptr 12 0)) k).map (qbf _ _)), _, qbv _ _ (.map none (qby g1)), _, qbv _ _ (.map none (qby g2)), _, qbv _ _ (.map none (qby g3)), _, qbv _ _ (.map none (qby g4)), qbv _ _ (.box 10 v), qbv _ _ (.box 10 w)] = _
 rw [qec, qez, qez, qez, qez]
 show [_, _, _, _, _, _, _, _, _, _, _, _, _, _, qbv [0, 1, 2, 3, 4, 5, 6, 7, 8, 9, 10, 11, 12, 13, 14, 15] (.arr 3 x0 :: .arr 8 x1 :: .arr 4 x2 :: .arr 3 x3 :: .arr 7 x4 :: .map none (qb2 (some (.ptr 6 0)) (some (.ptr 8 0)) (some (.ptr 10 0)) (some (.ptr 12 0))) :: .box 3 (.agg [.d (.sl R), .d (.str qav), .mapr 7]) :: .map none (qby g1) :: .box 3 (.agg [.d (.sl R), .d (.str qa8), .mapr 9]) :: .map none (qby g2) :: .box 3 (.agg [.d (.sl R), .d (.str qbd), .mapr 11]) :: .map none (qby g3) :: .box 3 (.agg [.d (.sl R), .d (.str qaw), .mapr 13]) :: .map none (qby g4) :: .box 10 v :: .box 10 w :: σ) (.box 10 v), qbv [0, 1, 2, 3, 4, 5, 6, 7, 8, 9, 10, 11, 12, 13, 14, 15] (.arr 3 x0 :: .arr 8 x1 :: .arr 4 x2 :: .arr 3 x3 :: .arr 7 x4 :: .map none (qb2 (some (.ptr 6 0)) (some (.ptr 8 0)) (some (.ptr 10 0)) (some (.ptr 12 0))) :: .box 3 (.agg [.d (.sl R), .d (.str qav), .mapr 7]) :: .map none (qby g1) :: .box 3 (.agg [.d (.sl R), .d (.str qa8), .mapr 9]) :: .map none (qby g2) :: .box 3 (.agg [.d (.sl R), .d (.str qbd), .mapr 11]) :: .map none (qby g3) :: .box 3 (.agg [.d (.sl R), .d (.str qaw), .mapr 13]) :: .map none (qby g4) :: .box 10 v :: .box 10 w :: σ) (.box 10 w)] = _
 rw [hv, hw]; rfl
theorem Qmw (R : List D) (g1 g2 g3 g4 : List UInt8 → Option (List UInt8)) (x0 x1 x2 x3 x4 : List D) (σ : Sto) :
  qdd [0, 1, 2, 3, 4, 5, 6, 7, 8, 9, 10, 11, 12, 13] (freezeL (.arr 3 x0 :: .arr 8 x1 :: .arr 4 x2 :: .arr 3 x3 :: .arr 7 x4 :: .map none (qb2 (some (.ptr 6 0)) (some (.ptr 8 0)) (some (.ptr 10 0)) (some (.ptr 12 0))) :: .box 3 (.agg [.d (.sl R), .d (.str qav), .mapr 7]) :: .map none (qby g1) :: .box 3 (.agg [.d (.sl R), .d (.str qa8), .mapr 9]) :: .map none (qby g2) :: .box 3 (.agg [.d (.sl R), .d (.str qbd), .mapr 11]) :: .map none (qby g3) :: .box 3 (.agg [.d (.sl R), .d (.str qaw), .mapr 13]) :: .map none (qby g4) :: σ) []) = [.arr 3 x0, .arr 8 x1, .arr 4 x2, .arr 3 x3, .arr 7 x4, .map none (qb2 (some (.ptr 6 0)) (some (.ptr 8 0)) (some (.ptr 10 0)) (some (.ptr 12 0))), .box 3 (.agg [.d (.sl R), .d (.str qav), .mapr 7]), .map none (qby g1), .box 3 (.agg [.d (.sl R), .d (.str qa8), .mapr 9]), .map none (qby g2), .box 3 (.agg [.d (.sl R), .d (.str qbd), .mapr 11]), .map none (qby g3), .box 3 (.agg [.d (.sl R), .d (.str qaw), .mapr 13]), .map none (qby g4)] := by
 show [_, _, _, _, _, .map none (fun k => (qb2 (some (.ptr 6 0)) (some (.ptr 8 0)) (some (.ptr 10 0)) (some (.ptr 12 0)) k).map (qbf _ _)), _, qbv _ _ (.map none (qby g1)), _, qbv _ _ (.map none (qby g2)), _, qbv _ _ (.map none (qby g3)), _, qbv _ _ (.map none (qby g4))] = _
 rw [qec, qez, qez, qez, qez]
 rfl
theorem Qau (R : List D) (g1 g2 g3 g4 : List UInt8 → Option (List UInt8)) (t : qa5) (ht : t.lim) (hs : t.limS) : qag Tryz.prog Gl 45 [qew t, .mapr 5] (Qhk t ++ [.map none (qb2 (some (.ptr 6 0)) (some (.ptr 8 0)) (some (.ptr 10 0)) (some (.ptr 12 0))), .box 3 (.agg [.d (.sl R), .d (.str qav), .mapr 7]), .map none (qby g1), .box 3 (.agg [.d (.sl R), .d (.str qa8), .mapr 9]), .map none (qby g2), .box 3 (.agg [.d (.sl R), .d (.str qbd), .mapr 11]), .map none (qby g3), .box 3 (.agg [.d (.sl R), .d (.str qaw), .mapr 13]), .map none (qby g4)])
  (fun r s => r = qew (Qmv g1 g2 g3 g4 t) ∧ s = Qhk (Qmv g1 g2 g3 g4 t) ++ [.map none (qb2 (some (.ptr 6 0)) (some (.ptr 8 0)) (some (.ptr 10 0)) (some (.ptr 12 0))), .box 3 (.agg [.d (.sl R), .d (.str qav), .mapr 7]), .map none (qby g1), .box 3 (.agg [.d (.sl R), .d (.str qa8), .mapr 9]), .map none (qby g2), .box 3 (.agg [.d (.sl R), .d (.str qbd), .mapr 11]), .map none (qby g3), .box 3 (.agg [.d (.sl R), .d (.str qaw), .mapr 13]), .map none (qby g4)]) := by
 obtain ⟨h1, h2, h3, h4, h5, h6, h7, h8⟩ := ht
 refine qac Tryz.func45 rfl rfl (by simp [Tryz.ntmps45]) (qab rfl _ _ _ _ ?_)
 simp only [Tryz.ntmps45, Tryz.results45, qaj, List.length_nil]
 simp only [zU, seval, L1, L2, L3, L4, qcc, Qhk, qew]
 refine qa4 t.threads.length (fun k => [(1, .mapr 5), (2, .ptr 14 0), (4, .ptr 15 0), (16, .osl 0 0 t.threads.length), (17, .d (.int .i64 t.threads.length)), (18, .d (.int .i64 k))])
  (fun k => [.arr 3 ((qgv (nmT g1) t.threads k).map qao.toD), .arr 8 (t.slices.map qah.toD), .arr 4 (t.samples.map qan.toD), .arr 3 (t.steps.map qbc.toD), .arr 7 (t.blocks.map qar.toD), .map none (qb2 (some (.ptr 6 0)) (some (.ptr 8 0)) (some (.ptr 10 0)) (some (.ptr 12 0))), .box 3 (.agg [.d (.sl R), .d (.str qav), .mapr 7]), .map none (qby g1), .box 3 (.agg [.d (.sl R), .d (.str qa8), .mapr 9]), .map none (qby g2), .box 3 (.agg [.d (.sl R), .d (.str qbd), .mapr 11]), .map none (qby g3), .box 3 (.agg [.d (.sl R), .d (.str qaw), .mapr 13]), .map none (qby g4), .box 10 (qew t), .box 10 zT]) (fun _ => True) trivial ?_ ?_
 ·refine qad [] [0, 1, 2, 3, 4, 5, 6, 7, 8, 9, 10, 11, 12, 13, 14, 15] rfl (by simp) ?_ ?_
  ·simp only [zU, seval, L1, L2, L3, L4, qcc]
   try rfl
  ·rw [qfi]
   exact qja R g1 g2 g3 g4 _ _ _ _ _ (qew t) zT _ rfl rfl
 intro k _ hk
 by_cases h : k < t.threads.length
 ·obtain ⟨x, hx⟩ : ∃ x, x = t.threads.getD k default := ⟨_, rfl⟩
  have hml := qg2 (nmT g1) t.threads k
  have eg : ((qgv (nmT g1) t.threads k).map qao.toD).getD k default = x.toD := by rw [qas _ _ _ (by omega), qg3 _ h, ← hx]
  have est : (qgv (nmT g1) t.threads k).set k (nmT g1 x) = qgv (nmT g1) t.threads (k + 1) := by rw [hx, qg1 _ h]
  simp only [zU, seval, L1, L2, L3, L4, qcc, qew, (show (k:Int) < t.threads.length by omega), h, eg, hml]
  repeat ((with_reducible refine And.intro ?_ ?_); (focus (first | omega | (simp only [qax]; omega) | (refine qq ?_; rfl) | (refine dq ?_; kernel_rfl) | (intros; simp_all; done))))
  refine qad [] [0, 1, 2, 3, 4, 5, 6, 7, 8, 9, 10, 11, 12, 13, 14, 15] rfl (by simp) ?_ ?_
  ·simp only [zU, seval, L1, L2, L3, L4, qcc, @qai ((k:Int) + 1) (by omega)]
   try rfl
  ·rw [← est, List.map_set]
   exact qja R g1 g2 g3 g4 _ _ _ _ _ (qew t) zT _ rfl rfl
 have : k = t.threads.length := by omega
 subst this
 rw [qg4]
 simp only [zU, seval, L1, L2, L3, L4, qcc, qew, (show ¬ (t.threads.length:Int) < t.threads.length by omega)]
 refine qa4 t.slices.length (fun k => [(1, .mapr 5), (2, .ptr 14 0), (4, .ptr 15 0), (38, .osl 1 0 t.slices.length), (39, .d (.int .i64 t.slices.length)), (40, .d (.int .i64 k))])
  (fun k => [.arr 3 ((t.threads.map (nmT g1)).map qao.toD), .arr 8 ((qgv (nmS g2) t.slices k).map qah.toD), .arr 4 (t.samples.map qan.toD), .arr 3 (t.steps.map qbc.toD), .arr 7 (t.blocks.map qar.toD), .map none (qb2 (some (.ptr 6 0)) (some (.ptr 8 0)) (some (.ptr 10 0)) (some (.ptr 12 0))), .box 3 (.agg [.d (.sl R), .d (.str qav), .mapr 7]), .map none (qby g1), .box 3 (.agg [.d (.sl R), .d (.str qa8), .mapr 9]), .map none (qby g2), .box 3 (.agg [.d (.sl R), .d (.str qbd), .mapr 11]), .map none (qby g3), .box 3 (.agg [.d (.sl R), .d (.str qaw), .mapr 13]), .map none (qby g4), .box 10 (qew t), .box 10 zT]) (fun _ => True) trivial ?_ ?_
 ·refine qad [] [0, 1, 2, 3, 4, 5, 6, 7, 8, 9, 10, 11, 12, 13, 14, 15] rfl (by simp) ?_ ?_
  ·simp only [zU, seval, L1, L2, L3, L4, qcc]
   try rfl
  ·rw [qfi]
   exact qja R g1 g2 g3 g4 _ _ _ _ _ (qew t) zT _ rfl rfl
 intro k _ hk
 by_cases h : k < t.slices.length
 ·obtain ⟨x, hx⟩ : ∃ x, x = t.slices.getD k default := ⟨_, rfl⟩
  have hml := qg2 (nmS g2) t.slices k
  have eg : ((qgv (nmS g2) t.slices k).map qah.toD).getD k default = x.toD := by rw [qas _ _ _ (by omega), qg3 _ h, ← hx]
  have est : (qgv (nmS g2) t.slices k).set k (nmS g2 x) = qgv (nmS g2) t.slices (k + 1) := by rw [hx, qg1 _ h]
  simp only [zU, seval, L1, L2, L3, L4, qcc, qew, (show (k:Int) < t.slices.length by omega), h, eg, hml]
  repeat ((with_reducible refine And.intro ?_ ?_); (focus (first | omega | (simp only [qax]; omega) | (refine qq ?_; rfl) | (refine dq ?_; kernel_rfl) | (intros; simp_all; done))))
  refine qad [] [0, 1, 2, 3, 4, 5, 6, 7, 8, 9, 10, 11, 12, 13, 14, 15] rfl (by simp) ?_ ?_
  ·simp only [zU, seval, L1, L2, L3, L4, qcc, @qai ((k:Int) + 1) (by omega)]
   try rfl
  ·rw [← est, List.map_set]
   exact qja R g1 g2 g3 g4 _ _ _ _ _ (qew t) zT _ rfl rfl
 have : k = t.slices.length := by omega
 subst this
 rw [qg4]
 simp only [zU, seval, L1, L2, L3, L4, qcc, qew, (show ¬ (t.slices.length:Int) < t.slices.length by omega)]
 refine qa4 t.samples.length (fun k => [(1, .mapr 5), (2, .ptr 14 0), (4, .ptr 15 0), (60, .osl 2 0 t.samples.length), (61, .d (.int .i64 t.samples.length)), (62, .d (.int .i64 k))])
  (fun k => [.arr 3 ((t.threads.map (nmT g1)).map qao.toD), .arr 8 ((t.slices.map (nmS g2)).map qah.toD), .arr 4 ((qgv (nmA g3) t.samples k).map qan.toD), .arr 3 (t.steps.map qbc.toD), .arr 7 (t.blocks.map qar.toD), .map none (qb2 (some (.ptr 6 0)) (some (.ptr 8 0)) (some (.ptr 10 0)) (some (.ptr 12 0))), .box 3 (.agg [.d (.sl R), .d (.str qav), .mapr 7]), .map none (qby g1), .box 3 (.agg [.d (.sl R), .d (.str qa8), .mapr 9]), .map none (qby g2), .box 3 (.agg [.d (.sl R), .d (.str qbd), .mapr 11]), .map none (qby g3), .box 3 (.agg [.d (.sl R), .d (.str qaw), .mapr 13]), .map none (qby g4), .box 10 (qew t), .box 10 zT]) (fun _ => True) trivial ?_ ?_
 ·refine qad [] [0, 1, 2, 3, 4, 5, 6, 7, 8, 9, 10, 11, 12, 13, 14, 15] rfl (by simp) ?_ ?_
  ·simp only [zU, seval, L1, L2, L3, L4, qcc]
   try rfl
  ·rw [qfi]
   exact qja R g1 g2 g3 g4 _ _ _ _ _ (qew t) zT _ rfl rfl
 intro k _ hk
 by_cases h : k < t.samples.length
 ·obtain ⟨x, hx⟩ : ∃ x, x = t.samples.getD k default := ⟨_, rfl⟩
  have hml := qg2 (nmA g3) t.samples k
  have eg : ((qgv (nmA g3) t.samples k).map qan.toD).getD k default = x.toD := by rw [qas _ _ _ (by omega), qg3 _ h, ← hx]
  have est : (qgv (nmA g3) t.samples k).set k (nmA g3 x) = qgv (nmA g3) t.samples (k + 1) := by rw [hx, qg1 _ h]
  simp only [zU, seval, L1, L2, L3, L4, qcc, qew, (show (k:Int) < t.samples.length by omega), h, eg, hml]
  repeat ((with_reducible refine And.intro ?_ ?_); (focus (first | omega | (simp only [qax]; omega) | (refine qq ?_; rfl) | (refine dq ?_; kernel_rfl) | (intros; simp_all; done))))
  have hxs := hs.1 x (by rw [hx]; exact qde h)
  refine qgu (q9l [10, 11] [.box 3 (.agg [.d (.sl R), .d (.str qbd), .mapr 1]), .map none (qby g3)] (by simp) (by simp [qaa, Blk.frozen, Blk.isDead]) (Qng R qbd g3 x.stack hxs) (fun s => rfl) (fun s hb => ?_) (fun N => hk2 rfl (Qgs g3 _))) ?_
  ·show [qbv [10, 11] s (qaa s 10), qbv [10, 11] s (qaa s 11)] = _
   rw [hb 10 (by simp), hb 11 (by simp)]
   show [_, qbv [10, 11] s (.map none (qby g3))] = _
   rw [qez]; rfl
  simp only [zU, seval, L1, L2, L3, L4, qcc, qew, (show (k:Int) < t.samples.length by omega), h, eg, hml]
  repeat ((with_reducible refine And.intro ?_ ?_); (focus (first | omega | (simp only [qax]; omega) | (refine qq ?_; rfl) | (refine dq ?_; kernel_rfl) | (intros; simp_all; done))))
  refine qad [] [0, 1, 2, 3, 4, 5, 6, 7, 8, 9, 10, 11, 12, 13, 14, 15] rfl (by simp) ?_ ?_
  ·simp only [zU, seval, L1, L2, L3, L4, qcc, @qai ((k:Int) + 1) (by omega)]
   try rfl
  ·rw [← est, List.map_set]
   exact qja R g1 g2 g3 g4 _ _ _ _ _ (qew t) zT _ rfl rfl
 have : k = t.samples.length := by omega
 subst this
 rw [qg4]
 simp only [zU, seval, L1, L2, L3, L4, qcc, qew, (show ¬ (t.samples.length:Int) < t.samples.length by omega)]
 refine qa4 t.blocks.length (fun k => [(1, .mapr 5), (2, .ptr 14 0), (4, .ptr 15 0), (79, .osl 4 0 t.blocks.length), (80, .d (.int .i64 t.blocks.length)), (81, .d (.int .i64 k))])
  (fun k => [.arr 3 ((t.threads.map (nmT g1)).map qao.toD), .arr 8 ((t.slices.map (nmS g2)).map qah.toD), .arr 4 ((t.samples.map (nmA g3)).map qan.toD), .arr 3 (t.steps.map qbc.toD), .arr 7 ((qgv (nmB g3) t.blocks k).map qar.toD), .map none (qb2 (some (.ptr 6 0)) (some (.ptr 8 0)) (some (.ptr 10 0)) (some (.ptr 12 0))), .box 3 (.agg [.d (.sl R), .d (.str qav), .mapr 7]), .map none (qby g1), .box 3 (.agg [.d (.sl R), .d (.str qa8), .mapr 9]), .map none (qby g2), .box 3 (.agg [.d (.sl R), .d (.str qbd), .mapr 11]), .map none (qby g3), .box 3 (.agg [.d (.sl R), .d (.str qaw), .mapr 13]), .map none (qby g4), .box 10 (qew t), .box 10 zT]) (fun _ => True) trivial ?_ ?_
 ·refine qad [] [0, 1, 2, 3, 4, 5, 6, 7, 8, 9, 10, 11, 12, 13, 14, 15] rfl (by simp) ?_ ?_
  ·simp only [zU, seval, L1, L2, L3, L4, qcc]
   try rfl
  ·rw [qfi]
   exact qja R g1 g2 g3 g4 _ _ _ _ _ (qew t) zT _ rfl rfl
 intro k _ hk
 by_cases h : k < t.blocks.length
 ·obtain ⟨x, hx⟩ : ∃ x, x = t.blocks.getD k default := ⟨_, rfl⟩
  have hml := qg2 (nmB g3) t.blocks k
  have eg : ((qgv (nmB g3) t.blocks k).map qar.toD).getD k default = x.toD := by rw [qas _ _ _ (by omega), qg3 _ h, ← hx]
  have est : (qgv (nmB g3) t.blocks k).set k (nmB g3 x) = qgv (nmB g3) t.blocks (k + 1) := by rw [hx, qg1 _ h]
  simp only [zU, seval, L1, L2, L3, L4, qcc, qew, (show (k:Int) < t.blocks.length by omega), h, eg, hml]
  repeat ((with_reducible refine And.intro ?_ ?_); (focus (first | omega | (simp only [qax]; omega) | (refine qq ?_; rfl) | (refine dq ?_; kernel_rfl) | (intros; simp_all; done))))
  have hxs := hs.2 x (by rw [hx]; exact qde h)
  refine qgu (q9l [10, 11] [.box 3 (.agg [.d (.sl R), .d (.str qbd), .mapr 1]), .map none (qby g3)] (by simp) (by simp [qaa, Blk.frozen, Blk.isDead]) (Qng R qbd g3 x.stack hxs) (fun s => rfl) (fun s hb => ?_) (fun N => hk2 rfl (Qgs g3 _))) ?_
  ·show [qbv [10, 11] s (qaa s 10), qbv [10, 11] s (qaa s 11)] = _
   rw [hb 10 (by simp), hb 11 (by simp)]
   show [_, qbv [10, 11] s (.map none (qby g3))] = _
   rw [qez]; rfl
  simp only [zU, seval, L1, L2, L3, L4, qcc, qew, (show (k:Int) < t.blocks.length by omega), h, eg, hml]
  repeat ((with_reducible refine And.intro ?_ ?_); (focus (first | omega | (simp only [qax]; omega) | (refine qq ?_; rfl) | (refine dq ?_; kernel_rfl) | (intros; simp_all; done))))
  refine qad [] [0, 1, 2, 3, 4, 5, 6, 7, 8, 9, 10, 11, 12, 13, 14, 15] rfl (by simp) ?_ ?_
  ·simp only [zU, seval, L1, L2, L3, L4, qcc, @qai ((k:Int) + 1) (by omega)]
   try rfl
  ·rw [← est, List.map_set]
   exact qja R g1 g2 g3 g4 _ _ _ _ _ (qew t) zT _ rfl rfl
 have : k = t.blocks.length := by omega
 subst this
 rw [qg4]
 simp only [zU, seval, L1, L2, L3, L4, qcc, qew, (show ¬ (t.blocks.length:Int) < t.blocks.length by omega)]
 refine qa4 t.steps.length (fun k => [(1, .mapr 5), (2, .ptr 14 0), (4, .ptr 15 0), (98, .osl 3 0 t.steps.length), (99, .d (.int .i64 t.steps.length)), (100, .d (.int .i64 k))])
  (fun k => [.arr 3 ((t.threads.map (nmT g1)).map qao.toD), .arr 8 ((t.slices.map (nmS g2)).map qah.toD), .arr 4 ((t.samples.map (nmA g3)).map qan.toD), .arr 3 ((qgv (nmC g4) t.steps k).map qbc.toD), .arr 7 ((t.blocks.map (nmB g3)).map qar.toD), .map none (qb2 (some (.ptr 6 0)) (some (.ptr 8 0)) (some (.ptr 10 0)) (some (.ptr 12 0))), .box 3 (.agg [.d (.sl R), .d (.str qav), .mapr 7]), .map none (qby g1), .box 3 (.agg [.d (.sl R), .d (.str qa8), .mapr 9]), .map none (qby g2), .box 3 (.agg [.d (.sl R), .d (.str qbd), .mapr 11]), .map none (qby g3), .box 3 (.agg [.d (.sl R), .d (.str qaw), .mapr 13]), .map none (qby g4), .box 10 (qew t), .box 10 zT]) (fun _ => True) trivial ?_ ?_
 ·refine qad [] [0, 1, 2, 3, 4, 5, 6, 7, 8, 9, 10, 11, 12, 13, 14, 15] rfl (by simp) ?_ ?_
  ·simp only [zU, seval, L1, L2, L3, L4, qcc]
   try rfl
  ·rw [qfi]
   exact qja R g1 g2 g3 g4 _ _ _ _ _ (qew t) zT _ rfl rfl
 intro k _ hk
 by_cases h : k < t.steps.length
 ·obtain ⟨x, hx⟩ : ∃ x, x = t.steps.getD k default := ⟨_, rfl⟩
  have hml := qg2 (nmC g4) t.steps k
  have eg : ((qgv (nmC g4) t.steps k).map qbc.toD).getD k default = x.toD := by rw [qas _ _ _ (by omega), qg3 _ h, ← hx]
  have est : (qgv (nmC g4) t.steps k).set k (nmC g4 x) = qgv (nmC g4) t.steps (k + 1) := by rw [hx, qg1 _ h]
  simp only [zU, seval, L1, L2, L3, L4, qcc, qew, (show (k:Int) < t.steps.length by omega), h, eg, hml]
  repeat ((with_reducible refine And.intro ?_ ?_); (focus (first | omega | (simp only [qax]; omega) | (refine qq ?_; rfl) | (refine dq ?_; kernel_rfl) | (intros; simp_all; done))))
  refine qad [] [0, 1, 2, 3, 4, 5, 6, 7, 8, 9, 10, 11, 12, 13, 14, 15] rfl (by simp) ?_ ?_
  ·simp only [zU, seval, L1, L2, L3, L4, qcc, @qai ((k:Int) + 1) (by omega)]
   try rfl
  ·rw [← est, List.map_set]
   exact qja R g1 g2 g3 g4 _ _ _ _ _ (qew t) zT _ rfl rfl
 have : k = t.steps.length := by omega
 subst this
 rw [qg4]
 simp only [zU, seval, L1, L2, L3, L4, qcc, qew, (show ¬ (t.steps.length:Int) < t.steps.length by omega)]
 obtain ⟨L, hL⟩ : ∃ L, L = t.steps.map (nmC g4) := ⟨_, rfl⟩
 have hLl : t.steps.length = L.length := by rw [hL, List.length_map]
 have hrl : (Qmv g1 g2 g3 g4 t).steps.length = t.steps.length := by rw [Qmv, qm5, List.length_map]
 rw [← hL, hLl]
 refine Qgk 3 (by simp) rfl (q44 L (by omega)) (fun r s hr => ?_)
 obtain ⟨rfl, rfl⟩ := hr
 rw [qyu (by simp)]
 simp only [zU, seval, L1, L2, L3, L4, qcc]
 repeat ((with_reducible refine And.intro ?_ ?_); (focus (first | omega | (simp only [qax]; omega) | (refine qq ?_; rfl) | (refine dq ?_; kernel_rfl) | (intros; simp_all; done))))
 rw [hrl, hLl]
 refine ⟨_, _, qae [] [0, 1, 2, 3, 4, 5, 6, 7, 8, 9, 10, 11, 12, 13] rfl (by simp) rfl (Qmw R g1 g2 g3 g4 _ _ _ _ _ _), ?_, ?_⟩
 ·simp only [Qmv, List.length_map]; rfl
 ·simp only [Qmv, hL]

theorem L1s (a b c d : Option AV) : qb2 a b c d (.s qav) = a := L1 a b c d
theorem L2s (a b c d : Option AV) : qb2 a b c d (.s qa8) = b := L2 a b c d
theorem L3s (a b c d : Option AV) : qb2 a b c d (.s qbd) = c := L3 a b c d
theorem L4s (a b c d : Option AV) : qb2 a b c d (.s qaw) = d := L4 a b c d
theorem M1s (a b c d : Option AV) (v : AV) : qfy (qb2 a b c d) (.s qav) v = qb2 (some v) b c d := M1 a b c d v
theorem M2s (a b c d : Option AV) (v : AV) : qfy (qb2 a b c d) (.s qa8) v = qb2 a (some v) c d := M2 a b c d v
theorem M3s (a b c d : Option AV) (v : AV) : qfy (qb2 a b c d) (.s qbd) v = qb2 a b (some v) d := M3 a b c d v
theorem M4s (a b c d : Option AV) (v : AV) : qfy (qb2 a b c d) (.s qaw) v = qb2 a b c (some v) := M4 a b c d v
theorem qpi (p : Bool) (i n : Nat) : ((val p i n).getD .nils).vg = true := by cases p <;> rfl
theorem qph (p : Bool) (i n : Nat) : ((val p i n).getD .nils).un = (val p i n).getD .nils := by cases p <;> rfl
theorem Qgj (p : qah → Bool) : ∀ (l : List qah) (u : List qah × List Int), (l.foldl (qer p) u).1.length ≤ u.1.length + l.length
 | [], u => by simp
 | s :: l, u => by
  have ih := Qgj p l (qer p u s)
  have h : (qer p u s).1.length ≤ u.1.length + 1 := by
   unfold qer; split <;> simp
  simp only [List.foldl_cons, List.length_cons]; omega
theorem Ql9 (p : qah → Bool) (l : List qah) : (chF p l).1.length ≤ l.length := by
 have := Qgj p l ([], []); simpa [chF] using this
theorem Qfy {o : List qah} : ∀ j, j < o.length → ((qfv o).getD j default).thread = (o.getD j default).thread ∧ ((qfv o).getD j default).parent = (o.getD j default).parent ∧ ((qfv o).getD j default).name = (o.getD j default).name ∧ ((qfv o).getD j default).lo = (o.getD j default).lo ∧ ((qfv o).getD j default).hi = (o.getD j default).hi ∧ ((qfv o).getD j default).open_ = (o.getD j default).open_ := by
 obtain ⟨n, hn⟩ : ∃ n, n = o.length := ⟨_, rfl⟩
 induction n generalizing o with
 | zero => intro j hj; omega
 | succ n ih =>
  rcases List.eq_nil_or_concat o with rfl | ⟨v, s, rfl⟩
  ·simp at hn
  rw [List.concat_eq_append] at hn ⊢
  have hv : n = v.length := by rw [List.length_append] at hn; simp at hn; exact hn
  intro j hj
  have hj : j < v.length + 1 := by simpa using hj
  have hl := qf2 v
  rw [qfl, qcg, qe7 _ _ _ (by rw [qil]; omega), qil, qe7 _ _ _ hj, hl]
  by_cases hjn : j < v.length
  ·rw [if_pos hjn, if_pos hjn]
   have h0 := ih hv j hjn
   unfold qmp
   split
   ·by_cases hjp : s.parent.toNat = j
    ·subst hjp
     have hjf : s.parent.toNat < (qfv v).length := by omega
     have e : ∀ z, ((qfv v).set s.parent.toNat z).getD s.parent.toNat default = z := fun z => by simp [hjf]
     rw [e]; exact h0
    ·have e : ∀ z, ((qfv v).set s.parent.toNat z).getD j default = (qfv v).getD j default := fun z => by
      rw [List.getD_eq_getElem?_getD, List.getElem?_set_ne hjp, List.getD_eq_getElem?_getD]
     rw [e]; exact h0
   ·exact h0
  ·rw [if_neg hjn, if_neg hjn]
   exact ⟨rfl, rfl, rfl, rfl, rfl, rfl⟩
theorem Qfi {o : List qah} (h : qgp o) : qgp (qfv o) := by
 intro i hi
 rw [qf2] at hi
 obtain ⟨_, e2, _, e4, e5, _⟩ := Qfy (o := o) i hi
 rw [e2, e4, e5]; exact h i hi
theorem Qf9 {l : List qap} {t : qa5} (h : t.lim) : (qga l t).lim := by
 obtain ⟨h1, h2, h3, h4, h5, h6, h7, h8⟩ := h
 refine ⟨Nat.le_trans (List.length_filter_le _ _) h1, ?_, Nat.le_trans (qu5 _ _) h3, Nat.le_trans (List.length_filter_le _ _) h4, Nat.le_trans (List.length_filter_le _ _) h5, h6, Nat.le_trans (List.length_filter_le _ _) h7, Nat.le_trans (List.length_filter_le _ _) h8⟩
 show (qfv _).length ≤ 1000
 rw [qf2]; exact Nat.le_trans (Ql9 _ _) h2
theorem Qbf {l : List qap} {t : qa5} (h : t.limS) : (qga l t).limS :=
 ⟨fun x hx => h.1 x (List.mem_filter.1 hx).1, fun x hx => h.2 x (List.mem_filter.1 hx).1⟩
theorem Qbg {l : List qap} {t : qa5} (h : qgp t.slices) : qgp (qga l t).slices := Qfi (qtr _ h).2.2.2
theorem Qga {l : List qap} {t : qa5} (h : t.lim) : (qkc l t).lim := by
 obtain ⟨h1, h2, h3, h4, h5, h6, h7, h8⟩ := h
 refine ⟨h1, ?_, h3, h4, ?_, Nat.le_trans (List.length_filter_le _ _) h6, ?_, h8⟩
 ·show (qfv _).length ≤ 1000
  rw [qf2]; exact Nat.le_trans (Ql9 _ _) h2
 ·show (t.samples.map _).length ≤ 1000
  rw [List.length_map]; exact h5
 ·show (t.blocks.map _).length ≤ 1000
  rw [List.length_map]; exact h7
theorem Qbh {l : List qap} {t : qa5} (h : t.limS) : (qkc l t).limS := by
 refine ⟨fun x hx => ?_, fun x hx => ?_⟩
 ·obtain ⟨y, hy, rfl⟩ := List.mem_map.1 hx
  exact Nat.lt_of_le_of_lt (List.length_filter_le _ _) (h.1 y hy)
 ·obtain ⟨y, hy, rfl⟩ := List.mem_map.1 hx
  exact Nat.lt_of_le_of_lt (List.length_filter_le _ _) (h.2 y hy)
def qt9 : qa5 := ⟨0, 0, [], [], [], [], [], [], [], []⟩
def Qci (t : qa5) : Nat := t.slices.length + t.states.length + t.flows.length + t.samples.length + t.steps.length + t.blocks.length + t.lost.length
def Qol (t : qa5) : qa5 := if Qci t = 0 then { t with lo := 0, hi := 0 } else t
def qul (l : List qap) (t : qa5) : Bool := qeq l qav (t.threads.map (·.name)) || qeq l qa8 (t.slices.map (·.name)) || qeq l qbd (frN t) || qeq l qaw (t.steps.map (·.name))
def Qrs (l : List qap) (t : qa5) : qa5 := Qmv (qdc l qav (t.threads.map (·.name))) (qdc l qa8 (t.slices.map (·.name))) (qdc l qbd (frN t)) (qdc l qaw (t.steps.map (·.name))) t
def qua (l : List qap) (t : qa5) : qa5 × Int :=
 if qkf l ≠ 0 then (qt9, qkf l) else if qkh t ≠ 0 then (qt9, qkh t)
 else if qul l (qkc l (qga l t)) = true then (qt9, 4) else (Qol (Qrs l (qkc l (qga l t))), 0)
theorem qpg (b : Nat → Nat) (p : Bool) (i n : Nat) : (val p i n).map (qf3 b) = val p (b i) n := by cases p <;> rfl
theorem q3g (l : List qap) (what : List UInt8) (s : List (List UInt8)) (hl : l.length < 1000000) (hs : s.length < 1000000) (σ : Sto) : qag Tryz.prog G2 36 [.d (.sl (l.map qap.toD)), .d (.str what), .d (.sl (s.map .str))] σ
  (fun r s' => r = .tup [.ptr σ.length 0, .d (.bool (!qeq l what s))] ∧ s' = σ ++ [.box 3 (.agg [.d (.sl (l.map qap.toD)), .d (.str what), .mapr (σ.length + 1)]), .map none (qby (qdc l what s))]) := by
 refine (qag.under_new (R := fun r ν => r = .tup [.ptr 0 0, .d (.bool (!qeq l what s))] ∧ ν = [.box 3 (.agg [.d (.sl (l.map qap.toD)), .d (.str what), .mapr 1]), .map none (qby (qdc l what s))]) [] [] (by simp) (by simp) rfl rfl (fun j i h => by simp at h) ((qx2 l what s hl hs).mono fun r s' hr => ⟨_, by rw [List.nil_append], hr.1, hr.2⟩)).mono fun r s' hr => ?_
 obtain ⟨r0, ν, ⟨rfl, rfl⟩, rfl, rfl⟩ := hr
 refine ⟨?_, ?_⟩
 ·show AV.tup [.ptr (qb1 [] σ.length 0) 0, _] = _
  rfl
 ·show σ ++ [.box 3 (.agg [.d _, .d _, .mapr (qb1 [] σ.length 1)]), qc5 _ (.map none (qby _))] = _
  rw [Qgs]; rfl
theorem qpq {n m : Nat} {all : Array Oper} {rest : List Oper} {KK : Env → Sto → Prop} {env : Env} {dst : Option Tmp} (l : List qap) (what : List UInt8) (hl : l.length < 1000000) (p : Bool) (i : Nat) (N : List (List UInt8)) (hN : N.length < 1000000) (hn : N.length = m) (hp : p = false → N = []) (σ : Sto) (hb : qaa σ i = .frz 1 (N.map .str))
  (h2 : qal Tryz.prog G2 n all false rest (putE env dst (.tup [.ptr σ.length 0, .d (.bool (!qeq l what N))])) (σ ++ [.box 3 (.agg [.d (.sl (l.map qap.toD)), .d (.str what), .mapr (σ.length + 1)]), .map none (qby (qdc l what N))]) KK) :
  qfp Tryz.prog G2 n all false dst rest (.fn 36 []) [.d (.sl (l.map qap.toD)), .d (.str what), (val p i m).getD .nils] env σ KK := by
 have hc := (q3g l what N hl hN σ).mono (R' := fun r σ' => qal Tryz.prog G2 n all false rest (putE env dst r) σ' KK) fun r s hr => by obtain ⟨rfl, rfl⟩ := hr; exact h2
 cases p with
 | false =>
  have := hp rfl
  subst this
  exact qtw hc
 | true =>
  subst hn
  refine qtw ?_
  have hil : i < σ.length := by
   rcases Nat.lt_or_ge i σ.length with h | h
   ·exact h
   ·exfalso
    have : qaa σ i = .dead := by unfold qaa; rw [List.getD_eq_getElem?_getD, List.getElem?_eq_none h]; rfl
    rw [this] at hb; cases hb
  have e1 : ql1 σ (.osl i 0 N.length) = .d (.sl (N.map .str)) := by
   rw [qpz _ _ _ _ (by rw [hb]; rfl), hb]
   show AV.d (.sl (((N.map D.str).drop 0).take N.length)) = _
   rw [List.drop_zero, List.take_of_length_le (by simp)]
  have e2 : qh0 σ (.osl i 0 N.length) = [i] := qpy _ _ _ _ (by rw [hb]; rfl)
  have e3 : freezeL σ [i] = σ := by
   show σ.set i (qaa σ i).frozen = σ
   rw [hb]
   apply List.ext_getElem?
   intro j
   rw [List.getElem?_set]
   split
   ·rename_i h; subst h
    have : σ[i]? = some (qaa σ i) := by unfold qaa; simp [hil]
    rw [this, hb]; rfl
   ·rfl
  have e4 : ([.d (.sl (l.map qap.toD)), .d (.str what), (val true i N.length).getD .nils] ++ ([] : List AV)).map (ql1 σ) = [.d (.sl (l.map qap.toD)), .d (.str what), .d (.sl (N.map .str))] := by
   show [_, _, ql1 σ (.osl i 0 N.length)] = _
   rw [e1]; rfl
  have e5 : ([.d (.sl (l.map qap.toD)), .d (.str what), (val true i N.length).getD .nils] ++ ([] : List AV)).flatMap (qh0 σ) = [i] := by
   show ([] ++ ([] ++ (qh0 σ (.osl i 0 N.length) ++ []))) = _
   rw [e2]; rfl
  rw [e4, e5, e3]
  exact hc
theorem qmn {α β : Type} {L : List α} (f : α → β) (h : decide (0 < L.length) = false) : L.map f = [] := by
 have h1 : ¬ 0 < L.length := of_decide_eq_false h
 rw [List.eq_nil_of_length_eq_zero (show L.length = 0 by omega)]; rfl
theorem Qfr {t : qa5} (h : decide (0 < t.samples.length + t.blocks.length) = false) : frN t = [] := by
 have h1 : ¬ 0 < t.samples.length + t.blocks.length := of_decide_eq_false h
 rw [frN, List.eq_nil_of_length_eq_zero (show t.samples.length = 0 by omega), List.eq_nil_of_length_eq_zero (show t.blocks.length = 0 by omega)]; rfl
theorem Qfu (p : qan → Bool) : ∀ l : List qan, (((l.filter p).map (·.stack)).flatten).length ≤ ((l.map (·.stack)).flatten).length
 | [] => Nat.le_refl _
 | x :: l => by
  have ih := Qfu p l
  rw [List.filter_cons]
  split
  ·simp only [List.map_cons, List.flatten_cons, List.length_append]; omega
  ·simp only [List.map_cons, List.flatten_cons, List.length_append]; omega
theorem Qfv (p : qar → Bool) : ∀ l : List qar, (((l.filter p).map (·.stack)).flatten).length ≤ ((l.map (·.stack)).flatten).length
 | [] => Nat.le_refl _
 | x :: l => by
  have ih := Qfv p l
  rw [List.filter_cons]
  split
  ·simp only [List.map_cons, List.flatten_cons, List.length_append]; omega
  ·simp only [List.map_cons, List.flatten_cons, List.length_append]; omega
theorem Qfw (r : List qap) : ∀ l : List qan, (((l.map (frS r)).map (·.stack)).flatten).length ≤ ((l.map (·.stack)).flatten).length
 | [] => Nat.le_refl _
 | x :: l => by
  have ih := Qfw r l
  have h : (frS r x).stack.length ≤ x.stack.length := List.length_filter_le _ _
  simp only [List.map_cons, List.flatten_cons, List.length_append]; omega
theorem Qfx (r : List qap) : ∀ l : List qar, (((l.map (Qft r)).map (·.stack)).flatten).length ≤ ((l.map (·.stack)).flatten).length
 | [] => Nat.le_refl _
 | x :: l => by
  have ih := Qfx r l
  have h : (Qft r x).stack.length ≤ x.stack.length := List.length_filter_le _ _
  simp only [List.map_cons, List.flatten_cons, List.length_append]; omega
theorem Qja (l : List qap) (t : qa5) : (frN (qkc l (qga l t))).length ≤ (frN t).length := by
 have a1 := Qfw l (qga l t).samples
 have a2 := Qfx l (qga l t).blocks
 have a3 := Qfu (fun x => !qfu l t.threads x.thread) t.samples
 have a4 := Qfv (fun x => !qfu l t.threads x.thread) t.blocks
 have e1 : (frN (qkc l (qga l t))).length = ((((qga l t).samples.map (frS l)).map (·.stack)).flatten).length + ((((qga l t).blocks.map (Qft l)).map (·.stack)).flatten).length := by rw [frN, List.length_append]; rfl
 have e2 : (frN t).length = ((t.samples.map (·.stack)).flatten).length + ((t.blocks.map (·.stack)).flatten).length := by rw [frN, List.length_append]
 have b1 : ((qga l t).samples.map (·.stack)) = ((t.samples.filter (fun x => !qfu l t.threads x.thread)).map (·.stack)) := rfl
 have b2 : ((qga l t).blocks.map (·.stack)) = ((t.blocks.filter (fun x => !qfu l t.threads x.thread)).map (·.stack)) := rfl
 rw [b1] at a1
 rw [b2] at a2
 omega
def okK (l : List qap) (t2 : qa5) (k : Nat) : Prop := (0 < k → qeq l qav (t2.threads.map (·.name)) = false) ∧ (1 < k → qeq l qa8 (t2.slices.map (·.name)) = false) ∧ (2 < k → qeq l qbd (frN t2) = false) ∧ (3 < k → qeq l qaw (t2.steps.map (·.name)) = false)
def hmK (k : Nat) : Key → Option AV := qb2 (if 0 < k then some (.ptr 14 0) else none) (if 1 < k then some (.ptr 16 0) else none) (if 2 < k then some (.ptr 18 0) else none) (if 3 < k then some (.ptr 20 0) else none)
def Qsr (l : List qap) (t2 : qa5) : Sto := [.box 3 (.agg [.d (.sl (l.map qap.toD)), .d (.str qav), .mapr 15]), .map none (qby (qdc l qav (t2.threads.map (·.name)))), .box 3 (.agg [.d (.sl (l.map qap.toD)), .d (.str qa8), .mapr 17]), .map none (qby (qdc l qa8 (t2.slices.map (·.name)))), .box 3 (.agg [.d (.sl (l.map qap.toD)), .d (.str qbd), .mapr 19]), .map none (qby (qdc l qbd (frN t2))), .box 3 (.agg [.d (.sl (l.map qap.toD)), .d (.str qaw), .mapr 21]), .map none (qby (qdc l qaw (t2.steps.map (·.name))))]
theorem Qnh (l : List qap) (t : qa5) (hl : l.length < 1000000) (hf : t.Few) (ht : t.lim) (hs : t.limS) (hg : qkh t = 0 → qgp t.slices) (hfn : qkh t = 0 → (frN t).length < 1000000) : qbg Tryz.prog G2 20 [.d (.sl (l.map qap.toD)), .d t.toD] (.tup [.d (qua l t).1.toD, .d (.int .i64 (qua l t).2)]) := by
 refine qbg.of2t2 ?_
 refine qac Tryz.func20 rfl rfl (by simp [Tryz.ntmps20]) (qab rfl _ _ _ _ ?_)
 simp only [Tryz.ntmps20, Tryz.results20, qaj, List.length_nil]
 simp only [zU, seval, L1, L2, L3, L4, M1, M2, M3, M4, L1s, L2s, L3s, L4s, M1s, M2s, M3s, M4s, qpi, qph]
 refine qaf (q5i l hl) ?_
 simp only [zU, seval, L1, L2, L3, L4, M1, M2, M3, M4, L1s, L2s, L3s, L4s, M1s, M2s, M3s, M4s, qpi, qph]
 refine ifC.mk (fun h0 => ?_) (fun h0 => ?_)
 ·have h0 : qkf l ≠ 0 := by simpa using h0
  refine ⟨_, _, qch rfl (x := qt9.toD) rfl, ?_, rfl⟩
  rw [qua, if_pos h0]
 have h0 : qkf l = 0 := by simpa using h0
 (try simp only [zU, seval, L1, L2, L3, L4, M1, M2, M3, M4, L1s, L2s, L3s, L4s, M1s, M2s, M3s, M4s, qpi, qph])
 refine qaf (q3a t hf) ?_
 simp only [zU, seval, L1, L2, L3, L4, M1, M2, M3, M4, L1s, L2s, L3s, L4s, M1s, M2s, M3s, M4s, qpi, qph]
 refine ifC.mk (fun h1 => ?_) (fun h1 => ?_)
 ·have h1 : qkh t ≠ 0 := by simpa using h1
  refine ⟨_, _, qch rfl (x := qt9.toD) rfl, ?_, rfl⟩
  rw [qua, if_neg (by rw [h0]; simp), if_pos h1]
 have h1 : qkh t = 0 := by simpa using h1
 have e0 : qua l t = if qul l (qkc l (qga l t)) = true then (qt9, 4) else (Qol (Qrs l (qkc l (qga l t))), 0) := by
  rw [qua, if_neg (by rw [h0]; simp), if_neg (by rw [h1]; simp)]
 have g1 := hg h1
 have f1 := hfn h1
 (try simp only [zU, seval, L1, L2, L3, L4, M1, M2, M3, M4, L1s, L2s, L3s, L4s, M1s, M2s, M3s, M4s, qpi, qph])
 refine qbz (R := fun r ν => r = Qrp (qga l t) ∧ ν = [.arr 3 ((qga l t).threads.map qao.toD)]) [] [] (by simp) (by simp) rfl rfl (fun j i h => by simp at h) ((qzm l t hl ht g1).mono fun r s hr => ⟨_, by rw [List.nil_append], hr.1, hr.2⟩) (fun r ν hr => ?_)
 obtain ⟨rfl, rfl⟩ := hr
 obtain ⟨t1, ht1⟩ : ∃ t1, t1 = qga l t := ⟨_, rfl⟩
 have l1 : t1.lim := by rw [ht1]; exact Qf9 ht
 have s1 : t1.limS := by rw [ht1]; exact Qbf hs
 have g2 : qgp t1.slices := by rw [ht1]; exact Qbg g1
 rw [← ht1] at e0 ⊢
 show qal _ _ _ _ _ _ (putE _ _ (.agg [.d (.int .i64 t1.lo), .d (.int .i64 t1.hi), .osl 2 0 t1.threads.length, .d (.sl (t1.slices.map qah.toD)), .d (.sl (t1.states.map qa0.toD)), .d (.sl (t1.flows.map qbu.toD)), .d (.sl (t1.samples.map qan.toD)), .d (.sl (t1.steps.map qbc.toD)), .d (.sl (t1.blocks.map qar.toD)), .d (.sl (t1.lost.map qcd.toD))])) [.box 10 (.d t.toD), .box 10 zT, .arr 3 (t1.threads.map qao.toD)] _
 simp only [zU, seval, L1, L2, L3, L4, M1, M2, M3, M4, L1s, L2s, L3s, L4s, M1s, M2s, M3s, M4s, qpi, qph]
 refine qbz (R := fun r ν => r = qew (qkc l t1) ∧ ν = (Qhk (qkc l t1)).tail) [2] [.arr 3 (t1.threads.map qao.toD)] (by simp) (by simp) rfl rfl (hk1 rfl) ((q48 l t1 hl l1 s1 g2).mono fun r s hr => ⟨(Qhk (qkc l t1)).tail, by rw [hr.2]; rfl, hr.1, rfl⟩) (fun r ν hr => ?_)
 obtain ⟨rfl, rfl⟩ := hr
 obtain ⟨t2, ht2⟩ : ∃ t2, t2 = qkc l t1 := ⟨_, rfl⟩
 have l2 : t2.lim := by rw [ht2]; exact Qga l1
 have s2 : t2.limS := by rw [ht2]; exact Qbh s1
 have et : t1.threads = t2.threads := by rw [ht2]; rfl
 rw [et, ← ht2]
 rw [← ht2] at e0
 have hfr : (frN t2).length < 1000000 := by rw [ht2, ht1]; exact Nat.lt_of_le_of_lt (Qja l t) f1
 obtain ⟨h1, h2, h3, h4, h5, h6, h7, h8⟩ := l2
 show qal _ _ _ _ _ _ (putE _ _ (.agg [.d (.int .i64 t2.lo), .d (.int .i64 t2.hi), .osl 2 0 t2.threads.length, .osl 3 0 t2.slices.length, .d (.sl (t2.states.map qa0.toD)), .d (.sl (t2.flows.map qbu.toD)), .osl 4 0 t2.samples.length, .osl 5 0 t2.steps.length, .osl 6 0 t2.blocks.length, .d (.sl (t2.lost.map qcd.toD))])) [.box 10 (.d t.toD), .box 10 zT, .arr 3 (t2.threads.map qao.toD), .arr 8 (t2.slices.map qah.toD), .arr 4 (t2.samples.map qan.toD), .arr 3 (t2.steps.map qbc.toD), .arr 7 (t2.blocks.map qar.toD)] _
 simp only [zU, seval, L1, L2, L3, L4, M1, M2, M3, M4, L1s, L2s, L3s, L4s, M1s, M2s, M3s, M4s, qpi, qph]
 repeat ((with_reducible refine And.intro ?_ ?_); (focus (first | omega | (simp only [qax]; omega) | (refine qq ?_; rfl) | (refine dq ?_; kernel_rfl) | (intros; simp_all; done))))
 refine qbz (R := fun r ν => r = .mapr 5 ∧ ν = [.map none (qb2 (val (decide (0 < t2.threads.length)) 6 t2.threads.length) (val (decide (0 < t2.slices.length)) 7 t2.slices.length) (val (decide (0 < t2.samples.length + t2.blocks.length)) 8 (frN t2).length) (val (decide (0 < t2.steps.length)) 9 t2.steps.length)),
   .arr 1 ((t2.threads.map (·.name)).map .str), .arr 1 ((t2.slices.map (·.name)).map .str), .arr 1 ((frN t2).map .str), .arr 1 ((t2.steps.map (·.name)).map .str)]) [2, 3, 4, 5, 6] (Qhk t2) (by simp) (by simp) rfl rfl (fun j i h => by rcases j with _ | _ | _ | _ | _ | j <;> simp at h <;> subst h <;> rfl) ((Qim t2 ⟨h1, h2, h3, h4, h5, h6, h7, h8⟩ s2).mono fun r s hr => ⟨_, by rw [hr.2]; rfl, hr.1, rfl⟩) (fun r ν hr => ?_)
 obtain ⟨rfl, rfl⟩ := hr
 have em : qc5 (qb1 [2, 3, 4, 5, 6] 7) (.map none (qb2 (val (decide (0 < t2.threads.length)) 6 t2.threads.length) (val (decide (0 < t2.slices.length)) 7 t2.slices.length) (val (decide (0 < t2.samples.length + t2.blocks.length)) 8 (frN t2).length) (val (decide (0 < t2.steps.length)) 9 t2.steps.length))) = .map none (qb2 (val (decide (0 < t2.threads.length)) 8 t2.threads.length) (val (decide (0 < t2.slices.length)) 9 t2.slices.length) (val (decide (0 < t2.samples.length + t2.blocks.length)) 10 (frN t2).length) (val (decide (0 < t2.steps.length)) 11 t2.steps.length)) := by
  show Blk.map none _ = _
  rw [qec, qpg, qpg, qpg, qpg]; rfl
 show qal _ _ _ _ _ _ (putE _ _ (.mapr 7)) [.box 10 (.agg [.d (.int .i64 t2.lo), .d (.int .i64 t2.hi), .osl 2 0 t2.threads.length, .osl 3 0 t2.slices.length, .d (.sl (t2.states.map qa0.toD)), .d (.sl (t2.flows.map qbu.toD)), .osl 4 0 t2.samples.length, .osl 5 0 t2.steps.length, .osl 6 0 t2.blocks.length, .d (.sl (t2.lost.map qcd.toD))]), .box 10 zT, .arr 3 (t2.threads.map qao.toD), .arr 8 (t2.slices.map qah.toD), .arr 4 (t2.samples.map qan.toD), .arr 3 (t2.steps.map qbc.toD), .arr 7 (t2.blocks.map qar.toD), qc5 (qb1 [2, 3, 4, 5, 6] 7) (.map none (qb2 (val (decide (0 < t2.threads.length)) 6 t2.threads.length) (val (decide (0 < t2.slices.length)) 7 t2.slices.length) (val (decide (0 < t2.samples.length + t2.blocks.length)) 8 (frN t2).length) (val (decide (0 < t2.steps.length)) 9 t2.steps.length))), .arr 1 ((t2.threads.map (·.name)).map .str), .arr 1 ((t2.slices.map (·.name)).map .str), .arr 1 ((frN t2).map .str), .arr 1 ((t2.steps.map (·.name)).map .str)] _
 rw [em]
 simp only [zU, seval, L1, L2, L3, L4, M1, M2, M3, M4, L1s, L2s, L3s, L4s, M1s, M2s, M3s, M4s, qpi, qph]
 repeat ((with_reducible refine And.intro ?_ ?_); (focus (first | omega | (simp only [qax]; omega) | (refine qq ?_; rfl) | (refine dq ?_; kernel_rfl) | (intros; simp_all; done))))
 refine qa4 4 (fun k => [(0, .d (.sl (l.map qap.toD))), (3, .ptr 0 0), (4, .ptr 1 0), (8, .mapr 7), (9, .mapr 12), (34, .osl 13 0 4), (35, .d (.int .i64 4)), (36, .d (.int .i64 k))]) (fun k => [.box 10 (.agg [.d (.int .i64 t2.lo), .d (.int .i64 t2.hi), .osl 2 0 t2.threads.length, .osl 3 0 t2.slices.length, .d (.sl (t2.states.map qa0.toD)), .d (.sl (t2.flows.map qbu.toD)), .osl 4 0 t2.samples.length, .osl 5 0 t2.steps.length, .osl 6 0 t2.blocks.length, .d (.sl (t2.lost.map qcd.toD))]), .box 10 zT, .arr 3 (t2.threads.map qao.toD), .arr 8 (t2.slices.map qah.toD), .arr 4 (t2.samples.map qan.toD), .arr 3 (t2.steps.map qbc.toD), .arr 7 (t2.blocks.map qar.toD), .map none (qb2 (val (decide (0 < t2.threads.length)) 8 t2.threads.length) (val (decide (0 < t2.slices.length)) 9 t2.slices.length) (val (decide (0 < t2.samples.length + t2.blocks.length)) 10 (frN t2).length) (val (decide (0 < t2.steps.length)) 11 t2.steps.length)), .frz 1 ((t2.threads.map (·.name)).map .str), .frz 1 ((t2.slices.map (·.name)).map .str), .frz 1 ((frN t2).map .str), .frz 1 ((t2.steps.map (·.name)).map .str), .map none (hmK k), .arr 1 [.str qav, .str qa8, .str qbd, .str qaw]] ++ (Qsr l t2).take (2 * k)) (okK l t2) ⟨fun h => absurd h (by omega), fun h => absurd h (by omega), fun h => absurd h (by omega), fun h => absurd h (by omega)⟩ ?_ ?_
 ·refine qad [8, 9, 10, 11] [0, 1, 2, 3, 4, 5, 6, 7, 8, 9, 10, 11, 12, 13] rfl (by simp) ?_ ?_
  ·simp only [zU, seval, L1, L2, L3, L4, M1, M2, M3, M4, L1s, L2s, L3s, L4s, M1s, M2s, M3s, M4s, qpi, qph]
   try rfl
  ·rw [qsy]
   show [_, _, _, _, _, _, _, qbv _ _ (.map none (qb2 (val (decide (0 < t2.threads.length)) 8 t2.threads.length) (val (decide (0 < t2.slices.length)) 9 t2.slices.length) (val (decide (0 < t2.samples.length + t2.blocks.length)) 10 (frN t2).length) (val (decide (0 < t2.steps.length)) 11 t2.steps.length))), _, _, _, _, .map none (fun k => (qb2 none none none none k).map (qbf _ _)), _] = _
   rw [qhn _ _ _ _ _ _ _ _ rfl rfl rfl rfl, qec]; rfl
 intro k hok hk4
 have hk5 : k = 0 ∨ k = 1 ∨ k = 2 ∨ k = 3 ∨ k = 4 := by omega
 have hcol : ∀ b1 b2 b3 b4, qeq l qav (t2.threads.map (·.name)) = b1 → qeq l qa8 (t2.slices.map (·.name)) = b2 → qeq l qbd (frN t2) = b3 → qeq l qaw (t2.steps.map (·.name)) = b4 → qul l t2 = (b1 || b2 || b3 || b4) := fun b1 b2 b3 b4 q1 q2 q3 q4 => by rw [qul, q1, q2, q3, q4]
 rcases hk5 with rfl | rfl | rfl | rfl | rfl
 ·show evC _ _ _ _ _ [(0, .d (.sl (l.map qap.toD))), (3, .ptr 0 0), (4, .ptr 1 0), (8, .mapr 7), (9, .mapr 12), (34, .osl 13 0 4), (35, .d (.int .i64 4)), (36, .d (.int .i64 0))] [.box 10 (.agg [.d (.int .i64 t2.lo), .d (.int .i64 t2.hi), .osl 2 0 t2.threads.length, .osl 3 0 t2.slices.length, .d (.sl (t2.states.map qa0.toD)), .d (.sl (t2.flows.map qbu.toD)), .osl 4 0 t2.samples.length, .osl 5 0 t2.steps.length, .osl 6 0 t2.blocks.length, .d (.sl (t2.lost.map qcd.toD))]), .box 10 zT, .arr 3 (t2.threads.map qao.toD), .arr 8 (t2.slices.map qah.toD), .arr 4 (t2.samples.map qan.toD), .arr 3 (t2.steps.map qbc.toD), .arr 7 (t2.blocks.map qar.toD), .map none (qb2 (val (decide (0 < t2.threads.length)) 8 t2.threads.length) (val (decide (0 < t2.slices.length)) 9 t2.slices.length) (val (decide (0 < t2.samples.length + t2.blocks.length)) 10 (frN t2).length) (val (decide (0 < t2.steps.length)) 11 t2.steps.length)), .frz 1 ((t2.threads.map (·.name)).map .str), .frz 1 ((t2.slices.map (·.name)).map .str), .frz 1 ((frN t2).map .str), .frz 1 ((t2.steps.map (·.name)).map .str), .map none (qb2 none none none none), .arr 1 [.str qav, .str qa8, .str qbd, .str qaw]] _
  simp only [zU, seval, L1, L2, L3, L4, M1, M2, M3, M4, L1s, L2s, L3s, L4s, M1s, M2s, M3s, M4s, qpi, qph]
  refine qpq l qav hl (decide (0 < t2.threads.length)) 8 (t2.threads.map (·.name)) (by first | (simp only [List.length_map]; omega) | omega) (by first | rfl | simp only [List.length_map]) (fun hp => qmn _ hp) _ rfl ?_
  simp only [zU, seval, L1, L2, L3, L4, M1, M2, M3, M4, L1s, L2s, L3s, L4s, M1s, M2s, M3s, M4s, qpi, qph]
  refine ifC.mk (fun hc => ?_) (fun hc => ?_)
  ·refine ⟨_, _, qch rfl (x := qt9.toD) rfl, ?_, rfl⟩
   rw [e0, if_pos (by rw [qul, hc]; simp)]
  ·refine ⟨⟨fun _ => hc, fun h => absurd h (by omega), fun h => absurd h (by omega), fun h => absurd h (by omega)⟩, ?_⟩
   refine qad [] [0, 1, 2, 3, 4, 5, 6, 7, 8, 9, 10, 11, 12, 13, 14, 15] rfl (by simp) ?_ ?_
   ·simp only [zU, seval, L1, L2, L3, L4, M1, M2, M3, M4, L1s, L2s, L3s, L4s, M1s, M2s, M3s, M4s, qpi, qph, Int.reduceAdd]
    try rfl
   ·show [_, _, _, _, _, _, _, qbv _ _ (.map none (qb2 (val (decide (0 < t2.threads.length)) 8 t2.threads.length) (val (decide (0 < t2.slices.length)) 9 t2.slices.length) (val (decide (0 < t2.samples.length + t2.blocks.length)) 10 (frN t2).length) (val (decide (0 < t2.steps.length)) 11 t2.steps.length))), _, _, _, _, .map none (fun k => (qb2 (some (.ptr 14 0)) none none none k).map (qbf _ _)), _, _, qbv _ _ (.map none (qby (qdc l qav (t2.threads.map (·.name)))))] = _
    rw [qhn _ _ _ _ _ _ _ _ rfl rfl rfl rfl, qec, qez]; rfl
 ·show evC _ _ _ _ _ [(0, .d (.sl (l.map qap.toD))), (3, .ptr 0 0), (4, .ptr 1 0), (8, .mapr 7), (9, .mapr 12), (34, .osl 13 0 4), (35, .d (.int .i64 4)), (36, .d (.int .i64 1))] [.box 10 (.agg [.d (.int .i64 t2.lo), .d (.int .i64 t2.hi), .osl 2 0 t2.threads.length, .osl 3 0 t2.slices.length, .d (.sl (t2.states.map qa0.toD)), .d (.sl (t2.flows.map qbu.toD)), .osl 4 0 t2.samples.length, .osl 5 0 t2.steps.length, .osl 6 0 t2.blocks.length, .d (.sl (t2.lost.map qcd.toD))]), .box 10 zT, .arr 3 (t2.threads.map qao.toD), .arr 8 (t2.slices.map qah.toD), .arr 4 (t2.samples.map qan.toD), .arr 3 (t2.steps.map qbc.toD), .arr 7 (t2.blocks.map qar.toD), .map none (qb2 (val (decide (0 < t2.threads.length)) 8 t2.threads.length) (val (decide (0 < t2.slices.length)) 9 t2.slices.length) (val (decide (0 < t2.samples.length + t2.blocks.length)) 10 (frN t2).length) (val (decide (0 < t2.steps.length)) 11 t2.steps.length)), .frz 1 ((t2.threads.map (·.name)).map .str), .frz 1 ((t2.slices.map (·.name)).map .str), .frz 1 ((frN t2).map .str), .frz 1 ((t2.steps.map (·.name)).map .str), .map none (qb2 (some (.ptr 14 0)) none none none), .arr 1 [.str qav, .str qa8, .str qbd, .str qaw], .box 3 (.agg [.d (.sl (l.map qap.toD)), .d (.str qav), .mapr 15]), .map none (qby (qdc l qav (t2.threads.map (·.name))))] _
  simp only [zU, seval, L1, L2, L3, L4, M1, M2, M3, M4, L1s, L2s, L3s, L4s, M1s, M2s, M3s, M4s, qpi, qph]
  refine qpq l qa8 hl (decide (0 < t2.slices.length)) 9 (t2.slices.map (·.name)) (by first | (simp only [List.length_map]; omega) | omega) (by first | rfl | simp only [List.length_map]) (fun hp => qmn _ hp) _ rfl ?_
  simp only [zU, seval, L1, L2, L3, L4, M1, M2, M3, M4, L1s, L2s, L3s, L4s, M1s, M2s, M3s, M4s, qpi, qph]
  refine ifC.mk (fun hc => ?_) (fun hc => ?_)
  ·refine ⟨_, _, qch rfl (x := qt9.toD) rfl, ?_, rfl⟩
   rw [e0, if_pos (by rw [qul, hc]; simp)]
  ·refine ⟨⟨fun _ => hok.1 (by omega), fun _ => hc, fun h => absurd h (by omega), fun h => absurd h (by omega)⟩, ?_⟩
   refine qad [] [0, 1, 2, 3, 4, 5, 6, 7, 8, 9, 10, 11, 12, 13, 14, 15, 16, 17] rfl (by simp) ?_ ?_
   ·simp only [zU, seval, L1, L2, L3, L4, M1, M2, M3, M4, L1s, L2s, L3s, L4s, M1s, M2s, M3s, M4s, qpi, qph, Int.reduceAdd]
    try rfl
   ·show [_, _, _, _, _, _, _, qbv _ _ (.map none (qb2 (val (decide (0 < t2.threads.length)) 8 t2.threads.length) (val (decide (0 < t2.slices.length)) 9 t2.slices.length) (val (decide (0 < t2.samples.length + t2.blocks.length)) 10 (frN t2).length) (val (decide (0 < t2.steps.length)) 11 t2.steps.length))), _, _, _, _, .map none (fun k => (qb2 (some (.ptr 14 0)) (some (.ptr 16 0)) none none k).map (qbf _ _)), _, _, qbv _ _ (.map none (qby (qdc l qav (t2.threads.map (·.name))))), _, qbv _ _ (.map none (qby (qdc l qa8 (t2.slices.map (·.name)))))] = _
    rw [qhn _ _ _ _ _ _ _ _ rfl rfl rfl rfl, qec, qez, qez]; rfl
 ·show evC _ _ _ _ _ [(0, .d (.sl (l.map qap.toD))), (3, .ptr 0 0), (4, .ptr 1 0), (8, .mapr 7), (9, .mapr 12), (34, .osl 13 0 4), (35, .d (.int .i64 4)), (36, .d (.int .i64 2))] [.box 10 (.agg [.d (.int .i64 t2.lo), .d (.int .i64 t2.hi), .osl 2 0 t2.threads.length, .osl 3 0 t2.slices.length, .d (.sl (t2.states.map qa0.toD)), .d (.sl (t2.flows.map qbu.toD)), .osl 4 0 t2.samples.length, .osl 5 0 t2.steps.length, .osl 6 0 t2.blocks.length, .d (.sl (t2.lost.map qcd.toD))]), .box 10 zT, .arr 3 (t2.threads.map qao.toD), .arr 8 (t2.slices.map qah.toD), .arr 4 (t2.samples.map qan.toD), .arr 3 (t2.steps.map qbc.toD), .arr 7 (t2.blocks.map qar.toD), .map none (qb2 (val (decide (0 < t2.threads.length)) 8 t2.threads.length) (val (decide (0 < t2.slices.length)) 9 t2.slices.length) (val (decide (0 < t2.samples.length + t2.blocks.length)) 10 (frN t2).length) (val (decide (0 < t2.steps.length)) 11 t2.steps.length)), .frz 1 ((t2.threads.map (·.name)).map .str), .frz 1 ((t2.slices.map (·.name)).map .str), .frz 1 ((frN t2).map .str), .frz 1 ((t2.steps.map (·.name)).map .str), .map none (qb2 (some (.ptr 14 0)) (some (.ptr 16 0)) none none), .arr 1 [.str qav, .str qa8, .str qbd, .str qaw], .box 3 (.agg [.d (.sl (l.map qap.toD)), .d (.str qav), .mapr 15]), .map none (qby (qdc l qav (t2.threads.map (·.name)))), .box 3 (.agg [.d (.sl (l.map qap.toD)), .d (.str qa8), .mapr 17]), .map none (qby (qdc l qa8 (t2.slices.map (·.name))))] _
  simp only [zU, seval, L1, L2, L3, L4, M1, M2, M3, M4, L1s, L2s, L3s, L4s, M1s, M2s, M3s, M4s, qpi, qph]
  refine qpq l qbd hl (decide (0 < t2.samples.length + t2.blocks.length)) 10 (frN t2) (by first | (simp only [List.length_map]; omega) | omega) (by first | rfl | simp only [List.length_map]) (fun hp => Qfr hp) _ rfl ?_
  simp only [zU, seval, L1, L2, L3, L4, M1, M2, M3, M4, L1s, L2s, L3s, L4s, M1s, M2s, M3s, M4s, qpi, qph]
  refine ifC.mk (fun hc => ?_) (fun hc => ?_)
  ·refine ⟨_, _, qch rfl (x := qt9.toD) rfl, ?_, rfl⟩
   rw [e0, if_pos (by rw [qul, hc]; simp)]
  ·refine ⟨⟨fun _ => hok.1 (by omega), fun _ => hok.2.1 (by omega), fun _ => hc, fun h => absurd h (by omega)⟩, ?_⟩
   refine qad [] [0, 1, 2, 3, 4, 5, 6, 7, 8, 9, 10, 11, 12, 13, 14, 15, 16, 17, 18, 19] rfl (by simp) ?_ ?_
   ·simp only [zU, seval, L1, L2, L3, L4, M1, M2, M3, M4, L1s, L2s, L3s, L4s, M1s, M2s, M3s, M4s, qpi, qph, Int.reduceAdd]
    try rfl
   ·show [_, _, _, _, _, _, _, qbv _ _ (.map none (qb2 (val (decide (0 < t2.threads.length)) 8 t2.threads.length) (val (decide (0 < t2.slices.length)) 9 t2.slices.length) (val (decide (0 < t2.samples.length + t2.blocks.length)) 10 (frN t2).length) (val (decide (0 < t2.steps.length)) 11 t2.steps.length))), _, _, _, _, .map none (fun k => (qb2 (some (.ptr 14 0)) (some (.ptr 16 0)) (some (.ptr 18 0)) none k).map (qbf _ _)), _, _, qbv _ _ (.map none (qby (qdc l qav (t2.threads.map (·.name))))), _, qbv _ _ (.map none (qby (qdc l qa8 (t2.slices.map (·.name))))), _, qbv _ _ (.map none (qby (qdc l qbd (frN t2))))] = _
    rw [qhn _ _ _ _ _ _ _ _ rfl rfl rfl rfl, qec, qez, qez, qez]; rfl
 ·show evC _ _ _ _ _ [(0, .d (.sl (l.map qap.toD))), (3, .ptr 0 0), (4, .ptr 1 0), (8, .mapr 7), (9, .mapr 12), (34, .osl 13 0 4), (35, .d (.int .i64 4)), (36, .d (.int .i64 3))] [.box 10 (.agg [.d (.int .i64 t2.lo), .d (.int .i64 t2.hi), .osl 2 0 t2.threads.length, .osl 3 0 t2.slices.length, .d (.sl (t2.states.map qa0.toD)), .d (.sl (t2.flows.map qbu.toD)), .osl 4 0 t2.samples.length, .osl 5 0 t2.steps.length, .osl 6 0 t2.blocks.length, .d (.sl (t2.lost.map qcd.toD))]), .box 10 zT, .arr 3 (t2.threads.map qao.toD), .arr 8 (t2.slices.map qah.toD), .arr 4 (t2.samples.map qan.toD), .arr 3 (t2.steps.map qbc.toD), .arr 7 (t2.blocks.map qar.toD), .map none (qb2 (val (decide (0 < t2.threads.length)) 8 t2.threads.length) (val (decide (0 < t2.slices.length)) 9 t2.slices.length) (val (decide (0 < t2.samples.length + t2.blocks.length)) 10 (frN t2).length) (val (decide (0 < t2.steps.length)) 11 t2.steps.length)), .frz 1 ((t2.threads.map (·.name)).map .str), .frz 1 ((t2.slices.map (·.name)).map .str), .frz 1 ((frN t2).map .str), .frz 1 ((t2.steps.map (·.name)).map .str), .map none (qb2 (some (.ptr 14 0)) (some (.ptr 16 0)) (some (.ptr 18 0)) none), .arr 1 [.str qav, .str qa8, .str qbd, .str qaw], .box 3 (.agg [.d (.sl (l.map qap.toD)), .d (.str qav), .mapr 15]), .map none (qby (qdc l qav (t2.threads.map (·.name)))), .box 3 (.agg [.d (.sl (l.map qap.toD)), .d (.str qa8), .mapr 17]), .map none (qby (qdc l qa8 (t2.slices.map (·.name)))), .box 3 (.agg [.d (.sl (l.map qap.toD)), .d (.str qbd), .mapr 19]), .map none (qby (qdc l qbd (frN t2)))] _
  simp only [zU, seval, L1, L2, L3, L4, M1, M2, M3, M4, L1s, L2s, L3s, L4s, M1s, M2s, M3s, M4s, qpi, qph]
  refine qpq l qaw hl (decide (0 < t2.steps.length)) 11 (t2.steps.map (·.name)) (by first | (simp only [List.length_map]; omega) | omega) (by first | rfl | simp only [List.length_map]) (fun hp => qmn _ hp) _ rfl ?_
  simp only [zU, seval, L1, L2, L3, L4, M1, M2, M3, M4, L1s, L2s, L3s, L4s, M1s, M2s, M3s, M4s, qpi, qph]
  refine ifC.mk (fun hc => ?_) (fun hc => ?_)
  ·refine ⟨_, _, qch rfl (x := qt9.toD) rfl, ?_, rfl⟩
   rw [e0, if_pos (by rw [qul, hc]; simp)]
  ·refine ⟨⟨fun _ => hok.1 (by omega), fun _ => hok.2.1 (by omega), fun _ => hok.2.2.1 (by omega), fun _ => hc⟩, ?_⟩
   refine qad [] [0, 1, 2, 3, 4, 5, 6, 7, 8, 9, 10, 11, 12, 13, 14, 15, 16, 17, 18, 19, 20, 21] rfl (by simp) ?_ ?_
   ·simp only [zU, seval, L1, L2, L3, L4, M1, M2, M3, M4, L1s, L2s, L3s, L4s, M1s, M2s, M3s, M4s, qpi, qph, Int.reduceAdd]
    try rfl
   ·show [_, _, _, _, _, _, _, qbv _ _ (.map none (qb2 (val (decide (0 < t2.threads.length)) 8 t2.threads.length) (val (decide (0 < t2.slices.length)) 9 t2.slices.length) (val (decide (0 < t2.samples.length + t2.blocks.length)) 10 (frN t2).length) (val (decide (0 < t2.steps.length)) 11 t2.steps.length))), _, _, _, _, .map none (fun k => (qb2 (some (.ptr 14 0)) (some (.ptr 16 0)) (some (.ptr 18 0)) (some (.ptr 20 0)) k).map (qbf _ _)), _, _, qbv _ _ (.map none (qby (qdc l qav (t2.threads.map (·.name))))), _, qbv _ _ (.map none (qby (qdc l qa8 (t2.slices.map (·.name))))), _, qbv _ _ (.map none (qby (qdc l qbd (frN t2)))), _, qbv _ _ (.map none (qby (qdc l qaw (t2.steps.map (·.name)))))] = _
    rw [qhn _ _ _ _ _ _ _ _ rfl rfl rfl rfl, qec, qez, qez, qez, qez]; rfl
 ·obtain ⟨q1, q2, q3, q4⟩ := hok
  have ec : qul l t2 = false := by rw [qul, q1 (by omega), q2 (by omega), q3 (by omega), q4 (by omega)]; rfl
  rw [if_neg (by rw [ec]; simp)] at e0
  show evC _ _ _ _ _ [(0, .d (.sl (l.map qap.toD))), (3, .ptr 0 0), (4, .ptr 1 0), (8, .mapr 7), (9, .mapr 12), (34, .osl 13 0 4), (35, .d (.int .i64 4)), (36, .d (.int .i64 4))] [.box 10 (.agg [.d (.int .i64 t2.lo), .d (.int .i64 t2.hi), .osl 2 0 t2.threads.length, .osl 3 0 t2.slices.length, .d (.sl (t2.states.map qa0.toD)), .d (.sl (t2.flows.map qbu.toD)), .osl 4 0 t2.samples.length, .osl 5 0 t2.steps.length, .osl 6 0 t2.blocks.length, .d (.sl (t2.lost.map qcd.toD))]), .box 10 zT, .arr 3 (t2.threads.map qao.toD), .arr 8 (t2.slices.map qah.toD), .arr 4 (t2.samples.map qan.toD), .arr 3 (t2.steps.map qbc.toD), .arr 7 (t2.blocks.map qar.toD), .map none (qb2 (val (decide (0 < t2.threads.length)) 8 t2.threads.length) (val (decide (0 < t2.slices.length)) 9 t2.slices.length) (val (decide (0 < t2.samples.length + t2.blocks.length)) 10 (frN t2).length) (val (decide (0 < t2.steps.length)) 11 t2.steps.length)), .frz 1 ((t2.threads.map (·.name)).map .str), .frz 1 ((t2.slices.map (·.name)).map .str), .frz 1 ((frN t2).map .str), .frz 1 ((t2.steps.map (·.name)).map .str), .map none (qb2 (some (.ptr 14 0)) (some (.ptr 16 0)) (some (.ptr 18 0)) (some (.ptr 20 0))), .arr 1 [.str qav, .str qa8, .str qbd, .str qaw], .box 3 (.agg [.d (.sl (l.map qap.toD)), .d (.str qav), .mapr 15]), .map none (qby (qdc l qav (t2.threads.map (·.name)))), .box 3 (.agg [.d (.sl (l.map qap.toD)), .d (.str qa8), .mapr 17]), .map none (qby (qdc l qa8 (t2.slices.map (·.name)))), .box 3 (.agg [.d (.sl (l.map qap.toD)), .d (.str qbd), .mapr 19]), .map none (qby (qdc l qbd (frN t2))), .box 3 (.agg [.d (.sl (l.map qap.toD)), .d (.str qaw), .mapr 21]), .map none (qby (qdc l qaw (t2.steps.map (·.name))))] _
  simp only [zU, seval, L1, L2, L3, L4, M1, M2, M3, M4, L1s, L2s, L3s, L4s, M1s, M2s, M3s, M4s, qpi, qph]
  repeat ((with_reducible refine And.intro ?_ ?_); (focus (first | omega | (simp only [qax]; omega) | (refine qq ?_; rfl) | (refine dq ?_; kernel_rfl) | (intros; simp_all; done))))
  obtain ⟨t3, ht3⟩ : ∃ t3, t3 = Qrs l t2 := ⟨_, rfl⟩
  have hrep := Qau (Gl := G2) (l.map qap.toD) (qdc l qav (t2.threads.map (·.name))) (qdc l qa8 (t2.slices.map (·.name))) (qdc l qbd (frN t2)) (qdc l qaw (t2.steps.map (·.name))) t2 ⟨h1, h2, h3, h4, h5, h6, h7, h8⟩ s2
  refine qaq ((qag.under [2, 3, 4, 5, 6, 12, 14, 15, 16, 17, 18, 19, 20, 21] (by decide) (by simp) (R := fun r s => r = qew t3 ∧ s = Qhk t3 ++ [.map none (qb2 (some (.ptr 6 0)) (some (.ptr 8 0)) (some (.ptr 10 0)) (some (.ptr 12 0))), .box 3 (.agg [.d (.sl (l.map qap.toD)), .d (.str qav), .mapr 7]), .map none (qby (qdc l qav (t2.threads.map (·.name)))), .box 3 (.agg [.d (.sl (l.map qap.toD)), .d (.str qa8), .mapr 9]), .map none (qby (qdc l qa8 (t2.slices.map (·.name)))), .box 3 (.agg [.d (.sl (l.map qap.toD)), .d (.str qbd), .mapr 11]), .map none (qby (qdc l qbd (frN t2))), .box 3 (.agg [.d (.sl (l.map qap.toD)), .d (.str qaw), .mapr 13]), .map none (qby (qdc l qaw (t2.steps.map (·.name))))]) ?_).mono fun r s hss => ?_)
  ·have er : qdd [2, 3, 4, 5, 6, 12, 14, 15, 16, 17, 18, 19, 20, 21] [.box 10 (.agg [.d (.int .i64 t2.lo), .d (.int .i64 t2.hi), .osl 2 0 t2.threads.length, .osl 3 0 t2.slices.length, .d (.sl (t2.states.map qa0.toD)), .d (.sl (t2.flows.map qbu.toD)), .osl 4 0 t2.samples.length, .osl 5 0 t2.steps.length, .osl 6 0 t2.blocks.length, .d (.sl (t2.lost.map qcd.toD))]), .box 10 zT, .arr 3 (t2.threads.map qao.toD), .arr 8 (t2.slices.map qah.toD), .arr 4 (t2.samples.map qan.toD), .arr 3 (t2.steps.map qbc.toD), .arr 7 (t2.blocks.map qar.toD), .map none (qb2 (val (decide (0 < t2.threads.length)) 8 t2.threads.length) (val (decide (0 < t2.slices.length)) 9 t2.slices.length) (val (decide (0 < t2.samples.length + t2.blocks.length)) 10 (frN t2).length) (val (decide (0 < t2.steps.length)) 11 t2.steps.length)), .frz 1 ((t2.threads.map (·.name)).map .str), .frz 1 ((t2.slices.map (·.name)).map .str), .frz 1 ((frN t2).map .str), .frz 1 ((t2.steps.map (·.name)).map .str), .map none (qb2 (some (.ptr 14 0)) (some (.ptr 16 0)) (some (.ptr 18 0)) (some (.ptr 20 0))), .arr 1 [.str qav, .str qa8, .str qbd, .str qaw], .box 3 (.agg [.d (.sl (l.map qap.toD)), .d (.str qav), .mapr 15]), .map none (qby (qdc l qav (t2.threads.map (·.name)))), .box 3 (.agg [.d (.sl (l.map qap.toD)), .d (.str qa8), .mapr 17]), .map none (qby (qdc l qa8 (t2.slices.map (·.name)))), .box 3 (.agg [.d (.sl (l.map qap.toD)), .d (.str qbd), .mapr 19]), .map none (qby (qdc l qbd (frN t2))), .box 3 (.agg [.d (.sl (l.map qap.toD)), .d (.str qaw), .mapr 21]), .map none (qby (qdc l qaw (t2.steps.map (·.name))))] = Qhk t2 ++ [.map none (qb2 (some (.ptr 6 0)) (some (.ptr 8 0)) (some (.ptr 10 0)) (some (.ptr 12 0))), .box 3 (.agg [.d (.sl (l.map qap.toD)), .d (.str qav), .mapr 7]), .map none (qby (qdc l qav (t2.threads.map (·.name)))), .box 3 (.agg [.d (.sl (l.map qap.toD)), .d (.str qa8), .mapr 9]), .map none (qby (qdc l qa8 (t2.slices.map (·.name)))), .box 3 (.agg [.d (.sl (l.map qap.toD)), .d (.str qbd), .mapr 11]), .map none (qby (qdc l qbd (frN t2))), .box 3 (.agg [.d (.sl (l.map qap.toD)), .d (.str qaw), .mapr 13]), .map none (qby (qdc l qaw (t2.steps.map (·.name))))] := by
    show [_, _, _, _, _, .map none (fun k => ((qb2 (some (.ptr 14 0)) (some (.ptr 16 0)) (some (.ptr 18 0)) (some (.ptr 20 0))) k).map (qbf _ _)), _, qbv _ _ (.map none (qby (qdc l qav (t2.threads.map (·.name))))), _, qbv _ _ (.map none (qby (qdc l qa8 (t2.slices.map (·.name))))), _, qbv _ _ (.map none (qby (qdc l qbd (frN t2)))), _, qbv _ _ (.map none (qby (qdc l qaw (t2.steps.map (·.name)))))] = _
    rw [qec, qez, qez, qez, qez]; rfl
   rw [er]
   rw [ht3]
   exact hrep
  obtain ⟨r0, s0, ⟨rfl, rfl⟩, rfl, rfl⟩ := hss
  have m2 : t3.slices.length ≤ 1000 := by rw [ht3]; show (t2.slices.map _).length ≤ 1000; rw [List.length_map]; exact h2
  have m3 : t3.states.length ≤ 1000 := by rw [ht3]; exact h3
  have m4 : t3.flows.length ≤ 1000 := by rw [ht3]; exact h4
  have m5 : t3.samples.length ≤ 1000 := by rw [ht3]; show (t2.samples.map _).length ≤ 1000; rw [List.length_map]; exact h5
  have m6 : t3.steps.length ≤ 1000 := by rw [ht3]; show (qjy _ _).length ≤ 1000; rw [qm5, List.length_map]; exact h6
  have m7 : t3.blocks.length ≤ 1000 := by rw [ht3]; show (t2.blocks.map _).length ≤ 1000; rw [List.length_map]; exact h7
  have m8 : t3.lost.length ≤ 1000 := by rw [ht3]; exact h8
  rw [← ht3] at e0
  show qal _ _ _ _ _ _ (putE _ _ (.agg [.d (.int .i64 t3.lo), .d (.int .i64 t3.hi), .osl 2 0 t3.threads.length, .osl 3 0 t3.slices.length, .d (.sl (t3.states.map qa0.toD)), .d (.sl (t3.flows.map qbu.toD)), .osl 4 0 t3.samples.length, .osl 5 0 t3.steps.length, .osl 6 0 t3.blocks.length, .d (.sl (t3.lost.map qcd.toD))])) [.box 10 (.agg [.d (.int .i64 t2.lo), .d (.int .i64 t2.hi), .osl 2 0 t2.threads.length, .osl 3 0 t2.slices.length, .d (.sl (t2.states.map qa0.toD)), .d (.sl (t2.flows.map qbu.toD)), .osl 4 0 t2.samples.length, .osl 5 0 t2.steps.length, .osl 6 0 t2.blocks.length, .d (.sl (t2.lost.map qcd.toD))]), .box 10 zT, .arr 3 (t3.threads.map qao.toD), .arr 8 (t3.slices.map qah.toD), .arr 4 (t3.samples.map qan.toD), .arr 3 (t3.steps.map qbc.toD), .arr 7 (t3.blocks.map qar.toD), _, _, _, _, _, _, _, _, _, _, _, _, _, _, _] _
  simp only [zU, seval, L1, L2, L3, L4, M1, M2, M3, M4, L1s, L2s, L3s, L4s, M1s, M2s, M3s, M4s, qpi, qph]
  repeat ((with_reducible refine And.intro ?_ ?_); (focus (first | omega | (simp only [qax]; omega) | (refine qq ?_; rfl) | (refine dq ?_; kernel_rfl) | (intros; simp_all; done))))
  (try simp only [zU, seval, L1, L2, L3, L4, M1, M2, M3, M4, L1s, L2s, L3s, L4s, M1s, M2s, M3s, M4s, qpi, qph, @qai ((t3.slices.length : Int) + t3.states.length) (by omega), @qai ((t3.slices.length : Int) + t3.states.length + t3.flows.length) (by omega), @qai ((t3.slices.length : Int) + t3.states.length + t3.flows.length + t3.samples.length) (by omega), @qai ((t3.slices.length : Int) + t3.states.length + t3.flows.length + t3.samples.length + t3.steps.length) (by omega), @qai ((t3.slices.length : Int) + t3.states.length + t3.flows.length + t3.samples.length + t3.steps.length + t3.blocks.length) (by omega), @qai ((t3.slices.length : Int) + t3.states.length + t3.flows.length + t3.samples.length + t3.steps.length + t3.blocks.length + t3.lost.length) (by omega)])
  refine ifC.mk (fun hc => ?_) (fun hc => ?_)
  ·have hr : Qci t3 = 0 := by simp only [beq_iff_eq] at hc; unfold Qci; omega
   refine ⟨_, _, qch rfl (x := (Qol t3).toD) ?_, ?_, rfl⟩
   ·rw [Qol, if_pos hr]
    show D.agg [.int .i64 0, .int .i64 0, .sl (((t3.threads.map qao.toD).drop 0).take t3.threads.length), .sl (((t3.slices.map qah.toD).drop 0).take t3.slices.length), .sl (t3.states.map qa0.toD), .sl (t3.flows.map qbu.toD), .sl (((t3.samples.map qan.toD).drop 0).take t3.samples.length), .sl (((t3.steps.map qbc.toD).drop 0).take t3.steps.length), .sl (((t3.blocks.map qar.toD).drop 0).take t3.blocks.length), .sl (t3.lost.map qcd.toD)] = _
    rw [List.drop_zero, qa6, List.drop_zero, qa6, List.drop_zero, qa6, List.drop_zero, qa6, List.drop_zero, qa6]; rfl
   ·rw [e0]
  ·have hr : ¬ Qci t3 = 0 := by simp only [beq_eq_false_iff_ne, ne_eq] at hc; unfold Qci; omega
   refine ⟨_, _, qch rfl (x := (Qol t3).toD) ?_, ?_, rfl⟩
   ·rw [Qol, if_neg hr]
    show D.agg [.int .i64 t3.lo, .int .i64 t3.hi, .sl (((t3.threads.map qao.toD).drop 0).take t3.threads.length), .sl (((t3.slices.map qah.toD).drop 0).take t3.slices.length), .sl (t3.states.map qa0.toD), .sl (t3.flows.map qbu.toD), .sl (((t3.samples.map qan.toD).drop 0).take t3.samples.length), .sl (((t3.steps.map qbc.toD).drop 0).take t3.steps.length), .sl (((t3.blocks.map qar.toD).drop 0).take t3.blocks.length), .sl (t3.lost.map qcd.toD)] = _
    rw [List.drop_zero, qa6, List.drop_zero, qa6, List.drop_zero, qa6, List.drop_zero, qa6, List.drop_zero, qa6]; rfl
   ·rw [e0]











theorem Qdh {P : Program} {f : FuncId} {args : List AV} {σ : Sto} {R R' : AV → Sto → Prop} (h : qag P Gl f args σ R) (hw : ∀ r s, R r s → ∃ r' s', qcn σ.length r s r' s' ∧ R' r' s') : qag P Gl f args σ R' :=
 fun w I μ vals h1 h2 h3 h4 => (h w I μ vals h1 h2 h3 h4).mono fun v w' q => by
  obtain ⟨r, s, I', μ', q1, q2, q3, q4⟩ := q
  obtain ⟨r', s', g1, g2⟩ := hw r s q4
  obtain ⟨I2, μ2, k1, k2, k3⟩ := g1 w' I' μ' v q1 q3 q2.len
  exact ⟨r', s', I2, μ2, k1, q2.trans k3, k2, g2⟩
def Qm5 (a b c d : Option D) (n : List UInt8) : Option D := if n = qav then a else if n = qa8 then b else if n = qbd then c else if n = qaw then d else none
def q4v (p : Bool) (s : List (List UInt8)) : Option D := if p = true then some (.sl (s.map .str)) else none
def gN (t : qa5) : List UInt8 → Option D := Qm5 (q4v (decide (0 < t.threads.length)) (t.threads.map (·.name))) (q4v (decide (0 < t.slices.length)) (t.slices.map (·.name))) (q4v (decide (0 < t.samples.length + t.blocks.length)) (frN t)) (q4v (decide (0 < t.steps.length)) (t.steps.map (·.name)))
def kN (t : qa5) : Key → Option AV := qb2 ((q4v (decide (0 < t.threads.length)) (t.threads.map (·.name))).map .d) ((q4v (decide (0 < t.slices.length)) (t.slices.map (·.name))).map .d) ((q4v (decide (0 < t.samples.length + t.blocks.length)) (frN t)).map .d) ((q4v (decide (0 < t.steps.length)) (t.steps.map (·.name))).map .d)
theorem Qsn (t : qa5) (n : List UInt8) : kN t (.s n) = (gN t n).map AV.d := by
 unfold kN gN Qm5
 simp only [qb2]
 repeat' split
 all_goals rfl
theorem q87 (t : qa5) : ∀ k v, kN t k = some v → ∃ d, v = AV.d d := by
 intro k v hv
 cases k with
 | i n => cases hv
 | s n =>
  rw [Qsn] at hv
  cases hg : gN t n with
  | none => rw [hg] at hv; cases hv
  | some d => rw [hg] at hv; cases hv; exact ⟨d, rfl⟩
theorem q6u : ∀ {a b : List (List UInt8)}, a.map D.str = b.map D.str → a = b := by
 intro a
 induction a with
 | nil => intro b h; cases b with | nil => rfl | cons _ _ => simp at h
 | cons x a ih => intro b h; cases b with
  | nil => simp at h
  | cons y b => simp only [List.map_cons, List.cons.injEq, D.str.injEq] at h; rw [h.1, ih h.2]
theorem Qin (t : qa5) (ht : t.lim) (hs : t.limS) : qag Tryz.prog Gl 44 [.d t.toD] [] (fun r s => r = .mapr 0 ∧ s = [.map none (kN t)]) := by
 refine Qdh (Qip t ht hs) fun r s hr => ?_
 obtain ⟨rfl, rfl⟩ := hr
 refine ⟨.mapr 0, [.map none (kN t)], ?_, rfl, rfl⟩
 obtain ⟨b1, hb1⟩ : ∃ b, b = decide (0 < t.threads.length) := ⟨_, rfl⟩
 obtain ⟨b2, hb2⟩ : ∃ b, b = decide (0 < t.slices.length) := ⟨_, rfl⟩
 obtain ⟨b3, hb3⟩ : ∃ b, b = decide (0 < t.samples.length + t.blocks.length) := ⟨_, rfl⟩
 obtain ⟨b4, hb4⟩ : ∃ b, b = decide (0 < t.steps.length) := ⟨_, rfl⟩
 unfold kN
 rw [← hb1, ← hb2, ← hb3, ← hb4]
 refine (Qhh (Qb6 0 [1, 2, 3, 4] rfl (by simp) ?_ ?_)).trans ?_
 ·intro k v hv
  cases k with
  | i n => cases hv
  | s n =>
   simp only [qb2] at hv
   have fin : ∀ (p : Bool) (i n : Nat) (σ : Sto), (qaa σ i).isArr = true → i ∈ [1, 2, 3, 4] → val p i n = some v → v.isD σ = true ∧ ∀ j ∈ v.refs, j ∈ [1, 2, 3, 4] := fun p i n σ ha hi hv => by
    cases p with
    | false => cases hv
    | true =>
     cases hv
     refine ⟨ha, fun j hj => ?_⟩
     simp only [AV.refs, q4n, List.mem_singleton] at hj
     rw [hj]; exact hi
   split at hv
   ·exact fin _ _ _ _ rfl (by decide) hv
   split at hv
   ·exact fin _ _ _ _ rfl (by decide) hv
   split at hv
   ·exact fin _ _ _ _ rfl (by decide) hv
   split at hv
   ·exact fin _ _ _ _ rfl (by decide) hv
   ·cases hv
 ·intro i hi
  simp only [List.mem_cons, List.not_mem_nil, or_false] at hi
  rcases hi with rfl | rfl | rfl | rfl <;> rfl
 ·rw [qec]
  refine qae [] [0] rfl (by simp) rfl ?_
  have e : ∀ (p : Bool) (i : Nat) (xs : List (List UInt8)) (n : Nat) (σ : Sto), n = xs.length → (qaa σ i).xs = xs.map .str → (val p i n).map (fun v => AV.d (v.toD σ)) = (q4v p xs).map .d := fun p i xs n σ hn hx => by
   cases p with
   | false => rfl
   | true =>
    show some (AV.d (.sl (((qaa σ i).xs.drop 0).take n))) = some (AV.d (.sl (xs.map .str)))
    rw [hx, List.drop_zero, List.take_of_length_le (by simp [hn])]
  show [qbv _ _ (.map none (qb2 _ _ _ _))] = _
  rw [e b1 1 (t.threads.map (·.name)) _ _ (by simp) rfl, e b2 2 (t.slices.map (·.name)) _ _ (by simp) rfl, e b3 3 (frN t) _ _ rfl rfl, e b4 4 (t.steps.map (·.name)) _ _ (by simp) rfl]
  refine congrArg (fun x => [x]) (qgf (B := .map none _) (fun k v hv => ?_) _ _)
  cases k with
  | i n => cases hv
  | s n =>
   simp only [qb2] at hv
   have fin : ∀ (o : Option D), o.map AV.d = some v → ∃ d, v = .d d := fun o ho => by
    cases o with
    | none => cases ho
    | some d => cases ho; exact ⟨d, rfl⟩
   split at hv
   ·exact fin _ hv
   split at hv
   ·exact fin _ hv
   split at hv
   ·exact fin _ hv
   split at hv
   ·exact fin _ hv
   ·cases hv
def okN (l : List qap) (what x : List UInt8) : Bool := qj9 x || (qt4 what x l == qht)
def qtq (l : List qap) (t : qa5) : Bool := (t.threads.map (·.name)).all (okN l qav) && (t.slices.map (·.name)).all (okN l qa8) && (frN t).all (okN l qbd) && (t.steps.map (·.name)).all (okN l qaw)
def Qqx (l : List qap) (t : qa5) (what : List UInt8) : Prop := ∀ xs : List (List UInt8), gN t what = some (.sl (xs.map .str)) → xs.all (okN l what) = true
theorem Qfp (t : qa5) {what : List UInt8} {x : D} (h : gN t what = some x) : ∃ xs : List (List UInt8), x = .sl (xs.map .str) ∧ (what = qav ∧ xs = t.threads.map (·.name) ∨ what = qa8 ∧ xs = t.slices.map (·.name) ∨ what = qbd ∧ xs = frN t ∨ what = qaw ∧ xs = t.steps.map (·.name)) := by
 have fin : ∀ (p : Bool) (s : List (List UInt8)), q4v p s = some x → x = .sl (s.map .str) := fun p s ho => by
  cases p with
  | false => cases ho
  | true => cases ho; rfl
 unfold gN Qm5 at h
 split at h
 ·rename_i e; exact ⟨_, fin _ _ h, .inl ⟨e, rfl⟩⟩
 split at h
 ·rename_i e; exact ⟨_, fin _ _ h, .inr (.inl ⟨e, rfl⟩)⟩
 split at h
 ·rename_i e; exact ⟨_, fin _ _ h, .inr (.inr (.inl ⟨e, rfl⟩))⟩
 split at h
 ·rename_i e; exact ⟨_, fin _ _ h, .inr (.inr (.inr ⟨e, rfl⟩))⟩
 ·cases h
theorem Qsv (t : qa5) : gN t qav = q4v (decide (0 < t.threads.length)) (t.threads.map (·.name)) := rfl
theorem Qsu (t : qa5) : gN t qa8 = q4v (decide (0 < t.slices.length)) (t.slices.map (·.name)) := rfl
theorem Qst (t : qa5) : gN t qbd = q4v (decide (0 < t.samples.length + t.blocks.length)) (frN t) := rfl
theorem Qss (t : qa5) : gN t qaw = q4v (decide (0 < t.steps.length)) (t.steps.map (·.name)) := rfl
theorem Qjj {l : List qap} {t : qa5} (h : ∀ what x, gN t what = some x → Qqx l t what) : qtq l t = true := by
 have fin : ∀ (what : List UInt8) (p : Bool) (s : List (List UInt8)), gN t what = q4v p s → (p = false → s = []) → s.all (okN l what) = true := fun what p s hg hp => by
  cases p with
  | false => rw [hp rfl]; rfl
  | true => exact h what (.sl (s.map .str)) hg s hg
 rw [qtq, fin _ _ _ (Qsv t) (fun h => qmn _ h), fin _ _ _ (Qsu t) (fun h => qmn _ h), fin _ _ _ (Qst t) (fun h => Qfr h), fin _ _ _ (Qss t) (fun h => qmn _ h)]
 rfl
theorem Qr1 {p : List UInt8 → Bool} {xs : List (List UInt8)} {k : Nat} (h : k < xs.length) (hp : p (xs.getD k default) = false) : xs.all p = false := by
 rw [Bool.eq_false_iff]
 intro ha
 have := (List.all_eq_true.1 ha) (xs.getD k default) (qde h)
 rw [hp] at this; cases this
theorem Qn2 {l : List qap} {t : qa5} {what : List UInt8} {xs : List (List UInt8)} (h : what = qav ∧ xs = t.threads.map (·.name) ∨ what = qa8 ∧ xs = t.slices.map (·.name) ∨ what = qbd ∧ xs = frN t ∨ what = qaw ∧ xs = t.steps.map (·.name)) (ha : xs.all (okN l what) = false) : qtq l t = false := by
 rcases h with ⟨rfl, rfl⟩ | ⟨rfl, rfl⟩ | ⟨rfl, rfl⟩ | ⟨rfl, rfl⟩ <;> simp [qtq, ha]
def Qsk (t : qa5) : Prop := ∀ (what : List UInt8) (xs : List (List UInt8)), gN t what = some (.sl (xs.map .str)) → xs.length < 1000000 ∧ ∀ x ∈ xs, x.length < 9223372036854775808
theorem Qe5 (l : List qap) (t : qa5) (hl : l.length < 1000000) (ht : t.lim) (hs : t.limS) (hn : Qsk t) : qbg Tryz.prog Gl 23 [.d (.sl (l.map qap.toD)), .d t.toD] (.d (.bool (qtq l t))) := by
 refine qbg.of2 ?_
 refine qac Tryz.func23 rfl rfl (by simp [Tryz.ntmps23]) (AWp.seq (qab rfl _ _ _ _ ?_))
 simp only [Tryz.ntmps23, Tryz.results23, qaj, List.length_nil]
 simp only [zU, seval]
 refine AWp.seq (Qbo (tM := 10) (tI := 11) (tN := 12) (tB := 13) (tE := 14) (t := 77) (e := 28) ?_ ?_ ?_ ?_ ?_ ?_ ?_ ?_ ?_ (show 11 < 34 by decide) (show 12 < 34 by decide) (show 14 < 34 by decide) (by kernel_rfl) ?_)
 rotate_left 9
 ·obtain ⟨L, hL⟩ : ∃ L, L = D.sl (l.map qap.toD) := ⟨_, rfl⟩
  refine qco (K1 := fun e1 s1 => qhm 34 0 e1 s1 [(0, .d (.sl (l.map qap.toD))), (10, .mapr 0)] [.map none (kN t)]) (fun e1 s1 hw => ⟨_, _, 0, kN t, gN t, [(0, .d (.sl (l.map qap.toD))), (11, .ptr 1 0)], [.dead, .frz 0 []], Qqx l t, hw, rfl, rfl, Qsn t, ?wk, rfl, rfl, fun b => ?nx, fun what x hx => ?bd, fun hall => ?en⟩) _ _ _ ?op
  case wk =>
   refine qad [] [0, 1] rfl (by simp) ?_ rfl
   simp only [zU, seval, List.length_cons, List.length_nil]
   try rfl
  case nx =>
   refine qco (K1 := fun e1 s1 => e1 = putE (putE [(0, .d (.sl (l.map qap.toD))), (11, .ptr 1 0)] (some 12) (if b = true then .tup [.d (.bool true), .undef, .undef] else .tup [.d (.bool false)])) (some 13) (.d (.bool b)) ∧ s1 = [.dead, .frz 0 []]) (fun e1 s1 hw => ?_) _ _ _ ?_
   ·obtain ⟨rfl, rfl⟩ := hw
    refine ⟨rfl, ?_⟩
    refine qad [] [0, 1] rfl (by simp) ?_ rfl
    cases b <;> rfl
   ·cases b
    ·simp only [zU, seval]
    ·simp only [zU, seval]
  case bd =>
   obtain ⟨xs, rfl, hcase⟩ := Qfp t hx
   obtain ⟨hn1, hn2⟩ := hn what xs hx
   refine qco (K1 := fun e1 s1 => qhm 34 2 e1 s1 [(0, .d (.sl (l.map qap.toD))), (5, .d (.str what)), (6, .d (.sl (xs.map .str))), (11, .ptr 1 0)] [.dead, .frz 0 []]) (fun e1 s1 hw => ?_) _ _ _ ?_
   ·refine AWp.weak hw (qab rfl _ _ _ _ ?_)
    simp only [zU, seval]
    refine qa4 xs.length (fun k => [(0, .d (.sl (l.map qap.toD))), (5, .d (.str what)), (11, .ptr 1 0), (17, .d (.sl (xs.map .str))), (18, .d (.int .i64 xs.length)), (19, .d (.int .i64 k))]) (fun _ => [.dead, .frz 0 []]) (fun k => (xs.take k).all (okN l what) = true) rfl ?_ ?_
    ·refine qad [] [0, 1] rfl (by simp) ?_ rfl
     simp only [zU, seval]
     all_goals rfl
    ·intro k hi hk
     by_cases h : k < xs.length
     ·have hxk := hn2 (xs.getD k default) (qde h)
      simp only [zU, seval, (show (k:Int) < xs.length by omega), h, qas _ _ _ (show k < xs.length by omega)]
      repeat ((with_reducible refine And.intro ?_ ?_); (focus (first | omega | (simp only [qax]; omega) | (refine qq ?_; rfl) | (refine dq ?_; kernel_rfl) | (intros; simp_all; done))))
      refine qaf (Qa1 _ hxk) ?_
      simp only [zU, seval]
      repeat ((with_reducible refine And.intro ?_ ?_); (focus (first | omega | (simp only [qax]; omega) | (refine qq ?_; rfl) | (refine dq ?_; kernel_rfl) | (intros; simp_all; done))))
      refine qbq (fun _ => qf0 l what _ hl) ?_
      simp only [zU, seval]
      repeat ((with_reducible refine And.intro ?_ ?_); (focus (first | omega | (simp only [qax]; omega) | (refine qq ?_; rfl) | (refine dq ?_; kernel_rfl) | (intros; simp_all; done))))
      have hstep : (xs.take (k + 1)).all (okN l what) = okN l what (xs.getD k default) := by rw [qay xs k h, List.all_append, hi]; simp
      refine ifC.mk (fun hc => ?_) (fun hc => ?_)
      ·have hc : okN l what (xs.getD k default) = false := by
        unfold okN
        cases e1 : qj9 (xs.getD k default) <;> simp_all [qht]
       refine ⟨_, _, qau, ?_, rfl⟩
       rw [Qn2 hcase (Qr1 h hc)]
      ·have hc : okN l what (xs.getD k default) = true := by
        unfold okN
        cases e1 : qj9 (xs.getD k default) <;> simp_all [qht]
       refine ⟨by rw [hstep]; exact hc, ?_⟩
       refine qad [] [0, 1] rfl (by simp) ?_ rfl
       simp only [zU, seval, @qai ((k:Int) + 1) (by omega)]
       all_goals rfl
     ·have : k = xs.length := by omega
      subst this
      rw [List.take_length] at hi
      simp only [zU, seval, (show ¬ (xs.length:Int) < xs.length by omega)]
      refine ⟨fun ys hy => ?_, ?_⟩
      ·have e := D.sl.inj (Option.some.inj (hx.symm.trans hy))
       rw [← q6u e]; exact hi
      ·refine qad [] [0, 1] rfl (by simp) ?_ rfl
       simp only [zU, seval]
       all_goals rfl
   ·simp only [zU, seval]
    refine qad [] [0, 1] rfl (by simp) ?_ rfl
    simp only [zU, seval]
    all_goals rfl
  case en =>
   show AWp _ _ _ _ _ _ _ _
   refine qab rfl _ _ _ _ ?_
   simp only [zU, seval]
   refine ⟨_, _, qau, ?_, rfl⟩
   rw [Qjj hall]
  case op =>
   simp only [zU, seval]
   refine qbz (R := fun r ν => r = .mapr 0 ∧ ν = [.map none (kN t)]) [] [] (by simp) (by simp) rfl rfl (fun j i h => by simp at h) ((Qin t ht hs).mono fun r s hr => ⟨s, by rw [List.nil_append], hr.1, hr.2⟩) (fun r ν hr => ?_)
   obtain ⟨rfl, rfl⟩ := hr
   rw [show ([.map none (kN t)] : Sto).map (qc5 (qb1 [] ([Blk.box 10 (.d t.toD)] : Sto).length)) = [.map none (kN t)] from congrArg (fun x => [x]) (qgg (B := .map none (kN t)) (q87 t) _)]
   simp only [zU, seval]
   refine qad [] [1] rfl (by simp) ?_ ?_
   ·simp only [zU, seval]
    try rfl
   ·exact congrArg (fun x => [x]) (qgf (B := .map none (kN t)) (q87 t) _ _)
 all_goals rfl

def Qq8 (t : qa5) : Nat → List (List UInt8)
 | 0 => t.threads.map (·.name)
 | 1 => t.slices.map (·.name)
 | 2 => frN t
 | _ => t.steps.map (·.name)
def Qrj (t : qa5) : Prop := ∀ k, k < 4 → (Qq8 t k).length < 1000000 ∧ ∀ x ∈ Qq8 t k, x.length < 9223372036854775808
theorem Qd6 {t : qa5} (h : Qrj t) : Qsk t := fun what xs hg => by
 obtain ⟨ys, e, hc⟩ := Qfp t hg
 have e2 : xs = ys := q6u (D.sl.inj e)
 subst e2
 rcases hc with ⟨_, rfl⟩ | ⟨_, rfl⟩ | ⟨_, rfl⟩ | ⟨_, rfl⟩
 ·exact h 0 (by omega)
 ·exact h 1 (by omega)
 ·exact h 2 (by omega)
 ·exact h 3 (by omega)

end YtljpopkonkanlaaGreatDoor
end Go.Proofs

set_option maxRecDepth 100000
namespace Go.Proofs
open Go.AM
namespace YtljpopkonkanlaaGreatDoor
end YtljpopkonkanlaaGreatDoor
end Go.Proofs

set_option maxRecDepth 100000
namespace Go.Proofs
open Go.AM
namespace YtljpopkonkanlaaGreatDoor
variable {Gl : qa7}
def exA : qa5 := ⟨0, 10, [⟨1, [109, 97, 105, 110], 0⟩], [⟨1, -1, 0, [97], 0, 10, 4, false⟩, ⟨1, 0, 1, [98], 2, 8, 4, false⟩, ⟨1, 1, 2, [99], 3, 5, 2, false⟩], [⟨1, 5, 0, 10, -1, -1, -1⟩], [], [], [], [], []⟩
def exL : List qap := [⟨qbd, [119], Qae⟩, ⟨qa8, [98], qqf⟩]
def exN : List (List UInt8) := [[119, 114, 105, 116, 101, 114], [109, 97, 105, 110], [119, 111, 114, 107, 101, 114], [119, 114, 105, 116, 101, 114]]
def exW : List (List UInt8) := [[104, 105, 100, 100, 101, 110, 45, 49], [109, 97, 105, 110], [104, 105, 100, 100, 101, 110, 45, 50], [104, 105, 100, 100, 101, 110, 45, 49]]
def exS : qah := ⟨1, 0, 1, [99], 3, 5, 2, false⟩
theorem Qnt : exA.Few := by constructor <;> first | decide | (intro x hx; cases hx)
theorem Qf4 : exA.lim := by refine ⟨?_, ?_, ?_, ?_, ?_, ?_, ?_, ?_⟩ <;> decide
theorem q9n : exA.limS := ⟨fun x hx => (by cases hx), fun x hx => (by cases hx)⟩
theorem Qjg : qgp exA.slices := by
 intro i hi
 match i, hi with
 | 0, _ => decide
 | 1, _ => decide
 | 2, _ => decide
theorem Qf3 : q2x exL qbd exN = exW := by decide +kernel
theorem Qje : qz7 exL qbd exN = 0 := by decide +kernel
theorem Qnu : (qua exL exA).2 = 0 := by decide +kernel
theorem Qf2 : (qua exL exA).1.slices = [⟨1, -1, 0, [97], 0, 10, 8, false⟩, exS] := by decide +kernel
theorem Ql3 : (qua exL exA).1.threads = [⟨1, [109, 97, 105, 110], 0⟩] := by decide +kernel
theorem Qq0 : frN (qua exL exA).1 = [] := by decide +kernel
theorem Ql5 : (qua exL exA).1.samples = [] := by decide +kernel
theorem Ql6 : (qua exL exA).1.blocks = [] := by decide +kernel
theorem Ql4 : (qua exL exA).1.steps = [] := by decide +kernel
theorem Qjd : (qua exL exA).1.states.length ≤ 1000 ∧ (qua exL exA).1.flows.length ≤ 1000 ∧ (qua exL exA).1.lost.length ≤ 1000 := by decide +kernel
theorem Qnw : qtq exL (qua exL exA).1 = true := by decide +kernel
theorem Qnv : qtq exL exA = false := by decide +kernel
theorem Qq2 : qt4 qa8 [98, 99] exL = qqf := by decide +kernel
theorem Qq1 : qt4 qa8 [97] exL = qht := by decide +kernel
theorem Qnx : qkf exL = 0 := by decide +kernel
theorem Qns : (qua exL exA).1.lim := by
 obtain ⟨h1, h2, h3⟩ := Qjd
 unfold qa5.lim
 rw [Ql3, Qf2, Ql5, Ql6, Ql4]
 exact ⟨by decide, by decide, h1, h2, by decide, by decide, by decide, h3⟩
theorem Qjb : (qua exL exA).1.limS := by
 unfold qa5.limS
 rw [Ql5, Ql6]
 exact ⟨fun x hx => (by cases hx), fun x hx => (by cases hx)⟩
theorem Qd7 {t : qa5} {A B C E : List (List UInt8)} (h1 : t.threads.map (·.name) = A) (h2 : t.slices.map (·.name) = B) (h3 : frN t = C) (h4 : t.steps.map (·.name) = E)
  (h : (A.length < 1000000 ∧ B.length < 1000000 ∧ C.length < 1000000 ∧ E.length < 1000000) ∧ ([A, B, C, E].all fun s => s.all fun x => decide (x.length < 9223372036854775808)) = true) : Qrj t := fun k hk => by
 obtain ⟨⟨a1, a2, a3, a4⟩, ha⟩ := h
 simp only [List.all_cons, List.all_nil, Bool.and_true, Bool.and_eq_true, List.all_eq_true, decide_eq_true_eq] at ha
 obtain ⟨b1, b2, b3, b4⟩ := ha
 match k, hk with
 | 0, _ => show (t.threads.map (·.name)).length < _ ∧ _; rw [h1]; exact ⟨a1, fun x hx => b1 x (by rw [← h1]; exact hx)⟩
 | 1, _ => show (t.slices.map (·.name)).length < _ ∧ _; rw [h2]; exact ⟨a2, fun x hx => b2 x (by rw [← h2]; exact hx)⟩
 | 2, _ => show (frN t).length < _ ∧ _; rw [h3]; exact ⟨a3, fun x hx => b3 x (by rw [← h3]; exact hx)⟩
 | 3, _ => show (t.steps.map (·.name)).length < _ ∧ _; rw [h4]; exact ⟨a4, fun x hx => b4 x (by rw [← h4]; exact hx)⟩
theorem Qjc : Qrj (qua exL exA).1 := Qd7 (A := [[109, 97, 105, 110]]) (B := [[97], [99]]) (C := []) (E := []) (by rw [Ql3]; rfl) (by rw [Qf2]; rfl) Qq0 (by rw [Ql4]; rfl) (by decide)
theorem Qjf : Qrj exA := Qd7 (A := [[109, 97, 105, 110]]) (B := [[97], [98], [99]]) (C := []) (E := []) rfl rfl rfl rfl (by decide)
theorem q3j : qbg Tryz.prog Gl 29 [] (.d exA.toD) := by
 refine qbg.of0 ?_
 refine qac Tryz.func29 rfl rfl (by simp [Tryz.ntmps29]) (qab rfl _ _ _ _ ?_)
 simp only [Tryz.ntmps29, Tryz.results29, qaj, List.length_nil]
 simp only [zU, seval]
 repeat ((with_reducible refine And.intro ?_ ?_); (focus (first | omega | (simp only [qax]; omega) | (refine qq ?_; rfl) | (refine dq ?_; kernel_rfl) | (intros; simp_all; done))))
 refine ⟨_, _, qy5 rfl ?_, rfl, rfl⟩
 rfl
theorem Qir (a b : List (List UInt8)) (n : Nat) (hb : b.length = n) (ha : a.length < 1000000) (hn : n < 1000000) (B : Blk) (hB : qdo 1 (b.map .str) B) : qag Tryz.prog Gl 17 [.d (.sl (a.map .str)), .osl 0 0 n] [B] (fun r s => r = .d (.bool (a == b)) ∧ s = [B]) := by
 rcases hB with rfl | rfl
 ·refine qac Tryz.func17 rfl rfl (by simp [Tryz.ntmps17]) (qab rfl _ _ _ _ ?_)
  simp only [Tryz.ntmps17, Tryz.results17, qaj, List.length_nil]
  simp only [zU, seval]
  (try simp only [zU, seval, hb])
  repeat ((with_reducible refine And.intro ?_ ?_); (focus (first | omega | (simp only [qax]; omega) | (refine qq ?_; rfl) | (refine dq ?_; kernel_rfl) | (intros; simp_all; done))))
  refine ifC.mk (fun h0 => ?_) (fun h0 => ?_)
  ·have h0 : ¬ a.length = b.length := by simp at h0; omega
   refine ⟨_, _, qae [] [0] rfl (by simp) (show qbf _ _ _ = AV.d _ from rfl) rfl, ?_, rfl⟩
   have : (a == b) = false := by
    rw [Bool.eq_false_iff]; intro h; exact h0 (congrArg List.length (by simpa using h))
   rw [this]
  ·have h0 : a.length = b.length := by simp at h0; omega
   refine qa4 a.length (fun k => [(0, .d (.sl (a.map .str))), (1, .osl 0 0 n), (5, .d (.int .i64 k))]) (fun _ => [.arr 1 (b.map .str)]) (fun k => a.take k = b.take k) rfl ?_ ?_
   ·refine qad [] [0] rfl (by simp) ?_ rfl
    simp only [zU, seval]
    all_goals rfl
   ·intro k hi hk
    by_cases h : k < a.length
    ·have hb2 : k < b.length := by omega
     have hb3 : k < n := by omega
     simp only [zU, seval, (show (k:Int) < a.length by omega), (show (k:Int) < n by omega), h, hb2, hb3, qas _ _ _ (show k < a.length by omega), qas _ _ _ (show k < b.length by omega)]
     repeat ((with_reducible refine And.intro ?_ ?_); (focus (first | omega | (simp only [qax]; omega) | (refine qq ?_; rfl) | (refine dq ?_; kernel_rfl) | (intros; simp_all; done))))
     refine ifC.mk (fun hc => ?_) (fun hc => ?_)
     ·have hc : ¬ a.getD k default = b.getD k default := by simpa using hc
      refine ⟨_, _, qae [] [0] rfl (by simp) (show qbf _ _ _ = AV.d _ from rfl) rfl, ?_, rfl⟩
      have : (a == b) = false := by
       rw [Bool.eq_false_iff]; intro h; exact hc (by rw [show a = b by simpa using h])
      rw [this]
     ·have hc : a.getD k default = b.getD k default := by simpa using hc
      refine ⟨by rw [qay a k h, qay b k hb2, hi, hc], ?_⟩
      refine qad [] [0] rfl (by simp) ?_ rfl
      simp only [zU, seval, @qai ((k:Int) + 1) (by omega)]
      all_goals rfl
    ·simp only [zU, seval, (show ¬ (k:Int) < a.length by omega)]
     have : k = a.length := by omega
     subst this
     refine ⟨_, _, qae [] [0] rfl (by simp) (show qbf _ _ _ = AV.d _ from rfl) rfl, ?_, rfl⟩
     rw [List.take_length, h0, List.take_length] at hi
     rw [hi]; simp
 ·refine qac Tryz.func17 rfl rfl (by simp [Tryz.ntmps17]) (qab rfl _ _ _ _ ?_)
  simp only [Tryz.ntmps17, Tryz.results17, qaj, List.length_nil]
  simp only [zU, seval]
  (try simp only [zU, seval, hb])
  repeat ((with_reducible refine And.intro ?_ ?_); (focus (first | omega | (simp only [qax]; omega) | (refine qq ?_; rfl) | (refine dq ?_; kernel_rfl) | (intros; simp_all; done))))
  refine ifC.mk (fun h0 => ?_) (fun h0 => ?_)
  ·have h0 : ¬ a.length = b.length := by simp at h0; omega
   refine ⟨_, _, qae [] [0] rfl (by simp) (show qbf _ _ _ = AV.d _ from rfl) rfl, ?_, rfl⟩
   have : (a == b) = false := by
    rw [Bool.eq_false_iff]; intro h; exact h0 (congrArg List.length (by simpa using h))
   rw [this]
  ·have h0 : a.length = b.length := by simp at h0; omega
   refine qa4 a.length (fun k => [(0, .d (.sl (a.map .str))), (1, .osl 0 0 n), (5, .d (.int .i64 k))]) (fun _ => [.frz 1 (b.map .str)]) (fun k => a.take k = b.take k) rfl ?_ ?_
   ·refine qad [] [0] rfl (by simp) ?_ rfl
    simp only [zU, seval]
    all_goals rfl
   ·intro k hi hk
    by_cases h : k < a.length
    ·have hb2 : k < b.length := by omega
     have hb3 : k < n := by omega
     simp only [zU, seval, (show (k:Int) < a.length by omega), (show (k:Int) < n by omega), h, hb2, hb3, qas _ _ _ (show k < a.length by omega), qas _ _ _ (show k < b.length by omega)]
     repeat ((with_reducible refine And.intro ?_ ?_); (focus (first | omega | (simp only [qax]; omega) | (refine qq ?_; rfl) | (refine dq ?_; kernel_rfl) | (intros; simp_all; done))))
     refine ifC.mk (fun hc => ?_) (fun hc => ?_)
     ·have hc : ¬ a.getD k default = b.getD k default := by simpa using hc
      refine ⟨_, _, qae [] [0] rfl (by simp) (show qbf _ _ _ = AV.d _ from rfl) rfl, ?_, rfl⟩
      have : (a == b) = false := by
       rw [Bool.eq_false_iff]; intro h; exact hc (by rw [show a = b by simpa using h])
      rw [this]
     ·have hc : a.getD k default = b.getD k default := by simpa using hc
      refine ⟨by rw [qay a k h, qay b k hb2, hi, hc], ?_⟩
      refine qad [] [0] rfl (by simp) ?_ rfl
      simp only [zU, seval, @qai ((k:Int) + 1) (by omega)]
      all_goals rfl
    ·simp only [zU, seval, (show ¬ (k:Int) < a.length by omega)]
     have : k = a.length := by omega
     subst this
     refine ⟨_, _, qae [] [0] rfl (by simp) (show qbf _ _ _ = AV.d _ from rfl) rfl, ?_, rfl⟩
     rw [List.take_length, h0, List.take_length] at hi
     rw [hi]; simp
end YtljpopkonkanlaaGreatDoor
end Go.Proofs

set_option maxRecDepth 100000
namespace Go.Proofs
open Go.AM
namespace YtljpopkonkanlaaGreatDoor
theorem Qqj (a b : qah) : qho Tryz.prog 57 .eql (.d a.toD) (.d b.toD) = True := eq_true (by
 refine (show True ∧ (match qyz Tryz.prog 57 with | some l => qmc l _ _ = true | none => False) from ⟨trivial, ?_⟩)
 rw [Qox]; rfl)
theorem Qel : qbg Tryz.prog G2 10 [] (.d (.bool true)) := by
 refine qbg.of0 ?_
 refine qac Tryz.func10 rfl rfl (by simp [Tryz.ntmps10]) (qab rfl _ _ _ _ ?_)
 simp only [Tryz.ntmps10, Tryz.results10, qaj, List.length_nil]
 simp only [zU, seval]
 repeat ((with_reducible refine And.intro ?_ ?_); (focus (first | omega | (simp only [qax]; omega) | (refine qq ?_; rfl) | (refine dq ?_; kernel_rfl) | (intros; simp_all; done))))
 refine qtv (σ' := [.frz 3 (exL.map qap.toD), .frz 1 (exN.map .str)]) (Qe4 exL qbd exN (by decide) (by decide)) rfl rfl ?_
 rw [Qf3, Qje]
 simp only [zU, seval]
 repeat ((with_reducible refine And.intro ?_ ?_); (focus (first | omega | (simp only [qax]; omega) | (refine qq ?_; rfl) | (refine dq ?_; kernel_rfl) | (intros; simp_all; done))))
 refine qaf q3j ?_
 simp only [zU, seval]
 refine qtv (σ' := [.frz 3 (exL.map qap.toD), .frz 1 (exN.map .str)]) (Qnh exL exA (by decide) Qnt Qf4 q9n (fun _ => Qjg) (fun _ => by decide)) rfl rfl ?_
 have hl := Qns
 have hls := Qjb
 have hla := Qjc
 have hsl := Qf2
 have hcl := Qnw
 rw [Qnu]
 obtain ⟨R, hR⟩ : ∃ R, R = (qua exL exA).1 := ⟨_, rfl⟩
 rw [← hR] at hl hls hla hsl hcl ⊢
 clear hR
 have hsn : R.slices.length = 2 := by rw [hsl]; rfl
 have hs0 : (R.slices.map qah.toD).getD 0 default = (⟨1, -1, 0, [97], 0, 10, 8, false⟩ : qah).toD := by rw [hsl]; rfl
 have hs1 : (R.slices.map qah.toD).getD 1 default = (.agg [.int .i64 1, .int .i64 0, .int .i64 1, .str [99], .int .i64 3, .int .i64 5, .int .i64 2, .bool false]) := by rw [hsl]; rfl
 simp only [zU, seval, hsn, hs0, hs1]
 repeat ((with_reducible refine And.intro ?_ ?_); (focus (first | omega | (simp only [qax]; omega) | (refine qq ?_; rfl) | (refine dq ?_; kernel_rfl) | (intros; simp_all; done))))
 refine q34 (v := .bool (exW == exW)) 3 (fun B hB => Qir exW exW 4 rfl (by decide) (by decide) B hB) (fun s => rfl) rfl ?_
 have q1 : qex Tryz.prog 57 .eql (.agg [.int .i64 1, .int .i64 0, .int .i64 1, .str [99], .int .i64 3, .int .i64 5, .int .i64 2, .bool false]) (.agg [.int .i64 1, .int .i64 0, .int .i64 1, .str [99], .int .i64 3, .int .i64 5, .int .i64 2, .bool false]) = True := Qqj exS exS
 have q2 : qmd .eql (.agg [.int .i64 1, .int .i64 0, .int .i64 1, .str [99], .int .i64 3, .int .i64 5, .int .i64 2, .bool false]) (.agg [.int .i64 1, .int .i64 0, .int .i64 1, .str [99], .int .i64 3, .int .i64 5, .int .i64 2, .bool false]) = .bool true := rfl
 have hww : (exW == exW) = true := by decide
 rw [hww]
 simp only [zU, seval, hsn, hs0, hs1, q1, q2]
 repeat ((with_reducible refine And.intro ?_ ?_); (focus (first | omega | (simp only [qax]; omega) | (refine qq ?_; rfl) | (refine dq ?_; kernel_rfl) | (intros; simp_all; done))))
 refine ql3 (v := .d (.bool true)) (xs := [.sl (exL.map qap.toD), R.toD]) (fun _ => by rw [← hcl]; exact Qe5 exL R (by decide) hl hls (Qd6 hla)) (.cons (.osl (es := 3) (xs := exL.map qap.toD) rfl rfl) (.cons (.d _) .nil)) ?_
 simp only [zU, seval]
 repeat ((with_reducible refine And.intro ?_ ?_); (focus (first | omega | (simp only [qax]; omega) | (refine qq ?_; rfl) | (refine dq ?_; kernel_rfl) | (intros; simp_all; done))))
 refine qbq (v := .d exA.toD) (fun _ => q3j) ?_
 simp only [zU, seval]
 repeat ((with_reducible refine And.intro ?_ ?_); (focus (first | omega | (simp only [qax]; omega) | (refine qq ?_; rfl) | (refine dq ?_; kernel_rfl) | (intros; simp_all; done))))
 refine ql3 (v := .d (.bool false)) (xs := [.sl (exL.map qap.toD), exA.toD]) (fun _ => by rw [← Qnv]; exact Qe5 exL exA (by decide) Qf4 q9n (Qd6 Qjf)) (.cons (.osl (es := 3) (xs := exL.map qap.toD) rfl rfl) (.cons (.d _) .nil)) ?_
 simp only [zU, seval]
 repeat ((with_reducible refine And.intro ?_ ?_); (focus (first | omega | (simp only [qax]; omega) | (refine qq ?_; rfl) | (refine dq ?_; kernel_rfl) | (intros; simp_all; done))))
 refine ql3 (v := .d (.str qqf)) (xs := [.sl (exL.map qap.toD), .str qa8, .str [98, 99]]) (fun _ => by rw [← Qq2]; exact qf0 exL qa8 [98, 99] (by decide)) (.cons (.osl (es := 3) (xs := exL.map qap.toD) rfl rfl) (.cons (.d _) (.cons (.d _) .nil))) ?_
 simp only [zU, seval, qqf]
 repeat ((with_reducible refine And.intro ?_ ?_); (focus (first | omega | (simp only [qax]; omega) | (refine qq ?_; rfl) | (refine dq ?_; kernel_rfl) | (intros; simp_all; done))))
 refine ql3 (v := .d (.str qht)) (xs := [.sl (exL.map qap.toD), .str qa8, .str [97]]) (fun _ => by rw [← Qq1]; exact qf0 exL qa8 [97] (by decide)) (.cons (.osl (es := 3) (xs := exL.map qap.toD) rfl rfl) (.cons (.d _) (.cons (.d _) .nil))) ?_
 simp only [zU, seval, qht]
 repeat ((with_reducible refine And.intro ?_ ?_); (focus (first | omega | (simp only [qax]; omega) | (refine qq ?_; rfl) | (refine dq ?_; kernel_rfl) | (intros; simp_all; done))))
 refine ql3 (v := .d (.int .i64 0)) (xs := [.sl (exL.map qap.toD)]) (fun _ => by rw [← Qnx]; exact q5i exL (by decide)) (.cons (.osl (es := 3) (xs := exL.map qap.toD) rfl rfl) .nil) ?_
 simp only [zU, seval]
 repeat ((with_reducible refine And.intro ?_ ?_); (focus (first | omega | (simp only [qax]; omega) | (refine qq ?_; rfl) | (refine dq ?_; kernel_rfl) | (intros; simp_all; done))))
 exact ⟨_, _, qau, rfl, rfl⟩
end YtljpopkonkanlaaGreatDoor
end Go.Proofs

set_option maxRecDepth 100000
namespace Go.Proofs
open Go.AM Go.ChangeShapes Go.WideShapes Go.ChangeAt Go.RowKit
namespace YtljpopkonkanlaaGreatDoor
theorem own : ownKnob Tryz.prog.godebug = none := by kernel_rfl
theorem Qm6 : laidOutB Tryz.prog = true := by kernel_rfl
def q40 : List (String × DataW Unit) := [("math/bits.deBruijn32tab", Rows.laid_math_bits_deBruijn32tab), ("math/bits.deBruijn64tab", Rows.laid_math_bits_deBruijn64tab), ("internal/strconv.uint64pow10", Rows.laid_internal_strconv_uint64pow10), ("unicode/utf8.acceptRanges", Rows.laid_unicode_utf8_acceptRanges), ("unicode/utf8.first", Rows.laid_unicode_utf8_first)]
theorem Qig (os : Os) (args : Array Value) : laidMetH Tryz.prog q40 ((World.laidAll Tryz.prog os q40).forCall (fun _ _ => 0) ⟨#[], args, []⟩).memory := by
 rw [MakeChecks.laidMetH_plain _ _ _ (by kernel_rfl)]; exact laidMet_laidAll _ (by kernel_rfl) (by kernel_rfl)
theorem Qh1 : (Tryz.prog.globals[3]?).map (·.type) = some 217 := by kernel_rfl
theorem Qba {W : World} (h : laidMetH Tryz.prog q40 W) (I : Im) (hI : ∀ b, b < W.heap.size → I.rd b) : qe3 G2 W I := by
 rw [MakeChecks.laidMetH_plain _ _ _ (by kernel_rfl)] at h
 have h2 := (h.tail).tail
 have ht : Lib.TabIs Tryz.prog W "internal/strconv.uint64pow10" .u64 Lib.pow10Tab :=
  Lib.tabIs_of_head (n := 20) qpn Qh1 (by kernel_rfl) (e := 204) (by kernel_rfl) (by kernel_rfl) (by kernel_rfl) h2
 refine q5l ht qpn (hI _ ?_)
 have := ht
 unfold Lib.TabIs World.var? at this
 rw [qpn] at this
 simp only [Option.bind_some] at this
 split at this
 ·rename_i hh
  exact (Array.getElem?_eq_some_iff.1 hh).1
 ·cases this
theorem Qhj {xs : List D} (h : ∀ x ∈ xs, qke [.str] x.cells ∧ x.isAgg = false) : ∃ l : List (List UInt8), xs = l.map .str ∧ ∀ y ∈ l, y.length ≤ maxLen :=
 q83 fun x hx => by
  obtain ⟨s, hs, hl⟩ := Qlm (h x hx).1 (h x hx).2
  exact ⟨s, hs, hl⟩
theorem Qmt {x : D} (h : qke [.str, .str, .str] x.cells) (hg : x.isAgg = true) : ∃ b : qap, x = b.toD := by
 obtain ⟨_, _, e1, ⟨a0, rfl, _⟩, _, _, rfl, ⟨a1, rfl, _⟩, _, _, rfl, ⟨a2, rfl, _⟩, rfl⟩ := h
 exact ⟨⟨a0, a1, a2⟩, Qrb hg e1⟩
theorem Qh2 {x : D} (h : qt5 Tryz.prog 5 22 x) : ∃ l : List qap, x = .sl (l.map qap.toD) ∧ l.length ≤ maxLen := by
 obtain ⟨xs, rfl, hl, hx⟩ := qsm h (c := .sl [.str, .str, .str] true) (by kernel_rfl) (by kernel_rfl)
 obtain ⟨l, rfl⟩ := Qd5 fun y hy => Qmt (hx y hy).1 (hx y hy).2
 exact ⟨l, rfl, by simpa using hl⟩
theorem Qqf {x : D} (h : qt5 Tryz.prog 5 9 x) : ∃ s : List UInt8, x = .str s ∧ s.length ≤ maxLen := qsm h (c := .str) (by kernel_rfl) (by kernel_rfl)
theorem Qm1 {x : D} (h : qt5 Tryz.prog 5 28 x) : ∃ l : List (List UInt8), x = .sl (l.map .str) ∧ l.length ≤ maxLen ∧ ∀ y ∈ l, y.length ≤ maxLen := by
 obtain ⟨xs, rfl, hl, hx⟩ := qsm h (c := .sl [.str] false) (by kernel_rfl) (by kernel_rfl)
 obtain ⟨l, rfl, hb⟩ := Qhj hx
 exact ⟨l, rfl, by simpa using hl, hb⟩

theorem Qh8 (l : List qap) (what : List UInt8) (s : List (List UInt8)) : (q2x l what s).length ≤ s.length := by
 unfold q2x
 split
 ·exact q8w _ _ _ _
 ·exact Nat.zero_le _
theorem Qio (l : List qap) (what : List UInt8) (s : List (List UInt8)) (hl : l.length ≤ maxLen) (hs : s.length ≤ maxLen) : qbg Tryz.prog G2 4 [.d (.sl (l.map qap.toD)), .d (.str what), .d (.sl (s.map .str))] (.d (.bool true)) := by
 refine qbg.of3 ?_
 refine qac Tryz.func4 rfl rfl (by simp [Tryz.ntmps4]) (qab rfl _ _ _ _ ?_)
 simp only [Tryz.ntmps4, Tryz.results4, qaj, List.length_nil]
 simp only [zU, seval]
 repeat ((with_reducible refine And.intro ?_ ?_); (focus (first | omega | (simp only [qax]; omega) | (refine qq ?_; rfl) | (refine dq ?_; kernel_rfl) | (intros; simp_all; done))))
 refine ifC.mk (fun h0 => ?_) (fun h0 => ?_)
 ·refine qaf Qel ?_
  simp only [zU, seval]
  exact ⟨_, _, qau, rfl, rfl⟩
 have h0 : l.length ≤ 50 ∧ s.length ≤ 40 := by
  simp only [Bool.or_eq_false_iff, decide_eq_false_iff_not] at h0
  omega
 have hn := Qh8 l what s
 (try simp only [zU, seval])
 refine qaf (Qe4 l what s (by omega) (by omega)) ?_
 simp only [zU, seval]
 repeat ((with_reducible refine And.intro ?_ ?_); (focus (first | omega | (simp only [qax]; omega) | (refine qq ?_; rfl) | (refine dq ?_; kernel_rfl) | (intros; simp_all; done))))
 refine qaf (Qiz l what s (by omega) (by omega)) ?_
 simp only [zU, seval]
 repeat ((with_reducible refine And.intro ?_ ?_); (focus (first | omega | (simp only [qax]; omega) | (refine qq ?_; rfl) | (refine dq ?_; kernel_rfl) | (intros; simp_all; done))))
 refine qaf (Qnc (q2x l what s) (q2x l what s) (by omega) (by omega)) ?_
 simp only [zU, seval, beq_self_eq_true]
 repeat ((with_reducible refine And.intro ?_ ?_); (focus (first | omega | (simp only [qax]; omega) | (refine qq ?_; rfl) | (refine dq ?_; kernel_rfl) | (intros; simp_all; done))))
 refine qbq (fun _ => Qel) ?_
 simp only [zU, seval]
 repeat ((with_reducible refine And.intro ?_ ?_); (focus (first | omega | (simp only [qax]; omega) | (refine qq ?_; rfl) | (refine dq ?_; kernel_rfl) | (intros; simp_all; done))))
 exact ⟨_, _, qau, rfl, rfl⟩
theorem Qam (xs : List D) (h : qpw Tryz.prog 5 Tryz.f4.params.toList xs) : qag Tryz.prog G2 4 (xs.map AV.d) [] (fun r _ => r = .d (.bool true)) := by
 rw [Tryz.params4] at h
 obtain ⟨x, _, rfl, h1, y, _, rfl, h2, z, _, rfl, h3, rfl⟩ := h
 obtain ⟨l, rfl, l1⟩ := Qh2 h1
 obtain ⟨a, rfl, a1⟩ := Qqf h2
 obtain ⟨b, rfl, b1, b2⟩ := Qm1 h3
 exact (Qio l a b l1 b1 []).mono fun r s h => h.1
end YtljpopkonkanlaaGreatDoor
end Go.Proofs
