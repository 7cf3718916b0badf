/- A part of the proof: contracts of functions of this seat, and lemmas. No condition beyond those stated. -/
import Derived.Test.YtljpopkonkanlaaGreatDoorH1
import Derived.Lib.ItoaNum
import Derived.Shelf.LaysM
import Derived.Shelf.Strconv.Itoa3
import Derived.Ground.NamesProg
import Derived.Test.YtljpopkonkanlaaGreatDoorProg
import Derived.Test.YtljpopkonkanlaaGreatDoorG4
import Derived.Lib.ItoaLen
set_option linter.unusedVariables false
set_option linter.unusedSimpArgs false
set_option linter.unusedSectionVars false
set_option linter.unnecessarySimpa false
set_option maxRecDepth 100000
namespace Go.Proofs
open Go.AM
namespace YtljpopkonkanlaaGreatDoor
variable {Gl : qa5}
def Qn5 (a b : qag) : Int := orL [quk a.lo b.lo, quk b.hi a.hi, quk a.thread b.thread]
theorem Qex (a b : qag) : qbw Tryz.prog Gl 159 [.d a.toD, .d b.toD] (.d (.int .i64 (Qn5 a b))) := by
 refine qbw.of2 ?_
 refine qac Tryz.func159 rfl rfl (by simp [Tryz.ntmps159]) (qab rfl _ _ _ _ ?_)
 simp only [Tryz.ntmps159, Tryz.results159, qak, List.length_nil]
 simp only [zC, seval]
 repeat ((with_reducible refine And.intro ?_ ?_); (focus (first | omega | (simp only [qa2]; omega) | (refine qq ?_; rfl) | (refine dq ?_; kernel_rfl) | (intros; simp_all; done))))
 refine qah (qin _ _) ?_
 simp only [zC, seval]
 refine qah (qin _ _) ?_
 simp only [zC, seval]
 refine qah (qin _ _) ?_
 simp only [zC, seval]
 repeat ((with_reducible refine And.intro ?_ ?_); (focus (first | omega | (simp only [qa2]; omega) | (refine qq ?_; rfl) | (refine dq ?_; kernel_rfl) | (intros; simp_all; done))))
 refine ql5 2 (fun B hB => Qr1 [quk a.lo b.lo, quk b.hi a.hi, quk a.thread b.thread] (by simp) B hB) (fun _ => rfl) rfl ?_
 simp only [zC, seval]
 exact ⟨_, _, qa0, rfl, rfl⟩
def qhb (l : List qag) (i k : Int) : Bool :=
 if h : 0 ≤ k then (if i = k then true else if h2 : (l.getD k.toNat default).parent < k then qhb l i (l.getD k.toNat default).parent else false) else false
termination_by (k + 1).toNat
decreasing_by omega
def qii (l : List qag) (i : Nat) : Bool :=
 let s := l.getD i default
 if (decide (s.parent < -1) || decide ((i : Int) ≤ s.parent)) = true then false
 else if s.parent = -1 then s.depth == 0
 else !((l.getD s.parent.toNat default).thread != s.thread || decide (s.lo < (l.getD s.parent.toNat default).lo) || decide ((l.getD s.parent.toNat default).hi < s.hi) || s.depth != IntKind.i64.wrap ((l.getD s.parent.toNat default).depth + 1))
def qud (l : List qag) : Bool := (List.range l.length).all (qii l)
theorem qff (p : Nat → Bool) (k : Nat) : (List.range (k + 1)).all p = ((List.range k).all p && p k) := by
 rw [List.range_succ, List.all_append]; simp only [List.all_cons, List.all_nil, Bool.and_true]
theorem qep {p : Nat → Bool} {n k : Nat} (h : k < n) (hp : p k = false) : (List.range n).all p = false := by
 rw [List.all_eq_false]; exact ⟨k, List.mem_range.2 h, by simp [hp]⟩
theorem q4u {l : List qag} {i : Nat} (h : qii l i = true) : -1 ≤ (l.getD i default).parent ∧ (l.getD i default).parent < i := by
 unfold qii at h
 simp only at h
 split at h
 ·cases h
 ·rename_i h1
  simp only [Bool.not_eq_true, Bool.or_eq_false_iff, decide_eq_false_iff_not] at h1
  omega
theorem Qia {l : List qag} (h : qud l = true) {i : Nat} (hi : i < l.length) : qii l i = true := by
 unfold qud at h; rw [List.all_eq_true] at h; exact h i (List.mem_range.2 hi)
theorem Qio (l : List qag) (hl : l.length < 1000000) : qbw Tryz.prog Gl 160 [.d (.sl (l.map qag.toD))] (.d (.bool (qud l))) := by
 refine qbw.of1 ?_
 refine qac Tryz.func160 rfl rfl (by simp [Tryz.ntmps160]) (qab rfl _ _ _ _ ?_)
 simp only [Tryz.ntmps160, Tryz.results160, qak, List.length_nil]
 simp only [zC, seval]
 refine qa7 l.length (fun k => [(0, .d (.sl (l.map qag.toD))), (6, .d (.sl (l.map qag.toD))), (7, .d (.int .i64 l.length)), (8, .d (.int .i64 k))]) (fun _ => []) (fun k => (List.range k).all (qii l) = true) rfl ?_ ?_
 ·refine qad [] [] rfl List.nodup_nil ?_ rfl
  simp only [zC, seval, Int.cast_ofNat_Int]
 ·intro k hi hk
  by_cases h : k < l.length
  ·obtain ⟨b, eb⟩ : ∃ b, b = l.getD k default := ⟨_, rfl⟩
   have hbad : qii l k = false → qud l = false := fun h1 => qep h h1
   simp only [zC, seval, (show (k:Int) < l.length by omega), h, qat _ _ _ (show k < l.length by omega), ← eb]
   repeat ((with_reducible refine And.intro ?_ ?_); (focus (first | omega | (simp only [qa2]; omega) | (refine qq ?_; rfl) | (refine dq ?_; kernel_rfl) | (intros; simp_all; done))))
   cases h1 : (decide (b.parent < -1) || decide ((k : Int) ≤ b.parent)) with
   | true =>
    simp only [zC, seval]
    refine ⟨_, _, qa0, ?_, rfl⟩
    rw [hbad (by unfold qii; rw [← eb]; simp only [h1, if_pos])]
   | false =>
    simp only [zC, seval]
    have hn : qii l k = if b.parent = -1 then b.depth == 0 else !((l.getD b.parent.toNat default).thread != b.thread || decide (b.lo < (l.getD b.parent.toNat default).lo) || decide ((l.getD b.parent.toNat default).hi < b.hi) || b.depth != IntKind.i64.wrap ((l.getD b.parent.toNat default).depth + 1)) := by
     unfold qii; rw [← eb]; simp only [h1, Bool.false_eq_true, if_false]
    simp only [Bool.or_eq_false_iff, decide_eq_false_iff_not] at h1
    by_cases h2 : b.parent = -1
    ·rw [if_pos h2] at hn
     simp only [zC, seval, Qmh (show b.parent = -1 by omega)]
     refine ifC.mk (fun h3 => ?_) (fun h3 => ?_)
     ·refine ⟨_, _, qa0, ?_, rfl⟩
      rw [hbad (by rw [hn]; simpa using h3)]
     ·have hat : qii l k = true := by rw [hn]; simpa using h3
      refine ⟨by rw [qff, hi, hat]; rfl, ?_⟩
      refine qad [] [] rfl List.nodup_nil ?_ rfl
      simp only [zC, seval, @qai ((k:Int) + 1) (by omega)]
    ·rw [if_neg h2] at hn
     obtain ⟨q, eq⟩ : ∃ q : Nat, b.parent = q := ⟨b.parent.toNat, by omega⟩
     rw [eq, qz4] at hn
     simp only [zC, seval, eq, Qg5 (show ¬ ((q:Int) = -1) by omega), (show (q:Int) < l.length by omega), (show q < l.length by omega), qat _ _ _ (show q < l.length by omega)]
     repeat ((with_reducible refine And.intro ?_ ?_); (focus (first | omega | (simp only [qa2]; omega) | (refine qq ?_; rfl) | (refine dq ?_; kernel_rfl) | (intros; simp_all; done))))
     refine ifC.mk (fun h3 => ?_) (fun h3 => ?_)
     ·refine ⟨_, _, qa0, ?_, rfl⟩
      rw [hbad (by rw [hn, h3]; rfl)]
     ·have hat : qii l k = true := by rw [hn, h3]; rfl
      refine ⟨by rw [qff, hi, hat]; rfl, ?_⟩
      refine qad [] [] rfl List.nodup_nil ?_ rfl
      simp only [zC, seval, @qai ((k:Int) + 1) (by omega)]
  ·simp only [zC, seval, (show ¬ (k:Int) < l.length by omega)]
   refine ⟨_, _, qa0, ?_, rfl⟩
   have : k = l.length := by omega
   rw [qud, ← this, hi]
theorem Qb7 {l : List qag} {i k : Int} (h : ¬ 0 ≤ k) : qhb l i k = false := by rw [qhb, dif_neg h]
theorem q95 {l : List qag} {i k : Int} (h : 0 ≤ k) (h2 : i = k) : qhb l i k = true := by rw [qhb, dif_pos h, if_pos h2]
theorem q94 {l : List qag} {i k : Int} (h : 0 ≤ k) (h2 : i ≠ k) (h3 : (l.getD k.toNat default).parent < k) : qhb l i k = qhb l i (l.getD k.toNat default).parent := by rw [qhb, dif_pos h, if_neg h2, dif_pos h3]
theorem Qed (l : List qag) (hl : l.length < 1000000) (hn : qud l = true) (i k : Int) (hk : k < l.length) : qbw Tryz.prog Gl 195 [.d (.sl (l.map qag.toD)), .d (.int .i64 i), .d (.int .i64 k)] (.d (.bool (qhb l i k))) := by
 refine qbw.of3 ?_
 refine qac Tryz.func195 rfl rfl (by simp [Tryz.ntmps195]) (qab rfl _ _ _ _ ?_)
 simp only [Tryz.ntmps195, Tryz.results195, qak, List.length_nil]
 simp only [zC, seval]
 refine qck (τ := Int) (fun p => [(0, .d (.sl (l.map qag.toD))), (1, .d (.int .i64 i)), (2, .d (.int .i64 p))]) (fun _ => []) (fun p => p < l.length ∧ qhb l i p = qhb l i k) (fun p => (p + 1).toNat) k ⟨hk, rfl⟩ ?_ ?_
 ·refine qad [] [] rfl List.nodup_nil ?_ rfl
  simp only [zC, seval]
 ·rintro p ⟨h1, h2⟩
  simp only [zC, seval]
  refine ifC.mk (fun hc => ?_) (fun hc => ?_)
  ·have hc : 0 ≤ p := by simpa using hc
   obtain ⟨q, rfl⟩ : ∃ q : Nat, p = q := ⟨p.toNat, by omega⟩
   simp only [zC, seval]
   refine ifC.mk (fun hd => ?_) (fun hd => ?_)
   ·refine ⟨_, _, qa0, ?_, rfl⟩
    rw [← h2, q95 hc (by simpa using hd)]
   ·have hd : i ≠ q := by simpa using hd
    have hp := q4u (Qia hn (i := q) (by omega))
    rw [q94 hc hd (by rw [qz4]; exact hp.2), qz4] at h2
    simp only [zC, seval, (show (q:Int) < l.length by omega), (show q < l.length by omega), qat _ _ _ (show q < l.length by omega)]
    repeat ((with_reducible refine And.intro ?_ ?_); (focus (first | omega | (simp only [qa2]; omega) | (refine qq ?_; rfl) | (refine dq ?_; kernel_rfl) | (intros; simp_all; done))))
    refine ⟨(l.getD q default).parent, ⟨by omega, h2⟩, by omega, ?_⟩
    refine qad [] [] rfl List.nodup_nil ?_ rfl
    simp only [zC, seval]
  ·have hc : ¬ 0 ≤ p := by simpa using hc
   refine ⟨_, _, qa0, ?_, rfl⟩
   rw [← h2, Qb7 hc]
def qo9 (l : List qag) (i : Nat) : Nat → Int
 | 0 => IntKind.i64.wrap ((l.getD i default).hi - (l.getD i default).lo)
 | j + 1 => if ((l.getD j default).parent == (i : Int)) = true then IntKind.i64.wrap (qo9 l i j - IntKind.i64.wrap ((l.getD j default).hi - (l.getD j default).lo)) else qo9 l i j
def qyg (l : List qag) (j i : Nat) : Bool := decide ((j : Int) < i) && ((l.getD j default).thread == (l.getD i default).thread) && decide ((l.getD i default).lo < (l.getD j default).hi) && decide ((l.getD j default).lo < (l.getD i default).hi) && !qhb l j i
def qiq (l : List qag) (i : Nat) : Bool := ((List.range l.length).all fun j => !qyg l j i) && ((l.getD i default).self == qo9 l i l.length)
def qyn (l : List qag) : Bool := (List.range l.length).all (qiq l)
theorem Qni (l : List qag) (hl : l.length < 1000000) (hn : qud l = true) : qbw Tryz.prog Gl 161 [.d (.sl (l.map qag.toD))] (.d (.bool (qyn l))) := by
 refine qbw.of1 ?_
 refine qac Tryz.func161 rfl rfl (by simp [Tryz.ntmps161]) (qab rfl _ _ _ _ ?_)
 simp only [Tryz.ntmps161, Tryz.results161, qak, List.length_nil]
 simp only [zC, seval]
 refine qa7 l.length (fun k => [(0, .d (.sl (l.map qag.toD))), (8, .d (.sl (l.map qag.toD))), (9, .d (.int .i64 l.length)), (10, .d (.int .i64 k))]) (fun _ => []) (fun k => (List.range k).all (qiq l) = true) rfl ?_ ?_
 ·refine qad [] [] rfl List.nodup_nil ?_ rfl
  simp only [zC, seval, Int.cast_ofNat_Int]
 ·intro k hi hk
  by_cases h : k < l.length
  ·obtain ⟨b, eb⟩ : ∃ b, b = l.getD k default := ⟨_, rfl⟩
   have hbad : qiq l k = false → qyn l = false := fun h1 => qep h h1
   simp only [zC, seval, (show (k:Int) < l.length by omega), h, qat _ _ _ (show k < l.length by omega), ← eb]
   repeat ((with_reducible refine And.intro ?_ ?_); (focus (first | omega | (simp only [qa2]; omega) | (refine qq ?_; rfl) | (refine dq ?_; kernel_rfl) | (intros; simp_all; done))))
   refine qa7 l.length (fun j => [(0, .d (.sl (l.map qag.toD))), (3, .d (.int .i64 k)), (4, .ptr 0 0), (5, .d (.int .i64 (qo9 l k j))), (8, .d (.sl (l.map qag.toD))), (9, .d (.int .i64 l.length)), (10, .d (.int .i64 k)), (22, .d (.sl (l.map qag.toD))), (23, .d (.int .i64 l.length)), (24, .d (.int .i64 j))]) (fun _ => [.box 8 (.d b.toD)]) (fun j => ((List.range j).all fun j => !qyg l j k) = true) rfl ?_ ?_
   ·refine qad [] [0] rfl (by simp) ?_ rfl
    simp only [zC, seval, Int.cast_ofNat_Int, qo9, ← eb]
    all_goals rfl
   ·intro j hj hjk
    by_cases h2 : j < l.length
    ·obtain ⟨a, ea⟩ : ∃ a, a = l.getD j default := ⟨_, rfl⟩
     simp only [zC, seval, (show (j:Int) < l.length by omega), h2, qat _ _ _ (show j < l.length by omega), ← ea]
     repeat ((with_reducible refine And.intro ?_ ?_); (focus (first | omega | (simp only [qa2]; omega) | (refine qq ?_; rfl) | (refine dq ?_; kernel_rfl) | (intros; simp_all; done))))
     cases h3 : (a.parent == (k : Int)) with
     | true =>
      have hS : qo9 l k (j + 1) = IntKind.i64.wrap (qo9 l k j - IntKind.i64.wrap (a.hi - a.lo)) := by rw [qo9, ← ea, if_pos h3]
      simp only [zC, seval]
      repeat ((with_reducible refine And.intro ?_ ?_); (focus (first | omega | (simp only [qa2]; omega) | (refine qq ?_; rfl) | (refine dq ?_; kernel_rfl) | (intros; simp_all; done))))
      refine qbs (fun _ => Qed l hl hn j k (by omega)) ?_
      simp only [zC, seval]
      repeat ((with_reducible refine And.intro ?_ ?_); (focus (first | omega | (simp only [qa2]; omega) | (refine qq ?_; rfl) | (refine dq ?_; kernel_rfl) | (intros; simp_all; done))))
      refine ifC.mk (fun hc => ?_) (fun hc => ?_)
      ·refine ⟨_, _, qa0, ?_, rfl⟩
       rw [hbad (by unfold qiq; rw [qep h2 (by simp only [qyg, ← eb, ← ea]; rw [hc]; rfl)]; rfl)]
      ·refine ⟨by rw [qff, hj]; simp only [qyg, ← eb, ← ea]; rw [hc]; rfl, ?_⟩
       refine qad [] [0] rfl (by simp) ?_ rfl
       simp only [zC, seval, @qai ((j:Int) + 1) (by omega), hS]
       all_goals rfl
     | false =>
      have hS : qo9 l k (j + 1) = qo9 l k j := by rw [qo9, ← ea, if_neg (by rw [h3]; simp)]
      simp only [zC, seval]
      repeat ((with_reducible refine And.intro ?_ ?_); (focus (first | omega | (simp only [qa2]; omega) | (refine qq ?_; rfl) | (refine dq ?_; kernel_rfl) | (intros; simp_all; done))))
      refine qbs (fun _ => Qed l hl hn j k (by omega)) ?_
      simp only [zC, seval]
      repeat ((with_reducible refine And.intro ?_ ?_); (focus (first | omega | (simp only [qa2]; omega) | (refine qq ?_; rfl) | (refine dq ?_; kernel_rfl) | (intros; simp_all; done))))
      refine ifC.mk (fun hc => ?_) (fun hc => ?_)
      ·refine ⟨_, _, qa0, ?_, rfl⟩
       rw [hbad (by unfold qiq; rw [qep h2 (by simp only [qyg, ← eb, ← ea]; rw [hc]; rfl)]; rfl)]
      ·refine ⟨by rw [qff, hj]; simp only [qyg, ← eb, ← ea]; rw [hc]; rfl, ?_⟩
       refine qad [] [0] rfl (by simp) ?_ rfl
       simp only [zC, seval, @qai ((j:Int) + 1) (by omega), hS]
       all_goals rfl
    ·simp only [zC, seval, (show ¬ (j:Int) < l.length by omega)]
     have hjn : j = l.length := by omega
     subst hjn
     have hat : qiq l k = (b.self == qo9 l k l.length) := by unfold qiq; rw [hj, ← eb, Bool.true_and]
     refine ifC.mk (fun hc => ?_) (fun hc => ?_)
     ·refine ⟨_, _, qa0, ?_, rfl⟩
      rw [hbad (by rw [hat]; simpa using hc)]
     ·have hat : qiq l k = true := by rw [hat]; simpa using hc
      refine ⟨by rw [qff, hi, hat]; rfl, ?_⟩
      refine qad [] [] rfl List.nodup_nil ?_ rfl
      simp only [zC, seval, @qai ((k:Int) + 1) (by omega)]
  ·simp only [zC, seval, (show ¬ (k:Int) < l.length by omega)]
   refine ⟨_, _, qa0, ?_, rfl⟩
   have : k = l.length := by omega
   rw [qyn, ← this, hi]
def Qg8 (l : List qag) (k : Nat) : Int :=
 if (decide ((l.getD k default).thread < 0) || decide (1000000000000000 < (l.getD k default).thread) || !qlq (l.getD k default).lo (l.getD k default).hi) = true then 2
 else if qdo (l.getD k default).name ≠ 0 then qdo (l.getD k default).name
 else if (decide (0 < k) && decide (0 < Qn5 (l.getD (k - 1) default) (l.getD k default))) = true then 11 else 0
def qm6 (l : List qag) : Int := if qbe (Qg8 l) l.length ≠ 0 then qbe (Qg8 l) l.length else if (qud l && qyn l) = true then 0 else 10
theorem Qhu {l : List qag} {k : Nat} (h : (decide ((l.getD k default).thread < 0) || decide (1000000000000000 < (l.getD k default).thread) || !qlq (l.getD k default).lo (l.getD k default).hi) = true) : Qg8 l k = 2 := by rw [Qg8, if_pos h]
theorem Qp0 {l : List qag} {k : Nat} (h : (decide ((l.getD k default).thread < 0) || decide (1000000000000000 < (l.getD k default).thread) || !qlq (l.getD k default).lo (l.getD k default).hi) = false) (h2 : qdo (l.getD k default).name ≠ 0) : Qg8 l k = qdo (l.getD k default).name := by rw [Qg8, if_neg (by rw [h]; simp), if_pos h2]
theorem Qmr {l : List qag} {k : Nat} (h : (decide ((l.getD k default).thread < 0) || decide (1000000000000000 < (l.getD k default).thread) || !qlq (l.getD k default).lo (l.getD k default).hi) = false) (h2 : qdo (l.getD k default).name = 0) : Qg8 l k = if (decide (0 < k) && decide (0 < Qn5 (l.getD (k - 1) default) (l.getD k default))) = true then 11 else 0 := by rw [Qg8, if_neg (by rw [h]; simp), if_neg (by rw [h2]; simp)]
theorem q3e (l : List qag) (hl : l.length < 1000000) : qbw Tryz.prog Gl 100 [.d (.sl (l.map qag.toD))] (.d (.int .i64 (qm6 l))) := by
 refine qbw.of1 ?_
 refine qac Tryz.func100 rfl rfl (by simp [Tryz.ntmps100]) (qab rfl _ _ _ _ ?_)
 simp only [Tryz.ntmps100, Tryz.results100, qak, List.length_nil]
 simp only [zC, seval]
 refine qa7 l.length (fun k => [(0, .d (.sl (l.map qag.toD))), (6, .d (.sl (l.map qag.toD))), (7, .d (.int .i64 l.length)), (8, .d (.int .i64 k))]) (fun _ => []) (fun k => qbe (Qg8 l) k = 0) rfl ?_ ?_
 ·refine qad [] [] rfl List.nodup_nil ?_ rfl
  simp only [zC, seval, Int.cast_ofNat_Int]
 ·intro k hi hk
  by_cases h : k < l.length
  ·have hb : ∀ e, Qg8 l k = e → e ≠ 0 → qm6 l = e := fun e h1 h2 => by
    have := qcf hi (by rw [h1]; exact h2) h
    rw [qm6, this, h1, if_pos h2]
   obtain ⟨b, eb⟩ : ∃ b, b = l.getD k default := ⟨_, rfl⟩
   simp only [zC, seval, (show (k:Int) < l.length by omega), h, qat _ _ _ (show k < l.length by omega), ← eb]
   repeat ((with_reducible refine And.intro ?_ ?_); (focus (first | omega | (simp only [qa2]; omega) | (refine qq ?_; rfl) | (refine dq ?_; kernel_rfl) | (intros; simp_all; done))))
   refine qbs (fun _ => qzp _ _) ?_
   simp only [zC, seval]
   repeat ((with_reducible refine And.intro ?_ ?_); (focus (first | omega | (simp only [qa2]; omega) | (refine qq ?_; rfl) | (refine dq ?_; kernel_rfl) | (intros; simp_all; done))))
   refine ifC.mk (fun h1 => ?_) (fun h1 => ?_)
   ·refine ⟨_, _, qa0, ?_, rfl⟩
    rw [hb 2 (Qhu (by rw [← eb]; exact h1)) (by omega)]
   ·refine qah (qx1 _) ?_
    simp only [zC, seval]
    refine ifC.mk (fun h2 => ?_) (fun h2 => ?_)
    ·have h2 : qdo b.name ≠ 0 := by simpa using h2
     refine ⟨_, _, qa0, ?_, rfl⟩
     rw [hb _ (Qp0 (by rw [← eb]; exact h1) (by rw [← eb]; exact h2)) (by rw [← eb]; exact h2), ← eb]
    ·have ho := Qmr (l := l) (k := k) (by rw [← eb]; exact h1) (by rw [← eb]; simpa using h2)
     rw [← eb] at ho
     by_cases hk0 : 0 < k
     ·have e1 : IntKind.i64.wrap ((k : Int) - 1) = ((k - 1 : Nat) : Int) := by rw [qbl (by omega) (by omega)]; omega
      obtain ⟨a, ea⟩ : ∃ a, a = l.getD (k - 1) default := ⟨_, rfl⟩
      rw [decide_eq_true hk0, Bool.true_and, ← ea] at ho
      simp only [zC, seval, (show (0:Int) < k by omega), e1, (show ((k - 1 : Nat) : Int) < l.length by omega), (show k - 1 < l.length by omega), qat _ _ _ (show k - 1 < l.length by omega), ← ea]
      repeat ((with_reducible refine And.intro ?_ ?_); (focus (first | omega | (simp only [qa2]; omega) | (refine qq ?_; rfl) | (refine dq ?_; kernel_rfl) | (intros; simp_all; done))))
      refine qbs (fun _ => Qex _ _) ?_
      simp only [zC, seval]
      repeat ((with_reducible refine And.intro ?_ ?_); (focus (first | omega | (simp only [qa2]; omega) | (refine qq ?_; rfl) | (refine dq ?_; kernel_rfl) | (intros; simp_all; done))))
      refine ifC.mk (fun h3 => ?_) (fun h3 => ?_)
      ·refine ⟨_, _, qa0, ?_, rfl⟩
       rw [if_pos h3] at ho
       rw [hb 11 ho (by omega)]
      ·rw [if_neg (by rw [h3]; simp)] at ho
       refine ⟨qbq hi ho, ?_⟩
       refine qad [] [] rfl List.nodup_nil ?_ rfl
       simp only [zC, seval, @qai ((k:Int) + 1) (by omega)]
     ·rw [decide_eq_false hk0, Bool.false_and, if_neg (by simp)] at ho
      have e0 : (IntKind.i64.wrap ((k : Int) - 1)).toNat = 0 := by rw [qbl (by omega) (by omega)]; omega
      simp only [zC, seval, (show ¬ (0:Int) < k by omega), e0, qat _ _ _ (show 0 < l.length by omega)]
      repeat ((with_reducible refine And.intro ?_ ?_); (focus (first | omega | (simp only [qa2]; omega) | (refine qq ?_; rfl) | (refine dq ?_; kernel_rfl) | (intros; simp_all; done))))
      refine qbs (v := .d (.int .i64 0)) (fun h => by cases h) ?_
      simp only [zC, seval, e0, qat _ _ _ (show 0 < l.length by omega)]
      repeat ((with_reducible refine And.intro ?_ ?_); (focus (first | omega | (simp only [qa2]; omega) | (refine qq ?_; rfl) | (refine dq ?_; kernel_rfl) | (intros; simp_all; done))))
      refine ⟨qbq hi ho, ?_⟩
      refine qad [] [] rfl List.nodup_nil ?_ rfl
      simp only [zC, seval, @qai ((k:Int) + 1) (by omega)]
  ·simp only [zC, seval, (show ¬ (k:Int) < l.length by omega)]
   have : k = l.length := by omega
   subst this
   have hF : qm6 l = if (qud l && qyn l) = true then 0 else 10 := by rw [qm6, hi, if_neg (by simp)]
   refine qah (Qio l hl) ?_
   simp only [zC, seval]
   cases hn : qud l with
   | false =>
    rw [hn, Bool.false_and, if_neg (by simp)] at hF
    repeat ((with_reducible refine And.intro ?_ ?_); (focus (first | omega | (simp only [qa2]; omega) | (refine qq ?_; rfl) | (refine dq ?_; kernel_rfl) | (intros; simp_all; done))))
    refine qbs (v := .d (.bool false)) (fun h => by cases h) ?_
    simp only [zC, seval]
    refine ⟨_, _, qa0, ?_, rfl⟩
    rw [hF]
   | true =>
    rw [hn, Bool.true_and] at hF
    repeat ((with_reducible refine And.intro ?_ ?_); (focus (first | omega | (simp only [qa2]; omega) | (refine qq ?_; rfl) | (refine dq ?_; kernel_rfl) | (intros; simp_all; done))))
    refine qbs (fun _ => Qni l hl hn) ?_
    simp only [zC, seval]
    cases ha : qyn l with
    | false =>
     simp only [zC, seval]
     refine ⟨_, _, qa0, ?_, rfl⟩
     rw [hF, ha, if_neg (by simp)]
    | true =>
     simp only [zC, seval]
     refine ⟨_, _, qa0, ?_, rfl⟩
     rw [hF, ha, if_pos rfl]

theorem Qnl (xs : List Int) (x : Int) (hl : xs.length < 2000000) (B : Blk) (hB : qdz 1 (xs.map (D.int .i64)) B) : qaf Tryz.prog Gl 163 [.osl 0 0 xs.length, .d (.int .i64 x)] [B] (fun r s => r = .d (.int .i64 (qfj (fun y => x == y) xs)) ∧ s = [B]) := by
 rcases hB with rfl | rfl
 ·refine qac Tryz.func163 rfl rfl (by simp [Tryz.ntmps163]) (qab rfl _ _ _ _ ?_)
  simp only [Tryz.ntmps163, Tryz.results163, qak, List.length_nil]
  simp only [zC, seval]
  refine qa7 xs.length (fun k => [(0, .osl 0 0 xs.length), (1, .d (.int .i64 x)), (7, .d (.int .i64 xs.length)), (8, .d (.int .i64 k))]) (fun _ => [.arr 1 (xs.map (D.int .i64))]) (fun k => (xs.take k).any (fun y => x == y) = false) rfl ?_ ?_
  ·refine qad [] [0] rfl (by simp) ?_ rfl
   simp only [zC, seval, Int.cast_ofNat_Int]
   all_goals rfl
  ·intro k hi hk
   by_cases h : k < xs.length
   ·have hs := qdy (fun y => x == y) xs k h
    simp only [zC, seval, (show (k:Int) < xs.length by omega), h, qat _ _ _ (show k < xs.length by omega)]
    repeat ((with_reducible refine And.intro ?_ ?_); (focus (first | omega | (simp only [qa2]; omega) | (refine qq ?_; rfl) | (refine dq ?_; kernel_rfl) | (intros; simp_all; done))))
    refine ifC.mk (fun hc => ?_) (fun hc => ?_)
    ·refine ⟨_, _, qae [] [0] rfl (by simp) (show qbf _ _ _ = AV.d _ from rfl) rfl, ?_, rfl⟩
     rw [qf8 h hi hc]
    ·refine ⟨by rw [hs, hi, hc]; rfl, ?_⟩
     refine qad [] [0] rfl (by simp) ?_ rfl
     simp only [zC, seval, @qai ((k:Int) + 1) (by omega)]
     all_goals rfl
   ·simp only [zC, seval, (show ¬ (k:Int) < xs.length by omega)]
    have : k = xs.length := by omega
    subst this
    rw [List.take_length] at hi
    refine ⟨_, _, qae [] [0] rfl (by simp) (show qbf _ _ _ = AV.d _ from rfl) rfl, ?_, rfl⟩
    rw [qdf hi]
 ·refine qac Tryz.func163 rfl rfl (by simp [Tryz.ntmps163]) (qab rfl _ _ _ _ ?_)
  simp only [Tryz.ntmps163, Tryz.results163, qak, List.length_nil]
  simp only [zC, seval]
  refine qa7 xs.length (fun k => [(0, .osl 0 0 xs.length), (1, .d (.int .i64 x)), (7, .d (.int .i64 xs.length)), (8, .d (.int .i64 k))]) (fun _ => [.frz 1 (xs.map (D.int .i64))]) (fun k => (xs.take k).any (fun y => x == y) = false) rfl ?_ ?_
  ·refine qad [] [0] rfl (by simp) ?_ rfl
   simp only [zC, seval, Int.cast_ofNat_Int]
   all_goals rfl
  ·intro k hi hk
   by_cases h : k < xs.length
   ·have hs := qdy (fun y => x == y) xs k h
    simp only [zC, seval, (show (k:Int) < xs.length by omega), h, qat _ _ _ (show k < xs.length by omega)]
    repeat ((with_reducible refine And.intro ?_ ?_); (focus (first | omega | (simp only [qa2]; omega) | (refine qq ?_; rfl) | (refine dq ?_; kernel_rfl) | (intros; simp_all; done))))
    refine ifC.mk (fun hc => ?_) (fun hc => ?_)
    ·refine ⟨_, _, qae [] [0] rfl (by simp) (show qbf _ _ _ = AV.d _ from rfl) rfl, ?_, rfl⟩
     rw [qf8 h hi hc]
    ·refine ⟨by rw [hs, hi, hc]; rfl, ?_⟩
     refine qad [] [0] rfl (by simp) ?_ rfl
     simp only [zC, seval, @qai ((k:Int) + 1) (by omega)]
     all_goals rfl
   ·simp only [zC, seval, (show ¬ (k:Int) < xs.length by omega)]
    have : k = xs.length := by omega
    subst this
    rw [List.take_length] at hi
    refine ⟨_, _, qae [] [0] rfl (by simp) (show qbf _ _ _ = AV.d _ from rfl) rfl, ?_, rfl⟩
    rw [qdf hi]
theorem Qi1 (xs : List Int) (x : Int) (hl : xs.length < 1000000) : qbw Tryz.prog Gl 163 [.d (.sl (xs.map (D.int .i64))), .d (.int .i64 x)] (.d (.int .i64 (qfj (fun y => x == y) xs))) := by
 refine qbw.of2 ?_
 refine qac Tryz.func163 rfl rfl (by simp [Tryz.ntmps163]) (qab rfl _ _ _ _ ?_)
 simp only [Tryz.ntmps163, Tryz.results163, qak, List.length_nil]
 simp only [zC, seval]
 refine qa7 xs.length (fun k => [(0, .d (.sl (xs.map (D.int .i64)))), (1, .d (.int .i64 x)), (7, .d (.int .i64 xs.length)), (8, .d (.int .i64 k))]) (fun _ => []) (fun k => (xs.take k).any (fun y => x == y) = false) rfl ?_ ?_
 ·refine qad [] [] rfl List.nodup_nil ?_ rfl
  simp only [zC, seval, Int.cast_ofNat_Int]
 ·intro k hi hk
  by_cases h : k < xs.length
  ·have hs := qdy (fun y => x == y) xs k h
   simp only [zC, seval, (show (k:Int) < xs.length by omega), h, qat _ _ _ (show k < xs.length by omega)]
   repeat ((with_reducible refine And.intro ?_ ?_); (focus (first | omega | (simp only [qa2]; omega) | (refine qq ?_; rfl) | (refine dq ?_; kernel_rfl) | (intros; simp_all; done))))
   refine ifC.mk (fun hc => ?_) (fun hc => ?_)
   ·refine ⟨_, _, qa0, ?_, rfl⟩
    rw [qf8 h hi hc]
   ·refine ⟨by rw [hs, hi, hc]; rfl, ?_⟩
    refine qad [] [] rfl List.nodup_nil ?_ rfl
    simp only [zC, seval, @qai ((k:Int) + 1) (by omega)]
  ·simp only [zC, seval, (show ¬ (k:Int) < xs.length by omega)]
   have : k = xs.length := by omega
   subst this
   rw [List.take_length] at hi
   refine ⟨_, _, qa0, ?_, rfl⟩
   rw [qdf hi]
theorem Qa4 (xs : List Int) (x : Int) (hl : xs.length < 2000000) (B : Blk) (hB : qdz 1 (xs.map (D.int .i64)) B) : qaf Tryz.prog Gl 196 [.osl 0 0 xs.length, .d (.int .i64 x)] [B] (fun r s => r = .d (.bool (xs.any (fun y => x == y))) ∧ s = [B]) := by
 have hix := Qnl (Gl := Gl) xs x hl B hB
 rcases hB with rfl | rfl
 ·refine qac Tryz.func196 rfl rfl (by simp [Tryz.ntmps196]) (qab rfl _ _ _ _ ?_)
  simp only [Tryz.ntmps196, Tryz.results196, qak, List.length_nil]
  simp only [zC, seval]
  refine qaq (hix.mono fun r s hr => ?_)
  obtain ⟨rfl, rfl⟩ := hr
  simp only [zC, seval]
  refine ⟨_, _, qae [] [0] rfl (by simp) (show qbf _ _ _ = AV.d _ from rfl) rfl, ?_, rfl⟩
  rw [qdl]
 ·refine qac Tryz.func196 rfl rfl (by simp [Tryz.ntmps196]) (qab rfl _ _ _ _ ?_)
  simp only [Tryz.ntmps196, Tryz.results196, qak, List.length_nil]
  simp only [zC, seval]
  refine qaq (hix.mono fun r s hr => ?_)
  obtain ⟨rfl, rfl⟩ := hr
  simp only [zC, seval]
  refine ⟨_, _, qae [] [0] rfl (by simp) (show qbf _ _ _ = AV.d _ from rfl) rfl, ?_, rfl⟩
  rw [qdl]
def qi9 (l : List qao) : List Int := l.foldl (fun out x => if out.any (fun y => x.id == y) = true then out else out ++ [x.id]) []
theorem qye (l : List qao) (k : Nat) (h : k < l.length) : qi9 (l.take (k + 1)) = if (qi9 (l.take k)).any (fun y => (l.getD k default).id == y) = true then qi9 (l.take k) else qi9 (l.take k) ++ [(l.getD k default).id] := by
 rw [qa1 l k h]; unfold qi9; rw [List.foldl_append]; rfl
theorem qto (l : List qao) : ∀ k, (qi9 (l.take k)).length ≤ k
 | 0 => by simp [qi9]
 | k + 1 => by
  have ih := qto l k
  by_cases h : k < l.length
  ·rw [qye l k h]
   split
   ·omega
   ·rw [List.length_append]; simp only [List.length_cons, List.length_nil]; omega
  ·rw [List.take_of_length_le (by omega)]
   rw [List.take_of_length_le (by omega)] at ih
   omega
theorem Qa2 (l : List qao) (hl : l.length < 1000000) : qbw Tryz.prog Gl 162 [.d (.sl (l.map qao.toD))] (.d (.sl ((qi9 l).map (D.int .i64)))) := by
 refine qbw.of1 ?_
 refine qac Tryz.func162 rfl rfl (by simp [Tryz.ntmps162]) (qab rfl _ _ _ _ ?_)
 simp only [Tryz.ntmps162, Tryz.results162, qak, List.length_nil]
 simp only [zC, seval]
 refine qa7 l.length (fun k => [(3, .osl 0 0 (qi9 (l.take k)).length), (6, .d (.sl (l.map qao.toD))), (7, .d (.int .i64 l.length)), (8, .d (.int .i64 k))]) (fun k => [.arr 1 ((qi9 (l.take k)).map (D.int .i64))]) (fun _ => True) trivial ?_ ?_
 ·refine (qhs 3 1 rfl).trans ?_
  refine qad [] [0] rfl (by simp) ?_ ?_
  ·simp only [zC, seval, Int.cast_ofNat_Int]
   all_goals rfl
  ·rfl
 ·intro k _ hk
  have hdl := qto l k
  by_cases h : k < l.length
  ·have hs := qye l k h
   obtain ⟨ys, hys⟩ : ∃ ys, ys = qi9 (l.take k) := ⟨_, rfl⟩
   rw [← hys] at hs hdl ⊢
   simp only [zC, seval, (show (k:Int) < l.length by omega), h, qat _ _ _ (show k < l.length by omega)]
   repeat ((with_reducible refine And.intro ?_ ?_); (focus (first | omega | (simp only [qa2]; omega) | (refine qq ?_; rfl) | (refine dq ?_; kernel_rfl) | (intros; simp_all; done))))
   refine ql5 0 (fun B hB => Qa4 ys _ (by omega) B hB) (fun _ => rfl) rfl ?_
   simp only [zC, seval]
   cases hc : ys.any (fun y => (l.getD k default).id == y) with
   | true =>
    rw [hc, if_pos rfl] at hs
    simp only [zC, seval, hs]
    refine qad [] [0] rfl (by simp) ?_ rfl
    simp only [zC, seval, @qai ((k:Int) + 1) (by omega)]
    all_goals rfl
   | false =>
    rw [hc, if_neg (by simp)] at hs
    simp only [zC, seval, qba]
    repeat ((with_reducible refine And.intro ?_ ?_); (focus (first | omega | (simp only [qa2]; omega) | (refine qq ?_; rfl) | (refine dq ?_; kernel_rfl) | (intros; simp_all; done))))
    rw [hs]
    refine qad [] [3] rfl (by simp) ?_ ?_
    ·simp only [zC, seval, @qai ((k:Int) + 1) (by omega)]
     all_goals rfl
    ·simp only [zC, seval, List.map_append]
     all_goals rfl
  ·have : k = l.length := by omega
   subst this
   simp only [zC, seval, (show ¬ (l.length:Int) < l.length by omega), List.take_length]
   refine ⟨_, _, q60 rfl ?_, rfl, rfl⟩
   simp only [zC, seval, qba]
def qf9 (s : qax) : Bool := (decide (0 ≤ s.state) && decide (s.state ≤ 5)) && (if (s.state == 4) = true then decide (0 ≤ s.cpu) && decide (s.cpu < 64) else s.cpu == -1) && (if (s.state == 2) = true then decide (0 ≤ s.on_) && decide (s.on_ ≤ 1000000000000000) else s.on_ == -1)
 && (s.by_ == -1 || ((s.state == 1 || s.state == 2) && decide (0 ≤ s.by_) && decide (s.by_ ≤ 1000000000000000)))
theorem Qiy (s : qax) : qbw Tryz.prog Gl 164 [.d s.toD] (.d (.bool (qf9 s))) := by
 refine qbw.of1 ?_
 refine qac Tryz.func164 rfl rfl (by simp [Tryz.ntmps164]) (qab rfl _ _ _ _ ?_)
 simp only [Tryz.ntmps164, Tryz.results164, qak, List.length_nil]
 simp only [zC, seval]
 refine ifC.mk (fun h1 => ?_) (fun h1 => ?_)
 ·refine ⟨_, _, qa0, ?_, rfl⟩
  refine congrArg (fun b => AV.d (D.bool b)) ?_
  unfold qf9
  cases e4 : (s.state == 4) <;> cases e2 : (s.state == 2) <;> simp_all <;> omega
 ·refine ifC.mk (fun h2 => ?_) (fun h2 => ?_)
  ·simp only [zC, seval, h2]
   refine ⟨_, _, qa0, ?_, rfl⟩
   refine congrArg (fun b => AV.d (D.bool b)) ?_
   unfold qf9
   cases e4 : (s.state == 4) <;> cases e2 : (s.state == 2) <;> simp_all <;> omega
  ·refine ifC.mk (fun h3 => ?_) (fun h3 => ?_)
   ·refine ⟨_, _, qa0, ?_, rfl⟩
    refine congrArg (fun b => AV.d (D.bool b)) ?_
    unfold qf9
    cases e4 : (s.state == 4) <;> cases e2 : (s.state == 2) <;> simp_all <;> omega
   ·refine ifC.mk (fun h4 => ?_) (fun h4 => ?_)
    ·simp only [zC, seval, h4]
     refine ⟨_, _, qa0, ?_, rfl⟩
     refine congrArg (fun b => AV.d (D.bool b)) ?_
     unfold qf9
     cases e4 : (s.state == 4) <;> cases e2 : (s.state == 2) <;> simp_all <;> omega
    ·refine ifC.mk (fun h5 => ?_) (fun h5 => ?_)
     ·refine ⟨_, _, qa0, ?_, rfl⟩
      refine congrArg (fun b => AV.d (D.bool b)) ?_
      unfold qf9
      cases e4 : (s.state == 4) <;> cases e2 : (s.state == 2) <;> simp_all <;> omega
     ·refine ⟨_, _, qa0, ?_, rfl⟩
      refine congrArg (fun b => AV.d (D.bool b)) ?_
      unfold qf9
      cases e4 : (s.state == 4) <;> cases e2 : (s.state == 2) <;> simp_all <;> omega
def Qmu (a b : qax) : Bool := a.state == b.state && a.cpu == b.cpu && a.on_ == b.on_
theorem Qqt (a b : qax) : qbw Tryz.prog Gl 165 [.d a.toD, .d b.toD] (.d (.bool (Qmu a b))) := by
 refine qbw.of2 ?_
 refine qac Tryz.func165 rfl rfl (by simp [Tryz.ntmps165]) (qab rfl _ _ _ _ ?_)
 simp only [Tryz.ntmps165, Tryz.results165, qak, List.length_nil]
 simp only [zC, seval]
 exact ⟨_, _, qa0, rfl, rfl⟩

def Qop (ids : List Int) (x : Int) : Int := qfj (fun y => x == y) ids
def atU (ids : List Int) (l : List qax) : Nat → Int
 | 0 => -1
 | k + 1 => Qop ids (l.getD k default).thread
def Qon (ids : List Int) (l : List qax) (k : Nat) : Bool :=
 let s := l.getD k default
 let i := Qop ids s.thread
 (i == atU ids l k && (s.lo != (l.getD (k - 1) default).hi || Qmu s (l.getD (k - 1) default))) || (i != atU ids l k && (i != atU ids l k + 1 || s.lo != 0))
def uAt (ids : List Int) (l : List qax) (k : Nat) : Int :=
 if Qop ids (l.getD k default).thread < 0 then 5 else if qlq (l.getD k default).lo (l.getD k default).hi = false then 2 else if qf9 (l.getD k default) = false then 1
 else if Qon ids l k = true then 11 else 0
def q5p (l : List qax) (k : Nat) : Bool := !((((k : Int) + 1 == (l.length : Int)) || (l.getD (k + 1) default).thread != (l.getD k default).thread) && (l.getD k default).hi != (l.getD (l.length - 1) default).hi)
def qu4 (ths : List qao) (l : List qax) : Int :=
 if qbe (uAt (qi9 ths) l) l.length ≠ 0 then qbe (uAt (qi9 ths) l) l.length else if l.length = 0 then 0 else if (List.range l.length).all (q5p l) = false then 11
 else if atU (qi9 ths) l l.length + 1 = ((qi9 ths).length : Int) then 0 else 11
theorem Qe7 (ids : List Int) (x : Int) : -1 ≤ Qop ids x := qio _ _
theorem qzs {α : Type} (p : α → Bool) : ∀ l : List α, qfj p l < l.length
 | [] => by simp [qfj]
 | b :: r => by
  have := qzs p r
  unfold qfj
  rw [List.length_cons]
  split
  ·omega
  ·split <;> omega
theorem Qmg (ids : List Int) (l : List qax) : ∀ k, -1 ≤ atU ids l k
 | 0 => by simp [atU]
 | k + 1 => Qe7 _ _
theorem Qmf (ids : List Int) (l : List qax) : ∀ k, atU ids l k < ids.length
 | 0 => by simp [atU]; omega
 | k + 1 => qzs _ _
set_option maxHeartbeats 2000000 in
theorem q3d (ths : List qao) (hth : ths.length < 1000000) (l : List qax) (hl : l.length < 1000000) : qbw Tryz.prog Gl 102 [.d (.sl (ths.map qao.toD)), .d (.sl (l.map qax.toD))] (.d (.int .i64 (qu4 ths l))) := by
 refine qbw.of2 ?_
 refine qac Tryz.func102 rfl rfl (by simp [Tryz.ntmps102]) (qab rfl _ _ _ _ ?_)
 simp only [Tryz.ntmps102, Tryz.results102, qak, List.length_nil]
 simp only [zC, seval]
 refine qah (Qa2 ths hth) ?_
 obtain ⟨ids, hids⟩ : ∃ ids, ids = qi9 ths := ⟨_, rfl⟩
 have hil : ids.length < 1000000 := by
  have := qto ths ths.length
  rw [List.take_length] at this
  rw [hids]; omega
 obtain ⟨F, hF⟩ : ∃ F, F = qu4 ths l := ⟨_, rfl⟩
 rw [← hF]
 rw [qu4, ← hids] at hF
 simp only [zC, seval]
 refine qa7 l.length (fun k => [(1, .d (.sl (l.map qax.toD))), (5, .d (.sl (ids.map (D.int .i64)))), (6, .d (.int .i64 (atU ids l k))), (16, .d (.sl (l.map qax.toD))), (17, .d (.int .i64 l.length)), (18, .d (.int .i64 k))]) (fun _ => []) (fun k => qbe (uAt ids l) k = 0) rfl ?_ ?_
 ·refine qad [] [] rfl List.nodup_nil ?_ rfl
  simp only [zC, seval, Int.cast_ofNat_Int, atU, ← hids]
 ·intro k hi hk
  by_cases h : k < l.length
  ·have hb : ∀ e, uAt ids l k = e → e ≠ 0 → F = e := fun e h1 h2 => by
    have := qcf hi (by rw [h1]; exact h2) h
    rw [hF, this, h1, if_pos h2]
   obtain ⟨b, eb⟩ : ∃ b, b = l.getD k default := ⟨_, rfl⟩
   simp only [zC, seval, (show (k:Int) < l.length by omega), h, qat _ _ _ (show k < l.length by omega), ← eb]
   repeat ((with_reducible refine And.intro ?_ ?_); (focus (first | omega | (simp only [qa2]; omega) | (refine qq ?_; rfl) | (refine dq ?_; kernel_rfl) | (intros; simp_all; done))))
   refine qah (Qi1 ids b.thread hil) ?_
   obtain ⟨i, ei⟩ : ∃ i, i = Qop ids b.thread := ⟨_, rfl⟩
   rw [show qfj (fun y => b.thread == y) ids = i from by rw [ei]; rfl]
   have hi1 := Qe7 ids b.thread
   have hi2 : Qop ids b.thread < ids.length := qzs _ _
   rw [← ei] at hi1 hi2
   have hu : uAt ids l k = if i < 0 then 5 else if qlq b.lo b.hi = false then 2 else if qf9 b = false then 1 else if Qon ids l k = true then 11 else 0 := by rw [uAt, ← eb, ← ei]
   simp only [zC, seval]
   by_cases h1 : i < 0
   ·rw [if_pos h1] at hu
    simp only [zC, seval, (show i < 0 by omega)]
    refine ⟨_, _, qa0, ?_, rfl⟩
    rw [hb 5 hu (by omega)]
   ·rw [if_neg h1] at hu
    simp only [zC, seval, (show ¬ i < 0 by omega)]
    refine qah (qzp _ _) ?_
    cases h2 : qlq b.lo b.hi with
    | false =>
     simp only [zC, seval, Bool.not_false]
     refine ⟨_, _, qa0, ?_, rfl⟩
     rw [if_pos h2] at hu
     rw [hb 2 hu (by omega)]
    | true =>
     simp only [zC, seval, Bool.not_true]
     rw [if_neg (by rw [h2]; simp)] at hu
     refine qah (Qiy _) ?_
     cases h3 : qf9 b with
     | false =>
      simp only [zC, seval, Bool.not_false]
      refine ⟨_, _, qa0, ?_, rfl⟩
      rw [if_pos h3] at hu
      rw [hb 1 hu (by omega)]
     | true =>
      simp only [zC, seval, Bool.not_true]
      rw [if_neg (by rw [h3]; simp)] at hu
      have hge := Qmg ids l k
      have hlt := Qmf ids l k
      by_cases h4 : i = atU ids l k
      ·have hk0 : 0 < k := by
        rcases Nat.eq_zero_or_pos k with h0 | h0
        ·subst h0; simp only [atU] at h4; omega
        ·exact h0
       have e1 : IntKind.i64.wrap ((k : Int) - 1) = ((k - 1 : Nat) : Int) := by rw [qbl (by omega) (by omega)]; omega
       obtain ⟨a, ea⟩ : ∃ a, a = l.getD (k - 1) default := ⟨_, rfl⟩
       have e5 : (i == atU ids l k) = true := by simpa using h4
       have e6 : (i != atU ids l k) = false := by simpa using h4
       have ho : Qon ids l k = (b.lo != a.hi || Qmu b a) := by
        unfold Qon; simp only [← eb, ← ea, ← ei, e5, e6, Bool.true_and, Bool.false_and, Bool.or_false]
       simp only [zC, seval, e5, e1, (show ((k - 1 : Nat) : Int) < l.length by omega), (show k - 1 < l.length by omega), qat _ _ _ (show k - 1 < l.length by omega), ← ea]
       repeat ((with_reducible refine And.intro ?_ ?_); (focus (first | omega | (simp only [qa2]; omega) | (refine qq ?_; rfl) | (refine dq ?_; kernel_rfl) | (intros; simp_all; done))))
       refine qbs (fun _ => Qqt _ _) ?_
       simp only [zC, seval]
       repeat ((with_reducible refine And.intro ?_ ?_); (focus (first | omega | (simp only [qa2]; omega) | (refine qq ?_; rfl) | (refine dq ?_; kernel_rfl) | (intros; simp_all; done))))
       refine ifC.mk (fun h5 => ?_) (fun h5 => ?_)
       ·refine ⟨_, _, qa0, ?_, rfl⟩
        rw [if_pos (by rw [ho]; exact h5)] at hu
        rw [hb 11 hu (by omega)]
       ·rw [if_neg (by rw [ho, h5]; simp)] at hu
        simp only [zC, seval, e6]
        repeat ((with_reducible refine And.intro ?_ ?_); (focus (first | omega | (simp only [qa2]; omega) | (refine qq ?_; rfl) | (refine dq ?_; kernel_rfl) | (intros; simp_all; done))))
        refine ⟨qbq hi hu, ?_⟩
        refine qad [] [] rfl List.nodup_nil ?_ rfl
        simp only [zC, seval, @qai ((k:Int) + 1) (by omega), atU, ← eb, ← ei]
      ·have e5 : (i == atU ids l k) = false := by simpa using h4
       have e6 : (i != atU ids l k) = true := by simpa using h4
       have ho : Qon ids l k = (i != atU ids l k + 1 || b.lo != 0) := by
        unfold Qon; simp only [← eb, ← ei, e5, e6, Bool.true_and, Bool.false_and, Bool.false_or]
       by_cases hk0 : 0 < k
       ·have e1 : IntKind.i64.wrap ((k : Int) - 1) = ((k - 1 : Nat) : Int) := by rw [qbl (by omega) (by omega)]; omega
        simp only [zC, seval, e5, e1, (show ((k - 1 : Nat) : Int) < l.length by omega), (show k - 1 < l.length by omega), qat _ _ _ (show k - 1 < l.length by omega)]
        repeat ((with_reducible refine And.intro ?_ ?_); (focus (first | omega | (simp only [qa2]; omega) | (refine qq ?_; rfl) | (refine dq ?_; kernel_rfl) | (intros; simp_all; done))))
        refine qbs (v := .d (.bool false)) (fun h => by cases h) ?_
        simp only [zC, seval, e6, @qai (atU ids l k + 1) (by omega)]
        repeat ((with_reducible refine And.intro ?_ ?_); (focus (first | omega | (simp only [qa2]; omega) | (refine qq ?_; rfl) | (refine dq ?_; kernel_rfl) | (intros; simp_all; done))))
        refine ifC.mk (fun h5 => ?_) (fun h5 => ?_)
        ·refine ⟨_, _, qa0, ?_, rfl⟩
         rw [if_pos (by rw [ho]; exact h5)] at hu
         rw [hb 11 hu (by omega)]
        ·rw [if_neg (by rw [ho, h5]; simp)] at hu
         refine ⟨qbq hi hu, ?_⟩
         refine qad [] [] rfl List.nodup_nil ?_ rfl
         simp only [zC, seval, @qai ((k:Int) + 1) (by omega), atU, ← eb, ← ei]
       ·have e0 : (IntKind.i64.wrap ((k : Int) - 1)).toNat = 0 := by rw [qbl (by omega) (by omega)]; omega
        simp only [zC, seval, e5, e0, qat _ _ _ (show 0 < l.length by omega)]
        repeat ((with_reducible refine And.intro ?_ ?_); (focus (first | omega | (simp only [qa2]; omega) | (refine qq ?_; rfl) | (refine dq ?_; kernel_rfl) | (intros; simp_all; done))))
        refine qbs (v := .d (.bool false)) (fun h => by cases h) ?_
        simp only [zC, seval, e0, qat _ _ _ (show 0 < l.length by omega)]
        simp only [zC, seval, e6, @qai (atU ids l k + 1) (by omega)]
        repeat ((with_reducible refine And.intro ?_ ?_); (focus (first | omega | (simp only [qa2]; omega) | (refine qq ?_; rfl) | (refine dq ?_; kernel_rfl) | (intros; simp_all; done))))
        refine ifC.mk (fun h5 => ?_) (fun h5 => ?_)
        ·refine ⟨_, _, qa0, ?_, rfl⟩
         rw [if_pos (by rw [ho]; exact h5)] at hu
         rw [hb 11 hu (by omega)]
        ·rw [if_neg (by rw [ho, h5]; simp)] at hu
         refine ⟨qbq hi hu, ?_⟩
         refine qad [] [] rfl List.nodup_nil ?_ rfl
         simp only [zC, seval, @qai ((k:Int) + 1) (by omega), atU, ← eb, ← ei]
  ·simp only [zC, seval, (show ¬ (k:Int) < l.length by omega)]
   have : k = l.length := by omega
   subst this
   rw [hi, if_neg (by simp)] at hF
   by_cases h0 : l.length = 0
   ·simp only [zC, seval, h0, Int.cast_ofNat_Int]
    refine ⟨_, _, qa0, ?_, rfl⟩
    rw [hF, if_pos h0]
   ·rw [if_neg h0] at hF
    have e1 : IntKind.i64.wrap ((l.length : Int) - 1) = ((l.length - 1 : Nat) : Int) := by rw [qbl (by omega) (by omega)]; omega
    simp only [zC, seval, Qg5 (show ¬ ((l.length : Int) = 0) by omega), e1, (show ((l.length - 1 : Nat) : Int) < l.length by omega), (show l.length - 1 < l.length by omega), qat _ _ _ (show l.length - 1 < l.length by omega)]
    repeat ((with_reducible refine And.intro ?_ ?_); (focus (first | omega | (simp only [qa2]; omega) | (refine qq ?_; rfl) | (refine dq ?_; kernel_rfl) | (intros; simp_all; done))))
    refine qa7 l.length (fun k => [(1, .d (.sl (l.map qax.toD))), (5, .d (.sl (ids.map (D.int .i64)))), (6, .d (.int .i64 (atU ids l l.length))), (10, .d (.int .i64 (l.getD (l.length - 1) default).hi)), (94, .d (.sl (l.map qax.toD))), (95, .d (.int .i64 l.length)), (96, .d (.int .i64 k))]) (fun _ => []) (fun k => (List.range k).all (q5p l) = true) rfl ?_ ?_
    ·refine qad [] [] rfl List.nodup_nil ?_ rfl
     simp only [zC, seval, Int.cast_ofNat_Int]
    ·intro k hj hk
     by_cases h : k < l.length
     ·obtain ⟨b, eb⟩ : ∃ b, b = l.getD k default := ⟨_, rfl⟩
      have hbad : q5p l k = false → F = 11 := fun h1 => by rw [hF, if_pos (qep h h1)]
      by_cases hL : k + 1 = l.length
      ·have eL : ((k:Int) + 1 == (l.length : Int)) = true := Qmh (show (k:Int) + 1 = l.length by omega)
       have hat : q5p l k = !(b.hi != (l.getD (l.length - 1) default).hi) := by unfold q5p; rw [eL, ← eb]; simp
       simp only [zC, seval, (show (k:Int) < l.length by omega), h, qat _ _ _ (show k < l.length by omega), ← eb, @qai ((k:Int) + 1) (by omega), eL]
       repeat ((with_reducible refine And.intro ?_ ?_); (focus (first | omega | (simp only [qa2]; omega) | (refine qq ?_; rfl) | (refine dq ?_; kernel_rfl) | (intros; simp_all; done))))
       refine ifC.mk (fun h5 => ?_) (fun h5 => ?_)
       ·refine ⟨_, _, qa0, ?_, rfl⟩
        rw [hbad (by rw [hat, h5]; rfl)]
       ·refine ⟨by rw [qff, hj, hat, h5]; rfl, ?_⟩
        refine qad [] [] rfl List.nodup_nil ?_ rfl
        simp only [zC, seval, @qai ((k:Int) + 1) (by omega)]
      ·have eL : ((k:Int) + 1 == (l.length : Int)) = false := Qg5 (show ¬ ((k:Int) + 1 = l.length) by omega)
       have hat : q5p l k = !((l.getD (k + 1) default).thread != b.thread && b.hi != (l.getD (l.length - 1) default).hi) := by unfold q5p; rw [eL, ← eb, Bool.false_or]
       have e3 : ((k:Int) + 1).toNat = k + 1 := by omega
       simp only [zC, seval, (show (k:Int) < l.length by omega), h, qat _ _ _ (show k < l.length by omega), ← eb, @qai ((k:Int) + 1) (by omega), eL, e3, (show (0:Int) ≤ (k:Int) + 1 by omega), (show (k:Int) + 1 < l.length by omega), (show k + 1 < l.length by omega), qat _ _ _ (show k + 1 < l.length by omega)]
       repeat ((with_reducible refine And.intro ?_ ?_); (focus (first | omega | (simp only [qa2]; omega) | (refine qq ?_; rfl) | (refine dq ?_; kernel_rfl) | (intros; simp_all; done))))
       refine ifC.mk (fun h5 => ?_) (fun h5 => ?_)
       ·refine ⟨_, _, qa0, ?_, rfl⟩
        rw [hbad (by rw [hat, h5]; rfl)]
       ·refine ⟨by rw [qff, hj, hat, h5]; rfl, ?_⟩
        refine qad [] [] rfl List.nodup_nil ?_ rfl
        simp only [zC, seval, @qai ((k:Int) + 1) (by omega)]
     ·simp only [zC, seval, (show ¬ (k:Int) < l.length by omega)]
      have : k = l.length := by omega
      subst this
      rw [if_neg (by rw [hj]; simp)] at hF
      have hge := Qmg ids l l.length
      have hlt := Qmf ids l l.length
      simp only [zC, seval, @qai (atU ids l l.length + 1) (by omega)]
      refine ifC.mk (fun h5 => ?_) (fun h5 => ?_)
      ·refine ⟨_, _, qa0, ?_, rfl⟩
       rw [hF, if_neg (by simpa using h5)]
      ·refine ⟨_, _, qa0, ?_, rfl⟩
       rw [hF, if_pos (by simpa using h5)]

def qmh (t : qa4) : Int := if qdu t.threads ≠ 0 then qdu t.threads else
 if qcq (qm6 t.slices) (quh t.threads) (fun x => x.thread) t.slices ≠ 0 then qcq (qm6 t.slices) (quh t.threads) (fun x => x.thread) t.slices else
 if qu4 t.threads t.states ≠ 0 then qu4 t.threads t.states else
 if qcq (qcq (q5l t.flows) (quh t.threads) (fun x => x.ft) t.flows) (quh t.threads) (fun x => x.tt) t.flows ≠ 0 then qcq (qcq (q5l t.flows) (quh t.threads) (fun x => x.ft) t.flows) (quh t.threads) (fun x => x.tt) t.flows else
 if qcq (qj2 t.samples) (quh t.threads) (fun x => x.thread) t.samples ≠ 0 then qcq (qj2 t.samples) (quh t.threads) (fun x => x.thread) t.samples else
 if q4g t.steps ≠ 0 then q4g t.steps else
 if qcq (bkF t.blocks) (quh t.threads) (fun x => x.thread) t.blocks ≠ 0 then qcq (bkF t.blocks) (quh t.threads) (fun x => x.thread) t.blocks else Qd4 (quh t.threads) t.lost
theorem qzj (t : qa4) (ht : t.Few) (h : qdu t.threads ≠ 0) : qbw Tryz.prog Gl 98 [.d t.toD] (.tup [.d (.raw (.map none)), .d (.int .i64 (qdu t.threads))]) := by
 refine qbw.of1t2 ((q3c t ht).mono fun r s hr => ?_)
 rw [if_neg h] at hr
 exact hr
theorem q3b (t : qa4) (ht : t.Few) (h : qdu t.threads = 0) (σ : Sto) : qaf Tryz.prog Gl 98 [.d t.toD] σ (fun r s => r = .tup [.mapr σ.length, .d (.int .i64 0)] ∧ s = σ ++ [.map (some .i64) (mapOf t.threads)]) := by
 refine (Qfn (P := Tryz.prog) (Gl := Gl) (f := 98) (args := [t.toD]) (B := .map (some .i64) (mapOf t.threads)) (r := .tup [.mapr 0, .d (.int .i64 0)]) (qfy _) ((q3c t ht).mono fun r s hr => ?_) σ).mono fun r s hr => ?_
 ·rw [if_pos h] at hr
  exact hr
 ·obtain ⟨rfl, rfl⟩ := hr
  exact ⟨rfl, rfl⟩
theorem Qim (t : qa4) (ht : t.Few) : qbw Tryz.prog Gl 53 [.d t.toD] (.d (.int .i64 (qmh t))) := by
 refine qbw.of1 ?_
 obtain ⟨F, hF⟩ : ∃ F, F = qmh t := ⟨_, rfl⟩
 rw [← hF]
 rw [qmh] at hF
 have hst := qfy t.threads
 have hf := qov t.threads
 refine qac Tryz.func53 rfl rfl (by simp [Tryz.ntmps53]) (qab rfl _ _ _ _ ?_)
 simp only [Tryz.ntmps53, Tryz.results53, qak, List.length_nil]
 simp only [zC, seval]
 by_cases hT : qdu t.threads = 0
 ·rw [if_neg (by rw [hT]; simp)] at hF
  refine qaq ((q3b t ht hT _).mono fun r s hr => ?_)
  obtain ⟨rfl, rfl⟩ := hr
  simp only [zC, seval]
  repeat ((with_reducible refine And.intro ?_ ?_); (focus (first | omega | (simp only [qa2]; omega) | (refine qq ?_; rfl) | (refine dq ?_; kernel_rfl) | (intros; simp_all; done))))
  refine qah (q3e _ ht.slices) ?_
  simp only [zC, seval]
  refine qdm 1 (q3g _ _ Qei _ _ _ hst hf _ ht.slices) (fun s => rfl) (by rfl) hst ?_
  simp only [zC, seval]
  repeat ((with_reducible refine And.intro ?_ ?_); (focus (first | omega | (simp only [qa2]; omega) | (refine qq ?_; rfl) | (refine dq ?_; kernel_rfl) | (intros; simp_all; done))))
  refine ifC.mk (fun h1 => ?_) (fun h1 => ?_)
  ·have h1 := bne_iff_ne.1 h1
   refine ⟨_, _, qa0, ?_, rfl⟩
   rw [hF, if_pos h1]
  ·have h1 : qcq (qm6 t.slices) (quh t.threads) (fun x => x.thread) t.slices = 0 := by simpa using h1
   rw [if_neg (by rw [h1]; simp)] at hF
   repeat ((with_reducible refine And.intro ?_ ?_); (focus (first | omega | (simp only [qa2]; omega) | (refine qq ?_; rfl) | (refine dq ?_; kernel_rfl) | (intros; simp_all; done))))
   refine qah (q3d _ ht.threads _ ht.states) ?_
   simp only [zC, seval]
   refine ifC.mk (fun h2 => ?_) (fun h2 => ?_)
   ·have h2 := bne_iff_ne.1 h2
    refine ⟨_, _, qa0, ?_, rfl⟩
    rw [hF, if_pos h2]
   ·have h2 : qu4 t.threads t.states = 0 := by simpa using h2
    rw [if_neg (by rw [h2]; simp)] at hF
    repeat ((with_reducible refine And.intro ?_ ?_); (focus (first | omega | (simp only [qa2]; omega) | (refine qq ?_; rfl) | (refine dq ?_; kernel_rfl) | (intros; simp_all; done))))
    refine qah (q44 _ ht.flows) ?_
    simp only [zC, seval]
    refine qdm 1 (qs4 _ _ Qeh _ _ _ hst hf _ ht.flows) (fun s => rfl) (by rfl) hst ?_
    simp only [zC, seval]
    repeat ((with_reducible refine And.intro ?_ ?_); (focus (first | omega | (simp only [qa2]; omega) | (refine qq ?_; rfl) | (refine dq ?_; kernel_rfl) | (intros; simp_all; done))))
    refine qdm 1 (qs4 _ _ Qeg _ _ _ hst hf _ ht.flows) (fun s => rfl) (by rfl) hst ?_
    simp only [zC, seval]
    repeat ((with_reducible refine And.intro ?_ ?_); (focus (first | omega | (simp only [qa2]; omega) | (refine qq ?_; rfl) | (refine dq ?_; kernel_rfl) | (intros; simp_all; done))))
    refine ifC.mk (fun h3 => ?_) (fun h3 => ?_)
    ·have h3 := bne_iff_ne.1 h3
     refine ⟨_, _, qa0, ?_, rfl⟩
     rw [hF, if_pos h3]
    ·have h3 : qcq (qcq (q5l t.flows) (quh t.threads) (fun x => x.ft) t.flows) (quh t.threads) (fun x => x.tt) t.flows = 0 := by simpa using h3
     rw [if_neg (by rw [h3]; simp)] at hF
     repeat ((with_reducible refine And.intro ?_ ?_); (focus (first | omega | (simp only [qa2]; omega) | (refine qq ?_; rfl) | (refine dq ?_; kernel_rfl) | (intros; simp_all; done))))
     refine qah (qzk _ ht.sst ht.samples) ?_
     simp only [zC, seval]
     refine qdm 1 (qzm _ _ Qef _ _ _ hst hf _ ht.samples) (fun s => rfl) (by rfl) hst ?_
     simp only [zC, seval]
     repeat ((with_reducible refine And.intro ?_ ?_); (focus (first | omega | (simp only [qa2]; omega) | (refine qq ?_; rfl) | (refine dq ?_; kernel_rfl) | (intros; simp_all; done))))
     refine ifC.mk (fun h4 => ?_) (fun h4 => ?_)
     ·have h4 := bne_iff_ne.1 h4
      refine ⟨_, _, qa0, ?_, rfl⟩
      rw [hF, if_pos h4]
     ·have h4 : qcq (qj2 t.samples) (quh t.threads) (fun x => x.thread) t.samples = 0 := by simpa using h4
      rw [if_neg (by rw [h4]; simp)] at hF
      repeat ((with_reducible refine And.intro ?_ ?_); (focus (first | omega | (simp only [qa2]; omega) | (refine qq ?_; rfl) | (refine dq ?_; kernel_rfl) | (intros; simp_all; done))))
      refine qah (q40 _ ht.steps) ?_
      simp only [zC, seval]
      refine ifC.mk (fun h5 => ?_) (fun h5 => ?_)
      ·have h5 := bne_iff_ne.1 h5
       refine ⟨_, _, qa0, ?_, rfl⟩
       rw [hF, if_pos h5]
      ·have h5 : q4g t.steps = 0 := by simpa using h5
       rw [if_neg (by rw [h5]; simp)] at hF
       repeat ((with_reducible refine And.intro ?_ ?_); (focus (first | omega | (simp only [qa2]; omega) | (refine qq ?_; rfl) | (refine dq ?_; kernel_rfl) | (intros; simp_all; done))))
       refine qah (Qe0 _ ht.bst ht.blocks) ?_
       simp only [zC, seval]
       refine qdm 1 (q3h _ _ Qee _ _ _ hst hf _ ht.blocks) (fun s => rfl) (by rfl) hst ?_
       simp only [zC, seval]
       repeat ((with_reducible refine And.intro ?_ ?_); (focus (first | omega | (simp only [qa2]; omega) | (refine qq ?_; rfl) | (refine dq ?_; kernel_rfl) | (intros; simp_all; done))))
       refine ifC.mk (fun h6 => ?_) (fun h6 => ?_)
       ·have h6 := bne_iff_ne.1 h6
        refine ⟨_, _, qa0, ?_, rfl⟩
        rw [hF, if_pos h6]
       ·have h6 : qcq (bkF t.blocks) (quh t.threads) (fun x => x.thread) t.blocks = 0 := by simpa using h6
        rw [if_neg (by rw [h6]; simp)] at hF
        repeat ((with_reducible refine And.intro ?_ ?_); (focus (first | omega | (simp only [qa2]; omega) | (refine qq ?_; rfl) | (refine dq ?_; kernel_rfl) | (intros; simp_all; done))))
        refine qdm 1 (Qiu _ _ hst hf _ ht.lost) (fun s => rfl) (by rfl) hst ?_
        simp only [zC, seval]
        repeat ((with_reducible refine And.intro ?_ ?_); (focus (first | omega | (simp only [qa2]; omega) | (refine qq ?_; rfl) | (refine dq ?_; kernel_rfl) | (intros; simp_all; done))))
        refine ⟨_, _, qa0, ?_, rfl⟩
        rw [hF]
 ·rw [if_pos hT] at hF
  refine qah (qzj t ht hT) ?_
  simp only [zC, seval]
  repeat ((with_reducible refine And.intro ?_ ?_); (focus (first | omega | (simp only [qa2]; omega) | (refine qq ?_; rfl) | (refine dq ?_; kernel_rfl) | (intros; simp_all; done))))
  refine ifC.mk (fun h1 => ?_) (fun h1 => ?_)
  ·refine ⟨_, _, qa0, ?_, rfl⟩
   rw [hF]
  ·exact absurd (by simpa using h1) hT
def qkh (t : qa4) : Int := if qmh t ≠ 0 then qmh t else if (decide (t.lo < 0) || decide (t.hi < t.lo) || decide (1000000000000 < t.hi)) = true then 2 else if q8t t = true then 10 else 0
theorem q3a (t : qa4) (ht : t.Few) : qbw Tryz.prog Gl 25 [.d t.toD] (.d (.int .i64 (qkh t))) := by
 refine qbw.of1 ?_
 obtain ⟨F, hF⟩ : ∃ F, F = qkh t := ⟨_, rfl⟩
 rw [← hF]
 rw [qkh] at hF
 refine qac Tryz.func25 rfl rfl (by simp [Tryz.ntmps25]) (qab rfl _ _ _ _ ?_)
 simp only [Tryz.ntmps25, Tryz.results25, qak, List.length_nil]
 simp only [zC, seval]
 refine qah (Qim t ht) ?_
 simp only [zC, seval]
 refine ifC.mk (fun h1 => ?_) (fun h1 => ?_)
 ·have h1 := bne_iff_ne.1 h1
  refine ⟨_, _, qa0, ?_, rfl⟩
  rw [hF, if_pos h1]
 ·have h1 : qmh t = 0 := by simpa using h1
  rw [if_neg (by rw [h1]; simp)] at hF
  repeat ((with_reducible refine And.intro ?_ ?_); (focus (first | omega | (simp only [qa2]; omega) | (refine qq ?_; rfl) | (refine dq ?_; kernel_rfl) | (intros; simp_all; done))))
  refine ifC.mk (fun h2 => ?_) (fun h2 => ?_)
  ·refine ⟨_, _, qa0, ?_, rfl⟩
   rw [hF, if_pos h2]
  ·rw [if_neg (by rw [h2]; simp)] at hF
   refine qah (Qek t ht) ?_
   simp only [zC, seval]
   refine ifC.mk (fun h3 => ?_) (fun h3 => ?_)
   ·refine ⟨_, _, qa0, ?_, rfl⟩
    rw [hF, if_pos h3]
   ·refine ⟨_, _, qa0, ?_, rfl⟩
    rw [hF, if_neg (by rw [h3]; simp)]

theorem zU : type_of% (And.intro @zC (And.intro @qpl @qpm)) := And.intro @zC (And.intro @qpl @qpm)
def eqS (x : List UInt8) : List UInt8 → Bool := fun y => y == x
def hid (l : List qap) (what x : List UInt8) : Bool := qke what x l == q4k
def qfd (l : List qap) (what : List UInt8) (out : List (List UInt8)) (x : List UInt8) : List (List UInt8) := if (hid l what x && !out.any (eqS x)) = true then out ++ [x] else out
def qf4 (l : List qap) (what : List UInt8) (s : List (List UInt8)) : List (List UInt8) := s.foldl (qfd l what) []
theorem Qba {α β : Type} [Inhabited α] (f : β → α → β) (b : β) (l : List α) (k : Nat) (h : k < l.length) : (l.take (k + 1)).foldl f b = f ((l.take k).foldl f b) (l.getD k default) := by
 rw [qa1 l k h, List.foldl_append]; rfl
theorem q6x (l : List qap) (what : List UInt8) : ∀ (s out : List (List UInt8)), (s.foldl (qfd l what) out).length ≤ out.length + s.length
 | [], out => by simp
 | x :: s, out => by
  have := q6x l what s (qfd l what out x)
  have h2 : (qfd l what out x).length ≤ out.length + 1 := by
   unfold qfd; split <;> simp
  simp only [List.foldl_cons, List.length_cons]; omega
theorem Qcg (l : List qap) (what : List UInt8) (s : List (List UInt8)) : (qf4 l what s).length ≤ s.length := by
 have := q6x l what s []
 simpa [qf4] using this
def qdj (l : List qap) (what x : List UInt8) : Bool := (qke what x l == qfe) && qpu x qda
def qeu (l : List qap) (what : List UInt8) (s : List (List UInt8)) : Bool := !(qf4 l what s).isEmpty && s.any (qdj l what)
theorem Qga {n : Nat} (h : n < 10000000) : (Lib.decDigits n).length ≤ 7 := by
 rw [Lib.decDigits_length]
 rw [Lib.nDigits]; split
 ·omega
 rw [Lib.nDigits]; split
 ·omega
 rw [Lib.nDigits]; split
 ·omega
 rw [Lib.nDigits]; split
 ·omega
 rw [Lib.nDigits]; split
 ·omega
 rw [Lib.nDigits]; split
 ·omega
 rw [Lib.nDigits]; split
 ·omega
 exfalso; omega
def qpb (H : List (List UInt8)) (x : List UInt8) : List UInt8 := if qfj (eqS x) H < 0 then x else qda ++ Lib.decDigits (qfj (eqS x) H + 1).toNat
def qc8 (l : List qap) (what x : List UInt8) : Bool := qke what x l == qt9
def Qm6 (l : List qap) (what : List UInt8) (H s : List (List UInt8)) : List (List UInt8) := (s.filter fun x => !qc8 l what x).map (qpb H)
def Qql (l : List qap) (what : List UInt8) (s : List (List UInt8)) : List (List UInt8) := Qm6 l what (qf4 l what s) s
def q4b (l : List qap) (what : List UInt8) (s : List (List UInt8)) : Int :=
 if qme l ≠ 0 then qme l else if Qec what = false then 1
 else if qbe (fun i => qdo (s.getD i default)) s.length ≠ 0 then qbe (fun i => qdo (s.getD i default)) s.length
 else if qeu l what s = true then 4 else 0
def qzc (l : List qap) (what : List UInt8) (s : List (List UInt8)) : List (List UInt8) := if q4b l what s = 0 then Qql l what s else []
theorem Qh7 (l : List qap) (what : List UInt8) (H s : List (List UInt8)) : (Qm6 l what H s).length ≤ s.length := by
 rw [Qm6, List.length_map]; exact List.length_filter_le _ _
end YtljpopkonkanlaaGreatDoor
end Go.Proofs


namespace Go.Proofs
open Go.Shelf
def Tryz.laysM171_ren : Go.Shelf.Ren := ⟨fun | 171 => 132 | 243 => 185 | 246 => 208 | 283 => 215 | 284 => 216 | 285 => 217 | 286 => 218 | 129 => 224 | 317 => 223 | 318 => 225 | 319 => 226 | 320 => 227 | 337 => 228 | 338 => 229 | n => n, fun | 3 => 3 | 9 => 9 | 2 => 2 | 4 => 4 | 171 => 203 | 0 => 0 | 53 => 204 | 37 => 207 | 5 => 5 | 173 => 208 | 212 => 217 | 51 => 218 | 20 => 20 | 213 => 219 | 46 => 201 | 232 => 222 | 233 => 223 | n => n, fun | 17 => 3 | 18 => 4 | 19 => 5 | n => n⟩
theorem Tryz.laysM171 : Go.Proofs.LaysM.n171 Tryz.prog Tryz.laysM171_ren := {
 mixed := by kernel_rfl
 f129 := Tryz.func224.trans (congrArg some (by kernel_rfl))
 f171 := Tryz.func132.trans (congrArg some (by kernel_rfl))
 f243 := Tryz.func185.trans (congrArg some (by kernel_rfl))
 f246 := Tryz.func208.trans (congrArg some (by kernel_rfl))
 f283 := Tryz.func215.trans (congrArg some (by kernel_rfl))
 f284 := Tryz.func216.trans (congrArg some (by kernel_rfl))
 f285 := Tryz.func217.trans (congrArg some (by kernel_rfl))
 f286 := Tryz.func218.trans (congrArg some (by kernel_rfl))
 f317 := Tryz.func223.trans (congrArg some (by kernel_rfl))
 f318 := Tryz.func225.trans (congrArg some (by kernel_rfl))
 f319 := Tryz.func226.trans (congrArg some (by kernel_rfl))
 f320 := Tryz.func227.trans (congrArg some (by kernel_rfl))
 f337 := Tryz.func228.trans (congrArg some (by kernel_rfl))
 f338 := Tryz.func229.trans (congrArg some (by kernel_rfl))
 t0 := Tryz.underlying0
 a0 := Tryz.isAgg0
 z0 := Tryz.sizeOf0
 v0 := Tryz.zeroValue0
 t2 := Tryz.underlying2
 a2 := Tryz.isAgg2
 z2 := Tryz.sizeOf2
 v2 := Tryz.zeroValue2
 t3 := Tryz.underlying3
 a3 := Tryz.isAgg3
 z3 := Tryz.sizeOf3
 v3 := Tryz.zeroValue3
 t4 := Tryz.underlying4
 a4 := Tryz.isAgg4
 z4 := Tryz.sizeOf4
 v4 := Tryz.zeroValue4
 t5 := Tryz.underlying5
 a5 := Tryz.isAgg5
 z5 := Tryz.sizeOf5
 v5 := Tryz.zeroValue5
 t9 := Tryz.underlying9
 a9 := Tryz.isAgg9
 z9 := Tryz.sizeOf9
 v9 := Tryz.zeroValue9
 t20 := Tryz.underlying20
 a20 := Tryz.isAgg20
 z20 := Tryz.sizeOf20
 v20 := Tryz.zeroValue20
 t37 := Tryz.underlying207
 a37 := Tryz.isAgg207
 z37 := Tryz.sizeOf207
 v37 := Tryz.zeroValue207
 t46 := Tryz.underlying201
 a46 := Tryz.isAgg201
 z46 := Tryz.sizeOf201
 v46 := Tryz.zeroValue201
 t51 := Tryz.underlying218
 a51 := Tryz.isAgg218
 z51 := Tryz.sizeOf218
 v51 := Tryz.zeroValue218
 t53 := Tryz.underlying204
 a53 := Tryz.isAgg204
 z53 := Tryz.sizeOf204
 v53 := Tryz.zeroValue204
 t171 := Tryz.underlying203
 a171 := Tryz.isAgg203
 z171 := Tryz.sizeOf203
 v171 := Tryz.zeroValue203
 t173 := Tryz.underlying208
 a173 := Tryz.isAgg208
 z173 := Tryz.sizeOf208
 v173 := Tryz.zeroValue208
 t212 := Tryz.underlying217
 a212 := Tryz.isAgg217
 z212 := Tryz.sizeOf217
 v212 := Tryz.zeroValue217
 t213 := Tryz.underlying219
 a213 := Tryz.isAgg219
 z213 := Tryz.sizeOf219
 t232 := Tryz.underlying222
 a232 := Tryz.isAgg222
 z232 := Tryz.sizeOf222
 v232 := Tryz.zeroValue222
 t233 := Tryz.underlying223
 a233 := Tryz.isAgg223
 z233 := Tryz.sizeOf223
 v233 := Tryz.zeroValue223
 g17 := by kernel_rfl
 g18 := by kernel_rfl
 g19 := by kernel_rfl
 i0 := by kernel_rfl
 i2 := by kernel_rfl
 i3 := by kernel_rfl
 i4 := by kernel_rfl
 i5 := by kernel_rfl
 i9 := by kernel_rfl
 i20 := by kernel_rfl
 i37 := by kernel_rfl
 i46 := by kernel_rfl
 i51 := by kernel_rfl
 i53 := by kernel_rfl
 i171 := by kernel_rfl
 i173 := by kernel_rfl
 i212 := by kernel_rfl
 i232 := by kernel_rfl
 i233 := by kernel_rfl
 m17 := by kernel_rfl
 m18 := by kernel_rfl
 m19 := by kernel_rfl }
open Go.RowKit Go.Sort Go.Lib in
theorem Tryz.strconv_Itoa (n : Int) (h0 : -9223372036854775808 ≤ n) (h1 : n ≤ 9223372036854775807) (w : World) (htab : Lib.TabIs Tryz.prog w "internal/strconv.uint64pow10" .u64 Lib.pow10Tab) :
  Calls Tryz.prog 132 #[.int .i64 n] w fun e w' => e = .returned (.string ⟨(Lib.itoa n).toArray⟩) ∧ ∃ k os, w' = grow (w.drewN k) os := Any.strconv_Itoa Tryz.laysM171 n h0 h1 w htab
end Go.Proofs

set_option maxRecDepth 100000
namespace Go.Proofs
open Go.AM
namespace YtljpopkonkanlaaGreatDoor
def Qsr (g : Nat) : qa5 := [(g, .agg (Lib.pow10Tab.map fun z => .int .u64 z))]
theorem qpn : Tryz.prog.globalNamed "internal/strconv.uint64pow10" = some 3 := by kernel_rfl
abbrev G2 : qa5 := Qsr 3
theorem Qqy (n : Int) (h0 : -9223372036854775808 ≤ n) (h1 : n ≤ 9223372036854775807) : qbw Tryz.prog G2 132 [.d (.int .i64 n)] (.d (.str (Lib.itoa n))) :=
 qy7 Tryz.func132 (by kernel_rfl) (by kernel_rfl) (fun w I μ σ vals hv hl => Qcn hv hl) (fun w I hG => Tryz.strconv_Itoa n h0 h1 w (q4f hG qpn)) (fun w I μ σ => .d _ _ (.str _))
theorem Qqx (n : Nat) (h : n < 10000000) : qbw Tryz.prog G2 61 [.d (.int .i64 n)] (.d (.str (Lib.decDigits n))) := by
 refine qbw.of1 ?_
 refine qac Tryz.func61 rfl rfl (by simp [Tryz.ntmps61]) (qab rfl _ _ _ _ ?_)
 simp only [Tryz.ntmps61, Tryz.results61, qak, List.length_nil]
 simp only [zU, seval]
 refine qah (Qqy n (by omega) (by omega)) ?_
 simp only [zU, seval]
 have e : Lib.itoa (n : Int) = Lib.decDigits n := by rw [Lib.itoa, if_neg (by omega)]; rfl
 rw [← e]
 exact ⟨_, _, qa0, rfl, rfl⟩
def qby (g : List UInt8 → Option (List UInt8)) : Key → Option AV
 | .s n => (g n).map fun v => .d (.str v)
 | .i _ => none
def Qoj (g : List UInt8 → Option (List UInt8)) (n v : List UInt8) : List UInt8 → Option (List UInt8) := fun m => if m = n then some v else g m
theorem q6j (g : List UInt8 → Option (List UInt8)) (n : List UInt8) : qby g (.s n) = (g n).map fun v => .d (.str v) := rfl
theorem Qbs (g : List UInt8 → Option (List UInt8)) (n v : List UInt8) : qfx (qby g) (.s n) (.d (.str v)) = qby (Qoj g n v) := by
 funext k
 cases k with
 | i m => simp [qfx, qby]
 | s m => by_cases h : m = n <;> simp [qfx, qby, Qoj, h]
theorem qiu (g : List UInt8 → Option (List UInt8)) (ρ : List Nat) (σ : Sto) : (fun k => (qby g k).map (qbf ρ σ)) = qby g := by
 funext k
 cases k with
 | i m => rfl
 | s m => simp only [qby]; cases g m <;> simp [qbf, qjd]
theorem qxv (g : List UInt8 → Option (List UInt8)) : ∀ k v, qby g k = some v → ∃ d, v = .d d := by
 intro k v h
 cases k with
 | i m => cases h
 | s m => simp only [qby] at h; cases e : g m with
  | none => rw [e] at h; cases h
  | some u => rw [e] at h; cases h; exact ⟨_, rfl⟩
def qhl (l : List qap) (what x : List UInt8) : Bool := qke what x l == qfe
def qc9 (l : List qap) (what : List UInt8) (s : List (List UInt8)) : List UInt8 → Option (List UInt8) := fun x =>
 if s.any (eqS x) = true ∧ (hid l what x || qhl l what x) = true then some (qpb (qf4 l what s) x) else none
theorem qkn (l : List qap) (what x : List UInt8) : ∀ (s out : List (List UInt8)), (s.foldl (qfd l what) out).any (eqS x) = (out.any (eqS x) || (s.any (eqS x) && hid l what x))
 | [], out => by simp
 | y :: s, out => by
  rw [List.foldl_cons, qkn l what x s, List.any_cons]
  by_cases hy : eqS x y = true
  ·have e : y = x := by simpa [eqS] using hy
   subst e
   rw [hy, Bool.true_or, Bool.true_and]
   unfold qfd
   cases h1 : hid l what y <;> cases h2 : out.any (eqS y) <;> simp [h2, List.any_append, eqS]
  ·have hy : eqS x y = false := by simpa using hy
   rw [hy, Bool.false_or]
   congr 1
   unfold qfd
   split
   ·rw [List.any_append]; simp [hy]
   ·rfl
theorem qgx (l : List qap) (what x : List UInt8) (s : List (List UInt8)) : (qf4 l what s).any (eqS x) = (s.any (eqS x) && hid l what x) := by
 rw [qf4, qkn]; rfl
theorem q0p (l : List qap) (what x : List UInt8) (s : List (List UInt8)) : qf4 l what (s ++ [x]) = qfd l what (qf4 l what s) x := by
 rw [qf4, List.foldl_append]; rfl
theorem qs9 {α : Type} (p : α → Bool) (x : α) : ∀ l : List α, qfj p (l ++ [x]) = if qfj p l < 0 then (if p x = true then (l.length : Int) else -1) else qfj p l
 | [] => by
  simp only [List.nil_append, qfj]
  split <;> simp
 | y :: l => by
  have ih := qs9 p x l
  have hg := qio p l
  simp only [List.cons_append, qfj, ih, List.length_cons]
  by_cases h : p y = true
  ·simp [h]
  ·simp only [h, if_false]
   by_cases h1 : qfj p l < 0
   ·have e : qfj p l = -1 := by omega
    simp only [e]
    by_cases hx : p x = true
    ·simp [hx]
    ·simp [hx]
   ·have e1 : ¬ qfj p l = -1 := by omega
    simp [h1, e1]; omega
theorem qgi {l : List qap} {what x : List UInt8} {s : List (List UInt8)} (h : hid l what x = true → s.any (eqS x) = true) : qf4 l what (s ++ [x]) = qf4 l what s := by
 rw [q0p, qfd, if_neg]
 intro hc
 simp only [Bool.and_eq_true, Bool.not_eq_true'] at hc
 have := qgx l what x s
 rw [h hc.1, hc.1, hc.2] at this
 cases this
theorem q6w {l : List qap} {what x : List UInt8} {s : List (List UInt8)} (h1 : hid l what x = true) (h2 : s.any (eqS x) = false) : qf4 l what (s ++ [x]) = qf4 l what s ++ [x] := by
 rw [q0p, qfd, if_pos]
 rw [qgx, h2, h1]; rfl
theorem Qcq {H : List (List UInt8)} {x y : List UInt8} (h : H.any (eqS y) = true ∨ x ≠ y) : qpb (H ++ [x]) y = qpb H y := by
 have h2 : qfj (eqS y) (H ++ [x]) = qfj (eqS y) H := by
  rw [qs9]
  have hg := qdl (eqS y) H
  have hge := qio (eqS y) H
  by_cases h0 : qfj (eqS y) H < 0
  ·rw [if_pos h0]
   have ha : H.any (eqS y) = false := by rw [← hg]; simp; omega
   rcases h with h | h
   ·rw [ha] at h; cases h
   ·rw [if_neg (by simpa [eqS] using h)]; omega
  ·rw [if_neg h0]
 rw [qpb, h2]; rfl
theorem Qcr {H : List (List UInt8)} {x : List UInt8} (h : H.any (eqS x) = false) : qpb H x = x := by
 have hg := qdl (eqS x) H
 rw [h] at hg
 rw [qpb, if_pos (by simp at hg; omega)]
theorem Qcs {H : List (List UInt8)} {x : List UInt8} (h : H.any (eqS x) = false) : qpb (H ++ [x]) x = qda ++ Lib.decDigits (H.length + 1) := by
 have hg := qdl (eqS x) H
 rw [h] at hg
 have e : qfj (eqS x) (H ++ [x]) = H.length := by
  rw [qs9, if_pos (by simp at hg; omega), if_pos (by simp [eqS])]
 rw [qpb, e, if_neg (by omega)]
 congr 2
theorem qo2 {x y : List UInt8} : eqS x y = true ↔ y = x := by simp [eqS]
theorem qmb (s : List (List UInt8)) (x y : List UInt8) : (s ++ [x]).any (eqS y) = (s.any (eqS y) || eqS y x) := by simp [List.any_append]
theorem Qe9 {l : List qap} {what x : List UInt8} {s : List (List UInt8)} (h : s.any (eqS x) = true) : qc9 l what (s ++ [x]) = qc9 l what s := by
 funext y
 rw [qc9, qc9, qgi (fun _ => h), qmb]
 have : (s.any (eqS y) || eqS y x) = s.any (eqS y) := by
  cases e : eqS y x with
  | false => rw [Bool.or_false]
  | true => rw [qo2.1 e] at h; rw [h]; rfl
 rw [this]
theorem Qfa {l : List qap} {what x : List UInt8} {s : List (List UInt8)} (h1 : hid l what x = false) (h2 : qhl l what x = false) : qc9 l what (s ++ [x]) = qc9 l what s := by
 funext y
 rw [qc9, qc9, qgi (fun h => by rw [h1] at h; cases h), qmb]
 by_cases e : eqS y x = true
 ·have := qo2.1 e; subst this
  rw [h1, h2]; simp
 ·have e : eqS y x = false := by simpa using e
  rw [e, Bool.or_false]
theorem Qi8 {l : List qap} {what x : List UInt8} {s : List (List UInt8)} (h1 : hid l what x = true) (h2 : s.any (eqS x) = false) : qc9 l what (s ++ [x]) = Qoj (qc9 l what s) x (qda ++ Lib.decDigits ((qf4 l what s).length + 1)) := by
 have h3 : (qf4 l what s).any (eqS x) = false := by rw [qgx, h2]; rfl
 funext y
 rw [Qoj, qc9, qc9, q6w h1 h2, qmb]
 by_cases e : eqS y x = true
 ·have := qo2.1 e; subst this
  rw [e, Bool.or_true, h1, if_pos ⟨rfl, rfl⟩, if_pos rfl, Qcs h3]
 ·have e0 : x ≠ y := fun h => e (qo2.2 h)
  have e : eqS y x = false := by simpa using e
  rw [e, Bool.or_false, Qcq (.inr e0), if_neg (show ¬ y = x from fun h => e0 h.symm)]
theorem Qfb {l : List qap} {what x : List UInt8} {s : List (List UInt8)} (h1 : qhl l what x = true) (h2 : s.any (eqS x) = false) (h3 : hid l what x = false) : qc9 l what (s ++ [x]) = Qoj (qc9 l what s) x x := by
 have h4 : (qf4 l what s).any (eqS x) = false := by rw [qgx, h2]; rfl
 funext y
 rw [Qoj, qc9, qc9, qgi (fun h => by rw [h3] at h; cases h), qmb]
 by_cases e : eqS y x = true
 ·have := qo2.1 e; subst this
  rw [e, Bool.or_true, h1, h3, if_pos ⟨rfl, rfl⟩, if_pos rfl, Qcr h4]
 ·have e0 : x ≠ y := fun h => e (qo2.2 h)
  have e : eqS y x = false := by simpa using e
  rw [e, Bool.or_false, if_neg (show ¬ y = x from fun h => e0 h.symm)]
theorem Qnc {l : List qap} {what x : List UInt8} {s : List (List UInt8)} (h : s.any (eqS x) = true) : (s ++ [x]).any (qdj l what) = s.any (qdj l what) := by
 rw [List.any_append, List.any_cons, List.any_nil, Bool.or_false]
 cases e : qdj l what x with
 | false => rw [Bool.or_false]
 | true =>
  obtain ⟨y, hy, hxy⟩ := List.any_eq_true.1 h
  have := qo2.1 hxy; subst this
  rw [List.any_eq_true.2 ⟨y, hy, e⟩]; rfl
theorem Qso {l : List qap} {what x : List UInt8} {s : List (List UInt8)} (h : qhl l what x = false) : (s ++ [x]).any (qdj l what) = s.any (qdj l what) := by
 rw [List.any_append, List.any_cons, List.any_nil, Bool.or_false, qdj, show (qke what x l == qfe) = false from h, Bool.false_and, Bool.or_false]
theorem Qss {l : List qap} {what x : List UInt8} {s : List (List UInt8)} (h : qhl l what x = true) : (s ++ [x]).any (qdj l what) = (s.any (qdj l what) || qpu x qda) := by
 rw [List.any_append, List.any_cons, List.any_nil, Bool.or_false, qdj, show (qke what x l == qfe) = true from h, Bool.true_and]
theorem q5i {l : List qap} {what x : List UInt8} (h : hid l what x = true) : qhl l what x = false := by
 rw [hid, beq_iff_eq] at h
 rw [qhl, h]; rfl
theorem qtb (a : List D) (b : List UInt8) (g : List UInt8 → Option (List UInt8)) : qdb [0, 1] (freezeL [.box 3 (.agg [.d (.sl a), .d (.str b), .mapr 1]), .map none (qby g)] []) = [.box 3 (.agg [.d (.sl a), .d (.str b), .mapr 1]), .map none (qby g)] := by
 show [qbu [0, 1] _ (.box 3 (.agg [.d (.sl a), .d (.str b), .mapr 1])), .map none (fun k => (qby g k).map (qbf [0, 1] _))] = _
 rw [qiu]; rfl
theorem qxz (l : List qap) (what : List UInt8) (s : List (List UInt8)) (hl : l.length < 1000000) (hs : s.length < 1000000) : qaf Tryz.prog G2 36 [.d (.sl (l.map qap.toD)), .d (.str what), .d (.sl (s.map .str))] []
  (fun r σ => r = .tup [.ptr 0 0, .d (.bool (!qeu l what s))] ∧ σ = [.box 3 (.agg [.d (.sl (l.map qap.toD)), .d (.str what), .mapr 1]), .map none (qby (qc9 l what s))]) := by
 refine qac Tryz.func36 rfl rfl (by simp [Tryz.ntmps36]) (qab rfl _ _ _ _ ?_)
 simp only [Tryz.ntmps36, Tryz.results36, qak, List.length_nil]
 simp only [zU, seval]
 repeat ((with_reducible refine And.intro ?_ ?_); (focus (first | omega | (simp only [qa2]; omega) | (refine qq ?_; rfl) | (refine dq ?_; kernel_rfl) | (intros; simp_all; done))))
 refine qa7 s.length (fun k => [(0, .d (.sl (l.map qap.toD))), (1, .d (.str what)), (8, .ptr 0 0), (9, .d (.int .i64 (qf4 l what (s.take k)).length)), (10, .d (.bool ((s.take k).any (qdj l what)))), (20, .d (.sl (s.map .str))), (21, .d (.int .i64 s.length)), (22, .d (.int .i64 k))])
  (fun k => [.box 3 (.agg [.d (.sl (l.map qap.toD)), .d (.str what), .mapr 1]), .map none (qby (qc9 l what (s.take k)))]) (fun _ => True) trivial ?_ ?_
 ·refine qad [] [1, 0] rfl (by simp) ?_ ?_
  ·simp only [zU, seval]
   all_goals rfl
  ·have e : qby (qc9 l what (List.take 0 s)) = fun _ => none := by
    funext k; cases k <;> simp [qby, qc9]
   rw [e]; rfl
 ·intro k _ hk
  have hyl := Qcg l what (s.take k)
  rw [List.length_take] at hyl
  by_cases h : k < s.length
  ·obtain ⟨x, hx⟩ : ∃ x, x = s.getD k default := ⟨_, rfl⟩
   have ht : s.take (k + 1) = s.take k ++ [x] := by rw [qa1 s k h, ← hx]
   have hg : (s.map D.str).getD k default = .str x := by rw [qat _ _ _ h, hx]
   obtain ⟨p, hp⟩ : ∃ p, p = s.take k := ⟨_, rfl⟩
   rw [← hp] at ht hyl ⊢
   rw [ht]
   by_cases hh : p.any (eqS x) = true ∧ (hid l what x || qhl l what x) = true
   ·have e : qc9 l what p x = some (qpb (qf4 l what p) x) := by rw [qc9, if_pos hh]
    rw [qgi (fun _ => hh.1), Qe9 hh.1]
    simp only [zU, seval, (show (k:Int) < s.length by omega), h, hg, q6j, e, Option.map_some, Option.getD_some, Option.isSome_some]
    repeat ((with_reducible refine And.intro ?_ ?_); (focus (first | omega | (simp only [qa2]; omega) | (refine qq ?_; rfl) | (refine dq ?_; kernel_rfl) | (intros; simp_all; done))))
    refine qad [] [0, 1] rfl (by simp) ?_ ?_
    ·simp only [zU, seval, @qai ((k:Int) + 1) (by omega), Qnc hh.1]
     all_goals rfl
    ·exact qtb _ _ _
   have e : qc9 l what p x = none := by rw [qc9, if_neg hh]
   simp only [zU, seval, (show (k:Int) < s.length by omega), h, hg, q6j, e, Option.map_none, Option.getD_none, Option.isSome_none]
   repeat ((with_reducible refine And.intro ?_ ?_); (focus (first | omega | (simp only [qa2]; omega) | (refine qq ?_; rfl) | (refine dq ?_; kernel_rfl) | (intros; simp_all; done))))
   refine qah (qez l what x hl) ?_
   simp only [zU, seval]
   refine ifC.mk (fun h1 => ?_) (fun h1 => ?_)
   ·have h1 : hid l what x = true := h1
    have h2 : p.any (eqS x) = false := by
     cases e2 : p.any (eqS x) with
     | false => rfl
     | true => exact absurd ⟨e2, by rw [h1]; rfl⟩ hh
    rw [q6w h1 h2, Qi8 h1 h2, Qso (q5i h1)]
    (try simp only [zU, seval, @qai (((qf4 l what p).length : Int) + 1) (by omega)])
    repeat ((with_reducible refine And.intro ?_ ?_); (focus (first | omega | (simp only [qa2]; omega) | (refine qq ?_; rfl) | (refine dq ?_; kernel_rfl) | (intros; simp_all; done))))
    refine qah (Qqx ((qf4 l what p).length + 1) (by omega)) ?_
    have hdl := Qga (n := (qf4 l what p).length + 1) (by omega)
    simp only [zU, seval]
    repeat ((with_reducible refine And.intro ?_ ?_); (focus (first | omega | (simp only [qa2]; omega) | (refine qq ?_; rfl) | (refine dq ?_; kernel_rfl) | (intros; simp_all; done))))
    refine qad [] [0, 1] rfl (by simp) ?_ ?_
    ·simp only [zU, seval, @qai ((k:Int) + 1) (by omega)]
     all_goals rfl
    ·simp only [zU, seval, Qbs]
     exact qtb _ _ _
   ·have h1 : hid l what x = false := h1
    refine ifC.mk (fun h3 => ?_) (fun h3 => ?_)
    ·have h3 : qhl l what x = true := h3
     have h2 : p.any (eqS x) = false := by
      cases e2 : p.any (eqS x) with
      | false => rfl
      | true => exact absurd ⟨e2, by rw [h3]; simp⟩ hh
     rw [qgi (fun h => by rw [h1] at h; cases h), Qfb h3 h2 h1, Qss h3]
     (try simp only [zU, seval])
     refine qbs (fun _ => qs7 _ _) ?_
     simp only [zU, seval]
     repeat ((with_reducible refine And.intro ?_ ?_); (focus (first | omega | (simp only [qa2]; omega) | (refine qq ?_; rfl) | (refine dq ?_; kernel_rfl) | (intros; simp_all; done))))
     refine qad [] [0, 1] rfl (by simp) ?_ ?_
     ·simp only [zU, seval, @qai ((k:Int) + 1) (by omega)]
      all_goals rfl
     ·simp only [zU, seval, Qbs]
      exact qtb _ _ _
    ·have h3 : qhl l what x = false := h3
     rw [qgi (fun h => by rw [h1] at h; cases h), Qfa h1 h3, Qso h3]
     refine qad [] [0, 1] rfl (by simp) ?_ ?_
     ·simp only [zU, seval, @qai ((k:Int) + 1) (by omega)]
      all_goals rfl
     ·exact qtb _ _ _
  ·have : k = s.length := by omega
   subst this
   simp only [zU, seval, (show ¬ (s.length:Int) < s.length by omega), List.take_length]
   refine ⟨_, _, qae [] [0, 1] rfl (by simp) (show qbf _ _ _ = AV.tup [.ptr 0 0, .d _] from rfl) (qtb _ _ _), ?_, rfl⟩
   rw [qeu]
   cases e : qf4 l what s with
   | nil => rfl
   | cons a b =>
    have e2 : (((a :: b).length : Int) == 0) = false := by simp; omega
    rw [e2]; cases s.any (qdj l what) <;> rfl

def q37 (g : List UInt8 → Option (List UInt8)) (s : List (List UInt8)) : List (List UInt8) := s.filterMap g
theorem Qrd {g : List UInt8 → Option (List UInt8)} {s : List (List UInt8)} {x v : List UInt8} (h : g x = some v) : q37 g (s ++ [x]) = q37 g s ++ [v] := by
 rw [q37, List.filterMap_append]; simp [h, q37]
theorem Qre {g : List UInt8 → Option (List UInt8)} {s : List (List UInt8)} {x : List UInt8} (h : g x = none) : q37 g (s ++ [x]) = q37 g s := by
 rw [q37, List.filterMap_append]; simp [h, q37]
theorem Qog (g : List UInt8 → Option (List UInt8)) (s : List (List UInt8)) : (q37 g s).length ≤ s.length := List.length_filterMap_le _ _
theorem q88 (a : List D) (b : List UInt8) (g : List UInt8 → Option (List UInt8)) (xs : List D) : qdb [0, 1, 2] (freezeL [.box 3 (.agg [.d (.sl a), .d (.str b), .mapr 1]), .map none (qby g), .arr 1 xs] []) = [.box 3 (.agg [.d (.sl a), .d (.str b), .mapr 1]), .map none (qby g), .arr 1 xs] := by
 show [qbu [0, 1, 2] _ (.box 3 (.agg [.d (.sl a), .d (.str b), .mapr 1])), .map none (fun k => (qby g k).map (qbf [0, 1, 2] _)), _] = _
 rw [qiu]; rfl
theorem Qi6 (a : List D) (b : List UInt8) (g : List UInt8 → Option (List UInt8)) (σ : Sto) : qdb [0, 1] (freezeL (.box 3 (.agg [.d (.sl a), .d (.str b), .mapr 1]) :: .map none (qby g) :: σ) []) = [.box 3 (.agg [.d (.sl a), .d (.str b), .mapr 1]), .map none (qby g)] := by
 show [qbu [0, 1] _ (.box 3 (.agg [.d (.sl a), .d (.str b), .mapr 1])), .map none (fun k => (qby g k).map (qbf [0, 1] _))] = _
 rw [qiu]; rfl
theorem Qi7 (a : List D) (b : List UInt8) (g : List UInt8 → Option (List UInt8)) (xs : List D) (B1 B2 : Blk) : qdb [0, 1, 4] (freezeL [.box 3 (.agg [.d (.sl a), .d (.str b), .mapr 1]), .map none (qby g), B1, B2, .arr 1 xs] []) = [.box 3 (.agg [.d (.sl a), .d (.str b), .mapr 1]), .map none (qby g), .arr 1 xs] := by
 show [qbu [0, 1, 4] _ (.box 3 (.agg [.d (.sl a), .d (.str b), .mapr 1])), .map none (fun k => (qby g k).map (qbf [0, 1, 4] _)), _] = _
 rw [qiu]; rfl
theorem Qnj {Gl : qa5} (a : List D) (b : List UInt8) (g : List UInt8 → Option (List UInt8)) (s : List (List UInt8)) (hs : s.length < 1000000) : qaf Tryz.prog Gl 37 [.ptr 0 0, .d (.sl (s.map .str))] [.box 3 (.agg [.d (.sl a), .d (.str b), .mapr 1]), .map none (qby g)]
  (fun r σ => r = .d (.sl ((q37 g s).map .str)) ∧ σ = [.box 3 (.agg [.d (.sl a), .d (.str b), .mapr 1]), .map none (qby g)]) := by
 refine qac Tryz.func37 rfl rfl (by simp [Tryz.ntmps37]) (qab rfl _ _ _ _ ?_)
 simp only [Tryz.ntmps37, Tryz.results37, qak, List.length_nil]
 simp only [zU, seval]
 refine qa7 s.length (fun k => [(0, .ptr 0 0), (5, .osl 2 0 (q37 g (s.take k)).length), (10, .d (.sl (s.map .str))), (11, .d (.int .i64 s.length)), (12, .d (.int .i64 k))])
  (fun k => [.box 3 (.agg [.d (.sl a), .d (.str b), .mapr 1]), .map none (qby g), .arr 1 ((q37 g (s.take k)).map .str)]) (fun _ => True) trivial ?_ ?_
 ·refine (qhs 5 1 rfl).trans ?_
  refine qad [] [0, 1, 2] rfl (by simp) ?_ ?_
  ·simp only [zU, seval]
   all_goals rfl
  ·exact q88 _ _ _ _
 ·intro k _ hk
  have hyl := Qog g (s.take k)
  rw [List.length_take] at hyl
  by_cases h : k < s.length
  ·obtain ⟨x, hx⟩ : ∃ x, x = s.getD k default := ⟨_, rfl⟩
   have ht : s.take (k + 1) = s.take k ++ [x] := by rw [qa1 s k h, ← hx]
   have hg : (s.map D.str).getD k default = .str x := by rw [qat _ _ _ h, hx]
   obtain ⟨p, hp⟩ : ∃ p, p = s.take k := ⟨_, rfl⟩
   rw [← hp] at ht hyl ⊢
   rw [ht]
   cases e : g x with
   | none =>
    rw [Qre e]
    simp only [zU, seval, (show (k:Int) < s.length by omega), h, hg, q6j, e, Option.map_none, Option.getD_none, Option.isSome_none]
    repeat ((with_reducible refine And.intro ?_ ?_); (focus (first | omega | (simp only [qa2]; omega) | (refine qq ?_; rfl) | (refine dq ?_; kernel_rfl) | (intros; simp_all; done))))
    refine qad [] [0, 1, 2] rfl (by simp) ?_ ?_
    ·simp only [zU, seval, @qai ((k:Int) + 1) (by omega)]
     all_goals rfl
    ·exact q88 _ _ _ _
   | some v =>
    rw [Qrd e]
    simp only [zU, seval, (show (k:Int) < s.length by omega), h, hg, q6j, e, Option.map_some, Option.getD_some, Option.isSome_some]
    repeat ((with_reducible refine And.intro ?_ ?_); (focus (first | omega | (simp only [qa2]; omega) | (refine qq ?_; rfl) | (refine dq ?_; kernel_rfl) | (intros; simp_all; done))))
    (try simp only [zU, seval, qba])
    repeat ((with_reducible refine And.intro ?_ ?_); (focus (first | omega | (simp only [qa2]; omega) | (refine qq ?_; rfl) | (refine dq ?_; kernel_rfl) | (intros; simp_all; done))))
    rw [List.map_append]
    refine qad [] [0, 1, 4] rfl (by simp) ?_ ?_
    ·simp only [zU, seval, @qai ((k:Int) + 1) (by omega)]
     all_goals rfl
    ·exact Qi7 _ _ _ _ _ _
  ·have : k = s.length := by omega
   subst this
   simp only [zU, seval, (show ¬ (s.length:Int) < s.length by omega), List.take_length]
   refine ⟨_, _, (qcw rfl).trans (qae [] [0, 1] rfl (by simp) (show qbf _ _ _ = AV.d _ from rfl) (Qi6 _ _ _ _)), ?_, rfl⟩
   simp only [zU, seval, qba]
theorem q90 (what x : List UInt8) : ∀ l : List qap, qke what x l = qfe ∨ ∃ r ∈ l, qke what x l = r.action
 | [] => .inl rfl
 | r :: l => by
  rw [qke]
  by_cases h : Qi5 what x r = true
  ·rw [if_pos h]; exact .inr ⟨r, List.mem_cons_self, rfl⟩
  ·rw [if_neg h]
   rcases q90 what x l with h1 | ⟨q, hq, h1⟩
   ·exact .inl h1
   ·exact .inr ⟨q, List.mem_cons_of_mem _ hq, h1⟩
theorem q5k {α : Type} [Inhabited α] {l : List α} {x : α} (h : x ∈ l) : ∃ k, k < l.length ∧ l.getD k default = x := by
 obtain ⟨k, hk, e⟩ := List.getElem_of_mem h
 exact ⟨k, hk, by simp [hk, e]⟩
theorem Qjn {l : List qap} (h : qme l = 0) {r : qap} (hr : r ∈ l) : Qod r = false ∧ (r.prefix_ = [] ∨ qdo r.prefix_ = 0) := by
 rw [qme] at h
 split at h
 ·cases h
 ·obtain ⟨k, hk, rfl⟩ := q5k hr
  have := qlz h k hk
  simp only [q0q] at this
  split at this
  ·cases this
  ·rename_i hb
   refine ⟨by simpa using hb, ?_⟩
   split at this
   ·rename_i hp; exact .inl hp
   ·exact .inr this
theorem Qg3 {l : List qap} (h : qme l = 0) (what x : List UInt8) : qke what x l = qfe ∨ qke what x l = q4k ∨ qke what x l = qt9 := by
 rcases q90 what x l with h1 | ⟨r, hr, h1⟩
 ·exact .inl h1
 ·have hb := (Qjn h hr).1
  rw [h1]
  rw [Qod, Bool.or_eq_false_iff] at hb
  have h2 := hb.2
  by_cases e1 : r.action = qfe
  ·exact .inl e1
  by_cases e2 : r.action = q4k
  ·exact .inr (.inl e2)
  by_cases e3 : r.action = qt9
  ·exact .inr (.inr e3)
  exfalso
  rw [show (r.action == qfe) = false by simpa using e1, show (r.action == q4k) = false by simpa using e2, show (r.action == qt9) = false by simpa using e3] at h2
  cases h2
theorem Qrg {l : List qap} (h : qme l = 0) (what x : List UInt8) : (hid l what x || qhl l what x) = !qc8 l what x := by
 rcases Qg3 h what x with e | e | e <;> rw [hid, qhl, qc8, e] <;> rfl
theorem qo0 {α β : Type} {f : α → Option β} {p : α → Bool} {g : α → β} : ∀ (s : List α), (∀ x ∈ s, f x = if p x = true then some (g x) else none) → s.filterMap f = (s.filter p).map g
 | [], _ => rfl
 | x :: s, h => by
  have ih := qo0 s fun y hy => h y (List.mem_cons_of_mem _ hy)
  have h1 := h x List.mem_cons_self
  by_cases hp : p x = true
  ·rw [if_pos hp] at h1
   rw [List.filterMap_cons, h1, List.filter_cons, if_pos hp, List.map_cons, ih]
  ·rw [if_neg hp] at h1
   rw [List.filterMap_cons, h1, List.filter_cons, if_neg hp, ih]
theorem Qjv {s : List (List UInt8)} {x : List UInt8} (h : x ∈ s) : s.any (eqS x) = true := List.any_eq_true.2 ⟨x, h, qo2.2 rfl⟩
theorem Qnn {l : List qap} (h : qme l = 0) (what : List UInt8) {S : List (List UInt8)} {x : List UInt8} (hx : x ∈ S) : qc9 l what S x = if (!qc8 l what x) = true then some (qpb (qf4 l what S) x) else none := by
 rw [qc9, Qjv hx, Qrg h]; simp
theorem Qjy {l : List qap} (h : qme l = 0) (what : List UInt8) {S s : List (List UInt8)} (hs : ∀ x ∈ s, x ∈ S) : q37 (qc9 l what S) s = Qm6 l what (qf4 l what S) s := by
 rw [q37, Qm6]
 exact qo0 _ fun x hx => Qnn h what (hs x hx)
theorem Qof {l : List qap} (h : qme l = 0) (what : List UInt8) (s : List (List UInt8)) : q37 (qc9 l what s) s = Qql l what s := Qjy h what fun _ hx => hx
theorem Qe1 (l : List qap) (what : List UInt8) (s : List (List UInt8)) (hl : l.length < 1000000) (hs : s.length < 1000000) : qbw Tryz.prog G2 15 [.d (.sl (l.map qap.toD)), .d (.str what), .d (.sl (s.map .str))] (.tup [.d (.sl ((qzc l what s).map .str)), .d (.int .i64 (q4b l what s))]) := by
 refine qbw.of3t2 ?_
 refine qac Tryz.func15 rfl rfl (by simp [Tryz.ntmps15]) (qab rfl _ _ _ _ ?_)
 simp only [Tryz.ntmps15, Tryz.results15, qak, List.length_nil]
 simp only [zU, seval]
 refine qah (q5g l hl) ?_
 simp only [zU, seval]
 refine ifC.mk (fun h0 => ?_) (fun h0 => ?_)
 ·have h0 : qme l ≠ 0 := by simpa using h0
  have e : q4b l what s = qme l := by rw [q4b, if_pos h0]
  refine ⟨_, _, qdc rfl rfl, ?_, rfl⟩
  rw [qzc, e, if_neg h0]; rfl
 have h0 : qme l = 0 := by simpa using h0
 (try simp only [zU, seval])
 refine qah (Qlx what) ?_
 simp only [zU, seval]
 refine ifC.mk (fun h1 => ?_) (fun h1 => ?_)
 ·have h1 : Qec what = false := by simpa using h1
  have e : q4b l what s = 1 := by rw [q4b, if_neg (by rw [h0]; simp), if_pos h1]
  refine ⟨_, _, qdc rfl rfl, ?_, rfl⟩
  rw [qzc, e, if_neg (by decide)]; rfl
 have h1 : ¬ Qec what = false := by simpa using h1
 have e1 : q4b l what s = if qbe (fun i => qdo (s.getD i default)) s.length ≠ 0 then qbe (fun i => qdo (s.getD i default)) s.length
   else if qeu l what s = true then 4 else 0 := by rw [q4b, if_neg (by rw [h0]; simp), if_neg h1]
 (try simp only [zU, seval])
 refine qa7 s.length (fun k => [(0, .d (.sl (l.map qap.toD))), (1, .d (.str what)), (2, .d (.sl (s.map .str))), (22, .d (.sl (s.map .str))), (23, .d (.int .i64 s.length)), (24, .d (.int .i64 k))]) (fun _ => []) (fun k => qbe (fun i => qdo (s.getD i default)) k = 0) rfl ?_ ?_
 ·refine qad [] [] rfl List.nodup_nil ?_ rfl
  simp only [zU, seval]
  all_goals rfl
 intro k hi hk
 by_cases h : k < s.length
 ·have hst := ql0 hi
  simp only [zU, seval, (show (k:Int) < s.length by omega), h, qat _ _ _ (show k < s.length by omega)]
  repeat ((with_reducible refine And.intro ?_ ?_); (focus (first | omega | (simp only [qa2]; omega) | (refine qq ?_; rfl) | (refine dq ?_; kernel_rfl) | (intros; simp_all; done))))
  refine qah (qx1 _) ?_
  simp only [zU, seval]
  refine ifC.mk (fun h2 => ?_) (fun h2 => ?_)
  ·have h2 : qdo (s.getD k default) ≠ 0 := by simpa using h2
   have e2 := qcf hi h2 h
   have e : q4b l what s = qdo (s.getD k default) := by rw [e1, e2, if_pos h2]
   refine ⟨_, _, qdc rfl rfl, ?_, rfl⟩
   rw [qzc, e, if_neg h2]; rfl
  ·have h2 : qdo (s.getD k default) = 0 := by simpa using h2
   refine ⟨by rw [hst, h2], ?_⟩
   refine qad [] [] rfl List.nodup_nil ?_ rfl
   simp only [zU, seval, @qai ((k:Int) + 1) (by omega)]
   all_goals rfl
 have : k = s.length := by omega
 subst this
 rw [if_neg (by rw [hi]; simp)] at e1
 simp only [zU, seval, (show ¬ (s.length:Int) < s.length by omega)]
 refine qaq ((qxz l what s hl hs).mono fun r σ ⟨er, es⟩ => ?_)
 subst er es
 simp only [zU, seval]
 refine ifC.mk (fun h2 => ?_) (fun h2 => ?_)
 ·have h2 : qeu l what s = true := by simpa using h2
  rw [if_pos h2] at e1
  refine ⟨_, _, qdc rfl rfl, ?_, rfl⟩
  rw [qzc, e1, if_neg (by decide)]; rfl
 have h2 : qeu l what s = false := by simpa using h2
 rw [if_neg (by rw [h2]; simp)] at e1
 (try simp only [zU, seval])
 refine qaq ((Qnj (l.map qap.toD) what (qc9 l what s) s hs).mono fun r σ ⟨er, es⟩ => ?_)
 subst er es
 simp only [zU, seval]
 refine ⟨_, _, qu7, ?_, rfl⟩
 rw [qzc, e1, if_pos rfl, Qof h0]
end YtljpopkonkanlaaGreatDoor
end Go.Proofs

set_option maxRecDepth 100000
namespace Go.Proofs
open Go.AM
namespace YtljpopkonkanlaaGreatDoor
variable {Gl : qa5}
def qt5 (s : List UInt8) : List D := (List.range 256).map fun q => .bool (s.any fun c => c.toNat == q)
theorem q6u (s : List UInt8) {q : Nat} (h : q < 256) : (qt5 s).getD q default = .bool (s.any fun c => c.toNat == q) := by simp [qt5, h]
theorem qy0 (s : List UInt8) : (qt5 s).length = 256 := by simp [qt5]
theorem qx0 (s : List UInt8) (c : UInt8) : qaf Tryz.prog Gl 191 [.ptr 0 0, .d (.int .u8 (c.toNat : Int))] [.box 256 (.d (.agg (qt5 s)))] (fun r σ => r = .d (.bool (s.any fun x => x == c)) ∧ σ = [.box 256 (.d (.agg (qt5 s)))]) := by
 refine qac Tryz.func191 rfl rfl (by simp [Tryz.ntmps191]) (qab rfl _ _ _ _ ?_)
 simp only [Tryz.ntmps191, Tryz.results191, qak, List.length_nil]
 simp only [zU, seval]
 have hc : c.toNat < 256 := c.toNat_lt
 refine ⟨⟨rfl, by omega, by omega, by omega⟩, by omega, _, _, qae [] [0] rfl (by simp) (show qbf _ _ _ = AV.d _ from rfl) rfl, ?_, rfl⟩
 rw [Nat.mul_one, q6u s hc]
 congr 2
 congr 1
 funext x
 rw [Bool.eq_iff_iff]
 simp [UInt8.toNat_inj]
theorem Qhv (p : List UInt8) (x : UInt8) : List.map (fun j => if x.toNat * 1 ≤ j ∧ j < x.toNat * 1 + 1 then AV.d ([D.bool true].getD (j - x.toNat * 1) default) else AV.d ((qt5 p).getD j default)) (List.range 256) = (qt5 (p ++ [x])).map AV.d := by
 refine List.ext_getElem (by simp [qt5]) fun j h1 h2 => ?_
 have hj : j < 256 := by simpa using h1
 simp only [List.getElem_map, List.getElem_range]
 rw [q6u p hj]
 have e : (qt5 (p ++ [x]))[j]'(by simpa [qt5] using hj) = .bool ((p ++ [x]).any fun c => c.toNat == j) := by simp [qt5]
 rw [e, List.any_append]
 by_cases h : x.toNat = j
 ·rw [if_pos (by omega), show j - x.toNat * 1 = 0 by omega]
  simp [h]
 ·rw [if_neg (by omega)]
  simp [h]
theorem Qel (s : List UInt8) (hs : s.length < 1000) (ha : ∀ c ∈ s, c.toNat < 128) : qbw Tryz.prog Gl 152 [.d (.str s)] (.tup [.d (.agg (qt5 s)), .d (.bool true)]) := by
 refine qbw.of1t2 ?_
 refine qac Tryz.func152 rfl rfl (by simp [Tryz.ntmps152]) (qab rfl _ _ _ _ ?_)
 simp only [Tryz.ntmps152, Tryz.results152, qak, List.length_nil]
 simp only [zU, seval]
 refine qa7 s.length (fun k => [(0, .d (.str s)), (2, .ptr 0 0), (4, .d (.int .i64 k))]) (fun k => [.box 256 (.d (.agg (qt5 (s.take k))))]) (fun _ => True) trivial ?_ ?_
 ·refine qad [] [0] rfl (by simp) ?_ ?_
  ·simp only [zU, seval]
   all_goals rfl
  ·have e : qt5 [] = List.replicate 256 (D.bool false) := by
    refine List.ext_getElem (by rw [qy0, List.length_replicate]) fun j h1 h2 => ?_
    rw [List.getElem_replicate]; simp [qt5]
   rw [List.take_zero, e]; rfl
 ·intro k _ hk
  by_cases h : k < s.length
  ·obtain ⟨x, hx⟩ : ∃ x, x = s.getD k default := ⟨_, rfl⟩
   have ht : s.take (k + 1) = s.take k ++ [x] := by rw [qa1 s k h, ← hx]
   have hd : s.getD k 0 = x := by rw [hx]; rfl
   have hxa := ha x (by rw [hx]; exact qct h)
   simp only [zU, seval, (show (k:Int) < s.length by omega), hd]
   repeat ((with_reducible refine And.intro ?_ ?_); (focus (first | omega | (simp only [qa2]; omega) | (refine qq ?_; rfl) | (refine dq ?_; kernel_rfl) | (intros; simp_all; done))))
   refine ifC.mk (fun h1 => ?_) (fun h1 => ?_)
   ·exfalso; simp at h1; omega
   refine ⟨⟨rfl, by omega, by omega, by omega⟩, by omega, h, ?_⟩
   refine qad [] [0] rfl (by simp) ?_ ?_
   ·simp only [zU, seval, @qai ((k:Int) + 1) (by omega)]
    all_goals rfl
   ·rw [ht, Qhv, Qjz]
    rfl
  ·have : k = s.length := by omega
   subst this
   simp only [zU, seval, (show ¬ (s.length:Int) < s.length by omega), List.take_length]
   exact ⟨qy0 s, _, _, qu7, rfl, rfl⟩
def inS (cs : List UInt8) (c : UInt8) : Bool := cs.any fun x => x == c
def qo8 (cs s : List UInt8) : List UInt8 := (s.reverse.dropWhile (inS cs)).reverse
def q4d (cs s : List UInt8) : List UInt8 := s.dropWhile (inS cs)
theorem quy (cs v : List UInt8) (c : UInt8) : qo8 cs (v ++ [c]) = if inS cs c = true then qo8 cs v else v ++ [c] := by
 rw [qo8, List.reverse_append, List.reverse_singleton, List.singleton_append, List.dropWhile_cons]
 split
 ·rfl
 ·rw [List.reverse_cons, List.reverse_reverse]
theorem q4z (s cs : List UInt8) (hs : s.length < 9223372036854775808) : qaf Tryz.prog Gl 154 [.d (.str s), .ptr 0 0] [.box 256 (.d (.agg (qt5 cs)))] (fun r σ => r = .d (.str (qo8 cs s)) ∧ σ = [.box 256 (.d (.agg (qt5 cs)))]) := by
 refine qac Tryz.func154 rfl rfl (by simp [Tryz.ntmps154]) (qab rfl _ _ _ _ ?_)
 simp only [Tryz.ntmps154, Tryz.results154, qak, List.length_nil]
 simp only [zU, seval]
 refine qck (τ := List UInt8) (fun u => [(0, .d (.str u)), (1, .ptr 0 0)]) (fun _ => [.box 256 (.d (.agg (qt5 cs)))]) (fun u => u.length ≤ s.length ∧ qo8 cs u = qo8 cs s) (fun u => u.length) s ?_ ?_ ?_
 ·exact ⟨Nat.le_refl _, rfl⟩
 ·refine qad [] [0] rfl (by simp) ?_ rfl
  simp only [zU, seval]
  try rfl
 ·rintro u ⟨h1, h2⟩
  rcases List.eq_nil_or_concat u with rfl | ⟨v, c, rfl⟩
  ·simp only [zU, seval]
   refine ⟨_, _, qae [] [0] rfl (by simp) (show qbf _ _ _ = AV.d _ from rfl) rfl, ?_, rfl⟩
   rw [← h2]; rfl
  ·rw [List.concat_eq_append] at h1 h2 ⊢
   have hl : (v ++ [c]).length = v.length + 1 := by simp
   rw [hl] at h1
   have e1 : decide (0 < ((v ++ [c]).length : Int)) = true := decide_eq_true (by omega)
   have e2 : (v ++ [c]).getD v.length 0 = c := by simp
   have e3 : (v ++ [c]).take v.length = v := by simp
   have e0 : (v.length : Int) + 1 - 1 = v.length := by omega
   simp only [zU, seval, hl, (show (0:Int) < (v.length : Int) + 1 by omega), @qai ((v.length : Int)) (by omega), e0, (show (v.length : Int) < (v.length : Int) + 1 by omega), Int.toNat_natCast, e2]
   repeat ((with_reducible refine And.intro ?_ ?_); (focus (first | omega | (simp only [qa2]; omega) | (refine qq ?_; rfl) | (refine dq ?_; kernel_rfl) | (intros; simp_all; done))))
   refine qaq ((qx0 cs c).mono fun r σ ⟨er, es⟩ => ?_)
   subst er es
   simp only [zU, seval]
   have e4 : (cs.any fun x => x == c) = inS cs c := rfl
   rw [e4]
   rw [quy] at h2
   refine ifC.mk (fun hc => ?_) (fun hc => ?_)
   ·have hc : inS cs c = false := by simpa using hc
    rw [if_neg (by rw [hc]; simp)] at h2
    refine ⟨_, _, qae [] [0] rfl (by simp) (show qbf _ _ _ = AV.d _ from rfl) rfl, ?_, rfl⟩
    rw [← h2]
   ·have hc : inS cs c = true := by simpa using hc
    rw [if_pos hc] at h2
    (try simp only [zU, seval, hl, @qai ((v.length : Int)) (by omega), e0, e3, Int.toNat_natCast])
    repeat ((with_reducible refine And.intro ?_ ?_); (focus (first | omega | (simp only [qa2]; omega) | (refine qq ?_; rfl) | (refine dq ?_; kernel_rfl) | (intros; simp_all; done))))
    refine ⟨v, ⟨by omega, h2⟩, by omega, ?_⟩
    refine qad [] [0] rfl (by simp) ?_ rfl
    simp only [zU, seval]
    try rfl
theorem Qas (s cs : List UInt8) (hs : s.length < 9223372036854775808) : qaf Tryz.prog Gl 153 [.d (.str s), .ptr 0 0] [.box 256 (.d (.agg (qt5 cs)))] (fun r σ => r = .d (.str (q4d cs s)) ∧ σ = [.box 256 (.d (.agg (qt5 cs)))]) := by
 refine qac Tryz.func153 rfl rfl (by simp [Tryz.ntmps153]) (qab rfl _ _ _ _ ?_)
 simp only [Tryz.ntmps153, Tryz.results153, qak, List.length_nil]
 simp only [zU, seval]
 refine qck (τ := List UInt8) (fun u => [(0, .d (.str u)), (1, .ptr 0 0)]) (fun _ => [.box 256 (.d (.agg (qt5 cs)))]) (fun u => u.length ≤ s.length ∧ q4d cs u = q4d cs s) (fun u => u.length) s ?_ ?_ ?_
 ·exact ⟨Nat.le_refl _, rfl⟩
 ·refine qad [] [0] rfl (by simp) ?_ rfl
  simp only [zU, seval]
  try rfl
 ·rintro u ⟨h1, h2⟩
  cases u with
  | nil =>
   simp only [zU, seval]
   refine ⟨_, _, qae [] [0] rfl (by simp) (show qbf _ _ _ = AV.d _ from rfl) rfl, ?_, rfl⟩
   rw [← h2]; rfl
  | cons c v =>
   have hl : (c :: v).length = v.length + 1 := by simp
   rw [hl] at h1
   simp only [zU, seval, hl, (show (0:Int) < (v.length : Int) + 1 by omega)]
   repeat ((with_reducible refine And.intro ?_ ?_); (focus (first | omega | (simp only [qa2]; omega) | (refine qq ?_; rfl) | (refine dq ?_; kernel_rfl) | (intros; simp_all; done))))
   refine qaq ((qx0 cs c).mono fun r σ ⟨er, es⟩ => ?_)
   subst er es
   simp only [zU, seval]
   have e4 : (cs.any fun x => x == c) = inS cs c := rfl
   rw [e4]
   rw [q4d, List.dropWhile_cons] at h2
   refine ifC.mk (fun hc => ?_) (fun hc => ?_)
   ·have hc : inS cs c = false := by simpa using hc
    rw [if_neg (by rw [hc]; simp)] at h2
    refine ⟨_, _, qae [] [0] rfl (by simp) (show qbf _ _ _ = AV.d _ from rfl) rfl, ?_, rfl⟩
    rw [← h2]
   ·have hc : inS cs c = true := by simpa using hc
    rw [if_pos hc] at h2
    have e5 : ((v.length : Int) + 1).toNat = v.length + 1 := by omega
    have e6 : (c :: v).take (v.length + 1) = c :: v := by simp
    (try simp only [zU, seval, hl, (show (1:Int) ≤ (v.length : Int) + 1 by omega), e5, e6, List.drop_succ_cons, List.drop_zero])
    repeat ((with_reducible refine And.intro ?_ ?_); (focus (first | omega | (simp only [qa2]; omega) | (refine qq ?_; rfl) | (refine dq ?_; kernel_rfl) | (intros; simp_all; done))))
    refine ⟨v, ⟨by omega, h2⟩, by omega, ?_⟩
    refine qad [] [0] rfl (by simp) ?_ rfl
    simp only [zU, seval, e5, e6, List.drop_succ_cons, List.drop_zero]
    try rfl
def q5u : List UInt8 := [48, 49, 50, 51, 52, 53, 54, 55, 56, 57]
theorem Qqw (s : List UInt8) (hs : s.length < 9223372036854775808) (h0 : s ≠ []) : qbw Tryz.prog Gl 97 [.d (.str s), .d (.str q5u)] (.d (.str (q4d q5u (qo8 q5u s)))) := by
 refine qbw.of2 ?_
 have e0 : (s == []) = false := by cases s with
  | nil => exact absurd rfl h0
  | cons a b => rfl
 have e1 : (q5u == []) = false := rfl
 have e2 : ((q5u.length : Int) == 1) = false := rfl
 refine qac Tryz.func97 rfl rfl (by simp [Tryz.ntmps97]) (qab rfl _ _ _ _ ?_)
 simp only [Tryz.ntmps97, Tryz.results97, qak, List.length_nil]
 simp only [zU, seval, e0, e1, e2]
 repeat ((with_reducible refine And.intro ?_ ?_); (focus (first | omega | (simp only [qa2]; omega) | (refine qq ?_; rfl) | (refine dq ?_; kernel_rfl) | (intros; simp_all; done))))
 refine qah (Qel q5u (by decide) (by decide)) ?_
 simp only [zU, seval]
 refine ⟨qy0 _, ?_⟩
 refine qaq ((q4z s q5u hs).mono fun r σ ⟨er, es⟩ => ?_)
 subst er es
 simp only [zU, seval]
 have hr : (qo8 q5u s).length < 9223372036854775808 := by
  have : (qo8 q5u s).length ≤ s.length := by
   rw [qo8, List.length_reverse]
   exact Nat.le_trans (List.dropWhile_suffix _).length_le (by simp)
  omega
 refine qaq ((Qas (qo8 q5u s) q5u hr).mono fun r σ ⟨er, es⟩ => ?_)
 subst er es
 simp only [zU, seval]
 exact ⟨_, _, qa0, rfl, rfl⟩
theorem Qq6 {p : UInt8 → Bool} {c : UInt8} (h : p c = false) : ∀ v : List UInt8, (v ++ [c]).dropWhile p ≠ []
 | [] => by simp [List.dropWhile_cons, h]
 | a :: v => by
  rw [List.cons_append, List.dropWhile_cons]
  split
  ·exact Qq6 h v
  ·simp
theorem q6p (cs : List UInt8) : ∀ (n : Nat) (t : List UInt8), t.length = n → (q4d cs (qo8 cs t) == []) = t.all (inS cs)
 | n, t, hn => by
  rcases List.eq_nil_or_concat t with rfl | ⟨v, c, rfl⟩
  ·rfl
  ·rw [List.concat_eq_append] at hn ⊢
   have hv : v.length < n := by rw [List.length_append] at hn; simp at hn; omega
   rw [quy, List.all_append]
   by_cases h : inS cs c = true
   ·rw [if_pos h, q6p cs v.length v rfl]; simp [h]
   ·rw [if_neg h]
    have h : inS cs c = false := by simpa using h
    have h2 : ¬ q4d cs (v ++ [c]) = [] := Qq6 h v
    simp [h, h2]
termination_by n => n
def q9p (c : UInt8) : Bool := decide (48 ≤ c.toNat) && decide (c.toNat ≤ 57)
theorem Qn2 : ∀ n : Nat, n < 256 → inS q5u (UInt8.ofNat n) = q9p (UInt8.ofNat n) := by decide +kernel
theorem Qq8 (c : UInt8) : inS q5u c = q9p c := by
 have := Qn2 c.toNat c.toNat_lt
 rwa [UInt8.ofNat_toNat] at this
def qdp (s : List UInt8) : Bool := qpu s qda && !((s.drop qda.length == []) || (((s.drop qda.length).getD 0 0).toNat : Int) == 48) && (s.drop qda.length).all q9p
theorem Qr0 (s p : List UInt8) : qbw Tryz.prog Gl 149 [.d (.str s), .d (.str p)] (.tup [.d (.str (if qpu s p = true then s.drop p.length else s)), .d (.bool (qpu s p))]) := by
 refine qbw.of2t2 ?_
 refine qac Tryz.func149 rfl rfl (by simp [Tryz.ntmps149]) (qab rfl _ _ _ _ ?_)
 simp only [Tryz.ntmps149, Tryz.results149, qak, List.length_nil]
 simp only [zU, seval]
 refine qah (Qsp s p) ?_
 simp only [zU, seval]
 refine ifC.mk (fun h => ?_) (fun h => ?_)
 ·have h : qpu s p = false := by simpa using h
  refine ⟨_, _, qu7, ?_, rfl⟩
  rw [h, if_neg (by simp)]
 ·have h : qpu s p = true := by simpa using h
  have hl : p.length ≤ s.length := by
   rw [qpu, Bool.and_eq_true, decide_eq_true_eq] at h; exact h.1
  (try simp only [zU, seval, (show (p.length : Int) ≤ s.length by omega), List.take_length])
  repeat ((with_reducible refine And.intro ?_ ?_); (focus (first | omega | (simp only [qa2]; omega) | (refine qq ?_; rfl) | (refine dq ?_; kernel_rfl) | (intros; simp_all; done))))
  refine ⟨_, _, qu7, ?_, rfl⟩
  rw [h, if_pos rfl]
theorem q5f (s p : List UInt8) : qbw Tryz.prog Gl 96 [.d (.str s), .d (.str p)] (.tup [.d (.str (if qpu s p = true then s.drop p.length else s)), .d (.bool (qpu s p))]) := by
 refine qbw.of2t2 ?_
 refine qac Tryz.func96 rfl rfl (by simp [Tryz.ntmps96]) (qab rfl _ _ _ _ ?_)
 simp only [Tryz.ntmps96, Tryz.results96, qak, List.length_nil]
 simp only [zU, seval]
 refine qah (Qr0 s p) ?_
 simp only [zU, seval]
 exact ⟨_, _, qu7, rfl, rfl⟩
theorem Qa0 (s : List UInt8) (hs : s.length < 9223372036854775808) : qbw Tryz.prog Gl 52 [.d (.str s)] (.d (.bool (qdp s))) := by
 refine qbw.of1 ?_
 refine qac Tryz.func52 rfl rfl (by simp [Tryz.ntmps52]) (qab rfl _ _ _ _ ?_)
 simp only [Tryz.ntmps52, Tryz.results52, qak, List.length_nil]
 simp only [zU, seval]
 refine qah (q5f s _) ?_
 have e7 : [104, 105, 100, 100, 101, 110, 45] = qda := rfl
 rw [e7]
 obtain ⟨b, hb⟩ : ∃ b, b = qpu s qda := ⟨_, rfl⟩
 rw [← hb]
 cases b with
 | false =>
  simp only [zU, seval]
  refine ⟨_, _, qa0, ?_, rfl⟩
  rw [qdp, ← hb]; rfl
 | true =>
  obtain ⟨t, ht⟩ : ∃ t, t = s.drop qda.length := ⟨_, rfl⟩
  have e : qdp s = (!((t == []) || ((t.getD 0 0).toNat : Int) == 48) && t.all q9p) := by rw [qdp, ← hb, ht, Bool.true_and]
  have hl : t.length ≤ s.length := by rw [ht, List.length_drop]; omega
  rw [e]
  simp only [zU, seval, ← ht]
  refine ⟨fun h => ?_, ?_⟩
  ·cases t with
   | nil => cases h
   | cons a b => simp
  refine ifC.mk (fun hc => ?_) (fun hc => ?_)
  ·refine ⟨_, _, qa0, ?_, rfl⟩
   rw [hc]; rfl
  ·have h0 : t ≠ [] := by rintro rfl; cases hc
   rw [show ([48, 49, 50, 51, 52, 53, 54, 55, 56, 57] : List UInt8) = q5u from rfl]
   refine qah (Qqw t (by omega) h0) ?_
   simp only [zU, seval]
   refine ⟨_, _, qa0, ?_, rfl⟩
   rw [hc, q6p q5u t.length t rfl]
   congr 2
   rw [Bool.not_false, Bool.true_and]
   congr 1
   funext c
   exact Qq8 c
theorem qtd (s : List UInt8) (k n : Nat) : (s.drop n).getD k 0 = s.getD (n + k) 0 := by
 simp [List.getD_eq_getElem?_getD]
theorem Qg0 (p : UInt8 → Bool) (s : List UInt8) (k : Nat) (h : k < s.length) : (s.take (k + 1)).all p = ((s.take k).all p && p (s.getD k 0)) := qe1 p s k h
theorem Qi2 (s : List UInt8) (hs : s.length < 9223372036854775808) : qbw Tryz.prog Gl 18 [.d (.str s)] (.d (.bool (qdp s))) := by
 refine qbw.of1 ?_
 refine qac Tryz.func18 rfl rfl (by simp [Tryz.ntmps18]) (qab rfl _ _ _ _ ?_)
 simp only [Tryz.ntmps18, Tryz.results18, qak, List.length_nil]
 simp only [zU, seval]
 refine qah (Qiz s _) ?_
 have e7 : [104, 105, 100, 100, 101, 110, 45] = qda := rfl
 rw [e7]
 obtain ⟨b, hb⟩ : ∃ b, b = qpu s qda := ⟨_, rfl⟩
 rw [← hb]
 cases b with
 | false =>
  simp only [zU, seval]
  repeat ((with_reducible refine And.intro ?_ ?_); (focus (first | omega | (simp only [qa2]; omega) | (refine qq ?_; rfl) | (refine dq ?_; kernel_rfl) | (intros; simp_all; done))))
  refine ⟨_, _, qa0, ?_, rfl⟩
  rw [qdp, ← hb]; rfl
 | true =>
  have hl : 7 ≤ s.length := by
   have := hb.symm
   rw [qpu, Bool.and_eq_true, decide_eq_true_eq] at this
   exact this.1
  have e : qdp s = (!((s.drop 7 == []) || (((s.drop 7).getD 0 0).toNat : Int) == 48) && (s.drop 7).all q9p) := by rw [qdp, ← hb, Bool.true_and]; rfl
  rw [qtd] at e
  have e1 : (s.drop 7 == []) = ((s.length : Int) == 7) := by
   rw [Bool.eq_iff_iff]; simp; omega
  rw [e1] at e
  simp only [zU, seval]
  refine ⟨rfl, fun h => ?_, ?_⟩
  ·simp at h; omega
  refine ifC.mk (fun hc => ?_) (fun hc => ?_)
  ·refine ⟨_, _, qa0, ?_, rfl⟩
   have hc : ((s.length : Int) == 7 || (((s.getD (7 + 0) 0).toNat : Int) == 48)) = true := hc
   rw [e, hc]; rfl
  ·have hc : ((s.length : Int) == 7 || (((s.getD (7 + 0) 0).toNat : Int) == 48)) = false := hc
   rw [hc, Bool.not_false, Bool.true_and] at e
   have hdl : (s.drop 7).length = s.length - 7 := by rw [List.length_drop]
   refine qa7 (s.length - 7) (fun k => [(0, .d (.str s)), (3, .d (.int .i64 ((7 + k : Nat) : Int)))]) (fun _ => []) (fun k => ((s.drop 7).take k).all q9p = true) rfl ?_ ?_
   ·refine qad [] [] rfl List.nodup_nil ?_ rfl
    simp only [zU, seval]
    all_goals rfl
   ·intro k hi hk
    by_cases h : k < s.length - 7
    ·have hst := Qg0 q9p (s.drop 7) k (by omega)
     rw [hi, Bool.true_and, qtd] at hst
     obtain ⟨c, hcd⟩ : ∃ c, c = s.getD (7 + k) 0 := ⟨_, rfl⟩
     rw [← hcd] at hst
     have e5 : ((7:Int) + (k:Int)).toNat = 7 + k := by omega
     have e6 : (decide ((c.toNat : Int) < 48) || decide ((57:Int) < (c.toNat : Int))) = !q9p c := by
      unfold q9p
      by_cases h1 : c.toNat < 48
      ·have h2 : ¬ 48 ≤ c.toNat := by omega
       have h3 : (c.toNat : Int) < 48 := by omega
       simp [h2, h3]
      ·have h2 : 48 ≤ c.toNat := by omega
       have h3 : ¬ (c.toNat : Int) < 48 := by omega
       by_cases h4 : c.toNat ≤ 57
       ·have h5 : ¬ (57:Int) < (c.toNat : Int) := by omega
        simp [h2, h3, h4, h5]
       ·have h5 : (57:Int) < (c.toNat : Int) := by omega
        simp [h2, h3, h4, h5]
     simp only [zU, seval, (show ((7:Int) + (k:Int)) < s.length by omega), e5, ← hcd, e6]
     refine ⟨by omega, fun _ => by omega, ?_⟩
     refine ifC.mk (fun h3 => ?_) (fun h3 => ?_)
     ·have h3 : q9p c = false := by simpa using h3
      refine ⟨_, _, qa0, ?_, rfl⟩
      have : (s.drop 7).all q9p = false := by
       rw [Bool.eq_false_iff]; intro ha
       have := List.all_eq_true.1 ha c (by
        have h6 : k < (s.drop 7).length := by omega
        have h7 := qct (α := UInt8) (l := s.drop 7) h6
        have h8 : (s.drop 7).getD k default = c := by rw [hcd, ← qtd]; rfl
        rwa [h8] at h7)
       rw [h3] at this; cases this
      rw [e, this]
     ·have h3 : q9p c = true := by simpa using h3
      refine ⟨h, by rw [hst, h3], ?_⟩
      refine qad [] [] rfl List.nodup_nil ?_ rfl
      simp only [zU, seval, Int.add_assoc, @qai ((7:Int) + ((k:Int) + 1)) (by omega)]
      all_goals rfl
    ·have : k = s.length - 7 := by omega
     subst this
     rw [List.take_of_length_le (by omega)] at hi
     simp only [zU, seval, (show ¬ ((7:Int) + ((s.length - 7 : Nat):Int)) < s.length by omega)]
     refine ⟨_, _, qa0, ?_, rfl⟩
     rw [e, hi]

def qa9 (g : Int → Bool) : Key → Option AV
 | .i n => if g n = true then some (.d (.bool true)) else none
 | .s _ => none
theorem qxx (g : Int → Bool) : ∀ k v, qa9 g k = some v → ∃ d, v = .d d := by
 intro k v h
 cases k with
 | s m => cases h
 | i m =>
  simp only [qa9] at h
  split at h
  ·cases h; exact ⟨_, rfl⟩
  ·cases h
theorem qam (g : Int → Bool) (n : Int) : (qa9 g (.i n)).getD (.d (.bool false)) = .d (.bool (g n)) := by
 cases h : g n <;> simp [qa9, h]
theorem Qig (g : Int → Bool) (n : Int) : qfx (qa9 g) (.i n) (.d (.bool true)) = qa9 (fun m => m == n || g m) := by
 funext k
 cases k with
 | s m => simp [qfx, qa9]
 | i m => by_cases h : m = n <;> simp [qfx, qa9, h]
theorem Qd1 : (fun _ => none) = qa9 fun _ => false := by
 funext k; cases k <;> simp [qa9]
theorem qbv (g : Int → Bool) (ρ : List Nat) (σ : Sto) : qbu ρ σ (.map (some .i64) (qa9 g)) = .map (some .i64) (qa9 g) := qgf (B := .map (some .i64) (qa9 g)) (qxx g) ρ σ
theorem qcr (g : Int → Bool) (b : Nat → Nat) : qc3 b (.map (some .i64) (qa9 g)) = .map (some .i64) (qa9 g) := qgg (B := .map (some .i64) (qa9 g)) (qxx g) b
theorem qkb {α : Type} {p : α → Bool} {l : List α} {k j : Nat} (hk : k < l.length) (h : (l.take (k + 1)).filter p = l.take k) (hj : k < j) (hjl : j ≤ l.length) : ((l.take j).filter p).length < j := by
 have e : l.take j = l.take (k + 1) ++ (l.take j).drop (k + 1) := by
  conv => lhs; rw [← List.take_append_drop (k + 1) (l.take j)]
  rw [List.take_take, Nat.min_eq_left (by omega)]
 have h2 := List.length_filter_le p ((l.take j).drop (k + 1))
 rw [e, List.filter_append, List.length_append, h, List.length_take]
 rw [List.length_drop, List.length_take] at h2
 omega
theorem qfa {α : Type} [Inhabited α] {xs : List α} {i : Nat} (h : i < xs.length) (x : α) : (xs.set i x).take (i + 1) = xs.take i ++ [x] := by
 rw [qa1 _ i (by rw [List.length_set]; exact h)]
 congr 1
 ·apply List.ext_getElem?
  intro k
  rcases Nat.lt_or_ge k i with hk | hk
  ·rw [List.getElem?_take_of_lt hk, List.getElem?_take_of_lt hk, List.getElem?_set_ne (by omega)]
  ·rw [List.getElem?_eq_none (by rw [List.length_take]; omega), List.getElem?_eq_none (by rw [List.length_take]; omega)]
 ·rw [List.getD_eq_getElem?_getD, List.getElem?_set_self h]; rfl
theorem qfb {α : Type} {xs : List α} {i j : Nat} (h : i < j) (x : α) : (xs.set i x).drop j = xs.drop j := by
 apply List.ext_getElem?
 intro k
 rw [List.getElem?_drop, List.getElem?_drop, List.getElem?_set_ne (by omega)]
theorem qek (xs : List D) (i n : Nat) (z : D) : (qgs xs i n z).take i = xs.take i := by
 apply List.ext_getElem?
 intro k
 rcases Nat.lt_or_ge k i with hk | hk
 ·rw [List.getElem?_take_of_lt hk, List.getElem?_take_of_lt hk]
  rcases Nat.lt_or_ge k xs.length with h | h
  ·rw [qmv _ _ _ _ _ h, if_neg (by omega), List.getD_eq_getElem?_getD, List.getElem?_eq_getElem h]; rfl
  ·rw [List.getElem?_eq_none (by rw [qbd]; exact h), List.getElem?_eq_none h]
 ·rw [List.getElem?_eq_none (by rw [List.length_take]; omega), List.getElem?_eq_none (by rw [List.length_take]; omega)]
theorem qzo (l : List qao) (hl : l.length < 1000000) : qja Tryz.prog Gl 138 [.d (.sl (l.map qao.toD))] 3 (l.map qao.toD) := by
 refine qja.of (args := [.sl (l.map qao.toD)]) ?_
 have hes : ∀ y ∈ l.map qao.toD, y.cells.length = 3 := fun y hy => by
  obtain ⟨r, _, rfl⟩ := List.mem_map.1 hy; rfl
 have hfl : ∀ y ∈ l.map qao.toD, y.flat := fun y hy => by
  obtain ⟨r, _, rfl⟩ := List.mem_map.1 hy
  intro c hc
  simp [qao.toD, D.cells] at hc
  rcases hc with rfl | rfl | rfl <;> rfl
 simp only [List.map_cons, List.map_nil]
 cases l with
 | nil =>
  refine qac Tryz.func138 rfl rfl (by simp [Tryz.ntmps138]) (qab rfl _ _ _ _ ?_)
  simp only [Tryz.ntmps138, Tryz.results138, qak, List.length_nil]
  simp only [zU, seval]
  refine ⟨⟨_, _, qeh 3 (Nat.le_refl 0), rfl, rfl⟩, ?_⟩
  exact ⟨_, _, qae [] [1] rfl (by simp) rfl rfl, rfl, rfl⟩
 | cons r rs =>
  simp only [List.map_cons, List.length_cons] at hes hl hfl ⊢
  refine qac Tryz.func138 rfl rfl (by simp [Tryz.ntmps138]) (qab rfl _ _ _ _ ?_)
  simp only [Tryz.ntmps138, Tryz.results138, qak, List.length_nil]
  simp only [zU, seval]
  refine ⟨by omega, ?_⟩
  exact ⟨_, _, qae [] [1] rfl (by simp) rfl rfl, rfl, rfl⟩
theorem qeb (g : Int → Bool) (xs : List D) (σ : Sto) : qdb [0, 1, 2] (freezeL (.box 1 (.mapr 1) :: .map (some .i64) (qa9 g) :: .arr 3 xs :: σ) []) = .box 1 (.mapr 1) :: .map (some .i64) (qa9 g) :: .arr 3 xs :: [] := by
 show [qbu [0, 1, 2] _ (.box 1 (.mapr 1)), qbu [0, 1, 2] _ (.map (some .i64) (qa9 g)), _] = _
 rw [qbv]; rfl
theorem Qae (g : Int → Bool) (xs : List D) (B : Blk) : qdb [0, 1, 3] (freezeL (.box 1 (.mapr 1) :: .map (some .i64) (qa9 g) :: B :: .arr 3 xs :: []) []) = .box 1 (.mapr 1) :: .map (some .i64) (qa9 g) :: .arr 3 xs :: [] := by
 show [qbu [0, 1, 3] _ (.box 1 (.mapr 1)), qbu [0, 1, 3] _ (.map (some .i64) (qa9 g)), _] = _
 rw [qbv]; rfl
theorem Qaf (g : Int → Bool) (σ : Sto) : qdb [0, 1] (freezeL (.box 1 (.mapr 1) :: .map (some .i64) (qa9 g) :: σ) []) = .box 1 (.mapr 1) :: .map (some .i64) (qa9 g) :: [] := by
 show [qbu [0, 1] _ (.box 1 (.mapr 1)), qbu [0, 1] _ (.map (some .i64) (qa9 g))] = _
 rw [qbv]; rfl
theorem q42 (g : Int → Bool) {fv : FuncId} (p : qao → Bool) (hp : ∀ x : qao, qaf Tryz.prog Gl fv [.d x.toD, .ptr 0 0] (.box 1 (.mapr 1) :: .map (some .i64) (qa9 g) :: []) (fun r s => r = .d (.bool (p x)) ∧ s = (.box 1 (.mapr 1) :: .map (some .i64) (qa9 g) :: []))) (l : List qao) (hl : l.length < 1000000) :
  qaf Tryz.prog Gl 187 [.osl 2 0 l.length, .fn fv [.ptr 0 0]] (.box 1 (.mapr 1) :: .map (some .i64) (qa9 g) :: .arr 3 (l.map qao.toD) :: [])
  (fun r s => (∃ j : Int, r = .d (.int .i64 j) ∧ ((j = -1 ∧ l.filter (fun x => !p x) = l) ∨ ∃ k : Nat, j = k ∧ k < l.length ∧ (l.take (k + 1)).filter (fun x => !p x) = l.take k)) ∧ s = (.box 1 (.mapr 1) :: .map (some .i64) (qa9 g) :: .arr 3 (l.map qao.toD) :: [])) := by
 refine qac Tryz.func187 rfl rfl (by simp [Tryz.ntmps187]) (qab rfl _ _ _ _ ?_)
 simp only [Tryz.ntmps187, Tryz.results187, qak, List.length_nil]
 simp only [zU, seval]
 refine qa7 l.length (fun k => [(0, .osl 2 0 l.length), (1, .fn fv [.ptr 0 0]), (7, .d (.int .i64 l.length)), (8, .d (.int .i64 k))]) (fun _ => (.box 1 (.mapr 1) :: .map (some .i64) (qa9 g) :: .arr 3 (l.map qao.toD) :: [])) (fun k => (l.take k).filter (fun x => !p x) = l.take k) rfl ?_ ?_
 ·refine qad [] [0, 1, 2] rfl (by simp) ?_ (qeb g _ _)
  simp only [zU, seval]
  try rfl
 ·intro k hi hk
  by_cases h : k < l.length
  ·obtain ⟨x, hx⟩ : ∃ x, x = l.getD k default := ⟨_, rfl⟩
   have eg : (l.map qao.toD).getD k default = x.toD := by rw [qat _ _ _ h, ← hx]
   have hst := qa1 l k h
   rw [← hx] at hst
   simp only [zU, seval, (show (k:Int) < l.length by omega), h, eg]
   repeat ((with_reducible refine And.intro ?_ ?_); (focus (first | omega | (simp only [qa2]; omega) | (refine qq ?_; rfl) | (refine dq ?_; kernel_rfl) | (intros; simp_all; done))))
   refine qbz (R := fun r ν => r = .d (.bool (p x)) ∧ ν = []) [0, 1] (.box 1 (.mapr 1) :: .map (some .i64) (qa9 g) :: []) (by simp) (by simp) (show [qbu [0, 1] _ (.box 1 (.mapr 1)), qbu [0, 1] _ (.map (some .i64) (qa9 g))] = _ by rw [qbv]; rfl) rfl (hk2 rfl (qcr g _)) ((hp x).mono fun r s hr => ⟨[], by rw [hr.2]; rfl, hr.1, rfl⟩) (fun r ν hr => ?_)
   obtain ⟨rfl, rfl⟩ := hr
   simp only [zU, seval, List.map_nil, List.append_nil]
   refine ifC.mk (fun hc => ?_) (fun hc => ?_)
   ·refine ⟨_, _, qae [] [0, 1, 2] rfl (by simp) (show qbf _ _ _ = AV.d _ from rfl) (qeb g _ _), ⟨k, rfl, .inr ⟨k, rfl, h, ?_⟩⟩, rfl⟩
    rw [hst, List.filter_append, hi, List.filter_cons_of_neg (by rw [hc]; simp)]
    simp
   ·refine ⟨by rw [hst, List.filter_append, hi, List.filter_cons_of_pos (by rw [hc]; rfl)]; rfl, ?_⟩
    refine qad [] [0, 1, 2] rfl (by simp) ?_ (qeb g _ _)
    simp only [zU, seval, @qai ((k:Int) + 1) (by omega)]
    try rfl
  ·have : k = l.length := by omega
   subst this
   rw [List.take_length] at hi
   simp only [zU, seval, (show ¬ (l.length:Int) < l.length by omega)]
   exact ⟨_, _, qae [] [0, 1, 2] rfl (by simp) (show qbf _ _ _ = AV.d _ from rfl) (qeb g _ _), ⟨-1, rfl, .inl ⟨rfl, hi⟩⟩, rfl⟩
theorem q47 (g : Int → Bool) {fv : FuncId} (p : qao → Bool) (hp : ∀ x : qao, qaf Tryz.prog Gl fv [.d x.toD, .ptr 0 0] (.box 1 (.mapr 1) :: .map (some .i64) (qa9 g) :: []) (fun r s => r = .d (.bool (p x)) ∧ s = (.box 1 (.mapr 1) :: .map (some .i64) (qa9 g) :: []))) (l : List qao) (hl : l.length < 1000000) :
  qaf Tryz.prog Gl 137 [.osl 2 0 l.length, .fn fv [.ptr 0 0]] (.box 1 (.mapr 1) :: .map (some .i64) (qa9 g) :: .arr 3 (l.map qao.toD) :: [])
  (fun r s => (r = .osl 2 0 (l.filter (fun x => !p x)).length ∧ s = (.box 1 (.mapr 1) :: .map (some .i64) (qa9 g) :: .arr 3 ((l.filter (fun x => !p x)).map qao.toD) :: [])) ∨ (r = .osl 3 0 (l.filter (fun x => !p x)).length ∧ s = (.box 1 (.mapr 1) :: .map (some .i64) (qa9 g) :: .dead :: .arr 3 ((l.filter (fun x => !p x)).map qao.toD) :: []))) := by
 refine qac Tryz.func137 rfl rfl (by simp [Tryz.ntmps137]) (qab rfl _ _ _ _ ?_)
 simp only [Tryz.ntmps137, Tryz.results137, qak, List.length_nil]
 simp only [zU, seval]
 refine qaq ((q42 g p hp l hl).mono fun r s hr => ?_)
 obtain ⟨⟨c, rfl, hcs⟩, rfl⟩ := hr
 rcases hcs with ⟨rfl, hn⟩ | ⟨k, rfl, hk, hf⟩
 ·simp only [zU, seval]
  rw [hn]
  refine ⟨_, _, qae [] [0, 1, 2] rfl (by simp) rfl (qeb g _ _), .inl ⟨rfl, rfl⟩⟩
 ·have e0 : ((k : Int) == -1) = false := by rw [beq_eq_false_iff_ne]; omega
  simp only [zU, seval, e0, @qai ((k:Int) + 1) (by omega)]
  repeat ((with_reducible refine And.intro ?_ ?_); (focus (first | omega | (simp only [qa2]; omega) | (refine qq ?_; rfl) | (refine dq ?_; kernel_rfl) | (intros; simp_all; done))))
  refine qck (τ := Nat × List qao) (fun u => [(0, .osl 2 0 l.length), (1, .fn fv [.ptr 0 0]), (5, .d (.int .i64 (((l.take u.1).filter (fun x => !p x)).length : Nat))), (6, .d (.int .i64 u.1))]) (fun u => (.box 1 (.mapr 1) :: .map (some .i64) (qa9 g) :: .arr 3 (u.2.map qao.toD) :: []))
   (fun u => k < u.1 ∧ u.1 ≤ l.length ∧ u.2.length = l.length ∧ u.2.take ((l.take u.1).filter (fun x => !p x)).length = (l.take u.1).filter (fun x => !p x) ∧ u.2.drop u.1 = l.drop u.1) (fun u => l.length - u.1) (k + 1, l) ?_ ?_ ?_
  ·refine ⟨by simp only; omega, hk, rfl, ?_, rfl⟩
   simp only
   rw [hf, List.length_take, Nat.min_eq_left (by omega)]
  ·have e1 : ((l.take (k + 1)).filter (fun x => !p x)).length = k := by rw [hf, List.length_take]; omega
   rw [e1]
   refine qad [] [0, 1, 2] rfl (by simp) ?_ (qeb g _ _)
   simp only [zU, seval]
   try rfl
  ·rintro ⟨j, xs⟩ ⟨hkj, hj, hxl, hpre, hdr⟩
   simp only at hkj hj hxl hpre hdr
   obtain ⟨i, hi⟩ : ∃ i, i = ((l.take j).filter (fun x => !p x)).length := ⟨_, rfl⟩
   have hij := qkb hk hf hkj hj
   rw [← hi] at hpre hij
   rw [← hi]
   by_cases h : j < l.length
   ·obtain ⟨x, hx⟩ : ∃ x, x = l.getD j default := ⟨_, rfl⟩
    have hxx : xs.getD j default = x := by
     have e : xs[j]? = l[j]? := by
      have := congrArg (fun z => z[0]?) hdr
      simpa using this
     rw [List.getD_eq_getElem?_getD, e, hx, List.getD_eq_getElem?_getD]
    have eg : (xs.map qao.toD).getD j default = x.toD := by rw [qat _ _ _ (by omega), hxx]
    have hst := qa1 l j h
    rw [← hx] at hst
    simp only [zU, seval, (show (j:Int) < l.length by omega), h, eg, hxl]
    repeat ((with_reducible refine And.intro ?_ ?_); (focus (first | omega | (simp only [qa2]; omega) | (refine qq ?_; rfl) | (refine dq ?_; kernel_rfl) | (intros; simp_all; done))))
    refine qbz (R := fun r ν => r = .d (.bool (p x)) ∧ ν = []) [0, 1] (.box 1 (.mapr 1) :: .map (some .i64) (qa9 g) :: []) (by simp) (by simp) (show [qbu [0, 1] _ (.box 1 (.mapr 1)), qbu [0, 1] _ (.map (some .i64) (qa9 g))] = _ by rw [qbv]; rfl) rfl (hk2 rfl (qcr g _)) ((hp x).mono fun r s hr => ⟨[], by rw [hr.2]; rfl, hr.1, rfl⟩) (fun r ν hr => ?_)
    obtain ⟨rfl, rfl⟩ := hr
    simp only [zU, seval, List.map_nil, List.append_nil]
    have hdr2 : xs.drop (j + 1) = l.drop (j + 1) := by
     have := congrArg (List.drop 1) hdr
     rwa [List.drop_drop, List.drop_drop] at this
    refine ifC.mk (fun hc => ?_) (fun hc => ?_)
    ·have hfl : (l.take (j + 1)).filter (fun x => !p x) = (l.take j).filter (fun x => !p x) ++ [x] := by rw [hst, List.filter_append, List.filter_cons_of_pos (p := fun x => !p x) hc]; rfl
     have hfn : ((l.take (j + 1)).filter (fun x => !p x)).length = i + 1 := by rw [hfl, List.length_append, ← hi]; rfl
     (try simp only [zU, seval, (show (i:Int) < l.length by omega), hxl])
     repeat ((with_reducible refine And.intro ?_ ?_); (focus (first | omega | (simp only [qa2]; omega) | (refine qq ?_; rfl) | (refine dq ?_; kernel_rfl) | (intros; simp_all; done))))
     refine ⟨(j + 1, xs.set i x), ⟨by simp only; omega, h, by simp only [List.length_set]; exact hxl, ?_, ?_⟩, by simp only; omega, ?_⟩
     ·simp only
      rw [hfn, qfa (by omega), hpre, hfl]
     ·simp only
      rw [qfb (by omega), hdr2]
     ·simp only [hfn, List.map_set]
      refine qad [] [0, 1, 2] rfl (by simp) ?_ (qeb g _ _)
      simp only [zU, seval, @qai ((j:Int) + 1) (by omega), @qai ((i:Int) + 1) (by omega)]
      try rfl
    ·have hfl : (l.take (j + 1)).filter (fun x => !p x) = (l.take j).filter (fun x => !p x) := by rw [hst, List.filter_append, List.filter_cons_of_neg (by rw [hc]; simp)]; simp
     refine ⟨(j + 1, xs), ⟨by simp only; omega, h, hxl, ?_, hdr2⟩, by simp only; omega, ?_⟩
     ·simp only
      rw [hfl, ← hi, hpre]
     ·simp only [hfl, ← hi]
      refine qad [] [0, 1, 2] rfl (by simp) ?_ (qeb g _ _)
      simp only [zU, seval, @qai ((j:Int) + 1) (by omega)]
      try rfl
   ·have hjl : j = l.length := by omega
    subst hjl
    rw [List.take_length] at hpre hi
    simp only [zU, seval, (show ¬ (l.length:Int) < l.length by omega), (show (i:Int) ≤ l.length by omega), hxl, (show i ≤ l.length by omega)]
    repeat ((with_reducible refine And.intro ?_ ?_); (focus (first | omega | (simp only [qa2]; omega) | (refine qq ?_; rfl) | (refine dq ?_; kernel_rfl) | (intros; simp_all; done))))
    refine ⟨_, _, qe8 2 i (by simp) rfl (by rw [qbd]; simp; omega) (by rw [qbd]; simp; omega), .inr ⟨by rw [hi]; rfl, ?_⟩⟩
    rw [qek, ← List.map_take, hpre]
    rfl
theorem qs2 (g : Int → Bool) {fv : FuncId} (p : qao → Bool) (hp : ∀ x : qao, qaf Tryz.prog Gl fv [.d x.toD, .ptr 0 0] (.box 1 (.mapr 1) :: .map (some .i64) (qa9 g) :: []) (fun r s => r = .d (.bool (p x)) ∧ s = (.box 1 (.mapr 1) :: .map (some .i64) (qa9 g) :: []))) (l : List qao) (hl : l.length < 1000000) :
  qaf Tryz.prog Gl 73 [.d (.sl (l.map qao.toD)), .fn fv [.ptr 0 0]] (.box 1 (.mapr 1) :: .map (some .i64) (qa9 g) :: [])
  (fun r s => r = .osl 2 0 (l.filter (fun x => !p x)).length ∧ s = (.box 1 (.mapr 1) :: .map (some .i64) (qa9 g) :: .arr 3 ((l.filter (fun x => !p x)).map qao.toD) :: [])) := by
 refine qac Tryz.func73 rfl rfl (by simp [Tryz.ntmps73]) (qab rfl _ _ _ _ ?_)
 simp only [Tryz.ntmps73, Tryz.results73, qak, List.length_nil]
 simp only [zU, seval]
 refine qaq ((qzo l hl (.box 1 (.mapr 1) :: .map (some .i64) (qa9 g) :: [])).mono fun r s hr => ?_)
 obtain ⟨rfl, rfl⟩ := hr
 simp only [zU, seval, List.length_map]
 refine qaq ((q47 g p hp l hl).mono fun r s hr => ?_)
 rcases hr with ⟨rfl, rfl⟩ | ⟨rfl, rfl⟩
 ·simp only [zU, seval]
  exact ⟨_, _, qae [] [0, 1, 2] rfl (by simp) rfl (qeb g _ _), rfl, rfl⟩
 ·simp only [zU, seval]
  exact ⟨_, _, qae [] [0, 1, 3] rfl (by simp) rfl (Qae g _ _), rfl, rfl⟩
theorem q5c (l : List qbt) (hl : l.length < 1000000) : qja Tryz.prog Gl 140 [.d (.sl (l.map qbt.toD))] 7 (l.map qbt.toD) := by
 refine qja.of (args := [.sl (l.map qbt.toD)]) ?_
 have hes : ∀ y ∈ l.map qbt.toD, y.cells.length = 7 := fun y hy => by
  obtain ⟨r, _, rfl⟩ := List.mem_map.1 hy; rfl
 have hfl : ∀ y ∈ l.map qbt.toD, y.flat := fun y hy => by
  obtain ⟨r, _, rfl⟩ := List.mem_map.1 hy
  intro c hc
  simp [qbt.toD, D.cells] at hc
  rcases hc with rfl | rfl | rfl | rfl | rfl | rfl | rfl <;> rfl
 simp only [List.map_cons, List.map_nil]
 cases l with
 | nil =>
  refine qac Tryz.func140 rfl rfl (by simp [Tryz.ntmps140]) (qab rfl _ _ _ _ ?_)
  simp only [Tryz.ntmps140, Tryz.results140, qak, List.length_nil]
  simp only [zU, seval]
  refine ⟨⟨_, _, qeh 7 (Nat.le_refl 0), rfl, rfl⟩, ?_⟩
  exact ⟨_, _, qae [] [1] rfl (by simp) rfl rfl, rfl, rfl⟩
 | cons r rs =>
  simp only [List.map_cons, List.length_cons] at hes hl hfl ⊢
  refine qac Tryz.func140 rfl rfl (by simp [Tryz.ntmps140]) (qab rfl _ _ _ _ ?_)
  simp only [Tryz.ntmps140, Tryz.results140, qak, List.length_nil]
  simp only [zU, seval]
  refine ⟨by omega, ?_⟩
  exact ⟨_, _, qae [] [1] rfl (by simp) rfl rfl, rfl, rfl⟩
theorem qhz (g : Int → Bool) (xs : List D) (σ : Sto) : qdb [0, 1, 2] (freezeL (.box 1 (.mapr 1) :: .map (some .i64) (qa9 g) :: .arr 7 xs :: σ) []) = .box 1 (.mapr 1) :: .map (some .i64) (qa9 g) :: .arr 7 xs :: [] := by
 show [qbu [0, 1, 2] _ (.box 1 (.mapr 1)), qbu [0, 1, 2] _ (.map (some .i64) (qa9 g)), _] = _
 rw [qbv]; rfl
theorem q65 (g : Int → Bool) (σ : Sto) : qdb [0, 1] (freezeL (.box 1 (.mapr 1) :: .map (some .i64) (qa9 g) :: σ) []) = .box 1 (.mapr 1) :: .map (some .i64) (qa9 g) :: [] := by
 show [qbu [0, 1] _ (.box 1 (.mapr 1)), qbu [0, 1] _ (.map (some .i64) (qa9 g))] = _
 rw [qbv]; rfl
theorem Qeq (g : Int → Bool) {fv : FuncId} (p : qbt → Bool) (hp : ∀ x : qbt, qaf Tryz.prog Gl fv [.d x.toD, .ptr 0 0] (.box 1 (.mapr 1) :: .map (some .i64) (qa9 g) :: []) (fun r s => r = .d (.bool (p x)) ∧ s = (.box 1 (.mapr 1) :: .map (some .i64) (qa9 g) :: []))) (l : List qbt) (hl : l.length < 1000000) :
  qaf Tryz.prog Gl 174 [.osl 2 0 l.length, .fn fv [.ptr 0 0]] (.box 1 (.mapr 1) :: .map (some .i64) (qa9 g) :: .arr 7 (l.map qbt.toD) :: [])
  (fun r s => (∃ j : Int, r = .d (.int .i64 j) ∧ ((j = -1 ∧ l.filter (fun x => !p x) = l) ∨ ∃ k : Nat, j = k ∧ k < l.length ∧ (l.take (k + 1)).filter (fun x => !p x) = l.take k)) ∧ s = (.box 1 (.mapr 1) :: .map (some .i64) (qa9 g) :: .arr 7 (l.map qbt.toD) :: [])) := by
 refine qac Tryz.func174 rfl rfl (by simp [Tryz.ntmps174]) (qab rfl _ _ _ _ ?_)
 simp only [Tryz.ntmps174, Tryz.results174, qak, List.length_nil]
 simp only [zU, seval]
 refine qa7 l.length (fun k => [(0, .osl 2 0 l.length), (1, .fn fv [.ptr 0 0]), (7, .d (.int .i64 l.length)), (8, .d (.int .i64 k))]) (fun _ => (.box 1 (.mapr 1) :: .map (some .i64) (qa9 g) :: .arr 7 (l.map qbt.toD) :: [])) (fun k => (l.take k).filter (fun x => !p x) = l.take k) rfl ?_ ?_
 ·refine qad [] [0, 1, 2] rfl (by simp) ?_ (qhz g _ _)
  simp only [zU, seval]
  try rfl
 ·intro k hi hk
  by_cases h : k < l.length
  ·obtain ⟨x, hx⟩ : ∃ x, x = l.getD k default := ⟨_, rfl⟩
   have eg : (l.map qbt.toD).getD k default = x.toD := by rw [qat _ _ _ h, ← hx]
   have hst := qa1 l k h
   rw [← hx] at hst
   simp only [zU, seval, (show (k:Int) < l.length by omega), h, eg]
   repeat ((with_reducible refine And.intro ?_ ?_); (focus (first | omega | (simp only [qa2]; omega) | (refine qq ?_; rfl) | (refine dq ?_; kernel_rfl) | (intros; simp_all; done))))
   refine qbz (R := fun r ν => r = .d (.bool (p x)) ∧ ν = []) [0, 1] (.box 1 (.mapr 1) :: .map (some .i64) (qa9 g) :: []) (by simp) (by simp) (show [qbu [0, 1] _ (.box 1 (.mapr 1)), qbu [0, 1] _ (.map (some .i64) (qa9 g))] = _ by rw [qbv]; rfl) rfl (hk2 rfl (qcr g _)) ((hp x).mono fun r s hr => ⟨[], by rw [hr.2]; rfl, hr.1, rfl⟩) (fun r ν hr => ?_)
   obtain ⟨rfl, rfl⟩ := hr
   simp only [zU, seval, List.map_nil, List.append_nil]
   refine ifC.mk (fun hc => ?_) (fun hc => ?_)
   ·refine ⟨_, _, qae [] [0, 1, 2] rfl (by simp) (show qbf _ _ _ = AV.d _ from rfl) (qhz g _ _), ⟨k, rfl, .inr ⟨k, rfl, h, ?_⟩⟩, rfl⟩
    rw [hst, List.filter_append, hi, List.filter_cons_of_neg (by rw [hc]; simp)]
    simp
   ·refine ⟨by rw [hst, List.filter_append, hi, List.filter_cons_of_pos (by rw [hc]; rfl)]; rfl, ?_⟩
    refine qad [] [0, 1, 2] rfl (by simp) ?_ (qhz g _ _)
    simp only [zU, seval, @qai ((k:Int) + 1) (by omega)]
    try rfl
  ·have : k = l.length := by omega
   subst this
   rw [List.take_length] at hi
   simp only [zU, seval, (show ¬ (l.length:Int) < l.length by omega)]
   exact ⟨_, _, qae [] [0, 1, 2] rfl (by simp) (show qbf _ _ _ = AV.d _ from rfl) (qhz g _ _), ⟨-1, rfl, .inl ⟨rfl, hi⟩⟩, rfl⟩
theorem Qew (g : Int → Bool) {fv : FuncId} (p : qbt → Bool) (hp : ∀ x : qbt, qaf Tryz.prog Gl fv [.d x.toD, .ptr 0 0] (.box 1 (.mapr 1) :: .map (some .i64) (qa9 g) :: []) (fun r s => r = .d (.bool (p x)) ∧ s = (.box 1 (.mapr 1) :: .map (some .i64) (qa9 g) :: []))) (l : List qbt) (hl : l.length < 1000000) :
  qaf Tryz.prog Gl 139 [.osl 2 0 l.length, .fn fv [.ptr 0 0]] (.box 1 (.mapr 1) :: .map (some .i64) (qa9 g) :: .arr 7 (l.map qbt.toD) :: [])
  (fun r s => (r = .osl 2 0 (l.filter (fun x => !p x)).length ∧ s = (.box 1 (.mapr 1) :: .map (some .i64) (qa9 g) :: .arr 7 ((l.filter (fun x => !p x)).map qbt.toD) :: [])) ∨ (r = .osl 3 0 (l.filter (fun x => !p x)).length ∧ s = (.box 1 (.mapr 1) :: .map (some .i64) (qa9 g) :: .dead :: .arr 7 ((l.filter (fun x => !p x)).map qbt.toD) :: []))) := by
 refine qac Tryz.func139 rfl rfl (by simp [Tryz.ntmps139]) (qab rfl _ _ _ _ ?_)
 simp only [Tryz.ntmps139, Tryz.results139, qak, List.length_nil]
 simp only [zU, seval]
 refine qaq ((Qeq g p hp l hl).mono fun r s hr => ?_)
 obtain ⟨⟨c, rfl, hcs⟩, rfl⟩ := hr
 rcases hcs with ⟨rfl, hn⟩ | ⟨k, rfl, hk, hf⟩
 ·simp only [zU, seval]
  rw [hn]
  refine ⟨_, _, qae [] [0, 1, 2] rfl (by simp) rfl (qhz g _ _), .inl ⟨rfl, rfl⟩⟩
 ·have e0 : ((k : Int) == -1) = false := by rw [beq_eq_false_iff_ne]; omega
  simp only [zU, seval, e0, @qai ((k:Int) + 1) (by omega)]
  repeat ((with_reducible refine And.intro ?_ ?_); (focus (first | omega | (simp only [qa2]; omega) | (refine qq ?_; rfl) | (refine dq ?_; kernel_rfl) | (intros; simp_all; done))))
  refine qck (τ := Nat × List qbt) (fun u => [(0, .osl 2 0 l.length), (1, .fn fv [.ptr 0 0]), (5, .d (.int .i64 (((l.take u.1).filter (fun x => !p x)).length : Nat))), (6, .d (.int .i64 u.1))]) (fun u => (.box 1 (.mapr 1) :: .map (some .i64) (qa9 g) :: .arr 7 (u.2.map qbt.toD) :: []))
   (fun u => k < u.1 ∧ u.1 ≤ l.length ∧ u.2.length = l.length ∧ u.2.take ((l.take u.1).filter (fun x => !p x)).length = (l.take u.1).filter (fun x => !p x) ∧ u.2.drop u.1 = l.drop u.1) (fun u => l.length - u.1) (k + 1, l) ?_ ?_ ?_
  ·refine ⟨by simp only; omega, hk, rfl, ?_, rfl⟩
   simp only
   rw [hf, List.length_take, Nat.min_eq_left (by omega)]
  ·have e1 : ((l.take (k + 1)).filter (fun x => !p x)).length = k := by rw [hf, List.length_take]; omega
   rw [e1]
   refine qad [] [0, 1, 2] rfl (by simp) ?_ (qhz g _ _)
   simp only [zU, seval]
   try rfl
  ·rintro ⟨j, xs⟩ ⟨hkj, hj, hxl, hpre, hdr⟩
   simp only at hkj hj hxl hpre hdr
   obtain ⟨i, hi⟩ : ∃ i, i = ((l.take j).filter (fun x => !p x)).length := ⟨_, rfl⟩
   have hij := qkb hk hf hkj hj
   rw [← hi] at hpre hij
   rw [← hi]
   by_cases h : j < l.length
   ·obtain ⟨x, hx⟩ : ∃ x, x = l.getD j default := ⟨_, rfl⟩
    have hxx : xs.getD j default = x := by
     have e : xs[j]? = l[j]? := by
      have := congrArg (fun z => z[0]?) hdr
      simpa using this
     rw [List.getD_eq_getElem?_getD, e, hx, List.getD_eq_getElem?_getD]
    have eg : (xs.map qbt.toD).getD j default = x.toD := by rw [qat _ _ _ (by omega), hxx]
    have hst := qa1 l j h
    rw [← hx] at hst
    simp only [zU, seval, (show (j:Int) < l.length by omega), h, eg, hxl]
    repeat ((with_reducible refine And.intro ?_ ?_); (focus (first | omega | (simp only [qa2]; omega) | (refine qq ?_; rfl) | (refine dq ?_; kernel_rfl) | (intros; simp_all; done))))
    refine qbz (R := fun r ν => r = .d (.bool (p x)) ∧ ν = []) [0, 1] (.box 1 (.mapr 1) :: .map (some .i64) (qa9 g) :: []) (by simp) (by simp) (show [qbu [0, 1] _ (.box 1 (.mapr 1)), qbu [0, 1] _ (.map (some .i64) (qa9 g))] = _ by rw [qbv]; rfl) rfl (hk2 rfl (qcr g _)) ((hp x).mono fun r s hr => ⟨[], by rw [hr.2]; rfl, hr.1, rfl⟩) (fun r ν hr => ?_)
    obtain ⟨rfl, rfl⟩ := hr
    simp only [zU, seval, List.map_nil, List.append_nil]
    have hdr2 : xs.drop (j + 1) = l.drop (j + 1) := by
     have := congrArg (List.drop 1) hdr
     rwa [List.drop_drop, List.drop_drop] at this
    refine ifC.mk (fun hc => ?_) (fun hc => ?_)
    ·have hfl : (l.take (j + 1)).filter (fun x => !p x) = (l.take j).filter (fun x => !p x) ++ [x] := by rw [hst, List.filter_append, List.filter_cons_of_pos (p := fun x => !p x) hc]; rfl
     have hfn : ((l.take (j + 1)).filter (fun x => !p x)).length = i + 1 := by rw [hfl, List.length_append, ← hi]; rfl
     (try simp only [zU, seval, (show (i:Int) < l.length by omega), hxl])
     repeat ((with_reducible refine And.intro ?_ ?_); (focus (first | omega | (simp only [qa2]; omega) | (refine qq ?_; rfl) | (refine dq ?_; kernel_rfl) | (intros; simp_all; done))))
     refine ⟨(j + 1, xs.set i x), ⟨by simp only; omega, h, by simp only [List.length_set]; exact hxl, ?_, ?_⟩, by simp only; omega, ?_⟩
     ·simp only
      rw [hfn, qfa (by omega), hpre, hfl]
     ·simp only
      rw [qfb (by omega), hdr2]
     ·simp only [hfn, List.map_set]
      refine qad [] [0, 1, 2] rfl (by simp) ?_ (qhz g _ _)
      simp only [zU, seval, @qai ((j:Int) + 1) (by omega), @qai ((i:Int) + 1) (by omega)]
      try rfl
    ·have hfl : (l.take (j + 1)).filter (fun x => !p x) = (l.take j).filter (fun x => !p x) := by rw [hst, List.filter_append, List.filter_cons_of_neg (by rw [hc]; simp)]; simp
     refine ⟨(j + 1, xs), ⟨by simp only; omega, h, hxl, ?_, hdr2⟩, by simp only; omega, ?_⟩
     ·simp only
      rw [hfl, ← hi, hpre]
     ·simp only [hfl, ← hi]
      refine qad [] [0, 1, 2] rfl (by simp) ?_ (qhz g _ _)
      simp only [zU, seval, @qai ((j:Int) + 1) (by omega)]
      try rfl
   ·have hjl : j = l.length := by omega
    subst hjl
    rw [List.take_length] at hpre hi
    simp only [zU, seval, (show ¬ (l.length:Int) < l.length by omega), (show (i:Int) ≤ l.length by omega), hxl, (show i ≤ l.length by omega)]
    repeat ((with_reducible refine And.intro ?_ ?_); (focus (first | omega | (simp only [qa2]; omega) | (refine qq ?_; rfl) | (refine dq ?_; kernel_rfl) | (intros; simp_all; done))))
    refine ⟨_, _, qe8 2 i (by simp) rfl (by rw [qbd]; simp; omega) (by rw [qbd]; simp; omega), .inr ⟨by rw [hi]; rfl, ?_⟩⟩
    rw [qek, ← List.map_take, hpre]
    rfl
theorem qzh (g : Int → Bool) {fv : FuncId} (p : qbt → Bool) (hp : ∀ x : qbt, qaf Tryz.prog Gl fv [.d x.toD, .ptr 0 0] (.box 1 (.mapr 1) :: .map (some .i64) (qa9 g) :: []) (fun r s => r = .d (.bool (p x)) ∧ s = (.box 1 (.mapr 1) :: .map (some .i64) (qa9 g) :: []))) (l : List qbt) (hl : l.length < 1000000) :
  qaf Tryz.prog Gl 75 [.d (.sl (l.map qbt.toD)), .fn fv [.ptr 0 0]] (.box 1 (.mapr 1) :: .map (some .i64) (qa9 g) :: [])
  (fun r s => r = .d (.sl ((l.filter (fun x => !p x)).map qbt.toD)) ∧ s = (.box 1 (.mapr 1) :: .map (some .i64) (qa9 g) :: [])) := by
 refine qac Tryz.func75 rfl rfl (by simp [Tryz.ntmps75]) (qab rfl _ _ _ _ ?_)
 simp only [Tryz.ntmps75, Tryz.results75, qak, List.length_nil]
 simp only [zU, seval]
 refine qaq ((q5c l hl (.box 1 (.mapr 1) :: .map (some .i64) (qa9 g) :: [])).mono fun r s hr => ?_)
 obtain ⟨rfl, rfl⟩ := hr
 simp only [zU, seval, List.length_map]
 refine qaq ((Qew g p hp l hl).mono fun r s hr => ?_)
 rcases hr with ⟨rfl, rfl⟩ | ⟨rfl, rfl⟩
 ·simp only [zU, seval]
  refine ⟨_, _, (qcw rfl).trans (qae [] [0, 1] rfl (by simp) (show qbf _ _ _ = AV.d _ from rfl) (q65 g _)), ?_, rfl⟩
  show AV.d (D.sl (List.take _ (List.map qbt.toD _))) = _
  rw [qba]
 ·simp only [zU, seval]
  refine ⟨_, _, (qcw rfl).trans (qae [] [0, 1] rfl (by simp) (show qbf _ _ _ = AV.d _ from rfl) (q65 g _)), ?_, rfl⟩
  show AV.d (D.sl (List.take _ (List.map qbt.toD _))) = _
  rw [qba]
theorem qlt (l : List qan) (hl : l.length < 1000000) : qja Tryz.prog Gl 69 [.d (.sl (l.map qan.toD))] 4 (l.map qan.toD) := by
 refine qja.of (args := [.sl (l.map qan.toD)]) ?_
 have hes : ∀ y ∈ l.map qan.toD, y.cells.length = 4 := fun y hy => by
  obtain ⟨r, _, rfl⟩ := List.mem_map.1 hy; rfl
 have hfl : ∀ y ∈ l.map qan.toD, y.flat := fun y hy => by
  obtain ⟨r, _, rfl⟩ := List.mem_map.1 hy
  intro c hc
  simp [qan.toD, D.cells] at hc
  rcases hc with rfl | rfl | rfl | rfl <;> rfl
 simp only [List.map_cons, List.map_nil]
 cases l with
 | nil =>
  refine qac Tryz.func69 rfl rfl (by simp [Tryz.ntmps69]) (qab rfl _ _ _ _ ?_)
  simp only [Tryz.ntmps69, Tryz.results69, qak, List.length_nil]
  simp only [zU, seval]
  refine ⟨⟨_, _, qeh 4 (Nat.le_refl 0), rfl, rfl⟩, ?_⟩
  exact ⟨_, _, qae [] [1] rfl (by simp) rfl rfl, rfl, rfl⟩
 | cons r rs =>
  simp only [List.map_cons, List.length_cons] at hes hl hfl ⊢
  refine qac Tryz.func69 rfl rfl (by simp [Tryz.ntmps69]) (qab rfl _ _ _ _ ?_)
  simp only [Tryz.ntmps69, Tryz.results69, qak, List.length_nil]
  simp only [zU, seval]
  refine ⟨by omega, ?_⟩
  exact ⟨_, _, qae [] [1] rfl (by simp) rfl rfl, rfl, rfl⟩
theorem qeo (g : Int → Bool) (xs : List D) (σ : Sto) : qdb [0, 1, 2] (freezeL (.box 1 (.mapr 1) :: .map (some .i64) (qa9 g) :: .arr 4 xs :: σ) []) = .box 1 (.mapr 1) :: .map (some .i64) (qa9 g) :: .arr 4 xs :: [] := by
 show [qbu [0, 1, 2] _ (.box 1 (.mapr 1)), qbu [0, 1, 2] _ (.map (some .i64) (qa9 g)), _] = _
 rw [qbv]; rfl
theorem qva (g : Int → Bool) (σ : Sto) : qdb [0, 1] (freezeL (.box 1 (.mapr 1) :: .map (some .i64) (qa9 g) :: σ) []) = .box 1 (.mapr 1) :: .map (some .i64) (qa9 g) :: [] := by
 show [qbu [0, 1] _ (.box 1 (.mapr 1)), qbu [0, 1] _ (.map (some .i64) (qa9 g))] = _
 rw [qbv]; rfl
theorem q43 (g : Int → Bool) {fv : FuncId} (p : qan → Bool) (hp : ∀ x : qan, qaf Tryz.prog Gl fv [.d x.toD, .ptr 0 0] (.box 1 (.mapr 1) :: .map (some .i64) (qa9 g) :: []) (fun r s => r = .d (.bool (p x)) ∧ s = (.box 1 (.mapr 1) :: .map (some .i64) (qa9 g) :: []))) (l : List qan) (hl : l.length < 1000000) :
  qaf Tryz.prog Gl 175 [.osl 2 0 l.length, .fn fv [.ptr 0 0]] (.box 1 (.mapr 1) :: .map (some .i64) (qa9 g) :: .arr 4 (l.map qan.toD) :: [])
  (fun r s => (∃ j : Int, r = .d (.int .i64 j) ∧ ((j = -1 ∧ l.filter (fun x => !p x) = l) ∨ ∃ k : Nat, j = k ∧ k < l.length ∧ (l.take (k + 1)).filter (fun x => !p x) = l.take k)) ∧ s = (.box 1 (.mapr 1) :: .map (some .i64) (qa9 g) :: .arr 4 (l.map qan.toD) :: [])) := by
 refine qac Tryz.func175 rfl rfl (by simp [Tryz.ntmps175]) (qab rfl _ _ _ _ ?_)
 simp only [Tryz.ntmps175, Tryz.results175, qak, List.length_nil]
 simp only [zU, seval]
 refine qa7 l.length (fun k => [(0, .osl 2 0 l.length), (1, .fn fv [.ptr 0 0]), (7, .d (.int .i64 l.length)), (8, .d (.int .i64 k))]) (fun _ => (.box 1 (.mapr 1) :: .map (some .i64) (qa9 g) :: .arr 4 (l.map qan.toD) :: [])) (fun k => (l.take k).filter (fun x => !p x) = l.take k) rfl ?_ ?_
 ·refine qad [] [0, 1, 2] rfl (by simp) ?_ (qeo g _ _)
  simp only [zU, seval]
  try rfl
 ·intro k hi hk
  by_cases h : k < l.length
  ·obtain ⟨x, hx⟩ : ∃ x, x = l.getD k default := ⟨_, rfl⟩
   have eg : (l.map qan.toD).getD k default = x.toD := by rw [qat _ _ _ h, ← hx]
   have hst := qa1 l k h
   rw [← hx] at hst
   simp only [zU, seval, (show (k:Int) < l.length by omega), h, eg]
   repeat ((with_reducible refine And.intro ?_ ?_); (focus (first | omega | (simp only [qa2]; omega) | (refine qq ?_; rfl) | (refine dq ?_; kernel_rfl) | (intros; simp_all; done))))
   refine qbz (R := fun r ν => r = .d (.bool (p x)) ∧ ν = []) [0, 1] (.box 1 (.mapr 1) :: .map (some .i64) (qa9 g) :: []) (by simp) (by simp) (show [qbu [0, 1] _ (.box 1 (.mapr 1)), qbu [0, 1] _ (.map (some .i64) (qa9 g))] = _ by rw [qbv]; rfl) rfl (hk2 rfl (qcr g _)) ((hp x).mono fun r s hr => ⟨[], by rw [hr.2]; rfl, hr.1, rfl⟩) (fun r ν hr => ?_)
   obtain ⟨rfl, rfl⟩ := hr
   simp only [zU, seval, List.map_nil, List.append_nil]
   refine ifC.mk (fun hc => ?_) (fun hc => ?_)
   ·refine ⟨_, _, qae [] [0, 1, 2] rfl (by simp) (show qbf _ _ _ = AV.d _ from rfl) (qeo g _ _), ⟨k, rfl, .inr ⟨k, rfl, h, ?_⟩⟩, rfl⟩
    rw [hst, List.filter_append, hi, List.filter_cons_of_neg (by rw [hc]; simp)]
    simp
   ·refine ⟨by rw [hst, List.filter_append, hi, List.filter_cons_of_pos (by rw [hc]; rfl)]; rfl, ?_⟩
    refine qad [] [0, 1, 2] rfl (by simp) ?_ (qeo g _ _)
    simp only [zU, seval, @qai ((k:Int) + 1) (by omega)]
    try rfl
  ·have : k = l.length := by omega
   subst this
   rw [List.take_length] at hi
   simp only [zU, seval, (show ¬ (l.length:Int) < l.length by omega)]
   exact ⟨_, _, qae [] [0, 1, 2] rfl (by simp) (show qbf _ _ _ = AV.d _ from rfl) (qeo g _ _), ⟨-1, rfl, .inl ⟨rfl, hi⟩⟩, rfl⟩
theorem q48 (g : Int → Bool) {fv : FuncId} (p : qan → Bool) (hp : ∀ x : qan, qaf Tryz.prog Gl fv [.d x.toD, .ptr 0 0] (.box 1 (.mapr 1) :: .map (some .i64) (qa9 g) :: []) (fun r s => r = .d (.bool (p x)) ∧ s = (.box 1 (.mapr 1) :: .map (some .i64) (qa9 g) :: []))) (l : List qan) (hl : l.length < 1000000) :
  qaf Tryz.prog Gl 141 [.osl 2 0 l.length, .fn fv [.ptr 0 0]] (.box 1 (.mapr 1) :: .map (some .i64) (qa9 g) :: .arr 4 (l.map qan.toD) :: [])
  (fun r s => (r = .osl 2 0 (l.filter (fun x => !p x)).length ∧ s = (.box 1 (.mapr 1) :: .map (some .i64) (qa9 g) :: .arr 4 ((l.filter (fun x => !p x)).map qan.toD) :: [])) ∨ (r = .osl 3 0 (l.filter (fun x => !p x)).length ∧ s = (.box 1 (.mapr 1) :: .map (some .i64) (qa9 g) :: .dead :: .arr 4 ((l.filter (fun x => !p x)).map qan.toD) :: []))) := by
 refine qac Tryz.func141 rfl rfl (by simp [Tryz.ntmps141]) (qab rfl _ _ _ _ ?_)
 simp only [Tryz.ntmps141, Tryz.results141, qak, List.length_nil]
 simp only [zU, seval]
 refine qaq ((q43 g p hp l hl).mono fun r s hr => ?_)
 obtain ⟨⟨c, rfl, hcs⟩, rfl⟩ := hr
 rcases hcs with ⟨rfl, hn⟩ | ⟨k, rfl, hk, hf⟩
 ·simp only [zU, seval]
  rw [hn]
  refine ⟨_, _, qae [] [0, 1, 2] rfl (by simp) rfl (qeo g _ _), .inl ⟨rfl, rfl⟩⟩
 ·have e0 : ((k : Int) == -1) = false := by rw [beq_eq_false_iff_ne]; omega
  simp only [zU, seval, e0, @qai ((k:Int) + 1) (by omega)]
  repeat ((with_reducible refine And.intro ?_ ?_); (focus (first | omega | (simp only [qa2]; omega) | (refine qq ?_; rfl) | (refine dq ?_; kernel_rfl) | (intros; simp_all; done))))
  refine qck (τ := Nat × List qan) (fun u => [(0, .osl 2 0 l.length), (1, .fn fv [.ptr 0 0]), (5, .d (.int .i64 (((l.take u.1).filter (fun x => !p x)).length : Nat))), (6, .d (.int .i64 u.1))]) (fun u => (.box 1 (.mapr 1) :: .map (some .i64) (qa9 g) :: .arr 4 (u.2.map qan.toD) :: []))
   (fun u => k < u.1 ∧ u.1 ≤ l.length ∧ u.2.length = l.length ∧ u.2.take ((l.take u.1).filter (fun x => !p x)).length = (l.take u.1).filter (fun x => !p x) ∧ u.2.drop u.1 = l.drop u.1) (fun u => l.length - u.1) (k + 1, l) ?_ ?_ ?_
  ·refine ⟨by simp only; omega, hk, rfl, ?_, rfl⟩
   simp only
   rw [hf, List.length_take, Nat.min_eq_left (by omega)]
  ·have e1 : ((l.take (k + 1)).filter (fun x => !p x)).length = k := by rw [hf, List.length_take]; omega
   rw [e1]
   refine qad [] [0, 1, 2] rfl (by simp) ?_ (qeo g _ _)
   simp only [zU, seval]
   try rfl
  ·rintro ⟨j, xs⟩ ⟨hkj, hj, hxl, hpre, hdr⟩
   simp only at hkj hj hxl hpre hdr
   obtain ⟨i, hi⟩ : ∃ i, i = ((l.take j).filter (fun x => !p x)).length := ⟨_, rfl⟩
   have hij := qkb hk hf hkj hj
   rw [← hi] at hpre hij
   rw [← hi]
   by_cases h : j < l.length
   ·obtain ⟨x, hx⟩ : ∃ x, x = l.getD j default := ⟨_, rfl⟩
    have hxx : xs.getD j default = x := by
     have e : xs[j]? = l[j]? := by
      have := congrArg (fun z => z[0]?) hdr
      simpa using this
     rw [List.getD_eq_getElem?_getD, e, hx, List.getD_eq_getElem?_getD]
    have eg : (xs.map qan.toD).getD j default = x.toD := by rw [qat _ _ _ (by omega), hxx]
    have hst := qa1 l j h
    rw [← hx] at hst
    simp only [zU, seval, (show (j:Int) < l.length by omega), h, eg, hxl]
    repeat ((with_reducible refine And.intro ?_ ?_); (focus (first | omega | (simp only [qa2]; omega) | (refine qq ?_; rfl) | (refine dq ?_; kernel_rfl) | (intros; simp_all; done))))
    refine qbz (R := fun r ν => r = .d (.bool (p x)) ∧ ν = []) [0, 1] (.box 1 (.mapr 1) :: .map (some .i64) (qa9 g) :: []) (by simp) (by simp) (show [qbu [0, 1] _ (.box 1 (.mapr 1)), qbu [0, 1] _ (.map (some .i64) (qa9 g))] = _ by rw [qbv]; rfl) rfl (hk2 rfl (qcr g _)) ((hp x).mono fun r s hr => ⟨[], by rw [hr.2]; rfl, hr.1, rfl⟩) (fun r ν hr => ?_)
    obtain ⟨rfl, rfl⟩ := hr
    simp only [zU, seval, List.map_nil, List.append_nil]
    have hdr2 : xs.drop (j + 1) = l.drop (j + 1) := by
     have := congrArg (List.drop 1) hdr
     rwa [List.drop_drop, List.drop_drop] at this
    refine ifC.mk (fun hc => ?_) (fun hc => ?_)
    ·have hfl : (l.take (j + 1)).filter (fun x => !p x) = (l.take j).filter (fun x => !p x) ++ [x] := by rw [hst, List.filter_append, List.filter_cons_of_pos (p := fun x => !p x) hc]; rfl
     have hfn : ((l.take (j + 1)).filter (fun x => !p x)).length = i + 1 := by rw [hfl, List.length_append, ← hi]; rfl
     (try simp only [zU, seval, (show (i:Int) < l.length by omega), hxl])
     repeat ((with_reducible refine And.intro ?_ ?_); (focus (first | omega | (simp only [qa2]; omega) | (refine qq ?_; rfl) | (refine dq ?_; kernel_rfl) | (intros; simp_all; done))))
     refine ⟨(j + 1, xs.set i x), ⟨by simp only; omega, h, by simp only [List.length_set]; exact hxl, ?_, ?_⟩, by simp only; omega, ?_⟩
     ·simp only
      rw [hfn, qfa (by omega), hpre, hfl]
     ·simp only
      rw [qfb (by omega), hdr2]
     ·simp only [hfn, List.map_set]
      refine qad [] [0, 1, 2] rfl (by simp) ?_ (qeo g _ _)
      simp only [zU, seval, @qai ((j:Int) + 1) (by omega), @qai ((i:Int) + 1) (by omega)]
      try rfl
    ·have hfl : (l.take (j + 1)).filter (fun x => !p x) = (l.take j).filter (fun x => !p x) := by rw [hst, List.filter_append, List.filter_cons_of_neg (by rw [hc]; simp)]; simp
     refine ⟨(j + 1, xs), ⟨by simp only; omega, h, hxl, ?_, hdr2⟩, by simp only; omega, ?_⟩
     ·simp only
      rw [hfl, ← hi, hpre]
     ·simp only [hfl, ← hi]
      refine qad [] [0, 1, 2] rfl (by simp) ?_ (qeo g _ _)
      simp only [zU, seval, @qai ((j:Int) + 1) (by omega)]
      try rfl
   ·have hjl : j = l.length := by omega
    subst hjl
    rw [List.take_length] at hpre hi
    simp only [zU, seval, (show ¬ (l.length:Int) < l.length by omega), (show (i:Int) ≤ l.length by omega), hxl, (show i ≤ l.length by omega)]
    repeat ((with_reducible refine And.intro ?_ ?_); (focus (first | omega | (simp only [qa2]; omega) | (refine qq ?_; rfl) | (refine dq ?_; kernel_rfl) | (intros; simp_all; done))))
    refine ⟨_, _, qe8 2 i (by simp) rfl (by rw [qbd]; simp; omega) (by rw [qbd]; simp; omega), .inr ⟨by rw [hi]; rfl, ?_⟩⟩
    rw [qek, ← List.map_take, hpre]
    rfl
theorem qs3 (g : Int → Bool) {fv : FuncId} (p : qan → Bool) (hp : ∀ x : qan, qaf Tryz.prog Gl fv [.d x.toD, .ptr 0 0] (.box 1 (.mapr 1) :: .map (some .i64) (qa9 g) :: []) (fun r s => r = .d (.bool (p x)) ∧ s = (.box 1 (.mapr 1) :: .map (some .i64) (qa9 g) :: []))) (l : List qan) (hl : l.length < 1000000) :
  qaf Tryz.prog Gl 77 [.d (.sl (l.map qan.toD)), .fn fv [.ptr 0 0]] (.box 1 (.mapr 1) :: .map (some .i64) (qa9 g) :: [])
  (fun r s => r = .d (.sl ((l.filter (fun x => !p x)).map qan.toD)) ∧ s = (.box 1 (.mapr 1) :: .map (some .i64) (qa9 g) :: [])) := by
 refine qac Tryz.func77 rfl rfl (by simp [Tryz.ntmps77]) (qab rfl _ _ _ _ ?_)
 simp only [Tryz.ntmps77, Tryz.results77, qak, List.length_nil]
 simp only [zU, seval]
 refine qaq ((qlt l hl (.box 1 (.mapr 1) :: .map (some .i64) (qa9 g) :: [])).mono fun r s hr => ?_)
 obtain ⟨rfl, rfl⟩ := hr
 simp only [zU, seval, List.length_map]
 refine qaq ((q48 g p hp l hl).mono fun r s hr => ?_)
 rcases hr with ⟨rfl, rfl⟩ | ⟨rfl, rfl⟩
 ·simp only [zU, seval]
  refine ⟨_, _, (qcw rfl).trans (qae [] [0, 1] rfl (by simp) (show qbf _ _ _ = AV.d _ from rfl) (qva g _)), ?_, rfl⟩
  show AV.d (D.sl (List.take _ (List.map qan.toD _))) = _
  rw [qba]
 ·simp only [zU, seval]
  refine ⟨_, _, (qcw rfl).trans (qae [] [0, 1] rfl (by simp) (show qbf _ _ _ = AV.d _ from rfl) (qva g _)), ?_, rfl⟩
  show AV.d (D.sl (List.take _ (List.map qan.toD _))) = _
  rw [qba]
theorem qox (l : List qar) (hl : l.length < 1000000) : qja Tryz.prog Gl 70 [.d (.sl (l.map qar.toD))] 7 (l.map qar.toD) := by
 refine qja.of (args := [.sl (l.map qar.toD)]) ?_
 have hes : ∀ y ∈ l.map qar.toD, y.cells.length = 7 := fun y hy => by
  obtain ⟨r, _, rfl⟩ := List.mem_map.1 hy; rfl
 have hfl : ∀ y ∈ l.map qar.toD, y.flat := fun y hy => by
  obtain ⟨r, _, rfl⟩ := List.mem_map.1 hy
  intro c hc
  simp [qar.toD, D.cells] at hc
  rcases hc with rfl | rfl | rfl | rfl | rfl | rfl | rfl <;> rfl
 simp only [List.map_cons, List.map_nil]
 cases l with
 | nil =>
  refine qac Tryz.func70 rfl rfl (by simp [Tryz.ntmps70]) (qab rfl _ _ _ _ ?_)
  simp only [Tryz.ntmps70, Tryz.results70, qak, List.length_nil]
  simp only [zU, seval]
  refine ⟨⟨_, _, qeh 7 (Nat.le_refl 0), rfl, rfl⟩, ?_⟩
  exact ⟨_, _, qae [] [1] rfl (by simp) rfl rfl, rfl, rfl⟩
 | cons r rs =>
  simp only [List.map_cons, List.length_cons] at hes hl hfl ⊢
  refine qac Tryz.func70 rfl rfl (by simp [Tryz.ntmps70]) (qab rfl _ _ _ _ ?_)
  simp only [Tryz.ntmps70, Tryz.results70, qak, List.length_nil]
  simp only [zU, seval]
  refine ⟨by omega, ?_⟩
  exact ⟨_, _, qae [] [1] rfl (by simp) rfl rfl, rfl, rfl⟩
theorem qfv (g : Int → Bool) (xs : List D) (σ : Sto) : qdb [0, 1, 2] (freezeL (.box 1 (.mapr 1) :: .map (some .i64) (qa9 g) :: .arr 7 xs :: σ) []) = .box 1 (.mapr 1) :: .map (some .i64) (qa9 g) :: .arr 7 xs :: [] := by
 show [qbu [0, 1, 2] _ (.box 1 (.mapr 1)), qbu [0, 1, 2] _ (.map (some .i64) (qa9 g)), _] = _
 rw [qbv]; rfl
theorem q0r (g : Int → Bool) (σ : Sto) : qdb [0, 1] (freezeL (.box 1 (.mapr 1) :: .map (some .i64) (qa9 g) :: σ) []) = .box 1 (.mapr 1) :: .map (some .i64) (qa9 g) :: [] := by
 show [qbu [0, 1] _ (.box 1 (.mapr 1)), qbu [0, 1] _ (.map (some .i64) (qa9 g))] = _
 rw [qbv]; rfl
theorem Qa1 (g : Int → Bool) {fv : FuncId} (p : qar → Bool) (hp : ∀ x : qar, qaf Tryz.prog Gl fv [.d x.toD, .ptr 0 0] (.box 1 (.mapr 1) :: .map (some .i64) (qa9 g) :: []) (fun r s => r = .d (.bool (p x)) ∧ s = (.box 1 (.mapr 1) :: .map (some .i64) (qa9 g) :: []))) (l : List qar) (hl : l.length < 1000000) :
  qaf Tryz.prog Gl 173 [.osl 2 0 l.length, .fn fv [.ptr 0 0]] (.box 1 (.mapr 1) :: .map (some .i64) (qa9 g) :: .arr 7 (l.map qar.toD) :: [])
  (fun r s => (∃ j : Int, r = .d (.int .i64 j) ∧ ((j = -1 ∧ l.filter (fun x => !p x) = l) ∨ ∃ k : Nat, j = k ∧ k < l.length ∧ (l.take (k + 1)).filter (fun x => !p x) = l.take k)) ∧ s = (.box 1 (.mapr 1) :: .map (some .i64) (qa9 g) :: .arr 7 (l.map qar.toD) :: [])) := by
 refine qac Tryz.func173 rfl rfl (by simp [Tryz.ntmps173]) (qab rfl _ _ _ _ ?_)
 simp only [Tryz.ntmps173, Tryz.results173, qak, List.length_nil]
 simp only [zU, seval]
 refine qa7 l.length (fun k => [(0, .osl 2 0 l.length), (1, .fn fv [.ptr 0 0]), (7, .d (.int .i64 l.length)), (8, .d (.int .i64 k))]) (fun _ => (.box 1 (.mapr 1) :: .map (some .i64) (qa9 g) :: .arr 7 (l.map qar.toD) :: [])) (fun k => (l.take k).filter (fun x => !p x) = l.take k) rfl ?_ ?_
 ·refine qad [] [0, 1, 2] rfl (by simp) ?_ (qfv g _ _)
  simp only [zU, seval]
  try rfl
 ·intro k hi hk
  by_cases h : k < l.length
  ·obtain ⟨x, hx⟩ : ∃ x, x = l.getD k default := ⟨_, rfl⟩
   have eg : (l.map qar.toD).getD k default = x.toD := by rw [qat _ _ _ h, ← hx]
   have hst := qa1 l k h
   rw [← hx] at hst
   simp only [zU, seval, (show (k:Int) < l.length by omega), h, eg]
   repeat ((with_reducible refine And.intro ?_ ?_); (focus (first | omega | (simp only [qa2]; omega) | (refine qq ?_; rfl) | (refine dq ?_; kernel_rfl) | (intros; simp_all; done))))
   refine qbz (R := fun r ν => r = .d (.bool (p x)) ∧ ν = []) [0, 1] (.box 1 (.mapr 1) :: .map (some .i64) (qa9 g) :: []) (by simp) (by simp) (show [qbu [0, 1] _ (.box 1 (.mapr 1)), qbu [0, 1] _ (.map (some .i64) (qa9 g))] = _ by rw [qbv]; rfl) rfl (hk2 rfl (qcr g _)) ((hp x).mono fun r s hr => ⟨[], by rw [hr.2]; rfl, hr.1, rfl⟩) (fun r ν hr => ?_)
   obtain ⟨rfl, rfl⟩ := hr
   simp only [zU, seval, List.map_nil, List.append_nil]
   refine ifC.mk (fun hc => ?_) (fun hc => ?_)
   ·refine ⟨_, _, qae [] [0, 1, 2] rfl (by simp) (show qbf _ _ _ = AV.d _ from rfl) (qfv g _ _), ⟨k, rfl, .inr ⟨k, rfl, h, ?_⟩⟩, rfl⟩
    rw [hst, List.filter_append, hi, List.filter_cons_of_neg (by rw [hc]; simp)]
    simp
   ·refine ⟨by rw [hst, List.filter_append, hi, List.filter_cons_of_pos (by rw [hc]; rfl)]; rfl, ?_⟩
    refine qad [] [0, 1, 2] rfl (by simp) ?_ (qfv g _ _)
    simp only [zU, seval, @qai ((k:Int) + 1) (by omega)]
    try rfl
  ·have : k = l.length := by omega
   subst this
   rw [List.take_length] at hi
   simp only [zU, seval, (show ¬ (l.length:Int) < l.length by omega)]
   exact ⟨_, _, qae [] [0, 1, 2] rfl (by simp) (show qbf _ _ _ = AV.d _ from rfl) (qfv g _ _), ⟨-1, rfl, .inl ⟨rfl, hi⟩⟩, rfl⟩
theorem Qa3 (g : Int → Bool) {fv : FuncId} (p : qar → Bool) (hp : ∀ x : qar, qaf Tryz.prog Gl fv [.d x.toD, .ptr 0 0] (.box 1 (.mapr 1) :: .map (some .i64) (qa9 g) :: []) (fun r s => r = .d (.bool (p x)) ∧ s = (.box 1 (.mapr 1) :: .map (some .i64) (qa9 g) :: []))) (l : List qar) (hl : l.length < 1000000) :
  qaf Tryz.prog Gl 142 [.osl 2 0 l.length, .fn fv [.ptr 0 0]] (.box 1 (.mapr 1) :: .map (some .i64) (qa9 g) :: .arr 7 (l.map qar.toD) :: [])
  (fun r s => (r = .osl 2 0 (l.filter (fun x => !p x)).length ∧ s = (.box 1 (.mapr 1) :: .map (some .i64) (qa9 g) :: .arr 7 ((l.filter (fun x => !p x)).map qar.toD) :: [])) ∨ (r = .osl 3 0 (l.filter (fun x => !p x)).length ∧ s = (.box 1 (.mapr 1) :: .map (some .i64) (qa9 g) :: .dead :: .arr 7 ((l.filter (fun x => !p x)).map qar.toD) :: []))) := by
 refine qac Tryz.func142 rfl rfl (by simp [Tryz.ntmps142]) (qab rfl _ _ _ _ ?_)
 simp only [Tryz.ntmps142, Tryz.results142, qak, List.length_nil]
 simp only [zU, seval]
 refine qaq ((Qa1 g p hp l hl).mono fun r s hr => ?_)
 obtain ⟨⟨c, rfl, hcs⟩, rfl⟩ := hr
 rcases hcs with ⟨rfl, hn⟩ | ⟨k, rfl, hk, hf⟩
 ·simp only [zU, seval]
  rw [hn]
  refine ⟨_, _, qae [] [0, 1, 2] rfl (by simp) rfl (qfv g _ _), .inl ⟨rfl, rfl⟩⟩
 ·have e0 : ((k : Int) == -1) = false := by rw [beq_eq_false_iff_ne]; omega
  simp only [zU, seval, e0, @qai ((k:Int) + 1) (by omega)]
  repeat ((with_reducible refine And.intro ?_ ?_); (focus (first | omega | (simp only [qa2]; omega) | (refine qq ?_; rfl) | (refine dq ?_; kernel_rfl) | (intros; simp_all; done))))
  refine qck (τ := Nat × List qar) (fun u => [(0, .osl 2 0 l.length), (1, .fn fv [.ptr 0 0]), (5, .d (.int .i64 (((l.take u.1).filter (fun x => !p x)).length : Nat))), (6, .d (.int .i64 u.1))]) (fun u => (.box 1 (.mapr 1) :: .map (some .i64) (qa9 g) :: .arr 7 (u.2.map qar.toD) :: []))
   (fun u => k < u.1 ∧ u.1 ≤ l.length ∧ u.2.length = l.length ∧ u.2.take ((l.take u.1).filter (fun x => !p x)).length = (l.take u.1).filter (fun x => !p x) ∧ u.2.drop u.1 = l.drop u.1) (fun u => l.length - u.1) (k + 1, l) ?_ ?_ ?_
  ·refine ⟨by simp only; omega, hk, rfl, ?_, rfl⟩
   simp only
   rw [hf, List.length_take, Nat.min_eq_left (by omega)]
  ·have e1 : ((l.take (k + 1)).filter (fun x => !p x)).length = k := by rw [hf, List.length_take]; omega
   rw [e1]
   refine qad [] [0, 1, 2] rfl (by simp) ?_ (qfv g _ _)
   simp only [zU, seval]
   try rfl
  ·rintro ⟨j, xs⟩ ⟨hkj, hj, hxl, hpre, hdr⟩
   simp only at hkj hj hxl hpre hdr
   obtain ⟨i, hi⟩ : ∃ i, i = ((l.take j).filter (fun x => !p x)).length := ⟨_, rfl⟩
   have hij := qkb hk hf hkj hj
   rw [← hi] at hpre hij
   rw [← hi]
   by_cases h : j < l.length
   ·obtain ⟨x, hx⟩ : ∃ x, x = l.getD j default := ⟨_, rfl⟩
    have hxx : xs.getD j default = x := by
     have e : xs[j]? = l[j]? := by
      have := congrArg (fun z => z[0]?) hdr
      simpa using this
     rw [List.getD_eq_getElem?_getD, e, hx, List.getD_eq_getElem?_getD]
    have eg : (xs.map qar.toD).getD j default = x.toD := by rw [qat _ _ _ (by omega), hxx]
    have hst := qa1 l j h
    rw [← hx] at hst
    simp only [zU, seval, (show (j:Int) < l.length by omega), h, eg, hxl]
    repeat ((with_reducible refine And.intro ?_ ?_); (focus (first | omega | (simp only [qa2]; omega) | (refine qq ?_; rfl) | (refine dq ?_; kernel_rfl) | (intros; simp_all; done))))
    refine qbz (R := fun r ν => r = .d (.bool (p x)) ∧ ν = []) [0, 1] (.box 1 (.mapr 1) :: .map (some .i64) (qa9 g) :: []) (by simp) (by simp) (show [qbu [0, 1] _ (.box 1 (.mapr 1)), qbu [0, 1] _ (.map (some .i64) (qa9 g))] = _ by rw [qbv]; rfl) rfl (hk2 rfl (qcr g _)) ((hp x).mono fun r s hr => ⟨[], by rw [hr.2]; rfl, hr.1, rfl⟩) (fun r ν hr => ?_)
    obtain ⟨rfl, rfl⟩ := hr
    simp only [zU, seval, List.map_nil, List.append_nil]
    have hdr2 : xs.drop (j + 1) = l.drop (j + 1) := by
     have := congrArg (List.drop 1) hdr
     rwa [List.drop_drop, List.drop_drop] at this
    refine ifC.mk (fun hc => ?_) (fun hc => ?_)
    ·have hfl : (l.take (j + 1)).filter (fun x => !p x) = (l.take j).filter (fun x => !p x) ++ [x] := by rw [hst, List.filter_append, List.filter_cons_of_pos (p := fun x => !p x) hc]; rfl
     have hfn : ((l.take (j + 1)).filter (fun x => !p x)).length = i + 1 := by rw [hfl, List.length_append, ← hi]; rfl
     (try simp only [zU, seval, (show (i:Int) < l.length by omega), hxl])
     repeat ((with_reducible refine And.intro ?_ ?_); (focus (first | omega | (simp only [qa2]; omega) | (refine qq ?_; rfl) | (refine dq ?_; kernel_rfl) | (intros; simp_all; done))))
     refine ⟨(j + 1, xs.set i x), ⟨by simp only; omega, h, by simp only [List.length_set]; exact hxl, ?_, ?_⟩, by simp only; omega, ?_⟩
     ·simp only
      rw [hfn, qfa (by omega), hpre, hfl]
     ·simp only
      rw [qfb (by omega), hdr2]
     ·simp only [hfn, List.map_set]
      refine qad [] [0, 1, 2] rfl (by simp) ?_ (qfv g _ _)
      simp only [zU, seval, @qai ((j:Int) + 1) (by omega), @qai ((i:Int) + 1) (by omega)]
      try rfl
    ·have hfl : (l.take (j + 1)).filter (fun x => !p x) = (l.take j).filter (fun x => !p x) := by rw [hst, List.filter_append, List.filter_cons_of_neg (by rw [hc]; simp)]; simp
     refine ⟨(j + 1, xs), ⟨by simp only; omega, h, hxl, ?_, hdr2⟩, by simp only; omega, ?_⟩
     ·simp only
      rw [hfl, ← hi, hpre]
     ·simp only [hfl, ← hi]
      refine qad [] [0, 1, 2] rfl (by simp) ?_ (qfv g _ _)
      simp only [zU, seval, @qai ((j:Int) + 1) (by omega)]
      try rfl
   ·have hjl : j = l.length := by omega
    subst hjl
    rw [List.take_length] at hpre hi
    simp only [zU, seval, (show ¬ (l.length:Int) < l.length by omega), (show (i:Int) ≤ l.length by omega), hxl, (show i ≤ l.length by omega)]
    repeat ((with_reducible refine And.intro ?_ ?_); (focus (first | omega | (simp only [qa2]; omega) | (refine qq ?_; rfl) | (refine dq ?_; kernel_rfl) | (intros; simp_all; done))))
    refine ⟨_, _, qe8 2 i (by simp) rfl (by rw [qbd]; simp; omega) (by rw [qbd]; simp; omega), .inr ⟨by rw [hi]; rfl, ?_⟩⟩
    rw [qek, ← List.map_take, hpre]
    rfl
theorem qug (g : Int → Bool) {fv : FuncId} (p : qar → Bool) (hp : ∀ x : qar, qaf Tryz.prog Gl fv [.d x.toD, .ptr 0 0] (.box 1 (.mapr 1) :: .map (some .i64) (qa9 g) :: []) (fun r s => r = .d (.bool (p x)) ∧ s = (.box 1 (.mapr 1) :: .map (some .i64) (qa9 g) :: []))) (l : List qar) (hl : l.length < 1000000) :
  qaf Tryz.prog Gl 79 [.d (.sl (l.map qar.toD)), .fn fv [.ptr 0 0]] (.box 1 (.mapr 1) :: .map (some .i64) (qa9 g) :: [])
  (fun r s => r = .d (.sl ((l.filter (fun x => !p x)).map qar.toD)) ∧ s = (.box 1 (.mapr 1) :: .map (some .i64) (qa9 g) :: [])) := by
 refine qac Tryz.func79 rfl rfl (by simp [Tryz.ntmps79]) (qab rfl _ _ _ _ ?_)
 simp only [Tryz.ntmps79, Tryz.results79, qak, List.length_nil]
 simp only [zU, seval]
 refine qaq ((qox l hl (.box 1 (.mapr 1) :: .map (some .i64) (qa9 g) :: [])).mono fun r s hr => ?_)
 obtain ⟨rfl, rfl⟩ := hr
 simp only [zU, seval, List.length_map]
 refine qaq ((Qa3 g p hp l hl).mono fun r s hr => ?_)
 rcases hr with ⟨rfl, rfl⟩ | ⟨rfl, rfl⟩
 ·simp only [zU, seval]
  refine ⟨_, _, (qcw rfl).trans (qae [] [0, 1] rfl (by simp) (show qbf _ _ _ = AV.d _ from rfl) (q0r g _)), ?_, rfl⟩
  show AV.d (D.sl (List.take _ (List.map qar.toD _))) = _
  rw [qba]
 ·simp only [zU, seval]
  refine ⟨_, _, (qcw rfl).trans (qae [] [0, 1] rfl (by simp) (show qbf _ _ _ = AV.d _ from rfl) (q0r g _)), ?_, rfl⟩
  show AV.d (D.sl (List.take _ (List.map qar.toD _))) = _
  rw [qba]
theorem q5b (l : List qcc) (hl : l.length < 1000000) : qja Tryz.prog Gl 144 [.d (.sl (l.map qcc.toD))] 4 (l.map qcc.toD) := by
 refine qja.of (args := [.sl (l.map qcc.toD)]) ?_
 have hes : ∀ y ∈ l.map qcc.toD, y.cells.length = 4 := fun y hy => by
  obtain ⟨r, _, rfl⟩ := List.mem_map.1 hy; rfl
 have hfl : ∀ y ∈ l.map qcc.toD, y.flat := fun y hy => by
  obtain ⟨r, _, rfl⟩ := List.mem_map.1 hy
  intro c hc
  simp [qcc.toD, D.cells] at hc
  rcases hc with rfl | rfl | rfl | rfl <;> rfl
 simp only [List.map_cons, List.map_nil]
 cases l with
 | nil =>
  refine qac Tryz.func144 rfl rfl (by simp [Tryz.ntmps144]) (qab rfl _ _ _ _ ?_)
  simp only [Tryz.ntmps144, Tryz.results144, qak, List.length_nil]
  simp only [zU, seval]
  refine ⟨⟨_, _, qeh 4 (Nat.le_refl 0), rfl, rfl⟩, ?_⟩
  exact ⟨_, _, qae [] [1] rfl (by simp) rfl rfl, rfl, rfl⟩
 | cons r rs =>
  simp only [List.map_cons, List.length_cons] at hes hl hfl ⊢
  refine qac Tryz.func144 rfl rfl (by simp [Tryz.ntmps144]) (qab rfl _ _ _ _ ?_)
  simp only [Tryz.ntmps144, Tryz.results144, qak, List.length_nil]
  simp only [zU, seval]
  refine ⟨by omega, ?_⟩
  exact ⟨_, _, qae [] [1] rfl (by simp) rfl rfl, rfl, rfl⟩
theorem qhy (g : Int → Bool) (xs : List D) (σ : Sto) : qdb [0, 1, 2] (freezeL (.box 1 (.mapr 1) :: .map (some .i64) (qa9 g) :: .arr 4 xs :: σ) []) = .box 1 (.mapr 1) :: .map (some .i64) (qa9 g) :: .arr 4 xs :: [] := by
 show [qbu [0, 1, 2] _ (.box 1 (.mapr 1)), qbu [0, 1, 2] _ (.map (some .i64) (qa9 g)), _] = _
 rw [qbv]; rfl
theorem q64 (g : Int → Bool) (σ : Sto) : qdb [0, 1] (freezeL (.box 1 (.mapr 1) :: .map (some .i64) (qa9 g) :: σ) []) = .box 1 (.mapr 1) :: .map (some .i64) (qa9 g) :: [] := by
 show [qbu [0, 1] _ (.box 1 (.mapr 1)), qbu [0, 1] _ (.map (some .i64) (qa9 g))] = _
 rw [qbv]; rfl
theorem Qep (g : Int → Bool) {fv : FuncId} (p : qcc → Bool) (hp : ∀ x : qcc, qaf Tryz.prog Gl fv [.d x.toD, .ptr 0 0] (.box 1 (.mapr 1) :: .map (some .i64) (qa9 g) :: []) (fun r s => r = .d (.bool (p x)) ∧ s = (.box 1 (.mapr 1) :: .map (some .i64) (qa9 g) :: []))) (l : List qcc) (hl : l.length < 1000000) :
  qaf Tryz.prog Gl 188 [.osl 2 0 l.length, .fn fv [.ptr 0 0]] (.box 1 (.mapr 1) :: .map (some .i64) (qa9 g) :: .arr 4 (l.map qcc.toD) :: [])
  (fun r s => (∃ j : Int, r = .d (.int .i64 j) ∧ ((j = -1 ∧ l.filter (fun x => !p x) = l) ∨ ∃ k : Nat, j = k ∧ k < l.length ∧ (l.take (k + 1)).filter (fun x => !p x) = l.take k)) ∧ s = (.box 1 (.mapr 1) :: .map (some .i64) (qa9 g) :: .arr 4 (l.map qcc.toD) :: [])) := by
 refine qac Tryz.func188 rfl rfl (by simp [Tryz.ntmps188]) (qab rfl _ _ _ _ ?_)
 simp only [Tryz.ntmps188, Tryz.results188, qak, List.length_nil]
 simp only [zU, seval]
 refine qa7 l.length (fun k => [(0, .osl 2 0 l.length), (1, .fn fv [.ptr 0 0]), (7, .d (.int .i64 l.length)), (8, .d (.int .i64 k))]) (fun _ => (.box 1 (.mapr 1) :: .map (some .i64) (qa9 g) :: .arr 4 (l.map qcc.toD) :: [])) (fun k => (l.take k).filter (fun x => !p x) = l.take k) rfl ?_ ?_
 ·refine qad [] [0, 1, 2] rfl (by simp) ?_ (qhy g _ _)
  simp only [zU, seval]
  try rfl
 ·intro k hi hk
  by_cases h : k < l.length
  ·obtain ⟨x, hx⟩ : ∃ x, x = l.getD k default := ⟨_, rfl⟩
   have eg : (l.map qcc.toD).getD k default = x.toD := by rw [qat _ _ _ h, ← hx]
   have hst := qa1 l k h
   rw [← hx] at hst
   simp only [zU, seval, (show (k:Int) < l.length by omega), h, eg]
   repeat ((with_reducible refine And.intro ?_ ?_); (focus (first | omega | (simp only [qa2]; omega) | (refine qq ?_; rfl) | (refine dq ?_; kernel_rfl) | (intros; simp_all; done))))
   refine qbz (R := fun r ν => r = .d (.bool (p x)) ∧ ν = []) [0, 1] (.box 1 (.mapr 1) :: .map (some .i64) (qa9 g) :: []) (by simp) (by simp) (show [qbu [0, 1] _ (.box 1 (.mapr 1)), qbu [0, 1] _ (.map (some .i64) (qa9 g))] = _ by rw [qbv]; rfl) rfl (hk2 rfl (qcr g _)) ((hp x).mono fun r s hr => ⟨[], by rw [hr.2]; rfl, hr.1, rfl⟩) (fun r ν hr => ?_)
   obtain ⟨rfl, rfl⟩ := hr
   simp only [zU, seval, List.map_nil, List.append_nil]
   refine ifC.mk (fun hc => ?_) (fun hc => ?_)
   ·refine ⟨_, _, qae [] [0, 1, 2] rfl (by simp) (show qbf _ _ _ = AV.d _ from rfl) (qhy g _ _), ⟨k, rfl, .inr ⟨k, rfl, h, ?_⟩⟩, rfl⟩
    rw [hst, List.filter_append, hi, List.filter_cons_of_neg (by rw [hc]; simp)]
    simp
   ·refine ⟨by rw [hst, List.filter_append, hi, List.filter_cons_of_pos (by rw [hc]; rfl)]; rfl, ?_⟩
    refine qad [] [0, 1, 2] rfl (by simp) ?_ (qhy g _ _)
    simp only [zU, seval, @qai ((k:Int) + 1) (by omega)]
    try rfl
  ·have : k = l.length := by omega
   subst this
   rw [List.take_length] at hi
   simp only [zU, seval, (show ¬ (l.length:Int) < l.length by omega)]
   exact ⟨_, _, qae [] [0, 1, 2] rfl (by simp) (show qbf _ _ _ = AV.d _ from rfl) (qhy g _ _), ⟨-1, rfl, .inl ⟨rfl, hi⟩⟩, rfl⟩
theorem Qev (g : Int → Bool) {fv : FuncId} (p : qcc → Bool) (hp : ∀ x : qcc, qaf Tryz.prog Gl fv [.d x.toD, .ptr 0 0] (.box 1 (.mapr 1) :: .map (some .i64) (qa9 g) :: []) (fun r s => r = .d (.bool (p x)) ∧ s = (.box 1 (.mapr 1) :: .map (some .i64) (qa9 g) :: []))) (l : List qcc) (hl : l.length < 1000000) :
  qaf Tryz.prog Gl 143 [.osl 2 0 l.length, .fn fv [.ptr 0 0]] (.box 1 (.mapr 1) :: .map (some .i64) (qa9 g) :: .arr 4 (l.map qcc.toD) :: [])
  (fun r s => (r = .osl 2 0 (l.filter (fun x => !p x)).length ∧ s = (.box 1 (.mapr 1) :: .map (some .i64) (qa9 g) :: .arr 4 ((l.filter (fun x => !p x)).map qcc.toD) :: [])) ∨ (r = .osl 3 0 (l.filter (fun x => !p x)).length ∧ s = (.box 1 (.mapr 1) :: .map (some .i64) (qa9 g) :: .dead :: .arr 4 ((l.filter (fun x => !p x)).map qcc.toD) :: []))) := by
 refine qac Tryz.func143 rfl rfl (by simp [Tryz.ntmps143]) (qab rfl _ _ _ _ ?_)
 simp only [Tryz.ntmps143, Tryz.results143, qak, List.length_nil]
 simp only [zU, seval]
 refine qaq ((Qep g p hp l hl).mono fun r s hr => ?_)
 obtain ⟨⟨c, rfl, hcs⟩, rfl⟩ := hr
 rcases hcs with ⟨rfl, hn⟩ | ⟨k, rfl, hk, hf⟩
 ·simp only [zU, seval]
  rw [hn]
  refine ⟨_, _, qae [] [0, 1, 2] rfl (by simp) rfl (qhy g _ _), .inl ⟨rfl, rfl⟩⟩
 ·have e0 : ((k : Int) == -1) = false := by rw [beq_eq_false_iff_ne]; omega
  simp only [zU, seval, e0, @qai ((k:Int) + 1) (by omega)]
  repeat ((with_reducible refine And.intro ?_ ?_); (focus (first | omega | (simp only [qa2]; omega) | (refine qq ?_; rfl) | (refine dq ?_; kernel_rfl) | (intros; simp_all; done))))
  refine qck (τ := Nat × List qcc) (fun u => [(0, .osl 2 0 l.length), (1, .fn fv [.ptr 0 0]), (5, .d (.int .i64 (((l.take u.1).filter (fun x => !p x)).length : Nat))), (6, .d (.int .i64 u.1))]) (fun u => (.box 1 (.mapr 1) :: .map (some .i64) (qa9 g) :: .arr 4 (u.2.map qcc.toD) :: []))
   (fun u => k < u.1 ∧ u.1 ≤ l.length ∧ u.2.length = l.length ∧ u.2.take ((l.take u.1).filter (fun x => !p x)).length = (l.take u.1).filter (fun x => !p x) ∧ u.2.drop u.1 = l.drop u.1) (fun u => l.length - u.1) (k + 1, l) ?_ ?_ ?_
  ·refine ⟨by simp only; omega, hk, rfl, ?_, rfl⟩
   simp only
   rw [hf, List.length_take, Nat.min_eq_left (by omega)]
  ·have e1 : ((l.take (k + 1)).filter (fun x => !p x)).length = k := by rw [hf, List.length_take]; omega
   rw [e1]
   refine qad [] [0, 1, 2] rfl (by simp) ?_ (qhy g _ _)
   simp only [zU, seval]
   try rfl
  ·rintro ⟨j, xs⟩ ⟨hkj, hj, hxl, hpre, hdr⟩
   simp only at hkj hj hxl hpre hdr
   obtain ⟨i, hi⟩ : ∃ i, i = ((l.take j).filter (fun x => !p x)).length := ⟨_, rfl⟩
   have hij := qkb hk hf hkj hj
   rw [← hi] at hpre hij
   rw [← hi]
   by_cases h : j < l.length
   ·obtain ⟨x, hx⟩ : ∃ x, x = l.getD j default := ⟨_, rfl⟩
    have hxx : xs.getD j default = x := by
     have e : xs[j]? = l[j]? := by
      have := congrArg (fun z => z[0]?) hdr
      simpa using this
     rw [List.getD_eq_getElem?_getD, e, hx, List.getD_eq_getElem?_getD]
    have eg : (xs.map qcc.toD).getD j default = x.toD := by rw [qat _ _ _ (by omega), hxx]
    have hst := qa1 l j h
    rw [← hx] at hst
    simp only [zU, seval, (show (j:Int) < l.length by omega), h, eg, hxl]
    repeat ((with_reducible refine And.intro ?_ ?_); (focus (first | omega | (simp only [qa2]; omega) | (refine qq ?_; rfl) | (refine dq ?_; kernel_rfl) | (intros; simp_all; done))))
    refine qbz (R := fun r ν => r = .d (.bool (p x)) ∧ ν = []) [0, 1] (.box 1 (.mapr 1) :: .map (some .i64) (qa9 g) :: []) (by simp) (by simp) (show [qbu [0, 1] _ (.box 1 (.mapr 1)), qbu [0, 1] _ (.map (some .i64) (qa9 g))] = _ by rw [qbv]; rfl) rfl (hk2 rfl (qcr g _)) ((hp x).mono fun r s hr => ⟨[], by rw [hr.2]; rfl, hr.1, rfl⟩) (fun r ν hr => ?_)
    obtain ⟨rfl, rfl⟩ := hr
    simp only [zU, seval, List.map_nil, List.append_nil]
    have hdr2 : xs.drop (j + 1) = l.drop (j + 1) := by
     have := congrArg (List.drop 1) hdr
     rwa [List.drop_drop, List.drop_drop] at this
    refine ifC.mk (fun hc => ?_) (fun hc => ?_)
    ·have hfl : (l.take (j + 1)).filter (fun x => !p x) = (l.take j).filter (fun x => !p x) ++ [x] := by rw [hst, List.filter_append, List.filter_cons_of_pos (p := fun x => !p x) hc]; rfl
     have hfn : ((l.take (j + 1)).filter (fun x => !p x)).length = i + 1 := by rw [hfl, List.length_append, ← hi]; rfl
     (try simp only [zU, seval, (show (i:Int) < l.length by omega), hxl])
     repeat ((with_reducible refine And.intro ?_ ?_); (focus (first | omega | (simp only [qa2]; omega) | (refine qq ?_; rfl) | (refine dq ?_; kernel_rfl) | (intros; simp_all; done))))
     refine ⟨(j + 1, xs.set i x), ⟨by simp only; omega, h, by simp only [List.length_set]; exact hxl, ?_, ?_⟩, by simp only; omega, ?_⟩
     ·simp only
      rw [hfn, qfa (by omega), hpre, hfl]
     ·simp only
      rw [qfb (by omega), hdr2]
     ·simp only [hfn, List.map_set]
      refine qad [] [0, 1, 2] rfl (by simp) ?_ (qhy g _ _)
      simp only [zU, seval, @qai ((j:Int) + 1) (by omega), @qai ((i:Int) + 1) (by omega)]
      try rfl
    ·have hfl : (l.take (j + 1)).filter (fun x => !p x) = (l.take j).filter (fun x => !p x) := by rw [hst, List.filter_append, List.filter_cons_of_neg (by rw [hc]; simp)]; simp
     refine ⟨(j + 1, xs), ⟨by simp only; omega, h, hxl, ?_, hdr2⟩, by simp only; omega, ?_⟩
     ·simp only
      rw [hfl, ← hi, hpre]
     ·simp only [hfl, ← hi]
      refine qad [] [0, 1, 2] rfl (by simp) ?_ (qhy g _ _)
      simp only [zU, seval, @qai ((j:Int) + 1) (by omega)]
      try rfl
   ·have hjl : j = l.length := by omega
    subst hjl
    rw [List.take_length] at hpre hi
    simp only [zU, seval, (show ¬ (l.length:Int) < l.length by omega), (show (i:Int) ≤ l.length by omega), hxl, (show i ≤ l.length by omega)]
    repeat ((with_reducible refine And.intro ?_ ?_); (focus (first | omega | (simp only [qa2]; omega) | (refine qq ?_; rfl) | (refine dq ?_; kernel_rfl) | (intros; simp_all; done))))
    refine ⟨_, _, qe8 2 i (by simp) rfl (by rw [qbd]; simp; omega) (by rw [qbd]; simp; omega), .inr ⟨by rw [hi]; rfl, ?_⟩⟩
    rw [qek, ← List.map_take, hpre]
    rfl
theorem qzg (g : Int → Bool) {fv : FuncId} (p : qcc → Bool) (hp : ∀ x : qcc, qaf Tryz.prog Gl fv [.d x.toD, .ptr 0 0] (.box 1 (.mapr 1) :: .map (some .i64) (qa9 g) :: []) (fun r s => r = .d (.bool (p x)) ∧ s = (.box 1 (.mapr 1) :: .map (some .i64) (qa9 g) :: []))) (l : List qcc) (hl : l.length < 1000000) :
  qaf Tryz.prog Gl 81 [.d (.sl (l.map qcc.toD)), .fn fv [.ptr 0 0]] (.box 1 (.mapr 1) :: .map (some .i64) (qa9 g) :: [])
  (fun r s => r = .d (.sl ((l.filter (fun x => !p x)).map qcc.toD)) ∧ s = (.box 1 (.mapr 1) :: .map (some .i64) (qa9 g) :: [])) := by
 refine qac Tryz.func81 rfl rfl (by simp [Tryz.ntmps81]) (qab rfl _ _ _ _ ?_)
 simp only [Tryz.ntmps81, Tryz.results81, qak, List.length_nil]
 simp only [zU, seval]
 refine qaq ((q5b l hl (.box 1 (.mapr 1) :: .map (some .i64) (qa9 g) :: [])).mono fun r s hr => ?_)
 obtain ⟨rfl, rfl⟩ := hr
 simp only [zU, seval, List.length_map]
 refine qaq ((Qev g p hp l hl).mono fun r s hr => ?_)
 rcases hr with ⟨rfl, rfl⟩ | ⟨rfl, rfl⟩
 ·simp only [zU, seval]
  refine ⟨_, _, (qcw rfl).trans (qae [] [0, 1] rfl (by simp) (show qbf _ _ _ = AV.d _ from rfl) (q64 g _)), ?_, rfl⟩
  show AV.d (D.sl (List.take _ (List.map qcc.toD _))) = _
  rw [qba]
 ·simp only [zU, seval]
  refine ⟨_, _, (qcw rfl).trans (qae [] [0, 1] rfl (by simp) (show qbf _ _ _ = AV.d _ from rfl) (q64 g _)), ?_, rfl⟩
  show AV.d (D.sl (List.take _ (List.map qcc.toD _))) = _
  rw [qba]
theorem q5a (l : List qbb) (hl : l.length < 1000000) : qja Tryz.prog Gl 136 [.d (.sl (l.map qbb.toD))] 3 (l.map qbb.toD) := by
 refine qja.of (args := [.sl (l.map qbb.toD)]) ?_
 have hes : ∀ y ∈ l.map qbb.toD, y.cells.length = 3 := fun y hy => by
  obtain ⟨r, _, rfl⟩ := List.mem_map.1 hy; rfl
 have hfl : ∀ y ∈ l.map qbb.toD, y.flat := fun y hy => by
  obtain ⟨r, _, rfl⟩ := List.mem_map.1 hy
  intro c hc
  simp [qbb.toD, D.cells] at hc
  rcases hc with rfl | rfl | rfl <;> rfl
 simp only [List.map_cons, List.map_nil]
 cases l with
 | nil =>
  refine qac Tryz.func136 rfl rfl (by simp [Tryz.ntmps136]) (qab rfl _ _ _ _ ?_)
  simp only [Tryz.ntmps136, Tryz.results136, qak, List.length_nil]
  simp only [zU, seval]
  refine ⟨⟨_, _, qeh 3 (Nat.le_refl 0), rfl, rfl⟩, ?_⟩
  exact ⟨_, _, qae [] [1] rfl (by simp) rfl rfl, rfl, rfl⟩
 | cons r rs =>
  simp only [List.map_cons, List.length_cons] at hes hl hfl ⊢
  refine qac Tryz.func136 rfl rfl (by simp [Tryz.ntmps136]) (qab rfl _ _ _ _ ?_)
  simp only [Tryz.ntmps136, Tryz.results136, qak, List.length_nil]
  simp only [zU, seval]
  refine ⟨by omega, ?_⟩
  exact ⟨_, _, qae [] [1] rfl (by simp) rfl rfl, rfl, rfl⟩
theorem qgy (rs : D) (xs : List D) (σ : Sto) : qdb [0, 1] (freezeL (.box 1 (.d rs) :: .arr 3 xs :: σ) []) = .box 1 (.d rs) :: .arr 3 xs :: [] := by
 rfl
theorem Qhz (rs : D) (xs : List D) (B : Blk) : qdb [0, 2] (freezeL (.box 1 (.d rs) :: B :: .arr 3 xs :: []) []) = .box 1 (.d rs) :: .arr 3 xs :: [] := by
 rfl
theorem Qeo (rs : D) {fv : FuncId} (p : qbb → Bool) (hp : ∀ x : qbb, qaf Tryz.prog Gl fv [.d x.toD, .ptr 0 0] (.box 1 (.d rs) :: []) (fun r s => r = .d (.bool (p x)) ∧ s = (.box 1 (.d rs) :: []))) (l : List qbb) (hl : l.length < 1000000) :
  qaf Tryz.prog Gl 176 [.osl 1 0 l.length, .fn fv [.ptr 0 0]] (.box 1 (.d rs) :: .arr 3 (l.map qbb.toD) :: [])
  (fun r s => (∃ j : Int, r = .d (.int .i64 j) ∧ ((j = -1 ∧ l.filter (fun x => !p x) = l) ∨ ∃ k : Nat, j = k ∧ k < l.length ∧ (l.take (k + 1)).filter (fun x => !p x) = l.take k)) ∧ s = (.box 1 (.d rs) :: .arr 3 (l.map qbb.toD) :: [])) := by
 refine qac Tryz.func176 rfl rfl (by simp [Tryz.ntmps176]) (qab rfl _ _ _ _ ?_)
 simp only [Tryz.ntmps176, Tryz.results176, qak, List.length_nil]
 simp only [zU, seval]
 refine qa7 l.length (fun k => [(0, .osl 1 0 l.length), (1, .fn fv [.ptr 0 0]), (7, .d (.int .i64 l.length)), (8, .d (.int .i64 k))]) (fun _ => (.box 1 (.d rs) :: .arr 3 (l.map qbb.toD) :: [])) (fun k => (l.take k).filter (fun x => !p x) = l.take k) rfl ?_ ?_
 ·refine qad [] [0, 1] rfl (by simp) ?_ (qgy rs _ _)
  simp only [zU, seval]
  try rfl
 ·intro k hi hk
  by_cases h : k < l.length
  ·obtain ⟨x, hx⟩ : ∃ x, x = l.getD k default := ⟨_, rfl⟩
   have eg : (l.map qbb.toD).getD k default = x.toD := by rw [qat _ _ _ h, ← hx]
   have hst := qa1 l k h
   rw [← hx] at hst
   simp only [zU, seval, (show (k:Int) < l.length by omega), h, eg]
   repeat ((with_reducible refine And.intro ?_ ?_); (focus (first | omega | (simp only [qa2]; omega) | (refine qq ?_; rfl) | (refine dq ?_; kernel_rfl) | (intros; simp_all; done))))
   refine qbz (R := fun r ν => r = .d (.bool (p x)) ∧ ν = []) [0] (.box 1 (.d rs) :: []) (by simp) (by simp) rfl rfl (hk1 rfl) ((hp x).mono fun r s hr => ⟨[], by rw [hr.2]; rfl, hr.1, rfl⟩) (fun r ν hr => ?_)
   obtain ⟨rfl, rfl⟩ := hr
   simp only [zU, seval, List.map_nil, List.append_nil]
   refine ifC.mk (fun hc => ?_) (fun hc => ?_)
   ·refine ⟨_, _, qae [] [0, 1] rfl (by simp) (show qbf _ _ _ = AV.d _ from rfl) (qgy rs _ _), ⟨k, rfl, .inr ⟨k, rfl, h, ?_⟩⟩, rfl⟩
    rw [hst, List.filter_append, hi, List.filter_cons_of_neg (by rw [hc]; simp)]
    simp
   ·refine ⟨by rw [hst, List.filter_append, hi, List.filter_cons_of_pos (by rw [hc]; rfl)]; rfl, ?_⟩
    refine qad [] [0, 1] rfl (by simp) ?_ (qgy rs _ _)
    simp only [zU, seval, @qai ((k:Int) + 1) (by omega)]
    try rfl
  ·have : k = l.length := by omega
   subst this
   rw [List.take_length] at hi
   simp only [zU, seval, (show ¬ (l.length:Int) < l.length by omega)]
   exact ⟨_, _, qae [] [0, 1] rfl (by simp) (show qbf _ _ _ = AV.d _ from rfl) (qgy rs _ _), ⟨-1, rfl, .inl ⟨rfl, hi⟩⟩, rfl⟩
theorem Qeu (rs : D) {fv : FuncId} (p : qbb → Bool) (hp : ∀ x : qbb, qaf Tryz.prog Gl fv [.d x.toD, .ptr 0 0] (.box 1 (.d rs) :: []) (fun r s => r = .d (.bool (p x)) ∧ s = (.box 1 (.d rs) :: []))) (l : List qbb) (hl : l.length < 1000000) :
  qaf Tryz.prog Gl 135 [.osl 1 0 l.length, .fn fv [.ptr 0 0]] (.box 1 (.d rs) :: .arr 3 (l.map qbb.toD) :: [])
  (fun r s => (r = .osl 1 0 (l.filter (fun x => !p x)).length ∧ s = (.box 1 (.d rs) :: .arr 3 ((l.filter (fun x => !p x)).map qbb.toD) :: [])) ∨ (r = .osl 2 0 (l.filter (fun x => !p x)).length ∧ s = (.box 1 (.d rs) :: .dead :: .arr 3 ((l.filter (fun x => !p x)).map qbb.toD) :: []))) := by
 refine qac Tryz.func135 rfl rfl (by simp [Tryz.ntmps135]) (qab rfl _ _ _ _ ?_)
 simp only [Tryz.ntmps135, Tryz.results135, qak, List.length_nil]
 simp only [zU, seval]
 refine qaq ((Qeo rs p hp l hl).mono fun r s hr => ?_)
 obtain ⟨⟨c, rfl, hcs⟩, rfl⟩ := hr
 rcases hcs with ⟨rfl, hn⟩ | ⟨k, rfl, hk, hf⟩
 ·simp only [zU, seval]
  rw [hn]
  refine ⟨_, _, qae [] [0, 1] rfl (by simp) rfl (qgy rs _ _), .inl ⟨rfl, rfl⟩⟩
 ·have e0 : ((k : Int) == -1) = false := by rw [beq_eq_false_iff_ne]; omega
  simp only [zU, seval, e0, @qai ((k:Int) + 1) (by omega)]
  repeat ((with_reducible refine And.intro ?_ ?_); (focus (first | omega | (simp only [qa2]; omega) | (refine qq ?_; rfl) | (refine dq ?_; kernel_rfl) | (intros; simp_all; done))))
  refine qck (τ := Nat × List qbb) (fun u => [(0, .osl 1 0 l.length), (1, .fn fv [.ptr 0 0]), (5, .d (.int .i64 (((l.take u.1).filter (fun x => !p x)).length : Nat))), (6, .d (.int .i64 u.1))]) (fun u => (.box 1 (.d rs) :: .arr 3 (u.2.map qbb.toD) :: []))
   (fun u => k < u.1 ∧ u.1 ≤ l.length ∧ u.2.length = l.length ∧ u.2.take ((l.take u.1).filter (fun x => !p x)).length = (l.take u.1).filter (fun x => !p x) ∧ u.2.drop u.1 = l.drop u.1) (fun u => l.length - u.1) (k + 1, l) ?_ ?_ ?_
  ·refine ⟨by simp only; omega, hk, rfl, ?_, rfl⟩
   simp only
   rw [hf, List.length_take, Nat.min_eq_left (by omega)]
  ·have e1 : ((l.take (k + 1)).filter (fun x => !p x)).length = k := by rw [hf, List.length_take]; omega
   rw [e1]
   refine qad [] [0, 1] rfl (by simp) ?_ (qgy rs _ _)
   simp only [zU, seval]
   try rfl
  ·rintro ⟨j, xs⟩ ⟨hkj, hj, hxl, hpre, hdr⟩
   simp only at hkj hj hxl hpre hdr
   obtain ⟨i, hi⟩ : ∃ i, i = ((l.take j).filter (fun x => !p x)).length := ⟨_, rfl⟩
   have hij := qkb hk hf hkj hj
   rw [← hi] at hpre hij
   rw [← hi]
   by_cases h : j < l.length
   ·obtain ⟨x, hx⟩ : ∃ x, x = l.getD j default := ⟨_, rfl⟩
    have hxx : xs.getD j default = x := by
     have e : xs[j]? = l[j]? := by
      have := congrArg (fun z => z[0]?) hdr
      simpa using this
     rw [List.getD_eq_getElem?_getD, e, hx, List.getD_eq_getElem?_getD]
    have eg : (xs.map qbb.toD).getD j default = x.toD := by rw [qat _ _ _ (by omega), hxx]
    have hst := qa1 l j h
    rw [← hx] at hst
    simp only [zU, seval, (show (j:Int) < l.length by omega), h, eg, hxl]
    repeat ((with_reducible refine And.intro ?_ ?_); (focus (first | omega | (simp only [qa2]; omega) | (refine qq ?_; rfl) | (refine dq ?_; kernel_rfl) | (intros; simp_all; done))))
    refine qbz (R := fun r ν => r = .d (.bool (p x)) ∧ ν = []) [0] (.box 1 (.d rs) :: []) (by simp) (by simp) rfl rfl (hk1 rfl) ((hp x).mono fun r s hr => ⟨[], by rw [hr.2]; rfl, hr.1, rfl⟩) (fun r ν hr => ?_)
    obtain ⟨rfl, rfl⟩ := hr
    simp only [zU, seval, List.map_nil, List.append_nil]
    have hdr2 : xs.drop (j + 1) = l.drop (j + 1) := by
     have := congrArg (List.drop 1) hdr
     rwa [List.drop_drop, List.drop_drop] at this
    refine ifC.mk (fun hc => ?_) (fun hc => ?_)
    ·have hfl : (l.take (j + 1)).filter (fun x => !p x) = (l.take j).filter (fun x => !p x) ++ [x] := by rw [hst, List.filter_append, List.filter_cons_of_pos (p := fun x => !p x) hc]; rfl
     have hfn : ((l.take (j + 1)).filter (fun x => !p x)).length = i + 1 := by rw [hfl, List.length_append, ← hi]; rfl
     (try simp only [zU, seval, (show (i:Int) < l.length by omega), hxl])
     repeat ((with_reducible refine And.intro ?_ ?_); (focus (first | omega | (simp only [qa2]; omega) | (refine qq ?_; rfl) | (refine dq ?_; kernel_rfl) | (intros; simp_all; done))))
     refine ⟨(j + 1, xs.set i x), ⟨by simp only; omega, h, by simp only [List.length_set]; exact hxl, ?_, ?_⟩, by simp only; omega, ?_⟩
     ·simp only
      rw [hfn, qfa (by omega), hpre, hfl]
     ·simp only
      rw [qfb (by omega), hdr2]
     ·simp only [hfn, List.map_set]
      refine qad [] [0, 1] rfl (by simp) ?_ (qgy rs _ _)
      simp only [zU, seval, @qai ((j:Int) + 1) (by omega), @qai ((i:Int) + 1) (by omega)]
      try rfl
    ·have hfl : (l.take (j + 1)).filter (fun x => !p x) = (l.take j).filter (fun x => !p x) := by rw [hst, List.filter_append, List.filter_cons_of_neg (by rw [hc]; simp)]; simp
     refine ⟨(j + 1, xs), ⟨by simp only; omega, h, hxl, ?_, hdr2⟩, by simp only; omega, ?_⟩
     ·simp only
      rw [hfl, ← hi, hpre]
     ·simp only [hfl, ← hi]
      refine qad [] [0, 1] rfl (by simp) ?_ (qgy rs _ _)
      simp only [zU, seval, @qai ((j:Int) + 1) (by omega)]
      try rfl
   ·have hjl : j = l.length := by omega
    subst hjl
    rw [List.take_length] at hpre hi
    simp only [zU, seval, (show ¬ (l.length:Int) < l.length by omega), (show (i:Int) ≤ l.length by omega), hxl, (show i ≤ l.length by omega)]
    repeat ((with_reducible refine And.intro ?_ ?_); (focus (first | omega | (simp only [qa2]; omega) | (refine qq ?_; rfl) | (refine dq ?_; kernel_rfl) | (intros; simp_all; done))))
    refine ⟨_, _, qe8 1 i (by simp) rfl (by rw [qbd]; simp; omega) (by rw [qbd]; simp; omega), .inr ⟨by rw [hi]; rfl, ?_⟩⟩
    rw [qek, ← List.map_take, hpre]
    rfl
theorem qzf (rs : D) {fv : FuncId} (p : qbb → Bool) (hp : ∀ x : qbb, qaf Tryz.prog Gl fv [.d x.toD, .ptr 0 0] (.box 1 (.d rs) :: []) (fun r s => r = .d (.bool (p x)) ∧ s = (.box 1 (.d rs) :: []))) (l : List qbb) (hl : l.length < 1000000) :
  qaf Tryz.prog Gl 71 [.d (.sl (l.map qbb.toD)), .fn fv [.ptr 0 0]] (.box 1 (.d rs) :: [])
  (fun r s => r = .osl 1 0 (l.filter (fun x => !p x)).length ∧ s = (.box 1 (.d rs) :: .arr 3 ((l.filter (fun x => !p x)).map qbb.toD) :: [])) := by
 refine qac Tryz.func71 rfl rfl (by simp [Tryz.ntmps71]) (qab rfl _ _ _ _ ?_)
 simp only [Tryz.ntmps71, Tryz.results71, qak, List.length_nil]
 simp only [zU, seval]
 refine qaq ((q5a l hl (.box 1 (.d rs) :: [])).mono fun r s hr => ?_)
 obtain ⟨rfl, rfl⟩ := hr
 simp only [zU, seval, List.length_map]
 refine qaq ((Qeu rs p hp l hl).mono fun r s hr => ?_)
 rcases hr with ⟨rfl, rfl⟩ | ⟨rfl, rfl⟩
 ·simp only [zU, seval]
  exact ⟨_, _, qae [] [0, 1] rfl (by simp) rfl (qgy rs _ _), rfl, rfl⟩
 ·simp only [zU, seval]
  exact ⟨_, _, qae [] [0, 2] rfl (by simp) rfl (Qhz rs _ _), rfl, rfl⟩
theorem q49 (l : List (List UInt8)) (hl : l.length < 1000000) : qja Tryz.prog Gl 134 [.d (.sl (l.map D.str))] 1 (l.map D.str) := by
 refine qja.of (args := [.sl (l.map D.str)]) ?_
 have hes : ∀ y ∈ l.map D.str, y.cells.length = 1 := fun y hy => by
  obtain ⟨r, _, rfl⟩ := List.mem_map.1 hy; rfl
 have hfl : ∀ y ∈ l.map D.str, y.flat := fun y hy => by
  obtain ⟨r, _, rfl⟩ := List.mem_map.1 hy
  intro c hc
  simp [D.cells] at hc
  subst hc; rfl
 simp only [List.map_cons, List.map_nil]
 cases l with
 | nil =>
  refine qac Tryz.func134 rfl rfl (by simp [Tryz.ntmps134]) (qab rfl _ _ _ _ ?_)
  simp only [Tryz.ntmps134, Tryz.results134, qak, List.length_nil]
  simp only [zU, seval]
  refine ⟨⟨_, _, qeh 1 (Nat.le_refl 0), rfl, rfl⟩, ?_⟩
  exact ⟨_, _, qae [] [1] rfl (by simp) rfl rfl, rfl, rfl⟩
 | cons r rs =>
  simp only [List.map_cons, List.length_cons] at hes hl hfl ⊢
  refine qac Tryz.func134 rfl rfl (by simp [Tryz.ntmps134]) (qab rfl _ _ _ _ ?_)
  simp only [Tryz.ntmps134, Tryz.results134, qak, List.length_nil]
  simp only [zU, seval]
  refine ⟨by omega, ?_⟩
  exact ⟨_, _, qae [] [1] rfl (by simp) rfl rfl, rfl, rfl⟩
theorem qhx (rs : D) (xs : List D) (σ : Sto) : qdb [0, 1] (freezeL (.box 1 (.d rs) :: .arr 1 xs :: σ) []) = .box 1 (.d rs) :: .arr 1 xs :: [] := by
 rfl
theorem q63 (rs : D) (σ : Sto) : qdb [0] (freezeL (.box 1 (.d rs) :: σ) []) = .box 1 (.d rs) :: [] := by
 rfl
theorem Qen (rs : D) {fv : FuncId} (p : (List UInt8) → Bool) (hp : ∀ x : (List UInt8), qaf Tryz.prog Gl fv [.d (D.str x), .ptr 0 0] (.box 1 (.d rs) :: []) (fun r s => r = .d (.bool (p x)) ∧ s = (.box 1 (.d rs) :: []))) (l : List (List UInt8)) (hl : l.length < 1000000) :
  qaf Tryz.prog Gl 186 [.osl 1 0 l.length, .fn fv [.ptr 0 0]] (.box 1 (.d rs) :: .arr 1 (l.map D.str) :: [])
  (fun r s => (∃ j : Int, r = .d (.int .i64 j) ∧ ((j = -1 ∧ l.filter (fun x => !p x) = l) ∨ ∃ k : Nat, j = k ∧ k < l.length ∧ (l.take (k + 1)).filter (fun x => !p x) = l.take k)) ∧ s = (.box 1 (.d rs) :: .arr 1 (l.map D.str) :: [])) := by
 refine qac Tryz.func186 rfl rfl (by simp [Tryz.ntmps186]) (qab rfl _ _ _ _ ?_)
 simp only [Tryz.ntmps186, Tryz.results186, qak, List.length_nil]
 simp only [zU, seval]
 refine qa7 l.length (fun k => [(0, .osl 1 0 l.length), (1, .fn fv [.ptr 0 0]), (7, .d (.int .i64 l.length)), (8, .d (.int .i64 k))]) (fun _ => (.box 1 (.d rs) :: .arr 1 (l.map D.str) :: [])) (fun k => (l.take k).filter (fun x => !p x) = l.take k) rfl ?_ ?_
 ·refine qad [] [0, 1] rfl (by simp) ?_ (qhx rs _ _)
  simp only [zU, seval]
  try rfl
 ·intro k hi hk
  by_cases h : k < l.length
  ·obtain ⟨x, hx⟩ : ∃ x, x = l.getD k default := ⟨_, rfl⟩
   have eg : (l.map D.str).getD k default = (D.str x) := by rw [qat _ _ _ h, ← hx]
   have hst := qa1 l k h
   rw [← hx] at hst
   simp only [zU, seval, (show (k:Int) < l.length by omega), h, eg]
   repeat ((with_reducible refine And.intro ?_ ?_); (focus (first | omega | (simp only [qa2]; omega) | (refine qq ?_; rfl) | (refine dq ?_; kernel_rfl) | (intros; simp_all; done))))
   refine qbz (R := fun r ν => r = .d (.bool (p x)) ∧ ν = []) [0] (.box 1 (.d rs) :: []) (by simp) (by simp) rfl rfl (hk1 rfl) ((hp x).mono fun r s hr => ⟨[], by rw [hr.2]; rfl, hr.1, rfl⟩) (fun r ν hr => ?_)
   obtain ⟨rfl, rfl⟩ := hr
   simp only [zU, seval, List.map_nil, List.append_nil]
   refine ifC.mk (fun hc => ?_) (fun hc => ?_)
   ·refine ⟨_, _, qae [] [0, 1] rfl (by simp) (show qbf _ _ _ = AV.d _ from rfl) (qhx rs _ _), ⟨k, rfl, .inr ⟨k, rfl, h, ?_⟩⟩, rfl⟩
    rw [hst, List.filter_append, hi, List.filter_cons_of_neg (by rw [hc]; simp)]
    simp
   ·refine ⟨by rw [hst, List.filter_append, hi, List.filter_cons_of_pos (by rw [hc]; rfl)]; rfl, ?_⟩
    refine qad [] [0, 1] rfl (by simp) ?_ (qhx rs _ _)
    simp only [zU, seval, @qai ((k:Int) + 1) (by omega)]
    try rfl
  ·have : k = l.length := by omega
   subst this
   rw [List.take_length] at hi
   simp only [zU, seval, (show ¬ (l.length:Int) < l.length by omega)]
   exact ⟨_, _, qae [] [0, 1] rfl (by simp) (show qbf _ _ _ = AV.d _ from rfl) (qhx rs _ _), ⟨-1, rfl, .inl ⟨rfl, hi⟩⟩, rfl⟩
theorem Qet (rs : D) {fv : FuncId} (p : (List UInt8) → Bool) (hp : ∀ x : (List UInt8), qaf Tryz.prog Gl fv [.d (D.str x), .ptr 0 0] (.box 1 (.d rs) :: []) (fun r s => r = .d (.bool (p x)) ∧ s = (.box 1 (.d rs) :: []))) (l : List (List UInt8)) (hl : l.length < 1000000) :
  qaf Tryz.prog Gl 133 [.osl 1 0 l.length, .fn fv [.ptr 0 0]] (.box 1 (.d rs) :: .arr 1 (l.map D.str) :: [])
  (fun r s => (r = .osl 1 0 (l.filter (fun x => !p x)).length ∧ s = (.box 1 (.d rs) :: .arr 1 ((l.filter (fun x => !p x)).map D.str) :: [])) ∨ (r = .osl 2 0 (l.filter (fun x => !p x)).length ∧ s = (.box 1 (.d rs) :: .dead :: .arr 1 ((l.filter (fun x => !p x)).map D.str) :: []))) := by
 refine qac Tryz.func133 rfl rfl (by simp [Tryz.ntmps133]) (qab rfl _ _ _ _ ?_)
 simp only [Tryz.ntmps133, Tryz.results133, qak, List.length_nil]
 simp only [zU, seval]
 refine qaq ((Qen rs p hp l hl).mono fun r s hr => ?_)
 obtain ⟨⟨c, rfl, hcs⟩, rfl⟩ := hr
 rcases hcs with ⟨rfl, hn⟩ | ⟨k, rfl, hk, hf⟩
 ·simp only [zU, seval]
  rw [hn]
  refine ⟨_, _, qae [] [0, 1] rfl (by simp) rfl (qhx rs _ _), .inl ⟨rfl, rfl⟩⟩
 ·have e0 : ((k : Int) == -1) = false := by rw [beq_eq_false_iff_ne]; omega
  simp only [zU, seval, e0, @qai ((k:Int) + 1) (by omega)]
  repeat ((with_reducible refine And.intro ?_ ?_); (focus (first | omega | (simp only [qa2]; omega) | (refine qq ?_; rfl) | (refine dq ?_; kernel_rfl) | (intros; simp_all; done))))
  refine qck (τ := Nat × List (List UInt8)) (fun u => [(0, .osl 1 0 l.length), (1, .fn fv [.ptr 0 0]), (5, .d (.int .i64 (((l.take u.1).filter (fun x => !p x)).length : Nat))), (6, .d (.int .i64 u.1))]) (fun u => (.box 1 (.d rs) :: .arr 1 (u.2.map D.str) :: []))
   (fun u => k < u.1 ∧ u.1 ≤ l.length ∧ u.2.length = l.length ∧ u.2.take ((l.take u.1).filter (fun x => !p x)).length = (l.take u.1).filter (fun x => !p x) ∧ u.2.drop u.1 = l.drop u.1) (fun u => l.length - u.1) (k + 1, l) ?_ ?_ ?_
  ·refine ⟨by simp only; omega, hk, rfl, ?_, rfl⟩
   simp only
   rw [hf, List.length_take, Nat.min_eq_left (by omega)]
  ·have e1 : ((l.take (k + 1)).filter (fun x => !p x)).length = k := by rw [hf, List.length_take]; omega
   rw [e1]
   refine qad [] [0, 1] rfl (by simp) ?_ (qhx rs _ _)
   simp only [zU, seval]
   try rfl
  ·rintro ⟨j, xs⟩ ⟨hkj, hj, hxl, hpre, hdr⟩
   simp only at hkj hj hxl hpre hdr
   obtain ⟨i, hi⟩ : ∃ i, i = ((l.take j).filter (fun x => !p x)).length := ⟨_, rfl⟩
   have hij := qkb hk hf hkj hj
   rw [← hi] at hpre hij
   rw [← hi]
   by_cases h : j < l.length
   ·obtain ⟨x, hx⟩ : ∃ x, x = l.getD j default := ⟨_, rfl⟩
    have hxx : xs.getD j default = x := by
     have e : xs[j]? = l[j]? := by
      have := congrArg (fun z => z[0]?) hdr
      simpa using this
     rw [List.getD_eq_getElem?_getD, e, hx, List.getD_eq_getElem?_getD]
    have eg : (xs.map D.str).getD j default = (D.str x) := by rw [qat _ _ _ (by omega), hxx]
    have hst := qa1 l j h
    rw [← hx] at hst
    simp only [zU, seval, (show (j:Int) < l.length by omega), h, eg, hxl]
    repeat ((with_reducible refine And.intro ?_ ?_); (focus (first | omega | (simp only [qa2]; omega) | (refine qq ?_; rfl) | (refine dq ?_; kernel_rfl) | (intros; simp_all; done))))
    refine qbz (R := fun r ν => r = .d (.bool (p x)) ∧ ν = []) [0] (.box 1 (.d rs) :: []) (by simp) (by simp) rfl rfl (hk1 rfl) ((hp x).mono fun r s hr => ⟨[], by rw [hr.2]; rfl, hr.1, rfl⟩) (fun r ν hr => ?_)
    obtain ⟨rfl, rfl⟩ := hr
    simp only [zU, seval, List.map_nil, List.append_nil]
    have hdr2 : xs.drop (j + 1) = l.drop (j + 1) := by
     have := congrArg (List.drop 1) hdr
     rwa [List.drop_drop, List.drop_drop] at this
    refine ifC.mk (fun hc => ?_) (fun hc => ?_)
    ·have hfl : (l.take (j + 1)).filter (fun x => !p x) = (l.take j).filter (fun x => !p x) ++ [x] := by rw [hst, List.filter_append, List.filter_cons_of_pos (p := fun x => !p x) hc]; rfl
     have hfn : ((l.take (j + 1)).filter (fun x => !p x)).length = i + 1 := by rw [hfl, List.length_append, ← hi]; rfl
     (try simp only [zU, seval, (show (i:Int) < l.length by omega), hxl])
     repeat ((with_reducible refine And.intro ?_ ?_); (focus (first | omega | (simp only [qa2]; omega) | (refine qq ?_; rfl) | (refine dq ?_; kernel_rfl) | (intros; simp_all; done))))
     refine ⟨(j + 1, xs.set i x), ⟨by simp only; omega, h, by simp only [List.length_set]; exact hxl, ?_, ?_⟩, by simp only; omega, ?_⟩
     ·simp only
      rw [hfn, qfa (by omega), hpre, hfl]
     ·simp only
      rw [qfb (by omega), hdr2]
     ·simp only [hfn, List.map_set]
      refine qad [] [0, 1] rfl (by simp) ?_ (qhx rs _ _)
      simp only [zU, seval, @qai ((j:Int) + 1) (by omega), @qai ((i:Int) + 1) (by omega)]
      try rfl
    ·have hfl : (l.take (j + 1)).filter (fun x => !p x) = (l.take j).filter (fun x => !p x) := by rw [hst, List.filter_append, List.filter_cons_of_neg (by rw [hc]; simp)]; simp
     refine ⟨(j + 1, xs), ⟨by simp only; omega, h, hxl, ?_, hdr2⟩, by simp only; omega, ?_⟩
     ·simp only
      rw [hfl, ← hi, hpre]
     ·simp only [hfl, ← hi]
      refine qad [] [0, 1] rfl (by simp) ?_ (qhx rs _ _)
      simp only [zU, seval, @qai ((j:Int) + 1) (by omega)]
      try rfl
   ·have hjl : j = l.length := by omega
    subst hjl
    rw [List.take_length] at hpre hi
    simp only [zU, seval, (show ¬ (l.length:Int) < l.length by omega), (show (i:Int) ≤ l.length by omega), hxl, (show i ≤ l.length by omega)]
    repeat ((with_reducible refine And.intro ?_ ?_); (focus (first | omega | (simp only [qa2]; omega) | (refine qq ?_; rfl) | (refine dq ?_; kernel_rfl) | (intros; simp_all; done))))
    refine ⟨_, _, qe8 1 i (by simp) rfl (by rw [qbd]; simp; omega) (by rw [qbd]; simp; omega), .inr ⟨by rw [hi]; rfl, ?_⟩⟩
    rw [qek, ← List.map_take, hpre]
    rfl
theorem qze (rs : D) {fv : FuncId} (p : (List UInt8) → Bool) (hp : ∀ x : (List UInt8), qaf Tryz.prog Gl fv [.d (D.str x), .ptr 0 0] (.box 1 (.d rs) :: []) (fun r s => r = .d (.bool (p x)) ∧ s = (.box 1 (.d rs) :: []))) (l : List (List UInt8)) (hl : l.length < 1000000) :
  qaf Tryz.prog Gl 67 [.d (.sl (l.map D.str)), .fn fv [.ptr 0 0]] (.box 1 (.d rs) :: [])
  (fun r s => r = .d (.sl ((l.filter (fun x => !p x)).map D.str)) ∧ s = (.box 1 (.d rs) :: [])) := by
 refine qac Tryz.func67 rfl rfl (by simp [Tryz.ntmps67]) (qab rfl _ _ _ _ ?_)
 simp only [Tryz.ntmps67, Tryz.results67, qak, List.length_nil]
 simp only [zU, seval]
 refine qaq ((q49 l hl (.box 1 (.d rs) :: [])).mono fun r s hr => ?_)
 obtain ⟨rfl, rfl⟩ := hr
 simp only [zU, seval, List.length_map]
 refine qaq ((Qet rs p hp l hl).mono fun r s hr => ?_)
 rcases hr with ⟨rfl, rfl⟩ | ⟨rfl, rfl⟩
 ·simp only [zU, seval]
  refine ⟨_, _, (qcw rfl).trans (qae [] [0] rfl (by simp) (show qbf _ _ _ = AV.d _ from rfl) (q63 rs _)), ?_, rfl⟩
  show AV.d (D.sl (List.take _ (List.map D.str _))) = _
  rw [qba]
 ·simp only [zU, seval]
  refine ⟨_, _, (qcw rfl).trans (qae [] [0] rfl (by simp) (show qbf _ _ _ = AV.d _ from rfl) (q63 rs _)), ?_, rfl⟩
  show AV.d (D.sl (List.take _ (List.map D.str _))) = _
  rw [qba]

theorem Qom (g : Int → Bool) (σ : Sto) : qdb [0, 1] (freezeL (.box 1 (.mapr 1) :: .map (some .i64) (qa9 g) :: σ) []) = [.box 1 (.mapr 1), .map (some .i64) (qa9 g)] := Qaf g σ
theorem Qer (g : Int → Bool) (x : qao) : qaf Tryz.prog Gl 74 [.d x.toD, .ptr 0 0] [.box 1 (.mapr 1), .map (some .i64) (qa9 g)] (fun r s => r = .d (.bool (g x.id)) ∧ s = [.box 1 (.mapr 1), .map (some .i64) (qa9 g)]) := by
 refine qac Tryz.func74 rfl rfl (by simp [Tryz.ntmps74]) (qab rfl _ _ _ _ ?_)
 simp only [Tryz.ntmps74, Tryz.results74, qak, List.length_nil]
 simp only [zU, seval, qam]
 repeat ((with_reducible refine And.intro ?_ ?_); (focus (first | omega | (simp only [qa2]; omega) | (refine qq ?_; rfl) | (refine dq ?_; kernel_rfl) | (intros; simp_all; done))))
 exact ⟨_, _, qae [] [0, 1] rfl (by simp) (show qbf _ _ _ = AV.d _ from rfl) (Qom g _), rfl, rfl⟩
theorem Qnh (g : Int → Bool) (x : qbt) : qaf Tryz.prog Gl 76 [.d x.toD, .ptr 0 0] [.box 1 (.mapr 1), .map (some .i64) (qa9 g)] (fun r s => r = .d (.bool (g x.ft || g x.tt)) ∧ s = [.box 1 (.mapr 1), .map (some .i64) (qa9 g)]) := by
 refine qac Tryz.func76 rfl rfl (by simp [Tryz.ntmps76]) (qab rfl _ _ _ _ ?_)
 simp only [Tryz.ntmps76, Tryz.results76, qak, List.length_nil]
 simp only [zU, seval, qam]
 repeat ((with_reducible refine And.intro ?_ ?_); (focus (first | omega | (simp only [qa2]; omega) | (refine qq ?_; rfl) | (refine dq ?_; kernel_rfl) | (intros; simp_all; done))))
 exact ⟨_, _, qae [] [0, 1] rfl (by simp) (show qbf _ _ _ = AV.d _ from rfl) (Qom g _), rfl, rfl⟩
theorem Qes (g : Int → Bool) (x : qan) : qaf Tryz.prog Gl 78 [.d x.toD, .ptr 0 0] [.box 1 (.mapr 1), .map (some .i64) (qa9 g)] (fun r s => r = .d (.bool (g x.thread)) ∧ s = [.box 1 (.mapr 1), .map (some .i64) (qa9 g)]) := by
 refine qac Tryz.func78 rfl rfl (by simp [Tryz.ntmps78]) (qab rfl _ _ _ _ ?_)
 simp only [Tryz.ntmps78, Tryz.results78, qak, List.length_nil]
 simp only [zU, seval, qam]
 repeat ((with_reducible refine And.intro ?_ ?_); (focus (first | omega | (simp only [qa2]; omega) | (refine qq ?_; rfl) | (refine dq ?_; kernel_rfl) | (intros; simp_all; done))))
 exact ⟨_, _, qae [] [0, 1] rfl (by simp) (show qbf _ _ _ = AV.d _ from rfl) (Qom g _), rfl, rfl⟩
theorem Qix (g : Int → Bool) (x : qar) : qaf Tryz.prog Gl 80 [.d x.toD, .ptr 0 0] [.box 1 (.mapr 1), .map (some .i64) (qa9 g)] (fun r s => r = .d (.bool (g x.thread)) ∧ s = [.box 1 (.mapr 1), .map (some .i64) (qa9 g)]) := by
 refine qac Tryz.func80 rfl rfl (by simp [Tryz.ntmps80]) (qab rfl _ _ _ _ ?_)
 simp only [Tryz.ntmps80, Tryz.results80, qak, List.length_nil]
 simp only [zU, seval, qam]
 repeat ((with_reducible refine And.intro ?_ ?_); (focus (first | omega | (simp only [qa2]; omega) | (refine qq ?_; rfl) | (refine dq ?_; kernel_rfl) | (intros; simp_all; done))))
 exact ⟨_, _, qae [] [0, 1] rfl (by simp) (show qbf _ _ _ = AV.d _ from rfl) (Qom g _), rfl, rfl⟩
theorem Qng (g : Int → Bool) (x : qcc) : qaf Tryz.prog Gl 82 [.d x.toD, .ptr 0 0] [.box 1 (.mapr 1), .map (some .i64) (qa9 g)] (fun r s => r = .d (.bool (g x.thread)) ∧ s = [.box 1 (.mapr 1), .map (some .i64) (qa9 g)]) := by
 refine qac Tryz.func82 rfl rfl (by simp [Tryz.ntmps82]) (qab rfl _ _ _ _ ?_)
 simp only [Tryz.ntmps82, Tryz.results82, qak, List.length_nil]
 simp only [zU, seval, qam]
 repeat ((with_reducible refine And.intro ?_ ?_); (focus (first | omega | (simp only [qa2]; omega) | (refine qq ?_; rfl) | (refine dq ?_; kernel_rfl) | (intros; simp_all; done))))
 exact ⟨_, _, qae [] [0, 1] rfl (by simp) (show qbf _ _ _ = AV.d _ from rfl) (Qom g _), rfl, rfl⟩
theorem Qiw (g : Int → Bool) (x : qag) : qaf Tryz.prog Gl 83 [.d x.toD, .ptr 0 0] [.box 1 (.mapr 1), .map (some .i64) (qa9 g)] (fun r s => r = .d (.bool (!g x.thread)) ∧ s = [.box 1 (.mapr 1), .map (some .i64) (qa9 g)]) := by
 refine qac Tryz.func83 rfl rfl (by simp [Tryz.ntmps83]) (qab rfl _ _ _ _ ?_)
 simp only [Tryz.ntmps83, Tryz.results83, qak, List.length_nil]
 simp only [zU, seval, qam]
 repeat ((with_reducible refine And.intro ?_ ?_); (focus (first | omega | (simp only [qa2]; omega) | (refine qq ?_; rfl) | (refine dq ?_; kernel_rfl) | (intros; simp_all; done))))
 exact ⟨_, _, qae [] [0, 1] rfl (by simp) (show qbf _ _ _ = AV.d _ from rfl) (Qom g _), rfl, rfl⟩
theorem Qis (l : List qap) (hl : l.length < 1000000) (x : qag) : qaf Tryz.prog Gl 65 [.d x.toD, .ptr 0 0] [.box 1 (.d (.sl (l.map qap.toD)))] (fun r s => r = .d (.bool (!qc8 l qa6 x.name)) ∧ s = [.box 1 (.d (.sl (l.map qap.toD)))]) := by
 refine qac Tryz.func65 rfl rfl (by simp [Tryz.ntmps65]) (qab rfl _ _ _ _ ?_)
 simp only [Tryz.ntmps65, Tryz.results65, qak, List.length_nil]
 simp only [zU, seval, qam]
 repeat ((with_reducible refine And.intro ?_ ?_); (focus (first | omega | (simp only [qa2]; omega) | (refine qq ?_; rfl) | (refine dq ?_; kernel_rfl) | (intros; simp_all; done))))
 refine qah (qez l _ _ hl) ?_
 simp only [zU, seval, qam]
 exact ⟨_, _, qae [] [0] rfl (by simp) (show qbf _ _ _ = AV.d _ from rfl) rfl, rfl, rfl⟩
theorem Qne (l : List qap) (hl : l.length < 1000000) (x : List UInt8) : qaf Tryz.prog Gl 68 [.d (.str x), .ptr 0 0] [.box 1 (.d (.sl (l.map qap.toD)))] (fun r s => r = .d (.bool (qc8 l qbc x)) ∧ s = [.box 1 (.d (.sl (l.map qap.toD)))]) := by
 refine qac Tryz.func68 rfl rfl (by simp [Tryz.ntmps68]) (qab rfl _ _ _ _ ?_)
 simp only [Tryz.ntmps68, Tryz.results68, qak, List.length_nil]
 simp only [zU, seval, qam]
 repeat ((with_reducible refine And.intro ?_ ?_); (focus (first | omega | (simp only [qa2]; omega) | (refine qq ?_; rfl) | (refine dq ?_; kernel_rfl) | (intros; simp_all; done))))
 refine qah (qez l _ _ hl) ?_
 simp only [zU, seval, qam]
 exact ⟨_, _, qae [] [0] rfl (by simp) (show qbf _ _ _ = AV.d _ from rfl) rfl, rfl, rfl⟩
theorem Qnf (l : List qap) (hl : l.length < 1000000) (x : qbb) : qaf Tryz.prog Gl 72 [.d x.toD, .ptr 0 0] [.box 1 (.d (.sl (l.map qap.toD)))] (fun r s => r = .d (.bool (qc8 l qav x.name)) ∧ s = [.box 1 (.d (.sl (l.map qap.toD)))]) := by
 refine qac Tryz.func72 rfl rfl (by simp [Tryz.ntmps72]) (qab rfl _ _ _ _ ?_)
 simp only [Tryz.ntmps72, Tryz.results72, qak, List.length_nil]
 simp only [zU, seval, qam]
 repeat ((with_reducible refine And.intro ?_ ?_); (focus (first | omega | (simp only [qa2]; omega) | (refine qq ?_; rfl) | (refine dq ?_; kernel_rfl) | (intros; simp_all; done))))
 refine qah (qez l _ _ hl) ?_
 simp only [zU, seval, qam]
 exact ⟨_, _, qae [] [0] rfl (by simp) (show qbf _ _ _ = AV.d _ from rfl) rfl, rfl, rfl⟩

def q9z (g : Int → Bool) (s : qax) : qax := { s with by_ := if g s.by_ = true then -1 else s.by_, on_ := if g s.on_ = true then -1 else s.on_, state := if g s.on_ = true then 1 else s.state }
def Qih (y x : qax) : Bool := y.thread == x.thread && y.state == x.state && y.cpu == x.cpu && y.on_ == x.on_
def Qj2 (out : List qax) (x : qax) : List qax :=
 if out.length ≠ 0 ∧ Qih (out.getD (out.length - 1) default) x = true then out.set (out.length - 1) { out.getD (out.length - 1) default with hi := x.hi, by_ := x.by_ } else out ++ [x]
def stS (g : Int → Bool) (out : List qax) (s : qax) : List qax := if g s.thread = true then out else Qj2 out (q9z g s)
def qf3 (g : Int → Bool) (l : List qax) : List qax := l.foldl (stS g) []
theorem Qj1 (out : List qax) (x : qax) : (Qj2 out x).length ≤ out.length + 1 := by
 unfold Qj2; split <;> simp
theorem Qmo (g : Int → Bool) (out : List qax) (s : qax) : (stS g out s).length ≤ out.length + 1 := by
 unfold stS; split
 ·omega
 ·exact Qj1 _ _
theorem qm4 (g : Int → Bool) : ∀ (l out : List qax), (l.foldl (stS g) out).length ≤ out.length + l.length
 | [], out => by simp
 | x :: l, out => by
  have := qm4 g l (stS g out x)
  have h2 := Qmo g out x
  simp only [List.foldl_cons, List.length_cons]; omega
theorem qu3 (g : Int → Bool) (l : List qax) : (qf3 g l).length ≤ l.length := by
 have := qm4 g l []; simpa [qf3] using this
theorem Qh0 (g : Int → Bool) (xs : List D) (σ : Sto) : qdb [0, 1] (freezeL (.map (some .i64) (qa9 g) :: .arr 7 xs :: σ) []) = [.map (some .i64) (qa9 g), .arr 7 xs] := by
 show [qbu [0, 1] _ (.map (some .i64) (qa9 g)), _] = _
 rw [qbv]; rfl
theorem Qp6 (g : Int → Bool) (σ : Sto) : qdb [0] (freezeL (.map (some .i64) (qa9 g) :: σ) []) = [.map (some .i64) (qa9 g)] := by
 show [qbu [0] _ (.map (some .i64) (qa9 g))] = _
 rw [qbv]
def Qol (b : Bool) (x y : Int) : Int := if b = true then x else y
theorem Qp1 (x y : Int) : Qol true x y = x := rfl
theorem Qp2 (x y : Int) : Qol false x y = y := rfl
def yS (y x : qax) (a b : Bool) : qax := { y with hi := Qol a x.hi y.hi, by_ := Qol b x.by_ y.by_ }
theorem Qhi (y x : qax) (a b : Bool) : (yS y x a b).toD.cells = [.int .i64 y.thread, .int .i64 y.state, .int .i64 y.lo, .int .i64 (Qol a x.hi y.hi), .int .i64 y.cpu, .int .i64 y.on_, .int .i64 (Qol b x.by_ y.by_)] := rfl
theorem Qhh (y x : qax) (a b : Bool) : (yS y x a b).toD.isAgg = true := rfl
theorem q3n (l : List D) (i : Nat) (x : D) (h : i < l.length) : (l.set i x).getD i default = x := by simp [h]
theorem qyz (l : List D) (i : Nat) : l.set i (l.getD i default) = l := by
 apply List.ext_getElem?
 intro k
 rw [List.getElem?_set]
 split
 ·rename_i h; subst h
  split
  ·rename_i h; simp [h]
  ·rename_i h; simp at h; simp [h]
 ·rfl
theorem rnU (ρ : List Nat) (σ : Sto) : qbf ρ σ .undef = .undef := rfl
theorem Qk5 (g : Int → Bool) (xs : List D) (x : D) (σ : Sto) : qdb [0, 1, 2] (freezeL (.map (some .i64) (qa9 g) :: .arr 7 xs :: .box 7 (.d x) :: σ) []) = [.map (some .i64) (qa9 g), .arr 7 xs, .box 7 (.d x)] := by
 show [qbu [0, 1, 2] _ (.map (some .i64) (qa9 g)), _, _] = _
 rw [qbv]; rfl
theorem Qp5 (g : Int → Bool) (xs : List D) (B C : Blk) : qdb [0, 4] (freezeL [.map (some .i64) (qa9 g), .dead, B, C, .arr 7 xs] []) = [.map (some .i64) (qa9 g), .arr 7 xs] := by
 show [qbu [0, 4] _ (.map (some .i64) (qa9 g)), _] = _
 rw [qbv]; rfl
theorem Qp4 (g : Int → Bool) (xs : List D) (B C E : Blk) : qdb [0, 5] (freezeL [.map (some .i64) (qa9 g), .dead, B, C, E, .arr 7 xs] []) = [.map (some .i64) (qa9 g), .arr 7 xs] := by
 show [qbu [0, 5] _ (.map (some .i64) (qa9 g)), _] = _
 rw [qbv]; rfl
set_option maxHeartbeats 4000000 in
theorem Qin (g : Int → Bool) (l : List qax) (hl : l.length < 1000000) : qaf Tryz.prog Gl 84 [.d (.sl (l.map qax.toD)), .mapr 0] [.map (some .i64) (qa9 g)]
  (fun r s => r = .d (.sl ((qf3 g l).map qax.toD)) ∧ s = [.map (some .i64) (qa9 g)]) := by
 refine qac Tryz.func84 rfl rfl (by simp [Tryz.ntmps84]) (qab rfl _ _ _ _ ?_)
 simp only [Tryz.ntmps84, Tryz.results84, qak, List.length_nil]
 simp only [zU, seval, qam]
 refine qa7 l.length (fun k => [(1, .mapr 0), (5, .osl 1 0 (qf3 g (l.take k)).length), (10, .d (.sl (l.map qax.toD))), (11, .d (.int .i64 l.length)), (12, .d (.int .i64 k))]) (fun k => [.map (some .i64) (qa9 g), .arr 7 ((qf3 g (l.take k)).map qax.toD)]) (fun _ => True) trivial ?_ ?_
 ·refine (qhs 5 7 rfl).trans ?_
  refine qad [] [0, 1] rfl (by simp) ?_ (Qh0 g _ _)
  simp only [zU, seval, qam]
  all_goals rfl
 intro k _ hk
 have hyl := qu3 g (l.take k)
 rw [List.length_take] at hyl
 by_cases h : k < l.length
 ·have hst : qf3 g (l.take (k + 1)) = stS g (qf3 g (l.take k)) (l.getD k default) := Qba _ _ _ _ h
  obtain ⟨x, hx⟩ : ∃ x, x = l.getD k default := ⟨_, rfl⟩
  have eg : (l.map qax.toD).getD k default = x.toD := by rw [qat _ _ _ h, ← hx]
  obtain ⟨ys, hys⟩ : ∃ ys, ys = qf3 g (l.take k) := ⟨_, rfl⟩
  rw [← hys, ← hx] at hst
  rw [← hys] at hyl ⊢
  rw [hst, stS]
  simp only [zU, seval, qam, (show (k:Int) < l.length by omega), h, eg]
  repeat ((with_reducible refine And.intro ?_ ?_); (focus (first | omega | (simp only [qa2]; omega) | (refine qq ?_; rfl) | (refine dq ?_; kernel_rfl) | (intros; simp_all; done))))
  refine ifC.mk (fun h1 => ?_) (fun h1 => ?_)
  ·rw [if_pos h1]
   refine qad [] [0, 1] rfl (by simp) ?_ (Qh0 g _ _)
   simp only [zU, seval, qam, @qai ((k:Int) + 1) (by omega)]
   all_goals rfl
  rw [if_neg (by rw [h1]; simp)]
  (try simp only [zU, seval, qam])
  have ea : q9z g x = ⟨x.thread, if g x.on_ = true then 1 else x.state, x.lo, x.hi, x.cpu, if g x.on_ = true then -1 else x.on_, if g x.by_ = true then -1 else x.by_⟩ := rfl
  refine ifC.mk (fun h2 => ?_) (fun h2 => ?_) <;> refine ifC.mk (fun h3 => ?_) (fun h3 => ?_)
  all_goals simp only [h2, h3, reduceIte, Bool.false_eq_true] at ea
  all_goals
   rcases List.eq_nil_or_concat ys with e | ⟨zs, y, e⟩
   ·subst e
    rw [Qj2, if_neg (by simp), ea]
    (try simp only [zU, seval, qam, List.length_nil, List.map_nil, @qai ((-1:Int)) (by omega)])
    repeat ((with_reducible refine And.intro ?_ ?_); (focus (first | omega | (simp only [qa2]; omega) | (refine qq ?_; rfl) | (refine dq ?_; kernel_rfl) | (intros; simp_all; done))))
    refine qad [] [0, 4] rfl (by simp) ?_ ?_
    ·simp only [zU, seval, qam, @qai ((k:Int) + 1) (by omega)]
     all_goals rfl
    ·exact Qp5 g _ _ _
   ·rw [List.concat_eq_append] at e
    have hyl2 : ys.length = zs.length + 1 := by rw [e]; simp
    have hyl3 : (ys.map qax.toD).length = zs.length + 1 := by rw [List.length_map, hyl2]
    have hlt3 : zs.length < (ys.map qax.toD).length := by omega
    have e0 : ((zs.length : Int) + 1 - 1) = zs.length := by omega
    have ey : ys.getD zs.length default = y := by rw [e]; simp
    have egy : (ys.map qax.toD).getD zs.length default = y.toD := by rw [qat _ _ _ (by omega), ey]
    (try simp only [zU, seval, qam, hyl2, e0, @qai ((zs.length : Int)) (by omega), Int.toNat_natCast, egy, (show (zs.length : Int) < (zs.length : Int) + 1 by omega), (show zs.length < zs.length + 1 by omega)])
    repeat ((with_reducible refine And.intro ?_ ?_); (focus (first | omega | (simp only [qa2]; omega) | (refine qq ?_; rfl) | (refine dq ?_; kernel_rfl) | (intros; simp_all; done))))
    refine ifC.mk (fun h4 => ?_) (fun h4 => ?_)
    ·have hlk : ys.length ≠ 0 ∧ Qih (ys.getD (ys.length - 1) default) (q9z g x) = true := by
      refine ⟨by omega, ?_⟩
      rw [hyl2, Nat.add_sub_cancel, ey, ea]; exact h4
     have hadd : (Qj2 ys (q9z g x)).map qax.toD = (ys.map qax.toD).set zs.length (yS y (q9z g x) true true).toD := by
      rw [Qj2, if_pos hlk, hyl2, Nat.add_sub_cancel, ey, List.map_set]; rfl
     have haddl : (Qj2 ys (q9z g x)).length = zs.length + 1 := by
      rw [Qj2, if_pos hlk, List.length_set, hyl2]
     rw [hadd, haddl]
     refine ⟨.inr (.inr (.inr (Qbc
      (fun L => [(66, onV (L 0) (.osl 1 0 (zs.length + 1))), (67, onV (L 1) (.d (.int .i64 zs.length))), (68, onV (L 2) (.osl 1 0 (zs.length + 1))), (69, onV (L 3) (.d (.int .i64 zs.length))), (70, onV (L 4) (.ptr 2 2)), (71, onV (L 5) (.ptr 2 3)), (72, onV (L 6) (.d (.int .i64 (q9z g x).hi))), (73, onV (L 7) (.ptr 2 6)), (74, onV (L 8) (.d (.int .i64 (q9z g x).by_))),
       (75, onV (L 9) (.aptr 1 zs.length 0)), (76, onV (L 10) (.aptr 1 zs.length 2)), (77, onV (L 11) (.aptr 1 zs.length 3)), (78, onV (L 13) (.aptr 1 zs.length 0)), (79, onV (L 14) (.aptr 1 zs.length 6)),
       (1, .mapr 0), (5, .osl 1 0 (zs.length + 1)), (7, .ptr 2 0), (8, .d (.int .i64 zs.length)), (10, .d (.sl (l.map qax.toD))), (11, .d (.int .i64 l.length)), (12, .d (.int .i64 k))])
      (fun L => [.map (some .i64) (qa9 g), .arr 7 ((ys.map qax.toD).set zs.length (yS y (q9z g x) (L 12) (L 15)).toD), .box 7 (.d (q9z g x).toD)]) (by kernel_rfl) ?_ ?_ ?_))), ?_⟩
     ·refine qad [] [0, 1, 2] rfl (by simp) ?_ ?_
      ·rfl
      ·have e3 : (ys.map qax.toD).set zs.length y.toD = ys.map qax.toD := by rw [← egy, qyz]
       have eb : (yS y (q9z g x) (decide (16 ≤ 12)) (decide (16 ≤ 15))).toD = y.toD := rfl
       show _ = [_, Blk.arr 7 ((ys.map qax.toD).set zs.length (yS y (q9z g x) (decide (16 ≤ 12)) (decide (16 ≤ 15))).toD), _]
       rw [eb, e3, ea]
       exact Qk5 g _ _ _
     ·simp only [q6s]
      refine ⟨?_, ?_, ?_, ?_, ?_, ?_, ?_, ?_, ?_, ?_, ?_, ?_, ?_, ?_, ?_, ?_, trivial⟩
      all_goals ((intro L hc hL hp; (try simp only [qjt, Region.binds, frB] at hp); (try simp only [Nat.zero_add, Nat.reduceAdd] at hL); simp only [zU, seval, qam, hL, hp, Qm9, Qqm, Qg7, Qp1, Qp2, Qhi, Qhh, q62, List.length_set, hyl3, hyl2, q3n _ _ _ hlt3, List.set_set, (show (zs.length : Int) < (zs.length : Int) + 1 by omega), (show zs.length < zs.length + 1 by omega)]); refine qad [] [0, 1, 2] rfl (by simp) ?_ ?_)
      all_goals first | exact Qk5 g _ _ _ | (simp only [zU, seval, qam, q62, rnU, Qm9, Qqm]; try rfl)
      all_goals skip
     ·simp only [zU, seval, qam, Qm9]
      refine qad [] [0, 1] rfl (by simp) ?_ (Qh0 g _ _)
      simp only [zU, seval, qam, @qai ((k:Int) + 1) (by omega)]
      try rfl
     ·(try simp only [zU, seval, qam, List.set_set, q3n _ _ _ hlt3])
      refine qad [] [0, 1] rfl (by simp) ?_ ?_
      ·simp only [zU, seval, qam, @qai ((k:Int) + 1) (by omega)]
       try rfl
      ·rw [ea]
       exact Qh0 g _ _
    ·have hlk : ¬ (ys.length ≠ 0 ∧ Qih (ys.getD (ys.length - 1) default) (q9z g x) = true) := by
      rw [hyl2, Nat.add_sub_cancel, ey]
      have hq : Qih y (q9z g x) = false := by rw [ea]; exact h4
      rw [hq]
      exact fun hq => by cases hq.2
     rw [Qj2, if_neg hlk, ea]
     (try simp only [zU, seval, qam, hyl2, qba])
     refine ⟨⟨by omega, by omega⟩, ?_⟩
     refine qad [] [0, 5] rfl (by simp) ?_ ?_
     ·simp only [zU, seval, qam, @qai ((k:Int) + 1) (by omega), hyl2]
      try rfl
     ·rw [List.map_append, show (ys.map qax.toD).take (zs.length + 1) = ys.map qax.toD from List.take_of_length_le (by omega)]
      exact Qp4 g _ _ _ _
 ·have : k = l.length := by omega
  subst this
  simp only [zU, seval, qam, (show ¬ (l.length:Int) < l.length by omega), List.take_length]
  refine ⟨_, _, (qcw rfl).trans (qae [] [0] rfl (by simp) (show qbf _ _ _ = AV.d _ from rfl) (Qp6 g _)), ?_, rfl⟩
  simp only [zU, seval, qam, qba]
end YtljpopkonkanlaaGreatDoor
end Go.Proofs
