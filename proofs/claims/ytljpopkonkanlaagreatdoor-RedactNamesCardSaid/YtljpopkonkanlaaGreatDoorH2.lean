/- A part of the proof: contracts of functions of this seat, and lemmas. No condition beyond those stated. -/
import Derived.Test.YtljpopkonkanlaaGreatDoorH1
import Derived.Lib.ItoaNum
import Derived.Shelf.LaysM
import Derived.Shelf.Strconv.Itoa3
import Derived.Ground.NamesProg
import Derived.Test.YtljpopkonkanlaaGreatDoorProg
import Derived.Test.YtljpopkonkanlaaGreatDoorG4
import Derived.Lib.ItoaLen
set_option linter.unusedVariables false
set_option linter.unusedSimpArgs false
set_option linter.unusedSectionVars false
set_option linter.unnecessarySimpa false
set_option maxRecDepth 100000
namespace Go.Proofs
open Go.AM
namespace YtljpopkonkanlaaGreatDoor
variable {Gl : qa7}
def q57 (n m : Int) : Bool := decide (n < 0) || decide (m < n)
theorem q5f (n m : Int) : qbg Tryz.prog Gl 166 [.d (.int .i64 n), .d (.int .i64 m)] (.d (.bool (q57 n m))) := by
 refine qbg.of2 ?_
 refine qac Tryz.func166 rfl rfl (by simp [Tryz.ntmps166]) (qab rfl _ _ _ _ ?_)
 simp only [Tryz.ntmps166, Tryz.results166, qaj, List.length_nil]
 simp only [zC, seval]
 exact ⟨_, _, qau, rfl, rfl⟩
def qt0 (f : qbu) : Bool := q57 f.id 1000000000000000 || q57 f.ft 1000000000000000 || q57 f.fs 1000000000000000 || q57 f.tt 1000000000000000 || q57 f.ts 1000000000000000 || q57 f.send 1000000000000 || q57 f.recv 1000000000000
def Qm2 (l : List qbu) (k : Nat) : Bool := decide ((l.getD k default).recv < (l.getD k default).send) || (decide (0 < k) && decide ((l.getD k default).recv < (l.getD (k - 1) default).recv))
def Qnp (l : List qbu) (k : Nat) : Int := if qt0 (l.getD k default) = true then 2 else if Qm2 l k = true then 11 else 0
def q5n (l : List qbu) : Int := qa9 (Qnp l) l.length
theorem qg6 {l : List qbu} {k : Nat} (h : qt0 (l.getD k default) = true) : Qnp l k = 2 := by rw [Qnp, if_pos h]
theorem Qno {l : List qbu} {k : Nat} (h : qt0 (l.getD k default) = false) : Qnp l k = if Qm2 l k = true then 11 else 0 := by rw [Qnp, if_neg (by rw [h]; simp)]
set_option maxHeartbeats 2000000 in
theorem q47 (l : List qbu) (hl : l.length < 1000000) : qbg Tryz.prog Gl 104 [.d (.sl (l.map qbu.toD))] (.d (.int .i64 (q5n l))) := by
 refine qbg.of1 ?_
 refine qac Tryz.func104 rfl rfl (by simp [Tryz.ntmps104]) (qab rfl _ _ _ _ ?_)
 simp only [Tryz.ntmps104, Tryz.results104, qaj, List.length_nil]
 simp only [zC, seval]
 refine qa4 l.length (fun k => [(0, .d (.sl (l.map qbu.toD))), (5, .d (.sl (l.map qbu.toD))), (6, .d (.int .i64 l.length)), (7, .d (.int .i64 k))]) (fun _ => []) (fun k => qa9 (Qnp l) k = 0) rfl ?_ ?_
 ·refine qad [] [] rfl List.nodup_nil ?_ rfl
  simp only [zC, seval, Int.cast_ofNat_Int]
 ·intro k hi hk
  by_cases h : k < l.length
  ·have hb : ∀ e, Qnp l k = e → e ≠ 0 → q5n l = e := fun e h1 h2 => by rw [q5n, qb8 hi (by rw [h1]; exact h2) h, h1]
   obtain ⟨b, eb⟩ : ∃ b, b = l.getD k default := ⟨_, rfl⟩
   simp only [zC, seval, (show (k:Int) < l.length by omega), h, qas _ _ _ (show k < l.length by omega), ← eb]
   repeat ((with_reducible refine And.intro ?_ ?_); (focus (first | omega | (simp only [qax]; omega) | (refine qq ?_; rfl) | (refine dq ?_; kernel_rfl) | (intros; simp_all; done))))
   refine qaf (q5f _ _) ?_
   cases h1 : q57 b.id 1000000000000000 with
   | true =>
    simp only [zC, seval]
    refine ⟨_, _, qau, ?_, rfl⟩
    rw [hb 2 (qg6 (by rw [← eb]; clear eb hi hb; simp only [qt0, *]; rfl)) (by omega)]
   | false =>
    simp only [zC, seval]
    refine qaf (q5f _ _) ?_
    cases h2 : q57 b.ft 1000000000000000 with
    | true =>
     simp only [zC, seval]
     refine ⟨_, _, qau, ?_, rfl⟩
     rw [hb 2 (qg6 (by rw [← eb]; clear eb hi hb; simp only [qt0, *]; rfl)) (by omega)]
    | false =>
     simp only [zC, seval]
     refine qaf (q5f _ _) ?_
     cases h3 : q57 b.fs 1000000000000000 with
     | true =>
      simp only [zC, seval]
      refine ⟨_, _, qau, ?_, rfl⟩
      rw [hb 2 (qg6 (by rw [← eb]; clear eb hi hb; simp only [qt0, *]; rfl)) (by omega)]
     | false =>
      simp only [zC, seval]
      refine qaf (q5f _ _) ?_
      cases h4 : q57 b.tt 1000000000000000 with
      | true =>
       simp only [zC, seval]
       refine ⟨_, _, qau, ?_, rfl⟩
       rw [hb 2 (qg6 (by rw [← eb]; clear eb hi hb; simp only [qt0, *]; rfl)) (by omega)]
      | false =>
       simp only [zC, seval]
       refine qaf (q5f _ _) ?_
       cases h5 : q57 b.ts 1000000000000000 with
       | true =>
        simp only [zC, seval]
        refine ⟨_, _, qau, ?_, rfl⟩
        rw [hb 2 (qg6 (by rw [← eb]; clear eb hi hb; simp only [qt0, *]; rfl)) (by omega)]
       | false =>
        simp only [zC, seval]
        refine qaf (q5f _ _) ?_
        cases h6 : q57 b.send 1000000000000 with
        | true =>
         simp only [zC, seval]
         refine ⟨_, _, qau, ?_, rfl⟩
         rw [hb 2 (qg6 (by rw [← eb]; clear eb hi hb; simp only [qt0, *]; rfl)) (by omega)]
        | false =>
         simp only [zC, seval]
         refine qaf (q5f _ _) ?_
         cases h7 : q57 b.recv 1000000000000 with
         | true =>
          simp only [zC, seval]
          refine ⟨_, _, qau, ?_, rfl⟩
          rw [hb 2 (qg6 (by rw [← eb]; clear eb hi hb; simp only [qt0, *]; rfl)) (by omega)]
         | false =>
          simp only [zC, seval]
          have ho := Qno (l := l) (k := k) (by rw [← eb]; clear eb hi hb; simp only [qt0, *]; rfl)
          rw [Qm2, ← eb] at ho
          cases h8 : decide (b.recv < b.send) with
          | true =>
           simp only [zC, seval]
           refine ⟨_, _, qau, ?_, rfl⟩
           rw [h8, Bool.true_or, if_pos rfl] at ho
           rw [hb 11 ho (by omega)]
          | false =>
           simp only [zC, seval]
           rw [h8, Bool.false_or] at ho
           by_cases hk0 : 0 < k
           ·have e1 : IntKind.i64.wrap ((k : Int) - 1) = ((k - 1 : Nat) : Int) := by rw [qbm (by omega) (by omega)]; omega
            obtain ⟨a, ea⟩ : ∃ a, a = l.getD (k - 1) default := ⟨_, rfl⟩
            rw [decide_eq_true hk0, Bool.true_and, ← ea] at ho
            (try simp only [zC, seval, (show (0:Int) < k by omega), e1, (show ((k - 1 : Nat) : Int) < l.length by omega), (show k - 1 < l.length by omega), qas _ _ _ (show k - 1 < l.length by omega), ← ea])
            repeat ((with_reducible refine And.intro ?_ ?_); (focus (first | omega | (simp only [qax]; omega) | (refine qq ?_; rfl) | (refine dq ?_; kernel_rfl) | (intros; simp_all; done))))
            refine ifC.mk (fun h9 => ?_) (fun h9 => ?_)
            ·refine ⟨_, _, qau, ?_, rfl⟩
             rw [if_pos h9] at ho
             rw [hb 11 ho (by omega)]
            ·rw [if_neg (by rw [h9]; simp)] at ho
             refine ⟨qbs hi ho, ?_⟩
             refine qad [] [] rfl List.nodup_nil ?_ rfl
             simp only [zC, seval, @qai ((k:Int) + 1) (by omega)]
           ·rw [decide_eq_false hk0, Bool.false_and, if_neg (by simp)] at ho
            have e0 : (IntKind.i64.wrap ((k : Int) - 1)).toNat = 0 := by rw [qbm (by omega) (by omega)]; omega
            (try simp only [zC, seval, (show ¬ (0:Int) < k by omega), e0, qas _ _ _ (show 0 < l.length by omega)])
            repeat ((with_reducible refine And.intro ?_ ?_); (focus (first | omega | (simp only [qax]; omega) | (refine qq ?_; rfl) | (refine dq ?_; kernel_rfl) | (intros; simp_all; done))))
            refine ⟨qbs hi ho, ?_⟩
            refine qad [] [] rfl List.nodup_nil ?_ rfl
            simp only [zC, seval, @qai ((k:Int) + 1) (by omega)]
  ·simp only [zC, seval, (show ¬ (k:Int) < l.length by omega)]
   refine ⟨_, _, qau, ?_, rfl⟩
   have : k = l.length := by omega
   rw [q5n, ← this, hi]
def qx9 (s : qan) : Bool := decide (0 ≤ s.thread) && decide (s.thread ≤ 1000000000000000) && decide (0 ≤ s.at_) && decide (s.at_ ≤ 1000000000000) && decide (1 ≤ s.weight) && decide (s.weight ≤ 1000000000000)
theorem Qqq (s : qan) : qbg Tryz.prog Gl 167 [.d s.toD] (.d (.bool (qx9 s))) := by
 refine qbg.of1 ?_
 refine qac Tryz.func167 rfl rfl (by simp [Tryz.ntmps167]) (qab rfl _ _ _ _ ?_)
 simp only [Tryz.ntmps167, Tryz.results167, qaj, List.length_nil]
 simp only [zC, seval]
 exact ⟨_, _, qau, rfl, rfl⟩
def Qhp (l : List qan) (k : Nat) : Int := if qx9 (l.getD k default) = false then 2 else if qdh (l.getD k default).stack ≠ 0 then qdh (l.getD k default).stack
 else if (decide (0 < k) && decide ((l.getD k default).at_ < (l.getD (k - 1) default).at_)) = true then 11 else 0
def qj1 (l : List qan) : Int := qa9 (Qhp l) l.length
theorem Qho {l : List qan} {k : Nat} (h : qx9 (l.getD k default) = false) : Qhp l k = 2 := by rw [Qhp, if_pos h]
theorem Qmo {l : List qan} {k : Nat} (h : qx9 (l.getD k default) = true) (h2 : qdh (l.getD k default).stack ≠ 0) : Qhp l k = qdh (l.getD k default).stack := by rw [Qhp, if_neg (by rw [h]; simp), if_pos h2]
theorem Qmn {l : List qan} {k : Nat} (h : qx9 (l.getD k default) = true) (h2 : qdh (l.getD k default).stack = 0) : Qhp l k = if (decide (0 < k) && decide ((l.getD k default).at_ < (l.getD (k - 1) default).at_)) = true then 11 else 0 := by rw [Qhp, if_neg (by rw [h]; simp), if_neg (by rw [h2]; simp)]
theorem qzk (l : List qan) (hs : ∀ x ∈ l, x.stack.length < 1000000) (hl : l.length < 1000000) : qbg Tryz.prog Gl 108 [.d (.sl (l.map qan.toD))] (.d (.int .i64 (qj1 l))) := by
 refine qbg.of1 ?_
 refine qac Tryz.func108 rfl rfl (by simp [Tryz.ntmps108]) (qab rfl _ _ _ _ ?_)
 simp only [Tryz.ntmps108, Tryz.results108, qaj, List.length_nil]
 simp only [zC, seval]
 refine qa4 l.length (fun k => [(0, .d (.sl (l.map qan.toD))), (6, .d (.sl (l.map qan.toD))), (7, .d (.int .i64 l.length)), (8, .d (.int .i64 k))]) (fun _ => []) (fun k => qa9 (Qhp l) k = 0) rfl ?_ ?_
 ·refine qad [] [] rfl List.nodup_nil ?_ rfl
  simp only [zC, seval, Int.cast_ofNat_Int]
 ·intro k hi hk
  by_cases h : k < l.length
  ·have hb : ∀ e, Qhp l k = e → e ≠ 0 → qj1 l = e := fun e h1 h2 => by rw [qj1, qb8 hi (by rw [h1]; exact h2) h, h1]
   obtain ⟨b, eb⟩ : ∃ b, b = l.getD k default := ⟨_, rfl⟩
   simp only [zC, seval, (show (k:Int) < l.length by omega), h, qas _ _ _ (show k < l.length by omega), ← eb]
   repeat ((with_reducible refine And.intro ?_ ?_); (focus (first | omega | (simp only [qax]; omega) | (refine qq ?_; rfl) | (refine dq ?_; kernel_rfl) | (intros; simp_all; done))))
   refine qaf (Qqq _) ?_
   simp only [zC, seval]
   refine ifC.mk (fun h1 => ?_) (fun h1 => ?_)
   ·refine ⟨_, _, qau, ?_, rfl⟩
    rw [hb 2 (Qho (by rw [← eb]; simpa using h1)) (by omega)]
   ·have h1 : qx9 (l.getD k default) = true := by rw [← eb]; simpa using h1
    repeat ((with_reducible refine And.intro ?_ ?_); (focus (first | omega | (simp only [qax]; omega) | (refine qq ?_; rfl) | (refine dq ?_; kernel_rfl) | (intros; simp_all; done))))
    refine qaf (q86 _ (by rw [eb]; exact hs _ (qde h))) ?_
    simp only [zC, seval]
    refine ifC.mk (fun h2 => ?_) (fun h2 => ?_)
    ·have h2 : qdh (l.getD k default).stack ≠ 0 := by rw [← eb]; simpa using h2
     refine ⟨_, _, qau, ?_, rfl⟩
     rw [hb _ (Qmo h1 h2) h2, eb]
    ·have ho := Qmn h1 (by rw [← eb]; simpa using h2)
     rw [← eb] at ho
     by_cases hk0 : 0 < k
     ·have e1 : IntKind.i64.wrap ((k : Int) - 1) = ((k - 1 : Nat) : Int) := by rw [qbm (by omega) (by omega)]; omega
      obtain ⟨a, ea⟩ : ∃ a, a = l.getD (k - 1) default := ⟨_, rfl⟩
      rw [decide_eq_true hk0, Bool.true_and, ← ea] at ho
      (try simp only [zC, seval, (show (0:Int) < k by omega), e1, (show ((k - 1 : Nat) : Int) < l.length by omega), (show k - 1 < l.length by omega), qas _ _ _ (show k - 1 < l.length by omega), ← ea])
      repeat ((with_reducible refine And.intro ?_ ?_); (focus (first | omega | (simp only [qax]; omega) | (refine qq ?_; rfl) | (refine dq ?_; kernel_rfl) | (intros; simp_all; done))))
      refine ifC.mk (fun h9 => ?_) (fun h9 => ?_)
      ·refine ⟨_, _, qau, ?_, rfl⟩
       rw [if_pos h9] at ho
       rw [hb 11 ho (by omega)]
      ·rw [if_neg (by rw [h9]; simp)] at ho
       refine ⟨qbs hi ho, ?_⟩
       refine qad [] [] rfl List.nodup_nil ?_ rfl
       simp only [zC, seval, @qai ((k:Int) + 1) (by omega)]
     ·rw [decide_eq_false hk0, Bool.false_and, if_neg (by simp)] at ho
      have e0 : (IntKind.i64.wrap ((k : Int) - 1)).toNat = 0 := by rw [qbm (by omega) (by omega)]; omega
      (try simp only [zC, seval, (show ¬ (0:Int) < k by omega), e0, qas _ _ _ (show 0 < l.length by omega)])
      repeat ((with_reducible refine And.intro ?_ ?_); (focus (first | omega | (simp only [qax]; omega) | (refine qq ?_; rfl) | (refine dq ?_; kernel_rfl) | (intros; simp_all; done))))
      refine ⟨qbs hi ho, ?_⟩
      refine qad [] [] rfl List.nodup_nil ?_ rfl
      simp only [zC, seval, @qai ((k:Int) + 1) (by omega)]
  ·simp only [zC, seval, (show ¬ (k:Int) < l.length by omega)]
   refine ⟨_, _, qau, ?_, rfl⟩
   have : k = l.length := by omega
   rw [qj1, ← this, hi]

def Qn1 (a b : qah) : Int := orL [qum a.lo b.lo, qum b.hi a.hi, qum a.thread b.thread]
theorem Qex (a b : qah) : qbg Tryz.prog Gl 159 [.d a.toD, .d b.toD] (.d (.int .i64 (Qn1 a b))) := by
 refine qbg.of2 ?_
 refine qac Tryz.func159 rfl rfl (by simp [Tryz.ntmps159]) (qab rfl _ _ _ _ ?_)
 simp only [Tryz.ntmps159, Tryz.results159, qaj, List.length_nil]
 simp only [zC, seval]
 repeat ((with_reducible refine And.intro ?_ ?_); (focus (first | omega | (simp only [qax]; omega) | (refine qq ?_; rfl) | (refine dq ?_; kernel_rfl) | (intros; simp_all; done))))
 refine qaf (qim _ _) ?_
 simp only [zC, seval]
 refine qaf (qim _ _) ?_
 simp only [zC, seval]
 refine qaf (qim _ _) ?_
 simp only [zC, seval]
 repeat ((with_reducible refine And.intro ?_ ?_); (focus (first | omega | (simp only [qax]; omega) | (refine qq ?_; rfl) | (refine dq ?_; kernel_rfl) | (intros; simp_all; done))))
 refine ql4 2 (fun B hB => Qry [qum a.lo b.lo, qum b.hi a.hi, qum a.thread b.thread] (by simp) B hB) (fun _ => rfl) rfl ?_
 simp only [zC, seval]
 exact ⟨_, _, qau, rfl, rfl⟩
def qha (l : List qah) (i k : Int) : Bool :=
 if h : 0 ≤ k then (if i = k then true else if h2 : (l.getD k.toNat default).parent < k then qha l i (l.getD k.toNat default).parent else false) else false
termination_by (k + 1).toNat
decreasing_by omega
def qih (l : List qah) (i : Nat) : Bool :=
 let s := l.getD i default
 if (decide (s.parent < -1) || decide ((i : Int) ≤ s.parent)) = true then false
 else if s.parent = -1 then s.depth == 0
 else !((l.getD s.parent.toNat default).thread != s.thread || decide (s.lo < (l.getD s.parent.toNat default).lo) || decide ((l.getD s.parent.toNat default).hi < s.hi) || s.depth != IntKind.i64.wrap ((l.getD s.parent.toNat default).depth + 1))
def quf (l : List qah) : Bool := (List.range l.length).all (qih l)
theorem qff (p : Nat → Bool) (k : Nat) : (List.range (k + 1)).all p = ((List.range k).all p && p k) := by
 rw [List.range_succ, List.all_append]; simp only [List.all_cons, List.all_nil, Bool.and_true]
theorem qep {p : Nat → Bool} {n k : Nat} (h : k < n) (hp : p k = false) : (List.range n).all p = false := by
 rw [List.all_eq_false]; exact ⟨k, List.mem_range.2 h, by simp [hp]⟩
theorem q4w {l : List qah} {i : Nat} (h : qih l i = true) : -1 ≤ (l.getD i default).parent ∧ (l.getD i default).parent < i := by
 unfold qih at h
 simp only at h
 split at h
 ·cases h
 ·rename_i h1
  simp only [Bool.not_eq_true, Bool.or_eq_false_iff, decide_eq_false_iff_not] at h1
  omega
theorem Qh6 {l : List qah} (h : quf l = true) {i : Nat} (hi : i < l.length) : qih l i = true := by
 unfold quf at h; rw [List.all_eq_true] at h; exact h i (List.mem_range.2 hi)
theorem Qil (l : List qah) (hl : l.length < 1000000) : qbg Tryz.prog Gl 160 [.d (.sl (l.map qah.toD))] (.d (.bool (quf l))) := by
 refine qbg.of1 ?_
 refine qac Tryz.func160 rfl rfl (by simp [Tryz.ntmps160]) (qab rfl _ _ _ _ ?_)
 simp only [Tryz.ntmps160, Tryz.results160, qaj, List.length_nil]
 simp only [zC, seval]
 refine qa4 l.length (fun k => [(0, .d (.sl (l.map qah.toD))), (6, .d (.sl (l.map qah.toD))), (7, .d (.int .i64 l.length)), (8, .d (.int .i64 k))]) (fun _ => []) (fun k => (List.range k).all (qih l) = true) rfl ?_ ?_
 ·refine qad [] [] rfl List.nodup_nil ?_ rfl
  simp only [zC, seval, Int.cast_ofNat_Int]
 ·intro k hi hk
  by_cases h : k < l.length
  ·obtain ⟨b, eb⟩ : ∃ b, b = l.getD k default := ⟨_, rfl⟩
   have hbad : qih l k = false → quf l = false := fun h1 => qep h h1
   simp only [zC, seval, (show (k:Int) < l.length by omega), h, qas _ _ _ (show k < l.length by omega), ← eb]
   repeat ((with_reducible refine And.intro ?_ ?_); (focus (first | omega | (simp only [qax]; omega) | (refine qq ?_; rfl) | (refine dq ?_; kernel_rfl) | (intros; simp_all; done))))
   cases h1 : (decide (b.parent < -1) || decide ((k : Int) ≤ b.parent)) with
   | true =>
    simp only [zC, seval]
    refine ⟨_, _, qau, ?_, rfl⟩
    rw [hbad (by unfold qih; rw [← eb]; simp only [h1, if_pos])]
   | false =>
    simp only [zC, seval]
    have hn : qih l k = if b.parent = -1 then b.depth == 0 else !((l.getD b.parent.toNat default).thread != b.thread || decide (b.lo < (l.getD b.parent.toNat default).lo) || decide ((l.getD b.parent.toNat default).hi < b.hi) || b.depth != IntKind.i64.wrap ((l.getD b.parent.toNat default).depth + 1)) := by
     unfold qih; rw [← eb]; simp only [h1, Bool.false_eq_true, if_false]
    simp only [Bool.or_eq_false_iff, decide_eq_false_iff_not] at h1
    by_cases h2 : b.parent = -1
    ·rw [if_pos h2] at hn
     simp only [zC, seval, Qmf (show b.parent = -1 by omega)]
     refine ifC.mk (fun h3 => ?_) (fun h3 => ?_)
     ·refine ⟨_, _, qau, ?_, rfl⟩
      rw [hbad (by rw [hn]; simpa using h3)]
     ·have hat : qih l k = true := by rw [hn]; simpa using h3
      refine ⟨by rw [qff, hi, hat]; rfl, ?_⟩
      refine qad [] [] rfl List.nodup_nil ?_ rfl
      simp only [zC, seval, @qai ((k:Int) + 1) (by omega)]
    ·rw [if_neg h2] at hn
     obtain ⟨q, eq⟩ : ∃ q : Nat, b.parent = q := ⟨b.parent.toNat, by omega⟩
     rw [eq, qz5] at hn
     simp only [zC, seval, eq, Qg2 (show ¬ ((q:Int) = -1) by omega), (show (q:Int) < l.length by omega), (show q < l.length by omega), qas _ _ _ (show q < l.length by omega)]
     repeat ((with_reducible refine And.intro ?_ ?_); (focus (first | omega | (simp only [qax]; omega) | (refine qq ?_; rfl) | (refine dq ?_; kernel_rfl) | (intros; simp_all; done))))
     refine ifC.mk (fun h3 => ?_) (fun h3 => ?_)
     ·refine ⟨_, _, qau, ?_, rfl⟩
      rw [hbad (by rw [hn, h3]; rfl)]
     ·have hat : qih l k = true := by rw [hn, h3]; rfl
      refine ⟨by rw [qff, hi, hat]; rfl, ?_⟩
      refine qad [] [] rfl List.nodup_nil ?_ rfl
      simp only [zC, seval, @qai ((k:Int) + 1) (by omega)]
  ·simp only [zC, seval, (show ¬ (k:Int) < l.length by omega)]
   refine ⟨_, _, qau, ?_, rfl⟩
   have : k = l.length := by omega
   rw [quf, ← this, hi]
theorem Qb9 {l : List qah} {i k : Int} (h : ¬ 0 ≤ k) : qha l i k = false := by rw [qha, dif_neg h]
theorem q95 {l : List qah} {i k : Int} (h : 0 ≤ k) (h2 : i = k) : qha l i k = true := by rw [qha, dif_pos h, if_pos h2]
theorem q94 {l : List qah} {i k : Int} (h : 0 ≤ k) (h2 : i ≠ k) (h3 : (l.getD k.toNat default).parent < k) : qha l i k = qha l i (l.getD k.toNat default).parent := by rw [qha, dif_pos h, if_neg h2, dif_pos h3]
theorem Qeb (l : List qah) (hl : l.length < 1000000) (hn : quf l = true) (i k : Int) (hk : k < l.length) : qbg Tryz.prog Gl 195 [.d (.sl (l.map qah.toD)), .d (.int .i64 i), .d (.int .i64 k)] (.d (.bool (qha l i k))) := by
 refine qbg.of3 ?_
 refine qac Tryz.func195 rfl rfl (by simp [Tryz.ntmps195]) (qab rfl _ _ _ _ ?_)
 simp only [Tryz.ntmps195, Tryz.results195, qaj, List.length_nil]
 simp only [zC, seval]
 refine qcl (τ := Int) (fun p => [(0, .d (.sl (l.map qah.toD))), (1, .d (.int .i64 i)), (2, .d (.int .i64 p))]) (fun _ => []) (fun p => p < l.length ∧ qha l i p = qha l i k) (fun p => (p + 1).toNat) k ⟨hk, rfl⟩ ?_ ?_
 ·refine qad [] [] rfl List.nodup_nil ?_ rfl
  simp only [zC, seval]
 ·rintro p ⟨h1, h2⟩
  simp only [zC, seval]
  refine ifC.mk (fun hc => ?_) (fun hc => ?_)
  ·have hc : 0 ≤ p := by simpa using hc
   obtain ⟨q, rfl⟩ : ∃ q : Nat, p = q := ⟨p.toNat, by omega⟩
   simp only [zC, seval]
   refine ifC.mk (fun hd => ?_) (fun hd => ?_)
   ·refine ⟨_, _, qau, ?_, rfl⟩
    rw [← h2, q95 hc (by simpa using hd)]
   ·have hd : i ≠ q := by simpa using hd
    have hp := q4w (Qh6 hn (i := q) (by omega))
    rw [q94 hc hd (by rw [qz5]; exact hp.2), qz5] at h2
    simp only [zC, seval, (show (q:Int) < l.length by omega), (show q < l.length by omega), qas _ _ _ (show q < l.length by omega)]
    repeat ((with_reducible refine And.intro ?_ ?_); (focus (first | omega | (simp only [qax]; omega) | (refine qq ?_; rfl) | (refine dq ?_; kernel_rfl) | (intros; simp_all; done))))
    refine ⟨(l.getD q default).parent, ⟨by omega, h2⟩, by omega, ?_⟩
    refine qad [] [] rfl List.nodup_nil ?_ rfl
    simp only [zC, seval]
  ·have hc : ¬ 0 ≤ p := by simpa using hc
   refine ⟨_, _, qau, ?_, rfl⟩
   rw [← h2, Qb9 hc]
def qo8 (l : List qah) (i : Nat) : Nat → Int
 | 0 => IntKind.i64.wrap ((l.getD i default).hi - (l.getD i default).lo)
 | j + 1 => if ((l.getD j default).parent == (i : Int)) = true then IntKind.i64.wrap (qo8 l i j - IntKind.i64.wrap ((l.getD j default).hi - (l.getD j default).lo)) else qo8 l i j
def qyk (l : List qah) (j i : Nat) : Bool := decide ((j : Int) < i) && ((l.getD j default).thread == (l.getD i default).thread) && decide ((l.getD i default).lo < (l.getD j default).hi) && decide ((l.getD j default).lo < (l.getD i default).hi) && !qha l j i
def qio (l : List qah) (i : Nat) : Bool := ((List.range l.length).all fun j => !qyk l j i) && ((l.getD i default).self == qo8 l i l.length)
def qyr (l : List qah) : Bool := (List.range l.length).all (qio l)
theorem Qnf (l : List qah) (hl : l.length < 1000000) (hn : quf l = true) : qbg Tryz.prog Gl 161 [.d (.sl (l.map qah.toD))] (.d (.bool (qyr l))) := by
 refine qbg.of1 ?_
 refine qac Tryz.func161 rfl rfl (by simp [Tryz.ntmps161]) (qab rfl _ _ _ _ ?_)
 simp only [Tryz.ntmps161, Tryz.results161, qaj, List.length_nil]
 simp only [zC, seval]
 refine qa4 l.length (fun k => [(0, .d (.sl (l.map qah.toD))), (8, .d (.sl (l.map qah.toD))), (9, .d (.int .i64 l.length)), (10, .d (.int .i64 k))]) (fun _ => []) (fun k => (List.range k).all (qio l) = true) rfl ?_ ?_
 ·refine qad [] [] rfl List.nodup_nil ?_ rfl
  simp only [zC, seval, Int.cast_ofNat_Int]
 ·intro k hi hk
  by_cases h : k < l.length
  ·obtain ⟨b, eb⟩ : ∃ b, b = l.getD k default := ⟨_, rfl⟩
   have hbad : qio l k = false → qyr l = false := fun h1 => qep h h1
   simp only [zC, seval, (show (k:Int) < l.length by omega), h, qas _ _ _ (show k < l.length by omega), ← eb]
   repeat ((with_reducible refine And.intro ?_ ?_); (focus (first | omega | (simp only [qax]; omega) | (refine qq ?_; rfl) | (refine dq ?_; kernel_rfl) | (intros; simp_all; done))))
   refine qa4 l.length (fun j => [(0, .d (.sl (l.map qah.toD))), (3, .d (.int .i64 k)), (4, .ptr 0 0), (5, .d (.int .i64 (qo8 l k j))), (8, .d (.sl (l.map qah.toD))), (9, .d (.int .i64 l.length)), (10, .d (.int .i64 k)), (22, .d (.sl (l.map qah.toD))), (23, .d (.int .i64 l.length)), (24, .d (.int .i64 j))]) (fun _ => [.box 8 (.d b.toD)]) (fun j => ((List.range j).all fun j => !qyk l j k) = true) rfl ?_ ?_
   ·refine qad [] [0] rfl (by simp) ?_ rfl
    simp only [zC, seval, Int.cast_ofNat_Int, qo8, ← eb]
    all_goals rfl
   ·intro j hj hjk
    by_cases h2 : j < l.length
    ·obtain ⟨a, ea⟩ : ∃ a, a = l.getD j default := ⟨_, rfl⟩
     simp only [zC, seval, (show (j:Int) < l.length by omega), h2, qas _ _ _ (show j < l.length by omega), ← ea]
     repeat ((with_reducible refine And.intro ?_ ?_); (focus (first | omega | (simp only [qax]; omega) | (refine qq ?_; rfl) | (refine dq ?_; kernel_rfl) | (intros; simp_all; done))))
     cases h3 : (a.parent == (k : Int)) with
     | true =>
      have hS : qo8 l k (j + 1) = IntKind.i64.wrap (qo8 l k j - IntKind.i64.wrap (a.hi - a.lo)) := by rw [qo8, ← ea, if_pos h3]
      simp only [zC, seval]
      repeat ((with_reducible refine And.intro ?_ ?_); (focus (first | omega | (simp only [qax]; omega) | (refine qq ?_; rfl) | (refine dq ?_; kernel_rfl) | (intros; simp_all; done))))
      refine qbq (fun _ => Qeb l hl hn j k (by omega)) ?_
      simp only [zC, seval]
      repeat ((with_reducible refine And.intro ?_ ?_); (focus (first | omega | (simp only [qax]; omega) | (refine qq ?_; rfl) | (refine dq ?_; kernel_rfl) | (intros; simp_all; done))))
      refine ifC.mk (fun hc => ?_) (fun hc => ?_)
      ·refine ⟨_, _, qau, ?_, rfl⟩
       rw [hbad (by unfold qio; rw [qep h2 (by simp only [qyk, ← eb, ← ea]; rw [hc]; rfl)]; rfl)]
      ·refine ⟨by rw [qff, hj]; simp only [qyk, ← eb, ← ea]; rw [hc]; rfl, ?_⟩
       refine qad [] [0] rfl (by simp) ?_ rfl
       simp only [zC, seval, @qai ((j:Int) + 1) (by omega), hS]
       all_goals rfl
     | false =>
      have hS : qo8 l k (j + 1) = qo8 l k j := by rw [qo8, ← ea, if_neg (by rw [h3]; simp)]
      simp only [zC, seval]
      repeat ((with_reducible refine And.intro ?_ ?_); (focus (first | omega | (simp only [qax]; omega) | (refine qq ?_; rfl) | (refine dq ?_; kernel_rfl) | (intros; simp_all; done))))
      refine qbq (fun _ => Qeb l hl hn j k (by omega)) ?_
      simp only [zC, seval]
      repeat ((with_reducible refine And.intro ?_ ?_); (focus (first | omega | (simp only [qax]; omega) | (refine qq ?_; rfl) | (refine dq ?_; kernel_rfl) | (intros; simp_all; done))))
      refine ifC.mk (fun hc => ?_) (fun hc => ?_)
      ·refine ⟨_, _, qau, ?_, rfl⟩
       rw [hbad (by unfold qio; rw [qep h2 (by simp only [qyk, ← eb, ← ea]; rw [hc]; rfl)]; rfl)]
      ·refine ⟨by rw [qff, hj]; simp only [qyk, ← eb, ← ea]; rw [hc]; rfl, ?_⟩
       refine qad [] [0] rfl (by simp) ?_ rfl
       simp only [zC, seval, @qai ((j:Int) + 1) (by omega), hS]
       all_goals rfl
    ·simp only [zC, seval, (show ¬ (j:Int) < l.length by omega)]
     have hjn : j = l.length := by omega
     subst hjn
     have hat : qio l k = (b.self == qo8 l k l.length) := by unfold qio; rw [hj, ← eb, Bool.true_and]
     refine ifC.mk (fun hc => ?_) (fun hc => ?_)
     ·refine ⟨_, _, qau, ?_, rfl⟩
      rw [hbad (by rw [hat]; simpa using hc)]
     ·have hat : qio l k = true := by rw [hat]; simpa using hc
      refine ⟨by rw [qff, hi, hat]; rfl, ?_⟩
      refine qad [] [] rfl List.nodup_nil ?_ rfl
      simp only [zC, seval, @qai ((k:Int) + 1) (by omega)]
  ·simp only [zC, seval, (show ¬ (k:Int) < l.length by omega)]
   refine ⟨_, _, qau, ?_, rfl⟩
   have : k = l.length := by omega
   rw [qyr, ← this, hi]
def Qg5 (l : List qah) (k : Nat) : Int :=
 if (decide ((l.getD k default).thread < 0) || decide (1000000000000000 < (l.getD k default).thread) || !qlr (l.getD k default).lo (l.getD k default).hi) = true then 2
 else if qcq (l.getD k default).name ≠ 0 then qcq (l.getD k default).name
 else if (decide (0 < k) && decide (0 < Qn1 (l.getD (k - 1) default) (l.getD k default))) = true then 11 else 0
def qm6 (l : List qah) : Int := if qa9 (Qg5 l) l.length ≠ 0 then qa9 (Qg5 l) l.length else if (quf l && qyr l) = true then 0 else 10
theorem Qhr {l : List qah} {k : Nat} (h : (decide ((l.getD k default).thread < 0) || decide (1000000000000000 < (l.getD k default).thread) || !qlr (l.getD k default).lo (l.getD k default).hi) = true) : Qg5 l k = 2 := by rw [Qg5, if_pos h]
theorem Qpv {l : List qah} {k : Nat} (h : (decide ((l.getD k default).thread < 0) || decide (1000000000000000 < (l.getD k default).thread) || !qlr (l.getD k default).lo (l.getD k default).hi) = false) (h2 : qcq (l.getD k default).name ≠ 0) : Qg5 l k = qcq (l.getD k default).name := by rw [Qg5, if_neg (by rw [h]; simp), if_pos h2]
theorem Qmp {l : List qah} {k : Nat} (h : (decide ((l.getD k default).thread < 0) || decide (1000000000000000 < (l.getD k default).thread) || !qlr (l.getD k default).lo (l.getD k default).hi) = false) (h2 : qcq (l.getD k default).name = 0) : Qg5 l k = if (decide (0 < k) && decide (0 < Qn1 (l.getD (k - 1) default) (l.getD k default))) = true then 11 else 0 := by rw [Qg5, if_neg (by rw [h]; simp), if_neg (by rw [h2]; simp)]
theorem q3e (l : List qah) (hl : l.length < 1000000) : qbg Tryz.prog Gl 100 [.d (.sl (l.map qah.toD))] (.d (.int .i64 (qm6 l))) := by
 refine qbg.of1 ?_
 refine qac Tryz.func100 rfl rfl (by simp [Tryz.ntmps100]) (qab rfl _ _ _ _ ?_)
 simp only [Tryz.ntmps100, Tryz.results100, qaj, List.length_nil]
 simp only [zC, seval]
 refine qa4 l.length (fun k => [(0, .d (.sl (l.map qah.toD))), (6, .d (.sl (l.map qah.toD))), (7, .d (.int .i64 l.length)), (8, .d (.int .i64 k))]) (fun _ => []) (fun k => qa9 (Qg5 l) k = 0) rfl ?_ ?_
 ·refine qad [] [] rfl List.nodup_nil ?_ rfl
  simp only [zC, seval, Int.cast_ofNat_Int]
 ·intro k hi hk
  by_cases h : k < l.length
  ·have hb : ∀ e, Qg5 l k = e → e ≠ 0 → qm6 l = e := fun e h1 h2 => by
    have := qb8 hi (by rw [h1]; exact h2) h
    rw [qm6, this, h1, if_pos h2]
   obtain ⟨b, eb⟩ : ∃ b, b = l.getD k default := ⟨_, rfl⟩
   simp only [zC, seval, (show (k:Int) < l.length by omega), h, qas _ _ _ (show k < l.length by omega), ← eb]
   repeat ((with_reducible refine And.intro ?_ ?_); (focus (first | omega | (simp only [qax]; omega) | (refine qq ?_; rfl) | (refine dq ?_; kernel_rfl) | (intros; simp_all; done))))
   refine qbq (fun _ => qzo _ _) ?_
   simp only [zC, seval]
   repeat ((with_reducible refine And.intro ?_ ?_); (focus (first | omega | (simp only [qax]; omega) | (refine qq ?_; rfl) | (refine dq ?_; kernel_rfl) | (intros; simp_all; done))))
   refine ifC.mk (fun h1 => ?_) (fun h1 => ?_)
   ·refine ⟨_, _, qau, ?_, rfl⟩
    rw [hb 2 (Qhr (by rw [← eb]; exact h1)) (by omega)]
   ·refine qaf (qx4 _) ?_
    simp only [zC, seval]
    refine ifC.mk (fun h2 => ?_) (fun h2 => ?_)
    ·have h2 : qcq b.name ≠ 0 := by simpa using h2
     refine ⟨_, _, qau, ?_, rfl⟩
     rw [hb _ (Qpv (by rw [← eb]; exact h1) (by rw [← eb]; exact h2)) (by rw [← eb]; exact h2), ← eb]
    ·have ho := Qmp (l := l) (k := k) (by rw [← eb]; exact h1) (by rw [← eb]; simpa using h2)
     rw [← eb] at ho
     by_cases hk0 : 0 < k
     ·have e1 : IntKind.i64.wrap ((k : Int) - 1) = ((k - 1 : Nat) : Int) := by rw [qbm (by omega) (by omega)]; omega
      obtain ⟨a, ea⟩ : ∃ a, a = l.getD (k - 1) default := ⟨_, rfl⟩
      rw [decide_eq_true hk0, Bool.true_and, ← ea] at ho
      simp only [zC, seval, (show (0:Int) < k by omega), e1, (show ((k - 1 : Nat) : Int) < l.length by omega), (show k - 1 < l.length by omega), qas _ _ _ (show k - 1 < l.length by omega), ← ea]
      repeat ((with_reducible refine And.intro ?_ ?_); (focus (first | omega | (simp only [qax]; omega) | (refine qq ?_; rfl) | (refine dq ?_; kernel_rfl) | (intros; simp_all; done))))
      refine qbq (fun _ => Qex _ _) ?_
      simp only [zC, seval]
      repeat ((with_reducible refine And.intro ?_ ?_); (focus (first | omega | (simp only [qax]; omega) | (refine qq ?_; rfl) | (refine dq ?_; kernel_rfl) | (intros; simp_all; done))))
      refine ifC.mk (fun h3 => ?_) (fun h3 => ?_)
      ·refine ⟨_, _, qau, ?_, rfl⟩
       rw [if_pos h3] at ho
       rw [hb 11 ho (by omega)]
      ·rw [if_neg (by rw [h3]; simp)] at ho
       refine ⟨qbs hi ho, ?_⟩
       refine qad [] [] rfl List.nodup_nil ?_ rfl
       simp only [zC, seval, @qai ((k:Int) + 1) (by omega)]
     ·rw [decide_eq_false hk0, Bool.false_and, if_neg (by simp)] at ho
      have e0 : (IntKind.i64.wrap ((k : Int) - 1)).toNat = 0 := by rw [qbm (by omega) (by omega)]; omega
      simp only [zC, seval, (show ¬ (0:Int) < k by omega), e0, qas _ _ _ (show 0 < l.length by omega)]
      repeat ((with_reducible refine And.intro ?_ ?_); (focus (first | omega | (simp only [qax]; omega) | (refine qq ?_; rfl) | (refine dq ?_; kernel_rfl) | (intros; simp_all; done))))
      refine qbq (v := .d (.int .i64 0)) (fun h => by cases h) ?_
      simp only [zC, seval, e0, qas _ _ _ (show 0 < l.length by omega)]
      repeat ((with_reducible refine And.intro ?_ ?_); (focus (first | omega | (simp only [qax]; omega) | (refine qq ?_; rfl) | (refine dq ?_; kernel_rfl) | (intros; simp_all; done))))
      refine ⟨qbs hi ho, ?_⟩
      refine qad [] [] rfl List.nodup_nil ?_ rfl
      simp only [zC, seval, @qai ((k:Int) + 1) (by omega)]
  ·simp only [zC, seval, (show ¬ (k:Int) < l.length by omega)]
   have : k = l.length := by omega
   subst this
   have hF : qm6 l = if (quf l && qyr l) = true then 0 else 10 := by rw [qm6, hi, if_neg (by simp)]
   refine qaf (Qil l hl) ?_
   simp only [zC, seval]
   cases hn : quf l with
   | false =>
    rw [hn, Bool.false_and, if_neg (by simp)] at hF
    repeat ((with_reducible refine And.intro ?_ ?_); (focus (first | omega | (simp only [qax]; omega) | (refine qq ?_; rfl) | (refine dq ?_; kernel_rfl) | (intros; simp_all; done))))
    refine qbq (v := .d (.bool false)) (fun h => by cases h) ?_
    simp only [zC, seval]
    refine ⟨_, _, qau, ?_, rfl⟩
    rw [hF]
   | true =>
    rw [hn, Bool.true_and] at hF
    repeat ((with_reducible refine And.intro ?_ ?_); (focus (first | omega | (simp only [qax]; omega) | (refine qq ?_; rfl) | (refine dq ?_; kernel_rfl) | (intros; simp_all; done))))
    refine qbq (fun _ => Qnf l hl hn) ?_
    simp only [zC, seval]
    cases ha : qyr l with
    | false =>
     simp only [zC, seval]
     refine ⟨_, _, qau, ?_, rfl⟩
     rw [hF, ha, if_neg (by simp)]
    | true =>
     simp only [zC, seval]
     refine ⟨_, _, qau, ?_, rfl⟩
     rw [hF, ha, if_pos rfl]

theorem Qni (xs : List Int) (x : Int) (hl : xs.length < 2000000) (B : Blk) (hB : qdo 1 (xs.map (D.int .i64)) B) : qag Tryz.prog Gl 163 [.osl 0 0 xs.length, .d (.int .i64 x)] [B] (fun r s => r = .d (.int .i64 (qfs (fun y => x == y) xs)) ∧ s = [B]) := by
 rcases hB with rfl | rfl
 ·refine qac Tryz.func163 rfl rfl (by simp [Tryz.ntmps163]) (qab rfl _ _ _ _ ?_)
  simp only [Tryz.ntmps163, Tryz.results163, qaj, List.length_nil]
  simp only [zC, seval]
  refine qa4 xs.length (fun k => [(0, .osl 0 0 xs.length), (1, .d (.int .i64 x)), (7, .d (.int .i64 xs.length)), (8, .d (.int .i64 k))]) (fun _ => [.arr 1 (xs.map (D.int .i64))]) (fun k => (xs.take k).any (fun y => x == y) = false) rfl ?_ ?_
  ·refine qad [] [0] rfl (by simp) ?_ rfl
   simp only [zC, seval, Int.cast_ofNat_Int]
   all_goals rfl
  ·intro k hi hk
   by_cases h : k < xs.length
   ·have hs := qcv (fun y => x == y) xs k h
    simp only [zC, seval, (show (k:Int) < xs.length by omega), h, qas _ _ _ (show k < xs.length by omega)]
    repeat ((with_reducible refine And.intro ?_ ?_); (focus (first | omega | (simp only [qax]; omega) | (refine qq ?_; rfl) | (refine dq ?_; kernel_rfl) | (intros; simp_all; done))))
    refine ifC.mk (fun hc => ?_) (fun hc => ?_)
    ·refine ⟨_, _, qae [] [0] rfl (by simp) (show qbf _ _ _ = AV.d _ from rfl) rfl, ?_, rfl⟩
     rw [qei h hi hc]
    ·refine ⟨by rw [hs, hi, hc]; rfl, ?_⟩
     refine qad [] [0] rfl (by simp) ?_ rfl
     simp only [zC, seval, @qai ((k:Int) + 1) (by omega)]
     all_goals rfl
   ·simp only [zC, seval, (show ¬ (k:Int) < xs.length by omega)]
    have : k = xs.length := by omega
    subst this
    rw [List.take_length] at hi
    refine ⟨_, _, qae [] [0] rfl (by simp) (show qbf _ _ _ = AV.d _ from rfl) rfl, ?_, rfl⟩
    rw [qda hi]
 ·refine qac Tryz.func163 rfl rfl (by simp [Tryz.ntmps163]) (qab rfl _ _ _ _ ?_)
  simp only [Tryz.ntmps163, Tryz.results163, qaj, List.length_nil]
  simp only [zC, seval]
  refine qa4 xs.length (fun k => [(0, .osl 0 0 xs.length), (1, .d (.int .i64 x)), (7, .d (.int .i64 xs.length)), (8, .d (.int .i64 k))]) (fun _ => [.frz 1 (xs.map (D.int .i64))]) (fun k => (xs.take k).any (fun y => x == y) = false) rfl ?_ ?_
  ·refine qad [] [0] rfl (by simp) ?_ rfl
   simp only [zC, seval, Int.cast_ofNat_Int]
   all_goals rfl
  ·intro k hi hk
   by_cases h : k < xs.length
   ·have hs := qcv (fun y => x == y) xs k h
    simp only [zC, seval, (show (k:Int) < xs.length by omega), h, qas _ _ _ (show k < xs.length by omega)]
    repeat ((with_reducible refine And.intro ?_ ?_); (focus (first | omega | (simp only [qax]; omega) | (refine qq ?_; rfl) | (refine dq ?_; kernel_rfl) | (intros; simp_all; done))))
    refine ifC.mk (fun hc => ?_) (fun hc => ?_)
    ·refine ⟨_, _, qae [] [0] rfl (by simp) (show qbf _ _ _ = AV.d _ from rfl) rfl, ?_, rfl⟩
     rw [qei h hi hc]
    ·refine ⟨by rw [hs, hi, hc]; rfl, ?_⟩
     refine qad [] [0] rfl (by simp) ?_ rfl
     simp only [zC, seval, @qai ((k:Int) + 1) (by omega)]
     all_goals rfl
   ·simp only [zC, seval, (show ¬ (k:Int) < xs.length by omega)]
    have : k = xs.length := by omega
    subst this
    rw [List.take_length] at hi
    refine ⟨_, _, qae [] [0] rfl (by simp) (show qbf _ _ _ = AV.d _ from rfl) rfl, ?_, rfl⟩
    rw [qda hi]
theorem Qi0 (xs : List Int) (x : Int) (hl : xs.length < 1000000) : qbg Tryz.prog Gl 163 [.d (.sl (xs.map (D.int .i64))), .d (.int .i64 x)] (.d (.int .i64 (qfs (fun y => x == y) xs))) := by
 refine qbg.of2 ?_
 refine qac Tryz.func163 rfl rfl (by simp [Tryz.ntmps163]) (qab rfl _ _ _ _ ?_)
 simp only [Tryz.ntmps163, Tryz.results163, qaj, List.length_nil]
 simp only [zC, seval]
 refine qa4 xs.length (fun k => [(0, .d (.sl (xs.map (D.int .i64)))), (1, .d (.int .i64 x)), (7, .d (.int .i64 xs.length)), (8, .d (.int .i64 k))]) (fun _ => []) (fun k => (xs.take k).any (fun y => x == y) = false) rfl ?_ ?_
 ·refine qad [] [] rfl List.nodup_nil ?_ rfl
  simp only [zC, seval, Int.cast_ofNat_Int]
 ·intro k hi hk
  by_cases h : k < xs.length
  ·have hs := qcv (fun y => x == y) xs k h
   simp only [zC, seval, (show (k:Int) < xs.length by omega), h, qas _ _ _ (show k < xs.length by omega)]
   repeat ((with_reducible refine And.intro ?_ ?_); (focus (first | omega | (simp only [qax]; omega) | (refine qq ?_; rfl) | (refine dq ?_; kernel_rfl) | (intros; simp_all; done))))
   refine ifC.mk (fun hc => ?_) (fun hc => ?_)
   ·refine ⟨_, _, qau, ?_, rfl⟩
    rw [qei h hi hc]
   ·refine ⟨by rw [hs, hi, hc]; rfl, ?_⟩
    refine qad [] [] rfl List.nodup_nil ?_ rfl
    simp only [zC, seval, @qai ((k:Int) + 1) (by omega)]
  ·simp only [zC, seval, (show ¬ (k:Int) < xs.length by omega)]
   have : k = xs.length := by omega
   subst this
   rw [List.take_length] at hi
   refine ⟨_, _, qau, ?_, rfl⟩
   rw [qda hi]
theorem Qa6 (xs : List Int) (x : Int) (hl : xs.length < 2000000) (B : Blk) (hB : qdo 1 (xs.map (D.int .i64)) B) : qag Tryz.prog Gl 196 [.osl 0 0 xs.length, .d (.int .i64 x)] [B] (fun r s => r = .d (.bool (xs.any (fun y => x == y))) ∧ s = [B]) := by
 have hix := Qni (Gl := Gl) xs x hl B hB
 rcases hB with rfl | rfl
 ·refine qac Tryz.func196 rfl rfl (by simp [Tryz.ntmps196]) (qab rfl _ _ _ _ ?_)
  simp only [Tryz.ntmps196, Tryz.results196, qaj, List.length_nil]
  simp only [zC, seval]
  refine qaq (hix.mono fun r s hr => ?_)
  obtain ⟨rfl, rfl⟩ := hr
  simp only [zC, seval]
  refine ⟨_, _, qae [] [0] rfl (by simp) (show qbf _ _ _ = AV.d _ from rfl) rfl, ?_, rfl⟩
  rw [qdm]
 ·refine qac Tryz.func196 rfl rfl (by simp [Tryz.ntmps196]) (qab rfl _ _ _ _ ?_)
  simp only [Tryz.ntmps196, Tryz.results196, qaj, List.length_nil]
  simp only [zC, seval]
  refine qaq (hix.mono fun r s hr => ?_)
  obtain ⟨rfl, rfl⟩ := hr
  simp only [zC, seval]
  refine ⟨_, _, qae [] [0] rfl (by simp) (show qbf _ _ _ = AV.d _ from rfl) rfl, ?_, rfl⟩
  rw [qdm]
def qi7 (l : List qao) : List Int := l.foldl (fun out x => if out.any (fun y => x.id == y) = true then out else out ++ [x.id]) []
theorem qyi (l : List qao) (k : Nat) (h : k < l.length) : qi7 (l.take (k + 1)) = if (qi7 (l.take k)).any (fun y => (l.getD k default).id == y) = true then qi7 (l.take k) else qi7 (l.take k) ++ [(l.getD k default).id] := by
 rw [qay l k h]; unfold qi7; rw [List.foldl_append]; rfl
theorem qtp (l : List qao) : ∀ k, (qi7 (l.take k)).length ≤ k
 | 0 => by simp [qi7]
 | k + 1 => by
  have ih := qtp l k
  by_cases h : k < l.length
  ·rw [qyi l k h]
   split
   ·omega
   ·rw [List.length_append]; simp only [List.length_cons, List.length_nil]; omega
  ·rw [List.take_of_length_le (by omega)]
   rw [List.take_of_length_le (by omega)] at ih
   omega
theorem Qa3 (l : List qao) (hl : l.length < 1000000) : qbg Tryz.prog Gl 162 [.d (.sl (l.map qao.toD))] (.d (.sl ((qi7 l).map (D.int .i64)))) := by
 refine qbg.of1 ?_
 refine qac Tryz.func162 rfl rfl (by simp [Tryz.ntmps162]) (qab rfl _ _ _ _ ?_)
 simp only [Tryz.ntmps162, Tryz.results162, qaj, List.length_nil]
 simp only [zC, seval]
 refine qa4 l.length (fun k => [(3, .osl 0 0 (qi7 (l.take k)).length), (6, .d (.sl (l.map qao.toD))), (7, .d (.int .i64 l.length)), (8, .d (.int .i64 k))]) (fun k => [.arr 1 ((qi7 (l.take k)).map (D.int .i64))]) (fun _ => True) trivial ?_ ?_
 ·refine (qe9 3 1 rfl).trans ?_
  refine qad [] [0] rfl (by simp) ?_ ?_
  ·simp only [zC, seval, Int.cast_ofNat_Int]
   all_goals rfl
  ·rfl
 ·intro k _ hk
  have hdl := qtp l k
  by_cases h : k < l.length
  ·have hs := qyi l k h
   obtain ⟨ys, hys⟩ : ∃ ys, ys = qi7 (l.take k) := ⟨_, rfl⟩
   rw [← hys] at hs hdl ⊢
   simp only [zC, seval, (show (k:Int) < l.length by omega), h, qas _ _ _ (show k < l.length by omega)]
   repeat ((with_reducible refine And.intro ?_ ?_); (focus (first | omega | (simp only [qax]; omega) | (refine qq ?_; rfl) | (refine dq ?_; kernel_rfl) | (intros; simp_all; done))))
   refine ql4 0 (fun B hB => Qa6 ys _ (by omega) B hB) (fun _ => rfl) rfl ?_
   simp only [zC, seval]
   cases hc : ys.any (fun y => (l.getD k default).id == y) with
   | true =>
    rw [hc, if_pos rfl] at hs
    simp only [zC, seval, hs]
    refine qad [] [0] rfl (by simp) ?_ rfl
    simp only [zC, seval, @qai ((k:Int) + 1) (by omega)]
    all_goals rfl
   | false =>
    rw [hc, if_neg (by simp)] at hs
    simp only [zC, seval, qa6]
    repeat ((with_reducible refine And.intro ?_ ?_); (focus (first | omega | (simp only [qax]; omega) | (refine qq ?_; rfl) | (refine dq ?_; kernel_rfl) | (intros; simp_all; done))))
    rw [hs]
    refine qad [] [3] rfl (by simp) ?_ ?_
    ·simp only [zC, seval, @qai ((k:Int) + 1) (by omega)]
     all_goals rfl
    ·simp only [zC, seval, List.map_append]
     all_goals rfl
  ·have : k = l.length := by omega
   subst this
   simp only [zC, seval, (show ¬ (l.length:Int) < l.length by omega), List.take_length]
   refine ⟨_, _, qy5 rfl ?_, rfl, rfl⟩
   simp only [zC, seval, qa6]
def qf9 (s : qa0) : Bool := (decide (0 ≤ s.state) && decide (s.state ≤ 5)) && (if (s.state == 4) = true then decide (0 ≤ s.cpu) && decide (s.cpu < 64) else s.cpu == -1) && (if (s.state == 2) = true then decide (0 ≤ s.on_) && decide (s.on_ ≤ 1000000000000000) else s.on_ == -1)
 && (s.by_ == -1 || ((s.state == 1 || s.state == 2) && decide (0 ≤ s.by_) && decide (s.by_ ≤ 1000000000000000)))
theorem Qiw (s : qa0) : qbg Tryz.prog Gl 164 [.d s.toD] (.d (.bool (qf9 s))) := by
 refine qbg.of1 ?_
 refine qac Tryz.func164 rfl rfl (by simp [Tryz.ntmps164]) (qab rfl _ _ _ _ ?_)
 simp only [Tryz.ntmps164, Tryz.results164, qaj, List.length_nil]
 simp only [zC, seval]
 refine ifC.mk (fun h1 => ?_) (fun h1 => ?_)
 ·refine ⟨_, _, qau, ?_, rfl⟩
  refine congrArg (fun b => AV.d (D.bool b)) ?_
  unfold qf9
  cases e4 : (s.state == 4) <;> cases e2 : (s.state == 2) <;> simp_all <;> omega
 ·refine ifC.mk (fun h2 => ?_) (fun h2 => ?_)
  ·simp only [zC, seval, h2]
   refine ⟨_, _, qau, ?_, rfl⟩
   refine congrArg (fun b => AV.d (D.bool b)) ?_
   unfold qf9
   cases e4 : (s.state == 4) <;> cases e2 : (s.state == 2) <;> simp_all <;> omega
  ·refine ifC.mk (fun h3 => ?_) (fun h3 => ?_)
   ·refine ⟨_, _, qau, ?_, rfl⟩
    refine congrArg (fun b => AV.d (D.bool b)) ?_
    unfold qf9
    cases e4 : (s.state == 4) <;> cases e2 : (s.state == 2) <;> simp_all <;> omega
   ·refine ifC.mk (fun h4 => ?_) (fun h4 => ?_)
    ·simp only [zC, seval, h4]
     refine ⟨_, _, qau, ?_, rfl⟩
     refine congrArg (fun b => AV.d (D.bool b)) ?_
     unfold qf9
     cases e4 : (s.state == 4) <;> cases e2 : (s.state == 2) <;> simp_all <;> omega
    ·refine ifC.mk (fun h5 => ?_) (fun h5 => ?_)
     ·refine ⟨_, _, qau, ?_, rfl⟩
      refine congrArg (fun b => AV.d (D.bool b)) ?_
      unfold qf9
      cases e4 : (s.state == 4) <;> cases e2 : (s.state == 2) <;> simp_all <;> omega
     ·refine ⟨_, _, qau, ?_, rfl⟩
      refine congrArg (fun b => AV.d (D.bool b)) ?_
      unfold qf9
      cases e4 : (s.state == 4) <;> cases e2 : (s.state == 2) <;> simp_all <;> omega
def Qms (a b : qa0) : Bool := a.state == b.state && a.cpu == b.cpu && a.on_ == b.on_
theorem Qqp (a b : qa0) : qbg Tryz.prog Gl 165 [.d a.toD, .d b.toD] (.d (.bool (Qms a b))) := by
 refine qbg.of2 ?_
 refine qac Tryz.func165 rfl rfl (by simp [Tryz.ntmps165]) (qab rfl _ _ _ _ ?_)
 simp only [Tryz.ntmps165, Tryz.results165, qaj, List.length_nil]
 simp only [zC, seval]
 exact ⟨_, _, qau, rfl, rfl⟩

def Qok (ids : List Int) (x : Int) : Int := qfs (fun y => x == y) ids
def atU (ids : List Int) (l : List qa0) : Nat → Int
 | 0 => -1
 | k + 1 => Qok ids (l.getD k default).thread
def Qoi (ids : List Int) (l : List qa0) (k : Nat) : Bool :=
 let s := l.getD k default
 let i := Qok ids s.thread
 (i == atU ids l k && (s.lo != (l.getD (k - 1) default).hi || Qms s (l.getD (k - 1) default))) || (i != atU ids l k && (i != atU ids l k + 1 || s.lo != 0))
def uAt (ids : List Int) (l : List qa0) (k : Nat) : Int :=
 if Qok ids (l.getD k default).thread < 0 then 5 else if qlr (l.getD k default).lo (l.getD k default).hi = false then 2 else if qf9 (l.getD k default) = false then 1
 else if Qoi ids l k = true then 11 else 0
def q5r (l : List qa0) (k : Nat) : Bool := !((((k : Int) + 1 == (l.length : Int)) || (l.getD (k + 1) default).thread != (l.getD k default).thread) && (l.getD k default).hi != (l.getD (l.length - 1) default).hi)
def qu6 (ths : List qao) (l : List qa0) : Int :=
 if qa9 (uAt (qi7 ths) l) l.length ≠ 0 then qa9 (uAt (qi7 ths) l) l.length else if l.length = 0 then 0 else if (List.range l.length).all (q5r l) = false then 11
 else if atU (qi7 ths) l l.length + 1 = ((qi7 ths).length : Int) then 0 else 11
theorem Qfb (ids : List Int) (x : Int) : -1 ≤ Qok ids x := qta _ _
theorem qzr {α : Type} (p : α → Bool) : ∀ l : List α, qfs p l < l.length
 | [] => by simp [qfs]
 | b :: r => by
  have := qzr p r
  unfold qfs
  rw [List.length_cons]
  split
  ·omega
  ·split <;> omega
theorem Qmd (ids : List Int) (l : List qa0) : ∀ k, -1 ≤ atU ids l k
 | 0 => by simp [atU]
 | k + 1 => Qfb _ _
theorem Qmc (ids : List Int) (l : List qa0) : ∀ k, atU ids l k < ids.length
 | 0 => by simp [atU]; omega
 | k + 1 => qzr _ _
set_option maxHeartbeats 2000000 in
theorem q3d (ths : List qao) (hth : ths.length < 1000000) (l : List qa0) (hl : l.length < 1000000) : qbg Tryz.prog Gl 102 [.d (.sl (ths.map qao.toD)), .d (.sl (l.map qa0.toD))] (.d (.int .i64 (qu6 ths l))) := by
 refine qbg.of2 ?_
 refine qac Tryz.func102 rfl rfl (by simp [Tryz.ntmps102]) (qab rfl _ _ _ _ ?_)
 simp only [Tryz.ntmps102, Tryz.results102, qaj, List.length_nil]
 simp only [zC, seval]
 refine qaf (Qa3 ths hth) ?_
 obtain ⟨ids, hids⟩ : ∃ ids, ids = qi7 ths := ⟨_, rfl⟩
 have hil : ids.length < 1000000 := by
  have := qtp ths ths.length
  rw [List.take_length] at this
  rw [hids]; omega
 obtain ⟨F, hF⟩ : ∃ F, F = qu6 ths l := ⟨_, rfl⟩
 rw [← hF]
 rw [qu6, ← hids] at hF
 simp only [zC, seval]
 refine qa4 l.length (fun k => [(1, .d (.sl (l.map qa0.toD))), (5, .d (.sl (ids.map (D.int .i64)))), (6, .d (.int .i64 (atU ids l k))), (16, .d (.sl (l.map qa0.toD))), (17, .d (.int .i64 l.length)), (18, .d (.int .i64 k))]) (fun _ => []) (fun k => qa9 (uAt ids l) k = 0) rfl ?_ ?_
 ·refine qad [] [] rfl List.nodup_nil ?_ rfl
  simp only [zC, seval, Int.cast_ofNat_Int, atU, ← hids]
 ·intro k hi hk
  by_cases h : k < l.length
  ·have hb : ∀ e, uAt ids l k = e → e ≠ 0 → F = e := fun e h1 h2 => by
    have := qb8 hi (by rw [h1]; exact h2) h
    rw [hF, this, h1, if_pos h2]
   obtain ⟨b, eb⟩ : ∃ b, b = l.getD k default := ⟨_, rfl⟩
   simp only [zC, seval, (show (k:Int) < l.length by omega), h, qas _ _ _ (show k < l.length by omega), ← eb]
   repeat ((with_reducible refine And.intro ?_ ?_); (focus (first | omega | (simp only [qax]; omega) | (refine qq ?_; rfl) | (refine dq ?_; kernel_rfl) | (intros; simp_all; done))))
   refine qaf (Qi0 ids b.thread hil) ?_
   obtain ⟨i, ei⟩ : ∃ i, i = Qok ids b.thread := ⟨_, rfl⟩
   rw [show qfs (fun y => b.thread == y) ids = i from by rw [ei]; rfl]
   have hi1 := Qfb ids b.thread
   have hi2 : Qok ids b.thread < ids.length := qzr _ _
   rw [← ei] at hi1 hi2
   have hu : uAt ids l k = if i < 0 then 5 else if qlr b.lo b.hi = false then 2 else if qf9 b = false then 1 else if Qoi ids l k = true then 11 else 0 := by rw [uAt, ← eb, ← ei]
   simp only [zC, seval]
   by_cases h1 : i < 0
   ·rw [if_pos h1] at hu
    simp only [zC, seval, (show i < 0 by omega)]
    refine ⟨_, _, qau, ?_, rfl⟩
    rw [hb 5 hu (by omega)]
   ·rw [if_neg h1] at hu
    simp only [zC, seval, (show ¬ i < 0 by omega)]
    refine qaf (qzo _ _) ?_
    cases h2 : qlr b.lo b.hi with
    | false =>
     simp only [zC, seval, Bool.not_false]
     refine ⟨_, _, qau, ?_, rfl⟩
     rw [if_pos h2] at hu
     rw [hb 2 hu (by omega)]
    | true =>
     simp only [zC, seval, Bool.not_true]
     rw [if_neg (by rw [h2]; simp)] at hu
     refine qaf (Qiw _) ?_
     cases h3 : qf9 b with
     | false =>
      simp only [zC, seval, Bool.not_false]
      refine ⟨_, _, qau, ?_, rfl⟩
      rw [if_pos h3] at hu
      rw [hb 1 hu (by omega)]
     | true =>
      simp only [zC, seval, Bool.not_true]
      rw [if_neg (by rw [h3]; simp)] at hu
      have hge := Qmd ids l k
      have hlt := Qmc ids l k
      by_cases h4 : i = atU ids l k
      ·have hk0 : 0 < k := by
        rcases Nat.eq_zero_or_pos k with h0 | h0
        ·subst h0; simp only [atU] at h4; omega
        ·exact h0
       have e1 : IntKind.i64.wrap ((k : Int) - 1) = ((k - 1 : Nat) : Int) := by rw [qbm (by omega) (by omega)]; omega
       obtain ⟨a, ea⟩ : ∃ a, a = l.getD (k - 1) default := ⟨_, rfl⟩
       have e5 : (i == atU ids l k) = true := by simpa using h4
       have e6 : (i != atU ids l k) = false := by simpa using h4
       have ho : Qoi ids l k = (b.lo != a.hi || Qms b a) := by
        unfold Qoi; simp only [← eb, ← ea, ← ei, e5, e6, Bool.true_and, Bool.false_and, Bool.or_false]
       simp only [zC, seval, e5, e1, (show ((k - 1 : Nat) : Int) < l.length by omega), (show k - 1 < l.length by omega), qas _ _ _ (show k - 1 < l.length by omega), ← ea]
       repeat ((with_reducible refine And.intro ?_ ?_); (focus (first | omega | (simp only [qax]; omega) | (refine qq ?_; rfl) | (refine dq ?_; kernel_rfl) | (intros; simp_all; done))))
       refine qbq (fun _ => Qqp _ _) ?_
       simp only [zC, seval]
       repeat ((with_reducible refine And.intro ?_ ?_); (focus (first | omega | (simp only [qax]; omega) | (refine qq ?_; rfl) | (refine dq ?_; kernel_rfl) | (intros; simp_all; done))))
       refine ifC.mk (fun h5 => ?_) (fun h5 => ?_)
       ·refine ⟨_, _, qau, ?_, rfl⟩
        rw [if_pos (by rw [ho]; exact h5)] at hu
        rw [hb 11 hu (by omega)]
       ·rw [if_neg (by rw [ho, h5]; simp)] at hu
        simp only [zC, seval, e6]
        repeat ((with_reducible refine And.intro ?_ ?_); (focus (first | omega | (simp only [qax]; omega) | (refine qq ?_; rfl) | (refine dq ?_; kernel_rfl) | (intros; simp_all; done))))
        refine ⟨qbs hi hu, ?_⟩
        refine qad [] [] rfl List.nodup_nil ?_ rfl
        simp only [zC, seval, @qai ((k:Int) + 1) (by omega), atU, ← eb, ← ei]
      ·have e5 : (i == atU ids l k) = false := by simpa using h4
       have e6 : (i != atU ids l k) = true := by simpa using h4
       have ho : Qoi ids l k = (i != atU ids l k + 1 || b.lo != 0) := by
        unfold Qoi; simp only [← eb, ← ei, e5, e6, Bool.true_and, Bool.false_and, Bool.false_or]
       by_cases hk0 : 0 < k
       ·have e1 : IntKind.i64.wrap ((k : Int) - 1) = ((k - 1 : Nat) : Int) := by rw [qbm (by omega) (by omega)]; omega
        simp only [zC, seval, e5, e1, (show ((k - 1 : Nat) : Int) < l.length by omega), (show k - 1 < l.length by omega), qas _ _ _ (show k - 1 < l.length by omega)]
        repeat ((with_reducible refine And.intro ?_ ?_); (focus (first | omega | (simp only [qax]; omega) | (refine qq ?_; rfl) | (refine dq ?_; kernel_rfl) | (intros; simp_all; done))))
        refine qbq (v := .d (.bool false)) (fun h => by cases h) ?_
        simp only [zC, seval, e6, @qai (atU ids l k + 1) (by omega)]
        repeat ((with_reducible refine And.intro ?_ ?_); (focus (first | omega | (simp only [qax]; omega) | (refine qq ?_; rfl) | (refine dq ?_; kernel_rfl) | (intros; simp_all; done))))
        refine ifC.mk (fun h5 => ?_) (fun h5 => ?_)
        ·refine ⟨_, _, qau, ?_, rfl⟩
         rw [if_pos (by rw [ho]; exact h5)] at hu
         rw [hb 11 hu (by omega)]
        ·rw [if_neg (by rw [ho, h5]; simp)] at hu
         refine ⟨qbs hi hu, ?_⟩
         refine qad [] [] rfl List.nodup_nil ?_ rfl
         simp only [zC, seval, @qai ((k:Int) + 1) (by omega), atU, ← eb, ← ei]
       ·have e0 : (IntKind.i64.wrap ((k : Int) - 1)).toNat = 0 := by rw [qbm (by omega) (by omega)]; omega
        simp only [zC, seval, e5, e0, qas _ _ _ (show 0 < l.length by omega)]
        repeat ((with_reducible refine And.intro ?_ ?_); (focus (first | omega | (simp only [qax]; omega) | (refine qq ?_; rfl) | (refine dq ?_; kernel_rfl) | (intros; simp_all; done))))
        refine qbq (v := .d (.bool false)) (fun h => by cases h) ?_
        simp only [zC, seval, e0, qas _ _ _ (show 0 < l.length by omega)]
        simp only [zC, seval, e6, @qai (atU ids l k + 1) (by omega)]
        repeat ((with_reducible refine And.intro ?_ ?_); (focus (first | omega | (simp only [qax]; omega) | (refine qq ?_; rfl) | (refine dq ?_; kernel_rfl) | (intros; simp_all; done))))
        refine ifC.mk (fun h5 => ?_) (fun h5 => ?_)
        ·refine ⟨_, _, qau, ?_, rfl⟩
         rw [if_pos (by rw [ho]; exact h5)] at hu
         rw [hb 11 hu (by omega)]
        ·rw [if_neg (by rw [ho, h5]; simp)] at hu
         refine ⟨qbs hi hu, ?_⟩
         refine qad [] [] rfl List.nodup_nil ?_ rfl
         simp only [zC, seval, @qai ((k:Int) + 1) (by omega), atU, ← eb, ← ei]
  ·simp only [zC, seval, (show ¬ (k:Int) < l.length by omega)]
   have : k = l.length := by omega
   subst this
   rw [hi, if_neg (by simp)] at hF
   by_cases h0 : l.length = 0
   ·simp only [zC, seval, h0, Int.cast_ofNat_Int]
    refine ⟨_, _, qau, ?_, rfl⟩
    rw [hF, if_pos h0]
   ·rw [if_neg h0] at hF
    have e1 : IntKind.i64.wrap ((l.length : Int) - 1) = ((l.length - 1 : Nat) : Int) := by rw [qbm (by omega) (by omega)]; omega
    simp only [zC, seval, Qg2 (show ¬ ((l.length : Int) = 0) by omega), e1, (show ((l.length - 1 : Nat) : Int) < l.length by omega), (show l.length - 1 < l.length by omega), qas _ _ _ (show l.length - 1 < l.length by omega)]
    repeat ((with_reducible refine And.intro ?_ ?_); (focus (first | omega | (simp only [qax]; omega) | (refine qq ?_; rfl) | (refine dq ?_; kernel_rfl) | (intros; simp_all; done))))
    refine qa4 l.length (fun k => [(1, .d (.sl (l.map qa0.toD))), (5, .d (.sl (ids.map (D.int .i64)))), (6, .d (.int .i64 (atU ids l l.length))), (10, .d (.int .i64 (l.getD (l.length - 1) default).hi)), (94, .d (.sl (l.map qa0.toD))), (95, .d (.int .i64 l.length)), (96, .d (.int .i64 k))]) (fun _ => []) (fun k => (List.range k).all (q5r l) = true) rfl ?_ ?_
    ·refine qad [] [] rfl List.nodup_nil ?_ rfl
     simp only [zC, seval, Int.cast_ofNat_Int]
    ·intro k hj hk
     by_cases h : k < l.length
     ·obtain ⟨b, eb⟩ : ∃ b, b = l.getD k default := ⟨_, rfl⟩
      have hbad : q5r l k = false → F = 11 := fun h1 => by rw [hF, if_pos (qep h h1)]
      by_cases hL : k + 1 = l.length
      ·have eL : ((k:Int) + 1 == (l.length : Int)) = true := Qmf (show (k:Int) + 1 = l.length by omega)
       have hat : q5r l k = !(b.hi != (l.getD (l.length - 1) default).hi) := by unfold q5r; rw [eL, ← eb]; simp
       simp only [zC, seval, (show (k:Int) < l.length by omega), h, qas _ _ _ (show k < l.length by omega), ← eb, @qai ((k:Int) + 1) (by omega), eL]
       repeat ((with_reducible refine And.intro ?_ ?_); (focus (first | omega | (simp only [qax]; omega) | (refine qq ?_; rfl) | (refine dq ?_; kernel_rfl) | (intros; simp_all; done))))
       refine ifC.mk (fun h5 => ?_) (fun h5 => ?_)
       ·refine ⟨_, _, qau, ?_, rfl⟩
        rw [hbad (by rw [hat, h5]; rfl)]
       ·refine ⟨by rw [qff, hj, hat, h5]; rfl, ?_⟩
        refine qad [] [] rfl List.nodup_nil ?_ rfl
        simp only [zC, seval, @qai ((k:Int) + 1) (by omega)]
      ·have eL : ((k:Int) + 1 == (l.length : Int)) = false := Qg2 (show ¬ ((k:Int) + 1 = l.length) by omega)
       have hat : q5r l k = !((l.getD (k + 1) default).thread != b.thread && b.hi != (l.getD (l.length - 1) default).hi) := by unfold q5r; rw [eL, ← eb, Bool.false_or]
       have e3 : ((k:Int) + 1).toNat = k + 1 := by omega
       simp only [zC, seval, (show (k:Int) < l.length by omega), h, qas _ _ _ (show k < l.length by omega), ← eb, @qai ((k:Int) + 1) (by omega), eL, e3, (show (0:Int) ≤ (k:Int) + 1 by omega), (show (k:Int) + 1 < l.length by omega), (show k + 1 < l.length by omega), qas _ _ _ (show k + 1 < l.length by omega)]
       repeat ((with_reducible refine And.intro ?_ ?_); (focus (first | omega | (simp only [qax]; omega) | (refine qq ?_; rfl) | (refine dq ?_; kernel_rfl) | (intros; simp_all; done))))
       refine ifC.mk (fun h5 => ?_) (fun h5 => ?_)
       ·refine ⟨_, _, qau, ?_, rfl⟩
        rw [hbad (by rw [hat, h5]; rfl)]
       ·refine ⟨by rw [qff, hj, hat, h5]; rfl, ?_⟩
        refine qad [] [] rfl List.nodup_nil ?_ rfl
        simp only [zC, seval, @qai ((k:Int) + 1) (by omega)]
     ·simp only [zC, seval, (show ¬ (k:Int) < l.length by omega)]
      have : k = l.length := by omega
      subst this
      rw [if_neg (by rw [hj]; simp)] at hF
      have hge := Qmd ids l l.length
      have hlt := Qmc ids l l.length
      simp only [zC, seval, @qai (atU ids l l.length + 1) (by omega)]
      refine ifC.mk (fun h5 => ?_) (fun h5 => ?_)
      ·refine ⟨_, _, qau, ?_, rfl⟩
       rw [hF, if_neg (by simpa using h5)]
      ·refine ⟨_, _, qau, ?_, rfl⟩
       rw [hF, if_pos (by simpa using h5)]

def qmf (t : qa5) : Int := if qdu t.threads ≠ 0 then qdu t.threads else
 if qcs (qm6 t.slices) (quj t.threads) (fun x => x.thread) t.slices ≠ 0 then qcs (qm6 t.slices) (quj t.threads) (fun x => x.thread) t.slices else
 if qu6 t.threads t.states ≠ 0 then qu6 t.threads t.states else
 if qcs (qcs (q5n t.flows) (quj t.threads) (fun x => x.ft) t.flows) (quj t.threads) (fun x => x.tt) t.flows ≠ 0 then qcs (qcs (q5n t.flows) (quj t.threads) (fun x => x.ft) t.flows) (quj t.threads) (fun x => x.tt) t.flows else
 if qcs (qj1 t.samples) (quj t.threads) (fun x => x.thread) t.samples ≠ 0 then qcs (qj1 t.samples) (quj t.threads) (fun x => x.thread) t.samples else
 if q4g t.steps ≠ 0 then q4g t.steps else
 if qcs (bkF t.blocks) (quj t.threads) (fun x => x.thread) t.blocks ≠ 0 then qcs (bkF t.blocks) (quj t.threads) (fun x => x.thread) t.blocks else Qd3 (quj t.threads) t.lost
theorem qzj (t : qa5) (ht : t.Few) (h : qdu t.threads ≠ 0) : qbg Tryz.prog Gl 98 [.d t.toD] (.tup [.d (.raw (.map none)), .d (.int .i64 (qdu t.threads))]) := by
 refine qbg.of1t2 ((q3c t ht).mono fun r s hr => ?_)
 rw [if_neg h] at hr
 exact hr
theorem q3b (t : qa5) (ht : t.Few) (h : qdu t.threads = 0) (σ : Sto) : qag Tryz.prog Gl 98 [.d t.toD] σ (fun r s => r = .tup [.mapr σ.length, .d (.int .i64 0)] ∧ s = σ ++ [.map (some .i64) (mapOf t.threads)]) := by
 refine (Qfq (P := Tryz.prog) (Gl := Gl) (f := 98) (args := [t.toD]) (B := .map (some .i64) (mapOf t.threads)) (r := .tup [.mapr 0, .d (.int .i64 0)]) (qfz _) ((q3c t ht).mono fun r s hr => ?_) σ).mono fun r s hr => ?_
 ·rw [if_pos h] at hr
  exact hr
 ·obtain ⟨rfl, rfl⟩ := hr
  exact ⟨rfl, rfl⟩
theorem Qii (t : qa5) (ht : t.Few) : qbg Tryz.prog Gl 53 [.d t.toD] (.d (.int .i64 (qmf t))) := by
 refine qbg.of1 ?_
 obtain ⟨F, hF⟩ : ∃ F, F = qmf t := ⟨_, rfl⟩
 rw [← hF]
 rw [qmf] at hF
 have hst := qfz t.threads
 have hf := qov t.threads
 refine qac Tryz.func53 rfl rfl (by simp [Tryz.ntmps53]) (qab rfl _ _ _ _ ?_)
 simp only [Tryz.ntmps53, Tryz.results53, qaj, List.length_nil]
 simp only [zC, seval]
 by_cases hT : qdu t.threads = 0
 ·rw [if_neg (by rw [hT]; simp)] at hF
  refine qaq ((q3b t ht hT _).mono fun r s hr => ?_)
  obtain ⟨rfl, rfl⟩ := hr
  simp only [zC, seval]
  repeat ((with_reducible refine And.intro ?_ ?_); (focus (first | omega | (simp only [qax]; omega) | (refine qq ?_; rfl) | (refine dq ?_; kernel_rfl) | (intros; simp_all; done))))
  refine qaf (q3e _ ht.slices) ?_
  simp only [zC, seval]
  refine qdn 1 (q3h _ _ Qeg _ _ _ hst hf _ ht.slices) (fun s => rfl) (by rfl) hst ?_
  simp only [zC, seval]
  repeat ((with_reducible refine And.intro ?_ ?_); (focus (first | omega | (simp only [qax]; omega) | (refine qq ?_; rfl) | (refine dq ?_; kernel_rfl) | (intros; simp_all; done))))
  refine ifC.mk (fun h1 => ?_) (fun h1 => ?_)
  ·have h1 := bne_iff_ne.1 h1
   refine ⟨_, _, qau, ?_, rfl⟩
   rw [hF, if_pos h1]
  ·have h1 : qcs (qm6 t.slices) (quj t.threads) (fun x => x.thread) t.slices = 0 := by simpa using h1
   rw [if_neg (by rw [h1]; simp)] at hF
   repeat ((with_reducible refine And.intro ?_ ?_); (focus (first | omega | (simp only [qax]; omega) | (refine qq ?_; rfl) | (refine dq ?_; kernel_rfl) | (intros; simp_all; done))))
   refine qaf (q3d _ ht.threads _ ht.states) ?_
   simp only [zC, seval]
   refine ifC.mk (fun h2 => ?_) (fun h2 => ?_)
   ·have h2 := bne_iff_ne.1 h2
    refine ⟨_, _, qau, ?_, rfl⟩
    rw [hF, if_pos h2]
   ·have h2 : qu6 t.threads t.states = 0 := by simpa using h2
    rw [if_neg (by rw [h2]; simp)] at hF
    repeat ((with_reducible refine And.intro ?_ ?_); (focus (first | omega | (simp only [qax]; omega) | (refine qq ?_; rfl) | (refine dq ?_; kernel_rfl) | (intros; simp_all; done))))
    refine qaf (q47 _ ht.flows) ?_
    simp only [zC, seval]
    refine qdn 1 (qs3 _ _ Qef _ _ _ hst hf _ ht.flows) (fun s => rfl) (by rfl) hst ?_
    simp only [zC, seval]
    repeat ((with_reducible refine And.intro ?_ ?_); (focus (first | omega | (simp only [qax]; omega) | (refine qq ?_; rfl) | (refine dq ?_; kernel_rfl) | (intros; simp_all; done))))
    refine qdn 1 (qs3 _ _ Qee _ _ _ hst hf _ ht.flows) (fun s => rfl) (by rfl) hst ?_
    simp only [zC, seval]
    repeat ((with_reducible refine And.intro ?_ ?_); (focus (first | omega | (simp only [qax]; omega) | (refine qq ?_; rfl) | (refine dq ?_; kernel_rfl) | (intros; simp_all; done))))
    refine ifC.mk (fun h3 => ?_) (fun h3 => ?_)
    ·have h3 := bne_iff_ne.1 h3
     refine ⟨_, _, qau, ?_, rfl⟩
     rw [hF, if_pos h3]
    ·have h3 : qcs (qcs (q5n t.flows) (quj t.threads) (fun x => x.ft) t.flows) (quj t.threads) (fun x => x.tt) t.flows = 0 := by simpa using h3
     rw [if_neg (by rw [h3]; simp)] at hF
     repeat ((with_reducible refine And.intro ?_ ?_); (focus (first | omega | (simp only [qax]; omega) | (refine qq ?_; rfl) | (refine dq ?_; kernel_rfl) | (intros; simp_all; done))))
     refine qaf (qzk _ ht.sst ht.samples) ?_
     simp only [zC, seval]
     refine qdn 1 (qzl _ _ Qed _ _ _ hst hf _ ht.samples) (fun s => rfl) (by rfl) hst ?_
     simp only [zC, seval]
     repeat ((with_reducible refine And.intro ?_ ?_); (focus (first | omega | (simp only [qax]; omega) | (refine qq ?_; rfl) | (refine dq ?_; kernel_rfl) | (intros; simp_all; done))))
     refine ifC.mk (fun h4 => ?_) (fun h4 => ?_)
     ·have h4 := bne_iff_ne.1 h4
      refine ⟨_, _, qau, ?_, rfl⟩
      rw [hF, if_pos h4]
     ·have h4 : qcs (qj1 t.samples) (quj t.threads) (fun x => x.thread) t.samples = 0 := by simpa using h4
      rw [if_neg (by rw [h4]; simp)] at hF
      repeat ((with_reducible refine And.intro ?_ ?_); (focus (first | omega | (simp only [qax]; omega) | (refine qq ?_; rfl) | (refine dq ?_; kernel_rfl) | (intros; simp_all; done))))
      refine qaf (q43 _ ht.steps) ?_
      simp only [zC, seval]
      refine ifC.mk (fun h5 => ?_) (fun h5 => ?_)
      ·have h5 := bne_iff_ne.1 h5
       refine ⟨_, _, qau, ?_, rfl⟩
       rw [hF, if_pos h5]
      ·have h5 : q4g t.steps = 0 := by simpa using h5
       rw [if_neg (by rw [h5]; simp)] at hF
       repeat ((with_reducible refine And.intro ?_ ?_); (focus (first | omega | (simp only [qax]; omega) | (refine qq ?_; rfl) | (refine dq ?_; kernel_rfl) | (intros; simp_all; done))))
       refine qaf (Qe0 _ ht.bst ht.blocks) ?_
       simp only [zC, seval]
       refine qdn 1 (q3i _ _ Qec _ _ _ hst hf _ ht.blocks) (fun s => rfl) (by rfl) hst ?_
       simp only [zC, seval]
       repeat ((with_reducible refine And.intro ?_ ?_); (focus (first | omega | (simp only [qax]; omega) | (refine qq ?_; rfl) | (refine dq ?_; kernel_rfl) | (intros; simp_all; done))))
       refine ifC.mk (fun h6 => ?_) (fun h6 => ?_)
       ·have h6 := bne_iff_ne.1 h6
        refine ⟨_, _, qau, ?_, rfl⟩
        rw [hF, if_pos h6]
       ·have h6 : qcs (bkF t.blocks) (quj t.threads) (fun x => x.thread) t.blocks = 0 := by simpa using h6
        rw [if_neg (by rw [h6]; simp)] at hF
        repeat ((with_reducible refine And.intro ?_ ?_); (focus (first | omega | (simp only [qax]; omega) | (refine qq ?_; rfl) | (refine dq ?_; kernel_rfl) | (intros; simp_all; done))))
        refine qdn 1 (Qis _ _ hst hf _ ht.lost) (fun s => rfl) (by rfl) hst ?_
        simp only [zC, seval]
        repeat ((with_reducible refine And.intro ?_ ?_); (focus (first | omega | (simp only [qax]; omega) | (refine qq ?_; rfl) | (refine dq ?_; kernel_rfl) | (intros; simp_all; done))))
        refine ⟨_, _, qau, ?_, rfl⟩
        rw [hF]
 ·rw [if_pos hT] at hF
  refine qaf (qzj t ht hT) ?_
  simp only [zC, seval]
  repeat ((with_reducible refine And.intro ?_ ?_); (focus (first | omega | (simp only [qax]; omega) | (refine qq ?_; rfl) | (refine dq ?_; kernel_rfl) | (intros; simp_all; done))))
  refine ifC.mk (fun h1 => ?_) (fun h1 => ?_)
  ·refine ⟨_, _, qau, ?_, rfl⟩
   rw [hF]
  ·exact absurd (by simpa using h1) hT
def qkh (t : qa5) : Int := if qmf t ≠ 0 then qmf t else if (decide (t.lo < 0) || decide (t.hi < t.lo) || decide (1000000000000 < t.hi)) = true then 2 else if q8v t = true then 10 else 0
theorem q3a (t : qa5) (ht : t.Few) : qbg Tryz.prog Gl 25 [.d t.toD] (.d (.int .i64 (qkh t))) := by
 refine qbg.of1 ?_
 obtain ⟨F, hF⟩ : ∃ F, F = qkh t := ⟨_, rfl⟩
 rw [← hF]
 rw [qkh] at hF
 refine qac Tryz.func25 rfl rfl (by simp [Tryz.ntmps25]) (qab rfl _ _ _ _ ?_)
 simp only [Tryz.ntmps25, Tryz.results25, qaj, List.length_nil]
 simp only [zC, seval]
 refine qaf (Qii t ht) ?_
 simp only [zC, seval]
 refine ifC.mk (fun h1 => ?_) (fun h1 => ?_)
 ·have h1 := bne_iff_ne.1 h1
  refine ⟨_, _, qau, ?_, rfl⟩
  rw [hF, if_pos h1]
 ·have h1 : qmf t = 0 := by simpa using h1
  rw [if_neg (by rw [h1]; simp)] at hF
  repeat ((with_reducible refine And.intro ?_ ?_); (focus (first | omega | (simp only [qax]; omega) | (refine qq ?_; rfl) | (refine dq ?_; kernel_rfl) | (intros; simp_all; done))))
  refine ifC.mk (fun h2 => ?_) (fun h2 => ?_)
  ·refine ⟨_, _, qau, ?_, rfl⟩
   rw [hF, if_pos h2]
  ·rw [if_neg (by rw [h2]; simp)] at hF
   refine qaf (Qej t ht) ?_
   simp only [zC, seval]
   refine ifC.mk (fun h3 => ?_) (fun h3 => ?_)
   ·refine ⟨_, _, qau, ?_, rfl⟩
    rw [hF, if_pos h3]
   ·refine ⟨_, _, qau, ?_, rfl⟩
    rw [hF, if_neg (by rw [h3]; simp)]

theorem zU : type_of% (And.intro @zC (And.intro @qpl @qpm)) := And.intro @zC (And.intro @qpl @qpm)
def eqS (x : List UInt8) : List UInt8 → Bool := fun y => y == x
theorem Qm8 (xs : List (List UInt8)) (x : List UInt8) (hl : xs.length < 2000000) (B : Blk) (hB : qdo 1 (xs.map .str) B) : qag Tryz.prog Gl 62 [.osl 0 0 xs.length, .d (.str x)] [B] (fun r s => r = .d (.int .i64 (qfs (eqS x) xs)) ∧ s = [B]) := by
 rcases hB with rfl | rfl
 ·refine qac Tryz.func62 rfl rfl (by simp [Tryz.ntmps62]) (qab rfl _ _ _ _ ?_)
  simp only [Tryz.ntmps62, Tryz.results62, qaj, List.length_nil]
  simp only [zU, seval]
  refine qa4 xs.length (fun k => [(0, .osl 0 0 xs.length), (1, .d (.str x)), (5, .d (.int .i64 k))]) (fun _ => [.arr 1 (xs.map .str)]) (fun k => (xs.take k).any (eqS x) = false) rfl ?_ ?_
  ·refine qad [] [0] rfl (by simp) ?_ rfl
   simp only [zU, seval]
   all_goals rfl
  ·intro k hi hk
   by_cases h : k < xs.length
   ·have hs := qcv (eqS x) xs k h
    simp only [zU, seval, (show (k:Int) < xs.length by omega), h, qas _ _ _ (show k < xs.length by omega)]
    repeat ((with_reducible refine And.intro ?_ ?_); (focus (first | omega | (simp only [qax]; omega) | (refine qq ?_; rfl) | (refine dq ?_; kernel_rfl) | (intros; simp_all; done))))
    refine ifC.mk (fun hc => ?_) (fun hc => ?_)
    ·refine ⟨_, _, qae [] [0] rfl (by simp) (show qbf _ _ _ = AV.d _ from rfl) rfl, ?_, rfl⟩
     rw [qei h hi hc]
    ·refine ⟨by rw [hs, hi, show eqS x (xs.getD k default) = false from hc]; rfl, ?_⟩
     refine qad [] [0] rfl (by simp) ?_ rfl
     simp only [zU, seval, @qai ((k:Int) + 1) (by omega)]
     all_goals rfl
   ·simp only [zU, seval, (show ¬ (k:Int) < xs.length by omega)]
    have : k = xs.length := by omega
    subst this
    rw [List.take_length] at hi
    refine ⟨_, _, qae [] [0] rfl (by simp) (show qbf _ _ _ = AV.d _ from rfl) rfl, ?_, rfl⟩
    rw [qda hi]
 ·refine qac Tryz.func62 rfl rfl (by simp [Tryz.ntmps62]) (qab rfl _ _ _ _ ?_)
  simp only [Tryz.ntmps62, Tryz.results62, qaj, List.length_nil]
  simp only [zU, seval]
  refine qa4 xs.length (fun k => [(0, .osl 0 0 xs.length), (1, .d (.str x)), (5, .d (.int .i64 k))]) (fun _ => [.frz 1 (xs.map .str)]) (fun k => (xs.take k).any (eqS x) = false) rfl ?_ ?_
  ·refine qad [] [0] rfl (by simp) ?_ rfl
   simp only [zU, seval]
   all_goals rfl
  ·intro k hi hk
   by_cases h : k < xs.length
   ·have hs := qcv (eqS x) xs k h
    simp only [zU, seval, (show (k:Int) < xs.length by omega), h, qas _ _ _ (show k < xs.length by omega)]
    repeat ((with_reducible refine And.intro ?_ ?_); (focus (first | omega | (simp only [qax]; omega) | (refine qq ?_; rfl) | (refine dq ?_; kernel_rfl) | (intros; simp_all; done))))
    refine ifC.mk (fun hc => ?_) (fun hc => ?_)
    ·refine ⟨_, _, qae [] [0] rfl (by simp) (show qbf _ _ _ = AV.d _ from rfl) rfl, ?_, rfl⟩
     rw [qei h hi hc]
    ·refine ⟨by rw [hs, hi, show eqS x (xs.getD k default) = false from hc]; rfl, ?_⟩
     refine qad [] [0] rfl (by simp) ?_ rfl
     simp only [zU, seval, @qai ((k:Int) + 1) (by omega)]
     all_goals rfl
   ·simp only [zU, seval, (show ¬ (k:Int) < xs.length by omega)]
    have : k = xs.length := by omega
    subst this
    rw [List.take_length] at hi
    refine ⟨_, _, qae [] [0] rfl (by simp) (show qbf _ _ _ = AV.d _ from rfl) rfl, ?_, rfl⟩
    rw [qda hi]
theorem Qik (xs : List (List UInt8)) (x : List UInt8) (hl : xs.length < 1000000) : qbg Tryz.prog Gl 62 [.d (.sl (xs.map .str)), .d (.str x)] (.d (.int .i64 (qfs (eqS x) xs))) := by
 refine qbg.of2 ?_
 refine qac Tryz.func62 rfl rfl (by simp [Tryz.ntmps62]) (qab rfl _ _ _ _ ?_)
 simp only [Tryz.ntmps62, Tryz.results62, qaj, List.length_nil]
 simp only [zU, seval]
 refine qa4 xs.length (fun k => [(0, .d (.sl (xs.map .str))), (1, .d (.str x)), (5, .d (.int .i64 k))]) (fun _ => []) (fun k => (xs.take k).any (eqS x) = false) rfl ?_ ?_
 ·refine qad [] [] rfl List.nodup_nil ?_ rfl
  simp only [zU, seval]
  all_goals rfl
 ·intro k hi hk
  by_cases h : k < xs.length
  ·have hs := qcv (eqS x) xs k h
   simp only [zU, seval, (show (k:Int) < xs.length by omega), h, qas _ _ _ (show k < xs.length by omega)]
   repeat ((with_reducible refine And.intro ?_ ?_); (focus (first | omega | (simp only [qax]; omega) | (refine qq ?_; rfl) | (refine dq ?_; kernel_rfl) | (intros; simp_all; done))))
   refine ifC.mk (fun hc => ?_) (fun hc => ?_)
   ·refine ⟨_, _, qau, ?_, rfl⟩
    rw [qei h hi hc]
   ·refine ⟨by rw [hs, hi, show eqS x (xs.getD k default) = false from hc]; rfl, ?_⟩
    refine qad [] [] rfl List.nodup_nil ?_ rfl
    simp only [zU, seval, @qai ((k:Int) + 1) (by omega)]
    all_goals rfl
  ·simp only [zU, seval, (show ¬ (k:Int) < xs.length by omega)]
   have : k = xs.length := by omega
   subst this
   rw [List.take_length] at hi
   refine ⟨_, _, qau, ?_, rfl⟩
   rw [qda hi]
theorem Qi3 {α : Type} (p : α → Bool) (l : List α) : decide (qfs p l < 0) = !l.any p := by
 rw [← qdm]
 cases h : decide (0 ≤ qfs p l) <;> simp at h ⊢ <;> omega
def hid (l : List qap) (what x : List UInt8) : Bool := qt4 what x l == Qae
def qd9 (l : List qap) (what : List UInt8) (out : List (List UInt8)) (x : List UInt8) : List (List UInt8) := if (hid l what x && !out.any (eqS x)) = true then out ++ [x] else out
def qhs (l : List qap) (what : List UInt8) (s : List (List UInt8)) : List (List UInt8) := s.foldl (qd9 l what) []
theorem qyf {α β : Type} [Inhabited α] (f : β → α → β) (b : β) (l : List α) (k : Nat) (h : k < l.length) : (l.take (k + 1)).foldl f b = f ((l.take k).foldl f b) (l.getD k default) := by
 rw [qay l k h, List.foldl_append]; rfl
theorem q60 (l : List qap) (what : List UInt8) : ∀ (s out : List (List UInt8)), (s.foldl (qd9 l what) out).length ≤ out.length + s.length
 | [], out => by simp
 | x :: s, out => by
  have := q60 l what s (qd9 l what out x)
  have h2 : (qd9 l what out x).length ≤ out.length + 1 := by
   unfold qd9; split <;> simp
  simp only [List.foldl_cons, List.length_cons]; omega
theorem q4j (l : List qap) (what : List UInt8) (s : List (List UInt8)) : (qhs l what s).length ≤ s.length := by
 have := q60 l what s []
 simpa [qhs] using this
theorem q3f (l : List qap) (what : List UInt8) (s : List (List UInt8)) (hl : l.length < 1000000) (hs : s.length < 1000000) : qbg Tryz.prog Gl 39 [.d (.sl (l.map qap.toD)), .d (.str what), .d (.sl (s.map .str))] (.d (.sl ((qhs l what s).map .str))) := by
 refine qbg.of3 ?_
 refine qac Tryz.func39 rfl rfl (by simp [Tryz.ntmps39]) (qab rfl _ _ _ _ ?_)
 simp only [Tryz.ntmps39, Tryz.results39, qaj, List.length_nil]
 simp only [zU, seval]
 refine qa4 s.length (fun k => [(0, .d (.sl (l.map qap.toD))), (1, .d (.str what)), (2, .d (.sl (s.map .str))), (7, .osl 0 0 (qhs l what (s.take k)).length), (8, .d (.int .i64 k))]) (fun k => [.arr 1 ((qhs l what (s.take k)).map .str)]) (fun _ => True) trivial ?_ ?_
 ·refine (qe9 7 1 rfl).trans ?_
  refine qad [] [0] rfl (by simp) ?_ rfl
  simp only [zU, seval]
  all_goals rfl
 ·intro k _ hk
  have hyl := q4j l what (s.take k)
  rw [List.length_take] at hyl
  by_cases h : k < s.length
  ·have hst : qhs l what (s.take (k + 1)) = qd9 l what (qhs l what (s.take k)) (s.getD k default) := qyf _ _ _ _ h
   obtain ⟨ys, hys⟩ : ∃ ys, ys = qhs l what (s.take k) := ⟨_, rfl⟩
   obtain ⟨x, hx⟩ : ∃ x, x = s.getD k default := ⟨_, rfl⟩
   rw [← hys] at hst hyl ⊢
   rw [← hx] at hst
   simp only [zU, seval, (show (k:Int) < s.length by omega), h, qas _ _ _ (show k < s.length by omega)]
   repeat ((with_reducible refine And.intro ?_ ?_); (focus (first | omega | (simp only [qax]; omega) | (refine qq ?_; rfl) | (refine dq ?_; kernel_rfl) | (intros; simp_all; done))))
   refine qaf (qs4 l what _ hl) ?_
   simp only [zU, seval, (show (k:Int) < s.length by omega), h, qas _ _ _ (show k < s.length by omega)]
   repeat ((with_reducible refine And.intro ?_ ?_); (focus (first | omega | (simp only [qax]; omega) | (refine qq ?_; rfl) | (refine dq ?_; kernel_rfl) | (intros; simp_all; done))))
   refine q34 0 (fun B hB => Qm8 ys _ (by omega) B hB) (fun _ => rfl) (by rfl) ?_
   simp only [zU, seval, Qi3]
   repeat ((with_reducible refine And.intro ?_ ?_); (focus (first | omega | (simp only [qax]; omega) | (refine qq ?_; rfl) | (refine dq ?_; kernel_rfl) | (intros; simp_all; done))))
   refine ifC.mk (fun hc => ?_) (fun hc => ?_)
   ·have hc : (hid l what x && !ys.any (eqS x)) = true := by rw [hx]; exact hc
    rw [qd9, if_pos hc] at hst
    simp only [zU, seval, qa6, (show (k:Int) < s.length by omega), h, qas _ _ _ (show k < s.length by omega)]
    repeat ((with_reducible refine And.intro ?_ ?_); (focus (first | omega | (simp only [qax]; omega) | (refine qq ?_; rfl) | (refine dq ?_; kernel_rfl) | (intros; simp_all; done))))
    rw [hst]
    refine qad [] [2] rfl (by simp) ?_ ?_
    ·simp only [zU, seval, @qai ((k:Int) + 1) (by omega)]
     all_goals rfl
    ·rw [List.map_append, ← hx]; rfl
   ·have hc : (hid l what x && !ys.any (eqS x)) = false := by rw [hx]; exact hc
    rw [qd9, if_neg (by rw [hc]; simp)] at hst
    rw [hst]
    refine qad [] [0] rfl (by simp) ?_ rfl
    simp only [zU, seval, @qai ((k:Int) + 1) (by omega)]
    all_goals rfl
  ·have : k = s.length := by omega
   subst this
   simp only [zU, seval, (show ¬ (s.length:Int) < s.length by omega), List.take_length]
   refine ⟨_, _, qy5 rfl ?_, rfl, rfl⟩
   simp only [zU, seval, qa6]
def qdf (l : List qap) (what x : List UInt8) : Bool := (qt4 what x l == qht) && qz4 x qev
def qeq (l : List qap) (what : List UInt8) (s : List (List UInt8)) : Bool := !(qhs l what s).isEmpty && s.any (qdf l what)
theorem Qa5 (l : List qap) (what : List UInt8) (s : List (List UInt8)) (hl : l.length < 1000000) (hs : s.length < 1000000) : qbg Tryz.prog Gl 38 [.d (.sl (l.map qap.toD)), .d (.str what), .d (.sl (s.map .str))] (.d (.bool (qeq l what s))) := by
 refine qbg.of3 ?_
 refine qac Tryz.func38 rfl rfl (by simp [Tryz.ntmps38]) (qab rfl _ _ _ _ ?_)
 simp only [Tryz.ntmps38, Tryz.results38, qaj, List.length_nil]
 simp only [zU, seval]
 refine qaf (q3f l what s hl hs) ?_
 simp only [zU, seval]
 repeat ((with_reducible refine And.intro ?_ ?_); (focus (first | omega | (simp only [qax]; omega) | (refine qq ?_; rfl) | (refine dq ?_; kernel_rfl) | (intros; simp_all; done))))
 refine ifC.mk (fun h0 => ?_) (fun h0 => ?_)
 ·have h0 : qhs l what s = [] := by simpa using h0
  refine ⟨_, _, qau, ?_, rfl⟩
  rw [qeq, h0]; rfl
 have h0 : (qhs l what s).isEmpty = false := by
  cases e : qhs l what s with
  | nil => rw [e] at h0; simp at h0
  | cons a b => rfl
 refine qa4 s.length (fun k => [(0, .d (.sl (l.map qap.toD))), (1, .d (.str what)), (2, .d (.sl (s.map .str))), (7, .d (.int .i64 k))]) (fun _ => []) (fun k => (s.take k).any (qdf l what) = false) rfl ?_ ?_
 ·refine qad [] [] rfl List.nodup_nil ?_ rfl
  simp only [zU, seval]
  all_goals rfl
 ·intro k hi hk
  by_cases h : k < s.length
  ·have hs := qcv (qdf l what) s k h
   rw [hi, Bool.false_or] at hs
   simp only [zU, seval, (show (k:Int) < s.length by omega), h, qas _ _ _ (show k < s.length by omega)]
   repeat ((with_reducible refine And.intro ?_ ?_); (focus (first | omega | (simp only [qax]; omega) | (refine qq ?_; rfl) | (refine dq ?_; kernel_rfl) | (intros; simp_all; done))))
   refine qaf (qs4 l what _ hl) ?_
   simp only [zU, seval, (show (k:Int) < s.length by omega), h, qas _ _ _ (show k < s.length by omega)]
   repeat ((with_reducible refine And.intro ?_ ?_); (focus (first | omega | (simp only [qax]; omega) | (refine qq ?_; rfl) | (refine dq ?_; kernel_rfl) | (intros; simp_all; done))))
   refine qbq (fun _ => q85 _ _) ?_
   simp only [zU, seval]
   repeat ((with_reducible refine And.intro ?_ ?_); (focus (first | omega | (simp only [qax]; omega) | (refine qq ?_; rfl) | (refine dq ?_; kernel_rfl) | (intros; simp_all; done))))
   refine ifC.mk (fun hc => ?_) (fun hc => ?_)
   ·refine ⟨_, _, qau, ?_, rfl⟩
    rw [qeq, h0, Qme (qdf l what) s k h hc]; rfl
   ·refine ⟨by rw [hs]; exact hc, ?_⟩
    refine qad [] [] rfl List.nodup_nil ?_ rfl
    simp only [zU, seval, @qai ((k:Int) + 1) (by omega)]
    all_goals rfl
  ·simp only [zU, seval, (show ¬ (k:Int) < s.length by omega)]
   have : k = s.length := by omega
   subst this
   rw [List.take_length] at hi
   refine ⟨_, _, qau, ?_, rfl⟩
   rw [qeq, hi, Bool.and_false]
theorem qzx {n : Nat} (h : n < 10000000) : (Lib.decDigits n).length ≤ 7 := by
 rw [Lib.decDigits_length]
 rw [Lib.nDigits]; split
 ·omega
 rw [Lib.nDigits]; split
 ·omega
 rw [Lib.nDigits]; split
 ·omega
 rw [Lib.nDigits]; split
 ·omega
 rw [Lib.nDigits]; split
 ·omega
 rw [Lib.nDigits]; split
 ·omega
 rw [Lib.nDigits]; split
 ·omega
 exfalso; omega
theorem Qsw {n : Nat} (h : n < 10) : ((([48, 49, 50, 51, 52, 53, 54, 55, 56, 57] : List UInt8).drop n).take 1) = Lib.decDigits n := by
 rw [Lib.decDigits_one h]; revert n; decide +kernel
theorem Qix : ∀ (n : Nat), n < 10000000 → qbg Tryz.prog Gl 63 [.d (.int .i64 n)] (.d (.str (Lib.decDigits n))) := by
 intro n
 induction n using Nat.strongRecOn with
 | _ n ih =>
 intro hn
 refine qbg.of1 ?_
 refine qac Tryz.func63 rfl rfl (by simp [Tryz.ntmps63]) (qab rfl _ _ _ _ ?_)
 simp only [Tryz.ntmps63, Tryz.results63, qaj, List.length_nil]
 simp only [zU, seval]
 by_cases h : n < 10
 ·simp only [zU, seval, (show (n:Int) < 10 by omega), @qai ((n:Int) + 1) (by omega)]
  repeat ((with_reducible refine And.intro ?_ ?_); (focus (first | omega | (simp only [qax]; omega) | (refine qq ?_; rfl) | (refine dq ?_; kernel_rfl) | (intros; simp_all; done))))
  refine ⟨_, _, qau, ?_, rfl⟩
  congr 2
  rw [← Qsw h, show ((n : Int) + 1).toNat = n + 1 by omega]
  clear ih hn
  revert n
  decide +kernel
 ·simp only [zU, seval, (show ¬ (n:Int) < 10 by omega)]
  have e1 : ((n : Int).tdiv 10) = ((n / 10 : Nat) : Int) := rfl
  have e2 : ((n : Int).tmod 10) = ((n % 10 : Nat) : Int) := rfl
  (try simp only [zU, seval, e1, e2, @qai (((n / 10 : Nat) : Int)) (by omega), @qai (((n % 10 : Nat) : Int)) (by omega)])
  repeat ((with_reducible refine And.intro ?_ ?_); (focus (first | omega | (simp only [qax]; omega) | (refine qq ?_; rfl) | (refine dq ?_; kernel_rfl) | (intros; simp_all; done))))
  refine qaf (ih (n / 10) (by omega) (by omega)) ?_
  simp only [zU, seval, e1, e2, @qai (((n / 10 : Nat) : Int)) (by omega), @qai (((n % 10 : Nat) : Int)) (by omega)]
  repeat ((with_reducible refine And.intro ?_ ?_); (focus (first | omega | (simp only [qax]; omega) | (refine qq ?_; rfl) | (refine dq ?_; kernel_rfl) | (intros; simp_all; done))))
  refine qaf (ih (n % 10) (by omega) (by omega)) ?_
  have := qzx (n := n / 10) (by omega)
  have := qzx (n := n % 10) (by omega)
  simp only [zU, seval]
  repeat ((with_reducible refine And.intro ?_ ?_); (focus (first | omega | (simp only [qax]; omega) | (refine qq ?_; rfl) | (refine dq ?_; kernel_rfl) | (intros; simp_all; done))))
  refine ⟨_, _, qau, ?_, rfl⟩
  have e3 : Lib.decDigits n = Lib.decDigits (n / 10) ++ Lib.decDigits (n % 10) := by
   rw [Lib.decDigits, dif_neg h, Lib.decDigits_one (show n % 10 < 10 by omega)]
  rw [e3]
def q4m (H : List (List UInt8)) (x : List UInt8) : List UInt8 := if qfs (eqS x) H < 0 then x else qev ++ Lib.decDigits (qfs (eqS x) H + 1).toNat
theorem Qei (H : List (List UInt8)) (x : List UInt8) (hl : H.length < 1000000) : qbg Tryz.prog Gl 40 [.d (.sl (H.map .str)), .d (.str x)] (.d (.str (q4m H x))) := by
 refine qbg.of2 ?_
 refine qac Tryz.func40 rfl rfl (by simp [Tryz.ntmps40]) (qab rfl _ _ _ _ ?_)
 simp only [Tryz.ntmps40, Tryz.results40, qaj, List.length_nil]
 simp only [zU, seval]
 refine qaf (Qik H x hl) ?_
 simp only [zU, seval]
 have h1 := qzr (eqS x) H
 refine ifC.mk (fun h => ?_) (fun h => ?_)
 ·refine ⟨_, _, qau, ?_, rfl⟩
  rw [q4m, if_pos (by simpa using h)]
 ·have h : ¬ qfs (eqS x) H < 0 := by simpa using h
  obtain ⟨n, hn⟩ : ∃ n : Nat, qfs (eqS x) H = n := ⟨(qfs (eqS x) H).toNat, by omega⟩
  rw [q4m, if_neg h, hn]
  have e : ((n : Int) + 1).toNat = n + 1 := by omega
  rw [e]
  have hd := qzx (n := n + 1) (by omega)
  (try simp only [zU, seval, @qai ((n:Int) + 1) (by omega)])
  refine qaf (Qix (n + 1) (by omega)) ?_
  simp only [zU, seval]
  repeat ((with_reducible refine And.intro ?_ ?_); (focus (first | omega | (simp only [qax]; omega) | (refine qq ?_; rfl) | (refine dq ?_; kernel_rfl) | (intros; simp_all; done))))
  refine ⟨_, _, qau, ?_, rfl⟩
  rfl
theorem Qnc (a b : List (List UInt8)) (ha : a.length < 1000000) (hb : b.length < 1000000) : qbg Tryz.prog Gl 17 [.d (.sl (a.map .str)), .d (.sl (b.map .str))] (.d (.bool (a == b))) := by
 refine qbg.of2 ?_
 refine qac Tryz.func17 rfl rfl (by simp [Tryz.ntmps17]) (qab rfl _ _ _ _ ?_)
 simp only [Tryz.ntmps17, Tryz.results17, qaj, List.length_nil]
 simp only [zU, seval]
 repeat ((with_reducible refine And.intro ?_ ?_); (focus (first | omega | (simp only [qax]; omega) | (refine qq ?_; rfl) | (refine dq ?_; kernel_rfl) | (intros; simp_all; done))))
 refine ifC.mk (fun h0 => ?_) (fun h0 => ?_)
 ·have h0 : ¬ a.length = b.length := by simp at h0; omega
  refine ⟨_, _, qau, ?_, rfl⟩
  have : (a == b) = false := by
   rw [Bool.eq_false_iff]; intro h; exact h0 (congrArg List.length (by simpa using h))
  rw [this]
 ·have h0 : a.length = b.length := by simp at h0; omega
  refine qa4 a.length (fun k => [(0, .d (.sl (a.map .str))), (1, .d (.sl (b.map .str))), (5, .d (.int .i64 k))]) (fun _ => []) (fun k => a.take k = b.take k) rfl ?_ ?_
  ·refine qad [] [] rfl List.nodup_nil ?_ rfl
   simp only [zU, seval]
   all_goals rfl
  ·intro k hi hk
   by_cases h : k < a.length
   ·have hb2 : k < b.length := by omega
    simp only [zU, seval, (show (k:Int) < a.length by omega), (show (k:Int) < b.length by omega), h, hb2, qas _ _ _ (show k < a.length by omega), qas _ _ _ (show k < b.length by omega)]
    repeat ((with_reducible refine And.intro ?_ ?_); (focus (first | omega | (simp only [qax]; omega) | (refine qq ?_; rfl) | (refine dq ?_; kernel_rfl) | (intros; simp_all; done))))
    refine ifC.mk (fun hc => ?_) (fun hc => ?_)
    ·have hc : ¬ a.getD k default = b.getD k default := by simpa using hc
     refine ⟨_, _, qau, ?_, rfl⟩
     have : (a == b) = false := by
      rw [Bool.eq_false_iff]; intro h; exact hc (by rw [show a = b by simpa using h])
     rw [this]
    ·have hc : a.getD k default = b.getD k default := by simpa using hc
     refine ⟨by rw [qay a k h, qay b k hb2, hi, hc], ?_⟩
     refine qad [] [] rfl List.nodup_nil ?_ rfl
     simp only [zU, seval, @qai ((k:Int) + 1) (by omega)]
     all_goals rfl
   ·simp only [zU, seval, (show ¬ (k:Int) < a.length by omega)]
    have : k = a.length := by omega
    subst this
    refine ⟨_, _, qau, ?_, rfl⟩
    rw [List.take_length, h0, List.take_length] at hi
    rw [hi]; simp
def qdb (l : List qap) (what x : List UInt8) : Bool := qt4 what x l == qqf
def q4u (l : List qap) (what : List UInt8) (H s : List (List UInt8)) : List (List UInt8) := (s.filter fun x => !qdb l what x).map (q4m H)
def Qrt (l : List qap) (what : List UInt8) (s : List (List UInt8)) : List (List UInt8) := q4u l what (qhs l what s) s
def qz7 (l : List qap) (what : List UInt8) (s : List (List UInt8)) : Int :=
 if qkf l ≠ 0 then qkf l else if q27 what = false then 1
 else if qa9 (fun i => qcq (s.getD i default)) s.length ≠ 0 then qa9 (fun i => qcq (s.getD i default)) s.length
 else if qeq l what s = true then 4 else 0
def q2x (l : List qap) (what : List UInt8) (s : List (List UInt8)) : List (List UInt8) := if qz7 l what s = 0 then Qrt l what s else []
theorem qti {α : Type} [Inhabited α] (p : α → Bool) (l : List α) (k : Nat) (h : k < l.length) : (l.take (k + 1)).filter p = (l.take k).filter p ++ (if p (l.getD k default) = true then [l.getD k default] else []) := by
 rw [qay l k h, List.filter_append]; congr 1; rw [List.filter_cons]; rfl
theorem q8w (l : List qap) (what : List UInt8) (H s : List (List UInt8)) : (q4u l what H s).length ≤ s.length := by
 rw [q4u, List.length_map]; exact List.length_filter_le _ _
theorem Qqg {l : List qap} {what : List UInt8} {H s : List (List UInt8)} {k : Nat} (h : k < s.length) (hc : qdb l what (s.getD k default) = false) : q4u l what H (s.take (k + 1)) = q4u l what H (s.take k) ++ [q4m H (s.getD k default)] := by
 rw [q4u, qti _ _ _ h, if_pos (by rw [hc]; rfl), List.map_append]; rfl
theorem Qqh {l : List qap} {what : List UInt8} {H s : List (List UInt8)} {k : Nat} (h : k < s.length) (hc : qdb l what (s.getD k default) = true) : q4u l what H (s.take (k + 1)) = q4u l what H (s.take k) := by
 rw [q4u, qti _ _ _ h, if_neg (by rw [hc]; simp), List.append_nil]; rfl
theorem Qiz (l : List qap) (what : List UInt8) (s : List (List UInt8)) (hl : l.length < 1000000) (hs : s.length < 1000000) : qbg Tryz.prog Gl 16 [.d (.sl (l.map qap.toD)), .d (.str what), .d (.sl (s.map .str))] (.tup [.d (.sl ((q2x l what s).map .str)), .d (.int .i64 (qz7 l what s))]) := by
 refine qbg.of3t2 ?_
 refine qac Tryz.func16 rfl rfl (by simp [Tryz.ntmps16]) (qab rfl _ _ _ _ ?_)
 simp only [Tryz.ntmps16, Tryz.results16, qaj, List.length_nil]
 simp only [zU, seval]
 refine qaf (Qqu l hl) ?_
 simp only [zU, seval]
 refine ifC.mk (fun h0 => ?_) (fun h0 => ?_)
 ·have h0 : qkf l ≠ 0 := by simpa using h0
  have e : qz7 l what s = qkf l := by rw [qz7, if_pos h0]
  refine ⟨_, _, qch rfl rfl, ?_, rfl⟩
  rw [q2x, e, if_neg h0]; rfl
 have h0 : qkf l = 0 := by simpa using h0
 (try simp only [zU, seval])
 refine qaf (Qe2 what) ?_
 simp only [zU, seval]
 refine ifC.mk (fun h1 => ?_) (fun h1 => ?_)
 ·have h1 : q27 what = false := by simpa using h1
  have e : qz7 l what s = 1 := by rw [qz7, if_neg (by rw [h0]; simp), if_pos h1]
  refine ⟨_, _, qch rfl rfl, ?_, rfl⟩
  rw [q2x, e, if_neg (by decide)]; rfl
 have h1 : ¬ q27 what = false := by simpa using h1
 have e1 : qz7 l what s = if qa9 (fun i => qcq (s.getD i default)) s.length ≠ 0 then qa9 (fun i => qcq (s.getD i default)) s.length
   else if qeq l what s = true then 4 else 0 := by rw [qz7, if_neg (by rw [h0]; simp), if_neg h1]
 (try simp only [zU, seval])
 refine qa4 s.length (fun k => [(0, .d (.sl (l.map qap.toD))), (1, .d (.str what)), (2, .d (.sl (s.map .str))), (9, .d (.int .i64 k))]) (fun _ => []) (fun k => qa9 (fun i => qcq (s.getD i default)) k = 0) rfl ?_ ?_
 ·refine qad [] [] rfl List.nodup_nil ?_ rfl
  simp only [zU, seval]
  all_goals rfl
 intro k hi hk
 by_cases h : k < s.length
 ·have hst := qe0 hi
  simp only [zU, seval, (show (k:Int) < s.length by omega), h, qas _ _ _ (show k < s.length by omega)]
  repeat ((with_reducible refine And.intro ?_ ?_); (focus (first | omega | (simp only [qax]; omega) | (refine qq ?_; rfl) | (refine dq ?_; kernel_rfl) | (intros; simp_all; done))))
  refine qaf (Qe3 _) ?_
  simp only [zU, seval]
  refine ifC.mk (fun h2 => ?_) (fun h2 => ?_)
  ·have h2 : qcq (s.getD k default) ≠ 0 := by simpa using h2
   have e2 := qb8 hi h2 h
   have e : qz7 l what s = qcq (s.getD k default) := by rw [e1, e2, if_pos h2]
   refine ⟨_, _, qch rfl rfl, ?_, rfl⟩
   rw [q2x, e, if_neg h2]; rfl
  ·have h2 : qcq (s.getD k default) = 0 := by simpa using h2
   refine ⟨by rw [hst, h2], ?_⟩
   refine qad [] [] rfl List.nodup_nil ?_ rfl
   simp only [zU, seval, @qai ((k:Int) + 1) (by omega)]
   all_goals rfl
 have : k = s.length := by omega
 subst this
 rw [if_neg (by rw [hi]; simp)] at e1
 simp only [zU, seval, (show ¬ (s.length:Int) < s.length by omega)]
 refine qaf (Qa5 l what s hl hs) ?_
 simp only [zU, seval]
 refine ifC.mk (fun h2 => ?_) (fun h2 => ?_)
 ·rw [if_pos h2] at e1
  refine ⟨_, _, qch rfl rfl, ?_, rfl⟩
  rw [q2x, e1, if_neg (by decide)]; rfl
 rw [if_neg (by rw [h2]; simp)] at e1
 (try simp only [zU, seval])
 refine qaf (q3f l what s hl hs) ?_
 simp only [zU, seval]
 obtain ⟨H, hH⟩ : ∃ H, H = qhs l what s := ⟨_, rfl⟩
 have hHl : H.length ≤ s.length := by rw [hH]; exact q4j _ _ _
 rw [← hH]
 refine qa4 s.length (fun k => [(0, .d (.sl (l.map qap.toD))), (1, .d (.str what)), (2, .d (.sl (s.map .str))), (10, .d (.sl (H.map .str))), (11, .osl 0 0 (q4u l what H (s.take k)).length), (12, .d (.int .i64 k))]) (fun k => [.arr 1 ((q4u l what H (s.take k)).map .str)]) (fun _ => True) trivial ?_ ?_
 ·refine (qe9 11 1 rfl).trans ?_
  refine qad [] [0] rfl (by simp) ?_ rfl
  simp only [zU, seval]
  all_goals rfl
 ·intro k _ hk
  have hyl : (q4u l what H (s.take k)).length ≤ k := Nat.le_trans (q8w _ _ _ _) (by rw [List.length_take]; omega)
  by_cases h : k < s.length
  ·obtain ⟨ys, hys⟩ : ∃ ys, ys = q4u l what H (s.take k) := ⟨_, rfl⟩
   rw [← hys] at hyl ⊢
   simp only [zU, seval, (show (k:Int) < s.length by omega), h, qas _ _ _ (show k < s.length by omega)]
   repeat ((with_reducible refine And.intro ?_ ?_); (focus (first | omega | (simp only [qax]; omega) | (refine qq ?_; rfl) | (refine dq ?_; kernel_rfl) | (intros; simp_all; done))))
   refine qaf (qs4 l what _ hl) ?_
   simp only [zU, seval]
   refine ifC.mk (fun hc => ?_) (fun hc => ?_)
   ·have hc : qdb l what (s.getD k default) = false := by simpa [qdb, qqf] using hc
    simp only [zU, seval, qa6, (show (k:Int) < s.length by omega), h, qas _ _ _ (show k < s.length by omega)]
    repeat ((with_reducible refine And.intro ?_ ?_); (focus (first | omega | (simp only [qax]; omega) | (refine qq ?_; rfl) | (refine dq ?_; kernel_rfl) | (intros; simp_all; done))))
    refine qaf (Qei H _ (by omega)) ?_
    simp only [zU, seval, qa6]
    repeat ((with_reducible refine And.intro ?_ ?_); (focus (first | omega | (simp only [qax]; omega) | (refine qq ?_; rfl) | (refine dq ?_; kernel_rfl) | (intros; simp_all; done))))
    rw [Qqg h hc, ← hys]
    refine qad [] [2] rfl (by simp) ?_ ?_
    ·simp only [zU, seval, @qai ((k:Int) + 1) (by omega)]
     all_goals rfl
    ·rw [List.map_append]; rfl
   ·have hc : qdb l what (s.getD k default) = true := by simpa [qdb, qqf] using hc
    rw [Qqh h hc, ← hys]
    refine qad [] [0] rfl (by simp) ?_ rfl
    simp only [zU, seval, @qai ((k:Int) + 1) (by omega)]
    all_goals rfl
  ·have : k = s.length := by omega
   subst this
   simp only [zU, seval, (show ¬ (s.length:Int) < s.length by omega), List.take_length]
   refine ⟨_, _, qch rfl rfl, ?_, rfl⟩
   rw [q2x, e1, if_pos rfl, Qrt, ← hH]
   simp only [zU, seval, qa6]
end YtljpopkonkanlaaGreatDoor
end Go.Proofs


namespace Go.Proofs
open Go.Shelf
def Tryz.laysM171_ren : Go.Shelf.Ren := ⟨fun | 171 => 132 | 243 => 185 | 246 => 208 | 283 => 215 | 284 => 216 | 285 => 217 | 286 => 218 | 129 => 224 | 317 => 223 | 318 => 225 | 319 => 226 | 320 => 227 | 337 => 228 | 338 => 229 | n => n, fun | 3 => 3 | 9 => 9 | 2 => 2 | 4 => 4 | 171 => 203 | 0 => 0 | 53 => 204 | 37 => 207 | 5 => 5 | 173 => 208 | 212 => 217 | 51 => 218 | 20 => 20 | 213 => 219 | 46 => 201 | 232 => 222 | 233 => 223 | n => n, fun | 17 => 3 | 18 => 4 | 19 => 5 | n => n⟩
theorem Tryz.laysM171 : Go.Proofs.LaysM.n171 Tryz.prog Tryz.laysM171_ren := {
 mixed := by kernel_rfl
 f129 := Tryz.func224.trans (congrArg some (by kernel_rfl))
 f171 := Tryz.func132.trans (congrArg some (by kernel_rfl))
 f243 := Tryz.func185.trans (congrArg some (by kernel_rfl))
 f246 := Tryz.func208.trans (congrArg some (by kernel_rfl))
 f283 := Tryz.func215.trans (congrArg some (by kernel_rfl))
 f284 := Tryz.func216.trans (congrArg some (by kernel_rfl))
 f285 := Tryz.func217.trans (congrArg some (by kernel_rfl))
 f286 := Tryz.func218.trans (congrArg some (by kernel_rfl))
 f317 := Tryz.func223.trans (congrArg some (by kernel_rfl))
 f318 := Tryz.func225.trans (congrArg some (by kernel_rfl))
 f319 := Tryz.func226.trans (congrArg some (by kernel_rfl))
 f320 := Tryz.func227.trans (congrArg some (by kernel_rfl))
 f337 := Tryz.func228.trans (congrArg some (by kernel_rfl))
 f338 := Tryz.func229.trans (congrArg some (by kernel_rfl))
 t0 := Tryz.underlying0
 a0 := Tryz.isAgg0
 z0 := Tryz.sizeOf0
 v0 := Tryz.zeroValue0
 t2 := Tryz.underlying2
 a2 := Tryz.isAgg2
 z2 := Tryz.sizeOf2
 v2 := Tryz.zeroValue2
 t3 := Tryz.underlying3
 a3 := Tryz.isAgg3
 z3 := Tryz.sizeOf3
 v3 := Tryz.zeroValue3
 t4 := Tryz.underlying4
 a4 := Tryz.isAgg4
 z4 := Tryz.sizeOf4
 v4 := Tryz.zeroValue4
 t5 := Tryz.underlying5
 a5 := Tryz.isAgg5
 z5 := Tryz.sizeOf5
 v5 := Tryz.zeroValue5
 t9 := Tryz.underlying9
 a9 := Tryz.isAgg9
 z9 := Tryz.sizeOf9
 v9 := Tryz.zeroValue9
 t20 := Tryz.underlying20
 a20 := Tryz.isAgg20
 z20 := Tryz.sizeOf20
 v20 := Tryz.zeroValue20
 t37 := Tryz.underlying207
 a37 := Tryz.isAgg207
 z37 := Tryz.sizeOf207
 v37 := Tryz.zeroValue207
 t46 := Tryz.underlying201
 a46 := Tryz.isAgg201
 z46 := Tryz.sizeOf201
 v46 := Tryz.zeroValue201
 t51 := Tryz.underlying218
 a51 := Tryz.isAgg218
 z51 := Tryz.sizeOf218
 v51 := Tryz.zeroValue218
 t53 := Tryz.underlying204
 a53 := Tryz.isAgg204
 z53 := Tryz.sizeOf204
 v53 := Tryz.zeroValue204
 t171 := Tryz.underlying203
 a171 := Tryz.isAgg203
 z171 := Tryz.sizeOf203
 v171 := Tryz.zeroValue203
 t173 := Tryz.underlying208
 a173 := Tryz.isAgg208
 z173 := Tryz.sizeOf208
 v173 := Tryz.zeroValue208
 t212 := Tryz.underlying217
 a212 := Tryz.isAgg217
 z212 := Tryz.sizeOf217
 v212 := Tryz.zeroValue217
 t213 := Tryz.underlying219
 a213 := Tryz.isAgg219
 z213 := Tryz.sizeOf219
 t232 := Tryz.underlying222
 a232 := Tryz.isAgg222
 z232 := Tryz.sizeOf222
 v232 := Tryz.zeroValue222
 t233 := Tryz.underlying223
 a233 := Tryz.isAgg223
 z233 := Tryz.sizeOf223
 v233 := Tryz.zeroValue223
 g17 := by kernel_rfl
 g18 := by kernel_rfl
 g19 := by kernel_rfl
 i0 := by kernel_rfl
 i2 := by kernel_rfl
 i3 := by kernel_rfl
 i4 := by kernel_rfl
 i5 := by kernel_rfl
 i9 := by kernel_rfl
 i20 := by kernel_rfl
 i37 := by kernel_rfl
 i46 := by kernel_rfl
 i51 := by kernel_rfl
 i53 := by kernel_rfl
 i171 := by kernel_rfl
 i173 := by kernel_rfl
 i212 := by kernel_rfl
 i232 := by kernel_rfl
 i233 := by kernel_rfl
 m17 := by kernel_rfl
 m18 := by kernel_rfl
 m19 := by kernel_rfl }
open Go.RowKit Go.Sort Go.Lib in
theorem Tryz.strconv_Itoa (n : Int) (h0 : -9223372036854775808 ≤ n) (h1 : n ≤ 9223372036854775807) (w : World) (htab : Lib.TabIs Tryz.prog w "internal/strconv.uint64pow10" .u64 Lib.pow10Tab) :
  Calls Tryz.prog 132 #[.int .i64 n] w fun e w' => e = .returned (.string ⟨(Lib.itoa n).toArray⟩) ∧ ∃ k os, w' = grow (w.drewN k) os := Any.strconv_Itoa Tryz.laysM171 n h0 h1 w htab
end Go.Proofs

set_option maxRecDepth 100000
namespace Go.Proofs
open Go.AM
namespace YtljpopkonkanlaaGreatDoor
def Qso (g : Nat) : qa7 := [(g, .agg (Lib.pow10Tab.map fun z => .int .u64 z))]
theorem qpn : Tryz.prog.globalNamed "internal/strconv.uint64pow10" = some 3 := by kernel_rfl
abbrev G2 : qa7 := Qso 3
theorem Qqv (n : Int) (h0 : -9223372036854775808 ≤ n) (h1 : n ≤ 9223372036854775807) : qbg Tryz.prog G2 132 [.d (.int .i64 n)] (.d (.str (Lib.itoa n))) :=
 qy9 Tryz.func132 (by kernel_rfl) (by kernel_rfl) (fun w I μ σ vals hv hl => Qco hv hl) (fun w I hG => Tryz.strconv_Itoa n h0 h1 w (q4f hG qpn)) (fun w I μ σ => .d _ _ (.str _))
theorem Qqt (n : Nat) (h : n < 10000000) : qbg Tryz.prog G2 61 [.d (.int .i64 n)] (.d (.str (Lib.decDigits n))) := by
 refine qbg.of1 ?_
 refine qac Tryz.func61 rfl rfl (by simp [Tryz.ntmps61]) (qab rfl _ _ _ _ ?_)
 simp only [Tryz.ntmps61, Tryz.results61, qaj, List.length_nil]
 simp only [zU, seval]
 refine qaf (Qqv n (by omega) (by omega)) ?_
 simp only [zU, seval]
 have e : Lib.itoa (n : Int) = Lib.decDigits n := by rw [Lib.itoa, if_neg (by omega)]; rfl
 rw [← e]
 exact ⟨_, _, qau, rfl, rfl⟩
def qby (g : List UInt8 → Option (List UInt8)) : Key → Option AV
 | .s n => (g n).map fun v => .d (.str v)
 | .i _ => none
def Qoe (g : List UInt8 → Option (List UInt8)) (n v : List UInt8) : List UInt8 → Option (List UInt8) := fun m => if m = n then some v else g m
theorem q6m (g : List UInt8 → Option (List UInt8)) (n : List UInt8) : qby g (.s n) = (g n).map fun v => .d (.str v) := rfl
theorem Qbu (g : List UInt8 → Option (List UInt8)) (n v : List UInt8) : qfy (qby g) (.s n) (.d (.str v)) = qby (Qoe g n v) := by
 funext k
 cases k with
 | i m => simp [qfy, qby]
 | s m => by_cases h : m = n <;> simp [qfy, qby, Qoe, h]
theorem qis (g : List UInt8 → Option (List UInt8)) (ρ : List Nat) (σ : Sto) : (fun k => (qby g k).map (qbf ρ σ)) = qby g := by
 funext k
 cases k with
 | i m => rfl
 | s m => simp only [qby]; cases g m <;> simp [qbf, qjb]
theorem qxy (g : List UInt8 → Option (List UInt8)) : ∀ k v, qby g k = some v → ∃ d, v = .d d := by
 intro k v h
 cases k with
 | i m => cases h
 | s m => simp only [qby] at h; cases e : g m with
  | none => rw [e] at h; cases h
  | some u => rw [e] at h; cases h; exact ⟨_, rfl⟩
def qhk (l : List qap) (what x : List UInt8) : Bool := qt4 what x l == qht
def qdc (l : List qap) (what : List UInt8) (s : List (List UInt8)) : List UInt8 → Option (List UInt8) := fun x =>
 if s.any (eqS x) = true ∧ (hid l what x || qhk l what x) = true then some (q4m (qhs l what s) x) else none
theorem qkn (l : List qap) (what x : List UInt8) : ∀ (s out : List (List UInt8)), (s.foldl (qd9 l what) out).any (eqS x) = (out.any (eqS x) || (s.any (eqS x) && hid l what x))
 | [], out => by simp
 | y :: s, out => by
  rw [List.foldl_cons, qkn l what x s, List.any_cons]
  by_cases hy : eqS x y = true
  ·have e : y = x := by simpa [eqS] using hy
   subst e
   rw [hy, Bool.true_or, Bool.true_and]
   unfold qd9
   cases h1 : hid l what y <;> cases h2 : out.any (eqS y) <;> simp [h2, List.any_append, eqS]
  ·have hy : eqS x y = false := by simpa using hy
   rw [hy, Bool.false_or]
   congr 1
   unfold qd9
   split
   ·rw [List.any_append]; simp [hy]
   ·rfl
theorem qpk (l : List qap) (what x : List UInt8) (s : List (List UInt8)) : (qhs l what s).any (eqS x) = (s.any (eqS x) && hid l what x) := by
 rw [qhs, qkn]; rfl
theorem q0r (l : List qap) (what x : List UInt8) (s : List (List UInt8)) : qhs l what (s ++ [x]) = qd9 l what (qhs l what s) x := by
 rw [qhs, List.foldl_append]; rfl
theorem qs9 {α : Type} (p : α → Bool) (x : α) : ∀ l : List α, qfs p (l ++ [x]) = if qfs p l < 0 then (if p x = true then (l.length : Int) else -1) else qfs p l
 | [] => by
  simp only [List.nil_append, qfs]
  split <;> simp
 | y :: l => by
  have ih := qs9 p x l
  have hg := qta p l
  simp only [List.cons_append, qfs, ih, List.length_cons]
  by_cases h : p y = true
  ·simp [h]
  ·simp only [h, if_false]
   by_cases h1 : qfs p l < 0
   ·have e : qfs p l = -1 := by omega
    simp only [e]
    by_cases hx : p x = true
    ·simp [hx]
    ·simp [hx]
   ·have e1 : ¬ qfs p l = -1 := by omega
    simp [h1, e1]; omega
theorem qgi {l : List qap} {what x : List UInt8} {s : List (List UInt8)} (h : hid l what x = true → s.any (eqS x) = true) : qhs l what (s ++ [x]) = qhs l what s := by
 rw [q0r, qd9, if_neg]
 intro hc
 simp only [Bool.and_eq_true, Bool.not_eq_true'] at hc
 have := qpk l what x s
 rw [h hc.1, hc.1, hc.2] at this
 cases this
theorem q6z {l : List qap} {what x : List UInt8} {s : List (List UInt8)} (h1 : hid l what x = true) (h2 : s.any (eqS x) = false) : qhs l what (s ++ [x]) = qhs l what s ++ [x] := by
 rw [q0r, qd9, if_pos]
 rw [qpk, h2, h1]; rfl
theorem Qcq {H : List (List UInt8)} {x y : List UInt8} (h : H.any (eqS y) = true ∨ x ≠ y) : q4m (H ++ [x]) y = q4m H y := by
 have h2 : qfs (eqS y) (H ++ [x]) = qfs (eqS y) H := by
  rw [qs9]
  have hg := qdm (eqS y) H
  have hge := qta (eqS y) H
  by_cases h0 : qfs (eqS y) H < 0
  ·rw [if_pos h0]
   have ha : H.any (eqS y) = false := by rw [← hg]; simp; omega
   rcases h with h | h
   ·rw [ha] at h; cases h
   ·rw [if_neg (by simpa [eqS] using h)]; omega
  ·rw [if_neg h0]
 rw [q4m, h2]; rfl
theorem Qcr {H : List (List UInt8)} {x : List UInt8} (h : H.any (eqS x) = false) : q4m H x = x := by
 have hg := qdm (eqS x) H
 rw [h] at hg
 rw [q4m, if_pos (by simp at hg; omega)]
theorem Qcs {H : List (List UInt8)} {x : List UInt8} (h : H.any (eqS x) = false) : q4m (H ++ [x]) x = qev ++ Lib.decDigits (H.length + 1) := by
 have hg := qdm (eqS x) H
 rw [h] at hg
 have e : qfs (eqS x) (H ++ [x]) = H.length := by
  rw [qs9, if_pos (by simp at hg; omega), if_pos (by simp [eqS])]
 rw [q4m, e, if_neg (by omega)]
 congr 2
theorem qo1 {x y : List UInt8} : eqS x y = true ↔ y = x := by simp [eqS]
theorem qma (s : List (List UInt8)) (x y : List UInt8) : (s ++ [x]).any (eqS y) = (s.any (eqS y) || eqS y x) := by simp [List.any_append]
theorem Qfc {l : List qap} {what x : List UInt8} {s : List (List UInt8)} (h : s.any (eqS x) = true) : qdc l what (s ++ [x]) = qdc l what s := by
 funext y
 rw [qdc, qdc, qgi (fun _ => h), qma]
 have : (s.any (eqS y) || eqS y x) = s.any (eqS y) := by
  cases e : eqS y x with
  | false => rw [Bool.or_false]
  | true => rw [qo1.1 e] at h; rw [h]; rfl
 rw [this]
theorem Qfd {l : List qap} {what x : List UInt8} {s : List (List UInt8)} (h1 : hid l what x = false) (h2 : qhk l what x = false) : qdc l what (s ++ [x]) = qdc l what s := by
 funext y
 rw [qdc, qdc, qgi (fun h => by rw [h1] at h; cases h), qma]
 by_cases e : eqS y x = true
 ·have := qo1.1 e; subst this
  rw [h1, h2]; simp
 ·have e : eqS y x = false := by simpa using e
  rw [e, Bool.or_false]
theorem Qi6 {l : List qap} {what x : List UInt8} {s : List (List UInt8)} (h1 : hid l what x = true) (h2 : s.any (eqS x) = false) : qdc l what (s ++ [x]) = Qoe (qdc l what s) x (qev ++ Lib.decDigits ((qhs l what s).length + 1)) := by
 have h3 : (qhs l what s).any (eqS x) = false := by rw [qpk, h2]; rfl
 funext y
 rw [Qoe, qdc, qdc, q6z h1 h2, qma]
 by_cases e : eqS y x = true
 ·have := qo1.1 e; subst this
  rw [e, Bool.or_true, h1, if_pos ⟨rfl, rfl⟩, if_pos rfl, Qcs h3]
 ·have e0 : x ≠ y := fun h => e (qo1.2 h)
  have e : eqS y x = false := by simpa using e
  rw [e, Bool.or_false, Qcq (.inr e0), if_neg (show ¬ y = x from fun h => e0 h.symm)]
theorem Qfe {l : List qap} {what x : List UInt8} {s : List (List UInt8)} (h1 : qhk l what x = true) (h2 : s.any (eqS x) = false) (h3 : hid l what x = false) : qdc l what (s ++ [x]) = Qoe (qdc l what s) x x := by
 have h4 : (qhs l what s).any (eqS x) = false := by rw [qpk, h2]; rfl
 funext y
 rw [Qoe, qdc, qdc, qgi (fun h => by rw [h3] at h; cases h), qma]
 by_cases e : eqS y x = true
 ·have := qo1.1 e; subst this
  rw [e, Bool.or_true, h1, h3, if_pos ⟨rfl, rfl⟩, if_pos rfl, Qcr h4]
 ·have e0 : x ≠ y := fun h => e (qo1.2 h)
  have e : eqS y x = false := by simpa using e
  rw [e, Bool.or_false, if_neg (show ¬ y = x from fun h => e0 h.symm)]
theorem Qm7 {l : List qap} {what x : List UInt8} {s : List (List UInt8)} (h : s.any (eqS x) = true) : (s ++ [x]).any (qdf l what) = s.any (qdf l what) := by
 rw [List.any_append, List.any_cons, List.any_nil, Bool.or_false]
 cases e : qdf l what x with
 | false => rw [Bool.or_false]
 | true =>
  obtain ⟨y, hy, hxy⟩ := List.any_eq_true.1 h
  have := qo1.1 hxy; subst this
  rw [List.any_eq_true.2 ⟨y, hy, e⟩]; rfl
theorem Qsl {l : List qap} {what x : List UInt8} {s : List (List UInt8)} (h : qhk l what x = false) : (s ++ [x]).any (qdf l what) = s.any (qdf l what) := by
 rw [List.any_append, List.any_cons, List.any_nil, Bool.or_false, qdf, show (qt4 what x l == qht) = false from h, Bool.false_and, Bool.or_false]
theorem Qsp {l : List qap} {what x : List UInt8} {s : List (List UInt8)} (h : qhk l what x = true) : (s ++ [x]).any (qdf l what) = (s.any (qdf l what) || qz4 x qev) := by
 rw [List.any_append, List.any_cons, List.any_nil, Bool.or_false, qdf, show (qt4 what x l == qht) = true from h, Bool.true_and]
theorem q5k {l : List qap} {what x : List UInt8} (h : hid l what x = true) : qhk l what x = false := by
 rw [hid, beq_iff_eq] at h
 rw [qhk, h]; rfl
theorem qtc (a : List D) (b : List UInt8) (g : List UInt8 → Option (List UInt8)) : qdd [0, 1] (freezeL [.box 3 (.agg [.d (.sl a), .d (.str b), .mapr 1]), .map none (qby g)] []) = [.box 3 (.agg [.d (.sl a), .d (.str b), .mapr 1]), .map none (qby g)] := by
 show [qbv [0, 1] _ (.box 3 (.agg [.d (.sl a), .d (.str b), .mapr 1])), .map none (fun k => (qby g k).map (qbf [0, 1] _))] = _
 rw [qis]; rfl
theorem qx2 (l : List qap) (what : List UInt8) (s : List (List UInt8)) (hl : l.length < 1000000) (hs : s.length < 1000000) : qag Tryz.prog G2 36 [.d (.sl (l.map qap.toD)), .d (.str what), .d (.sl (s.map .str))] []
  (fun r σ => r = .tup [.ptr 0 0, .d (.bool (!qeq l what s))] ∧ σ = [.box 3 (.agg [.d (.sl (l.map qap.toD)), .d (.str what), .mapr 1]), .map none (qby (qdc l what s))]) := by
 refine qac Tryz.func36 rfl rfl (by simp [Tryz.ntmps36]) (qab rfl _ _ _ _ ?_)
 simp only [Tryz.ntmps36, Tryz.results36, qaj, List.length_nil]
 simp only [zU, seval]
 repeat ((with_reducible refine And.intro ?_ ?_); (focus (first | omega | (simp only [qax]; omega) | (refine qq ?_; rfl) | (refine dq ?_; kernel_rfl) | (intros; simp_all; done))))
 refine qa4 s.length (fun k => [(0, .d (.sl (l.map qap.toD))), (1, .d (.str what)), (8, .ptr 0 0), (9, .d (.int .i64 (qhs l what (s.take k)).length)), (10, .d (.bool ((s.take k).any (qdf l what)))), (20, .d (.sl (s.map .str))), (21, .d (.int .i64 s.length)), (22, .d (.int .i64 k))])
  (fun k => [.box 3 (.agg [.d (.sl (l.map qap.toD)), .d (.str what), .mapr 1]), .map none (qby (qdc l what (s.take k)))]) (fun _ => True) trivial ?_ ?_
 ·refine qad [] [1, 0] rfl (by simp) ?_ ?_
  ·simp only [zU, seval]
   all_goals rfl
  ·have e : qby (qdc l what (List.take 0 s)) = fun _ => none := by
    funext k; cases k <;> simp [qby, qdc]
   rw [e]; rfl
 ·intro k _ hk
  have hyl := q4j l what (s.take k)
  rw [List.length_take] at hyl
  by_cases h : k < s.length
  ·obtain ⟨x, hx⟩ : ∃ x, x = s.getD k default := ⟨_, rfl⟩
   have ht : s.take (k + 1) = s.take k ++ [x] := by rw [qay s k h, ← hx]
   have hg : (s.map D.str).getD k default = .str x := by rw [qas _ _ _ h, hx]
   obtain ⟨p, hp⟩ : ∃ p, p = s.take k := ⟨_, rfl⟩
   rw [← hp] at ht hyl ⊢
   rw [ht]
   by_cases hh : p.any (eqS x) = true ∧ (hid l what x || qhk l what x) = true
   ·have e : qdc l what p x = some (q4m (qhs l what p) x) := by rw [qdc, if_pos hh]
    rw [qgi (fun _ => hh.1), Qfc hh.1]
    simp only [zU, seval, (show (k:Int) < s.length by omega), h, hg, q6m, e, Option.map_some, Option.getD_some, Option.isSome_some]
    repeat ((with_reducible refine And.intro ?_ ?_); (focus (first | omega | (simp only [qax]; omega) | (refine qq ?_; rfl) | (refine dq ?_; kernel_rfl) | (intros; simp_all; done))))
    refine qad [] [0, 1] rfl (by simp) ?_ ?_
    ·simp only [zU, seval, @qai ((k:Int) + 1) (by omega), Qm7 hh.1]
     all_goals rfl
    ·exact qtc _ _ _
   have e : qdc l what p x = none := by rw [qdc, if_neg hh]
   simp only [zU, seval, (show (k:Int) < s.length by omega), h, hg, q6m, e, Option.map_none, Option.getD_none, Option.isSome_none]
   repeat ((with_reducible refine And.intro ?_ ?_); (focus (first | omega | (simp only [qax]; omega) | (refine qq ?_; rfl) | (refine dq ?_; kernel_rfl) | (intros; simp_all; done))))
   refine qaf (qf0 l what x hl) ?_
   simp only [zU, seval]
   refine ifC.mk (fun h1 => ?_) (fun h1 => ?_)
   ·have h1 : hid l what x = true := h1
    have h2 : p.any (eqS x) = false := by
     cases e2 : p.any (eqS x) with
     | false => rfl
     | true => exact absurd ⟨e2, by rw [h1]; rfl⟩ hh
    rw [q6z h1 h2, Qi6 h1 h2, Qsl (q5k h1)]
    (try simp only [zU, seval, @qai (((qhs l what p).length : Int) + 1) (by omega)])
    repeat ((with_reducible refine And.intro ?_ ?_); (focus (first | omega | (simp only [qax]; omega) | (refine qq ?_; rfl) | (refine dq ?_; kernel_rfl) | (intros; simp_all; done))))
    refine qaf (Qqt ((qhs l what p).length + 1) (by omega)) ?_
    have hdl := qzx (n := (qhs l what p).length + 1) (by omega)
    simp only [zU, seval]
    repeat ((with_reducible refine And.intro ?_ ?_); (focus (first | omega | (simp only [qax]; omega) | (refine qq ?_; rfl) | (refine dq ?_; kernel_rfl) | (intros; simp_all; done))))
    refine qad [] [0, 1] rfl (by simp) ?_ ?_
    ·simp only [zU, seval, @qai ((k:Int) + 1) (by omega)]
     all_goals rfl
    ·simp only [zU, seval, Qbu]
     exact qtc _ _ _
   ·have h1 : hid l what x = false := h1
    refine ifC.mk (fun h3 => ?_) (fun h3 => ?_)
    ·have h3 : qhk l what x = true := h3
     have h2 : p.any (eqS x) = false := by
      cases e2 : p.any (eqS x) with
      | false => rfl
      | true => exact absurd ⟨e2, by rw [h3]; simp⟩ hh
     rw [qgi (fun h => by rw [h1] at h; cases h), Qfe h3 h2 h1, Qsp h3]
     (try simp only [zU, seval])
     refine qbq (fun _ => qs7 _ _) ?_
     simp only [zU, seval]
     repeat ((with_reducible refine And.intro ?_ ?_); (focus (first | omega | (simp only [qax]; omega) | (refine qq ?_; rfl) | (refine dq ?_; kernel_rfl) | (intros; simp_all; done))))
     refine qad [] [0, 1] rfl (by simp) ?_ ?_
     ·simp only [zU, seval, @qai ((k:Int) + 1) (by omega)]
      all_goals rfl
     ·simp only [zU, seval, Qbu]
      exact qtc _ _ _
    ·have h3 : qhk l what x = false := h3
     rw [qgi (fun h => by rw [h1] at h; cases h), Qfd h1 h3, Qsl h3]
     refine qad [] [0, 1] rfl (by simp) ?_ ?_
     ·simp only [zU, seval, @qai ((k:Int) + 1) (by omega)]
      all_goals rfl
     ·exact qtc _ _ _
  ·have : k = s.length := by omega
   subst this
   simp only [zU, seval, (show ¬ (s.length:Int) < s.length by omega), List.take_length]
   refine ⟨_, _, qae [] [0, 1] rfl (by simp) (show qbf _ _ _ = AV.tup [.ptr 0 0, .d _] from rfl) (qtc _ _ _), ?_, rfl⟩
   rw [qeq]
   cases e : qhs l what s with
   | nil => rfl
   | cons a b =>
    have e2 : (((a :: b).length : Int) == 0) = false := by simp; omega
    rw [e2]; cases s.any (qdf l what) <;> rfl

def q39 (g : List UInt8 → Option (List UInt8)) (s : List (List UInt8)) : List (List UInt8) := s.filterMap g
theorem Qq9 {g : List UInt8 → Option (List UInt8)} {s : List (List UInt8)} {x v : List UInt8} (h : g x = some v) : q39 g (s ++ [x]) = q39 g s ++ [v] := by
 rw [q39, List.filterMap_append]; simp [h, q39]
theorem Qra {g : List UInt8 → Option (List UInt8)} {s : List (List UInt8)} {x : List UInt8} (h : g x = none) : q39 g (s ++ [x]) = q39 g s := by
 rw [q39, List.filterMap_append]; simp [h, q39]
theorem Qob (g : List UInt8 → Option (List UInt8)) (s : List (List UInt8)) : (q39 g s).length ≤ s.length := List.length_filterMap_le _ _
theorem q9b (a : List D) (b : List UInt8) (g : List UInt8 → Option (List UInt8)) (xs : List D) : qdd [0, 1, 2] (freezeL [.box 3 (.agg [.d (.sl a), .d (.str b), .mapr 1]), .map none (qby g), .arr 1 xs] []) = [.box 3 (.agg [.d (.sl a), .d (.str b), .mapr 1]), .map none (qby g), .arr 1 xs] := by
 show [qbv [0, 1, 2] _ (.box 3 (.agg [.d (.sl a), .d (.str b), .mapr 1])), .map none (fun k => (qby g k).map (qbf [0, 1, 2] _)), _] = _
 rw [qis]; rfl
theorem Qi4 (a : List D) (b : List UInt8) (g : List UInt8 → Option (List UInt8)) (σ : Sto) : qdd [0, 1] (freezeL (.box 3 (.agg [.d (.sl a), .d (.str b), .mapr 1]) :: .map none (qby g) :: σ) []) = [.box 3 (.agg [.d (.sl a), .d (.str b), .mapr 1]), .map none (qby g)] := by
 show [qbv [0, 1] _ (.box 3 (.agg [.d (.sl a), .d (.str b), .mapr 1])), .map none (fun k => (qby g k).map (qbf [0, 1] _))] = _
 rw [qis]; rfl
theorem Qi5 (a : List D) (b : List UInt8) (g : List UInt8 → Option (List UInt8)) (xs : List D) (B1 B2 : Blk) : qdd [0, 1, 4] (freezeL [.box 3 (.agg [.d (.sl a), .d (.str b), .mapr 1]), .map none (qby g), B1, B2, .arr 1 xs] []) = [.box 3 (.agg [.d (.sl a), .d (.str b), .mapr 1]), .map none (qby g), .arr 1 xs] := by
 show [qbv [0, 1, 4] _ (.box 3 (.agg [.d (.sl a), .d (.str b), .mapr 1])), .map none (fun k => (qby g k).map (qbf [0, 1, 4] _)), _] = _
 rw [qis]; rfl
theorem Qng {Gl : qa7} (a : List D) (b : List UInt8) (g : List UInt8 → Option (List UInt8)) (s : List (List UInt8)) (hs : s.length < 1000000) : qag Tryz.prog Gl 37 [.ptr 0 0, .d (.sl (s.map .str))] [.box 3 (.agg [.d (.sl a), .d (.str b), .mapr 1]), .map none (qby g)]
  (fun r σ => r = .d (.sl ((q39 g s).map .str)) ∧ σ = [.box 3 (.agg [.d (.sl a), .d (.str b), .mapr 1]), .map none (qby g)]) := by
 refine qac Tryz.func37 rfl rfl (by simp [Tryz.ntmps37]) (qab rfl _ _ _ _ ?_)
 simp only [Tryz.ntmps37, Tryz.results37, qaj, List.length_nil]
 simp only [zU, seval]
 refine qa4 s.length (fun k => [(0, .ptr 0 0), (5, .osl 2 0 (q39 g (s.take k)).length), (10, .d (.sl (s.map .str))), (11, .d (.int .i64 s.length)), (12, .d (.int .i64 k))])
  (fun k => [.box 3 (.agg [.d (.sl a), .d (.str b), .mapr 1]), .map none (qby g), .arr 1 ((q39 g (s.take k)).map .str)]) (fun _ => True) trivial ?_ ?_
 ·refine (qe9 5 1 rfl).trans ?_
  refine qad [] [0, 1, 2] rfl (by simp) ?_ ?_
  ·simp only [zU, seval]
   all_goals rfl
  ·exact q9b _ _ _ _
 ·intro k _ hk
  have hyl := Qob g (s.take k)
  rw [List.length_take] at hyl
  by_cases h : k < s.length
  ·obtain ⟨x, hx⟩ : ∃ x, x = s.getD k default := ⟨_, rfl⟩
   have ht : s.take (k + 1) = s.take k ++ [x] := by rw [qay s k h, ← hx]
   have hg : (s.map D.str).getD k default = .str x := by rw [qas _ _ _ h, hx]
   obtain ⟨p, hp⟩ : ∃ p, p = s.take k := ⟨_, rfl⟩
   rw [← hp] at ht hyl ⊢
   rw [ht]
   cases e : g x with
   | none =>
    rw [Qra e]
    simp only [zU, seval, (show (k:Int) < s.length by omega), h, hg, q6m, e, Option.map_none, Option.getD_none, Option.isSome_none]
    repeat ((with_reducible refine And.intro ?_ ?_); (focus (first | omega | (simp only [qax]; omega) | (refine qq ?_; rfl) | (refine dq ?_; kernel_rfl) | (intros; simp_all; done))))
    refine qad [] [0, 1, 2] rfl (by simp) ?_ ?_
    ·simp only [zU, seval, @qai ((k:Int) + 1) (by omega)]
     all_goals rfl
    ·exact q9b _ _ _ _
   | some v =>
    rw [Qq9 e]
    simp only [zU, seval, (show (k:Int) < s.length by omega), h, hg, q6m, e, Option.map_some, Option.getD_some, Option.isSome_some]
    repeat ((with_reducible refine And.intro ?_ ?_); (focus (first | omega | (simp only [qax]; omega) | (refine qq ?_; rfl) | (refine dq ?_; kernel_rfl) | (intros; simp_all; done))))
    (try simp only [zU, seval, qa6])
    repeat ((with_reducible refine And.intro ?_ ?_); (focus (first | omega | (simp only [qax]; omega) | (refine qq ?_; rfl) | (refine dq ?_; kernel_rfl) | (intros; simp_all; done))))
    rw [List.map_append]
    refine qad [] [0, 1, 4] rfl (by simp) ?_ ?_
    ·simp only [zU, seval, @qai ((k:Int) + 1) (by omega)]
     all_goals rfl
    ·exact Qi5 _ _ _ _ _ _
  ·have : k = s.length := by omega
   subst this
   simp only [zU, seval, (show ¬ (s.length:Int) < s.length by omega), List.take_length]
   refine ⟨_, _, (qcy rfl).trans (qae [] [0, 1] rfl (by simp) (show qbf _ _ _ = AV.d _ from rfl) (Qi4 _ _ _ _)), ?_, rfl⟩
   simp only [zU, seval, qa6]
theorem q90 (what x : List UInt8) : ∀ l : List qap, qt4 what x l = qht ∨ ∃ r ∈ l, qt4 what x l = r.action
 | [] => .inl rfl
 | r :: l => by
  rw [qt4]
  by_cases h : Qa9 what x r = true
  ·rw [if_pos h]; exact .inr ⟨r, List.mem_cons_self, rfl⟩
  ·rw [if_neg h]
   rcases q90 what x l with h1 | ⟨q, hq, h1⟩
   ·exact .inl h1
   ·exact .inr ⟨q, List.mem_cons_of_mem _ hq, h1⟩
theorem q5m {α : Type} [Inhabited α] {l : List α} {x : α} (h : x ∈ l) : ∃ k, k < l.length ∧ l.getD k default = x := by
 obtain ⟨k, hk, e⟩ := List.getElem_of_mem h
 exact ⟨k, hk, by simp [hk, e]⟩
theorem Qjk {l : List qap} (h : qkf l = 0) {r : qap} (hr : r ∈ l) : Qn8 r = false ∧ (r.prefix_ = [] ∨ qcq r.prefix_ = 0) := by
 rw [qkf] at h
 split at h
 ·cases h
 ·obtain ⟨k, hk, rfl⟩ := q5m hr
  have := qzs h k hk
  simp only [qmh] at this
  split at this
  ·cases this
  ·rename_i hb
   refine ⟨by simpa using hb, ?_⟩
   split at this
   ·rename_i hp; exact .inl hp
   ·exact .inr this
theorem Qg1 {l : List qap} (h : qkf l = 0) (what x : List UInt8) : qt4 what x l = qht ∨ qt4 what x l = Qae ∨ qt4 what x l = qqf := by
 rcases q90 what x l with h1 | ⟨r, hr, h1⟩
 ·exact .inl h1
 ·have hb := (Qjk h hr).1
  rw [h1]
  rw [Qn8, Bool.or_eq_false_iff] at hb
  have h2 := hb.2
  by_cases e1 : r.action = qht
  ·exact .inl e1
  by_cases e2 : r.action = Qae
  ·exact .inr (.inl e2)
  by_cases e3 : r.action = qqf
  ·exact .inr (.inr e3)
  exfalso
  rw [show (r.action == qht) = false by simpa using e1, show (r.action == Qae) = false by simpa using e2, show (r.action == qqf) = false by simpa using e3] at h2
  cases h2
theorem Qrc {l : List qap} (h : qkf l = 0) (what x : List UInt8) : (hid l what x || qhk l what x) = !qdb l what x := by
 rcases Qg1 h what x with e | e | e <;> rw [hid, qhk, qdb, e] <;> rfl
theorem qoz {α β : Type} {f : α → Option β} {p : α → Bool} {g : α → β} : ∀ (s : List α), (∀ x ∈ s, f x = if p x = true then some (g x) else none) → s.filterMap f = (s.filter p).map g
 | [], _ => rfl
 | x :: s, h => by
  have ih := qoz s fun y hy => h y (List.mem_cons_of_mem _ hy)
  have h1 := h x List.mem_cons_self
  by_cases hp : p x = true
  ·rw [if_pos hp] at h1
   rw [List.filterMap_cons, h1, List.filter_cons, if_pos hp, List.map_cons, ih]
  ·rw [if_neg hp] at h1
   rw [List.filterMap_cons, h1, List.filter_cons, if_neg hp, ih]
theorem Qjs {s : List (List UInt8)} {x : List UInt8} (h : x ∈ s) : s.any (eqS x) = true := List.any_eq_true.2 ⟨x, h, qo1.2 rfl⟩
theorem Qnk {l : List qap} (h : qkf l = 0) (what : List UInt8) {S : List (List UInt8)} {x : List UInt8} (hx : x ∈ S) : qdc l what S x = if (!qdb l what x) = true then some (q4m (qhs l what S) x) else none := by
 rw [qdc, Qjs hx, Qrc h]; simp
theorem Qjv {l : List qap} (h : qkf l = 0) (what : List UInt8) {S s : List (List UInt8)} (hs : ∀ x ∈ s, x ∈ S) : q39 (qdc l what S) s = q4u l what (qhs l what S) s := by
 rw [q39, q4u]
 exact qoz _ fun x hx => Qnk h what (hs x hx)
theorem Qoa {l : List qap} (h : qkf l = 0) (what : List UInt8) (s : List (List UInt8)) : q39 (qdc l what s) s = Qrt l what s := Qjv h what fun _ hx => hx
theorem Qe4 (l : List qap) (what : List UInt8) (s : List (List UInt8)) (hl : l.length < 1000000) (hs : s.length < 1000000) : qbg Tryz.prog G2 15 [.d (.sl (l.map qap.toD)), .d (.str what), .d (.sl (s.map .str))] (.tup [.d (.sl ((q2x l what s).map .str)), .d (.int .i64 (qz7 l what s))]) := by
 refine qbg.of3t2 ?_
 refine qac Tryz.func15 rfl rfl (by simp [Tryz.ntmps15]) (qab rfl _ _ _ _ ?_)
 simp only [Tryz.ntmps15, Tryz.results15, qaj, List.length_nil]
 simp only [zU, seval]
 refine qaf (q5i l hl) ?_
 simp only [zU, seval]
 refine ifC.mk (fun h0 => ?_) (fun h0 => ?_)
 ·have h0 : qkf l ≠ 0 := by simpa using h0
  have e : qz7 l what s = qkf l := by rw [qz7, if_pos h0]
  refine ⟨_, _, qch rfl rfl, ?_, rfl⟩
  rw [q2x, e, if_neg h0]; rfl
 have h0 : qkf l = 0 := by simpa using h0
 (try simp only [zU, seval])
 refine qaf (Qlu what) ?_
 simp only [zU, seval]
 refine ifC.mk (fun h1 => ?_) (fun h1 => ?_)
 ·have h1 : q27 what = false := by simpa using h1
  have e : qz7 l what s = 1 := by rw [qz7, if_neg (by rw [h0]; simp), if_pos h1]
  refine ⟨_, _, qch rfl rfl, ?_, rfl⟩
  rw [q2x, e, if_neg (by decide)]; rfl
 have h1 : ¬ q27 what = false := by simpa using h1
 have e1 : qz7 l what s = if qa9 (fun i => qcq (s.getD i default)) s.length ≠ 0 then qa9 (fun i => qcq (s.getD i default)) s.length
   else if qeq l what s = true then 4 else 0 := by rw [qz7, if_neg (by rw [h0]; simp), if_neg h1]
 (try simp only [zU, seval])
 refine qa4 s.length (fun k => [(0, .d (.sl (l.map qap.toD))), (1, .d (.str what)), (2, .d (.sl (s.map .str))), (22, .d (.sl (s.map .str))), (23, .d (.int .i64 s.length)), (24, .d (.int .i64 k))]) (fun _ => []) (fun k => qa9 (fun i => qcq (s.getD i default)) k = 0) rfl ?_ ?_
 ·refine qad [] [] rfl List.nodup_nil ?_ rfl
  simp only [zU, seval]
  all_goals rfl
 intro k hi hk
 by_cases h : k < s.length
 ·have hst := qe0 hi
  simp only [zU, seval, (show (k:Int) < s.length by omega), h, qas _ _ _ (show k < s.length by omega)]
  repeat ((with_reducible refine And.intro ?_ ?_); (focus (first | omega | (simp only [qax]; omega) | (refine qq ?_; rfl) | (refine dq ?_; kernel_rfl) | (intros; simp_all; done))))
  refine qaf (qx4 _) ?_
  simp only [zU, seval]
  refine ifC.mk (fun h2 => ?_) (fun h2 => ?_)
  ·have h2 : qcq (s.getD k default) ≠ 0 := by simpa using h2
   have e2 := qb8 hi h2 h
   have e : qz7 l what s = qcq (s.getD k default) := by rw [e1, e2, if_pos h2]
   refine ⟨_, _, qch rfl rfl, ?_, rfl⟩
   rw [q2x, e, if_neg h2]; rfl
  ·have h2 : qcq (s.getD k default) = 0 := by simpa using h2
   refine ⟨by rw [hst, h2], ?_⟩
   refine qad [] [] rfl List.nodup_nil ?_ rfl
   simp only [zU, seval, @qai ((k:Int) + 1) (by omega)]
   all_goals rfl
 have : k = s.length := by omega
 subst this
 rw [if_neg (by rw [hi]; simp)] at e1
 simp only [zU, seval, (show ¬ (s.length:Int) < s.length by omega)]
 refine qaq ((qx2 l what s hl hs).mono fun r σ ⟨er, es⟩ => ?_)
 subst er es
 simp only [zU, seval]
 refine ifC.mk (fun h2 => ?_) (fun h2 => ?_)
 ·have h2 : qeq l what s = true := by simpa using h2
  rw [if_pos h2] at e1
  refine ⟨_, _, qch rfl rfl, ?_, rfl⟩
  rw [q2x, e1, if_neg (by decide)]; rfl
 have h2 : qeq l what s = false := by simpa using h2
 rw [if_neg (by rw [h2]; simp)] at e1
 (try simp only [zU, seval])
 refine qaq ((Qng (l.map qap.toD) what (qdc l what s) s hs).mono fun r σ ⟨er, es⟩ => ?_)
 subst er es
 simp only [zU, seval]
 refine ⟨_, _, qu9, ?_, rfl⟩
 rw [q2x, e1, if_pos rfl, Qoa h0]
end YtljpopkonkanlaaGreatDoor
end Go.Proofs

set_option maxRecDepth 100000
namespace Go.Proofs
open Go.AM
namespace YtljpopkonkanlaaGreatDoor
variable {Gl : qa7}
def qt8 (s : List UInt8) : List D := (List.range 256).map fun q => .bool (s.any fun c => c.toNat == q)
theorem q6x (s : List UInt8) {q : Nat} (h : q < 256) : (qt8 s).getD q default = .bool (s.any fun c => c.toNat == q) := by simp [qt8, h]
theorem qy3 (s : List UInt8) : (qt8 s).length = 256 := by simp [qt8]
theorem qx3 (s : List UInt8) (c : UInt8) : qag Tryz.prog Gl 191 [.ptr 0 0, .d (.int .u8 (c.toNat : Int))] [.box 256 (.d (.agg (qt8 s)))] (fun r σ => r = .d (.bool (s.any fun x => x == c)) ∧ σ = [.box 256 (.d (.agg (qt8 s)))]) := by
 refine qac Tryz.func191 rfl rfl (by simp [Tryz.ntmps191]) (qab rfl _ _ _ _ ?_)
 simp only [Tryz.ntmps191, Tryz.results191, qaj, List.length_nil]
 simp only [zU, seval]
 have hc : c.toNat < 256 := c.toNat_lt
 refine ⟨⟨rfl, by omega, by omega, by omega⟩, by omega, _, _, qae [] [0] rfl (by simp) (show qbf _ _ _ = AV.d _ from rfl) rfl, ?_, rfl⟩
 rw [Nat.mul_one, q6x s hc]
 congr 2
 congr 1
 funext x
 rw [Bool.eq_iff_iff]
 simp [UInt8.toNat_inj]
theorem Qhs (p : List UInt8) (x : UInt8) : List.map (fun j => if x.toNat * 1 ≤ j ∧ j < x.toNat * 1 + 1 then AV.d ([D.bool true].getD (j - x.toNat * 1) default) else AV.d ((qt8 p).getD j default)) (List.range 256) = (qt8 (p ++ [x])).map AV.d := by
 refine List.ext_getElem (by simp [qt8]) fun j h1 h2 => ?_
 have hj : j < 256 := by simpa using h1
 simp only [List.getElem_map, List.getElem_range]
 rw [q6x p hj]
 have e : (qt8 (p ++ [x]))[j]'(by simpa [qt8] using hj) = .bool ((p ++ [x]).any fun c => c.toNat == j) := by simp [qt8]
 rw [e, List.any_append]
 by_cases h : x.toNat = j
 ·rw [if_pos (by omega), show j - x.toNat * 1 = 0 by omega]
  simp [h]
 ·rw [if_neg (by omega)]
  simp [h]
theorem Qek (s : List UInt8) (hs : s.length < 1000) (ha : ∀ c ∈ s, c.toNat < 128) : qbg Tryz.prog Gl 152 [.d (.str s)] (.tup [.d (.agg (qt8 s)), .d (.bool true)]) := by
 refine qbg.of1t2 ?_
 refine qac Tryz.func152 rfl rfl (by simp [Tryz.ntmps152]) (qab rfl _ _ _ _ ?_)
 simp only [Tryz.ntmps152, Tryz.results152, qaj, List.length_nil]
 simp only [zU, seval]
 refine qa4 s.length (fun k => [(0, .d (.str s)), (2, .ptr 0 0), (4, .d (.int .i64 k))]) (fun k => [.box 256 (.d (.agg (qt8 (s.take k))))]) (fun _ => True) trivial ?_ ?_
 ·refine qad [] [0] rfl (by simp) ?_ ?_
  ·simp only [zU, seval]
   all_goals rfl
  ·have e : qt8 [] = List.replicate 256 (D.bool false) := by
    refine List.ext_getElem (by rw [qy3, List.length_replicate]) fun j h1 h2 => ?_
    rw [List.getElem_replicate]; simp [qt8]
   rw [List.take_zero, e]; rfl
 ·intro k _ hk
  by_cases h : k < s.length
  ·obtain ⟨x, hx⟩ : ∃ x, x = s.getD k default := ⟨_, rfl⟩
   have ht : s.take (k + 1) = s.take k ++ [x] := by rw [qay s k h, ← hx]
   have hd : s.getD k 0 = x := by rw [hx]; rfl
   have hxa := ha x (by rw [hx]; exact qde h)
   simp only [zU, seval, (show (k:Int) < s.length by omega), hd]
   repeat ((with_reducible refine And.intro ?_ ?_); (focus (first | omega | (simp only [qax]; omega) | (refine qq ?_; rfl) | (refine dq ?_; kernel_rfl) | (intros; simp_all; done))))
   refine ifC.mk (fun h1 => ?_) (fun h1 => ?_)
   ·exfalso; simp at h1; omega
   refine ⟨⟨rfl, by omega, by omega, by omega⟩, by omega, h, ?_⟩
   refine qad [] [0] rfl (by simp) ?_ ?_
   ·simp only [zU, seval, @qai ((k:Int) + 1) (by omega)]
    all_goals rfl
   ·rw [ht, Qhs, Qjw]
    rfl
  ·have : k = s.length := by omega
   subst this
   simp only [zU, seval, (show ¬ (s.length:Int) < s.length by omega), List.take_length]
   exact ⟨qy3 s, _, _, qu9, rfl, rfl⟩
def inS (cs : List UInt8) (c : UInt8) : Bool := cs.any fun x => x == c
def qo7 (cs s : List UInt8) : List UInt8 := (s.reverse.dropWhile (inS cs)).reverse
def q4d (cs s : List UInt8) : List UInt8 := s.dropWhile (inS cs)
theorem qu0 (cs v : List UInt8) (c : UInt8) : qo7 cs (v ++ [c]) = if inS cs c = true then qo7 cs v else v ++ [c] := by
 rw [qo7, List.reverse_append, List.reverse_singleton, List.singleton_append, List.dropWhile_cons]
 split
 ·rfl
 ·rw [List.reverse_cons, List.reverse_reverse]
theorem q42 (s cs : List UInt8) (hs : s.length < 9223372036854775808) : qag Tryz.prog Gl 154 [.d (.str s), .ptr 0 0] [.box 256 (.d (.agg (qt8 cs)))] (fun r σ => r = .d (.str (qo7 cs s)) ∧ σ = [.box 256 (.d (.agg (qt8 cs)))]) := by
 refine qac Tryz.func154 rfl rfl (by simp [Tryz.ntmps154]) (qab rfl _ _ _ _ ?_)
 simp only [Tryz.ntmps154, Tryz.results154, qaj, List.length_nil]
 simp only [zU, seval]
 refine qcl (τ := List UInt8) (fun u => [(0, .d (.str u)), (1, .ptr 0 0)]) (fun _ => [.box 256 (.d (.agg (qt8 cs)))]) (fun u => u.length ≤ s.length ∧ qo7 cs u = qo7 cs s) (fun u => u.length) s ?_ ?_ ?_
 ·exact ⟨Nat.le_refl _, rfl⟩
 ·refine qad [] [0] rfl (by simp) ?_ rfl
  simp only [zU, seval]
  try rfl
 ·rintro u ⟨h1, h2⟩
  rcases List.eq_nil_or_concat u with rfl | ⟨v, c, rfl⟩
  ·simp only [zU, seval]
   refine ⟨_, _, qae [] [0] rfl (by simp) (show qbf _ _ _ = AV.d _ from rfl) rfl, ?_, rfl⟩
   rw [← h2]; rfl
  ·rw [List.concat_eq_append] at h1 h2 ⊢
   have hl : (v ++ [c]).length = v.length + 1 := by simp
   rw [hl] at h1
   have e1 : decide (0 < ((v ++ [c]).length : Int)) = true := decide_eq_true (by omega)
   have e2 : (v ++ [c]).getD v.length 0 = c := by simp
   have e3 : (v ++ [c]).take v.length = v := by simp
   have e0 : (v.length : Int) + 1 - 1 = v.length := by omega
   simp only [zU, seval, hl, (show (0:Int) < (v.length : Int) + 1 by omega), @qai ((v.length : Int)) (by omega), e0, (show (v.length : Int) < (v.length : Int) + 1 by omega), Int.toNat_natCast, e2]
   repeat ((with_reducible refine And.intro ?_ ?_); (focus (first | omega | (simp only [qax]; omega) | (refine qq ?_; rfl) | (refine dq ?_; kernel_rfl) | (intros; simp_all; done))))
   refine qaq ((qx3 cs c).mono fun r σ ⟨er, es⟩ => ?_)
   subst er es
   simp only [zU, seval]
   have e4 : (cs.any fun x => x == c) = inS cs c := rfl
   rw [e4]
   rw [qu0] at h2
   refine ifC.mk (fun hc => ?_) (fun hc => ?_)
   ·have hc : inS cs c = false := by simpa using hc
    rw [if_neg (by rw [hc]; simp)] at h2
    refine ⟨_, _, qae [] [0] rfl (by simp) (show qbf _ _ _ = AV.d _ from rfl) rfl, ?_, rfl⟩
    rw [← h2]
   ·have hc : inS cs c = true := by simpa using hc
    rw [if_pos hc] at h2
    (try simp only [zU, seval, hl, @qai ((v.length : Int)) (by omega), e0, e3, Int.toNat_natCast])
    repeat ((with_reducible refine And.intro ?_ ?_); (focus (first | omega | (simp only [qax]; omega) | (refine qq ?_; rfl) | (refine dq ?_; kernel_rfl) | (intros; simp_all; done))))
    refine ⟨v, ⟨by omega, h2⟩, by omega, ?_⟩
    refine qad [] [0] rfl (by simp) ?_ rfl
    simp only [zU, seval]
    try rfl
theorem Qat (s cs : List UInt8) (hs : s.length < 9223372036854775808) : qag Tryz.prog Gl 153 [.d (.str s), .ptr 0 0] [.box 256 (.d (.agg (qt8 cs)))] (fun r σ => r = .d (.str (q4d cs s)) ∧ σ = [.box 256 (.d (.agg (qt8 cs)))]) := by
 refine qac Tryz.func153 rfl rfl (by simp [Tryz.ntmps153]) (qab rfl _ _ _ _ ?_)
 simp only [Tryz.ntmps153, Tryz.results153, qaj, List.length_nil]
 simp only [zU, seval]
 refine qcl (τ := List UInt8) (fun u => [(0, .d (.str u)), (1, .ptr 0 0)]) (fun _ => [.box 256 (.d (.agg (qt8 cs)))]) (fun u => u.length ≤ s.length ∧ q4d cs u = q4d cs s) (fun u => u.length) s ?_ ?_ ?_
 ·exact ⟨Nat.le_refl _, rfl⟩
 ·refine qad [] [0] rfl (by simp) ?_ rfl
  simp only [zU, seval]
  try rfl
 ·rintro u ⟨h1, h2⟩
  cases u with
  | nil =>
   simp only [zU, seval]
   refine ⟨_, _, qae [] [0] rfl (by simp) (show qbf _ _ _ = AV.d _ from rfl) rfl, ?_, rfl⟩
   rw [← h2]; rfl
  | cons c v =>
   have hl : (c :: v).length = v.length + 1 := by simp
   rw [hl] at h1
   simp only [zU, seval, hl, (show (0:Int) < (v.length : Int) + 1 by omega)]
   repeat ((with_reducible refine And.intro ?_ ?_); (focus (first | omega | (simp only [qax]; omega) | (refine qq ?_; rfl) | (refine dq ?_; kernel_rfl) | (intros; simp_all; done))))
   refine qaq ((qx3 cs c).mono fun r σ ⟨er, es⟩ => ?_)
   subst er es
   simp only [zU, seval]
   have e4 : (cs.any fun x => x == c) = inS cs c := rfl
   rw [e4]
   rw [q4d, List.dropWhile_cons] at h2
   refine ifC.mk (fun hc => ?_) (fun hc => ?_)
   ·have hc : inS cs c = false := by simpa using hc
    rw [if_neg (by rw [hc]; simp)] at h2
    refine ⟨_, _, qae [] [0] rfl (by simp) (show qbf _ _ _ = AV.d _ from rfl) rfl, ?_, rfl⟩
    rw [← h2]
   ·have hc : inS cs c = true := by simpa using hc
    rw [if_pos hc] at h2
    have e5 : ((v.length : Int) + 1).toNat = v.length + 1 := by omega
    have e6 : (c :: v).take (v.length + 1) = c :: v := by simp
    (try simp only [zU, seval, hl, (show (1:Int) ≤ (v.length : Int) + 1 by omega), e5, e6, List.drop_succ_cons, List.drop_zero])
    repeat ((with_reducible refine And.intro ?_ ?_); (focus (first | omega | (simp only [qax]; omega) | (refine qq ?_; rfl) | (refine dq ?_; kernel_rfl) | (intros; simp_all; done))))
    refine ⟨v, ⟨by omega, h2⟩, by omega, ?_⟩
    refine qad [] [0] rfl (by simp) ?_ rfl
    simp only [zU, seval, e5, e6, List.drop_succ_cons, List.drop_zero]
    try rfl
def q5w : List UInt8 := [48, 49, 50, 51, 52, 53, 54, 55, 56, 57]
theorem Qqs (s : List UInt8) (hs : s.length < 9223372036854775808) (h0 : s ≠ []) : qbg Tryz.prog Gl 97 [.d (.str s), .d (.str q5w)] (.d (.str (q4d q5w (qo7 q5w s)))) := by
 refine qbg.of2 ?_
 have e0 : (s == []) = false := by cases s with
  | nil => exact absurd rfl h0
  | cons a b => rfl
 have e1 : (q5w == []) = false := rfl
 have e2 : ((q5w.length : Int) == 1) = false := rfl
 refine qac Tryz.func97 rfl rfl (by simp [Tryz.ntmps97]) (qab rfl _ _ _ _ ?_)
 simp only [Tryz.ntmps97, Tryz.results97, qaj, List.length_nil]
 simp only [zU, seval, e0, e1, e2]
 repeat ((with_reducible refine And.intro ?_ ?_); (focus (first | omega | (simp only [qax]; omega) | (refine qq ?_; rfl) | (refine dq ?_; kernel_rfl) | (intros; simp_all; done))))
 refine qaf (Qek q5w (by decide) (by decide)) ?_
 simp only [zU, seval]
 refine ⟨qy3 _, ?_⟩
 refine qaq ((q42 s q5w hs).mono fun r σ ⟨er, es⟩ => ?_)
 subst er es
 simp only [zU, seval]
 have hr : (qo7 q5w s).length < 9223372036854775808 := by
  have : (qo7 q5w s).length ≤ s.length := by
   rw [qo7, List.length_reverse]
   exact Nat.le_trans (List.dropWhile_suffix _).length_le (by simp)
  omega
 refine qaq ((Qat (qo7 q5w s) q5w hr).mono fun r σ ⟨er, es⟩ => ?_)
 subst er es
 simp only [zU, seval]
 exact ⟨_, _, qau, rfl, rfl⟩
theorem Qq3 {p : UInt8 → Bool} {c : UInt8} (h : p c = false) : ∀ v : List UInt8, (v ++ [c]).dropWhile p ≠ []
 | [] => by simp [List.dropWhile_cons, h]
 | a :: v => by
  rw [List.cons_append, List.dropWhile_cons]
  split
  ·exact Qq3 h v
  ·simp
theorem q6s (cs : List UInt8) : ∀ (n : Nat) (t : List UInt8), t.length = n → (q4d cs (qo7 cs t) == []) = t.all (inS cs)
 | n, t, hn => by
  rcases List.eq_nil_or_concat t with rfl | ⟨v, c, rfl⟩
  ·rfl
  ·rw [List.concat_eq_append] at hn ⊢
   have hv : v.length < n := by rw [List.length_append] at hn; simp at hn; omega
   rw [qu0, List.all_append]
   by_cases h : inS cs c = true
   ·rw [if_pos h, q6s cs v.length v rfl]; simp [h]
   ·rw [if_neg h]
    have h : inS cs c = false := by simpa using h
    have h2 : ¬ q4d cs (v ++ [c]) = [] := Qq3 h v
    simp [h, h2]
termination_by n => n
def Qrk (c : UInt8) : Bool := decide (48 ≤ c.toNat) && decide (c.toNat ≤ 57)
theorem Qnz : ∀ n : Nat, n < 256 → inS q5w (UInt8.ofNat n) = Qrk (UInt8.ofNat n) := by decide +kernel
theorem Qq4 (c : UInt8) : inS q5w c = Qrk c := by
 have := Qnz c.toNat c.toNat_lt
 rwa [UInt8.ofNat_toNat] at this
def qj9 (s : List UInt8) : Bool := qz4 s qev && !((s.drop qev.length == []) || (((s.drop qev.length).getD 0 0).toNat : Int) == 48) && (s.drop qev.length).all Qrk
theorem Qrx (s p : List UInt8) : qbg Tryz.prog Gl 149 [.d (.str s), .d (.str p)] (.tup [.d (.str (if qz4 s p = true then s.drop p.length else s)), .d (.bool (qz4 s p))]) := by
 refine qbg.of2t2 ?_
 refine qac Tryz.func149 rfl rfl (by simp [Tryz.ntmps149]) (qab rfl _ _ _ _ ?_)
 simp only [Tryz.ntmps149, Tryz.results149, qaj, List.length_nil]
 simp only [zU, seval]
 refine qaf (Qsm s p) ?_
 simp only [zU, seval]
 refine ifC.mk (fun h => ?_) (fun h => ?_)
 ·have h : qz4 s p = false := by simpa using h
  refine ⟨_, _, qu9, ?_, rfl⟩
  rw [h, if_neg (by simp)]
 ·have h : qz4 s p = true := by simpa using h
  have hl : p.length ≤ s.length := by
   rw [qz4, Bool.and_eq_true, decide_eq_true_eq] at h; exact h.1
  (try simp only [zU, seval, (show (p.length : Int) ≤ s.length by omega), List.take_length])
  repeat ((with_reducible refine And.intro ?_ ?_); (focus (first | omega | (simp only [qax]; omega) | (refine qq ?_; rfl) | (refine dq ?_; kernel_rfl) | (intros; simp_all; done))))
  refine ⟨_, _, qu9, ?_, rfl⟩
  rw [h, if_pos rfl]
theorem q5h (s p : List UInt8) : qbg Tryz.prog Gl 96 [.d (.str s), .d (.str p)] (.tup [.d (.str (if qz4 s p = true then s.drop p.length else s)), .d (.bool (qz4 s p))]) := by
 refine qbg.of2t2 ?_
 refine qac Tryz.func96 rfl rfl (by simp [Tryz.ntmps96]) (qab rfl _ _ _ _ ?_)
 simp only [Tryz.ntmps96, Tryz.results96, qaj, List.length_nil]
 simp only [zU, seval]
 refine qaf (Qrx s p) ?_
 simp only [zU, seval]
 exact ⟨_, _, qu9, rfl, rfl⟩
theorem Qa1 (s : List UInt8) (hs : s.length < 9223372036854775808) : qbg Tryz.prog Gl 52 [.d (.str s)] (.d (.bool (qj9 s))) := by
 refine qbg.of1 ?_
 refine qac Tryz.func52 rfl rfl (by simp [Tryz.ntmps52]) (qab rfl _ _ _ _ ?_)
 simp only [Tryz.ntmps52, Tryz.results52, qaj, List.length_nil]
 simp only [zU, seval]
 refine qaf (q5h s _) ?_
 have e7 : [104, 105, 100, 100, 101, 110, 45] = qev := rfl
 rw [e7]
 obtain ⟨b, hb⟩ : ∃ b, b = qz4 s qev := ⟨_, rfl⟩
 rw [← hb]
 cases b with
 | false =>
  simp only [zU, seval]
  refine ⟨_, _, qau, ?_, rfl⟩
  rw [qj9, ← hb]; rfl
 | true =>
  obtain ⟨t, ht⟩ : ∃ t, t = s.drop qev.length := ⟨_, rfl⟩
  have e : qj9 s = (!((t == []) || ((t.getD 0 0).toNat : Int) == 48) && t.all Qrk) := by rw [qj9, ← hb, ht, Bool.true_and]
  have hl : t.length ≤ s.length := by rw [ht, List.length_drop]; omega
  rw [e]
  simp only [zU, seval, ← ht]
  refine ⟨fun h => ?_, ?_⟩
  ·cases t with
   | nil => cases h
   | cons a b => simp
  refine ifC.mk (fun hc => ?_) (fun hc => ?_)
  ·refine ⟨_, _, qau, ?_, rfl⟩
   rw [hc]; rfl
  ·have h0 : t ≠ [] := by rintro rfl; cases hc
   rw [show ([48, 49, 50, 51, 52, 53, 54, 55, 56, 57] : List UInt8) = q5w from rfl]
   refine qaf (Qqs t (by omega) h0) ?_
   simp only [zU, seval]
   refine ⟨_, _, qau, ?_, rfl⟩
   rw [hc, q6s q5w t.length t rfl]
   congr 2
   rw [Bool.not_false, Bool.true_and]
   congr 1
   funext c
   exact Qq4 c

def qbb (g : Int → Bool) : Key → Option AV
 | .i n => if g n = true then some (.d (.bool true)) else none
 | .s _ => none
theorem qx0 (g : Int → Bool) : ∀ k v, qbb g k = some v → ∃ d, v = .d d := by
 intro k v h
 cases k with
 | s m => cases h
 | i m =>
  simp only [qbb] at h
  split at h
  ·cases h; exact ⟨_, rfl⟩
  ·cases h
theorem qam (g : Int → Bool) (n : Int) : (qbb g (.i n)).getD (.d (.bool false)) = .d (.bool (g n)) := by
 cases h : g n <;> simp [qbb, h]
theorem Qic (g : Int → Bool) (n : Int) : qfy (qbb g) (.i n) (.d (.bool true)) = qbb (fun m => m == n || g m) := by
 funext k
 cases k with
 | s m => simp [qfy, qbb]
 | i m => by_cases h : m = n <;> simp [qfy, qbb, h]
theorem Qd0 : (fun _ => none) = qbb fun _ => false := by
 funext k; cases k <;> simp [qbb]
theorem qbw (g : Int → Bool) (ρ : List Nat) (σ : Sto) : qbv ρ σ (.map (some .i64) (qbb g)) = .map (some .i64) (qbb g) := qgf (B := .map (some .i64) (qbb g)) (qx0 g) ρ σ
theorem qct (g : Int → Bool) (b : Nat → Nat) : qc5 b (.map (some .i64) (qbb g)) = .map (some .i64) (qbb g) := qgg (B := .map (some .i64) (qbb g)) (qx0 g) b
theorem qkb {α : Type} {p : α → Bool} {l : List α} {k j : Nat} (hk : k < l.length) (h : (l.take (k + 1)).filter p = l.take k) (hj : k < j) (hjl : j ≤ l.length) : ((l.take j).filter p).length < j := by
 have e : l.take j = l.take (k + 1) ++ (l.take j).drop (k + 1) := by
  conv => lhs; rw [← List.take_append_drop (k + 1) (l.take j)]
  rw [List.take_take, Nat.min_eq_left (by omega)]
 have h2 := List.length_filter_le p ((l.take j).drop (k + 1))
 rw [e, List.filter_append, List.length_append, h, List.length_take]
 rw [List.length_drop, List.length_take] at h2
 omega
theorem qfc {α : Type} [Inhabited α] {xs : List α} {i : Nat} (h : i < xs.length) (x : α) : (xs.set i x).take (i + 1) = xs.take i ++ [x] := by
 rw [qay _ i (by rw [List.length_set]; exact h)]
 congr 1
 ·apply List.ext_getElem?
  intro k
  rcases Nat.lt_or_ge k i with hk | hk
  ·rw [List.getElem?_take_of_lt hk, List.getElem?_take_of_lt hk, List.getElem?_set_ne (by omega)]
  ·rw [List.getElem?_eq_none (by rw [List.length_take]; omega), List.getElem?_eq_none (by rw [List.length_take]; omega)]
 ·rw [List.getD_eq_getElem?_getD, List.getElem?_set_self h]; rfl
theorem qfd {α : Type} {xs : List α} {i j : Nat} (h : i < j) (x : α) : (xs.set i x).drop j = xs.drop j := by
 apply List.ext_getElem?
 intro k
 rw [List.getElem?_drop, List.getElem?_drop, List.getElem?_set_ne (by omega)]
theorem qek (xs : List D) (i n : Nat) (z : D) : (qgs xs i n z).take i = xs.take i := by
 apply List.ext_getElem?
 intro k
 rcases Nat.lt_or_ge k i with hk | hk
 ·rw [List.getElem?_take_of_lt hk, List.getElem?_take_of_lt hk]
  rcases Nat.lt_or_ge k xs.length with h | h
  ·rw [qmv _ _ _ _ _ h, if_neg (by omega), List.getD_eq_getElem?_getD, List.getElem?_eq_getElem h]; rfl
  ·rw [List.getElem?_eq_none (by rw [qbe]; exact h), List.getElem?_eq_none h]
 ·rw [List.getElem?_eq_none (by rw [List.length_take]; omega), List.getElem?_eq_none (by rw [List.length_take]; omega)]
theorem qzn (l : List qao) (hl : l.length < 1000000) : qi8 Tryz.prog Gl 138 [.d (.sl (l.map qao.toD))] 3 (l.map qao.toD) := by
 refine qi8.of (args := [.sl (l.map qao.toD)]) ?_
 have hes : ∀ y ∈ l.map qao.toD, y.cells.length = 3 := fun y hy => by
  obtain ⟨r, _, rfl⟩ := List.mem_map.1 hy; rfl
 have hfl : ∀ y ∈ l.map qao.toD, y.flat := fun y hy => by
  obtain ⟨r, _, rfl⟩ := List.mem_map.1 hy
  intro c hc
  simp [qao.toD, D.cells] at hc
  rcases hc with rfl | rfl | rfl <;> rfl
 simp only [List.map_cons, List.map_nil]
 cases l with
 | nil =>
  refine qac Tryz.func138 rfl rfl (by simp [Tryz.ntmps138]) (qab rfl _ _ _ _ ?_)
  simp only [Tryz.ntmps138, Tryz.results138, qaj, List.length_nil]
  simp only [zU, seval]
  refine ⟨⟨_, _, qeg 3 (Nat.le_refl 0), rfl, rfl⟩, ?_⟩
  exact ⟨_, _, qae [] [1] rfl (by simp) rfl rfl, rfl, rfl⟩
 | cons r rs =>
  simp only [List.map_cons, List.length_cons] at hes hl hfl ⊢
  refine qac Tryz.func138 rfl rfl (by simp [Tryz.ntmps138]) (qab rfl _ _ _ _ ?_)
  simp only [Tryz.ntmps138, Tryz.results138, qaj, List.length_nil]
  simp only [zU, seval]
  refine ⟨by omega, ?_⟩
  exact ⟨_, _, qae [] [1] rfl (by simp) rfl rfl, rfl, rfl⟩
theorem qea (g : Int → Bool) (xs : List D) (σ : Sto) : qdd [0, 1, 2] (freezeL (.box 1 (.mapr 1) :: .map (some .i64) (qbb g) :: .arr 3 xs :: σ) []) = .box 1 (.mapr 1) :: .map (some .i64) (qbb g) :: .arr 3 xs :: [] := by
 show [qbv [0, 1, 2] _ (.box 1 (.mapr 1)), qbv [0, 1, 2] _ (.map (some .i64) (qbb g)), _] = _
 rw [qbw]; rfl
theorem Qaf (g : Int → Bool) (xs : List D) (B : Blk) : qdd [0, 1, 3] (freezeL (.box 1 (.mapr 1) :: .map (some .i64) (qbb g) :: B :: .arr 3 xs :: []) []) = .box 1 (.mapr 1) :: .map (some .i64) (qbb g) :: .arr 3 xs :: [] := by
 show [qbv [0, 1, 3] _ (.box 1 (.mapr 1)), qbv [0, 1, 3] _ (.map (some .i64) (qbb g)), _] = _
 rw [qbw]; rfl
theorem Qag (g : Int → Bool) (σ : Sto) : qdd [0, 1] (freezeL (.box 1 (.mapr 1) :: .map (some .i64) (qbb g) :: σ) []) = .box 1 (.mapr 1) :: .map (some .i64) (qbb g) :: [] := by
 show [qbv [0, 1] _ (.box 1 (.mapr 1)), qbv [0, 1] _ (.map (some .i64) (qbb g))] = _
 rw [qbw]; rfl
theorem q45 (g : Int → Bool) {fv : FuncId} (p : qao → Bool) (hp : ∀ x : qao, qag Tryz.prog Gl fv [.d x.toD, .ptr 0 0] (.box 1 (.mapr 1) :: .map (some .i64) (qbb g) :: []) (fun r s => r = .d (.bool (p x)) ∧ s = (.box 1 (.mapr 1) :: .map (some .i64) (qbb g) :: []))) (l : List qao) (hl : l.length < 1000000) :
  qag Tryz.prog Gl 187 [.osl 2 0 l.length, .fn fv [.ptr 0 0]] (.box 1 (.mapr 1) :: .map (some .i64) (qbb g) :: .arr 3 (l.map qao.toD) :: [])
  (fun r s => (∃ j : Int, r = .d (.int .i64 j) ∧ ((j = -1 ∧ l.filter (fun x => !p x) = l) ∨ ∃ k : Nat, j = k ∧ k < l.length ∧ (l.take (k + 1)).filter (fun x => !p x) = l.take k)) ∧ s = (.box 1 (.mapr 1) :: .map (some .i64) (qbb g) :: .arr 3 (l.map qao.toD) :: [])) := by
 refine qac Tryz.func187 rfl rfl (by simp [Tryz.ntmps187]) (qab rfl _ _ _ _ ?_)
 simp only [Tryz.ntmps187, Tryz.results187, qaj, List.length_nil]
 simp only [zU, seval]
 refine qa4 l.length (fun k => [(0, .osl 2 0 l.length), (1, .fn fv [.ptr 0 0]), (7, .d (.int .i64 l.length)), (8, .d (.int .i64 k))]) (fun _ => (.box 1 (.mapr 1) :: .map (some .i64) (qbb g) :: .arr 3 (l.map qao.toD) :: [])) (fun k => (l.take k).filter (fun x => !p x) = l.take k) rfl ?_ ?_
 ·refine qad [] [0, 1, 2] rfl (by simp) ?_ (qea g _ _)
  simp only [zU, seval]
  try rfl
 ·intro k hi hk
  by_cases h : k < l.length
  ·obtain ⟨x, hx⟩ : ∃ x, x = l.getD k default := ⟨_, rfl⟩
   have eg : (l.map qao.toD).getD k default = x.toD := by rw [qas _ _ _ h, ← hx]
   have hst := qay l k h
   rw [← hx] at hst
   simp only [zU, seval, (show (k:Int) < l.length by omega), h, eg]
   repeat ((with_reducible refine And.intro ?_ ?_); (focus (first | omega | (simp only [qax]; omega) | (refine qq ?_; rfl) | (refine dq ?_; kernel_rfl) | (intros; simp_all; done))))
   refine qbz (R := fun r ν => r = .d (.bool (p x)) ∧ ν = []) [0, 1] (.box 1 (.mapr 1) :: .map (some .i64) (qbb g) :: []) (by simp) (by simp) (show [qbv [0, 1] _ (.box 1 (.mapr 1)), qbv [0, 1] _ (.map (some .i64) (qbb g))] = _ by rw [qbw]; rfl) rfl (hk2 rfl (qct g _)) ((hp x).mono fun r s hr => ⟨[], by rw [hr.2]; rfl, hr.1, rfl⟩) (fun r ν hr => ?_)
   obtain ⟨rfl, rfl⟩ := hr
   simp only [zU, seval, List.map_nil, List.append_nil]
   refine ifC.mk (fun hc => ?_) (fun hc => ?_)
   ·refine ⟨_, _, qae [] [0, 1, 2] rfl (by simp) (show qbf _ _ _ = AV.d _ from rfl) (qea g _ _), ⟨k, rfl, .inr ⟨k, rfl, h, ?_⟩⟩, rfl⟩
    rw [hst, List.filter_append, hi, List.filter_cons_of_neg (by rw [hc]; simp)]
    simp
   ·refine ⟨by rw [hst, List.filter_append, hi, List.filter_cons_of_pos (by rw [hc]; rfl)]; rfl, ?_⟩
    refine qad [] [0, 1, 2] rfl (by simp) ?_ (qea g _ _)
    simp only [zU, seval, @qai ((k:Int) + 1) (by omega)]
    try rfl
  ·have : k = l.length := by omega
   subst this
   rw [List.take_length] at hi
   simp only [zU, seval, (show ¬ (l.length:Int) < l.length by omega)]
   exact ⟨_, _, qae [] [0, 1, 2] rfl (by simp) (show qbf _ _ _ = AV.d _ from rfl) (qea g _ _), ⟨-1, rfl, .inl ⟨rfl, hi⟩⟩, rfl⟩
theorem q49 (g : Int → Bool) {fv : FuncId} (p : qao → Bool) (hp : ∀ x : qao, qag Tryz.prog Gl fv [.d x.toD, .ptr 0 0] (.box 1 (.mapr 1) :: .map (some .i64) (qbb g) :: []) (fun r s => r = .d (.bool (p x)) ∧ s = (.box 1 (.mapr 1) :: .map (some .i64) (qbb g) :: []))) (l : List qao) (hl : l.length < 1000000) :
  qag Tryz.prog Gl 137 [.osl 2 0 l.length, .fn fv [.ptr 0 0]] (.box 1 (.mapr 1) :: .map (some .i64) (qbb g) :: .arr 3 (l.map qao.toD) :: [])
  (fun r s => (r = .osl 2 0 (l.filter (fun x => !p x)).length ∧ s = (.box 1 (.mapr 1) :: .map (some .i64) (qbb g) :: .arr 3 ((l.filter (fun x => !p x)).map qao.toD) :: [])) ∨ (r = .osl 3 0 (l.filter (fun x => !p x)).length ∧ s = (.box 1 (.mapr 1) :: .map (some .i64) (qbb g) :: .dead :: .arr 3 ((l.filter (fun x => !p x)).map qao.toD) :: []))) := by
 refine qac Tryz.func137 rfl rfl (by simp [Tryz.ntmps137]) (qab rfl _ _ _ _ ?_)
 simp only [Tryz.ntmps137, Tryz.results137, qaj, List.length_nil]
 simp only [zU, seval]
 refine qaq ((q45 g p hp l hl).mono fun r s hr => ?_)
 obtain ⟨⟨c, rfl, hcs⟩, rfl⟩ := hr
 rcases hcs with ⟨rfl, hn⟩ | ⟨k, rfl, hk, hf⟩
 ·simp only [zU, seval]
  rw [hn]
  refine ⟨_, _, qae [] [0, 1, 2] rfl (by simp) rfl (qea g _ _), .inl ⟨rfl, rfl⟩⟩
 ·have e0 : ((k : Int) == -1) = false := by rw [beq_eq_false_iff_ne]; omega
  simp only [zU, seval, e0, @qai ((k:Int) + 1) (by omega)]
  repeat ((with_reducible refine And.intro ?_ ?_); (focus (first | omega | (simp only [qax]; omega) | (refine qq ?_; rfl) | (refine dq ?_; kernel_rfl) | (intros; simp_all; done))))
  refine qcl (τ := Nat × List qao) (fun u => [(0, .osl 2 0 l.length), (1, .fn fv [.ptr 0 0]), (5, .d (.int .i64 (((l.take u.1).filter (fun x => !p x)).length : Nat))), (6, .d (.int .i64 u.1))]) (fun u => (.box 1 (.mapr 1) :: .map (some .i64) (qbb g) :: .arr 3 (u.2.map qao.toD) :: []))
   (fun u => k < u.1 ∧ u.1 ≤ l.length ∧ u.2.length = l.length ∧ u.2.take ((l.take u.1).filter (fun x => !p x)).length = (l.take u.1).filter (fun x => !p x) ∧ u.2.drop u.1 = l.drop u.1) (fun u => l.length - u.1) (k + 1, l) ?_ ?_ ?_
  ·refine ⟨by simp only; omega, hk, rfl, ?_, rfl⟩
   simp only
   rw [hf, List.length_take, Nat.min_eq_left (by omega)]
  ·have e1 : ((l.take (k + 1)).filter (fun x => !p x)).length = k := by rw [hf, List.length_take]; omega
   rw [e1]
   refine qad [] [0, 1, 2] rfl (by simp) ?_ (qea g _ _)
   simp only [zU, seval]
   try rfl
  ·rintro ⟨j, xs⟩ ⟨hkj, hj, hxl, hpre, hdr⟩
   simp only at hkj hj hxl hpre hdr
   obtain ⟨i, hi⟩ : ∃ i, i = ((l.take j).filter (fun x => !p x)).length := ⟨_, rfl⟩
   have hij := qkb hk hf hkj hj
   rw [← hi] at hpre hij
   rw [← hi]
   by_cases h : j < l.length
   ·obtain ⟨x, hx⟩ : ∃ x, x = l.getD j default := ⟨_, rfl⟩
    have hxx : xs.getD j default = x := by
     have e : xs[j]? = l[j]? := by
      have := congrArg (fun z => z[0]?) hdr
      simpa using this
     rw [List.getD_eq_getElem?_getD, e, hx, List.getD_eq_getElem?_getD]
    have eg : (xs.map qao.toD).getD j default = x.toD := by rw [qas _ _ _ (by omega), hxx]
    have hst := qay l j h
    rw [← hx] at hst
    simp only [zU, seval, (show (j:Int) < l.length by omega), h, eg, hxl]
    repeat ((with_reducible refine And.intro ?_ ?_); (focus (first | omega | (simp only [qax]; omega) | (refine qq ?_; rfl) | (refine dq ?_; kernel_rfl) | (intros; simp_all; done))))
    refine qbz (R := fun r ν => r = .d (.bool (p x)) ∧ ν = []) [0, 1] (.box 1 (.mapr 1) :: .map (some .i64) (qbb g) :: []) (by simp) (by simp) (show [qbv [0, 1] _ (.box 1 (.mapr 1)), qbv [0, 1] _ (.map (some .i64) (qbb g))] = _ by rw [qbw]; rfl) rfl (hk2 rfl (qct g _)) ((hp x).mono fun r s hr => ⟨[], by rw [hr.2]; rfl, hr.1, rfl⟩) (fun r ν hr => ?_)
    obtain ⟨rfl, rfl⟩ := hr
    simp only [zU, seval, List.map_nil, List.append_nil]
    have hdr2 : xs.drop (j + 1) = l.drop (j + 1) := by
     have := congrArg (List.drop 1) hdr
     rwa [List.drop_drop, List.drop_drop] at this
    refine ifC.mk (fun hc => ?_) (fun hc => ?_)
    ·have hfl : (l.take (j + 1)).filter (fun x => !p x) = (l.take j).filter (fun x => !p x) ++ [x] := by rw [hst, List.filter_append, List.filter_cons_of_pos (p := fun x => !p x) hc]; rfl
     have hfn : ((l.take (j + 1)).filter (fun x => !p x)).length = i + 1 := by rw [hfl, List.length_append, ← hi]; rfl
     (try simp only [zU, seval, (show (i:Int) < l.length by omega), hxl])
     repeat ((with_reducible refine And.intro ?_ ?_); (focus (first | omega | (simp only [qax]; omega) | (refine qq ?_; rfl) | (refine dq ?_; kernel_rfl) | (intros; simp_all; done))))
     refine ⟨(j + 1, xs.set i x), ⟨by simp only; omega, h, by simp only [List.length_set]; exact hxl, ?_, ?_⟩, by simp only; omega, ?_⟩
     ·simp only
      rw [hfn, qfc (by omega), hpre, hfl]
     ·simp only
      rw [qfd (by omega), hdr2]
     ·simp only [hfn, List.map_set]
      refine qad [] [0, 1, 2] rfl (by simp) ?_ (qea g _ _)
      simp only [zU, seval, @qai ((j:Int) + 1) (by omega), @qai ((i:Int) + 1) (by omega)]
      try rfl
    ·have hfl : (l.take (j + 1)).filter (fun x => !p x) = (l.take j).filter (fun x => !p x) := by rw [hst, List.filter_append, List.filter_cons_of_neg (by rw [hc]; simp)]; simp
     refine ⟨(j + 1, xs), ⟨by simp only; omega, h, hxl, ?_, hdr2⟩, by simp only; omega, ?_⟩
     ·simp only
      rw [hfl, ← hi, hpre]
     ·simp only [hfl, ← hi]
      refine qad [] [0, 1, 2] rfl (by simp) ?_ (qea g _ _)
      simp only [zU, seval, @qai ((j:Int) + 1) (by omega)]
      try rfl
   ·have hjl : j = l.length := by omega
    subst hjl
    rw [List.take_length] at hpre hi
    simp only [zU, seval, (show ¬ (l.length:Int) < l.length by omega), (show (i:Int) ≤ l.length by omega), hxl, (show i ≤ l.length by omega)]
    repeat ((with_reducible refine And.intro ?_ ?_); (focus (first | omega | (simp only [qax]; omega) | (refine qq ?_; rfl) | (refine dq ?_; kernel_rfl) | (intros; simp_all; done))))
    refine ⟨_, _, qfa 2 i (by simp) rfl (by rw [qbe]; simp; omega) (by rw [qbe]; simp; omega), .inr ⟨by rw [hi]; rfl, ?_⟩⟩
    rw [qek, ← List.map_take, hpre]
    rfl
theorem qs1 (g : Int → Bool) {fv : FuncId} (p : qao → Bool) (hp : ∀ x : qao, qag Tryz.prog Gl fv [.d x.toD, .ptr 0 0] (.box 1 (.mapr 1) :: .map (some .i64) (qbb g) :: []) (fun r s => r = .d (.bool (p x)) ∧ s = (.box 1 (.mapr 1) :: .map (some .i64) (qbb g) :: []))) (l : List qao) (hl : l.length < 1000000) :
  qag Tryz.prog Gl 73 [.d (.sl (l.map qao.toD)), .fn fv [.ptr 0 0]] (.box 1 (.mapr 1) :: .map (some .i64) (qbb g) :: [])
  (fun r s => r = .osl 2 0 (l.filter (fun x => !p x)).length ∧ s = (.box 1 (.mapr 1) :: .map (some .i64) (qbb g) :: .arr 3 ((l.filter (fun x => !p x)).map qao.toD) :: [])) := by
 refine qac Tryz.func73 rfl rfl (by simp [Tryz.ntmps73]) (qab rfl _ _ _ _ ?_)
 simp only [Tryz.ntmps73, Tryz.results73, qaj, List.length_nil]
 simp only [zU, seval]
 refine qaq ((qzn l hl (.box 1 (.mapr 1) :: .map (some .i64) (qbb g) :: [])).mono fun r s hr => ?_)
 obtain ⟨rfl, rfl⟩ := hr
 simp only [zU, seval, List.length_map]
 refine qaq ((q49 g p hp l hl).mono fun r s hr => ?_)
 rcases hr with ⟨rfl, rfl⟩ | ⟨rfl, rfl⟩
 ·simp only [zU, seval]
  exact ⟨_, _, qae [] [0, 1, 2] rfl (by simp) rfl (qea g _ _), rfl, rfl⟩
 ·simp only [zU, seval]
  exact ⟨_, _, qae [] [0, 1, 3] rfl (by simp) rfl (Qaf g _ _), rfl, rfl⟩
theorem q5e (l : List qbu) (hl : l.length < 1000000) : qi8 Tryz.prog Gl 140 [.d (.sl (l.map qbu.toD))] 7 (l.map qbu.toD) := by
 refine qi8.of (args := [.sl (l.map qbu.toD)]) ?_
 have hes : ∀ y ∈ l.map qbu.toD, y.cells.length = 7 := fun y hy => by
  obtain ⟨r, _, rfl⟩ := List.mem_map.1 hy; rfl
 have hfl : ∀ y ∈ l.map qbu.toD, y.flat := fun y hy => by
  obtain ⟨r, _, rfl⟩ := List.mem_map.1 hy
  intro c hc
  simp [qbu.toD, D.cells] at hc
  rcases hc with rfl | rfl | rfl | rfl | rfl | rfl | rfl <;> rfl
 simp only [List.map_cons, List.map_nil]
 cases l with
 | nil =>
  refine qac Tryz.func140 rfl rfl (by simp [Tryz.ntmps140]) (qab rfl _ _ _ _ ?_)
  simp only [Tryz.ntmps140, Tryz.results140, qaj, List.length_nil]
  simp only [zU, seval]
  refine ⟨⟨_, _, qeg 7 (Nat.le_refl 0), rfl, rfl⟩, ?_⟩
  exact ⟨_, _, qae [] [1] rfl (by simp) rfl rfl, rfl, rfl⟩
 | cons r rs =>
  simp only [List.map_cons, List.length_cons] at hes hl hfl ⊢
  refine qac Tryz.func140 rfl rfl (by simp [Tryz.ntmps140]) (qab rfl _ _ _ _ ?_)
  simp only [Tryz.ntmps140, Tryz.results140, qaj, List.length_nil]
  simp only [zU, seval]
  refine ⟨by omega, ?_⟩
  exact ⟨_, _, qae [] [1] rfl (by simp) rfl rfl, rfl, rfl⟩
theorem qhz (g : Int → Bool) (xs : List D) (σ : Sto) : qdd [0, 1, 2] (freezeL (.box 1 (.mapr 1) :: .map (some .i64) (qbb g) :: .arr 7 xs :: σ) []) = .box 1 (.mapr 1) :: .map (some .i64) (qbb g) :: .arr 7 xs :: [] := by
 show [qbv [0, 1, 2] _ (.box 1 (.mapr 1)), qbv [0, 1, 2] _ (.map (some .i64) (qbb g)), _] = _
 rw [qbw]; rfl
theorem q67 (g : Int → Bool) (σ : Sto) : qdd [0, 1] (freezeL (.box 1 (.mapr 1) :: .map (some .i64) (qbb g) :: σ) []) = .box 1 (.mapr 1) :: .map (some .i64) (qbb g) :: [] := by
 show [qbv [0, 1] _ (.box 1 (.mapr 1)), qbv [0, 1] _ (.map (some .i64) (qbb g))] = _
 rw [qbw]; rfl
theorem Qeq (g : Int → Bool) {fv : FuncId} (p : qbu → Bool) (hp : ∀ x : qbu, qag Tryz.prog Gl fv [.d x.toD, .ptr 0 0] (.box 1 (.mapr 1) :: .map (some .i64) (qbb g) :: []) (fun r s => r = .d (.bool (p x)) ∧ s = (.box 1 (.mapr 1) :: .map (some .i64) (qbb g) :: []))) (l : List qbu) (hl : l.length < 1000000) :
  qag Tryz.prog Gl 174 [.osl 2 0 l.length, .fn fv [.ptr 0 0]] (.box 1 (.mapr 1) :: .map (some .i64) (qbb g) :: .arr 7 (l.map qbu.toD) :: [])
  (fun r s => (∃ j : Int, r = .d (.int .i64 j) ∧ ((j = -1 ∧ l.filter (fun x => !p x) = l) ∨ ∃ k : Nat, j = k ∧ k < l.length ∧ (l.take (k + 1)).filter (fun x => !p x) = l.take k)) ∧ s = (.box 1 (.mapr 1) :: .map (some .i64) (qbb g) :: .arr 7 (l.map qbu.toD) :: [])) := by
 refine qac Tryz.func174 rfl rfl (by simp [Tryz.ntmps174]) (qab rfl _ _ _ _ ?_)
 simp only [Tryz.ntmps174, Tryz.results174, qaj, List.length_nil]
 simp only [zU, seval]
 refine qa4 l.length (fun k => [(0, .osl 2 0 l.length), (1, .fn fv [.ptr 0 0]), (7, .d (.int .i64 l.length)), (8, .d (.int .i64 k))]) (fun _ => (.box 1 (.mapr 1) :: .map (some .i64) (qbb g) :: .arr 7 (l.map qbu.toD) :: [])) (fun k => (l.take k).filter (fun x => !p x) = l.take k) rfl ?_ ?_
 ·refine qad [] [0, 1, 2] rfl (by simp) ?_ (qhz g _ _)
  simp only [zU, seval]
  try rfl
 ·intro k hi hk
  by_cases h : k < l.length
  ·obtain ⟨x, hx⟩ : ∃ x, x = l.getD k default := ⟨_, rfl⟩
   have eg : (l.map qbu.toD).getD k default = x.toD := by rw [qas _ _ _ h, ← hx]
   have hst := qay l k h
   rw [← hx] at hst
   simp only [zU, seval, (show (k:Int) < l.length by omega), h, eg]
   repeat ((with_reducible refine And.intro ?_ ?_); (focus (first | omega | (simp only [qax]; omega) | (refine qq ?_; rfl) | (refine dq ?_; kernel_rfl) | (intros; simp_all; done))))
   refine qbz (R := fun r ν => r = .d (.bool (p x)) ∧ ν = []) [0, 1] (.box 1 (.mapr 1) :: .map (some .i64) (qbb g) :: []) (by simp) (by simp) (show [qbv [0, 1] _ (.box 1 (.mapr 1)), qbv [0, 1] _ (.map (some .i64) (qbb g))] = _ by rw [qbw]; rfl) rfl (hk2 rfl (qct g _)) ((hp x).mono fun r s hr => ⟨[], by rw [hr.2]; rfl, hr.1, rfl⟩) (fun r ν hr => ?_)
   obtain ⟨rfl, rfl⟩ := hr
   simp only [zU, seval, List.map_nil, List.append_nil]
   refine ifC.mk (fun hc => ?_) (fun hc => ?_)
   ·refine ⟨_, _, qae [] [0, 1, 2] rfl (by simp) (show qbf _ _ _ = AV.d _ from rfl) (qhz g _ _), ⟨k, rfl, .inr ⟨k, rfl, h, ?_⟩⟩, rfl⟩
    rw [hst, List.filter_append, hi, List.filter_cons_of_neg (by rw [hc]; simp)]
    simp
   ·refine ⟨by rw [hst, List.filter_append, hi, List.filter_cons_of_pos (by rw [hc]; rfl)]; rfl, ?_⟩
    refine qad [] [0, 1, 2] rfl (by simp) ?_ (qhz g _ _)
    simp only [zU, seval, @qai ((k:Int) + 1) (by omega)]
    try rfl
  ·have : k = l.length := by omega
   subst this
   rw [List.take_length] at hi
   simp only [zU, seval, (show ¬ (l.length:Int) < l.length by omega)]
   exact ⟨_, _, qae [] [0, 1, 2] rfl (by simp) (show qbf _ _ _ = AV.d _ from rfl) (qhz g _ _), ⟨-1, rfl, .inl ⟨rfl, hi⟩⟩, rfl⟩
theorem Qew (g : Int → Bool) {fv : FuncId} (p : qbu → Bool) (hp : ∀ x : qbu, qag Tryz.prog Gl fv [.d x.toD, .ptr 0 0] (.box 1 (.mapr 1) :: .map (some .i64) (qbb g) :: []) (fun r s => r = .d (.bool (p x)) ∧ s = (.box 1 (.mapr 1) :: .map (some .i64) (qbb g) :: []))) (l : List qbu) (hl : l.length < 1000000) :
  qag Tryz.prog Gl 139 [.osl 2 0 l.length, .fn fv [.ptr 0 0]] (.box 1 (.mapr 1) :: .map (some .i64) (qbb g) :: .arr 7 (l.map qbu.toD) :: [])
  (fun r s => (r = .osl 2 0 (l.filter (fun x => !p x)).length ∧ s = (.box 1 (.mapr 1) :: .map (some .i64) (qbb g) :: .arr 7 ((l.filter (fun x => !p x)).map qbu.toD) :: [])) ∨ (r = .osl 3 0 (l.filter (fun x => !p x)).length ∧ s = (.box 1 (.mapr 1) :: .map (some .i64) (qbb g) :: .dead :: .arr 7 ((l.filter (fun x => !p x)).map qbu.toD) :: []))) := by
 refine qac Tryz.func139 rfl rfl (by simp [Tryz.ntmps139]) (qab rfl _ _ _ _ ?_)
 simp only [Tryz.ntmps139, Tryz.results139, qaj, List.length_nil]
 simp only [zU, seval]
 refine qaq ((Qeq g p hp l hl).mono fun r s hr => ?_)
 obtain ⟨⟨c, rfl, hcs⟩, rfl⟩ := hr
 rcases hcs with ⟨rfl, hn⟩ | ⟨k, rfl, hk, hf⟩
 ·simp only [zU, seval]
  rw [hn]
  refine ⟨_, _, qae [] [0, 1, 2] rfl (by simp) rfl (qhz g _ _), .inl ⟨rfl, rfl⟩⟩
 ·have e0 : ((k : Int) == -1) = false := by rw [beq_eq_false_iff_ne]; omega
  simp only [zU, seval, e0, @qai ((k:Int) + 1) (by omega)]
  repeat ((with_reducible refine And.intro ?_ ?_); (focus (first | omega | (simp only [qax]; omega) | (refine qq ?_; rfl) | (refine dq ?_; kernel_rfl) | (intros; simp_all; done))))
  refine qcl (τ := Nat × List qbu) (fun u => [(0, .osl 2 0 l.length), (1, .fn fv [.ptr 0 0]), (5, .d (.int .i64 (((l.take u.1).filter (fun x => !p x)).length : Nat))), (6, .d (.int .i64 u.1))]) (fun u => (.box 1 (.mapr 1) :: .map (some .i64) (qbb g) :: .arr 7 (u.2.map qbu.toD) :: []))
   (fun u => k < u.1 ∧ u.1 ≤ l.length ∧ u.2.length = l.length ∧ u.2.take ((l.take u.1).filter (fun x => !p x)).length = (l.take u.1).filter (fun x => !p x) ∧ u.2.drop u.1 = l.drop u.1) (fun u => l.length - u.1) (k + 1, l) ?_ ?_ ?_
  ·refine ⟨by simp only; omega, hk, rfl, ?_, rfl⟩
   simp only
   rw [hf, List.length_take, Nat.min_eq_left (by omega)]
  ·have e1 : ((l.take (k + 1)).filter (fun x => !p x)).length = k := by rw [hf, List.length_take]; omega
   rw [e1]
   refine qad [] [0, 1, 2] rfl (by simp) ?_ (qhz g _ _)
   simp only [zU, seval]
   try rfl
  ·rintro ⟨j, xs⟩ ⟨hkj, hj, hxl, hpre, hdr⟩
   simp only at hkj hj hxl hpre hdr
   obtain ⟨i, hi⟩ : ∃ i, i = ((l.take j).filter (fun x => !p x)).length := ⟨_, rfl⟩
   have hij := qkb hk hf hkj hj
   rw [← hi] at hpre hij
   rw [← hi]
   by_cases h : j < l.length
   ·obtain ⟨x, hx⟩ : ∃ x, x = l.getD j default := ⟨_, rfl⟩
    have hxx : xs.getD j default = x := by
     have e : xs[j]? = l[j]? := by
      have := congrArg (fun z => z[0]?) hdr
      simpa using this
     rw [List.getD_eq_getElem?_getD, e, hx, List.getD_eq_getElem?_getD]
    have eg : (xs.map qbu.toD).getD j default = x.toD := by rw [qas _ _ _ (by omega), hxx]
    have hst := qay l j h
    rw [← hx] at hst
    simp only [zU, seval, (show (j:Int) < l.length by omega), h, eg, hxl]
    repeat ((with_reducible refine And.intro ?_ ?_); (focus (first | omega | (simp only [qax]; omega) | (refine qq ?_; rfl) | (refine dq ?_; kernel_rfl) | (intros; simp_all; done))))
    refine qbz (R := fun r ν => r = .d (.bool (p x)) ∧ ν = []) [0, 1] (.box 1 (.mapr 1) :: .map (some .i64) (qbb g) :: []) (by simp) (by simp) (show [qbv [0, 1] _ (.box 1 (.mapr 1)), qbv [0, 1] _ (.map (some .i64) (qbb g))] = _ by rw [qbw]; rfl) rfl (hk2 rfl (qct g _)) ((hp x).mono fun r s hr => ⟨[], by rw [hr.2]; rfl, hr.1, rfl⟩) (fun r ν hr => ?_)
    obtain ⟨rfl, rfl⟩ := hr
    simp only [zU, seval, List.map_nil, List.append_nil]
    have hdr2 : xs.drop (j + 1) = l.drop (j + 1) := by
     have := congrArg (List.drop 1) hdr
     rwa [List.drop_drop, List.drop_drop] at this
    refine ifC.mk (fun hc => ?_) (fun hc => ?_)
    ·have hfl : (l.take (j + 1)).filter (fun x => !p x) = (l.take j).filter (fun x => !p x) ++ [x] := by rw [hst, List.filter_append, List.filter_cons_of_pos (p := fun x => !p x) hc]; rfl
     have hfn : ((l.take (j + 1)).filter (fun x => !p x)).length = i + 1 := by rw [hfl, List.length_append, ← hi]; rfl
     (try simp only [zU, seval, (show (i:Int) < l.length by omega), hxl])
     repeat ((with_reducible refine And.intro ?_ ?_); (focus (first | omega | (simp only [qax]; omega) | (refine qq ?_; rfl) | (refine dq ?_; kernel_rfl) | (intros; simp_all; done))))
     refine ⟨(j + 1, xs.set i x), ⟨by simp only; omega, h, by simp only [List.length_set]; exact hxl, ?_, ?_⟩, by simp only; omega, ?_⟩
     ·simp only
      rw [hfn, qfc (by omega), hpre, hfl]
     ·simp only
      rw [qfd (by omega), hdr2]
     ·simp only [hfn, List.map_set]
      refine qad [] [0, 1, 2] rfl (by simp) ?_ (qhz g _ _)
      simp only [zU, seval, @qai ((j:Int) + 1) (by omega), @qai ((i:Int) + 1) (by omega)]
      try rfl
    ·have hfl : (l.take (j + 1)).filter (fun x => !p x) = (l.take j).filter (fun x => !p x) := by rw [hst, List.filter_append, List.filter_cons_of_neg (by rw [hc]; simp)]; simp
     refine ⟨(j + 1, xs), ⟨by simp only; omega, h, hxl, ?_, hdr2⟩, by simp only; omega, ?_⟩
     ·simp only
      rw [hfl, ← hi, hpre]
     ·simp only [hfl, ← hi]
      refine qad [] [0, 1, 2] rfl (by simp) ?_ (qhz g _ _)
      simp only [zU, seval, @qai ((j:Int) + 1) (by omega)]
      try rfl
   ·have hjl : j = l.length := by omega
    subst hjl
    rw [List.take_length] at hpre hi
    simp only [zU, seval, (show ¬ (l.length:Int) < l.length by omega), (show (i:Int) ≤ l.length by omega), hxl, (show i ≤ l.length by omega)]
    repeat ((with_reducible refine And.intro ?_ ?_); (focus (first | omega | (simp only [qax]; omega) | (refine qq ?_; rfl) | (refine dq ?_; kernel_rfl) | (intros; simp_all; done))))
    refine ⟨_, _, qfa 2 i (by simp) rfl (by rw [qbe]; simp; omega) (by rw [qbe]; simp; omega), .inr ⟨by rw [hi]; rfl, ?_⟩⟩
    rw [qek, ← List.map_take, hpre]
    rfl
theorem qzh (g : Int → Bool) {fv : FuncId} (p : qbu → Bool) (hp : ∀ x : qbu, qag Tryz.prog Gl fv [.d x.toD, .ptr 0 0] (.box 1 (.mapr 1) :: .map (some .i64) (qbb g) :: []) (fun r s => r = .d (.bool (p x)) ∧ s = (.box 1 (.mapr 1) :: .map (some .i64) (qbb g) :: []))) (l : List qbu) (hl : l.length < 1000000) :
  qag Tryz.prog Gl 75 [.d (.sl (l.map qbu.toD)), .fn fv [.ptr 0 0]] (.box 1 (.mapr 1) :: .map (some .i64) (qbb g) :: [])
  (fun r s => r = .d (.sl ((l.filter (fun x => !p x)).map qbu.toD)) ∧ s = (.box 1 (.mapr 1) :: .map (some .i64) (qbb g) :: [])) := by
 refine qac Tryz.func75 rfl rfl (by simp [Tryz.ntmps75]) (qab rfl _ _ _ _ ?_)
 simp only [Tryz.ntmps75, Tryz.results75, qaj, List.length_nil]
 simp only [zU, seval]
 refine qaq ((q5e l hl (.box 1 (.mapr 1) :: .map (some .i64) (qbb g) :: [])).mono fun r s hr => ?_)
 obtain ⟨rfl, rfl⟩ := hr
 simp only [zU, seval, List.length_map]
 refine qaq ((Qew g p hp l hl).mono fun r s hr => ?_)
 rcases hr with ⟨rfl, rfl⟩ | ⟨rfl, rfl⟩
 ·simp only [zU, seval]
  refine ⟨_, _, (qcy rfl).trans (qae [] [0, 1] rfl (by simp) (show qbf _ _ _ = AV.d _ from rfl) (q67 g _)), ?_, rfl⟩
  show AV.d (D.sl (List.take _ (List.map qbu.toD _))) = _
  rw [qa6]
 ·simp only [zU, seval]
  refine ⟨_, _, (qcy rfl).trans (qae [] [0, 1] rfl (by simp) (show qbf _ _ _ = AV.d _ from rfl) (q67 g _)), ?_, rfl⟩
  show AV.d (D.sl (List.take _ (List.map qbu.toD _))) = _
  rw [qa6]
theorem qlu (l : List qan) (hl : l.length < 1000000) : qi8 Tryz.prog Gl 69 [.d (.sl (l.map qan.toD))] 4 (l.map qan.toD) := by
 refine qi8.of (args := [.sl (l.map qan.toD)]) ?_
 have hes : ∀ y ∈ l.map qan.toD, y.cells.length = 4 := fun y hy => by
  obtain ⟨r, _, rfl⟩ := List.mem_map.1 hy; rfl
 have hfl : ∀ y ∈ l.map qan.toD, y.flat := fun y hy => by
  obtain ⟨r, _, rfl⟩ := List.mem_map.1 hy
  intro c hc
  simp [qan.toD, D.cells] at hc
  rcases hc with rfl | rfl | rfl | rfl <;> rfl
 simp only [List.map_cons, List.map_nil]
 cases l with
 | nil =>
  refine qac Tryz.func69 rfl rfl (by simp [Tryz.ntmps69]) (qab rfl _ _ _ _ ?_)
  simp only [Tryz.ntmps69, Tryz.results69, qaj, List.length_nil]
  simp only [zU, seval]
  refine ⟨⟨_, _, qeg 4 (Nat.le_refl 0), rfl, rfl⟩, ?_⟩
  exact ⟨_, _, qae [] [1] rfl (by simp) rfl rfl, rfl, rfl⟩
 | cons r rs =>
  simp only [List.map_cons, List.length_cons] at hes hl hfl ⊢
  refine qac Tryz.func69 rfl rfl (by simp [Tryz.ntmps69]) (qab rfl _ _ _ _ ?_)
  simp only [Tryz.ntmps69, Tryz.results69, qaj, List.length_nil]
  simp only [zU, seval]
  refine ⟨by omega, ?_⟩
  exact ⟨_, _, qae [] [1] rfl (by simp) rfl rfl, rfl, rfl⟩
theorem qeo (g : Int → Bool) (xs : List D) (σ : Sto) : qdd [0, 1, 2] (freezeL (.box 1 (.mapr 1) :: .map (some .i64) (qbb g) :: .arr 4 xs :: σ) []) = .box 1 (.mapr 1) :: .map (some .i64) (qbb g) :: .arr 4 xs :: [] := by
 show [qbv [0, 1, 2] _ (.box 1 (.mapr 1)), qbv [0, 1, 2] _ (.map (some .i64) (qbb g)), _] = _
 rw [qbw]; rfl
theorem qvc (g : Int → Bool) (σ : Sto) : qdd [0, 1] (freezeL (.box 1 (.mapr 1) :: .map (some .i64) (qbb g) :: σ) []) = .box 1 (.mapr 1) :: .map (some .i64) (qbb g) :: [] := by
 show [qbv [0, 1] _ (.box 1 (.mapr 1)), qbv [0, 1] _ (.map (some .i64) (qbb g))] = _
 rw [qbw]; rfl
theorem q46 (g : Int → Bool) {fv : FuncId} (p : qan → Bool) (hp : ∀ x : qan, qag Tryz.prog Gl fv [.d x.toD, .ptr 0 0] (.box 1 (.mapr 1) :: .map (some .i64) (qbb g) :: []) (fun r s => r = .d (.bool (p x)) ∧ s = (.box 1 (.mapr 1) :: .map (some .i64) (qbb g) :: []))) (l : List qan) (hl : l.length < 1000000) :
  qag Tryz.prog Gl 175 [.osl 2 0 l.length, .fn fv [.ptr 0 0]] (.box 1 (.mapr 1) :: .map (some .i64) (qbb g) :: .arr 4 (l.map qan.toD) :: [])
  (fun r s => (∃ j : Int, r = .d (.int .i64 j) ∧ ((j = -1 ∧ l.filter (fun x => !p x) = l) ∨ ∃ k : Nat, j = k ∧ k < l.length ∧ (l.take (k + 1)).filter (fun x => !p x) = l.take k)) ∧ s = (.box 1 (.mapr 1) :: .map (some .i64) (qbb g) :: .arr 4 (l.map qan.toD) :: [])) := by
 refine qac Tryz.func175 rfl rfl (by simp [Tryz.ntmps175]) (qab rfl _ _ _ _ ?_)
 simp only [Tryz.ntmps175, Tryz.results175, qaj, List.length_nil]
 simp only [zU, seval]
 refine qa4 l.length (fun k => [(0, .osl 2 0 l.length), (1, .fn fv [.ptr 0 0]), (7, .d (.int .i64 l.length)), (8, .d (.int .i64 k))]) (fun _ => (.box 1 (.mapr 1) :: .map (some .i64) (qbb g) :: .arr 4 (l.map qan.toD) :: [])) (fun k => (l.take k).filter (fun x => !p x) = l.take k) rfl ?_ ?_
 ·refine qad [] [0, 1, 2] rfl (by simp) ?_ (qeo g _ _)
  simp only [zU, seval]
  try rfl
 ·intro k hi hk
  by_cases h : k < l.length
  ·obtain ⟨x, hx⟩ : ∃ x, x = l.getD k default := ⟨_, rfl⟩
   have eg : (l.map qan.toD).getD k default = x.toD := by rw [qas _ _ _ h, ← hx]
   have hst := qay l k h
   rw [← hx] at hst
   simp only [zU, seval, (show (k:Int) < l.length by omega), h, eg]
   repeat ((with_reducible refine And.intro ?_ ?_); (focus (first | omega | (simp only [qax]; omega) | (refine qq ?_; rfl) | (refine dq ?_; kernel_rfl) | (intros; simp_all; done))))
   refine qbz (R := fun r ν => r = .d (.bool (p x)) ∧ ν = []) [0, 1] (.box 1 (.mapr 1) :: .map (some .i64) (qbb g) :: []) (by simp) (by simp) (show [qbv [0, 1] _ (.box 1 (.mapr 1)), qbv [0, 1] _ (.map (some .i64) (qbb g))] = _ by rw [qbw]; rfl) rfl (hk2 rfl (qct g _)) ((hp x).mono fun r s hr => ⟨[], by rw [hr.2]; rfl, hr.1, rfl⟩) (fun r ν hr => ?_)
   obtain ⟨rfl, rfl⟩ := hr
   simp only [zU, seval, List.map_nil, List.append_nil]
   refine ifC.mk (fun hc => ?_) (fun hc => ?_)
   ·refine ⟨_, _, qae [] [0, 1, 2] rfl (by simp) (show qbf _ _ _ = AV.d _ from rfl) (qeo g _ _), ⟨k, rfl, .inr ⟨k, rfl, h, ?_⟩⟩, rfl⟩
    rw [hst, List.filter_append, hi, List.filter_cons_of_neg (by rw [hc]; simp)]
    simp
   ·refine ⟨by rw [hst, List.filter_append, hi, List.filter_cons_of_pos (by rw [hc]; rfl)]; rfl, ?_⟩
    refine qad [] [0, 1, 2] rfl (by simp) ?_ (qeo g _ _)
    simp only [zU, seval, @qai ((k:Int) + 1) (by omega)]
    try rfl
  ·have : k = l.length := by omega
   subst this
   rw [List.take_length] at hi
   simp only [zU, seval, (show ¬ (l.length:Int) < l.length by omega)]
   exact ⟨_, _, qae [] [0, 1, 2] rfl (by simp) (show qbf _ _ _ = AV.d _ from rfl) (qeo g _ _), ⟨-1, rfl, .inl ⟨rfl, hi⟩⟩, rfl⟩
theorem q5a (g : Int → Bool) {fv : FuncId} (p : qan → Bool) (hp : ∀ x : qan, qag Tryz.prog Gl fv [.d x.toD, .ptr 0 0] (.box 1 (.mapr 1) :: .map (some .i64) (qbb g) :: []) (fun r s => r = .d (.bool (p x)) ∧ s = (.box 1 (.mapr 1) :: .map (some .i64) (qbb g) :: []))) (l : List qan) (hl : l.length < 1000000) :
  qag Tryz.prog Gl 141 [.osl 2 0 l.length, .fn fv [.ptr 0 0]] (.box 1 (.mapr 1) :: .map (some .i64) (qbb g) :: .arr 4 (l.map qan.toD) :: [])
  (fun r s => (r = .osl 2 0 (l.filter (fun x => !p x)).length ∧ s = (.box 1 (.mapr 1) :: .map (some .i64) (qbb g) :: .arr 4 ((l.filter (fun x => !p x)).map qan.toD) :: [])) ∨ (r = .osl 3 0 (l.filter (fun x => !p x)).length ∧ s = (.box 1 (.mapr 1) :: .map (some .i64) (qbb g) :: .dead :: .arr 4 ((l.filter (fun x => !p x)).map qan.toD) :: []))) := by
 refine qac Tryz.func141 rfl rfl (by simp [Tryz.ntmps141]) (qab rfl _ _ _ _ ?_)
 simp only [Tryz.ntmps141, Tryz.results141, qaj, List.length_nil]
 simp only [zU, seval]
 refine qaq ((q46 g p hp l hl).mono fun r s hr => ?_)
 obtain ⟨⟨c, rfl, hcs⟩, rfl⟩ := hr
 rcases hcs with ⟨rfl, hn⟩ | ⟨k, rfl, hk, hf⟩
 ·simp only [zU, seval]
  rw [hn]
  refine ⟨_, _, qae [] [0, 1, 2] rfl (by simp) rfl (qeo g _ _), .inl ⟨rfl, rfl⟩⟩
 ·have e0 : ((k : Int) == -1) = false := by rw [beq_eq_false_iff_ne]; omega
  simp only [zU, seval, e0, @qai ((k:Int) + 1) (by omega)]
  repeat ((with_reducible refine And.intro ?_ ?_); (focus (first | omega | (simp only [qax]; omega) | (refine qq ?_; rfl) | (refine dq ?_; kernel_rfl) | (intros; simp_all; done))))
  refine qcl (τ := Nat × List qan) (fun u => [(0, .osl 2 0 l.length), (1, .fn fv [.ptr 0 0]), (5, .d (.int .i64 (((l.take u.1).filter (fun x => !p x)).length : Nat))), (6, .d (.int .i64 u.1))]) (fun u => (.box 1 (.mapr 1) :: .map (some .i64) (qbb g) :: .arr 4 (u.2.map qan.toD) :: []))
   (fun u => k < u.1 ∧ u.1 ≤ l.length ∧ u.2.length = l.length ∧ u.2.take ((l.take u.1).filter (fun x => !p x)).length = (l.take u.1).filter (fun x => !p x) ∧ u.2.drop u.1 = l.drop u.1) (fun u => l.length - u.1) (k + 1, l) ?_ ?_ ?_
  ·refine ⟨by simp only; omega, hk, rfl, ?_, rfl⟩
   simp only
   rw [hf, List.length_take, Nat.min_eq_left (by omega)]
  ·have e1 : ((l.take (k + 1)).filter (fun x => !p x)).length = k := by rw [hf, List.length_take]; omega
   rw [e1]
   refine qad [] [0, 1, 2] rfl (by simp) ?_ (qeo g _ _)
   simp only [zU, seval]
   try rfl
  ·rintro ⟨j, xs⟩ ⟨hkj, hj, hxl, hpre, hdr⟩
   simp only at hkj hj hxl hpre hdr
   obtain ⟨i, hi⟩ : ∃ i, i = ((l.take j).filter (fun x => !p x)).length := ⟨_, rfl⟩
   have hij := qkb hk hf hkj hj
   rw [← hi] at hpre hij
   rw [← hi]
   by_cases h : j < l.length
   ·obtain ⟨x, hx⟩ : ∃ x, x = l.getD j default := ⟨_, rfl⟩
    have hxx : xs.getD j default = x := by
     have e : xs[j]? = l[j]? := by
      have := congrArg (fun z => z[0]?) hdr
      simpa using this
     rw [List.getD_eq_getElem?_getD, e, hx, List.getD_eq_getElem?_getD]
    have eg : (xs.map qan.toD).getD j default = x.toD := by rw [qas _ _ _ (by omega), hxx]
    have hst := qay l j h
    rw [← hx] at hst
    simp only [zU, seval, (show (j:Int) < l.length by omega), h, eg, hxl]
    repeat ((with_reducible refine And.intro ?_ ?_); (focus (first | omega | (simp only [qax]; omega) | (refine qq ?_; rfl) | (refine dq ?_; kernel_rfl) | (intros; simp_all; done))))
    refine qbz (R := fun r ν => r = .d (.bool (p x)) ∧ ν = []) [0, 1] (.box 1 (.mapr 1) :: .map (some .i64) (qbb g) :: []) (by simp) (by simp) (show [qbv [0, 1] _ (.box 1 (.mapr 1)), qbv [0, 1] _ (.map (some .i64) (qbb g))] = _ by rw [qbw]; rfl) rfl (hk2 rfl (qct g _)) ((hp x).mono fun r s hr => ⟨[], by rw [hr.2]; rfl, hr.1, rfl⟩) (fun r ν hr => ?_)
    obtain ⟨rfl, rfl⟩ := hr
    simp only [zU, seval, List.map_nil, List.append_nil]
    have hdr2 : xs.drop (j + 1) = l.drop (j + 1) := by
     have := congrArg (List.drop 1) hdr
     rwa [List.drop_drop, List.drop_drop] at this
    refine ifC.mk (fun hc => ?_) (fun hc => ?_)
    ·have hfl : (l.take (j + 1)).filter (fun x => !p x) = (l.take j).filter (fun x => !p x) ++ [x] := by rw [hst, List.filter_append, List.filter_cons_of_pos (p := fun x => !p x) hc]; rfl
     have hfn : ((l.take (j + 1)).filter (fun x => !p x)).length = i + 1 := by rw [hfl, List.length_append, ← hi]; rfl
     (try simp only [zU, seval, (show (i:Int) < l.length by omega), hxl])
     repeat ((with_reducible refine And.intro ?_ ?_); (focus (first | omega | (simp only [qax]; omega) | (refine qq ?_; rfl) | (refine dq ?_; kernel_rfl) | (intros; simp_all; done))))
     refine ⟨(j + 1, xs.set i x), ⟨by simp only; omega, h, by simp only [List.length_set]; exact hxl, ?_, ?_⟩, by simp only; omega, ?_⟩
     ·simp only
      rw [hfn, qfc (by omega), hpre, hfl]
     ·simp only
      rw [qfd (by omega), hdr2]
     ·simp only [hfn, List.map_set]
      refine qad [] [0, 1, 2] rfl (by simp) ?_ (qeo g _ _)
      simp only [zU, seval, @qai ((j:Int) + 1) (by omega), @qai ((i:Int) + 1) (by omega)]
      try rfl
    ·have hfl : (l.take (j + 1)).filter (fun x => !p x) = (l.take j).filter (fun x => !p x) := by rw [hst, List.filter_append, List.filter_cons_of_neg (by rw [hc]; simp)]; simp
     refine ⟨(j + 1, xs), ⟨by simp only; omega, h, hxl, ?_, hdr2⟩, by simp only; omega, ?_⟩
     ·simp only
      rw [hfl, ← hi, hpre]
     ·simp only [hfl, ← hi]
      refine qad [] [0, 1, 2] rfl (by simp) ?_ (qeo g _ _)
      simp only [zU, seval, @qai ((j:Int) + 1) (by omega)]
      try rfl
   ·have hjl : j = l.length := by omega
    subst hjl
    rw [List.take_length] at hpre hi
    simp only [zU, seval, (show ¬ (l.length:Int) < l.length by omega), (show (i:Int) ≤ l.length by omega), hxl, (show i ≤ l.length by omega)]
    repeat ((with_reducible refine And.intro ?_ ?_); (focus (first | omega | (simp only [qax]; omega) | (refine qq ?_; rfl) | (refine dq ?_; kernel_rfl) | (intros; simp_all; done))))
    refine ⟨_, _, qfa 2 i (by simp) rfl (by rw [qbe]; simp; omega) (by rw [qbe]; simp; omega), .inr ⟨by rw [hi]; rfl, ?_⟩⟩
    rw [qek, ← List.map_take, hpre]
    rfl
theorem qs2 (g : Int → Bool) {fv : FuncId} (p : qan → Bool) (hp : ∀ x : qan, qag Tryz.prog Gl fv [.d x.toD, .ptr 0 0] (.box 1 (.mapr 1) :: .map (some .i64) (qbb g) :: []) (fun r s => r = .d (.bool (p x)) ∧ s = (.box 1 (.mapr 1) :: .map (some .i64) (qbb g) :: []))) (l : List qan) (hl : l.length < 1000000) :
  qag Tryz.prog Gl 77 [.d (.sl (l.map qan.toD)), .fn fv [.ptr 0 0]] (.box 1 (.mapr 1) :: .map (some .i64) (qbb g) :: [])
  (fun r s => r = .d (.sl ((l.filter (fun x => !p x)).map qan.toD)) ∧ s = (.box 1 (.mapr 1) :: .map (some .i64) (qbb g) :: [])) := by
 refine qac Tryz.func77 rfl rfl (by simp [Tryz.ntmps77]) (qab rfl _ _ _ _ ?_)
 simp only [Tryz.ntmps77, Tryz.results77, qaj, List.length_nil]
 simp only [zU, seval]
 refine qaq ((qlu l hl (.box 1 (.mapr 1) :: .map (some .i64) (qbb g) :: [])).mono fun r s hr => ?_)
 obtain ⟨rfl, rfl⟩ := hr
 simp only [zU, seval, List.length_map]
 refine qaq ((q5a g p hp l hl).mono fun r s hr => ?_)
 rcases hr with ⟨rfl, rfl⟩ | ⟨rfl, rfl⟩
 ·simp only [zU, seval]
  refine ⟨_, _, (qcy rfl).trans (qae [] [0, 1] rfl (by simp) (show qbf _ _ _ = AV.d _ from rfl) (qvc g _)), ?_, rfl⟩
  show AV.d (D.sl (List.take _ (List.map qan.toD _))) = _
  rw [qa6]
 ·simp only [zU, seval]
  refine ⟨_, _, (qcy rfl).trans (qae [] [0, 1] rfl (by simp) (show qbf _ _ _ = AV.d _ from rfl) (qvc g _)), ?_, rfl⟩
  show AV.d (D.sl (List.take _ (List.map qan.toD _))) = _
  rw [qa6]
theorem qox (l : List qar) (hl : l.length < 1000000) : qi8 Tryz.prog Gl 70 [.d (.sl (l.map qar.toD))] 7 (l.map qar.toD) := by
 refine qi8.of (args := [.sl (l.map qar.toD)]) ?_
 have hes : ∀ y ∈ l.map qar.toD, y.cells.length = 7 := fun y hy => by
  obtain ⟨r, _, rfl⟩ := List.mem_map.1 hy; rfl
 have hfl : ∀ y ∈ l.map qar.toD, y.flat := fun y hy => by
  obtain ⟨r, _, rfl⟩ := List.mem_map.1 hy
  intro c hc
  simp [qar.toD, D.cells] at hc
  rcases hc with rfl | rfl | rfl | rfl | rfl | rfl | rfl <;> rfl
 simp only [List.map_cons, List.map_nil]
 cases l with
 | nil =>
  refine qac Tryz.func70 rfl rfl (by simp [Tryz.ntmps70]) (qab rfl _ _ _ _ ?_)
  simp only [Tryz.ntmps70, Tryz.results70, qaj, List.length_nil]
  simp only [zU, seval]
  refine ⟨⟨_, _, qeg 7 (Nat.le_refl 0), rfl, rfl⟩, ?_⟩
  exact ⟨_, _, qae [] [1] rfl (by simp) rfl rfl, rfl, rfl⟩
 | cons r rs =>
  simp only [List.map_cons, List.length_cons] at hes hl hfl ⊢
  refine qac Tryz.func70 rfl rfl (by simp [Tryz.ntmps70]) (qab rfl _ _ _ _ ?_)
  simp only [Tryz.ntmps70, Tryz.results70, qaj, List.length_nil]
  simp only [zU, seval]
  refine ⟨by omega, ?_⟩
  exact ⟨_, _, qae [] [1] rfl (by simp) rfl rfl, rfl, rfl⟩
theorem qfw (g : Int → Bool) (xs : List D) (σ : Sto) : qdd [0, 1, 2] (freezeL (.box 1 (.mapr 1) :: .map (some .i64) (qbb g) :: .arr 7 xs :: σ) []) = .box 1 (.mapr 1) :: .map (some .i64) (qbb g) :: .arr 7 xs :: [] := by
 show [qbv [0, 1, 2] _ (.box 1 (.mapr 1)), qbv [0, 1, 2] _ (.map (some .i64) (qbb g)), _] = _
 rw [qbw]; rfl
theorem q0s (g : Int → Bool) (σ : Sto) : qdd [0, 1] (freezeL (.box 1 (.mapr 1) :: .map (some .i64) (qbb g) :: σ) []) = .box 1 (.mapr 1) :: .map (some .i64) (qbb g) :: [] := by
 show [qbv [0, 1] _ (.box 1 (.mapr 1)), qbv [0, 1] _ (.map (some .i64) (qbb g))] = _
 rw [qbw]; rfl
theorem Qa2 (g : Int → Bool) {fv : FuncId} (p : qar → Bool) (hp : ∀ x : qar, qag Tryz.prog Gl fv [.d x.toD, .ptr 0 0] (.box 1 (.mapr 1) :: .map (some .i64) (qbb g) :: []) (fun r s => r = .d (.bool (p x)) ∧ s = (.box 1 (.mapr 1) :: .map (some .i64) (qbb g) :: []))) (l : List qar) (hl : l.length < 1000000) :
  qag Tryz.prog Gl 173 [.osl 2 0 l.length, .fn fv [.ptr 0 0]] (.box 1 (.mapr 1) :: .map (some .i64) (qbb g) :: .arr 7 (l.map qar.toD) :: [])
  (fun r s => (∃ j : Int, r = .d (.int .i64 j) ∧ ((j = -1 ∧ l.filter (fun x => !p x) = l) ∨ ∃ k : Nat, j = k ∧ k < l.length ∧ (l.take (k + 1)).filter (fun x => !p x) = l.take k)) ∧ s = (.box 1 (.mapr 1) :: .map (some .i64) (qbb g) :: .arr 7 (l.map qar.toD) :: [])) := by
 refine qac Tryz.func173 rfl rfl (by simp [Tryz.ntmps173]) (qab rfl _ _ _ _ ?_)
 simp only [Tryz.ntmps173, Tryz.results173, qaj, List.length_nil]
 simp only [zU, seval]
 refine qa4 l.length (fun k => [(0, .osl 2 0 l.length), (1, .fn fv [.ptr 0 0]), (7, .d (.int .i64 l.length)), (8, .d (.int .i64 k))]) (fun _ => (.box 1 (.mapr 1) :: .map (some .i64) (qbb g) :: .arr 7 (l.map qar.toD) :: [])) (fun k => (l.take k).filter (fun x => !p x) = l.take k) rfl ?_ ?_
 ·refine qad [] [0, 1, 2] rfl (by simp) ?_ (qfw g _ _)
  simp only [zU, seval]
  try rfl
 ·intro k hi hk
  by_cases h : k < l.length
  ·obtain ⟨x, hx⟩ : ∃ x, x = l.getD k default := ⟨_, rfl⟩
   have eg : (l.map qar.toD).getD k default = x.toD := by rw [qas _ _ _ h, ← hx]
   have hst := qay l k h
   rw [← hx] at hst
   simp only [zU, seval, (show (k:Int) < l.length by omega), h, eg]
   repeat ((with_reducible refine And.intro ?_ ?_); (focus (first | omega | (simp only [qax]; omega) | (refine qq ?_; rfl) | (refine dq ?_; kernel_rfl) | (intros; simp_all; done))))
   refine qbz (R := fun r ν => r = .d (.bool (p x)) ∧ ν = []) [0, 1] (.box 1 (.mapr 1) :: .map (some .i64) (qbb g) :: []) (by simp) (by simp) (show [qbv [0, 1] _ (.box 1 (.mapr 1)), qbv [0, 1] _ (.map (some .i64) (qbb g))] = _ by rw [qbw]; rfl) rfl (hk2 rfl (qct g _)) ((hp x).mono fun r s hr => ⟨[], by rw [hr.2]; rfl, hr.1, rfl⟩) (fun r ν hr => ?_)
   obtain ⟨rfl, rfl⟩ := hr
   simp only [zU, seval, List.map_nil, List.append_nil]
   refine ifC.mk (fun hc => ?_) (fun hc => ?_)
   ·refine ⟨_, _, qae [] [0, 1, 2] rfl (by simp) (show qbf _ _ _ = AV.d _ from rfl) (qfw g _ _), ⟨k, rfl, .inr ⟨k, rfl, h, ?_⟩⟩, rfl⟩
    rw [hst, List.filter_append, hi, List.filter_cons_of_neg (by rw [hc]; simp)]
    simp
   ·refine ⟨by rw [hst, List.filter_append, hi, List.filter_cons_of_pos (by rw [hc]; rfl)]; rfl, ?_⟩
    refine qad [] [0, 1, 2] rfl (by simp) ?_ (qfw g _ _)
    simp only [zU, seval, @qai ((k:Int) + 1) (by omega)]
    try rfl
  ·have : k = l.length := by omega
   subst this
   rw [List.take_length] at hi
   simp only [zU, seval, (show ¬ (l.length:Int) < l.length by omega)]
   exact ⟨_, _, qae [] [0, 1, 2] rfl (by simp) (show qbf _ _ _ = AV.d _ from rfl) (qfw g _ _), ⟨-1, rfl, .inl ⟨rfl, hi⟩⟩, rfl⟩
theorem Qa4 (g : Int → Bool) {fv : FuncId} (p : qar → Bool) (hp : ∀ x : qar, qag Tryz.prog Gl fv [.d x.toD, .ptr 0 0] (.box 1 (.mapr 1) :: .map (some .i64) (qbb g) :: []) (fun r s => r = .d (.bool (p x)) ∧ s = (.box 1 (.mapr 1) :: .map (some .i64) (qbb g) :: []))) (l : List qar) (hl : l.length < 1000000) :
  qag Tryz.prog Gl 142 [.osl 2 0 l.length, .fn fv [.ptr 0 0]] (.box 1 (.mapr 1) :: .map (some .i64) (qbb g) :: .arr 7 (l.map qar.toD) :: [])
  (fun r s => (r = .osl 2 0 (l.filter (fun x => !p x)).length ∧ s = (.box 1 (.mapr 1) :: .map (some .i64) (qbb g) :: .arr 7 ((l.filter (fun x => !p x)).map qar.toD) :: [])) ∨ (r = .osl 3 0 (l.filter (fun x => !p x)).length ∧ s = (.box 1 (.mapr 1) :: .map (some .i64) (qbb g) :: .dead :: .arr 7 ((l.filter (fun x => !p x)).map qar.toD) :: []))) := by
 refine qac Tryz.func142 rfl rfl (by simp [Tryz.ntmps142]) (qab rfl _ _ _ _ ?_)
 simp only [Tryz.ntmps142, Tryz.results142, qaj, List.length_nil]
 simp only [zU, seval]
 refine qaq ((Qa2 g p hp l hl).mono fun r s hr => ?_)
 obtain ⟨⟨c, rfl, hcs⟩, rfl⟩ := hr
 rcases hcs with ⟨rfl, hn⟩ | ⟨k, rfl, hk, hf⟩
 ·simp only [zU, seval]
  rw [hn]
  refine ⟨_, _, qae [] [0, 1, 2] rfl (by simp) rfl (qfw g _ _), .inl ⟨rfl, rfl⟩⟩
 ·have e0 : ((k : Int) == -1) = false := by rw [beq_eq_false_iff_ne]; omega
  simp only [zU, seval, e0, @qai ((k:Int) + 1) (by omega)]
  repeat ((with_reducible refine And.intro ?_ ?_); (focus (first | omega | (simp only [qax]; omega) | (refine qq ?_; rfl) | (refine dq ?_; kernel_rfl) | (intros; simp_all; done))))
  refine qcl (τ := Nat × List qar) (fun u => [(0, .osl 2 0 l.length), (1, .fn fv [.ptr 0 0]), (5, .d (.int .i64 (((l.take u.1).filter (fun x => !p x)).length : Nat))), (6, .d (.int .i64 u.1))]) (fun u => (.box 1 (.mapr 1) :: .map (some .i64) (qbb g) :: .arr 7 (u.2.map qar.toD) :: []))
   (fun u => k < u.1 ∧ u.1 ≤ l.length ∧ u.2.length = l.length ∧ u.2.take ((l.take u.1).filter (fun x => !p x)).length = (l.take u.1).filter (fun x => !p x) ∧ u.2.drop u.1 = l.drop u.1) (fun u => l.length - u.1) (k + 1, l) ?_ ?_ ?_
  ·refine ⟨by simp only; omega, hk, rfl, ?_, rfl⟩
   simp only
   rw [hf, List.length_take, Nat.min_eq_left (by omega)]
  ·have e1 : ((l.take (k + 1)).filter (fun x => !p x)).length = k := by rw [hf, List.length_take]; omega
   rw [e1]
   refine qad [] [0, 1, 2] rfl (by simp) ?_ (qfw g _ _)
   simp only [zU, seval]
   try rfl
  ·rintro ⟨j, xs⟩ ⟨hkj, hj, hxl, hpre, hdr⟩
   simp only at hkj hj hxl hpre hdr
   obtain ⟨i, hi⟩ : ∃ i, i = ((l.take j).filter (fun x => !p x)).length := ⟨_, rfl⟩
   have hij := qkb hk hf hkj hj
   rw [← hi] at hpre hij
   rw [← hi]
   by_cases h : j < l.length
   ·obtain ⟨x, hx⟩ : ∃ x, x = l.getD j default := ⟨_, rfl⟩
    have hxx : xs.getD j default = x := by
     have e : xs[j]? = l[j]? := by
      have := congrArg (fun z => z[0]?) hdr
      simpa using this
     rw [List.getD_eq_getElem?_getD, e, hx, List.getD_eq_getElem?_getD]
    have eg : (xs.map qar.toD).getD j default = x.toD := by rw [qas _ _ _ (by omega), hxx]
    have hst := qay l j h
    rw [← hx] at hst
    simp only [zU, seval, (show (j:Int) < l.length by omega), h, eg, hxl]
    repeat ((with_reducible refine And.intro ?_ ?_); (focus (first | omega | (simp only [qax]; omega) | (refine qq ?_; rfl) | (refine dq ?_; kernel_rfl) | (intros; simp_all; done))))
    refine qbz (R := fun r ν => r = .d (.bool (p x)) ∧ ν = []) [0, 1] (.box 1 (.mapr 1) :: .map (some .i64) (qbb g) :: []) (by simp) (by simp) (show [qbv [0, 1] _ (.box 1 (.mapr 1)), qbv [0, 1] _ (.map (some .i64) (qbb g))] = _ by rw [qbw]; rfl) rfl (hk2 rfl (qct g _)) ((hp x).mono fun r s hr => ⟨[], by rw [hr.2]; rfl, hr.1, rfl⟩) (fun r ν hr => ?_)
    obtain ⟨rfl, rfl⟩ := hr
    simp only [zU, seval, List.map_nil, List.append_nil]
    have hdr2 : xs.drop (j + 1) = l.drop (j + 1) := by
     have := congrArg (List.drop 1) hdr
     rwa [List.drop_drop, List.drop_drop] at this
    refine ifC.mk (fun hc => ?_) (fun hc => ?_)
    ·have hfl : (l.take (j + 1)).filter (fun x => !p x) = (l.take j).filter (fun x => !p x) ++ [x] := by rw [hst, List.filter_append, List.filter_cons_of_pos (p := fun x => !p x) hc]; rfl
     have hfn : ((l.take (j + 1)).filter (fun x => !p x)).length = i + 1 := by rw [hfl, List.length_append, ← hi]; rfl
     (try simp only [zU, seval, (show (i:Int) < l.length by omega), hxl])
     repeat ((with_reducible refine And.intro ?_ ?_); (focus (first | omega | (simp only [qax]; omega) | (refine qq ?_; rfl) | (refine dq ?_; kernel_rfl) | (intros; simp_all; done))))
     refine ⟨(j + 1, xs.set i x), ⟨by simp only; omega, h, by simp only [List.length_set]; exact hxl, ?_, ?_⟩, by simp only; omega, ?_⟩
     ·simp only
      rw [hfn, qfc (by omega), hpre, hfl]
     ·simp only
      rw [qfd (by omega), hdr2]
     ·simp only [hfn, List.map_set]
      refine qad [] [0, 1, 2] rfl (by simp) ?_ (qfw g _ _)
      simp only [zU, seval, @qai ((j:Int) + 1) (by omega), @qai ((i:Int) + 1) (by omega)]
      try rfl
    ·have hfl : (l.take (j + 1)).filter (fun x => !p x) = (l.take j).filter (fun x => !p x) := by rw [hst, List.filter_append, List.filter_cons_of_neg (by rw [hc]; simp)]; simp
     refine ⟨(j + 1, xs), ⟨by simp only; omega, h, hxl, ?_, hdr2⟩, by simp only; omega, ?_⟩
     ·simp only
      rw [hfl, ← hi, hpre]
     ·simp only [hfl, ← hi]
      refine qad [] [0, 1, 2] rfl (by simp) ?_ (qfw g _ _)
      simp only [zU, seval, @qai ((j:Int) + 1) (by omega)]
      try rfl
   ·have hjl : j = l.length := by omega
    subst hjl
    rw [List.take_length] at hpre hi
    simp only [zU, seval, (show ¬ (l.length:Int) < l.length by omega), (show (i:Int) ≤ l.length by omega), hxl, (show i ≤ l.length by omega)]
    repeat ((with_reducible refine And.intro ?_ ?_); (focus (first | omega | (simp only [qax]; omega) | (refine qq ?_; rfl) | (refine dq ?_; kernel_rfl) | (intros; simp_all; done))))
    refine ⟨_, _, qfa 2 i (by simp) rfl (by rw [qbe]; simp; omega) (by rw [qbe]; simp; omega), .inr ⟨by rw [hi]; rfl, ?_⟩⟩
    rw [qek, ← List.map_take, hpre]
    rfl
theorem qui (g : Int → Bool) {fv : FuncId} (p : qar → Bool) (hp : ∀ x : qar, qag Tryz.prog Gl fv [.d x.toD, .ptr 0 0] (.box 1 (.mapr 1) :: .map (some .i64) (qbb g) :: []) (fun r s => r = .d (.bool (p x)) ∧ s = (.box 1 (.mapr 1) :: .map (some .i64) (qbb g) :: []))) (l : List qar) (hl : l.length < 1000000) :
  qag Tryz.prog Gl 79 [.d (.sl (l.map qar.toD)), .fn fv [.ptr 0 0]] (.box 1 (.mapr 1) :: .map (some .i64) (qbb g) :: [])
  (fun r s => r = .d (.sl ((l.filter (fun x => !p x)).map qar.toD)) ∧ s = (.box 1 (.mapr 1) :: .map (some .i64) (qbb g) :: [])) := by
 refine qac Tryz.func79 rfl rfl (by simp [Tryz.ntmps79]) (qab rfl _ _ _ _ ?_)
 simp only [Tryz.ntmps79, Tryz.results79, qaj, List.length_nil]
 simp only [zU, seval]
 refine qaq ((qox l hl (.box 1 (.mapr 1) :: .map (some .i64) (qbb g) :: [])).mono fun r s hr => ?_)
 obtain ⟨rfl, rfl⟩ := hr
 simp only [zU, seval, List.length_map]
 refine qaq ((Qa4 g p hp l hl).mono fun r s hr => ?_)
 rcases hr with ⟨rfl, rfl⟩ | ⟨rfl, rfl⟩
 ·simp only [zU, seval]
  refine ⟨_, _, (qcy rfl).trans (qae [] [0, 1] rfl (by simp) (show qbf _ _ _ = AV.d _ from rfl) (q0s g _)), ?_, rfl⟩
  show AV.d (D.sl (List.take _ (List.map qar.toD _))) = _
  rw [qa6]
 ·simp only [zU, seval]
  refine ⟨_, _, (qcy rfl).trans (qae [] [0, 1] rfl (by simp) (show qbf _ _ _ = AV.d _ from rfl) (q0s g _)), ?_, rfl⟩
  show AV.d (D.sl (List.take _ (List.map qar.toD _))) = _
  rw [qa6]
theorem q5d (l : List qcd) (hl : l.length < 1000000) : qi8 Tryz.prog Gl 144 [.d (.sl (l.map qcd.toD))] 4 (l.map qcd.toD) := by
 refine qi8.of (args := [.sl (l.map qcd.toD)]) ?_
 have hes : ∀ y ∈ l.map qcd.toD, y.cells.length = 4 := fun y hy => by
  obtain ⟨r, _, rfl⟩ := List.mem_map.1 hy; rfl
 have hfl : ∀ y ∈ l.map qcd.toD, y.flat := fun y hy => by
  obtain ⟨r, _, rfl⟩ := List.mem_map.1 hy
  intro c hc
  simp [qcd.toD, D.cells] at hc
  rcases hc with rfl | rfl | rfl | rfl <;> rfl
 simp only [List.map_cons, List.map_nil]
 cases l with
 | nil =>
  refine qac Tryz.func144 rfl rfl (by simp [Tryz.ntmps144]) (qab rfl _ _ _ _ ?_)
  simp only [Tryz.ntmps144, Tryz.results144, qaj, List.length_nil]
  simp only [zU, seval]
  refine ⟨⟨_, _, qeg 4 (Nat.le_refl 0), rfl, rfl⟩, ?_⟩
  exact ⟨_, _, qae [] [1] rfl (by simp) rfl rfl, rfl, rfl⟩
 | cons r rs =>
  simp only [List.map_cons, List.length_cons] at hes hl hfl ⊢
  refine qac Tryz.func144 rfl rfl (by simp [Tryz.ntmps144]) (qab rfl _ _ _ _ ?_)
  simp only [Tryz.ntmps144, Tryz.results144, qaj, List.length_nil]
  simp only [zU, seval]
  refine ⟨by omega, ?_⟩
  exact ⟨_, _, qae [] [1] rfl (by simp) rfl rfl, rfl, rfl⟩
theorem qhy (g : Int → Bool) (xs : List D) (σ : Sto) : qdd [0, 1, 2] (freezeL (.box 1 (.mapr 1) :: .map (some .i64) (qbb g) :: .arr 4 xs :: σ) []) = .box 1 (.mapr 1) :: .map (some .i64) (qbb g) :: .arr 4 xs :: [] := by
 show [qbv [0, 1, 2] _ (.box 1 (.mapr 1)), qbv [0, 1, 2] _ (.map (some .i64) (qbb g)), _] = _
 rw [qbw]; rfl
theorem q66 (g : Int → Bool) (σ : Sto) : qdd [0, 1] (freezeL (.box 1 (.mapr 1) :: .map (some .i64) (qbb g) :: σ) []) = .box 1 (.mapr 1) :: .map (some .i64) (qbb g) :: [] := by
 show [qbv [0, 1] _ (.box 1 (.mapr 1)), qbv [0, 1] _ (.map (some .i64) (qbb g))] = _
 rw [qbw]; rfl
theorem Qep (g : Int → Bool) {fv : FuncId} (p : qcd → Bool) (hp : ∀ x : qcd, qag Tryz.prog Gl fv [.d x.toD, .ptr 0 0] (.box 1 (.mapr 1) :: .map (some .i64) (qbb g) :: []) (fun r s => r = .d (.bool (p x)) ∧ s = (.box 1 (.mapr 1) :: .map (some .i64) (qbb g) :: []))) (l : List qcd) (hl : l.length < 1000000) :
  qag Tryz.prog Gl 188 [.osl 2 0 l.length, .fn fv [.ptr 0 0]] (.box 1 (.mapr 1) :: .map (some .i64) (qbb g) :: .arr 4 (l.map qcd.toD) :: [])
  (fun r s => (∃ j : Int, r = .d (.int .i64 j) ∧ ((j = -1 ∧ l.filter (fun x => !p x) = l) ∨ ∃ k : Nat, j = k ∧ k < l.length ∧ (l.take (k + 1)).filter (fun x => !p x) = l.take k)) ∧ s = (.box 1 (.mapr 1) :: .map (some .i64) (qbb g) :: .arr 4 (l.map qcd.toD) :: [])) := by
 refine qac Tryz.func188 rfl rfl (by simp [Tryz.ntmps188]) (qab rfl _ _ _ _ ?_)
 simp only [Tryz.ntmps188, Tryz.results188, qaj, List.length_nil]
 simp only [zU, seval]
 refine qa4 l.length (fun k => [(0, .osl 2 0 l.length), (1, .fn fv [.ptr 0 0]), (7, .d (.int .i64 l.length)), (8, .d (.int .i64 k))]) (fun _ => (.box 1 (.mapr 1) :: .map (some .i64) (qbb g) :: .arr 4 (l.map qcd.toD) :: [])) (fun k => (l.take k).filter (fun x => !p x) = l.take k) rfl ?_ ?_
 ·refine qad [] [0, 1, 2] rfl (by simp) ?_ (qhy g _ _)
  simp only [zU, seval]
  try rfl
 ·intro k hi hk
  by_cases h : k < l.length
  ·obtain ⟨x, hx⟩ : ∃ x, x = l.getD k default := ⟨_, rfl⟩
   have eg : (l.map qcd.toD).getD k default = x.toD := by rw [qas _ _ _ h, ← hx]
   have hst := qay l k h
   rw [← hx] at hst
   simp only [zU, seval, (show (k:Int) < l.length by omega), h, eg]
   repeat ((with_reducible refine And.intro ?_ ?_); (focus (first | omega | (simp only [qax]; omega) | (refine qq ?_; rfl) | (refine dq ?_; kernel_rfl) | (intros; simp_all; done))))
   refine qbz (R := fun r ν => r = .d (.bool (p x)) ∧ ν = []) [0, 1] (.box 1 (.mapr 1) :: .map (some .i64) (qbb g) :: []) (by simp) (by simp) (show [qbv [0, 1] _ (.box 1 (.mapr 1)), qbv [0, 1] _ (.map (some .i64) (qbb g))] = _ by rw [qbw]; rfl) rfl (hk2 rfl (qct g _)) ((hp x).mono fun r s hr => ⟨[], by rw [hr.2]; rfl, hr.1, rfl⟩) (fun r ν hr => ?_)
   obtain ⟨rfl, rfl⟩ := hr
   simp only [zU, seval, List.map_nil, List.append_nil]
   refine ifC.mk (fun hc => ?_) (fun hc => ?_)
   ·refine ⟨_, _, qae [] [0, 1, 2] rfl (by simp) (show qbf _ _ _ = AV.d _ from rfl) (qhy g _ _), ⟨k, rfl, .inr ⟨k, rfl, h, ?_⟩⟩, rfl⟩
    rw [hst, List.filter_append, hi, List.filter_cons_of_neg (by rw [hc]; simp)]
    simp
   ·refine ⟨by rw [hst, List.filter_append, hi, List.filter_cons_of_pos (by rw [hc]; rfl)]; rfl, ?_⟩
    refine qad [] [0, 1, 2] rfl (by simp) ?_ (qhy g _ _)
    simp only [zU, seval, @qai ((k:Int) + 1) (by omega)]
    try rfl
  ·have : k = l.length := by omega
   subst this
   rw [List.take_length] at hi
   simp only [zU, seval, (show ¬ (l.length:Int) < l.length by omega)]
   exact ⟨_, _, qae [] [0, 1, 2] rfl (by simp) (show qbf _ _ _ = AV.d _ from rfl) (qhy g _ _), ⟨-1, rfl, .inl ⟨rfl, hi⟩⟩, rfl⟩
theorem Qev (g : Int → Bool) {fv : FuncId} (p : qcd → Bool) (hp : ∀ x : qcd, qag Tryz.prog Gl fv [.d x.toD, .ptr 0 0] (.box 1 (.mapr 1) :: .map (some .i64) (qbb g) :: []) (fun r s => r = .d (.bool (p x)) ∧ s = (.box 1 (.mapr 1) :: .map (some .i64) (qbb g) :: []))) (l : List qcd) (hl : l.length < 1000000) :
  qag Tryz.prog Gl 143 [.osl 2 0 l.length, .fn fv [.ptr 0 0]] (.box 1 (.mapr 1) :: .map (some .i64) (qbb g) :: .arr 4 (l.map qcd.toD) :: [])
  (fun r s => (r = .osl 2 0 (l.filter (fun x => !p x)).length ∧ s = (.box 1 (.mapr 1) :: .map (some .i64) (qbb g) :: .arr 4 ((l.filter (fun x => !p x)).map qcd.toD) :: [])) ∨ (r = .osl 3 0 (l.filter (fun x => !p x)).length ∧ s = (.box 1 (.mapr 1) :: .map (some .i64) (qbb g) :: .dead :: .arr 4 ((l.filter (fun x => !p x)).map qcd.toD) :: []))) := by
 refine qac Tryz.func143 rfl rfl (by simp [Tryz.ntmps143]) (qab rfl _ _ _ _ ?_)
 simp only [Tryz.ntmps143, Tryz.results143, qaj, List.length_nil]
 simp only [zU, seval]
 refine qaq ((Qep g p hp l hl).mono fun r s hr => ?_)
 obtain ⟨⟨c, rfl, hcs⟩, rfl⟩ := hr
 rcases hcs with ⟨rfl, hn⟩ | ⟨k, rfl, hk, hf⟩
 ·simp only [zU, seval]
  rw [hn]
  refine ⟨_, _, qae [] [0, 1, 2] rfl (by simp) rfl (qhy g _ _), .inl ⟨rfl, rfl⟩⟩
 ·have e0 : ((k : Int) == -1) = false := by rw [beq_eq_false_iff_ne]; omega
  simp only [zU, seval, e0, @qai ((k:Int) + 1) (by omega)]
  repeat ((with_reducible refine And.intro ?_ ?_); (focus (first | omega | (simp only [qax]; omega) | (refine qq ?_; rfl) | (refine dq ?_; kernel_rfl) | (intros; simp_all; done))))
  refine qcl (τ := Nat × List qcd) (fun u => [(0, .osl 2 0 l.length), (1, .fn fv [.ptr 0 0]), (5, .d (.int .i64 (((l.take u.1).filter (fun x => !p x)).length : Nat))), (6, .d (.int .i64 u.1))]) (fun u => (.box 1 (.mapr 1) :: .map (some .i64) (qbb g) :: .arr 4 (u.2.map qcd.toD) :: []))
   (fun u => k < u.1 ∧ u.1 ≤ l.length ∧ u.2.length = l.length ∧ u.2.take ((l.take u.1).filter (fun x => !p x)).length = (l.take u.1).filter (fun x => !p x) ∧ u.2.drop u.1 = l.drop u.1) (fun u => l.length - u.1) (k + 1, l) ?_ ?_ ?_
  ·refine ⟨by simp only; omega, hk, rfl, ?_, rfl⟩
   simp only
   rw [hf, List.length_take, Nat.min_eq_left (by omega)]
  ·have e1 : ((l.take (k + 1)).filter (fun x => !p x)).length = k := by rw [hf, List.length_take]; omega
   rw [e1]
   refine qad [] [0, 1, 2] rfl (by simp) ?_ (qhy g _ _)
   simp only [zU, seval]
   try rfl
  ·rintro ⟨j, xs⟩ ⟨hkj, hj, hxl, hpre, hdr⟩
   simp only at hkj hj hxl hpre hdr
   obtain ⟨i, hi⟩ : ∃ i, i = ((l.take j).filter (fun x => !p x)).length := ⟨_, rfl⟩
   have hij := qkb hk hf hkj hj
   rw [← hi] at hpre hij
   rw [← hi]
   by_cases h : j < l.length
   ·obtain ⟨x, hx⟩ : ∃ x, x = l.getD j default := ⟨_, rfl⟩
    have hxx : xs.getD j default = x := by
     have e : xs[j]? = l[j]? := by
      have := congrArg (fun z => z[0]?) hdr
      simpa using this
     rw [List.getD_eq_getElem?_getD, e, hx, List.getD_eq_getElem?_getD]
    have eg : (xs.map qcd.toD).getD j default = x.toD := by rw [qas _ _ _ (by omega), hxx]
    have hst := qay l j h
    rw [← hx] at hst
    simp only [zU, seval, (show (j:Int) < l.length by omega), h, eg, hxl]
    repeat ((with_reducible refine And.intro ?_ ?_); (focus (first | omega | (simp only [qax]; omega) | (refine qq ?_; rfl) | (refine dq ?_; kernel_rfl) | (intros; simp_all; done))))
    refine qbz (R := fun r ν => r = .d (.bool (p x)) ∧ ν = []) [0, 1] (.box 1 (.mapr 1) :: .map (some .i64) (qbb g) :: []) (by simp) (by simp) (show [qbv [0, 1] _ (.box 1 (.mapr 1)), qbv [0, 1] _ (.map (some .i64) (qbb g))] = _ by rw [qbw]; rfl) rfl (hk2 rfl (qct g _)) ((hp x).mono fun r s hr => ⟨[], by rw [hr.2]; rfl, hr.1, rfl⟩) (fun r ν hr => ?_)
    obtain ⟨rfl, rfl⟩ := hr
    simp only [zU, seval, List.map_nil, List.append_nil]
    have hdr2 : xs.drop (j + 1) = l.drop (j + 1) := by
     have := congrArg (List.drop 1) hdr
     rwa [List.drop_drop, List.drop_drop] at this
    refine ifC.mk (fun hc => ?_) (fun hc => ?_)
    ·have hfl : (l.take (j + 1)).filter (fun x => !p x) = (l.take j).filter (fun x => !p x) ++ [x] := by rw [hst, List.filter_append, List.filter_cons_of_pos (p := fun x => !p x) hc]; rfl
     have hfn : ((l.take (j + 1)).filter (fun x => !p x)).length = i + 1 := by rw [hfl, List.length_append, ← hi]; rfl
     (try simp only [zU, seval, (show (i:Int) < l.length by omega), hxl])
     repeat ((with_reducible refine And.intro ?_ ?_); (focus (first | omega | (simp only [qax]; omega) | (refine qq ?_; rfl) | (refine dq ?_; kernel_rfl) | (intros; simp_all; done))))
     refine ⟨(j + 1, xs.set i x), ⟨by simp only; omega, h, by simp only [List.length_set]; exact hxl, ?_, ?_⟩, by simp only; omega, ?_⟩
     ·simp only
      rw [hfn, qfc (by omega), hpre, hfl]
     ·simp only
      rw [qfd (by omega), hdr2]
     ·simp only [hfn, List.map_set]
      refine qad [] [0, 1, 2] rfl (by simp) ?_ (qhy g _ _)
      simp only [zU, seval, @qai ((j:Int) + 1) (by omega), @qai ((i:Int) + 1) (by omega)]
      try rfl
    ·have hfl : (l.take (j + 1)).filter (fun x => !p x) = (l.take j).filter (fun x => !p x) := by rw [hst, List.filter_append, List.filter_cons_of_neg (by rw [hc]; simp)]; simp
     refine ⟨(j + 1, xs), ⟨by simp only; omega, h, hxl, ?_, hdr2⟩, by simp only; omega, ?_⟩
     ·simp only
      rw [hfl, ← hi, hpre]
     ·simp only [hfl, ← hi]
      refine qad [] [0, 1, 2] rfl (by simp) ?_ (qhy g _ _)
      simp only [zU, seval, @qai ((j:Int) + 1) (by omega)]
      try rfl
   ·have hjl : j = l.length := by omega
    subst hjl
    rw [List.take_length] at hpre hi
    simp only [zU, seval, (show ¬ (l.length:Int) < l.length by omega), (show (i:Int) ≤ l.length by omega), hxl, (show i ≤ l.length by omega)]
    repeat ((with_reducible refine And.intro ?_ ?_); (focus (first | omega | (simp only [qax]; omega) | (refine qq ?_; rfl) | (refine dq ?_; kernel_rfl) | (intros; simp_all; done))))
    refine ⟨_, _, qfa 2 i (by simp) rfl (by rw [qbe]; simp; omega) (by rw [qbe]; simp; omega), .inr ⟨by rw [hi]; rfl, ?_⟩⟩
    rw [qek, ← List.map_take, hpre]
    rfl
theorem qzg (g : Int → Bool) {fv : FuncId} (p : qcd → Bool) (hp : ∀ x : qcd, qag Tryz.prog Gl fv [.d x.toD, .ptr 0 0] (.box 1 (.mapr 1) :: .map (some .i64) (qbb g) :: []) (fun r s => r = .d (.bool (p x)) ∧ s = (.box 1 (.mapr 1) :: .map (some .i64) (qbb g) :: []))) (l : List qcd) (hl : l.length < 1000000) :
  qag Tryz.prog Gl 81 [.d (.sl (l.map qcd.toD)), .fn fv [.ptr 0 0]] (.box 1 (.mapr 1) :: .map (some .i64) (qbb g) :: [])
  (fun r s => r = .d (.sl ((l.filter (fun x => !p x)).map qcd.toD)) ∧ s = (.box 1 (.mapr 1) :: .map (some .i64) (qbb g) :: [])) := by
 refine qac Tryz.func81 rfl rfl (by simp [Tryz.ntmps81]) (qab rfl _ _ _ _ ?_)
 simp only [Tryz.ntmps81, Tryz.results81, qaj, List.length_nil]
 simp only [zU, seval]
 refine qaq ((q5d l hl (.box 1 (.mapr 1) :: .map (some .i64) (qbb g) :: [])).mono fun r s hr => ?_)
 obtain ⟨rfl, rfl⟩ := hr
 simp only [zU, seval, List.length_map]
 refine qaq ((Qev g p hp l hl).mono fun r s hr => ?_)
 rcases hr with ⟨rfl, rfl⟩ | ⟨rfl, rfl⟩
 ·simp only [zU, seval]
  refine ⟨_, _, (qcy rfl).trans (qae [] [0, 1] rfl (by simp) (show qbf _ _ _ = AV.d _ from rfl) (q66 g _)), ?_, rfl⟩
  show AV.d (D.sl (List.take _ (List.map qcd.toD _))) = _
  rw [qa6]
 ·simp only [zU, seval]
  refine ⟨_, _, (qcy rfl).trans (qae [] [0, 1] rfl (by simp) (show qbf _ _ _ = AV.d _ from rfl) (q66 g _)), ?_, rfl⟩
  show AV.d (D.sl (List.take _ (List.map qcd.toD _))) = _
  rw [qa6]
theorem q5c (l : List qbc) (hl : l.length < 1000000) : qi8 Tryz.prog Gl 136 [.d (.sl (l.map qbc.toD))] 3 (l.map qbc.toD) := by
 refine qi8.of (args := [.sl (l.map qbc.toD)]) ?_
 have hes : ∀ y ∈ l.map qbc.toD, y.cells.length = 3 := fun y hy => by
  obtain ⟨r, _, rfl⟩ := List.mem_map.1 hy; rfl
 have hfl : ∀ y ∈ l.map qbc.toD, y.flat := fun y hy => by
  obtain ⟨r, _, rfl⟩ := List.mem_map.1 hy
  intro c hc
  simp [qbc.toD, D.cells] at hc
  rcases hc with rfl | rfl | rfl <;> rfl
 simp only [List.map_cons, List.map_nil]
 cases l with
 | nil =>
  refine qac Tryz.func136 rfl rfl (by simp [Tryz.ntmps136]) (qab rfl _ _ _ _ ?_)
  simp only [Tryz.ntmps136, Tryz.results136, qaj, List.length_nil]
  simp only [zU, seval]
  refine ⟨⟨_, _, qeg 3 (Nat.le_refl 0), rfl, rfl⟩, ?_⟩
  exact ⟨_, _, qae [] [1] rfl (by simp) rfl rfl, rfl, rfl⟩
 | cons r rs =>
  simp only [List.map_cons, List.length_cons] at hes hl hfl ⊢
  refine qac Tryz.func136 rfl rfl (by simp [Tryz.ntmps136]) (qab rfl _ _ _ _ ?_)
  simp only [Tryz.ntmps136, Tryz.results136, qaj, List.length_nil]
  simp only [zU, seval]
  refine ⟨by omega, ?_⟩
  exact ⟨_, _, qae [] [1] rfl (by simp) rfl rfl, rfl, rfl⟩
theorem qgx (rs : D) (xs : List D) (σ : Sto) : qdd [0, 1] (freezeL (.box 1 (.d rs) :: .arr 3 xs :: σ) []) = .box 1 (.d rs) :: .arr 3 xs :: [] := by
 rfl
theorem Qhw (rs : D) (xs : List D) (B : Blk) : qdd [0, 2] (freezeL (.box 1 (.d rs) :: B :: .arr 3 xs :: []) []) = .box 1 (.d rs) :: .arr 3 xs :: [] := by
 rfl
theorem Qeo (rs : D) {fv : FuncId} (p : qbc → Bool) (hp : ∀ x : qbc, qag Tryz.prog Gl fv [.d x.toD, .ptr 0 0] (.box 1 (.d rs) :: []) (fun r s => r = .d (.bool (p x)) ∧ s = (.box 1 (.d rs) :: []))) (l : List qbc) (hl : l.length < 1000000) :
  qag Tryz.prog Gl 176 [.osl 1 0 l.length, .fn fv [.ptr 0 0]] (.box 1 (.d rs) :: .arr 3 (l.map qbc.toD) :: [])
  (fun r s => (∃ j : Int, r = .d (.int .i64 j) ∧ ((j = -1 ∧ l.filter (fun x => !p x) = l) ∨ ∃ k : Nat, j = k ∧ k < l.length ∧ (l.take (k + 1)).filter (fun x => !p x) = l.take k)) ∧ s = (.box 1 (.d rs) :: .arr 3 (l.map qbc.toD) :: [])) := by
 refine qac Tryz.func176 rfl rfl (by simp [Tryz.ntmps176]) (qab rfl _ _ _ _ ?_)
 simp only [Tryz.ntmps176, Tryz.results176, qaj, List.length_nil]
 simp only [zU, seval]
 refine qa4 l.length (fun k => [(0, .osl 1 0 l.length), (1, .fn fv [.ptr 0 0]), (7, .d (.int .i64 l.length)), (8, .d (.int .i64 k))]) (fun _ => (.box 1 (.d rs) :: .arr 3 (l.map qbc.toD) :: [])) (fun k => (l.take k).filter (fun x => !p x) = l.take k) rfl ?_ ?_
 ·refine qad [] [0, 1] rfl (by simp) ?_ (qgx rs _ _)
  simp only [zU, seval]
  try rfl
 ·intro k hi hk
  by_cases h : k < l.length
  ·obtain ⟨x, hx⟩ : ∃ x, x = l.getD k default := ⟨_, rfl⟩
   have eg : (l.map qbc.toD).getD k default = x.toD := by rw [qas _ _ _ h, ← hx]
   have hst := qay l k h
   rw [← hx] at hst
   simp only [zU, seval, (show (k:Int) < l.length by omega), h, eg]
   repeat ((with_reducible refine And.intro ?_ ?_); (focus (first | omega | (simp only [qax]; omega) | (refine qq ?_; rfl) | (refine dq ?_; kernel_rfl) | (intros; simp_all; done))))
   refine qbz (R := fun r ν => r = .d (.bool (p x)) ∧ ν = []) [0] (.box 1 (.d rs) :: []) (by simp) (by simp) rfl rfl (hk1 rfl) ((hp x).mono fun r s hr => ⟨[], by rw [hr.2]; rfl, hr.1, rfl⟩) (fun r ν hr => ?_)
   obtain ⟨rfl, rfl⟩ := hr
   simp only [zU, seval, List.map_nil, List.append_nil]
   refine ifC.mk (fun hc => ?_) (fun hc => ?_)
   ·refine ⟨_, _, qae [] [0, 1] rfl (by simp) (show qbf _ _ _ = AV.d _ from rfl) (qgx rs _ _), ⟨k, rfl, .inr ⟨k, rfl, h, ?_⟩⟩, rfl⟩
    rw [hst, List.filter_append, hi, List.filter_cons_of_neg (by rw [hc]; simp)]
    simp
   ·refine ⟨by rw [hst, List.filter_append, hi, List.filter_cons_of_pos (by rw [hc]; rfl)]; rfl, ?_⟩
    refine qad [] [0, 1] rfl (by simp) ?_ (qgx rs _ _)
    simp only [zU, seval, @qai ((k:Int) + 1) (by omega)]
    try rfl
  ·have : k = l.length := by omega
   subst this
   rw [List.take_length] at hi
   simp only [zU, seval, (show ¬ (l.length:Int) < l.length by omega)]
   exact ⟨_, _, qae [] [0, 1] rfl (by simp) (show qbf _ _ _ = AV.d _ from rfl) (qgx rs _ _), ⟨-1, rfl, .inl ⟨rfl, hi⟩⟩, rfl⟩
theorem Qeu (rs : D) {fv : FuncId} (p : qbc → Bool) (hp : ∀ x : qbc, qag Tryz.prog Gl fv [.d x.toD, .ptr 0 0] (.box 1 (.d rs) :: []) (fun r s => r = .d (.bool (p x)) ∧ s = (.box 1 (.d rs) :: []))) (l : List qbc) (hl : l.length < 1000000) :
  qag Tryz.prog Gl 135 [.osl 1 0 l.length, .fn fv [.ptr 0 0]] (.box 1 (.d rs) :: .arr 3 (l.map qbc.toD) :: [])
  (fun r s => (r = .osl 1 0 (l.filter (fun x => !p x)).length ∧ s = (.box 1 (.d rs) :: .arr 3 ((l.filter (fun x => !p x)).map qbc.toD) :: [])) ∨ (r = .osl 2 0 (l.filter (fun x => !p x)).length ∧ s = (.box 1 (.d rs) :: .dead :: .arr 3 ((l.filter (fun x => !p x)).map qbc.toD) :: []))) := by
 refine qac Tryz.func135 rfl rfl (by simp [Tryz.ntmps135]) (qab rfl _ _ _ _ ?_)
 simp only [Tryz.ntmps135, Tryz.results135, qaj, List.length_nil]
 simp only [zU, seval]
 refine qaq ((Qeo rs p hp l hl).mono fun r s hr => ?_)
 obtain ⟨⟨c, rfl, hcs⟩, rfl⟩ := hr
 rcases hcs with ⟨rfl, hn⟩ | ⟨k, rfl, hk, hf⟩
 ·simp only [zU, seval]
  rw [hn]
  refine ⟨_, _, qae [] [0, 1] rfl (by simp) rfl (qgx rs _ _), .inl ⟨rfl, rfl⟩⟩
 ·have e0 : ((k : Int) == -1) = false := by rw [beq_eq_false_iff_ne]; omega
  simp only [zU, seval, e0, @qai ((k:Int) + 1) (by omega)]
  repeat ((with_reducible refine And.intro ?_ ?_); (focus (first | omega | (simp only [qax]; omega) | (refine qq ?_; rfl) | (refine dq ?_; kernel_rfl) | (intros; simp_all; done))))
  refine qcl (τ := Nat × List qbc) (fun u => [(0, .osl 1 0 l.length), (1, .fn fv [.ptr 0 0]), (5, .d (.int .i64 (((l.take u.1).filter (fun x => !p x)).length : Nat))), (6, .d (.int .i64 u.1))]) (fun u => (.box 1 (.d rs) :: .arr 3 (u.2.map qbc.toD) :: []))
   (fun u => k < u.1 ∧ u.1 ≤ l.length ∧ u.2.length = l.length ∧ u.2.take ((l.take u.1).filter (fun x => !p x)).length = (l.take u.1).filter (fun x => !p x) ∧ u.2.drop u.1 = l.drop u.1) (fun u => l.length - u.1) (k + 1, l) ?_ ?_ ?_
  ·refine ⟨by simp only; omega, hk, rfl, ?_, rfl⟩
   simp only
   rw [hf, List.length_take, Nat.min_eq_left (by omega)]
  ·have e1 : ((l.take (k + 1)).filter (fun x => !p x)).length = k := by rw [hf, List.length_take]; omega
   rw [e1]
   refine qad [] [0, 1] rfl (by simp) ?_ (qgx rs _ _)
   simp only [zU, seval]
   try rfl
  ·rintro ⟨j, xs⟩ ⟨hkj, hj, hxl, hpre, hdr⟩
   simp only at hkj hj hxl hpre hdr
   obtain ⟨i, hi⟩ : ∃ i, i = ((l.take j).filter (fun x => !p x)).length := ⟨_, rfl⟩
   have hij := qkb hk hf hkj hj
   rw [← hi] at hpre hij
   rw [← hi]
   by_cases h : j < l.length
   ·obtain ⟨x, hx⟩ : ∃ x, x = l.getD j default := ⟨_, rfl⟩
    have hxx : xs.getD j default = x := by
     have e : xs[j]? = l[j]? := by
      have := congrArg (fun z => z[0]?) hdr
      simpa using this
     rw [List.getD_eq_getElem?_getD, e, hx, List.getD_eq_getElem?_getD]
    have eg : (xs.map qbc.toD).getD j default = x.toD := by rw [qas _ _ _ (by omega), hxx]
    have hst := qay l j h
    rw [← hx] at hst
    simp only [zU, seval, (show (j:Int) < l.length by omega), h, eg, hxl]
    repeat ((with_reducible refine And.intro ?_ ?_); (focus (first | omega | (simp only [qax]; omega) | (refine qq ?_; rfl) | (refine dq ?_; kernel_rfl) | (intros; simp_all; done))))
    refine qbz (R := fun r ν => r = .d (.bool (p x)) ∧ ν = []) [0] (.box 1 (.d rs) :: []) (by simp) (by simp) rfl rfl (hk1 rfl) ((hp x).mono fun r s hr => ⟨[], by rw [hr.2]; rfl, hr.1, rfl⟩) (fun r ν hr => ?_)
    obtain ⟨rfl, rfl⟩ := hr
    simp only [zU, seval, List.map_nil, List.append_nil]
    have hdr2 : xs.drop (j + 1) = l.drop (j + 1) := by
     have := congrArg (List.drop 1) hdr
     rwa [List.drop_drop, List.drop_drop] at this
    refine ifC.mk (fun hc => ?_) (fun hc => ?_)
    ·have hfl : (l.take (j + 1)).filter (fun x => !p x) = (l.take j).filter (fun x => !p x) ++ [x] := by rw [hst, List.filter_append, List.filter_cons_of_pos (p := fun x => !p x) hc]; rfl
     have hfn : ((l.take (j + 1)).filter (fun x => !p x)).length = i + 1 := by rw [hfl, List.length_append, ← hi]; rfl
     (try simp only [zU, seval, (show (i:Int) < l.length by omega), hxl])
     repeat ((with_reducible refine And.intro ?_ ?_); (focus (first | omega | (simp only [qax]; omega) | (refine qq ?_; rfl) | (refine dq ?_; kernel_rfl) | (intros; simp_all; done))))
     refine ⟨(j + 1, xs.set i x), ⟨by simp only; omega, h, by simp only [List.length_set]; exact hxl, ?_, ?_⟩, by simp only; omega, ?_⟩
     ·simp only
      rw [hfn, qfc (by omega), hpre, hfl]
     ·simp only
      rw [qfd (by omega), hdr2]
     ·simp only [hfn, List.map_set]
      refine qad [] [0, 1] rfl (by simp) ?_ (qgx rs _ _)
      simp only [zU, seval, @qai ((j:Int) + 1) (by omega), @qai ((i:Int) + 1) (by omega)]
      try rfl
    ·have hfl : (l.take (j + 1)).filter (fun x => !p x) = (l.take j).filter (fun x => !p x) := by rw [hst, List.filter_append, List.filter_cons_of_neg (by rw [hc]; simp)]; simp
     refine ⟨(j + 1, xs), ⟨by simp only; omega, h, hxl, ?_, hdr2⟩, by simp only; omega, ?_⟩
     ·simp only
      rw [hfl, ← hi, hpre]
     ·simp only [hfl, ← hi]
      refine qad [] [0, 1] rfl (by simp) ?_ (qgx rs _ _)
      simp only [zU, seval, @qai ((j:Int) + 1) (by omega)]
      try rfl
   ·have hjl : j = l.length := by omega
    subst hjl
    rw [List.take_length] at hpre hi
    simp only [zU, seval, (show ¬ (l.length:Int) < l.length by omega), (show (i:Int) ≤ l.length by omega), hxl, (show i ≤ l.length by omega)]
    repeat ((with_reducible refine And.intro ?_ ?_); (focus (first | omega | (simp only [qax]; omega) | (refine qq ?_; rfl) | (refine dq ?_; kernel_rfl) | (intros; simp_all; done))))
    refine ⟨_, _, qfa 1 i (by simp) rfl (by rw [qbe]; simp; omega) (by rw [qbe]; simp; omega), .inr ⟨by rw [hi]; rfl, ?_⟩⟩
    rw [qek, ← List.map_take, hpre]
    rfl
theorem qzf (rs : D) {fv : FuncId} (p : qbc → Bool) (hp : ∀ x : qbc, qag Tryz.prog Gl fv [.d x.toD, .ptr 0 0] (.box 1 (.d rs) :: []) (fun r s => r = .d (.bool (p x)) ∧ s = (.box 1 (.d rs) :: []))) (l : List qbc) (hl : l.length < 1000000) :
  qag Tryz.prog Gl 71 [.d (.sl (l.map qbc.toD)), .fn fv [.ptr 0 0]] (.box 1 (.d rs) :: [])
  (fun r s => r = .osl 1 0 (l.filter (fun x => !p x)).length ∧ s = (.box 1 (.d rs) :: .arr 3 ((l.filter (fun x => !p x)).map qbc.toD) :: [])) := by
 refine qac Tryz.func71 rfl rfl (by simp [Tryz.ntmps71]) (qab rfl _ _ _ _ ?_)
 simp only [Tryz.ntmps71, Tryz.results71, qaj, List.length_nil]
 simp only [zU, seval]
 refine qaq ((q5c l hl (.box 1 (.d rs) :: [])).mono fun r s hr => ?_)
 obtain ⟨rfl, rfl⟩ := hr
 simp only [zU, seval, List.length_map]
 refine qaq ((Qeu rs p hp l hl).mono fun r s hr => ?_)
 rcases hr with ⟨rfl, rfl⟩ | ⟨rfl, rfl⟩
 ·simp only [zU, seval]
  exact ⟨_, _, qae [] [0, 1] rfl (by simp) rfl (qgx rs _ _), rfl, rfl⟩
 ·simp only [zU, seval]
  exact ⟨_, _, qae [] [0, 2] rfl (by simp) rfl (Qhw rs _ _), rfl, rfl⟩
theorem q5b (l : List (List UInt8)) (hl : l.length < 1000000) : qi8 Tryz.prog Gl 134 [.d (.sl (l.map D.str))] 1 (l.map D.str) := by
 refine qi8.of (args := [.sl (l.map D.str)]) ?_
 have hes : ∀ y ∈ l.map D.str, y.cells.length = 1 := fun y hy => by
  obtain ⟨r, _, rfl⟩ := List.mem_map.1 hy; rfl
 have hfl : ∀ y ∈ l.map D.str, y.flat := fun y hy => by
  obtain ⟨r, _, rfl⟩ := List.mem_map.1 hy
  intro c hc
  simp [D.cells] at hc
  subst hc; rfl
 simp only [List.map_cons, List.map_nil]
 cases l with
 | nil =>
  refine qac Tryz.func134 rfl rfl (by simp [Tryz.ntmps134]) (qab rfl _ _ _ _ ?_)
  simp only [Tryz.ntmps134, Tryz.results134, qaj, List.length_nil]
  simp only [zU, seval]
  refine ⟨⟨_, _, qeg 1 (Nat.le_refl 0), rfl, rfl⟩, ?_⟩
  exact ⟨_, _, qae [] [1] rfl (by simp) rfl rfl, rfl, rfl⟩
 | cons r rs =>
  simp only [List.map_cons, List.length_cons] at hes hl hfl ⊢
  refine qac Tryz.func134 rfl rfl (by simp [Tryz.ntmps134]) (qab rfl _ _ _ _ ?_)
  simp only [Tryz.ntmps134, Tryz.results134, qaj, List.length_nil]
  simp only [zU, seval]
  refine ⟨by omega, ?_⟩
  exact ⟨_, _, qae [] [1] rfl (by simp) rfl rfl, rfl, rfl⟩
theorem qhx (rs : D) (xs : List D) (σ : Sto) : qdd [0, 1] (freezeL (.box 1 (.d rs) :: .arr 1 xs :: σ) []) = .box 1 (.d rs) :: .arr 1 xs :: [] := by
 rfl
theorem q65 (rs : D) (σ : Sto) : qdd [0] (freezeL (.box 1 (.d rs) :: σ) []) = .box 1 (.d rs) :: [] := by
 rfl
theorem Qen (rs : D) {fv : FuncId} (p : (List UInt8) → Bool) (hp : ∀ x : (List UInt8), qag Tryz.prog Gl fv [.d (D.str x), .ptr 0 0] (.box 1 (.d rs) :: []) (fun r s => r = .d (.bool (p x)) ∧ s = (.box 1 (.d rs) :: []))) (l : List (List UInt8)) (hl : l.length < 1000000) :
  qag Tryz.prog Gl 186 [.osl 1 0 l.length, .fn fv [.ptr 0 0]] (.box 1 (.d rs) :: .arr 1 (l.map D.str) :: [])
  (fun r s => (∃ j : Int, r = .d (.int .i64 j) ∧ ((j = -1 ∧ l.filter (fun x => !p x) = l) ∨ ∃ k : Nat, j = k ∧ k < l.length ∧ (l.take (k + 1)).filter (fun x => !p x) = l.take k)) ∧ s = (.box 1 (.d rs) :: .arr 1 (l.map D.str) :: [])) := by
 refine qac Tryz.func186 rfl rfl (by simp [Tryz.ntmps186]) (qab rfl _ _ _ _ ?_)
 simp only [Tryz.ntmps186, Tryz.results186, qaj, List.length_nil]
 simp only [zU, seval]
 refine qa4 l.length (fun k => [(0, .osl 1 0 l.length), (1, .fn fv [.ptr 0 0]), (7, .d (.int .i64 l.length)), (8, .d (.int .i64 k))]) (fun _ => (.box 1 (.d rs) :: .arr 1 (l.map D.str) :: [])) (fun k => (l.take k).filter (fun x => !p x) = l.take k) rfl ?_ ?_
 ·refine qad [] [0, 1] rfl (by simp) ?_ (qhx rs _ _)
  simp only [zU, seval]
  try rfl
 ·intro k hi hk
  by_cases h : k < l.length
  ·obtain ⟨x, hx⟩ : ∃ x, x = l.getD k default := ⟨_, rfl⟩
   have eg : (l.map D.str).getD k default = (D.str x) := by rw [qas _ _ _ h, ← hx]
   have hst := qay l k h
   rw [← hx] at hst
   simp only [zU, seval, (show (k:Int) < l.length by omega), h, eg]
   repeat ((with_reducible refine And.intro ?_ ?_); (focus (first | omega | (simp only [qax]; omega) | (refine qq ?_; rfl) | (refine dq ?_; kernel_rfl) | (intros; simp_all; done))))
   refine qbz (R := fun r ν => r = .d (.bool (p x)) ∧ ν = []) [0] (.box 1 (.d rs) :: []) (by simp) (by simp) rfl rfl (hk1 rfl) ((hp x).mono fun r s hr => ⟨[], by rw [hr.2]; rfl, hr.1, rfl⟩) (fun r ν hr => ?_)
   obtain ⟨rfl, rfl⟩ := hr
   simp only [zU, seval, List.map_nil, List.append_nil]
   refine ifC.mk (fun hc => ?_) (fun hc => ?_)
   ·refine ⟨_, _, qae [] [0, 1] rfl (by simp) (show qbf _ _ _ = AV.d _ from rfl) (qhx rs _ _), ⟨k, rfl, .inr ⟨k, rfl, h, ?_⟩⟩, rfl⟩
    rw [hst, List.filter_append, hi, List.filter_cons_of_neg (by rw [hc]; simp)]
    simp
   ·refine ⟨by rw [hst, List.filter_append, hi, List.filter_cons_of_pos (by rw [hc]; rfl)]; rfl, ?_⟩
    refine qad [] [0, 1] rfl (by simp) ?_ (qhx rs _ _)
    simp only [zU, seval, @qai ((k:Int) + 1) (by omega)]
    try rfl
  ·have : k = l.length := by omega
   subst this
   rw [List.take_length] at hi
   simp only [zU, seval, (show ¬ (l.length:Int) < l.length by omega)]
   exact ⟨_, _, qae [] [0, 1] rfl (by simp) (show qbf _ _ _ = AV.d _ from rfl) (qhx rs _ _), ⟨-1, rfl, .inl ⟨rfl, hi⟩⟩, rfl⟩
theorem Qet (rs : D) {fv : FuncId} (p : (List UInt8) → Bool) (hp : ∀ x : (List UInt8), qag Tryz.prog Gl fv [.d (D.str x), .ptr 0 0] (.box 1 (.d rs) :: []) (fun r s => r = .d (.bool (p x)) ∧ s = (.box 1 (.d rs) :: []))) (l : List (List UInt8)) (hl : l.length < 1000000) :
  qag Tryz.prog Gl 133 [.osl 1 0 l.length, .fn fv [.ptr 0 0]] (.box 1 (.d rs) :: .arr 1 (l.map D.str) :: [])
  (fun r s => (r = .osl 1 0 (l.filter (fun x => !p x)).length ∧ s = (.box 1 (.d rs) :: .arr 1 ((l.filter (fun x => !p x)).map D.str) :: [])) ∨ (r = .osl 2 0 (l.filter (fun x => !p x)).length ∧ s = (.box 1 (.d rs) :: .dead :: .arr 1 ((l.filter (fun x => !p x)).map D.str) :: []))) := by
 refine qac Tryz.func133 rfl rfl (by simp [Tryz.ntmps133]) (qab rfl _ _ _ _ ?_)
 simp only [Tryz.ntmps133, Tryz.results133, qaj, List.length_nil]
 simp only [zU, seval]
 refine qaq ((Qen rs p hp l hl).mono fun r s hr => ?_)
 obtain ⟨⟨c, rfl, hcs⟩, rfl⟩ := hr
 rcases hcs with ⟨rfl, hn⟩ | ⟨k, rfl, hk, hf⟩
 ·simp only [zU, seval]
  rw [hn]
  refine ⟨_, _, qae [] [0, 1] rfl (by simp) rfl (qhx rs _ _), .inl ⟨rfl, rfl⟩⟩
 ·have e0 : ((k : Int) == -1) = false := by rw [beq_eq_false_iff_ne]; omega
  simp only [zU, seval, e0, @qai ((k:Int) + 1) (by omega)]
  repeat ((with_reducible refine And.intro ?_ ?_); (focus (first | omega | (simp only [qax]; omega) | (refine qq ?_; rfl) | (refine dq ?_; kernel_rfl) | (intros; simp_all; done))))
  refine qcl (τ := Nat × List (List UInt8)) (fun u => [(0, .osl 1 0 l.length), (1, .fn fv [.ptr 0 0]), (5, .d (.int .i64 (((l.take u.1).filter (fun x => !p x)).length : Nat))), (6, .d (.int .i64 u.1))]) (fun u => (.box 1 (.d rs) :: .arr 1 (u.2.map D.str) :: []))
   (fun u => k < u.1 ∧ u.1 ≤ l.length ∧ u.2.length = l.length ∧ u.2.take ((l.take u.1).filter (fun x => !p x)).length = (l.take u.1).filter (fun x => !p x) ∧ u.2.drop u.1 = l.drop u.1) (fun u => l.length - u.1) (k + 1, l) ?_ ?_ ?_
  ·refine ⟨by simp only; omega, hk, rfl, ?_, rfl⟩
   simp only
   rw [hf, List.length_take, Nat.min_eq_left (by omega)]
  ·have e1 : ((l.take (k + 1)).filter (fun x => !p x)).length = k := by rw [hf, List.length_take]; omega
   rw [e1]
   refine qad [] [0, 1] rfl (by simp) ?_ (qhx rs _ _)
   simp only [zU, seval]
   try rfl
  ·rintro ⟨j, xs⟩ ⟨hkj, hj, hxl, hpre, hdr⟩
   simp only at hkj hj hxl hpre hdr
   obtain ⟨i, hi⟩ : ∃ i, i = ((l.take j).filter (fun x => !p x)).length := ⟨_, rfl⟩
   have hij := qkb hk hf hkj hj
   rw [← hi] at hpre hij
   rw [← hi]
   by_cases h : j < l.length
   ·obtain ⟨x, hx⟩ : ∃ x, x = l.getD j default := ⟨_, rfl⟩
    have hxx : xs.getD j default = x := by
     have e : xs[j]? = l[j]? := by
      have := congrArg (fun z => z[0]?) hdr
      simpa using this
     rw [List.getD_eq_getElem?_getD, e, hx, List.getD_eq_getElem?_getD]
    have eg : (xs.map D.str).getD j default = (D.str x) := by rw [qas _ _ _ (by omega), hxx]
    have hst := qay l j h
    rw [← hx] at hst
    simp only [zU, seval, (show (j:Int) < l.length by omega), h, eg, hxl]
    repeat ((with_reducible refine And.intro ?_ ?_); (focus (first | omega | (simp only [qax]; omega) | (refine qq ?_; rfl) | (refine dq ?_; kernel_rfl) | (intros; simp_all; done))))
    refine qbz (R := fun r ν => r = .d (.bool (p x)) ∧ ν = []) [0] (.box 1 (.d rs) :: []) (by simp) (by simp) rfl rfl (hk1 rfl) ((hp x).mono fun r s hr => ⟨[], by rw [hr.2]; rfl, hr.1, rfl⟩) (fun r ν hr => ?_)
    obtain ⟨rfl, rfl⟩ := hr
    simp only [zU, seval, List.map_nil, List.append_nil]
    have hdr2 : xs.drop (j + 1) = l.drop (j + 1) := by
     have := congrArg (List.drop 1) hdr
     rwa [List.drop_drop, List.drop_drop] at this
    refine ifC.mk (fun hc => ?_) (fun hc => ?_)
    ·have hfl : (l.take (j + 1)).filter (fun x => !p x) = (l.take j).filter (fun x => !p x) ++ [x] := by rw [hst, List.filter_append, List.filter_cons_of_pos (p := fun x => !p x) hc]; rfl
     have hfn : ((l.take (j + 1)).filter (fun x => !p x)).length = i + 1 := by rw [hfl, List.length_append, ← hi]; rfl
     (try simp only [zU, seval, (show (i:Int) < l.length by omega), hxl])
     repeat ((with_reducible refine And.intro ?_ ?_); (focus (first | omega | (simp only [qax]; omega) | (refine qq ?_; rfl) | (refine dq ?_; kernel_rfl) | (intros; simp_all; done))))
     refine ⟨(j + 1, xs.set i x), ⟨by simp only; omega, h, by simp only [List.length_set]; exact hxl, ?_, ?_⟩, by simp only; omega, ?_⟩
     ·simp only
      rw [hfn, qfc (by omega), hpre, hfl]
     ·simp only
      rw [qfd (by omega), hdr2]
     ·simp only [hfn, List.map_set]
      refine qad [] [0, 1] rfl (by simp) ?_ (qhx rs _ _)
      simp only [zU, seval, @qai ((j:Int) + 1) (by omega), @qai ((i:Int) + 1) (by omega)]
      try rfl
    ·have hfl : (l.take (j + 1)).filter (fun x => !p x) = (l.take j).filter (fun x => !p x) := by rw [hst, List.filter_append, List.filter_cons_of_neg (by rw [hc]; simp)]; simp
     refine ⟨(j + 1, xs), ⟨by simp only; omega, h, hxl, ?_, hdr2⟩, by simp only; omega, ?_⟩
     ·simp only
      rw [hfl, ← hi, hpre]
     ·simp only [hfl, ← hi]
      refine qad [] [0, 1] rfl (by simp) ?_ (qhx rs _ _)
      simp only [zU, seval, @qai ((j:Int) + 1) (by omega)]
      try rfl
   ·have hjl : j = l.length := by omega
    subst hjl
    rw [List.take_length] at hpre hi
    simp only [zU, seval, (show ¬ (l.length:Int) < l.length by omega), (show (i:Int) ≤ l.length by omega), hxl, (show i ≤ l.length by omega)]
    repeat ((with_reducible refine And.intro ?_ ?_); (focus (first | omega | (simp only [qax]; omega) | (refine qq ?_; rfl) | (refine dq ?_; kernel_rfl) | (intros; simp_all; done))))
    refine ⟨_, _, qfa 1 i (by simp) rfl (by rw [qbe]; simp; omega) (by rw [qbe]; simp; omega), .inr ⟨by rw [hi]; rfl, ?_⟩⟩
    rw [qek, ← List.map_take, hpre]
    rfl
theorem qze (rs : D) {fv : FuncId} (p : (List UInt8) → Bool) (hp : ∀ x : (List UInt8), qag Tryz.prog Gl fv [.d (D.str x), .ptr 0 0] (.box 1 (.d rs) :: []) (fun r s => r = .d (.bool (p x)) ∧ s = (.box 1 (.d rs) :: []))) (l : List (List UInt8)) (hl : l.length < 1000000) :
  qag Tryz.prog Gl 67 [.d (.sl (l.map D.str)), .fn fv [.ptr 0 0]] (.box 1 (.d rs) :: [])
  (fun r s => r = .d (.sl ((l.filter (fun x => !p x)).map D.str)) ∧ s = (.box 1 (.d rs) :: [])) := by
 refine qac Tryz.func67 rfl rfl (by simp [Tryz.ntmps67]) (qab rfl _ _ _ _ ?_)
 simp only [Tryz.ntmps67, Tryz.results67, qaj, List.length_nil]
 simp only [zU, seval]
 refine qaq ((q5b l hl (.box 1 (.d rs) :: [])).mono fun r s hr => ?_)
 obtain ⟨rfl, rfl⟩ := hr
 simp only [zU, seval, List.length_map]
 refine qaq ((Qet rs p hp l hl).mono fun r s hr => ?_)
 rcases hr with ⟨rfl, rfl⟩ | ⟨rfl, rfl⟩
 ·simp only [zU, seval]
  refine ⟨_, _, (qcy rfl).trans (qae [] [0] rfl (by simp) (show qbf _ _ _ = AV.d _ from rfl) (q65 rs _)), ?_, rfl⟩
  show AV.d (D.sl (List.take _ (List.map D.str _))) = _
  rw [qa6]
 ·simp only [zU, seval]
  refine ⟨_, _, (qcy rfl).trans (qae [] [0] rfl (by simp) (show qbf _ _ _ = AV.d _ from rfl) (q65 rs _)), ?_, rfl⟩
  show AV.d (D.sl (List.take _ (List.map D.str _))) = _
  rw [qa6]

theorem Qoh (g : Int → Bool) (σ : Sto) : qdd [0, 1] (freezeL (.box 1 (.mapr 1) :: .map (some .i64) (qbb g) :: σ) []) = [.box 1 (.mapr 1), .map (some .i64) (qbb g)] := Qag g σ
theorem Qer (g : Int → Bool) (x : qao) : qag Tryz.prog Gl 74 [.d x.toD, .ptr 0 0] [.box 1 (.mapr 1), .map (some .i64) (qbb g)] (fun r s => r = .d (.bool (g x.id)) ∧ s = [.box 1 (.mapr 1), .map (some .i64) (qbb g)]) := by
 refine qac Tryz.func74 rfl rfl (by simp [Tryz.ntmps74]) (qab rfl _ _ _ _ ?_)
 simp only [Tryz.ntmps74, Tryz.results74, qaj, List.length_nil]
 simp only [zU, seval, qam]
 repeat ((with_reducible refine And.intro ?_ ?_); (focus (first | omega | (simp only [qax]; omega) | (refine qq ?_; rfl) | (refine dq ?_; kernel_rfl) | (intros; simp_all; done))))
 exact ⟨_, _, qae [] [0, 1] rfl (by simp) (show qbf _ _ _ = AV.d _ from rfl) (Qoh g _), rfl, rfl⟩
theorem Qne (g : Int → Bool) (x : qbu) : qag Tryz.prog Gl 76 [.d x.toD, .ptr 0 0] [.box 1 (.mapr 1), .map (some .i64) (qbb g)] (fun r s => r = .d (.bool (g x.ft || g x.tt)) ∧ s = [.box 1 (.mapr 1), .map (some .i64) (qbb g)]) := by
 refine qac Tryz.func76 rfl rfl (by simp [Tryz.ntmps76]) (qab rfl _ _ _ _ ?_)
 simp only [Tryz.ntmps76, Tryz.results76, qaj, List.length_nil]
 simp only [zU, seval, qam]
 repeat ((with_reducible refine And.intro ?_ ?_); (focus (first | omega | (simp only [qax]; omega) | (refine qq ?_; rfl) | (refine dq ?_; kernel_rfl) | (intros; simp_all; done))))
 exact ⟨_, _, qae [] [0, 1] rfl (by simp) (show qbf _ _ _ = AV.d _ from rfl) (Qoh g _), rfl, rfl⟩
theorem Qes (g : Int → Bool) (x : qan) : qag Tryz.prog Gl 78 [.d x.toD, .ptr 0 0] [.box 1 (.mapr 1), .map (some .i64) (qbb g)] (fun r s => r = .d (.bool (g x.thread)) ∧ s = [.box 1 (.mapr 1), .map (some .i64) (qbb g)]) := by
 refine qac Tryz.func78 rfl rfl (by simp [Tryz.ntmps78]) (qab rfl _ _ _ _ ?_)
 simp only [Tryz.ntmps78, Tryz.results78, qaj, List.length_nil]
 simp only [zU, seval, qam]
 repeat ((with_reducible refine And.intro ?_ ?_); (focus (first | omega | (simp only [qax]; omega) | (refine qq ?_; rfl) | (refine dq ?_; kernel_rfl) | (intros; simp_all; done))))
 exact ⟨_, _, qae [] [0, 1] rfl (by simp) (show qbf _ _ _ = AV.d _ from rfl) (Qoh g _), rfl, rfl⟩
theorem Qiv (g : Int → Bool) (x : qar) : qag Tryz.prog Gl 80 [.d x.toD, .ptr 0 0] [.box 1 (.mapr 1), .map (some .i64) (qbb g)] (fun r s => r = .d (.bool (g x.thread)) ∧ s = [.box 1 (.mapr 1), .map (some .i64) (qbb g)]) := by
 refine qac Tryz.func80 rfl rfl (by simp [Tryz.ntmps80]) (qab rfl _ _ _ _ ?_)
 simp only [Tryz.ntmps80, Tryz.results80, qaj, List.length_nil]
 simp only [zU, seval, qam]
 repeat ((with_reducible refine And.intro ?_ ?_); (focus (first | omega | (simp only [qax]; omega) | (refine qq ?_; rfl) | (refine dq ?_; kernel_rfl) | (intros; simp_all; done))))
 exact ⟨_, _, qae [] [0, 1] rfl (by simp) (show qbf _ _ _ = AV.d _ from rfl) (Qoh g _), rfl, rfl⟩
theorem Qnd (g : Int → Bool) (x : qcd) : qag Tryz.prog Gl 82 [.d x.toD, .ptr 0 0] [.box 1 (.mapr 1), .map (some .i64) (qbb g)] (fun r s => r = .d (.bool (g x.thread)) ∧ s = [.box 1 (.mapr 1), .map (some .i64) (qbb g)]) := by
 refine qac Tryz.func82 rfl rfl (by simp [Tryz.ntmps82]) (qab rfl _ _ _ _ ?_)
 simp only [Tryz.ntmps82, Tryz.results82, qaj, List.length_nil]
 simp only [zU, seval, qam]
 repeat ((with_reducible refine And.intro ?_ ?_); (focus (first | omega | (simp only [qax]; omega) | (refine qq ?_; rfl) | (refine dq ?_; kernel_rfl) | (intros; simp_all; done))))
 exact ⟨_, _, qae [] [0, 1] rfl (by simp) (show qbf _ _ _ = AV.d _ from rfl) (Qoh g _), rfl, rfl⟩
theorem Qiu (g : Int → Bool) (x : qah) : qag Tryz.prog Gl 83 [.d x.toD, .ptr 0 0] [.box 1 (.mapr 1), .map (some .i64) (qbb g)] (fun r s => r = .d (.bool (!g x.thread)) ∧ s = [.box 1 (.mapr 1), .map (some .i64) (qbb g)]) := by
 refine qac Tryz.func83 rfl rfl (by simp [Tryz.ntmps83]) (qab rfl _ _ _ _ ?_)
 simp only [Tryz.ntmps83, Tryz.results83, qaj, List.length_nil]
 simp only [zU, seval, qam]
 repeat ((with_reducible refine And.intro ?_ ?_); (focus (first | omega | (simp only [qax]; omega) | (refine qq ?_; rfl) | (refine dq ?_; kernel_rfl) | (intros; simp_all; done))))
 exact ⟨_, _, qae [] [0, 1] rfl (by simp) (show qbf _ _ _ = AV.d _ from rfl) (Qoh g _), rfl, rfl⟩
theorem Qiq (l : List qap) (hl : l.length < 1000000) (x : qah) : qag Tryz.prog Gl 65 [.d x.toD, .ptr 0 0] [.box 1 (.d (.sl (l.map qap.toD)))] (fun r s => r = .d (.bool (!qdb l qa8 x.name)) ∧ s = [.box 1 (.d (.sl (l.map qap.toD)))]) := by
 refine qac Tryz.func65 rfl rfl (by simp [Tryz.ntmps65]) (qab rfl _ _ _ _ ?_)
 simp only [Tryz.ntmps65, Tryz.results65, qaj, List.length_nil]
 simp only [zU, seval, qam]
 repeat ((with_reducible refine And.intro ?_ ?_); (focus (first | omega | (simp only [qax]; omega) | (refine qq ?_; rfl) | (refine dq ?_; kernel_rfl) | (intros; simp_all; done))))
 refine qaf (qf0 l _ _ hl) ?_
 simp only [zU, seval, qam]
 exact ⟨_, _, qae [] [0] rfl (by simp) (show qbf _ _ _ = AV.d _ from rfl) rfl, rfl, rfl⟩
theorem Qna (l : List qap) (hl : l.length < 1000000) (x : List UInt8) : qag Tryz.prog Gl 68 [.d (.str x), .ptr 0 0] [.box 1 (.d (.sl (l.map qap.toD)))] (fun r s => r = .d (.bool (qdb l qbd x)) ∧ s = [.box 1 (.d (.sl (l.map qap.toD)))]) := by
 refine qac Tryz.func68 rfl rfl (by simp [Tryz.ntmps68]) (qab rfl _ _ _ _ ?_)
 simp only [Tryz.ntmps68, Tryz.results68, qaj, List.length_nil]
 simp only [zU, seval, qam]
 repeat ((with_reducible refine And.intro ?_ ?_); (focus (first | omega | (simp only [qax]; omega) | (refine qq ?_; rfl) | (refine dq ?_; kernel_rfl) | (intros; simp_all; done))))
 refine qaf (qf0 l _ _ hl) ?_
 simp only [zU, seval, qam]
 exact ⟨_, _, qae [] [0] rfl (by simp) (show qbf _ _ _ = AV.d _ from rfl) rfl, rfl, rfl⟩
theorem Qnb (l : List qap) (hl : l.length < 1000000) (x : qbc) : qag Tryz.prog Gl 72 [.d x.toD, .ptr 0 0] [.box 1 (.d (.sl (l.map qap.toD)))] (fun r s => r = .d (.bool (qdb l qaw x.name)) ∧ s = [.box 1 (.d (.sl (l.map qap.toD)))]) := by
 refine qac Tryz.func72 rfl rfl (by simp [Tryz.ntmps72]) (qab rfl _ _ _ _ ?_)
 simp only [Tryz.ntmps72, Tryz.results72, qaj, List.length_nil]
 simp only [zU, seval, qam]
 repeat ((with_reducible refine And.intro ?_ ?_); (focus (first | omega | (simp only [qax]; omega) | (refine qq ?_; rfl) | (refine dq ?_; kernel_rfl) | (intros; simp_all; done))))
 refine qaf (qf0 l _ _ hl) ?_
 simp only [zU, seval, qam]
 exact ⟨_, _, qae [] [0] rfl (by simp) (show qbf _ _ _ = AV.d _ from rfl) rfl, rfl, rfl⟩
end YtljpopkonkanlaaGreatDoor
end Go.Proofs
