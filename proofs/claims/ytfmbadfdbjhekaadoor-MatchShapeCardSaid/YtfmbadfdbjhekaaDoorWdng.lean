/- A part of the proof: contracts of functions of this seat, and lemmas. No condition beyond those stated. -/
import Derived.Test.YtfmbadfdbjhekaaDoorWdnf
set_option linter.unusedVariables false
set_option linter.unusedSimpArgs false
set_option linter.unusedSectionVars false
set_option linter.unnecessarySimpa false
set_option maxRecDepth 100000
namespace Go.Proofs
open Go.AM
namespace YtfmbadfdbjhekaaDoor
variable {Gl : Globs}
def stR (a b : List NodeT) (s : Al) : Sto := [.box 4 (.agg [.d (.sl (a.map NodeT.toD)), .d (.sl (b.map NodeT.toD)), .osl 1 0 a.length, .osl 2 0 b.length]), .arr 1 (s.toB.map (.int .i64)), .arr 1 (s.toA.map (.int .i64))]
theorem k_SameTexts (x y : List (List UInt8)) (hx : x.length < 1000000) (hy : y.length < 1000000) : Pure Tryd.prog Gl 20 [.d (.sl (x.map .str)), .d (.sl (y.map .str))] (.d (.bool (decide (x = y)))) := by
 refine Pure.of2 ?_
 refine acalls_of Tryd.func20 rfl rfl (by simp [Tryd.ntmps20]) (evC_sound rfl _ _ _ _ ?_)
 simp only [Tryd.ntmps20, Tryd.results20, argEnv, List.length_nil]
 simp only [zN, seval, implies_true, Nat.reduceLeDiff, Nat.reduceEqDiff, reduceCtorEq, reduceIte, stR, intD]
 refine ifC.mk (fun h1 => ?_) (fun h1 => ?_)
 ·have h1 : x.length ≠ y.length := by simp at h1; omega
  refine ⟨_, _, ret_d, ?_, rfl⟩
  rw [decide_eq_false (fun e => h1 (by rw [e]))]
 ·have h1 : x.length = y.length := by simp at h1; omega
  refine for_of x.length (fun j => [(0, .d (.sl (x.map .str))), (1, .d (.sl (y.map .str))), (5, .d (.int .i64 j))]) (fun _ => []) (fun j => x.take j = y.take j) rfl ?_ ?_
  ·refine weak_to [] [] rfl List.nodup_nil ?_ rfl
   simp only [zN, seval, implies_true, Nat.reduceLeDiff, Nat.reduceEqDiff, reduceCtorEq, reduceIte, stR, intD, Int.cast_ofNat_Int]
  ·intro j hi hjl
   by_cases hj : j < x.length
   ·have hj2 : j < y.length := by omega
    have e1 := take_step x j hj
    have e2 := take_step y j hj2
    have g1 : (x.map D.str).getD j default = .str (x.getD j default) := by simp [hj]
    have g2 : (y.map D.str).getD j default = .str (y.getD j default) := by simp [hj2]
    simp only [zN, seval, implies_true, Nat.reduceLeDiff, Nat.reduceEqDiff, reduceCtorEq, reduceIte, stR, intD, (show (j:Int) < x.length by omega), (show (j:Int) < y.length by omega), hj, hj2, g1, g2]
    repeat ((with_reducible refine And.intro ?_ ?_); (focus (first | omega | (simp only [lenR]; omega) | (refine qq ?_; rfl) | (refine dq ?_; kernel_rfl) | (intros; simp_all; done))))
    refine ifC.mk (fun h2 => ?_) (fun h2 => ?_)
    ·have h2 : x.getD j default ≠ y.getD j default := by simpa using h2
     refine ⟨_, _, ret_d, ?_, rfl⟩
     rw [decide_eq_false (fun e => h2 (by rw [e]))]
    ·have h2 : x.getD j default = y.getD j default := by simpa using h2
     refine ⟨by rw [e1, e2, hi, h2], ?_⟩
     refine weak_to [] [] rfl List.nodup_nil ?_ rfl
     simp only [zN, seval, implies_true, Nat.reduceLeDiff, Nat.reduceEqDiff, reduceCtorEq, reduceIte, stR, intD, @a_wrap ((j:Int) + 1) (by omega)]
   ·have : j = x.length := by omega
    subst this
    simp only [zN, seval, implies_true, Nat.reduceLeDiff, Nat.reduceEqDiff, reduceCtorEq, reduceIte, stR, intD, (show ¬ (x.length:Int) < x.length by omega)]
    refine ⟨_, _, ret_d, ?_, rfl⟩
    rw [List.take_length, h1, List.take_length] at hi
    rw [decide_eq_true hi]
def Sz (a b : List NodeT) (s : Al) : Prop := s.toB.length = a.length ∧ s.toA.length = b.length
theorem Sz.op {a b : List NodeT} {s : Al} (h : Sz a b s) (p : Nat) (o : Option Nat) : Sz a b (opS s p o) := by
 have := op_len s p o
 exact ⟨this.1.trans h.1, this.2.trans h.2⟩
theorem b_get {s : Al} {p : Nat} (h : p < s.toB.length) : (s.toB.map (D.int .i64)).getD p default = .int .i64 (s.b p) := by
 simp [Al.b, h]
end YtfmbadfdbjhekaaDoor
end Go.Proofs
