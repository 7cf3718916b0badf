/- A part of the proof: contracts of functions of this seat, and lemmas. No condition beyond those stated. -/
import Derived.Test.YtadfcljoocjhdaaGreatWti
set_option linter.unusedVariables false
set_option linter.unusedSimpArgs false
set_option linter.unusedSectionVars false
set_option linter.unnecessarySimpa false
set_option maxRecDepth 100000
namespace Go.Proofs
open Go.AM
namespace YtadfcljoocjhdaaGreat
variable {Gl : Globs}
theorem k_RValid (a b : Int) : Pure Tryz.prog Gl 134 [.d (.agg [.int .i64 a, .int .i64 b])] (.d (.bool (okSpan a b))) := by
 refine Pure.of1 ?_
 refine acalls_of Tryz.func134 rfl rfl (by simp [Tryz.ntmps134]) (evC_sound rfl _ _ _ _ ?_)
 simp only [Tryz.ntmps134, Tryz.results134, argEnv, List.length_nil]
 simp only [zC, seval, implies_true, Nat.reduceLeDiff, Nat.reduceEqDiff, reduceCtorEq, reduceIte]
 exact ⟨_, _, ret_d, rfl, rfl⟩
theorem k_RThread (x : ThreadT) : Pure Tryz.prog Gl 88 [.d x.toD] (.d (.int .i64 (thrErr x))) := by
 refine Pure.of1 ?_
 refine acalls_of Tryz.func88 rfl rfl (by simp [Tryz.ntmps88]) (evC_sound rfl _ _ _ _ ?_)
 simp only [Tryz.ntmps88, Tryz.results88, argEnv, List.length_nil]
 simp only [zC, seval, implies_true, Nat.reduceLeDiff, Nat.reduceEqDiff, reduceCtorEq, reduceIte]
 refine ifC.mk (fun h => ?_) (fun h => ?_)
 ·refine ⟨_, _, ret_d, ?_, rfl⟩
  rw [thrErr, if_pos h]
 ·refine callF_pure (k_RName _) ?_
  simp only [zC, seval, implies_true, Nat.reduceLeDiff, Nat.reduceEqDiff, reduceCtorEq, reduceIte]
  refine ⟨_, _, ret_d, ?_, rfl⟩
  rw [thrErr, if_neg (by rw [h]; simp)]
theorem under_lt {l : List SliceT} (hn : nestF l = true) {i : Int} : ∀ (n : Nat) {p : Int}, (p + 1).toNat ≤ n → p < i → p < l.length → underW l i p = false
 | 0, p, h, _, _ => under_neg (by omega)
 | n + 1, p, h, h2, h3 => by
  by_cases h0 : 0 ≤ p
  ·obtain ⟨q, rfl⟩ : ∃ q : Nat, p = q := ⟨p.toNat, by omega⟩
   have hp := nest_parent (nestF_at hn (i := q) (by omega))
   rw [under_step h0 (by omega) (by rw [a_idxNat]; exact hp.2), a_idxNat]
   exact under_lt hn n (by omega) (by omega) (by omega)
  ·exact under_neg h0
theorem k_Rabove (l : List SliceT) (hl : l.length < 1000000) (hn : nestF l = true) (i k : Int) (hi : 0 ≤ i) (hk : k < l.length) : Pure Tryz.prog Gl 173 [.d (.sl (l.map SliceT.toD)), .d (.int .i64 i), .d (.int .i64 k)] (.d (.bool (underW l i k))) := by
 refine Pure.of3 ?_
 refine acalls_of Tryz.func173 rfl rfl (by simp [Tryz.ntmps173]) (evC_sound rfl _ _ _ _ ?_)
 simp only [Tryz.ntmps173, Tryz.results173, argEnv, List.length_nil]
 simp only [zC, seval, implies_true, Nat.reduceLeDiff, Nat.reduceEqDiff, reduceCtorEq, reduceIte]
 refine loop_of (τ := Int) (fun p => [(0, .d (.sl (l.map SliceT.toD))), (1, .d (.int .i64 i)), (2, .d (.int .i64 p))]) (fun _ => []) (fun p => p < l.length ∧ underW l i p = underW l i k) (fun p => (p + 1).toNat) k ⟨hk, rfl⟩ ?_ ?_
 ·refine weak_to [] [] rfl List.nodup_nil ?_ rfl
  simp only [zC, seval, implies_true, Nat.reduceLeDiff, Nat.reduceEqDiff, reduceCtorEq, reduceIte]
 ·rintro p ⟨h1, h2⟩
  simp only [zC, seval, implies_true, Nat.reduceLeDiff, Nat.reduceEqDiff, reduceCtorEq, reduceIte]
  repeat ((with_reducible refine And.intro ?_ ?_); (focus (first | omega | (simp only [lenR]; omega) | (refine qq ?_; rfl) | (refine dq ?_; kernel_rfl) | (intros; simp_all; done))))
  by_cases hc : 0 ≤ p ∧ i < p
  ·obtain ⟨q, rfl⟩ : ∃ q : Nat, p = q := ⟨p.toNat, by omega⟩
   have hp := nest_parent (nestF_at hn (i := q) (by omega))
   rw [under_step hc.1 (by omega) (by rw [a_idxNat]; exact hp.2), a_idxNat] at h2
   have ec : (decide (0 ≤ (q:Int)) && decide (i < (q:Int))) = true := by rw [decide_eq_true hc.1, decide_eq_true hc.2]; rfl
   simp only [zC, seval, implies_true, Nat.reduceLeDiff, Nat.reduceEqDiff, reduceCtorEq, reduceIte, ec, (show (0:Int) ≤ (q:Int) by omega), (show i < (q:Int) by omega), (show (q:Int) < l.length by omega), (show q < l.length by omega), a_getD _ _ _ (show q < l.length by omega)]
   repeat ((with_reducible refine And.intro ?_ ?_); (focus (first | omega | (simp only [lenR]; omega) | (refine qq ?_; rfl) | (refine dq ?_; kernel_rfl) | (intros; simp_all; done))))
   refine ⟨(l.getD q default).parent, ⟨by omega, h2⟩, by omega, ?_⟩
   refine weak_to [] [] rfl List.nodup_nil ?_ rfl
   simp only [zC, seval, implies_true, Nat.reduceLeDiff, Nat.reduceEqDiff, reduceCtorEq, reduceIte]
  ·have ec : (decide (0 ≤ p) && decide (i < p)) = false := by
    rw [Bool.and_eq_false_iff, decide_eq_false_iff_not, decide_eq_false_iff_not]; omega
   simp only [zC, seval, implies_true, Nat.reduceLeDiff, Nat.reduceEqDiff, reduceCtorEq, reduceIte, ec]
   refine ⟨_, _, ret_d, ?_, rfl⟩
   rw [← h2]
   by_cases h5 : i = p
   ·subst h5; rw [under_self hi rfl]; simp
   ·rw [under_lt hn _ (Nat.le_refl _) (by omega) h1]
    refine congrArg (fun b => AV.d (D.bool b)) ?_
    simpa using h5
theorem k_Rcontains (a b c d : Int) : Pure Tryz.prog Gl 172 [.d (.agg [.int .i64 a, .int .i64 b]), .d (.agg [.int .i64 c, .int .i64 d])] (.d (.bool (decide (a ≤ c) && decide (d ≤ b)))) := by
 refine Pure.of2 ?_
 refine acalls_of Tryz.func172 rfl rfl (by simp [Tryz.ntmps172]) (evC_sound rfl _ _ _ _ ?_)
 simp only [Tryz.ntmps172, Tryz.results172, argEnv, List.length_nil]
 simp only [zC, seval, implies_true, Nat.reduceLeDiff, Nat.reduceEqDiff, reduceCtorEq, reduceIte]
 exact ⟨_, _, ret_d, rfl, rfl⟩
def precS (a b : SliceT) : Bool := if (a.lo != b.lo) = true then decide (a.lo < b.lo) else if (a.hi != b.hi) = true then decide (b.hi < a.hi) else decide (a.thread < b.thread)
theorem k_Precedes (a b : SliceT) : Pure Tryz.prog Gl 157 [.d a.toD, .d b.toD] (.d (.bool (precS a b))) := by
 refine Pure.of2 ?_
 refine acalls_of Tryz.func157 rfl rfl (by simp [Tryz.ntmps157]) (evC_sound rfl _ _ _ _ ?_)
 simp only [Tryz.ntmps157, Tryz.results157, argEnv, List.length_nil]
 simp only [zC, seval, implies_true, Nat.reduceLeDiff, Nat.reduceEqDiff, reduceCtorEq, reduceIte]
 refine ifC.mk (fun h1 => ?_) (fun h1 => ?_)
 ·refine ⟨_, _, ret_d, ?_, rfl⟩
  rw [precS, if_pos h1]
 ·refine ifC.mk (fun h2 => ?_) (fun h2 => ?_)
  ·refine ⟨_, _, ret_d, ?_, rfl⟩
   rw [precS, if_neg (by rw [h1]; simp), if_pos h2]
  ·refine ⟨_, _, ret_d, ?_, rfl⟩
   rw [precS, if_neg (by rw [h1]; simp), if_neg (by rw [h2]; simp)]
theorem prec_cmp (a b : SliceT) : decide (0 < cmpSl a b) = precS b a := by
 unfold cmpSl precS orL orL orL orL cmpI
 rw [Bool.eq_iff_iff]
 by_cases h1 : a.lo = b.lo <;> by_cases h2 : a.hi = b.hi
 ·simp [h1, h2]; repeat (first | omega | (split <;> try simp) )
 ·simp [h1]; repeat (first | omega | (split <;> try simp))
 ·simp; repeat (first | omega | (split <;> try simp))
 ·simp; repeat (first | omega | (split <;> try simp))
end YtadfcljoocjhdaaGreat
end Go.Proofs
