/- A part of the proof: contracts of functions of this seat, and lemmas. No condition beyond those stated. -/
import Derived.Test.YtadfcljoocjhdaaGreatWttb
import Derived.Test.YtadfcljoocjhdaaGreatWttq
set_option linter.unusedVariables false
set_option linter.unusedSimpArgs false
set_option linter.unusedSectionVars false
set_option linter.unnecessarySimpa false
set_option maxRecDepth 100000
namespace Go.Proofs
open Go.AM
namespace YtadfcljoocjhdaaGreat
variable {Gl : Globs}
theorem any_snoc {α : Type} [Inhabited α] {p : α → Bool} {l : List α} {k : Nat} (h : k < l.length) : (l.take (k + 1)).any p = ((l.take k).any p || p (l.getD k default)) := any_take p l k h
theorem hasN_at {d : List NamT} {nm : List UInt8} {k : Nat} (h : k < d.length) (hc : ((d.getD k default).name == nm) = true) : hasN d nm = true := List.any_eq_true.2 ⟨_, mem_getD h, hc⟩
theorem findF_at {d : List NamT} {nm : List UInt8} {k : Nat} (hi : (d.take k).any (fun x => x.name == nm) = false) (h : k < d.length) (hc : ((d.getD k default).name == nm) = true) : findF d nm = (d.getD k default).tab := by
 rw [findF, if_pos (hasN_at h hc), placeF, idxF_at h hi hc]; rfl
theorem k_Find (d : List NamT) (nm : List UInt8) (hl : d.length < 1000000) : Pure Tryz.prog Gl 24 [.d (.sl (d.map NamT.toD)), .d (.str nm)] (.tup [.d (findF d nm).toD, .d (.bool (hasN d nm))]) := by
 refine Pure.of2t2 ?_
 refine acalls_of Tryz.func24 rfl rfl (by simp [Tryz.ntmps24]) (evC_sound rfl _ _ _ _ ?_)
 simp only [Tryz.ntmps24, Tryz.results24, argEnv, List.length_nil]
 simp only [zT, seval, implies_true, Nat.reduceLeDiff, Nat.reduceEqDiff, reduceCtorEq, reduceIte]
 repeat ((with_reducible refine And.intro ?_ ?_); (focus (first | omega | (simp only [lenR]; omega) | (refine qq ?_; rfl) | (refine dq ?_; kernel_rfl) | (intros; simp_all; done))))
 refine for_of d.length (fun k => [(1, .d (.str nm)), (4, .ptr 0 0), (8, .d (.sl (d.map NamT.toD))), (9, .d (.int .i64 d.length)), (10, .d (.int .i64 k))]) (fun _ => [.box 2 (.agg [.nils, .nils])]) (fun k => (d.take k).any (fun x : NamT => x.name == nm) = false) rfl ?_ ?_
 ·refine weak_to [] [0] rfl (by simp) ?_ rfl
  simp only [zT, seval, implies_true, Nat.reduceLeDiff, Nat.reduceEqDiff, reduceCtorEq, reduceIte]
  all_goals rfl
 ·intro k hi hk
  by_cases h : k < d.length
  ·have hs := any_snoc (p := fun x : NamT => x.name == nm) h
   obtain ⟨x, hx⟩ : ∃ x, x = d.getD k default := ⟨_, rfl⟩
   have hg : (List.map NamT.toD d).getD k default = x.toD := by rw [hx]; simp [h]
   rw [← hx] at hs
   simp only [zT, seval, implies_true, Nat.reduceLeDiff, Nat.reduceEqDiff, reduceCtorEq, reduceIte, (show (k:Int) < d.length by omega), h, hg]
   repeat ((with_reducible refine And.intro ?_ ?_); (focus (first | omega | (simp only [lenR]; omega) | (refine qq ?_; rfl) | (refine dq ?_; kernel_rfl) | (intros; simp_all; done))))
   refine ifC.mk (fun hc => ?_) (fun hc => ?_)
   ·repeat ((with_reducible refine And.intro ?_ ?_); (focus (first | omega | (simp only [lenR]; omega) | (refine qq ?_; rfl) | (refine dq ?_; kernel_rfl) | (intros; simp_all; done))))
    refine ⟨_, _, ret_tdata rfl rfl, ?_, rfl⟩
    rw [findF_at hi h (by rw [← hx]; exact hc), hasN_at h (by rw [← hx]; exact hc), ← hx]
    rfl
   ·refine ⟨by rw [hs, hi, hc]; rfl, ?_⟩
    refine weak_to [] [0] rfl (by simp) ?_ rfl
    simp only [zT, seval, implies_true, Nat.reduceLeDiff, Nat.reduceEqDiff, reduceCtorEq, reduceIte, @a_wrap ((k:Int) + 1) (by omega)]
    all_goals rfl
  ·simp only [zT, seval, implies_true, Nat.reduceLeDiff, Nat.reduceEqDiff, reduceCtorEq, reduceIte, (show ¬ (k:Int) < d.length by omega)]
   have : k = d.length := by omega
   subst this
   rw [List.take_length] at hi
   repeat ((with_reducible refine And.intro ?_ ?_); (focus (first | omega | (simp only [lenR]; omega) | (refine qq ?_; rfl) | (refine dq ?_; kernel_rfl) | (intros; simp_all; done))))
   refine ⟨_, _, ret_tdata rfl rfl, ?_, rfl⟩
   have hh : hasN d nm = false := hi
   rw [findF, hh, if_neg (by simp)]
   rfl
end YtadfcljoocjhdaaGreat
end Go.Proofs
