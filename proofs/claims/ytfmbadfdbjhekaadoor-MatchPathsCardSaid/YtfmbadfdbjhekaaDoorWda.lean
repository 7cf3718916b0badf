/- A part of the proof: contracts of functions of this seat, and lemmas. No condition beyond those stated. -/
import Derived.Test.YtfmbadfdbjhekaaDoorXTy
import Derived.Test.YtfmbadfdbjhekaaDoorG4
set_option linter.unusedVariables false
set_option linter.unusedSimpArgs false
set_option linter.unusedSectionVars false
set_option linter.unnecessarySimpa false
set_option maxRecDepth 100000
namespace Go.Proofs
open Go.AM
namespace YtfmbadfdbjhekaaDoor
variable {Gl : Globs}
theorem zA : type_of% (And.intro @vcRules (And.intro @dRules (And.intro @bRules (And.intro @tyRules (And.intro @xRules (And.intro @pickV_true (And.intro @pickV_false (And.intro @Int.natCast_add (And.intro @Int.natCast_one @bytes_lit))))))))) := And.intro @vcRules (And.intro @dRules (And.intro @bRules (And.intro @tyRules (And.intro @xRules (And.intro @pickV_true (And.intro @pickV_false (And.intro @Int.natCast_add (And.intro @Int.natCast_one @bytes_lit))))))))
theorem k_ibs (s : List UInt8) (c : Int) : Pure Tryd.prog Gl 69 [.d (.str s), .d (.int .u8 c)] (.d (.int .i64 (Lib.indexByte s c.toNat.toUInt8))) :=
 indexByteString_pure Tryd.func69 (by kernel_rfl) (by kernel_rfl) (by kernel_rfl) (by kernel_rfl) s c
theorem k_sib (s : List UInt8) (c : Int) : Pure Tryd.prog Gl 67 [.d (.str s), .d (.int .u8 c)] (.d (.int .i64 (Lib.indexByte s c.toNat.toUInt8))) := by
 refine Pure.of2 ?_
 refine acalls_of Tryd.func67 rfl rfl (by simp [Tryd.ntmps67]) (evC_sound rfl _ _ _ _ ?_)
 simp only [Tryd.ntmps67, Tryd.results67, argEnv, List.length_nil]
 simp only [zA, seval, implies_true, Nat.reduceLeDiff, Nat.reduceEqDiff, reduceCtorEq, reduceIte]
 refine callF_pure (k_ibs s c) ?_
 simp only [zA, seval, implies_true, Nat.reduceLeDiff, Nat.reduceEqDiff, reduceCtorEq, reduceIte]
 exact ⟨_, _, WeakR.refl _ _ _, rfl, rfl⟩
theorem k_IndexByte (s : List UInt8) (c : Int) : Pure Tryd.prog Gl 65 [.d (.str s), .d (.int .u8 c)] (.d (.int .i64 (Lib.indexByte s c.toNat.toUInt8))) := by
 refine Pure.of2 ?_
 refine acalls_of Tryd.func65 rfl rfl (by simp [Tryd.ntmps65]) (evC_sound rfl _ _ _ _ ?_)
 simp only [Tryd.ntmps65, Tryd.results65, argEnv, List.length_nil]
 simp only [zA, seval, implies_true, Nat.reduceLeDiff, Nat.reduceEqDiff, reduceCtorEq, reduceIte]
 refine callF_pure (k_sib s c) ?_
 simp only [zA, seval, implies_true, Nat.reduceLeDiff, Nat.reduceEqDiff, reduceCtorEq, reduceIte]
 exact ⟨_, _, WeakR.refl _ _ _, rfl, rfl⟩
def signs : List UInt8 := [95, 46, 58, 47, 60, 62, 36, 42, 126, 45]
def letterF (c : Int) : Bool := (decide (97 ≤ c) && decide (c ≤ 122)) || (decide (65 ≤ c) && decide (c ≤ 90)) || (decide (48 ≤ c) && decide (c ≤ 57)) || decide (0 ≤ Lib.indexByte signs c.toNat.toUInt8)
theorem k_letter (c : Int) : Pure Tryd.prog Gl 62 [.d (.int .u8 c)] (.d (.bool (letterF c))) := by
 refine Pure.of1 ?_
 refine acalls_of Tryd.func62 rfl rfl (by simp [Tryd.ntmps62]) (evC_sound rfl _ _ _ _ ?_)
 simp only [Tryd.ntmps62, Tryd.results62, argEnv, List.length_nil]
 simp only [zA, seval, implies_true, Nat.reduceLeDiff, Nat.reduceEqDiff, reduceCtorEq, reduceIte]
 repeat ((with_reducible refine And.intro ?_ ?_); (focus (first | omega | (simp only [lenR]; omega) | (refine qq ?_; rfl) | (refine dq ?_; kernel_rfl) | (intros; simp_all; done))))
 refine callG_pure (fun _ => k_IndexByte _ _) ?_
 simp only [zA, seval, implies_true, Nat.reduceLeDiff, Nat.reduceEqDiff, reduceCtorEq, reduceIte]
 exact ⟨_, _, ret_d, rfl, rfl⟩
def nameB (s : List UInt8) : Bool := decide (1 ≤ s.length) && decide (s.length ≤ 40) && s.all fun c => letterF c.toNat
def nameF (s : List UInt8) : Int := if nameB s = true then 0 else 3
theorem nameF_f {s : List UInt8} (h : nameB s = false) : nameF s = 3 := by simp [nameF, h]
theorem nameF_t {s : List UInt8} (h : nameB s = true) : nameF s = 0 := by simp [nameF, h]
theorem nameB_all {s : List UInt8} (h : 1 ≤ s.length ∧ s.length ≤ 40) : nameB s = s.all fun c => letterF c.toNat := by simp [nameB, h]
theorem nameB_long {s : List UInt8} (h : ¬ (1 ≤ s.length ∧ s.length ≤ 40)) : nameB s = false := by
 unfold nameB
 by_cases h1 : 1 ≤ s.length
 ·have : ¬ s.length ≤ 40 := fun h2 => h ⟨h1, h2⟩
  simp [this]
 ·simp [h1]
theorem k_Name (s : List UInt8) : Pure Tryd.prog Gl 52 [.d (.str s)] (.d (.int .i64 (nameF s))) := by
 refine Pure.of1 ?_
 refine acalls_of Tryd.func52 rfl rfl (by simp [Tryd.ntmps52]) (evC_sound rfl _ _ _ _ ?_)
 simp only [Tryd.ntmps52, Tryd.results52, argEnv, List.length_nil]
 simp only [zA, seval, implies_true, Nat.reduceLeDiff, Nat.reduceEqDiff, reduceCtorEq, reduceIte]
 repeat ((with_reducible refine And.intro ?_ ?_); (focus (first | omega | (simp only [lenR]; omega) | (refine qq ?_; rfl) | (refine dq ?_; kernel_rfl) | (intros; simp_all; done))))
 refine ifC.mk (fun h => ?_) (fun h => ?_)
 ·refine ⟨_, _, ret_d, ?_, rfl⟩
  rw [nameF_f (nameB_long fun hn => ?_)]
  cases s <;> simp at h hn; omega
 ·have hn : 1 ≤ s.length ∧ s.length ≤ 40 := by cases s <;> simp at h ⊢; omega
  refine for_of s.length (fun k => [(0, .d (.str s)), (12, .d (.int .i64 s.length)), (13, .d (.int .i64 k))]) (fun _ => []) (fun k => ((s.take k).all fun c => letterF c.toNat) = true) rfl ?_ ?_
  ·refine weak_to [] [] rfl List.nodup_nil ?_ rfl
   simp only [zA, seval, implies_true, Nat.reduceLeDiff, Nat.reduceEqDiff, reduceCtorEq, reduceIte, Int.cast_ofNat_Int]
  ·intro k hi hk
   by_cases h : k < s.length
   ·have hs := all_take (fun c => letterF c.toNat) s k h
    have hd : s.getD k 0 = s.getD k default := rfl
    simp only [zA, seval, implies_true, Nat.reduceLeDiff, Nat.reduceEqDiff, reduceCtorEq, reduceIte, (show (k:Int) < s.length by omega), hd]
    repeat ((with_reducible refine And.intro ?_ ?_); (focus (first | omega | (simp only [lenR]; omega) | (refine qq ?_; rfl) | (refine dq ?_; kernel_rfl) | (intros; simp_all; done))))
    refine callF_pure (k_letter _) ?_
    simp only [zA, seval, implies_true, Nat.reduceLeDiff, Nat.reduceEqDiff, reduceCtorEq, reduceIte]
    refine ifC.mk (fun hc => ?_) (fun hc => ?_)
    ·refine ⟨_, _, ret_d, ?_, rfl⟩
     rw [nameF_f (by rw [nameB_all hn]; exact all_at _ s k h (by simpa using hc))]
    ·refine ⟨h, by rw [hs, hi]; simpa using hc, ?_⟩
     refine weak_to [] [] rfl List.nodup_nil ?_ rfl
     simp only [zA, seval, implies_true, Nat.reduceLeDiff, Nat.reduceEqDiff, reduceCtorEq, reduceIte, @a_wrap ((k:Int) + 1) (by omega)]
   ·simp only [zA, seval, implies_true, Nat.reduceLeDiff, Nat.reduceEqDiff, reduceCtorEq, reduceIte, (show ¬ (k:Int) < s.length by omega)]
    refine ⟨_, _, ret_d, ?_, rfl⟩
    have : k = s.length := by omega
    rw [this, List.take_length] at hi
    rw [nameF_t (by rw [nameB_all hn]; exact hi)]
def framesF (l : List (List UInt8)) : Int := if 32 < l.length then 7 else if l.all nameB = true then 0 else 3
end YtfmbadfdbjhekaaDoor
end Go.Proofs
