/- A part of the proof: contracts of functions of this seat, and lemmas. No condition beyond those stated. -/
import Derived.Test.YtfmbadfdbjhekaaDoorWdnw
set_option linter.unusedVariables false
set_option linter.unusedSimpArgs false
set_option linter.unusedSectionVars false
set_option linter.unnecessarySimpa false
set_option maxRecDepth 100000
namespace Go.Proofs
open Go.AM
namespace YtfmbadfdbjhekaaDoor
variable {Gl : Globs}
theorem rd2 {σ : Sto} {i es : Nat} {xs : List D} {k : Nat} (h : blkAt σ i = .frz es xs) (hk : k = xs.length) : Rd σ (.osl i 0 k) (.sl xs) := by
 refine .osl h ?_
 rw [List.drop_zero, hk, List.take_length]
theorem k_SameBT (x : List PairT) (n : Nat) (hx : x.length = n) (hl : n < 1000000) (B : Blk) (hB : ArrOrFrz 2 (x.map PairT.toD) B) : ACalls Tryd.prog Gl 13 [.d (.sl (x.map PairT.toD)), .osl 0 0 n] [B] (fun r s => r = .d (.bool true) ∧ s = [B]) := by
 have := k_SameB (Gl := Gl) x x n hx hx hl B hB
 rwa [decide_eq_true rfl] at this
theorem k_SameTextsBT (x : List (List UInt8)) (n : Nat) (hx : x.length = n) (hl : n < 1000000) (B : Blk) (hB : ArrOrFrz 1 (x.map .str) B) : ACalls Tryd.prog Gl 20 [.d (.sl (x.map .str)), .osl 0 0 n] [B] (fun r s => r = .d (.bool true) ∧ s = [B]) := by
 have := k_SameTextsB (Gl := Gl) x x n hx hx hl B hB
 rwa [decide_eq_true rfl] at this
def exL : List PairT := [⟨0, 0⟩, ⟨1, 1⟩, ⟨2, 2⟩, ⟨3, 3⟩]
def exM : List PairT := [⟨0, 0⟩, ⟨1, -1⟩, ⟨-1, 1⟩]
def exN : List PairT := [⟨0, -1⟩, ⟨1, -1⟩]
def exT : List (List UInt8) := [[49, 32, 102], [50, 32, 120], [49, 32, 104]]
set_option maxHeartbeats 4000000 in
theorem k_awake : Pure Tryd.prog Gl 10 [] (.d (.bool true)) := by
 refine Pure.of0 ?_
 refine acalls_of Tryd.func10 rfl rfl (by simp [Tryd.ntmps10]) (evC_sound rfl _ _ _ _ ?_)
 simp only [Tryd.ntmps10, Tryd.results10, argEnv, List.length_nil]
 simp only [zN, seval, implies_true, Nat.reduceLeDiff, Nat.reduceEqDiff, reduceCtorEq, reduceIte, intD]
 refine callF_pure (k_node _ _ _) ?_
 simp only [zN, seval, implies_true, Nat.reduceLeDiff, Nat.reduceEqDiff, reduceCtorEq, reduceIte, intD]
 repeat ((with_reducible refine And.intro ?_ ?_); (focus (first | omega | (simp only [lenR]; omega) | (refine qq ?_; rfl) | (refine dq ?_; kernel_rfl) | (intros; simp_all; done))))
 refine callF_pure (k_node _ _ _) ?_
 simp only [zN, seval, implies_true, Nat.reduceLeDiff, Nat.reduceEqDiff, reduceCtorEq, reduceIte, intD]
 repeat ((with_reducible refine And.intro ?_ ?_); (focus (first | omega | (simp only [lenR]; omega) | (refine qq ?_; rfl) | (refine dq ?_; kernel_rfl) | (intros; simp_all; done))))
 refine callF_pure (k_node _ _ _) ?_
 simp only [zN, seval, implies_true, Nat.reduceLeDiff, Nat.reduceEqDiff, reduceCtorEq, reduceIte, intD]
 repeat ((with_reducible refine And.intro ?_ ?_); (focus (first | omega | (simp only [lenR]; omega) | (refine qq ?_; rfl) | (refine dq ?_; kernel_rfl) | (intros; simp_all; done))))
 refine callF_pure (k_node _ _ _) ?_
 simp only [zN, seval, implies_true, Nat.reduceLeDiff, Nat.reduceEqDiff, reduceCtorEq, reduceIte, intD]
 repeat ((with_reducible refine And.intro ?_ ?_); (focus (first | omega | (simp only [lenR]; omega) | (refine qq ?_; rfl) | (refine dq ?_; kernel_rfl) | (intros; simp_all; done))))
 refine callF_pure (k_node _ _ _) ?_
 simp only [zN, seval, implies_true, Nat.reduceLeDiff, Nat.reduceEqDiff, reduceCtorEq, reduceIte, intD]
 repeat ((with_reducible refine And.intro ?_ ?_); (focus (first | omega | (simp only [lenR]; omega) | (refine qq ?_; rfl) | (refine dq ?_; kernel_rfl) | (intros; simp_all; done))))
 refine callF_pure (k_node _ _ _) ?_
 simp only [zN, seval, implies_true, Nat.reduceLeDiff, Nat.reduceEqDiff, reduceCtorEq, reduceIte, intD]
 repeat ((with_reducible refine And.intro ?_ ?_); (focus (first | omega | (simp only [lenR]; omega) | (refine qq ?_; rfl) | (refine dq ?_; kernel_rfl) | (intros; simp_all; done))))
 refine callF_pure (k_node _ _ _) ?_
 simp only [zN, seval, implies_true, Nat.reduceLeDiff, Nat.reduceEqDiff, reduceCtorEq, reduceIte, intD]
 repeat ((with_reducible refine And.intro ?_ ?_); (focus (first | omega | (simp only [lenR]; omega) | (refine qq ?_; rfl) | (refine dq ?_; kernel_rfl) | (intros; simp_all; done))))
 refine callF_pure (k_node _ _ _) ?_
 simp only [zN, seval, implies_true, Nat.reduceLeDiff, Nat.reduceEqDiff, reduceCtorEq, reduceIte, intD]
 repeat ((with_reducible refine And.intro ?_ ?_); (focus (first | omega | (simp only [lenR]; omega) | (refine qq ?_; rfl) | (refine dq ?_; kernel_rfl) | (intros; simp_all; done))))
 refine callF_dataE (σ' := [.frz 5 (exA.map NodeT.toD), .frz 5 (exB.map NodeT.toD)]) (k_MOf exA exB (by decide) (by decide)) rfl rfl ?_
 rw [ofD, ex1]
 simp only [zN, seval, implies_true, Nat.reduceLeDiff, Nat.reduceEqDiff, reduceCtorEq, reduceIte, intD]
 repeat ((with_reducible refine And.intro ?_ ?_); (focus (first | omega | (simp only [lenR]; omega) | (refine qq ?_; rfl) | (refine dq ?_; kernel_rfl) | (intros; simp_all; done))))
 refine callF_pure (k_node _ _ _) ?_
 simp only [zN, seval, implies_true, Nat.reduceLeDiff, Nat.reduceEqDiff, reduceCtorEq, reduceIte, intD]
 repeat ((with_reducible refine And.intro ?_ ?_); (focus (first | omega | (simp only [lenR]; omega) | (refine qq ?_; rfl) | (refine dq ?_; kernel_rfl) | (intros; simp_all; done))))
 refine callF_pure (k_node _ _ _) ?_
 simp only [zN, seval, implies_true, Nat.reduceLeDiff, Nat.reduceEqDiff, reduceCtorEq, reduceIte, intD]
 repeat ((with_reducible refine And.intro ?_ ?_); (focus (first | omega | (simp only [lenR]; omega) | (refine qq ?_; rfl) | (refine dq ?_; kernel_rfl) | (intros; simp_all; done))))
 refine callF_pure (k_node _ _ _) ?_
 simp only [zN, seval, implies_true, Nat.reduceLeDiff, Nat.reduceEqDiff, reduceCtorEq, reduceIte, intD]
 repeat ((with_reducible refine And.intro ?_ ?_); (focus (first | omega | (simp only [lenR]; omega) | (refine qq ?_; rfl) | (refine dq ?_; kernel_rfl) | (intros; simp_all; done))))
 refine callF_pure (k_node _ _ _) ?_
 simp only [zN, seval, implies_true, Nat.reduceLeDiff, Nat.reduceEqDiff, reduceCtorEq, reduceIte, intD]
 repeat ((with_reducible refine And.intro ?_ ?_); (focus (first | omega | (simp only [lenR]; omega) | (refine qq ?_; rfl) | (refine dq ?_; kernel_rfl) | (intros; simp_all; done))))
 refine callF_dataE (σ' := [.frz 5 (exA.map NodeT.toD), .frz 5 (exB.map NodeT.toD), .frz 5 (exC.map NodeT.toD), .frz 5 (exD.map NodeT.toD)]) (k_MOf exC exD (by decide) (by decide)) rfl rfl ?_
 rw [ofD, ex2]
 simp only [zN, seval, implies_true, Nat.reduceLeDiff, Nat.reduceEqDiff, reduceCtorEq, reduceIte, intD]
 repeat ((with_reducible refine And.intro ?_ ?_); (focus (first | omega | (simp only [lenR]; omega) | (refine qq ?_; rfl) | (refine dq ?_; kernel_rfl) | (intros; simp_all; done))))
 refine callF_dataE (σ' := [.frz 5 (exA.map NodeT.toD), .frz 5 (exB.map NodeT.toD), .frz 5 (exC.map NodeT.toD), .frz 5 (exD.map NodeT.toD)]) (k_MOf exC [] (by decide) (by decide)) rfl rfl ?_
 rw [ofD, ex3]
 simp only [zN, seval, implies_true, Nat.reduceLeDiff, Nat.reduceEqDiff, reduceCtorEq, reduceIte, intD]
 repeat ((with_reducible refine And.intro ?_ ?_); (focus (first | omega | (simp only [lenR]; omega) | (refine qq ?_; rfl) | (refine dq ?_; kernel_rfl) | (intros; simp_all; done))))
 refine callF_dataE (σ' := [.frz 5 (exA.map NodeT.toD), .frz 5 (exB.map NodeT.toD), .frz 5 (exC.map NodeT.toD), .frz 5 (exD.map NodeT.toD), .frz 2 (exL.map PairT.toD)]) (k_Same exL exL (by decide) (by decide)) rfl rfl ?_
 simp only [zN, seval, implies_true, Nat.reduceLeDiff, Nat.reduceEqDiff, reduceCtorEq, reduceIte, intD, decide_true]
 repeat ((with_reducible refine And.intro ?_ ?_); (focus (first | omega | (simp only [lenR]; omega) | (refine qq ?_; rfl) | (refine dq ?_; kernel_rfl) | (intros; simp_all; done))))
 refine callG_rd (fun _ => k_Renamed exA exB exL (by decide) (by decide) (by decide)) (.cons (rd2 rfl rfl) (.cons (rd2 rfl rfl) (.cons (.d _) .nil))) ?_
 rw [exL, ex4]
 simp only [zN, seval, implies_true, Nat.reduceLeDiff, Nat.reduceEqDiff, reduceCtorEq, reduceIte, intD]
 repeat ((with_reducible refine And.intro ?_ ?_); (focus (first | omega | (simp only [lenR]; omega) | (refine qq ?_; rfl) | (refine dq ?_; kernel_rfl) | (intros; simp_all; done))))
 refine callG_at1 (v := .bool true) 5 (fun B hB => k_SameBT [⟨1, 1⟩] 1 rfl (by decide) B hB) (fun s => rfl) rfl ?_
 simp only [zN, seval, implies_true, Nat.reduceLeDiff, Nat.reduceEqDiff, reduceCtorEq, reduceIte, intD]
 repeat ((with_reducible refine And.intro ?_ ?_); (focus (first | omega | (simp only [lenR]; omega) | (refine qq ?_; rfl) | (refine dq ?_; kernel_rfl) | (intros; simp_all; done))))
 refine callG_rd (fun _ => k_Chk exA exB exL (by decide) (by decide) (by decide)) (.cons (rd2 rfl rfl) (.cons (rd2 rfl rfl) (.cons (.d _) .nil))) ?_
 rw [exL, ex5]
 simp only [zN, seval, implies_true, Nat.reduceLeDiff, Nat.reduceEqDiff, reduceCtorEq, reduceIte, intD]
 repeat ((with_reducible refine And.intro ?_ ?_); (focus (first | omega | (simp only [lenR]; omega) | (refine qq ?_; rfl) | (refine dq ?_; kernel_rfl) | (intros; simp_all; done))))
 refine callG_at1 (v := .bool true) 6 (fun B hB => k_SameBT exM 3 rfl (by decide) B hB) (fun s => rfl) rfl ?_
 simp only [zN, seval, implies_true, Nat.reduceLeDiff, Nat.reduceEqDiff, reduceCtorEq, reduceIte, intD]
 repeat ((with_reducible refine And.intro ?_ ?_); (focus (first | omega | (simp only [lenR]; omega) | (refine qq ?_; rfl) | (refine dq ?_; kernel_rfl) | (intros; simp_all; done))))
 refine callG_at1 (v := .bool true) 7 (fun B hB => k_SameBT exN 2 rfl (by decide) B hB) (fun s => rfl) rfl ?_
 simp only [zN, seval, implies_true, Nat.reduceLeDiff, Nat.reduceEqDiff, reduceCtorEq, reduceIte, intD]
 repeat ((with_reducible refine And.intro ?_ ?_); (focus (first | omega | (simp only [lenR]; omega) | (refine qq ?_; rfl) | (refine dq ?_; kernel_rfl) | (intros; simp_all; done))))
 refine callG_rd (fun _ => k_Chk exA exB [⟨0, 0⟩, ⟨1, 1⟩, ⟨2, 2⟩] (by decide) (by decide) (by decide)) (.cons (rd2 rfl rfl) (.cons (rd2 rfl rfl) (.cons (.d _) .nil))) ?_
 rw [ex6]
 simp only [zN, seval, implies_true, Nat.reduceLeDiff, Nat.reduceEqDiff, reduceCtorEq, reduceIte, intD]
 repeat ((with_reducible refine And.intro ?_ ?_); (focus (first | omega | (simp only [lenR]; omega) | (refine qq ?_; rfl) | (refine dq ?_; kernel_rfl) | (intros; simp_all; done))))
 refine callG_rd (fun _ => k_MShape exA (by decide) 0) (.cons (rd2 rfl rfl) (.cons (.d _) .nil)) ?_
 rw [ex7]
 simp only [zN, seval, implies_true, Nat.reduceLeDiff, Nat.reduceEqDiff, reduceCtorEq, reduceIte, intD]
 repeat ((with_reducible refine And.intro ?_ ?_); (focus (first | omega | (simp only [lenR]; omega) | (refine qq ?_; rfl) | (refine dq ?_; kernel_rfl) | (intros; simp_all; done))))
 refine callG_at1 (v := .bool true) 8 (fun B hB => k_SameTextsBT exT 3 rfl (by decide) B hB) (fun s => rfl) rfl ?_
 simp only [zN, seval, implies_true, Nat.reduceLeDiff, Nat.reduceEqDiff, reduceCtorEq, reduceIte, intD]
 repeat ((with_reducible refine And.intro ?_ ?_); (focus (first | omega | (simp only [lenR]; omega) | (refine qq ?_; rfl) | (refine dq ?_; kernel_rfl) | (intros; simp_all; done))))
 refine callG_rd (fun _ => k_MShape exA (by decide) 4) (.cons (rd2 rfl rfl) (.cons (.d _) .nil)) ?_
 rw [ex8]
 simp only [zN, seval, implies_true, Nat.reduceLeDiff, Nat.reduceEqDiff, reduceCtorEq, reduceIte, intD]
 repeat ((with_reducible refine And.intro ?_ ?_); (focus (first | omega | (simp only [lenR]; omega) | (refine qq ?_; rfl) | (refine dq ?_; kernel_rfl) | (intros; simp_all; done))))
 exact ⟨_, _, ret_d, rfl, rfl⟩
end YtfmbadfdbjhekaaDoor
end Go.Proofs
