/- A part of the proof: contracts of functions of this seat, and lemmas. No condition beyond those stated. -/
import Derived.Test.YtadfcljoocjhdaaGreatWtb
set_option linter.unusedVariables false
set_option linter.unusedSimpArgs false
set_option linter.unusedSectionVars false
set_option linter.unnecessarySimpa false
set_option maxRecDepth 100000
namespace Go.Proofs
open Go.AM
namespace YtadfcljoocjhdaaGreat
variable {Gl : Globs}
theorem cm : constV (Value.map none) = .d (.raw (.map none)) := rfl
theorem zC : type_of% (And.intro @zB (And.intro @cm @g_makeFunc)) := And.intro @zB (And.intro @cm @g_makeFunc)
def okSpan (a b : Int) : Bool := decide (0 ≤ a) && decide (a < b) && decide (b ≤ 1000000000000)
def withinB (a b c d : Int) : Bool := decide (c ≤ a) && decide (b ≤ d)
def insideB (a b t : Int) : Bool := decide (a ≤ t) && decide (t < b)
theorem k_Valid (a b : Int) : Pure Tryz.prog Gl 139 [.d (.agg [.int .i64 a, .int .i64 b])] (.d (.bool (okSpan a b))) := by
 refine Pure.of1 ?_
 refine acalls_of Tryz.func139 rfl rfl (by simp [Tryz.ntmps139]) (evC_sound rfl _ _ _ _ ?_)
 simp only [Tryz.ntmps139, Tryz.results139, argEnv, List.length_nil]
 simp only [zC, seval, implies_true, Nat.reduceLeDiff, Nat.reduceEqDiff, reduceCtorEq, reduceIte]
 exact ⟨_, _, ret_d, rfl, rfl⟩
theorem k_within (a b c d : Int) : Pure Tryz.prog Gl 114 [.d (.agg [.int .i64 a, .int .i64 b]), .d (.agg [.int .i64 c, .int .i64 d])] (.d (.bool (withinB a b c d))) := by
 refine Pure.of2 ?_
 refine acalls_of Tryz.func114 rfl rfl (by simp [Tryz.ntmps114]) (evC_sound rfl _ _ _ _ ?_)
 simp only [Tryz.ntmps114, Tryz.results114, argEnv, List.length_nil]
 simp only [zC, seval, implies_true, Nat.reduceLeDiff, Nat.reduceEqDiff, reduceCtorEq, reduceIte]
 exact ⟨_, _, ret_d, rfl, rfl⟩
theorem k_inside (a b t : Int) : Pure Tryz.prog Gl 121 [.d (.agg [.int .i64 a, .int .i64 b]), .d (.int .i64 t)] (.d (.bool (insideB a b t))) := by
 refine Pure.of2 ?_
 refine acalls_of Tryz.func121 rfl rfl (by simp [Tryz.ntmps121]) (evC_sound rfl _ _ _ _ ?_)
 simp only [Tryz.ntmps121, Tryz.results121, argEnv, List.length_nil]
 simp only [zC, seval, implies_true, Nat.reduceLeDiff, Nat.reduceEqDiff, reduceCtorEq, reduceIte]
 exact ⟨_, _, ret_d, rfl, rfl⟩
def thrErr (x : ThreadT) : Int := if (decide (x.id < 0) || decide (1000000000000000 < x.id) || decide (x.dom < 0) || decide (8 ≤ x.dom)) = true then 2 else nameF x.name
theorem k_Thread (x : ThreadT) : Pure Tryz.prog Gl 138 [.d x.toD] (.d (.int .i64 (thrErr x))) := by
 refine Pure.of1 ?_
 refine acalls_of Tryz.func138 rfl rfl (by simp [Tryz.ntmps138]) (evC_sound rfl _ _ _ _ ?_)
 simp only [Tryz.ntmps138, Tryz.results138, argEnv, List.length_nil]
 simp only [zC, seval, implies_true, Nat.reduceLeDiff, Nat.reduceEqDiff, reduceCtorEq, reduceIte]
 refine ifC.mk (fun h => ?_) (fun h => ?_)
 ·refine ⟨_, _, ret_d, ?_, rfl⟩
  rw [thrErr, if_pos h]
 ·refine callF_pure (k_Name _) ?_
  simp only [zC, seval, implies_true, Nat.reduceLeDiff, Nat.reduceEqDiff, reduceCtorEq, reduceIte]
  refine ⟨_, _, ret_d, ?_, rfl⟩
  rw [thrErr, if_neg (by rw [h]; simp)]
theorem k_tables1 (x : SliceT) : Pure Tryz.prog Gl 98 [.d x.toD] (.d (.int .i64 x.thread)) := by
 refine Pure.of1 ?_
 refine acalls_of Tryz.func98 rfl rfl (by simp [Tryz.ntmps98]) (evC_sound rfl _ _ _ _ ?_)
 simp only [Tryz.ntmps98, Tryz.results98, argEnv, List.length_nil]
 simp only [zC, seval, implies_true, Nat.reduceLeDiff, Nat.reduceEqDiff, reduceCtorEq, reduceIte]
 exact ⟨_, _, ret_d, rfl, rfl⟩
theorem k_tables2 (x : FlowT) : Pure Tryz.prog Gl 102 [.d x.toD] (.d (.int .i64 x.ft)) := by
 refine Pure.of1 ?_
 refine acalls_of Tryz.func102 rfl rfl (by simp [Tryz.ntmps102]) (evC_sound rfl _ _ _ _ ?_)
 simp only [Tryz.ntmps102, Tryz.results102, argEnv, List.length_nil]
 simp only [zC, seval, implies_true, Nat.reduceLeDiff, Nat.reduceEqDiff, reduceCtorEq, reduceIte]
 exact ⟨_, _, ret_d, rfl, rfl⟩
theorem k_tables3 (x : FlowT) : Pure Tryz.prog Gl 103 [.d x.toD] (.d (.int .i64 x.tt)) := by
 refine Pure.of1 ?_
 refine acalls_of Tryz.func103 rfl rfl (by simp [Tryz.ntmps103]) (evC_sound rfl _ _ _ _ ?_)
 simp only [Tryz.ntmps103, Tryz.results103, argEnv, List.length_nil]
 simp only [zC, seval, implies_true, Nat.reduceLeDiff, Nat.reduceEqDiff, reduceCtorEq, reduceIte]
 exact ⟨_, _, ret_d, rfl, rfl⟩
theorem k_tables4 (x : SampleT) : Pure Tryz.prog Gl 106 [.d x.toD] (.d (.int .i64 x.thread)) := by
 refine Pure.of1 ?_
 refine acalls_of Tryz.func106 rfl rfl (by simp [Tryz.ntmps106]) (evC_sound rfl _ _ _ _ ?_)
 simp only [Tryz.ntmps106, Tryz.results106, argEnv, List.length_nil]
 simp only [zC, seval, implies_true, Nat.reduceLeDiff, Nat.reduceEqDiff, reduceCtorEq, reduceIte]
 exact ⟨_, _, ret_d, rfl, rfl⟩
theorem k_tables5 (x : BlockT) : Pure Tryz.prog Gl 110 [.d x.toD] (.d (.int .i64 x.thread)) := by
 refine Pure.of1 ?_
 refine acalls_of Tryz.func110 rfl rfl (by simp [Tryz.ntmps110]) (evC_sound rfl _ _ _ _ ?_)
 simp only [Tryz.ntmps110, Tryz.results110, argEnv, List.length_nil]
 simp only [zC, seval, implies_true, Nat.reduceLeDiff, Nat.reduceEqDiff, reduceCtorEq, reduceIte]
 exact ⟨_, _, ret_d, rfl, rfl⟩
theorem k_outside1 (a b : Int) (x : SliceT) : ACalls Tryz.prog Gl 113 [.d x.toD, .ptr 0 0] [.box 2 (.d (.agg [.int .i64 a, .int .i64 b]))] (fun r s => r = .d (.bool (!withinB x.lo x.hi a b)) ∧ s = [.box 2 (.d (.agg [.int .i64 a, .int .i64 b]))]) := by
 refine acalls_of Tryz.func113 rfl rfl (by simp [Tryz.ntmps113]) (evC_sound rfl _ _ _ _ ?_)
 simp only [Tryz.ntmps113, Tryz.results113, argEnv, List.length_nil]
 simp only [zC, seval, implies_true, Nat.reduceLeDiff, Nat.reduceEqDiff, reduceCtorEq, reduceIte]
 refine callF_pure (k_within _ _ _ _) ?_
 simp only [zC, seval, implies_true, Nat.reduceLeDiff, Nat.reduceEqDiff, reduceCtorEq, reduceIte]
 refine ⟨_, _, weakR_to [] [0] rfl (by simp) (show renV _ _ _ = AV.d _ from rfl) rfl, ?_, rfl⟩
 rfl
theorem k_outside2 (a b : Int) (x : StateT) : ACalls Tryz.prog Gl 116 [.d x.toD, .ptr 0 0] [.box 2 (.d (.agg [.int .i64 a, .int .i64 b]))] (fun r s => r = .d (.bool (!withinB x.lo x.hi a b)) ∧ s = [.box 2 (.d (.agg [.int .i64 a, .int .i64 b]))]) := by
 refine acalls_of Tryz.func116 rfl rfl (by simp [Tryz.ntmps116]) (evC_sound rfl _ _ _ _ ?_)
 simp only [Tryz.ntmps116, Tryz.results116, argEnv, List.length_nil]
 simp only [zC, seval, implies_true, Nat.reduceLeDiff, Nat.reduceEqDiff, reduceCtorEq, reduceIte]
 refine callF_pure (k_within _ _ _ _) ?_
 simp only [zC, seval, implies_true, Nat.reduceLeDiff, Nat.reduceEqDiff, reduceCtorEq, reduceIte]
 refine ⟨_, _, weakR_to [] [0] rfl (by simp) (show renV _ _ _ = AV.d _ from rfl) rfl, ?_, rfl⟩
 rfl
theorem k_outside3 (a b : Int) (x : BlockT) : ACalls Tryz.prog Gl 118 [.d x.toD, .ptr 0 0] [.box 2 (.d (.agg [.int .i64 a, .int .i64 b]))] (fun r s => r = .d (.bool (!withinB x.lo x.hi a b)) ∧ s = [.box 2 (.d (.agg [.int .i64 a, .int .i64 b]))]) := by
 refine acalls_of Tryz.func118 rfl rfl (by simp [Tryz.ntmps118]) (evC_sound rfl _ _ _ _ ?_)
 simp only [Tryz.ntmps118, Tryz.results118, argEnv, List.length_nil]
 simp only [zC, seval, implies_true, Nat.reduceLeDiff, Nat.reduceEqDiff, reduceCtorEq, reduceIte]
 refine callF_pure (k_within _ _ _ _) ?_
 simp only [zC, seval, implies_true, Nat.reduceLeDiff, Nat.reduceEqDiff, reduceCtorEq, reduceIte]
 refine ⟨_, _, weakR_to [] [0] rfl (by simp) (show renV _ _ _ = AV.d _ from rfl) rfl, ?_, rfl⟩
 rfl
theorem k_outside5 (a b : Int) (x : SampleT) : ACalls Tryz.prog Gl 123 [.d x.toD, .ptr 0 0] [.box 2 (.d (.agg [.int .i64 a, .int .i64 b]))] (fun r s => r = .d (.bool (!insideB a b x.at_)) ∧ s = [.box 2 (.d (.agg [.int .i64 a, .int .i64 b]))]) := by
 refine acalls_of Tryz.func123 rfl rfl (by simp [Tryz.ntmps123]) (evC_sound rfl _ _ _ _ ?_)
 simp only [Tryz.ntmps123, Tryz.results123, argEnv, List.length_nil]
 simp only [zC, seval, implies_true, Nat.reduceLeDiff, Nat.reduceEqDiff, reduceCtorEq, reduceIte]
 refine callF_pure (k_inside _ _ _) ?_
 simp only [zC, seval, implies_true, Nat.reduceLeDiff, Nat.reduceEqDiff, reduceCtorEq, reduceIte]
 refine ⟨_, _, weakR_to [] [0] rfl (by simp) (show renV _ _ _ = AV.d _ from rfl) rfl, ?_, rfl⟩
 rfl
theorem k_outside6 (a b : Int) (x : StepT) : ACalls Tryz.prog Gl 125 [.d x.toD, .ptr 0 0] [.box 2 (.d (.agg [.int .i64 a, .int .i64 b]))] (fun r s => r = .d (.bool (!insideB a b x.at_)) ∧ s = [.box 2 (.d (.agg [.int .i64 a, .int .i64 b]))]) := by
 refine acalls_of Tryz.func125 rfl rfl (by simp [Tryz.ntmps125]) (evC_sound rfl _ _ _ _ ?_)
 simp only [Tryz.ntmps125, Tryz.results125, argEnv, List.length_nil]
 simp only [zC, seval, implies_true, Nat.reduceLeDiff, Nat.reduceEqDiff, reduceCtorEq, reduceIte]
 refine callF_pure (k_inside _ _ _) ?_
 simp only [zC, seval, implies_true, Nat.reduceLeDiff, Nat.reduceEqDiff, reduceCtorEq, reduceIte]
 refine ⟨_, _, weakR_to [] [0] rfl (by simp) (show renV _ _ _ = AV.d _ from rfl) rfl, ?_, rfl⟩
 rfl
theorem k_outside4 (a b : Int) (x : FlowT) : ACalls Tryz.prog Gl 120 [.d x.toD, .ptr 0 0] [.box 2 (.d (.agg [.int .i64 a, .int .i64 b]))] (fun r s => r = .d (.bool (!insideB a b x.send || !insideB a b x.recv)) ∧ s = [.box 2 (.d (.agg [.int .i64 a, .int .i64 b]))]) := by
 refine acalls_of Tryz.func120 rfl rfl (by simp [Tryz.ntmps120]) (evC_sound rfl _ _ _ _ ?_)
 simp only [Tryz.ntmps120, Tryz.results120, argEnv, List.length_nil]
 simp only [zC, seval, implies_true, Nat.reduceLeDiff, Nat.reduceEqDiff, reduceCtorEq, reduceIte]
 refine callF_pure (k_inside _ _ _) ?_
 simp only [zC, seval, implies_true, Nat.reduceLeDiff, Nat.reduceEqDiff, reduceCtorEq, reduceIte]
 repeat ((with_reducible refine And.intro ?_ ?_); (focus (first | omega | (simp only [lenR]; omega) | (refine qq ?_; rfl) | (refine dq ?_; kernel_rfl) | (intros; simp_all; done))))
 refine callG_pure (fun _ => k_inside _ _ _) ?_
 simp only [zC, seval, implies_true, Nat.reduceLeDiff, Nat.reduceEqDiff, reduceCtorEq, reduceIte]
 repeat ((with_reducible refine And.intro ?_ ?_); (focus (first | omega | (simp only [lenR]; omega) | (refine qq ?_; rfl) | (refine dq ?_; kernel_rfl) | (intros; simp_all; done))))
 refine ⟨_, _, weakR_to [] [0] rfl (by simp) (show renV _ _ _ = AV.d _ from rfl) rfl, ?_, rfl⟩
 rfl
def outsideF (t : TraceT) : Bool := t.slices.any (fun x => !withinB x.lo x.hi t.lo t.hi) || t.states.any (fun x => !withinB x.lo x.hi t.lo t.hi) || t.blocks.any (fun x => !withinB x.lo x.hi t.lo t.hi)
 || t.flows.any (fun x => !insideB t.lo t.hi x.send || !insideB t.lo t.hi x.recv) || t.samples.any (fun x => !insideB t.lo t.hi x.at_) || t.steps.any (fun x => !insideB t.lo t.hi x.at_)
structure TraceT.Few (t : TraceT) : Prop where
 threads : t.threads.length < 1000000
 slices : t.slices.length < 1000000
 states : t.states.length < 1000000
 flows : t.flows.length < 1000000
 samples : t.samples.length < 1000000
 steps : t.steps.length < 1000000
 blocks : t.blocks.length < 1000000
 lost : t.lost.length < 1000000
 sst : ∀ x ∈ t.samples, x.stack.length < 1000000
 bst : ∀ x ∈ t.blocks, x.stack.length < 1000000
theorem k_outside (t : TraceT) (ht : t.Few) : Pure Tryz.prog Gl 84 [.d t.toD] (.d (.bool (outsideF t))) := by
 refine Pure.of1 ?_
 refine acalls_of Tryz.func84 rfl rfl (by simp [Tryz.ntmps84]) (evC_sound rfl _ _ _ _ ?_)
 simp only [Tryz.ntmps84, Tryz.results84, argEnv, List.length_nil]
 simp only [zC, seval, implies_true, Nat.reduceLeDiff, Nat.reduceEqDiff, reduceCtorEq, reduceIte]
 repeat ((with_reducible refine And.intro ?_ ?_); (focus (first | omega | (simp only [lenR]; omega) | (refine qq ?_; rfl) | (refine dq ?_; kernel_rfl) | (intros; simp_all; done))))
 refine callF_blk1 1 (k_ContainsFuncSlice _ 2 _ _ (k_outside1 t.lo t.hi) t.slices ht.slices) (fun s => rfl) (by rfl) trivial ?_
 simp only [zC, seval, implies_true, Nat.reduceLeDiff, Nat.reduceEqDiff, reduceCtorEq, reduceIte]
 repeat ((with_reducible refine And.intro ?_ ?_); (focus (first | omega | (simp only [lenR]; omega) | (refine qq ?_; rfl) | (refine dq ?_; kernel_rfl) | (intros; simp_all; done))))
 refine callG_blk1 1 (k_ContainsFuncState _ 2 _ _ (k_outside2 t.lo t.hi) t.states ht.states) (fun s => rfl) (by rfl) trivial ?_
 simp only [zC, seval, implies_true, Nat.reduceLeDiff, Nat.reduceEqDiff, reduceCtorEq, reduceIte]
 repeat ((with_reducible refine And.intro ?_ ?_); (focus (first | omega | (simp only [lenR]; omega) | (refine qq ?_; rfl) | (refine dq ?_; kernel_rfl) | (intros; simp_all; done))))
 refine callG_blk1 1 (k_ContainsFuncBlock _ 2 _ _ (k_outside3 t.lo t.hi) t.blocks ht.blocks) (fun s => rfl) (by rfl) trivial ?_
 simp only [zC, seval, implies_true, Nat.reduceLeDiff, Nat.reduceEqDiff, reduceCtorEq, reduceIte]
 repeat ((with_reducible refine And.intro ?_ ?_); (focus (first | omega | (simp only [lenR]; omega) | (refine qq ?_; rfl) | (refine dq ?_; kernel_rfl) | (intros; simp_all; done))))
 refine callG_blk1 1 (k_ContainsFuncFlow _ 2 _ _ (k_outside4 t.lo t.hi) t.flows ht.flows) (fun s => rfl) (by rfl) trivial ?_
 simp only [zC, seval, implies_true, Nat.reduceLeDiff, Nat.reduceEqDiff, reduceCtorEq, reduceIte]
 repeat ((with_reducible refine And.intro ?_ ?_); (focus (first | omega | (simp only [lenR]; omega) | (refine qq ?_; rfl) | (refine dq ?_; kernel_rfl) | (intros; simp_all; done))))
 refine callG_blk1 1 (k_ContainsFuncSample _ 2 _ _ (k_outside5 t.lo t.hi) t.samples ht.samples) (fun s => rfl) (by rfl) trivial ?_
 simp only [zC, seval, implies_true, Nat.reduceLeDiff, Nat.reduceEqDiff, reduceCtorEq, reduceIte]
 repeat ((with_reducible refine And.intro ?_ ?_); (focus (first | omega | (simp only [lenR]; omega) | (refine qq ?_; rfl) | (refine dq ?_; kernel_rfl) | (intros; simp_all; done))))
 refine callG_blk1 1 (k_ContainsFuncStep _ 2 _ _ (k_outside6 t.lo t.hi) t.steps ht.steps) (fun s => rfl) (by rfl) trivial ?_
 simp only [zC, seval, implies_true, Nat.reduceLeDiff, Nat.reduceEqDiff, reduceCtorEq, reduceIte]
 exact ⟨_, _, ret_d, rfl, rfl⟩
def mapOf (l : List ThreadT) : Key → Option AV := l.foldl (fun f x => mset f (.i x.id) (.d (.str x.name))) (fun _ => none)
theorem mapOf_snoc (l : List ThreadT) (x : ThreadT) : mapOf (l ++ [x]) = mset (mapOf l) (.i x.id) (.d (.str x.name)) := by simp [mapOf]
theorem mapOf_still : ∀ (l : List ThreadT) (g : Key → Option AV), (∀ k v, g k = some v → ∃ d, v = .d d) → ∀ k v, l.foldl (fun f x => mset f (.i x.id) (.d (.str x.name))) g k = some v → ∃ d, v = .d d
 | [], g, hg, k, v, h => hg k v h
 | x :: l, g, hg, k, v, h => mapOf_still l _ (fun k v hk => by
   by_cases hq : k = .i x.id
   ·have e : mset g (.i x.id) (.d (.str x.name)) k = some (.d (.str x.name)) := by unfold mset; rw [if_pos hq]
    have hk : mset g (.i x.id) (.d (.str x.name)) k = some v := hk
    rw [e] at hk
    simp only [Option.some.injEq] at hk; exact ⟨_, hk.symm⟩
   ·have e : mset g (.i x.id) (.d (.str x.name)) k = g k := by unfold mset; rw [if_neg hq]
    have hk : mset g (.i x.id) (.d (.str x.name)) k = some v := hk
    rw [e] at hk
    exact hg k v hk) k v h
theorem mapOf_still0 (l : List ThreadT) : ∀ k v, mapOf l k = some v → ∃ d, v = .d d := mapOf_still l _ (fun k v h => by cases h)
def hasT (l : List ThreadT) (n : Int) : Bool := l.any fun x => x.id == n
theorem mapOf_has : ∀ (l : List ThreadT) (g : Key → Option AV) (n : Int), (l.foldl (fun f x => mset f (.i x.id) (.d (.str x.name))) g (.i n)).isSome = (hasT l n || (g (.i n)).isSome)
 | [], g, n => by simp [hasT]
 | x :: l, g, n => by
  rw [List.foldl_cons, mapOf_has l]
  unfold hasT mset
  rw [List.any_cons]
  by_cases h : n = x.id
  ·subst h; simp
  ·have h2 : (x.id == n) = false := by simpa using fun e => h e.symm
   have h3 : ¬ Key.i n = Key.i x.id := by simpa using h
   rw [if_neg h3, h2, Bool.false_or]
theorem mapOf_isSome (l : List ThreadT) (n : Int) : (mapOf l (.i n)).isSome = hasT l n := by
 unfold mapOf; rw [mapOf_has]; simp
def thrAt (l : List ThreadT) (k : Nat) : Int := if thrErr (l.getD k default) ≠ 0 then thrErr (l.getD k default) else if hasT (l.take k) (l.getD k default).id = true then 4 else 0
def threadsF (l : List ThreadT) : Int := if 64 < l.length then 7 else firstErr (thrAt l) l.length
theorem k_threads (t : TraceT) (ht : t.Few) : ACalls Tryz.prog Gl 95 [.d t.toD] [] (fun r s => if threadsF t.threads = 0 then r = .tup [.mapr 0, .d (.int .i64 0)] ∧ s = [.map (some .i64) (mapOf t.threads)] else r = .tup [.d (.raw (.map none)), .d (.int .i64 (threadsF t.threads))] ∧ s = []) := by
 have hlen := ht.threads
 refine acalls_of Tryz.func95 rfl rfl (by simp [Tryz.ntmps95]) (evC_sound rfl _ _ _ _ ?_)
 simp only [Tryz.ntmps95, Tryz.results95, argEnv, List.length_nil]
 simp only [zC, seval, implies_true, Nat.reduceLeDiff, Nat.reduceEqDiff, reduceCtorEq, reduceIte]
 repeat ((with_reducible refine And.intro ?_ ?_); (focus (first | omega | (simp only [lenR]; omega) | (refine qq ?_; rfl) | (refine dq ?_; kernel_rfl) | (intros; simp_all; done))))
 refine ifC.mk (fun h => ?_) (fun h => ?_)
 ·have h : 64 < t.threads.length := by simp at h; omega
  refine ⟨_, _, weakR_to [] [] rfl (by simp) (show renV _ _ _ = AV.tup [.d _, .d _] from rfl) rfl, ?_⟩
  have e : threadsF t.threads = 7 := by rw [threadsF, if_pos h]
  rw [e, if_neg (by decide)]
  exact ⟨rfl, rfl⟩
 ·have h : ¬ 64 < t.threads.length := by simp at h; omega
  repeat ((with_reducible refine And.intro ?_ ?_); (focus (first | omega | (simp only [lenR]; omega) | (refine qq ?_; rfl) | (refine dq ?_; kernel_rfl) | (intros; simp_all; done))))
  have hF : threadsF t.threads = firstErr (thrAt t.threads) t.threads.length := by rw [threadsF, if_neg h]
  refine for_of t.threads.length (fun k => [(4, .mapr 0), (16, .d (.sl (t.threads.map ThreadT.toD))), (17, .d (.int .i64 t.threads.length)), (18, .d (.int .i64 k))]) (fun k => [.map (some .i64) (mapOf (t.threads.take k))]) (fun k => firstErr (thrAt t.threads) k = 0) rfl ?_ ?_
  ·refine weak_to [] [1] rfl (by simp) ?_ ?_
   ·simp only [zC, seval, implies_true, Nat.reduceLeDiff, Nat.reduceEqDiff, reduceCtorEq, reduceIte, Int.cast_ofNat_Int]
    all_goals rfl
   ·rfl
  ·intro k hi hk
   have hst := mapOf_still0 (t.threads.take k)
   by_cases h2 : k < t.threads.length
   ·simp only [zC, seval, implies_true, Nat.reduceLeDiff, Nat.reduceEqDiff, reduceCtorEq, reduceIte, (show (k:Int) < t.threads.length by omega), h2, a_getD _ _ _ (show k < t.threads.length by omega)]
    repeat ((with_reducible refine And.intro ?_ ?_); (focus (first | omega | (simp only [lenR]; omega) | (refine qq ?_; rfl) | (refine dq ?_; kernel_rfl) | (intros; simp_all; done))))
    refine callF_pure (k_Thread _) ?_
    simp only [zC, seval, implies_true, Nat.reduceLeDiff, Nat.reduceEqDiff, reduceCtorEq, reduceIte]
    refine ifC.mk (fun hc => ?_) (fun hc => ?_)
    ·have hc : thrErr (t.threads.getD k default) ≠ 0 := by simpa using hc
     have hat : thrAt t.threads k = thrErr (t.threads.getD k default) := by rw [thrAt, if_pos hc]
     have hall := firstErr_at hi (by rw [hat]; exact hc) h2
     rw [← hF, hat] at hall
     refine ⟨_, _, weakR_to [] [] rfl (by simp) (show renV _ _ _ = AV.tup [.d _, .d _] from rfl) rfl, ?_⟩
     rw [if_neg (by rw [hall]; exact hc), hall]
     exact ⟨rfl, rfl⟩
    ·have hc : ¬ thrErr (t.threads.getD k default) ≠ 0 := by simpa using hc
     obtain ⟨d, hd⟩ := mapGet hst (.i (t.threads.getD k default).id) (.str [])
     simp only [zC, seval, implies_true, Nat.reduceLeDiff, Nat.reduceEqDiff, reduceCtorEq, reduceIte, mapOf_isSome, hd]
     repeat ((with_reducible refine And.intro ?_ ?_); (focus (first | omega | (simp only [lenR]; omega) | (refine qq ?_; rfl) | (refine dq ?_; kernel_rfl) | (intros; simp_all; done))))
     refine ifC.mk (fun hz => ?_) (fun hz => ?_)
     ·have hat : thrAt t.threads k = 4 := by rw [thrAt, if_neg hc, if_pos hz]
      have hall := firstErr_at hi (by rw [hat]; decide) h2
      rw [← hF, hat] at hall
      refine ⟨_, _, weakR_to [] [] rfl (by simp) (show renV _ _ _ = AV.tup [.d _, .d _] from rfl) rfl, ?_⟩
      rw [if_neg (by rw [hall]; decide), hall]
      exact ⟨rfl, rfl⟩
     ·have hat : thrAt t.threads k = 0 := by rw [thrAt, if_neg hc, if_neg (by rw [hz]; simp)]
      have hs := mapOf_snoc (t.threads.take k) (t.threads.getD k default)
      rw [← take_step _ _ h2] at hs
      repeat ((with_reducible refine And.intro ?_ ?_); (focus (first | omega | (simp only [lenR]; omega) | (refine qq ?_; rfl) | (refine dq ?_; kernel_rfl) | (intros; simp_all; done))))
      refine ⟨firstErr_step hi hat, ?_⟩
      refine weak_to [] [0] rfl (by simp) ?_ ?_
      ·simp only [zC, seval, implies_true, Nat.reduceLeDiff, Nat.reduceEqDiff, reduceCtorEq, reduceIte, @a_wrap ((k:Int) + 1) (by omega)]
       all_goals rfl
      ·rw [hs]
       exact renS0_map (fun k v hk => by rw [← hs] at hk; exact mapOf_still0 _ k v hk) _
   ·simp only [zC, seval, implies_true, Nat.reduceLeDiff, Nat.reduceEqDiff, reduceCtorEq, reduceIte, (show ¬ (k:Int) < t.threads.length by omega)]
    have : k = t.threads.length := by omega
    subst this
    rw [List.take_length] at hst ⊢
    refine ⟨_, _, weakR_to [] [0] rfl (by simp) (show renV _ _ _ = AV.tup [.mapr 0, .d _] from rfl) (renS0_map hst _), ?_⟩
    rw [hF, hi, if_pos rfl]
    exact ⟨rfl, rfl⟩
def lossAt (has : Int → Bool) (x : LossT) : Int := if has x.thread = false then 5 else if (!okSpan x.lo x.hi || decide (x.count < 1) || decide (1000000000000000 < x.count)) = true then 2 else 0
def lossF (has : Int → Bool) (l : List LossT) : Int := firstErr (fun k => lossAt has (l.getD k default)) l.length
theorem k_losses (f : Key → Option AV) (has : Int → Bool) (hst : ∀ k v, f k = some v → ∃ d, v = .d d) (hf : ∀ n, (f (.i n)).isSome = has n) (l : List LossT) (hl : l.length < 1000000) :
  ACalls Tryz.prog Gl 111 [.mapr 0, .d (.sl (l.map LossT.toD))] [.map (some .i64) f] (fun r s => r = .d (.int .i64 (lossF has l)) ∧ s = [.map (some .i64) f]) := by
 refine acalls_of Tryz.func111 rfl rfl (by simp [Tryz.ntmps111]) (evC_sound rfl _ _ _ _ ?_)
 simp only [Tryz.ntmps111, Tryz.results111, argEnv, List.length_nil]
 simp only [zC, seval, implies_true, Nat.reduceLeDiff, Nat.reduceEqDiff, reduceCtorEq, reduceIte]
 refine for_of l.length (fun k => [(0, .mapr 0), (9, .d (.sl (l.map LossT.toD))), (10, .d (.int .i64 l.length)), (11, .d (.int .i64 k))]) (fun _ => [.map (some .i64) f]) (fun k => firstErr (fun k => lossAt has (l.getD k default)) k = 0) rfl ?_ ?_
 ·refine weak_to [] [0] rfl (by simp) ?_ (renS0_map hst _)
  simp only [zC, seval, implies_true, Nat.reduceLeDiff, Nat.reduceEqDiff, reduceCtorEq, reduceIte, Int.cast_ofNat_Int]
  all_goals rfl
 ·intro k hi hk
  by_cases h : k < l.length
  ·obtain ⟨d, hd⟩ := mapGet hst (.i (l.getD k default).thread) (.str [])
   simp only [zC, seval, implies_true, Nat.reduceLeDiff, Nat.reduceEqDiff, reduceCtorEq, reduceIte, (show (k:Int) < l.length by omega), h, a_getD _ _ _ (show k < l.length by omega)]
   repeat ((with_reducible refine And.intro ?_ ?_); (focus (first | omega | (simp only [lenR]; omega) | (refine qq ?_; rfl) | (refine dq ?_; kernel_rfl) | (intros; simp_all; done))))
   simp only [zC, seval, implies_true, Nat.reduceLeDiff, Nat.reduceEqDiff, reduceCtorEq, reduceIte, hf, hd]
   repeat ((with_reducible refine And.intro ?_ ?_); (focus (first | omega | (simp only [lenR]; omega) | (refine qq ?_; rfl) | (refine dq ?_; kernel_rfl) | (intros; simp_all; done))))
   refine ifC.mk (fun hc => ?_) (fun hc => ?_)
   ·refine ⟨_, _, weakR_to [] [0] rfl (by simp) (show renV _ _ _ = AV.d _ from rfl) (renS0_map hst _), ?_, rfl⟩
    have hat : lossAt has (l.getD k default) = 5 := by rw [lossAt, if_pos (by simpa using hc)]
    have := firstErr_at (f := fun k => lossAt has (l.getD k default)) hi (by simp only [hat]; decide) h
    rw [lossF, this]; simp only [hat]
   ·have hc : ¬ has (l.getD k default).thread = false := by simpa using hc
    refine callF_pure (k_Valid _ _) ?_
    simp only [zC, seval, implies_true, Nat.reduceLeDiff, Nat.reduceEqDiff, reduceCtorEq, reduceIte]
    repeat ((with_reducible refine And.intro ?_ ?_); (focus (first | omega | (simp only [lenR]; omega) | (refine qq ?_; rfl) | (refine dq ?_; kernel_rfl) | (intros; simp_all; done))))
    refine ifC.mk (fun hz => ?_) (fun hz => ?_)
    ·refine ⟨_, _, weakR_to [] [0] rfl (by simp) (show renV _ _ _ = AV.d _ from rfl) (renS0_map hst _), ?_, rfl⟩
     have hat : lossAt has (l.getD k default) = 2 := by rw [lossAt, if_neg hc, if_pos hz]
     have := firstErr_at (f := fun k => lossAt has (l.getD k default)) hi (by simp only [hat]; decide) h
     rw [lossF, this]; simp only [hat]
    ·have hat : lossAt has (l.getD k default) = 0 := by rw [lossAt, if_neg hc, if_neg (by rw [hz]; simp)]
     refine ⟨firstErr_step hi hat, ?_⟩
     refine weak_to [] [0] rfl (by simp) ?_ (renS0_map hst _)
     simp only [zC, seval, implies_true, Nat.reduceLeDiff, Nat.reduceEqDiff, reduceCtorEq, reduceIte, @a_wrap ((k:Int) + 1) (by omega)]
     all_goals rfl
  ·simp only [zC, seval, implies_true, Nat.reduceLeDiff, Nat.reduceEqDiff, reduceCtorEq, reduceIte, (show ¬ (k:Int) < l.length by omega)]
   have : k = l.length := by omega
   subst this
   refine ⟨_, _, weakR_to [] [0] rfl (by simp) (show renV _ _ _ = AV.d _ from rfl) (renS0_map hst _), ?_, rfl⟩
   rw [lossF, hi]
end YtadfcljoocjhdaaGreat
end Go.Proofs
