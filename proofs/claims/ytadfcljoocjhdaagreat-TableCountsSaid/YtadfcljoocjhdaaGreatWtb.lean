/- A part of the proof: contracts of functions of this seat, and lemmas. No condition beyond those stated. -/
import Derived.Test.YtadfcljoocjhdaaGreatWta
import Derived.Test.YtadfcljoocjhdaaGreatG4
set_option linter.unusedVariables false
set_option linter.unusedSimpArgs false
set_option linter.unusedSectionVars false
set_option linter.unnecessarySimpa false
set_option maxRecDepth 100000
namespace Go.Proofs
open Go.AM
namespace YtadfcljoocjhdaaGreat
variable {Gl : Globs}
structure ThreadT where
 id : Int
 name : List UInt8
 dom : Int
deriving Inhabited, DecidableEq
def ThreadT.toD (x : ThreadT) : D := .agg [.int .i64 x.id, .str x.name, .int .i64 x.dom]
theorem h_isAgg (x : ThreadT) : x.toD.isAgg = true := rfl
theorem h_cells (x : ThreadT) : x.toD.cells = [.int .i64 x.id, .str x.name, .int .i64 x.dom] := rfl
structure SliceT where
 thread : Int
 parent : Int
 depth : Int
 name : List UInt8
 lo : Int
 hi : Int
 self : Int
 open_ : Bool
deriving Inhabited, DecidableEq
def SliceT.toD (x : SliceT) : D := .agg [.int .i64 x.thread, .int .i64 x.parent, .int .i64 x.depth, .str x.name, .int .i64 x.lo, .int .i64 x.hi, .int .i64 x.self, .bool x.open_]
theorem l_isAgg (x : SliceT) : x.toD.isAgg = true := rfl
theorem l_cells (x : SliceT) : x.toD.cells = [.int .i64 x.thread, .int .i64 x.parent, .int .i64 x.depth, .str x.name, .int .i64 x.lo, .int .i64 x.hi, .int .i64 x.self, .bool x.open_] := rfl
structure StateT where
 thread : Int
 state : Int
 lo : Int
 hi : Int
 cpu : Int
 on_ : Int
 by_ : Int
deriving Inhabited, DecidableEq
def StateT.toD (x : StateT) : D := .agg [.int .i64 x.thread, .int .i64 x.state, .int .i64 x.lo, .int .i64 x.hi, .int .i64 x.cpu, .int .i64 x.on_, .int .i64 x.by_]
theorem u_isAgg (x : StateT) : x.toD.isAgg = true := rfl
theorem u_cells (x : StateT) : x.toD.cells = [.int .i64 x.thread, .int .i64 x.state, .int .i64 x.lo, .int .i64 x.hi, .int .i64 x.cpu, .int .i64 x.on_, .int .i64 x.by_] := rfl
structure FlowT where
 id : Int
 ft : Int
 fs : Int
 tt : Int
 ts : Int
 send : Int
 recv : Int
deriving Inhabited, DecidableEq
def FlowT.toD (x : FlowT) : D := .agg [.int .i64 x.id, .int .i64 x.ft, .int .i64 x.fs, .int .i64 x.tt, .int .i64 x.ts, .int .i64 x.send, .int .i64 x.recv]
theorem f_isAgg (x : FlowT) : x.toD.isAgg = true := rfl
theorem f_cells (x : FlowT) : x.toD.cells = [.int .i64 x.id, .int .i64 x.ft, .int .i64 x.fs, .int .i64 x.tt, .int .i64 x.ts, .int .i64 x.send, .int .i64 x.recv] := rfl
structure SampleT where
 thread : Int
 at_ : Int
 weight : Int
 stack : List (List UInt8)
deriving Inhabited, DecidableEq
def SampleT.toD (x : SampleT) : D := .agg [.int .i64 x.thread, .int .i64 x.at_, .int .i64 x.weight, .sl (x.stack.map .str)]
theorem m_isAgg (x : SampleT) : x.toD.isAgg = true := rfl
theorem m_cells (x : SampleT) : x.toD.cells = [.int .i64 x.thread, .int .i64 x.at_, .int .i64 x.weight, .sl (x.stack.map .str)] := rfl
structure StepT where
 name : List UInt8
 at_ : Int
 value : Int
deriving Inhabited, DecidableEq
def StepT.toD (x : StepT) : D := .agg [.str x.name, .int .i64 x.at_, .int .i64 x.value]
theorem p_isAgg (x : StepT) : x.toD.isAgg = true := rfl
theorem p_cells (x : StepT) : x.toD.cells = [.str x.name, .int .i64 x.at_, .int .i64 x.value] := rfl
structure BlockT where
 id : Int
 thread : Int
 size : Int
 lo : Int
 hi : Int
 stack : List (List UInt8)
 live : Bool
deriving Inhabited, DecidableEq
def BlockT.toD (x : BlockT) : D := .agg [.int .i64 x.id, .int .i64 x.thread, .int .i64 x.size, .int .i64 x.lo, .int .i64 x.hi, .sl (x.stack.map .str), .bool x.live]
theorem b_isAgg (x : BlockT) : x.toD.isAgg = true := rfl
theorem b_cells (x : BlockT) : x.toD.cells = [.int .i64 x.id, .int .i64 x.thread, .int .i64 x.size, .int .i64 x.lo, .int .i64 x.hi, .sl (x.stack.map .str), .bool x.live] := rfl
structure LossT where
 thread : Int
 lo : Int
 hi : Int
 count : Int
deriving Inhabited, DecidableEq
def LossT.toD (x : LossT) : D := .agg [.int .i64 x.thread, .int .i64 x.lo, .int .i64 x.hi, .int .i64 x.count]
theorem o_isAgg (x : LossT) : x.toD.isAgg = true := rfl
theorem o_cells (x : LossT) : x.toD.cells = [.int .i64 x.thread, .int .i64 x.lo, .int .i64 x.hi, .int .i64 x.count] := rfl
structure HopT where
 thread : Int
 state : Int
 lo : Int
 hi : Int
deriving Inhabited, DecidableEq
def HopT.toD (x : HopT) : D := .agg [.int .i64 x.thread, .int .i64 x.state, .int .i64 x.lo, .int .i64 x.hi]
theorem q_isAgg (x : HopT) : x.toD.isAgg = true := rfl
theorem q_cells (x : HopT) : x.toD.cells = [.int .i64 x.thread, .int .i64 x.state, .int .i64 x.lo, .int .i64 x.hi] := rfl
structure TraceT where
 lo : Int
 hi : Int
 threads : List ThreadT
 slices : List SliceT
 states : List StateT
 flows : List FlowT
 samples : List SampleT
 steps : List StepT
 blocks : List BlockT
 lost : List LossT
deriving Inhabited
def TraceT.toD (x : TraceT) : D := .agg [.int .i64 x.lo, .int .i64 x.hi, .sl (x.threads.map ThreadT.toD), .sl (x.slices.map SliceT.toD), .sl (x.states.map StateT.toD), .sl (x.flows.map FlowT.toD), .sl (x.samples.map SampleT.toD), .sl (x.steps.map StepT.toD), .sl (x.blocks.map BlockT.toD), .sl (x.lost.map LossT.toD)]
theorem r_isAgg (x : TraceT) : x.toD.isAgg = true := rfl
theorem r_cells (x : TraceT) : x.toD.cells = [.int .i64 x.lo, .int .i64 x.hi, .sl (x.threads.map ThreadT.toD), .sl (x.slices.map SliceT.toD), .sl (x.states.map StateT.toD), .sl (x.flows.map FlowT.toD), .sl (x.samples.map SampleT.toD), .sl (x.steps.map StepT.toD), .sl (x.blocks.map BlockT.toD), .sl (x.lost.map LossT.toD)] := rfl
theorem zB : type_of% (And.intro @zA (And.intro @h_isAgg (And.intro @h_cells (And.intro @l_isAgg (And.intro @l_cells (And.intro @u_isAgg (And.intro @u_cells (And.intro @f_isAgg (And.intro @f_cells (And.intro @m_isAgg (And.intro @m_cells (And.intro @p_isAgg (And.intro @p_cells (And.intro @b_isAgg (And.intro @b_cells (And.intro @o_isAgg (And.intro @o_cells (And.intro @q_isAgg (And.intro @q_cells (And.intro @r_isAgg (And.intro @r_cells @yRules))))))))))))))))))))) := (And.intro @zA (And.intro @h_isAgg (And.intro @h_cells (And.intro @l_isAgg (And.intro @l_cells (And.intro @u_isAgg (And.intro @u_cells (And.intro @f_isAgg (And.intro @f_cells (And.intro @m_isAgg (And.intro @m_cells (And.intro @p_isAgg (And.intro @p_cells (And.intro @b_isAgg (And.intro @b_cells (And.intro @o_isAgg (And.intro @o_cells (And.intro @q_isAgg (And.intro @q_cells (And.intro @r_isAgg (And.intro @r_cells @yRules)))))))))))))))))))))
def idxF {α : Type} (p : α → Bool) : List α → Int
 | [] => -1
 | b :: r => if p b = true then 0 else if idxF p r = -1 then -1 else idxF p r + 1
theorem idxF_none {α : Type} {p : α → Bool} : ∀ {l : List α}, l.any p = false → idxF p l = -1
 | [], _ => rfl
 | b :: r, h => by
  rw [List.any_cons, Bool.or_eq_false_iff] at h
  rw [idxF, if_neg (by rw [h.1]; simp), if_pos (idxF_none h.2)]
theorem idxF_ge {α : Type} (p : α → Bool) : ∀ l : List α, -1 ≤ idxF p l
 | [] => Int.le_refl _
 | b :: r => by
  have := idxF_ge p r
  unfold idxF
  split
  ·omega
  ·split <;> omega
theorem idxF_at {α : Type} [Inhabited α] {p : α → Bool} : ∀ {l : List α} {k : Nat}, k < l.length → (l.take k).any p = false → p (l.getD k default) = true → idxF p l = k
 | [], k, h, _, _ => by simp at h
 | b :: r, 0, _, _, h => by rw [idxF, if_pos (by simpa using h)]; rfl
 | b :: r, k + 1, h1, h2, h3 => by
  rw [List.take_succ_cons, List.any_cons, Bool.or_eq_false_iff] at h2
  have ih := idxF_at (p := p) (l := r) (k := k) (by simpa using h1) h2.2 (by simpa using h3)
  rw [idxF, if_neg (by rw [h2.1]; simp), if_neg (by rw [ih]; omega), ih]; omega
theorem idxF_any {α : Type} (p : α → Bool) : ∀ l : List α, decide (0 ≤ idxF p l) = l.any p
 | [] => rfl
 | b :: r => by
  have ih := idxF_any p r
  have hg := idxF_ge p r
  rw [idxF, List.any_cons, ← ih]
  by_cases h : p b = true
  ·simp [h]
  ·rw [if_neg h]
   have h : p b = false := by simpa using h
   rw [h, Bool.false_or]
   by_cases h2 : idxF p r = -1
   ·rw [if_pos h2, h2]
   ·rw [if_neg h2, decide_eq_decide]; omega
def knownF {α : Type} (e : Int) (has : Int → Bool) (g : α → Int) (l : List α) : Int := if e ≠ 0 then e else if l.all (fun x => has (g x)) = true then 0 else 5
theorem k_IndexFuncSlice (fv : FuncId) (n : Nat) (y : D) (p : SliceT → Bool) (hp : ∀ x : SliceT, ACalls Tryz.prog Gl fv [.d x.toD, .ptr 0 0] [.box n (.d y)] (fun r s => r = .d (.bool (p x)) ∧ s = [.box n (.d y)])) (l : List SliceT) (hl : l.length < 1000000) :
  ACalls Tryz.prog Gl 151 [.d (.sl (l.map SliceT.toD)), .fn fv [.ptr 0 0]] [.box n (.d y)] (fun r s => r = .d (.int .i64 (idxF p l)) ∧ s = [.box n (.d y)]) := by
 refine acalls_of Tryz.func151 rfl rfl (by simp [Tryz.ntmps151]) (evC_sound rfl _ _ _ _ ?_)
 simp only [Tryz.ntmps151, Tryz.results151, argEnv, List.length_nil]
 simp only [zB, seval, implies_true, Nat.reduceLeDiff, Nat.reduceEqDiff, reduceCtorEq, reduceIte]
 refine for_of l.length (fun k => [(0, .d (.sl (l.map SliceT.toD))), (1, .fn fv [.ptr 0 0]), (7, .d (.int .i64 l.length)), (8, .d (.int .i64 k))]) (fun _ => [.box n (.d y)]) (fun k => (l.take k).any p = false) rfl ?_ ?_
 ·refine weak_to [] [0] rfl (by simp) ?_ rfl
  simp only [zB, seval, implies_true, Nat.reduceLeDiff, Nat.reduceEqDiff, reduceCtorEq, reduceIte, Int.cast_ofNat_Int]
  rfl
 ·intro k hi hk
  by_cases h : k < l.length
  ·have hs := any_take p l k h
   simp only [zB, seval, implies_true, Nat.reduceLeDiff, Nat.reduceEqDiff, reduceCtorEq, reduceIte, (show (k:Int) < l.length by omega), h, a_getD _ _ _ (show k < l.length by omega)]
   refine callF_go ((hp _).mono fun r s hr => ?_)
   obtain ⟨rfl, rfl⟩ := hr
   simp only [zB, seval, implies_true, Nat.reduceLeDiff, Nat.reduceEqDiff, reduceCtorEq, reduceIte]
   refine ifC.mk (fun hc => ?_) (fun hc => ?_)
   ·refine ⟨_, _, weakR_to [] [0] rfl (by simp) (show renV _ _ _ = AV.d _ from rfl) rfl, ?_, rfl⟩
    rw [idxF_at h hi hc]
   ·refine ⟨by rw [hs, hi, hc]; rfl, ?_⟩
    refine weak_to [] [0] rfl (by simp) ?_ rfl
    simp only [zB, seval, implies_true, Nat.reduceLeDiff, Nat.reduceEqDiff, reduceCtorEq, reduceIte, @a_wrap ((k:Int) + 1) (by omega)]
    rfl
  ·simp only [zB, seval, implies_true, Nat.reduceLeDiff, Nat.reduceEqDiff, reduceCtorEq, reduceIte, (show ¬ (k:Int) < l.length by omega)]
   have : k = l.length := by omega
   subst this
   rw [List.take_length] at hi
   refine ⟨_, _, weakR_to [] [0] rfl (by simp) (show renV _ _ _ = AV.d _ from rfl) rfl, ?_, rfl⟩
   rw [idxF_none hi]
theorem k_ContainsFuncSlice (fv : FuncId) (n : Nat) (y : D) (p : SliceT → Bool) (hp : ∀ x : SliceT, ACalls Tryz.prog Gl fv [.d x.toD, .ptr 0 0] [.box n (.d y)] (fun r s => r = .d (.bool (p x)) ∧ s = [.box n (.d y)])) (l : List SliceT) (hl : l.length < 1000000) :
  ACalls Tryz.prog Gl 112 [.d (.sl (l.map SliceT.toD)), .fn fv [.ptr 0 0]] [.box n (.d y)] (fun r s => r = .d (.bool (l.any p)) ∧ s = [.box n (.d y)]) := by
 refine acalls_of Tryz.func112 rfl rfl (by simp [Tryz.ntmps112]) (evC_sound rfl _ _ _ _ ?_)
 simp only [Tryz.ntmps112, Tryz.results112, argEnv, List.length_nil]
 simp only [zB, seval, implies_true, Nat.reduceLeDiff, Nat.reduceEqDiff, reduceCtorEq, reduceIte]
 refine callF_go ((k_IndexFuncSlice fv n y p hp l hl).mono fun r s hr => ?_)
 obtain ⟨rfl, rfl⟩ := hr
 simp only [zB, seval, implies_true, Nat.reduceLeDiff, Nat.reduceEqDiff, reduceCtorEq, reduceIte]
 refine ⟨_, _, weakR_to [] [0] rfl (by simp) (show renV _ _ _ = AV.d _ from rfl) rfl, ?_, rfl⟩
 rw [idxF_any]
theorem k_IndexFuncState (fv : FuncId) (n : Nat) (y : D) (p : StateT → Bool) (hp : ∀ x : StateT, ACalls Tryz.prog Gl fv [.d x.toD, .ptr 0 0] [.box n (.d y)] (fun r s => r = .d (.bool (p x)) ∧ s = [.box n (.d y)])) (l : List StateT) (hl : l.length < 1000000) :
  ACalls Tryz.prog Gl 152 [.d (.sl (l.map StateT.toD)), .fn fv [.ptr 0 0]] [.box n (.d y)] (fun r s => r = .d (.int .i64 (idxF p l)) ∧ s = [.box n (.d y)]) := by
 refine acalls_of Tryz.func152 rfl rfl (by simp [Tryz.ntmps152]) (evC_sound rfl _ _ _ _ ?_)
 simp only [Tryz.ntmps152, Tryz.results152, argEnv, List.length_nil]
 simp only [zB, seval, implies_true, Nat.reduceLeDiff, Nat.reduceEqDiff, reduceCtorEq, reduceIte]
 refine for_of l.length (fun k => [(0, .d (.sl (l.map StateT.toD))), (1, .fn fv [.ptr 0 0]), (7, .d (.int .i64 l.length)), (8, .d (.int .i64 k))]) (fun _ => [.box n (.d y)]) (fun k => (l.take k).any p = false) rfl ?_ ?_
 ·refine weak_to [] [0] rfl (by simp) ?_ rfl
  simp only [zB, seval, implies_true, Nat.reduceLeDiff, Nat.reduceEqDiff, reduceCtorEq, reduceIte, Int.cast_ofNat_Int]
  rfl
 ·intro k hi hk
  by_cases h : k < l.length
  ·have hs := any_take p l k h
   simp only [zB, seval, implies_true, Nat.reduceLeDiff, Nat.reduceEqDiff, reduceCtorEq, reduceIte, (show (k:Int) < l.length by omega), h, a_getD _ _ _ (show k < l.length by omega)]
   refine callF_go ((hp _).mono fun r s hr => ?_)
   obtain ⟨rfl, rfl⟩ := hr
   simp only [zB, seval, implies_true, Nat.reduceLeDiff, Nat.reduceEqDiff, reduceCtorEq, reduceIte]
   refine ifC.mk (fun hc => ?_) (fun hc => ?_)
   ·refine ⟨_, _, weakR_to [] [0] rfl (by simp) (show renV _ _ _ = AV.d _ from rfl) rfl, ?_, rfl⟩
    rw [idxF_at h hi hc]
   ·refine ⟨by rw [hs, hi, hc]; rfl, ?_⟩
    refine weak_to [] [0] rfl (by simp) ?_ rfl
    simp only [zB, seval, implies_true, Nat.reduceLeDiff, Nat.reduceEqDiff, reduceCtorEq, reduceIte, @a_wrap ((k:Int) + 1) (by omega)]
    rfl
  ·simp only [zB, seval, implies_true, Nat.reduceLeDiff, Nat.reduceEqDiff, reduceCtorEq, reduceIte, (show ¬ (k:Int) < l.length by omega)]
   have : k = l.length := by omega
   subst this
   rw [List.take_length] at hi
   refine ⟨_, _, weakR_to [] [0] rfl (by simp) (show renV _ _ _ = AV.d _ from rfl) rfl, ?_, rfl⟩
   rw [idxF_none hi]
theorem k_ContainsFuncState (fv : FuncId) (n : Nat) (y : D) (p : StateT → Bool) (hp : ∀ x : StateT, ACalls Tryz.prog Gl fv [.d x.toD, .ptr 0 0] [.box n (.d y)] (fun r s => r = .d (.bool (p x)) ∧ s = [.box n (.d y)])) (l : List StateT) (hl : l.length < 1000000) :
  ACalls Tryz.prog Gl 115 [.d (.sl (l.map StateT.toD)), .fn fv [.ptr 0 0]] [.box n (.d y)] (fun r s => r = .d (.bool (l.any p)) ∧ s = [.box n (.d y)]) := by
 refine acalls_of Tryz.func115 rfl rfl (by simp [Tryz.ntmps115]) (evC_sound rfl _ _ _ _ ?_)
 simp only [Tryz.ntmps115, Tryz.results115, argEnv, List.length_nil]
 simp only [zB, seval, implies_true, Nat.reduceLeDiff, Nat.reduceEqDiff, reduceCtorEq, reduceIte]
 refine callF_go ((k_IndexFuncState fv n y p hp l hl).mono fun r s hr => ?_)
 obtain ⟨rfl, rfl⟩ := hr
 simp only [zB, seval, implies_true, Nat.reduceLeDiff, Nat.reduceEqDiff, reduceCtorEq, reduceIte]
 refine ⟨_, _, weakR_to [] [0] rfl (by simp) (show renV _ _ _ = AV.d _ from rfl) rfl, ?_, rfl⟩
 rw [idxF_any]
theorem k_IndexFuncBlock (fv : FuncId) (n : Nat) (y : D) (p : BlockT → Bool) (hp : ∀ x : BlockT, ACalls Tryz.prog Gl fv [.d x.toD, .ptr 0 0] [.box n (.d y)] (fun r s => r = .d (.bool (p x)) ∧ s = [.box n (.d y)])) (l : List BlockT) (hl : l.length < 1000000) :
  ACalls Tryz.prog Gl 153 [.d (.sl (l.map BlockT.toD)), .fn fv [.ptr 0 0]] [.box n (.d y)] (fun r s => r = .d (.int .i64 (idxF p l)) ∧ s = [.box n (.d y)]) := by
 refine acalls_of Tryz.func153 rfl rfl (by simp [Tryz.ntmps153]) (evC_sound rfl _ _ _ _ ?_)
 simp only [Tryz.ntmps153, Tryz.results153, argEnv, List.length_nil]
 simp only [zB, seval, implies_true, Nat.reduceLeDiff, Nat.reduceEqDiff, reduceCtorEq, reduceIte]
 refine for_of l.length (fun k => [(0, .d (.sl (l.map BlockT.toD))), (1, .fn fv [.ptr 0 0]), (7, .d (.int .i64 l.length)), (8, .d (.int .i64 k))]) (fun _ => [.box n (.d y)]) (fun k => (l.take k).any p = false) rfl ?_ ?_
 ·refine weak_to [] [0] rfl (by simp) ?_ rfl
  simp only [zB, seval, implies_true, Nat.reduceLeDiff, Nat.reduceEqDiff, reduceCtorEq, reduceIte, Int.cast_ofNat_Int]
  rfl
 ·intro k hi hk
  by_cases h : k < l.length
  ·have hs := any_take p l k h
   simp only [zB, seval, implies_true, Nat.reduceLeDiff, Nat.reduceEqDiff, reduceCtorEq, reduceIte, (show (k:Int) < l.length by omega), h, a_getD _ _ _ (show k < l.length by omega)]
   refine callF_go ((hp _).mono fun r s hr => ?_)
   obtain ⟨rfl, rfl⟩ := hr
   simp only [zB, seval, implies_true, Nat.reduceLeDiff, Nat.reduceEqDiff, reduceCtorEq, reduceIte]
   refine ifC.mk (fun hc => ?_) (fun hc => ?_)
   ·refine ⟨_, _, weakR_to [] [0] rfl (by simp) (show renV _ _ _ = AV.d _ from rfl) rfl, ?_, rfl⟩
    rw [idxF_at h hi hc]
   ·refine ⟨by rw [hs, hi, hc]; rfl, ?_⟩
    refine weak_to [] [0] rfl (by simp) ?_ rfl
    simp only [zB, seval, implies_true, Nat.reduceLeDiff, Nat.reduceEqDiff, reduceCtorEq, reduceIte, @a_wrap ((k:Int) + 1) (by omega)]
    rfl
  ·simp only [zB, seval, implies_true, Nat.reduceLeDiff, Nat.reduceEqDiff, reduceCtorEq, reduceIte, (show ¬ (k:Int) < l.length by omega)]
   have : k = l.length := by omega
   subst this
   rw [List.take_length] at hi
   refine ⟨_, _, weakR_to [] [0] rfl (by simp) (show renV _ _ _ = AV.d _ from rfl) rfl, ?_, rfl⟩
   rw [idxF_none hi]
theorem k_ContainsFuncBlock (fv : FuncId) (n : Nat) (y : D) (p : BlockT → Bool) (hp : ∀ x : BlockT, ACalls Tryz.prog Gl fv [.d x.toD, .ptr 0 0] [.box n (.d y)] (fun r s => r = .d (.bool (p x)) ∧ s = [.box n (.d y)])) (l : List BlockT) (hl : l.length < 1000000) :
  ACalls Tryz.prog Gl 117 [.d (.sl (l.map BlockT.toD)), .fn fv [.ptr 0 0]] [.box n (.d y)] (fun r s => r = .d (.bool (l.any p)) ∧ s = [.box n (.d y)]) := by
 refine acalls_of Tryz.func117 rfl rfl (by simp [Tryz.ntmps117]) (evC_sound rfl _ _ _ _ ?_)
 simp only [Tryz.ntmps117, Tryz.results117, argEnv, List.length_nil]
 simp only [zB, seval, implies_true, Nat.reduceLeDiff, Nat.reduceEqDiff, reduceCtorEq, reduceIte]
 refine callF_go ((k_IndexFuncBlock fv n y p hp l hl).mono fun r s hr => ?_)
 obtain ⟨rfl, rfl⟩ := hr
 simp only [zB, seval, implies_true, Nat.reduceLeDiff, Nat.reduceEqDiff, reduceCtorEq, reduceIte]
 refine ⟨_, _, weakR_to [] [0] rfl (by simp) (show renV _ _ _ = AV.d _ from rfl) rfl, ?_, rfl⟩
 rw [idxF_any]
theorem k_IndexFuncFlow (fv : FuncId) (n : Nat) (y : D) (p : FlowT → Bool) (hp : ∀ x : FlowT, ACalls Tryz.prog Gl fv [.d x.toD, .ptr 0 0] [.box n (.d y)] (fun r s => r = .d (.bool (p x)) ∧ s = [.box n (.d y)])) (l : List FlowT) (hl : l.length < 1000000) :
  ACalls Tryz.prog Gl 154 [.d (.sl (l.map FlowT.toD)), .fn fv [.ptr 0 0]] [.box n (.d y)] (fun r s => r = .d (.int .i64 (idxF p l)) ∧ s = [.box n (.d y)]) := by
 refine acalls_of Tryz.func154 rfl rfl (by simp [Tryz.ntmps154]) (evC_sound rfl _ _ _ _ ?_)
 simp only [Tryz.ntmps154, Tryz.results154, argEnv, List.length_nil]
 simp only [zB, seval, implies_true, Nat.reduceLeDiff, Nat.reduceEqDiff, reduceCtorEq, reduceIte]
 refine for_of l.length (fun k => [(0, .d (.sl (l.map FlowT.toD))), (1, .fn fv [.ptr 0 0]), (7, .d (.int .i64 l.length)), (8, .d (.int .i64 k))]) (fun _ => [.box n (.d y)]) (fun k => (l.take k).any p = false) rfl ?_ ?_
 ·refine weak_to [] [0] rfl (by simp) ?_ rfl
  simp only [zB, seval, implies_true, Nat.reduceLeDiff, Nat.reduceEqDiff, reduceCtorEq, reduceIte, Int.cast_ofNat_Int]
  rfl
 ·intro k hi hk
  by_cases h : k < l.length
  ·have hs := any_take p l k h
   simp only [zB, seval, implies_true, Nat.reduceLeDiff, Nat.reduceEqDiff, reduceCtorEq, reduceIte, (show (k:Int) < l.length by omega), h, a_getD _ _ _ (show k < l.length by omega)]
   refine callF_go ((hp _).mono fun r s hr => ?_)
   obtain ⟨rfl, rfl⟩ := hr
   simp only [zB, seval, implies_true, Nat.reduceLeDiff, Nat.reduceEqDiff, reduceCtorEq, reduceIte]
   refine ifC.mk (fun hc => ?_) (fun hc => ?_)
   ·refine ⟨_, _, weakR_to [] [0] rfl (by simp) (show renV _ _ _ = AV.d _ from rfl) rfl, ?_, rfl⟩
    rw [idxF_at h hi hc]
   ·refine ⟨by rw [hs, hi, hc]; rfl, ?_⟩
    refine weak_to [] [0] rfl (by simp) ?_ rfl
    simp only [zB, seval, implies_true, Nat.reduceLeDiff, Nat.reduceEqDiff, reduceCtorEq, reduceIte, @a_wrap ((k:Int) + 1) (by omega)]
    rfl
  ·simp only [zB, seval, implies_true, Nat.reduceLeDiff, Nat.reduceEqDiff, reduceCtorEq, reduceIte, (show ¬ (k:Int) < l.length by omega)]
   have : k = l.length := by omega
   subst this
   rw [List.take_length] at hi
   refine ⟨_, _, weakR_to [] [0] rfl (by simp) (show renV _ _ _ = AV.d _ from rfl) rfl, ?_, rfl⟩
   rw [idxF_none hi]
theorem k_ContainsFuncFlow (fv : FuncId) (n : Nat) (y : D) (p : FlowT → Bool) (hp : ∀ x : FlowT, ACalls Tryz.prog Gl fv [.d x.toD, .ptr 0 0] [.box n (.d y)] (fun r s => r = .d (.bool (p x)) ∧ s = [.box n (.d y)])) (l : List FlowT) (hl : l.length < 1000000) :
  ACalls Tryz.prog Gl 119 [.d (.sl (l.map FlowT.toD)), .fn fv [.ptr 0 0]] [.box n (.d y)] (fun r s => r = .d (.bool (l.any p)) ∧ s = [.box n (.d y)]) := by
 refine acalls_of Tryz.func119 rfl rfl (by simp [Tryz.ntmps119]) (evC_sound rfl _ _ _ _ ?_)
 simp only [Tryz.ntmps119, Tryz.results119, argEnv, List.length_nil]
 simp only [zB, seval, implies_true, Nat.reduceLeDiff, Nat.reduceEqDiff, reduceCtorEq, reduceIte]
 refine callF_go ((k_IndexFuncFlow fv n y p hp l hl).mono fun r s hr => ?_)
 obtain ⟨rfl, rfl⟩ := hr
 simp only [zB, seval, implies_true, Nat.reduceLeDiff, Nat.reduceEqDiff, reduceCtorEq, reduceIte]
 refine ⟨_, _, weakR_to [] [0] rfl (by simp) (show renV _ _ _ = AV.d _ from rfl) rfl, ?_, rfl⟩
 rw [idxF_any]
theorem k_IndexFuncSample (fv : FuncId) (n : Nat) (y : D) (p : SampleT → Bool) (hp : ∀ x : SampleT, ACalls Tryz.prog Gl fv [.d x.toD, .ptr 0 0] [.box n (.d y)] (fun r s => r = .d (.bool (p x)) ∧ s = [.box n (.d y)])) (l : List SampleT) (hl : l.length < 1000000) :
  ACalls Tryz.prog Gl 155 [.d (.sl (l.map SampleT.toD)), .fn fv [.ptr 0 0]] [.box n (.d y)] (fun r s => r = .d (.int .i64 (idxF p l)) ∧ s = [.box n (.d y)]) := by
 refine acalls_of Tryz.func155 rfl rfl (by simp [Tryz.ntmps155]) (evC_sound rfl _ _ _ _ ?_)
 simp only [Tryz.ntmps155, Tryz.results155, argEnv, List.length_nil]
 simp only [zB, seval, implies_true, Nat.reduceLeDiff, Nat.reduceEqDiff, reduceCtorEq, reduceIte]
 refine for_of l.length (fun k => [(0, .d (.sl (l.map SampleT.toD))), (1, .fn fv [.ptr 0 0]), (7, .d (.int .i64 l.length)), (8, .d (.int .i64 k))]) (fun _ => [.box n (.d y)]) (fun k => (l.take k).any p = false) rfl ?_ ?_
 ·refine weak_to [] [0] rfl (by simp) ?_ rfl
  simp only [zB, seval, implies_true, Nat.reduceLeDiff, Nat.reduceEqDiff, reduceCtorEq, reduceIte, Int.cast_ofNat_Int]
  rfl
 ·intro k hi hk
  by_cases h : k < l.length
  ·have hs := any_take p l k h
   simp only [zB, seval, implies_true, Nat.reduceLeDiff, Nat.reduceEqDiff, reduceCtorEq, reduceIte, (show (k:Int) < l.length by omega), h, a_getD _ _ _ (show k < l.length by omega)]
   refine callF_go ((hp _).mono fun r s hr => ?_)
   obtain ⟨rfl, rfl⟩ := hr
   simp only [zB, seval, implies_true, Nat.reduceLeDiff, Nat.reduceEqDiff, reduceCtorEq, reduceIte]
   refine ifC.mk (fun hc => ?_) (fun hc => ?_)
   ·refine ⟨_, _, weakR_to [] [0] rfl (by simp) (show renV _ _ _ = AV.d _ from rfl) rfl, ?_, rfl⟩
    rw [idxF_at h hi hc]
   ·refine ⟨by rw [hs, hi, hc]; rfl, ?_⟩
    refine weak_to [] [0] rfl (by simp) ?_ rfl
    simp only [zB, seval, implies_true, Nat.reduceLeDiff, Nat.reduceEqDiff, reduceCtorEq, reduceIte, @a_wrap ((k:Int) + 1) (by omega)]
    rfl
  ·simp only [zB, seval, implies_true, Nat.reduceLeDiff, Nat.reduceEqDiff, reduceCtorEq, reduceIte, (show ¬ (k:Int) < l.length by omega)]
   have : k = l.length := by omega
   subst this
   rw [List.take_length] at hi
   refine ⟨_, _, weakR_to [] [0] rfl (by simp) (show renV _ _ _ = AV.d _ from rfl) rfl, ?_, rfl⟩
   rw [idxF_none hi]
theorem k_ContainsFuncSample (fv : FuncId) (n : Nat) (y : D) (p : SampleT → Bool) (hp : ∀ x : SampleT, ACalls Tryz.prog Gl fv [.d x.toD, .ptr 0 0] [.box n (.d y)] (fun r s => r = .d (.bool (p x)) ∧ s = [.box n (.d y)])) (l : List SampleT) (hl : l.length < 1000000) :
  ACalls Tryz.prog Gl 122 [.d (.sl (l.map SampleT.toD)), .fn fv [.ptr 0 0]] [.box n (.d y)] (fun r s => r = .d (.bool (l.any p)) ∧ s = [.box n (.d y)]) := by
 refine acalls_of Tryz.func122 rfl rfl (by simp [Tryz.ntmps122]) (evC_sound rfl _ _ _ _ ?_)
 simp only [Tryz.ntmps122, Tryz.results122, argEnv, List.length_nil]
 simp only [zB, seval, implies_true, Nat.reduceLeDiff, Nat.reduceEqDiff, reduceCtorEq, reduceIte]
 refine callF_go ((k_IndexFuncSample fv n y p hp l hl).mono fun r s hr => ?_)
 obtain ⟨rfl, rfl⟩ := hr
 simp only [zB, seval, implies_true, Nat.reduceLeDiff, Nat.reduceEqDiff, reduceCtorEq, reduceIte]
 refine ⟨_, _, weakR_to [] [0] rfl (by simp) (show renV _ _ _ = AV.d _ from rfl) rfl, ?_, rfl⟩
 rw [idxF_any]
theorem k_IndexFuncStep (fv : FuncId) (n : Nat) (y : D) (p : StepT → Bool) (hp : ∀ x : StepT, ACalls Tryz.prog Gl fv [.d x.toD, .ptr 0 0] [.box n (.d y)] (fun r s => r = .d (.bool (p x)) ∧ s = [.box n (.d y)])) (l : List StepT) (hl : l.length < 1000000) :
  ACalls Tryz.prog Gl 156 [.d (.sl (l.map StepT.toD)), .fn fv [.ptr 0 0]] [.box n (.d y)] (fun r s => r = .d (.int .i64 (idxF p l)) ∧ s = [.box n (.d y)]) := by
 refine acalls_of Tryz.func156 rfl rfl (by simp [Tryz.ntmps156]) (evC_sound rfl _ _ _ _ ?_)
 simp only [Tryz.ntmps156, Tryz.results156, argEnv, List.length_nil]
 simp only [zB, seval, implies_true, Nat.reduceLeDiff, Nat.reduceEqDiff, reduceCtorEq, reduceIte]
 refine for_of l.length (fun k => [(0, .d (.sl (l.map StepT.toD))), (1, .fn fv [.ptr 0 0]), (7, .d (.int .i64 l.length)), (8, .d (.int .i64 k))]) (fun _ => [.box n (.d y)]) (fun k => (l.take k).any p = false) rfl ?_ ?_
 ·refine weak_to [] [0] rfl (by simp) ?_ rfl
  simp only [zB, seval, implies_true, Nat.reduceLeDiff, Nat.reduceEqDiff, reduceCtorEq, reduceIte, Int.cast_ofNat_Int]
  rfl
 ·intro k hi hk
  by_cases h : k < l.length
  ·have hs := any_take p l k h
   simp only [zB, seval, implies_true, Nat.reduceLeDiff, Nat.reduceEqDiff, reduceCtorEq, reduceIte, (show (k:Int) < l.length by omega), h, a_getD _ _ _ (show k < l.length by omega)]
   refine callF_go ((hp _).mono fun r s hr => ?_)
   obtain ⟨rfl, rfl⟩ := hr
   simp only [zB, seval, implies_true, Nat.reduceLeDiff, Nat.reduceEqDiff, reduceCtorEq, reduceIte]
   refine ifC.mk (fun hc => ?_) (fun hc => ?_)
   ·refine ⟨_, _, weakR_to [] [0] rfl (by simp) (show renV _ _ _ = AV.d _ from rfl) rfl, ?_, rfl⟩
    rw [idxF_at h hi hc]
   ·refine ⟨by rw [hs, hi, hc]; rfl, ?_⟩
    refine weak_to [] [0] rfl (by simp) ?_ rfl
    simp only [zB, seval, implies_true, Nat.reduceLeDiff, Nat.reduceEqDiff, reduceCtorEq, reduceIte, @a_wrap ((k:Int) + 1) (by omega)]
    rfl
  ·simp only [zB, seval, implies_true, Nat.reduceLeDiff, Nat.reduceEqDiff, reduceCtorEq, reduceIte, (show ¬ (k:Int) < l.length by omega)]
   have : k = l.length := by omega
   subst this
   rw [List.take_length] at hi
   refine ⟨_, _, weakR_to [] [0] rfl (by simp) (show renV _ _ _ = AV.d _ from rfl) rfl, ?_, rfl⟩
   rw [idxF_none hi]
theorem k_ContainsFuncStep (fv : FuncId) (n : Nat) (y : D) (p : StepT → Bool) (hp : ∀ x : StepT, ACalls Tryz.prog Gl fv [.d x.toD, .ptr 0 0] [.box n (.d y)] (fun r s => r = .d (.bool (p x)) ∧ s = [.box n (.d y)])) (l : List StepT) (hl : l.length < 1000000) :
  ACalls Tryz.prog Gl 124 [.d (.sl (l.map StepT.toD)), .fn fv [.ptr 0 0]] [.box n (.d y)] (fun r s => r = .d (.bool (l.any p)) ∧ s = [.box n (.d y)]) := by
 refine acalls_of Tryz.func124 rfl rfl (by simp [Tryz.ntmps124]) (evC_sound rfl _ _ _ _ ?_)
 simp only [Tryz.ntmps124, Tryz.results124, argEnv, List.length_nil]
 simp only [zB, seval, implies_true, Nat.reduceLeDiff, Nat.reduceEqDiff, reduceCtorEq, reduceIte]
 refine callF_go ((k_IndexFuncStep fv n y p hp l hl).mono fun r s hr => ?_)
 obtain ⟨rfl, rfl⟩ := hr
 simp only [zB, seval, implies_true, Nat.reduceLeDiff, Nat.reduceEqDiff, reduceCtorEq, reduceIte]
 refine ⟨_, _, weakR_to [] [0] rfl (by simp) (show renV _ _ _ = AV.d _ from rfl) rfl, ?_, rfl⟩
 rw [idxF_any]
theorem k_knownSlice (fv : FuncId) (g : SliceT → Int) (hg : ∀ x : SliceT, Pure Tryz.prog Gl fv [.d x.toD] (.d (.int .i64 (g x)))) (e : Int) (f : Key → Option AV) (has : Int → Bool) (hst : ∀ k v, f k = some v → ∃ d, v = .d d) (hf : ∀ n, (f (.i n)).isSome = has n) (l : List SliceT) (hl : l.length < 1000000) :
  ACalls Tryz.prog Gl 96 [.d (.int .i64 e), .mapr 0, .d (.sl (l.map SliceT.toD)), .fn fv []] [.map (some .i64) f] (fun r s => r = .d (.int .i64 (knownF e has g l)) ∧ s = [.map (some .i64) f]) := by
 refine acalls_of Tryz.func96 rfl rfl (by simp [Tryz.ntmps96]) (evC_sound rfl _ _ _ _ ?_)
 simp only [Tryz.ntmps96, Tryz.results96, argEnv, List.length_nil]
 simp only [zB, seval, implies_true, Nat.reduceLeDiff, Nat.reduceEqDiff, reduceCtorEq, reduceIte]
 refine ifC.mk (fun he => ?_) (fun he => ?_)
 ·refine ⟨_, _, weakR_to [] [0] rfl (by simp) (show renV _ _ _ = AV.d _ from rfl) (renS0_map hst _), ?_, rfl⟩
  have he : e ≠ 0 := by simpa using he
  rw [knownF, if_pos he]
 ·have he : ¬ e ≠ 0 := by simpa using he
  refine for_of l.length (fun k => [(1, .mapr 0), (3, .fn fv []), (16, .d (.sl (l.map SliceT.toD))), (17, .d (.int .i64 l.length)), (18, .d (.int .i64 k))]) (fun _ => [.map (some .i64) f]) (fun k => (l.take k).all (fun x => has (g x)) = true) rfl ?_ ?_
  ·refine weak_to [] [0] rfl (by simp) ?_ (renS0_map hst _)
   simp only [zB, seval, implies_true, Nat.reduceLeDiff, Nat.reduceEqDiff, reduceCtorEq, reduceIte, Int.cast_ofNat_Int]
   rfl
  ·intro k hi hk
   by_cases h : k < l.length
   ·have hs := all_take (fun x => has (g x)) l k h
    simp only [zB, seval, implies_true, Nat.reduceLeDiff, Nat.reduceEqDiff, reduceCtorEq, reduceIte, (show (k:Int) < l.length by omega), h, a_getD _ _ _ (show k < l.length by omega)]
    repeat ((with_reducible refine And.intro ?_ ?_); (focus (first | omega | (simp only [lenR]; omega) | (refine qq ?_; rfl) | (refine dq ?_; kernel_rfl) | (intros; simp_all; done))))
    refine callF_pure (hg _) ?_
    obtain ⟨d, hd⟩ := mapGet hst (.i (g (l.getD k default))) (.str [])
    simp only [zB, seval, implies_true, Nat.reduceLeDiff, Nat.reduceEqDiff, reduceCtorEq, reduceIte, hf, hd]
    repeat ((with_reducible refine And.intro ?_ ?_); (focus (first | omega | (simp only [lenR]; omega) | (refine qq ?_; rfl) | (refine dq ?_; kernel_rfl) | (intros; simp_all; done))))
    refine ifC.mk (fun hc => ?_) (fun hc => ?_)
    ·refine ⟨_, _, weakR_to [] [0] rfl (by simp) (show renV _ _ _ = AV.d _ from rfl) (renS0_map hst _), ?_, rfl⟩
     rw [knownF, if_neg he, if_neg (by rw [all_at _ l k h (by simpa using hc)]; simp)]
    ·refine ⟨by rw [hs, hi]; simpa using hc, ?_⟩
     refine weak_to [] [0] rfl (by simp) ?_ (renS0_map hst _)
     simp only [zB, seval, implies_true, Nat.reduceLeDiff, Nat.reduceEqDiff, reduceCtorEq, reduceIte, @a_wrap ((k:Int) + 1) (by omega)]
     rfl
   ·simp only [zB, seval, implies_true, Nat.reduceLeDiff, Nat.reduceEqDiff, reduceCtorEq, reduceIte, (show ¬ (k:Int) < l.length by omega)]
    have : k = l.length := by omega
    subst this
    rw [List.take_length] at hi
    refine ⟨_, _, weakR_to [] [0] rfl (by simp) (show renV _ _ _ = AV.d _ from rfl) (renS0_map hst _), ?_, rfl⟩
    rw [knownF, if_neg he, if_pos hi]
theorem k_knownFlow (fv : FuncId) (g : FlowT → Int) (hg : ∀ x : FlowT, Pure Tryz.prog Gl fv [.d x.toD] (.d (.int .i64 (g x)))) (e : Int) (f : Key → Option AV) (has : Int → Bool) (hst : ∀ k v, f k = some v → ∃ d, v = .d d) (hf : ∀ n, (f (.i n)).isSome = has n) (l : List FlowT) (hl : l.length < 1000000) :
  ACalls Tryz.prog Gl 100 [.d (.int .i64 e), .mapr 0, .d (.sl (l.map FlowT.toD)), .fn fv []] [.map (some .i64) f] (fun r s => r = .d (.int .i64 (knownF e has g l)) ∧ s = [.map (some .i64) f]) := by
 refine acalls_of Tryz.func100 rfl rfl (by simp [Tryz.ntmps100]) (evC_sound rfl _ _ _ _ ?_)
 simp only [Tryz.ntmps100, Tryz.results100, argEnv, List.length_nil]
 simp only [zB, seval, implies_true, Nat.reduceLeDiff, Nat.reduceEqDiff, reduceCtorEq, reduceIte]
 refine ifC.mk (fun he => ?_) (fun he => ?_)
 ·refine ⟨_, _, weakR_to [] [0] rfl (by simp) (show renV _ _ _ = AV.d _ from rfl) (renS0_map hst _), ?_, rfl⟩
  have he : e ≠ 0 := by simpa using he
  rw [knownF, if_pos he]
 ·have he : ¬ e ≠ 0 := by simpa using he
  refine for_of l.length (fun k => [(1, .mapr 0), (3, .fn fv []), (16, .d (.sl (l.map FlowT.toD))), (17, .d (.int .i64 l.length)), (18, .d (.int .i64 k))]) (fun _ => [.map (some .i64) f]) (fun k => (l.take k).all (fun x => has (g x)) = true) rfl ?_ ?_
  ·refine weak_to [] [0] rfl (by simp) ?_ (renS0_map hst _)
   simp only [zB, seval, implies_true, Nat.reduceLeDiff, Nat.reduceEqDiff, reduceCtorEq, reduceIte, Int.cast_ofNat_Int]
   rfl
  ·intro k hi hk
   by_cases h : k < l.length
   ·have hs := all_take (fun x => has (g x)) l k h
    simp only [zB, seval, implies_true, Nat.reduceLeDiff, Nat.reduceEqDiff, reduceCtorEq, reduceIte, (show (k:Int) < l.length by omega), h, a_getD _ _ _ (show k < l.length by omega)]
    repeat ((with_reducible refine And.intro ?_ ?_); (focus (first | omega | (simp only [lenR]; omega) | (refine qq ?_; rfl) | (refine dq ?_; kernel_rfl) | (intros; simp_all; done))))
    refine callF_pure (hg _) ?_
    obtain ⟨d, hd⟩ := mapGet hst (.i (g (l.getD k default))) (.str [])
    simp only [zB, seval, implies_true, Nat.reduceLeDiff, Nat.reduceEqDiff, reduceCtorEq, reduceIte, hf, hd]
    repeat ((with_reducible refine And.intro ?_ ?_); (focus (first | omega | (simp only [lenR]; omega) | (refine qq ?_; rfl) | (refine dq ?_; kernel_rfl) | (intros; simp_all; done))))
    refine ifC.mk (fun hc => ?_) (fun hc => ?_)
    ·refine ⟨_, _, weakR_to [] [0] rfl (by simp) (show renV _ _ _ = AV.d _ from rfl) (renS0_map hst _), ?_, rfl⟩
     rw [knownF, if_neg he, if_neg (by rw [all_at _ l k h (by simpa using hc)]; simp)]
    ·refine ⟨by rw [hs, hi]; simpa using hc, ?_⟩
     refine weak_to [] [0] rfl (by simp) ?_ (renS0_map hst _)
     simp only [zB, seval, implies_true, Nat.reduceLeDiff, Nat.reduceEqDiff, reduceCtorEq, reduceIte, @a_wrap ((k:Int) + 1) (by omega)]
     rfl
   ·simp only [zB, seval, implies_true, Nat.reduceLeDiff, Nat.reduceEqDiff, reduceCtorEq, reduceIte, (show ¬ (k:Int) < l.length by omega)]
    have : k = l.length := by omega
    subst this
    rw [List.take_length] at hi
    refine ⟨_, _, weakR_to [] [0] rfl (by simp) (show renV _ _ _ = AV.d _ from rfl) (renS0_map hst _), ?_, rfl⟩
    rw [knownF, if_neg he, if_pos hi]
theorem k_knownSample (fv : FuncId) (g : SampleT → Int) (hg : ∀ x : SampleT, Pure Tryz.prog Gl fv [.d x.toD] (.d (.int .i64 (g x)))) (e : Int) (f : Key → Option AV) (has : Int → Bool) (hst : ∀ k v, f k = some v → ∃ d, v = .d d) (hf : ∀ n, (f (.i n)).isSome = has n) (l : List SampleT) (hl : l.length < 1000000) :
  ACalls Tryz.prog Gl 104 [.d (.int .i64 e), .mapr 0, .d (.sl (l.map SampleT.toD)), .fn fv []] [.map (some .i64) f] (fun r s => r = .d (.int .i64 (knownF e has g l)) ∧ s = [.map (some .i64) f]) := by
 refine acalls_of Tryz.func104 rfl rfl (by simp [Tryz.ntmps104]) (evC_sound rfl _ _ _ _ ?_)
 simp only [Tryz.ntmps104, Tryz.results104, argEnv, List.length_nil]
 simp only [zB, seval, implies_true, Nat.reduceLeDiff, Nat.reduceEqDiff, reduceCtorEq, reduceIte]
 refine ifC.mk (fun he => ?_) (fun he => ?_)
 ·refine ⟨_, _, weakR_to [] [0] rfl (by simp) (show renV _ _ _ = AV.d _ from rfl) (renS0_map hst _), ?_, rfl⟩
  have he : e ≠ 0 := by simpa using he
  rw [knownF, if_pos he]
 ·have he : ¬ e ≠ 0 := by simpa using he
  refine for_of l.length (fun k => [(1, .mapr 0), (3, .fn fv []), (16, .d (.sl (l.map SampleT.toD))), (17, .d (.int .i64 l.length)), (18, .d (.int .i64 k))]) (fun _ => [.map (some .i64) f]) (fun k => (l.take k).all (fun x => has (g x)) = true) rfl ?_ ?_
  ·refine weak_to [] [0] rfl (by simp) ?_ (renS0_map hst _)
   simp only [zB, seval, implies_true, Nat.reduceLeDiff, Nat.reduceEqDiff, reduceCtorEq, reduceIte, Int.cast_ofNat_Int]
   rfl
  ·intro k hi hk
   by_cases h : k < l.length
   ·have hs := all_take (fun x => has (g x)) l k h
    simp only [zB, seval, implies_true, Nat.reduceLeDiff, Nat.reduceEqDiff, reduceCtorEq, reduceIte, (show (k:Int) < l.length by omega), h, a_getD _ _ _ (show k < l.length by omega)]
    repeat ((with_reducible refine And.intro ?_ ?_); (focus (first | omega | (simp only [lenR]; omega) | (refine qq ?_; rfl) | (refine dq ?_; kernel_rfl) | (intros; simp_all; done))))
    refine callF_pure (hg _) ?_
    obtain ⟨d, hd⟩ := mapGet hst (.i (g (l.getD k default))) (.str [])
    simp only [zB, seval, implies_true, Nat.reduceLeDiff, Nat.reduceEqDiff, reduceCtorEq, reduceIte, hf, hd]
    repeat ((with_reducible refine And.intro ?_ ?_); (focus (first | omega | (simp only [lenR]; omega) | (refine qq ?_; rfl) | (refine dq ?_; kernel_rfl) | (intros; simp_all; done))))
    refine ifC.mk (fun hc => ?_) (fun hc => ?_)
    ·refine ⟨_, _, weakR_to [] [0] rfl (by simp) (show renV _ _ _ = AV.d _ from rfl) (renS0_map hst _), ?_, rfl⟩
     rw [knownF, if_neg he, if_neg (by rw [all_at _ l k h (by simpa using hc)]; simp)]
    ·refine ⟨by rw [hs, hi]; simpa using hc, ?_⟩
     refine weak_to [] [0] rfl (by simp) ?_ (renS0_map hst _)
     simp only [zB, seval, implies_true, Nat.reduceLeDiff, Nat.reduceEqDiff, reduceCtorEq, reduceIte, @a_wrap ((k:Int) + 1) (by omega)]
     rfl
   ·simp only [zB, seval, implies_true, Nat.reduceLeDiff, Nat.reduceEqDiff, reduceCtorEq, reduceIte, (show ¬ (k:Int) < l.length by omega)]
    have : k = l.length := by omega
    subst this
    rw [List.take_length] at hi
    refine ⟨_, _, weakR_to [] [0] rfl (by simp) (show renV _ _ _ = AV.d _ from rfl) (renS0_map hst _), ?_, rfl⟩
    rw [knownF, if_neg he, if_pos hi]
theorem k_knownBlock (fv : FuncId) (g : BlockT → Int) (hg : ∀ x : BlockT, Pure Tryz.prog Gl fv [.d x.toD] (.d (.int .i64 (g x)))) (e : Int) (f : Key → Option AV) (has : Int → Bool) (hst : ∀ k v, f k = some v → ∃ d, v = .d d) (hf : ∀ n, (f (.i n)).isSome = has n) (l : List BlockT) (hl : l.length < 1000000) :
  ACalls Tryz.prog Gl 108 [.d (.int .i64 e), .mapr 0, .d (.sl (l.map BlockT.toD)), .fn fv []] [.map (some .i64) f] (fun r s => r = .d (.int .i64 (knownF e has g l)) ∧ s = [.map (some .i64) f]) := by
 refine acalls_of Tryz.func108 rfl rfl (by simp [Tryz.ntmps108]) (evC_sound rfl _ _ _ _ ?_)
 simp only [Tryz.ntmps108, Tryz.results108, argEnv, List.length_nil]
 simp only [zB, seval, implies_true, Nat.reduceLeDiff, Nat.reduceEqDiff, reduceCtorEq, reduceIte]
 refine ifC.mk (fun he => ?_) (fun he => ?_)
 ·refine ⟨_, _, weakR_to [] [0] rfl (by simp) (show renV _ _ _ = AV.d _ from rfl) (renS0_map hst _), ?_, rfl⟩
  have he : e ≠ 0 := by simpa using he
  rw [knownF, if_pos he]
 ·have he : ¬ e ≠ 0 := by simpa using he
  refine for_of l.length (fun k => [(1, .mapr 0), (3, .fn fv []), (16, .d (.sl (l.map BlockT.toD))), (17, .d (.int .i64 l.length)), (18, .d (.int .i64 k))]) (fun _ => [.map (some .i64) f]) (fun k => (l.take k).all (fun x => has (g x)) = true) rfl ?_ ?_
  ·refine weak_to [] [0] rfl (by simp) ?_ (renS0_map hst _)
   simp only [zB, seval, implies_true, Nat.reduceLeDiff, Nat.reduceEqDiff, reduceCtorEq, reduceIte, Int.cast_ofNat_Int]
   rfl
  ·intro k hi hk
   by_cases h : k < l.length
   ·have hs := all_take (fun x => has (g x)) l k h
    simp only [zB, seval, implies_true, Nat.reduceLeDiff, Nat.reduceEqDiff, reduceCtorEq, reduceIte, (show (k:Int) < l.length by omega), h, a_getD _ _ _ (show k < l.length by omega)]
    repeat ((with_reducible refine And.intro ?_ ?_); (focus (first | omega | (simp only [lenR]; omega) | (refine qq ?_; rfl) | (refine dq ?_; kernel_rfl) | (intros; simp_all; done))))
    refine callF_pure (hg _) ?_
    obtain ⟨d, hd⟩ := mapGet hst (.i (g (l.getD k default))) (.str [])
    simp only [zB, seval, implies_true, Nat.reduceLeDiff, Nat.reduceEqDiff, reduceCtorEq, reduceIte, hf, hd]
    repeat ((with_reducible refine And.intro ?_ ?_); (focus (first | omega | (simp only [lenR]; omega) | (refine qq ?_; rfl) | (refine dq ?_; kernel_rfl) | (intros; simp_all; done))))
    refine ifC.mk (fun hc => ?_) (fun hc => ?_)
    ·refine ⟨_, _, weakR_to [] [0] rfl (by simp) (show renV _ _ _ = AV.d _ from rfl) (renS0_map hst _), ?_, rfl⟩
     rw [knownF, if_neg he, if_neg (by rw [all_at _ l k h (by simpa using hc)]; simp)]
    ·refine ⟨by rw [hs, hi]; simpa using hc, ?_⟩
     refine weak_to [] [0] rfl (by simp) ?_ (renS0_map hst _)
     simp only [zB, seval, implies_true, Nat.reduceLeDiff, Nat.reduceEqDiff, reduceCtorEq, reduceIte, @a_wrap ((k:Int) + 1) (by omega)]
     rfl
   ·simp only [zB, seval, implies_true, Nat.reduceLeDiff, Nat.reduceEqDiff, reduceCtorEq, reduceIte, (show ¬ (k:Int) < l.length by omega)]
    have : k = l.length := by omega
    subst this
    rw [List.take_length] at hi
    refine ⟨_, _, weakR_to [] [0] rfl (by simp) (show renV _ _ _ = AV.d _ from rfl) (renS0_map hst _), ?_, rfl⟩
    rw [knownF, if_neg he, if_pos hi]
end YtadfcljoocjhdaaGreat
end Go.Proofs
