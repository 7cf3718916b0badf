/- A part of the proof: contracts of functions of this seat, and lemmas. No condition beyond those stated. -/
import Derived.Test.YtgebmgahfpnjaaaM31a
set_option linter.unusedVariables false
set_option linter.unusedSimpArgs false
set_option linter.unusedSectionVars false
set_option linter.unnecessarySimpa false
set_option linter.unusedSimpArgs false
set_option linter.unusedVariables false
set_option maxRecDepth 100000
namespace Go.Proofs
open Go.AM
namespace Ytgebmgahfpnjaaa
structure BlockT where
  id : Int
  thread : Int
  size : Int
  lo : Int
  hi : Int
  stack : List (List UInt8)
  live : Bool
deriving Inhabited
def BlockT.toD (b : BlockT) : D := .agg [.int .i64 b.id, .int .i64 b.thread, .int .i64 b.size, .int .i64 b.lo, .int .i64 b.hi, .sl (b.stack.map .str), .bool b.live]
theorem b_isAgg (b : BlockT) : b.toD.isAgg = true := rfl
theorem b_cells (b : BlockT) : b.toD.cells = [.int .i64 b.id, .int .i64 b.thread, .int .i64 b.size, .int .i64 b.lo, .int .i64 b.hi, .sl (b.stack.map .str), .bool b.live] := rfl
structure TimedT where
  thread : Int
  serial : Int
  at_ : Int
  kind : Int
  name : List UInt8
  n : Int
  m : Int
  stack : List (List UInt8)
  lo : Int
  hi : Int
deriving Inhabited
def TimedT.toD (b : TimedT) : D := .agg [.int .i64 b.thread, .int .i64 b.serial, .int .i64 b.at_, .int .i64 b.kind, .str b.name, .int .i64 b.n, .int .i64 b.m, .sl (b.stack.map .str), .int .i64 b.lo, .int .i64 b.hi]
theorem t_isAgg (b : TimedT) : b.toD.isAgg = true := rfl
theorem t_cells (b : TimedT) : b.toD.cells = [.int .i64 b.thread, .int .i64 b.serial, .int .i64 b.at_, .int .i64 b.kind, .str b.name, .int .i64 b.n, .int .i64 b.m, .sl (b.stack.map .str), .int .i64 b.lo, .int .i64 b.hi] := rfl

def timeF (t : TimedT) : Int := max 0 (min t.lo 1000000000000)
theorem c28 (t : TimedT) : Pure Try.prog 28 [.d t.toD] (.d (.int .i64 (timeF t))) := by
  refine Pure.of1 ?_
  refine acalls_of Try.func28 rfl rfl (by simp [Try.ntmps28]) (evC_sound rfl _ _ _ _ ?_)
  simp only [Try.ntmps28, Try.results28, argEnv, List.length_nil]
  simp only [vcRules, dRules, bRules, tyRules, xRules, pickV_true, pickV_false, implies_true, Nat.reduceLT, Nat.reduceLeDiff, Nat.reduceEqDiff, Nat.reduceAdd, Nat.reduceSub, Nat.reduceMul, Int.reduceToNat, Int.reduceLT, Int.reduceLE, Int.reduceEq, Int.reduceAdd, Int.reduceSub, Int.reduceNeg, Int.reduceBEq, Int.reduceBNe, Int.reduceMul, Int.natCast_add, Int.natCast_one, reduceCtorEq, reduceIte, b_isAgg, b_cells, t_isAgg, t_cells]
  exact ⟨_, _, ret_d, rfl, rfl⟩
theorem c25 (t : TimedT) : Pure Try.prog 25 [.d t.toD] (.d (.int .i64 (timeF t))) := by
  refine Pure.of1 ?_
  refine acalls_of Try.func25 rfl rfl (by simp [Try.ntmps25]) (evC_sound rfl _ _ _ _ ?_)
  simp only [Try.ntmps25, Try.results25, argEnv, List.length_nil]
  simp only [vcRules, dRules, bRules, tyRules, xRules, pickV_true, pickV_false, implies_true, Nat.reduceLT, Nat.reduceLeDiff, Nat.reduceEqDiff, Nat.reduceAdd, Nat.reduceSub, Nat.reduceMul, Int.reduceToNat, Int.reduceLT, Int.reduceLE, Int.reduceEq, Int.reduceAdd, Int.reduceSub, Int.reduceNeg, Int.reduceBEq, Int.reduceBNe, Int.reduceMul, Int.natCast_add, Int.natCast_one, reduceCtorEq, reduceIte, b_isAgg, b_cells, t_isAgg, t_cells]
  refine ⟨_, _, ret_d, ?_, rfl⟩
  unfold timeF; congr 2; omega

theorem c36 (a b : Int) : Pure Try.prog 36 [.d (.agg [.int .i64 a, .int .i64 b])] (.d (.bool (decide (0 ≤ a) && decide (a < b) && decide (b ≤ 1000000000000)))) := by
  refine Pure.of1 ?_
  refine acalls_of Try.func36 rfl rfl (by simp [Try.ntmps36]) (evC_sound rfl _ _ _ _ ?_)
  simp only [Try.ntmps36, Try.results36, argEnv, List.length_nil]
  simp only [vcRules, dRules, bRules, tyRules, xRules, pickV_true, pickV_false, implies_true, Nat.reduceLT, Nat.reduceLeDiff, Nat.reduceEqDiff, Nat.reduceAdd, Nat.reduceSub, Nat.reduceMul, Int.reduceToNat, Int.reduceLT, Int.reduceLE, Int.reduceEq, Int.reduceAdd, Int.reduceSub, Int.reduceNeg, Int.reduceBEq, Int.reduceBNe, Int.reduceMul, Int.natCast_add, Int.natCast_one, reduceCtorEq, reduceIte, b_isAgg, b_cells, t_isAgg, t_cells]
  exact ⟨_, _, ret_d, rfl, rfl⟩
theorem c39 (a b c d : Int) : Pure Try.prog 39 [.d (.agg [.int .i64 a, .int .i64 b]), .d (.agg [.int .i64 c, .int .i64 d])] (.d (.bool (decide (a < d) && decide (c < b)))) := by
  refine Pure.of2 ?_
  refine acalls_of Try.func39 rfl rfl (by simp [Try.ntmps39]) (evC_sound rfl _ _ _ _ ?_)
  simp only [Try.ntmps39, Try.results39, argEnv, List.length_nil]
  simp only [vcRules, dRules, bRules, tyRules, xRules, pickV_true, pickV_false, implies_true, Nat.reduceLT, Nat.reduceLeDiff, Nat.reduceEqDiff, Nat.reduceAdd, Nat.reduceSub, Nat.reduceMul, Int.reduceToNat, Int.reduceLT, Int.reduceLE, Int.reduceEq, Int.reduceAdd, Int.reduceSub, Int.reduceNeg, Int.reduceBEq, Int.reduceBNe, Int.reduceMul, Int.natCast_add, Int.natCast_one, reduceCtorEq, reduceIte, b_isAgg, b_cells, t_isAgg, t_cells]
  exact ⟨_, _, ret_d, rfl, rfl⟩

def endF (os : List TimedT) (e : Int) : Int := max 0 (min (if os.length = 0 then e else max e (timeF (os.getD (os.length - 1) default))) 1000000000000)
theorem c24 (os : List TimedT) (e : Int) (hl : os.length < 1000000) : Pure Try.prog 24 [.d (.sl (os.map TimedT.toD)), .d (.int .i64 e)] (.d (.int .i64 (endF os e))) := by
  refine Pure.of2 ?_
  by_cases h : os.length = 0
  · refine acalls_of Try.func24 rfl rfl (by simp [Try.ntmps24]) (evC_sound rfl _ _ _ _ ?_)
    simp only [Try.ntmps24, Try.results24, argEnv, List.length_nil]
    simp only [vcRules, dRules, bRules, tyRules, xRules, pickV_true, pickV_false, implies_true, Nat.reduceLT, Nat.reduceLeDiff, Nat.reduceEqDiff, Nat.reduceAdd, Nat.reduceSub, Nat.reduceMul, Int.reduceToNat, Int.reduceLT, Int.reduceLE, Int.reduceEq, Int.reduceAdd, Int.reduceSub, Int.reduceNeg, Int.reduceBEq, Int.reduceBNe, Int.reduceMul, Int.natCast_add, Int.natCast_one, reduceCtorEq, reduceIte, b_isAgg, b_cells, t_isAgg, t_cells, h, (show ¬ (0:Int) < 0 by omega), Int.cast_ofNat_Int]
    refine ⟨_, _, ret_d, ?_, rfl⟩
    rw [endF, if_pos h]; congr 2; omega
  · have e1 : IntKind.i64.wrap ((os.length : Int) - 1) = ((os.length - 1 : Nat) : Int) := by rw [wrap64 (by omega) (by omega)]; omega
    refine acalls_of Try.func24 rfl rfl (by simp [Try.ntmps24]) (evC_sound rfl _ _ _ _ ?_)
    simp only [Try.ntmps24, Try.results24, argEnv, List.length_nil]
    simp only [vcRules, dRules, bRules, tyRules, xRules, pickV_true, pickV_false, implies_true, Nat.reduceLT, Nat.reduceLeDiff, Nat.reduceEqDiff, Nat.reduceAdd, Nat.reduceSub, Nat.reduceMul, Int.reduceToNat, Int.reduceLT, Int.reduceLE, Int.reduceEq, Int.reduceAdd, Int.reduceSub, Int.reduceNeg, Int.reduceBEq, Int.reduceBNe, Int.reduceMul, Int.natCast_add, Int.natCast_one, reduceCtorEq, reduceIte, b_isAgg, b_cells, t_isAgg, t_cells, (show (0:Int) < os.length by omega), e1, (show os.length - 1 < os.length by omega), (show ((os.length - 1 : Nat) : Int) < os.length by omega), a_getD _ _ _ (show os.length - 1 < os.length by omega)]
    refine callF_pure (c25 _) ?_
    simp only [vcRules, dRules, bRules, tyRules, xRules, pickV_true, pickV_false, implies_true, Nat.reduceLT, Nat.reduceLeDiff, Nat.reduceEqDiff, Nat.reduceAdd, Nat.reduceSub, Nat.reduceMul, Int.reduceToNat, Int.reduceLT, Int.reduceLE, Int.reduceEq, Int.reduceAdd, Int.reduceSub, Int.reduceNeg, Int.reduceBEq, Int.reduceBNe, Int.reduceMul, Int.natCast_add, Int.natCast_one, reduceCtorEq, reduceIte, b_isAgg, b_cells, t_isAgg, t_cells]
    refine ⟨_, _, ret_d, ?_, rfl⟩
    rw [endF, if_neg h]; congr 2; omega

def liveB (b : BlockT) (t : Int) : Bool := decide (b.lo ≤ t) && decide (t < b.hi)
def liveF (bs : List BlockT) (t : Int) : Nat → Int
  | 0 => 0
  | k + 1 => if liveB (bs.getD k default) t = true then min 1000000000000000 (IntKind.i64.wrap (liveF bs t k + (bs.getD k default).size)) else liveF bs t k

theorem c20 (bs : List BlockT) (t : Int) (hl : bs.length < 1000000) : Pure Try.prog 20 [.d (.sl (bs.map BlockT.toD)), .d (.int .i64 t)] (.d (.int .i64 (liveF bs t bs.length))) := by
  refine Pure.of2 ?_
  refine acalls_of Try.func20 rfl rfl (by simp [Try.ntmps20]) (evC_sound rfl _ _ _ _ ?_)
  simp only [Try.ntmps20, Try.results20, argEnv, List.length_nil]
  simp only [vcRules, dRules, bRules, tyRules, xRules, pickV_true, pickV_false, implies_true, Nat.reduceLT, Nat.reduceLeDiff, Nat.reduceEqDiff, Nat.reduceAdd, Nat.reduceSub, Nat.reduceMul, Int.reduceToNat, Int.reduceLT, Int.reduceLE, Int.reduceEq, Int.reduceAdd, Int.reduceSub, Int.reduceNeg, Int.reduceBEq, Int.reduceBNe, Int.reduceMul, Int.natCast_add, Int.natCast_one, reduceCtorEq, reduceIte, b_isAgg, b_cells, t_isAgg, t_cells]
  refine for_of bs.length (fun k => [(1, .d (.int .i64 t)), (5, .d (.int .i64 (liveF bs t k))), (8, .d (.sl (bs.map BlockT.toD))), (9, .d (.int .i64 bs.length)), (10, .d (.int .i64 k))]) (fun _ => []) (fun _ => True) trivial ?_ ?_
  · refine weak_to [] [] rfl List.nodup_nil ?_ rfl
    simp only [vcRules, dRules, bRules, tyRules, xRules, pickV_true, pickV_false, implies_true, Nat.reduceLT, Nat.reduceLeDiff, Nat.reduceEqDiff, Nat.reduceAdd, Nat.reduceSub, Nat.reduceMul, Int.reduceToNat, Int.reduceLT, Int.reduceLE, Int.reduceEq, Int.reduceAdd, Int.reduceSub, Int.reduceNeg, Int.reduceBEq, Int.reduceBNe, Int.reduceMul, Int.natCast_add, Int.natCast_one, reduceCtorEq, reduceIte, b_isAgg, b_cells, t_isAgg, t_cells, liveF, Int.cast_ofNat_Int]
  · intro k _ hk
    by_cases h : k < bs.length
    · simp only [vcRules, dRules, bRules, tyRules, xRules, pickV_true, pickV_false, implies_true, Nat.reduceLT, Nat.reduceLeDiff, Nat.reduceEqDiff, Nat.reduceAdd, Nat.reduceSub, Nat.reduceMul, Int.reduceToNat, Int.reduceLT, Int.reduceLE, Int.reduceEq, Int.reduceAdd, Int.reduceSub, Int.reduceNeg, Int.reduceBEq, Int.reduceBNe, Int.reduceMul, Int.natCast_add, Int.natCast_one, reduceCtorEq, reduceIte, b_isAgg, b_cells, t_isAgg, t_cells, (show (k:Int) < bs.length by omega), h, a_getD _ _ _ (show k < bs.length by omega)]
      refine ifC.mk (fun hc => ?_) (fun hc => ?_)
      · refine weak_to [] [] rfl List.nodup_nil ?_ rfl
        simp only [vcRules, dRules, bRules, tyRules, xRules, pickV_true, pickV_false, implies_true, Nat.reduceLT, Nat.reduceLeDiff, Nat.reduceEqDiff, Nat.reduceAdd, Nat.reduceSub, Nat.reduceMul, Int.reduceToNat, Int.reduceLT, Int.reduceLE, Int.reduceEq, Int.reduceAdd, Int.reduceSub, Int.reduceNeg, Int.reduceBEq, Int.reduceBNe, Int.reduceMul, Int.natCast_add, Int.natCast_one, reduceCtorEq, reduceIte, b_isAgg, b_cells, t_isAgg, t_cells, @a_wrap ((k:Int) + 1) (by omega), liveF]
        rw [if_pos (show liveB (bs.getD k default) t = true from hc)]
      · refine weak_to [] [] rfl List.nodup_nil ?_ rfl
        simp only [vcRules, dRules, bRules, tyRules, xRules, pickV_true, pickV_false, implies_true, Nat.reduceLT, Nat.reduceLeDiff, Nat.reduceEqDiff, Nat.reduceAdd, Nat.reduceSub, Nat.reduceMul, Int.reduceToNat, Int.reduceLT, Int.reduceLE, Int.reduceEq, Int.reduceAdd, Int.reduceSub, Int.reduceNeg, Int.reduceBEq, Int.reduceBNe, Int.reduceMul, Int.natCast_add, Int.natCast_one, reduceCtorEq, reduceIte, b_isAgg, b_cells, t_isAgg, t_cells, @a_wrap ((k:Int) + 1) (by omega), liveF]
        rw [if_neg (by rw [show liveB (bs.getD k default) t = false from hc]; simp)]
    · simp only [vcRules, dRules, bRules, tyRules, xRules, pickV_true, pickV_false, implies_true, Nat.reduceLT, Nat.reduceLeDiff, Nat.reduceEqDiff, Nat.reduceAdd, Nat.reduceSub, Nat.reduceMul, Int.reduceToNat, Int.reduceLT, Int.reduceLE, Int.reduceEq, Int.reduceAdd, Int.reduceSub, Int.reduceNeg, Int.reduceBEq, Int.reduceBNe, Int.reduceMul, Int.natCast_add, Int.natCast_one, reduceCtorEq, reduceIte, b_isAgg, b_cells, t_isAgg, t_cells, (show ¬ (k:Int) < bs.length by omega)]
      have : k = bs.length := by omega
      subst this
      exact ⟨_, _, ret_d, rfl, rfl⟩

theorem c21 (bs : List BlockT) (t : Int) (hl : bs.length < 1000000) : Pure Try.prog 21 [.d (.sl (bs.map BlockT.toD)), .d (.int .i64 t)] (.d (.int .i64 (liveF bs t bs.length))) := by
  refine Pure.of2 ?_
  refine acalls_of Try.func21 rfl rfl (by simp [Try.ntmps21]) (evC_sound rfl _ _ _ _ ?_)
  simp only [Try.ntmps21, Try.results21, argEnv, List.length_nil]
  simp only [vcRules, dRules, bRules, tyRules, xRules, pickV_true, pickV_false, implies_true, Nat.reduceLT, Nat.reduceLeDiff, Nat.reduceEqDiff, Nat.reduceAdd, Nat.reduceSub, Nat.reduceMul, Int.reduceToNat, Int.reduceLT, Int.reduceLE, Int.reduceEq, Int.reduceAdd, Int.reduceSub, Int.reduceNeg, Int.reduceBEq, Int.reduceBNe, Int.reduceMul, Int.natCast_add, Int.natCast_one, reduceCtorEq, reduceIte, b_isAgg, b_cells, t_isAgg, t_cells]
  refine for_of bs.length (fun k => [(0, .d (.sl (bs.map BlockT.toD))), (1, .d (.int .i64 t)), (5, .d (.int .i64 (liveF bs t k))), (6, .d (.int .i64 k))]) (fun _ => []) (fun _ => True) trivial ?_ ?_
  · refine weak_to [] [] rfl List.nodup_nil ?_ rfl
    simp only [vcRules, dRules, bRules, tyRules, xRules, pickV_true, pickV_false, implies_true, Nat.reduceLT, Nat.reduceLeDiff, Nat.reduceEqDiff, Nat.reduceAdd, Nat.reduceSub, Nat.reduceMul, Int.reduceToNat, Int.reduceLT, Int.reduceLE, Int.reduceEq, Int.reduceAdd, Int.reduceSub, Int.reduceNeg, Int.reduceBEq, Int.reduceBNe, Int.reduceMul, Int.natCast_add, Int.natCast_one, reduceCtorEq, reduceIte, b_isAgg, b_cells, t_isAgg, t_cells, liveF, Int.cast_ofNat_Int]
  · intro k _ hk
    by_cases h : k < bs.length
    · simp only [vcRules, dRules, bRules, tyRules, xRules, pickV_true, pickV_false, implies_true, Nat.reduceLT, Nat.reduceLeDiff, Nat.reduceEqDiff, Nat.reduceAdd, Nat.reduceSub, Nat.reduceMul, Int.reduceToNat, Int.reduceLT, Int.reduceLE, Int.reduceEq, Int.reduceAdd, Int.reduceSub, Int.reduceNeg, Int.reduceBEq, Int.reduceBNe, Int.reduceMul, Int.natCast_add, Int.natCast_one, reduceCtorEq, reduceIte, b_isAgg, b_cells, t_isAgg, t_cells, (show (k:Int) < bs.length by omega), h, a_getD _ _ _ (show k < bs.length by omega)]
      repeat ((with_reducible refine And.intro ?_ ?_); (focus (first | omega | (intros; simp_all; done) | kernel_rfl)))
      refine ifC.mk (fun hc => ?_) (fun hc => ?_)
      · refine weak_to [] [] rfl List.nodup_nil ?_ rfl
        simp only [vcRules, dRules, bRules, tyRules, xRules, pickV_true, pickV_false, implies_true, Nat.reduceLT, Nat.reduceLeDiff, Nat.reduceEqDiff, Nat.reduceAdd, Nat.reduceSub, Nat.reduceMul, Int.reduceToNat, Int.reduceLT, Int.reduceLE, Int.reduceEq, Int.reduceAdd, Int.reduceSub, Int.reduceNeg, Int.reduceBEq, Int.reduceBNe, Int.reduceMul, Int.natCast_add, Int.natCast_one, reduceCtorEq, reduceIte, b_isAgg, b_cells, t_isAgg, t_cells, @a_wrap ((k:Int) + 1) (by omega), liveF]
        rw [if_pos (show liveB (bs.getD k default) t = true from hc), Int.min_comm]
      · refine weak_to [] [] rfl List.nodup_nil ?_ rfl
        simp only [vcRules, dRules, bRules, tyRules, xRules, pickV_true, pickV_false, implies_true, Nat.reduceLT, Nat.reduceLeDiff, Nat.reduceEqDiff, Nat.reduceAdd, Nat.reduceSub, Nat.reduceMul, Int.reduceToNat, Int.reduceLT, Int.reduceLE, Int.reduceEq, Int.reduceAdd, Int.reduceSub, Int.reduceNeg, Int.reduceBEq, Int.reduceBNe, Int.reduceMul, Int.natCast_add, Int.natCast_one, reduceCtorEq, reduceIte, b_isAgg, b_cells, t_isAgg, t_cells, @a_wrap ((k:Int) + 1) (by omega), liveF]
        rw [if_neg (by rw [show liveB (bs.getD k default) t = false from hc]; simp)]
    · simp only [vcRules, dRules, bRules, tyRules, xRules, pickV_true, pickV_false, implies_true, Nat.reduceLT, Nat.reduceLeDiff, Nat.reduceEqDiff, Nat.reduceAdd, Nat.reduceSub, Nat.reduceMul, Int.reduceToNat, Int.reduceLT, Int.reduceLE, Int.reduceEq, Int.reduceAdd, Int.reduceSub, Int.reduceNeg, Int.reduceBEq, Int.reduceBNe, Int.reduceMul, Int.natCast_add, Int.natCast_one, reduceCtorEq, reduceIte, b_isAgg, b_cells, t_isAgg, t_cells, (show ¬ (k:Int) < bs.length by omega)]
      have : k = bs.length := by omega
      subst this
      exact ⟨_, _, ret_d, rfl, rfl⟩


def peakF (bs : List BlockT) : Nat → Int × Int
  | 0 => (0, 0)
  | k + 1 => let p := peakF bs k; let b := bs.getD k default; let n := liveF bs b.lo bs.length
    if (decide (p.2 < n) || (n == p.2 && decide (b.lo < p.1))) = true then (b.lo, n) else p
def peakR (bs : List BlockT) : Nat → Int × Int
  | 0 => (0, 0)
  | k + 1 => let p := peakR bs k; let b := bs.getD k default; let n := liveF bs b.lo bs.length
    if decide (p.2 < n) = true then (b.lo, n) else p

theorem c18 (bs : List BlockT) (hl : bs.length < 1000000) : Pure Try.prog 18 [.d (.sl (bs.map BlockT.toD))] (.tup [.d (.int .i64 (peakF bs bs.length).1), .d (.int .i64 (peakF bs bs.length).2)]) := by
  refine Pure.of1t2 ?_
  refine acalls_of Try.func18 rfl rfl (by simp [Try.ntmps18]) (evC_sound rfl _ _ _ _ ?_)
  simp only [Try.ntmps18, Try.results18, argEnv, List.length_nil]
  simp only [vcRules, dRules, bRules, tyRules, xRules, pickV_true, pickV_false, implies_true, Nat.reduceLT, Nat.reduceLeDiff, Nat.reduceEqDiff, Nat.reduceAdd, Nat.reduceSub, Nat.reduceMul, Int.reduceToNat, Int.reduceLT, Int.reduceLE, Int.reduceEq, Int.reduceAdd, Int.reduceSub, Int.reduceNeg, Int.reduceBEq, Int.reduceBNe, Int.reduceMul, Int.natCast_add, Int.natCast_one, reduceCtorEq, reduceIte, b_isAgg, b_cells, t_isAgg, t_cells]
  refine for_of bs.length (fun k => [(0, .d (.sl (bs.map BlockT.toD))), (4, .d (.int .i64 (peakF bs k).1)), (5, .d (.int .i64 (peakF bs k).2)), (9, .d (.sl (bs.map BlockT.toD))), (10, .d (.int .i64 bs.length)), (11, .d (.int .i64 k))]) (fun _ => []) (fun _ => True) trivial ?_ ?_
  · refine weak_to [] [] rfl List.nodup_nil ?_ rfl
    simp only [vcRules, dRules, bRules, tyRules, xRules, pickV_true, pickV_false, implies_true, Nat.reduceLT, Nat.reduceLeDiff, Nat.reduceEqDiff, Nat.reduceAdd, Nat.reduceSub, Nat.reduceMul, Int.reduceToNat, Int.reduceLT, Int.reduceLE, Int.reduceEq, Int.reduceAdd, Int.reduceSub, Int.reduceNeg, Int.reduceBEq, Int.reduceBNe, Int.reduceMul, Int.natCast_add, Int.natCast_one, reduceCtorEq, reduceIte, b_isAgg, b_cells, t_isAgg, t_cells, peakF, Int.cast_ofNat_Int]
  · intro k _ hk
    by_cases h : k < bs.length
    · simp only [vcRules, dRules, bRules, tyRules, xRules, pickV_true, pickV_false, implies_true, Nat.reduceLT, Nat.reduceLeDiff, Nat.reduceEqDiff, Nat.reduceAdd, Nat.reduceSub, Nat.reduceMul, Int.reduceToNat, Int.reduceLT, Int.reduceLE, Int.reduceEq, Int.reduceAdd, Int.reduceSub, Int.reduceNeg, Int.reduceBEq, Int.reduceBNe, Int.reduceMul, Int.natCast_add, Int.natCast_one, reduceCtorEq, reduceIte, b_isAgg, b_cells, t_isAgg, t_cells, (show (k:Int) < bs.length by omega), h, a_getD _ _ _ (show k < bs.length by omega)]
      refine callF_pure (c20 _ _ hl) ?_
      simp only [vcRules, dRules, bRules, tyRules, xRules, pickV_true, pickV_false, implies_true, Nat.reduceLT, Nat.reduceLeDiff, Nat.reduceEqDiff, Nat.reduceAdd, Nat.reduceSub, Nat.reduceMul, Int.reduceToNat, Int.reduceLT, Int.reduceLE, Int.reduceEq, Int.reduceAdd, Int.reduceSub, Int.reduceNeg, Int.reduceBEq, Int.reduceBNe, Int.reduceMul, Int.natCast_add, Int.natCast_one, reduceCtorEq, reduceIte, b_isAgg, b_cells, t_isAgg, t_cells]
      repeat ((with_reducible refine And.intro ?_ ?_); (focus (first | omega | (intros; simp_all; done) | kernel_rfl)))
      refine ifC.mk (fun hc => ?_) (fun hc => ?_)
      · refine weak_to [] [] rfl List.nodup_nil ?_ rfl
        simp only [vcRules, dRules, bRules, tyRules, xRules, pickV_true, pickV_false, implies_true, Nat.reduceLT, Nat.reduceLeDiff, Nat.reduceEqDiff, Nat.reduceAdd, Nat.reduceSub, Nat.reduceMul, Int.reduceToNat, Int.reduceLT, Int.reduceLE, Int.reduceEq, Int.reduceAdd, Int.reduceSub, Int.reduceNeg, Int.reduceBEq, Int.reduceBNe, Int.reduceMul, Int.natCast_add, Int.natCast_one, reduceCtorEq, reduceIte, b_isAgg, b_cells, t_isAgg, t_cells, @a_wrap ((k:Int) + 1) (by omega)]
        simp only [peakF, if_pos hc]
      · refine weak_to [] [] rfl List.nodup_nil ?_ rfl
        simp only [vcRules, dRules, bRules, tyRules, xRules, pickV_true, pickV_false, implies_true, Nat.reduceLT, Nat.reduceLeDiff, Nat.reduceEqDiff, Nat.reduceAdd, Nat.reduceSub, Nat.reduceMul, Int.reduceToNat, Int.reduceLT, Int.reduceLE, Int.reduceEq, Int.reduceAdd, Int.reduceSub, Int.reduceNeg, Int.reduceBEq, Int.reduceBNe, Int.reduceMul, Int.natCast_add, Int.natCast_one, reduceCtorEq, reduceIte, b_isAgg, b_cells, t_isAgg, t_cells, @a_wrap ((k:Int) + 1) (by omega)]
        simp only [peakF, hc, Bool.false_eq_true, if_false]
    · simp only [vcRules, dRules, bRules, tyRules, xRules, pickV_true, pickV_false, implies_true, Nat.reduceLT, Nat.reduceLeDiff, Nat.reduceEqDiff, Nat.reduceAdd, Nat.reduceSub, Nat.reduceMul, Int.reduceToNat, Int.reduceLT, Int.reduceLE, Int.reduceEq, Int.reduceAdd, Int.reduceSub, Int.reduceNeg, Int.reduceBEq, Int.reduceBNe, Int.reduceMul, Int.natCast_add, Int.natCast_one, reduceCtorEq, reduceIte, b_isAgg, b_cells, t_isAgg, t_cells, (show ¬ (k:Int) < bs.length by omega)]
      have : k = bs.length := by omega
      subst this
      exact ⟨_, _, ret_t2, rfl, rfl⟩

theorem c19 (bs : List BlockT) (hl : bs.length < 1000000) : Pure Try.prog 19 [.d (.sl (bs.map BlockT.toD))] (.tup [.d (.int .i64 (peakR bs bs.length).1), .d (.int .i64 (peakR bs bs.length).2)]) := by
  refine Pure.of1t2 ?_
  refine acalls_of Try.func19 rfl rfl (by simp [Try.ntmps19]) (evC_sound rfl _ _ _ _ ?_)
  simp only [Try.ntmps19, Try.results19, argEnv, List.length_nil]
  simp only [vcRules, dRules, bRules, tyRules, xRules, pickV_true, pickV_false, implies_true, Nat.reduceLT, Nat.reduceLeDiff, Nat.reduceEqDiff, Nat.reduceAdd, Nat.reduceSub, Nat.reduceMul, Int.reduceToNat, Int.reduceLT, Int.reduceLE, Int.reduceEq, Int.reduceAdd, Int.reduceSub, Int.reduceNeg, Int.reduceBEq, Int.reduceBNe, Int.reduceMul, Int.natCast_add, Int.natCast_one, reduceCtorEq, reduceIte, b_isAgg, b_cells, t_isAgg, t_cells]
  refine for_of bs.length (fun k => [(0, .d (.sl (bs.map BlockT.toD))), (4, .d (.int .i64 (peakR bs k).1)), (5, .d (.int .i64 (peakR bs k).2)), (6, .d (.int .i64 k))]) (fun _ => []) (fun _ => True) trivial ?_ ?_
  · refine weak_to [] [] rfl List.nodup_nil ?_ rfl
    simp only [vcRules, dRules, bRules, tyRules, xRules, pickV_true, pickV_false, implies_true, Nat.reduceLT, Nat.reduceLeDiff, Nat.reduceEqDiff, Nat.reduceAdd, Nat.reduceSub, Nat.reduceMul, Int.reduceToNat, Int.reduceLT, Int.reduceLE, Int.reduceEq, Int.reduceAdd, Int.reduceSub, Int.reduceNeg, Int.reduceBEq, Int.reduceBNe, Int.reduceMul, Int.natCast_add, Int.natCast_one, reduceCtorEq, reduceIte, b_isAgg, b_cells, t_isAgg, t_cells, peakR, Int.cast_ofNat_Int]
  · intro k _ hk
    by_cases h : k < bs.length
    · simp only [vcRules, dRules, bRules, tyRules, xRules, pickV_true, pickV_false, implies_true, Nat.reduceLT, Nat.reduceLeDiff, Nat.reduceEqDiff, Nat.reduceAdd, Nat.reduceSub, Nat.reduceMul, Int.reduceToNat, Int.reduceLT, Int.reduceLE, Int.reduceEq, Int.reduceAdd, Int.reduceSub, Int.reduceNeg, Int.reduceBEq, Int.reduceBNe, Int.reduceMul, Int.natCast_add, Int.natCast_one, reduceCtorEq, reduceIte, b_isAgg, b_cells, t_isAgg, t_cells, (show (k:Int) < bs.length by omega), h, a_getD _ _ _ (show k < bs.length by omega)]
      refine callF_pure (c21 _ _ hl) ?_
      simp only [vcRules, dRules, bRules, tyRules, xRules, pickV_true, pickV_false, implies_true, Nat.reduceLT, Nat.reduceLeDiff, Nat.reduceEqDiff, Nat.reduceAdd, Nat.reduceSub, Nat.reduceMul, Int.reduceToNat, Int.reduceLT, Int.reduceLE, Int.reduceEq, Int.reduceAdd, Int.reduceSub, Int.reduceNeg, Int.reduceBEq, Int.reduceBNe, Int.reduceMul, Int.natCast_add, Int.natCast_one, reduceCtorEq, reduceIte, b_isAgg, b_cells, t_isAgg, t_cells]
      refine ifC.mk (fun hc => ?_) (fun hc => ?_)
      · (try simp only [vcRules, dRules, bRules, tyRules, xRules, pickV_true, pickV_false, implies_true, Nat.reduceLT, Nat.reduceLeDiff, Nat.reduceEqDiff, Nat.reduceAdd, Nat.reduceSub, Nat.reduceMul, Int.reduceToNat, Int.reduceLT, Int.reduceLE, Int.reduceEq, Int.reduceAdd, Int.reduceSub, Int.reduceNeg, Int.reduceBEq, Int.reduceBNe, Int.reduceMul, Int.natCast_add, Int.natCast_one, reduceCtorEq, reduceIte, b_isAgg, b_cells, t_isAgg, t_cells, (show (k:Int) < bs.length by omega), h, a_getD _ _ _ (show k < bs.length by omega)])
        refine weak_to [] [] rfl List.nodup_nil ?_ rfl
        simp only [vcRules, dRules, bRules, tyRules, xRules, pickV_true, pickV_false, implies_true, Nat.reduceLT, Nat.reduceLeDiff, Nat.reduceEqDiff, Nat.reduceAdd, Nat.reduceSub, Nat.reduceMul, Int.reduceToNat, Int.reduceLT, Int.reduceLE, Int.reduceEq, Int.reduceAdd, Int.reduceSub, Int.reduceNeg, Int.reduceBEq, Int.reduceBNe, Int.reduceMul, Int.natCast_add, Int.natCast_one, reduceCtorEq, reduceIte, b_isAgg, b_cells, t_isAgg, t_cells, @a_wrap ((k:Int) + 1) (by omega)]
        simp only [peakR, if_pos hc]
      · refine weak_to [] [] rfl List.nodup_nil ?_ rfl
        simp only [vcRules, dRules, bRules, tyRules, xRules, pickV_true, pickV_false, implies_true, Nat.reduceLT, Nat.reduceLeDiff, Nat.reduceEqDiff, Nat.reduceAdd, Nat.reduceSub, Nat.reduceMul, Int.reduceToNat, Int.reduceLT, Int.reduceLE, Int.reduceEq, Int.reduceAdd, Int.reduceSub, Int.reduceNeg, Int.reduceBEq, Int.reduceBNe, Int.reduceMul, Int.natCast_add, Int.natCast_one, reduceCtorEq, reduceIte, b_isAgg, b_cells, t_isAgg, t_cells, @a_wrap ((k:Int) + 1) (by omega)]
        simp only [peakR, hc, Bool.false_eq_true, if_false]
    · simp only [vcRules, dRules, bRules, tyRules, xRules, pickV_true, pickV_false, implies_true, Nat.reduceLT, Nat.reduceLeDiff, Nat.reduceEqDiff, Nat.reduceAdd, Nat.reduceSub, Nat.reduceMul, Int.reduceToNat, Int.reduceLT, Int.reduceLE, Int.reduceEq, Int.reduceAdd, Int.reduceSub, Int.reduceNeg, Int.reduceBEq, Int.reduceBNe, Int.reduceMul, Int.natCast_add, Int.natCast_one, reduceCtorEq, reduceIte, b_isAgg, b_cells, t_isAgg, t_cells, (show ¬ (k:Int) < bs.length by omega)]
      have : k = bs.length := by omega
      subst this
      exact ⟨_, _, ret_t2, rfl, rfl⟩

def smallB (os : List TimedT) : Bool := decide (os.length ≤ 200) && os.all fun o => decide (o.stack.length ≤ 60)
def fewB (bs : List BlockT) : Bool := decide (bs.length ≤ 200) && bs.all fun o => decide (o.stack.length ≤ 60)
theorem c8 (os : List TimedT) : Pure Try.prog 8 [.d (.sl (os.map TimedT.toD))] (.d (.bool (smallB os))) := by
  refine Pure.of1 ?_
  refine acalls_of Try.func8 rfl rfl (by simp [Try.ntmps8]) (evC_sound rfl _ _ _ _ ?_)
  simp only [Try.ntmps8, Try.results8, argEnv, List.length_nil]
  simp only [vcRules, dRules, bRules, tyRules, xRules, pickV_true, pickV_false, implies_true, Nat.reduceLT, Nat.reduceLeDiff, Nat.reduceEqDiff, Nat.reduceAdd, Nat.reduceSub, Nat.reduceMul, Int.reduceToNat, Int.reduceLT, Int.reduceLE, Int.reduceEq, Int.reduceAdd, Int.reduceSub, Int.reduceNeg, Int.reduceBEq, Int.reduceBNe, Int.reduceMul, Int.natCast_add, Int.natCast_one, reduceCtorEq, reduceIte, b_isAgg, b_cells, t_isAgg, t_cells]
  refine ifC.mk (fun h => ?_) (fun h => ?_)
  · refine ⟨_, _, ret_d, ?_, rfl⟩
    have : smallB os = false := by unfold smallB; simp at h ⊢; omega
    rw [this]
  · have h : os.length ≤ 200 := by simp at h; omega
    have hb : smallB os = os.all fun o => decide (o.stack.length ≤ 60) := by simp [smallB, h]
    refine for_of os.length (fun k => [(0, .d (.sl (os.map TimedT.toD))), (3, .d (.int .i64 k))]) (fun _ => []) (fun k => ((os.take k).all fun o => decide (o.stack.length ≤ 60)) = true) rfl ?_ ?_
    · refine weak_to [] [] rfl List.nodup_nil ?_ rfl
      simp only [vcRules, dRules, bRules, tyRules, xRules, pickV_true, pickV_false, implies_true, Nat.reduceLT, Nat.reduceLeDiff, Nat.reduceEqDiff, Nat.reduceAdd, Nat.reduceSub, Nat.reduceMul, Int.reduceToNat, Int.reduceLT, Int.reduceLE, Int.reduceEq, Int.reduceAdd, Int.reduceSub, Int.reduceNeg, Int.reduceBEq, Int.reduceBNe, Int.reduceMul, Int.natCast_add, Int.natCast_one, reduceCtorEq, reduceIte, b_isAgg, b_cells, t_isAgg, t_cells, Int.cast_ofNat_Int]
    · intro k hi hk
      by_cases h2 : k < os.length
      · have hs := all_take (fun o : TimedT => decide (o.stack.length ≤ 60)) os k h2
        simp only [vcRules, dRules, bRules, tyRules, xRules, pickV_true, pickV_false, implies_true, Nat.reduceLT, Nat.reduceLeDiff, Nat.reduceEqDiff, Nat.reduceAdd, Nat.reduceSub, Nat.reduceMul, Int.reduceToNat, Int.reduceLT, Int.reduceLE, Int.reduceEq, Int.reduceAdd, Int.reduceSub, Int.reduceNeg, Int.reduceBEq, Int.reduceBNe, Int.reduceMul, Int.natCast_add, Int.natCast_one, reduceCtorEq, reduceIte, b_isAgg, b_cells, t_isAgg, t_cells, (show (k:Int) < os.length by omega), h2, a_getD _ _ _ (show k < os.length by omega)]
        refine ifC.mk (fun hc => ?_) (fun hc => ?_)
        · refine ⟨_, _, ret_d, ?_, rfl⟩
          rw [hb, all_at _ os k h2 (by simp at hc ⊢; omega)]
        · refine ⟨by rw [hs, hi]; simp at hc ⊢; omega, ?_⟩
          refine weak_to [] [] rfl List.nodup_nil ?_ rfl
          simp only [vcRules, dRules, bRules, tyRules, xRules, pickV_true, pickV_false, implies_true, Nat.reduceLT, Nat.reduceLeDiff, Nat.reduceEqDiff, Nat.reduceAdd, Nat.reduceSub, Nat.reduceMul, Int.reduceToNat, Int.reduceLT, Int.reduceLE, Int.reduceEq, Int.reduceAdd, Int.reduceSub, Int.reduceNeg, Int.reduceBEq, Int.reduceBNe, Int.reduceMul, Int.natCast_add, Int.natCast_one, reduceCtorEq, reduceIte, b_isAgg, b_cells, t_isAgg, t_cells, @a_wrap ((k:Int) + 1) (by omega)]
      · simp only [vcRules, dRules, bRules, tyRules, xRules, pickV_true, pickV_false, implies_true, Nat.reduceLT, Nat.reduceLeDiff, Nat.reduceEqDiff, Nat.reduceAdd, Nat.reduceSub, Nat.reduceMul, Int.reduceToNat, Int.reduceLT, Int.reduceLE, Int.reduceEq, Int.reduceAdd, Int.reduceSub, Int.reduceNeg, Int.reduceBEq, Int.reduceBNe, Int.reduceMul, Int.natCast_add, Int.natCast_one, reduceCtorEq, reduceIte, b_isAgg, b_cells, t_isAgg, t_cells, (show ¬ (k:Int) < os.length by omega)]
        refine ⟨_, _, ret_d, ?_, rfl⟩
        have : k = os.length := by omega
        rw [this, List.take_length] at hi
        rw [hb, hi]
theorem c13 (os : List BlockT) : Pure Try.prog 13 [.d (.sl (os.map BlockT.toD))] (.d (.bool (fewB os))) := by
  refine Pure.of1 ?_
  refine acalls_of Try.func13 rfl rfl (by simp [Try.ntmps13]) (evC_sound rfl _ _ _ _ ?_)
  simp only [Try.ntmps13, Try.results13, argEnv, List.length_nil]
  simp only [vcRules, dRules, bRules, tyRules, xRules, pickV_true, pickV_false, implies_true, Nat.reduceLT, Nat.reduceLeDiff, Nat.reduceEqDiff, Nat.reduceAdd, Nat.reduceSub, Nat.reduceMul, Int.reduceToNat, Int.reduceLT, Int.reduceLE, Int.reduceEq, Int.reduceAdd, Int.reduceSub, Int.reduceNeg, Int.reduceBEq, Int.reduceBNe, Int.reduceMul, Int.natCast_add, Int.natCast_one, reduceCtorEq, reduceIte, b_isAgg, b_cells, t_isAgg, t_cells]
  refine ifC.mk (fun h => ?_) (fun h => ?_)
  · refine ⟨_, _, ret_d, ?_, rfl⟩
    have : fewB os = false := by unfold fewB; simp at h ⊢; omega
    rw [this]
  · have h : os.length ≤ 200 := by simp at h; omega
    have hb : fewB os = os.all fun o => decide (o.stack.length ≤ 60) := by simp [fewB, h]
    refine for_of os.length (fun k => [(0, .d (.sl (os.map BlockT.toD))), (3, .d (.int .i64 k))]) (fun _ => []) (fun k => ((os.take k).all fun o => decide (o.stack.length ≤ 60)) = true) rfl ?_ ?_
    · refine weak_to [] [] rfl List.nodup_nil ?_ rfl
      simp only [vcRules, dRules, bRules, tyRules, xRules, pickV_true, pickV_false, implies_true, Nat.reduceLT, Nat.reduceLeDiff, Nat.reduceEqDiff, Nat.reduceAdd, Nat.reduceSub, Nat.reduceMul, Int.reduceToNat, Int.reduceLT, Int.reduceLE, Int.reduceEq, Int.reduceAdd, Int.reduceSub, Int.reduceNeg, Int.reduceBEq, Int.reduceBNe, Int.reduceMul, Int.natCast_add, Int.natCast_one, reduceCtorEq, reduceIte, b_isAgg, b_cells, t_isAgg, t_cells, Int.cast_ofNat_Int]
    · intro k hi hk
      by_cases h2 : k < os.length
      · have hs := all_take (fun o : BlockT => decide (o.stack.length ≤ 60)) os k h2
        simp only [vcRules, dRules, bRules, tyRules, xRules, pickV_true, pickV_false, implies_true, Nat.reduceLT, Nat.reduceLeDiff, Nat.reduceEqDiff, Nat.reduceAdd, Nat.reduceSub, Nat.reduceMul, Int.reduceToNat, Int.reduceLT, Int.reduceLE, Int.reduceEq, Int.reduceAdd, Int.reduceSub, Int.reduceNeg, Int.reduceBEq, Int.reduceBNe, Int.reduceMul, Int.natCast_add, Int.natCast_one, reduceCtorEq, reduceIte, b_isAgg, b_cells, t_isAgg, t_cells, (show (k:Int) < os.length by omega), h2, a_getD _ _ _ (show k < os.length by omega)]
        refine ifC.mk (fun hc => ?_) (fun hc => ?_)
        · refine ⟨_, _, ret_d, ?_, rfl⟩
          rw [hb, all_at _ os k h2 (by simp at hc ⊢; omega)]
        · refine ⟨by rw [hs, hi]; simp at hc ⊢; omega, ?_⟩
          refine weak_to [] [] rfl List.nodup_nil ?_ rfl
          simp only [vcRules, dRules, bRules, tyRules, xRules, pickV_true, pickV_false, implies_true, Nat.reduceLT, Nat.reduceLeDiff, Nat.reduceEqDiff, Nat.reduceAdd, Nat.reduceSub, Nat.reduceMul, Int.reduceToNat, Int.reduceLT, Int.reduceLE, Int.reduceEq, Int.reduceAdd, Int.reduceSub, Int.reduceNeg, Int.reduceBEq, Int.reduceBNe, Int.reduceMul, Int.natCast_add, Int.natCast_one, reduceCtorEq, reduceIte, b_isAgg, b_cells, t_isAgg, t_cells, @a_wrap ((k:Int) + 1) (by omega)]
      · simp only [vcRules, dRules, bRules, tyRules, xRules, pickV_true, pickV_false, implies_true, Nat.reduceLT, Nat.reduceLeDiff, Nat.reduceEqDiff, Nat.reduceAdd, Nat.reduceSub, Nat.reduceMul, Int.reduceToNat, Int.reduceLT, Int.reduceLE, Int.reduceEq, Int.reduceAdd, Int.reduceSub, Int.reduceNeg, Int.reduceBEq, Int.reduceBNe, Int.reduceMul, Int.natCast_add, Int.natCast_one, reduceCtorEq, reduceIte, b_isAgg, b_cells, t_isAgg, t_cells, (show ¬ (k:Int) < os.length by omega)]
        refine ⟨_, _, ret_d, ?_, rfl⟩
        have : k = os.length := by omega
        rw [this, List.take_length] at hi
        rw [hb, hi]

def sameBlockB (a b : BlockT) : Bool := a.id == b.id && a.thread == b.thread && a.size == b.size && (a.lo == b.lo && a.hi == b.hi) && a.live == b.live && a.stack == b.stack
theorem c26 (a b : BlockT) (ha : a.stack.length < 1000000) (hb : b.stack.length < 1000000) : Pure Try.prog 26 [.d a.toD, .d b.toD] (.d (.bool (sameBlockB a b))) := by
  refine Pure.of2 ?_
  refine acalls_of Try.func26 rfl rfl (by simp [Try.ntmps26]) (evC_sound rfl _ _ _ _ ?_)
  simp only [Try.ntmps26, Try.results26, argEnv, List.length_nil]
  simp only [vcRules, dRules, bRules, tyRules, xRules, pickV_true, pickV_false, implies_true, Nat.reduceLT, Nat.reduceLeDiff, Nat.reduceEqDiff, Nat.reduceAdd, Nat.reduceSub, Nat.reduceMul, Int.reduceToNat, Int.reduceLT, Int.reduceLE, Int.reduceEq, Int.reduceAdd, Int.reduceSub, Int.reduceNeg, Int.reduceBEq, Int.reduceBNe, Int.reduceMul, Int.natCast_add, Int.natCast_one, reduceCtorEq, reduceIte, b_isAgg, b_cells, t_isAgg, t_cells]
  repeat ((with_reducible refine And.intro ?_ ?_); (focus (first | omega | (intros; simp_all; done) | kernel_rfl)))
  refine callG_pure (fun _ => c42 _ _ ha hb) ?_
  simp only [vcRules, dRules, bRules, tyRules, xRules, pickV_true, pickV_false, implies_true, Nat.reduceLT, Nat.reduceLeDiff, Nat.reduceEqDiff, Nat.reduceAdd, Nat.reduceSub, Nat.reduceMul, Int.reduceToNat, Int.reduceLT, Int.reduceLE, Int.reduceEq, Int.reduceAdd, Int.reduceSub, Int.reduceNeg, Int.reduceBEq, Int.reduceBNe, Int.reduceMul, Int.natCast_add, Int.natCast_one, reduceCtorEq, reduceIte, b_isAgg, b_cells, t_isAgg, t_cells]
  refine ⟨_, _, ret_d, ?_, rfl⟩
  simp only [sameBlockB]

def sameB (a b : List BlockT) : Bool := decide (a.length = b.length) && (List.range a.length).all fun i => sameBlockB (a.getD i default) (b.getD i default)
theorem c10 (a b : List BlockT) (ha : ∀ x ∈ a, x.stack.length < 1000000) (hb : ∀ x ∈ b, x.stack.length < 1000000) (hla : a.length < 1000000) (hlb : b.length < 1000000) : Pure Try.prog 10 [.d (.sl (a.map BlockT.toD)), .d (.sl (b.map BlockT.toD))] (.d (.bool (sameB a b))) := by
  refine Pure.of2 ?_
  refine acalls_of Try.func10 rfl rfl (by simp [Try.ntmps10]) (evC_sound rfl _ _ _ _ ?_)
  simp only [Try.ntmps10, Try.results10, argEnv, List.length_nil]
  simp only [vcRules, dRules, bRules, tyRules, xRules, pickV_true, pickV_false, implies_true, Nat.reduceLT, Nat.reduceLeDiff, Nat.reduceEqDiff, Nat.reduceAdd, Nat.reduceSub, Nat.reduceMul, Int.reduceToNat, Int.reduceLT, Int.reduceLE, Int.reduceEq, Int.reduceAdd, Int.reduceSub, Int.reduceNeg, Int.reduceBEq, Int.reduceBNe, Int.reduceMul, Int.natCast_add, Int.natCast_one, reduceCtorEq, reduceIte, b_isAgg, b_cells, t_isAgg, t_cells]
  refine ifC.mk (fun h => ?_) (fun h => ?_)
  · refine ⟨_, _, ret_d, ?_, rfl⟩
    have : sameB a b = false := by unfold sameB; simp at h ⊢; omega
    rw [this]
  · have h : a.length = b.length := by simp at h; omega
    have he : sameB a b = (List.range a.length).all fun i => sameBlockB (a.getD i default) (b.getD i default) := by simp [sameB, h]
    refine for_of a.length (fun k => [(0, .d (.sl (a.map BlockT.toD))), (1, .d (.sl (b.map BlockT.toD))), (5, .d (.int .i64 k))]) (fun _ => []) (fun k => ((List.range k).all fun i => sameBlockB (a.getD i default) (b.getD i default)) = true) rfl ?_ ?_
    · refine weak_to [] [] rfl List.nodup_nil ?_ rfl
      simp only [vcRules, dRules, bRules, tyRules, xRules, pickV_true, pickV_false, implies_true, Nat.reduceLT, Nat.reduceLeDiff, Nat.reduceEqDiff, Nat.reduceAdd, Nat.reduceSub, Nat.reduceMul, Int.reduceToNat, Int.reduceLT, Int.reduceLE, Int.reduceEq, Int.reduceAdd, Int.reduceSub, Int.reduceNeg, Int.reduceBEq, Int.reduceBNe, Int.reduceMul, Int.natCast_add, Int.natCast_one, reduceCtorEq, reduceIte, b_isAgg, b_cells, t_isAgg, t_cells, Int.cast_ofNat_Int]
    · intro k hi hk
      by_cases h2 : k < a.length
      · have h3 : k < b.length := by omega
        have hs : ((List.range (k + 1)).all fun i => sameBlockB (a.getD i default) (b.getD i default)) = (((List.range k).all fun i => sameBlockB (a.getD i default) (b.getD i default)) && sameBlockB (a.getD k default) (b.getD k default)) := by
          rw [List.range_succ, List.all_append]; simp only [List.all_cons, List.all_nil, Bool.and_true]
        simp only [vcRules, dRules, bRules, tyRules, xRules, pickV_true, pickV_false, implies_true, Nat.reduceLT, Nat.reduceLeDiff, Nat.reduceEqDiff, Nat.reduceAdd, Nat.reduceSub, Nat.reduceMul, Int.reduceToNat, Int.reduceLT, Int.reduceLE, Int.reduceEq, Int.reduceAdd, Int.reduceSub, Int.reduceNeg, Int.reduceBEq, Int.reduceBNe, Int.reduceMul, Int.natCast_add, Int.natCast_one, reduceCtorEq, reduceIte, b_isAgg, b_cells, t_isAgg, t_cells, (show (k:Int) < a.length by omega), (show (k:Int) < b.length by omega), h2, h3, a_getD _ _ _ (show k < a.length by omega), a_getD _ _ _ (show k < b.length by omega)]
        repeat ((with_reducible refine And.intro ?_ ?_); (focus (first | omega | (intros; simp_all; done) | kernel_rfl)))
        refine callF_pure (c26 _ _ (ha _ (mem_getD h2)) (hb _ (mem_getD h3))) ?_
        simp only [vcRules, dRules, bRules, tyRules, xRules, pickV_true, pickV_false, implies_true, Nat.reduceLT, Nat.reduceLeDiff, Nat.reduceEqDiff, Nat.reduceAdd, Nat.reduceSub, Nat.reduceMul, Int.reduceToNat, Int.reduceLT, Int.reduceLE, Int.reduceEq, Int.reduceAdd, Int.reduceSub, Int.reduceNeg, Int.reduceBEq, Int.reduceBNe, Int.reduceMul, Int.natCast_add, Int.natCast_one, reduceCtorEq, reduceIte, b_isAgg, b_cells, t_isAgg, t_cells]
        refine ifC.mk (fun hc => ?_) (fun hc => ?_)
        · refine ⟨_, _, ret_d, ?_, rfl⟩
          rw [he, show ((List.range a.length).all fun i => sameBlockB (a.getD i default) (b.getD i default)) = false from by rw [List.all_eq_false]; exact ⟨k, List.mem_range.2 h2, by simpa using hc⟩]
        · refine ⟨by rw [hs, hi]; simpa using hc, ?_⟩
          refine weak_to [] [] rfl List.nodup_nil ?_ rfl
          simp only [vcRules, dRules, bRules, tyRules, xRules, pickV_true, pickV_false, implies_true, Nat.reduceLT, Nat.reduceLeDiff, Nat.reduceEqDiff, Nat.reduceAdd, Nat.reduceSub, Nat.reduceMul, Int.reduceToNat, Int.reduceLT, Int.reduceLE, Int.reduceEq, Int.reduceAdd, Int.reduceSub, Int.reduceNeg, Int.reduceBEq, Int.reduceBNe, Int.reduceMul, Int.natCast_add, Int.natCast_one, reduceCtorEq, reduceIte, b_isAgg, b_cells, t_isAgg, t_cells, @a_wrap ((k:Int) + 1) (by omega)]
      · simp only [vcRules, dRules, bRules, tyRules, xRules, pickV_true, pickV_false, implies_true, Nat.reduceLT, Nat.reduceLeDiff, Nat.reduceEqDiff, Nat.reduceAdd, Nat.reduceSub, Nat.reduceMul, Int.reduceToNat, Int.reduceLT, Int.reduceLE, Int.reduceEq, Int.reduceAdd, Int.reduceSub, Int.reduceNeg, Int.reduceBEq, Int.reduceBNe, Int.reduceMul, Int.natCast_add, Int.natCast_one, reduceCtorEq, reduceIte, b_isAgg, b_cells, t_isAgg, t_cells, (show ¬ (k:Int) < a.length by omega)]
        refine ⟨_, _, ret_d, ?_, rfl⟩
        have : k = a.length := by omega
        rw [he, ← this, hi]

/-- what a block has to be -/
def badB (b : BlockT) : Bool := decide (b.id < 0) || decide (1000000000000000 < b.id) || decide (b.thread < 0) || decide (1000000000000000 < b.thread) || decide (b.size < 1) || decide (1000000000000 < b.size) || !(decide (0 ≤ b.lo) && decide (b.lo < b.hi) && decide (b.hi ≤ 1000000000000))
def clashB (a b : BlockT) : Bool := a.id == b.id && decide (a.lo < b.hi) && decide (b.lo < a.hi)
def checkAt (l : List BlockT) (k : Nat) : Int :=
  if badB (l.getD k default) = true then 2 else if framesF (l.getD k default).stack ≠ 0 then framesF (l.getD k default).stack
  else if (decide (0 < k) && decide ((l.getD k default).lo < (l.getD (k - 1) default).lo)) = true then 11
  else if (l.take k).any (fun a => clashB a (l.getD k default)) = true then 4 else 0
def checkF (l : List BlockT) : Int := firstErr (checkAt l) l.length

theorem checkAt_bad {l : List BlockT} {k : Nat} (h : badB (l.getD k default) = true) : checkAt l k = 2 := by rw [checkAt, if_pos h]
theorem checkAt_fr {l : List BlockT} {k : Nat} (h : badB (l.getD k default) = false) (h2 : framesF (l.getD k default).stack ≠ 0) : checkAt l k = framesF (l.getD k default).stack := by rw [checkAt, if_neg (by rw [h]; simp), if_pos h2]
theorem checkAt_ord {l : List BlockT} {k : Nat} (h : badB (l.getD k default) = false) (h2 : framesF (l.getD k default).stack = 0) (h3 : (decide (0 < k) && decide ((l.getD k default).lo < (l.getD (k - 1) default).lo)) = true) : checkAt l k = 11 := by
  rw [checkAt, if_neg (by rw [h]; simp), if_neg (by rw [h2]; simp), if_pos h3]
theorem checkAt_cl {l : List BlockT} {k : Nat} (h : badB (l.getD k default) = false) (h2 : framesF (l.getD k default).stack = 0) (h3 : (decide (0 < k) && decide ((l.getD k default).lo < (l.getD (k - 1) default).lo)) = false) :
    checkAt l k = if (l.take k).any (fun a => clashB a (l.getD k default)) = true then 4 else 0 := by
  rw [checkAt, if_neg (by rw [h]; simp), if_neg (by rw [h2]; simp), if_neg (by rw [h3]; simp)]

theorem c14 (l : List BlockT) (hs : ∀ x ∈ l, x.stack.length < 1000000) (hl : l.length < 1000000) : Pure Try.prog 14 [.d (.sl (l.map BlockT.toD))] (.d (.int .i64 (checkF l))) := by
  refine Pure.of1 ?_
  refine acalls_of Try.func14 rfl rfl (by simp [Try.ntmps14]) (evC_sound rfl _ _ _ _ ?_)
  simp only [Try.ntmps14, Try.results14, argEnv, List.length_nil]
  simp only [vcRules, dRules, bRules, tyRules, xRules, pickV_true, pickV_false, implies_true, Nat.reduceLT, Nat.reduceLeDiff, Nat.reduceEqDiff, Nat.reduceAdd, Nat.reduceSub, Nat.reduceMul, Int.reduceToNat, Int.reduceLT, Int.reduceLE, Int.reduceEq, Int.reduceAdd, Int.reduceSub, Int.reduceNeg, Int.reduceBEq, Int.reduceBNe, Int.reduceMul, Int.natCast_add, Int.natCast_one, reduceCtorEq, reduceIte, b_isAgg, b_cells, t_isAgg, t_cells]
  refine for_of l.length (fun k => [(0, .d (.sl (l.map BlockT.toD))), (8, .d (.sl (l.map BlockT.toD))), (9, .d (.int .i64 l.length)), (10, .d (.int .i64 k))]) (fun _ => []) (fun k => firstErr (checkAt l) k = 0) rfl ?_ ?_
  · refine weak_to [] [] rfl List.nodup_nil ?_ rfl
    simp only [vcRules, dRules, bRules, tyRules, xRules, pickV_true, pickV_false, implies_true, Nat.reduceLT, Nat.reduceLeDiff, Nat.reduceEqDiff, Nat.reduceAdd, Nat.reduceSub, Nat.reduceMul, Int.reduceToNat, Int.reduceLT, Int.reduceLE, Int.reduceEq, Int.reduceAdd, Int.reduceSub, Int.reduceNeg, Int.reduceBEq, Int.reduceBNe, Int.reduceMul, Int.natCast_add, Int.natCast_one, reduceCtorEq, reduceIte, b_isAgg, b_cells, t_isAgg, t_cells, Int.cast_ofNat_Int]
  · intro k hi hk
    by_cases h : k < l.length
    · have hb : ∀ e, checkAt l k = e → e ≠ 0 → checkF l = e := fun e h1 h2 => by rw [checkF, firstErr_at hi (by rw [h1]; exact h2) h, h1]
      obtain ⟨b, eb⟩ : ∃ b, b = l.getD k default := ⟨_, rfl⟩
      have lt : (l.take k).length = k := by simp; omega
      simp only [vcRules, dRules, bRules, tyRules, xRules, pickV_true, pickV_false, implies_true, Nat.reduceLT, Nat.reduceLeDiff, Nat.reduceEqDiff, Nat.reduceAdd, Nat.reduceSub, Nat.reduceMul, Int.reduceToNat, Int.reduceLT, Int.reduceLE, Int.reduceEq, Int.reduceAdd, Int.reduceSub, Int.reduceNeg, Int.reduceBEq, Int.reduceBNe, Int.reduceMul, Int.natCast_add, Int.natCast_one, reduceCtorEq, reduceIte, b_isAgg, b_cells, t_isAgg, t_cells, (show (k:Int) < l.length by omega), h, a_getD _ _ _ (show k < l.length by omega), ← eb]
      repeat ((with_reducible refine And.intro ?_ ?_); (focus (first | omega | (intros; simp_all; done) | kernel_rfl)))
      refine callG_pure (fun _ => c36 _ _) ?_
      simp only [vcRules, dRules, bRules, tyRules, xRules, pickV_true, pickV_false, implies_true, Nat.reduceLT, Nat.reduceLeDiff, Nat.reduceEqDiff, Nat.reduceAdd, Nat.reduceSub, Nat.reduceMul, Int.reduceToNat, Int.reduceLT, Int.reduceLE, Int.reduceEq, Int.reduceAdd, Int.reduceSub, Int.reduceNeg, Int.reduceBEq, Int.reduceBNe, Int.reduceMul, Int.natCast_add, Int.natCast_one, reduceCtorEq, reduceIte, b_isAgg, b_cells, t_isAgg, t_cells]
      refine ifC.mk (fun h1 => ?_) (fun h1 => ?_)
      · refine ⟨_, _, ret_d, ?_, rfl⟩
        rw [hb 2 (checkAt_bad (by rw [← eb]; exact h1)) (by omega)]
      · have hb1 : badB (l.getD k default) = false := by rw [← eb]; exact h1
        refine callF_pure (c37 _ (by rw [eb]; exact hs _ (mem_getD h))) ?_
        simp only [vcRules, dRules, bRules, tyRules, xRules, pickV_true, pickV_false, implies_true, Nat.reduceLT, Nat.reduceLeDiff, Nat.reduceEqDiff, Nat.reduceAdd, Nat.reduceSub, Nat.reduceMul, Int.reduceToNat, Int.reduceLT, Int.reduceLE, Int.reduceEq, Int.reduceAdd, Int.reduceSub, Int.reduceNeg, Int.reduceBEq, Int.reduceBNe, Int.reduceMul, Int.natCast_add, Int.natCast_one, reduceCtorEq, reduceIte, b_isAgg, b_cells, t_isAgg, t_cells]
        refine ifC.mk (fun h2 => ?_) (fun h2 => ?_)
        · have h2 : framesF (l.getD k default).stack ≠ 0 := by rw [← eb]; simpa using h2
          refine ⟨_, _, ret_d, ?_, rfl⟩
          rw [hb _ (checkAt_fr hb1 h2) h2, eb]
        · have hb2 : framesF (l.getD k default).stack = 0 := by rw [← eb]; simpa using h2
          by_cases hk0 : 0 < k
          · have e1 : IntKind.i64.wrap ((k : Int) - 1) = ((k - 1 : Nat) : Int) := by rw [wrap64 (by omega) (by omega)]; omega
            simp only [vcRules, dRules, bRules, tyRules, xRules, pickV_true, pickV_false, implies_true, Nat.reduceLT, Nat.reduceLeDiff, Nat.reduceEqDiff, Nat.reduceAdd, Nat.reduceSub, Nat.reduceMul, Int.reduceToNat, Int.reduceLT, Int.reduceLE, Int.reduceEq, Int.reduceAdd, Int.reduceSub, Int.reduceNeg, Int.reduceBEq, Int.reduceBNe, Int.reduceMul, Int.natCast_add, Int.natCast_one, reduceCtorEq, reduceIte, b_isAgg, b_cells, t_isAgg, t_cells, (show (0:Int) < k by omega), e1, (show ((k - 1 : Nat) : Int) < l.length by omega), (show k - 1 < l.length by omega), a_getD _ _ _ (show k - 1 < l.length by omega)]
            repeat ((with_reducible refine And.intro ?_ ?_); (focus (first | omega | (intros; simp_all; done) | kernel_rfl)))
            refine ifC.mk (fun h3 => ?_) (fun h3 => ?_)
            · refine ⟨_, _, ret_d, ?_, rfl⟩
              rw [hb 11 (checkAt_ord hb1 hb2 (by rw [← eb]; simp [hk0]; simpa using h3)) (by omega)]
            · have hb3 : (decide (0 < k) && decide ((l.getD k default).lo < (l.getD (k - 1) default).lo)) = false := by rw [← eb]; simp [hk0]; simpa using h3
              (try simp only [vcRules, dRules, bRules, tyRules, xRules, pickV_true, pickV_false, implies_true, Nat.reduceLT, Nat.reduceLeDiff, Nat.reduceEqDiff, Nat.reduceAdd, Nat.reduceSub, Nat.reduceMul, Int.reduceToNat, Int.reduceLT, Int.reduceLE, Int.reduceEq, Int.reduceAdd, Int.reduceSub, Int.reduceNeg, Int.reduceBEq, Int.reduceBNe, Int.reduceMul, Int.natCast_add, Int.natCast_one, reduceCtorEq, reduceIte, b_isAgg, b_cells, t_isAgg, t_cells, ← List.map_take, lt, (show (k:Int) ≤ l.length by omega)])
              repeat ((with_reducible refine And.intro ?_ ?_); (focus (first | omega | (intros; simp_all; done) | kernel_rfl)))
              have hcl := checkAt_cl (l := l) (k := k) hb1 hb2 hb3
              refine for_of k (fun j => [(0, .d (.sl (l.map BlockT.toD))), (4, .ptr 0 0), (8, .d (.sl (l.map BlockT.toD))), (9, .d (.int .i64 l.length)), (10, .d (.int .i64 k)), (72, .d (.sl ((l.take k).map BlockT.toD))), (73, .d (.int .i64 k)), (74, .d (.int .i64 j))]) (fun _ => [.box 7 (.d b.toD)]) (fun j => (l.take j).any (fun a => clashB a (l.getD k default)) = false) rfl ?_ ?_
              · refine weak_to [] [0] rfl (by simp) ?_ rfl
                simp only [vcRules, dRules, bRules, tyRules, xRules, pickV_true, pickV_false, implies_true, Nat.reduceLT, Nat.reduceLeDiff, Nat.reduceEqDiff, Nat.reduceAdd, Nat.reduceSub, Nat.reduceMul, Int.reduceToNat, Int.reduceLT, Int.reduceLE, Int.reduceEq, Int.reduceAdd, Int.reduceSub, Int.reduceNeg, Int.reduceBEq, Int.reduceBNe, Int.reduceMul, Int.natCast_add, Int.natCast_one, reduceCtorEq, reduceIte, b_isAgg, b_cells, t_isAgg, t_cells, Int.cast_ofNat_Int, ← List.map_take, lt]
              · intro j hj hjk
                by_cases h5 : j < k
                · have h6 : j < (l.take k).length := by rw [lt]; exact h5
                  have g1 : (l.take k).getD j default = l.getD j default := by simp [List.getElem?_take_of_lt h5]
                  have hs := any_take (fun a => clashB a (l.getD k default)) l j (by omega)
                  simp only [vcRules, dRules, bRules, tyRules, xRules, pickV_true, pickV_false, implies_true, Nat.reduceLT, Nat.reduceLeDiff, Nat.reduceEqDiff, Nat.reduceAdd, Nat.reduceSub, Nat.reduceMul, Int.reduceToNat, Int.reduceLT, Int.reduceLE, Int.reduceEq, Int.reduceAdd, Int.reduceSub, Int.reduceNeg, Int.reduceBEq, Int.reduceBNe, Int.reduceMul, Int.natCast_add, Int.natCast_one, reduceCtorEq, reduceIte, b_isAgg, b_cells, t_isAgg, t_cells, (show (j:Int) < k by omega), h6, a_getD _ _ _ (show j < (l.take k).length by omega), lt, g1, h5]
                  repeat ((with_reducible refine And.intro ?_ ?_); (focus (first | omega | (intros; simp_all; done) | kernel_rfl)))
                  refine ifC.mk (fun hc => ?_) (fun hc => ?_)
                  · refine ⟨_, _, ret_d, ?_, rfl⟩
                    rw [hb 4 (by rw [hcl, if_pos]; rw [List.any_eq_true]; exact ⟨l.getD j default, by rw [← g1]; exact mem_getD h6, by rw [← eb]; exact hc⟩) (by omega)]
                  · refine ⟨by rw [hs, hj, ← eb]; exact hc, ?_⟩
                    refine weak_to [] [0] rfl (by simp) ?_ rfl
                    simp only [vcRules, dRules, bRules, tyRules, xRules, pickV_true, pickV_false, implies_true, Nat.reduceLT, Nat.reduceLeDiff, Nat.reduceEqDiff, Nat.reduceAdd, Nat.reduceSub, Nat.reduceMul, Int.reduceToNat, Int.reduceLT, Int.reduceLE, Int.reduceEq, Int.reduceAdd, Int.reduceSub, Int.reduceNeg, Int.reduceBEq, Int.reduceBNe, Int.reduceMul, Int.natCast_add, Int.natCast_one, reduceCtorEq, reduceIte, b_isAgg, b_cells, t_isAgg, t_cells, @a_wrap ((j:Int) + 1) (by omega)]
                · simp only [vcRules, dRules, bRules, tyRules, xRules, pickV_true, pickV_false, implies_true, Nat.reduceLT, Nat.reduceLeDiff, Nat.reduceEqDiff, Nat.reduceAdd, Nat.reduceSub, Nat.reduceMul, Int.reduceToNat, Int.reduceLT, Int.reduceLE, Int.reduceEq, Int.reduceAdd, Int.reduceSub, Int.reduceNeg, Int.reduceBEq, Int.reduceBNe, Int.reduceMul, Int.natCast_add, Int.natCast_one, reduceCtorEq, reduceIte, b_isAgg, b_cells, t_isAgg, t_cells, (show ¬ (j:Int) < k by omega)]
                  have hjk : j = k := by omega
                  subst hjk
                  refine ⟨firstErr_step hi (by rw [hcl, if_neg (by rw [hj]; simp)]), ?_⟩
                  refine weak_to [] [] rfl List.nodup_nil ?_ rfl
                  simp only [vcRules, dRules, bRules, tyRules, xRules, pickV_true, pickV_false, implies_true, Nat.reduceLT, Nat.reduceLeDiff, Nat.reduceEqDiff, Nat.reduceAdd, Nat.reduceSub, Nat.reduceMul, Int.reduceToNat, Int.reduceLT, Int.reduceLE, Int.reduceEq, Int.reduceAdd, Int.reduceSub, Int.reduceNeg, Int.reduceBEq, Int.reduceBNe, Int.reduceMul, Int.natCast_add, Int.natCast_one, reduceCtorEq, reduceIte, b_isAgg, b_cells, t_isAgg, t_cells, @a_wrap ((j:Int) + 1) (by omega)]
          · simp only [vcRules, dRules, bRules, tyRules, xRules, pickV_true, pickV_false, implies_true, Nat.reduceLT, Nat.reduceLeDiff, Nat.reduceEqDiff, Nat.reduceAdd, Nat.reduceSub, Nat.reduceMul, Int.reduceToNat, Int.reduceLT, Int.reduceLE, Int.reduceEq, Int.reduceAdd, Int.reduceSub, Int.reduceNeg, Int.reduceBEq, Int.reduceBNe, Int.reduceMul, Int.natCast_add, Int.natCast_one, reduceCtorEq, reduceIte, b_isAgg, b_cells, t_isAgg, t_cells, (show ¬ (0:Int) < k by omega)]
            repeat ((with_reducible refine And.intro ?_ ?_); (focus (first | omega | (intros; simp_all; done) | kernel_rfl)))
            have hb3 : (decide (0 < k) && decide ((l.getD k default).lo < (l.getD (k - 1) default).lo)) = false := by simp [hk0]
            (try simp only [vcRules, dRules, bRules, tyRules, xRules, pickV_true, pickV_false, implies_true, Nat.reduceLT, Nat.reduceLeDiff, Nat.reduceEqDiff, Nat.reduceAdd, Nat.reduceSub, Nat.reduceMul, Int.reduceToNat, Int.reduceLT, Int.reduceLE, Int.reduceEq, Int.reduceAdd, Int.reduceSub, Int.reduceNeg, Int.reduceBEq, Int.reduceBNe, Int.reduceMul, Int.natCast_add, Int.natCast_one, reduceCtorEq, reduceIte, b_isAgg, b_cells, t_isAgg, t_cells, ← List.map_take, lt, (show (k:Int) ≤ l.length by omega)])
            repeat ((with_reducible refine And.intro ?_ ?_); (focus (first | omega | (intros; simp_all; done) | kernel_rfl)))
            have hcl := checkAt_cl (l := l) (k := k) hb1 hb2 hb3
            refine for_of k (fun j => [(0, .d (.sl (l.map BlockT.toD))), (4, .ptr 0 0), (8, .d (.sl (l.map BlockT.toD))), (9, .d (.int .i64 l.length)), (10, .d (.int .i64 k)), (72, .d (.sl ((l.take k).map BlockT.toD))), (73, .d (.int .i64 k)), (74, .d (.int .i64 j))]) (fun _ => [.box 7 (.d b.toD)]) (fun j => (l.take j).any (fun a => clashB a (l.getD k default)) = false) rfl ?_ ?_
            · refine weak_to [] [0] rfl (by simp) ?_ rfl
              simp only [vcRules, dRules, bRules, tyRules, xRules, pickV_true, pickV_false, implies_true, Nat.reduceLT, Nat.reduceLeDiff, Nat.reduceEqDiff, Nat.reduceAdd, Nat.reduceSub, Nat.reduceMul, Int.reduceToNat, Int.reduceLT, Int.reduceLE, Int.reduceEq, Int.reduceAdd, Int.reduceSub, Int.reduceNeg, Int.reduceBEq, Int.reduceBNe, Int.reduceMul, Int.natCast_add, Int.natCast_one, reduceCtorEq, reduceIte, b_isAgg, b_cells, t_isAgg, t_cells, Int.cast_ofNat_Int, ← List.map_take, lt]
            · intro j hj hjk
              by_cases h5 : j < k
              · have h6 : j < (l.take k).length := by rw [lt]; exact h5
                have g1 : (l.take k).getD j default = l.getD j default := by simp [List.getElem?_take_of_lt h5]
                have hs := any_take (fun a => clashB a (l.getD k default)) l j (by omega)
                simp only [vcRules, dRules, bRules, tyRules, xRules, pickV_true, pickV_false, implies_true, Nat.reduceLT, Nat.reduceLeDiff, Nat.reduceEqDiff, Nat.reduceAdd, Nat.reduceSub, Nat.reduceMul, Int.reduceToNat, Int.reduceLT, Int.reduceLE, Int.reduceEq, Int.reduceAdd, Int.reduceSub, Int.reduceNeg, Int.reduceBEq, Int.reduceBNe, Int.reduceMul, Int.natCast_add, Int.natCast_one, reduceCtorEq, reduceIte, b_isAgg, b_cells, t_isAgg, t_cells, (show (j:Int) < k by omega), h6, a_getD _ _ _ (show j < (l.take k).length by omega), lt, g1, h5]
                repeat ((with_reducible refine And.intro ?_ ?_); (focus (first | omega | (intros; simp_all; done) | kernel_rfl)))
                refine ifC.mk (fun hc => ?_) (fun hc => ?_)
                · refine ⟨_, _, ret_d, ?_, rfl⟩
                  rw [hb 4 (by rw [hcl, if_pos]; rw [List.any_eq_true]; exact ⟨l.getD j default, by rw [← g1]; exact mem_getD h6, by rw [← eb]; exact hc⟩) (by omega)]
                · refine ⟨by rw [hs, hj, ← eb]; exact hc, ?_⟩
                  refine weak_to [] [0] rfl (by simp) ?_ rfl
                  simp only [vcRules, dRules, bRules, tyRules, xRules, pickV_true, pickV_false, implies_true, Nat.reduceLT, Nat.reduceLeDiff, Nat.reduceEqDiff, Nat.reduceAdd, Nat.reduceSub, Nat.reduceMul, Int.reduceToNat, Int.reduceLT, Int.reduceLE, Int.reduceEq, Int.reduceAdd, Int.reduceSub, Int.reduceNeg, Int.reduceBEq, Int.reduceBNe, Int.reduceMul, Int.natCast_add, Int.natCast_one, reduceCtorEq, reduceIte, b_isAgg, b_cells, t_isAgg, t_cells, @a_wrap ((j:Int) + 1) (by omega)]
              · simp only [vcRules, dRules, bRules, tyRules, xRules, pickV_true, pickV_false, implies_true, Nat.reduceLT, Nat.reduceLeDiff, Nat.reduceEqDiff, Nat.reduceAdd, Nat.reduceSub, Nat.reduceMul, Int.reduceToNat, Int.reduceLT, Int.reduceLE, Int.reduceEq, Int.reduceAdd, Int.reduceSub, Int.reduceNeg, Int.reduceBEq, Int.reduceBNe, Int.reduceMul, Int.natCast_add, Int.natCast_one, reduceCtorEq, reduceIte, b_isAgg, b_cells, t_isAgg, t_cells, (show ¬ (j:Int) < k by omega)]
                have hjk : j = k := by omega
                subst hjk
                refine ⟨firstErr_step hi (by rw [hcl, if_neg (by rw [hj]; simp)]), ?_⟩
                refine weak_to [] [] rfl List.nodup_nil ?_ rfl
                simp only [vcRules, dRules, bRules, tyRules, xRules, pickV_true, pickV_false, implies_true, Nat.reduceLT, Nat.reduceLeDiff, Nat.reduceEqDiff, Nat.reduceAdd, Nat.reduceSub, Nat.reduceMul, Int.reduceToNat, Int.reduceLT, Int.reduceLE, Int.reduceEq, Int.reduceAdd, Int.reduceSub, Int.reduceNeg, Int.reduceBEq, Int.reduceBNe, Int.reduceMul, Int.natCast_add, Int.natCast_one, reduceCtorEq, reduceIte, b_isAgg, b_cells, t_isAgg, t_cells, @a_wrap ((j:Int) + 1) (by omega)]
    · simp only [vcRules, dRules, bRules, tyRules, xRules, pickV_true, pickV_false, implies_true, Nat.reduceLT, Nat.reduceLeDiff, Nat.reduceEqDiff, Nat.reduceAdd, Nat.reduceSub, Nat.reduceMul, Int.reduceToNat, Int.reduceLT, Int.reduceLE, Int.reduceEq, Int.reduceAdd, Int.reduceSub, Int.reduceNeg, Int.reduceBEq, Int.reduceBNe, Int.reduceMul, Int.natCast_add, Int.natCast_one, reduceCtorEq, reduceIte, b_isAgg, b_cells, t_isAgg, t_cells, (show ¬ (k:Int) < l.length by omega)]
      refine ⟨_, _, ret_d, ?_, rfl⟩
      have : k = l.length := by omega
      rw [checkF, ← this, hi]
end Ytgebmgahfpnjaaa
end Go.Proofs
