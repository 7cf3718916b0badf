/- A part of the proof: contracts of functions of this seat, and lemmas. No condition beyond those stated. -/
import Derived.Test.YtlelaieadgkemaaM30n
set_option linter.unusedVariables false
set_option linter.unusedSimpArgs false
set_option linter.unusedSectionVars false
set_option linter.unnecessarySimpa false
set_option linter.unusedSimpArgs false
set_option linter.unusedVariables false
set_option maxRecDepth 100000
namespace Go.Proofs
open Go.AM
namespace Ytlelaieadgkemaa

def sameAt (x y : TimedT) : Bool := x.kind == 4 && x.name == y.name && timeF x == timeF y
def countsB (os : List TimedT) (i : Nat) : Bool := cntB (os.getD i default) && !((os.drop (i + 1)).any fun x => sameAt x (os.getD i default))
theorem drop_any {os : List TimedT} {p : TimedT → Bool} {n : Nat} : (os.drop n).any p = true ↔ ∃ k, n ≤ k ∧ k < os.length ∧ p (os.getD k default) = true := by
  rw [List.any_eq_true]
  constructor
  · rintro ⟨x, hx, hp⟩
    obtain ⟨j, hj⟩ := List.getElem?_of_mem hx
    rw [List.getElem?_drop] at hj
    have hlt : n + j < os.length := by
      rcases Nat.lt_or_ge (n + j) os.length with h | h
      · exact h
      · rw [List.getElem?_eq_none h] at hj; cases hj
    exact ⟨n + j, by omega, hlt, by rw [List.getD_eq_getElem?_getD, hj]; exact hp⟩
  · rintro ⟨k, h1, h2, hp⟩
    refine ⟨os.getD k default, ?_, hp⟩
    refine List.mem_of_getElem? (i := k - n) ?_
    rw [List.getElem?_drop, show n + (k - n) = k by omega, List.getElem?_eq_getElem h2, List.getD_eq_getElem?_getD, List.getElem?_eq_getElem h2]; rfl
theorem c46 (os : List TimedT) (i : Nat) (hl : os.length < 1000000) (h : i < os.length) : Pure Try.prog 46 [.d (.sl (os.map TimedT.toD)), .d (.int .i64 i)] (.d (.bool (countsB os i))) := by
  refine Pure.of2 ?_
  obtain ⟨o, ho⟩ : ∃ o, o = os.getD i default := ⟨_, rfl⟩
  refine acalls_of Try.func46 rfl rfl (by simp [Try.ntmps46]) (evC_sound rfl _ _ _ _ ?_)
  simp only [Try.ntmps46, Try.results46, argEnv, List.length_nil]
  simp only [vcRules, dRules, bRules, tyRules, xRules, pickV_true, pickV_false, implies_true, Nat.reduceLT, Nat.reduceLeDiff, Nat.reduceEqDiff, Nat.reduceAdd, Nat.reduceSub, Nat.reduceMul, Int.reduceToNat, Int.reduceLT, Int.reduceLE, Int.reduceEq, Int.reduceAdd, Int.reduceSub, Int.reduceNeg, Int.reduceBEq, Int.reduceBNe, Int.reduceMul, Int.natCast_add, Int.natCast_one, reduceCtorEq, reduceIte, s_isAgg, s_cells, t_isAgg, t_cells, yRules, bytes_lit, (show (i:Int) < os.length by omega), h, a_getD _ _ _ (show i < os.length by omega), ← ho]
  refine ifC.mk (fun hc => ?_) (fun hc => ?_)
  · refine ⟨_, _, ret_d, ?_, rfl⟩
    have : cntB o = false := by unfold cntB; simpa using hc
    rw [countsB, ← ho, this]; rfl
  · have hc : cntB o = true := by unfold cntB; simpa using hc
    (try simp only [vcRules, dRules, bRules, tyRules, xRules, pickV_true, pickV_false, implies_true, Nat.reduceLT, Nat.reduceLeDiff, Nat.reduceEqDiff, Nat.reduceAdd, Nat.reduceSub, Nat.reduceMul, Int.reduceToNat, Int.reduceLT, Int.reduceLE, Int.reduceEq, Int.reduceAdd, Int.reduceSub, Int.reduceNeg, Int.reduceBEq, Int.reduceBNe, Int.reduceMul, Int.natCast_add, Int.natCast_one, reduceCtorEq, reduceIte, s_isAgg, s_cells, t_isAgg, t_cells, yRules, bytes_lit, @a_wrap ((i:Int) + 1) (by omega)])
    refine loop_of (τ := Nat) (fun k => [(0, .d (.sl (os.map TimedT.toD))), (1, .d (.int .i64 i)), (5, .d (.int .i64 k))]) (fun _ => []) (fun k => i + 1 ≤ k ∧ k ≤ os.length ∧ ∀ q, i + 1 ≤ q → q < k → sameAt (os.getD q default) o = false) (fun k => os.length - k) (i + 1) ⟨Nat.le_refl _, by omega, fun q h1 h2 => by omega⟩ ?_ ?_
    · refine weak_to [] [] rfl List.nodup_nil ?_ rfl
      simp only [vcRules, dRules, bRules, tyRules, xRules, pickV_true, pickV_false, implies_true, Nat.reduceLT, Nat.reduceLeDiff, Nat.reduceEqDiff, Nat.reduceAdd, Nat.reduceSub, Nat.reduceMul, Int.reduceToNat, Int.reduceLT, Int.reduceLE, Int.reduceEq, Int.reduceAdd, Int.reduceSub, Int.reduceNeg, Int.reduceBEq, Int.reduceBNe, Int.reduceMul, Int.natCast_add, Int.natCast_one, reduceCtorEq, reduceIte, s_isAgg, s_cells, t_isAgg, t_cells, yRules, bytes_lit, Int.natCast_add, Int.cast_ofNat_Int]
    · intro k hk
      obtain ⟨k1, k2, k3⟩ := hk
      by_cases h2 : k < os.length
      · obtain ⟨x, hx⟩ : ∃ x, x = os.getD k default := ⟨_, rfl⟩
        simp only [vcRules, dRules, bRules, tyRules, xRules, pickV_true, pickV_false, implies_true, Nat.reduceLT, Nat.reduceLeDiff, Nat.reduceEqDiff, Nat.reduceAdd, Nat.reduceSub, Nat.reduceMul, Int.reduceToNat, Int.reduceLT, Int.reduceLE, Int.reduceEq, Int.reduceAdd, Int.reduceSub, Int.reduceNeg, Int.reduceBEq, Int.reduceBNe, Int.reduceMul, Int.natCast_add, Int.natCast_one, reduceCtorEq, reduceIte, s_isAgg, s_cells, t_isAgg, t_cells, yRules, bytes_lit, (show (k:Int) < os.length by omega), h2, a_getD _ _ _ (show k < os.length by omega), ← hx, (show (i:Int) < os.length by omega), h, a_getD _ _ _ (show i < os.length by omega), ← ho]
        repeat ((with_reducible refine And.intro ?_ ?_); (focus (first | omega | (simp only [List.length_take, List.length_drop, List.length_map, List.length_append, List.length_cons]; omega) | (refine (show quietOp _ = true from ?_); rfl) | (refine (show drawChk _ = true from ?_); kernel_rfl) | (intros; simp_all; done))))
        refine callG_pure (fun _ => c40 _) ?_
        simp only [vcRules, dRules, bRules, tyRules, xRules, pickV_true, pickV_false, implies_true, Nat.reduceLT, Nat.reduceLeDiff, Nat.reduceEqDiff, Nat.reduceAdd, Nat.reduceSub, Nat.reduceMul, Int.reduceToNat, Int.reduceLT, Int.reduceLE, Int.reduceEq, Int.reduceAdd, Int.reduceSub, Int.reduceNeg, Int.reduceBEq, Int.reduceBNe, Int.reduceMul, Int.natCast_add, Int.natCast_one, reduceCtorEq, reduceIte, s_isAgg, s_cells, t_isAgg, t_cells, yRules, bytes_lit, (show (k:Int) < os.length by omega), h2, a_getD _ _ _ (show k < os.length by omega), ← hx, (show (i:Int) < os.length by omega), h, a_getD _ _ _ (show i < os.length by omega), ← ho]
        repeat ((with_reducible refine And.intro ?_ ?_); (focus (first | omega | (simp only [List.length_take, List.length_drop, List.length_map, List.length_append, List.length_cons]; omega) | (refine (show quietOp _ = true from ?_); rfl) | (refine (show drawChk _ = true from ?_); kernel_rfl) | (intros; simp_all; done))))
        refine callG_pure (fun _ => c40 _) ?_
        simp only [vcRules, dRules, bRules, tyRules, xRules, pickV_true, pickV_false, implies_true, Nat.reduceLT, Nat.reduceLeDiff, Nat.reduceEqDiff, Nat.reduceAdd, Nat.reduceSub, Nat.reduceMul, Int.reduceToNat, Int.reduceLT, Int.reduceLE, Int.reduceEq, Int.reduceAdd, Int.reduceSub, Int.reduceNeg, Int.reduceBEq, Int.reduceBNe, Int.reduceMul, Int.natCast_add, Int.natCast_one, reduceCtorEq, reduceIte, s_isAgg, s_cells, t_isAgg, t_cells, yRules, bytes_lit]
        repeat ((with_reducible refine And.intro ?_ ?_); (focus (first | omega | (simp only [List.length_take, List.length_drop, List.length_map, List.length_append, List.length_cons]; omega) | (refine (show quietOp _ = true from ?_); rfl) | (refine (show drawChk _ = true from ?_); kernel_rfl) | (intros; simp_all; done))))
        refine ifC.mk (fun q => ?_) (fun q => ?_)
        · refine ⟨_, _, ret_d, ?_, rfl⟩
          rw [countsB, ← ho, show ((os.drop (i + 1)).any fun x => sameAt x o) = true from drop_any.2 ⟨k, k1, h2, by rw [← hx]; exact q⟩]; simp
        · refine ⟨k + 1, ⟨by omega, by omega, fun r r1 r2 => ?_⟩, by omega, ?_⟩
          · by_cases e : r = k
            · rw [e, ← hx]; exact q
            · exact k3 r r1 (by omega)
          · refine weak_to [] [] rfl List.nodup_nil ?_ rfl
            simp only [vcRules, dRules, bRules, tyRules, xRules, pickV_true, pickV_false, implies_true, Nat.reduceLT, Nat.reduceLeDiff, Nat.reduceEqDiff, Nat.reduceAdd, Nat.reduceSub, Nat.reduceMul, Int.reduceToNat, Int.reduceLT, Int.reduceLE, Int.reduceEq, Int.reduceAdd, Int.reduceSub, Int.reduceNeg, Int.reduceBEq, Int.reduceBNe, Int.reduceMul, Int.natCast_add, Int.natCast_one, reduceCtorEq, reduceIte, s_isAgg, s_cells, t_isAgg, t_cells, yRules, bytes_lit, @a_wrap ((k:Int) + 1) (by omega), Int.natCast_add, Int.cast_ofNat_Int]
      · simp only [vcRules, dRules, bRules, tyRules, xRules, pickV_true, pickV_false, implies_true, Nat.reduceLT, Nat.reduceLeDiff, Nat.reduceEqDiff, Nat.reduceAdd, Nat.reduceSub, Nat.reduceMul, Int.reduceToNat, Int.reduceLT, Int.reduceLE, Int.reduceEq, Int.reduceAdd, Int.reduceSub, Int.reduceNeg, Int.reduceBEq, Int.reduceBNe, Int.reduceMul, Int.natCast_add, Int.natCast_one, reduceCtorEq, reduceIte, s_isAgg, s_cells, t_isAgg, t_cells, yRules, bytes_lit, (show ¬ (k:Int) < os.length by omega)]
        refine ⟨_, _, ret_d, ?_, rfl⟩
        have : ((os.drop (i + 1)).any fun x => sameAt x o) = false := by
          rw [Bool.eq_false_iff]
          intro hh
          obtain ⟨r, r1, r2, r3⟩ := drop_any.1 hh
          rw [k3 r r1 (by omega)] at r3; cases r3
        rw [countsB, ← ho, hc, this]; rfl

def gtS (a b : List UInt8) : Bool := !(Op.bytesLess a b || a == b)
def betB (o : TimedT) (x best : List UInt8) : Bool := o.kind == 4 && gtS o.name x && (best == [] || ltS o.name best)
def nextF (os : List TimedT) (x : List UInt8) : Nat → List UInt8
  | 0 => []
  | k + 1 => if betB (os.getD k default) x (nextF os x k) = true then (os.getD k default).name else nextF os x k
theorem c27 (os : List TimedT) (x : List UInt8) (hl : os.length < 1000000) : Pure Try.prog 27 [.d (.sl (os.map TimedT.toD)), .d (.str x)] (.d (.str (nextF os x os.length))) := by
  refine Pure.of2 ?_
  refine acalls_of Try.func27 rfl rfl (by simp [Try.ntmps27]) (evC_sound rfl _ _ _ _ ?_)
  simp only [Try.ntmps27, Try.results27, argEnv, List.length_nil]
  simp only [vcRules, dRules, bRules, tyRules, xRules, pickV_true, pickV_false, implies_true, Nat.reduceLT, Nat.reduceLeDiff, Nat.reduceEqDiff, Nat.reduceAdd, Nat.reduceSub, Nat.reduceMul, Int.reduceToNat, Int.reduceLT, Int.reduceLE, Int.reduceEq, Int.reduceAdd, Int.reduceSub, Int.reduceNeg, Int.reduceBEq, Int.reduceBNe, Int.reduceMul, Int.natCast_add, Int.natCast_one, reduceCtorEq, reduceIte, s_isAgg, s_cells, t_isAgg, t_cells, yRules, bytes_lit]
  refine for_of os.length (fun k => [(0, .d (.sl (os.map TimedT.toD))), (1, .d (.str x)), (5, .d (.str (nextF os x k))), (6, .d (.int .i64 k))]) (fun _ => []) (fun _ => True) trivial ?_ ?_
  · refine weak_to [] [] rfl List.nodup_nil ?_ rfl
    simp only [vcRules, dRules, bRules, tyRules, xRules, pickV_true, pickV_false, implies_true, Nat.reduceLT, Nat.reduceLeDiff, Nat.reduceEqDiff, Nat.reduceAdd, Nat.reduceSub, Nat.reduceMul, Int.reduceToNat, Int.reduceLT, Int.reduceLE, Int.reduceEq, Int.reduceAdd, Int.reduceSub, Int.reduceNeg, Int.reduceBEq, Int.reduceBNe, Int.reduceMul, Int.natCast_add, Int.natCast_one, reduceCtorEq, reduceIte, s_isAgg, s_cells, t_isAgg, t_cells, yRules, bytes_lit, Int.cast_ofNat_Int, nextF]
  · intro k _ hk
    by_cases h : k < os.length
    · obtain ⟨o, ho⟩ : ∃ o, o = os.getD k default := ⟨_, rfl⟩
      obtain ⟨b, hb⟩ : ∃ b, b = nextF os x k := ⟨_, rfl⟩
      have hst : nextF os x (k + 1) = if betB o x b = true then o.name else b := by rw [nextF, ho, hb]
      rw [hst, ← hb]
      simp only [vcRules, dRules, bRules, tyRules, xRules, pickV_true, pickV_false, implies_true, Nat.reduceLT, Nat.reduceLeDiff, Nat.reduceEqDiff, Nat.reduceAdd, Nat.reduceSub, Nat.reduceMul, Int.reduceToNat, Int.reduceLT, Int.reduceLE, Int.reduceEq, Int.reduceAdd, Int.reduceSub, Int.reduceNeg, Int.reduceBEq, Int.reduceBNe, Int.reduceMul, Int.natCast_add, Int.natCast_one, reduceCtorEq, reduceIte, s_isAgg, s_cells, t_isAgg, t_cells, yRules, bytes_lit, (show (k:Int) < os.length by omega), h, a_getD _ _ _ (show k < os.length by omega), ← ho]
      repeat ((with_reducible refine And.intro ?_ ?_); (focus (first | omega | (simp only [List.length_take, List.length_drop, List.length_map, List.length_append, List.length_cons]; omega) | (refine (show quietOp _ = true from ?_); rfl) | (refine (show drawChk _ = true from ?_); kernel_rfl) | (intros; simp_all; done))))
      refine ifC.mk (fun q => ?_) (fun q => ?_)
      · rw [if_pos (show betB o x b = true from q)]
        refine weak_to [] [] rfl List.nodup_nil ?_ rfl
        simp only [vcRules, dRules, bRules, tyRules, xRules, pickV_true, pickV_false, implies_true, Nat.reduceLT, Nat.reduceLeDiff, Nat.reduceEqDiff, Nat.reduceAdd, Nat.reduceSub, Nat.reduceMul, Int.reduceToNat, Int.reduceLT, Int.reduceLE, Int.reduceEq, Int.reduceAdd, Int.reduceSub, Int.reduceNeg, Int.reduceBEq, Int.reduceBNe, Int.reduceMul, Int.natCast_add, Int.natCast_one, reduceCtorEq, reduceIte, s_isAgg, s_cells, t_isAgg, t_cells, yRules, bytes_lit, @a_wrap ((k:Int) + 1) (by omega)]
      · rw [if_neg (by rw [show betB o x b = false from q]; simp)]
        refine weak_to [] [] rfl List.nodup_nil ?_ rfl
        simp only [vcRules, dRules, bRules, tyRules, xRules, pickV_true, pickV_false, implies_true, Nat.reduceLT, Nat.reduceLeDiff, Nat.reduceEqDiff, Nat.reduceAdd, Nat.reduceSub, Nat.reduceMul, Int.reduceToNat, Int.reduceLT, Int.reduceLE, Int.reduceEq, Int.reduceAdd, Int.reduceSub, Int.reduceNeg, Int.reduceBEq, Int.reduceBNe, Int.reduceMul, Int.natCast_add, Int.natCast_one, reduceCtorEq, reduceIte, s_isAgg, s_cells, t_isAgg, t_cells, yRules, bytes_lit, @a_wrap ((k:Int) + 1) (by omega)]
    · have : k = os.length := by omega
      subst this
      simp only [vcRules, dRules, bRules, tyRules, xRules, pickV_true, pickV_false, implies_true, Nat.reduceLT, Nat.reduceLeDiff, Nat.reduceEqDiff, Nat.reduceAdd, Nat.reduceSub, Nat.reduceMul, Int.reduceToNat, Int.reduceLT, Int.reduceLE, Int.reduceEq, Int.reduceAdd, Int.reduceSub, Int.reduceNeg, Int.reduceBEq, Int.reduceBNe, Int.reduceMul, Int.natCast_add, Int.natCast_one, reduceCtorEq, reduceIte, s_isAgg, s_cells, t_isAgg, t_cells, yRules, bytes_lit, (show ¬ (os.length:Int) < os.length by omega)]
      exact ⟨_, _, ret_d, rfl, rfl⟩

def takeB (os : List TimedT) (x : List UInt8) (k : Nat) : Bool := countsB os k && (os.getD k default).name == x
def appB (out : List StepT) (v : Int) : Bool := decide (out.length = 0) || (out.getD (out.length - 1) default).value != v
def stepsF (os : List TimedT) (x : List UInt8) : Nat → List StepT
  | 0 => []
  | k + 1 => if takeB os x k = true then (if appB (stepsF os x k) (os.getD k default).n = true then stepsF os x k ++ [⟨x, timeF (os.getD k default), (os.getD k default).n⟩] else stepsF os x k) else stepsF os x k
theorem stepsF_len (os : List TimedT) (x : List UInt8) : ∀ k, (stepsF os x k).length ≤ k
  | 0 => Nat.le_refl _
  | k + 1 => by
    have := stepsF_len os x k
    rw [stepsF]
    split
    · split
      · simp only [List.length_append, List.length_cons, List.length_nil]; omega
      · omega
    · omega
set_option maxHeartbeats 1000000 in
theorem c28 (os : List TimedT) (x : List UInt8) (hl : os.length < 1000000) : Pure Try.prog 28 [.d (.sl (os.map TimedT.toD)), .d (.str x)] (.d (.sl ((stepsF os x os.length).map StepT.toD))) := by
  refine Pure.of2 ?_
  refine acalls_of Try.func28 rfl rfl (by simp [Try.ntmps28]) (evC_sound rfl _ _ _ _ ?_)
  simp only [Try.ntmps28, Try.results28, argEnv, List.length_nil]
  simp only [vcRules, dRules, bRules, tyRules, xRules, pickV_true, pickV_false, implies_true, Nat.reduceLT, Nat.reduceLeDiff, Nat.reduceEqDiff, Nat.reduceAdd, Nat.reduceSub, Nat.reduceMul, Int.reduceToNat, Int.reduceLT, Int.reduceLE, Int.reduceEq, Int.reduceAdd, Int.reduceSub, Int.reduceNeg, Int.reduceBEq, Int.reduceBNe, Int.reduceMul, Int.natCast_add, Int.natCast_one, reduceCtorEq, reduceIte, s_isAgg, s_cells, t_isAgg, t_cells, yRules, bytes_lit]
  refine for_of os.length (fun k => [(0, .d (.sl (os.map TimedT.toD))), (1, .d (.str x)), (5, .osl 0 0 (stepsF os x k).length), (6, .d (.int .i64 k))]) (fun k => [.arr 3 ((stepsF os x k).map StepT.toD)]) (fun _ => True) trivial ?_ ?_
  · refine (weak_nils 5 3 rfl).trans ?_
    refine weak_to [] [0] rfl (by simp) ?_ ?_
    · simp only [vcRules, dRules, bRules, tyRules, xRules, pickV_true, pickV_false, implies_true, Nat.reduceLT, Nat.reduceLeDiff, Nat.reduceEqDiff, Nat.reduceAdd, Nat.reduceSub, Nat.reduceMul, Int.reduceToNat, Int.reduceLT, Int.reduceLE, Int.reduceEq, Int.reduceAdd, Int.reduceSub, Int.reduceNeg, Int.reduceBEq, Int.reduceBNe, Int.reduceMul, Int.natCast_add, Int.natCast_one, reduceCtorEq, reduceIte, s_isAgg, s_cells, t_isAgg, t_cells, yRules, bytes_lit, Int.cast_ofNat_Int, stepsF]
    · simp only [vcRules, dRules, bRules, tyRules, xRules, pickV_true, pickV_false, implies_true, Nat.reduceLT, Nat.reduceLeDiff, Nat.reduceEqDiff, Nat.reduceAdd, Nat.reduceSub, Nat.reduceMul, Int.reduceToNat, Int.reduceLT, Int.reduceLE, Int.reduceEq, Int.reduceAdd, Int.reduceSub, Int.reduceNeg, Int.reduceBEq, Int.reduceBNe, Int.reduceMul, Int.natCast_add, Int.natCast_one, reduceCtorEq, reduceIte, s_isAgg, s_cells, t_isAgg, t_cells, yRules, bytes_lit, stepsF]
  · intro k _ hk
    by_cases h : k < os.length
    · obtain ⟨o, ho⟩ : ∃ o, o = os.getD k default := ⟨_, rfl⟩
      obtain ⟨out, hout⟩ : ∃ b, b = stepsF os x k := ⟨_, rfl⟩
      have hol : out.length ≤ k := by rw [hout]; exact stepsF_len os x k
      have hst : stepsF os x (k + 1) = if takeB os x k = true then (if appB out o.n = true then out ++ [⟨x, timeF o, o.n⟩] else out) else out := by rw [stepsF, ho, hout]
      rw [hst, ← hout]
      simp only [vcRules, dRules, bRules, tyRules, xRules, pickV_true, pickV_false, implies_true, Nat.reduceLT, Nat.reduceLeDiff, Nat.reduceEqDiff, Nat.reduceAdd, Nat.reduceSub, Nat.reduceMul, Int.reduceToNat, Int.reduceLT, Int.reduceLE, Int.reduceEq, Int.reduceAdd, Int.reduceSub, Int.reduceNeg, Int.reduceBEq, Int.reduceBNe, Int.reduceMul, Int.natCast_add, Int.natCast_one, reduceCtorEq, reduceIte, s_isAgg, s_cells, t_isAgg, t_cells, yRules, bytes_lit, (show (k:Int) < os.length by omega), h, a_getD _ _ _ (show k < os.length by omega), ← ho]
      refine callF_pure (c46 os k hl h) ?_
      simp only [vcRules, dRules, bRules, tyRules, xRules, pickV_true, pickV_false, implies_true, Nat.reduceLT, Nat.reduceLeDiff, Nat.reduceEqDiff, Nat.reduceAdd, Nat.reduceSub, Nat.reduceMul, Int.reduceToNat, Int.reduceLT, Int.reduceLE, Int.reduceEq, Int.reduceAdd, Int.reduceSub, Int.reduceNeg, Int.reduceBEq, Int.reduceBNe, Int.reduceMul, Int.natCast_add, Int.natCast_one, reduceCtorEq, reduceIte, s_isAgg, s_cells, t_isAgg, t_cells, yRules, bytes_lit, (show (k:Int) < os.length by omega), h, a_getD _ _ _ (show k < os.length by omega), ← ho]
      repeat ((with_reducible refine And.intro ?_ ?_); (focus (first | omega | (simp only [List.length_take, List.length_drop, List.length_map, List.length_append, List.length_cons]; omega) | (refine (show quietOp _ = true from ?_); rfl) | (refine (show drawChk _ = true from ?_); kernel_rfl) | (intros; simp_all; done))))
      have htk : takeB os x k = !(!countsB os k || !(o.name == x)) := by unfold takeB; rw [← ho]; simp
      refine ifC.mk (fun q => ?_) (fun q => ?_)
      · rw [htk, q, if_neg (by simp)]
        refine weak_to [] [0] rfl (by simp) ?_ rfl
        simp only [vcRules, dRules, bRules, tyRules, xRules, pickV_true, pickV_false, implies_true, Nat.reduceLT, Nat.reduceLeDiff, Nat.reduceEqDiff, Nat.reduceAdd, Nat.reduceSub, Nat.reduceMul, Int.reduceToNat, Int.reduceLT, Int.reduceLE, Int.reduceEq, Int.reduceAdd, Int.reduceSub, Int.reduceNeg, Int.reduceBEq, Int.reduceBNe, Int.reduceMul, Int.natCast_add, Int.natCast_one, reduceCtorEq, reduceIte, s_isAgg, s_cells, t_isAgg, t_cells, yRules, bytes_lit, @a_wrap ((k:Int) + 1) (by omega)]
      · rw [htk, q, if_pos (by simp)]
        by_cases h0 : out.length = 0
        · have e0 : out = [] := List.eq_nil_of_length_eq_zero h0
          have ha : appB out o.n = true := by unfold appB; rw [decide_eq_true h0]; rfl
          rw [if_pos ha]
          simp only [vcRules, dRules, bRules, tyRules, xRules, pickV_true, pickV_false, implies_true, Nat.reduceLT, Nat.reduceLeDiff, Nat.reduceEqDiff, Nat.reduceAdd, Nat.reduceSub, Nat.reduceMul, Int.reduceToNat, Int.reduceLT, Int.reduceLE, Int.reduceEq, Int.reduceAdd, Int.reduceSub, Int.reduceNeg, Int.reduceBEq, Int.reduceBNe, Int.reduceMul, Int.natCast_add, Int.natCast_one, reduceCtorEq, reduceIte, s_isAgg, s_cells, t_isAgg, t_cells, yRules, bytes_lit, a_eq_t (show (out.length : Int) = 0 by omega), (show (k:Int) < os.length by omega), h, a_getD _ _ _ (show k < os.length by omega), ← ho]
          repeat ((with_reducible refine And.intro ?_ ?_); (focus (first | omega | (simp only [List.length_take, List.length_drop, List.length_map, List.length_append, List.length_cons]; omega) | (refine (show quietOp _ = true from ?_); rfl) | (refine (show drawChk _ = true from ?_); kernel_rfl) | (intros; simp_all; done))))
          refine callF_pure (c40 _) ?_
          simp only [vcRules, dRules, bRules, tyRules, xRules, pickV_true, pickV_false, implies_true, Nat.reduceLT, Nat.reduceLeDiff, Nat.reduceEqDiff, Nat.reduceAdd, Nat.reduceSub, Nat.reduceMul, Int.reduceToNat, Int.reduceLT, Int.reduceLE, Int.reduceEq, Int.reduceAdd, Int.reduceSub, Int.reduceNeg, Int.reduceBEq, Int.reduceBNe, Int.reduceMul, Int.natCast_add, Int.natCast_one, reduceCtorEq, reduceIte, s_isAgg, s_cells, t_isAgg, t_cells, yRules, bytes_lit, (show (k:Int) < os.length by omega), h, a_getD _ _ _ (show k < os.length by omega), ← ho, take_all]
          repeat ((with_reducible refine And.intro ?_ ?_); (focus (first | omega | (simp only [List.length_take, List.length_drop, List.length_map, List.length_append, List.length_cons]; omega) | (refine (show quietOp _ = true from ?_); rfl) | (refine (show drawChk _ = true from ?_); kernel_rfl) | (intros; simp_all; done))))
          refine weak_to [] [2] rfl (by simp) ?_ ?_
          · simp only [vcRules, dRules, bRules, tyRules, xRules, pickV_true, pickV_false, implies_true, Nat.reduceLT, Nat.reduceLeDiff, Nat.reduceEqDiff, Nat.reduceAdd, Nat.reduceSub, Nat.reduceMul, Int.reduceToNat, Int.reduceLT, Int.reduceLE, Int.reduceEq, Int.reduceAdd, Int.reduceSub, Int.reduceNeg, Int.reduceBEq, Int.reduceBNe, Int.reduceMul, Int.natCast_add, Int.natCast_one, reduceCtorEq, reduceIte, s_isAgg, s_cells, t_isAgg, t_cells, yRules, bytes_lit, @a_wrap ((k:Int) + 1) (by omega)]
          · simp only [vcRules, dRules, bRules, tyRules, xRules, pickV_true, pickV_false, implies_true, Nat.reduceLT, Nat.reduceLeDiff, Nat.reduceEqDiff, Nat.reduceAdd, Nat.reduceSub, Nat.reduceMul, Int.reduceToNat, Int.reduceLT, Int.reduceLE, Int.reduceEq, Int.reduceAdd, Int.reduceSub, Int.reduceNeg, Int.reduceBEq, Int.reduceBNe, Int.reduceMul, Int.natCast_add, Int.natCast_one, reduceCtorEq, reduceIte, s_isAgg, s_cells, t_isAgg, t_cells, yRules, bytes_lit, List.map_append]
            rfl
        · have e1 : IntKind.i64.wrap ((out.length : Int) - 1) = ((out.length - 1 : Nat) : Int) := by rw [wrap64 (by omega) (by omega)]; omega
          obtain ⟨d, hd⟩ : ∃ d, d = out.getD (out.length - 1) default := ⟨_, rfl⟩
          have ha : appB out o.n = (d.value != o.n) := by unfold appB; rw [decide_eq_false h0, ← hd]; rfl
          rw [ha]
          simp only [vcRules, dRules, bRules, tyRules, xRules, pickV_true, pickV_false, implies_true, Nat.reduceLT, Nat.reduceLeDiff, Nat.reduceEqDiff, Nat.reduceAdd, Nat.reduceSub, Nat.reduceMul, Int.reduceToNat, Int.reduceLT, Int.reduceLE, Int.reduceEq, Int.reduceAdd, Int.reduceSub, Int.reduceNeg, Int.reduceBEq, Int.reduceBNe, Int.reduceMul, Int.natCast_add, Int.natCast_one, reduceCtorEq, reduceIte, s_isAgg, s_cells, t_isAgg, t_cells, yRules, bytes_lit, a_eq_f (show ¬ ((out.length : Int) = 0) by omega), e1, (show ((out.length - 1 : Nat) : Int) < out.length by omega), (show out.length - 1 < out.length by omega), a_getD _ _ _ (show out.length - 1 < out.length by omega), ← hd, (show (k:Int) < os.length by omega), h, a_getD _ _ _ (show k < os.length by omega), ← ho]
          repeat ((with_reducible refine And.intro ?_ ?_); (focus (first | omega | (simp only [List.length_take, List.length_drop, List.length_map, List.length_append, List.length_cons]; omega) | (refine (show quietOp _ = true from ?_); rfl) | (refine (show drawChk _ = true from ?_); kernel_rfl) | (intros; simp_all; done))))
          refine ifC.mk (fun q2 => ?_) (fun q2 => ?_)
          · rw [if_pos q2]
            refine ⟨by kernel_rfl, ?_⟩
            simp only [vcRules, dRules, bRules, tyRules, xRules, pickV_true, pickV_false, implies_true, Nat.reduceLT, Nat.reduceLeDiff, Nat.reduceEqDiff, Nat.reduceAdd, Nat.reduceSub, Nat.reduceMul, Int.reduceToNat, Int.reduceLT, Int.reduceLE, Int.reduceEq, Int.reduceAdd, Int.reduceSub, Int.reduceNeg, Int.reduceBEq, Int.reduceBNe, Int.reduceMul, Int.natCast_add, Int.natCast_one, reduceCtorEq, reduceIte, s_isAgg, s_cells, t_isAgg, t_cells, yRules, bytes_lit, (show (k:Int) < os.length by omega), h, a_getD _ _ _ (show k < os.length by omega), ← ho]
            repeat ((with_reducible refine And.intro ?_ ?_); (focus (first | omega | (simp only [List.length_take, List.length_drop, List.length_map, List.length_append, List.length_cons]; omega) | (refine (show quietOp _ = true from ?_); rfl) | (refine (show drawChk _ = true from ?_); kernel_rfl) | (intros; simp_all; done))))
            refine callF_pure (c40 _) ?_
            simp only [vcRules, dRules, bRules, tyRules, xRules, pickV_true, pickV_false, implies_true, Nat.reduceLT, Nat.reduceLeDiff, Nat.reduceEqDiff, Nat.reduceAdd, Nat.reduceSub, Nat.reduceMul, Int.reduceToNat, Int.reduceLT, Int.reduceLE, Int.reduceEq, Int.reduceAdd, Int.reduceSub, Int.reduceNeg, Int.reduceBEq, Int.reduceBNe, Int.reduceMul, Int.natCast_add, Int.natCast_one, reduceCtorEq, reduceIte, s_isAgg, s_cells, t_isAgg, t_cells, yRules, bytes_lit, (show (k:Int) < os.length by omega), h, a_getD _ _ _ (show k < os.length by omega), ← ho, take_all]
            repeat ((with_reducible refine And.intro ?_ ?_); (focus (first | omega | (simp only [List.length_take, List.length_drop, List.length_map, List.length_append, List.length_cons]; omega) | (refine (show quietOp _ = true from ?_); rfl) | (refine (show drawChk _ = true from ?_); kernel_rfl) | (intros; simp_all; done))))
            refine weak_to [] [2] rfl (by simp) ?_ ?_
            · simp only [vcRules, dRules, bRules, tyRules, xRules, pickV_true, pickV_false, implies_true, Nat.reduceLT, Nat.reduceLeDiff, Nat.reduceEqDiff, Nat.reduceAdd, Nat.reduceSub, Nat.reduceMul, Int.reduceToNat, Int.reduceLT, Int.reduceLE, Int.reduceEq, Int.reduceAdd, Int.reduceSub, Int.reduceNeg, Int.reduceBEq, Int.reduceBNe, Int.reduceMul, Int.natCast_add, Int.natCast_one, reduceCtorEq, reduceIte, s_isAgg, s_cells, t_isAgg, t_cells, yRules, bytes_lit, @a_wrap ((k:Int) + 1) (by omega)]
            · simp only [vcRules, dRules, bRules, tyRules, xRules, pickV_true, pickV_false, implies_true, Nat.reduceLT, Nat.reduceLeDiff, Nat.reduceEqDiff, Nat.reduceAdd, Nat.reduceSub, Nat.reduceMul, Int.reduceToNat, Int.reduceLT, Int.reduceLE, Int.reduceEq, Int.reduceAdd, Int.reduceSub, Int.reduceNeg, Int.reduceBEq, Int.reduceBNe, Int.reduceMul, Int.natCast_add, Int.natCast_one, reduceCtorEq, reduceIte, s_isAgg, s_cells, t_isAgg, t_cells, yRules, bytes_lit, List.map_append]
              rfl
          · rw [if_neg (by rw [q2]; simp)]
            refine weak_to [] [0] rfl (by simp) ?_ rfl
            simp only [vcRules, dRules, bRules, tyRules, xRules, pickV_true, pickV_false, implies_true, Nat.reduceLT, Nat.reduceLeDiff, Nat.reduceEqDiff, Nat.reduceAdd, Nat.reduceSub, Nat.reduceMul, Int.reduceToNat, Int.reduceLT, Int.reduceLE, Int.reduceEq, Int.reduceAdd, Int.reduceSub, Int.reduceNeg, Int.reduceBEq, Int.reduceBNe, Int.reduceMul, Int.natCast_add, Int.natCast_one, reduceCtorEq, reduceIte, s_isAgg, s_cells, t_isAgg, t_cells, yRules, bytes_lit, @a_wrap ((k:Int) + 1) (by omega)]
    · have : k = os.length := by omega
      subst this
      simp only [vcRules, dRules, bRules, tyRules, xRules, pickV_true, pickV_false, implies_true, Nat.reduceLT, Nat.reduceLeDiff, Nat.reduceEqDiff, Nat.reduceAdd, Nat.reduceSub, Nat.reduceMul, Int.reduceToNat, Int.reduceLT, Int.reduceLE, Int.reduceEq, Int.reduceAdd, Int.reduceSub, Int.reduceNeg, Int.reduceBEq, Int.reduceBNe, Int.reduceMul, Int.natCast_add, Int.natCast_one, reduceCtorEq, reduceIte, s_isAgg, s_cells, t_isAgg, t_cells, yRules, bytes_lit, (show ¬ (os.length:Int) < os.length by omega)]
      refine ⟨_, _, ret_data rfl ?_, rfl, rfl⟩
      simp only [vcRules, dRules, bRules, tyRules, xRules, pickV_true, pickV_false, implies_true, Nat.reduceLT, Nat.reduceLeDiff, Nat.reduceEqDiff, Nat.reduceAdd, Nat.reduceSub, Nat.reduceMul, Int.reduceToNat, Int.reduceLT, Int.reduceLE, Int.reduceEq, Int.reduceAdd, Int.reduceSub, Int.reduceNeg, Int.reduceBEq, Int.reduceBNe, Int.reduceMul, Int.natCast_add, Int.natCast_one, reduceCtorEq, reduceIte, s_isAgg, s_cells, t_isAgg, t_cells, yRules, bytes_lit, take_all]

theorem c13 (os : List TimedT) (hl : os.length < 1000000) (A : List UInt8 → List StepT) (ν : List UInt8 → Nat) (R : List StepT) (hR : A [] = R) (hRl : R.length < 1000000)
    (h0 : ∀ x, nextF os x os.length = [] → A x = [])
    (h1 : ∀ x, nextF os x os.length ≠ [] → A x = stepsF os (nextF os x os.length) os.length ++ A (nextF os x os.length) ∧ ν (nextF os x os.length) < ν x) :
    Pure Try.prog 13 [.d (.sl (os.map TimedT.toD))] (.d (.sl (R.map StepT.toD))) := by
  refine Pure.of1 ?_
  refine acalls_of Try.func13 rfl rfl (by simp [Try.ntmps13]) (evC_sound rfl _ _ _ _ ?_)
  simp only [Try.ntmps13, Try.results13, argEnv, List.length_nil]
  simp only [vcRules, dRules, bRules, tyRules, xRules, pickV_true, pickV_false, implies_true, Nat.reduceLT, Nat.reduceLeDiff, Nat.reduceEqDiff, Nat.reduceAdd, Nat.reduceSub, Nat.reduceMul, Int.reduceToNat, Int.reduceLT, Int.reduceLE, Int.reduceEq, Int.reduceAdd, Int.reduceSub, Int.reduceNeg, Int.reduceBEq, Int.reduceBNe, Int.reduceMul, Int.natCast_add, Int.natCast_one, reduceCtorEq, reduceIte, s_isAgg, s_cells, t_isAgg, t_cells, yRules, bytes_lit]
  refine callF_pure (c27 os [] hl) ?_
  simp only [vcRules, dRules, bRules, tyRules, xRules, pickV_true, pickV_false, implies_true, Nat.reduceLT, Nat.reduceLeDiff, Nat.reduceEqDiff, Nat.reduceAdd, Nat.reduceSub, Nat.reduceMul, Int.reduceToNat, Int.reduceLT, Int.reduceLE, Int.reduceEq, Int.reduceAdd, Int.reduceSub, Int.reduceNeg, Int.reduceBEq, Int.reduceBNe, Int.reduceMul, Int.natCast_add, Int.natCast_one, reduceCtorEq, reduceIte, s_isAgg, s_cells, t_isAgg, t_cells, yRules, bytes_lit]
  refine loop_of (τ := List UInt8 × List StepT) (fun q => [(0, .d (.sl (os.map TimedT.toD))), (3, .osl 0 0 q.2.length), (4, .d (.str q.1))]) (fun q => [.arr 3 (q.2.map StepT.toD)])
    (fun q => q.2 ++ (if q.1 = [] then [] else stepsF os q.1 os.length ++ A q.1) = R) (fun q => if q.1 = [] then 0 else ν q.1 + 1) (nextF os [] os.length, [])
    ?_ ?_ ?_
  · simp only [List.nil_append]
    by_cases hn : nextF os [] os.length = []
    · rw [if_pos hn, ← hR, h0 _ hn]
    · rw [if_neg hn, ← hR, (h1 _ hn).1]
  · refine (weak_nils 3 3 rfl).trans ?_
    refine weak_to [] [0] rfl (by simp) ?_ ?_
    · simp only [vcRules, dRules, bRules, tyRules, xRules, pickV_true, pickV_false, implies_true, Nat.reduceLT, Nat.reduceLeDiff, Nat.reduceEqDiff, Nat.reduceAdd, Nat.reduceSub, Nat.reduceMul, Int.reduceToNat, Int.reduceLT, Int.reduceLE, Int.reduceEq, Int.reduceAdd, Int.reduceSub, Int.reduceNeg, Int.reduceBEq, Int.reduceBNe, Int.reduceMul, Int.natCast_add, Int.natCast_one, reduceCtorEq, reduceIte, s_isAgg, s_cells, t_isAgg, t_cells, yRules, bytes_lit]
    · simp only [vcRules, dRules, bRules, tyRules, xRules, pickV_true, pickV_false, implies_true, Nat.reduceLT, Nat.reduceLeDiff, Nat.reduceEqDiff, Nat.reduceAdd, Nat.reduceSub, Nat.reduceMul, Int.reduceToNat, Int.reduceLT, Int.reduceLE, Int.reduceEq, Int.reduceAdd, Int.reduceSub, Int.reduceNeg, Int.reduceBEq, Int.reduceBNe, Int.reduceMul, Int.natCast_add, Int.natCast_one, reduceCtorEq, reduceIte, s_isAgg, s_cells, t_isAgg, t_cells, yRules, bytes_lit]
  · intro q hq
    obtain ⟨x, out⟩ := q
    simp only at hq
    by_cases hx : x = []
    · rw [if_pos hx, List.append_nil] at hq
      subst hx
      simp only [vcRules, dRules, bRules, tyRules, xRules, pickV_true, pickV_false, implies_true, Nat.reduceLT, Nat.reduceLeDiff, Nat.reduceEqDiff, Nat.reduceAdd, Nat.reduceSub, Nat.reduceMul, Int.reduceToNat, Int.reduceLT, Int.reduceLE, Int.reduceEq, Int.reduceAdd, Int.reduceSub, Int.reduceNeg, Int.reduceBEq, Int.reduceBNe, Int.reduceMul, Int.natCast_add, Int.natCast_one, reduceCtorEq, reduceIte, s_isAgg, s_cells, t_isAgg, t_cells, yRules, bytes_lit, beq_self_eq_true]
      refine ⟨_, _, ret_data rfl ?_, rfl, rfl⟩
      simp only [vcRules, dRules, bRules, tyRules, xRules, pickV_true, pickV_false, implies_true, Nat.reduceLT, Nat.reduceLeDiff, Nat.reduceEqDiff, Nat.reduceAdd, Nat.reduceSub, Nat.reduceMul, Int.reduceToNat, Int.reduceLT, Int.reduceLE, Int.reduceEq, Int.reduceAdd, Int.reduceSub, Int.reduceNeg, Int.reduceBEq, Int.reduceBNe, Int.reduceMul, Int.natCast_add, Int.natCast_one, reduceCtorEq, reduceIte, s_isAgg, s_cells, t_isAgg, t_cells, yRules, bytes_lit, take_all]
      rw [hq]
    · rw [if_neg hx] at hq
      have hb : (x == []) = false := by simpa using hx
      have hlen : out.length + (stepsF os x os.length).length ≤ R.length := by rw [← hq]; simp
      simp only [vcRules, dRules, bRules, tyRules, xRules, pickV_true, pickV_false, implies_true, Nat.reduceLT, Nat.reduceLeDiff, Nat.reduceEqDiff, Nat.reduceAdd, Nat.reduceSub, Nat.reduceMul, Int.reduceToNat, Int.reduceLT, Int.reduceLE, Int.reduceEq, Int.reduceAdd, Int.reduceSub, Int.reduceNeg, Int.reduceBEq, Int.reduceBNe, Int.reduceMul, Int.natCast_add, Int.natCast_one, reduceCtorEq, reduceIte, s_isAgg, s_cells, t_isAgg, t_cells, yRules, bytes_lit, hb]
      refine callF_pure (c28 os x hl) ?_
      simp only [vcRules, dRules, bRules, tyRules, xRules, pickV_true, pickV_false, implies_true, Nat.reduceLT, Nat.reduceLeDiff, Nat.reduceEqDiff, Nat.reduceAdd, Nat.reduceSub, Nat.reduceMul, Int.reduceToNat, Int.reduceLT, Int.reduceLE, Int.reduceEq, Int.reduceAdd, Int.reduceSub, Int.reduceNeg, Int.reduceBEq, Int.reduceBNe, Int.reduceMul, Int.natCast_add, Int.natCast_one, reduceCtorEq, reduceIte, s_isAgg, s_cells, t_isAgg, t_cells, yRules, bytes_lit, take_all]
      repeat ((with_reducible refine And.intro ?_ ?_); (focus (first | omega | (simp only [List.length_take, List.length_drop, List.length_map, List.length_append, List.length_cons]; omega) | (refine (show quietOp _ = true from ?_); rfl) | (refine (show drawChk _ = true from ?_); kernel_rfl) | (intros; simp_all; done))))
      refine callF_pure (c27 os x hl) ?_
      simp only [vcRules, dRules, bRules, tyRules, xRules, pickV_true, pickV_false, implies_true, Nat.reduceLT, Nat.reduceLeDiff, Nat.reduceEqDiff, Nat.reduceAdd, Nat.reduceSub, Nat.reduceMul, Int.reduceToNat, Int.reduceLT, Int.reduceLE, Int.reduceEq, Int.reduceAdd, Int.reduceSub, Int.reduceNeg, Int.reduceBEq, Int.reduceBNe, Int.reduceMul, Int.natCast_add, Int.natCast_one, reduceCtorEq, reduceIte, s_isAgg, s_cells, t_isAgg, t_cells, yRules, bytes_lit]
      refine ⟨(nextF os x os.length, out ++ stepsF os x os.length), ?_, ?_, ?_⟩
      · simp only
        rw [List.append_assoc, ← hq]
        by_cases hn : nextF os x os.length = []
        · rw [if_pos hn, h0 _ hn]
        · rw [if_neg hn, (h1 _ hn).1]
      · simp only
        rw [if_neg hx]
        by_cases hn : nextF os x os.length = []
        · rw [if_pos hn]; omega
        · rw [if_neg hn]; have := (h1 _ hn).2; omega
      · refine weak_to [] [1] rfl (by simp) ?_ ?_
        · simp only [vcRules, dRules, bRules, tyRules, xRules, pickV_true, pickV_false, implies_true, Nat.reduceLT, Nat.reduceLeDiff, Nat.reduceEqDiff, Nat.reduceAdd, Nat.reduceSub, Nat.reduceMul, Int.reduceToNat, Int.reduceLT, Int.reduceLE, Int.reduceEq, Int.reduceAdd, Int.reduceSub, Int.reduceNeg, Int.reduceBEq, Int.reduceBNe, Int.reduceMul, Int.natCast_add, Int.natCast_one, reduceCtorEq, reduceIte, s_isAgg, s_cells, t_isAgg, t_cells, yRules, bytes_lit]
        · simp only [vcRules, dRules, bRules, tyRules, xRules, pickV_true, pickV_false, implies_true, Nat.reduceLT, Nat.reduceLeDiff, Nat.reduceEqDiff, Nat.reduceAdd, Nat.reduceSub, Nat.reduceMul, Int.reduceToNat, Int.reduceLT, Int.reduceLE, Int.reduceEq, Int.reduceAdd, Int.reduceSub, Int.reduceNeg, Int.reduceBEq, Int.reduceBNe, Int.reduceMul, Int.natCast_add, Int.natCast_one, reduceCtorEq, reduceIte, s_isAgg, s_cells, t_isAgg, t_cells, yRules, bytes_lit, List.map_append]

def fewB (os : List TimedT) : Bool := decide (os.length ≤ 60) && (os.all fun o => decide (o.stack.length ≤ 40)) && orderedB os
theorem c9 (os : List TimedT) : Pure Try.prog 9 [.d (.sl (os.map TimedT.toD))] (.d (.bool (fewB os))) := by
  refine Pure.of1 ?_
  refine acalls_of Try.func9 rfl rfl (by simp [Try.ntmps9]) (evC_sound rfl _ _ _ _ ?_)
  simp only [Try.ntmps9, Try.results9, argEnv, List.length_nil]
  simp only [vcRules, dRules, bRules, tyRules, xRules, pickV_true, pickV_false, implies_true, Nat.reduceLT, Nat.reduceLeDiff, Nat.reduceEqDiff, Nat.reduceAdd, Nat.reduceSub, Nat.reduceMul, Int.reduceToNat, Int.reduceLT, Int.reduceLE, Int.reduceEq, Int.reduceAdd, Int.reduceSub, Int.reduceNeg, Int.reduceBEq, Int.reduceBNe, Int.reduceMul, Int.natCast_add, Int.natCast_one, reduceCtorEq, reduceIte, s_isAgg, s_cells, t_isAgg, t_cells, yRules, bytes_lit]
  refine ifC.mk (fun h => ?_) (fun h => ?_)
  · refine ⟨_, _, ret_d, ?_, rfl⟩
    have : fewB os = false := by unfold fewB; simp at h; rw [decide_eq_false (by omega)]; rfl
    rw [this]
  · have h : os.length ≤ 60 := by simp at h; omega
    have hb : fewB os = ((os.all fun o => decide (o.stack.length ≤ 40)) && orderedB os) := by unfold fewB; rw [decide_eq_true h, Bool.true_and]
    refine for_of os.length (fun k => [(0, .d (.sl (os.map TimedT.toD))), (3, .d (.int .i64 k))]) (fun _ => []) (fun k => ((os.take k).all fun o => decide (o.stack.length ≤ 40)) = true) rfl ?_ ?_
    · refine weak_to [] [] rfl List.nodup_nil ?_ rfl
      simp only [vcRules, dRules, bRules, tyRules, xRules, pickV_true, pickV_false, implies_true, Nat.reduceLT, Nat.reduceLeDiff, Nat.reduceEqDiff, Nat.reduceAdd, Nat.reduceSub, Nat.reduceMul, Int.reduceToNat, Int.reduceLT, Int.reduceLE, Int.reduceEq, Int.reduceAdd, Int.reduceSub, Int.reduceNeg, Int.reduceBEq, Int.reduceBNe, Int.reduceMul, Int.natCast_add, Int.natCast_one, reduceCtorEq, reduceIte, s_isAgg, s_cells, t_isAgg, t_cells, yRules, bytes_lit, Int.cast_ofNat_Int]
    · intro k hi hk
      by_cases h2 : k < os.length
      · have hs := all_take (fun o : TimedT => decide (o.stack.length ≤ 40)) os k h2
        simp only [vcRules, dRules, bRules, tyRules, xRules, pickV_true, pickV_false, implies_true, Nat.reduceLT, Nat.reduceLeDiff, Nat.reduceEqDiff, Nat.reduceAdd, Nat.reduceSub, Nat.reduceMul, Int.reduceToNat, Int.reduceLT, Int.reduceLE, Int.reduceEq, Int.reduceAdd, Int.reduceSub, Int.reduceNeg, Int.reduceBEq, Int.reduceBNe, Int.reduceMul, Int.natCast_add, Int.natCast_one, reduceCtorEq, reduceIte, s_isAgg, s_cells, t_isAgg, t_cells, yRules, bytes_lit, (show (k:Int) < os.length by omega), h2, a_getD _ _ _ (show k < os.length by omega)]
        refine ifC.mk (fun hc => ?_) (fun hc => ?_)
        · refine ⟨_, _, ret_d, ?_, rfl⟩
          rw [hb, all_at _ os k h2 (by simp at hc ⊢; omega)]; rfl
        · refine ⟨by rw [hs, hi]; simp at hc ⊢; omega, ?_⟩
          refine weak_to [] [] rfl List.nodup_nil ?_ rfl
          simp only [vcRules, dRules, bRules, tyRules, xRules, pickV_true, pickV_false, implies_true, Nat.reduceLT, Nat.reduceLeDiff, Nat.reduceEqDiff, Nat.reduceAdd, Nat.reduceSub, Nat.reduceMul, Int.reduceToNat, Int.reduceLT, Int.reduceLE, Int.reduceEq, Int.reduceAdd, Int.reduceSub, Int.reduceNeg, Int.reduceBEq, Int.reduceBNe, Int.reduceMul, Int.natCast_add, Int.natCast_one, reduceCtorEq, reduceIte, s_isAgg, s_cells, t_isAgg, t_cells, yRules, bytes_lit, @a_wrap ((k:Int) + 1) (by omega)]
      · have : k = os.length := by omega
        subst this
        rw [List.take_length] at hi
        have hs : ∀ o ∈ os, o.stack.length < 1000000 := fun o ho => by
          have := List.all_eq_true.1 hi o ho
          simp at this; omega
        simp only [vcRules, dRules, bRules, tyRules, xRules, pickV_true, pickV_false, implies_true, Nat.reduceLT, Nat.reduceLeDiff, Nat.reduceEqDiff, Nat.reduceAdd, Nat.reduceSub, Nat.reduceMul, Int.reduceToNat, Int.reduceLT, Int.reduceLE, Int.reduceEq, Int.reduceAdd, Int.reduceSub, Int.reduceNeg, Int.reduceBEq, Int.reduceBNe, Int.reduceMul, Int.natCast_add, Int.natCast_one, reduceCtorEq, reduceIte, s_isAgg, s_cells, t_isAgg, t_cells, yRules, bytes_lit, (show ¬ (os.length:Int) < os.length by omega)]
        refine callF_pure (c22 os hs (by omega)) ?_
        simp only [vcRules, dRules, bRules, tyRules, xRules, pickV_true, pickV_false, implies_true, Nat.reduceLT, Nat.reduceLeDiff, Nat.reduceEqDiff, Nat.reduceAdd, Nat.reduceSub, Nat.reduceMul, Int.reduceToNat, Int.reduceLT, Int.reduceLE, Int.reduceEq, Int.reduceAdd, Int.reduceSub, Int.reduceNeg, Int.reduceBEq, Int.reduceBNe, Int.reduceMul, Int.natCast_add, Int.natCast_one, reduceCtorEq, reduceIte, s_isAgg, s_cells, t_isAgg, t_cells, yRules, bytes_lit]
        refine ⟨_, _, ret_d, ?_, rfl⟩
        rw [hb, hi, Bool.true_and]
end Ytlelaieadgkemaa
end Go.Proofs
