/- A part of the proof: contracts of functions of this seat, and lemmas. No condition beyond those stated. -/
import Derived.Test.YtlelaieadgkemaaM30d
set_option linter.unusedVariables false
set_option linter.unusedSimpArgs false
set_option linter.unusedSectionVars false
set_option linter.unnecessarySimpa false
set_option linter.unusedSimpArgs false
set_option linter.unusedVariables false
set_option maxRecDepth 100000
namespace Go.Proofs
open Go.AM
namespace Ytlelaieadgkemaa

/-! ### wide sums -/
def wD (h l : Int) : D := .agg [.int .i64 h, .int .i64 l]
theorem w_isAgg (h l : Int) : (wD h l).isAgg = true := rfl
theorem w_cells (h l : Int) : (wD h l).cells = [.int .i64 h, .int .i64 l] := rfl
theorem td_pos {a : Int} (b : Int) (h : 0 ≤ a) : a.tdiv b = a / b := Int.tdiv_eq_ediv_of_nonneg h
theorem td_facts (a b : Int) (hb : 0 < b) : a = b * a.tdiv b + a.tmod b ∧ -b < a.tmod b ∧ a.tmod b < b ∧ (0 ≤ a → 0 ≤ a.tmod b) ∧ (a ≤ 0 → a.tmod b ≤ 0) := by
  have h1 := Int.mul_tdiv_add_tmod a b
  refine ⟨by omega, ?_, ?_, fun h => Int.tmod_nonneg _ h, fun h => ?_⟩
  · have := Int.lt_tmod_of_pos a hb; omega
  · exact Int.tmod_lt_of_pos a hb
  · have := Int.tmod_nonneg (a := -a) b (by omega)
    rw [Int.neg_tmod] at this; omega
theorem settle_facts (l : Int) : (0 ≤ l.tmod 1099511627776 → l.tdiv 1099511627776 = l / 1099511627776 ∧ l.tmod 1099511627776 = l % 1099511627776) ∧
    (l.tmod 1099511627776 < 0 → l.tdiv 1099511627776 - 1 = l / 1099511627776 ∧ l.tmod 1099511627776 + 1099511627776 = l % 1099511627776) := by
  obtain ⟨h1, h2, h3, _, _⟩ := td_facts l 1099511627776 (by omega)
  generalize l.tdiv 1099511627776 = q at h1
  generalize l.tmod 1099511627776 = r at h1 h2 h3
  omega

theorem c49 (h l : Int) (hh : -1000000000000000000 ≤ h ∧ h ≤ 1000000000000000000) (hl : -1000000000000000000 ≤ l ∧ l ≤ 1000000000000000000) :
    ACalls Try.prog [] 49 [.ptr 0 0] [.box 2 (.d (wD h l))] (fun r s => r = .tup [] ∧ s = [.box 2 (.d (wD (h + l / 1099511627776) (l % 1099511627776)))]) := by
  obtain ⟨f1, f2, f3, _, _⟩ := td_facts l 1099511627776 (by omega)
  obtain ⟨g1, g2⟩ := settle_facts l
  generalize hq : l.tdiv 1099511627776 = q at f1 g1 g2
  generalize hr : l.tmod 1099511627776 = r at f1 f2 f3 g1 g2
  refine acalls_of Try.func49 rfl rfl (by simp [Try.ntmps49]) (evC_sound rfl _ _ _ _ ?_)
  simp only [Try.ntmps49, Try.results49, argEnv, List.length_nil]
  simp only [vcRules, dRules, bRules, tyRules, xRules, pickV_true, pickV_false, implies_true, Nat.reduceLT, Nat.reduceLeDiff, Nat.reduceEqDiff, Nat.reduceAdd, Nat.reduceSub, Nat.reduceMul, Int.reduceToNat, Int.reduceLT, Int.reduceLE, Int.reduceEq, Int.reduceAdd, Int.reduceSub, Int.reduceNeg, Int.reduceBEq, Int.reduceBNe, Int.reduceMul, Int.natCast_add, Int.natCast_one, reduceCtorEq, reduceIte, s_isAgg, s_cells, t_isAgg, t_cells, yRules, w_isAgg, w_cells]
  repeat ((with_reducible refine And.intro ?_ ?_); (focus (first | omega | (simp only [List.length_take, List.length_drop, List.length_map, List.length_append, List.length_cons]; omega) | (intros; simp_all; done) | (refine (show drawChk _ = true from ?_); kernel_rfl))))
  rw [hq, hr]
  refine ifC.mk (fun hc => ?_) (fun hc => ?_)
  · have hc : r < 0 := by simpa using hc
    obtain ⟨q1, q2⟩ := g2 hc
    refine ⟨_, _, WeakR.refl _ _ _, rfl, ?_⟩
    rw [@a_wrap (q) (by omega), @a_wrap (h + q) (by omega), @a_wrap (h + q - 1) (by omega), @a_wrap (r + 1099511627776) (by omega), ← q1, ← q2, show h + (q - 1) = h + q - 1 by omega]; rfl
  · have hc : 0 ≤ r := by simpa using hc
    obtain ⟨q1, q2⟩ := g1 hc
    refine ⟨_, _, WeakR.refl _ _ _, rfl, ?_⟩
    rw [@a_wrap (q) (by omega), @a_wrap (h + q) (by omega), ← q1, ← q2]; rfl

theorem mul_bd {a c A C : Int} (h1 : -A ≤ a) (h2 : a ≤ A) (h3 : 0 ≤ c) (h4 : c ≤ C) : -(A * C) ≤ a * c ∧ a * c ≤ A * C := by
  have hA : 0 ≤ A := by omega
  have e1 : a * c ≤ A * c := Int.mul_le_mul_of_nonneg_right h2 h3
  have e2 : A * c ≤ A * C := Int.mul_le_mul_of_nonneg_left h4 hA
  have e3 : -A * c ≤ a * c := Int.mul_le_mul_of_nonneg_right h1 h3
  have e4 : -A * c = -(A * c) := Int.neg_mul A c
  omega
def totD (S : Int) : D := wD (S / 1099511627776) (S % 1099511627776)
theorem c32 (S v t : Int) (hS : -100000000000000000000000000000 ≤ S ∧ S ≤ 100000000000000000000000000000) (hv : -1000000000000000 ≤ v ∧ v ≤ 1000000000000000) (ht : 0 ≤ t ∧ t ≤ 1000000000000) :
    ACalls Try.prog [] 32 [.ptr 0 0, .d (.int .i64 v), .d (.int .i64 t)] [.box 2 (.d (totD S))] (fun r s => r = .tup [] ∧ s = [.box 2 (.d (totD (S + v * t)))]) := by
  obtain ⟨f1, f2, f3, _, _⟩ := td_facts v 1048576 (by omega)
  obtain ⟨g1, g2, g3, g4, _⟩ := td_facts t 1048576 (by omega)
  obtain ⟨a, ha⟩ : ∃ a, a = v.tdiv 1048576 := ⟨_, rfl⟩
  obtain ⟨b, hb⟩ : ∃ b, b = v.tmod 1048576 := ⟨_, rfl⟩
  obtain ⟨c, hc⟩ : ∃ c, c = t.tdiv 1048576 := ⟨_, rfl⟩
  obtain ⟨d, hd⟩ : ∃ d, d = t.tmod 1048576 := ⟨_, rfl⟩
  rw [← ha, ← hb] at f1
  rw [← hb] at f2 f3
  rw [← hc, ← hd] at g1
  rw [← hd] at g2 g3 g4
  have g4 := g4 ht.1
  have b1 := mul_bd (a := a) (c := c) (A := 953674317) (C := 953675) (by omega) (by omega) (by omega) (by omega)
  have b2 := mul_bd (a := a) (c := d) (A := 953674317) (C := 1048576) (by omega) (by omega) (by omega) (by omega)
  have b3 := mul_bd (a := b) (c := c) (A := 1048576) (C := 953675) (by omega) (by omega) (by omega) (by omega)
  have b4 := mul_bd (a := b) (c := d) (A := 1048576) (C := 1048576) (by omega) (by omega) (by omega) (by omega)
  have hvt : v * t = 1099511627776 * (a * c) + 1048576 * (a * d) + 1048576 * (b * c) + b * d := by rw [f1, g1]; grind
  obtain ⟨P1, hP1⟩ : ∃ P, P = a * c := ⟨_, rfl⟩
  obtain ⟨P2, hP2⟩ : ∃ P, P = a * d := ⟨_, rfl⟩
  obtain ⟨P3, hP3⟩ : ∃ P, P = b * c := ⟨_, rfl⟩
  obtain ⟨P4, hP4⟩ : ∃ P, P = b * d := ⟨_, rfl⟩
  rw [← hP1, ← hP2, ← hP3, ← hP4] at hvt
  rw [← hP1] at b1
  rw [← hP2] at b2
  rw [← hP3] at b3
  rw [← hP4] at b4
  obtain ⟨m1, m2, m3, _, _⟩ := td_facts P2 1048576 (by omega)
  obtain ⟨n1, n2, n3, _, _⟩ := td_facts P3 1048576 (by omega)
  obtain ⟨q0, hq0⟩ : ∃ q, q = P2.tdiv 1048576 := ⟨_, rfl⟩
  obtain ⟨r0, hr0⟩ : ∃ q, q = P2.tmod 1048576 := ⟨_, rfl⟩
  obtain ⟨q1, hq1⟩ : ∃ q, q = P3.tdiv 1048576 := ⟨_, rfl⟩
  obtain ⟨r1, hr1⟩ : ∃ q, q = P3.tmod 1048576 := ⟨_, rfl⟩
  rw [← hq0, ← hr0] at m1
  rw [← hr0] at m2 m3
  rw [← hq1, ← hr1] at n1
  rw [← hr1] at n2 n3
  obtain ⟨h, hh⟩ : ∃ h, h = S / 1099511627776 := ⟨_, rfl⟩
  obtain ⟨l, hl⟩ : ∃ l, l = S % 1099511627776 := ⟨_, rfl⟩
  rw [totD, ← hh, ← hl]
  have hSl : S = 1099511627776 * h + l ∧ 0 ≤ l ∧ l < 1099511627776 := by omega
  refine acalls_of Try.func32 rfl rfl (by simp [Try.ntmps32]) (evC_sound rfl _ _ _ _ ?_)
  simp only [Try.ntmps32, Try.results32, argEnv, List.length_nil]
  simp only [vcRules, dRules, bRules, tyRules, xRules, pickV_true, pickV_false, implies_true, Nat.reduceLT, Nat.reduceLeDiff, Nat.reduceEqDiff, Nat.reduceAdd, Nat.reduceSub, Nat.reduceMul, Int.reduceToNat, Int.reduceLT, Int.reduceLE, Int.reduceEq, Int.reduceAdd, Int.reduceSub, Int.reduceNeg, Int.reduceBEq, Int.reduceBNe, Int.reduceMul, Int.natCast_add, Int.natCast_one, reduceCtorEq, reduceIte, s_isAgg, s_cells, t_isAgg, t_cells, yRules, w_isAgg, w_cells, ← ha, ← hb, ← hc, ← hd, @a_wrap (a) (by omega), @a_wrap (c) (by omega), ← hP1, ← hP2, ← hP3, @a_wrap (P1) (by omega), @a_wrap (P2) (by omega), @a_wrap (P3) (by omega), @a_wrap (h + P1) (by omega)]
  repeat ((with_reducible refine And.intro ?_ ?_); (focus (first | omega | (simp only [List.length_take, List.length_drop, List.length_map, List.length_append, List.length_cons]; omega) | (intros; simp_all; done) | (refine (show drawChk _ = true from ?_); kernel_rfl))))
  refine for_of 2 (fun k => [(0, .ptr 0 0), (7, .d (.int .i64 b)), (9, .d (.int .i64 d)), (36, .osl 1 0 2), (37, .d (.int .i64 2)), (38, .d (.int .i64 k))])
    (fun k => [.box 2 (.d (match k with | 0 => wD (h + P1) l | 1 => wD (h + P1 + q0) (l + r0 * 1048576) | _ => wD (h + P1 + q0 + q1) (l + r0 * 1048576 + r1 * 1048576))), .arr 1 [.int .i64 P2, .int .i64 P3]]) (fun _ => True) trivial ?_ ?_
  · refine weak_to [] [0, 1] rfl (by simp) ?_ rfl
    simp only [vcRules, dRules, bRules, tyRules, xRules, pickV_true, pickV_false, implies_true, Nat.reduceLT, Nat.reduceLeDiff, Nat.reduceEqDiff, Nat.reduceAdd, Nat.reduceSub, Nat.reduceMul, Int.reduceToNat, Int.reduceLT, Int.reduceLE, Int.reduceEq, Int.reduceAdd, Int.reduceSub, Int.reduceNeg, Int.reduceBEq, Int.reduceBNe, Int.reduceMul, Int.natCast_add, Int.natCast_one, reduceCtorEq, reduceIte, s_isAgg, s_cells, t_isAgg, t_cells, yRules, Int.cast_ofNat_Int]
  · intro k _ hk
    match k, hk with
    | 0, _ =>
      simp only [vcRules, dRules, bRules, tyRules, xRules, pickV_true, pickV_false, implies_true, Nat.reduceLT, Nat.reduceLeDiff, Nat.reduceEqDiff, Nat.reduceAdd, Nat.reduceSub, Nat.reduceMul, Int.reduceToNat, Int.reduceLT, Int.reduceLE, Int.reduceEq, Int.reduceAdd, Int.reduceSub, Int.reduceNeg, Int.reduceBEq, Int.reduceBNe, Int.reduceMul, Int.natCast_add, Int.natCast_one, reduceCtorEq, reduceIte, s_isAgg, s_cells, t_isAgg, t_cells, yRules, Int.cast_ofNat_Int, w_isAgg, w_cells, ← hq0, ← hr0, @a_wrap (q0) (by omega), @a_wrap (h + P1 + q0) (by omega), @a_wrap (r0 * 1048576) (by omega), @a_wrap (l + r0 * 1048576) (by omega)]
      repeat ((with_reducible refine And.intro ?_ ?_); (focus (first | omega | (simp only [List.length_take, List.length_drop, List.length_map, List.length_append, List.length_cons]; omega) | (intros; simp_all; done) | (refine (show drawChk _ = true from ?_); kernel_rfl))))
      refine weak_to [] [0, 1] rfl (by simp) ?_ rfl
      simp only [vcRules, dRules, bRules, tyRules, xRules, pickV_true, pickV_false, implies_true, Nat.reduceLT, Nat.reduceLeDiff, Nat.reduceEqDiff, Nat.reduceAdd, Nat.reduceSub, Nat.reduceMul, Int.reduceToNat, Int.reduceLT, Int.reduceLE, Int.reduceEq, Int.reduceAdd, Int.reduceSub, Int.reduceNeg, Int.reduceBEq, Int.reduceBNe, Int.reduceMul, Int.natCast_add, Int.natCast_one, reduceCtorEq, reduceIte, s_isAgg, s_cells, t_isAgg, t_cells, yRules, Int.cast_ofNat_Int, @a_wrap ((0:Int) + 1) (by omega)]
      kernel_rfl
    | 1, _ =>
      simp only [vcRules, dRules, bRules, tyRules, xRules, pickV_true, pickV_false, implies_true, Nat.reduceLT, Nat.reduceLeDiff, Nat.reduceEqDiff, Nat.reduceAdd, Nat.reduceSub, Nat.reduceMul, Int.reduceToNat, Int.reduceLT, Int.reduceLE, Int.reduceEq, Int.reduceAdd, Int.reduceSub, Int.reduceNeg, Int.reduceBEq, Int.reduceBNe, Int.reduceMul, Int.natCast_add, Int.natCast_one, reduceCtorEq, reduceIte, s_isAgg, s_cells, t_isAgg, t_cells, yRules, Int.cast_ofNat_Int, w_isAgg, w_cells, ← hq1, ← hr1, @a_wrap (q1) (by omega), @a_wrap (h + P1 + q0 + q1) (by omega), @a_wrap (r1 * 1048576) (by omega), @a_wrap (l + r0 * 1048576 + r1 * 1048576) (by omega)]
      repeat ((with_reducible refine And.intro ?_ ?_); (focus (first | omega | (simp only [List.length_take, List.length_drop, List.length_map, List.length_append, List.length_cons]; omega) | (intros; simp_all; done) | (refine (show drawChk _ = true from ?_); kernel_rfl))))
      refine weak_to [] [0, 1] rfl (by simp) ?_ rfl
      simp only [vcRules, dRules, bRules, tyRules, xRules, pickV_true, pickV_false, implies_true, Nat.reduceLT, Nat.reduceLeDiff, Nat.reduceEqDiff, Nat.reduceAdd, Nat.reduceSub, Nat.reduceMul, Int.reduceToNat, Int.reduceLT, Int.reduceLE, Int.reduceEq, Int.reduceAdd, Int.reduceSub, Int.reduceNeg, Int.reduceBEq, Int.reduceBNe, Int.reduceMul, Int.natCast_add, Int.natCast_one, reduceCtorEq, reduceIte, s_isAgg, s_cells, t_isAgg, t_cells, yRules, Int.cast_ofNat_Int, @a_wrap ((1:Int) + 1) (by omega)]
      kernel_rfl
    | 2, _ =>
      simp only [vcRules, dRules, bRules, tyRules, xRules, pickV_true, pickV_false, implies_true, Nat.reduceLT, Nat.reduceLeDiff, Nat.reduceEqDiff, Nat.reduceAdd, Nat.reduceSub, Nat.reduceMul, Int.reduceToNat, Int.reduceLT, Int.reduceLE, Int.reduceEq, Int.reduceAdd, Int.reduceSub, Int.reduceNeg, Int.reduceBEq, Int.reduceBNe, Int.reduceMul, Int.natCast_add, Int.natCast_one, reduceCtorEq, reduceIte, s_isAgg, s_cells, t_isAgg, t_cells, yRules, Int.cast_ofNat_Int, w_isAgg, w_cells, ← hP4, @a_wrap (P4) (by omega), @a_wrap (l + r0 * 1048576 + r1 * 1048576 + P4) (by omega)]
      repeat ((with_reducible refine And.intro ?_ ?_); (focus (first | omega | (simp only [List.length_take, List.length_drop, List.length_map, List.length_append, List.length_cons]; omega) | (intros; simp_all; done) | (refine (show drawChk _ = true from ?_); kernel_rfl))))
      refine callF_box1 0 (by simp) rfl (c49 _ _ (by omega) (by omega)) rfl fun r s hr => ?_
      obtain ⟨rfl, rfl⟩ := hr
      simp only [vcRules, dRules, bRules, tyRules, xRules, pickV_true, pickV_false, implies_true, Nat.reduceLT, Nat.reduceLeDiff, Nat.reduceEqDiff, Nat.reduceAdd, Nat.reduceSub, Nat.reduceMul, Int.reduceToNat, Int.reduceLT, Int.reduceLE, Int.reduceEq, Int.reduceAdd, Int.reduceSub, Int.reduceNeg, Int.reduceBEq, Int.reduceBNe, Int.reduceMul, Int.natCast_add, Int.natCast_one, reduceCtorEq, reduceIte, s_isAgg, s_cells, t_isAgg, t_cells, yRules, backS1b]
      refine ⟨_, _, weakR_to [] [0] rfl (by simp) rfl rfl, rfl, ?_⟩
      have e1 : (S + v * t) / 1099511627776 = h + P1 + q0 + q1 + (l + r0 * 1048576 + r1 * 1048576 + P4) / 1099511627776 := by omega
      have e2 : (S + v * t) % 1099511627776 = (l + r0 * 1048576 + r1 * 1048576 + P4) % 1099511627776 := by omega
      rw [totD, e1, e2]; rfl

def valF (S : Int) : Int × Bool := if (decide (1048576 < S / 1099511627776) || decide (S / 1099511627776 < -1048576)) = true then (0, false) else (S, inB S)
theorem shl40 (a : Int) : intBin .shl .i64 a 40 = .int .i64 (IntKind.i64.wrap (a * 1099511627776)) := rfl
theorem c33 (S : Int) : ACalls Try.prog [] 33 [.ptr 0 0] [.box 2 (.d (totD S))] (fun r s => r = .tup [.d (.int .i64 (valF S).1), .d (.bool (valF S).2)] ∧ s = [.box 2 (.d (totD S))]) := by
  obtain ⟨h, hh⟩ : ∃ h, h = S / 1099511627776 := ⟨_, rfl⟩
  obtain ⟨l, hl⟩ : ∃ l, l = S % 1099511627776 := ⟨_, rfl⟩
  have hSl : S = h * 1099511627776 + l ∧ 0 ≤ l ∧ l < 1099511627776 := by omega
  rw [totD, valF, ← hh, ← hl]
  refine acalls_of Try.func33 rfl rfl (by simp [Try.ntmps33]) (evC_sound rfl _ _ _ _ ?_)
  simp only [Try.ntmps33, Try.results33, argEnv, List.length_nil]
  simp only [vcRules, dRules, bRules, tyRules, xRules, pickV_true, pickV_false, implies_true, Nat.reduceLT, Nat.reduceLeDiff, Nat.reduceEqDiff, Nat.reduceAdd, Nat.reduceSub, Nat.reduceMul, Int.reduceToNat, Int.reduceLT, Int.reduceLE, Int.reduceEq, Int.reduceAdd, Int.reduceSub, Int.reduceNeg, Int.reduceBEq, Int.reduceBNe, Int.reduceMul, Int.natCast_add, Int.natCast_one, reduceCtorEq, reduceIte, s_isAgg, s_cells, t_isAgg, t_cells, yRules, w_isAgg, w_cells]
  refine ifC.mk (fun hc => ?_) (fun hc => ?_)
  · exact ⟨_, _, WeakR.refl _ _ _, by rw [if_pos hc], rfl⟩
  · have hb : -1048576 ≤ h ∧ h ≤ 1048576 := by
      simp only [Bool.or_eq_false_iff, decide_eq_false_iff_not] at hc
      omega
    (try simp only [vcRules, dRules, bRules, tyRules, xRules, pickV_true, pickV_false, implies_true, Nat.reduceLT, Nat.reduceLeDiff, Nat.reduceEqDiff, Nat.reduceAdd, Nat.reduceSub, Nat.reduceMul, Int.reduceToNat, Int.reduceLT, Int.reduceLE, Int.reduceEq, Int.reduceAdd, Int.reduceSub, Int.reduceNeg, Int.reduceBEq, Int.reduceBNe, Int.reduceMul, Int.natCast_add, Int.natCast_one, reduceCtorEq, reduceIte, s_isAgg, s_cells, t_isAgg, t_cells, yRules, w_isAgg, w_cells, shl40, @a_wrap (h * 1099511627776) (by omega), @a_wrap (h * 1099511627776 + l) (by omega)])
    refine ⟨by kernel_rfl, callF_pure (c30 _) ?_⟩
    simp only [vcRules, dRules, bRules, tyRules, xRules, pickV_true, pickV_false, implies_true, Nat.reduceLT, Nat.reduceLeDiff, Nat.reduceEqDiff, Nat.reduceAdd, Nat.reduceSub, Nat.reduceMul, Int.reduceToNat, Int.reduceLT, Int.reduceLE, Int.reduceEq, Int.reduceAdd, Int.reduceSub, Int.reduceNeg, Int.reduceBEq, Int.reduceBNe, Int.reduceMul, Int.natCast_add, Int.natCast_one, reduceCtorEq, reduceIte, s_isAgg, s_cells, t_isAgg, t_cells, yRules]
    refine ⟨_, _, WeakR.refl _ _ _, ?_, rfl⟩
    rw [if_neg (by rw [hc]; simp), hSl.1]; rfl

def cutT (l : List StepT) (name : List UInt8) (t : Int) (k : Nat) : Int := if (decide (k + 1 < l.length) && (l.getD (k + 1) default).name == name) = true then min t (l.getD (k + 1) default).at_ else t
def addS (l : List StepT) (name : List UInt8) (f t : Int) (k : Nat) : Int :=
  if (l.getD k default).name = name then (if max f (l.getD k default).at_ < cutT l name t k then (l.getD k default).value * (cutT l name t k - max f (l.getD k default).at_) else 0) else 0
def sumS (l : List StepT) (name : List UInt8) (f t : Int) : Nat → Int
  | 0 => 0
  | k + 1 => sumS l name f t k + addS l name f t k
def okSpan (f t : Int) : Bool := decide (0 ≤ f) && decide (f < t) && decide (t ≤ 1000000000000)
def intF (l : List StepT) (name : List UInt8) (f t : Int) : Int × Bool :=
  if okSpan f t = true then (if inB (sumS l name f t l.length) = true then (sumS l name f t l.length, true) else (0, false)) else (0, false)
theorem addS_bound {l : List StepT} (hv : ∀ b ∈ l, inB b.value = true) (name : List UInt8) {f t : Int} (hs : okSpan f t = true) {k : Nat} (hk : k < l.length) :
    -(1000000000000000 * 1000000000000) ≤ addS l name f t k ∧ addS l name f t k ≤ 1000000000000000 * 1000000000000 := by
  have hb := hv _ (mem_getD hk)
  unfold inB at hb
  unfold okSpan at hs
  simp only [Bool.and_eq_true, decide_eq_true_eq] at hb hs
  have hc : cutT l name t k ≤ t := by unfold cutT; split <;> omega
  unfold addS
  split
  · split
    · exact mul_bd (by omega) (by omega) (by omega) (by omega)
    · omega
  · omega
theorem sumS_bound {l : List StepT} (hv : ∀ b ∈ l, inB b.value = true) (hl : l.length ≤ 60) (name : List UInt8) {f t : Int} (hs : okSpan f t = true) : ∀ k, k ≤ l.length →
    -(1000000000000000 * 1000000000000 * k) ≤ sumS l name f t k ∧ sumS l name f t k ≤ 1000000000000000 * 1000000000000 * k
  | 0, _ => by simp [sumS]
  | k + 1, hk => by
    have ih := sumS_bound hv hl name hs k (by omega)
    have := addS_bound hv name hs (k := k) (by omega)
    rw [sumS]; omega
theorem val_in {S : Int} (h : -100000000000000000000000000000 ≤ S ∧ S ≤ 100000000000000000000000000000) : (valF S).2 = inB S ∧ (inB S = true → (valF S).1 = S) := by
  unfold valF
  split
  · rename_i hc
    have : inB S = false := by
      unfold inB
      simp only [Bool.or_eq_true, decide_eq_true_eq] at hc
      simp only [Bool.and_eq_false_iff, decide_eq_false_iff_not]
      omega
    rw [this]; exact ⟨rfl, fun h => by cases h⟩
  · exact ⟨rfl, fun _ => rfl⟩

theorem toNat_succ (k : Nat) : ((k : Int) + 1).toNat = k + 1 := rfl
theorem c20 (l : List StepT) (name : List UInt8) (f t : Int) (hl : l.length ≤ 60) (hv : ∀ b ∈ l, inB b.value = true) :
    Pure Try.prog 20 [.d (.sl (l.map StepT.toD)), .d (.str name), .d (.agg [.int .i64 f, .int .i64 t])] (.tup [.d (.int .i64 (intF l name f t).1), .d (.bool (intF l name f t).2)]) := by
  refine Pure.of3t2 ?_
  refine acalls_of Try.func20 rfl rfl (by simp [Try.ntmps20]) (evC_sound rfl _ _ _ _ ?_)
  simp only [Try.ntmps20, Try.results20, argEnv, List.length_nil]
  simp only [vcRules, dRules, bRules, tyRules, xRules, pickV_true, pickV_false, implies_true, Nat.reduceLT, Nat.reduceLeDiff, Nat.reduceEqDiff, Nat.reduceAdd, Nat.reduceSub, Nat.reduceMul, Int.reduceToNat, Int.reduceLT, Int.reduceLE, Int.reduceEq, Int.reduceAdd, Int.reduceSub, Int.reduceNeg, Int.reduceBEq, Int.reduceBNe, Int.reduceMul, Int.natCast_add, Int.natCast_one, reduceCtorEq, reduceIte, s_isAgg, s_cells, t_isAgg, t_cells, yRules]
  have hsp : (decide (f < 0) || decide (t ≤ f) || decide (1000000000000 < t)) = !okSpan f t := by
    unfold okSpan; rw [Bool.eq_iff_iff]; simp <;> omega
  rw [hsp]
  refine ifC.mk (fun h => ?_) (fun h => ?_)
  · have h : okSpan f t = false := by simpa using h
    refine ⟨_, _, ret_t2, ?_, rfl⟩
    rw [intF, if_neg (by rw [h]; simp)]
  · have h : okSpan f t = true := by simpa using h
    have hbd := sumS_bound hv hl name h
    have hft : 0 ≤ f ∧ f < t ∧ t ≤ 1000000000000 := by
      unfold okSpan at h; simp only [Bool.and_eq_true, decide_eq_true_eq] at h; omega
    repeat ((with_reducible refine And.intro ?_ ?_); (focus (first | omega | (simp only [List.length_take, List.length_drop, List.length_map, List.length_append, List.length_cons]; omega) | (intros; simp_all; done) | (refine (show drawChk _ = true from ?_); kernel_rfl))))
    refine for_of l.length (fun k => [(0, .d (.sl (l.map StepT.toD))), (1, .d (.str name)), (5, .ptr 0 0), (8, .ptr 1 0), (32, .d (.sl (l.map StepT.toD))), (33, .d (.int .i64 l.length)), (34, .d (.int .i64 k))])
      (fun k => [.box 2 (.d (wD f t)), .box 2 (.d (totD (sumS l name f t k)))]) (fun _ => True) trivial ?_ ?_
    · refine weak_to [] [0, 1] rfl (by simp) ?_ rfl
      simp only [vcRules, dRules, bRules, tyRules, xRules, pickV_true, pickV_false, implies_true, Nat.reduceLT, Nat.reduceLeDiff, Nat.reduceEqDiff, Nat.reduceAdd, Nat.reduceSub, Nat.reduceMul, Int.reduceToNat, Int.reduceLT, Int.reduceLE, Int.reduceEq, Int.reduceAdd, Int.reduceSub, Int.reduceNeg, Int.reduceBEq, Int.reduceBNe, Int.reduceMul, Int.natCast_add, Int.natCast_one, reduceCtorEq, reduceIte, s_isAgg, s_cells, t_isAgg, t_cells, yRules, Int.cast_ofNat_Int]
    · intro k _ hk
      by_cases h : k < l.length
      · obtain ⟨b, hb⟩ : ∃ b, b = l.getD k default := ⟨_, rfl⟩
        obtain ⟨S, hS⟩ : ∃ S, S = sumS l name f t k := ⟨_, rfl⟩
        have hst : sumS l name f t (k + 1) = S + addS l name f t k := by rw [sumS, hS]
        have hbS := hbd k hk
        rw [hst, ← hS]
        rw [← hS] at hbS
        by_cases hn : k + 1 < l.length
        · obtain ⟨c, hc⟩ : ∃ c, c = l.getD (k + 1) default := ⟨_, rfl⟩
          have hcut : cutT l name t k = if (c.name == name) = true then min t c.at_ else t := by
            unfold cutT; rw [decide_eq_true hn, Bool.true_and, hc]
          have e1 : IntKind.i64.wrap ((k : Int) + 1) = ((k + 1 : Nat) : Int) := by rw [wrap64 (by omega) (by omega)]; omega
          simp only [vcRules, dRules, bRules, tyRules, xRules, pickV_true, pickV_false, implies_true, Nat.reduceLT, Nat.reduceLeDiff, Nat.reduceEqDiff, Nat.reduceAdd, Nat.reduceSub, Nat.reduceMul, Int.reduceToNat, Int.reduceLT, Int.reduceLE, Int.reduceEq, Int.reduceAdd, Int.reduceSub, Int.reduceNeg, Int.reduceBEq, Int.reduceBNe, Int.reduceMul, Int.natCast_add, Int.natCast_one, reduceCtorEq, reduceIte, s_isAgg, s_cells, t_isAgg, t_cells, yRules, (show (k:Int) < l.length by omega), h, a_getD _ _ _ (show k < l.length by omega), ← hb, w_isAgg, w_cells, @a_wrap ((k:Int) + 1) (by omega), (show (k:Int) + 1 < l.length by omega), toNat_succ, hn, a_getD _ _ _ (show k + 1 < l.length by omega), ← hc]
          repeat ((with_reducible refine And.intro ?_ ?_); (focus (first | omega | (simp only [List.length_take, List.length_drop, List.length_map, List.length_append, List.length_cons]; omega) | (intros; simp_all; done) | (refine (show drawChk _ = true from ?_); kernel_rfl))))
          refine ifC.mk (fun h1 => ?_) (fun h1 => ?_)
          · have h1 : ¬ b.name = name := by simpa using h1
            have ha : addS l name f t k = 0 := by unfold addS; rw [← hb, if_neg h1]
            rw [ha, Int.add_zero]
            refine weak_to [] [0, 1] rfl (by simp) ?_ rfl
            simp only [vcRules, dRules, bRules, tyRules, xRules, pickV_true, pickV_false, implies_true, Nat.reduceLT, Nat.reduceLeDiff, Nat.reduceEqDiff, Nat.reduceAdd, Nat.reduceSub, Nat.reduceMul, Int.reduceToNat, Int.reduceLT, Int.reduceLE, Int.reduceEq, Int.reduceAdd, Int.reduceSub, Int.reduceNeg, Int.reduceBEq, Int.reduceBNe, Int.reduceMul, Int.natCast_add, Int.natCast_one, reduceCtorEq, reduceIte, s_isAgg, s_cells, t_isAgg, t_cells, yRules, @a_wrap ((k:Int) + 1) (by omega)]
          · have h1 : b.name = name := by simpa using h1
            (try simp only [vcRules, dRules, bRules, tyRules, xRules, pickV_true, pickV_false, implies_true, Nat.reduceLT, Nat.reduceLeDiff, Nat.reduceEqDiff, Nat.reduceAdd, Nat.reduceSub, Nat.reduceMul, Int.reduceToNat, Int.reduceLT, Int.reduceLE, Int.reduceEq, Int.reduceAdd, Int.reduceSub, Int.reduceNeg, Int.reduceBEq, Int.reduceBNe, Int.reduceMul, Int.natCast_add, Int.natCast_one, reduceCtorEq, reduceIte, s_isAgg, s_cells, t_isAgg, t_cells, yRules])
            repeat ((with_reducible refine And.intro ?_ ?_); (focus (first | omega | (simp only [List.length_take, List.length_drop, List.length_map, List.length_append, List.length_cons]; omega) | (intros; simp_all; done) | (refine (show drawChk _ = true from ?_); kernel_rfl))))
            refine ifC.mk (fun h2 => ?_) (fun h2 => ?_)
            · rw [if_pos h2] at hcut
              (try simp only [vcRules, dRules, bRules, tyRules, xRules, pickV_true, pickV_false, implies_true, Nat.reduceLT, Nat.reduceLeDiff, Nat.reduceEqDiff, Nat.reduceAdd, Nat.reduceSub, Nat.reduceMul, Int.reduceToNat, Int.reduceLT, Int.reduceLE, Int.reduceEq, Int.reduceAdd, Int.reduceSub, Int.reduceNeg, Int.reduceBEq, Int.reduceBNe, Int.reduceMul, Int.natCast_add, Int.natCast_one, reduceCtorEq, reduceIte, s_isAgg, s_cells, t_isAgg, t_cells, yRules, @a_wrap ((k:Int) + 1) (by omega), (show (k:Int) + 1 < l.length by omega), toNat_succ, hn, a_getD _ _ _ (show k + 1 < l.length by omega), ← hc])
              repeat ((with_reducible refine And.intro ?_ ?_); (focus (first | omega | (simp only [List.length_take, List.length_drop, List.length_map, List.length_append, List.length_cons]; omega) | (intros; simp_all; done) | (refine (show drawChk _ = true from ?_); kernel_rfl))))
              obtain ⟨u, hu⟩ : ∃ u, u = min t c.at_ := ⟨_, rfl⟩
              rw [← hu] at hcut ⊢
              have hut : u ≤ t := by omega
              refine ifC.mk (fun h3 => ?_) (fun h3 => ?_)
              · have h3 : max f b.at_ < u := by simpa using h3
                have ha : addS l name f t k = b.value * (u - max f b.at_) := by unfold addS; rw [← hb, if_pos h1, hcut, if_pos h3]
                have hbv := hv b (by rw [hb]; exact mem_getD h)
                unfold inB at hbv
                simp only [Bool.and_eq_true, decide_eq_true_eq] at hbv
                rw [ha, @a_wrap (u - max f b.at_) (by omega)]
                refine callF_box1 1 (by simp) rfl (c32 S b.value (u - max f b.at_) (by omega) (by omega) (by omega)) rfl fun r s hr => ?_
                obtain ⟨rfl, rfl⟩ := hr
                simp only [vcRules, dRules, bRules, tyRules, xRules, pickV_true, pickV_false, implies_true, Nat.reduceLT, Nat.reduceLeDiff, Nat.reduceEqDiff, Nat.reduceAdd, Nat.reduceSub, Nat.reduceMul, Int.reduceToNat, Int.reduceLT, Int.reduceLE, Int.reduceEq, Int.reduceAdd, Int.reduceSub, Int.reduceNeg, Int.reduceBEq, Int.reduceBNe, Int.reduceMul, Int.natCast_add, Int.natCast_one, reduceCtorEq, reduceIte, s_isAgg, s_cells, t_isAgg, t_cells, yRules, backS1b]
                refine weak_to [] [0, 1] rfl (by simp) ?_ rfl
                simp only [vcRules, dRules, bRules, tyRules, xRules, pickV_true, pickV_false, implies_true, Nat.reduceLT, Nat.reduceLeDiff, Nat.reduceEqDiff, Nat.reduceAdd, Nat.reduceSub, Nat.reduceMul, Int.reduceToNat, Int.reduceLT, Int.reduceLE, Int.reduceEq, Int.reduceAdd, Int.reduceSub, Int.reduceNeg, Int.reduceBEq, Int.reduceBNe, Int.reduceMul, Int.natCast_add, Int.natCast_one, reduceCtorEq, reduceIte, s_isAgg, s_cells, t_isAgg, t_cells, yRules, @a_wrap ((k:Int) + 1) (by omega)]
              · have h3 : ¬ max f b.at_ < u := by simpa using h3
                have ha : addS l name f t k = 0 := by unfold addS; rw [← hb, if_pos h1, hcut, if_neg h3]
                rw [ha, Int.add_zero]
                refine weak_to [] [0, 1] rfl (by simp) ?_ rfl
                simp only [vcRules, dRules, bRules, tyRules, xRules, pickV_true, pickV_false, implies_true, Nat.reduceLT, Nat.reduceLeDiff, Nat.reduceEqDiff, Nat.reduceAdd, Nat.reduceSub, Nat.reduceMul, Int.reduceToNat, Int.reduceLT, Int.reduceLE, Int.reduceEq, Int.reduceAdd, Int.reduceSub, Int.reduceNeg, Int.reduceBEq, Int.reduceBNe, Int.reduceMul, Int.natCast_add, Int.natCast_one, reduceCtorEq, reduceIte, s_isAgg, s_cells, t_isAgg, t_cells, yRules, @a_wrap ((k:Int) + 1) (by omega)]
            · rw [if_neg (by rw [h2]; simp)] at hcut
              refine ifC.mk (fun h3 => ?_) (fun h3 => ?_)
              · have h3 : max f b.at_ < t := by simpa using h3
                have ha : addS l name f t k = b.value * (t - max f b.at_) := by unfold addS; rw [← hb, if_pos h1, hcut, if_pos h3]
                have hbv := hv b (by rw [hb]; exact mem_getD h)
                unfold inB at hbv
                simp only [Bool.and_eq_true, decide_eq_true_eq] at hbv
                rw [ha, @a_wrap (t - max f b.at_) (by omega)]
                refine callF_box1 1 (by simp) rfl (c32 S b.value (t - max f b.at_) (by omega) (by omega) (by omega)) rfl fun r s hr => ?_
                obtain ⟨rfl, rfl⟩ := hr
                simp only [vcRules, dRules, bRules, tyRules, xRules, pickV_true, pickV_false, implies_true, Nat.reduceLT, Nat.reduceLeDiff, Nat.reduceEqDiff, Nat.reduceAdd, Nat.reduceSub, Nat.reduceMul, Int.reduceToNat, Int.reduceLT, Int.reduceLE, Int.reduceEq, Int.reduceAdd, Int.reduceSub, Int.reduceNeg, Int.reduceBEq, Int.reduceBNe, Int.reduceMul, Int.natCast_add, Int.natCast_one, reduceCtorEq, reduceIte, s_isAgg, s_cells, t_isAgg, t_cells, yRules, backS1b]
                refine weak_to [] [0, 1] rfl (by simp) ?_ rfl
                simp only [vcRules, dRules, bRules, tyRules, xRules, pickV_true, pickV_false, implies_true, Nat.reduceLT, Nat.reduceLeDiff, Nat.reduceEqDiff, Nat.reduceAdd, Nat.reduceSub, Nat.reduceMul, Int.reduceToNat, Int.reduceLT, Int.reduceLE, Int.reduceEq, Int.reduceAdd, Int.reduceSub, Int.reduceNeg, Int.reduceBEq, Int.reduceBNe, Int.reduceMul, Int.natCast_add, Int.natCast_one, reduceCtorEq, reduceIte, s_isAgg, s_cells, t_isAgg, t_cells, yRules, @a_wrap ((k:Int) + 1) (by omega)]
              · have h3 : ¬ max f b.at_ < t := by simpa using h3
                have ha : addS l name f t k = 0 := by unfold addS; rw [← hb, if_pos h1, hcut, if_neg h3]
                rw [ha, Int.add_zero]
                refine weak_to [] [0, 1] rfl (by simp) ?_ rfl
                simp only [vcRules, dRules, bRules, tyRules, xRules, pickV_true, pickV_false, implies_true, Nat.reduceLT, Nat.reduceLeDiff, Nat.reduceEqDiff, Nat.reduceAdd, Nat.reduceSub, Nat.reduceMul, Int.reduceToNat, Int.reduceLT, Int.reduceLE, Int.reduceEq, Int.reduceAdd, Int.reduceSub, Int.reduceNeg, Int.reduceBEq, Int.reduceBNe, Int.reduceMul, Int.natCast_add, Int.natCast_one, reduceCtorEq, reduceIte, s_isAgg, s_cells, t_isAgg, t_cells, yRules, @a_wrap ((k:Int) + 1) (by omega)]
        · have hcut : cutT l name t k = t := by
            unfold cutT; rw [decide_eq_false hn, Bool.false_and, if_neg (by simp)]
          simp only [vcRules, dRules, bRules, tyRules, xRules, pickV_true, pickV_false, implies_true, Nat.reduceLT, Nat.reduceLeDiff, Nat.reduceEqDiff, Nat.reduceAdd, Nat.reduceSub, Nat.reduceMul, Int.reduceToNat, Int.reduceLT, Int.reduceLE, Int.reduceEq, Int.reduceAdd, Int.reduceSub, Int.reduceNeg, Int.reduceBEq, Int.reduceBNe, Int.reduceMul, Int.natCast_add, Int.natCast_one, reduceCtorEq, reduceIte, s_isAgg, s_cells, t_isAgg, t_cells, yRules, (show (k:Int) < l.length by omega), h, a_getD _ _ _ (show k < l.length by omega), ← hb, w_isAgg, w_cells, @a_wrap ((k:Int) + 1) (by omega), (show ¬ (k:Int) + 1 < l.length by omega), toNat_succ, hn]
          repeat ((with_reducible refine And.intro ?_ ?_); (focus (first | omega | (simp only [List.length_take, List.length_drop, List.length_map, List.length_append, List.length_cons]; omega) | (intros; simp_all; done) | (refine (show drawChk _ = true from ?_); kernel_rfl))))
          refine ifC.mk (fun h1 => ?_) (fun h1 => ?_)
          · have h1 : ¬ b.name = name := by simpa using h1
            have ha : addS l name f t k = 0 := by unfold addS; rw [← hb, if_neg h1]
            rw [ha, Int.add_zero]
            refine weak_to [] [0, 1] rfl (by simp) ?_ rfl
            simp only [vcRules, dRules, bRules, tyRules, xRules, pickV_true, pickV_false, implies_true, Nat.reduceLT, Nat.reduceLeDiff, Nat.reduceEqDiff, Nat.reduceAdd, Nat.reduceSub, Nat.reduceMul, Int.reduceToNat, Int.reduceLT, Int.reduceLE, Int.reduceEq, Int.reduceAdd, Int.reduceSub, Int.reduceNeg, Int.reduceBEq, Int.reduceBNe, Int.reduceMul, Int.natCast_add, Int.natCast_one, reduceCtorEq, reduceIte, s_isAgg, s_cells, t_isAgg, t_cells, yRules, @a_wrap ((k:Int) + 1) (by omega)]
          · have h1 : b.name = name := by simpa using h1
            (try simp only [vcRules, dRules, bRules, tyRules, xRules, pickV_true, pickV_false, implies_true, Nat.reduceLT, Nat.reduceLeDiff, Nat.reduceEqDiff, Nat.reduceAdd, Nat.reduceSub, Nat.reduceMul, Int.reduceToNat, Int.reduceLT, Int.reduceLE, Int.reduceEq, Int.reduceAdd, Int.reduceSub, Int.reduceNeg, Int.reduceBEq, Int.reduceBNe, Int.reduceMul, Int.natCast_add, Int.natCast_one, reduceCtorEq, reduceIte, s_isAgg, s_cells, t_isAgg, t_cells, yRules])
            repeat ((with_reducible refine And.intro ?_ ?_); (focus (first | omega | (simp only [List.length_take, List.length_drop, List.length_map, List.length_append, List.length_cons]; omega) | (intros; simp_all; done) | (refine (show drawChk _ = true from ?_); kernel_rfl))))
            refine ifC.mk (fun h3 => ?_) (fun h3 => ?_)
            · have h3 : max f b.at_ < t := by simpa using h3
              have ha : addS l name f t k = b.value * (t - max f b.at_) := by unfold addS; rw [← hb, if_pos h1, hcut, if_pos h3]
              have hbv := hv b (by rw [hb]; exact mem_getD h)
              unfold inB at hbv
              simp only [Bool.and_eq_true, decide_eq_true_eq] at hbv
              rw [ha, @a_wrap (t - max f b.at_) (by omega)]
              refine callF_box1 1 (by simp) rfl (c32 S b.value (t - max f b.at_) (by omega) (by omega) (by omega)) rfl fun r s hr => ?_
              obtain ⟨rfl, rfl⟩ := hr
              simp only [vcRules, dRules, bRules, tyRules, xRules, pickV_true, pickV_false, implies_true, Nat.reduceLT, Nat.reduceLeDiff, Nat.reduceEqDiff, Nat.reduceAdd, Nat.reduceSub, Nat.reduceMul, Int.reduceToNat, Int.reduceLT, Int.reduceLE, Int.reduceEq, Int.reduceAdd, Int.reduceSub, Int.reduceNeg, Int.reduceBEq, Int.reduceBNe, Int.reduceMul, Int.natCast_add, Int.natCast_one, reduceCtorEq, reduceIte, s_isAgg, s_cells, t_isAgg, t_cells, yRules, backS1b]
              refine weak_to [] [0, 1] rfl (by simp) ?_ rfl
              simp only [vcRules, dRules, bRules, tyRules, xRules, pickV_true, pickV_false, implies_true, Nat.reduceLT, Nat.reduceLeDiff, Nat.reduceEqDiff, Nat.reduceAdd, Nat.reduceSub, Nat.reduceMul, Int.reduceToNat, Int.reduceLT, Int.reduceLE, Int.reduceEq, Int.reduceAdd, Int.reduceSub, Int.reduceNeg, Int.reduceBEq, Int.reduceBNe, Int.reduceMul, Int.natCast_add, Int.natCast_one, reduceCtorEq, reduceIte, s_isAgg, s_cells, t_isAgg, t_cells, yRules, @a_wrap ((k:Int) + 1) (by omega)]
            · have h3 : ¬ max f b.at_ < t := by simpa using h3
              have ha : addS l name f t k = 0 := by unfold addS; rw [← hb, if_pos h1, hcut, if_neg h3]
              rw [ha, Int.add_zero]
              refine weak_to [] [0, 1] rfl (by simp) ?_ rfl
              simp only [vcRules, dRules, bRules, tyRules, xRules, pickV_true, pickV_false, implies_true, Nat.reduceLT, Nat.reduceLeDiff, Nat.reduceEqDiff, Nat.reduceAdd, Nat.reduceSub, Nat.reduceMul, Int.reduceToNat, Int.reduceLT, Int.reduceLE, Int.reduceEq, Int.reduceAdd, Int.reduceSub, Int.reduceNeg, Int.reduceBEq, Int.reduceBNe, Int.reduceMul, Int.natCast_add, Int.natCast_one, reduceCtorEq, reduceIte, s_isAgg, s_cells, t_isAgg, t_cells, yRules, @a_wrap ((k:Int) + 1) (by omega)]
      · have : k = l.length := by omega
        subst this
        have hb := hbd l.length (Nat.le_refl _)
        obtain ⟨v1, v2⟩ := val_in (S := sumS l name f t l.length) (by omega)
        simp only [vcRules, dRules, bRules, tyRules, xRules, pickV_true, pickV_false, implies_true, Nat.reduceLT, Nat.reduceLeDiff, Nat.reduceEqDiff, Nat.reduceAdd, Nat.reduceSub, Nat.reduceMul, Int.reduceToNat, Int.reduceLT, Int.reduceLE, Int.reduceEq, Int.reduceAdd, Int.reduceSub, Int.reduceNeg, Int.reduceBEq, Int.reduceBNe, Int.reduceMul, Int.natCast_add, Int.natCast_one, reduceCtorEq, reduceIte, s_isAgg, s_cells, t_isAgg, t_cells, yRules, (show ¬ (l.length:Int) < l.length by omega)]
        refine callF_box1 1 (by simp) rfl (c33 _) rfl fun r s hr => ?_
        obtain ⟨rfl, rfl⟩ := hr
        rw [v1]
        simp only [vcRules, dRules, bRules, tyRules, xRules, pickV_true, pickV_false, implies_true, Nat.reduceLT, Nat.reduceLeDiff, Nat.reduceEqDiff, Nat.reduceAdd, Nat.reduceSub, Nat.reduceMul, Int.reduceToNat, Int.reduceLT, Int.reduceLE, Int.reduceEq, Int.reduceAdd, Int.reduceSub, Int.reduceNeg, Int.reduceBEq, Int.reduceBNe, Int.reduceMul, Int.natCast_add, Int.natCast_one, reduceCtorEq, reduceIte, s_isAgg, s_cells, t_isAgg, t_cells, yRules, backS1b, y_back_tup2]
        refine ifC.mk (fun h3 => ?_) (fun h3 => ?_)
        · refine ⟨_, _, ret_t2, ?_, rfl⟩
          have h3 : inB (sumS l name f t l.length) = false := by simpa using h3
          rw [intF, if_pos ‹okSpan f t = true›, if_neg (by rw [h3]; simp)]
        · have h3 : inB (sumS l name f t l.length) = true := by simpa using h3
          refine ⟨_, _, ret_t2, ?_, rfl⟩
          rw [intF, if_pos ‹okSpan f t = true›, if_pos h3, v2 h3]
end Ytlelaieadgkemaa
end Go.Proofs
