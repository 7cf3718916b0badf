/- A part of the proof: contracts of functions of this seat, and lemmas. No condition beyond those stated. -/
import Derived.Test.YtkoebmjenkajdaaDoorR02d
set_option linter.unusedVariables false
set_option linter.unusedSimpArgs false
set_option linter.unusedSectionVars false
set_option linter.unnecessarySimpa false
set_option linter.unusedSimpArgs false
set_option linter.unusedVariables false
set_option maxRecDepth 100000
namespace Go.Proofs
open Go.AM
namespace YtkoebmjenkajdaaDoor
variable {Gl : Globs}
theorem geW (a : Nat) : decide ((a : Int) ≥ 4294967296) = decide (4294967296 ≤ a) := by
  by_cases h : 4294967296 ≤ a
  · rw [decide_eq_true h, decide_eq_true]; omega
  · rw [decide_eq_false h, decide_eq_false]; omega
theorem leW (a b : Nat) : decide ((a : Int) ≤ (b : Int)) = decide (a ≤ b) := by
  by_cases h : a ≤ b
  · rw [decide_eq_true h, decide_eq_true]; omega
  · rw [decide_eq_false h, decide_eq_false]; omega
theorem wr2 {a b X Y R : Nat} (h : X = Y + R) (hR : R < 18446744073709551616) : IntKind.u64.wrap (IntKind.u64.wrap (X : Int) - IntKind.u64.wrap (Y : Int)) = (R : Int) := by
  simp only [wrapu]; omega
set_option maxHeartbeats 16000000 in
theorem c59 (hi lo y : Nat) (h0 : hi < y) (hy : y < 18446744073709551616) (hl : lo < 18446744073709551616) :
    Pure Tryd.prog Gl 59 [.d (.int .u64 hi), .d (.int .u64 lo), .d (.int .u64 y)] (.tup [.d (.int .u64 (((hi * 18446744073709551616 + lo) / y : Nat) : Int)), .d (.int .u64 (((hi * 18446744073709551616 + lo) % y : Nat) : Int))]) := by
  refine Pure.of3t2 ?_
  refine acalls_of Tryd.func59 rfl rfl (by simp [Tryd.ntmps59]) (evC_sound rfl _ _ _ _ ?_)
  simp only [Tryd.ntmps59, Tryd.results59, argEnv, List.length_nil]
  simp only [vcRules, dRules, bRules, tyRules, xRules, pickV_true, pickV_false, implies_true, Nat.reduceLT, Nat.reduceLeDiff, Nat.reduceEqDiff, Nat.reduceAdd, Nat.reduceSub, Nat.reduceMul, Int.reduceToNat, Int.reduceLT, Int.reduceLE, Int.reduceEq, Int.reduceAdd, Int.reduceSub, Int.reduceNeg, Int.reduceBEq, Int.reduceBNe, Int.reduceMul, Int.natCast_add, Int.natCast_one, reduceCtorEq, reduceIte, wN_isAgg, wN_cells, gD_isAgg, gD_cells, yRules, a_eq_f (show ¬ ((y:Int) = 0) by omega), (show ¬ (y:Int) ≤ (hi:Int) by omega)]
  refine ifC.mk (fun hc => ?_) (fun hc => ?_)
  · have hc : hi = 0 := by have := beq_iff_eq.1 hc; omega
    subst hc
    repeat ((with_reducible refine And.intro ?_ ?_); (focus (first | omega | (simp only [List.length_take, List.length_drop, List.length_map, List.length_append, List.length_cons]; omega) | (refine (show quietOp _ = true from ?_); rfl) | (refine (show drawOk _ _ _ _ _ _ _ from Or.inl ?_); kernel_rfl) | (intros; simp_all; done))))
    refine ⟨_, _, ret_t2, ?_, rfl⟩
    have : lo / y < 18446744073709551616 := Nat.lt_of_le_of_lt (Nat.div_le_self _ _) hl
    rw [quoN, remN, Nat.zero_mul, Nat.zero_add, Mul64.wrapN _ this]
  · obtain ⟨P, Y, u, v, w, Q1, u2, Q0, d⟩ := divF h0 hy hl
    obtain ⟨s, hs⟩ : ∃ s, s = 64 - Lib.bitLen y := ⟨_, rfl⟩
    rw [← hs] at d
    have s64 := d.s64
    have Y1 := d.Y1
    have Y2 := d.Y2
    have uY := d.uY
    have v2 := d.v2
    have w2 := d.w2
    obtain ⟨h, eh⟩ : ∃ h, h = Y / 4294967296 := ⟨_, rfl⟩
    obtain ⟨l, el⟩ : ∃ l, l = Y % 4294967296 := ⟨_, rfl⟩
    have hl1 : 2147483648 ≤ h := by omega
    have hl2 : h < 4294967296 := by omega
    have ll : l < 4294967296 := by omega
    have hY : Y = h * 4294967296 + l := by omega
    have ew : IntKind.u64.wrap (s : Int) = (s : Int) := by rw [wrapu]; omega
    have ew2 : IntKind.u64.wrap ((64 : Int) - (s : Int)) = ((64 - s : Nat) : Int) := by rw [wrapu]; omega
    have u10 := d.u10
    obtain ⟨w10, hw10⟩ : ∃ w10, w10 = v * 4294967296 + w := ⟨_, rfl⟩
    rw [← hw10] at u10
    have e10 : w10 / 4294967296 = v := by omega
    have e11 : w10 % 4294967296 = w := by omega
    have eq0 : IntKind.u64.wrap ((u : Int).tdiv (h : Int)) = ((u / h : Nat) : Int) := by
      rw [quoN, Mul64.wrapN]
      exact Nat.lt_of_le_of_lt (Nat.div_le_self _ _) (by omega)
    have er0 : IntKind.u64.wrap ((u : Int) - IntKind.u64.wrap (((u / h : Nat) : Int) * (h : Int))) = ((u % h : Nat) : Int) := by
      have := Nat.div_add_mod' u h
      rw [← Int.natCast_mul, Mul64.wrapN _ (by omega), wrapu]; omega
    have k0 := kd_first hl1 ll (by omega : u < h * 4294967296 + l) v2 (by rw [d.q1, hY] : Q1 = _)
    refine callF_pure (c65 y hy) ?_
    rw [← hs]
    simp only [vcRules, dRules, bRules, tyRules, xRules, pickV_true, pickV_false, implies_true, Nat.reduceLT, Nat.reduceLeDiff, Nat.reduceEqDiff, Nat.reduceAdd, Nat.reduceSub, Nat.reduceMul, Int.reduceToNat, Int.reduceLT, Int.reduceLE, Int.reduceEq, Int.reduceAdd, Int.reduceSub, Int.reduceNeg, Int.reduceBEq, Int.reduceBNe, Int.reduceMul, Int.natCast_add, Int.natCast_one, reduceCtorEq, reduceIte, wN_isAgg, wN_cells, gD_isAgg, gD_cells, yRules, okAnd, okOr, true_and, ew, ew2, eShl y s s64, d.Yw, shr32, and32 Y Y2, eShl hi s s64, eShl lo s s64, u10, and32 w10 (by omega), eShr lo (64 - s) (by omega), d.uor, e10, e11, ← eh, ← el, eq0, er0]
    repeat ((with_reducible refine And.intro ?_ ?_); (focus (first | omega | (simp only [List.length_take, List.length_drop, List.length_map, List.length_append, List.length_cons]; omega) | (refine (show quietOp _ = true from ?_); rfl) | (refine (show drawOk _ _ _ _ _ _ _ from Or.inl ?_); kernel_rfl) | (intros; simp_all; done))))
    have hrlt : u % h < h := Nat.mod_lt _ (by omega)
    have hu2Y : u2 < Y := by rw [d.u2e]; exact Nat.mod_lt _ (by omega)
    have hQ1 : Q1 < 4294967296 := kd_lt hl1 (by omega : u < h * 4294967296 + l) v2 (by rw [d.q1, hY])
    have hQ0 : Q0 < 4294967296 := kd_lt hl1 (by omega : u2 < h * 4294967296 + l) w2 (by rw [d.q0, hY])
    have hr2lt : u2 % h < h := Nat.mod_lt _ (by omega)
    have k1 := kd_first hl1 ll (by omega : u2 < h * 4294967296 + l) w2 (by rw [d.q0, hY] : Q0 = _)
    have e21 : IntKind.u64.wrap (IntKind.u64.wrap (IntKind.u64.wrap ((u : Int) * 4294967296) + (v : Int)) - IntKind.u64.wrap ((Q1 : Int) * (Y : Int))) = (u2 : Int) := by
      have e := Nat.div_add_mod' (u * 4294967296 + v) Y
      rw [← d.q1, ← d.u2e] at e
      rw [← Int.natCast_mul Q1 Y]
      simp only [wrapu]; omega
    have eq2 : IntKind.u64.wrap ((u2 : Int).tdiv (h : Int)) = ((u2 / h : Nat) : Int) := by
      rw [quoN, Mul64.wrapN]
      exact Nat.lt_of_le_of_lt (Nat.div_le_self _ _) (by omega)
    have er2 : IntKind.u64.wrap ((u2 : Int) - IntKind.u64.wrap (((u2 / h : Nat) : Int) * (h : Int))) = ((u2 % h : Nat) : Int) := by
      have := Nat.div_add_mod' u2 h
      rw [← Int.natCast_mul, Mul64.wrapN _ (by omega), wrapu]; omega
    obtain ⟨R, hR⟩ : ∃ R, R = (u2 * 4294967296 + w) % Y := ⟨_, rfl⟩
    have hRY : R < Y := by rw [hR]; exact Nat.mod_lt _ (by omega)
    have eF1 : IntKind.u64.wrap (IntKind.u64.wrap ((Q1 : Int) * 4294967296) + (Q0 : Int)) = ((Q1 * 4294967296 + Q0 : Nat) : Int) := by
      simp only [wrapu]; omega
    have eF2 : IntKind.u64.wrap (IntKind.u64.wrap (IntKind.u64.wrap ((u2 : Int) * 4294967296) + (w : Int)) - IntKind.u64.wrap ((Q0 : Int) * (Y : Int))) = (R : Int) := by
      have e := Nat.div_add_mod' (u2 * 4294967296 + w) Y
      rw [← d.q0, ← hR] at e
      rw [← Int.natCast_mul Q0 Y]
      simp only [wrapu]; omega
    refine loop_of (τ := Nat × Nat) (fun p => [(2, .d (.int .u64 Y)), (8, .d (.int .u64 s)), (9, .d (.int .u64 h)), (10, .d (.int .u64 l)), (11, .d (.int .u64 u)), (13, .d (.int .u64 v)), (14, .d (.int .u64 w)), (15, .d (.int .u64 p.1)), (16, .d (.int .u64 p.2))]) (fun _ => []) (fun p => KD h l u v Q1 p.1 p.2 ∧ p.1 ≤ 4294967297 ∧ p.2 < 4294967296) (fun p => p.1) (u / h, u % h) ⟨k0.1, k0.2, by omega⟩ ?_ ?_
    · refine weak_to [] [] rfl List.nodup_nil ?_ rfl
      simp only [vcRules, dRules, bRules, tyRules, xRules, pickV_true, pickV_false, implies_true, Nat.reduceLT, Nat.reduceLeDiff, Nat.reduceEqDiff, Nat.reduceAdd, Nat.reduceSub, Nat.reduceMul, Int.reduceToNat, Int.reduceLT, Int.reduceLE, Int.reduceEq, Int.reduceAdd, Int.reduceSub, Int.reduceNeg, Int.reduceBEq, Int.reduceBNe, Int.reduceMul, Int.natCast_add, Int.natCast_one, reduceCtorEq, reduceIte, wN_isAgg, wN_cells, gD_isAgg, gD_cells, yRules]
    · rintro ⟨q, r⟩ ⟨k, hq, hr⟩
      simp only at k hq hr
      by_cases hb : 4294967296 ≤ q
      · have e1 : decide ((q : Int) ≥ 4294967296) = true := decide_eq_true (by omega)
        obtain ⟨hq1, k2⟩ := kd_more hl1 (by omega : u < h * 4294967296 + l) v2 (by rw [d.q1, hY] : Q1 = _) k (.inl hb)
        have ed : IntKind.u64.wrap ((q : Int) - 1) = ((q - 1 : Nat) : Int) := by rw [wrapu]; omega
        have er : IntKind.u64.wrap ((r : Int) + (h : Int)) = (r : Int) + (h : Int) := by rw [wrapu]; omega
        by_cases hbig : 4294967296 ≤ r + h
        · have eQ1 := kd_big hl1 ll (by rw [d.q1, hY] : Q1 = _) k2 (by omega) hbig
          have g2 : decide ((4294967296 : Int) ≤ (r : Int) + (h : Int)) = true := decide_eq_true (by omega)
          rw [eQ1] at ed
          simp only [vcRules, dRules, bRules, tyRules, xRules, pickV_true, pickV_false, implies_true, Nat.reduceLT, Nat.reduceLeDiff, Nat.reduceEqDiff, Nat.reduceAdd, Nat.reduceSub, Nat.reduceMul, Int.reduceToNat, Int.reduceLT, Int.reduceLE, Int.reduceEq, Int.reduceAdd, Int.reduceSub, Int.reduceNeg, Int.reduceBEq, Int.reduceBNe, Int.reduceMul, Int.natCast_add, Int.natCast_one, reduceCtorEq, reduceIte, wN_isAgg, wN_cells, gD_isAgg, gD_cells, yRules, e1, ed, er, g2, e21, eq2, er2]
          repeat ((with_reducible refine And.intro ?_ ?_); (focus (first | omega | (simp only [List.length_take, List.length_drop, List.length_map, List.length_append, List.length_cons]; omega) | (refine (show quietOp _ = true from ?_); rfl) | (refine (show drawOk _ _ _ _ _ _ _ from Or.inl ?_); kernel_rfl) | (intros; simp_all; done))))
          refine loop_of (τ := Nat × Nat) (fun p => [(2, .d (.int .u64 Y)), (8, .d (.int .u64 s)), (9, .d (.int .u64 h)), (10, .d (.int .u64 l)), (14, .d (.int .u64 w)), (15, .d (.int .u64 Q1)), (17, .d (.int .u64 u2)), (18, .d (.int .u64 p.1)), (16, .d (.int .u64 p.2))]) (fun _ => []) (fun p => KD h l u2 w Q0 p.1 p.2 ∧ p.1 ≤ 4294967297 ∧ p.2 < 4294967296) (fun p => p.1) (u2 / h, u2 % h) ⟨k1.1, k1.2, by omega⟩ ?_ ?_
          · refine weak_to [] [] rfl List.nodup_nil ?_ rfl
            simp only [vcRules, dRules, bRules, tyRules, xRules, pickV_true, pickV_false, implies_true, Nat.reduceLT, Nat.reduceLeDiff, Nat.reduceEqDiff, Nat.reduceAdd, Nat.reduceSub, Nat.reduceMul, Int.reduceToNat, Int.reduceLT, Int.reduceLE, Int.reduceEq, Int.reduceAdd, Int.reduceSub, Int.reduceNeg, Int.reduceBEq, Int.reduceBNe, Int.reduceMul, Int.natCast_add, Int.natCast_one, reduceCtorEq, reduceIte, wN_isAgg, wN_cells, gD_isAgg, gD_cells, yRules]
          · rintro ⟨q', r'⟩ ⟨k', hq', hr'⟩
            simp only at k' hq' hr'
            by_cases hb' : 4294967296 ≤ q'
            · have e1' : decide ((q' : Int) ≥ 4294967296) = true := decide_eq_true (by omega)
              have hmore' : 4294967296 ≤ q' ∨ 4294967296 * r' + w < q' * l := .inl hb'
              obtain ⟨hq1', k2'⟩ := kd_more hl1 (by omega : u2 < h * 4294967296 + l) w2 (by rw [d.q0, hY] : Q0 = _) k' hmore'
              have ed' : IntKind.u64.wrap ((q' : Int) - 1) = ((q' - 1 : Nat) : Int) := by rw [wrapu]; omega
              have er' : IntKind.u64.wrap ((r' : Int) + (h : Int)) = (r' : Int) + (h : Int) := by rw [wrapu]; omega
              by_cases hbig' : 4294967296 ≤ r' + h
              · have eQ2 := kd_big hl1 ll (by rw [d.q0, hY] : Q0 = _) k2' (by omega) hbig'
                have g2' : decide ((4294967296 : Int) ≤ (r' : Int) + (h : Int)) = true := decide_eq_true (by omega)
                rw [eQ2] at ed'
                simp only [vcRules, dRules, bRules, tyRules, xRules, pickV_true, pickV_false, implies_true, Nat.reduceLT, Nat.reduceLeDiff, Nat.reduceEqDiff, Nat.reduceAdd, Nat.reduceSub, Nat.reduceMul, Int.reduceToNat, Int.reduceLT, Int.reduceLE, Int.reduceEq, Int.reduceAdd, Int.reduceSub, Int.reduceNeg, Int.reduceBEq, Int.reduceBNe, Int.reduceMul, Int.natCast_add, Int.natCast_one, reduceCtorEq, reduceIte, wN_isAgg, wN_cells, gD_isAgg, gD_cells, yRules, e1', ed', er', g2', eF1, eF2, eShr R s s64]
                refine ⟨_, _, ret_t2, ?_, rfl⟩
                rw [← d.resq, ← d.resr, ← hR, Int.natCast_add]
              · have g2' : decide ((4294967296 : Int) ≤ (r' : Int) + (h : Int)) = false := decide_eq_false (by omega)
                simp only [vcRules, dRules, bRules, tyRules, xRules, pickV_true, pickV_false, implies_true, Nat.reduceLT, Nat.reduceLeDiff, Nat.reduceEqDiff, Nat.reduceAdd, Nat.reduceSub, Nat.reduceMul, Int.reduceToNat, Int.reduceLT, Int.reduceLE, Int.reduceEq, Int.reduceAdd, Int.reduceSub, Int.reduceNeg, Int.reduceBEq, Int.reduceBNe, Int.reduceMul, Int.natCast_add, Int.natCast_one, reduceCtorEq, reduceIte, wN_isAgg, wN_cells, gD_isAgg, gD_cells, yRules, e1', ed', er', g2']
                refine ⟨(q' - 1, r' + h), ⟨k2', by simp only; omega, by simp only; omega⟩, by simp only; omega, ?_⟩
                refine weak_to [] [] rfl List.nodup_nil ?_ rfl
                simp only [vcRules, dRules, bRules, tyRules, xRules, pickV_true, pickV_false, implies_true, Nat.reduceLT, Nat.reduceLeDiff, Nat.reduceEqDiff, Nat.reduceAdd, Nat.reduceSub, Nat.reduceMul, Int.reduceToNat, Int.reduceLT, Int.reduceLE, Int.reduceEq, Int.reduceAdd, Int.reduceSub, Int.reduceNeg, Int.reduceBEq, Int.reduceBNe, Int.reduceMul, Int.natCast_add, Int.natCast_one, reduceCtorEq, reduceIte, wN_isAgg, wN_cells, gD_isAgg, gD_cells, yRules]
            · have e1' : decide ((q' : Int) ≥ 4294967296) = false := decide_eq_false (by omega)
              have hql' : q' * l < 18446744073709551616 := by
                have : q' * l ≤ 4294967295 * l := Nat.mul_le_mul_right l (by omega)
                omega
              by_cases hg' : 4294967296 * r' + w < q' * l
              · have hmore' : 4294967296 ≤ q' ∨ 4294967296 * r' + w < q' * l := .inr hg'
                obtain ⟨hq1', k2'⟩ := kd_more hl1 (by omega : u2 < h * 4294967296 + l) w2 (by rw [d.q0, hY] : Q0 = _) k' hmore'
                have e2' : decide (IntKind.u64.wrap (IntKind.u64.wrap (4294967296 * (r' : Int)) + (w : Int)) < IntKind.u64.wrap ((q' : Int) * (l : Int))) = true := by
                  rw [← Int.natCast_mul, Mul64.wrapN _ hql', wrapu, wrapu]; exact decide_eq_true (by omega)
                have ed' : IntKind.u64.wrap ((q' : Int) - 1) = ((q' - 1 : Nat) : Int) := by rw [wrapu]; omega
                have er' : IntKind.u64.wrap ((r' : Int) + (h : Int)) = (r' : Int) + (h : Int) := by rw [wrapu]; omega
                by_cases hbig' : 4294967296 ≤ r' + h
                · have eQ2 := kd_big hl1 ll (by rw [d.q0, hY] : Q0 = _) k2' (by omega) hbig'
                  have g2' : decide ((4294967296 : Int) ≤ (r' : Int) + (h : Int)) = true := decide_eq_true (by omega)
                  rw [eQ2] at ed'
                  simp only [vcRules, dRules, bRules, tyRules, xRules, pickV_true, pickV_false, implies_true, Nat.reduceLT, Nat.reduceLeDiff, Nat.reduceEqDiff, Nat.reduceAdd, Nat.reduceSub, Nat.reduceMul, Int.reduceToNat, Int.reduceLT, Int.reduceLE, Int.reduceEq, Int.reduceAdd, Int.reduceSub, Int.reduceNeg, Int.reduceBEq, Int.reduceBNe, Int.reduceMul, Int.natCast_add, Int.natCast_one, reduceCtorEq, reduceIte, wN_isAgg, wN_cells, gD_isAgg, gD_cells, yRules, e1', e2', ed', er', g2', eF1, eF2, eShr R s s64]
                  refine ⟨_, _, ret_t2, ?_, rfl⟩
                  rw [← d.resq, ← d.resr, ← hR, Int.natCast_add]
                · have g2' : decide ((4294967296 : Int) ≤ (r' : Int) + (h : Int)) = false := decide_eq_false (by omega)
                  simp only [vcRules, dRules, bRules, tyRules, xRules, pickV_true, pickV_false, implies_true, Nat.reduceLT, Nat.reduceLeDiff, Nat.reduceEqDiff, Nat.reduceAdd, Nat.reduceSub, Nat.reduceMul, Int.reduceToNat, Int.reduceLT, Int.reduceLE, Int.reduceEq, Int.reduceAdd, Int.reduceSub, Int.reduceNeg, Int.reduceBEq, Int.reduceBNe, Int.reduceMul, Int.natCast_add, Int.natCast_one, reduceCtorEq, reduceIte, wN_isAgg, wN_cells, gD_isAgg, gD_cells, yRules, e1', e2', ed', er', g2']
                  refine ⟨(q' - 1, r' + h), ⟨k2', by simp only; omega, by simp only; omega⟩, by simp only; omega, ?_⟩
                  refine weak_to [] [] rfl List.nodup_nil ?_ rfl
                  simp only [vcRules, dRules, bRules, tyRules, xRules, pickV_true, pickV_false, implies_true, Nat.reduceLT, Nat.reduceLeDiff, Nat.reduceEqDiff, Nat.reduceAdd, Nat.reduceSub, Nat.reduceMul, Int.reduceToNat, Int.reduceLT, Int.reduceLE, Int.reduceEq, Int.reduceAdd, Int.reduceSub, Int.reduceNeg, Int.reduceBEq, Int.reduceBNe, Int.reduceMul, Int.natCast_add, Int.natCast_one, reduceCtorEq, reduceIte, wN_isAgg, wN_cells, gD_isAgg, gD_cells, yRules]
              · have e2' : decide (IntKind.u64.wrap (IntKind.u64.wrap (4294967296 * (r' : Int)) + (w : Int)) < IntKind.u64.wrap ((q' : Int) * (l : Int))) = false := by
                  rw [← Int.natCast_mul, Mul64.wrapN _ hql', wrapu, wrapu]; exact decide_eq_false (by omega)
                obtain rfl := kd_done hl1 (by rw [d.q0, hY] : Q0 = _) k' (by omega)
                simp only [vcRules, dRules, bRules, tyRules, xRules, pickV_true, pickV_false, implies_true, Nat.reduceLT, Nat.reduceLeDiff, Nat.reduceEqDiff, Nat.reduceAdd, Nat.reduceSub, Nat.reduceMul, Int.reduceToNat, Int.reduceLT, Int.reduceLE, Int.reduceEq, Int.reduceAdd, Int.reduceSub, Int.reduceNeg, Int.reduceBEq, Int.reduceBNe, Int.reduceMul, Int.natCast_add, Int.natCast_one, reduceCtorEq, reduceIte, wN_isAgg, wN_cells, gD_isAgg, gD_cells, yRules, e1', e2', eF1, eF2, eShr R s s64]
                refine ⟨_, _, ret_t2, ?_, rfl⟩
                rw [← d.resq, ← d.resr, ← hR, Int.natCast_add]
        · have g2 : decide ((4294967296 : Int) ≤ (r : Int) + (h : Int)) = false := decide_eq_false (by omega)
          simp only [vcRules, dRules, bRules, tyRules, xRules, pickV_true, pickV_false, implies_true, Nat.reduceLT, Nat.reduceLeDiff, Nat.reduceEqDiff, Nat.reduceAdd, Nat.reduceSub, Nat.reduceMul, Int.reduceToNat, Int.reduceLT, Int.reduceLE, Int.reduceEq, Int.reduceAdd, Int.reduceSub, Int.reduceNeg, Int.reduceBEq, Int.reduceBNe, Int.reduceMul, Int.natCast_add, Int.natCast_one, reduceCtorEq, reduceIte, wN_isAgg, wN_cells, gD_isAgg, gD_cells, yRules, e1, ed, er, g2]
          refine ⟨(q - 1, r + h), ⟨k2, by simp only; omega, by simp only; omega⟩, by simp only; omega, ?_⟩
          refine weak_to [] [] rfl List.nodup_nil ?_ rfl
          simp only [vcRules, dRules, bRules, tyRules, xRules, pickV_true, pickV_false, implies_true, Nat.reduceLT, Nat.reduceLeDiff, Nat.reduceEqDiff, Nat.reduceAdd, Nat.reduceSub, Nat.reduceMul, Int.reduceToNat, Int.reduceLT, Int.reduceLE, Int.reduceEq, Int.reduceAdd, Int.reduceSub, Int.reduceNeg, Int.reduceBEq, Int.reduceBNe, Int.reduceMul, Int.natCast_add, Int.natCast_one, reduceCtorEq, reduceIte, wN_isAgg, wN_cells, gD_isAgg, gD_cells, yRules]
      · have e1 : decide ((q : Int) ≥ 4294967296) = false := decide_eq_false (by omega)
        have hql : q * l < 18446744073709551616 := by
          have : q * l ≤ 4294967295 * l := Nat.mul_le_mul_right l (by omega)
          omega
        by_cases hg : 4294967296 * r + v < q * l
        · have e2 : decide (IntKind.u64.wrap (IntKind.u64.wrap (4294967296 * (r : Int)) + (v : Int)) < IntKind.u64.wrap ((q : Int) * (l : Int))) = true := by
            rw [← Int.natCast_mul, Mul64.wrapN _ hql, wrapu, wrapu]; exact decide_eq_true (by omega)
          obtain ⟨hq1, k2⟩ := kd_more hl1 (by omega : u < h * 4294967296 + l) v2 (by rw [d.q1, hY] : Q1 = _) k (.inr hg)
          have ed : IntKind.u64.wrap ((q : Int) - 1) = ((q - 1 : Nat) : Int) := by rw [wrapu]; omega
          have er : IntKind.u64.wrap ((r : Int) + (h : Int)) = (r : Int) + (h : Int) := by rw [wrapu]; omega
          by_cases hbig : 4294967296 ≤ r + h
          · have eQ1 := kd_big hl1 ll (by rw [d.q1, hY] : Q1 = _) k2 (by omega) hbig
            have g2 : decide ((4294967296 : Int) ≤ (r : Int) + (h : Int)) = true := decide_eq_true (by omega)
            rw [eQ1] at ed
            simp only [vcRules, dRules, bRules, tyRules, xRules, pickV_true, pickV_false, implies_true, Nat.reduceLT, Nat.reduceLeDiff, Nat.reduceEqDiff, Nat.reduceAdd, Nat.reduceSub, Nat.reduceMul, Int.reduceToNat, Int.reduceLT, Int.reduceLE, Int.reduceEq, Int.reduceAdd, Int.reduceSub, Int.reduceNeg, Int.reduceBEq, Int.reduceBNe, Int.reduceMul, Int.natCast_add, Int.natCast_one, reduceCtorEq, reduceIte, wN_isAgg, wN_cells, gD_isAgg, gD_cells, yRules, e1, e2, ed, er, g2, e21, eq2, er2]
            repeat ((with_reducible refine And.intro ?_ ?_); (focus (first | omega | (simp only [List.length_take, List.length_drop, List.length_map, List.length_append, List.length_cons]; omega) | (refine (show quietOp _ = true from ?_); rfl) | (refine (show drawOk _ _ _ _ _ _ _ from Or.inl ?_); kernel_rfl) | (intros; simp_all; done))))
            refine loop_of (τ := Nat × Nat) (fun p => [(2, .d (.int .u64 Y)), (8, .d (.int .u64 s)), (9, .d (.int .u64 h)), (10, .d (.int .u64 l)), (14, .d (.int .u64 w)), (15, .d (.int .u64 Q1)), (17, .d (.int .u64 u2)), (18, .d (.int .u64 p.1)), (16, .d (.int .u64 p.2))]) (fun _ => []) (fun p => KD h l u2 w Q0 p.1 p.2 ∧ p.1 ≤ 4294967297 ∧ p.2 < 4294967296) (fun p => p.1) (u2 / h, u2 % h) ⟨k1.1, k1.2, by omega⟩ ?_ ?_
            · refine weak_to [] [] rfl List.nodup_nil ?_ rfl
              simp only [vcRules, dRules, bRules, tyRules, xRules, pickV_true, pickV_false, implies_true, Nat.reduceLT, Nat.reduceLeDiff, Nat.reduceEqDiff, Nat.reduceAdd, Nat.reduceSub, Nat.reduceMul, Int.reduceToNat, Int.reduceLT, Int.reduceLE, Int.reduceEq, Int.reduceAdd, Int.reduceSub, Int.reduceNeg, Int.reduceBEq, Int.reduceBNe, Int.reduceMul, Int.natCast_add, Int.natCast_one, reduceCtorEq, reduceIte, wN_isAgg, wN_cells, gD_isAgg, gD_cells, yRules]
            · rintro ⟨q', r'⟩ ⟨k', hq', hr'⟩
              simp only at k' hq' hr'
              by_cases hb' : 4294967296 ≤ q'
              · have e1' : decide ((q' : Int) ≥ 4294967296) = true := decide_eq_true (by omega)
                have hmore' : 4294967296 ≤ q' ∨ 4294967296 * r' + w < q' * l := .inl hb'
                obtain ⟨hq1', k2'⟩ := kd_more hl1 (by omega : u2 < h * 4294967296 + l) w2 (by rw [d.q0, hY] : Q0 = _) k' hmore'
                have ed' : IntKind.u64.wrap ((q' : Int) - 1) = ((q' - 1 : Nat) : Int) := by rw [wrapu]; omega
                have er' : IntKind.u64.wrap ((r' : Int) + (h : Int)) = (r' : Int) + (h : Int) := by rw [wrapu]; omega
                by_cases hbig' : 4294967296 ≤ r' + h
                · have eQ2 := kd_big hl1 ll (by rw [d.q0, hY] : Q0 = _) k2' (by omega) hbig'
                  have g2' : decide ((4294967296 : Int) ≤ (r' : Int) + (h : Int)) = true := decide_eq_true (by omega)
                  rw [eQ2] at ed'
                  simp only [vcRules, dRules, bRules, tyRules, xRules, pickV_true, pickV_false, implies_true, Nat.reduceLT, Nat.reduceLeDiff, Nat.reduceEqDiff, Nat.reduceAdd, Nat.reduceSub, Nat.reduceMul, Int.reduceToNat, Int.reduceLT, Int.reduceLE, Int.reduceEq, Int.reduceAdd, Int.reduceSub, Int.reduceNeg, Int.reduceBEq, Int.reduceBNe, Int.reduceMul, Int.natCast_add, Int.natCast_one, reduceCtorEq, reduceIte, wN_isAgg, wN_cells, gD_isAgg, gD_cells, yRules, e1', ed', er', g2', eF1, eF2, eShr R s s64]
                  refine ⟨_, _, ret_t2, ?_, rfl⟩
                  rw [← d.resq, ← d.resr, ← hR, Int.natCast_add]
                · have g2' : decide ((4294967296 : Int) ≤ (r' : Int) + (h : Int)) = false := decide_eq_false (by omega)
                  simp only [vcRules, dRules, bRules, tyRules, xRules, pickV_true, pickV_false, implies_true, Nat.reduceLT, Nat.reduceLeDiff, Nat.reduceEqDiff, Nat.reduceAdd, Nat.reduceSub, Nat.reduceMul, Int.reduceToNat, Int.reduceLT, Int.reduceLE, Int.reduceEq, Int.reduceAdd, Int.reduceSub, Int.reduceNeg, Int.reduceBEq, Int.reduceBNe, Int.reduceMul, Int.natCast_add, Int.natCast_one, reduceCtorEq, reduceIte, wN_isAgg, wN_cells, gD_isAgg, gD_cells, yRules, e1', ed', er', g2']
                  refine ⟨(q' - 1, r' + h), ⟨k2', by simp only; omega, by simp only; omega⟩, by simp only; omega, ?_⟩
                  refine weak_to [] [] rfl List.nodup_nil ?_ rfl
                  simp only [vcRules, dRules, bRules, tyRules, xRules, pickV_true, pickV_false, implies_true, Nat.reduceLT, Nat.reduceLeDiff, Nat.reduceEqDiff, Nat.reduceAdd, Nat.reduceSub, Nat.reduceMul, Int.reduceToNat, Int.reduceLT, Int.reduceLE, Int.reduceEq, Int.reduceAdd, Int.reduceSub, Int.reduceNeg, Int.reduceBEq, Int.reduceBNe, Int.reduceMul, Int.natCast_add, Int.natCast_one, reduceCtorEq, reduceIte, wN_isAgg, wN_cells, gD_isAgg, gD_cells, yRules]
              · have e1' : decide ((q' : Int) ≥ 4294967296) = false := decide_eq_false (by omega)
                have hql' : q' * l < 18446744073709551616 := by
                  have : q' * l ≤ 4294967295 * l := Nat.mul_le_mul_right l (by omega)
                  omega
                by_cases hg' : 4294967296 * r' + w < q' * l
                · have hmore' : 4294967296 ≤ q' ∨ 4294967296 * r' + w < q' * l := .inr hg'
                  obtain ⟨hq1', k2'⟩ := kd_more hl1 (by omega : u2 < h * 4294967296 + l) w2 (by rw [d.q0, hY] : Q0 = _) k' hmore'
                  have e2' : decide (IntKind.u64.wrap (IntKind.u64.wrap (4294967296 * (r' : Int)) + (w : Int)) < IntKind.u64.wrap ((q' : Int) * (l : Int))) = true := by
                    rw [← Int.natCast_mul, Mul64.wrapN _ hql', wrapu, wrapu]; exact decide_eq_true (by omega)
                  have ed' : IntKind.u64.wrap ((q' : Int) - 1) = ((q' - 1 : Nat) : Int) := by rw [wrapu]; omega
                  have er' : IntKind.u64.wrap ((r' : Int) + (h : Int)) = (r' : Int) + (h : Int) := by rw [wrapu]; omega
                  by_cases hbig' : 4294967296 ≤ r' + h
                  · have eQ2 := kd_big hl1 ll (by rw [d.q0, hY] : Q0 = _) k2' (by omega) hbig'
                    have g2' : decide ((4294967296 : Int) ≤ (r' : Int) + (h : Int)) = true := decide_eq_true (by omega)
                    rw [eQ2] at ed'
                    simp only [vcRules, dRules, bRules, tyRules, xRules, pickV_true, pickV_false, implies_true, Nat.reduceLT, Nat.reduceLeDiff, Nat.reduceEqDiff, Nat.reduceAdd, Nat.reduceSub, Nat.reduceMul, Int.reduceToNat, Int.reduceLT, Int.reduceLE, Int.reduceEq, Int.reduceAdd, Int.reduceSub, Int.reduceNeg, Int.reduceBEq, Int.reduceBNe, Int.reduceMul, Int.natCast_add, Int.natCast_one, reduceCtorEq, reduceIte, wN_isAgg, wN_cells, gD_isAgg, gD_cells, yRules, e1', e2', ed', er', g2', eF1, eF2, eShr R s s64]
                    refine ⟨_, _, ret_t2, ?_, rfl⟩
                    rw [← d.resq, ← d.resr, ← hR, Int.natCast_add]
                  · have g2' : decide ((4294967296 : Int) ≤ (r' : Int) + (h : Int)) = false := decide_eq_false (by omega)
                    simp only [vcRules, dRules, bRules, tyRules, xRules, pickV_true, pickV_false, implies_true, Nat.reduceLT, Nat.reduceLeDiff, Nat.reduceEqDiff, Nat.reduceAdd, Nat.reduceSub, Nat.reduceMul, Int.reduceToNat, Int.reduceLT, Int.reduceLE, Int.reduceEq, Int.reduceAdd, Int.reduceSub, Int.reduceNeg, Int.reduceBEq, Int.reduceBNe, Int.reduceMul, Int.natCast_add, Int.natCast_one, reduceCtorEq, reduceIte, wN_isAgg, wN_cells, gD_isAgg, gD_cells, yRules, e1', e2', ed', er', g2']
                    refine ⟨(q' - 1, r' + h), ⟨k2', by simp only; omega, by simp only; omega⟩, by simp only; omega, ?_⟩
                    refine weak_to [] [] rfl List.nodup_nil ?_ rfl
                    simp only [vcRules, dRules, bRules, tyRules, xRules, pickV_true, pickV_false, implies_true, Nat.reduceLT, Nat.reduceLeDiff, Nat.reduceEqDiff, Nat.reduceAdd, Nat.reduceSub, Nat.reduceMul, Int.reduceToNat, Int.reduceLT, Int.reduceLE, Int.reduceEq, Int.reduceAdd, Int.reduceSub, Int.reduceNeg, Int.reduceBEq, Int.reduceBNe, Int.reduceMul, Int.natCast_add, Int.natCast_one, reduceCtorEq, reduceIte, wN_isAgg, wN_cells, gD_isAgg, gD_cells, yRules]
                · have e2' : decide (IntKind.u64.wrap (IntKind.u64.wrap (4294967296 * (r' : Int)) + (w : Int)) < IntKind.u64.wrap ((q' : Int) * (l : Int))) = false := by
                    rw [← Int.natCast_mul, Mul64.wrapN _ hql', wrapu, wrapu]; exact decide_eq_false (by omega)
                  obtain rfl := kd_done hl1 (by rw [d.q0, hY] : Q0 = _) k' (by omega)
                  simp only [vcRules, dRules, bRules, tyRules, xRules, pickV_true, pickV_false, implies_true, Nat.reduceLT, Nat.reduceLeDiff, Nat.reduceEqDiff, Nat.reduceAdd, Nat.reduceSub, Nat.reduceMul, Int.reduceToNat, Int.reduceLT, Int.reduceLE, Int.reduceEq, Int.reduceAdd, Int.reduceSub, Int.reduceNeg, Int.reduceBEq, Int.reduceBNe, Int.reduceMul, Int.natCast_add, Int.natCast_one, reduceCtorEq, reduceIte, wN_isAgg, wN_cells, gD_isAgg, gD_cells, yRules, e1', e2', eF1, eF2, eShr R s s64]
                  refine ⟨_, _, ret_t2, ?_, rfl⟩
                  rw [← d.resq, ← d.resr, ← hR, Int.natCast_add]
          · have g2 : decide ((4294967296 : Int) ≤ (r : Int) + (h : Int)) = false := decide_eq_false (by omega)
            simp only [vcRules, dRules, bRules, tyRules, xRules, pickV_true, pickV_false, implies_true, Nat.reduceLT, Nat.reduceLeDiff, Nat.reduceEqDiff, Nat.reduceAdd, Nat.reduceSub, Nat.reduceMul, Int.reduceToNat, Int.reduceLT, Int.reduceLE, Int.reduceEq, Int.reduceAdd, Int.reduceSub, Int.reduceNeg, Int.reduceBEq, Int.reduceBNe, Int.reduceMul, Int.natCast_add, Int.natCast_one, reduceCtorEq, reduceIte, wN_isAgg, wN_cells, gD_isAgg, gD_cells, yRules, e1, e2, ed, er, g2]
            refine ⟨(q - 1, r + h), ⟨k2, by simp only; omega, by simp only; omega⟩, by simp only; omega, ?_⟩
            refine weak_to [] [] rfl List.nodup_nil ?_ rfl
            simp only [vcRules, dRules, bRules, tyRules, xRules, pickV_true, pickV_false, implies_true, Nat.reduceLT, Nat.reduceLeDiff, Nat.reduceEqDiff, Nat.reduceAdd, Nat.reduceSub, Nat.reduceMul, Int.reduceToNat, Int.reduceLT, Int.reduceLE, Int.reduceEq, Int.reduceAdd, Int.reduceSub, Int.reduceNeg, Int.reduceBEq, Int.reduceBNe, Int.reduceMul, Int.natCast_add, Int.natCast_one, reduceCtorEq, reduceIte, wN_isAgg, wN_cells, gD_isAgg, gD_cells, yRules]
        · have e2 : decide (IntKind.u64.wrap (IntKind.u64.wrap (4294967296 * (r : Int)) + (v : Int)) < IntKind.u64.wrap ((q : Int) * (l : Int))) = false := by
            rw [← Int.natCast_mul, Mul64.wrapN _ hql, wrapu, wrapu]; exact decide_eq_false (by omega)
          have eQ1 := kd_done hl1 (by rw [d.q1, hY] : Q1 = _) k (by omega)
          rw [eQ1] at e1 e2
          rw [eQ1]
          simp only [vcRules, dRules, bRules, tyRules, xRules, pickV_true, pickV_false, implies_true, Nat.reduceLT, Nat.reduceLeDiff, Nat.reduceEqDiff, Nat.reduceAdd, Nat.reduceSub, Nat.reduceMul, Int.reduceToNat, Int.reduceLT, Int.reduceLE, Int.reduceEq, Int.reduceAdd, Int.reduceSub, Int.reduceNeg, Int.reduceBEq, Int.reduceBNe, Int.reduceMul, Int.natCast_add, Int.natCast_one, reduceCtorEq, reduceIte, wN_isAgg, wN_cells, gD_isAgg, gD_cells, yRules, e1, e2, e21, eq2, er2]
          repeat ((with_reducible refine And.intro ?_ ?_); (focus (first | omega | (simp only [List.length_take, List.length_drop, List.length_map, List.length_append, List.length_cons]; omega) | (refine (show quietOp _ = true from ?_); rfl) | (refine (show drawOk _ _ _ _ _ _ _ from Or.inl ?_); kernel_rfl) | (intros; simp_all; done))))
          refine loop_of (τ := Nat × Nat) (fun p => [(2, .d (.int .u64 Y)), (8, .d (.int .u64 s)), (9, .d (.int .u64 h)), (10, .d (.int .u64 l)), (14, .d (.int .u64 w)), (15, .d (.int .u64 Q1)), (17, .d (.int .u64 u2)), (18, .d (.int .u64 p.1)), (16, .d (.int .u64 p.2))]) (fun _ => []) (fun p => KD h l u2 w Q0 p.1 p.2 ∧ p.1 ≤ 4294967297 ∧ p.2 < 4294967296) (fun p => p.1) (u2 / h, u2 % h) ⟨k1.1, k1.2, by omega⟩ ?_ ?_
          · refine weak_to [] [] rfl List.nodup_nil ?_ rfl
            simp only [vcRules, dRules, bRules, tyRules, xRules, pickV_true, pickV_false, implies_true, Nat.reduceLT, Nat.reduceLeDiff, Nat.reduceEqDiff, Nat.reduceAdd, Nat.reduceSub, Nat.reduceMul, Int.reduceToNat, Int.reduceLT, Int.reduceLE, Int.reduceEq, Int.reduceAdd, Int.reduceSub, Int.reduceNeg, Int.reduceBEq, Int.reduceBNe, Int.reduceMul, Int.natCast_add, Int.natCast_one, reduceCtorEq, reduceIte, wN_isAgg, wN_cells, gD_isAgg, gD_cells, yRules]
          · rintro ⟨q', r'⟩ ⟨k', hq', hr'⟩
            simp only at k' hq' hr'
            by_cases hb' : 4294967296 ≤ q'
            · have e1' : decide ((q' : Int) ≥ 4294967296) = true := decide_eq_true (by omega)
              have hmore' : 4294967296 ≤ q' ∨ 4294967296 * r' + w < q' * l := .inl hb'
              obtain ⟨hq1', k2'⟩ := kd_more hl1 (by omega : u2 < h * 4294967296 + l) w2 (by rw [d.q0, hY] : Q0 = _) k' hmore'
              have ed' : IntKind.u64.wrap ((q' : Int) - 1) = ((q' - 1 : Nat) : Int) := by rw [wrapu]; omega
              have er' : IntKind.u64.wrap ((r' : Int) + (h : Int)) = (r' : Int) + (h : Int) := by rw [wrapu]; omega
              by_cases hbig' : 4294967296 ≤ r' + h
              · have eQ2 := kd_big hl1 ll (by rw [d.q0, hY] : Q0 = _) k2' (by omega) hbig'
                have g2' : decide ((4294967296 : Int) ≤ (r' : Int) + (h : Int)) = true := decide_eq_true (by omega)
                rw [eQ2] at ed'
                simp only [vcRules, dRules, bRules, tyRules, xRules, pickV_true, pickV_false, implies_true, Nat.reduceLT, Nat.reduceLeDiff, Nat.reduceEqDiff, Nat.reduceAdd, Nat.reduceSub, Nat.reduceMul, Int.reduceToNat, Int.reduceLT, Int.reduceLE, Int.reduceEq, Int.reduceAdd, Int.reduceSub, Int.reduceNeg, Int.reduceBEq, Int.reduceBNe, Int.reduceMul, Int.natCast_add, Int.natCast_one, reduceCtorEq, reduceIte, wN_isAgg, wN_cells, gD_isAgg, gD_cells, yRules, e1', ed', er', g2', eF1, eF2, eShr R s s64]
                refine ⟨_, _, ret_t2, ?_, rfl⟩
                rw [← d.resq, ← d.resr, ← hR, Int.natCast_add]
              · have g2' : decide ((4294967296 : Int) ≤ (r' : Int) + (h : Int)) = false := decide_eq_false (by omega)
                simp only [vcRules, dRules, bRules, tyRules, xRules, pickV_true, pickV_false, implies_true, Nat.reduceLT, Nat.reduceLeDiff, Nat.reduceEqDiff, Nat.reduceAdd, Nat.reduceSub, Nat.reduceMul, Int.reduceToNat, Int.reduceLT, Int.reduceLE, Int.reduceEq, Int.reduceAdd, Int.reduceSub, Int.reduceNeg, Int.reduceBEq, Int.reduceBNe, Int.reduceMul, Int.natCast_add, Int.natCast_one, reduceCtorEq, reduceIte, wN_isAgg, wN_cells, gD_isAgg, gD_cells, yRules, e1', ed', er', g2']
                refine ⟨(q' - 1, r' + h), ⟨k2', by simp only; omega, by simp only; omega⟩, by simp only; omega, ?_⟩
                refine weak_to [] [] rfl List.nodup_nil ?_ rfl
                simp only [vcRules, dRules, bRules, tyRules, xRules, pickV_true, pickV_false, implies_true, Nat.reduceLT, Nat.reduceLeDiff, Nat.reduceEqDiff, Nat.reduceAdd, Nat.reduceSub, Nat.reduceMul, Int.reduceToNat, Int.reduceLT, Int.reduceLE, Int.reduceEq, Int.reduceAdd, Int.reduceSub, Int.reduceNeg, Int.reduceBEq, Int.reduceBNe, Int.reduceMul, Int.natCast_add, Int.natCast_one, reduceCtorEq, reduceIte, wN_isAgg, wN_cells, gD_isAgg, gD_cells, yRules]
            · have e1' : decide ((q' : Int) ≥ 4294967296) = false := decide_eq_false (by omega)
              have hql' : q' * l < 18446744073709551616 := by
                have : q' * l ≤ 4294967295 * l := Nat.mul_le_mul_right l (by omega)
                omega
              by_cases hg' : 4294967296 * r' + w < q' * l
              · have hmore' : 4294967296 ≤ q' ∨ 4294967296 * r' + w < q' * l := .inr hg'
                obtain ⟨hq1', k2'⟩ := kd_more hl1 (by omega : u2 < h * 4294967296 + l) w2 (by rw [d.q0, hY] : Q0 = _) k' hmore'
                have e2' : decide (IntKind.u64.wrap (IntKind.u64.wrap (4294967296 * (r' : Int)) + (w : Int)) < IntKind.u64.wrap ((q' : Int) * (l : Int))) = true := by
                  rw [← Int.natCast_mul, Mul64.wrapN _ hql', wrapu, wrapu]; exact decide_eq_true (by omega)
                have ed' : IntKind.u64.wrap ((q' : Int) - 1) = ((q' - 1 : Nat) : Int) := by rw [wrapu]; omega
                have er' : IntKind.u64.wrap ((r' : Int) + (h : Int)) = (r' : Int) + (h : Int) := by rw [wrapu]; omega
                by_cases hbig' : 4294967296 ≤ r' + h
                · have eQ2 := kd_big hl1 ll (by rw [d.q0, hY] : Q0 = _) k2' (by omega) hbig'
                  have g2' : decide ((4294967296 : Int) ≤ (r' : Int) + (h : Int)) = true := decide_eq_true (by omega)
                  rw [eQ2] at ed'
                  simp only [vcRules, dRules, bRules, tyRules, xRules, pickV_true, pickV_false, implies_true, Nat.reduceLT, Nat.reduceLeDiff, Nat.reduceEqDiff, Nat.reduceAdd, Nat.reduceSub, Nat.reduceMul, Int.reduceToNat, Int.reduceLT, Int.reduceLE, Int.reduceEq, Int.reduceAdd, Int.reduceSub, Int.reduceNeg, Int.reduceBEq, Int.reduceBNe, Int.reduceMul, Int.natCast_add, Int.natCast_one, reduceCtorEq, reduceIte, wN_isAgg, wN_cells, gD_isAgg, gD_cells, yRules, e1', e2', ed', er', g2', eF1, eF2, eShr R s s64]
                  refine ⟨_, _, ret_t2, ?_, rfl⟩
                  rw [← d.resq, ← d.resr, ← hR, Int.natCast_add]
                · have g2' : decide ((4294967296 : Int) ≤ (r' : Int) + (h : Int)) = false := decide_eq_false (by omega)
                  simp only [vcRules, dRules, bRules, tyRules, xRules, pickV_true, pickV_false, implies_true, Nat.reduceLT, Nat.reduceLeDiff, Nat.reduceEqDiff, Nat.reduceAdd, Nat.reduceSub, Nat.reduceMul, Int.reduceToNat, Int.reduceLT, Int.reduceLE, Int.reduceEq, Int.reduceAdd, Int.reduceSub, Int.reduceNeg, Int.reduceBEq, Int.reduceBNe, Int.reduceMul, Int.natCast_add, Int.natCast_one, reduceCtorEq, reduceIte, wN_isAgg, wN_cells, gD_isAgg, gD_cells, yRules, e1', e2', ed', er', g2']
                  refine ⟨(q' - 1, r' + h), ⟨k2', by simp only; omega, by simp only; omega⟩, by simp only; omega, ?_⟩
                  refine weak_to [] [] rfl List.nodup_nil ?_ rfl
                  simp only [vcRules, dRules, bRules, tyRules, xRules, pickV_true, pickV_false, implies_true, Nat.reduceLT, Nat.reduceLeDiff, Nat.reduceEqDiff, Nat.reduceAdd, Nat.reduceSub, Nat.reduceMul, Int.reduceToNat, Int.reduceLT, Int.reduceLE, Int.reduceEq, Int.reduceAdd, Int.reduceSub, Int.reduceNeg, Int.reduceBEq, Int.reduceBNe, Int.reduceMul, Int.natCast_add, Int.natCast_one, reduceCtorEq, reduceIte, wN_isAgg, wN_cells, gD_isAgg, gD_cells, yRules]
              · have e2' : decide (IntKind.u64.wrap (IntKind.u64.wrap (4294967296 * (r' : Int)) + (w : Int)) < IntKind.u64.wrap ((q' : Int) * (l : Int))) = false := by
                  rw [← Int.natCast_mul, Mul64.wrapN _ hql', wrapu, wrapu]; exact decide_eq_false (by omega)
                obtain rfl := kd_done hl1 (by rw [d.q0, hY] : Q0 = _) k' (by omega)
                simp only [vcRules, dRules, bRules, tyRules, xRules, pickV_true, pickV_false, implies_true, Nat.reduceLT, Nat.reduceLeDiff, Nat.reduceEqDiff, Nat.reduceAdd, Nat.reduceSub, Nat.reduceMul, Int.reduceToNat, Int.reduceLT, Int.reduceLE, Int.reduceEq, Int.reduceAdd, Int.reduceSub, Int.reduceNeg, Int.reduceBEq, Int.reduceBNe, Int.reduceMul, Int.natCast_add, Int.natCast_one, reduceCtorEq, reduceIte, wN_isAgg, wN_cells, gD_isAgg, gD_cells, yRules, e1', e2', eF1, eF2, eShr R s s64]
                refine ⟨_, _, ret_t2, ?_, rfl⟩
                rw [← d.resq, ← d.resr, ← hR, Int.natCast_add]
end YtkoebmjenkajdaaDoor
end Go.Proofs
