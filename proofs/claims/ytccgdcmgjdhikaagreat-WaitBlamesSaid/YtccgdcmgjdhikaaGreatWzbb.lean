/- A part of the proof: contracts of functions of this seat, and lemmas. No condition beyond those stated. -/
import Derived.Test.YtccgdcmgjdhikaaGreatWzr4
set_option linter.unusedVariables false
set_option linter.unusedSimpArgs false
set_option linter.unusedSectionVars false
set_option linter.unnecessarySimpa false
set_option linter.unusedSimpArgs false
set_option linter.unusedVariables false
set_option maxRecDepth 100000
namespace Go.Proofs
open Go.AM
namespace YtccgdcmgjdhikaaGreat
variable {Gl : Globs}
/-! ### Blame: the reference -/
def blkS (th on lo hi : Int) (s : StateT) : Int := if (s.thread == th && s.state == 2 && s.on_ == on) = true then max 0 (ovF lo hi s) else 0
def blkF (th on lo hi : Int) (l : List StateT) : Int := l.foldl (fun n s => n + blkS th on lo hi s) 0
theorem blkF_step (th on lo hi : Int) (l : List StateT) {k : Nat} (hk : k < l.length) : blkF th on lo hi (l.take (k + 1)) = blkF th on lo hi (l.take k) + blkS th on lo hi (l.getD k default) := by
  have : l.take (k + 1) = l.take k ++ [l.getD k default] := by rw [List.take_add_one, List.getElem?_eq_getElem hk]; simp [hk]
  rw [this, blkF, List.foldl_append]; rfl
theorem blkS_bd {th on lo hi : Int} {s : StateT} (hs : okSpan s.lo s.hi = true) (hl : okSpan lo hi = true) : 0 ≤ blkS th on lo hi s ∧ blkS th on lo hi s ≤ 1000000000000 := by
  have := okSpan_lt hs
  have := okSpan_lt hl
  unfold blkS ovF
  split <;> omega
theorem blkF_bd {th on lo hi : Int} (l : List StateT) (hs : ∀ s ∈ l, okSpan s.lo s.hi = true) (hl : okSpan lo hi = true) : ∀ k, k ≤ l.length → 0 ≤ blkF th on lo hi (l.take k) ∧ blkF th on lo hi (l.take k) ≤ 1000000000000 * k
  | 0, _ => by simp [blkF]
  | k + 1, hk => by
    have h1 := blkF_bd (th := th) (on := on) l hs hl k (by omega)
    have h2 := blkS_bd (th := th) (on := on) (hs _ (mem_getD (show k < l.length by omega))) hl
    rw [blkF_step _ _ _ _ _ (show k < l.length by omega)]
    omega
theorem meet_norm {a b c d : Int} (h : okSpan a b = true) (k : okSpan c d = true) : (combF (combF [(a, b)] [(c, d)] 2) [] 1).length ≤ 1 ∧ ∀ p ∈ combF (combF [(a, b)] [(c, d)] 2) [] 1, okSpan p.1 p.2 = true := by
  have h1 := okSpan_lt h
  have k1 := okSpan_lt k
  rw [meet_two h k]
  split
  · have hm : okSpan (max a c) (min b d) = true := by simp [okSpan]; omega
    have hab : max a c < min b d := by omega
    have hc : covB [(max a c, min b d)] (max a c) = true := by simp [covB, hm]; omega
    have e : combF [(max a c, min b d)] [] 1 = [(max a c, min b d)] := by
      unfold combF
      rw [comb_eq, endF_one hm]
      simp [combL, stepL, holdsF, hc]
    rw [e]
    exact ⟨by simp, fun p hp => by simp at hp; rw [hp]; exact hm⟩
  · exact ⟨by decide, fun p hp => by cases hp⟩
theorem k_blocked (t : TraceT) (ht : t.Few) (hst : ∀ s ∈ t.states, okSpan s.lo s.hi = true) (th on lo hi : Int) (h3 : okSpan lo hi = true) :
    Pure Tryz.prog Gl 35 [.d t.toD, .d (.int .i64 th), .d (.int .i64 on), .d (.agg [.int .i64 lo, .int .i64 hi])] (.d (.int .i64 (blkF th on lo hi t.states))) := by
  refine Pure.of4 ?_
  have hts := ht.states
  have hlo := okSpan_lt h3
  refine acalls_of Tryz.func35 rfl rfl (by simp [Tryz.ntmps35]) (evC_sound rfl _ _ _ _ ?_)
  simp only [Tryz.ntmps35, Tryz.results35, argEnv, List.length_nil]
  simp only [zC, seval, implies_true, Nat.reduceLeDiff, Nat.reduceEqDiff, reduceCtorEq, reduceIte]
  repeat ((with_reducible refine And.intro ?_ ?_); (focus (first | omega | (simp only [List.length_take, List.length_drop, List.length_map, List.length_append, List.length_cons]; omega) | (refine (show quietOp _ = true from ?_); rfl) | (refine (show drawOk _ _ _ _ _ _ _ from Or.inl ?_); kernel_rfl) | (intros; simp_all; done))))
  refine for_of t.states.length (fun k => [(1, .d (.int .i64 th)), (2, .d (.int .i64 on)), (4, .ptr 0 0), (7, .ptr 1 0), (9, .d (.int .i64 (blkF th on lo hi (t.states.take k)))), (10, .d (.int .i64 k))]) (fun k => [.box 10 (.d t.toD), .box 2 (.d (.agg [.int .i64 lo, .int .i64 hi]))]) (fun _ => True) trivial ?_ ?_
  · refine weak_to [] [0, 1] rfl (by simp) ?_ rfl
    simp only [zC, seval, implies_true, Nat.reduceLeDiff, Nat.reduceEqDiff, reduceCtorEq, reduceIte, Int.cast_ofNat_Int]
    all_goals rfl
  · intro k _ hk
    have hb := blkF_bd (th := th) (on := on) t.states hst h3 k hk
    by_cases h : k < t.states.length
    · have hstep := blkF_step th on lo hi t.states h
      obtain ⟨s, hs⟩ : ∃ s, s = t.states.getD k default := ⟨_, rfl⟩
      have hsm := hst s (by rw [hs]; exact mem_getD h)
      have hso := okSpan_lt hsm
      have hg : (List.map StateT.toD t.states).getD k default = s.toD := by rw [hs]; simp [h]
      rw [← hs] at hstep
      have hsb := blkS_bd (th := th) (on := on) hsm h3
      obtain ⟨n, hn⟩ : ∃ n, n = blkF th on lo hi (t.states.take k) := ⟨_, rfl⟩
      rw [← hn] at hstep hb ⊢
      simp only [zC, seval, implies_true, Nat.reduceLeDiff, Nat.reduceEqDiff, reduceCtorEq, reduceIte, (show (k:Int) < t.states.length by omega), h, hg]
      repeat ((with_reducible refine And.intro ?_ ?_); (focus (first | omega | (simp only [List.length_take, List.length_drop, List.length_map, List.length_append, List.length_cons]; omega) | (refine (show quietOp _ = true from ?_); rfl) | (refine (show drawOk _ _ _ _ _ _ _ from Or.inl ?_); kernel_rfl) | (intros; simp_all; done))))
      refine ifC.mk (fun hc => ?_) (fun hc => ?_)
      · have e : blkS th on lo hi s = max 0 (ovF lo hi s) := by unfold blkS; rw [if_pos hc]
        rw [e] at hstep hsb
        have wn : IntKind.i64.wrap (n + max 0 (ovF lo hi s)) = n + max 0 (ovF lo hi s) := wrap64 (by omega) (by omega)
        have hm := meet_norm hsm h3
        have hl := len_meet hsm h3
        have hml : (combF [(s.lo, s.hi)] [(lo, hi)] 2).length < 1000 := by rw [meet_two hsm h3]; split <;> simp
        have eov : max 0 (min s.hi hi - max s.lo lo) = max 0 (ovF lo hi s) := rfl
        repeat ((with_reducible refine And.intro ?_ ?_); (focus (first | omega | (simp only [List.length_take, List.length_drop, List.length_map, List.length_append, List.length_cons]; omega) | (refine (show quietOp _ = true from ?_); rfl) | (refine (show drawOk _ _ _ _ _ _ _ from Or.inl ?_); kernel_rfl) | (intros; simp_all; done))))
        refine callF_dataE (k_Meet [(s.lo, s.hi)] [(lo, hi)] (by simp) (by simp)) rfl rfl ?_
        simp only [zC, seval, implies_true, Nat.reduceLeDiff, Nat.reduceEqDiff, reduceCtorEq, reduceIte]
        refine callF_pure (k_Length _ hml hm.1 hm.2) ?_
        rw [hl, eov]
        simp only [zC, seval, implies_true, Nat.reduceLeDiff, Nat.reduceEqDiff, reduceCtorEq, reduceIte, wn]
        refine weak_to [] [0, 1] rfl (by simp) ?_ ?_
        · rw [hstep]
          simp only [zC, seval, implies_true, Nat.reduceLeDiff, Nat.reduceEqDiff, reduceCtorEq, reduceIte, @a_wrap ((k:Int) + 1) (by omega)]
          all_goals rfl
        · rfl
      · have e : blkS th on lo hi s = 0 := by unfold blkS; rw [if_neg (by rw [hc]; simp)]
        rw [e, Int.add_zero] at hstep
        refine weak_to [] [0, 1] rfl (by simp) ?_ ?_
        · rw [hstep]
          simp only [zC, seval, implies_true, Nat.reduceLeDiff, Nat.reduceEqDiff, reduceCtorEq, reduceIte, @a_wrap ((k:Int) + 1) (by omega)]
          all_goals rfl
        · rfl
    · simp only [zC, seval, implies_true, Nat.reduceLeDiff, Nat.reduceEqDiff, reduceCtorEq, reduceIte, (show ¬ (k:Int) < t.states.length by omega)]
      have : k = t.states.length := by omega
      subst this
      rw [List.take_length]
      exact ⟨_, _, ret_d, rfl, rfl⟩
end YtccgdcmgjdhikaaGreat
end Go.Proofs
