/- A part of the proof: contracts of functions of this seat, and lemmas. No condition beyond those stated. -/
import Derived.Test.YtccgdcmgjdhikaaGreatWzy
import Derived.Test.YtccgdcmgjdhikaaGreatWzbm
set_option linter.unusedVariables false
set_option linter.unusedSimpArgs false
set_option linter.unusedSectionVars false
set_option linter.unnecessarySimpa false
set_option linter.unusedSimpArgs false
set_option linter.unusedVariables false
set_option maxRecDepth 100000
namespace Go.Proofs
open Go.AM
namespace YtccgdcmgjdhikaaGreat
variable {Gl : Globs}
theorem state_ok {t : TraceT} (h : traceF t = 0) {s : StateT} (hs : s ∈ t.states) : okSpan s.lo s.hi = true ∧ fieldsB s = true := by
  have h := (trace_parts h).2
  obtain ⟨k, hk, rfl⟩ := List.getElem_of_mem hs
  have h0 : firstErr (uAt (distF t.threads) t.states) t.states.length = 0 := by
    apply Classical.byContradiction
    intro hc
    unfold stateF at h
    rw [if_pos hc] at h
    exact hc h
  have := firstErr_zero h0 k hk
  have e : t.states.getD k default = t.states[k] := by simp [hk]
  unfold uAt at this
  rw [e] at this
  split at this
  · omega
  · split at this
    · cases this
    · split at this
      · cases this
      · rename_i _ h1 h2
        exact ⟨by simpa using h1, by simpa using h2⟩
theorem parSpan {x : D} (h : TypedV Tryz.prog 5 23 x) : ∃ a b : Int, x = .agg [.int .i64 a, .int .i64 b] := by
  obtain ⟨h1, h2⟩ := param_of h (show shapeOf Tryz.prog 5 23 = some [.int .i64, .int .i64] from by kernel_rfl) (g := true) (by kernel_rfl)
  obtain ⟨_, _, e1, ⟨a0, rfl, _⟩, _, _, rfl, ⟨a1, rfl, _⟩, rfl⟩ := h1
  exact ⟨a0, a1, agg_of h2 e1⟩
/-! ### Total -/
def totS (th lo hi : Int) (s : StateT) : Int := if (s.thread == th && s.state == 2) = true then max 0 (ovF lo hi s) else 0
def totF (th lo hi : Int) (l : List StateT) : Int := l.foldl (fun n s => n + totS th lo hi s) 0
theorem totF_step (th lo hi : Int) (l : List StateT) {k : Nat} (hk : k < l.length) : totF th lo hi (l.take (k + 1)) = totF th lo hi (l.take k) + totS th lo hi (l.getD k default) := by
  have : l.take (k + 1) = l.take k ++ [l.getD k default] := by rw [List.take_add_one, List.getElem?_eq_getElem hk]; simp [hk]
  rw [this, totF, List.foldl_append]; rfl
theorem totS_bd {th lo hi : Int} {s : StateT} (hs : okSpan s.lo s.hi = true) (hl : okSpan lo hi = true) : 0 ≤ totS th lo hi s ∧ totS th lo hi s ≤ 1000000000000 := by
  have := okSpan_lt hs
  have := okSpan_lt hl
  unfold totS ovF
  split <;> omega
theorem totF_bd {th lo hi : Int} (l : List StateT) (hs : ∀ s ∈ l, okSpan s.lo s.hi = true) (hl : okSpan lo hi = true) : ∀ k, k ≤ l.length → 0 ≤ totF th lo hi (l.take k) ∧ totF th lo hi (l.take k) ≤ 1000000000000 * k
  | 0, _ => by simp [totF]
  | k + 1, hk => by
    have h1 := totF_bd (th := th) l hs hl k (by omega)
    have h2 := totS_bd (th := th) (hs _ (mem_getD (show k < l.length by omega))) hl
    rw [totF_step _ _ _ _ (show k < l.length by omega)]
    omega
theorem k_Total (l : List StateT) (hl : l.length < 1000000) (hst : ∀ s ∈ l, okSpan s.lo s.hi = true) (th lo hi : Int) (h3 : okSpan lo hi = true) :
    Pure Tryz.prog Gl 16 [.d (.sl (l.map StateT.toD)), .d (.int .i64 th), .d (.int .i64 2), .d (.agg [.int .i64 lo, .int .i64 hi])] (.d (.int .i64 (totF th lo hi l))) := by
  refine Pure.of4 ?_
  refine acalls_of Tryz.func16 rfl rfl (by simp [Tryz.ntmps16]) (evC_sound rfl _ _ _ _ ?_)
  simp only [Tryz.ntmps16, Tryz.results16, argEnv, List.length_nil]
  simp only [zC, seval, implies_true, Nat.reduceLeDiff, Nat.reduceEqDiff, reduceCtorEq, reduceIte]
  repeat ((with_reducible refine And.intro ?_ ?_); (focus (first | omega | (simp only [List.length_take, List.length_drop, List.length_map, List.length_append, List.length_cons]; omega) | (refine (show quietOp _ = true from ?_); rfl) | (refine (show drawOk _ _ _ _ _ _ _ from Or.inl ?_); kernel_rfl) | (intros; simp_all; done))))
  refine callF_pure (k_Valid _ _) ?_
  simp only [zC, seval, implies_true, Nat.reduceLeDiff, Nat.reduceEqDiff, reduceCtorEq, reduceIte, h3, Bool.not_true]
  repeat ((with_reducible refine And.intro ?_ ?_); (focus (first | omega | (simp only [List.length_take, List.length_drop, List.length_map, List.length_append, List.length_cons]; omega) | (refine (show quietOp _ = true from ?_); rfl) | (refine (show drawOk _ _ _ _ _ _ _ from Or.inl ?_); kernel_rfl) | (intros; simp_all; done))))
  have hlo := okSpan_lt h3
  refine for_of l.length (fun k => [(1, .d (.int .i64 th)), (2, .d (.int .i64 2)), (7, .ptr 0 0), (9, .d (.int .i64 (totF th lo hi (l.take k)))), (15, .d (.sl (l.map StateT.toD))), (16, .d (.int .i64 l.length)), (17, .d (.int .i64 k))]) (fun k => [.box 2 (.d (.agg [.int .i64 lo, .int .i64 hi]))]) (fun _ => True) trivial ?_ ?_
  · refine weak_to [] [0] rfl (by simp) ?_ rfl
    simp only [zC, seval, implies_true, Nat.reduceLeDiff, Nat.reduceEqDiff, reduceCtorEq, reduceIte, Int.cast_ofNat_Int]
    all_goals rfl
  · intro k _ hk
    have hb := totF_bd (th := th) l hst h3 k hk
    by_cases h : k < l.length
    · have hstep := totF_step th lo hi l h
      obtain ⟨s, hs⟩ : ∃ s, s = l.getD k default := ⟨_, rfl⟩
      have hsm := hst s (by rw [hs]; exact mem_getD h)
      have hso := okSpan_lt hsm
      have hg : (List.map StateT.toD l).getD k default = s.toD := by rw [hs]; simp [h]
      rw [← hs] at hstep
      have hsb := totS_bd (th := th) hsm h3
      obtain ⟨n, hn⟩ : ∃ n, n = totF th lo hi (l.take k) := ⟨_, rfl⟩
      rw [← hn] at hstep hb ⊢
      have hov : IntKind.i64.wrap (min s.hi hi - max s.lo lo) = ovF lo hi s := wrap64 (by omega) (by omega)
      simp only [zC, seval, implies_true, Nat.reduceLeDiff, Nat.reduceEqDiff, reduceCtorEq, reduceIte, (show (k:Int) < l.length by omega), h, hg, hov]
      repeat ((with_reducible refine And.intro ?_ ?_); (focus (first | omega | (simp only [List.length_take, List.length_drop, List.length_map, List.length_append, List.length_cons]; omega) | (refine (show quietOp _ = true from ?_); rfl) | (refine (show drawOk _ _ _ _ _ _ _ from Or.inl ?_); kernel_rfl) | (intros; simp_all; done))))
      refine ifC.mk (fun hc => ?_) (fun hc => ?_)
      · have e : totS th lo hi s = max 0 (ovF lo hi s) := by unfold totS; rw [if_pos hc]
        rw [e] at hstep hsb
        have wn : IntKind.i64.wrap (n + max 0 (ovF lo hi s)) = n + max 0 (ovF lo hi s) := wrap64 (by omega) (by omega)
        (try simp only [zC, seval, implies_true, Nat.reduceLeDiff, Nat.reduceEqDiff, reduceCtorEq, reduceIte, hov, wn])
        refine weak_to [] [0] rfl (by simp) ?_ rfl
        rw [hstep]
        simp only [zC, seval, implies_true, Nat.reduceLeDiff, Nat.reduceEqDiff, reduceCtorEq, reduceIte, @a_wrap ((k:Int) + 1) (by omega)]
        all_goals rfl
      · have e : totS th lo hi s = 0 := by unfold totS; rw [if_neg (by simpa using hc)]
        rw [e, Int.add_zero] at hstep
        refine weak_to [] [0] rfl (by simp) ?_ rfl
        rw [hstep]
        simp only [zC, seval, implies_true, Nat.reduceLeDiff, Nat.reduceEqDiff, reduceCtorEq, reduceIte, @a_wrap ((k:Int) + 1) (by omega)]
        all_goals rfl
    · simp only [zC, seval, implies_true, Nat.reduceLeDiff, Nat.reduceEqDiff, reduceCtorEq, reduceIte, (show ¬ (k:Int) < l.length by omega)]
      have : k = l.length := by omega
      subst this
      rw [List.take_length]
      exact ⟨_, _, ret_d, rfl, rfl⟩
/-! ### the lengths add up -/
def sumB (l : List (Int × Int)) : Int := l.foldl (fun n p => n + p.2) 0
theorem sumB_from (l : List (Int × Int)) : ∀ n : Int, l.foldl (fun n p => n + p.2) n = n + sumB l := by
  induction l with
  | nil => intro n; simp [sumB]
  | cons p r ih => intro n; rw [sumB, List.foldl_cons, List.foldl_cons, ih, ih (0 + p.2)]; omega
theorem sumB_cons (p : Int × Int) (r : List (Int × Int)) : sumB (p :: r) = p.2 + sumB r := by rw [sumB, List.foldl_cons, sumB_from]; omega
theorem sumB_add (x n : Int) : ∀ l : List (Int × Int), sumB (addB l x n) = sumB l + n
  | [] => by simp [addB, sumB]
  | p :: r => by
    unfold addB
    split
    · rw [sumB_cons, sumB_cons, sumB_add x n r]; omega
    · split
      · rw [sumB_cons, sumB_cons]; simp only; omega
      · rw [sumB_cons]; simp only; omega
theorem sumB_step (th lo hi : Int) (l : List (Int × Int)) (s : StateT) : sumB (stepB th lo hi l s) = sumB l + totS th lo hi s := by
  unfold stepB totS
  by_cases h : hitB th lo hi s = true
  · obtain ⟨h1, h2, h3⟩ := hitB_lt h
    rw [if_pos h, sumB_add, if_pos (by simp [h1, h2])]
    omega
  · rw [if_neg h]
    by_cases g : (s.thread == th && s.state == 2) = true
    · rw [if_pos g]
      simp only [Bool.and_eq_true, beq_iff_eq] at g
      have : ¬ 0 < ovF lo hi s := fun hp => h (by unfold hitB; simp [g.1, g.2]; omega)
      omega
    · rw [if_neg g]; omega
theorem sumB_blF (th lo hi : Int) (l : List StateT) : ∀ k, k ≤ l.length → sumB (blF th lo hi (l.take k)) = totF th lo hi (l.take k)
  | 0, _ => by simp [blF, sumB, totF]
  | k + 1, hk => by
    have hk' : k < l.length := by omega
    rw [blF_step _ _ _ _ hk', totF_step _ _ _ _ hk', sumB_step, sumB_blF th lo hi l k (by omega)]
theorem sumB_take (l : List (Int × Int)) {k : Nat} (hk : k < l.length) : sumB (l.take (k + 1)) = sumB (l.take k) + (l.getD k default).2 := by
  have : l.take (k + 1) = l.take k ++ [l.getD k default] := by rw [List.take_add_one, List.getElem?_eq_getElem hk]; simp [hk]
  rw [this, sumB, List.foldl_append]; rfl
theorem sumB_pos (l : List (Int × Int)) (h : ∀ p ∈ l, 0 < p.2) : 0 ≤ sumB l := by
  induction l with
  | nil => simp [sumB]
  | cons p r ih =>
    have h1 := h p List.mem_cons_self
    have h2 := ih fun p hp => h p (List.mem_cons_of_mem _ hp)
    rw [sumB_cons]; omega
theorem sumB_le (l : List (Int × Int)) (h : ∀ p ∈ l, 0 < p.2) (k : Nat) : 0 ≤ sumB (l.take k) ∧ sumB (l.take k) ≤ sumB l := by
  have h1 := sumB_pos (l.take k) fun p hp => h p (List.mem_of_mem_take hp)
  have h2 := sumB_pos (l.drop k) fun p hp => h p (List.mem_of_mem_drop hp)
  have h3 : sumB l = sumB (l.take k) + sumB (l.drop k) := by
    have : sumB (l.take k ++ l.drop k) = sumB (l.take k) + sumB (l.drop k) := by rw [sumB, List.foldl_append, sumB_from]; rfl
    rwa [List.take_append_drop] at this
  omega
theorem srt_at {l : List (Int × Int)} (h : Srt l) {i j : Nat} (hij : i < j) (hj : j < l.length) : (l.getD i default).1 < (l.getD j default).1 := by
  have := List.pairwise_iff_getElem.1 h i j (by omega) hj hij
  simpa [hj, show i < l.length by omega] using this
set_option maxHeartbeats 2000000 in
theorem k_Totals (t : TraceT) (th lo hi : Int) : Pure Tryz.prog Gl 6 [.d t.toD, .d (.int .i64 th), .d (.agg [.int .i64 lo, .int .i64 hi])] (.d (.bool true)) := by
  refine Pure.of3 ?_
  refine acalls_of Tryz.func6 rfl rfl (by simp [Tryz.ntmps6]) (evC_sound rfl _ _ _ _ ?_)
  simp only [Tryz.ntmps6, Tryz.results6, argEnv, List.length_nil]
  simp only [zC, seval, implies_true, Nat.reduceLeDiff, Nat.reduceEqDiff, reduceCtorEq, reduceIte]
  repeat ((with_reducible refine And.intro ?_ ?_); (focus (first | omega | (simp only [List.length_take, List.length_drop, List.length_map, List.length_append, List.length_cons]; omega) | (refine (show quietOp _ = true from ?_); rfl) | (refine (show drawOk _ _ _ _ _ _ _ from Or.inl ?_); kernel_rfl) | (intros; simp_all; done))))
  refine callF_pure (k_few t) ?_
  cases hf : fewF t
  · simp only [zC, seval, implies_true, Nat.reduceLeDiff, Nat.reduceEqDiff, reduceCtorEq, reduceIte, Bool.not_false]
    refine callG_pure (v := .d (.int .i64 0)) (fun h => by cases h) ?_
    simp only [zC, seval, implies_true, Nat.reduceLeDiff, Nat.reduceEqDiff, reduceCtorEq, reduceIte]
    refine callF_pure k_lives ?_
    simp only [zC, seval, implies_true, Nat.reduceLeDiff, Nat.reduceEqDiff, reduceCtorEq, reduceIte]
    exact ⟨_, _, ret_d, rfl, rfl⟩
  have ht := few_few hf
  simp only [zC, seval, implies_true, Nat.reduceLeDiff, Nat.reduceEqDiff, reduceCtorEq, reduceIte, Bool.not_true]
  repeat ((with_reducible refine And.intro ?_ ?_); (focus (first | omega | (simp only [List.length_take, List.length_drop, List.length_map, List.length_append, List.length_cons]; omega) | (refine (show quietOp _ = true from ?_); rfl) | (refine (show drawOk _ _ _ _ _ _ _ from Or.inl ?_); kernel_rfl) | (intros; simp_all; done))))
  refine callG_pure (v := .d (.int .i64 (traceF t))) (fun _ => k_RtraceCheck t ht) ?_
  simp only [zC, seval, implies_true, Nat.reduceLeDiff, Nat.reduceEqDiff, reduceCtorEq, reduceIte]
  refine ifC.mk (fun he => ?_) (fun he => ?_)
  · refine callF_pure k_lives ?_
    simp only [zC, seval, implies_true, Nat.reduceLeDiff, Nat.reduceEqDiff, reduceCtorEq, reduceIte]
    exact ⟨_, _, ret_d, rfl, rfl⟩
  have he : traceF t = 0 := by simpa using he
  have hst : ∀ s ∈ t.states, okSpan s.lo s.hi = true := fun s hs => (state_ok he hs).1
  refine callF_pure (k_Blame t ht (fun _ => hst) th lo hi) ?_
  rw [blameF, if_neg (by rw [he]; simp)]
  by_cases hk : hasT t.threads th = false
  · rw [if_pos hk]
    simp only [zC, seval, implies_true, Nat.reduceLeDiff, Nat.reduceEqDiff, reduceCtorEq, reduceIte]
    repeat ((with_reducible refine And.intro ?_ ?_); (focus (first | omega | (simp only [List.length_take, List.length_drop, List.length_map, List.length_append, List.length_cons]; omega) | (refine (show quietOp _ = true from ?_); rfl) | (refine (show drawOk _ _ _ _ _ _ _ from Or.inl ?_); kernel_rfl) | (intros; simp_all; done))))
    refine callG_pure (v := .d (.bool true)) (fun _ => k_lives) ?_
    simp only [zC, seval, implies_true, Nat.reduceLeDiff, Nat.reduceEqDiff, reduceCtorEq, reduceIte]
    exact ⟨_, _, ret_d, rfl, rfl⟩
  rw [if_neg hk]
  by_cases hv : okSpan lo hi = false
  · rw [if_pos hv]
    simp only [zC, seval, implies_true, Nat.reduceLeDiff, Nat.reduceEqDiff, reduceCtorEq, reduceIte]
    repeat ((with_reducible refine And.intro ?_ ?_); (focus (first | omega | (simp only [List.length_take, List.length_drop, List.length_map, List.length_append, List.length_cons]; omega) | (refine (show quietOp _ = true from ?_); rfl) | (refine (show drawOk _ _ _ _ _ _ _ from Or.inl ?_); kernel_rfl) | (intros; simp_all; done))))
    refine callG_pure (v := .d (.bool true)) (fun _ => k_lives) ?_
    simp only [zC, seval, implies_true, Nat.reduceLeDiff, Nat.reduceEqDiff, reduceCtorEq, reduceIte]
    exact ⟨_, _, ret_d, rfl, rfl⟩
  rw [if_neg hv]
  have hv : okSpan lo hi = true := by simpa using hv
  obtain ⟨L, hL⟩ : ∃ L, L = blF th lo hi t.states := ⟨_, rfl⟩
  have hsrt : Srt L := by rw [hL]; exact blF_srt _ _ _ _
  have hlen : L.length ≤ t.states.length := by rw [hL]; exact blF_len _ _ _ _
  have hts := ht.states
  have htb := totF_bd (th := th) t.states hst hv t.states.length (Nat.le_refl _)
  rw [List.take_length] at htb
  have hbd : ∀ p ∈ L, 0 < p.2 := fun p hp => by
    exact (blF_bd (th := th) hst hv p (by rw [← hL]; exact hp)).1
  have hsum : sumB L = totF th lo hi t.states := by
    have := sumB_blF th lo hi t.states t.states.length (Nat.le_refl _)
    rw [List.take_length] at this
    rw [hL]; exact this
  rw [← hL]
  simp only [zC, seval, implies_true, Nat.reduceLeDiff, Nat.reduceEqDiff, reduceCtorEq, reduceIte, bne_self_eq_false]
  repeat ((with_reducible refine And.intro ?_ ?_); (focus (first | omega | (simp only [List.length_take, List.length_drop, List.length_map, List.length_append, List.length_cons]; omega) | (refine (show quietOp _ = true from ?_); rfl) | (refine (show drawOk _ _ _ _ _ _ _ from Or.inl ?_); kernel_rfl) | (intros; simp_all; done))))
  refine for_of L.length (fun k => [(1, .d (.int .i64 th)), (3, .ptr 0 0), (5, .ptr 1 0), (7, .d (.sl (L.map pD))), (9, .d (.int .i64 (sumB (L.take k)))), (10, .d (.int .i64 k))]) (fun _ => [.box 10 (.d t.toD), .box 2 (.d (.agg [.int .i64 lo, .int .i64 hi]))]) (fun _ => True) trivial ?_ ?_
  · refine weak_to [] [0, 1] rfl (by simp) ?_ rfl
    simp only [zC, seval, implies_true, Nat.reduceLeDiff, Nat.reduceEqDiff, reduceCtorEq, reduceIte, Int.cast_ofNat_Int]
    all_goals rfl
  · intro k _ hk
    have hsb := sumB_le L hbd k
    by_cases h : k < L.length
    · obtain ⟨p, hp⟩ : ∃ p, p = L.getD k default := ⟨_, rfl⟩
      have hpb := hbd p (by rw [hp]; exact mem_getD h)
      have hst2 := sumB_take L h
      have hsb2 := sumB_le L hbd (k + 1)
      rw [← hp] at hst2
      rw [hst2] at hsb2
      have hg : (List.map pD L).getD k default = pD p := by rw [hp]; simp [h]
      obtain ⟨n, hn⟩ : ∃ n, n = sumB (L.take k) := ⟨_, rfl⟩
      rw [← hn] at hsb hst2 hsb2 ⊢
      have wn : IntKind.i64.wrap (n + p.2) = n + p.2 := wrap64 (by omega) (by omega)
      have h1 : ¬ p.2 < 1 := by omega
      cases k with
      | zero =>
        simp only [zC, seval, implies_true, Nat.reduceLeDiff, Nat.reduceEqDiff, reduceCtorEq, reduceIte, (show (0 : Int) < L.length by omega), Int.cast_ofNat_Int, h, hg, pD_cells, pD_isAgg, h1]
        repeat ((with_reducible refine And.intro ?_ ?_); (focus (first | omega | (simp only [List.length_take, List.length_drop, List.length_map, List.length_append, List.length_cons]; omega) | (refine (show quietOp _ = true from ?_); rfl) | (refine (show drawOk _ _ _ _ _ _ _ from Or.inl ?_); kernel_rfl) | (intros; simp_all; done))))
        (try simp only [zC, seval, implies_true, Nat.reduceLeDiff, Nat.reduceEqDiff, reduceCtorEq, reduceIte, h1, hg, h, pD_cells, pD_isAgg])
        refine ⟨⟨rfl, by decide, by decide, by decide⟩, ⟨rfl, by decide, by decide, by decide⟩, ?_⟩
        refine weak_to [] [0, 1] rfl (by simp) ?_ rfl
        simp only [zC, seval, implies_true, Nat.reduceLeDiff, Nat.reduceEqDiff, reduceCtorEq, reduceIte, wn, hst2, Int.cast_ofNat_Int, (show IntKind.i64.wrap 1 = 1 by decide)]
        all_goals rfl
      | succ k =>
        have hprev := srt_at hsrt (show k < k + 1 by omega) h
        rw [← hp] at hprev
        have hgk : (List.map pD L).getD k default = pD (L.getD k default) := by simp [show k < L.length by omega]
        have e1 : IntKind.i64.wrap ((k : Int) + 1 - 1) = (k : Int) := by rw [wrap64 (by omega) (by omega)]; omega
        have h2 : ¬ (L.getD k default).1 ≥ p.1 := by omega
        have h3 : k < L.length := by omega
        have hnat : ((k : Int) + 1).toNat = k + 1 := by omega
        simp only [zC, seval, implies_true, Nat.reduceLeDiff, Nat.reduceEqDiff, reduceCtorEq, reduceIte, (show (k : Int) + 1 < L.length by omega), (show (k : Int) < L.length by omega), (show (0 : Int) < (k : Int) + 1 by omega), h, h3, hg, hgk, e1, hnat, pD_cells, pD_isAgg, h1, h2]
        repeat ((with_reducible refine And.intro ?_ ?_); (focus (first | omega | (simp only [List.length_take, List.length_drop, List.length_map, List.length_append, List.length_cons]; omega) | (refine (show quietOp _ = true from ?_); rfl) | (refine (show drawOk _ _ _ _ _ _ _ from Or.inl ?_); kernel_rfl) | (intros; simp_all; done))))
        (try simp only [zC, seval, implies_true, Nat.reduceLeDiff, Nat.reduceEqDiff, reduceCtorEq, reduceIte, h1, hg, h, pD_cells, pD_isAgg])
        refine ⟨⟨rfl, by decide, by decide, by decide⟩, ⟨rfl, by decide, by decide, by decide⟩, by omega, ⟨rfl, by decide, by decide, by decide⟩, by omega, ⟨rfl, by decide, by decide, by decide⟩, ?_⟩
        refine weak_to [] [0, 1] rfl (by simp) ?_ rfl
        simp only [zC, seval, implies_true, Nat.reduceLeDiff, Nat.reduceEqDiff, reduceCtorEq, reduceIte, wn, hst2, @a_wrap ((k:Int) + 1 + 1) (by omega)]
        all_goals rfl
    · simp only [zC, seval, implies_true, Nat.reduceLeDiff, Nat.reduceEqDiff, reduceCtorEq, reduceIte, (show ¬ (k:Int) < L.length by omega)]
      have : k = L.length := by omega
      subst this
      rw [List.take_length] at hsb ⊢
      repeat ((with_reducible refine And.intro ?_ ?_); (focus (first | omega | (simp only [List.length_take, List.length_drop, List.length_map, List.length_append, List.length_cons]; omega) | (refine (show quietOp _ = true from ?_); rfl) | (refine (show drawOk _ _ _ _ _ _ _ from Or.inl ?_); kernel_rfl) | (intros; simp_all; done))))
      refine callF_pure (k_Total t.states hts hst th lo hi hv) ?_
      rw [hsum]
      simp only [zC, seval, implies_true, Nat.reduceLeDiff, Nat.reduceEqDiff, reduceCtorEq, reduceIte, beq_self_eq_true]
      repeat ((with_reducible refine And.intro ?_ ?_); (focus (first | omega | (simp only [List.length_take, List.length_drop, List.length_map, List.length_append, List.length_cons]; omega) | (refine (show quietOp _ = true from ?_); rfl) | (refine (show drawOk _ _ _ _ _ _ _ from Or.inl ?_); kernel_rfl) | (intros; simp_all; done))))
      refine callG_pure (v := .d (.bool true)) (fun _ => k_lives) ?_
      simp only [zC, seval, implies_true, Nat.reduceLeDiff, Nat.reduceEqDiff, reduceCtorEq, reduceIte]
      exact ⟨_, _, ret_d, rfl, rfl⟩
theorem totals_main (xs : List D) (h : TypedAll Tryz.prog 5 Tryz.f6.params.toList xs) : ACalls Tryz.prog [] 6 (xs.map AV.d) [] (fun r _ => r = .d (.bool true)) := by
  rw [Tryz.params6] at h
  obtain ⟨x, _, rfl, h1, y, _, rfl, h2, z, _, rfl, h3, rfl⟩ := h
  obtain ⟨t, rfl⟩ := parTrace h1
  obtain ⟨a, rfl, _⟩ := parInt h2
  obtain ⟨b, c, rfl⟩ := parSpan h3
  exact (k_Totals t a b c []).mono fun r s h => h.1
theorem waitTotals_lifted (os : Os) (started : os.Started) (H : Type) (enc : TypeId × Value → H) :
    ReturnsInHanded {} Tryz.checked os 6 .any (Rows.waitTotalsSpec.pre6 enc Tryz.prog Tryz.f6 Rows.waitTotalsRow.domain false) (Rows.waitTotalsSpec.post enc Tryz.prog Tryz.f6 false true false false) := by
  refine returnsInHanded_of_change (C := Tryz.checked) own started (by kernel_rfl) Tryz.func6
    (ChangeSpec.witness6 (enc := enc) (C := Tryz.checked) false ⟨#[], #[.agg #[.int .i64 0, .int .i64 0, .slice none 0 0, .slice none 0 0, .slice none 0 0, .slice none 0 0, .slice none 0 0, .slice none 0 0, .slice none 0 0, .slice none 0 0], .int .i64 0, .agg #[.int .i64 0, .int .i64 0]], []⟩ 8 (by kernel_rfl) (by kernel_rfl) (by kernel_rfl) (by kernel_rfl)) ?_
  intro W base args ds gs before hval hW _ _
  exact law_contract (n := 5) (tb := 4) Tryz.func6 rfl rfl (by kernel_rfl) laidOut (by kernel_rfl) (by kernel_rfl) rfl
    (fun H ds h => by
      match ds, h with
      | [d1, d2, d3], _ => rfl) totals_main W base args ds gs before hval hW
theorem waitTotals_holds : Rows.WaitTotalsSaid :=
  OpenClaim.holds_of_wide 6 Tryz.f6 rfl rfl rfl rfl rfl rfl rfl ⟨rfl, rfl, rfl, rfl, rfl⟩ rfl rfl rfl rfl rfl (by kernel_rfl) Tryz.func6 (by kernel_rfl)
    (of_decide_eq_true (by kernel_rfl)) (by unfold Func.isWrapper; first | (rw [if_pos (by decide +kernel)]; kernel_rfl) | (rw [if_neg (by decide +kernel)]; exact ⟨rfl, rfl⟩))
    (fun os started H enc _ => waitTotals_lifted os started H enc)
end YtccgdcmgjdhikaaGreat
end Go.Proofs
