/- A part of the proof: contracts of functions of this seat, and lemmas. No condition beyond those stated. -/
import Derived.Test.YtccgdcmgjdhikaaGreatWzbl
set_option linter.unusedVariables false
set_option linter.unusedSimpArgs false
set_option linter.unusedSectionVars false
set_option linter.unnecessarySimpa false
set_option linter.unusedSimpArgs false
set_option linter.unusedVariables false
set_option maxRecDepth 100000
namespace Go.Proofs
open Go.AM
namespace YtccgdcmgjdhikaaGreat
variable {Gl : Globs}
/-! ### Blame -/
theorem okSpan_lt {a b : Int} (h : okSpan a b = true) : 0 ≤ a ∧ a < b ∧ b ≤ 1000000000000 := by
  unfold okSpan at h
  simp only [Bool.and_eq_true, decide_eq_true_eq] at h
  exact ⟨h.1.1, h.1.2, h.2⟩
theorem fields_on {s : StateT} (h : fieldsB s = true) (h2 : s.state = 2) : 0 ≤ s.on_ := by
  unfold fieldsB at h
  simp only [h2, beq_self_eq_true, if_true, Bool.and_eq_true, decide_eq_true_eq] at h
  exact h.1.2.1
def ovF (lo hi : Int) (s : StateT) : Int := min s.hi hi - max s.lo lo
def hitB (th lo hi : Int) (s : StateT) : Bool := !(s.thread != th || s.state != 2 || decide (ovF lo hi s ≤ 0))
def stepB (th lo hi : Int) (l : List (Int × Int)) (s : StateT) : List (Int × Int) := if hitB th lo hi s = true then addB l s.on_ (ovF lo hi s) else l
def blF (th lo hi : Int) (l : List StateT) : List (Int × Int) := l.foldl (stepB th lo hi) []
theorem blF_step (th lo hi : Int) (l : List StateT) {k : Nat} (hk : k < l.length) : blF th lo hi (l.take (k + 1)) = stepB th lo hi (blF th lo hi (l.take k)) (l.getD k default) := by
  have : l.take (k + 1) = l.take k ++ [l.getD k default] := by rw [List.take_add_one, List.getElem?_eq_getElem hk]; simp [hk]
  rw [this, blF, List.foldl_append]; rfl
theorem hitB_lt {th lo hi : Int} {s : StateT} (h : hitB th lo hi s = true) : s.thread = th ∧ s.state = 2 ∧ 0 < ovF lo hi s := by
  unfold hitB at h
  simp only [Bool.not_eq_true', Bool.or_eq_false_iff, bne_eq_false_iff_eq, decide_eq_false_iff_not] at h
  exact ⟨h.1.1, h.1.2, by omega⟩
theorem stepB_srt (th lo hi : Int) {l : List (Int × Int)} (s : StateT) (h : Srt l) : Srt (stepB th lo hi l s) := by
  unfold stepB; split
  · exact addB_srt h
  · exact h
theorem foldB_srt (th lo hi : Int) : ∀ (l : List StateT) {r : List (Int × Int)}, Srt r → Srt (l.foldl (stepB th lo hi) r)
  | [], r, h => h
  | s :: l, r, h => foldB_srt th lo hi l (stepB_srt th lo hi s h)
theorem blF_srt (th lo hi : Int) (l : List StateT) : Srt (blF th lo hi l) := foldB_srt th lo hi l (List.Pairwise.nil)
theorem foldB_len (th lo hi : Int) : ∀ (l : List StateT) (r : List (Int × Int)), (l.foldl (stepB th lo hi) r).length ≤ r.length + l.length
  | [], r => by simp
  | s :: l, r => by
    rw [List.foldl_cons]
    have h1 := foldB_len th lo hi l (stepB th lo hi r s)
    have h2 : (stepB th lo hi r s).length ≤ r.length + 1 := by
      unfold stepB; split
      · exact addB_len _ _ _
      · omega
    simp only [List.length_cons]
    omega
theorem blF_len (th lo hi : Int) (l : List StateT) : (blF th lo hi l).length ≤ l.length := by
  have := foldB_len th lo hi l []
  simpa [blF] using this
theorem foldB_bd (th lo hi : Int) : ∀ (l : List StateT) {r : List (Int × Int)} {M : Int}, 0 ≤ M → (∀ s ∈ l, okSpan s.lo s.hi = true) → okSpan lo hi = true → (∀ p ∈ r, 0 < p.2 ∧ p.2 ≤ M) → ∀ p ∈ l.foldl (stepB th lo hi) r, 0 < p.2 ∧ p.2 ≤ M + 1000000000000 * l.length
  | [], r, M, hM, _, _, h, p, hp => by have := h p hp; simp; exact this
  | s :: l, r, M, hM, hs, hl, h, p, hp => by
    rw [List.foldl_cons] at hp
    have h1 := okSpan_lt (hs s List.mem_cons_self)
    have h2 := okSpan_lt hl
    have := foldB_bd th lo hi l (M := M + 1000000000000) (by omega) (fun s hs' => hs s (List.mem_cons_of_mem _ hs')) hl (r := stepB th lo hi r s) (fun p hp => by
      unfold stepB at hp
      split at hp
      · rename_i hh
        have hh := hitB_lt hh
        exact addB_bd hh.2.2 (by unfold ovF; omega) hM h p hp
      · have := h p hp; omega) p hp
    rw [List.length_cons]
    omega
theorem blF_bd {th lo hi : Int} {l : List StateT} (hs : ∀ s ∈ l, okSpan s.lo s.hi = true) (hl : okSpan lo hi = true) : ∀ p ∈ blF th lo hi l, 0 < p.2 ∧ p.2 ≤ 1000000000000 * l.length := fun p hp => by
  have := foldB_bd th lo hi l (r := []) (M := 0) (Int.le_refl 0) hs hl (fun p hp => by cases hp) p hp
  omega
def blameF (t : TraceT) (th lo hi : Int) : List (Int × Int) × Int :=
  if traceF t ≠ 0 then ([], traceF t) else if hasT t.threads th = false then ([], 5) else if okSpan lo hi = false then ([], 1) else (blF th lo hi t.states, 0)
theorem pD_len (p : Int × Int) : (pD p).cells.length = 2 := rfl
theorem pD_flat (p : Int × Int) : (pD p).flat := by intro y hy; simp [pD_cells] at hy; rcases hy with rfl | rfl <;> rfl
theorem k_Blame (t : TraceT) (ht : t.Few) (hst : traceF t = 0 → ∀ s ∈ t.states, okSpan s.lo s.hi = true) (th lo hi : Int) : Pure Tryz.prog Gl 13 [.d t.toD, .d (.int .i64 th), .d (.agg [.int .i64 lo, .int .i64 hi])] (.tup [.d (.sl ((blameF t th lo hi).1.map pD)), .d (.int .i64 (blameF t th lo hi).2)]) := by
  refine Pure.of3t2 ?_
  have hts := ht.states
  obtain ⟨F, hF⟩ : ∃ F, F = blameF t th lo hi := ⟨_, rfl⟩
  rw [← hF]
  rw [blameF] at hF
  refine acalls_of Tryz.func13 rfl rfl (by simp [Tryz.ntmps13]) (evC_sound rfl _ _ _ _ ?_)
  simp only [Tryz.ntmps13, Tryz.results13, argEnv, List.length_nil]
  simp only [zC, seval, implies_true, Nat.reduceLeDiff, Nat.reduceEqDiff, reduceCtorEq, reduceIte]
  repeat ((with_reducible refine And.intro ?_ ?_); (focus (first | omega | (simp only [List.length_take, List.length_drop, List.length_map, List.length_append, List.length_cons]; omega) | (refine (show quietOp _ = true from ?_); rfl) | (refine (show drawOk _ _ _ _ _ _ _ from Or.inl ?_); kernel_rfl) | (intros; simp_all; done))))
  refine callF_pure (k_traceCheck t ht) ?_
  simp only [zC, seval, implies_true, Nat.reduceLeDiff, Nat.reduceEqDiff, reduceCtorEq, reduceIte]
  refine ifC.mk (fun h1 => ?_) (fun h1 => ?_)
  · have h1 := bne_iff_ne.1 h1
    rw [if_pos h1] at hF
    refine ⟨_, _, ret_tdata rfl rfl, ?_, rfl⟩
    rw [hF]; rfl
  have h1 : traceF t = 0 := by simpa using h1
  rw [if_neg (by rw [h1]; simp)] at hF
  refine callF_pure (k_known t ht th) ?_
  simp only [zC, seval, implies_true, Nat.reduceLeDiff, Nat.reduceEqDiff, reduceCtorEq, reduceIte]
  refine ifC.mk (fun h2 => ?_) (fun h2 => ?_)
  · rw [if_pos (by simpa using h2)] at hF
    refine ⟨_, _, ret_tdata rfl rfl, ?_, rfl⟩
    rw [hF]; rfl
  rw [if_neg (by simpa using h2)] at hF
  repeat ((with_reducible refine And.intro ?_ ?_); (focus (first | omega | (simp only [List.length_take, List.length_drop, List.length_map, List.length_append, List.length_cons]; omega) | (refine (show quietOp _ = true from ?_); rfl) | (refine (show drawOk _ _ _ _ _ _ _ from Or.inl ?_); kernel_rfl) | (intros; simp_all; done))))
  refine callF_pure (k_Valid _ _) ?_
  simp only [zC, seval, implies_true, Nat.reduceLeDiff, Nat.reduceEqDiff, reduceCtorEq, reduceIte]
  refine ifC.mk (fun h3 => ?_) (fun h3 => ?_)
  · rw [if_pos (by simpa using h3)] at hF
    refine ⟨_, _, ret_tdata rfl rfl, ?_, rfl⟩
    rw [hF]; rfl
  have h3 : okSpan lo hi = true := by simpa using h3
  rw [if_neg (by rw [h3]; simp)] at hF
  repeat ((with_reducible refine And.intro ?_ ?_); (focus (first | omega | (simp only [List.length_take, List.length_drop, List.length_map, List.length_append, List.length_cons]; omega) | (refine (show quietOp _ = true from ?_); rfl) | (refine (show drawOk _ _ _ _ _ _ _ from Or.inl ?_); kernel_rfl) | (intros; simp_all; done))))
  have hst := hst h1
  refine for_of t.states.length (fun k => [(1, .d (.int .i64 th)), (3, .ptr 0 0), (5, .ptr 1 0), (9, .osl 2 0 (blF th lo hi (t.states.take k)).length), (28, .d (.sl (t.states.map StateT.toD))), (29, .d (.int .i64 t.states.length)), (30, .d (.int .i64 k))]) (fun k => [.box 10 (.d t.toD), .box 2 (.d (.agg [.int .i64 lo, .int .i64 hi])), .arr 2 ((blF th lo hi (t.states.take k)).map pD)]) (fun _ => True) trivial ?_ ?_
  · refine (weak_nils 9 2 rfl).trans ?_
    refine weak_to [] [0, 1, 2] rfl (by simp) ?_ ?_
    · simp only [zC, seval, implies_true, Nat.reduceLeDiff, Nat.reduceEqDiff, reduceCtorEq, reduceIte, Int.cast_ofNat_Int]
      all_goals rfl
    · rfl
  · intro k _ hk
    by_cases h : k < t.states.length
    · have hstep := blF_step th lo hi t.states h
      have hsrt := blF_srt th lo hi (t.states.take k)
      have hlen := blF_len th lo hi (t.states.take k)
      have htl : (t.states.take k).length = k := by rw [List.length_take]; omega
      rw [htl] at hlen
      have hbd := blF_bd (th := th) (l := t.states.take k) (fun s hs => hst s (List.mem_of_mem_take hs)) h3
      rw [htl] at hbd
      obtain ⟨s, hs⟩ : ∃ s, s = t.states.getD k default := ⟨_, rfl⟩
      have hso := okSpan_lt (hst s (by rw [hs]; exact mem_getD h))
      have hlo := okSpan_lt h3
      have hg : (List.map StateT.toD t.states).getD k default = s.toD := by rw [hs]; simp [h]
      rw [← hs] at hstep
      obtain ⟨l, hl⟩ : ∃ l, l = blF th lo hi (t.states.take k) := ⟨_, rfl⟩
      rw [← hl] at hstep hsrt hlen hbd ⊢
      have hov : IntKind.i64.wrap (min s.hi hi - max s.lo lo) = ovF lo hi s := wrap64 (by omega) (by omega)
      simp only [zC, seval, implies_true, Nat.reduceLeDiff, Nat.reduceEqDiff, reduceCtorEq, reduceIte, (show (k:Int) < t.states.length by omega), h, hg, hov]
      repeat ((with_reducible refine And.intro ?_ ?_); (focus (first | omega | (simp only [List.length_take, List.length_drop, List.length_map, List.length_append, List.length_cons]; omega) | (refine (show quietOp _ = true from ?_); rfl) | (refine (show drawOk _ _ _ _ _ _ _ from Or.inl ?_); kernel_rfl) | (intros; simp_all; done))))
      refine ifC.mk (fun hc => ?_) (fun hc => ?_)
      · have hno : hitB th lo hi s = false := by unfold hitB; rw [hc]; rfl
        rw [stepB, if_neg (by rw [hno]; simp)] at hstep
        refine weak_to [] [0, 1, 2] rfl (by simp) ?_ ?_
        · rw [hstep]; simp only [zC, seval, implies_true, Nat.reduceLeDiff, Nat.reduceEqDiff, reduceCtorEq, reduceIte, @a_wrap ((k:Int) + 1) (by omega)]
          all_goals rfl
        · rw [hstep]; rfl
      have hyes : hitB th lo hi s = true := by unfold hitB; rw [hc]; rfl
      rw [stepB, if_pos hyes] at hstep
      have hpos := (hitB_lt hyes).2.2
      have hle := posI_le l s.on_
      refine callF_at1 2 (by simp) rfl (k_BSF l hsrt l.length rfl (by omega) 31 s.on_ (fun p => k_Blame1 p s.on_)) ?_
      rintro r s' ⟨rfl, rfl⟩
      simp only [zC, seval, implies_true, Nat.reduceLeDiff, Nat.reduceEqDiff, reduceCtorEq, reduceIte, back_t2]
      repeat ((with_reducible refine And.intro ?_ ?_); (focus (first | omega | (simp only [List.length_take, List.length_drop, List.length_map, List.length_append, List.length_cons]; omega) | (refine (show quietOp _ = true from ?_); rfl) | (refine (show drawOk _ _ _ _ _ _ _ from Or.inl ?_); kernel_rfl) | (intros; simp_all; done))))
      have w0 : IntKind.i64.wrap (0 + ovF lo hi s) = ovF lo hi s := by rw [wrap64 (by unfold ovF; omega) (by unfold ovF; omega)]; omega
      refine ifC.mk (fun hf => ?_) (fun hf => ?_)
      · have hf : hasI l s.on_ = false := by simpa using hf
        rw [addB_no _ hf] at hstep
        refine callF_go ?_
        refine (ACalls.under [2, 4] (by simp) (by simp) (k_Insert (l.map pD) (pD (s.on_, 0)) l.length (posI l s.on_) (by simp) hle (by omega) (fun x hx => by obtain ⟨p, _, rfl⟩ := List.mem_map.1 hx; rfl) rfl (pD_flat _))).mono fun r s2 hr => ?_
        obtain ⟨r0, s0, ⟨rfl, rfl⟩, rfl, rfl⟩ := hr
        have hb1 : back (backId [2, 4] 5) (.osl 2 0 (l.length + 1)) = .osl 5 0 (l.length + 1) := rfl
        have hb2 : ∀ A B C D E xs ys, backS [2, 4] [A, B, C, D, E] [.dead, .arr 2 xs, .arr 2 ys] = [A, B, .dead, D, .arr 2 xs, .arr 2 ys] := fun A B C D E xs ys => rfl
        obtain ⟨L, hL⟩ : ∃ L, L = l.take (posI l s.on_) ++ (s.on_, 0) :: l.drop (posI l s.on_) := ⟨_, rfl⟩
        have hmap : List.take (posI l s.on_) (List.map pD l) ++ pD (s.on_, 0) :: List.drop (posI l s.on_) (List.map pD l) = L.map pD := by rw [hL]; simp [List.map_take, List.map_drop]
        have hLl : L.length = l.length + 1 := by rw [hL]; simp only [List.length_append, List.length_cons, List.length_take, List.length_drop]; omega
        have htk : (l.take (posI l s.on_)).length = posI l s.on_ := by rw [List.length_take]; omega
        have hLg : L.getD (posI l s.on_) default = (s.on_, 0) := by
          rw [hL, List.getD_eq_getElem?_getD, List.getElem?_append_right (by omega), htk]; simp
        have hgi : (L.map pD).getD (posI l s.on_) default = pD (s.on_, 0) := by
          rw [← hLg]; simp [show posI l s.on_ < L.length by omega]
        have hset : (L.map pD).set (posI l s.on_) (D.agg [D.int .i64 s.on_, D.int .i64 (ovF lo hi s)]) = (blF th lo hi (t.states.take (k + 1))).map pD := by
          rw [hstep, hL]
          have : (l.take (posI l s.on_) ++ (s.on_, ovF lo hi s) :: l.drop (posI l s.on_)) = (l.take (posI l s.on_) ++ (s.on_, 0) :: l.drop (posI l s.on_)).set (posI l s.on_) (s.on_, ovF lo hi s) := by
            rw [List.set_append_right _ _ (by omega), htk]; simp
          rw [this, List.map_set]; rfl
        have hlen2 : (blF th lo hi (t.states.take (k + 1))).length = l.length + 1 := by
          rw [hstep, List.length_append, List.length_cons, List.length_drop, htk]; omega
        simp only [zC, seval, implies_true, Nat.reduceLeDiff, Nat.reduceEqDiff, reduceCtorEq, reduceIte, hb1, hb2, hmap]
        repeat ((with_reducible refine And.intro ?_ ?_); (focus (first | omega | (simp only [List.length_take, List.length_drop, List.length_map, List.length_append, List.length_cons]; omega) | (refine (show quietOp _ = true from ?_); rfl) | (refine (show drawOk _ _ _ _ _ _ _ from Or.inl ?_); kernel_rfl) | (intros; simp_all; done))))
        have hpl : posI l s.on_ < L.length := by omega
        simp only [zC, seval, implies_true, Nat.reduceLeDiff, Nat.reduceEqDiff, reduceCtorEq, reduceIte, hgi, pD_cells, pD_isAgg, hpl, w0, (show (posI l s.on_ : Int) < (l.length : Int) + 1 by omega)]
        rw [hset, hlen2]
        refine ⟨⟨rfl, by decide, by decide, by decide⟩, ⟨rfl, by decide, by decide, by decide⟩, ?_⟩
        refine weak_to [] [0, 1, 5] rfl (by simp) ?_ ?_
        · simp only [zC, seval, implies_true, Nat.reduceLeDiff, Nat.reduceEqDiff, reduceCtorEq, reduceIte, @a_wrap ((k:Int) + 1) (by omega)]
          all_goals rfl
        · rfl
      · have hf : hasI l s.on_ = true := by simpa using hf
        obtain ⟨q1, q2, q3⟩ := addB_has (ovF lo hi s) hf
        rw [q3] at hstep
        obtain ⟨p, hp⟩ : ∃ p, p = l.getD (posI l s.on_) default := ⟨_, rfl⟩
        have hpb := hbd p (by rw [hp]; exact mem_getD q1)
        rw [← hp] at hstep
        have hgi : (l.map pD).getD (posI l s.on_) default = pD p := by rw [hp]; simp [q1]
        have wp : IntKind.i64.wrap (p.2 + ovF lo hi s) = p.2 + ovF lo hi s := by rw [wrap64 (by unfold ovF; omega) (by unfold ovF; omega)]
        have hset : (l.map pD).set (posI l s.on_) (D.agg [D.int .i64 p.1, D.int .i64 (p.2 + ovF lo hi s)]) = (blF th lo hi (t.states.take (k + 1))).map pD := by
          rw [hstep, List.map_set]; rfl
        have hlen2 : (blF th lo hi (t.states.take (k + 1))).length = l.length := by rw [hstep, List.length_set]
        repeat ((with_reducible refine And.intro ?_ ?_); (focus (first | omega | (simp only [List.length_take, List.length_drop, List.length_map, List.length_append, List.length_cons]; omega) | (refine (show quietOp _ = true from ?_); rfl) | (refine (show drawOk _ _ _ _ _ _ _ from Or.inl ?_); kernel_rfl) | (intros; simp_all; done))))
        simp only [zC, seval, implies_true, Nat.reduceLeDiff, Nat.reduceEqDiff, reduceCtorEq, reduceIte, hgi, pD_cells, pD_isAgg, q1, wp, (show (posI l s.on_ : Int) < (l.length : Int) by omega)]
        rw [hset, hlen2]
        refine ⟨⟨rfl, by decide, by decide, by decide⟩, ⟨rfl, by decide, by decide, by decide⟩, ?_⟩
        refine weak_to [] [0, 1, 2] rfl (by simp) ?_ ?_
        · simp only [zC, seval, implies_true, Nat.reduceLeDiff, Nat.reduceEqDiff, reduceCtorEq, reduceIte, @a_wrap ((k:Int) + 1) (by omega)]
          all_goals rfl
        · rfl
    · simp only [zC, seval, implies_true, Nat.reduceLeDiff, Nat.reduceEqDiff, reduceCtorEq, reduceIte, (show ¬ (k:Int) < t.states.length by omega)]
      have : k = t.states.length := by omega
      subst this
      rw [List.take_length]
      refine ⟨_, _, ret_tdata rfl rfl, ?_, rfl⟩
      rw [hF]
      simp only [zC, seval, implies_true, Nat.reduceLeDiff, Nat.reduceEqDiff, reduceCtorEq, reduceIte, take_all]
end YtccgdcmgjdhikaaGreat
end Go.Proofs
