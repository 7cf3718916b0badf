/- A part of the proof: contracts of functions of this seat, and lemmas. No condition beyond those stated. -/
import Derived.Test.YtccgdcmgjdhikaaGreatWzl
set_option linter.unusedVariables false
set_option linter.unusedSimpArgs false
set_option linter.unusedSectionVars false
set_option linter.unnecessarySimpa false
set_option linter.unusedSimpArgs false
set_option linter.unusedVariables false
set_option maxRecDepth 100000
namespace Go.Proofs
open Go.AM
namespace YtccgdcmgjdhikaaGreat
variable {Gl : Globs}

/-! ### circles -/
def nxN (t : TraceT) (a y : Int) : Int := (nextF t y a).1
def okN (t : TraceT) (a y : Int) : Bool := (nextF t y a).2
def itN (t : TraceT) (a : Int) : Nat → Int → Int
  | 0, y => y
  | k + 1, y => nxN t a (itN t a k y)
theorem itN_add (t : TraceT) (a y : Int) (j : Nat) : ∀ i, itN t a (i + j) y = itN t a i (itN t a j y)
  | 0 => by rw [Nat.zero_add]; rfl
  | i + 1 => by rw [show i + 1 + j = (i + j) + 1 by omega]; unfold itN; rw [itN_add t a y j i]
def Circ (t : TraceT) (a y : Int) : Prop := ∃ m, 0 < m ∧ itN t a m y = y ∧ ∀ j, j < m → okN t a (itN t a j y) = true
theorem okN_at {t : TraceT} {a y : Int} (h : okN t a y = true) : (atS t.states y a).isSome = true ∧ ((atS t.states y a).getD default).state = 2 ∧ hasT t.threads (nxN t a y) = true := by
  unfold okN nextF at h
  simp only [Bool.and_eq_true, beq_iff_eq] at h
  exact ⟨h.1.1, h.1.2, h.2⟩
theorem circ_next {t : TraceT} {a y : Int} (h : Circ t a y) : Circ t a (nxN t a y) := by
  obtain ⟨m, h1, h2, h3⟩ := h
  have e : ∀ j, itN t a j (nxN t a y) = itN t a (j + 1) y := fun j => (itN_add t a y 1 j).symm
  refine ⟨m, h1, ?_, fun j hj => ?_⟩
  · rw [e]; show nxN t a (itN t a m y) = _; rw [h2]
  · rw [e]
    rcases Nat.lt_or_ge (j + 1) m with h4 | h4
    · exact h3 _ h4
    · have : j + 1 = m := by omega
      rw [this, h2]; exact h3 0 h1
theorem circ_it {t : TraceT} {a y : Int} (h : Circ t a y) : ∀ k, Circ t a (itN t a k y)
  | 0 => h
  | k + 1 => circ_next (circ_it h k)
theorem follow_it {t : TraceT} {a th : Int} {xs : List Int} (h : FollowOk t a th xs) : ∀ i, i < xs.length → xs.getD i default = itN t a i th
  | 0, _ => h.hd
  | i + 1, hi => by
    have ih := follow_it h i (by omega)
    have := (h.nx i hi).2
    rw [← this, ih]; rfl
theorem circB_ok {t : TraceT} {a y : Int} (h : circB t a y = true) : okN t a y = true := by
  unfold circB at h
  rw [Bool.and_eq_true] at h
  unfold followF at h
  rw [folF] at h
  by_cases hs : stopF t a [y] = true
  · rw [if_pos hs] at h
    exact h.1
  · have := (stopF_go (by simpa using hs)).1
    exact this
theorem circB_follow {t : TraceT} {a y : Int} (h : circB t a y = true) : FollowOk t a y (followF t y a) := follow_good (okN_at (circB_ok h)).1
theorem circ_of {t : TraceT} {a y : Int} (h : circB t a y = true) : Circ t a y := by
  have hok := circB_follow h
  have hp := hok.pos
  unfold circB at h
  simp only [Bool.and_eq_true, beq_iff_eq] at h
  obtain ⟨xs, hxs⟩ : ∃ xs, xs = followF t y a := ⟨_, rfl⟩
  rw [← hxs] at hok hp h
  have hl : lastI xs = itN t a (xs.length - 1) y := follow_it hok _ (by omega)
  refine ⟨xs.length, hp, ?_, fun j hj => ?_⟩
  · have e : xs.length = (xs.length - 1) + 1 := by omega
    rw [e]
    show nxN t a (itN t a (xs.length - 1) y) = y
    rw [← hl]; exact h.2
  · rcases Nat.lt_or_ge (j + 1) xs.length with h4 | h4
    · have := (hok.nx j h4).1
      rw [follow_it hok j hj] at this
      exact this
    · have : j = xs.length - 1 := by omega
      rw [this, ← hl]; exact h.1
/-- the least number of steps -/
theorem circ_min {t : TraceT} {a y : Int} (h : Circ t a y) : ∃ m, 0 < m ∧ itN t a m y = y ∧ (∀ j, j < m → okN t a (itN t a j y) = true) ∧ ∀ j, 0 < j → j < m → itN t a j y ≠ y := by
  obtain ⟨m, h1, h2, h3⟩ := h
  induction m using Nat.strongRecOn with
  | _ m ih =>
    by_cases hq : ∃ j, 0 < j ∧ j < m ∧ itN t a j y = y
    · obtain ⟨j, j1, j2, j3⟩ := hq
      exact ih j j2 j1 j3 fun i hi => h3 i (by omega)
    · exact ⟨m, h1, h2, h3, fun j j1 j2 j3 => hq ⟨j, j1, j2, j3⟩⟩
theorem circ_inj {t : TraceT} {a y : Int} {m : Nat} (h2 : itN t a m y = y) (h4 : ∀ j, 0 < j → j < m → itN t a j y ≠ y) {i j : Nat} (hij : i < j) (hj : j < m) : itN t a i y ≠ itN t a j y := fun e => by
  have h5 : itN t a (m - j + i) y = y := by rw [itN_add, e, ← itN_add, show m - j + j = m by omega, h2]
  exact h4 (m - j + i) (by omega) (by omega) h5
def itL (t : TraceT) (a y : Int) (m : Nat) : List Int := (List.range m).map fun i => itN t a i y
theorem itL_len (t : TraceT) (a y : Int) (m : Nat) : (itL t a y m).length = m := by simp [itL]
theorem itL_snoc (t : TraceT) (a y : Int) (m : Nat) : itL t a y (m + 1) = itL t a y m ++ [itN t a m y] := by simp [itL, List.range_succ]
theorem itL_last (t : TraceT) (a y : Int) (m : Nat) : lastI (itL t a y (m + 1)) = itN t a m y := by
  unfold lastI; rw [itL_snoc, List.length_append, itL_len]; simp [itL]
theorem itL_any {t : TraceT} {a y q : Int} {m : Nat} (h : ∀ i, i < m → itN t a i y ≠ q) : (itL t a y m).any (fun z => q == z) = false := by
  rw [List.any_eq_false]
  intro z hz
  obtain ⟨i, hi, rfl⟩ := List.mem_map.1 hz
  have := h i (List.mem_range.1 hi)
  simpa using fun e => this e.symm
/-- known threads, each once: not more than there are threads -/
theorem itL_bound {t : TraceT} {a y : Int} {m : Nat} (hk : ∀ i, i < m → hasT t.threads (itN t a i y) = true) (hn : ∀ i j, i < j → j < m → itN t a i y ≠ itN t a j y) : ∀ j, j ≤ m → cntF t.threads (itL t a y j) + j ≤ t.threads.length
  | 0, _ => by have := List.countP_le_length (p := fun x : ThreadT => !(itL t a y 0).any (fun y => x.id == y)) (l := t.threads); unfold cntF; omega
  | j + 1, hj => by
    have ih := itL_bound hk hn j (by omega)
    have := cnt_lt (xs := itL t a y j) (q := itN t a j y) (itL_any fun i hi => hn i j hi (by omega)) (hk j (by omega))
    rw [itL_snoc]; omega
theorem circ_known {t : TraceT} {a y : Int} {m : Nat} (h2 : itN t a m y = y) (h3 : ∀ j, j < m → okN t a (itN t a j y) = true) {i : Nat} (hi : i < m) : hasT t.threads (itN t a i y) = true := by
  rcases Nat.eq_zero_or_pos i with h0 | h0
  · subst h0
    have := (okN_at (h3 (m - 1) (by omega))).2.2
    have e : nxN t a (itN t a (m - 1) y) = itN t a m y := by rw [show m = (m - 1) + 1 by omega]; rfl
    rw [e, h2] at this
    exact this
  · have := (okN_at (h3 (i - 1) (by omega))).2.2
    have e : nxN t a (itN t a (i - 1) y) = itN t a i y := by rw [show i = (i - 1) + 1 by omega]; rfl
    rw [e] at this
    exact this
theorem folF_it {t : TraceT} {a y : Int} {m : Nat} (h2 : itN t a m y = y) (h3 : ∀ j, j < m → okN t a (itN t a j y) = true) (h4 : ∀ j, 0 < j → j < m → itN t a j y ≠ y) : ∀ (n j : Nat), j < m → m - 1 - j ≤ n → folF t a n (itL t a y (j + 1)) = itL t a y m
  | 0, j, hj, hn => by
    have : j + 1 = m := by omega
    rw [this]; rfl
  | n + 1, j, hj, hn => by
    rw [folF]
    rcases Nat.lt_or_ge (j + 1) m with h5 | h5
    · have hs : stopF t a (itL t a y (j + 1)) = false := by
        unfold stopF
        rw [itL_last]
        have e : (nextF t (itN t a j y) a).1 = itN t a (j + 1) y := rfl
        have o : (nextF t (itN t a j y) a).2 = true := h3 j hj
        rw [e, o, (okN_at (h3 (j + 1) h5)).1, itL_any fun i hi => circ_inj h2 h4 hi h5]
        rfl
      rw [if_neg (by rw [hs]; simp), itL_last, show (nextF t (itN t a j y) a).1 = itN t a (j + 1) y from rfl, ← itL_snoc]
      exact folF_it h2 h3 h4 n (j + 1) h5 (by omega)
    · have hm : j + 1 = m := by omega
      have hs : stopF t a (itL t a y (j + 1)) = true := by
        unfold stopF
        rw [itL_last]
        have e : (nextF t (itN t a j y) a).1 = itN t a (j + 1) y := rfl
        rw [e, hm, h2]
        have : (itL t a y m).any (fun z => y == z) = true := by
          rw [List.any_eq_true]
          exact ⟨y, List.mem_map.2 ⟨0, List.mem_range.2 (by omega), rfl⟩, by simp⟩
        rw [this, Bool.or_true]
      rw [if_pos hs, hm]
theorem circB_of {t : TraceT} {a y : Int} (h : Circ t a y) : circB t a y = true := by
  obtain ⟨m, h1, h2, h3, h4⟩ := circ_min h
  have hb := itL_bound (fun i hi => circ_known h2 h3 hi) (fun i j hij hj => circ_inj h2 h4 hij hj) m (Nat.le_refl _)
  have hf : followF t y a = itL t a y m := by
    unfold followF
    have := folF_it h2 h3 h4 (t.threads.length + 1) 0 h1 (by omega)
    exact this
  obtain ⟨j, rfl⟩ : ∃ j, m = j + 1 := ⟨m - 1, by omega⟩
  unfold circB
  rw [hf, itL_last, show (nextF t (itN t a j y) a).1 = itN t a (j + 1) y from rfl, h2, show (nextF t (itN t a j y) a).2 = okN t a (itN t a j y) from rfl, h3 j (by omega)]
  simp
theorem hasT_mem {l : List ThreadT} {n : Int} (h : hasT l n = true) : ∃ x ∈ l, x.id = n := by
  unfold hasT at h
  rw [List.any_eq_true] at h
  obtain ⟨x, hx, e⟩ := h
  exact ⟨x, hx, by simpa using e⟩
end YtccgdcmgjdhikaaGreat
end Go.Proofs
