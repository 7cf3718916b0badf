/- A part of the proof: contracts of functions of this seat, and lemmas. No condition beyond those stated. -/
import Derived.Test.YtccgdcmgjdhikaaGreatWzbb
set_option linter.unusedVariables false
set_option linter.unusedSimpArgs false
set_option linter.unusedSectionVars false
set_option linter.unnecessarySimpa false
set_option linter.unusedSimpArgs false
set_option linter.unusedVariables false
set_option maxRecDepth 100000
namespace Go.Proofs
open Go.AM
namespace YtccgdcmgjdhikaaGreat
variable {Gl : Globs}
/-! ### the selection finds the sorted list -/
def getB : List (Int × Int) → Int → Int
  | [], _ => 0
  | p :: r, x => (if p.1 = x then p.2 else 0) + getB r x
theorem getB_add (x n y : Int) : ∀ l : List (Int × Int), getB (addB l x n) y = getB l y + (if x = y then n else 0)
  | [] => by simp [addB, getB]
  | p :: r => by
    unfold addB
    split
    · simp only [getB, getB_add x n y r]; omega
    · split
      · rename_i h; subst h
        simp only [getB]; split <;> omega
      · simp only [getB]; omega
theorem getB_step (th lo hi : Int) (l : List (Int × Int)) (s : StateT) (on : Int) : getB (stepB th lo hi l s) on = getB l on + blkS th on lo hi s := by
  unfold stepB blkS
  by_cases h : hitB th lo hi s = true
  · obtain ⟨h1, h2, h3⟩ := hitB_lt h
    rw [if_pos h, getB_add]
    by_cases e : s.on_ = on
    · rw [if_pos e, if_pos (by simp [h1, h2, e])]; omega
    · rw [if_neg e, if_neg (by simp [e])]
  · rw [if_neg h]
    by_cases g : (s.thread == th && s.state == 2 && s.on_ == on) = true
    · rw [if_pos g]
      simp only [Bool.and_eq_true, beq_iff_eq] at g
      have : ¬ 0 < ovF lo hi s := fun hp => h (by unfold hitB; simp [g.1.1, g.1.2]; omega)
      omega
    · rw [if_neg g]; omega
theorem getB_blF (th lo hi on : Int) (l : List StateT) : ∀ k, k ≤ l.length → getB (blF th lo hi (l.take k)) on = blkF th on lo hi (l.take k)
  | 0, _ => by simp [blF, getB, blkF]
  | k + 1, hk => by
    have hk' : k < l.length := by omega
    rw [blF_step _ _ _ _ hk', blkF_step _ _ _ _ _ hk', getB_step, getB_blF th lo hi on l k (by omega)]
theorem getB_all (th lo hi on : Int) (l : List StateT) : getB (blF th lo hi l) on = blkF th on lo hi l := by
  have := getB_blF th lo hi on l l.length (Nat.le_refl _)
  rwa [List.take_length] at this
theorem getB_none {x : Int} : ∀ {l : List (Int × Int)}, (∀ p ∈ l, p.1 ≠ x) → getB l x = 0
  | [], _ => rfl
  | p :: r, h => by
    rw [getB, if_neg (h p List.mem_cons_self), getB_none fun q hq => h q (List.mem_cons_of_mem _ hq)]; rfl
theorem getB_mem : ∀ {l : List (Int × Int)}, Srt l → ∀ {p : Int × Int}, p ∈ l → getB l p.1 = p.2
  | q :: r, h, p, hp => by
    obtain ⟨h1, h2⟩ := List.pairwise_cons.1 h
    rw [getB]
    rcases List.mem_cons.1 hp with rfl | hp
    · rw [if_pos rfl, getB_none fun q hq => by have := h1 q hq; omega]; omega
    · have := h1 p hp
      rw [if_neg (by omega), getB_mem h2 hp]; omega
theorem getB_some {x : Int} : ∀ {l : List (Int × Int)}, getB l x ≠ 0 → ∃ p ∈ l, p.1 = x
  | [], h => absurd rfl h
  | p :: r, h => by
    by_cases e : p.1 = x
    · exact ⟨p, List.mem_cons_self, e⟩
    · rw [getB, if_neg e, Int.zero_add] at h
      obtain ⟨q, h1, h2⟩ := getB_some h
      exact ⟨q, List.mem_cons_of_mem _ h1, h2⟩
theorem blkF_some (th on lo hi : Int) (l : List StateT) : ∀ k, k ≤ l.length → blkF th on lo hi (l.take k) ≠ 0 → ∃ s ∈ l, s.state = 2 ∧ s.on_ = on
  | 0, _, h => absurd (by simp [blkF]) h
  | k + 1, hk, h => by
    have hk' : k < l.length := by omega
    by_cases e : blkF th on lo hi (l.take k) = 0
    · rw [blkF_step _ _ _ _ _ hk', e, Int.zero_add] at h
      refine ⟨l.getD k default, mem_getD hk', ?_⟩
      unfold blkS at h
      split at h
      · rename_i g
        simp only [Bool.and_eq_true, beq_iff_eq] at g
        exact ⟨g.1.2, g.2⟩
      · exact absurd rfl h
    · exact blkF_some th on lo hi l k (by omega) e
def okN2 (B : Int → Int) (last next : Int) (s : StateT) : Bool := (decide (s.on_ > last) && (decide (next < 0) || decide (s.on_ < next))) && decide (B s.on_ > 0)
def nextS (B : Int → Int) (last : Int) (next : Int) (s : StateT) : Int := if okN2 B last next s = true then s.on_ else next
def nextW (B : Int → Int) (last : Int) (l : List StateT) : Int := l.foldl (nextS B last) (-1)
theorem nextW_step (B : Int → Int) (last : Int) (l : List StateT) {k : Nat} (hk : k < l.length) : nextW B last (l.take (k + 1)) = nextS B last (nextW B last (l.take k)) (l.getD k default) := by
  have : l.take (k + 1) = l.take k ++ [l.getD k default] := by rw [List.take_add_one, List.getElem?_eq_getElem hk]; simp [hk]
  rw [this, nextW, List.foldl_append]; rfl
def selB (B : Int → Int) (last : Int) (s : StateT) : Prop := s.on_ > last ∧ B s.on_ > 0
theorem nextW_is (B : Int → Int) (last : Int) (hl : -1 ≤ last) (l : List StateT) : ∀ k, k ≤ l.length →
    (nextW B last (l.take k) = -1 ∧ ∀ j, j < k → ¬ selB B last (l.getD j default)) ∨ (∃ j, j < k ∧ selB B last (l.getD j default) ∧ nextW B last (l.take k) = (l.getD j default).on_ ∧ ∀ j', j' < k → selB B last (l.getD j' default) → nextW B last (l.take k) ≤ (l.getD j' default).on_)
  | 0, _ => .inl ⟨rfl, fun j hj => absurd hj (by omega)⟩
  | k + 1, hk => by
    have hk' : k < l.length := by omega
    have ih := nextW_is B last hl l k (by omega)
    rw [nextW_step _ _ _ hk']
    obtain ⟨s, hs⟩ : ∃ s, s = l.getD k default := ⟨_, rfl⟩
    obtain ⟨n, hn⟩ : ∃ n, n = nextW B last (l.take k) := ⟨_, rfl⟩
    rw [← hn] at ih ⊢
    rw [← hs]
    unfold nextS
    by_cases h : okN2 B last n s = true
    · rw [if_pos h]
      unfold okN2 at h
      simp only [Bool.and_eq_true, Bool.or_eq_true, decide_eq_true_eq] at h
      obtain ⟨⟨h1, h2⟩, h3⟩ := h
      refine .inr ⟨k, by omega, by rw [← hs]; exact ⟨h1, h3⟩, by rw [← hs], fun j' hj' hsel => ?_⟩
      by_cases e : j' = k
      · subst e; rw [← hs]; exact Int.le_refl _
      · rcases ih with ⟨_, i2⟩ | ⟨j, i1, i2, i3, i4⟩
        · exact absurd hsel (i2 j' (by omega))
        · have := i4 j' (by omega) hsel
          have := i2.1
          omega
    · rw [if_neg h]
      have hno : ∀ (_ : selB B last s), 0 ≤ n ∧ n ≤ s.on_ := fun hsel => by
        obtain ⟨h1, h2⟩ := hsel
        unfold okN2 at h
        simp only [Bool.and_eq_true, Bool.or_eq_true, decide_eq_true_eq, not_and, not_or] at h
        by_cases g : s.on_ > last ∧ (n < 0 ∨ s.on_ < n)
        · exact absurd h2 (by have := h g; simpa using this)
        · have : ¬ (n < 0 ∨ s.on_ < n) := fun x => g ⟨h1, x⟩
          omega
      rcases ih with ⟨i1, i2⟩ | ⟨j, i1, i2, i3, i4⟩
      · refine .inl ⟨i1, fun j hj hsel => ?_⟩
        by_cases e : j = k
        · subst e; rw [← hs] at hsel; have := hno hsel; omega
        · exact i2 j (by omega) hsel
      · refine .inr ⟨j, by omega, i2, i3, fun j' hj' hsel => ?_⟩
        by_cases e : j' = k
        · subst e; rw [← hs] at hsel ⊢; exact (hno hsel).2
        · exact i4 j' (by omega) hsel
def lastI2 (l : List (Int × Int)) (i : Nat) : Int := if i = 0 then -1 else (l.getD (i - 1) default).1
theorem next_at {t : TraceT} (h : traceF t = 0) (th lo hi : Int) (h3 : okSpan lo hi = true) {i : Nat} (hi' : i ≤ (blF th lo hi t.states).length) :
    nextW (fun on => blkF th on lo hi t.states) (lastI2 (blF th lo hi t.states) i) t.states = if i < (blF th lo hi t.states).length then ((blF th lo hi t.states).getD i default).1 else -1 := by
  have hst : ∀ s ∈ t.states, okSpan s.lo s.hi = true := fun s hs => (state_ok h hs).1
  have hbd := blF_bd (th := th) hst h3
  have hsrt := blF_srt th lo hi t.states
  have hget : ∀ on, getB (blF th lo hi t.states) on = blkF th on lo hi t.states := fun on => getB_all th lo hi on t.states
  obtain ⟨L, hL⟩ : ∃ L, L = blF th lo hi t.states := ⟨_, rfl⟩
  rw [← hL] at hbd hsrt hget hi' ⊢
  have hkey : ∀ j, j < L.length → 0 ≤ (L.getD j default).1 ∧ ∃ s ∈ t.states, s.on_ = (L.getD j default).1 := fun j hj => by
    have hm := mem_getD hj
    have h1 := getB_mem hsrt hm
    rw [hget] at h1
    have h2 := (hbd _ hm).1
    obtain ⟨s, s1, s2, s3⟩ := blkF_some th _ lo hi t.states t.states.length (Nat.le_refl _) (by rw [List.take_length, h1]; omega)
    have := fields_on (state_ok h s1).2 s2
    exact ⟨by omega, s, s1, s3⟩
  have hlast : -1 ≤ lastI2 L i := by
    unfold lastI2
    split
    · omega
    · have := (hkey (i - 1) (by omega)).1; omega
  have hsel : ∀ s ∈ t.states, selB (fun on => blkF th on lo hi t.states) (lastI2 L i) s → ∃ j, i ≤ j ∧ j < L.length ∧ (L.getD j default).1 = s.on_ := fun s hs ⟨q1, q2⟩ => by
    have q2 : blkF th s.on_ lo hi t.states > 0 := q2
    rw [← hget] at q2
    obtain ⟨p, p1, p2⟩ := getB_some (l := L) (x := s.on_) (by omega)
    obtain ⟨j, hj, e⟩ := List.getElem_of_mem p1
    have e2 : L.getD j default = p := by simp [hj, e]
    refine ⟨j, ?_, hj, by rw [e2, p2]⟩
    rcases Nat.lt_or_ge j i with hji | hji
    · exfalso
      have : (L.getD j default).1 ≤ lastI2 L i := by
        unfold lastI2
        rw [if_neg (by omega)]
        by_cases e3 : j = i - 1
        · rw [e3]; exact Int.le_refl _
        · have := srt_at hsrt (show j < i - 1 by omega) (by omega); omega
      rw [e2, p2] at this
      omega
    · exact hji
  have hcase := nextW_is (fun on => blkF th on lo hi t.states) (lastI2 L i) hlast t.states t.states.length (Nat.le_refl _)
  rw [List.take_length] at hcase
  by_cases hil : i < L.length
  · rw [if_pos hil]
    have hself : ∃ j', j' < t.states.length ∧ (t.states.getD j' default).on_ = (L.getD i default).1 ∧ selB (fun on => blkF th on lo hi t.states) (lastI2 L i) (t.states.getD j' default) := by
      obtain ⟨s, s1, s2⟩ := (hkey i hil).2
      obtain ⟨j', hj', e⟩ := List.getElem_of_mem s1
      have e2 : t.states.getD j' default = s := by simp [hj', e]
      refine ⟨j', hj', by rw [e2, s2], ?_⟩
      rw [e2]
      refine ⟨?_, ?_⟩
      · rw [s2]
        unfold lastI2
        split
        · have := (hkey i hil).1; omega
        · exact srt_at hsrt (show i - 1 < i by omega) hil
      · show blkF th s.on_ lo hi t.states > 0
        rw [← hget, s2, getB_mem hsrt (mem_getD hil)]
        exact (hbd _ (mem_getD hil)).1
    obtain ⟨j', q1, q2, q3⟩ := hself
    rcases hcase with ⟨_, c2⟩ | ⟨j, c1, c2, c3, c4⟩
    · exact absurd q3 (c2 j' q1)
    · have r1 := c4 j' q1 q3
      obtain ⟨m, m1, m2, m3⟩ := hsel _ (mem_getD c1) c2
      rw [q2] at r1
      have : (L.getD i default).1 ≤ (L.getD m default).1 := by
        by_cases e : i = m
        · rw [e]; exact Int.le_refl _
        · have := srt_at hsrt (show i < m by omega) m2; omega
      omega
  · rw [if_neg hil]
    rcases hcase with ⟨c1, _⟩ | ⟨j, c1, c2, c3, c4⟩
    · exact c1
    · obtain ⟨m, m1, m2, m3⟩ := hsel _ (mem_getD c1) c2
      omega
theorem blk_at (t : TraceT) (th lo hi : Int) {i : Nat} (hi' : i < (blF th lo hi t.states).length) : blkF th ((blF th lo hi t.states).getD i default).1 lo hi t.states = ((blF th lo hi t.states).getD i default).2 := by
  rw [← getB_all, getB_mem (blF_srt th lo hi t.states) (mem_getD hi')]
end YtccgdcmgjdhikaaGreat
end Go.Proofs
