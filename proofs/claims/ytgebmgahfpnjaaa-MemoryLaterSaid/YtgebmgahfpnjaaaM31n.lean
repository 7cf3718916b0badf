/- A part of the proof: contracts of functions of this seat, and lemmas. No condition beyond those stated. -/
import Derived.Test.YtgebmgahfpnjaaaM31m
import Derived.Test.YtgebmgahfpnjaaaG5
set_option linter.unusedVariables false
set_option linter.unusedSimpArgs false
set_option linter.unusedSectionVars false
set_option linter.unnecessarySimpa false
set_option linter.unusedSimpArgs false
set_option linter.unusedVariables false
set_option maxRecDepth 100000
namespace Go.Proofs
open Go.AM Go.ChangeShapes Go.WideShapes Go.ChangeAt Go.RowKit
namespace Ytgebmgahfpnjaaa

/-! ### blocks made of valid events -/
theorem valid_spec {os : List TimedT} (h : validB os = true) {k : Nat} (hk : k < os.length) : vO (os.getD k default) = false ∧ (0 < k → timeF (os.getD (k - 1) default) ≤ timeF (os.getD k default)) := by
  unfold validB at h
  rw [List.all_eq_true] at h
  have := h k (List.mem_range.2 hk)
  unfold validAt at this
  simp only [Bool.not_eq_true', Bool.or_eq_false_iff, Bool.and_eq_false_iff, decide_eq_false_iff_not] at this
  exact ⟨this.1, fun h0 => by omega⟩
theorem vO_spec {o : TimedT} (h : vO o = false) : 0 ≤ o.thread ∧ o.thread ≤ 1000000000000000 ∧ 0 ≤ o.n ∧ o.n ≤ 1000000000000000 ∧ (o.kind = 11 → 1 ≤ o.m ∧ o.m ≤ 1000000000000 ∧ framesF o.stack = 0) := by
  unfold vO at h
  simp only [Bool.or_eq_false_iff, decide_eq_false_iff_not, Bool.and_eq_false_iff, beq_eq_false_iff_ne, bne_eq_false_iff_eq] at h
  obtain ⟨⟨⟨⟨h1, h2⟩, h3⟩, h4⟩, h5⟩ := h
  refine ⟨by omega, by omega, by omega, by omega, fun hk => ?_⟩
  rcases h5 with h5 | h5
  · exact absurd hk h5
  · exact ⟨by omega, by omega, h5.2⟩
theorem time_mono {os : List TimedT} (h : validB os = true) {j : Nat} : ∀ {k : Nat}, j ≤ k → k < os.length → timeF (os.getD j default) ≤ timeF (os.getD k default)
  | 0, h1, _ => by have : j = 0 := by omega
                   subst this; exact Int.le_refl _
  | k + 1, h1, h2 => by
    by_cases e : j = k + 1
    · subst e; exact Int.le_refl _
    · have := time_mono h (j := j) (k := k) (by omega) (by omega)
      have h3 := (valid_spec h h2).2 (by omega)
      simp only [Nat.add_sub_cancel] at h3
      omega
theorem time_bound (o : TimedT) : 0 ≤ timeF o ∧ timeF o ≤ 1000000000000 := by unfold timeF; omega
theorem end_bound (os : List TimedT) (e : Int) : 0 ≤ endF os e ∧ endF os e ≤ 1000000000000 := by unfold endF; split <;> omega
theorem end_last {os : List TimedT} (h : validB os = true) (e : Int) {i : Nat} (hi : i < os.length) : timeF (os.getD i default) ≤ endF os e := by
  have := time_mono h (j := i) (k := os.length - 1) (by omega) (by omega)
  have hb := time_bound (os.getD (os.length - 1) default)
  unfold endF
  rw [if_neg (by omega)]; omega
theorem closeIf_keep (x : TimedT) (b : BlockT) : (closeIf x b).lo = b.lo ∧ (closeIf x b).thread = b.thread ∧ (closeIf x b).size = b.size ∧ (b.live = false → closeIf x b = b) := by
  unfold closeIf
  split
  · rename_i h
    refine ⟨rfl, rfl, rfl, fun hl => ?_⟩
    rw [hl] at h; simp at h
  · exact ⟨rfl, rfl, rfl, fun _ => rfl⟩
theorem blkRun_keep (os : List TimedT) (E : Int) (i : Nat) : ∀ j, (blkRun os E i j).lo = timeF (os.getD i default) ∧ (blkRun os E i j).thread = (os.getD i default).thread ∧ (blkRun os E i j).size = (os.getD i default).m
  | 0 => ⟨rfl, rfl, rfl⟩
  | j + 1 => by
    obtain ⟨h1, h2, h3⟩ := blkRun_keep os E i j
    obtain ⟨k1, k2, k3, _⟩ := closeIf_keep (os.getD (i + 1 + j) default) (blkRun os E i j)
    rw [blkRun]
    exact ⟨k1.trans h1, k2.trans h2, k3.trans h3⟩
theorem blkRun_ends (os : List TimedT) (E : Int) (i : Nat) : ∀ j, ((blkRun os E i j).live = true ∧ (blkRun os E i j).hi = E) ∨
    ((blkRun os E i j).live = false ∧ ∃ k, i < k ∧ k < i + 1 + j ∧ (os.getD k default).n = (os.getD i default).n ∧ ((os.getD k default).kind = 11 ∨ (os.getD k default).kind = 12) ∧ timeF (os.getD k default) = (blkRun os E i j).hi)
  | 0 => .inl ⟨rfl, rfl⟩
  | j + 1 => by
    have hid := blkRun_id os E i j
    rw [blkRun]
    rcases blkRun_ends os E i j with ⟨h1, h2⟩ | ⟨h1, k, h2, h3, h4⟩
    · unfold closeIf
      split
      · rename_i hc
        right
        simp only [Bool.and_eq_true, beq_iff_eq, Bool.or_eq_true] at hc
        exact ⟨rfl, i + 1 + j, by omega, by omega, hc.1.2.trans hid, by omega, rfl⟩
      · exact .inl ⟨h1, h2⟩
    · rw [(closeIf_keep _ _).2.2.2 h1]
      exact .inr ⟨h1, k, h2, by omega, h4⟩
/-- a later event of the id has ended the block -/
theorem blkRun_closed {os : List TimedT} (hv : validB os = true) {E : Int} {i j : Nat} (hij : i < j) (hid : (os.getD j default).n = (os.getD i default).n) (hk : (os.getD j default).kind = 11 ∨ (os.getD j default).kind = 12) :
    ∀ m, i + 1 + m ≤ os.length → j < i + 1 + m → (blkRun os E i m).live = false ∧ (blkRun os E i m).hi ≤ timeF (os.getD j default)
  | 0, _, h => by omega
  | m + 1, hm, hj => by
    rw [blkRun]
    by_cases e : j = i + 1 + m
    · subst e
      rcases blkRun_ends os E i m with ⟨h1, h2⟩ | ⟨h1, k, h2, h3, h4, h5, h6⟩
      · unfold closeIf
        rw [if_pos]
        · exact ⟨rfl, Int.le_refl _⟩
        · rw [h1, blkRun_id, hid]
          rcases hk with hk | hk <;> rw [hk] <;> simp
      · rw [(closeIf_keep _ _).2.2.2 h1]
        refine ⟨h1, ?_⟩
        rw [← h6]
        exact time_mono hv (by omega) (by omega)
    · obtain ⟨h1, h2⟩ := blkRun_closed hv hij hid hk m (by omega) (by omega)
      rw [(closeIf_keep _ _).2.2.2 h1]
      exact ⟨h1, h2⟩

def allocs (os : List TimedT) (k : Nat) : List Nat := (List.range k).filter fun i => (os.getD i default).kind == 11
theorem allocs_mem {os : List TimedT} {k i : Nat} : i ∈ allocs os k ↔ i < k ∧ (os.getD i default).kind = 11 := by
  unfold allocs; rw [List.mem_filter, List.mem_range]; simp
theorem allocs_pw (os : List TimedT) (k : Nat) : (allocs os k).Pairwise (· < ·) := List.Pairwise.filter _ List.pairwise_lt_range
theorem loB_key : loB = keyLt (fun b : BlockT => b.lo) := rfl
theorem ofF_eq (os : List TimedT) (e : Int) : ofF os e = sortF (keyLt fun b : BlockT => b.lo) (((allocs os os.length).map (blkF os e)).filter keptB) := by
  rw [ofF_ref, refRun_begun, ← loB_key]; rfl
theorem ofF_mem {os : List TimedT} {e : Int} {b : BlockT} (h : b ∈ ofF os e) : ∃ i, i < os.length ∧ (os.getD i default).kind = 11 ∧ b = blkF os e i ∧ b.lo < b.hi := by
  rw [ofF_eq] at h
  have h := ((sortF_perm _ _).mem_iff).1 h
  rw [List.mem_filter, List.mem_map] at h
  obtain ⟨⟨i, hi, rfl⟩, h2⟩ := h
  obtain ⟨h3, h4⟩ := allocs_mem.1 hi
  exact ⟨i, h3, h4, rfl, by simp only [keptB, Bool.not_eq_true', decide_eq_false_iff_not] at h2; omega⟩
theorem countF_allocs (os : List TimedT) : ∀ k, (allocs os k).length = countF os 11 k
  | 0 => rfl
  | k + 1 => by
    have ih := countF_allocs os k
    unfold allocs at ih ⊢
    rw [List.range_succ, List.filter_append, List.length_append, ih, countF, List.filter_cons]
    by_cases h : ((os.getD k default).kind == 11) = true
    · rw [if_pos h, if_pos h]; rfl
    · rw [if_neg h, if_neg h]; rfl
theorem ofF_length (os : List TimedT) (e : Int) : (ofF os e).length ≤ countF os 11 os.length := by
  rw [ofF_eq, sortF_length, ← countF_allocs]
  refine Nat.le_trans (List.length_filter_le _ _) ?_
  rw [List.length_map]; exact Nat.le_refl _

theorem clash_symm {a b : BlockT} (h : clashB a b = false) : clashB b a = false := by
  unfold clashB at *
  rw [Bool.eq_false_iff] at *
  intro hc
  apply h
  simp only [Bool.and_eq_true, beq_iff_eq, decide_eq_true_eq] at hc ⊢
  exact ⟨⟨hc.1.1.symm, hc.2⟩, hc.1.2⟩
theorem ofF_apart {os : List TimedT} (hv : validB os = true) (e : Int) : (ofF os e).Pairwise fun a b => clashB a b = false := by
  rw [ofF_eq]
  refine ((sortF_perm _ _).pairwise_iff (fun {a b} h => clash_symm h)).2 ?_
  refine List.Pairwise.filter _ ?_
  rw [List.pairwise_map]
  refine (allocs_pw os os.length).imp_of_mem fun {i j} hi hj hij => ?_
  obtain ⟨i1, i2⟩ := allocs_mem.1 hi
  obtain ⟨j1, j2⟩ := allocs_mem.1 hj
  unfold clashB
  by_cases hid : (blkF os e i).id = (blkF os e j).id
  · have h1 : (blkF os e i).id = (os.getD i default).n := blkRun_id _ _ _ _
    have h2 : (blkF os e j).id = (os.getD j default).n := blkRun_id _ _ _ _
    have h3 : (blkF os e i).hi ≤ timeF (os.getD j default) := (blkRun_closed hv hij (by rw [← h1, ← h2, hid]) (.inl j2) _ (by omega) (by omega)).2
    have h4 : (blkF os e j).lo = timeF (os.getD j default) := (blkRun_keep _ _ _ _).1
    have : decide ((blkF os e j).lo < (blkF os e i).hi) = false := by simp; omega
    rw [this, Bool.and_false]
  · have : ((blkF os e i).id == (blkF os e j).id) = false := by simpa using hid
    rw [this]; rfl

theorem ofF_check {os : List TimedT} (hv : validB os = true) (e : Int) : checkF (ofF os e) = 0 := by
  refine firstErr_all fun k hk => ?_
  have hm : (ofF os e).getD k default ∈ ofF os e := mem_getD hk
  obtain ⟨i, i1, i2, i3, i4⟩ := ofF_mem hm
  have hsort : (ofF os e).Pairwise fun a b => a.lo ≤ b.lo := by rw [ofF_eq]; exact sortF_sorted _
  have hap := ofF_apart hv e
  rw [List.pairwise_iff_getElem] at hsort hap
  have hvo := vO_spec (valid_spec hv i1).1
  obtain ⟨v1, v2, v3, v4, v5⟩ := hvo
  obtain ⟨m1, m2, m3⟩ := v5 i2
  have k1 := blkRun_keep os (endF os e) i (os.length - (i + 1))
  have k2 := blkRun_id os (endF os e) i (os.length - (i + 1))
  have k3 := blkRun_stack os (endF os e) i (os.length - (i + 1))
  have tb := time_bound (os.getD i default)
  have hhi : (blkF os e i).hi ≤ 1000000000000 := by
    unfold blkF
    rcases blkRun_ends os (endF os e) i (os.length - (i + 1)) with ⟨_, h⟩ | ⟨_, q, _, _, _, _, h⟩
    · rw [h]; exact (end_bound os e).2
    · rw [← h]; exact (time_bound _).2
  have hbad : badB ((ofF os e).getD k default) = false := by
    rw [i3] at i4 ⊢
    unfold badB
    simp only [Bool.or_eq_false_iff, decide_eq_false_iff_not, Bool.not_eq_false', Bool.and_eq_true, decide_eq_true_eq]
    unfold blkF at i4 hhi ⊢
    omega
  have hfr : framesF ((ofF os e).getD k default).stack = 0 := by
    rw [i3]; unfold blkF; rw [k3]; exact m3
  have gk : (ofF os e).getD k default = (ofF os e)[k] := by simp [hk]
  have hord : (decide (0 < k) && decide (((ofF os e).getD k default).lo < ((ofF os e).getD (k - 1) default).lo)) = false := by
    by_cases h0 : 0 < k
    · have g2 : (ofF os e).getD (k - 1) default = (ofF os e)[k - 1] := by simp [show k - 1 < (ofF os e).length by omega]
      have := hsort (k - 1) k (by omega) hk (by omega)
      rw [gk, g2]; simp; omega
    · simp [h0]
  rw [checkAt_cl hbad hfr hord, if_neg]
  rw [List.any_eq_true]
  rintro ⟨a, ha, hc⟩
  obtain ⟨j, hj⟩ := List.getElem?_of_mem ha
  have hjk : j < k := by
    rcases Nat.lt_or_ge j k with h | h
    · exact h
    · rw [List.getElem?_eq_none (by simp; omega)] at hj; cases hj
  rw [List.getElem?_take_of_lt hjk, List.getElem?_eq_getElem (by omega)] at hj
  simp only [Option.some.injEq] at hj
  have := hap j k (by omega) hk hjk
  rw [gk, ← hj, this] at hc; cases hc
end Ytgebmgahfpnjaaa
end Go.Proofs
