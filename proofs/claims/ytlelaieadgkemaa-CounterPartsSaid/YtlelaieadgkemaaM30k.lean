/- A part of the proof: contracts of functions of this seat, and lemmas. No condition beyond those stated. -/
import Derived.Test.YtlelaieadgkemaaM30j
set_option linter.unusedVariables false
set_option linter.unusedSimpArgs false
set_option linter.unusedSectionVars false
set_option linter.unnecessarySimpa false
set_option linter.unusedSimpArgs false
set_option linter.unusedVariables false
set_option maxRecDepth 100000
namespace Go.Proofs
open Go.AM Go.ChangeShapes Go.WideShapes Go.ChangeAt Go.RowKit
namespace Ytlelaieadgkemaa

/-! ### CounterParts -/
/-- the step behind the k-th has the name, and begins at m or before -/
def nextB (l : List StepT) (name : List UInt8) (m : Int) (k : Nat) : Bool := decide (k < l.length) && atB (l.getD k default) name m
theorem one_law {l : List StepT} (h : checkF l = 0) (name : List UInt8) (m : Int) : ∀ k, k ≤ l.length → sumS l name m (m + 1) k = if nextB l name m k = true then 0 else (atF l name m k).1
  | 0, _ => by simp [sumS, atF]
  | k + 1, hk => by
    have ih := one_law h name m k (by omega)
    have hkl : k < l.length := by omega
    obtain ⟨b, hb⟩ : ∃ b, b = l.getD k default := ⟨_, rfl⟩
    have hnk : nextB l name m k = atB b name m := by unfold nextB; rw [decide_eq_true hkl, Bool.true_and, hb]
    rw [sumS, ih, hnk]
    have eat : atF l name m (k + 1) = if atB b name m = true then (b.value, true) else atF l name m k := by rw [atF, hb]
    have ead : addS l name m (m + 1) k = if b.name = name then (if max m b.at_ < cutT l name (m + 1) k then b.value * (cutT l name (m + 1) k - max m b.at_) else 0) else 0 := by unfold addS; rw [hb]
    rw [ead, eat]
    have hcut : b.name = name → ((max m b.at_ < cutT l name (m + 1) k) ↔ (b.at_ ≤ m ∧ nextB l name m (k + 1) = false)) ∧ (max m b.at_ < cutT l name (m + 1) k → cutT l name (m + 1) k - max m b.at_ = 1) := fun hn => by
      unfold cutT nextB atB
      by_cases hn1 : k + 1 < l.length
      · rw [decide_eq_true hn1, Bool.true_and, Bool.true_and]
        obtain ⟨c, hc⟩ : ∃ c, c = l.getD (k + 1) default := ⟨_, rfl⟩
        rw [← hc]
        by_cases hcn : c.name = name
        · rw [if_pos (by simpa using hcn), hcn]
          simp only [beq_self_eq_true, Bool.true_and, decide_eq_false_iff_not]
          omega
        · rw [if_neg (by simpa using hcn)]
          have : (c.name == name) = false := by simpa using hcn
          rw [this, Bool.false_and]
          simp only [and_true]
          omega
      · rw [decide_eq_false hn1, Bool.false_and, Bool.false_and, if_neg (by simp)]
        simp only [and_true]
        omega
    by_cases hn : b.name = name
    · obtain ⟨c1, c2⟩ := hcut hn
      by_cases hm : b.at_ ≤ m
      · have ha : atB b name m = true := by unfold atB; rw [hn, decide_eq_true hm]; simp
        by_cases hx : nextB l name m (k + 1) = true
        · have nP : ¬ max m b.at_ < cutT l name (m + 1) k := fun q => by have := (c1.1 q).2; rw [hx] at this; cases this
          simp only [ha, hx, hn, nP, if_true, if_false, Int.add_zero]
        · have hx : nextB l name m (k + 1) = false := by simpa using hx
          have q := c1.2 ⟨hm, hx⟩
          simp only [ha, hx, hn, q, c2 q, if_true, if_false, Bool.false_eq_true, Int.mul_one, Int.zero_add]
      · have ha : atB b name m = false := by unfold atB; rw [decide_eq_false hm, Bool.and_false]
        have nP : ¬ max m b.at_ < cutT l name (m + 1) k := fun q => hm (c1.1 q).1
        have hx : nextB l name m (k + 1) = false := by
          unfold nextB
          by_cases hn1 : k + 1 < l.length
          · have hlt := check_lt h (j := k) (k := k + 1) (by omega) hn1
            rw [← hb] at hlt
            rw [decide_eq_true hn1, Bool.true_and]
            unfold atB
            rw [Bool.and_eq_false_iff, decide_eq_false_iff_not]
            rcases hlt with hlt | ⟨e, hlt⟩
            · left
              have := bl_ne hlt
              rw [hn] at this
              simpa using fun e => this e.symm
            · right; omega
          · rw [decide_eq_false hn1]; rfl
        simp only [ha, hx, hn, nP, if_true, if_false, Bool.false_eq_true, Int.add_zero]
    · have ha : atB b name m = false := by unfold atB; rw [Bool.and_eq_false_iff]; left; simpa using hn
      by_cases hx : nextB l name m (k + 1) = true
      · have hx' := hx
        unfold nextB atB at hx'
        simp only [Bool.and_eq_true, decide_eq_true_eq, beq_iff_eq] at hx'
        obtain ⟨hn1, hcn, _⟩ := hx'
        have hnone : ∀ j, j ≤ k → (atF l name m j) = (0, false) := fun j => by
          induction j with
          | zero => intro _; rfl
          | succ j ihj =>
            intro hj
            rw [atF, if_neg, ihj (by omega)]
            unfold atB
            simp only [Bool.and_eq_true, beq_iff_eq, decide_eq_true_eq, not_and]
            intro hjn
            exfalso
            have h1 := check_lt h (j := k) (k := k + 1) (by omega) hn1
            rw [← hb] at h1
            have hk1 : ltS b.name name = true := by
              rcases h1 with h1 | ⟨e, _⟩
              · rw [hcn] at h1; exact h1
              · exact absurd (e.trans hcn) hn
            have h2 := check_lt h (j := j) (k := k) (by omega) (by omega)
            rw [← hb] at h2
            rcases h2 with h2 | ⟨e, _⟩
            · rw [hjn] at h2
              have := bl_asymm hk1
              unfold ltS at h2; rw [this] at h2; cases h2
            · exact hn (e.symm.trans hjn)
        have h0 := hnone k (Nat.le_refl _)
        simp only [ha, hx, hn, h0, if_true, if_false, Bool.false_eq_true, Int.add_zero]
      · have hx : nextB l name m (k + 1) = false := by simpa using hx
        simp only [ha, hx, hn, if_true, if_false, Bool.false_eq_true, Int.add_zero]
theorem at_none (l : List StepT) (name : List UInt8) (t : Int) : ∀ k, (atF l name t k).2 = false → (atF l name t k).1 = 0
  | 0, _ => rfl
  | k + 1, h => by
    have e : atF l name t (k + 1) = if atB (l.getD k default) name t = true then ((l.getD k default).value, true) else atF l name t k := rfl
    rw [e] at h ⊢
    by_cases hb : atB (l.getD k default) name t = true
    · rw [if_pos hb] at h; cases h
    · rw [if_neg hb] at h ⊢
      exact at_none l name t k h
theorem at_in {l : List StepT} (h : checkF l = 0) (name : List UInt8) (t : Int) : inB (atF l name t l.length).1 = true := by
  cases ha : (atF l name t l.length).2 with
  | false => rw [at_none l name t _ ha]; rfl
  | true =>
    obtain ⟨j, h1, _, h3⟩ := at_some l name t _ ha
    rw [h3]; exact check_in h _ (mem_getD h1)
theorem one_int {l : List StepT} (h : checkF l = 0) (name : List UInt8) {m : Int} (hm : 0 ≤ m ∧ m < 1000000000000) : intF l name m (m + 1) = ((atF l name m l.length).1, true) := by
  have e := one_law h name m l.length (Nat.le_refl _)
  have hn : nextB l name m l.length = false := by unfold nextB; simp
  rw [hn, if_neg (by simp)] at e
  unfold intF
  rw [if_pos (by unfold okSpan; simp; omega), e, if_pos (at_in h name m)]
theorem addS_split {l : List StepT} (name : List UInt8) {f m t : Int} (h1 : f < m) (h2 : m < t) (k : Nat) : addS l name f m k + addS l name m t k = addS l name f t k := by
  unfold addS
  by_cases hn : (l.getD k default).name = name
  · rw [if_pos hn, if_pos hn, if_pos hn]
    obtain ⟨v, hv⟩ : ∃ v, v = (l.getD k default).value := ⟨_, rfl⟩
    obtain ⟨a, ha⟩ : ∃ a, a = (l.getD k default).at_ := ⟨_, rfl⟩
    rw [← hv, ← ha]
    unfold cutT
    by_cases hc : (decide (k + 1 < l.length) && (l.getD (k + 1) default).name == name) = true
    · rw [if_pos hc, if_pos hc]
      obtain ⟨n, hn⟩ : ∃ n, n = (l.getD (k + 1) default).at_ := ⟨_, rfl⟩
      rw [← hn]
      by_cases p1 : max f a < min m n <;> by_cases p2 : max m a < min t n <;> by_cases p3 : max f a < min t n <;> simp only [if_pos, if_neg, p1, p2, p3, if_true, if_false]
      · rw [← Int.mul_add]; congr 1; omega
      all_goals first
        | (exfalso; omega)
        | (rw [Int.add_zero]; congr 1; omega)
        | (rw [Int.zero_add]; congr 1; omega)
        | rfl
    · rw [if_neg hc, if_neg hc]
      by_cases p1 : max f a < m <;> by_cases p2 : max m a < t <;> by_cases p3 : max f a < t <;> simp only [if_pos, if_neg, p1, p2, p3, if_true, if_false]
      · rw [← Int.mul_add]; congr 1; omega
      all_goals first
        | (exfalso; omega)
        | (rw [Int.add_zero]; congr 1; omega)
        | (rw [Int.zero_add]; congr 1; omega)
        | rfl
  · rw [if_neg hn, if_neg hn, if_neg hn]; rfl
theorem sumS_split {l : List StepT} (name : List UInt8) {f m t : Int} (h1 : f < m) (h2 : m < t) : ∀ k, sumS l name f m k + sumS l name m t k = sumS l name f t k
  | 0 => rfl
  | k + 1 => by
    have ih := sumS_split name h1 h2 (l := l) k
    have := addS_split (l := l) name h1 h2 k
    rw [sumS, sumS, sumS]; omega
theorem int_spec {l : List StepT} {name : List UInt8} {f t : Int} (h : (intF l name f t).2 = true) : okSpan f t = true ∧ (intF l name f t).1 = sumS l name f t l.length ∧ inB (intF l name f t).1 = true := by
  unfold intF at h ⊢
  split at h
  · rename_i h1
    split at h
    · rename_i h2
      rw [if_pos h1, if_pos h2]; exact ⟨h1, rfl, h2⟩
    · cases h
  · cases h
theorem parts_law {l : List StepT} {name : List UInt8} {f m t : Int} (h1 : (intF l name f m).2 = true) (h2 : (intF l name m t).2 = true) (h3 : (intF l name f t).2 = true) :
    IntKind.i64.wrap ((intF l name f m).1 + (intF l name m t).1) = (intF l name f t).1 := by
  obtain ⟨a1, a2, a3⟩ := int_spec h1
  obtain ⟨b1, b2, b3⟩ := int_spec h2
  obtain ⟨c1, c2, c3⟩ := int_spec h3
  unfold inB at a3 b3
  unfold okSpan at a1 b1
  simp only [Bool.and_eq_true, decide_eq_true_eq] at a1 b1 a3 b3
  rw [wrap64 (by omega) (by omega), a2, b2, c2]
  exact sumS_split name (by omega) (by omega) _
end Ytlelaieadgkemaa
end Go.Proofs
