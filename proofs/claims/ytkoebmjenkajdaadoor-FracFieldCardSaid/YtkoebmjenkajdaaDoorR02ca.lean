/- A part of the proof: contracts of functions of this seat, and lemmas. No condition beyond those stated. -/
import Derived.Test.YtkoebmjenkajdaaDoorR02v
import Derived.Test.YtkoebmjenkajdaaDoorR02o
set_option linter.unusedVariables false
set_option linter.unusedSimpArgs false
set_option linter.unusedSectionVars false
set_option linter.unnecessarySimpa false
set_option linter.unusedVariables false
set_option linter.unusedSimpArgs false
set_option maxRecDepth 100000
namespace Go.Proofs
open Go.AM
namespace YtkoebmjenkajdaaDoor
/-! ### a sum and its negatives; a sum without its first element -/
/-- lowest terms are unique -/
theorem low_unique {A B C E : Nat} (h1 : Nat.Coprime A B) (h2 : Nat.Coprime C E) (hB : 0 < B) (hE : 0 < E) (h : A * E = C * B) : A = C ∧ B = E := by
  have d1 : B ∣ E := Nat.Coprime.dvd_of_dvd_mul_left (Nat.Coprime.symm h1) (by rw [h]; exact Nat.dvd_mul_left _ _)
  have d2 : E ∣ B := Nat.Coprime.dvd_of_dvd_mul_left (Nat.Coprime.symm h2) (by rw [← h]; exact Nat.dvd_mul_left _ _)
  have e := Nat.dvd_antisymm d1 d2
  subst e
  exact ⟨Nat.eq_of_mul_eq_mul_right hB h, rfl⟩
theorem low_of {M d N e : Nat} (hd : 0 < d) (he : 0 < e) (h : M * e = N * d) : M / Nat.gcd M d = N / Nat.gcd N e ∧ d / Nat.gcd M d = e / Nat.gcd N e := by
  have g1 : 0 < Nat.gcd M d := Nat.gcd_pos_of_pos_right _ hd
  have g2 : 0 < Nat.gcd N e := Nat.gcd_pos_of_pos_right _ he
  obtain ⟨A, hA⟩ := Nat.gcd_dvd_left M d
  obtain ⟨B, hB⟩ := Nat.gcd_dvd_right M d
  obtain ⟨C, hC⟩ := Nat.gcd_dvd_left N e
  obtain ⟨E, hE⟩ := Nat.gcd_dvd_right N e
  have c1 : Nat.Coprime (M / Nat.gcd M d) (d / Nat.gcd M d) := Nat.coprime_div_gcd_div_gcd g1
  have c2 : Nat.Coprime (N / Nat.gcd N e) (e / Nat.gcd N e) := Nat.coprime_div_gcd_div_gcd g2
  generalize Nat.gcd M d = g at *
  generalize Nat.gcd N e = k at *
  subst hA; subst hB; subst hC; subst hE
  rw [Nat.mul_div_cancel_left _ g1, Nat.mul_div_cancel_left _ g1] at c1
  rw [Nat.mul_div_cancel_left _ g2, Nat.mul_div_cancel_left _ g2] at c2
  rw [Nat.mul_div_cancel_left _ g1, Nat.mul_div_cancel_left _ g1, Nat.mul_div_cancel_left _ g2, Nat.mul_div_cancel_left _ g2]
  refine low_unique c1 c2 (Nat.pos_of_mul_pos_left hd) (Nat.pos_of_mul_pos_left he) ?_
  have e1 : g * A * (k * E) = g * k * (A * E) := by simp only [Nat.mul_comm, Nat.mul_left_comm]
  have e2 : k * C * (g * B) = g * k * (C * B) := by simp only [Nat.mul_comm, Nat.mul_left_comm]
  rw [e1, e2] at h
  exact Nat.eq_of_mul_eq_mul_left (Nat.mul_pos g1 g2) h
theorem norm_rat {p q : Bool × Nat} {d e : Nat} (hd : 0 < d) (he : 0 < e) (h : valG p * (e : Int) = valG q * (d : Int)) : normS p.1 p.2 d = normS q.1 q.2 e := by
  obtain ⟨m, M⟩ := p
  obtain ⟨n, N⟩ := q
  have hn : M * e = N * d := by
    have := congrArg Int.natAbs h
    rw [Int.natAbs_mul, Int.natAbs_mul, Int.natAbs_natCast, Int.natAbs_natCast] at this
    unfold valG at this
    simp only at this
    have a1 : (if m = true then -(M : Int) else (M : Int)).natAbs = M := by split <;> omega
    have a2 : (if n = true then -(N : Int) else (N : Int)).natAbs = N := by split <;> omega
    rwa [a1, a2] at this
  obtain ⟨l1, l2⟩ := low_of hd he hn
  simp only [normS_made]
  rw [l1, l2]
  refine madeP_sign fun hz => ?_
  have hN : 0 < N := by
    rcases Nat.eq_zero_or_pos N with h0 | h0
    · rw [h0, Nat.zero_div] at hz; exact absurd rfl hz
    · exact h0
  have hM : 0 < M := by
    rcases Nat.eq_zero_or_pos M with h0 | h0
    · rw [h0, Nat.zero_mul] at hn
      have := Nat.mul_pos hN hd
      omega
    · exact h0
  have p1 : 0 < (M : Int) * e := Int.mul_pos (by omega) (by omega)
  have p2 : 0 < (N : Int) * d := Int.mul_pos (by omega) (by omega)
  unfold valG at h
  simp only at h
  cases m <;> cases n
  · rfl
  · exfalso
    simp only [Bool.false_eq_true, if_true, if_false, Int.neg_mul] at h
    rw [h] at p1
    omega
  · exfalso
    simp only [Bool.false_eq_true, if_true, if_false, Int.neg_mul] at h
    rw [← h] at p2
    omega
  · rfl
def negsF (l : List FracT) : List FracT := l.map negF
theorem fold_same {m : Nat} (hm : 0 < m) : ∀ {l : List FracT}, (∀ a ∈ l, a.q.natAbs ∣ m ∧ 0 < a.q.natAbs) → l.foldl lcS m = m
  | [], _ => rfl
  | a :: l, h => by
    obtain ⟨h1, h2⟩ := h a (List.mem_cons_self ..)
    have e : lcS m a = m := by
      rw [lcS_eq]
      exact Nat.dvd_antisymm (Nat.lcm_dvd (Nat.dvd_refl _) h1) (Nat.dvd_lcm_left _ _)
    rw [List.foldl_cons, e]
    exact fold_same hm fun b hb => h b (List.mem_cons_of_mem _ hb)
def numF (m : Nat) (l : List FracT) : Int := (l.map fun a => a.n * ((m / a.q.natAbs : Nat) : Int)).sum
theorem tot_num {m : Nat} : ∀ {l : List FracT} {p : Bool × Nat}, valG (l.foldl (nS m) p) = valG p + numF m l
  | [], p => by simp [numF]
  | a :: l, p => by
    rw [List.foldl_cons, tot_num]
    unfold nS numF
    rw [valG_sum]
    have e := mul_sign (n := a.n) (d := ((m / a.q.natAbs : Nat) : Int)) (Int.natCast_nonneg _)
    rw [Int.natAbs_natCast] at e
    rw [e, List.map_cons, List.sum_cons]
    omega
theorem tot_num0 (l : List FracT) (m : Nat) : valG (totF l m) = numF m l := by
  unfold totF
  rw [tot_num]
  show (0 : Int) + _ = _
  omega
theorem num_neg {m : Nat} : ∀ {l : List FracT}, (∀ a ∈ l, a.Ok) → numF m (negsF l) = -(numF m l)
  | [], _ => rfl
  | a :: l, h => by
    have ih := num_neg (m := m) (l := l) fun b hb => h b (List.mem_cons_of_mem _ hb)
    unfold numF negsF at ih ⊢
    simp only [List.map_cons, List.sum_cons] at ih ⊢
    rw [ih, (h a (List.mem_cons_self ..)).neg.2, Int.neg_mul]
    show -(a.n * ((m / a.q.natAbs : Nat) : Int)) + _ = _
    omega
theorem num_append (m : Nat) (l k : List FracT) : numF m (l ++ k) = numF m l + numF m k := by
  unfold numF; rw [List.map_append, List.sum_append]
theorem norm_val0 {p : Bool × Nat} {m : Nat} (h : valG p = 0) (hm : 0 < m) : normS p.1 p.2 m = (⟨0, 1⟩, true) := by
  have : p.2 = 0 := by unfold valG at h; split at h <;> omega
  rw [this]; exact norm_zero _ hm
theorem sum_both {l : List FracT} (hl : l.length ≤ 200) (h : (sumL l).2 = true) : sumL (l ++ negsF l) = (⟨0, 1⟩, true) := by
  unfold sumL at h
  rw [if_neg (by omega)] at h
  cases hm : comF l 1 with
  | none => rw [hm] at h; cases h
  | some m =>
    obtain ⟨m1, m2, _, m4⟩ := comF_spec (by omega) (by omega) hm
    have hc := comF_char (l := l) (m := 1) (by omega) (by omega)
    rw [hm] at hc
    split at hc
    · rename_i hk
      obtain ⟨k1, k2⟩ := hk
      have em : l.foldl lcS 1 = m := (Option.some.inj hc).symm
      have hall : (l ++ negsF l).all okF = true := by
        rw [List.all_eq_true]
        intro a ha
        rcases List.mem_append.1 ha with ha | ha
        · exact okF_iff.2 (m4 a ha).1
        · obtain ⟨b, hb, rfl⟩ := List.mem_map.1 ha
          exact okF_iff.2 (m4 b hb).1.neg.1
      have e : comF (l ++ negsF l) 1 = some m := by
        rw [comF_char (by omega) (by omega), List.foldl_append, em, fold_same m1 (fun a ha => by
          obtain ⟨b, hb, rfl⟩ := List.mem_map.1 ha
          exact ⟨(m4 b hb).2, (m4 b hb).1.q0⟩)]
        rw [if_pos ⟨hall, m2⟩]
      unfold sumL
      rw [if_neg (by simp [negsF]; omega), e]
      refine norm_val0 ?_ m1
      rw [tot_num0, num_append, num_neg fun a ha => (m4 a ha).1]
      omega
    · cases hc
end YtkoebmjenkajdaaDoor
end Go.Proofs
