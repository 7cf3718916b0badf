/- A part of the proof: contracts of functions of this seat, and lemmas. No condition beyond those stated. -/
import Derived.Test.YtkoebmjenkajdaaDoorR02ca
set_option linter.unusedVariables false
set_option linter.unusedSimpArgs false
set_option linter.unusedSectionVars false
set_option linter.unnecessarySimpa false
set_option linter.unusedVariables false
set_option linter.unusedSimpArgs false
set_option maxRecDepth 100000
namespace Go.Proofs
open Go.AM
namespace YtkoebmjenkajdaaDoor
theorem rest_ring {xn xq hn hq m m' V T T' k : Int} (e1 : xn * m = V * xq) (e2 : V = hn * k + T) (e3 : k * hq = m) (e4 : T * m' = T' * m) : T' * (xq * hq) * m = (xn * hq - hn * xq) * m' * m := by
  grind
theorem fold_mono : ∀ {l : List FracT} {a b : Nat}, a ∣ b → l.foldl lcS a ∣ l.foldl lcS b
  | [], a, b, h => h
  | x :: l, a, b, h => by
    rw [List.foldl_cons, List.foldl_cons]
    refine fold_mono ?_
    rw [lcS_eq, lcS_eq]
    exact Nat.lcm_dvd (Nat.dvd_trans h (Nat.dvd_lcm_left _ _)) (Nat.dvd_lcm_right _ _)
theorem num_scale {m m' : Nat} : ∀ {l : List FracT}, (∀ a ∈ l, a.q.natAbs ∣ m ∧ a.q.natAbs ∣ m') → numF m l * (m' : Int) = numF m' l * (m : Int)
  | [], _ => by simp [numF]
  | a :: l, h => by
    have ih := num_scale (m := m) (m' := m') (l := l) fun b hb => h b (List.mem_cons_of_mem _ hb)
    obtain ⟨h1, h2⟩ := h a (List.mem_cons_self ..)
    unfold numF at ih ⊢
    rw [List.map_cons, List.sum_cons, List.map_cons, List.sum_cons, Int.add_mul, Int.add_mul, ih]
    congr 1
    rw [Int.mul_assoc, Int.mul_assoc]
    congr 1
    have e : (m / a.q.natAbs) * m' = (m' / a.q.natAbs) * m := by
      obtain ⟨c, hc⟩ := h1
      obtain ⟨d, hd⟩ := h2
      generalize a.q.natAbs = q at hc hd
      rcases Nat.eq_zero_or_pos q with h0 | h0
      · subst h0; rw [hc, hd]; simp
      · rw [hc, hd, Nat.mul_div_cancel_left _ h0, Nat.mul_div_cancel_left _ h0]
        simp only [Nat.mul_comm, Nat.mul_left_comm]
    rw [← Int.natCast_mul, ← Int.natCast_mul, e]
theorem sum_rest {h : FracT} {t : List FracT} (hl : (h :: t).length ≤ 200) (hs : (sumL (h :: t)).2 = true) : sumL t = subS (sumL (h :: t)).1 h := by
  have hl' : t.length ≤ 199 := by simp only [List.length_cons] at hl; omega
  unfold sumL at hs ⊢
  rw [if_neg (by omega)] at hs
  rw [if_neg (by omega), if_neg (by omega)]
  cases hm : comF (h :: t) 1 with
  | none => rw [hm] at hs; cases hs
  | some m =>
    rw [hm] at hs
    simp only at hs
    obtain ⟨m1, m2, _, m4⟩ := comF_spec (by omega) (by omega) hm
    have hc := comF_char (l := h :: t) (m := 1) (by omega) (by omega)
    rw [hm] at hc
    split at hc
    · rename_i hk
      obtain ⟨k1, k2⟩ := hk
      have em : (h :: t).foldl lcS 1 = m := (Option.some.inj hc).symm
      have okh := (m4 h (List.mem_cons_self ..)).1
      obtain ⟨m', hm'⟩ : ∃ m', m' = t.foldl lcS 1 := ⟨_, rfl⟩
      have hdv : m' ∣ m := by
        rw [hm', ← em, List.foldl_cons]
        exact fold_mono (Nat.one_dvd _)
      have hp : 1 ≤ m' := by rw [hm']; exact lcS_pos (by omega) fun b hb => (m4 b (List.mem_cons_of_mem _ hb)).1
      have hle : m' ≤ m := Nat.le_of_dvd m1 hdv
      have ht : comF t 1 = some m' := by
        rw [comF_char (by omega) (by omega), ← hm']
        refine if_pos ⟨?_, by omega⟩
        rw [List.all_eq_true]
        exact fun b hb => okF_iff.2 (m4 b (List.mem_cons_of_mem _ hb)).1
      obtain ⟨_, _, _, t4⟩ := comF_spec (by omega) (by omega) ht
      rw [ht]
      simp only
      have okx := normS_ok m1 hs
      have cx := normS_cross hs
      rw [tot_num0] at cx
      generalize (normS (totF (h :: t) m).1 (totF (h :: t) m).2 m).1 = x at okx cx ⊢
      have ox := okF_iff.1 okx
      unfold subS
      rw [if_pos (okF_iff.2 okh)]
      unfold addS
      rw [if_pos ⟨okx, okF_iff.2 okh.neg.1⟩]
      refine norm_rat hp (Nat.mul_pos ox.q0 okh.neg.1.q0) ?_
      rw [tot_num0, val_cross ox okh]
      unfold keyF
      have hx : ((x.q.natAbs : Nat) : Int) = x.q := by have := ox.d1; omega
      have hh : ((h.q.natAbs : Nat) : Int) = h.q := by have := okh.d1; omega
      have e3 : ((m / h.q.natAbs : Nat) : Int) * h.q = m := by
        rw [← hh, Int.natAbs_natCast, ← Int.natCast_mul, Nat.div_mul_cancel (m4 h (List.mem_cons_self ..)).2]
      have e2 : numF m (h :: t) = h.n * ((m / h.q.natAbs : Nat) : Int) + numF m t := by
        unfold numF; rw [List.map_cons, List.sum_cons]
      have e4 := num_scale (m := m) (m' := m') (l := t) fun a ha => ⟨(m4 a (List.mem_cons_of_mem _ ha)).2, (t4 a ha).2⟩
      have key := rest_ring cx e2 e3 e4
      show _ * ((x.q.natAbs * h.q.natAbs : Nat) : Int) = _
      rw [Int.natCast_mul, hx, hh]
      exact Int.eq_of_mul_eq_mul_right (by omega) key
    · cases hc
end YtkoebmjenkajdaaDoor
end Go.Proofs
