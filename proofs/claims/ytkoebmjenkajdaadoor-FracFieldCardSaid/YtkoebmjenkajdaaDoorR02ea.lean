/- A part of the proof: contracts of functions of this seat, and lemmas. No condition beyond those stated. -/
import Derived.Test.YtkoebmjenkajdaaDoorR02db
import Derived.Test.YtkoebmjenkajdaaDoorR02cb
set_option linter.unusedVariables false
set_option linter.unusedSimpArgs false
set_option linter.unusedSectionVars false
set_option linter.unnecessarySimpa false
set_option linter.unusedVariables false
set_option linter.unusedSimpArgs false
set_option maxRecDepth 100000
namespace Go.Proofs
open Go.AM
namespace YtkoebmjenkajdaaDoor
theorem add_ok {a b : FracT} (h : (addS a b).2 = true) : okF a = true ∧ okF b = true ∧ okF (addS a b).1 = true ∧ (addS a b).1.n * (a.q * b.q) = (a.n * b.q + b.n * a.q) * (addS a b).1.q := by
  unfold addS at h ⊢
  split at h
  · rename_i hab
    rw [if_pos hab]
    have oa := okF_iff.1 hab.1
    have ob := okF_iff.1 hab.2
    have hx : ((a.q.natAbs : Nat) : Int) = a.q := by have := oa.d1; omega
    have hy : ((b.q.natAbs : Nat) : Int) = b.q := by have := ob.d1; omega
    refine ⟨hab.1, hab.2, normS_ok (Nat.mul_pos oa.q0 ob.q0) h, ?_⟩
    have e := normS_cross h
    rw [Int.natCast_mul, hx, hy] at e
    rw [e]
    congr 1
    unfold crossG
    rw [valG_sum]
    rw [mul_sign (by have := ob.d1; omega), mul_sign (by have := oa.d1; omega)]
  · cases h
theorem mul_ok {a b : FracT} (h : (mulS a b).2 = true) : okF a = true ∧ okF b = true ∧ okF (mulS a b).1 = true := by
  unfold mulS at h ⊢
  split at h
  · rename_i hab
    rw [if_pos hab]
    exact ⟨hab.1, hab.2, normS_ok (Nat.mul_pos (okF_iff.1 hab.1).q0 (okF_iff.1 hab.2).q0) h⟩
  · cases h
theorem frac_eq {f g : FracT} (hf : okF f = true) (hg : okF g = true) (h : f.n * g.q = g.n * f.q) : f = g := (key_zero (okF_iff.1 hf) (okF_iff.1 hg)).1 (by unfold keyF; omega)
theorem assoc_ring {an aq bn bq cn cq xn xq yn yq ln lq rn rq : Int} (h1 : xn * (aq * bq) = (an * bq + bn * aq) * xq) (h2 : yn * (bq * cq) = (bn * cq + cn * bq) * yq) (h3 : ln * (xq * cq) = (xn * cq + cn * xq) * lq) (h4 : rn * (aq * yq) = (an * yq + yn * aq) * rq) :
    ln * rq * (aq * bq * cq * xq * yq) = rn * lq * (aq * bq * cq * xq * yq) := by
  grind
theorem add_assoc_ok {a b c : FracT} (h1 : (addS a b).2 = true) (h2 : (addS b c).2 = true) (h3 : (addS (addS a b).1 c).2 = true) (h4 : (addS a (addS b c).1).2 = true) : (addS (addS a b).1 c).1 = (addS a (addS b c).1).1 := by
  obtain ⟨ka, kb, kx, e1⟩ := add_ok h1
  obtain ⟨_, kc, ky, e2⟩ := add_ok h2
  obtain ⟨_, _, kl, e3⟩ := add_ok h3
  obtain ⟨_, _, kr, e4⟩ := add_ok h4
  refine frac_eq kl kr ?_
  have pa := (okF_iff.1 ka).d1
  have pb := (okF_iff.1 kb).d1
  have pc := (okF_iff.1 kc).d1
  have px := (okF_iff.1 kx).d1
  have py := (okF_iff.1 ky).d1
  have pos : 0 < a.q * b.q * c.q * (addS a b).1.q * (addS b c).1.q := Int.mul_pos (Int.mul_pos (Int.mul_pos (Int.mul_pos (by omega) (by omega)) (by omega)) (by omega)) (by omega)
  exact Int.eq_of_mul_eq_mul_right (by omega) (assoc_ring e1 e2 e3 e4)
theorem sign_mul (a b : Int) : valG (!(decide (a < 0) == decide (b < 0)), a.natAbs * b.natAbs) = a * b := by
  unfold valG
  simp only [Int.natCast_mul]
  by_cases h1 : a < 0 <;> by_cases h2 : b < 0
  · rw [decide_eq_true h1, decide_eq_true h2, show ((a.natAbs : Nat) : Int) = -a by omega, show ((b.natAbs : Nat) : Int) = -b by omega]
    simp <;> grind
  · rw [decide_eq_true h1, decide_eq_false h2, show ((a.natAbs : Nat) : Int) = -a by omega, show ((b.natAbs : Nat) : Int) = b by omega]
    simp <;> grind
  · rw [decide_eq_false h1, decide_eq_true h2, show ((a.natAbs : Nat) : Int) = a by omega, show ((b.natAbs : Nat) : Int) = -b by omega]
    simp <;> grind
  · rw [decide_eq_false h1, decide_eq_false h2, show ((a.natAbs : Nat) : Int) = a by omega, show ((b.natAbs : Nat) : Int) = b by omega]
    simp
theorem mul_val {a b : FracT} (h : (mulS a b).2 = true) : okF a = true ∧ okF b = true ∧ okF (mulS a b).1 = true ∧ (mulS a b).1.n * (a.q * b.q) = (a.n * b.n) * (mulS a b).1.q := by
  obtain ⟨k1, k2, k3⟩ := mul_ok h
  refine ⟨k1, k2, k3, ?_⟩
  unfold mulS at h ⊢
  rw [if_pos ⟨k1, k2⟩] at h ⊢
  have oa := okF_iff.1 k1
  have ob := okF_iff.1 k2
  have hx : ((a.q.natAbs : Nat) : Int) = a.q := by have := oa.d1; omega
  have hy : ((b.q.natAbs : Nat) : Int) = b.q := by have := ob.d1; omega
  have e := normS_cross h
  rw [Int.natCast_mul, hx, hy] at e
  rw [e, sign_mul]
theorem mul_comm2 (a b : FracT) : mulS a b = mulS b a := by
  unfold mulS
  rw [Nat.mul_comm a.n.natAbs, Nat.mul_comm a.q.natAbs]
  have e : (!(decide (a.n < 0) == decide (b.n < 0))) = (!(decide (b.n < 0) == decide (a.n < 0))) := by
    cases decide (a.n < 0) <;> cases decide (b.n < 0) <;> rfl
  rw [e]
  by_cases h : okF a = true ∧ okF b = true
  · rw [if_pos h, if_pos ⟨h.2, h.1⟩]
  · rw [if_neg h, if_neg (fun k => h ⟨k.2, k.1⟩)]
theorem dist_ring {an aq bn bq cn cq xn xq sn sq zn zq on oq tn tq : Int} (h1 : xn * (aq * bq) = (an * bn) * xq) (h2 : sn * (bq * cq) = (bn * cq + cn * bq) * sq) (h3 : zn * (aq * cq) = (an * cn) * zq) (h4 : on * (aq * sq) = (an * sn) * oq) (h5 : tn * (xq * zq) = (xn * zq + zn * xq) * tq) :
    on * tq * (aq * aq * bq * cq * xq * zq * sq) = tn * oq * (aq * aq * bq * cq * xq * zq * sq) := by
  grind
theorem val_add {a b : FracT} (ha : a.Ok) (hb : b.Ok) : valG (crossG a b) = a.n * b.q + b.n * a.q := by
  unfold crossG
  rw [valG_sum, mul_sign (by have := hb.d1; omega), mul_sign (by have := ha.d1; omega)]
theorem add_comm2 (a b : FracT) : addS a b = addS b a := by
  unfold addS
  by_cases h : okF a = true ∧ okF b = true
  · rw [if_pos h, if_pos ⟨h.2, h.1⟩]
    have oa := okF_iff.1 h.1
    have ob := okF_iff.1 h.2
    refine norm_rat (Nat.mul_pos oa.q0 ob.q0) (Nat.mul_pos ob.q0 oa.q0) ?_
    rw [val_add oa ob, val_add ob oa, Nat.mul_comm b.q.natAbs, Int.add_comm (b.n * a.q)]
  · rw [if_neg h, if_neg (fun k => h ⟨k.2, k.1⟩)]
theorem norm_self {a : FracT} (h : okF a = true) : normS (decide (a.n < 0)) a.n.natAbs a.q.natAbs = (a, true) := by
  have oa := okF_iff.1 h
  have := oa.d1
  have := oa.d2
  have := oa.n1
  have := oa.n2
  rw [normS_made, oa.g, Nat.div_one, Nat.div_one]
  unfold madeP
  rw [if_pos ⟨by omega, by omega⟩]
  refine Prod.ext ?_ rfl
  obtain ⟨n, q⟩ := a
  simp only at *
  congr 1
  · by_cases hn : n < 0
    · rw [if_pos (decide_eq_true hn)]; omega
    · rw [if_neg (by simp [hn])]; omega
  · omega
theorem undo_ring {an aq bn bq xn xq : Int} (h : xn * (aq * bq) = (an * bq + bn * aq) * xq) : (xn * bq - bn * xq) * aq = an * (xq * bq) := by
  grind
theorem sub_undo {a b : FracT} (h : (addS a b).2 = true) : subS (addS a b).1 b = (a, true) := by
  obtain ⟨ka, kb, kx, e⟩ := add_ok h
  generalize (addS a b).1 = x at kx e ⊢
  have oa := okF_iff.1 ka
  have ob := okF_iff.1 kb
  have ox := okF_iff.1 kx
  unfold subS
  rw [if_pos kb]
  unfold addS
  rw [if_pos ⟨kx, okF_iff.2 ob.neg.1⟩, ← norm_self ka]
  refine norm_rat (p := crossG x (negF b)) (q := (decide (a.n < 0), a.n.natAbs)) (Nat.mul_pos ox.q0 ob.neg.1.q0) oa.q0 ?_
  rw [val_cross ox ob]
  unfold keyF
  have hx : ((x.q.natAbs : Nat) : Int) = x.q := by have := ox.d1; omega
  have hb : ((b.q.natAbs : Nat) : Int) = b.q := by have := ob.d1; omega
  have ha : ((a.q.natAbs : Nat) : Int) = a.q := by have := oa.d1; omega
  have va : valG (decide (a.n < 0), a.n.natAbs) = a.n := by
    unfold valG
    by_cases hn : a.n < 0
    · rw [if_pos (decide_eq_true hn)]; simp only; omega
    · rw [if_neg (by simp [hn])]; simp only; omega
  show _ = valG _ * ((x.q.natAbs * b.q.natAbs : Nat) : Int)
  rw [va, Int.natCast_mul, hx, hb, ha]
  exact undo_ring e
theorem dist_ok {a b c : FracT} (h1 : (mulS a b).2 = true) (h2 : (addS b c).2 = true) (h3 : (mulS a c).2 = true) (h4 : (mulS a (addS b c).1).2 = true) (h5 : (addS (mulS a b).1 (mulS a c).1).2 = true) : (mulS a (addS b c).1).1 = (addS (mulS a b).1 (mulS a c).1).1 := by
  obtain ⟨ka, kb, kx, e1⟩ := mul_val h1
  obtain ⟨_, kc, ks, e2⟩ := add_ok h2
  obtain ⟨_, _, kz, e3⟩ := mul_val h3
  obtain ⟨_, _, ko, e4⟩ := mul_val h4
  obtain ⟨_, _, kt, e5⟩ := add_ok h5
  refine frac_eq ko kt ?_
  have pa := (okF_iff.1 ka).d1
  have pb := (okF_iff.1 kb).d1
  have pc := (okF_iff.1 kc).d1
  have px := (okF_iff.1 kx).d1
  have pz := (okF_iff.1 kz).d1
  have ps := (okF_iff.1 ks).d1
  have pos : 0 < a.q * a.q * b.q * c.q * (mulS a b).1.q * (mulS a c).1.q * (addS b c).1.q := Int.mul_pos (Int.mul_pos (Int.mul_pos (Int.mul_pos (Int.mul_pos (Int.mul_pos (by omega) (by omega)) (by omega)) (by omega)) (by omega)) (by omega)) (by omega)
  exact Int.eq_of_mul_eq_mul_right (by omega) (dist_ring e1 e2 e3 e4 e5)
end YtkoebmjenkajdaaDoor
end Go.Proofs
