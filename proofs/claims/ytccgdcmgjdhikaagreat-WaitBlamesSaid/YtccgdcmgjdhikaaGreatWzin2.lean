/- A part of the proof: contracts of functions of this seat, and lemmas. No condition beyond those stated. -/
import Derived.Test.YtccgdcmgjdhikaaGreatWzin
import Derived.Test.YtccgdcmgjdhikaaGreatWzk
import Derived.Test.YtccgdcmgjdhikaaGreatG5
set_option linter.unusedVariables false
set_option linter.unusedSimpArgs false
set_option linter.unusedSectionVars false
set_option linter.unnecessarySimpa false
set_option linter.unusedSimpArgs false
set_option linter.unusedVariables false
set_option maxRecDepth 100000
namespace Go.Proofs
open Go.AM Go.RowKit
namespace YtccgdcmgjdhikaaGreat
variable {Gl : Globs}
theorem wrote_setCells (b : Nat) : ∀ (vs : List Value) (o : Nat) (w : World), WroteAt b w (w.setCells b o vs)
  | [], _, w => WroteAt.refl b w
  | v :: r, o, w => (WroteAt.setCell w ⟨b, o, none⟩ v).trans (wrote_setCells b r (o + 1) _)
theorem wrote_drew (b : Nat) (w : World) : WroteAt b w w.drew := ⟨rfl, rfl, rfl, rfl, fun _ _ => rfl, rfl, id⟩
theorem plain_shape {w : World} {b : Nat} (h : plainBlk w b) : (∃ t, w.shape? b = some (t, blkSize w b)) ∧ ∀ j, w.frozen? ⟨b, j, none⟩ = false := by
  obtain ⟨c, t, hc⟩ := h
  refine ⟨⟨t, ?_⟩, fun j => ?_⟩
  · simp [World.shape?, blkSize, hc]
  · simp [World.frozen?, hc]
theorem plain_cell {w : World} {b j : Nat} (h : plainBlk w b) (hj : j < blkSize w b) : (w.cell? ⟨b, j, none⟩).isSome = true := by
  obtain ⟨c, t, hc⟩ := h
  have e : blkSize w b = c.size := by unfold blkSize; rw [hc]
  rw [e] at hj
  simp [World.cell?, hc, hj]
/-- the cells of a row with one more element in its middle -/
theorem mid_cells {w' : World} {B base n i : Nat} {cs vs : List Value} (hi : i ≤ n) (hcl : cs.length = n * 2) (hvl : vs.length = 2)
    (h1 : ∀ j v, j < i * 2 → cs[j]? = some v → w'.cell? ⟨B, base + j, none⟩ = some v)
    (h2 : ∀ j v, vs[j]? = some v → w'.cell? ⟨B, base + i * 2 + j, none⟩ = some v)
    (h3 : ∀ j v, (cs.drop (i * 2))[j]? = some v → w'.cell? ⟨B, base + (i + 1) * 2 + j, none⟩ = some v) :
    ∀ j v, (cs.take (i * 2) ++ vs ++ cs.drop (i * 2))[j]? = some v → w'.cell? ⟨B, base + j, none⟩ = some v := fun j v hj => by
  have htl : (cs.take (i * 2)).length = i * 2 := by rw [List.length_take]; omega
  by_cases a : j < i * 2
  · rw [List.append_assoc, List.getElem?_append_left (by omega), List.getElem?_take, if_pos a] at hj
    exact h1 j v a hj
  · by_cases b : j < (i + 1) * 2
    · rw [List.getElem?_append_left (by rw [List.length_append]; omega), List.getElem?_append_right (by omega), htl] at hj
      have := h2 _ v hj
      rw [← this]; congr 2; omega
    · rw [List.getElem?_append_right (by rw [List.length_append]; omega), List.length_append, htl, hvl] at hj
      have e : j = (i + 1) * 2 + (j - (i * 2 + 2)) := by omega
      have := h3 _ v hj
      rw [← this]; congr 2; omega
theorem mid_reps {w : World} {I : Im} {n i : Nat} {cs vs : List Value} {xs : List D} {e : D} (hxl : xs.length = n) (hi : i ≤ n) (hcl : cs.length = n * 2) (hvl : vs.length = 2)
    (hxs : ∀ x ∈ xs, x.cells.length = 2) (he : e.cells.length = 2)
    (hr : ∀ (i j : Nat) (z y : D), xs[i]? = some z → z.cells[j]? = some y → ∃ u, cs[i * 2 + j]? = some u ∧ RepD w I u y)
    (hv : ∀ (i j : Nat) (z y : D), [e][i]? = some z → z.cells[j]? = some y → ∃ u, vs[i * 2 + j]? = some u ∧ RepD w I u y) :
    ∀ (k j : Nat) (z y : D), (xs.take i ++ e :: xs.drop i)[k]? = some z → z.cells[j]? = some y → ∃ u, (cs.take (i * 2) ++ vs ++ cs.drop (i * 2))[k * 2 + j]? = some u ∧ RepD w I u y := fun k j z y hz hy => by
  have htl : (cs.take (i * 2)).length = i * 2 := by rw [List.length_take]; omega
  have htx : (xs.take i).length = i := by rw [List.length_take]; omega
  have hzl : z.cells.length = 2 := by
    have := List.mem_of_getElem? hz
    rcases List.mem_append.1 this with h | h
    · exact hxs _ (List.mem_of_mem_take h)
    · rcases List.mem_cons.1 h with rfl | h
      · exact he
      · exact hxs _ (List.mem_of_mem_drop h)
  have hj : j < 2 := by
    rcases Nat.lt_or_ge j z.cells.length with h' | h'
    · omega
    · rw [List.getElem?_eq_none h'] at hy; cases hy
  by_cases a : k < i
  · rw [List.getElem?_append_left (by omega), List.getElem?_take, if_pos a] at hz
    obtain ⟨u, hu, hq⟩ := hr k j z y hz hy
    exact ⟨u, by rw [List.append_assoc, List.getElem?_append_left (by omega), List.getElem?_take, if_pos (by omega)]; exact hu, hq⟩
  · rw [List.getElem?_append_right (by omega), htx] at hz
    by_cases b : k = i
    · subst b
      rw [Nat.sub_self] at hz
      obtain ⟨u, hu, hq⟩ := hv 0 j z y hz hy
      refine ⟨u, ?_, hq⟩
      rw [List.getElem?_append_left (by rw [List.length_append]; omega), List.getElem?_append_right (by omega), htl]
      rw [← hu]; congr 1; omega
    · obtain ⟨m, hm⟩ : ∃ m, k - i = m + 1 := ⟨k - i - 1, by omega⟩
      rw [hm, List.getElem?_cons_succ, List.getElem?_drop] at hz
      obtain ⟨u, hu, hq⟩ := hr (i + m) j z y hz hy
      refine ⟨u, ?_, hq⟩
      rw [List.getElem?_append_right (by rw [List.length_append]; omega), List.length_append, htl, hvl, List.getElem?_drop, ← hu]
      congr 1; omega
set_option maxHeartbeats 1000000 in
theorem k_InsertMid (xs : List D) (e : D) (n i : Nat) (hxl : xs.length = n) (hi : i < n) (hb : (n + 1) * 16 ≤ 140737488355328) (hx : ∀ x ∈ xs, x.cells.length = 2) (he : e.cells.length = 2) (hef : e.flat) :
    ACalls Tryz.prog Gl 33 [.osl 0 0 n, .d (.int .i64 i), .osl 1 0 1] [.arr 2 xs, .arr 2 [e]] (fun r s => r = .osl 2 0 (n + 1) ∧ s = [.dead, .arr 2 [e], .arr 2 (xs.take i ++ e :: xs.drop i)]) := by
  intro w I μ vals hR hG hl hreps
  match vals, hl with
  | [a0, a1, a2], _ =>
  have r0 := hreps 0 a0 _ rfl rfl
  have r1 := (hreps 1 a1 _ rfl rfl).inv_d
  have r2 := hreps 2 a2 _ rfl rfl
  cases r1
  have e0 : (AV.osl 0 0 n).elems [.arr 2 xs, .arr 2 [e]] = xs := by simp [AV.elems, blkAt, Blk.xs, ← hxl]
  have e1 : (AV.osl 1 0 1).elems [.arr 2 xs, .arr 2 [e]] = [e] := by simp [AV.elems, blkAt, Blk.xs]
  obtain ⟨sa, sc, cs, hsv, hcl, _, hcr, hc1, _, hxf, hcc⟩ := src_cells (P := Tryz.prog) (es := 2) hR (by decide) r0 ⟨rfl, rfl⟩
  obtain ⟨va, vc, vs, hvv, hvl, _, hvr, hv1, _, _, hvc⟩ := src_cells (P := Tryz.prog) (es := 2) hR (by decide) r2 ⟨rfl, rfl⟩
  rw [e0, hxl] at hsv hcl
  rw [e0] at hcr hxf
  rw [e1] at hvv hvl hvr
  rw [List.length_singleton] at hvv hvl
  subst hsv; subst hvv
  have hal0 : alive [.arr 2 xs, .arr 2 [e]] 0 := rfl
  have hal1 : alive [.arr 2 xs, .arr 2 [e]] 1 := rfl
  obtain ⟨_, h0⟩ := inv_osl r0
  obtain ⟨_, h1⟩ := inv_osl r2
  rcases h0 with ⟨h0, _⟩ | ⟨b, base, es0, cap, q0, qc0, hv0⟩
  · omega
  rcases h1 with ⟨h1, _⟩ | ⟨vb, vbase, es1, vcap, q1, qc1, hv1'⟩
  · cases h1
  obtain ⟨m0, _, m2, m3, m4⟩ := q0 hal0
  obtain ⟨n0, _, n2, n3, n4⟩ := q1 hal1
  have z0 : es0 = 2 := m2.symm
  have z1 : es1 = 2 := n2.symm
  subst z0; subst z1
  simp only [Value.slice.injEq, Nat.zero_mul, Nat.add_zero] at hv0 hv1'
  obtain ⟨rfl, _, rfl⟩ := hv0
  obtain ⟨rfl, _, rfl⟩ := hv1'
  rw [Nat.zero_add] at m4 n4
  have hpl : plainBlk w b := by
    have := hR.blk 0 (show 0 < 2 from by decide)
    rcases this with ⟨t1, t2⟩ | ⟨b', o', t1, _, t3, _⟩
    · rw [m0] at t1; cases t1
    · rw [m0] at t1; cases t1; exact t3
  have hplv : plainBlk w vb := by
    have := hR.blk 1 (show 1 < 2 from by decide)
    rcases this with ⟨t1, t2⟩ | ⟨b', o', t1, _, t3, _⟩
    · cases t2
    · rw [n0] at t1; cases t1; exact t3
  have hvb : vb ≠ b := hR.apart 1 0 vb b vbase base (by decide) rfl rfl n0 m0
  obtain ⟨⟨tb, hsb⟩, hfb⟩ := plain_shape hpl
  obtain ⟨⟨tv, hsv⟩, hfv⟩ := plain_shape hplv
  obtain ⟨hbl, hnI⟩ := own_lt hR (id := 0) (show 0 < 2 from by decide) rfl m0
  have hcc' := hcc b base rfl
  have hvc' := hvc vb vbase rfl
  have ecall : (callFunc 33 [Value.slice (some ⟨b, base, none⟩) n sc, Value.int .i64 (i : Int), Value.slice (some ⟨vb, vbase, none⟩) 1 vc].toArray).run Tryz.prog w = .ok (.enter 33 #[Value.slice (some ⟨b, base, none⟩) n sc, Value.int .i64 (i : Int), Value.slice (some ⟨vb, vbase, none⟩) 1 vc]) w := by
    have hf := Tryz.func33
    simp [callFunc, hf, Tryz.f33]
  obtain ⟨k1, k2, k3⟩ := killS_ok hR (.osl 0 0 n)
  have hkill : killS [.arr 2 xs, .arr 2 [e]] (.osl 0 0 n) = [.dead, .arr 2 [e]] := rfl
  rw [hkill] at k1 k2 k3
  have hnx : ∀ x ∈ xs.take i ++ e :: xs.drop i, x.cells.length = 2 ∧ x.flat := fun x hm => by
    rcases List.mem_append.1 hm with h | h
    · exact ⟨hx _ (List.mem_of_mem_take h), hxf _ (List.mem_of_mem_take h)⟩
    · rcases List.mem_cons.1 h with rfl | h
      · exact ⟨he, hef⟩
      · exact ⟨hx _ (List.mem_of_mem_drop h), hxf _ (List.mem_of_mem_drop h)⟩
  have hnl : (xs.take i ++ e :: xs.drop i).length = n + 1 := by simp only [List.length_append, List.length_cons, List.length_take, List.length_drop]; omega
  have hmr := mid_reps (w := w) (I := I) hxl (Nat.le_of_lt hi) hcl hvl hx he hcr hvr
  show CallRes _ _ _ _
  rw [ecall]
  refine ⟨rfl, ?_⟩
  by_cases hroom : n + 1 ≤ sc
  · refine (ins_shift b base n sc i vb vbase vc cs vs w hi hroom hb hvb hcl hvl hcc' (fun j hj => plain_cell hpl (by omega)) (fun j _ => hfb _) hvc' hc1 hv1 tv tb _ _ hsv hsb (by omega) (hfv _) (hfv _)).mono ?_
    rintro x w' ⟨rfl, hw'⟩
    refine ⟨_, rfl, ?_⟩
    have ww : WroteAt b w w' := by
      rw [hw']
      exact ((wrote_drew b w).trans (wrote_setCells b _ _ _)).trans (wrote_setCells b _ _ _)
    have hno : ∀ j o, (blkAt [.dead, .arr 2 [e]] j).own = true → μ j ≠ some (b, o) := fun j o hj hμj => by
      match j with
      | 0 => cases hj
      | 1 => rw [n0] at hμj; simp only [Option.some.injEq, Prod.mk.injEq] at hμj; exact hvb hμj.1
      | j + 2 => cases hj
    obtain ⟨f1, f2⟩ := WroteAt.free k1 hnI hno ww
    have hdl : (cs.drop (i * 2)).length = (n - i) * 2 := by rw [List.length_drop, hcl, Nat.sub_mul]
    have hin1 : ∀ j, j < blkSize w b → (w.drew.cell? ⟨b, j, none⟩).isSome = true := fun j hj => plain_cell (w := w.drew) (b := b) hpl hj
    have hmid := mid_cells (w' := w') (B := b) (base := base) (Nat.le_of_lt hi) hcl hvl
      (fun j v hj hv => by
        rw [hw', World.cell?_setCells_out _ _ _ _ _ (fun _ _ => Or.inl (by show base + j < _; omega)), World.cell?_setCells_out _ _ _ _ _ (fun _ _ => Or.inl (by show base + j < _; omega))]
        exact hcc' j v hv)
      (fun j v hv => by
        have hj : j < vs.length := by
          rcases Nat.lt_or_ge j vs.length with h' | h'
          · exact h'
          · rw [List.getElem?_eq_none h'] at hv; cases hv
        rw [hw', World.cell?_setCells_in _ _ _ _ (fun j hj => isSome_setCells b _ _ _ (fun t ht => hin1 _ (by omega)) _ (hin1 _ (by omega))) j hj, ← hv, List.getElem?_eq_getElem hj])
      (fun j v hv => by
        have hj : j < (cs.drop (i * 2)).length := by
          rcases Nat.lt_or_ge j (cs.drop (i * 2)).length with h' | h'
          · exact h'
          · rw [List.getElem?_eq_none h'] at hv; cases hv
        rw [hw', World.cell?_setCells_out _ _ _ _ _ (fun _ _ => Or.inr (by show _ ≤ base + (i + 1) * 2 + j; omega)), World.cell?_setCells_in _ _ _ _ (fun j hj => hin1 _ (by omega)) j hj, ← hv, List.getElem?_eq_getElem hj])
    obtain ⟨g1, g2⟩ := f1.addArr (base := base) (es := 2) (xs := xs.take i ++ e :: xs.drop i) hnI hno (ww.plain hpl) (by rw [ww.bsize, hnl]; omega) (fun x hm => (hnx x hm).1) (fun x hm => (hnx x hm).2) (fun k j x y hx hy => by
      obtain ⟨u, hu, hr⟩ := hmr k j x y hx hy
      exact ⟨u, by rw [Nat.add_assoc]; exact hmid _ u hu, hr.keep f2.imm f2.rsame⟩)
    refine ⟨.osl 2 0 (n + 1), [.dead, .arr 2 [e], .arr 2 (xs.take i ++ e :: xs.drop i)], I, _, g1, k2.trans (f2.trans g2), ?_, rfl, rfl⟩
    refine .osl _ _ _ _ (show 2 < 3 from by decide) (.inr ⟨b, base, 2, sc, fun _ => ⟨rfl, rfl, rfl, ?_, ?_⟩, hroom, by simp⟩)
    · show 0 + (n + 1) ≤ (xs.take i ++ e :: xs.drop i).length
      omega
    · rw [ww.bsize]; omega
  · refine (ins_grow b base n sc i vb vbase vc cs vs w hi qc0 (by omega) hb hcl hvl hcc' hvc' hc1 hv1).mono ?_
    rintro x w' ⟨rfl, hw'⟩
    refine ⟨_, rfl, ?_⟩
    obtain ⟨ROW, hROW⟩ : ∃ ROW : Array Value, ROW = (cs.take (i * 2)).toArray ++ Builtin.zeroCells zE2.cells (n + 1 - i) ++ Builtin.zeroCells zE2.cells (grownCap w (n + 1) sc 50 - (n + 1)) := ⟨_, rfl⟩
    rw [← hROW] at hw'
    have hG := grownCap_ge w (n + 1) sc 50
    generalize grownCap w (n + 1) sc 50 = G at *
    have hRs : ROW.size = G * 2 := by
      have z2 : zE2.cells.size = 2 := by decide
      have tl : (cs.take (i * 2)).length = i * 2 := by rw [List.length_take]; omega
      rw [hROW]
      simp only [Array.size_append, List.size_toArray, size_zeroCells, z2, tl]
      omega
    have hRt : ∀ j v, j < i * 2 → cs[j]? = some v → ROW[j]? = some v := fun j v hj hv => by
      have tl : (cs.take (i * 2)).length = i * 2 := by rw [List.length_take]; omega
      rw [hROW, Array.append_assoc, Array.getElem?_append_left (by rw [List.size_toArray, tl]; exact hj), List.getElem?_toArray, List.getElem?_take, if_pos hj]
      exact hv
    obtain ⟨W1, hW1⟩ : ∃ W1, W1 = w.alloc (.cells ROW 50) := ⟨_, rfl⟩
    have hgr : W1 = Sort.grow (w.drewN 0) #[.cells ROW 50] := by rw [hW1]; show _ = ({ w with heap := w.heap ++ #[Obj.cells ROW 50] } : World); rw [Array.append_singleton]; rfl
    have f1 : Rel W1 I μ [.dead, .arr 2 [e]] := by rw [hgr]; exact rel_grow k1 0 _
    have f2 : Keep 2 w I μ [.dead, .arr 2 [e]] W1 I μ [.dead, .arr 2 [e]] := by rw [hgr]; exact keep_grow k1 0 _
    have hpN : plainBlk W1 w.heap.size := by rw [hW1]; exact plainBlk_new _ _ _
    have hbN : blkSize W1 w.heap.size = G * 2 := by
      rw [hW1, blkSize_new]; exact hRs
    have hINn : ¬ I.fr w.heap.size := fun h => by have := hR.imm _ h; omega
    rw [← hW1] at hw'
    have ww : WroteAt w.heap.size W1 w' := by
      rw [hw']
      exact (((wrote_drew _ W1).trans (wrote_setCells _ _ _ _)).trans (wrote_drew _ _)).trans (wrote_setCells _ _ _ _)
    have hno : ∀ j o, (blkAt [.dead, .arr 2 [e]] j).own = true → μ j ≠ some (w.heap.size, o) := fun j o hj hμj => by
      match j with
      | 0 => cases hj
      | 1 =>
        rw [n0] at hμj; simp only [Option.some.injEq, Prod.mk.injEq] at hμj
        have := (own_lt hR (id := 1) (show 1 < 2 from by decide) rfl n0).1
        omega
      | j + 2 => cases hj
    obtain ⟨f3, f4⟩ := WroteAt.free f1 hINn hno ww
    have hdl : (cs.drop (i * 2)).length = (n - i) * 2 := by rw [List.length_drop, hcl, Nat.sub_mul]
    have hin1 : ∀ j, j < G * 2 → (W1.drew.cell? ⟨w.heap.size, j, none⟩).isSome = true := fun j hj => plain_cell (w := W1.drew) (b := w.heap.size) hpN (by have : blkSize W1.drew w.heap.size = blkSize W1 w.heap.size := rfl; omega)
    have hin2 : ∀ j, j < G * 2 → (((W1.drew.setCells w.heap.size (i * 2) vs).drew).cell? ⟨w.heap.size, j, none⟩).isSome = true := fun j hj => by
      show ((W1.drew.setCells w.heap.size (i * 2) vs).cell? _).isSome = true
      exact isSome_setCells _ _ _ _ (fun t ht => hin1 _ (by omega)) _ (hin1 _ hj)
    have hmid := mid_cells (w' := w') (B := w.heap.size) (base := 0) (Nat.le_of_lt hi) hcl hvl
      (fun j v hj hv => by
        rw [hw', World.cell?_setCells_out _ _ _ _ _ (fun _ _ => Or.inl (by show 0 + j < _; omega))]
        show (W1.drew.setCells w.heap.size (i * 2) vs).cell? _ = _
        rw [World.cell?_setCells_out _ _ _ _ _ (fun _ _ => Or.inl (by show 0 + j < _; omega))]
        show W1.cell? _ = _
        rw [hW1, Nat.zero_add, World.cell?_alloc_at (w := w) ROW _ w.heap.size j rfl]
        exact hRt j v hj hv)
      (fun j v hv => by
        have hj : j < vs.length := by
          rcases Nat.lt_or_ge j vs.length with h' | h'
          · exact h'
          · rw [List.getElem?_eq_none h'] at hv; cases hv
        rw [hw', Nat.zero_add, World.cell?_setCells_out _ _ _ _ _ (fun _ _ => Or.inl (by show i * 2 + j < _; omega))]
        show (W1.drew.setCells w.heap.size (i * 2) vs).cell? _ = _
        rw [World.cell?_setCells_in _ _ _ _ (fun j hj => hin1 _ (by omega)) j hj, ← hv, List.getElem?_eq_getElem hj])
      (fun j v hv => by
        have hj : j < (cs.drop (i * 2)).length := by
          rcases Nat.lt_or_ge j (cs.drop (i * 2)).length with h' | h'
          · exact h'
          · rw [List.getElem?_eq_none h'] at hv; cases hv
        rw [hw', Nat.zero_add, World.cell?_setCells_in _ _ _ _ (fun j hj => hin2 _ (by omega)) j hj, ← hv, List.getElem?_eq_getElem hj])
    obtain ⟨g1, g2⟩ := f3.addArr (base := 0) (es := 2) (xs := xs.take i ++ e :: xs.drop i) hINn hno (ww.plain hpN) (by rw [ww.bsize, hnl, hbN]; omega) (fun x hm => (hnx x hm).1) (fun x hm => (hnx x hm).2) (fun k j x y hx hy => by
      obtain ⟨u, hu, hr⟩ := hmr k j x y hx hy
      exact ⟨u, by rw [Nat.add_assoc]; exact hmid _ u hu, (hr.keep f2.imm f2.rsame).keep f4.imm f4.rsame⟩)
    refine ⟨.osl 2 0 (n + 1), [.dead, .arr 2 [e], .arr 2 (xs.take i ++ e :: xs.drop i)], I, _, g1, k2.trans (f2.trans (f4.trans g2)), ?_, rfl, rfl⟩
    refine .osl _ _ _ _ (show 2 < 3 from by decide) (.inr ⟨w.heap.size, 0, 2, G, fun _ => ⟨rfl, rfl, rfl, ?_, ?_⟩, hG, by simp⟩)
    · show 0 + (n + 1) ≤ (xs.take i ++ e :: xs.drop i).length
      omega
    · rw [ww.bsize, hbN]; omega
end YtccgdcmgjdhikaaGreat
end Go.Proofs
