/- A part of the proof: contracts of functions of this seat, and lemmas. No condition beyond those stated. -/
import Derived.Test.YtadfcljoocjhdaaGreatWtth
set_option linter.unusedVariables false
set_option linter.unusedSimpArgs false
set_option linter.unusedSectionVars false
set_option linter.unnecessarySimpa false
set_option maxRecDepth 100000
namespace Go.Proofs
open Go.AM
namespace YtadfcljoocjhdaaGreat
variable {Gl : Globs}
def keysOf (ats : List Nat) (r : List ValT) : List ValT := ats.map fun a => r.getD a default
def cmpKeys (ats : List Nat) (l : List SrtT) (x y : List ValT) : Int := firstErr (fun i => cmpAt l i ((keysOf ats x).getD i default) ((keysOf ats y).getD i default)) l.length
theorem k_Sorted2 (ats : List Nat) (l : List SrtT) (hl : l.length < 1000000) (hal : ats.length = l.length) (x y : List ValT) (hx : x.length < 1000000) (hy : y.length < 1000000) (hax : ∀ a ∈ ats, a < x.length) (hay : ∀ a ∈ ats, a < y.length) :
  ACalls Tryz.prog Gl 73 [.d (rowD x), .d (rowD y), .ptr 0 0, .ptr 2 0] [.box 1 (.fn 70 [.ptr 1 0]), .box 1 (.d (natD ats)), .box 1 (.d (srtD l))]
   (fun r s => r = .d (.int .i64 (cmpKeys ats l x y)) ∧ s = [.box 1 (.fn 70 [.ptr 1 0]), .box 1 (.d (natD ats)), .box 1 (.d (srtD l))]) := by
 refine acalls_of Tryz.func73 rfl rfl (by simp [Tryz.ntmps73]) (evC_sound rfl _ _ _ _ ?_)
 simp only [Tryz.ntmps73, Tryz.results73, argEnv, List.length_nil]
 simp only [zT, seval, implies_true, Nat.reduceLeDiff, Nat.reduceEqDiff, reduceCtorEq, reduceIte]
 repeat ((with_reducible refine And.intro ?_ ?_); (focus (first | omega | (simp only [lenR]; omega) | (refine qq ?_; rfl) | (refine dq ?_; kernel_rfl) | (intros; simp_all; done))))
 refine callF_blk1 1 (k_Sorted1 ats x (by omega) hx hax) (fun s => rfl) rfl trivial ?_
 simp only [zT, seval, implies_true, Nat.reduceLeDiff, Nat.reduceEqDiff, reduceCtorEq, reduceIte]
 repeat ((with_reducible refine And.intro ?_ ?_); (focus (first | omega | (simp only [lenR]; omega) | (refine qq ?_; rfl) | (refine dq ?_; kernel_rfl) | (intros; simp_all; done))))
 refine callF_blk1 1 (k_Sorted1 ats y (by omega) hy hay) (fun s => rfl) rfl trivial ?_
 simp only [zT, seval, implies_true, Nat.reduceLeDiff, Nat.reduceEqDiff, reduceCtorEq, reduceIte]
 repeat ((with_reducible refine And.intro ?_ ?_); (focus (first | omega | (simp only [lenR]; omega) | (refine qq ?_; rfl) | (refine dq ?_; kernel_rfl) | (intros; simp_all; done))))
 refine callF_blk1 2 (k_compared (cmpAt l) (srtD l) 75 l.length hl (fun i u v hi => k_Sorted21 l hl i u v hi) (keysOf ats x) (keysOf ats y) (by simp [keysOf, hal]) (by simp [keysOf, hal])) (fun s => rfl) rfl trivial ?_
 simp only [zT, seval, implies_true, Nat.reduceLeDiff, Nat.reduceEqDiff, reduceCtorEq, reduceIte]
 refine ⟨_, _, weakR_to [] [0, 1, 2] rfl (by simp) (show renV _ _ _ = AV.d _ from rfl) rfl, ?_, rfl⟩
 rfl
theorem k_CloneR (rows : List (List ValT)) (hr : rows.length < 1000000) : Fresh Tryz.prog Gl 71 [.d (.sl (rows.map rowD))] 1 (rows.map rowD) := by
 refine Fresh.of (args := [.sl (rows.map rowD)]) ?_
 have hes : ∀ y ∈ rows.map rowD, y.cells.length = 1 := fun y hy => by
  obtain ⟨r, _, rfl⟩ := List.mem_map.1 hy; rfl
 have hfl : ∀ y ∈ rows.map rowD, y.flat := fun y hy => by
  obtain ⟨r, _, rfl⟩ := List.mem_map.1 hy
  intro c hc
  simp [rowD, D.cells] at hc
  subst hc; rfl
 simp only [List.map_cons, List.map_nil]
 cases rows with
 | nil =>
  refine acalls_of Tryz.func71 rfl rfl (by simp [Tryz.ntmps71]) (evC_sound rfl _ _ _ _ ?_)
  simp only [Tryz.ntmps71, Tryz.results71, argEnv, List.length_nil]
  simp only [zT, seval, implies_true, Nat.reduceLeDiff, Nat.reduceEqDiff, reduceCtorEq, reduceIte]
  refine ⟨⟨_, _, weakR_nils 1 (Nat.le_refl 0), rfl, rfl⟩, ?_⟩
  exact ⟨_, _, weakR_to [] [1] rfl (by simp) rfl rfl, rfl, rfl⟩
 | cons r rs =>
  simp only [List.map_cons, List.length_cons] at hes hr hfl ⊢
  refine acalls_of Tryz.func71 rfl rfl (by simp [Tryz.ntmps71]) (evC_sound rfl _ _ _ _ ?_)
  simp only [Tryz.ntmps71, Tryz.results71, argEnv, List.length_nil]
  simp only [zT, seval, implies_true, Nat.reduceLeDiff, Nat.reduceEqDiff, reduceCtorEq, reduceIte]
  refine ⟨by omega, ?_⟩
  exact ⟨_, _, weakR_to [] [1] rfl (by simp) rfl rfl, rfl, rfl⟩
theorem k_CloneC (rows : List ColT) (hr : rows.length < 1000000) : Fresh Tryz.prog Gl 76 [.d (.sl (rows.map ColT.toD))] 2 (rows.map ColT.toD) := by
 refine Fresh.of (args := [.sl (rows.map ColT.toD)]) ?_
 have hes : ∀ y ∈ rows.map ColT.toD, y.cells.length = 2 := fun y hy => by
  obtain ⟨r, _, rfl⟩ := List.mem_map.1 hy; rfl
 have hfl : ∀ y ∈ rows.map ColT.toD, y.flat := fun y hy => by
  obtain ⟨r, _, rfl⟩ := List.mem_map.1 hy
  intro c hc
  simp [ColT.toD, D.cells] at hc
  rcases hc with rfl | rfl <;> rfl
 simp only [List.map_cons, List.map_nil]
 cases rows with
 | nil =>
  refine acalls_of Tryz.func76 rfl rfl (by simp [Tryz.ntmps76]) (evC_sound rfl _ _ _ _ ?_)
  simp only [Tryz.ntmps76, Tryz.results76, argEnv, List.length_nil]
  simp only [zT, seval, implies_true, Nat.reduceLeDiff, Nat.reduceEqDiff, reduceCtorEq, reduceIte]
  refine ⟨⟨_, _, weakR_nils 2 (Nat.le_refl 0), rfl, rfl⟩, ?_⟩
  exact ⟨_, _, weakR_to [] [1] rfl (by simp) rfl rfl, rfl, rfl⟩
 | cons r rs =>
  simp only [List.map_cons, List.length_cons] at hes hr hfl ⊢
  refine acalls_of Tryz.func76 rfl rfl (by simp [Tryz.ntmps76]) (evC_sound rfl _ _ _ _ ?_)
  simp only [Tryz.ntmps76, Tryz.results76, argEnv, List.length_nil]
  simp only [zT, seval, implies_true, Nat.reduceLeDiff, Nat.reduceEqDiff, reduceCtorEq, reduceIte]
  refine ⟨by omega, ?_⟩
  exact ⟨_, _, weakR_to [] [1] rfl (by simp) rfl rfl, rfl, rfl⟩
theorem nn' {a b : Nat} (h : ¬ a ≠ b) : a = b := Decidable.not_not.1 h
def atsOf (cols : List ColT) (l : List SrtT) : List Nat := l.map fun s => (colF cols s.col).toNat
theorem cmpKeys_by (cols : List ColT) (l : List SrtT) (x y : List ValT) : cmpKeys (atsOf cols l) l x y = byF cols l x y := by
 unfold cmpKeys byF
 refine firstErr_congr fun i hi => ?_
 have e : ∀ r : List ValT, (keysOf (atsOf cols l) r).getD i default = keyAt cols (l.getD i default) r := fun r => by
  simp [keysOf, atsOf, keyAt, hi]
 rw [e, e]; rfl
theorem noCol_snoc {t : TabT} {l : List SrtT} {k : Nat} (h : k < l.length) : noCol t (l.take (k + 1)) = (noCol t (l.take k) || decide (colF t.cols (l.getD k default).col < 0)) := any_take (fun s : SrtT => decide (colF t.cols s.col < 0)) l k h
theorem colF_lt (cols : List ColT) (nm : List UInt8) : colF cols nm < cols.length := idxF_lt _ _
theorem row_len {t : TabT} (h : checkF t = 0) : ∀ r ∈ t.rows, r.length = t.cols.length := fun r hr => by
 unfold checkF at h
 split at h
 ·cases h
 split at h
 ·rename_i g; exact absurd h g
 obtain ⟨i, hi, e⟩ := List.mem_iff_getElem.1 hr
 have := firstErr_zero h i hi
 rw [show t.rows.getD i default = r by simp [hi, e]] at this
 unfold rowE at this
 split at this
 ·cases this
 ·rename_i g; exact nn' g
theorem cmpOkR (cols : List ColT) (l : List SrtT) (hc : cols.length < 1000000) (hl : l.length < 1000000) (hn : ∀ a ∈ atsOf cols l, a < cols.length) :
  CmpOk Gl [.box 1 (.fn 70 [.ptr 2 0]), .box 1 (.d (natD (atsOf cols l))), .box 1 (.d (srtD l))] (DmR cols.length) (cmpD cols l) 73 [.ptr 1 0, .ptr 3 0] := by
 refine ⟨fun x hx => ?_, fun x y hx hy ys s hs => ?_, swoR cols l cols.length⟩
 ·obtain ⟨r, rfl, _⟩ := hx; exact ⟨rfl, rfl⟩
 ·obtain ⟨a, rfl, ha⟩ := hx
  obtain ⟨b, rfl, hb⟩ := hy
  rw [cmpD_row, ← cmpKeys_by]
  have bx : ∀ (s : Sto), Ext (.arr 1 ys :: [.box 1 (.fn 70 [.ptr 2 0]), .box 1 (.d (natD (atsOf cols l))), .box 1 (.d (srtD l))]) s → blkAt s 1 = .box 1 (.fn 70 [.ptr 2 0]) ∧ blkAt s 2 = .box 1 (.d (natD (atsOf cols l))) ∧ blkAt s 3 = .box 1 (.d (srtD l)) := fun s hs => by
   exact ⟨hs.box (id := 1) rfl, hs.box (id := 2) rfl, hs.box (id := 3) rfl⟩
  refine ext_boxes [1, 2, 3] _ (by decide) (fun i hi => ?_) (k_Sorted2 (atsOf cols l) l hl (by simp [atsOf]) a b (by omega) (by omega) (fun i hi => by rw [ha]; exact hn i hi) (fun i hi => by rw [hb]; exact hn i hi)) (fun s => rfl) (fun s hs => ?_) (fun s j i hs hj => ?_) s hs
  ·simp at hi
   rcases hi with rfl | rfl | rfl <;> rfl
  ·obtain ⟨b1, b2, b3⟩ := bx s hs
   show [renB [1, 2, 3] s (blkAt s 1), renB [1, 2, 3] s (blkAt s 2), renB [1, 2, 3] s (blkAt s 3)] = _
   rw [b1, b2, b3]; rfl
  ·obtain ⟨b1, b2, b3⟩ := bx s hs
   match j, hj with
   | 0, hj => cases hj; rw [b1]; rfl
   | 1, hj => cases hj; rw [b2]; rfl
   | 2, hj => cases hj; rw [b3]; rfl
theorem k_Sorted (t : TabT) (ht : t.Few) (l : List SrtT) (hl : l.length < 1000000) : Pure Tryz.prog Gl 33 [.d t.toD, .d (srtD l)] (.tup [.d (sortedF t l).toD, .d (.int .i64 (sortedE t l))]) := by
 refine Pure.of2t2 ?_
 obtain ⟨hc, hr, hw⟩ := ht
 refine acalls_of Tryz.func33 rfl rfl (by simp [Tryz.ntmps33]) (evC_sound rfl _ _ _ _ ?_)
 simp only [Tryz.ntmps33, Tryz.results33, argEnv, List.length_nil]
 simp only [zT, seval, implies_true, Nat.reduceLeDiff, Nat.reduceEqDiff, reduceCtorEq, reduceIte]
 repeat ((with_reducible refine And.intro ?_ ?_); (focus (first | omega | (simp only [lenR]; omega) | (refine qq ?_; rfl) | (refine dq ?_; kernel_rfl) | (intros; simp_all; done))))
 refine callF_pure (k_Check t hc hr hw) ?_
 simp only [zT, seval, implies_true, Nat.reduceLeDiff, Nat.reduceEqDiff, reduceCtorEq, reduceIte]
 repeat ((with_reducible refine And.intro ?_ ?_); (focus (first | omega | (simp only [lenR]; omega) | (refine qq ?_; rfl) | (refine dq ?_; kernel_rfl) | (intros; simp_all; done))))
 refine ifC.mk (fun h1 => ?_) (fun h1 => ?_)
 ·have h1 := bne_iff_ne.1 h1
  repeat ((with_reducible refine And.intro ?_ ?_); (focus (first | omega | (simp only [lenR]; omega) | (refine qq ?_; rfl) | (refine dq ?_; kernel_rfl) | (intros; simp_all; done))))
  refine ⟨_, _, ret_tdata rfl rfl, ?_, rfl⟩
  rw [sortedF, sortedE, if_pos h1, if_neg h1]; rfl
 have h1 : checkF t = 0 := by simpa using h1
 have hE : sortedE t l = if noCol t l = true then 16 else 0 := by rw [sortedE, if_neg (by rw [h1]; simp)]
 repeat ((with_reducible refine And.intro ?_ ?_); (focus (first | omega | (simp only [lenR]; omega) | (refine qq ?_; rfl) | (refine dq ?_; kernel_rfl) | (intros; simp_all; done))))
 (try simp only [zT, seval, implies_true, Nat.reduceLeDiff, Nat.reduceEqDiff, reduceCtorEq, reduceIte, srtD])
 repeat ((with_reducible refine And.intro ?_ ?_); (focus (first | omega | (simp only [lenR]; omega) | (refine qq ?_; rfl) | (refine dq ?_; kernel_rfl) | (intros; simp_all; done))))
 refine for_of l.length (fun k => [(2, .ptr 0 0), (3, .ptr 1 0), (4, .ptr 2 0), (7, .ptr 3 0), (19, .d (.sl (l.map SrtT.toD))), (20, .d (.int .i64 l.length)), (21, .d (.int .i64 k))])
  (fun k => [.box 2 (.d t.toD), .box 1 (.d (.sl (l.map SrtT.toD))), .box 2 (.agg [.nils, .nils]), .box 1 (.osl 4 0 k), .arr 1 ((atsOf t.cols (l.take k)).map fun a : Nat => D.int .i64 a)]) (fun k => noCol t (l.take k) = false) rfl ?_ ?_
 ·refine (weak_box1Nil (σ := [.box 2 (.d t.toD), .box 1 (.d (.sl (l.map SrtT.toD))), .box 2 (.agg [.nils, .nils]), .box 1 .nils]) 3 1 (by simp) rfl (by simp)).trans ?_
  refine weak_to [] [0, 1, 2, 3, 4] rfl (by simp) ?_ rfl
  simp only [zT, seval, implies_true, Nat.reduceLeDiff, Nat.reduceEqDiff, reduceCtorEq, reduceIte]
  all_goals rfl
 ·intro k hi hk
  by_cases h : k < l.length
  ·have hs := noCol_snoc (t := t) h
   obtain ⟨x, hx⟩ : ∃ x, x = l.getD k default := ⟨_, rfl⟩
   have hg : (List.map SrtT.toD l).getD k default = x.toD := by rw [hx]; simp [h]
   rw [← hx] at hs
   simp only [zT, seval, implies_true, Nat.reduceLeDiff, Nat.reduceEqDiff, reduceCtorEq, reduceIte, (show (k:Int) < l.length by omega), h, hg]
   repeat ((with_reducible refine And.intro ?_ ?_); (focus (first | omega | (simp only [lenR]; omega) | (refine qq ?_; rfl) | (refine dq ?_; kernel_rfl) | (intros; simp_all; done))))
   refine callF_pure (k_Col t x.col hc) ?_
   simp only [zT, seval, implies_true, Nat.reduceLeDiff, Nat.reduceEqDiff, reduceCtorEq, reduceIte]
   repeat ((with_reducible refine And.intro ?_ ?_); (focus (first | omega | (simp only [lenR]; omega) | (refine qq ?_; rfl) | (refine dq ?_; kernel_rfl) | (intros; simp_all; done))))
   refine ifC.mk (fun h2 => ?_) (fun h2 => ?_)
   ·repeat ((with_reducible refine And.intro ?_ ?_); (focus (first | omega | (simp only [lenR]; omega) | (refine qq ?_; rfl) | (refine dq ?_; kernel_rfl) | (intros; simp_all; done))))
    refine ⟨_, _, ret_tdata rfl rfl, ?_, rfl⟩
    have : noCol t l = true := List.any_eq_true.2 ⟨x, by rw [hx]; exact mem_getD h, h2⟩
    rw [sortedF, hE, this]; rfl
   ·repeat ((with_reducible refine And.intro ?_ ?_); (focus (first | omega | (simp only [lenR]; omega) | (refine qq ?_; rfl) | (refine dq ?_; kernel_rfl) | (intros; simp_all; done))))
    have h2' : ¬ colF t.cols x.col < 0 := of_decide_eq_false h2
    have e1 : colF t.cols x.col = ((colF t.cols x.col).toNat : Int) := by omega
    have hm : ((atsOf t.cols (l.take (k + 1))).map fun a : Nat => D.int .i64 a) = List.take k ((atsOf t.cols (l.take k)).map fun a : Nat => D.int .i64 a) ++ [.int .i64 (colF t.cols x.col)] := by
     rw [show l.take (k + 1) = l.take k ++ [x] by rw [List.take_add_one, hx]; simp [h], atsOf, List.map_append, e1]
     exact map_snoc (fun a : Nat => D.int .i64 a) _ _ (by simp; omega)
    rw [hm]
    refine weak_to [] [0, 1, 2, 3, 7] rfl (by simp) ?_ rfl
    simp only [zT, seval, implies_true, Nat.reduceLeDiff, Nat.reduceEqDiff, reduceCtorEq, reduceIte, @a_wrap ((k:Int) + 1) (by omega)]
    all_goals rfl
  ·simp only [zT, seval, implies_true, Nat.reduceLeDiff, Nat.reduceEqDiff, reduceCtorEq, reduceIte, (show ¬ (k:Int) < l.length by omega)]
   have : k = l.length := by omega
   subst this
   rw [List.take_length] at hi
   rw [List.take_length]
   have hraw : (D.raw Value.nilFunc).cells = [.raw .nilFunc] := rfl
   repeat ((with_reducible refine And.intro ?_ ?_); (focus (first | omega | (simp only [lenR]; omega) | (refine qq ?_; rfl) | (refine dq ?_; kernel_rfl) | (intros; simp_all; done))))
   simp only [zT, seval, implies_true, Nat.reduceLeDiff, Nat.reduceEqDiff, reduceCtorEq, reduceIte, hraw, List.length_singleton]
   refine callF_go ((k_CloneR t.rows hr _).mono fun r s hrs => ?_)
   obtain ⟨rfl, rfl⟩ := hrs
   simp only [zT, seval, implies_true, Nat.reduceLeDiff, Nat.reduceEqDiff, reduceCtorEq, reduceIte]
   have hlen := row_len h1
   have hx : ∀ y ∈ t.rows.map rowD, DmR t.cols.length y := fun y hy => by
    obtain ⟨r, hr, rfl⟩ := List.mem_map.1 hy
    exact ⟨r, rfl, hlen r hr⟩
   have hats : ∀ a ∈ atsOf t.cols l, a < t.cols.length := fun a ha => by
    obtain ⟨x, hx, rfl⟩ := List.mem_map.1 ha
    have h2 : ¬ colF t.cols x.col < 0 := fun h2 => by
     have : noCol t l = true := List.any_eq_true.2 ⟨x, hx, decide_eq_true h2⟩
     rw [this] at hi; cases hi
    have := colF_lt t.cols x.col
    omega
   have hsort := sortStable_spec (Gl := Gl) (DmR t.cols.length) (cmpD t.cols l) 73 [.ptr 1 0, .ptr 3 0] (cmpOkR t.cols l hc hl hats) (t.rows.map rowD) hx t.rows.length (by simp) hr
   have hw1 : Weak 0 7 [] [Blk.box 2 (AV.d t.toD), Blk.box 1 (AV.d (D.sl (List.map SrtT.toD l))), Blk.box 2 (AV.agg [AV.nils, AV.nils]),
     Blk.box 1 (AV.osl 4 0 l.length), Blk.arr 1 (List.map (fun a : Nat => D.int IntKind.i64 a) (atsOf t.cols l)),
     Blk.box 1 (AV.fn 70 [AV.ptr 3 0]), Blk.arr 1 (List.map rowD t.rows)] []
     [Blk.box 2 (AV.d t.toD), Blk.box 1 (AV.d (D.sl (List.map SrtT.toD l))), Blk.box 2 (AV.agg [AV.nils, AV.nils]),
     Blk.box 1 (AV.d (natD (atsOf t.cols l))), Blk.frz 1 (List.map (fun a : Nat => D.int IntKind.i64 a) (atsOf t.cols l)),
     Blk.box 1 (AV.fn 70 [AV.ptr 3 0]), Blk.arr 1 (List.map rowD t.rows)] := by
    have hq : natD (atsOf t.cols l) = D.sl (List.take l.length (List.map (fun a : Nat => D.int IntKind.i64 a) (atsOf t.cols l))) := by
     rw [List.take_of_length_le (by simp [atsOf])]; rfl
    rw [hq]
    exact weak_box1D (σ := [Blk.box 2 (AV.d t.toD), Blk.box 1 (AV.d (D.sl (List.map SrtT.toD l))), Blk.box 2 (AV.agg [AV.nils, AV.nils]),
     Blk.box 1 (AV.osl 4 0 l.length), Blk.arr 1 (List.map (fun a : Nat => D.int IntKind.i64 a) (atsOf t.cols l)),
     Blk.box 1 (AV.fn 70 [AV.ptr 3 0]), Blk.arr 1 (List.map rowD t.rows)]) 3 4 0 l.length rfl (by simp) rfl
   refine callF_go (ACalls.weak hw1 ((ACalls.under [6, 5, 3, 1] (by decide) (by simp) hsort).mono fun r s hss => ?_))
   obtain ⟨r0, s0, ⟨rfl, zs, ρ, rfl, hA, hB, hid⟩, rfl, rfl⟩ := hss
   have e := stabled_sortF (swoR t.cols l t.cols.length) hx (by simp) hA hB hid
   have e2 : (fun x y : List ValT => decide (cmpD t.cols l (rowD x) (rowD y) < 0)) = ltR t.cols l := by funext x y; rw [cmpD_row]; rfl
   rw [take_all, sortF_map, e2, List.drop_of_length_le (by simp), List.append_nil] at e
   subst e
   have hsl : (sortF (ltR t.cols l) t.rows).length = t.rows.length := sortF_length _ _
   obtain ⟨S, hS⟩ : ∃ S, S = sortF (ltR t.cols l) t.rows := ⟨_, rfl⟩
   rw [← hS] at hsl ⊢
   have hb2 : backS [6, 5, 3, 1] [Blk.box 2 (AV.d t.toD), Blk.box 1 (AV.d (D.sl (List.map SrtT.toD l))), Blk.box 2 (AV.agg [AV.nils, AV.nils]),
     Blk.box 1 (AV.d (natD (atsOf t.cols l))), Blk.frz 1 (List.map (fun a : Nat => D.int IntKind.i64 a) (atsOf t.cols l)),
     Blk.box 1 (AV.fn 70 [AV.ptr 3 0]), Blk.arr 1 (List.map rowD t.rows)] [Blk.arr 1 (S.map rowD), Blk.box 1 (.fn 70 [.ptr 2 0]), Blk.box 1 (.d (natD (atsOf t.cols l))), Blk.box 1 (.d (srtD l))]
     = [Blk.box 2 (AV.d t.toD), Blk.box 1 (AV.d (srtD l)), Blk.box 2 (AV.agg [AV.nils, AV.nils]),
     Blk.box 1 (AV.d (natD (atsOf t.cols l))), Blk.frz 1 (List.map (fun a : Nat => D.int IntKind.i64 a) (atsOf t.cols l)),
     Blk.box 1 (AV.fn 70 [AV.ptr 3 0]), Blk.arr 1 (S.map rowD)] := rfl
   rw [hb2]
   simp only [zT, seval, implies_true, Nat.reduceLeDiff, Nat.reduceEqDiff, reduceCtorEq, reduceIte]
   refine callF_go ((k_CloneC t.cols hc _).mono fun r s hrs => ?_)
   obtain ⟨rfl, rfl⟩ := hrs
   simp only [zT, seval, implies_true, Nat.reduceLeDiff, Nat.reduceEqDiff, reduceCtorEq, reduceIte]
   repeat ((with_reducible refine And.intro ?_ ?_); (focus (first | omega | (simp only [lenR]; omega) | (refine qq ?_; rfl) | (refine dq ?_; kernel_rfl) | (intros; simp_all; done))))
   refine ⟨_, _, ret_tdata rfl rfl, ?_, rfl⟩
   have hz : sortedE t l = 0 := by rw [hE, hi]; rfl
   rw [sortedF, if_pos hz, hz, sortedT, ← hS]
   show AV.tup [.d (.agg [.sl (List.take t.cols.length (t.cols.map ColT.toD)), .sl (List.take t.rows.length (S.map rowD))]), _] = _
   rw [List.take_of_length_le (by simp), List.take_of_length_le (show (S.map rowD).length ≤ t.rows.length by simp [hsl])]; rfl
end YtadfcljoocjhdaaGreat
end Go.Proofs
