/- A part of the proof: contracts of functions of this seat, and lemmas. No condition beyond those stated. -/
import Derived.Test.YtmedpoeeoihfmaaGreatDoorH4
import Derived.Test.YtmedpoeeoihfmaaGreatDoorG4
import Derived.Test.YtmedpoeeoihfmaaGreatDoorH2
import Derived.Test.YtmedpoeeoihfmaaGreatDoorRows
import Derived.Test.YtmedpoeeoihfmaaGreatDoorCards
import Derived.Test.YtmedpoeeoihfmaaGreatDoorTie
import Derived.ProofKit
import Derived.LaidMore
import Derived.OpenShut
import Derived.Stop.Joined
import Derived.Stop.LaidErr
import Derived.SevenTiedAt
import Derived.MakeChecks
set_option linter.unusedVariables false
set_option linter.unusedSimpArgs false
set_option linter.unusedSectionVars false
set_option linter.unnecessarySimpa false
set_option maxRecDepth 100000
namespace Go.Proofs
open Go.AM
namespace YtmedpoeeoihfmaaGreatDoor
variable {Gl : Globs}
def ordP (x y : PartT) : Int := cmpS (absF y.value) (absF x.value)
theorem k_top1 (x y : PartT) (hx : x.value.In) (hy : y.value.In) : Pure Tryz.prog Gl 39 [.d x.toD, .d y.toD] (.d (.int .i64 (ordP x y))) := by
 refine Pure.of2 ?_
 refine acalls_of Tryz.func39 rfl rfl (by simp [Tryz.ntmps39]) (evC_sound rfl _ _ _ _ ?_)
 simp only [Tryz.ntmps39, Tryz.results39, argEnv, List.length_nil]
 simp only [zP, seval, Nat.reduceLeDiff, Nat.reduceEqDiff, reduceCtorEq, reduceIte, intD]
 repeat ((with_reducible refine And.intro ?_ ?_); (focus (first | omega | (simp only [lenR]; omega) | (refine qq ?_; rfl) | (refine dq ?_; kernel_rfl) | (intros; simp_all; done))))
 refine callF_pure (k_abs y.value) ?_
 simp only [zP, seval, Nat.reduceLeDiff, Nat.reduceEqDiff, reduceCtorEq, reduceIte, intD]
 repeat ((with_reducible refine And.intro ?_ ?_); (focus (first | omega | (simp only [lenR]; omega) | (refine qq ?_; rfl) | (refine dq ?_; kernel_rfl) | (intros; simp_all; done))))
 refine callF_pure (k_abs x.value) ?_
 simp only [zP, seval, Nat.reduceLeDiff, Nat.reduceEqDiff, reduceCtorEq, reduceIte, intD]
 repeat ((with_reducible refine And.intro ?_ ?_); (focus (first | omega | (simp only [lenR]; omega) | (refine qq ?_; rfl) | (refine dq ?_; kernel_rfl) | (intros; simp_all; done))))
 refine callF_pure (c22 (absF y.value) (absF x.value) (absF_in hy) (absF_in hx)) ?_
 simp only [zP, seval, Nat.reduceLeDiff, Nat.reduceEqDiff, reduceCtorEq, reduceIte, intD]
 repeat ((with_reducible refine And.intro ?_ ?_); (focus (first | omega | (simp only [lenR]; omega) | (refine qq ?_; rfl) | (refine dq ?_; kernel_rfl) | (intros; simp_all; done))))
 exact ⟨_, _, ret_d, rfl, rfl⟩
def DmP (d : D) : Prop := ∃ x : PartT, d = x.toD ∧ x.value.In
def unP (d : D) : FracT := match d with | .agg [_, _, .int _ n, .int _ q] => ⟨n, q⟩ | _ => ⟨0, 0⟩
def cmpP (a b : D) : Int := cmpS (absF (unP b)) (absF (unP a))
theorem swoP : Swo DmP (fun x y => decide (cmpP x y < 0)) := by
 have hb : ∀ a b, -1 ≤ cmpS a b ∧ cmpS a b ≤ 1 := fun a b => by rw [cmp_sgn]; exact sgn_bd _
 refine ⟨fun x _ => ?_, fun x y z _ _ _ h1 h2 => ?_, fun x y z _ _ _ h1 h2 => ?_⟩
 ·rw [cmpP, cmp_self]; rfl
 ·have h1 : cmpS (absF (unP y)) (absF (unP x)) < 0 := of_decide_eq_true h1
  have h2 : cmpS (absF (unP z)) (absF (unP y)) < 0 := of_decide_eq_true h2
  refine decide_eq_true (show cmpS (absF (unP z)) (absF (unP x)) < 0 from ?_)
  have f1 := cmp_flip (absF (unP y)) (absF (unP x))
  have f2 := cmp_flip (absF (unP z)) (absF (unP y))
  have f3 := cmp_flip (absF (unP z)) (absF (unP x))
  have t1 := cmp_trans (a := absF (unP z)) (b := absF (unP y)) (c := absF (unP x)) (by omega) (by omega)
  by_cases e : cmpS (absF (unP z)) (absF (unP x)) = 0
  ·exfalso
   have t2 := cmp_trans (a := absF (unP x)) (b := absF (unP z)) (c := absF (unP y)) (by omega) (by omega)
   omega
  ·omega
 ·have h1 : ¬ cmpS (absF (unP y)) (absF (unP x)) < 0 := of_decide_eq_false h1
  have h2 : ¬ cmpS (absF (unP z)) (absF (unP y)) < 0 := of_decide_eq_false h2
  refine decide_eq_false (show ¬ cmpS (absF (unP z)) (absF (unP x)) < 0 from ?_)
  have f1 := cmp_flip (absF (unP y)) (absF (unP x))
  have f2 := cmp_flip (absF (unP z)) (absF (unP y))
  have f3 := cmp_flip (absF (unP z)) (absF (unP x))
  have t1 := cmp_trans (a := absF (unP x)) (b := absF (unP y)) (c := absF (unP z)) (by omega) (by omega)
  omega
theorem cmpOkP : CmpOk Gl [] DmP cmpP 39 [] := by
 refine ⟨fun d hd => ?_, fun a b ha hb ys s hs => ?_, swoP⟩
 ·obtain ⟨x, rfl, _⟩ := hd
  exact ⟨rfl, rfl⟩
 ·obtain ⟨x, rfl, hx⟩ := ha
  obtain ⟨y, rfl, hy⟩ := hb
  exact k_top1 x y hx hy s
def topL (l : List PartT) : List PartT := sortF (fun x y => decide (ordP x y < 0)) l
theorem k_Clone (l : List PartT) (hl : l.length ≤ 100000) : ACalls Tryz.prog Gl 37 [.d (.sl (l.map PartT.toD))] [] (fun r s => r = .osl 0 0 l.length ∧ s = [.arr 4 (l.map PartT.toD)]) := by
 cases l with
 | nil =>
  refine acalls_of Tryz.func37 rfl rfl (by simp [Tryz.ntmps37]) (evC_sound rfl _ _ _ _ ?_)
  simp only [Tryz.ntmps37, Tryz.results37, argEnv, List.length_nil]
  simp only [zP, seval, Nat.reduceLeDiff, Nat.reduceEqDiff, reduceCtorEq, reduceIte, intD]
  refine ⟨⟨_, _, weakR_nils 4 (Nat.le_refl 0), rfl, rfl⟩, ?_⟩
  exact ⟨_, _, weakR_to [] [1] rfl (by simp) rfl rfl, rfl, rfl⟩
 | cons r rs =>
  simp only [List.map_cons, List.length_cons] at hl ⊢
  refine acalls_of Tryz.func37 rfl rfl (by simp [Tryz.ntmps37]) (evC_sound rfl _ _ _ _ ?_)
  simp only [Tryz.ntmps37, Tryz.results37, argEnv, List.length_nil]
  simp only [zP, seval, Nat.reduceLeDiff, Nat.reduceEqDiff, reduceCtorEq, reduceIte, intD]
  repeat ((with_reducible refine And.intro ?_ ?_); (focus (first | omega | (simp only [lenR]; omega) | (refine qq ?_; rfl) | (refine dq ?_; kernel_rfl) | (intros; simp_all; done))))
  exact ⟨_, _, weakR_to [] [1] rfl (by simp) rfl (by simp [renS, renB, blkAt, freezeL]; try rfl), rfl, rfl⟩
end YtmedpoeeoihfmaaGreatDoor
end Go.Proofs

set_option maxRecDepth 100000
namespace Go.Proofs
open Go.AM
namespace YtmedpoeeoihfmaaGreatDoor
theorem checkF_le {l : List NodeT} (h : checkF l = 0) (i : Nat) (hi : i < l.length) : NdV (l.getD i default) := by
 have hrf := (checkF_ok h).2.1
 have h2 : firstErr (fun k => nodeE (l.getD k default)) l.length = 0 := by
  unfold rangesF at hrf
  by_cases h3 : firstErr (fun k => nodeE (l.getD k default)) l.length = 0
  ·exact h3
  ·rw [if_neg h3] at hrf; exact absurd hrf h3
 obtain ⟨_, h3, h4, h5, h6, h7⟩ := nodeE_ok (firstErr_zero h2 i hi)
 exact ⟨⟨h5, h6, h3, h4⟩, h7⟩
theorem ndV_zero : NdV (⟨0, [], 0, 0, 0⟩ : NodeT) := ⟨⟨by decide, by decide, by decide, by decide⟩, fun _ => rfl⟩
theorem ndV_at {l : List NodeT} (h : checkF l = 0) (i : Int) (hi : i < l.length) : NdV (ndAt l i) := by
 unfold ndAt
 split
 ·exact ndV_zero
 ·exact checkF_le h i.toNat (by omega)
theorem nd_count {l : List NodeT} {i : Int} (hi : i < l.length) (h : 1 ≤ (ndAt l i).count) : ∃ x ∈ l, x.count = (ndAt l i).count := by
 unfold ndAt at h ⊢
 split at h
 ·simp only at h; omega
 ·rename_i h0
  rw [if_neg h0]
  exact ⟨_, mem_getD (by omega), rfl⟩
def inP (a b : List NodeT) (p : PairT) : Prop := -1 ≤ p.a ∧ p.a < a.length ∧ -1 ≤ p.b ∧ p.b < b.length ∧ (0 ≤ p.a ∨ 0 ≤ p.b)
theorem pairs_in {a b : List NodeT} (hm : Mut a.length b.length (finS a b)) : ∀ p ∈ pairsOf a b, inP a b p := by
 intro p hp
 rw [pairsOf] at hp
 rcases List.mem_append.1 hp with hp | hp
 ·obtain ⟨i, hi, rfl⟩ := List.mem_map.1 hp
  have hi := List.mem_range.1 hi
  have hr := hm.rb i
  exact ⟨by simp only; omega, by simp only; omega, hr.1, hr.2, .inl (by simp only; omega)⟩
 ·obtain ⟨k, hk, rfl⟩ := List.mem_map.1 hp
  have hk := List.mem_range.1 (List.mem_filter.1 hk).1
  exact ⟨by simp only; omega, by simp only; omega, by simp only; omega, by simp only; omega, .inr (by simp only; omega)⟩
theorem cont_ok {a b : List NodeT} (hca : checkF a = 0) (hcb : checkF b = 0) {l : List PairT} (hl : ∀ p ∈ l, inP a b p) : ∀ v ∈ contL a b l, okF v.value = true ∧ (∃ p ∈ l, v.path = pthP a b p) ∧ (v.value.q.natAbs ∣ 1 ∨ ∃ x ∈ a, 1 ≤ x.count ∧ v.value.q.natAbs ∣ x.count.natAbs) := by
 intro v hv
 obtain ⟨p, hp, hv⟩ := List.mem_flatMap.1 hv
 obtain ⟨_, h2, _, h4, _⟩ := hl p hp
 obtain ⟨g1, g2, g3⟩ := parts_ok (ndV_at hca p.a h2) (ndV_at hcb p.b h4) (pthP a b p) v hv
 refine ⟨g1, ⟨p, hp, g2⟩, ?_⟩
 rcases g3 with g3 | ⟨g3, g4⟩
 ·exact .inl g3
 ·obtain ⟨x, hx, e⟩ := nd_count h2 g3
  exact .inr ⟨x, hx, by omega, by rw [e]; exact g4⟩
theorem parts_len (x y : NodeT) (path : List (List UInt8)) : (partsF x y path).length ≤ 2 := by
 unfold partsF
 split
 ·exact Nat.le_refl _
 ·rw [List.length_append]
  split <;> split <;> simp
theorem cont_len (a b : List NodeT) (l : List PairT) : (contL a b l).length ≤ 2 * l.length := by
 induction l with
 | nil => exact Nat.le_refl _
 | cons p l ih =>
  rw [contL, List.flatMap_cons, List.length_append, List.length_cons]
  have := parts_len (ndAt a p.a) (ndAt b p.b) (pthP a b p)
  rw [contL] at ih
  unfold contP at ih ⊢
  omega
theorem pairs_le {a b : List NodeT} : (pairsOf a b).length ≤ a.length + b.length := by
 rw [pairsOf, List.length_append, pairsA_len]
 have := pairsB_len (finS a b) b.length
 omega
def sRest : List UInt8 := [114, 101, 115, 116]
def valL (l : List PartT) : List FracT := l.map PartT.value
def topF (l : List PartT) (n : Int) : List PartT × Int :=
 if n < 0 then ([], 2) else if (sumL (valL l)).2 = false then ([], 1) else if (l.length : Int) ≤ n then (topL l, 0)
 else if (sumL (valL ((topL l).drop n.toNat))).2 = false then ([], 1) else ((topL l).take n.toNat ++ [⟨[], sRest, (sumL (valL ((topL l).drop n.toNat))).1⟩], 0)
theorem putF_perm {α : Type} [Inhabited α] (lt : α → α → Bool) (l : List α) (b : α) : (putF lt l b).Perm (b :: l) := by
 have h : (putF lt l b).Perm (b :: (l.take (putAt lt l b l.length) ++ l.drop (putAt lt l b l.length))) := List.perm_middle
 rwa [List.take_append_drop] at h
theorem sortF_perm {α : Type} [Inhabited α] (lt : α → α → Bool) (l : List α) : (sortF lt l).Perm l := by
 have gen : ∀ (l acc : List α), (l.foldl (putF lt) acc).Perm (acc ++ l) := by
  intro l
  induction l with
  | nil => intro acc; rw [List.append_nil]; exact List.Perm.refl _
  | cons x l ih =>
   intro acc
   refine (ih (putF lt acc x)).trans ?_
   refine ((putF_perm lt acc x).append_right l).trans ?_
   rw [List.cons_append]
   exact List.perm_middle.symm
 exact gen l []
theorem topL_len (l : List PartT) : (topL l).length = l.length := sortF_length _ _
theorem topL_mem {l : List PartT} {x : PartT} : x ∈ topL l ↔ x ∈ l := (sortF_perm _ _).mem_iff
theorem parts_same (x : NodeT) (hx : NdV x) (path : List (List UInt8)) : (partsF x x path).filter keepP = [] := by
 rw [List.filter_eq_nil_iff]
 intro v hv
 have hz : ∀ (c : List UInt8) (d : Int), 0 < d → (mkP path c 0 d).value.n = 0 := fun c d hd => by
  show (ofS 0 d).1.n = 0
  unfold ofS
  rw [if_neg (by omega), normS_made]
  unfold madeP
  split
  ·simp
  ·rfl
 obtain ⟨⟨x1, x2, x3, x4⟩, x5⟩ := hx
 unfold partsF at hv
 by_cases h : 0 < x.count
 ·rw [if_pos ⟨h, h⟩] at hv
  have e1 : (x.count - x.count) * x.self = 0 := by rw [Int.sub_self, Int.zero_mul]
  have e2 : x.self * x.count - x.count * x.self = 0 := by rw [Int.mul_comm]; omega
  rw [e1, e2] at hv
  rcases List.mem_cons.1 hv with rfl | hv
  ·simp [keepP, hz sCount x.count h]
  ·obtain rfl := List.mem_singleton.1 hv
   simp [keepP, hz sMean x.count h]
 ·rw [if_neg (fun g => h g.1), if_neg h, if_neg h] at hv
  cases hv
def newL (a : List NodeT) : List PartT := (((List.range a.length).filter fun i => decide (0 < ct a i) && (sf a i != 0))).map fun i => ⟨pathN a i, sNew, ⟨sf a i, 1⟩⟩
def goneL (a : List NodeT) : List PartT := (((List.range a.length).filter fun i => decide (0 < ct a i) && (sf a i != 0))).map fun i => ⟨pathN a i, sGone, ⟨-sf a i, 1⟩⟩
def findV (l : List NodeT) (j : Int) : Int := if 0 ≤ j then tt l j.toNat else 0
def FindOk (l : List NodeT) (y : List (List UInt8)) (j : Int) : Prop := (j < 0 ∧ ∀ k, k < l.length → pathN l k ≠ y) ∨ ∃ k : Nat, j = k ∧ k < l.length ∧ pathN l k = y
end YtmedpoeeoihfmaaGreatDoor
end Go.Proofs

set_option maxRecDepth 100000
namespace Go.Proofs
open Go.AM
namespace YtmedpoeeoihfmaaGreatDoor
variable {Gl : Globs}
theorem k_CloneF (l : List PartT) (hl : l.length ≤ 100000) : Fresh Tryz.prog Gl 37 [.d (.sl (l.map PartT.toD))] 4 (l.map PartT.toD) := by
 refine Fresh.of (args := [.sl (l.map PartT.toD)]) ?_
 rw [List.length_map]
 exact k_Clone l hl
theorem ltP_eq : (fun x y => decide (cmpP (PartT.toD x) (PartT.toD y) < 0)) = fun x y => decide (ordP x y < 0) := by
 funext x y; rfl
theorem topF_in {l : List PartT} (h : ∀ x ∈ l, x.value.In) : ∀ x ∈ topL l, x.value.In := fun x hx => h x (topL_mem.1 hx)
theorem sumL_in (l : List FracT) : (sumL l).1.In := by
 unfold sumL
 split
 ·exact ⟨by decide, by decide, by decide, by decide⟩
 ·split
  ·exact ⟨by decide, by decide, by decide, by decide⟩
  ·exact normS_in _ _ _
theorem k_ESumA (xs : List PartT) (m K : Nat) (hmk : m + K = xs.length) (hin : ∀ x ∈ xs, x.value.In) (hl : xs.length ≤ 100000) : ACalls Tryz.prog Gl 12 [.osl 0 m K] [.arr 4 (xs.map PartT.toD)]
  (fun r s => r = .tup [.d (sumL (valL (xs.drop m))).1.toD, .d (.bool (sumL (valL (xs.drop m))).2)] ∧ s = [.arr 4 (xs.map PartT.toD)]) := by
 refine acalls_of Tryz.func12 rfl rfl (by simp [Tryz.ntmps12]) (evC_sound rfl _ _ _ _ ?_)
 simp only [Tryz.ntmps12, Tryz.results12, argEnv, List.length_nil]
 simp only [zP, seval, Nat.reduceLeDiff, Nat.reduceEqDiff, reduceCtorEq, reduceIte, intD]
 repeat ((with_reducible refine And.intro ?_ ?_); (focus (first | omega | (simp only [lenR]; omega) | (refine qq ?_; rfl) | (refine dq ?_; kernel_rfl) | (intros; simp_all; done))))
 obtain ⟨l, hld⟩ : ∃ l, l = xs.drop m := ⟨_, rfl⟩
 have hlK : l.length = K := by rw [hld, List.length_drop]; omega
 rw [← hld]
 refine for_of K (fun k => [(2, .ptr 1 0), (4, .osl 2 0 k), (7, .osl 0 m K), (8, .d (.int .i64 K)), (9, .d (.int .i64 k))]) (fun k => [.arr 4 (xs.map PartT.toD), .box 2 (.d (.agg [.int .i64 0, .int .i64 0])), .arr 2 ((l.take k).map fun x => x.value.toD)]) (fun _ => True) trivial ?_ ?_
 ·refine (weak_nils 4 2 rfl).trans ?_
  refine weak_to [] [0, 1, 2] rfl (by simp) ?_ rfl
  simp only [zP, seval, Nat.reduceLeDiff, Nat.reduceEqDiff, reduceCtorEq, reduceIte, intD, Int.cast_ofNat_Int]
  try rfl
 ·intro k _ hk
  by_cases h : k < K
  ·obtain ⟨x, hx⟩ : ∃ x, x = l.getD k default := ⟨_, rfl⟩
   have eg : (xs.map PartT.toD).getD (m + k) default = x.toD := by
    rw [a_getD _ _ _ (show m + k < xs.length by omega), hx, hld]
    simp [List.getD_eq_getElem?_getD]
   have hst : (l.take (k + 1)).map (fun x => x.value.toD) = (l.take k).map (fun x => x.value.toD) ++ [x.value.toD] := by rw [take_step l k (by omega), List.map_append, ← hx]; rfl
   have htl : ((l.take k).map fun x => x.value.toD).length = k := by rw [List.length_map, List.length_take]; omega
   have htk : List.take k ((l.take k).map fun x => x.value.toD) = (l.take k).map fun x => x.value.toD := List.take_of_length_le (by omega)
   simp only [zP, seval, Nat.reduceLeDiff, Nat.reduceEqDiff, reduceCtorEq, reduceIte, intD, (show (k:Int) < K by omega), h, eg, htk, (show m + k < xs.length by omega)]
   repeat ((with_reducible refine And.intro ?_ ?_); (focus (first | omega | (simp only [lenR]; omega) | (refine qq ?_; rfl) | (refine dq ?_; kernel_rfl) | (intros; simp_all; done))))
   rw [hst]
   refine weak_to [] [0, 1, 5] rfl (by simp) ?_ rfl
   simp only [zP, seval, Nat.reduceLeDiff, Nat.reduceEqDiff, reduceCtorEq, reduceIte, intD, @a_wrap ((k:Int) + 1) (by omega)]
   try rfl
  ·have : k = K := by omega
   subst this
   have e1 : List.take k (List.map (fun x : PartT => x.value.toD) (l.take k)) = (valL l).map FracT.toD := by
    rw [List.take_of_length_le (show l.length ≤ k by omega), List.take_of_length_le (by simp; omega), valL, List.map_map]; rfl
   simp only [zP, seval, Nat.reduceLeDiff, Nat.reduceEqDiff, reduceCtorEq, reduceIte, intD, (show ¬ (k:Int) < k by omega)]
   repeat ((with_reducible refine And.intro ?_ ?_); (focus (first | omega | (simp only [lenR]; omega) | (refine qq ?_; rfl) | (refine dq ?_; kernel_rfl) | (intros; simp_all; done))))
   refine callF_dataE (as' := [.d (.sl ((valL l).map FracT.toD))]) (σ' := [.arr 4 (xs.map PartT.toD), .box 2 (.d (.agg [.int .i64 0, .int .i64 0])), .frz 2 ((l.take k).map fun x => x.value.toD)]) (c18 (valL l) (fun a ha => by
    obtain ⟨x, hx, rfl⟩ := List.mem_map.1 ha
    rw [hld] at hx
    exact hin x (List.mem_of_mem_drop hx))) ?_ rfl ?_
   ·show [AV.d (D.sl (List.take k (List.map (fun x : PartT => x.value.toD) (l.take k))))] = _
    rw [e1]
   simp only [zP, seval, Nat.reduceLeDiff, Nat.reduceEqDiff, reduceCtorEq, reduceIte, intD, resD]
   repeat ((with_reducible refine And.intro ?_ ?_); (focus (first | omega | (simp only [lenR]; omega) | (refine qq ?_; rfl) | (refine dq ?_; kernel_rfl) | (intros; simp_all; done))))
   exact ⟨_, _, weakR_to [] [0] rfl (by simp) (show renV _ _ _ = AV.tup _ from rfl) rfl, rfl, rfl⟩
def topD (l : List PartT) (n : Int) : AV := .tup [.d (.sl ((topF l n).1.map PartT.toD)), .d (.int .i64 (topF l n).2)]
theorem k_Top (l : List PartT) (n : Int) (hin : ∀ x ∈ l, x.value.In) (hl : l.length ≤ 10000) : Pure Tryz.prog Gl 16 [.d (.sl (l.map PartT.toD)), .d (.int .i64 n)] (topD l n) := by
 refine Pure.of2t2 ?_
 refine acalls_of Tryz.func16 rfl rfl (by simp [Tryz.ntmps16]) (evC_sound rfl _ _ _ _ ?_)
 simp only [Tryz.ntmps16, Tryz.results16, argEnv, List.length_nil]
 simp only [zP, seval, Nat.reduceLeDiff, Nat.reduceEqDiff, reduceCtorEq, reduceIte, intD]
 repeat ((with_reducible refine And.intro ?_ ?_); (focus (first | omega | (simp only [lenR]; omega) | (refine qq ?_; rfl) | (refine dq ?_; kernel_rfl) | (intros; simp_all; done))))
 refine ifC.mk (fun h1 => ?_) (fun h1 => ?_)
 ·have h1 : n < 0 := of_decide_eq_true h1
  refine ⟨_, _, ret_tdata rfl (x := .sl ((topF l n).1.map PartT.toD)) ?_, ?_, rfl⟩
  ·rw [topF, if_pos h1]; rfl
  ·rw [topF, if_pos h1]
 have h1 : ¬ n < 0 := of_decide_eq_false h1
 repeat ((with_reducible refine And.intro ?_ ?_); (focus (first | omega | (simp only [lenR]; omega) | (refine qq ?_; rfl) | (refine dq ?_; kernel_rfl) | (intros; simp_all; done))))
 refine callF_pure (k_ESum l hin (by omega)) ?_
 simp only [zP, seval, Nat.reduceLeDiff, Nat.reduceEqDiff, reduceCtorEq, reduceIte, intD, resD]
 repeat ((with_reducible refine And.intro ?_ ?_); (focus (first | omega | (simp only [lenR]; omega) | (refine qq ?_; rfl) | (refine dq ?_; kernel_rfl) | (intros; simp_all; done))))
 refine ifC.mk (fun h2 => ?_) (fun h2 => ?_)
 ·have h2 : (sumL (valL l)).2 = false := by simpa [valL] using h2
  refine ⟨_, _, ret_tdata rfl (x := .sl ((topF l n).1.map PartT.toD)) ?_, ?_, rfl⟩
  ·rw [topF, if_neg h1, if_pos h2]; rfl
  ·rw [topF, if_neg h1, if_pos h2]
 have h2 : ¬ (sumL (valL l)).2 = false := by simpa [valL] using h2
 repeat ((with_reducible refine And.intro ?_ ?_); (focus (first | omega | (simp only [lenR]; omega) | (refine qq ?_; rfl) | (refine dq ?_; kernel_rfl) | (intros; simp_all; done))))
 refine callF_go ((k_CloneF l (by omega) _).mono fun r s hrs => ?_)
 obtain ⟨rfl, rfl⟩ := hrs
 simp only [zP, seval, Nat.reduceLeDiff, Nat.reduceEqDiff, reduceCtorEq, reduceIte, intD, List.length_map]
 generalize (sumL (List.map PartT.value l)).1 = W0
 have hx : ∀ y ∈ l.map PartT.toD, DmP y := fun y hy => by
  obtain ⟨x, hx, rfl⟩ := List.mem_map.1 hy
  exact ⟨x, rfl, hin x hx⟩
 have hsort := sortStable_spec (Gl := Gl) (τ := []) DmP cmpP 39 [] cmpOkP (l.map PartT.toD) hx l.length (by simp) (by omega)
 refine callF_go ((ACalls.under [1] (by decide) (by simp) hsort).mono fun r s hss => ?_)
 obtain ⟨r0, s0, ⟨rfl, zs, ρ, rfl, hA, hB, hid⟩, rfl, rfl⟩ := hss
 have e := stabled_sortF swoP hx (by simp) hA hB hid
 rw [take_all, sortF_map, ltP_eq, List.drop_of_length_le (by simp), List.append_nil] at e
 have e : (topL l).map PartT.toD = zs := e.symm
 subst e
 have hsl := topL_len l
 have hti := topF_in hin
 have htp : topF l n = if (l.length : Int) ≤ n then (topL l, 0) else if (sumL (valL ((topL l).drop n.toNat))).2 = false then ([], 1) else ((topL l).take n.toNat ++ [⟨[], sRest, (sumL (valL ((topL l).drop n.toNat))).1⟩], 0) := by
  rw [topF, if_neg h1, if_neg h2]
 obtain ⟨S, hS⟩ : ∃ S, S = topL l := ⟨_, rfl⟩
 rw [← hS] at hsl hti htp ⊢
 have hb2 : backS [1] [Blk.box 2 (AV.d W0.toD), Blk.arr 4 (List.map PartT.toD l)] [Blk.arr 4 (S.map PartT.toD)] = [Blk.box 2 (AV.d W0.toD), Blk.arr 4 (S.map PartT.toD)] := rfl
 rw [hb2]
 simp only [zP, seval, Nat.reduceLeDiff, Nat.reduceEqDiff, reduceCtorEq, reduceIte, intD, ← hsl]
 refine ifC.mk (fun h3 => ?_) (fun h3 => ?_)
 ·have h3 : (S.length : Int) ≤ n := of_decide_eq_true h3
  rw [htp, if_pos (by omega)]
  refine ⟨_, _, ret_tdata rfl (x := .sl (S.map PartT.toD)) ?_, rfl, rfl⟩
  show D.sl (List.take S.length (S.map PartT.toD)) = _
  rw [take_all]
 have h3 : ¬ (S.length : Int) ≤ n := of_decide_eq_false h3
 rw [if_neg (by omega)] at htp
 obtain ⟨m, rfl⟩ : ∃ m : Nat, n = m := ⟨n.toNat, by omega⟩
 rw [Int.toNat_natCast] at htp
 refine ⟨⟨by omega, by omega, by omega⟩, ?_⟩
 rw [Int.toNat_natCast]
 refine callF_go ((ACalls.under [1] (by decide) (by simp) (k_ESumA (Gl := Gl) S m (S.length - m) (by omega) hti (by omega))).mono fun r s hss => ?_)
 obtain ⟨r0, s0, ⟨rfl, rfl⟩, rfl, rfl⟩ := hss
 have hb3 : backS [1] [Blk.box 2 (AV.d W0.toD), Blk.arr 4 (List.map PartT.toD S)] [Blk.arr 4 (S.map PartT.toD)] = [Blk.box 2 (AV.d W0.toD), Blk.arr 4 (S.map PartT.toD)] := rfl
 rw [hb3, back_t2]
 have hvin := sumL_in (valL (S.drop m))
 generalize sumL (valL (S.drop m)) = V at htp hvin ⊢
 simp only [zP, seval, Nat.reduceLeDiff, Nat.reduceEqDiff, reduceCtorEq, reduceIte, intD]
 repeat ((with_reducible refine And.intro ?_ ?_); (focus (first | omega | (simp only [lenR]; omega) | (refine qq ?_; rfl) | (refine dq ?_; kernel_rfl) | (intros; simp_all; done))))
 refine ifC.mk (fun h4 => ?_) (fun h4 => ?_)
 ·have h4 : V.2 = false := by simpa using h4
  rw [htp, if_pos h4]
  exact ⟨_, _, ret_tdata rfl (x := .sl []) rfl, rfl, rfl⟩
 have h4 : ¬ V.2 = false := by simpa using h4
 rw [htp, if_neg h4]
 refine And.intro (.inl (by kernel_rfl)) ?_
 refine And.intro ⟨Int.le_refl _, by omega⟩ ?_
 refine And.intro ⟨by omega, by omega⟩ ?_
 rw [Nat.sub_zero]
 refine ⟨_, _, ret_tdata rfl (x := .sl ((S.take m ++ [(⟨[], sRest, V.1⟩ : PartT)]).map PartT.toD)) ?_, rfl, rfl⟩
 show D.sl (List.take (m + 1) (List.take m (S.map PartT.toD) ++ [D.agg [D.sl [], D.str [114, 101, 115, 116], D.int IntKind.i64 V.1.n, D.int IntKind.i64 V.1.q]])) = _
 rw [← List.map_take, List.take_of_length_le (by simp; omega), List.map_append]
 rfl

def rowAt (l : List NodeT) (k q : Nat) : AV := if q < k then .d (.sl ((pathN l q).map .str)) else .nils
def rowsC (l : List NodeT) (k : Nat) : List AV := (List.range l.length).map (rowAt l k)
theorem rowsC_len (l : List NodeT) (k : Nat) : (rowsC l k).length = l.length := by simp [rowsC]
theorem rowsC_get (l : List NodeT) (k : Nat) {q : Nat} (h : q < l.length) : (rowsC l k).getD q .undef = rowAt l k q := by simp [rowsC, h]
theorem rowsC_one (l : List NodeT) (k : Nat) : ∀ c ∈ rowsC l k, c.one = true := by
 intro c hc
 obtain ⟨q, _, rfl⟩ := List.mem_map.1 hc
 unfold rowAt; split <;> rfl
theorem rowsC_set_one (l : List NodeT) (k j : Nat) {u : AV} (hu : u.one = true) : ∀ c ∈ (rowsC l k).set j u, c.one = true := by
 intro c hc
 rcases List.mem_or_eq_of_mem_set hc with h | h
 ·exact rowsC_one l k c h
 ·rw [h]; exact hu
theorem rowsC_set2 (l : List NodeT) (k : Nat) (u v : AV) : ((rowsC l k).set k u).set k v = (rowsC l k).set k v := List.set_set ..
theorem rowsC_step (l : List NodeT) {k : Nat} (h : k < l.length) : (rowsC l k).set k (.d (.sl ((pathN l k).map .str))) = rowsC l (k + 1) := by
 apply List.ext_getElem
 ·simp [rowsC]
 ·intro q h1 h2
  have hq : q < l.length := by simpa [rowsC] using h2
  rw [List.getElem_set]
  simp only [rowsC, List.getElem_map, List.getElem_range]
  unfold rowAt
  by_cases e : k = q
  ·subst e; rw [if_pos rfl, if_pos (by omega)]
  ·rw [if_neg e]
   by_cases e2 : q < k
   ·rw [if_pos e2, if_pos (by omega)]
   ·rw [if_neg e2, if_neg (by omega)]
theorem rowsC_ren (l : List NodeT) (k : Nat) (ρ : List Nat) (σ : Sto) : (rowsC l k).map (ren0 ρ σ) = rowsC l k := by
 unfold rowsC
 rw [List.map_map]
 refine List.map_congr_left fun q _ => ?_
 show ren0 ρ σ (rowAt l k q) = rowAt l k q
 unfold rowAt; split <;> rfl
theorem rowsC_end (l : List NodeT) : rowsC l l.length = ((List.range l.length).map fun q => D.sl ((pathN l q).map .str)).map AV.d := by
 unfold rowsC
 rw [List.map_map]
 refine List.map_congr_left fun q hq => ?_
 unfold rowAt
 rw [if_pos (List.mem_range.1 hq)]; rfl
theorem rowsC_zero (l : List NodeT) : (List.replicate l.length (D.raw (.slice none 0 0))).map rslC = rowsC l 0 := by
 apply List.ext_getElem
 ·simp [rowsC]
 ·intro q h1 h2
  simp [rowsC, rowAt, rslC]
theorem rows_close (l : List NodeT) {k : Nat} (h : k < l.length) {σ : Sto} {i n : Nat} (e : ren0 [0] σ (.osl i 0 n) = .d (.sl ((pathN l k).map .str))) :
  renB [0] σ (.box l.length (cellsV ((rowsC l k).set k (.osl i 0 n)))) = .box l.length (cellsV (rowsC l (k + 1))) := by
 have hm : ((rowsC l k).set k (.osl i 0 n)).map (ren0 [0] σ) = rowsC l (k + 1) := by rw [List.map_set, rowsC_ren, e, rowsC_step l h]
 rw [renB_cells (fun c hc => by
  have h1 := List.mem_map_of_mem (f := ren0 [0] σ) hc
  rw [hm] at h1
  exact rowsC_one l (k + 1) _ h1), hm]
theorem mk_rows (m : Nat) (hm : m ≤ 100000) : mkOk Tryz.prog 47 (.d (.int .i64 (m : Int))) (.d (.int .i64 (m : Int))) := by
 refine (show _ ∧ _ ∧ _ ∧ (0 : Int) ≤ m ∧ (m : Int) ≤ m ∧ ((24 : Nat) : Int) * (m : Int) ≤ 281474976710656 ∧ (m : Int) ≤ _ from ⟨rfl, rfl, rfl, ?_, ?_, ?_, ?_⟩) <;> omega
theorem mkS_rows (σ : Sto) (m : Nat) : mkS Tryz.prog σ 47 (.d (.int .i64 (m : Int))) = σ ++ [.arr 1 (List.replicate m (.raw (.slice none 0 0)))] := rfl
theorem k_paths (l : List NodeT) (hl : l.length ≤ 100) (ht : TreeUp l l.length) : Pure Tryz.prog Gl 21 [.d (.sl (l.map NodeT.toD))] (.d (.sl ((List.range l.length).map fun q => .sl ((pathN l q).map .str)))) := by
 refine Pure.of1 ?_
 refine acalls_of Tryz.func21 rfl rfl (by simp [Tryz.ntmps21]) (evC_sound rfl _ _ _ _ ?_)
 simp only [Tryz.ntmps21, Tryz.results21, argEnv, List.length_nil]
 simp only [zN, seval, Nat.reduceLeDiff, Nat.reduceEqDiff, reduceCtorEq, reduceIte, intD, pRules]
 refine ⟨mk_rows l.length (by omega), ?_⟩
 rw [mkS_rows, List.nil_append]
 by_cases h0 : l.length = 0
 ·have : l = [] := List.eq_nil_of_length_eq_zero h0
  subst this
  refine for_of 0 (fun k => [(0, .d (.sl [])), (3, .osl 0 0 0), (9, .d (.sl [])), (10, .d (.int .i64 0)), (11, .d (.int .i64 k))]) (fun _ => [.arr 1 []]) (fun _ => True) trivial ?_ ?_
  ·refine weak_to [] [0] rfl (by simp) ?_ rfl
   simp only [zN, seval, Nat.reduceLeDiff, Nat.reduceEqDiff, reduceCtorEq, reduceIte, intD, pRules]
   try rfl
  ·intro k _ hk
   have : k = 0 := by omega
   subst this
   simp only [zN, seval, Nat.reduceLeDiff, Nat.reduceEqDiff, reduceCtorEq, reduceIte, intD, pRules]
   exact ⟨_, _, ret_data rfl (x := .sl []) rfl, rfl, rfl⟩
 refine for_of l.length (fun k => [(0, .d (.sl (l.map NodeT.toD))), (3, .rsl 0 l.length), (9, .d (.sl (l.map NodeT.toD))), (10, .d (.int .i64 l.length)), (11, .d (.int .i64 k))]) (fun k => [.box l.length (cellsV (rowsC l k))]) (fun _ => True) trivial ?_ ?_
 ·refine (weak_cells 3 0 (xs := List.replicate l.length (.raw (.slice none 0 0))) (Nat.zero_le _) rfl ?_ (by simp; omega) ?_).trans ?_
  ·simp only [List.length_replicate, getE]; rfl
  ·intro x hx
   rw [(List.mem_replicate.1 hx).2]; rfl
  ·rw [rowsC_zero, List.length_replicate]
   refine weak_to [] [1] rfl (by simp) ?_ ?_
   ·simp only [zN, seval, Nat.reduceLeDiff, Nat.reduceEqDiff, reduceCtorEq, reduceIte, intD, pRules, Int.cast_ofNat_Int]
    try rfl
   ·show [renB _ _ (Blk.box l.length (cellsV (rowsC l 0)))] = _
    rw [renB_cells (by
     intro c hc
     have e := rowsC_ren l 0 [1] (freezeL ([Blk.arr 1 (List.replicate l.length (D.raw (Value.slice none 0 0)))].set 0 Blk.dead ++ [Blk.box l.length (cellsV (rowsC l 0))]) [])
     have h1 := List.mem_map_of_mem (f := ren0 [1] (freezeL ([Blk.arr 1 (List.replicate l.length (D.raw (Value.slice none 0 0)))].set 0 Blk.dead ++ [Blk.box l.length (cellsV (rowsC l 0))]) [])) hc
     rw [e] at h1
     exact rowsC_one l 0 _ h1), rowsC_ren]
 ·intro k _ hk
  by_cases h : k < l.length
  ·have tp := tree_par ht h
   obtain ⟨x, hx⟩ : ∃ x, x = l.getD k default := ⟨_, rfl⟩
   have eg : (l.map NodeT.toD).getD k default = x.toD := by rw [a_getD _ _ _ h, ← hx]
   have en : nm l k = x.name := by rw [hx]; rfl
   have ep : par l k = x.parent := by rw [hx]; rfl
   rw [ep] at tp
   simp only [zN, seval, Nat.reduceLeDiff, Nat.reduceEqDiff, reduceCtorEq, reduceIte, intD, pRules, (show (k:Int) < l.length by omega), h, eg]
   repeat ((with_reducible refine And.intro ?_ ?_); (focus (first | omega | (simp only [lenR]; omega) | (refine qq ?_; rfl) | (refine dq ?_; kernel_rfl) | (intros; simp_all; done))))
   refine ifC.mk (fun hc => ?_) (fun hc => ?_)
   ·have hc : 0 ≤ x.parent := of_decide_eq_true hc
    obtain ⟨p, hp⟩ : ∃ p : Nat, x.parent = p := ⟨x.parent.toNat, by omega⟩
    have hpk : p < k := by omega
    have hpl : p < l.length := by omega
    have pk := cells_ifV (rowsC_len l k) h (rowsC_one l k)
    have pp := cells_ifV (rowsC_len l k) hpl (rowsC_one l k)
    rw [rowsC_get l k h, rowAt, if_neg (Nat.lt_irrefl k)] at pk
    rw [rowsC_get l k hpl, rowAt, if_pos hpk] at pp
    have qk := eq_true (cells_ifOk (rowsC_len l k) h (rowsC_one l k))
    have qp := eq_true (cells_ifOk (rowsC_len l k) hpl (rowsC_one l k))
    have gk := cells_ifPut (u := .osl 2 0 (pathN l p).length) (rowsC_len l k) h (rowsC_one l k) rfl
    rw [r_mkAgg_d] at gk
    simp only [zN, seval, Nat.reduceLeDiff, Nat.reduceEqDiff, reduceCtorEq, reduceIte, intD, pRules, hp, (show (k:Int) < l.length by omega), (show (p:Int) < l.length by omega), pk, pp, qk, qp, gk, (show k + 1 ≤ l.length by omega), (show p + 1 ≤ l.length by omega)]
    refine ⟨.inl (by kernel_rfl), ?_⟩
    refine ⟨⟨by have := pathN_len l p; omega, by have := pathN_len l p; omega⟩, ?_⟩
    have hpl2 := pathN_len l p
    have on2 := rowsC_set_one l k k (u := .osl 2 0 (pathN l p).length) rfl
    have len2 : ((rowsC l k).set k (.osl 2 0 (pathN l p).length)).length = l.length := by rw [List.length_set, rowsC_len]
    have pk2 := cells_ifV len2 h on2
    have get2 : ((rowsC l k).set k (.osl 2 0 (pathN l p).length)).getD k .undef = .osl 2 0 (pathN l p).length := by
     have : k < (rowsC l k).length := by rw [rowsC_len]; exact h
     simp [this]
    rw [get2] at pk2
    have qk2 := eq_true (cells_ifOk len2 h on2)
    have gk2 := cells_ifPut (u := .osl 4 0 ((pathN l p).length + 1)) len2 h on2 rfl
    rw [r_mkAgg_d, rowsC_set2] at gk2
    simp only [zN, seval, Nat.reduceLeDiff, Nat.reduceEqDiff, reduceCtorEq, reduceIte, intD, pRules, (show (k:Int) < l.length by omega), (show k + 1 ≤ l.length by omega), pk2, qk2, gk2]
    refine ⟨.inl (by kernel_rfl), ?_⟩
    refine ⟨⟨by omega, by omega⟩, ?_⟩
    have e1 : pathN l k = pathN l p ++ [x.name] := by rw [pathN_kid ht h, ep, hp, pathI_nat, en]
    refine weak_to [4] [0] rfl (by simp) ?_ ?_
    ·simp only [zN, seval, Nat.reduceLeDiff, Nat.reduceEqDiff, reduceCtorEq, reduceIte, intD, pRules, @a_wrap ((k:Int) + 1) (by omega)]
     try rfl
    ·show [renB [0] _ (Blk.box l.length (cellsV ((rowsC l k).set k (.osl 4 0 ((pathN l p).length + 1)))))] = _
     rw [rows_close l h]
     show AV.d (D.sl (((List.take (pathN l p).length (List.map D.str (pathN l p)) ++ [D.str x.name]).drop 0).take ((pathN l p).length + 1))) = _
     rw [List.drop_zero, take_all, e1, List.take_of_length_le (by simp), List.map_append]
     rfl
   ·have hc : ¬ 0 ≤ x.parent := of_decide_eq_false hc
    have pk := cells_ifV (rowsC_len l k) h (rowsC_one l k)
    rw [rowsC_get l k h, rowAt, if_neg (Nat.lt_irrefl k)] at pk
    have qk := eq_true (cells_ifOk (rowsC_len l k) h (rowsC_one l k))
    have gk := cells_ifPut (u := .osl 3 0 1) (rowsC_len l k) h (rowsC_one l k) rfl
    rw [r_mkAgg_d] at gk
    simp only [zN, seval, Nat.reduceLeDiff, Nat.reduceEqDiff, reduceCtorEq, reduceIte, intD, pRules, (show (k:Int) < l.length by omega), pk, qk, gk, (show k + 1 ≤ l.length by omega)]
    refine ⟨.inl (by kernel_rfl), ?_⟩
    have e1 : pathN l k = [x.name] := by rw [pathN_kid ht h, ep, pathI_neg l (by omega), en]; rfl
    refine weak_to [3] [0] rfl (by simp) ?_ ?_
    ·simp only [zN, seval, Nat.reduceLeDiff, Nat.reduceEqDiff, reduceCtorEq, reduceIte, intD, pRules, @a_wrap ((k:Int) + 1) (by omega)]
     try rfl
    ·show [renB [0] _ (Blk.box l.length (cellsV ((rowsC l k).set k (.osl 3 0 1))))] = _
     rw [rows_close l h]
     show AV.d (D.sl [D.str x.name]) = _
     rw [e1]
     rfl
  ·have : k = l.length := by omega
   subst this
   simp only [zN, seval, Nat.reduceLeDiff, Nat.reduceEqDiff, reduceCtorEq, reduceIte, intD, pRules, (show ¬ (l.length:Int) < l.length by omega)]
   rw [rowsC_end]
   obtain ⟨ds, hds⟩ : ∃ ds, ds = (List.range l.length).map fun q => D.sl ((pathN l q).map .str) := ⟨_, rfl⟩
   have hdl : ds.length = l.length := by rw [hds]; simp
   have hone : ∀ x ∈ ds, x.isAgg = false := fun x hx => by
    rw [hds] at hx
    obtain ⟨q, _, rfl⟩ := List.mem_map.1 hx
    rfl
   have hfl : ∀ x ∈ ds, x.flat := fun x hx => by
    rw [hds] at hx
    obtain ⟨q, _, rfl⟩ := List.mem_map.1 hx
    intro c hc
    obtain rfl := List.mem_singleton.1 hc
    rfl
   rw [← hds, ← hdl]
   refine ⟨_, _, (weakR_arrOf 0 (ds := ds) (Nat.zero_le _) (by omega) rfl hone hfl).trans (ret_data rfl (x := .sl ds) ?_), rfl, rfl⟩
   show D.sl (List.take ds.length (ds.drop 0)) = _
   rw [List.drop_zero, List.take_length]

theorem paths_get (l : List NodeT) {k : Nat} (h : k < l.length) : ((List.range l.length).map fun q => D.sl ((pathN l q).map .str)).getD k default = .sl ((pathN l k).map .str) := by
 simp [h]
def eOfD (a b : List NodeT) : AV := .tup [.d (.sl ((eOfF a b).1.map PartT.toD)), .d (.int .i64 (eOfF a b).2)]
theorem k_nodeA (l : List NodeT) (hl : l.length ≤ 100000) (i : Int) (hi : i < l.length) : Pure Tryz.prog Gl 23 [.d (.sl (l.map NodeT.toD)), .d (.int .i64 i)] (.d (ndAt l i).toD) := k_node0 l hl i hi
theorem eOf_err {a b : List NodeT} (h : (ofF a b).2 ≠ 0) : eOfF a b = ([], (ofF a b).2) := by
 unfold ofF at h ⊢
 unfold eOfF
 by_cases h1 : checkF a = 0
 ·rw [if_pos h1] at h ⊢
  by_cases h2 : checkF b = 0
  ·rw [if_pos h2] at h; exact absurd rfl h
  ·rw [if_neg h2, if_pos h1, if_neg h2]
 ·rw [if_neg h1, if_neg h1]
theorem cont_step (a b : List NodeT) (l : List PairT) {k : Nat} (h : k < l.length) : contL a b (l.take (k + 1)) = contL a b (l.take k) ++ contP a b (l.getD k default) := by
 rw [contL, take_step l k h, List.flatMap_append, List.flatMap_singleton]; rfl
theorem k_EOf (a b : List NodeT) (ha : a.length ≤ 60) (hb : b.length ≤ 60) : Pure Tryz.prog Gl 7 [.d (.sl (a.map NodeT.toD)), .d (.sl (b.map NodeT.toD))] (eOfD a b) := by
 refine Pure.of2t2 ?_
 refine acalls_of Tryz.func7 rfl rfl (by simp [Tryz.ntmps7]) (evC_sound rfl _ _ _ _ ?_)
 simp only [Tryz.ntmps7, Tryz.results7, argEnv, List.length_nil]
 simp only [zP, seval, Nat.reduceLeDiff, Nat.reduceEqDiff, reduceCtorEq, reduceIte, intD]
 refine callF_pure (k_MOf a b (by omega) (by omega)) ?_
 simp only [zP, seval, Nat.reduceLeDiff, Nat.reduceEqDiff, reduceCtorEq, reduceIte, intD, ofD]
 repeat ((with_reducible refine And.intro ?_ ?_); (focus (first | omega | (simp only [lenR]; omega) | (refine qq ?_; rfl) | (refine dq ?_; kernel_rfl) | (intros; simp_all; done))))
 refine ifC.mk (fun h1 => ?_) (fun h1 => ?_)
 ·have h1 : (ofF a b).2 ≠ 0 := by simpa using h1
  refine ⟨_, _, ret_tdata rfl (x := .sl ((eOfF a b).1.map PartT.toD)) ?_, ?_, rfl⟩
  ·rw [eOf_err h1]; rfl
  ·rw [eOf_err h1]
 have h1 : (ofF a b).2 = 0 := by simpa using h1
 obtain ⟨hca, hcb, h3⟩ := of_ok h1
 have hA := Tr.of hca
 have hB := Tr.of hcb
 obtain ⟨hm, _⟩ := fin_spec hA hB
 have hin := pairs_in hm
 have hpl := pairs_le (a := a) (b := b)
 rw [h3]
 have he : eOfF a b = ((contL a b (pairsOf a b)).filter keepP, 0) := by rw [eOfF, if_pos hca, if_pos hcb]
 rw [he]
 obtain ⟨l, hl⟩ : ∃ l, l = pairsOf a b := ⟨_, rfl⟩
 rw [← hl] at hin hpl ⊢
 repeat ((with_reducible refine And.intro ?_ ?_); (focus (first | omega | (simp only [lenR]; omega) | (refine qq ?_; rfl) | (refine dq ?_; kernel_rfl) | (intros; simp_all; done))))
 refine callF_pure (k_paths a (by omega) hA.up) ?_
 simp only [zP, seval, Nat.reduceLeDiff, Nat.reduceEqDiff, reduceCtorEq, reduceIte, intD]
 refine callF_pure (k_paths b (by omega) hB.up) ?_
 simp only [zP, seval, Nat.reduceLeDiff, Nat.reduceEqDiff, reduceCtorEq, reduceIte, intD]
 repeat ((with_reducible refine And.intro ?_ ?_); (focus (first | omega | (simp only [lenR]; omega) | (refine qq ?_; rfl) | (refine dq ?_; kernel_rfl) | (intros; simp_all; done))))
 refine for_of l.length (fun k => [(0, .d (.sl (a.map NodeT.toD))), (1, .d (.sl (b.map NodeT.toD))), (8, .d (.sl ((List.range a.length).map fun q => .sl ((pathN a q).map .str)))), (9, .d (.sl ((List.range b.length).map fun q => .sl ((pathN b q).map .str)))), (10, .osl 0 0 (contL a b (l.take k)).length), (27, .d (.sl (l.map PairT.toD))), (28, .d (.int .i64 l.length)), (29, .d (.int .i64 k))]) (fun k => [.arr 4 ((contL a b (l.take k)).map PartT.toD)]) (fun _ => True) trivial ?_ ?_
 ·refine (weak_nils 10 4 rfl).trans ?_
  refine weak_to [] [0] rfl (by simp) ?_ rfl
  simp only [zP, seval, Nat.reduceLeDiff, Nat.reduceEqDiff, reduceCtorEq, reduceIte, intD, Int.cast_ofNat_Int]
  try rfl
 ·intro k _ hk
  by_cases h : k < l.length
  ·obtain ⟨x, hx⟩ : ∃ x, x = l.getD k default := ⟨_, rfl⟩
   have eg : (l.map PairT.toD).getD k default = x.toD := by rw [a_getD _ _ _ h, ← hx]
   have hxm : x ∈ l := by rw [hx]; exact mem_getD h
   obtain ⟨i1, i2, i3, i4, i5⟩ := hin x hxm
   have hst := cont_step a b l h
   rw [← hx] at hst
   have hcl := cont_len a b (l.take k)
   rw [List.length_take] at hcl
   have kA := k_nodeA (Gl := Gl) a (by omega) x.a i2
   have kB := k_nodeA (Gl := Gl) b (by omega) x.b i4
   have okA := (ndV_at hca x.a i2).ok
   have okB := (ndV_at hcb x.b i4).ok
   obtain ⟨NA, hNA⟩ : ∃ n, n = ndAt a x.a := ⟨_, rfl⟩
   obtain ⟨NB, hNB⟩ : ∃ n, n = ndAt b x.b := ⟨_, rfl⟩
   rw [← hNA] at kA okA
   rw [← hNB] at kB okB
   simp only [zP, seval, Nat.reduceLeDiff, Nat.reduceEqDiff, reduceCtorEq, reduceIte, intD, (show (k:Int) < l.length by omega), h, eg]
   repeat ((with_reducible refine And.intro ?_ ?_); (focus (first | omega | (simp only [lenR]; omega) | (refine qq ?_; rfl) | (refine dq ?_; kernel_rfl) | (intros; simp_all; done))))
   refine ifC.mk (fun hc => ?_) (fun hc => ?_)
   ·have hc : 0 ≤ x.b := of_decide_eq_true hc
    obtain ⟨q, hq⟩ : ∃ q : Nat, x.b = q := ⟨x.b.toNat, by omega⟩
    have hql : q < b.length := by omega
    have hq2 : (q : Int) < b.length := by omega
    have hpg := paths_get b hql
    have hpth : pthP a b x = pathN b q := by rw [pthP, if_pos hc, hq, Int.toNat_natCast]
    simp only [hq] at hc ⊢
    simp only [zP, seval, Nat.reduceLeDiff, Nat.reduceEqDiff, reduceCtorEq, reduceIte, intD, hql, hq2, List.length_range, hpg]
    repeat ((with_reducible refine And.intro ?_ ?_); (focus (first | omega | (simp only [lenR]; omega) | (refine qq ?_; rfl) | (refine dq ?_; kernel_rfl) | (intros; simp_all; done))))
    refine callF_pure kA ?_
    simp only [zP, seval, Nat.reduceLeDiff, Nat.reduceEqDiff, reduceCtorEq, reduceIte, intD]
    repeat ((with_reducible refine And.intro ?_ ?_); (focus (first | omega | (simp only [lenR]; omega) | (refine qq ?_; rfl) | (refine dq ?_; kernel_rfl) | (intros; simp_all; done))))
    refine callF_pure kB ?_
    simp only [zP, seval, Nat.reduceLeDiff, Nat.reduceEqDiff, reduceCtorEq, reduceIte, intD]
    repeat ((with_reducible refine And.intro ?_ ?_); (focus (first | omega | (simp only [lenR]; omega) | (refine qq ?_; rfl) | (refine dq ?_; kernel_rfl) | (intros; simp_all; done))))
    rw [← hpth]
    refine callF_pure (k_parts NA NB (pthP a b x) okA okB) ?_
    simp only [zP, seval, Nat.reduceLeDiff, Nat.reduceEqDiff, reduceCtorEq, reduceIte, intD]
    repeat ((with_reducible refine And.intro ?_ ?_); (focus (first | omega | (simp only [lenR]; omega) | (refine qq ?_; rfl) | (refine dq ?_; kernel_rfl) | (intros; simp_all; done))))
    have hpl2 := parts_len NA NB (pthP a b x)
    refine ⟨⟨by omega, by omega⟩, ?_⟩
    have hst2 : contL a b (l.take (k + 1)) = contL a b (l.take k) ++ partsF NA NB (pthP a b x) := by rw [hst, contP, ← hNA, ← hNB]
    rw [hst2, List.length_append, List.map_append]
    refine weak_to [] [2] rfl (by simp) ?_ ?_
    ·simp only [zP, seval, Nat.reduceLeDiff, Nat.reduceEqDiff, reduceCtorEq, reduceIte, intD, @a_wrap ((k:Int) + 1) (by omega)]
     try rfl
    ·show [Blk.arr 4 (List.take (contL a b (List.take k l)).length (List.map PartT.toD (contL a b (List.take k l))) ++ List.map PartT.toD (partsF NA NB (pthP a b x)))] = _
     rw [take_all]
   ·have hc : ¬ 0 ≤ x.b := of_decide_eq_false hc
    obtain ⟨q, hq⟩ : ∃ q : Nat, x.a = q := ⟨x.a.toNat, by omega⟩
    have hql : q < a.length := by omega
    have hq2 : (q : Int) < a.length := by omega
    have hpg := paths_get a hql
    have hpth : pthP a b x = pathN a q := by rw [pthP, if_neg hc, hq, Int.toNat_natCast]
    rw [hq] at kA
    simp only [hq] at hc ⊢
    simp only [zP, seval, Nat.reduceLeDiff, Nat.reduceEqDiff, reduceCtorEq, reduceIte, intD, hql, hq2, List.length_range, hpg]
    repeat ((with_reducible refine And.intro ?_ ?_); (focus (first | omega | (simp only [lenR]; omega) | (refine qq ?_; rfl) | (refine dq ?_; kernel_rfl) | (intros; simp_all; done))))
    refine callF_pure kA ?_
    simp only [zP, seval, Nat.reduceLeDiff, Nat.reduceEqDiff, reduceCtorEq, reduceIte, intD]
    repeat ((with_reducible refine And.intro ?_ ?_); (focus (first | omega | (simp only [lenR]; omega) | (refine qq ?_; rfl) | (refine dq ?_; kernel_rfl) | (intros; simp_all; done))))
    refine callF_pure kB ?_
    simp only [zP, seval, Nat.reduceLeDiff, Nat.reduceEqDiff, reduceCtorEq, reduceIte, intD]
    repeat ((with_reducible refine And.intro ?_ ?_); (focus (first | omega | (simp only [lenR]; omega) | (refine qq ?_; rfl) | (refine dq ?_; kernel_rfl) | (intros; simp_all; done))))
    rw [← hpth]
    refine callF_pure (k_parts NA NB (pthP a b x) okA okB) ?_
    simp only [zP, seval, Nat.reduceLeDiff, Nat.reduceEqDiff, reduceCtorEq, reduceIte, intD]
    repeat ((with_reducible refine And.intro ?_ ?_); (focus (first | omega | (simp only [lenR]; omega) | (refine qq ?_; rfl) | (refine dq ?_; kernel_rfl) | (intros; simp_all; done))))
    have hpl2 := parts_len NA NB (pthP a b x)
    refine ⟨⟨by omega, by omega⟩, ?_⟩
    have hst2 : contL a b (l.take (k + 1)) = contL a b (l.take k) ++ partsF NA NB (pthP a b x) := by rw [hst, contP, ← hNA, ← hNB]
    rw [hst2, List.length_append, List.map_append]
    refine weak_to [] [2] rfl (by simp) ?_ ?_
    ·simp only [zP, seval, Nat.reduceLeDiff, Nat.reduceEqDiff, reduceCtorEq, reduceIte, intD, @a_wrap ((k:Int) + 1) (by omega)]
     try rfl
    ·show [Blk.arr 4 (List.take (contL a b (List.take k l)).length (List.map PartT.toD (contL a b (List.take k l))) ++ List.map PartT.toD (partsF NA NB (pthP a b x)))] = _
     rw [take_all]
  ·have : k = l.length := by omega
   subst this
   simp only [zP, seval, Nat.reduceLeDiff, Nat.reduceEqDiff, reduceCtorEq, reduceIte, intD, (show ¬ (l.length:Int) < l.length by omega)]
   rw [List.take_length]
   have hcl := cont_len a b l
   refine callF_go ((k_Delete (contL a b l) (by omega)).mono fun r s hrs => ?_)
   obtain ⟨rfl, ys, rfl⟩ := hrs
   simp only [zP, seval, Nat.reduceLeDiff, Nat.reduceEqDiff, reduceCtorEq, reduceIte, intD]
   exact ⟨_, _, ret_t2, rfl, rfl⟩

theorem k_light (a b : List NodeT) : Pure Tryz.prog Gl 5 [.d (.sl (a.map NodeT.toD)), .d (.sl (b.map NodeT.toD))] (.d (.bool (decide (a.length ≤ 60) && decide (b.length ≤ 60)))) := by
 refine Pure.of2 ?_
 refine acalls_of Tryz.func5 rfl rfl (by simp [Tryz.ntmps5]) (evC_sound rfl _ _ _ _ ?_)
 simp only [Tryz.ntmps5, Tryz.results5, argEnv, List.length_nil]
 simp only [zP, seval, Nat.reduceLeDiff, Nat.reduceEqDiff, reduceCtorEq, reduceIte, intD]
 repeat ((with_reducible refine And.intro ?_ ?_); (focus (first | omega | (simp only [lenR]; omega) | (refine qq ?_; rfl) | (refine dq ?_; kernel_rfl) | (intros; simp_all; done))))
 refine ⟨_, _, ret_d, ?_, rfl⟩
 have e1 : decide ((a.length : Int) ≤ 60) = decide (a.length ≤ 60) := decide_eq_decide.2 (by omega)
 have e2 : decide ((b.length : Int) ≤ 60) = decide (b.length ≤ 60) := decide_eq_decide.2 (by omega)
 rw [e1, e2]

def sF : List UInt8 := [102]
def lfN (count self : Int) : NodeT := ⟨-1, sF, self, self, count⟩
theorem k_leaf (count self : Int) : Pure Tryz.prog Gl 18 [.d (.int .i64 count), .d (.int .i64 self)] (.d (.sl ([lfN count self].map NodeT.toD))) := by
 refine Pure.of2 ?_
 refine acalls_of Tryz.func18 rfl rfl (by simp [Tryz.ntmps18]) (evC_sound rfl _ _ _ _ ?_)
 simp only [Tryz.ntmps18, Tryz.results18, argEnv, List.length_nil]
 simp only [zP, seval, Nat.reduceLeDiff, Nat.reduceEqDiff, reduceCtorEq, reduceIte, intD]
 repeat ((with_reducible refine And.intro ?_ ?_); (focus (first | omega | (simp only [lenR]; omega) | (refine qq ?_; rfl) | (refine dq ?_; kernel_rfl) | (intros; simp_all; done))))
 refine ⟨_, _, ret_data rfl (x := .sl ([lfN count self].map NodeT.toD)) rfl, rfl, rfl⟩
def ptN (cause : List UInt8) (n d : Int) : PartT := ⟨[sF], cause, ⟨n, d⟩⟩
theorem k_part (cause : List UInt8) (n d : Int) : Pure Tryz.prog Gl 19 [.d (.str cause), .d (.int .i64 n), .d (.int .i64 d)] (.d (ptN cause n d).toD) := by
 refine Pure.of3 ?_
 refine acalls_of Tryz.func19 rfl rfl (by simp [Tryz.ntmps19]) (evC_sound rfl _ _ _ _ ?_)
 simp only [Tryz.ntmps19, Tryz.results19, argEnv, List.length_nil]
 simp only [zP, seval, Nat.reduceLeDiff, Nat.reduceEqDiff, reduceCtorEq, reduceIte, intD]
 repeat ((with_reducible refine And.intro ?_ ?_); (focus (first | omega | (simp only [lenR]; omega) | (refine qq ?_; rfl) | (refine dq ?_; kernel_rfl) | (intros; simp_all; done))))
 refine ⟨_, _, ret_data rfl (x := (ptN cause n d).toD) rfl, rfl, rfl⟩
theorem beg_self (p : List (List UInt8)) : begF p p = true := by
 unfold begF
 simp
theorem k_ESame (x : List PartT) (hx : ∀ v ∈ x, v.path.length < 1000000) (hl : x.length < 1000000) : Pure Tryz.prog Gl 11 [.d (.sl (x.map PartT.toD)), .d (.sl (x.map PartT.toD))] (.d (.bool true)) := by
 refine Pure.of2 ?_
 refine acalls_of Tryz.func11 rfl rfl (by simp [Tryz.ntmps11]) (evC_sound rfl _ _ _ _ ?_)
 simp only [Tryz.ntmps11, Tryz.results11, argEnv, List.length_nil]
 simp only [zP, seval, Nat.reduceLeDiff, Nat.reduceEqDiff, reduceCtorEq, reduceIte, intD]
 simp only [zP, seval, Nat.reduceLeDiff, Nat.reduceEqDiff, reduceCtorEq, reduceIte, intD, bne_self_eq_false]
 repeat ((with_reducible refine And.intro ?_ ?_); (focus (first | omega | (simp only [lenR]; omega) | (refine qq ?_; rfl) | (refine dq ?_; kernel_rfl) | (intros; simp_all; done))))
 refine for_of x.length (fun j => [(0, .d (.sl (x.map PartT.toD))), (1, .d (.sl (x.map PartT.toD))), (5, .d (.int .i64 j))]) (fun _ => []) (fun _ => True) trivial ?_ ?_
 ·refine weak_to [] [] rfl List.nodup_nil ?_ rfl
  simp only [zP, seval, Nat.reduceLeDiff, Nat.reduceEqDiff, reduceCtorEq, reduceIte, intD, Int.cast_ofNat_Int]
  try rfl
 ·intro j _ hjl
  by_cases h : j < x.length
  ·obtain ⟨u, hu⟩ : ∃ u, u = x.getD j default := ⟨_, rfl⟩
   have g1 : (x.map PartT.toD).getD j default = u.toD := by rw [a_getD _ _ _ h, ← hu]
   have hul := hx u (by rw [hu]; exact mem_getD h)
   simp only [zP, seval, Nat.reduceLeDiff, Nat.reduceEqDiff, reduceCtorEq, reduceIte, intD, (show (j:Int) < x.length by omega), h, g1, bne_self_eq_false, beq_self_eq_true]
   repeat ((with_reducible refine And.intro ?_ ?_); (focus (first | omega | (simp only [lenR]; omega) | (refine qq ?_; rfl) | (refine dq ?_; kernel_rfl) | (intros; simp_all; done))))
   refine callG_pure (fun _ => k_Begins u.path u.path hul hul) ?_
   rw [beg_self]
   simp only [zP, seval, Nat.reduceLeDiff, Nat.reduceEqDiff, reduceCtorEq, reduceIte, intD]
   repeat ((with_reducible refine And.intro ?_ ?_); (focus (first | omega | (simp only [lenR]; omega) | (refine qq ?_; rfl) | (refine dq ?_; kernel_rfl) | (intros; simp_all; done))))
   refine weak_to [] [] rfl List.nodup_nil ?_ rfl
   simp only [zP, seval, Nat.reduceLeDiff, Nat.reduceEqDiff, reduceCtorEq, reduceIte, intD, @a_wrap ((j:Int) + 1) (by omega)]
   try rfl
  ·have : j = x.length := by omega
   subst this
   simp only [zP, seval, Nat.reduceLeDiff, Nat.reduceEqDiff, reduceCtorEq, reduceIte, intD, (show ¬ (x.length:Int) < x.length by omega)]
   exact ⟨_, _, ret_d, rfl, rfl⟩
theorem k_ESameB (x : List PartT) (n : Nat) (hn : x.length = n) (hx : ∀ v ∈ x, v.path.length < 1000000) (hl : x.length < 1000000) (B : Blk) (hB : ArrOrFrz 4 (x.map PartT.toD) B) : ACalls Tryz.prog Gl 11 [.d (.sl (x.map PartT.toD)), .osl 0 0 n] [B] (fun r s => r = .d (.bool true) ∧ s = [B]) := by
 subst hn
 have hn : x.length = x.length := rfl
 rcases hB with rfl | rfl
 ·refine acalls_of Tryz.func11 rfl rfl (by simp [Tryz.ntmps11]) (evC_sound rfl _ _ _ _ ?_)
  simp only [Tryz.ntmps11, Tryz.results11, argEnv, List.length_nil]
  simp only [zP, seval, Nat.reduceLeDiff, Nat.reduceEqDiff, reduceCtorEq, reduceIte, intD]
  simp only [zP, seval, Nat.reduceLeDiff, Nat.reduceEqDiff, reduceCtorEq, reduceIte, intD, hn, bne_self_eq_false]
  repeat ((with_reducible refine And.intro ?_ ?_); (focus (first | omega | (simp only [lenR]; omega) | (refine qq ?_; rfl) | (refine dq ?_; kernel_rfl) | (intros; simp_all; done))))
  refine for_of x.length (fun j => [(0, .d (.sl (x.map PartT.toD))), (1, .osl 0 0 x.length), (5, .d (.int .i64 j))]) (fun _ => [.arr 4 (x.map PartT.toD)]) (fun _ => True) trivial ?_ ?_
  ·refine weak_to [] [0] rfl (by simp) ?_ rfl
   simp only [zP, seval, Nat.reduceLeDiff, Nat.reduceEqDiff, reduceCtorEq, reduceIte, intD, Int.cast_ofNat_Int]
   all_goals rfl
  ·intro j _ hjl
   by_cases h : j < x.length
   ·obtain ⟨u, hu⟩ : ∃ u, u = x.getD j default := ⟨_, rfl⟩
    have g1 : (x.map PartT.toD).getD j default = u.toD := by rw [a_getD _ _ _ h, ← hu]
    have hul := hx u (by rw [hu]; exact mem_getD h)
    simp only [zP, seval, Nat.reduceLeDiff, Nat.reduceEqDiff, reduceCtorEq, reduceIte, intD, (show (j:Int) < x.length by omega), h, g1, bne_self_eq_false, beq_self_eq_true]
    repeat ((with_reducible refine And.intro ?_ ?_); (focus (first | omega | (simp only [lenR]; omega) | (refine qq ?_; rfl) | (refine dq ?_; kernel_rfl) | (intros; simp_all; done))))
    refine callG_pure (fun _ => k_Begins u.path u.path hul hul) ?_
    rw [beg_self]
    simp only [zP, seval, Nat.reduceLeDiff, Nat.reduceEqDiff, reduceCtorEq, reduceIte, intD]
    repeat ((with_reducible refine And.intro ?_ ?_); (focus (first | omega | (simp only [lenR]; omega) | (refine qq ?_; rfl) | (refine dq ?_; kernel_rfl) | (intros; simp_all; done))))
    refine weak_to [] [0] rfl (by simp) ?_ rfl
    simp only [zP, seval, Nat.reduceLeDiff, Nat.reduceEqDiff, reduceCtorEq, reduceIte, intD, @a_wrap ((j:Int) + 1) (by omega)]
    all_goals rfl
   ·have : j = x.length := by omega
    subst this
    simp only [zP, seval, Nat.reduceLeDiff, Nat.reduceEqDiff, reduceCtorEq, reduceIte, intD, (show ¬ (x.length:Int) < x.length by omega)]
    refine ⟨_, _, weakR_to [] [0] rfl (by simp) (show renV _ _ _ = AV.d _ from rfl) rfl, ?_, rfl⟩
    rfl
 ·refine acalls_of Tryz.func11 rfl rfl (by simp [Tryz.ntmps11]) (evC_sound rfl _ _ _ _ ?_)
  simp only [Tryz.ntmps11, Tryz.results11, argEnv, List.length_nil]
  simp only [zP, seval, Nat.reduceLeDiff, Nat.reduceEqDiff, reduceCtorEq, reduceIte, intD]
  simp only [zP, seval, Nat.reduceLeDiff, Nat.reduceEqDiff, reduceCtorEq, reduceIte, intD, hn, bne_self_eq_false]
  repeat ((with_reducible refine And.intro ?_ ?_); (focus (first | omega | (simp only [lenR]; omega) | (refine qq ?_; rfl) | (refine dq ?_; kernel_rfl) | (intros; simp_all; done))))
  refine for_of x.length (fun j => [(0, .d (.sl (x.map PartT.toD))), (1, .osl 0 0 x.length), (5, .d (.int .i64 j))]) (fun _ => [.frz 4 (x.map PartT.toD)]) (fun _ => True) trivial ?_ ?_
  ·refine weak_to [] [0] rfl (by simp) ?_ rfl
   simp only [zP, seval, Nat.reduceLeDiff, Nat.reduceEqDiff, reduceCtorEq, reduceIte, intD, Int.cast_ofNat_Int]
   all_goals rfl
  ·intro j _ hjl
   by_cases h : j < x.length
   ·obtain ⟨u, hu⟩ : ∃ u, u = x.getD j default := ⟨_, rfl⟩
    have g1 : (x.map PartT.toD).getD j default = u.toD := by rw [a_getD _ _ _ h, ← hu]
    have hul := hx u (by rw [hu]; exact mem_getD h)
    simp only [zP, seval, Nat.reduceLeDiff, Nat.reduceEqDiff, reduceCtorEq, reduceIte, intD, (show (j:Int) < x.length by omega), h, g1, bne_self_eq_false, beq_self_eq_true]
    repeat ((with_reducible refine And.intro ?_ ?_); (focus (first | omega | (simp only [lenR]; omega) | (refine qq ?_; rfl) | (refine dq ?_; kernel_rfl) | (intros; simp_all; done))))
    refine callG_pure (fun _ => k_Begins u.path u.path hul hul) ?_
    rw [beg_self]
    simp only [zP, seval, Nat.reduceLeDiff, Nat.reduceEqDiff, reduceCtorEq, reduceIte, intD]
    repeat ((with_reducible refine And.intro ?_ ?_); (focus (first | omega | (simp only [lenR]; omega) | (refine qq ?_; rfl) | (refine dq ?_; kernel_rfl) | (intros; simp_all; done))))
    refine weak_to [] [0] rfl (by simp) ?_ rfl
    simp only [zP, seval, Nat.reduceLeDiff, Nat.reduceEqDiff, reduceCtorEq, reduceIte, intD, @a_wrap ((j:Int) + 1) (by omega)]
    all_goals rfl
   ·have : j = x.length := by omega
    subst this
    simp only [zP, seval, Nat.reduceLeDiff, Nat.reduceEqDiff, reduceCtorEq, reduceIte, intD, (show ¬ (x.length:Int) < x.length by omega)]
    refine ⟨_, _, weakR_to [] [0] rfl (by simp) (show renV _ _ _ = AV.d _ from rfl) rfl, ?_, rfl⟩
    rfl

theorem self_part {l : List NodeT} (h1 : checkF l = 0) : ∀ k, k ≤ l.length → 0 ≤ selfS (l.take k) ∧ selfS (l.take k) ≤ 200000000000000000 := fun k hk => by
 have hrf := (checkF_ok h1).2.1
 have hl := (checkF_ok h1).1
 have h2 : firstErr (fun k => nodeE (l.getD k default)) l.length = 0 := by
  unfold rangesF at hrf
  by_cases h3 : firstErr (fun k => nodeE (l.getD k default)) l.length = 0
  ·exact h3
  ·rw [if_neg h3] at hrf; exact absurd hrf h3
 have h3 := sums_take hk (firstErr_all fun j hj => firstErr_zero h2 j (by omega))
 refine ⟨h3.1, ?_⟩
 have : (k : Int) * 100000000000000 ≤ 2000 * 100000000000000 := by omega
 omega
theorem k_RFSum (l : List NodeT) (hl : l.length ≤ 2000) : Pure Tryz.prog Gl 32 [.d (.sl (l.map NodeT.toD))] (.d (.int .i64 (if checkF l = 0 then selfS l else 0))) := by
 refine Pure.of1 ?_
 refine acalls_of Tryz.func32 rfl rfl (by simp [Tryz.ntmps32]) (evC_sound rfl _ _ _ _ ?_)
 simp only [Tryz.ntmps32, Tryz.results32, argEnv, List.length_nil]
 simp only [zP, seval, Nat.reduceLeDiff, Nat.reduceEqDiff, reduceCtorEq, reduceIte, intD]
 repeat ((with_reducible refine And.intro ?_ ?_); (focus (first | omega | (simp only [lenR]; omega) | (refine qq ?_; rfl) | (refine dq ?_; kernel_rfl) | (intros; simp_all; done))))
 refine callF_pure (k_RCheck l (by omega)) ?_
 simp only [zP, seval, Nat.reduceLeDiff, Nat.reduceEqDiff, reduceCtorEq, reduceIte, intD]
 refine ifC.mk (fun h1 => ?_) (fun h1 => ?_)
 ·have h1 : ¬ checkF l = 0 := by simpa using h1
  refine ⟨_, _, ret_d, ?_, rfl⟩
  rw [if_neg h1]
 ·have h1 : checkF l = 0 := by simpa using h1
  rw [if_pos h1]
  have hb := self_part h1
  repeat ((with_reducible refine And.intro ?_ ?_); (focus (first | omega | (simp only [lenR]; omega) | (refine qq ?_; rfl) | (refine dq ?_; kernel_rfl) | (intros; simp_all; done))))
  refine for_of l.length (fun k => [(0, .d (.sl (l.map NodeT.toD))), (3, .d (.int .i64 (selfS (l.take k)))), (4, .d (.int .i64 k))]) (fun k => []) (fun _ => True) trivial ?_ ?_
  ·refine weak_to [] [] rfl (by simp) ?_ rfl
   simp only [zP, seval, Nat.reduceLeDiff, Nat.reduceEqDiff, reduceCtorEq, reduceIte, intD, Int.cast_ofNat_Int]
   try rfl
  ·intro k _ hk
   by_cases h : k < l.length
   ·obtain ⟨x, hx⟩ : ∃ x, x = l.getD k default := ⟨_, rfl⟩
    have eg : (l.map NodeT.toD).getD k default = x.toD := by rw [a_getD _ _ _ h, ← hx]
    have hst : selfS (l.take (k + 1)) = selfS (l.take k) + x.self := by
     rw [selfS, take_step l k h, List.map_append, List.sum_append, ← hx]; simp [selfS]
    have h4 := hb (k + 1) h
    rw [hst] at h4
    simp only [zP, seval, Nat.reduceLeDiff, Nat.reduceEqDiff, reduceCtorEq, reduceIte, intD, (show (k:Int) < l.length by omega), h, eg]
    repeat ((with_reducible refine And.intro ?_ ?_); (focus (first | omega | (simp only [lenR]; omega) | (refine qq ?_; rfl) | (refine dq ?_; kernel_rfl) | (intros; simp_all; done))))
    rw [hst]
    refine weak_to [] [] rfl (by simp) ?_ rfl
    simp only [zP, seval, Nat.reduceLeDiff, Nat.reduceEqDiff, reduceCtorEq, reduceIte, intD, @a_wrap ((k:Int) + 1) (by omega), @a_wrap (selfS (l.take k) + x.self) (by omega)]
    try rfl
   ·have : k = l.length := by omega
    subst this
    rw [List.take_length]
    simp only [zP, seval, Nat.reduceLeDiff, Nat.reduceEqDiff, reduceCtorEq, reduceIte, intD, (show ¬ (l.length:Int) < l.length by omega)]
    exact ⟨_, _, ret_d, rfl, rfl⟩
theorem k_RDiff (a b : List NodeT) (ha : a.length ≤ 2000) (hb : b.length ≤ 2000) : Pure Tryz.prog Gl 10 [.d (.sl (a.map NodeT.toD)), .d (.sl (b.map NodeT.toD))] (.tup [.d (.int .i64 (diffF a b).1), .d (.int .i64 (diffF a b).2)]) := by
 refine Pure.of2t2 ?_
 refine acalls_of Tryz.func10 rfl rfl (by simp [Tryz.ntmps10]) (evC_sound rfl _ _ _ _ ?_)
 simp only [Tryz.ntmps10, Tryz.results10, argEnv, List.length_nil]
 simp only [zP, seval, Nat.reduceLeDiff, Nat.reduceEqDiff, reduceCtorEq, reduceIte, intD]
 refine callF_pure (k_RCheck a (by omega)) ?_
 simp only [zP, seval, Nat.reduceLeDiff, Nat.reduceEqDiff, reduceCtorEq, reduceIte, intD]
 by_cases h1 : checkF a = 0
 ·have e1 : (checkF a == 0) = true := by simpa using h1
  simp only [zP, seval, Nat.reduceLeDiff, Nat.reduceEqDiff, reduceCtorEq, reduceIte, intD, e1]
  repeat ((with_reducible refine And.intro ?_ ?_); (focus (first | omega | (simp only [lenR]; omega) | (refine qq ?_; rfl) | (refine dq ?_; kernel_rfl) | (intros; simp_all; done))))
  refine callF_pure (k_RCheck b (by omega)) ?_
  simp only [zP, seval, Nat.reduceLeDiff, Nat.reduceEqDiff, reduceCtorEq, reduceIte, intD]
  by_cases h2 : checkF b = 0
  ·have e2 : (checkF b != 0) = false := by simpa using h2
   simp only [zP, seval, Nat.reduceLeDiff, Nat.reduceEqDiff, reduceCtorEq, reduceIte, intD, e2]
   repeat ((with_reducible refine And.intro ?_ ?_); (focus (first | omega | (simp only [lenR]; omega) | (refine qq ?_; rfl) | (refine dq ?_; kernel_rfl) | (intros; simp_all; done))))
   have ra := self_rng h1
   have rb := self_rng h2
   refine callF_pure (k_RFSum b hb) ?_
   simp only [zP, seval, Nat.reduceLeDiff, Nat.reduceEqDiff, reduceCtorEq, reduceIte, intD, if_pos h2]
   refine callF_pure (k_RFSum a ha) ?_
   simp only [zP, seval, Nat.reduceLeDiff, Nat.reduceEqDiff, reduceCtorEq, reduceIte, intD, if_pos h1, @a_wrap (selfS b - selfS a) (by omega)]
   refine ⟨_, _, ret_t2, ?_, rfl⟩
   rw [diffF, if_pos h1, if_pos h2]
  ·have e2 : (checkF b != 0) = true := by simpa using h2
   simp only [zP, seval, Nat.reduceLeDiff, Nat.reduceEqDiff, reduceCtorEq, reduceIte, intD, e2]
   refine ⟨_, _, ret_t2, ?_, rfl⟩
   rw [diffF, if_pos h1, if_neg h2]
 ·have e1 : (checkF a == 0) = false := by simpa using h1
  have e2 : (checkF a != 0) = true := by simpa using h1
  simp only [zP, seval, Nat.reduceLeDiff, Nat.reduceEqDiff, reduceCtorEq, reduceIte, intD, e1, e2]
  refine ⟨_, _, ret_t2, ?_, rfl⟩
  rw [diffF, if_neg h1]
theorem k_RPath (l : List NodeT) (hl : l.length ≤ 2000) (hc : checkF l = 0) (i : Nat) (hi : i < l.length) : Pure Tryz.prog Gl 27 [.d (.sl (l.map NodeT.toD)), .d (.int .i64 i)] (.d (.sl ((pathN l i).map .str))) := by
 have ht := (checkF_ok hc).2.2.2.1
 refine Pure.of2 ?_
 refine acalls_of Tryz.func27 rfl rfl (by simp [Tryz.ntmps27]) (evC_sound rfl _ _ _ _ ?_)
 simp only [Tryz.ntmps27, Tryz.results27, argEnv, List.length_nil]
 simp only [zP, seval, Nat.reduceLeDiff, Nat.reduceEqDiff, reduceCtorEq, reduceIte, intD]
 refine callF_pure (k_RCheck l (by omega)) ?_
 rw [hc]
 simp only [zP, seval, Nat.reduceLeDiff, Nat.reduceEqDiff, reduceCtorEq, reduceIte, intD, bne_self_eq_false, (show ¬ (i:Int) < 0 by omega), (show ¬ (l.length:Int) ≤ (i:Int) by omega)]
 repeat ((with_reducible refine And.intro ?_ ?_); (focus (first | omega | (simp only [lenR]; omega) | (refine qq ?_; rfl) | (refine dq ?_; kernel_rfl) | (intros; simp_all; done))))
 (try simp only [zP, seval, Nat.reduceLeDiff, Nat.reduceEqDiff, reduceCtorEq, reduceIte, intD, (show ¬ (i:Int) < 0 by omega), (show ¬ (l.length:Int) ≤ (i:Int) by omega)])
 refine loop_of (τ := List (List UInt8) × Int) (fun u => [(0, .d (.sl (l.map NodeT.toD))), (1, .d (.int .i64 u.2)), (5, .osl 0 0 u.1.length)]) (fun u => [.arr 1 (u.1.map .str)])
  (fun u => -1 ≤ u.2 ∧ u.2 < l.length ∧ u.1.length + (u.2 + 1).toNat ≤ 2000 ∧ pathI l u.2 ++ u.1 = pathN l i) (fun u => (u.2 + 1).toNat) ([], (i : Int)) ?_ ?_ ?_
 ·refine ⟨by simp only; omega, by simp only; omega, by simp only [List.length_nil]; omega, ?_⟩
  simp only
  rw [List.append_nil, pathI_nat]
 ·refine (weak_nils 5 1 rfl).trans ?_
  refine weak_to [] [0] rfl (by simp) ?_ rfl
  simp only [zP, seval, Nat.reduceLeDiff, Nat.reduceEqDiff, reduceCtorEq, reduceIte, intD]
  try rfl
 ·rintro ⟨out, c⟩ ⟨h1, h2, h3, h4⟩
  simp only at h1 h2 h3 h4
  by_cases h : 0 ≤ c
  ·obtain ⟨k, rfl⟩ : ∃ k : Nat, c = k := ⟨c.toNat, by omega⟩
   have hkl : k < l.length := by omega
   have tp := tree_par ht hkl
   obtain ⟨x, hx⟩ : ∃ x, x = l.getD k default := ⟨_, rfl⟩
   have eg : (l.map NodeT.toD).getD k default = x.toD := by rw [a_getD _ _ _ hkl, ← hx]
   have en : nm l k = x.name := by rw [hx]; rfl
   have ep : par l k = x.parent := by rw [hx]; rfl
   rw [ep] at tp
   rw [pathI_kid ht hkl, en, ep, List.append_assoc, List.singleton_append] at h4
   simp only [zP, seval, Nat.reduceLeDiff, Nat.reduceEqDiff, reduceCtorEq, reduceIte, intD, (show 0 ≤ (k:Int) by omega), (show (k:Int) < l.length by omega), hkl, eg]
   repeat ((with_reducible refine And.intro ?_ ?_); (focus (first | omega | (simp only [lenR]; omega) | (refine qq ?_; rfl) | (refine dq ?_; kernel_rfl) | (intros; simp_all; done))))
   refine ⟨(x.name :: out, x.parent), ⟨by simp only; omega, by simp only; omega, by simp only [List.length_cons]; omega, h4⟩, by simp only; omega, ?_⟩
   refine weak_to [] [2] rfl (by simp) ?_ ?_
   ·simp only [zP, seval, Nat.reduceLeDiff, Nat.reduceEqDiff, reduceCtorEq, reduceIte, intD, List.length_cons, take_all, List.length_map, Nat.add_comm 1]
    try rfl
   ·show [Blk.arr 1 (D.str x.name :: List.take out.length (List.map D.str out))] = _
    rw [take_all]; rfl
  ·rw [pathI_neg l (by omega), List.nil_append] at h4
   simp only [zP, seval, Nat.reduceLeDiff, Nat.reduceEqDiff, reduceCtorEq, reduceIte, intD, (show ¬ 0 ≤ c by omega)]
   repeat ((with_reducible refine And.intro ?_ ?_); (focus (first | omega | (simp only [lenR]; omega) | (refine qq ?_; rfl) | (refine dq ?_; kernel_rfl) | (intros; simp_all; done))))
   refine ⟨_, _, ret_data rfl (x := .sl ((pathN l i).map .str)) ?_, rfl, rfl⟩
   show D.sl (List.take out.length (out.map D.str)) = _
   rw [take_all, h4]

def kpL (path : List (List UInt8)) (cause : List UInt8) (n d : Int) : List PartT := [mkP path cause n d].filter keepP
theorem k_Radd (xs : List PartT) (path : List (List UInt8)) (cause : List UInt8) (n d : Int) (hn : In64 n) (hd : In64 d) (hl : xs.length ≤ 100000) : ACalls Tryz.prog Gl 28 [.osl 0 0 xs.length, .d (.sl (path.map .str)), .d (.str cause), .d (.int .i64 n), .d (.int .i64 d)] [.arr 4 (xs.map PartT.toD)]
  (fun r s => r = .osl 1 0 (xs ++ kpL path cause n d).length ∧ s = [.dead, .arr 4 ((xs ++ kpL path cause n d).map PartT.toD)]) := by
 refine acalls_of Tryz.func28 rfl rfl (by simp [Tryz.ntmps28]) (evC_sound rfl _ _ _ _ ?_)
 simp only [Tryz.ntmps28, Tryz.results28, argEnv, List.length_nil]
 simp only [zP, seval, Nat.reduceLeDiff, Nat.reduceEqDiff, reduceCtorEq, reduceIte, intD]
 refine callF_pure (c12 n d hn.1 hn.2 hd.1 hd.2) ?_
 simp only [zP, seval, Nat.reduceLeDiff, Nat.reduceEqDiff, reduceCtorEq, reduceIte, intD, resD]
 repeat ((with_reducible refine And.intro ?_ ?_); (focus (first | omega | (simp only [lenR]; omega) | (refine qq ?_; rfl) | (refine dq ?_; kernel_rfl) | (intros; simp_all; done))))
 refine ifC.mk (fun h1 => ?_) (fun h1 => ?_)
 ·have h1 : (ofS n d).1.n = 0 := by simpa using h1
  have hk : keepP (mkP path cause n d) = false := by
   show (!((ofS n d).1.n == 0)) = false
   rw [h1]; rfl
  have e : kpL path cause n d = [] := by rw [kpL, List.filter_cons_of_neg (by rw [hk]; simp), List.filter_nil]
  simp only [e, List.append_nil, List.length_nil, Nat.add_zero]
  refine ⟨_, _, weakR_mv [] [2, 0] (fun j hj => ?_) (by decide) (show renV _ _ _ = AV.osl 1 0 _ from rfl) rfl, rfl, rfl⟩
  have : j = 0 := by
   have : j < 1 := hj
   omega
  subst this
  exact ⟨2, rfl, .inr (Nat.le_refl _)⟩
 ·have h1 : ¬ (ofS n d).1.n = 0 := by simpa using h1
  have hk : keepP (mkP path cause n d) = true := by
   show (!((ofS n d).1.n == 0)) = true
   simp [h1]
  have e : kpL path cause n d = [mkP path cause n d] := by rw [kpL, List.filter_cons_of_pos hk, List.filter_nil]
  simp only [e, List.length_singleton]
  repeat ((with_reducible refine And.intro ?_ ?_); (focus (first | omega | (simp only [lenR]; omega) | (refine qq ?_; rfl) | (refine dq ?_; kernel_rfl) | (intros; simp_all; done))))
  refine ⟨_, _, weakR_to [] [0, 3] rfl (by decide) (show renV _ _ _ = AV.osl 1 0 _ from rfl) rfl, ?_, ?_⟩
  ·rfl
  ·rw [List.map_append]
   show [Blk.dead, Blk.arr 4 (List.take xs.length (List.map PartT.toD xs) ++ _)] = _
   rw [take_all]; rfl
def outK (a b : List NodeT) (l : List PairT) (k : Nat) : List PartT := (contL a b (l.take k)).filter keepP
theorem outK_step (a b : List NodeT) (l : List PairT) {k : Nat} (h : k < l.length) : outK a b l (k + 1) = outK a b l k ++ (contP a b (l.getD k default)).filter keepP := by
 unfold outK
 rw [cont_step a b l h, List.filter_append]
theorem outK_len (a b : List NodeT) (l : List PairT) (k : Nat) : (outK a b l k).length ≤ 2 * l.length := by
 unfold outK
 have h1 := List.length_filter_le keepP (contL a b (l.take k))
 have h2 := cont_len a b (l.take k)
 rw [List.length_take] at h2
 omega
theorem keep2 (p q : PartT) : [p, q].filter keepP = [p].filter keepP ++ [q].filter keepP := by
 rw [show [p, q] = [p] ++ [q] from rfl, List.filter_append]
theorem kp_len (path : List (List UInt8)) (cause : List UInt8) (n d : Int) : (kpL path cause n d).length ≤ 1 := List.length_filter_le _ _
theorem k_REOf (a b : List NodeT) (ha : a.length ≤ 60) (hb : b.length ≤ 60) : Pure Tryz.prog Gl 8 [.d (.sl (a.map NodeT.toD)), .d (.sl (b.map NodeT.toD))] (eOfD a b) := by
 refine Pure.of2t2 ?_
 refine acalls_of Tryz.func8 rfl rfl (by simp [Tryz.ntmps8]) (evC_sound rfl _ _ _ _ ?_)
 simp only [Tryz.ntmps8, Tryz.results8, argEnv, List.length_nil]
 simp only [zP, seval, Nat.reduceLeDiff, Nat.reduceEqDiff, reduceCtorEq, reduceIte, intD]
 refine callF_pure (k_ROf a b (by omega) (by omega)) ?_
 simp only [zP, seval, Nat.reduceLeDiff, Nat.reduceEqDiff, reduceCtorEq, reduceIte, intD, ofD]
 repeat ((with_reducible refine And.intro ?_ ?_); (focus (first | omega | (simp only [lenR]; omega) | (refine qq ?_; rfl) | (refine dq ?_; kernel_rfl) | (intros; simp_all; done))))
 refine ifC.mk (fun h1 => ?_) (fun h1 => ?_)
 ·have h1 : (ofF a b).2 ≠ 0 := by simpa using h1
  refine ⟨_, _, ret_tdata rfl (x := .sl ((eOfF a b).1.map PartT.toD)) ?_, ?_, rfl⟩
  ·rw [eOf_err h1]; rfl
  ·rw [eOf_err h1]
 have h1 : (ofF a b).2 = 0 := by simpa using h1
 obtain ⟨hca, hcb, h3⟩ := of_ok h1
 have hA := Tr.of hca
 have hB := Tr.of hcb
 obtain ⟨hm, _⟩ := fin_spec hA hB
 have hin := pairs_in hm
 have hpl := pairs_le (a := a) (b := b)
 rw [h3]
 have he : eOfF a b = ((contL a b (pairsOf a b)).filter keepP, 0) := by rw [eOfF, if_pos hca, if_pos hcb]
 rw [he]
 obtain ⟨l, hl⟩ : ∃ l, l = pairsOf a b := ⟨_, rfl⟩
 rw [← hl] at hin hpl ⊢
 repeat ((with_reducible refine And.intro ?_ ?_); (focus (first | omega | (simp only [lenR]; omega) | (refine qq ?_; rfl) | (refine dq ?_; kernel_rfl) | (intros; simp_all; done))))
 refine for_of l.length (fun k => [(0, .d (.sl (a.map NodeT.toD))), (1, .d (.sl (b.map NodeT.toD))), (6, .d (.sl (l.map PairT.toD))), (8, .osl 0 0 (outK a b l k).length), (9, .d (.int .i64 k))]) (fun k => [.arr 4 ((outK a b l k).map PartT.toD)]) (fun _ => True) trivial ?_ ?_
 ·refine (weak_nils 8 4 rfl).trans ?_
  refine weak_to [] [0] rfl (by simp) ?_ rfl
  simp only [zP, seval, Nat.reduceLeDiff, Nat.reduceEqDiff, reduceCtorEq, reduceIte, intD, Int.cast_ofNat_Int]
  try rfl
 ·intro k _ hk
  by_cases h : k < l.length
  ·obtain ⟨x, hx⟩ : ∃ x, x = l.getD k default := ⟨_, rfl⟩
   have eg : (l.map PairT.toD).getD k default = x.toD := by rw [a_getD _ _ _ h, ← hx]
   have hxm : x ∈ l := by rw [hx]; exact mem_getD h
   obtain ⟨i1, i2, i3, i4, i5⟩ := hin x hxm
   have hst := outK_step a b l h
   rw [← hx, contP] at hst
   have hol := outK_len a b l k
   obtain ⟨out, hout⟩ : ∃ out, out = outK a b l k := ⟨_, rfl⟩
   rw [← hout] at hst hol ⊢
   have okA := (ndV_at hca x.a i2).ok
   have okB := (ndV_at hcb x.b i4).ok
   obtain ⟨NA, hNA⟩ : ∃ n, n = ndAt a x.a := ⟨_, rfl⟩
   obtain ⟨NB, hNB⟩ : ∃ n, n = ndAt b x.b := ⟨_, rfl⟩
   obtain ⟨pth, hpth⟩ : ∃ p, p = pthP a b x := ⟨_, rfl⟩
   rw [← hNA, ← hNB, ← hpth] at hst
   rw [← hNA] at okA
   rw [← hNB] at okB
   obtain ⟨x1, x2, x3, x4⟩ := okA
   obtain ⟨y1, y2, y3, y4⟩ := okB
   have p1 := mul_abs (a := NB.count - NA.count) (b := NA.self) (A := 20000) (B := 100000000000000) (by omega) (by omega)
   have p2 := mul_abs (a := NB.self) (b := NA.count) (A := 100000000000000) (B := 20000) (by omega) (by omega)
   have p3 := mul_abs (a := NB.count) (b := NA.self) (A := 20000) (B := 100000000000000) (by omega) (by omega)
   simp only [Nat.reduceMul] at p1 p2 p3
   by_cases ca : 0 ≤ x.a
   ·obtain ⟨q, hq⟩ : ∃ q : Nat, x.a = q := ⟨x.a.toNat, by omega⟩
    have hql : q < a.length := by omega
    have hq2 : (q : Int) < a.length := by omega
    have ga : (a.map NodeT.toD).getD q default = NA.toD := by rw [a_getD _ _ _ hql, hNA, ndAt, if_neg (by omega), hq, Int.toNat_natCast]
    by_cases cb : 0 ≤ x.b
    ·obtain ⟨p, hp⟩ : ∃ p : Nat, x.b = p := ⟨x.b.toNat, by omega⟩
     have hpl : p < b.length := by omega
     have hp2 : (p : Int) < b.length := by omega
     have gb : (b.map NodeT.toD).getD p default = NB.toD := by rw [a_getD _ _ _ hpl, hNB, ndAt, if_neg (by omega), hp, Int.toNat_natCast]
     simp only [zP, seval, Nat.reduceLeDiff, Nat.reduceEqDiff, reduceCtorEq, reduceIte, intD, (show (k:Int) < l.length by omega), h, eg, hq, hq2, hql, ga, (show 0 ≤ (q:Int) by omega)]
     repeat ((with_reducible refine And.intro ?_ ?_); (focus (first | omega | (simp only [lenR]; omega) | (refine qq ?_; rfl) | (refine dq ?_; kernel_rfl) | (intros; simp_all; done))))
     (try simp only [zP, seval, Nat.reduceLeDiff, Nat.reduceEqDiff, reduceCtorEq, reduceIte, intD, (show (k:Int) < l.length by omega), h, eg, hq, hq2, hql, ga, (show 0 ≤ (q:Int) by omega)])
     refine callF_pure (k_RPath a (by omega) hca q hql) ?_
     simp only [zP, seval, Nat.reduceLeDiff, Nat.reduceEqDiff, reduceCtorEq, reduceIte, intD, (show (k:Int) < l.length by omega), h, eg, hp, hp2, hpl, gb, (show 0 ≤ (p:Int) by omega)]
     repeat ((with_reducible refine And.intro ?_ ?_); (focus (first | omega | (simp only [lenR]; omega) | (refine qq ?_; rfl) | (refine dq ?_; kernel_rfl) | (intros; simp_all; done))))
     refine callF_pure (k_RPath b (by omega) hcb p hpl) ?_
     have ep : pathN b p = pth := by rw [hpth, pthP, if_pos cb, hp, Int.toNat_natCast]
     rw [ep]
     simp only [zP, seval, Nat.reduceLeDiff, Nat.reduceEqDiff, reduceCtorEq, reduceIte, intD]
     repeat ((with_reducible refine And.intro ?_ ?_); (focus (first | omega | (simp only [lenR]; omega) | (refine qq ?_; rfl) | (refine dq ?_; kernel_rfl) | (intros; simp_all; done))))
     refine ifC.mk (fun h2 => ?_) (fun h2 => ?_)
     ·have h2 : 0 < NA.count ∧ 0 < NB.count := by simpa using h2
      have hpf : partsF NA NB pth = [mkP pth sCount ((NB.count - NA.count) * NA.self) NA.count, mkP pth sMean (NB.self * NA.count - NB.count * NA.self) NA.count] := by rw [partsF, if_pos h2]
      repeat ((with_reducible refine And.intro ?_ ?_); (focus (first | omega | (simp only [lenR]; omega) | (refine qq ?_; rfl) | (refine dq ?_; kernel_rfl) | (intros; simp_all; done))))
      (try simp only [zP, seval, Nat.reduceLeDiff, Nat.reduceEqDiff, reduceCtorEq, reduceIte, intD, @a_wrap (NB.count - NA.count) (by omega), @a_wrap ((NB.count - NA.count) * NA.self) (by omega)])
      obtain ⟨O1, hO1⟩ : ∃ O, O = out ++ kpL pth sCount ((NB.count - NA.count) * NA.self) (NA.count) := ⟨_, rfl⟩
      have lO1 : O1.length ≤ out.length + 1 := by rw [hO1, List.length_append]; have := kp_len pth sCount ((NB.count - NA.count) * NA.self) (NA.count); omega
      refine callF_go ((ACalls.under [0] (by decide) (by intro i hi; obtain rfl := List.mem_singleton.1 hi; exact (by decide : 0 < 3)) (k_Radd out pth sCount ((NB.count - NA.count) * NA.self) (NA.count) ⟨by omega, by omega⟩ ⟨by omega, by omega⟩ (by omega))).mono fun r s hrs => ?_)
      obtain ⟨r0, s0, ⟨rfl, rfl⟩, rfl, rfl⟩ := hrs
      rw [← hO1, show backS [0] [Blk.arr 4 (out.map PartT.toD), Blk.box 5 (AV.d NA.toD), Blk.box 5 (AV.d NB.toD)] [Blk.dead, Blk.arr 4 (O1.map PartT.toD)] = [Blk.dead, Blk.box 5 (AV.d NA.toD), Blk.box 5 (AV.d NB.toD), Blk.arr 4 (O1.map PartT.toD)] from rfl, show back (backId [0] ([Blk.arr 4 (out.map PartT.toD), Blk.box 5 (AV.d NA.toD), Blk.box 5 (AV.d NB.toD)] : Sto).length) (AV.osl 1 0 O1.length) = AV.osl 3 0 O1.length from rfl]
      (try simp only [zP, seval, Nat.reduceLeDiff, Nat.reduceEqDiff, reduceCtorEq, reduceIte, intD, @a_wrap (NB.self * NA.count) (by omega), @a_wrap (NB.count * NA.self) (by omega), @a_wrap (NB.self * NA.count - NB.count * NA.self) (by omega)])
      repeat ((with_reducible refine And.intro ?_ ?_); (focus (first | omega | (simp only [lenR]; omega) | (refine qq ?_; rfl) | (refine dq ?_; kernel_rfl) | (intros; simp_all; done))))
      (try simp only [zP, seval, Nat.reduceLeDiff, Nat.reduceEqDiff, reduceCtorEq, reduceIte, intD, @a_wrap (NB.self * NA.count) (by omega), @a_wrap (NB.count * NA.self) (by omega), @a_wrap (NB.self * NA.count - NB.count * NA.self) (by omega)])
      obtain ⟨O2, hO2⟩ : ∃ O, O = O1 ++ kpL pth sMean (NB.self * NA.count - NB.count * NA.self) (NA.count) := ⟨_, rfl⟩
      have lO2 : O2.length ≤ O1.length + 1 := by rw [hO2, List.length_append]; have := kp_len pth sMean (NB.self * NA.count - NB.count * NA.self) (NA.count); omega
      refine callF_go ((ACalls.under [3] (by decide) (by intro i hi; obtain rfl := List.mem_singleton.1 hi; exact (by decide : 3 < 4)) (k_Radd O1 pth sMean (NB.self * NA.count - NB.count * NA.self) (NA.count) ⟨by omega, by omega⟩ ⟨by omega, by omega⟩ (by omega))).mono fun r s hrs => ?_)
      obtain ⟨r0, s0, ⟨rfl, rfl⟩, rfl, rfl⟩ := hrs
      rw [← hO2, show backS [3] [Blk.dead, Blk.box 5 (AV.d NA.toD), Blk.box 5 (AV.d NB.toD), Blk.arr 4 (O1.map PartT.toD)] [Blk.dead, Blk.arr 4 (O2.map PartT.toD)] = [Blk.dead, Blk.box 5 (AV.d NA.toD), Blk.box 5 (AV.d NB.toD), Blk.dead, Blk.arr 4 (O2.map PartT.toD)] from rfl, show back (backId [3] ([Blk.dead, Blk.box 5 (AV.d NA.toD), Blk.box 5 (AV.d NB.toD), Blk.arr 4 (O1.map PartT.toD)] : Sto).length) (AV.osl 1 0 O2.length) = AV.osl 4 0 O2.length from rfl]
      have hst2 : outK a b l (k + 1) = O2 := by rw [hst, hpf, keep2, ← List.append_assoc, hO2, hO1]; rfl
      rw [hst2]
      (try simp only [zP, seval, Nat.reduceLeDiff, Nat.reduceEqDiff, reduceCtorEq, reduceIte, intD])
      repeat ((with_reducible refine And.intro ?_ ?_); (focus (first | omega | (simp only [lenR]; omega) | (refine qq ?_; rfl) | (refine dq ?_; kernel_rfl) | (intros; simp_all; done))))
      refine weak_to [] [4] rfl (by simp) ?_ rfl
      simp only [zP, seval, Nat.reduceLeDiff, Nat.reduceEqDiff, reduceCtorEq, reduceIte, intD, @a_wrap ((k:Int) + 1) (by omega)]
      try rfl
     ·have h2 : ¬ (0 < NA.count ∧ 0 < NB.count) := by
       rintro ⟨g1, g2⟩
       simp [g1, g2] at h2
      have hpf : partsF NA NB pth = (if 0 < NA.count then [mkP pth sGone (-NA.self) 1] else []) ++ (if 0 < NB.count then [mkP pth sNew NB.self 1] else []) := by rw [partsF, if_neg h2]
      refine ifC.mk (fun h4 => ?_) (fun h4 => ?_)
      ·have h4 : 0 < NA.count := of_decide_eq_true h4
       have h5 : ¬ 0 < NB.count := fun g => h2 ⟨h4, g⟩
       rw [if_pos h4, if_neg h5, List.append_nil] at hpf
       repeat ((with_reducible refine And.intro ?_ ?_); (focus (first | omega | (simp only [lenR]; omega) | (refine qq ?_; rfl) | (refine dq ?_; kernel_rfl) | (intros; simp_all; done))))
       (try simp only [zP, seval, Nat.reduceLeDiff, Nat.reduceEqDiff, reduceCtorEq, reduceIte, intD, @a_wrap (0 - NA.self) (by omega)])
       obtain ⟨O1, hO1⟩ : ∃ O, O = out ++ kpL pth sGone (0 - NA.self) (1) := ⟨_, rfl⟩
       have lO1 : O1.length ≤ out.length + 1 := by rw [hO1, List.length_append]; have := kp_len pth sGone (0 - NA.self) (1); omega
       refine callF_go ((ACalls.under [0] (by decide) (by intro i hi; obtain rfl := List.mem_singleton.1 hi; exact (by decide : 0 < 3)) (k_Radd out pth sGone (0 - NA.self) (1) ⟨by omega, by omega⟩ ⟨by omega, by omega⟩ (by omega))).mono fun r s hrs => ?_)
       obtain ⟨r0, s0, ⟨rfl, rfl⟩, rfl, rfl⟩ := hrs
       rw [← hO1, show backS [0] [Blk.arr 4 (out.map PartT.toD), Blk.box 5 (AV.d NA.toD), Blk.box 5 (AV.d NB.toD)] [Blk.dead, Blk.arr 4 (O1.map PartT.toD)] = [Blk.dead, Blk.box 5 (AV.d NA.toD), Blk.box 5 (AV.d NB.toD), Blk.arr 4 (O1.map PartT.toD)] from rfl, show back (backId [0] ([Blk.arr 4 (out.map PartT.toD), Blk.box 5 (AV.d NA.toD), Blk.box 5 (AV.d NB.toD)] : Sto).length) (AV.osl 1 0 O1.length) = AV.osl 3 0 O1.length from rfl]
       have hst2 : outK a b l (k + 1) = O1 := by rw [hst, hpf, hO1, ← Int.zero_sub]; rfl
       rw [hst2]
       (try simp only [zP, seval, Nat.reduceLeDiff, Nat.reduceEqDiff, reduceCtorEq, reduceIte, intD, decide_eq_false h5])
       repeat ((with_reducible refine And.intro ?_ ?_); (focus (first | omega | (simp only [lenR]; omega) | (refine qq ?_; rfl) | (refine dq ?_; kernel_rfl) | (intros; simp_all; done))))
       refine weak_to [] [3] rfl (by simp) ?_ rfl
       simp only [zP, seval, Nat.reduceLeDiff, Nat.reduceEqDiff, reduceCtorEq, reduceIte, intD, @a_wrap ((k:Int) + 1) (by omega)]
       try rfl
      ·have h4 : ¬ 0 < NA.count := of_decide_eq_false h4
       rw [if_neg h4, List.nil_append] at hpf
       refine ifC.mk (fun h5 => ?_) (fun h5 => ?_)
       ·have h5 : 0 < NB.count := of_decide_eq_true h5
        rw [if_pos h5] at hpf
        repeat ((with_reducible refine And.intro ?_ ?_); (focus (first | omega | (simp only [lenR]; omega) | (refine qq ?_; rfl) | (refine dq ?_; kernel_rfl) | (intros; simp_all; done))))
        (try simp only [zP, seval, Nat.reduceLeDiff, Nat.reduceEqDiff, reduceCtorEq, reduceIte, intD])
        obtain ⟨O1, hO1⟩ : ∃ O, O = out ++ kpL pth sNew (NB.self) (1) := ⟨_, rfl⟩
        have lO1 : O1.length ≤ out.length + 1 := by rw [hO1, List.length_append]; have := kp_len pth sNew (NB.self) (1); omega
        refine callF_go ((ACalls.under [0] (by decide) (by intro i hi; obtain rfl := List.mem_singleton.1 hi; exact (by decide : 0 < 3)) (k_Radd out pth sNew (NB.self) (1) ⟨by omega, by omega⟩ ⟨by omega, by omega⟩ (by omega))).mono fun r s hrs => ?_)
        obtain ⟨r0, s0, ⟨rfl, rfl⟩, rfl, rfl⟩ := hrs
        rw [← hO1, show backS [0] [Blk.arr 4 (out.map PartT.toD), Blk.box 5 (AV.d NA.toD), Blk.box 5 (AV.d NB.toD)] [Blk.dead, Blk.arr 4 (O1.map PartT.toD)] = [Blk.dead, Blk.box 5 (AV.d NA.toD), Blk.box 5 (AV.d NB.toD), Blk.arr 4 (O1.map PartT.toD)] from rfl, show back (backId [0] ([Blk.arr 4 (out.map PartT.toD), Blk.box 5 (AV.d NA.toD), Blk.box 5 (AV.d NB.toD)] : Sto).length) (AV.osl 1 0 O1.length) = AV.osl 3 0 O1.length from rfl]
        have hst2 : outK a b l (k + 1) = O1 := by rw [hst, hpf, hO1]; rfl
        rw [hst2]
        (try simp only [zP, seval, Nat.reduceLeDiff, Nat.reduceEqDiff, reduceCtorEq, reduceIte, intD])
        repeat ((with_reducible refine And.intro ?_ ?_); (focus (first | omega | (simp only [lenR]; omega) | (refine qq ?_; rfl) | (refine dq ?_; kernel_rfl) | (intros; simp_all; done))))
        refine weak_to [] [3] rfl (by simp) ?_ rfl
        simp only [zP, seval, Nat.reduceLeDiff, Nat.reduceEqDiff, reduceCtorEq, reduceIte, intD, @a_wrap ((k:Int) + 1) (by omega)]
        try rfl
       ·have h5 : ¬ 0 < NB.count := of_decide_eq_false h5
        rw [if_neg h5] at hpf
        have hst2 : outK a b l (k + 1) = out := by rw [hst, hpf]; exact List.append_nil _
        rw [hst2]
        refine weak_to [] [0] rfl (by simp) ?_ rfl
        simp only [zP, seval, Nat.reduceLeDiff, Nat.reduceEqDiff, reduceCtorEq, reduceIte, intD, @a_wrap ((k:Int) + 1) (by omega)]
        try rfl
    ·have zz : D.agg [.int .i64 0, .str [], .int .i64 0, .int .i64 0, .int .i64 0] = NB.toD := by rw [hNB, ndAt, if_pos (by omega)]; rfl
     simp only [zP, seval, Nat.reduceLeDiff, Nat.reduceEqDiff, reduceCtorEq, reduceIte, intD, (show (k:Int) < l.length by omega), h, eg, hq, hq2, hql, ga, (show 0 ≤ (q:Int) by omega), zz]
     repeat ((with_reducible refine And.intro ?_ ?_); (focus (first | omega | (simp only [lenR]; omega) | (refine qq ?_; rfl) | (refine dq ?_; kernel_rfl) | (intros; simp_all; done))))
     refine callF_pure (k_RPath a (by omega) hca q hql) ?_
     have ep : pathN a q = pth := by rw [hpth, pthP, if_neg cb, hq, Int.toNat_natCast]
     rw [ep]
     simp only [zP, seval, Nat.reduceLeDiff, Nat.reduceEqDiff, reduceCtorEq, reduceIte, intD, (show (k:Int) < l.length by omega), h, eg, decide_eq_false cb]
     repeat ((with_reducible refine And.intro ?_ ?_); (focus (first | omega | (simp only [lenR]; omega) | (refine qq ?_; rfl) | (refine dq ?_; kernel_rfl) | (intros; simp_all; done))))
     refine ifC.mk (fun h2 => ?_) (fun h2 => ?_)
     ·have h2 : 0 < NA.count ∧ 0 < NB.count := by simpa using h2
      have hpf : partsF NA NB pth = [mkP pth sCount ((NB.count - NA.count) * NA.self) NA.count, mkP pth sMean (NB.self * NA.count - NB.count * NA.self) NA.count] := by rw [partsF, if_pos h2]
      repeat ((with_reducible refine And.intro ?_ ?_); (focus (first | omega | (simp only [lenR]; omega) | (refine qq ?_; rfl) | (refine dq ?_; kernel_rfl) | (intros; simp_all; done))))
      (try simp only [zP, seval, Nat.reduceLeDiff, Nat.reduceEqDiff, reduceCtorEq, reduceIte, intD, @a_wrap (NB.count - NA.count) (by omega), @a_wrap ((NB.count - NA.count) * NA.self) (by omega)])
      obtain ⟨O1, hO1⟩ : ∃ O, O = out ++ kpL pth sCount ((NB.count - NA.count) * NA.self) (NA.count) := ⟨_, rfl⟩
      have lO1 : O1.length ≤ out.length + 1 := by rw [hO1, List.length_append]; have := kp_len pth sCount ((NB.count - NA.count) * NA.self) (NA.count); omega
      refine callF_go ((ACalls.under [0] (by decide) (by intro i hi; obtain rfl := List.mem_singleton.1 hi; exact (by decide : 0 < 3)) (k_Radd out pth sCount ((NB.count - NA.count) * NA.self) (NA.count) ⟨by omega, by omega⟩ ⟨by omega, by omega⟩ (by omega))).mono fun r s hrs => ?_)
      obtain ⟨r0, s0, ⟨rfl, rfl⟩, rfl, rfl⟩ := hrs
      rw [← hO1, show backS [0] [Blk.arr 4 (out.map PartT.toD), Blk.box 5 (AV.d NA.toD), Blk.box 5 (AV.d NB.toD)] [Blk.dead, Blk.arr 4 (O1.map PartT.toD)] = [Blk.dead, Blk.box 5 (AV.d NA.toD), Blk.box 5 (AV.d NB.toD), Blk.arr 4 (O1.map PartT.toD)] from rfl, show back (backId [0] ([Blk.arr 4 (out.map PartT.toD), Blk.box 5 (AV.d NA.toD), Blk.box 5 (AV.d NB.toD)] : Sto).length) (AV.osl 1 0 O1.length) = AV.osl 3 0 O1.length from rfl]
      (try simp only [zP, seval, Nat.reduceLeDiff, Nat.reduceEqDiff, reduceCtorEq, reduceIte, intD, @a_wrap (NB.self * NA.count) (by omega), @a_wrap (NB.count * NA.self) (by omega), @a_wrap (NB.self * NA.count - NB.count * NA.self) (by omega)])
      repeat ((with_reducible refine And.intro ?_ ?_); (focus (first | omega | (simp only [lenR]; omega) | (refine qq ?_; rfl) | (refine dq ?_; kernel_rfl) | (intros; simp_all; done))))
      (try simp only [zP, seval, Nat.reduceLeDiff, Nat.reduceEqDiff, reduceCtorEq, reduceIte, intD, @a_wrap (NB.self * NA.count) (by omega), @a_wrap (NB.count * NA.self) (by omega), @a_wrap (NB.self * NA.count - NB.count * NA.self) (by omega)])
      obtain ⟨O2, hO2⟩ : ∃ O, O = O1 ++ kpL pth sMean (NB.self * NA.count - NB.count * NA.self) (NA.count) := ⟨_, rfl⟩
      have lO2 : O2.length ≤ O1.length + 1 := by rw [hO2, List.length_append]; have := kp_len pth sMean (NB.self * NA.count - NB.count * NA.self) (NA.count); omega
      refine callF_go ((ACalls.under [3] (by decide) (by intro i hi; obtain rfl := List.mem_singleton.1 hi; exact (by decide : 3 < 4)) (k_Radd O1 pth sMean (NB.self * NA.count - NB.count * NA.self) (NA.count) ⟨by omega, by omega⟩ ⟨by omega, by omega⟩ (by omega))).mono fun r s hrs => ?_)
      obtain ⟨r0, s0, ⟨rfl, rfl⟩, rfl, rfl⟩ := hrs
      rw [← hO2, show backS [3] [Blk.dead, Blk.box 5 (AV.d NA.toD), Blk.box 5 (AV.d NB.toD), Blk.arr 4 (O1.map PartT.toD)] [Blk.dead, Blk.arr 4 (O2.map PartT.toD)] = [Blk.dead, Blk.box 5 (AV.d NA.toD), Blk.box 5 (AV.d NB.toD), Blk.dead, Blk.arr 4 (O2.map PartT.toD)] from rfl, show back (backId [3] ([Blk.dead, Blk.box 5 (AV.d NA.toD), Blk.box 5 (AV.d NB.toD), Blk.arr 4 (O1.map PartT.toD)] : Sto).length) (AV.osl 1 0 O2.length) = AV.osl 4 0 O2.length from rfl]
      have hst2 : outK a b l (k + 1) = O2 := by rw [hst, hpf, keep2, ← List.append_assoc, hO2, hO1]; rfl
      rw [hst2]
      (try simp only [zP, seval, Nat.reduceLeDiff, Nat.reduceEqDiff, reduceCtorEq, reduceIte, intD])
      repeat ((with_reducible refine And.intro ?_ ?_); (focus (first | omega | (simp only [lenR]; omega) | (refine qq ?_; rfl) | (refine dq ?_; kernel_rfl) | (intros; simp_all; done))))
      refine weak_to [] [4] rfl (by simp) ?_ rfl
      simp only [zP, seval, Nat.reduceLeDiff, Nat.reduceEqDiff, reduceCtorEq, reduceIte, intD, @a_wrap ((k:Int) + 1) (by omega)]
      try rfl
     ·have h2 : ¬ (0 < NA.count ∧ 0 < NB.count) := by
       rintro ⟨g1, g2⟩
       simp [g1, g2] at h2
      have hpf : partsF NA NB pth = (if 0 < NA.count then [mkP pth sGone (-NA.self) 1] else []) ++ (if 0 < NB.count then [mkP pth sNew NB.self 1] else []) := by rw [partsF, if_neg h2]
      refine ifC.mk (fun h4 => ?_) (fun h4 => ?_)
      ·have h4 : 0 < NA.count := of_decide_eq_true h4
       have h5 : ¬ 0 < NB.count := fun g => h2 ⟨h4, g⟩
       rw [if_pos h4, if_neg h5, List.append_nil] at hpf
       repeat ((with_reducible refine And.intro ?_ ?_); (focus (first | omega | (simp only [lenR]; omega) | (refine qq ?_; rfl) | (refine dq ?_; kernel_rfl) | (intros; simp_all; done))))
       (try simp only [zP, seval, Nat.reduceLeDiff, Nat.reduceEqDiff, reduceCtorEq, reduceIte, intD, @a_wrap (0 - NA.self) (by omega)])
       obtain ⟨O1, hO1⟩ : ∃ O, O = out ++ kpL pth sGone (0 - NA.self) (1) := ⟨_, rfl⟩
       have lO1 : O1.length ≤ out.length + 1 := by rw [hO1, List.length_append]; have := kp_len pth sGone (0 - NA.self) (1); omega
       refine callF_go ((ACalls.under [0] (by decide) (by intro i hi; obtain rfl := List.mem_singleton.1 hi; exact (by decide : 0 < 3)) (k_Radd out pth sGone (0 - NA.self) (1) ⟨by omega, by omega⟩ ⟨by omega, by omega⟩ (by omega))).mono fun r s hrs => ?_)
       obtain ⟨r0, s0, ⟨rfl, rfl⟩, rfl, rfl⟩ := hrs
       rw [← hO1, show backS [0] [Blk.arr 4 (out.map PartT.toD), Blk.box 5 (AV.d NA.toD), Blk.box 5 (AV.d NB.toD)] [Blk.dead, Blk.arr 4 (O1.map PartT.toD)] = [Blk.dead, Blk.box 5 (AV.d NA.toD), Blk.box 5 (AV.d NB.toD), Blk.arr 4 (O1.map PartT.toD)] from rfl, show back (backId [0] ([Blk.arr 4 (out.map PartT.toD), Blk.box 5 (AV.d NA.toD), Blk.box 5 (AV.d NB.toD)] : Sto).length) (AV.osl 1 0 O1.length) = AV.osl 3 0 O1.length from rfl]
       have hst2 : outK a b l (k + 1) = O1 := by rw [hst, hpf, hO1, ← Int.zero_sub]; rfl
       rw [hst2]
       (try simp only [zP, seval, Nat.reduceLeDiff, Nat.reduceEqDiff, reduceCtorEq, reduceIte, intD, decide_eq_false h5])
       repeat ((with_reducible refine And.intro ?_ ?_); (focus (first | omega | (simp only [lenR]; omega) | (refine qq ?_; rfl) | (refine dq ?_; kernel_rfl) | (intros; simp_all; done))))
       refine weak_to [] [3] rfl (by simp) ?_ rfl
       simp only [zP, seval, Nat.reduceLeDiff, Nat.reduceEqDiff, reduceCtorEq, reduceIte, intD, @a_wrap ((k:Int) + 1) (by omega)]
       try rfl
      ·have h4 : ¬ 0 < NA.count := of_decide_eq_false h4
       rw [if_neg h4, List.nil_append] at hpf
       refine ifC.mk (fun h5 => ?_) (fun h5 => ?_)
       ·have h5 : 0 < NB.count := of_decide_eq_true h5
        rw [if_pos h5] at hpf
        repeat ((with_reducible refine And.intro ?_ ?_); (focus (first | omega | (simp only [lenR]; omega) | (refine qq ?_; rfl) | (refine dq ?_; kernel_rfl) | (intros; simp_all; done))))
        (try simp only [zP, seval, Nat.reduceLeDiff, Nat.reduceEqDiff, reduceCtorEq, reduceIte, intD])
        obtain ⟨O1, hO1⟩ : ∃ O, O = out ++ kpL pth sNew (NB.self) (1) := ⟨_, rfl⟩
        have lO1 : O1.length ≤ out.length + 1 := by rw [hO1, List.length_append]; have := kp_len pth sNew (NB.self) (1); omega
        refine callF_go ((ACalls.under [0] (by decide) (by intro i hi; obtain rfl := List.mem_singleton.1 hi; exact (by decide : 0 < 3)) (k_Radd out pth sNew (NB.self) (1) ⟨by omega, by omega⟩ ⟨by omega, by omega⟩ (by omega))).mono fun r s hrs => ?_)
        obtain ⟨r0, s0, ⟨rfl, rfl⟩, rfl, rfl⟩ := hrs
        rw [← hO1, show backS [0] [Blk.arr 4 (out.map PartT.toD), Blk.box 5 (AV.d NA.toD), Blk.box 5 (AV.d NB.toD)] [Blk.dead, Blk.arr 4 (O1.map PartT.toD)] = [Blk.dead, Blk.box 5 (AV.d NA.toD), Blk.box 5 (AV.d NB.toD), Blk.arr 4 (O1.map PartT.toD)] from rfl, show back (backId [0] ([Blk.arr 4 (out.map PartT.toD), Blk.box 5 (AV.d NA.toD), Blk.box 5 (AV.d NB.toD)] : Sto).length) (AV.osl 1 0 O1.length) = AV.osl 3 0 O1.length from rfl]
        have hst2 : outK a b l (k + 1) = O1 := by rw [hst, hpf, hO1]; rfl
        rw [hst2]
        (try simp only [zP, seval, Nat.reduceLeDiff, Nat.reduceEqDiff, reduceCtorEq, reduceIte, intD])
        repeat ((with_reducible refine And.intro ?_ ?_); (focus (first | omega | (simp only [lenR]; omega) | (refine qq ?_; rfl) | (refine dq ?_; kernel_rfl) | (intros; simp_all; done))))
        refine weak_to [] [3] rfl (by simp) ?_ rfl
        simp only [zP, seval, Nat.reduceLeDiff, Nat.reduceEqDiff, reduceCtorEq, reduceIte, intD, @a_wrap ((k:Int) + 1) (by omega)]
        try rfl
       ·have h5 : ¬ 0 < NB.count := of_decide_eq_false h5
        rw [if_neg h5] at hpf
        have hst2 : outK a b l (k + 1) = out := by rw [hst, hpf]; exact List.append_nil _
        rw [hst2]
        refine weak_to [] [0] rfl (by simp) ?_ rfl
        simp only [zP, seval, Nat.reduceLeDiff, Nat.reduceEqDiff, reduceCtorEq, reduceIte, intD, @a_wrap ((k:Int) + 1) (by omega)]
        try rfl
   ·have cb : 0 ≤ x.b := by omega
    obtain ⟨p, hp⟩ : ∃ p : Nat, x.b = p := ⟨x.b.toNat, by omega⟩
    have hpl : p < b.length := by omega
    have hp2 : (p : Int) < b.length := by omega
    have gb : (b.map NodeT.toD).getD p default = NB.toD := by rw [a_getD _ _ _ hpl, hNB, ndAt, if_neg (by omega), hp, Int.toNat_natCast]
    have zz : D.agg [.int .i64 0, .str [], .int .i64 0, .int .i64 0, .int .i64 0] = NA.toD := by rw [hNA, ndAt, if_pos (by omega)]; rfl
    simp only [zP, seval, Nat.reduceLeDiff, Nat.reduceEqDiff, reduceCtorEq, reduceIte, intD, (show (k:Int) < l.length by omega), h, eg, decide_eq_false ca, hp, hp2, hpl, gb, (show 0 ≤ (p:Int) by omega), zz]
    repeat ((with_reducible refine And.intro ?_ ?_); (focus (first | omega | (simp only [lenR]; omega) | (refine qq ?_; rfl) | (refine dq ?_; kernel_rfl) | (intros; simp_all; done))))
    refine callF_pure (k_RPath b (by omega) hcb p hpl) ?_
    have ep : pathN b p = pth := by rw [hpth, pthP, if_pos cb, hp, Int.toNat_natCast]
    rw [ep]
    simp only [zP, seval, Nat.reduceLeDiff, Nat.reduceEqDiff, reduceCtorEq, reduceIte, intD]
    repeat ((with_reducible refine And.intro ?_ ?_); (focus (first | omega | (simp only [lenR]; omega) | (refine qq ?_; rfl) | (refine dq ?_; kernel_rfl) | (intros; simp_all; done))))
    refine ifC.mk (fun h2 => ?_) (fun h2 => ?_)
    ·have h2 : 0 < NA.count ∧ 0 < NB.count := by simpa using h2
     have hpf : partsF NA NB pth = [mkP pth sCount ((NB.count - NA.count) * NA.self) NA.count, mkP pth sMean (NB.self * NA.count - NB.count * NA.self) NA.count] := by rw [partsF, if_pos h2]
     repeat ((with_reducible refine And.intro ?_ ?_); (focus (first | omega | (simp only [lenR]; omega) | (refine qq ?_; rfl) | (refine dq ?_; kernel_rfl) | (intros; simp_all; done))))
     (try simp only [zP, seval, Nat.reduceLeDiff, Nat.reduceEqDiff, reduceCtorEq, reduceIte, intD, @a_wrap (NB.count - NA.count) (by omega), @a_wrap ((NB.count - NA.count) * NA.self) (by omega)])
     obtain ⟨O1, hO1⟩ : ∃ O, O = out ++ kpL pth sCount ((NB.count - NA.count) * NA.self) (NA.count) := ⟨_, rfl⟩
     have lO1 : O1.length ≤ out.length + 1 := by rw [hO1, List.length_append]; have := kp_len pth sCount ((NB.count - NA.count) * NA.self) (NA.count); omega
     refine callF_go ((ACalls.under [0] (by decide) (by intro i hi; obtain rfl := List.mem_singleton.1 hi; exact (by decide : 0 < 3)) (k_Radd out pth sCount ((NB.count - NA.count) * NA.self) (NA.count) ⟨by omega, by omega⟩ ⟨by omega, by omega⟩ (by omega))).mono fun r s hrs => ?_)
     obtain ⟨r0, s0, ⟨rfl, rfl⟩, rfl, rfl⟩ := hrs
     rw [← hO1, show backS [0] [Blk.arr 4 (out.map PartT.toD), Blk.box 5 (AV.d NA.toD), Blk.box 5 (AV.d NB.toD)] [Blk.dead, Blk.arr 4 (O1.map PartT.toD)] = [Blk.dead, Blk.box 5 (AV.d NA.toD), Blk.box 5 (AV.d NB.toD), Blk.arr 4 (O1.map PartT.toD)] from rfl, show back (backId [0] ([Blk.arr 4 (out.map PartT.toD), Blk.box 5 (AV.d NA.toD), Blk.box 5 (AV.d NB.toD)] : Sto).length) (AV.osl 1 0 O1.length) = AV.osl 3 0 O1.length from rfl]
     (try simp only [zP, seval, Nat.reduceLeDiff, Nat.reduceEqDiff, reduceCtorEq, reduceIte, intD, @a_wrap (NB.self * NA.count) (by omega), @a_wrap (NB.count * NA.self) (by omega), @a_wrap (NB.self * NA.count - NB.count * NA.self) (by omega)])
     repeat ((with_reducible refine And.intro ?_ ?_); (focus (first | omega | (simp only [lenR]; omega) | (refine qq ?_; rfl) | (refine dq ?_; kernel_rfl) | (intros; simp_all; done))))
     (try simp only [zP, seval, Nat.reduceLeDiff, Nat.reduceEqDiff, reduceCtorEq, reduceIte, intD, @a_wrap (NB.self * NA.count) (by omega), @a_wrap (NB.count * NA.self) (by omega), @a_wrap (NB.self * NA.count - NB.count * NA.self) (by omega)])
     obtain ⟨O2, hO2⟩ : ∃ O, O = O1 ++ kpL pth sMean (NB.self * NA.count - NB.count * NA.self) (NA.count) := ⟨_, rfl⟩
     have lO2 : O2.length ≤ O1.length + 1 := by rw [hO2, List.length_append]; have := kp_len pth sMean (NB.self * NA.count - NB.count * NA.self) (NA.count); omega
     refine callF_go ((ACalls.under [3] (by decide) (by intro i hi; obtain rfl := List.mem_singleton.1 hi; exact (by decide : 3 < 4)) (k_Radd O1 pth sMean (NB.self * NA.count - NB.count * NA.self) (NA.count) ⟨by omega, by omega⟩ ⟨by omega, by omega⟩ (by omega))).mono fun r s hrs => ?_)
     obtain ⟨r0, s0, ⟨rfl, rfl⟩, rfl, rfl⟩ := hrs
     rw [← hO2, show backS [3] [Blk.dead, Blk.box 5 (AV.d NA.toD), Blk.box 5 (AV.d NB.toD), Blk.arr 4 (O1.map PartT.toD)] [Blk.dead, Blk.arr 4 (O2.map PartT.toD)] = [Blk.dead, Blk.box 5 (AV.d NA.toD), Blk.box 5 (AV.d NB.toD), Blk.dead, Blk.arr 4 (O2.map PartT.toD)] from rfl, show back (backId [3] ([Blk.dead, Blk.box 5 (AV.d NA.toD), Blk.box 5 (AV.d NB.toD), Blk.arr 4 (O1.map PartT.toD)] : Sto).length) (AV.osl 1 0 O2.length) = AV.osl 4 0 O2.length from rfl]
     have hst2 : outK a b l (k + 1) = O2 := by rw [hst, hpf, keep2, ← List.append_assoc, hO2, hO1]; rfl
     rw [hst2]
     (try simp only [zP, seval, Nat.reduceLeDiff, Nat.reduceEqDiff, reduceCtorEq, reduceIte, intD])
     repeat ((with_reducible refine And.intro ?_ ?_); (focus (first | omega | (simp only [lenR]; omega) | (refine qq ?_; rfl) | (refine dq ?_; kernel_rfl) | (intros; simp_all; done))))
     refine weak_to [] [4] rfl (by simp) ?_ rfl
     simp only [zP, seval, Nat.reduceLeDiff, Nat.reduceEqDiff, reduceCtorEq, reduceIte, intD, @a_wrap ((k:Int) + 1) (by omega)]
     try rfl
    ·have h2 : ¬ (0 < NA.count ∧ 0 < NB.count) := by
      rintro ⟨g1, g2⟩
      simp [g1, g2] at h2
     have hpf : partsF NA NB pth = (if 0 < NA.count then [mkP pth sGone (-NA.self) 1] else []) ++ (if 0 < NB.count then [mkP pth sNew NB.self 1] else []) := by rw [partsF, if_neg h2]
     refine ifC.mk (fun h4 => ?_) (fun h4 => ?_)
     ·have h4 : 0 < NA.count := of_decide_eq_true h4
      have h5 : ¬ 0 < NB.count := fun g => h2 ⟨h4, g⟩
      rw [if_pos h4, if_neg h5, List.append_nil] at hpf
      repeat ((with_reducible refine And.intro ?_ ?_); (focus (first | omega | (simp only [lenR]; omega) | (refine qq ?_; rfl) | (refine dq ?_; kernel_rfl) | (intros; simp_all; done))))
      (try simp only [zP, seval, Nat.reduceLeDiff, Nat.reduceEqDiff, reduceCtorEq, reduceIte, intD, @a_wrap (0 - NA.self) (by omega)])
      obtain ⟨O1, hO1⟩ : ∃ O, O = out ++ kpL pth sGone (0 - NA.self) (1) := ⟨_, rfl⟩
      have lO1 : O1.length ≤ out.length + 1 := by rw [hO1, List.length_append]; have := kp_len pth sGone (0 - NA.self) (1); omega
      refine callF_go ((ACalls.under [0] (by decide) (by intro i hi; obtain rfl := List.mem_singleton.1 hi; exact (by decide : 0 < 3)) (k_Radd out pth sGone (0 - NA.self) (1) ⟨by omega, by omega⟩ ⟨by omega, by omega⟩ (by omega))).mono fun r s hrs => ?_)
      obtain ⟨r0, s0, ⟨rfl, rfl⟩, rfl, rfl⟩ := hrs
      rw [← hO1, show backS [0] [Blk.arr 4 (out.map PartT.toD), Blk.box 5 (AV.d NA.toD), Blk.box 5 (AV.d NB.toD)] [Blk.dead, Blk.arr 4 (O1.map PartT.toD)] = [Blk.dead, Blk.box 5 (AV.d NA.toD), Blk.box 5 (AV.d NB.toD), Blk.arr 4 (O1.map PartT.toD)] from rfl, show back (backId [0] ([Blk.arr 4 (out.map PartT.toD), Blk.box 5 (AV.d NA.toD), Blk.box 5 (AV.d NB.toD)] : Sto).length) (AV.osl 1 0 O1.length) = AV.osl 3 0 O1.length from rfl]
      have hst2 : outK a b l (k + 1) = O1 := by rw [hst, hpf, hO1, ← Int.zero_sub]; rfl
      rw [hst2]
      (try simp only [zP, seval, Nat.reduceLeDiff, Nat.reduceEqDiff, reduceCtorEq, reduceIte, intD, decide_eq_false h5])
      repeat ((with_reducible refine And.intro ?_ ?_); (focus (first | omega | (simp only [lenR]; omega) | (refine qq ?_; rfl) | (refine dq ?_; kernel_rfl) | (intros; simp_all; done))))
      refine weak_to [] [3] rfl (by simp) ?_ rfl
      simp only [zP, seval, Nat.reduceLeDiff, Nat.reduceEqDiff, reduceCtorEq, reduceIte, intD, @a_wrap ((k:Int) + 1) (by omega)]
      try rfl
     ·have h4 : ¬ 0 < NA.count := of_decide_eq_false h4
      rw [if_neg h4, List.nil_append] at hpf
      refine ifC.mk (fun h5 => ?_) (fun h5 => ?_)
      ·have h5 : 0 < NB.count := of_decide_eq_true h5
       rw [if_pos h5] at hpf
       repeat ((with_reducible refine And.intro ?_ ?_); (focus (first | omega | (simp only [lenR]; omega) | (refine qq ?_; rfl) | (refine dq ?_; kernel_rfl) | (intros; simp_all; done))))
       (try simp only [zP, seval, Nat.reduceLeDiff, Nat.reduceEqDiff, reduceCtorEq, reduceIte, intD])
       obtain ⟨O1, hO1⟩ : ∃ O, O = out ++ kpL pth sNew (NB.self) (1) := ⟨_, rfl⟩
       have lO1 : O1.length ≤ out.length + 1 := by rw [hO1, List.length_append]; have := kp_len pth sNew (NB.self) (1); omega
       refine callF_go ((ACalls.under [0] (by decide) (by intro i hi; obtain rfl := List.mem_singleton.1 hi; exact (by decide : 0 < 3)) (k_Radd out pth sNew (NB.self) (1) ⟨by omega, by omega⟩ ⟨by omega, by omega⟩ (by omega))).mono fun r s hrs => ?_)
       obtain ⟨r0, s0, ⟨rfl, rfl⟩, rfl, rfl⟩ := hrs
       rw [← hO1, show backS [0] [Blk.arr 4 (out.map PartT.toD), Blk.box 5 (AV.d NA.toD), Blk.box 5 (AV.d NB.toD)] [Blk.dead, Blk.arr 4 (O1.map PartT.toD)] = [Blk.dead, Blk.box 5 (AV.d NA.toD), Blk.box 5 (AV.d NB.toD), Blk.arr 4 (O1.map PartT.toD)] from rfl, show back (backId [0] ([Blk.arr 4 (out.map PartT.toD), Blk.box 5 (AV.d NA.toD), Blk.box 5 (AV.d NB.toD)] : Sto).length) (AV.osl 1 0 O1.length) = AV.osl 3 0 O1.length from rfl]
       have hst2 : outK a b l (k + 1) = O1 := by rw [hst, hpf, hO1]; rfl
       rw [hst2]
       (try simp only [zP, seval, Nat.reduceLeDiff, Nat.reduceEqDiff, reduceCtorEq, reduceIte, intD])
       repeat ((with_reducible refine And.intro ?_ ?_); (focus (first | omega | (simp only [lenR]; omega) | (refine qq ?_; rfl) | (refine dq ?_; kernel_rfl) | (intros; simp_all; done))))
       refine weak_to [] [3] rfl (by simp) ?_ rfl
       simp only [zP, seval, Nat.reduceLeDiff, Nat.reduceEqDiff, reduceCtorEq, reduceIte, intD, @a_wrap ((k:Int) + 1) (by omega)]
       try rfl
      ·have h5 : ¬ 0 < NB.count := of_decide_eq_false h5
       rw [if_neg h5] at hpf
       have hst2 : outK a b l (k + 1) = out := by rw [hst, hpf]; exact List.append_nil _
       rw [hst2]
       refine weak_to [] [0] rfl (by simp) ?_ rfl
       simp only [zP, seval, Nat.reduceLeDiff, Nat.reduceEqDiff, reduceCtorEq, reduceIte, intD, @a_wrap ((k:Int) + 1) (by omega)]
       try rfl
  ·have : k = l.length := by omega
   subst this
   simp only [zP, seval, Nat.reduceLeDiff, Nat.reduceEqDiff, reduceCtorEq, reduceIte, intD, (show ¬ (l.length:Int) < l.length by omega)]
   refine ⟨_, _, ret_tdata rfl (x := .sl ((outK a b l l.length).map PartT.toD)) ?_, ?_, rfl⟩
   ·show D.sl (List.take (outK a b l l.length).length ((outK a b l l.length).map PartT.toD)) = _
    rw [take_all]
   ·rw [outK, List.take_length]

def ltP (x y : PartT) : Bool := decide (ordP x y < 0)
def insP (l : List PartT) (b : PartT) (p : Nat) : List PartT := l.take p ++ b :: l.drop p

theorem ex1 : eOfF [lfN 10 100] [lfN 12 150] = ([ptN sCount 20 1, ptN sMean 30 1], 0) := by decide +kernel
theorem ex2 : eOfF [] [lfN 2 8] = ([ptN sNew 8 1], 0) := by decide +kernel
theorem ex3 : eOfF [lfN 3 10] [lfN 2 10] = ([ptN sCount (-10) 3, ptN sMean 10 3], 0) := by decide +kernel
theorem ex4 : diffF [lfN 10 100] [lfN 12 150] = (50, 0) := by decide +kernel
theorem ex5 : topF [ptN sCount 20 1, ptN sMean 30 1] 1 = ([ptN sMean 30 1, ⟨[], sRest, ⟨20, 1⟩⟩], 0) := by decide +kernel
theorem k_awake : Pure Tryz.prog Gl 6 [] (.d (.bool true)) := by
 refine Pure.of0 ?_
 refine acalls_of Tryz.func6 rfl rfl (by simp [Tryz.ntmps6]) (evC_sound rfl _ _ _ _ ?_)
 simp only [Tryz.ntmps6, Tryz.results6, argEnv, List.length_nil]
 simp only [zP, seval, Nat.reduceLeDiff, Nat.reduceEqDiff, reduceCtorEq, reduceIte, intD]
 refine callF_pure (k_leaf _ _) ?_
 simp only [zP, seval, Nat.reduceLeDiff, Nat.reduceEqDiff, reduceCtorEq, reduceIte, intD]
 repeat ((with_reducible refine And.intro ?_ ?_); (focus (first | omega | (simp only [lenR]; omega) | (refine qq ?_; rfl) | (refine dq ?_; kernel_rfl) | (intros; simp_all; done))))
 refine callF_pure (k_leaf _ _) ?_
 simp only [zP, seval, Nat.reduceLeDiff, Nat.reduceEqDiff, reduceCtorEq, reduceIte, intD]
 repeat ((with_reducible refine And.intro ?_ ?_); (focus (first | omega | (simp only [lenR]; omega) | (refine qq ?_; rfl) | (refine dq ?_; kernel_rfl) | (intros; simp_all; done))))
 refine callF_pure (k_EOf [lfN 10 100] [lfN 12 150] (by decide) (by decide)) ?_
 rw [eOfD, ex1]
 simp only [zP, seval, Nat.reduceLeDiff, Nat.reduceEqDiff, reduceCtorEq, reduceIte, intD]
 repeat ((with_reducible refine And.intro ?_ ?_); (focus (first | omega | (simp only [lenR]; omega) | (refine qq ?_; rfl) | (refine dq ?_; kernel_rfl) | (intros; simp_all; done))))
 refine callF_pure (k_leaf _ _) ?_
 simp only [zP, seval, Nat.reduceLeDiff, Nat.reduceEqDiff, reduceCtorEq, reduceIte, intD]
 repeat ((with_reducible refine And.intro ?_ ?_); (focus (first | omega | (simp only [lenR]; omega) | (refine qq ?_; rfl) | (refine dq ?_; kernel_rfl) | (intros; simp_all; done))))
 refine callF_dataE (as' := [.d (.sl ([].map NodeT.toD)), .d (.sl ([lfN 2 8].map NodeT.toD))]) (σ' := []) (k_EOf [] [lfN 2 8] (by decide) (by decide)) rfl rfl ?_
 rw [eOfD, ex2]
 simp only [zP, seval, Nat.reduceLeDiff, Nat.reduceEqDiff, reduceCtorEq, reduceIte, intD]
 repeat ((with_reducible refine And.intro ?_ ?_); (focus (first | omega | (simp only [lenR]; omega) | (refine qq ?_; rfl) | (refine dq ?_; kernel_rfl) | (intros; simp_all; done))))
 refine callF_pure (k_leaf _ _) ?_
 simp only [zP, seval, Nat.reduceLeDiff, Nat.reduceEqDiff, reduceCtorEq, reduceIte, intD]
 repeat ((with_reducible refine And.intro ?_ ?_); (focus (first | omega | (simp only [lenR]; omega) | (refine qq ?_; rfl) | (refine dq ?_; kernel_rfl) | (intros; simp_all; done))))
 refine callF_pure (k_leaf _ _) ?_
 simp only [zP, seval, Nat.reduceLeDiff, Nat.reduceEqDiff, reduceCtorEq, reduceIte, intD]
 repeat ((with_reducible refine And.intro ?_ ?_); (focus (first | omega | (simp only [lenR]; omega) | (refine qq ?_; rfl) | (refine dq ?_; kernel_rfl) | (intros; simp_all; done))))
 refine callF_pure (k_EOf [lfN 3 10] [lfN 2 10] (by decide) (by decide)) ?_
 rw [eOfD, ex3]
 simp only [zP, seval, Nat.reduceLeDiff, Nat.reduceEqDiff, reduceCtorEq, reduceIte, intD]
 repeat ((with_reducible refine And.intro ?_ ?_); (focus (first | omega | (simp only [lenR]; omega) | (refine qq ?_; rfl) | (refine dq ?_; kernel_rfl) | (intros; simp_all; done))))
 refine callF_pure (k_leaf _ _) ?_
 simp only [zP, seval, Nat.reduceLeDiff, Nat.reduceEqDiff, reduceCtorEq, reduceIte, intD]
 repeat ((with_reducible refine And.intro ?_ ?_); (focus (first | omega | (simp only [lenR]; omega) | (refine qq ?_; rfl) | (refine dq ?_; kernel_rfl) | (intros; simp_all; done))))
 refine callF_pure (k_leaf _ _) ?_
 simp only [zP, seval, Nat.reduceLeDiff, Nat.reduceEqDiff, reduceCtorEq, reduceIte, intD]
 repeat ((with_reducible refine And.intro ?_ ?_); (focus (first | omega | (simp only [lenR]; omega) | (refine qq ?_; rfl) | (refine dq ?_; kernel_rfl) | (intros; simp_all; done))))
 refine callF_pure (k_Diff [lfN 10 100] [lfN 12 150] (by decide) (by decide)) ?_
 rw [ex4]
 simp only [zP, seval, Nat.reduceLeDiff, Nat.reduceEqDiff, reduceCtorEq, reduceIte, intD]
 repeat ((with_reducible refine And.intro ?_ ?_); (focus (first | omega | (simp only [lenR]; omega) | (refine qq ?_; rfl) | (refine dq ?_; kernel_rfl) | (intros; simp_all; done))))
 refine callF_pure (k_Top [ptN sCount 20 1, ptN sMean 30 1] 1 (by
  intro x hx
  rcases List.mem_cons.1 hx with rfl | hx
  ·exact ⟨by decide, by decide, by decide, by decide⟩
  ·obtain rfl := List.mem_singleton.1 hx
   exact ⟨by decide, by decide, by decide, by decide⟩) (by decide)) ?_
 rw [topD, ex5]
 simp only [zP, seval, Nat.reduceLeDiff, Nat.reduceEqDiff, reduceCtorEq, reduceIte, intD]
 repeat ((with_reducible refine And.intro ?_ ?_); (focus (first | omega | (simp only [lenR]; omega) | (refine qq ?_; rfl) | (refine dq ?_; kernel_rfl) | (intros; simp_all; done))))
 refine callG_pure (fun _ => k_part _ _ _) ?_
 simp only [zP, seval, Nat.reduceLeDiff, Nat.reduceEqDiff, reduceCtorEq, reduceIte, intD]
 repeat ((with_reducible refine And.intro ?_ ?_); (focus (first | omega | (simp only [lenR]; omega) | (refine qq ?_; rfl) | (refine dq ?_; kernel_rfl) | (intros; simp_all; done))))
 refine callG_pure (fun _ => k_part _ _ _) ?_
 simp only [zP, seval, Nat.reduceLeDiff, Nat.reduceEqDiff, reduceCtorEq, reduceIte, intD]
 repeat ((with_reducible refine And.intro ?_ ?_); (focus (first | omega | (simp only [lenR]; omega) | (refine qq ?_; rfl) | (refine dq ?_; kernel_rfl) | (intros; simp_all; done))))
 refine callG_at1 (v := .bool true) 0 (fun B hB => k_ESameB [ptN sCount 20 1, ptN sMean 30 1] 2 rfl (by decide) (by decide) B hB) (fun s => rfl) rfl ?_
 simp only [zP, seval, Nat.reduceLeDiff, Nat.reduceEqDiff, reduceCtorEq, reduceIte, intD, beq_self_eq_true]
 repeat ((with_reducible refine And.intro ?_ ?_); (focus (first | omega | (simp only [lenR]; omega) | (refine qq ?_; rfl) | (refine dq ?_; kernel_rfl) | (intros; simp_all; done))))
 refine callG_pure (fun _ => k_part _ _ _) ?_
 simp only [zP, seval, Nat.reduceLeDiff, Nat.reduceEqDiff, reduceCtorEq, reduceIte, intD]
 repeat ((with_reducible refine And.intro ?_ ?_); (focus (first | omega | (simp only [lenR]; omega) | (refine qq ?_; rfl) | (refine dq ?_; kernel_rfl) | (intros; simp_all; done))))
 refine callG_at1 (v := .bool true) 1 (fun B hB => k_ESameB [ptN sNew 8 1] 1 rfl (by decide) (by decide) B hB) (fun s => rfl) rfl ?_
 simp only [zP, seval, Nat.reduceLeDiff, Nat.reduceEqDiff, reduceCtorEq, reduceIte, intD, beq_self_eq_true]
 repeat ((with_reducible refine And.intro ?_ ?_); (focus (first | omega | (simp only [lenR]; omega) | (refine qq ?_; rfl) | (refine dq ?_; kernel_rfl) | (intros; simp_all; done))))
 refine callG_pure (fun _ => k_part _ _ _) ?_
 simp only [zP, seval, Nat.reduceLeDiff, Nat.reduceEqDiff, reduceCtorEq, reduceIte, intD]
 repeat ((with_reducible refine And.intro ?_ ?_); (focus (first | omega | (simp only [lenR]; omega) | (refine qq ?_; rfl) | (refine dq ?_; kernel_rfl) | (intros; simp_all; done))))
 refine callG_pure (fun _ => k_part _ _ _) ?_
 simp only [zP, seval, Nat.reduceLeDiff, Nat.reduceEqDiff, reduceCtorEq, reduceIte, intD]
 repeat ((with_reducible refine And.intro ?_ ?_); (focus (first | omega | (simp only [lenR]; omega) | (refine qq ?_; rfl) | (refine dq ?_; kernel_rfl) | (intros; simp_all; done))))
 refine callG_at1 (v := .bool true) 2 (fun B hB => k_ESameB [ptN sCount (-10) 3, ptN sMean 10 3] 2 rfl (by decide) (by decide) B hB) (fun s => rfl) rfl ?_
 simp only [zP, seval, Nat.reduceLeDiff, Nat.reduceEqDiff, reduceCtorEq, reduceIte, intD, beq_self_eq_true]
 repeat ((with_reducible refine And.intro ?_ ?_); (focus (first | omega | (simp only [lenR]; omega) | (refine qq ?_; rfl) | (refine dq ?_; kernel_rfl) | (intros; simp_all; done))))
 refine callG_pure (fun _ => k_part _ _ _) ?_
 simp only [zP, seval, Nat.reduceLeDiff, Nat.reduceEqDiff, reduceCtorEq, reduceIte, intD]
 repeat ((with_reducible refine And.intro ?_ ?_); (focus (first | omega | (simp only [lenR]; omega) | (refine qq ?_; rfl) | (refine dq ?_; kernel_rfl) | (intros; simp_all; done))))
 refine callG_at1 (v := .bool true) 3 (fun B hB => k_ESameB [ptN sMean 30 1, ⟨[], sRest, ⟨20, 1⟩⟩] 2 rfl (by decide) (by decide) B hB) (fun s => rfl) rfl ?_
 simp only [zP, seval, Nat.reduceLeDiff, Nat.reduceEqDiff, reduceCtorEq, reduceIte, intD, beq_self_eq_true]
 repeat ((with_reducible refine And.intro ?_ ?_); (focus (first | omega | (simp only [lenR]; omega) | (refine qq ?_; rfl) | (refine dq ?_; kernel_rfl) | (intros; simp_all; done))))
 exact ⟨_, _, ret_d, rfl, rfl⟩

theorem eOf_short {a b : List NodeT} (ha : a.length ≤ 60) (hb : b.length ≤ 60) : (eOfF a b).1.length ≤ 240 ∧ ∀ x ∈ (eOfF a b).1, x.path.length < 1000000 := by
 unfold eOfF
 split
 ·rename_i hca
  split
  ·rename_i hcb
   have h1 := List.length_filter_le keepP (contL a b (pairsOf a b))
   have h2 := cont_len a b (pairsOf a b)
   have h3 := pairs_le (a := a) (b := b)
   refine ⟨by simp only; omega, fun x hx => ?_⟩
   obtain ⟨hm, _⟩ := fin_spec (Tr.of hca) (Tr.of hcb)
   have hin := pairs_in hm
   obtain ⟨p, hp, e⟩ := (cont_ok hca hcb hin x (List.mem_filter.1 hx).1).2.1
   obtain ⟨h1, h2, h3, h4, h5⟩ := hin p hp
   rw [e]
   unfold pthP
   split
   ·have := pathN_len b p.b.toNat; omega
   ·have := pathN_len a p.a.toNat; omega
  ·exact ⟨Nat.zero_le _, fun x hx => by cases hx⟩
 ·exact ⟨Nat.zero_le _, fun x hx => by cases hx⟩
theorem k_LOf2 (a b : List NodeT) : Pure Tryz.prog Gl 3 [.d (.sl (a.map NodeT.toD)), .d (.sl (b.map NodeT.toD))] (.d (.bool true)) := by
 refine Pure.of2 ?_
 refine acalls_of Tryz.func3 rfl rfl (by simp [Tryz.ntmps3]) (evC_sound rfl _ _ _ _ ?_)
 simp only [Tryz.ntmps3, Tryz.results3, argEnv, List.length_nil]
 simp only [zP, seval, Nat.reduceLeDiff, Nat.reduceEqDiff, reduceCtorEq, reduceIte, intD]
 refine callF_pure (k_light a b) ?_
 simp only [zP, seval, Nat.reduceLeDiff, Nat.reduceEqDiff, reduceCtorEq, reduceIte, intD]
 repeat ((with_reducible refine And.intro ?_ ?_); (focus (first | omega | (simp only [lenR]; omega) | (refine qq ?_; rfl) | (refine dq ?_; kernel_rfl) | (intros; simp_all; done))))
 refine ifC.mk (fun h1 => ?_) (fun h1 => ?_)
 ·refine callF_pure k_awake ?_
  simp only [zP, seval, Nat.reduceLeDiff, Nat.reduceEqDiff, reduceCtorEq, reduceIte, intD]
  exact ⟨_, _, ret_d, rfl, rfl⟩
 have h1 : a.length ≤ 60 ∧ b.length ≤ 60 := by simpa using h1
 obtain ⟨ha, hb⟩ := h1
 obtain ⟨hl, hp⟩ := eOf_short ha hb
 repeat ((with_reducible refine And.intro ?_ ?_); (focus (first | omega | (simp only [lenR]; omega) | (refine qq ?_; rfl) | (refine dq ?_; kernel_rfl) | (intros; simp_all; done))))
 refine callF_pure (k_EOf a b ha hb) ?_
 simp only [zP, seval, Nat.reduceLeDiff, Nat.reduceEqDiff, reduceCtorEq, reduceIte, intD, eOfD]
 repeat ((with_reducible refine And.intro ?_ ?_); (focus (first | omega | (simp only [lenR]; omega) | (refine qq ?_; rfl) | (refine dq ?_; kernel_rfl) | (intros; simp_all; done))))
 refine callF_pure (k_REOf a b ha hb) ?_
 simp only [zP, seval, Nat.reduceLeDiff, Nat.reduceEqDiff, reduceCtorEq, reduceIte, intD, eOfD]
 repeat ((with_reducible refine And.intro ?_ ?_); (focus (first | omega | (simp only [lenR]; omega) | (refine qq ?_; rfl) | (refine dq ?_; kernel_rfl) | (intros; simp_all; done))))
 refine callF_pure (k_Diff a b (by omega) (by omega)) ?_
 simp only [zP, seval, Nat.reduceLeDiff, Nat.reduceEqDiff, reduceCtorEq, reduceIte, intD]
 repeat ((with_reducible refine And.intro ?_ ?_); (focus (first | omega | (simp only [lenR]; omega) | (refine qq ?_; rfl) | (refine dq ?_; kernel_rfl) | (intros; simp_all; done))))
 refine callF_pure (k_RDiff a b (by omega) (by omega)) ?_
 simp only [zP, seval, Nat.reduceLeDiff, Nat.reduceEqDiff, reduceCtorEq, reduceIte, intD, beq_self_eq_true]
 repeat ((with_reducible refine And.intro ?_ ?_); (focus (first | omega | (simp only [lenR]; omega) | (refine qq ?_; rfl) | (refine dq ?_; kernel_rfl) | (intros; simp_all; done))))
 refine callG_pure (fun _ => k_ESame (eOfF a b).1 hp (by omega)) ?_
 simp only [zP, seval, Nat.reduceLeDiff, Nat.reduceEqDiff, reduceCtorEq, reduceIte, intD, beq_self_eq_true]
 repeat ((with_reducible refine And.intro ?_ ?_); (focus (first | omega | (simp only [lenR]; omega) | (refine qq ?_; rfl) | (refine dq ?_; kernel_rfl) | (intros; simp_all; done))))
 refine callG_pure (fun _ => k_awake) ?_
 simp only [zP, seval, Nat.reduceLeDiff, Nat.reduceEqDiff, reduceCtorEq, reduceIte, intD]
 repeat ((with_reducible refine And.intro ?_ ?_); (focus (first | omega | (simp only [lenR]; omega) | (refine qq ?_; rfl) | (refine dq ?_; kernel_rfl) | (intros; simp_all; done))))
 exact ⟨_, _, ret_d, rfl, rfl⟩
end YtmedpoeeoihfmaaGreatDoor
end Go.Proofs

set_option maxRecDepth 100000
namespace Go.Proofs
open Go.AM Go.ChangeShapes Go.WideShapes Go.ChangeAt Go.RowKit
namespace YtmedpoeeoihfmaaGreatDoor
variable {Gl : Globs}
theorem own : ownKnob Tryz.prog.godebug = none := by kernel_rfl
theorem laidOut : laidOutB Tryz.prog = true := by kernel_rfl
def laid3 : List (String × DataW Unit) := [("math/bits.deBruijn32tab", Rows.laid_math_bits_deBruijn32tab), ("math/bits.deBruijn64tab", Rows.laid_math_bits_deBruijn64tab), ("internal/strconv.uint64pow10", Rows.laid_internal_strconv_uint64pow10)]
theorem door_met (os : Os) (args : Array Value) : laidMetH Tryz.prog laid3 ((World.doorLaid Tryz.prog 400 os).forCall (fun _ _ => 0) ⟨#[], args, []⟩).memory :=
 laidMetH_of_parts3 (fuel := 8) (laidMet_of_run' 8 (by kernel_rfl) (by kernel_rfl)) (by kernel_rfl) (by kernel_rfl)
theorem node_ofR {x : D} (h : ConfL [.int .i64, .str, .int .i64, .int .i64, .int .i64] x.cells) (hg : x.isAgg = true) : ∃ b : NodeT, x = b.toD ∧ b.count ≤ 9223372036854775807 := by
 obtain ⟨_, _, e1, ⟨a0, rfl, _⟩, _, _, rfl, ⟨a1, rfl, _⟩, _, _, rfl, ⟨a2, rfl, _⟩, _, _, rfl, ⟨a3, rfl, _⟩, _, _, rfl, ⟨a4, rfl, w⟩, rfl⟩ := h
 simp only [Lit.wf, Bool.and_eq_true, decide_eq_true_eq] at w
 exact ⟨⟨a0, a1, a2, a3, a4⟩, agg_of hg e1, w.2⟩
theorem parNodesR {x : D} (h : TypedV Tryz.prog 5 22 x) : ∃ l : List NodeT, x = .sl (l.map NodeT.toD) ∧ ∀ b ∈ l, b.count ≤ 9223372036854775807 := by
 obtain ⟨xs, rfl, _, hx⟩ := param1_of h (c := .sl [.int .i64, .str, .int .i64, .int .i64, .int .i64] true) (by kernel_rfl) (by kernel_rfl)
 obtain ⟨d, rfl, hd⟩ := list_ofP fun y hy => node_ofR (hx y hy).1 (hx y hy).2
 exact ⟨d, rfl, hd⟩
theorem explainOf_main (xs : List D) (h : TypedAll Tryz.prog 5 Tryz.f3.params.toList xs) : ACalls Tryz.prog [] 3 (xs.map AV.d) [] (fun r _ => r = .d (.bool true)) := by
 rw [Tryz.params3] at h
 obtain ⟨x, _, rfl, h1, y, _, rfl, h2, rfl⟩ := h
 obtain ⟨a, rfl, ha⟩ := parNodesR h1
 obtain ⟨b, rfl, _⟩ := parNodesR h2
 exact (k_LOf2 a b []).mono fun r s h => h.1
end YtmedpoeeoihfmaaGreatDoor
end Go.Proofs
