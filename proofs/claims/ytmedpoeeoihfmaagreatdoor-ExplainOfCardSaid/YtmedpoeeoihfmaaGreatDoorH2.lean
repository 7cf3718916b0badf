/- A part of the proof: contracts of functions of this seat, and lemmas. No condition beyond those stated. -/
import Derived.Test.YtmedpoeeoihfmaaGreatDoorH1
import Derived.Lib.Mul64
import Derived.Laws.Bits64b
import Derived.Test.YtmedpoeeoihfmaaGreatDoorG4
set_option linter.unusedVariables false
set_option linter.unusedSimpArgs false
set_option linter.unusedSectionVars false
set_option linter.unnecessarySimpa false
set_option maxRecDepth 100000
namespace Go.Proofs
open Go.AM
namespace YtmedpoeeoihfmaaGreatDoor
variable {Gl : Globs}
def keyS (q : Nat) : Int := (q : Int) - 1
def gB (l : List NodeT) (k q : Nat) : Blk := if kidsN l (keyS q) k = [] then .dead else .arr 1 ((kidsN l (keyS q) k).map intD)
def slotS (p : Int) : Nat := 3 + (p + 1).toNat
def gM (l : List NodeT) (k : Nat) : Key → Option AV
 | .i p => if kidsN l p k = [] then none else some (.osl (slotS p) 0 (kidsN l p k).length)
 | .s _ => none
def gF (l : List NodeT) (k : Nat) : Nat → Blk
 | 0 => .box 2 (.agg [.nils, .d (.raw (.map none))])
 | 1 => .map (some .i64) (gM l k)
 | 2 => .box 2 (.agg [.d (.sl (l.map NodeT.toD)), .mapr 1])
 | q + 3 => gB l k q
def gS (l : List NodeT) (k : Nat) : Sto := (List.range (l.length + 4)).map (gF l k)
theorem gS_len (l : List NodeT) (k : Nat) : (gS l k).length = l.length + 4 := by simp [gS]
theorem gS_at (l : List NodeT) (k : Nat) {q : Nat} (h : q < l.length + 4) : blkAt (gS l k) q = gF l k q := by
 unfold blkAt gS
 simp [h]
def rk (q0 t q : Nat) : Nat := if q = q0 then t else q
def rkL (N q0 t : Nat) : List Nat := (List.range N).map (rk q0 t)
theorem rk_nodup {N q0 t : Nat} (h : N ≤ t ∨ N ≤ q0) : (rkL N q0 t).Nodup := by
 rw [rkL, List.nodup_iff_pairwise_ne, List.pairwise_map]
 refine List.Pairwise.imp_of_mem ?_ List.pairwise_lt_range
 intro a b ha hb hab
 have ha := List.mem_range.1 ha
 have hb := List.mem_range.1 hb
 unfold rk
 split <;> split <;> omega
theorem rk_len (N q0 t : Nat) : (rkL N q0 t).length = N := by simp [rkL]
theorem rk_getD {N q0 t j : Nat} (h : j < N) : (rkL N q0 t).getD j 0 = rk q0 t j := by simp [rkL, h]
theorem rk_idx {N q0 t j id : Nat} (hnd : N ≤ t ∨ N ≤ q0) (hj : j < N) (h : rk q0 t j = id) : idxIn (rkL N q0 t) id = some j := by
 rw [← h, ← rk_getD hj]
 exact idxIn_of (rk_nodup hnd) (by rw [rk_len]; exact hj)
theorem rk_renS {N q0 t : Nat} (σ : Sto) : renS (rkL N q0 t) σ = (List.range N).map fun q => renB (rkL N q0 t) σ (blkAt σ (rk q0 t q)) := by
 unfold renS rkL
 rw [List.map_map]; rfl
theorem gA_old (l : List NodeT) (k : Nat) (τ : Sto) {q : Nat} (h : q < l.length + 4) : blkAt (gS l k ++ τ) q = gF l k q := by
 rw [blkAt_append_old (by rw [gS_len]; exact h), gS_at l k h]
theorem gA_new (l : List NodeT) (k : Nat) (B : Blk) : blkAt (gS l k ++ [B]) (l.length + 4) = B := by
 have := blkAt_append_new (σ := gS l k) (B := B)
 rwa [gS_len] at this
theorem gA_set (l : List NodeT) (k : Nat) (B B' : Blk) : List.set (gS l k ++ [B]) (l.length + 4) B' = gS l k ++ [B'] := by
 rw [List.set_append_right _ _ (by rw [gS_len]; omega), gS_len, Nat.sub_self]; rfl
theorem kidsN_ne {l : List NodeT} (ht : TreeUp l l.length) {p : Int} {k : Nat} (hk : k ≤ l.length) (h : kidsN l p k ≠ []) : -1 ≤ p ∧ p < l.length := by
 obtain ⟨j, hj⟩ := List.exists_mem_of_ne_nil _ h
 rw [kidsN, List.mem_filter, List.mem_range] at hj
 have h2 : par l j = p := by simpa using hj.2
 have := tree_par ht (show j < l.length by omega)
 omega
theorem slot_lt {l : List NodeT} {p : Int} (h1 : -1 ≤ p) (h2 : p < l.length) : slotS p < l.length + 4 := by unfold slotS; omega
theorem slot_ne {p q : Int} (h1 : -1 ≤ p) (h2 : -1 ≤ q) (h : p ≠ q) : slotS p ≠ slotS q := by unfold slotS; omega
theorem gM_i (l : List NodeT) (k : Nat) (p : Int) : gM l k (.i p) = if kidsN l p k = [] then none else some (.osl (slotS p) 0 (kidsN l p k).length) := rfl
theorem grow_fin {l : List NodeT} (ht : TreeUp l l.length) {k : Nat} (hk : k < l.length) {p : Int} (hp : par l k = p) (b2 : Sto) (hlen : b2.length = l.length + 4)
  (h1 : blkAt b2 1 = .map (some .i64) (mset (gM l k) (.i p) (.osl (l.length + 4 + 2) 0 (kidsN l p (k + 1)).length)))
  (hq : ∀ q, q < l.length + 4 → q ≠ 1 → q ≠ slotS p → blkAt b2 q = gF l k q) (B A : Blk) :
  renS (rkL (l.length + 4) (slotS p) (l.length + 4 + 2)) (b2 ++ [B, A, .arr 1 ((kidsN l p (k + 1)).map intD)]) = gS l (k + 1) := by
 have tp := tree_par ht hk
 rw [hp] at tp
 have hsl : slotS p < l.length + 4 := slot_lt tp.1 (by omega)
 have hs3 : 3 ≤ slotS p := by unfold slotS; omega
 have hnd : l.length + 4 ≤ l.length + 4 + 2 ∨ l.length + 4 ≤ slotS p := .inl (by omega)
 have hold : ∀ q, q < l.length + 4 → blkAt (b2 ++ [B, A, .arr 1 ((kidsN l p (k + 1)).map intD)]) q = blkAt b2 q := fun q h => blkAt_append_old (by omega)
 have hnew : blkAt (b2 ++ [B, A, .arr 1 ((kidsN l p (k + 1)).map intD)]) (l.length + 4 + 2) = .arr 1 ((kidsN l p (k + 1)).map intD) := by
  unfold blkAt
  rw [List.getD_eq_getElem?_getD, List.getElem?_append_right (by omega), hlen]
  simp
 have i1 := rk_idx (j := 1) hnd (by omega) (show rk (slotS p) (l.length + 4 + 2) 1 = 1 from if_neg (by omega))
 have ip := rk_idx (j := slotS p) hnd hsl (show rk (slotS p) (l.length + 4 + 2) (slotS p) = l.length + 4 + 2 from if_pos rfl)
 rw [rk_renS, gS]
 refine rg_congr fun q hqn => ?_
 by_cases e1 : q = 1
 ·subst e1
  rw [show rk (slotS p) (l.length + 4 + 2) 1 = 1 from if_neg (by omega), hold 1 (by omega), h1]
  show Blk.map _ _ = Blk.map _ _
  congr 1
  funext key
  cases key with
  | i m =>
   by_cases em : m = p
   ·subst em
    have hne : kidsN l m (k + 1) ≠ [] := by rw [kidsN_step, if_pos hp]; simp
    rw [gM_i, if_neg hne]
    unfold mset
    rw [if_pos rfl]
    show some (renV _ _ (AV.osl _ _ _)) = _
    congr 1
    show ren0 _ _ (AV.osl _ _ _) = _
    simp only [ren0, ip]
   ·have hks : kidsN l m (k + 1) = kidsN l m k := by rw [kidsN_step, if_neg (by omega), List.append_nil]
    rw [gM_i, hks]
    unfold mset
    rw [if_neg (fun h => em (by cases h; rfl)), gM_i]
    by_cases hne : kidsN l m k = []
    ·rw [if_pos hne]; rfl
    ·rw [if_neg hne]
     obtain ⟨m1, m2⟩ := kidsN_ne ht (by omega) hne
     have im := rk_idx (j := slotS m) hnd (slot_lt m1 m2) (show rk (slotS p) (l.length + 4 + 2) (slotS m) = slotS m from if_neg (slot_ne m1 tp.1 em))
     show some (renV _ _ (AV.osl _ _ _)) = _
     congr 1
     show ren0 _ _ (AV.osl _ _ _) = _
     simp only [ren0, im]
  | s t => rfl
 ·by_cases e2 : q = slotS p
  ·subst e2
   rw [show rk (slotS p) (l.length + 4 + 2) (slotS p) = l.length + 4 + 2 from if_pos rfl, hnew]
   have es : slotS p = (p + 1).toNat + 3 := by unfold slotS; omega
   have ek : keyS (p + 1).toNat = p := by unfold keyS; omega
   have hne : kidsN l p (k + 1) ≠ [] := by rw [kidsN_step, if_pos hp]; simp
   show Blk.arr 1 _ = gF l (k + 1) (slotS p)
   rw [es]
   show _ = gB l (k + 1) (p + 1).toNat
   rw [gB, ek, if_neg hne]
  ·rw [show rk (slotS p) (l.length + 4 + 2) q = q from if_neg e2, hold q hqn, hq q hqn e1 e2]
   match q, e1, e2, hqn with
   | 0, _, _, _ => rfl
   | 1, h, _, _ => exact absurd rfl h
   | 2, _, _, _ =>
    show renB _ _ (Blk.box 2 (AV.agg [AV.d _, AV.mapr 1])) = Blk.box 2 (AV.agg [AV.d _, AV.mapr 1])
    simp only [renB, renV, ren0, List.map_cons, List.map_nil, i1]
    rfl
   | q + 3, _, e2, _ =>
    show renB _ _ (gB l k q) = gB l (k + 1) q
    have hks : kidsN l (keyS q) (k + 1) = kidsN l (keyS q) k := by
     rw [kidsN_step, if_neg (fun h => e2 (by unfold slotS keyS at *; omega)), List.append_nil]
    rw [gB, gB, hks]
    split <;> rfl
def SLs (b b1 b2 : Sto) (B5 A1 AN : Blk) (c10 c11 c12 : Bool) : Sto := if c12 = true then b2 ++ [B5, A1, AN] else if c11 = true then b1 ++ [B5, A1, AN] else if c10 = true then b ++ [B5, A1] else b ++ [B5]
theorem SLs_ttt (b b1 b2 : Sto) (B5 A1 AN : Blk) : SLs b b1 b2 B5 A1 AN true true true = b2 ++ [B5, A1, AN] := rfl
theorem SLs_fff (b b1 b2 : Sto) (B5 A1 AN : Blk) : SLs b b1 b2 B5 A1 AN false false false = b ++ [B5] := rfl
theorem SLs_tff (b b1 b2 : Sto) (B5 A1 AN : Blk) : SLs b b1 b2 B5 A1 AN true false false = b ++ [B5, A1] := rfl
theorem SLs_ttf (b b1 b2 : Sto) (B5 A1 AN : Blk) : SLs b b1 b2 B5 A1 AN true true false = b1 ++ [B5, A1, AN] := rfl
theorem SLs_old {b b1 b2 : Sto} {B5 A1 AN : Blk} {c10 c11 c12 : Bool} {N q : Nat} {X : Blk} (h0 : b.length = N) (h1 : b1.length = N) (h2 : b2.length = N) (hq : q < N) (g0 : blkAt b q = X) (g1 : blkAt b1 q = X) (g2 : c12 = true → blkAt b2 q = X) : blkAt (SLs b b1 b2 B5 A1 AN c10 c11 c12) q = X := by
 unfold SLs
 split
 ·rename_i h; rw [blkAt_append_old (by omega), g2 h]
 ·split
  ·rw [blkAt_append_old (by omega), g1]
  ·split <;> rw [blkAt_append_old (by omega), g0]
theorem SLs_new {b b1 b2 : Sto} {B5 A1 AN : Blk} {c10 c11 c12 : Bool} {N : Nat} (h0 : b.length = N) (h1 : b1.length = N) (h2 : b2.length = N) : blkAt (SLs b b1 b2 B5 A1 AN c10 c11 c12) N = B5 := by
 have g : ∀ (b τ : Sto), b.length = N → blkAt (b ++ B5 :: τ) N = B5 := fun b τ h => by
  unfold blkAt
  rw [List.getD_eq_getElem?_getD, List.getElem?_append_right (by omega), h]; simp
 unfold SLs
 split
 ·exact g _ _ h2
 ·split
  ·exact g _ _ h1
  ·split
   ·exact g _ _ h0
   ·exact g _ _ h0
theorem base_new {b τ : Sto} {N : Nat} (h : b.length = N) (i : Nat) : blkAt (b ++ τ) (N + i) = blkAt τ i := by
 unfold blkAt
 rw [List.getD_eq_getElem?_getD, List.getElem?_append_right (by omega), h, Nat.add_sub_cancel_left, List.getD_eq_getElem?_getD]
theorem base_set {b τ : Sto} {N q : Nat} (h : b.length = N) (hq : q < N) (B : Blk) : (b ++ τ).set q B = b.set q B ++ τ := List.set_append_left _ _ (by omega)
theorem app3 (b : Sto) (x y z : Blk) : b ++ [x, y] ++ [z] = b ++ [x, y, z] := by simp
theorem app2 (b : Sto) (x y : Blk) : b ++ [x] ++ [y] = b ++ [x, y] := by simp
def kidM (l : List NodeT) : Key → Option AV
 | .i p => if kids l p = [] then none else some (.d (.sl ((kids l p).map intD)))
 | .s _ => none
theorem kidM_still (l : List NodeT) : ∀ k v, kidM l k = some v → ∃ d, v = .d d := by
 intro k v h
 cases k with
 | i p =>
  simp only [kidM] at h
  split at h
  ·cases h
  ·cases h; exact ⟨_, rfl⟩
 | s t => cases h
theorem frL_len (σ : Sto) : ∀ L : List Nat, (freezeL σ L).length = σ.length := by
 intro L
 unfold freezeL
 induction L generalizing σ with
 | nil => rfl
 | cons i L ih => rw [List.foldl_cons, ih]; exact List.length_set ..
theorem grow_end {l : List NodeT} (ht : TreeUp l l.length) (σ : Sto) (hlen : σ.length = l.length + 4) (hat : ∀ q, 1 ≤ q → q < l.length + 4 → blkAt σ q = gF l l.length q) (xs : List D) :
  WeakR 0 (.agg [.d (.sl xs), .mapr 1]) σ (.agg [.d (.sl xs), .mapr 0]) [.map (some .i64) (kidM l)] := by
 have h1 : blkAt σ 1 = .map (some .i64) (gM l l.length) := hat 1 (by omega) (by omega)
 have hsl : ∀ p, kids l p ≠ [] → blkAt σ (slotS p) = .arr 1 ((kids l p).map intD) := fun p hp => by
  obtain ⟨p1, p2⟩ := kidsN_ne ht (Nat.le_refl _) (p := p) hp
  rw [hat _ (by unfold slotS; omega) (slot_lt p1 p2), show slotS p = (p + 1).toNat + 3 by unfold slotS; omega]
  show gB l l.length (p + 1).toNat = _
  rw [gB, show keyS (p + 1).toNat = p by unfold keyS; omega]
  exact if_neg hp
 obtain ⟨L, hL⟩ : ∃ L, L = ((List.range (l.length + 1)).filter fun q => !(kids l (keyS q)).isEmpty).map (fun q => 3 + q) := ⟨_, rfl⟩
 have hw := weak_mapD (n := 0) (m := σ.length) (env := []) (σ := σ) 1 L h1 (by omega) (fun k v hk => by
  cases k with
  | i p =>
   rw [gM_i] at hk
   by_cases hp : kids l p = []
   ·rw [if_pos (show kidsN l p l.length = [] from hp)] at hk; cases hk
   ·rw [if_neg (show ¬ kidsN l p l.length = [] from hp)] at hk
    cases hk
    obtain ⟨p1, p2⟩ := kidsN_ne ht (Nat.le_refl _) (p := p) hp
    refine ⟨by show (blkAt σ (slotS p)).isArr = true; rw [hsl p hp]; rfl, fun i hi => ?_⟩
    have hi : i = slotS p := by simpa [AV.refs, ref1] using hi
    rw [hi, hL]
    refine List.mem_map.2 ⟨(p + 1).toNat, List.mem_filter.2 ⟨List.mem_range.2 (by omega), ?_⟩, by unfold slotS; omega⟩
    rw [show keyS (p + 1).toNat = p by unfold keyS; omega]
    simpa using hp
  | s t => cases hk) (fun i hi => by
  rw [hL] at hi
  obtain ⟨q, hq, rfl⟩ := List.mem_map.1 hi
  obtain ⟨hq1, hq2⟩ := List.mem_filter.1 hq
  have hq1 := List.mem_range.1 hq1
  have : kids l (keyS q) ≠ [] := by simpa using hq2
  have h3 := hsl _ this
  rw [show slotS (keyS q) = 3 + q by unfold slotS keyS; omega] at h3
  rw [h3]; rfl)
 refine (weakR_of hw).trans (weakR_to [] [1] rfl (by simp) rfl ?_)
 show [renB [1] _ (blkAt ((freezeL σ L).set 1 _) 1)] = _
 rw [blkAt_set_self (by rw [frL_len]; omega)]
 congr 1
 show Blk.map _ _ = Blk.map _ _
 congr 1
 funext k
 cases k with
 | i p =>
  show Option.map _ (Option.map _ (gM l l.length (.i p))) = _
  rw [gM_i]
  by_cases hp : kids l p = []
  ·rw [if_pos (show kidsN l p l.length = [] from hp), kidM, if_pos hp]; rfl
  ·rw [if_neg (show ¬ kidsN l p l.length = [] from hp), kidM, if_neg hp]
   show some (AV.d (D.sl (((blkAt σ (slotS p)).xs.drop 0).take (kids l p).length))) = _
   rw [hsl p hp]
   show some (AV.d (D.sl (List.take (kids l p).length ((kids l p).map intD)))) = _
   rw [take_all]
 | s t => rfl
theorem k_grow (l : List NodeT) (hl : l.length ≤ 2000) (ht : TreeUp l l.length) : ACalls Tryz.prog Gl 45 [.d (.sl (l.map NodeT.toD))] []
  (fun r s => r = .agg [.d (.sl (l.map NodeT.toD)), .mapr 0] ∧ s = [.map (some .i64) (kidM l)]) := by
 refine acalls_of Tryz.func45 rfl rfl (by simp [Tryz.ntmps45]) (evC_sound rfl _ _ _ _ ?_)
 simp only [Tryz.ntmps45, Tryz.results45, argEnv, List.length_nil]
 simp only [zN, seval, Nat.reduceLeDiff, Nat.reduceEqDiff, reduceCtorEq, reduceIte, intD]
 repeat ((with_reducible refine And.intro ?_ ?_); (focus (first | omega | (simp only [lenR]; omega) | (refine qq ?_; rfl) | (refine dq ?_; kernel_rfl) | (intros; simp_all; done))))
 refine for_of l.length (fun k => [(3, .ptr 2 0), (9, .d (.sl (l.map NodeT.toD))), (10, .d (.int .i64 l.length)), (11, .d (.int .i64 k)), (2, .ptr 0 0)]) (fun k => gS l k) (fun _ => True) trivial ?_ ?_
 ·have h9 : l.length + 4 ≤ 9 + l.length ∨ l.length + 4 ≤ 9 + l.length := .inl (by omega)
  have i0 := rk_idx (j := 0) h9 (by omega) (show rk _ _ 0 = 0 from if_neg (by omega))
  have i1 := rk_idx (j := 1) h9 (by omega) (show rk _ _ 1 = 1 from if_neg (by omega))
  have i2 := rk_idx (j := 2) h9 (by omega) (show rk _ _ 2 = 2 from if_neg (by omega))
  refine weak_to [] (rkL (l.length + 4) (9 + l.length) (9 + l.length)) rfl (rk_nodup h9) ?_ ?_
  ·simp only [zN, seval, Nat.reduceLeDiff, Nat.reduceEqDiff, reduceCtorEq, reduceIte, intD, i0, i1, i2, Int.cast_ofNat_Int]
   done
  ·rw [rk_renS, gS]
   refine rg_congr fun q hq => ?_
   rw [show rk (9 + l.length) (9 + l.length) q = q from if_neg (by omega)]
   match q with
   | 0 => rfl
   | 1 => 
    show Blk.map _ _ = Blk.map _ _
    congr 1
    funext k
    cases k <;> rfl
   | 2 => 
    have e : blkAt (freezeL [Blk.box 2 (AV.agg [AV.nils, AV.d (D.raw (Value.map none))]), Blk.map (some IntKind.i64) (fun x => none), Blk.box 2 (AV.agg [AV.d (D.sl (List.map NodeT.toD l)), AV.mapr 1])] []) 2 = Blk.box 2 (AV.agg [AV.d (D.sl (List.map NodeT.toD l)), AV.mapr 1]) := rfl
    rw [e]
    simp only [renB, renV, ren0, List.map_cons, List.map_nil, i1]
    rfl
   | q + 3 => rfl
 ·intro k _ hk
  by_cases h : k < l.length
  ·obtain ⟨x, hx⟩ : ∃ x, x = l.getD k default := ⟨_, rfl⟩
   have ep : par l k = x.parent := by rw [hx]; rfl
   have eg : (l.map NodeT.toD).getD k default = x.toD := by rw [a_getD _ _ _ h, ← hx]
   have hb2 : ∀ τ, blkAt (gS l k ++ τ) 2 = .box 2 (.agg [.d (.sl (l.map NodeT.toD)), .mapr 1]) := fun τ => gA_old l k τ (by omega)
   have hb1 : ∀ τ, blkAt (gS l k ++ τ) 1 = .map (some .i64) (gM l k) := fun τ => gA_old l k τ (by omega)
   have hlN := gS_len l k
   have tp := tree_par ht h
   rw [ep] at tp
   have hsl : slotS x.parent < l.length + 4 := slot_lt tp.1 (by omega)
   have hs3 : 3 ≤ slotS x.parent := by unfold slotS; omega
   have hks : kidsN l x.parent (k + 1) = kidsN l x.parent k ++ [k] := by rw [kidsN_step, if_pos ep]
   have hkl : (kidsN l x.parent (k + 1)).length = (kidsN l x.parent k).length + 1 := by rw [hks]; simp
   have hkn := kidsN_len l x.parent k
   have hnd : l.length + 4 ≤ l.length + 4 + 2 ∨ l.length + 4 ≤ slotS x.parent := .inl (by omega)
   have i0 := rk_idx (j := 0) hnd (by omega) (show rk (slotS x.parent) (l.length + 4 + 2) 0 = 0 from if_neg (by omega))
   have i1 := rk_idx (j := 1) hnd (by omega) (show rk (slotS x.parent) (l.length + 4 + 2) 1 = 1 from if_neg (by omega))
   have i2 := rk_idx (j := 2) hnd (by omega) (show rk (slotS x.parent) (l.length + 4 + 2) 2 = 2 from if_neg (by omega))
   simp only [zN, seval, Nat.reduceLeDiff, Nat.reduceEqDiff, reduceCtorEq, reduceIte, intD, (show (k:Int) < l.length by omega), h, eg, gS_len, hb2, hb1, gA_new, gA_set]
   by_cases hp0 : kidsN l x.parent k = []
   ·obtain ⟨b1, hb1e⟩ : ∃ b1, b1 = gS l k := ⟨_, rfl⟩
    obtain ⟨b2, hb2e⟩ : ∃ b2, b2 = (gS l k).set 1 (.map (some .i64) (mset (gM l k) (.i x.parent) (.osl (l.length + 4 + 2) 0 (kidsN l x.parent (k + 1)).length))) := ⟨_, rfl⟩
    have hl1 : b1.length = l.length + 4 := by rw [hb1e, hlN]
    have hl2 : b2.length = l.length + 4 := by rw [hb2e, List.length_set, hlN]
    have hb2m : blkAt b2 1 = .map (some .i64) (mset (gM l k) (.i x.parent) (.osl (l.length + 4 + 2) 0 (kidsN l x.parent (k + 1)).length)) := by rw [hb2e]; exact blkAt_set_self (by omega)
    have hq2 : ∀ q, q < l.length + 4 → q ≠ 1 → q ≠ slotS x.parent → blkAt b2 q = gF l k q := fun q h1 h2 _ => by rw [hb2e, blkAt_set_ne (Ne.symm h2), gS_at l k h1]
    have hgm : gM l k (.i x.parent) = none := by rw [gM_i, if_pos hp0]
    have hbn0 : ∀ τ i, blkAt (gS l k ++ τ) (l.length + 4 + i) = blkAt τ i := fun τ i => base_new hlN i
    have hbn1 : ∀ τ i, blkAt (b1 ++ τ) (l.length + 4 + i) = blkAt τ i := fun τ i => base_new hl1 i
    have hb1e1 : ∀ τ, blkAt (b1 ++ τ) 1 = .map (some .i64) (gM l k) := fun τ => by rw [hb1e]; exact hb1 τ
    have hb2s : ∀ τ, (b1 ++ τ).set 1 (.map (some .i64) (mset (gM l k) (.i x.parent) (.osl (l.length + 4 + 2) 0 1))) = b2 ++ τ := fun τ => by rw [base_set hl1 (by omega), hb2e, hb1e, hkl, hp0]; rfl
    have hAN : Blk.arr 1 ((kidsN l x.parent (k + 1)).map intD) = .arr 1 [.int .i64 k] := by rw [hks, hp0]; rfl
    have f2 : ∀ c10 c11 c12, blkAt (SLs (gS l k) b1 b2 (.box 5 (.d x.toD)) (.arr 1 [.int .i64 k]) (.arr 1 ((kidsN l x.parent (k + 1)).map intD)) c10 c11 c12) 2 = .box 2 (.agg [.d (.sl (l.map NodeT.toD)), .mapr 1]) := fun c10 c11 c12 => SLs_old hlN hl1 hl2 (by omega) (gS_at l k (by omega)) (by rw [hb1e]; exact gS_at l k (by omega)) (fun _ => hq2 2 (by omega) (by omega) (by omega))
    have fN : ∀ c10 c11 c12, blkAt (SLs (gS l k) b1 b2 (.box 5 (.d x.toD)) (.arr 1 [.int .i64 k]) (.arr 1 ((kidsN l x.parent (k + 1)).map intD)) c10 c11 c12) (l.length + 4) = .box 5 (.d x.toD) := fun c10 c11 c12 => SLs_new hlN hl1 hl2
    have f1 : ∀ c10 c11, blkAt (SLs (gS l k) b1 b2 (.box 5 (.d x.toD)) (.arr 1 [.int .i64 k]) (.arr 1 ((kidsN l x.parent (k + 1)).map intD)) c10 c11 false) 1 = .map (some .i64) (gM l k) := fun c10 c11 => SLs_old hlN hl1 hl2 (by omega) (gS_at l k (by omega)) (by rw [hb1e]; exact gS_at l k (by omega)) (fun h => by cases h)
    refine ⟨.inr (.inr (.inr (evFree_can
     (fun L => [(27, onV (L 11) (.osl (l.length + 4 + 2) 0 (kidsN l x.parent (k + 1)).length)), (26, onV (L 10) (.osl (l.length + 4 + 1) 0 1)), (25, onV (L 9) (.d (.int .i64 k))), (24, onV (L 8) .nils), (23, onV (L 7) (.d (.int .i64 x.parent))), (22, onV (L 6) (.ptr (l.length + 4) 0)), (21, onV (L 5) (.mapr 1)), (20, onV (L 4) (.ptr 2 1)), (19, onV (L 3) (.d (.int .i64 x.parent))), (18, onV (L 2) (.ptr (l.length + 4) 0)), (17, onV (L 1) (.mapr 1)), (16, onV (L 0) (.ptr 2 1)),
      (3, .ptr 2 0), (9, .d (.sl (l.map NodeT.toD))), (10, .d (.int .i64 l.length)), (11, .d (.int .i64 k)), (2, .ptr 0 0), (4, .d (.int .i64 k)), (5, .ptr (l.length + 4) 0)])
     (fun L => SLs (gS l k) b1 b2 (.box 5 (.d x.toD)) (.arr 1 [.int .i64 k]) (.arr 1 ((kidsN l x.parent (k + 1)).map intD)) (L 10) (L 11) (L 12)) (by kernel_rfl) ?_ ?_ ?_))), ?_⟩
    ·refine weak_sub ?_
     rfl
    ·simp only [stepsL]
     refine ⟨?_, ?_, ?_, ?_, ?_, ?_, ?_, ?_, ?_, ?_, ?_, ?_, ?_, trivial⟩
     ·intro L hc hL hp
      (simp only [predsL, Region.binds, frB] at hp; (try simp only [Nat.zero_add, Nat.reduceAdd] at hL); simp only [zN, seval, Nat.reduceLeDiff, Nat.reduceEqDiff, reduceCtorEq, reduceIte, intD, hL, hp, onV_t, onV_f, updB, f2, fN, gS_len])
      refine weak_sub ?_
      simp only [zN, seval, Nat.reduceLeDiff, Nat.reduceEqDiff, reduceCtorEq, reduceIte, intD, onV_t, onV_f]
     ·intro L hc hL hp
      (simp only [predsL, Region.binds, frB] at hp; (try simp only [Nat.zero_add, Nat.reduceAdd] at hL); simp only [zN, seval, Nat.reduceLeDiff, Nat.reduceEqDiff, reduceCtorEq, reduceIte, intD, hL, hp, onV_t, onV_f, updB, f2, fN, gS_len])
      refine weak_sub ?_
      simp only [zN, seval, Nat.reduceLeDiff, Nat.reduceEqDiff, reduceCtorEq, reduceIte, intD, onV_t, onV_f]
     ·intro L hc hL hp
      (simp only [predsL, Region.binds, frB] at hp; (try simp only [Nat.zero_add, Nat.reduceAdd] at hL); simp only [zN, seval, Nat.reduceLeDiff, Nat.reduceEqDiff, reduceCtorEq, reduceIte, intD, hL, hp, onV_t, onV_f, updB, f2, fN, gS_len])
      refine weak_sub ?_
      simp only [zN, seval, Nat.reduceLeDiff, Nat.reduceEqDiff, reduceCtorEq, reduceIte, intD, onV_t, onV_f]
     ·intro L hc hL hp
      (simp only [predsL, Region.binds, frB] at hp; (try simp only [Nat.zero_add, Nat.reduceAdd] at hL); simp only [zN, seval, Nat.reduceLeDiff, Nat.reduceEqDiff, reduceCtorEq, reduceIte, intD, hL, hp, onV_t, onV_f, updB, f2, fN, gS_len])
      refine weak_sub ?_
      simp only [zN, seval, Nat.reduceLeDiff, Nat.reduceEqDiff, reduceCtorEq, reduceIte, intD, onV_t, onV_f]
     ·intro L hc hL hp
      (simp only [predsL, Region.binds, frB] at hp; (try simp only [Nat.zero_add, Nat.reduceAdd] at hL); simp only [zN, seval, Nat.reduceLeDiff, Nat.reduceEqDiff, reduceCtorEq, reduceIte, intD, hL, hp, onV_t, onV_f, updB, f2, fN, gS_len])
      refine weak_sub ?_
      simp only [zN, seval, Nat.reduceLeDiff, Nat.reduceEqDiff, reduceCtorEq, reduceIte, intD, onV_t, onV_f]
     ·intro L hc hL hp
      (simp only [predsL, Region.binds, frB] at hp; (try simp only [Nat.zero_add, Nat.reduceAdd] at hL); simp only [zN, seval, Nat.reduceLeDiff, Nat.reduceEqDiff, reduceCtorEq, reduceIte, intD, hL, hp, onV_t, onV_f, updB, f2, fN, gS_len])
      refine weak_sub ?_
      simp only [zN, seval, Nat.reduceLeDiff, Nat.reduceEqDiff, reduceCtorEq, reduceIte, intD, onV_t, onV_f]
     ·intro L hc hL hp
      (simp only [predsL, Region.binds, frB] at hp; (try simp only [Nat.zero_add, Nat.reduceAdd] at hL); simp only [zN, seval, Nat.reduceLeDiff, Nat.reduceEqDiff, reduceCtorEq, reduceIte, intD, hL, hp, onV_t, onV_f, updB, f2, fN, gS_len])
      refine weak_sub ?_
      simp only [zN, seval, Nat.reduceLeDiff, Nat.reduceEqDiff, reduceCtorEq, reduceIte, intD, onV_t, onV_f]
     ·intro L hc hL hp
      (simp only [predsL, Region.binds, frB] at hp; (try simp only [Nat.zero_add, Nat.reduceAdd] at hL); simp only [zN, seval, Nat.reduceLeDiff, Nat.reduceEqDiff, reduceCtorEq, reduceIte, intD, hL, hp, onV_t, onV_f, updB, f2, fN, gS_len])
      refine weak_sub ?_
      simp only [zN, seval, Nat.reduceLeDiff, Nat.reduceEqDiff, reduceCtorEq, reduceIte, intD, onV_t, onV_f]
     ·intro L hc hL hp
      have h12 : L 12 = false := nope hL fun h => predsL_on (hc 12 _ rfl h) 8 (by kernel_rfl)
      (simp only [predsL, Region.binds, frB] at hp; (try simp only [Nat.zero_add, Nat.reduceAdd] at hL); simp only [zN, seval, Nat.reduceLeDiff, Nat.reduceEqDiff, reduceCtorEq, reduceIte, intD, hL, hp, onV_t, onV_f, updB, f2, fN, gS_len])
      simp only [zN, seval, Nat.reduceLeDiff, Nat.reduceEqDiff, reduceCtorEq, reduceIte, intD, h12, f1, hgm, getD_none]
      refine weak_sub ?_
      simp only [zN, seval, Nat.reduceLeDiff, Nat.reduceEqDiff, reduceCtorEq, reduceIte, intD, onV_t, onV_f]
     ·intro L hc hL hp
      (simp only [predsL, Region.binds, frB] at hp; (try simp only [Nat.zero_add, Nat.reduceAdd] at hL); simp only [zN, seval, Nat.reduceLeDiff, Nat.reduceEqDiff, reduceCtorEq, reduceIte, intD, hL, hp, onV_t, onV_f, updB, f2, fN, gS_len])
      refine weak_sub ?_
      simp only [zN, seval, Nat.reduceLeDiff, Nat.reduceEqDiff, reduceCtorEq, reduceIte, intD, onV_t, onV_f]
     ·intro L hc hL hp
      have h11 : L 11 = false := nope hL fun h => predsL_on (hc 11 _ rfl h) 10 (by kernel_rfl)
      have h12 : L 12 = false := nope hL fun h => predsL_on (hc 12 _ rfl h) 10 (by kernel_rfl)
      (simp only [predsL, Region.binds, frB] at hp; (try simp only [Nat.zero_add, Nat.reduceAdd] at hL); simp only [zN, seval, Nat.reduceLeDiff, Nat.reduceEqDiff, reduceCtorEq, reduceIte, intD, hL, hp, onV_t, onV_f, updB, f2, fN, gS_len])
      simp only [zN, seval, Nat.reduceLeDiff, Nat.reduceEqDiff, reduceCtorEq, reduceIte, intD, h11, h12, onV_f, SLs_fff, SLs_tff, SLs_ttf, SLs_ttt, List.length_append, gS_len, hl1, hl2, app2, app3, hbn0, hbn1, hb1e1, hb2s, hks, hp0, hkl]
      refine weak_sub ?_
      simp only [zN, seval, Nat.reduceLeDiff, Nat.reduceEqDiff, reduceCtorEq, reduceIte, intD, onV_t, onV_f]
     ·intro L hc hL hp
      have h12 : L 12 = false := nope hL fun h => predsL_on (hc 12 _ rfl h) 11 (by kernel_rfl)
      (simp only [predsL, Region.binds, frB] at hp; (try simp only [Nat.zero_add, Nat.reduceAdd] at hL); simp only [zN, seval, Nat.reduceLeDiff, Nat.reduceEqDiff, reduceCtorEq, reduceIte, intD, hL, hp, onV_t, onV_f, updB, f2, fN, gS_len])
      simp only [zN, seval, Nat.reduceLeDiff, Nat.reduceEqDiff, reduceCtorEq, reduceIte, intD, h12, onV_f, SLs_fff, SLs_tff, SLs_ttf, SLs_ttt, List.length_append, gS_len, hl1, hl2, app2, app3, hbn0, hbn1, hb1e1, hb2s, hks, hp0, hkl]
      repeat ((with_reducible refine And.intro ?_ ?_); (focus (first | omega | (simp only [lenR]; omega) | (refine qq ?_; rfl) | (refine dq ?_; kernel_rfl) | (intros; simp_all; done))))
      rw [hb1e]
      refine weak_sub ?_
      simp only [zN, seval, Nat.reduceLeDiff, Nat.reduceEqDiff, reduceCtorEq, reduceIte, intD, onV_t, onV_f]
     ·intro L hc hL hp
      (simp only [predsL, Region.binds, frB] at hp; (try simp only [Nat.zero_add, Nat.reduceAdd] at hL); simp only [zN, seval, Nat.reduceLeDiff, Nat.reduceEqDiff, reduceCtorEq, reduceIte, intD, hL, hp, onV_t, onV_f, updB, f2, fN, gS_len])
      simp only [zN, seval, Nat.reduceLeDiff, Nat.reduceEqDiff, reduceCtorEq, reduceIte, intD, SLs_fff, SLs_tff, SLs_ttf, SLs_ttt, List.length_append, gS_len, hl1, hl2, app2, app3, hbn0, hbn1, hb1e1, hb2s, hks, hp0, hkl]
      repeat ((with_reducible refine And.intro ?_ ?_); (focus (first | omega | (simp only [lenR]; omega) | (refine qq ?_; rfl) | (refine dq ?_; kernel_rfl) | (intros; simp_all; done))))
      refine weak_sub ?_
      simp only [zN, seval, Nat.reduceLeDiff, Nat.reduceEqDiff, reduceCtorEq, reduceIte, intD, onV_t, onV_f]
    ·simp only [zN, seval, Nat.reduceLeDiff, Nat.reduceEqDiff, reduceCtorEq, reduceIte, intD, onV_t, SLs_fff, SLs_tff, SLs_ttf, SLs_ttt, List.length_append, gS_len, hl1, hl2, app2, app3, hbn0, hbn1, hb1e1, hb2s, hks, hp0, hkl]
     have hren := grow_fin ht h ep b2 hl2 hb2m hq2 (.box 5 (.d x.toD)) (.arr 1 [.int .i64 k])
     rw [hAN] at hren
     refine weak_to [] (rkL (l.length + 4) (slotS x.parent) (l.length + 4 + 2)) rfl (rk_nodup (.inl (by omega))) ?_ hren
     simp only [zN, seval, Nat.reduceLeDiff, Nat.reduceEqDiff, reduceCtorEq, reduceIte, intD, i0, i1, i2, @a_wrap ((k:Int) + 1) (by omega)]
    ·simp only [zN, seval, Nat.reduceLeDiff, Nat.reduceEqDiff, reduceCtorEq, reduceIte, intD, SLs_fff, SLs_tff, SLs_ttf, SLs_ttt, List.length_append, gS_len, hl1, hl2, app2, app3, hbn0, hbn1, hb1e1, hb2s, hks, hp0, hkl, hgm, getD_none]
     repeat ((with_reducible refine And.intro ?_ ?_); (focus (first | omega | (simp only [lenR]; omega) | (refine qq ?_; rfl) | (refine dq ?_; kernel_rfl) | (intros; simp_all; done))))
     rw [← hb1e]
     simp only [zN, seval, Nat.reduceLeDiff, Nat.reduceEqDiff, reduceCtorEq, reduceIte, intD, SLs_fff, SLs_tff, SLs_ttf, SLs_ttt, List.length_append, gS_len, hl1, hl2, app2, app3, hbn0, hbn1, hb1e1, hb2s, hks, hp0, hkl]
     repeat ((with_reducible refine And.intro ?_ ?_); (focus (first | omega | (simp only [lenR]; omega) | (refine qq ?_; rfl) | (refine dq ?_; kernel_rfl) | (intros; simp_all; done))))
     have hren := grow_fin ht h ep b2 hl2 hb2m hq2 (.box 5 (.d x.toD)) (.arr 1 [.int .i64 k])
     rw [hAN] at hren
     refine weak_to [] (rkL (l.length + 4) (slotS x.parent) (l.length + 4 + 2)) rfl (rk_nodup (.inl (by omega))) ?_ hren
     simp only [zN, seval, Nat.reduceLeDiff, Nat.reduceEqDiff, reduceCtorEq, reduceIte, intD, i0, i1, i2, @a_wrap ((k:Int) + 1) (by omega)]
   ·obtain ⟨b1, hb1e⟩ : ∃ b1, b1 = (gS l k).set (slotS x.parent) .dead := ⟨_, rfl⟩
    have hl1 : b1.length = l.length + 4 := by rw [hb1e, List.length_set, hlN]
    obtain ⟨b2, hb2e⟩ : ∃ b2, b2 = b1.set 1 (.map (some .i64) (mset (gM l k) (.i x.parent) (.osl (l.length + 4 + 2) 0 (kidsN l x.parent (k + 1)).length))) := ⟨_, rfl⟩
    have hl2 : b2.length = l.length + 4 := by rw [hb2e, List.length_set, hl1]
    have hb2m : blkAt b2 1 = .map (some .i64) (mset (gM l k) (.i x.parent) (.osl (l.length + 4 + 2) 0 (kidsN l x.parent (k + 1)).length)) := by rw [hb2e]; exact blkAt_set_self (by omega)
    have hq1 : ∀ q, q < l.length + 4 → q ≠ slotS x.parent → blkAt b1 q = gF l k q := fun q h1 h2 => by rw [hb1e, blkAt_set_ne (Ne.symm h2), gS_at l k h1]
    have hq2 : ∀ q, q < l.length + 4 → q ≠ 1 → q ≠ slotS x.parent → blkAt b2 q = gF l k q := fun q h1 h2 h3 => by rw [hb2e, blkAt_set_ne (Ne.symm h2), hq1 q h1 h3]
    have hgm : gM l k (.i x.parent) = some (.osl (slotS x.parent) 0 (kidsN l x.parent k).length) := by rw [gM_i, if_neg hp0]
    have hbn0 : ∀ τ i, blkAt (gS l k ++ τ) (l.length + 4 + i) = blkAt τ i := fun τ i => base_new hlN i
    have hbn1 : ∀ τ i, blkAt (b1 ++ τ) (l.length + 4 + i) = blkAt τ i := fun τ i => base_new hl1 i
    have hb1e1 : ∀ τ, blkAt (b1 ++ τ) 1 = .map (some .i64) (gM l k) := fun τ => by rw [blkAt_append_old (by omega)]; exact hq1 1 (by omega) (by omega)
    have hb2s : ∀ τ, (b1 ++ τ).set 1 (.map (some .i64) (mset (gM l k) (.i x.parent) (.osl (l.length + 4 + 2) 0 ((kidsN l x.parent k).length + 1)))) = b2 ++ τ := fun τ => by rw [base_set hl1 (by omega), hb2e, hkl]
    have hbs : ∀ τ, blkAt (gS l k ++ τ) (slotS x.parent) = .arr 1 ((kidsN l x.parent k).map intD) := fun τ => by
     rw [gA_old l k τ hsl, show slotS x.parent = (x.parent + 1).toNat + 3 by unfold slotS; omega]
     show gB l k (x.parent + 1).toNat = _
     rw [gB, show keyS (x.parent + 1).toNat = x.parent by unfold keyS; omega, if_neg hp0]
    have hkd : ∀ τ, (gS l k ++ τ).set (slotS x.parent) .dead = b1 ++ τ := fun τ => by rw [base_set hlN hsl, hb1e]
    have hAM : (kidsN l x.parent (k + 1)).map intD = (kidsN l x.parent k).map intD ++ [.int .i64 k] := by rw [hks, List.map_append]; rfl
    have hAN : Blk.arr 1 ((kidsN l x.parent (k + 1)).map intD) = .arr 1 ((kidsN l x.parent k).map intD ++ [.int .i64 k]) := by rw [hAM]
    have f2 : ∀ c10 c11 c12, blkAt (SLs (gS l k) b1 b2 (.box 5 (.d x.toD)) (.arr 1 [.int .i64 k]) (.arr 1 ((kidsN l x.parent (k + 1)).map intD)) c10 c11 c12) 2 = .box 2 (.agg [.d (.sl (l.map NodeT.toD)), .mapr 1]) := fun c10 c11 c12 => SLs_old hlN hl1 hl2 (by omega) (gS_at l k (by omega)) (hq1 2 (by omega) (by omega)) (fun _ => hq2 2 (by omega) (by omega) (by omega))
    have fN : ∀ c10 c11 c12, blkAt (SLs (gS l k) b1 b2 (.box 5 (.d x.toD)) (.arr 1 [.int .i64 k]) (.arr 1 ((kidsN l x.parent (k + 1)).map intD)) c10 c11 c12) (l.length + 4) = .box 5 (.d x.toD) := fun c10 c11 c12 => SLs_new hlN hl1 hl2
    have f1 : ∀ c10 c11, blkAt (SLs (gS l k) b1 b2 (.box 5 (.d x.toD)) (.arr 1 [.int .i64 k]) (.arr 1 ((kidsN l x.parent (k + 1)).map intD)) c10 c11 false) 1 = .map (some .i64) (gM l k) := fun c10 c11 => SLs_old hlN hl1 hl2 (by omega) (gS_at l k (by omega)) (hq1 1 (by omega) (by omega)) (fun h => by cases h)
    refine ⟨.inr (.inr (.inr (evFree_can
     (fun L => [(27, onV (L 11) (.osl (l.length + 4 + 2) 0 (kidsN l x.parent (k + 1)).length)), (26, onV (L 10) (.osl (l.length + 4 + 1) 0 1)), (25, onV (L 9) (.d (.int .i64 k))), (24, onV (L 8) (.osl (slotS x.parent) 0 (kidsN l x.parent k).length)), (23, onV (L 7) (.d (.int .i64 x.parent))), (22, onV (L 6) (.ptr (l.length + 4) 0)), (21, onV (L 5) (.mapr 1)), (20, onV (L 4) (.ptr 2 1)), (19, onV (L 3) (.d (.int .i64 x.parent))), (18, onV (L 2) (.ptr (l.length + 4) 0)), (17, onV (L 1) (.mapr 1)), (16, onV (L 0) (.ptr 2 1)),
      (3, .ptr 2 0), (9, .d (.sl (l.map NodeT.toD))), (10, .d (.int .i64 l.length)), (11, .d (.int .i64 k)), (2, .ptr 0 0), (4, .d (.int .i64 k)), (5, .ptr (l.length + 4) 0)])
     (fun L => SLs (gS l k) b1 b2 (.box 5 (.d x.toD)) (.arr 1 [.int .i64 k]) (.arr 1 ((kidsN l x.parent (k + 1)).map intD)) (L 10) (L 11) (L 12)) (by kernel_rfl) ?_ ?_ ?_))), ?_⟩
    ·refine weak_sub ?_
     rfl
    ·simp only [stepsL]
     refine ⟨?_, ?_, ?_, ?_, ?_, ?_, ?_, ?_, ?_, ?_, ?_, ?_, ?_, trivial⟩
     ·intro L hc hL hp
      (simp only [predsL, Region.binds, frB] at hp; (try simp only [Nat.zero_add, Nat.reduceAdd] at hL); simp only [zN, seval, Nat.reduceLeDiff, Nat.reduceEqDiff, reduceCtorEq, reduceIte, intD, hL, hp, onV_t, onV_f, updB, f2, fN, gS_len])
      refine weak_sub ?_
      simp only [zN, seval, Nat.reduceLeDiff, Nat.reduceEqDiff, reduceCtorEq, reduceIte, intD, onV_t, onV_f]
     ·intro L hc hL hp
      (simp only [predsL, Region.binds, frB] at hp; (try simp only [Nat.zero_add, Nat.reduceAdd] at hL); simp only [zN, seval, Nat.reduceLeDiff, Nat.reduceEqDiff, reduceCtorEq, reduceIte, intD, hL, hp, onV_t, onV_f, updB, f2, fN, gS_len])
      refine weak_sub ?_
      simp only [zN, seval, Nat.reduceLeDiff, Nat.reduceEqDiff, reduceCtorEq, reduceIte, intD, onV_t, onV_f]
     ·intro L hc hL hp
      (simp only [predsL, Region.binds, frB] at hp; (try simp only [Nat.zero_add, Nat.reduceAdd] at hL); simp only [zN, seval, Nat.reduceLeDiff, Nat.reduceEqDiff, reduceCtorEq, reduceIte, intD, hL, hp, onV_t, onV_f, updB, f2, fN, gS_len])
      refine weak_sub ?_
      simp only [zN, seval, Nat.reduceLeDiff, Nat.reduceEqDiff, reduceCtorEq, reduceIte, intD, onV_t, onV_f]
     ·intro L hc hL hp
      (simp only [predsL, Region.binds, frB] at hp; (try simp only [Nat.zero_add, Nat.reduceAdd] at hL); simp only [zN, seval, Nat.reduceLeDiff, Nat.reduceEqDiff, reduceCtorEq, reduceIte, intD, hL, hp, onV_t, onV_f, updB, f2, fN, gS_len])
      refine weak_sub ?_
      simp only [zN, seval, Nat.reduceLeDiff, Nat.reduceEqDiff, reduceCtorEq, reduceIte, intD, onV_t, onV_f]
     ·intro L hc hL hp
      (simp only [predsL, Region.binds, frB] at hp; (try simp only [Nat.zero_add, Nat.reduceAdd] at hL); simp only [zN, seval, Nat.reduceLeDiff, Nat.reduceEqDiff, reduceCtorEq, reduceIte, intD, hL, hp, onV_t, onV_f, updB, f2, fN, gS_len])
      refine weak_sub ?_
      simp only [zN, seval, Nat.reduceLeDiff, Nat.reduceEqDiff, reduceCtorEq, reduceIte, intD, onV_t, onV_f]
     ·intro L hc hL hp
      (simp only [predsL, Region.binds, frB] at hp; (try simp only [Nat.zero_add, Nat.reduceAdd] at hL); simp only [zN, seval, Nat.reduceLeDiff, Nat.reduceEqDiff, reduceCtorEq, reduceIte, intD, hL, hp, onV_t, onV_f, updB, f2, fN, gS_len])
      refine weak_sub ?_
      simp only [zN, seval, Nat.reduceLeDiff, Nat.reduceEqDiff, reduceCtorEq, reduceIte, intD, onV_t, onV_f]
     ·intro L hc hL hp
      (simp only [predsL, Region.binds, frB] at hp; (try simp only [Nat.zero_add, Nat.reduceAdd] at hL); simp only [zN, seval, Nat.reduceLeDiff, Nat.reduceEqDiff, reduceCtorEq, reduceIte, intD, hL, hp, onV_t, onV_f, updB, f2, fN, gS_len])
      refine weak_sub ?_
      simp only [zN, seval, Nat.reduceLeDiff, Nat.reduceEqDiff, reduceCtorEq, reduceIte, intD, onV_t, onV_f]
     ·intro L hc hL hp
      (simp only [predsL, Region.binds, frB] at hp; (try simp only [Nat.zero_add, Nat.reduceAdd] at hL); simp only [zN, seval, Nat.reduceLeDiff, Nat.reduceEqDiff, reduceCtorEq, reduceIte, intD, hL, hp, onV_t, onV_f, updB, f2, fN, gS_len])
      refine weak_sub ?_
      simp only [zN, seval, Nat.reduceLeDiff, Nat.reduceEqDiff, reduceCtorEq, reduceIte, intD, onV_t, onV_f]
     ·intro L hc hL hp
      have h12 : L 12 = false := nope hL fun h => predsL_on (hc 12 _ rfl h) 8 (by kernel_rfl)
      (simp only [predsL, Region.binds, frB] at hp; (try simp only [Nat.zero_add, Nat.reduceAdd] at hL); simp only [zN, seval, Nat.reduceLeDiff, Nat.reduceEqDiff, reduceCtorEq, reduceIte, intD, hL, hp, onV_t, onV_f, updB, f2, fN, gS_len])
      simp only [zN, seval, Nat.reduceLeDiff, Nat.reduceEqDiff, reduceCtorEq, reduceIte, intD, h12, f1, hgm, getD_some]
      refine weak_sub ?_
      simp only [zN, seval, Nat.reduceLeDiff, Nat.reduceEqDiff, reduceCtorEq, reduceIte, intD, onV_t, onV_f]
     ·intro L hc hL hp
      (simp only [predsL, Region.binds, frB] at hp; (try simp only [Nat.zero_add, Nat.reduceAdd] at hL); simp only [zN, seval, Nat.reduceLeDiff, Nat.reduceEqDiff, reduceCtorEq, reduceIte, intD, hL, hp, onV_t, onV_f, updB, f2, fN, gS_len])
      refine weak_sub ?_
      simp only [zN, seval, Nat.reduceLeDiff, Nat.reduceEqDiff, reduceCtorEq, reduceIte, intD, onV_t, onV_f]
     ·intro L hc hL hp
      have h11 : L 11 = false := nope hL fun h => predsL_on (hc 11 _ rfl h) 10 (by kernel_rfl)
      have h12 : L 12 = false := nope hL fun h => predsL_on (hc 12 _ rfl h) 10 (by kernel_rfl)
      (simp only [predsL, Region.binds, frB] at hp; (try simp only [Nat.zero_add, Nat.reduceAdd] at hL); simp only [zN, seval, Nat.reduceLeDiff, Nat.reduceEqDiff, reduceCtorEq, reduceIte, intD, hL, hp, onV_t, onV_f, updB, f2, fN, gS_len])
      simp only [zN, seval, Nat.reduceLeDiff, Nat.reduceEqDiff, reduceCtorEq, reduceIte, intD, h11, h12, onV_f, SLs_fff, SLs_tff, SLs_ttf, SLs_ttt, List.length_append, gS_len, hl1, hl2, app2, app3, hbn0, hbn1, hb1e1, hb2s, hbs, hkd, hAM, hkl, take_all]
      refine weak_sub ?_
      simp only [zN, seval, Nat.reduceLeDiff, Nat.reduceEqDiff, reduceCtorEq, reduceIte, intD, onV_t, onV_f]
     ·intro L hc hL hp
      have h12 : L 12 = false := nope hL fun h => predsL_on (hc 12 _ rfl h) 11 (by kernel_rfl)
      (simp only [predsL, Region.binds, frB] at hp; (try simp only [Nat.zero_add, Nat.reduceAdd] at hL); simp only [zN, seval, Nat.reduceLeDiff, Nat.reduceEqDiff, reduceCtorEq, reduceIte, intD, hL, hp, onV_t, onV_f, updB, f2, fN, gS_len])
      simp only [zN, seval, Nat.reduceLeDiff, Nat.reduceEqDiff, reduceCtorEq, reduceIte, intD, h12, onV_f, SLs_fff, SLs_tff, SLs_ttf, SLs_ttt, List.length_append, gS_len, hl1, hl2, app2, app3, hbn0, hbn1, hb1e1, hb2s, hbs, hkd, hAM, hkl, take_all]
      repeat ((with_reducible refine And.intro ?_ ?_); (focus (first | omega | (simp only [lenR]; omega) | (refine qq ?_; rfl) | (refine dq ?_; kernel_rfl) | (intros; simp_all; done))))
      refine weak_sub ?_
      simp only [zN, seval, Nat.reduceLeDiff, Nat.reduceEqDiff, reduceCtorEq, reduceIte, intD, onV_t, onV_f]
     ·intro L hc hL hp
      (simp only [predsL, Region.binds, frB] at hp; (try simp only [Nat.zero_add, Nat.reduceAdd] at hL); simp only [zN, seval, Nat.reduceLeDiff, Nat.reduceEqDiff, reduceCtorEq, reduceIte, intD, hL, hp, onV_t, onV_f, updB, f2, fN, gS_len])
      simp only [zN, seval, Nat.reduceLeDiff, Nat.reduceEqDiff, reduceCtorEq, reduceIte, intD, SLs_fff, SLs_tff, SLs_ttf, SLs_ttt, List.length_append, gS_len, hl1, hl2, app2, app3, hbn0, hbn1, hb1e1, hb2s, hbs, hkd, hAM, hkl, take_all]
      repeat ((with_reducible refine And.intro ?_ ?_); (focus (first | omega | (simp only [lenR]; omega) | (refine qq ?_; rfl) | (refine dq ?_; kernel_rfl) | (intros; simp_all; done))))
      refine weak_sub ?_
      simp only [zN, seval, Nat.reduceLeDiff, Nat.reduceEqDiff, reduceCtorEq, reduceIte, intD, onV_t, onV_f]
    ·simp only [zN, seval, Nat.reduceLeDiff, Nat.reduceEqDiff, reduceCtorEq, reduceIte, intD, onV_t, SLs_fff, SLs_tff, SLs_ttf, SLs_ttt, List.length_append, gS_len, hl1, hl2, app2, app3, hbn0, hbn1, hb1e1, hb2s, hbs, hkd, hAM, hkl, take_all]
     have hren := grow_fin ht h ep b2 hl2 hb2m hq2 (.box 5 (.d x.toD)) (.arr 1 [.int .i64 k])
     rw [hAN] at hren
     refine weak_to [] (rkL (l.length + 4) (slotS x.parent) (l.length + 4 + 2)) rfl (rk_nodup (.inl (by omega))) ?_ hren
     simp only [zN, seval, Nat.reduceLeDiff, Nat.reduceEqDiff, reduceCtorEq, reduceIte, intD, i0, i1, i2, @a_wrap ((k:Int) + 1) (by omega)]
    ·simp only [zN, seval, Nat.reduceLeDiff, Nat.reduceEqDiff, reduceCtorEq, reduceIte, intD, SLs_fff, SLs_tff, SLs_ttf, SLs_ttt, List.length_append, gS_len, hl1, hl2, app2, app3, hbn0, hbn1, hb1e1, hb2s, hbs, hkd, hAM, hkl, take_all, hgm, getD_some]
     repeat ((with_reducible refine And.intro ?_ ?_); (focus (first | omega | (simp only [lenR]; omega) | (refine qq ?_; rfl) | (refine dq ?_; kernel_rfl) | (intros; simp_all; done))))
     have hren := grow_fin ht h ep b2 hl2 hb2m hq2 (.box 5 (.d x.toD)) (.arr 1 [.int .i64 k])
     rw [hAN] at hren
     refine weak_to [] (rkL (l.length + 4) (slotS x.parent) (l.length + 4 + 2)) rfl (rk_nodup (.inl (by omega))) ?_ hren
     simp only [zN, seval, Nat.reduceLeDiff, Nat.reduceEqDiff, reduceCtorEq, reduceIte, intD, i0, i1, i2, @a_wrap ((k:Int) + 1) (by omega)]
  ·have : k = l.length := by omega
   subst this
   have e2 : blkAt (gS l l.length) 2 = .box 2 (.agg [.d (.sl (l.map NodeT.toD)), .mapr 1]) := gS_at l _ (by omega)
   have e0 : blkAt (gS l l.length) 0 = .box 2 (.agg [.nils, .d (.raw (.map none))]) := gS_at l _ (by omega)
   have es : ∀ B, blkAt ((gS l l.length).set 0 B) 0 = B := fun B => blkAt_set_self (by rw [gS_len]; omega)
   simp only [zN, seval, Nat.reduceLeDiff, Nat.reduceEqDiff, reduceCtorEq, reduceIte, intD, (show ¬ (l.length:Int) < l.length by omega), e2, e0, es]
   repeat ((with_reducible refine And.intro ?_ ?_); (focus (first | omega | (simp only [lenR]; omega) | (refine qq ?_; rfl) | (refine dq ?_; kernel_rfl) | (intros; simp_all; done))))
   refine ⟨_, _, grow_end ht _ (by rw [List.length_set, gS_len]) (fun q h1 h2 => by rw [blkAt_set_ne (by omega), gS_at l _ h2]) _, rfl, rfl⟩

def shTx (l : List NodeT) (x : Nat × Nat) : List UInt8 := txtN x.1 ++ 32 :: nm l x.2
def stT (l : List NodeT) : Blk := .box 2 (.agg [.d (.sl (l.map NodeT.toD)), .mapr 3])
def stF (F : FuncId) : Blk := .box 1 (.fn F [.ptr 0 0, .ptr 1 0, .ptr 2 0])
theorem kidM_get (l : List NodeT) (p : Int) : kidM l (.i p) = if kids l p = [] then none else some (.d (.sl ((kids l p).map intD))) := rfl
theorem kidM_ren (l : List NodeT) (ρ : List Nat) (σ : Sto) : renB ρ σ (.map (some .i64) (kidM l)) = .map (some .i64) (kidM l) := still_ren (B := .map (some .i64) (kidM l)) (kidM_still l) ρ σ
theorem kidM_back (l : List NodeT) (b : Nat → Nat) : backB b (.map (some .i64) (kidM l)) = .map (some .i64) (kidM l) := still_back (B := .map (some .i64) (kidM l)) (kidM_still l) b
theorem shapeP_len {l : List NodeT} (h : TreeUp l l.length) (f i d : Nat) (hi : i < l.length) (hf : l.length ≤ f + i) : (shapeP l f i d).length ≤ l.length := by
 rw [shapeP_below h f i d hi hf, List.length_map]
 exact Nat.le_trans (List.length_filter_le _ _) (by simp)
def subP (l : List NodeT) (f d : Nat) (ks : List Nat) : List (Nat × Nat) := ks.flatMap fun k => (d, k) :: shapeP l f k (d + 1)
theorem subP_step (l : List NodeT) (f d : Nat) (ks : List Nat) {j : Nat} (h : j < ks.length) : subP l f d (ks.take (j + 1)) = subP l f d (ks.take j) ++ ((d, ks.getD j default) :: shapeP l f (ks.getD j default) (d + 1)) := by
 rw [subP, take_step ks j h, List.flatMap_append]
 simp [subP]
theorem subP_le (l : List NodeT) (f d : Nat) (ks : List Nat) (j : Nat) : (subP l f d (ks.take j)).length ≤ (subP l f d ks).length := by
 conv => rhs; rw [← List.take_append_drop j ks]
 unfold subP
 rw [List.flatMap_append, List.length_append]; omega
def outJ (l : List NodeT) (f d : Nat) (ks : List Nat) (out : List (List UInt8)) (j : Nat) : List (List UInt8) := out ++ (subP l f d (ks.take j)).map (shTx l)
theorem outJ_zero (l : List NodeT) (f d : Nat) (ks : List Nat) (out : List (List UInt8)) : outJ l f d ks out 0 = out := by
 rw [outJ, show (subP l f d (ks.take 0)).map (shTx l) = [] from rfl, List.append_nil]
theorem k_below (l : List NodeT) (hl : l.length ≤ 100) (hc : checkF l = 0) : ∀ (f i d : Nat) (out : List (List UInt8)), i < l.length → l.length ≤ f + i → d ≤ i + 1 → out.length + (shapeP l f i d).length ≤ 100000 →
  ACalls Tryz.prog Gl 107 [.d (.int .i64 i), .d (.int .i64 d), .ptr 0 0, .ptr 1 0, .ptr 2 0] [stT l, .box 1 (.osl 4 0 out.length), stF 107, .map (some .i64) (kidM l), .arr 1 (out.map .str)]
   (fun r s => r = .tup [] ∧ s = [stT l, .box 1 (.osl 5 0 (out ++ (shapeP l f i d).map (shTx l)).length), stF 107, .map (some .i64) (kidM l), .dead, .arr 1 ((out ++ (shapeP l f i d).map (shTx l)).map .str)]) := by
 have ht := (checkF_ok hc).2.2.2.1
 intro f
 induction f with
 | zero => intro i d out hi hf; omega
 | succ f ih =>
  intro i d out hi hf hd ho
  refine acalls_of Tryz.func107 rfl rfl (by simp [Tryz.ntmps107]) (evC_sound rfl _ _ _ _ ?_)
  simp only [Tryz.ntmps107, Tryz.results107, argEnv, List.length_nil]
  simp only [zN, seval, Nat.reduceLeDiff, Nat.reduceEqDiff, reduceCtorEq, reduceIte, intD, stT, stF, kidM_get]
  by_cases hk : kids l i = []
  ·have hs : shapeP l (f + 1) i d = [] := by rw [shapeP, hk]; rfl
   rw [hs]
   simp only [zN, seval, Nat.reduceLeDiff, Nat.reduceEqDiff, reduceCtorEq, reduceIte, intD, hk, getD_none]
   refine loop_of (τ := Unit) (fun _ => [(13, .d (.int .i64 0)), (14, .d (.int .i64 0))]) (fun _ => [stT l, .box 1 (.osl 5 0 out.length), stF 107, .map (some .i64) (kidM l), .dead, .arr 1 (out.map .str)]) (fun _ => True) (fun _ => 0) () trivial ?_ ?_
   ·refine weak_mv [] [0, 1, 2, 3, 9, 4] (fun j hj => ?_) (by decide) ?_ ?_
    ·match j, hj with
     | 0, _ => exact ⟨0, rfl, .inl rfl⟩
     | 1, _ => exact ⟨1, rfl, .inl rfl⟩
     | 2, _ => exact ⟨2, rfl, .inl rfl⟩
     | 3, _ => exact ⟨3, rfl, .inl rfl⟩
     | 4, _ => exact ⟨9, rfl, .inr (show (5:Nat) ≤ 9 by decide)⟩
    ·simp only [zN, seval, Nat.reduceLeDiff, Nat.reduceEqDiff, reduceCtorEq, reduceIte, intD]
    ·show [renB _ _ _, renB _ _ _, renB _ _ _, renB _ _ (.map (some .i64) (kidM l)), _, _] = _
     rw [kidM_ren]
     rfl
   ·intro _ _
    simp only [zN, seval, Nat.reduceLeDiff, Nat.reduceEqDiff, reduceCtorEq, reduceIte, intD]
    exact ⟨_, _, WeakR.refl _ _ _, rfl, rfl⟩
  ·obtain ⟨ks, hks⟩ : ∃ ks, ks = kids l i := ⟨_, rfl⟩
   have hsub : shapeP l (f + 1) i d = subP l f d ks := by rw [hks]; rfl
   have hksl : ∀ k ∈ ks, k < l.length := fun k hk => by rw [hks] at hk; exact kids_lt hk
   have hksn : ks.length ≤ 100 := by rw [hks]; exact Nat.le_trans (kidsN_len l i l.length) hl
   rw [hsub] at ho ⊢
   have hfin : out ++ (subP l f d ks).map (shTx l) = outJ l f d ks out ks.length := by rw [outJ, List.take_length]
   rw [hfin]
   rw [← hks] at hk
   simp only [zN, seval, Nat.reduceLeDiff, Nat.reduceEqDiff, reduceCtorEq, reduceIte, intD, ← hks, if_neg hk, getD_some]
   refine for_of ks.length (fun j => [(0, .d (.int .i64 i)), (1, .d (.int .i64 d)), (2, .ptr 0 0), (3, .ptr 1 0), (4, .ptr 2 0), (12, .d (.sl (ks.map intD))), (13, .d (.int .i64 ks.length)), (14, .d (.int .i64 j))])
    (fun j => [stT l, .box 1 (.osl 5 0 (outJ l f d ks out j).length), stF 107, .map (some .i64) (kidM l), .dead, .arr 1 ((outJ l f d ks out j).map .str)]) (fun _ => True) trivial ?_ ?_
   ·refine weak_mv [] [0, 1, 2, 3, 9, 4] (fun j hj => ?_) (by decide) ?_ ?_
    ·match j, hj with
     | 0, _ => exact ⟨0, rfl, .inl rfl⟩
     | 1, _ => exact ⟨1, rfl, .inl rfl⟩
     | 2, _ => exact ⟨2, rfl, .inl rfl⟩
     | 3, _ => exact ⟨3, rfl, .inl rfl⟩
     | 4, _ => exact ⟨9, rfl, .inr (show (5:Nat) ≤ 9 by decide)⟩
    ·simp only [zN, seval, Nat.reduceLeDiff, Nat.reduceEqDiff, reduceCtorEq, reduceIte, intD, Int.cast_ofNat_Int]
    ·show [renB _ _ _, renB _ _ _, renB _ _ _, renB _ _ (.map (some .i64) (kidM l)), _, _] = _
     rw [kidM_ren, outJ_zero]
     rfl
   ·intro j _ hj
    by_cases h : j < ks.length
    ·obtain ⟨k, hkd⟩ : ∃ k, k = ks.getD j default := ⟨_, rfl⟩
     have hkm : k ∈ ks := by rw [hkd]; exact mem_getD h
     have hkl := hksl k hkm
     have hik : i < k := by
      rw [hks] at hkm
      exact (kids_gt ht hkm).1
     have gk : (ks.map intD).getD j default = .int .i64 k := by rw [a_getD _ _ _ h, ← hkd]; rfl
     have hst := subP_step l f d ks h
     rw [← hkd] at hst
     obtain ⟨o, hod⟩ : ∃ o, o = outJ l f d ks out j := ⟨_, rfl⟩
     rw [← hod]
     have hol : o.length + 1 + (shapeP l f k (d + 1)).length ≤ 100000 := by
      have h1 := subP_le l f d ks (j + 1)
      rw [hst, List.length_append, List.length_cons] at h1
      rw [hod, outJ, List.length_append, List.length_map]; omega
     have hnl := name_len hc hkl
     have htl := txt_len (d := d)
     obtain ⟨x, hx⟩ : ∃ x, x = l.getD k default := ⟨_, rfl⟩
     have en : nm l k = x.name := by rw [hx]; rfl
     rw [en] at hnl
     have eg : (l.map NodeT.toD).getD k default = x.toD := by rw [a_getD _ _ _ hkl, ← hx]
     simp only [zN, seval, Nat.reduceLeDiff, Nat.reduceEqDiff, reduceCtorEq, reduceIte, intD, (show (j:Int) < ks.length by omega), h, gk, stT, stF]
     repeat ((with_reducible refine And.intro ?_ ?_); (focus (first | omega | (simp only [lenR]; omega) | (refine qq ?_; rfl) | (refine dq ?_; kernel_rfl) | (intros; simp_all; done))))
     refine callF_pure (k_Text d (by omega)) ?_
     simp only [zN, seval, Nat.reduceLeDiff, Nat.reduceEqDiff, reduceCtorEq, reduceIte, intD, eg, hkl, (show (k:Int) < l.length by omega)]
     repeat ((with_reducible refine And.intro ?_ ?_); (focus (first | omega | (simp only [lenR]; omega) | (refine qq ?_; rfl) | (refine dq ?_; kernel_rfl) | (intros; simp_all; done))))
     obtain ⟨ln, hln⟩ : ∃ ln, ln = txtN d ++ 32 :: x.name := ⟨_, rfl⟩
     have hlnx : shTx l (d, k) = ln := by rw [shTx, hln, en]
     have hnx : outJ l f d ks out (j + 1) = (o ++ [ln]) ++ (shapeP l f k (d + 1)).map (shTx l) := by
      rw [outJ, hst, hod, outJ, List.map_append, List.map_cons, hlnx, List.append_assoc, List.append_assoc]; rfl
     have ew : IntKind.i64.wrap ((d : Int) + 1) = ((d + 1 : Nat) : Int) := by rw [wrap64 (by omega) (by omega)]; omega
     have hol1 : (o ++ [ln]).length = o.length + 1 := by simp
     have hkk := ih k (d + 1) (o ++ [ln]) hkl (by omega) (by omega) (by rw [hol1]; omega)
     rw [hol1, ← hnx] at hkk
     have ha : List.take o.length (o.map D.str) ++ [D.str ln] = (o ++ [ln]).map D.str := by rw [take_all, List.map_append]; rfl
     rw [← hln, ew, ha]
     obtain ⟨σ, hσ⟩ : ∃ σ : Sto, σ = [stT l, .box 1 (.osl 7 0 (o.length + 1)), stF 107, .map (some .i64) (kidM l), .dead, .dead, .arr 1 [.str ln], .arr 1 ((o ++ [ln]).map .str)] := ⟨_, rfl⟩
     have er : renS [0, 1, 2, 3, 7] σ = [stT l, .box 1 (.osl 4 0 (o.length + 1)), stF 107, .map (some .i64) (kidM l), .arr 1 ((o ++ [ln]).map .str)] := by
      rw [hσ]
      show [renB _ _ _, renB _ _ _, renB _ _ _, renB _ _ (.map (some .i64) (kidM l)), _] = _
      rw [kidM_ren]; rfl
     rw [← er] at hkk
     have hgo := ACalls.under (σ := σ) (args := [.d (.int .i64 k), .d (.int .i64 ((d + 1 : Nat) : Int)), .ptr 0 0, .ptr 1 0, .ptr 2 0]) [0, 1, 2, 3, 7] (by decide) (by rw [hσ]; simp) hkk
     have es : [Blk.box 2 (AV.agg [AV.d (D.sl (List.map NodeT.toD l)), AV.mapr 3]), Blk.box 1 (AV.osl 7 0 (o.length + 1)), Blk.box 1 (AV.fn 107 [AV.ptr 0 0, AV.ptr 1 0, AV.ptr 2 0]), Blk.map (some IntKind.i64) (kidM l), Blk.dead, Blk.dead, Blk.arr 1 [D.str ln], Blk.arr 1 ((o ++ [ln]).map D.str)] = σ := hσ.symm
     rw [es]
     refine callF_go (hgo.mono fun r s hrs => ?_)
     obtain ⟨r0, s0, ⟨rfl, rfl⟩, rfl, rfl⟩ := hrs
     have eb : ∀ n, backS [0, 1, 2, 3, 7] σ [stT l, .box 1 (.osl 5 0 n), stF 107, .map (some .i64) (kidM l), .dead, .arr 1 ((outJ l f d ks out (j + 1)).map .str)] = [stT l, .box 1 (.osl 8 0 n), stF 107, .map (some .i64) (kidM l), .dead, .dead, .arr 1 [.str ln], .dead, .arr 1 ((outJ l f d ks out (j + 1)).map .str)] := fun n => by
      rw [hσ]
      show [_, _, _, backB _ (.map (some .i64) (kidM l)), _, _, _, _, _] = _
      rw [kidM_back]; rfl
     rw [eb]
     simp only [zN, seval, Nat.reduceLeDiff, Nat.reduceEqDiff, reduceCtorEq, reduceIte, intD]
     refine weak_to [] [0, 1, 2, 3, 4, 8] rfl (by decide) ?_ ?_
     ·simp only [zN, seval, Nat.reduceLeDiff, Nat.reduceEqDiff, reduceCtorEq, reduceIte, intD, @a_wrap ((j:Int) + 1) (by omega)]
     ·show [renB _ _ _, renB _ _ _, renB _ _ _, renB _ _ (.map (some .i64) (kidM l)), _, _] = _
      rw [kidM_ren]
      rfl
    ·have : j = ks.length := by omega
     subst this
     simp only [zN, seval, Nat.reduceLeDiff, Nat.reduceEqDiff, reduceCtorEq, reduceIte, intD, (show ¬ (ks.length:Int) < ks.length by omega)]
     have hll : out.length + (subP l f d ks).length = (outJ l f d ks out ks.length).length := by simp [outJ]
     rw [hll]
     exact ⟨_, _, WeakR.refl _ _ _, rfl, rfl⟩
theorem shapeP_txt {l : List NodeT} (h : TreeUp l l.length) {i : Nat} (hi : i < l.length) : (shapeP l l.length i 1).map (shTx l) = shp l i := by
 rw [shapeP_below h l.length i 1 hi (by omega), List.map_map, shp]
 refine List.map_congr_left fun k hk => ?_
 show shTx l (1 + depW l i l.length k - 1, k) = _
 rw [Nat.add_sub_cancel_left]; rfl
theorem k_shape (l : List NodeT) (hl : l.length ≤ 100) (hc : checkF l = 0) (i : Nat) (hi : i < l.length) :
  ACalls Tryz.prog Gl 82 [.agg [.d (.sl (l.map NodeT.toD)), .mapr 0], .d (.int .i64 i)] [.map (some .i64) (kidM l)]
   (fun r s => r = .d (.sl ((shp l i).map .str)) ∧ s = [.map (some .i64) (kidM l)]) := by
 have ht := (checkF_ok hc).2.2.2.1
 have hraw : (D.raw Value.nilFunc).cells = [.raw .nilFunc] := rfl
 refine acalls_of Tryz.func82 rfl rfl (by simp [Tryz.ntmps82]) (evC_sound rfl _ _ _ _ ?_)
 simp only [Tryz.ntmps82, Tryz.results82, argEnv, List.length_nil]
 simp only [zN, seval, Nat.reduceLeDiff, Nat.reduceEqDiff, reduceCtorEq, reduceIte, intD, hraw, List.length_singleton]
 repeat ((with_reducible refine And.intro ?_ ?_); (focus (first | omega | (simp only [lenR]; omega) | (refine qq ?_; rfl) | (refine dq ?_; kernel_rfl) | (intros; simp_all; done))))
 have hw1 := weak_box1Nil (n := 0) (m := 4) (env := []) (σ := [Blk.map (some IntKind.i64) (kidM l), Blk.box 2 (AV.agg [AV.d (D.sl (List.map NodeT.toD l)), AV.mapr 0]), Blk.box 1 AV.nils, Blk.box 1 (AV.fn 107 [AV.ptr 1 0, AV.ptr 2 0, AV.ptr 3 0])]) 2 1 (by simp) rfl (by simp)
 obtain ⟨σ, hσ⟩ : ∃ σ : Sto, σ = [.map (some .i64) (kidM l), .box 2 (.agg [.d (.sl (l.map NodeT.toD)), .mapr 0]), .box 1 (.osl 4 0 0), .box 1 (.fn 107 [.ptr 1 0, .ptr 2 0, .ptr 3 0]), .arr 1 []] := ⟨_, rfl⟩
 have hw2 : Weak 0 4 [] [Blk.map (some IntKind.i64) (kidM l), Blk.box 2 (AV.agg [AV.d (D.sl (List.map NodeT.toD l)), AV.mapr 0]), Blk.box 1 AV.nils, Blk.box 1 (AV.fn 107 [AV.ptr 1 0, AV.ptr 2 0, AV.ptr 3 0])] [] σ := by rw [hσ]; exact hw1
 have hkk := k_below (Gl := Gl) l hl hc l.length i 1 [] hi (by omega) (by omega) (by have := shapeP_len ht l.length i 1 hi (by omega); simp only [List.length_nil]; omega)
 rw [List.nil_append, shapeP_txt ht hi] at hkk
 have er : renS [1, 2, 3, 0, 4] σ = [stT l, .box 1 (.osl 4 0 0), stF 107, .map (some .i64) (kidM l), .arr 1 []] := by
  rw [hσ]
  show [renB _ _ _, renB _ _ _, renB _ _ _, renB _ _ (.map (some .i64) (kidM l)), _] = _
  rw [kidM_ren]; rfl
 have hk2 : ACalls Tryz.prog Gl 107 ([.d (.int .i64 i), .d (.int .i64 1), .ptr 1 0, .ptr 2 0, .ptr 3 0].map (renV [1, 2, 3, 0, 4] σ)) (renS [1, 2, 3, 0, 4] σ) (fun r s => r = .tup [] ∧ s = [stT l, .box 1 (.osl 5 0 (shp l i).length), stF 107, .map (some .i64) (kidM l), .dead, .arr 1 ((shp l i).map .str)]) := by rw [er]; exact hkk
 have hgo := ACalls.under (σ := σ) (args := [.d (.int .i64 i), .d (.int .i64 1), .ptr 1 0, .ptr 2 0, .ptr 3 0]) [1, 2, 3, 0, 4] (by decide) (by rw [hσ]; simp) hk2
 refine callF_go (ACalls.weak hw2 (hgo.mono fun r s hrs => ?_))
 obtain ⟨r0, s0, ⟨rfl, rfl⟩, rfl, rfl⟩ := hrs
 have eb : ∀ n, backS [1, 2, 3, 0, 4] σ [stT l, .box 1 (.osl 5 0 n), stF 107, .map (some .i64) (kidM l), .dead, .arr 1 ((shp l i).map .str)] = [.map (some .i64) (kidM l), .box 2 (.agg [.d (.sl (l.map NodeT.toD)), .mapr 0]), .box 1 (.osl 5 0 n), .box 1 (.fn 107 [.ptr 1 0, .ptr 2 0, .ptr 3 0]), .dead, .arr 1 ((shp l i).map .str)] := fun n => by
  rw [hσ]
  show [backB _ (.map (some .i64) (kidM l)), _, _, _, _, _] = _
  rw [kidM_back]; rfl
 rw [eb]
 simp only [zN, seval, Nat.reduceLeDiff, Nat.reduceEqDiff, reduceCtorEq, reduceIte, intD]
 refine ⟨_, _, (weakR_toD (by rfl)).trans (weakR_to [] [0] rfl (by simp) (show renV _ _ _ = AV.d _ from rfl) ?_), ?_, rfl⟩
 ·show [renB _ _ (.map (some .i64) (kidM l))] = _
  rw [kidM_ren]
 ·show AV.d (D.sl (List.take (shp l i).length ((shp l i).map D.str))) = _
  rw [take_all]
end YtmedpoeeoihfmaaGreatDoor
end Go.Proofs

set_option maxRecDepth 100000
namespace Go.Proofs
open Go.AM
namespace Mul64
theorem wrapN (a : Nat) (ha : a < 18446744073709551616) : IntKind.u64.wrap (a : Int) = (a : Int) := by rw [IntKind.wrap_u64]; omega
theorem wrapM (a : Nat) : IntKind.u64.wrap (a : Int) = ((a % 18446744073709551616 : Nat) : Int) := by rw [IntKind.wrap_u64]; omega
end Mul64
namespace YtmedpoeeoihfmaaGreatDoor
variable {Gl : Globs}
theorem and32 (a : Nat) (ha : a < 18446744073709551616) : intBin .and .u64 (a : Int) 4294967295 = .int .u64 ((a % 4294967296 : Nat) : Int) := by
 have h := bits_and_u64_nat a 4294967295 ha (by omega)
 have e : a &&& 4294967295 = a % 4294967296 := Nat.and_two_pow_sub_one_eq_mod a 32
 rw [e] at h
 rw [← h]; rfl
theorem shr32 (a : Nat) : intBin .shr .u64 (a : Int) 32 = .int .u64 ((a / 4294967296 : Nat) : Int) := by
 show D.int .u64 (Int.fdiv (a : Int) (2 ^ (min 32 64))) = _
 rw [Int.fdiv_eq_ediv_of_nonneg _ (by decide)]
 rfl
theorem okAnd (b : Int) : intBinOk .and .u64 .u64 b = True := eq_true rfl
theorem k_Mul64 (n : Nat) (hn : n ≤ 2000) : Pure Tryz.prog Gl 92 [.d (.int .u64 1), .d (.int .u64 n)] (.tup [.d (.int .u64 0), .d (.int .u64 n)]) := by
 have e1 : intBin .and .u64 1 4294967295 = .int .u64 1 := and32 1 (by omega)
 have e2 : intBin .and .u64 n 4294967295 = .int .u64 n := by rw [and32 n (by omega), Nat.mod_eq_of_lt (by omega)]
 have e3 : intBin .and .u64 0 4294967295 = .int .u64 0 := and32 0 (by omega)
 have s1 : intBin .shr .u64 1 32 = .int .u64 0 := shr32 1
 have s2 : intBin .shr .u64 n 32 = .int .u64 0 := by rw [shr32 n, Nat.div_eq_of_lt (by omega)]; rfl
 have s3 : intBin .shr .u64 0 32 = .int .u64 0 := shr32 0
 have w0 : IntKind.u64.wrap 0 = 0 := rfl
 have wn : IntKind.u64.wrap (n : Int) = n := Mul64.wrapN n (by omega)
 refine Pure.of2t2 ?_
 refine acalls_of Tryz.func92 rfl rfl (by simp [Tryz.ntmps92]) (evC_sound rfl _ _ _ _ ?_)
 simp only [Tryz.ntmps92, Tryz.results92, argEnv, List.length_nil]
 simp only [zN, seval, Nat.reduceLeDiff, Nat.reduceEqDiff, reduceCtorEq, reduceIte, intD, okAnd, true_and, e1, e2, e3, s1, s2, s3, w0, wn, Int.one_mul, Int.zero_mul, Int.mul_zero, Int.add_zero, Int.mul_one]
 exact ⟨_, _, ret_t2, rfl, rfl⟩
theorem k_Mul (n : Nat) (hn : n ≤ 2000) : Pure Tryz.prog Gl 78 [.d (.int .u64 1), .d (.int .u64 n)] (.tup [.d (.int .u64 0), .d (.int .u64 n)]) := by
 refine Pure.of2t2 ?_
 refine acalls_of Tryz.func78 rfl rfl (by simp [Tryz.ntmps78]) (evC_sound rfl _ _ _ _ ?_)
 simp only [Tryz.ntmps78, Tryz.results78, argEnv, List.length_nil]
 simp only [zN, seval, Nat.reduceLeDiff, Nat.reduceEqDiff, reduceCtorEq, reduceIte, intD]
 refine callF_pure (k_Mul64 n hn) ?_
 simp only [zN, seval, Nat.reduceLeDiff, Nat.reduceEqDiff, reduceCtorEq, reduceIte, intD]
 repeat ((with_reducible refine And.intro ?_ ?_); (focus (first | omega | (simp only [lenR]; omega) | (refine qq ?_; rfl) | (refine dq ?_; kernel_rfl) | (intros; simp_all; done))))
 exact ⟨_, _, ret_t2, rfl, rfl⟩
theorem k_EqualTexts (x y : List (List UInt8)) (hx : x.length < 1000000) (hy : y.length < 1000000) : Pure Tryz.prog Gl 36 [.d (.sl (x.map .str)), .d (.sl (y.map .str))] (.d (.bool (decide (x = y)))) := by
 refine Pure.of2 ?_
 refine acalls_of Tryz.func36 rfl rfl (by simp [Tryz.ntmps36]) (evC_sound rfl _ _ _ _ ?_)
 simp only [Tryz.ntmps36, Tryz.results36, argEnv, List.length_nil]
 simp only [zN, seval, Nat.reduceLeDiff, Nat.reduceEqDiff, reduceCtorEq, reduceIte, intD]
 refine ifC.mk (fun h1 => ?_) (fun h1 => ?_)
 ·have h1 : x.length ≠ y.length := by simp at h1; omega
  refine ⟨_, _, ret_d, ?_, rfl⟩
  rw [decide_eq_false (fun e => h1 (by rw [e]))]
 ·have h1 : x.length = y.length := by simp at h1; omega
  refine for_of x.length (fun j => [(0, .d (.sl (x.map .str))), (1, .d (.sl (y.map .str))), (12, .d (.int .i64 x.length)), (13, .d (.int .i64 j))]) (fun _ => []) (fun j => x.take j = y.take j) rfl ?_ ?_
  ·refine weak_to [] [] rfl List.nodup_nil ?_ rfl
   simp only [zN, seval, Nat.reduceLeDiff, Nat.reduceEqDiff, reduceCtorEq, reduceIte, intD, Int.cast_ofNat_Int]
  ·intro j hi hjl
   by_cases hj : j < x.length
   ·have hj2 : j < y.length := by omega
    have e1 := take_step x j hj
    have e2 := take_step y j hj2
    have g1 : (x.map D.str).getD j default = .str (x.getD j default) := by simp [hj]
    have g2 : (y.map D.str).getD j default = .str (y.getD j default) := by simp [hj2]
    simp only [zN, seval, Nat.reduceLeDiff, Nat.reduceEqDiff, reduceCtorEq, reduceIte, intD, (show (j:Int) < x.length by omega), (show (j:Int) < y.length by omega), hj, hj2, g1, g2]
    repeat ((with_reducible refine And.intro ?_ ?_); (focus (first | omega | (simp only [lenR]; omega) | (refine qq ?_; rfl) | (refine dq ?_; kernel_rfl) | (intros; simp_all; done))))
    refine ifC.mk (fun h2 => ?_) (fun h2 => ?_)
    ·have h2 : x.getD j default ≠ y.getD j default := by simpa using h2
     refine ⟨_, _, ret_d, ?_, rfl⟩
     rw [decide_eq_false (fun e => h2 (by rw [e]))]
    ·have h2 : x.getD j default = y.getD j default := by simpa using h2
     refine ⟨by rw [e1, e2, hi, h2], ?_⟩
     refine weak_to [] [] rfl List.nodup_nil ?_ rfl
     simp only [zN, seval, Nat.reduceLeDiff, Nat.reduceEqDiff, reduceCtorEq, reduceIte, intD, @a_wrap ((j:Int) + 1) (by omega)]
   ·have : j = x.length := by omega
    subst this
    simp only [zN, seval, Nat.reduceLeDiff, Nat.reduceEqDiff, reduceCtorEq, reduceIte, intD, (show ¬ (x.length:Int) < x.length by omega)]
    refine ⟨_, _, ret_d, ?_, rfl⟩
    rw [List.take_length, h1, List.take_length] at hi
    rw [decide_eq_true hi]
def fill (n j : Nat) : List D := (List.range n).map fun i => if i < j then .int .i64 (-1) else .int .i64 0
theorem fill_len (n j : Nat) : (fill n j).length = n := by simp [fill]
theorem fill_at {n j i : Nat} (h : i < n) : (fill n j)[i]? = some (if i < j then .int .i64 (-1) else .int .i64 0) := by simp [fill, h]
theorem fill_getD {n j i : Nat} (h : i < n) : (fill n j).getD i default = if i < j then .int .i64 (-1) else .int .i64 0 := by
 rw [List.getD_eq_getElem?_getD, fill_at h]; rfl
theorem fill_all (n : Nat) : fill n n = (List.replicate n (-1 : Int)).map (.int .i64) := by
 apply List.ext_getElem?
 intro i
 rcases Nat.lt_or_ge i n with h | h
 ·rw [fill_at h, if_pos h]; simp [h]
 ·rw [List.getElem?_eq_none (by rw [fill_len]; exact h), List.getElem?_eq_none (by simp; exact h)]
theorem fill_zero (n : Nat) : fill n 0 = List.replicate n (.int .i64 0) := by
 apply List.ext_getElem?
 intro i
 rcases Nat.lt_or_ge i n with h | h
 ·rw [fill_at h, if_neg (by omega)]; simp [h]
 ·rw [List.getElem?_eq_none (by rw [fill_len]; exact h), List.getElem?_eq_none (by simp; exact h)]
theorem fill_one (n : Nat) : cpX (fill n 0) 0 (min 1 n) [.int .i64 (-1)] = fill n (min 1 n) := by
 apply List.ext_getElem?
 intro i
 rcases Nat.lt_or_ge i n with h | h
 ·rw [cpX_get _ _ _ _ _ (by rw [fill_len]; exact h), fill_at h, fill_getD h]
  by_cases h0 : i = 0
  ·subst h0
   rw [if_pos (by omega), if_pos (by omega)]; rfl
  ·rw [if_neg (by omega), if_neg (by omega), if_neg (by omega)]
 ·rw [List.getElem?_eq_none (by rw [cpX_length, fill_len]; exact h), List.getElem?_eq_none (by rw [fill_len]; exact h)]
theorem fill_step (n j : Nat) (hj : j ≤ n) : cpX (fill n j) j (min j (n - j)) ((fill n j).take j) = fill n (j + min j (n - j)) := by
 apply List.ext_getElem?
 intro i
 rcases Nat.lt_or_ge i n with h | h
 ·rw [cpX_get _ _ _ _ _ (by rw [fill_len]; exact h), fill_at h, fill_getD h]
  by_cases h0 : j ≤ i ∧ i < j + min j (n - j)
  ·rw [if_pos h0, if_pos h0.2, List.getD_eq_getElem?_getD, List.getElem?_take_of_lt (by omega), fill_at (by omega), if_pos (by omega)]; rfl
  ·rw [if_neg h0]
   by_cases h1 : i < j
   ·rw [if_pos h1, if_pos (by omega)]
   ·rw [if_neg h1, if_neg (by omega)]
 ·rw [List.getElem?_eq_none (by rw [cpX_length, fill_len]; exact h), List.getElem?_eq_none (by rw [fill_len]; exact h)]
theorem k_Repeat (n : Nat) (hn : n ≤ 2000) : ACalls Tryz.prog Gl 46 [.d (.sl [.int .i64 (-1)]), .d (.int .i64 n)] [] (fun r s => r = .osl 0 0 n ∧ s = [.arr 1 ((List.replicate n (-1 : Int)).map (.int .i64))]) := by
 have w1 : IntKind.u64.wrap 1 = 1 := rfl
 have wn : IntKind.u64.wrap (n : Int) = n := Mul64.wrapN n (by omega)
 refine acalls_of Tryz.func46 rfl rfl (by simp [Tryz.ntmps46]) (evC_sound rfl _ _ _ _ ?_)
 simp only [Tryz.ntmps46, Tryz.results46, argEnv, List.length_nil]
 simp only [zN, seval, Nat.reduceLeDiff, Nat.reduceEqDiff, reduceCtorEq, reduceIte, intD, (show ¬ (n:Int) < 0 by omega), w1, wn]
 repeat ((with_reducible refine And.intro ?_ ?_); (focus (first | omega | (simp only [lenR]; omega) | (refine qq ?_; rfl) | (refine dq ?_; kernel_rfl) | (intros; simp_all; done))))
 refine callF_pure (k_Mul n hn) ?_
 simp only [zN, seval, Nat.reduceLeDiff, Nat.reduceEqDiff, reduceCtorEq, reduceIte, intD, (show ¬ 9223372036854775807 < (n:Int) by omega), @a_wrap ((n:Int)) (by omega), mk_ints n (by omega), mkS_ints, List.length_replicate, ← fill_zero, fill_len, List.length_singleton, fill_one]
 repeat ((with_reducible refine And.intro ?_ ?_); (focus (first | omega | (simp only [lenR]; omega) | (refine qq ?_; rfl) | (refine dq ?_; kernel_rfl) | (intros; simp_all; done))))
 refine loop_of (τ := Nat) (fun j => [(7, .osl 0 0 n), (8, .d (.int .i64 j))]) (fun j => [.arr 1 (fill n j)]) (fun j => j ≤ n ∧ (0 < n → 0 < j)) (fun j => n - j) (min 1 n) ⟨by omega, by omega⟩ ?_ ?_
 ·refine weak_to [] [0] rfl (by simp) ?_ rfl
  simp only [zN, seval, Nat.reduceLeDiff, Nat.reduceEqDiff, reduceCtorEq, reduceIte, intD]
 ·rintro j ⟨hj, h0⟩
  by_cases h : j < n
  ·have h0 := h0 (by omega)
   simp only [zN, seval, Nat.reduceLeDiff, Nat.reduceEqDiff, reduceCtorEq, reduceIte, intD, (show (j:Int) < n by omega), fill_len, List.length_take, List.drop_zero, Nat.sub_zero]
   repeat ((with_reducible refine And.intro ?_ ?_); (focus (first | omega | (simp only [lenR]; omega) | (refine qq ?_; rfl) | (refine dq ?_; kernel_rfl) | (intros; simp_all; done))))
   refine ⟨j + min j (n - j), ⟨by omega, fun _ => by omega⟩, by omega, ?_⟩
   rw [show min j n = j by omega, fill_step n j hj]
   refine weak_to [] [0] rfl (by simp) ?_ rfl
   have e : IntKind.i64.wrap ((j : Int) + ((min j (n - j) : Nat) : Int)) = ((j + min j (n - j) : Nat) : Int) := by rw [wrap64 (by omega) (by omega)]; omega
   simp only [zN, seval, Nat.reduceLeDiff, Nat.reduceEqDiff, reduceCtorEq, reduceIte, intD, e]
  ·have : j = n := by omega
   subst this
   simp only [zN, seval, Nat.reduceLeDiff, Nat.reduceEqDiff, reduceCtorEq, reduceIte, intD, (show ¬ (j:Int) < j by omega)]
   refine ⟨_, _, WeakR.refl _ _ _, rfl, by rw [fill_all]⟩
end YtmedpoeeoihfmaaGreatDoor
end Go.Proofs

set_option maxRecDepth 100000
namespace Go.Proofs
open Go.AM
namespace YtmedpoeeoihfmaaGreatDoor
variable {Gl : Globs}
def memM (b : List NodeT) (m : Nat → Bool) : Key → Option AV
 | .i q => if 0 ≤ q ∧ m q.toNat = true then some (.d (.sl ((shp b q.toNat).map .str))) else none
 | .s _ => none
theorem memM_get (b : List NodeT) (m : Nat → Bool) (q : Nat) : memM b m (.i q) = if m q = true then some (.d (.sl ((shp b q).map .str))) else none := by
 show (if 0 ≤ (q:Int) ∧ m (q:Int).toNat = true then some (AV.d (.sl ((shp b (q:Int).toNat).map .str))) else none) = _
 rw [Int.toNat_natCast]
 simp
theorem memM_still (b : List NodeT) (m : Nat → Bool) : ∀ k v, memM b m k = some v → ∃ d, v = .d d := by
 intro k v h
 cases k with
 | i p =>
  simp only [memM] at h
  split at h
  ·cases h; exact ⟨_, rfl⟩
  ·cases h
 | s t => cases h
theorem memM_ren (b : List NodeT) (m : Nat → Bool) (ρ : List Nat) (σ : Sto) : renB ρ σ (.map (some .i64) (memM b m)) = .map (some .i64) (memM b m) := still_ren (B := .map (some .i64) (memM b m)) (memM_still b m) ρ σ
theorem memM_back (l : List NodeT) (m : Nat → Bool) (b : Nat → Nat) : backB b (.map (some .i64) (memM l m)) = .map (some .i64) (memM l m) := still_back (B := .map (some .i64) (memM l m)) (memM_still l m) b
theorem memM_set (b : List NodeT) (m : Nat → Bool) (q : Nat) : mset (memM b m) (.i q) (.d (.sl ((shp b q).map .str))) = memM b (fun j => j == q || m j) := by
 funext k
 cases k with
 | i p =>
  unfold mset
  by_cases h : Key.i p = Key.i q
  ·cases h
   rw [if_pos rfl]
   show _ = if 0 ≤ (q:Int) ∧ (((q:Int).toNat == q) || m (q:Int).toNat) = true then _ else none
   rw [Int.toNat_natCast, if_pos ⟨by omega, by simp⟩]
  ·rw [if_neg h]
   have hpq : p ≠ q := fun e => h (by rw [e])
   show (if 0 ≤ p ∧ m p.toNat = true then _ else none) = if 0 ≤ p ∧ ((p.toNat == q) || m p.toNat) = true then _ else none
   by_cases h0 : 0 ≤ p
   ·have : (p.toNat == q) = false := by simp; omega
    rw [this, Bool.false_or]
   ·rw [if_neg (fun e => h0 e.1), if_neg (fun e => h0 e.1)]
 | s t => rfl
theorem memM_none (b : List NodeT) : memM b (fun _ => false) = fun _ => none := by
 funext k
 cases k <;> simp [memM]
def tkB (s : Al) : List D := s.toA.map fun x => .bool (decide (0 ≤ x))
def stP (a b : List NodeT) (s : Al) (m : Nat → Bool) : Sto :=
 [.box 7 (.agg [.d (.sl (a.map NodeT.toD)), .mapr 1, .d (.sl (b.map NodeT.toD)), .mapr 2, .osl 3 0 a.length, .osl 4 0 b.length, .mapr 5]), .map (some .i64) (kidM a), .map (some .i64) (kidM b), .arr 1 (s.toB.map (.int .i64)), .arr 1 (tkB s), .map (some .i64) (memM b m)]
theorem tkB_len (s : Al) : (tkB s).length = s.toA.length := by simp [tkB]
theorem tkB_get {s : Al} {q : Nat} (h : q < s.toA.length) : (tkB s).getD q default = .bool (decide (0 ≤ s.a q)) := by
 simp [tkB, Al.a, h]
theorem tkB_pair (s : Al) (p q : Nat) : tkB (pairS s p q) = (tkB s).set q (.bool true) := by
 simp only [tkB, pairS, List.map_set]
 rw [decide_eq_true (Int.natCast_nonneg p)]
theorem k_pair (a b : List NodeT) (ha : a.length ≤ 2000) (hb : b.length ≤ 2000) (s : Al) (m : Nat → Bool) (hs : Sz a b s) (p q : Nat) (hp : p < a.length) (hq : q < b.length) : ACalls Tryz.prog Gl 81 [.ptr 0 0, .d (.int .i64 p), .d (.int .i64 q)] (stP a b s m) (fun r s' => r = .tup [] ∧ s' = stP a b (pairS s p q) m) := by
 refine acalls_of Tryz.func81 rfl rfl (by simp [Tryz.ntmps81]) (evC_sound rfl _ _ _ _ ?_)
 simp only [Tryz.ntmps81, Tryz.results81, argEnv, List.length_nil]
 simp only [zN, seval, Nat.reduceLeDiff, Nat.reduceEqDiff, reduceCtorEq, reduceIte, stP, intD]
 obtain ⟨h1, h2⟩ := hs
 have hp2 : p < s.toB.length := by omega
 have hq2 : q < s.toA.length := by omega
 simp only [zN, seval, Nat.reduceLeDiff, Nat.reduceEqDiff, reduceCtorEq, reduceIte, stP, intD, (show (p:Int) < a.length by omega), (show (q:Int) < b.length by omega), hp2, hq2, tkB_len]
 repeat ((with_reducible refine And.intro ?_ ?_); (focus (first | omega | (simp only [lenR]; omega) | (refine qq ?_; rfl) | (refine dq ?_; kernel_rfl) | (intros; simp_all; done))))
 rw [← tkB_pair s p q]
 refine ⟨_, _, WeakR.refl _ _ _, rfl, ?_⟩
 simp only [stP, pairS, List.map_set]
def bxP (a b : List NodeT) : List AV := [.d (.sl (a.map NodeT.toD)), .mapr 1, .d (.sl (b.map NodeT.toD)), .mapr 2, .osl 3 0 a.length, .osl 4 0 b.length, .mapr 5]
theorem bxP_b (a b : List NodeT) : (AV.agg [.d (.sl (a.map NodeT.toD)), .mapr 1, .d (.sl (b.map NodeT.toD)), .mapr 2, .osl 3 0 a.length, .osl 4 0 b.length, .mapr 5]).subV 2 2 = .agg [.d (.sl (b.map NodeT.toD)), .mapr 2] := rfl
theorem bxP_a (a b : List NodeT) : (AV.agg [.d (.sl (a.map NodeT.toD)), .mapr 1, .d (.sl (b.map NodeT.toD)), .mapr 2, .osl 3 0 a.length, .osl 4 0 b.length, .mapr 5]).subV 0 2 = .agg [.d (.sl (a.map NodeT.toD)), .mapr 1] := rfl
def mOn (m : Nat → Bool) (q : Nat) : Nat → Bool := fun j => j == q || m j
theorem mOn_same {m : Nat → Bool} {q : Nat} (h : m q = true) : mOn m q = m := by
 funext j
 unfold mOn
 by_cases e : j = q
 ·rw [e, h]; simp
 ·simp [e]
theorem k_memo (a b : List NodeT) (hb : b.length ≤ 100) (hcb : checkF b = 0) (s : Al) (m : Nat → Bool) (q : Nat) (hq : q < b.length) : ACalls Tryz.prog Gl 84 [.ptr 0 0, .d (.int .i64 q)] (stP a b s m) (fun r s' => r = .d (.sl ((shp b q).map .str)) ∧ s' = stP a b s (mOn m q)) := by
 refine acalls_of Tryz.func84 rfl rfl (by simp [Tryz.ntmps84]) (evC_sound rfl _ _ _ _ ?_)
 simp only [Tryz.ntmps84, Tryz.results84, argEnv, List.length_nil]
 simp only [zN, seval, Nat.reduceLeDiff, Nat.reduceEqDiff, reduceCtorEq, reduceIte, stP, intD]
 by_cases hm : m q = true
 ·simp only [zN, seval, Nat.reduceLeDiff, Nat.reduceEqDiff, reduceCtorEq, reduceIte, stP, intD, memM_get, if_pos hm]
  repeat ((with_reducible refine And.intro ?_ ?_); (focus (first | omega | (simp only [lenR]; omega) | (refine qq ?_; rfl) | (refine dq ?_; kernel_rfl) | (intros; simp_all; done))))
  exact ⟨_, _, WeakR.refl _ _ _, rfl, by rw [mOn_same hm]⟩
 ·simp only [zN, seval, Nat.reduceLeDiff, Nat.reduceEqDiff, reduceCtorEq, reduceIte, stP, intD, memM_get, if_neg hm, bxP_b]
  repeat ((with_reducible refine And.intro ?_ ?_); (focus (first | omega | (simp only [lenR]; omega) | (refine qq ?_; rfl) | (refine dq ?_; kernel_rfl) | (intros; simp_all; done))))
  have hkk := k_shape (Gl := Gl) b hb hcb q hq
  have er : renS [2] (stP a b s m) = [.map (some .i64) (kidM b)] := by
   show [renB _ _ (.map (some .i64) (kidM b))] = _
   rw [kidM_ren]
  rw [← er] at hkk
  have hgo := ACalls.under (σ := stP a b s m) (args := [.agg [.d (.sl (b.map NodeT.toD)), .mapr 2], .d (.int .i64 q)]) [2] (by decide) (by simp [stP]) hkk
  refine callF_go (hgo.mono fun r s1 hrs => ?_)
  obtain ⟨r0, s0, ⟨rfl, rfl⟩, rfl, rfl⟩ := hrs
  have eb : backS [2] (stP a b s m) (renS [2] (stP a b s m)) = stP a b s m := by
   rw [er]
   show [_, _, backB _ (.map (some .i64) (kidM b)), _, _, _] = _
   rw [kidM_back]; rfl
  rw [eb]
  simp only [zN, seval, Nat.reduceLeDiff, Nat.reduceEqDiff, reduceCtorEq, reduceIte, stP, intD, memM_set, back_d]
  repeat ((with_reducible refine And.intro ?_ ?_); (focus (first | omega | (simp only [lenR]; omega) | (refine qq ?_; rfl) | (refine dq ?_; kernel_rfl) | (intros; simp_all; done))))
  exact ⟨_, _, WeakR.refl _ _ _, rfl, rfl⟩

def stC (a b : List NodeT) (s : Al) (m : Nat → Bool) (x : D) : Sto := stP a b s m ++ [.box 1 (.ptr 0 0), .box 1 (.d x)]
theorem k_byName (a b : List NodeT) (s : Al) (m : Nat → Bool) (p q : Nat) (hp : p < a.length) (hq : q < b.length) : ACalls Tryz.prog Gl 80 [.d (.int .i64 q), .ptr 6 0, .ptr 7 0] (stC a b s m (.int .i64 p)) (fun r s' => r = .d (.bool (decide (nm b q = nm a p))) ∧ s' = stC a b s m (.int .i64 p)) := by
 obtain ⟨x, hx⟩ : ∃ x, x = a.getD p default := ⟨_, rfl⟩
 obtain ⟨y, hy⟩ : ∃ y, y = b.getD q default := ⟨_, rfl⟩
 have np : nm a p = x.name := by rw [hx]; rfl
 have nq : nm b q = y.name := by rw [hy]; rfl
 have gp : (a.map NodeT.toD).getD p default = x.toD := by rw [a_getD _ _ _ hp, ← hx]
 have gq : (b.map NodeT.toD).getD q default = y.toD := by rw [a_getD _ _ _ hq, ← hy]
 refine acalls_of Tryz.func80 rfl rfl (by simp [Tryz.ntmps80]) (evC_sound rfl _ _ _ _ ?_)
 simp only [Tryz.ntmps80, Tryz.results80, argEnv, List.length_nil]
 simp only [zN, seval, Nat.reduceLeDiff, Nat.reduceEqDiff, reduceCtorEq, reduceIte, stP, intD, stC, (show (p:Int) < a.length by omega), (show (q:Int) < b.length by omega), gp, gq, hp, hq]
 repeat ((with_reducible refine And.intro ?_ ?_); (focus (first | omega | (simp only [lenR]; omega) | (refine qq ?_; rfl) | (refine dq ?_; kernel_rfl) | (intros; simp_all; done))))
 refine ⟨_, _, WeakR.refl _ _ _, ?_, rfl⟩
 rw [np, nq]
 congr 2
 rw [Bool.eq_iff_iff, beq_iff_eq, decide_eq_true_iff]
theorem stP_ren2 (a b : List NodeT) (s : Al) (m : Nat → Bool) (B1 B2 : Blk) : renS [0, 1, 2, 3, 4, 5] (stP a b s m ++ [B1, B2]) = stP a b s m := by
 show [renB _ _ _, renB _ _ (.map (some .i64) (kidM a)), renB _ _ (.map (some .i64) (kidM b)), renB _ _ _, renB _ _ _, renB _ _ (.map (some .i64) (memM b m))] = _
 rw [kidM_ren, kidM_ren, memM_ren]; rfl
theorem stP_back2 (a b : List NodeT) (s s' : Al) (m m' : Nat → Bool) (B1 B2 : Blk) : backS [0, 1, 2, 3, 4, 5] (stP a b s m ++ [B1, B2]) (stP a b s' m') = stP a b s' m' ++ [B1, B2] := by
 show [backB _ _, backB _ (.map (some .i64) (kidM a)), backB _ (.map (some .i64) (kidM b)), backB _ _, backB _ _, backB _ (.map (some .i64) (memM b m')), _, _] = _
 rw [kidM_back, kidM_back, memM_back]; rfl
theorem onP2 {f : FuncId} {args : List AV} {a b : List NodeT} {s : Al} {m : Nat → Bool} {B1 B2 : Blk} {R : AV → Sto → Prop} (h : ACalls Tryz.prog Gl f args (stP a b s m) R) (ha : args.map (renV [0, 1, 2, 3, 4, 5] (stP a b s m ++ [B1, B2])) = args) :
  ACalls Tryz.prog Gl f args (stP a b s m ++ [B1, B2]) (fun r s1 => ∃ r0 s0, R r0 s0 ∧ r = back (backId [0, 1, 2, 3, 4, 5] (stP a b s m ++ [B1, B2]).length) r0 ∧ s1 = backS [0, 1, 2, 3, 4, 5] (stP a b s m ++ [B1, B2]) s0) := by
 refine ACalls.under [0, 1, 2, 3, 4, 5] (by decide) (by simp [stP]) ?_
 rw [ha, stP_ren2]; exact h
theorem k_byShape (a b : List NodeT) (hb : b.length ≤ 100) (hcb : checkF b = 0) (s : Al) (m : Nat → Bool) (hs : Sz a b s) (t : List (List UInt8)) (ht : t.length ≤ 1000) (q : Nat) (hq : q < b.length) :
  ACalls Tryz.prog Gl 83 [.d (.int .i64 q), .ptr 6 0, .ptr 7 0] (stC a b s m (.sl (t.map .str))) (fun r s' => r = .d (.bool (decide (s.a q < 0) && (shp b q == t))) ∧ ∃ m', s' = stC a b s m' (.sl (t.map .str))) := by
 have hq2 : q < s.toA.length := by rw [hs.2]; exact hq
 have hsl : (shp b q).length ≤ 100 := Nat.le_trans (shTo_len b q b.length) hb
 by_cases hk : s.a q < 0
 ·obtain ⟨e, he⟩ : ∃ e, e = decide (shp b q = t) := ⟨_, rfl⟩
  have hfin : (decide (s.a q < 0) && (shp b q == t)) = e := by
   rw [he, decide_eq_true hk, Bool.true_and, Bool.eq_iff_iff, beq_iff_eq, decide_eq_true_iff]
  have htk : (tkB s).getD q default = .bool false := by rw [tkB_get hq2, decide_eq_false (by omega)]
  rw [hfin]
  refine acalls_of Tryz.func83 rfl rfl (by simp [Tryz.ntmps83]) ?_
  simp only [Tryz.ntmps83, Tryz.results83, argEnv, List.length_nil]
  refine AWp.seq (evC_sound rfl _ _ _ _ ?_)
  simp only [zN, seval, Nat.reduceLeDiff, Nat.reduceEqDiff, reduceCtorEq, reduceIte, stP, intD, stC]
  refine AWp.seq (awp_free rfl (fun L => [(4, .d (.bool (L 15 && e))), (19, onV (L 14) (.d (.bool e))), (18, onV (L 13) (.iff true (.d (.bool e)))), (17, onV (L 12) (.iff true (.d (.sl (t.map .str))))), (16, onV (L 11) (.iff true (.d (.sl ((shp b q).map .str))))), (15, onV (L 10) (.iff true (.d (.int .i64 q)))), (14, onV (L 9) (.iff true (.ptr 0 0))), (13, onV (L 8) (.d (.bool true))), (12, onV (L 7) (.d (.bool true))), (11, onV (L 6) (.d (.bool false))), (10, onV (L 5) (.aptr 4 q 0)), (9, onV (L 4) (.d (.int .i64 q))), (8, onV (L 3) (.osl 4 0 b.length)), (7, onV (L 2) (.ptr 0 5)), (6, onV (L 1) (.ptr 0 0)), (5, onV (L 0) (.ptr 0 0)), (0, .d (.int .i64 q)), (1, .ptr 6 0), (2, .ptr 7 0)])
   (fun L => stP a b s (if L 11 = true then mOn m q else m) ++ [.box 1 (.ptr 0 0), .box 1 (.d (.sl (t.map .str)))]) (by kernel_rfl) ?_ ?_ ?_)
  ·refine weak_sub ?_
   rfl
  ·simp only [stepsG]
   refine ⟨?_, ?_, ?_, ?_, ?_, ?_, ?_, ?_, ?_, ?_, ?_, ?_, ?_, ?_, ?_, ?_, trivial⟩
   ·intro L hc hL hp
    refine .inl ?_
    (simp only [predsL, Region.binds, frB] at hp; (try simp only [Nat.zero_add, Nat.reduceAdd] at hL); simp only [zN, seval, Nat.reduceLeDiff, Nat.reduceEqDiff, reduceCtorEq, reduceIte, stP, intD, hL, hp, onV_t, onV_f, updB, htk, hq, hq2, tkB_len, (show (q:Int) < b.length by omega)])
    repeat ((with_reducible refine And.intro ?_ ?_); (focus (first | omega | (simp only [lenR]; omega) | (refine qq ?_; rfl) | (refine dq ?_; kernel_rfl) | (intros; simp_all; done))))
    refine weak_sub ?_
    simp only [zN, seval, Nat.reduceLeDiff, Nat.reduceEqDiff, reduceCtorEq, reduceIte, stP, intD, onV_t, onV_f]
   ·intro L hc hL hp
    refine .inl ?_
    (simp only [predsL, Region.binds, frB] at hp; (try simp only [Nat.zero_add, Nat.reduceAdd] at hL); simp only [zN, seval, Nat.reduceLeDiff, Nat.reduceEqDiff, reduceCtorEq, reduceIte, stP, intD, hL, hp, onV_t, onV_f, updB, htk, hq, hq2, tkB_len, (show (q:Int) < b.length by omega)])
    repeat ((with_reducible refine And.intro ?_ ?_); (focus (first | omega | (simp only [lenR]; omega) | (refine qq ?_; rfl) | (refine dq ?_; kernel_rfl) | (intros; simp_all; done))))
    refine weak_sub ?_
    simp only [zN, seval, Nat.reduceLeDiff, Nat.reduceEqDiff, reduceCtorEq, reduceIte, stP, intD, onV_t, onV_f]
   ·intro L hc hL hp
    refine .inl ?_
    (simp only [predsL, Region.binds, frB] at hp; (try simp only [Nat.zero_add, Nat.reduceAdd] at hL); simp only [zN, seval, Nat.reduceLeDiff, Nat.reduceEqDiff, reduceCtorEq, reduceIte, stP, intD, hL, hp, onV_t, onV_f, updB, htk, hq, hq2, tkB_len, (show (q:Int) < b.length by omega)])
    repeat ((with_reducible refine And.intro ?_ ?_); (focus (first | omega | (simp only [lenR]; omega) | (refine qq ?_; rfl) | (refine dq ?_; kernel_rfl) | (intros; simp_all; done))))
    refine weak_sub ?_
    simp only [zN, seval, Nat.reduceLeDiff, Nat.reduceEqDiff, reduceCtorEq, reduceIte, stP, intD, onV_t, onV_f]
   ·intro L hc hL hp
    refine .inl ?_
    (simp only [predsL, Region.binds, frB] at hp; (try simp only [Nat.zero_add, Nat.reduceAdd] at hL); simp only [zN, seval, Nat.reduceLeDiff, Nat.reduceEqDiff, reduceCtorEq, reduceIte, stP, intD, hL, hp, onV_t, onV_f, updB, htk, hq, hq2, tkB_len, (show (q:Int) < b.length by omega)])
    repeat ((with_reducible refine And.intro ?_ ?_); (focus (first | omega | (simp only [lenR]; omega) | (refine qq ?_; rfl) | (refine dq ?_; kernel_rfl) | (intros; simp_all; done))))
    refine weak_sub ?_
    simp only [zN, seval, Nat.reduceLeDiff, Nat.reduceEqDiff, reduceCtorEq, reduceIte, stP, intD, onV_t, onV_f]
   ·intro L hc hL hp
    refine .inl ?_
    (simp only [predsL, Region.binds, frB] at hp; (try simp only [Nat.zero_add, Nat.reduceAdd] at hL); simp only [zN, seval, Nat.reduceLeDiff, Nat.reduceEqDiff, reduceCtorEq, reduceIte, stP, intD, hL, hp, onV_t, onV_f, updB, htk, hq, hq2, tkB_len, (show (q:Int) < b.length by omega)])
    repeat ((with_reducible refine And.intro ?_ ?_); (focus (first | omega | (simp only [lenR]; omega) | (refine qq ?_; rfl) | (refine dq ?_; kernel_rfl) | (intros; simp_all; done))))
    refine weak_sub ?_
    simp only [zN, seval, Nat.reduceLeDiff, Nat.reduceEqDiff, reduceCtorEq, reduceIte, stP, intD, onV_t, onV_f]
   ·intro L hc hL hp
    refine .inl ?_
    (simp only [predsL, Region.binds, frB] at hp; (try simp only [Nat.zero_add, Nat.reduceAdd] at hL); simp only [zN, seval, Nat.reduceLeDiff, Nat.reduceEqDiff, reduceCtorEq, reduceIte, stP, intD, hL, hp, onV_t, onV_f, updB, htk, hq, hq2, tkB_len, (show (q:Int) < b.length by omega)])
    repeat ((with_reducible refine And.intro ?_ ?_); (focus (first | omega | (simp only [lenR]; omega) | (refine qq ?_; rfl) | (refine dq ?_; kernel_rfl) | (intros; simp_all; done))))
    refine weak_sub ?_
    simp only [zN, seval, Nat.reduceLeDiff, Nat.reduceEqDiff, reduceCtorEq, reduceIte, stP, intD, onV_t, onV_f]
   ·intro L hc hL hp
    refine .inl ?_
    (simp only [predsL, Region.binds, frB] at hp; (try simp only [Nat.zero_add, Nat.reduceAdd] at hL); simp only [zN, seval, Nat.reduceLeDiff, Nat.reduceEqDiff, reduceCtorEq, reduceIte, stP, intD, hL, hp, onV_t, onV_f, updB, htk, hq, hq2, tkB_len, (show (q:Int) < b.length by omega)])
    repeat ((with_reducible refine And.intro ?_ ?_); (focus (first | omega | (simp only [lenR]; omega) | (refine qq ?_; rfl) | (refine dq ?_; kernel_rfl) | (intros; simp_all; done))))
    refine weak_sub ?_
    simp only [zN, seval, Nat.reduceLeDiff, Nat.reduceEqDiff, reduceCtorEq, reduceIte, stP, intD, onV_t, onV_f]
   ·intro L hc hL hp
    refine .inl ?_
    (simp only [predsL, Region.binds, frB] at hp; (try simp only [Nat.zero_add, Nat.reduceAdd] at hL); simp only [zN, seval, Nat.reduceLeDiff, Nat.reduceEqDiff, reduceCtorEq, reduceIte, stP, intD, hL, hp, onV_t, onV_f, updB, htk, hq, hq2, tkB_len, (show (q:Int) < b.length by omega)])
    repeat ((with_reducible refine And.intro ?_ ?_); (focus (first | omega | (simp only [lenR]; omega) | (refine qq ?_; rfl) | (refine dq ?_; kernel_rfl) | (intros; simp_all; done))))
    refine weak_sub ?_
    simp only [zN, seval, Nat.reduceLeDiff, Nat.reduceEqDiff, reduceCtorEq, reduceIte, stP, intD, onV_t, onV_f]
   ·intro L hc hL hp
    refine .inl ?_
    (simp only [predsL, Region.binds, frB] at hp; (try simp only [Nat.zero_add, Nat.reduceAdd] at hL); simp only [zN, seval, Nat.reduceLeDiff, Nat.reduceEqDiff, reduceCtorEq, reduceIte, stP, intD, hL, hp, onV_t, onV_f, updB, htk, hq, hq2, tkB_len, (show (q:Int) < b.length by omega)])
    repeat ((with_reducible refine And.intro ?_ ?_); (focus (first | omega | (simp only [lenR]; omega) | (refine qq ?_; rfl) | (refine dq ?_; kernel_rfl) | (intros; simp_all; done))))
    refine weak_sub ?_
    simp only [zN, seval, Nat.reduceLeDiff, Nat.reduceEqDiff, reduceCtorEq, reduceIte, stP, intD, onV_t, onV_f]
   ·intro L hc hL hp
    refine .inl ?_
    (simp only [predsL, Region.binds, frB] at hp; (try simp only [Nat.zero_add, Nat.reduceAdd] at hL); simp only [zN, seval, Nat.reduceLeDiff, Nat.reduceEqDiff, reduceCtorEq, reduceIte, stP, intD, hL, hp, onV_t, onV_f, updB, htk, hq, hq2, tkB_len, (show (q:Int) < b.length by omega)])
    repeat ((with_reducible refine And.intro ?_ ?_); (focus (first | omega | (simp only [lenR]; omega) | (refine qq ?_; rfl) | (refine dq ?_; kernel_rfl) | (intros; simp_all; done))))
    refine weak_sub ?_
    simp only [zN, seval, Nat.reduceLeDiff, Nat.reduceEqDiff, reduceCtorEq, reduceIte, stP, intD, onV_t, onV_f]
   ·intro L hc hL hp
    refine .inl ?_
    (simp only [predsL, Region.binds, frB] at hp; (try simp only [Nat.zero_add, Nat.reduceAdd] at hL); simp only [zN, seval, Nat.reduceLeDiff, Nat.reduceEqDiff, reduceCtorEq, reduceIte, stP, intD, hL, hp, onV_t, onV_f, updB, htk, hq, hq2, tkB_len, (show (q:Int) < b.length by omega)])
    repeat ((with_reducible refine And.intro ?_ ?_); (focus (first | omega | (simp only [lenR]; omega) | (refine qq ?_; rfl) | (refine dq ?_; kernel_rfl) | (intros; simp_all; done))))
    refine weak_sub ?_
    simp only [zN, seval, Nat.reduceLeDiff, Nat.reduceEqDiff, reduceCtorEq, reduceIte, stP, intD, onV_t, onV_f]
   ·intro L hc hL hp
    refine .inr ?_
    (simp only [predsL, Region.binds, frB] at hp; (try simp only [Nat.zero_add, Nat.reduceAdd] at hL); simp only [zN, seval, Nat.reduceLeDiff, Nat.reduceEqDiff, reduceCtorEq, reduceIte, stP, intD, hL, hp, onV_t, onV_f, updB, htk, hq, hq2, tkB_len, (show (q:Int) < b.length by omega)])
    refine ⟨8, true, rfl, by decide, ?_, ?_, ?_, ?_⟩
    ·simp only [zN, seval, Nat.reduceLeDiff, Nat.reduceEqDiff, reduceCtorEq, reduceIte, stP, intD]
     skip
    ·simp only [zN, seval, Nat.reduceLeDiff, Nat.reduceEqDiff, reduceCtorEq, reduceIte, stP, intD]
     skip
    ·show gdL Gl _ true [_, Operand.tmp 14, Operand.tmp 15]
     simp only [zN, seval, Nat.reduceLeDiff, Nat.reduceEqDiff, reduceCtorEq, reduceIte, stP, intD]
    ·unfold evCallOp
     simp only [zN, seval, Nat.reduceLeDiff, Nat.reduceEqDiff, reduceCtorEq, reduceIte, stP, intD]
     refine (onP2 (k_memo a b hb hcb s m q hq) (args := [.ptr 0 0, .d (.int .i64 q)]) rfl).mono fun r s1 hrs => ?_
     obtain ⟨r0, s0, ⟨rfl, rfl⟩, rfl, rfl⟩ := hrs
     rw [stP_back2, back_d]
     simp only [zN, seval, Nat.reduceLeDiff, Nat.reduceEqDiff, reduceCtorEq, reduceIte, stP, intD, stP]
     refine weak_sub ?_
     simp only [zN, seval, Nat.reduceLeDiff, Nat.reduceEqDiff, reduceCtorEq, reduceIte, stP, intD, onV_t, onV_f]
   ·intro L hc hL hp
    refine .inl ?_
    (simp only [predsL, Region.binds, frB] at hp; (try simp only [Nat.zero_add, Nat.reduceAdd] at hL); simp only [zN, seval, Nat.reduceLeDiff, Nat.reduceEqDiff, reduceCtorEq, reduceIte, stP, intD, hL, hp, onV_t, onV_f, updB, htk, hq, hq2, tkB_len, (show (q:Int) < b.length by omega)])
    repeat ((with_reducible refine And.intro ?_ ?_); (focus (first | omega | (simp only [lenR]; omega) | (refine qq ?_; rfl) | (refine dq ?_; kernel_rfl) | (intros; simp_all; done))))
    refine weak_sub ?_
    simp only [zN, seval, Nat.reduceLeDiff, Nat.reduceEqDiff, reduceCtorEq, reduceIte, stP, intD, onV_t, onV_f]
   ·intro L hc hL hp
    refine .inl ?_
    (simp only [predsL, Region.binds, frB] at hp; (try simp only [Nat.zero_add, Nat.reduceAdd] at hL); simp only [zN, seval, Nat.reduceLeDiff, Nat.reduceEqDiff, reduceCtorEq, reduceIte, stP, intD, hL, hp, onV_t, onV_f, updB, htk, hq, hq2, tkB_len, (show (q:Int) < b.length by omega)])
    repeat ((with_reducible refine And.intro ?_ ?_); (focus (first | omega | (simp only [lenR]; omega) | (refine qq ?_; rfl) | (refine dq ?_; kernel_rfl) | (intros; simp_all; done))))
    refine callG_pure (fun _ => k_EqualTexts (shp b q) t (by omega) (by omega)) ?_
    simp only [zN, seval, Nat.reduceLeDiff, Nat.reduceEqDiff, reduceCtorEq, reduceIte, stP, intD, ← he]
    refine weak_sub ?_
    simp only [zN, seval, Nat.reduceLeDiff, Nat.reduceEqDiff, reduceCtorEq, reduceIte, stP, intD, onV_t, onV_f]
   ·intro L hc hL hp
    refine .inl ?_
    (simp only [predsL, Region.binds, frB] at hp; (try simp only [Nat.zero_add, Nat.reduceAdd] at hL); simp only [zN, seval, Nat.reduceLeDiff, Nat.reduceEqDiff, reduceCtorEq, reduceIte, stP, intD, hL, hp, onV_t, onV_f, updB, htk, hq, hq2, tkB_len, (show (q:Int) < b.length by omega)])
    repeat ((with_reducible refine And.intro ?_ ?_); (focus (first | omega | (simp only [lenR]; omega) | (refine qq ?_; rfl) | (refine dq ?_; kernel_rfl) | (intros; simp_all; done))))
    refine weak_sub ?_
    simp only [zN, seval, Nat.reduceLeDiff, Nat.reduceEqDiff, reduceCtorEq, reduceIte, stP, intD, onV_t, onV_f]
   ·intro L hc hL hp
    refine .inl ?_
    (simp only [predsL, Region.binds, frB] at hp; (try simp only [Nat.zero_add, Nat.reduceAdd] at hL); simp only [zN, seval, Nat.reduceLeDiff, Nat.reduceEqDiff, reduceCtorEq, reduceIte, stP, intD, hL, hp, onV_t, onV_f, updB, htk, hq, hq2, tkB_len, (show (q:Int) < b.length by omega)])
    repeat ((with_reducible refine And.intro ?_ ?_); (focus (first | omega | (simp only [lenR]; omega) | (refine qq ?_; rfl) | (refine dq ?_; kernel_rfl) | (intros; simp_all; done))))
    refine weak_sub ?_
    simp only [zN, seval, Nat.reduceLeDiff, Nat.reduceEqDiff, reduceCtorEq, reduceIte, stP, intD, onV_t, onV_f]
  ·simp only [zN, seval, Nat.reduceLeDiff, Nat.reduceEqDiff, reduceCtorEq, reduceIte, stP, intD, onV_t]
   refine evC_sound rfl _ _ _ _ ?_
   simp only [zN, seval, Nat.reduceLeDiff, Nat.reduceEqDiff, reduceCtorEq, reduceIte, stP, intD]
   repeat ((with_reducible refine And.intro ?_ ?_); (focus (first | omega | (simp only [lenR]; omega) | (refine qq ?_; rfl) | (refine dq ?_; kernel_rfl) | (intros; simp_all; done))))
   exact ⟨_, _, WeakR.refl _ _ _, rfl, _, rfl⟩
 ·refine acalls_of Tryz.func83 rfl rfl (by simp [Tryz.ntmps83]) (evC_sound rfl _ _ _ _ ?_)
  simp only [Tryz.ntmps83, Tryz.results83, argEnv, List.length_nil]
  simp only [zN, seval, Nat.reduceLeDiff, Nat.reduceEqDiff, reduceCtorEq, reduceIte, stP, intD, stC, tkB_get hq2, hq, tkB_len, hq2, (show (q:Int) < b.length by omega), (show 0 ≤ s.a q by omega)]
  repeat ((with_reducible refine And.intro ?_ ?_); (focus (first | omega | (simp only [lenR]; omega) | (refine qq ?_; rfl) | (refine dq ?_; kernel_rfl) | (intros; simp_all; done))))
  refine callG_of (v := .undef) (fun h => by cases h) ?_
  simp only [zN, seval, Nat.reduceLeDiff, Nat.reduceEqDiff, reduceCtorEq, reduceIte, stP, intD]
  repeat ((with_reducible refine And.intro ?_ ?_); (focus (first | omega | (simp only [lenR]; omega) | (refine qq ?_; rfl) | (refine dq ?_; kernel_rfl) | (intros; simp_all; done))))
  refine callG_of (v := .undef) (fun h => by cases h) ?_
  simp only [zN, seval, Nat.reduceLeDiff, Nat.reduceEqDiff, reduceCtorEq, reduceIte, stP, intD]
  repeat ((with_reducible refine And.intro ?_ ?_); (focus (first | omega | (simp only [lenR]; omega) | (refine qq ?_; rfl) | (refine dq ?_; kernel_rfl) | (intros; simp_all; done))))
  refine ⟨_, _, WeakR.refl _ _ _, ?_, _, rfl⟩
  rw [decide_eq_false hk, Bool.false_and]

theorem k_IndexFuncInt {τ : Type} (fv : FuncId) (caps : List AV) (St : τ → Sto) (P : Nat → Bool) (y : List Nat) (hy : y.length < 1000000) (hp : ∀ u, ∀ q ∈ y, ACalls Tryz.prog Gl fv (.d (.int .i64 q) :: caps) (St u) (fun r s => r = .d (.bool (P q)) ∧ ∃ u', s = St u')) (u : τ) :
  ACalls Tryz.prog Gl 79 [.d (.sl (y.map intD)), .fn fv caps] (St u)
   (fun r s => ∃ (j : Int) (u' : τ), r = .d (.int .i64 j) ∧ s = St u' ∧ ((j = -1 ∧ y.find? P = none) ∨ ∃ k : Nat, j = k ∧ k < y.length ∧ y.find? P = some (y.getD k default))) := by
 refine acalls_of Tryz.func79 rfl rfl (by simp [Tryz.ntmps79]) (evC_sound rfl _ _ _ _ ?_)
 simp only [Tryz.ntmps79, Tryz.results79, argEnv, List.length_nil]
 simp only [zN, seval, Nat.reduceLeDiff, Nat.reduceEqDiff, reduceCtorEq, reduceIte, intD]
 refine loop_of (τ := Nat × τ) (fun v => [(0, .d (.sl (y.map intD))), (1, .fn fv caps), (7, .d (.int .i64 y.length)), (8, .d (.int .i64 v.1))]) (fun v => St v.2) (fun v => v.1 ≤ y.length ∧ (y.take v.1).find? P = none) (fun v => y.length - v.1) (0, u) ⟨Nat.zero_le _, rfl⟩ ?_ ?_
 ·refine weak_sub ?_
  simp only [zN, seval, Nat.reduceLeDiff, Nat.reduceEqDiff, reduceCtorEq, reduceIte, intD, Int.cast_ofNat_Int]
 ·rintro ⟨k, u⟩ ⟨hk, hn⟩
  simp only at hk hn
  by_cases h : k < y.length
  ·obtain ⟨q, hq⟩ : ∃ q, q = y.getD k default := ⟨_, rfl⟩
   have hqm : q ∈ y := by rw [hq]; exact mem_getD h
   have gq : (y.map intD).getD k default = .int .i64 q := by rw [a_getD _ _ _ h, ← hq]; rfl
   have hfs := find_step P y h
   rw [hn, Option.none_or, ← hq] at hfs
   simp only [zN, seval, Nat.reduceLeDiff, Nat.reduceEqDiff, reduceCtorEq, reduceIte, intD, (show (k:Int) < y.length by omega), h, gq]
   repeat ((with_reducible refine And.intro ?_ ?_); (focus (first | omega | (simp only [lenR]; omega) | (refine qq ?_; rfl) | (refine dq ?_; kernel_rfl) | (intros; simp_all; done))))
   refine callF_go ((hp u q hqm).mono fun r s hr => ?_)
   obtain ⟨rfl, u', rfl⟩ := hr
   simp only [zN, seval, Nat.reduceLeDiff, Nat.reduceEqDiff, reduceCtorEq, reduceIte, intD]
   refine ifC.mk (fun hc => ?_) (fun hc => ?_)
   ·rw [if_pos hc] at hfs
    refine ⟨_, _, WeakR.refl _ _ _, _, u', rfl, rfl, .inr ⟨k, rfl, h, ?_⟩⟩
    rw [← hq]
    exact find_of_take P y (k + 1) hfs
   ·rw [if_neg (by rw [hc]; simp)] at hfs
    refine ⟨(k + 1, u'), ⟨h, hfs⟩, by simp only; omega, ?_⟩
    refine weak_sub ?_
    simp only [zN, seval, Nat.reduceLeDiff, Nat.reduceEqDiff, reduceCtorEq, reduceIte, intD, @a_wrap ((k:Int) + 1) (by omega)]
  ·have : k = y.length := by omega
   subst this
   rw [List.take_length] at hn
   simp only [zN, seval, Nat.reduceLeDiff, Nat.reduceEqDiff, reduceCtorEq, reduceIte, intD, (show ¬ (y.length:Int) < y.length by omega)]
   exact ⟨_, _, WeakR.refl _ _ _, _, u, rfl, rfl, .inl ⟨rfl, hn⟩⟩

def bX : Blk := .box 1 (.ptr 0 0)
theorem stP_ren1 (a b : List NodeT) (s : Al) (m : Nat → Bool) : renS [0, 1, 2, 3, 4, 5] (stP a b s m ++ [bX]) = stP a b s m := by
 show [renB _ _ _, renB _ _ (.map (some .i64) (kidM a)), renB _ _ (.map (some .i64) (kidM b)), renB _ _ _, renB _ _ _, renB _ _ (.map (some .i64) (memM b m))] = _
 rw [kidM_ren, kidM_ren, memM_ren]; rfl
theorem stP_back1 (a b : List NodeT) (s s' : Al) (m m' : Nat → Bool) : backS [0, 1, 2, 3, 4, 5] (stP a b s m ++ [bX]) (stP a b s' m') = stP a b s' m' ++ [bX] := by
 show [backB _ _, backB _ (.map (some .i64) (kidM a)), backB _ (.map (some .i64) (kidM b)), backB _ _, backB _ _, backB _ (.map (some .i64) (memM b m')), _] = _
 rw [kidM_back, kidM_back, memM_back]; rfl
theorem onP1 {f : FuncId} {args : List AV} {a b : List NodeT} {s : Al} {m : Nat → Bool} {R : AV → Sto → Prop} (h : ACalls Tryz.prog Gl f args (stP a b s m) R) (ha : args.map (renV [0, 1, 2, 3, 4, 5] (stP a b s m ++ [bX])) = args) :
  ACalls Tryz.prog Gl f args (stP a b s m ++ [bX]) (fun r s1 => ∃ r0 s0, R r0 s0 ∧ r = back (backId [0, 1, 2, 3, 4, 5] (stP a b s m ++ [bX]).length) r0 ∧ s1 = backS [0, 1, 2, 3, 4, 5] (stP a b s m ++ [bX]) s0) := by
 refine ACalls.under [0, 1, 2, 3, 4, 5] (by decide) (by simp [stP]) ?_
 rw [ha, stP_ren1]; exact h
theorem stP_ren3 (a b : List NodeT) (s : Al) (m : Nat → Bool) (B : Blk) : renS [0, 1, 2, 3, 4, 5, 6] (freezeL (stP a b s m ++ [bX, B]) []) = stP a b s m ++ [bX] := by
 show [renB _ _ _, renB _ _ (.map (some .i64) (kidM a)), renB _ _ (.map (some .i64) (kidM b)), renB _ _ _, renB _ _ _, renB _ _ (.map (some .i64) (memM b m)), _] = _
 rw [kidM_ren, kidM_ren, memM_ren]; rfl
theorem shapeA_ren (a b : List NodeT) (s : Al) (m : Nat → Bool) : renS [1] (stP a b s m ++ [bX]) = [.map (some .i64) (kidM a)] := by
 show [renB _ _ (.map (some .i64) (kidM a))] = _
 rw [kidM_ren]
theorem shapeA_back (a b : List NodeT) (s : Al) (m : Nat → Bool) : backS [1] (stP a b s m ++ [bX]) [.map (some .i64) (kidM a)] = stP a b s m ++ [bX] := by
 show [_, backB _ (.map (some .i64) (kidM a)), _, _, _, _, _] = _
 rw [kidM_back]; rfl
theorem weak_dat {n m : Nat} {σ : Sto} {env : Env} {V : AV} {x : D} (t : Nat) (h : getE env t = V) (hd : V.isD σ = true) (hx : V.toD σ = x) (hr : V.refs = []) : Weak n m env σ ((t, .d x) :: env) σ := by
 have := weak_toD (n := n) (m := m) (σ := σ) (env := env) t (by rw [h]; exact hd)
 rw [h, hr, hx] at this
 exact this
def kidV (l : List NodeT) (p : Int) : AV := if kids l p = [] then .nils else .d (.sl ((kids l p).map intD))
theorem kidV_get (l : List NodeT) (p : Int) : (kidM l (.i p)).getD .nils = kidV l p := by
 rw [kidM_get, kidV]; split <;> rfl
theorem kidV_vg (l : List NodeT) (p : Int) : (kidV l p).vg = true := by rw [kidV]; split <;> rfl
theorem kidV_un (l : List NodeT) (p : Int) : (kidV l p).un = kidV l p := by rw [kidV]; split <;> rfl
theorem kidV_len (l : List NodeT) (p : Int) : (kidV l p).len = (kids l p).length := by
 rw [kidV]
 split
 ·rename_i h; rw [h]; rfl
 ·show ((kids l p).map intD).length = _
  rw [List.length_map]
theorem kidV_hasLen (P : Program) (t : TypeId) (l : List NodeT) (p : Int) : (kidV l p).hasLen P t = (telem P t).isSome := by rw [kidV]; split <;> rfl
theorem kidV_isD (σ : Sto) (l : List NodeT) (p : Int) : (kidV l p).isD σ = true := by rw [kidV]; split <;> rfl
theorem kidV_toD (σ : Sto) (l : List NodeT) (p : Int) : (kidV l p).toD σ = .sl ((kids l p).map intD) := by
 rw [kidV]
 split
 ·rename_i h; rw [h]; rfl
 ·rfl
theorem kidV_refs (l : List NodeT) (p : Int) : (kidV l p).refs = [] := by rw [kidV]; split <;> rfl
def Ge (s : Al) : Prop := ∀ p, -1 ≤ s.b p
theorem Ge.op {a b : List NodeT} {s : Al} (h : Ge s) (hs : Sz a b s) {p : Nat} (hp : p < a.length) (o : Option Nat) : Ge (opS s p o) := by
 cases o with
 | none => exact h
 | some q =>
  intro i
  show -1 ≤ (pairS s p q).b i
  rw [pair_b (by rw [hs.1]; exact hp)]
  split
  ·omega
  ·exact h i
theorem ge_ph1 {a b : List NodeT} {y : List Nat} : ∀ (x : List Nat), (∀ p ∈ x, p < a.length) → ∀ {s : Al}, Sz a b s → Ge s → Ge (ph1 a b y x s)
 | [], _, _, _, h => h
 | p :: x, hx, _, hs, h => ge_ph1 x (fun q hq => hx q (List.mem_cons_of_mem _ hq)) (hs.op p _) (h.op hs (hx p (List.mem_cons_self ..)) _)
theorem ge_ph2 {a b : List NodeT} {y : List Nat} : ∀ (x : List Nat), (∀ p ∈ x, p < a.length) → ∀ {s : Al}, Sz a b s → Ge s → Ge (ph2 a b y x s)
 | [], _, _, _, h => h
 | p :: x, hx, _, hs, h => ge_ph2 x (fun q hq => hx q (List.mem_cons_of_mem _ hq)) (hs.op p _) (h.op hs (hx p (List.mem_cons_self ..)) _)
theorem ge_foldl {a b : List NodeT} {g : Al → Nat → Al} (hg : ∀ s p, Sz a b s → Ge s → Sz a b (g s p) ∧ Ge (g s p)) : ∀ (x : List Nat) {s : Al}, Sz a b s → Ge s → Ge (x.foldl g s)
 | [], _, _, h => h
 | p :: x, _, hs, h => ge_foldl hg x (hg _ p hs h).1 (hg _ p hs h).2
theorem ge_align {a b : List NodeT} : ∀ (f : Nat) (i k : Int) {s : Al}, Sz a b s → Ge s → Ge (alignF a b f i k s)
 | 0, _, _, _, _, h => h
 | f + 1, i, k, s, hs, h => by
  have hx : ∀ p ∈ kids a i, p < a.length := fun p hp => kids_lt hp
  rw [alignF]
  refine ge_foldl (a := a) (b := b) (fun s p hs h => ?_) _ (sz_ph2 _ (sz_ph1 _ hs)) (ge_ph2 _ hx (sz_ph1 _ hs) (ge_ph1 _ hx hs h))
  show Sz a b (if 0 ≤ s.b p then alignF a b f p (s.b p) s else s) ∧ Ge (if 0 ≤ s.b p then alignF a b f p (s.b p) s else s)
  split
  ·exact ⟨sz_align f _ _ hs, ge_align f _ _ hs h⟩
  ·exact ⟨hs, h⟩
theorem shp_nil {l : List NodeT} (h : TreeUp l l.length) {p : Nat} (hp : p < l.length) : shp l p = [] ↔ kids l p = [] := by
 rw [shp, List.map_eq_nil_iff, below_kids h hp]
 cases kids l p with
 | nil => simp
 | cons k r => simp

set_option maxHeartbeats 4000000 in
theorem k_align (a b : List NodeT) (ha : a.length ≤ 100) (hb : b.length ≤ 100) (hca : checkF a = 0) (hcb : checkF b = 0) : ∀ (f : Nat) (i k : Int) (s : Al) (m : Nat → Bool), (a.length : Int) ≤ f + i → -1 ≤ i → i < a.length → Sz a b s → Ge s →
  ACalls Tryz.prog Gl 47 [.ptr 0 0, .d (.int .i64 i), .d (.int .i64 k)] (stP a b s m) (fun r s' => r = .tup [] ∧ ∃ m', s' = stP a b (alignF a b f i k s) m') := by
 have hA := Tr.of hca
 have hB := Tr.of hcb
 intro f
 induction f with
 | zero =>
  intro i k s m hf hi hi2 hs hg
  omega
 | succ f ih =>
  intro i k s m hf hi hi2 hs hge
  obtain ⟨x, hx⟩ : ∃ x, x = kids a i := ⟨_, rfl⟩
  obtain ⟨y, hy⟩ : ∃ y, y = kids b k := ⟨_, rfl⟩
  have hxl : ∀ p ∈ x, p < a.length := fun p hp => by rw [hx] at hp; exact kids_lt hp
  have hyl : ∀ q ∈ y, q < b.length := fun q hq => by rw [hy] at hq; exact kids_lt hq
  have hxn : x.length ≤ 100 := by rw [hx]; exact Nat.le_trans (kidsN_len a i a.length) ha
  have hyn : y.length ≤ 100 := by rw [hy]; exact Nat.le_trans (kidsN_len b k b.length) hb
  have gx1 := kidV_get a i
  have gy1 := kidV_get b k
  refine acalls_of Tryz.func47 rfl rfl (by simp [Tryz.ntmps47]) (evC_sound rfl _ _ _ _ ?_)
  simp only [Tryz.ntmps47, Tryz.results47, argEnv, List.length_nil]
  simp only [zN, seval, Nat.reduceLeDiff, Nat.reduceEqDiff, reduceCtorEq, reduceIte, stP, intD, gx1, gy1, kidV_vg, kidV_un, kidV_len, kidV_hasLen]
  repeat ((with_reducible refine And.intro ?_ ?_); (focus (first | omega | (simp only [lenR]; omega) | (refine qq ?_; rfl) | (refine dq ?_; kernel_rfl) | (intros; simp_all; done))))
  have hswX : Weak 119 6 [(33, AV.d (D.int IntKind.i64 0)), (32, AV.d (D.int IntKind.i64 ↑(kids a i).length)), (31, kidV a i), (7, kidV b k), (6, kidV a i), (3, .ptr 6 0)] (stP a b s m ++ [bX])
    [(3, .ptr 6 0), (6, .d (.sl (x.map intD))), (7, .d (.sl (y.map intD))), (31, .d (.sl (x.map intD))), (32, .d (.int .i64 x.length)), (33, .d (.int .i64 0))] (stP a b s m ++ [bX]) := by
   rw [hx, hy]
   exact (weak_dat (V := kidV a i) 6 rfl (kidV_isD _ a i) (kidV_toD _ a i) (kidV_refs a i)).trans ((weak_dat (V := kidV b k) 7 rfl (kidV_isD _ b k) (kidV_toD _ b k) (kidV_refs b k)).trans ((weak_dat (V := kidV a i) 31 rfl (kidV_isD _ a i) (kidV_toD _ a i) (kidV_refs a i)).trans (weak_sub rfl)))
  refine for_of x.length (fun j => [(3, .ptr 6 0), (6, .d (.sl (x.map intD))), (7, .d (.sl (y.map intD))), (31, .d (.sl (x.map intD))), (32, .d (.int .i64 x.length)), (33, .d (.int .i64 j))]) (fun j => stP a b (ph1 a b y (x.take j) s) m ++ [bX]) (fun _ => True) trivial ?_ ?_
  ·refine Weak.trans (weak_sub ?_) hswX
   simp only [zN, seval, Nat.reduceLeDiff, Nat.reduceEqDiff, reduceCtorEq, reduceIte, stP, intD]
  ·intro j _ hj
   obtain ⟨s1, hs1⟩ : ∃ s1, s1 = ph1 a b y (x.take j) s := ⟨_, rfl⟩
   have hz1 : Sz a b s1 := by rw [hs1]; exact sz_ph1 _ hs
   rw [← hs1]
   by_cases h : j < x.length
   ·obtain ⟨p, hp⟩ : ∃ p, p = x.getD j default := ⟨_, rfl⟩
    have hpl : p < a.length := by rw [hp]; exact hxl _ (mem_getD h)
    have hst := ph1_step a b y x s h
    rw [← hp, ← hs1] at hst
    have gx : (x.map intD).getD j default = .int .i64 p := by rw [a_getD _ _ _ h, ← hp]; rfl
    rw [hst]
    simp only [zN, seval, Nat.reduceLeDiff, Nat.reduceEqDiff, reduceCtorEq, reduceIte, stP, intD, (show (j:Int) < x.length by omega), h, gx, bX]
    repeat ((with_reducible refine And.intro ?_ ?_); (focus (first | omega | (simp only [lenR]; omega) | (refine qq ?_; rfl) | (refine dq ?_; kernel_rfl) | (intros; simp_all; done))))
    refine callF_go ((k_IndexFuncInt 80 [.ptr 6 0, .ptr 7 0] (fun _ : Unit => stC a b s1 m (.int .i64 p)) (fun q => nm b q == nm a p) y (by omega) (fun u q hq => (k_byName a b s1 m p q hpl (hyl q hq)).mono fun r s' hr => ?_) ()).mono fun r s' hr => ?_)
    ·obtain ⟨rfl, rfl⟩ := hr
     refine ⟨?_, (), rfl⟩
     congr 2
     rw [Bool.eq_iff_iff, beq_iff_eq, decide_eq_true_iff]
    ·obtain ⟨j0, u0, rfl, rfl, hcase⟩ := hr
     rcases hcase with ⟨rfl, hn⟩ | ⟨q0, rfl, hq0, hfd⟩
     ·have hc1 : c1 a b y p = none := hn
      rw [hc1]
      simp only [zN, seval, Nat.reduceLeDiff, Nat.reduceEqDiff, reduceCtorEq, reduceIte, stP, intD, stC]
      refine weak_to [] [0, 1, 2, 3, 4, 5, 6] rfl (by decide) ?_ (stP_ren3 a b s1 m _)
      simp only [zN, seval, Nat.reduceLeDiff, Nat.reduceEqDiff, reduceCtorEq, reduceIte, stP, intD, @a_wrap ((j:Int) + 1) (by omega)]
     ·obtain ⟨r, hr⟩ : ∃ r, r = y.getD q0 default := ⟨_, rfl⟩
      have hrl : r < b.length := by rw [hr]; exact hyl _ (mem_getD hq0)
      have gy : (y.map intD).getD q0 default = .int .i64 r := by rw [a_getD _ _ _ hq0, ← hr]; rfl
      have hc1 : c1 a b y p = some r := by rw [hr]; exact hfd
      rw [hc1]
      simp only [zN, seval, Nat.reduceLeDiff, Nat.reduceEqDiff, reduceCtorEq, reduceIte, stP, intD, stC, (show 0 ≤ (q0:Int) by omega), (show (q0:Int) < y.length by omega), hq0, gy]
      repeat ((with_reducible refine And.intro ?_ ?_); (focus (first | omega | (simp only [lenR]; omega) | (refine qq ?_; rfl) | (refine dq ?_; kernel_rfl) | (intros; simp_all; done))))
      refine callF_last (by kernel_rfl) ((onP2 (k_pair a b (by omega) (by omega) s1 m hz1 p r hpl hrl) (args := [.ptr 0 0, .d (.int .i64 p), .d (.int .i64 r)]) rfl).mono fun r' s' hrs => ?_)
      obtain ⟨r0, s0, ⟨rfl, rfl⟩, rfl, rfl⟩ := hrs
      rw [stP_back2]
      simp only [zN, seval, Nat.reduceLeDiff, Nat.reduceEqDiff, reduceCtorEq, reduceIte, stP, intD]
      refine weak_to [] [0, 1, 2, 3, 4, 5, 6] rfl (by decide) ?_ (stP_ren3 a b (pairS s1 p r) m _)
      simp only [zN, seval, Nat.reduceLeDiff, Nat.reduceEqDiff, reduceCtorEq, reduceIte, stP, intD, @a_wrap ((j:Int) + 1) (by omega)]
   ·have : j = x.length := by omega
    subst this
    rw [List.take_length] at hs1
    have hge1 : Ge s1 := by rw [hs1]; exact ge_ph1 _ hxl hs hge
    simp only [zN, seval, Nat.reduceLeDiff, Nat.reduceEqDiff, reduceCtorEq, reduceIte, stP, intD, (show ¬ (x.length:Int) < x.length by omega), bX]
    refine loop_of (τ := Nat × (Nat → Bool)) (fun u => [(3, .ptr 6 0), (6, .d (.sl (x.map intD))), (7, .d (.sl (y.map intD))), (50, .d (.sl (x.map intD))), (51, .d (.int .i64 x.length)), (52, .d (.int .i64 u.1))]) (fun u => stP a b (ph2 a b y (x.take u.1) s1) u.2 ++ [bX])
     (fun u => u.1 ≤ x.length) (fun u => x.length - u.1) (0, m) (Nat.zero_le _) ?_ ?_
    ·refine weak_sub ?_
     simp only [zN, seval, Nat.reduceLeDiff, Nat.reduceEqDiff, reduceCtorEq, reduceIte, stP, intD, Int.cast_ofNat_Int]
    ·rintro ⟨j, m⟩ hj
     simp only at hj
     obtain ⟨s2, hs2⟩ : ∃ s2, s2 = ph2 a b y (x.take j) s1 := ⟨_, rfl⟩
     have hz2 : Sz a b s2 := by rw [hs2]; exact sz_ph2 _ hz1
     have hge2 : Ge s2 := by rw [hs2]; exact ge_ph2 _ (fun p hp => hxl p (List.mem_of_mem_take hp)) hz1 hge1
     rw [← hs2]
     by_cases h : j < x.length
     ·obtain ⟨p, hp⟩ : ∃ p, p = x.getD j default := ⟨_, rfl⟩
      have hpl : p < a.length := by rw [hp]; exact hxl _ (mem_getD h)
      have hst := ph2_step a b y x s1 h
      rw [← hp, ← hs2] at hst
      have gx : (x.map intD).getD j default = .int .i64 p := by rw [a_getD _ _ _ h, ← hp]; rfl
      have gb := b_get (s := s2) (p := p) (by rw [hz2.1]; exact hpl)
      have hpt : p < s2.toB.length := by rw [hz2.1]; exact hpl
      have gp1 := kidV_get a p
      have hgp := hge2 p
      simp only [zN, seval, Nat.reduceLeDiff, Nat.reduceEqDiff, reduceCtorEq, reduceIte, stP, intD, (show (j:Int) < x.length by omega), h, gx, gb, hpt, bX, (show (p:Int) < a.length by omega), gp1, kidV_vg, kidV_un, kidV_len, kidV_hasLen, bxP_a]
      repeat ((with_reducible refine And.intro ?_ ?_); (focus (first | omega | (simp only [lenR]; omega) | (refine qq ?_; rfl) | (refine dq ?_; kernel_rfl) | (intros; simp_all; done))))
      have hc2 : c2 a b y s2 p = if s2.b p < 0 ∧ shp a p ≠ [] then y.find? (fun q => decide (s2.a q < 0) && (shp b q == shp a p)) else none := rfl
      refine ifC.mk (fun hc => ?_) (fun hc => ?_)
      ·have hcn : c2 a b y s2 p = none := by
        rw [hc2, if_neg]
        rintro ⟨g1, g2⟩
        rw [Ne, shp_nil hA.up hpl] at g2
        have : s2.b p = -1 := by omega
        rw [this] at hc
        have : (kids a p).length ≠ 0 := fun e => g2 (List.eq_nil_of_length_eq_zero e)
        simp at hc
        exact g2 hc
       have hst' : ph2 a b y (x.take (j + 1)) s1 = s2 := by rw [hst, hcn]; rfl
       refine ⟨(j + 1, m), h, by simp only; omega, ?_⟩
       simp only [hst']
       refine weak_sub ?_
       simp only [zN, seval, Nat.reduceLeDiff, Nat.reduceEqDiff, reduceCtorEq, reduceIte, stP, intD, @a_wrap ((j:Int) + 1) (by omega)]
      ·have hb1 : s2.b p = -1 ∧ kids a p ≠ [] := by
        simp only [Bool.or_eq_false_iff, bne_eq_false_iff_eq, beq_eq_false_iff_ne, ne_eq, Int.natCast_eq_zero, List.length_eq_zero_iff] at hc
        exact hc
       have hcf : c2 a b y s2 p = y.find? (fun q => decide (s2.a q < 0) && (shp b q == shp a p)) := by
        rw [hc2, if_pos ⟨by omega, fun e => hb1.2 ((shp_nil hA.up hpl).1 e)⟩]
       have hsl : (shp a p).length ≤ 100 := Nat.le_trans (shTo_len a p a.length) ha
       repeat ((with_reducible refine And.intro ?_ ?_); (focus (first | omega | (simp only [lenR]; omega) | (refine qq ?_; rfl) | (refine dq ?_; kernel_rfl) | (intros; simp_all; done))))
       have hkk := k_shape (Gl := Gl) a ha hca p hpl
       rw [← shapeA_ren a b s2 m] at hkk
       have hgo := ACalls.under (σ := stP a b s2 m ++ [bX]) (args := [.agg [.d (.sl (a.map NodeT.toD)), .mapr 1], .d (.int .i64 p)]) [1] (by decide) (by simp [stP]) hkk
       refine callF_go (hgo.mono fun r s' hrs => ?_)
       obtain ⟨r0, s0, ⟨rfl, rfl⟩, rfl, rfl⟩ := hrs
       rw [shapeA_ren, shapeA_back, back_d]
       simp only [zN, seval, Nat.reduceLeDiff, Nat.reduceEqDiff, reduceCtorEq, reduceIte, stP, intD, bX]
       repeat ((with_reducible refine And.intro ?_ ?_); (focus (first | omega | (simp only [lenR]; omega) | (refine qq ?_; rfl) | (refine dq ?_; kernel_rfl) | (intros; simp_all; done))))
       refine callF_go ((k_IndexFuncInt 83 [.ptr 6 0, .ptr 7 0] (fun m' : Nat → Bool => stC a b s2 m' (.sl ((shp a p).map .str))) (fun q => decide (s2.a q < 0) && (shp b q == shp a p)) y (by omega) (fun m' q hq => k_byShape a b hb hcb s2 m' hz2 (shp a p) (by omega) q (hyl q hq)) m).mono fun r s' hr => ?_)
       obtain ⟨j0, m1, rfl, rfl, hcase⟩ := hr
       rcases hcase with ⟨rfl, hn⟩ | ⟨q0, rfl, hq0, hfd⟩
       ·have hst' : ph2 a b y (x.take (j + 1)) s1 = s2 := by rw [hst, hcf, hn]; rfl
        simp only [zN, seval, Nat.reduceLeDiff, Nat.reduceEqDiff, reduceCtorEq, reduceIte, stP, intD, stC]
        refine ⟨(j + 1, m1), h, by simp only; omega, ?_⟩
        simp only [hst']
        refine weak_to [] [0, 1, 2, 3, 4, 5, 6] rfl (by decide) ?_ (stP_ren3 a b s2 m1 _)
        simp only [zN, seval, Nat.reduceLeDiff, Nat.reduceEqDiff, reduceCtorEq, reduceIte, stP, intD, @a_wrap ((j:Int) + 1) (by omega)]
       ·obtain ⟨r, hr⟩ : ∃ r, r = y.getD q0 default := ⟨_, rfl⟩
        have hrl : r < b.length := by rw [hr]; exact hyl _ (mem_getD hq0)
        have gy : (y.map intD).getD q0 default = .int .i64 r := by rw [a_getD _ _ _ hq0, ← hr]; rfl
        have hst' : ph2 a b y (x.take (j + 1)) s1 = pairS s2 p r := by rw [hst, hcf, hfd, ← hr]; rfl
        simp only [zN, seval, Nat.reduceLeDiff, Nat.reduceEqDiff, reduceCtorEq, reduceIte, stP, intD, stC, (show 0 ≤ (q0:Int) by omega), (show (q0:Int) < y.length by omega), hq0, gy]
        repeat ((with_reducible refine And.intro ?_ ?_); (focus (first | omega | (simp only [lenR]; omega) | (refine qq ?_; rfl) | (refine dq ?_; kernel_rfl) | (intros; simp_all; done))))
        refine callF_last (by kernel_rfl) ((onP2 (k_pair a b (by omega) (by omega) s2 m1 hz2 p r hpl hrl) (args := [.ptr 0 0, .d (.int .i64 p), .d (.int .i64 r)]) rfl).mono fun r' s' hrs => ?_)
        obtain ⟨r0, s0, ⟨rfl, rfl⟩, rfl, rfl⟩ := hrs
        rw [stP_back2]
        simp only [zN, seval, Nat.reduceLeDiff, Nat.reduceEqDiff, reduceCtorEq, reduceIte, stP, intD]
        refine ⟨(j + 1, m1), h, by simp only; omega, ?_⟩
        simp only [hst']
        refine weak_to [] [0, 1, 2, 3, 4, 5, 6] rfl (by decide) ?_ (stP_ren3 a b (pairS s2 p r) m1 _)
        simp only [zN, seval, Nat.reduceLeDiff, Nat.reduceEqDiff, reduceCtorEq, reduceIte, stP, intD, @a_wrap ((j:Int) + 1) (by omega)]
     ·have : j = x.length := by omega
      subst this
      rw [List.take_length] at hs2
      obtain ⟨g, hg⟩ : ∃ g : Al → Nat → Al, g = fun (s : Al) (p : Nat) => if 0 ≤ s.b p then alignF a b f p (s.b p) s else s := ⟨_, rfl⟩
      have hgz : ∀ s p, Sz a b s → Sz a b (g s p) := fun s p h => by
       rw [hg]
       show Sz a b (if 0 ≤ s.b p then alignF a b f p (s.b p) s else s)
       split
       ·exact sz_align f _ _ h
       ·exact h
      have hgg : ∀ s p, Sz a b s → Ge s → Sz a b (g s p) ∧ Ge (g s p) := fun s p h1 h2 => ⟨hgz s p h1, by
       rw [hg]
       show Ge (if 0 ≤ s.b p then alignF a b f p (s.b p) s else s)
       split
       ·exact ge_align f _ _ h1 h2
       ·exact h2⟩
      have hfin : alignF a b (f + 1) i k s = x.foldl g s2 := by rw [hs2, hs1, hx, hy, hg]; rfl
      rw [hfin]
      simp only [zN, seval, Nat.reduceLeDiff, Nat.reduceEqDiff, reduceCtorEq, reduceIte, stP, intD, (show ¬ (x.length:Int) < x.length by omega), bX]
      refine loop_of (τ := Nat × (Nat → Bool)) (fun u => [(3, .ptr 6 0), (94, .d (.sl (x.map intD))), (95, .d (.int .i64 x.length)), (96, .d (.int .i64 u.1))]) (fun u => stP a b ((x.take u.1).foldl g s2) u.2 ++ [bX])
       (fun u => u.1 ≤ x.length) (fun u => x.length - u.1) (0, m) (Nat.zero_le _) ?_ ?_
      ·refine weak_sub ?_
       simp only [zN, seval, Nat.reduceLeDiff, Nat.reduceEqDiff, reduceCtorEq, reduceIte, stP, intD, Int.cast_ofNat_Int]
      ·rintro ⟨j, m⟩ hj
       simp only at hj
       obtain ⟨t, ht⟩ : ∃ t, t = (x.take j).foldl g s2 := ⟨_, rfl⟩
       have hzt : Sz a b t := by rw [ht]; exact sz_foldl hgz _ hz2
       have hgt : Ge t := by rw [ht]; exact ge_foldl hgg _ hz2 hge2
       by_cases h : j < x.length
       ·obtain ⟨p, hp⟩ : ∃ p, p = x.getD j default := ⟨_, rfl⟩
        have hpx : p ∈ x := by rw [hp]; exact mem_getD h
        have hpl : p < a.length := hxl p hpx
        have hst := foldl_step g x s2 h
        rw [← hp, ← ht] at hst
        have gx : (x.map intD).getD j default = .int .i64 p := by rw [a_getD _ _ _ h, ← hp]; rfl
        have gb := b_get (s := t) (p := p) (by rw [hzt.1]; exact hpl)
        have hpt : p < t.toB.length := by rw [hzt.1]; exact hpl
        have hgp := hgt p
        have hgt2 : g t p = if 0 ≤ t.b p then alignF a b f p (t.b p) t else t := by rw [hg]
        rw [← ht]
        simp only [zN, seval, Nat.reduceLeDiff, Nat.reduceEqDiff, reduceCtorEq, reduceIte, stP, intD, (show (j:Int) < x.length by omega), h, gx, gb, hpt, bX, (show (p:Int) < a.length by omega)]
        repeat ((with_reducible refine And.intro ?_ ?_); (focus (first | omega | (simp only [lenR]; omega) | (refine qq ?_; rfl) | (refine dq ?_; kernel_rfl) | (intros; simp_all; done))))
        refine ifC.mk (fun hc => ?_) (fun hc => ?_)
        ·have hc : 0 ≤ t.b p := by
          have : t.b p ≠ -1 := by simpa using hc
          omega
         rw [if_pos hc] at hgt2
         repeat ((with_reducible refine And.intro ?_ ?_); (focus (first | omega | (simp only [lenR]; omega) | (refine qq ?_; rfl) | (refine dq ?_; kernel_rfl) | (intros; simp_all; done))))
         (try simp only [zN, seval, Nat.reduceLeDiff, Nat.reduceEqDiff, reduceCtorEq, reduceIte, stP, intD, h, gx, gb, hpt, (show (j:Int) < x.length by omega), (show (p:Int) < a.length by omega)])
         repeat ((with_reducible refine And.intro ?_ ?_); (focus (first | omega | (simp only [lenR]; omega) | (refine qq ?_; rfl) | (refine dq ?_; kernel_rfl) | (intros; simp_all; done))))
         have hpi : i < p := by
          rw [hx] at hpx
          have h1 := (mem_kids.1 hpx).2
          have h2 := (tree_par hA.up hpl).2
          omega
         refine callF_last (by kernel_rfl) ((onP1 (ih p (t.b p) t m (by omega) (by omega) (by omega) hzt hgt) (args := [.ptr 0 0, .d (.int .i64 p), .d (.int .i64 (t.b p))]) rfl).mono fun r' s' hrs => ?_)
         obtain ⟨r0, s0, ⟨rfl, m1, rfl⟩, rfl, rfl⟩ := hrs
         rw [stP_back1]
         simp only [zN, seval, Nat.reduceLeDiff, Nat.reduceEqDiff, reduceCtorEq, reduceIte, stP, intD]
         refine ⟨(j + 1, m1), h, by simp only; omega, ?_⟩
         simp only [hst, hgt2]
         refine weak_sub ?_
         simp only [zN, seval, Nat.reduceLeDiff, Nat.reduceEqDiff, reduceCtorEq, reduceIte, stP, intD, @a_wrap ((j:Int) + 1) (by omega)]
        ·have hc : ¬ 0 ≤ t.b p := by
          have : t.b p = -1 := by simpa using hc
          omega
         rw [if_neg hc] at hgt2
         refine ⟨(j + 1, m), h, by simp only; omega, ?_⟩
         simp only [hst, hgt2]
         refine weak_sub ?_
         simp only [zN, seval, Nat.reduceLeDiff, Nat.reduceEqDiff, reduceCtorEq, reduceIte, stP, intD, @a_wrap ((j:Int) + 1) (by omega)]
       ·have : j = x.length := by omega
        subst this
        rw [List.take_length] at ht
        simp only [zN, seval, Nat.reduceLeDiff, Nat.reduceEqDiff, reduceCtorEq, reduceIte, stP, intD, (show ¬ (x.length:Int) < x.length by omega), bX, List.take_length, ← ht]
        refine ⟨_, _, weakR_to [] [0, 1, 2, 3, 4, 5] rfl (by simp) rfl (stP_ren1 a b t m), rfl, m, rfl⟩

theorem back_fresh (σ : Sto) (B : Blk) (hB : backB (backId [] σ.length) B = B) : backS [] σ [B] = σ ++ [B] := by
 apply List.ext_getElem?
 intro i
 rcases Nat.lt_trichotomy i σ.length with h | h | h
 ·rw [List.getElem?_append_left h]
  simp [backS, idxIn, h, blkAt, show i < σ.length + 1 by omega]
 ·subst h
  simp [backS, idxIn, blkAt]
  exact hB
 ·rw [List.getElem?_eq_none (by simp [backS]; omega), List.getElem?_eq_none (by simp; omega)]
theorem back_tree (N : Nat) (x : D) : back (backId [] N) (.agg [.d x, .mapr 0]) = .agg [.d x, .mapr N] := by
 simp [back, backL, backId]
def vf (x y : Bool) : AV := if y = true then .d (.sl [.int .i64 (-1)]) else onV x (.osl 6 0 1)
theorem stP_ren1' (a b : List NodeT) (s : Al) (m : Nat → Bool) (B : Blk) : renS [0, 1, 2, 3, 4, 5] (stP a b s m ++ [B]) = stP a b s m := by
 show [renB _ _ _, renB _ _ (.map (some .i64) (kidM a)), renB _ _ (.map (some .i64) (kidM b)), renB _ _ _, renB _ _ _, renB _ _ (.map (some .i64) (memM b m))] = _
 rw [kidM_ren, kidM_ren, memM_ren]; rfl
theorem stP_back1' (a b : List NodeT) (s s' : Al) (m m' : Nat → Bool) (B : Blk) : backS [0, 1, 2, 3, 4, 5] (stP a b s m ++ [B]) (stP a b s' m') = stP a b s' m' ++ [B] := by
 show [backB _ _, backB _ (.map (some .i64) (kidM a)), backB _ (.map (some .i64) (kidM b)), backB _ _, backB _ _, backB _ (.map (some .i64) (memM b m')), _] = _
 rw [kidM_back, kidM_back, memM_back]; rfl
theorem onP1' {f : FuncId} {args : List AV} {a b : List NodeT} {s : Al} {m : Nat → Bool} {B : Blk} {R : AV → Sto → Prop} (h : ACalls Tryz.prog Gl f args (stP a b s m) R) (ha : args.map (renV [0, 1, 2, 3, 4, 5] (stP a b s m ++ [B])) = args) :
  ACalls Tryz.prog Gl f args (stP a b s m ++ [B]) (fun r s1 => ∃ r0 s0, R r0 s0 ∧ r = back (backId [0, 1, 2, 3, 4, 5] (stP a b s m ++ [B]).length) r0 ∧ s1 = backS [0, 1, 2, 3, 4, 5] (stP a b s m ++ [B]) s0) := by
 refine ACalls.under [0, 1, 2, 3, 4, 5] (by decide) (by simp [stP]) ?_
 rw [ha, stP_ren1']; exact h
theorem vf_t (x : Bool) : vf x true = .d (.sl [.int .i64 (-1)]) := rfl
theorem vf_f (x : Bool) : vf x false = onV x (.osl 6 0 1) := rfl
theorem renV_vf {ρ : List Nat} (σ : Sto) (x : Bool) {y : Bool} (h : idxIn ρ 6 = some 6) : renV ρ σ (vf x y) = vf x y := by
 cases y
 ·cases x
  ·rfl
  ·show ren0 ρ σ (.osl 6 0 1) = .osl 6 0 1
   simp only [ren0, h]
 ·rfl
theorem back_osl (N k : Nat) : back (backId [] N) (.osl 0 0 k) = .osl N 0 k := by
 simp [back, backId]
theorem k_MOf (a b : List NodeT) (ha : a.length ≤ 100) (hb : b.length ≤ 100) : Pure Tryz.prog Gl 20 [.d (.sl (a.map NodeT.toD)), .d (.sl (b.map NodeT.toD))] (ofD a b) := by
 refine Pure.of2t2 ?_
 refine acalls_of Tryz.func20 rfl rfl (by simp [Tryz.ntmps20]) (evC_sound rfl _ _ _ _ ?_)
 simp only [Tryz.ntmps20, Tryz.results20, argEnv, List.length_nil]
 simp only [zN, seval, Nat.reduceLeDiff, Nat.reduceEqDiff, reduceCtorEq, reduceIte, intD]
 refine callF_pure (k_chk2 a b (by omega) (by omega)) ?_
 simp only [zN, seval, Nat.reduceLeDiff, Nat.reduceEqDiff, reduceCtorEq, reduceIte, intD]
 refine ifC.mk (fun h1 => ?_) (fun h1 => ?_)
 ·have h1 : ¬ chk2 a b = 0 := by simpa using h1
  refine ⟨_, _, ret_tdata rfl rfl, ?_, rfl⟩
  unfold chk2 at h1 ⊢
  by_cases h2 : checkF a = 0
  ·rw [if_pos h2] at h1 ⊢
   rw [ofF, if_pos h2, if_neg h1]; rfl
  ·rw [if_neg h2] at h1 ⊢
   rw [ofF, if_neg h2]; rfl
 have h1 : chk2 a b = 0 := by simpa using h1
 obtain ⟨hca, hcb⟩ : checkF a = 0 ∧ checkF b = 0 := by
  unfold chk2 at h1
  by_cases h2 : checkF a = 0
  ·rw [if_pos h2] at h1; exact ⟨h2, h1⟩
  ·rw [if_neg h2] at h1; exact absurd h1 h2
 have hof : ofF a b = (pairsOf a b, 0) := by rw [ofF, if_pos hca, if_pos hcb]
 rw [hof]
 obtain ⟨MA, hMA⟩ : ∃ MA : Blk, MA = .map (some .i64) (kidM a) := ⟨_, rfl⟩
 obtain ⟨MB, hMB⟩ : ∃ MB : Blk, MB = .map (some .i64) (kidM b) := ⟨_, rfl⟩
 have hMAr : ∀ ρ σ, renB ρ σ MA = MA := fun ρ σ => by rw [hMA, kidM_ren]
 have hMBr : ∀ ρ σ, renB ρ σ MB = MB := fun ρ σ => by rw [hMB, kidM_ren]
 refine ⟨.inr (.inr (.inr (evFree_can
  (fun L => [(7, onV (L 14) (.ptr 0 0)), (32, onV (L 13) (.ptr 0 0)), (31, onV (L 12) (.agg [.d (.sl (a.map NodeT.toD)), .mapr 1, .d (.sl (b.map NodeT.toD)), .mapr 2, .osl 3 0 a.length, .osl 4 0 b.length, .mapr 5])), (30, onV (L 11) (.mapr 5)), (29, onV (L 10) (.osl 4 0 b.length)), (28, onV (L 9) (.d (.int .i64 b.length))), (27, onV (L 8) (.d (.sl (b.map NodeT.toD)))), (26, onV (L 7) (.osl 3 0 a.length)), (25, onV (L 6) (.d (.int .i64 a.length))), (24, onV (L 5) (.d (.sl (a.map NodeT.toD)))), (23, vf (L 4) (L 7)), (22, onV (L 3) (.agg [.d (.sl (b.map NodeT.toD)), .mapr 2])), (21, onV (L 2) (.d (.sl (b.map NodeT.toD)))), (20, onV (L 1) (.agg [.d (.sl (a.map NodeT.toD)), .mapr 1])), (19, onV (L 0) (.d (.sl (a.map NodeT.toD)))), (0, .d (.sl (a.map NodeT.toD))), (1, .d (.sl (b.map NodeT.toD)))])
  (fun L => [onB (L 13) (.box 7 (.agg [.d (.sl (a.map NodeT.toD)), .mapr 1, .d (.sl (b.map NodeT.toD)), .mapr 2, .osl 3 0 a.length, .osl 4 0 b.length, .mapr 5])), onB (L 1) MA, onB (L 3) MB, onB (L 7) (.arr 1 ((List.replicate a.length (-1 : Int)).map (.int .i64))), onB (L 10) (.arr 1 (List.replicate b.length (.bool false))), onB (L 11) (.map (some .i64) fun _ => none), onB (L 4 && !L 7) (.arr 1 [.int .i64 (-1)])]) (by kernel_rfl) ?_ ?_ ?_))), ?_⟩
 ·refine weak_to [] [0, 1, 2, 3, 4, 5, 6] rfl (by simp) ?_ rfl
  rfl
 ·simp only [stepsL]
  refine ⟨?_, ?_, ?_, ?_, ?_, ?_, ?_, ?_, ?_, ?_, ?_, ?_, ?_, ?_, ?_, trivial⟩
  ·intro L hc hL hp
   have h1 : L 1 = false := nope hL fun h => predsL_on (hc 1 _ rfl h) 0 (by kernel_rfl)
   have h3 : L 3 = false := nope h1 fun h => predsL_on (hc 3 _ rfl h) 1 (by kernel_rfl)
   have h7 : L 7 = false := nope h3 fun h => predsL_on (hc 7 _ rfl h) 3 (by kernel_rfl)
   have h12 : L 12 = false := nope h1 fun h => predsL_on (hc 12 _ rfl h) 1 (by kernel_rfl)
   have h13 : L 13 = false := nope h12 fun h => predsL_on (hc 13 _ rfl h) 12 (by kernel_rfl)
   have h14 : L 14 = false := nope hL fun h => predsL_on (hc 14 _ rfl h) 0 (by kernel_rfl)
   (simp only [predsL, Region.binds, frB] at hp; (try simp only [Nat.zero_add, Nat.reduceAdd] at hL); simp only [zN, seval, Nat.reduceLeDiff, Nat.reduceEqDiff, reduceCtorEq, reduceIte, intD, hL, hp, h1, h3, h7, h12, h13, h14, updB, frV, Bool.not_true, Bool.not_false, vf_t, vf_f])
   repeat ((with_reducible refine And.intro ?_ ?_); (focus (first | omega | (simp only [lenR]; omega) | (refine qq ?_; rfl) | (refine dq ?_; kernel_rfl) | (intros; simp_all; done))))
   refine weak_sub ?_
   simp only [zN, seval, Nat.reduceLeDiff, Nat.reduceEqDiff, reduceCtorEq, reduceIte, intD, onV_t, onV_f]
  ·intro L hc hL hp
   have h3 : L 3 = false := nope hL fun h => predsL_on (hc 3 _ rfl h) 1 (by kernel_rfl)
   have h7 : L 7 = false := nope h3 fun h => predsL_on (hc 7 _ rfl h) 3 (by kernel_rfl)
   have h12 : L 12 = false := nope hL fun h => predsL_on (hc 12 _ rfl h) 1 (by kernel_rfl)
   have h13 : L 13 = false := nope h12 fun h => predsL_on (hc 13 _ rfl h) 12 (by kernel_rfl)
   have h14 : L 14 = false := nope hL fun h => predsL_on (hc 14 _ rfl h) 1 (by kernel_rfl)
   (simp only [predsL, Region.binds, frB] at hp; (try simp only [Nat.zero_add, Nat.reduceAdd] at hL); simp only [zN, seval, Nat.reduceLeDiff, Nat.reduceEqDiff, reduceCtorEq, reduceIte, intD, hL, hp, h3, h7, h12, h13, h14, updB, frV, Bool.not_true, Bool.not_false, vf_t, vf_f])
   repeat ((with_reducible refine And.intro ?_ ?_); (focus (first | omega | (simp only [lenR]; omega) | (refine qq ?_; rfl) | (refine dq ?_; kernel_rfl) | (intros; simp_all; done))))
   refine callF_go ((ACalls.under [] (by simp) (by simp) (k_grow a (by omega) (checkF_ok hca).2.2.2.1)).mono fun r s hrs => ?_)
   obtain ⟨r0, s0, ⟨rfl, rfl⟩, rfl, rfl⟩ := hrs
   rw [back_fresh _ _ (kidM_back a _), back_tree, ← hMA]
   simp only [zN, seval, Nat.reduceLeDiff, Nat.reduceEqDiff, reduceCtorEq, reduceIte, intD]
   refine weak_to [] [0, 7, 2, 3, 4, 5, 6] rfl (by simp) ?_ (by first | (simp only [zN, seval, Nat.reduceLeDiff, Nat.reduceEqDiff, reduceCtorEq, reduceIte, intD, renB_onB, hMAr, hMBr]; done) | (simp only [zN, seval, Nat.reduceLeDiff, Nat.reduceEqDiff, reduceCtorEq, reduceIte, intD, renB_onB, hMAr, hMBr]; rfl))
   simp only [zN, seval, Nat.reduceLeDiff, Nat.reduceEqDiff, reduceCtorEq, reduceIte, intD, renV_onV, renB_onB, renV_undef, onV_f, onV_t, vf_t, vf_f, renV_vf _ _ (show idxIn [0, 7, 2, 3, 4, 5, 6] 6 = some 6 from rfl)]
   try rfl
  ·intro L hc hL hp
   have h3 : L 3 = false := nope hL fun h => predsL_on (hc 3 _ rfl h) 2 (by kernel_rfl)
   have h7 : L 7 = false := nope h3 fun h => predsL_on (hc 7 _ rfl h) 3 (by kernel_rfl)
   have h12 : L 12 = false := nope h3 fun h => predsL_on (hc 12 _ rfl h) 3 (by kernel_rfl)
   have h13 : L 13 = false := nope h12 fun h => predsL_on (hc 13 _ rfl h) 12 (by kernel_rfl)
   have h14 : L 14 = false := nope hL fun h => predsL_on (hc 14 _ rfl h) 2 (by kernel_rfl)
   (simp only [predsL, Region.binds, frB] at hp; (try simp only [Nat.zero_add, Nat.reduceAdd] at hL); simp only [zN, seval, Nat.reduceLeDiff, Nat.reduceEqDiff, reduceCtorEq, reduceIte, intD, hL, hp, h3, h7, h12, h13, h14, updB, frV, Bool.not_true, Bool.not_false, vf_t, vf_f])
   repeat ((with_reducible refine And.intro ?_ ?_); (focus (first | omega | (simp only [lenR]; omega) | (refine qq ?_; rfl) | (refine dq ?_; kernel_rfl) | (intros; simp_all; done))))
   refine weak_sub ?_
   simp only [zN, seval, Nat.reduceLeDiff, Nat.reduceEqDiff, reduceCtorEq, reduceIte, intD, onV_t, onV_f]
  ·intro L hc hL hp
   have h7 : L 7 = false := nope hL fun h => predsL_on (hc 7 _ rfl h) 3 (by kernel_rfl)
   have h12 : L 12 = false := nope hL fun h => predsL_on (hc 12 _ rfl h) 3 (by kernel_rfl)
   have h13 : L 13 = false := nope h12 fun h => predsL_on (hc 13 _ rfl h) 12 (by kernel_rfl)
   have h14 : L 14 = false := nope hL fun h => predsL_on (hc 14 _ rfl h) 3 (by kernel_rfl)
   (simp only [predsL, Region.binds, frB] at hp; (try simp only [Nat.zero_add, Nat.reduceAdd] at hL); simp only [zN, seval, Nat.reduceLeDiff, Nat.reduceEqDiff, reduceCtorEq, reduceIte, intD, hL, hp, h7, h12, h13, h14, updB, frV, Bool.not_true, Bool.not_false, vf_t, vf_f])
   repeat ((with_reducible refine And.intro ?_ ?_); (focus (first | omega | (simp only [lenR]; omega) | (refine qq ?_; rfl) | (refine dq ?_; kernel_rfl) | (intros; simp_all; done))))
   refine callF_go ((ACalls.under [] (by simp) (by simp) (k_grow b (by omega) (checkF_ok hcb).2.2.2.1)).mono fun r s hrs => ?_)
   obtain ⟨r0, s0, ⟨rfl, rfl⟩, rfl, rfl⟩ := hrs
   rw [back_fresh _ _ (kidM_back b _), back_tree, ← hMB]
   simp only [zN, seval, Nat.reduceLeDiff, Nat.reduceEqDiff, reduceCtorEq, reduceIte, intD]
   refine weak_to [] [0, 1, 7, 3, 4, 5, 6] rfl (by simp) ?_ (by first | (simp only [zN, seval, Nat.reduceLeDiff, Nat.reduceEqDiff, reduceCtorEq, reduceIte, intD, renB_onB, hMAr, hMBr]; done) | (simp only [zN, seval, Nat.reduceLeDiff, Nat.reduceEqDiff, reduceCtorEq, reduceIte, intD, renB_onB, hMAr, hMBr]; rfl))
   simp only [zN, seval, Nat.reduceLeDiff, Nat.reduceEqDiff, reduceCtorEq, reduceIte, intD, renV_onV, renB_onB, renV_undef, onV_f, onV_t, vf_t, vf_f, renV_vf _ _ (show idxIn [0, 1, 7, 3, 4, 5, 6] 6 = some 6 from rfl)]
   try rfl
  ·intro L hc hL hp
   have h7 : L 7 = false := nope hL fun h => predsL_on (hc 7 _ rfl h) 4 (by kernel_rfl)
   have h12 : L 12 = false := nope h7 fun h => predsL_on (hc 12 _ rfl h) 7 (by kernel_rfl)
   have h13 : L 13 = false := nope h12 fun h => predsL_on (hc 13 _ rfl h) 12 (by kernel_rfl)
   have h14 : L 14 = false := nope hL fun h => predsL_on (hc 14 _ rfl h) 4 (by kernel_rfl)
   (simp only [predsL, Region.binds, frB] at hp; (try simp only [Nat.zero_add, Nat.reduceAdd] at hL); simp only [zN, seval, Nat.reduceLeDiff, Nat.reduceEqDiff, reduceCtorEq, reduceIte, intD, hL, hp, h7, h12, h13, h14, updB, frV, Bool.not_true, Bool.not_false, vf_t, vf_f])
   repeat ((with_reducible refine And.intro ?_ ?_); (focus (first | omega | (simp only [lenR]; omega) | (refine qq ?_; rfl) | (refine dq ?_; kernel_rfl) | (intros; simp_all; done))))
   refine weak_to [] [0, 1, 2, 3, 4, 5, 7] rfl (by simp) ?_ (by first | (simp only [zN, seval, Nat.reduceLeDiff, Nat.reduceEqDiff, reduceCtorEq, reduceIte, intD, renB_onB, hMAr, hMBr]; done) | (simp only [zN, seval, Nat.reduceLeDiff, Nat.reduceEqDiff, reduceCtorEq, reduceIte, intD, renB_onB, hMAr, hMBr]; rfl))
   simp only [zN, seval, Nat.reduceLeDiff, Nat.reduceEqDiff, reduceCtorEq, reduceIte, intD, renV_onV, renB_onB, renV_undef, onV_f, onV_t, vf_t, vf_f]
   try rfl
  ·intro L hc hL hp
   have h6 : L 6 = false := nope hL fun h => predsL_on (hc 6 _ rfl h) 5 (by kernel_rfl)
   have h7 : L 7 = false := nope h6 fun h => predsL_on (hc 7 _ rfl h) 6 (by kernel_rfl)
   have h12 : L 12 = false := nope h7 fun h => predsL_on (hc 12 _ rfl h) 7 (by kernel_rfl)
   have h13 : L 13 = false := nope h12 fun h => predsL_on (hc 13 _ rfl h) 12 (by kernel_rfl)
   have h14 : L 14 = false := nope hL fun h => predsL_on (hc 14 _ rfl h) 5 (by kernel_rfl)
   (simp only [predsL, Region.binds, frB] at hp; (try simp only [Nat.zero_add, Nat.reduceAdd] at hL); simp only [zN, seval, Nat.reduceLeDiff, Nat.reduceEqDiff, reduceCtorEq, reduceIte, intD, hL, hp, h6, h7, h12, h13, h14, updB, frV, Bool.not_true, Bool.not_false, vf_t, vf_f])
   repeat ((with_reducible refine And.intro ?_ ?_); (focus (first | omega | (simp only [lenR]; omega) | (refine qq ?_; rfl) | (refine dq ?_; kernel_rfl) | (intros; simp_all; done))))
   refine weak_sub ?_
   simp only [zN, seval, Nat.reduceLeDiff, Nat.reduceEqDiff, reduceCtorEq, reduceIte, intD, onV_t, onV_f]
  ·intro L hc hL hp
   have h7 : L 7 = false := nope hL fun h => predsL_on (hc 7 _ rfl h) 6 (by kernel_rfl)
   have h12 : L 12 = false := nope h7 fun h => predsL_on (hc 12 _ rfl h) 7 (by kernel_rfl)
   have h13 : L 13 = false := nope h12 fun h => predsL_on (hc 13 _ rfl h) 12 (by kernel_rfl)
   have h14 : L 14 = false := nope hL fun h => predsL_on (hc 14 _ rfl h) 6 (by kernel_rfl)
   (simp only [predsL, Region.binds, frB] at hp; (try simp only [Nat.zero_add, Nat.reduceAdd] at hL); simp only [zN, seval, Nat.reduceLeDiff, Nat.reduceEqDiff, reduceCtorEq, reduceIte, intD, hL, hp, h7, h12, h13, h14, updB, frV, Bool.not_true, Bool.not_false, vf_t, vf_f])
   repeat ((with_reducible refine And.intro ?_ ?_); (focus (first | omega | (simp only [lenR]; omega) | (refine qq ?_; rfl) | (refine dq ?_; kernel_rfl) | (intros; simp_all; done))))
   refine weak_sub ?_
   simp only [zN, seval, Nat.reduceLeDiff, Nat.reduceEqDiff, reduceCtorEq, reduceIte, intD, onV_t, onV_f]
  ·intro L hc hL hp
   have h12 : L 12 = false := nope hL fun h => predsL_on (hc 12 _ rfl h) 7 (by kernel_rfl)
   have h13 : L 13 = false := nope h12 fun h => predsL_on (hc 13 _ rfl h) 12 (by kernel_rfl)
   have h14 : L 14 = false := nope hL fun h => predsL_on (hc 14 _ rfl h) 7 (by kernel_rfl)
   (simp only [predsL, Region.binds, frB] at hp; (try simp only [Nat.zero_add, Nat.reduceAdd] at hL); simp only [zN, seval, Nat.reduceLeDiff, Nat.reduceEqDiff, reduceCtorEq, reduceIte, intD, hL, hp, h12, h13, h14, updB, frV, Bool.not_true, Bool.not_false, vf_t, vf_f])
   repeat ((with_reducible refine And.intro ?_ ?_); (focus (first | omega | (simp only [lenR]; omega) | (refine qq ?_; rfl) | (refine dq ?_; kernel_rfl) | (intros; simp_all; done))))
   refine callF_go (ACalls.data ?_)
   show ACalls _ _ _ [.d (.sl [.int .i64 (-1)]), .d (.int .i64 a.length)] [Blk.dead, onB (L 1) MA, MB, Blk.dead, onB (L 10) (.arr 1 (List.replicate b.length (.bool false))), onB (L 11) (.map (some .i64) fun _ => none), .frz 1 [.int .i64 (-1)]] _
   refine (ACalls.under (args := [.d (.sl [.int .i64 (-1)]), .d (.int .i64 a.length)]) [] (by simp) (by simp) (k_Repeat a.length (by omega))).mono fun r s hrs => ?_
   obtain ⟨r0, s0, ⟨rfl, rfl⟩, rfl, rfl⟩ := hrs
   rw [back_fresh _ _ rfl, back_osl]
   simp only [zN, seval, Nat.reduceLeDiff, Nat.reduceEqDiff, reduceCtorEq, reduceIte, intD]
   refine weak_to [] [0, 1, 2, 7, 4, 5, 8] rfl (by simp) ?_ (by first | (simp only [zN, seval, Nat.reduceLeDiff, Nat.reduceEqDiff, reduceCtorEq, reduceIte, intD, renB_onB, hMAr, hMBr]; done) | (simp only [zN, seval, Nat.reduceLeDiff, Nat.reduceEqDiff, reduceCtorEq, reduceIte, intD, renB_onB, hMAr, hMBr]; rfl))
   simp only [zN, seval, Nat.reduceLeDiff, Nat.reduceEqDiff, reduceCtorEq, reduceIte, intD, renV_onV, renB_onB, renV_undef, onV_f, onV_t, vf_t, vf_f]
   try rfl
  ·intro L hc hL hp
   have h9 : L 9 = false := nope hL fun h => predsL_on (hc 9 _ rfl h) 8 (by kernel_rfl)
   have h10 : L 10 = false := nope h9 fun h => predsL_on (hc 10 _ rfl h) 9 (by kernel_rfl)
   have h12 : L 12 = false := nope h10 fun h => predsL_on (hc 12 _ rfl h) 10 (by kernel_rfl)
   have h13 : L 13 = false := nope h12 fun h => predsL_on (hc 13 _ rfl h) 12 (by kernel_rfl)
   have h14 : L 14 = false := nope hL fun h => predsL_on (hc 14 _ rfl h) 8 (by kernel_rfl)
   (simp only [predsL, Region.binds, frB] at hp; (try simp only [Nat.zero_add, Nat.reduceAdd] at hL); simp only [zN, seval, Nat.reduceLeDiff, Nat.reduceEqDiff, reduceCtorEq, reduceIte, intD, hL, hp, h9, h10, h12, h13, h14, updB, frV, Bool.not_true, Bool.not_false, vf_t, vf_f])
   repeat ((with_reducible refine And.intro ?_ ?_); (focus (first | omega | (simp only [lenR]; omega) | (refine qq ?_; rfl) | (refine dq ?_; kernel_rfl) | (intros; simp_all; done))))
   refine weak_sub ?_
   simp only [zN, seval, Nat.reduceLeDiff, Nat.reduceEqDiff, reduceCtorEq, reduceIte, intD, onV_t, onV_f]
  ·intro L hc hL hp
   have h10 : L 10 = false := nope hL fun h => predsL_on (hc 10 _ rfl h) 9 (by kernel_rfl)
   have h12 : L 12 = false := nope h10 fun h => predsL_on (hc 12 _ rfl h) 10 (by kernel_rfl)
   have h13 : L 13 = false := nope h12 fun h => predsL_on (hc 13 _ rfl h) 12 (by kernel_rfl)
   have h14 : L 14 = false := nope hL fun h => predsL_on (hc 14 _ rfl h) 9 (by kernel_rfl)
   (simp only [predsL, Region.binds, frB] at hp; (try simp only [Nat.zero_add, Nat.reduceAdd] at hL); simp only [zN, seval, Nat.reduceLeDiff, Nat.reduceEqDiff, reduceCtorEq, reduceIte, intD, hL, hp, h10, h12, h13, h14, updB, frV, Bool.not_true, Bool.not_false, vf_t, vf_f])
   repeat ((with_reducible refine And.intro ?_ ?_); (focus (first | omega | (simp only [lenR]; omega) | (refine qq ?_; rfl) | (refine dq ?_; kernel_rfl) | (intros; simp_all; done))))
   refine weak_sub ?_
   simp only [zN, seval, Nat.reduceLeDiff, Nat.reduceEqDiff, reduceCtorEq, reduceIte, intD, onV_t, onV_f]
  ·intro L hc hL hp
   have h12 : L 12 = false := nope hL fun h => predsL_on (hc 12 _ rfl h) 10 (by kernel_rfl)
   have h13 : L 13 = false := nope h12 fun h => predsL_on (hc 13 _ rfl h) 12 (by kernel_rfl)
   have h14 : L 14 = false := nope hL fun h => predsL_on (hc 14 _ rfl h) 10 (by kernel_rfl)
   (simp only [predsL, Region.binds, frB] at hp; (try simp only [Nat.zero_add, Nat.reduceAdd] at hL); simp only [zN, seval, Nat.reduceLeDiff, Nat.reduceEqDiff, reduceCtorEq, reduceIte, intD, hL, hp, h12, h13, h14, updB, frV, Bool.not_true, Bool.not_false, vf_t, vf_f])
   simp only [zN, seval, Nat.reduceLeDiff, Nat.reduceEqDiff, reduceCtorEq, reduceIte, intD, mk_bools b.length (by omega), mkS_bools]
   repeat ((with_reducible refine And.intro ?_ ?_); (focus (first | omega | (simp only [lenR]; omega) | (refine qq ?_; rfl) | (refine dq ?_; kernel_rfl) | (intros; simp_all; done))))
   refine weak_to [] [0, 1, 2, 3, 7, 5, 6] rfl (by simp) ?_ (by first | (simp only [zN, seval, Nat.reduceLeDiff, Nat.reduceEqDiff, reduceCtorEq, reduceIte, intD, renB_onB, hMAr, hMBr]; done) | (simp only [zN, seval, Nat.reduceLeDiff, Nat.reduceEqDiff, reduceCtorEq, reduceIte, intD, renB_onB, hMAr, hMBr]; rfl))
   simp only [zN, seval, Nat.reduceLeDiff, Nat.reduceEqDiff, reduceCtorEq, reduceIte, intD, renV_onV, renB_onB, renV_undef, onV_f, onV_t, vf_t, vf_f, renV_vf _ _ (show idxIn [0, 1, 2, 3, 7, 5, 6] 6 = some 6 from rfl)]
   try rfl
  ·intro L hc hL hp
   have h12 : L 12 = false := nope hL fun h => predsL_on (hc 12 _ rfl h) 11 (by kernel_rfl)
   have h13 : L 13 = false := nope h12 fun h => predsL_on (hc 13 _ rfl h) 12 (by kernel_rfl)
   have h14 : L 14 = false := nope hL fun h => predsL_on (hc 14 _ rfl h) 11 (by kernel_rfl)
   (simp only [predsL, Region.binds, frB] at hp; (try simp only [Nat.zero_add, Nat.reduceAdd] at hL); simp only [zN, seval, Nat.reduceLeDiff, Nat.reduceEqDiff, reduceCtorEq, reduceIte, intD, hL, hp, h12, h13, h14, updB, frV, Bool.not_true, Bool.not_false, vf_t, vf_f])
   repeat ((with_reducible refine And.intro ?_ ?_); (focus (first | omega | (simp only [lenR]; omega) | (refine qq ?_; rfl) | (refine dq ?_; kernel_rfl) | (intros; simp_all; done))))
   refine weak_to [] [0, 1, 2, 3, 4, 7, 6] rfl (by simp) ?_ (by first | (simp only [zN, seval, Nat.reduceLeDiff, Nat.reduceEqDiff, reduceCtorEq, reduceIte, intD, renB_onB, hMAr, hMBr]; done) | (simp only [zN, seval, Nat.reduceLeDiff, Nat.reduceEqDiff, reduceCtorEq, reduceIte, intD, renB_onB, hMAr, hMBr]; rfl))
   simp only [zN, seval, Nat.reduceLeDiff, Nat.reduceEqDiff, reduceCtorEq, reduceIte, intD, renV_onV, renB_onB, renV_undef, onV_f, onV_t, vf_t, vf_f, renV_vf _ _ (show idxIn [0, 1, 2, 3, 4, 7, 6] 6 = some 6 from rfl)]
   try rfl
  ·intro L hc hL hp
   have h13 : L 13 = false := nope hL fun h => predsL_on (hc 13 _ rfl h) 12 (by kernel_rfl)
   have h14 : L 14 = false := nope hL fun h => predsL_on (hc 14 _ rfl h) 12 (by kernel_rfl)
   (simp only [predsL, Region.binds, frB] at hp; (try simp only [Nat.zero_add, Nat.reduceAdd] at hL); simp only [zN, seval, Nat.reduceLeDiff, Nat.reduceEqDiff, reduceCtorEq, reduceIte, intD, hL, hp, h13, h14, updB, frV, Bool.not_true, Bool.not_false, vf_t, vf_f])
   repeat ((with_reducible refine And.intro ?_ ?_); (focus (first | omega | (simp only [lenR]; omega) | (refine qq ?_; rfl) | (refine dq ?_; kernel_rfl) | (intros; simp_all; done))))
   refine weak_sub ?_
   simp only [zN, seval, Nat.reduceLeDiff, Nat.reduceEqDiff, reduceCtorEq, reduceIte, intD, onV_t, onV_f]
  ·intro L hc hL hp
   have h14 : L 14 = false := nope hL fun h => predsL_on (hc 14 _ rfl h) 13 (by kernel_rfl)
   (simp only [predsL, Region.binds, frB] at hp; (try simp only [Nat.zero_add, Nat.reduceAdd] at hL); simp only [zN, seval, Nat.reduceLeDiff, Nat.reduceEqDiff, reduceCtorEq, reduceIte, intD, hL, hp, h14, updB, frV, Bool.not_true, Bool.not_false, vf_t, vf_f])
   repeat ((with_reducible refine And.intro ?_ ?_); (focus (first | omega | (simp only [lenR]; omega) | (refine qq ?_; rfl) | (refine dq ?_; kernel_rfl) | (intros; simp_all; done))))
   refine weak_to [] [7, 1, 2, 3, 4, 5, 6] rfl (by simp) ?_ (by first | (simp only [zN, seval, Nat.reduceLeDiff, Nat.reduceEqDiff, reduceCtorEq, reduceIte, intD, renB_onB, hMAr, hMBr]; done) | (simp only [zN, seval, Nat.reduceLeDiff, Nat.reduceEqDiff, reduceCtorEq, reduceIte, intD, renB_onB, hMAr, hMBr]; rfl))
   simp only [zN, seval, Nat.reduceLeDiff, Nat.reduceEqDiff, reduceCtorEq, reduceIte, intD, renV_onV, renB_onB, renV_undef, onV_f, onV_t, vf_t, vf_f, renV_vf _ _ (show idxIn [7, 1, 2, 3, 4, 5, 6] 6 = some 6 from rfl)]
   try rfl
  ·intro L hc hL hp
   (simp only [predsL, Region.binds, frB] at hp; (try simp only [Nat.zero_add, Nat.reduceAdd] at hL); simp only [zN, seval, Nat.reduceLeDiff, Nat.reduceEqDiff, reduceCtorEq, reduceIte, intD, hL, hp, updB, frV, Bool.not_true, Bool.not_false, vf_t, vf_f])
   repeat ((with_reducible refine And.intro ?_ ?_); (focus (first | omega | (simp only [lenR]; omega) | (refine qq ?_; rfl) | (refine dq ?_; kernel_rfl) | (intros; simp_all; done))))
   refine weak_sub ?_
   simp only [zN, seval, Nat.reduceLeDiff, Nat.reduceEqDiff, reduceCtorEq, reduceIte, intD, onV_t, onV_f]
 ·simp only [zN, seval, Nat.reduceLeDiff, Nat.reduceEqDiff, reduceCtorEq, reduceIte, intD, onV_t, onB_t, onB_f, Bool.and_true, Bool.not_true, vf_t]
  repeat ((with_reducible refine And.intro ?_ ?_); (focus (first | omega | (simp only [lenR]; omega) | (refine qq ?_; rfl) | (refine dq ?_; kernel_rfl) | (intros; simp_all; done))))
  have est : [Blk.box 7 (.agg [.d (.sl (a.map NodeT.toD)), .mapr 1, .d (.sl (b.map NodeT.toD)), .mapr 2, .osl 3 0 a.length, .osl 4 0 b.length, .mapr 5]), MA, MB, .arr 1 ((List.replicate a.length (-1 : Int)).map (.int .i64)), .arr 1 (List.replicate b.length (.bool false)), .map (some .i64) fun _ => none, .dead] = stP a b (iniS a.length b.length) (fun _ => false) ++ [.dead] := by
   rw [hMA, hMB, stP, memM_none, tkB]
   simp [iniS]
  rw [est]
  have hg0 : Ge (iniS a.length b.length) := fun p => by rw [ini_b]; omega
  have hk := k_align (Gl := Gl) a b ha hb hca hcb (a.length + 1) (-1) (-1) (iniS a.length b.length) (fun _ => false) (by omega) (by omega) (by omega) (ini_sz a b) hg0
  refine callF_go ((onP1' hk (args := [.ptr 0 0, .d (.int .i64 (-1)), .d (.int .i64 (-1))]) rfl).mono fun r s hrs => ?_)
  obtain ⟨r0, s0, ⟨rfl, m1, rfl⟩, rfl, rfl⟩ := hrs
  rw [stP_back1']
  obtain ⟨t, ht⟩ : ∃ t, t = finS a b := ⟨_, rfl⟩
  have ht2 : alignF a b (a.length + 1) (-1) (-1) (iniS a.length b.length) = t := ht.symm
  have hzt : Sz a b t := by rw [ht]; exact sz_align _ _ _ (ini_sz a b)
  rw [ht2]
  obtain ⟨MM, hMM⟩ : ∃ MM : Blk, MM = .map (some .i64) (memM b m1) := ⟨_, rfl⟩
  have hMMr : ∀ ρ σ, renB ρ σ MM = MM := fun ρ σ => by rw [hMM, memM_ren]
  have est2 : stP a b t m1 ++ [.dead] = [Blk.box 7 (.agg [.d (.sl (a.map NodeT.toD)), .mapr 1, .d (.sl (b.map NodeT.toD)), .mapr 2, .osl 3 0 a.length, .osl 4 0 b.length, .mapr 5]), MA, MB, .arr 1 (t.toB.map (.int .i64)), .arr 1 (tkB t), MM, .dead] := by
   rw [hMA, hMB, hMM]; rfl
  rw [est2]
  clear est est2 hk ht2 hMM hMA hMB
  have hpo : pairsOf a b = pairsC t a.length b.length := by rw [pairsOf, ← ht]; rfl
  rw [hpo]
  simp only [zN, seval, Nat.reduceLeDiff, Nat.reduceEqDiff, reduceCtorEq, reduceIte, intD]
  repeat ((with_reducible refine And.intro ?_ ?_); (focus (first | omega | (simp only [lenR]; omega) | (refine qq ?_; rfl) | (refine dq ?_; kernel_rfl) | (intros; simp_all; done))))
  refine for_of a.length (fun j => [(7, .ptr 0 0), (8, .osl 7 0 (pairsA t j).length), (38, .osl 3 0 a.length), (39, .d (.int .i64 a.length)), (40, .d (.int .i64 j))]) (fun j => [.box 7 (.agg [.d (.sl (a.map NodeT.toD)), .mapr 1, .d (.sl (b.map NodeT.toD)), .mapr 2, .osl 3 0 a.length, .osl 4 0 b.length, .mapr 5]), MA, MB, .arr 1 (t.toB.map (.int .i64)), .arr 1 (tkB t), MM, .dead, .arr 2 ((pairsA t j).map PairT.toD)]) (fun _ => True) trivial ?_ ?_
  ·refine (weak_nils 8 2 rfl).trans ?_
   refine weak_to [] [0, 1, 2, 3, 4, 5, 6, 7] rfl (by simp) ?_ (by first | (simp only [zN, seval, Nat.reduceLeDiff, Nat.reduceEqDiff, reduceCtorEq, reduceIte, intD, hMAr, hMBr, hMMr]; done) | (simp only [zN, seval, Nat.reduceLeDiff, Nat.reduceEqDiff, reduceCtorEq, reduceIte, intD, hMAr, hMBr, hMMr]; rfl))
   simp only [zN, seval, Nat.reduceLeDiff, Nat.reduceEqDiff, reduceCtorEq, reduceIte, intD, Int.cast_ofNat_Int]
   try rfl
  ·intro j _ hjl
   have hlen := pairsA_len t j
   by_cases hj : j < a.length
   ·have hst := pairsA_step t j
    have gb := b_get (s := t) (p := j) (by rw [hzt.1]; exact hj)
    have hjt : j < t.toB.length := by rw [hzt.1]; exact hj
    have hsl : (pairsA t (j + 1)).length = (pairsA t j).length + 1 := by rw [hst]; simp
    have hm : (pairsA t (j + 1)).map PairT.toD = List.take (pairsA t j).length ((pairsA t j).map PairT.toD) ++ [.agg [.int .i64 j, .int .i64 (t.b j)]] := by
     rw [hst, List.map_append, take_all]; rfl
    simp only [zN, seval, Nat.reduceLeDiff, Nat.reduceEqDiff, reduceCtorEq, reduceIte, intD, (show (j:Int) < a.length by omega), gb, hjt]
    repeat ((with_reducible refine And.intro ?_ ?_); (focus (first | omega | (simp only [lenR]; omega) | (refine qq ?_; rfl) | (refine dq ?_; kernel_rfl) | (intros; simp_all; done))))
    rw [hsl, hm]
    refine weak_to [] [0, 1, 2, 3, 4, 5, 6, 9] rfl (by simp) ?_ (by first | (simp only [zN, seval, Nat.reduceLeDiff, Nat.reduceEqDiff, reduceCtorEq, reduceIte, intD, hMAr, hMBr, hMMr]; done) | (simp only [zN, seval, Nat.reduceLeDiff, Nat.reduceEqDiff, reduceCtorEq, reduceIte, intD, hMAr, hMBr, hMMr]; rfl))
    simp only [zN, seval, Nat.reduceLeDiff, Nat.reduceEqDiff, reduceCtorEq, reduceIte, intD, @a_wrap ((j:Int) + 1) (by omega)]
    try rfl
   ·have : j = a.length := by omega
    subst this
    simp only [zN, seval, Nat.reduceLeDiff, Nat.reduceEqDiff, reduceCtorEq, reduceIte, intD, (show ¬ (a.length:Int) < a.length by omega)]
    repeat ((with_reducible refine And.intro ?_ ?_); (focus (first | omega | (simp only [lenR]; omega) | (refine qq ?_; rfl) | (refine dq ?_; kernel_rfl) | (intros; simp_all; done))))
    refine for_of b.length (fun j => [(7, .ptr 0 0), (8, .osl 7 0 (pairsC t a.length j).length), (55, .osl 4 0 b.length), (56, .d (.int .i64 b.length)), (57, .d (.int .i64 j))]) (fun j => [.box 7 (.agg [.d (.sl (a.map NodeT.toD)), .mapr 1, .d (.sl (b.map NodeT.toD)), .mapr 2, .osl 3 0 a.length, .osl 4 0 b.length, .mapr 5]), MA, MB, .arr 1 (t.toB.map (.int .i64)), .arr 1 (tkB t), MM, .dead, .arr 2 ((pairsC t a.length j).map PairT.toD)]) (fun _ => True) trivial ?_ ?_
    ·refine weak_to [] [0, 1, 2, 3, 4, 5, 6, 7] rfl (by simp) ?_ ?_
     ·simp only [zN, seval, Nat.reduceLeDiff, Nat.reduceEqDiff, reduceCtorEq, reduceIte, intD, Int.cast_ofNat_Int, pairsC_0]
      try rfl
     ·rw [pairsC_0]
      (first | (simp only [zN, seval, Nat.reduceLeDiff, Nat.reduceEqDiff, reduceCtorEq, reduceIte, intD, hMAr, hMBr, hMMr]; done) | (simp only [zN, seval, Nat.reduceLeDiff, Nat.reduceEqDiff, reduceCtorEq, reduceIte, intD, hMAr, hMBr, hMMr]; rfl))
    ·intro j _ hjl
     have hlenC := pairsC_len t a.length j
     by_cases hj : j < b.length
     ·have hst := pairsC_step t a.length j
      have hjt : j < t.toA.length := by rw [hzt.2]; exact hj
      have ga := tkB_get (s := t) (q := j) hjt
      simp only [zN, seval, Nat.reduceLeDiff, Nat.reduceEqDiff, reduceCtorEq, reduceIte, intD, (show (j:Int) < b.length by omega), ga, hjt, tkB_len]
      repeat ((with_reducible refine And.intro ?_ ?_); (focus (first | omega | (simp only [lenR]; omega) | (refine qq ?_; rfl) | (refine dq ?_; kernel_rfl) | (intros; simp_all; done))))
      refine ifC.mk (fun h3 => ?_) (fun h3 => ?_)
      ·have h3 : t.a j < 0 := by
        have : ¬ 0 ≤ t.a j := by simpa using h3
        omega
       rw [if_pos h3] at hst
       have hsl : (pairsC t a.length (j + 1)).length = (pairsC t a.length j).length + 1 := by rw [hst]; simp
       have hm : (pairsC t a.length (j + 1)).map PairT.toD = List.take (pairsC t a.length j).length ((pairsC t a.length j).map PairT.toD) ++ [.agg [.int .i64 (-1), .int .i64 j]] := by
        rw [hst, List.map_append, take_all]; rfl
       (try simp only [zN, seval, Nat.reduceLeDiff, Nat.reduceEqDiff, reduceCtorEq, reduceIte, intD])
       repeat ((with_reducible refine And.intro ?_ ?_); (focus (first | omega | (simp only [lenR]; omega) | (refine qq ?_; rfl) | (refine dq ?_; kernel_rfl) | (intros; simp_all; done))))
       rw [hsl, hm]
       refine weak_to [] [0, 1, 2, 3, 4, 5, 6, 9] rfl (by simp) ?_ (by first | (simp only [zN, seval, Nat.reduceLeDiff, Nat.reduceEqDiff, reduceCtorEq, reduceIte, intD, hMAr, hMBr, hMMr]; done) | (simp only [zN, seval, Nat.reduceLeDiff, Nat.reduceEqDiff, reduceCtorEq, reduceIte, intD, hMAr, hMBr, hMMr]; rfl))
       simp only [zN, seval, Nat.reduceLeDiff, Nat.reduceEqDiff, reduceCtorEq, reduceIte, intD, @a_wrap ((j:Int) + 1) (by omega)]
       try rfl
      ·have h3 : ¬ t.a j < 0 := by
        have : 0 ≤ t.a j := by simpa using h3
        omega
       rw [if_neg h3] at hst
       repeat ((with_reducible refine And.intro ?_ ?_); (focus (first | omega | (simp only [lenR]; omega) | (refine qq ?_; rfl) | (refine dq ?_; kernel_rfl) | (intros; simp_all; done))))
       rw [hst]
       refine weak_to [] [0, 1, 2, 3, 4, 5, 6, 7] rfl (by simp) ?_ (by first | (simp only [zN, seval, Nat.reduceLeDiff, Nat.reduceEqDiff, reduceCtorEq, reduceIte, intD, hMAr, hMBr, hMMr]; done) | (simp only [zN, seval, Nat.reduceLeDiff, Nat.reduceEqDiff, reduceCtorEq, reduceIte, intD, hMAr, hMBr, hMMr]; rfl))
       simp only [zN, seval, Nat.reduceLeDiff, Nat.reduceEqDiff, reduceCtorEq, reduceIte, intD, @a_wrap ((j:Int) + 1) (by omega)]
       try rfl
     ·have : j = b.length := by omega
      subst this
      simp only [zN, seval, Nat.reduceLeDiff, Nat.reduceEqDiff, reduceCtorEq, reduceIte, intD, (show ¬ (b.length:Int) < b.length by omega)]
      refine ⟨_, _, ret_tdata rfl (x := .sl ((pairsC t a.length b.length).map PairT.toD)) ?_, rfl, rfl⟩
      show D.sl (List.take (pairsC t a.length b.length).length ((pairsC t a.length b.length).map PairT.toD)) = _
      rw [take_all]
 ·simp only [zN, seval, Nat.reduceLeDiff, Nat.reduceEqDiff, reduceCtorEq, reduceIte, intD]
  repeat ((with_reducible refine And.intro ?_ ?_); (focus (first | omega | (simp only [lenR]; omega) | (refine qq ?_; rfl) | (refine dq ?_; kernel_rfl) | (intros; simp_all; done))))
  refine callF_hat rfl (by kernel_rfl)

def rvL (xs : List (List UInt8)) (k : Nat) : List D := (List.range xs.length).map fun p => .str (if p < k ∨ xs.length ≤ p + k then xs.getD (xs.length - 1 - p) [] else xs.getD p [])

def upN (l : List NodeT) : Nat → Int → List (List UInt8)
 | 0, _ => []
 | f + 1, i => if 0 ≤ i then nm l i.toNat :: upN l f (par l i.toNat) else []
theorem upN_neg (l : List NodeT) (f : Nat) {i : Int} (h : i < 0) : upN l f i = [] := by
 cases f with
 | zero => rfl
 | succ f => rw [upN, if_neg (by omega)]
theorem upN_nat (l : List NodeT) (f i : Nat) : upN l (f + 1) i = nm l i :: upN l f (par l i) := by
 rw [upN, if_pos (by omega), Int.toNat_natCast]
theorem upN_fuel {l : List NodeT} (h : TreeUp l l.length) : ∀ (f g : Nat) (i : Int), i < l.length → i < f → i < g → upN l f i = upN l g i := by
 intro f
 induction f with
 | zero =>
  intro g i hi hf hg
  rw [upN_neg l _ (by omega), upN_neg l _ (by omega)]
 | succ f ih =>
  intro g i hi hf hg
  cases g with
  | zero => rw [upN_neg l _ (by omega), upN_neg l _ (by omega)]
  | succ g =>
   by_cases h0 : 0 ≤ i
   ·obtain ⟨k, rfl⟩ : ∃ k : Nat, i = k := ⟨i.toNat, by omega⟩
    have tp := tree_par h (show k < l.length by omega)
    rw [upN_nat, upN_nat, ih g (par l k) (by omega) (by omega) (by omega)]
   ·rw [upN_neg l _ (by omega), upN_neg l _ (by omega)]
theorem upN_len (l : List NodeT) : ∀ (f : Nat) (i : Int), (upN l f i).length ≤ f := by
 intro f
 induction f with
 | zero => intro i; exact Nat.le_refl _
 | succ f ih =>
  intro i
  rw [upN]
  split
  ·have := ih (par l i.toNat)
   simp only [List.length_cons]; omega
  ·simp
def pathN (l : List NodeT) (i : Nat) : List (List UInt8) := (upN l (i + 1) i).reverse
theorem pathN_len (l : List NodeT) (i : Nat) : (pathN l i).length ≤ i + 1 := by
 rw [pathN, List.length_reverse]; exact upN_len l _ _
def pathF (l : List NodeT) (i : Int) : List (List UInt8) := if checkF l = 0 ∧ 0 ≤ i ∧ i < l.length then pathN l i.toNat else []

def fdS (at_ : Int) (s : List UInt8) : Sto := [.box 1 (.d (.int .i64 at_)), .box 1 (.d (.str s))]
def pathI (l : List NodeT) (i : Int) : List (List UInt8) := (upN l (i + 1).toNat i).reverse
theorem pathI_nat (l : List NodeT) (i : Nat) : pathI l i = pathN l i := by
 rw [pathI, pathN, show ((i : Int) + 1).toNat = i + 1 by omega]
theorem pathI_neg (l : List NodeT) {i : Int} (h : i < 0) : pathI l i = [] := by rw [pathI, upN_neg l _ h]; rfl
theorem pathI_kid {l : List NodeT} (ht : TreeUp l l.length) {q : Nat} (hq : q < l.length) : pathI l q = pathI l (par l q) ++ [nm l q] := by
 have tp := tree_par ht hq
 rw [pathI_nat, pathN, upN_nat, List.reverse_cons, pathI, upN_fuel ht (par l q + 1).toNat q (par l q) (by omega) (by omega) (by omega)]
end YtmedpoeeoihfmaaGreatDoor
end Go.Proofs

namespace Go.Proofs
open Go.AM
namespace YtmedpoeeoihfmaaGreatDoor
theorem pathN_kid {l : List NodeT} (ht : TreeUp l l.length) {q : Nat} (hq : q < l.length) : pathN l q = pathI l (par l q) ++ [nm l q] := by
 rw [← pathI_nat]; exact pathI_kid ht hq
theorem of_ok {a b : List NodeT} (h : (ofF a b).2 = 0) : checkF a = 0 ∧ checkF b = 0 ∧ (ofF a b).1 = pairsOf a b := by
 unfold ofF at h ⊢
 by_cases h1 : checkF a = 0
 ·rw [if_pos h1] at h ⊢
  by_cases h2 : checkF b = 0
  ·rw [if_pos h2]; exact ⟨h1, h2, rfl⟩
  ·rw [if_neg h2] at h; exact absurd h h2
 ·rw [if_neg h1] at h; exact absurd h h1
def belP (l : List NodeT) (i k : Nat) : Bool := decide ((pathN l i).length < (pathN l k).length) && decide ((pathN l k).take (pathN l i).length = pathN l i)

theorem zF : type_of% (And.intro @vcRules (And.intro @dRules (And.intro @bRules (And.intro @tyRules (And.intro @xRules (And.intro @pickV_true (And.intro @pickV_false (And.intro @Int.natCast_add @Int.natCast_one)))))))) := And.intro @vcRules (And.intro @dRules (And.intro @bRules (And.intro @tyRules (And.intro @xRules (And.intro @pickV_true (And.intro @pickV_false (And.intro @Int.natCast_add @Int.natCast_one)))))))
variable {Gl : Globs}
def wN (N : Nat) : D := .agg [.int .u64 ((N / 18446744073709551616 : Nat) : Int), .int .u64 ((N % 18446744073709551616 : Nat) : Int)]
theorem wN_isAgg (N : Nat) : (wN N).isAgg = true := rfl
theorem wN_cells (N : Nat) : (wN N).cells = [.int .u64 ((N / 18446744073709551616 : Nat) : Int), .int .u64 ((N % 18446744073709551616 : Nat) : Int)] := rfl
def gD (m : Bool) (N : Nat) : D := .agg [.bool m, .int .u64 ((N / 18446744073709551616 : Nat) : Int), .int .u64 ((N % 18446744073709551616 : Nat) : Int)]
theorem gD_isAgg (m : Bool) (N : Nat) : (gD m N).isAgg = true := rfl
theorem gD_cells (m : Bool) (N : Nat) : (gD m N).cells = [.bool m, .int .u64 ((N / 18446744073709551616 : Nat) : Int), .int .u64 ((N % 18446744073709551616 : Nat) : Int)] := rfl
theorem wG : type_of% (And.intro @wN_isAgg (And.intro @wN_cells (And.intro @gD_isAgg (And.intro @gD_cells (@yRules))))) := And.intro @wN_isAgg (And.intro @wN_cells (And.intro @gD_isAgg (And.intro @gD_cells (@yRules))))
theorem wrapu (n : Int) : IntKind.u64.wrap n = n % 18446744073709551616 := IntKind.wrap_u64 n
theorem wN_eq {N : Nat} {a b : Int} (ha : a = (N / 18446744073709551616 : Nat)) (hb : b = (N % 18446744073709551616 : Nat)) : D.agg [.int .u64 a, .int .u64 b] = wN N := by subst ha; subst hb; rfl
theorem wN_small {b : Nat} (hb : b < 18446744073709551616) : D.agg [.int .u64 0, .int .u64 (b : Int)] = wN b := wN_eq (by omega) (by omega)
theorem c60 (M N : Nat) (h : M + N < 340282366920938463463374607431768211456) : Pure Tryz.prog Gl 100 [.d (wN M), .d (wN N)] (.d (wN (M + N))) := by
 refine Pure.of2 ?_
 refine acalls_of Tryz.func100 rfl rfl (by simp [Tryz.ntmps100]) (evC_sound rfl _ _ _ _ ?_)
 simp only [Tryz.ntmps100, Tryz.results100, argEnv, List.length_nil]
 simp only [zF, seval, Nat.reduceLeDiff, Nat.reduceEqDiff, reduceCtorEq, reduceIte, wG]
 repeat ((with_reducible refine And.intro ?_ ?_); (focus (first | omega | (simp only [lenR]; omega) | (refine qq ?_; rfl) | (refine dq ?_; kernel_rfl) | (intros; simp_all; done))))
 refine ifC.mk (fun hc => ?_) (fun hc => ?_)
 ·have hc : (((M % 18446744073709551616 : Nat) : Int) + ((N % 18446744073709551616 : Nat) : Int)) % 18446744073709551616 < ((M % 18446744073709551616 : Nat) : Int) := by simpa only [wrapu, decide_eq_true_eq] using hc
  refine ⟨_, _, ret_d, ?_, rfl⟩
  congr 1
  exact wN_eq (by simp only [wrapu]; omega) (by simp only [wrapu]; omega)
 ·have hc : ¬ (((M % 18446744073709551616 : Nat) : Int) + ((N % 18446744073709551616 : Nat) : Int)) % 18446744073709551616 < ((M % 18446744073709551616 : Nat) : Int) := by simpa only [wrapu, decide_eq_false_iff_not] using hc
  refine ⟨_, _, ret_d, ?_, rfl⟩
  congr 1
  exact wN_eq (by simp only [wrapu]; omega) (by simp only [wrapu]; omega)
theorem c62 (M N : Nat) (h : N ≤ M) (hM : M < 340282366920938463463374607431768211456) : Pure Tryz.prog Gl 102 [.d (wN M), .d (wN N)] (.d (wN (M - N))) := by
 refine Pure.of2 ?_
 refine acalls_of Tryz.func102 rfl rfl (by simp [Tryz.ntmps102]) (evC_sound rfl _ _ _ _ ?_)
 simp only [Tryz.ntmps102, Tryz.results102, argEnv, List.length_nil]
 simp only [zF, seval, Nat.reduceLeDiff, Nat.reduceEqDiff, reduceCtorEq, reduceIte, wG]
 repeat ((with_reducible refine And.intro ?_ ?_); (focus (first | omega | (simp only [lenR]; omega) | (refine qq ?_; rfl) | (refine dq ?_; kernel_rfl) | (intros; simp_all; done))))
 refine ifC.mk (fun hc => ?_) (fun hc => ?_)
 ·have hc : ((M % 18446744073709551616 : Nat) : Int) < ((N % 18446744073709551616 : Nat) : Int) := by simpa only [decide_eq_true_eq] using hc
  refine ⟨_, _, ret_d, ?_, rfl⟩
  congr 1
  exact wN_eq (by simp only [wrapu]; omega) (by simp only [wrapu]; omega)
 ·have hc : ¬ ((M % 18446744073709551616 : Nat) : Int) < ((N % 18446744073709551616 : Nat) : Int) := by simpa only [decide_eq_false_iff_not] using hc
  refine ⟨_, _, ret_d, ?_, rfl⟩
  congr 1
  exact wN_eq (by simp only [wrapu]; omega) (by simp only [wrapu]; omega)
theorem c61 (M N : Nat) : Pure Tryz.prog Gl 101 [.d (wN M), .d (wN N)] (.d (.bool (decide (M < N)))) := by
 refine Pure.of2 ?_
 refine acalls_of Tryz.func101 rfl rfl (by simp [Tryz.ntmps101]) (evC_sound rfl _ _ _ _ ?_)
 simp only [Tryz.ntmps101, Tryz.results101, argEnv, List.length_nil]
 simp only [zF, seval, Nat.reduceLeDiff, Nat.reduceEqDiff, reduceCtorEq, reduceIte, wG]
 refine ⟨_, _, ret_d, ?_, rfl⟩
 congr 2
 rw [Bool.eq_iff_iff]
 simp only [Bool.or_eq_true, Bool.and_eq_true, decide_eq_true_eq, beq_iff_eq]
 omega
theorem shrU (a b : Int) : intBin .shr .u64 a b = .int .u64 (a.fdiv (2 ^ (min b.toNat 64))) := rfl
theorem remU (a b : Int) : binD .rem (.int .u64 a) (.int .u64 b) = .int .u64 (a.tmod b) := rfl
theorem shr_nat (N i : Nat) (hi : i < 64) : ((N : Int).fdiv (2 ^ (min i 64))).tmod 2 = ((N / 2 ^ i % 2 : Nat) : Int) := by
 rw [show min i 64 = i by omega, Int.fdiv_eq_ediv_of_nonneg _ (by exact Int.le_of_lt (Int.pow_pos (by omega))), Int.tmod_eq_emod_of_nonneg]
 ·have : ((2 : Int) ^ i) = ((2 ^ i : Nat) : Int) := by simp
  rw [this, ← Int.natCast_ediv]
  omega
 ·exact Int.ediv_nonneg (by omega) (by exact Int.le_of_lt (Int.pow_pos (by omega)))
theorem c35 (n : Int) (h1 : -9223372036854775808 ≤ n) (h2 : n ≤ 9223372036854775807) : Pure Tryz.prog Gl 72 [.d (.int .i64 n)] (.d (.int .u64 (n.natAbs : Int))) := by
 refine Pure.of1 ?_
 refine acalls_of Tryz.func72 rfl rfl (by simp [Tryz.ntmps72]) (evC_sound rfl _ _ _ _ ?_)
 simp only [Tryz.ntmps72, Tryz.results72, argEnv, List.length_nil]
 simp only [zF, seval, Nat.reduceLeDiff, Nat.reduceEqDiff, reduceCtorEq, reduceIte, wG]
 refine ifC.mk (fun hc => ?_) (fun hc => ?_)
 ·have hc : n < 0 := by simpa using hc
  refine ⟨_, _, ret_d, ?_, rfl⟩
  congr 2
  rw [@a_wrap (n + 1) (by omega), @a_wrap (0 - (n + 1)) (by omega)]
  simp only [wrapu]; omega
 ·have hc : ¬ n < 0 := by simpa using hc
  refine ⟨_, _, ret_d, ?_, rfl⟩
  congr 2
  simp only [wrapu]; omega
theorem bit_step (b m : Nat) : b / 2 ^ m = 2 * (b / 2 ^ (m + 1)) + b / 2 ^ m % 2 := by
 have : b / 2 ^ (m + 1) = b / 2 ^ m / 2 := by rw [Nat.pow_succ, Nat.div_div_eq_div_mul]
 omega
theorem g_build (m : Bool) (N : Nat) : D.agg [.bool m, .int .u64 ((N / 18446744073709551616 : Nat) : Int), .int .u64 ((N % 18446744073709551616 : Nat) : Int)] = gD m N := rfl
def sumG (p q : Bool × Nat) : Bool × Nat := if p.1 = q.1 then (p.1, p.2 + q.2) else if p.2 < q.2 then (q.1, q.2 - p.2) else (p.1, p.2 - q.2)
def valG (p : Bool × Nat) : Int := if p.1 = true then -(p.2 : Int) else p.2
theorem valG_sum (p q : Bool × Nat) : valG (sumG p q) = valG p + valG q := by
 obtain ⟨m, M⟩ := p
 obtain ⟨n, N⟩ := q
 unfold sumG valG
 cases m <;> cases n <;> simp only [Bool.false_eq_true, Bool.true_eq_false, if_true, if_false] <;> (try split) <;> (try simp only [Bool.false_eq_true, if_true, if_false]) <;> omega
theorem sumG_le (p q : Bool × Nat) : (sumG p q).2 ≤ p.2 + q.2 := by
 unfold sumG; split
 ·simp
 ·split <;> simp only <;> omega
theorem mul_sign {n d : Int} (hd : 0 ≤ d) : valG (decide (n < 0), n.natAbs * d.natAbs) = n * d := by
 unfold valG
 have e : ((n.natAbs * d.natAbs : Nat) : Int) = (n.natAbs : Int) * d := by
  rw [Int.natCast_mul]; congr 1; omega
 by_cases h : n < 0
 ·simp only [decide_eq_true h, if_true]
  rw [e, ← Int.neg_mul]; congr 1; omega
 ·rw [decide_eq_false h]
  simp only [Bool.false_eq_true, if_false]
  rw [e]; congr 1; omega
end YtmedpoeeoihfmaaGreatDoor
end Go.Proofs
