/- A part of the proof: contracts of functions of this seat, and lemmas. No condition beyond those stated. -/
import Derived.Test.YtfmbadfdbjhekaaDoorWdnm
set_option linter.unusedVariables false
set_option linter.unusedSimpArgs false
set_option linter.unusedSectionVars false
set_option linter.unnecessarySimpa false
set_option maxRecDepth 100000
namespace Go.Proofs
open Go.AM
namespace YtfmbadfdbjhekaaDoor
variable {Gl : Globs}
def keyS (q : Nat) : Int := (q : Int) - 1
def gB (l : List NodeT) (k q : Nat) : Blk := if kidsN l (keyS q) k = [] then .dead else .arr 1 ((kidsN l (keyS q) k).map intD)
def slotS (p : Int) : Nat := 3 + (p + 1).toNat
def gM (l : List NodeT) (k : Nat) : Key → Option AV
 | .i p => if kidsN l p k = [] then none else some (.osl (slotS p) 0 (kidsN l p k).length)
 | .s _ => none
def gF (l : List NodeT) (k : Nat) : Nat → Blk
 | 0 => .box 2 (.agg [.nils, .d (.raw (.map none))])
 | 1 => .map (some .i64) (gM l k)
 | 2 => .box 2 (.agg [.d (.sl (l.map NodeT.toD)), .mapr 1])
 | q + 3 => gB l k q
def gS (l : List NodeT) (k : Nat) : Sto := (List.range (l.length + 4)).map (gF l k)
theorem gS_len (l : List NodeT) (k : Nat) : (gS l k).length = l.length + 4 := by simp [gS]
theorem gS_at (l : List NodeT) (k : Nat) {q : Nat} (h : q < l.length + 4) : blkAt (gS l k) q = gF l k q := by
 unfold blkAt gS
 simp [h]
def rk (q0 t q : Nat) : Nat := if q = q0 then t else q
def rkL (N q0 t : Nat) : List Nat := (List.range N).map (rk q0 t)
theorem rk_nodup {N q0 t : Nat} (h : N ≤ t ∨ N ≤ q0) : (rkL N q0 t).Nodup := by
 rw [rkL, List.nodup_iff_pairwise_ne, List.pairwise_map]
 refine List.Pairwise.imp_of_mem ?_ List.pairwise_lt_range
 intro a b ha hb hab
 have ha := List.mem_range.1 ha
 have hb := List.mem_range.1 hb
 unfold rk
 split <;> split <;> omega
theorem rk_len (N q0 t : Nat) : (rkL N q0 t).length = N := by simp [rkL]
theorem rk_getD {N q0 t j : Nat} (h : j < N) : (rkL N q0 t).getD j 0 = rk q0 t j := by simp [rkL, h]
theorem rk_idx {N q0 t j id : Nat} (hnd : N ≤ t ∨ N ≤ q0) (hj : j < N) (h : rk q0 t j = id) : idxIn (rkL N q0 t) id = some j := by
 rw [← h, ← rk_getD hj]
 exact idxIn_of (rk_nodup hnd) (by rw [rk_len]; exact hj)
theorem rk_renS {N q0 t : Nat} (σ : Sto) : renS (rkL N q0 t) σ = (List.range N).map fun q => renB (rkL N q0 t) σ (blkAt σ (rk q0 t q)) := by
 unfold renS rkL
 rw [List.map_map]; rfl
theorem gA_old (l : List NodeT) (k : Nat) (τ : Sto) {q : Nat} (h : q < l.length + 4) : blkAt (gS l k ++ τ) q = gF l k q := by
 rw [blkAt_append_old (by rw [gS_len]; exact h), gS_at l k h]
theorem gA_new (l : List NodeT) (k : Nat) (B : Blk) : blkAt (gS l k ++ [B]) (l.length + 4) = B := by
 have := blkAt_append_new (σ := gS l k) (B := B)
 rwa [gS_len] at this
theorem gA_set (l : List NodeT) (k : Nat) (B B' : Blk) : List.set (gS l k ++ [B]) (l.length + 4) B' = gS l k ++ [B'] := by
 rw [List.set_append_right _ _ (by rw [gS_len]; omega), gS_len, Nat.sub_self]; rfl
theorem kidsN_ne {l : List NodeT} (ht : TreeUp l l.length) {p : Int} {k : Nat} (hk : k ≤ l.length) (h : kidsN l p k ≠ []) : -1 ≤ p ∧ p < l.length := by
 obtain ⟨j, hj⟩ := List.exists_mem_of_ne_nil _ h
 rw [kidsN, List.mem_filter, List.mem_range] at hj
 have h2 : par l j = p := by simpa using hj.2
 have := tree_par ht (show j < l.length by omega)
 omega
theorem slot_lt {l : List NodeT} {p : Int} (h1 : -1 ≤ p) (h2 : p < l.length) : slotS p < l.length + 4 := by unfold slotS; omega
theorem slot_ne {p q : Int} (h1 : -1 ≤ p) (h2 : -1 ≤ q) (h : p ≠ q) : slotS p ≠ slotS q := by unfold slotS; omega
theorem gM_i (l : List NodeT) (k : Nat) (p : Int) : gM l k (.i p) = if kidsN l p k = [] then none else some (.osl (slotS p) 0 (kidsN l p k).length) := rfl
theorem grow_fin {l : List NodeT} (ht : TreeUp l l.length) {k : Nat} (hk : k < l.length) {p : Int} (hp : par l k = p) (b2 : Sto) (hlen : b2.length = l.length + 4)
  (h1 : blkAt b2 1 = .map (some .i64) (mset (gM l k) (.i p) (.osl (l.length + 4 + 2) 0 (kidsN l p (k + 1)).length)))
  (hq : ∀ q, q < l.length + 4 → q ≠ 1 → q ≠ slotS p → blkAt b2 q = gF l k q) (B A : Blk) :
  renS (rkL (l.length + 4) (slotS p) (l.length + 4 + 2)) (b2 ++ [B, A, .arr 1 ((kidsN l p (k + 1)).map intD)]) = gS l (k + 1) := by
 have tp := tree_par ht hk
 rw [hp] at tp
 have hsl : slotS p < l.length + 4 := slot_lt tp.1 (by omega)
 have hs3 : 3 ≤ slotS p := by unfold slotS; omega
 have hnd : l.length + 4 ≤ l.length + 4 + 2 ∨ l.length + 4 ≤ slotS p := .inl (by omega)
 have hold : ∀ q, q < l.length + 4 → blkAt (b2 ++ [B, A, .arr 1 ((kidsN l p (k + 1)).map intD)]) q = blkAt b2 q := fun q h => blkAt_append_old (by omega)
 have hnew : blkAt (b2 ++ [B, A, .arr 1 ((kidsN l p (k + 1)).map intD)]) (l.length + 4 + 2) = .arr 1 ((kidsN l p (k + 1)).map intD) := by
  unfold blkAt
  rw [List.getD_eq_getElem?_getD, List.getElem?_append_right (by omega), hlen]
  simp
 have i1 := rk_idx (j := 1) hnd (by omega) (show rk (slotS p) (l.length + 4 + 2) 1 = 1 from if_neg (by omega))
 have ip := rk_idx (j := slotS p) hnd hsl (show rk (slotS p) (l.length + 4 + 2) (slotS p) = l.length + 4 + 2 from if_pos rfl)
 rw [rk_renS, gS]
 refine rg_congr fun q hqn => ?_
 by_cases e1 : q = 1
 ·subst e1
  rw [show rk (slotS p) (l.length + 4 + 2) 1 = 1 from if_neg (by omega), hold 1 (by omega), h1]
  show Blk.map _ _ = Blk.map _ _
  congr 1
  funext key
  cases key with
  | i m =>
   by_cases em : m = p
   ·subst em
    have hne : kidsN l m (k + 1) ≠ [] := by rw [kidsN_step, if_pos hp]; simp
    rw [gM_i, if_neg hne]
    unfold mset
    rw [if_pos rfl]
    show some (renV _ _ (AV.osl _ _ _)) = _
    congr 1
    show ren0 _ _ (AV.osl _ _ _) = _
    simp only [ren0, ip]
   ·have hks : kidsN l m (k + 1) = kidsN l m k := by rw [kidsN_step, if_neg (by omega), List.append_nil]
    rw [gM_i, hks]
    unfold mset
    rw [if_neg (fun h => em (by cases h; rfl)), gM_i]
    by_cases hne : kidsN l m k = []
    ·rw [if_pos hne]; rfl
    ·rw [if_neg hne]
     obtain ⟨m1, m2⟩ := kidsN_ne ht (by omega) hne
     have im := rk_idx (j := slotS m) hnd (slot_lt m1 m2) (show rk (slotS p) (l.length + 4 + 2) (slotS m) = slotS m from if_neg (slot_ne m1 tp.1 em))
     show some (renV _ _ (AV.osl _ _ _)) = _
     congr 1
     show ren0 _ _ (AV.osl _ _ _) = _
     simp only [ren0, im]
  | s t => rfl
 ·by_cases e2 : q = slotS p
  ·subst e2
   rw [show rk (slotS p) (l.length + 4 + 2) (slotS p) = l.length + 4 + 2 from if_pos rfl, hnew]
   have es : slotS p = (p + 1).toNat + 3 := by unfold slotS; omega
   have ek : keyS (p + 1).toNat = p := by unfold keyS; omega
   have hne : kidsN l p (k + 1) ≠ [] := by rw [kidsN_step, if_pos hp]; simp
   show Blk.arr 1 _ = gF l (k + 1) (slotS p)
   rw [es]
   show _ = gB l (k + 1) (p + 1).toNat
   rw [gB, ek, if_neg hne]
  ·rw [show rk (slotS p) (l.length + 4 + 2) q = q from if_neg e2, hold q hqn, hq q hqn e1 e2]
   match q, e1, e2, hqn with
   | 0, _, _, _ => rfl
   | 1, h, _, _ => exact absurd rfl h
   | 2, _, _, _ =>
    show renB _ _ (Blk.box 2 (AV.agg [AV.d _, AV.mapr 1])) = Blk.box 2 (AV.agg [AV.d _, AV.mapr 1])
    simp only [renB, renV, ren0, List.map_cons, List.map_nil, i1]
    rfl
   | q + 3, _, e2, _ =>
    show renB _ _ (gB l k q) = gB l (k + 1) q
    have hks : kidsN l (keyS q) (k + 1) = kidsN l (keyS q) k := by
     rw [kidsN_step, if_neg (fun h => e2 (by unfold slotS keyS at *; omega)), List.append_nil]
    rw [gB, gB, hks]
    split <;> rfl
def SLs (b b1 b2 : Sto) (B5 A1 AN : Blk) (c10 c11 c12 : Bool) : Sto := if c12 = true then b2 ++ [B5, A1, AN] else if c11 = true then b1 ++ [B5, A1, AN] else if c10 = true then b ++ [B5, A1] else b ++ [B5]
theorem SLs_ttt (b b1 b2 : Sto) (B5 A1 AN : Blk) : SLs b b1 b2 B5 A1 AN true true true = b2 ++ [B5, A1, AN] := rfl
theorem SLs_fff (b b1 b2 : Sto) (B5 A1 AN : Blk) : SLs b b1 b2 B5 A1 AN false false false = b ++ [B5] := rfl
theorem SLs_tff (b b1 b2 : Sto) (B5 A1 AN : Blk) : SLs b b1 b2 B5 A1 AN true false false = b ++ [B5, A1] := rfl
theorem SLs_ttf (b b1 b2 : Sto) (B5 A1 AN : Blk) : SLs b b1 b2 B5 A1 AN true true false = b1 ++ [B5, A1, AN] := rfl
theorem SLs_old {b b1 b2 : Sto} {B5 A1 AN : Blk} {c10 c11 c12 : Bool} {N q : Nat} {X : Blk} (h0 : b.length = N) (h1 : b1.length = N) (h2 : b2.length = N) (hq : q < N) (g0 : blkAt b q = X) (g1 : blkAt b1 q = X) (g2 : c12 = true → blkAt b2 q = X) : blkAt (SLs b b1 b2 B5 A1 AN c10 c11 c12) q = X := by
 unfold SLs
 split
 ·rename_i h; rw [blkAt_append_old (by omega), g2 h]
 ·split
  ·rw [blkAt_append_old (by omega), g1]
  ·split <;> rw [blkAt_append_old (by omega), g0]
theorem SLs_new {b b1 b2 : Sto} {B5 A1 AN : Blk} {c10 c11 c12 : Bool} {N : Nat} (h0 : b.length = N) (h1 : b1.length = N) (h2 : b2.length = N) : blkAt (SLs b b1 b2 B5 A1 AN c10 c11 c12) N = B5 := by
 have g : ∀ (b τ : Sto), b.length = N → blkAt (b ++ B5 :: τ) N = B5 := fun b τ h => by
  unfold blkAt
  rw [List.getD_eq_getElem?_getD, List.getElem?_append_right (by omega), h]; simp
 unfold SLs
 split
 ·exact g _ _ h2
 ·split
  ·exact g _ _ h1
  ·split
   ·exact g _ _ h0
   ·exact g _ _ h0
theorem base_new {b τ : Sto} {N : Nat} (h : b.length = N) (i : Nat) : blkAt (b ++ τ) (N + i) = blkAt τ i := by
 unfold blkAt
 rw [List.getD_eq_getElem?_getD, List.getElem?_append_right (by omega), h, Nat.add_sub_cancel_left, List.getD_eq_getElem?_getD]
theorem base_set {b τ : Sto} {N q : Nat} (h : b.length = N) (hq : q < N) (B : Blk) : (b ++ τ).set q B = b.set q B ++ τ := List.set_append_left _ _ (by omega)
theorem app3 (b : Sto) (x y z : Blk) : b ++ [x, y] ++ [z] = b ++ [x, y, z] := by simp
theorem app2 (b : Sto) (x y : Blk) : b ++ [x] ++ [y] = b ++ [x, y] := by simp
def kidM (l : List NodeT) : Key → Option AV
 | .i p => if kids l p = [] then none else some (.d (.sl ((kids l p).map intD)))
 | .s _ => none
theorem kidM_still (l : List NodeT) : ∀ k v, kidM l k = some v → ∃ d, v = .d d := by
 intro k v h
 cases k with
 | i p =>
  simp only [kidM] at h
  split at h
  ·cases h
  ·cases h; exact ⟨_, rfl⟩
 | s t => cases h
theorem frL_len (σ : Sto) : ∀ L : List Nat, (freezeL σ L).length = σ.length := by
 intro L
 unfold freezeL
 induction L generalizing σ with
 | nil => rfl
 | cons i L ih => rw [List.foldl_cons, ih]; exact List.length_set ..
theorem grow_end {l : List NodeT} (ht : TreeUp l l.length) (σ : Sto) (hlen : σ.length = l.length + 4) (hat : ∀ q, 1 ≤ q → q < l.length + 4 → blkAt σ q = gF l l.length q) (xs : List D) :
  WeakR 0 (.agg [.d (.sl xs), .mapr 1]) σ (.agg [.d (.sl xs), .mapr 0]) [.map (some .i64) (kidM l)] := by
 have h1 : blkAt σ 1 = .map (some .i64) (gM l l.length) := hat 1 (by omega) (by omega)
 have hsl : ∀ p, kids l p ≠ [] → blkAt σ (slotS p) = .arr 1 ((kids l p).map intD) := fun p hp => by
  obtain ⟨p1, p2⟩ := kidsN_ne ht (Nat.le_refl _) (p := p) hp
  rw [hat _ (by unfold slotS; omega) (slot_lt p1 p2), show slotS p = (p + 1).toNat + 3 by unfold slotS; omega]
  show gB l l.length (p + 1).toNat = _
  rw [gB, show keyS (p + 1).toNat = p by unfold keyS; omega]
  exact if_neg hp
 obtain ⟨L, hL⟩ : ∃ L, L = ((List.range (l.length + 1)).filter fun q => !(kids l (keyS q)).isEmpty).map (fun q => 3 + q) := ⟨_, rfl⟩
 have hw := weak_mapD (n := 0) (m := σ.length) (env := []) (σ := σ) 1 L h1 (by omega) (fun k v hk => by
  cases k with
  | i p =>
   rw [gM_i] at hk
   by_cases hp : kids l p = []
   ·rw [if_pos (show kidsN l p l.length = [] from hp)] at hk; cases hk
   ·rw [if_neg (show ¬ kidsN l p l.length = [] from hp)] at hk
    cases hk
    obtain ⟨p1, p2⟩ := kidsN_ne ht (Nat.le_refl _) (p := p) hp
    refine ⟨by show (blkAt σ (slotS p)).isArr = true; rw [hsl p hp]; rfl, fun i hi => ?_⟩
    have hi : i = slotS p := by simpa [AV.refs, ref1] using hi
    rw [hi, hL]
    refine List.mem_map.2 ⟨(p + 1).toNat, List.mem_filter.2 ⟨List.mem_range.2 (by omega), ?_⟩, by unfold slotS; omega⟩
    rw [show keyS (p + 1).toNat = p by unfold keyS; omega]
    simpa using hp
  | s t => cases hk) (fun i hi => by
  rw [hL] at hi
  obtain ⟨q, hq, rfl⟩ := List.mem_map.1 hi
  obtain ⟨hq1, hq2⟩ := List.mem_filter.1 hq
  have hq1 := List.mem_range.1 hq1
  have : kids l (keyS q) ≠ [] := by simpa using hq2
  have h3 := hsl _ this
  rw [show slotS (keyS q) = 3 + q by unfold slotS keyS; omega] at h3
  rw [h3]; rfl)
 refine (weakR_of hw).trans (weakR_to [] [1] rfl (by simp) rfl ?_)
 show [renB [1] _ (blkAt ((freezeL σ L).set 1 _) 1)] = _
 rw [blkAt_set_self (by rw [frL_len]; omega)]
 congr 1
 show Blk.map _ _ = Blk.map _ _
 congr 1
 funext k
 cases k with
 | i p =>
  show Option.map _ (Option.map _ (gM l l.length (.i p))) = _
  rw [gM_i]
  by_cases hp : kids l p = []
  ·rw [if_pos (show kidsN l p l.length = [] from hp), kidM, if_pos hp]; rfl
  ·rw [if_neg (show ¬ kidsN l p l.length = [] from hp), kidM, if_neg hp]
   show some (AV.d (D.sl (((blkAt σ (slotS p)).xs.drop 0).take (kids l p).length))) = _
   rw [hsl p hp]
   show some (AV.d (D.sl (List.take (kids l p).length ((kids l p).map intD)))) = _
   rw [take_all]
 | s t => rfl
theorem k_grow (l : List NodeT) (hl : l.length ≤ 2000) (ht : TreeUp l l.length) : ACalls Tryd.prog Gl 26 [.d (.sl (l.map NodeT.toD))] []
  (fun r s => r = .agg [.d (.sl (l.map NodeT.toD)), .mapr 0] ∧ s = [.map (some .i64) (kidM l)]) := by
 refine acalls_of Tryd.func26 rfl rfl (by simp [Tryd.ntmps26]) (evC_sound rfl _ _ _ _ ?_)
 simp only [Tryd.ntmps26, Tryd.results26, argEnv, List.length_nil]
 simp only [zN, seval, implies_true, Nat.reduceLeDiff, Nat.reduceEqDiff, reduceCtorEq, reduceIte, intD]
 repeat ((with_reducible refine And.intro ?_ ?_); (focus (first | omega | (simp only [lenR]; omega) | (refine qq ?_; rfl) | (refine dq ?_; kernel_rfl) | (intros; simp_all; done))))
 refine for_of l.length (fun k => [(3, .ptr 2 0), (9, .d (.sl (l.map NodeT.toD))), (10, .d (.int .i64 l.length)), (11, .d (.int .i64 k)), (2, .ptr 0 0)]) (fun k => gS l k) (fun _ => True) trivial ?_ ?_
 ·have h9 : l.length + 4 ≤ 9 + l.length ∨ l.length + 4 ≤ 9 + l.length := .inl (by omega)
  have i0 := rk_idx (j := 0) h9 (by omega) (show rk _ _ 0 = 0 from if_neg (by omega))
  have i1 := rk_idx (j := 1) h9 (by omega) (show rk _ _ 1 = 1 from if_neg (by omega))
  have i2 := rk_idx (j := 2) h9 (by omega) (show rk _ _ 2 = 2 from if_neg (by omega))
  refine weak_to [] (rkL (l.length + 4) (9 + l.length) (9 + l.length)) rfl (rk_nodup h9) ?_ ?_
  ·simp only [zN, seval, implies_true, Nat.reduceLeDiff, Nat.reduceEqDiff, reduceCtorEq, reduceIte, intD, i0, i1, i2, Int.cast_ofNat_Int]
   done
  ·rw [rk_renS, gS]
   refine rg_congr fun q hq => ?_
   rw [show rk (9 + l.length) (9 + l.length) q = q from if_neg (by omega)]
   match q with
   | 0 => rfl
   | 1 => 
    show Blk.map _ _ = Blk.map _ _
    congr 1
    funext k
    cases k <;> rfl
   | 2 => 
    have e : blkAt (freezeL [Blk.box 2 (AV.agg [AV.nils, AV.d (D.raw (Value.map none))]), Blk.map (some IntKind.i64) (fun x => none), Blk.box 2 (AV.agg [AV.d (D.sl (List.map NodeT.toD l)), AV.mapr 1])] []) 2 = Blk.box 2 (AV.agg [AV.d (D.sl (List.map NodeT.toD l)), AV.mapr 1]) := rfl
    rw [e]
    simp only [renB, renV, ren0, List.map_cons, List.map_nil, i1]
    rfl
   | q + 3 => rfl
 ·intro k _ hk
  by_cases h : k < l.length
  ·obtain ⟨x, hx⟩ : ∃ x, x = l.getD k default := ⟨_, rfl⟩
   have ep : par l k = x.parent := by rw [hx]; rfl
   have eg : (l.map NodeT.toD).getD k default = x.toD := by rw [a_getD _ _ _ h, ← hx]
   have hb2 : ∀ τ, blkAt (gS l k ++ τ) 2 = .box 2 (.agg [.d (.sl (l.map NodeT.toD)), .mapr 1]) := fun τ => gA_old l k τ (by omega)
   have hb1 : ∀ τ, blkAt (gS l k ++ τ) 1 = .map (some .i64) (gM l k) := fun τ => gA_old l k τ (by omega)
   have hlN := gS_len l k
   have tp := tree_par ht h
   rw [ep] at tp
   have hsl : slotS x.parent < l.length + 4 := slot_lt tp.1 (by omega)
   have hs3 : 3 ≤ slotS x.parent := by unfold slotS; omega
   have hks : kidsN l x.parent (k + 1) = kidsN l x.parent k ++ [k] := by rw [kidsN_step, if_pos ep]
   have hkl : (kidsN l x.parent (k + 1)).length = (kidsN l x.parent k).length + 1 := by rw [hks]; simp
   have hkn := kidsN_len l x.parent k
   have hnd : l.length + 4 ≤ l.length + 4 + 2 ∨ l.length + 4 ≤ slotS x.parent := .inl (by omega)
   have i0 := rk_idx (j := 0) hnd (by omega) (show rk (slotS x.parent) (l.length + 4 + 2) 0 = 0 from if_neg (by omega))
   have i1 := rk_idx (j := 1) hnd (by omega) (show rk (slotS x.parent) (l.length + 4 + 2) 1 = 1 from if_neg (by omega))
   have i2 := rk_idx (j := 2) hnd (by omega) (show rk (slotS x.parent) (l.length + 4 + 2) 2 = 2 from if_neg (by omega))
   simp only [zN, seval, implies_true, Nat.reduceLeDiff, Nat.reduceEqDiff, reduceCtorEq, reduceIte, intD, (show (k:Int) < l.length by omega), h, eg, gS_len, hb2, hb1, gA_new, gA_set]
   by_cases hp0 : kidsN l x.parent k = []
   ·obtain ⟨b1, hb1e⟩ : ∃ b1, b1 = gS l k := ⟨_, rfl⟩
    obtain ⟨b2, hb2e⟩ : ∃ b2, b2 = (gS l k).set 1 (.map (some .i64) (mset (gM l k) (.i x.parent) (.osl (l.length + 4 + 2) 0 (kidsN l x.parent (k + 1)).length))) := ⟨_, rfl⟩
    have hl1 : b1.length = l.length + 4 := by rw [hb1e, hlN]
    have hl2 : b2.length = l.length + 4 := by rw [hb2e, List.length_set, hlN]
    have hb2m : blkAt b2 1 = .map (some .i64) (mset (gM l k) (.i x.parent) (.osl (l.length + 4 + 2) 0 (kidsN l x.parent (k + 1)).length)) := by rw [hb2e]; exact blkAt_set_self (by omega)
    have hq2 : ∀ q, q < l.length + 4 → q ≠ 1 → q ≠ slotS x.parent → blkAt b2 q = gF l k q := fun q h1 h2 _ => by rw [hb2e, blkAt_set_ne (Ne.symm h2), gS_at l k h1]
    have hgm : gM l k (.i x.parent) = none := by rw [gM_i, if_pos hp0]
    have hbn0 : ∀ τ i, blkAt (gS l k ++ τ) (l.length + 4 + i) = blkAt τ i := fun τ i => base_new hlN i
    have hbn1 : ∀ τ i, blkAt (b1 ++ τ) (l.length + 4 + i) = blkAt τ i := fun τ i => base_new hl1 i
    have hb1e1 : ∀ τ, blkAt (b1 ++ τ) 1 = .map (some .i64) (gM l k) := fun τ => by rw [hb1e]; exact hb1 τ
    have hb2s : ∀ τ, (b1 ++ τ).set 1 (.map (some .i64) (mset (gM l k) (.i x.parent) (.osl (l.length + 4 + 2) 0 1))) = b2 ++ τ := fun τ => by rw [base_set hl1 (by omega), hb2e, hb1e, hkl, hp0]; rfl
    have hAN : Blk.arr 1 ((kidsN l x.parent (k + 1)).map intD) = .arr 1 [.int .i64 k] := by rw [hks, hp0]; rfl
    have f2 : ∀ c10 c11 c12, blkAt (SLs (gS l k) b1 b2 (.box 5 (.d x.toD)) (.arr 1 [.int .i64 k]) (.arr 1 ((kidsN l x.parent (k + 1)).map intD)) c10 c11 c12) 2 = .box 2 (.agg [.d (.sl (l.map NodeT.toD)), .mapr 1]) := fun c10 c11 c12 => SLs_old hlN hl1 hl2 (by omega) (gS_at l k (by omega)) (by rw [hb1e]; exact gS_at l k (by omega)) (fun _ => hq2 2 (by omega) (by omega) (by omega))
    have fN : ∀ c10 c11 c12, blkAt (SLs (gS l k) b1 b2 (.box 5 (.d x.toD)) (.arr 1 [.int .i64 k]) (.arr 1 ((kidsN l x.parent (k + 1)).map intD)) c10 c11 c12) (l.length + 4) = .box 5 (.d x.toD) := fun c10 c11 c12 => SLs_new hlN hl1 hl2
    have f1 : ∀ c10 c11, blkAt (SLs (gS l k) b1 b2 (.box 5 (.d x.toD)) (.arr 1 [.int .i64 k]) (.arr 1 ((kidsN l x.parent (k + 1)).map intD)) c10 c11 false) 1 = .map (some .i64) (gM l k) := fun c10 c11 => SLs_old hlN hl1 hl2 (by omega) (gS_at l k (by omega)) (by rw [hb1e]; exact gS_at l k (by omega)) (fun h => by cases h)
    refine ⟨.inr (.inr (.inr (evFree_can
     (fun L => [(27, onV (L 11) (.osl (l.length + 4 + 2) 0 (kidsN l x.parent (k + 1)).length)), (26, onV (L 10) (.osl (l.length + 4 + 1) 0 1)), (25, onV (L 9) (.d (.int .i64 k))), (24, onV (L 8) .nils), (23, onV (L 7) (.d (.int .i64 x.parent))), (22, onV (L 6) (.ptr (l.length + 4) 0)), (21, onV (L 5) (.mapr 1)), (20, onV (L 4) (.ptr 2 1)), (19, onV (L 3) (.d (.int .i64 x.parent))), (18, onV (L 2) (.ptr (l.length + 4) 0)), (17, onV (L 1) (.mapr 1)), (16, onV (L 0) (.ptr 2 1)),
      (3, .ptr 2 0), (9, .d (.sl (l.map NodeT.toD))), (10, .d (.int .i64 l.length)), (11, .d (.int .i64 k)), (2, .ptr 0 0), (4, .d (.int .i64 k)), (5, .ptr (l.length + 4) 0)])
     (fun L => SLs (gS l k) b1 b2 (.box 5 (.d x.toD)) (.arr 1 [.int .i64 k]) (.arr 1 ((kidsN l x.parent (k + 1)).map intD)) (L 10) (L 11) (L 12)) (by kernel_rfl) ?_ ?_ ?_))), ?_⟩
    ·refine weak_sub ?_
     rfl
    ·simp only [stepsL]
     refine ⟨?_, ?_, ?_, ?_, ?_, ?_, ?_, ?_, ?_, ?_, ?_, ?_, ?_, trivial⟩
     ·intro L hc hL hp
      (simp only [predsL, Region.binds, md_any, Bool.false_eq_true, false_imp_iff, true_imp_iff, and_true, true_and] at hp; (try simp only [Nat.zero_add, Nat.reduceAdd] at hL); simp only [zN, seval, implies_true, Nat.reduceLeDiff, Nat.reduceEqDiff, reduceCtorEq, reduceIte, intD, hL, hp, onV_t, onV_f, updB, f2, fN, gS_len])
      refine weak_sub ?_
      simp only [zN, seval, implies_true, Nat.reduceLeDiff, Nat.reduceEqDiff, reduceCtorEq, reduceIte, intD, onV_t, onV_f]
     ·intro L hc hL hp
      (simp only [predsL, Region.binds, md_any, Bool.false_eq_true, false_imp_iff, true_imp_iff, and_true, true_and] at hp; (try simp only [Nat.zero_add, Nat.reduceAdd] at hL); simp only [zN, seval, implies_true, Nat.reduceLeDiff, Nat.reduceEqDiff, reduceCtorEq, reduceIte, intD, hL, hp, onV_t, onV_f, updB, f2, fN, gS_len])
      refine weak_sub ?_
      simp only [zN, seval, implies_true, Nat.reduceLeDiff, Nat.reduceEqDiff, reduceCtorEq, reduceIte, intD, onV_t, onV_f]
     ·intro L hc hL hp
      (simp only [predsL, Region.binds, md_any, Bool.false_eq_true, false_imp_iff, true_imp_iff, and_true, true_and] at hp; (try simp only [Nat.zero_add, Nat.reduceAdd] at hL); simp only [zN, seval, implies_true, Nat.reduceLeDiff, Nat.reduceEqDiff, reduceCtorEq, reduceIte, intD, hL, hp, onV_t, onV_f, updB, f2, fN, gS_len])
      refine weak_sub ?_
      simp only [zN, seval, implies_true, Nat.reduceLeDiff, Nat.reduceEqDiff, reduceCtorEq, reduceIte, intD, onV_t, onV_f]
     ·intro L hc hL hp
      (simp only [predsL, Region.binds, md_any, Bool.false_eq_true, false_imp_iff, true_imp_iff, and_true, true_and] at hp; (try simp only [Nat.zero_add, Nat.reduceAdd] at hL); simp only [zN, seval, implies_true, Nat.reduceLeDiff, Nat.reduceEqDiff, reduceCtorEq, reduceIte, intD, hL, hp, onV_t, onV_f, updB, f2, fN, gS_len])
      refine weak_sub ?_
      simp only [zN, seval, implies_true, Nat.reduceLeDiff, Nat.reduceEqDiff, reduceCtorEq, reduceIte, intD, onV_t, onV_f]
     ·intro L hc hL hp
      (simp only [predsL, Region.binds, md_any, Bool.false_eq_true, false_imp_iff, true_imp_iff, and_true, true_and] at hp; (try simp only [Nat.zero_add, Nat.reduceAdd] at hL); simp only [zN, seval, implies_true, Nat.reduceLeDiff, Nat.reduceEqDiff, reduceCtorEq, reduceIte, intD, hL, hp, onV_t, onV_f, updB, f2, fN, gS_len])
      refine weak_sub ?_
      simp only [zN, seval, implies_true, Nat.reduceLeDiff, Nat.reduceEqDiff, reduceCtorEq, reduceIte, intD, onV_t, onV_f]
     ·intro L hc hL hp
      (simp only [predsL, Region.binds, md_any, Bool.false_eq_true, false_imp_iff, true_imp_iff, and_true, true_and] at hp; (try simp only [Nat.zero_add, Nat.reduceAdd] at hL); simp only [zN, seval, implies_true, Nat.reduceLeDiff, Nat.reduceEqDiff, reduceCtorEq, reduceIte, intD, hL, hp, onV_t, onV_f, updB, f2, fN, gS_len])
      refine weak_sub ?_
      simp only [zN, seval, implies_true, Nat.reduceLeDiff, Nat.reduceEqDiff, reduceCtorEq, reduceIte, intD, onV_t, onV_f]
     ·intro L hc hL hp
      (simp only [predsL, Region.binds, md_any, Bool.false_eq_true, false_imp_iff, true_imp_iff, and_true, true_and] at hp; (try simp only [Nat.zero_add, Nat.reduceAdd] at hL); simp only [zN, seval, implies_true, Nat.reduceLeDiff, Nat.reduceEqDiff, reduceCtorEq, reduceIte, intD, hL, hp, onV_t, onV_f, updB, f2, fN, gS_len])
      refine weak_sub ?_
      simp only [zN, seval, implies_true, Nat.reduceLeDiff, Nat.reduceEqDiff, reduceCtorEq, reduceIte, intD, onV_t, onV_f]
     ·intro L hc hL hp
      (simp only [predsL, Region.binds, md_any, Bool.false_eq_true, false_imp_iff, true_imp_iff, and_true, true_and] at hp; (try simp only [Nat.zero_add, Nat.reduceAdd] at hL); simp only [zN, seval, implies_true, Nat.reduceLeDiff, Nat.reduceEqDiff, reduceCtorEq, reduceIte, intD, hL, hp, onV_t, onV_f, updB, f2, fN, gS_len])
      refine weak_sub ?_
      simp only [zN, seval, implies_true, Nat.reduceLeDiff, Nat.reduceEqDiff, reduceCtorEq, reduceIte, intD, onV_t, onV_f]
     ·intro L hc hL hp
      have h12 : L 12 = false := nope hL fun h => predsL_on (hc 12 _ rfl h) 8 (by kernel_rfl)
      (simp only [predsL, Region.binds, md_any, Bool.false_eq_true, false_imp_iff, true_imp_iff, and_true, true_and] at hp; (try simp only [Nat.zero_add, Nat.reduceAdd] at hL); simp only [zN, seval, implies_true, Nat.reduceLeDiff, Nat.reduceEqDiff, reduceCtorEq, reduceIte, intD, hL, hp, onV_t, onV_f, updB, f2, fN, gS_len])
      simp only [zN, seval, implies_true, Nat.reduceLeDiff, Nat.reduceEqDiff, reduceCtorEq, reduceIte, intD, h12, f1, hgm, getD_none]
      refine weak_sub ?_
      simp only [zN, seval, implies_true, Nat.reduceLeDiff, Nat.reduceEqDiff, reduceCtorEq, reduceIte, intD, onV_t, onV_f]
     ·intro L hc hL hp
      (simp only [predsL, Region.binds, md_any, Bool.false_eq_true, false_imp_iff, true_imp_iff, and_true, true_and] at hp; (try simp only [Nat.zero_add, Nat.reduceAdd] at hL); simp only [zN, seval, implies_true, Nat.reduceLeDiff, Nat.reduceEqDiff, reduceCtorEq, reduceIte, intD, hL, hp, onV_t, onV_f, updB, f2, fN, gS_len])
      refine weak_sub ?_
      simp only [zN, seval, implies_true, Nat.reduceLeDiff, Nat.reduceEqDiff, reduceCtorEq, reduceIte, intD, onV_t, onV_f]
     ·intro L hc hL hp
      have h11 : L 11 = false := nope hL fun h => predsL_on (hc 11 _ rfl h) 10 (by kernel_rfl)
      have h12 : L 12 = false := nope hL fun h => predsL_on (hc 12 _ rfl h) 10 (by kernel_rfl)
      (simp only [predsL, Region.binds, md_any, Bool.false_eq_true, false_imp_iff, true_imp_iff, and_true, true_and] at hp; (try simp only [Nat.zero_add, Nat.reduceAdd] at hL); simp only [zN, seval, implies_true, Nat.reduceLeDiff, Nat.reduceEqDiff, reduceCtorEq, reduceIte, intD, hL, hp, onV_t, onV_f, updB, f2, fN, gS_len])
      simp only [zN, seval, implies_true, Nat.reduceLeDiff, Nat.reduceEqDiff, reduceCtorEq, reduceIte, intD, h11, h12, onV_f, SLs_fff, SLs_tff, SLs_ttf, SLs_ttt, List.length_append, gS_len, hl1, hl2, app2, app3, hbn0, hbn1, hb1e1, hb2s, hks, hp0, hkl]
      refine weak_sub ?_
      simp only [zN, seval, implies_true, Nat.reduceLeDiff, Nat.reduceEqDiff, reduceCtorEq, reduceIte, intD, onV_t, onV_f]
     ·intro L hc hL hp
      have h12 : L 12 = false := nope hL fun h => predsL_on (hc 12 _ rfl h) 11 (by kernel_rfl)
      (simp only [predsL, Region.binds, md_any, Bool.false_eq_true, false_imp_iff, true_imp_iff, and_true, true_and] at hp; (try simp only [Nat.zero_add, Nat.reduceAdd] at hL); simp only [zN, seval, implies_true, Nat.reduceLeDiff, Nat.reduceEqDiff, reduceCtorEq, reduceIte, intD, hL, hp, onV_t, onV_f, updB, f2, fN, gS_len])
      simp only [zN, seval, implies_true, Nat.reduceLeDiff, Nat.reduceEqDiff, reduceCtorEq, reduceIte, intD, h12, onV_f, SLs_fff, SLs_tff, SLs_ttf, SLs_ttt, List.length_append, gS_len, hl1, hl2, app2, app3, hbn0, hbn1, hb1e1, hb2s, hks, hp0, hkl]
      repeat ((with_reducible refine And.intro ?_ ?_); (focus (first | omega | (simp only [lenR]; omega) | (refine qq ?_; rfl) | (refine dq ?_; kernel_rfl) | (intros; simp_all; done))))
      rw [hb1e]
      refine weak_sub ?_
      simp only [zN, seval, implies_true, Nat.reduceLeDiff, Nat.reduceEqDiff, reduceCtorEq, reduceIte, intD, onV_t, onV_f]
     ·intro L hc hL hp
      (simp only [predsL, Region.binds, md_any, Bool.false_eq_true, false_imp_iff, true_imp_iff, and_true, true_and] at hp; (try simp only [Nat.zero_add, Nat.reduceAdd] at hL); simp only [zN, seval, implies_true, Nat.reduceLeDiff, Nat.reduceEqDiff, reduceCtorEq, reduceIte, intD, hL, hp, onV_t, onV_f, updB, f2, fN, gS_len])
      simp only [zN, seval, implies_true, Nat.reduceLeDiff, Nat.reduceEqDiff, reduceCtorEq, reduceIte, intD, SLs_fff, SLs_tff, SLs_ttf, SLs_ttt, List.length_append, gS_len, hl1, hl2, app2, app3, hbn0, hbn1, hb1e1, hb2s, hks, hp0, hkl]
      repeat ((with_reducible refine And.intro ?_ ?_); (focus (first | omega | (simp only [lenR]; omega) | (refine qq ?_; rfl) | (refine dq ?_; kernel_rfl) | (intros; simp_all; done))))
      refine weak_sub ?_
      simp only [zN, seval, implies_true, Nat.reduceLeDiff, Nat.reduceEqDiff, reduceCtorEq, reduceIte, intD, onV_t, onV_f]
    ·simp only [zN, seval, implies_true, Nat.reduceLeDiff, Nat.reduceEqDiff, reduceCtorEq, reduceIte, intD, onV_t, SLs_fff, SLs_tff, SLs_ttf, SLs_ttt, List.length_append, gS_len, hl1, hl2, app2, app3, hbn0, hbn1, hb1e1, hb2s, hks, hp0, hkl]
     have hren := grow_fin ht h ep b2 hl2 hb2m hq2 (.box 5 (.d x.toD)) (.arr 1 [.int .i64 k])
     rw [hAN] at hren
     refine weak_to [] (rkL (l.length + 4) (slotS x.parent) (l.length + 4 + 2)) rfl (rk_nodup (.inl (by omega))) ?_ hren
     simp only [zN, seval, implies_true, Nat.reduceLeDiff, Nat.reduceEqDiff, reduceCtorEq, reduceIte, intD, i0, i1, i2, @a_wrap ((k:Int) + 1) (by omega)]
    ·simp only [zN, seval, implies_true, Nat.reduceLeDiff, Nat.reduceEqDiff, reduceCtorEq, reduceIte, intD, SLs_fff, SLs_tff, SLs_ttf, SLs_ttt, List.length_append, gS_len, hl1, hl2, app2, app3, hbn0, hbn1, hb1e1, hb2s, hks, hp0, hkl, hgm, getD_none]
     repeat ((with_reducible refine And.intro ?_ ?_); (focus (first | omega | (simp only [lenR]; omega) | (refine qq ?_; rfl) | (refine dq ?_; kernel_rfl) | (intros; simp_all; done))))
     rw [← hb1e]
     simp only [zN, seval, implies_true, Nat.reduceLeDiff, Nat.reduceEqDiff, reduceCtorEq, reduceIte, intD, SLs_fff, SLs_tff, SLs_ttf, SLs_ttt, List.length_append, gS_len, hl1, hl2, app2, app3, hbn0, hbn1, hb1e1, hb2s, hks, hp0, hkl]
     repeat ((with_reducible refine And.intro ?_ ?_); (focus (first | omega | (simp only [lenR]; omega) | (refine qq ?_; rfl) | (refine dq ?_; kernel_rfl) | (intros; simp_all; done))))
     have hren := grow_fin ht h ep b2 hl2 hb2m hq2 (.box 5 (.d x.toD)) (.arr 1 [.int .i64 k])
     rw [hAN] at hren
     refine weak_to [] (rkL (l.length + 4) (slotS x.parent) (l.length + 4 + 2)) rfl (rk_nodup (.inl (by omega))) ?_ hren
     simp only [zN, seval, implies_true, Nat.reduceLeDiff, Nat.reduceEqDiff, reduceCtorEq, reduceIte, intD, i0, i1, i2, @a_wrap ((k:Int) + 1) (by omega)]
   ·obtain ⟨b1, hb1e⟩ : ∃ b1, b1 = (gS l k).set (slotS x.parent) .dead := ⟨_, rfl⟩
    have hl1 : b1.length = l.length + 4 := by rw [hb1e, List.length_set, hlN]
    obtain ⟨b2, hb2e⟩ : ∃ b2, b2 = b1.set 1 (.map (some .i64) (mset (gM l k) (.i x.parent) (.osl (l.length + 4 + 2) 0 (kidsN l x.parent (k + 1)).length))) := ⟨_, rfl⟩
    have hl2 : b2.length = l.length + 4 := by rw [hb2e, List.length_set, hl1]
    have hb2m : blkAt b2 1 = .map (some .i64) (mset (gM l k) (.i x.parent) (.osl (l.length + 4 + 2) 0 (kidsN l x.parent (k + 1)).length)) := by rw [hb2e]; exact blkAt_set_self (by omega)
    have hq1 : ∀ q, q < l.length + 4 → q ≠ slotS x.parent → blkAt b1 q = gF l k q := fun q h1 h2 => by rw [hb1e, blkAt_set_ne (Ne.symm h2), gS_at l k h1]
    have hq2 : ∀ q, q < l.length + 4 → q ≠ 1 → q ≠ slotS x.parent → blkAt b2 q = gF l k q := fun q h1 h2 h3 => by rw [hb2e, blkAt_set_ne (Ne.symm h2), hq1 q h1 h3]
    have hgm : gM l k (.i x.parent) = some (.osl (slotS x.parent) 0 (kidsN l x.parent k).length) := by rw [gM_i, if_neg hp0]
    have hbn0 : ∀ τ i, blkAt (gS l k ++ τ) (l.length + 4 + i) = blkAt τ i := fun τ i => base_new hlN i
    have hbn1 : ∀ τ i, blkAt (b1 ++ τ) (l.length + 4 + i) = blkAt τ i := fun τ i => base_new hl1 i
    have hb1e1 : ∀ τ, blkAt (b1 ++ τ) 1 = .map (some .i64) (gM l k) := fun τ => by rw [blkAt_append_old (by omega)]; exact hq1 1 (by omega) (by omega)
    have hb2s : ∀ τ, (b1 ++ τ).set 1 (.map (some .i64) (mset (gM l k) (.i x.parent) (.osl (l.length + 4 + 2) 0 ((kidsN l x.parent k).length + 1)))) = b2 ++ τ := fun τ => by rw [base_set hl1 (by omega), hb2e, hkl]
    have hbs : ∀ τ, blkAt (gS l k ++ τ) (slotS x.parent) = .arr 1 ((kidsN l x.parent k).map intD) := fun τ => by
     rw [gA_old l k τ hsl, show slotS x.parent = (x.parent + 1).toNat + 3 by unfold slotS; omega]
     show gB l k (x.parent + 1).toNat = _
     rw [gB, show keyS (x.parent + 1).toNat = x.parent by unfold keyS; omega, if_neg hp0]
    have hkd : ∀ τ, (gS l k ++ τ).set (slotS x.parent) .dead = b1 ++ τ := fun τ => by rw [base_set hlN hsl, hb1e]
    have hAM : (kidsN l x.parent (k + 1)).map intD = (kidsN l x.parent k).map intD ++ [.int .i64 k] := by rw [hks, List.map_append]; rfl
    have hAN : Blk.arr 1 ((kidsN l x.parent (k + 1)).map intD) = .arr 1 ((kidsN l x.parent k).map intD ++ [.int .i64 k]) := by rw [hAM]
    have f2 : ∀ c10 c11 c12, blkAt (SLs (gS l k) b1 b2 (.box 5 (.d x.toD)) (.arr 1 [.int .i64 k]) (.arr 1 ((kidsN l x.parent (k + 1)).map intD)) c10 c11 c12) 2 = .box 2 (.agg [.d (.sl (l.map NodeT.toD)), .mapr 1]) := fun c10 c11 c12 => SLs_old hlN hl1 hl2 (by omega) (gS_at l k (by omega)) (hq1 2 (by omega) (by omega)) (fun _ => hq2 2 (by omega) (by omega) (by omega))
    have fN : ∀ c10 c11 c12, blkAt (SLs (gS l k) b1 b2 (.box 5 (.d x.toD)) (.arr 1 [.int .i64 k]) (.arr 1 ((kidsN l x.parent (k + 1)).map intD)) c10 c11 c12) (l.length + 4) = .box 5 (.d x.toD) := fun c10 c11 c12 => SLs_new hlN hl1 hl2
    have f1 : ∀ c10 c11, blkAt (SLs (gS l k) b1 b2 (.box 5 (.d x.toD)) (.arr 1 [.int .i64 k]) (.arr 1 ((kidsN l x.parent (k + 1)).map intD)) c10 c11 false) 1 = .map (some .i64) (gM l k) := fun c10 c11 => SLs_old hlN hl1 hl2 (by omega) (gS_at l k (by omega)) (hq1 1 (by omega) (by omega)) (fun h => by cases h)
    refine ⟨.inr (.inr (.inr (evFree_can
     (fun L => [(27, onV (L 11) (.osl (l.length + 4 + 2) 0 (kidsN l x.parent (k + 1)).length)), (26, onV (L 10) (.osl (l.length + 4 + 1) 0 1)), (25, onV (L 9) (.d (.int .i64 k))), (24, onV (L 8) (.osl (slotS x.parent) 0 (kidsN l x.parent k).length)), (23, onV (L 7) (.d (.int .i64 x.parent))), (22, onV (L 6) (.ptr (l.length + 4) 0)), (21, onV (L 5) (.mapr 1)), (20, onV (L 4) (.ptr 2 1)), (19, onV (L 3) (.d (.int .i64 x.parent))), (18, onV (L 2) (.ptr (l.length + 4) 0)), (17, onV (L 1) (.mapr 1)), (16, onV (L 0) (.ptr 2 1)),
      (3, .ptr 2 0), (9, .d (.sl (l.map NodeT.toD))), (10, .d (.int .i64 l.length)), (11, .d (.int .i64 k)), (2, .ptr 0 0), (4, .d (.int .i64 k)), (5, .ptr (l.length + 4) 0)])
     (fun L => SLs (gS l k) b1 b2 (.box 5 (.d x.toD)) (.arr 1 [.int .i64 k]) (.arr 1 ((kidsN l x.parent (k + 1)).map intD)) (L 10) (L 11) (L 12)) (by kernel_rfl) ?_ ?_ ?_))), ?_⟩
    ·refine weak_sub ?_
     rfl
    ·simp only [stepsL]
     refine ⟨?_, ?_, ?_, ?_, ?_, ?_, ?_, ?_, ?_, ?_, ?_, ?_, ?_, trivial⟩
     ·intro L hc hL hp
      (simp only [predsL, Region.binds, md_any, Bool.false_eq_true, false_imp_iff, true_imp_iff, and_true, true_and] at hp; (try simp only [Nat.zero_add, Nat.reduceAdd] at hL); simp only [zN, seval, implies_true, Nat.reduceLeDiff, Nat.reduceEqDiff, reduceCtorEq, reduceIte, intD, hL, hp, onV_t, onV_f, updB, f2, fN, gS_len])
      refine weak_sub ?_
      simp only [zN, seval, implies_true, Nat.reduceLeDiff, Nat.reduceEqDiff, reduceCtorEq, reduceIte, intD, onV_t, onV_f]
     ·intro L hc hL hp
      (simp only [predsL, Region.binds, md_any, Bool.false_eq_true, false_imp_iff, true_imp_iff, and_true, true_and] at hp; (try simp only [Nat.zero_add, Nat.reduceAdd] at hL); simp only [zN, seval, implies_true, Nat.reduceLeDiff, Nat.reduceEqDiff, reduceCtorEq, reduceIte, intD, hL, hp, onV_t, onV_f, updB, f2, fN, gS_len])
      refine weak_sub ?_
      simp only [zN, seval, implies_true, Nat.reduceLeDiff, Nat.reduceEqDiff, reduceCtorEq, reduceIte, intD, onV_t, onV_f]
     ·intro L hc hL hp
      (simp only [predsL, Region.binds, md_any, Bool.false_eq_true, false_imp_iff, true_imp_iff, and_true, true_and] at hp; (try simp only [Nat.zero_add, Nat.reduceAdd] at hL); simp only [zN, seval, implies_true, Nat.reduceLeDiff, Nat.reduceEqDiff, reduceCtorEq, reduceIte, intD, hL, hp, onV_t, onV_f, updB, f2, fN, gS_len])
      refine weak_sub ?_
      simp only [zN, seval, implies_true, Nat.reduceLeDiff, Nat.reduceEqDiff, reduceCtorEq, reduceIte, intD, onV_t, onV_f]
     ·intro L hc hL hp
      (simp only [predsL, Region.binds, md_any, Bool.false_eq_true, false_imp_iff, true_imp_iff, and_true, true_and] at hp; (try simp only [Nat.zero_add, Nat.reduceAdd] at hL); simp only [zN, seval, implies_true, Nat.reduceLeDiff, Nat.reduceEqDiff, reduceCtorEq, reduceIte, intD, hL, hp, onV_t, onV_f, updB, f2, fN, gS_len])
      refine weak_sub ?_
      simp only [zN, seval, implies_true, Nat.reduceLeDiff, Nat.reduceEqDiff, reduceCtorEq, reduceIte, intD, onV_t, onV_f]
     ·intro L hc hL hp
      (simp only [predsL, Region.binds, md_any, Bool.false_eq_true, false_imp_iff, true_imp_iff, and_true, true_and] at hp; (try simp only [Nat.zero_add, Nat.reduceAdd] at hL); simp only [zN, seval, implies_true, Nat.reduceLeDiff, Nat.reduceEqDiff, reduceCtorEq, reduceIte, intD, hL, hp, onV_t, onV_f, updB, f2, fN, gS_len])
      refine weak_sub ?_
      simp only [zN, seval, implies_true, Nat.reduceLeDiff, Nat.reduceEqDiff, reduceCtorEq, reduceIte, intD, onV_t, onV_f]
     ·intro L hc hL hp
      (simp only [predsL, Region.binds, md_any, Bool.false_eq_true, false_imp_iff, true_imp_iff, and_true, true_and] at hp; (try simp only [Nat.zero_add, Nat.reduceAdd] at hL); simp only [zN, seval, implies_true, Nat.reduceLeDiff, Nat.reduceEqDiff, reduceCtorEq, reduceIte, intD, hL, hp, onV_t, onV_f, updB, f2, fN, gS_len])
      refine weak_sub ?_
      simp only [zN, seval, implies_true, Nat.reduceLeDiff, Nat.reduceEqDiff, reduceCtorEq, reduceIte, intD, onV_t, onV_f]
     ·intro L hc hL hp
      (simp only [predsL, Region.binds, md_any, Bool.false_eq_true, false_imp_iff, true_imp_iff, and_true, true_and] at hp; (try simp only [Nat.zero_add, Nat.reduceAdd] at hL); simp only [zN, seval, implies_true, Nat.reduceLeDiff, Nat.reduceEqDiff, reduceCtorEq, reduceIte, intD, hL, hp, onV_t, onV_f, updB, f2, fN, gS_len])
      refine weak_sub ?_
      simp only [zN, seval, implies_true, Nat.reduceLeDiff, Nat.reduceEqDiff, reduceCtorEq, reduceIte, intD, onV_t, onV_f]
     ·intro L hc hL hp
      (simp only [predsL, Region.binds, md_any, Bool.false_eq_true, false_imp_iff, true_imp_iff, and_true, true_and] at hp; (try simp only [Nat.zero_add, Nat.reduceAdd] at hL); simp only [zN, seval, implies_true, Nat.reduceLeDiff, Nat.reduceEqDiff, reduceCtorEq, reduceIte, intD, hL, hp, onV_t, onV_f, updB, f2, fN, gS_len])
      refine weak_sub ?_
      simp only [zN, seval, implies_true, Nat.reduceLeDiff, Nat.reduceEqDiff, reduceCtorEq, reduceIte, intD, onV_t, onV_f]
     ·intro L hc hL hp
      have h12 : L 12 = false := nope hL fun h => predsL_on (hc 12 _ rfl h) 8 (by kernel_rfl)
      (simp only [predsL, Region.binds, md_any, Bool.false_eq_true, false_imp_iff, true_imp_iff, and_true, true_and] at hp; (try simp only [Nat.zero_add, Nat.reduceAdd] at hL); simp only [zN, seval, implies_true, Nat.reduceLeDiff, Nat.reduceEqDiff, reduceCtorEq, reduceIte, intD, hL, hp, onV_t, onV_f, updB, f2, fN, gS_len])
      simp only [zN, seval, implies_true, Nat.reduceLeDiff, Nat.reduceEqDiff, reduceCtorEq, reduceIte, intD, h12, f1, hgm, getD_some]
      refine weak_sub ?_
      simp only [zN, seval, implies_true, Nat.reduceLeDiff, Nat.reduceEqDiff, reduceCtorEq, reduceIte, intD, onV_t, onV_f]
     ·intro L hc hL hp
      (simp only [predsL, Region.binds, md_any, Bool.false_eq_true, false_imp_iff, true_imp_iff, and_true, true_and] at hp; (try simp only [Nat.zero_add, Nat.reduceAdd] at hL); simp only [zN, seval, implies_true, Nat.reduceLeDiff, Nat.reduceEqDiff, reduceCtorEq, reduceIte, intD, hL, hp, onV_t, onV_f, updB, f2, fN, gS_len])
      refine weak_sub ?_
      simp only [zN, seval, implies_true, Nat.reduceLeDiff, Nat.reduceEqDiff, reduceCtorEq, reduceIte, intD, onV_t, onV_f]
     ·intro L hc hL hp
      have h11 : L 11 = false := nope hL fun h => predsL_on (hc 11 _ rfl h) 10 (by kernel_rfl)
      have h12 : L 12 = false := nope hL fun h => predsL_on (hc 12 _ rfl h) 10 (by kernel_rfl)
      (simp only [predsL, Region.binds, md_any, Bool.false_eq_true, false_imp_iff, true_imp_iff, and_true, true_and] at hp; (try simp only [Nat.zero_add, Nat.reduceAdd] at hL); simp only [zN, seval, implies_true, Nat.reduceLeDiff, Nat.reduceEqDiff, reduceCtorEq, reduceIte, intD, hL, hp, onV_t, onV_f, updB, f2, fN, gS_len])
      simp only [zN, seval, implies_true, Nat.reduceLeDiff, Nat.reduceEqDiff, reduceCtorEq, reduceIte, intD, h11, h12, onV_f, SLs_fff, SLs_tff, SLs_ttf, SLs_ttt, List.length_append, gS_len, hl1, hl2, app2, app3, hbn0, hbn1, hb1e1, hb2s, hbs, hkd, hAM, hkl, take_all]
      refine weak_sub ?_
      simp only [zN, seval, implies_true, Nat.reduceLeDiff, Nat.reduceEqDiff, reduceCtorEq, reduceIte, intD, onV_t, onV_f]
     ·intro L hc hL hp
      have h12 : L 12 = false := nope hL fun h => predsL_on (hc 12 _ rfl h) 11 (by kernel_rfl)
      (simp only [predsL, Region.binds, md_any, Bool.false_eq_true, false_imp_iff, true_imp_iff, and_true, true_and] at hp; (try simp only [Nat.zero_add, Nat.reduceAdd] at hL); simp only [zN, seval, implies_true, Nat.reduceLeDiff, Nat.reduceEqDiff, reduceCtorEq, reduceIte, intD, hL, hp, onV_t, onV_f, updB, f2, fN, gS_len])
      simp only [zN, seval, implies_true, Nat.reduceLeDiff, Nat.reduceEqDiff, reduceCtorEq, reduceIte, intD, h12, onV_f, SLs_fff, SLs_tff, SLs_ttf, SLs_ttt, List.length_append, gS_len, hl1, hl2, app2, app3, hbn0, hbn1, hb1e1, hb2s, hbs, hkd, hAM, hkl, take_all]
      repeat ((with_reducible refine And.intro ?_ ?_); (focus (first | omega | (simp only [lenR]; omega) | (refine qq ?_; rfl) | (refine dq ?_; kernel_rfl) | (intros; simp_all; done))))
      refine weak_sub ?_
      simp only [zN, seval, implies_true, Nat.reduceLeDiff, Nat.reduceEqDiff, reduceCtorEq, reduceIte, intD, onV_t, onV_f]
     ·intro L hc hL hp
      (simp only [predsL, Region.binds, md_any, Bool.false_eq_true, false_imp_iff, true_imp_iff, and_true, true_and] at hp; (try simp only [Nat.zero_add, Nat.reduceAdd] at hL); simp only [zN, seval, implies_true, Nat.reduceLeDiff, Nat.reduceEqDiff, reduceCtorEq, reduceIte, intD, hL, hp, onV_t, onV_f, updB, f2, fN, gS_len])
      simp only [zN, seval, implies_true, Nat.reduceLeDiff, Nat.reduceEqDiff, reduceCtorEq, reduceIte, intD, SLs_fff, SLs_tff, SLs_ttf, SLs_ttt, List.length_append, gS_len, hl1, hl2, app2, app3, hbn0, hbn1, hb1e1, hb2s, hbs, hkd, hAM, hkl, take_all]
      repeat ((with_reducible refine And.intro ?_ ?_); (focus (first | omega | (simp only [lenR]; omega) | (refine qq ?_; rfl) | (refine dq ?_; kernel_rfl) | (intros; simp_all; done))))
      refine weak_sub ?_
      simp only [zN, seval, implies_true, Nat.reduceLeDiff, Nat.reduceEqDiff, reduceCtorEq, reduceIte, intD, onV_t, onV_f]
    ·simp only [zN, seval, implies_true, Nat.reduceLeDiff, Nat.reduceEqDiff, reduceCtorEq, reduceIte, intD, onV_t, SLs_fff, SLs_tff, SLs_ttf, SLs_ttt, List.length_append, gS_len, hl1, hl2, app2, app3, hbn0, hbn1, hb1e1, hb2s, hbs, hkd, hAM, hkl, take_all]
     have hren := grow_fin ht h ep b2 hl2 hb2m hq2 (.box 5 (.d x.toD)) (.arr 1 [.int .i64 k])
     rw [hAN] at hren
     refine weak_to [] (rkL (l.length + 4) (slotS x.parent) (l.length + 4 + 2)) rfl (rk_nodup (.inl (by omega))) ?_ hren
     simp only [zN, seval, implies_true, Nat.reduceLeDiff, Nat.reduceEqDiff, reduceCtorEq, reduceIte, intD, i0, i1, i2, @a_wrap ((k:Int) + 1) (by omega)]
    ·simp only [zN, seval, implies_true, Nat.reduceLeDiff, Nat.reduceEqDiff, reduceCtorEq, reduceIte, intD, SLs_fff, SLs_tff, SLs_ttf, SLs_ttt, List.length_append, gS_len, hl1, hl2, app2, app3, hbn0, hbn1, hb1e1, hb2s, hbs, hkd, hAM, hkl, take_all, hgm, getD_some]
     repeat ((with_reducible refine And.intro ?_ ?_); (focus (first | omega | (simp only [lenR]; omega) | (refine qq ?_; rfl) | (refine dq ?_; kernel_rfl) | (intros; simp_all; done))))
     have hren := grow_fin ht h ep b2 hl2 hb2m hq2 (.box 5 (.d x.toD)) (.arr 1 [.int .i64 k])
     rw [hAN] at hren
     refine weak_to [] (rkL (l.length + 4) (slotS x.parent) (l.length + 4 + 2)) rfl (rk_nodup (.inl (by omega))) ?_ hren
     simp only [zN, seval, implies_true, Nat.reduceLeDiff, Nat.reduceEqDiff, reduceCtorEq, reduceIte, intD, i0, i1, i2, @a_wrap ((k:Int) + 1) (by omega)]
  ·have : k = l.length := by omega
   subst this
   have e2 : blkAt (gS l l.length) 2 = .box 2 (.agg [.d (.sl (l.map NodeT.toD)), .mapr 1]) := gS_at l _ (by omega)
   have e0 : blkAt (gS l l.length) 0 = .box 2 (.agg [.nils, .d (.raw (.map none))]) := gS_at l _ (by omega)
   have es : ∀ B, blkAt ((gS l l.length).set 0 B) 0 = B := fun B => blkAt_set_self (by rw [gS_len]; omega)
   simp only [zN, seval, implies_true, Nat.reduceLeDiff, Nat.reduceEqDiff, reduceCtorEq, reduceIte, intD, (show ¬ (l.length:Int) < l.length by omega), e2, e0, es]
   repeat ((with_reducible refine And.intro ?_ ?_); (focus (first | omega | (simp only [lenR]; omega) | (refine qq ?_; rfl) | (refine dq ?_; kernel_rfl) | (intros; simp_all; done))))
   refine ⟨_, _, grow_end ht _ (by rw [List.length_set, gS_len]) (fun q h1 h2 => by rw [blkAt_set_ne (by omega), gS_at l _ h2]) _, rfl, rfl⟩
end YtfmbadfdbjhekaaDoor
end Go.Proofs
