/- A part of the proof: contracts of functions of this seat, and lemmas. No condition beyond those stated. -/
import Derived.Test.YtfmbadfdbjhekaaDoorWdns
set_option linter.unusedVariables false
set_option linter.unusedSimpArgs false
set_option linter.unusedSectionVars false
set_option linter.unnecessarySimpa false
set_option maxRecDepth 100000
namespace Go.Proofs
open Go.AM
namespace YtfmbadfdbjhekaaDoor
variable {Gl : Globs}
def bX : Blk := .box 1 (.ptr 0 0)
theorem stP_ren1 (a b : List NodeT) (s : Al) (m : Nat → Bool) : renS [0, 1, 2, 3, 4, 5] (stP a b s m ++ [bX]) = stP a b s m := by
 show [renB _ _ _, renB _ _ (.map (some .i64) (kidM a)), renB _ _ (.map (some .i64) (kidM b)), renB _ _ _, renB _ _ _, renB _ _ (.map (some .i64) (memM b m))] = _
 rw [kidM_ren, kidM_ren, memM_ren]; rfl
theorem stP_back1 (a b : List NodeT) (s s' : Al) (m m' : Nat → Bool) : backS [0, 1, 2, 3, 4, 5] (stP a b s m ++ [bX]) (stP a b s' m') = stP a b s' m' ++ [bX] := by
 show [backB _ _, backB _ (.map (some .i64) (kidM a)), backB _ (.map (some .i64) (kidM b)), backB _ _, backB _ _, backB _ (.map (some .i64) (memM b m')), _] = _
 rw [kidM_back, kidM_back, memM_back]; rfl
theorem onP1 {f : FuncId} {args : List AV} {a b : List NodeT} {s : Al} {m : Nat → Bool} {R : AV → Sto → Prop} (h : ACalls Tryd.prog Gl f args (stP a b s m) R) (ha : args.map (renV [0, 1, 2, 3, 4, 5] (stP a b s m ++ [bX])) = args) :
  ACalls Tryd.prog Gl f args (stP a b s m ++ [bX]) (fun r s1 => ∃ r0 s0, R r0 s0 ∧ r = back (backId [0, 1, 2, 3, 4, 5] (stP a b s m ++ [bX]).length) r0 ∧ s1 = backS [0, 1, 2, 3, 4, 5] (stP a b s m ++ [bX]) s0) := by
 refine ACalls.under [0, 1, 2, 3, 4, 5] (by decide) (by simp [stP]) ?_
 rw [ha, stP_ren1]; exact h
theorem stP_ren3 (a b : List NodeT) (s : Al) (m : Nat → Bool) (B : Blk) : renS [0, 1, 2, 3, 4, 5, 6] (freezeL (stP a b s m ++ [bX, B]) []) = stP a b s m ++ [bX] := by
 show [renB _ _ _, renB _ _ (.map (some .i64) (kidM a)), renB _ _ (.map (some .i64) (kidM b)), renB _ _ _, renB _ _ _, renB _ _ (.map (some .i64) (memM b m)), _] = _
 rw [kidM_ren, kidM_ren, memM_ren]; rfl
theorem shapeA_ren (a b : List NodeT) (s : Al) (m : Nat → Bool) : renS [1] (stP a b s m ++ [bX]) = [.map (some .i64) (kidM a)] := by
 show [renB _ _ (.map (some .i64) (kidM a))] = _
 rw [kidM_ren]
theorem shapeA_back (a b : List NodeT) (s : Al) (m : Nat → Bool) : backS [1] (stP a b s m ++ [bX]) [.map (some .i64) (kidM a)] = stP a b s m ++ [bX] := by
 show [_, backB _ (.map (some .i64) (kidM a)), _, _, _, _, _] = _
 rw [kidM_back]; rfl
theorem weak_dat {n m : Nat} {σ : Sto} {env : Env} {V : AV} {x : D} (t : Nat) (h : getE env t = V) (hd : V.isD σ = true) (hx : V.toD σ = x) (hr : V.refs = []) : Weak n m env σ ((t, .d x) :: env) σ := by
 have := weak_toD (n := n) (m := m) (σ := σ) (env := env) t (by rw [h]; exact hd)
 rw [h, hr, hx] at this
 exact this
def kidV (l : List NodeT) (p : Int) : AV := if kids l p = [] then .nils else .d (.sl ((kids l p).map intD))
theorem kidV_get (l : List NodeT) (p : Int) : (kidM l (.i p)).getD .nils = kidV l p := by
 rw [kidM_get, kidV]; split <;> rfl
theorem kidV_vg (l : List NodeT) (p : Int) : (kidV l p).vg = true := by rw [kidV]; split <;> rfl
theorem kidV_un (l : List NodeT) (p : Int) : (kidV l p).un = kidV l p := by rw [kidV]; split <;> rfl
theorem kidV_len (l : List NodeT) (p : Int) : (kidV l p).len = (kids l p).length := by
 rw [kidV]
 split
 ·rename_i h; rw [h]; rfl
 ·show ((kids l p).map intD).length = _
  rw [List.length_map]
theorem kidV_hasLen (P : Program) (t : TypeId) (l : List NodeT) (p : Int) : (kidV l p).hasLen P t = (telem P t).isSome := by rw [kidV]; split <;> rfl
theorem kidV_isD (σ : Sto) (l : List NodeT) (p : Int) : (kidV l p).isD σ = true := by rw [kidV]; split <;> rfl
theorem kidV_toD (σ : Sto) (l : List NodeT) (p : Int) : (kidV l p).toD σ = .sl ((kids l p).map intD) := by
 rw [kidV]
 split
 ·rename_i h; rw [h]; rfl
 ·rfl
theorem kidV_refs (l : List NodeT) (p : Int) : (kidV l p).refs = [] := by rw [kidV]; split <;> rfl
def Ge (s : Al) : Prop := ∀ p, -1 ≤ s.b p
theorem Ge.op {a b : List NodeT} {s : Al} (h : Ge s) (hs : Sz a b s) {p : Nat} (hp : p < a.length) (o : Option Nat) : Ge (opS s p o) := by
 cases o with
 | none => exact h
 | some q =>
  intro i
  show -1 ≤ (pairS s p q).b i
  rw [pair_b (by rw [hs.1]; exact hp)]
  split
  ·omega
  ·exact h i
theorem ge_ph1 {a b : List NodeT} {y : List Nat} : ∀ (x : List Nat), (∀ p ∈ x, p < a.length) → ∀ {s : Al}, Sz a b s → Ge s → Ge (ph1 a b y x s)
 | [], _, _, _, h => h
 | p :: x, hx, _, hs, h => ge_ph1 x (fun q hq => hx q (List.mem_cons_of_mem _ hq)) (hs.op p _) (h.op hs (hx p (List.mem_cons_self ..)) _)
theorem ge_ph2 {a b : List NodeT} {y : List Nat} : ∀ (x : List Nat), (∀ p ∈ x, p < a.length) → ∀ {s : Al}, Sz a b s → Ge s → Ge (ph2 a b y x s)
 | [], _, _, _, h => h
 | p :: x, hx, _, hs, h => ge_ph2 x (fun q hq => hx q (List.mem_cons_of_mem _ hq)) (hs.op p _) (h.op hs (hx p (List.mem_cons_self ..)) _)
theorem ge_foldl {a b : List NodeT} {g : Al → Nat → Al} (hg : ∀ s p, Sz a b s → Ge s → Sz a b (g s p) ∧ Ge (g s p)) : ∀ (x : List Nat) {s : Al}, Sz a b s → Ge s → Ge (x.foldl g s)
 | [], _, _, h => h
 | p :: x, _, hs, h => ge_foldl hg x (hg _ p hs h).1 (hg _ p hs h).2
theorem ge_align {a b : List NodeT} : ∀ (f : Nat) (i k : Int) {s : Al}, Sz a b s → Ge s → Ge (alignF a b f i k s)
 | 0, _, _, _, _, h => h
 | f + 1, i, k, s, hs, h => by
  have hx : ∀ p ∈ kids a i, p < a.length := fun p hp => kids_lt hp
  rw [alignF]
  refine ge_foldl (a := a) (b := b) (fun s p hs h => ?_) _ (sz_ph2 _ (sz_ph1 _ hs)) (ge_ph2 _ hx (sz_ph1 _ hs) (ge_ph1 _ hx hs h))
  show Sz a b (if 0 ≤ s.b p then alignF a b f p (s.b p) s else s) ∧ Ge (if 0 ≤ s.b p then alignF a b f p (s.b p) s else s)
  split
  ·exact ⟨sz_align f _ _ hs, ge_align f _ _ hs h⟩
  ·exact ⟨hs, h⟩
theorem shp_nil {l : List NodeT} (h : TreeUp l l.length) {p : Nat} (hp : p < l.length) : shp l p = [] ↔ kids l p = [] := by
 rw [shp, List.map_eq_nil_iff, below_kids h hp]
 cases kids l p with
 | nil => simp
 | cons k r => simp
end YtfmbadfdbjhekaaDoor
end Go.Proofs
