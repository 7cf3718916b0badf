/-
  Functions without a body; small rules for loops over lists.
-/
import Derived.Test.YtgebmgahfpnjaaaAmA
import Derived.Lib.Bytealg
set_option linter.unnecessarySimpa false
set_option linter.unusedSectionVars false
set_option linter.unusedSimpArgs false
set_option linter.unusedVariables false
namespace Go.AM
variable {P : Program} {Gl : Globs}

/-- a function that reads nothing: the contract in every store -/
def Pure (P : Program) (f : FuncId) (args : List AV) (r : AV) : Prop := ∀ σ, ACalls P [] f args σ (fun r' s => r' = r ∧ s = σ)
theorem Pure.of {f : FuncId} {args : List D} {y : D} (h : ACalls P [] f (args.map AV.d) [] (fun r s => r = .d y ∧ s = [])) : Pure P f (args.map AV.d) (.d y) := fun σ => ACalls.pure h σ

theorem Pure.ofT {f : FuncId} {args : List D} {y : AV} (hy : ∀ b, back b y = y) (h : ACalls P [] f (args.map AV.d) [] (fun r s => r = y ∧ s = [])) : Pure P f (args.map AV.d) y := fun s => by
  have e : (args.map AV.d).map (renV [] s) = args.map AV.d := by simp [renV, ren0]
  have h1 := ACalls.under (P := P) (Gl := []) (f := f) (args := args.map AV.d) (R := fun r s => r = y ∧ s = []) (σ := s) [] List.nodup_nil (by simp) (by rw [e]; exact h)
  refine h1.mono fun r s' h2 => ?_
  obtain ⟨r0, s0, ⟨h1, h2⟩, h3, h4⟩ := h2
  subst h1; subst h2; subst h3; subst h4
  exact ⟨hy _, backS_nil s⟩
theorem back_t2 (x y : D) (b : Nat → Nat) : back b (.tup [.d x, .d y]) = .tup [.d x, .d y] := by simp [back, backL]
theorem back_t3 (x y z : D) (b : Nat → Nat) : back b (.tup [.d x, .d y, .d z]) = .tup [.d x, .d y, .d z] := by simp [back, backL]
theorem Pure.of1t2 {f : FuncId} {a x y : D} (h : ACalls P [] f [.d a] [] (fun r s => r = .tup [.d x, .d y] ∧ s = [])) : Pure P f [.d a] (.tup [.d x, .d y]) := Pure.ofT (args := [a]) (back_t2 x y) h
theorem Pure.of2t2 {f : FuncId} {a b x y : D} (h : ACalls P [] f [.d a, .d b] [] (fun r s => r = .tup [.d x, .d y] ∧ s = [])) : Pure P f [.d a, .d b] (.tup [.d x, .d y]) := Pure.ofT (args := [a, b]) (back_t2 x y) h
theorem Pure.of3t2 {f : FuncId} {a b c x y : D} (h : ACalls P [] f [.d a, .d b, .d c] [] (fun r s => r = .tup [.d x, .d y] ∧ s = [])) : Pure P f [.d a, .d b, .d c] (.tup [.d x, .d y]) := Pure.ofT (args := [a, b, c]) (back_t2 x y) h
/-- a function that hands back a new array -/
def Fresh (P : Program) (f : FuncId) (args : List AV) (es : Nat) (xs : List D) : Prop := ∀ σ, ACalls P [] f args σ (fun r s => r = .osl σ.length 0 xs.length ∧ s = σ ++ [.arr es xs])
theorem Fresh.of {f : FuncId} {args : List D} {es : Nat} {xs : List D} (h : ACalls P [] f (args.map AV.d) [] (fun r s => r = .osl 0 0 xs.length ∧ s = [.arr es xs])) : Fresh P f (args.map AV.d) es xs := fun s => by
  have e : (args.map AV.d).map (renV [] s) = args.map AV.d := by simp [renV, ren0]
  have h1 := ACalls.under (P := P) (Gl := []) (f := f) (args := args.map AV.d) (σ := s) [] List.nodup_nil (by simp) (by rw [e]; exact h)
  refine h1.mono fun r s' h2 => ?_
  obtain ⟨r0, s0, ⟨h1, h2⟩, h3, h4⟩ := h2
  subst h1; subst h2; subst h3; subst h4
  refine ⟨by simp [back, backId], ?_⟩
  apply List.ext_getElem
  · simp [backS]
  · intro i h1 h2
    simp only [backS, List.getElem_map, List.getElem_range]
    have : idxIn [] i = none := rfl
    rw [this]
    simp only [List.length_nil, Nat.zero_add]
    by_cases hi : i < s.length
    · rw [if_pos hi, List.getElem_append_left hi]
      unfold blkAt
      simp [hi]
    · simp [backS] at h1
      have : i = s.length := by omega
      subst this
      rw [if_neg (by omega), List.getElem_append_right (by omega)]
      simp [blkAt, backB]
theorem Pure.of0 {f : FuncId} {y : D} (h : ACalls P [] f [] [] (fun r s => r = .d y ∧ s = [])) : Pure P f [] (.d y) := Pure.of (args := []) h
theorem Pure.of1 {f : FuncId} {a y : D} (h : ACalls P [] f [.d a] [] (fun r s => r = .d y ∧ s = [])) : Pure P f [.d a] (.d y) := Pure.of (args := [a]) h
theorem Pure.of2 {f : FuncId} {a b y : D} (h : ACalls P [] f [.d a, .d b] [] (fun r s => r = .d y ∧ s = [])) : Pure P f [.d a, .d b] (.d y) := Pure.of (args := [a, b]) h
theorem Pure.of3 {f : FuncId} {a b c y : D} (h : ACalls P [] f [.d a, .d b, .d c] [] (fun r s => r = .d y ∧ s = [])) : Pure P f [.d a, .d b, .d c] (.d y) := Pure.of (args := [a, b, c]) h
theorem Pure.of4 {f : FuncId} {a b c d y : D} (h : ACalls P [] f [.d a, .d b, .d c, .d d] [] (fun r s => r = .d y ∧ s = [])) : Pure P f [.d a, .d b, .d c, .d d] (.d y) := Pure.of (args := [a, b, c, d]) h
theorem Pure.of5 {f : FuncId} {a b c d e y : D} (h : ACalls P [] f [.d a, .d b, .d c, .d d, .d e] [] (fun r s => r = .d y ∧ s = [])) : Pure P f [.d a, .d b, .d c, .d d, .d e] (.d y) := Pure.of (args := [a, b, c, d, e]) h

theorem ext_calls {f : FuncId} {fn : Func} {e : Array Value → Sem Value} (hf : P.funcs[f]? = some fn) (hname : (fn.name == "runtime.NumGoroutine") = false) (hb : fn.body.isNone = true) (hn : Extern.findNext fn = none) (he : Extern.find fn = some e)
    {args : List AV} {r : AV} (h : ∀ w I μ σ (vals : List Value), (∀ (i : Nat) (v : Value) (u : AV), vals[i]? = some v → args[i]? = some u → RepV w I μ σ v u) → vals.length = args.length → ∃ v, (e vals.toArray).run P w = .ok v w ∧ RepV w I μ σ v r) :
    Pure P f args r := by
  intro σ w I μ vals hR hG hl hv
  obtain ⟨v, h1, h2⟩ := h w I μ σ vals hv hl
  rw [run_callFunc_extern hf hname hb hn he vals.toArray w]
  simp only [Sem.run_bind, h1, Result.andThen_ok, Sem.run_pure]
  exact ⟨r, σ, I, μ, hR, Keep.refl _ _ _ _ (Nat.le_refl _), h2, rfl, rfl⟩

theorem indexByteString_pure {f : FuncId} {fn : Func} (hf : P.funcs[f]? = some fn) (hname : (fn.name == "runtime.NumGoroutine") = false) (hb : fn.body.isNone = true) (hn : Extern.findNext fn = none) (he : Extern.find fn = some Extern.BytealgIndexByte.indexByte) (s : List UInt8) (c : Int) :
    Pure P f [.d (.str s), .d (.int .u8 c)] (.d (.int .i64 (Lib.indexByte s c.toNat.toUInt8))) := by
  refine ext_calls hf hname hb hn he fun w I μ σ vals hv hl => ?_
  match vals, hl with
  | [a, b], _ =>
    have h1 := (hv 0 a _ rfl rfl).inv_d
    have h2 := (hv 1 b _ rfl rfl).inv_d
    cases h1
    cases h2
    exact ⟨_, Lib.run_indexByteString _ _ _, .d _ _ (.int _ _)⟩

section
variable {n : Nat} {all : Array Oper} {draw : Bool} {rest : List Oper} {KK : Env → Sto → Prop} {env : Env} {σ : Sto} {f : FuncId} {as caps : List AV} {v : AV} {dst : Option Tmp} {g : Bool}
theorem callF_pureC (h : Pure P f (as ++ caps) v) (h2 : evOps P [] n all draw rest (putE env dst v) σ KK) : callF P [] n all draw dst rest (.fn f caps) as env σ KK :=
  callF_of (fun s => h s) h2
theorem callG_pureC (h : g = true → Pure P f (as ++ caps) v) (h2 : evOps P [] n all draw rest (putE env dst (.iff g v)) σ KK) : callG P [] n all draw dst rest g (.fn f caps) as env σ KK :=
  callG_of (fun hg s => h hg s) h2
theorem callF_pure (h : Pure P f as v) (h2 : evOps P [] n all draw rest (putE env dst v) σ KK) : callF P [] n all draw dst rest (.fn f []) as env σ KK :=
  callF_pureC (by rwa [List.append_nil]) h2
theorem callG_pure (h : g = true → Pure P f as v) (h2 : evOps P [] n all draw rest (putE env dst (.iff g v)) σ KK) : callG P [] n all draw dst rest g (.fn f []) as env σ KK :=
  callG_pureC (fun hg => by rw [List.append_nil]; exact h hg) h2
end

theorem mem_getD {α : Type} [Inhabited α] {l : List α} {k : Nat} (h : k < l.length) : l.getD k default ∈ l := by
  have : l.getD k default = l[k] := by simp [h]
  rw [this]; exact List.getElem_mem h
theorem mem_take_getD {α : Type} [Inhabited α] {l : List α} {j k : Nat} (h : j < k) (hl : j < l.length) : l.getD j default ∈ l.take k := by
  refine List.mem_of_getElem? (i := j) ?_
  rw [List.getElem?_take_of_lt h, List.getElem?_eq_getElem hl, List.getD_eq_getElem?_getD, List.getElem?_eq_getElem hl]; rfl
theorem take_step {α : Type} [Inhabited α] (l : List α) (k : Nat) (h : k < l.length) : l.take (k + 1) = l.take k ++ [l.getD k default] := by
  rw [List.take_add_one, List.getElem?_eq_getElem h, List.getD_eq_getElem?_getD, List.getElem?_eq_getElem h]; rfl
theorem all_take {α : Type} [Inhabited α] (p : α → Bool) (l : List α) (k : Nat) (h : k < l.length) : (l.take (k + 1)).all p = ((l.take k).all p && p (l.getD k default)) := by
  rw [take_step l k h, List.all_append]; simp only [List.all_cons, List.all_nil, Bool.and_true]
theorem all_at {α : Type} [Inhabited α] (p : α → Bool) (l : List α) (k : Nat) (h : k < l.length) (hp : p (l.getD k default) = false) : l.all p = false := by
  rw [List.all_eq_false]
  exact ⟨l[k], List.getElem_mem h, by simpa [h] using hp⟩
theorem any_take {α : Type} [Inhabited α] (p : α → Bool) (l : List α) (k : Nat) (h : k < l.length) : (l.take (k + 1)).any p = ((l.take k).any p || p (l.getD k default)) := by
  rw [take_step l k h, List.any_append]; simp only [List.any_cons, List.any_nil, Bool.or_false]
theorem any_at {α : Type} [Inhabited α] (p : α → Bool) (l : List α) (k : Nat) (h : k < l.length) (hp : p (l.getD k default) = true) : l.any p = true := by
  rw [List.any_eq_true]
  exact ⟨l[k], List.getElem_mem h, by simpa [h] using hp⟩
theorem getD_d {α : Type} [Inhabited α] (l : List α) (k : Nat) (d : α) (h : k < l.length) : l.getD k d = l.getD k default := by simp [h]
theorem u8_default : (default : UInt8) = 0 := rfl
theorem bytes_lit (l : List UInt8) : (ByteArray.mk l.toArray).data.toList = l := rfl
theorem a_idxNat (n : Nat) : (n : Int).toNat = n := rfl
theorem ret_d {x : D} {σ : Sto} : WeakR 0 (.d x) σ (.d x) [] := weakR_to [] [] rfl List.nodup_nil rfl rfl
theorem ret_t2 {x y : D} {σ : Sto} : WeakR 0 (.tup [.d x, .d y]) σ (.tup [.d x, .d y]) [] := weakR_to [] [] rfl List.nodup_nil rfl rfl
theorem ret_t3 {x y z : D} {σ : Sto} : WeakR 0 (.tup [.d x, .d y, .d z]) σ (.tup [.d x, .d y, .d z]) [] := weakR_to [] [] rfl List.nodup_nil rfl rfl
theorem WeakR.trans {m : Nat} {r1 r2 r3 : AV} {s1 s2 s3 : Sto} (h : WeakR m r1 s1 r2 s2) (k : WeakR m r2 s2 r3 s3) : WeakR m r1 s1 r3 s3 := fun w I μ v h1 h2 h3 => by
  obtain ⟨I1, μ1, a1, a2, a3⟩ := h w I μ v h1 h2 h3
  obtain ⟨I2, μ2, b1, b2, b3⟩ := k w I1 μ1 v a1 a2 a3.len
  exact ⟨I2, μ2, b1, b2, a3.trans b3⟩
theorem Weak.trans {n m : Nat} {e1 e2 e3 : Env} {s1 s2 s3 : Sto} (h : Weak n m e1 s1 e2 s2) (k : Weak n m e2 s2 e3 s3) : Weak n m e1 s1 e3 s3 := fun w I μ a h1 h2 h3 => by
  obtain ⟨I1, μ1, a1, a2, a3⟩ := h w I μ a h1 h2 h3
  obtain ⟨I2, μ2, b1, b2, b3⟩ := k w I1 μ1 a a1 a2 a3.len
  exact ⟨I2, μ2, b1, b2, a3.trans b3⟩
/-- nil, read as a new array without elements -/
theorem weakR_nils {m : Nat} {σ : Sto} (es : Nat) (hm : m ≤ σ.length) : WeakR m .nils σ (.osl σ.length 0 0) (σ ++ [.arr es []]) := fun w I μ v h1 h2 h3 => by
  obtain ⟨μ', a1, a2⟩ := h1.addNone es
  cases h2
  exact ⟨I, μ', a1, .osl _ _ 0 0 (by simp) (.inl ⟨rfl, none, rfl⟩), a2.mono hm⟩
theorem ret_nils {σ : Sto} (es : Nat) : WeakR 0 .nils σ (.osl 0 0 0) [.arr es []] := by
  refine (weakR_nils es (Nat.zero_le _)).trans (weakR_to [] [σ.length] rfl (by simp) ?_ ?_)
  · simp [renV, ren0, idxIn, freezeL]
  · simp [renS, freezeL, blkAt, renB]
theorem weak_nils {n m : Nat} {σ : Sto} {env : Env} (t es : Nat) (h : getE env t = .nils) : Weak n m env σ ((t, .osl σ.length 0 0) :: env) (σ ++ [.arr es []]) := fun w I μ a h1 h2 h3 => by
  obtain ⟨μ', a1, a2⟩ := h1.addNone es
  refine ⟨I, μ', a1, ⟨h2.defers, h2.size, fun t' => ?_⟩, a2.mono h3⟩
  have h4 := h2.slot t'
  simp only [getE]
  by_cases e : t = t'
  · rw [if_pos e]
    subst e
    rw [h] at h4
    generalize a.tmps.getD t Go.undef = v at h4
    cases h4
    exact .osl _ _ 0 0 (by simp) (.inl ⟨rfl, none, rfl⟩)
  · rw [if_neg e]
    exact h4.keep a2
/-- a value read as data -/
theorem weakR_toD {m : Nat} {σ : Sto} {u : AV} (hd : u.isD σ = true) : WeakR m u σ (.d (u.toD σ)) (freezeL σ u.refs) := fun w I μ v h1 h2 h3 => by
  obtain ⟨I', a1, a2, a3, _⟩ := toD_rep h1 h2 hd
  exact ⟨I', μ, a1, .d _ _ a3, a2.mono h3⟩
theorem ret_toD {σ : Sto} {u : AV} (hd : u.isD σ = true) : WeakR 0 u σ (.d (u.toD σ)) [] := (weakR_toD hd).trans ret_d
theorem ret_data {σ : Sto} {u : AV} {x : D} (hd : u.isD σ = true) (hx : u.toD σ = x) : WeakR 0 u σ (.d x) [] := by subst hx; exact ret_toD hd
theorem weak_toD {n m : Nat} {σ : Sto} {env : Env} (t : Nat) (hd : (getE env t).isD σ = true) : Weak n m env σ ((t, .d ((getE env t).toD σ)) :: env) (freezeL σ (getE env t).refs) := fun w I μ a h1 h2 h3 => by
  obtain ⟨I', a1, a2, a3, _⟩ := toD_rep h1 (h2.slot t) hd
  refine ⟨I', μ, a1, ⟨h2.defers, h2.size, fun t' => ?_⟩, a2.mono h3⟩
  simp only [getE]
  by_cases e : t = t'
  · subst e
    rw [if_pos rfl]; exact .d _ _ a3
  · rw [if_neg e]
    exact (h2.slot t').keep a2
theorem x_apOk (σ : Sto) (t1 t2 : TypeId) (s x : AV) : apOk P σ t1 t2 s x = (match telem P t1 with
  | some e => match tsz P e, tbytes P e, tzero P e with
    | some es, some by_, some z => 0 < es ∧ z.cells.size = es ∧ (telem P t2).isSome = true ∧ dstOk σ es s ∧ srcOk σ es x ∧ (s.len + (x.elems σ).length) * by_ ≤ 140737488355328 ∧ s.len + (x.elems σ).length ≤ 4611686018427387904
    | _, _, _ => False
  | none => False) := by unfold apOk; rfl
theorem x_dstOk_osl (i o k es : Nat) (σ : Sto) : dstOk σ es (.osl i o k) = ((blkAt σ i).isOwnArr = true ∧ (blkAt σ i).es = es) := rfl
theorem x_dstOk_nils (es : Nat) (σ : Sto) : dstOk σ es .nils = True := rfl
theorem x_srcOk_osl (i o k es : Nat) (σ : Sto) : srcOk σ es (.osl i o k) = ((blkAt σ i).isArr = true ∧ (blkAt σ i).es = es) := rfl
theorem x_srcOk_nils (es : Nat) (σ : Sto) : srcOk σ es .nils = True := rfl
theorem x_srcOk_sl (xs : List D) (es : Nat) (σ : Sto) : srcOk σ es (.d (.sl xs)) = ∀ x ∈ xs, x.cells.length = es := rfl
theorem x_apV (s x : AV) (σ : Sto) : apV σ s x = .osl σ.length 0 (s.len + (x.elems σ).length) := rfl
theorem x_apS (s x : AV) (σ : Sto) (t : TypeId) : apS P σ t s x = killS σ s ++ [.arr (apEs P t) (s.elems σ ++ x.elems σ)] := rfl
theorem x_killS_osl (i o k : Nat) (σ : Sto) : killS σ (.osl i o k) = σ.set i .dead := rfl
theorem x_killS_nils (σ : Sto) : killS σ .nils = σ := rfl
theorem x_killS_d (x : D) (σ : Sto) : killS σ (.d x) = σ := rfl
/-- the first of f 0, f 1 .. that is not 0 -/
def firstErr (f : Nat → Int) : Nat → Int
  | 0 => 0
  | k + 1 => if firstErr f k = 0 then f k else firstErr f k
theorem firstErr_step {f : Nat → Int} {k : Nat} (h : firstErr f k = 0) (he : f k = 0) : firstErr f (k + 1) = 0 := by simp [firstErr, h, he]
theorem firstErr_at {f : Nat → Int} {k : Nat} (h : firstErr f k = 0) (he : f k ≠ 0) : ∀ {n : Nat}, k < n → firstErr f n = f k := by
  intro n hn
  induction n with
  | zero => omega
  | succ n ih =>
    by_cases e : k = n
    · subst e; simp [firstErr, h]
    · rw [firstErr, ih (by omega), if_neg he]
theorem firstErr_zero {f : Nat → Int} {n : Nat} (h : firstErr f n = 0) : ∀ k, k < n → f k = 0 := by
  induction n with
  | zero => intro k hk; omega
  | succ n ih =>
    rw [firstErr] at h
    by_cases e : firstErr f n = 0
    · rw [if_pos e] at h
      intro k hk
      by_cases e2 : k = n
      · subst e2; exact h
      · exact ih e k (by omega)
    · rw [if_neg e] at h; exact absurd h e
theorem firstErr_all {f : Nat → Int} {n : Nat} (h : ∀ k, k < n → f k = 0) : firstErr f n = 0 := by
  induction n with
  | zero => rfl
  | succ n ih => exact firstErr_step (ih fun k hk => h k (by omega)) (h n (by omega))
theorem firstErr_congr {f g : Nat → Int} {n : Nat} (h : ∀ k, k < n → f k = g k) : firstErr f n = firstErr g n := by
  induction n with
  | zero => rfl
  | succ n ih => rw [firstErr, firstErr, ih fun k hk => h k (by omega), h n (by omega)]

theorem x_g1 (a b : Bool) : (a = true → b = true → (a && b) = true) = True := by cases a <;> cases b <;> simp
theorem x_g2 (a : Bool) : (a = false → (!a) = true) = True := by cases a <;> simp
theorem x_g3 (a : Bool) : ((!a) = true → (!a) = true) = True := by cases a <;> simp
theorem x_g4 (a b : Bool) : (a = true → (!b) = true → (a && !b) = true) = True := by cases a <;> cases b <;> simp
theorem x_g5 (a b : Bool) : (a = true → b = false → (a && !b) = true) = True := by cases a <;> cases b <;> simp
theorem x_strOf (l : List UInt8) : (AV.d (.str l)).strOf = l := rfl
theorem x_isStrv (l : List UInt8) : (AV.d (.str l)).isStrv = true := rfl
theorem x_bne (a b : List UInt8) : (a != b) = !(a == b) := rfl
theorem x_beqL (a b : D) (r s : List D) : beqL (a :: r) (b :: s) = (a.beq1 b && beqL r s) := rfl
theorem x_beqL0 : beqL [] [] = true := rfl
theorem x_beq1i (k k' : IntKind) (a b : Int) : (D.int k a).beq1 (.int k' b) = (a == b) := rfl
theorem x_beq1b (a b : Bool) : (D.bool a).beq1 (.bool b) = (a == b) := rfl
theorem x_beq1s (a b : List UInt8) : (D.str a).beq1 (.str b) = (a == b) := rfl
theorem x_cmpL (c : Nat) (cs : List Nat) (a b : D) (r s : List D) : cmpL (c :: cs) (a :: r) (b :: s) = (a.cmp1 c b && cmpL cs r s) := rfl
theorem x_cmpL0 : cmpL [] [] [] = true := rfl
theorem x_cmp1i (k k' : IntKind) (a b : Int) : (D.int k a).cmp1 0 (.int k' b) = decide (k = k') := rfl
theorem x_cmp1b (a b : Bool) : (D.bool a).cmp1 1 (.bool b) = true := rfl
theorem x_cmp1s (a b : List UInt8) : (D.str a).cmp1 2 (.str b) = true := rfl
theorem x_slV_str (lo hi : Int) (l : List UInt8) : slV lo hi (.d (.str l)) = .d (.str ((l.take hi.toNat).drop lo.toNat)) := rfl
theorem x_slV_sl (lo hi : Int) (l : List D) : slV lo hi (.d (.sl l)) = .d (.sl ((l.take hi.toNat).drop lo.toNat)) := rfl
theorem x_slV_osl (lo hi : Int) (i o k : Nat) : slV lo hi (.osl i o k) = .osl i (o + lo.toNat) (hi.toNat - lo.toNat) := rfl
theorem x_slV_nils (lo hi : Int) : slV lo hi .nils = .nils := rfl
theorem x_slOk_str (t : TypeId) (σ : Sto) (lo hi : Int) (l : List UInt8) : slOk P t σ lo hi (.d (.str l)) = (tstr P t = true ∧ 0 ≤ lo ∧ lo ≤ hi ∧ hi ≤ l.length) := rfl
theorem x_slOk_sl (t : TypeId) (σ : Sto) (lo hi : Int) (xs : List D) : slOk P t σ lo hi (.d (.sl xs)) = (((tidx P t).isSome = true ∧ (telem P t).isSome = true) ∧ 0 ≤ lo ∧ lo ≤ hi ∧ hi ≤ xs.length ∧ (match tidx P t with | some (_, es) => ∀ x ∈ xs, x.cells.length = es | none => False)) := rfl
theorem x_slOk_osl (t : TypeId) (σ : Sto) (lo hi : Int) (i o k : Nat) : slOk P t σ lo hi (.osl i o k) = ((telem P t).isSome = true ∧ 0 ≤ lo ∧ lo ≤ hi ∧ hi ≤ k ∧ (blkAt σ i).isArr = true ∧ tidx P t = some (none, (blkAt σ i).es)) := rfl
theorem x_slOk_nils (t : TypeId) (σ : Sto) (lo hi : Int) : slOk P t σ lo hi .nils = ((telem P t).isSome = true ∧ (tidx P t).isSome = true ∧ lo = 0 ∧ hi = 0) := rfl
theorem x_allmap {α : Type} (f : α → D) (l : List α) (p : D → Prop) : (∀ x, x ∈ l.map f → p x) = ∀ y, y ∈ l → p (f y) := by simp
theorem x_ops_app {n : Nat} {all : Array Oper} {draw : Bool} {env : Env} {σ : Sto} {K : Env → Sto → Prop} (o : Oper) (a b : List Oper) : evOps P Gl n all draw (List.append (o :: a) b) env σ K = evOps P Gl n all draw (o :: List.append a b) env σ K := rfl
theorem x_ops_nil {n : Nat} {all : Array Oper} {draw : Bool} {env : Env} {σ : Sto} {K : Env → Sto → Prop} (b : List Oper) : evOps P Gl n all draw (List.append [] b) env σ K = evOps P Gl n all draw b env σ K := rfl
theorem x_app {α : Type} (a : α) (l m : List α) : List.append (a :: l) m = a :: List.append l m := rfl
theorem x_app0 {α : Type} (m : List α) : List.append [] m = m := rfl
theorem x_gs0 {env : Env} {dst : Option Tmp} {op : Op} {ty : TypeId} {pos : String} {af : Array Edge} {g : Option (Nat × Bool)} (l m : List Oper) : gSlot ((List.append (⟨dst, op, ty, pos, af, g⟩ :: l) m).toArray) env 0 = (match dst with | some d => getE env d | none => .undef) := r_gSlot (List.append l m)
theorem x_gsS {env : Env} (o : Oper) (l m : List Oper) (j : Nat) : gSlot ((List.append (o :: l) m).toArray) env (j + 1) = gSlot (List.append l m).toArray env j := r_gSlot_succ o (List.append l m) j
theorem x_gsN {env : Env} (m : List Oper) (j : Nat) : gSlot ((List.append [] m).toArray) env j = gSlot m.toArray env j := rfl
theorem xRules : type_of% (And.intro @x_apOk (And.intro @x_dstOk_osl (And.intro @x_dstOk_nils (And.intro @x_srcOk_osl (And.intro @x_srcOk_nils (And.intro @x_srcOk_sl (And.intro @x_apV (And.intro @x_apS (And.intro @x_killS_osl (And.intro @x_killS_nils (And.intro @x_killS_d (And.intro @x_g1 (And.intro @x_g2 (And.intro @x_g3 (And.intro @x_g4 (And.intro @x_g5 (And.intro @x_strOf (And.intro @x_isStrv (And.intro @x_beqL (And.intro @x_beqL0 (And.intro @x_beq1i (And.intro @x_beq1b (And.intro @x_beq1s (And.intro @x_cmpL (And.intro @x_cmpL0 (And.intro @x_cmp1i (And.intro @x_cmp1b (And.intro @x_cmp1s (And.intro @x_slV_str (And.intro @x_slV_sl (And.intro @x_slV_osl (And.intro @x_slV_nils (And.intro @x_slOk_str (And.intro @x_slOk_sl (And.intro @x_slOk_osl (And.intro @x_slOk_nils (And.intro @x_allmap (And.intro @x_ops_app (And.intro @x_ops_nil (And.intro @x_app (And.intro @x_app0 (And.intro @x_gs0 (And.intro @x_gsS (@x_gsN)))))))))))))))))))))))))))))))))))))))))))) := And.intro @x_apOk (And.intro @x_dstOk_osl (And.intro @x_dstOk_nils (And.intro @x_srcOk_osl (And.intro @x_srcOk_nils (And.intro @x_srcOk_sl (And.intro @x_apV (And.intro @x_apS (And.intro @x_killS_osl (And.intro @x_killS_nils (And.intro @x_killS_d (And.intro @x_g1 (And.intro @x_g2 (And.intro @x_g3 (And.intro @x_g4 (And.intro @x_g5 (And.intro @x_strOf (And.intro @x_isStrv (And.intro @x_beqL (And.intro @x_beqL0 (And.intro @x_beq1i (And.intro @x_beq1b (And.intro @x_beq1s (And.intro @x_cmpL (And.intro @x_cmpL0 (And.intro @x_cmp1i (And.intro @x_cmp1b (And.intro @x_cmp1s (And.intro @x_slV_str (And.intro @x_slV_sl (And.intro @x_slV_osl (And.intro @x_slV_nils (And.intro @x_slOk_str (And.intro @x_slOk_sl (And.intro @x_slOk_osl (And.intro @x_slOk_nils (And.intro @x_allmap (And.intro @x_ops_app (And.intro @x_ops_nil (And.intro @x_app (And.intro @x_app0 (And.intro @x_gs0 (And.intro @x_gsS (@x_gsN)))))))))))))))))))))))))))))))))))))))))))
end Go.AM
