/- A part of the proof: an abstract machine over data, and lemmas; nothing of the statement. No condition beyond those stated. -/
import Derived.WalkKit
import Derived.Orders
import Derived.Below
import Derived.Laws.StructEq
import Derived.ChangeKeysEq
import Derived.Laws.Tables
import Derived.Great.BuildSlice
import Derived.Laws.MakeOwn
set_option linter.unusedVariables false
set_option linter.unusedSimpArgs false
set_option linter.unusedSectionVars false
set_option linter.unnecessarySimpa false

namespace Go.AM
inductive D where
 | int (k : IntKind) (n : Int)
 | bool (b : Bool)
 | str (s : List UInt8)
 | agg (cs : List D)
 | sl (xs : List D)
 | raw (v : Value)
instance : Inhabited D := ⟨.bool false⟩
def D.cells : D → List D
 | .agg cs => cs
 | x => [x]
def D.one : D → Bool
 | .agg _ => false
 | _ => true
def D.isAgg : D → Bool
 | .agg _ => true
 | _ => false
def D.isSl : D → Bool
 | .sl _ => true
 | _ => false
def D.isStr : D → Bool
 | .str _ => true
 | _ => false
def D.isBool : D → Bool
 | .bool _ => true
 | _ => false
def D.isInt (k : IntKind) : D → Bool
 | .int k' _ => decide (k' = k)
 | _ => false
def D.cell (x : D) (i : Nat) : D := x.cells.getD i default
def D.toInt : D → Int
 | .int _ n => n
 | _ => 0
def D.toBool : D → Bool
 | .bool b => b
 | _ => false
def D.toStr : D → List UInt8
 | .str s => s
 | _ => []
def D.toSl : D → List D
 | .sl xs => xs
 | _ => []
def D.sub (x : D) (off n : Nat) : D := .agg ((x.cells.drop off).take n)
def D.flat (x : D) : Prop := ∀ c ∈ x.cells, c.one = true
def D.putAt (x : D) (N off n : Nat) (u : D) : D :=
 if off = 0 ∧ n = N then u else .agg ((List.range N).map fun j => if off ≤ j ∧ j < off + n then u.cell (j - off) else x.cell j)
def simpleValue : Value → Bool
 | .pointer none => true
 | .map none => true
 | .nilFunc => true
 | .nilIface => true
 | _ => false
structure Im where
 rd : Nat → Prop
 fr : Nat → Prop
 sub : ∀ b, rd b → fr b
inductive RepD (w : World) (I : Im) : Value → D → Prop
 | int (k : IntKind) (n : Int) : RepD w I (.int k n) (.int k n)
 | bool (b : Bool) : RepD w I (.bool b) (.bool b)
 | str (s : List UInt8) : RepD w I (.string ⟨s.toArray⟩) (.str s)
 | raw (v : Value) (h : simpleValue v = true) : RepD w I v (.raw v)
 | agg (vs : List Value) (cs : List D) (hl : vs.length = cs.length) (hone : ∀ c ∈ cs, c.one = true)
   (h : ∀ (i : Nat) (v : Value) (x : D), vs[i]? = some v → cs[i]? = some x → RepD w I v x) : RepD w I (.agg vs.toArray) (.agg cs)
 | nil (a : Option Addr) (cap : Nat) : RepD w I (.slice a 0 cap) (.sl [])
 | sl (b off es cap : Nat) (xs : List D) (vals : Nat → Nat → Value) (hI : I.rd b) (hcap : xs.length ≤ cap) (hes : ∀ x ∈ xs, x.cells.length = es) (hfl : ∀ x ∈ xs, x.flat)
   (hc : ∀ i j, i < xs.length → j < es → w.cell? ⟨b, off + i * es + j, none⟩ = some (vals i j))
   (hr : ∀ (i j : Nat) (x y : D), xs[i]? = some x → x.cells[j]? = some y → RepD w I (vals i j) y) : RepD w I (.slice (some ⟨b, off, none⟩) xs.length cap) (.sl xs)
structure SlAt (w : World) (I : Im) (b off es : Nat) (xs : List D) : Prop where
 imm : I.rd b
 size : ∀ x ∈ xs, x.cells.length = es
 flat : ∀ x ∈ xs, x.flat
 cell : ∀ (i j : Nat) (x y : D), xs[i]? = some x → x.cells[j]? = some y → ∃ v, w.cell? ⟨b, off + i * es + j, none⟩ = some v ∧ RepD w I v y
inductive Key where
 | i (n : Int)
 | s (l : List UInt8)
deriving DecidableEq
def keyFits : Option IntKind → Key → Prop
 | some _, .i _ => True
 | none, .s _ => True
 | _, _ => False
def keyVal (ik : Option IntKind) : Key → Value
 | .i n => .int (ik.getD .i64) n
 | .s l => .string ⟨l.toArray⟩
inductive AV where
 | undef
 | d (x : D)
 | nils
 | agg (cs : List AV)
 | ptr (id off : Nat)
 | eptr (es : Nat) (xs : List D) (i off : Nat)
 | aptr (id i off : Nat)
 | osl (id off len : Nat)
 | fn (f : FuncId) (caps : List AV)
 | tup (vs : List AV)
 | iff (g : Bool) (v : AV)
 | mapr (id : Nat)
 | anyb
instance : Inhabited AV := ⟨.undef⟩
def AV.one : AV → Bool
 | .d x => x.one
 | .nils | .ptr .. | .osl .. | .fn .. | .eptr .. | .aptr .. | .mapr _ => true
 | _ => false
inductive Blk where
 | dead
 | box (n : Nat) (v : AV)
 | arr (es : Nat) (xs : List D)
 | frz (es : Nat) (xs : List D)
 | map (ik : Option IntKind) (f : Key → Option AV)
instance : Inhabited Blk := ⟨.dead⟩
abbrev Sto := List Blk
def blkAt (σ : Sto) (id : Nat) : Blk := σ.getD id .dead
def Blk.isDead : Blk → Bool
 | .dead => true
 | _ => false
def alive (σ : Sto) (id : Nat) : Prop := (blkAt σ id).isDead = false
def Blk.isArr : Blk → Bool
 | .arr .. | .frz .. => true
 | _ => false
def Blk.es : Blk → Nat
 | .arr es _ | .frz es _ => es
 | _ => 0
def Blk.xs : Blk → List D
 | .arr _ xs | .frz _ xs => xs
 | _ => []
def Blk.own : Blk → Bool
 | .box .. | .arr .. | .map .. => true
 | _ => false
def Blk.isMap : Blk → Bool
 | .map .. => true
 | _ => false
def Blk.mk : Blk → Option IntKind
 | .map ik _ => ik
 | _ => none
def Blk.mf : Blk → Key → Option AV
 | .map _ f => f
 | _ => fun _ => none
def AV.cellAt : AV → Nat → AV
 | .d x, j => .d (x.cell j)
 | .agg cs, j => cs.getD j .undef
 | v, _ => v
def AV.ncells : AV → Nat
 | .d x => x.cells.length
 | .agg cs => cs.length
 | _ => 1
def blkSize (w : World) (b : Nat) : Nat := match w.heap[b]? with | some (.cells c _ _) => c.size | _ => 0
def plainBlk (w : World) (b : Nat) : Prop := ∃ c t, w.heap[b]? = some (.cells c t (0, 0))
abbrev Pos := Nat → Option (Nat × Nat)
inductive RepV (w : World) (I : Im) (μ : Pos) (σ : Sto) : Value → AV → Prop
 | undef (v : Value) : RepV w I μ σ v .undef
 | d (v : Value) (x : D) (h : RepD w I v x) : RepV w I μ σ v (.d x)
 | nils : RepV w I μ σ (.slice none 0 0) .nils
 | agg (vs : List Value) (cs : List AV) (hl : vs.length = cs.length) (hone : ∀ c ∈ cs, c.one = true)
   (h : ∀ (i : Nat) (v : Value) (x : AV), vs[i]? = some v → cs[i]? = some x → RepV w I μ σ v x) : RepV w I μ σ (.agg vs.toArray) (.agg cs)
 | ptr (v : Value) (id off : Nat) (hid : id < σ.length) (h : ∃ b base, (alive σ id → μ id = some (b, base)) ∧ v = .pointer (some ⟨b, base + off, none⟩)) : RepV w I μ σ v (.ptr id off)
 | eptr (b o es : Nat) (xs : List D) (i off : Nat) (h : SlAt w I b o es xs) : RepV w I μ σ (.pointer (some ⟨b, o + i * es + off, none⟩)) (.eptr es xs i off)
 | aptr (v : Value) (id i off : Nat) (hid : id < σ.length) (h : ∃ b base es, (alive σ id → μ id = some (b, base) ∧ (blkAt σ id).es = es) ∧ v = .pointer (some ⟨b, base + i * es + off, none⟩)) : RepV w I μ σ v (.aptr id i off)
 | osl (v : Value) (id off len : Nat) (hid : id < σ.length)
   (h : (len = 0 ∧ ∃ a, v = .slice a 0 0) ∨
    ∃ b base es cap, (alive σ id → μ id = some (b, base) ∧ (blkAt σ id).isArr = true ∧ (blkAt σ id).es = es ∧ off + len ≤ (blkAt σ id).xs.length ∧ base + (off + cap) * es ≤ blkSize w b) ∧
     len ≤ cap ∧ v = .slice (some ⟨b, base + off * es, none⟩) len cap) : RepV w I μ σ v (.osl id off len)
 | fn (f : FuncId) (vs : List Value) (caps : List AV) (hl : vs.length = caps.length)
   (h : ∀ (i : Nat) (v : Value) (x : AV), vs[i]? = some v → caps[i]? = some x → RepV w I μ σ v x) : RepV w I μ σ (.func (.func f) #[] vs.toArray) (.fn f caps)
 | tup (vs : List Value) (cs : List AV) (hl : vs.length = cs.length)
   (h : ∀ (i : Nat) (v : Value) (x : AV), vs[i]? = some v → cs[i]? = some x → RepV w I μ σ v x) : RepV w I μ σ (.tuple vs.toArray) (.tup cs)
 | iff (g : Bool) (v : Value) (x : AV) (h1 : g = true → RepV w I μ σ v x) (h2 : g = false → v = Go.undef) : RepV w I μ σ v (.iff g x)
 | mapr (v : Value) (id : Nat) (hid : id < σ.length) (h : ∃ b, (alive σ id → μ id = some (b, 0)) ∧ v = .map (some b)) : RepV w I μ σ v (.mapr id)
 | anyb (b : Bool) : RepV w I μ σ (.bool b) .anyb
structure MapIs (w : World) (I : Im) (μ : Pos) (σ : Sto) (ik : Option IntKind) (f : Key → Option AV) (es : List MapEntry) : Prop where
 keys : ∀ e ∈ es, ∃ k, keyFits ik k ∧ e.key = keyVal ik k
 nodup : es.Pairwise fun e e' => e.key ≠ e'.key
 hit : ∀ k v, keyFits ik k → f k = some v → ∃ e ∈ es, e.key = keyVal ik k ∧ RepV w I μ σ e.val v
 miss : ∀ k, keyFits ik k → f k = none → ∀ e ∈ es, e.key ≠ keyVal ik k
def BlkRep (w : World) (I : Im) (μ : Pos) (σ : Sto) (id : Nat) : Blk → Prop
 | .dead => True
 | .box n v => ∃ b, μ id = some (b, 0) ∧ ¬ I.fr b ∧ plainBlk w b ∧ blkSize w b = n ∧ v.ncells = n ∧
   ∀ j, j < n → (v.cellAt j).one = true ∧ ∃ u, w.cell? ⟨b, j, none⟩ = some u ∧ RepV w I μ σ u (v.cellAt j)
 | .arr es xs => (μ id = none ∧ xs = []) ∨ ∃ b base, μ id = some (b, base) ∧ ¬ I.fr b ∧ plainBlk w b ∧ base + xs.length * es ≤ blkSize w b ∧ (∀ x ∈ xs, x.cells.length = es) ∧ (∀ x ∈ xs, x.flat) ∧
   ∀ (i j : Nat) (x y : D), xs[i]? = some x → x.cells[j]? = some y → ∃ v, w.cell? ⟨b, base + i * es + j, none⟩ = some v ∧ RepD w I v y
 | .frz es xs => (μ id = none ∧ xs = []) ∨ ∃ b base, μ id = some (b, base) ∧ SlAt w I b base es xs
 | .map ik f => ∃ b es clock, μ id = some (b, 0) ∧ ¬ I.fr b ∧ w.heap[b]? = some (.map es clock) ∧ MapIs w I μ σ ik f es.toList
structure Rel (w : World) (I : Im) (μ : Pos) (σ : Sto) : Prop where
 imm : ∀ b, I.fr b → b < w.heap.size
 blk : ∀ id, id < σ.length → BlkRep w I μ σ id (blkAt σ id)
 apart : ∀ i j b b' o o', i ≠ j → (blkAt σ i).own = true → (blkAt σ j).own = true → μ i = some (b, o) → μ j = some (b', o') → b ≠ b'
abbrev Env := List (Nat × AV)
def getE (env : Env) (t : Nat) : AV :=
 match env with
 | [] => .undef
 | (s, v) :: r => if s = t then v else getE r t
structure RelEnv (n : Nat) (w : World) (I : Im) (μ : Pos) (σ : Sto) (env : Env) (a : Act) : Prop where
 defers : a.defers = []
 size : a.tmps.size = n
 slot : ∀ t, RepV w I μ σ (a.tmps.getD t Go.undef) (getE env t)
structure Keep (m : Nat) (w : World) (I : Im) (μ : Pos) (σ : Sto) (w' : World) (I' : Im) (μ' : Pos) (σ' : Sto) : Prop where
 os : w'.os = w.os
 tape : w'.tape = w.tape
 output : w'.output = w.output
 size : w.heap.size ≤ w'.heap.size
 imm : ∀ b, I.rd b → I'.rd b
 fr : ∀ b, I.fr b → I'.fr b
 rdn : ∀ b, I'.rd b → I.rd b ∨ ¬ I.fr b
 same : ∀ b, I.fr b → w'.heap[b]? = w.heap[b]?
 bsize : ∀ b, blkSize w b ≤ blkSize w' b
 len : m ≤ σ'.length
 old : ∀ id, id < m → alive σ' id → alive σ id ∧ μ' id = μ id ∧ (blkAt σ' id).isArr = (blkAt σ id).isArr ∧ (blkAt σ' id).es = (blkAt σ id).es ∧ (blkAt σ id).xs.length ≤ (blkAt σ' id).xs.length
theorem Keep.refl {m : Nat} (w : World) (I : Im) (μ : Pos) (σ : Sto) (hm : m ≤ σ.length) : Keep m w I μ σ w I μ σ :=
 ⟨rfl, rfl, rfl, Nat.le_refl _, fun _ h => h, fun _ h => h, fun _ h => .inl h, fun _ _ => rfl, fun _ => Nat.le_refl _, hm, fun _ _ h => ⟨h, rfl, rfl, rfl, Nat.le_refl _⟩⟩
theorem Keep.trans {m : Nat} {w w1 w2 : World} {I I1 I2 : Im} {μ μ1 μ2 : Pos} {σ σ1 σ2 : Sto}
  (h : Keep m w I μ σ w1 I1 μ1 σ1) (k : Keep m w1 I1 μ1 σ1 w2 I2 μ2 σ2) : Keep m w I μ σ w2 I2 μ2 σ2 :=
 ⟨k.os.trans h.os, k.tape.trans h.tape, k.output.trans h.output, Nat.le_trans h.size k.size, fun b hb => k.imm b (h.imm b hb), fun b hb => k.fr b (h.fr b hb),
  (fun b hb => (k.rdn b hb).elim (fun h1 => h.rdn b h1) (fun h1 => .inr (fun h2 => h1 (h.fr b h2)))),
  fun b hb => (k.same b (h.fr b hb)).trans (h.same b hb), fun b => Nat.le_trans (h.bsize b) (k.bsize b), k.len, fun id hi ha => by
   obtain ⟨a1, e1, r1, s1, l1⟩ := k.old id hi ha
   obtain ⟨a2, e2, r2, s2, l2⟩ := h.old id hi a1
   exact ⟨a2, e1.trans e2, r1.trans r2, s1.trans s2, Nat.le_trans l2 l1⟩⟩
theorem Keep.mono {m m' : Nat} {w w' : World} {I I' : Im} {μ μ' : Pos} {σ σ' : Sto} (h : Keep m w I μ σ w' I' μ' σ') (hm : m' ≤ m) : Keep m' w I μ σ w' I' μ' σ' :=
 ⟨h.os, h.tape, h.output, h.size, h.imm, h.fr, h.rdn, h.same, h.bsize, Nat.le_trans hm h.len, fun id hi => h.old id (Nat.lt_of_lt_of_le hi hm)⟩
theorem Keep.rsame {m : Nat} {w w' : World} {I I' : Im} {μ μ' : Pos} {σ σ' : Sto} (h : Keep m w I μ σ w' I' μ' σ') : ∀ b, I.rd b → w'.heap[b]? = w.heap[b]? := fun b hb => h.same b (I.sub b hb)
theorem RepD.keep {w w' : World} {I I' : Im} (himm : ∀ b, I.rd b → I'.rd b) (hsame : ∀ b, I.rd b → w'.heap[b]? = w.heap[b]?) {v : Value} {x : D} (h : RepD w I v x) : RepD w' I' v x := by
 induction h with
 | int k n => exact .int k n
 | bool b => exact .bool b
 | str s => exact .str s
 | raw v h => exact .raw v h
 | agg vs cs hl hone h ih => exact .agg vs cs hl hone ih
 | nil a cap => exact .nil a cap
 | sl b off es cap xs vals hI hcap hes hfl hc hr ih =>
  exact .sl b off es cap xs vals (himm b hI) hcap hes hfl (fun i j hi hj => by rw [World.cell?_of_block (w := w) (hsame b hI)]; exact hc i j hi hj) ih
theorem SlAt.keep {w w' : World} {I I' : Im} (himm : ∀ b, I.rd b → I'.rd b) (hsame : ∀ b, I.rd b → w'.heap[b]? = w.heap[b]?) {b o es : Nat} {xs : List D} (h : SlAt w I b o es xs) : SlAt w' I' b o es xs :=
 ⟨himm b h.imm, h.size, h.flat, fun i j x y hx hy => by
  obtain ⟨v, hv, hr⟩ := h.cell i j x y hx hy
  exact ⟨v, by rw [World.cell?_of_block (w := w) (hsame b h.imm)]; exact hv, hr.keep himm hsame⟩⟩
theorem RepV.keep {w w' : World} {I I' : Im} {μ μ' : Pos} {σ σ' : Sto} (k : Keep σ.length w I μ σ w' I' μ' σ') {v : Value} {x : AV} (h : RepV w I μ σ v x) : RepV w' I' μ' σ' v x := by
 induction h with
 | undef v => exact .undef v
 | d v x h => exact .d v x (h.keep k.imm k.rsame)
 | nils => exact .nils
 | agg vs cs hl hone h ih => exact .agg vs cs hl hone ih
 | ptr v id off hid h =>
  obtain ⟨b, base, h1, h2⟩ := h
  refine .ptr v id off (Nat.lt_of_lt_of_le hid k.len) ⟨b, base, fun ha => ?_, h2⟩
  obtain ⟨a1, e1, _⟩ := k.old id hid ha
  rw [e1]; exact h1 a1
 | eptr b o es xs i off h => exact .eptr b o es xs i off (h.keep k.imm k.rsame)
 | aptr v id i off hid h =>
  obtain ⟨b, base, es, h1, h2⟩ := h
  refine .aptr v id i off (Nat.lt_of_lt_of_le hid k.len) ⟨b, base, es, fun ha => ?_, h2⟩
  obtain ⟨a1, e1, _, e2, _⟩ := k.old id hid ha
  rw [e1, e2]; exact h1 a1
 | osl v id off len hid h =>
  refine .osl v id off len (Nat.lt_of_lt_of_le hid k.len) ?_
  rcases h with h | ⟨b, base, es, cap, h1, h2, h3⟩
  ·exact .inl h
  ·refine .inr ⟨b, base, es, cap, fun ha => ?_, h2, h3⟩
   obtain ⟨a1, e1, e2, e3, e4⟩ := k.old id hid ha
   obtain ⟨p1, p2, p3, p4, p5⟩ := h1 a1
   exact ⟨e1.trans p1, e2.trans p2, e3.trans p3, Nat.le_trans p4 e4, Nat.le_trans p5 (k.bsize b)⟩
 | fn f vs caps hl h ih => exact .fn f vs caps hl ih
 | tup vs cs hl h ih => exact .tup vs cs hl ih
 | iff g v x h1 h2 ih => exact .iff g v x ih h2
 | mapr v id hid h =>
  obtain ⟨b, h1, h2⟩ := h
  refine .mapr v id (Nat.lt_of_lt_of_le hid k.len) ⟨b, fun ha => ?_, h2⟩
  obtain ⟨a1, e1, _⟩ := k.old id hid ha
  rw [e1]; exact h1 a1
 | anyb b => exact .anyb b
theorem MapIs.imp {w w' : World} {I I' : Im} {μ μ' : Pos} {σ σ' : Sto} {ik : Option IntKind} {f : Key → Option AV} {g : AV → AV} {es : List MapEntry} (h : MapIs w I μ σ ik f es) (hr : ∀ v u, RepV w I μ σ v u → RepV w' I' μ' σ' v (g u)) : MapIs w' I' μ' σ' ik (fun k => (f k).map g) es :=
 ⟨h.keys, h.nodup, fun k v hk hv => by
  cases hf : f k with
  | none => rw [hf] at hv; cases hv
  | some u =>
   rw [hf] at hv
   simp only [Option.map_some, Option.some.injEq] at hv
   subst hv
   obtain ⟨e, h1, h2, h3⟩ := h.hit k u hk hf
   exact ⟨e, h1, h2, hr _ _ h3⟩, fun k hk hv => h.miss k hk (by cases hf : f k with | none => rfl | some u => rw [hf] at hv; cases hv)⟩
theorem MapIs.imp' {w w' : World} {I I' : Im} {μ μ' : Pos} {σ σ' : Sto} {ik : Option IntKind} {f : Key → Option AV} {es : List MapEntry} (h : MapIs w I μ σ ik f es) (hr : ∀ v u, RepV w I μ σ v u → RepV w' I' μ' σ' v u) : MapIs w' I' μ' σ' ik f es := by
 have := h.imp (g := fun u => u) hr
 have e : (fun k => (f k).map fun u => u) = f := by funext k; cases f k <;> rfl
 rwa [e] at this
theorem plainBlk.same {w w' : World} {b : Nat} (h : plainBlk w b) (e : w'.heap[b]? = w.heap[b]?) : plainBlk w' b := by
 obtain ⟨c, t, hc⟩ := h
 exact ⟨c, t, e.trans hc⟩
theorem blkSize_same {w w' : World} {b : Nat} (e : w'.heap[b]? = w.heap[b]?) : blkSize w' b = blkSize w b := by unfold blkSize; rw [e]
theorem BlkRep.keep {w w' : World} {I I' : Im} {μ μ' : Pos} {σ σ' : Sto} (k : Keep σ.length w I μ σ w' I' μ' σ') {id : Nat} {B : Blk} (hμ : μ' id = μ id)
  (hb : B.own = true → ∀ b o, μ id = some (b, o) → w'.heap[b]? = w.heap[b]? ∧ (¬ I.fr b → ¬ I'.fr b)) (h : BlkRep w I μ σ id B) : BlkRep w' I' μ' σ' id B := by
 cases B with
 | dead => trivial
 | box n v =>
  obtain ⟨b, h1, h2, h3, h4, h5, h6⟩ := h
  obtain ⟨e, ni⟩ := hb rfl b 0 h1
  refine ⟨b, hμ.trans h1, ni h2, h3.same e, (blkSize_same e).trans h4, h5, fun j hj => ?_⟩
  obtain ⟨h7, u, h8, h9⟩ := h6 j hj
  exact ⟨h7, u, by rw [World.cell?_of_block (w := w) e]; exact h8, h9.keep k⟩
 | arr es xs =>
  rcases h with ⟨h1, h2⟩ | ⟨b, base, h1, h2, h3, h4, h5, h6, h7⟩
  ·exact .inl ⟨hμ.trans h1, h2⟩
  ·obtain ⟨e, ni⟩ := hb rfl b base h1
   refine .inr ⟨b, base, hμ.trans h1, ni h2, h3.same e, by rw [blkSize_same e]; exact h4, h5, h6, fun i j x y hx hy => ?_⟩
   obtain ⟨v, hv, hr⟩ := h7 i j x y hx hy
   exact ⟨v, by rw [World.cell?_of_block (w := w) e]; exact hv, hr.keep k.imm k.rsame⟩
 | frz es xs =>
  rcases h with ⟨h1, h2⟩ | ⟨b, base, h1, h2⟩
  ·exact .inl ⟨hμ.trans h1, h2⟩
  ·exact .inr ⟨b, base, hμ.trans h1, h2.keep k.imm k.rsame⟩
 | map ik f =>
  obtain ⟨b, es, clock, h1, h2, h3, h4⟩ := h
  obtain ⟨e, ni⟩ := hb rfl b 0 h1
  exact ⟨b, es, clock, hμ.trans h1, ni h2, e.trans h3, h4.imp' fun v u hv => hv.keep k⟩
theorem RelEnv.keep {n : Nat} {w w' : World} {I I' : Im} {μ μ' : Pos} {σ σ' : Sto} (k : Keep σ.length w I μ σ w' I' μ' σ') {env : Env} {a : Act} (h : RelEnv n w I μ σ env a) : RelEnv n w' I' μ' σ' env a :=
 ⟨h.defers, h.size, fun t => (h.slot t).keep k⟩
theorem RelEnv.put {n : Nat} {w : World} {I : Im} {μ : Pos} {σ : Sto} {env : Env} {a : Act} (h : RelEnv n w I μ σ env a) {d : Nat} (hd : d < n) {v : Value} {x : AV} (hv : RepV w I μ σ v x) :
  RelEnv n w I μ σ ((d, x) :: env) (a.put (some d) v) := by
 refine ⟨h.defers, by simp [Act.put, h.size], fun t => ?_⟩
 have hs := h.size
 by_cases e : d = t
 ·subst e
  simp only [Act.put, getE, if_true]
  rw [Array.getD_eq_getD_getElem?, Array.getElem?_setIfInBounds_self_of_lt (by omega)]
  exact hv
 ·simp only [Act.put, getE, if_neg e]
  rw [Array.getD_eq_getD_getElem?, Array.getElem?_setIfInBounds_ne e, ← Array.getD_eq_getD_getElem?]
  exact h.slot t
theorem alive_lt {σ : Sto} {id : Nat} (h : alive σ id) : id < σ.length := by
 unfold alive blkAt at h
 rcases Nat.lt_or_ge id σ.length with h' | h'
 ·exact h'
 ·rw [List.getD_eq_getElem?_getD, List.getElem?_eq_none h'] at h; simp [Blk.isDead] at h
theorem blkAt_append_old {σ τ : Sto} {id : Nat} (h : id < σ.length) : blkAt (σ ++ τ) id = blkAt σ id := by
 unfold blkAt; simp [List.getD_eq_getElem?_getD, List.getElem?_append_left h]
theorem blkAt_append_new {σ : Sto} {B : Blk} : blkAt (σ ++ [B]) σ.length = B := by
 unfold blkAt; simp [List.getD_eq_getElem?_getD]
theorem blkAt_set_ne {σ : Sto} {i j : Nat} {B : Blk} (h : i ≠ j) : blkAt (σ.set i B) j = blkAt σ j := by
 unfold blkAt; simp [List.getD_eq_getElem?_getD, List.getElem?_set_ne h]
theorem blkAt_set_self {σ : Sto} {i : Nat} {B : Blk} (h : i < σ.length) : blkAt (σ.set i B) i = B := by
 unfold blkAt; simp [List.getD_eq_getElem?_getD, List.getElem?_set_self h]
end Go.AM


namespace Go.AM
variable {w w' : World} {I : Im} {μ : Pos} {σ : Sto}
structure SameMem (w w' : World) : Prop where
 os : w'.os = w.os
 tape : w'.tape = w.tape
 output : w'.output = w.output
 heap : w'.heap = w.heap
theorem SameMem.refl (w : World) : SameMem w w := ⟨rfl, rfl, rfl, rfl⟩
theorem SameMem.drew (w : World) : SameMem w { w with drawn := w.drawn + 1 } := ⟨rfl, rfl, rfl, rfl⟩
theorem SameMem.keep (s : SameMem w w') : Keep σ.length w I μ σ w' I μ σ :=
 ⟨s.os, s.tape, s.output, by rw [s.heap]; exact Nat.le_refl _, fun _ h => h, fun _ h => h, fun _ h => .inl h, fun _ _ => by rw [s.heap], fun b => by unfold blkSize; rw [s.heap]; exact Nat.le_refl _, Nat.le_refl _, fun _ _ h => ⟨h, rfl, rfl, rfl, Nat.le_refl _⟩⟩
theorem SameMem.rel (s : SameMem w w') (h : Rel w I μ σ) : Rel w' I μ σ :=
 ⟨fun b hb => by rw [s.heap]; exact h.imm b hb, fun id hid => (h.blk id hid).keep s.keep rfl (fun _ b o _ => ⟨by rw [s.heap], fun hn => hn⟩), h.apart⟩
def posNew (μ : Pos) (id : Nat) (p : Nat × Nat) : Pos := fun i => if i = id then some p else μ i
theorem posNew_self (μ : Pos) (id : Nat) (p : Nat × Nat) : posNew μ id p id = some p := by simp [posNew]
theorem posNew_ne (μ : Pos) {id i : Nat} (p : Nat × Nat) (h : i ≠ id) : posNew μ id p i = μ i := by simp [posNew, h]
theorem blkSize_alloc (w : World) (o : Obj) (b : Nat) : blkSize w b ≤ blkSize (w.alloc o) b := by
 unfold blkSize
 rcases Nat.lt_or_ge b w.heap.size with h | h
 ·rw [RowKit.Below.heap_alloc _ _ _ h]; exact Nat.le_refl _
 ·rw [Array.getElem?_eq_none h]; exact Nat.zero_le _
theorem heap_alloc_new (w : World) (o : Obj) : (w.alloc o).heap[w.heap.size]? = some o := by
 show (w.heap.push o)[w.heap.size]? = some o
 simp
theorem blkSize_new (w : World) (c : Array Value) (t : TypeId) : blkSize (w.alloc (.cells c t)) w.heap.size = c.size := by
 unfold blkSize; rw [heap_alloc_new]
theorem plainBlk_new (w : World) (c : Array Value) (t : TypeId) : plainBlk (w.alloc (.cells c t)) w.heap.size := ⟨c, t, heap_alloc_new _ _⟩
theorem keep_alloc (h : Rel w I μ σ) (o : Obj) (p : Nat × Nat) (B : Blk) : Keep σ.length w I μ σ (w.alloc o) I (posNew μ σ.length p) (σ ++ [B]) :=
 ⟨rfl, rfl, rfl, by simp, fun _ h => h, fun _ h => h, fun _ h => .inl h, fun b hb => RowKit.Below.heap_alloc _ _ _ (h.imm b hb), blkSize_alloc w o, by simp, fun id hid ha => by
  refine ⟨?_, posNew_ne _ _ (by omega), ?_⟩
  ·unfold alive at *; rw [blkAt_append_old hid] at ha; exact ha
  ·rw [blkAt_append_old hid]; exact ⟨rfl, rfl, Nat.le_refl _⟩⟩
theorem own_lt (h : Rel w I μ σ) {id : Nat} (hid : id < σ.length) (ho : (blkAt σ id).own = true) {b o : Nat} (hμ : μ id = some (b, o)) : b < w.heap.size ∧ ¬ I.fr b := by
 have hb := h.blk id hid
 cases e : blkAt σ id with
 | dead => rw [e] at ho; simp [Blk.own] at ho
 | frz es xs => rw [e] at ho; simp [Blk.own] at ho
 | box n v =>
  rw [e] at hb
  obtain ⟨b', h1, h2, ⟨c, t, h3⟩, _⟩ := hb
  rw [hμ] at h1
  simp only [Option.some.injEq, Prod.mk.injEq] at h1
  obtain ⟨rfl, rfl⟩ := h1
  refine ⟨?_, h2⟩
  rcases Nat.lt_or_ge b w.heap.size with h' | h'
  ·exact h'
  ·rw [Array.getElem?_eq_none h'] at h3; cases h3
 | arr es xs =>
  rw [e] at hb
  rcases hb with ⟨h1, _⟩ | ⟨b', base, h1, h2, ⟨c, t, h3⟩, _⟩
  ·rw [hμ] at h1; cases h1
  ·rw [hμ] at h1
   simp only [Option.some.injEq, Prod.mk.injEq] at h1
   obtain ⟨rfl, rfl⟩ := h1
   refine ⟨?_, h2⟩
   rcases Nat.lt_or_ge b w.heap.size with h' | h'
   ·exact h'
   ·rw [Array.getElem?_eq_none h'] at h3; cases h3
 | map ik f =>
  rw [e] at hb
  obtain ⟨b', es, clock, h1, h2, h3, _⟩ := hb
  rw [hμ] at h1
  simp only [Option.some.injEq, Prod.mk.injEq] at h1
  obtain ⟨rfl, rfl⟩ := h1
  refine ⟨?_, h2⟩
  rcases Nat.lt_or_ge b w.heap.size with h' | h'
  ·exact h'
  ·rw [Array.getElem?_eq_none h'] at h3; cases h3
theorem blkAt_own_lt {id : Nat} (ho : (blkAt σ id).own = true) : id < σ.length := by
 rcases Nat.lt_or_ge id σ.length with h' | h'
 ·exact h'
 ·unfold blkAt at ho; rw [List.getD_eq_getElem?_getD, List.getElem?_eq_none h'] at ho; simp [Blk.own] at ho
theorem Rel.alloc (h : Rel w I μ σ) (o : Obj) (B : Blk)
  (hB : BlkRep (w.alloc o) I (posNew μ σ.length (w.heap.size, 0)) (σ ++ [B]) σ.length B) : Rel (w.alloc o) I (posNew μ σ.length (w.heap.size, 0)) (σ ++ [B]) := by
 refine ⟨fun b hb => ?_, fun id hid => ?_, ?_⟩
 ·have := h.imm b hb
  simp; omega
 ·simp only [List.length_append, List.length_cons, List.length_nil] at hid
  by_cases e : id = σ.length
  ·subst e; rw [blkAt_append_new]; exact hB
  ·have hid' : id < σ.length := by omega
   rw [blkAt_append_old hid']
   refine (h.blk id hid').keep (keep_alloc h o _ B) (posNew_ne _ _ e) fun ho b o' hμ => ⟨RowKit.Below.heap_alloc _ _ _ (own_lt h hid' ho hμ).1, fun hn => hn⟩
 ·intro i j b b' oi oj hij hi hj hμi hμj
  have li := blkAt_own_lt hi
  have lj := blkAt_own_lt hj
  simp only [List.length_append, List.length_cons, List.length_nil] at li lj
  by_cases ei : i = σ.length
  ·subst ei
   have lj' : j < σ.length := by omega
   rw [posNew_self] at hμi
   rw [posNew_ne _ _ (by omega)] at hμj
   rw [blkAt_append_old lj'] at hj
   have := (own_lt h lj' hj hμj).1
   simp only [Option.some.injEq, Prod.mk.injEq] at hμi
   omega
  ·have li' : i < σ.length := by omega
   rw [posNew_ne _ _ ei] at hμi
   rw [blkAt_append_old li'] at hi
   by_cases ej : j = σ.length
   ·subst ej
    rw [posNew_self] at hμj
    have := (own_lt h li' hi hμi).1
    simp only [Option.some.injEq, Prod.mk.injEq] at hμj
    omega
   ·have lj' : j < σ.length := by omega
    rw [posNew_ne _ _ ej] at hμj
    rw [blkAt_append_old lj'] at hj
    exact h.apart i j b b' oi oj hij hi hj hμi hμj
theorem Rel.newBox (h : Rel w I μ σ) (c : Array Value) (t : TypeId) (v : AV) (hn : v.ncells = c.size)
  (hc : ∀ j u, c[j]? = some u → (v.cellAt j).one = true ∧ RepV w I μ σ u (v.cellAt j)) :
  Rel (w.alloc (.cells c t)) I (posNew μ σ.length (w.heap.size, 0)) (σ ++ [.box c.size v]) := by
 refine h.alloc _ _ ⟨w.heap.size, posNew_self _ _ _, fun hI => ?_, plainBlk_new _ _ _, blkSize_new _ _ _, hn, fun j hj => ?_⟩
 ·have := h.imm _ hI; omega
 ·obtain ⟨h1, h2⟩ := hc j c[j] (by simp [hj])
  exact ⟨h1, c[j], by rw [World.cell?_alloc_new]; simp [hj], h2.keep (keep_alloc h _ _ _)⟩
theorem newBox_rep (c : Array Value) (t : TypeId) (v : AV) :
  RepV (w.alloc (.cells c t)) I (posNew μ σ.length (w.heap.size, 0)) (σ ++ [.box c.size v]) (.pointer (some ⟨w.heap.size, 0, none⟩)) (.ptr σ.length 0) :=
 .ptr _ _ _ (by simp) ⟨w.heap.size, 0, fun _ => posNew_self _ _ _, rfl⟩
theorem Rel.newArr (h : Rel w I μ σ) (c : Array Value) (t : TypeId) (es : Nat) (xs : List D) (hn : xs.length * es ≤ c.size) (hes : ∀ x ∈ xs, x.cells.length = es) (hfl : ∀ x ∈ xs, x.flat)
  (hc : ∀ (i j : Nat) (x y : D), xs[i]? = some x → x.cells[j]? = some y → ∃ u, c[i * es + j]? = some u ∧ RepD w I u y) :
  Rel (w.alloc (.cells c t)) I (posNew μ σ.length (w.heap.size, 0)) (σ ++ [.arr es xs]) := by
 refine h.alloc _ _ (.inr ⟨w.heap.size, 0, posNew_self _ _ _, fun hI => ?_, plainBlk_new _ _ _, by rw [blkSize_new]; omega, hes, hfl, fun i j x y hx hy => ?_⟩)
 ·have := h.imm _ hI; omega
 ·obtain ⟨u, h1, h2⟩ := hc i j x y hx hy
  have k := keep_alloc h (.cells c t) (w.heap.size, 0) (.arr es xs)
  exact ⟨u, by rw [World.cell?_alloc_new, Nat.zero_add]; exact h1, h2.keep k.imm k.rsame⟩
structure WroteAt (b : Nat) (w w' : World) : Prop where
 os : w'.os = w.os
 tape : w'.tape = w.tape
 output : w'.output = w.output
 size : w'.heap.size = w.heap.size
 else_ : ∀ b', b' ≠ b → w'.heap[b']? = w.heap[b']?
 bsize : blkSize w' b = blkSize w b
 plain : plainBlk w b → plainBlk w' b
theorem WroteAt.refl (b : Nat) (w : World) : WroteAt b w w := ⟨rfl, rfl, rfl, rfl, fun _ _ => rfl, rfl, id⟩
theorem WroteAt.trans {b : Nat} {w w1 w2 : World} (h : WroteAt b w w1) (k : WroteAt b w1 w2) : WroteAt b w w2 :=
 ⟨k.os.trans h.os, k.tape.trans h.tape, k.output.trans h.output, k.size.trans h.size, fun b' hb => (k.else_ b' hb).trans (h.else_ b' hb), k.bsize.trans h.bsize, fun hp => k.plain (h.plain hp)⟩
theorem keep_upd {id b base : Nat} (h : Rel w I μ σ) (hown : (blkAt σ id).own = true) (hμ : μ id = some (b, base)) (ww : WroteAt b w w') (B : Blk)
  (ha : B.isArr = (blkAt σ id).isArr) (he : B.es = (blkAt σ id).es) (hl : (blkAt σ id).xs.length ≤ B.xs.length) : Keep σ.length w I μ σ w' I μ (σ.set id B) := by
 have hid := blkAt_own_lt hown
 obtain ⟨_, hnI⟩ := own_lt h hid hown hμ
 refine ⟨ww.os, ww.tape, ww.output, by rw [ww.size]; exact Nat.le_refl _, fun _ h => h, fun _ h => h, fun _ h => .inl h, fun b' hb => ww.else_ b' (fun e => hnI (e ▸ hb)), fun b' => ?_, by simp, fun i hi hal => ?_⟩
 ·by_cases e : b' = b
  ·subst e; rw [ww.bsize]; exact Nat.le_refl _
  ·rw [blkSize_same (ww.else_ b' e)]; exact Nat.le_refl _
 ·by_cases e : id = i
  ·subst e
   rw [blkAt_set_self hid]
   refine ⟨?_, rfl, ha, he, hl⟩
   unfold alive
   cases hB : blkAt σ id <;> simp_all [Blk.own, Blk.isDead]
  ·unfold alive at *
   rw [blkAt_set_ne e] at hal ⊢
   exact ⟨hal, rfl, rfl, rfl, Nat.le_refl _⟩
theorem Rel.upd {id b base : Nat} (h : Rel w I μ σ) (hown : (blkAt σ id).own = true) (hμ : μ id = some (b, base)) (ww : WroteAt b w w') (B : Blk)
  (ha : B.isArr = (blkAt σ id).isArr) (he : B.es = (blkAt σ id).es) (hl : (blkAt σ id).xs.length ≤ B.xs.length)
  (hrep : BlkRep w' I μ (σ.set id B) id B) : Rel w' I μ (σ.set id B) := by
 have hid := blkAt_own_lt hown
 have k := keep_upd h hown hμ ww B ha he hl
 refine ⟨fun b' hb => by rw [ww.size]; exact h.imm b' hb, fun i hi => ?_, ?_⟩
 ·by_cases e : id = i
  ·subst e; rw [blkAt_set_self hid]; exact hrep
  ·rw [blkAt_set_ne e]
   simp only [List.length_set] at hi
   refine (h.blk i hi).keep k rfl fun ho b' o' hμ' => ⟨ww.else_ b' ?_, fun hn => hn⟩
   exact (h.apart id i b b' base o' e hown ho hμ hμ').symm
 ·intro i j bi bj oi oj hij hi hj hμi hμj
  have t : ∀ i, (blkAt (σ.set id B) i).own = true → (blkAt σ i).own = true := fun i hi => by
   by_cases e : id = i
   ·subst e; exact hown
   ·rwa [blkAt_set_ne e] at hi
  exact h.apart i j bi bj oi oj hij (t i hi) (t j hj) hμi hμj
theorem keep_kill (id : Nat) : Keep σ.length w I μ σ w I μ (σ.set id .dead) := by
 refine ⟨rfl, rfl, rfl, Nat.le_refl _, fun _ h => h, fun _ h => h, fun _ h => .inl h, fun _ _ => rfl, fun _ => Nat.le_refl _, by simp, fun i hi hal => ?_⟩
 by_cases e : id = i
 ·subst e; unfold alive at hal; rw [blkAt_set_self hi] at hal; simp [Blk.isDead] at hal
 ·unfold alive at *
  rw [blkAt_set_ne e] at hal ⊢
  exact ⟨hal, rfl, rfl, rfl, Nat.le_refl _⟩
theorem Rel.kill (h : Rel w I μ σ) (id : Nat) : Rel w I μ (σ.set id .dead) := by
 refine ⟨h.imm, fun i hi => ?_, ?_⟩
 ·simp only [List.length_set] at hi
  by_cases e : id = i
  ·subst e; rw [blkAt_set_self hi]; trivial
  ·rw [blkAt_set_ne e]
   exact (h.blk i hi).keep (keep_kill id) rfl fun _ _ _ _ => ⟨rfl, fun hn => hn⟩
 ·intro i j bi bj oi oj hij hi hj
  have t : ∀ i, (blkAt (σ.set id .dead) i).own = true → (blkAt σ i).own = true := fun i hi => by
   by_cases e : id = i
   ·subst e; have := blkAt_own_lt hi; simp only [List.length_set] at this; rw [blkAt_set_self this] at hi; simp [Blk.own] at hi
   ·rwa [blkAt_set_ne e] at hi
  exact h.apart i j bi bj oi oj hij (t i hi) (t j hj)
def Blk.frozen : Blk → Blk
 | .arr es xs => .frz es xs
 | B => B
def freeze (σ : Sto) (id : Nat) : Sto := σ.set id (blkAt σ id).frozen
def immAnd (I : Im) (μ : Pos) (σ : Sto) (id : Nat) : Im where
 rd := fun b => I.rd b ∨ ((blkAt σ id).isArr = true ∧ (blkAt σ id).own = true ∧ ∃ o, μ id = some (b, o))
 fr := fun b => I.fr b ∨ ((blkAt σ id).isArr = true ∧ (blkAt σ id).own = true ∧ ∃ o, μ id = some (b, o))
 sub := fun b h => h.elim (fun h => .inl (I.sub b h)) .inr
theorem keep_freeze (h : Rel w I μ σ) (id : Nat) : Keep σ.length w I μ σ w (immAnd I μ σ id) μ (freeze σ id) := by
 refine ⟨rfl, rfl, rfl, Nat.le_refl _, fun _ h => .inl h, fun _ h => .inl h, (fun b hb => hb.elim .inl fun hb => .inr (by obtain ⟨_, h2, o, h3⟩ := hb; exact (own_lt h (blkAt_own_lt h2) h2 h3).2)), fun _ _ => rfl, fun _ => Nat.le_refl _, by simp [freeze], fun i hi hal => ?_⟩
 unfold alive freeze at *
 by_cases e : id = i
 ·subst e
  rw [blkAt_set_self hi] at hal ⊢
  cases hB : blkAt σ id <;> simp_all [Blk.frozen, Blk.isArr, Blk.isDead, Blk.es, Blk.xs]
 ·rw [blkAt_set_ne e] at hal ⊢
  exact ⟨hal, rfl, rfl, rfl, Nat.le_refl _⟩
theorem Rel.freeze (h : Rel w I μ σ) (id : Nat) : Rel w (immAnd I μ σ id) μ (freeze σ id) := by
 have k : Keep σ.length w I μ σ w (immAnd I μ σ id) μ (AM.freeze σ id) := keep_freeze h id
 refine ⟨fun b hb => ?_, fun i hi => ?_, ?_⟩
 ·rcases hb with hb | ⟨h1, h2, o, h3⟩
  ·exact h.imm b hb
  ·exact (own_lt h (blkAt_own_lt h2) h2 h3).1
 ·simp only [AM.freeze, List.length_set] at hi
  by_cases e : id = i
  ·subst e
   have hb := h.blk id hi
   have e2 : blkAt (AM.freeze σ id) id = (blkAt σ id).frozen := by unfold AM.freeze; rw [blkAt_set_self hi]
   rw [e2]
   cases hB : blkAt σ id with
   | arr es xs =>
    rw [hB] at hb
    show BlkRep _ _ _ _ _ (.frz es xs)
    rcases hb with h1 | ⟨b, base, h1, h2, h3, h4, h5, h6, h7⟩
    ·exact .inl h1
    ·refine .inr ⟨b, base, h1, .inr ⟨by rw [hB]; rfl, by rw [hB]; rfl, base, h1⟩, h5, h6, fun i j x y hx hy => ?_⟩
     obtain ⟨v, hv, hr⟩ := h7 i j x y hx hy
     exact ⟨v, hv, hr.keep k.imm k.rsame⟩
   | dead => trivial
   | box n v =>
    rw [hB] at hb
    refine hb.keep (B := .box n v) k rfl fun _ b o hμ => ⟨rfl, fun hn hI => ?_⟩
    rcases hI with hI | ⟨h1, _⟩
    ·exact hn hI
    ·rw [hB] at h1; simp [Blk.isArr] at h1
   | frz es xs =>
    rw [hB] at hb
    exact hb.keep (B := .frz es xs) k rfl fun ho => by simp [Blk.own] at ho
   | map ik f =>
    rw [hB] at hb
    refine hb.keep (B := .map ik f) k rfl fun _ b o hμ => ⟨rfl, fun hn hI => ?_⟩
    rcases hI with hI | ⟨h1, _⟩
    ·exact hn hI
    ·rw [hB] at h1; simp [Blk.isArr] at h1
  ·have e2 : blkAt (AM.freeze σ id) i = blkAt σ i := by unfold AM.freeze; rw [blkAt_set_ne e]
   rw [e2]
   refine (h.blk i hi).keep k rfl fun ho b o hμ => ⟨rfl, fun hn hI => ?_⟩
   rcases hI with hI | ⟨_, h2, o', h3⟩
   ·exact hn hI
   ·exact h.apart id i b b o' o e h2 ho h3 hμ rfl
 ·intro i j bi bj oi oj hij hi hj
  have t : ∀ i, (blkAt (AM.freeze σ id) i).own = true → (blkAt σ i).own = true := fun i hi => by
   unfold AM.freeze at hi
   by_cases e : id = i
   ·subst e
    have := blkAt_own_lt hi; simp only [List.length_set] at this; rw [blkAt_set_self this] at hi
    cases hB : blkAt σ id <;> rw [hB] at hi <;> simp_all [Blk.own, Blk.frozen]
   ·rwa [blkAt_set_ne e] at hi
  exact h.apart i j bi bj oi oj hij (t i hi) (t j hj)
theorem RepV.oslData (h : Rel w I μ σ) {v : Value} {id off len : Nat} (hv : RepV w I μ σ v (.osl id off len)) (hz : (blkAt σ id).isArr = true) (hown : (blkAt σ id).own = false) :
  RepD w I v (.sl (((blkAt σ id).xs.drop off).take len)) := by
 cases hv with
 | osl _ _ _ _ hid hv =>
  rcases hv with ⟨rfl, a, rfl⟩ | ⟨b, base, es, cap, h1, h2, rfl⟩
  ·simpa using RepD.nil a 0
  ·cases hB : blkAt σ id with
   | frz es' xs =>
    have hb := h.blk id hid
    have hal : alive σ id := by unfold alive; rw [hB]; rfl
    obtain ⟨p1, p2, p3, p4, p5⟩ := h1 hal
    rw [hB] at hb p3 p4
    simp only [Blk.es, Blk.xs] at p3 p4 ⊢
    subst p3
    rcases hb with ⟨h3, rfl⟩ | ⟨b', base', h3, hs⟩
    ·rw [p1] at h3; cases h3
    ·rw [p1] at h3
     simp only [Option.some.injEq, Prod.mk.injEq] at h3
     obtain ⟨rfl, rfl⟩ := h3
     have hlen : ((xs.drop off).take len).length = len := by simp; omega
     have hget : ∀ i x, ((xs.drop off).take len)[i]? = some x → xs[off + i]? = some x := fun i x hx => by
      rw [List.getElem?_take] at hx
      split at hx
      ·simpa using hx
      ·cases hx
     have hmem : ∀ x ∈ (xs.drop off).take len, x ∈ xs := fun x hx => List.mem_of_mem_drop (List.mem_of_mem_take hx)
     have key := RepD.sl (w := w) (I := I) b (base + off * es') es' cap ((xs.drop off).take len) (fun i j => (w.cell? ⟨b, base + off * es' + i * es' + j, none⟩).getD Go.undef) hs.imm (by rw [hlen]; exact h2)
      (fun x hx => hs.size x (hmem x hx)) (fun x hx => hs.flat x (hmem x hx)) (fun i j hi hj => ?_) (fun i j x y hx hy => ?_)
     ·rw [hlen] at key; exact key
     ·have hx : ((xs.drop off).take len)[i]? = some ((xs.drop off).take len)[i] := List.getElem?_eq_getElem hi
      have hx' := hget i _ hx
      have hsz := hs.size _ (List.mem_of_getElem? hx')
      have hy : ((xs.drop off).take len)[i].cells[j]? = some (((xs.drop off).take len)[i].cells[j]'(by rw [hsz]; exact hj)) := List.getElem?_eq_getElem _
      obtain ⟨u, hu, _⟩ := hs.cell (off + i) j _ _ hx' hy
      have ea : base + (off + i) * es' + j = base + off * es' + i * es' + j := by rw [Nat.add_mul]; omega
      rw [ea] at hu
      rw [hu]; rfl
     ·obtain ⟨u, hu, hr⟩ := hs.cell (off + i) j x y (hget i x hx) hy
      have ea : base + (off + i) * es' + j = base + off * es' + i * es' + j := by rw [Nat.add_mul]; omega
      rw [ea] at hu
      rw [hu]; exact hr
   | dead => rw [hB] at hz; simp [Blk.isArr] at hz
   | box n v => rw [hB] at hz; simp [Blk.isArr] at hz
   | map ik f => rw [hB] at hz; simp [Blk.isArr] at hz
   | arr es xs => rw [hB] at hown; simp [Blk.own] at hown
end Go.AM


namespace Go.AM
def AV.un : AV → AV
 | .iff _ a => a
 | a => a
def AV.vg : AV → Bool
 | .iff g _ => g
 | _ => true
def AV.isAgg : AV → Bool
 | .d x => x.isAgg
 | .agg _ => true
 | _ => false
def AV.storable : AV → Bool
 | .undef => false
 | .tup _ => false
 | .iff _ _ => false
 | .anyb => false
 | _ => true
def AV.isPtr : AV → Bool
 | .ptr .. | .eptr .. | .aptr .. => true
 | _ => false
def AV.shift : AV → Nat → AV
 | .ptr id off, n => .ptr id (off + n)
 | .eptr es xs i off, n => .eptr es xs i (off + n)
 | .aptr id i off, n => .aptr id i (off + n)
 | v, _ => v
def AV.int? (k : IntKind) : AV → Bool
 | .d (.int k' _) => decide (k' = k)
 | _ => false
def AV.isIntv : AV → Bool
 | .d (.int _ _) => true
 | _ => false
def AV.num : AV → Int
 | .d (.int _ n) => n
 | _ => 0
def AV.isBoolv : AV → Bool
 | .d (.bool _) => true
 | _ => false
def AV.truth : AV → Bool
 | .d (.bool b) => b
 | _ => false
def allD : List AV → Option (List D)
 | [] => some []
 | .d x :: r => (allD r).map (x :: ·)
 | _ :: _ => none
def mkAgg (cs : List AV) : AV := match allD cs with | some ds => .d (.agg ds) | none => .agg cs
def const1 : Value → AV
 | .bool b => .d (.bool b)
 | .int k n => .d (.int k n)
 | .string s => .d (.str s.data.toList)
 | .slice none 0 0 => .nils
 | .pointer none => .d (.raw (.pointer none))
 | .map none => .d (.raw (.map none))
 | .nilFunc => .d (.raw .nilFunc)
 | .nilIface => .d (.raw .nilIface)
 | _ => .undef
def constV : Value → AV
 | .agg cs => if (cs.toList.map const1).all AV.one then mkAgg (cs.toList.map const1) else .undef
 | v => const1 v
abbrev Globs := List (Nat × D)
def globV (Gl : Globs) (g : Nat) : AV := match Gl.find? (fun p => p.1 == g) with | some p => .eptr p.2.cells.length [p.2] 0 0 | none => .undef
def evO (Gl : Globs) (env : Env) : Operand → AV
 | .tmp t => getE env t
 | .const v => constV v
 | .global g => globV Gl g
 | .func f => .fn f []
def toD1 (σ : Sto) : AV → D
 | .d x => x
 | .nils => .sl []
 | .osl id off len => .sl (((blkAt σ id).xs.drop off).take len)
 | _ => default
def isD1 (σ : Sto) : AV → Bool
 | .d _ => true
 | .nils => true
 | .osl id _ _ => (blkAt σ id).isArr
 | _ => false
def ref1 : AV → List Nat
 | .osl id _ _ => [id]
 | _ => []
def AV.toD (σ : Sto) : AV → D
 | .agg cs => .agg (cs.map (toD1 σ))
 | v => toD1 σ v
def AV.isD (σ : Sto) : AV → Bool
 | .agg cs => cs.all (isD1 σ)
 | v => isD1 σ v
def AV.refs : AV → List Nat
 | .agg cs => cs.flatMap ref1
 | v => ref1 v
def freezeL (σ : Sto) (l : List Nat) : Sto := l.foldl freeze σ
def tkind (P : Program) (t : TypeId) : Option Bool :=
 match P.underlying t with
 | some (.struct _) => some true
 | some (.array _ _) => some true
 | some _ => some false
 | none => none
def tsz (P : Program) (t : TypeId) : Option Nat := (P.info? t).map (·.size)
def tzero (P : Program) (t : TypeId) : Option Value := (P.info? t).bind (·.zero)
def tfld (P : Program) (s : TypeId) (f : Nat) : Option (Nat × Nat × Bool) :=
 match P.underlying s with
 | some (.struct fs) => match fs[f]? with
  | some x => match tsz P x.type, tkind P x.type with
   | some n, some g => some (x.offset, n, g)
   | _, _ => none
  | none => none
 | _ => none
def tidx (P : Program) (t : TypeId) : Option (Option Nat × Nat) :=
 match P.underlying t with
 | some (.slice e) => (tsz P e).map fun n => (none, n)
 | some (.array k e) => (tsz P e).map fun n => (some k, n)
 | _ => none
def telem (P : Program) (t : TypeId) : Option TypeId :=
 match P.underlying t with
 | some (.slice e) => some e
 | _ => none
def tbytes (P : Program) (t : TypeId) : Option Nat := (P.info? t).map (·.bytes)
def tstr (P : Program) (t : TypeId) : Bool := match P.underlying t with | some .string => true | _ => false
def AV.subV : AV → Nat → Nat → AV
 | .d x, off, n => .d (x.sub off n)
 | .agg cs, off, n => mkAgg ((cs.drop off).take n)
 | v, _, _ => v
def partOk (N off n : Nat) (g whole : Bool) : Prop := off + n ≤ N ∧ (if off = 0 ∧ n = N then whole = g else (whole = true ∧ (g = true ∨ n = 1)))
def AV.partV (v : AV) (N off n : Nat) (g : Bool) : AV := if off = 0 ∧ n = N then v else if g = true then v.subV off n else v.cellAt off
def D.partD (x : D) (N off n : Nat) (g : Bool) : D := if off = 0 ∧ n = N then x else if g = true then x.sub off n else x.cell off
def Blk.boxN : Blk → Nat
 | .box n _ => n
 | _ => 0
def Blk.boxV : Blk → AV
 | .box _ v => v
 | _ => .undef
def Blk.isBox : Blk → Bool
 | .box .. => true
 | _ => false
def Blk.isOwnArr : Blk → Bool
 | .arr .. => true
 | _ => false
def ldOk (σ : Sto) (g : Bool) (n : Nat) : AV → Prop
 | .ptr id off => (blkAt σ id).isBox = true ∧ partOk (blkAt σ id).boxN off n g (blkAt σ id).boxV.isAgg
 | .eptr es xs i off => i < xs.length ∧ partOk es off n g (xs.getD i default).isAgg
 | .aptr id i off => (blkAt σ id).isArr = true ∧ i < (blkAt σ id).xs.length ∧ partOk (blkAt σ id).es off n g ((blkAt σ id).xs.getD i default).isAgg
 | _ => False
def ldV (σ : Sto) (g : Bool) (n : Nat) : AV → AV
 | .ptr id off => (blkAt σ id).boxV.partV (blkAt σ id).boxN off n g
 | .eptr es xs i off => .d ((xs.getD i default).partD es off n g)
 | .aptr id i off => .d (((blkAt σ id).xs.getD i default).partD (blkAt σ id).es off n g)
 | _ => .undef
def putV (v : AV) (N off n : Nat) (u : AV) : AV :=
 if off = 0 ∧ n = N then u else mkAgg ((List.range N).map fun j => if off ≤ j ∧ j < off + n then u.cellAt (j - off) else v.cellAt j)
def stOk (σ : Sto) (n : Nat) (u : AV) : AV → Prop
 | .ptr id off => (blkAt σ id).isBox = true ∧ off + n ≤ (blkAt σ id).boxN ∧ u.storable = true ∧ u.ncells = n
 | .aptr id i off => (blkAt σ id).isOwnArr = true ∧ i < (blkAt σ id).xs.length ∧ off + n ≤ (blkAt σ id).es ∧ u.isD σ = true ∧ (u.toD σ).cells.length = n ∧ (¬ id ∈ u.refs)
 | _ => False
def stS (σ : Sto) (n : Nat) (u : AV) : AV → Sto
 | .ptr id off => σ.set id (.box (blkAt σ id).boxN (putV (blkAt σ id).boxV (blkAt σ id).boxN off n u))
 | .aptr id i off => (freezeL σ u.refs).set id (.arr (blkAt σ id).es ((blkAt σ id).xs.set i (((blkAt σ id).xs.getD i default).putAt (blkAt σ id).es off n (u.toD σ))))
 | _ => σ
def clearL (xs : List D) (off n : Nat) (z : D) : List D := (List.range xs.length).map fun i => if off ≤ i ∧ i < off + n then z else xs.getD i default
def intBin (op : BinOp) (k : IntKind) (a b : Int) : D :=
 match op with
 | .add => .int k (k.wrap (a + b))
 | .sub => .int k (k.wrap (a - b))
 | .mul => .int k (k.wrap (a * b))
 | .quo => .int k (k.wrap (a.tdiv b))
 | .rem => .int k (a.tmod b)
 | .and => .int k (k.wrap ((BitVec.ofInt k.bits a) &&& (BitVec.ofInt k.bits b)).toNat)
 | .or => .int k (k.wrap ((BitVec.ofInt k.bits a) ||| (BitVec.ofInt k.bits b)).toNat)
 | .xor => .int k (k.wrap ((BitVec.ofInt k.bits a) ^^^ (BitVec.ofInt k.bits b)).toNat)
 | .andNot => .int k (k.wrap ((BitVec.ofInt k.bits a) &&& ~~~(BitVec.ofInt k.bits b)).toNat)
 | .shl => .int k (k.wrap (a * 2 ^ (min b.toNat k.bits)))
 | .shr => .int k (a.fdiv (2 ^ (min b.toNat k.bits)))
 | .eql => .bool (a == b)
 | .neq => .bool (a != b)
 | .lss => .bool (decide (a < b))
 | .leq => .bool (decide (a ≤ b))
 | .gtr => .bool (decide (a > b))
 | .geq => .bool (decide (a ≥ b))
def intBinOk (op : BinOp) (k k' : IntKind) (b : Int) : Prop :=
 match op with
 | .shl | .shr => 0 ≤ b
 | .quo | .rem => k = k' ∧ b ≠ 0
 | _ => k = k'
def strBin (op : BinOp) (a b : List UInt8) : D :=
 match op with
 | .add => .str (a ++ b)
 | .eql => .bool (a == b)
 | .neq => .bool (!(a == b))
 | .lss => .bool (Op.bytesLess a b)
 | .leq => .bool (Op.bytesLess a b || a == b)
 | .gtr => .bool (!(Op.bytesLess a b || a == b))
 | .geq => .bool (!(Op.bytesLess a b))
 | _ => default
def strBinOk (op : BinOp) (a b : List UInt8) : Prop :=
 match op with
 | .add => ((a.length + b.length : Nat) : Int) ≤ 9223372036854775807
 | .eql | .neq | .lss | .leq | .gtr | .geq => True
 | _ => False
def D.beq1 : D → D → Bool
 | .int _ a, .int _ b => a == b
 | .bool a, .bool b => a == b
 | .str a, .str b => a == b
 | _, _ => false
def D.cmp1 : D → Nat → D → Bool
 | .int k _, 0, .int k' _ => decide (k = k')
 | .bool _, 1, .bool _ => true
 | .str _, 2, .str _ => true
 | _, _, _ => false
def beqL : List D → List D → Bool
 | a :: r, b :: s => a.beq1 b && beqL r s
 | _, _ => true
def cmpL : List Nat → List D → List D → Bool
 | c :: cs, a :: r, b :: s => a.cmp1 c b && cmpL cs r s
 | [], [], [] => true
 | _, _, _ => false
def binD (op : BinOp) : D → D → D
 | .int k a, .int _ b => intBin op k a b
 | .str a, .str b => strBin op a b
 | .bool a, .bool b => match op with | .eql => .bool (a == b) | .neq => .bool (!(a == b)) | _ => default
 | .agg a, .agg b => match op with | .eql => .bool (beqL a b) | .neq => .bool (!(beqL a b)) | _ => default
 | _, _ => default
def kindsF (P : Program) (g : TypeId → Option (List Nat)) : List Field → Nat → Option (List Nat)
 | [], _ => some []
 | f :: r, o => if f.name ≠ "_" ∧ f.offset = o then
   match g f.type with
   | some l => if tsz P f.type = some l.length ∧ 0 < l.length then (match kindsF P g r (o + l.length) with | some l' => some (l ++ l') | none => none) else none
   | none => none
  else none
def kinds (P : Program) : Nat → TypeId → Option (List Nat)
 | 0, _ => none
 | d + 1, t => match P.underlying t with
  | some (.int _) => some [0]
  | some .bool => some [1]
  | some .string => some [2]
  | some (.struct fs) => if P.stoodInHeld t = false then kindsF P (kinds P d) fs.toList 0 else none
  | some (.array n e) => match kinds P d e with
   | some l => if tsz P e = some l.length ∧ 0 < l.length then some (List.replicate n l).flatten else none
   | none => none
  | _ => none
def tcmp (P : Program) (t : TypeId) : Option (List Nat) := if tkind P t = some true ∧ P.eqGuardType P.depth t = false then kinds P 6 t else none
def binOkD (P : Program) (t : TypeId) (op : BinOp) : D → D → Prop
 | .int k _, .int k' b => intBinOk op k k' b
 | .str a, .str b => strBinOk op a b
 | .bool _, .bool _ => (match op with | .eql | .neq => True | _ => False) ∧ P.underlying t = some .bool
 | .agg a, .agg b => (match op with | .eql | .neq => True | _ => False) ∧ (match tcmp P t with | some l => cmpL l a b = true | none => False)
 | _, _ => False
def tmap (P : Program) (t : TypeId) : Option (Option IntKind × TypeId) :=
 match P.underlying t with
 | some (.map k e) => match P.underlying k with
  | some (.int ik) => some (some ik, e)
  | some .string => some (none, e)
  | _ => none
 | _ => none
def tptr (P : Program) (t : TypeId) : Bool := match P.underlying t with | some (.pointer _) => true | _ => false
def zeroV (P : Program) (t : TypeId) : AV := match tzero P t with | some z => constV z | none => .undef
def keyOf : AV → Key
 | .d (.int _ n) => .i n
 | .d (.str l) => .s l
 | _ => .i 0
def keyOk (ik : Option IntKind) : AV → Prop
 | .d (.int k _) => ik = some k
 | .d (.str _) => ik = none
 | _ => False
def mset (f : Key → Option AV) (k : Key) (v : AV) : Key → Option AV := fun k' => if k' = k then some v else f k'
def mdel (f : Key → Option AV) (k : Key) : Key → Option AV := fun k' => if k' = k then none else f k'
def lkOk (σ : Sto) (ik : Option IntKind) : AV → Prop
 | .mapr id => (blkAt σ id).isMap = true ∧ (blkAt σ id).mk = ik
 | .d (.raw (.map none)) => True
 | _ => False
def lkF (σ : Sto) : AV → Key → Option AV
 | .mapr id => (blkAt σ id).mf
 | _ => fun _ => none
def muOk (σ : Sto) (ik : Option IntKind) (m v : AV) : Prop := match m with
 | .mapr id => (blkAt σ id).isMap = true ∧ (blkAt σ id).mk = ik ∧ v.storable = true
 | _ => False
def muS (σ : Sto) (k : Key) (v : AV) : AV → Sto
 | .mapr id => σ.set id (.map (blkAt σ id).mk (mset (blkAt σ id).mf k v))
 | _ => σ
def mdS (σ : Sto) (k : Key) : AV → Sto
 | .mapr id => σ.set id (.map (blkAt σ id).mk (mdel (blkAt σ id).mf k))
 | _ => σ
def isNilV : AV → AV
 | .nils => .d (.bool true)
 | .d (.raw _) => .d (.bool true)
 | .d (.sl xs) => if xs.isEmpty = true then .anyb else .d (.bool false)
 | .osl _ _ n => if n = 0 then .anyb else .d (.bool false)
 | .ptr .. | .eptr .. | .aptr .. | .mapr _ => .d (.bool false)
 | _ => .undef
def nilBin (op : BinOp) (a : AV) : AV := match op, a with
 | .eql, a => a
 | .neq, .d (.bool b) => .d (.bool (!b))
 | .neq, .anyb => .anyb
 | _, _ => .undef
def nilOk (P : Program) (t : TypeId) (op : BinOp) (u v : AV) : Prop := (op = .eql ∨ op = .neq) ∧ match v, u with
 | .nils, .nils => (telem P t).isSome = true
 | .nils, .d (.sl _) => (telem P t).isSome = true
 | .nils, .osl .. => (telem P t).isSome = true
 | .d (.raw (.pointer none)), .ptr .. => tptr P t = true
 | .d (.raw (.pointer none)), .eptr .. => tptr P t = true
 | .d (.raw (.pointer none)), .aptr .. => tptr P t = true
 | .d (.raw (.pointer none)), .d (.raw (.pointer none)) => tptr P t = true
 | .d (.raw (.map none)), .mapr _ => (tmap P t).isSome = true
 | .d (.raw (.map none)), .d (.raw (.map none)) => (tmap P t).isSome = true
 | _, _ => False
def AV.isNilc : AV → Bool
 | .nils => true
 | .d (.raw _) => true
 | _ => false
def binV0 (op : BinOp) : AV → AV → AV
 | .d x, .d y => .d (binD op x y)
 | _, _ => .undef
def binV (op : BinOp) (u v : AV) : AV := if v.isNilc = true then nilBin op (isNilV u) else binV0 op u v
def binOk0 (P : Program) (t : TypeId) (op : BinOp) : AV → AV → Prop
 | .d x, .d y => binOkD P t op x y
 | _, _ => False
def binOk (P : Program) (t : TypeId) (op : BinOp) (u v : AV) : Prop := if v.isNilc = true then nilOk P t op u v else binOk0 P t op u v
def unV (op : UnOp) : AV → AV
 | .d (.int k n) => match op with
  | .neg => .d (.int k (k.wrap (0 - n)))
  | .xor => .d (intBin .xor k (if k.signed then -1 else k.max) n)
  | _ => .undef
 | .d (.bool b) => match op with
  | .not => .d (.bool (!b))
  | _ => .undef
 | _ => .undef
def unOk (op : UnOp) : AV → Prop
 | .d (.int _ _) => match op with | .neg | .xor => True | _ => False
 | .d (.bool _) => match op with | .not => True | _ => False
 | _ => False
def AV.len : AV → Nat
 | .d (.sl xs) => xs.length
 | .d (.str s) => s.length
 | .osl _ _ n => n
 | _ => 0
def AV.hasLen (P : Program) (t : TypeId) : AV → Bool
 | .d (.sl _) => (telem P t).isSome
 | .osl _ _ _ => (telem P t).isSome
 | .nils => (telem P t).isSome
 | .d (.str _) => tstr P t
 | _ => false
def AV.elems (σ : Sto) : AV → List D
 | .d (.sl xs) => xs
 | .osl id off len => ((blkAt σ id).xs.drop off).take len
 | _ => []
def AV.isSlv (σ : Sto) : AV → Bool
 | .d (.sl _) => true
 | .osl id _ _ => (blkAt σ id).isArr
 | .nils => true
 | _ => false
def idxOk (σ : Sto) (es : Nat) (i : Int) : AV → Prop
 | .d (.sl xs) => 0 ≤ i ∧ i < xs.length ∧ (xs.getD i.toNat default).cells.length = es
 | .osl id _ len => 0 ≤ i ∧ i < len ∧ (blkAt σ id).isArr = true ∧ (blkAt σ id).es = es
 | _ => False
def idxV (es : Nat) (i : Int) : AV → AV
 | .d (.sl xs) => .eptr es xs i.toNat 0
 | .osl id off _ => .aptr id (off + i.toNat) 0
 | _ => .undef
def aidxOk (k : Nat) (i : Int) (p : AV) : Prop := p.isPtr = true ∧ 0 ≤ i ∧ i < k ∧ 2 ≤ k
def slOk (P : Program) (t : TypeId) (σ : Sto) (lo hi : Int) : AV → Prop
 | .d (.str s) => tstr P t = true ∧ 0 ≤ lo ∧ lo ≤ hi ∧ hi ≤ s.length
 | .d (.sl xs) => ((tidx P t).isSome = true ∧ (telem P t).isSome = true) ∧ 0 ≤ lo ∧ lo ≤ hi ∧ hi ≤ xs.length ∧ (match tidx P t with | some (_, es) => ∀ x ∈ xs, x.cells.length = es | none => False)
 | .osl id _ len => (telem P t).isSome = true ∧ 0 ≤ lo ∧ lo ≤ hi ∧ hi ≤ len ∧ (blkAt σ id).isArr = true ∧ tidx P t = some (none, (blkAt σ id).es)
 | .nils => (telem P t).isSome = true ∧ (tidx P t).isSome = true ∧ lo = 0 ∧ hi = 0
 | _ => False
def slV (lo hi : Int) : AV → AV
 | .d (.str s) => .d (.str ((s.take hi.toNat).drop lo.toNat))
 | .d (.sl xs) => .d (.sl ((xs.take hi.toNat).drop lo.toNat))
 | .osl id off _ => .osl id (off + lo.toNat) (hi.toNat - lo.toNat)
 | .nils => .nils
 | _ => .undef
end Go.AM


namespace Go.AM
variable {P : Program} {w : World} {I : Im} {μ : Pos} {σ : Sto}
theorem bytes_eta (s : ByteArray) : (⟨s.data.toList.toArray⟩ : ByteArray) = s := by
 cases s; simp
theorem allD_spec : ∀ {cs : List AV} {ds : List D}, allD cs = some ds → cs = ds.map AV.d
 | [], ds, h => by simp [allD] at h; subst h; rfl
 | c :: r, ds, h => by
  cases c <;> simp only [allD] at h <;> first | cases h | skip
  rename_i x
  cases hr : allD r with
  | none => simp [hr] at h
  | some l =>
   simp [hr] at h
   subst h
   rw [allD_spec hr]; rfl
theorem RepV.inv_d {v : Value} {x : D} (h : RepV w I μ σ v (.d x)) : RepD w I v x := by cases h; assumption
theorem mkAgg_rep {vs : List Value} {cs : List AV} (hl : vs.length = cs.length) (hone : ∀ c ∈ cs, c.one = true)
  (h : ∀ (i : Nat) (v : Value) (x : AV), vs[i]? = some v → cs[i]? = some x → RepV w I μ σ v x) : RepV w I μ σ (.agg vs.toArray) (mkAgg cs) := by
 unfold mkAgg
 cases hd : allD cs with
 | none => exact .agg vs cs hl hone h
 | some ds =>
  have e := allD_spec hd
  subst e
  refine .d _ _ (.agg vs ds (by simpa using hl) (fun c hc => hone (.d c) (List.mem_map.2 ⟨c, hc, rfl⟩)) fun i v x hv hx => ?_)
  exact (h i v (.d x) hv (by simp [hx])).inv_d
theorem const1_rep (v : Value) : RepV w I μ σ v (const1 v) := by
 unfold const1
 split <;> first
  | exact .d _ _ (.bool _)
  | exact .d _ _ (.int _ _)
  | exact .nils
  | exact .undef _
  | (refine .d _ _ ?_; rename_i s; have := RepD.str (w := w) (I := I) s.data.toList; rwa [bytes_eta] at this)
  | exact .d _ _ (.raw _ rfl)
theorem constV_rep (v : Value) : RepV w I μ σ v (constV v) := by
 cases v with
 | agg cs =>
  show RepV w I μ σ _ (if (cs.toList.map const1).all AV.one then mkAgg (cs.toList.map const1) else .undef)
  by_cases h : (cs.toList.map const1).all AV.one = true
  ·rw [if_pos h]
   have := mkAgg_rep (w := w) (I := I) (μ := μ) (σ := σ) (vs := cs.toList) (cs := cs.toList.map const1) (by simp) (fun c hc => List.all_eq_true.1 h c hc) (fun i v x hv hx => by
    rw [List.getElem?_map, hv] at hx
    simp only [Option.map_some, Option.some.injEq] at hx
    subst hx
    exact const1_rep v)
   simpa only [Array.toArray_toList] using this
  ·rw [if_neg h]; exact .undef _
 | _ => exact const1_rep _
theorem globV_rep (Gl : Globs) (hG : ∀ p ∈ Gl, SlAt w I p.1 0 p.2.cells.length [p.2]) (g : Nat) : RepV w I μ σ (.pointer (some ⟨g, 0, none⟩)) (globV Gl g) := by
 unfold globV
 cases h : Gl.find? (fun p => p.1 == g) with
 | none => exact .undef _
 | some p =>
  have h1 := List.mem_of_find?_eq_some h
  have h2 := List.find?_some h
  simp at h2
  subst h2
  simpa using RepV.eptr (w := w) (I := I) (μ := μ) (σ := σ) p.1 0 p.2.cells.length [p.2] 0 0 (hG p h1)
theorem evO_rep {n : Nat} {Gl : Globs} (hG : ∀ p ∈ Gl, SlAt w I p.1 0 p.2.cells.length [p.2]) {env : Env} {a : Act} (h : RelEnv n w I μ σ env a) (x : Operand) : RepV w I μ σ (a.eval x) (evO Gl env x) := by
 cases x with
 | tmp t => exact h.slot t
 | const v => exact constV_rep v
 | global g => exact globV_rep Gl hG g
 | func f => exact .fn f [] [] rfl (fun i v x hv => by simp at hv)
theorem un_rep {v : Value} {x : AV} (h : RepV w I μ σ v x) (hg : x.vg = true) : RepV w I μ σ v x.un := by
 cases h with
 | iff g _ x h1 h2 => exact h1 hg
 | mapr _ id hid h => exact .mapr _ id hid h
 | anyb b => exact .anyb b
 | undef => exact .undef _
 | d _ _ h => exact .d _ _ h
 | nils => exact .nils
 | agg vs cs hl hone h => exact .agg vs cs hl hone h
 | ptr _ id off hid h => exact .ptr _ id off hid h
 | eptr b o es xs i off h => exact .eptr b o es xs i off h
 | aptr _ id i off hid h => exact .aptr _ id i off hid h
 | osl _ id off len hid h => exact .osl _ id off len hid h
 | fn f vs caps hl h => exact .fn f vs caps hl h
 | tup vs cs hl h => exact .tup vs cs hl h
theorem run_isAgg' {t : TypeId} {g : Bool} (h : tkind P t = some g) : (isAgg t).run P w = .ok g w := by
 unfold tkind at h
 unfold isAgg underlying
 cases hu : P.underlying t with
 | none => rw [hu] at h; cases h
 | some d =>
  rw [hu] at h
  cases d <;> simp at h <;> subst h <;> simp [hu]
theorem run_sizeOf' {t : TypeId} {n : Nat} (h : tsz P t = some n) : (sizeOf t).run P w = .ok n w := by
 unfold tsz at h
 unfold sizeOf typeInfo
 cases hi : P.info? t with
 | none => rw [hi] at h; cases h
 | some i => rw [hi] at h; simp at h; subst h; simp [hi]
theorem run_zeroValue' {t : TypeId} {z : Value} (h : tzero P t = some z) : (zeroValue t).run P w = .ok z w := by
 unfold tzero at h
 unfold zeroValue typeInfo
 cases hi : P.info? t with
 | none => rw [hi] at h; cases h
 | some i => rw [hi] at h; simp at h; simp [hi, h]
theorem addr_add (b o j : Nat) : (⟨b, o, none⟩ : Addr).add j = ⟨b, o + j, none⟩ := by
 unfold Addr.add; split
 ·subst_vars; rfl
 ·rfl
theorem run_loadVar_agg {t : TypeId} {b o : Nat} (h1 : tkind P t = some true) (cs : List Value) (h2 : tsz P t = some cs.length) (h : ∀ j v, cs[j]? = some v → w.cell? ⟨b, o + j, none⟩ = some v) :
  (loadVar t ⟨b, o, none⟩).run P w = .ok (.agg cs.toArray) w := by
 unfold loadVar
 simp only [Sem.run_bind, run_isAgg' h1, Result.andThen_ok, if_true, run_sizeOf' h2]
 rw [run_loadCells_list w _ cs (fun j v hv => by rw [addr_add]; exact h j v hv)]
 rfl
theorem run_loadVar_one {t : TypeId} {a : Addr} {v : Value} (h1 : tkind P t = some false) (h : w.cell? a = some v) : (loadVar t a).run P w = .ok v w := by
 unfold loadVar
 simp only [Sem.run_bind, run_isAgg' h1, Result.andThen_ok]
 simp [h]
theorem D.cells_of_not_agg {x : D} (h : x.isAgg = false) : x.cells = [x] := by cases x <;> simp_all [D.isAgg, D.cells]
theorem D.agg_of_isAgg {x : D} (h : x.isAgg = true) : x = .agg x.cells := by cases x <;> simp_all [D.isAgg, D.cells]
theorem D.one_of_not_agg {x : D} (h : x.isAgg = false) : x.one = true := by cases x <;> simp_all [D.isAgg, D.one]
theorem RepD.flat {v : Value} {x : D} (h : RepD w I v x) : x.flat := by
 cases h <;> intro c hc <;> simp [D.cells] at hc <;> first | (subst hc; rfl) | skip
 rename_i h _
 exact h c hc
theorem RepD.oneCell {v : Value} {x : D} (h : RepD w I v x) (h1 : x.one = true) : v.oneCell' = true := by
 cases h <;> simp_all [D.one, Value.oneCell']
 rename_i h
 cases v <;> simp_all [simpleValue]
theorem load_part {t : TypeId} {g : Bool} {n N off b B : Nat} {x : D} (hk : tkind P t = some g) (hs : tsz P t = some n) (hN : x.cells.length = N) (hf : x.flat)
  (hc : ∀ (j : Nat) (y : D), x.cells[j]? = some y → ∃ v, w.cell? ⟨b, B + j, none⟩ = some v ∧ RepD w I v y) (ho : partOk N off n g x.isAgg) :
  ∃ u, (loadVar t ⟨b, B + off, none⟩).run P w = .ok u w ∧ RepD w I u (x.partD N off n g) := by
 obtain ⟨h1, h2⟩ := ho
 have hget : ∀ j, j < n → ∃ v y, x.cells[off + j]? = some y ∧ w.cell? ⟨b, B + off + j, none⟩ = some v ∧ RepD w I v y := fun j hj => by
  have hlt : off + j < x.cells.length := by omega
  obtain ⟨v, hv, hr⟩ := hc (off + j) _ (List.getElem?_eq_getElem hlt)
  exact ⟨v, _, List.getElem?_eq_getElem hlt, by rw [Nat.add_assoc]; exact hv, hr⟩
 cases g with
 | true =>
  let cs : List Value := (List.range n).map fun j => (w.cell? ⟨b, B + off + j, none⟩).getD Go.undef
  have hlen : cs.length = n := by simp [cs]
  have hrun := run_loadVar_agg (P := P) (w := w) (t := t) (b := b) (o := B + off) hk cs (by rw [hlen]; exact hs) (fun j v hv => by
   simp only [cs, List.getElem?_map] at hv
   rcases Nat.lt_or_ge j n with hj | hj
   ·obtain ⟨v', y, _, hv', _⟩ := hget j hj
    simp [hj, hv'] at hv
    subst hv; exact hv'
   ·simp [hj] at hv)
  refine ⟨_, hrun, ?_⟩
  have key : RepD w I (.agg cs.toArray) (x.sub off n) := by
   refine .agg cs ((x.cells.drop off).take n) (by simp [hlen]; omega) (fun c hc => hf c (List.mem_of_mem_drop (List.mem_of_mem_take hc))) fun i v y hv hy => ?_
   rcases Nat.lt_or_ge i n with hi | hi
   ·obtain ⟨v', y', hy', hv', hr⟩ := hget i hi
    rw [List.getElem?_take_of_lt hi, List.getElem?_drop, hy'] at hy
    simp only [cs, List.getElem?_map] at hv
    simp [hi, hv'] at hv
    simp at hy
    subst hv; subst hy; exact hr
   ·rw [List.getElem?_eq_none (by simp [hlen]; omega)] at hv; cases hv
  unfold D.partD
  split
  ·rename_i he
   rw [if_pos he] at h2
   have : x.sub off n = x := by
    obtain ⟨rfl, rfl⟩ := he
    unfold D.sub
    rw [List.drop_zero, List.take_of_length_le (by omega)]
    exact (D.agg_of_isAgg h2).symm
   rwa [this] at key
  ·simpa using key
 | false =>
  have hn : n = 1 := by
   split at h2
   ·rename_i he
    have := D.cells_of_not_agg h2
    rw [this] at hN
    simp at hN
    omega
   ·simpa using h2.2
  subst hn
  obtain ⟨v, y, hy, hv, hr⟩ := hget 0 (by omega)
  refine ⟨v, run_loadVar_one hk hv, ?_⟩
  unfold D.partD
  split
  ·rename_i he
   rw [if_pos he] at h2
   obtain ⟨rfl, rfl⟩ := he
   rw [D.cells_of_not_agg h2] at hy
   simp at hy
   subst hy; exact hr
  ·simp only [Bool.false_eq_true, if_false]
   unfold D.cell
   rw [List.getD_eq_getElem?_getD]
   rw [Nat.add_zero] at hy
   rw [hy]; exact hr
theorem AV.cellAt_of_not_agg {v : AV} (h : v.isAgg = false) : v.cellAt 0 = v := by
 cases v <;> simp_all [AV.isAgg, AV.cellAt]
 rename_i x
 unfold D.cell; rw [D.cells_of_not_agg h]; rfl
theorem AV.ncells_of_not_agg {v : AV} (h : v.isAgg = false) : v.ncells = 1 := by
 cases v <;> simp_all [AV.isAgg, AV.ncells]
 rename_i x
 rw [D.cells_of_not_agg h]; rfl
theorem load_partV {t : TypeId} {g : Bool} {n N off b B : Nat} {v : AV} (hk : tkind P t = some g) (hs : tsz P t = some n) (hN : v.ncells = N)
  (hc : ∀ j, j < N → (v.cellAt j).one = true ∧ ∃ u, w.cell? ⟨b, B + j, none⟩ = some u ∧ RepV w I μ σ u (v.cellAt j)) (ho : partOk N off n g v.isAgg) :
  ∃ u, (loadVar t ⟨b, B + off, none⟩).run P w = .ok u w ∧ RepV w I μ σ u (v.partV N off n g) := by
 obtain ⟨h1, h2⟩ := ho
 have hget : ∀ j, j < n → (v.cellAt (off + j)).one = true ∧ ∃ u, w.cell? ⟨b, B + off + j, none⟩ = some u ∧ RepV w I μ σ u (v.cellAt (off + j)) := fun j hj => by
  obtain ⟨h3, u, hu, hr⟩ := hc (off + j) (by omega)
  exact ⟨h3, u, by rw [Nat.add_assoc]; exact hu, hr⟩
 cases g with
 | true =>
  let cs : List Value := (List.range n).map fun j => (w.cell? ⟨b, B + off + j, none⟩).getD Go.undef
  have hlen : cs.length = n := by simp [cs]
  have hcs : ∀ i u, cs[i]? = some u → i < n ∧ w.cell? ⟨b, B + off + i, none⟩ = some u := fun i u hu => by
   simp only [cs, List.getElem?_map] at hu
   rcases Nat.lt_or_ge i n with hi | hi
   ·obtain ⟨_, u', hu', _⟩ := hget i hi
    simp [hi, hu'] at hu
    subst hu; exact ⟨hi, hu'⟩
   ·simp [hi] at hu
  have hrun := run_loadVar_agg (P := P) (w := w) (t := t) (b := b) (o := B + off) hk cs (by rw [hlen]; exact hs) (fun j u hu => (hcs j u hu).2)
  refine ⟨_, hrun, ?_⟩
  have rep : ∀ i u, cs[i]? = some u → RepV w I μ σ u (v.cellAt (off + i)) := fun i u hu => by
   obtain ⟨hi, hu'⟩ := hcs i u hu
   obtain ⟨_, u2, hu2, hr⟩ := hget i hi
   rw [hu2] at hu'
   simp at hu'
   subst hu'; exact hr
  cases v with
  | d x =>
   have hx : ∀ j, j < N → (x.cell j).one = true := fun j hj => (hc j hj).1
   have hxl : x.cells.length = N := hN
   have key : RepD w I (.agg cs.toArray) (x.sub off n) := by
    refine .agg cs ((x.cells.drop off).take n) (by simp [hlen]; omega) (fun c hc' => ?_) fun i u y hu hy => ?_
    ·obtain ⟨k, hk'⟩ := List.getElem?_of_mem (List.mem_of_mem_drop (List.mem_of_mem_take hc'))
     have hkl : k < x.cells.length := by
      rcases Nat.lt_or_ge k x.cells.length with h' | h'
      ·exact h'
      ·rw [List.getElem?_eq_none h'] at hk'; cases hk'
     have := hx k (by omega)
     unfold D.cell at this
     rw [List.getD_eq_getElem?_getD, hk'] at this
     exact this
    ·have hi := (hcs i u hu).1
     have := (rep i u hu).inv_d
     rw [List.getElem?_take_of_lt hi, List.getElem?_drop] at hy
     unfold D.cell at this
     rw [List.getD_eq_getElem?_getD, hy] at this
     exact this
   show RepV w I μ σ _ (AV.partV _ _ _ _ _)
   unfold AV.partV
   split
   ·rename_i he
    rw [if_pos he] at h2
    obtain ⟨rfl, rfl⟩ := he
    have : x.sub 0 n = x := by
     unfold D.sub
     rw [List.drop_zero, List.take_of_length_le (by omega)]
     exact (D.agg_of_isAgg h2).symm
    rw [this] at key
    exact .d _ _ key
   ·simp only [if_true, AV.subV]
    exact .d _ _ key
  | agg l =>
   have hll : l.length = N := hN
   have key : RepV w I μ σ (.agg cs.toArray) (mkAgg ((l.drop off).take n)) := by
    refine mkAgg_rep (by simp [hlen]; omega) (fun c hc' => ?_) fun i u y hu hy => ?_
    ·obtain ⟨k, hk'⟩ := List.getElem?_of_mem (List.mem_of_mem_drop (List.mem_of_mem_take hc'))
     have hkl : k < l.length := by
      rcases Nat.lt_or_ge k l.length with h' | h'
      ·exact h'
      ·rw [List.getElem?_eq_none h'] at hk'; cases hk'
     have := (hc k (by omega)).1
     simp only [AV.cellAt, List.getD_eq_getElem?_getD, hk', Option.getD_some] at this
     exact this
    ·have hi := (hcs i u hu).1
     have := rep i u hu
     rw [List.getElem?_take_of_lt hi, List.getElem?_drop] at hy
     simp only [AV.cellAt, List.getD_eq_getElem?_getD, hy, Option.getD_some] at this
     exact this
   unfold AV.partV
   split
   ·rename_i he
    obtain ⟨rfl, rfl⟩ := he
    refine .agg cs l (by omega) (fun c hc' => ?_) fun i u y hu hy => ?_
    ·obtain ⟨k, hk'⟩ := List.getElem?_of_mem hc'
     have hkl : k < l.length := by
      rcases Nat.lt_or_ge k l.length with h' | h'
      ·exact h'
      ·rw [List.getElem?_eq_none h'] at hk'; cases hk'
     have := (hc k (by omega)).1
     simp only [AV.cellAt, List.getD_eq_getElem?_getD, hk', Option.getD_some] at this
     exact this
    ·have := rep i u hu
     simp only [AV.cellAt, List.getD_eq_getElem?_getD, Nat.zero_add, hy, Option.getD_some] at this
     exact this
   ·simp only [if_true, AV.subV]
    exact key
  | _ =>
   exfalso
   split at h2 <;> simp [AV.isAgg] at h2
 | false =>
  have hn : n = 1 := by
   split at h2
   ·rename_i he
    have := AV.ncells_of_not_agg h2
    omega
   ·simpa using h2.2
  subst hn
  obtain ⟨_, u, hu, hr⟩ := hget 0 (by omega)
  refine ⟨u, run_loadVar_one hk hu, ?_⟩
  unfold AV.partV
  split
  ·rename_i he
   rw [if_pos he] at h2
   obtain ⟨rfl, rfl⟩ := he
   rw [AV.cellAt_of_not_agg h2] at hr
   exact hr
  ·simpa using hr
end Go.AM


namespace Go.AM
variable {P : Program} {w : World} {I : Im} {μ : Pos} {σ : Sto}
theorem blkAt_freeze (σ : Sto) (id i : Nat) : blkAt (freeze σ id) i = if id = i then (blkAt σ i).frozen else blkAt σ i := by
 unfold freeze
 by_cases e : id = i
 ·subst e
  rw [if_pos rfl]
  rcases Nat.lt_or_ge id σ.length with h | h
  ·rw [blkAt_set_self h]
  ·rw [List.set_eq_of_length_le h]
   unfold blkAt
   rw [List.getD_eq_getElem?_getD, List.getElem?_eq_none h]; rfl
 ·rw [if_neg e, blkAt_set_ne e]
theorem Blk.frozen_xs (B : Blk) : B.frozen.xs = B.xs ∧ B.frozen.isArr = B.isArr ∧ B.frozen.es = B.es := by cases B <;> exact ⟨rfl, rfl, rfl⟩
theorem Blk.frozen_own (B : Blk) (h : B.isArr = true) : B.frozen.own = false := by cases B <;> simp_all [Blk.frozen, Blk.own, Blk.isArr]
theorem Blk.frozen_own' (B : Blk) (h : B.own = false) : B.frozen.own = false := by cases B <;> simp_all [Blk.frozen, Blk.own]
theorem freezeL_spec (h : Rel w I μ σ) (l : List Nat) : ∃ I', Rel w I' μ (freezeL σ l) ∧ Keep σ.length w I μ σ w I' μ (freezeL σ l) ∧ (freezeL σ l).length = σ.length ∧
  (∀ id, id ∈ l → (blkAt σ id).isArr = true → (blkAt (freezeL σ l) id).own = false) ∧
  (∀ id, (blkAt (freezeL σ l) id).xs = (blkAt σ id).xs ∧ (blkAt (freezeL σ l) id).isArr = (blkAt σ id).isArr) ∧
  (∀ id, (blkAt σ id).own = false → (blkAt (freezeL σ l) id).own = false) ∧
  (∀ id, id ∉ l → blkAt (freezeL σ l) id = blkAt σ id) ∧ (∀ b, I'.fr b → I.fr b ∨ ∃ id o, id ∈ l ∧ (blkAt σ id).own = true ∧ (blkAt σ id).isArr = true ∧ μ id = some (b, o)) := by
 induction l generalizing I σ with
 | nil => exact ⟨I, h, Keep.refl _ _ _ _ (Nat.le_refl _), rfl, (fun _ h => by cases h), fun _ => ⟨rfl, rfl⟩, fun _ h => h, fun _ _ => rfl, fun _ h => .inl h⟩
 | cons a l ih =>
  have h1 := h.freeze a
  have k1 : Keep σ.length w I μ σ w (immAnd I μ σ a) μ (freeze σ a) := keep_freeze h a
  have hlen : (freeze σ a).length = σ.length := by simp [freeze]
  obtain ⟨I', r1, r2, r3, r4, r5, r6, r7, r8⟩ := ih h1
  rw [hlen] at r2 r3
  refine ⟨I', r1, k1.trans r2, r3, fun id hid hz => ?_, fun id => ?_, fun id ho => ?_, fun id hid => ?_, fun b hb => ?_⟩
  ·by_cases e : a = id
   ·subst e
    refine r6 a ?_
    rw [blkAt_freeze, if_pos rfl]
    exact Blk.frozen_own _ hz
   ·cases hid with
    | head => exact absurd rfl e
    | tail _ hid =>
     refine r4 id hid ?_
     rw [blkAt_freeze, if_neg e]; exact hz
  ·obtain ⟨e1, e2⟩ := r5 id
   rw [blkAt_freeze] at e1 e2
   split at e1 <;> rename_i hc
   ·rw [if_pos hc] at e2
    exact ⟨e1.trans (Blk.frozen_xs _).1, e2.trans (Blk.frozen_xs _).2.1⟩
   ·rw [if_neg hc] at e2; exact ⟨e1, e2⟩
  ·refine r6 id ?_
   rw [blkAt_freeze]
   split
   ·exact Blk.frozen_own' _ ho
   ·exact ho
  ·have := r7 id (fun hm => hid (List.mem_cons_of_mem _ hm))
   show blkAt (freezeL (freeze σ a) l) id = _
   rw [this, blkAt_freeze, if_neg (fun e => hid (by rw [e]; exact List.mem_cons_self))]
  ·rcases r8 b hb with hI | ⟨id, o, hid, ho, hz, hm⟩
   ·rcases hI with hI | ⟨h2, h3, o, h4⟩
    ·exact .inl hI
    ·exact .inr ⟨a, o, List.mem_cons_self, h3, h2, h4⟩
   ·refine .inr ⟨id, o, List.mem_cons_of_mem _ hid, ?_, ?_, hm⟩
    ·rw [blkAt_freeze] at ho
     split at ho
     ·cases hB : blkAt σ id <;> rw [hB] at ho <;> simp_all [Blk.frozen, Blk.own]
     ·exact ho
    ·rw [blkAt_freeze] at hz
     split at hz
     ·rw [(Blk.frozen_xs _).2.1] at hz; exact hz
     ·exact hz
theorem toD1_rep {σ' : Sto} (h : Rel w I μ σ') {v : Value} {u : AV} (hv : RepV w I μ σ' v u) (hd : isD1 σ' u = true) (hf : ∀ id ∈ ref1 u, (blkAt σ' id).own = false) : RepD w I v (toD1 σ' u) := by
 cases u with
 | d x => exact hv.inv_d
 | nils => cases hv; exact .nil none 0
 | osl id off len => exact hv.oslData h hd (hf id (by simp [ref1]))
 | _ => simp [isD1] at hd
theorem toD1_one (σ : Sto) (u : AV) (h1 : u.one = true) : (toD1 σ u).one = true := by
 cases u <;> simp_all [toD1, AV.one, D.one, default]
theorem toD_rep' {σ' : Sto} (h : Rel w I μ σ') {v : Value} {u : AV} (hv : RepV w I μ σ' v u) (hd : u.isD σ' = true) (hf : ∀ id ∈ u.refs, (blkAt σ' id).own = false) : RepD w I v (u.toD σ') := by
 cases u with
 | agg cs =>
  cases hv with
  | agg vs _ hl hone hh =>
   refine .agg vs (cs.map (toD1 σ')) (by simpa using hl) (fun c hc => ?_) fun i v x hv hx => ?_
   ·obtain ⟨u, hu, rfl⟩ := List.mem_map.1 hc
    exact toD1_one _ _ (hone u hu)
   ·rw [List.getElem?_map] at hx
    cases hc : cs[i]? with
    | none => rw [hc] at hx; cases hx
    | some c =>
     rw [hc] at hx
     simp at hx
     subst hx
     have hm := List.mem_of_getElem? hc
     refine toD1_rep h (hh i v c hv hc) (List.all_eq_true.1 hd c hm) fun id hid => hf id ?_
     exact List.mem_flatMap.2 ⟨c, hm, hid⟩
 | d x => exact toD1_rep h hv hd hf
 | nils => exact toD1_rep h hv hd hf
 | osl id off len => exact toD1_rep h hv hd hf
 | _ => simp [AV.isD, isD1] at hd
theorem isD_congr {σ σ' : Sto} (e : ∀ id, (blkAt σ' id).isArr = (blkAt σ id).isArr) (u : AV) : u.isD σ' = u.isD σ := by
 have : isD1 σ' = isD1 σ := by
  funext u; cases u <;> simp [isD1, e]
 cases u <;> simp [AV.isD, this]
theorem toD_congr {σ σ' : Sto} (e : ∀ id, (blkAt σ' id).xs = (blkAt σ id).xs) (u : AV) : u.toD σ' = u.toD σ := by
 have : toD1 σ' = toD1 σ := by
  funext u; cases u <;> simp [toD1, e]
 cases u <;> simp [AV.toD, this]
theorem refs_isArr {u : AV} (hd : u.isD σ = true) : ∀ id ∈ u.refs, (blkAt σ id).isArr = true := by
 have one : ∀ u : AV, isD1 σ u = true → ∀ id ∈ ref1 u, (blkAt σ id).isArr = true := fun u hu id hid => by
  cases u <;> simp [ref1] at hid
  subst hid; exact hu
 intro id hid
 cases u with
 | agg cs =>
  obtain ⟨c, hc, hid⟩ := List.mem_flatMap.1 hid
  exact one c (List.all_eq_true.1 hd c hc) id hid
 | osl a b c => exact one (.osl a b c) hd id hid
 | _ => simp [AV.refs, ref1] at hid
theorem toD_rep (h : Rel w I μ σ) {v : Value} {u : AV} (hv : RepV w I μ σ v u) (hd : u.isD σ = true) :
  ∃ I', Rel w I' μ (freezeL σ u.refs) ∧ Keep σ.length w I μ σ w I' μ (freezeL σ u.refs) ∧ RepD w I' v (u.toD σ) ∧ (freezeL σ u.refs).length = σ.length ∧
   (∀ id, id ∉ u.refs → blkAt (freezeL σ u.refs) id = blkAt σ id) ∧
   (∀ b, I'.fr b → I.fr b ∨ ∃ id o, id ∈ u.refs ∧ (blkAt σ id).own = true ∧ (blkAt σ id).isArr = true ∧ μ id = some (b, o)) := by
 obtain ⟨I', r1, r2, r3, r4, r5, r6, r7, r8⟩ := freezeL_spec h u.refs
 refine ⟨I', r1, r2, ?_, r3, r7, r8⟩
 have := toD_rep' r1 (hv.keep r2) (by rw [isD_congr (fun id => (r5 id).2)]; exact hd) (fun id hid => r4 id hid (refs_isArr hd id hid))
 rwa [toD_congr (fun id => (r5 id).1)] at this
theorem store_run {b o : Nat} {vs : List Value} (hp : plainBlk w b) (hn : o + vs.length ≤ blkSize w b) (h1 : ∀ v ∈ vs, v.oneCell' = true) :
  ∃ w', (storeCells ⟨b, o, none⟩ vs).run P w = .ok () w' ∧ WroteAt b w w' ∧ ∀ j, w'.cell? ⟨b, j, none⟩ = if o ≤ j ∧ j < o + vs.length then vs[j - o]? else w.cell? ⟨b, j, none⟩ := by
 obtain ⟨c, t, hc⟩ := hp
 have hsz : blkSize w b = c.size := by unfold blkSize; rw [hc]
 rw [hsz] at hn
 refine ⟨_, run_storeCells_at P b o t vs 0 c w hc (by simpa using hn) h1, ?_, fun j => ?_⟩
 ·have hh := setRow_heap w b c (c.toList.take (o + 0) ++ vs ++ c.toList.drop (o + 0 + vs.length)).toArray t (0, 0) hc
  refine ⟨rfl, rfl, rfl, by simp, fun b' hb => setRow_other w b b' _ hb, ?_, fun _ => ⟨_, _, hh⟩⟩
  rw [hsz]
  unfold blkSize
  rw [hh]
  simp
  omega
 ·have hh := setRow_heap w b c (c.toList.take (o + 0) ++ vs ++ c.toList.drop (o + 0 + vs.length)).toArray t (0, 0) hc
  have e1 : (w.setRow b (c.toList.take (o + 0) ++ vs ++ c.toList.drop (o + 0 + vs.length)).toArray).cell? ⟨b, j, none⟩ = (c.toList.take o ++ vs ++ c.toList.drop (o + vs.length))[j]? := by
   unfold World.cell?
   rw [hh]
   simp
  have e2 : w.cell? ⟨b, j, none⟩ = c.toList[j]? := by
   unfold World.cell?
   rw [hc]
   simp
  rw [e1, e2, List.append_assoc]
  by_cases hj : j < o
  ·rw [if_neg (by omega), List.getElem?_append_left (by simp; omega), List.getElem?_take_of_lt hj]
  ·have hlo : (c.toList.take o).length = o := by simp; omega
   rw [List.getElem?_append_right (by omega), hlo]
   by_cases hj2 : j < o + vs.length
   ·rw [if_pos ⟨by omega, hj2⟩, List.getElem?_append_left (by omega)]
   ·rw [if_neg (by omega), List.getElem?_append_right (by omega), List.getElem?_drop]
    congr 1
    omega
theorem cells_rep {v : Value} {u : AV} (hv : RepV w I μ σ v u) (hs : u.storable = true) :
  ∃ vs : List Value, v.cells = vs.toArray ∧ vs.length = u.ncells ∧ ∀ j c, vs[j]? = some c → RepV w I μ σ c (u.cellAt j) ∧ (u.cellAt j).one = true ∧ c.oneCell' = true := by
 have single : ∀ (v : Value) (u : AV), u.one = true → u.isAgg = false → v.oneCell' = true → RepV w I μ σ v u → ∃ vs : List Value, v.cells = vs.toArray ∧ vs.length = u.ncells ∧ ∀ j c, vs[j]? = some c → RepV w I μ σ c (u.cellAt j) ∧ (u.cellAt j).one = true ∧ c.oneCell' = true := by
  intro v u h1 h2 h3 h4
  refine ⟨[v], ?_, by rw [AV.ncells_of_not_agg h2]; rfl, fun j c hc => ?_⟩
  ·cases v <;> simp_all [Value.oneCell', Value.cells]
  ·cases j with
   | zero =>
    simp at hc
    subst hc
    rw [AV.cellAt_of_not_agg h2]
    exact ⟨h4, h1, h3⟩
   | succ j => simp at hc
 cases u with
 | undef => simp [AV.storable] at hs
 | tup _ => simp [AV.storable] at hs
 | iff _ _ => simp [AV.storable] at hs
 | anyb => simp [AV.storable] at hs
 | agg cs =>
  cases hv with
  | agg vs _ hl hone hh =>
   refine ⟨vs, rfl, hl, fun j c hc => ?_⟩
   have hjl : j < cs.length := by
    rcases Nat.lt_or_ge j vs.length with h' | h'
    ·omega
    ·rw [List.getElem?_eq_none h'] at hc; cases hc
   have hx : cs[j]? = some cs[j] := List.getElem?_eq_getElem hjl
   have r := hh j c _ hc hx
   have e : (AV.agg cs).cellAt j = cs[j] := by simp [AV.cellAt, List.getD_eq_getElem?_getD, hx]
   rw [e]
   have h1 := hone cs[j] (List.getElem_mem hjl)
   refine ⟨r, h1, ?_⟩
   generalize cs[j] = q at *
   cases r <;> simp_all [AV.one, Value.oneCell']
   ·rename_i h; exact h.oneCell h1
   ·rename_i h; obtain ⟨_, _, _, rfl⟩ := h; rfl
   ·rename_i h; obtain ⟨_, _, _, _, rfl⟩ := h; rfl
   ·rename_i h; rcases h with ⟨_, _, rfl⟩ | ⟨_, _, _, _, _, _, rfl⟩ <;> rfl
   ·rename_i h; obtain ⟨_, _, rfl⟩ := h; rfl
 | d x =>
  cases hx : x.isAgg with
  | false => exact single v (.d x) (D.one_of_not_agg hx) hx (hv.inv_d.oneCell (D.one_of_not_agg hx)) hv
  | true =>
   have e := D.agg_of_isAgg hx
   have hr := hv.inv_d
   rw [e] at hr
   cases hr with
   | agg vs _ hl hone hh =>
    refine ⟨vs, rfl, hl, fun j c hc => ?_⟩
    have hjl : j < x.cells.length := by
     rcases Nat.lt_or_ge j vs.length with h' | h'
     ·omega
     ·rw [List.getElem?_eq_none h'] at hc; cases hc
    have hy : x.cells[j]? = some x.cells[j] := List.getElem?_eq_getElem hjl
    have r := hh j c _ hc hy
    have e2 : (AV.d x).cellAt j = .d x.cells[j] := by simp [AV.cellAt, D.cell, List.getD_eq_getElem?_getD, hy]
    rw [e2]
    have h1 := hone x.cells[j] (List.getElem_mem hjl)
    exact ⟨.d _ _ r, h1, r.oneCell h1⟩
 | nils => exact single v .nils rfl rfl (by cases hv; rfl) hv
 | ptr id off => exact single v _ rfl rfl (by cases hv; rename_i h; obtain ⟨_, _, _, rfl⟩ := h; rfl) hv
 | eptr es xs i off => exact single v _ rfl rfl (by cases hv; rfl) hv
 | aptr id i off => exact single v _ rfl rfl (by cases hv; rename_i h; obtain ⟨_, _, _, _, rfl⟩ := h; rfl) hv
 | osl id off len => exact single v _ rfl rfl (by cases hv; rename_i h; rcases h with ⟨_, _, rfl⟩ | ⟨_, _, _, _, _, _, rfl⟩ <;> rfl) hv
 | mapr id => exact single v _ rfl rfl (by cases hv; rename_i h; obtain ⟨_, _, rfl⟩ := h; rfl) hv
 | fn f caps => exact single v _ rfl rfl (by cases hv; rfl) hv
end Go.AM


namespace Go.AM
variable {P : Program} {w : World} {I : Im} {μ : Pos} {σ : Sto}
theorem Rel.boxOf (h : Rel w I μ σ) {id : Nat} (hb : (blkAt σ id).isBox = true) : ∃ n v b, blkAt σ id = .box n v ∧ id < σ.length ∧ alive σ id ∧ (blkAt σ id).own = true ∧ μ id = some (b, 0) ∧ plainBlk w b ∧ blkSize w b = n ∧ v.ncells = n ∧
  ∀ j, j < n → (v.cellAt j).one = true ∧ ∃ u, w.cell? ⟨b, j, none⟩ = some u ∧ RepV w I μ σ u (v.cellAt j) := by
 cases hB : blkAt σ id with
 | box n v =>
  have ho : (blkAt σ id).own = true := by rw [hB]; rfl
  have hid := blkAt_own_lt ho
  have := h.blk id hid
  rw [hB] at this
  obtain ⟨b, h1, _, h3, h4, h5, h6⟩ := this
  exact ⟨n, v, b, rfl, hid, by unfold alive; rw [hB]; rfl, rfl, h1, h3, h4, h5, h6⟩
 | _ => rw [hB] at hb; simp [Blk.isBox] at hb
theorem Rel.arrOf (h : Rel w I μ σ) {id : Nat} (hb : (blkAt σ id).isArr = true) {i : Nat} (hi : i < (blkAt σ id).xs.length) : ∃ b base, id < σ.length ∧ alive σ id ∧ μ id = some (b, base) ∧
  (∀ x ∈ (blkAt σ id).xs, x.cells.length = (blkAt σ id).es) ∧ (∀ x ∈ (blkAt σ id).xs, x.flat) ∧
  (∀ (i j : Nat) (x y : D), (blkAt σ id).xs[i]? = some x → x.cells[j]? = some y → ∃ v, w.cell? ⟨b, base + i * (blkAt σ id).es + j, none⟩ = some v ∧ RepD w I v y) := by
 have hal : alive σ id := by unfold alive; cases hB : blkAt σ id <;> simp_all [Blk.isArr, Blk.isDead]
 have hid := alive_lt hal
 have hb2 := h.blk id hid
 cases hB : blkAt σ id with
 | arr es xs =>
  rw [hB] at hb2 hi
  rcases hb2 with ⟨_, rfl⟩ | ⟨b, base, h1, _, _, _, h5, h6, h7⟩
  ·simp [Blk.xs] at hi
  ·exact ⟨b, base, hid, hal, h1, h5, h6, h7⟩
 | frz es xs =>
  rw [hB] at hb2 hi
  rcases hb2 with ⟨_, rfl⟩ | ⟨b, base, h1, hs⟩
  ·simp [Blk.xs] at hi
  ·exact ⟨b, base, hid, hal, h1, hs.size, hs.flat, hs.cell⟩
 | dead => rw [hB] at hb; simp [Blk.isArr] at hb
 | box _ _ => rw [hB] at hb; simp [Blk.isArr] at hb
 | map _ _ => rw [hB] at hb; simp [Blk.isArr] at hb
theorem getD_of_lt {xs : List D} {i : Nat} (h : i < xs.length) : xs[i]? = some (xs.getD i default) := by
 rw [List.getD_eq_getElem?_getD, List.getElem?_eq_getElem h]; rfl
theorem getD_mem {xs : List D} {i : Nat} (h : i < xs.length) : xs.getD i default ∈ xs := List.mem_of_getElem? (getD_of_lt h)
theorem load_goes (h : Rel w I μ σ) {t : TypeId} {g : Bool} {n : Nat} (hk : tkind P t = some g) (hs : tsz P t = some n) {v : Value} {p : AV} (hv : RepV w I μ σ v p) (ho : ldOk σ g n p) :
  ∃ u, (Instr.loadAt t v).run P w = .ok u w ∧ RepV w I μ σ u (ldV σ g n p) := by
 cases p with
 | ptr id off =>
  obtain ⟨hb, hp⟩ := ho
  obtain ⟨N, bv, b, hB, hid, hal, _, hμ, _, _, h5, h6⟩ := h.boxOf hb
  cases hv with
  | ptr _ _ _ _ hh =>
   obtain ⟨b', base, h1, rfl⟩ := hh
   have e := h1 hal
   rw [hμ] at e
   simp only [Option.some.injEq, Prod.mk.injEq] at e
   obtain ⟨rfl, rfl⟩ := e
   simp only [ldV, hB, Blk.boxV, Blk.boxN] at hp ⊢
   obtain ⟨u, hu, hr⟩ := load_partV (P := P) (B := 0) hk hs h5 (fun j hj => by rw [Nat.zero_add]; exact h6 j hj) hp
   refine ⟨u, ?_, hr⟩
   simp only [Instr.loadAt, Instr.sureAddr, Sem.run_bind, Sem.run_pure, Result.andThen_ok]
   exact hu
 | eptr es xs i off =>
  obtain ⟨hi, hp⟩ := ho
  cases hv with
  | eptr b o _ _ _ _ hh =>
   have hx := getD_of_lt hi
   obtain ⟨u, hu, hr⟩ := load_part (P := P) (B := o + i * es) hk hs (hh.size _ (getD_mem hi)) (hh.flat _ (getD_mem hi)) (fun j y hy => hh.cell i j _ y hx hy) hp
   refine ⟨u, ?_, .d _ _ hr⟩
   simp only [Instr.loadAt, Instr.sureAddr, Sem.run_bind, Sem.run_pure, Result.andThen_ok]
   exact hu
 | aptr id i off =>
  obtain ⟨hb, hi, hp⟩ := ho
  obtain ⟨b, base, hid, hal, hμ, h5, h6, h7⟩ := h.arrOf hb hi
  cases hv with
  | aptr _ _ _ _ _ hh =>
   obtain ⟨b', base', es, h1, rfl⟩ := hh
   obtain ⟨e, e2⟩ := h1 hal
   rw [hμ] at e
   simp only [Option.some.injEq, Prod.mk.injEq] at e
   obtain ⟨rfl, rfl⟩ := e
   subst e2
   have hx := getD_of_lt hi
   obtain ⟨u, hu, hr⟩ := load_part (P := P) (B := base + i * (blkAt σ id).es) hk hs (h5 _ (getD_mem hi)) (h6 _ (getD_mem hi)) (fun j y hy => h7 i j _ y hx hy) hp
   refine ⟨u, ?_, .d _ _ hr⟩
   simp only [Instr.loadAt, Instr.sureAddr, Sem.run_bind, Sem.run_pure, Result.andThen_ok]
   exact hu
 | _ => exact ho.elim
theorem mkAgg_cellAt (cs : List AV) (j : Nat) (hj : j < cs.length) : (mkAgg cs).cellAt j = cs.getD j .undef := by
 unfold mkAgg
 cases hd : allD cs with
 | none => rfl
 | some ds =>
  have e := allD_spec hd
  subst e
  simp only [List.length_map] at hj
  simp [AV.cellAt, D.cell, D.cells, List.getD_eq_getElem?_getD, List.getElem?_eq_getElem hj]
theorem mkAgg_ncells (cs : List AV) : (mkAgg cs).ncells = cs.length := by
 unfold mkAgg
 cases hd : allD cs with
 | none => rfl
 | some ds =>
  have e := allD_spec hd
  subst e
  simp [AV.ncells, D.cells]
theorem putV_cellAt {v u : AV} {N off n j : Nat} (hj : j < N) : (putV v N off n u).cellAt j = if off ≤ j ∧ j < off + n then u.cellAt (j - off) else v.cellAt j := by
 unfold putV
 split
 ·rename_i he
  obtain ⟨rfl, rfl⟩ := he
  rw [if_pos ⟨by omega, by omega⟩]; rfl
 ·rw [mkAgg_cellAt _ _ (by simpa using hj)]
  simp [List.getD_eq_getElem?_getD, hj]
theorem putV_ncells {v u : AV} {N off n : Nat} (hu : u.ncells = n) : (putV v N off n u).ncells = N := by
 unfold putV
 split
 ·rename_i he; rw [hu]; exact he.2
 ·rw [mkAgg_ncells]; simp
theorem run_storeAt {t : TypeId} {b o n : Nat} {v : Value} {vs : List Value} {w' : World} (hs : tsz P t = some n) (hc : v.cells = vs.toArray) (hl : vs.length = n) (hr : (storeCells ⟨b, o, none⟩ vs).run P w = .ok () w') :
  (Instr.storeAt t (.pointer (some ⟨b, o, none⟩)) v).run P w = .ok () w' := by
 simp only [Instr.storeAt, Instr.sureAddr, storeVar, Sem.run_bind, Sem.run_pure, Result.andThen_ok, run_sizeOf' hs, hc, List.size_toArray, hl]
 simpa only [ne_eq, not_true_eq_false, if_false] using hr
theorem cellsD_rep {v : Value} {x : D} (hv : RepD w I v x) : ∃ vs : List Value, v.cells = vs.toArray ∧ vs.length = x.cells.length ∧ ∀ j c, vs[j]? = some c → RepD w I c (x.cell j) ∧ c.oneCell' = true := by
 obtain ⟨vs, h1, h2, h3⟩ := cells_rep (RepV.d (μ := fun _ => none) (σ := []) v x hv) rfl
 exact ⟨vs, h1, h2, fun j c hc => ⟨(h3 j c hc).1.inv_d, (h3 j c hc).2.2⟩⟩
theorem putAt_cells {x u : D} {N off n : Nat} (hu : u.cells.length = n) : (x.putAt N off n u).cells.length = N := by
 unfold D.putAt
 split
 ·rename_i he; rw [hu]; exact he.2
 ·simp [D.cells]
theorem putAt_cell {x u : D} {N off n j : Nat} (hj : j < N) : (x.putAt N off n u).cell j = if off ≤ j ∧ j < off + n then u.cell (j - off) else x.cell j := by
 unfold D.putAt
 split
 ·rename_i he
  obtain ⟨rfl, rfl⟩ := he
  rw [if_pos ⟨by omega, by omega⟩]; rfl
 ·simp [D.cell, D.cells, List.getD_eq_getElem?_getD, hj]
theorem D.cell_of {x y : D} {j : Nat} (h : x.cells[j]? = some y) : x.cell j = y := by unfold D.cell; rw [List.getD_eq_getElem?_getD, h]; rfl
theorem D.one_cell {x : D} (h : x.flat) {j : Nat} (hj : j < x.cells.length) : (x.cell j).one = true := by
 have e : x.cells[j]? = some x.cells[j] := List.getElem?_eq_getElem hj
 rw [D.cell_of e]; exact h _ (List.getElem_mem hj)
theorem putAt_flat {x u : D} {N off n : Nat} (hx : x.flat) (hu : u.flat) (hxl : x.cells.length = N) (hul : u.cells.length = n) : (x.putAt N off n u).flat := by
 intro c hc
 obtain ⟨j, hj⟩ := List.getElem?_of_mem hc
 have hjl : j < N := by
  rw [← putAt_cells (x := x) (N := N) (off := off) hul]
  rcases Nat.lt_or_ge j (x.putAt N off n u).cells.length with h' | h'
  ·exact h'
  ·rw [List.getElem?_eq_none h'] at hj; cases hj
 rw [← D.cell_of hj, putAt_cell hjl]
 split
 ·exact D.one_cell hu (by omega)
 ·exact D.one_cell hx (by omega)
theorem store_goes (h : Rel w I μ σ) {t : TypeId} {n : Nat} (hs : tsz P t = some n) {v q : Value} {u p : AV} (hv : RepV w I μ σ v u) (hq : RepV w I μ σ q p) (ho : stOk σ n u p) :
  ∃ w' I', (Instr.storeAt t q v).run P w = .ok () w' ∧ Rel w' I' μ (stS σ n u p) ∧ Keep σ.length w I μ σ w' I' μ (stS σ n u p) := by
 cases p with
 | ptr id off =>
  obtain ⟨hb, hp, hst, hnc⟩ := ho
  obtain ⟨N, bv, b, hB, hid, hal, hown, hμ, hpl, h4, h5, h6⟩ := h.boxOf hb
  cases hq with
  | ptr _ _ _ _ hh =>
   obtain ⟨b', base, h1, rfl⟩ := hh
   have e := h1 hal
   rw [hμ] at e
   simp only [Option.some.injEq, Prod.mk.injEq] at e
   obtain ⟨rfl, rfl⟩ := e
   simp only [stS, hB, Blk.boxV, Blk.boxN] at hp ⊢
   obtain ⟨vs, hc1, hc2, hc3⟩ := cells_rep hv hst
   rw [hnc] at hc2
   obtain ⟨w', hr, ww, hw⟩ := store_run (P := P) (w := w) (b := b) (o := 0 + off) (vs := vs) hpl (by omega) (fun c hc => by
    obtain ⟨j, hj⟩ := List.getElem?_of_mem hc
    exact (hc3 j c hj).2.2)
   have k := keep_upd h hown hμ ww (.box N (putV bv N off n u)) (by rw [hB]; rfl) (by rw [hB]; rfl) (by rw [hB]; exact Nat.le_refl _)
   refine ⟨w', I, run_storeAt hs hc1 hc2 hr, ?_, k⟩
   refine h.upd hown hμ ww _ (by rw [hB]; rfl) (by rw [hB]; rfl) (by rw [hB]; exact Nat.le_refl _) ⟨b, hμ, (own_lt h hid hown hμ).2, ww.plain hpl, ww.bsize.trans h4, putV_ncells hnc, fun j hj => ?_⟩
   rw [putV_cellAt hj, hw j]
   by_cases hin : off ≤ j ∧ j < off + n
   ·have hlt : j - off < vs.length := by omega
    obtain ⟨r1, r2, _⟩ := hc3 (j - off) _ (List.getElem?_eq_getElem hlt)
    rw [if_pos hin, if_pos ⟨by omega, by omega⟩]
    exact ⟨r2, _, by rw [← List.getElem?_eq_getElem hlt]; congr 1; omega, r1.keep k⟩
   ·rw [if_neg hin, if_neg (by omega)]
    obtain ⟨r1, u', hu', r2⟩ := h6 j hj
    exact ⟨r1, u', hu', r2.keep k⟩
 | aptr id i off =>
  obtain ⟨hb, hi, hp, hd, hnc, hnr⟩ := ho
  obtain ⟨I', r1, r2, r3, r4, r5, r6⟩ := toD_rep h hv hd
  cases hB : blkAt σ id with
  | arr es xs =>
   have hB' : blkAt (freezeL σ u.refs) id = .arr es xs := by rw [r5 id hnr, hB]
   rw [hB] at hi hp
   simp only [Blk.xs, Blk.es] at hi hp
   have hown : (blkAt (freezeL σ u.refs) id).own = true := by rw [hB']; rfl
   have hid := blkAt_own_lt hown
   have hb2 := r1.blk id hid
   have hal : alive σ id := by unfold alive; rw [hB]; rfl
   rw [hB'] at hb2
   rcases hb2 with ⟨_, rfl⟩ | ⟨b, base, hμ, hnI, hpl, hsz, h5, h6, h7⟩
   ·simp at hi
   ·cases hq with
    | aptr _ _ _ _ _ hh =>
     obtain ⟨b', base', es', h1, rfl⟩ := hh
     obtain ⟨e, e2⟩ := h1 hal
     rw [hμ] at e
     simp only [Option.some.injEq, Prod.mk.injEq] at e
     obtain ⟨rfl, rfl⟩ := e
     rw [hB] at e2
     simp only [Blk.es] at e2
     subst e2
     simp only [stS, hB, Blk.es, Blk.xs]
     obtain ⟨vs, hc1, hc2, hc3⟩ := cellsD_rep r3
     have hxi := getD_of_lt hi
     have hxm := getD_mem hi
     have hbound : base + i * es + off + n ≤ base + xs.length * es := by
      have : (i + 1) * es ≤ xs.length * es := Nat.mul_le_mul_right es hi
      rw [Nat.add_mul] at this
      omega
     have hgoal : ∀ y, y = u.toD σ → y.cells.length = n → y.flat → (∀ j c, vs[j]? = some c → RepD w I' c (y.cell j) ∧ c.oneCell' = true) → vs.length = n →
       ∃ w' I'', (Instr.storeAt t (.pointer (some ⟨b, base + i * es + off, none⟩)) v).run P w = .ok () w' ∧ Rel w' I'' μ ((freezeL σ u.refs).set id (.arr es (xs.set i ((xs.getD i default).putAt es off n y)))) ∧
        Keep σ.length w I μ σ w' I'' μ ((freezeL σ u.refs).set id (.arr es (xs.set i ((xs.getD i default).putAt es off n y)))) := by
      intro y _ hyn hyf hyc hvl
      obtain ⟨w', hr, ww, hw⟩ := store_run (P := P) (w := w) (b := b) (o := base + i * es + off) (vs := vs) hpl (by omega) (fun c hc => by
       obtain ⟨j, hj⟩ := List.getElem?_of_mem hc
       exact (hyc j c hj).2)
      have k := keep_upd r1 hown hμ ww (.arr es (xs.set i ((xs.getD i default).putAt es off n y))) (by rw [hB']; rfl) (by rw [hB']; rfl) (by rw [hB']; simp [Blk.xs])
      rw [r4] at k
      refine ⟨w', I', run_storeAt hs hc1 hvl hr, ?_, r2.trans k⟩
      refine r1.upd hown hμ ww _ (by rw [hB']; rfl) (by rw [hB']; rfl) (by rw [hB']; simp [Blk.xs]) (.inr ⟨b, base, hμ, hnI, ww.plain hpl, by rw [ww.bsize]; simpa using hsz, fun x hx => ?_, fun x hx => ?_, fun i' j x y' hx hy => ?_⟩)
      ·rcases List.mem_or_eq_of_mem_set hx with hx | rfl
       ·exact h5 x hx
       ·exact putAt_cells hyn
      ·rcases List.mem_or_eq_of_mem_set hx with hx | rfl
       ·exact h6 x hx
       ·exact putAt_flat (h6 _ hxm) hyf (h5 _ hxm) hyn
      ·by_cases ei : i = i'
       ·subst ei
        rw [List.getElem?_set_self hi] at hx
        simp only [Option.some.injEq] at hx
        subst hx
        have hjl : j < es := by
         rw [← putAt_cells (x := xs.getD i default) (N := es) (off := off) hyn]
         rcases Nat.lt_or_ge j ((xs.getD i default).putAt es off n y).cells.length with h' | h'
         ·exact h'
         ·rw [List.getElem?_eq_none h'] at hy; cases hy
        rw [← D.cell_of hy, putAt_cell hjl, hw]
        by_cases hin : off ≤ j ∧ j < off + n
        ·have hlt : j - off < vs.length := by omega
         rw [if_pos hin, if_pos ⟨by omega, by omega⟩]
         refine ⟨_, by rw [← List.getElem?_eq_getElem hlt]; congr 1; omega, ?_⟩
         exact ((hyc (j - off) _ (List.getElem?_eq_getElem hlt)).1).keep k.imm k.rsame
        ·rw [if_neg hin, if_neg (by omega)]
         have hjx : j < (xs.getD i default).cells.length := by rw [h5 _ hxm]; exact hjl
         obtain ⟨v', hv', hr'⟩ := h7 i j _ _ hxi (List.getElem?_eq_getElem hjx)
         rw [D.cell_of (List.getElem?_eq_getElem hjx)]
         exact ⟨v', hv', hr'.keep k.imm k.rsame⟩
       ·rw [List.getElem?_set_ne ei] at hx
        obtain ⟨v', hv', hr'⟩ := h7 i' j x y' hx hy
        refine ⟨v', ?_, hr'.keep k.imm k.rsame⟩
        rw [hw, if_neg]
        ·exact hv'
        ·have hjl : j < es := by
          rw [← h5 x (List.mem_of_getElem? hx)]
          rcases Nat.lt_or_ge j x.cells.length with h' | h'
          ·exact h'
          ·rw [List.getElem?_eq_none h'] at hy; cases hy
         rw [hvl]
         intro ⟨ha, hb'⟩
         rcases Nat.lt_or_gt_of_ne ei with hlt | hgt
         ·have : (i + 1) * es ≤ i' * es := Nat.mul_le_mul_right es hlt
          rw [Nat.add_mul] at this
          omega
         ·have : (i' + 1) * es ≤ i * es := Nat.mul_le_mul_right es hgt
          rw [Nat.add_mul] at this
          omega
     exact hgoal _ rfl hnc r3.flat hc3 (hc2.trans hnc)
  | _ => rw [hB] at hb; simp [Blk.isOwnArr] at hb
 | _ => exact ho.elim
end Go.AM


namespace Go.AM
variable {P : Program} {w : World} {I : Im}
def SegRep (w : World) (I : Im) (v : Value) (g : Bool) (as : List D) : Prop :=
 if g = true then ∃ vs : List Value, v = .agg vs.toArray ∧ vs.length = as.length ∧ ∀ (i : Nat) (u : Value) (x : D), vs[i]? = some u → as[i]? = some x → RepD w I u x
 else ∃ x, as = [x] ∧ RepD w I v x
theorem cmpL_len : ∀ {l : List Nat} {as bs : List D}, cmpL l as bs = true → as.length = l.length ∧ bs.length = l.length
 | [], [], [], _ => ⟨rfl, rfl⟩
 | [], [], _ :: _, h => by simp [cmpL] at h
 | [], _ :: _, _, h => by simp [cmpL] at h
 | _ :: _, [], _, h => by simp [cmpL] at h
 | _ :: _, _ :: _, [], h => by simp [cmpL] at h
 | c :: l, a :: as, b :: bs, h => by
  simp only [cmpL, Bool.and_eq_true] at h
  have := cmpL_len h.2
  simp [this.1, this.2]
theorem cmpL_app : ∀ {l l' : List Nat} {as bs : List D}, cmpL (l ++ l') as bs = true → cmpL l (as.take l.length) (bs.take l.length) = true ∧ cmpL l' (as.drop l.length) (bs.drop l.length) = true
 | [], l', as, bs, h => ⟨by simp [cmpL], by simpa using h⟩
 | c :: l, l', [], _, h => by simp [cmpL] at h
 | c :: l, l', _ :: _, [], h => by simp [cmpL] at h
 | c :: l, l', a :: as, b :: bs, h => by
  simp only [List.cons_append, cmpL, Bool.and_eq_true] at h
  have ih := cmpL_app h.2
  simp only [List.length_cons, List.take_succ_cons, List.drop_succ_cons, cmpL, Bool.and_eq_true]
  exact ⟨⟨h.1, ih.1⟩, ih.2⟩
theorem beqL_app : ∀ {as bs as' bs' : List D}, as.length = bs.length → beqL (as ++ as') (bs ++ bs') = (beqL as bs && beqL as' bs')
 | [], [], as', bs', _ => by simp [beqL]
 | [], _ :: _, _, _, h => by simp at h
 | _ :: _, [], _, _, h => by simp at h
 | a :: as, b :: bs, as', bs', h => by
  have := beqL_app (as' := as') (bs' := bs') (as := as) (bs := bs) (by simpa using h)
  simp only [List.cons_append, beqL, this, Bool.and_assoc]
theorem beqL_split {as bs : List D} {n : Nat} (ha : n ≤ as.length) (hb : n ≤ bs.length) : beqL as bs = (beqL (as.take n) (bs.take n) && beqL (as.drop n) (bs.drop n)) := by
 have := beqL_app (as' := as.drop n) (bs' := bs.drop n) (as := as.take n) (bs := bs.take n) (by rw [List.length_take, List.length_take]; omega)
 rw [List.take_append_drop, List.take_append_drop] at this
 exact this
theorem part_seg {vs : List Value} {as : List D} (hl : vs.length = as.length) (h : ∀ (i : Nat) (u : Value) (x : D), vs[i]? = some u → as[i]? = some x → RepD w I u x) {t : TypeId} {g : Bool} {n o : Nat} (hk : tkind P t = some g) (hs : tsz P t = some n) (hn : g = false → n = 1) (ho : o + n ≤ as.length) :
  ∃ u, (part t vs.toArray o).run P w = .ok u w ∧ SegRep w I u g ((as.drop o).take n) := by
 unfold part
 cases g with
 | true =>
  refine ⟨.agg (vs.toArray.extract o (o + n)), by simp only [Sem.run_bind, run_isAgg' hk, Result.andThen_ok, if_true, run_sizeOf' hs, Sem.run_pure], ?_⟩
  unfold SegRep
  rw [if_pos rfl]
  refine ⟨(vs.drop o).take n, ?_, by rw [List.length_take, List.length_take, List.length_drop, List.length_drop, hl], fun i u x hu hx => ?_⟩
  ·congr 1
   apply Array.ext'
   simp [List.take_drop, Nat.add_comm]
  ·rw [List.getElem?_take] at hu hx
   split at hu
   ·rename_i hi
    rw [if_pos hi] at hx
    rw [List.getElem?_drop] at hu hx
    exact h _ _ _ hu hx
   ·cases hu
 | false =>
  have hn := hn rfl
  subst hn
  have la : o < as.length := by omega
  have lv : o < vs.length := by omega
  refine ⟨vs[o], by simp [run_isAgg' hk, lv], ?_⟩
  unfold SegRep
  rw [if_neg (by simp)]
  refine ⟨as[o], ?_, h o _ _ (List.getElem?_eq_getElem lv) (List.getElem?_eq_getElem la)⟩
  rw [List.drop_eq_getElem_cons la]; rfl
theorem seg_one {v : Value} {as : List D} (h : SegRep w I v false as) : ∃ x, as = [x] ∧ RepD w I v x := by
 unfold SegRep at h; rw [if_neg (by simp)] at h; exact h
theorem seg_agg {v : Value} {as : List D} (h : SegRep w I v true as) : ∃ vs : List Value, v = .agg vs.toArray ∧ vs.length = as.length ∧ ∀ (i : Nat) (u : Value) (x : D), vs[i]? = some u → as[i]? = some x → RepD w I u x := by
 unfold SegRep at h; rw [if_pos rfl] at h; exact h
def KSpec (P : Program) (w : World) (I : Im) (d : Nat) (g : TypeId → Option (List Nat)) : Prop :=
 ∀ (t : TypeId) (l : List Nat), g t = some l → ∃ b, tkind P t = some b ∧ (b = false → l.length = 1) ∧ ∀ {v v' : Value} {as bs : List D}, SegRep w I v b as → SegRep w I v' b bs → cmpL l as bs = true → ∀ D, d ≤ D → (Op.equalIn D t v v').run P w = .ok (beqL as bs) w
theorem fields_spec {d : Nat} {g : TypeId → Option (List Nat)} (hg : KSpec P w I d g) : ∀ {fs : List Field} {o : Nat} {l : List Nat}, kindsF P g fs o = some l → ∀ {xs ys : List Value} {as bs : List D},
  (∀ (i : Nat) (v : Value) (y : D), xs[i]? = some v → as[i]? = some y → RepD w I v y) → (∀ (i : Nat) (v : Value) (y : D), ys[i]? = some v → bs[i]? = some y → RepD w I v y) → xs.length = as.length → ys.length = bs.length →
  cmpL l (as.drop o) (bs.drop o) = true → ∀ D, d ≤ D → (Op.eqFields D xs.toArray ys.toArray fs).run P w = .ok (beqL (as.drop o) (bs.drop o)) w := by
 intro fs
 induction fs with
 | nil =>
  intro o l hf xs ys as bs _ _ _ _ hc D hD
  simp only [kindsF, Option.some.injEq] at hf
  subst hf
  have := cmpL_len hc
  have : as.drop o = [] := List.length_eq_zero_iff.1 this.1
  rw [this]
  simp [Op.eqFields, beqL]
 | cons f fs ih =>
  intro o l hf xs ys as bs hrx hry hlx hly hc D hD
  simp only [kindsF] at hf
  split at hf
  ·rename_i hcond
   obtain ⟨hn, hoff⟩ := hcond
   split at hf
   ·rename_i l1 hl1
    split at hf
    ·rename_i hsz
     obtain ⟨hsz, hpos⟩ := hsz
     split at hf
     ·rename_i l2 hl2
      simp only [Option.some.injEq] at hf
      subst hf
      obtain ⟨b, hk, hb1, hsp⟩ := hg _ _ hl1
      have hlen := cmpL_len hc
      rw [List.length_append] at hlen
      rw [List.length_drop, List.length_drop] at hlen
      obtain ⟨c1, c2⟩ := cmpL_app hc
      obtain ⟨u, hu1, hu2⟩ := part_seg hlx hrx (t := f.type) (o := o) hk hsz hb1 (by omega)
      obtain ⟨u', hu1', hu2'⟩ := part_seg hly hry (t := f.type) (o := o) hk hsz hb1 (by omega)
      have heq := hsp hu2 hu2' c1 D hD
      rw [List.drop_drop, List.drop_drop] at c2
      have ih' := ih hl2 hrx hry hlx hly c2 D hD
      rw [← hoff] at hu1 hu1'
      simp only [Op.eqFields, ne_eq, hn, not_false_eq_true, if_true, Sem.run_bind, hu1, hu1', Result.andThen_ok, heq]
      rw [beqL_split (as := as.drop o) (bs := bs.drop o) (n := l1.length) (by rw [List.length_drop]; omega) (by rw [List.length_drop]; omega), List.drop_drop, List.drop_drop]
      cases hbq : beqL ((as.drop o).take l1.length) ((bs.drop o).take l1.length) with
      | false => simp
      | true =>
       simp only [Bool.true_and]
       simpa using ih'
     ·cases hf
    ·cases hf
   ·cases hf
  ·cases hf
theorem items_spec {d : Nat} {g : TypeId → Option (List Nat)} (hg : KSpec P w I d g) {e : TypeId} {l : List Nat} (he : g e = some l) (hs : tsz P e = some l.length) (hpos : 0 < l.length) {xs ys : List Value} {as bs : List D}
  (hrx : ∀ (i : Nat) (v : Value) (y : D), xs[i]? = some v → as[i]? = some y → RepD w I v y) (hry : ∀ (i : Nat) (v : Value) (y : D), ys[i]? = some v → bs[i]? = some y → RepD w I v y) (hlx : xs.length = as.length) (hly : ys.length = bs.length) :
  ∀ (n k : Nat), cmpL (List.replicate n l).flatten (as.drop (k * l.length)) (bs.drop (k * l.length)) = true → ∀ D, d ≤ D → (Op.eqItems D e l.length xs.toArray ys.toArray (List.range' k n)).run P w = .ok (beqL (as.drop (k * l.length)) (bs.drop (k * l.length))) w
 | 0, k, hc, D, hD => by
  have := cmpL_len hc
  have e1 : as.drop (k * l.length) = [] := List.length_eq_zero_iff.1 (by simpa using this.1)
  rw [e1]
  simp [Op.eqItems, beqL]
 | n + 1, k, hc, D, hD => by
  obtain ⟨b, hk, hb1, hsp⟩ := hg _ _ he
  rw [List.replicate_succ, List.flatten_cons] at hc
  have hlen := cmpL_len hc
  rw [List.length_append, List.length_drop, List.length_drop] at hlen
  obtain ⟨c1, c2⟩ := cmpL_app hc
  obtain ⟨u, hu1, hu2⟩ := part_seg hlx hrx (t := e) (o := k * l.length) hk hs hb1 (by omega)
  obtain ⟨u', hu1', hu2'⟩ := part_seg hly hry (t := e) (o := k * l.length) hk hs hb1 (by omega)
  have heq := hsp hu2 hu2' c1 D hD
  have ek : k * l.length + l.length = (k + 1) * l.length := by rw [Nat.succ_mul]
  rw [List.drop_drop, List.drop_drop, ek] at c2
  have ih := items_spec hg he hs hpos hrx hry hlx hly n (k + 1) c2 D hD
  rw [List.range'_succ]
  simp only [Op.eqItems, Sem.run_bind, hu1, hu1', Result.andThen_ok, heq]
  rw [beqL_split (as := as.drop (k * l.length)) (bs := bs.drop (k * l.length)) (n := l.length) (by rw [List.length_drop]; omega) (by rw [List.length_drop]; omega), List.drop_drop, List.drop_drop, ek]
  cases hbq : beqL ((as.drop (k * l.length)).take l.length) ((bs.drop (k * l.length)).take l.length) with
  | false => simp
  | true =>
   simp only [Bool.true_and]
   simpa using ih
theorem kinds_spec : ∀ d : Nat, KSpec P w I d (kinds P d)
 | 0 => by intro t l h; simp [kinds] at h
 | d + 1 => by
  have ih := kinds_spec d
  intro t l h
  unfold kinds at h
  split at h
  ·rename_i k hu
   simp only [Option.some.injEq] at h
   subst h
   refine ⟨false, by unfold tkind; rw [hu], fun _ => rfl, fun {v v' as bs} h1 h2 hc m hm => ?_⟩
   obtain ⟨x, rfl, r1⟩ := seg_one h1
   obtain ⟨y, rfl, r2⟩ := seg_one h2
   obtain ⟨m, rfl⟩ : ∃ m', m = m' + 1 := ⟨m - 1, by omega⟩
   simp only [cmpL, Bool.and_true] at hc
   cases r1 <;> cases r2 <;> simp [D.cmp1] at hc
   subst hc
   simp only [beqL, Bool.and_true, D.beq1]
   exact run_equalIn_int w m t _ k _ _ hu
  ·rename_i hu
   simp only [Option.some.injEq] at h
   subst h
   refine ⟨false, by unfold tkind; rw [hu], fun _ => rfl, fun {v v' as bs} h1 h2 hc m hm => ?_⟩
   obtain ⟨x, rfl, r1⟩ := seg_one h1
   obtain ⟨y, rfl, r2⟩ := seg_one h2
   obtain ⟨m, rfl⟩ : ∃ m', m = m' + 1 := ⟨m - 1, by omega⟩
   simp only [cmpL, Bool.and_true] at hc
   cases r1 <;> cases r2 <;> simp [D.cmp1] at hc
   simp only [beqL, Bool.and_true, D.beq1]
   exact run_equalIn_bool' w m t _ _ hu
  ·rename_i hu
   simp only [Option.some.injEq] at h
   subst h
   refine ⟨false, by unfold tkind; rw [hu], fun _ => rfl, fun {v v' as bs} h1 h2 hc m hm => ?_⟩
   obtain ⟨x, rfl, r1⟩ := seg_one h1
   obtain ⟨y, rfl, r2⟩ := seg_one h2
   obtain ⟨m, rfl⟩ : ∃ m', m = m' + 1 := ⟨m - 1, by omega⟩
   simp only [cmpL, Bool.and_true] at hc
   cases r1 <;> cases r2 <;> simp [D.cmp1] at hc
   simp only [beqL, Bool.and_true, D.beq1]
   rw [run_equalIn_string w m t _ _ hu, ByteArray.toList_eq, ByteArray.toList_eq]
  ·rename_i fs hu
   split at h
   ·rename_i hst
    refine ⟨true, (by unfold tkind; rw [hu]), (fun hb => by cases hb), fun {v v' as bs} h1 h2 hc m hm => ?_⟩
    obtain ⟨xs, rfl, hlx, hrx⟩ := seg_agg h1
    obtain ⟨ys, rfl, hly, hry⟩ := seg_agg h2
    obtain ⟨m, rfl⟩ : ∃ m', m = m' + 1 := ⟨m - 1, by omega⟩
    have hf : P.fieldsOf t = fs := by unfold Program.fieldsOf; rw [hu]
    rw [run_equalIn_agg w m t _ _ (by rw [hf]; exact hu) hst, hf]
    have := fields_spec ih h hrx hry hlx hly (by simpa using hc) m (by omega)
    simpa using this
   ·cases h
  ·rename_i n e hu
   split at h
   ·rename_i l1 hl1
    split at h
    ·rename_i hs
     obtain ⟨hs, hpos⟩ := hs
     simp only [Option.some.injEq] at h
     subst h
     refine ⟨true, (by unfold tkind; rw [hu]), (fun hb => by cases hb), fun {v v' as bs} h1 h2 hc m hm => ?_⟩
     obtain ⟨xs, rfl, hlx, hrx⟩ := seg_agg h1
     obtain ⟨ys, rfl, hly, hry⟩ := seg_agg h2
     obtain ⟨m, rfl⟩ : ∃ m', m = m' + 1 := ⟨m - 1, by omega⟩
     obtain ⟨i, hi, hi2⟩ : ∃ i, P.info? e = some i ∧ i.size = l1.length := by
      unfold tsz at hs
      cases hq : P.info? e with
      | none => rw [hq] at hs; cases hs
      | some i => rw [hq] at hs; exact ⟨i, rfl, by simpa using hs⟩
     have hce : P.cellsOf e = l1.length := by unfold Program.cellsOf; rw [hi]; exact hi2
     rw [run_equalIn_array w m xs.toArray ys.toArray hu hi, hce, List.range_eq_range']
     have := items_spec ih hl1 hs hpos hrx hry hlx hly n 0 (by simpa using hc) m (by omega)
     simpa using this
    ·cases h
   ·cases h
  ·cases h
end Go.AM


namespace Go.AM
variable {P : Program} {w : World} {I : Im} {μ : Pos} {σ : Sto}
theorem run_eqGuard_plain (op : BinOp) (t : TypeId) (x y : Operand) (a b : Value) (ha : (match a with | .agg _ | .nilIface => false | _ => true) = true) : (eqGuard op t x y a b).run P w = .ok () w := by
 unfold eqGuard
 cases op <;> cases a <;> simp_all
theorem int_bin (op : BinOp) (t : TypeId) (k k' : IntKind) (a b : Int) (ho : intBinOk op k k' b) :
  ∃ u, (binOp op t (.int k a) (.int k' b)).run P w = .ok u w ∧ RepD w I u (intBin op k a b) := by
 cases op <;> simp only [intBinOk] at ho
 case shl => exact ⟨.int k (k.wrap (a * 2 ^ (min b.toNat k.bits))), by simp [binOp, Op.shift, Int.not_lt.2 ho], .int _ _⟩
 case shr => exact ⟨.int k (a.fdiv (2 ^ (min b.toNat k.bits))), by simp [binOp, Op.shift, Int.not_lt.2 ho], .int _ _⟩
 case quo => obtain ⟨rfl, hb⟩ := ho; exact ⟨.int k (k.wrap (a.tdiv b)), by simp [binOp, Op.intDiv, hb], .int _ _⟩
 case rem => obtain ⟨rfl, hb⟩ := ho; exact ⟨.int k (a.tmod b), by simp [binOp, Op.intDiv, hb], .int _ _⟩
 all_goals subst ho
 case add => exact ⟨.int k (k.wrap (a + b)), by simp [binOp, Op.intArith], .int _ _⟩
 case sub => exact ⟨.int k (k.wrap (a - b)), by simp [binOp, Op.intArith], .int _ _⟩
 case mul => exact ⟨.int k (k.wrap (a * b)), by simp [binOp, Op.intArith], .int _ _⟩
 case and => exact ⟨.int k (k.wrap ((BitVec.ofInt k.bits a) &&& (BitVec.ofInt k.bits b)).toNat), by simp only [binOp, ne_eq, not_true_eq_false, if_false, Op.intBits, Sem.run_pure], .int _ _⟩
 case or => exact ⟨.int k (k.wrap ((BitVec.ofInt k.bits a) ||| (BitVec.ofInt k.bits b)).toNat), by simp only [binOp, ne_eq, not_true_eq_false, if_false, Op.intBits, Sem.run_pure], .int _ _⟩
 case xor => exact ⟨.int k (k.wrap ((BitVec.ofInt k.bits a) ^^^ (BitVec.ofInt k.bits b)).toNat), by simp only [binOp, ne_eq, not_true_eq_false, if_false, Op.intBits, Sem.run_pure], .int _ _⟩
 case andNot => exact ⟨.int k (k.wrap ((BitVec.ofInt k.bits a) &&& ~~~(BitVec.ofInt k.bits b)).toNat), by simp only [binOp, ne_eq, not_true_eq_false, if_false, Op.intBits, Sem.run_pure], .int _ _⟩
 case eql => exact ⟨.bool (a == b), by simp [binOp, Op.intCmp], .bool _⟩
 case neq => exact ⟨.bool (a != b), by simp [binOp, Op.intCmp], .bool _⟩
 case lss => exact ⟨.bool (decide (a < b)), by simp [binOp, Op.intCmp], .bool _⟩
 case leq => exact ⟨.bool (decide (a ≤ b)), by simp [binOp, Op.intCmp], .bool _⟩
 case gtr => exact ⟨.bool (decide (a > b)), by simp [binOp, Op.intCmp], .bool _⟩
 case geq => exact ⟨.bool (decide (a ≥ b)), by simp [binOp, Op.intCmp], .bool _⟩
theorem toList_mk (s : List UInt8) : (⟨s.toArray⟩ : ByteArray).toList = s := by
 rw [ByteArray.toList_eq]
theorem str_bin (op : BinOp) (t : TypeId) (a b : List UInt8) (ho : strBinOk op a b) :
  ∃ u, (binOp op t (.string ⟨a.toArray⟩) (.string ⟨b.toArray⟩)).run P w = .ok u w ∧ RepD w I u (strBin op a b) := by
 have e : binOp op t (.string ⟨a.toArray⟩) (.string ⟨b.toArray⟩) = Op.stringOp op ⟨a.toArray⟩ ⟨b.toArray⟩ := by cases op <;> rfl
 rw [e]
 cases op <;> simp only [strBinOk] at ho
 case add =>
  have hs : ¬ (((⟨a.toArray⟩ : ByteArray).size + (⟨b.toArray⟩ : ByteArray).size : Nat) : Int) > IntKind.i64.max := by
   have : IntKind.i64.max = 9223372036854775807 := by decide
   rw [this]
   show ¬ (((a.toArray.size + b.toArray.size : Nat) : Int)) > _
   simp only [List.size_toArray]
   omega
  refine ⟨.string (⟨a.toArray⟩ ++ ⟨b.toArray⟩), by simp only [Op.stringOp, if_neg hs, Sem.run_pure], ?_⟩
  have e2 : ((⟨a.toArray⟩ : ByteArray) ++ ⟨b.toArray⟩) = ⟨(a ++ b).toArray⟩ := by
   apply ByteArray.ext
   simp [ByteArray.data_append]
  rw [e2]; exact .str _
 all_goals first
  | exact ho.elim
  | exact ⟨.bool _, by simp only [Op.stringOp, Sem.run_pure, toList_mk], .bool _⟩
theorem binop_goes0 {op : BinOp} {t : TypeId} {x y : Operand} {a b : Value} {u v : AV} (ha : RepV w I μ σ a u) (hb : RepV w I μ σ b v) (ho : binOk0 P t op u v) :
  ∃ z, (do eqGuard op t x y a b; binOp op t a b : Sem Value).run P w = .ok z w ∧ RepV w I μ σ z (binV0 op u v) := by
 cases u with
 | d p =>
  cases v with
  | d q =>
   have h1 := ha.inv_d
   have h2 := hb.inv_d
   have fin : (∃ z, (binOp op t a b).run P w = .ok z w ∧ RepD w I z (binD op p q)) → (eqGuard op t x y a b).run P w = .ok () w →
     ∃ z, (do eqGuard op t x y a b; binOp op t a b : Sem Value).run P w = .ok z w ∧ RepV w I μ σ z (binV0 op (.d p) (.d q)) := by
    rintro ⟨z, hz, hr⟩ hg
    exact ⟨z, by simp only [Sem.run_bind, hg, Result.andThen_ok]; exact hz, .d _ _ hr⟩
   cases h1 with
   | int k n =>
    cases h2 with
    | int k' n' => exact fin (int_bin op t k k' n n' ho) (run_eqGuard_plain op t x y _ _ rfl)
    | _ => exact ho.elim
   | str s =>
    cases h2 with
    | str s' => exact fin (str_bin op t s s' ho) (run_eqGuard_plain op t x y _ _ rfl)
    | _ => exact ho.elim
   | bool c =>
    cases h2 with
    | bool c' =>
     obtain ⟨h3, h4⟩ := ho
     refine fin ?_ (run_eqGuard_plain op t x y _ _ rfl)
     cases op <;> simp only at h3
     ·exact ⟨.bool (c == c'), by simp [binOp, Op.equal, Op.maxDepth, run_equalIn_bool' w 9999 t c c' h4], .bool _⟩
     ·exact ⟨.bool (!(c == c')), by simp [binOp, Op.equal, Op.maxDepth, run_equalIn_bool' w 9999 t c c' h4], .bool _⟩
    | _ => exact ho.elim
   | agg vs cs hl _ hh =>
    cases h2 with
    | agg vs' cs' hl' _ hh' =>
     obtain ⟨h3, h4⟩ := ho
     cases ht : tcmp P t with
     | none => rw [ht] at h4; exact h4.elim
     | some l =>
      rw [ht] at h4
      unfold tcmp at ht
      split at ht
      ·rename_i hc
       obtain ⟨b, hk, _, hsp⟩ := kinds_spec (P := P) (w := w) (I := I) 6 t l ht
       rw [hc.1] at hk
       simp only [Option.some.injEq] at hk
       subst hk
       have e1 : (Op.equalIn 10000 t (.agg vs.toArray) (.agg vs'.toArray)).run P w = .ok (beqL cs cs') w :=
        hsp (by unfold SegRep; rw [if_pos rfl]; exact ⟨vs, rfl, hl, hh⟩) (by unfold SegRep; rw [if_pos rfl]; exact ⟨vs', rfl, hl', hh'⟩) h4 10000 (by omega)
       refine fin ?_ (run_eqGuard_agg w op t x y _ _ hc.2)
       cases op <;> simp only at h3
       ·exact ⟨.bool (beqL cs cs'), by rw [run_eql_struct, e1]; rfl, .bool _⟩
       ·exact ⟨.bool (!(beqL cs cs')), by rw [run_neq_struct, e1]; rfl, .bool _⟩
      ·cases ht
    | _ => exact ho.elim
   | _ => cases q <;> exact ho.elim
  | _ => exact ho.elim
 | _ => exact ho.elim
theorem nil_cases {op : BinOp} {t : TypeId} {x y : Operand} {a b : Value} {u : AV} {c : Bool} (h : op = .eql ∨ op = .neq) (hg : (match a with | .agg _ | .nilIface => false | _ => true) = true)
  (hb : binOp .eql t a b = (do pure (.bool (← Op.equal t a b)) : Sem Value)) (hb2 : binOp .neq t a b = (do pure (.bool (!(← Op.equal t a b))) : Sem Value))
  (he : (Op.equal t a b).run P w = .ok c w) (hu : isNilV u = .d (.bool c) ∨ isNilV u = .anyb) :
  ∃ z, (do eqGuard op t x y a b; binOp op t a b : Sem Value).run P w = .ok z w ∧ RepV w I μ σ z (nilBin op (isNilV u)) := by
 have hgd := run_eqGuard_plain (P := P) (w := w) op t x y a b hg
 rcases h with rfl | rfl
 ·refine ⟨.bool c, by simp only [Sem.run_bind, hgd, Result.andThen_ok, hb, he, Sem.run_pure], ?_⟩
  rcases hu with hu | hu <;> rw [hu]
  ·exact .d _ _ (.bool _)
  ·exact .anyb _
 ·refine ⟨.bool (!c), by simp only [Sem.run_bind, hgd, Result.andThen_ok, hb2, he, Sem.run_pure], ?_⟩
  rcases hu with hu | hu <;> rw [hu]
  ·exact .d _ _ (.bool _)
  ·exact .anyb _
theorem und_slice {t : TypeId} (h : (telem P t).isSome = true) : ∃ e, P.underlying t = some (.slice e) := by
 unfold telem at h
 split at h
 ·exact ⟨_, by assumption⟩
 ·cases h
theorem und_ptr {t : TypeId} (h : tptr P t = true) : ∃ e, P.underlying t = some (.pointer e) := by
 unfold tptr at h
 split at h
 ·exact ⟨_, by assumption⟩
 ·cases h
theorem und_map {t : TypeId} (h : (tmap P t).isSome = true) : ∃ k e, P.underlying t = some (.map k e) := by
 unfold tmap at h
 split at h
 ·exact ⟨_, _, by assumption⟩
 ·cases h
theorem equalIn_slice_nil {t e : TypeId} (h : P.underlying t = some (.slice e)) (p : Option Addr) (n c : Nat) (d : Nat) : (Op.equalIn (d + 1) t (.slice p n c) (.slice none 0 0)).run P w = .ok p.isNone w := by
 cases p <;> simp [Op.equalIn, run_underlying h]
theorem equal_slice_nil {t e : TypeId} (h : P.underlying t = some (.slice e)) (p : Option Addr) (n c : Nat) : (Op.equal t (.slice p n c) (.slice none 0 0)).run P w = .ok p.isNone w := equalIn_slice_nil h p n c 9999
theorem equalIn_ptr_nil {t e : TypeId} (h : P.underlying t = some (.pointer e)) (p : Option Addr) (d : Nat) : (Op.equalIn (d + 1) t (.pointer p) (.pointer none)).run P w = .ok p.isNone w := by
 cases p <;> simp [Op.equalIn, run_underlying h]
theorem equal_ptr_nil {t e : TypeId} (h : P.underlying t = some (.pointer e)) (p : Option Addr) : (Op.equal t (.pointer p) (.pointer none)).run P w = .ok p.isNone w := equalIn_ptr_nil h p 9999
theorem equalIn_map_nil {t k e : TypeId} (h : P.underlying t = some (.map k e)) (p : Option Nat) (d : Nat) : (Op.equalIn (d + 1) t (.map p) (.map none)).run P w = .ok p.isNone w := by
 cases p <;> simp [Op.equalIn, run_underlying h]
theorem equal_map_nil {t k e : TypeId} (h : P.underlying t = some (.map k e)) (p : Option Nat) : (Op.equal t (.map p) (.map none)).run P w = .ok p.isNone w := equalIn_map_nil h p 9999
theorem nilsl (xs : List D) : isNilV (.d (.sl xs)) = .d (.bool false) ∨ isNilV (.d (.sl xs)) = .anyb := by cases xs <;> simp [isNilV]
theorem nilosl (i o n : Nat) : isNilV (.osl i o n) = .d (.bool false) ∨ isNilV (.osl i o n) = .anyb := by cases n <;> simp [isNilV]
theorem nil_goes {op : BinOp} {t : TypeId} {x y : Operand} {a b : Value} {u v : AV} (ha : RepV w I μ σ a u) (hb : RepV w I μ σ b v) (ho : nilOk P t op u v) :
  ∃ z, (do eqGuard op t x y a b; binOp op t a b : Sem Value).run P w = .ok z w ∧ RepV w I μ σ z (nilBin op (isNilV u)) := by
 obtain ⟨h, ho⟩ := ho
 have sl : ∀ (p : Option Addr) (n c : Nat), a = .slice p n c → b = .slice none 0 0 → (telem P t).isSome = true → (isNilV u = .d (.bool p.isNone) ∨ isNilV u = .anyb) →
   ∃ z, (do eqGuard op t x y a b; binOp op t a b : Sem Value).run P w = .ok z w ∧ RepV w I μ σ z (nilBin op (isNilV u)) := by
  intro p n c e1 e2 ht hu
  subst e1; subst e2
  obtain ⟨e, ht⟩ := und_slice ht
  exact nil_cases h rfl rfl rfl (equal_slice_nil ht p n c) hu
 have pt : ∀ (p : Option Addr), a = .pointer p → b = .pointer none → tptr P t = true → isNilV u = .d (.bool p.isNone) →
   ∃ z, (do eqGuard op t x y a b; binOp op t a b : Sem Value).run P w = .ok z w ∧ RepV w I μ σ z (nilBin op (isNilV u)) := by
  intro p e1 e2 ht hu
  subst e1; subst e2
  obtain ⟨e, ht⟩ := und_ptr ht
  exact nil_cases h rfl rfl rfl (equal_ptr_nil ht p) (.inl hu)
 have mp : ∀ (p : Option Nat), a = .map p → b = .map none → (tmap P t).isSome = true → isNilV u = .d (.bool p.isNone) →
   ∃ z, (do eqGuard op t x y a b; binOp op t a b : Sem Value).run P w = .ok z w ∧ RepV w I μ σ z (nilBin op (isNilV u)) := by
  intro p e1 e2 ht hu
  subst e1; subst e2
  obtain ⟨k, e, ht⟩ := und_map ht
  exact nil_cases h rfl rfl rfl (equal_map_nil ht p) (.inl hu)
 split at ho
 ·have e2 : b = .slice none 0 0 := by cases hb; rfl
  have e1 : a = .slice none 0 0 := by cases ha; rfl
  exact sl none 0 0 e1 e2 ho (.inl rfl)
 ·have e2 : b = .slice none 0 0 := by cases hb; rfl
  cases ha.inv_d with
  | nil p c => exact sl p 0 c rfl e2 ho (.inr rfl)
  | sl b' off es cap _ vals => exact sl _ _ _ rfl e2 ho (nilsl _)
 ·have e2 : b = .slice none 0 0 := by cases hb; rfl
  cases ha with
  | osl _ id off len hid hh =>
   rcases hh with ⟨rfl, p, rfl⟩ | ⟨b', base, es, cap, _, _, rfl⟩
   ·exact sl p 0 0 rfl e2 ho (.inr rfl)
   ·exact sl _ _ _ rfl e2 ho (nilosl _ _ _)
 ·have e2 : b = .pointer none := by cases hb.inv_d; rfl
  cases ha with | ptr _ id off hid hh => obtain ⟨_, _, _, rfl⟩ := hh; exact pt _ rfl e2 ho rfl
 ·have e2 : b = .pointer none := by cases hb.inv_d; rfl
  cases ha with | eptr => exact pt _ rfl e2 ho rfl
 ·have e2 : b = .pointer none := by cases hb.inv_d; rfl
  cases ha with | aptr _ id i off hid hh => obtain ⟨_, _, _, _, rfl⟩ := hh; exact pt _ rfl e2 ho rfl
 ·have e2 : b = .pointer none := by cases hb.inv_d; rfl
  have e1 : a = .pointer none := by cases ha.inv_d; rfl
  exact pt none e1 e2 ho rfl
 ·have e2 : b = .map none := by cases hb.inv_d; rfl
  cases ha with | mapr _ id hid hh => obtain ⟨_, _, rfl⟩ := hh; exact mp _ rfl e2 ho rfl
 ·have e2 : b = .map none := by cases hb.inv_d; rfl
  have e1 : a = .map none := by cases ha.inv_d; rfl
  exact mp none e1 e2 ho rfl
 ·exact ho.elim
theorem binop_goes {op : BinOp} {t : TypeId} {x y : Operand} {a b : Value} {u v : AV} (ha : RepV w I μ σ a u) (hb : RepV w I μ σ b v) (ho : binOk P t op u v) :
  ∃ z, (do eqGuard op t x y a b; binOp op t a b : Sem Value).run P w = .ok z w ∧ RepV w I μ σ z (binV op u v) := by
 unfold binOk at ho
 unfold binV
 by_cases h : v.isNilc = true
 ·rw [if_pos h] at ho ⊢; exact nil_goes ha hb ho
 ·rw [if_neg h] at ho ⊢; exact binop_goes0 ha hb ho
theorem unop_goes {op : UnOp} {a : Value} {u : AV} (ha : RepV w I μ σ a u) (ho : unOk op u) : ∃ z, (Op.unary op a).run P w = .ok z w ∧ RepV w I μ σ z (unV op u) := by
 cases u with
 | d p =>
  have h1 := ha.inv_d
  cases h1 with
  | int k n =>
   cases op <;> simp only [unOk] at ho
   ·exact ⟨.int k (k.wrap (0 - n)), by simp [Op.unary, Op.intArith], .d _ _ (.int _ _)⟩
   ·exact ⟨.int k (k.wrap ((BitVec.ofInt k.bits (if k.signed then -1 else k.max)) ^^^ (BitVec.ofInt k.bits n)).toNat), by simp only [Op.unary, Op.intBits, Sem.run_pure], .d _ _ (.int _ _)⟩
  | bool b =>
   cases op <;> simp only [unOk] at ho
   exact ⟨.bool (!b), rfl, .d _ _ (.bool _)⟩
  | _ => exact ho.elim
 | _ => exact ho.elim
end Go.AM


namespace Go.AM
variable {P : Program} {w : World} {I : Im} {μ : Pos} {σ : Sto}
theorem shift_rep {v : Value} {p : AV} (hv : RepV w I μ σ v p) (hp : p.isPtr = true) (n : Nat) : ∃ b o, v = .pointer (some ⟨b, o, none⟩) ∧ RepV w I μ σ (.pointer (some ⟨b, o + n, none⟩)) (p.shift n) := by
 cases p with
 | ptr id off =>
  cases hv with
  | ptr _ _ _ hid hh =>
   obtain ⟨b, base, h1, rfl⟩ := hh
   exact ⟨b, _, rfl, .ptr _ _ _ hid ⟨b, base, h1, by rw [Nat.add_assoc]⟩⟩
 | eptr es xs i off =>
  cases hv with
  | eptr b o _ _ _ _ hh => exact ⟨b, _, rfl, by rw [Nat.add_assoc]; exact .eptr b o es xs i (off + n) hh⟩
 | aptr id i off =>
  cases hv with
  | aptr _ _ _ _ hid hh =>
   obtain ⟨b, base, es, h1, rfl⟩ := hh
   exact ⟨b, _, rfl, .aptr _ _ _ _ hid ⟨b, base, es, h1, by rw [Nat.add_assoc]⟩⟩
 | _ => simp [AV.isPtr] at hp
theorem tfld_spec {s : TypeId} {f o n : Nat} {g : Bool} (h : tfld P s f = some (o, n, g)) : ∃ fs x, P.underlying s = some (.struct fs) ∧ fs[f]? = some x ∧ x.offset = o ∧ tsz P x.type = some n ∧ tkind P x.type = some g := by
 unfold tfld at h
 split at h
 ·rename_i fs hu
  split at h
  ·rename_i x hx
   split at h
   ·rename_i n' g' h1 h2
    simp only [Option.some.injEq, Prod.mk.injEq] at h
    obtain ⟨rfl, rfl, rfl⟩ := h
    exact ⟨fs, x, hu, hx, rfl, h1, h2⟩
   ·cases h
  ·cases h
 ·cases h
theorem fieldAddr_goes {s : TypeId} {f o n : Nat} {g : Bool} (h : tfld P s f = some (o, n, g)) (hn : n ≠ 0) {v : Value} {p : AV} (hv : RepV w I μ σ v p) (hp : p.isPtr = true) :
  ∃ u, (Instr.fieldAt s v f).run P w = .ok u w ∧ RepV w I μ σ u (p.shift o) := by
 obtain ⟨fs, x, h1, h2, rfl, h4, _⟩ := tfld_spec h
 obtain ⟨b, o', rfl, hr⟩ := shift_rep hv hp x.offset
 refine ⟨_, ?_, hr⟩
 simp only [Instr.fieldAt, Instr.sureAddr, fieldPlace, Sem.run_bind, run_underlying h1, Result.andThen_ok, h2, Sem.run_pure, run_sizeOf' h4, if_neg hn, addr_add]
theorem field_goes {s : TypeId} {f o n N : Nat} {g : Bool} (h : tfld P s f = some (o, n, g)) {v : Value} {u : AV} (hv : RepV w I μ σ v u) (ha : u.isAgg = true) (hN : u.ncells = N) (hb : o + n ≤ N) (hg : g = true ∨ n = 1) :
  ∃ z, (Instr.field s v f).run P w = .ok z w ∧ RepV w I μ σ z (if g = true then u.subV o n else u.cellAt o) := by
 obtain ⟨fs, x, h1, h2, rfl, h4, h5⟩ := tfld_spec h
 have hs : u.storable = true := by cases u <;> simp_all [AV.isAgg, AV.storable]
 obtain ⟨vs, hc1, hc2, hc3⟩ := cells_rep hv hs
 rw [hN] at hc2
 have hvs : v = .agg vs.toArray := by
  cases u with
  | agg cs => cases hv; rename_i vs' _ _ _; simp only [Value.cells] at hc1; rw [hc1]
  | d x =>
   have := hv.inv_d
   rw [D.agg_of_isAgg ha] at this
   cases this; simp only [Value.cells] at hc1; rw [hc1]
  | _ => simp [AV.isAgg] at ha
 subst hvs
 cases g with
 | false =>
  have hn : n = 1 := by simpa using hg
  subst hn
  have hl : x.offset < vs.length := by omega
  refine ⟨vs[x.offset], ?_, ?_⟩
  ·simp only [Instr.field, asAgg, Sem.run_bind, run_underlying h1, Result.andThen_ok, h2, Sem.run_pure, part, run_isAgg' h5]
   simp [hl]
  ·simpa using (hc3 x.offset _ (List.getElem?_eq_getElem hl)).1
 | true =>
  refine ⟨.agg ((vs.drop x.offset).take n).toArray, ?_, ?_⟩
  ·simp only [Instr.field, asAgg, Sem.run_bind, run_underlying h1, Result.andThen_ok, h2, Sem.run_pure, part, run_isAgg' h5, if_true, run_sizeOf' h4]
   congr 3
   simp
  ·simp only [if_true]
   have rep : ∀ i c, ((vs.drop x.offset).take n)[i]? = some c → i < n ∧ RepV w I μ σ c (u.cellAt (x.offset + i)) ∧ (u.cellAt (x.offset + i)).one = true := fun i c hc => by
    rcases Nat.lt_or_ge i n with hi | hi
    ·rw [List.getElem?_take_of_lt hi, List.getElem?_drop] at hc
     exact ⟨hi, (hc3 _ c hc).1, (hc3 _ c hc).2.1⟩
    ·rw [List.getElem?_eq_none (by simp; omega)] at hc; cases hc
   have hlen : ((vs.drop x.offset).take n).length = n := by simp; omega
   cases u with
   | d y =>
    have hyl : y.cells.length = N := hN
    refine .d _ _ (.agg _ _ (by simp; omega) (fun c hc => hv.inv_d.flat c (List.mem_of_mem_drop (List.mem_of_mem_take hc))) fun i c z hc hz => ?_)
    obtain ⟨hi, r, _⟩ := rep i c hc
    rw [List.getElem?_take_of_lt hi, List.getElem?_drop] at hz
    have := r.inv_d
    rwa [D.cell_of hz] at this
   | agg cs =>
    have hyl : cs.length = N := hN
    refine mkAgg_rep (by simp; omega) (fun c hc => ?_) fun i c z hc hz => ?_
    ·cases hv with
     | agg _ _ _ hone _ => exact hone c (List.mem_of_mem_drop (List.mem_of_mem_take hc))
    ·obtain ⟨hi, r, _⟩ := rep i c hc
     rw [List.getElem?_take_of_lt hi, List.getElem?_drop] at hz
     simpa [AV.cellAt, List.getD_eq_getElem?_getD, hz] using r
   | _ => simp [AV.isAgg] at ha
theorem tidx_slice {t : TypeId} {es : Nat} (h : tidx P t = some (none, es)) : ∃ e, P.underlying t = some (.slice e) ∧ tsz P e = some es := by
 unfold tidx at h
 split at h
 ·rename_i e hu
  cases hs : tsz P e with
  | none => rw [hs] at h; cases h
  | some n => rw [hs] at h; simp at h; subst h; exact ⟨e, hu, hs⟩
 ·rename_i k e hu
  cases hs : tsz P e with
  | none => rw [hs] at h; cases h
  | some n => rw [hs] at h; simp at h
 ·cases h
theorem tidx_array {t : TypeId} {k es : Nat} (h : tidx P t = some (some k, es)) : ∃ e, P.underlying t = some (.array k e) ∧ tsz P e = some es := by
 unfold tidx at h
 split at h
 ·rename_i e hu
  cases hs : tsz P e with
  | none => rw [hs] at h; cases h
  | some n => rw [hs] at h; simp at h
 ·rename_i k' e hu
  cases hs : tsz P e with
  | none => rw [hs] at h; cases h
  | some n => rw [hs] at h; simp at h; obtain ⟨rfl, rfl⟩ := h; exact ⟨e, hu, hs⟩
 ·cases h
theorem int_rep {v : Value} {u : AV} (hv : RepV w I μ σ v u) (hi : u.isIntv = true) : ∃ k, v = .int k u.num := by
 cases u with
 | d x =>
  have := hv.inv_d
  cases this <;> simp_all [AV.isIntv, AV.num]
 | _ => simp [AV.isIntv] at hi
theorem idx_goes {t : TypeId} {es : Nat} (ht : tidx P t = some (none, es)) {v iv : Value} {u i : AV} (hv : RepV w I μ σ v u) (hi : RepV w I μ σ iv i) (hint : i.isIntv = true) (ho : idxOk σ es i.num u) :
  ∃ z, (Instr.indexAt t v iv).run P w = .ok z w ∧ RepV w I μ σ z (idxV es i.num u) := by
 obtain ⟨e, h1, h2⟩ := tidx_slice ht
 obtain ⟨k, rfl⟩ := int_rep hi hint
 generalize i.num = n at *
 cases u with
 | d x =>
  cases x with
  | sl xs =>
   obtain ⟨p1, p2, p3⟩ := ho
   cases hv.inv_d with
   | nil a cap => simp at p2; omega
   | sl b off es' cap _ vals hI hcap hes hfl hc hr =>
    have hlt : n.toNat < xs.length := by omega
    have hes' : es' = es := by rw [← hes _ (getD_mem hlt)]; exact p3
    subst hes'
    refine ⟨.pointer (some ⟨b, off + n.toNat * es' + 0, none⟩), ?_, .eptr b off es' xs n.toNat 0 ⟨hI, hes, hfl, fun i j x y hx hy => ?_⟩⟩
    ·simp only [Instr.indexAt, asIntOf, Sem.run_bind, Sem.run_pure, Result.andThen_ok, run_underlying h1]
     simp only [p1, p2, and_self, if_true, Sem.run_bind, run_sizeOf' h2, Result.andThen_ok, Sem.run_pure, addr_add, Nat.add_zero]
    ·have hil : i < xs.length := by
      rcases Nat.lt_or_ge i xs.length with h' | h'
      ·exact h'
      ·rw [List.getElem?_eq_none h'] at hx; cases hx
     have hjl : j < es' := by
      rw [← hes x (List.mem_of_getElem? hx)]
      rcases Nat.lt_or_ge j x.cells.length with h' | h'
      ·exact h'
      ·rw [List.getElem?_eq_none h'] at hy; cases hy
     exact ⟨vals i j, hc i j hil hjl, hr i j x y hx hy⟩
  | _ => exact ho.elim
 | osl id off len =>
  obtain ⟨p1, p2, p3, p4⟩ := ho
  have hal : alive σ id := by unfold alive; cases hB : blkAt σ id <;> simp_all [Blk.isArr, Blk.isDead]
  cases hv with
  | osl _ _ _ _ hid hh =>
   rcases hh with ⟨rfl, _⟩ | ⟨b, base, es', cap, q1, q2, rfl⟩
   ·simp at p2; omega
   ·obtain ⟨r1, r2, r3, r4, r5⟩ := q1 hal
    rw [p4] at r3
    subst r3
    refine ⟨.pointer (some ⟨b, base + off * es + n.toNat * es, none⟩), ?_, .aptr _ _ _ _ hid ⟨b, base, es, fun _ => ⟨r1, p4⟩, ?_⟩⟩
    ·simp only [Instr.indexAt, asIntOf, Sem.run_bind, Sem.run_pure, Result.andThen_ok, run_underlying h1]
     simp only [p1, p2, and_self, if_true, Sem.run_bind, run_sizeOf' h2, Result.andThen_ok, Sem.run_pure, addr_add]
    ·rw [Nat.add_mul, Nat.add_zero, Nat.add_assoc]
 | _ => exact ho.elim
theorem aidx_goes {t : TypeId} {k es : Nat} (ht : tidx P t = some (some k, es)) {v iv : Value} {p i : AV} (hv : RepV w I μ σ v p) (hi : RepV w I μ σ iv i) (hint : i.isIntv = true) (ho : aidxOk k i.num p) :
  ∃ z, (Instr.indexAt t v iv).run P w = .ok z w ∧ RepV w I μ σ z (p.shift (i.num.toNat * es)) := by
 obtain ⟨e, h1, h2⟩ := tidx_array ht
 obtain ⟨kk, rfl⟩ := int_rep hi hint
 obtain ⟨p1, p2, p3, p4⟩ := ho
 obtain ⟨b, o, rfl, hr⟩ := shift_rep hv p1 (i.num.toNat * es)
 refine ⟨_, ?_, hr⟩
 simp only [Instr.indexAt, asIntOf, Instr.sureAddr, Sem.run_bind, Sem.run_pure, Result.andThen_ok, run_underlying h1]
 simp only [p2, p3, and_self, if_true, Sem.run_bind, run_sizeOf' h2, Result.andThen_ok, Sem.run_pure, addr_add]
theorem telem_spec {t e : TypeId} (h : telem P t = some e) : P.underlying t = some (.slice e) := by
 unfold telem at h
 split at h
 ·rename_i e' hu; simp at h; subst h; exact hu
 ·cases h
theorem tstr_spec {t : TypeId} (h : tstr P t = true) : P.underlying t = some .string := by
 unfold tstr at h
 split at h
 ·assumption
 ·cases h
theorem index_goes {t : TypeId} (ht : tstr P t = true) {v iv : Value} {i : AV} {s : List UInt8} (hv : RepV w I μ σ v (.d (.str s))) (hi : RepV w I μ σ iv i) (hint : i.isIntv = true) (h0 : 0 ≤ i.num) (h1 : i.num < s.length) :
  ∃ z, (Instr.index t v iv).run P w = .ok z w ∧ RepV w I μ σ z (.d (.int .u8 (s.getD i.num.toNat 0).toNat)) := by
 obtain ⟨k, rfl⟩ := int_rep hi hint
 cases hv.inv_d
 have hu := tstr_spec ht
 have hlt : i.num.toNat < s.length := by omega
 refine ⟨_, ?_, .d _ _ (.int _ _)⟩
 simp only [Instr.index, asIntOf, Sem.run_bind, Sem.run_pure, Result.andThen_ok, run_underlying hu, h0, if_true]
 have : (⟨s.toArray⟩ : ByteArray)[i.num.toNat]? = some (s.getD i.num.toNat 0) := by
  show (if h : i.num.toNat < (⟨s.toArray⟩ : ByteArray).size then some ((⟨s.toArray⟩ : ByteArray)[i.num.toNat]) else none) = _
  have hsz : (⟨s.toArray⟩ : ByteArray).size = s.length := by simp [ByteArray.size]
  rw [dif_pos (by rw [hsz]; exact hlt)]
  congr 1
  rw [List.getD_eq_getElem?_getD, List.getElem?_eq_getElem hlt]
  rfl
 rw [this]
 rfl
end Go.AM


namespace Go.AM
variable {P : Program} {w : World} {I : Im} {μ : Pos} {σ : Sto}
theorem len_goes {t ty : TypeId} {v : Value} {u : AV} (hv : RepV w I μ σ v u) (ho : u.hasLen P t = true) : (Builtin.len_ #[t] ty #[v]).run P w = .ok (.int .i64 u.len) w := by
 have slice : ∀ {a : Option Addr} {n c : Nat}, (telem P t).isSome = true → (Builtin.len_ #[t] ty #[.slice a n c]).run P w = .ok (.int .i64 n) w := fun {a n c} ht => by
  obtain ⟨el, he⟩ := Option.isSome_iff_exists.1 ht
  simp [Builtin.len_, run_underlying (telem_spec he), goInt]
 cases u with
 | d x =>
  cases x with
  | sl xs =>
   cases hv.inv_d with
   | nil a cap => exact slice ho
   | sl b off es cap _ vals _ _ _ _ _ _ => exact slice ho
  | str s =>
   cases hv.inv_d
   have hu := tstr_spec (show tstr P t = true from ho)
   have hsz : (⟨s.toArray⟩ : ByteArray).size = s.length := by simp [ByteArray.size]
   simp [Builtin.len_, run_underlying hu, goInt, AV.len, hsz]
  | _ => simp [AV.hasLen] at ho
 | nils => cases hv; exact slice ho
 | osl id off len =>
  cases hv with
  | osl _ _ _ _ hid hh =>
   rcases hh with ⟨rfl, a, rfl⟩ | ⟨b, base, es, cap, _, _, rfl⟩
   ·exact slice ho
   ·exact slice ho
 | _ => simp [AV.hasLen] at ho
theorem run_sliceBound {x : Value} {k : IntKind} {i : Int} {y : Nat} {c : BoundsCode} (hx : x = .int k i) (h0 : 0 ≤ i) (h1 : i ≤ y) : (Instr.sliceBound x y c).run P w = .ok i.toNat w := by
 subst hx
 simp [Instr.sliceBound, asIntOf, h0, h1]
theorem run_sliceBounds (isS : Bool) {len cap : Nat} {lo hi : Option Value} {l h : Int} (hl : (lo = none ∧ l = 0) ∨ ∃ k, lo = some (.int k l)) (hh : (hi = none ∧ h = len) ∨ ∃ k, hi = some (.int k h)) (h0 : 0 ≤ l) (h1 : l ≤ h) (h2 : h ≤ cap) :
  (Instr.sliceBounds isS len cap lo hi none).run P w = .ok (l.toNat, h.toNat, cap) w := by
 unfold Instr.sliceBounds
 have hh' : h = ((h.toNat : Nat) : Int) := by omega
 rcases hl with ⟨rfl, rfl⟩ | ⟨k, rfl⟩ <;> rcases hh with ⟨rfl, rfl⟩ | ⟨k', rfl⟩
 ·simp
 ·simp [run_sliceBound (P := P) (w := w) (x := .int k' h) rfl (by omega) h2]
 ·simp [run_sliceBound (P := P) (w := w) (x := .int k l) (y := len) rfl h0 (by omega)]
 ·simp only [Sem.run_bind, Sem.run_pure, Result.andThen_ok, run_sliceBound (P := P) (w := w) (x := .int k' h) rfl (by omega) h2, Option.isSome_none, Bool.false_eq_true, if_false]
  rw [run_sliceBound (P := P) (w := w) (x := .int k l) (y := h.toNat) rfl h0 (by omega)]
  simp
theorem slice_goes {t : TypeId} {v : Value} {lo hi : Option Value} {l h : Int} {u : AV} (hv : RepV w I μ σ v u) (hl : (lo = none ∧ l = 0) ∨ ∃ k, lo = some (.int k l)) (hh : (hi = none ∧ h = u.len) ∨ ∃ k, hi = some (.int k h)) (ho : slOk P t σ l h u) :
  ∃ z, (Instr.sliceAt t v lo hi none).run P w = .ok z w ∧ RepV w I μ σ z (slV l h u) := by
 have isSlice : ∀ {e : TypeId}, P.underlying t = some (.slice e) → (Instr.sliceAt t v lo hi none).run P w = (Instr.slice t v lo hi none).run P w := fun {e} hu => by simp [Instr.sliceAt, run_underlying hu]
 have go : ∀ {a : Option Addr} {len cap n : Nat} {e : TypeId}, v = .slice a len cap → P.underlying t = some (.slice e) → tsz P e = some n → ((hi = none ∧ h = len) ∨ ∃ k, hi = some (.int k h)) → 0 ≤ l → l ≤ h → h ≤ cap →
   (Instr.sliceAt t v lo hi none).run P w = .ok (.slice (if cap = l.toNat then a else a.map (·.add (l.toNat * n))) (h.toNat - l.toNat) (cap - l.toNat)) w := by
  intro a len cap n e hv hu hs hh' h0 h1 h2
  rw [isSlice hu]
  subst hv
  simp only [Instr.slice, Sem.run_bind, run_underlying hu, Result.andThen_ok, run_sliceBounds (P := P) (w := w) true hl hh' h0 h1 h2, run_sizeOf' hs, Sem.run_pure]
 cases u with
 | d x =>
  cases x with
  | str s =>
   obtain ⟨h3, h0, h1, h2⟩ := ho
   have hu := tstr_spec h3
   cases hv.inv_d
   have hsz : (⟨s.toArray⟩ : ByteArray).size = s.length := by simp [ByteArray.size]
   refine ⟨.string ((⟨s.toArray⟩ : ByteArray).extract l.toNat h.toNat), ?_, ?_⟩
   ·have e1 : (Instr.sliceAt t (.string ⟨s.toArray⟩) lo hi none).run P w = (Instr.slice t (.string ⟨s.toArray⟩) lo hi none).run P w := by simp [Instr.sliceAt, run_underlying hu]
    rw [e1]
    have := run_sliceBounds (P := P) (w := w) false (len := (⟨s.toArray⟩ : ByteArray).size) (cap := (⟨s.toArray⟩ : ByteArray).size) hl (by rw [hsz]; exact hh) h0 h1 (by rw [hsz]; exact h2)
    simp only [Instr.slice, Sem.run_bind, run_underlying hu, Result.andThen_ok, Option.isSome_none, Bool.false_eq_true, if_false, Sem.run_pure, this]
   ·have e2 : (⟨s.toArray⟩ : ByteArray).extract l.toNat h.toNat = ⟨((s.take h.toNat).drop l.toNat).toArray⟩ := by
     apply ByteArray.ext
     simp [ByteArray.data_extract, List.extract_eq_take_drop, List.drop_take]
    rw [e2]; exact .d _ _ (.str _)
  | sl xs =>
   obtain ⟨⟨h3, h4⟩, h0, h1, h2, h5⟩ := ho
   obtain ⟨e, he⟩ := Option.isSome_iff_exists.1 h4
   have hu := telem_spec he
   cases hti : tidx P t with
   | none => rw [hti] at h3; cases h3
   | some q =>
    obtain ⟨kk, es⟩ := q
    have hq : kk = none ∧ tsz P e = some es := by
     unfold tidx at hti
     rw [hu] at hti
     cases hs : tsz P e with
     | none => simp [hs] at hti
     | some n => simp [hs] at hti; exact ⟨hti.1.symm, by rw [hti.2]⟩
    obtain ⟨rfl, hs⟩ := hq
    rw [hti] at h5
    simp only at h5
    cases hv.inv_d with
    | nil a cap =>
     have hl0 : l = 0 := by simp at h2; omega
     have hh0 : h = 0 := by simp at h2; omega
     subst hl0; subst hh0
     refine ⟨_, go rfl hu hs hh (by omega) (by omega) (by omega), ?_⟩
     exact .d _ _ (by simpa using RepD.nil _ cap)
    | sl b off es' cap _ vals hI hcap hes hfl hc hr =>
     refine ⟨_, go rfl hu hs hh h0 h1 (by omega), ?_⟩
     have hlen : ((xs.take h.toNat).drop l.toNat).length = h.toNat - l.toNat := by simp; omega
     by_cases hz : h.toNat - l.toNat = 0
     ·rw [hz]
      have : (xs.take h.toNat).drop l.toNat = [] := List.eq_nil_of_length_eq_zero (by omega)
      show RepV w I μ σ _ (.d (.sl ((xs.take h.toNat).drop l.toNat)))
      rw [this]
      exact .d _ _ (.nil _ _)
     ·have hne : cap ≠ l.toNat := by omega
      rw [if_neg hne]
      have hxs : ∃ x, x ∈ xs := by
       cases xs with
       | nil => simp at h2; omega
       | cons x r => exact ⟨x, List.mem_cons_self⟩
      obtain ⟨x0, hx0⟩ := hxs
      have hes' : es' = es := by rw [← hes x0 hx0]; exact h5 x0 hx0
      subst hes'
      have hget : ∀ (i : Nat) (x : D), ((xs.take h.toNat).drop l.toNat)[i]? = some x → xs[l.toNat + i]? = some x ∧ l.toNat + i < xs.length := fun i x hx => by
       rw [List.getElem?_drop, List.getElem?_take] at hx
       split at hx
       ·refine ⟨hx, ?_⟩
        rcases Nat.lt_or_ge (l.toNat + i) xs.length with h' | h'
        ·exact h'
        ·rw [List.getElem?_eq_none h'] at hx; cases hx
       ·cases hx
      have hmem : ∀ x ∈ (xs.take h.toNat).drop l.toNat, x ∈ xs := fun x hx => List.mem_of_mem_take (List.mem_of_mem_drop hx)
      have key := RepD.sl (w := w) (I := I) b (off + l.toNat * es') es' (cap - l.toNat) ((xs.take h.toNat).drop l.toNat) (fun i j => vals (l.toNat + i) j) hI (by rw [hlen]; omega)
       (fun x hx => hes x (hmem x hx)) (fun x hx => hfl x (hmem x hx)) (fun i j hi hj => ?_) (fun i j x y hx hy => hr (l.toNat + i) j x y (hget i x hx).1 hy)
      ·rw [hlen] at key
       show RepV w I μ σ _ (.d (.sl ((xs.take h.toNat).drop l.toNat)))
       simpa [addr_add] using RepV.d (μ := μ) (σ := σ) _ _ key
      ·have hx : ((xs.take h.toNat).drop l.toNat)[i]? = some ((xs.take h.toNat).drop l.toNat)[i] := List.getElem?_eq_getElem hi
       have := hc (l.toNat + i) j (hget i _ hx).2 hj
       rw [← this]
       congr 2
       rw [Nat.add_mul]; omega
  | _ => exact ho.elim
 | nils =>
  obtain ⟨h3, h4, rfl, rfl⟩ := ho
  obtain ⟨e, he⟩ := Option.isSome_iff_exists.1 h3
  have hu := telem_spec he
  obtain ⟨q, hq⟩ := Option.isSome_iff_exists.1 h4
  have hs : ∃ n, tsz P e = some n := by
   unfold tidx at hq
   rw [hu] at hq
   cases hs : tsz P e with
   | none => simp [hs] at hq
   | some n => exact ⟨n, rfl⟩
  obtain ⟨n, hs⟩ := hs
  cases hv
  refine ⟨_, go rfl hu hs hh (by omega) (by omega) (by omega), ?_⟩
  simpa [slV] using (RepV.nils (w := w) (I := I) (μ := μ) (σ := σ))
 | osl id off len =>
  obtain ⟨h3, h0, h1, h2, h4, h5⟩ := ho
  obtain ⟨e, he⟩ := Option.isSome_iff_exists.1 h3
  have hu := telem_spec he
  obtain ⟨e', hu', hs⟩ := tidx_slice h5
  rw [hu] at hu'
  simp only [Option.some.injEq, TypeDesc.slice.injEq] at hu'
  subst hu'
  have hal : alive σ id := by unfold alive; cases hB : blkAt σ id <;> simp_all [Blk.isArr, Blk.isDead]
  cases hv with
  | osl _ _ _ _ hid hv' =>
   rcases hv' with ⟨rfl, a, rfl⟩ | ⟨b, base, es, cap, q1, q2, rfl⟩
   ·have hl0 : l = 0 := by simp at h2; omega
    have hh0 : h = 0 := by simp at h2; omega
    subst hl0; subst hh0
    refine ⟨_, go rfl hu hs hh (by omega) (by omega) (by omega), ?_⟩
    simp only [Int.toNat_zero, Nat.sub_self, if_true, slV]
    exact .osl _ _ _ _ hid (.inl ⟨rfl, a, rfl⟩)
   ·obtain ⟨r1, r2, r3, r4, r5⟩ := q1 hal
    refine ⟨_, go rfl hu hs hh h0 h1 (by omega), ?_⟩
    subst r3
    by_cases hz : cap = l.toNat
    ·rw [if_pos hz]
     have e1 : h.toNat - l.toNat = 0 := by omega
     have e2 : cap - l.toNat = 0 := by omega
     simp only [slV, e1, e2]
     exact .osl _ _ _ _ hid (.inl ⟨rfl, _, rfl⟩)
    ·rw [if_neg hz]
     refine .osl _ _ _ _ hid (.inr ⟨b, base, (blkAt σ id).es, cap - l.toNat, fun _ => ⟨r1, r2, rfl, by omega, ?_⟩, by omega, ?_⟩)
     ·have : off + l.toNat + (cap - l.toNat) = off + cap := by omega
      rw [this]; exact r5
     ·simp only [Option.map_some, addr_add]
      congr 3
      rw [Nat.add_mul]; omega
 | _ => exact ho.elim
theorem box_goes (h : Rel w I μ σ) (t : TypeId) {v : Value} {u : AV} (hv : RepV w I μ σ v u) (hs : u.storable = true) :
  ∃ w' μ', (Instr.box t v).run P w = .ok (.pointer (some ⟨w.heap.size, 0, none⟩)) w' ∧ Rel w' I μ' (σ ++ [.box u.ncells u]) ∧ Keep σ.length w I μ σ w' I μ' (σ ++ [.box u.ncells u]) ∧
   RepV w' I μ' (σ ++ [.box u.ncells u]) (.pointer (some ⟨w.heap.size, 0, none⟩)) (.ptr σ.length 0) := by
 obtain ⟨vs, hc1, hc2, hc3⟩ := cells_rep hv hs
 have hsz : vs.toArray.size = u.ncells := by simpa using hc2
 have k := keep_alloc h (.cells vs.toArray t) (w.heap.size, 0) (.box vs.toArray.size u)
 have r := h.newBox vs.toArray t u (by rw [hsz]) (fun j c hc => by
  have := hc3 j c (by simpa using hc)
  exact ⟨this.2.1, this.1⟩)
 have q := newBox_rep (I := I) (μ := μ) (σ := σ) (w := w) vs.toArray t u
 rw [hsz] at k r q
 refine ⟨_, _, ?_, r, k, q⟩
 simp only [Instr.box, newVar, newRow, hc1, Sem.run_bind, run_newObj, Result.andThen_ok, Sem.run_pure]
 rfl
theorem alloc_goes (h : Rel w I μ σ) {t : TypeId} {z : Value} (hz : tzero P t = some z) (hs : (constV z).storable = true) :
  ∃ w' μ', (Instr.alloc t true (.tuple #[])).run P w = .ok (.pointer (some ⟨w.heap.size, 0, none⟩)) w' ∧ Rel w' I μ' (σ ++ [.box (constV z).ncells (constV z)]) ∧ Keep σ.length w I μ σ w' I μ' (σ ++ [.box (constV z).ncells (constV z)]) ∧
   RepV w' I μ' (σ ++ [.box (constV z).ncells (constV z)]) (.pointer (some ⟨w.heap.size, 0, none⟩)) (.ptr σ.length 0) := by
 obtain ⟨w', μ', h1, h2⟩ := box_goes (P := P) h t (constV_rep z) hs
 refine ⟨w', μ', ?_, h2⟩
 simp only [Instr.alloc, Sem.run_bind, run_zeroValue' hz, Result.andThen_ok]
 simp only [Instr.box, Sem.run_bind] at h1
 exact h1
end Go.AM


namespace Go.AM
variable {P : Program} {w : World} {I : Im} {μ : Pos} {σ : Sto}
theorem row_cells {b o es : Nat} {xs : List D} (hes : 0 < es) (hsz : ∀ x ∈ xs, x.cells.length = es) (hfl : ∀ x ∈ xs, x.flat)
  (hc : ∀ (i j : Nat) (x y : D), xs[i]? = some x → x.cells[j]? = some y → ∃ v, w.cell? ⟨b, o + i * es + j, none⟩ = some v ∧ RepD w I v y) :
  ∃ news : List Value, news.length = xs.length * es ∧ (∀ j u, news[j]? = some u → w.cell? ⟨b, o + j, none⟩ = some u) ∧
   (∀ (i j : Nat) (x y : D), xs[i]? = some x → x.cells[j]? = some y → ∃ u, news[i * es + j]? = some u ∧ RepD w I u y) ∧ (∀ u ∈ news, u.oneCell' = true) := by
 have at_ : ∀ q, q < xs.length * es → ∃ u y, w.cell? ⟨b, o + q, none⟩ = some u ∧ RepD w I u y ∧ y.one = true := fun q hq => by
  have hi : q / es < xs.length := Nat.div_lt_of_lt_mul (by rw [Nat.mul_comm]; exact hq)
  have hj : q % es < es := Nat.mod_lt _ hes
  have hx : xs[q / es]? = some xs[q / es] := List.getElem?_eq_getElem hi
  have hjl : q % es < xs[q / es].cells.length := by rw [hsz _ (List.getElem_mem hi)]; exact hj
  obtain ⟨v, hv, hr⟩ := hc (q / es) (q % es) _ _ hx (List.getElem?_eq_getElem hjl)
  have e : o + q / es * es + q % es = o + q := by rw [Nat.add_assoc, Nat.div_add_mod']
  rw [e] at hv
  exact ⟨v, _, hv, hr, hfl _ (List.getElem_mem hi) _ (List.getElem_mem hjl)⟩
 refine ⟨(List.range (xs.length * es)).map fun q => (w.cell? ⟨b, o + q, none⟩).getD Go.undef, by simp, fun j u hu => ?_, fun i j x y hx hy => ?_, fun u hu => ?_⟩
 ·rw [List.getElem?_map] at hu
  rcases Nat.lt_or_ge j (xs.length * es) with hj | hj
  ·obtain ⟨u', _, hu', _⟩ := at_ j hj
   simp [hj, hu'] at hu
   rw [← hu]; exact hu'
  ·simp [hj] at hu
 ·obtain ⟨v, hv, hr⟩ := hc i j x y hx hy
  refine ⟨v, ?_, hr⟩
  have hil : i < xs.length := by
   rcases Nat.lt_or_ge i xs.length with h' | h'
   ·exact h'
   ·rw [List.getElem?_eq_none h'] at hx; cases hx
  have hjl : j < es := by
   rw [← hsz x (List.mem_of_getElem? hx)]
   rcases Nat.lt_or_ge j x.cells.length with h' | h'
   ·exact h'
   ·rw [List.getElem?_eq_none h'] at hy; cases hy
  have hq : i * es + j < xs.length * es := by
   have : (i + 1) * es ≤ xs.length * es := Nat.mul_le_mul_right es hil
   rw [Nat.add_mul] at this
   omega
  rw [List.getElem?_map]
  rw [Nat.add_assoc] at hv
  simp [hq, hv]
 ·obtain ⟨j, hj⟩ := List.getElem?_of_mem hu
  rw [List.getElem?_map] at hj
  rcases Nat.lt_or_ge j (xs.length * es) with hjl | hjl
  ·obtain ⟨u', y, hu', hr, h1⟩ := at_ j hjl
   simp [hjl, hu'] at hj
   rw [← hj]; exact hr.oneCell h1
  ·simp [hjl] at hj
def srcOk (σ : Sto) (es : Nat) : AV → Prop
 | .d (.sl xs) => ∀ x ∈ xs, x.cells.length = es
 | .osl id _ _ => (blkAt σ id).isArr = true ∧ (blkAt σ id).es = es
 | .nils => True
 | _ => False
def dstOk (σ : Sto) (es : Nat) : AV → Prop
 | .osl id _ _ => (blkAt σ id).isOwnArr = true ∧ (blkAt σ id).es = es
 | .nils => True
 | _ => False
theorem run_loadCells_at {b o : Nat} {cs : List Value} (h : ∀ j v, cs[j]? = some v → w.cell? ⟨b, o + j, none⟩ = some v) : (loadCells ⟨b, o, none⟩ cs.length).run P w = .ok cs.toArray w :=
 run_loadCells_list w _ cs fun j v hj => by rw [addr_add]; exact h j v hj
theorem src_cells (h : Rel w I μ σ) {es : Nat} (hes : 0 < es) {v : Value} {x : AV} (hv : RepV w I μ σ v x) (ho : srcOk σ es x) :
  ∃ (a : Option Addr) (c : Nat) (news : List Value), v = .slice a (x.elems σ).length c ∧ news.length = (x.elems σ).length * es ∧
   (∀ w' : World, w'.heap = w.heap → (Builtin.firstCells es (x.elems σ).length v).run P w' = .ok news.toArray w') ∧
   (∀ (i j : Nat) (z y : D), (x.elems σ)[i]? = some z → z.cells[j]? = some y → ∃ u, news[i * es + j]? = some u ∧ RepD w I u y) ∧ (∀ u ∈ news, u.oneCell' = true) ∧
   (∀ z ∈ x.elems σ, z.cells.length = es) ∧ (∀ z ∈ x.elems σ, z.flat) ∧ (∀ (b o : Nat), a = some ⟨b, o, none⟩ → ∀ j u, news[j]? = some u → w.cell? ⟨b, o + j, none⟩ = some u) := by
 have none_ : ∀ (a : Option Addr) (c : Nat), v = .slice a 0 c → x.elems σ = [] → ∃ (a : Option Addr) (c : Nat) (news : List Value), v = .slice a (x.elems σ).length c ∧ news.length = (x.elems σ).length * es ∧
   (∀ w' : World, w'.heap = w.heap → (Builtin.firstCells es (x.elems σ).length v).run P w' = .ok news.toArray w') ∧
   (∀ (i j : Nat) (z y : D), (x.elems σ)[i]? = some z → z.cells[j]? = some y → ∃ u, news[i * es + j]? = some u ∧ RepD w I u y) ∧ (∀ u ∈ news, u.oneCell' = true) ∧
   (∀ z ∈ x.elems σ, z.cells.length = es) ∧ (∀ z ∈ x.elems σ, z.flat) ∧ (∀ (b o : Nat), a = some ⟨b, o, none⟩ → ∀ j u, news[j]? = some u → w.cell? ⟨b, o + j, none⟩ = some u) := by
  intro a c hv he
  rw [he]
  refine ⟨a, c, [], hv, by simp, fun w' _ => ?_, fun i j z y hz => by simp at hz, fun u hu => by simp at hu, fun z hz => by simp at hz, fun z hz => by simp at hz, fun b o _ j u hu => by simp at hu⟩
  subst hv
  cases a with
  | none => simp [Builtin.firstCells]
  | some a => simp [Builtin.firstCells, loadCells, loadCellsFrom]
 have some_ : ∀ (b o c : Nat), v = .slice (some ⟨b, o, none⟩) (x.elems σ).length c → (∀ z ∈ x.elems σ, z.cells.length = es) → (∀ z ∈ x.elems σ, z.flat) →
   (∀ (i j : Nat) (z y : D), (x.elems σ)[i]? = some z → z.cells[j]? = some y → ∃ v, w.cell? ⟨b, o + i * es + j, none⟩ = some v ∧ RepD w I v y) → ∃ (a : Option Addr) (c : Nat) (news : List Value), v = .slice a (x.elems σ).length c ∧ news.length = (x.elems σ).length * es ∧
   (∀ w' : World, w'.heap = w.heap → (Builtin.firstCells es (x.elems σ).length v).run P w' = .ok news.toArray w') ∧
   (∀ (i j : Nat) (z y : D), (x.elems σ)[i]? = some z → z.cells[j]? = some y → ∃ u, news[i * es + j]? = some u ∧ RepD w I u y) ∧ (∀ u ∈ news, u.oneCell' = true) ∧
   (∀ z ∈ x.elems σ, z.cells.length = es) ∧ (∀ z ∈ x.elems σ, z.flat) ∧ (∀ (b o : Nat), a = some ⟨b, o, none⟩ → ∀ j u, news[j]? = some u → w.cell? ⟨b, o + j, none⟩ = some u) := by
  intro b o c hv h1 h2 h3
  obtain ⟨news, n1, n2, n3, n4⟩ := row_cells hes h1 h2 h3
  refine ⟨some ⟨b, o, none⟩, c, news, hv, n1, fun w' hw' => ?_, n3, n4, h1, h2, fun b' o' he => by simp only [Option.some.injEq, Addr.mk.injEq] at he; obtain ⟨rfl, rfl, _⟩ := he; exact n2⟩
  subst hv
  have : (loadCells ⟨b, o, none⟩ news.length).run P w' = .ok news.toArray w' := run_loadCells_at fun j u hj => by
   rw [World.cell?_of_block (w := w) (by rw [hw'])]; exact n2 j u hj
  rw [n1] at this
  simpa [Builtin.firstCells] using this
 cases x with
 | d y =>
  cases y with
  | sl xs =>
   cases hv.inv_d with
   | nil a cap => exact none_ a cap rfl rfl
   | sl b off es' cap _ vals hI hcap hes' hfl hc hr =>
    have e : xs = [] ∨ es' = es := by
     cases xs with
     | nil => exact .inl rfl
     | cons z r => right; rw [← hes' z List.mem_cons_self]; exact ho z List.mem_cons_self
    rcases e with rfl | rfl
    ·exact none_ _ cap rfl rfl
    ·refine some_ b off cap rfl hes' hfl fun i j z y hz hy => ?_
     have hz' : xs[i]? = some z := hz
     have hil : i < xs.length := by
      rcases Nat.lt_or_ge i xs.length with h' | h'
      ·exact h'
      ·rw [List.getElem?_eq_none h'] at hz'; cases hz'
     have hjl : j < es' := by
      rw [← hes' z (List.mem_of_getElem? hz')]
      rcases Nat.lt_or_ge j z.cells.length with h' | h'
      ·exact h'
      ·rw [List.getElem?_eq_none h'] at hy; cases hy
     exact ⟨vals i j, hc i j hil hjl, hr i j z y hz' hy⟩
  | _ => exact ho.elim
 | nils => cases hv; exact none_ none 0 rfl rfl
 | osl id off len =>
  obtain ⟨h1, h2⟩ := ho
  have hal : alive σ id := by unfold alive; cases hB : blkAt σ id <;> simp_all [Blk.isArr, Blk.isDead]
  cases hv with
  | osl _ _ _ _ hid hh =>
   rcases hh with ⟨rfl, a, rfl⟩ | ⟨b, base, es', cap, q1, q2, rfl⟩
   ·exact none_ a 0 rfl (by simp [AV.elems])
   ·obtain ⟨r1, r2, r3, r4, r5⟩ := q1 hal
    rw [h2] at r3
    subst r3
    have hlen : ((AV.osl id off len).elems σ).length = len := by simp [AV.elems]; omega
    by_cases hz : len = 0
    ·subst hz; exact none_ _ cap rfl (by simp [AV.elems])
    ·obtain ⟨b', base', _, _, hμ, h5, h6, h7⟩ := h.arrOf h1 (i := off) (by omega)
     rw [r1] at hμ
     simp only [Option.some.injEq, Prod.mk.injEq] at hμ
     obtain ⟨rfl, rfl⟩ := hμ
     rw [h2] at h5 h7
     have hmem : ∀ z ∈ (AV.osl id off len).elems σ, z ∈ (blkAt σ id).xs := fun z hz => List.mem_of_mem_drop (List.mem_of_mem_take hz)
     refine some_ b (base + off * es) cap (by rw [hlen]) (fun z hz => h5 z (hmem z hz)) (fun z hz => h6 z (hmem z hz)) fun i j z y hz hy => ?_
     have hz' : (blkAt σ id).xs[off + i]? = some z := by
      simp only [AV.elems] at hz
      rw [List.getElem?_take] at hz
      split at hz
      ·simpa using hz
      ·cases hz
     obtain ⟨v, hv, hr⟩ := h7 (off + i) j z y hz' hy
     refine ⟨v, ?_, hr⟩
     rw [← hv]
     congr 2
     rw [Nat.add_mul]; omega
 | _ => exact ho.elim
theorem run_append_in {t1 t2 ty e : TypeId} {i : TypeInfo} {e2 : TypeId} (ht : P.underlying t1 = some (.slice e)) (hi : P.info? e = some i) (ht2 : P.underlying t2 = some (.slice e2))
  {sb xa : Option Addr} {sLen sCap m c : Nat} {news : List Value} (hf : (Builtin.firstCells i.size m (.slice xa m c)).run P w = .ok news.toArray w) (hroom : sLen + m ≤ sCap)
  {w' : World} (hst : match sb with | some a => (storeCells (a.add (sLen * i.size)) news).run P w = .ok () w' | none => w' = w) :
  (Builtin.append_ #[t1, t2] ty #[.slice sb sLen sCap, .slice xa m c]).run P w = .ok (.slice sb (sLen + m) sCap) w' := by
 cases sb with
 | none => subst hst; simp [Builtin.append_, run_underlying ht, run_underlying ht2, sizeOf, typeInfo, hi, Builtin.lenOf, hroom, hf]
 | some a => simp [Builtin.append_, run_underlying ht, run_underlying ht2, sizeOf, typeInfo, hi, Builtin.lenOf, hroom, hf, hst]
theorem run_append_new {t1 t2 ty e : TypeId} {i : TypeInfo} {z : Value} {e2 : TypeId} (ht : P.underlying t1 = some (.slice e)) (hi : P.info? e = some i) (hz : i.zero = some z) (ht2 : P.underlying t2 = some (.slice e2))
  {sb xa : Option Addr} {sLen sCap m c : Nat} {olds news : List Value} (hf : ∀ w' : World, w'.heap = w.heap → (Builtin.firstCells i.size m (.slice xa m c)).run P w' = .ok news.toArray w')
  (ho : ∀ w' : World, w'.heap = w.heap → (Builtin.firstCells i.size sLen (.slice sb sLen sCap)).run P w' = .ok olds.toArray w')
  (hg : sCap < sLen + m) (h63 : sLen + m ≤ 4611686018427387904) (hfit : (sLen + m) * i.bytes ≤ 140737488355328) :
  (Builtin.append_ #[t1, t2] ty #[.slice sb sLen sCap, .slice xa m c]).run P w =
   .ok (.slice (some ⟨w.heap.size, 0, none⟩) (sLen + m) (grownCap w (sLen + m) sCap e))
    (w.drew.alloc (.cells (olds.toArray ++ news.toArray ++ Builtin.zeroCells z.cells (grownCap w (sLen + m) sCap e - (sLen + m))) e)) := by
 have hn : ¬ (sLen + m ≤ sCap) := by omega
 have h63' : ¬ (9223372036854775807 < ((sLen : Int) + (m : Int))) := by omega
 have h48 := growslice_fits hg hfit
 have h48' : ¬ (281474976710656 < Builtin.nextslicecap (sLen + m) sCap * i.bytes) := by omega
 have hf' := hf w.drew rfl
 have ho' := ho w.drew rfl
 simp [Builtin.append_, run_underlying ht, run_underlying ht2, sizeOf, typeInfo, zeroValue, hi, hz, Builtin.lenOf, hn, h63', h48', Question.forced, hf', ho', newRow, grownCap]
 congr 2
 apply Array.ext'
 simp
theorem WroteAt.free {w' : World} (h : Rel w I μ σ) {b : Nat} (hI : ¬ I.fr b) (hno : ∀ id o, (blkAt σ id).own = true → μ id ≠ some (b, o)) (ww : WroteAt b w w') : Rel w' I μ σ ∧ Keep σ.length w I μ σ w' I μ σ := by
 have k : Keep σ.length w I μ σ w' I μ σ := ⟨ww.os, ww.tape, ww.output, by rw [ww.size]; exact Nat.le_refl _, fun _ h => h, fun _ h => h, fun _ h => .inl h, fun b' hb => ww.else_ b' (fun e => hI (e ▸ hb)), fun b' => by
  by_cases e : b' = b
  ·subst e; rw [ww.bsize]; exact Nat.le_refl _
  ·rw [blkSize_same (ww.else_ b' e)]; exact Nat.le_refl _, Nat.le_refl _, fun _ _ h => ⟨h, rfl, rfl, rfl, Nat.le_refl _⟩⟩
 refine ⟨⟨fun b' hb => by rw [ww.size]; exact h.imm b' hb, fun id hid => (h.blk id hid).keep k rfl fun ho b' o hμ => ⟨ww.else_ b' (fun e => hno id o ho (by rw [hμ, e])), fun hn => hn⟩, h.apart⟩, k⟩
theorem Rel.addArr (h : Rel w I μ σ) {b base es : Nat} {xs : List D} (hI : ¬ I.fr b) (hno : ∀ id o, (blkAt σ id).own = true → μ id ≠ some (b, o)) (hp : plainBlk w b) (hn : base + xs.length * es ≤ blkSize w b)
  (hes : ∀ x ∈ xs, x.cells.length = es) (hfl : ∀ x ∈ xs, x.flat)
  (hc : ∀ (i j : Nat) (x y : D), xs[i]? = some x → x.cells[j]? = some y → ∃ u, w.cell? ⟨b, base + i * es + j, none⟩ = some u ∧ RepD w I u y) :
  Rel w I (posNew μ σ.length (b, base)) (σ ++ [.arr es xs]) ∧ Keep σ.length w I μ σ w I (posNew μ σ.length (b, base)) (σ ++ [.arr es xs]) := by
 have k : Keep σ.length w I μ σ w I (posNew μ σ.length (b, base)) (σ ++ [.arr es xs]) :=
  ⟨rfl, rfl, rfl, Nat.le_refl _, fun _ h => h, fun _ h => h, fun _ h => .inl h, fun _ _ => rfl, fun _ => Nat.le_refl _, by simp, fun id hid ha => by
   unfold alive at *
   rw [blkAt_append_old hid] at ha ⊢
   exact ⟨ha, posNew_ne _ _ (by omega), rfl, rfl, Nat.le_refl _⟩⟩
 refine ⟨⟨h.imm, fun id hid => ?_, ?_⟩, k⟩
 ·simp only [List.length_append, List.length_cons, List.length_nil] at hid
  by_cases e : id = σ.length
  ·subst e
   rw [blkAt_append_new]
   exact .inr ⟨b, base, posNew_self _ _ _, hI, hp, hn, hes, hfl, hc⟩
  ·have hid' : id < σ.length := by omega
   rw [blkAt_append_old hid']
   exact (h.blk id hid').keep k (posNew_ne _ _ e) fun _ _ _ _ => ⟨rfl, fun hn => hn⟩
 ·intro i j bi bj oi oj hij hi hj hμi hμj
  have li := blkAt_own_lt hi
  have lj := blkAt_own_lt hj
  simp only [List.length_append, List.length_cons, List.length_nil] at li lj
  by_cases ei : i = σ.length
  ·subst ei
   have lj' : j < σ.length := by omega
   rw [posNew_self] at hμi
   rw [posNew_ne _ _ (by omega)] at hμj
   rw [blkAt_append_old lj'] at hj
   simp only [Option.some.injEq, Prod.mk.injEq] at hμi
   obtain ⟨rfl, rfl⟩ := hμi
   intro e; subst e
   exact hno j oj hj hμj
  ·have li' : i < σ.length := by omega
   rw [posNew_ne _ _ ei] at hμi
   rw [blkAt_append_old li'] at hi
   by_cases ej : j = σ.length
   ·subst ej
    rw [posNew_self] at hμj
    simp only [Option.some.injEq, Prod.mk.injEq] at hμj
    obtain ⟨rfl, rfl⟩ := hμj
    intro e; subst e
    exact hno i oi hi hμi
   ·have lj' : j < σ.length := by omega
    rw [posNew_ne _ _ ej] at hμj
    rw [blkAt_append_old lj'] at hj
    exact h.apart i j bi bj oi oj hij hi hj hμi hμj
theorem Rel.addNone (h : Rel w I μ σ) (es : Nat) : ∃ μ', Rel w I μ' (σ ++ [.arr es []]) ∧ Keep σ.length w I μ σ w I μ' (σ ++ [.arr es []]) := by
 let μ' : Pos := fun i => if i = σ.length then none else μ i
 have ne : ∀ i, i ≠ σ.length → μ' i = μ i := fun i hi => by simp [μ', hi]
 have k : Keep σ.length w I μ σ w I μ' (σ ++ [.arr es []]) :=
  ⟨rfl, rfl, rfl, Nat.le_refl _, fun _ h => h, fun _ h => h, fun _ h => .inl h, fun _ _ => rfl, fun _ => Nat.le_refl _, by simp, fun id hid ha => by
   unfold alive at *
   rw [blkAt_append_old hid] at ha ⊢
   exact ⟨ha, ne _ (by omega), rfl, rfl, Nat.le_refl _⟩⟩
 refine ⟨μ', ⟨h.imm, fun id hid => ?_, ?_⟩, k⟩
 ·simp only [List.length_append, List.length_cons, List.length_nil] at hid
  by_cases e : id = σ.length
  ·subst e
   rw [blkAt_append_new]
   exact .inl ⟨by simp [μ'], rfl⟩
  ·have hid' : id < σ.length := by omega
   rw [blkAt_append_old hid']
   exact (h.blk id hid').keep k (ne _ e) fun _ _ _ _ => ⟨rfl, fun hn => hn⟩
 ·intro i j bi bj oi oj hij hi hj hμi hμj
  have li := blkAt_own_lt hi
  have lj := blkAt_own_lt hj
  simp only [List.length_append, List.length_cons, List.length_nil] at li lj
  by_cases ei : i = σ.length
  ·subst ei; simp [μ'] at hμi
  ·by_cases ej : j = σ.length
   ·subst ej; simp [μ'] at hμj
   ·rw [ne _ ei] at hμi
    rw [ne _ ej] at hμj
    rw [blkAt_append_old (by omega)] at hi hj
    exact h.apart i j bi bj oi oj hij hi hj hμi hμj
def killS (σ : Sto) : AV → Sto
 | .osl id _ _ => σ.set id .dead
 | _ => σ
theorem killS_ok (h : Rel w I μ σ) (s : AV) : Rel w I μ (killS σ s) ∧ Keep σ.length w I μ σ w I μ (killS σ s) ∧ (killS σ s).length = σ.length := by
 cases s with
 | osl id _ _ => exact ⟨h.kill id, keep_kill id, by simp [killS]⟩
 | _ => exact ⟨h, Keep.refl _ _ _ _ (Nat.le_refl _), rfl⟩
def apOk (P : Program) (σ : Sto) (t1 t2 : TypeId) (s x : AV) : Prop :=
 match telem P t1 with
 | some e => match tsz P e, tbytes P e, tzero P e with
  | some es, some by_, some z => 0 < es ∧ z.cells.size = es ∧ (telem P t2).isSome = true ∧ dstOk σ es s ∧ srcOk σ es x ∧ (s.len + (x.elems σ).length) * by_ ≤ 140737488355328 ∧ s.len + (x.elems σ).length ≤ 4611686018427387904
  | _, _, _ => False
 | none => False
def apEs (P : Program) (t1 : TypeId) : Nat := match telem P t1 with | some e => (tsz P e).getD 0 | none => 0
def apS (P : Program) (σ : Sto) (t1 : TypeId) (s x : AV) : Sto := killS σ s ++ [.arr (apEs P t1) (s.elems σ ++ x.elems σ)]
def apV (σ : Sto) (s x : AV) : AV := .osl σ.length 0 (s.len + (x.elems σ).length)
theorem info_of {e : TypeId} {es by_ : Nat} {z : Value} (h1 : tsz P e = some es) (h2 : tbytes P e = some by_) (h3 : tzero P e = some z) : ∃ i, P.info? e = some i ∧ i.size = es ∧ i.bytes = by_ ∧ i.zero = some z := by
 unfold tsz at h1; unfold tbytes at h2; unfold tzero at h3
 cases hi : P.info? e with
 | none => rw [hi] at h1; cases h1
 | some i =>
  rw [hi] at h1 h2 h3
  simp at h1 h2 h3
  exact ⟨i, rfl, h1, h2, h3⟩
theorem inv_nils {v : Value} (h : RepV w I μ σ v .nils) : v = .slice none 0 0 := by cases h; rfl
theorem inv_osl {v : Value} {id off len : Nat} (h : RepV w I μ σ v (.osl id off len)) : id < σ.length ∧ ((len = 0 ∧ ∃ a, v = .slice a 0 0) ∨
    ∃ b base es cap, (alive σ id → μ id = some (b, base) ∧ (blkAt σ id).isArr = true ∧ (blkAt σ id).es = es ∧ off + len ≤ (blkAt σ id).xs.length ∧ base + (off + cap) * es ≤ blkSize w b) ∧
     len ≤ cap ∧ v = .slice (some ⟨b, base + off * es, none⟩) len cap) := by
 cases h with
 | osl _ _ _ _ hid hh => exact ⟨hid, hh⟩
theorem append_goes (h : Rel w I μ σ) {t1 t2 ty : TypeId} {sv xv : Value} {s x : AV} (hs : RepV w I μ σ sv s) (hx : RepV w I μ σ xv x) (ho : apOk P σ t1 t2 s x) :
  ∃ z w' μ', (Builtin.append_ #[t1, t2] ty #[sv, xv]).run P w = .ok z w' ∧ Rel w' I μ' (apS P σ t1 s x) ∧ Keep σ.length w I μ σ w' I μ' (apS P σ t1 s x) ∧ RepV w' I μ' (apS P σ t1 s x) z (apV σ s x) := by
 unfold apOk at ho
 cases hte : telem P t1 with
 | none => rw [hte] at ho; exact ho.elim
 | some e =>
 rw [hte] at ho
 cases hz1 : tsz P e with
 | none => simp [hz1] at ho
 | some es =>
 cases hz2 : tbytes P e with
 | none => simp [hz1, hz2] at ho
 | some by_ =>
 cases hz3 : tzero P e with
 | none => simp [hz1, hz2, hz3] at ho
 | some zv =>
 simp only [hz1, hz2, hz3] at ho
 obtain ⟨hes, hzs, ht2, hd, hsrc, hbytes, h62⟩ := ho
 obtain ⟨i, hi, i1, i2, i3⟩ := info_of hz1 hz2 hz3
 obtain ⟨e2, he2⟩ := Option.isSome_iff_exists.1 ht2
 have hu1 := telem_spec hte
 have hu2 := telem_spec he2
 have hap : apEs P t1 = es := by unfold apEs; rw [hte]; simp [hz1]
 obtain ⟨xa, xc, news, hxv, hnl, hfx, hnr, hn1, hxs, hxf, _⟩ := src_cells (P := P) h hes hx hsrc
 have hsrcS : srcOk σ es s := by
  cases s with
  | osl id off len => exact ⟨by have := hd.1; cases hB : blkAt σ id <;> simp_all [Blk.isOwnArr, Blk.isArr], hd.2⟩
  | nils => trivial
  | _ => exact hd.elim
 obtain ⟨sa, sc, olds, hsv, hol, hfs, hor, ho1, hss, hsf, hoc⟩ := src_cells (P := P) h hes hs hsrcS
 have hlen : s.len = (s.elems σ).length := by
  cases s with
  | nils => rfl
  | osl id off len =>
   cases hs with
   | osl _ _ _ _ hid hh =>
    rcases hh with ⟨rfl, a, rfl⟩ | ⟨b, base, es', cap, _, _, rfl⟩
    ·simp at hsv; exact hsv.2.1
    ·simp at hsv; exact hsv.2.1
  | _ => exact hd.elim
 obtain ⟨hr1, hk1, hl1⟩ := killS_ok h s
 rw [hlen] at hbytes h62
 have hV : apV σ s x = .osl σ.length 0 ((s.elems σ).length + (x.elems σ).length) := by unfold apV; rw [hlen]
 have hallsz : ∀ z ∈ s.elems σ ++ x.elems σ, z.cells.length = es := fun z hz => (List.mem_append.1 hz).elim (hss z) (hxs z)
 have hallfl : ∀ z ∈ s.elems σ ++ x.elems σ, z.flat := fun z hz => (List.mem_append.1 hz).elim (hsf z) (hxf z)
 have hjl : ∀ {z y : D} {j : Nat}, z.cells.length = es → z.cells[j]? = some y → j < es := fun {z y j} hz hy => by
  rcases Nat.lt_or_ge j z.cells.length with h' | h'
  ·omega
  ·rw [List.getElem?_eq_none h'] at hy; cases hy
 have hboth : ∀ (i j : Nat) (z y : D), (s.elems σ ++ x.elems σ)[i]? = some z → z.cells[j]? = some y → ∃ u, (olds ++ news)[i * es + j]? = some u ∧ RepD w I u y := fun i j z y hz hy => by
  have hj := hjl (hallsz z (List.mem_of_getElem? hz)) hy
  by_cases hi' : i < (s.elems σ).length
  ·rw [List.getElem?_append_left hi'] at hz
   obtain ⟨u, hu, hr⟩ := hor i j z y hz hy
   refine ⟨u, ?_, hr⟩
   have : i * es + j < olds.length := by
    rw [hol]
    have : (i + 1) * es ≤ (s.elems σ).length * es := Nat.mul_le_mul_right es hi'
    rw [Nat.add_mul] at this; omega
   rw [List.getElem?_append_left this]; exact hu
  ·rw [List.getElem?_append_right (by omega)] at hz
   obtain ⟨u, hu, hr⟩ := hnr (i - (s.elems σ).length) j z y hz hy
   refine ⟨u, ?_, hr⟩
   have e3 : i * es + j = olds.length + ((i - (s.elems σ).length) * es + j) := by
    rw [hol, ← Nat.add_assoc, ← Nat.add_mul]
    congr 2; omega
   rw [e3, List.getElem?_append_right (by omega), Nat.add_sub_cancel_left]; exact hu
 subst hxv; subst hsv
 unfold apS
 rw [hap, hV]
 by_cases hroom : (s.elems σ).length + (x.elems σ).length ≤ sc
 · -- in place
  have degen : (∃ a, (Value.slice sa (s.elems σ).length sc) = .slice a 0 0) → ∃ z w' μ', (Builtin.append_ #[t1, t2] ty #[.slice sa (s.elems σ).length sc, .slice xa (x.elems σ).length xc]).run P w = .ok z w' ∧ Rel w' I μ' (killS σ s ++ [.arr es (s.elems σ ++ x.elems σ)]) ∧
    Keep σ.length w I μ σ w' I μ' (killS σ s ++ [.arr es (s.elems σ ++ x.elems σ)]) ∧ RepV w' I μ' (killS σ s ++ [.arr es (s.elems σ ++ x.elems σ)]) z (.osl σ.length 0 ((s.elems σ).length + (x.elems σ).length)) := by
   rintro ⟨a, ha⟩
   simp only [Value.slice.injEq] at ha
   obtain ⟨rfl, hl0, rfl⟩ := ha
   have hm0 : (x.elems σ).length = 0 := by omega
   have e1 : s.elems σ = [] := List.eq_nil_of_length_eq_zero hl0
   have e2' : x.elems σ = [] := List.eq_nil_of_length_eq_zero hm0
   have hn0 : news = [] := List.eq_nil_of_length_eq_zero (by rw [hnl, hm0, Nat.zero_mul])
   obtain ⟨μ', q1, q2⟩ := hr1.addNone es
   rw [hl1] at q2
   rw [e1, e2']
   refine ⟨.slice sa 0 0, w, μ', ?_, q1, hk1.trans q2, .osl _ _ _ _ (by rw [List.length_append, hl1]; simp) (.inl ⟨rfl, sa, rfl⟩)⟩
   have := run_append_in (P := P) (w := w) (ty := ty) hu1 hi hu2 (sb := sa) (sLen := 0) (sCap := 0) (m := 0) (c := xc) (xa := xa) (news := []) (by have := hfx w rfl; rw [hm0, hn0] at this; rw [i1]; exact this) (Nat.le_refl 0) (w' := w) (by
    cases sa with
    | none => rfl
    | some a => simp [storeCells])
   simpa using this
  cases s with
  | nils => exact degen ⟨none, inv_nils hs⟩
  | osl id off len =>
   have hal : alive σ id := by have := hd.1; unfold alive; cases hB : blkAt σ id <;> simp_all [Blk.isOwnArr, Blk.isDead]
   have hown : (blkAt σ id).own = true := by have := hd.1; cases hB : blkAt σ id <;> simp_all [Blk.isOwnArr, Blk.own]
   have hlen' : len = ((AV.osl id off len).elems σ).length := hlen
   generalize hE : (AV.osl id off len).elems σ = E at *
   obtain ⟨hid, hh⟩ := inv_osl hs
   ·rcases hh with ⟨hl0, a, ha⟩ | ⟨b, base, es', cap, q1, q2, hv⟩
    ·exact degen ⟨a, ha⟩
    ·simp only [Value.slice.injEq] at hv
     obtain ⟨rfl, hEl, rfl⟩ := hv
     obtain ⟨r1, r2, r3, r4, r5⟩ := q1 hal
     have hes2 : (blkAt σ id).es = es := hd.2
     rw [hes2] at r3
     subst r3
     obtain ⟨hbl, hnI⟩ := own_lt h hid hown r1
     have hpl : plainBlk w b := by
      have hb := h.blk id hid
      cases hB : blkAt σ id with
      | arr es' xs' =>
       rw [hB] at hb
       rcases hb with ⟨h1, _⟩ | ⟨b', base', h1, _, h3, _⟩
       ·rw [r1] at h1; cases h1
       ·rw [r1] at h1
        simp only [Option.some.injEq, Prod.mk.injEq] at h1
        obtain ⟨rfl, rfl⟩ := h1
        exact h3
      | _ => simp [dstOk, hB, Blk.isOwnArr] at hd
     have hbnd : base + off * es + E.length * es + news.length ≤ blkSize w b := by
      rw [hnl]
      have h3 : (off + (E.length + (x.elems σ).length)) * es ≤ (off + sc) * es := Nat.mul_le_mul_right es (by omega)
      rw [Nat.add_mul, Nat.add_mul] at h3
      omega
     obtain ⟨w', hr, ww, hw⟩ := store_run (P := P) (w := w) (b := b) (o := base + off * es + E.length * es) (vs := news) hpl hbnd hn1
     have hno : ∀ j o, (blkAt (killS σ (.osl id off len)) j).own = true → μ j ≠ some (b, o) := fun j o hj hμj => by
      have hne : id ≠ j := fun e => by
       subst e
       have := blkAt_own_lt hj
       simp only [killS, List.length_set] at this
       rw [killS, blkAt_set_self this] at hj
       simp [Blk.own] at hj
      rw [killS, blkAt_set_ne hne] at hj
      exact h.apart id j b b base o hne hown hj r1 hμj rfl
     obtain ⟨f1, f2⟩ := WroteAt.free hr1 hnI hno ww
     have cellNew : ∀ q u, (olds ++ news)[q]? = some u → w'.cell? ⟨b, base + off * es + q, none⟩ = some u := fun q u hq => by
      rw [hw]
      by_cases hlt : q < olds.length
      ·rw [List.getElem?_append_left hlt] at hq
       rw [if_neg (by rw [hol] at hlt; omega)]
       exact hoc _ _ rfl q u hq
      ·rw [List.getElem?_append_right (by omega)] at hq
       have hlt2 : q - olds.length < news.length := by
        rcases Nat.lt_or_ge (q - olds.length) news.length with h' | h'
        ·exact h'
        ·rw [List.getElem?_eq_none h'] at hq; cases hq
       rw [if_pos ⟨by rw [hol] at hlt; omega, by rw [hol] at hlt hlt2; omega⟩, ← hq]
       congr 1
       rw [hol]; omega
     obtain ⟨g1, g2⟩ := f1.addArr (base := base + off * es) (es := es) (xs := E ++ x.elems σ) hnI hno (ww.plain hpl) (by
      rw [ww.bsize, List.length_append]
      rw [hnl] at hbnd
      rw [Nat.add_mul]; omega) hallsz hallfl (fun i j z y hz hy => by
       obtain ⟨u, hu, hr⟩ := hboth i j z y hz hy
       exact ⟨u, by rw [Nat.add_assoc]; exact cellNew _ u hu, hr.keep f2.imm f2.rsame⟩)
     refine ⟨_, w', _, run_append_in (P := P) (w := w) (ty := ty) hu1 hi hu2 (by rw [i1]; exact hfx w rfl) hroom (by rw [i1]; simp only [addr_add]; exact hr), by rw [hl1] at g1; exact g1, ?_, ?_⟩
     ·rw [hl1] at g2 f2; exact hk1.trans (f2.trans g2)
     ·refine .osl _ _ _ _ (by rw [List.length_append, hl1]; simp) (.inr ⟨b, base + off * es, es, sc, fun _ => ?_, hroom, by simp⟩)
      have eb : blkAt (killS σ (.osl id off len) ++ [.arr es (E ++ x.elems σ)]) σ.length = .arr es (E ++ x.elems σ) := by rw [← hl1]; exact blkAt_append_new
      rw [eb]
      refine ⟨posNew_self _ _ _, rfl, rfl, by simp [Blk.xs], ?_⟩
      rw [ww.bsize, Nat.zero_add]
      rw [Nat.add_mul] at r5; omega
  | _ => exact hd.elim
 · -- a new array
  have hrun := run_append_new (P := P) (w := w) (ty := ty) hu1 hi i3 hu2 (fun w' hw' => by rw [i1]; exact hfx w' hw') (fun w' hw' => by rw [i1]; exact hfs w' hw') (Nat.lt_of_not_le hroom) h62 (by rw [i2]; exact hbytes)
  have sm : SameMem w w.drew := SameMem.drew w
  have hr2 := sm.rel hr1
  have hk2 : Keep (killS σ s).length w I μ (killS σ s) w.drew I μ (killS σ s) := sm.keep
  have hcap := grownCap_ge w ((s.elems σ).length + (x.elems σ).length) sc e
  generalize grownCap w ((s.elems σ).length + (x.elems σ).length) sc e = cap at *
  have hcsz : (olds.toArray ++ news.toArray ++ Builtin.zeroCells zv.cells (cap - ((s.elems σ).length + (x.elems σ).length))).size = cap * es := by
   simp only [Array.size_append, List.size_toArray, size_zeroCells, hzs, hol, hnl, ← Nat.add_mul]
   congr 1; omega
  have hnew := hr2.newArr (olds.toArray ++ news.toArray ++ Builtin.zeroCells zv.cells (cap - ((s.elems σ).length + (x.elems σ).length))) e es (s.elems σ ++ x.elems σ) (by
   rw [hcsz, List.length_append]; exact Nat.mul_le_mul_right es hcap) hallsz hallfl (fun i j z y hz hy => by
    obtain ⟨u, hu, hr⟩ := hboth i j z y hz hy
    refine ⟨u, ?_, RepD.keep (w := w) (w' := w.drew) (I := I) (I' := I) (fun _ h => h) (fun _ _ => rfl) hr⟩
    have hlt : i * es + j < (olds ++ news).length := by
     rcases Nat.lt_or_ge (i * es + j) (olds ++ news).length with h' | h'
     ·exact h'
     ·rw [List.getElem?_eq_none h'] at hu; cases hu
    rw [Array.getElem?_append_left (by simpa using hlt)]
    have : (olds.toArray ++ news.toArray) = (olds ++ news).toArray := by simp
    rw [this]; simpa using hu)
  have hk3 := keep_alloc hr2 (.cells (olds.toArray ++ news.toArray ++ Builtin.zeroCells zv.cells (cap - ((s.elems σ).length + (x.elems σ).length))) e) (w.drew.heap.size, 0) (.arr es (s.elems σ ++ x.elems σ))
  refine ⟨_, _, _, hrun, hnew, ?_, ?_⟩
  ·rw [hl1] at hk2 hk3 ⊢; exact hk1.trans (hk2.trans hk3)
  ·refine .osl _ _ _ _ (by rw [List.length_append, hl1]; simp) (.inr ⟨w.heap.size, 0, es, cap, fun _ => ?_, hcap, by simp⟩)
   have eb : blkAt (killS σ s ++ [.arr es (s.elems σ ++ x.elems σ)]) σ.length = .arr es (s.elems σ ++ x.elems σ) := by rw [← hl1]; exact blkAt_append_new
   rw [eb]
   refine ⟨by rw [← hl1]; exact posNew_self _ _ _, rfl, rfl, by simp [Blk.xs], ?_⟩
   have := blkSize_new w.drew (olds.toArray ++ news.toArray ++ Builtin.zeroCells zv.cells (cap - ((s.elems σ).length + (x.elems σ).length))) e
   have e5 : w.drew.heap.size = w.heap.size := rfl
   rw [e5] at this
   rw [this, hcsz]
   simp
end Go.AM


namespace Go.AM
variable {P : Program} {w : World} {I : Im} {μ : Pos} {σ : Sto}
theorem fold_set_list (off : Nat) : ∀ (vs : List Value) (k : Nat) (c : Array Value), off + k + vs.length ≤ c.size →
  ((vs.zipIdx k).foldl (fun (cs : Array Value) p => cs.setIfInBounds (off + p.2) p.1) c).size = c.size ∧
  ∀ q, ((vs.zipIdx k).foldl (fun (cs : Array Value) p => cs.setIfInBounds (off + p.2) p.1) c)[q]? = if off + k ≤ q ∧ q < off + k + vs.length then vs[q - (off + k)]? else c[q]?
 | [], k, c, _ => ⟨rfl, fun q => by simp only [List.zipIdx_nil, List.foldl_nil, List.length_nil, Nat.add_zero]; rw [if_neg (by omega)]⟩
 | v :: vs, k, c, h => by
  simp only [List.length_cons] at h
  have ih := fold_set_list off vs (k + 1) (c.setIfInBounds (off + k) v) (by simp; omega)
  simp only [List.zipIdx_cons, List.foldl_cons]
  refine ⟨by rw [ih.1]; simp, fun q => ?_⟩
  rw [ih.2 q]
  simp only [List.length_cons]
  by_cases h1 : q = off + k
  ·subst h1
   rw [if_neg (by omega), if_pos (by omega), Array.getElem?_setIfInBounds_self_of_lt (by omega), Nat.sub_self]
   rfl
  ·by_cases h2 : off + (k + 1) ≤ q ∧ q < off + (k + 1) + vs.length
   ·rw [if_pos h2, if_pos (by omega)]
    have : q - (off + k) = (q - (off + (k + 1))) + 1 := by omega
    rw [this]; rfl
   ·rw [if_neg h2, if_neg (by omega), Array.getElem?_setIfInBounds_ne (by omega)]
theorem fold_set (off : Nat) (cs : Array Value) (vs : List Value) (hv : cs = vs.toArray) (c : Array Value) (h : off + vs.length ≤ c.size) :
  (cs.zipIdx.foldl (fun cs (x : Value × Nat) => cs.setIfInBounds (off + x.2) x.1) c).size = c.size ∧
  ∀ q, (cs.zipIdx.foldl (fun cs (x : Value × Nat) => cs.setIfInBounds (off + x.2) x.1) c)[q]? = if off ≤ q ∧ q < off + vs.length then vs[q - off]? else c[q]? := by
 subst hv
 have e : ((vs.toArray).zipIdx.foldl (fun cs (x : Value × Nat) => cs.setIfInBounds (off + x.2) x.1) c) = (vs.zipIdx 0).foldl (fun (cs : Array Value) p => cs.setIfInBounds (off + p.2) p.1) c := by
  rw [← Array.foldl_toList]
  simp
 rw [e]
 have := fold_set_list off vs 0 c (by simpa using h)
 simpa using this
def setCells (cs : List AV) (off : Nat) (v : AV) : Nat → List AV
 | 0 => cs
 | n + 1 => (setCells cs off v n).set (off + n) (v.cellAt n)
theorem setCells_length (cs : List AV) (off : Nat) (v : AV) (n : Nat) : (setCells cs off v n).length = cs.length := by
 induction n with
 | zero => rfl
 | succ n ih => simp [setCells, ih]
theorem setCells_get (cs : List AV) (off : Nat) (v : AV) (n q : Nat) (h : off + n ≤ cs.length) : (setCells cs off v n)[q]? = if off ≤ q ∧ q < off + n then some (v.cellAt (q - off)) else cs[q]? := by
 induction n with
 | zero => rw [if_neg (by omega)]; rfl
 | succ n ih =>
  simp only [setCells]
  by_cases e : q = off + n
  ·subst e
   rw [if_pos (by omega), List.getElem?_set_self (by rw [setCells_length]; omega)]
   congr 2; omega
  ·rw [List.getElem?_set_ne (by omega), ih (by omega)]
   by_cases h2 : off ≤ q ∧ q < off + n
   ·rw [if_pos h2, if_pos (by omega)]
   ·rw [if_neg h2, if_neg (by omega)]
def fillA (pl : List (Nat × Nat)) : List AV → List (Nat × AV) → List AV
 | cs, [] => cs
 | cs, (i, v) :: rest => match pl[i]? with
  | some (off, size) => fillA pl (setCells cs off v size) rest
  | none => fillA pl cs rest
def fillOk (pl : List (Nat × Nat)) (N : Nat) : List (Nat × AV) → Prop
 | [] => True
 | (i, v) :: rest => (match pl[i]? with
  | some (off, size) => v.ncells = size ∧ off + size ≤ N ∧ v.storable = true
  | none => False) ∧ fillOk pl N rest
def cellsAre (w : World) (I : Im) (μ : Pos) (σ : Sto) (c : Array Value) (l : List AV) : Prop :=
 c.size = l.length ∧ (∀ x ∈ l, x.one = true) ∧ ∀ (j : Nat) (u : Value) (x : AV), c[j]? = some u → l[j]? = some x → RepV w I μ σ u x
theorem fill_rel {pl : List (Nat × Nat)} {place : Nat → Option (Nat × Nat)} : ∀ {parts : List (Nat × AV)} {vals : List (Nat × Value)} {c : Array Value} {l : List AV},
  parts.map Prod.fst = vals.map Prod.fst → (∀ i ∈ parts.map Prod.fst, ∀ p, pl[i]? = some p → place i = some p) → (∀ (k : Nat) (p : Nat × AV) (q : Nat × Value), parts[k]? = some p → vals[k]? = some q → RepV w I μ σ q.2 p.2) →
  cellsAre w I μ σ c l → fillOk pl l.length parts → ∃ c', Instr.fill place c vals = some c' ∧ cellsAre w I μ σ c' (fillA pl l parts)
 | [], vals, c, l, hf, _, _, hc, _ => by
  cases vals with
  | nil => exact ⟨c, rfl, hc⟩
  | cons _ _ => simp at hf
 | (i, v) :: parts, vals, c, l, hf, hp, hr, hc, ho => by
  cases vals with
  | nil => simp at hf
  | cons q vals =>
   obtain ⟨i', u⟩ := q
   simp only [List.map_cons, List.cons.injEq] at hf
   obtain ⟨rfl, hf⟩ := hf
   obtain ⟨ho1, ho2⟩ := ho
   cases hpl : pl[i]? with
   | none => rw [hpl] at ho1; exact ho1.elim
   | some os =>
    obtain ⟨off, size⟩ := os
    rw [hpl] at ho1
    obtain ⟨p1, p2, p3⟩ := ho1
    have hpi := hp i (by simp) _ hpl
    have hv : RepV w I μ σ u v := hr 0 (i, v) (i, u) rfl rfl
    obtain ⟨vs, hc1, hc2, hc3⟩ := cells_rep hv p3
    rw [p1] at hc2
    have hsz : u.cells.size = size := by rw [hc1]; simpa using hc2
    obtain ⟨f1, f2⟩ := fold_set off u.cells vs hc1 c (by rw [hc.1]; omega)
    have hc' : cellsAre w I μ σ (u.cells.zipIdx.foldl (fun cs (x : Value × Nat) => cs.setIfInBounds (off + x.2) x.1) c) (setCells l off v size) := by
     refine ⟨by rw [f1, setCells_length]; exact hc.1, fun x hx => ?_, fun j u' x hu hx => ?_⟩
     ·obtain ⟨j, hj⟩ := List.getElem?_of_mem hx
      rw [setCells_get _ _ _ _ _ p2] at hj
      split at hj
      ·rename_i hin
       simp only [Option.some.injEq] at hj
       subst hj
       have hlt : j - off < vs.length := by omega
       exact (hc3 _ _ (List.getElem?_eq_getElem hlt)).2.1
      ·exact hc.2.1 x (List.mem_of_getElem? hj)
     ·rw [f2, hc2] at hu
      rw [setCells_get _ _ _ _ _ p2] at hx
      split at hx
      ·rename_i hin
       rw [if_pos hin] at hu
       simp only [Option.some.injEq] at hx
       subst hx
       exact (hc3 _ _ hu).1
      ·rename_i hin
       rw [if_neg hin] at hu
       exact hc.2.2 j u' x hu hx
    obtain ⟨c', g1, g2⟩ := fill_rel (parts := parts) (vals := vals) hf (fun i hi p hpi => hp i (by simp only [List.map_cons, List.mem_cons]; exact .inr hi) p hpi) (fun k p q hk hq => hr (k + 1) p q hk hq) hc' (by rw [setCells_length]; exact ho2)
    refine ⟨c', ?_, by simp only [fillA, hpl]; exact g2⟩
    simp only [Instr.fill, hpi, hsz]
    rw [if_neg]
    ·exact g1
    ·simp only [ne_eq, not_true_eq_false, decide_false, Bool.false_or, decide_eq_true_eq]
     rw [hc.1]; omega
def tplaces (P : Program) (t : TypeId) : Option (List (Nat × Nat)) :=
 match P.underlying t with
 | some (.array n e) => (P.info? e).map fun ie => (List.range n).map fun i => (i * ie.size, ie.size)
 | some (.struct fields) => fields.toList.mapM (fun f => (P.info? f.type).map fun i => (f.offset, i.size))
 | _ => none
def tzeroA (P : Program) (t : TypeId) : Option (List AV) :=
 match tzero P t with
 | some z => if (z.cells.toList.map const1).all AV.one then some (z.cells.toList.map const1) else none
 | none => none
theorem cellsAre_zero {t : TypeId} {l : List AV} (h : tzeroA P t = some l) : ∃ z, tzero P t = some z ∧ cellsAre w I μ σ z.cells l := by
 unfold tzeroA at h
 split at h
 ·rename_i z hz
  split at h
  ·rename_i hall
   simp only [Option.some.injEq] at h
   subst h
   refine ⟨z, by assumption, by simp, fun x hx => List.all_eq_true.1 hall x hx, fun j u x hu hx => ?_⟩
   rw [List.getElem?_map] at hx
   have : z.cells.toList[j]? = some u := by simpa using hu
   rw [this] at hx
   simp at hx
   subst hx
   exact const1_rep u
  ·cases h
 ·cases h
theorem build_goes {t : TypeId} {pl : List (Nat × Nat)} {zc : List AV} (hpl : tplaces P t = some pl) (hz : tzeroA P t = some zc) {parts : List (Nat × AV)} {vals : Array (Nat × Value)} (hf : parts.map Prod.fst = vals.toList.map Prod.fst)
  (hr : ∀ (k : Nat) (p : Nat × AV) (q : Nat × Value), parts[k]? = some p → vals.toList[k]? = some q → RepV w I μ σ q.2 p.2) (ho : fillOk pl zc.length parts) :
  ∃ z, (Instr.build t vals).run P w = .ok z w ∧ RepV w I μ σ z (mkAgg (fillA pl zc parts)) := by
 obtain ⟨z, hz1, hz2⟩ := cellsAre_zero (w := w) (I := I) (μ := μ) (σ := σ) hz
 have fin : ∀ place : Nat → Option (Nat × Nat), (∀ i p, pl[i]? = some p → place i = some p) → (∀ c, Instr.fill place z.cells vals.toList = some c → P.built t vals.toList = some c) →
   ∃ z, (Instr.build t vals).run P w = .ok z w ∧ RepV w I μ σ z (mkAgg (fillA pl zc parts)) := by
  intro place h1 h2
  obtain ⟨c', g1, g2, g3, g4⟩ := fill_rel hf (fun i _ p hp => h1 i p hp) hr hz2 ho
  refine ⟨.agg c', run_build w t vals c' (h2 c' g1), ?_⟩
  have := mkAgg_rep (w := w) (I := I) (μ := μ) (σ := σ) (vs := c'.toList) (cs := fillA pl zc parts) (by simpa using g2) g3 (fun i v x hv hx => g4 i v x (by simpa using hv) hx)
  simpa using this
 unfold tzero at hz1
 unfold tplaces at hpl
 cases hi : P.info? t with
 | none => rw [hi] at hz1; cases hz1
 | some it =>
  rw [hi] at hz1
  have hz1' : it.zero = some z := hz1
  split at hpl
  ·rename_i n e hu
   cases hie : P.info? e with
   | none => rw [hie] at hpl; cases hpl
   | some ie =>
    rw [hie] at hpl
    simp only [Option.map_some, Option.some.injEq] at hpl
    refine fin (fun i => some (i * ie.size, ie.size)) (fun i p hp => ?_) fun c hc => ?_
    ·subst hpl
     rw [List.getElem?_map] at hp
     cases hri : (List.range n)[i]? with
     | none => rw [hri] at hp; cases hp
     | some k =>
      rw [hri] at hp
      simp only [Option.map_some, Option.some.injEq] at hp
      have := List.getElem?_eq_some_iff.1 hri
      obtain ⟨_, hk⟩ := this
      simp at hk
      subst hk; rw [← hp]
    ·unfold Program.built; simp only [hi, hu, hz1', hie]; exact hc
  ·rename_i fields hu
   refine fin (pl.toArray[·]?) (fun i p hp => by simpa using hp) fun c hc => ?_
   unfold Program.built; simp only [hi, hu, hz1', hpl]; exact hc
  ·cases hpl
end Go.AM
