/-
  An abstract machine over data: abstract values, abstract store, and the relation that ties them to the model's worlds.
-/
import Derived.WalkKit
import Derived.Orders
import Derived.Below
set_option linter.unnecessarySimpa false
set_option linter.unusedSectionVars false
set_option linter.unusedSimpArgs false
set_option linter.unusedVariables false
namespace Go.AM

/-- Data: what a value is worth, without memory. -/
inductive D where
  | int (k : IntKind) (n : Int)
  | bool (b : Bool)
  | str (s : List UInt8)
  | agg (cs : List D)
  | sl (xs : List D)
  | raw (v : Value)

instance : Inhabited D := ⟨.bool false⟩

def D.cells : D → List D
  | .agg cs => cs
  | x => [x]
def D.one : D → Bool
  | .agg _ => false
  | _ => true
def D.isAgg : D → Bool
  | .agg _ => true
  | _ => false
def D.isSl : D → Bool
  | .sl _ => true
  | _ => false
def D.isStr : D → Bool
  | .str _ => true
  | _ => false
def D.isBool : D → Bool
  | .bool _ => true
  | _ => false
def D.isInt (k : IntKind) : D → Bool
  | .int k' _ => decide (k' = k)
  | _ => false
def D.cell (x : D) (i : Nat) : D := x.cells.getD i default
def D.toInt : D → Int
  | .int _ n => n
  | _ => 0
def D.toBool : D → Bool
  | .bool b => b
  | _ => false
def D.toStr : D → List UInt8
  | .str s => s
  | _ => []
def D.toSl : D → List D
  | .sl xs => xs
  | _ => []
def D.sub (x : D) (off n : Nat) : D := .agg ((x.cells.drop off).take n)
def D.flat (x : D) : Prop := ∀ c ∈ x.cells, c.one = true
/-- cells off .. off+n-1 of a variable of N cells are turned to those of u -/
def D.putAt (x : D) (N off n : Nat) (u : D) : D :=
  if off = 0 ∧ n = N then u else .agg ((List.range N).map fun j => if off ≤ j ∧ j < off + n then u.cell (j - off) else x.cell j)

/-- A value that is read as it stands: no memory behind it. -/
def simpleValue : Value → Bool
  | .pointer none => true
  | .map none => true
  | .nilFunc => true
  | .nilIface => true
  | _ => false

/-- The blocks that may be read as data ('rd'); those that the run leaves as they are ('fr'). -/
structure Im where
  rd : Nat → Prop
  fr : Nat → Prop
  sub : ∀ b, rd b → fr b

inductive RepD (w : World) (I : Im) : Value → D → Prop
  | int (k : IntKind) (n : Int) : RepD w I (.int k n) (.int k n)
  | bool (b : Bool) : RepD w I (.bool b) (.bool b)
  | str (s : List UInt8) : RepD w I (.string ⟨s.toArray⟩) (.str s)
  | raw (v : Value) (h : simpleValue v = true) : RepD w I v (.raw v)
  | agg (vs : List Value) (cs : List D) (hl : vs.length = cs.length) (hone : ∀ c ∈ cs, c.one = true)
      (h : ∀ (i : Nat) (v : Value) (x : D), vs[i]? = some v → cs[i]? = some x → RepD w I v x) : RepD w I (.agg vs.toArray) (.agg cs)
  | nil (a : Option Addr) (cap : Nat) : RepD w I (.slice a 0 cap) (.sl [])
  | sl (b off es cap : Nat) (xs : List D) (vals : Nat → Nat → Value) (hI : I.rd b) (hcap : xs.length ≤ cap) (hes : ∀ x ∈ xs, x.cells.length = es) (hfl : ∀ x ∈ xs, x.flat)
      (hc : ∀ i j, i < xs.length → j < es → w.cell? ⟨b, off + i * es + j, none⟩ = some (vals i j))
      (hr : ∀ (i j : Nat) (x y : D), xs[i]? = some x → x.cells[j]? = some y → RepD w I (vals i j) y) : RepD w I (.slice (some ⟨b, off, none⟩) xs.length cap) (.sl xs)

/-- The cells at ⟨b, off⟩ hold the n elements xs, es cells each. -/
structure SlAt (w : World) (I : Im) (b off es : Nat) (xs : List D) : Prop where
  imm : I.rd b
  size : ∀ x ∈ xs, x.cells.length = es
  flat : ∀ x ∈ xs, x.flat
  cell : ∀ (i j : Nat) (x y : D), xs[i]? = some x → x.cells[j]? = some y → ∃ v, w.cell? ⟨b, off + i * es + j, none⟩ = some v ∧ RepD w I v y

/-- keys of maps -/
inductive Key where
  | i (n : Int)
  | s (l : List UInt8)
deriving DecidableEq
def keyFits : Option IntKind → Key → Prop
  | some _, .i _ => True
  | none, .s _ => True
  | _, _ => False
def keyVal (ik : Option IntKind) : Key → Value
  | .i n => .int (ik.getD .i64) n
  | .s l => .string ⟨l.toArray⟩

/-- Abstract values. -/
inductive AV where
  | undef
  | d (x : D)
  | nils
  | agg (cs : List AV)
  | ptr (id off : Nat)
  | eptr (es : Nat) (xs : List D) (i off : Nat)
  | aptr (id i off : Nat)
  | osl (id off len : Nat)
  | fn (f : FuncId) (caps : List AV)
  | tup (vs : List AV)
  | iff (g : Bool) (v : AV)
  | mapr (id : Nat)
  | anyb

instance : Inhabited AV := ⟨.undef⟩

def AV.one : AV → Bool
  | .d x => x.one
  | .nils | .ptr .. | .osl .. | .fn .. | .eptr .. | .aptr .. | .mapr _ => true
  | _ => false

/-- Abstract blocks. -/
inductive Blk where
  | dead
  | box (n : Nat) (v : AV)
  | arr (es : Nat) (xs : List D)
  | frz (es : Nat) (xs : List D)
  | map (ik : Option IntKind) (f : Key → Option AV)

instance : Inhabited Blk := ⟨.dead⟩

abbrev Sto := List Blk
def blkAt (σ : Sto) (id : Nat) : Blk := σ.getD id .dead
def Blk.isDead : Blk → Bool
  | .dead => true
  | _ => false
def alive (σ : Sto) (id : Nat) : Prop := (blkAt σ id).isDead = false
/-- the elements of an array block -/
def Blk.isArr : Blk → Bool
  | .arr .. | .frz .. => true
  | _ => false
def Blk.es : Blk → Nat
  | .arr es _ | .frz es _ => es
  | _ => 0
def Blk.xs : Blk → List D
  | .arr _ xs | .frz _ xs => xs
  | _ => []
/-- the blocks that may yet be written -/
def Blk.own : Blk → Bool
  | .box .. | .arr .. | .map .. => true
  | _ => false
def Blk.isMap : Blk → Bool
  | .map .. => true
  | _ => false
def Blk.mk : Blk → Option IntKind
  | .map ik _ => ik
  | _ => none
def Blk.mf : Blk → Key → Option AV
  | .map _ f => f
  | _ => fun _ => none

def AV.cellAt : AV → Nat → AV
  | .d x, j => .d (x.cell j)
  | .agg cs, j => cs.getD j .undef
  | v, _ => v
def AV.ncells : AV → Nat
  | .d x => x.cells.length
  | .agg cs => cs.length
  | _ => 1

def blkSize (w : World) (b : Nat) : Nat := match w.heap[b]? with | some (.cells c _ _) => c.size | _ => 0
/-- block b is a row of cells, none of them marked -/
def plainBlk (w : World) (b : Nat) : Prop := ∃ c t, w.heap[b]? = some (.cells c t (0, 0))

abbrev Pos := Nat → Option (Nat × Nat)

inductive RepV (w : World) (I : Im) (μ : Pos) (σ : Sto) : Value → AV → Prop
  | undef (v : Value) : RepV w I μ σ v .undef
  | d (v : Value) (x : D) (h : RepD w I v x) : RepV w I μ σ v (.d x)
  | nils : RepV w I μ σ (.slice none 0 0) .nils
  | agg (vs : List Value) (cs : List AV) (hl : vs.length = cs.length) (hone : ∀ c ∈ cs, c.one = true)
      (h : ∀ (i : Nat) (v : Value) (x : AV), vs[i]? = some v → cs[i]? = some x → RepV w I μ σ v x) : RepV w I μ σ (.agg vs.toArray) (.agg cs)
  | ptr (v : Value) (id off : Nat) (hid : id < σ.length) (h : ∃ b base, (alive σ id → μ id = some (b, base)) ∧ v = .pointer (some ⟨b, base + off, none⟩)) : RepV w I μ σ v (.ptr id off)
  | eptr (b o es : Nat) (xs : List D) (i off : Nat) (h : SlAt w I b o es xs) : RepV w I μ σ (.pointer (some ⟨b, o + i * es + off, none⟩)) (.eptr es xs i off)
  | aptr (v : Value) (id i off : Nat) (hid : id < σ.length) (h : ∃ b base es, (alive σ id → μ id = some (b, base) ∧ (blkAt σ id).es = es) ∧ v = .pointer (some ⟨b, base + i * es + off, none⟩)) : RepV w I μ σ v (.aptr id i off)
  | osl (v : Value) (id off len : Nat) (hid : id < σ.length)
      (h : (len = 0 ∧ ∃ a, v = .slice a 0 0) ∨
        ∃ b base es cap, (alive σ id → μ id = some (b, base) ∧ (blkAt σ id).isArr = true ∧ (blkAt σ id).es = es ∧ off + len ≤ (blkAt σ id).xs.length ∧ base + (off + cap) * es ≤ blkSize w b) ∧
          len ≤ cap ∧ v = .slice (some ⟨b, base + off * es, none⟩) len cap) : RepV w I μ σ v (.osl id off len)
  | fn (f : FuncId) (vs : List Value) (caps : List AV) (hl : vs.length = caps.length)
      (h : ∀ (i : Nat) (v : Value) (x : AV), vs[i]? = some v → caps[i]? = some x → RepV w I μ σ v x) : RepV w I μ σ (.func (.func f) #[] vs.toArray) (.fn f caps)
  | tup (vs : List Value) (cs : List AV) (hl : vs.length = cs.length)
      (h : ∀ (i : Nat) (v : Value) (x : AV), vs[i]? = some v → cs[i]? = some x → RepV w I μ σ v x) : RepV w I μ σ (.tuple vs.toArray) (.tup cs)
  | iff (g : Bool) (v : Value) (x : AV) (h1 : g = true → RepV w I μ σ v x) (h2 : g = false → v = Go.undef) : RepV w I μ σ v (.iff g x)
  | mapr (v : Value) (id : Nat) (hid : id < σ.length) (h : ∃ b, (alive σ id → μ id = some (b, 0)) ∧ v = .map (some b)) : RepV w I μ σ v (.mapr id)
  | anyb (b : Bool) : RepV w I μ σ (.bool b) .anyb

/-- the entries es are the map f -/
structure MapIs (w : World) (I : Im) (μ : Pos) (σ : Sto) (ik : Option IntKind) (f : Key → Option AV) (es : List MapEntry) : Prop where
  keys : ∀ e ∈ es, ∃ k, keyFits ik k ∧ e.key = keyVal ik k
  nodup : es.Pairwise fun e e' => e.key ≠ e'.key
  hit : ∀ k v, keyFits ik k → f k = some v → ∃ e ∈ es, e.key = keyVal ik k ∧ RepV w I μ σ e.val v
  miss : ∀ k, keyFits ik k → f k = none → ∀ e ∈ es, e.key ≠ keyVal ik k

def BlkRep (w : World) (I : Im) (μ : Pos) (σ : Sto) (id : Nat) : Blk → Prop
  | .dead => True
  | .box n v => ∃ b, μ id = some (b, 0) ∧ ¬ I.fr b ∧ plainBlk w b ∧ blkSize w b = n ∧ v.ncells = n ∧
      ∀ j, j < n → (v.cellAt j).one = true ∧ ∃ u, w.cell? ⟨b, j, none⟩ = some u ∧ RepV w I μ σ u (v.cellAt j)
  | .arr es xs => (μ id = none ∧ xs = []) ∨ ∃ b base, μ id = some (b, base) ∧ ¬ I.fr b ∧ plainBlk w b ∧ base + xs.length * es ≤ blkSize w b ∧ (∀ x ∈ xs, x.cells.length = es) ∧ (∀ x ∈ xs, x.flat) ∧
      ∀ (i j : Nat) (x y : D), xs[i]? = some x → x.cells[j]? = some y → ∃ v, w.cell? ⟨b, base + i * es + j, none⟩ = some v ∧ RepD w I v y
  | .frz es xs => (μ id = none ∧ xs = []) ∨ ∃ b base, μ id = some (b, base) ∧ SlAt w I b base es xs
  | .map ik f => ∃ b es clock, μ id = some (b, 0) ∧ ¬ I.fr b ∧ w.heap[b]? = some (.map es clock) ∧ MapIs w I μ σ ik f es.toList

structure Rel (w : World) (I : Im) (μ : Pos) (σ : Sto) : Prop where
  imm : ∀ b, I.fr b → b < w.heap.size
  blk : ∀ id, id < σ.length → BlkRep w I μ σ id (blkAt σ id)
  apart : ∀ i j b b' o o', i ≠ j → (blkAt σ i).own = true → (blkAt σ j).own = true → μ i = some (b, o) → μ j = some (b', o') → b ≠ b'

abbrev Env := List (Nat × AV)
def getE (env : Env) (t : Nat) : AV :=
  match env with
  | [] => .undef
  | (s, v) :: r => if s = t then v else getE r t

structure RelEnv (n : Nat) (w : World) (I : Im) (μ : Pos) (σ : Sto) (env : Env) (a : Act) : Prop where
  defers : a.defers = []
  size : a.tmps.size = n
  slot : ∀ t, RepV w I μ σ (a.tmps.getD t Go.undef) (getE env t)

/-- What a stretch of the run may do, seen from the first m blocks of the store: a block that is alive behind it was alive, lies where it lay, is of its kind, and has not become shorter. -/
structure Keep (m : Nat) (w : World) (I : Im) (μ : Pos) (σ : Sto) (w' : World) (I' : Im) (μ' : Pos) (σ' : Sto) : Prop where
  os : w'.os = w.os
  tape : w'.tape = w.tape
  output : w'.output = w.output
  size : w.heap.size ≤ w'.heap.size
  imm : ∀ b, I.rd b → I'.rd b
  fr : ∀ b, I.fr b → I'.fr b
  rdn : ∀ b, I'.rd b → I.rd b ∨ ¬ I.fr b
  same : ∀ b, I.fr b → w'.heap[b]? = w.heap[b]?
  bsize : ∀ b, blkSize w b ≤ blkSize w' b
  len : m ≤ σ'.length
  old : ∀ id, id < m → alive σ' id → alive σ id ∧ μ' id = μ id ∧ (blkAt σ' id).isArr = (blkAt σ id).isArr ∧ (blkAt σ' id).es = (blkAt σ id).es ∧ (blkAt σ id).xs.length ≤ (blkAt σ' id).xs.length

theorem Keep.refl {m : Nat} (w : World) (I : Im) (μ : Pos) (σ : Sto) (hm : m ≤ σ.length) : Keep m w I μ σ w I μ σ :=
  ⟨rfl, rfl, rfl, Nat.le_refl _, fun _ h => h, fun _ h => h, fun _ h => .inl h, fun _ _ => rfl, fun _ => Nat.le_refl _, hm, fun _ _ h => ⟨h, rfl, rfl, rfl, Nat.le_refl _⟩⟩

theorem Keep.trans {m : Nat} {w w1 w2 : World} {I I1 I2 : Im} {μ μ1 μ2 : Pos} {σ σ1 σ2 : Sto}
    (h : Keep m w I μ σ w1 I1 μ1 σ1) (k : Keep m w1 I1 μ1 σ1 w2 I2 μ2 σ2) : Keep m w I μ σ w2 I2 μ2 σ2 :=
  ⟨k.os.trans h.os, k.tape.trans h.tape, k.output.trans h.output, Nat.le_trans h.size k.size, fun b hb => k.imm b (h.imm b hb), fun b hb => k.fr b (h.fr b hb),
    (fun b hb => (k.rdn b hb).elim (fun h1 => h.rdn b h1) (fun h1 => .inr (fun h2 => h1 (h.fr b h2)))),
    fun b hb => (k.same b (h.fr b hb)).trans (h.same b hb), fun b => Nat.le_trans (h.bsize b) (k.bsize b), k.len, fun id hi ha => by
      obtain ⟨a1, e1, r1, s1, l1⟩ := k.old id hi ha
      obtain ⟨a2, e2, r2, s2, l2⟩ := h.old id hi a1
      exact ⟨a2, e1.trans e2, r1.trans r2, s1.trans s2, Nat.le_trans l2 l1⟩⟩

theorem Keep.mono {m m' : Nat} {w w' : World} {I I' : Im} {μ μ' : Pos} {σ σ' : Sto} (h : Keep m w I μ σ w' I' μ' σ') (hm : m' ≤ m) : Keep m' w I μ σ w' I' μ' σ' :=
  ⟨h.os, h.tape, h.output, h.size, h.imm, h.fr, h.rdn, h.same, h.bsize, Nat.le_trans hm h.len, fun id hi => h.old id (Nat.lt_of_lt_of_le hi hm)⟩

theorem Keep.rsame {m : Nat} {w w' : World} {I I' : Im} {μ μ' : Pos} {σ σ' : Sto} (h : Keep m w I μ σ w' I' μ' σ') : ∀ b, I.rd b → w'.heap[b]? = w.heap[b]? := fun b hb => h.same b (I.sub b hb)

/-- Immutable data read as they did. -/
theorem RepD.keep {w w' : World} {I I' : Im} (himm : ∀ b, I.rd b → I'.rd b) (hsame : ∀ b, I.rd b → w'.heap[b]? = w.heap[b]?) {v : Value} {x : D} (h : RepD w I v x) : RepD w' I' v x := by
  induction h with
  | int k n => exact .int k n
  | bool b => exact .bool b
  | str s => exact .str s
  | raw v h => exact .raw v h
  | agg vs cs hl hone h ih => exact .agg vs cs hl hone ih
  | nil a cap => exact .nil a cap
  | sl b off es cap xs vals hI hcap hes hfl hc hr ih =>
    exact .sl b off es cap xs vals (himm b hI) hcap hes hfl (fun i j hi hj => by rw [World.cell?_of_block (w := w) (hsame b hI)]; exact hc i j hi hj) ih

theorem SlAt.keep {w w' : World} {I I' : Im} (himm : ∀ b, I.rd b → I'.rd b) (hsame : ∀ b, I.rd b → w'.heap[b]? = w.heap[b]?) {b o es : Nat} {xs : List D} (h : SlAt w I b o es xs) : SlAt w' I' b o es xs :=
  ⟨himm b h.imm, h.size, h.flat, fun i j x y hx hy => by
    obtain ⟨v, hv, hr⟩ := h.cell i j x y hx hy
    exact ⟨v, by rw [World.cell?_of_block (w := w) (hsame b h.imm)]; exact hv, hr.keep himm hsame⟩⟩

theorem RepV.keep {w w' : World} {I I' : Im} {μ μ' : Pos} {σ σ' : Sto} (k : Keep σ.length w I μ σ w' I' μ' σ') {v : Value} {x : AV} (h : RepV w I μ σ v x) : RepV w' I' μ' σ' v x := by
  induction h with
  | undef v => exact .undef v
  | d v x h => exact .d v x (h.keep k.imm k.rsame)
  | nils => exact .nils
  | agg vs cs hl hone h ih => exact .agg vs cs hl hone ih
  | ptr v id off hid h =>
    obtain ⟨b, base, h1, h2⟩ := h
    refine .ptr v id off (Nat.lt_of_lt_of_le hid k.len) ⟨b, base, fun ha => ?_, h2⟩
    obtain ⟨a1, e1, _⟩ := k.old id hid ha
    rw [e1]; exact h1 a1
  | eptr b o es xs i off h => exact .eptr b o es xs i off (h.keep k.imm k.rsame)
  | aptr v id i off hid h =>
    obtain ⟨b, base, es, h1, h2⟩ := h
    refine .aptr v id i off (Nat.lt_of_lt_of_le hid k.len) ⟨b, base, es, fun ha => ?_, h2⟩
    obtain ⟨a1, e1, _, e2, _⟩ := k.old id hid ha
    rw [e1, e2]; exact h1 a1
  | osl v id off len hid h =>
    refine .osl v id off len (Nat.lt_of_lt_of_le hid k.len) ?_
    rcases h with h | ⟨b, base, es, cap, h1, h2, h3⟩
    · exact .inl h
    · refine .inr ⟨b, base, es, cap, fun ha => ?_, h2, h3⟩
      obtain ⟨a1, e1, e2, e3, e4⟩ := k.old id hid ha
      obtain ⟨p1, p2, p3, p4, p5⟩ := h1 a1
      exact ⟨e1.trans p1, e2.trans p2, e3.trans p3, Nat.le_trans p4 e4, Nat.le_trans p5 (k.bsize b)⟩
  | fn f vs caps hl h ih => exact .fn f vs caps hl ih
  | tup vs cs hl h ih => exact .tup vs cs hl ih
  | iff g v x h1 h2 ih => exact .iff g v x ih h2
  | mapr v id hid h =>
    obtain ⟨b, h1, h2⟩ := h
    refine .mapr v id (Nat.lt_of_lt_of_le hid k.len) ⟨b, fun ha => ?_, h2⟩
    obtain ⟨a1, e1, _⟩ := k.old id hid ha
    rw [e1]; exact h1 a1
  | anyb b => exact .anyb b

theorem MapIs.imp {w w' : World} {I I' : Im} {μ μ' : Pos} {σ σ' : Sto} {ik : Option IntKind} {f : Key → Option AV} {g : AV → AV} {es : List MapEntry} (h : MapIs w I μ σ ik f es) (hr : ∀ v u, RepV w I μ σ v u → RepV w' I' μ' σ' v (g u)) : MapIs w' I' μ' σ' ik (fun k => (f k).map g) es :=
  ⟨h.keys, h.nodup, fun k v hk hv => by
    cases hf : f k with
    | none => rw [hf] at hv; cases hv
    | some u =>
      rw [hf] at hv
      simp only [Option.map_some, Option.some.injEq] at hv
      subst hv
      obtain ⟨e, h1, h2, h3⟩ := h.hit k u hk hf
      exact ⟨e, h1, h2, hr _ _ h3⟩, fun k hk hv => h.miss k hk (by cases hf : f k with | none => rfl | some u => rw [hf] at hv; cases hv)⟩
theorem MapIs.imp' {w w' : World} {I I' : Im} {μ μ' : Pos} {σ σ' : Sto} {ik : Option IntKind} {f : Key → Option AV} {es : List MapEntry} (h : MapIs w I μ σ ik f es) (hr : ∀ v u, RepV w I μ σ v u → RepV w' I' μ' σ' v u) : MapIs w' I' μ' σ' ik f es := by
  have := h.imp (g := fun u => u) hr
  have e : (fun k => (f k).map fun u => u) = f := by funext k; cases f k <;> rfl
  rwa [e] at this

theorem plainBlk.same {w w' : World} {b : Nat} (h : plainBlk w b) (e : w'.heap[b]? = w.heap[b]?) : plainBlk w' b := by
  obtain ⟨c, t, hc⟩ := h
  exact ⟨c, t, e.trans hc⟩
theorem blkSize_same {w w' : World} {b : Nat} (e : w'.heap[b]? = w.heap[b]?) : blkSize w' b = blkSize w b := by unfold blkSize; rw [e]

theorem BlkRep.keep {w w' : World} {I I' : Im} {μ μ' : Pos} {σ σ' : Sto} (k : Keep σ.length w I μ σ w' I' μ' σ') {id : Nat} {B : Blk} (hμ : μ' id = μ id)
    (hb : B.own = true → ∀ b o, μ id = some (b, o) → w'.heap[b]? = w.heap[b]? ∧ (¬ I.fr b → ¬ I'.fr b)) (h : BlkRep w I μ σ id B) : BlkRep w' I' μ' σ' id B := by
  cases B with
  | dead => trivial
  | box n v =>
    obtain ⟨b, h1, h2, h3, h4, h5, h6⟩ := h
    obtain ⟨e, ni⟩ := hb rfl b 0 h1
    refine ⟨b, hμ.trans h1, ni h2, h3.same e, (blkSize_same e).trans h4, h5, fun j hj => ?_⟩
    obtain ⟨h7, u, h8, h9⟩ := h6 j hj
    exact ⟨h7, u, by rw [World.cell?_of_block (w := w) e]; exact h8, h9.keep k⟩
  | arr es xs =>
    rcases h with ⟨h1, h2⟩ | ⟨b, base, h1, h2, h3, h4, h5, h6, h7⟩
    · exact .inl ⟨hμ.trans h1, h2⟩
    · obtain ⟨e, ni⟩ := hb rfl b base h1
      refine .inr ⟨b, base, hμ.trans h1, ni h2, h3.same e, by rw [blkSize_same e]; exact h4, h5, h6, fun i j x y hx hy => ?_⟩
      obtain ⟨v, hv, hr⟩ := h7 i j x y hx hy
      exact ⟨v, by rw [World.cell?_of_block (w := w) e]; exact hv, hr.keep k.imm k.rsame⟩
  | frz es xs =>
    rcases h with ⟨h1, h2⟩ | ⟨b, base, h1, h2⟩
    · exact .inl ⟨hμ.trans h1, h2⟩
    · exact .inr ⟨b, base, hμ.trans h1, h2.keep k.imm k.rsame⟩
  | map ik f =>
    obtain ⟨b, es, clock, h1, h2, h3, h4⟩ := h
    obtain ⟨e, ni⟩ := hb rfl b 0 h1
    exact ⟨b, es, clock, hμ.trans h1, ni h2, e.trans h3, h4.imp' fun v u hv => hv.keep k⟩

theorem RelEnv.keep {n : Nat} {w w' : World} {I I' : Im} {μ μ' : Pos} {σ σ' : Sto} (k : Keep σ.length w I μ σ w' I' μ' σ') {env : Env} {a : Act} (h : RelEnv n w I μ σ env a) : RelEnv n w' I' μ' σ' env a :=
  ⟨h.defers, h.size, fun t => (h.slot t).keep k⟩

theorem RelEnv.put {n : Nat} {w : World} {I : Im} {μ : Pos} {σ : Sto} {env : Env} {a : Act} (h : RelEnv n w I μ σ env a) {d : Nat} (hd : d < n) {v : Value} {x : AV} (hv : RepV w I μ σ v x) :
    RelEnv n w I μ σ ((d, x) :: env) (a.put (some d) v) := by
  refine ⟨h.defers, by simp [Act.put, h.size], fun t => ?_⟩
  have hs := h.size
  by_cases e : d = t
  · subst e
    simp only [Act.put, getE, if_true]
    rw [Array.getD_eq_getD_getElem?, Array.getElem?_setIfInBounds_self_of_lt (by omega)]
    exact hv
  · simp only [Act.put, getE, if_neg e]
    rw [Array.getD_eq_getD_getElem?, Array.getElem?_setIfInBounds_ne e, ← Array.getD_eq_getD_getElem?]
    exact h.slot t

theorem alive_lt {σ : Sto} {id : Nat} (h : alive σ id) : id < σ.length := by
  unfold alive blkAt at h
  rcases Nat.lt_or_ge id σ.length with h' | h'
  · exact h'
  · rw [List.getD_eq_getElem?_getD, List.getElem?_eq_none h'] at h; simp [Blk.isDead] at h

theorem blkAt_append_old {σ τ : Sto} {id : Nat} (h : id < σ.length) : blkAt (σ ++ τ) id = blkAt σ id := by
  unfold blkAt; simp [List.getD_eq_getElem?_getD, List.getElem?_append_left h]
theorem blkAt_append_new {σ : Sto} {B : Blk} : blkAt (σ ++ [B]) σ.length = B := by
  unfold blkAt; simp [List.getD_eq_getElem?_getD]
theorem blkAt_set_ne {σ : Sto} {i j : Nat} {B : Blk} (h : i ≠ j) : blkAt (σ.set i B) j = blkAt σ j := by
  unfold blkAt; simp [List.getD_eq_getElem?_getD, List.getElem?_set_ne h]
theorem blkAt_set_self {σ : Sto} {i : Nat} {B : Blk} (h : i < σ.length) : blkAt (σ.set i B) i = B := by
  unfold blkAt; simp [List.getD_eq_getElem?_getD, List.getElem?_set_self h]

end Go.AM
