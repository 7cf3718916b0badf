/-
  The abstract operations: what each operation is worth on abstract values ('opV'), on the store ('opS'), and what it asks ('opOk').
-/
import Derived.Test.YtgebmgahfpnjaaaAm2
set_option linter.unnecessarySimpa false
set_option linter.unusedSectionVars false
set_option linter.unusedSimpArgs false
set_option linter.unusedVariables false
namespace Go.AM

/-! ### values -/
def AV.un : AV → AV
  | .iff _ a => a
  | a => a
def AV.vg : AV → Bool
  | .iff g _ => g
  | _ => true
def AV.isAgg : AV → Bool
  | .d x => x.isAgg
  | .agg _ => true
  | _ => false
def AV.storable : AV → Bool
  | .undef => false
  | .tup _ => false
  | .iff _ _ => false
  | .anyb => false
  | _ => true
def AV.isPtr : AV → Bool
  | .ptr .. | .eptr .. | .aptr .. => true
  | _ => false
def AV.shift : AV → Nat → AV
  | .ptr id off, n => .ptr id (off + n)
  | .eptr es xs i off, n => .eptr es xs i (off + n)
  | .aptr id i off, n => .aptr id i (off + n)
  | v, _ => v
def AV.int? (k : IntKind) : AV → Bool
  | .d (.int k' _) => decide (k' = k)
  | _ => false
def AV.isIntv : AV → Bool
  | .d (.int _ _) => true
  | _ => false
def AV.num : AV → Int
  | .d (.int _ n) => n
  | _ => 0
def AV.isBoolv : AV → Bool
  | .d (.bool _) => true
  | _ => false
def AV.truth : AV → Bool
  | .d (.bool b) => b
  | _ => false

def allD : List AV → Option (List D)
  | [] => some []
  | .d x :: r => (allD r).map (x :: ·)
  | _ :: _ => none
def mkAgg (cs : List AV) : AV := match allD cs with | some ds => .d (.agg ds) | none => .agg cs

def const1 : Value → AV
  | .bool b => .d (.bool b)
  | .int k n => .d (.int k n)
  | .string s => .d (.str s.data.toList)
  | .slice none 0 0 => .nils
  | .pointer none => .d (.raw (.pointer none))
  | .map none => .d (.raw (.map none))
  | .nilFunc => .d (.raw .nilFunc)
  | .nilIface => .d (.raw .nilIface)
  | _ => .undef
def constV : Value → AV
  | .agg cs => if (cs.toList.map const1).all AV.one then mkAgg (cs.toList.map const1) else .undef
  | v => const1 v

abbrev Globs := List (Nat × D)
def globV (Gl : Globs) (g : Nat) : AV := match Gl.find? (fun p => p.1 == g) with | some p => .eptr p.2.cells.length [p.2] 0 0 | none => .undef

def evO (Gl : Globs) (env : Env) : Operand → AV
  | .tmp t => getE env t
  | .const v => constV v
  | .global g => globV Gl g
  | .func f => .fn f []

/-! ### reading as data -/
def toD1 (σ : Sto) : AV → D
  | .d x => x
  | .nils => .sl []
  | .osl id off len => .sl (((blkAt σ id).xs.drop off).take len)
  | _ => default
def isD1 (σ : Sto) : AV → Bool
  | .d _ => true
  | .nils => true
  | .osl id _ _ => (blkAt σ id).isArr
  | _ => false
def ref1 : AV → List Nat
  | .osl id _ _ => [id]
  | _ => []
def AV.toD (σ : Sto) : AV → D
  | .agg cs => .agg (cs.map (toD1 σ))
  | v => toD1 σ v
def AV.isD (σ : Sto) : AV → Bool
  | .agg cs => cs.all (isD1 σ)
  | v => isD1 σ v
def AV.refs : AV → List Nat
  | .agg cs => cs.flatMap ref1
  | v => ref1 v
def freezeL (σ : Sto) (l : List Nat) : Sto := l.foldl freeze σ

/-! ### types -/
def tkind (P : Program) (t : TypeId) : Option Bool :=
  match P.underlying t with
  | some (.struct _) => some true
  | some (.array _ _) => some true
  | some _ => some false
  | none => none
def tsz (P : Program) (t : TypeId) : Option Nat := (P.info? t).map (·.size)
def tzero (P : Program) (t : TypeId) : Option Value := (P.info? t).bind (·.zero)
/-- offset, size, aggregate? of a field -/
def tfld (P : Program) (s : TypeId) (f : Nat) : Option (Nat × Nat × Bool) :=
  match P.underlying s with
  | some (.struct fs) => match fs[f]? with
    | some x => match tsz P x.type, tkind P x.type with
      | some n, some g => some (x.offset, n, g)
      | _, _ => none
    | none => none
  | _ => none
/-- an element's cells: of a slice (no length), of an array (its length) -/
def tidx (P : Program) (t : TypeId) : Option (Option Nat × Nat) :=
  match P.underlying t with
  | some (.slice e) => (tsz P e).map fun n => (none, n)
  | some (.array k e) => (tsz P e).map fun n => (some k, n)
  | _ => none
def telem (P : Program) (t : TypeId) : Option TypeId :=
  match P.underlying t with
  | some (.slice e) => some e
  | _ => none
def tbytes (P : Program) (t : TypeId) : Option Nat := (P.info? t).map (·.bytes)
def tstr (P : Program) (t : TypeId) : Bool := match P.underlying t with | some .string => true | _ => false

/-! ### loads, stores -/
def AV.subV : AV → Nat → Nat → AV
  | .d x, off, n => .d (x.sub off n)
  | .agg cs, off, n => mkAgg ((cs.drop off).take n)
  | v, _, _ => v
def partOk (N off n : Nat) (g whole : Bool) : Prop := off + n ≤ N ∧ (if off = 0 ∧ n = N then whole = g else (whole = true ∧ (g = true ∨ n = 1)))
def AV.partV (v : AV) (N off n : Nat) (g : Bool) : AV := if off = 0 ∧ n = N then v else if g = true then v.subV off n else v.cellAt off
def D.partD (x : D) (N off n : Nat) (g : Bool) : D := if off = 0 ∧ n = N then x else if g = true then x.sub off n else x.cell off

def Blk.boxN : Blk → Nat
  | .box n _ => n
  | _ => 0
def Blk.boxV : Blk → AV
  | .box _ v => v
  | _ => .undef
def Blk.isBox : Blk → Bool
  | .box .. => true
  | _ => false
def Blk.isOwnArr : Blk → Bool
  | .arr .. => true
  | _ => false

def ldOk (σ : Sto) (g : Bool) (n : Nat) : AV → Prop
  | .ptr id off => (blkAt σ id).isBox = true ∧ partOk (blkAt σ id).boxN off n g (blkAt σ id).boxV.isAgg
  | .eptr es xs i off => i < xs.length ∧ partOk es off n g (xs.getD i default).isAgg
  | .aptr id i off => (blkAt σ id).isArr = true ∧ i < (blkAt σ id).xs.length ∧ partOk (blkAt σ id).es off n g ((blkAt σ id).xs.getD i default).isAgg
  | _ => False
def ldV (σ : Sto) (g : Bool) (n : Nat) : AV → AV
  | .ptr id off => (blkAt σ id).boxV.partV (blkAt σ id).boxN off n g
  | .eptr es xs i off => .d ((xs.getD i default).partD es off n g)
  | .aptr id i off => .d (((blkAt σ id).xs.getD i default).partD (blkAt σ id).es off n g)
  | _ => .undef

def putV (v : AV) (N off n : Nat) (u : AV) : AV :=
  if off = 0 ∧ n = N then u else mkAgg ((List.range N).map fun j => if off ≤ j ∧ j < off + n then u.cellAt (j - off) else v.cellAt j)

def stOk (σ : Sto) (n : Nat) (u : AV) : AV → Prop
  | .ptr id off => (blkAt σ id).isBox = true ∧ off + n ≤ (blkAt σ id).boxN ∧ u.storable = true ∧ u.ncells = n
  | .aptr id i off => (blkAt σ id).isOwnArr = true ∧ i < (blkAt σ id).xs.length ∧ off + n ≤ (blkAt σ id).es ∧ u.isD σ = true ∧ (u.toD σ).cells.length = n ∧ (¬ id ∈ u.refs)
  | _ => False
def stS (σ : Sto) (n : Nat) (u : AV) : AV → Sto
  | .ptr id off => σ.set id (.box (blkAt σ id).boxN (putV (blkAt σ id).boxV (blkAt σ id).boxN off n u))
  | .aptr id i off => (freezeL σ u.refs).set id (.arr (blkAt σ id).es ((blkAt σ id).xs.set i (((blkAt σ id).xs.getD i default).putAt (blkAt σ id).es off n (u.toD σ))))
  | _ => σ

/-! ### clear -/
/-- n elements from off on turned to z -/
def clearL (xs : List D) (off n : Nat) (z : D) : List D := (List.range xs.length).map fun i => if off ≤ i ∧ i < off + n then z else xs.getD i default

/-! ### arithmetic -/
def intBin (op : BinOp) (k : IntKind) (a b : Int) : D :=
  match op with
  | .add => .int k (k.wrap (a + b))
  | .sub => .int k (k.wrap (a - b))
  | .mul => .int k (k.wrap (a * b))
  | .quo => .int k (k.wrap (a.tdiv b))
  | .rem => .int k (a.tmod b)
  | .and => .int k (k.wrap ((BitVec.ofInt k.bits a) &&& (BitVec.ofInt k.bits b)).toNat)
  | .or => .int k (k.wrap ((BitVec.ofInt k.bits a) ||| (BitVec.ofInt k.bits b)).toNat)
  | .xor => .int k (k.wrap ((BitVec.ofInt k.bits a) ^^^ (BitVec.ofInt k.bits b)).toNat)
  | .andNot => .int k (k.wrap ((BitVec.ofInt k.bits a) &&& ~~~(BitVec.ofInt k.bits b)).toNat)
  | .shl => .int k (k.wrap (a * 2 ^ (min b.toNat k.bits)))
  | .shr => .int k (a.fdiv (2 ^ (min b.toNat k.bits)))
  | .eql => .bool (a == b)
  | .neq => .bool (a != b)
  | .lss => .bool (decide (a < b))
  | .leq => .bool (decide (a ≤ b))
  | .gtr => .bool (decide (a > b))
  | .geq => .bool (decide (a ≥ b))
def intBinOk (op : BinOp) (k k' : IntKind) (b : Int) : Prop :=
  match op with
  | .shl | .shr => 0 ≤ b
  | .quo | .rem => k = k' ∧ b ≠ 0
  | _ => k = k'
def strBin (op : BinOp) (a b : List UInt8) : D :=
  match op with
  | .add => .str (a ++ b)
  | .eql => .bool (a == b)
  | .neq => .bool (!(a == b))
  | .lss => .bool (Op.bytesLess a b)
  | .leq => .bool (Op.bytesLess a b || a == b)
  | .gtr => .bool (!(Op.bytesLess a b || a == b))
  | .geq => .bool (!(Op.bytesLess a b))
  | _ => default
def strBinOk (op : BinOp) (a b : List UInt8) : Prop :=
  match op with
  | .add => ((a.length + b.length : Nat) : Int) ≤ 9223372036854775807
  | .eql | .neq | .lss | .leq | .gtr | .geq => True
  | _ => False
/-- '==' on data of one cell -/
def D.beq1 : D → D → Bool
  | .int _ a, .int _ b => a == b
  | .bool a, .bool b => a == b
  | .str a, .str b => a == b
  | _, _ => false
/-- may be compared as a value of the kind c (0: integers, 1: bools, 2: strings) -/
def D.cmp1 : D → Nat → D → Bool
  | .int k _, 0, .int k' _ => decide (k = k')
  | .bool _, 1, .bool _ => true
  | .str _, 2, .str _ => true
  | _, _, _ => false
def beqL : List D → List D → Bool
  | a :: r, b :: s => a.beq1 b && beqL r s
  | _, _ => true
def cmpL : List Nat → List D → List D → Bool
  | c :: cs, a :: r, b :: s => a.cmp1 c b && cmpL cs r s
  | [], [], [] => true
  | _, _, _ => false
def binD (op : BinOp) : D → D → D
  | .int k a, .int _ b => intBin op k a b
  | .str a, .str b => strBin op a b
  | .bool a, .bool b => match op with | .eql => .bool (a == b) | .neq => .bool (!(a == b)) | _ => default
  | .agg a, .agg b => match op with | .eql => .bool (beqL a b) | .neq => .bool (!(beqL a b)) | _ => default
  | _, _ => default
/-- a struct type whose fields are compared one by one: each of one cell, laid one behind the other: their kinds -/
def flatFields (P : Program) (fs : List Field) (o : Nat) : Option (List Nat) :=
  match fs with
  | [] => some []
  | f :: r => if f.name ≠ "_" ∧ f.offset = o then
      match P.underlying f.type, flatFields P r (o + 1) with
      | some (.int _), some l => some (0 :: l)
      | some .bool, some l => some (1 :: l)
      | some .string, some l => some (2 :: l)
      | _, _ => none
    else none
def tcmp (P : Program) (t : TypeId) : Option (List Nat) :=
  match P.underlying t with
  | some (.struct fs) => if P.stoodInHeld t = false ∧ P.eqGuardType P.depth t = false then flatFields P fs.toList 0 else none
  | _ => none
def binOkD (P : Program) (t : TypeId) (op : BinOp) : D → D → Prop
  | .int k _, .int k' b => intBinOk op k k' b
  | .str a, .str b => strBinOk op a b
  | .bool _, .bool _ => (match op with | .eql | .neq => True | _ => False) ∧ P.underlying t = some .bool
  | .agg a, .agg b => (match op with | .eql | .neq => True | _ => False) ∧ (match tcmp P t with | some l => cmpL l a b = true | none => False)
  | _, _ => False
/-! ### maps, nil -/
/-- a map type: its keys' kind, its elements' type -/
def tmap (P : Program) (t : TypeId) : Option (Option IntKind × TypeId) :=
  match P.underlying t with
  | some (.map k e) => match P.underlying k with
    | some (.int ik) => some (some ik, e)
    | some .string => some (none, e)
    | _ => none
  | _ => none
def tptr (P : Program) (t : TypeId) : Bool := match P.underlying t with | some (.pointer _) => true | _ => false
/-- a type's zero value -/
def zeroV (P : Program) (t : TypeId) : AV := match tzero P t with | some z => constV z | none => .undef
def keyOf : AV → Key
  | .d (.int _ n) => .i n
  | .d (.str l) => .s l
  | _ => .i 0
def keyOk (ik : Option IntKind) : AV → Prop
  | .d (.int k _) => ik = some k
  | .d (.str _) => ik = none
  | _ => False
def mset (f : Key → Option AV) (k : Key) (v : AV) : Key → Option AV := fun k' => if k' = k then some v else f k'
def mdel (f : Key → Option AV) (k : Key) : Key → Option AV := fun k' => if k' = k then none else f k'
def lkOk (σ : Sto) (ik : Option IntKind) : AV → Prop
  | .mapr id => (blkAt σ id).isMap = true ∧ (blkAt σ id).mk = ik
  | .d (.raw (.map none)) => True
  | _ => False
def lkF (σ : Sto) : AV → Key → Option AV
  | .mapr id => (blkAt σ id).mf
  | _ => fun _ => none
def muOk (σ : Sto) (ik : Option IntKind) (m v : AV) : Prop := match m with
  | .mapr id => (blkAt σ id).isMap = true ∧ (blkAt σ id).mk = ik ∧ v.storable = true
  | _ => False
def muS (σ : Sto) (k : Key) (v : AV) : AV → Sto
  | .mapr id => σ.set id (.map (blkAt σ id).mk (mset (blkAt σ id).mf k v))
  | _ => σ
def mdS (σ : Sto) (k : Key) : AV → Sto
  | .mapr id => σ.set id (.map (blkAt σ id).mk (mdel (blkAt σ id).mf k))
  | _ => σ

def isNilV : AV → AV
  | .nils => .d (.bool true)
  | .d (.raw _) => .d (.bool true)
  | .d (.sl xs) => if xs.isEmpty = true then .anyb else .d (.bool false)
  | .osl _ _ n => if n = 0 then .anyb else .d (.bool false)
  | .ptr .. | .eptr .. | .aptr .. | .mapr _ => .d (.bool false)
  | _ => .undef
def nilBin (op : BinOp) (a : AV) : AV := match op, a with
  | .eql, a => a
  | .neq, .d (.bool b) => .d (.bool (!b))
  | .neq, .anyb => .anyb
  | _, _ => .undef
def nilOk (P : Program) (t : TypeId) (op : BinOp) (u v : AV) : Prop := (op = .eql ∨ op = .neq) ∧ match v, u with
  | .nils, .nils => (telem P t).isSome = true
  | .nils, .d (.sl _) => (telem P t).isSome = true
  | .nils, .osl .. => (telem P t).isSome = true
  | .d (.raw (.pointer none)), .ptr .. => tptr P t = true
  | .d (.raw (.pointer none)), .eptr .. => tptr P t = true
  | .d (.raw (.pointer none)), .aptr .. => tptr P t = true
  | .d (.raw (.pointer none)), .d (.raw (.pointer none)) => tptr P t = true
  | .d (.raw (.map none)), .mapr _ => (tmap P t).isSome = true
  | .d (.raw (.map none)), .d (.raw (.map none)) => (tmap P t).isSome = true
  | _, _ => False
def AV.isNilc : AV → Bool
  | .nils => true
  | .d (.raw _) => true
  | _ => false
def binV0 (op : BinOp) : AV → AV → AV
  | .d x, .d y => .d (binD op x y)
  | _, _ => .undef
def binV (op : BinOp) (u v : AV) : AV := if v.isNilc = true then nilBin op (isNilV u) else binV0 op u v
def binOk0 (P : Program) (t : TypeId) (op : BinOp) : AV → AV → Prop
  | .d x, .d y => binOkD P t op x y
  | _, _ => False
def binOk (P : Program) (t : TypeId) (op : BinOp) (u v : AV) : Prop := if v.isNilc = true then nilOk P t op u v else binOk0 P t op u v
def unV (op : UnOp) : AV → AV
  | .d (.int k n) => match op with
    | .neg => .d (.int k (k.wrap (0 - n)))
    | .xor => .d (intBin .xor k (if k.signed then -1 else k.max) n)
    | _ => .undef
  | .d (.bool b) => match op with
    | .not => .d (.bool (!b))
    | _ => .undef
  | _ => .undef
def unOk (op : UnOp) : AV → Prop
  | .d (.int _ _) => match op with | .neg | .xor => True | _ => False
  | .d (.bool _) => match op with | .not => True | _ => False
  | _ => False

/-! ### slices -/
def AV.len : AV → Nat
  | .d (.sl xs) => xs.length
  | .d (.str s) => s.length
  | .osl _ _ n => n
  | _ => 0
def AV.hasLen (P : Program) (t : TypeId) : AV → Bool
  | .d (.sl _) => (telem P t).isSome
  | .osl _ _ _ => (telem P t).isSome
  | .nils => (telem P t).isSome
  | .d (.str _) => tstr P t
  | _ => false
/-- what a slice holds -/
def AV.elems (σ : Sto) : AV → List D
  | .d (.sl xs) => xs
  | .osl id off len => ((blkAt σ id).xs.drop off).take len
  | _ => []
def AV.isSlv (σ : Sto) : AV → Bool
  | .d (.sl _) => true
  | .osl id _ _ => (blkAt σ id).isArr
  | .nils => true
  | _ => false

def idxOk (σ : Sto) (es : Nat) (i : Int) : AV → Prop
  | .d (.sl xs) => 0 ≤ i ∧ i < xs.length ∧ (xs.getD i.toNat default).cells.length = es
  | .osl id _ len => 0 ≤ i ∧ i < len ∧ (blkAt σ id).isArr = true ∧ (blkAt σ id).es = es
  | _ => False
def idxV (es : Nat) (i : Int) : AV → AV
  | .d (.sl xs) => .eptr es xs i.toNat 0
  | .osl id off _ => .aptr id (off + i.toNat) 0
  | _ => .undef
def aidxOk (k : Nat) (i : Int) (p : AV) : Prop := p.isPtr = true ∧ 0 ≤ i ∧ i < k ∧ 2 ≤ k

def slOk (P : Program) (t : TypeId) (σ : Sto) (lo hi : Int) : AV → Prop
  | .d (.str s) => tstr P t = true ∧ 0 ≤ lo ∧ lo ≤ hi ∧ hi ≤ s.length
  | .d (.sl xs) => ((tidx P t).isSome = true ∧ (telem P t).isSome = true) ∧ 0 ≤ lo ∧ lo ≤ hi ∧ hi ≤ xs.length ∧ (match tidx P t with | some (_, es) => ∀ x ∈ xs, x.cells.length = es | none => False)
  | .osl id _ len => (telem P t).isSome = true ∧ 0 ≤ lo ∧ lo ≤ hi ∧ hi ≤ len ∧ (blkAt σ id).isArr = true ∧ tidx P t = some (none, (blkAt σ id).es)
  | .nils => (telem P t).isSome = true ∧ (tidx P t).isSome = true ∧ lo = 0 ∧ hi = 0
  | _ => False
def slV (lo hi : Int) : AV → AV
  | .d (.str s) => .d (.str ((s.take hi.toNat).drop lo.toNat))
  | .d (.sl xs) => .d (.sl ((xs.take hi.toNat).drop lo.toNat))
  | .osl id off _ => .osl id (off + lo.toNat) (hi.toNat - lo.toNat)
  | .nils => .nils
  | _ => .undef

end Go.AM
