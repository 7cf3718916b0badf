/-
  The evaluator of operations, and that it is sound: operations in the order of the text.
-/
import Derived.Test.YtgebmgahfpnjaaaAmM
set_option linter.unnecessarySimpa false
set_option linter.unusedSectionVars false
set_option linter.unusedSimpArgs false
set_option linter.unusedVariables false
namespace Go.AM

def AV.notNil : AV → Bool
  | .ptr .. | .eptr .. | .aptr .. | .fn .. => true
  | _ => false
def pickV (c : Bool) : AV → AV → AV
  | .d (.bool p), .d (.bool q) => .d (.bool (bif c then p else q))
  | .d x, .d y => .d (bif c then x else y)
  | a, b => bif c then a else b
theorem pickV_true (a b : AV) : pickV true a b = a := by
  unfold pickV; split <;> rfl
theorem pickV_false (a b : AV) : pickV false a b = b := by
  unfold pickV; split <;> rfl

def AV.strOf : AV → List UInt8
  | .d (.str s) => s
  | _ => []
def AV.isStrv : AV → Bool
  | .d (.str _) => true
  | _ => false
def AV.tupAt : AV → Nat → AV
  | .tup vs, i => vs.getD i .undef
  | _, _ => .undef
def AV.tupLen : AV → Nat
  | .tup vs => vs.length
  | _ => 0

/-- an operand's value, its guard put by -/
def evU (Gl : Globs) (env : Env) (x : Operand) : AV := (evO Gl env x).un
def evG (Gl : Globs) (env : Env) (x : Operand) : Bool := (evO Gl env x).vg

def loOf (Gl : Globs) (env : Env) : Option Operand → Int
  | some x => (evU Gl env x).num
  | none => 0
def hiOf (Gl : Globs) (env : Env) (len : Nat) : Option Operand → Int
  | some x => (evU Gl env x).num
  | none => len
def boundOk (Gl : Globs) (env : Env) : Option Operand → Prop
  | some x => (evU Gl env x).isIntv = true
  | none => True

def cvOk (P : Program) (s t : TypeId) (u : AV) : Prop := (P.underlying s).isSome = true ∧ (tintk P t).isSome = true ∧ u.isIntv = true
def cvV (P : Program) (t : TypeId) (u : AV) : AV := match tintk P t with | some k => .d (.int k (k.wrap u.num)) | none => .undef

def delOk (σ : Sto) (ik : Option IntKind) : AV → Prop
  | .mapr id => (blkAt σ id).isMap = true ∧ (blkAt σ id).mk = ik
  | _ => False

def isCall : Op → Bool
  | .call { callee := .builtin _, .. } => false
  | .call _ => true
  | _ => false
/-- leaves the store as it is -/
def quietOp : Op → Bool
  | .alloc _ | .box _ _ | .buildSlice .. | .store .. | .makeSlice .. | .makeMap .. | .mapUpdate .. | .insert .. => false
  | .call { callee := .builtin .append, .. } => false
  | .call { callee := .builtin .delete, .. } => false
  | .call { callee := .builtin .clear, .. } => false
  | _ => true

def partsU (Gl : Globs) (env : Env) (parts : Array (Nat × Operand)) : List (Nat × AV) := parts.toList.map fun p => (p.1, evU Gl env p.2)

def biOk (P : Program) (Gl : Globs) (σ : Sto) (env : Env) (b : Builtin) (args : List Operand) (ts : List TypeId) : Prop :=
  match b, args, ts with
  | .len, [x], [t] => (evU Gl env x).hasLen P t = true
  | .append, [s, x], [t1, t2] => apOk P σ t1 t2 (evU Gl env s) (evU Gl env x)
  | .min, args, _ => minmaxOk (args.map (evU Gl env))
  | .max, args, _ => minmaxOk (args.map (evU Gl env))
  | .delete, [m, k], [t, _] => match tmap P t with | some (ik, _) => keyOk ik (evU Gl env k) ∧ delOk σ ik (evU Gl env m) | none => False
  | .clear, [s], [t] => clOk P σ t (evU Gl env s)
  | _, _, _ => False
def biV (Gl : Globs) (σ : Sto) (env : Env) (b : Builtin) (args : List Operand) : AV :=
  match b, args with
  | .len, [x] => .d (.int .i64 (evU Gl env x).len)
  | .append, [s, x] => apV σ (evU Gl env s) (evU Gl env x)
  | .min, args => minV (args.map (evU Gl env))
  | .max, args => maxV (args.map (evU Gl env))
  | _, _ => .undef
def biS (P : Program) (Gl : Globs) (σ : Sto) (env : Env) (b : Builtin) (args : List Operand) (ts : List TypeId) : Sto :=
  match b, args, ts with
  | .append, [s, x], [t1, _] => apS P σ t1 (evU Gl env s) (evU Gl env x)
  | .delete, [m, k], _ => mdS σ (keyOf (evU Gl env k)) (evU Gl env m)
  | .clear, [s], [t] => clS P σ t (evU Gl env s)
  | _, _, _ => σ

def opOk (P : Program) (Gl : Globs) (σ : Sto) (env : Env) : Op → Prop
  | .move _ => True
  | .assign _ => True
  | .pick c _ _ => (evU Gl env c).isBoolv = true
  | .alloc t => match tzero P t with | some z => (constV z).storable = true | none => False
  | .box _ x => (evU Gl env x).storable = true
  | .build t parts => match tplaces P t, tzeroA P t with | some pl, some zc => fillOk pl zc.length (partsU Gl env parts) | _, _ => False
  | .buildSlice t n parts => match n with
    | 0 => parts = #[] ∧ (match telem P t with | some e => (tsz P e).isSome = true | none => False)
    | n + 1 => bslOk P σ t (n + 1) (partsU Gl env parts)
  | .load t x => match tkind P t, tsz P t with | some g, some n => ldOk σ g n (evU Gl env x) | _, _ => False
  | .store t a x => match tsz P t with | some n => stOk σ n (evU Gl env x) (evU Gl env a) | none => False
  | .nilCheck x => (evU Gl env x).notNil = true
  | .binOp op t x y _ => binOk P t op (evU Gl env x) (evU Gl env y)
  | .unOp op _ x => unOk op (evU Gl env x)
  | .convert s t x => cvOk P s t (evU Gl env x)
  | .makeFunc fn first _ => match fn with | .func _ => first = #[] | _ => False
  | .makeSlice t l c => mkOk P t (evU Gl env l) (evU Gl env c)
  | .slice t x lo hi mx => match mx with
    | none => boundOk Gl env lo ∧ boundOk Gl env hi ∧ slOk P t σ (loOf Gl env lo) (hiOf Gl env (evU Gl env x).len hi) (evU Gl env x)
    | some _ => False
  | .fieldAddr s x f => match tfld P s f with | some (_, n, _) => n ≠ 0 ∧ (evU Gl env x).isPtr = true | none => False
  | .field s x f => match tfld P s f with | some (o, n, g) => (evU Gl env x).isAgg = true ∧ o + n ≤ (evU Gl env x).ncells ∧ (g = true ∨ n = 1) | none => False
  | .indexAddr t x i => (evU Gl env i).isIntv = true ∧ (match tidx P t with
    | some (none, es) => idxOk σ es (evU Gl env i).num (evU Gl env x)
    | some (some k, _) => aidxOk k (evU Gl env i).num (evU Gl env x)
    | none => False)
  | .index t x i => tstr P t = true ∧ (evU Gl env x).isStrv = true ∧ (evU Gl env i).isIntv = true ∧ 0 ≤ (evU Gl env i).num ∧ (evU Gl env i).num < (evU Gl env x).strOf.length
  | .extract t i => i < (evU Gl env t).tupLen
  | .lookup t m k _ => match tmap P t with | some (ik, e) => keyOk ik (evU Gl env k) ∧ lkOk σ ik (evU Gl env m) ∧ (tzero P e).isSome = true | none => False
  | .mapUpdate t m k x => match tmap P t with | some (ik, _) => keyOk ik (evU Gl env k) ∧ muOk σ ik (evU Gl env m) (evU Gl env x) | none => False
  | .insert t m k x => match tmap P t with | some (ik, _) => keyOk ik (evU Gl env k) ∧ muOk σ ik (evU Gl env m) (evU Gl env x) | none => False
  | .makeMap t r => r = none ∧ (tmap P t).isSome = true
  | .call c => match c.callee with | .builtin b => biOk P Gl σ env b c.args.toList c.argTypes.toList | _ => False
  | _ => False

def opV (P : Program) (Gl : Globs) (σ : Sto) (env : Env) : Op → AV
  | .move x => evU Gl env x
  | .assign x => evU Gl env x
  | .pick c a b => pickV (evU Gl env c).truth (evU Gl env a) (evU Gl env b)
  | .alloc _ => .ptr σ.length 0
  | .box _ _ => .ptr σ.length 0
  | .build t parts => match tplaces P t, tzeroA P t with | some pl, some zc => mkAgg (fillA pl zc (partsU Gl env parts)) | _, _ => .undef
  | .buildSlice _ n _ => .osl (σ.length) 0 n
  | .load t x => match tkind P t, tsz P t with | some g, some n => ldV σ g n (evU Gl env x) | _, _ => .undef
  | .store .. => .undef
  | .nilCheck x => evU Gl env x
  | .binOp op _ x y _ => binV op (evU Gl env x) (evU Gl env y)
  | .unOp op _ x => unV op (evU Gl env x)
  | .convert _ t x => cvV P t (evU Gl env x)
  | .makeFunc fn _ caps => match fn with | .func f => .fn f (caps.toList.map (evU Gl env)) | _ => .undef
  | .makeSlice _ l _ => .osl σ.length 0 (evU Gl env l).num.toNat
  | .slice _ x lo hi _ => slV (loOf Gl env lo) (hiOf Gl env (evU Gl env x).len hi) (evU Gl env x)
  | .fieldAddr s x f => match tfld P s f with | some (o, _, _) => (evU Gl env x).shift o | none => .undef
  | .field s x f => match tfld P s f with | some (o, n, g) => (if g = true then (evU Gl env x).subV o n else (evU Gl env x).cellAt o) | none => .undef
  | .indexAddr t x i => match tidx P t with
    | some (none, es) => idxV es (evU Gl env i).num (evU Gl env x)
    | some (some _, es) => (evU Gl env x).shift ((evU Gl env i).num.toNat * es)
    | none => .undef
  | .index _ x i => .d (.int .u8 ((evU Gl env x).strOf.getD (evU Gl env i).num.toNat 0).toNat)
  | .extract t i => (evU Gl env t).tupAt i
  | .lookup t m k ok => match tmap P t with | some (_, e) => lkV σ (zeroV P e) (evU Gl env m) (evU Gl env k) ok | none => .undef
  | .makeMap _ _ => .mapr σ.length
  | .call c => match c.callee with | .builtin b => biV Gl σ env b c.args.toList | _ => .undef
  | _ => .undef

def opS (P : Program) (Gl : Globs) (σ : Sto) (env : Env) : Op → Sto
  | .alloc t => match tzero P t with | some z => σ ++ [.box (constV z).ncells (constV z)] | none => σ
  | .box _ x => σ ++ [.box (evU Gl env x).ncells (evU Gl env x)]
  | .buildSlice t n parts => match n with
    | 0 => σ ++ [.arr (apEs P t) []]
    | n + 1 => bslS P σ t (n + 1) (partsU Gl env parts)
  | .store t a x => match tsz P t with | some n => stS σ n (evU Gl env x) (evU Gl env a) | none => σ
  | .makeSlice t l _ => mkS P σ t (evU Gl env l)
  | .mapUpdate _ m k x => muS σ (keyOf (evU Gl env k)) (evU Gl env x) (evU Gl env m)
  | .insert _ m k x => muS σ (keyOf (evU Gl env k)) (evU Gl env x) (evU Gl env m)
  | .makeMap t _ => match tmap P t with | some (ik, _) => σ ++ [.map ik fun _ => none] | none => σ
  | .call c => match c.callee with | .builtin b => biS P Gl σ env b c.args.toList c.argTypes.toList | _ => σ
  | _ => σ

/-- the operands that an operation reads are there (under its guard) -/
def gdL (Gl : Globs) (env : Env) (g : Bool) : List Operand → Prop
  | [] => True
  | x :: r => (g = true → evG Gl env x = true) ∧ gdL Gl env g r
def gdOk (Gl : Globs) (env : Env) (g : Bool) : Op → Prop
  | .pick c a b => (g = true → evG Gl env c = true) ∧ (g = true → (evU Gl env c).truth = true → evG Gl env a = true) ∧ (g = true → (evU Gl env c).truth = false → evG Gl env b = true)
  | op => gdL Gl env g op.operands.toList

variable {w : World} {I : Im} {μ : Pos} {σ : Sto}

def GlOk (Gl : Globs) (w : World) (I : Im) : Prop := ∀ p ∈ Gl, SlAt w I p.1 0 p.2.cells.length [p.2]
theorem GlOk.keep {Gl : Globs} {m : Nat} {w' : World} {I' : Im} {μ' : Pos} {σ' : Sto} (h : GlOk Gl w I) (k : Keep m w I μ σ w' I' μ' σ') : GlOk Gl w' I' := fun p hp => (h p hp).keep k.imm k.rsame

/-- an operation's run is what it is worth -/
def Goes (r : Result Next) (w : World) (I : Im) (μ : Pos) (σ : Sto) (v : AV) (σ' : Sto) : Prop :=
  ∃ u w' I' μ', (r = .ok (.value u) w' ∨ (r = .ok .skip w' ∧ u = Go.undef)) ∧ Rel w' I' μ' σ' ∧ Keep σ.length w I μ σ w' I' μ' σ' ∧ RepV w' I' μ' σ' u v

theorem Goes.same {P : Program} {s : Sem Value} {u : Value} {v : AV} (h : Rel w I μ σ) (hr : s.run P w = .ok u w) (hv : RepV w I μ σ u v) : Goes ((do pure (.value (← s)) : Sem Next).run P w) w I μ σ v σ :=
  ⟨u, w, I, μ, .inl (by simp [hr]), h, Keep.refl _ _ _ _ (Nat.le_refl _), hv⟩
theorem Goes.of {P : Program} {s : Sem Value} {u : Value} {v : AV} {w' : World} {I' : Im} {μ' : Pos} {σ' : Sto} (hr : s.run P w = .ok u w') (h : Rel w' I' μ' σ') (k : Keep σ.length w I μ σ w' I' μ' σ') (hv : RepV w' I' μ' σ' u v) :
    Goes ((do pure (.value (← s)) : Sem Next).run P w) w I μ σ v σ' :=
  ⟨u, w', I', μ', .inl (by simp [hr]), h, k, hv⟩

end Go.AM
