/-
  The evaluator as rewriting rules. (The rules of the operations are written by a small program.)
-/
import Derived.Test.YtgebmgahfpnjaaaAm17
set_option linter.unnecessarySimpa false
set_option linter.unusedSectionVars false
set_option linter.unusedVariables false
namespace Go.AM
set_option linter.unusedSimpArgs false

section
variable {P : Program} {Gl : Globs} {n m : Nat} {env : Env} {σ : Sto} {K : AExit → Env → Sto → Prop} {all : Array Oper} {draw : Bool} {rest : List Oper} {KK : Env → Sto → Prop}

theorem evC_skip : evC P Gl n m .skip env σ K = K .normal env σ := rfl
theorem evC_region0 {id : Nat} {l : List Oper} : evC P Gl n m (.region id l.toArray false) env σ K = evOps P Gl n l.toArray false l env σ (K .normal) := by simp [evC]
theorem evC_region1 {id : Nat} {l : List Oper} : evC P Gl n m (.region id l.toArray true) env σ K = (drawChk l.toArray = true ∧ evOps P Gl n l.toArray true l env σ (K .normal)) := by simp [evC]
/-- what follows, not opened before it is reached -/
def seqK (P : Program) (Gl : Globs) (n m : Nat) (y : Code) (K : AExit → Env → Sto → Prop) (env : Env) (σ : Sto) : Prop := evC P Gl n m y env σ K
theorem seqK_app {y : Code} : seqK P Gl n m y K env σ = evC P Gl n m y env σ K := rfl
theorem evC_seq {x y : Code} : evC P Gl n m (.seq x y) env σ K = evC P Gl n m x env σ (thenK K (seqK P Gl n m y K)) := rfl
/-- two ways -/
def ifC (b : Bool) (X Y : Prop) : Prop := (b = true → X) ∧ (b = false → Y)
theorem ifC.mk {b : Bool} {X Y : Prop} (h1 : b = true → X) (h2 : b = false → Y) : ifC b X Y := ⟨h1, h2⟩
theorem ifC_true {X Y : Prop} : ifC true X Y = X := by simp [ifC]
theorem ifC_false {X Y : Prop} : ifC false X Y = Y := by simp [ifC]
theorem ifC_congr {b b' : Bool} {X Y : Prop} (h : b = b') : ifC b X Y = ifC b' X Y := by rw [h]
attribute [congr] ifC_congr
theorem evC_cond {c : Operand} {x y : Code} : evC P Gl n m (.cond c x y) env σ K = (evG Gl env c = true ∧ condK (evU Gl env c) (evC P Gl n m x env σ K) (evC P Gl n m y env σ K)) := rfl
theorem condK_bool {b : Bool} {X Y : Prop} : condK (.d (.bool b)) X Y = ifC b X Y := by cases b <;> simp [condK, AV.isBoolq, mayT, mayF, ifC]
theorem condK_any {X Y : Prop} : condK .anyb X Y = (X ∧ Y) := by simp [condK, AV.isBoolq, mayT, mayF]
theorem condK_congr {u u' : AV} {X Y : Prop} (h : u = u') : condK u X Y = condK u' X Y := by rw [h]
attribute [congr] condK_congr
theorem evC_block {id : Nat} {c : Code} : evC P Gl n m (.block id c) env σ K = evC P Gl n m c env σ (blockK id K) := rfl
theorem evC_exit {id : Nat} : evC P Gl n m (.exit id) env σ K = K (.exit id) env σ := rfl
theorem evC_ret : evC P Gl n m .ret env σ K = K .ret env σ := rfl
theorem thenK_normal {f : Env → Sto → Prop} : thenK K f .normal env σ = f env σ := rfl
theorem thenK_exit {f : Env → Sto → Prop} {i : Nat} : thenK K f (.exit i) env σ = K (.exit i) env σ := rfl
theorem thenK_ret {f : Env → Sto → Prop} : thenK K f .ret env σ = K .ret env σ := rfl
theorem blockK_exit {i id : Nat} : blockK id K (.exit i) env σ = if i = id then K .normal env σ else K (.exit i) env σ := rfl
theorem blockK_normal {id : Nat} : blockK id K .normal env σ = K .normal env σ := rfl
theorem blockK_ret {id : Nat} : blockK id K .ret env σ = K .ret env σ := rfl

/-- the rest of a region behind a call -/
def callF (P : Program) (Gl : Globs) (n : Nat) (all : Array Oper) (draw : Bool) (dst : Option Tmp) (rest : List Oper) (fv : AV) (as : List AV) (env : Env) (σ : Sto) (K : Env → Sto → Prop) : Prop :=
  match fv with
  | .fn f caps => if draw = true then ∃ r0, (∀ s, Ext σ s → ACalls P Gl f (as ++ caps) s (fun r σ' => r = r0 ∧ σ' = s)) ∧ evOps P Gl n all draw rest (putE env dst r0) σ K
    else ACalls P Gl f (as ++ caps) σ (fun r σ' => evOps P Gl n all draw rest (putE env dst r) σ' K)
  | _ => False
/-- the rest of a region behind a call under a guard -/
def callG (P : Program) (Gl : Globs) (n : Nat) (all : Array Oper) (draw : Bool) (dst : Option Tmp) (rest : List Oper) (g : Bool) (fv : AV) (as : List AV) (env : Env) (σ : Sto) (K : Env → Sto → Prop) : Prop :=
  ∃ r0, (g = true → match fv with | .fn f caps => ∀ s, Ext σ s → ACalls P Gl f (as ++ caps) s (fun r σ' => r = r0 ∧ σ' = s) | _ => False) ∧ evOps P Gl n all draw rest (putE env dst (.iff g r0)) σ K

theorem callF_of {f : FuncId} {as caps : List AV} {v : AV} {dst : Option Tmp} (h : ∀ s, ACalls P Gl f (as ++ caps) s (fun r s' => r = v ∧ s' = s)) (h2 : evOps P Gl n all draw rest (putE env dst v) σ KK) : callF P Gl n all draw dst rest (.fn f caps) as env σ KK := by
  cases draw with
  | true => exact ⟨v, fun s _ => h s, h2⟩
  | false =>
    refine (h σ).mono fun r s ⟨e1, e2⟩ => ?_
    subst e1; subst e2; exact h2
theorem callF_go {f : FuncId} {as caps : List AV} {dst : Option Tmp} (h : ACalls P Gl f (as ++ caps) σ (fun r σ' => evOps P Gl n all false rest (putE env dst r) σ' KK)) : callF P Gl n all false dst rest (.fn f caps) as env σ KK := h
theorem callG_of {f : FuncId} {as caps : List AV} {v : AV} {dst : Option Tmp} {g : Bool} (h : g = true → ∀ s, ACalls P Gl f (as ++ caps) s (fun r s' => r = v ∧ s' = s)) (h2 : evOps P Gl n all draw rest (putE env dst (.iff g v)) σ KK) : callG P Gl n all draw dst rest g (.fn f caps) as env σ KK :=
  ⟨v, fun hg s _ => h hg s, h2⟩

theorem evOps_nil : evOps P Gl n all draw [] env σ KK = KK env σ := rfl

/-- only the state is simplified, not the code nor what follows -/
theorem evOps_congr {env' : Env} {σ' : Sto} (h1 : env = env') (h2 : σ = σ') : evOps P Gl n all draw rest env σ KK = evOps P Gl n all draw rest env' σ' KK := by rw [h1, h2]
theorem evC_congr {c : Code} {env' : Env} {σ' : Sto} (h1 : env = env') (h2 : σ = σ') : evC P Gl n m c env σ K = evC P Gl n m c env' σ' K := by rw [h1, h2]
theorem callF_congr {dst : Option Tmp} {fv fv' : AV} {as as' : List AV} {env' : Env} {σ' : Sto} (h0 : fv = fv') (h3 : as = as') (h1 : env = env') (h2 : σ = σ') : callF P Gl n all draw dst rest fv as env σ KK = callF P Gl n all draw dst rest fv' as' env' σ' KK := by rw [h0, h3, h1, h2]
theorem callG_congr {dst : Option Tmp} {g g' : Bool} {fv fv' : AV} {as as' : List AV} {env' : Env} {σ' : Sto} (h4 : g = g') (h0 : fv = fv') (h3 : as = as') (h1 : env = env') (h2 : σ = σ') : callG P Gl n all draw dst rest g fv as env σ KK = callG P Gl n all draw dst rest g' fv' as' env' σ' KK := by rw [h0, h3, h1, h2, h4]
attribute [congr] evOps_congr evC_congr callF_congr callG_congr

section
variable {dst : Option Tmp} {ty : TypeId} {pos : String} {af : Array Edge}

theorem o_move (x : Operand) : evOps P Gl n all draw (⟨dst, .move x, ty, pos, af, none⟩ :: rest) env σ KK = (dstIn n dst = true ∧ evG Gl env x = true ∧ opOk P Gl σ env (.move x) ∧ evOps P Gl n all draw rest (putE env dst (opV P Gl σ env (.move x))) (opS P Gl σ env (.move x)) KK) := by
  simp [evOps, isCall, gdOk, gdL, Op.operands, and_assoc]
theorem g_move (x : Operand) {j : Nat} {b : Bool} : evOps P Gl n all draw (⟨dst, .move x, ty, pos, af, some (j, b)⟩ :: rest) env σ KK = (dstIn n dst = true ∧ slotBool (gSlot all env j) = true ∧ (slotTest (gSlot all env j) b = true → evG Gl env x = true) ∧ (slotTest (gSlot all env j) b = true → opOk P Gl σ env (.move x)) ∧ evOps P Gl n all draw rest (putE env dst (.iff (slotTest (gSlot all env j) b) (opV P Gl σ env (.move x)))) σ KK) := by
  simp [evOps, isCall, gdOk, gdL, Op.operands, quietOp, and_assoc]
theorem o_assign (x : Operand) : evOps P Gl n all draw (⟨dst, .assign x, ty, pos, af, none⟩ :: rest) env σ KK = (dstIn n dst = true ∧ evG Gl env x = true ∧ opOk P Gl σ env (.assign x) ∧ evOps P Gl n all draw rest (putE env dst (opV P Gl σ env (.assign x))) (opS P Gl σ env (.assign x)) KK) := by
  simp [evOps, isCall, gdOk, gdL, Op.operands, and_assoc]
theorem g_assign (x : Operand) {j : Nat} {b : Bool} : evOps P Gl n all draw (⟨dst, .assign x, ty, pos, af, some (j, b)⟩ :: rest) env σ KK = (dstIn n dst = true ∧ slotBool (gSlot all env j) = true ∧ (slotTest (gSlot all env j) b = true → evG Gl env x = true) ∧ (slotTest (gSlot all env j) b = true → opOk P Gl σ env (.assign x)) ∧ evOps P Gl n all draw rest (putE env dst (.iff (slotTest (gSlot all env j) b) (opV P Gl σ env (.assign x)))) σ KK) := by
  simp [evOps, isCall, gdOk, gdL, Op.operands, quietOp, and_assoc]
theorem o_alloc (t : TypeId) : evOps P Gl n all draw (⟨dst, .alloc t, ty, pos, af, none⟩ :: rest) env σ KK = (dstIn n dst = true ∧ opOk P Gl σ env (.alloc t) ∧ evOps P Gl n all draw rest (putE env dst (opV P Gl σ env (.alloc t))) (opS P Gl σ env (.alloc t)) KK) := by
  simp [evOps, isCall, gdOk, gdL, Op.operands, and_assoc]
theorem o_box (t : TypeId) (x : Operand) : evOps P Gl n all draw (⟨dst, .box t x, ty, pos, af, none⟩ :: rest) env σ KK = (dstIn n dst = true ∧ evG Gl env x = true ∧ opOk P Gl σ env (.box t x) ∧ evOps P Gl n all draw rest (putE env dst (opV P Gl σ env (.box t x))) (opS P Gl σ env (.box t x)) KK) := by
  simp [evOps, isCall, gdOk, gdL, Op.operands, and_assoc]
theorem o_load (t : TypeId) (x : Operand) : evOps P Gl n all draw (⟨dst, .load t x, ty, pos, af, none⟩ :: rest) env σ KK = (dstIn n dst = true ∧ evG Gl env x = true ∧ opOk P Gl σ env (.load t x) ∧ evOps P Gl n all draw rest (putE env dst (opV P Gl σ env (.load t x))) (opS P Gl σ env (.load t x)) KK) := by
  simp [evOps, isCall, gdOk, gdL, Op.operands, and_assoc]
theorem g_load (t : TypeId) (x : Operand) {j : Nat} {b : Bool} : evOps P Gl n all draw (⟨dst, .load t x, ty, pos, af, some (j, b)⟩ :: rest) env σ KK = (dstIn n dst = true ∧ slotBool (gSlot all env j) = true ∧ (slotTest (gSlot all env j) b = true → evG Gl env x = true) ∧ (slotTest (gSlot all env j) b = true → opOk P Gl σ env (.load t x)) ∧ evOps P Gl n all draw rest (putE env dst (.iff (slotTest (gSlot all env j) b) (opV P Gl σ env (.load t x)))) σ KK) := by
  simp [evOps, isCall, gdOk, gdL, Op.operands, quietOp, and_assoc]
theorem o_store (t : TypeId) (x y : Operand) : evOps P Gl n all draw (⟨dst, .store t x y, ty, pos, af, none⟩ :: rest) env σ KK = (dstIn n dst = true ∧ evG Gl env x = true ∧ evG Gl env y = true ∧ opOk P Gl σ env (.store t x y) ∧ evOps P Gl n all draw rest (putE env dst (opV P Gl σ env (.store t x y))) (opS P Gl σ env (.store t x y)) KK) := by
  simp [evOps, isCall, gdOk, gdL, Op.operands, and_assoc]
theorem o_nilCheck (x : Operand) : evOps P Gl n all draw (⟨dst, .nilCheck x, ty, pos, af, none⟩ :: rest) env σ KK = (dstIn n dst = true ∧ evG Gl env x = true ∧ opOk P Gl σ env (.nilCheck x) ∧ evOps P Gl n all draw rest (putE env dst (opV P Gl σ env (.nilCheck x))) (opS P Gl σ env (.nilCheck x)) KK) := by
  simp [evOps, isCall, gdOk, gdL, Op.operands, and_assoc]
theorem g_nilCheck (x : Operand) {j : Nat} {b : Bool} : evOps P Gl n all draw (⟨dst, .nilCheck x, ty, pos, af, some (j, b)⟩ :: rest) env σ KK = (dstIn n dst = true ∧ slotBool (gSlot all env j) = true ∧ (slotTest (gSlot all env j) b = true → evG Gl env x = true) ∧ (slotTest (gSlot all env j) b = true → opOk P Gl σ env (.nilCheck x)) ∧ evOps P Gl n all draw rest (putE env dst (.iff (slotTest (gSlot all env j) b) (opV P Gl σ env (.nilCheck x)))) σ KK) := by
  simp [evOps, isCall, gdOk, gdL, Op.operands, quietOp, and_assoc]
theorem o_binOp (o : BinOp) (t u : TypeId) (x y : Operand) : evOps P Gl n all draw (⟨dst, .binOp o t x y u, ty, pos, af, none⟩ :: rest) env σ KK = (dstIn n dst = true ∧ evG Gl env x = true ∧ evG Gl env y = true ∧ opOk P Gl σ env (.binOp o t x y u) ∧ evOps P Gl n all draw rest (putE env dst (opV P Gl σ env (.binOp o t x y u))) (opS P Gl σ env (.binOp o t x y u)) KK) := by
  simp [evOps, isCall, gdOk, gdL, Op.operands, and_assoc]
theorem g_binOp (o : BinOp) (t u : TypeId) (x y : Operand) {j : Nat} {b : Bool} : evOps P Gl n all draw (⟨dst, .binOp o t x y u, ty, pos, af, some (j, b)⟩ :: rest) env σ KK = (dstIn n dst = true ∧ slotBool (gSlot all env j) = true ∧ (slotTest (gSlot all env j) b = true → evG Gl env x = true) ∧ (slotTest (gSlot all env j) b = true → evG Gl env y = true) ∧ (slotTest (gSlot all env j) b = true → opOk P Gl σ env (.binOp o t x y u)) ∧ evOps P Gl n all draw rest (putE env dst (.iff (slotTest (gSlot all env j) b) (opV P Gl σ env (.binOp o t x y u)))) σ KK) := by
  simp [evOps, isCall, gdOk, gdL, Op.operands, quietOp, and_assoc]
theorem o_unOp (o : UnOp) (t : TypeId) (x : Operand) : evOps P Gl n all draw (⟨dst, .unOp o t x, ty, pos, af, none⟩ :: rest) env σ KK = (dstIn n dst = true ∧ evG Gl env x = true ∧ opOk P Gl σ env (.unOp o t x) ∧ evOps P Gl n all draw rest (putE env dst (opV P Gl σ env (.unOp o t x))) (opS P Gl σ env (.unOp o t x)) KK) := by
  simp [evOps, isCall, gdOk, gdL, Op.operands, and_assoc]
theorem g_unOp (o : UnOp) (t : TypeId) (x : Operand) {j : Nat} {b : Bool} : evOps P Gl n all draw (⟨dst, .unOp o t x, ty, pos, af, some (j, b)⟩ :: rest) env σ KK = (dstIn n dst = true ∧ slotBool (gSlot all env j) = true ∧ (slotTest (gSlot all env j) b = true → evG Gl env x = true) ∧ (slotTest (gSlot all env j) b = true → opOk P Gl σ env (.unOp o t x)) ∧ evOps P Gl n all draw rest (putE env dst (.iff (slotTest (gSlot all env j) b) (opV P Gl σ env (.unOp o t x)))) σ KK) := by
  simp [evOps, isCall, gdOk, gdL, Op.operands, quietOp, and_assoc]
theorem o_convert (s t : TypeId) (x : Operand) : evOps P Gl n all draw (⟨dst, .convert s t x, ty, pos, af, none⟩ :: rest) env σ KK = (dstIn n dst = true ∧ evG Gl env x = true ∧ opOk P Gl σ env (.convert s t x) ∧ evOps P Gl n all draw rest (putE env dst (opV P Gl σ env (.convert s t x))) (opS P Gl σ env (.convert s t x)) KK) := by
  simp [evOps, isCall, gdOk, gdL, Op.operands, and_assoc]
theorem g_convert (s t : TypeId) (x : Operand) {j : Nat} {b : Bool} : evOps P Gl n all draw (⟨dst, .convert s t x, ty, pos, af, some (j, b)⟩ :: rest) env σ KK = (dstIn n dst = true ∧ slotBool (gSlot all env j) = true ∧ (slotTest (gSlot all env j) b = true → evG Gl env x = true) ∧ (slotTest (gSlot all env j) b = true → opOk P Gl σ env (.convert s t x)) ∧ evOps P Gl n all draw rest (putE env dst (.iff (slotTest (gSlot all env j) b) (opV P Gl σ env (.convert s t x)))) σ KK) := by
  simp [evOps, isCall, gdOk, gdL, Op.operands, quietOp, and_assoc]
theorem o_makeSlice (t : TypeId) (x y : Operand) : evOps P Gl n all draw (⟨dst, .makeSlice t x y, ty, pos, af, none⟩ :: rest) env σ KK = (dstIn n dst = true ∧ evG Gl env x = true ∧ evG Gl env y = true ∧ opOk P Gl σ env (.makeSlice t x y) ∧ evOps P Gl n all draw rest (putE env dst (opV P Gl σ env (.makeSlice t x y))) (opS P Gl σ env (.makeSlice t x y)) KK) := by
  simp [evOps, isCall, gdOk, gdL, Op.operands, and_assoc]
theorem o_slice00 (t : TypeId) (x : Operand) : evOps P Gl n all draw (⟨dst, .slice t x none none none, ty, pos, af, none⟩ :: rest) env σ KK = (dstIn n dst = true ∧ evG Gl env x = true ∧ opOk P Gl σ env (.slice t x none none none) ∧ evOps P Gl n all draw rest (putE env dst (opV P Gl σ env (.slice t x none none none))) (opS P Gl σ env (.slice t x none none none)) KK) := by
  simp [evOps, isCall, gdOk, gdL, Op.operands, and_assoc]
theorem g_slice00 (t : TypeId) (x : Operand) {j : Nat} {b : Bool} : evOps P Gl n all draw (⟨dst, .slice t x none none none, ty, pos, af, some (j, b)⟩ :: rest) env σ KK = (dstIn n dst = true ∧ slotBool (gSlot all env j) = true ∧ (slotTest (gSlot all env j) b = true → evG Gl env x = true) ∧ (slotTest (gSlot all env j) b = true → opOk P Gl σ env (.slice t x none none none)) ∧ evOps P Gl n all draw rest (putE env dst (.iff (slotTest (gSlot all env j) b) (opV P Gl σ env (.slice t x none none none)))) σ KK) := by
  simp [evOps, isCall, gdOk, gdL, Op.operands, quietOp, and_assoc]
theorem o_slice10 (t : TypeId) (x y : Operand) : evOps P Gl n all draw (⟨dst, .slice t x (some y) none none, ty, pos, af, none⟩ :: rest) env σ KK = (dstIn n dst = true ∧ evG Gl env x = true ∧ evG Gl env y = true ∧ opOk P Gl σ env (.slice t x (some y) none none) ∧ evOps P Gl n all draw rest (putE env dst (opV P Gl σ env (.slice t x (some y) none none))) (opS P Gl σ env (.slice t x (some y) none none)) KK) := by
  simp [evOps, isCall, gdOk, gdL, Op.operands, and_assoc]
theorem g_slice10 (t : TypeId) (x y : Operand) {j : Nat} {b : Bool} : evOps P Gl n all draw (⟨dst, .slice t x (some y) none none, ty, pos, af, some (j, b)⟩ :: rest) env σ KK = (dstIn n dst = true ∧ slotBool (gSlot all env j) = true ∧ (slotTest (gSlot all env j) b = true → evG Gl env x = true) ∧ (slotTest (gSlot all env j) b = true → evG Gl env y = true) ∧ (slotTest (gSlot all env j) b = true → opOk P Gl σ env (.slice t x (some y) none none)) ∧ evOps P Gl n all draw rest (putE env dst (.iff (slotTest (gSlot all env j) b) (opV P Gl σ env (.slice t x (some y) none none)))) σ KK) := by
  simp [evOps, isCall, gdOk, gdL, Op.operands, quietOp, and_assoc]
theorem o_slice01 (t : TypeId) (x y : Operand) : evOps P Gl n all draw (⟨dst, .slice t x none (some y) none, ty, pos, af, none⟩ :: rest) env σ KK = (dstIn n dst = true ∧ evG Gl env x = true ∧ evG Gl env y = true ∧ opOk P Gl σ env (.slice t x none (some y) none) ∧ evOps P Gl n all draw rest (putE env dst (opV P Gl σ env (.slice t x none (some y) none))) (opS P Gl σ env (.slice t x none (some y) none)) KK) := by
  simp [evOps, isCall, gdOk, gdL, Op.operands, and_assoc]
theorem g_slice01 (t : TypeId) (x y : Operand) {j : Nat} {b : Bool} : evOps P Gl n all draw (⟨dst, .slice t x none (some y) none, ty, pos, af, some (j, b)⟩ :: rest) env σ KK = (dstIn n dst = true ∧ slotBool (gSlot all env j) = true ∧ (slotTest (gSlot all env j) b = true → evG Gl env x = true) ∧ (slotTest (gSlot all env j) b = true → evG Gl env y = true) ∧ (slotTest (gSlot all env j) b = true → opOk P Gl σ env (.slice t x none (some y) none)) ∧ evOps P Gl n all draw rest (putE env dst (.iff (slotTest (gSlot all env j) b) (opV P Gl σ env (.slice t x none (some y) none)))) σ KK) := by
  simp [evOps, isCall, gdOk, gdL, Op.operands, quietOp, and_assoc]
theorem o_slice11 (t : TypeId) (x y z : Operand) : evOps P Gl n all draw (⟨dst, .slice t x (some y) (some z) none, ty, pos, af, none⟩ :: rest) env σ KK = (dstIn n dst = true ∧ evG Gl env x = true ∧ evG Gl env y = true ∧ evG Gl env z = true ∧ opOk P Gl σ env (.slice t x (some y) (some z) none) ∧ evOps P Gl n all draw rest (putE env dst (opV P Gl σ env (.slice t x (some y) (some z) none))) (opS P Gl σ env (.slice t x (some y) (some z) none)) KK) := by
  simp [evOps, isCall, gdOk, gdL, Op.operands, and_assoc]
theorem g_slice11 (t : TypeId) (x y z : Operand) {j : Nat} {b : Bool} : evOps P Gl n all draw (⟨dst, .slice t x (some y) (some z) none, ty, pos, af, some (j, b)⟩ :: rest) env σ KK = (dstIn n dst = true ∧ slotBool (gSlot all env j) = true ∧ (slotTest (gSlot all env j) b = true → evG Gl env x = true) ∧ (slotTest (gSlot all env j) b = true → evG Gl env y = true) ∧ (slotTest (gSlot all env j) b = true → evG Gl env z = true) ∧ (slotTest (gSlot all env j) b = true → opOk P Gl σ env (.slice t x (some y) (some z) none)) ∧ evOps P Gl n all draw rest (putE env dst (.iff (slotTest (gSlot all env j) b) (opV P Gl σ env (.slice t x (some y) (some z) none)))) σ KK) := by
  simp [evOps, isCall, gdOk, gdL, Op.operands, quietOp, and_assoc]
theorem o_fieldAddr (s : TypeId) (x : Operand) (f : Nat) : evOps P Gl n all draw (⟨dst, .fieldAddr s x f, ty, pos, af, none⟩ :: rest) env σ KK = (dstIn n dst = true ∧ evG Gl env x = true ∧ opOk P Gl σ env (.fieldAddr s x f) ∧ evOps P Gl n all draw rest (putE env dst (opV P Gl σ env (.fieldAddr s x f))) (opS P Gl σ env (.fieldAddr s x f)) KK) := by
  simp [evOps, isCall, gdOk, gdL, Op.operands, and_assoc]
theorem g_fieldAddr (s : TypeId) (x : Operand) (f : Nat) {j : Nat} {b : Bool} : evOps P Gl n all draw (⟨dst, .fieldAddr s x f, ty, pos, af, some (j, b)⟩ :: rest) env σ KK = (dstIn n dst = true ∧ slotBool (gSlot all env j) = true ∧ (slotTest (gSlot all env j) b = true → evG Gl env x = true) ∧ (slotTest (gSlot all env j) b = true → opOk P Gl σ env (.fieldAddr s x f)) ∧ evOps P Gl n all draw rest (putE env dst (.iff (slotTest (gSlot all env j) b) (opV P Gl σ env (.fieldAddr s x f)))) σ KK) := by
  simp [evOps, isCall, gdOk, gdL, Op.operands, quietOp, and_assoc]
theorem o_field (s : TypeId) (x : Operand) (f : Nat) : evOps P Gl n all draw (⟨dst, .field s x f, ty, pos, af, none⟩ :: rest) env σ KK = (dstIn n dst = true ∧ evG Gl env x = true ∧ opOk P Gl σ env (.field s x f) ∧ evOps P Gl n all draw rest (putE env dst (opV P Gl σ env (.field s x f))) (opS P Gl σ env (.field s x f)) KK) := by
  simp [evOps, isCall, gdOk, gdL, Op.operands, and_assoc]
theorem g_field (s : TypeId) (x : Operand) (f : Nat) {j : Nat} {b : Bool} : evOps P Gl n all draw (⟨dst, .field s x f, ty, pos, af, some (j, b)⟩ :: rest) env σ KK = (dstIn n dst = true ∧ slotBool (gSlot all env j) = true ∧ (slotTest (gSlot all env j) b = true → evG Gl env x = true) ∧ (slotTest (gSlot all env j) b = true → opOk P Gl σ env (.field s x f)) ∧ evOps P Gl n all draw rest (putE env dst (.iff (slotTest (gSlot all env j) b) (opV P Gl σ env (.field s x f)))) σ KK) := by
  simp [evOps, isCall, gdOk, gdL, Op.operands, quietOp, and_assoc]
theorem o_indexAddr (t : TypeId) (x y : Operand) : evOps P Gl n all draw (⟨dst, .indexAddr t x y, ty, pos, af, none⟩ :: rest) env σ KK = (dstIn n dst = true ∧ evG Gl env x = true ∧ evG Gl env y = true ∧ opOk P Gl σ env (.indexAddr t x y) ∧ evOps P Gl n all draw rest (putE env dst (opV P Gl σ env (.indexAddr t x y))) (opS P Gl σ env (.indexAddr t x y)) KK) := by
  simp [evOps, isCall, gdOk, gdL, Op.operands, and_assoc]
theorem g_indexAddr (t : TypeId) (x y : Operand) {j : Nat} {b : Bool} : evOps P Gl n all draw (⟨dst, .indexAddr t x y, ty, pos, af, some (j, b)⟩ :: rest) env σ KK = (dstIn n dst = true ∧ slotBool (gSlot all env j) = true ∧ (slotTest (gSlot all env j) b = true → evG Gl env x = true) ∧ (slotTest (gSlot all env j) b = true → evG Gl env y = true) ∧ (slotTest (gSlot all env j) b = true → opOk P Gl σ env (.indexAddr t x y)) ∧ evOps P Gl n all draw rest (putE env dst (.iff (slotTest (gSlot all env j) b) (opV P Gl σ env (.indexAddr t x y)))) σ KK) := by
  simp [evOps, isCall, gdOk, gdL, Op.operands, quietOp, and_assoc]
theorem o_index (t : TypeId) (x y : Operand) : evOps P Gl n all draw (⟨dst, .index t x y, ty, pos, af, none⟩ :: rest) env σ KK = (dstIn n dst = true ∧ evG Gl env x = true ∧ evG Gl env y = true ∧ opOk P Gl σ env (.index t x y) ∧ evOps P Gl n all draw rest (putE env dst (opV P Gl σ env (.index t x y))) (opS P Gl σ env (.index t x y)) KK) := by
  simp [evOps, isCall, gdOk, gdL, Op.operands, and_assoc]
theorem g_index (t : TypeId) (x y : Operand) {j : Nat} {b : Bool} : evOps P Gl n all draw (⟨dst, .index t x y, ty, pos, af, some (j, b)⟩ :: rest) env σ KK = (dstIn n dst = true ∧ slotBool (gSlot all env j) = true ∧ (slotTest (gSlot all env j) b = true → evG Gl env x = true) ∧ (slotTest (gSlot all env j) b = true → evG Gl env y = true) ∧ (slotTest (gSlot all env j) b = true → opOk P Gl σ env (.index t x y)) ∧ evOps P Gl n all draw rest (putE env dst (.iff (slotTest (gSlot all env j) b) (opV P Gl σ env (.index t x y)))) σ KK) := by
  simp [evOps, isCall, gdOk, gdL, Op.operands, quietOp, and_assoc]
theorem o_extract (x : Operand) (i : Nat) : evOps P Gl n all draw (⟨dst, .extract x i, ty, pos, af, none⟩ :: rest) env σ KK = (dstIn n dst = true ∧ evG Gl env x = true ∧ opOk P Gl σ env (.extract x i) ∧ evOps P Gl n all draw rest (putE env dst (opV P Gl σ env (.extract x i))) (opS P Gl σ env (.extract x i)) KK) := by
  simp [evOps, isCall, gdOk, gdL, Op.operands, and_assoc]
theorem g_extract (x : Operand) (i : Nat) {j : Nat} {b : Bool} : evOps P Gl n all draw (⟨dst, .extract x i, ty, pos, af, some (j, b)⟩ :: rest) env σ KK = (dstIn n dst = true ∧ slotBool (gSlot all env j) = true ∧ (slotTest (gSlot all env j) b = true → evG Gl env x = true) ∧ (slotTest (gSlot all env j) b = true → opOk P Gl σ env (.extract x i)) ∧ evOps P Gl n all draw rest (putE env dst (.iff (slotTest (gSlot all env j) b) (opV P Gl σ env (.extract x i)))) σ KK) := by
  simp [evOps, isCall, gdOk, gdL, Op.operands, quietOp, and_assoc]
theorem o_lookup (t : TypeId) (x y : Operand) (k : Bool) : evOps P Gl n all draw (⟨dst, .lookup t x y k, ty, pos, af, none⟩ :: rest) env σ KK = (dstIn n dst = true ∧ evG Gl env x = true ∧ evG Gl env y = true ∧ opOk P Gl σ env (.lookup t x y k) ∧ evOps P Gl n all draw rest (putE env dst (opV P Gl σ env (.lookup t x y k))) (opS P Gl σ env (.lookup t x y k)) KK) := by
  simp [evOps, isCall, gdOk, gdL, Op.operands, and_assoc]
theorem g_lookup (t : TypeId) (x y : Operand) (k : Bool) {j : Nat} {b : Bool} : evOps P Gl n all draw (⟨dst, .lookup t x y k, ty, pos, af, some (j, b)⟩ :: rest) env σ KK = (dstIn n dst = true ∧ slotBool (gSlot all env j) = true ∧ (slotTest (gSlot all env j) b = true → evG Gl env x = true) ∧ (slotTest (gSlot all env j) b = true → evG Gl env y = true) ∧ (slotTest (gSlot all env j) b = true → opOk P Gl σ env (.lookup t x y k)) ∧ evOps P Gl n all draw rest (putE env dst (.iff (slotTest (gSlot all env j) b) (opV P Gl σ env (.lookup t x y k)))) σ KK) := by
  simp [evOps, isCall, gdOk, gdL, Op.operands, quietOp, and_assoc]
theorem o_mapUpdate (t : TypeId) (x y z : Operand) : evOps P Gl n all draw (⟨dst, .mapUpdate t x y z, ty, pos, af, none⟩ :: rest) env σ KK = (dstIn n dst = true ∧ evG Gl env x = true ∧ evG Gl env y = true ∧ evG Gl env z = true ∧ opOk P Gl σ env (.mapUpdate t x y z) ∧ evOps P Gl n all draw rest (putE env dst (opV P Gl σ env (.mapUpdate t x y z))) (opS P Gl σ env (.mapUpdate t x y z)) KK) := by
  simp [evOps, isCall, gdOk, gdL, Op.operands, and_assoc]
theorem o_insert (t : TypeId) (x y z : Operand) : evOps P Gl n all draw (⟨dst, .insert t x y z, ty, pos, af, none⟩ :: rest) env σ KK = (dstIn n dst = true ∧ evG Gl env x = true ∧ evG Gl env y = true ∧ evG Gl env z = true ∧ opOk P Gl σ env (.insert t x y z) ∧ evOps P Gl n all draw rest (putE env dst (opV P Gl σ env (.insert t x y z))) (opS P Gl σ env (.insert t x y z)) KK) := by
  simp [evOps, isCall, gdOk, gdL, Op.operands, and_assoc]
theorem o_makeMap (t : TypeId) : evOps P Gl n all draw (⟨dst, .makeMap t none, ty, pos, af, none⟩ :: rest) env σ KK = (dstIn n dst = true ∧ opOk P Gl σ env (.makeMap t none) ∧ evOps P Gl n all draw rest (putE env dst (opV P Gl σ env (.makeMap t none))) (opS P Gl σ env (.makeMap t none)) KK) := by
  simp [evOps, isCall, gdOk, gdL, Op.operands, and_assoc]
theorem o_pick (c x y : Operand) : evOps P Gl n all draw (⟨dst, .pick c x y, ty, pos, af, none⟩ :: rest) env σ KK = (dstIn n dst = true ∧ evG Gl env c = true ∧ ((evU Gl env c).truth = true → evG Gl env x = true) ∧ ((evU Gl env c).truth = false → evG Gl env y = true) ∧ (evU Gl env c).isBoolv = true ∧
    evOps P Gl n all draw rest (putE env dst (pickV (evU Gl env c).truth (evU Gl env x) (evU Gl env y))) σ KK) := by
  simp [evOps, isCall, gdOk, opOk, opV, opS, and_assoc]
theorem g_pick (c x y : Operand) {j : Nat} {b : Bool} : evOps P Gl n all draw (⟨dst, .pick c x y, ty, pos, af, some (j, b)⟩ :: rest) env σ KK = (dstIn n dst = true ∧ slotBool (gSlot all env j) = true ∧ (slotTest (gSlot all env j) b = true → evG Gl env c = true) ∧
    (slotTest (gSlot all env j) b = true → (evU Gl env c).truth = true → evG Gl env x = true) ∧ (slotTest (gSlot all env j) b = true → (evU Gl env c).truth = false → evG Gl env y = true) ∧ (slotTest (gSlot all env j) b = true → (evU Gl env c).isBoolv = true) ∧
    evOps P Gl n all draw rest (putE env dst (.iff (slotTest (gSlot all env j) b) (pickV (evU Gl env c).truth (evU Gl env x) (evU Gl env y)))) σ KK) := by
  simp [evOps, isCall, gdOk, opOk, opV, quietOp, and_assoc]
theorem o_build (t : TypeId) (l : List (Nat × Operand)) : evOps P Gl n all draw (⟨dst, .build t l.toArray, ty, pos, af, none⟩ :: rest) env σ KK = (dstIn n dst = true ∧ gdL Gl env true (l.map (·.2)) ∧ opOk P Gl σ env (.build t l.toArray) ∧
    evOps P Gl n all draw rest (putE env dst (opV P Gl σ env (.build t l.toArray))) σ KK) := by
  simp [evOps, isCall, gdOk, Op.operands, opS]
theorem g_build (t : TypeId) (l : List (Nat × Operand)) {j : Nat} {b : Bool} : evOps P Gl n all draw (⟨dst, .build t l.toArray, ty, pos, af, some (j, b)⟩ :: rest) env σ KK = (dstIn n dst = true ∧ slotBool (gSlot all env j) = true ∧ gdL Gl env (slotTest (gSlot all env j) b) (l.map (·.2)) ∧ (slotTest (gSlot all env j) b = true → opOk P Gl σ env (.build t l.toArray)) ∧
    evOps P Gl n all draw rest (putE env dst (.iff (slotTest (gSlot all env j) b) (opV P Gl σ env (.build t l.toArray)))) σ KK) := by
  simp [evOps, isCall, gdOk, Op.operands, quietOp]
theorem o_buildSlice (t : TypeId) (k : Nat) (l : List (Nat × Operand)) : evOps P Gl n all draw (⟨dst, .buildSlice t k l.toArray, ty, pos, af, none⟩ :: rest) env σ KK = (dstIn n dst = true ∧ gdL Gl env true (l.map (·.2)) ∧ opOk P Gl σ env (.buildSlice t k l.toArray) ∧
    evOps P Gl n all draw rest (putE env dst (opV P Gl σ env (.buildSlice t k l.toArray))) (opS P Gl σ env (.buildSlice t k l.toArray)) KK) := by
  simp [evOps, isCall, gdOk, Op.operands]
theorem o_makeFunc (f : FuncId) (l : List Operand) : evOps P Gl n all draw (⟨dst, .makeFunc (.func f) #[] l.toArray, ty, pos, af, none⟩ :: rest) env σ KK = (dstIn n dst = true ∧ gdL Gl env true l ∧
    evOps P Gl n all draw rest (putE env dst (.fn f (l.map (evU Gl env)))) σ KK) := by
  simp [evOps, isCall, gdOk, Op.operands, opOk, opV, opS]
theorem o_builtin (bi : Builtin) (l : List Operand) (ts : List TypeId) : evOps P Gl n all draw (⟨dst, .call ⟨.builtin bi, l.toArray, ts.toArray⟩, ty, pos, af, none⟩ :: rest) env σ KK = (dstIn n dst = true ∧ gdL Gl env true l ∧ biOk P Gl σ env bi l ts ∧
    evOps P Gl n all draw rest (putE env dst (biV Gl σ env bi l)) (biS P Gl σ env bi l ts) KK) := by
  simp [evOps, isCall, gdOk, Op.operands, Call.operands, opOk, opV, opS]
theorem g_builtin (bi : Builtin) (l : List Operand) (ts : List TypeId) {j : Nat} {b : Bool} : evOps P Gl n all draw (⟨dst, .call ⟨.builtin bi, l.toArray, ts.toArray⟩, ty, pos, af, some (j, b)⟩ :: rest) env σ KK = (dstIn n dst = true ∧ quietOp (.call ⟨.builtin bi, l.toArray, ts.toArray⟩) = true ∧ slotBool (gSlot all env j) = true ∧
    gdL Gl env (slotTest (gSlot all env j) b) l ∧ (slotTest (gSlot all env j) b = true → biOk P Gl σ env bi l ts) ∧ evOps P Gl n all draw rest (putE env dst (.iff (slotTest (gSlot all env j) b) (biV Gl σ env bi l))) σ KK) := by
  simp [evOps, isCall, gdOk, Op.operands, Call.operands, opOk, opV]
theorem o_call (f : Operand) (l : List Operand) (ts : List TypeId) : evOps P Gl n all draw (⟨dst, .call ⟨.value f, l.toArray, ts.toArray⟩, ty, pos, af, none⟩ :: rest) env σ KK = (dstIn n dst = true ∧ evG Gl env f = true ∧ gdL Gl env true l ∧
    callF P Gl n all draw dst rest (evU Gl env f) (l.map (evU Gl env)) env σ KK) := by
  have hl : (#[f] ++ l.toArray).toList = f :: l := by simp
  simp only [evOps, isCall, gdOk, Op.operands, Call.operands, evCallOp, callF, hl, gdL]
  have hno : (∀ s, Ext σ s → False) = False := eq_false fun h => h σ (Ext.refl σ)
  cases evU Gl env f <;> cases draw <;> simp [and_assoc, hno]
theorem g_call (f : Operand) (l : List Operand) (ts : List TypeId) {j : Nat} {b : Bool} : evOps P Gl n all draw (⟨dst, .call ⟨.value f, l.toArray, ts.toArray⟩, ty, pos, af, some (j, b)⟩ :: rest) env σ KK = (dstIn n dst = true ∧ slotBool (gSlot all env j) = true ∧ (slotTest (gSlot all env j) b = true → evG Gl env f = true) ∧ gdL Gl env (slotTest (gSlot all env j) b) l ∧
    callG P Gl n all draw dst rest (slotTest (gSlot all env j) b) (evU Gl env f) (l.map (evU Gl env)) env σ KK) := by
  have hl : (#[f] ++ l.toArray).toList = f :: l := by simp
  simp only [evOps, isCall, gdOk, Op.operands, Call.operands, evCallOp, callG, quietOp, hl, gdL]
  have hno : (∀ s, Ext σ s → False) = False := eq_false fun h => h σ (Ext.refl σ)
  cases evU Gl env f <;> simp [and_assoc, hno]
end

end

/-- all of them -/
theorem vcRules : type_of% (And.intro @seqK_app (And.intro @ifC_true (And.intro @ifC_false (And.intro @evC_skip (And.intro @evC_region0 (And.intro @evC_region1 (And.intro @evC_seq (And.intro @evC_cond (And.intro @condK_bool (And.intro @condK_any (And.intro @evC_block (And.intro @evC_exit (And.intro @evC_ret (And.intro @thenK_normal (And.intro @thenK_exit (And.intro @thenK_ret (And.intro @blockK_exit (And.intro @blockK_normal (And.intro @blockK_ret (And.intro @evOps_nil (And.intro @o_move (And.intro @g_move (And.intro @o_assign (And.intro @g_assign (And.intro @o_alloc (And.intro @o_box (And.intro @o_load (And.intro @g_load (And.intro @o_store (And.intro @o_nilCheck (And.intro @g_nilCheck (And.intro @o_binOp (And.intro @g_binOp (And.intro @o_unOp (And.intro @g_unOp (And.intro @o_convert (And.intro @g_convert (And.intro @o_makeSlice (And.intro @o_slice00 (And.intro @g_slice00 (And.intro @o_slice10 (And.intro @g_slice10 (And.intro @o_slice01 (And.intro @g_slice01 (And.intro @o_slice11 (And.intro @g_slice11 (And.intro @o_fieldAddr (And.intro @g_fieldAddr (And.intro @o_field (And.intro @g_field (And.intro @o_indexAddr (And.intro @g_indexAddr (And.intro @o_index (And.intro @g_index (And.intro @o_extract (And.intro @g_extract (And.intro @o_lookup (And.intro @g_lookup (And.intro @o_mapUpdate (And.intro @o_insert (And.intro @o_makeMap (And.intro @o_pick (And.intro @g_pick (And.intro @o_build (And.intro @g_build (And.intro @o_buildSlice (And.intro @o_makeFunc (And.intro @o_builtin (And.intro @g_builtin (And.intro @o_call (@g_call))))))))))))))))))))))))))))))))))))))))))))))))))))))))))))))))))))))) := And.intro @seqK_app (And.intro @ifC_true (And.intro @ifC_false (And.intro @evC_skip (And.intro @evC_region0 (And.intro @evC_region1 (And.intro @evC_seq (And.intro @evC_cond (And.intro @condK_bool (And.intro @condK_any (And.intro @evC_block (And.intro @evC_exit (And.intro @evC_ret (And.intro @thenK_normal (And.intro @thenK_exit (And.intro @thenK_ret (And.intro @blockK_exit (And.intro @blockK_normal (And.intro @blockK_ret (And.intro @evOps_nil (And.intro @o_move (And.intro @g_move (And.intro @o_assign (And.intro @g_assign (And.intro @o_alloc (And.intro @o_box (And.intro @o_load (And.intro @g_load (And.intro @o_store (And.intro @o_nilCheck (And.intro @g_nilCheck (And.intro @o_binOp (And.intro @g_binOp (And.intro @o_unOp (And.intro @g_unOp (And.intro @o_convert (And.intro @g_convert (And.intro @o_makeSlice (And.intro @o_slice00 (And.intro @g_slice00 (And.intro @o_slice10 (And.intro @g_slice10 (And.intro @o_slice01 (And.intro @g_slice01 (And.intro @o_slice11 (And.intro @g_slice11 (And.intro @o_fieldAddr (And.intro @g_fieldAddr (And.intro @o_field (And.intro @g_field (And.intro @o_indexAddr (And.intro @g_indexAddr (And.intro @o_index (And.intro @g_index (And.intro @o_extract (And.intro @g_extract (And.intro @o_lookup (And.intro @g_lookup (And.intro @o_mapUpdate (And.intro @o_insert (And.intro @o_makeMap (And.intro @o_pick (And.intro @g_pick (And.intro @o_build (And.intro @g_build (And.intro @o_buildSlice (And.intro @o_makeFunc (And.intro @o_builtin (And.intro @g_builtin (And.intro @o_call (@g_call))))))))))))))))))))))))))))))))))))))))))))))))))))))))))))))))))))))

end Go.AM
