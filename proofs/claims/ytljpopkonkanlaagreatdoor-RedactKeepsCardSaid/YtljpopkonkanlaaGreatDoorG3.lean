/- A part of the proof: an abstract machine over data, and lemmas; nothing of the statement. No condition beyond those stated. -/
import Derived.Test.YtljpopkonkanlaaGreatDoorG2
import Derived.IntWalk
import Derived.Lib.Bytealg
set_option linter.unusedVariables false
set_option linter.unusedSimpArgs false
set_option linter.unusedSectionVars false
set_option linter.unnecessarySimpa false

namespace Go.AM
set_option linter.unusedSimpArgs false
section
variable {P:Program} {Gl:qbb} {n m:Nat} {env:Env} {σ:Sto} {K:qhf→Env→Sto→Prop} {all:Array Oper} {draw:Bool} {rest:List Oper} {KK:Env→Sto→Prop}
theorem Qe9:evC P Gl n m .skip env σ K=K .normal env σ:=rfl
theorem qw5 {id:Nat} {l:List Oper}:evC P Gl n m (.region id l.toArray false) env σ K=qar P Gl n l.toArray false l env σ (K .normal):=by simp[evC]
theorem qw4 {id:Nat} {l:List Oper}:evC P Gl n m (.region id l.toArray true) env σ K=(q17 P Gl n m l.toArray env σ (K .normal)∧qar P Gl n l.toArray true l env σ (K .normal)):=by simp[evC]
def Q0j (P:Program) (Gl:qbb) (n m:Nat) (y:Code) (K:qhf→Env→Sto→Prop) (env:Env) (σ:Sto):Prop:=evC P Gl n m y env σ K
theorem Qcj {y:Code}:Q0j P Gl n m y K env σ=evC P Gl n m y env σ K:=rfl
theorem Qm4 {x y:Code}:evC P Gl n m (.seq x y) env σ K=evC P Gl n m x env σ (qm8 K (Q0j P Gl n m y K)):=rfl
def ifC (b:Bool) (X Y:Prop):Prop:=(b=true→X)∧(b=false→Y)
theorem ifC.mk {b:Bool} {X Y:Prop} (h1:b=true→X) (h2:b=false→Y):ifC b X Y:=⟨h1,h2⟩
theorem Qet {X Y:Prop}:ifC true X Y=X:=by simp[ifC]
theorem q8e {X Y:Prop}:ifC false X Y=Y:=by simp[ifC]
theorem Ql4 {b b':Bool} {X Y:Prop} (h:b=b'):ifC b X Y=ifC b' X Y:=by rw[h]
attribute [congr] Ql4
theorem Qfc {c:Operand} {x y:Code}:evC P Gl n m (.cond c x y) env σ K=(evG Gl env c=true∧q8y (evU Gl env c) (evC P Gl n m x env σ K) (evC P Gl n m y env σ K)):=rfl
theorem q19 {b:Bool} {X Y:Prop}:q8y (.d (.bool b)) X Y=ifC b X Y:=by cases b<;>simp[q8y,AV.isBoolq,Qzk,Qyf,ifC]
theorem q8x {X Y:Prop}:q8y .anyb X Y=(X∧Y):=by simp[q8y,AV.isBoolq,Qzk,Qyf]
theorem Qa3 {u u':AV} {X Y:Prop} (h:u=u'):q8y u X Y=q8y u' X Y:=by rw[h]
attribute [congr] Qa3
theorem q8u {id:Nat} {c:Code}:evC P Gl n m (.block id c) env σ K=evC P Gl n m c env σ (qgc id K):=rfl
theorem q8s {c:Code}:evC P Gl n m (.scope c) env σ K=evC P Gl n m c env σ K:=rfl
theorem q8t {l:Nat}:evC P Gl n m (.label l) env σ K=K .normal env σ:=rfl
theorem Qfb {id:Nat}:evC P Gl n m (.exit id) env σ K=K (.exit id) env σ:=rfl
theorem Qm5:evC P Gl n m .ret env σ K=K .ret env σ:=rfl
theorem qpz {f:Env→Sto→Prop}:qm8 K f .normal env σ=f env σ:=rfl
theorem qyn {f:Env→Sto→Prop} {i:Nat}:qm8 K f (.exit i) env σ=K (.exit i) env σ:=rfl
theorem q42 {f:Env→Sto→Prop}:qm8 K f .ret env σ=K .ret env σ:=rfl
theorem qxj {i id:Nat}:qgc id K (.exit i) env σ=if i=id then K .normal env σ else K (.exit i) env σ:=rfl
theorem qov {id:Nat}:qgc id K .normal env σ=K .normal env σ:=rfl
theorem q2d {id:Nat}:qgc id K .ret env σ=K .ret env σ:=rfl
def qhd (P:Program) (Gl:qbb) (n:Nat) (all:Array Oper) (draw:Bool) (dst:Option Tmp) (rest:List Oper) (fv:AV) (as:List AV) (env:Env) (σ:Sto) (K:Env→Sto→Prop):Prop:=
 match fv with
 | .fn f caps=>if draw=true then(∃r0,(∀s,Ext σ s→qal P Gl f (as++caps) s (fun r σ'=>r=r0∧σ'=s))∧qar P Gl n all draw rest (putE env dst r0) σ K)∨(rest=[]∧q7w all=true∧qal P Gl f (as++caps) σ (fun r σ'=>K (putE env dst r) σ'))∨Qoc all=true
  else qal P Gl f (as++caps) σ (fun r σ'=>qar P Gl n all draw rest (putE env dst r) σ' K)
 | _=>draw=true∧Qoc all=true
def qxe (P:Program) (Gl:qbb) (n:Nat) (all:Array Oper) (draw:Bool) (dst:Option Tmp) (rest:List Oper) (g:Bool) (fv:AV) (as:List AV) (env:Env) (σ:Sto) (K:Env→Sto→Prop):Prop:=
 ∃r0,(g=true→match fv with|.fn f caps=>∀s,Ext σ s→qal P Gl f (as++caps) s (fun r σ'=>r=r0∧σ'=s)|_=>False)∧qar P Gl n all draw rest (putE env dst (.iff g r0)) σ K
theorem Qq4 {f:FuncId} {as caps:List AV} {v:AV} {dst:Option Tmp} (h:∀s,qal P Gl f (as++caps) s (fun r s'=>r=v∧s'=s)) (h2:qar P Gl n all draw rest (putE env dst v) σ KK):qhd P Gl n all draw dst rest (.fn f caps) as env σ KK:=by
 cases draw with
 | true=>exact .inl ⟨v,fun s _=>h s,h2⟩
 | false=>
  refine(h σ).mono fun r s ⟨e1,e2⟩=>?_
  subst e1;subst e2;exact h2
theorem qaz {f:FuncId} {as caps:List AV} {dst:Option Tmp} (h:qal P Gl f (as++caps) σ (fun r σ'=>qar P Gl n all false rest (putE env dst r) σ' KK)):qhd P Gl n all false dst rest (.fn f caps) as env σ KK:=h
theorem Qq3 {f:FuncId} {as caps:List AV} {v:AV} {dst:Option Tmp} {g:Bool} (h:g=true→∀s,qal P Gl f (as++caps) s (fun r s'=>r=v∧s'=s)) (h2:qar P Gl n all draw rest (putE env dst (.iff g v)) σ KK):qxe P Gl n all draw dst rest g (.fn f caps) as env σ KK:=
 ⟨v,fun hg s _=>h hg s,h2⟩
theorem q8r:qar P Gl n all draw [] env σ KK=KK env σ:=rfl
theorem Qaw {env':Env} {σ':Sto} (h1:env=env') (h2:σ=σ'):qar P Gl n all draw rest env σ KK=qar P Gl n all draw rest env' σ' KK:=by rw[h1,h2]
theorem Qm6 {c:Code} {env':Env} {σ':Sto} (h1:env=env') (h2:σ=σ'):evC P Gl n m c env σ K=evC P Gl n m c env' σ' K:=by rw[h1,h2]
theorem Qbb {dst:Option Tmp} {fv fv':AV} {as as':List AV} {env':Env} {σ':Sto} (h0:fv=fv') (h3:as=as') (h1:env=env') (h2:σ=σ'):qhd P Gl n all draw dst rest fv as env σ KK=qhd P Gl n all draw dst rest fv' as' env' σ' KK:=by rw[h0,h3,h1,h2]
theorem Qa9 {dst:Option Tmp} {g g':Bool} {fv fv':AV} {as as':List AV} {env':Env} {σ':Sto} (h4:g=g') (h0:fv=fv') (h3:as=as') (h1:env=env') (h2:σ=σ'):qxe P Gl n all draw dst rest g fv as env σ KK=qxe P Gl n all draw dst rest g' fv' as' env' σ' KK:=by rw[h0,h3,h1,h2,h4]
attribute [congr] Qaw Qm6 Qbb Qa9
section
variable {dst:Option Tmp} {ty:TypeId} {pos:String} {af:Array Edge}
theorem Qtf (x:Operand):qar P Gl n all draw (⟨dst,.move x,ty,pos,af,none⟩::rest) env σ KK=(qcd n dst=true∧evG Gl env x=true∧qck P Gl σ env (.move x)∧qar P Gl n all draw rest (putE env dst (opV P Gl σ env (.move x))) (opS P Gl σ env (.move x)) KK):=by
 simp[qar,qa6,qea,gdL,Op.operands,and_assoc]
theorem Qto (x:Operand) {j:Nat} {b:Bool}:qar P Gl n all draw (⟨dst,.move x,ty,pos,af,some (j,b)⟩::rest) env σ KK=(qcd n dst=true∧qbn (qa9 all env j)=true∧(qan (qa9 all env j) b=true→evG Gl env x=true)∧(qan (qa9 all env j) b=true→qck P Gl σ env (.move x))∧qar P Gl n all draw rest (putE env dst (.iff (qan (qa9 all env j) b) (opV P Gl σ env (.move x)))) σ KK):=by
 simp[qar,qa6,qea,gdL,Op.operands,qbo,qc2,and_assoc]
theorem Qei (x:Operand):qar P Gl n all draw (⟨dst,.assign x,ty,pos,af,none⟩::rest) env σ KK=(qcd n dst=true∧evG Gl env x=true∧qck P Gl σ env (.assign x)∧qar P Gl n all draw rest (putE env dst (opV P Gl σ env (.assign x))) (opS P Gl σ env (.assign x)) KK):=by
 simp[qar,qa6,qea,gdL,Op.operands,and_assoc]
theorem Qe1 (x:Operand) {j:Nat} {b:Bool}:qar P Gl n all draw (⟨dst,.assign x,ty,pos,af,some (j,b)⟩::rest) env σ KK=(qcd n dst=true∧qbn (qa9 all env j)=true∧(qan (qa9 all env j) b=true→evG Gl env x=true)∧(qan (qa9 all env j) b=true→qck P Gl σ env (.assign x))∧qar P Gl n all draw rest (putE env dst (.iff (qan (qa9 all env j) b) (opV P Gl σ env (.assign x)))) σ KK):=by
 simp[qar,qa6,qea,gdL,Op.operands,qbo,qc2,and_assoc]
theorem Qkl (t:TypeId):qar P Gl n all draw (⟨dst,.alloc t,ty,pos,af,none⟩::rest) env σ KK=(qcd n dst=true∧qck P Gl σ env (.alloc t)∧qar P Gl n all draw rest (putE env dst (opV P Gl σ env (.alloc t))) (opS P Gl σ env (.alloc t)) KK):=by
 simp[qar,qa6,qea,gdL,Op.operands,and_assoc]
theorem Qyb (t:TypeId) (x:Operand):qar P Gl n all draw (⟨dst,.box t x,ty,pos,af,none⟩::rest) env σ KK=(qcd n dst=true∧evG Gl env x=true∧qck P Gl σ env (.box t x)∧qar P Gl n all draw rest (putE env dst (opV P Gl σ env (.box t x))) (opS P Gl σ env (.box t x)) KK):=by
 simp[qar,qa6,qea,gdL,Op.operands,and_assoc]
theorem Qtg (t:TypeId) (x:Operand):qar P Gl n all draw (⟨dst,.load t x,ty,pos,af,none⟩::rest) env σ KK=(qcd n dst=true∧evG Gl env x=true∧qck P Gl σ env (.load t x)∧qar P Gl n all draw rest (putE env dst (opV P Gl σ env (.load t x))) (opS P Gl σ env (.load t x)) KK):=by
 simp[qar,qa6,qea,gdL,Op.operands,and_assoc]
theorem Qtp (t:TypeId) (x:Operand) {j:Nat} {b:Bool}:qar P Gl n all draw (⟨dst,.load t x,ty,pos,af,some (j,b)⟩::rest) env σ KK=(qcd n dst=true∧qbn (qa9 all env j)=true∧(qan (qa9 all env j) b=true→evG Gl env x=true)∧(qan (qa9 all env j) b=true→qck P Gl σ env (.load t x))∧qar P Gl n all draw rest (putE env dst (.iff (qan (qa9 all env j) b) (opV P Gl σ env (.load t x)))) σ KK):=by
 simp[qar,qa6,qea,gdL,Op.operands,qbo,qc2,and_assoc]
theorem Qke (t:TypeId) (x y:Operand):qar P Gl n all draw (⟨dst,.store t x y,ty,pos,af,none⟩::rest) env σ KK=(qcd n dst=true∧evG Gl env x=true∧evG Gl env y=true∧qck P Gl σ env (.store t x y)∧qar P Gl n all draw rest (putE env dst (opV P Gl σ env (.store t x y))) (opS P Gl σ env (.store t x y)) KK):=by
 simp[qar,qa6,qea,gdL,Op.operands,and_assoc]
theorem q1h (x:Operand):qar P Gl n all draw (⟨dst,.nilCheck x,ty,pos,af,none⟩::rest) env σ KK=(qcd n dst=true∧evG Gl env x=true∧qck P Gl σ env (.nilCheck x)∧qar P Gl n all draw rest (putE env dst (opV P Gl σ env (.nilCheck x))) (opS P Gl σ env (.nilCheck x)) KK):=by
 simp[qar,qa6,qea,gdL,Op.operands,and_assoc]
theorem q1z (x:Operand) {j:Nat} {b:Bool}:qar P Gl n all draw (⟨dst,.nilCheck x,ty,pos,af,some (j,b)⟩::rest) env σ KK=(qcd n dst=true∧qbn (qa9 all env j)=true∧(qan (qa9 all env j) b=true→evG Gl env x=true)∧(qan (qa9 all env j) b=true→qck P Gl σ env (.nilCheck x))∧qar P Gl n all draw rest (putE env dst (.iff (qan (qa9 all env j) b) (opV P Gl σ env (.nilCheck x)))) σ KK):=by
 simp[qar,qa6,qea,gdL,Op.operands,qbo,qc2,and_assoc]
theorem Qkk (o:BinOp) (t u:TypeId) (x y:Operand):qar P Gl n all draw (⟨dst,.binOp o t x y u,ty,pos,af,none⟩::rest) env σ KK=(qcd n dst=true∧evG Gl env x=true∧evG Gl env y=true∧qck P Gl σ env (.binOp o t x y u)∧qar P Gl n all draw rest (putE env dst (opV P Gl σ env (.binOp o t x y u))) (opS P Gl σ env (.binOp o t x y u)) KK):=by
 simp[qar,qa6,qea,gdL,Op.operands,and_assoc]
theorem Qml (o:BinOp) (t u:TypeId) (x y:Operand) {j:Nat} {b:Bool}:qar P Gl n all draw (⟨dst,.binOp o t x y u,ty,pos,af,some (j,b)⟩::rest) env σ KK=(qcd n dst=true∧qbn (qa9 all env j)=true∧(qan (qa9 all env j) b=true→evG Gl env x=true)∧(qan (qa9 all env j) b=true→evG Gl env y=true)∧(qan (qa9 all env j) b=true→qck P Gl σ env (.binOp o t x y u))∧qar P Gl n all draw rest (putE env dst (.iff (qan (qa9 all env j) b) (opV P Gl σ env (.binOp o t x y u)))) σ KK):=by
 simp[qar,qa6,qea,gdL,Op.operands,qbo,qc2,and_assoc]
theorem Qtd (o:UnOp) (t:TypeId) (x:Operand):qar P Gl n all draw (⟨dst,.unOp o t x,ty,pos,af,none⟩::rest) env σ KK=(qcd n dst=true∧evG Gl env x=true∧qck P Gl σ env (.unOp o t x)∧qar P Gl n all draw rest (putE env dst (opV P Gl σ env (.unOp o t x))) (opS P Gl σ env (.unOp o t x)) KK):=by
 simp[qar,qa6,qea,gdL,Op.operands,and_assoc]
theorem Qtm (o:UnOp) (t:TypeId) (x:Operand) {j:Nat} {b:Bool}:qar P Gl n all draw (⟨dst,.unOp o t x,ty,pos,af,some (j,b)⟩::rest) env σ KK=(qcd n dst=true∧qbn (qa9 all env j)=true∧(qan (qa9 all env j) b=true→evG Gl env x=true)∧(qan (qa9 all env j) b=true→qck P Gl σ env (.unOp o t x))∧qar P Gl n all draw rest (putE env dst (.iff (qan (qa9 all env j) b) (opV P Gl σ env (.unOp o t x)))) σ KK):=by
 simp[qar,qa6,qea,gdL,Op.operands,qbo,qc2,and_assoc]
theorem q7o (s t:TypeId) (x:Operand):qar P Gl n all draw (⟨dst,.convert s t x,ty,pos,af,none⟩::rest) env σ KK=(qcd n dst=true∧evG Gl env x=true∧qck P Gl σ env (.convert s t x)∧qar P Gl n all draw rest (putE env dst (opV P Gl σ env (.convert s t x))) (opS P Gl σ env (.convert s t x)) KK):=by
 simp[qar,qa6,qea,gdL,Op.operands,and_assoc]
theorem q8n (s t:TypeId) (x:Operand) {j:Nat} {b:Bool}:qar P Gl n all draw (⟨dst,.convert s t x,ty,pos,af,some (j,b)⟩::rest) env σ KK=(qcd n dst=true∧qbn (qa9 all env j)=true∧(qan (qa9 all env j) b=true→evG Gl env x=true)∧(qan (qa9 all env j) b=true→qck P Gl σ env (.convert s t x))∧qar P Gl n all draw rest (putE env dst (.iff (qan (qa9 all env j) b) (opV P Gl σ env (.convert s t x)))) σ KK):=by
 simp[qar,qa6,qea,gdL,Op.operands,qbo,qc2,and_assoc]
theorem qv5 (t:TypeId) (x y:Operand):qar P Gl n all draw (⟨dst,.makeSlice t x y,ty,pos,af,none⟩::rest) env σ KK=(qcd n dst=true∧evG Gl env x=true∧evG Gl env y=true∧qck P Gl σ env (.makeSlice t x y)∧qar P Gl n all draw rest (putE env dst (opV P Gl σ env (.makeSlice t x y))) (opS P Gl σ env (.makeSlice t x y)) KK):=by
 simp[qar,qa6,qea,gdL,Op.operands,and_assoc]
theorem q7l (t:TypeId) (x:Operand):qar P Gl n all draw (⟨dst,.slice t x none none none,ty,pos,af,none⟩::rest) env σ KK=(qcd n dst=true∧evG Gl env x=true∧qck P Gl σ env (.slice t x none none none)∧qar P Gl n all draw rest (putE env dst (opV P Gl σ env (.slice t x none none none))) (opS P Gl σ env (.slice t x none none none)) KK):=by
 simp[qar,qa6,qea,gdL,Op.operands,and_assoc]
theorem q8l (t:TypeId) (x:Operand) {j:Nat} {b:Bool}:qar P Gl n all draw (⟨dst,.slice t x none none none,ty,pos,af,some (j,b)⟩::rest) env σ KK=(qcd n dst=true∧qbn (qa9 all env j)=true∧(qan (qa9 all env j) b=true→evG Gl env x=true)∧(qan (qa9 all env j) b=true→qck P Gl σ env (.slice t x none none none))∧qar P Gl n all draw rest (putE env dst (.iff (qan (qa9 all env j) b) (opV P Gl σ env (.slice t x none none none)))) σ KK):=by
 simp[qar,qa6,qea,gdL,Op.operands,qbo,qc2,and_assoc]
theorem q7j (t:TypeId) (x y:Operand):qar P Gl n all draw (⟨dst,.slice t x (some y) none none,ty,pos,af,none⟩::rest) env σ KK=(qcd n dst=true∧evG Gl env x=true∧evG Gl env y=true∧qck P Gl σ env (.slice t x (some y) none none)∧qar P Gl n all draw rest (putE env dst (opV P Gl σ env (.slice t x (some y) none none))) (opS P Gl σ env (.slice t x (some y) none none)) KK):=by
 simp[qar,qa6,qea,gdL,Op.operands,and_assoc]
theorem q8j (t:TypeId) (x y:Operand) {j:Nat} {b:Bool}:qar P Gl n all draw (⟨dst,.slice t x (some y) none none,ty,pos,af,some (j,b)⟩::rest) env σ KK=(qcd n dst=true∧qbn (qa9 all env j)=true∧(qan (qa9 all env j) b=true→evG Gl env x=true)∧(qan (qa9 all env j) b=true→evG Gl env y=true)∧(qan (qa9 all env j) b=true→qck P Gl σ env (.slice t x (some y) none none))∧qar P Gl n all draw rest (putE env dst (.iff (qan (qa9 all env j) b) (opV P Gl σ env (.slice t x (some y) none none)))) σ KK):=by
 simp[qar,qa6,qea,gdL,Op.operands,qbo,qc2,and_assoc]
theorem q7k (t:TypeId) (x y:Operand):qar P Gl n all draw (⟨dst,.slice t x none (some y) none,ty,pos,af,none⟩::rest) env σ KK=(qcd n dst=true∧evG Gl env x=true∧evG Gl env y=true∧qck P Gl σ env (.slice t x none (some y) none)∧qar P Gl n all draw rest (putE env dst (opV P Gl σ env (.slice t x none (some y) none))) (opS P Gl σ env (.slice t x none (some y) none)) KK):=by
 simp[qar,qa6,qea,gdL,Op.operands,and_assoc]
theorem q8k (t:TypeId) (x y:Operand) {j:Nat} {b:Bool}:qar P Gl n all draw (⟨dst,.slice t x none (some y) none,ty,pos,af,some (j,b)⟩::rest) env σ KK=(qcd n dst=true∧qbn (qa9 all env j)=true∧(qan (qa9 all env j) b=true→evG Gl env x=true)∧(qan (qa9 all env j) b=true→evG Gl env y=true)∧(qan (qa9 all env j) b=true→qck P Gl σ env (.slice t x none (some y) none))∧qar P Gl n all draw rest (putE env dst (.iff (qan (qa9 all env j) b) (opV P Gl σ env (.slice t x none (some y) none)))) σ KK):=by
 simp[qar,qa6,qea,gdL,Op.operands,qbo,qc2,and_assoc]
theorem q7i (t:TypeId) (x y z:Operand):qar P Gl n all draw (⟨dst,.slice t x (some y) (some z) none,ty,pos,af,none⟩::rest) env σ KK=(qcd n dst=true∧evG Gl env x=true∧evG Gl env y=true∧evG Gl env z=true∧qck P Gl σ env (.slice t x (some y) (some z) none)∧qar P Gl n all draw rest (putE env dst (opV P Gl σ env (.slice t x (some y) (some z) none))) (opS P Gl σ env (.slice t x (some y) (some z) none)) KK):=by
 simp[qar,qa6,qea,gdL,Op.operands,and_assoc]
theorem q8i (t:TypeId) (x y z:Operand) {j:Nat} {b:Bool}:qar P Gl n all draw (⟨dst,.slice t x (some y) (some z) none,ty,pos,af,some (j,b)⟩::rest) env σ KK=(qcd n dst=true∧qbn (qa9 all env j)=true∧(qan (qa9 all env j) b=true→evG Gl env x=true)∧(qan (qa9 all env j) b=true→evG Gl env y=true)∧(qan (qa9 all env j) b=true→evG Gl env z=true)∧(qan (qa9 all env j) b=true→qck P Gl σ env (.slice t x (some y) (some z) none))∧qar P Gl n all draw rest (putE env dst (.iff (qan (qa9 all env j) b) (opV P Gl σ env (.slice t x (some y) (some z) none)))) σ KK):=by
 simp[qar,qa6,qea,gdL,Op.operands,qbo,qc2,and_assoc]
theorem Qef (t:TypeId) (x y z:Operand):qar P Gl n all draw (⟨dst,.slice t x none (some y) (some z),ty,pos,af,none⟩::rest) env σ KK=(qcd n dst=true∧evG Gl env x=true∧evG Gl env y=true∧evG Gl env z=true∧qck P Gl σ env (.slice t x none (some y) (some z))∧qar P Gl n all draw rest (putE env dst (opV P Gl σ env (.slice t x none (some y) (some z)))) (opS P Gl σ env (.slice t x none (some y) (some z))) KK):=by
 simp[qar,qa6,qea,gdL,Op.operands,and_assoc]
theorem qv7 (s:TypeId) (x:Operand) (f:Nat):qar P Gl n all draw (⟨dst,.fieldAddr s x f,ty,pos,af,none⟩::rest) env σ KK=(qcd n dst=true∧evG Gl env x=true∧qck P Gl σ env (.fieldAddr s x f)∧qar P Gl n all draw rest (putE env dst (opV P Gl σ env (.fieldAddr s x f))) (opS P Gl σ env (.fieldAddr s x f)) KK):=by
 simp[qar,qa6,qea,gdL,Op.operands,and_assoc]
theorem qw0 (s:TypeId) (x:Operand) (f:Nat) {j:Nat} {b:Bool}:qar P Gl n all draw (⟨dst,.fieldAddr s x f,ty,pos,af,some (j,b)⟩::rest) env σ KK=(qcd n dst=true∧qbn (qa9 all env j)=true∧(qan (qa9 all env j) b=true→evG Gl env x=true)∧(qan (qa9 all env j) b=true→qck P Gl σ env (.fieldAddr s x f))∧qar P Gl n all draw rest (putE env dst (.iff (qan (qa9 all env j) b) (opV P Gl σ env (.fieldAddr s x f)))) σ KK):=by
 simp[qar,qa6,qea,gdL,Op.operands,qbo,qc2,and_assoc]
theorem Qkh (s:TypeId) (x:Operand) (f:Nat):qar P Gl n all draw (⟨dst,.field s x f,ty,pos,af,none⟩::rest) env σ KK=(qcd n dst=true∧evG Gl env x=true∧qck P Gl σ env (.field s x f)∧qar P Gl n all draw rest (putE env dst (opV P Gl σ env (.field s x f))) (opS P Gl σ env (.field s x f)) KK):=by
 simp[qar,qa6,qea,gdL,Op.operands,and_assoc]
theorem Qmj (s:TypeId) (x:Operand) (f:Nat) {j:Nat} {b:Bool}:qar P Gl n all draw (⟨dst,.field s x f,ty,pos,af,some (j,b)⟩::rest) env σ KK=(qcd n dst=true∧qbn (qa9 all env j)=true∧(qan (qa9 all env j) b=true→evG Gl env x=true)∧(qan (qa9 all env j) b=true→qck P Gl σ env (.field s x f))∧qar P Gl n all draw rest (putE env dst (.iff (qan (qa9 all env j) b) (opV P Gl σ env (.field s x f)))) σ KK):=by
 simp[qar,qa6,qea,gdL,Op.operands,qbo,qc2,and_assoc]
theorem qv6 (t:TypeId) (x y:Operand):qar P Gl n all draw (⟨dst,.indexAddr t x y,ty,pos,af,none⟩::rest) env σ KK=(qcd n dst=true∧evG Gl env x=true∧evG Gl env y=true∧qck P Gl σ env (.indexAddr t x y)∧qar P Gl n all draw rest (putE env dst (opV P Gl σ env (.indexAddr t x y))) (opS P Gl σ env (.indexAddr t x y)) KK):=by
 simp[qar,qa6,qea,gdL,Op.operands,and_assoc]
theorem qwz (t:TypeId) (x y:Operand) {j:Nat} {b:Bool}:qar P Gl n all draw (⟨dst,.indexAddr t x y,ty,pos,af,some (j,b)⟩::rest) env σ KK=(qcd n dst=true∧qbn (qa9 all env j)=true∧(qan (qa9 all env j) b=true→evG Gl env x=true)∧(qan (qa9 all env j) b=true→evG Gl env y=true)∧(qan (qa9 all env j) b=true→qck P Gl σ env (.indexAddr t x y))∧qar P Gl n all draw rest (putE env dst (.iff (qan (qa9 all env j) b) (opV P Gl σ env (.indexAddr t x y)))) σ KK):=by
 simp[qar,qa6,qea,gdL,Op.operands,qbo,qc2,and_assoc]
theorem Qkg (t:TypeId) (x y:Operand):qar P Gl n all draw (⟨dst,.index t x y,ty,pos,af,none⟩::rest) env σ KK=(qcd n dst=true∧evG Gl env x=true∧evG Gl env y=true∧qck P Gl σ env (.index t x y)∧qar P Gl n all draw rest (putE env dst (opV P Gl σ env (.index t x y))) (opS P Gl σ env (.index t x y)) KK):=by
 simp[qar,qa6,qea,gdL,Op.operands,and_assoc]
theorem Qmi (t:TypeId) (x y:Operand) {j:Nat} {b:Bool}:qar P Gl n all draw (⟨dst,.index t x y,ty,pos,af,some (j,b)⟩::rest) env σ KK=(qcd n dst=true∧qbn (qa9 all env j)=true∧(qan (qa9 all env j) b=true→evG Gl env x=true)∧(qan (qa9 all env j) b=true→evG Gl env y=true)∧(qan (qa9 all env j) b=true→qck P Gl σ env (.index t x y))∧qar P Gl n all draw rest (putE env dst (.iff (qan (qa9 all env j) b) (opV P Gl σ env (.index t x y)))) σ KK):=by
 simp[qar,qa6,qea,gdL,Op.operands,qbo,qc2,and_assoc]
theorem q7n (x:Operand) (i:Nat):qar P Gl n all draw (⟨dst,.extract x i,ty,pos,af,none⟩::rest) env σ KK=(qcd n dst=true∧evG Gl env x=true∧qck P Gl σ env (.extract x i)∧qar P Gl n all draw rest (putE env dst (opV P Gl σ env (.extract x i))) (opS P Gl σ env (.extract x i)) KK):=by
 simp[qar,qa6,qea,gdL,Op.operands,and_assoc]
theorem q8m (x:Operand) (i:Nat) {j:Nat} {b:Bool}:qar P Gl n all draw (⟨dst,.extract x i,ty,pos,af,some (j,b)⟩::rest) env σ KK=(qcd n dst=true∧qbn (qa9 all env j)=true∧(qan (qa9 all env j) b=true→evG Gl env x=true)∧(qan (qa9 all env j) b=true→qck P Gl σ env (.extract x i))∧qar P Gl n all draw rest (putE env dst (.iff (qan (qa9 all env j) b) (opV P Gl σ env (.extract x i)))) σ KK):=by
 simp[qar,qa6,qea,gdL,Op.operands,qbo,qc2,and_assoc]
theorem Qeg (t:TypeId) (x y:Operand) (k:Bool):qar P Gl n all draw (⟨dst,.lookup t x y k,ty,pos,af,none⟩::rest) env σ KK=(qcd n dst=true∧evG Gl env x=true∧evG Gl env y=true∧qck P Gl σ env (.lookup t x y k)∧qar P Gl n all draw rest (putE env dst (opV P Gl σ env (.lookup t x y k))) (opS P Gl σ env (.lookup t x y k)) KK):=by
 simp[qar,qa6,qea,gdL,Op.operands,and_assoc]
theorem Qe0 (t:TypeId) (x y:Operand) (k:Bool) {j:Nat} {b:Bool}:qar P Gl n all draw (⟨dst,.lookup t x y k,ty,pos,af,some (j,b)⟩::rest) env σ KK=(qcd n dst=true∧qbn (qa9 all env j)=true∧(qan (qa9 all env j) b=true→evG Gl env x=true)∧(qan (qa9 all env j) b=true→evG Gl env y=true)∧(qan (qa9 all env j) b=true→qck P Gl σ env (.lookup t x y k))∧qar P Gl n all draw rest (putE env dst (.iff (qan (qa9 all env j) b) (opV P Gl σ env (.lookup t x y k)))) σ KK):=by
 simp[qar,qa6,qea,gdL,Op.operands,qbo,qc2,and_assoc]
theorem qv4 (t:TypeId) (x y z:Operand):qar P Gl n all draw (⟨dst,.mapUpdate t x y z,ty,pos,af,none⟩::rest) env σ KK=(qcd n dst=true∧evG Gl env x=true∧evG Gl env y=true∧evG Gl env z=true∧qck P Gl σ env (.mapUpdate t x y z)∧qar P Gl n all draw rest (putE env dst (opV P Gl σ env (.mapUpdate t x y z))) (opS P Gl σ env (.mapUpdate t x y z)) KK):=by
 simp[qar,qa6,qea,gdL,Op.operands,and_assoc]
theorem Qeh (t:TypeId) (x y z:Operand):qar P Gl n all draw (⟨dst,.insert t x y z,ty,pos,af,none⟩::rest) env σ KK=(qcd n dst=true∧evG Gl env x=true∧evG Gl env y=true∧evG Gl env z=true∧qck P Gl σ env (.insert t x y z)∧qar P Gl n all draw rest (putE env dst (opV P Gl σ env (.insert t x y z))) (opS P Gl σ env (.insert t x y z)) KK):=by
 simp[qar,qa6,qea,gdL,Op.operands,and_assoc]
theorem q7m (t:TypeId):qar P Gl n all draw (⟨dst,.makeMap t none,ty,pos,af,none⟩::rest) env σ KK=(qcd n dst=true∧qck P Gl σ env (.makeMap t none)∧qar P Gl n all draw rest (putE env dst (opV P Gl σ env (.makeMap t none))) (opS P Gl σ env (.makeMap t none)) KK):=by
 simp[qar,qa6,qea,gdL,Op.operands,and_assoc]
theorem Qte (c x y:Operand):qar P Gl n all draw (⟨dst,.pick c x y,ty,pos,af,none⟩::rest) env σ KK=(qcd n dst=true∧evG Gl env c=true∧((evU Gl env c).truth=true→evG Gl env x=true)∧((evU Gl env c).truth=false→evG Gl env y=true)∧(evU Gl env c).isBoolv=true ∧
  qar P Gl n all draw rest (putE env dst (q25 (evU Gl env c).truth (evU Gl env x) (evU Gl env y))) σ KK):=by
 simp[qar,qa6,qea,qck,opV,opS,and_assoc]
theorem Qtn (c x y:Operand) {j:Nat} {b:Bool}:qar P Gl n all draw (⟨dst,.pick c x y,ty,pos,af,some (j,b)⟩::rest) env σ KK=(qcd n dst=true∧qbn (qa9 all env j)=true∧(qan (qa9 all env j) b=true→evG Gl env c=true) ∧
  (qan (qa9 all env j) b=true→(evU Gl env c).truth=true→evG Gl env x=true)∧(qan (qa9 all env j) b=true→(evU Gl env c).truth=false→evG Gl env y=true)∧(qan (qa9 all env j) b=true→(evU Gl env c).isBoolv=true) ∧
  qar P Gl n all draw rest (putE env dst (.iff (qan (qa9 all env j) b) (q25 (evU Gl env c).truth (evU Gl env x) (evU Gl env y)))) σ KK):=by
 simp[qar,qa6,qea,qck,opV,qbo,qc2,and_assoc]
theorem Qkj (t:TypeId) (l:List (Nat×Operand)):qar P Gl n all draw (⟨dst,.build t l.toArray,ty,pos,af,none⟩::rest) env σ KK=(qcd n dst=true∧gdL Gl env true (l.map (·.2))∧qck P Gl σ env (.build t l.toArray) ∧
  qar P Gl n all draw rest (putE env dst (opV P Gl σ env (.build t l.toArray))) σ KK):=by
 simp[qar,qa6,qea,Op.operands,opS]
theorem Qmk (t:TypeId) (l:List (Nat×Operand)) {j:Nat} {b:Bool}:qar P Gl n all draw (⟨dst,.build t l.toArray,ty,pos,af,some (j,b)⟩::rest) env σ KK=(qcd n dst=true∧qbn (qa9 all env j)=true∧gdL Gl env (qan (qa9 all env j) b) (l.map (·.2))∧(qan (qa9 all env j) b=true→qck P Gl σ env (.build t l.toArray)) ∧
  qar P Gl n all draw rest (putE env dst (.iff (qan (qa9 all env j) b) (opV P Gl σ env (.build t l.toArray)))) σ KK):=by
 simp[qar,qa6,qea,Op.operands,qbo,qc2]
theorem qrn (t:TypeId) (k:Nat) (l:List (Nat×Operand)):qar P Gl n all draw (⟨dst,.buildSlice t k l.toArray,ty,pos,af,none⟩::rest) env σ KK=(qcd n dst=true∧gdL Gl env true (l.map (·.2))∧qck P Gl σ env (.buildSlice t k l.toArray) ∧
  qar P Gl n all draw rest (putE env dst (opV P Gl σ env (.buildSlice t k l.toArray))) (opS P Gl σ env (.buildSlice t k l.toArray)) KK):=by
 simp[qar,qa6,qea,Op.operands]
theorem qrt (t:TypeId) (k:Nat) (l:List (Nat×Operand)) {j:Nat} {b:Bool}:qar P Gl n all draw (⟨dst,.buildSlice t k l.toArray,ty,pos,af,some (j,b)⟩::rest) env σ KK=(qcd n dst=true∧qbn (qa9 all env j)=true∧qan (qa9 all env j) b=true∧gdL Gl env true (l.map (·.2))∧qck P Gl σ env (.buildSlice t k l.toArray) ∧
  qar P Gl n all draw rest (putE env dst (.iff true (opV P Gl σ env (.buildSlice t k l.toArray)))) (opS P Gl σ env (.buildSlice t k l.toArray)) KK):=by
 simp[qar,qa6,qea,Op.operands,qc2]
theorem q1i (f:FuncId) (l:List Operand):qar P Gl n all draw (⟨dst,.makeFunc (.func f) #[] l.toArray,ty,pos,af,none⟩::rest) env σ KK=(qcd n dst=true∧gdL Gl env true l ∧
  qar P Gl n all draw rest (putE env dst (.fn f (l.map (evU Gl env)))) σ KK):=by
 simp[qar,qa6,qea,Op.operands,qck,opV,opS]
theorem q7p (bi:Builtin) (l:List Operand) (ts:List TypeId):qar P Gl n all draw (⟨dst,.call ⟨.builtin bi,l.toArray,ts.toArray⟩,ty,pos,af,none⟩::rest) env σ KK=(qcd n dst=true∧gdL Gl env true l∧q4i P Gl σ env bi l ts ∧
  qar P Gl n all draw rest (putE env dst (biV Gl σ env bi l)) (biS P Gl σ env bi l ts) KK):=by
 simp[qar,qa6,qea,Op.operands,Call.operands,qck,opV,opS]
theorem q8o (bi:Builtin) (l:List Operand) (ts:List TypeId) {j:Nat} {b:Bool}:qar P Gl n all draw (⟨dst,.call ⟨.builtin bi,l.toArray,ts.toArray⟩,ty,pos,af,some (j,b)⟩::rest) env σ KK=(qcd n dst=true∧qbo (.call ⟨.builtin bi,l.toArray,ts.toArray⟩)=true∧qbn (qa9 all env j)=true ∧
  gdL Gl env (qan (qa9 all env j) b) l∧(qan (qa9 all env j) b=true→q4i P Gl σ env bi l ts)∧qar P Gl n all draw rest (putE env dst (.iff (qan (qa9 all env j) b) (biV Gl σ env bi l))) σ KK):=by
 simp[qar,qa6,qea,Op.operands,Call.operands,qck,opV,qc2]
theorem Qth (f:Operand) (l:List Operand) (ts:List TypeId):qar P Gl n all draw (⟨dst,.call ⟨.value f,l.toArray,ts.toArray⟩,ty,pos,af,none⟩::rest) env σ KK=(qcd n dst=true∧evG Gl env f=true∧gdL Gl env true l ∧
  qhd P Gl n all draw dst rest (evU Gl env f) (l.map (evU Gl env)) env σ KK):=by
 have hl:(#[f]++l.toArray).toList=f::l:=by simp
 simp only[qar,qa6,qea,Op.operands,Call.operands,qdq,qhd,hl,gdL]
 have hno:(∀s,Ext σ s→False)=False:=eq_false fun h=>h σ (Ext.refl σ)
 cases evU Gl env f<;>cases draw<;>simp[and_assoc,hno]
theorem Qtq (f:Operand) (l:List Operand) (ts:List TypeId) {j:Nat} {b:Bool}:qar P Gl n all draw (⟨dst,.call ⟨.value f,l.toArray,ts.toArray⟩,ty,pos,af,some (j,b)⟩::rest) env σ KK=(qcd n dst=true∧qbn (qa9 all env j)=true∧(qan (qa9 all env j) b=true→evG Gl env f=true)∧gdL Gl env (qan (qa9 all env j) b) l ∧
  qxe P Gl n all draw dst rest (qan (qa9 all env j) b) (evU Gl env f) (l.map (evU Gl env)) env σ KK):=by
 have hl:(#[f]++l.toArray).toList=f::l:=by simp
 simp only[qar,qa6,qea,Op.operands,Call.operands,qdq,qxe,qbo,qc2,Bool.false_eq_true,if_false,hl,gdL]
 have hno:(∀s,Ext σ s→False)=False:=eq_false fun h=>h σ (Ext.refl σ)
 cases evU Gl env f<;>simp[and_assoc,hno]
end
end
theorem q2k:type_of% (aI @qrt (aI @q8s (aI @q8t (aI @Qcj (aI @Qet (aI @q8e (aI @Qe9 (aI @qw5 (aI @qw4 (aI @Qm4 (aI @Qfc (aI @q19 (aI @q8x (aI @q8u (aI @Qfb (aI @Qm5 (aI @qpz (aI @qyn (aI @q42 (aI @qxj (aI @qov (aI @q2d (aI @q8r (aI @Qtf (aI @Qto (aI @Qei (aI @Qe1 (aI @Qkl (aI @Qyb (aI @Qtg (aI @Qtp (aI @Qke (aI @q1h (aI @q1z (aI @Qkk (aI @Qml (aI @Qtd (aI @Qtm (aI @q7o (aI @q8n (aI @qv5 (aI @q7l (aI @q8l (aI @q7j (aI @q8j (aI @q7k (aI (aI @Qef @q8k) (aI @q7i (aI @q8i (aI @qv7 (aI @qw0 (aI @Qkh (aI @Qmj (aI @qv6 (aI @qwz (aI @Qkg (aI @Qmi (aI @q7n (aI @q8m (aI @Qeg (aI @Qe0 (aI @qv4 (aI @Qeh (aI @q7m (aI @Qte (aI @Qtn (aI @Qkj (aI @Qmk (aI @qrn (aI @q1i (aI @q7p (aI @q8o (aI @Qth (@Qtq)))))))))))))))))))))))))))))))))))))))))))))))))))))))))))))))))))))))))):=aI @qrt (aI @q8s (aI @q8t (aI @Qcj (aI @Qet (aI @q8e (aI @Qe9 (aI @qw5 (aI @qw4 (aI @Qm4 (aI @Qfc (aI @q19 (aI @q8x (aI @q8u (aI @Qfb (aI @Qm5 (aI @qpz (aI @qyn (aI @q42 (aI @qxj (aI @qov (aI @q2d (aI @q8r (aI @Qtf (aI @Qto (aI @Qei (aI @Qe1 (aI @Qkl (aI @Qyb (aI @Qtg (aI @Qtp (aI @Qke (aI @q1h (aI @q1z (aI @Qkk (aI @Qml (aI @Qtd (aI @Qtm (aI @q7o (aI @q8n (aI @qv5 (aI @q7l (aI @q8l (aI @q7j (aI @q8j (aI @q7k (aI (aI @Qef @q8k) (aI @q7i (aI @q8i (aI @qv7 (aI @qw0 (aI @Qkh (aI @Qmj (aI @qv6 (aI @qwz (aI @Qkg (aI @Qmi (aI @q7n (aI @q8m (aI @Qeg (aI @Qe0 (aI @qv4 (aI @Qeh (aI @q7m (aI @Qte (aI @Qtn (aI @Qkj (aI @Qmk (aI @qrn (aI @q1i (aI @q7p (aI @q8o (aI @Qth (@Qtq)))))))))))))))))))))))))))))))))))))))))))))))))))))))))))))))))))))))))
end Go.AM


set_option linter.unusedSimpArgs false
namespace Go.AM
section
variable {P:Program} {Gl:qbb} {env:Env} {σ:Sto} {n:Nat}
theorem qvf (s t:Nat) (v:AV) (r:Env):qe0 ((s,v)::r) t=if s=t then v else qe0 r t:=rfl
theorem q0d (t:Nat):qe0 [] t=.undef:=rfl
theorem qun (d:Nat) (v:AV):putE env (some d) v=(d,v)::env:=rfl
theorem qup (v:AV):putE env none v=env:=rfl
theorem q0i (d:Nat):(qcd n (some d)=true)=(d<n):=by simp[qcd]
theorem q0j:(qcd n none=true)=True:=by simp[qcd]
theorem Qng (v:Value):(qha v).vg=true∧(qha v).un=qha v:=by unfold qha;split<;>exact⟨rfl,rfl⟩
theorem Qpe (l:List AV):(qhh l).vg=true∧(qhh l).un=qhh l:=by unfold qhh;split<;>exact⟨rfl,rfl⟩
theorem q8w (v:Value):(qdi v).vg=true∧(qdi v).un=qdi v:=by
 unfold qdi;split
 ·split
  ·exact Qpe _
  ·exact⟨rfl,rfl⟩
 ·exact Qng _
theorem q6z (t:Nat):evG Gl env (.tmp t)=(qe0 env t).vg:=rfl
theorem qvk (v:Value):evG Gl env (.const v)=true:=(q8w v).1
theorem q0g (f:FuncId):evG Gl env (.func f)=true:=rfl
theorem Qex (g:Nat):(q8f Gl g).vg=true∧(q8f Gl g).un=q8f Gl g:=by unfold q8f;split<;>exact⟨rfl,rfl⟩
theorem qq6 (g:Nat):evG Gl env (.global g)=true:=(Qex g).1
theorem q6y (t:Nat):evU Gl env (.tmp t)=(qe0 env t).un:=rfl
theorem qvj (v:Value):evU Gl env (.const v)=qdi v:=(q8w v).2
theorem q0f (f:FuncId):evU Gl env (.func f)=.fn f []:=rfl
theorem qq5 (g:Nat):evU Gl env (.global g)=q8f Gl g:=(Qex g).2
theorem Qst (x:D):(AV.d x).un=.d x:=rfl
theorem q5v:AV.nils.un=.nils:=rfl
theorem Qc7 (l:List AV):(AV.agg l).un=.agg l:=rfl
theorem Qc4 (i o:Nat):(AV.ptr i o).un=.ptr i o:=rfl
theorem q5x (e:Nat) (xs:List D) (i o:Nat):(AV.eptr e xs i o).un=.eptr e xs i o:=rfl
theorem q5y (j i o:Nat):(AV.aptr j i o).un=.aptr j i o:=rfl
theorem Qc5 (j i o:Nat):(AV.osl j i o).un=.osl j i o:=rfl
theorem Qji (f:FuncId) (c:List AV):(AV.fn f c).un=.fn f c:=rfl
theorem Qc3 (l:List AV):(AV.tup l).un=.tup l:=rfl
theorem Qc6 (g:Bool) (v:AV):(AV.iff g v).un=v:=rfl
theorem Qss (x:D):(AV.d x).vg=true:=rfl
theorem q5k:AV.nils.vg=true:=rfl
theorem Qcz (l:List AV):(AV.agg l).vg=true:=rfl
theorem Qcw (i o:Nat):(AV.ptr i o).vg=true:=rfl
theorem q5m (e:Nat) (xs:List D) (i o:Nat):(AV.eptr e xs i o).vg=true:=rfl
theorem q5n (j i o:Nat):(AV.aptr j i o).vg=true:=rfl
theorem Qcx (j i o:Nat):(AV.osl j i o).vg=true:=rfl
theorem Qjg (f:FuncId) (c:List AV):(AV.fn f c).vg=true:=rfl
theorem Qcv (l:List AV):(AV.tup l).vg=true:=rfl
theorem Qcy (g:Bool) (v:AV):(AV.iff g v).vg=g:=rfl
theorem qq9 (k:IntKind) (i:Int):qdi (.int k i)=.d (.int k i):=rfl
theorem qn4 (b:Bool):qdi (.bool b)=.d (.bool b):=rfl
theorem qq8 (s:ByteArray):qdi (.string s)=.d (.str s.data.toList):=rfl
theorem qn3:qdi (.slice none 0 0)=.nils:=rfl
theorem q6v (g:Bool):gdL Gl env g []=True:=rfl
theorem q0e (g:Bool) (x:Operand) (r:List Operand):gdL Gl env g (x::r)=((g=true→evG Gl env x=true)∧gdL Gl env g r):=rfl
theorem Qjk (b:Bool):(AV.d (.bool b)).truth=b:=rfl
theorem q6s (b:Bool):(AV.d (.bool b)).isBoolv=true:=rfl
theorem Qds (k:IntKind) (i:Int):(AV.d (.int k i)).isIntv=true:=rfl
theorem Qxz (k:IntKind) (i:Int):(AV.d (.int k i)).num=i:=rfl
theorem qp6 (b:Bool):qbn (.d (.bool b))=true:=rfl
theorem ql3 (g b:Bool):qbn (.iff g (.d (.bool b)))=true:=rfl
theorem qp5 (x b:Bool):qan (.d (.bool x)) b=(x==b):=rfl
theorem ql2 (g x b:Bool):qan (.iff g (.d (.bool x))) b=(g&&(x==b)):=rfl
theorem q9s {dst:Option Tmp} {op:Op} {ty:TypeId} {pos:String} {af:Array Edge} {g:Option (Nat×Bool)} (l:List Oper):qa9 ((⟨dst,op,ty,pos,af,g⟩::l).toArray) env 0=(match dst with|some d=>qe0 env d|none=>.undef):=by
 cases dst<;>simp[qa9]
theorem qka (o:Oper) (l:List Oper) (j:Nat):qa9 ((o::l).toArray) env (j+1)=qa9 l.toArray env j:=by simp[qa9]
theorem qqd (c p q:Bool):q25 c (.d (.bool p)) (.d (.bool q))=.d (.bool (bif c then p else q)):=rfl
theorem quq (c:Bool) (k k':IntKind) (p q:Int):q25 c (.d (.int k p)) (.d (.int k' q))=.d (bif c then .int k p else .int k' q):=rfl
theorem Qs6 (B:Blk) (σ:Sto):qad (B::σ) 0=B:=rfl
theorem Qj1 (B:Blk) (σ:Sto) (i:Nat):qad (B::σ) (i+1)=qad σ i:=by simp[qad]
theorem Qs5 (k:Nat) (v:AV):(Blk.box k v).boxN=k:=rfl
theorem Qs4 (k:Nat) (v:AV):(Blk.box k v).boxV=v:=rfl
theorem Qjv (k:Nat) (v:AV):(Blk.box k v).isBox=true:=rfl
theorem qz7 (es:Nat) (xs:List D):(Blk.arr es xs).isOwnArr=true:=rfl
theorem Qjw (es:Nat) (xs:List D):(Blk.arr es xs).isArr=true:=rfl
theorem Qdu (es:Nat) (xs:List D):(Blk.frz es xs).isArr=true:=rfl
theorem Q0n (es:Nat) (xs:List D):(Blk.arr es xs).es=es:=rfl
theorem Qx2 (es:Nat) (xs:List D):(Blk.frz es xs).es=es:=rfl
theorem Q0k (es:Nat) (xs:List D):(Blk.arr es xs).xs=xs:=rfl
theorem Qxw (es:Nat) (xs:List D):(Blk.frz es xs).xs=xs:=rfl
theorem Qxy (es:Nat) (xs:List D):(Blk.arr es xs).own=true:=rfl
theorem Qsv (es:Nat) (xs:List D):(Blk.frz es xs).own=false:=rfl
theorem qz6 (g:Bool) (k id off:Nat):Qgq σ g k (.ptr id off)=((qad σ id).isBox=true∧qof (qad σ id).boxN off k g (qad σ id).boxV.isAgg):=rfl
theorem qu1 (g:Bool) (k es:Nat) (xs:List D) (i off:Nat):Qgq σ g k (.eptr es xs i off)=(i<xs.length∧qof es off k g (xs.getD i default).isAgg):=rfl
theorem qu2 (g:Bool) (k id i off:Nat):Qgq σ g k (.aptr id i off)=((qad σ id).isArr=true∧i<(qad σ id).xs.length∧qof (qad σ id).es off k g ((qad σ id).xs.getD i default).isAgg):=rfl
theorem q6p (g:Bool) (k id off:Nat):ldV σ g k (.ptr id off)=(qad σ id).boxV.partV (qad σ id).boxN off k g:=rfl
theorem qz4 (g:Bool) (k es:Nat) (xs:List D) (i off:Nat):ldV σ g k (.eptr es xs i off)=.d ((xs.getD i default).partD es off k g):=rfl
theorem qz5 (g:Bool) (k id i off:Nat):ldV σ g k (.aptr id i off)=.d (((qad σ id).xs.getD i default).partD (qad σ id).es off k g):=rfl
theorem Qdp (N off k:Nat) (g whole:Bool):qof N off k g whole=(off+k≤N∧(if off=0∧k=N then whole=g else(whole=true∧(g=true∨k=1)))):=rfl
theorem q6h (x:D) (N off k:Nat) (g:Bool):(AV.d x).partV N off k g=.d (x.partD N off k g):=by
 unfold AV.partV D.partD;split
 ·rfl
 ·split<;>rfl
theorem Qjp (v:AV) (N off k:Nat) (g:Bool):v.partV N off k g=if off=0∧k=N then v else if g=true then v.subV off k else v.cellAt off:=rfl
theorem Qjq (x:D) (N off k:Nat) (g:Bool):x.partD N off k g=if off=0∧k=N then x else if g=true then x.sub off k else x.cell off:=rfl
theorem Qda (x:D) (o k:Nat):(AV.d x).subV o k=.d (x.sub o k):=rfl
theorem q0l (x:D) (j:Nat):(AV.d x).cellAt j=.d (x.cell j):=rfl
theorem qrd (l:List AV) (j:Nat):(AV.agg l).cellAt j=l.getD j .undef:=rfl
theorem qza (k id off:Nat) (u:AV):Qxn σ k u (.ptr id off)=((qad σ id).isBox=true∧off+k≤(qad σ id).boxN∧u.storable=true∧u.ncells=k):=rfl
theorem qt2 (k id i off:Nat) (u:AV):Qxn σ k u (.aptr id i off)=((qad σ id).isOwnArr=true∧i<(qad σ id).xs.length∧off+k≤(qad σ id).es∧u.isD σ=true∧(u.toD σ).cells.length=k∧(¬id∈u.refs)):=rfl
theorem q54 (k id off:Nat) (u:AV):stS σ k u (.ptr id off)=σ.set id (.box (qad σ id).boxN (Qs7 (qad σ id).boxV (qad σ id).boxN off k u)):=rfl
theorem qy9 (k id i off:Nat) (u:AV):stS σ k u (.aptr id i off)=(freezeL σ u.refs).set id (.arr (qad σ id).es ((qad σ id).xs.set i (((qad σ id).xs.getD i default).putAt (qad σ id).es off k (u.toD σ)))):=rfl
theorem Qsu (v:AV) (N off k:Nat) (u:AV):Qs7 v N off k u=if off=0∧k=N then u else qhh ((List.range N).map fun j=>if off≤j∧j<off+k then u.cellAt (j-off) else v.cellAt j):=rfl
theorem q6t (x:D):(AV.d x).isAgg=x.isAgg:=rfl
theorem qvb (l:List AV):(AV.agg l).isAgg=true:=rfl
theorem qva (i o k:Nat):(AV.osl i o k).isAgg=false:=rfl
theorem qqy:AV.nils.isAgg=false:=rfl
theorem qp4 (x:D):(AV.d x).storable=true:=rfl
theorem ql1 (l:List AV):(AV.agg l).storable=true:=rfl
theorem ql0 (i o k:Nat):(AV.osl i o k).storable=true:=rfl
theorem qj6:AV.nils.storable=true:=rfl
theorem qzx (x:D):(AV.d x).ncells=x.cells.length:=rfl
theorem qqr (l:List AV):(AV.agg l).ncells=l.length:=rfl
theorem qqq (i o k:Nat):(AV.osl i o k).ncells=1:=rfl
theorem qnt:AV.nils.ncells=1:=rfl
theorem Qju (x:D):(AV.d x).isD σ=true:=rfl
theorem qz8:AV.nils.isD σ=true:=rfl
theorem q6q (i o k:Nat):(AV.osl i o k).isD σ=(qad σ i).isArr:=rfl
theorem q6r (l:List AV):(AV.agg l).isD σ=l.all (q8d σ):=rfl
theorem Qjl (x:D):(AV.d x).toD σ=x:=rfl
theorem qy7:AV.nils.toD σ=.sl []:=rfl
theorem q52 (i o k:Nat):(AV.osl i o k).toD σ=.sl (((qad σ i).xs.drop o).take k):=rfl
theorem q53 (l:List AV):(AV.agg l).toD σ=.agg (l.map (Qb9 σ)):=rfl
theorem Qdm (x:D):(AV.d x).refs=[]:=rfl
theorem qul:AV.nils.refs=[]:=rfl
theorem qzp (i o k:Nat):(AV.osl i o k).refs=[i]:=rfl
theorem qzq (l:List AV):(AV.agg l).refs=l.flatMap q9p:=rfl
theorem qn1:freezeL σ []=σ:=rfl
theorem qhv (i:Nat) (l:List Nat):freezeL σ (i::l)=freezeL (freeze σ i) l:=rfl
theorem q6x (B:Blk):freeze (B::σ) 0=B.frozen::σ:=rfl
theorem q6w (B:Blk) (i:Nat):freeze (B::σ) (i+1)=B::freeze σ i:=by simp[freeze,Qj1]
theorem Qd8 (es:Nat) (xs:List D):(Blk.arr es xs).frozen=.frz es xs:=rfl
theorem qu7 (i o:Nat):(AV.ptr i o).isPtr=true:=rfl
theorem qqs (e:Nat) (xs:List D) (i o:Nat):(AV.eptr e xs i o).isPtr=true:=rfl
theorem qqt (j i o:Nat):(AV.aptr j i o).isPtr=true:=rfl
theorem qt3 (i o k:Nat):(AV.ptr i o).shift k=.ptr i (o+k):=rfl
theorem qp7 (e:Nat) (xs:List D) (i o k:Nat):(AV.eptr e xs i o).shift k=.eptr e xs i (o+k):=rfl
theorem qp8 (j i o k:Nat):(AV.aptr j i o).shift k=.aptr j i (o+k):=rfl
theorem qql (i o:Nat):(AV.ptr i o).notNil=true:=rfl
theorem qnr (e:Nat) (xs:List D) (i o:Nat):(AV.eptr e xs i o).notNil=true:=rfl
theorem qns (j i o:Nat):(AV.aptr j i o).notNil=true:=rfl
theorem quw (f:FuncId) (c:List AV):(AV.fn f c).notNil=true:=rfl
theorem qvo (l:List D):(D.agg l).cells=l:=rfl
theorem qrl (l:List D):(D.agg l).isAgg=true:=rfl
theorem qrk (k:IntKind) (i:Int):(D.int k i).isAgg=false:=rfl
theorem qoa (b:Bool):(D.bool b).isAgg=false:=rfl
theorem qrj (s:List UInt8):(D.str s).isAgg=false:=rfl
theorem qvx (l:List D):(D.sl l).isAgg=false:=rfl
theorem qvn (k:IntKind) (i:Int):(D.int k i).cells=[.int k i]:=rfl
theorem qra (b:Bool):(D.bool b).cells=[.bool b]:=rfl
theorem qvm (s:List UInt8):(D.str s).cells=[.str s]:=rfl
theorem q0k (l:List D):(D.sl l).cells=[.sl l]:=rfl
theorem Qjo (x:D) (N off k:Nat) (u:D):x.putAt N off k u=if off=0∧k=N then u else .agg ((List.range N).map fun j=>if off≤j∧j<off+k then u.cell (j-off) else x.cell j):=rfl
theorem q0o (o:BinOp) (x:D) (k:IntKind) (i:Int):q9a o (.d x) (.d (.int k i))=.d (qo2 o x (.int k i)):=rfl
theorem qvr (o:BinOp) (x:D) (b:Bool):q9a o (.d x) (.d (.bool b))=.d (qo2 o x (.bool b)):=rfl
theorem q0m (o:BinOp) (x:D) (l:List UInt8):q9a o (.d x) (.d (.str l))=.d (qo2 o x (.str l)):=rfl
theorem q0p (o:BinOp) (x:D) (l:List D):q9a o (.d x) (.d (.agg l))=.d (qo2 o x (.agg l)):=rfl
theorem qvq (o:BinOp) (u:AV):q9a o u .nils=qkm o (qdf u):=rfl
theorem q0n (o:BinOp) (u:AV) (v:Value):q9a o u (.d (.raw v))=qkm o (qdf u):=rfl
theorem qqn (a:AV):qkm .eql a=a:=rfl
theorem qqm (b:Bool):qkm .neq (.d (.bool b))=.d (.bool (!b)):=rfl
theorem qqo:qkm .neq .anyb=.anyb:=rfl
theorem qnv:qdf .nils=.d (.bool true):=rfl
theorem qqu (v:Value):qdf (.d (.raw v))=.d (.bool true):=rfl
theorem qqx:qdf (.d (.sl []))=.anyb:=rfl
theorem qny (x:D) (l:List D):qdf (.d (.sl (x::l)))=.d (.bool false):=rfl
theorem qqw (i o k:Nat):qdf (.osl i o k)=if k=0 then .anyb else .d (.bool false):=rfl
theorem qqv (i o:Nat):qdf (.ptr i o)=.d (.bool false):=rfl
theorem qnx (e:Nat) (xs:List D) (i o:Nat):qdf (.eptr e xs i o)=.d (.bool false):=rfl
theorem qnz (j i o:Nat):qdf (.aptr j i o)=.d (.bool false):=rfl
theorem qnw (i:Nat):qdf (.mapr i)=.d (.bool false):=rfl
theorem qvt (t:TypeId) (o:BinOp) (x:D) (k:IntKind) (i:Int):qgs P t o (.d x) (.d (.int k i))=qgl P t o x (.int k i):=rfl
theorem qre (t:TypeId) (o:BinOp) (x:D) (b:Bool):qgs P t o (.d x) (.d (.bool b))=qgl P t o x (.bool b):=rfl
theorem qvs (t:TypeId) (o:BinOp) (x:D) (l:List UInt8):qgs P t o (.d x) (.d (.str l))=qgl P t o x (.str l):=rfl
theorem qvu (t:TypeId) (o:BinOp) (x:D) (l:List D):qgs P t o (.d x) (.d (.agg l))=qgl P t o x (.agg l):=rfl
theorem qh8 (t:TypeId) (o:BinOp):qgs P t o .nils .nils=((o=.eql∨o=.neq)∧(qcg P t).isSome=true):=rfl
theorem qkd (t:TypeId) (o:BinOp) (l:List D):qgs P t o (.d (.sl l)) .nils=((o=.eql∨o=.neq)∧(qcg P t).isSome=true):=rfl
theorem qjf (t:TypeId) (o:BinOp) (i j k:Nat):qgs P t o (.osl i j k) .nils=((o=.eql∨o=.neq)∧(qcg P t).isSome=true):=rfl
theorem qkb (t:TypeId) (o:BinOp) (i j:Nat):qgs P t o (.ptr i j) (.d (.raw (.pointer none)))=((o=.eql∨o=.neq)∧Qfy P t=true):=rfl
theorem qjd (t:TypeId) (o:BinOp) (e:Nat) (xs:List D) (i j:Nat):qgs P t o (.eptr e xs i j) (.d (.raw (.pointer none)))=((o=.eql∨o=.neq)∧Qfy P t=true):=rfl
theorem qje (t:TypeId) (o:BinOp) (k i j:Nat):qgs P t o (.aptr k i j) (.d (.raw (.pointer none)))=((o=.eql∨o=.neq)∧Qfy P t=true):=rfl
theorem qkc (t:TypeId) (o:BinOp):qgs P t o (.d (.raw (.pointer none))) (.d (.raw (.pointer none)))=((o=.eql∨o=.neq)∧Qfy P t=true):=rfl
theorem qjg (t:TypeId) (o:BinOp) (i:Nat):qgs P t o (.mapr i) (.d (.raw (.map none)))=((o=.eql∨o=.neq)∧(qjs P t).isSome=true):=rfl
theorem qke (t:TypeId) (o:BinOp):qgs P t o (.d (.raw (.map none))) (.d (.raw (.map none)))=((o=.eql∨o=.neq)∧(qjs P t).isSome=true):=rfl
theorem q5w (i:Nat):(AV.mapr i).un=.mapr i:=rfl
theorem q5z:AV.anyb.un=.anyb:=rfl
theorem q5l (i:Nat):(AV.mapr i).vg=true:=rfl
theorem q5o:AV.anyb.vg=true:=rfl
theorem qj7 (i:Nat):(AV.mapr i).storable=true:=rfl
theorem qlz (i o:Nat):(AV.ptr i o).storable=true:=rfl
theorem qnj (f:FuncId) (c:List AV):(AV.fn f c).storable=true:=rfl
theorem qnu (i:Nat):(AV.mapr i).ncells=1:=rfl
theorem qqp (i o:Nat):(AV.ptr i o).ncells=1:=rfl
theorem qux (f:FuncId) (c:List AV):(AV.fn f c).ncells=1:=rfl
theorem qqz (i:Nat):(AV.mapr i).isAgg=false:=rfl
theorem qu9 (i o:Nat):(AV.ptr i o).isAgg=false:=rfl
theorem q0a (f:FuncId) (c:List AV):(AV.fn f c).isAgg=false:=rfl
theorem qn6 (i j:Nat):(AV.mapr i).cellAt j=.mapr i:=rfl
theorem qrb (i o j:Nat):(AV.ptr i o).cellAt j=.ptr i o:=rfl
theorem qrc (i o k j:Nat):(AV.osl i o k).cellAt j=.osl i o k:=rfl
theorem qn5 (j:Nat):AV.nils.cellAt j=.nils:=rfl
theorem qvp (f:FuncId) (c:List AV) (j:Nat):(AV.fn f c).cellAt j=.fn f c:=rfl
theorem qvw (i:Nat) (r:List AV):q2g (.mapr i::r)=none:=rfl
theorem q69 (f:FuncId) (c:List AV) (r:List AV):q2g (.fn f c::r)=none:=rfl
theorem Qjt (ik:Option IntKind) (f:Key→Option AV):(Blk.map ik f).isMap=true:=rfl
theorem Q0l (ik:Option IntKind) (f:Key→Option AV):(Blk.map ik f).mk=ik:=rfl
theorem Q0m (ik:Option IntKind) (f:Key→Option AV):(Blk.map ik f).mf=f:=rfl
theorem qu6 (k:IntKind) (i:Int):qcv (.d (.int k i))=.i i:=rfl
theorem qu5 (l:List UInt8):qcv (.d (.str l))=.s l:=rfl
theorem qu4 (ik:Option IntKind) (k:IntKind) (i:Int):qlo ik (.d (.int k i))=(ik=some k):=rfl
theorem qu3 (ik:Option IntKind) (l:List UInt8):qlo ik (.d (.str l))=(ik=none):=rfl
theorem qu0 (ik:Option IntKind) (i:Nat):Qtj σ ik (.mapr i)=((qad σ i).isMap=true∧(qad σ i).mk=ik):=rfl
theorem qz1 (ik:Option IntKind):Qtj σ ik (.d (.raw (.map none)))=True:=rfl
theorem qz2 (i:Nat) (k:Key):lkF σ (.mapr i) k=(qad σ i).mf k:=rfl
theorem q6m (v:Value) (k:Key):lkF σ (.d (.raw v)) k=none:=rfl
theorem Qjr (z m k:AV):lkV σ z m k true=.tup [(lkF σ m (qcv k)).getD z,.d (.bool (lkF σ m (qcv k)).isSome)]:=rfl
theorem Qjs (z m k:AV):lkV σ z m k false=(lkF σ m (qcv k)).getD z:=rfl
theorem Qsw (ik:Option IntKind) (i:Nat) (v:AV):Qwc σ ik (.mapr i) v=((qad σ i).isMap=true∧(qad σ i).mk=ik∧v.storable=true):=rfl
theorem Qx0 (i:Nat) (k:Key) (v:AV):muS σ k v (.mapr i)=σ.set i (.map (qad σ i).mk (qhm (qad σ i).mf k v)):=rfl
theorem Qx1 (i:Nat) (k:Key):mdS σ k (.mapr i)=σ.set i (.map (qad σ i).mk (Qks (qad σ i).mf k)):=rfl
theorem qus (t:TypeId) (x y:Operand) (b:Bool):qck P Gl σ env (.lookup t x y b)=(match qjs P t with|some (ik,e)=>qlo ik (evU Gl env y)∧Qtj σ ik (evU Gl env x)∧(qbp P e).isSome=true|none=>False):=rfl
theorem qy2 (t:TypeId) (x y:Operand) (b:Bool):opV P Gl σ env (.lookup t x y b)=(match qjs P t with|some (_,e)=>lkV σ (qci P e) (evU Gl env x) (evU Gl env y) b|none=>.undef):=rfl
theorem qzc (t:TypeId) (x y:Operand) (b:Bool):opS P Gl σ env (.lookup t x y b)=σ:=rfl
theorem ql5 (t:TypeId) (x y z:Operand):qck P Gl σ env (.mapUpdate t x y z)=(match qjs P t with|some (ik,_)=>qlo ik (evU Gl env y)∧Qwc σ ik (evU Gl env x) (evU Gl env z)|none=>False):=rfl
theorem qnf (t:TypeId) (x y z:Operand):opV P Gl σ env (.mapUpdate t x y z)=.undef:=rfl
theorem qnk (t:TypeId) (x y z:Operand):opS P Gl σ env (.mapUpdate t x y z)=muS σ (qcv (evU Gl env y)) (evU Gl env z) (evU Gl env x):=rfl
theorem qut (t:TypeId) (x y z:Operand):qck P Gl σ env (.insert t x y z)=(match qjs P t with|some (ik,_)=>qlo ik (evU Gl env y)∧Qwc σ ik (evU Gl env x) (evU Gl env z)|none=>False):=rfl
theorem qy3 (t:TypeId) (x y z:Operand):opV P Gl σ env (.insert t x y z)=.undef:=rfl
theorem qzd (t:TypeId) (x y z:Operand):opS P Gl σ env (.insert t x y z)=muS σ (qcv (evU Gl env y)) (evU Gl env z) (evU Gl env x):=rfl
theorem qqi (t:TypeId) (r:Option Operand):qck P Gl σ env (.makeMap t r)=(r=none∧(qjs P t).isSome=true):=rfl
theorem qty (t:TypeId) (r:Option Operand):opV P Gl σ env (.makeMap t r)=.mapr σ.length:=rfl
theorem qua (t:TypeId) (r:Option Operand):opS P Gl σ env (.makeMap t r)=(match qjs P t with|some (ik,_)=>σ++[.map ik fun _=>none]|none=>σ):=rfl
theorem qmb (m k:Operand) (t t2:TypeId):q4i P Gl σ env .delete [m,k] [t,t2]=(match qjs P t with|some (ik,_)=>qlo ik (evU Gl env k)∧Qvu σ ik (evU Gl env m)|none=>False):=rfl
theorem qn7 (l:List Operand):biV Gl σ env .delete l=.undef:=rfl
theorem qn8 (m k:Operand) (ts:List TypeId):biS P Gl σ env .delete [m,k] ts=mdS σ (qcv (evU Gl env k)) (evU Gl env m):=rfl
theorem Qjy (ik:Option IntKind) (i:Nat):Qvu σ ik (.mapr i)=((qad σ i).isMap=true∧(qad σ i).mk=ik):=rfl
theorem qn9 (x:Operand) (t:TypeId):q4i P Gl σ env .clear [x] [t]=Qzo P σ t (evU Gl env x):=rfl
theorem qrh (l:List Operand):biV Gl σ env .clear l=.undef:=rfl
theorem qri (x:Operand) (t:TypeId):biS P Gl σ env .clear [x] [t]=clS P σ t (evU Gl env x):=rfl
theorem Qs2 (t:TypeId) (i o k:Nat):Qzo P σ t (.osl i o k)=((qad σ i).isOwnArr=true∧(match qcg P t with|some e=>(match qbp P e,qa1 P e with|some z,some _=>z.cells.size=(qad σ i).es|_,_=>False)|none=>False)):=rfl
theorem Qx5 (t:TypeId):clX P t=(match qcg P t with|some e=>(qa1 P e).getD default|none=>default):=rfl
theorem Qx6 (t:TypeId) (i o k:Nat):clS P σ t (.osl i o k)=σ.set i (.arr (qad σ i).es (qih (qad σ i).xs o k (clX P t))):=rfl
theorem qug (ρ:List Nat) (i:Nat):qbk ρ σ (.mapr i)=(match qcl ρ i with|some j=>.mapr j|none=>.undef):=rfl
theorem quj (ρ:List Nat):qbk ρ σ .anyb=.anyb:=rfl
theorem qzo (ρ:List Nat) (ik:Option IntKind) (f:Key→Option AV):qbs ρ σ (.map ik f)=.map ik fun k=>(f k).map (qbk ρ σ):=rfl
theorem qvg (x y:AV):(some x).getD y=x:=rfl
theorem qvh (y:AV):(none:Option AV).getD y=y:=rfl
theorem q0s (o:BinOp) (a b:List UInt8):qo2 o (.str a) (.str b)=qlu o a b:=rfl
theorem qkg (a b:Bool):qo2 .eql (.bool a) (.bool b)=.bool (a==b):=rfl
theorem qkf (a b:Bool):qo2 .neq (.bool a) (.bool b)=.bool (!(a==b)):=rfl
theorem qma (a b:List D):qo2 .eql (.agg a) (.agg b)=.bool (qil a b):=rfl
theorem ql9 (a b:List D):qo2 .neq (.agg a) (.agg b)=.bool (!(qil a b)):=rfl
theorem qrg (t:TypeId) (o:BinOp) (k k':IntKind) (a b:Int):qgl P t o (.int k a) (.int k' b)=qdg o k k' b:=rfl
theorem qrf (t:TypeId) (o:BinOp) (a b:List UInt8):qgl P t o (.str a) (.str b)=qfc o a b:=rfl
theorem qia (t:TypeId) (a b:Bool):qgl P t .eql (.bool a) (.bool b)=(P.underlying t=some .bool):=by simp[qgl]
theorem qh9 (t:TypeId) (a b:Bool):qgl P t .neq (.bool a) (.bool b)=(P.underlying t=some .bool):=by simp[qgl]
theorem qji (t:TypeId) (a b:List D):qgl P t .eql (.agg a) (.agg b)=(match qm2 P t with|some l=>qlj l a b=true|none=>False):=by unfold qgl;cases qm2 P t<;>simp
theorem qjh (t:TypeId) (a b:List D):qgl P t .neq (.agg a) (.agg b)=(match qm2 P t with|some l=>qlj l a b=true|none=>False):=by unfold qgl;cases qm2 P t<;>simp
theorem q50 (b:Bool):unV .not (.d (.bool b))=.d (.bool (!b)):=rfl
theorem q51 (k:IntKind) (i:Int):unV .neg (.d (.int k i))=.d (.int k (k.wrap (0-i))):=rfl
theorem qy5 (b:Bool):Qt6 .not (.d (.bool b))=True:=rfl
theorem qy6 (k:IntKind) (i:Int):Qt6 .neg (.d (.int k i))=True:=rfl
theorem Qdr (xs:List D):(AV.d (.sl xs)).len=xs.length:=rfl
theorem q6n (s:List UInt8):(AV.d (.str s)).len=s.length:=rfl
theorem q6o (i o k:Nat):(AV.osl i o k).len=k:=rfl
theorem qz3:AV.nils.len=0:=rfl
theorem qve (t:TypeId) (xs:List D):(AV.d (.sl xs)).hasLen P t=(qcg P t).isSome:=rfl
theorem qq1 (t:TypeId) (s:List UInt8):(AV.d (.str s)).hasLen P t=Qik P t:=rfl
theorem qq2 (t:TypeId) (i o k:Nat):(AV.osl i o k).hasLen P t=(qcg P t).isSome:=rfl
theorem qn0 (t:TypeId):AV.nils.hasLen P t=(qcg P t).isSome:=rfl
theorem q0h (xs:List D):(AV.d (.sl xs)).elems σ=xs:=rfl
theorem qvl (i o k:Nat):(AV.osl i o k).elems σ=((qad σ i).xs.drop o).take k:=rfl
theorem qq7:AV.nils.elems σ=[]:=rfl
theorem q0c (es:Nat) (i:Int) (xs:List D):q31 σ es i (.d (.sl xs))=(0≤i∧i<xs.length∧(xs.getD i.toNat default).cells.length=es):=rfl
theorem qvc (es:Nat) (i:Int) (id o k:Nat):q31 σ es i (.osl id o k)=(0≤i∧i<k∧(qad σ id).isArr=true∧(qad σ id).es=es):=rfl
theorem q6u (es:Nat) (i:Int) (xs:List D):Qyu es i (.d (.sl xs))=.eptr es xs i.toNat 0:=rfl
theorem q0b (es:Nat) (i:Int) (id o k:Nat):Qyu es i (.osl id o k)=.aptr id (o+i.toNat) 0:=rfl
theorem Qjz (d s:Operand) (t t2:TypeId):q4i P Gl σ env .copy [d,s] [t,t2]=Qzm P σ t (evU Gl env d) (evU Gl env s):=rfl
theorem Qsz (d s:Operand):biV Gl σ env .copy [d,s]=.d (.int .i64 (cpN σ (evU Gl env d) (evU Gl env s))):=rfl
theorem Qs0 (d s:Operand) (ts:List TypeId):biS P Gl σ env .copy [d,s] ts=cpS σ (evU Gl env d) (evU Gl env s):=rfl
theorem Qs1 (t:TypeId) (i o k:Nat) (s:AV):Qzm P σ t (.osl i o k) s=((qad σ i).isOwnArr=true∧0<(qad σ i).es∧o+k≤(qad σ i).xs.length∧qtl σ (qad σ i).es s∧(match qcg P t with|some e=>tsz P e=some (qad σ i).es|none=>False)):=rfl
theorem Qx4 (i o k:Nat) (s:AV):cpN σ (.osl i o k) s=min (s.elems σ).length k:=rfl
theorem Qx3 (i o k:Nat) (s:AV):cpS σ (.osl i o k) s=σ.set i (.arr (qad σ i).es (cpX (qad σ i).xs o (min (s.elems σ).length k) (s.elems σ))):=rfl
theorem q08 (x:Operand) (t:TypeId):q4i P Gl σ env .len [x] [t]=((evU Gl env x).hasLen P t=true):=rfl
theorem q65 (x:Operand):biV Gl σ env .len [x]=.d (.int .i64 (evU Gl env x).len):=rfl
theorem q66 (x:Operand) (t:TypeId):biS P Gl σ env .len [x] [t]=σ:=rfl
theorem q09 (s x:Operand) (t1 t2:TypeId):q4i P Gl σ env .append [s,x] [t1,t2]=Qwe P σ t1 t2 (evU Gl env s) (evU Gl env x):=rfl
theorem q67 (s x:Operand):biV Gl σ env .append [s,x]=apV σ (evU Gl env s) (evU Gl env x):=rfl
theorem q68 (s x:Operand) (t1 t2:TypeId):biS P Gl σ env .append [s,x] [t1,t2]=apS P σ t1 (evU Gl env s) (evU Gl env x):=rfl
theorem q06 (l:List Operand) (ts:List TypeId):q4i P Gl σ env .min l ts=qiu (l.map (evU Gl env)):=by unfold q4i;rfl
theorem q61 (l:List Operand):biV Gl σ env .min l=Qzj (l.map (evU Gl env)):=by unfold biV;rfl
theorem q62 (l:List Operand) (ts:List TypeId):biS P Gl σ env .min l ts=σ:=by unfold biS;rfl
theorem q07 (l:List Operand) (ts:List TypeId):q4i P Gl σ env .max l ts=qiu (l.map (evU Gl env)):=by unfold q4i;rfl
theorem q63 (l:List Operand):biV Gl σ env .max l=Qzl (l.map (evU Gl env)):=by unfold biV;rfl
theorem q64 (l:List Operand) (ts:List TypeId):biS P Gl σ env .max l ts=σ:=by unfold biS;rfl
theorem qzy (x:AV) (r:List AV):qiu (x::r)=(x.isIntv=true∧∀y∈r,y.isIntv=true):=rfl
theorem Qsx (k:IntKind) (i:Int) (r:List AV):Qzj (.d (.int k i)::r)=.d (.int k (Qoa r i)):=rfl
theorem Qsy (k:IntKind) (i:Int) (r:List AV):Qzl (.d (.int k i)::r)=.d (.int k (Qob r i)):=rfl
theorem qzz (a:Int):Qoa [] a=a:=rfl
theorem qz0 (a:Int):Qob [] a=a:=rfl
theorem quy (x:AV) (r:List AV) (a:Int):Qoa (x::r) a=Qoa r (min a x.num):=by
 show Qoa r (if x.num<a then x.num else a)=_
 congr 1;omega
theorem quz (x:AV) (r:List AV) (a:Int):Qob (x::r) a=Qob r (max a x.num):=by
 show Qob r (if x.num>a then x.num else a)=_
 congr 1;omega
theorem Qjj (l:List AV) (i:Nat):(AV.tup l).tupAt i=l.getD i .undef:=rfl
theorem Qc8 (l:List AV):(AV.tup l).tupLen=l.length:=rfl
theorem q6j (x:Operand):qck P Gl σ env (.move x)=True:=rfl
theorem Qc1 (x:Operand):opV P Gl σ env (.move x)=evU Gl env x:=rfl
theorem Qdj (x:Operand):opS P Gl σ env (.move x)=σ:=rfl
theorem quu (x:Operand):qck P Gl σ env (.assign x)=True:=rfl
theorem qy4 (x:Operand):opV P Gl σ env (.assign x)=evU Gl env x:=rfl
theorem qze (x:Operand):opS P Gl σ env (.assign x)=σ:=rfl
theorem q5u (t:TypeId):opV P Gl σ env (.alloc t)=.ptr σ.length 0:=rfl
theorem Qdq (t:TypeId) (x:Operand):qck P Gl σ env (.box t x)=((evU Gl env x).storable=true):=rfl
theorem Qjh (t:TypeId) (x:Operand):opV P Gl σ env (.box t x)=.ptr σ.length 0:=rfl
theorem Qjn (t:TypeId) (x:Operand):opS P Gl σ env (.box t x)=σ++[.box (evU Gl env x).ncells (evU Gl env x)]:=rfl
theorem qzv (t:TypeId) (parts:Array (Nat×Operand)):qck P Gl σ env (.build t parts)=(match qdt P t,qeq P t with|some pl,some zc=>qrv pl zc.length (qg3 Gl env parts)|_,_=>False):=rfl
theorem q5s (t:TypeId) (parts:Array (Nat×Operand)):opV P Gl σ env (.build t parts)=(match qdt P t,qeq P t with|some pl,some zc=>qhh (qpp pl zc (qg3 Gl env parts))|_,_=>.undef):=rfl
theorem q6f (t:TypeId) (parts:Array (Nat×Operand)):opS P Gl σ env (.build t parts)=σ:=rfl
theorem qjc (t:TypeId) (parts:Array (Nat×Operand)):qck P Gl σ env (.buildSlice t 0 parts)=(parts=#[]∧(match qcg P t with|some e=>(tsz P e).isSome=true|none=>False)):=rfl
theorem qj5 (t:TypeId) (parts:Array (Nat×Operand)):opV P Gl σ env (.buildSlice t 0 parts)=.osl σ.length 0 0:=rfl
theorem qj8 (t:TypeId) (parts:Array (Nat×Operand)):opS P Gl σ env (.buildSlice t 0 parts)=σ++[.arr (qr1 P t) []]:=rfl
theorem qj9 (t:TypeId) (k:Nat) (parts:Array (Nat×Operand)):qck P Gl σ env (.buildSlice t (k+1) parts)=(Qho P σ t (k+1) (qg3 Gl env parts)):=rfl
theorem qly (t:TypeId) (k:Nat) (parts:Array (Nat×Operand)):opV P Gl σ env (.buildSlice t (k+1) parts)=.osl σ.length 0 (k+1):=rfl
theorem ql4 (t:TypeId) (k:Nat) (parts:Array (Nat×Operand)):opS P Gl σ env (.buildSlice t (k+1) parts)=Qv0 P σ t (k+1) (qg3 Gl env parts):=rfl
theorem q6k (t:TypeId) (x:Operand):qck P Gl σ env (.load t x)=(match qbl P t,tsz P t with|some g,some n=>Qgq σ g n (evU Gl env x)|_,_=>False):=rfl
theorem Qc2 (t:TypeId) (x:Operand):opV P Gl σ env (.load t x)=(match qbl P t,tsz P t with|some g,some n=>ldV σ g n (evU Gl env x)|_,_=>.undef):=rfl
theorem Qdk (t:TypeId) (x:Operand):opS P Gl σ env (.load t x)=σ:=rfl
theorem qzs (t:TypeId) (a x:Operand):qck P Gl σ env (.store t a x)=(match tsz P t with|some n=>Qxn σ n (evU Gl env x) (evU Gl env a)|none=>False):=rfl
theorem q5p (t:TypeId) (a x:Operand):opV P Gl σ env (.store t a x)=.undef:=rfl
theorem q6c (t:TypeId) (a x:Operand):opS P Gl σ env (.store t a x)=(match tsz P t with|some n=>stS σ n (evU Gl env x) (evU Gl env a)|none=>σ):=rfl
theorem qnq (x:Operand):qck P Gl σ env (.nilCheck x)=((evU Gl env x).notNil=true):=rfl
theorem qp3 (x:Operand):opV P Gl σ env (.nilCheck x)=evU Gl env x:=rfl
theorem qp9 (x:Operand):opS P Gl σ env (.nilCheck x)=σ:=rfl
theorem qzw (o:BinOp) (t u:TypeId) (x y:Operand):qck P Gl σ env (.binOp o t x y u)=(qgs P t o (evU Gl env x) (evU Gl env y)):=rfl
theorem q5t (o:BinOp) (t u:TypeId) (x y:Operand):opV P Gl σ env (.binOp o t x y u)=q9a o (evU Gl env x) (evU Gl env y):=rfl
theorem q6g (o:BinOp) (t u:TypeId) (x y:Operand):opS P Gl σ env (.binOp o t x y u)=σ:=rfl
theorem q6i (o:UnOp) (t:TypeId) (x:Operand):qck P Gl σ env (.unOp o t x)=(Qt6 o (evU Gl env x)):=rfl
theorem Qc0 (o:UnOp) (t:TypeId) (x:Operand):opV P Gl σ env (.unOp o t x)=unV o (evU Gl env x):=rfl
theorem Qdi (o:UnOp) (t:TypeId) (x:Operand):opS P Gl σ env (.unOp o t x)=σ:=rfl
theorem qqk (s t:TypeId) (x:Operand):qck P Gl σ env (.convert s t x)=((P.underlying s).isSome=true∧(qxw P t).isSome=true∧(evU Gl env x).isIntv=true):=rfl
theorem qt0 (s t:TypeId) (x:Operand):opV P Gl σ env (.convert s t x)=(match qxw P t with|some k=>.d (.int k (k.wrap (evU Gl env x).num))|none=>.undef):=rfl
theorem quc (s t:TypeId) (x:Operand):opS P Gl σ env (.convert s t x)=σ:=rfl
theorem ql6 (t:TypeId) (x y:Operand):qck P Gl σ env (.makeSlice t x y)=(Qye P t (evU Gl env x) (evU Gl env y)):=rfl
theorem qng (t:TypeId) (x y:Operand):opV P Gl σ env (.makeSlice t x y)=.osl σ.length 0 (evU Gl env x).num.toNat:=rfl
theorem qnl (t:TypeId) (x y:Operand):opS P Gl σ env (.makeSlice t x y)=mkS P σ t (evU Gl env x):=rfl
theorem qqh (t:TypeId) (x:Operand):qck P Gl σ env (.slice t x none none none)=(Qf5 P t σ 0 (evU Gl env x).len (evU Gl env x)):=by simp[qck,qja,Qkx,Qma,Qy5]
theorem qtx (t:TypeId) (x:Operand):opV P Gl σ env (.slice t x none none none)=slV 0 (evU Gl env x).len (evU Gl env x):=rfl
theorem qt9 (t:TypeId) (x:Operand):opS P Gl σ env (.slice t x none none none)=σ:=rfl
theorem qqf (t:TypeId) (x y:Operand):qck P Gl σ env (.slice t x (some y) none none)=((evU Gl env y).isIntv=true∧Qf5 P t σ (evU Gl env y).num (evU Gl env x).len (evU Gl env x)):=by simp[qck,qja,Qkx,Qma,Qy5]
theorem qtv (t:TypeId) (x y:Operand):opV P Gl σ env (.slice t x (some y) none none)=slV (evU Gl env y).num (evU Gl env x).len (evU Gl env x):=rfl
theorem qt7 (t:TypeId) (x y:Operand):opS P Gl σ env (.slice t x (some y) none none)=σ:=rfl
theorem qur (t:TypeId) (x y z:Operand):qck P Gl σ env (.slice t x none (some y) (some z))=Qi1 P t (evU Gl env x) (evU Gl env y) (evU Gl env z):=rfl
theorem qy1 (t:TypeId) (x y z:Operand):opV P Gl σ env (.slice t x none (some y) (some z))=slV 0 (evU Gl env y).num (evU Gl env x):=rfl
theorem qzb (t:TypeId) (x y z:Operand):opS P Gl σ env (.slice t x none (some y) (some z))=σ:=rfl
theorem Qjm (t:TypeId) (i o k:Nat) (h m:AV):Qi1 P t (.osl i o k) h m=(h.isIntv=true∧m.isIntv=true∧0≤h.num∧h.num≤m.num∧m.num≤k∧(match qcg P t with|some e=>(tsz P e).isSome=true|none=>False)):=rfl
theorem qqg (t:TypeId) (x y:Operand):qck P Gl σ env (.slice t x none (some y) none)=((evU Gl env y).isIntv=true∧Qf5 P t σ 0 (evU Gl env y).num (evU Gl env x)):=by simp[qck,qja,Qkx,Qma,Qy5]
theorem qtw (t:TypeId) (x y:Operand):opV P Gl σ env (.slice t x none (some y) none)=slV 0 (evU Gl env y).num (evU Gl env x):=rfl
theorem qt8 (t:TypeId) (x y:Operand):opS P Gl σ env (.slice t x none (some y) none)=σ:=rfl
theorem qqe (t:TypeId) (x y z:Operand):qck P Gl σ env (.slice t x (some y) (some z) none)=((evU Gl env y).isIntv=true∧(evU Gl env z).isIntv=true∧Qf5 P t σ (evU Gl env y).num (evU Gl env z).num (evU Gl env x)):=by simp[qck,qja,Qkx,Qma,Qy5]
theorem qtu (t:TypeId) (x y z:Operand):opV P Gl σ env (.slice t x (some y) (some z) none)=slV (evU Gl env y).num (evU Gl env z).num (evU Gl env x):=rfl
theorem qt6 (t:TypeId) (x y z:Operand):opS P Gl σ env (.slice t x (some y) (some z) none)=σ:=rfl
theorem ql8 (s:TypeId) (x:Operand) (f:Nat):qck P Gl σ env (.fieldAddr s x f)=(match qeh P s f with|some (_,n,_)=>n≠0∧(evU Gl env x).isPtr=true|none=>False):=rfl
theorem qni (s:TypeId) (x:Operand) (f:Nat):opV P Gl σ env (.fieldAddr s x f)=(match qeh P s f with|some (o,_,_)=>(evU Gl env x).shift o|none=>.undef):=rfl
theorem qnn (s:TypeId) (x:Operand) (f:Nat):opS P Gl σ env (.fieldAddr s x f)=σ:=rfl
theorem qzu (s:TypeId) (x:Operand) (f:Nat):qck P Gl σ env (.field s x f)=(match qeh P s f with|some (o,n,g)=>(evU Gl env x).isAgg=true∧o+n≤(evU Gl env x).ncells∧(g=true∨n=1)|none=>False):=rfl
theorem q5r (s:TypeId) (x:Operand) (f:Nat):opV P Gl σ env (.field s x f)=(match qeh P s f with|some (o,n,g)=>(if g=true then(evU Gl env x).subV o n else(evU Gl env x).cellAt o)|none=>.undef):=rfl
theorem q6e (s:TypeId) (x:Operand) (f:Nat):opS P Gl σ env (.field s x f)=σ:=rfl
theorem ql7 (t:TypeId) (x i:Operand):qck P Gl σ env (.indexAddr t x i)=((evU Gl env i).isIntv=true∧(match qlm P t with|some (none,es)=>q31 σ es (evU Gl env i).num (evU Gl env x)|some (some k,_)=>Qn2 k (evU Gl env i).num (evU Gl env x)|none=>False)):=rfl
theorem qnh (t:TypeId) (x i:Operand):opV P Gl σ env (.indexAddr t x i)=(match qlm P t with|some (none,es)=>Qyu es (evU Gl env i).num (evU Gl env x)|some (some _,es)=>(evU Gl env x).shift ((evU Gl env i).num.toNat*es)|none=>.undef):=rfl
theorem qnm (t:TypeId) (x i:Operand):opS P Gl σ env (.indexAddr t x i)=σ:=rfl
theorem qzt (t:TypeId) (x i:Operand):qck P Gl σ env (.index t x i)=(Qik P t=true∧(evU Gl env x).isStrv=true∧(evU Gl env i).isIntv=true∧0≤(evU Gl env i).num∧(evU Gl env i).num<(evU Gl env x).strOf.length):=rfl
theorem q5q (t:TypeId) (x i:Operand):opV P Gl σ env (.index t x i)=.d (.int .u8 ((evU Gl env x).strOf.getD (evU Gl env i).num.toNat 0).toNat):=rfl
theorem q6d (t:TypeId) (x i:Operand):opS P Gl σ env (.index t x i)=σ:=rfl
theorem qqj (x:Operand) (i:Nat):qck P Gl σ env (.extract x i)=(i<(evU Gl env x).tupLen):=rfl
theorem qtz (x:Operand) (i:Nat):opV P Gl σ env (.extract x i)=(evU Gl env x).tupAt i:=rfl
theorem qub (x:Operand) (i:Nat):opS P Gl σ env (.extract x i)=σ:=rfl
theorem Qdo (l:List (Nat×Operand)):qg3 Gl env l.toArray=l.map fun p=>(p.1,evU Gl env p.2):=rfl
theorem qvi (pl:List (Nat×Nat)) (cs:List AV):qpp pl cs []=cs:=rfl
theorem qq4 (pl:List (Nat×Nat)) (cs:List AV) (i:Nat) (v:AV) (r:List (Nat×AV)):qpp pl cs ((i,v)::r)=(match pl[i]? with|some (off,size)=>qpp pl (qfe cs off v size) r|none=>qpp pl cs r):=rfl
theorem qq3 (pl:List (Nat×Nat)) (N:Nat):qrv pl N []=True:=rfl
theorem qn2 (pl:List (Nat×Nat)) (N:Nat) (i:Nat) (v:AV) (r:List (Nat×AV)):qrv pl N ((i,v)::r)=((match pl[i]? with|some (off,size)=>v.ncells=size∧off+size≤N∧v.storable=true|none=>False)∧qrv pl N r):=rfl
theorem qt5 (cs:List AV) (off:Nat) (v:AV):qfe cs off v 0=cs:=rfl
theorem qt4 (cs:List AV) (off:Nat) (v:AV) (k:Nat):qfe cs off v (k+1)=(qfe cs off v k).set (off+k) (v.cellAt k):=rfl
theorem q6l (l:List AV):qhh l=(match q2g l with|some ds=>.d (.agg ds)|none=>.agg l):=rfl
theorem q1c:q2g []=some []:=rfl
theorem Qd9 (x:D) (r:List AV):q2g (.d x::r)=(q2g r).map (x::·):=rfl
theorem q1b (i o k:Nat) (r:List AV):q2g (.osl i o k::r)=none:=rfl
theorem qvv (r:List AV):q2g (.nils::r)=none:=rfl
theorem q1a (i o:Nat) (r:List AV):q2g (.ptr i o::r)=none:=rfl
theorem Qs3 (x:D) (i:Nat):x.cell i=x.cells.getD i default:=rfl
theorem Qxx (x:D) (o k:Nat):x.sub o k=.agg ((x.cells.drop o).take k):=rfl
theorem q03 (k k':IntKind) (a b:Int):qo2 .eql (.int k a) (.int k' b)=.bool (a==b):=rfl
theorem q0x (k k':IntKind) (a b:Int):qo2 .neq (.int k a) (.int k' b)=.bool (a !=b):=rfl
theorem q0z (k k':IntKind) (a b:Int):qo2 .lss (.int k a) (.int k' b)=.bool (decide (a<b)):=rfl
theorem q00 (k k':IntKind) (a b:Int):qo2 .leq (.int k a) (.int k' b)=.bool (decide (a≤b)):=rfl
theorem q01 (k k':IntKind) (a b:Int):qo2 .gtr (.int k a) (.int k' b)=.bool (decide (b<a)):=rfl
theorem q02 (k k':IntKind) (a b:Int):qo2 .geq (.int k a) (.int k' b)=.bool (decide (b≤a)):=rfl
theorem q05 (k k':IntKind) (a b:Int):qo2 .add (.int k a) (.int k' b)=.int k (k.wrap (a+b)):=rfl
theorem q0r (k k':IntKind) (a b:Int):qo2 .sub (.int k a) (.int k' b)=.int k (k.wrap (a-b)):=rfl
theorem q0y (k k':IntKind) (a b:Int):qo2 .mul (.int k a) (.int k' b)=.int k (k.wrap (a*b)):=rfl
theorem q0w (k k':IntKind) (a b:Int):qo2 .quo (.int k a) (.int k' b)=.int k (k.wrap (a.tdiv b)):=rfl
theorem q0v (k k':IntKind) (a b:Int):qo2 .rem (.int k a) (.int k' b)=.int k (a.tmod b):=rfl
theorem q0u (k k':IntKind) (a b:Int):qo2 .shl (.int k a) (.int k' b)=qmd .shl k a b:=rfl
theorem q0t (k k':IntKind) (a b:Int):qo2 .shr (.int k a) (.int k' b)=qmd .shr k a b:=rfl
theorem q04 (k k':IntKind) (a b:Int):qo2 .and (.int k a) (.int k' b)=qmd .and k a b:=rfl
theorem q60 (k k':IntKind) (a b:Int):qo2 .or (.int k a) (.int k' b)=qmd .or k a b:=rfl
theorem q0q (k k':IntKind) (a b:Int):qo2 .xor (.int k a) (.int k' b)=qmd .xor k a b:=rfl
theorem Qd6 (k k':IntKind) (b:Int):qdg .eql k k' b=(k=k'):=rfl
theorem Qd0 (k k':IntKind) (b:Int):qdg .neq k k' b=(k=k'):=rfl
theorem Qd2 (k k':IntKind) (b:Int):qdg .lss k k' b=(k=k'):=rfl
theorem Qd3 (k k':IntKind) (b:Int):qdg .leq k k' b=(k=k'):=rfl
theorem Qd4 (k k':IntKind) (b:Int):qdg .gtr k k' b=(k=k'):=rfl
theorem Qd5 (k k':IntKind) (b:Int):qdg .geq k k' b=(k=k'):=rfl
theorem Qd7 (k k':IntKind) (b:Int):qdg .add k k' b=(k=k'):=rfl
theorem Qdv (k k':IntKind) (b:Int):qdg .sub k k' b=(k=k'):=rfl
theorem Qd1 (k k':IntKind) (b:Int):qdg .mul k k' b=(k=k'):=rfl
theorem Qdz (k k':IntKind) (b:Int):qdg .quo k k' b=(k=k'∧b≠0):=rfl
theorem Qdy (k k':IntKind) (b:Int):qdg .rem k k' b=(k=k'∧b≠0):=rfl
theorem Qdx (k k':IntKind) (b:Int):qdg .shl k k' b=(0≤b):=rfl
theorem Qdw (k k':IntKind) (b:Int):qdg .shr k k' b=(0≤b):=rfl
theorem Qdh (a b:List UInt8):qlu .add a b=.str (a++b):=rfl
theorem Qdg (a b:List UInt8):qlu .eql a b=.bool (a==b):=rfl
theorem Qdb (a b:List UInt8):qlu .neq a b=.bool (!(a==b)):=rfl
theorem Qdc (a b:List UInt8):qlu .lss a b=.bool (Op.bytesLess a b):=rfl
theorem Qde (a b:List UInt8):qlu .gtr a b=.bool (!(Op.bytesLess a b||a==b)):=rfl
theorem Qdd (a b:List UInt8):qlu .leq a b=.bool (Op.bytesLess a b||a==b):=rfl
theorem Qdf (a b:List UInt8):qlu .geq a b=.bool (!(Op.bytesLess a b)):=rfl
theorem q6b (a b:List UInt8):qfc .add a b=(((a.length+b.length:Nat):Int)≤9223372036854775807):=rfl
theorem q6a (a b:List UInt8):qfc .eql a b=True:=rfl
theorem q55 (a b:List UInt8):qfc .neq a b=True:=rfl
theorem q56 (a b:List UInt8):qfc .lss a b=True:=rfl
theorem q58 (a b:List UInt8):qfc .gtr a b=True:=rfl
theorem q57 (a b:List UInt8):qfc .leq a b=True:=rfl
theorem q59 (a b:List UInt8):qfc .geq a b=True:=rfl
theorem quv (t:TypeId):qck P Gl σ env (.alloc t)=((qci P t).storable=true):=by
 have e:qck P Gl σ env (.alloc t)=(match qbp P t with|some z=>(qdi z).storable=true|none=>False):=rfl
 rw[e];unfold qci;cases qbp P t<;>simp[AV.storable]
theorem qzf (t:TypeId) (h:(qci P t).storable=true):opS P Gl σ env (.alloc t)=σ++[.box (qci P t).ncells (qci P t)]:=by
 have e:opS P Gl σ env (.alloc t)=(match qbp P t with|some z=>σ++[.box (qdi z).ncells (qdi z)]|none=>σ):=rfl
 rw[e];unfold qci at h ⊢
 cases hz:qbp P t with
 | none=>simp only[hz] at h;cases h
 | some z=>rfl
theorem Qdt (x:D):q8d σ (.d x)=true:=rfl
theorem qu8:q8d σ .nils=true:=rfl
theorem qz9 (i o k:Nat):q8d σ (.osl i o k)=(qad σ i).isArr:=rfl
theorem Qc9 (x:D):Qb9 σ (.d x)=x:=rfl
theorem qt1:Qb9 σ .nils=.sl []:=rfl
theorem qy8 (i o k:Nat):Qb9 σ (.osl i o k)=.sl (((qad σ i).xs.drop o).take k):=rfl
theorem Qdn (x:D):q9p (.d x)=[]:=rfl
theorem qum:q9p .nils=[]:=rfl
theorem qzr (i o k:Nat):q9p (.osl i o k)=[i]:=rfl
theorem qzn (ρ:List Nat):Qsr [] ρ σ env=[]:=rfl
theorem quk (t:Nat) (l ρ:List Nat):Qsr (t::l) ρ σ env=(t,qbk ρ σ (qe0 env t))::Qsr l ρ σ env:=rfl
theorem qzm:qdy [] σ=[]:=rfl
theorem Qdl (ρ:List Nat) (x:D):qbk ρ σ (.d x)=.d x:=rfl
theorem quf (ρ:List Nat):qbk ρ σ .nils=.nils:=rfl
theorem quh (ρ:List Nat) (es:Nat) (xs:List D) (i off:Nat):qbk ρ σ (.eptr es xs i off)=.eptr es xs i off:=rfl
theorem qzk (ρ:List Nat) (i o:Nat):qbk ρ σ (.ptr i o)=(match qcl ρ i with|some j=>.ptr j o|none=>.undef):=rfl
theorem qui (ρ:List Nat) (id i o:Nat):qbk ρ σ (.aptr id i o)=(match qcl ρ id with|some j=>.aptr j i o|none=>.undef):=rfl
theorem qzl (ρ:List Nat) (id o k:Nat):qbk ρ σ (.osl id o k)=(match qcl ρ id with|some j=>.osl j o k|none=>if(qad σ id).isArr=true∧(qad σ id).own=false then .d (.sl (((qad σ id).xs.drop o).take k)) else .undef):=rfl
theorem qvd (i:Nat):qcl [] i=none:=rfl
theorem qq0 (r:Nat) (l:List Nat) (i:Nat):qcl (r::l) i=if r=i then some 0 else(qcl l i).map (·+1):=by
 unfold qcl;rw[List.findIdx?_cons];by_cases h:r=i<;>simp[h]
theorem qzg {m:Nat} {rs:List ResultVar} {R:AV→Sto→Prop}:Qzt P m rs R .ret env σ=(qxy P env σ rs∧∃r' s',qc3 m (Qso P env σ rs) σ r' s'∧R r' s'):=rfl
theorem qno {m:Nat} {rs:List ResultVar} {R:AV→Sto→Prop}:Qzt P m rs R .normal env σ=(qxy P env σ rs∧∃r' s',qc3 m (Qso P env σ rs) σ r' s'∧R r' s'):=rfl
theorem que:qxy P env σ []=True:=rfl
theorem qqb (r:ResultVar) (rs:List ResultVar):qxy P env σ (r::rs)=(qyy P env σ r∧qxy P env σ rs):=rfl
theorem qqc (t:Nat):qyy P env σ (.tmp t)=((qe0 env t).vg=true):=rfl
theorem qnp (t:Nat) (ty:TypeId):qyy P env σ (.cell t ty)=(match qbl P ty,tsz P ty with|some g,some k=>Qgq σ g k (qe0 env t)|_,_=>False):=rfl
theorem qud (t:Nat):q2u P env σ (.tmp t)=(qe0 env t).un:=rfl
theorem qqa (t:Nat) (ty:TypeId):q2u P env σ (.cell t ty)=(match qbl P ty,tsz P ty with|some g,some k=>ldV σ g k (qe0 env t)|_,_=>.undef):=rfl
theorem qzi (r:ResultVar):Qso P env σ [r]=q2u P env σ r:=rfl
theorem qzj:Qso P env σ []=.tup []:=rfl
theorem qzh (r1 r2:ResultVar) (rs:List ResultVar):Qso P env σ (r1::r2::rs)=.tup ((r1::r2::rs).map (q2u P env σ)):=rfl
end
theorem Qfe:type_of% (aI (aI @qvf (aI @q0d (aI @qun (aI @qup (aI @q0i (aI @q0j (aI @q6z (aI @qvk (aI @q0g (aI @qq6 (aI @q6y (aI @qvj (aI @q0f (aI @qq5 (aI @Qst (aI @q5v (aI @Qc7 (aI @Qc4 (aI @q5x (aI @q5y (aI @Qc5 (aI @Qji (aI @Qc3 (aI @Qc6 (aI @Qss (aI @q5k (aI @Qcz (aI @Qcw (aI @q5m (aI @q5n (aI @Qcx (aI @Qjg (aI @Qcv (aI @Qcy (aI @qq9 (aI @qn4 (aI @qq8 (aI @qn3 (aI @q6v (@q0e)))))))))))))))))))))))))))))))))))))))) (aI (aI @Qjk (aI @q6s (aI @Qds (aI @Qxz (aI @qp6 (aI @ql3 (aI @qp5 (aI @ql2 (aI @q9s (aI @qka (aI @qqd (aI @quq (aI @Qs6 (aI @Qj1 (aI @Qs5 (aI @Qs4 (aI @Qjv (aI @qz7 (aI @Qjw (aI @Qdu (aI @Q0n (aI @Qx2 (aI @Q0k (aI @Qxw (aI @Qxy (aI @Qsv (aI @qz6 (aI @qu1 (aI @qu2 (aI @q6p (aI @qz4 (aI @qz5 (aI @Qdp (aI @q6h (aI @Qjp (aI @Qjq (aI @Qda (aI @q0l (aI @qrd (@qza)))))))))))))))))))))))))))))))))))))))) (aI (aI @qt2 (aI @q54 (aI @qy9 (aI @Qsu (aI @q6t (aI @qvb (aI @qva (aI @qqy (aI @qp4 (aI @ql1 (aI @ql0 (aI @qj6 (aI @qzx (aI @qqr (aI @qqq (aI @qnt (aI @Qju (aI @qz8 (aI @q6q (aI @q6r (aI @Qjl (aI @qy7 (aI @q52 (aI @q53 (aI @Qdm (aI @qul (aI @qzp (aI @qzq (aI @qn1 (aI @qhv (aI @q6x (aI @q6w (aI @Qd8 (aI @qu7 (aI @qqs (aI @qqt (aI @qt3 (aI @qp7 (aI @qp8 (@qql)))))))))))))))))))))))))))))))))))))))) (aI (aI @qnr (aI @qns (aI @quw (aI @qvo (aI @qrl (aI @qrk (aI @qoa (aI @qrj (aI @qvx (aI @qvn (aI @qra (aI @qvm (aI @q0k (aI @Qjo (aI @q0o (aI @qvr (aI @q0m (aI @q0p (aI @qvq (aI @q0n (aI @qqn (aI @qqm (aI @qqo (aI @qnv (aI @qqu (aI @qqx (aI @qny (aI @qqw (aI @qqv (aI @qnx (aI @qnz (aI @qnw (aI @qvt (aI @qre (aI @qvs (aI @qvu (aI @qh8 (aI @qkd (aI @qjf (@qkb)))))))))))))))))))))))))))))))))))))))) (aI (aI @qjd (aI @qje (aI @qkc (aI @qjg (aI @qke (aI @q5w (aI @q5z (aI @q5l (aI @q5o (aI @qj7 (aI @qlz (aI @qnj (aI @qnu (aI @qqp (aI @qux (aI @qqz (aI @qu9 (aI @q0a (aI @qn6 (aI @qrb (aI @qrc (aI @qn5 (aI @qvp (aI @qvw (aI @q69 (aI @Qjt (aI @Q0l (aI @Q0m (aI @qu6 (aI @qu5 (aI @qu4 (aI @qu3 (aI @qu0 (aI @qz1 (aI @qz2 (aI @q6m (aI @Qjr (aI @Qjs (aI @Qsw (@Qx0)))))))))))))))))))))))))))))))))))))))) (aI (aI @Qx1 (aI @qus (aI @qy2 (aI @qzc (aI @ql5 (aI @qnf (aI @qnk (aI @qut (aI @qy3 (aI @qzd (aI @qqi (aI @qty (aI @qua (aI @qmb (aI @qn7 (aI @qn8 (aI @Qjy (aI @qn9 (aI @qrh (aI @qri (aI @Qs2 (aI @Qx5 (aI @Qx6 (aI @qug (aI @quj (aI @qzo (aI @qvg (aI @qvh (aI @q0s (aI @qkg (aI @qkf (aI @qma (aI @ql9 (aI @qrg (aI @qrf (aI @qia (aI @qh9 (aI @qji (aI @qjh (@q50)))))))))))))))))))))))))))))))))))))))) (aI (aI @q51 (aI @qy5 (aI @qy6 (aI @Qdr (aI @q6n (aI @q6o (aI @qz3 (aI @qve (aI @qq1 (aI @qq2 (aI @qn0 (aI @q0h (aI @qvl (aI @qq7 (aI @q0c (aI @qvc (aI @q6u (aI @q0b (aI (aI @Qjz (aI @Qsz (aI @Qs0 (aI @Qs1 (aI @Qx4 (aI @Qx3 @q08)))))) (aI @q65 (aI @q66 (aI @q09 (aI @q67 (aI @q68 (aI @q06 (aI @q61 (aI @q62 (aI @q07 (aI @q63 (aI @q64 (aI @qzy (aI @Qsx (aI @Qsy (aI @qzz (aI @qz0 (aI @quy (aI @quz (aI @Qjj (aI @Qc8 (@q6j)))))))))))))))))))))))))))))))))))))))) (aI (aI @Qc1 (aI @Qdj (aI @quu (aI @qy4 (aI @qze (aI @q5u (aI @Qdq (aI @Qjh (aI @Qjn (aI @qzv (aI @q5s (aI @q6f (aI @qjc (aI @qj5 (aI @qj8 (aI @qj9 (aI @qly (aI @ql4 (aI @q6k (aI @Qc2 (aI @Qdk (aI @qzs (aI @q5p (aI @q6c (aI @qnq (aI @qp3 (aI @qp9 (aI @qzw (aI @q5t (aI @q6g (aI @q6i (aI @Qc0 (aI @Qdi (aI @qqk (aI @qt0 (aI @quc (aI @ql6 (aI @qng (aI @qnl (@qqh)))))))))))))))))))))))))))))))))))))))) (aI (aI @qtx (aI @qt9 (aI @qqf (aI @qtv (aI @qt7 (aI @qqg (aI @qtw (aI (aI @qur (aI @qy1 (aI @qzb (aI @Qjm @qt8)))) (aI @qqe (aI @qtu (aI @qt6 (aI @ql8 (aI @qni (aI @qnn (aI @qzu (aI @q5r (aI @q6e (aI @ql7 (aI @qnh (aI @qnm (aI @qzt (aI @q5q (aI @q6d (aI @qqj (aI @qtz (aI @qub (aI @Qdo (aI @qvi (aI @qq4 (aI @qq3 (aI @qn2 (aI @qt5 (aI @qt4 (aI @q6l (aI @q1c (aI @Qd9 (aI @q1b (aI @qvv (aI @q1a (@Qs3)))))))))))))))))))))))))))))))))))))))) (aI (aI @Qxx (aI @q03 (aI @q0x (aI @q0z (aI @q00 (aI @q01 (aI @q02 (aI @q05 (aI @q0r (aI @q0y (aI @q0w (aI @q0v (aI @q0u (aI @q0t (aI @q04 (aI @q60 (aI @q0q (aI @Qd6 (aI @Qd0 (aI @Qd2 (aI @Qd3 (aI @Qd4 (aI @Qd5 (aI @Qd7 (aI @Qdv (aI @Qd1 (aI @Qdz (aI @Qdy (aI @Qdx (aI @Qdw (aI @Qdh (aI @Qdg (aI @Qdb (aI @Qdc (aI @Qde (aI @Qdd (aI @Qdf (aI @q6b (aI @q6a (@q55)))))))))))))))))))))))))))))))))))))))) (aI @q56 (aI @q58 (aI @q57 (aI @q59 (aI @quv (aI @qzf (aI @Qdt (aI @qu8 (aI @qz9 (aI @Qc9 (aI @qt1 (aI @qy8 (aI @Qdn (aI @qum (aI @qzr (aI @qzn (aI @quk (aI @qzm (aI @Qdl (aI @quf (aI @quh (aI @qzk (aI @qui (aI @qzl (aI @qvd (aI @qq0 (aI @qzg (aI @qno (aI @que (aI @qqb (aI @qqc (aI @qnp (aI @qud (aI @qqa (aI @qzi (aI @qzj (@qzh))))))))))))))))))))))))))))))))))))))))))))))):=aI (aI @qvf (aI @q0d (aI @qun (aI @qup (aI @q0i (aI @q0j (aI @q6z (aI @qvk (aI @q0g (aI @qq6 (aI @q6y (aI @qvj (aI @q0f (aI @qq5 (aI @Qst (aI @q5v (aI @Qc7 (aI @Qc4 (aI @q5x (aI @q5y (aI @Qc5 (aI @Qji (aI @Qc3 (aI @Qc6 (aI @Qss (aI @q5k (aI @Qcz (aI @Qcw (aI @q5m (aI @q5n (aI @Qcx (aI @Qjg (aI @Qcv (aI @Qcy (aI @qq9 (aI @qn4 (aI @qq8 (aI @qn3 (aI @q6v (@q0e)))))))))))))))))))))))))))))))))))))))) (aI (aI @Qjk (aI @q6s (aI @Qds (aI @Qxz (aI @qp6 (aI @ql3 (aI @qp5 (aI @ql2 (aI @q9s (aI @qka (aI @qqd (aI @quq (aI @Qs6 (aI @Qj1 (aI @Qs5 (aI @Qs4 (aI @Qjv (aI @qz7 (aI @Qjw (aI @Qdu (aI @Q0n (aI @Qx2 (aI @Q0k (aI @Qxw (aI @Qxy (aI @Qsv (aI @qz6 (aI @qu1 (aI @qu2 (aI @q6p (aI @qz4 (aI @qz5 (aI @Qdp (aI @q6h (aI @Qjp (aI @Qjq (aI @Qda (aI @q0l (aI @qrd (@qza)))))))))))))))))))))))))))))))))))))))) (aI (aI @qt2 (aI @q54 (aI @qy9 (aI @Qsu (aI @q6t (aI @qvb (aI @qva (aI @qqy (aI @qp4 (aI @ql1 (aI @ql0 (aI @qj6 (aI @qzx (aI @qqr (aI @qqq (aI @qnt (aI @Qju (aI @qz8 (aI @q6q (aI @q6r (aI @Qjl (aI @qy7 (aI @q52 (aI @q53 (aI @Qdm (aI @qul (aI @qzp (aI @qzq (aI @qn1 (aI @qhv (aI @q6x (aI @q6w (aI @Qd8 (aI @qu7 (aI @qqs (aI @qqt (aI @qt3 (aI @qp7 (aI @qp8 (@qql)))))))))))))))))))))))))))))))))))))))) (aI (aI @qnr (aI @qns (aI @quw (aI @qvo (aI @qrl (aI @qrk (aI @qoa (aI @qrj (aI @qvx (aI @qvn (aI @qra (aI @qvm (aI @q0k (aI @Qjo (aI @q0o (aI @qvr (aI @q0m (aI @q0p (aI @qvq (aI @q0n (aI @qqn (aI @qqm (aI @qqo (aI @qnv (aI @qqu (aI @qqx (aI @qny (aI @qqw (aI @qqv (aI @qnx (aI @qnz (aI @qnw (aI @qvt (aI @qre (aI @qvs (aI @qvu (aI @qh8 (aI @qkd (aI @qjf (@qkb)))))))))))))))))))))))))))))))))))))))) (aI (aI @qjd (aI @qje (aI @qkc (aI @qjg (aI @qke (aI @q5w (aI @q5z (aI @q5l (aI @q5o (aI @qj7 (aI @qlz (aI @qnj (aI @qnu (aI @qqp (aI @qux (aI @qqz (aI @qu9 (aI @q0a (aI @qn6 (aI @qrb (aI @qrc (aI @qn5 (aI @qvp (aI @qvw (aI @q69 (aI @Qjt (aI @Q0l (aI @Q0m (aI @qu6 (aI @qu5 (aI @qu4 (aI @qu3 (aI @qu0 (aI @qz1 (aI @qz2 (aI @q6m (aI @Qjr (aI @Qjs (aI @Qsw (@Qx0)))))))))))))))))))))))))))))))))))))))) (aI (aI @Qx1 (aI @qus (aI @qy2 (aI @qzc (aI @ql5 (aI @qnf (aI @qnk (aI @qut (aI @qy3 (aI @qzd (aI @qqi (aI @qty (aI @qua (aI @qmb (aI @qn7 (aI @qn8 (aI @Qjy (aI @qn9 (aI @qrh (aI @qri (aI @Qs2 (aI @Qx5 (aI @Qx6 (aI @qug (aI @quj (aI @qzo (aI @qvg (aI @qvh (aI @q0s (aI @qkg (aI @qkf (aI @qma (aI @ql9 (aI @qrg (aI @qrf (aI @qia (aI @qh9 (aI @qji (aI @qjh (@q50)))))))))))))))))))))))))))))))))))))))) (aI (aI @q51 (aI @qy5 (aI @qy6 (aI @Qdr (aI @q6n (aI @q6o (aI @qz3 (aI @qve (aI @qq1 (aI @qq2 (aI @qn0 (aI @q0h (aI @qvl (aI @qq7 (aI @q0c (aI @qvc (aI @q6u (aI @q0b (aI (aI @Qjz (aI @Qsz (aI @Qs0 (aI @Qs1 (aI @Qx4 (aI @Qx3 @q08)))))) (aI @q65 (aI @q66 (aI @q09 (aI @q67 (aI @q68 (aI @q06 (aI @q61 (aI @q62 (aI @q07 (aI @q63 (aI @q64 (aI @qzy (aI @Qsx (aI @Qsy (aI @qzz (aI @qz0 (aI @quy (aI @quz (aI @Qjj (aI @Qc8 (@q6j)))))))))))))))))))))))))))))))))))))))) (aI (aI @Qc1 (aI @Qdj (aI @quu (aI @qy4 (aI @qze (aI @q5u (aI @Qdq (aI @Qjh (aI @Qjn (aI @qzv (aI @q5s (aI @q6f (aI @qjc (aI @qj5 (aI @qj8 (aI @qj9 (aI @qly (aI @ql4 (aI @q6k (aI @Qc2 (aI @Qdk (aI @qzs (aI @q5p (aI @q6c (aI @qnq (aI @qp3 (aI @qp9 (aI @qzw (aI @q5t (aI @q6g (aI @q6i (aI @Qc0 (aI @Qdi (aI @qqk (aI @qt0 (aI @quc (aI @ql6 (aI @qng (aI @qnl (@qqh)))))))))))))))))))))))))))))))))))))))) (aI (aI @qtx (aI @qt9 (aI @qqf (aI @qtv (aI @qt7 (aI @qqg (aI @qtw (aI (aI @qur (aI @qy1 (aI @qzb (aI @Qjm @qt8)))) (aI @qqe (aI @qtu (aI @qt6 (aI @ql8 (aI @qni (aI @qnn (aI @qzu (aI @q5r (aI @q6e (aI @ql7 (aI @qnh (aI @qnm (aI @qzt (aI @q5q (aI @q6d (aI @qqj (aI @qtz (aI @qub (aI @Qdo (aI @qvi (aI @qq4 (aI @qq3 (aI @qn2 (aI @qt5 (aI @qt4 (aI @q6l (aI @q1c (aI @Qd9 (aI @q1b (aI @qvv (aI @q1a (@Qs3)))))))))))))))))))))))))))))))))))))))) (aI (aI @Qxx (aI @q03 (aI @q0x (aI @q0z (aI @q00 (aI @q01 (aI @q02 (aI @q05 (aI @q0r (aI @q0y (aI @q0w (aI @q0v (aI @q0u (aI @q0t (aI @q04 (aI @q60 (aI @q0q (aI @Qd6 (aI @Qd0 (aI @Qd2 (aI @Qd3 (aI @Qd4 (aI @Qd5 (aI @Qd7 (aI @Qdv (aI @Qd1 (aI @Qdz (aI @Qdy (aI @Qdx (aI @Qdw (aI @Qdh (aI @Qdg (aI @Qdb (aI @Qdc (aI @Qde (aI @Qdd (aI @Qdf (aI @q6b (aI @q6a (@q55)))))))))))))))))))))))))))))))))))))))) (aI @q56 (aI @q58 (aI @q57 (aI @q59 (aI @quv (aI @qzf (aI @Qdt (aI @qu8 (aI @qz9 (aI @Qc9 (aI @qt1 (aI @qy8 (aI @Qdn (aI @qum (aI @qzr (aI @qzn (aI @quk (aI @qzm (aI @Qdl (aI @quf (aI @quh (aI @qzk (aI @qui (aI @qzl (aI @qvd (aI @qq0 (aI @qzg (aI @qno (aI @que (aI @qqb (aI @qqc (aI @qnp (aI @qud (aI @qqa (aI @qzi (aI @qzj (@qzh))))))))))))))))))))))))))))))))))))))))))))))
end Go.AM


set_option linter.unusedSimpArgs false
namespace Go.AM
variable {P:Program} {Gl:qbb} {n m:Nat} {env:Env} {σ:Sto} {K:qhf→Env→Sto→Prop}
theorem qaa (fz ρ:List Nat) {e':Env} {s':Sto} (hm:ρ.take m=List.range m) (hnd:ρ.Nodup) (he:Qsr (e'.map (·.1)) ρ (freezeL σ fz) env=e') (hs:qdy ρ (freezeL σ fz)=s'):qin n m env σ e' s':=by
 have:=Qoj (n:=n) (e'.map (·.1)) fz ρ hm hnd env σ
 rw[he,hs] at this
 exact this
theorem qah (fz ρ:List Nat) {r r':AV} {s':Sto} (hm:ρ.take m=List.range m) (hnd:ρ.Nodup) (he:qbk ρ (freezeL σ fz) r=r') (hs:qdy ρ (freezeL σ fz)=s'):qc3 m r σ r' s':=by
 have:=Qie (m:=m) fz ρ hm hnd r σ
 rw[he,hs] at this
 exact this
theorem qdu {all:Array Oper} {draw:Bool} {K1 K2:Env→Sto→Prop} (hk:∀e s,K1 e s→K2 e s):∀(l:List Oper) (env:Env) (σ:Sto),qar P Gl n all draw l env σ K1→qar P Gl n all draw l env σ K2
 | [],_,_,h=>hk _ _ h
 | o::l,env,σ,h=>by
  simp only[qar] at h ⊢
  refine⟨h.1,?_⟩
  have h2:=h.2
  cases hg:o.guard with
  | none=>
   rw[hg] at h2
   simp only at h2 ⊢
   refine⟨h2.1,?_⟩
   have h3:=h2.2
   by_cases hc:qa6 o.op=true
   ·rw[if_pos hc] at h3 ⊢
    by_cases hd:draw=true
    ·rw[if_pos hd] at h3 ⊢
     rcases h3 with⟨r0,h4,h5⟩|⟨h4,h5,h6⟩|h6
     ·exact .inl ⟨r0,h4,qdu hk l _ _ h5⟩
     rotate_left
     ·exact .inr (.inr h6)
     ·refine .inr (.inl ⟨h4,h5,?_⟩)
      revert h6
      unfold qdq
      split
      ·split
       ·split
        ·exact fun h=>h.mono fun r s h=>hk _ _ h
        ·exact id
       ·exact id
      ·exact id
    ·rw[if_neg hd] at h3 ⊢
     revert h3
     unfold qdq
     split
     ·split
      ·split
       ·exact fun h=>h.mono fun r s h=>qdu hk l _ _ h
       ·exact id
      ·exact id
     ·exact id
   ·rw[if_neg hc] at h3 ⊢
    exact⟨h3.1,qdu hk l _ _ h3.2⟩
  | some jb=>
   obtain⟨j,b⟩:=jb
   rw[hg] at h2
   simp only at h2 ⊢
   by_cases ha:qc2 o.op=true
   ·rw[if_pos ha] at h2 ⊢
    exact⟨h2.1,h2.2.1,h2.2.2.1,h2.2.2.2.1,qdu hk l _ _ h2.2.2.2.2⟩
   rw[if_neg ha] at h2 ⊢
   refine⟨h2.1,h2.2.1,h2.2.2.1,?_⟩
   have h3:=h2.2.2.2
   by_cases hc:qa6 o.op=true
   ·rw[if_pos hc] at h3 ⊢
    obtain⟨r0,h4,h5⟩:=h3
    exact⟨r0,h4,qdu hk l _ _ h5⟩
   ·rw[if_neg hc] at h3 ⊢
    exact⟨h3.1,qdu hk l _ _ h3.2⟩
theorem Qbc {K1 K2:qhf→Env→Sto→Prop} {id:Nat} (hk:∀e env s,K1 e env s→K2 e env s):∀e env s,qgc id K1 e env s→qgc id K2 e env s:=by
 intro e env s h
 cases e with
 | exit i=>
  simp only[qgc] at h ⊢
  split
  ·rename_i hi;rw[if_pos hi] at h;exact hk _ _ _ h
  ·rename_i hi;rw[if_neg hi] at h;exact hk _ _ _ h
 | _=>exact hk _ _ _ h
theorem Qay {all:Array Oper} {env:Env} {σ:Sto} {K1 K2:Env→Sto→Prop} (hk:∀e s,K1 e s→K2 e s) (h:q17 P Gl n m all env σ K1):q17 P Gl n m all env σ K2:=by
 rcases h with h|⟨J,h1,h2,h3⟩
 ·exact .inl h
 ·exact .inr ⟨J,h1,fun l e s a b c=>hk _ _ (h2 l e s a b c),h3⟩
theorem Qfa:∀(c:Code) {env:Env} {σ:Sto} {K1 K2:qhf→Env→Sto→Prop},(∀e env s,K1 e env s→K2 e env s)→evC P Gl n m c env σ K1→evC P Gl n m c env σ K2:=by
 intro c
 induction c with
 | skip=>intro env σ K1 K2 hk h;exact hk _ _ _ h
 | region id ops draw=>intro env σ K1 K2 hk h;exact⟨fun hd=>Qay (fun e s h=>hk _ e s h) (h.1 hd),qdu (fun e s h=>hk _ e s h) _ _ _ h.2⟩
 | seq x y ihx ihy=>intro env σ K1 K2 hk h;exact ihx (qh2 hk fun e s h=>ihy hk h) h
 | cond c x y ihx ihy=>intro env σ K1 K2 hk h;exact⟨h.1,h.2.1,fun ht=>ihx hk (h.2.2.1 ht),fun ht=>ihy hk (h.2.2.2 ht)⟩
 | block id c ih=>intro env σ K1 K2 hk h;exact ih (Qbc hk) h
 | loop c ih=>
  intro env σ K1 K2 hk h
  obtain⟨Inv,ν,h0,hs⟩:=h
  exact⟨Inv,ν,h0,fun e s hi=>ih (qh2 hk fun _ _ h=>h) (hs e s hi)⟩
 | exit id=>intro env σ K1 K2 hk h;exact hk _ _ _ h
 | ret=>intro env σ K1 K2 hk h;exact hk _ _ _ h
 | scope c ih=>intro env σ K1 K2 hk h;exact ih hk h
 | label l=>intro env σ K1 K2 hk h;exact hk _ _ _ h
 | _=>intro env σ K1 K2 hk h;exact h.elim
theorem qcy {c:Code} {τ:Type} (E:τ→Env) (S:τ→Sto) (Inv:τ→Prop) (ν:τ→Nat) (x0:τ) (h0:Inv x0) (hw:qin n m env σ (E x0) (S x0))
  (hs:∀x,Inv x→evC P Gl n m c (E x) (S x) (qm8 K fun e s=>∃y,Inv y∧ν y<ν x∧qin n m e s (E y) (S y))) :
  evC P Gl n m (.loop c) env σ K:=by
 classical
 let μ:Env→Sto→Nat:=fun e s=>if h:∃k,∃x,Inv x∧e=E x∧s=S x∧ν x=k then Classical.choose (qe7 h) else 0
 have hμ:∀x,Inv x→(∃y,Inv y∧E x=E y∧S x=S y∧ν y=μ (E x) (S x))∧μ (E x) (S x)≤ν x:=fun x hx=>by
  have h:∃k,∃y,Inv y∧E x=E y∧S x=S y∧ν y=k:=⟨_,x,hx,rfl,rfl,rfl⟩
  have e:μ (E x) (S x)=Classical.choose (qe7 h):=by simp only[μ];rw[dif_pos h]
  rw[e]
  have:=Classical.choose_spec (qe7 h)
  exact⟨this.1,this.2 _ ⟨x,hx,rfl,rfl,rfl⟩⟩
 refine⟨fun e s=>∃x,Inv x∧e=E x∧s=S x,μ,⟨_,_,hw,x0,h0,rfl,rfl⟩,?_⟩
 rintro e s ⟨x,hx,rfl,rfl⟩
 obtain⟨⟨y,hy,e1,e2,e3⟩,_⟩:=hμ x hx
 rw[e1,e2]
 rw[e1,e2] at e3
 refine Qfa _ (fun a b c h=>?_) (hs y hy)
 revert h
 refine qh2 (fun _ _ _ h=>h) (fun e s h=>?_) a b c
 obtain⟨z,hz,hlt,hw⟩:=h
 refine⟨_,_,hw,⟨z,hz,rfl,rfl⟩,?_⟩
 have:=(hμ z hz).2
 omega
theorem qap {c:Code} (N:Nat) (E:Nat→Env) (S:Nat→Sto) (Inv:Nat→Prop) (h0:Inv 0) (hw:qin n m env σ (E 0) (S 0))
  (hs:∀k,Inv k→k≤N→evC P Gl n m c (E k) (S k) (qm8 K fun e s=>k<N∧Inv (k+1)∧qin n m e s (E (k+1)) (S (k+1)))) :
  evC P Gl n m (.loop c) env σ K:=
 qcy E S (fun k=>Inv k∧k≤N) (fun k=>N-k) 0 ⟨h0,Nat.zero_le _⟩ hw fun k hk=>Qfa _ (qh2 (fun _ _ _ h=>h) fun _ _ h=>⟨k+1,⟨h.2.1,by omega⟩,by omega,h.2.2⟩) (hs k hk.1 hk.2)
end Go.AM


namespace Go.AM
def qb6 (ρ:List Nat) (N:Nat) (j:Nat):Nat:=if j<ρ.length then ρ.getD j 0 else N+(j-ρ.length)
mutual
def qhq (b:Nat→Nat):AV→AV
 | .undef=>.undef
 | .d x=>.d x
 | .nils=>.nils
 | .agg cs=>.agg (qxm b cs)
 | .ptr id off=>.ptr (b id) off
 | .eptr es xs i off=>.eptr es xs i off
 | .aptr id i off=>.aptr (b id) i off
 | .osl id off len=>.osl (b id) off len
 | .rsl id len=>.rsl (b id) len
 | .fn f caps=>.fn f (qxm b caps)
 | .tup vs=>.tup (qxm b vs)
 | .iff g v=>.iff g (qhq b v)
 | .mapr id=>.mapr (b id)
 | .anyb=>.anyb
def qxm (b:Nat→Nat):List AV→List AV
 | []=>[]
 | c::r=>qhq b c::qxm b r
end
theorem qgd (b:Nat→Nat):∀l:List AV,qxm b l=l.map (qhq b)
 | []=>rfl
 | c::r=>by rw[qxm,qgd b r];rfl
def qdo (b:Nat→Nat):Blk→Blk
 | .box n v=>.box n (qhq b v)
 | .map ik f=>.map ik fun k=>(f k).map (qhq b)
 | B=>B
def qeo (ρ:List Nat) (σ s:Sto):Sto:=(List.range (σ.length+(s.length-ρ.length))).map fun id=>
 match qcl ρ id with
 | some j=>qdo (qb6 ρ σ.length) (qad s j)
 | none=>if id<σ.length then qad σ id else qdo (qb6 ρ σ.length) (qad s (ρ.length+(id-σ.length)))
variable {P:Program} {Gl:qbb} {w w':World} {I I':Im} {μ μ':Pos} {σ s s':Sto}
theorem qfz (b:Nat→Nat) (B:Blk):(qdo b B).isDead=B.isDead∧(qdo b B).isArr=B.isArr∧(qdo b B).es=B.es∧(qdo b B).xs=B.xs∧(qdo b B).own=B.own:=by
 cases B<;>exact⟨rfl,rfl,rfl,rfl,rfl⟩
theorem Qfq (b:Nat→Nat) (v:AV):(qhq b v).one=v.one:=by
 cases v<;>rfl
theorem qdr.im (h:∀b,I.rd b→I'.rd b) {v:Value} {x:D} (hv:qdr w I v x):qdr w I' v x:=hv.keep h (fun _ _=>rfl)
theorem Qfp {b:Nat→Nat} (hI:∀x,I.rd x→I'.rd x)
  (hb:∀j<s.length,b j<s'.length∧(qch s' (b j)→qch s j∧μ' (b j)=μ j∧(qad s' (b j)).isArr=(qad s j).isArr∧(qad s' (b j)).es=(qad s j).es∧(qad s' (b j)).xs=(qad s j).xs))
  {v:Value} {u:AV} (hv:qbf w I μ s v u):qbf w I' μ' s' v (qhq b u):=by
 have lst:∀{vs:List Value} {cs:List AV},(∀(i:Nat) (v:Value) (x:AV),vs[i]? = some v→cs[i]? = some x→qbf w I' μ' s' v (qhq b x))→∀(i:Nat) (v:Value) (x:AV),vs[i]? = some v→(qxm b cs)[i]? = some x→qbf w I' μ' s' v x:=fun {vs cs} h i v x hv hx=>by
  rw[qgd,List.getElem?_map] at hx
  cases hc:cs[i]? with
  | none=>rw[hc] at hx;cases hx
  | some c=>
   rw[hc] at hx
   simp only[Option.map_some,Option.some.injEq] at hx
   subst hx
   exact h i v c hv hc
 induction hv with
 | undef v=>exact .undef v
 | d v x h=>exact .d v x (h.im hI)
 | nils=>exact .nils
 | agg vs cs hl hone h ih=>
  refine .agg vs _ (by rw[qgd];simpa using hl) (fun c hc=>?_) (lst ih)
  rw[qgd] at hc
  obtain⟨c',hc',rfl⟩:=List.mem_map.1 hc
  rw[Qfq];exact hone c' hc'
 | ptr v id off hid h=>
  obtain⟨q1,q2⟩:=hb id hid
  obtain⟨b',base,h1,h2⟩:=h
  exact .ptr v _ off q1 ⟨b',base,fun ha=>by rw[(q2 ha).2.1];exact h1 (q2 ha).1,h2⟩
 | eptr b' o es xs i off h=>exact .eptr b' o es xs i off (h.keep hI (fun _ _=>rfl))
 | aptr v id i off hid h=>
  obtain⟨q1,q2⟩:=hb id hid
  obtain⟨b',base,es,h1,h2⟩:=h
  exact .aptr v _ i off q1 ⟨b',base,es,fun ha=>by obtain⟨a1,a2,a3,a4,a5⟩:=q2 ha;rw[a2,a4];exact h1 a1,h2⟩
 | osl v id off len hid h=>
  obtain⟨q1,q2⟩:=hb id hid
  refine .osl v _ off len q1 ?_
  rcases h with h|⟨b',base,es,cap,h1,h2,h3⟩
  ·exact .inl h
  ·refine .inr ⟨b',base,es,cap,fun ha=>?_,h2,h3⟩
   obtain⟨a1,a2,a3,a4,a5⟩:=q2 ha
   rw[a2,a3,a4,a5];exact h1 a1
 | rsl v id len hid h=>
  obtain⟨q1,q2⟩:=hb id hid
  obtain⟨b',base,cap,h1,h2⟩:=h
  exact .rsl v _ len q1 ⟨b',base,cap,fun ha=>by rw[(q2 ha).2.1];exact h1 (q2 ha).1,h2⟩
 | fn f vs caps hl h ih=>exact .fn f vs _ (by rw[qgd];simpa using hl) (lst ih)
 | tup vs cs hl h ih=>exact .tup vs _ (by rw[qgd];simpa using hl) (lst ih)
 | iff g v x h1 h2 ih=>exact .iff g v _ ih h2
 | mapr v id hid h=>
  obtain⟨q1,q2⟩:=hb id hid
  obtain⟨b',h1,h2⟩:=h
  exact .mapr v _ q1 ⟨b',fun ha=>by rw[(q2 ha).2.1];exact h1 (q2 ha).1,h2⟩
 | anyb c=>exact .anyb c
theorem q2f (b:Nat→Nat) (v:AV) (j:Nat) (hj:j<v.ncells):(qhq b v).ncells=v.ncells∧(qhq b v).cellAt j=qhq b (v.cellAt j):=by
 cases v with
 | agg cs=>
  simp only[qhq,AV.ncells,qgd] at hj ⊢
  refine⟨by simp,?_⟩
  simp only[AV.cellAt,List.getD_eq_getElem?_getD,List.getElem?_map,List.getElem?_eq_getElem hj,Option.map_some,Option.getD_some]
 | _=>exact⟨rfl,rfl⟩
theorem Qnt (ρ:List Nat) (σ s:Sto):(qeo ρ σ s).length=σ.length+(s.length-ρ.length):=by simp[qeo]
theorem qmz {ρ:List Nat} {σ s:Sto} {id:Nat} (h:id<σ.length+(s.length-ρ.length)):qad (qeo ρ σ s) id=(match qcl ρ id with
  | some j=>qdo (qb6 ρ σ.length) (qad s j)
  | none=>if id<σ.length then qad σ id else qdo (qb6 ρ σ.length) (qad s (ρ.length+(id-σ.length)))):=by
 conv=>lhs;unfold qad qeo
 rw[List.getD_eq_getElem?_getD,List.getElem?_map,List.getElem?_range h]
 rfl
theorem Qeu {ρ:List Nat} (hnd:ρ.Nodup) {j:Nat} (hj:j<ρ.length):qcl ρ (ρ.getD j 0)=some j:=by
 have e:ρ.getD j 0=ρ[j]:=by simp[hj]
 rw[e]
 unfold qcl
 rw[List.findIdx?_eq_some_iff_getElem]
 refine⟨hj,by simp,fun k hk=>?_⟩
 simp only[beq_iff_eq]
 intro he
 have:=(List.getElem_inj hnd).1 he
 omega
theorem Qha {ρ:List Nat} {id:Nat} (h:qcl ρ id=none):id∉ρ:=by
 unfold qcl at h
 rw[List.findIdx?_eq_none_iff] at h
 intro hm
 have:=h id hm
 simp at this
mutual
theorem qpu:∀u:AV,qhq (fun j=>j) u=u
 | .undef|.d _|.nils|.ptr ..|.eptr ..|.aptr ..|.osl ..|.rsl ..|.mapr _|.anyb=>by simp[qhq]
 | .agg cs=>by rw[qhq,qs2 cs]
 | .fn f caps=>by rw[qhq,qs2 caps]
 | .tup vs=>by rw[qhq,qs2 vs]
 | .iff g v=>by rw[qhq,qpu v]
theorem qs2:∀l:List AV,qxm (fun j=>j) l=l
 | []=>by simp[qxm]
 | c::r=>by rw[qxm,qpu c,qs2 r]
end
theorem qbf.im (h:∀b,I.rd b→I'.rd b) {v:Value} {u:AV} (hv:qbf w I μ s v u):qbf w I' μ s v u:=by
 have:=Qfp (I':=I') (μ':=μ) (s':=s) (b:=fun j=>j) h (fun j hj=>⟨hj,fun ha=>⟨ha,rfl,rfl,rfl,rfl⟩⟩) hv
 rwa [qpu] at this
theorem Qeb {b:Nat} (h:qdp w b):b<w.heap.size:=by
 obtain⟨c,t,hc⟩:=h
 rcases Nat.lt_or_ge b w.heap.size with h'|h'
 ·exact h'
 ·rw[Array.getElem?_eq_none h'] at hc;cases hc
theorem qv1 (hR:Rel w I μ σ) {id:Nat} (ho:(qad σ id).own=true) {b o:Nat} (hm:μ id=some (b,o)):b<w.heap.size∧¬I.fr b:=by
 have hb:=hR.blk id (qba ho)
 cases hB:qad σ id with
 | box k v=>
  rw[hB] at hb
  obtain⟨b',base,h1,h2,h3,_⟩:=hb
  rw[hm] at h1;cases h1
  exact⟨Qeb h3,h2⟩
 | arr es xs=>
  rw[hB] at hb
  rcases hb with⟨h1,_⟩|⟨b',base,h1,h2,h3,_⟩
  ·rw[hm] at h1;cases h1
  ·rw[hm] at h1;cases h1
   exact⟨Qeb h3,h2⟩
 | map ik f=>
  rw[hB] at hb
  obtain⟨b',es,clock,h1,h2,⟨h3,_⟩,_⟩:=hb
  rw[hm] at h1;cases h1
  refine⟨?_,h2⟩
  rcases Nat.lt_or_ge b w.heap.size with h'|h'
  ·exact h'
  ·rw[Array.getElem?_eq_none h'] at h3;cases h3
 | _=>rw[hB] at ho;simp[Blk.own] at ho
theorem qe9.im {id id':Nat} {B:Blk} {b:Nat→Nat} (hI:∀x,I.rd x→I'.rd x) (hf:B.own=true→∀x o,μ id=some (x,o)→¬I.fr x→¬I'.fr x)
  (hμ:μ' id'=μ id) (hv:∀{v:Value} {u:AV},qbf w I μ s v u→qbf w I' μ' s' v (qhq b u)) (hb:qe9 w I μ s id B):qe9 w I' μ' s' id' (qdo b B):=by
 cases B with
 | dead=>trivial
 | box k v=>
  obtain⟨x,base,h1,h2,h3,h4,h5,h6⟩:=hb
  refine⟨x,base,hμ.trans h1,hf rfl x base h1 h2,h3,h4,?_,fun q hq=>?_⟩
  ·rcases Nat.eq_zero_or_pos v.ncells with hz|hp
   ·cases v<;>simp_all [AV.ncells,qhq,qgd]
   ·rw[(q2f b v 0 hp).1];exact h5
  ·obtain⟨a0,u,a1,a2⟩:=h6 q hq
   rw[(q2f b v q (by omega)).2,Qfq]
   exact⟨a0,u,a1,hv a2⟩
 | arr es xs=>
  rcases hb with hb|⟨x,base,h1,h2,h3,h4,h5,h6,h7⟩
  ·exact .inl ⟨hμ.trans hb.1,hb.2⟩
  ·exact .inr ⟨x,base,hμ.trans h1,hf rfl x base h1 h2,h3,h4,h5,h6,fun i q x y hx hy=>by obtain⟨v,a1,a2⟩:=h7 i q x y hx hy;exact⟨v,a1,a2.im hI⟩⟩
 | frz es xs=>
  rcases hb with hb|⟨x,base,h1,h2⟩
  ·exact .inl ⟨hμ.trans hb.1,hb.2⟩
  ·exact .inr ⟨x,base,hμ.trans h1,Qhu.keep (w:=w) hI (fun _ _=>rfl) h2⟩
 | map ik f=>
  obtain⟨x,es,clock,h1,h2,h3,h4⟩:=hb
  exact⟨x,es,clock,hμ.trans h1,hf rfl x 0 h1 h2,h3,h4.imp fun v u hr=>hv hr⟩
theorem qal.under {f:FuncId} {args:List AV} {R:AV→Sto→Prop} (ρ:List Nat) (hnd:ρ.Nodup) (hlt:∀id∈ρ,id<σ.length) (h:qal P Gl f (args.map (qbk ρ σ)) (qdy ρ σ) R) :
  qal P Gl f args σ (fun r s=>∃r0 s0,R r0 s0∧r=qhq (qb6 ρ σ.length) r0∧s=qeo ρ σ s0):=by
 intro w I μ vals hR hG hl hv
 let given:Nat→Prop:=fun b=>∃id∈ρ,(qad σ id).own=true∧∃o,μ id=some (b,o)
 let J:Im:={rd:=I.rd,fr:=fun b=>b<w.heap.size∧¬given b,sub:=fun b hb=>⟨hR.imm b (I.sub b hb),fun⟨id,_,ho,o,hm⟩=>(qv1 hR ho hm).2 (I.sub b hb)⟩}
 have frJ:∀b,I.fr b→J.fr b:=fun b hb=>⟨hR.imm b hb,fun⟨id,_,ho,o,hm⟩=>(qv1 hR ho hm).2 hb⟩
 obtain⟨r1,r2⟩:=Qja (m:=0) hR (ρ:=ρ) rfl hnd
 have hlen0:(qdy ρ σ).length=ρ.length:=by simp[qdy]
 have own0:∀j,(qad (qdy ρ σ) j).own=true→∃id,ρ[j]? = some id∧(qad σ id).own=true:=fun j hj=>by
  have hl:=qba hj
  rw[hlen0] at hl
  have hs:ρ[j]? = some ρ[j]:=List.getElem?_eq_getElem hl
  refine⟨ρ[j],hs,?_⟩
  rw[qgx hs] at hj
  cases hB:qad σ ρ[j] with
  | box k v=>rfl
  | arr es xs=>rfl
  | map ik f=>rfl
  | _=>rw[hB] at hj;simp[qbs,Blk.own] at hj
 have posR:∀j id,ρ[j]? = some id→qfg ρ μ j=μ id:=fun j id hj=>by unfold qfg;rw[hj]
 have notJ:∀j,(qad (qdy ρ σ) j).own=true→∀b o,qfg ρ μ j=some (b,o)→¬J.fr b:=fun j hj b o hm hf=>by
  obtain⟨id,h1,h2⟩:=own0 j hj
  rw[posR j id h1] at hm
  exact hf.2 ⟨id,List.mem_of_getElem? h1,h2,o,hm⟩
 have backBid:∀B:Blk,qdo (fun j=>j) B=B:=fun B=>by
  cases B with
  | map ik f=>
   simp only[qdo]
   congr 1
   funext k
   cases f k<;>simp[qpu]
  | _=>simp[qdo,qpu]
 have hRJ:Rel w J (qfg ρ μ) (qdy ρ σ):=by
  refine⟨fun b hb=>hb.1,fun j hj=>?_,r1.apart⟩
  have:=qe9.im (w:=w) (I:=I) (I':=J) (s:=qdy ρ σ) (μ':=qfg ρ μ) (s':=qdy ρ σ) (id':=j) (b:=fun j=>j) (fun _ h=>h) (fun ho b o hm _=>notJ j ho b o hm) rfl (fun {v u} hv=>by rw[qpu];exact qbf.im (I:=I) (I':=J) (fun _ h=>h) hv) (r1.blk j hj)
  rwa [backBid] at this
 have hGJ:qhz Gl w J:=⟨fun p hp=>Qhu.keep (w:=w) (I:=I) (I':=J) (fun _ h=>h) (fun _ _=>rfl) (hG.sl p hp),hG.ex⟩
 refine(h w J (qfg ρ μ) vals hRJ hGJ (by simp[hl]) fun i v u hv' hu=>?_).mono fun v w' ⟨r0,s0,I1,μ1,q1,q2,q3,q4⟩=>?_
 ·rw[List.getElem?_map] at hu
  cases ha:args[i]? with
  | none=>rw[ha] at hu;cases hu
  | some a=>
   rw[ha] at hu
   simp only[Option.map_some,Option.some.injEq] at hu
   subst hu
   exact qbf.im (I:=I) (I':=J) (fun _ h=>h) (qnc hR (hv i v a hv' ha))
 ·have hge:ρ.length≤s0.length:=by have:=q2.len;omega
  let I2:Im:={rd:=I1.rd,fr:=fun b=>I.fr b∨I1.rd b,sub:=fun b hb=>.inr hb}
  let N:=σ.length
  let s2:=qeo ρ σ s0
  let μ2:Pos:=fun id=>match qcl ρ id with|some j=>μ1 j|none=>if id<N then μ id else μ1 (ρ.length+(id-N))
  have s2len:s2.length=N+(s0.length-ρ.length):=Qnt ρ σ s0
  have hρ:∀j,j<ρ.length→ρ.getD j 0∈ρ:=fun j hj=>by simp[hj]
  have hnone:∀id,N≤id→qcl ρ id=none:=fun id hid=>by
   cases hx:qcl ρ id with
   | none=>rfl
   | some j=>have:=hlt id (List.mem_of_getElem? (qle hx));omega
  have factB:∀j,j<s0.length→qb6 ρ N j<s2.length∧qad s2 (qb6 ρ N j)=qdo (qb6 ρ N) (qad s0 j)∧μ2 (qb6 ρ N j)=μ1 j:=fun j hj=>by
   by_cases hj2:j<ρ.length
   ·have e:qb6 ρ N j=ρ.getD j 0:=by unfold qb6;rw[if_pos hj2]
    have hlt':ρ.getD j 0<N:=hlt _ (hρ j hj2)
    rw[e]
    refine⟨by omega,?_,?_⟩
    ·show qad (qeo ρ σ s0) _=_
     rw[qmz (by omega),Qeu hnd hj2]
    ·simp only[μ2];rw[Qeu hnd hj2]
   ·have e:qb6 ρ N j=N+(j-ρ.length):=by unfold qb6;rw[if_neg hj2]
    rw[e]
    refine⟨by omega,?_,?_⟩
    ·show qad (qeo ρ σ s0) _=_
     rw[qmz (by omega),hnone _ (by omega)]
     simp only
     rw[if_neg (by omega)]
     congr 2;omega
    ·simp only[μ2];rw[hnone _ (by omega)]
     simp only
     rw[if_neg (by omega)]
     congr 1;omega
  have factC:∀id,id<s2.length→(∃j,j<s0.length∧id=qb6 ρ N j)∨(id<N∧id∉ρ∧qad s2 id=qad σ id∧μ2 id=μ id):=fun id hid=>by
   cases hx:qcl ρ id with
   | some j=>
    left
    have hs:=qle hx
    have hj:j<ρ.length:=by
     rcases Nat.lt_or_ge j ρ.length with h'|h'
     ·exact h'
     ·rw[List.getElem?_eq_none h'] at hs;cases hs
    refine⟨j,by omega,?_⟩
    unfold qb6;rw[if_pos hj,List.getD_eq_getElem?_getD,hs];rfl
   | none=>
    by_cases hn:id<N
    ·right
     refine⟨hn,Qha hx,?_,?_⟩
     ·show qad (qeo ρ σ s0) _=_
      rw[qmz (by omega),hx]
      simp only
      rw[if_pos hn]
     ·simp only[μ2];rw[hx];simp only;rw[if_pos hn]
    ·left
     refine⟨ρ.length+(id-N),by omega,?_⟩
     unfold qb6;rw[if_neg (by omega)];omega
  have aliveB:∀j,j<s0.length→(qch s2 (qb6 ρ N j)→qch s0 j):=fun j hj ha=>by
   unfold qch at *
   rw[(factB j hj).2.1,(qfz _ _).1] at ha
   exact ha
  have repB:∀{v:Value} {u:AV},qbf w' I1 μ1 s0 v u→qbf w' I2 μ2 s2 v (qhq (qb6 ρ N) u):=fun {v u} hv=>
   Qfp (I:=I1) (I':=I2) (fun _ h=>h) (fun j hj=>by
    obtain⟨b1,b2,b3⟩:=factB j hj
    obtain⟨_,c2,c3,c4,_⟩:=qfz (qb6 ρ N) (qad s0 j)
    exact⟨b1,fun ha=>⟨aliveB j hj ha,b3,by rw[b2,c2],by rw[b2,c3],by rw[b2,c4]⟩⟩) hv
  have kp:qct N w I μ σ w' I2 μ2 s2:=by
   refine⟨q2.os,q2.tape,q2.output,q2.size,q2.imm,fun b hb=>.inl hb,fun b hb=>?_,fun b hb=>q2.same b (frJ b hb),q2.bsize,by omega,fun id hid ha=>?_⟩
   ·rcases q2.rdn b hb with h1|h1
    ·exact .inl h1
    ·exact .inr fun hf=>h1 (frJ b hf)
   ·rcases factC id (by omega) with⟨j,hj,rfl⟩|⟨_,_,c3,c4⟩
    ·obtain⟨b1,b2,b3⟩:=factB j hj
     obtain⟨_,c2,c3,c4,_⟩:=qfz (qb6 ρ N) (qad s0 j)
     have hj2:j<ρ.length:=by
      rcases Nat.lt_or_ge j ρ.length with h'|h'
      ·exact h'
      ·unfold qb6 at hid;rw[if_neg (by omega)] at hid;omega
     have hs:ρ[j]? = some (qb6 ρ N j):=by
      unfold qb6;rw[if_pos hj2];simp[hj2]
     obtain⟨o1,o2,o3,o4,o5⟩:=q2.old j (by omega) (aliveB j hj ha)
     have hb0:=qgx (σ:=σ) hs
     obtain⟨d1,d2,d3⟩:=q2y ρ σ (qad σ (qb6 ρ N j))
     refine⟨?_,?_,?_,?_,?_⟩
     ·unfold qch at o1 ⊢;rw[hb0] at o1;exact qpc o1
     ·rw[b3,o2];exact posR j _ hs
     ·rw[b2,c2,o3,hb0,d1]
     ·rw[b2,c3,o4,hb0,d2]
     ·rw[b2,c4];rw[hb0,d3] at o5;exact o5
    ·unfold qch at ha ⊢
     rw[c3] at ha
     exact⟨ha,c4,by rw[c3],by rw[c3],by rw[c3];exact Nat.le_refl _⟩
  have ownC:∀id,id∉ρ→(qad σ id).own=true→∀b o,μ id=some (b,o)→J.fr b:=fun id hid ho b o hm=>
   ⟨(qv1 hR ho hm).1,fun⟨id',h1,h2,o',h3⟩=>hR.apart id id' b b o o' (fun e=>hid (e▸h1)) ho h2 hm h3 rfl⟩
  refine⟨qhq (qb6 ρ N) r0,s2,I2,μ2,?_,kp,repB q3,r0,s0,q4,rfl,rfl⟩
  refine⟨fun b hb=>?_,fun id hid=>?_,fun i j b b' o o' hij hi hj hμi hμj=>?_⟩
  ·rcases hb with hb|hb
   ·exact Nat.lt_of_lt_of_le (hR.imm b hb) q2.size
   ·exact q1.imm b (I1.sub b hb)
  ·rcases factC id hid with⟨j,hj,rfl⟩|⟨c1,c2,c3,c4⟩
   ·obtain⟨b1,b2,b3⟩:=factB j hj
    rw[b2]
    refine qe9.im (I:=I1) (I':=I2) (fun _ h=>h) (fun ho b o hm hn hf=>?_) b3 repB (q1.blk j hj)
    rcases hf with hf|hf
    ·exact hn (q2.fr b (frJ b hf))
    ·exact hn (I1.sub b hf)
   ·rw[c3]
    refine qe9.keep kp c4 (fun ho b o hm=>?_) (hR.blk id c1)
    have hJ:=ownC id c2 ho b o hm
    refine⟨q2.same b hJ,fun hn hf=>?_⟩
    rcases hf with hf|hf
    ·exact hn hf
    ·rcases q2.rdn b hf with h1|h1
     ·exact hn (I.sub b h1)
     ·exact h1 hJ
  ·rcases factC i (qba hi) with⟨j1,hj1,rfl⟩|⟨c1,c2,c3,c4⟩<;>rcases factC j (qba hj) with⟨j2,hj2,rfl⟩|⟨e1,e2,e3,e4⟩
   ·rw[(factB j1 hj1).2.1,(qfz _ _).2.2.2.2] at hi
    rw[(factB j2 hj2).2.1,(qfz _ _).2.2.2.2] at hj
    rw[(factB j1 hj1).2.2] at hμi
    rw[(factB j2 hj2).2.2] at hμj
    exact q1.apart j1 j2 b b' o o' (fun e=>hij (by rw[e])) hi hj hμi hμj
   ·rw[(factB j1 hj1).2.1,(qfz _ _).2.2.2.2] at hi
    rw[(factB j1 hj1).2.2] at hμi
    rw[e3] at hj
    rw[e4] at hμj
    intro e
    subst e
    exact(qv1 q1 hi hμi).2 (q2.fr _ (ownC j e2 hj _ _ hμj))
   ·rw[(factB j2 hj2).2.1,(qfz _ _).2.2.2.2] at hj
    rw[(factB j2 hj2).2.2] at hμj
    rw[c3] at hi
    rw[c4] at hμi
    intro e
    subst e
    exact(qv1 q1 hj hμj).2 (q2.fr _ (ownC i c2 hi _ _ hμi))
   ·rw[c3] at hi
    rw[c4] at hμi
    rw[e3] at hj
    rw[e4] at hμj
    exact hR.apart i j b b' o o' hij hi hj hμi hμj
theorem q85 (σ:Sto):qeo [] σ []=σ:=by
 unfold qeo
 simp only[List.length_nil,Nat.sub_zero,Nat.add_zero]
 apply List.ext_getElem?
 intro i
 rw[List.getElem?_map]
 rcases Nat.lt_or_ge i σ.length with h|h
 ·rw[List.getElem?_range h]
  simp only[Option.map_some,qcl,List.findIdx?_nil,if_pos h]
  unfold qad
  simp[h]
 ·rw[List.getElem?_eq_none (by simpa using h),List.getElem?_eq_none h];rfl
theorem qal.pure {f:FuncId} {args:List D} {y:D} (h:qal P Gl f (args.map AV.d) [] (fun r s=>r=.d y∧s=[])) (s:Sto):qal P Gl f (args.map AV.d) s (fun r s'=>r=.d y∧s'=s):=by
 have e:(args.map AV.d).map (qbk [] s)=args.map AV.d:=by simp[qbk,qlw]
 have h1:=qal.under (P:=P) (Gl:=Gl) (f:=f) (args:=args.map AV.d) (R:=fun r s=>r=.d y∧s=[]) (σ:=s) [] List.nodup_nil (by simp) (by rw[e];exact h)
 refine h1.mono fun r s' h2=>?_
 obtain⟨r0,s0,⟨h1,h2⟩,h3,h4⟩:=h2
 subst h1;subst h2;subst h3;subst h4
 exact⟨by simp[qhq],q85 s⟩
end Go.AM


namespace Go.AM
theorem Qnx:type_of% (aI @List.set_cons_zero.{0} (aI @List.set_cons_succ.{0} (aI @List.nil_append.{0} (aI @List.cons_append.{0} (aI @List.append_nil.{0} (aI @List.length_cons.{0} (aI @List.length_nil.{0} (aI @List.length_map.{0,0} (aI @List.map_cons.{0,0} (aI @List.map_nil.{0,0} (aI @List.getD_cons_zero.{0} (aI @List.getD_cons_succ.{0} (aI @List.drop_zero.{0} (aI @List.drop_succ_cons.{0} (aI @List.drop_nil.{0} (aI @List.take_zero.{0} (aI @List.take_succ_cons.{0} (aI @List.take_nil.{0} (aI @List.all_cons.{0} (aI @List.all_nil.{0} (aI @List.flatMap_cons.{0,0} (aI @List.flatMap_nil.{0,0} (aI @Int.toNat_natCast (aI @true_and (aI @and_true (aI @false_and (aI @and_false (aI @true_or (aI @or_true (aI @false_or (aI @or_false (aI @and_self (aI @or_self (aI @not_true_eq_false (aI @not_false_eq_true (aI @if_true.{1} (aI @if_false.{1} (aI @true_implies (aI @false_implies (aI @implies_true.{0} (aI @Option.isSome_some.{0} (aI @Option.map_some.{0,0} (aI @Option.map_none.{0,0} (aI @Bool.and_true (aI @Bool.true_and (aI @Bool.and_false (aI @Bool.false_and (aI @Bool.or_true (aI @Bool.true_or (aI @Bool.or_false (aI @Bool.false_or (aI @Bool.not_true (aI @Bool.not_false (aI @Bool.false_eq_true (aI @ne_eq.{1} (aI @Nat.le_refl (aI @Nat.zero_add (aI @Nat.add_zero (aI @decide_true (aI @decide_false (aI @Nat.zero_le (aI @cond_true.{1} (aI @cond_false.{1} (aI @Int.natCast_nonneg (aI @List.getElem?_cons_zero.{0} (aI @List.getElem?_cons_succ.{0} (aI @eq_self.{1} (aI @List.length_append.{0} (aI @List.getD_nil.{0} (aI @List.append_assoc.{0} (aI @List.length_set.{0} (aI @beq_true (aI @beq_false (aI @imp_self (aI @List.mem_cons.{0} (aI @List.not_mem_nil.{0} (aI @forall_eq_or_imp.{1} (aI @forall_eq.{1} (aI @Bool.cond_false_right (aI @Bool.cond_true_right (aI @Bool.cond_false_left (aI @Bool.cond_true_left (aI @Bool.cond_self.{1} (@Bool.not_not)))))))))))))))))))))))))))))))))))))))))))))))))))))))))))))))))))))))))))))))))))):=aI @List.set_cons_zero.{0} (aI @List.set_cons_succ.{0} (aI @List.nil_append.{0} (aI @List.cons_append.{0} (aI @List.append_nil.{0} (aI @List.length_cons.{0} (aI @List.length_nil.{0} (aI @List.length_map.{0,0} (aI @List.map_cons.{0,0} (aI @List.map_nil.{0,0} (aI @List.getD_cons_zero.{0} (aI @List.getD_cons_succ.{0} (aI @List.drop_zero.{0} (aI @List.drop_succ_cons.{0} (aI @List.drop_nil.{0} (aI @List.take_zero.{0} (aI @List.take_succ_cons.{0} (aI @List.take_nil.{0} (aI @List.all_cons.{0} (aI @List.all_nil.{0} (aI @List.flatMap_cons.{0,0} (aI @List.flatMap_nil.{0,0} (aI @Int.toNat_natCast (aI @true_and (aI @and_true (aI @false_and (aI @and_false (aI @true_or (aI @or_true (aI @false_or (aI @or_false (aI @and_self (aI @or_self (aI @not_true_eq_false (aI @not_false_eq_true (aI @if_true.{1} (aI @if_false.{1} (aI @true_implies (aI @false_implies (aI @implies_true.{0} (aI @Option.isSome_some.{0} (aI @Option.map_some.{0,0} (aI @Option.map_none.{0,0} (aI @Bool.and_true (aI @Bool.true_and (aI @Bool.and_false (aI @Bool.false_and (aI @Bool.or_true (aI @Bool.true_or (aI @Bool.or_false (aI @Bool.false_or (aI @Bool.not_true (aI @Bool.not_false (aI @Bool.false_eq_true (aI @ne_eq.{1} (aI @Nat.le_refl (aI @Nat.zero_add (aI @Nat.add_zero (aI @decide_true (aI @decide_false (aI @Nat.zero_le (aI @cond_true.{1} (aI @cond_false.{1} (aI @Int.natCast_nonneg (aI @List.getElem?_cons_zero.{0} (aI @List.getElem?_cons_succ.{0} (aI @eq_self.{1} (aI @List.length_append.{0} (aI @List.getD_nil.{0} (aI @List.append_assoc.{0} (aI @List.length_set.{0} (aI @beq_true (aI @beq_false (aI @imp_self (aI @List.mem_cons.{0} (aI @List.not_mem_nil.{0} (aI @forall_eq_or_imp.{1} (aI @forall_eq.{1} (aI @Bool.cond_false_right (aI @Bool.cond_true_right (aI @Bool.cond_false_left (aI @Bool.cond_true_left (aI @Bool.cond_self.{1} (@Bool.not_not)))))))))))))))))))))))))))))))))))))))))))))))))))))))))))))))))))))))))))))))))))
theorem Qfr:type_of% (aI @Qnx (aI @implies_true.{0} @implies_true.{1})):=aI @Qnx (aI @implies_true.{0} @implies_true.{1})
theorem Qqi {α:Type} [Inhabited α] (f:α→D) (l:List α) (i:Nat) (h:i<l.length):(l.map f).getD i default=f (l.getD i default):=by
 simp[h]
theorem qbd {n:Int} (h1:-9223372036854775808≤n) (h2:n≤9223372036854775807):IntKind.i64.wrap n=n:=by
 rw[IntKind.wrap_i64];omega
end Go.AM


set_option linter.unusedVariables false
namespace Go.AM
theorem Qt1 {a b:Int} (h:a=b):(a==b)=true:=by simp[h]
theorem qxp {a b:Int} (h:¬a=b):(a==b)=false:=by simp[h]
theorem qaj {α:Type} [Inhabited α] (f:α→D) (l:List α) (i:Nat) (h:i<l.length):(l.map f).getD i default=f (l.getD i default):=Qqi f l i h
theorem qag {n:Int} (h:-9223372036854775808≤n∧n≤9223372036854775807):IntKind.i64.wrap n=n:=qbd h.1 h.2
end Go.AM


set_option linter.unusedVariables false
namespace Go.AM
variable {P:Program} {Gl:qbb}
def qbc (P:Program) (Gl:qbb) (f:FuncId) (args:List AV) (r:AV):Prop:=∀σ,qal P Gl f args σ (fun r' s=>r'=r∧s=σ)
theorem qbc.of {f:FuncId} {args:List D} {y:D} (h:qal P Gl f (args.map AV.d) [] (fun r s=>r=.d y∧s=[])):qbc P Gl f (args.map AV.d) (.d y):=fun σ=>qal.pure h σ
theorem qbc.ofT {f:FuncId} {args:List D} {y:AV} (hy:∀b,qhq b y=y) (h:qal P Gl f (args.map AV.d) [] (fun r s=>r=y∧s=[])):qbc P Gl f (args.map AV.d) y:=fun s=>by
 have e:(args.map AV.d).map (qbk [] s)=args.map AV.d:=by simp[qbk,qlw]
 have h1:=qal.under (P:=P) (Gl:=Gl) (f:=f) (args:=args.map AV.d) (R:=fun r s=>r=y∧s=[]) (σ:=s) [] List.nodup_nil (by simp) (by rw[e];exact h)
 refine h1.mono fun r s' h2=>?_
 obtain⟨r0,s0,⟨h1,h2⟩,h3,h4⟩:=h2
 subst h1;subst h2;subst h3;subst h4
 exact⟨hy _,q85 s⟩
theorem Qbf (x y:D) (b:Nat→Nat):qhq b (.tup [.d x,.d y])=.tup [.d x,.d y]:=by simp[qhq,qxm]
theorem qbc.of1t2 {f:FuncId} {a x y:D} (h:qal P Gl f [.d a] [] (fun r s=>r=.tup [.d x,.d y]∧s=[])):qbc P Gl f [.d a] (.tup [.d x,.d y]):=qbc.ofT (args:=[a]) (Qbf x y) h
theorem qbc.of2t2 {f:FuncId} {a b x y:D} (h:qal P Gl f [.d a,.d b] [] (fun r s=>r=.tup [.d x,.d y]∧s=[])):qbc P Gl f [.d a,.d b] (.tup [.d x,.d y]):=qbc.ofT (args:=[a,b]) (Qbf x y) h
theorem qbc.of3t2 {f:FuncId} {a b c x y:D} (h:qal P Gl f [.d a,.d b,.d c] [] (fun r s=>r=.tup [.d x,.d y]∧s=[])):qbc P Gl f [.d a,.d b,.d c] (.tup [.d x,.d y]):=qbc.ofT (args:=[a,b,c]) (Qbf x y) h
def qls (P:Program) (Gl:qbb) (f:FuncId) (args:List AV) (es:Nat) (xs:List D):Prop:=∀σ,qal P Gl f args σ (fun r s=>r=.osl σ.length 0 xs.length∧s=σ++[.arr es xs])
theorem qls.of {f:FuncId} {args:List D} {es:Nat} {xs:List D} (h:qal P Gl f (args.map AV.d) [] (fun r s=>r=.osl 0 0 xs.length∧s=[.arr es xs])):qls P Gl f (args.map AV.d) es xs:=fun s=>by
 have e:(args.map AV.d).map (qbk [] s)=args.map AV.d:=by simp[qbk,qlw]
 have h1:=qal.under (P:=P) (Gl:=Gl) (f:=f) (args:=args.map AV.d) (σ:=s) [] List.nodup_nil (by simp) (by rw[e];exact h)
 refine h1.mono fun r s' h2=>?_
 obtain⟨r0,s0,⟨h1,h2⟩,h3,h4⟩:=h2
 subst h1;subst h2;subst h3;subst h4
 refine⟨by simp[qhq,qb6],?_⟩
 apply List.ext_getElem
 ·simp[qeo]
 ·intro i h1 h2
  simp only[qeo,List.getElem_map,List.getElem_range]
  have:qcl [] i=none:=rfl
  rw[this]
  simp only[List.length_nil,Nat.zero_add]
  by_cases hi:i<s.length
  ·rw[if_pos hi,List.getElem_append_left hi]
   unfold qad
   simp[hi]
  ·simp[qeo] at h1
   have:i=s.length:=by omega
   subst this
   rw[if_neg (by omega),List.getElem_append_right (by omega)]
   simp[qad,qdo]
theorem qbc.of0 {f:FuncId} {y:D} (h:qal P Gl f [] [] (fun r s=>r=.d y∧s=[])):qbc P Gl f [] (.d y):=qbc.of (args:=[]) h
theorem qbc.of1 {f:FuncId} {a y:D} (h:qal P Gl f [.d a] [] (fun r s=>r=.d y∧s=[])):qbc P Gl f [.d a] (.d y):=qbc.of (args:=[a]) h
theorem qbc.of2 {f:FuncId} {a b y:D} (h:qal P Gl f [.d a,.d b] [] (fun r s=>r=.d y∧s=[])):qbc P Gl f [.d a,.d b] (.d y):=qbc.of (args:=[a,b]) h
theorem qbc.of3 {f:FuncId} {a b c y:D} (h:qal P Gl f [.d a,.d b,.d c] [] (fun r s=>r=.d y∧s=[])):qbc P Gl f [.d a,.d b,.d c] (.d y):=qbc.of (args:=[a,b,c]) h
theorem Qm0 {f:FuncId} {fn:Func} {e:Array Value→Sem Value} (hf:P.funcs[f]? = some fn) (hname:(fn.name == "runtime.NumGoroutine")=false) (hb:fn.body.isNone=true) (hn:Extern.findNext fn=none) (he:Extern.find fn=some e)
  {args:List AV} {r:AV} (h:∀w I μ σ (vals:List Value),(∀(i:Nat) (v:Value) (u:AV),vals[i]? = some v→args[i]? = some u→qbf w I μ σ v u)→vals.length=args.length→∃v,(e vals.toArray).run P w=.ok v w∧qbf w I μ σ v r) :
  qbc P Gl f args r:=by
 intro σ w I μ vals hR hG hl hv
 obtain⟨v,h1,h2⟩:=h w I μ σ vals hv hl
 rw[run_callFunc_extern hf hname hb hn he vals.toArray w]
 simp only[Sem.run_bind,h1,Result.andThen_ok,Sem.run_pure]
 exact⟨r,σ,I,μ,hR,qct.refl _ _ _ _ (Nat.le_refl _),h2,rfl,rfl⟩
theorem qlq {f:FuncId} {fn:Func} (hf:P.funcs[f]? = some fn) (hname:(fn.name == "runtime.NumGoroutine")=false) (hb:fn.body.isNone=true) (hn:Extern.findNext fn=none) (he:Extern.find fn=some Extern.BytealgIndexByte.indexByte) (s:List UInt8) (c:Int) :
  qbc P Gl f [.d (.str s),.d (.int .u8 c)] (.d (.int .i64 (Lib.indexByte s c.toNat.toUInt8))):=by
 refine Qm0 hf hname hb hn he fun w I μ σ vals hv hl=>?_
 match vals,hl with
 | [a,b],_=>
  have h1:=(hv 0 a _ rfl rfl).inv_d
  have h2:=(hv 1 b _ rfl rfl).inv_d
  cases h1
  cases h2
  exact⟨_,Lib.run_indexByteString _ _ _,.d _ _ (.int _ _)⟩
section
variable {n:Nat} {all:Array Oper} {draw:Bool} {rest:List Oper} {KK:Env→Sto→Prop} {env:Env} {σ:Sto} {f:FuncId} {as caps:List AV} {v:AV} {dst:Option Tmp} {g:Bool}
theorem Qba (h:qbc P Gl f (as++caps) v) (h2:qar P Gl n all draw rest (putE env dst v) σ KK):qhd P Gl n all draw dst rest (.fn f caps) as env σ KK:=
 Qq4 (fun s=>h s) h2
theorem Qa8 (h:g=true→qbc P Gl f (as++caps) v) (h2:qar P Gl n all draw rest (putE env dst (.iff g v)) σ KK):qxe P Gl n all draw dst rest g (.fn f caps) as env σ KK:=
 Qq3 (fun hg s=>h hg s) h2
theorem qaf (h:qbc P Gl f as v) (h2:qar P Gl n all draw rest (putE env dst v) σ KK):qhd P Gl n all draw dst rest (.fn f []) as env σ KK:=
 Qba (by rwa [List.append_nil]) h2
theorem qav (h:g=true→qbc P Gl f as v) (h2:qar P Gl n all draw rest (putE env dst (.iff g v)) σ KK):qxe P Gl n all draw dst rest g (.fn f []) as env σ KK:=
 Qa8 (fun hg=>by rw[List.append_nil];exact h hg) h2
end
theorem qbh {α:Type} [Inhabited α] {l:List α} {k:Nat} (h:k<l.length):l.getD k default∈l:=by
 have:l.getD k default=l[k]:=by simp[h]
 rw[this];exact List.getElem_mem h
theorem qiv {α:Type} [Inhabited α] {l:List α} {j k:Nat} (h:j<k) (hl:j<l.length):l.getD j default∈l.take k:=by
 refine List.mem_of_getElem? (i:=j) ?_
 rw[List.getElem?_take_of_lt h,List.getElem?_eq_getElem hl,List.getD_eq_getElem?_getD,List.getElem?_eq_getElem hl];rfl
theorem qa0 {α:Type} [Inhabited α] (l:List α) (k:Nat) (h:k<l.length):l.take (k+1)=l.take k++[l.getD k default]:=by
 rw[List.take_add_one,List.getElem?_eq_getElem h,List.getD_eq_getElem?_getD,List.getElem?_eq_getElem h];rfl
theorem qc1 {α:Type} [Inhabited α] (p:α→Bool) (l:List α) (k:Nat) (h:k<l.length):(l.take (k+1)).all p=((l.take k).all p&&p (l.getD k default)):=by
 rw[qa0 l k h,List.all_append];simp only[List.all_cons,List.all_nil,Bool.and_true]
theorem qr2 {α:Type} [Inhabited α] (p:α→Bool) (l:List α) (k:Nat) (h:k<l.length) (hp:p (l.getD k default)=false):l.all p=false:=by
 rw[List.all_eq_false]
 exact⟨l[k],List.getElem_mem h,by simpa[h] using hp⟩
theorem qcs {α:Type} [Inhabited α] (p:α→Bool) (l:List α) (k:Nat) (h:k<l.length):(l.take (k+1)).any p=((l.take k).any p||p (l.getD k default)):=by
 rw[qa0 l k h,List.any_append];simp only[List.any_cons,List.any_nil,Bool.or_false]
theorem Qt0 {α:Type} [Inhabited α] (p:α→Bool) (l:List α) (k:Nat) (h:k<l.length) (hp:p (l.getD k default)=true):l.any p=true:=by
 rw[List.any_eq_true]
 exact⟨l[k],List.getElem_mem h,by simpa[h] using hp⟩
theorem q82 (l:List UInt8):(ByteArray.mk l.toArray).data.toList=l:=rfl
theorem qhr (n:Nat):(n:Int).toNat=n:=rfl
theorem qaq {x:D} {σ:Sto}:qc3 0 (.d x) σ (.d x) []:=qah [] [] rfl List.nodup_nil rfl rfl
theorem qyx {x y:D} {σ:Sto}:qc3 0 (.tup [.d x,.d y]) σ (.tup [.d x,.d y]) []:=qah [] [] rfl List.nodup_nil rfl rfl
theorem qc3.trans {m:Nat} {r1 r2 r3:AV} {s1 s2 s3:Sto} (h:qc3 m r1 s1 r2 s2) (k:qc3 m r2 s2 r3 s3):qc3 m r1 s1 r3 s3:=fun w I μ v h1 h2 h3=>by
 obtain⟨I1,μ1,a1,a2,a3⟩:=h w I μ v h1 h2 h3
 obtain⟨I2,μ2,b1,b2,b3⟩:=k w I1 μ1 v a1 a2 a3.len
 exact⟨I2,μ2,b1,b2,a3.trans b3⟩
theorem qin.trans {n m:Nat} {e1 e2 e3:Env} {s1 s2 s3:Sto} (h:qin n m e1 s1 e2 s2) (k:qin n m e2 s2 e3 s3):qin n m e1 s1 e3 s3:=fun w I μ a h1 h2 h3=>by
 obtain⟨I1,μ1,a1,a2,a3⟩:=h w I μ a h1 h2 h3
 obtain⟨I2,μ2,b1,b2,b3⟩:=k w I1 μ1 a a1 a2 a3.len
 exact⟨I2,μ2,b1,b2,a3.trans b3⟩
theorem qfq {m:Nat} {σ:Sto} (es:Nat) (hm:m≤σ.length):qc3 m .nils σ (.osl σ.length 0 0) (σ++[.arr es []]):=fun w I μ v h1 h2 h3=>by
 obtain⟨μ',a1,a2⟩:=h1.addNone es
 cases h2
 exact⟨I,μ',a1,.osl _ _ 0 0 (by simp) (.inl ⟨rfl,none,rfl⟩),a2.mono hm⟩
theorem qep {n m:Nat} {σ:Sto} {env:Env} (t es:Nat) (h:qe0 env t=.nils):qin n m env σ ((t,.osl σ.length 0 0)::env) (σ++[.arr es []]):=fun w I μ a h1 h2 h3=>by
 obtain⟨μ',a1,a2⟩:=h1.addNone es
 refine⟨I,μ',a1,⟨h2.defers,h2.size,fun t'=>?_⟩,a2.mono h3⟩
 have h4:=h2.slot t'
 simp only[qe0]
 by_cases e:t=t'
 ·rw[if_pos e]
  subst e
  rw[h] at h4
  generalize a.tmps.getD t Go.undef=v at h4
  cases h4
  exact .osl _ _ 0 0 (by simp) (.inl ⟨rfl,none,rfl⟩)
 ·rw[if_neg e]
  exact h4.keep a2
theorem qdd {m:Nat} {σ:Sto} {u:AV} (hd:u.isD σ=true):qc3 m u σ (.d (u.toD σ)) (freezeL σ u.refs):=fun w I μ v h1 h2 h3=>by
 obtain⟨I',a1,a2,a3,_⟩:=q9f h1 h2 hd
 exact⟨I',μ,a1,.d _ _ a3,a2.mono h3⟩
theorem Qul {σ:Sto} {u:AV} (hd:u.isD σ=true):qc3 0 u σ (.d (u.toD σ)) []:=(qdd hd).trans qaq
theorem qf4 {σ:Sto} {u:AV} {x:D} (hd:u.isD σ=true) (hx:u.toD σ=x):qc3 0 u σ (.d x) []:=by subst hx;exact Qul hd
theorem Qrv (σ:Sto) (t1 t2:TypeId) (s x:AV):Qwe P σ t1 t2 s x=(match qcg P t1 with
 | some e=>match tsz P e,qbm P e,qbp P e with
  | some es,some by_,some z=>0<es∧z.cells.size=es∧(qcg P t2).isSome=true∧Qm7 σ es s∧qtl σ es x∧(s.len+(x.elems σ).length)*by_≤140737488355328∧s.len+(x.elems σ).length≤4611686018427387904
  | _,_,_=>False
 | none=>False):=by unfold Qwe;rfl
theorem qtc (i o k es:Nat) (σ:Sto):Qm7 σ es (.osl i o k)=((qad σ i).isOwnArr=true∧(qad σ i).es=es):=rfl
theorem qpy (es:Nat) (σ:Sto):Qm7 σ es .nils=True:=rfl
theorem qs9 (i o k es:Nat) (σ:Sto):qtl σ es (.osl i o k)=((qad σ i).isArr=true∧(qad σ i).es=es):=rfl
theorem qpw (es:Nat) (σ:Sto):qtl σ es .nils=True:=rfl
theorem qyf (xs:List D) (es:Nat) (σ:Sto):qtl σ es (.d (.sl xs))=∀x∈xs,x.cells.length=es:=rfl
theorem Qwl (s x:AV) (σ:Sto):apV σ s x=.osl σ.length 0 (s.len+(x.elems σ).length):=rfl
theorem Qwm (s x:AV) (σ:Sto) (t:TypeId):apS P σ t s x=qhx σ s++[.arr (qr1 P t) (s.elems σ++x.elems σ)]:=rfl
theorem qtb (i o k:Nat) (σ:Sto):qhx σ (.osl i o k)=σ.set i .dead:=rfl
theorem qpx (σ:Sto):qhx σ .nils=σ:=rfl
theorem q4y (x:D) (σ:Sto):qhx σ (.d x)=σ:=rfl
def qa3 (f:Nat→Int):Nat→Int
 | 0=>0
 | k+1=>if qa3 f k=0 then f k else qa3 f k
theorem qa2 {f:Nat→Int} {k:Nat} (h:qa3 f k=0) (he:f k=0):qa3 f (k+1)=0:=by simp[qa3,h,he]
theorem qby {f:Nat→Int} {k:Nat} (h:qa3 f k=0) (he:f k≠0):∀{n:Nat},k<n→qa3 f n=f k:=by
 intro n hn
 induction n with
 | zero=>omega
 | succ n ih=>
  by_cases e:k=n
  ·subst e;simp[qa3,h]
  ·rw[qa3,ih (by omega),if_neg he]
theorem qca {f:Nat→Int} {n:Nat} (h:qa3 f n=0):∀k,k<n→f k=0:=by
 induction n with
 | zero=>intro k hk;omega
 | succ n ih=>
  rw[qa3] at h
  by_cases e:qa3 f n=0
  ·rw[if_pos e] at h
   intro k hk
   by_cases e2:k=n
   ·subst e2;exact h
   ·exact ih e k (by omega)
  ·rw[if_neg e] at h;exact absurd h e
theorem qdw {f:Nat→Int} {n:Nat} (h:∀k,k<n→f k=0):qa3 f n=0:=by
 induction n with
 | zero=>rfl
 | succ n ih=>exact qa2 (ih fun k hk=>h k (by omega)) (h n (by omega))
theorem Q0d (a b:Bool):(a=true→b=true→(a&&b)=true)=True:=by cases a<;>cases b<;>simp
theorem Q0c (a:Bool):(a=false→(!a)=true)=True:=by cases a<;>simp
theorem Q0b (a:Bool):((!a)=true→(!a)=true)=True:=by cases a<;>simp
theorem Q0a (a b:Bool):(a=true→(!b)=true→(a&&!b)=true)=True:=by cases a<;>cases b<;>simp
theorem Qz9 (a b:Bool):(a=true→b=false→(a&&!b)=true)=True:=by cases a<;>cases b<;>simp
theorem Qh2 (l:List UInt8):(AV.d (.str l)).strOf=l:=rfl
theorem Qb0 (l:List UInt8):(AV.d (.str l)).isStrv=true:=rfl
theorem Qrt (a b:D) (r s:List D):qil (a::r) (b::s)=(a.beq1 b&&qil r s):=rfl
theorem Qh7:qil [] []=true:=rfl
theorem Qh9 (k k':IntKind) (a b:Int):(D.int k a).beq1 (.int k' b)=(a==b):=rfl
theorem Qia (a b:Bool):(D.bool a).beq1 (.bool b)=(a==b):=rfl
theorem Qh8 (a b:List UInt8):(D.str a).beq1 (.str b)=(a==b):=rfl
theorem Qrs (c:Nat) (cs:List Nat) (a b:D) (r s:List D):qlj (c::cs) (a::r) (b::s)=(a.cmp1 c b&&qlj cs r s):=rfl
theorem Qh3:qlj [] [] []=true:=rfl
theorem Qh5 (k k':IntKind) (a b:Int):(D.int k a).cmp1 0 (.int k' b)=decide (k=k'):=rfl
theorem Qh6 (a b:Bool):(D.bool a).cmp1 1 (.bool b)=true:=rfl
theorem Qh4 (a b:List UInt8):(D.str a).cmp1 2 (.str b)=true:=rfl
theorem q4t (lo hi:Int) (l:List UInt8):slV lo hi (.d (.str l))=.d (.str ((l.take hi.toNat).drop lo.toNat)):=rfl
theorem Qbz (lo hi:Int) (l:List D):slV lo hi (.d (.sl l))=.d (.sl ((l.take hi.toNat).drop lo.toNat)):=rfl
theorem q4u (lo hi:Int) (i o k:Nat):slV lo hi (.osl i o k)=.osl i (o+lo.toNat) (hi.toNat-lo.toNat):=rfl
theorem qyg (lo hi:Int):slV lo hi .nils=.nils:=rfl
theorem qyh (t:TypeId) (σ:Sto) (lo hi:Int) (l:List UInt8):Qf5 P t σ lo hi (.d (.str l))=(Qik P t=true∧0≤lo∧lo≤hi∧hi≤l.length):=rfl
theorem q4v (t:TypeId) (σ:Sto) (lo hi:Int) (xs:List D):Qf5 P t σ lo hi (.d (.sl xs))=(((qlm P t).isSome=true∧(qcg P t).isSome=true)∧0≤lo∧lo≤hi∧hi≤xs.length∧(match qlm P t with|some (_,es)=>∀x∈xs,x.cells.length=es|none=>False)):=rfl
theorem qyi (t:TypeId) (σ:Sto) (lo hi:Int) (i o k:Nat):Qf5 P t σ lo hi (.osl i o k)=((qcg P t).isSome=true∧0≤lo∧lo≤hi∧hi≤k∧(qad σ i).isArr=true∧qlm P t=some (none,(qad σ i).es)):=rfl
theorem qta (t:TypeId) (σ:Sto) (lo hi:Int):Qf5 P t σ lo hi .nils=((qcg P t).isSome=true∧(qlm P t).isSome=true∧lo=0∧hi=0):=rfl
theorem Qb1 {α:Type} (f:α→D) (l:List α) (p:D→Prop):(∀x,x∈l.map f→p x)=∀y,y∈l→p (f y):=by simp
theorem q4x {n:Nat} {all:Array Oper} {draw:Bool} {env:Env} {σ:Sto} {K:Env→Sto→Prop} (o:Oper) (a b:List Oper):qar P Gl n all draw (List.append (o::a) b) env σ K=qar P Gl n all draw (o::List.append a b) env σ K:=rfl
theorem q4w {n:Nat} {all:Array Oper} {draw:Bool} {env:Env} {σ:Sto} {K:Env→Sto→Prop} (b:List Oper):qar P Gl n all draw (List.append [] b) env σ K=qar P Gl n all draw b env σ K:=rfl
theorem Qwk {α:Type} (a:α) (l m:List α):List.append (a::l) m=a::List.append l m:=rfl
theorem Qru {α:Type} (m:List α):List.append [] m=m:=rfl
theorem Qwj {env:Env} {dst:Option Tmp} {op:Op} {ty:TypeId} {pos:String} {af:Array Edge} {g:Option (Nat×Bool)} (l m:List Oper):qa9 ((List.append (⟨dst,op,ty,pos,af,g⟩::l) m).toArray) env 0=(match dst with|some d=>qe0 env d|none=>.undef):=q9s (List.append l m)
theorem Qwh {env:Env} (o:Oper) (l m:List Oper) (j:Nat):qa9 ((List.append (o::l) m).toArray) env (j+1)=qa9 (List.append l m).toArray env j:=qka o (List.append l m) j
theorem Qwi {env:Env} (m:List Oper) (j:Nat):qa9 ((List.append [] m).toArray) env j=qa9 m.toArray env j:=rfl
theorem Qrw:type_of% (aI @Qrv (aI @qtc (aI @qpy (aI @qs9 (aI @qpw (aI @qyf (aI @Qwl (aI @Qwm (aI @qtb (aI @qpx (aI @q4y (aI @Q0d (aI @Q0c (aI @Q0b (aI @Q0a (aI @Qz9 (aI @Qh2 (aI @Qb0 (aI @Qrt (aI @Qh7 (aI @Qh9 (aI @Qia (aI @Qh8 (aI @Qrs (aI @Qh3 (aI @Qh5 (aI @Qh6 (aI @Qh4 (aI @q4t (aI @Qbz (aI @q4u (aI @qyg (aI @qyh (aI @q4v (aI @qyi (aI @qta (aI @Qb1 (aI @q4x (aI @q4w (aI @Qwk (aI @Qru (aI @Qwj (aI @Qwh (@Qwi)))))))))))))))))))))))))))))))))))))))))))):=aI @Qrv (aI @qtc (aI @qpy (aI @qs9 (aI @qpw (aI @qyf (aI @Qwl (aI @Qwm (aI @qtb (aI @qpx (aI @q4y (aI @Q0d (aI @Q0c (aI @Q0b (aI @Q0a (aI @Qz9 (aI @Qh2 (aI @Qb0 (aI @Qrt (aI @Qh7 (aI @Qh9 (aI @Qia (aI @Qh8 (aI @Qrs (aI @Qh3 (aI @Qh5 (aI @Qh6 (aI @Qh4 (aI @q4t (aI @Qbz (aI @q4u (aI @qyg (aI @qyh (aI @q4v (aI @qyi (aI @qta (aI @Qb1 (aI @q4x (aI @q4w (aI @Qwk (aI @Qru (aI @Qwj (aI @Qwh (@Qwi)))))))))))))))))))))))))))))))))))))))))))
end Go.AM


namespace Go.AM
def El (es:Nat) (x:D):Prop:=x.isAgg=true∧x.cells.length=es
structure Arr (Dm:D→Prop) (xs ys:List D) (π:Nat→Nat):Prop where
 len:ys.length=xs.length
 el:∀y∈ys,Dm y
 get:∀i,i<xs.length→ys.getD i default=xs.getD (π i) default
theorem El.at {Dm:D→Prop} {es:Nat} (hD:∀x,Dm x→El es x) {ys:List D} (h:∀y∈ys,Dm y) {i:Nat} (hi:i<ys.length):(ys.getD i default).isAgg=true∧(ys.getD i default).cells.length=es:=by
 have:ys.getD i default=ys[i]:=by simp[hi]
 rw[this];exact hD _ (h _ (List.getElem_mem hi))
theorem Arr.refl {Dm:D→Prop} {xs:List D} (h:∀y∈xs,Dm y):Arr Dm xs xs (fun i=>i):=⟨rfl,h,fun _ _=>rfl⟩
theorem Arr.congr {Dm:D→Prop} {xs ys:List D} {π ρ:Nat→Nat} (h:Arr Dm xs ys π) (e:∀i,i<xs.length→π i=ρ i):Arr Dm xs ys ρ:=
 ⟨h.len,h.el,fun i hi=>by rw[←e i hi];exact h.get i hi⟩
theorem Arr.trans {Dm:D→Prop} {xs ys zs:List D} {π ρ:Nat→Nat} (h:Arr Dm xs ys π) (k:Arr Dm ys zs ρ) (hρ:∀i,i<xs.length→ρ i<xs.length):Arr Dm xs zs (fun i=>π (ρ i)):=
 ⟨k.len.trans h.len,k.el,fun i hi=>by rw[k.get i (by rw[h.len];exact hi),h.get _ (hρ i hi)]⟩
theorem Arr.at {Dm:D→Prop} {xs ys:List D} {π:Nat→Nat} (h:Arr Dm xs ys π) {i:Nat} (hi:i<xs.length):Dm (ys.getD i default):=by
 have hl:=h.len
 have:ys.getD i default=ys[i]'(by omega):=by simp[show i<ys.length by omega]
 rw[this];exact h.el _ (List.getElem_mem _)
theorem Arr.swap {Dm:D→Prop} {xs ys:List D} {π:Nat→Nat} (h:Arr Dm xs ys π) {i j:Nat} (hi:i<xs.length) (hj:j<xs.length) :
  Arr Dm xs ((ys.set i (ys.getD j default)).set j (ys.getD i default)) (fun p=>if p=j then π i else if p=i then π j else π p):=by
 have hl:=h.len
 have mem:∀k,k<xs.length→ys.getD k default∈ys:=fun k hk=>by
  have:ys.getD k default=ys[k]'(by omega):=by simp[show k<ys.length by omega]
  rw[this];exact List.getElem_mem _
 refine⟨by simp[hl],fun y hy=>?_,fun p hp=>?_⟩
 ·rcases List.mem_or_eq_of_mem_set hy with hy|rfl
  ·rcases List.mem_or_eq_of_mem_set hy with hy|rfl
   ·exact h.el y hy
   ·exact h.el _ (mem j hj)
  ·exact h.el _ (mem i hi)
 ·rw[List.getD_eq_getElem?_getD,List.getElem?_set]
  by_cases e1:j=p
  ·subst e1
   rw[if_pos rfl,if_pos (by simp[hl];exact hj),if_pos rfl]
   simp only[Option.getD_some]
   exact h.get i hi
  ·rw[if_neg e1,if_neg (fun e=>e1 e.symm),List.getElem?_set]
   by_cases e2:i=p
   ·subst e2
    rw[if_pos rfl,if_pos (by omega),if_pos rfl]
    simp only[Option.getD_some]
    exact h.get j hj
   ·rw[if_neg e2,if_neg (fun e=>e2 e.symm),←List.getD_eq_getElem?_getD]
    exact h.get p hp
def qln (a b k i:Nat):Nat:=if a≤i∧i<a+k then b+(i-a) else if b≤i∧i<b+k then a+(i-b) else i
theorem Qf0 (a b k i:Nat) (h:a+(k+1)≤b∨b+(k+1)≤a):(if i=b+k then qln a b k (a+k) else if i=a+k then qln a b k (b+k) else qln a b k i)=qln a b (k+1) i:=by
 unfold qln
 repeat' split
 all_goals omega
def qp2 (a m b i:Nat):Nat:=if i<a∨b≤i then i else if i<a+(b-m) then i+(m-a) else i-(b-m)
structure Mv (a b:Nat) (π ρ:Nat→Nat):Prop where
 out:∀p,p<a∨b≤p→ρ p=π p
 inn:∀p,a≤p→p<b→∃q,a≤q∧q<b∧ρ p=π q
theorem Mv.refl (a b:Nat) (π:Nat→Nat):Mv a b π π:=⟨fun _ _=>rfl,fun p h1 h2=>⟨p,h1,h2,rfl⟩⟩
theorem Mv.trans {a b:Nat} {π ρ τ:Nat→Nat} (h:Mv a b π ρ) (k:Mv a b ρ τ):Mv a b π τ:=
 ⟨fun p hp=>(k.out p hp).trans (h.out p hp),fun p h1 h2=>by
  obtain⟨q,q1,q2,q3⟩:=k.inn p h1 h2
  obtain⟨r,r1,r2,r3⟩:=h.inn q q1 q2
  exact⟨r,r1,r2,q3.trans r3⟩⟩
theorem Mv.mono {a b c d:Nat} {π ρ:Nat→Nat} (h:Mv a b π ρ) (h1:c≤a) (h2:b≤d):Mv c d π ρ:=
 ⟨fun p hp=>h.out p (by omega),fun p p1 p2=>by
  by_cases hp:a≤p∧p<b
  ·obtain⟨q,q1,q2,q3⟩:=h.inn p hp.1 hp.2;exact⟨q,by omega,by omega,q3⟩
  ·exact⟨p,p1,p2,h.out p (by omega)⟩⟩
theorem Mv.bound {a b N:Nat} {π ρ:Nat→Nat} (h:Mv a b π ρ) (hb:b≤N) (hπ:∀p,p<N→π p<N):∀p,p<N→ρ p<N:=fun p hp=>by
 by_cases hq:a≤p∧p<b
 ·obtain⟨q,_,q2,q3⟩:=h.inn p hq.1 hq.2
  rw[q3];exact hπ q (by omega)
 ·rw[h.out p (by omega)];exact hπ p hp
structure Swo (Dm:D→Prop) (lt:D→D→Bool):Prop where
 irr:∀x,Dm x→lt x x=false
 trans:∀x y z,Dm x→Dm y→Dm z→lt x y=true→lt y z=true→lt x z=true
 neg:∀x y z,Dm x→Dm y→Dm z→lt x y=false→lt y z=false→lt x z=false
def Lx (lt:D→D→Bool) (xs:List D) (i j:Nat):Prop:=lt (xs.getD i default) (xs.getD j default)=true∨(lt (xs.getD j default) (xs.getD i default)=false∧i<j)
section
variable {Dm:D→Prop} {lt:D→D→Bool} {xs:List D}
theorem Qna (hx:∀y∈xs,Dm y) {i:Nat} (hi:i<xs.length):Dm (xs.getD i default):=(Arr.refl hx).at hi
theorem Lx.asymm (h:Swo Dm lt) (hx:∀y∈xs,Dm y) {i j:Nat} (hi:i<xs.length) (hj:j<xs.length) (h1:Lx lt xs i j) (h2:Lx lt xs j i):False:=by
 have di:=Qna hx hi
 have dj:=Qna hx hj
 rcases h1 with h1|⟨h1,l1⟩<;>rcases h2 with h2|⟨h2,l2⟩
 ·have:=h.trans _ _ _ di dj di h1 h2
  rw[h.irr _ di] at this;cases this
 ·rw[h1] at h2;cases h2
 ·rw[h1] at h2;cases h2
 ·omega
theorem Lx.trans (h:Swo Dm lt) (hx:∀y∈xs,Dm y) {i j k:Nat} (hi:i<xs.length) (hj:j<xs.length) (hk:k<xs.length) (h1:Lx lt xs i j) (h2:Lx lt xs j k):Lx lt xs i k:=by
 have di:=Qna hx hi
 have dj:=Qna hx hj
 have dk:=Qna hx hk
 unfold Lx at *
 cases e1:lt (xs.getD i default) (xs.getD k default) with
 | true=>exact .inl rfl
 | false=>
  right
  rcases h1 with h1|⟨h1,l1⟩<;>rcases h2 with h2|⟨h2,l2⟩
  ·rw[h.trans _ _ _ di dj dk h1 h2] at e1;cases e1
  ·exfalso
   have:=h.neg _ _ _ di dk dj e1 h2
   rw[h1] at this;cases this
  ·exfalso
   have:=h.neg _ _ _ dj di dk h1 e1
   rw[h2] at this;cases this
  ·exact⟨h.neg _ _ _ dk dj di h2 h1,by omega⟩
theorem Lx.tag {i j:Nat} (hij:j<i):Lx lt xs i j↔lt (xs.getD i default) (xs.getD j default)=true:=by
 unfold Lx
 constructor
 ·rintro(h|⟨_,h⟩)
  ·exact h
  ·omega
 ·exact .inl
theorem Lx.tag' {i j:Nat} (hij:j<i):Lx lt xs j i↔lt (xs.getD i default) (xs.getD j default)=false∨lt (xs.getD j default) (xs.getD i default)=true:=by
 unfold Lx
 constructor
 ·rintro(h|⟨h,_⟩)
  ·exact .inr h
  ·exact .inl h
 ·rintro(h|h)
  ·exact .inr ⟨h,hij⟩
  ·exact .inl h
end
end Go.AM


namespace Go.AM
variable {Dm:D→Prop} {lt:D→D→Bool} {xs:List D} {π ρ κ:Nat→Nat} {a m b:Nat}
def qb4 (lt:D→D→Bool) (xs:List D) (a b:Nat) (π:Nat→Nat):Prop:=∀p q,a≤p→p<q→q<b→Lx lt xs (π p) (π q)
def Qzg (a b:Nat) (π:Nat→Nat):Prop:=∀p q,a≤p→p<q→q<b→π p<π q
def Qt2 (a m b:Nat) (π:Nat→Nat):Prop:=∀p q,a≤p→p<m→m≤q→q<b→π p<π q
theorem qx2 (hm:m=a+1) {i:Nat} (h1:m≤i) (h2:i≤b) (hS:qb4 lt xs m b π) (hL:∀q,m≤q→q<i→Lx lt xs (π q) (π a)) (hR:∀q,i≤q→q<b→Lx lt xs (π a) (π q))
  (k1:∀p,a≤p→p<i-1→κ p=π (p+1)) (k2:κ (i-1)=π a) (k3:∀p,p<a∨i≤p→κ p=π p):Mv a b π κ∧qb4 lt xs a b κ:=by
 refine⟨⟨fun p hp=>k3 p (by omega),fun p p1 p2=>?_⟩,fun p q h3 h4 h5=>?_⟩
 ·rcases Nat.lt_trichotomy p (i-1) with h|h|h
  ·exact⟨p+1,by omega,by omega,k1 p p1 h⟩
  ·exact⟨a,by omega,by omega,by rw[h,k2]⟩
  ·exact⟨p,p1,p2,k3 p (by omega)⟩
 ·rcases Nat.lt_trichotomy q (i-1) with h|h|h
  ·rw[k1 p h3 (by omega),k1 q (by omega) h];exact hS _ _ (by omega) (by omega) (by omega)
  ·rw[k1 p h3 (by omega),h,k2];exact hL _ (by omega) (by omega)
  ·rw[k3 q (by omega)]
   rcases Nat.lt_trichotomy p (i-1) with h'|h'|h'
   ·rw[k1 p h3 h'];exact hS _ _ (by omega) (by omega) (by omega)
   ·rw[h',k2];exact hR q (by omega) h5
   ·rw[k3 p (by omega)];exact hS _ _ (by omega) h4 h5
theorem qwa (hm:b=m+1) {i:Nat} (h1:a≤i) (h2:i≤m) (hS:qb4 lt xs a m π) (hL:∀q,a≤q→q<i→Lx lt xs (π q) (π m)) (hR:∀q,i≤q→q<m→Lx lt xs (π m) (π q))
  (k1:∀p,i<p→p≤m→κ p=π (p-1)) (k2:κ i=π m) (k3:∀p,p<i∨m<p→κ p=π p):Mv a b π κ∧qb4 lt xs a b κ:=by
 refine⟨⟨fun p hp=>k3 p (by omega),fun p p1 p2=>?_⟩,fun p q h3 h4 h5=>?_⟩
 ·rcases Nat.lt_trichotomy p i with h|h|h
  ·exact⟨p,p1,p2,k3 p (by omega)⟩
  ·exact⟨m,by omega,by omega,by rw[h,k2]⟩
  ·exact⟨p-1,by omega,by omega,k1 p h (by omega)⟩
 ·rcases Nat.lt_trichotomy p i with h|h|h
  ·rw[k3 p (.inl h)]
   rcases Nat.lt_trichotomy q i with h'|h'|h'
   ·rw[k3 q (.inl h')];exact hS _ _ h3 h4 (by omega)
   ·rw[h',k2];exact hL p h3 h
   ·rw[k1 q h' (by omega)];exact hS _ _ h3 (by omega) (by omega)
  ·rw[h,k2,k1 q (by omega) (by omega)];exact hR _ (by omega) (by omega)
  ·rw[k1 p h (by omega),k1 q (by omega) (by omega)];exact hS _ _ (by omega) (by omega) (by omega)
theorem q1k {s e d:Nat} (h1:a≤s) (h2:s≤m) (h3:m≤e) (h4:e≤b) (hd:d=s+(e-m)) (hS1:qb4 lt xs a m π) (hS2:qb4 lt xs m b π) (hT:Qt2 a m b π)
  (F1:∀x y,a≤x→x<s→e≤y→y<b→Lx lt xs (π x) (π y)) (F2:∀x y,m≤x→x<e→s≤y→y<m→Lx lt xs (π x) (π y))
  (hρ:∀p,a≤p→p<b→ρ p=π (qp2 s m e p)) (ho:∀p,p<a∨b≤p→ρ p=π p) :
  Mv a b π ρ∧qb4 lt xs a s ρ∧qb4 lt xs s d ρ∧qb4 lt xs d e ρ∧qb4 lt xs e b ρ∧Qt2 a s d ρ∧Qt2 d e b ρ∧(∀p q,a≤p→p<d→d≤q→q<b→Lx lt xs (ρ p) (ρ q)):=by
 have r1:∀p,a≤p→p<s→ρ p=π p:=fun p g1 g2=>by
  rw[hρ p g1 (by omega)];congr 1;unfold qp2;rw[if_pos (by omega)]
 have r2:∀p,s≤p→p<d→ρ p=π (p+(m-s)):=fun p g1 g2=>by
  rw[hρ p (by omega) (by omega)];congr 1;unfold qp2;rw[if_neg (by omega),if_pos (by omega)]
 have r3:∀p,d≤p→p<e→ρ p=π (p-(e-m)):=fun p g1 g2=>by
  rw[hρ p (by omega) (by omega)];congr 1;unfold qp2;rw[if_neg (by omega),if_neg (by omega)]
 have r4:∀p,e≤p→p<b→ρ p=π p:=fun p g1 g2=>by
  rw[hρ p (by omega) (by omega)];congr 1;unfold qp2;rw[if_pos (by omega)]
 refine⟨⟨ho,fun p g1 g2=>?_⟩,fun p q g1 g2 g3=>?_,fun p q g1 g2 g3=>?_,fun p q g1 g2 g3=>?_,fun p q g1 g2 g3=>?_,fun p q g1 g2 g3 g4=>?_,fun p q g1 g2 g3 g4=>?_,fun p q g1 g2 g3 g4=>?_⟩
 ·by_cases c1:p<s
  ·exact⟨p,g1,g2,r1 p g1 c1⟩
  ·by_cases c2:p<d
   ·exact⟨_,by omega,by omega,r2 p (by omega) c2⟩
   ·by_cases c3:p<e
    ·exact⟨_,by omega,by omega,r3 p (by omega) c3⟩
    ·exact⟨p,g1,g2,r4 p (by omega) g2⟩
 ·rw[r1 p g1 (by omega),r1 q (by omega) g3];exact hS1 _ _ g1 g2 (by omega)
 ·rw[r2 p g1 (by omega),r2 q (by omega) g3];exact hS2 _ _ (by omega) (by omega) (by omega)
 ·rw[r3 p g1 (by omega),r3 q (by omega) g3];exact hS1 _ _ (by omega) (by omega) (by omega)
 ·rw[r4 p g1 (by omega),r4 q (by omega) g3];exact hS2 _ _ (by omega) g2 g3
 ·rw[r1 p g1 g2,r2 q g3 g4];exact hT _ _ g1 (by omega) (by omega) (by omega)
 ·rw[r3 p g1 g2,r4 q g3 g4];exact hT _ _ (by omega) (by omega) (by omega) g4
 ·by_cases c1:p<s
  ·rw[r1 p g1 c1]
   by_cases c3:q<e
   ·rw[r3 q g3 c3];exact hS1 _ _ g1 (by omega) (by omega)
   ·rw[r4 q (by omega) g4];exact F1 _ _ g1 c1 (by omega) g4
  ·rw[r2 p (by omega) g2]
   by_cases c3:q<e
   ·rw[r3 q g3 c3];exact F2 _ _ (by omega) (by omega) (by omega) (by omega)
   ·rw[r4 q (by omega) g4];exact hS2 _ _ (by omega) (by omega) g4
theorem qco {d:Nat} {κ1 κ2:Nat→Nat} (h1:a≤d) (h2:d≤b) (hM:Mv a b π ρ) (m1:Mv a d ρ κ1) (s1:qb4 lt xs a d κ1) (m2:Mv d b κ1 κ2) (s2:qb4 lt xs d b κ2)
  (hX:∀p q,a≤p→p<d→d≤q→q<b→Lx lt xs (ρ p) (ρ q)):Mv a b π κ2∧qb4 lt xs a b κ2:=by
 refine⟨(hM.trans (m1.mono (Nat.le_refl _) h2)).trans (m2.mono h1 (Nat.le_refl _)),fun p q g1 g2 g3=>?_⟩
 by_cases c1:q<d
 ·rw[m2.out p (by omega),m2.out q (by omega)];exact s1 p q g1 g2 c1
 ·by_cases c2:p<d
  ·rw[m2.out p (by omega)]
   obtain⟨p',p1,p2,p3⟩:=m1.inn p g1 c2
   obtain⟨q',q1,q2,q3⟩:=m2.inn q (by omega) g3
   rw[p3,q3,m1.out q' (by omega)]
   exact hX _ _ p1 p2 q1 q2
  ·exact s2 p q (by omega) g2 g3
theorem qwb {p s s0 r0 e:Nat} (hw:Swo Dm lt) (hx:∀y∈xs,Dm y) (hπ:∀i,i<xs.length→π i<xs.length) (hb:b≤xs.length) (hS1:qb4 lt xs a m π) (hS2:qb4 lt xs m b π)
  (h1:a≤s0) (h2:s0≤s) (h3:s≤r0) (h4:r0≤m) (he:e=p+1-s) (hem:m≤e) (heb:e≤b) (hps:r0≤p+1)
  (hlo:s0=a∨e=b∨s0<s) (hhi:r0=m∨e=m∨s<r0)
  (hA:s0<s→Lx lt xs (π (s-1)) (π (p-(s-1)))) (hB:s<r0→Lx lt xs (π (p-s)) (π s)) (hlo2:s0=s→s0=a∨e=b) (hhi2:s=r0→r0=m∨e=m) :
  (∀x y,a≤x→x<s→e≤y→y<b→Lx lt xs (π x) (π y))∧(∀x y,m≤x→x<e→s≤y→y<m→Lx lt xs (π x) (π y)):=by
 constructor
 ·intro x y g1 g2 g3 g4
  rcases Nat.lt_or_ge s0 s with c|c
  ·have hh:=hA c
   have e1:p-(s-1)=e:=by omega
   rw[e1] at hh
   have t1:x=s-1∨Lx lt xs (π x) (π (s-1)):=by
    by_cases c':x=s-1
    ·exact .inl c'
    ·exact .inr (hS1 _ _ g1 (by omega) (by omega))
   have t2:Lx lt xs (π x) (π e):=by
    rcases t1 with t1|t1
    ·rw[t1];exact hh
    ·exact Lx.trans hw hx (hπ _ (by omega)) (hπ _ (by omega)) (hπ _ (by omega)) t1 hh
   by_cases c':y=e
   ·rw[c'];exact t2
   ·exact Lx.trans hw hx (hπ _ (by omega)) (hπ _ (by omega)) (hπ _ (by omega)) t2 (hS2 _ _ hem (by omega) g4)
  ·rcases hlo2 (by omega) with h|h<;>omega
 ·intro x y g1 g2 g3 g4
  rcases Nat.lt_or_ge s r0 with c|c
  ·have hh:=hB c
   have e1:p-s=e-1:=by omega
   rw[e1] at hh
   have t2:Lx lt xs (π x) (π s):=by
    by_cases c':x=e-1
    ·rw[c'];exact hh
    ·exact Lx.trans hw hx (hπ _ (by omega)) (hπ _ (by omega)) (hπ _ (by omega)) (hS2 _ _ g1 (by omega) (by omega)) hh
   by_cases c':y=s
   ·rw[c'];exact t2
   ·exact Lx.trans hw hx (hπ _ (by omega)) (hπ _ (by omega)) (hπ _ (by omega)) t2 (hS1 _ _ (by omega) (by omega) g4)
  ·rcases hhi2 (by omega) with h|h<;>omega
theorem q7v {c d h k:Nat} (hw:Swo Dm lt) (hx:∀y∈xs,Dm y) (hπ:∀i,i<xs.length→π i<xs.length) (hd:d≤xs.length) (hk:k<xs.length) (hS:qb4 lt xs c d π) (h1:c≤h) (h2:h<d) (hl:Lx lt xs (π h) k):∀q,c≤q→q<h+1→Lx lt xs (π q) k:=by
 intro q g1 g2
 by_cases e:q=h
 ·rw[e];exact hl
 ·exact Lx.trans hw hx (hπ _ (by omega)) (hπ _ (by omega)) hk (hS _ _ g1 (by omega) h2) hl
theorem Qkp {c d h k:Nat} (hw:Swo Dm lt) (hx:∀y∈xs,Dm y) (hπ:∀i,i<xs.length→π i<xs.length) (hd:d≤xs.length) (hk:k<xs.length) (hS:qb4 lt xs c d π) (h1:c≤h) (h2:h<d) (hl:Lx lt xs k (π h)):∀q,h≤q→q<d→Lx lt xs k (π q):=by
 intro q g1 g2
 by_cases e:q=h
 ·rw[e];exact hl
 ·exact Lx.trans hw hx hk (hπ _ (by omega)) (hπ _ (by omega)) hl (hS _ _ h1 (by omega) g2)
end Go.AM


namespace Go.AM
variable {Dm:D→Prop} {lt:D→D→Bool} {xs:List D} {π ρ κ:Nat→Nat}
def Cut (s p:Nat):Prop:=∃j,p=j*s
theorem Cut.zero (s:Nat):Cut s 0:=⟨0,by simp⟩
theorem Cut.next {s p:Nat} (h:Cut s p):Cut s (p+s):=by
 obtain⟨j,rfl⟩:=h
 exact⟨j+1,by rw[Nat.add_mul];omega⟩
theorem Cut.half {s p:Nat} (h:Cut (2*s) p):Cut s p:=by
 obtain⟨j,rfl⟩:=h
 exact⟨j*2,by rw[Nat.mul_assoc]⟩
theorem Cut.mid {s p:Nat} (h:Cut (2*s) p):Cut s (p+s):=h.half.next
theorem Cut.ge {s p q:Nat} (h:Cut s p) (k:Cut s q) (hl:p<q):p+s≤q:=by
 obtain⟨i,rfl⟩:=h
 obtain⟨j,rfl⟩:=k
 have h1:i<j:=by
  rcases Nat.lt_or_ge i j with h|h
  ·exact h
  ·have:=Nat.mul_le_mul_right s h;omega
 have h2:(i+1)*s≤j*s:=Nat.mul_le_mul_right s h1
 rw[Nat.add_mul] at h2
 omega
structure Blo (lt:D→D→Bool) (xs:List D) (c d:Nat) (ρ:Nat→Nat):Prop where
 inn:∀p,c≤p→p<d→c≤ρ p∧ρ p<d
 sort:qb4 lt xs c d ρ
def q86 (lt:D→D→Bool) (xs:List D) (s n lo hi:Nat) (ρ:Nat→Nat):Prop:=∀c,Cut s c→lo≤c→c<hi→Blo lt xs c (min (c+s) n) ρ
theorem Blo.out {a b c d:Nat} (h:Blo lt xs c d ρ) (hM:Mv a b ρ κ) (hd:d≤a∨b≤c):Blo lt xs c d κ:=
 ⟨fun p h1 h2=>by rw[hM.out p (by omega)];exact h.inn p h1 h2,fun p q h1 h2 h3=>by rw[hM.out p (by omega),hM.out q (by omega)];exact h.sort p q h1 h2 h3⟩
theorem Blo.mv {c d:Nat} (hi:∀p,c≤p→p<d→c≤ρ p∧ρ p<d) (hM:Mv c d ρ κ) (hS:qb4 lt xs c d κ):Blo lt xs c d κ:=
 ⟨fun p h1 h2=>by obtain⟨q,q1,q2,q3⟩:=hM.inn p h1 h2;rw[q3];exact hi q q1 q2,hS⟩
theorem q84 {s n a b:Nat} (hs:0<s) (ha:Cut s a) (hb:b=min (a+s) n) (hB:q86 lt xs s n 0 a ρ) (hid:∀p,a≤p→ρ p=p) (hM:Mv a b ρ κ) (hS:qb4 lt xs a b κ) :
  q86 lt xs s n 0 (a+1) κ∧(∀p,b≤p→a≤p→κ p=p):=by
 refine⟨fun c hc h1 h2=>?_,fun p h1 h2=>by rw[hM.out p (by omega)];exact hid p h2⟩
 by_cases e:c=a
 ·subst e
  rw[←hb]
  exact Blo.mv (fun p h1 h2=>by rw[hid p h1];omega) hM hS
 ·have:=hc.ge ha (by omega)
  exact(hB c hc h1 (by omega)).out hM (by omega)
theorem qow {s n a a':Nat} (ha:Cut s a) (h:q86 lt xs s n 0 (a+1) ρ) (he:a'≤a+s):q86 lt xs s n 0 a' ρ:=fun c hc h1 h2=>by
 rcases Nat.lt_trichotomy c a with h'|h'|h'
 ·exact h c hc h1 (by omega)
 ·exact h c hc h1 (by omega)
 ·have:=ha.ge hc h';omega
theorem qv9 {s n a b:Nat} (ha:Cut (2*s) a) (hs:0<s) (hm:a+s<b) (hb:b=min (a+2*s) n) (hB:q86 lt xs s n a n ρ) :
  qb4 lt xs a (a+s) ρ∧qb4 lt xs (a+s) b ρ∧Qt2 a (a+s) b ρ∧(∀p,a≤p→p<b→a≤ρ p∧ρ p<b):=by
 have h1:=hB a ha.half (Nat.le_refl _) (by omega)
 have h2:=hB (a+s) ha.mid (by omega) (by omega)
 have e1:min (a+s) n=a+s:=by omega
 have e2:min (a+s+s) n=b:=by omega
 rw[e1] at h1
 rw[e2] at h2
 refine⟨h1.sort,h2.sort,fun p q p1 p2 q1 q2=>?_,fun p p1 p2=>?_⟩
 ·have:=h1.inn p p1 p2
  have:=h2.inn q q1 q2
  omega
 ·by_cases h:p<a+s
  ·have:=h1.inn p p1 h;omega
  ·have:=h2.inn p (by omega) p2;omega
theorem q1l {s n a b:Nat} (ha:Cut (2*s) a) (hs:0<s) (hm:a+s<b) (hb:b=min (a+2*s) n) (hB:q86 lt xs s n a n ρ) (hD:q86 lt xs (2*s) n 0 a ρ) (hM:Mv a b ρ κ) (hS:qb4 lt xs a b κ) :
  q86 lt xs s n (a+2*s) n κ∧q86 lt xs (2*s) n 0 (a+1) κ:=by
 obtain⟨_,_,_,hin⟩:=qv9 ha hs hm hb hB
 refine⟨fun c hc h1 h2=>(hB c hc (by omega) h2).out hM (.inr (by omega)),fun c hc h1 h2=>?_⟩
 by_cases e:c=a
 ·subst e
  rw[←hb]
  exact Blo.mv hin hM hS
 ·have:=hc.ge ha (by omega)
  exact(hD c hc h1 (by omega)).out hM (by omega)
theorem q9x {s n a:Nat} (ha:Cut (2*s) a) (hs:0<s) (hm:n≤a+s) (hB:q86 lt xs s n a n ρ) (hD:q86 lt xs (2*s) n 0 a ρ):q86 lt xs (2*s) n 0 n ρ:=fun c hc h1 h2=>by
 rcases Nat.lt_trichotomy c a with h'|h'|h'
 ·exact hD c hc h1 h'
 ·subst h'
  have:=hB c ha.half (Nat.le_refl _) h2
  rw[show min (c+2*s) n=min (c+s) n by omega];exact this
 ·have:=ha.ge hc h';omega
theorem Qnp {s n:Nat} (hn:n≤s) (h:q86 lt xs s n 0 n ρ):Blo lt xs 0 n ρ:=by
 by_cases e:n=0
 ·subst e;exact⟨fun p _ h=>by omega,fun p q _ _ h=>by omega⟩
 ·have:=h 0 (Cut.zero s) (Nat.le_refl _) (by omega)
  rwa [show min (0+s) n=n by omega] at this
theorem qkj {α:Type} {R:α→α→Prop}:∀{l1 l2:List α},(∀x∈l1,∀y∈l1,R x y→R y x→False)→l1.Pairwise R→l2.Pairwise R→(∀a,a∈l1↔a∈l2)→l1=l2
 | [],[],_,_,_,_=>rfl
 | [],b::l2,_,_,_,h=>by have:=(h b).2 List.mem_cons_self;cases this
 | a::l1,[],_,_,_,h=>by have:=(h a).1 List.mem_cons_self;cases this
 | a::l1,b::l2,hA,h1,h2,h=>by
  rw[List.pairwise_cons] at h1 h2
  have hb:b∈a::l1:=(h b).2 List.mem_cons_self
  have e:a=b:=by
   apply Classical.byContradiction
   intro hne
   have m1:b∈l1:=by
    rcases List.mem_cons.1 hb with e|h'
    ·exact absurd e.symm hne
    ·exact h'
   have m2:a∈l2:=by
    rcases List.mem_cons.1 ((h a).1 List.mem_cons_self) with e|h'
    ·exact absurd e hne
    ·exact h'
   exact hA a List.mem_cons_self b hb (h1.1 b m1) (h2.1 a m2)
  subst e
  congr 1
  refine qkj (fun x hx y hy=>hA x (List.mem_cons_of_mem _ hx) y (List.mem_cons_of_mem _ hy)) h1.2 h2.2 fun x=>⟨fun hx=>?_,fun hx=>?_⟩
  ·rcases List.mem_cons.1 ((h x).1 (List.mem_cons_of_mem _ hx)) with e|h'
   ·subst e;exact(hA x List.mem_cons_self x List.mem_cons_self (h1.1 x hx) (h1.1 x hx)).elim
   ·exact h'
  ·rcases List.mem_cons.1 ((h x).2 (List.mem_cons_of_mem _ hx)) with e|h'
   ·subst e;exact(hA x List.mem_cons_self x List.mem_cons_self (h2.1 x hx) (h2.1 x hx)).elim
   ·exact h'
theorem Qej:∀(n:Nat) (l:List Nat),l.Nodup→(∀x∈l,x<n)→l.length≤n
 | 0,l,_,h=>by
  cases l with
  | nil=>exact Nat.le_refl _
  | cons a l=>have:=h a List.mem_cons_self;omega
 | n+1,l,hn,h=>by
  have h1:=Qej n (l.erase n) (hn.erase n) fun x hx=>by
   have hm:=List.mem_of_mem_erase hx
   have:=h x hm
   have:x≠n:=fun e=>by
    subst e
    exact(List.Nodup.not_mem_erase hn) hx
   omega
  have:=List.length_erase_le (a:=n) (l:=l)
  by_cases hm:n∈l
  ·rw[List.length_erase_of_mem hm] at h1;omega
  ·rw[List.erase_of_not_mem hm] at h1;omega
theorem Qkm {n:Nat} {l:List Nat} (hn:l.Nodup) (h:∀x∈l,x<n) (hl:l.length=n):∀i,i<n→i∈l:=fun i hi=>by
 apply Classical.byContradiction
 intro hm
 have:=Qej n (i::l) (List.nodup_cons.2 ⟨hm,hn⟩) fun x hx=>by
  rcases List.mem_cons.1 hx with rfl|hx
  ·exact hi
  ·exact h x hx
 simp at this
 omega
def qjk (n:Nat) (ρ:Nat→Nat):List Nat:=(List.range n).map ρ
theorem qoe {n:Nat} (h:qb4 lt xs 0 n ρ):(qjk n ρ).Pairwise (Lx lt xs):=by
 unfold qjk
 rw[List.pairwise_iff_getElem]
 intro i j hi hj hij
 simp only[List.length_map,List.length_range] at hi hj
 simp only[List.getElem_map,List.getElem_range]
 exact h i j (Nat.zero_le _) hij hj
theorem q7d {n:Nat} (hw:Swo Dm lt) (hx:∀y∈xs,Dm y) (hb:Blo lt xs 0 n ρ) (hn:n≤xs.length):(qjk n ρ).Nodup:=by
 refine(qoe hb.sort).imp_of_mem (S:=(·≠·)) fun {a b} ha hb' hL e=>?_
 subst e
 unfold qjk at ha
 obtain⟨i,hi,rfl⟩:=List.mem_map.1 ha
 have:=hb.inn i (Nat.zero_le _) (by simpa using hi)
 exact Lx.asymm hw hx (by omega) (by omega) hL hL
theorem qpk {n:Nat} (hw:Swo Dm lt) (hx:∀y∈xs,Dm y) (hb:Blo lt xs 0 n ρ) (hn:n≤xs.length) (i:Nat):i∈qjk n ρ↔i<n:=by
 have hlt:∀x∈qjk n ρ,x<n:=fun x hx=>by
  unfold qjk at hx
  obtain⟨i,hi,rfl⟩:=List.mem_map.1 hx
  exact(hb.inn i (Nat.zero_le _) (by simpa using hi)).2
 exact⟨hlt i,Qkm (q7d hw hx hb hn) hlt (by simp[qjk]) i⟩
theorem q24 {n:Nat} (hw:Swo Dm lt) (hx:∀y∈xs,Dm y) (hb:Blo lt xs 0 n ρ) (hn:n≤xs.length) {l:List Nat} (h1:l.Pairwise (Lx lt xs)) (h2:∀i,i∈l↔i<n):qjk n ρ=l:=
 qkj (fun i hi j hj a b=>Lx.asymm hw hx (by have:=(qpk hw hx hb hn i).1 hi;omega) (by have:=(qpk hw hx hb hn j).1 hj;omega) a b) (qoe hb.sort) h1 fun a=>by rw[qpk hw hx hb hn,h2]
end Go.AM


namespace Go.AM
section
variable {α:Type} [Inhabited α]
def putAt (lt:α→α→Bool) (l:List α) (b:α):Nat→Nat
 | 0=>0
 | k+1=>if lt b (l.getD k default)=true then putAt lt l b k else k+1
def q7a (lt:α→α→Bool) (l:List α) (b:α):List α:=l.take (putAt lt l b l.length)++b::l.drop (putAt lt l b l.length)
def qfd (lt:α→α→Bool) (l:List α):List α:=l.foldl (q7a lt) []
theorem qsp (lt:α→α→Bool) (l:List α) (b:α):∀k,putAt lt l b k≤k
 | 0=>Nat.le_refl _
 | k+1=>by
  have:=qsp lt l b k
  unfold putAt;split<;>omega
theorem q21 {lt:α→α→Bool} {l:List α} {b:α}:∀{k j:Nat},putAt lt l b k≤j→j<k→lt b (l.getD j default)=true
 | 0,j,_,h=>by omega
 | k+1,j,h1,h2=>by
  unfold putAt at h1
  split at h1
  ·rename_i h
   by_cases e:j=k
   ·subst e;exact h
   ·exact q21 h1 (by omega)
  ·omega
theorem q20 {lt:α→α→Bool} {l:List α} {b:α}:∀{k:Nat},0<putAt lt l b k→lt b (l.getD (putAt lt l b k-1) default)=false
 | 0,h=>by simp[putAt] at h
 | k+1,h=>by
  unfold putAt at h ⊢
  split at h
  ·rename_i h'
   rw[if_pos h'];exact q20 h
  ·rename_i h'
   rw[if_neg h'];simpa using h'
theorem q9v (lt:α→α→Bool) (l:List α) (b:α):(q7a lt l b).length=l.length+1:=by
 have:=qsp lt l b l.length
 simp[q7a];omega
theorem Qea {lt:α→α→Bool} {l:List α} {b x:α}:x∈q7a lt l b↔x∈l∨x=b:=by
 unfold q7a
 rw[List.mem_append,List.mem_cons]
 have:x∈l↔x∈l.take (putAt lt l b l.length)∨x∈l.drop (putAt lt l b l.length):=by
  rw[←List.mem_append,List.take_append_drop]
 rw[this]
 constructor
 ·rintro(h|h|h)<;>simp[h]
 ·rintro((h|h)|h)<;>simp[h]
theorem qf8 (lt:α→α→Bool) (l:List α):(qfd lt l).length=l.length:=by
 have gen:∀(l a:List α),(l.foldl (q7a lt) a).length=a.length+l.length:=by
  intro l
  induction l with
  | nil=>intro a;rfl
  | cons x l ih=>intro a;rw[List.foldl_cons,ih,q9v,List.length_cons];omega
 have:=gen l []
 unfold qfd
 simpa using this
theorem qo7 (lt:α→α→Bool) (l:List α) (b:α):qfd lt (l++[b])=q7a lt (qfd lt l) b:=by simp[qfd]
end
section
variable {α β:Type} [Inhabited α] [Inhabited β] {g:α→β} {lt:β→β→Bool}
theorem q7b {l:List α} {b:α}:∀{k:Nat},k≤l.length→putAt lt (l.map g) (g b) k=putAt (fun x y=>lt (g x) (g y)) l b k
 | 0,_=>rfl
 | k+1,h=>by
  have e:(l.map g).getD k default=g (l.getD k default):=by simp[show k<l.length by omega]
  unfold putAt
  rw[e,q7b (by omega)]
theorem Qo3 {l:List α} {b:α}:q7a lt (l.map g) (g b)=(q7a (fun x y=>lt (g x) (g y)) l b).map g:=by
 unfold q7a
 rw[List.length_map,q7b (Nat.le_refl _),List.map_append,List.map_cons,List.map_take,List.map_drop]
theorem q5a {l:List α}:qfd lt (l.map g)=(qfd (fun x y=>lt (g x) (g y)) l).map g:=by
 have gen:∀(l a:List α),(l.map g).foldl (q7a lt) (a.map g)=(l.foldl (q7a fun x y=>lt (g x) (g y)) a).map g:=by
  intro l
  induction l with
  | nil=>intro a;rfl
  | cons x l ih=>intro a;rw[List.map_cons,List.foldl_cons,List.foldl_cons,Qo3,ih]
 exact gen l []
end
variable {Dm:D→Prop} {lt:D→D→Bool} {xs:List D}
theorem Qx7 (hw:Swo Dm lt) (hx:∀y∈xs,Dm y) {l:List Nat} {k:Nat} (hk:k<xs.length) (hl:l.Pairwise (Lx lt xs)) (hlt:∀i∈l,i<k) :
  (q7a (fun i j=>lt (xs.getD i default) (xs.getD j default)) l k).Pairwise (Lx lt xs):=by
 obtain⟨ltx,hltx⟩:∃ltx,ltx=fun i j:Nat=>lt (xs.getD i default) (xs.getD j default):=⟨_,rfl⟩
 rw[←hltx]
 unfold q7a
 obtain⟨p,hp⟩:∃p,p=putAt ltx l k l.length:=⟨_,rfl⟩
 have hle:p≤l.length:=by rw[hp];exact qsp _ _ _ _
 rw[←hp]
 have hsp:(l.take p++l.drop p).Pairwise (Lx lt xs):=by rw[List.take_append_drop];exact hl
 rw[List.pairwise_append] at hsp ⊢
 obtain⟨h1,h2,h3⟩:=hsp
 have hkd:∀j∈l.drop p,Lx lt xs k j:=fun j hj=>by
  obtain⟨i,hi⟩:=List.getElem?_of_mem hj
  rw[List.getElem?_drop] at hi
  have hil:p+i<l.length:=by
   rcases Nat.lt_or_ge (p+i) l.length with h|h
   ·exact h
   ·rw[List.getElem?_eq_none h] at hi;cases hi
  have:=q21 (lt:=ltx) (l:=l) (b:=k) (k:=l.length) (j:=p+i) (by omega) hil
  rw[List.getD_eq_getElem?_getD,hi,hltx] at this
  exact .inl this
 have htk:∀j∈l.take p,Lx lt xs j k:=fun j hj=>by
  rcases Nat.eq_zero_or_pos p with hz|hpos
  ·rw[hz] at hj;simp at hj
  have hq:p-1<l.length:=by omega
  have hlo:=q20 (lt:=ltx) (l:=l) (b:=k) (k:=l.length) (by omega)
  rw[←hp] at hlo
  have eq:l.getD (p-1) default=l[p-1]:=by simp[hq]
  rw[eq,hltx] at hlo
  have hlast:Lx lt xs l[p-1] k:=.inr ⟨hlo,hlt _ (List.getElem_mem hq)⟩
  obtain⟨i,hi⟩:=List.getElem?_of_mem hj
  have hip:i<p:=by
   rcases Nat.lt_or_ge i p with h|h
   ·exact h
   ·rw[List.getElem?_eq_none (by simp;omega)] at hi;cases hi
  rw[List.getElem?_take_of_lt hip,List.getElem?_eq_getElem (by omega)] at hi
  simp only[Option.some.injEq] at hi
  by_cases e:i=p-1
  ·subst e;rw[←hi];exact hlast
  ·have hL:Lx lt xs l[i] l[p-1]:=List.pairwise_iff_getElem.1 hl i (p-1) (by omega) hq (by omega)
   rw[←hi]
   have b1:=hlt _ (List.getElem_mem (l:=l) (n:=i) (by omega))
   have b2:=hlt _ (List.getElem_mem hq)
   exact Lx.trans hw hx (by omega) (by omega) hk hL hlast
 refine⟨h1,List.pairwise_cons.2 ⟨hkd,h2⟩,fun a ha b hb=>?_⟩
 rcases List.mem_cons.1 hb with rfl|hb
 ·exact htk a ha
 ·exact h3 a ha b hb
theorem q1x (hw:Swo Dm lt) (hx:∀y∈xs,Dm y):∀n,n≤xs.length→(qfd (fun i j=>lt (xs.getD i default) (xs.getD j default)) (List.range n)).Pairwise (Lx lt xs)∧∀i,i∈qfd (fun i j=>lt (xs.getD i default) (xs.getD j default)) (List.range n)↔i<n
 | 0,_=>⟨List.Pairwise.nil,fun i=>by simp[qfd]⟩
 | n+1,h=>by
  obtain⟨h1,h2⟩:=q1x hw hx n (by omega)
  rw[List.range_succ,qo7]
  refine⟨Qx7 hw hx (by omega) h1 fun i hi=>(h2 i).1 hi,fun i=>?_⟩
  rw[Qea,h2];omega
theorem q2p (hw:Swo Dm lt) (hx:∀y∈xs,Dm y) {n:Nat} (hn:n≤xs.length) {zs:List D} {ρ:Nat→Nat} (hA:Arr Dm xs zs ρ) (hB:Blo lt xs 0 n ρ) (hid:∀p,n≤p→ρ p=p) :
  zs=qfd lt (xs.take n)++xs.drop n:=by
 obtain⟨h1,h2⟩:=q1x hw hx n hn
 have hp:=q24 hw hx hB hn h1 h2
 have e1:xs.take n=(List.range n).map fun i=>xs.getD i default:=by
  apply List.ext_getElem
  ·simp;omega
  ·intro i h3 h4
   simp only[List.length_take] at h3
   simp[show i<xs.length by omega]
 have e2:qfd lt (xs.take n)=zs.take n:=by
  rw[e1,q5a,←hp]
  apply List.ext_getElem
  ·simp[qjk,hA.len];omega
  ·intro i h3 h4
   simp only[qjk,List.length_map,List.length_range] at h3
   have:=hA.get i (by omega)
   simp only[qjk,List.getElem_map,List.getElem_range,List.getElem_take]
   rw[←this];simp[show i<zs.length by have:=hA.len;omega]
 have e3:xs.drop n=zs.drop n:=by
  apply List.ext_getElem
  ·simp[hA.len]
  ·intro i h3 h4
   simp only[List.length_drop] at h3
   have:=hA.get (n+i) (by omega)
   rw[hid _ (by omega)] at this
   have hl:=hA.len
   simp only[List.getElem_drop]
   simp[show n+i<xs.length by omega,show n+i<zs.length by omega] at this
   exact this.symm
 rw[e2,e3,List.take_append_drop]
end Go.AM


set_option linter.unusedVariables false
namespace Go.AM
variable {P:Program} {Gl:qbb}
def qos (σ:Sto) (u:AV):AV:=if u.isD σ=true then .d (u.toD σ) else u
def qj4 (σ:Sto) (u:AV):List Nat:=if u.isD σ=true then u.refs else[]
theorem qal.data {f:FuncId} {args:List AV} {σ:Sto} {R:AV→Sto→Prop} (h:qal P Gl f (args.map (qos σ)) (freezeL σ (args.flatMap (qj4 σ))) R):qal P Gl f args σ R:=by
 intro w I μ vals hR hG hl hv
 obtain⟨I',r1,r2,r3,r4,r5,r6,r7,r8⟩:=qe6 hR (args.flatMap (qj4 σ))
 have hm:=h w I' μ vals r1 (hG.keep r2) (by simpa using hl) fun i v u h1 h2=>by
  rw[List.getElem?_map] at h2
  cases ha:args[i]? with
  | none=>rw[ha] at h2;cases h2
  | some a=>
   rw[ha] at h2
   simp only[Option.map_some,Option.some.injEq] at h2
   subst h2
   have hk:=(hv i v a h1 ha).keep r2
   unfold qos
   split
   ·rename_i hd
    refine .d _ _ ?_
    have:=qm5 r1 hk (by rw[qon (fun id=>(r5 id).2)];exact hd) (fun id hid=>r4 id (List.mem_flatMap.2 ⟨a,List.mem_of_getElem? ha,by unfold qj4;rw[if_pos hd];exact hid⟩) (qpe hd id hid))
    rwa [qm6 (fun id=>(r5 id).1)] at this
   ·exact hk
 refine hm.mono fun v w' ⟨r,σ',I'',μ',q1,q2,q3,q4⟩=>⟨r,σ',I'',μ',q1,r2.trans (q2.mono (by rw[r3];exact Nat.le_refl _)),q3,q4⟩
section
variable {n:Nat} {all:Array Oper} {rest:List Oper} {KK:Env→Sto→Prop} {env:Env} {σ:Sto} {f:FuncId} {as caps:List AV} {v:AV} {dst:Option Tmp} {g:Bool}
theorem q2b (h:qbc P Gl f ((as++caps).map (qos σ)) v) (h2:qar P Gl n all false rest (putE env dst v) (freezeL σ ((as++caps).flatMap (qj4 σ))) KK):qhd P Gl n all false dst rest (.fn f caps) as env σ KK:=
 qaz (qal.data ((h _).mono fun r s ⟨e1,e2⟩=>by rw[e1,e2];exact h2))
theorem qxh (h:qal P Gl f ((as++caps).map (qos σ)) (freezeL σ ((as++caps).flatMap (qj4 σ))) (fun r σ'=>qar P Gl n all false rest (putE env dst r) σ' KK)):qhd P Gl n all false dst rest (.fn f caps) as env σ KK:=
 qaz (qal.data h)
end
theorem q2i {σ:Sto} {i:Nat} (hi:i<σ.length) (es:Nat) (xs:List D):qeo [i] σ [.arr es xs]=σ.set i (.arr es xs):=by
 apply List.ext_getElem
 ·simp[qeo]
 ·intro j h1 h2
  simp only[qeo,List.length_cons,List.length_nil,Nat.sub_self,Nat.add_zero,List.length_map,List.length_range] at h1
  simp only[qeo,List.getElem_map,List.getElem_range]
  rw[List.getElem_set]
  by_cases e:i=j
  ·subst e
   have:qcl [i] i=some 0:=by simp[qcl]
   rw[this,if_pos rfl];rfl
  ·have:qcl [i] j=none:=by simp[qcl,e]
   rw[this,if_neg e]
   have hj:j<σ.length:=by omega
   simp only[hj,if_true]
   unfold qad
   simp[hj]
theorem Qnm {n:Nat} {all:Array Oper} {rest:List Oper} {KK:Env→Sto→Prop} {env:Env} {σ:Sto} {f:FuncId} {as caps:List AV} {dst:Option Tmp} {Q:AV→Sto→Prop} {es:Nat} {xs:List D} (i:Nat) (hi:i<σ.length) (hb:qad σ i=.arr es xs)
  (h:qal P Gl f ((as++caps).map (qbk [i] σ)) [.arr es xs] Q)
  (h2:∀r s,Q r s→qar P Gl n all false rest (putE env dst (qhq (qb6 [i] σ.length) r)) (qeo [i] σ s) KK):qhd P Gl n all false dst rest (.fn f caps) as env σ KK:=by
 have e:qdy [i] σ=[.arr es xs]:=by simp[qdy,hb,qbs]
 refine qaz ((qal.under [i] (by simp) (by simpa using hi) (by rw[e];exact h)).mono fun r s hr=>?_)
 obtain⟨r0,s0,h3,rfl,rfl⟩:=hr
 exact h2 _ _ h3
theorem qye (i N o k:Nat):qhq (qb6 [i] N) (.osl 0 o k)=.osl i o k:=rfl
theorem Qby (b:Nat→Nat) (x:D):qhq b (.d x)=.d x:=rfl
theorem qs8 (b:Nat→Nat):qhq b (.tup [])=.tup []:=rfl
theorem Qh1 (σ:Sto) (t:TypeId) (len:Nat) (parts:List (Nat×AV)):Qho P σ t len parts=(match qcg P t with
 | some e=>match tsz P e,qa1 P e,qbp P e with
  | some es,some _,some z=>0<es∧z.cells.size=es∧0<len∧len*es≤16777216∧∀p∈parts,p.1<len∧p.2.isD σ=true∧(p.2.toD σ).cells.length=es
  | _,_,_=>False
 | none=>False):=by unfold Qho;rfl
theorem Qrp (σ:Sto) (t:TypeId) (len:Nat) (parts:List (Nat×AV)):Qwd P σ t len parts=(match qcg P t with
 | some e=>match qa1 P e with
  | some x=>qeu (List.replicate len x) (parts.map fun p=>(p.1,p.2.toD σ))
  | none=>[]
 | none=>[]):=by unfold Qwd;rfl
theorem Qrq (σ:Sto) (t:TypeId) (len:Nat) (parts:List (Nat×AV)):Qv0 P σ t len parts=freezeL σ (parts.flatMap fun p=>p.2.refs)++[.arr (qr1 P t) (Qwd P σ t len parts)]:=rfl
theorem Qwg (xs:List D):qeu xs []=xs:=rfl
theorem Qwf (xs:List D) (i:Nat) (x:D) (r:List (Nat×D)):qeu xs ((i,x)::r)=qeu (xs.set i x) r:=rfl
theorem Qrk (x:D):List.replicate 0 x=[]:=rfl
theorem Qrj (n:Nat) (x:D):List.replicate (n+1) x=x::List.replicate n x:=rfl
theorem Qbv {α:Type} (f:Nat→α):List.map f (List.range 2)=[f 0,f 1]:=rfl
theorem Qbu {α:Type} (f:Nat→α):List.map f (List.range 3)=[f 0,f 1,f 2]:=rfl
theorem Qbt {α:Type} (f:Nat→α):List.map f (List.range 4)=[f 0,f 1,f 2,f 3]:=rfl
theorem Qbs {α:Type} (f:Nat→α):List.map f (List.range 5)=[f 0,f 1,f 2,f 3,f 4]:=rfl
theorem Qbr {α:Type} (f:Nat→α):List.map f (List.range 6)=[f 0,f 1,f 2,f 3,f 4,f 5]:=rfl
theorem Qbq {α:Type} (f:Nat→α):List.map f (List.range 7)=[f 0,f 1,f 2,f 3,f 4,f 5,f 6]:=rfl
theorem Qbp {α:Type} (f:Nat→α):List.map f (List.range 8)=[f 0,f 1,f 2,f 3,f 4,f 5,f 6,f 7]:=rfl
theorem Qbo {α:Type} (f:Nat→α):List.map f (List.range 9)=[f 0,f 1,f 2,f 3,f 4,f 5,f 6,f 7,f 8]:=rfl
theorem q4s {α:Type} (f:Nat→α):List.map f (List.range 10)=[f 0,f 1,f 2,f 3,f 4,f 5,f 6,f 7,f 8,f 9]:=rfl
theorem q4r {α:Type} (f:Nat→α):List.map f (List.range 11)=[f 0,f 1,f 2,f 3,f 4,f 5,f 6,f 7,f 8,f 9,f 10]:=rfl
theorem q4q {α:Type} (f:Nat→α):List.map f (List.range 12)=[f 0,f 1,f 2,f 3,f 4,f 5,f 6,f 7,f 8,f 9,f 10,f 11]:=rfl
theorem qbe {α β:Type} (f:α→β) (l:List α):(l.map f).take l.length=l.map f:=List.take_of_length_le (by simp)
theorem qxg {n:Nat} {all:Array Oper} {rest:List Oper} {KK:Env→Sto→Prop} {env:Env} {σ σ':Sto} {f:FuncId} {as as' caps:List AV} {v:AV} {dst:Option Tmp} (h:qbc P Gl f as' v) (e1:(as++caps).map (qos σ)=as') (e2:freezeL σ ((as++caps).flatMap (qj4 σ))=σ')
  (h2:qar P Gl n all false rest (putE env dst v) σ' KK):qhd P Gl n all false dst rest (.fn f caps) as env σ KK:=q2b (by rw[e1];exact h) (by rw[e2];exact h2)
theorem qs7 (x:D) (σ:Sto):qos σ (.d x)=.d x:=rfl
theorem qju (σ:Sto):qos σ .nils=.d (.sl []):=rfl
theorem qs6 (i o k:Nat) (σ:Sto) (h:(qad σ i).isArr=true):qos σ (.osl i o k)=.d (.sl (((qad σ i).xs.drop o).take k)):=by simp[qos,AV.isD,q8d,h,AV.toD,Qb9]
theorem qyd (f:FuncId) (c:List AV) (σ:Sto):qos σ (.fn f c)=.fn f c:=rfl
theorem q4p (x:D) (σ:Sto):qj4 σ (.d x)=[]:=rfl
theorem qpv (σ:Sto):qj4 σ .nils=[]:=rfl
theorem qyb (f:FuncId) (c:List AV) (σ:Sto):qj4 σ (.fn f c)=[]:=rfl
theorem qs5 (i o k:Nat) (σ:Sto) (h:(qad σ i).isArr=true):qj4 σ (.osl i o k)=[i]:=by simp[qj4,AV.isD,q8d,h,AV.refs,q9p]
def Qhv (g:Int→Option Nat):Key→Option AV
 | .i n=>(g n).map fun i=>.d (.int .i64 (i:Nat))
 | .s _=>none
def Qzh (g:Int→Option Nat) (n:Int) (v:Option Nat):Int→Option Nat:=fun m=>if m=n then v else g m
theorem Qro (g:Int→Option Nat) (n:Int):Qhv g (.i n)=(g n).map fun i=>.d (.int .i64 (i:Nat)):=rfl
theorem Qrm (g:Int→Option Nat) (n:Int) (i:Nat):qhm (Qhv g) (.i n) (.d (.int .i64 i))=Qhv (Qzh g n (some i)):=by
 funext k
 cases k with
 | i m=>
  unfold qhm Qzh Qhv
  by_cases e:m=n
  ·subst e;simp
  ·simp[e]
 | s l=>simp[qhm,Qhv]
theorem Qrn (g:Int→Option Nat) (n:Int):Qks (Qhv g) (.i n)=Qhv (Qzh g n none):=by
 funext k
 cases k with
 | i m=>
  unfold Qks Qzh Qhv
  by_cases e:m=n
  ·subst e;simp
  ·simp[e]
 | s l=>simp[Qks,Qhv]
theorem qyc (g:Int→Option Nat) (ρ:List Nat) (σ:Sto):(fun k=>(Qhv g k).map (qbk ρ σ))=Qhv g:=by
 funext k
 cases k with
 | i m=>
  unfold Qhv
  simp only[Option.map_map]
  rfl
 | s l=>rfl
theorem Qrl (ρ:List Nat) (σ:Sto):qdy ρ σ=ρ.map fun id=>qbs ρ σ (qad σ id):=rfl
theorem qya (ρ:List Nat) (σ:Sto) (es:Nat) (xs:List D):qbs ρ σ (.arr es xs)=.arr es xs:=rfl
theorem qx9 (ρ:List Nat) (σ:Sto) (es:Nat) (xs:List D):qbs ρ σ (.frz es xs)=.frz es xs:=rfl
theorem qs4 (ρ:List Nat) (σ:Sto):qbs ρ σ .dead=.dead:=rfl
theorem Qbx {α:Type}:(none:Option α).isSome=false:=rfl
theorem Qrr:type_of% (aI @q2i (aI @qye (aI @Qby (aI @qs8 (aI @Qh1 (aI @Qrp (aI @Qrq (aI @Qwg (aI @Qwf (aI @Qrk (aI @Qrj (aI @Qbv (aI @Qbu (aI @Qbt (aI @Qbs (aI @Qbr (aI @Qbq (aI @Qbp (aI @Qbo (aI @q4s (aI @q4r (aI @q4q (aI @qs7 (aI @qju (aI @qyd (aI @q4p (aI @qpv (aI @qyb (aI @Qro (aI @Qrm (aI @Qrn (aI @qyc (aI @Qrl (aI @qya (aI @qx9 (aI @qs4 (@Qbx))))))))))))))))))))))))))))))))))))):=aI @q2i (aI @qye (aI @Qby (aI @qs8 (aI @Qh1 (aI @Qrp (aI @Qrq (aI @Qwg (aI @Qwf (aI @Qrk (aI @Qrj (aI @Qbv (aI @Qbu (aI @Qbt (aI @Qbs (aI @Qbr (aI @Qbq (aI @Qbp (aI @Qbo (aI @q4s (aI @q4r (aI @q4q (aI @qs7 (aI @qju (aI @qyd (aI @q4p (aI @qpv (aI @qyb (aI @Qro (aI @Qrm (aI @Qrn (aI @qyc (aI @Qrl (aI @qya (aI @qx9 (aI @qs4 (@Qbx))))))))))))))))))))))))))))))))))))
end Go.AM


set_option linter.unusedVariables false
set_option linter.unusedSimpArgs false
namespace Go.AM
variable {P:Program} {Gl:qbb}
def qeg (es:Nat) (xs:List D) (B:Blk):Prop:=B=.arr es xs∨B=.frz es xs
theorem Qtz {σ:Sto} {i:Nat} (hi:i<σ.length) {es:Nat} {xs:List D} {B:Blk} (hB:qeg es xs B):qeo [i] σ [B]=σ.set i B:=by
 have hb:∀b,qdo b B=B:=fun b=>by rcases hB with rfl|rfl<;>rfl
 apply List.ext_getElem
 ·simp[qeo]
 ·intro j h1 h2
  simp only[qeo,List.length_cons,List.length_nil,Nat.sub_self,Nat.add_zero,List.length_map,List.length_range] at h1
  simp only[qeo,List.getElem_map,List.getElem_range]
  rw[List.getElem_set]
  by_cases e:i=j
  ·subst e
   have:qcl [i] i=some 0:=by simp[qcl]
   rw[this,if_pos rfl]
   exact hb _
  ·have:qcl [i] j=none:=by simp[qcl,e]
   rw[this,if_neg e]
   have hj:j<σ.length:=by omega
   simp only[hj,if_true]
   unfold qad
   simp[hj]
theorem qk1 {n:Nat} {all:Array Oper} {draw:Bool} {rest:List Oper} {KK:Env→Sto→Prop} {env:Env} {σ:Sto} {f:FuncId} {as as' caps:List AV} {dst:Option Tmp} {es:Nat} {xs:List D} {v:D} (i:Nat)
  (h:∀B,qeg es xs B→qal P Gl f as' [B] (fun r s=>r=.d v∧s=[B])) (e:∀s,(as++caps).map (qbk [i] s)=as') (hb:qad σ i=.arr es xs)
  (h2:qar P Gl n all draw rest (putE env dst (.d v)) σ KK):qhd P Gl n all draw dst rest (.fn f caps) as env σ KK:=by
 have main:∀s,Ext σ s→qal P Gl f (as++caps) s (fun r σ'=>r=.d v∧σ'=s):=fun s hs=>by
  have hB:qeg es xs (qad s i):=by
   rcases hs.2 i with h1|h1|h1
   ·rw[hb] at h1;cases h1
   ·rw[hb] at h1;exact .inl h1
   ·rw[hb] at h1;exact .inr h1
  have hil:i<s.length:=by
   rcases Nat.lt_or_ge i s.length with h'|h'
   ·exact h'
   ·exfalso
    have:qad s i=.dead:=by unfold qad;rw[List.getD_eq_getElem?_getD,List.getElem?_eq_none h'];rfl
    rcases hB with q|q<;>rw[this] at q<;>cases q
  have er:qdy [i] s=[qad s i]:=by
   have:∀B,qeg es xs B→qbs [i] s B=B:=fun B hB=>by rcases hB with rfl|rfl<;>rfl
   simp only[qdy,List.map_cons,List.map_nil];rw[this _ hB]
  refine(qal.under (P:=P) (Gl:=Gl) [i] (by simp) (by simpa using hil) (by rw[er,e];exact h _ hB)).mono fun r s' hr=>?_
  obtain⟨r0,s0,⟨rfl,rfl⟩,rfl,rfl⟩:=hr
  refine⟨rfl,?_⟩
  rw[Qtz hil hB]
  apply List.ext_getElem
  ·simp
  ·intro j h1 h2
   rw[List.getElem_set]
   split
   ·subst_vars;unfold qad;simp[hil]
   ·rfl
 unfold qhd
 cases draw with
 | true=>exact .inl ⟨.d v,main,h2⟩
 | false=>
  refine(main σ (Ext.refl σ)).mono fun r s ⟨e1,e2⟩=>?_
  subst e1;subst e2;exact h2
end Go.AM


set_option linter.unusedVariables false
set_option linter.unusedSimpArgs false
namespace Go.AM
variable {P:Program} {Gl:qbb}
inductive Rd (σ:Sto):AV→D→Prop
 | d (x:D):Rd σ (.d x) x
 | nils:Rd σ .nils (.sl [])
 | osl {i o k es:Nat} {xs:List D} (h:qad σ i=.frz es xs) {x:D} (e:x=.sl ((xs.drop o).take k)):Rd σ (.osl i o k) x
inductive RdL (σ:Sto):List AV→List D→Prop
 | nil:RdL σ [] []
 | cons {u:AV} {x:D} {r:List AV} {s:List D} (h:Rd σ u x) (t:RdL σ r s):RdL σ (u::r) (x::s)
theorem Qvk {σ s:Sto} (h:Ext σ s) {i es:Nat} {xs:List D} (hb:qad σ i=.frz es xs):qad s i=.frz es xs:=by
 rcases h.2 i with h1|h1|h1
 ·rw[hb] at h1;cases h1
 ·rw[h1,hb]
 ·rw[h1,hb];rfl
theorem Qhc {s:Sto} {i es:Nat} {xs:List D} (hb:qad s i=.frz es xs):freeze s i=s:=by
 have hil:i<s.length:=by
  rcases Nat.lt_or_ge i s.length with h'|h'
  ·exact h'
  ·unfold qad at hb;rw[List.getD_eq_getElem?_getD,List.getElem?_eq_none h'] at hb;cases hb
 unfold freeze
 rw[hb]
 apply List.ext_getElem
 ·simp
 ·intro j h1 h2
  rw[List.getElem_set]
  split
  ·subst_vars
   unfold qad at hb
   simp[hil] at hb
   rw[hb];rfl
  ·rfl
theorem RdL.spec {σ s:Sto} (hs:Ext σ s) {as:List AV} {xs:List D} (h:RdL σ as xs):as.map (qos s)=xs.map AV.d∧∀id∈as.flatMap (qj4 s),∃es ys,qad s id=.frz es ys:=by
 induction h with
 | nil=>exact⟨rfl,fun _ h=>by simp at h⟩
 | cons h t ih=>
  obtain⟨h1,h2⟩:=ih
  cases h with
  | d x=>exact⟨by rw[List.map_cons,h1,qs7];rfl,fun id hid=>h2 id (by simpa[qj4,AV.isD,q8d,AV.refs,q9p] using hid)⟩
  | nils=>exact⟨by rw[List.map_cons,h1,qju];rfl,fun id hid=>h2 id (by simpa[qj4,AV.isD,q8d,AV.refs,q9p] using hid)⟩
  | osl hb e=>
   have hb':=Qvk hs hb
   have ha:=(congrArg Blk.isArr hb').trans (show _=true from rfl)
   refine⟨by rw[List.map_cons,h1,qs6 _ _ _ _ ha,hb',e];rfl,fun id hid=>?_⟩
   rw[List.flatMap_cons,qs5 _ _ _ _ ha,List.mem_append] at hid
   rcases hid with hid|hid
   ·simp only[List.mem_cons,List.not_mem_nil,or_false] at hid
    subst hid
    exact⟨_,_,hb'⟩
   ·exact h2 id hid
theorem qw1 {s:Sto}:∀{l:List Nat},(∀id∈l,∃es ys,qad s id=.frz es ys)→freezeL s l=s
 | [],_=>rfl
 | i::l,h=>by
  obtain⟨es,ys,hb⟩:=h i List.mem_cons_self
  rw[qhv,Qhc hb]
  exact qw1 fun id hid=>h id (List.mem_cons_of_mem _ hid)
theorem Qup {σ s:Sto} (hs:Ext σ s) {f:FuncId} {as:List AV} {xs:List D} {v:AV} (hr:RdL σ as xs) (h:qbc P Gl f (xs.map AV.d) v):qal P Gl f as s (fun r s'=>r=v∧s'=s):=by
 obtain⟨h1,h2⟩:=hr.spec hs
 refine qal.data ?_
 rw[h1,qw1 h2]
 exact h s
section
variable {n:Nat} {all:Array Oper} {draw:Bool} {rest:List Oper} {KK:Env→Sto→Prop} {env:Env} {σ:Sto} {f:FuncId} {as:List AV} {xs:List D} {v:AV} {dst:Option Tmp} {g:Bool}
theorem qou (h:g=true→qbc P Gl f (xs.map AV.d) v) (hr:RdL σ as xs) (h2:qar P Gl n all draw rest (putE env dst (.iff g v)) σ KK):qxe P Gl n all draw dst rest g (.fn f []) as env σ KK:=
 ⟨v,fun hg s hs=>by rw[List.append_nil];exact Qup hs hr (h hg),h2⟩
end
end Go.AM


namespace Go.AM
section
variable {α:Type} [Inhabited α] {lt:α→α→Bool}
end
section
variable {α:Type} [Inhabited α]
variable {key:α→Int}
end
end Go.AM
