/- A part of the proof: an abstract machine over data, and lemmas; nothing of the statement. No condition beyond those stated. -/
import Derived.Test.YtljpopkonkanlaaGreatDoorG2
import Derived.IntWalk
import Derived.Lib.Bytealg
set_option linter.unusedVariables false
set_option linter.unusedSimpArgs false
set_option linter.unusedSectionVars false
set_option linter.unnecessarySimpa false

namespace Go.AM
set_option linter.unusedSimpArgs false
section
variable {P:Program} {Gl:qbd} {n m:Nat} {env:Env} {σ:Sto} {K:qgl→Env→Sto→Prop} {all:Array Oper} {draw:Bool} {rest:List Oper} {KK:Env→Sto→Prop}
theorem Qcr:evC P Gl n m .skip env σ K=K .normal env σ:=rfl
theorem qvh {id:Nat} {l:List Oper}:evC P Gl n m (.region id l.toArray false) env σ K=qas P Gl n l.toArray false l env σ (K .normal):=by simp[evC]
theorem qvg {id:Nat} {l:List Oper}:evC P Gl n m (.region id l.toArray true) env σ K=(q0g P Gl n m l.toArray env σ (K .normal)∧qas P Gl n l.toArray true l env σ (K .normal)):=by simp[evC]
def Qw4 (P:Program) (Gl:qbd) (n m:Nat) (y:Code) (K:qgl→Env→Sto→Prop) (env:Env) (σ:Sto):Prop:=evC P Gl n m y env σ K
theorem q94 {y:Code}:Qw4 P Gl n m y K env σ=evC P Gl n m y env σ K:=rfl
theorem Qjt {x y:Code}:evC P Gl n m (.seq x y) env σ K=evC P Gl n m x env σ (ql2 K (Qw4 P Gl n m y K)):=rfl
def ifC (b:Bool) (X Y:Prop):Prop:=(b=true→X)∧(b=false→Y)
theorem ifC.mk {b:Bool} {X Y:Prop} (h1:b=true→X) (h2:b=false→Y):ifC b X Y:=⟨h1,h2⟩
theorem Qcb {X Y:Prop}:ifC true X Y=X:=by simp[ifC]
theorem q57 {X Y:Prop}:ifC false X Y=Y:=by simp[ifC]
theorem Qi1 {b b':Bool} {X Y:Prop} (h:b=b'):ifC b X Y=ifC b' X Y:=by rw[h]
attribute [congr] Qi1
theorem Qcu {c:Operand} {x y:Code}:evC P Gl n m (.cond c x y) env σ K=(evG Gl env c=true∧q6p (evU Gl env c) (evC P Gl n m x env σ K) (evC P Gl n m y env σ K)):=rfl
theorem q0i {b:Bool} {X Y:Prop}:q6p (.d (.bool b)) X Y=ifC b X Y:=by cases b<;>simp[q6p,AV.isBoolq,Qv0,Qu2,ifC]
theorem q6o {X Y:Prop}:q6p .anyb X Y=(X∧Y):=by simp[q6p,AV.isBoolq,Qv0,Qu2]
theorem q8u {u u':AV} {X Y:Prop} (h:u=u'):q6p u X Y=q6p u' X Y:=by rw[h]
attribute [congr] q8u
theorem q6m {id:Nat} {c:Code}:evC P Gl n m (.block id c) env σ K=evC P Gl n m c env σ (qfs id K):=rfl
theorem q6k {c:Code}:evC P Gl n m (.scope c) env σ K=evC P Gl n m c env σ K:=rfl
theorem q6l {l:Nat}:evC P Gl n m (.label l) env σ K=K .normal env σ:=rfl
theorem Qct {id:Nat}:evC P Gl n m (.exit id) env σ K=K (.exit id) env σ:=rfl
theorem Qju:evC P Gl n m .ret env σ K=K .ret env σ:=rfl
theorem qop {f:Env→Sto→Prop}:ql2 K f .normal env σ=f env σ:=rfl
theorem qw1 {f:Env→Sto→Prop} {i:Nat}:ql2 K f (.exit i) env σ=K (.exit i) env σ:=rfl
theorem q2y {f:Env→Sto→Prop}:ql2 K f .ret env σ=K .ret env σ:=rfl
theorem qvu {i id:Nat}:qfs id K (.exit i) env σ=if i=id then K .normal env σ else K (.exit i) env σ:=rfl
theorem qnm {id:Nat}:qfs id K .normal env σ=K .normal env σ:=rfl
theorem q0l {id:Nat}:qfs id K .ret env σ=K .ret env σ:=rfl
def qgj (P:Program) (Gl:qbd) (n:Nat) (all:Array Oper) (draw:Bool) (dst:Option Tmp) (rest:List Oper) (fv:AV) (as:List AV) (env:Env) (σ:Sto) (K:Env→Sto→Prop):Prop:=
 match fv with
 | .fn f caps=>if draw=true then(∃r0,(∀s,Ext σ s→qal P Gl f (as++caps) s (fun r σ'=>r=r0∧σ'=s))∧qas P Gl n all draw rest (putE env dst r0) σ K)∨(rest=[]∧q5n all=true∧qal P Gl f (as++caps) σ (fun r σ'=>K (putE env dst r) σ'))∨Qkz all=true
  else qal P Gl f (as++caps) σ (fun r σ'=>qas P Gl n all draw rest (putE env dst r) σ' K)
 | _=>draw=true∧Qkz all=true
def qvq (P:Program) (Gl:qbd) (n:Nat) (all:Array Oper) (draw:Bool) (dst:Option Tmp) (rest:List Oper) (g:Bool) (fv:AV) (as:List AV) (env:Env) (σ:Sto) (K:Env→Sto→Prop):Prop:=
 ∃r0,(g=true→match fv with|.fn f caps=>∀s,Ext σ s→qal P Gl f (as++caps) s (fun r σ'=>r=r0∧σ'=s)|_=>False)∧qas P Gl n all draw rest (putE env dst (.iff g r0)) σ K
theorem Qnq {f:FuncId} {as caps:List AV} {v:AV} {dst:Option Tmp} (h:∀s,qal P Gl f (as++caps) s (fun r s'=>r=v∧s'=s)) (h2:qas P Gl n all draw rest (putE env dst v) σ KK):qgj P Gl n all draw dst rest (.fn f caps) as env σ KK:=by
 cases draw with
 | true=>exact .inl ⟨v,fun s _=>h s,h2⟩
 | false=>
  refine(h σ).mono fun r s ⟨e1,e2⟩=>?_
  subst e1;subst e2;exact h2
theorem qa1 {f:FuncId} {as caps:List AV} {dst:Option Tmp} (h:qal P Gl f (as++caps) σ (fun r σ'=>qas P Gl n all false rest (putE env dst r) σ' KK)):qgj P Gl n all false dst rest (.fn f caps) as env σ KK:=h
theorem Qnp {f:FuncId} {as caps:List AV} {v:AV} {dst:Option Tmp} {g:Bool} (h:g=true→∀s,qal P Gl f (as++caps) s (fun r s'=>r=v∧s'=s)) (h2:qas P Gl n all draw rest (putE env dst (.iff g v)) σ KK):qvq P Gl n all draw dst rest g (.fn f caps) as env σ KK:=
 ⟨v,fun hg s _=>h hg s,h2⟩
theorem q6j:qas P Gl n all draw [] env σ KK=KK env σ:=rfl
theorem q8n {env':Env} {σ':Sto} (h1:env=env') (h2:σ=σ'):qas P Gl n all draw rest env σ KK=qas P Gl n all draw rest env' σ' KK:=by rw[h1,h2]
theorem Qjv {c:Code} {env':Env} {σ':Sto} (h1:env=env') (h2:σ=σ'):evC P Gl n m c env σ K=evC P Gl n m c env' σ' K:=by rw[h1,h2]
theorem q8z {dst:Option Tmp} {fv fv':AV} {as as':List AV} {env':Env} {σ':Sto} (h0:fv=fv') (h3:as=as') (h1:env=env') (h2:σ=σ'):qgj P Gl n all draw dst rest fv as env σ KK=qgj P Gl n all draw dst rest fv' as' env' σ' KK:=by rw[h0,h3,h1,h2]
theorem q8x {dst:Option Tmp} {g g':Bool} {fv fv':AV} {as as':List AV} {env':Env} {σ':Sto} (h4:g=g') (h0:fv=fv') (h3:as=as') (h1:env=env') (h2:σ=σ'):qvq P Gl n all draw dst rest g fv as env σ KK=qvq P Gl n all draw dst rest g' fv' as' env' σ' KK:=by rw[h0,h3,h1,h2,h4]
attribute [congr] q8n Qjv q8z q8x
section
variable {dst:Option Tmp} {ty:TypeId} {pos:String} {af:Array Edge}
theorem Qp0 (x:Operand):qas P Gl n all draw (⟨dst,.move x,ty,pos,af,none⟩::rest) env σ KK=(qb7 n dst=true∧evG Gl env x=true∧qcg P Gl σ env (.move x)∧qas P Gl n all draw rest (putE env dst (opV P Gl σ env (.move x))) (opS P Gl σ env (.move x)) KK):=by
 simp[qas,qa9,qd0,gdL,Op.operands,and_assoc]
theorem Qqd (x:Operand) {j:Nat} {b:Bool}:qas P Gl n all draw (⟨dst,.move x,ty,pos,af,some (j,b)⟩::rest) env σ KK=(qb7 n dst=true∧qbo (qbb all env j)=true∧(qaq (qbb all env j) b=true→evG Gl env x=true)∧(qaq (qbb all env j) b=true→qcg P Gl σ env (.move x))∧qas P Gl n all draw rest (putE env dst (.iff (qaq (qbb all env j) b) (opV P Gl σ env (.move x)))) σ KK):=by
 simp[qas,qa9,qd0,gdL,Op.operands,qbp,qcy,and_assoc]
theorem Qb2 (x:Operand):qas P Gl n all draw (⟨dst,.assign x,ty,pos,af,none⟩::rest) env σ KK=(qb7 n dst=true∧evG Gl env x=true∧qcg P Gl σ env (.assign x)∧qas P Gl n all draw rest (putE env dst (opV P Gl σ env (.assign x))) (opS P Gl σ env (.assign x)) KK):=by
 simp[qas,qa9,qd0,gdL,Op.operands,and_assoc]
theorem Qcj (x:Operand) {j:Nat} {b:Bool}:qas P Gl n all draw (⟨dst,.assign x,ty,pos,af,some (j,b)⟩::rest) env σ KK=(qb7 n dst=true∧qbo (qbb all env j)=true∧(qaq (qbb all env j) b=true→evG Gl env x=true)∧(qaq (qbb all env j) b=true→qcg P Gl σ env (.assign x))∧qas P Gl n all draw rest (putE env dst (.iff (qaq (qbb all env j) b) (opV P Gl σ env (.assign x)))) σ KK):=by
 simp[qas,qa9,qd0,gdL,Op.operands,qbp,qcy,and_assoc]
theorem Qhi (t:TypeId):qas P Gl n all draw (⟨dst,.alloc t,ty,pos,af,none⟩::rest) env σ KK=(qb7 n dst=true∧qcg P Gl σ env (.alloc t)∧qas P Gl n all draw rest (putE env dst (opV P Gl σ env (.alloc t))) (opS P Gl σ env (.alloc t)) KK):=by
 simp[qas,qa9,qd0,gdL,Op.operands,and_assoc]
theorem Quy (t:TypeId) (x:Operand):qas P Gl n all draw (⟨dst,.box t x,ty,pos,af,none⟩::rest) env σ KK=(qb7 n dst=true∧evG Gl env x=true∧qcg P Gl σ env (.box t x)∧qas P Gl n all draw rest (putE env dst (opV P Gl σ env (.box t x))) (opS P Gl σ env (.box t x)) KK):=by
 simp[qas,qa9,qd0,gdL,Op.operands,and_assoc]
theorem Qp1 (t:TypeId) (x:Operand):qas P Gl n all draw (⟨dst,.load t x,ty,pos,af,none⟩::rest) env σ KK=(qb7 n dst=true∧evG Gl env x=true∧qcg P Gl σ env (.load t x)∧qas P Gl n all draw rest (putE env dst (opV P Gl σ env (.load t x))) (opS P Gl σ env (.load t x)) KK):=by
 simp[qas,qa9,qd0,gdL,Op.operands,and_assoc]
theorem Qqe (t:TypeId) (x:Operand) {j:Nat} {b:Bool}:qas P Gl n all draw (⟨dst,.load t x,ty,pos,af,some (j,b)⟩::rest) env σ KK=(qb7 n dst=true∧qbo (qbb all env j)=true∧(qaq (qbb all env j) b=true→evG Gl env x=true)∧(qaq (qbb all env j) b=true→qcg P Gl σ env (.load t x))∧qas P Gl n all draw rest (putE env dst (.iff (qaq (qbb all env j) b) (opV P Gl σ env (.load t x)))) σ KK):=by
 simp[qas,qa9,qd0,gdL,Op.operands,qbp,qcy,and_assoc]
theorem Qhb (t:TypeId) (x y:Operand):qas P Gl n all draw (⟨dst,.store t x y,ty,pos,af,none⟩::rest) env σ KK=(qb7 n dst=true∧evG Gl env x=true∧evG Gl env y=true∧qcg P Gl σ env (.store t x y)∧qas P Gl n all draw rest (putE env dst (opV P Gl σ env (.store t x y))) (opS P Gl σ env (.store t x y)) KK):=by
 simp[qas,qa9,qd0,gdL,Op.operands,and_assoc]
theorem qzt (x:Operand):qas P Gl n all draw (⟨dst,.nilCheck x,ty,pos,af,none⟩::rest) env σ KK=(qb7 n dst=true∧evG Gl env x=true∧qcg P Gl σ env (.nilCheck x)∧qas P Gl n all draw rest (putE env dst (opV P Gl σ env (.nilCheck x))) (opS P Gl σ env (.nilCheck x)) KK):=by
 simp[qas,qa9,qd0,gdL,Op.operands,and_assoc]
theorem q0d (x:Operand) {j:Nat} {b:Bool}:qas P Gl n all draw (⟨dst,.nilCheck x,ty,pos,af,some (j,b)⟩::rest) env σ KK=(qb7 n dst=true∧qbo (qbb all env j)=true∧(qaq (qbb all env j) b=true→evG Gl env x=true)∧(qaq (qbb all env j) b=true→qcg P Gl σ env (.nilCheck x))∧qas P Gl n all draw rest (putE env dst (.iff (qaq (qbb all env j) b) (opV P Gl σ env (.nilCheck x)))) σ KK):=by
 simp[qas,qa9,qd0,gdL,Op.operands,qbp,qcy,and_assoc]
theorem Qhh (o:BinOp) (t u:TypeId) (x y:Operand):qas P Gl n all draw (⟨dst,.binOp o t x y u,ty,pos,af,none⟩::rest) env σ KK=(qb7 n dst=true∧evG Gl env x=true∧evG Gl env y=true∧qcg P Gl σ env (.binOp o t x y u)∧qas P Gl n all draw rest (putE env dst (opV P Gl σ env (.binOp o t x y u))) (opS P Gl σ env (.binOp o t x y u)) KK):=by
 simp[qas,qa9,qd0,gdL,Op.operands,and_assoc]
theorem Qjf (o:BinOp) (t u:TypeId) (x y:Operand) {j:Nat} {b:Bool}:qas P Gl n all draw (⟨dst,.binOp o t x y u,ty,pos,af,some (j,b)⟩::rest) env σ KK=(qb7 n dst=true∧qbo (qbb all env j)=true∧(qaq (qbb all env j) b=true→evG Gl env x=true)∧(qaq (qbb all env j) b=true→evG Gl env y=true)∧(qaq (qbb all env j) b=true→qcg P Gl σ env (.binOp o t x y u))∧qas P Gl n all draw rest (putE env dst (.iff (qaq (qbb all env j) b) (opV P Gl σ env (.binOp o t x y u)))) σ KK):=by
 simp[qas,qa9,qd0,gdL,Op.operands,qbp,qcy,and_assoc]
theorem Qpy (o:UnOp) (t:TypeId) (x:Operand):qas P Gl n all draw (⟨dst,.unOp o t x,ty,pos,af,none⟩::rest) env σ KK=(qb7 n dst=true∧evG Gl env x=true∧qcg P Gl σ env (.unOp o t x)∧qas P Gl n all draw rest (putE env dst (opV P Gl σ env (.unOp o t x))) (opS P Gl σ env (.unOp o t x)) KK):=by
 simp[qas,qa9,qd0,gdL,Op.operands,and_assoc]
theorem Qqb (o:UnOp) (t:TypeId) (x:Operand) {j:Nat} {b:Bool}:qas P Gl n all draw (⟨dst,.unOp o t x,ty,pos,af,some (j,b)⟩::rest) env σ KK=(qb7 n dst=true∧qbo (qbb all env j)=true∧(qaq (qbb all env j) b=true→evG Gl env x=true)∧(qaq (qbb all env j) b=true→qcg P Gl σ env (.unOp o t x))∧qas P Gl n all draw rest (putE env dst (.iff (qaq (qbb all env j) b) (opV P Gl σ env (.unOp o t x)))) σ KK):=by
 simp[qas,qa9,qd0,gdL,Op.operands,qbp,qcy,and_assoc]
theorem q5e (s t:TypeId) (x:Operand):qas P Gl n all draw (⟨dst,.convert s t x,ty,pos,af,none⟩::rest) env σ KK=(qb7 n dst=true∧evG Gl env x=true∧qcg P Gl σ env (.convert s t x)∧qas P Gl n all draw rest (putE env dst (opV P Gl σ env (.convert s t x))) (opS P Gl σ env (.convert s t x)) KK):=by
 simp[qas,qa9,qd0,gdL,Op.operands,and_assoc]
theorem q6f (s t:TypeId) (x:Operand) {j:Nat} {b:Bool}:qas P Gl n all draw (⟨dst,.convert s t x,ty,pos,af,some (j,b)⟩::rest) env σ KK=(qb7 n dst=true∧qbo (qbb all env j)=true∧(qaq (qbb all env j) b=true→evG Gl env x=true)∧(qaq (qbb all env j) b=true→qcg P Gl σ env (.convert s t x))∧qas P Gl n all draw rest (putE env dst (.iff (qaq (qbb all env j) b) (opV P Gl σ env (.convert s t x)))) σ KK):=by
 simp[qas,qa9,qd0,gdL,Op.operands,qbp,qcy,and_assoc]
theorem qud (t:TypeId) (x y:Operand):qas P Gl n all draw (⟨dst,.makeSlice t x y,ty,pos,af,none⟩::rest) env σ KK=(qb7 n dst=true∧evG Gl env x=true∧evG Gl env y=true∧qcg P Gl σ env (.makeSlice t x y)∧qas P Gl n all draw rest (putE env dst (opV P Gl σ env (.makeSlice t x y))) (opS P Gl σ env (.makeSlice t x y)) KK):=by
 simp[qas,qa9,qd0,gdL,Op.operands,and_assoc]
theorem q5b (t:TypeId) (x:Operand):qas P Gl n all draw (⟨dst,.slice t x none none none,ty,pos,af,none⟩::rest) env σ KK=(qb7 n dst=true∧evG Gl env x=true∧qcg P Gl σ env (.slice t x none none none)∧qas P Gl n all draw rest (putE env dst (opV P Gl σ env (.slice t x none none none))) (opS P Gl σ env (.slice t x none none none)) KK):=by
 simp[qas,qa9,qd0,gdL,Op.operands,and_assoc]
theorem q6d (t:TypeId) (x:Operand) {j:Nat} {b:Bool}:qas P Gl n all draw (⟨dst,.slice t x none none none,ty,pos,af,some (j,b)⟩::rest) env σ KK=(qb7 n dst=true∧qbo (qbb all env j)=true∧(qaq (qbb all env j) b=true→evG Gl env x=true)∧(qaq (qbb all env j) b=true→qcg P Gl σ env (.slice t x none none none))∧qas P Gl n all draw rest (putE env dst (.iff (qaq (qbb all env j) b) (opV P Gl σ env (.slice t x none none none)))) σ KK):=by
 simp[qas,qa9,qd0,gdL,Op.operands,qbp,qcy,and_assoc]
theorem q49 (t:TypeId) (x y:Operand):qas P Gl n all draw (⟨dst,.slice t x (some y) none none,ty,pos,af,none⟩::rest) env σ KK=(qb7 n dst=true∧evG Gl env x=true∧evG Gl env y=true∧qcg P Gl σ env (.slice t x (some y) none none)∧qas P Gl n all draw rest (putE env dst (opV P Gl σ env (.slice t x (some y) none none))) (opS P Gl σ env (.slice t x (some y) none none)) KK):=by
 simp[qas,qa9,qd0,gdL,Op.operands,and_assoc]
theorem q6b (t:TypeId) (x y:Operand) {j:Nat} {b:Bool}:qas P Gl n all draw (⟨dst,.slice t x (some y) none none,ty,pos,af,some (j,b)⟩::rest) env σ KK=(qb7 n dst=true∧qbo (qbb all env j)=true∧(qaq (qbb all env j) b=true→evG Gl env x=true)∧(qaq (qbb all env j) b=true→evG Gl env y=true)∧(qaq (qbb all env j) b=true→qcg P Gl σ env (.slice t x (some y) none none))∧qas P Gl n all draw rest (putE env dst (.iff (qaq (qbb all env j) b) (opV P Gl σ env (.slice t x (some y) none none)))) σ KK):=by
 simp[qas,qa9,qd0,gdL,Op.operands,qbp,qcy,and_assoc]
theorem q5a (t:TypeId) (x y:Operand):qas P Gl n all draw (⟨dst,.slice t x none (some y) none,ty,pos,af,none⟩::rest) env σ KK=(qb7 n dst=true∧evG Gl env x=true∧evG Gl env y=true∧qcg P Gl σ env (.slice t x none (some y) none)∧qas P Gl n all draw rest (putE env dst (opV P Gl σ env (.slice t x none (some y) none))) (opS P Gl σ env (.slice t x none (some y) none)) KK):=by
 simp[qas,qa9,qd0,gdL,Op.operands,and_assoc]
theorem q6c (t:TypeId) (x y:Operand) {j:Nat} {b:Bool}:qas P Gl n all draw (⟨dst,.slice t x none (some y) none,ty,pos,af,some (j,b)⟩::rest) env σ KK=(qb7 n dst=true∧qbo (qbb all env j)=true∧(qaq (qbb all env j) b=true→evG Gl env x=true)∧(qaq (qbb all env j) b=true→evG Gl env y=true)∧(qaq (qbb all env j) b=true→qcg P Gl σ env (.slice t x none (some y) none))∧qas P Gl n all draw rest (putE env dst (.iff (qaq (qbb all env j) b) (opV P Gl σ env (.slice t x none (some y) none)))) σ KK):=by
 simp[qas,qa9,qd0,gdL,Op.operands,qbp,qcy,and_assoc]
theorem q48 (t:TypeId) (x y z:Operand):qas P Gl n all draw (⟨dst,.slice t x (some y) (some z) none,ty,pos,af,none⟩::rest) env σ KK=(qb7 n dst=true∧evG Gl env x=true∧evG Gl env y=true∧evG Gl env z=true∧qcg P Gl σ env (.slice t x (some y) (some z) none)∧qas P Gl n all draw rest (putE env dst (opV P Gl σ env (.slice t x (some y) (some z) none))) (opS P Gl σ env (.slice t x (some y) (some z) none)) KK):=by
 simp[qas,qa9,qd0,gdL,Op.operands,and_assoc]
theorem q6a (t:TypeId) (x y z:Operand) {j:Nat} {b:Bool}:qas P Gl n all draw (⟨dst,.slice t x (some y) (some z) none,ty,pos,af,some (j,b)⟩::rest) env σ KK=(qb7 n dst=true∧qbo (qbb all env j)=true∧(qaq (qbb all env j) b=true→evG Gl env x=true)∧(qaq (qbb all env j) b=true→evG Gl env y=true)∧(qaq (qbb all env j) b=true→evG Gl env z=true)∧(qaq (qbb all env j) b=true→qcg P Gl σ env (.slice t x (some y) (some z) none))∧qas P Gl n all draw rest (putE env dst (.iff (qaq (qbb all env j) b) (opV P Gl σ env (.slice t x (some y) (some z) none)))) σ KK):=by
 simp[qas,qa9,qd0,gdL,Op.operands,qbp,qcy,and_assoc]
theorem Qbz (t:TypeId) (x y z:Operand):qas P Gl n all draw (⟨dst,.slice t x none (some y) (some z),ty,pos,af,none⟩::rest) env σ KK=(qb7 n dst=true∧evG Gl env x=true∧evG Gl env y=true∧evG Gl env z=true∧qcg P Gl σ env (.slice t x none (some y) (some z))∧qas P Gl n all draw rest (putE env dst (opV P Gl σ env (.slice t x none (some y) (some z)))) (opS P Gl σ env (.slice t x none (some y) (some z))) KK):=by
 simp[qas,qa9,qd0,gdL,Op.operands,and_assoc]
theorem quf (s:TypeId) (x:Operand) (f:Nat):qas P Gl n all draw (⟨dst,.fieldAddr s x f,ty,pos,af,none⟩::rest) env σ KK=(qb7 n dst=true∧evG Gl env x=true∧qcg P Gl σ env (.fieldAddr s x f)∧qas P Gl n all draw rest (putE env dst (opV P Gl σ env (.fieldAddr s x f))) (opS P Gl σ env (.fieldAddr s x f)) KK):=by
 simp[qas,qa9,qd0,gdL,Op.operands,and_assoc]
theorem qvb (s:TypeId) (x:Operand) (f:Nat) {j:Nat} {b:Bool}:qas P Gl n all draw (⟨dst,.fieldAddr s x f,ty,pos,af,some (j,b)⟩::rest) env σ KK=(qb7 n dst=true∧qbo (qbb all env j)=true∧(qaq (qbb all env j) b=true→evG Gl env x=true)∧(qaq (qbb all env j) b=true→qcg P Gl σ env (.fieldAddr s x f))∧qas P Gl n all draw rest (putE env dst (.iff (qaq (qbb all env j) b) (opV P Gl σ env (.fieldAddr s x f)))) σ KK):=by
 simp[qas,qa9,qd0,gdL,Op.operands,qbp,qcy,and_assoc]
theorem Qhe (s:TypeId) (x:Operand) (f:Nat):qas P Gl n all draw (⟨dst,.field s x f,ty,pos,af,none⟩::rest) env σ KK=(qb7 n dst=true∧evG Gl env x=true∧qcg P Gl σ env (.field s x f)∧qas P Gl n all draw rest (putE env dst (opV P Gl σ env (.field s x f))) (opS P Gl σ env (.field s x f)) KK):=by
 simp[qas,qa9,qd0,gdL,Op.operands,and_assoc]
theorem Qjd (s:TypeId) (x:Operand) (f:Nat) {j:Nat} {b:Bool}:qas P Gl n all draw (⟨dst,.field s x f,ty,pos,af,some (j,b)⟩::rest) env σ KK=(qb7 n dst=true∧qbo (qbb all env j)=true∧(qaq (qbb all env j) b=true→evG Gl env x=true)∧(qaq (qbb all env j) b=true→qcg P Gl σ env (.field s x f))∧qas P Gl n all draw rest (putE env dst (.iff (qaq (qbb all env j) b) (opV P Gl σ env (.field s x f)))) σ KK):=by
 simp[qas,qa9,qd0,gdL,Op.operands,qbp,qcy,and_assoc]
theorem que (t:TypeId) (x y:Operand):qas P Gl n all draw (⟨dst,.indexAddr t x y,ty,pos,af,none⟩::rest) env σ KK=(qb7 n dst=true∧evG Gl env x=true∧evG Gl env y=true∧qcg P Gl σ env (.indexAddr t x y)∧qas P Gl n all draw rest (putE env dst (opV P Gl σ env (.indexAddr t x y))) (opS P Gl σ env (.indexAddr t x y)) KK):=by
 simp[qas,qa9,qd0,gdL,Op.operands,and_assoc]
theorem qva (t:TypeId) (x y:Operand) {j:Nat} {b:Bool}:qas P Gl n all draw (⟨dst,.indexAddr t x y,ty,pos,af,some (j,b)⟩::rest) env σ KK=(qb7 n dst=true∧qbo (qbb all env j)=true∧(qaq (qbb all env j) b=true→evG Gl env x=true)∧(qaq (qbb all env j) b=true→evG Gl env y=true)∧(qaq (qbb all env j) b=true→qcg P Gl σ env (.indexAddr t x y))∧qas P Gl n all draw rest (putE env dst (.iff (qaq (qbb all env j) b) (opV P Gl σ env (.indexAddr t x y)))) σ KK):=by
 simp[qas,qa9,qd0,gdL,Op.operands,qbp,qcy,and_assoc]
theorem Qhd (t:TypeId) (x y:Operand):qas P Gl n all draw (⟨dst,.index t x y,ty,pos,af,none⟩::rest) env σ KK=(qb7 n dst=true∧evG Gl env x=true∧evG Gl env y=true∧qcg P Gl σ env (.index t x y)∧qas P Gl n all draw rest (putE env dst (opV P Gl σ env (.index t x y))) (opS P Gl σ env (.index t x y)) KK):=by
 simp[qas,qa9,qd0,gdL,Op.operands,and_assoc]
theorem Qjc (t:TypeId) (x y:Operand) {j:Nat} {b:Bool}:qas P Gl n all draw (⟨dst,.index t x y,ty,pos,af,some (j,b)⟩::rest) env σ KK=(qb7 n dst=true∧qbo (qbb all env j)=true∧(qaq (qbb all env j) b=true→evG Gl env x=true)∧(qaq (qbb all env j) b=true→evG Gl env y=true)∧(qaq (qbb all env j) b=true→qcg P Gl σ env (.index t x y))∧qas P Gl n all draw rest (putE env dst (.iff (qaq (qbb all env j) b) (opV P Gl σ env (.index t x y)))) σ KK):=by
 simp[qas,qa9,qd0,gdL,Op.operands,qbp,qcy,and_assoc]
theorem q5d (x:Operand) (i:Nat):qas P Gl n all draw (⟨dst,.extract x i,ty,pos,af,none⟩::rest) env σ KK=(qb7 n dst=true∧evG Gl env x=true∧qcg P Gl σ env (.extract x i)∧qas P Gl n all draw rest (putE env dst (opV P Gl σ env (.extract x i))) (opS P Gl σ env (.extract x i)) KK):=by
 simp[qas,qa9,qd0,gdL,Op.operands,and_assoc]
theorem q6e (x:Operand) (i:Nat) {j:Nat} {b:Bool}:qas P Gl n all draw (⟨dst,.extract x i,ty,pos,af,some (j,b)⟩::rest) env σ KK=(qb7 n dst=true∧qbo (qbb all env j)=true∧(qaq (qbb all env j) b=true→evG Gl env x=true)∧(qaq (qbb all env j) b=true→qcg P Gl σ env (.extract x i))∧qas P Gl n all draw rest (putE env dst (.iff (qaq (qbb all env j) b) (opV P Gl σ env (.extract x i)))) σ KK):=by
 simp[qas,qa9,qd0,gdL,Op.operands,qbp,qcy,and_assoc]
theorem Qb0 (t:TypeId) (x y:Operand) (k:Bool):qas P Gl n all draw (⟨dst,.lookup t x y k,ty,pos,af,none⟩::rest) env σ KK=(qb7 n dst=true∧evG Gl env x=true∧evG Gl env y=true∧qcg P Gl σ env (.lookup t x y k)∧qas P Gl n all draw rest (putE env dst (opV P Gl σ env (.lookup t x y k))) (opS P Gl σ env (.lookup t x y k)) KK):=by
 simp[qas,qa9,qd0,gdL,Op.operands,and_assoc]
theorem Qci (t:TypeId) (x y:Operand) (k:Bool) {j:Nat} {b:Bool}:qas P Gl n all draw (⟨dst,.lookup t x y k,ty,pos,af,some (j,b)⟩::rest) env σ KK=(qb7 n dst=true∧qbo (qbb all env j)=true∧(qaq (qbb all env j) b=true→evG Gl env x=true)∧(qaq (qbb all env j) b=true→evG Gl env y=true)∧(qaq (qbb all env j) b=true→qcg P Gl σ env (.lookup t x y k))∧qas P Gl n all draw rest (putE env dst (.iff (qaq (qbb all env j) b) (opV P Gl σ env (.lookup t x y k)))) σ KK):=by
 simp[qas,qa9,qd0,gdL,Op.operands,qbp,qcy,and_assoc]
theorem quc (t:TypeId) (x y z:Operand):qas P Gl n all draw (⟨dst,.mapUpdate t x y z,ty,pos,af,none⟩::rest) env σ KK=(qb7 n dst=true∧evG Gl env x=true∧evG Gl env y=true∧evG Gl env z=true∧qcg P Gl σ env (.mapUpdate t x y z)∧qas P Gl n all draw rest (putE env dst (opV P Gl σ env (.mapUpdate t x y z))) (opS P Gl σ env (.mapUpdate t x y z)) KK):=by
 simp[qas,qa9,qd0,gdL,Op.operands,and_assoc]
theorem Qb1 (t:TypeId) (x y z:Operand):qas P Gl n all draw (⟨dst,.insert t x y z,ty,pos,af,none⟩::rest) env σ KK=(qb7 n dst=true∧evG Gl env x=true∧evG Gl env y=true∧evG Gl env z=true∧qcg P Gl σ env (.insert t x y z)∧qas P Gl n all draw rest (putE env dst (opV P Gl σ env (.insert t x y z))) (opS P Gl σ env (.insert t x y z)) KK):=by
 simp[qas,qa9,qd0,gdL,Op.operands,and_assoc]
theorem q5c (t:TypeId):qas P Gl n all draw (⟨dst,.makeMap t none,ty,pos,af,none⟩::rest) env σ KK=(qb7 n dst=true∧qcg P Gl σ env (.makeMap t none)∧qas P Gl n all draw rest (putE env dst (opV P Gl σ env (.makeMap t none))) (opS P Gl σ env (.makeMap t none)) KK):=by
 simp[qas,qa9,qd0,gdL,Op.operands,and_assoc]
theorem Qpz (c x y:Operand):qas P Gl n all draw (⟨dst,.pick c x y,ty,pos,af,none⟩::rest) env σ KK=(qb7 n dst=true∧evG Gl env c=true∧((evU Gl env c).truth=true→evG Gl env x=true)∧((evU Gl env c).truth=false→evG Gl env y=true)∧(evU Gl env c).isBoolv=true ∧
  qas P Gl n all draw rest (putE env dst (q05 (evU Gl env c).truth (evU Gl env x) (evU Gl env y))) σ KK):=by
 simp[qas,qa9,qd0,qcg,opV,opS,and_assoc]
theorem Qqc (c x y:Operand) {j:Nat} {b:Bool}:qas P Gl n all draw (⟨dst,.pick c x y,ty,pos,af,some (j,b)⟩::rest) env σ KK=(qb7 n dst=true∧qbo (qbb all env j)=true∧(qaq (qbb all env j) b=true→evG Gl env c=true) ∧
  (qaq (qbb all env j) b=true→(evU Gl env c).truth=true→evG Gl env x=true)∧(qaq (qbb all env j) b=true→(evU Gl env c).truth=false→evG Gl env y=true)∧(qaq (qbb all env j) b=true→(evU Gl env c).isBoolv=true) ∧
  qas P Gl n all draw rest (putE env dst (.iff (qaq (qbb all env j) b) (q05 (evU Gl env c).truth (evU Gl env x) (evU Gl env y)))) σ KK):=by
 simp[qas,qa9,qd0,qcg,opV,qbp,qcy,and_assoc]
theorem Qhg (t:TypeId) (l:List (Nat×Operand)):qas P Gl n all draw (⟨dst,.build t l.toArray,ty,pos,af,none⟩::rest) env σ KK=(qb7 n dst=true∧gdL Gl env true (l.map (·.2))∧qcg P Gl σ env (.build t l.toArray) ∧
  qas P Gl n all draw rest (putE env dst (opV P Gl σ env (.build t l.toArray))) σ KK):=by
 simp[qas,qa9,qd0,Op.operands,opS]
theorem Qje (t:TypeId) (l:List (Nat×Operand)) {j:Nat} {b:Bool}:qas P Gl n all draw (⟨dst,.build t l.toArray,ty,pos,af,some (j,b)⟩::rest) env σ KK=(qb7 n dst=true∧qbo (qbb all env j)=true∧gdL Gl env (qaq (qbb all env j) b) (l.map (·.2))∧(qaq (qbb all env j) b=true→qcg P Gl σ env (.build t l.toArray)) ∧
  qas P Gl n all draw rest (putE env dst (.iff (qaq (qbb all env j) b) (opV P Gl σ env (.build t l.toArray)))) σ KK):=by
 simp[qas,qa9,qd0,Op.operands,qbp,qcy]
theorem qqd (t:TypeId) (k:Nat) (l:List (Nat×Operand)):qas P Gl n all draw (⟨dst,.buildSlice t k l.toArray,ty,pos,af,none⟩::rest) env σ KK=(qb7 n dst=true∧gdL Gl env true (l.map (·.2))∧qcg P Gl σ env (.buildSlice t k l.toArray) ∧
  qas P Gl n all draw rest (putE env dst (opV P Gl σ env (.buildSlice t k l.toArray))) (opS P Gl σ env (.buildSlice t k l.toArray)) KK):=by
 simp[qas,qa9,qd0,Op.operands]
theorem qqj (t:TypeId) (k:Nat) (l:List (Nat×Operand)) {j:Nat} {b:Bool}:qas P Gl n all draw (⟨dst,.buildSlice t k l.toArray,ty,pos,af,some (j,b)⟩::rest) env σ KK=(qb7 n dst=true∧qbo (qbb all env j)=true∧qaq (qbb all env j) b=true∧gdL Gl env true (l.map (·.2))∧qcg P Gl σ env (.buildSlice t k l.toArray) ∧
  qas P Gl n all draw rest (putE env dst (.iff true (opV P Gl σ env (.buildSlice t k l.toArray)))) (opS P Gl σ env (.buildSlice t k l.toArray)) KK):=by
 simp[qas,qa9,qd0,Op.operands,qcy]
theorem qzu (f:FuncId) (l:List Operand):qas P Gl n all draw (⟨dst,.makeFunc (.func f) #[] l.toArray,ty,pos,af,none⟩::rest) env σ KK=(qb7 n dst=true∧gdL Gl env true l ∧
  qas P Gl n all draw rest (putE env dst (.fn f (l.map (evU Gl env)))) σ KK):=by
 simp[qas,qa9,qd0,Op.operands,qcg,opV,opS]
theorem q5f (bi:Builtin) (l:List Operand) (ts:List TypeId):qas P Gl n all draw (⟨dst,.call ⟨.builtin bi,l.toArray,ts.toArray⟩,ty,pos,af,none⟩::rest) env σ KK=(qb7 n dst=true∧gdL Gl env true l∧q2d P Gl σ env bi l ts ∧
  qas P Gl n all draw rest (putE env dst (biV Gl σ env bi l)) (biS P Gl σ env bi l ts) KK):=by
 simp[qas,qa9,qd0,Op.operands,Call.operands,qcg,opV,opS]
theorem q6g (bi:Builtin) (l:List Operand) (ts:List TypeId) {j:Nat} {b:Bool}:qas P Gl n all draw (⟨dst,.call ⟨.builtin bi,l.toArray,ts.toArray⟩,ty,pos,af,some (j,b)⟩::rest) env σ KK=(qb7 n dst=true∧qbp (.call ⟨.builtin bi,l.toArray,ts.toArray⟩)=true∧qbo (qbb all env j)=true ∧
  gdL Gl env (qaq (qbb all env j) b) l∧(qaq (qbb all env j) b=true→q2d P Gl σ env bi l ts)∧qas P Gl n all draw rest (putE env dst (.iff (qaq (qbb all env j) b) (biV Gl σ env bi l))) σ KK):=by
 simp[qas,qa9,qd0,Op.operands,Call.operands,qcg,opV,qcy]
theorem Qp2 (f:Operand) (l:List Operand) (ts:List TypeId):qas P Gl n all draw (⟨dst,.call ⟨.value f,l.toArray,ts.toArray⟩,ty,pos,af,none⟩::rest) env σ KK=(qb7 n dst=true∧evG Gl env f=true∧gdL Gl env true l ∧
  qgj P Gl n all draw dst rest (evU Gl env f) (l.map (evU Gl env)) env σ KK):=by
 have hl:(#[f]++l.toArray).toList=f::l:=by simp
 simp only[qas,qa9,qd0,Op.operands,Call.operands,qdj,qgj,hl,gdL]
 have hno:(∀s,Ext σ s→False)=False:=eq_false fun h=>h σ (Ext.refl σ)
 cases evU Gl env f<;>cases draw<;>simp[and_assoc,hno]
theorem Qqf (f:Operand) (l:List Operand) (ts:List TypeId) {j:Nat} {b:Bool}:qas P Gl n all draw (⟨dst,.call ⟨.value f,l.toArray,ts.toArray⟩,ty,pos,af,some (j,b)⟩::rest) env σ KK=(qb7 n dst=true∧qbo (qbb all env j)=true∧(qaq (qbb all env j) b=true→evG Gl env f=true)∧gdL Gl env (qaq (qbb all env j) b) l ∧
  qvq P Gl n all draw dst rest (qaq (qbb all env j) b) (evU Gl env f) (l.map (evU Gl env)) env σ KK):=by
 have hl:(#[f]++l.toArray).toList=f::l:=by simp
 simp only[qas,qa9,qd0,Op.operands,Call.operands,qdj,qvq,qbp,qcy,Bool.false_eq_true,if_false,hl,gdL]
 have hno:(∀s,Ext σ s→False)=False:=eq_false fun h=>h σ (Ext.refl σ)
 cases evU Gl env f<;>simp[and_assoc,hno]
end
end
theorem q0r:type_of% (aI @qqj (aI @q6k (aI @q6l (aI @q94 (aI @Qcb (aI @q57 (aI @Qcr (aI @qvh (aI @qvg (aI @Qjt (aI @Qcu (aI @q0i (aI @q6o (aI @q6m (aI @Qct (aI @Qju (aI @qop (aI @qw1 (aI @q2y (aI @qvu (aI @qnm (aI @q0l (aI @q6j (aI @Qp0 (aI @Qqd (aI @Qb2 (aI @Qcj (aI @Qhi (aI @Quy (aI @Qp1 (aI @Qqe (aI @Qhb (aI @qzt (aI @q0d (aI @Qhh (aI @Qjf (aI @Qpy (aI @Qqb (aI @q5e (aI @q6f (aI @qud (aI @q5b (aI @q6d (aI @q49 (aI @q6b (aI @q5a (aI (aI @Qbz @q6c) (aI @q48 (aI @q6a (aI @quf (aI @qvb (aI @Qhe (aI @Qjd (aI @que (aI @qva (aI @Qhd (aI @Qjc (aI @q5d (aI @q6e (aI @Qb0 (aI @Qci (aI @quc (aI @Qb1 (aI @q5c (aI @Qpz (aI @Qqc (aI @Qhg (aI @Qje (aI @qqd (aI @qzu (aI @q5f (aI @q6g (aI @Qp2 (@Qqf)))))))))))))))))))))))))))))))))))))))))))))))))))))))))))))))))))))))))):=aI @qqj (aI @q6k (aI @q6l (aI @q94 (aI @Qcb (aI @q57 (aI @Qcr (aI @qvh (aI @qvg (aI @Qjt (aI @Qcu (aI @q0i (aI @q6o (aI @q6m (aI @Qct (aI @Qju (aI @qop (aI @qw1 (aI @q2y (aI @qvu (aI @qnm (aI @q0l (aI @q6j (aI @Qp0 (aI @Qqd (aI @Qb2 (aI @Qcj (aI @Qhi (aI @Quy (aI @Qp1 (aI @Qqe (aI @Qhb (aI @qzt (aI @q0d (aI @Qhh (aI @Qjf (aI @Qpy (aI @Qqb (aI @q5e (aI @q6f (aI @qud (aI @q5b (aI @q6d (aI @q49 (aI @q6b (aI @q5a (aI (aI @Qbz @q6c) (aI @q48 (aI @q6a (aI @quf (aI @qvb (aI @Qhe (aI @Qjd (aI @que (aI @qva (aI @Qhd (aI @Qjc (aI @q5d (aI @q6e (aI @Qb0 (aI @Qci (aI @quc (aI @Qb1 (aI @q5c (aI @Qpz (aI @Qqc (aI @Qhg (aI @Qje (aI @qqd (aI @qzu (aI @q5f (aI @q6g (aI @Qp2 (@Qqf)))))))))))))))))))))))))))))))))))))))))))))))))))))))))))))))))))))))))
end Go.AM


set_option linter.unusedSimpArgs false
namespace Go.AM
section
variable {P:Program} {Gl:qbd} {env:Env} {σ:Sto} {n:Nat}
theorem qtn (s t:Nat) (v:AV) (r:Env):qem ((s,v)::r) t=if s=t then v else qem r t:=rfl
theorem qyq (t:Nat):qem [] t=.undef:=rfl
theorem qsw (d:Nat) (v:AV):putE env (some d) v=(d,v)::env:=rfl
theorem qsx (v:AV):putE env none v=env:=rfl
theorem qyv (d:Nat):(qb7 n (some d)=true)=(d<n):=by simp[qb7]
theorem qyw:(qb7 n none=true)=True:=by simp[qb7]
theorem Qj5 (v:Value):(qgh v).vg=true∧(qgh v).un=qgh v:=by unfold qgh;split<;>exact⟨rfl,rfl⟩
theorem Ql4 (l:List AV):(qgo l).vg=true∧(qgo l).un=qgo l:=by unfold qgo;split<;>exact⟨rfl,rfl⟩
theorem q6n (v:Value):(qdb v).vg=true∧(qdb v).un=qdb v:=by
 unfold qdb;split
 ·split
  ·exact Ql4 _
  ·exact⟨rfl,rfl⟩
 ·exact Qj5 _
theorem q4p (t:Nat):evG Gl env (.tmp t)=(qem env t).vg:=rfl
theorem qts (v:Value):evG Gl env (.const v)=true:=(q6n v).1
theorem qyt (f:FuncId):evG Gl env (.func f)=true:=rfl
theorem Qcf (g:Nat):(q58 Gl g).vg=true∧(q58 Gl g).un=q58 Gl g:=by unfold q58;split<;>exact⟨rfl,rfl⟩
theorem qpw (g:Nat):evG Gl env (.global g)=true:=(Qcf g).1
theorem q4o (t:Nat):evU Gl env (.tmp t)=(qem env t).un:=rfl
theorem qtr (v:Value):evU Gl env (.const v)=qdb v:=(q6n v).2
theorem qys (f:FuncId):evU Gl env (.func f)=.fn f []:=rfl
theorem qpv (g:Nat):evU Gl env (.global g)=q58 Gl g:=(Qcf g).2
theorem Qpg (x:D):(AV.d x).un=.d x:=rfl
theorem q3l:AV.nils.un=.nils:=rfl
theorem Qat (l:List AV):(AV.agg l).un=.agg l:=rfl
theorem Qaq (i o:Nat):(AV.ptr i o).un=.ptr i o:=rfl
theorem q3n (e:Nat) (xs:List D) (i o:Nat):(AV.eptr e xs i o).un=.eptr e xs i o:=rfl
theorem q3o (j i o:Nat):(AV.aptr j i o).un=.aptr j i o:=rfl
theorem Qar (j i o:Nat):(AV.osl j i o).un=.osl j i o:=rfl
theorem Qgj (f:FuncId) (c:List AV):(AV.fn f c).un=.fn f c:=rfl
theorem Qap (l:List AV):(AV.tup l).un=.tup l:=rfl
theorem Qas (g:Bool) (v:AV):(AV.iff g v).un=v:=rfl
theorem Qpf (x:D):(AV.d x).vg=true:=rfl
theorem q3a:AV.nils.vg=true:=rfl
theorem Qal (l:List AV):(AV.agg l).vg=true:=rfl
theorem Qai (i o:Nat):(AV.ptr i o).vg=true:=rfl
theorem q3c (e:Nat) (xs:List D) (i o:Nat):(AV.eptr e xs i o).vg=true:=rfl
theorem q3d (j i o:Nat):(AV.aptr j i o).vg=true:=rfl
theorem Qaj (j i o:Nat):(AV.osl j i o).vg=true:=rfl
theorem Qgh (f:FuncId) (c:List AV):(AV.fn f c).vg=true:=rfl
theorem Qah (l:List AV):(AV.tup l).vg=true:=rfl
theorem Qak (g:Bool) (v:AV):(AV.iff g v).vg=g:=rfl
theorem qpz (k:IntKind) (i:Int):qdb (.int k i)=.d (.int k i):=rfl
theorem qmx (b:Bool):qdb (.bool b)=.d (.bool b):=rfl
theorem qpy (s:ByteArray):qdb (.string s)=.d (.str s.data.toList):=rfl
theorem qmw:qdb (.slice none 0 0)=.nils:=rfl
theorem q4l (g:Bool):gdL Gl env g []=True:=rfl
theorem qyr (g:Bool) (x:Operand) (r:List Operand):gdL Gl env g (x::r)=((g=true→evG Gl env x=true)∧gdL Gl env g r):=rfl
theorem Qgl (b:Bool):(AV.d (.bool b)).truth=b:=rfl
theorem q4i (b:Bool):(AV.d (.bool b)).isBoolv=true:=rfl
theorem Qbe (k:IntKind) (i:Int):(AV.d (.int k i)).isIntv=true:=rfl
theorem Qum (k:IntKind) (i:Int):(AV.d (.int k i)).num=i:=rfl
theorem qow (b:Bool):qbo (.d (.bool b))=true:=rfl
theorem qkw (g b:Bool):qbo (.iff g (.d (.bool b)))=true:=rfl
theorem qov (x b:Bool):qaq (.d (.bool x)) b=(x==b):=rfl
theorem qkv (g x b:Bool):qaq (.iff g (.d (.bool x))) b=(g&&(x==b)):=rfl
theorem q7e {dst:Option Tmp} {op:Op} {ty:TypeId} {pos:String} {af:Array Edge} {g:Option (Nat×Bool)} (l:List Oper):qbb ((⟨dst,op,ty,pos,af,g⟩::l).toArray) env 0=(match dst with|some d=>qem env d|none=>.undef):=by
 cases dst<;>simp[qbb]
theorem qja (o:Oper) (l:List Oper) (j:Nat):qbb ((o::l).toArray) env (j+1)=qbb l.toArray env j:=by simp[qbb]
theorem qo3 (c p q:Bool):q05 c (.d (.bool p)) (.d (.bool q))=.d (.bool (bif c then p else q)):=rfl
theorem qsy (c:Bool) (k k':IntKind) (p q:Int):q05 c (.d (.int k p)) (.d (.int k' q))=.d (bif c then .int k p else .int k' q):=rfl
theorem Qpt (B:Blk) (σ:Sto):qae (B::σ) 0=B:=rfl
theorem Qg2 (B:Blk) (σ:Sto) (i:Nat):qae (B::σ) (i+1)=qae σ i:=by simp[qae]
theorem Qps (k:Nat) (v:AV):(Blk.box k v).boxN=k:=rfl
theorem Qpr (k:Nat) (v:AV):(Blk.box k v).boxV=v:=rfl
theorem Qgw (k:Nat) (v:AV):(Blk.box k v).isBox=true:=rfl
theorem qyk (es:Nat) (xs:List D):(Blk.arr es xs).isOwnArr=true:=rfl
theorem Qgx (es:Nat) (xs:List D):(Blk.arr es xs).isArr=true:=rfl
theorem Qbg (es:Nat) (xs:List D):(Blk.frz es xs).isArr=true:=rfl
theorem Qw8 (es:Nat) (xs:List D):(Blk.arr es xs).es=es:=rfl
theorem Qup (es:Nat) (xs:List D):(Blk.frz es xs).es=es:=rfl
theorem Qw5 (es:Nat) (xs:List D):(Blk.arr es xs).xs=xs:=rfl
theorem Quj (es:Nat) (xs:List D):(Blk.frz es xs).xs=xs:=rfl
theorem Qul (es:Nat) (xs:List D):(Blk.arr es xs).own=true:=rfl
theorem Qpi (es:Nat) (xs:List D):(Blk.frz es xs).own=false:=rfl
theorem qyj (g:Bool) (k id off:Nat):Qdy σ g k (.ptr id off)=((qae σ id).isBox=true∧qm8 (qae σ id).boxN off k g (qae σ id).boxV.isAgg):=rfl
theorem qs9 (g:Bool) (k es:Nat) (xs:List D) (i off:Nat):Qdy σ g k (.eptr es xs i off)=(i<xs.length∧qm8 es off k g (xs.getD i default).isAgg):=rfl
theorem qta (g:Bool) (k id i off:Nat):Qdy σ g k (.aptr id i off)=((qae σ id).isArr=true∧i<(qae σ id).xs.length∧qm8 (qae σ id).es off k g ((qae σ id).xs.getD i default).isAgg):=rfl
theorem q4f (g:Bool) (k id off:Nat):ldV σ g k (.ptr id off)=(qae σ id).boxV.partV (qae σ id).boxN off k g:=rfl
theorem qyh (g:Bool) (k es:Nat) (xs:List D) (i off:Nat):ldV σ g k (.eptr es xs i off)=.d ((xs.getD i default).partD es off k g):=rfl
theorem qyi (g:Bool) (k id i off:Nat):ldV σ g k (.aptr id i off)=.d (((qae σ id).xs.getD i default).partD (qae σ id).es off k g):=rfl
theorem Qbb (N off k:Nat) (g whole:Bool):qm8 N off k g whole=(off+k≤N∧(if off=0∧k=N then whole=g else(whole=true∧(g=true∨k=1)))):=rfl
theorem q37 (x:D) (N off k:Nat) (g:Bool):(AV.d x).partV N off k g=.d (x.partD N off k g):=by
 unfold AV.partV D.partD;split
 ·rfl
 ·split<;>rfl
theorem Qgq (v:AV) (N off k:Nat) (g:Bool):v.partV N off k g=if off=0∧k=N then v else if g=true then v.subV off k else v.cellAt off:=rfl
theorem Qgr (x:D) (N off k:Nat) (g:Bool):x.partD N off k g=if off=0∧k=N then x else if g=true then x.sub off k else x.cell off:=rfl
theorem Qaw (x:D) (o k:Nat):(AV.d x).subV o k=.d (x.sub o k):=rfl
theorem qyy (x:D) (j:Nat):(AV.d x).cellAt j=.d (x.cell j):=rfl
theorem qp3 (l:List AV) (j:Nat):(AV.agg l).cellAt j=l.getD j .undef:=rfl
theorem qxn (k id off:Nat) (u:AV):Qua σ k u (.ptr id off)=((qae σ id).isBox=true∧off+k≤(qae σ id).boxN∧u.storable=true∧u.ncells=k):=rfl
theorem qsb (k id i off:Nat) (u:AV):Qua σ k u (.aptr id i off)=((qae σ id).isOwnArr=true∧i<(qae σ id).xs.length∧off+k≤(qae σ id).es∧u.isD σ=true∧(u.toD σ).cells.length=k∧(¬id∈u.refs)):=rfl
theorem q3u (k id off:Nat) (u:AV):stS σ k u (.ptr id off)=σ.set id (.box (qae σ id).boxN (Qpu (qae σ id).boxV (qae σ id).boxN off k u)):=rfl
theorem qxm (k id i off:Nat) (u:AV):stS σ k u (.aptr id i off)=(freezeL σ u.refs).set id (.arr (qae σ id).es ((qae σ id).xs.set i (((qae σ id).xs.getD i default).putAt (qae σ id).es off k (u.toD σ)))):=rfl
theorem Qph (v:AV) (N off k:Nat) (u:AV):Qpu v N off k u=if off=0∧k=N then u else qgo ((List.range N).map fun j=>if off≤j∧j<off+k then u.cellAt (j-off) else v.cellAt j):=rfl
theorem q4j (x:D):(AV.d x).isAgg=x.isAgg:=rfl
theorem qtj (l:List AV):(AV.agg l).isAgg=true:=rfl
theorem qti (i o k:Nat):(AV.osl i o k).isAgg=false:=rfl
theorem qpo:AV.nils.isAgg=false:=rfl
theorem qou (x:D):(AV.d x).storable=true:=rfl
theorem qku (l:List AV):(AV.agg l).storable=true:=rfl
theorem qkt (i o k:Nat):(AV.osl i o k).storable=true:=rfl
theorem qi6:AV.nils.storable=true:=rfl
theorem qya (x:D):(AV.d x).ncells=x.cells.length:=rfl
theorem qph (l:List AV):(AV.agg l).ncells=l.length:=rfl
theorem qpg (i o k:Nat):(AV.osl i o k).ncells=1:=rfl
theorem qmm:AV.nils.ncells=1:=rfl
theorem Qgv (x:D):(AV.d x).isD σ=true:=rfl
theorem qyl:AV.nils.isD σ=true:=rfl
theorem q4g (i o k:Nat):(AV.osl i o k).isD σ=(qae σ i).isArr:=rfl
theorem q4h (l:List AV):(AV.agg l).isD σ=l.all (q56 σ):=rfl
theorem Qgm (x:D):(AV.d x).toD σ=x:=rfl
theorem qxk:AV.nils.toD σ=.sl []:=rfl
theorem q3s (i o k:Nat):(AV.osl i o k).toD σ=.sl (((qae σ i).xs.drop o).take k):=rfl
theorem q3t (l:List AV):(AV.agg l).toD σ=.agg (l.map (q9v σ)):=rfl
theorem Qa8 (x:D):(AV.d x).refs=[]:=rfl
theorem qsu:AV.nils.refs=[]:=rfl
theorem qx2 (i o k:Nat):(AV.osl i o k).refs=[i]:=rfl
theorem qx3 (l:List AV):(AV.agg l).refs=l.flatMap q7b:=rfl
theorem qmu:freezeL σ []=σ:=rfl
theorem qg2 (i:Nat) (l:List Nat):freezeL σ (i::l)=freezeL (freeze σ i) l:=rfl
theorem q4n (B:Blk):freeze (B::σ) 0=B.frozen::σ:=rfl
theorem q4m (B:Blk) (i:Nat):freeze (B::σ) (i+1)=B::freeze σ i:=by simp[freeze,Qg2]
theorem Qbu (es:Nat) (xs:List D):(Blk.arr es xs).frozen=.frz es xs:=rfl
theorem qtf (i o:Nat):(AV.ptr i o).isPtr=true:=rfl
theorem qpi (e:Nat) (xs:List D) (i o:Nat):(AV.eptr e xs i o).isPtr=true:=rfl
theorem qpj (j i o:Nat):(AV.aptr j i o).isPtr=true:=rfl
theorem qsc (i o k:Nat):(AV.ptr i o).shift k=.ptr i (o+k):=rfl
theorem qox (e:Nat) (xs:List D) (i o k:Nat):(AV.eptr e xs i o).shift k=.eptr e xs i (o+k):=rfl
theorem qoy (j i o k:Nat):(AV.aptr j i o).shift k=.aptr j i (o+k):=rfl
theorem qpb (i o:Nat):(AV.ptr i o).notNil=true:=rfl
theorem qmk (e:Nat) (xs:List D) (i o:Nat):(AV.eptr e xs i o).notNil=true:=rfl
theorem qml (j i o:Nat):(AV.aptr j i o).notNil=true:=rfl
theorem qs4 (f:FuncId) (c:List AV):(AV.fn f c).notNil=true:=rfl
theorem qtw (l:List D):(D.agg l).cells=l:=rfl
theorem qqb (l:List D):(D.agg l).isAgg=true:=rfl
theorem qqa (k:IntKind) (i:Int):(D.int k i).isAgg=false:=rfl
theorem qm3 (b:Bool):(D.bool b).isAgg=false:=rfl
theorem qp9 (s:List UInt8):(D.str s).isAgg=false:=rfl
theorem qt5 (l:List D):(D.sl l).isAgg=false:=rfl
theorem qtv (k:IntKind) (i:Int):(D.int k i).cells=[.int k i]:=rfl
theorem qp0 (b:Bool):(D.bool b).cells=[.bool b]:=rfl
theorem qtu (s:List UInt8):(D.str s).cells=[.str s]:=rfl
theorem qyx (l:List D):(D.sl l).cells=[.sl l]:=rfl
theorem Qgp (x:D) (N off k:Nat) (u:D):x.putAt N off k u=if off=0∧k=N then u else .agg ((List.range N).map fun j=>if off≤j∧j<off+k then u.cell (j-off) else x.cell j):=rfl
theorem qy1 (o:BinOp) (x:D) (k:IntKind) (i:Int):q60 o (.d x) (.d (.int k i))=.d (qlc o x (.int k i)):=rfl
theorem qtz (o:BinOp) (x:D) (b:Bool):q60 o (.d x) (.d (.bool b))=.d (qlc o x (.bool b)):=rfl
theorem qyz (o:BinOp) (x:D) (l:List UInt8):q60 o (.d x) (.d (.str l))=.d (qlc o x (.str l)):=rfl
theorem qy2 (o:BinOp) (x:D) (l:List D):q60 o (.d x) (.d (.agg l))=.d (qlc o x (.agg l)):=rfl
theorem qty (o:BinOp) (u:AV):q60 o u .nils=qjm o (qc9 u):=rfl
theorem qy0 (o:BinOp) (u:AV) (v:Value):q60 o u (.d (.raw v))=qjm o (qc9 u):=rfl
theorem qpd (a:AV):qjm .eql a=a:=rfl
theorem qpc (b:Bool):qjm .neq (.d (.bool b))=.d (.bool (!b)):=rfl
theorem qpe:qjm .neq .anyb=.anyb:=rfl
theorem qmo:qc9 .nils=.d (.bool true):=rfl
theorem qpk (v:Value):qc9 (.d (.raw v))=.d (.bool true):=rfl
theorem qpn:qc9 (.d (.sl []))=.anyb:=rfl
theorem qmr (x:D) (l:List D):qc9 (.d (.sl (x::l)))=.d (.bool false):=rfl
theorem qpm (i o k:Nat):qc9 (.osl i o k)=if k=0 then .anyb else .d (.bool false):=rfl
theorem qpl (i o:Nat):qc9 (.ptr i o)=.d (.bool false):=rfl
theorem qmq (e:Nat) (xs:List D) (i o:Nat):qc9 (.eptr e xs i o)=.d (.bool false):=rfl
theorem qms (j i o:Nat):qc9 (.aptr j i o)=.d (.bool false):=rfl
theorem qmp (i:Nat):qc9 (.mapr i)=.d (.bool false):=rfl
theorem qt1 (t:TypeId) (o:BinOp) (x:D) (k:IntKind) (i:Int):qf4 P t o (.d x) (.d (.int k i))=qf0 P t o x (.int k i):=rfl
theorem qp4 (t:TypeId) (o:BinOp) (x:D) (b:Bool):qf4 P t o (.d x) (.d (.bool b))=qf0 P t o x (.bool b):=rfl
theorem qt0 (t:TypeId) (o:BinOp) (x:D) (l:List UInt8):qf4 P t o (.d x) (.d (.str l))=qf0 P t o x (.str l):=rfl
theorem qt2 (t:TypeId) (o:BinOp) (x:D) (l:List D):qf4 P t o (.d x) (.d (.agg l))=qf0 P t o x (.agg l):=rfl
theorem qhc (t:TypeId) (o:BinOp):qf4 P t o .nils .nils=((o=.eql∨o=.neq)∧(qcc P t).isSome=true):=rfl
theorem qjd (t:TypeId) (o:BinOp) (l:List D):qf4 P t o (.d (.sl l)) .nils=((o=.eql∨o=.neq)∧(qcc P t).isSome=true):=rfl
theorem qih (t:TypeId) (o:BinOp) (i j k:Nat):qf4 P t o (.osl i j k) .nils=((o=.eql∨o=.neq)∧(qcc P t).isSome=true):=rfl
theorem qjb (t:TypeId) (o:BinOp) (i j:Nat):qf4 P t o (.ptr i j) (.d (.raw (.pointer none)))=((o=.eql∨o=.neq)∧Qdb P t=true):=rfl
theorem qif (t:TypeId) (o:BinOp) (e:Nat) (xs:List D) (i j:Nat):qf4 P t o (.eptr e xs i j) (.d (.raw (.pointer none)))=((o=.eql∨o=.neq)∧Qdb P t=true):=rfl
theorem qig (t:TypeId) (o:BinOp) (k i j:Nat):qf4 P t o (.aptr k i j) (.d (.raw (.pointer none)))=((o=.eql∨o=.neq)∧Qdb P t=true):=rfl
theorem qjc (t:TypeId) (o:BinOp):qf4 P t o (.d (.raw (.pointer none))) (.d (.raw (.pointer none)))=((o=.eql∨o=.neq)∧Qdb P t=true):=rfl
theorem qii (t:TypeId) (o:BinOp) (i:Nat):qf4 P t o (.mapr i) (.d (.raw (.map none)))=((o=.eql∨o=.neq)∧(qiu P t).isSome=true):=rfl
theorem qje (t:TypeId) (o:BinOp):qf4 P t o (.d (.raw (.map none))) (.d (.raw (.map none)))=((o=.eql∨o=.neq)∧(qiu P t).isSome=true):=rfl
theorem q3m (i:Nat):(AV.mapr i).un=.mapr i:=rfl
theorem q3p:AV.anyb.un=.anyb:=rfl
theorem q3b (i:Nat):(AV.mapr i).vg=true:=rfl
theorem q3e:AV.anyb.vg=true:=rfl
theorem qi7 (i:Nat):(AV.mapr i).storable=true:=rfl
theorem qks (i o:Nat):(AV.ptr i o).storable=true:=rfl
theorem qmc (f:FuncId) (c:List AV):(AV.fn f c).storable=true:=rfl
theorem qmn (i:Nat):(AV.mapr i).ncells=1:=rfl
theorem qpf (i o:Nat):(AV.ptr i o).ncells=1:=rfl
theorem qs5 (f:FuncId) (c:List AV):(AV.fn f c).ncells=1:=rfl
theorem qpp (i:Nat):(AV.mapr i).isAgg=false:=rfl
theorem qth (i o:Nat):(AV.ptr i o).isAgg=false:=rfl
theorem qyn (f:FuncId) (c:List AV):(AV.fn f c).isAgg=false:=rfl
theorem qmz (i j:Nat):(AV.mapr i).cellAt j=.mapr i:=rfl
theorem qp1 (i o j:Nat):(AV.ptr i o).cellAt j=.ptr i o:=rfl
theorem qp2 (i o k j:Nat):(AV.osl i o k).cellAt j=.osl i o k:=rfl
theorem qmy (j:Nat):AV.nils.cellAt j=.nils:=rfl
theorem qtx (f:FuncId) (c:List AV) (j:Nat):(AV.fn f c).cellAt j=.fn f c:=rfl
theorem qt4 (i:Nat) (r:List AV):q0o (.mapr i::r)=none:=rfl
theorem q4z (f:FuncId) (c:List AV) (r:List AV):q0o (.fn f c::r)=none:=rfl
theorem Qgu (ik:Option IntKind) (f:Key→Option AV):(Blk.map ik f).isMap=true:=rfl
theorem Qw6 (ik:Option IntKind) (f:Key→Option AV):(Blk.map ik f).mk=ik:=rfl
theorem Qw7 (ik:Option IntKind) (f:Key→Option AV):(Blk.map ik f).mf=f:=rfl
theorem qte (k:IntKind) (i:Int):qct (.d (.int k i))=.i i:=rfl
theorem qtd (l:List UInt8):qct (.d (.str l))=.s l:=rfl
theorem qtc (ik:Option IntKind) (k:IntKind) (i:Int):qki ik (.d (.int k i))=(ik=some k):=rfl
theorem qtb (ik:Option IntKind) (l:List UInt8):qki ik (.d (.str l))=(ik=none):=rfl
theorem qs8 (ik:Option IntKind) (i:Nat):Qp5 σ ik (.mapr i)=((qae σ i).isMap=true∧(qae σ i).mk=ik):=rfl
theorem qye (ik:Option IntKind):Qp5 σ ik (.d (.raw (.map none)))=True:=rfl
theorem qyf (i:Nat) (k:Key):lkF σ (.mapr i) k=(qae σ i).mf k:=rfl
theorem q4c (v:Value) (k:Key):lkF σ (.d (.raw v)) k=none:=rfl
theorem Qgs (z m k:AV):lkV σ z m k true=.tup [(lkF σ m (qct k)).getD z,.d (.bool (lkF σ m (qct k)).isSome)]:=rfl
theorem Qgt (z m k:AV):lkV σ z m k false=(lkF σ m (qct k)).getD z:=rfl
theorem Qpj (ik:Option IntKind) (i:Nat) (v:AV):Qs0 σ ik (.mapr i) v=((qae σ i).isMap=true∧(qae σ i).mk=ik∧v.storable=true):=rfl
theorem Qun (i:Nat) (k:Key) (v:AV):muS σ k v (.mapr i)=σ.set i (.map (qae σ i).mk (qgs (qae σ i).mf k v)):=rfl
theorem Quo (i:Nat) (k:Key):mdS σ k (.mapr i)=σ.set i (.map (qae σ i).mk (Qhm (qae σ i).mf k)):=rfl
theorem qs0 (t:TypeId) (x y:Operand) (b:Bool):qcg P Gl σ env (.lookup t x y b)=(match qiu P t with|some (ik,e)=>qki ik (evU Gl env y)∧Qp5 σ ik (evU Gl env x)∧(qbs P e).isSome=true|none=>False):=rfl
theorem qxf (t:TypeId) (x y:Operand) (b:Bool):opV P Gl σ env (.lookup t x y b)=(match qiu P t with|some (_,e)=>lkV σ (qce P e) (evU Gl env x) (evU Gl env y) b|none=>.undef):=rfl
theorem qxp (t:TypeId) (x y:Operand) (b:Bool):opS P Gl σ env (.lookup t x y b)=σ:=rfl
theorem qky (t:TypeId) (x y z:Operand):qcg P Gl σ env (.mapUpdate t x y z)=(match qiu P t with|some (ik,_)=>qki ik (evU Gl env y)∧Qs0 σ ik (evU Gl env x) (evU Gl env z)|none=>False):=rfl
theorem ql8 (t:TypeId) (x y z:Operand):opV P Gl σ env (.mapUpdate t x y z)=.undef:=rfl
theorem qmd (t:TypeId) (x y z:Operand):opS P Gl σ env (.mapUpdate t x y z)=muS σ (qct (evU Gl env y)) (evU Gl env z) (evU Gl env x):=rfl
theorem qs1 (t:TypeId) (x y z:Operand):qcg P Gl σ env (.insert t x y z)=(match qiu P t with|some (ik,_)=>qki ik (evU Gl env y)∧Qs0 σ ik (evU Gl env x) (evU Gl env z)|none=>False):=rfl
theorem qxg (t:TypeId) (x y z:Operand):opV P Gl σ env (.insert t x y z)=.undef:=rfl
theorem qxq (t:TypeId) (x y z:Operand):opS P Gl σ env (.insert t x y z)=muS σ (qct (evU Gl env y)) (evU Gl env z) (evU Gl env x):=rfl
theorem qo8 (t:TypeId) (r:Option Operand):qcg P Gl σ env (.makeMap t r)=(r=none∧(qiu P t).isSome=true):=rfl
theorem qr7 (t:TypeId) (r:Option Operand):opV P Gl σ env (.makeMap t r)=.mapr σ.length:=rfl
theorem qsj (t:TypeId) (r:Option Operand):opS P Gl σ env (.makeMap t r)=(match qiu P t with|some (ik,_)=>σ++[.map ik fun _=>none]|none=>σ):=rfl
theorem qk4 (m k:Operand) (t t2:TypeId):q2d P Gl σ env .delete [m,k] [t,t2]=(match qiu P t with|some (ik,_)=>qki ik (evU Gl env k)∧Qsj σ ik (evU Gl env m)|none=>False):=rfl
theorem qm0 (l:List Operand):biV Gl σ env .delete l=.undef:=rfl
theorem qm1 (m k:Operand) (ts:List TypeId):biS P Gl σ env .delete [m,k] ts=mdS σ (qct (evU Gl env k)) (evU Gl env m):=rfl
theorem Qgz (ik:Option IntKind) (i:Nat):Qsj σ ik (.mapr i)=((qae σ i).isMap=true∧(qae σ i).mk=ik):=rfl
theorem qm2 (x:Operand) (t:TypeId):q2d P Gl σ env .clear [x] [t]=Qv6 P σ t (evU Gl env x):=rfl
theorem qp7 (l:List Operand):biV Gl σ env .clear l=.undef:=rfl
theorem qp8 (x:Operand) (t:TypeId):biS P Gl σ env .clear [x] [t]=clS P σ t (evU Gl env x):=rfl
theorem Qpp (t:TypeId) (i o k:Nat):Qv6 P σ t (.osl i o k)=((qae σ i).isOwnArr=true∧(match qcc P t with|some e=>(match qbs P e,qa3 P e with|some z,some _=>z.cells.size=(qae σ i).es|_,_=>False)|none=>False)):=rfl
theorem Qus (t:TypeId):clX P t=(match qcc P t with|some e=>(qa3 P e).getD default|none=>default):=rfl
theorem Qut (t:TypeId) (i o k:Nat):clS P σ t (.osl i o k)=σ.set i (.arr (qae σ i).es (qho (qae σ i).xs o k (clX P t))):=rfl
theorem qsp (ρ:List Nat) (i:Nat):qbk ρ σ (.mapr i)=(match qch ρ i with|some j=>.mapr j|none=>.undef):=rfl
theorem qss (ρ:List Nat):qbk ρ σ .anyb=.anyb:=rfl
theorem qx1 (ρ:List Nat) (ik:Option IntKind) (f:Key→Option AV):qbx ρ σ (.map ik f)=.map ik fun k=>(f k).map (qbk ρ σ):=rfl
theorem qto (x y:AV):(some x).getD y=x:=rfl
theorem qtp (y:AV):(none:Option AV).getD y=y:=rfl
theorem qy5 (o:BinOp) (a b:List UInt8):qlc o (.str a) (.str b)=qkn o a b:=rfl
theorem qjg (a b:Bool):qlc .eql (.bool a) (.bool b)=.bool (a==b):=rfl
theorem qjf (a b:Bool):qlc .neq (.bool a) (.bool b)=.bool (!(a==b)):=rfl
theorem qk3 (a b:List D):qlc .eql (.agg a) (.agg b)=.bool (qhs a b):=rfl
theorem qk2 (a b:List D):qlc .neq (.agg a) (.agg b)=.bool (!(qhs a b)):=rfl
theorem qp6 (t:TypeId) (o:BinOp) (k k':IntKind) (a b:Int):qf0 P t o (.int k a) (.int k' b)=qda o k k' b:=rfl
theorem qp5 (t:TypeId) (o:BinOp) (a b:List UInt8):qf0 P t o (.str a) (.str b)=qez o a b:=rfl
theorem qhe (t:TypeId) (a b:Bool):qf0 P t .eql (.bool a) (.bool b)=(P.underlying t=some .bool):=by simp[qf0]
theorem qhd (t:TypeId) (a b:Bool):qf0 P t .neq (.bool a) (.bool b)=(P.underlying t=some .bool):=by simp[qf0]
theorem qik (t:TypeId) (a b:List D):qf0 P t .eql (.agg a) (.agg b)=(match qlx P t with|some l=>qke l a b=true|none=>False):=by unfold qf0;cases qlx P t<;>simp
theorem qij (t:TypeId) (a b:List D):qf0 P t .neq (.agg a) (.agg b)=(match qlx P t with|some l=>qke l a b=true|none=>False):=by unfold qf0;cases qlx P t<;>simp
theorem q3q (b:Bool):unV .not (.d (.bool b))=.d (.bool (!b)):=rfl
theorem q3r (k:IntKind) (i:Int):unV .neg (.d (.int k i))=.d (.int k (k.wrap (0-i))):=rfl
theorem qxi (b:Bool):Qqv .not (.d (.bool b))=True:=rfl
theorem qxj (k:IntKind) (i:Int):Qqv .neg (.d (.int k i))=True:=rfl
theorem Qbd (xs:List D):(AV.d (.sl xs)).len=xs.length:=rfl
theorem q4d (s:List UInt8):(AV.d (.str s)).len=s.length:=rfl
theorem q4e (i o k:Nat):(AV.osl i o k).len=k:=rfl
theorem qyg:AV.nils.len=0:=rfl
theorem qtm (t:TypeId) (xs:List D):(AV.d (.sl xs)).hasLen P t=(qcc P t).isSome:=rfl
theorem qpr (t:TypeId) (s:List UInt8):(AV.d (.str s)).hasLen P t=Qfs P t:=rfl
theorem qps (t:TypeId) (i o k:Nat):(AV.osl i o k).hasLen P t=(qcc P t).isSome:=rfl
theorem qmt (t:TypeId):AV.nils.hasLen P t=(qcc P t).isSome:=rfl
theorem qyu (xs:List D):(AV.d (.sl xs)).elems σ=xs:=rfl
theorem qtt (i o k:Nat):(AV.osl i o k).elems σ=((qae σ i).xs.drop o).take k:=rfl
theorem qpx:AV.nils.elems σ=[]:=rfl
theorem qyp (es:Nat) (i:Int) (xs:List D):q1w σ es i (.d (.sl xs))=(0≤i∧i<xs.length∧(xs.getD i.toNat default).cells.length=es):=rfl
theorem qtk (es:Nat) (i:Int) (id o k:Nat):q1w σ es i (.osl id o k)=(0≤i∧i<k∧(qae σ id).isArr=true∧(qae σ id).es=es):=rfl
theorem q4k (es:Nat) (i:Int) (xs:List D):Qve es i (.d (.sl xs))=.eptr es xs i.toNat 0:=rfl
theorem qyo (es:Nat) (i:Int) (id o k:Nat):Qve es i (.osl id o k)=.aptr id (o+i.toNat) 0:=rfl
theorem Qg0 (d s:Operand) (t t2:TypeId):q2d P Gl σ env .copy [d,s] [t,t2]=Qv4 P σ t (evU Gl env d) (evU Gl env s):=rfl
theorem Qpm (d s:Operand):biV Gl σ env .copy [d,s]=.d (.int .i64 (cpN σ (evU Gl env d) (evU Gl env s))):=rfl
theorem Qpn (d s:Operand) (ts:List TypeId):biS P Gl σ env .copy [d,s] ts=cpS σ (evU Gl env d) (evU Gl env s):=rfl
theorem Qpo (t:TypeId) (i o k:Nat) (s:AV):Qv4 P σ t (.osl i o k) s=((qae σ i).isOwnArr=true∧0<(qae σ i).es∧o+k≤(qae σ i).xs.length∧qrx σ (qae σ i).es s∧(match qcc P t with|some e=>tsz P e=some (qae σ i).es|none=>False)):=rfl
theorem Qur (i o k:Nat) (s:AV):cpN σ (.osl i o k) s=min (s.elems σ).length k:=rfl
theorem Quq (i o k:Nat) (s:AV):cpS σ (.osl i o k) s=σ.set i (.arr (qae σ i).es (cpX (qae σ i).xs o (min (s.elems σ).length k) (s.elems σ))):=rfl
theorem qzl (x:Operand) (t:TypeId):q2d P Gl σ env .len [x] [t]=((evU Gl env x).hasLen P t=true):=rfl
theorem q4v (x:Operand):biV Gl σ env .len [x]=.d (.int .i64 (evU Gl env x).len):=rfl
theorem q4w (x:Operand) (t:TypeId):biS P Gl σ env .len [x] [t]=σ:=rfl
theorem qzm (s x:Operand) (t1 t2:TypeId):q2d P Gl σ env .append [s,x] [t1,t2]=Qs3 P σ t1 t2 (evU Gl env s) (evU Gl env x):=rfl
theorem q4x (s x:Operand):biV Gl σ env .append [s,x]=apV σ (evU Gl env s) (evU Gl env x):=rfl
theorem q4y (s x:Operand) (t1 t2:TypeId):biS P Gl σ env .append [s,x] [t1,t2]=apS P σ t1 (evU Gl env s) (evU Gl env x):=rfl
theorem qzj (l:List Operand) (ts:List TypeId):q2d P Gl σ env .min l ts=qh2 (l.map (evU Gl env)):=by unfold q2d;rfl
theorem q4r (l:List Operand):biV Gl σ env .min l=Qvz (l.map (evU Gl env)):=by unfold biV;rfl
theorem q4s (l:List Operand) (ts:List TypeId):biS P Gl σ env .min l ts=σ:=by unfold biS;rfl
theorem qzk (l:List Operand) (ts:List TypeId):q2d P Gl σ env .max l ts=qh2 (l.map (evU Gl env)):=by unfold q2d;rfl
theorem q4t (l:List Operand):biV Gl σ env .max l=Qv1 (l.map (evU Gl env)):=by unfold biV;rfl
theorem q4u (l:List Operand) (ts:List TypeId):biS P Gl σ env .max l ts=σ:=by unfold biS;rfl
theorem qyb (x:AV) (r:List AV):qh2 (x::r)=(x.isIntv=true∧∀y∈r,y.isIntv=true):=rfl
theorem Qpk (k:IntKind) (i:Int) (r:List AV):Qvz (.d (.int k i)::r)=.d (.int k (Qkx r i)):=rfl
theorem Qpl (k:IntKind) (i:Int) (r:List AV):Qv1 (.d (.int k i)::r)=.d (.int k (Qky r i)):=rfl
theorem qyc (a:Int):Qkx [] a=a:=rfl
theorem qyd (a:Int):Qky [] a=a:=rfl
theorem qs6 (x:AV) (r:List AV) (a:Int):Qkx (x::r) a=Qkx r (min a x.num):=by
 show Qkx r (if x.num<a then x.num else a)=_
 congr 1;omega
theorem qs7 (x:AV) (r:List AV) (a:Int):Qky (x::r) a=Qky r (max a x.num):=by
 show Qky r (if x.num>a then x.num else a)=_
 congr 1;omega
theorem Qgk (l:List AV) (i:Nat):(AV.tup l).tupAt i=l.getD i .undef:=rfl
theorem Qau (l:List AV):(AV.tup l).tupLen=l.length:=rfl
theorem q39 (x:Operand):qcg P Gl σ env (.move x)=True:=rfl
theorem Qan (x:Operand):opV P Gl σ env (.move x)=evU Gl env x:=rfl
theorem Qa5 (x:Operand):opS P Gl σ env (.move x)=σ:=rfl
theorem qs2 (x:Operand):qcg P Gl σ env (.assign x)=True:=rfl
theorem qxh (x:Operand):opV P Gl σ env (.assign x)=evU Gl env x:=rfl
theorem qxr (x:Operand):opS P Gl σ env (.assign x)=σ:=rfl
theorem q3k (t:TypeId):opV P Gl σ env (.alloc t)=.ptr σ.length 0:=rfl
theorem Qbc (t:TypeId) (x:Operand):qcg P Gl σ env (.box t x)=((evU Gl env x).storable=true):=rfl
theorem Qgi (t:TypeId) (x:Operand):opV P Gl σ env (.box t x)=.ptr σ.length 0:=rfl
theorem Qgo (t:TypeId) (x:Operand):opS P Gl σ env (.box t x)=σ++[.box (evU Gl env x).ncells (evU Gl env x)]:=rfl
theorem qx8 (t:TypeId) (parts:Array (Nat×Operand)):qcg P Gl σ env (.build t parts)=(match qdl P t,qec P t with|some pl,some zc=>qql pl zc.length (qge Gl env parts)|_,_=>False):=rfl
theorem q3i (t:TypeId) (parts:Array (Nat×Operand)):opV P Gl σ env (.build t parts)=(match qdl P t,qec P t with|some pl,some zc=>qgo (qod pl zc (qge Gl env parts))|_,_=>.undef):=rfl
theorem q35 (t:TypeId) (parts:Array (Nat×Operand)):opS P Gl σ env (.build t parts)=σ:=rfl
theorem qie (t:TypeId) (parts:Array (Nat×Operand)):qcg P Gl σ env (.buildSlice t 0 parts)=(parts=#[]∧(match qcc P t with|some e=>(tsz P e).isSome=true|none=>False)):=rfl
theorem qi5 (t:TypeId) (parts:Array (Nat×Operand)):opV P Gl σ env (.buildSlice t 0 parts)=.osl σ.length 0 0:=rfl
theorem qi8 (t:TypeId) (parts:Array (Nat×Operand)):opS P Gl σ env (.buildSlice t 0 parts)=σ++[.arr (qqr P t) []]:=rfl
theorem qi9 (t:TypeId) (k:Nat) (parts:Array (Nat×Operand)):qcg P Gl σ env (.buildSlice t (k+1) parts)=(Qez P σ t (k+1) (qge Gl env parts)):=rfl
theorem qkr (t:TypeId) (k:Nat) (parts:Array (Nat×Operand)):opV P Gl σ env (.buildSlice t (k+1) parts)=.osl σ.length 0 (k+1):=rfl
theorem qkx (t:TypeId) (k:Nat) (parts:Array (Nat×Operand)):opS P Gl σ env (.buildSlice t (k+1) parts)=Qsm P σ t (k+1) (qge Gl env parts):=rfl
theorem q4a (t:TypeId) (x:Operand):qcg P Gl σ env (.load t x)=(match qbm P t,tsz P t with|some g,some n=>Qdy σ g n (evU Gl env x)|_,_=>False):=rfl
theorem Qao (t:TypeId) (x:Operand):opV P Gl σ env (.load t x)=(match qbm P t,tsz P t with|some g,some n=>ldV σ g n (evU Gl env x)|_,_=>.undef):=rfl
theorem Qa6 (t:TypeId) (x:Operand):opS P Gl σ env (.load t x)=σ:=rfl
theorem qx5 (t:TypeId) (a x:Operand):qcg P Gl σ env (.store t a x)=(match tsz P t with|some n=>Qua σ n (evU Gl env x) (evU Gl env a)|none=>False):=rfl
theorem q3f (t:TypeId) (a x:Operand):opV P Gl σ env (.store t a x)=.undef:=rfl
theorem q32 (t:TypeId) (a x:Operand):opS P Gl σ env (.store t a x)=(match tsz P t with|some n=>stS σ n (evU Gl env x) (evU Gl env a)|none=>σ):=rfl
theorem qmj (x:Operand):qcg P Gl σ env (.nilCheck x)=((evU Gl env x).notNil=true):=rfl
theorem qot (x:Operand):opV P Gl σ env (.nilCheck x)=evU Gl env x:=rfl
theorem qoz (x:Operand):opS P Gl σ env (.nilCheck x)=σ:=rfl
theorem qx9 (o:BinOp) (t u:TypeId) (x y:Operand):qcg P Gl σ env (.binOp o t x y u)=(qf4 P t o (evU Gl env x) (evU Gl env y)):=rfl
theorem q3j (o:BinOp) (t u:TypeId) (x y:Operand):opV P Gl σ env (.binOp o t x y u)=q60 o (evU Gl env x) (evU Gl env y):=rfl
theorem q36 (o:BinOp) (t u:TypeId) (x y:Operand):opS P Gl σ env (.binOp o t x y u)=σ:=rfl
theorem q38 (o:UnOp) (t:TypeId) (x:Operand):qcg P Gl σ env (.unOp o t x)=(Qqv o (evU Gl env x)):=rfl
theorem Qam (o:UnOp) (t:TypeId) (x:Operand):opV P Gl σ env (.unOp o t x)=unV o (evU Gl env x):=rfl
theorem Qa4 (o:UnOp) (t:TypeId) (x:Operand):opS P Gl σ env (.unOp o t x)=σ:=rfl
theorem qpa (s t:TypeId) (x:Operand):qcg P Gl σ env (.convert s t x)=((P.underlying s).isSome=true∧(qv8 P t).isSome=true∧(evU Gl env x).isIntv=true):=rfl
theorem qr9 (s t:TypeId) (x:Operand):opV P Gl σ env (.convert s t x)=(match qv8 P t with|some k=>.d (.int k (k.wrap (evU Gl env x).num))|none=>.undef):=rfl
theorem qsl (s t:TypeId) (x:Operand):opS P Gl σ env (.convert s t x)=σ:=rfl
theorem qkz (t:TypeId) (x y:Operand):qcg P Gl σ env (.makeSlice t x y)=(Qu1 P t (evU Gl env x) (evU Gl env y)):=rfl
theorem ql9 (t:TypeId) (x y:Operand):opV P Gl σ env (.makeSlice t x y)=.osl σ.length 0 (evU Gl env x).num.toNat:=rfl
theorem qme (t:TypeId) (x y:Operand):opS P Gl σ env (.makeSlice t x y)=mkS P σ t (evU Gl env x):=rfl
theorem qo7 (t:TypeId) (x:Operand):qcg P Gl σ env (.slice t x none none none)=(Qdj P t σ 0 (evU Gl env x).len (evU Gl env x)):=by simp[qcg,qib,Qhq,Qi6,Qvo]
theorem qr6 (t:TypeId) (x:Operand):opV P Gl σ env (.slice t x none none none)=slV 0 (evU Gl env x).len (evU Gl env x):=rfl
theorem qsi (t:TypeId) (x:Operand):opS P Gl σ env (.slice t x none none none)=σ:=rfl
theorem qo5 (t:TypeId) (x y:Operand):qcg P Gl σ env (.slice t x (some y) none none)=((evU Gl env y).isIntv=true∧Qdj P t σ (evU Gl env y).num (evU Gl env x).len (evU Gl env x)):=by simp[qcg,qib,Qhq,Qi6,Qvo]
theorem qr4 (t:TypeId) (x y:Operand):opV P Gl σ env (.slice t x (some y) none none)=slV (evU Gl env y).num (evU Gl env x).len (evU Gl env x):=rfl
theorem qsg (t:TypeId) (x y:Operand):opS P Gl σ env (.slice t x (some y) none none)=σ:=rfl
theorem qsz (t:TypeId) (x y z:Operand):qcg P Gl σ env (.slice t x none (some y) (some z))=Qf2 P t (evU Gl env x) (evU Gl env y) (evU Gl env z):=rfl
theorem qxe (t:TypeId) (x y z:Operand):opV P Gl σ env (.slice t x none (some y) (some z))=slV 0 (evU Gl env y).num (evU Gl env x):=rfl
theorem qxo (t:TypeId) (x y z:Operand):opS P Gl σ env (.slice t x none (some y) (some z))=σ:=rfl
theorem Qgn (t:TypeId) (i o k:Nat) (h m:AV):Qf2 P t (.osl i o k) h m=(h.isIntv=true∧m.isIntv=true∧0≤h.num∧h.num≤m.num∧m.num≤k∧(match qcc P t with|some e=>(tsz P e).isSome=true|none=>False)):=rfl
theorem qo6 (t:TypeId) (x y:Operand):qcg P Gl σ env (.slice t x none (some y) none)=((evU Gl env y).isIntv=true∧Qdj P t σ 0 (evU Gl env y).num (evU Gl env x)):=by simp[qcg,qib,Qhq,Qi6,Qvo]
theorem qr5 (t:TypeId) (x y:Operand):opV P Gl σ env (.slice t x none (some y) none)=slV 0 (evU Gl env y).num (evU Gl env x):=rfl
theorem qsh (t:TypeId) (x y:Operand):opS P Gl σ env (.slice t x none (some y) none)=σ:=rfl
theorem qo4 (t:TypeId) (x y z:Operand):qcg P Gl σ env (.slice t x (some y) (some z) none)=((evU Gl env y).isIntv=true∧(evU Gl env z).isIntv=true∧Qdj P t σ (evU Gl env y).num (evU Gl env z).num (evU Gl env x)):=by simp[qcg,qib,Qhq,Qi6,Qvo]
theorem qr3 (t:TypeId) (x y z:Operand):opV P Gl σ env (.slice t x (some y) (some z) none)=slV (evU Gl env y).num (evU Gl env z).num (evU Gl env x):=rfl
theorem qsf (t:TypeId) (x y z:Operand):opS P Gl σ env (.slice t x (some y) (some z) none)=σ:=rfl
theorem qk1 (s:TypeId) (x:Operand) (f:Nat):qcg P Gl σ env (.fieldAddr s x f)=(match qd6 P s f with|some (_,n,_)=>n≠0∧(evU Gl env x).isPtr=true|none=>False):=rfl
theorem qmb (s:TypeId) (x:Operand) (f:Nat):opV P Gl σ env (.fieldAddr s x f)=(match qd6 P s f with|some (o,_,_)=>(evU Gl env x).shift o|none=>.undef):=rfl
theorem qmg (s:TypeId) (x:Operand) (f:Nat):opS P Gl σ env (.fieldAddr s x f)=σ:=rfl
theorem qx7 (s:TypeId) (x:Operand) (f:Nat):qcg P Gl σ env (.field s x f)=(match qd6 P s f with|some (o,n,g)=>(evU Gl env x).isAgg=true∧o+n≤(evU Gl env x).ncells∧(g=true∨n=1)|none=>False):=rfl
theorem q3h (s:TypeId) (x:Operand) (f:Nat):opV P Gl σ env (.field s x f)=(match qd6 P s f with|some (o,n,g)=>(if g=true then(evU Gl env x).subV o n else(evU Gl env x).cellAt o)|none=>.undef):=rfl
theorem q34 (s:TypeId) (x:Operand) (f:Nat):opS P Gl σ env (.field s x f)=σ:=rfl
theorem qk0 (t:TypeId) (x i:Operand):qcg P Gl σ env (.indexAddr t x i)=((evU Gl env i).isIntv=true∧(match qkg P t with|some (none,es)=>q1w σ es (evU Gl env i).num (evU Gl env x)|some (some k,_)=>Qkr k (evU Gl env i).num (evU Gl env x)|none=>False)):=rfl
theorem qma (t:TypeId) (x i:Operand):opV P Gl σ env (.indexAddr t x i)=(match qkg P t with|some (none,es)=>Qve es (evU Gl env i).num (evU Gl env x)|some (some _,es)=>(evU Gl env x).shift ((evU Gl env i).num.toNat*es)|none=>.undef):=rfl
theorem qmf (t:TypeId) (x i:Operand):opS P Gl σ env (.indexAddr t x i)=σ:=rfl
theorem qx6 (t:TypeId) (x i:Operand):qcg P Gl σ env (.index t x i)=(Qfs P t=true∧(evU Gl env x).isStrv=true∧(evU Gl env i).isIntv=true∧0≤(evU Gl env i).num∧(evU Gl env i).num<(evU Gl env x).strOf.length):=rfl
theorem q3g (t:TypeId) (x i:Operand):opV P Gl σ env (.index t x i)=.d (.int .u8 ((evU Gl env x).strOf.getD (evU Gl env i).num.toNat 0).toNat):=rfl
theorem q33 (t:TypeId) (x i:Operand):opS P Gl σ env (.index t x i)=σ:=rfl
theorem qo9 (x:Operand) (i:Nat):qcg P Gl σ env (.extract x i)=(i<(evU Gl env x).tupLen):=rfl
theorem qr8 (x:Operand) (i:Nat):opV P Gl σ env (.extract x i)=(evU Gl env x).tupAt i:=rfl
theorem qsk (x:Operand) (i:Nat):opS P Gl σ env (.extract x i)=σ:=rfl
theorem Qba (l:List (Nat×Operand)):qge Gl env l.toArray=l.map fun p=>(p.1,evU Gl env p.2):=rfl
theorem qtq (pl:List (Nat×Nat)) (cs:List AV):qod pl cs []=cs:=rfl
theorem qpu (pl:List (Nat×Nat)) (cs:List AV) (i:Nat) (v:AV) (r:List (Nat×AV)):qod pl cs ((i,v)::r)=(match pl[i]? with|some (off,size)=>qod pl (qe0 cs off v size) r|none=>qod pl cs r):=rfl
theorem qpt (pl:List (Nat×Nat)) (N:Nat):qql pl N []=True:=rfl
theorem qmv (pl:List (Nat×Nat)) (N:Nat) (i:Nat) (v:AV) (r:List (Nat×AV)):qql pl N ((i,v)::r)=((match pl[i]? with|some (off,size)=>v.ncells=size∧off+size≤N∧v.storable=true|none=>False)∧qql pl N r):=rfl
theorem qse (cs:List AV) (off:Nat) (v:AV):qe0 cs off v 0=cs:=rfl
theorem qsd (cs:List AV) (off:Nat) (v:AV) (k:Nat):qe0 cs off v (k+1)=(qe0 cs off v k).set (off+k) (v.cellAt k):=rfl
theorem q4b (l:List AV):qgo l=(match q0o l with|some ds=>.d (.agg ds)|none=>.agg l):=rfl
theorem qzp:q0o []=some []:=rfl
theorem Qbv (x:D) (r:List AV):q0o (.d x::r)=(q0o r).map (x::·):=rfl
theorem qzo (i o k:Nat) (r:List AV):q0o (.osl i o k::r)=none:=rfl
theorem qt3 (r:List AV):q0o (.nils::r)=none:=rfl
theorem qzn (i o:Nat) (r:List AV):q0o (.ptr i o::r)=none:=rfl
theorem Qpq (x:D) (i:Nat):x.cell i=x.cells.getD i default:=rfl
theorem Quk (x:D) (o k:Nat):x.sub o k=.agg ((x.cells.drop o).take k):=rfl
theorem qzg (k k':IntKind) (a b:Int):qlc .eql (.int k a) (.int k' b)=.bool (a==b):=rfl
theorem qza (k k':IntKind) (a b:Int):qlc .neq (.int k a) (.int k' b)=.bool (a !=b):=rfl
theorem qzc (k k':IntKind) (a b:Int):qlc .lss (.int k a) (.int k' b)=.bool (decide (a<b)):=rfl
theorem qzd (k k':IntKind) (a b:Int):qlc .leq (.int k a) (.int k' b)=.bool (decide (a≤b)):=rfl
theorem qze (k k':IntKind) (a b:Int):qlc .gtr (.int k a) (.int k' b)=.bool (decide (b<a)):=rfl
theorem qzf (k k':IntKind) (a b:Int):qlc .geq (.int k a) (.int k' b)=.bool (decide (b≤a)):=rfl
theorem qzi (k k':IntKind) (a b:Int):qlc .add (.int k a) (.int k' b)=.int k (k.wrap (a+b)):=rfl
theorem qy4 (k k':IntKind) (a b:Int):qlc .sub (.int k a) (.int k' b)=.int k (k.wrap (a-b)):=rfl
theorem qzb (k k':IntKind) (a b:Int):qlc .mul (.int k a) (.int k' b)=.int k (k.wrap (a*b)):=rfl
theorem qy9 (k k':IntKind) (a b:Int):qlc .quo (.int k a) (.int k' b)=.int k (k.wrap (a.tdiv b)):=rfl
theorem qy8 (k k':IntKind) (a b:Int):qlc .rem (.int k a) (.int k' b)=.int k (a.tmod b):=rfl
theorem qy7 (k k':IntKind) (a b:Int):qlc .shl (.int k a) (.int k' b)=qk8 .shl k a b:=rfl
theorem qy6 (k k':IntKind) (a b:Int):qlc .shr (.int k a) (.int k' b)=qk8 .shr k a b:=rfl
theorem qzh (k k':IntKind) (a b:Int):qlc .and (.int k a) (.int k' b)=qk8 .and k a b:=rfl
theorem q4q (k k':IntKind) (a b:Int):qlc .or (.int k a) (.int k' b)=qk8 .or k a b:=rfl
theorem qy3 (k k':IntKind) (a b:Int):qlc .xor (.int k a) (.int k' b)=qk8 .xor k a b:=rfl
theorem Qbs (k k':IntKind) (b:Int):qda .eql k k' b=(k=k'):=rfl
theorem Qbm (k k':IntKind) (b:Int):qda .neq k k' b=(k=k'):=rfl
theorem Qbo (k k':IntKind) (b:Int):qda .lss k k' b=(k=k'):=rfl
theorem Qbp (k k':IntKind) (b:Int):qda .leq k k' b=(k=k'):=rfl
theorem Qbq (k k':IntKind) (b:Int):qda .gtr k k' b=(k=k'):=rfl
theorem Qbr (k k':IntKind) (b:Int):qda .geq k k' b=(k=k'):=rfl
theorem Qbt (k k':IntKind) (b:Int):qda .add k k' b=(k=k'):=rfl
theorem Qbh (k k':IntKind) (b:Int):qda .sub k k' b=(k=k'):=rfl
theorem Qbn (k k':IntKind) (b:Int):qda .mul k k' b=(k=k'):=rfl
theorem Qbl (k k':IntKind) (b:Int):qda .quo k k' b=(k=k'∧b≠0):=rfl
theorem Qbk (k k':IntKind) (b:Int):qda .rem k k' b=(k=k'∧b≠0):=rfl
theorem Qbj (k k':IntKind) (b:Int):qda .shl k k' b=(0≤b):=rfl
theorem Qbi (k k':IntKind) (b:Int):qda .shr k k' b=(0≤b):=rfl
theorem Qa3 (a b:List UInt8):qkn .add a b=.str (a++b):=rfl
theorem Qa2 (a b:List UInt8):qkn .eql a b=.bool (a==b):=rfl
theorem Qax (a b:List UInt8):qkn .neq a b=.bool (!(a==b)):=rfl
theorem Qay (a b:List UInt8):qkn .lss a b=.bool (Op.bytesLess a b):=rfl
theorem Qa0 (a b:List UInt8):qkn .gtr a b=.bool (!(Op.bytesLess a b||a==b)):=rfl
theorem Qaz (a b:List UInt8):qkn .leq a b=.bool (Op.bytesLess a b||a==b):=rfl
theorem Qa1 (a b:List UInt8):qkn .geq a b=.bool (!(Op.bytesLess a b)):=rfl
theorem q31 (a b:List UInt8):qez .add a b=(((a.length+b.length:Nat):Int)≤9223372036854775807):=rfl
theorem q30 (a b:List UInt8):qez .eql a b=True:=rfl
theorem q3v (a b:List UInt8):qez .neq a b=True:=rfl
theorem q3w (a b:List UInt8):qez .lss a b=True:=rfl
theorem q3y (a b:List UInt8):qez .gtr a b=True:=rfl
theorem q3x (a b:List UInt8):qez .leq a b=True:=rfl
theorem q3z (a b:List UInt8):qez .geq a b=True:=rfl
theorem qs3 (t:TypeId):qcg P Gl σ env (.alloc t)=((qce P t).storable=true):=by
 have e:qcg P Gl σ env (.alloc t)=(match qbs P t with|some z=>(qdb z).storable=true|none=>False):=rfl
 rw[e];unfold qce;cases qbs P t<;>simp[AV.storable]
theorem qxs (t:TypeId) (h:(qce P t).storable=true):opS P Gl σ env (.alloc t)=σ++[.box (qce P t).ncells (qce P t)]:=by
 have e:opS P Gl σ env (.alloc t)=(match qbs P t with|some z=>σ++[.box (qdb z).ncells (qdb z)]|none=>σ):=rfl
 rw[e];unfold qce at h ⊢
 cases hz:qbs P t with
 | none=>simp only[hz] at h;cases h
 | some z=>rfl
theorem Qbf (x:D):q56 σ (.d x)=true:=rfl
theorem qtg:q56 σ .nils=true:=rfl
theorem qym (i o k:Nat):q56 σ (.osl i o k)=(qae σ i).isArr:=rfl
theorem Qav (x:D):q9v σ (.d x)=x:=rfl
theorem qsa:q9v σ .nils=.sl []:=rfl
theorem qxl (i o k:Nat):q9v σ (.osl i o k)=.sl (((qae σ i).xs.drop o).take k):=rfl
theorem Qa9 (x:D):q7b (.d x)=[]:=rfl
theorem qsv:q7b .nils=[]:=rfl
theorem qx4 (i o k:Nat):q7b (.osl i o k)=[i]:=rfl
theorem qx0 (ρ:List Nat):Qpe [] ρ σ env=[]:=rfl
theorem qst (t:Nat) (l ρ:List Nat):Qpe (t::l) ρ σ env=(t,qbk ρ σ (qem env t))::Qpe l ρ σ env:=rfl
theorem qxz:qdp [] σ=[]:=rfl
theorem Qa7 (ρ:List Nat) (x:D):qbk ρ σ (.d x)=.d x:=rfl
theorem qso (ρ:List Nat):qbk ρ σ .nils=.nils:=rfl
theorem qsq (ρ:List Nat) (es:Nat) (xs:List D) (i off:Nat):qbk ρ σ (.eptr es xs i off)=.eptr es xs i off:=rfl
theorem qxx (ρ:List Nat) (i o:Nat):qbk ρ σ (.ptr i o)=(match qch ρ i with|some j=>.ptr j o|none=>.undef):=rfl
theorem qsr (ρ:List Nat) (id i o:Nat):qbk ρ σ (.aptr id i o)=(match qch ρ id with|some j=>.aptr j i o|none=>.undef):=rfl
theorem qxy (ρ:List Nat) (id o k:Nat):qbk ρ σ (.osl id o k)=(match qch ρ id with|some j=>.osl j o k|none=>if(qae σ id).isArr=true∧(qae σ id).own=false then .d (.sl (((qae σ id).xs.drop o).take k)) else .undef):=rfl
theorem qtl (i:Nat):qch [] i=none:=rfl
theorem qpq (r:Nat) (l:List Nat) (i:Nat):qch (r::l) i=if r=i then some 0 else(qch l i).map (·+1):=by
 unfold qch;rw[List.findIdx?_cons];by_cases h:r=i<;>simp[h]
theorem qxt {m:Nat} {rs:List ResultVar} {R:AV→Sto→Prop}:Qwa P m rs R .ret env σ=(qwb P env σ rs∧∃r' s',qcz m (Qpb P env σ rs) σ r' s'∧R r' s'):=rfl
theorem qmh {m:Nat} {rs:List ResultVar} {R:AV→Sto→Prop}:Qwa P m rs R .normal env σ=(qwb P env σ rs∧∃r' s',qcz m (Qpb P env σ rs) σ r' s'∧R r' s'):=rfl
theorem qsn:qwb P env σ []=True:=rfl
theorem qo1 (r:ResultVar) (rs:List ResultVar):qwb P env σ (r::rs)=(qxb P env σ r∧qwb P env σ rs):=rfl
theorem qo2 (t:Nat):qxb P env σ (.tmp t)=((qem env t).vg=true):=rfl
theorem qmi (t:Nat) (ty:TypeId):qxb P env σ (.cell t ty)=(match qbm P ty,tsz P ty with|some g,some k=>Qdy σ g k (qem env t)|_,_=>False):=rfl
theorem qsm (t:Nat):q0z P env σ (.tmp t)=(qem env t).un:=rfl
theorem qo0 (t:Nat) (ty:TypeId):q0z P env σ (.cell t ty)=(match qbm P ty,tsz P ty with|some g,some k=>ldV σ g k (qem env t)|_,_=>.undef):=rfl
theorem qxv (r:ResultVar):Qpb P env σ [r]=q0z P env σ r:=rfl
theorem qxw:Qpb P env σ []=.tup []:=rfl
theorem qxu (r1 r2:ResultVar) (rs:List ResultVar):Qpb P env σ (r1::r2::rs)=.tup ((r1::r2::rs).map (q0z P env σ)):=rfl
end
theorem Qcv:type_of% (aI (aI @qtn (aI @qyq (aI @qsw (aI @qsx (aI @qyv (aI @qyw (aI @q4p (aI @qts (aI @qyt (aI @qpw (aI @q4o (aI @qtr (aI @qys (aI @qpv (aI @Qpg (aI @q3l (aI @Qat (aI @Qaq (aI @q3n (aI @q3o (aI @Qar (aI @Qgj (aI @Qap (aI @Qas (aI @Qpf (aI @q3a (aI @Qal (aI @Qai (aI @q3c (aI @q3d (aI @Qaj (aI @Qgh (aI @Qah (aI @Qak (aI @qpz (aI @qmx (aI @qpy (aI @qmw (aI @q4l (@qyr)))))))))))))))))))))))))))))))))))))))) (aI (aI @Qgl (aI @q4i (aI @Qbe (aI @Qum (aI @qow (aI @qkw (aI @qov (aI @qkv (aI @q7e (aI @qja (aI @qo3 (aI @qsy (aI @Qpt (aI @Qg2 (aI @Qps (aI @Qpr (aI @Qgw (aI @qyk (aI @Qgx (aI @Qbg (aI @Qw8 (aI @Qup (aI @Qw5 (aI @Quj (aI @Qul (aI @Qpi (aI @qyj (aI @qs9 (aI @qta (aI @q4f (aI @qyh (aI @qyi (aI @Qbb (aI @q37 (aI @Qgq (aI @Qgr (aI @Qaw (aI @qyy (aI @qp3 (@qxn)))))))))))))))))))))))))))))))))))))))) (aI (aI @qsb (aI @q3u (aI @qxm (aI @Qph (aI @q4j (aI @qtj (aI @qti (aI @qpo (aI @qou (aI @qku (aI @qkt (aI @qi6 (aI @qya (aI @qph (aI @qpg (aI @qmm (aI @Qgv (aI @qyl (aI @q4g (aI @q4h (aI @Qgm (aI @qxk (aI @q3s (aI @q3t (aI @Qa8 (aI @qsu (aI @qx2 (aI @qx3 (aI @qmu (aI @qg2 (aI @q4n (aI @q4m (aI @Qbu (aI @qtf (aI @qpi (aI @qpj (aI @qsc (aI @qox (aI @qoy (@qpb)))))))))))))))))))))))))))))))))))))))) (aI (aI @qmk (aI @qml (aI @qs4 (aI @qtw (aI @qqb (aI @qqa (aI @qm3 (aI @qp9 (aI @qt5 (aI @qtv (aI @qp0 (aI @qtu (aI @qyx (aI @Qgp (aI @qy1 (aI @qtz (aI @qyz (aI @qy2 (aI @qty (aI @qy0 (aI @qpd (aI @qpc (aI @qpe (aI @qmo (aI @qpk (aI @qpn (aI @qmr (aI @qpm (aI @qpl (aI @qmq (aI @qms (aI @qmp (aI @qt1 (aI @qp4 (aI @qt0 (aI @qt2 (aI @qhc (aI @qjd (aI @qih (@qjb)))))))))))))))))))))))))))))))))))))))) (aI (aI @qif (aI @qig (aI @qjc (aI @qii (aI @qje (aI @q3m (aI @q3p (aI @q3b (aI @q3e (aI @qi7 (aI @qks (aI @qmc (aI @qmn (aI @qpf (aI @qs5 (aI @qpp (aI @qth (aI @qyn (aI @qmz (aI @qp1 (aI @qp2 (aI @qmy (aI @qtx (aI @qt4 (aI @q4z (aI @Qgu (aI @Qw6 (aI @Qw7 (aI @qte (aI @qtd (aI @qtc (aI @qtb (aI @qs8 (aI @qye (aI @qyf (aI @q4c (aI @Qgs (aI @Qgt (aI @Qpj (@Qun)))))))))))))))))))))))))))))))))))))))) (aI (aI @Quo (aI @qs0 (aI @qxf (aI @qxp (aI @qky (aI @ql8 (aI @qmd (aI @qs1 (aI @qxg (aI @qxq (aI @qo8 (aI @qr7 (aI @qsj (aI @qk4 (aI @qm0 (aI @qm1 (aI @Qgz (aI @qm2 (aI @qp7 (aI @qp8 (aI @Qpp (aI @Qus (aI @Qut (aI @qsp (aI @qss (aI @qx1 (aI @qto (aI @qtp (aI @qy5 (aI @qjg (aI @qjf (aI @qk3 (aI @qk2 (aI @qp6 (aI @qp5 (aI @qhe (aI @qhd (aI @qik (aI @qij (@q3q)))))))))))))))))))))))))))))))))))))))) (aI (aI @q3r (aI @qxi (aI @qxj (aI @Qbd (aI @q4d (aI @q4e (aI @qyg (aI @qtm (aI @qpr (aI @qps (aI @qmt (aI @qyu (aI @qtt (aI @qpx (aI @qyp (aI @qtk (aI @q4k (aI @qyo (aI (aI @Qg0 (aI @Qpm (aI @Qpn (aI @Qpo (aI @Qur (aI @Quq @qzl)))))) (aI @q4v (aI @q4w (aI @qzm (aI @q4x (aI @q4y (aI @qzj (aI @q4r (aI @q4s (aI @qzk (aI @q4t (aI @q4u (aI @qyb (aI @Qpk (aI @Qpl (aI @qyc (aI @qyd (aI @qs6 (aI @qs7 (aI @Qgk (aI @Qau (@q39)))))))))))))))))))))))))))))))))))))))) (aI (aI @Qan (aI @Qa5 (aI @qs2 (aI @qxh (aI @qxr (aI @q3k (aI @Qbc (aI @Qgi (aI @Qgo (aI @qx8 (aI @q3i (aI @q35 (aI @qie (aI @qi5 (aI @qi8 (aI @qi9 (aI @qkr (aI @qkx (aI @q4a (aI @Qao (aI @Qa6 (aI @qx5 (aI @q3f (aI @q32 (aI @qmj (aI @qot (aI @qoz (aI @qx9 (aI @q3j (aI @q36 (aI @q38 (aI @Qam (aI @Qa4 (aI @qpa (aI @qr9 (aI @qsl (aI @qkz (aI @ql9 (aI @qme (@qo7)))))))))))))))))))))))))))))))))))))))) (aI (aI @qr6 (aI @qsi (aI @qo5 (aI @qr4 (aI @qsg (aI @qo6 (aI @qr5 (aI (aI @qsz (aI @qxe (aI @qxo (aI @Qgn @qsh)))) (aI @qo4 (aI @qr3 (aI @qsf (aI @qk1 (aI @qmb (aI @qmg (aI @qx7 (aI @q3h (aI @q34 (aI @qk0 (aI @qma (aI @qmf (aI @qx6 (aI @q3g (aI @q33 (aI @qo9 (aI @qr8 (aI @qsk (aI @Qba (aI @qtq (aI @qpu (aI @qpt (aI @qmv (aI @qse (aI @qsd (aI @q4b (aI @qzp (aI @Qbv (aI @qzo (aI @qt3 (aI @qzn (@Qpq)))))))))))))))))))))))))))))))))))))))) (aI (aI @Quk (aI @qzg (aI @qza (aI @qzc (aI @qzd (aI @qze (aI @qzf (aI @qzi (aI @qy4 (aI @qzb (aI @qy9 (aI @qy8 (aI @qy7 (aI @qy6 (aI @qzh (aI @q4q (aI @qy3 (aI @Qbs (aI @Qbm (aI @Qbo (aI @Qbp (aI @Qbq (aI @Qbr (aI @Qbt (aI @Qbh (aI @Qbn (aI @Qbl (aI @Qbk (aI @Qbj (aI @Qbi (aI @Qa3 (aI @Qa2 (aI @Qax (aI @Qay (aI @Qa0 (aI @Qaz (aI @Qa1 (aI @q31 (aI @q30 (@q3v)))))))))))))))))))))))))))))))))))))))) (aI @q3w (aI @q3y (aI @q3x (aI @q3z (aI @qs3 (aI @qxs (aI @Qbf (aI @qtg (aI @qym (aI @Qav (aI @qsa (aI @qxl (aI @Qa9 (aI @qsv (aI @qx4 (aI @qx0 (aI @qst (aI @qxz (aI @Qa7 (aI @qso (aI @qsq (aI @qxx (aI @qsr (aI @qxy (aI @qtl (aI @qpq (aI @qxt (aI @qmh (aI @qsn (aI @qo1 (aI @qo2 (aI @qmi (aI @qsm (aI @qo0 (aI @qxv (aI @qxw (@qxu))))))))))))))))))))))))))))))))))))))))))))))):=aI (aI @qtn (aI @qyq (aI @qsw (aI @qsx (aI @qyv (aI @qyw (aI @q4p (aI @qts (aI @qyt (aI @qpw (aI @q4o (aI @qtr (aI @qys (aI @qpv (aI @Qpg (aI @q3l (aI @Qat (aI @Qaq (aI @q3n (aI @q3o (aI @Qar (aI @Qgj (aI @Qap (aI @Qas (aI @Qpf (aI @q3a (aI @Qal (aI @Qai (aI @q3c (aI @q3d (aI @Qaj (aI @Qgh (aI @Qah (aI @Qak (aI @qpz (aI @qmx (aI @qpy (aI @qmw (aI @q4l (@qyr)))))))))))))))))))))))))))))))))))))))) (aI (aI @Qgl (aI @q4i (aI @Qbe (aI @Qum (aI @qow (aI @qkw (aI @qov (aI @qkv (aI @q7e (aI @qja (aI @qo3 (aI @qsy (aI @Qpt (aI @Qg2 (aI @Qps (aI @Qpr (aI @Qgw (aI @qyk (aI @Qgx (aI @Qbg (aI @Qw8 (aI @Qup (aI @Qw5 (aI @Quj (aI @Qul (aI @Qpi (aI @qyj (aI @qs9 (aI @qta (aI @q4f (aI @qyh (aI @qyi (aI @Qbb (aI @q37 (aI @Qgq (aI @Qgr (aI @Qaw (aI @qyy (aI @qp3 (@qxn)))))))))))))))))))))))))))))))))))))))) (aI (aI @qsb (aI @q3u (aI @qxm (aI @Qph (aI @q4j (aI @qtj (aI @qti (aI @qpo (aI @qou (aI @qku (aI @qkt (aI @qi6 (aI @qya (aI @qph (aI @qpg (aI @qmm (aI @Qgv (aI @qyl (aI @q4g (aI @q4h (aI @Qgm (aI @qxk (aI @q3s (aI @q3t (aI @Qa8 (aI @qsu (aI @qx2 (aI @qx3 (aI @qmu (aI @qg2 (aI @q4n (aI @q4m (aI @Qbu (aI @qtf (aI @qpi (aI @qpj (aI @qsc (aI @qox (aI @qoy (@qpb)))))))))))))))))))))))))))))))))))))))) (aI (aI @qmk (aI @qml (aI @qs4 (aI @qtw (aI @qqb (aI @qqa (aI @qm3 (aI @qp9 (aI @qt5 (aI @qtv (aI @qp0 (aI @qtu (aI @qyx (aI @Qgp (aI @qy1 (aI @qtz (aI @qyz (aI @qy2 (aI @qty (aI @qy0 (aI @qpd (aI @qpc (aI @qpe (aI @qmo (aI @qpk (aI @qpn (aI @qmr (aI @qpm (aI @qpl (aI @qmq (aI @qms (aI @qmp (aI @qt1 (aI @qp4 (aI @qt0 (aI @qt2 (aI @qhc (aI @qjd (aI @qih (@qjb)))))))))))))))))))))))))))))))))))))))) (aI (aI @qif (aI @qig (aI @qjc (aI @qii (aI @qje (aI @q3m (aI @q3p (aI @q3b (aI @q3e (aI @qi7 (aI @qks (aI @qmc (aI @qmn (aI @qpf (aI @qs5 (aI @qpp (aI @qth (aI @qyn (aI @qmz (aI @qp1 (aI @qp2 (aI @qmy (aI @qtx (aI @qt4 (aI @q4z (aI @Qgu (aI @Qw6 (aI @Qw7 (aI @qte (aI @qtd (aI @qtc (aI @qtb (aI @qs8 (aI @qye (aI @qyf (aI @q4c (aI @Qgs (aI @Qgt (aI @Qpj (@Qun)))))))))))))))))))))))))))))))))))))))) (aI (aI @Quo (aI @qs0 (aI @qxf (aI @qxp (aI @qky (aI @ql8 (aI @qmd (aI @qs1 (aI @qxg (aI @qxq (aI @qo8 (aI @qr7 (aI @qsj (aI @qk4 (aI @qm0 (aI @qm1 (aI @Qgz (aI @qm2 (aI @qp7 (aI @qp8 (aI @Qpp (aI @Qus (aI @Qut (aI @qsp (aI @qss (aI @qx1 (aI @qto (aI @qtp (aI @qy5 (aI @qjg (aI @qjf (aI @qk3 (aI @qk2 (aI @qp6 (aI @qp5 (aI @qhe (aI @qhd (aI @qik (aI @qij (@q3q)))))))))))))))))))))))))))))))))))))))) (aI (aI @q3r (aI @qxi (aI @qxj (aI @Qbd (aI @q4d (aI @q4e (aI @qyg (aI @qtm (aI @qpr (aI @qps (aI @qmt (aI @qyu (aI @qtt (aI @qpx (aI @qyp (aI @qtk (aI @q4k (aI @qyo (aI (aI @Qg0 (aI @Qpm (aI @Qpn (aI @Qpo (aI @Qur (aI @Quq @qzl)))))) (aI @q4v (aI @q4w (aI @qzm (aI @q4x (aI @q4y (aI @qzj (aI @q4r (aI @q4s (aI @qzk (aI @q4t (aI @q4u (aI @qyb (aI @Qpk (aI @Qpl (aI @qyc (aI @qyd (aI @qs6 (aI @qs7 (aI @Qgk (aI @Qau (@q39)))))))))))))))))))))))))))))))))))))))) (aI (aI @Qan (aI @Qa5 (aI @qs2 (aI @qxh (aI @qxr (aI @q3k (aI @Qbc (aI @Qgi (aI @Qgo (aI @qx8 (aI @q3i (aI @q35 (aI @qie (aI @qi5 (aI @qi8 (aI @qi9 (aI @qkr (aI @qkx (aI @q4a (aI @Qao (aI @Qa6 (aI @qx5 (aI @q3f (aI @q32 (aI @qmj (aI @qot (aI @qoz (aI @qx9 (aI @q3j (aI @q36 (aI @q38 (aI @Qam (aI @Qa4 (aI @qpa (aI @qr9 (aI @qsl (aI @qkz (aI @ql9 (aI @qme (@qo7)))))))))))))))))))))))))))))))))))))))) (aI (aI @qr6 (aI @qsi (aI @qo5 (aI @qr4 (aI @qsg (aI @qo6 (aI @qr5 (aI (aI @qsz (aI @qxe (aI @qxo (aI @Qgn @qsh)))) (aI @qo4 (aI @qr3 (aI @qsf (aI @qk1 (aI @qmb (aI @qmg (aI @qx7 (aI @q3h (aI @q34 (aI @qk0 (aI @qma (aI @qmf (aI @qx6 (aI @q3g (aI @q33 (aI @qo9 (aI @qr8 (aI @qsk (aI @Qba (aI @qtq (aI @qpu (aI @qpt (aI @qmv (aI @qse (aI @qsd (aI @q4b (aI @qzp (aI @Qbv (aI @qzo (aI @qt3 (aI @qzn (@Qpq)))))))))))))))))))))))))))))))))))))))) (aI (aI @Quk (aI @qzg (aI @qza (aI @qzc (aI @qzd (aI @qze (aI @qzf (aI @qzi (aI @qy4 (aI @qzb (aI @qy9 (aI @qy8 (aI @qy7 (aI @qy6 (aI @qzh (aI @q4q (aI @qy3 (aI @Qbs (aI @Qbm (aI @Qbo (aI @Qbp (aI @Qbq (aI @Qbr (aI @Qbt (aI @Qbh (aI @Qbn (aI @Qbl (aI @Qbk (aI @Qbj (aI @Qbi (aI @Qa3 (aI @Qa2 (aI @Qax (aI @Qay (aI @Qa0 (aI @Qaz (aI @Qa1 (aI @q31 (aI @q30 (@q3v)))))))))))))))))))))))))))))))))))))))) (aI @q3w (aI @q3y (aI @q3x (aI @q3z (aI @qs3 (aI @qxs (aI @Qbf (aI @qtg (aI @qym (aI @Qav (aI @qsa (aI @qxl (aI @Qa9 (aI @qsv (aI @qx4 (aI @qx0 (aI @qst (aI @qxz (aI @Qa7 (aI @qso (aI @qsq (aI @qxx (aI @qsr (aI @qxy (aI @qtl (aI @qpq (aI @qxt (aI @qmh (aI @qsn (aI @qo1 (aI @qo2 (aI @qmi (aI @qsm (aI @qo0 (aI @qxv (aI @qxw (@qxu))))))))))))))))))))))))))))))))))))))))))))))
end Go.AM


set_option linter.unusedSimpArgs false
namespace Go.AM
variable {P:Program} {Gl:qbd} {n m:Nat} {env:Env} {σ:Sto} {K:qgl→Env→Sto→Prop}
theorem qaa (fz ρ:List Nat) {e':Env} {s':Sto} (hm:ρ.take m=List.range m) (hnd:ρ.Nodup) (he:Qpe (e'.map (·.1)) ρ (freezeL σ fz) env=e') (hs:qdp ρ (freezeL σ fz)=s'):qgm n m env σ e' s':=by
 have:=Qk6 (n:=n) (e'.map (·.1)) fz ρ hm hnd env σ
 rw[he,hs] at this
 exact this
theorem qai (fz ρ:List Nat) {r r':AV} {s':Sto} (hm:ρ.take m=List.range m) (hnd:ρ.Nodup) (he:qbk ρ (freezeL σ fz) r=r') (hs:qdp ρ (freezeL σ fz)=s'):qcz m r σ r' s':=by
 have:=Qfn (m:=m) fz ρ hm hnd r σ
 rw[he,hs] at this
 exact this
theorem qdn {all:Array Oper} {draw:Bool} {K1 K2:Env→Sto→Prop} (hk:∀e s,K1 e s→K2 e s):∀(l:List Oper) (env:Env) (σ:Sto),qas P Gl n all draw l env σ K1→qas P Gl n all draw l env σ K2
 | [],_,_,h=>hk _ _ h
 | o::l,env,σ,h=>by
  simp only[qas] at h ⊢
  refine⟨h.1,?_⟩
  have h2:=h.2
  cases hg:o.guard with
  | none=>
   rw[hg] at h2
   simp only at h2 ⊢
   refine⟨h2.1,?_⟩
   have h3:=h2.2
   by_cases hc:qa9 o.op=true
   ·rw[if_pos hc] at h3 ⊢
    by_cases hd:draw=true
    ·rw[if_pos hd] at h3 ⊢
     rcases h3 with⟨r0,h4,h5⟩|⟨h4,h5,h6⟩|h6
     ·exact .inl ⟨r0,h4,qdn hk l _ _ h5⟩
     rotate_left
     ·exact .inr (.inr h6)
     ·refine .inr (.inl ⟨h4,h5,?_⟩)
      revert h6
      unfold qdj
      split
      ·split
       ·split
        ·exact fun h=>h.mono fun r s h=>hk _ _ h
        ·exact id
       ·exact id
      ·exact id
    ·rw[if_neg hd] at h3 ⊢
     revert h3
     unfold qdj
     split
     ·split
      ·split
       ·exact fun h=>h.mono fun r s h=>qdn hk l _ _ h
       ·exact id
      ·exact id
     ·exact id
   ·rw[if_neg hc] at h3 ⊢
    exact⟨h3.1,qdn hk l _ _ h3.2⟩
  | some jb=>
   obtain⟨j,b⟩:=jb
   rw[hg] at h2
   simp only at h2 ⊢
   by_cases ha:qcy o.op=true
   ·rw[if_pos ha] at h2 ⊢
    exact⟨h2.1,h2.2.1,h2.2.2.1,h2.2.2.2.1,qdn hk l _ _ h2.2.2.2.2⟩
   rw[if_neg ha] at h2 ⊢
   refine⟨h2.1,h2.2.1,h2.2.2.1,?_⟩
   have h3:=h2.2.2.2
   by_cases hc:qa9 o.op=true
   ·rw[if_pos hc] at h3 ⊢
    obtain⟨r0,h4,h5⟩:=h3
    exact⟨r0,h4,qdn hk l _ _ h5⟩
   ·rw[if_neg hc] at h3 ⊢
    exact⟨h3.1,qdn hk l _ _ h3.2⟩
theorem q80 {K1 K2:qgl→Env→Sto→Prop} {id:Nat} (hk:∀e env s,K1 e env s→K2 e env s):∀e env s,qfs id K1 e env s→qfs id K2 e env s:=by
 intro e env s h
 cases e with
 | exit i=>
  simp only[qfs] at h ⊢
  split
  ·rename_i hi;rw[if_pos hi] at h;exact hk _ _ _ h
  ·rename_i hi;rw[if_neg hi] at h;exact hk _ _ _ h
 | _=>exact hk _ _ _ h
theorem q8p {all:Array Oper} {env:Env} {σ:Sto} {K1 K2:Env→Sto→Prop} (hk:∀e s,K1 e s→K2 e s) (h:q0g P Gl n m all env σ K1):q0g P Gl n m all env σ K2:=by
 rcases h with h|⟨J,h1,h2,h3⟩
 ·exact .inl h
 ·exact .inr ⟨J,h1,fun l e s a b c=>hk _ _ (h2 l e s a b c),h3⟩
theorem Qcs:∀(c:Code) {env:Env} {σ:Sto} {K1 K2:qgl→Env→Sto→Prop},(∀e env s,K1 e env s→K2 e env s)→evC P Gl n m c env σ K1→evC P Gl n m c env σ K2:=by
 intro c
 induction c with
 | skip=>intro env σ K1 K2 hk h;exact hk _ _ _ h
 | region id ops draw=>intro env σ K1 K2 hk h;exact⟨fun hd=>q8p (fun e s h=>hk _ e s h) (h.1 hd),qdn (fun e s h=>hk _ e s h) _ _ _ h.2⟩
 | seq x y ihx ihy=>intro env σ K1 K2 hk h;exact ihx (qg8 hk fun e s h=>ihy hk h) h
 | cond c x y ihx ihy=>intro env σ K1 K2 hk h;exact⟨h.1,h.2.1,fun ht=>ihx hk (h.2.2.1 ht),fun ht=>ihy hk (h.2.2.2 ht)⟩
 | block id c ih=>intro env σ K1 K2 hk h;exact ih (q80 hk) h
 | loop c ih=>
  intro env σ K1 K2 hk h
  obtain⟨Inv,ν,h0,hs⟩:=h
  exact⟨Inv,ν,h0,fun e s hi=>ih (qg8 hk fun _ _ h=>h) (hs e s hi)⟩
 | exit id=>intro env σ K1 K2 hk h;exact hk _ _ _ h
 | ret=>intro env σ K1 K2 hk h;exact hk _ _ _ h
 | scope c ih=>intro env σ K1 K2 hk h;exact ih hk h
 | label l=>intro env σ K1 K2 hk h;exact hk _ _ _ h
 | _=>intro env σ K1 K2 hk h;exact h.elim
theorem qcr {c:Code} {τ:Type} (E:τ→Env) (S:τ→Sto) (Inv:τ→Prop) (ν:τ→Nat) (x0:τ) (h0:Inv x0) (hw:qgm n m env σ (E x0) (S x0))
  (hs:∀x,Inv x→evC P Gl n m c (E x) (S x) (ql2 K fun e s=>∃y,Inv y∧ν y<ν x∧qgm n m e s (E y) (S y))) :
  evC P Gl n m (.loop c) env σ K:=by
 classical
 let μ:Env→Sto→Nat:=fun e s=>if h:∃k,∃x,Inv x∧e=E x∧s=S x∧ν x=k then Classical.choose (qet h) else 0
 have hμ:∀x,Inv x→(∃y,Inv y∧E x=E y∧S x=S y∧ν y=μ (E x) (S x))∧μ (E x) (S x)≤ν x:=fun x hx=>by
  have h:∃k,∃y,Inv y∧E x=E y∧S x=S y∧ν y=k:=⟨_,x,hx,rfl,rfl,rfl⟩
  have e:μ (E x) (S x)=Classical.choose (qet h):=by simp only[μ];rw[dif_pos h]
  rw[e]
  have:=Classical.choose_spec (qet h)
  exact⟨this.1,this.2 _ ⟨x,hx,rfl,rfl,rfl⟩⟩
 refine⟨fun e s=>∃x,Inv x∧e=E x∧s=S x,μ,⟨_,_,hw,x0,h0,rfl,rfl⟩,?_⟩
 rintro e s ⟨x,hx,rfl,rfl⟩
 obtain⟨⟨y,hy,e1,e2,e3⟩,_⟩:=hμ x hx
 rw[e1,e2]
 rw[e1,e2] at e3
 refine Qcs _ (fun a b c h=>?_) (hs y hy)
 revert h
 refine qg8 (fun _ _ _ h=>h) (fun e s h=>?_) a b c
 obtain⟨z,hz,hlt,hw⟩:=h
 refine⟨_,_,hw,⟨z,hz,rfl,rfl⟩,?_⟩
 have:=(hμ z hz).2
 omega
theorem qan {c:Code} (N:Nat) (E:Nat→Env) (S:Nat→Sto) (Inv:Nat→Prop) (h0:Inv 0) (hw:qgm n m env σ (E 0) (S 0))
  (hs:∀k,Inv k→k≤N→evC P Gl n m c (E k) (S k) (ql2 K fun e s=>k<N∧Inv (k+1)∧qgm n m e s (E (k+1)) (S (k+1)))) :
  evC P Gl n m (.loop c) env σ K:=
 qcr E S (fun k=>Inv k∧k≤N) (fun k=>N-k) 0 ⟨h0,Nat.zero_le _⟩ hw fun k hk=>Qcs _ (qg8 (fun _ _ _ h=>h) fun _ _ h=>⟨k+1,⟨h.2.1,by omega⟩,by omega,h.2.2⟩) (hs k hk.1 hk.2)
end Go.AM


namespace Go.AM
def qb3 (ρ:List Nat) (N:Nat) (j:Nat):Nat:=if j<ρ.length then ρ.getD j 0 else N+(j-ρ.length)
mutual
def qgy (b:Nat→Nat):AV→AV
 | .undef=>.undef
 | .d x=>.d x
 | .nils=>.nils
 | .agg cs=>.agg (qvy b cs)
 | .ptr id off=>.ptr (b id) off
 | .eptr es xs i off=>.eptr es xs i off
 | .aptr id i off=>.aptr (b id) i off
 | .osl id off len=>.osl (b id) off len
 | .rsl id len=>.rsl (b id) len
 | .fn f caps=>.fn f (qvy b caps)
 | .tup vs=>.tup (qvy b vs)
 | .iff g v=>.iff g (qgy b v)
 | .mapr id=>.mapr (b id)
 | .anyb=>.anyb
def qvy (b:Nat→Nat):List AV→List AV
 | []=>[]
 | c::r=>qgy b c::qvy b r
end
theorem qft (b:Nat→Nat):∀l:List AV,qvy b l=l.map (qgy b)
 | []=>rfl
 | c::r=>by rw[qvy,qft b r];rfl
def qdg (b:Nat→Nat):Blk→Blk
 | .box n v=>.box n (qgy b v)
 | .map ik f=>.map ik fun k=>(f k).map (qgy b)
 | B=>B
def qea (ρ:List Nat) (σ s:Sto):Sto:=(List.range (σ.length+(s.length-ρ.length))).map fun id=>
 match qch ρ id with
 | some j=>qdg (qb3 ρ σ.length) (qae s j)
 | none=>if id<σ.length then qae σ id else qdg (qb3 ρ σ.length) (qae s (ρ.length+(id-σ.length)))
variable {P:Program} {Gl:qbd} {w w':World} {I I':Im} {μ μ':Pos} {σ s s':Sto}
theorem qfj (b:Nat→Nat) (B:Blk):(qdg b B).isDead=B.isDead∧(qdg b B).isArr=B.isArr∧(qdg b B).es=B.es∧(qdg b B).xs=B.xs∧(qdg b B).own=B.own:=by
 cases B<;>exact⟨rfl,rfl,rfl,rfl,rfl⟩
theorem Qc3 (b:Nat→Nat) (v:AV):(qgy b v).one=v.one:=by
 cases v<;>rfl
theorem qdk.im (h:∀b,I.rd b→I'.rd b) {v:Value} {x:D} (hv:qdk w I v x):qdk w I' v x:=hv.keep h (fun _ _=>rfl)
theorem Qc2 {b:Nat→Nat} (hI:∀x,I.rd x→I'.rd x)
  (hb:∀j<s.length,b j<s'.length∧(qcb s' (b j)→qcb s j∧μ' (b j)=μ j∧(qae s' (b j)).isArr=(qae s j).isArr∧(qae s' (b j)).es=(qae s j).es∧(qae s' (b j)).xs=(qae s j).xs))
  {v:Value} {u:AV} (hv:qbg w I μ s v u):qbg w I' μ' s' v (qgy b u):=by
 have lst:∀{vs:List Value} {cs:List AV},(∀(i:Nat) (v:Value) (x:AV),vs[i]? = some v→cs[i]? = some x→qbg w I' μ' s' v (qgy b x))→∀(i:Nat) (v:Value) (x:AV),vs[i]? = some v→(qvy b cs)[i]? = some x→qbg w I' μ' s' v x:=fun {vs cs} h i v x hv hx=>by
  rw[qft,List.getElem?_map] at hx
  cases hc:cs[i]? with
  | none=>rw[hc] at hx;cases hx
  | some c=>
   rw[hc] at hx
   simp only[Option.map_some,Option.some.injEq] at hx
   subst hx
   exact h i v c hv hc
 induction hv with
 | undef v=>exact .undef v
 | d v x h=>exact .d v x (h.im hI)
 | nils=>exact .nils
 | agg vs cs hl hone h ih=>
  refine .agg vs _ (by rw[qft];simpa using hl) (fun c hc=>?_) (lst ih)
  rw[qft] at hc
  obtain⟨c',hc',rfl⟩:=List.mem_map.1 hc
  rw[Qc3];exact hone c' hc'
 | ptr v id off hid h=>
  obtain⟨q1,q2⟩:=hb id hid
  obtain⟨b',base,h1,h2⟩:=h
  exact .ptr v _ off q1 ⟨b',base,fun ha=>by rw[(q2 ha).2.1];exact h1 (q2 ha).1,h2⟩
 | eptr b' o es xs i off h=>exact .eptr b' o es xs i off (h.keep hI (fun _ _=>rfl))
 | aptr v id i off hid h=>
  obtain⟨q1,q2⟩:=hb id hid
  obtain⟨b',base,es,h1,h2⟩:=h
  exact .aptr v _ i off q1 ⟨b',base,es,fun ha=>by obtain⟨a1,a2,a3,a4,a5⟩:=q2 ha;rw[a2,a4];exact h1 a1,h2⟩
 | osl v id off len hid h=>
  obtain⟨q1,q2⟩:=hb id hid
  refine .osl v _ off len q1 ?_
  rcases h with h|⟨b',base,es,cap,h1,h2,h3⟩
  ·exact .inl h
  ·refine .inr ⟨b',base,es,cap,fun ha=>?_,h2,h3⟩
   obtain⟨a1,a2,a3,a4,a5⟩:=q2 ha
   rw[a2,a3,a4,a5];exact h1 a1
 | rsl v id len hid h=>
  obtain⟨q1,q2⟩:=hb id hid
  obtain⟨b',base,cap,h1,h2⟩:=h
  exact .rsl v _ len q1 ⟨b',base,cap,fun ha=>by rw[(q2 ha).2.1];exact h1 (q2 ha).1,h2⟩
 | fn f vs caps hl h ih=>exact .fn f vs _ (by rw[qft];simpa using hl) (lst ih)
 | tup vs cs hl h ih=>exact .tup vs _ (by rw[qft];simpa using hl) (lst ih)
 | iff g v x h1 h2 ih=>exact .iff g v _ ih h2
 | mapr v id hid h=>
  obtain⟨q1,q2⟩:=hb id hid
  obtain⟨b',h1,h2⟩:=h
  exact .mapr v _ q1 ⟨b',fun ha=>by rw[(q2 ha).2.1];exact h1 (q2 ha).1,h2⟩
 | anyb c=>exact .anyb c
theorem q0n (b:Nat→Nat) (v:AV) (j:Nat) (hj:j<v.ncells):(qgy b v).ncells=v.ncells∧(qgy b v).cellAt j=qgy b (v.cellAt j):=by
 cases v with
 | agg cs=>
  simp only[qgy,AV.ncells,qft] at hj ⊢
  refine⟨by simp,?_⟩
  simp only[AV.cellAt,List.getD_eq_getElem?_getD,List.getElem?_map,List.getElem?_eq_getElem hj,Option.map_some,Option.getD_some]
 | _=>exact⟨rfl,rfl⟩
theorem Qkj (ρ:List Nat) (σ s:Sto):(qea ρ σ s).length=σ.length+(s.length-ρ.length):=by simp[qea]
theorem qlu {ρ:List Nat} {σ s:Sto} {id:Nat} (h:id<σ.length+(s.length-ρ.length)):qae (qea ρ σ s) id=(match qch ρ id with
  | some j=>qdg (qb3 ρ σ.length) (qae s j)
  | none=>if id<σ.length then qae σ id else qdg (qb3 ρ σ.length) (qae s (ρ.length+(id-σ.length)))):=by
 conv=>lhs;unfold qae qea
 rw[List.getD_eq_getElem?_getD,List.getElem?_map,List.getElem?_range h]
 rfl
theorem Qcc {ρ:List Nat} (hnd:ρ.Nodup) {j:Nat} (hj:j<ρ.length):qch ρ (ρ.getD j 0)=some j:=by
 have e:ρ.getD j 0=ρ[j]:=by simp[hj]
 rw[e]
 unfold qch
 rw[List.findIdx?_eq_some_iff_getElem]
 refine⟨hj,by simp,fun k hk=>?_⟩
 simp only[beq_iff_eq]
 intro he
 have:=(List.getElem_inj hnd).1 he
 omega
theorem Qek {ρ:List Nat} {id:Nat} (h:qch ρ id=none):id∉ρ:=by
 unfold qch at h
 rw[List.findIdx?_eq_none_iff] at h
 intro hm
 have:=h id hm
 simp at this
mutual
theorem qoj:∀u:AV,qgy (fun j=>j) u=u
 | .undef|.d _|.nils|.ptr ..|.eptr ..|.aptr ..|.osl ..|.rsl ..|.mapr _|.anyb=>by simp[qgy]
 | .agg cs=>by rw[qgy,qrg cs]
 | .fn f caps=>by rw[qgy,qrg caps]
 | .tup vs=>by rw[qgy,qrg vs]
 | .iff g v=>by rw[qgy,qoj v]
theorem qrg:∀l:List AV,qvy (fun j=>j) l=l
 | []=>by simp[qvy]
 | c::r=>by rw[qvy,qoj c,qrg r]
end
theorem qbg.im (h:∀b,I.rd b→I'.rd b) {v:Value} {u:AV} (hv:qbg w I μ s v u):qbg w I' μ s v u:=by
 have:=Qc2 (I':=I') (μ':=μ) (s':=s) (b:=fun j=>j) h (fun j hj=>⟨hj,fun ha=>⟨ha,rfl,rfl,rfl,rfl⟩⟩) hv
 rwa [qoj] at this
theorem Qby {b:Nat} (h:qdh w b):b<w.heap.size:=by
 obtain⟨c,t,hc⟩:=h
 rcases Nat.lt_or_ge b w.heap.size with h'|h'
 ·exact h'
 ·rw[Array.getElem?_eq_none h'] at hc;cases hc
theorem qua (hR:Rel w I μ σ) {id:Nat} (ho:(qae σ id).own=true) {b o:Nat} (hm:μ id=some (b,o)):b<w.heap.size∧¬I.fr b:=by
 have hb:=hR.blk id (qbc ho)
 cases hB:qae σ id with
 | box k v=>
  rw[hB] at hb
  obtain⟨b',base,h1,h2,h3,_⟩:=hb
  rw[hm] at h1;cases h1
  exact⟨Qby h3,h2⟩
 | arr es xs=>
  rw[hB] at hb
  rcases hb with⟨h1,_⟩|⟨b',base,h1,h2,h3,_⟩
  ·rw[hm] at h1;cases h1
  ·rw[hm] at h1;cases h1
   exact⟨Qby h3,h2⟩
 | map ik f=>
  rw[hB] at hb
  obtain⟨b',es,clock,h1,h2,⟨h3,_⟩,_⟩:=hb
  rw[hm] at h1;cases h1
  refine⟨?_,h2⟩
  rcases Nat.lt_or_ge b w.heap.size with h'|h'
  ·exact h'
  ·rw[Array.getElem?_eq_none h'] at h3;cases h3
 | _=>rw[hB] at ho;simp[Blk.own] at ho
theorem qev.im {id id':Nat} {B:Blk} {b:Nat→Nat} (hI:∀x,I.rd x→I'.rd x) (hf:B.own=true→∀x o,μ id=some (x,o)→¬I.fr x→¬I'.fr x)
  (hμ:μ' id'=μ id) (hv:∀{v:Value} {u:AV},qbg w I μ s v u→qbg w I' μ' s' v (qgy b u)) (hb:qev w I μ s id B):qev w I' μ' s' id' (qdg b B):=by
 cases B with
 | dead=>trivial
 | box k v=>
  obtain⟨x,base,h1,h2,h3,h4,h5,h6⟩:=hb
  refine⟨x,base,hμ.trans h1,hf rfl x base h1 h2,h3,h4,?_,fun q hq=>?_⟩
  ·rcases Nat.eq_zero_or_pos v.ncells with hz|hp
   ·cases v<;>simp_all [AV.ncells,qgy,qft]
   ·rw[(q0n b v 0 hp).1];exact h5
  ·obtain⟨a0,u,a1,a2⟩:=h6 q hq
   rw[(q0n b v q (by omega)).2,Qc3]
   exact⟨a0,u,a1,hv a2⟩
 | arr es xs=>
  rcases hb with hb|⟨x,base,h1,h2,h3,h4,h5,h6,h7⟩
  ·exact .inl ⟨hμ.trans hb.1,hb.2⟩
  ·exact .inr ⟨x,base,hμ.trans h1,hf rfl x base h1 h2,h3,h4,h5,h6,fun i q x y hx hy=>by obtain⟨v,a1,a2⟩:=h7 i q x y hx hy;exact⟨v,a1,a2.im hI⟩⟩
 | frz es xs=>
  rcases hb with hb|⟨x,base,h1,h2⟩
  ·exact .inl ⟨hμ.trans hb.1,hb.2⟩
  ·exact .inr ⟨x,base,hμ.trans h1,Qe5.keep (w:=w) hI (fun _ _=>rfl) h2⟩
 | map ik f=>
  obtain⟨x,es,clock,h1,h2,h3,h4⟩:=hb
  exact⟨x,es,clock,hμ.trans h1,hf rfl x 0 h1 h2,h3,h4.imp fun v u hr=>hv hr⟩
theorem qal.under {f:FuncId} {args:List AV} {R:AV→Sto→Prop} (ρ:List Nat) (hnd:ρ.Nodup) (hlt:∀id∈ρ,id<σ.length) (h:qal P Gl f (args.map (qbk ρ σ)) (qdp ρ σ) R) :
  qal P Gl f args σ (fun r s=>∃r0 s0,R r0 s0∧r=qgy (qb3 ρ σ.length) r0∧s=qea ρ σ s0):=by
 intro w I μ vals hR hG hl hv
 let given:Nat→Prop:=fun b=>∃id∈ρ,(qae σ id).own=true∧∃o,μ id=some (b,o)
 let J:Im:={rd:=I.rd,fr:=fun b=>b<w.heap.size∧¬given b,sub:=fun b hb=>⟨hR.imm b (I.sub b hb),fun⟨id,_,ho,o,hm⟩=>(qua hR ho hm).2 (I.sub b hb)⟩}
 have frJ:∀b,I.fr b→J.fr b:=fun b hb=>⟨hR.imm b hb,fun⟨id,_,ho,o,hm⟩=>(qua hR ho hm).2 hb⟩
 obtain⟨r1,r2⟩:=Qgc (m:=0) hR (ρ:=ρ) rfl hnd
 have hlen0:(qdp ρ σ).length=ρ.length:=by simp[qdp]
 have own0:∀j,(qae (qdp ρ σ) j).own=true→∃id,ρ[j]? = some id∧(qae σ id).own=true:=fun j hj=>by
  have hl:=qbc hj
  rw[hlen0] at hl
  have hs:ρ[j]? = some ρ[j]:=List.getElem?_eq_getElem hl
  refine⟨ρ[j],hs,?_⟩
  rw[qf8 hs] at hj
  cases hB:qae σ ρ[j] with
  | box k v=>rfl
  | arr es xs=>rfl
  | map ik f=>rfl
  | _=>rw[hB] at hj;simp[qbx,Blk.own] at hj
 have posR:∀j id,ρ[j]? = some id→qe4 ρ μ j=μ id:=fun j id hj=>by unfold qe4;rw[hj]
 have notJ:∀j,(qae (qdp ρ σ) j).own=true→∀b o,qe4 ρ μ j=some (b,o)→¬J.fr b:=fun j hj b o hm hf=>by
  obtain⟨id,h1,h2⟩:=own0 j hj
  rw[posR j id h1] at hm
  exact hf.2 ⟨id,List.mem_of_getElem? h1,h2,o,hm⟩
 have backBid:∀B:Blk,qdg (fun j=>j) B=B:=fun B=>by
  cases B with
  | map ik f=>
   simp only[qdg]
   congr 1
   funext k
   cases f k<;>simp[qoj]
  | _=>simp[qdg,qoj]
 have hRJ:Rel w J (qe4 ρ μ) (qdp ρ σ):=by
  refine⟨fun b hb=>hb.1,fun j hj=>?_,r1.apart⟩
  have:=qev.im (w:=w) (I:=I) (I':=J) (s:=qdp ρ σ) (μ':=qe4 ρ μ) (s':=qdp ρ σ) (id':=j) (b:=fun j=>j) (fun _ h=>h) (fun ho b o hm _=>notJ j ho b o hm) rfl (fun {v u} hv=>by rw[qoj];exact qbg.im (I:=I) (I':=J) (fun _ h=>h) hv) (r1.blk j hj)
  rwa [backBid] at this
 have hGJ:qg5 Gl w J:=⟨fun p hp=>Qe5.keep (w:=w) (I:=I) (I':=J) (fun _ h=>h) (fun _ _=>rfl) (hG.sl p hp),hG.ex⟩
 refine(h w J (qe4 ρ μ) vals hRJ hGJ (by simp[hl]) fun i v u hv' hu=>?_).mono fun v w' ⟨r0,s0,I1,μ1,q1,q2,q3,q4⟩=>?_
 ·rw[List.getElem?_map] at hu
  cases ha:args[i]? with
  | none=>rw[ha] at hu;cases hu
  | some a=>
   rw[ha] at hu
   simp only[Option.map_some,Option.some.injEq] at hu
   subst hu
   exact qbg.im (I:=I) (I':=J) (fun _ h=>h) (ql7 hR (hv i v a hv' ha))
 ·have hge:ρ.length≤s0.length:=by have:=q2.len;omega
  let I2:Im:={rd:=I1.rd,fr:=fun b=>I.fr b∨I1.rd b,sub:=fun b hb=>.inr hb}
  let N:=σ.length
  let s2:=qea ρ σ s0
  let μ2:Pos:=fun id=>match qch ρ id with|some j=>μ1 j|none=>if id<N then μ id else μ1 (ρ.length+(id-N))
  have s2len:s2.length=N+(s0.length-ρ.length):=Qkj ρ σ s0
  have hρ:∀j,j<ρ.length→ρ.getD j 0∈ρ:=fun j hj=>by simp[hj]
  have hnone:∀id,N≤id→qch ρ id=none:=fun id hid=>by
   cases hx:qch ρ id with
   | none=>rfl
   | some j=>have:=hlt id (List.mem_of_getElem? (qkb hx));omega
  have factB:∀j,j<s0.length→qb3 ρ N j<s2.length∧qae s2 (qb3 ρ N j)=qdg (qb3 ρ N) (qae s0 j)∧μ2 (qb3 ρ N j)=μ1 j:=fun j hj=>by
   by_cases hj2:j<ρ.length
   ·have e:qb3 ρ N j=ρ.getD j 0:=by unfold qb3;rw[if_pos hj2]
    have hlt':ρ.getD j 0<N:=hlt _ (hρ j hj2)
    rw[e]
    refine⟨by omega,?_,?_⟩
    ·show qae (qea ρ σ s0) _=_
     rw[qlu (by omega),Qcc hnd hj2]
    ·simp only[μ2];rw[Qcc hnd hj2]
   ·have e:qb3 ρ N j=N+(j-ρ.length):=by unfold qb3;rw[if_neg hj2]
    rw[e]
    refine⟨by omega,?_,?_⟩
    ·show qae (qea ρ σ s0) _=_
     rw[qlu (by omega),hnone _ (by omega)]
     simp only
     rw[if_neg (by omega)]
     congr 2;omega
    ·simp only[μ2];rw[hnone _ (by omega)]
     simp only
     rw[if_neg (by omega)]
     congr 1;omega
  have factC:∀id,id<s2.length→(∃j,j<s0.length∧id=qb3 ρ N j)∨(id<N∧id∉ρ∧qae s2 id=qae σ id∧μ2 id=μ id):=fun id hid=>by
   cases hx:qch ρ id with
   | some j=>
    left
    have hs:=qkb hx
    have hj:j<ρ.length:=by
     rcases Nat.lt_or_ge j ρ.length with h'|h'
     ·exact h'
     ·rw[List.getElem?_eq_none h'] at hs;cases hs
    refine⟨j,by omega,?_⟩
    unfold qb3;rw[if_pos hj,List.getD_eq_getElem?_getD,hs];rfl
   | none=>
    by_cases hn:id<N
    ·right
     refine⟨hn,Qek hx,?_,?_⟩
     ·show qae (qea ρ σ s0) _=_
      rw[qlu (by omega),hx]
      simp only
      rw[if_pos hn]
     ·simp only[μ2];rw[hx];simp only;rw[if_pos hn]
    ·left
     refine⟨ρ.length+(id-N),by omega,?_⟩
     unfold qb3;rw[if_neg (by omega)];omega
  have aliveB:∀j,j<s0.length→(qcb s2 (qb3 ρ N j)→qcb s0 j):=fun j hj ha=>by
   unfold qcb at *
   rw[(factB j hj).2.1,(qfj _ _).1] at ha
   exact ha
  have repB:∀{v:Value} {u:AV},qbg w' I1 μ1 s0 v u→qbg w' I2 μ2 s2 v (qgy (qb3 ρ N) u):=fun {v u} hv=>
   Qc2 (I:=I1) (I':=I2) (fun _ h=>h) (fun j hj=>by
    obtain⟨b1,b2,b3⟩:=factB j hj
    obtain⟨_,c2,c3,c4,_⟩:=qfj (qb3 ρ N) (qae s0 j)
    exact⟨b1,fun ha=>⟨aliveB j hj ha,b3,by rw[b2,c2],by rw[b2,c3],by rw[b2,c4]⟩⟩) hv
  have kp:qcn N w I μ σ w' I2 μ2 s2:=by
   refine⟨q2.os,q2.tape,q2.output,q2.size,q2.imm,fun b hb=>.inl hb,fun b hb=>?_,fun b hb=>q2.same b (frJ b hb),q2.bsize,by omega,fun id hid ha=>?_⟩
   ·rcases q2.rdn b hb with h1|h1
    ·exact .inl h1
    ·exact .inr fun hf=>h1 (frJ b hf)
   ·rcases factC id (by omega) with⟨j,hj,rfl⟩|⟨_,_,c3,c4⟩
    ·obtain⟨b1,b2,b3⟩:=factB j hj
     obtain⟨_,c2,c3,c4,_⟩:=qfj (qb3 ρ N) (qae s0 j)
     have hj2:j<ρ.length:=by
      rcases Nat.lt_or_ge j ρ.length with h'|h'
      ·exact h'
      ·unfold qb3 at hid;rw[if_neg (by omega)] at hid;omega
     have hs:ρ[j]? = some (qb3 ρ N j):=by
      unfold qb3;rw[if_pos hj2];simp[hj2]
     obtain⟨o1,o2,o3,o4,o5⟩:=q2.old j (by omega) (aliveB j hj ha)
     have hb0:=qf8 (σ:=σ) hs
     obtain⟨d1,d2,d3⟩:=q00 ρ σ (qae σ (qb3 ρ N j))
     refine⟨?_,?_,?_,?_,?_⟩
     ·unfold qcb at o1 ⊢;rw[hb0] at o1;exact qnz o1
     ·rw[b3,o2];exact posR j _ hs
     ·rw[b2,c2,o3,hb0,d1]
     ·rw[b2,c3,o4,hb0,d2]
     ·rw[b2,c4];rw[hb0,d3] at o5;exact o5
    ·unfold qcb at ha ⊢
     rw[c3] at ha
     exact⟨ha,c4,by rw[c3],by rw[c3],by rw[c3];exact Nat.le_refl _⟩
  have ownC:∀id,id∉ρ→(qae σ id).own=true→∀b o,μ id=some (b,o)→J.fr b:=fun id hid ho b o hm=>
   ⟨(qua hR ho hm).1,fun⟨id',h1,h2,o',h3⟩=>hR.apart id id' b b o o' (fun e=>hid (e▸h1)) ho h2 hm h3 rfl⟩
  refine⟨qgy (qb3 ρ N) r0,s2,I2,μ2,?_,kp,repB q3,r0,s0,q4,rfl,rfl⟩
  refine⟨fun b hb=>?_,fun id hid=>?_,fun i j b b' o o' hij hi hj hμi hμj=>?_⟩
  ·rcases hb with hb|hb
   ·exact Nat.lt_of_lt_of_le (hR.imm b hb) q2.size
   ·exact q1.imm b (I1.sub b hb)
  ·rcases factC id hid with⟨j,hj,rfl⟩|⟨c1,c2,c3,c4⟩
   ·obtain⟨b1,b2,b3⟩:=factB j hj
    rw[b2]
    refine qev.im (I:=I1) (I':=I2) (fun _ h=>h) (fun ho b o hm hn hf=>?_) b3 repB (q1.blk j hj)
    rcases hf with hf|hf
    ·exact hn (q2.fr b (frJ b hf))
    ·exact hn (I1.sub b hf)
   ·rw[c3]
    refine qev.keep kp c4 (fun ho b o hm=>?_) (hR.blk id c1)
    have hJ:=ownC id c2 ho b o hm
    refine⟨q2.same b hJ,fun hn hf=>?_⟩
    rcases hf with hf|hf
    ·exact hn hf
    ·rcases q2.rdn b hf with h1|h1
     ·exact hn (I.sub b h1)
     ·exact h1 hJ
  ·rcases factC i (qbc hi) with⟨j1,hj1,rfl⟩|⟨c1,c2,c3,c4⟩<;>rcases factC j (qbc hj) with⟨j2,hj2,rfl⟩|⟨e1,e2,e3,e4⟩
   ·rw[(factB j1 hj1).2.1,(qfj _ _).2.2.2.2] at hi
    rw[(factB j2 hj2).2.1,(qfj _ _).2.2.2.2] at hj
    rw[(factB j1 hj1).2.2] at hμi
    rw[(factB j2 hj2).2.2] at hμj
    exact q1.apart j1 j2 b b' o o' (fun e=>hij (by rw[e])) hi hj hμi hμj
   ·rw[(factB j1 hj1).2.1,(qfj _ _).2.2.2.2] at hi
    rw[(factB j1 hj1).2.2] at hμi
    rw[e3] at hj
    rw[e4] at hμj
    intro e
    subst e
    exact(qua q1 hi hμi).2 (q2.fr _ (ownC j e2 hj _ _ hμj))
   ·rw[(factB j2 hj2).2.1,(qfj _ _).2.2.2.2] at hj
    rw[(factB j2 hj2).2.2] at hμj
    rw[c3] at hi
    rw[c4] at hμi
    intro e
    subst e
    exact(qua q1 hj hμj).2 (q2.fr _ (ownC i c2 hi _ _ hμi))
   ·rw[c3] at hi
    rw[c4] at hμi
    rw[e3] at hj
    rw[e4] at hμj
    exact hR.apart i j b b' o o' hij hi hj hμi hμj
theorem q6v (σ:Sto):qea [] σ []=σ:=by
 unfold qea
 simp only[List.length_nil,Nat.sub_zero,Nat.add_zero]
 apply List.ext_getElem?
 intro i
 rw[List.getElem?_map]
 rcases Nat.lt_or_ge i σ.length with h|h
 ·rw[List.getElem?_range h]
  simp only[Option.map_some,qch,List.findIdx?_nil,if_pos h]
  unfold qae
  simp[h]
 ·rw[List.getElem?_eq_none (by simpa using h),List.getElem?_eq_none h];rfl
theorem qal.pure {f:FuncId} {args:List D} {y:D} (h:qal P Gl f (args.map AV.d) [] (fun r s=>r=.d y∧s=[])) (s:Sto):qal P Gl f (args.map AV.d) s (fun r s'=>r=.d y∧s'=s):=by
 have e:(args.map AV.d).map (qbk [] s)=args.map AV.d:=by simp[qbk,qkp]
 have h1:=qal.under (P:=P) (Gl:=Gl) (f:=f) (args:=args.map AV.d) (R:=fun r s=>r=.d y∧s=[]) (σ:=s) [] List.nodup_nil (by simp) (by rw[e];exact h)
 refine h1.mono fun r s' h2=>?_
 obtain⟨r0,s0,⟨h1,h2⟩,h3,h4⟩:=h2
 subst h1;subst h2;subst h3;subst h4
 exact⟨by simp[qgy],q6v s⟩
end Go.AM


namespace Go.AM
theorem Qkn:type_of% (aI @List.set_cons_zero.{0} (aI @List.set_cons_succ.{0} (aI @List.nil_append.{0} (aI @List.cons_append.{0} (aI @List.append_nil.{0} (aI @List.length_cons.{0} (aI @List.length_nil.{0} (aI @List.length_map.{0,0} (aI @List.map_cons.{0,0} (aI @List.map_nil.{0,0} (aI @List.getD_cons_zero.{0} (aI @List.getD_cons_succ.{0} (aI @List.drop_zero.{0} (aI @List.drop_succ_cons.{0} (aI @List.drop_nil.{0} (aI @List.take_zero.{0} (aI @List.take_succ_cons.{0} (aI @List.take_nil.{0} (aI @List.all_cons.{0} (aI @List.all_nil.{0} (aI @List.flatMap_cons.{0,0} (aI @List.flatMap_nil.{0,0} (aI @Int.toNat_natCast (aI @true_and (aI @and_true (aI @false_and (aI @and_false (aI @true_or (aI @or_true (aI @false_or (aI @or_false (aI @and_self (aI @or_self (aI @not_true_eq_false (aI @not_false_eq_true (aI @if_true.{1} (aI @if_false.{1} (aI @true_implies (aI @false_implies (aI @implies_true.{0} (aI @Option.isSome_some.{0} (aI @Option.map_some.{0,0} (aI @Option.map_none.{0,0} (aI @Bool.and_true (aI @Bool.true_and (aI @Bool.and_false (aI @Bool.false_and (aI @Bool.or_true (aI @Bool.true_or (aI @Bool.or_false (aI @Bool.false_or (aI @Bool.not_true (aI @Bool.not_false (aI @Bool.false_eq_true (aI @ne_eq.{1} (aI @Nat.le_refl (aI @Nat.zero_add (aI @Nat.add_zero (aI @decide_true (aI @decide_false (aI @Nat.zero_le (aI @cond_true.{1} (aI @cond_false.{1} (aI @Int.natCast_nonneg (aI @List.getElem?_cons_zero.{0} (aI @List.getElem?_cons_succ.{0} (aI @eq_self.{1} (aI @List.length_append.{0} (aI @List.getD_nil.{0} (aI @List.append_assoc.{0} (aI @List.length_set.{0} (aI @beq_true (aI @beq_false (aI @imp_self (aI @List.mem_cons.{0} (aI @List.not_mem_nil.{0} (aI @forall_eq_or_imp.{1} (aI @forall_eq.{1} (aI @Bool.cond_false_right (aI @Bool.cond_true_right (aI @Bool.cond_false_left (aI @Bool.cond_true_left (aI @Bool.cond_self.{1} (@Bool.not_not)))))))))))))))))))))))))))))))))))))))))))))))))))))))))))))))))))))))))))))))))))):=aI @List.set_cons_zero.{0} (aI @List.set_cons_succ.{0} (aI @List.nil_append.{0} (aI @List.cons_append.{0} (aI @List.append_nil.{0} (aI @List.length_cons.{0} (aI @List.length_nil.{0} (aI @List.length_map.{0,0} (aI @List.map_cons.{0,0} (aI @List.map_nil.{0,0} (aI @List.getD_cons_zero.{0} (aI @List.getD_cons_succ.{0} (aI @List.drop_zero.{0} (aI @List.drop_succ_cons.{0} (aI @List.drop_nil.{0} (aI @List.take_zero.{0} (aI @List.take_succ_cons.{0} (aI @List.take_nil.{0} (aI @List.all_cons.{0} (aI @List.all_nil.{0} (aI @List.flatMap_cons.{0,0} (aI @List.flatMap_nil.{0,0} (aI @Int.toNat_natCast (aI @true_and (aI @and_true (aI @false_and (aI @and_false (aI @true_or (aI @or_true (aI @false_or (aI @or_false (aI @and_self (aI @or_self (aI @not_true_eq_false (aI @not_false_eq_true (aI @if_true.{1} (aI @if_false.{1} (aI @true_implies (aI @false_implies (aI @implies_true.{0} (aI @Option.isSome_some.{0} (aI @Option.map_some.{0,0} (aI @Option.map_none.{0,0} (aI @Bool.and_true (aI @Bool.true_and (aI @Bool.and_false (aI @Bool.false_and (aI @Bool.or_true (aI @Bool.true_or (aI @Bool.or_false (aI @Bool.false_or (aI @Bool.not_true (aI @Bool.not_false (aI @Bool.false_eq_true (aI @ne_eq.{1} (aI @Nat.le_refl (aI @Nat.zero_add (aI @Nat.add_zero (aI @decide_true (aI @decide_false (aI @Nat.zero_le (aI @cond_true.{1} (aI @cond_false.{1} (aI @Int.natCast_nonneg (aI @List.getElem?_cons_zero.{0} (aI @List.getElem?_cons_succ.{0} (aI @eq_self.{1} (aI @List.length_append.{0} (aI @List.getD_nil.{0} (aI @List.append_assoc.{0} (aI @List.length_set.{0} (aI @beq_true (aI @beq_false (aI @imp_self (aI @List.mem_cons.{0} (aI @List.not_mem_nil.{0} (aI @forall_eq_or_imp.{1} (aI @forall_eq.{1} (aI @Bool.cond_false_right (aI @Bool.cond_true_right (aI @Bool.cond_false_left (aI @Bool.cond_true_left (aI @Bool.cond_self.{1} (@Bool.not_not)))))))))))))))))))))))))))))))))))))))))))))))))))))))))))))))))))))))))))))))))))
theorem Qc4:type_of% (aI @Qkn (aI @implies_true.{0} @implies_true.{1})):=aI @Qkn (aI @implies_true.{0} @implies_true.{1})
theorem Qm7 {α:Type} [Inhabited α] (f:α→D) (l:List α) (i:Nat) (h:i<l.length):(l.map f).getD i default=f (l.getD i default):=by
 simp[h]
theorem qbh {n:Int} (h1:-9223372036854775808≤n) (h2:n≤9223372036854775807):IntKind.i64.wrap n=n:=by
 rw[IntKind.wrap_i64];omega
end Go.AM


set_option linter.unusedVariables false
namespace Go.AM
theorem Qqq {a b:Int} (h:a=b):(a==b)=true:=by simp[h]
theorem qv0 {a b:Int} (h:¬a=b):(a==b)=false:=by simp[h]
theorem qah {α:Type} [Inhabited α] (f:α→D) (l:List α) (i:Nat) (h:i<l.length):(l.map f).getD i default=f (l.getD i default):=Qm7 f l i h
theorem qaf {n:Int} (h:-9223372036854775808≤n∧n≤9223372036854775807):IntKind.i64.wrap n=n:=qbh h.1 h.2
end Go.AM


set_option linter.unusedVariables false
namespace Go.AM
variable {P:Program} {Gl:qbd}
def qba (P:Program) (Gl:qbd) (f:FuncId) (args:List AV) (r:AV):Prop:=∀σ,qal P Gl f args σ (fun r' s=>r'=r∧s=σ)
theorem qba.of {f:FuncId} {args:List D} {y:D} (h:qal P Gl f (args.map AV.d) [] (fun r s=>r=.d y∧s=[])):qba P Gl f (args.map AV.d) (.d y):=fun σ=>qal.pure h σ
theorem qba.ofT {f:FuncId} {args:List D} {y:AV} (hy:∀b,qgy b y=y) (h:qal P Gl f (args.map AV.d) [] (fun r s=>r=y∧s=[])):qba P Gl f (args.map AV.d) y:=fun s=>by
 have e:(args.map AV.d).map (qbk [] s)=args.map AV.d:=by simp[qbk,qkp]
 have h1:=qal.under (P:=P) (Gl:=Gl) (f:=f) (args:=args.map AV.d) (R:=fun r s=>r=y∧s=[]) (σ:=s) [] List.nodup_nil (by simp) (by rw[e];exact h)
 refine h1.mono fun r s' h2=>?_
 obtain⟨r0,s0,⟨h1,h2⟩,h3,h4⟩:=h2
 subst h1;subst h2;subst h3;subst h4
 exact⟨hy _,q6v s⟩
theorem q82 (x y:D) (b:Nat→Nat):qgy b (.tup [.d x,.d y])=.tup [.d x,.d y]:=by simp[qgy,qvy]
theorem qba.of1t2 {f:FuncId} {a x y:D} (h:qal P Gl f [.d a] [] (fun r s=>r=.tup [.d x,.d y]∧s=[])):qba P Gl f [.d a] (.tup [.d x,.d y]):=qba.ofT (args:=[a]) (q82 x y) h
theorem qba.of2t2 {f:FuncId} {a b x y:D} (h:qal P Gl f [.d a,.d b] [] (fun r s=>r=.tup [.d x,.d y]∧s=[])):qba P Gl f [.d a,.d b] (.tup [.d x,.d y]):=qba.ofT (args:=[a,b]) (q82 x y) h
theorem qba.of3t2 {f:FuncId} {a b c x y:D} (h:qal P Gl f [.d a,.d b,.d c] [] (fun r s=>r=.tup [.d x,.d y]∧s=[])):qba P Gl f [.d a,.d b,.d c] (.tup [.d x,.d y]):=qba.ofT (args:=[a,b,c]) (q82 x y) h
def qkl (P:Program) (Gl:qbd) (f:FuncId) (args:List AV) (es:Nat) (xs:List D):Prop:=∀σ,qal P Gl f args σ (fun r s=>r=.osl σ.length 0 xs.length∧s=σ++[.arr es xs])
theorem qkl.of {f:FuncId} {args:List D} {es:Nat} {xs:List D} (h:qal P Gl f (args.map AV.d) [] (fun r s=>r=.osl 0 0 xs.length∧s=[.arr es xs])):qkl P Gl f (args.map AV.d) es xs:=fun s=>by
 have e:(args.map AV.d).map (qbk [] s)=args.map AV.d:=by simp[qbk,qkp]
 have h1:=qal.under (P:=P) (Gl:=Gl) (f:=f) (args:=args.map AV.d) (σ:=s) [] List.nodup_nil (by simp) (by rw[e];exact h)
 refine h1.mono fun r s' h2=>?_
 obtain⟨r0,s0,⟨h1,h2⟩,h3,h4⟩:=h2
 subst h1;subst h2;subst h3;subst h4
 refine⟨by simp[qgy,qb3],?_⟩
 apply List.ext_getElem
 ·simp[qea]
 ·intro i h1 h2
  simp only[qea,List.getElem_map,List.getElem_range]
  have:qch [] i=none:=rfl
  rw[this]
  simp only[List.length_nil,Nat.zero_add]
  by_cases hi:i<s.length
  ·rw[if_pos hi,List.getElem_append_left hi]
   unfold qae
   simp[hi]
  ·simp[qea] at h1
   have:i=s.length:=by omega
   subst this
   rw[if_neg (by omega),List.getElem_append_right (by omega)]
   simp[qae,qdg]
theorem qba.of0 {f:FuncId} {y:D} (h:qal P Gl f [] [] (fun r s=>r=.d y∧s=[])):qba P Gl f [] (.d y):=qba.of (args:=[]) h
theorem qba.of1 {f:FuncId} {a y:D} (h:qal P Gl f [.d a] [] (fun r s=>r=.d y∧s=[])):qba P Gl f [.d a] (.d y):=qba.of (args:=[a]) h
theorem qba.of2 {f:FuncId} {a b y:D} (h:qal P Gl f [.d a,.d b] [] (fun r s=>r=.d y∧s=[])):qba P Gl f [.d a,.d b] (.d y):=qba.of (args:=[a,b]) h
theorem qba.of3 {f:FuncId} {a b c y:D} (h:qal P Gl f [.d a,.d b,.d c] [] (fun r s=>r=.d y∧s=[])):qba P Gl f [.d a,.d b,.d c] (.d y):=qba.of (args:=[a,b,c]) h
theorem Qjp {f:FuncId} {fn:Func} {e:Array Value→Sem Value} (hf:P.funcs[f]? = some fn) (hname:(fn.name == "runtime.NumGoroutine")=false) (hb:fn.body.isNone=true) (hn:Extern.findNext fn=none) (he:Extern.find fn=some e)
  {args:List AV} {r:AV} (h:∀w I μ σ (vals:List Value),(∀(i:Nat) (v:Value) (u:AV),vals[i]? = some v→args[i]? = some u→qbg w I μ σ v u)→vals.length=args.length→∃v,(e vals.toArray).run P w=.ok v w∧qbg w I μ σ v r) :
  qba P Gl f args r:=by
 intro σ w I μ vals hR hG hl hv
 obtain⟨v,h1,h2⟩:=h w I μ σ vals hv hl
 rw[run_callFunc_extern hf hname hb hn he vals.toArray w]
 simp only[Sem.run_bind,h1,Result.andThen_ok,Sem.run_pure]
 exact⟨r,σ,I,μ,hR,qcn.refl _ _ _ _ (Nat.le_refl _),h2,rfl,rfl⟩
theorem qkk {f:FuncId} {fn:Func} (hf:P.funcs[f]? = some fn) (hname:(fn.name == "runtime.NumGoroutine")=false) (hb:fn.body.isNone=true) (hn:Extern.findNext fn=none) (he:Extern.find fn=some Extern.BytealgIndexByte.indexByte) (s:List UInt8) (c:Int) :
  qba P Gl f [.d (.str s),.d (.int .u8 c)] (.d (.int .i64 (Lib.indexByte s c.toNat.toUInt8))):=by
 refine Qjp hf hname hb hn he fun w I μ σ vals hv hl=>?_
 match vals,hl with
 | [a,b],_=>
  have h1:=(hv 0 a _ rfl rfl).inv_d
  have h2:=(hv 1 b _ rfl rfl).inv_d
  cases h1
  cases h2
  exact⟨_,Lib.run_indexByteString _ _ _,.d _ _ (.int _ _)⟩
section
variable {n:Nat} {all:Array Oper} {draw:Bool} {rest:List Oper} {KK:Env→Sto→Prop} {env:Env} {σ:Sto} {f:FuncId} {as caps:List AV} {v:AV} {dst:Option Tmp} {g:Bool}
theorem q8y (h:qba P Gl f (as++caps) v) (h2:qas P Gl n all draw rest (putE env dst v) σ KK):qgj P Gl n all draw dst rest (.fn f caps) as env σ KK:=
 Qnq (fun s=>h s) h2
theorem q8w (h:g=true→qba P Gl f (as++caps) v) (h2:qas P Gl n all draw rest (putE env dst (.iff g v)) σ KK):qvq P Gl n all draw dst rest g (.fn f caps) as env σ KK:=
 Qnp (fun hg s=>h hg s) h2
theorem qad (h:qba P Gl f as v) (h2:qas P Gl n all draw rest (putE env dst v) σ KK):qgj P Gl n all draw dst rest (.fn f []) as env σ KK:=
 q8y (by rwa [List.append_nil]) h2
theorem qay (h:g=true→qba P Gl f as v) (h2:qas P Gl n all draw rest (putE env dst (.iff g v)) σ KK):qvq P Gl n all draw dst rest g (.fn f []) as env σ KK:=
 q8w (fun hg=>by rw[List.append_nil];exact h hg) h2
end
theorem qcd {α:Type} [Inhabited α] {l:List α} {k:Nat} (h:k<l.length):l.getD k default∈l:=by
 have:l.getD k default=l[k]:=by simp[h]
 rw[this];exact List.getElem_mem h
theorem qh3 {α:Type} [Inhabited α] {l:List α} {j k:Nat} (h:j<k) (hl:j<l.length):l.getD j default∈l.take k:=by
 refine List.mem_of_getElem? (i:=j) ?_
 rw[List.getElem?_take_of_lt h,List.getElem?_eq_getElem hl,List.getD_eq_getElem?_getD,List.getElem?_eq_getElem hl];rfl
theorem qa0 {α:Type} [Inhabited α] (l:List α) (k:Nat) (h:k<l.length):l.take (k+1)=l.take k++[l.getD k default]:=by
 rw[List.take_add_one,List.getElem?_eq_getElem h,List.getD_eq_getElem?_getD,List.getElem?_eq_getElem h];rfl
theorem qdc {α:Type} [Inhabited α] (p:α→Bool) (l:List α) (k:Nat) (h:k<l.length):(l.take (k+1)).all p=((l.take k).all p&&p (l.getD k default)):=by
 rw[qa0 l k h,List.all_append];simp only[List.all_cons,List.all_nil,Bool.and_true]
theorem qqs {α:Type} [Inhabited α] (p:α→Bool) (l:List α) (k:Nat) (h:k<l.length) (hp:p (l.getD k default)=false):l.all p=false:=by
 rw[List.all_eq_false]
 exact⟨l[k],List.getElem_mem h,by simpa[h] using hp⟩
theorem qca {α:Type} [Inhabited α] (p:α→Bool) (l:List α) (k:Nat) (h:k<l.length):(l.take (k+1)).any p=((l.take k).any p||p (l.getD k default)):=by
 rw[qa0 l k h,List.any_append];simp only[List.any_cons,List.any_nil,Bool.or_false]
theorem Qc7 {α:Type} [Inhabited α] (p:α→Bool) (l:List α) (k:Nat) (h:k<l.length) (hp:p (l.getD k default)=true):l.any p=true:=by
 rw[List.any_eq_true]
 exact⟨l[k],List.getElem_mem h,by simpa[h] using hp⟩
theorem q6s (l:List UInt8):(ByteArray.mk l.toArray).data.toList=l:=rfl
theorem qgz (n:Nat):(n:Int).toNat=n:=rfl
theorem qap {x:D} {σ:Sto}:qcz 0 (.d x) σ (.d x) []:=qai [] [] rfl List.nodup_nil rfl rfl
theorem qxa {x y:D} {σ:Sto}:qcz 0 (.tup [.d x,.d y]) σ (.tup [.d x,.d y]) []:=qai [] [] rfl List.nodup_nil rfl rfl
theorem qcz.trans {m:Nat} {r1 r2 r3:AV} {s1 s2 s3:Sto} (h:qcz m r1 s1 r2 s2) (k:qcz m r2 s2 r3 s3):qcz m r1 s1 r3 s3:=fun w I μ v h1 h2 h3=>by
 obtain⟨I1,μ1,a1,a2,a3⟩:=h w I μ v h1 h2 h3
 obtain⟨I2,μ2,b1,b2,b3⟩:=k w I1 μ1 v a1 a2 a3.len
 exact⟨I2,μ2,b1,b2,a3.trans b3⟩
theorem qgm.trans {n m:Nat} {e1 e2 e3:Env} {s1 s2 s3:Sto} (h:qgm n m e1 s1 e2 s2) (k:qgm n m e2 s2 e3 s3):qgm n m e1 s1 e3 s3:=fun w I μ a h1 h2 h3=>by
 obtain⟨I1,μ1,a1,a2,a3⟩:=h w I μ a h1 h2 h3
 obtain⟨I2,μ2,b1,b2,b3⟩:=k w I1 μ1 a a1 a2 a3.len
 exact⟨I2,μ2,b1,b2,a3.trans b3⟩
theorem qfd {m:Nat} {σ:Sto} (es:Nat) (hm:m≤σ.length):qcz m .nils σ (.osl σ.length 0 0) (σ++[.arr es []]):=fun w I μ v h1 h2 h3=>by
 obtain⟨μ',a1,a2⟩:=h1.addNone es
 cases h2
 exact⟨I,μ',a1,.osl _ _ 0 0 (by simp) (.inl ⟨rfl,none,rfl⟩),a2.mono hm⟩
theorem qcw {n m:Nat} {σ:Sto} {env:Env} (t es:Nat) (h:qem env t=.nils):qgm n m env σ ((t,.osl σ.length 0 0)::env) (σ++[.arr es []]):=fun w I μ a h1 h2 h3=>by
 obtain⟨μ',a1,a2⟩:=h1.addNone es
 refine⟨I,μ',a1,⟨h2.defers,h2.size,fun t'=>?_⟩,a2.mono h3⟩
 have h4:=h2.slot t'
 simp only[qem]
 by_cases e:t=t'
 ·rw[if_pos e]
  subst e
  rw[h] at h4
  generalize a.tmps.getD t Go.undef=v at h4
  cases h4
  exact .osl _ _ 0 0 (by simp) (.inl ⟨rfl,none,rfl⟩)
 ·rw[if_neg e]
  exact h4.keep a2
theorem qc6 {m:Nat} {σ:Sto} {u:AV} (hd:u.isD σ=true):qcz m u σ (.d (u.toD σ)) (freezeL σ u.refs):=fun w I μ v h1 h2 h3=>by
 obtain⟨I',a1,a2,a3,_⟩:=q63 h1 h2 hd
 exact⟨I',μ,a1,.d _ _ a3,a2.mono h3⟩
theorem Qq4 {σ:Sto} {u:AV} (hd:u.isD σ=true):qcz 0 u σ (.d (u.toD σ)) []:=(qc6 hd).trans qap
theorem qc7 {σ:Sto} {u:AV} {x:D} (hd:u.isD σ=true) (hx:u.toD σ=x):qcz 0 u σ (.d x) []:=by subst hx;exact Qq4 hd
theorem Qoi (σ:Sto) (t1 t2:TypeId) (s x:AV):Qs3 P σ t1 t2 s x=(match qcc P t1 with
 | some e=>match tsz P e,qbn P e,qbs P e with
  | some es,some by_,some z=>0<es∧z.cells.size=es∧(qcc P t2).isSome=true∧Qjw σ es s∧qrx σ es x∧(s.len+(x.elems σ).length)*by_≤140737488355328∧s.len+(x.elems σ).length≤4611686018427387904
  | _,_,_=>False
 | none=>False):=by unfold Qs3;rfl
theorem qrq (i o k es:Nat) (σ:Sto):Qjw σ es (.osl i o k)=((qae σ i).isOwnArr=true∧(qae σ i).es=es):=rfl
theorem qon (es:Nat) (σ:Sto):Qjw σ es .nils=True:=rfl
theorem qrn (i o k es:Nat) (σ:Sto):qrx σ es (.osl i o k)=((qae σ i).isArr=true∧(qae σ i).es=es):=rfl
theorem qol (es:Nat) (σ:Sto):qrx σ es .nils=True:=rfl
theorem qwt (xs:List D) (es:Nat) (σ:Sto):qrx σ es (.d (.sl xs))=∀x∈xs,x.cells.length=es:=rfl
theorem Qta (s x:AV) (σ:Sto):apV σ s x=.osl σ.length 0 (s.len+(x.elems σ).length):=rfl
theorem Qtb (s x:AV) (σ:Sto) (t:TypeId):apS P σ t s x=qg4 σ s++[.arr (qqr P t) (s.elems σ++x.elems σ)]:=rfl
theorem qrp (i o k:Nat) (σ:Sto):qg4 σ (.osl i o k)=σ.set i .dead:=rfl
theorem qom (σ:Sto):qg4 σ .nils=σ:=rfl
theorem q2u (x:D) (σ:Sto):qg4 σ (.d x)=σ:=rfl
def qa5 (f:Nat→Int):Nat→Int
 | 0=>0
 | k+1=>if qa5 f k=0 then f k else qa5 f k
theorem qa4 {f:Nat→Int} {k:Nat} (h:qa5 f k=0) (he:f k=0):qa5 f (k+1)=0:=by simp[qa5,h,he]
theorem qbu {f:Nat→Int} {k:Nat} (h:qa5 f k=0) (he:f k≠0):∀{n:Nat},k<n→qa5 f n=f k:=by
 intro n hn
 induction n with
 | zero=>omega
 | succ n ih=>
  by_cases e:k=n
  ·subst e;simp[qa5,h]
  ·rw[qa5,ih (by omega),if_neg he]
theorem qf2 {f:Nat→Int} {n:Nat} (h:qa5 f n=0):∀k,k<n→f k=0:=by
 induction n with
 | zero=>intro k hk;omega
 | succ n ih=>
  rw[qa5] at h
  by_cases e:qa5 f n=0
  ·rw[if_pos e] at h
   intro k hk
   by_cases e2:k=n
   ·subst e2;exact h
   ·exact ih e k (by omega)
  ·rw[if_neg e] at h;exact absurd h e
theorem q6h {f:Nat→Int} {n:Nat} (h:∀k,k<n→f k=0):qa5 f n=0:=by
 induction n with
 | zero=>rfl
 | succ n ih=>exact qa4 (ih fun k hk=>h k (by omega)) (h n (by omega))
theorem Qwy (a b:Bool):(a=true→b=true→(a&&b)=true)=True:=by cases a<;>cases b<;>simp
theorem Qwx (a:Bool):(a=false→(!a)=true)=True:=by cases a<;>simp
theorem Qww (a:Bool):((!a)=true→(!a)=true)=True:=by cases a<;>simp
theorem Qwv (a b:Bool):(a=true→(!b)=true→(a&&!b)=true)=True:=by cases a<;>cases b<;>simp
theorem Qwu (a b:Bool):(a=true→b=false→(a&&!b)=true)=True:=by cases a<;>cases b<;>simp
theorem Qfb (l:List UInt8):(AV.d (.str l)).strOf=l:=rfl
theorem q9n (l:List UInt8):(AV.d (.str l)).isStrv=true:=rfl
theorem Qog (a b:D) (r s:List D):qhs (a::r) (b::s)=(a.beq1 b&&qhs r s):=rfl
theorem Qfg:qhs [] []=true:=rfl
theorem Qfi (k k':IntKind) (a b:Int):(D.int k a).beq1 (.int k' b)=(a==b):=rfl
theorem Qfj (a b:Bool):(D.bool a).beq1 (.bool b)=(a==b):=rfl
theorem Qfh (a b:List UInt8):(D.str a).beq1 (.str b)=(a==b):=rfl
theorem Qof (c:Nat) (cs:List Nat) (a b:D) (r s:List D):qke (c::cs) (a::r) (b::s)=(a.cmp1 c b&&qke cs r s):=rfl
theorem Qfc:qke [] [] []=true:=rfl
theorem Qfe (k k':IntKind) (a b:Int):(D.int k a).cmp1 0 (.int k' b)=decide (k=k'):=rfl
theorem Qff (a b:Bool):(D.bool a).cmp1 1 (.bool b)=true:=rfl
theorem Qfd (a b:List UInt8):(D.str a).cmp1 2 (.str b)=true:=rfl
theorem q2p (lo hi:Int) (l:List UInt8):slV lo hi (.d (.str l))=.d (.str ((l.take hi.toNat).drop lo.toNat)):=rfl
theorem q9m (lo hi:Int) (l:List D):slV lo hi (.d (.sl l))=.d (.sl ((l.take hi.toNat).drop lo.toNat)):=rfl
theorem q2q (lo hi:Int) (i o k:Nat):slV lo hi (.osl i o k)=.osl i (o+lo.toNat) (hi.toNat-lo.toNat):=rfl
theorem qwu (lo hi:Int):slV lo hi .nils=.nils:=rfl
theorem qwv (t:TypeId) (σ:Sto) (lo hi:Int) (l:List UInt8):Qdj P t σ lo hi (.d (.str l))=(Qfs P t=true∧0≤lo∧lo≤hi∧hi≤l.length):=rfl
theorem q2r (t:TypeId) (σ:Sto) (lo hi:Int) (xs:List D):Qdj P t σ lo hi (.d (.sl xs))=(((qkg P t).isSome=true∧(qcc P t).isSome=true)∧0≤lo∧lo≤hi∧hi≤xs.length∧(match qkg P t with|some (_,es)=>∀x∈xs,x.cells.length=es|none=>False)):=rfl
theorem qww (t:TypeId) (σ:Sto) (lo hi:Int) (i o k:Nat):Qdj P t σ lo hi (.osl i o k)=((qcc P t).isSome=true∧0≤lo∧lo≤hi∧hi≤k∧(qae σ i).isArr=true∧qkg P t=some (none,(qae σ i).es)):=rfl
theorem qro (t:TypeId) (σ:Sto) (lo hi:Int):Qdj P t σ lo hi .nils=((qcc P t).isSome=true∧(qkg P t).isSome=true∧lo=0∧hi=0):=rfl
theorem q9o {α:Type} (f:α→D) (l:List α) (p:D→Prop):(∀x,x∈l.map f→p x)=∀y,y∈l→p (f y):=by simp
theorem q2t {n:Nat} {all:Array Oper} {draw:Bool} {env:Env} {σ:Sto} {K:Env→Sto→Prop} (o:Oper) (a b:List Oper):qas P Gl n all draw (List.append (o::a) b) env σ K=qas P Gl n all draw (o::List.append a b) env σ K:=rfl
theorem q2s {n:Nat} {all:Array Oper} {draw:Bool} {env:Env} {σ:Sto} {K:Env→Sto→Prop} (b:List Oper):qas P Gl n all draw (List.append [] b) env σ K=qas P Gl n all draw b env σ K:=rfl
theorem Qs9 {α:Type} (a:α) (l m:List α):List.append (a::l) m=a::List.append l m:=rfl
theorem Qoh {α:Type} (m:List α):List.append [] m=m:=rfl
theorem Qs8 {env:Env} {dst:Option Tmp} {op:Op} {ty:TypeId} {pos:String} {af:Array Edge} {g:Option (Nat×Bool)} (l m:List Oper):qbb ((List.append (⟨dst,op,ty,pos,af,g⟩::l) m).toArray) env 0=(match dst with|some d=>qem env d|none=>.undef):=q7e (List.append l m)
theorem Qs6 {env:Env} (o:Oper) (l m:List Oper) (j:Nat):qbb ((List.append (o::l) m).toArray) env (j+1)=qbb (List.append l m).toArray env j:=qja o (List.append l m) j
theorem Qs7 {env:Env} (m:List Oper) (j:Nat):qbb ((List.append [] m).toArray) env j=qbb m.toArray env j:=rfl
theorem Qoj:type_of% (aI @Qoi (aI @qrq (aI @qon (aI @qrn (aI @qol (aI @qwt (aI @Qta (aI @Qtb (aI @qrp (aI @qom (aI @q2u (aI @Qwy (aI @Qwx (aI @Qww (aI @Qwv (aI @Qwu (aI @Qfb (aI @q9n (aI @Qog (aI @Qfg (aI @Qfi (aI @Qfj (aI @Qfh (aI @Qof (aI @Qfc (aI @Qfe (aI @Qff (aI @Qfd (aI @q2p (aI @q9m (aI @q2q (aI @qwu (aI @qwv (aI @q2r (aI @qww (aI @qro (aI @q9o (aI @q2t (aI @q2s (aI @Qs9 (aI @Qoh (aI @Qs8 (aI @Qs6 (@Qs7)))))))))))))))))))))))))))))))))))))))))))):=aI @Qoi (aI @qrq (aI @qon (aI @qrn (aI @qol (aI @qwt (aI @Qta (aI @Qtb (aI @qrp (aI @qom (aI @q2u (aI @Qwy (aI @Qwx (aI @Qww (aI @Qwv (aI @Qwu (aI @Qfb (aI @q9n (aI @Qog (aI @Qfg (aI @Qfi (aI @Qfj (aI @Qfh (aI @Qof (aI @Qfc (aI @Qfe (aI @Qff (aI @Qfd (aI @q2p (aI @q9m (aI @q2q (aI @qwu (aI @qwv (aI @q2r (aI @qww (aI @qro (aI @q9o (aI @q2t (aI @q2s (aI @Qs9 (aI @Qoh (aI @Qs8 (aI @Qs6 (@Qs7)))))))))))))))))))))))))))))))))))))))))))
end Go.AM


namespace Go.AM
def El (es:Nat) (x:D):Prop:=x.isAgg=true∧x.cells.length=es
structure Arr (Dm:D→Prop) (xs ys:List D) (π:Nat→Nat):Prop where
 len:ys.length=xs.length
 el:∀y∈ys,Dm y
 get:∀i,i<xs.length→ys.getD i default=xs.getD (π i) default
theorem El.at {Dm:D→Prop} {es:Nat} (hD:∀x,Dm x→El es x) {ys:List D} (h:∀y∈ys,Dm y) {i:Nat} (hi:i<ys.length):(ys.getD i default).isAgg=true∧(ys.getD i default).cells.length=es:=by
 have:ys.getD i default=ys[i]:=by simp[hi]
 rw[this];exact hD _ (h _ (List.getElem_mem hi))
theorem Arr.refl {Dm:D→Prop} {xs:List D} (h:∀y∈xs,Dm y):Arr Dm xs xs (fun i=>i):=⟨rfl,h,fun _ _=>rfl⟩
theorem Arr.congr {Dm:D→Prop} {xs ys:List D} {π ρ:Nat→Nat} (h:Arr Dm xs ys π) (e:∀i,i<xs.length→π i=ρ i):Arr Dm xs ys ρ:=
 ⟨h.len,h.el,fun i hi=>by rw[←e i hi];exact h.get i hi⟩
theorem Arr.trans {Dm:D→Prop} {xs ys zs:List D} {π ρ:Nat→Nat} (h:Arr Dm xs ys π) (k:Arr Dm ys zs ρ) (hρ:∀i,i<xs.length→ρ i<xs.length):Arr Dm xs zs (fun i=>π (ρ i)):=
 ⟨k.len.trans h.len,k.el,fun i hi=>by rw[k.get i (by rw[h.len];exact hi),h.get _ (hρ i hi)]⟩
theorem Arr.at {Dm:D→Prop} {xs ys:List D} {π:Nat→Nat} (h:Arr Dm xs ys π) {i:Nat} (hi:i<xs.length):Dm (ys.getD i default):=by
 have hl:=h.len
 have:ys.getD i default=ys[i]'(by omega):=by simp[show i<ys.length by omega]
 rw[this];exact h.el _ (List.getElem_mem _)
theorem Arr.swap {Dm:D→Prop} {xs ys:List D} {π:Nat→Nat} (h:Arr Dm xs ys π) {i j:Nat} (hi:i<xs.length) (hj:j<xs.length) :
  Arr Dm xs ((ys.set i (ys.getD j default)).set j (ys.getD i default)) (fun p=>if p=j then π i else if p=i then π j else π p):=by
 have hl:=h.len
 have mem:∀k,k<xs.length→ys.getD k default∈ys:=fun k hk=>by
  have:ys.getD k default=ys[k]'(by omega):=by simp[show k<ys.length by omega]
  rw[this];exact List.getElem_mem _
 refine⟨by simp[hl],fun y hy=>?_,fun p hp=>?_⟩
 ·rcases List.mem_or_eq_of_mem_set hy with hy|rfl
  ·rcases List.mem_or_eq_of_mem_set hy with hy|rfl
   ·exact h.el y hy
   ·exact h.el _ (mem j hj)
  ·exact h.el _ (mem i hi)
 ·rw[List.getD_eq_getElem?_getD,List.getElem?_set]
  by_cases e1:j=p
  ·subst e1
   rw[if_pos rfl,if_pos (by simp[hl];exact hj),if_pos rfl]
   simp only[Option.getD_some]
   exact h.get i hi
  ·rw[if_neg e1,if_neg (fun e=>e1 e.symm),List.getElem?_set]
   by_cases e2:i=p
   ·subst e2
    rw[if_pos rfl,if_pos (by omega),if_pos rfl]
    simp only[Option.getD_some]
    exact h.get j hj
   ·rw[if_neg e2,if_neg (fun e=>e2 e.symm),←List.getD_eq_getElem?_getD]
    exact h.get p hp
def qkh (a b k i:Nat):Nat:=if a≤i∧i<a+k then b+(i-a) else if b≤i∧i<b+k then a+(i-b) else i
theorem Qde (a b k i:Nat) (h:a+(k+1)≤b∨b+(k+1)≤a):(if i=b+k then qkh a b k (a+k) else if i=a+k then qkh a b k (b+k) else qkh a b k i)=qkh a b (k+1) i:=by
 unfold qkh
 repeat' split
 all_goals omega
def qos (a m b i:Nat):Nat:=if i<a∨b≤i then i else if i<a+(b-m) then i+(m-a) else i-(b-m)
structure Mv (a b:Nat) (π ρ:Nat→Nat):Prop where
 out:∀p,p<a∨b≤p→ρ p=π p
 inn:∀p,a≤p→p<b→∃q,a≤q∧q<b∧ρ p=π q
theorem Mv.refl (a b:Nat) (π:Nat→Nat):Mv a b π π:=⟨fun _ _=>rfl,fun p h1 h2=>⟨p,h1,h2,rfl⟩⟩
theorem Mv.trans {a b:Nat} {π ρ τ:Nat→Nat} (h:Mv a b π ρ) (k:Mv a b ρ τ):Mv a b π τ:=
 ⟨fun p hp=>(k.out p hp).trans (h.out p hp),fun p h1 h2=>by
  obtain⟨q,q1,q2,q3⟩:=k.inn p h1 h2
  obtain⟨r,r1,r2,r3⟩:=h.inn q q1 q2
  exact⟨r,r1,r2,q3.trans r3⟩⟩
theorem Mv.mono {a b c d:Nat} {π ρ:Nat→Nat} (h:Mv a b π ρ) (h1:c≤a) (h2:b≤d):Mv c d π ρ:=
 ⟨fun p hp=>h.out p (by omega),fun p p1 p2=>by
  by_cases hp:a≤p∧p<b
  ·obtain⟨q,q1,q2,q3⟩:=h.inn p hp.1 hp.2;exact⟨q,by omega,by omega,q3⟩
  ·exact⟨p,p1,p2,h.out p (by omega)⟩⟩
theorem Mv.bound {a b N:Nat} {π ρ:Nat→Nat} (h:Mv a b π ρ) (hb:b≤N) (hπ:∀p,p<N→π p<N):∀p,p<N→ρ p<N:=fun p hp=>by
 by_cases hq:a≤p∧p<b
 ·obtain⟨q,_,q2,q3⟩:=h.inn p hq.1 hq.2
  rw[q3];exact hπ q (by omega)
 ·rw[h.out p (by omega)];exact hπ p hp
structure Swo (Dm:D→Prop) (lt:D→D→Bool):Prop where
 irr:∀x,Dm x→lt x x=false
 trans:∀x y z,Dm x→Dm y→Dm z→lt x y=true→lt y z=true→lt x z=true
 neg:∀x y z,Dm x→Dm y→Dm z→lt x y=false→lt y z=false→lt x z=false
def Lx (lt:D→D→Bool) (xs:List D) (i j:Nat):Prop:=lt (xs.getD i default) (xs.getD j default)=true∨(lt (xs.getD j default) (xs.getD i default)=false∧i<j)
section
variable {Dm:D→Prop} {lt:D→D→Bool} {xs:List D}
theorem Qjz (hx:∀y∈xs,Dm y) {i:Nat} (hi:i<xs.length):Dm (xs.getD i default):=(Arr.refl hx).at hi
theorem Lx.asymm (h:Swo Dm lt) (hx:∀y∈xs,Dm y) {i j:Nat} (hi:i<xs.length) (hj:j<xs.length) (h1:Lx lt xs i j) (h2:Lx lt xs j i):False:=by
 have di:=Qjz hx hi
 have dj:=Qjz hx hj
 rcases h1 with h1|⟨h1,l1⟩<;>rcases h2 with h2|⟨h2,l2⟩
 ·have:=h.trans _ _ _ di dj di h1 h2
  rw[h.irr _ di] at this;cases this
 ·rw[h1] at h2;cases h2
 ·rw[h1] at h2;cases h2
 ·omega
theorem Lx.trans (h:Swo Dm lt) (hx:∀y∈xs,Dm y) {i j k:Nat} (hi:i<xs.length) (hj:j<xs.length) (hk:k<xs.length) (h1:Lx lt xs i j) (h2:Lx lt xs j k):Lx lt xs i k:=by
 have di:=Qjz hx hi
 have dj:=Qjz hx hj
 have dk:=Qjz hx hk
 unfold Lx at *
 cases e1:lt (xs.getD i default) (xs.getD k default) with
 | true=>exact .inl rfl
 | false=>
  right
  rcases h1 with h1|⟨h1,l1⟩<;>rcases h2 with h2|⟨h2,l2⟩
  ·rw[h.trans _ _ _ di dj dk h1 h2] at e1;cases e1
  ·exfalso
   have:=h.neg _ _ _ di dk dj e1 h2
   rw[h1] at this;cases this
  ·exfalso
   have:=h.neg _ _ _ dj di dk h1 e1
   rw[h2] at this;cases this
  ·exact⟨h.neg _ _ _ dk dj di h2 h1,by omega⟩
theorem Lx.tag {i j:Nat} (hij:j<i):Lx lt xs i j↔lt (xs.getD i default) (xs.getD j default)=true:=by
 unfold Lx
 constructor
 ·rintro(h|⟨_,h⟩)
  ·exact h
  ·omega
 ·exact .inl
theorem Lx.tag' {i j:Nat} (hij:j<i):Lx lt xs j i↔lt (xs.getD i default) (xs.getD j default)=false∨lt (xs.getD j default) (xs.getD i default)=true:=by
 unfold Lx
 constructor
 ·rintro(h|⟨h,_⟩)
  ·exact .inr h
  ·exact .inl h
 ·rintro(h|h)
  ·exact .inr ⟨h,hij⟩
  ·exact .inl h
end
end Go.AM


namespace Go.AM
variable {Dm:D→Prop} {lt:D→D→Bool} {xs:List D} {π ρ κ:Nat→Nat} {a m b:Nat}
def qb2 (lt:D→D→Bool) (xs:List D) (a b:Nat) (π:Nat→Nat):Prop:=∀p q,a≤p→p<q→q<b→Lx lt xs (π p) (π q)
def Qvx (a b:Nat) (π:Nat→Nat):Prop:=∀p q,a≤p→p<q→q<b→π p<π q
def Qqr (a m b:Nat) (π:Nat→Nat):Prop:=∀p q,a≤p→p<m→m≤q→q<b→π p<π q
theorem qwf (hm:m=a+1) {i:Nat} (h1:m≤i) (h2:i≤b) (hS:qb2 lt xs m b π) (hL:∀q,m≤q→q<i→Lx lt xs (π q) (π a)) (hR:∀q,i≤q→q<b→Lx lt xs (π a) (π q))
  (k1:∀p,a≤p→p<i-1→κ p=π (p+1)) (k2:κ (i-1)=π a) (k3:∀p,p<a∨i≤p→κ p=π p):Mv a b π κ∧qb2 lt xs a b κ:=by
 refine⟨⟨fun p hp=>k3 p (by omega),fun p p1 p2=>?_⟩,fun p q h3 h4 h5=>?_⟩
 ·rcases Nat.lt_trichotomy p (i-1) with h|h|h
  ·exact⟨p+1,by omega,by omega,k1 p p1 h⟩
  ·exact⟨a,by omega,by omega,by rw[h,k2]⟩
  ·exact⟨p,p1,p2,k3 p (by omega)⟩
 ·rcases Nat.lt_trichotomy q (i-1) with h|h|h
  ·rw[k1 p h3 (by omega),k1 q (by omega) h];exact hS _ _ (by omega) (by omega) (by omega)
  ·rw[k1 p h3 (by omega),h,k2];exact hL _ (by omega) (by omega)
  ·rw[k3 q (by omega)]
   rcases Nat.lt_trichotomy p (i-1) with h'|h'|h'
   ·rw[k1 p h3 h'];exact hS _ _ (by omega) (by omega) (by omega)
   ·rw[h',k2];exact hR q (by omega) h5
   ·rw[k3 p (by omega)];exact hS _ _ (by omega) h4 h5
theorem qui (hm:b=m+1) {i:Nat} (h1:a≤i) (h2:i≤m) (hS:qb2 lt xs a m π) (hL:∀q,a≤q→q<i→Lx lt xs (π q) (π m)) (hR:∀q,i≤q→q<m→Lx lt xs (π m) (π q))
  (k1:∀p,i<p→p≤m→κ p=π (p-1)) (k2:κ i=π m) (k3:∀p,p<i∨m<p→κ p=π p):Mv a b π κ∧qb2 lt xs a b κ:=by
 refine⟨⟨fun p hp=>k3 p (by omega),fun p p1 p2=>?_⟩,fun p q h3 h4 h5=>?_⟩
 ·rcases Nat.lt_trichotomy p i with h|h|h
  ·exact⟨p,p1,p2,k3 p (by omega)⟩
  ·exact⟨m,by omega,by omega,by rw[h,k2]⟩
  ·exact⟨p-1,by omega,by omega,k1 p h (by omega)⟩
 ·rcases Nat.lt_trichotomy p i with h|h|h
  ·rw[k3 p (.inl h)]
   rcases Nat.lt_trichotomy q i with h'|h'|h'
   ·rw[k3 q (.inl h')];exact hS _ _ h3 h4 (by omega)
   ·rw[h',k2];exact hL p h3 h
   ·rw[k1 q h' (by omega)];exact hS _ _ h3 (by omega) (by omega)
  ·rw[h,k2,k1 q (by omega) (by omega)];exact hR _ (by omega) (by omega)
  ·rw[k1 p h (by omega),k1 q (by omega) (by omega)];exact hS _ _ (by omega) (by omega) (by omega)
theorem qzw {s e d:Nat} (h1:a≤s) (h2:s≤m) (h3:m≤e) (h4:e≤b) (hd:d=s+(e-m)) (hS1:qb2 lt xs a m π) (hS2:qb2 lt xs m b π) (hT:Qqr a m b π)
  (F1:∀x y,a≤x→x<s→e≤y→y<b→Lx lt xs (π x) (π y)) (F2:∀x y,m≤x→x<e→s≤y→y<m→Lx lt xs (π x) (π y))
  (hρ:∀p,a≤p→p<b→ρ p=π (qos s m e p)) (ho:∀p,p<a∨b≤p→ρ p=π p) :
  Mv a b π ρ∧qb2 lt xs a s ρ∧qb2 lt xs s d ρ∧qb2 lt xs d e ρ∧qb2 lt xs e b ρ∧Qqr a s d ρ∧Qqr d e b ρ∧(∀p q,a≤p→p<d→d≤q→q<b→Lx lt xs (ρ p) (ρ q)):=by
 have r1:∀p,a≤p→p<s→ρ p=π p:=fun p g1 g2=>by
  rw[hρ p g1 (by omega)];congr 1;unfold qos;rw[if_pos (by omega)]
 have r2:∀p,s≤p→p<d→ρ p=π (p+(m-s)):=fun p g1 g2=>by
  rw[hρ p (by omega) (by omega)];congr 1;unfold qos;rw[if_neg (by omega),if_pos (by omega)]
 have r3:∀p,d≤p→p<e→ρ p=π (p-(e-m)):=fun p g1 g2=>by
  rw[hρ p (by omega) (by omega)];congr 1;unfold qos;rw[if_neg (by omega),if_neg (by omega)]
 have r4:∀p,e≤p→p<b→ρ p=π p:=fun p g1 g2=>by
  rw[hρ p (by omega) (by omega)];congr 1;unfold qos;rw[if_pos (by omega)]
 refine⟨⟨ho,fun p g1 g2=>?_⟩,fun p q g1 g2 g3=>?_,fun p q g1 g2 g3=>?_,fun p q g1 g2 g3=>?_,fun p q g1 g2 g3=>?_,fun p q g1 g2 g3 g4=>?_,fun p q g1 g2 g3 g4=>?_,fun p q g1 g2 g3 g4=>?_⟩
 ·by_cases c1:p<s
  ·exact⟨p,g1,g2,r1 p g1 c1⟩
  ·by_cases c2:p<d
   ·exact⟨_,by omega,by omega,r2 p (by omega) c2⟩
   ·by_cases c3:p<e
    ·exact⟨_,by omega,by omega,r3 p (by omega) c3⟩
    ·exact⟨p,g1,g2,r4 p (by omega) g2⟩
 ·rw[r1 p g1 (by omega),r1 q (by omega) g3];exact hS1 _ _ g1 g2 (by omega)
 ·rw[r2 p g1 (by omega),r2 q (by omega) g3];exact hS2 _ _ (by omega) (by omega) (by omega)
 ·rw[r3 p g1 (by omega),r3 q (by omega) g3];exact hS1 _ _ (by omega) (by omega) (by omega)
 ·rw[r4 p g1 (by omega),r4 q (by omega) g3];exact hS2 _ _ (by omega) g2 g3
 ·rw[r1 p g1 g2,r2 q g3 g4];exact hT _ _ g1 (by omega) (by omega) (by omega)
 ·rw[r3 p g1 g2,r4 q g3 g4];exact hT _ _ (by omega) (by omega) (by omega) g4
 ·by_cases c1:p<s
  ·rw[r1 p g1 c1]
   by_cases c3:q<e
   ·rw[r3 q g3 c3];exact hS1 _ _ g1 (by omega) (by omega)
   ·rw[r4 q (by omega) g4];exact F1 _ _ g1 c1 (by omega) g4
  ·rw[r2 p (by omega) g2]
   by_cases c3:q<e
   ·rw[r3 q g3 c3];exact F2 _ _ (by omega) (by omega) (by omega) (by omega)
   ·rw[r4 q (by omega) g4];exact hS2 _ _ (by omega) (by omega) g4
theorem qcl {d:Nat} {κ1 κ2:Nat→Nat} (h1:a≤d) (h2:d≤b) (hM:Mv a b π ρ) (m1:Mv a d ρ κ1) (s1:qb2 lt xs a d κ1) (m2:Mv d b κ1 κ2) (s2:qb2 lt xs d b κ2)
  (hX:∀p q,a≤p→p<d→d≤q→q<b→Lx lt xs (ρ p) (ρ q)):Mv a b π κ2∧qb2 lt xs a b κ2:=by
 refine⟨(hM.trans (m1.mono (Nat.le_refl _) h2)).trans (m2.mono h1 (Nat.le_refl _)),fun p q g1 g2 g3=>?_⟩
 by_cases c1:q<d
 ·rw[m2.out p (by omega),m2.out q (by omega)];exact s1 p q g1 g2 c1
 ·by_cases c2:p<d
  ·rw[m2.out p (by omega)]
   obtain⟨p',p1,p2,p3⟩:=m1.inn p g1 c2
   obtain⟨q',q1,q2,q3⟩:=m2.inn q (by omega) g3
   rw[p3,q3,m1.out q' (by omega)]
   exact hX _ _ p1 p2 q1 q2
  ·exact s2 p q (by omega) g2 g3
theorem quj {p s s0 r0 e:Nat} (hw:Swo Dm lt) (hx:∀y∈xs,Dm y) (hπ:∀i,i<xs.length→π i<xs.length) (hb:b≤xs.length) (hS1:qb2 lt xs a m π) (hS2:qb2 lt xs m b π)
  (h1:a≤s0) (h2:s0≤s) (h3:s≤r0) (h4:r0≤m) (he:e=p+1-s) (hem:m≤e) (heb:e≤b) (hps:r0≤p+1)
  (hlo:s0=a∨e=b∨s0<s) (hhi:r0=m∨e=m∨s<r0)
  (hA:s0<s→Lx lt xs (π (s-1)) (π (p-(s-1)))) (hB:s<r0→Lx lt xs (π (p-s)) (π s)) (hlo2:s0=s→s0=a∨e=b) (hhi2:s=r0→r0=m∨e=m) :
  (∀x y,a≤x→x<s→e≤y→y<b→Lx lt xs (π x) (π y))∧(∀x y,m≤x→x<e→s≤y→y<m→Lx lt xs (π x) (π y)):=by
 constructor
 ·intro x y g1 g2 g3 g4
  rcases Nat.lt_or_ge s0 s with c|c
  ·have hh:=hA c
   have e1:p-(s-1)=e:=by omega
   rw[e1] at hh
   have t1:x=s-1∨Lx lt xs (π x) (π (s-1)):=by
    by_cases c':x=s-1
    ·exact .inl c'
    ·exact .inr (hS1 _ _ g1 (by omega) (by omega))
   have t2:Lx lt xs (π x) (π e):=by
    rcases t1 with t1|t1
    ·rw[t1];exact hh
    ·exact Lx.trans hw hx (hπ _ (by omega)) (hπ _ (by omega)) (hπ _ (by omega)) t1 hh
   by_cases c':y=e
   ·rw[c'];exact t2
   ·exact Lx.trans hw hx (hπ _ (by omega)) (hπ _ (by omega)) (hπ _ (by omega)) t2 (hS2 _ _ hem (by omega) g4)
  ·rcases hlo2 (by omega) with h|h<;>omega
 ·intro x y g1 g2 g3 g4
  rcases Nat.lt_or_ge s r0 with c|c
  ·have hh:=hB c
   have e1:p-s=e-1:=by omega
   rw[e1] at hh
   have t2:Lx lt xs (π x) (π s):=by
    by_cases c':x=e-1
    ·rw[c'];exact hh
    ·exact Lx.trans hw hx (hπ _ (by omega)) (hπ _ (by omega)) (hπ _ (by omega)) (hS2 _ _ g1 (by omega) (by omega)) hh
   by_cases c':y=s
   ·rw[c'];exact t2
   ·exact Lx.trans hw hx (hπ _ (by omega)) (hπ _ (by omega)) (hπ _ (by omega)) t2 (hS1 _ _ (by omega) (by omega) g4)
  ·rcases hhi2 (by omega) with h|h<;>omega
theorem q5m {c d h k:Nat} (hw:Swo Dm lt) (hx:∀y∈xs,Dm y) (hπ:∀i,i<xs.length→π i<xs.length) (hd:d≤xs.length) (hk:k<xs.length) (hS:qb2 lt xs c d π) (h1:c≤h) (h2:h<d) (hl:Lx lt xs (π h) k):∀q,c≤q→q<h+1→Lx lt xs (π q) k:=by
 intro q g1 g2
 by_cases e:q=h
 ·rw[e];exact hl
 ·exact Lx.trans hw hx (hπ _ (by omega)) (hπ _ (by omega)) hk (hS _ _ g1 (by omega) h2) hl
theorem Qhk {c d h k:Nat} (hw:Swo Dm lt) (hx:∀y∈xs,Dm y) (hπ:∀i,i<xs.length→π i<xs.length) (hd:d≤xs.length) (hk:k<xs.length) (hS:qb2 lt xs c d π) (h1:c≤h) (h2:h<d) (hl:Lx lt xs k (π h)):∀q,h≤q→q<d→Lx lt xs k (π q):=by
 intro q g1 g2
 by_cases e:q=h
 ·rw[e];exact hl
 ·exact Lx.trans hw hx hk (hπ _ (by omega)) (hπ _ (by omega)) hl (hS _ _ h1 (by omega) g2)
end Go.AM


namespace Go.AM
variable {Dm:D→Prop} {lt:D→D→Bool} {xs:List D} {π ρ κ:Nat→Nat}
def Cut (s p:Nat):Prop:=∃j,p=j*s
theorem Cut.zero (s:Nat):Cut s 0:=⟨0,by simp⟩
theorem Cut.next {s p:Nat} (h:Cut s p):Cut s (p+s):=by
 obtain⟨j,rfl⟩:=h
 exact⟨j+1,by rw[Nat.add_mul];omega⟩
theorem Cut.half {s p:Nat} (h:Cut (2*s) p):Cut s p:=by
 obtain⟨j,rfl⟩:=h
 exact⟨j*2,by rw[Nat.mul_assoc]⟩
theorem Cut.mid {s p:Nat} (h:Cut (2*s) p):Cut s (p+s):=h.half.next
theorem Cut.ge {s p q:Nat} (h:Cut s p) (k:Cut s q) (hl:p<q):p+s≤q:=by
 obtain⟨i,rfl⟩:=h
 obtain⟨j,rfl⟩:=k
 have h1:i<j:=by
  rcases Nat.lt_or_ge i j with h|h
  ·exact h
  ·have:=Nat.mul_le_mul_right s h;omega
 have h2:(i+1)*s≤j*s:=Nat.mul_le_mul_right s h1
 rw[Nat.add_mul] at h2
 omega
structure Blo (lt:D→D→Bool) (xs:List D) (c d:Nat) (ρ:Nat→Nat):Prop where
 inn:∀p,c≤p→p<d→c≤ρ p∧ρ p<d
 sort:qb2 lt xs c d ρ
def q6w (lt:D→D→Bool) (xs:List D) (s n lo hi:Nat) (ρ:Nat→Nat):Prop:=∀c,Cut s c→lo≤c→c<hi→Blo lt xs c (min (c+s) n) ρ
theorem Blo.out {a b c d:Nat} (h:Blo lt xs c d ρ) (hM:Mv a b ρ κ) (hd:d≤a∨b≤c):Blo lt xs c d κ:=
 ⟨fun p h1 h2=>by rw[hM.out p (by omega)];exact h.inn p h1 h2,fun p q h1 h2 h3=>by rw[hM.out p (by omega),hM.out q (by omega)];exact h.sort p q h1 h2 h3⟩
theorem Blo.mv {c d:Nat} (hi:∀p,c≤p→p<d→c≤ρ p∧ρ p<d) (hM:Mv c d ρ κ) (hS:qb2 lt xs c d κ):Blo lt xs c d κ:=
 ⟨fun p h1 h2=>by obtain⟨q,q1,q2,q3⟩:=hM.inn p h1 h2;rw[q3];exact hi q q1 q2,hS⟩
theorem q6u {s n a b:Nat} (hs:0<s) (ha:Cut s a) (hb:b=min (a+s) n) (hB:q6w lt xs s n 0 a ρ) (hid:∀p,a≤p→ρ p=p) (hM:Mv a b ρ κ) (hS:qb2 lt xs a b κ) :
  q6w lt xs s n 0 (a+1) κ∧(∀p,b≤p→a≤p→κ p=p):=by
 refine⟨fun c hc h1 h2=>?_,fun p h1 h2=>by rw[hM.out p (by omega)];exact hid p h2⟩
 by_cases e:c=a
 ·subst e
  rw[←hb]
  exact Blo.mv (fun p h1 h2=>by rw[hid p h1];omega) hM hS
 ·have:=hc.ge ha (by omega)
  exact(hB c hc h1 (by omega)).out hM (by omega)
theorem qnn {s n a a':Nat} (ha:Cut s a) (h:q6w lt xs s n 0 (a+1) ρ) (he:a'≤a+s):q6w lt xs s n 0 a' ρ:=fun c hc h1 h2=>by
 rcases Nat.lt_trichotomy c a with h'|h'|h'
 ·exact h c hc h1 (by omega)
 ·exact h c hc h1 (by omega)
 ·have:=ha.ge hc h';omega
theorem quh {s n a b:Nat} (ha:Cut (2*s) a) (hs:0<s) (hm:a+s<b) (hb:b=min (a+2*s) n) (hB:q6w lt xs s n a n ρ) :
  qb2 lt xs a (a+s) ρ∧qb2 lt xs (a+s) b ρ∧Qqr a (a+s) b ρ∧(∀p,a≤p→p<b→a≤ρ p∧ρ p<b):=by
 have h1:=hB a ha.half (Nat.le_refl _) (by omega)
 have h2:=hB (a+s) ha.mid (by omega) (by omega)
 have e1:min (a+s) n=a+s:=by omega
 have e2:min (a+s+s) n=b:=by omega
 rw[e1] at h1
 rw[e2] at h2
 refine⟨h1.sort,h2.sort,fun p q p1 p2 q1 q2=>?_,fun p p1 p2=>?_⟩
 ·have:=h1.inn p p1 p2
  have:=h2.inn q q1 q2
  omega
 ·by_cases h:p<a+s
  ·have:=h1.inn p p1 h;omega
  ·have:=h2.inn p (by omega) p2;omega
theorem qzx {s n a b:Nat} (ha:Cut (2*s) a) (hs:0<s) (hm:a+s<b) (hb:b=min (a+2*s) n) (hB:q6w lt xs s n a n ρ) (hD:q6w lt xs (2*s) n 0 a ρ) (hM:Mv a b ρ κ) (hS:qb2 lt xs a b κ) :
  q6w lt xs s n (a+2*s) n κ∧q6w lt xs (2*s) n 0 (a+1) κ:=by
 obtain⟨_,_,_,hin⟩:=quh ha hs hm hb hB
 refine⟨fun c hc h1 h2=>(hB c hc (by omega) h2).out hM (.inr (by omega)),fun c hc h1 h2=>?_⟩
 by_cases e:c=a
 ·subst e
  rw[←hb]
  exact Blo.mv hin hM hS
 ·have:=hc.ge ha (by omega)
  exact(hD c hc h1 (by omega)).out hM (by omega)
theorem q7l {s n a:Nat} (ha:Cut (2*s) a) (hs:0<s) (hm:n≤a+s) (hB:q6w lt xs s n a n ρ) (hD:q6w lt xs (2*s) n 0 a ρ):q6w lt xs (2*s) n 0 n ρ:=fun c hc h1 h2=>by
 rcases Nat.lt_trichotomy c a with h'|h'|h'
 ·exact hD c hc h1 h'
 ·subst h'
  have:=hB c ha.half (Nat.le_refl _) h2
  rw[show min (c+2*s) n=min (c+s) n by omega];exact this
 ·have:=ha.ge hc h';omega
theorem Qkf {s n:Nat} (hn:n≤s) (h:q6w lt xs s n 0 n ρ):Blo lt xs 0 n ρ:=by
 by_cases e:n=0
 ·subst e;exact⟨fun p _ h=>by omega,fun p q _ _ h=>by omega⟩
 ·have:=h 0 (Cut.zero s) (Nat.le_refl _) (by omega)
  rwa [show min (0+s) n=n by omega] at this
theorem qjj {α:Type} {R:α→α→Prop}:∀{l1 l2:List α},(∀x∈l1,∀y∈l1,R x y→R y x→False)→l1.Pairwise R→l2.Pairwise R→(∀a,a∈l1↔a∈l2)→l1=l2
 | [],[],_,_,_,_=>rfl
 | [],b::l2,_,_,_,h=>by have:=(h b).2 List.mem_cons_self;cases this
 | a::l1,[],_,_,_,h=>by have:=(h a).1 List.mem_cons_self;cases this
 | a::l1,b::l2,hA,h1,h2,h=>by
  rw[List.pairwise_cons] at h1 h2
  have hb:b∈a::l1:=(h b).2 List.mem_cons_self
  have e:a=b:=by
   apply Classical.byContradiction
   intro hne
   have m1:b∈l1:=by
    rcases List.mem_cons.1 hb with e|h'
    ·exact absurd e.symm hne
    ·exact h'
   have m2:a∈l2:=by
    rcases List.mem_cons.1 ((h a).1 List.mem_cons_self) with e|h'
    ·exact absurd e hne
    ·exact h'
   exact hA a List.mem_cons_self b hb (h1.1 b m1) (h2.1 a m2)
  subst e
  congr 1
  refine qjj (fun x hx y hy=>hA x (List.mem_cons_of_mem _ hx) y (List.mem_cons_of_mem _ hy)) h1.2 h2.2 fun x=>⟨fun hx=>?_,fun hx=>?_⟩
  ·rcases List.mem_cons.1 ((h x).1 (List.mem_cons_of_mem _ hx)) with e|h'
   ·subst e;exact(hA x List.mem_cons_self x List.mem_cons_self (h1.1 x hx) (h1.1 x hx)).elim
   ·exact h'
  ·rcases List.mem_cons.1 ((h x).2 (List.mem_cons_of_mem _ hx)) with e|h'
   ·subst e;exact(hA x List.mem_cons_self x List.mem_cons_self (h2.1 x hx) (h2.1 x hx)).elim
   ·exact h'
theorem Qb3:∀(n:Nat) (l:List Nat),l.Nodup→(∀x∈l,x<n)→l.length≤n
 | 0,l,_,h=>by
  cases l with
  | nil=>exact Nat.le_refl _
  | cons a l=>have:=h a List.mem_cons_self;omega
 | n+1,l,hn,h=>by
  have h1:=Qb3 n (l.erase n) (hn.erase n) fun x hx=>by
   have hm:=List.mem_of_mem_erase hx
   have:=h x hm
   have:x≠n:=fun e=>by
    subst e
    exact(List.Nodup.not_mem_erase hn) hx
   omega
  have:=List.length_erase_le (a:=n) (l:=l)
  by_cases hm:n∈l
  ·rw[List.length_erase_of_mem hm] at h1;omega
  ·rw[List.erase_of_not_mem hm] at h1;omega
theorem Qhj {n:Nat} {l:List Nat} (hn:l.Nodup) (h:∀x∈l,x<n) (hl:l.length=n):∀i,i<n→i∈l:=fun i hi=>by
 apply Classical.byContradiction
 intro hm
 have:=Qb3 n (i::l) (List.nodup_cons.2 ⟨hm,hn⟩) fun x hx=>by
  rcases List.mem_cons.1 hx with rfl|hx
  ·exact hi
  ·exact h x hx
 simp at this
 omega
def qim (n:Nat) (ρ:Nat→Nat):List Nat:=(List.range n).map ρ
theorem qm7 {n:Nat} (h:qb2 lt xs 0 n ρ):(qim n ρ).Pairwise (Lx lt xs):=by
 unfold qim
 rw[List.pairwise_iff_getElem]
 intro i j hi hj hij
 simp only[List.length_map,List.length_range] at hi hj
 simp only[List.getElem_map,List.getElem_range]
 exact h i j (Nat.zero_le _) hij hj
theorem q42 {n:Nat} (hw:Swo Dm lt) (hx:∀y∈xs,Dm y) (hb:Blo lt xs 0 n ρ) (hn:n≤xs.length):(qim n ρ).Nodup:=by
 refine(qm7 hb.sort).imp_of_mem (S:=(·≠·)) fun {a b} ha hb' hL e=>?_
 subst e
 unfold qim at ha
 obtain⟨i,hi,rfl⟩:=List.mem_map.1 ha
 have:=hb.inn i (Nat.zero_le _) (by simpa using hi)
 exact Lx.asymm hw hx (by omega) (by omega) hL hL
theorem qn7 {n:Nat} (hw:Swo Dm lt) (hx:∀y∈xs,Dm y) (hb:Blo lt xs 0 n ρ) (hn:n≤xs.length) (i:Nat):i∈qim n ρ↔i<n:=by
 have hlt:∀x∈qim n ρ,x<n:=fun x hx=>by
  unfold qim at hx
  obtain⟨i,hi,rfl⟩:=List.mem_map.1 hx
  exact(hb.inn i (Nat.zero_le _) (by simpa using hi)).2
 exact⟨hlt i,Qhj (q42 hw hx hb hn) hlt (by simp[qim]) i⟩
theorem q04 {n:Nat} (hw:Swo Dm lt) (hx:∀y∈xs,Dm y) (hb:Blo lt xs 0 n ρ) (hn:n≤xs.length) {l:List Nat} (h1:l.Pairwise (Lx lt xs)) (h2:∀i,i∈l↔i<n):qim n ρ=l:=
 qjj (fun i hi j hj a b=>Lx.asymm hw hx (by have:=(qn7 hw hx hb hn i).1 hi;omega) (by have:=(qn7 hw hx hb hn j).1 hj;omega) a b) (qm7 hb.sort) h1 fun a=>by rw[qn7 hw hx hb hn,h2]
end Go.AM


namespace Go.AM
section
variable {α:Type} [Inhabited α]
def putAt (lt:α→α→Bool) (l:List α) (b:α):Nat→Nat
 | 0=>0
 | k+1=>if lt b (l.getD k default)=true then putAt lt l b k else k+1
def q2j (lt:α→α→Bool) (l:List α) (b:α):List α:=l.take (putAt lt l b l.length)++b::l.drop (putAt lt l b l.length)
def qfv (lt:α→α→Bool) (l:List α):List α:=l.foldl (q2j lt) []
theorem q02 (lt:α→α→Bool) (l:List α) (b:α):∀k,putAt lt l b k≤k
 | 0=>Nat.le_refl _
 | k+1=>by
  have:=q02 lt l b k
  unfold putAt;split<;>omega
theorem Qbx {lt:α→α→Bool} {l:List α} {b:α}:∀{k j:Nat},putAt lt l b k≤j→j<k→lt b (l.getD j default)=true
 | 0,j,_,h=>by omega
 | k+1,j,h1,h2=>by
  unfold putAt at h1
  split at h1
  ·rename_i h
   by_cases e:j=k
   ·subst e;exact h
   ·exact Qbx h1 (by omega)
  ·omega
theorem Qbw {lt:α→α→Bool} {l:List α} {b:α}:∀{k:Nat},0<putAt lt l b k→lt b (l.getD (putAt lt l b k-1) default)=false
 | 0,h=>by simp[putAt] at h
 | k+1,h=>by
  unfold putAt at h ⊢
  split at h
  ·rename_i h'
   rw[if_pos h'];exact Qbw h
  ·rename_i h'
   rw[if_neg h'];simpa using h'
theorem qt8 (lt:α→α→Bool) (l:List α) (b:α):(q2j lt l b).length=l.length+1:=by
 have:=q02 lt l b l.length
 simp[q2j];omega
theorem Qlq {lt:α→α→Bool} {l:List α} {b x:α}:x∈q2j lt l b↔x∈l∨x=b:=by
 unfold q2j
 rw[List.mem_append,List.mem_cons]
 have:x∈l↔x∈l.take (putAt lt l b l.length)∨x∈l.drop (putAt lt l b l.length):=by
  rw[←List.mem_append,List.take_append_drop]
 rw[this]
 constructor
 ·rintro(h|h|h)<;>simp[h]
 ·rintro((h|h)|h)<;>simp[h]
theorem qfo (lt:α→α→Bool) (l:List α):(qfv lt l).length=l.length:=by
 have gen:∀(l a:List α),(l.foldl (q2j lt) a).length=a.length+l.length:=by
  intro l
  induction l with
  | nil=>intro a;rfl
  | cons x l ih=>intro a;rw[List.foldl_cons,ih,qt8,List.length_cons];omega
 have:=gen l []
 unfold qfv
 simpa using this
theorem qw5 (lt:α→α→Bool) (l:List α) (b:α):qfv lt (l++[b])=q2j lt (qfv lt l) b:=by simp[qfv]
end
section
variable {α β:Type} [Inhabited α] [Inhabited β] {g:α→β} {lt:β→β→Bool}
theorem q40 {l:List α} {b:α}:∀{k:Nat},k≤l.length→putAt lt (l.map g) (g b) k=putAt (fun x y=>lt (g x) (g y)) l b k
 | 0,_=>rfl
 | k+1,h=>by
  have e:(l.map g).getD k default=g (l.getD k default):=by simp[show k<l.length by omega]
  unfold putAt
  rw[e,q40 (by omega)]
theorem Qlr {l:List α} {b:α}:q2j lt (l.map g) (g b)=(q2j (fun x y=>lt (g x) (g y)) l b).map g:=by
 unfold q2j
 rw[List.length_map,q40 (Nat.le_refl _),List.map_append,List.map_cons,List.map_take,List.map_drop]
theorem q23 {l:List α}:qfv lt (l.map g)=(qfv (fun x y=>lt (g x) (g y)) l).map g:=by
 have gen:∀(l a:List α),(l.map g).foldl (q2j lt) (a.map g)=(l.foldl (q2j fun x y=>lt (g x) (g y)) a).map g:=by
  intro l
  induction l with
  | nil=>intro a;rfl
  | cons x l ih=>intro a;rw[List.map_cons,List.foldl_cons,List.foldl_cons,Qlr,ih]
 exact gen l []
end
variable {Dm:D→Prop} {lt:D→D→Bool} {xs:List D}
theorem Quu (hw:Swo Dm lt) (hx:∀y∈xs,Dm y) {l:List Nat} {k:Nat} (hk:k<xs.length) (hl:l.Pairwise (Lx lt xs)) (hlt:∀i∈l,i<k) :
  (q2j (fun i j=>lt (xs.getD i default) (xs.getD j default)) l k).Pairwise (Lx lt xs):=by
 obtain⟨ltx,hltx⟩:∃ltx,ltx=fun i j:Nat=>lt (xs.getD i default) (xs.getD j default):=⟨_,rfl⟩
 rw[←hltx]
 unfold q2j
 obtain⟨p,hp⟩:∃p,p=putAt ltx l k l.length:=⟨_,rfl⟩
 have hle:p≤l.length:=by rw[hp];exact q02 _ _ _ _
 rw[←hp]
 have hsp:(l.take p++l.drop p).Pairwise (Lx lt xs):=by rw[List.take_append_drop];exact hl
 rw[List.pairwise_append] at hsp ⊢
 obtain⟨h1,h2,h3⟩:=hsp
 have hkd:∀j∈l.drop p,Lx lt xs k j:=fun j hj=>by
  obtain⟨i,hi⟩:=List.getElem?_of_mem hj
  rw[List.getElem?_drop] at hi
  have hil:p+i<l.length:=by
   rcases Nat.lt_or_ge (p+i) l.length with h|h
   ·exact h
   ·rw[List.getElem?_eq_none h] at hi;cases hi
  have:=Qbx (lt:=ltx) (l:=l) (b:=k) (k:=l.length) (j:=p+i) (by omega) hil
  rw[List.getD_eq_getElem?_getD,hi,hltx] at this
  exact .inl this
 have htk:∀j∈l.take p,Lx lt xs j k:=fun j hj=>by
  rcases Nat.eq_zero_or_pos p with hz|hpos
  ·rw[hz] at hj;simp at hj
  have hq:p-1<l.length:=by omega
  have hlo:=Qbw (lt:=ltx) (l:=l) (b:=k) (k:=l.length) (by omega)
  rw[←hp] at hlo
  have eq:l.getD (p-1) default=l[p-1]:=by simp[hq]
  rw[eq,hltx] at hlo
  have hlast:Lx lt xs l[p-1] k:=.inr ⟨hlo,hlt _ (List.getElem_mem hq)⟩
  obtain⟨i,hi⟩:=List.getElem?_of_mem hj
  have hip:i<p:=by
   rcases Nat.lt_or_ge i p with h|h
   ·exact h
   ·rw[List.getElem?_eq_none (by simp;omega)] at hi;cases hi
  rw[List.getElem?_take_of_lt hip,List.getElem?_eq_getElem (by omega)] at hi
  simp only[Option.some.injEq] at hi
  by_cases e:i=p-1
  ·subst e;rw[←hi];exact hlast
  ·have hL:Lx lt xs l[i] l[p-1]:=List.pairwise_iff_getElem.1 hl i (p-1) (by omega) hq (by omega)
   rw[←hi]
   have b1:=hlt _ (List.getElem_mem (l:=l) (n:=i) (by omega))
   have b2:=hlt _ (List.getElem_mem hq)
   exact Lx.trans hw hx (by omega) (by omega) hk hL hlast
 refine⟨h1,List.pairwise_cons.2 ⟨hkd,h2⟩,fun a ha b hb=>?_⟩
 rcases List.mem_cons.1 hb with rfl|hb
 ·exact htk a ha
 ·exact h3 a ha b hb
theorem q0b (hw:Swo Dm lt) (hx:∀y∈xs,Dm y):∀n,n≤xs.length→(qfv (fun i j=>lt (xs.getD i default) (xs.getD j default)) (List.range n)).Pairwise (Lx lt xs)∧∀i,i∈qfv (fun i j=>lt (xs.getD i default) (xs.getD j default)) (List.range n)↔i<n
 | 0,_=>⟨List.Pairwise.nil,fun i=>by simp[qfv]⟩
 | n+1,h=>by
  obtain⟨h1,h2⟩:=q0b hw hx n (by omega)
  rw[List.range_succ,qw5]
  refine⟨Quu hw hx (by omega) h1 fun i hi=>(h2 i).1 hi,fun i=>?_⟩
  rw[Qlq,h2];omega
theorem q0v (hw:Swo Dm lt) (hx:∀y∈xs,Dm y) {n:Nat} (hn:n≤xs.length) {zs:List D} {ρ:Nat→Nat} (hA:Arr Dm xs zs ρ) (hB:Blo lt xs 0 n ρ) (hid:∀p,n≤p→ρ p=p) :
  zs=qfv lt (xs.take n)++xs.drop n:=by
 obtain⟨h1,h2⟩:=q0b hw hx n hn
 have hp:=q04 hw hx hB hn h1 h2
 have e1:xs.take n=(List.range n).map fun i=>xs.getD i default:=by
  apply List.ext_getElem
  ·simp;omega
  ·intro i h3 h4
   simp only[List.length_take] at h3
   simp[show i<xs.length by omega]
 have e2:qfv lt (xs.take n)=zs.take n:=by
  rw[e1,q23,←hp]
  apply List.ext_getElem
  ·simp[qim,hA.len];omega
  ·intro i h3 h4
   simp only[qim,List.length_map,List.length_range] at h3
   have:=hA.get i (by omega)
   simp only[qim,List.getElem_map,List.getElem_range,List.getElem_take]
   rw[←this];simp[show i<zs.length by have:=hA.len;omega]
 have e3:xs.drop n=zs.drop n:=by
  apply List.ext_getElem
  ·simp[hA.len]
  ·intro i h3 h4
   simp only[List.length_drop] at h3
   have:=hA.get (n+i) (by omega)
   rw[hid _ (by omega)] at this
   have hl:=hA.len
   simp only[List.getElem_drop]
   simp[show n+i<xs.length by omega,show n+i<zs.length by omega] at this
   exact this.symm
 rw[e2,e3,List.take_append_drop]
end Go.AM


set_option linter.unusedVariables false
namespace Go.AM
variable {P:Program} {Gl:qbd}
def qlt (σ:Sto) (u:AV):AV:=if u.isD σ=true then .d (u.toD σ) else u
def qi4 (σ:Sto) (u:AV):List Nat:=if u.isD σ=true then u.refs else[]
theorem qal.data {f:FuncId} {args:List AV} {σ:Sto} {R:AV→Sto→Prop} (h:qal P Gl f (args.map (qlt σ)) (freezeL σ (args.flatMap (qi4 σ))) R):qal P Gl f args σ R:=by
 intro w I μ vals hR hG hl hv
 obtain⟨I',r1,r2,r3,r4,r5,r6,r7,r8⟩:=qes hR (args.flatMap (qi4 σ))
 have hm:=h w I' μ vals r1 (hG.keep r2) (by simpa using hl) fun i v u h1 h2=>by
  rw[List.getElem?_map] at h2
  cases ha:args[i]? with
  | none=>rw[ha] at h2;cases h2
  | some a=>
   rw[ha] at h2
   simp only[Option.map_some,Option.some.injEq] at h2
   subst h2
   have hk:=(hv i v a h1 ha).keep r2
   unfold qlt
   split
   ·rename_i hd
    refine .d _ _ ?_
    have:=qlz r1 hk (by rw[qng (fun id=>(r5 id).2)];exact hd) (fun id hid=>r4 id (List.mem_flatMap.2 ⟨a,List.mem_of_getElem? ha,by unfold qi4;rw[if_pos hd];exact hid⟩) (qn1 hd id hid))
    rwa [ql0 (fun id=>(r5 id).1)] at this
   ·exact hk
 refine hm.mono fun v w' ⟨r,σ',I'',μ',q1,q2,q3,q4⟩=>⟨r,σ',I'',μ',q1,r2.trans (q2.mono (by rw[r3];exact Nat.le_refl _)),q3,q4⟩
section
variable {n:Nat} {all:Array Oper} {rest:List Oper} {KK:Env→Sto→Prop} {env:Env} {σ:Sto} {f:FuncId} {as caps:List AV} {v:AV} {dst:Option Tmp} {g:Bool}
theorem Qex (h:qba P Gl f ((as++caps).map (qlt σ)) v) (h2:qas P Gl n all false rest (putE env dst v) (freezeL σ ((as++caps).flatMap (qi4 σ))) KK):qgj P Gl n all false dst rest (.fn f caps) as env σ KK:=
 qa1 (qal.data ((h _).mono fun r s ⟨e1,e2⟩=>by rw[e1,e2];exact h2))
theorem qvs (h:qal P Gl f ((as++caps).map (qlt σ)) (freezeL σ ((as++caps).flatMap (qi4 σ))) (fun r σ'=>qas P Gl n all false rest (putE env dst r) σ' KK)):qgj P Gl n all false dst rest (.fn f caps) as env σ KK:=
 qa1 (qal.data h)
end
theorem q0q {σ:Sto} {i:Nat} (hi:i<σ.length) (es:Nat) (xs:List D):qea [i] σ [.arr es xs]=σ.set i (.arr es xs):=by
 apply List.ext_getElem
 ·simp[qea]
 ·intro j h1 h2
  simp only[qea,List.length_cons,List.length_nil,Nat.sub_self,Nat.add_zero,List.length_map,List.length_range] at h1
  simp only[qea,List.getElem_map,List.getElem_range]
  rw[List.getElem_set]
  by_cases e:i=j
  ·subst e
   have:qch [i] i=some 0:=by simp[qch]
   rw[this,if_pos rfl];rfl
  ·have:qch [i] j=none:=by simp[qch,e]
   rw[this,if_neg e]
   have hj:j<σ.length:=by omega
   simp only[hj,if_true]
   unfold qae
   simp[hj]
theorem Qkc {n:Nat} {all:Array Oper} {rest:List Oper} {KK:Env→Sto→Prop} {env:Env} {σ:Sto} {f:FuncId} {as caps:List AV} {dst:Option Tmp} {Q:AV→Sto→Prop} {es:Nat} {xs:List D} (i:Nat) (hi:i<σ.length) (hb:qae σ i=.arr es xs)
  (h:qal P Gl f ((as++caps).map (qbk [i] σ)) [.arr es xs] Q)
  (h2:∀r s,Q r s→qas P Gl n all false rest (putE env dst (qgy (qb3 [i] σ.length) r)) (qea [i] σ s) KK):qgj P Gl n all false dst rest (.fn f caps) as env σ KK:=by
 have e:qdp [i] σ=[.arr es xs]:=by simp[qdp,hb,qbx]
 refine qa1 ((qal.under [i] (by simp) (by simpa using hi) (by rw[e];exact h)).mono fun r s hr=>?_)
 obtain⟨r0,s0,h3,rfl,rfl⟩:=hr
 exact h2 _ _ h3
theorem qws (i N o k:Nat):qgy (qb3 [i] N) (.osl 0 o k)=.osl i o k:=rfl
theorem q9l (b:Nat→Nat) (x:D):qgy b (.d x)=.d x:=rfl
theorem qrm (b:Nat→Nat):qgy b (.tup [])=.tup []:=rfl
theorem Qfa (σ:Sto) (t:TypeId) (len:Nat) (parts:List (Nat×AV)):Qez P σ t len parts=(match qcc P t with
 | some e=>match tsz P e,qa3 P e,qbs P e with
  | some es,some _,some z=>0<es∧z.cells.size=es∧0<len∧len*es≤16777216∧∀p∈parts,p.1<len∧p.2.isD σ=true∧(p.2.toD σ).cells.length=es
  | _,_,_=>False
 | none=>False):=by unfold Qez;rfl
theorem Qoc (σ:Sto) (t:TypeId) (len:Nat) (parts:List (Nat×AV)):Qs1 P σ t len parts=(match qcc P t with
 | some e=>match qa3 P e with
  | some x=>qef (List.replicate len x) (parts.map fun p=>(p.1,p.2.toD σ))
  | none=>[]
 | none=>[]):=by unfold Qs1;rfl
theorem Qod (σ:Sto) (t:TypeId) (len:Nat) (parts:List (Nat×AV)):Qsm P σ t len parts=freezeL σ (parts.flatMap fun p=>p.2.refs)++[.arr (qqr P t) (Qs1 P σ t len parts)]:=rfl
theorem Qs5 (xs:List D):qef xs []=xs:=rfl
theorem Qs4 (xs:List D) (i:Nat) (x:D) (r:List (Nat×D)):qef xs ((i,x)::r)=qef (xs.set i x) r:=rfl
theorem Qn7 (x:D):List.replicate 0 x=[]:=rfl
theorem Qn6 (n:Nat) (x:D):List.replicate (n+1) x=x::List.replicate n x:=rfl
theorem q9i {α:Type} (f:Nat→α):List.map f (List.range 2)=[f 0,f 1]:=rfl
theorem q9h {α:Type} (f:Nat→α):List.map f (List.range 3)=[f 0,f 1,f 2]:=rfl
theorem q9g {α:Type} (f:Nat→α):List.map f (List.range 4)=[f 0,f 1,f 2,f 3]:=rfl
theorem q9f {α:Type} (f:Nat→α):List.map f (List.range 5)=[f 0,f 1,f 2,f 3,f 4]:=rfl
theorem q9e {α:Type} (f:Nat→α):List.map f (List.range 6)=[f 0,f 1,f 2,f 3,f 4,f 5]:=rfl
theorem q9d {α:Type} (f:Nat→α):List.map f (List.range 7)=[f 0,f 1,f 2,f 3,f 4,f 5,f 6]:=rfl
theorem q9c {α:Type} (f:Nat→α):List.map f (List.range 8)=[f 0,f 1,f 2,f 3,f 4,f 5,f 6,f 7]:=rfl
theorem q9b {α:Type} (f:Nat→α):List.map f (List.range 9)=[f 0,f 1,f 2,f 3,f 4,f 5,f 6,f 7,f 8]:=rfl
theorem q2o {α:Type} (f:Nat→α):List.map f (List.range 10)=[f 0,f 1,f 2,f 3,f 4,f 5,f 6,f 7,f 8,f 9]:=rfl
theorem q2n {α:Type} (f:Nat→α):List.map f (List.range 11)=[f 0,f 1,f 2,f 3,f 4,f 5,f 6,f 7,f 8,f 9,f 10]:=rfl
theorem q2m {α:Type} (f:Nat→α):List.map f (List.range 12)=[f 0,f 1,f 2,f 3,f 4,f 5,f 6,f 7,f 8,f 9,f 10,f 11]:=rfl
theorem qaz {α β:Type} (f:α→β) (l:List α):(l.map f).take l.length=l.map f:=List.take_of_length_le (by simp)
theorem qia {n:Nat} {all:Array Oper} {rest:List Oper} {KK:Env→Sto→Prop} {env:Env} {σ σ':Sto} {f:FuncId} {as as' caps:List AV} {v:AV} {dst:Option Tmp} (h:qba P Gl f as' v) (e1:(as++caps).map (qlt σ)=as') (e2:freezeL σ ((as++caps).flatMap (qi4 σ))=σ')
  (h2:qas P Gl n all false rest (putE env dst v) σ' KK):qgj P Gl n all false dst rest (.fn f caps) as env σ KK:=Qex (by rw[e1];exact h) (by rw[e2];exact h2)
theorem qrl (x:D) (σ:Sto):qlt σ (.d x)=.d x:=rfl
theorem qiv (σ:Sto):qlt σ .nils=.d (.sl []):=rfl
theorem qle (i o k:Nat) (σ:Sto) (h:(qae σ i).isArr=true):qlt σ (.osl i o k)=.d (.sl (((qae σ i).xs.drop o).take k)):=by simp[qlt,AV.isD,q56,h,AV.toD,q9v]
theorem qwr (f:FuncId) (c:List AV) (σ:Sto):qlt σ (.fn f c)=.fn f c:=rfl
theorem q2l (x:D) (σ:Sto):qi4 σ (.d x)=[]:=rfl
theorem qok (σ:Sto):qi4 σ .nils=[]:=rfl
theorem qwp (f:FuncId) (c:List AV) (σ:Sto):qi4 σ (.fn f c)=[]:=rfl
theorem qrk (i o k:Nat) (σ:Sto) (h:(qae σ i).isArr=true):qi4 σ (.osl i o k)=[i]:=by simp[qi4,AV.isD,q56,h,AV.refs,q7b]
def Qe6 (g:Int→Option Nat):Key→Option AV
 | .i n=>(g n).map fun i=>.d (.int .i64 (i:Nat))
 | .s _=>none
def Qvy (g:Int→Option Nat) (n:Int) (v:Option Nat):Int→Option Nat:=fun m=>if m=n then v else g m
theorem Qob (g:Int→Option Nat) (n:Int):Qe6 g (.i n)=(g n).map fun i=>.d (.int .i64 (i:Nat)):=rfl
theorem Qn9 (g:Int→Option Nat) (n:Int) (i:Nat):qgs (Qe6 g) (.i n) (.d (.int .i64 i))=Qe6 (Qvy g n (some i)):=by
 funext k
 cases k with
 | i m=>
  unfold qgs Qvy Qe6
  by_cases e:m=n
  ·subst e;simp
  ·simp[e]
 | s l=>simp[qgs,Qe6]
theorem Qoa (g:Int→Option Nat) (n:Int):Qhm (Qe6 g) (.i n)=Qe6 (Qvy g n none):=by
 funext k
 cases k with
 | i m=>
  unfold Qhm Qvy Qe6
  by_cases e:m=n
  ·subst e;simp
  ·simp[e]
 | s l=>simp[Qhm,Qe6]
theorem qwq (g:Int→Option Nat) (ρ:List Nat) (σ:Sto):(fun k=>(Qe6 g k).map (qbk ρ σ))=Qe6 g:=by
 funext k
 cases k with
 | i m=>
  unfold Qe6
  simp only[Option.map_map]
  rfl
 | s l=>rfl
theorem Qn8 (ρ:List Nat) (σ:Sto):qdp ρ σ=ρ.map fun id=>qbx ρ σ (qae σ id):=rfl
theorem qwo (ρ:List Nat) (σ:Sto) (es:Nat) (xs:List D):qbx ρ σ (.arr es xs)=.arr es xs:=rfl
theorem qwn (ρ:List Nat) (σ:Sto) (es:Nat) (xs:List D):qbx ρ σ (.frz es xs)=.frz es xs:=rfl
theorem qrj (ρ:List Nat) (σ:Sto):qbx ρ σ .dead=.dead:=rfl
theorem q9k {α:Type}:(none:Option α).isSome=false:=rfl
theorem Qoe:type_of% (aI @q0q (aI @qws (aI @q9l (aI @qrm (aI @Qfa (aI @Qoc (aI @Qod (aI @Qs5 (aI @Qs4 (aI @Qn7 (aI @Qn6 (aI @q9i (aI @q9h (aI @q9g (aI @q9f (aI @q9e (aI @q9d (aI @q9c (aI @q9b (aI @q2o (aI @q2n (aI @q2m (aI @qrl (aI @qiv (aI @qwr (aI @q2l (aI @qok (aI @qwp (aI @Qob (aI @Qn9 (aI @Qoa (aI @qwq (aI @Qn8 (aI @qwo (aI @qwn (aI @qrj (@q9k))))))))))))))))))))))))))))))))))))):=aI @q0q (aI @qws (aI @q9l (aI @qrm (aI @Qfa (aI @Qoc (aI @Qod (aI @Qs5 (aI @Qs4 (aI @Qn7 (aI @Qn6 (aI @q9i (aI @q9h (aI @q9g (aI @q9f (aI @q9e (aI @q9d (aI @q9c (aI @q9b (aI @q2o (aI @q2n (aI @q2m (aI @qrl (aI @qiv (aI @qwr (aI @q2l (aI @qok (aI @qwp (aI @Qob (aI @Qn9 (aI @Qoa (aI @qwq (aI @Qn8 (aI @qwo (aI @qwn (aI @qrj (@q9k))))))))))))))))))))))))))))))))))))
end Go.AM


set_option linter.unusedVariables false
set_option linter.unusedSimpArgs false
namespace Go.AM
variable {P:Program} {Gl:qbd}
def qdw (es:Nat) (xs:List D) (B:Blk):Prop:=B=.arr es xs∨B=.frz es xs
theorem Qqp {σ:Sto} {i:Nat} (hi:i<σ.length) {es:Nat} {xs:List D} {B:Blk} (hB:qdw es xs B):qea [i] σ [B]=σ.set i B:=by
 have hb:∀b,qdg b B=B:=fun b=>by rcases hB with rfl|rfl<;>rfl
 apply List.ext_getElem
 ·simp[qea]
 ·intro j h1 h2
  simp only[qea,List.length_cons,List.length_nil,Nat.sub_self,Nat.add_zero,List.length_map,List.length_range] at h1
  simp only[qea,List.getElem_map,List.getElem_range]
  rw[List.getElem_set]
  by_cases e:i=j
  ·subst e
   have:qch [i] i=some 0:=by simp[qch]
   rw[this,if_pos rfl]
   exact hb _
  ·have:qch [i] j=none:=by simp[qch,e]
   rw[this,if_neg e]
   have hj:j<σ.length:=by omega
   simp only[hj,if_true]
   unfold qae
   simp[hj]
theorem qjz {n:Nat} {all:Array Oper} {draw:Bool} {rest:List Oper} {KK:Env→Sto→Prop} {env:Env} {σ:Sto} {f:FuncId} {as as' caps:List AV} {dst:Option Tmp} {es:Nat} {xs:List D} {v:D} (i:Nat)
  (h:∀B,qdw es xs B→qal P Gl f as' [B] (fun r s=>r=.d v∧s=[B])) (e:∀s,(as++caps).map (qbk [i] s)=as') (hb:qae σ i=.arr es xs)
  (h2:qas P Gl n all draw rest (putE env dst (.d v)) σ KK):qgj P Gl n all draw dst rest (.fn f caps) as env σ KK:=by
 have main:∀s,Ext σ s→qal P Gl f (as++caps) s (fun r σ'=>r=.d v∧σ'=s):=fun s hs=>by
  have hB:qdw es xs (qae s i):=by
   rcases hs.2 i with h1|h1|h1
   ·rw[hb] at h1;cases h1
   ·rw[hb] at h1;exact .inl h1
   ·rw[hb] at h1;exact .inr h1
  have hil:i<s.length:=by
   rcases Nat.lt_or_ge i s.length with h'|h'
   ·exact h'
   ·exfalso
    have:qae s i=.dead:=by unfold qae;rw[List.getD_eq_getElem?_getD,List.getElem?_eq_none h'];rfl
    rcases hB with q|q<;>rw[this] at q<;>cases q
  have er:qdp [i] s=[qae s i]:=by
   have:∀B,qdw es xs B→qbx [i] s B=B:=fun B hB=>by rcases hB with rfl|rfl<;>rfl
   simp only[qdp,List.map_cons,List.map_nil];rw[this _ hB]
  refine(qal.under (P:=P) (Gl:=Gl) [i] (by simp) (by simpa using hil) (by rw[er,e];exact h _ hB)).mono fun r s' hr=>?_
  obtain⟨r0,s0,⟨rfl,rfl⟩,rfl,rfl⟩:=hr
  refine⟨rfl,?_⟩
  rw[Qqp hil hB]
  apply List.ext_getElem
  ·simp
  ·intro j h1 h2
   rw[List.getElem_set]
   split
   ·subst_vars;unfold qae;simp[hil]
   ·rfl
 unfold qgj
 cases draw with
 | true=>exact .inl ⟨.d v,main,h2⟩
 | false=>
  refine(main σ (Ext.refl σ)).mono fun r s ⟨e1,e2⟩=>?_
  subst e1;subst e2;exact h2
end Go.AM


set_option linter.unusedVariables false
set_option linter.unusedSimpArgs false
namespace Go.AM
variable {P:Program} {Gl:qbd}
inductive Rd (σ:Sto):AV→D→Prop
 | d (x:D):Rd σ (.d x) x
 | nils:Rd σ .nils (.sl [])
 | osl {i o k es:Nat} {xs:List D} (h:qae σ i=.frz es xs) {x:D} (e:x=.sl ((xs.drop o).take k)):Rd σ (.osl i o k) x
inductive RdL (σ:Sto):List AV→List D→Prop
 | nil:RdL σ [] []
 | cons {u:AV} {x:D} {r:List AV} {s:List D} (h:Rd σ u x) (t:RdL σ r s):RdL σ (u::r) (x::s)
theorem Qr9 {σ s:Sto} (h:Ext σ s) {i es:Nat} {xs:List D} (hb:qae σ i=.frz es xs):qae s i=.frz es xs:=by
 rcases h.2 i with h1|h1|h1
 ·rw[hb] at h1;cases h1
 ·rw[h1,hb]
 ·rw[h1,hb];rfl
theorem Qen {s:Sto} {i es:Nat} {xs:List D} (hb:qae s i=.frz es xs):freeze s i=s:=by
 have hil:i<s.length:=by
  rcases Nat.lt_or_ge i s.length with h'|h'
  ·exact h'
  ·unfold qae at hb;rw[List.getD_eq_getElem?_getD,List.getElem?_eq_none h'] at hb;cases hb
 unfold freeze
 rw[hb]
 apply List.ext_getElem
 ·simp
 ·intro j h1 h2
  rw[List.getElem_set]
  split
  ·subst_vars
   unfold qae at hb
   simp[hil] at hb
   rw[hb];rfl
  ·rfl
theorem RdL.spec {σ s:Sto} (hs:Ext σ s) {as:List AV} {xs:List D} (h:RdL σ as xs):as.map (qlt s)=xs.map AV.d∧∀id∈as.flatMap (qi4 s),∃es ys,qae s id=.frz es ys:=by
 induction h with
 | nil=>exact⟨rfl,fun _ h=>by simp at h⟩
 | cons h t ih=>
  obtain⟨h1,h2⟩:=ih
  cases h with
  | d x=>exact⟨by rw[List.map_cons,h1,qrl];rfl,fun id hid=>h2 id (by simpa[qi4,AV.isD,q56,AV.refs,q7b] using hid)⟩
  | nils=>exact⟨by rw[List.map_cons,h1,qiv];rfl,fun id hid=>h2 id (by simpa[qi4,AV.isD,q56,AV.refs,q7b] using hid)⟩
  | osl hb e=>
   have hb':=Qr9 hs hb
   have ha:=(congrArg Blk.isArr hb').trans (show _=true from rfl)
   refine⟨by rw[List.map_cons,h1,qle _ _ _ _ ha,hb',e];rfl,fun id hid=>?_⟩
   rw[List.flatMap_cons,qrk _ _ _ _ ha,List.mem_append] at hid
   rcases hid with hid|hid
   ·simp only[List.mem_cons,List.not_mem_nil,or_false] at hid
    subst hid
    exact⟨_,_,hb'⟩
   ·exact h2 id hid
theorem qvc {s:Sto}:∀{l:List Nat},(∀id∈l,∃es ys,qae s id=.frz es ys)→freezeL s l=s
 | [],_=>rfl
 | i::l,h=>by
  obtain⟨es,ys,hb⟩:=h i List.mem_cons_self
  rw[qg2,Qen hb]
  exact qvc fun id hid=>h id (List.mem_cons_of_mem _ hid)
theorem Qq7 {σ s:Sto} (hs:Ext σ s) {f:FuncId} {as:List AV} {xs:List D} {v:AV} (hr:RdL σ as xs) (h:qba P Gl f (xs.map AV.d) v):qal P Gl f as s (fun r s'=>r=v∧s'=s):=by
 obtain⟨h1,h2⟩:=hr.spec hs
 refine qal.data ?_
 rw[h1,qvc h2]
 exact h s
section
variable {n:Nat} {all:Array Oper} {draw:Bool} {rest:List Oper} {KK:Env→Sto→Prop} {env:Env} {σ:Sto} {f:FuncId} {as:List AV} {xs:List D} {v:AV} {dst:Option Tmp} {g:Bool}
theorem qnl (h:g=true→qba P Gl f (xs.map AV.d) v) (hr:RdL σ as xs) (h2:qas P Gl n all draw rest (putE env dst (.iff g v)) σ KK):qvq P Gl n all draw dst rest g (.fn f []) as env σ KK:=
 ⟨v,fun hg s hs=>by rw[List.append_nil];exact Qq7 hs hr (h hg),h2⟩
end
end Go.AM


namespace Go.AM
section
variable {α:Type} [Inhabited α] {lt:α→α→Bool}
end
section
variable {α:Type} [Inhabited α]
variable {key:α→Int}
end
end Go.AM
