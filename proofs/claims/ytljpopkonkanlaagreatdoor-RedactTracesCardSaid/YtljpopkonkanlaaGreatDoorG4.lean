/- A part of the proof: an abstract machine over data, and lemmas; nothing of the statement. No condition beyond those stated. -/
import Derived.Test.YtljpopkonkanlaaGreatDoorG3
import Derived.Sort.Grow
import Derived.Deep.Draws
import Derived.Laws.Externs
import Derived.Carry
import Derived.ProofKit
import Derived.Lib.LaidTab
import Derived.Maps.RangeRun
set_option linter.unusedVariables false
set_option linter.unusedSimpArgs false
set_option linter.unusedSectionVars false
set_option linter.unnecessarySimpa false

set_option linter.unusedVariables false
set_option linter.unusedSimpArgs false
namespace Go.AM
variable {P:Program} {Gl:qbd}
def Blk.still:Blk→Prop
 | .box _ (.d _)=>True
 | .map _ f=>∀k v,f k=some v→∃d,v=.d d
 | _=>False
theorem qrv {B:Blk} (h:B.still):B.isDead=false:=by cases B<;>simp_all [Blk.still,Blk.isDead]
theorem q20 {B:Blk} (h:B.still):B.frozen=B:=by cases B<;>simp_all [Blk.still,Blk.frozen]
theorem q5g {g:AV→AV} (hg:∀d,g (.d d)=.d d) {f:Key→Option AV} (h:∀k v,f k=some v→∃d,v=.d d):(fun k=>(f k).map g)=f:=by
 funext k
 cases e:f k with
 | none=>rfl
 | some v=>obtain⟨d,rfl⟩:=h k v e;simp[hg]
theorem qg9 {B:Blk} (h:B.still) (ρ:List Nat) (σ:Sto):qbx ρ σ B=B:=by
 cases B with
 | box n v=>cases v<;>simp_all [Blk.still,qbx,qbk,qkp]
 | map ik f=>simp only[qbx];rw[q5g (fun d=>by simp[qbk,qkp]) h]
 | _=>exact h.elim
theorem qha {B:Blk} (h:B.still) (b:Nat→Nat):qdg b B=B:=by
 cases B with
 | box n v=>cases v<;>simp_all [Blk.still,qdg,qgy]
 | map ik f=>simp only[qdg];rw[q5g (fun d=>by simp[qgy]) h]
 | _=>exact h.elim
theorem q83 {σ:Sto} {i:Nat} (hi:i<σ.length) {B:Blk} (hB:B.still):qea [i] σ [B]=σ.set i B:=by
 apply List.ext_getElem
 ·simp[qea]
 ·intro j h1 h2
  simp only[qea,List.length_cons,List.length_nil,Nat.sub_self,Nat.add_zero,List.length_map,List.length_range] at h1
  simp only[qea,List.getElem_map,List.getElem_range]
  rw[List.getElem_set]
  by_cases e:i=j
  ·subst e
   have:qch [i] i=some 0:=by simp[qch]
   rw[this,if_pos rfl]
   exact qha hB _
  ·have:qch [i] j=none:=by simp[qch,e]
   rw[this,if_neg e]
   have hj:j<σ.length:=by omega
   simp only[hj,if_true]
   unfold qae
   simp[hj]
theorem Qcp {σ:Sto} {f:FuncId} {as as':List AV} {B:Blk} {v:D} (i:Nat) (hB:B.still) (hb:qae σ i=B)
  (h:qal P Gl f as' [B] (fun r s=>r=.d v∧s=[B])) (e:∀s,as.map (qbk [i] s)=as'):∀s,Ext σ s→qal P Gl f as s (fun r σ'=>r=.d v∧σ'=s):=fun s hs=>by
 have hB':qae s i=B:=by
  rcases hs.2 i with h1|h1|h1
  ·rw[hb,qrv hB] at h1;cases h1
  ·rw[h1,hb]
  ·rw[h1,hb,q20 hB]
 have hil:i<s.length:=by
  rcases Nat.lt_or_ge i s.length with h'|h'
  ·exact h'
  ·exfalso
   have:qae s i=.dead:=by unfold qae;rw[List.getD_eq_getElem?_getD,List.getElem?_eq_none h'];rfl
   have h2:=qrv hB
   rw[←hB',this] at h2;cases h2
 have er:qdp [i] s=[B]:=by simp only[qdp,List.map_cons,List.map_nil];rw[hB',qg9 hB]
 refine(qal.under (P:=P) (Gl:=Gl) [i] (by simp) (by simpa using hil) (by rw[er,e];exact h)).mono fun r s' hr=>?_
 obtain⟨r0,s0,⟨rfl,rfl⟩,rfl,rfl⟩:=hr
 refine⟨rfl,?_⟩
 rw[q83 hil hB]
 apply List.ext_getElem
 ·simp
 ·intro j h1 h2
  rw[List.getElem_set]
  split
  ·rename_i e2
   subst e2
   rw[←hB'];unfold qae;simp[hil]
  ·rfl
theorem qd5 {n:Nat} {all:Array Oper} {draw:Bool} {rest:List Oper} {KK:Env→Sto→Prop} {env:Env} {σ:Sto} {f:FuncId} {as as' caps:List AV} {dst:Option Tmp} {B:Blk} {v:D} (i:Nat)
  (h:qal P Gl f as' [B] (fun r s=>r=.d v∧s=[B])) (e:∀s,(as++caps).map (qbk [i] s)=as') (hb:qae σ i=B) (hB:B.still)
  (h2:qas P Gl n all draw rest (putE env dst (.d v)) σ KK):qgj P Gl n all draw dst rest (.fn f caps) as env σ KK:=by
 have main:=Qcp (Gl:=Gl) i hB hb h e
 unfold qgj
 cases draw with
 | true=>exact .inl ⟨.d v,main,h2⟩
 | false=>
  refine(main σ (Ext.refl σ)).mono fun r s ⟨e1,e2⟩=>?_
  subst e1;subst e2;exact h2
theorem qhq {n:Nat} {all:Array Oper} {draw:Bool} {rest:List Oper} {KK:Env→Sto→Prop} {env:Env} {σ:Sto} {f:FuncId} {as as' caps:List AV} {dst:Option Tmp} {B:Blk} {v:D} {g:Bool} (i:Nat)
  (h:qal P Gl f as' [B] (fun r s=>r=.d v∧s=[B])) (e:∀s,(as++caps).map (qbk [i] s)=as') (hb:qae σ i=B) (hB:B.still)
  (h2:qas P Gl n all draw rest (putE env dst (.iff g (.d v))) σ KK):qvq P Gl n all draw dst rest g (.fn f caps) as env σ KK:=
 ⟨.d v,fun _=>Qcp (Gl:=Gl) i hB hb h e,h2⟩
theorem Qjh {f:FuncId} {args:List D} {B:Blk} {r:AV} (hB:B.still) (h:qal P Gl f (args.map AV.d) [] (fun r' s=>r'=r∧s=[B])) (σ:Sto) :
  qal P Gl f (args.map AV.d) σ (fun r' s=>r'=qgy (qb3 [] σ.length) r∧s=σ++[B]):=by
 have e:(args.map AV.d).map (qbk [] σ)=args.map AV.d:=by simp[qbk,qkp]
 have h1:=qal.under (P:=P) (Gl:=Gl) (f:=f) (args:=args.map AV.d) (σ:=σ) [] List.nodup_nil (by simp) (by rw[e];exact h)
 refine h1.mono fun r1 s' h2=>?_
 obtain⟨r0,s0,⟨h1,h2⟩,h3,h4⟩:=h2
 subst h1;subst h2;subst h3;subst h4
 refine⟨rfl,?_⟩
 apply List.ext_getElem
 ·simp[qea]
 ·intro i h1 h2
  simp only[qea,List.getElem_map,List.getElem_range]
  have:qch [] i=none:=rfl
  rw[this]
  simp only[List.length_nil,Nat.zero_add]
  by_cases hi:i<σ.length
  ·rw[if_pos hi,List.getElem_append_left hi]
   unfold qae
   simp[hi]
  ·simp[qea] at h1
   have:i=σ.length:=by omega
   subst this
   rw[if_neg (by omega),List.getElem_append_right (by omega)]
   simp[qae,qha hB]
theorem q0e {n:Nat} {all:Array Oper} {draw:Bool} {rest:List Oper} {KK:Env→Sto→Prop} {env:Env} {σ:Sto} {dst:Option Tmp} {ty:TypeId} {pos:String} {af:Array Edge} (f:FuncId) (l:List Operand) {j:Nat} {b:Bool}:qas P Gl n all draw (⟨dst,.makeFunc (.func f) #[] l.toArray,ty,pos,af,some (j,b)⟩::rest) env σ KK=(qb7 n dst=true∧qbo (qbb all env j)=true∧gdL Gl env (qaq (qbb all env j) b) l ∧
  qas P Gl n all draw rest (putE env dst (.iff (qaq (qbb all env j) b) (.fn f (l.map (evU Gl env))))) σ KK):=by
 simp[qas,qa9,qd0,Op.operands,qcg,opV,qbp,qcy]
theorem qbw {ik:Option IntKind} {f:Key→Option AV} (h:∀k v,f k=some v→∃d,v=.d d) (rest:Sto):qdp [0] (freezeL (.map ik f::rest) [])=[.map ik f]:=by
 show[qbx [0] _ (.map ik f)]=_
 rw[qg9 (B:=.map ik f) h]
theorem qz0 {f:Key→Option AV} (h:∀k v,f k=some v→∃d,v=.d d) (k:Key) (z:D):∃d,(f k).getD (.d z)=.d d:=by
 cases e:f k with
 | none=>exact⟨z,rfl⟩
 | some v=>obtain⟨d,rfl⟩:=h k v e;exact⟨d,rfl⟩
theorem Qsa {σ:Sto} {f:FuncId} {as as':List AV} {es:Nat} {xs:List D} {v:D} (i:Nat)
  (h:∀B,qdw es xs B→qal P Gl f as' [B] (fun r s=>r=.d v∧s=[B])) (e:∀s,as.map (qbk [i] s)=as') (hb:qae σ i=.arr es xs):∀s,Ext σ s→qal P Gl f as s (fun r σ'=>r=.d v∧σ'=s):=fun s hs=>by
 have hB:qdw es xs (qae s i):=by
  rcases hs.2 i with h1|h1|h1
  ·rw[hb] at h1;cases h1
  ·rw[hb] at h1;exact .inl h1
  ·rw[hb] at h1;exact .inr h1
 have hil:i<s.length:=by
  rcases Nat.lt_or_ge i s.length with h'|h'
  ·exact h'
  ·exfalso
   have:qae s i=.dead:=by unfold qae;rw[List.getD_eq_getElem?_getD,List.getElem?_eq_none h'];rfl
   rcases hB with q|q<;>rw[this] at q<;>cases q
 have er:qdp [i] s=[qae s i]:=by
  have:∀B,qdw es xs B→qbx [i] s B=B:=fun B hB=>by rcases hB with rfl|rfl<;>rfl
  simp only[qdp,List.map_cons,List.map_nil];rw[this _ hB]
 refine(qal.under (P:=P) (Gl:=Gl) [i] (by simp) (by simpa using hil) (by rw[er,e];exact h _ hB)).mono fun r s' hr=>?_
 obtain⟨r0,s0,⟨rfl,rfl⟩,rfl,rfl⟩:=hr
 refine⟨rfl,?_⟩
 rw[Qqp hil hB]
 apply List.ext_getElem
 ·simp
 ·intro j h1 h2
  rw[List.getElem_set]
  split
  ·subst_vars;unfold qae;simp[hil]
  ·rfl
theorem q6r {n:Nat} {all:Array Oper} {draw:Bool} {rest:List Oper} {KK:Env→Sto→Prop} {env:Env} {σ:Sto} {f:FuncId} {as as' caps:List AV} {dst:Option Tmp} {es:Nat} {xs:List D} {v:D} {g:Bool} (i:Nat)
  (h:∀B,qdw es xs B→qal P Gl f as' [B] (fun r s=>r=.d v∧s=[B])) (e:∀s,(as++caps).map (qbk [i] s)=as') (hb:qae σ i=.arr es xs)
  (h2:qas P Gl n all draw rest (putE env dst (.iff g (.d v))) σ KK):qvq P Gl n all draw dst rest g (.fn f caps) as env σ KK:=
 ⟨.d v,fun _=>Qsa (Gl:=Gl) i h e hb,h2⟩
theorem Qda {m:Nat} {σ:Sto} {u:AV} {y:D} (hd:u.isD σ=true):qcz m (.tup [u,.d y]) σ (.tup [.d (u.toD σ),.d y]) (freezeL σ u.refs):=fun w I μ v h1 h2 h3=>by
 cases h2 with
 | tup vs cs hl h=>
  match vs,hl with
  | [v0,v1],_=>
   have a0:=h 0 v0 u rfl rfl
   have a1:=h 1 v1 (.d y) rfl rfl
   obtain⟨I',b1,b2,b3,_⟩:=q63 h1 a0 hd
   refine⟨I',μ,b1,.tup [v0,v1] _ rfl ?_,b2.mono h3⟩
   intro i v x hv hx
   match i with
   | 0=>simp at hv hx;subst hv;subst hx;exact .d _ _ b3
   | 1=>simp at hv hx;subst hv;subst hx;exact a1.keep b2
   | i+2=>simp at hv
theorem qcq {σ:Sto} {u:AV} {x y:D} (hd:u.isD σ=true) (hx:u.toD σ=x):qcz 0 (.tup [u,.d y]) σ (.tup [.d x,.d y]) []:=by
 subst hx;exact(Qda hd).trans qxa
end Go.AM


set_option linter.unusedVariables false
set_option linter.unusedSimpArgs false
namespace Go.AM
variable {P:Program} {Gl:qbd}
theorem Qcg (env:Env):∀(l:Env) (t:Nat),qem (l.map fun p=>(p.1,qem env p.1)) t=qem env t∨qem (l.map fun p=>(p.1,qem env p.1)) t=.undef
 | [],t=>.inr rfl
 | p::r,t=>by
  simp only[List.map_cons,qem]
  by_cases e:p.1=t
  ·left;rw[if_pos e,e]
  ·rw[if_neg e];exact Qcg env r t
theorem qbv {n m:Nat} {env e':Env} {σ:Sto} (he:(e'.map fun p=>(p.1,qem env p.1))=e'):qgm n m env σ e' σ:=fun w I μ a h1 h2 h3=>by
 refine⟨I,μ,h1,⟨h2.defers,h2.size,fun t=>?_⟩,qcn.refl _ _ _ _ h3⟩
 rw[←he]
 rcases Qcg env e' t with e|e
 ·rw[e];exact h2.slot t
 ·rw[e];exact .undef _
theorem qhr {n:Nat} {all:Array Oper} {draw:Bool} {rest:List Oper} {KK:Env→Sto→Prop} {env:Env} {σ:Sto} {f:FuncId} {as caps:List AV} {v:AV} {dst:Option Tmp}
  (h:∀s,Ext σ s→qal P Gl f (as++caps) s (fun r s'=>r=v∧s'=s)) (h2:qas P Gl n all draw rest (putE env dst v) σ KK):qgj P Gl n all draw dst rest (.fn f caps) as env σ KK:=by
 cases draw with
 | true=>exact .inl ⟨v,h,h2⟩
 | false=>
  refine(h σ (Ext.refl σ)).mono fun r s ⟨e1,e2⟩=>?_
  subst e1;subst e2;exact h2
theorem q6q {n:Nat} {all:Array Oper} {draw:Bool} {rest:List Oper} {KK:Env→Sto→Prop} {env:Env} {σ:Sto} {f:FuncId} {as caps:List AV} {v:AV} {dst:Option Tmp} {g:Bool}
  (h:g=true→∀s,Ext σ s→qal P Gl f (as++caps) s (fun r s'=>r=v∧s'=s)) (h2:qas P Gl n all draw rest (putE env dst (.iff g v)) σ KK):qvq P Gl n all draw dst rest g (.fn f caps) as env σ KK:=
 ⟨v,h,h2⟩
def El0 (es:Nat) (x:D):Prop:=x.isAgg=false∧x.cells.length=es
theorem El0.at {Dm:D→Prop} {es:Nat} (hD:∀x,Dm x→El0 es x) {ys:List D} (h:∀y∈ys,Dm y) {i:Nat} (hi:i<ys.length):(ys.getD i default).isAgg=false∧(ys.getD i default).cells.length=es:=by
 have:ys.getD i default=ys[i]:=by simp[hi]
 rw[this];exact hD _ (h _ (List.getElem_mem hi))
end Go.AM


set_option linter.unusedVariables false
namespace Go.AM
variable {P:Program} {Gl:qbd} {w:World} {I:Im} {μ:Pos} {σ:Sto}
theorem Qf4 (σ:Sto) (id i:Nat) (B:Blk) (h1:B.isArr=(qae σ id).isArr) (h2:B.es=(qae σ id).es) (h3:B.xs=(qae σ id).xs) (h4:B.isDead=(qae σ id).isDead) (hid:id<σ.length) :
  (qae (σ.set id B) i).isArr=(qae σ i).isArr∧(qae (σ.set id B) i).es=(qae σ i).es∧(qae (σ.set id B) i).xs=(qae σ i).xs∧(qae (σ.set id B) i).isDead=(qae σ i).isDead:=by
 by_cases e:id=i
 ·subst e;rw[qbl hid];exact⟨h1,h2,h3,h4⟩
 ·rw[qbq e];exact⟨rfl,rfl,rfl,rfl⟩
theorem Rel.rebox (h:Rel w I μ σ) {id n:Nat} {v v':AV} (hb:qae σ id=.box n v) (hid:id<σ.length) (hn:v'.ncells=n)
  (hc:∀j,j<n→(v'.cellAt j).one=true∧∀u,qbg w I μ σ u (v.cellAt j)→qbg w I μ σ u (v'.cellAt j)) :
  Rel w I μ (σ.set id (.box n v'))∧qcn σ.length w I μ σ w I μ (σ.set id (.box n v')):=by
 have hs:=fun i=>Qf4 σ id i (.box n v') (by rw[hb];rfl) (by rw[hb];rfl) (by rw[hb];rfl) (by rw[hb];rfl) hid
 have k:qcn σ.length w I μ σ w I μ (σ.set id (.box n v')):=
  ⟨rfl,rfl,rfl,Nat.le_refl _,fun _ h=>h,fun _ h=>h,fun _ h=>.inl h,fun _ _=>rfl,fun _=>Nat.le_refl _,by simp,fun i hi ha=>by
   obtain⟨a1,a2,a3,a4⟩:=hs i
   refine⟨by unfold qcb at ha ⊢;rw[←a4];exact ha,rfl,a1,a2,by rw[a3];exact Nat.le_refl _⟩⟩
 refine⟨⟨h.imm,fun i hi=>?_,fun i j b b' o o' hij hi hj h1 h2=>?_⟩,k⟩
 ·rw[List.length_set] at hi
  by_cases e:id=i
  ·subst e
   rw[qbl hid]
   have hB:=h.blk id hid
   rw[hb] at hB
   obtain⟨b,base,q1,q2,q3,q4,q5,q6⟩:=hB
   refine⟨b,base,q1,q2,q3,q4,hn,fun j hj=>?_⟩
   obtain⟨r1,u,r2,r3⟩:=q6 j hj
   obtain⟨s1,s2⟩:=hc j hj
   exact⟨s1,u,r2,(s2 u r3).keep k⟩
  ·rw[qbq e]
   exact(h.blk i hi).keep k rfl fun _ _ _ _=>⟨rfl,fun hn=>hn⟩
 ·have ow:∀i,(qae (σ.set id (.box n v')) i).own=true→(qae σ i).own=true:=fun i hi=>by
   by_cases e:id=i
   ·subst e;rw[hb];rfl
   ·rwa [qbq e] at hi
  exact h.apart i j b b' o o' hij (ow i hi) (ow j hj) h1 h2
theorem qfc {n m:Nat} {env:Env} (id es k:Nat) {N:Nat} {cs:List AV} (hm:m≤σ.length) (hb:qae σ id=.box N (.agg cs)) (hk:cs.getD k .undef=.nils) (hkl:k<cs.length) (hid:id<σ.length) :
  qgm n m env σ env ((σ++[Blk.arr es []]).set id (.box N (.agg (cs.set k (.osl σ.length 0 0))))):=fun w I μ a h1 h2 h3=>by
 obtain⟨μ',a1,a2⟩:=h1.addNone es
 have hb':qae (σ++[Blk.arr es []]) id=.box N (.agg cs):=by rw[qa8 hid];exact hb
 have hB:=h1.blk id hid
 rw[hb] at hB
 obtain⟨b,base,q1,q2,q3,q4,q5,q6⟩:=hB
 obtain⟨r1,r2⟩:=a1.rebox (v':=.agg (cs.set k (.osl σ.length 0 0))) hb' (by simp;omega) (by rw[←q5];simp[AV.ncells]) (fun j hj=>by
  show((cs.set k (.osl σ.length 0 0)).getD j .undef).one=true∧∀u,qbg w I μ' _ u (cs.getD j .undef)→qbg w I μ' _ u ((cs.set k (.osl σ.length 0 0)).getD j .undef)
  by_cases e:k=j
  ·subst e
   have e1:(cs.set k (AV.osl σ.length 0 0)).getD k .undef=.osl σ.length 0 0:=by simp[hkl]
   rw[e1,hk]
   refine⟨rfl,fun u hu=>?_⟩
   cases hu
   exact .osl _ _ 0 0 (by simp) (.inl ⟨rfl,none,rfl⟩)
  ·have e1:(cs.set k (AV.osl σ.length 0 0)).getD j .undef=cs.getD j .undef:=by simp[List.getD_eq_getElem?_getD,List.getElem?_set_ne e]
   rw[e1]
   exact⟨(q6 j hj).1,fun u hu=>hu⟩)
 refine⟨I,μ',r1,?_,?_⟩
 ·have k2:=a2.trans (show qcn σ.length w I μ' (σ++[.arr es []]) w I μ' _ from⟨r2.os,r2.tape,r2.output,r2.size,r2.imm,r2.fr,r2.rdn,r2.same,r2.bsize,by simp,fun i hi=>r2.old i (by simp;omega)⟩)
  exact h2.keep k2
 ·have k2:=a2.trans (show qcn σ.length w I μ' (σ++[.arr es []]) w I μ' _ from⟨r2.os,r2.tape,r2.output,r2.size,r2.imm,r2.fr,r2.rdn,r2.same,r2.bsize,by simp,fun i hi=>r2.old i (by simp;omega)⟩)
  exact k2.mono h3
theorem qal.weak {f:FuncId} {args:List AV} {σ':Sto} {R:AV→Sto→Prop} (h:qgm 0 σ.length [] σ [] σ') (hc:qal P Gl f args σ' R):qal P Gl f args σ R:=by
 intro w I μ vals hR hG hl hv
 obtain⟨I',μ',r1,_,r3⟩:=h w I μ (⟨#[],[]⟩:Act) hR ⟨rfl,rfl,fun t=>.undef _⟩ (Nat.le_refl _)
 refine(hc w I' μ' vals r1 (hG.keep r3) hl fun i v u h1 h2=>(hv i v u h1 h2).keep r3).mono fun v w' ⟨r,s,J,ν,q1,q2,q3,q4⟩=>?_
 exact⟨r,s,J,ν,q1,r3.trans (q2.mono r3.len),q3,q4⟩
end Go.AM


set_option linter.unusedVariables false
namespace Go.AM
variable {P:Program} {Gl:qbd} {w:World} {I:Im} {μ:Pos} {σ:Sto}
theorem Rel.remap (h:Rel w I μ σ) {id:Nat} {ik:Option IntKind} {f f':Key→Option AV} (hb:qae σ id=.map ik f) (hid:id<σ.length)
  (hc:∀k,(f k=none∧f' k=none)∨∃v v',f k=some v∧f' k=some v'∧∀u,qbg w I μ σ u v→qbg w I μ σ u v') :
  Rel w I μ (σ.set id (.map ik f'))∧qcn σ.length w I μ σ w I μ (σ.set id (.map ik f')):=by
 have hs:=fun i=>Qf4 σ id i (.map ik f') (by rw[hb];rfl) (by rw[hb];rfl) (by rw[hb];rfl) (by rw[hb];rfl) hid
 have k:qcn σ.length w I μ σ w I μ (σ.set id (.map ik f')):=
  ⟨rfl,rfl,rfl,Nat.le_refl _,fun _ h=>h,fun _ h=>h,fun _ h=>.inl h,fun _ _=>rfl,fun _=>Nat.le_refl _,by simp,fun i hi ha=>by
   obtain⟨a1,a2,a3,a4⟩:=hs i
   refine⟨by unfold qcb at ha ⊢;rw[←a4];exact ha,rfl,a1,a2,by rw[a3];exact Nat.le_refl _⟩⟩
 refine⟨⟨h.imm,fun i hi=>?_,fun i j b b' o o' hij hi hj h1 h2=>?_⟩,k⟩
 ·rw[List.length_set] at hi
  by_cases e:id=i
  ·subst e
   rw[qbl hid]
   have hB:=h.blk id hid
   rw[hb] at hB
   obtain⟨b,es,clock,q1,q2,q3,q4⟩:=hB
   refine⟨b,es,clock,q1,q2,q3,⟨q4.keys,q4.nodup,fun key v' hf hv'=>?_,fun key hf hv'=>?_⟩⟩
   ·rcases hc key with⟨_,e2⟩|⟨v,v2,e1,e2,e3⟩
    ·rw[e2] at hv';cases hv'
    ·rw[e2] at hv';cases hv'
     obtain⟨e,he,hk,hr⟩:=q4.hit key v hf e1
     exact⟨e,he,hk,(e3 _ hr).keep k⟩
   ·rcases hc key with⟨e1,_⟩|⟨v,v2,e1,e2,e3⟩
    ·exact q4.miss key hf e1
    ·rw[e2] at hv';cases hv'
  ·rw[qbq e]
   exact(h.blk i hi).keep k rfl fun _ _ _ _=>⟨rfl,fun hn=>hn⟩
 ·have ow:∀i,(qae (σ.set id (.map ik f')) i).own=true→(qae σ i).own=true:=fun i hi=>by
   by_cases e:id=i
   ·subst e;rw[hb];rfl
   ·rwa [qbq e] at hi
  exact h.apart i j b b' o o' hij (ow i hi) (ow j hj) h1 h2
theorem Qfm {n m:Nat} {env:Env} (id:Nat) {ik:Option IntKind} {f:Key→Option AV} (L:List Nat) (hb:qae σ id=.map ik f) (hid:id<σ.length) (hd:∀k v,f k=some v→v.isD σ=true∧∀i∈v.refs,i∈L) (hL:∀i∈L,(qae σ i).isArr=true) :
  qgm n m env σ env ((freezeL σ L).set id (.map ik fun k=>(f k).map fun v=>.d (v.toD σ))):=fun w I μ a h1 h2 h3=>by
 obtain⟨I',r1,r2,r3,r4,r5,r6,r7,r8⟩:=qes h1 L
 have hni:id∉L:=fun hm=>by
  have:=hL id hm
  rw[hb] at this;cases this
 obtain⟨s1,s2⟩:=r1.remap (f':=fun k=>(f k).map fun v=>.d (v.toD σ)) (by rw[r7 id hni];exact hb) (by rw[r3];exact hid) (fun k=>by
  cases hf:f k with
  | none=>exact .inl ⟨rfl,rfl⟩
  | some v=>
   refine .inr ⟨v,_,rfl,rfl,fun u hu=>.d _ _ ?_⟩
   obtain⟨d1,d2⟩:=hd k v hf
   have:=qlz r1 hu (by rw[qng (fun id=>(r5 id).2)];exact d1) (fun i hi=>r4 i (d2 i hi) (hL i (d2 i hi)))
   rwa [ql0 (fun id=>(r5 id).1)] at this)
 rw[r3] at s2
 exact⟨I',μ,s1,h2.keep (r2.trans s2),(r2.trans s2).mono h3⟩
end Go.AM


namespace Go.AM
theorem Qkg:∀x:List UInt8,Op.bytesLess x x=false
 | []=>rfl
 | a::x=>by rw[Op.bytesLess,Qkg x];simp
theorem q2b:∀{x y z:List UInt8},Op.bytesLess x y=true→Op.bytesLess y z=true→Op.bytesLess x z=true
 | [],[],z,h,_=>by simp[Op.bytesLess] at h
 | [],b::y,[],_,h=>by simp[Op.bytesLess] at h
 | [],b::y,c::z,_,_=>by simp[Op.bytesLess]
 | a::x,[],z,h,_=>by simp[Op.bytesLess] at h
 | a::x,b::y,[],_,h=>by simp[Op.bytesLess] at h
 | a::x,b::y,c::z,h1,h2=>by
  have ih:=@q2b x y z
  simp only[Op.bytesLess,Bool.or_eq_true,decide_eq_true_eq,Bool.and_eq_true,beq_iff_eq] at h1 h2 ⊢
  rcases h1 with h1|⟨rfl,h1⟩
  ·rcases h2 with h2|⟨rfl,h2⟩
   ·exact .inl (UInt8.lt_trans h1 h2)
   ·exact .inl h1
  ·rcases h2 with h2|⟨rfl,h2⟩
   ·exact .inl h2
   ·exact .inr ⟨rfl,ih h1 h2⟩
theorem Qcx:∀{x y:List UInt8},Op.bytesLess x y=false→Op.bytesLess y x=false→x=y
 | [],[],_,_=>rfl
 | [],b::y,h,_=>by simp[Op.bytesLess] at h
 | a::x,[],_,h=>by simp[Op.bytesLess] at h
 | a::x,b::y,h1,h2=>by
  have ih:=@Qcx x y
  simp only[Op.bytesLess,Bool.or_eq_false_iff,decide_eq_false_iff_not,Bool.and_eq_false_iff,beq_eq_false_iff_ne] at h1 h2
  have e:a=b:=by
   have p:=h1.1
   have q:=h2.1
   rw[UInt8.not_lt] at p q
   exact UInt8.le_antisymm q p
  subst e
  have h1':Op.bytesLess x y=false:=h1.2.elim (fun h=>absurd rfl h) id
  have h2':Op.bytesLess y x=false:=h2.2.elim (fun h=>absurd rfl h) id
  rw[ih h1' h2']
theorem Qnt {x y:List UInt8} (h:Op.bytesLess x y=true):Op.bytesLess y x=false:=by
 rw[Bool.eq_false_iff]
 intro h2
 have:=q2b h h2
 rw[Qkg] at this;cases this
theorem Qvr {x y:List UInt8} (h:Op.bytesLess x y=true):x≠y:=fun e=>by subst e;rw[Qkg] at h;cases h
theorem Qns (x y:List UInt8):(Op.bytesLess x y=true∧x≠y∧Op.bytesLess y x=false)∨(Op.bytesLess x y=false∧x=y∧Op.bytesLess y x=false)∨(Op.bytesLess x y=false∧x≠y∧Op.bytesLess y x=true):=by
 cases h1:Op.bytesLess x y with
 | true=>exact .inl ⟨rfl,Qvr h1,Qnt h1⟩
 | false=>
  cases h2:Op.bytesLess y x with
  | true=>exact .inr (.inr ⟨rfl,fun e=>Qvr h2 e.symm,rfl⟩)
  | false=>exact .inr (.inl ⟨rfl,Qcx h1 h2,rfl⟩)
end Go.AM


set_option linter.unusedVariables false
namespace Go.AM
variable {P:Program} {Gl:qbd} {w:World} {I:Im} {μ:Pos} {σ:Sto}
theorem Rel.relay (h:Rel w I μ σ) {id:Nat} {b base:Nat} {B:Blk} (hid:id<σ.length) (hown:(qae σ id).own=true) (hμ:μ id=some (b,base))
  (hB:qev w I (qed μ σ.length (b,base)) (σ.set id .dead++[B]) σ.length B):Rel w I (qed μ σ.length (b,base)) (σ.set id .dead++[B])∧qcn σ.length w I μ σ w I (qed μ σ.length (b,base)) (σ.set id .dead++[B]):=by
 have hl:(σ.set id .dead).length=σ.length:=List.length_set ..
 have hold:∀i,i<σ.length→i≠id→qae (σ.set id .dead++[B]) i=qae σ i:=fun i hi hne=>by rw[qa8 (by rw[hl];exact hi),qbq (Ne.symm hne)]
 have hdead:qae (σ.set id .dead++[B]) id=.dead:=by rw[qa8 (by rw[hl];exact hid),qbl hid]
 have hnew:qae (σ.set id .dead++[B]) σ.length=B:=by
  have:=qb5 (σ:=σ.set id .dead) (B:=B)
  rwa [hl] at this
 have hpos:∀i,i<σ.length→qed μ σ.length (b,base) i=μ i:=fun i hi=>qc8 _ _ (by omega)
 have k:qcn σ.length w I μ σ w I (qed μ σ.length (b,base)) (σ.set id .dead++[B]):=
  ⟨rfl,rfl,rfl,Nat.le_refl _,fun _ h=>h,fun _ h=>h,fun _ h=>.inl h,fun _ _=>rfl,fun _=>Nat.le_refl _,by simp,fun i hi ha=>by
   by_cases e:i=id
   ·subst e
    unfold qcb at ha
    rw[hdead] at ha;cases ha
   ·refine⟨by unfold qcb at ha ⊢;rw[hold i hi e] at ha;exact ha,hpos i hi,?_,?_,?_⟩<;>rw[hold i hi e]
    exact Nat.le_refl _⟩
 refine⟨⟨h.imm,fun i hi=>?_,fun i j b1 b2 o1 o2 hij hi hj h1 h2=>?_⟩,k⟩
 ·have hi':i<σ.length+1:=by simpa using hi
  rcases Nat.lt_or_ge i σ.length with hlt|hge
  ·by_cases e:i=id
   ·subst e;rw[hdead];trivial
   ·rw[hold i hlt e]
    exact(h.blk i hlt).keep k (hpos i hlt) fun _ _ _ _=>⟨rfl,fun hn=>hn⟩
  ·have:i=σ.length:=by omega
   subst this
   rw[hnew];exact hB
 ·have old:∀i,(qae (σ.set id .dead++[B]) i).own=true→i≠σ.length→i<σ.length∧i≠id∧(qae σ i).own=true:=fun i ho hne=>by
   have h3:=qbc ho
   have h4:i<σ.length:=by simp at h3;omega
   have h5:i≠id:=fun e=>by subst e;rw[hdead] at ho;cases ho
   exact⟨h4,h5,by rw[hold i h4 h5] at ho;exact ho⟩
  by_cases ei:i=σ.length
  ·subst ei
   have ej:j≠σ.length:=fun e=>hij e.symm
   obtain⟨q1,q2,q3⟩:=old j hj ej
   rw[qbt] at h1
   simp only[Option.some.injEq,Prod.mk.injEq] at h1
   rw[hpos j q1] at h2
   rw[←h1.1]
   exact h.apart id j b b2 base o2 (Ne.symm q2) hown q3 hμ h2
  ·obtain⟨q1,q2,q3⟩:=old i hi ei
   rw[hpos i q1] at h1
   by_cases ej:j=σ.length
   ·subst ej
    rw[qbt] at h2
    simp only[Option.some.injEq,Prod.mk.injEq] at h2
    rw[←h2.1]
    exact h.apart i id b1 b o1 base q2 q3 hown h1 hμ
   ·obtain⟨r1,r2,r3⟩:=old j hj ej
    rw[hpos j r1] at h2
    exact h.apart i j b1 b2 o1 o2 hij q3 r3 h1 h2
end Go.AM


set_option linter.unusedVariables false
namespace Go.AM
variable {P:Program} {Gl:qbd} {w:World} {I:Im} {μ:Pos} {σ:Sto}
theorem Qn1 (ds:List D):q0o (ds.map AV.d)=some ds:=by
 induction ds with
 | nil=>rfl
 | cons d ds ih=>simp[q0o,ih]
end Go.AM


set_option linter.unusedVariables false
namespace Go.AM
variable {P:Program} {Gl:qbd}
theorem q5q {w:World} {I:Im} {μ:Pos} {σ:Sto} (h:Rel w I μ σ) (k:Nat) (os:Array Obj):qcn σ.length w I μ σ (Sort.grow (w.drewN k) os) I μ σ:=by
 refine⟨rfl,rfl,rfl,?_,fun _ h=>h,fun _ h=>h,fun _ h=>.inl h,fun b hb=>?_,fun b=>?_,Nat.le_refl _,fun _ _ h=>⟨h,rfl,rfl,rfl,Nat.le_refl _⟩⟩
 ·simp[Sort.grow,World.drewN]
 ·have:=h.imm b hb
  simp only[Sort.grow,World.drewN]
  rw[Array.getElem?_append_left this]
 ·rcases Nat.lt_or_ge b w.heap.size with hb|hb
  ·rw[qeu (w:=w) (w':=Sort.grow (w.drewN k) os)]
   ·exact Nat.le_refl _
   ·simp only[Sort.grow,World.drewN]
    rw[Array.getElem?_append_left hb]
  ·have:qcf w b=0:=by
    unfold qcf
    rw[Array.getElem?_eq_none hb]
   omega
theorem Qlp {w:World} {I:Im} {μ:Pos} {σ:Sto} (h:Rel w I μ σ) (k:Nat) (os:Array Obj):Rel (Sort.grow (w.drewN k) os) I μ σ:=by
 refine⟨fun b hb=>?_,fun id hid=>?_,h.apart⟩
 ·have:=h.imm b hb
  simp[Sort.grow,World.drewN];omega
 ·refine(h.blk id hid).keep (q5q h k os) rfl fun ho b o hμ=>⟨?_,fun hn=>hn⟩
  have:=(qjk h hid ho hμ).1
  simp only[Sort.grow,World.drewN]
  rw[Array.getElem?_append_left this]
theorem q03 {f:FuncId} {fn:Func} (hf:P.funcs[f]? = some fn) (hname:(fn.name == "runtime.NumGoroutine")=false) (hb:fn.body.isSome=true) {args:List AV} {vs:List Value} {v:Value} {r:AV}
  (hv:∀(w:World) I μ σ (vals:List Value),(∀(i:Nat) (v:Value) (u:AV),vals[i]? = some v→args[i]? = some u→qbg w I μ σ v u)→vals.length=args.length→vals=vs)
  (h:∀(w:World) I,qg5 Gl w I→Calls P f vs.toArray w fun e w'=>e=.returned v∧∃k os,w'=Sort.grow (w.drewN k) os)
  (hr:∀(w:World) I μ σ,qbg w I μ σ v r):qba P Gl f args r:=by
 intro σ w I μ vals hR hG hl hreps
 obtain rfl:=hv w I μ σ vals hreps hl
 have hne:¬fn.name = "runtime.NumGoroutine" := by simpa using hname
 obtain⟨c,hc⟩:=Option.isSome_iff_exists.1 hb
 have e:(callFunc f vals.toArray).run P w=.ok (.enter f vals.toArray) w:=by simp[callFunc,hf,hc,hne]
 rw[e]
 refine⟨rfl,(h w I hG).mono fun x w' ⟨hx,k,os,hw⟩=>⟨v,hx,?_⟩⟩
 subst hw
 exact⟨r,σ,I,μ,Qlp hR k os,q5q hR k os,hr _ _ _ _,rfl,rfl⟩
theorem Qgb {k:IntKind} {a:Int} {w:World} {I:Im} {μ:Pos} {σ:Sto} {vals:List Value} (hv:∀(i:Nat) (v:Value) (u:AV),vals[i]? = some v→[AV.d (.int k a)][i]? = some u→qbg w I μ σ v u) (hl:vals.length=[AV.d (.int k a)].length):vals=[.int k a]:=by
 match vals,hl with
 | [x],_=>
  have h1:=(hv 0 x _ rfl rfl).inv_d
  cases h1
  rfl
end Go.AM


namespace Go.AM
open Go.RowKit Go.ChangeShapes Go.WideShapes
def q2x (P:Program):List Field→Nat→Option Nat
 | [],o=>some o
 | f::r,o=>if f.offset=o then q2x P r (o+P.cellsOf f.type) else none
def qla (P:Program):Nat→TypeId→Bool
 | 0,_=>false
 | n+1,t=>match P.underlying t with
  | some .bool=>true
  | some (.int _)=>true
  | some .string=>true
  | some (.slice e)=>decide (0<P.cellsOf e)&&qla P n e
  | some (.struct fs)=>(q2x P fs.toList 0==some (P.cellsOf t))&&fs.toList.all fun f=>qla P n f.type
  | _=>false
def qoe (P:Program) (T:TypeId→List D→Prop):List Field→List D→Prop
 | [],ds=>ds=[]
 | f::r,ds=>∃a b,ds=a++b∧a.length=P.cellsOf f.type∧T f.type a∧qoe P T r b
def qfu (P:Program):Nat→TypeId→List D→Prop
 | 0,_,_=>False
 | n+1,t,ds=>match P.underlying t with
  | some .bool=>∃b,ds=[.bool b]
  | some (.int k)=>∃i,ds=[.int k i]∧(Lit.int k i).wf=true
  | some .string=>∃s,ds=[.str s]∧s.length≤maxLen
  | some (.slice e)=>∃xs,ds=[.sl xs]∧xs.length≤maxLen∧∀x∈xs,qfu P n e x.cells∧x.cells.length=P.cellsOf e∧x.isAgg=(qbm P e).getD false
  | some (.struct fs)=>qoe P (qfu P n) fs.toList ds
  | _=>False
variable {H:Type} {enc:TypeId×Value→H} {P:Program} {w:World} {I:Im} {spare:Nat→Bool} {held:Bool} {base:Nat}
structure qc2 (w:World) (I:Im) (vs:List Value) (ds:List D):Prop where
 len:ds.length=vs.length
 rep:∀(j:Nat) (v:Value) (x:D),vs[j]? = some v→ds[j]? = some x→qdk w I v x
 one:∀x∈ds,x.one=true
theorem qc2.single {v:Value} {x:D} (h:qdk w I v x) (ho:x.one=true):qc2 w I [v] [x]:=
 ⟨rfl,fun j v' x' hv hx=>by
  cases j with
  | zero=>simp at hv hx;subst hv;subst hx;exact h
  | succ j=>simp at hv,fun y hy=>by simp at hy;subst hy;exact ho⟩
theorem qc2.append {vs us:List Value} {ds es:List D} (h:qc2 w I vs ds) (k:qc2 w I us es):qc2 w I (vs++us) (ds++es):=by
 refine⟨by simp[h.len,k.len],fun j v x hv hx=>?_,fun x hx=>?_⟩
 ·rcases Nat.lt_or_ge j vs.length with hj|hj
  ·rw[List.getElem?_append_left hj] at hv
   rw[List.getElem?_append_left (by rw[h.len];exact hj)] at hx
   exact h.rep j v x hv hx
  ·rw[List.getElem?_append_right hj] at hv
   rw[List.getElem?_append_right (by rw[h.len];exact hj),h.len] at hx
   exact k.rep _ v x hv hx
 ·rcases List.mem_append.1 hx with hx|hx
  ·exact h.one x hx
  ·exact k.one x hx
theorem qul {α β:Type} {f:α→Option β}:∀{l:List α} {r:List β},l.mapM f=some r→∀x∈l,∃y,f x=some y
 | [],_,_,x,hx=>by simp at hx
 | a::l,r,h,x,hx=>by
  rw[List.mapM_cons] at h
  cases ha:f a with
  | none=>rw[ha] at h;simp at h
  | some b=>
   rw[ha] at h
   cases hl:l.mapM f with
   | none=>rw[hl] at h;simp at h
   | some r'=>
    rcases List.mem_cons.1 hx with rfl|hx
    ·exact⟨b,ha⟩
    ·exact qul hl x hx
theorem qvf {n fuel:Nat} {cs:List Value} (ih:∀{t:TypeId} {cs:List Value} {x:DataW H×List MemPlace},qla P n t=true→DataW.trod enc P w base spare held fuel t cs=some x→∃ds,qc2 w I cs ds∧qfu P n t ds) :
  ∀(fs:List Field) (o:Nat),q2x P fs o=some cs.length→o≤cs.length→(∀f∈fs,qla P n f.type=true)→(∀f∈fs,∃y,DataW.trod enc P w base spare held fuel f.type ((cs.drop f.offset).take (P.cellsOf f.type))=some y) →
   ∃ds,qc2 w I (cs.drop o) ds∧qoe P (qfu P n) fs ds
 | [],o,ht,_,_,_=>by
  simp only[q2x,Option.some.injEq] at ht
  subst ht
  exact⟨[],⟨by simp,fun j v x hv=>by simp at hv,fun x hx=>by simp at hx⟩,rfl⟩
 | f::r,o,ht,hle,hd,hr=>by
  simp only[q2x] at ht
  split at ht
  ·rename_i ho
   obtain⟨y,hy⟩:=hr f (by simp)
   obtain⟨da,h1,h2⟩:=ih (hd f (by simp)) hy
   have hb:o+P.cellsOf f.type≤cs.length:=by
    have mono:∀(l:List Field) (a b:Nat),q2x P l a=some b→a≤b:=by
     intro l
     induction l with
     | nil=>intro a b h;simp only[q2x,Option.some.injEq] at h;omega
     | cons g l ihl=>
      intro a b h
      simp only[q2x] at h
      split at h
      ·have:=ihl _ _ h;omega
      ·cases h
    exact mono _ _ _ ht
   obtain⟨db,h3,h4⟩:=qvf ih r (o+P.cellsOf f.type) ht hb (fun g hg=>hd g (by simp[hg])) (fun g hg=>hr g (by simp[hg]))
   rw[ho] at h1
   have e:cs.drop o=(cs.drop o).take (P.cellsOf f.type)++cs.drop (o+P.cellsOf f.type):=by
    rw[←List.drop_drop,List.take_append_drop]
   refine⟨da++db,by rw[e];exact h1.append h3,da,db,rfl,?_,h2,h4⟩
   rw[h1.len,List.length_take,List.length_drop];omega
  ·cases ht
theorem Qno {a:Addr} {k:Nat} {vs:List Value} (h:w.cells? base a k=some vs):vs.length=k∧∀j,j<k→w.cell? (a.add j)=vs[j]? := by
 unfold World.cells? at h
 split at h
 ·have gen:∀(l:List Nat) (vs:List Value),(l.mapM (fun i=>w.cell? (a.add i)):Option (List Value))=some vs→vs.length=l.length∧∀(j i:Nat),l[j]? = some i→w.cell? (a.add i)=vs[j]? := by
   intro l
   induction l with
   | nil=>intro vs h;simp at h;subst h;exact⟨rfl,fun j i hj=>by simp at hj⟩
   | cons x l ih=>
    intro vs h
    rw[List.mapM_cons] at h
    cases hx:w.cell? (a.add x) with
    | none=>rw[hx] at h;simp at h
    | some v=>
     rw[hx] at h
     cases hl:l.mapM (fun i=>w.cell? (a.add i)) with
     | none=>rw[hl] at h;simp at h
     | some r=>
      rw[hl] at h
      simp at h
      subst h
      obtain⟨i1,i2⟩:=ih r hl
      refine⟨by simp[i1],fun j i hj=>?_⟩
      cases j with
      | zero=>simp at hj;subst hj;simpa using hx
      | succ j=>simpa using i2 j i (by simpa using hj)
  obtain⟨g1,g2⟩:=gen _ _ h
  exact⟨by simpa using g1,fun j hj=>g2 j j (by simp[hj])⟩
 ·cases h
theorem Qsl {a:Addr} {v:Value} (h:w.cell? a=some v):a.block<w.heap.size∧a.spot=none:=by
 unfold World.cell? at h
 split at h
 ·rename_i c _ _ hc
  split at h
  ·cases h
  ·rename_i hs
   refine⟨?_,by simpa using hs⟩
   rcases Nat.lt_or_ge a.block w.heap.size with h'|h'
   ·exact h'
   ·rw[Array.getElem?_eq_none h'] at hc;cases hc
 ·cases h
theorem qrs {n:Nat} {e:TypeId} {ds:List D} (h:qfu P n e ds) (hk:(qbm P e).getD false=false):∃x,ds=[x]∧x.isAgg=false:=by
 cases n with
 | zero=>exact h.elim
 | succ n=>
  simp only[qfu] at h
  unfold qbm at hk
  cases hu:P.underlying e with
  | none=>rw[hu] at h;exact h.elim
  | some td=>
   rw[hu] at h hk
   cases td<;>simp only at h hk
   all_goals first
    | exact h.elim
    | (obtain⟨x,rfl⟩:=h;exact⟨_,rfl,rfl⟩)
    | (obtain⟨x,rfl,_⟩:=h;exact⟨_,rfl,rfl⟩)
    | (simp at hk)
theorem Qsu {a:Addr} (hs:a.spot=none) (i j:Nat):(a.add i).add j=⟨a.block,a.off+i+j,none⟩:=by
 obtain⟨b,o,sp⟩:=a
 simp only at hs
 subst hs
 unfold Addr.add
 by_cases hi:i=0<;>by_cases hj:j=0<;>simp[hi,hj]
theorem Qdq (hI:∀b,b<w.heap.size→I.rd b) {n:Nat} {e:TypeId} {a:Addr} {len cap:Nat} (he:0<P.cellsOf e) (hlc:len≤cap) (hcm:cap≤maxLen)
  (hel:∀i,i<len→∃(vs:List Value) (ds:List D),vs.length=P.cellsOf e∧(∀j,j<P.cellsOf e→w.cell? ((a.add (i*P.cellsOf e)).add j)=vs[j]?)∧qc2 w I vs ds∧qfu P n e ds) :
  ∃xs,qdk w I (.slice (some a) len cap) (.sl xs)∧xs.length≤maxLen∧∀x∈xs,qfu P n e x.cells∧x.cells.length=P.cellsOf e∧x.isAgg=(qbm P e).getD false:=by
 rcases Nat.eq_zero_or_pos len with hz|hpos
 ·subst hz
  exact⟨[],.nil _ _,by simp,fun x hx=>by simp at hx⟩
 have hel2:∀i,∃(vs:List Value) (x:D),i<len→(vs.length=P.cellsOf e∧(∀j,j<P.cellsOf e→w.cell? ((a.add (i*P.cellsOf e)).add j)=vs[j]?)∧qc2 w I vs x.cells∧qfu P n e x.cells∧x.isAgg=(qbm P e).getD false):=fun i=>by
  by_cases hi:i<len
  ·obtain⟨vs,ds,h1,h2,h3,h4⟩:=hel i hi
   cases hk:(qbm P e).getD false with
   | true=>exact⟨vs,.agg ds,fun _=>⟨h1,h2,h3,h4,rfl⟩⟩
   | false=>
    obtain⟨x,rfl,hx⟩:=qrs h4 hk
    have hc:x.cells=[x]:=by cases x<;>first|rfl|(simp[D.isAgg] at hx)
    exact⟨vs,x,fun _=>⟨h1,h2,by rw[hc];exact h3,by rw[hc];exact h4,hx⟩⟩
  ·exact⟨[],default,fun h=>absurd h hi⟩
 let vsOf:Nat→List Value:=fun i=>Classical.choose (hel2 i)
 let xOf:Nat→D:=fun i=>Classical.choose (Classical.choose_spec (hel2 i))
 have hsp:∀i,i<len→(vsOf i).length=P.cellsOf e∧(∀j,j<P.cellsOf e→w.cell? ((a.add (i*P.cellsOf e)).add j)=(vsOf i)[j]?)∧qc2 w I (vsOf i) (xOf i).cells∧qfu P n e (xOf i).cells∧(xOf i).isAgg=(qbm P e).getD false:=
  fun i hi=>Classical.choose_spec (Classical.choose_spec (hel2 i)) hi
 have h0:=(hsp 0 hpos).2.1 0 he
 have hp0:0<(vsOf 0).length:=by rw[(hsp 0 hpos).1];exact he
 have hv0:(vsOf 0)[0]? = some ((vsOf 0)[0]'hp0):=List.getElem?_eq_getElem hp0
 rw[hv0] at h0
 have ha:a.spot=none∧a.block<w.heap.size:=by
  have:=Qsl h0
  simp only[Nat.zero_mul,Addr.add,if_true] at this
  exact⟨this.2,this.1⟩
 let xs:=(List.range len).map xOf
 have hlen:xs.length=len:=by simp[xs]
 have hget:∀(i:Nat) (x:D),xs[i]? = some x→i<len∧x=xOf i:=fun i x hx=>by
  have hi:i<len:=by
   rcases Nat.lt_or_ge i len with h|h
   ·exact h
   ·rw[List.getElem?_eq_none (by omega)] at hx;cases hx
  refine⟨hi,?_⟩
  simp only[xs,List.getElem?_map,List.getElem?_range hi,Option.map_some,Option.some.injEq] at hx
  exact hx.symm
 have hmem:∀x∈xs,∃i,i<len∧x=xOf i:=fun x hx=>by
  obtain⟨i,hi,rfl⟩:=List.mem_map.1 hx
  exact⟨i,List.mem_range.1 hi,rfl⟩
 refine⟨xs,?_,by omega,fun x hx=>?_⟩
 ·have hv:(Value.slice (some a) len cap)=.slice (some ⟨a.block,a.off,none⟩) xs.length cap:=by
   rw[hlen]
   obtain⟨b,o,sp⟩:=a
   simp only at ha
   rw[ha.1]
  rw[hv]
  refine .sl a.block a.off (P.cellsOf e) cap xs (fun i j=>(vsOf i).getD j Go.undef) (hI _ ha.2) (by omega) (fun x hx=>?_) (fun x hx=>?_) (fun i j hi hj=>?_) (fun i j x y hx hy=>?_)
  ·obtain⟨i,hi,rfl⟩:=hmem x hx
   have:=(hsp i hi).2.2.1.len
   rw[this,(hsp i hi).1]
  ·obtain⟨i,hi,rfl⟩:=hmem x hx
   exact(hsp i hi).2.2.1.one
  ·obtain⟨g1,g2,_⟩:=hsp i (by omega)
   have:=g2 j hj
   rw[Qsu ha.1] at this
   rw[this]
   have hj':j<(vsOf i).length:=by rw[g1];exact hj
   have:(vsOf i)[j]? = some ((vsOf i)[j]'hj'):=List.getElem?_eq_getElem hj'
   rw[this,List.getD_eq_getElem?_getD,this];rfl
  ·obtain⟨hi,rfl⟩:=hget i x hx
   obtain⟨g1,g2,g3,_⟩:=hsp i hi
   have hj:j<(vsOf i).length:=by
    rw[←g3.len]
    rcases Nat.lt_or_ge j (xOf i).cells.length with h|h
    ·exact h
    ·rw[List.getElem?_eq_none h] at hy;cases hy
   have hvj:(vsOf i)[j]? = some (vsOf i)[j]:=List.getElem?_eq_getElem hj
   have:=g3.rep j _ y hvj hy
   rw[List.getD_eq_getElem?_getD,hvj];exact this
 ·obtain⟨i,hi,rfl⟩:=hmem x hx
  obtain⟨g1,g2,g3,g4,g5⟩:=hsp i hi
  exact⟨g4,by rw[g3.len,g1],g5⟩
theorem Qdr (hI:∀b,b<w.heap.size→I.rd b):∀(n fuel:Nat) {t:TypeId} {cs:List Value} {x:DataW H×List MemPlace},qla P n t=true→DataW.trod enc P w base spare held fuel t cs=some x→∃ds,qc2 w I cs ds∧qfu P n t ds:=by
 intro n
 induction n with
 | zero=>intro fuel t cs x hd;simp[qla] at hd
 | succ n ih=>
  intro fuel t cs x hd h
  cases fuel with
  | zero=>simp[DataW.trod] at h
  | succ fuel=>
   simp only[qla] at hd
   simp only[qfu]
   cases hu:P.underlying t with
   | none=>rw[hu] at hd;cases hd
   | some td=>
    rw[hu] at hd
    simp only[DataW.trod,hu] at h
    cases td<;>simp only at hd<;>try (cases hd;done)
    · -- bool
     split at h<;>first
      | (rename_i b _;simp only[Option.some.injEq] at *;exact⟨[.bool b],qc2.single (.bool b) rfl,b,rfl⟩)
      | (simp_all;done)
    · -- int
     rename_i k
     split at h<;>first
      | (simp_all;done)
      | skip
     rename_i k1 k2 i heq
     cases heq
     split at h
     ·rename_i hw
      obtain⟨rfl,hw⟩:=hw
      exact⟨[.int _ i],qc2.single (.int _ i) rfl,i,rfl,hw⟩
     ·cases h
    · -- string
     split at h<;>first
      | (simp_all;done)
      | skip
     rename_i s heq
     split at h
     ·rename_i hs
      refine⟨[.str s.data.toList],qc2.single ?_ rfl,s.data.toList,rfl,by simpa using hs⟩
      have:s=⟨s.data.toList.toArray⟩:=by cases s;simp
      rw[this]
      exact .str _
     ·cases h
    · -- slice
     rename_i e
     simp only[Bool.and_eq_true,decide_eq_true_eq] at hd
     split at h<;>first
      | (simp_all;done)
      | skip
     ·exact⟨[.sl []],qc2.single (.nil none 0) rfl,[],rfl,by simp,fun x hx=>by simp at hx⟩
     ·rename_i e' a len cap heq
      cases heq
      split at h
      ·rename_i hb
       rw[Option.bind_eq_some_iff] at h
       obtain⟨els,hels,_⟩:=h
       have hall:=qul hels
       have hel:∀i,i<len→∃(vs:List Value) (ds:List D),vs.length=P.cellsOf e∧(∀j,j<P.cellsOf e→w.cell? ((a.add (i*P.cellsOf e)).add j)=vs[j]?)∧qc2 w I vs ds∧qfu P n e ds:=fun i hi=>by
        obtain⟨y,hy⟩:=hall i (List.mem_range.2 hi)
        rw[Option.bind_eq_some_iff] at hy
        obtain⟨vs,h1,h2⟩:=hy
        obtain⟨h3,h4⟩:=Qno h1
        obtain⟨ds,h5,h6⟩:=ih fuel hd.2 h2
        exact⟨vs,ds,h3,h4,h5,h6⟩
       obtain⟨xs,r1,r2,r3⟩:=Qdq hI hd.1 hb.2.1 hb.2.2 hel
       exact⟨[.sl xs],qc2.single r1 rfl,xs,rfl,r2,r3⟩
      ·cases h
    · -- struct
     rename_i fs
     simp only[Bool.and_eq_true,beq_iff_eq,List.all_eq_true] at hd
     split at h<;>first
      | (simp_all;done)
      | skip
     rename_i fs' heq
     cases heq
     split at h
     ·rename_i hl
      rw[Option.map_eq_some_iff] at h
      obtain⟨xs,hxs,_⟩:=h
      obtain⟨ds,h1,h2⟩:=qvf (I:=I) (fun {t cs x} h1 h2=>ih fuel h1 h2) fs.toList 0 (by rw[hl];exact hd.1) (Nat.zero_le _) (fun f hf=>hd.2 f hf) (fun f hf=>qul hxs f hf)
      exact⟨ds,by simpa using h1,h2⟩
     ·cases h
def qv1 (P:Program) (n:Nat) (t:TypeId) (x:D):Prop:=qfu P n t x.cells∧x.isAgg=(qbm P t).getD false
theorem Qdp (hI:∀b,b<w.heap.size→I.rd b) {n:Nat} {t:TypeId} {v:Value} {d:DataW H} {ps:List MemPlace} (hd:qla P n t=true) (hok:Value.okWide P w .any base t v)
  (h:DataW.Trod enc P w 0 spare held t v d ps):∃x,qdk w I v x∧qv1 P n t x:=by
 obtain⟨fuel,h⟩:=h
 obtain⟨ds,h1,h2⟩:=Qdr hI n fuel hd h
 unfold qv1
 cases hk:(qbm P t).getD false with
 | true=>
  have:∃cs,v=.agg cs:=by
   unfold Value.okWide at hok
   unfold qbm at hk
   split at hok
   ·obtain⟨cs,e,_⟩:=hok;exact⟨cs,e⟩
   ·obtain⟨cs,e,_⟩:=hok;exact⟨cs,e⟩
   ·rename_i hns hna
    cases hu:P.underlying t with
    | none=>rw[hu] at hk;simp at hk
    | some td=>
     rw[hu] at hk
     cases td<;>simp at hk
     all_goals first|exact absurd hu (hns _)|exact absurd hu (hna _ _)
  obtain⟨cs,rfl⟩:=this
  refine⟨.agg ds,?_,h2,rfl⟩
  have e:(Value.agg cs).cells.toList=cs.toList:=rfl
  rw[e] at h1
  have:=qdk.agg (w:=w) (I:=I) cs.toList ds h1.len.symm h1.one h1.rep
  simpa using this
 | false=>
  obtain⟨x,rfl,hx⟩:=qrs h2 hk
  have hc:x.cells=[x]:=by cases x<;>first|rfl|(simp[D.isAgg] at hx)
  refine⟨x,?_,by rw[hc];exact h2,hx⟩
  have hl:=h1.len
  have:v.cells.toList=[v]:=by
   cases v<;>first|rfl|skip
   rename_i cs
   exfalso
   unfold Value.okWide Cell.okWide Cell.ok at hok
   unfold qbm at hk
   cases hu:P.underlying t with
   | none=>rw[hu] at hok;exact hok
   | some td=>
    rw[hu] at hk hok
    cases td<;>simp at hk hok
  rw[this] at h1
  exact h1.rep 0 v x rfl rfl
def qri (P:Program) (n:Nat):List TypeId→List D→Prop
 | [],xs=>xs=[]
 | t::ts,xs=>∃x r,xs=x::r∧qv1 P n t x∧qri P n ts r
theorem Qag (hI:∀b,b<w.heap.size→I.rd b) {n:Nat}:∀(ts:List TypeId) (vs:List Value) (ds:List (DataW H)) (ps:List MemPlace),(∀t∈ts,qla P n t=true) →
  (∀(j:Nat) t v,ts[j]? = some t→vs[j]? = some v→Value.okWide P w .any base t v)→DataW.TrodAll enc P w 0 spare held ts vs ds ps →
  ∃xs:List D,qri P n ts xs∧vs.length=xs.length∧ds.length=ts.length∧∀(i:Nat) (v:Value) (x:D),vs[i]? = some v→xs[i]? = some x→qdk w I v x
 | [],vs,ds,ps,_,_,h=>by
  cases vs<;>cases ds<;>simp only[DataW.TrodAll] at h
  exact⟨[],rfl,rfl,rfl,fun i v x hv=>by simp at hv⟩
 | t::ts,vs,ds,ps,hd,hok,h=>by
  cases vs<;>cases ds<;>simp only[DataW.TrodAll] at h
  rename_i v vs d ds
  obtain⟨p,q,h1,h2,_⟩:=h
  obtain⟨x,r1,r2⟩:=Qdp hI (hd t (by simp)) (hok 0 t v rfl rfl) h1
  obtain⟨xs,r3,r4,r5,r6⟩:=Qag hI ts vs ds q (fun t ht=>hd t (by simp[ht])) (fun j t v h1 h2=>hok (j+1) t v (by simpa using h1) (by simpa using h2)) h2
  refine⟨x::xs,⟨x,xs,rfl,r2,r3⟩,by simp[r4],by simp[r5],fun i u y hu hy=>?_⟩
  cases i with
  | zero=>simp at hu hy;subst hu;subst hy;exact r1
  | succ i=>exact r6 i u y (by simpa using hu) (by simpa using hy)
theorem qly {w':World} (hl:laidOutB P=true) (hb:Below w.heap.size w w'):∀(ts:List TypeId) (vs:List Value) (ds:List (DataW H)) (ps:List MemPlace),(∀t∈ts,P.readableRec t=true∧t<P.types.size) →
  DataW.TrodAll enc P w 0 (fun _=>true) true ts vs ds ps→(∀x∈ps,x.block<w.heap.size)→DataW.TrodAll enc P w' 0 (fun b=>decide (b<w.heap.size)) true ts vs ds ps
 | [],vs,ds,ps,_,h,_=>by
  cases vs<;>cases ds<;>simp only[DataW.TrodAll] at h ⊢
  exact h
 | t::ts,vs,ds,ps,ht,h,hlt=>by
  cases vs<;>cases ds<;>simp only[DataW.TrodAll] at h ⊢
  obtain⟨p,q,h1,h2,rfl⟩:=h
  have h3:=ht t (by simp)
  exact⟨p,q,Below.trod hl h3.1 h3.2 h1 hb fun x hx=>hlt x (List.mem_append.2 (.inl hx)),qly hl hb ts _ _ q (fun t h=>ht t (by simp[h])) h2 fun x hx=>hlt x (List.mem_append.2 (.inr hx)),rfl⟩
theorem qcn.below {m:Nat} {w':World} {I':Im} {μ μ':Pos} {σ σ':Sto} (hI:∀b,b<w.heap.size→I.fr b) (k:qcn m w I μ σ w' I' μ' σ'):Below w.heap.size w w':=
 ⟨k.os,k.tape,k.output,k.size,fun b hb=>k.same b (hI b hb)⟩
end Go.AM


set_option linter.unusedVariables false
namespace Go.AM
open Go.RowKit Go.ChangeShapes Go.WideShapes
variable {H:Type} {enc:TypeId×Value→H} {P:Program} {w:World} {I:Im} {spare:Nat→Bool} {held:Bool} {base:Nat}
theorem q8e {name:String} {k:IntKind} {zs:List Int} {g:Nat} {I:Im} (h:Lib.TabIs P w name k zs) (hg:P.globalNamed name=some g) (hI:I.rd g):qg5 [(g,.agg (zs.map fun z=>.int k z))] w I:=by
 refine⟨fun p hp=>?_,fun p hp=>?_⟩
 ·rcases List.mem_singleton.1 hp with rfl
  refine⟨hI,fun x hx=>?_,fun x hx=>?_,fun i j x y hx hy=>?_⟩
  ·rcases List.mem_singleton.1 hx with rfl
   rfl
  ·rcases List.mem_singleton.1 hx with rfl
   intro c hc
   obtain⟨z,_,rfl⟩:=List.mem_map.1 hc
   rfl
  ·cases i with
   | zero=>
    simp only[List.getElem?_cons_zero,Option.some.injEq] at hx
    subst hx
    have hj:j<zs.length:=by
     rcases Nat.lt_or_ge j zs.length with h|h
     ·exact h
     ·rw[show(D.agg (zs.map fun z=>.int k z)).cells=zs.map fun z=>D.int k z from rfl,List.getElem?_eq_none (by simp;omega)] at hy;cases hy
    refine⟨.int k (zs.getD j 0),?_,?_⟩
    ·have:=h.cell hg j hj
     simpa using this
    ·rw[show(D.agg (zs.map fun z=>.int k z)).cells=zs.map fun z=>D.int k z from rfl,List.getElem?_map,List.getElem?_eq_getElem hj] at hy
     cases hy
     rw[List.getD_eq_getElem?_getD,List.getElem?_eq_getElem hj]
     exact .int _ _
   | succ i=>simp at hx
 ·rcases List.mem_singleton.1 hp with rfl
  unfold Lib.TabIs World.var? at h
  rw[hg] at h
  simp only[Option.bind_some] at h
  split at h
  ·rename_i cs t f hh
   cases h
   exact⟨_,t,f,hh,by simp[D.cells]⟩
  ·cases h
theorem q64 {name:String} {k:IntKind} {zs:List Int} {g:Nat} {I:Im} (h:qg5 [(g,.agg (zs.map fun z=>.int k z))] w I) (hg:P.globalNamed name=some g):Lib.TabIs P w name k zs:=by
 obtain⟨c,t,f,h1,h2⟩:=h.ex _ (List.mem_singleton.2 rfl)
 have hs:=h.sl _ (List.mem_singleton.2 rfl)
 have hv:w.var? P name=some c:=by
  unfold World.var?
  rw[hg]
  simp only[Option.bind_some]
  rw[h1]
 unfold Lib.TabIs
 rw[hv]
 congr 1
 have h2:c.size=zs.length:=by simpa[D.cells] using h2
 apply Array.ext
 ·simp[h2]
 ·intro i i1 i2
  have hi:i<zs.length:=by omega
  obtain⟨v,hc,hr⟩:=hs.cell 0 i (.agg (zs.map fun z=>.int k z)) (.int k zs[i]) rfl (by simp[D.cells,hi])
  have hcell:=World.var?_cell hg hv i
  simp only[Nat.zero_mul,Nat.zero_add] at hc
  rw[hc,Array.getElem?_eq_getElem i1] at hcell
  cases hr
  simp only[Option.some.injEq] at hcell
  rw[←hcell]
  simp
theorem qup {Gl:qbd} {fn:Func} {c:Code} {s:ChangeSpec} {f:FuncId} {n:Nat} {tb:TypeId} {apart fresh handsOn:Bool}
  (hf:P.funcs[f]? = some fn) (hname:(fn.name == "runtime.NumGoroutine")=false) (hb:fn.body=some c)
  (hty:(fn.params.toList.all fun t=>qla P n t&&P.readableRec t&&decide (t<P.types.size))=true) (hlaid:laidOutB P=true)
  (hres:fn.resultTypes=#[tb]) (htb:P.underlying tb=some .bool) (hvars:s.vars=[])
  (hspec:∀(H:Type) (ds:List (DataW H)),ds.length=fn.params.size→s.fn H ds={results:=[.lit (.bool true)],args:=ds})
  (hmain:∀xs,qri P n fn.params.toList xs→qal P Gl f (xs.map AV.d) [] (fun r _=>r=.d (.bool true)))
  (W:World) (base:Nat) (args:Array Value) (ds gs:List (DataW H)) (before:List MemPlace)
  (hval:∀(j:Nat) t v,fn.params[j]? = some t→args[j]? = some v→Value.okWide P W .any base t v)
  (hW:DataW.Whole enc P fn.params.toList s.vars apart W args.toList ds gs before) (hGl:∀I:Im,(∀b,b<W.heap.size→I.rd b)→qg5 Gl W I) :
  Calls P f args W fun e W'=>∃v,e=.returned v∧s.post enc P fn apart fresh handsOn false W args v W':=by
 have hlt:=hW.lt
 have hW':=hW
 obtain⟨p,q,hA,hV,rfl,_,_⟩:=hW
 rw[hvars] at hV
 obtain⟨rfl,rfl⟩:=trodVars_none hV
 simp only[List.all_eq_true,Bool.and_eq_true,decide_eq_true_eq] at hty
 let I:Im:={rd:=fun b=>b<W.heap.size,fr:=fun b=>b<W.heap.size,sub:=fun _ h=>h}
 obtain⟨xs,h1,h2,h3,h4⟩:=Qag (I:=I) (fun _ h=>h) fn.params.toList args.toList ds p (fun t ht=>(hty t ht).1.1) (fun j t v ht hv=>hval j t v (by simpa using ht) (by simpa using hv)) hA
 have hm:=hmain xs h1 W I (fun _=>none) args.toList ⟨fun _ h=>h,fun id hid=>absurd hid (Nat.not_lt_zero _),fun i j b b' o o' _ _ _ h=>by cases h⟩ (hGl _ (fun _ h=>h)) (by simp[h2]) (fun i v u hv hu=>by
  rw[List.getElem?_map] at hu
  cases hx:xs[i]? with
  | none=>rw[hx] at hu;cases hu
  | some x=>
   rw[hx] at hu
   simp only[Option.map_some,Option.some.injEq] at hu
   subst hu
   exact .d v x (h4 i v x hv hx))
 have e:(callFunc f args.toList.toArray).run P W=.ok (.enter f args) W:=by
  have hne:¬fn.name = "runtime.NumGoroutine" := by simpa using hname
  simp[callFunc,hf,hb,hne]
 rw[e] at hm
 refine hm.2.mono fun x W' ⟨v,hx,r,σ',I',μ',q1,q2,q3,q4⟩=>?_
 subst hx
 subst q4
 have hv:v=.bool true:=by
  have:=q3.inv_d
  cases this;rfl
 subst hv
 have hbel:Below W.heap.size W W':=q2.below (fun _ h=>h)
 have hlen:(ds++[]).length=fn.params.size:=by simp[h3]
 refine⟨_,rfl,ds,[],p++[],[],p,[],hW',?_,?_,?_,?_,fun h=>by cases h⟩
 ·rw[hspec _ _ hlen,hres]
  exact trodAll_mk1 (shut_bool htb true)
 ·rw[hspec _ _ hlen]
  simp only[List.append_nil]
  exact qly hlaid hbel _ _ _ _ (fun t ht=>⟨(hty t ht).1.2,(hty t ht).2⟩) hA (by simpa using hlt)
 ·rw[hspec _ _ hlen,hvars]
  exact rfl
 ·exact hbel.frame _
end Go.AM


set_option linter.unusedVariables false
set_option linter.unusedSimpArgs false
namespace Go.AM
variable {P:Program} {Gl:qbd} {w:World} {I:Im} {μ:Pos} {σ:Sto}
theorem qf9 {m:Nat} (id k:Nat) {es:Nat} {xs:List D} (hm:m≤σ.length) (hB:qae σ id=.arr es xs) (hk:k≤xs.length) (hp:0<xs.length) :
  qcz m (.osl id 0 k) σ (.osl σ.length 0 k) (σ.set id .dead++[.arr es (xs.take k)]):=fun w I μ v h1 h2 h3=>by
 have hown:(qae σ id).own=true:=by rw[hB];rfl
 have hid:=qbc hown
 have hal:qcb σ id:=by unfold qcb;rw[hB];rfl
 have hblk:=h1.blk id hid
 rw[hB] at hblk
 rcases hblk with⟨_,e0⟩|⟨b,base,e1,e2,e3,e4,e5,e6,e7⟩
 ·rw[e0] at hp;cases hp
 have hm2:(xs.take k).length*es≤xs.length*es:=Nat.mul_le_mul_right _ (by rw[List.length_take];omega)
 have harr:qev w I (qed μ σ.length (b,base)) (σ.set id .dead++[.arr es (xs.take k)]) σ.length (.arr es (xs.take k)):=by
  refine .inr ⟨b,base,qbt _ _ _,e2,e3,by omega,fun x hx=>e5 x (List.mem_of_mem_take hx),fun x hx=>e6 x (List.mem_of_mem_take hx),fun i j x y hx hy=>?_⟩
  have hi:i<k:=by
   rcases Nat.lt_or_ge i k with h|h
   ·exact h
   ·rw[List.getElem?_eq_none (by rw[List.length_take];omega)] at hx;cases hx
  rw[List.getElem?_take_of_lt hi] at hx
  exact e7 i j x y hx hy
 obtain⟨g1,g2⟩:=h1.relay hid hown e1 harr
 refine⟨I,_,g1,?_,g2.mono hm⟩
 have hnew:qae (σ.set id .dead++[Blk.arr es (xs.take k)]) σ.length=.arr es (xs.take k):=by
  have:=qb5 (σ:=σ.set id .dead) (B:=.arr es (xs.take k))
  rwa [List.length_set] at this
 cases h2 with
 | osl _ _ _ _ _ hh=>
 rcases hh with⟨h0,a,rfl⟩|⟨b',base',es',cap,q1,q2,rfl⟩
 ·exact .osl _ _ _ _ (by simp) (.inl ⟨h0,a,rfl⟩)
 ·obtain⟨r1,r2,r3,r4,r5⟩:=q1 hal
  rw[e1] at r1
  simp only[Option.some.injEq,Prod.mk.injEq] at r1
  obtain⟨rfl,rfl⟩:=r1
  rw[hB] at r3 r4
  refine .osl _ _ _ _ (by simp) (.inr ⟨b,base,es',cap,fun _=>⟨qbt _ _ _,by rw[hnew];rfl,by rw[hnew];exact r3,?_,r5⟩,q2,rfl⟩)
  rw[hnew]
  show 0+k≤(xs.take k).length
  rw[List.length_take];omega
theorem Qki {ρ:List Nat} {τ ν:Sto} (hlt:∀id∈ρ,id<σ.length) (hτ:τ.length=ρ.length) (hk:∀j i,ρ[j]? = some i→qdg (qb3 ρ σ.length) (qae τ j)=qae σ i) :
  qea ρ σ (τ++ν)=σ++ν.map (qdg (qb3 ρ σ.length)):=by
 apply List.ext_getElem
 ·simp[qea,hτ]
 ·intro k h1 h2
  simp only[qea,List.getElem_map,List.getElem_range]
  cases e:qch ρ k with
  | some j=>
   have e2:=qkb e
   have hj:j<ρ.length:=by
    rcases Nat.lt_or_ge j ρ.length with h|h
    ·exact h
    ·rw[List.getElem?_eq_none h] at e2;cases e2
   have hks:k<σ.length:=hlt k (List.mem_of_getElem? e2)
   simp only
   rw[qa8 (by omega),hk j k e2,List.getElem_append_left hks]
   unfold qae;simp[hks]
  | none=>
   simp only
   by_cases h:k<σ.length
   ·rw[if_pos h,List.getElem_append_left h];unfold qae;simp[h]
   ·rw[if_neg h,List.getElem_append_right (by omega)]
    simp only[List.getElem_map]
    congr 1
    unfold qae
    rw[List.getD_eq_getElem?_getD,List.getElem?_append_right (by omega)]
    rw[show ρ.length+(k-σ.length)-τ.length=k-σ.length by omega]
    rw[List.getElem?_eq_getElem (by simp at h2;omega)]
    rfl
theorem qal.under_new {f:FuncId} {args as':List AV} {R:AV→Sto→Prop} (ρ:List Nat) (τ:Sto) (hnd:ρ.Nodup) (hlt:∀id∈ρ,id<σ.length) (hr:qdp ρ σ=τ) (he:args.map (qbk ρ σ)=as')
  (hk:∀j i,ρ[j]? = some i→qdg (qb3 ρ σ.length) (qae τ j)=qae σ i)
  (h:qal P Gl f as' τ (fun r s=>∃ν,s=τ++ν∧R r ν)):qal P Gl f args σ (fun r s=>∃r0 ν,R r0 ν∧r=qgy (qb3 ρ σ.length) r0∧s=σ++ν.map (qdg (qb3 ρ σ.length))):=by
 refine(qal.under (P:=P) (Gl:=Gl) ρ hnd hlt (by rw[hr,he];exact h)).mono fun r s hh=>?_
 obtain⟨r0,s0,⟨ν,rfl,h1⟩,rfl,rfl⟩:=hh
 exact⟨r0,ν,h1,rfl,Qki hlt (by rw[←hr];simp[qdp]) hk⟩
theorem qb1 {n:Nat} {all:Array Oper} {rest:List Oper} {KK:Env→Sto→Prop} {env:Env} {f:FuncId} {as caps as':List AV} {dst:Option Tmp} {R:AV→Sto→Prop} (ρ:List Nat) (τ:Sto) (hnd:ρ.Nodup) (hlt:∀id∈ρ,id<σ.length) (hr:qdp ρ σ=τ) (he:(as++caps).map (qbk ρ σ)=as')
  (hk:∀j i,ρ[j]? = some i→qdg (qb3 ρ σ.length) (qae τ j)=qae σ i)
  (h:qal P Gl f as' τ (fun r s=>∃ν,s=τ++ν∧R r ν))
  (h2:∀r ν,R r ν→qas P Gl n all false rest (putE env dst (qgy (qb3 ρ σ.length) r)) (σ++ν.map (qdg (qb3 ρ σ.length))) KK):qgj P Gl n all false dst rest (.fn f caps) as env σ KK:=
 qa1 ((qal.under_new ρ τ hnd hlt hr he hk h).mono fun r s hh=>by
  obtain⟨r0,ν,h1,rfl,rfl⟩:=hh
  exact h2 _ _ h1)
theorem hk1 {τ:Sto} {b:Nat→Nat} {i0:Nat} (h0:qdg b (qae τ 0)=qae σ i0):∀j i,[i0][j]? = some i→qdg b (qae τ j)=qae σ i:=fun j i h=>by
 match j,h with
 | 0,h=>simp at h;subst h;exact h0
 | j+1,h=>simp at h
theorem hk2 {τ:Sto} {b:Nat→Nat} {i0 i1:Nat} (h0:qdg b (qae τ 0)=qae σ i0) (h1:qdg b (qae τ 1)=qae σ i1):∀j i,[i0,i1][j]? = some i→qdg b (qae τ j)=qae σ i:=fun j i h=>by
 match j,h with
 | 0,h=>simp at h;subst h;exact h0
 | 1,h=>simp at h;subst h;exact h1
 | j+2,h=>simp at h
theorem hk3 {τ:Sto} {b:Nat→Nat} {i0 i1 i2:Nat} (h0:qdg b (qae τ 0)=qae σ i0) (h1:qdg b (qae τ 1)=qae σ i1) (h2:qdg b (qae τ 2)=qae σ i2):∀j i,[i0,i1,i2][j]? = some i→qdg b (qae τ j)=qae σ i:=fun j i h=>by
 match j,h with
 | 0,h=>simp at h;subst h;exact h0
 | 1,h=>simp at h;subst h;exact h1
 | 2,h=>simp at h;subst h;exact h2
 | j+3,h=>simp at h
end Go.AM


set_option linter.unusedVariables false
set_option linter.unusedSimpArgs false
namespace Go.AM
variable {P:Program} {Gl:qbd} {n m:Nat} {all:Array Oper} {env:Env} {σ:Sto}
def Qku (L:Nat→Bool) (i j:Nat):Bool:=if j=i then true else L j
def qk5 (L:Nat→Bool):List Edge→Prop
 | []=>True
 | e::r=>(Region.binds .any e=true→L e.on=true)∧qk5 L r
theorem q41 {L:Nat→Bool}:∀{l:List Edge},(∀e∈l,Region.binds .any e=true→L e.on=true)→qk5 L l
 | [],_=>trivial
 | e::r,h=>⟨h e List.mem_cons_self,q41 fun x hx=>h x (List.mem_cons_of_mem _ hx)⟩
def q0p (all:Array Oper) (L:Nat→Bool):Prop:=∀j o,all[j]? = some o→L j=true→qk5 L o.after.toList
theorem qt9 {L M:Nat→Bool} (h:∀j,L j=true→M j=true):∀{l:List Edge},qk5 L l→qk5 M l
 | [],_=>trivial
 | e::r,hp=>⟨fun hb=>h _ (hp.1 hb),qt9 h hp.2⟩
theorem q0p.upd {L:Nat→Bool} (h:q0p all L) {i:Nat} {o:Oper} (ho:all[i]? = some o) (hp:qk5 L o.after.toList):q0p all (Qku L i):=fun j o' ho' hj=>by
 have up:∀k,L k=true→Qku L i k=true:=fun k hk=>by unfold Qku;split<;>first|rfl|exact hk
 unfold Qku at hj
 split at hj
 ·rename_i e
  subst e
  rw[ho] at ho';cases ho'
  exact qt9 up hp
 ·exact qt9 up (h j o' ho' hj)
def q9y (P:Program) (Gl:qbd) (n m:Nat) (all:Array Oper) (E:(Nat→Bool)→Env) (S:(Nat→Bool)→Sto):Nat→List Oper→Prop
 | _,[]=>True
 | i,o::r=>(∀L:Nat→Bool,q0p all L→L i=false→qk5 L o.after.toList→qas P Gl n all false [o] (E L) (S L) fun e' s'=>qgm n m e' s' (E (Qku L i)) (S (Qku L i)))∧q9y P Gl n m all E S (i+1) r
theorem q22 {E:(Nat→Bool)→Env} {S:(Nat→Bool)→Sto}:∀{l:List Oper} {k i:Nat} {o:Oper},q9y P Gl n m all E S k l→l[i]? = some o →
  ∀L:Nat→Bool,q0p all L→L (k+i)=false→qk5 L o.after.toList→qas P Gl n all false [o] (E L) (S L) fun e' s'=>qgm n m e' s' (E (Qku L (k+i))) (S (Qku L (k+i)))
 | [],k,i,o,_,h=>by simp at h
 | x::r,k,0,o,hs,h=>by
  simp only[List.getElem?_cons_zero,Option.some.injEq] at h
  subst h
  exact hs.1
 | x::r,k,i+1,o,hs,h=>by
  simp only[List.getElem?_cons_succ] at h
  have:=q22 hs.2 h
  rwa [show k+1+i=k+(i+1) by omega] at this
def Qqx (all:Array Oper):Bool:=(List.range all.size).all fun i=>match all[i]? with|some o=>o.after.toList.all fun e=>!Region.binds .any e||decide (e.on<i)|none=>true
theorem qw2 (h:Qqx all=true) {i:Nat} {o:Oper} (ho:all[i]? = some o):∀e∈o.after.toList,Region.binds .any e=true→e.on<i:=by
 simp only[Qqx,List.all_eq_true,List.mem_range] at h
 have hi:i<all.size:=by
  rcases Nat.lt_or_ge i all.size with h'|h'
  ·exact h'
  ·rw[Array.getElem?_eq_none h'] at ho;cases ho
 intro e he hb
 have:=h i hi
 rw[ho] at this
 simp only[List.all_eq_true] at this
 have:=this e he
 simpa[hb] using this
theorem Qeq (E:(Nat→Bool)→Env) (S:(Nat→Bool)→Sto) {K:Env→Sto→Prop} (ht:Qqx all=true) (h0:qgm n m env σ (E fun i=>decide (all.size≤i)) (S fun i=>decide (all.size≤i)))
  (hs:q9y P Gl n m all E S 0 all.toList) (hk:K (E fun _=>true) (S fun _=>true)):Qqm P Gl n m all env σ K:=by
 refine⟨fun listed e s=>e=E (fun i=>listed.getD i true)∧s=S (fun i=>listed.getD i true)∧q0p all (fun i=>listed.getD i true),⟨_,_,h0,?_⟩,fun listed e s hJ hsz hrd=>?_,fun listed e s i hJ hsz hi o ho=>?_⟩
 ·have:(fun i=>(Array.replicate all.size false).getD i true)=fun i=>decide (all.size≤i):=by
   funext i
   rcases Nat.lt_or_ge i all.size with h|h
   ·have:¬all.size≤i:=by omega
    simp[h,this]
   ·simp[h,Nat.not_lt.2 h]
  refine⟨congrArg E this.symm,congrArg S this.symm,?_⟩
  rw[this]
  intro j o ho hj
  have hj:=of_decide_eq_true hj
  rw[Array.getElem?_eq_none hj] at ho;cases ho
 ·obtain⟨rfl,rfl,_⟩:=hJ
  have hall:∀i,listed.getD i true=true:=fun i=>by
   induction i using Nat.strongRecOn with
   | _ i ih=>
    rcases Nat.lt_or_ge i all.size with hi|hi
    ·cases hl:listed.getD i true with
     | true=>rfl
     | false=>
      exfalso
      have:i∈Region.ready .any all listed:=qee.2 ⟨hi,hl,all[i],Array.getElem?_eq_getElem hi,fun e he hb=>by
       have hlt:=qw2 ht (Array.getElem?_eq_getElem hi) e he hb
       rw[qju (by omega)]
       exact ih _ hlt⟩
      rw[hrd] at this;cases this
    ·simp[hsz,Nat.not_lt.2 hi]
  have:(fun i=>listed.getD i true)=fun _=>true:=funext hall
  rw[this];exact hk
 ·obtain⟨rfl,rfl,hcl⟩:=hJ
  obtain⟨g1,g2,o',g3,g4⟩:=qee.1 hi
  rw[ho] at g3;cases g3
  have hb:=fun e he hb=>qw2 ht ho e he hb
  have hpr:qk5 (fun i=>listed.getD i true) o.after.toList:=q41 fun e he hbb=>by
   have h1:=g4 e he hbb
   have:=hb e he hbb
   rwa [qju (by omega)] at h1
  have:=q22 (i:=i) (o:=o) hs (by simpa using ho) (fun i=>listed.getD i true) hcl (by simpa using g2) hpr
  have eu:(fun j=>(listed.setIfInBounds i true).getD j true)=Qku (fun i=>listed.getD i true) (0+i):=by
   funext j
   rw[qic (by omega),Nat.zero_add]
   rfl
  refine qdn (fun e' s' h=>?_) _ _ _ this
  refine⟨_,_,h,congrArg E eu.symm,congrArg S eu.symm,?_⟩
  rw[eu]
  have:=hcl.upd ho hpr
  rwa [Nat.zero_add]
def onV (b:Bool) (v:AV):AV:=if b=true then v else .undef
theorem Qrd (v:AV):onV true v=v:=rfl
theorem Quv (v:AV):onV false v=.undef:=rfl
theorem Qab (ρ:List Nat) (b:Bool) (v:AV):qbk ρ σ (onV b v)=onV b (qbk ρ σ v):=by cases b<;>rfl
theorem Qp3:(Region.Mode.any==Region.Mode.text)=false:=rfl
theorem Qk7 {r:AV} {σ':Sto} (h:qgm 0 σ.length [] σ [] σ'):qcz m r σ r σ':=by
 intro w I μ v h1 h2 h3
 obtain⟨I',μ',a1,_,a3⟩:=h w I μ (⟨#[],[]⟩:Act) h1 ⟨rfl,rfl,fun t=>.undef _⟩ (Nat.le_refl _)
 exact⟨I',μ',a1,h2.keep a3,a3.mono h3⟩
theorem frB:type_of% (aI @Qp3 (aI @Bool.false_eq_true (aI @false_imp_iff (aI @true_imp_iff (aI @and_true (@true_and)))))):=aI @Qp3 (aI @Bool.false_eq_true (aI @false_imp_iff (aI @true_imp_iff (aI @and_true (@true_and)))))
end Go.AM


set_option linter.unusedVariables false
set_option linter.unusedSimpArgs false
namespace Go.AM
variable {P:Program} {Gl:qbd} {σ:Sto}
theorem q0j {n:Nat} {all:Array Oper} {rest:List Oper} {KK:Env→Sto→Prop} {env:Env} {f:FuncId} {as caps as':List AV} {dst:Option Tmp} {v:D} (ρ:List Nat) (τ:Sto) (hnd:ρ.Nodup) (hlt:∀id∈ρ,id<σ.length) (hr:qdp ρ σ=τ) (he:(as++caps).map (qbk ρ σ)=as')
  (hk:∀j i,ρ[j]? = some i→qdg (qb3 ρ σ.length) (qae τ j)=qae σ i)
  (h:qal P Gl f as' τ (fun r s=>r=.d v∧s=τ)) (h2:qas P Gl n all false rest (putE env dst (.d v)) σ KK):qgj P Gl n all false dst rest (.fn f caps) as env σ KK:=
 qb1 (R:=fun r ν=>r=.d v∧ν=[]) ρ τ hnd hlt hr he hk (h.mono fun r s hr=>⟨[],by rw[hr.2,List.append_nil],hr.1,rfl⟩) fun r ν hr=>by
  obtain⟨rfl,rfl⟩:=hr
  rw[List.map_nil,List.append_nil];exact h2
theorem qvr {n:Nat} {all:Array Oper} {rest:List Oper} {KK:Env→Sto→Prop} {env:Env} {f:FuncId} {as caps as':List AV} {dst:Option Tmp} {es m:Nat} {xs:List D} (ρ:List Nat) (τ:Sto) (hnd:ρ.Nodup) (hlt:∀id∈ρ,id<σ.length) (hr:qdp ρ σ=τ) (he:(as++caps).map (qbk ρ σ)=as')
  (hk:∀j i,ρ[j]? = some i→qdg (qb3 ρ σ.length) (qae τ j)=qae σ i)
  (h:qal P Gl f as' τ (fun r s=>r=.osl τ.length 0 m∧s=τ++[.arr es xs])) (h2:qas P Gl n all false rest (putE env dst (.osl σ.length 0 m)) (σ++[.arr es xs]) KK):qgj P Gl n all false dst rest (.fn f caps) as env σ KK:=
 qb1 (R:=fun r ν=>r=.osl τ.length 0 m∧ν=[.arr es xs]) ρ τ hnd hlt hr he hk (h.mono fun r s hr=>⟨[.arr es xs],hr.2,hr.1,rfl⟩) fun r ν hr'=>by
  obtain⟨rfl,rfl⟩:=hr'
  have hl:τ.length=ρ.length:=by rw[←hr];simp[qdp]
  have e:qgy (qb3 ρ σ.length) (.osl τ.length 0 m)=.osl σ.length 0 m:=by
   show AV.osl (qb3 ρ σ.length τ.length) 0 m=_
   rw[hl]
   congr 1
   unfold qb3
   rw[if_neg (Nat.lt_irrefl _),Nat.sub_self,Nat.add_zero]
  rw[e];exact h2
end Go.AM


set_option linter.unusedVariables false
set_option linter.unusedSimpArgs false
namespace Go.AM
variable {P:Program} {Gl:qbd} {σ:Sto}
theorem Qco {f:FuncId} {ag as':List AV} {v:D} (ρ:List Nat) (τ:Sto) (hnd:ρ.Nodup) (hf:∀i∈ρ,(qae σ i).frozen=qae σ i∧(qae σ i).isDead=false)
  (h:qal P Gl f as' τ (fun r s=>r=.d v∧s=τ)) (e:∀s,ag.map (qbk ρ s)=as') (hr:∀s,(∀i∈ρ,qae s i=qae σ i)→qdp ρ s=τ)
  (hk:∀N j i,ρ[j]? = some i→qdg (qb3 ρ N) (qae τ j)=qae σ i) :
  ∀s,Ext σ s→qal P Gl f ag s (fun r σ'=>r=.d v∧σ'=s):=fun s hs=>by
 have hb:∀i∈ρ,qae s i=qae σ i:=fun i hi=>by
  obtain⟨q1,q2⟩:=hf i hi
  rcases hs.2 i with h1|h1|h1
  ·rw[q2] at h1;cases h1
  ·exact h1
  ·rw[h1,q1]
 have hlt:∀i∈ρ,i<s.length:=fun i hi=>by
  rcases Nat.lt_or_ge i s.length with h'|h'
  ·exact h'
  ·exfalso
   have h2:qae s i=.dead:=by unfold qae;rw[List.getD_eq_getElem?_getD,List.getElem?_eq_none h'];rfl
   have h3:=(hf i hi).2
   rw[←hb i hi,h2] at h3
   cases h3
 refine(qal.under_new (P:=P) (Gl:=Gl) (σ:=s) (R:=fun r ν=>r=.d v∧ν=[]) ρ τ hnd hlt (hr s hb) (e s) (fun j i hj=>?_) (h.mono fun r s' hh=>⟨[],by rw[hh.2,List.append_nil],hh.1,rfl⟩)).mono fun r s' hh=>?_
 ·rw[hk s.length j i hj,hb i (List.mem_of_getElem? hj)]
 ·obtain⟨r0,ν,⟨rfl,rfl⟩,rfl,rfl⟩:=hh
  refine⟨rfl,?_⟩
  rw[List.map_nil,List.append_nil]
end Go.AM


set_option linter.unusedVariables false
set_option linter.unusedSimpArgs false
namespace Go.AM
open Go.ChangeMaps (setBlock)
structure qwl (w w':World):Prop where
 cell:∀a,w'.cell? a=w.cell? a
 bsize:∀b,qcf w' b=qcf w b
 blk:∀(b:Nat) c t z,w.heap[b]? = some (.cells c t z)→w'.heap[b]? = some (.cells c t z)
 mp:∀(b:Nat) es cl,w.heap[b]? = some (.map es cl)→w'.heap[b]? = some (.map es cl)
 size:w.heap.size≤w'.heap.size
variable {w w':World} {I:Im} {μ:Pos} {σ:Sto}
theorem qdk.cong (s:qwl w w') {v:Value} {x:D} (h:qdk w I v x):qdk w' I v x:=by
 induction h with
 | int k n=>exact .int k n
 | bool b=>exact .bool b
 | str l=>exact .str l
 | raw v h=>exact .raw v h
 | agg vs cs hl hone h ih=>exact .agg vs cs hl hone ih
 | nil a cap=>exact .nil a cap
 | sl b off es cap xs vals hI hcap hes hfl hc hr ih=>exact .sl b off es cap xs vals hI hcap hes hfl (fun i j hi hj=>(s.cell _).trans (hc i j hi hj)) ih
theorem Qe5.cong (s:qwl w w') {b o es:Nat} {xs:List D} (h:Qe5 w I b o es xs):Qe5 w' I b o es xs:=
 ⟨h.imm,h.size,h.flat,fun i j x y hx hy=>by
  obtain⟨v,h1,h2⟩:=h.cell i j x y hx hy
  exact⟨v,(s.cell _).trans h1,h2.cong s⟩⟩
theorem qbg.cong (s:qwl w w') {v:Value} {x:AV} (h:qbg w I μ σ v x):qbg w' I μ σ v x:=by
 induction h with
 | undef v=>exact .undef v
 | d v x h=>exact .d v x (h.cong s)
 | nils=>exact .nils
 | agg vs cs hl hone h ih=>exact .agg vs cs hl hone ih
 | ptr v id off hid h=>exact .ptr v id off hid h
 | eptr b o es xs i off h=>exact .eptr b o es xs i off (h.cong s)
 | aptr v id i off hid h=>exact .aptr v id i off hid h
 | osl v id off len hid h=>
  refine .osl v id off len hid ?_
  rcases h with h|⟨b,base,es,cap,h1,h2,h3⟩
  ·exact .inl h
  ·exact .inr ⟨b,base,es,cap,fun ha=>by obtain⟨p1,p2,p3,p4,p5⟩:=h1 ha;exact⟨p1,p2,p3,p4,by rw[s.bsize];exact p5⟩,h2,h3⟩
 | rsl v id len hid h=>
  obtain⟨b,base,cap,h1,h2,h3⟩:=h
  exact .rsl v id len hid ⟨b,base,cap,fun ha=>by obtain⟨p1,p2⟩:=h1 ha;exact⟨p1,by rw[s.bsize];exact p2⟩,h2,h3⟩
 | fn f vs caps hl h ih=>exact .fn f vs caps hl ih
 | tup vs cs hl h ih=>exact .tup vs cs hl ih
 | iff g v x h1 h2 ih=>exact .iff g v x ih h2
 | mapr v id hid h=>exact .mapr v id hid h
 | anyb b=>exact .anyb b
theorem qdh.cong (s:qwl w w') {b:Nat} (h:qdh w b):qdh w' b:=by
 obtain⟨c,t,h⟩:=h
 exact⟨c,t,s.blk _ _ _ _ h⟩
theorem qev.cong (s:qwl w w') {id:Nat} {B:Blk} (h:qev w I μ σ id B):qev w' I μ σ id B:=by
 cases B with
 | dead=>trivial
 | box n v=>
  obtain⟨b,base,h1,h2,h3,h4,h5,h6⟩:=h
  refine⟨b,base,h1,h2,h3.cong s,by rw[s.bsize];exact h4,h5,fun j hj=>?_⟩
  obtain⟨h7,u,h8,h9⟩:=h6 j hj
  exact⟨h7,u,(s.cell _).trans h8,h9.cong s⟩
 | arr es xs=>
  rcases h with h|⟨b,base,h1,h2,h3,h4,h5,h6,h7⟩
  ·exact .inl h
  ·refine .inr ⟨b,base,h1,h2,h3.cong s,by rw[s.bsize];exact h4,h5,h6,fun i j x y hx hy=>?_⟩
   obtain⟨v,hv,hr⟩:=h7 i j x y hx hy
   exact⟨v,(s.cell _).trans hv,hr.cong s⟩
 | frz es xs=>
  rcases h with h|⟨b,base,h1,h2⟩
  ·exact .inl h
  ·exact .inr ⟨b,base,h1,h2.cong s⟩
 | map ik f=>
  obtain⟨b,es,clock,h1,h2,h3,h4⟩:=h
  exact⟨b,es,clock,h1,h2,⟨s.mp _ _ _ h3.1,h3.2⟩,h4.imp' fun v u hv=>hv.cong s⟩
theorem Rel.cong (s:qwl w w') (h:Rel w I μ σ):Rel w' I μ σ:=
 ⟨fun b hb=>Nat.lt_of_lt_of_le (h.imm b hb) s.size,fun id hid=>(h.blk id hid).cong s,h.apart⟩
theorem qbz.cong (s:qwl w w') {n:Nat} {env:Env} {a:Act} (h:qbz n w I μ σ env a):qbz n w' I μ σ env a:=
 ⟨h.defers,h.size,fun t=>(h.slot t).cong s⟩
theorem qg5.cong (s:qwl w w') {Gl:qbd} (h:qg5 Gl w I):qg5 Gl w' I:=
 ⟨fun p hp=>(h.sl p hp).cong s,fun p hp=>by
  obtain⟨c,t,f,h1,h2⟩:=h.ex p hp
  exact⟨c,t,f,s.blk _ _ _ _ h1,h2⟩⟩
theorem Qiy {r:Nat} {m m':Option Nat} {s s':Nat} {sn sn':Array Nat} {c c':Nat} {w1:World} (hal:w1=w∨w1=w.drew) (hr:w.heap[r]? = some (.mapIter m s sn c)) :
  qwl w (setBlock w1 r (.mapIter m' s' sn' c'))∧(setBlock w1 r (.mapIter m' s' sn' c')).heap[r]? = some (.mapIter m' s' sn' c')∧(∀b,b≠r→(setBlock w1 r (.mapIter m' s' sn' c')).heap[b]? = w.heap[b]?) ∧
  (setBlock w1 r (.mapIter m' s' sn' c')).os=w.os∧(setBlock w1 r (.mapIter m' s' sn' c')).tape=w.tape∧(setBlock w1 r (.mapIter m' s' sn' c')).output=w.output∧(setBlock w1 r (.mapIter m' s' sn' c')).heap.size=w.heap.size:=by
 have hh:w1.heap=w.heap:=by rcases hal with rfl|rfl<;>rfl
 have hos:w1.os=w.os:=by rcases hal with rfl|rfl<;>rfl
 have htp:w1.tape=w.tape:=by rcases hal with rfl|rfl<;>rfl
 have hou:w1.output=w.output:=by rcases hal with rfl|rfl<;>rfl
 have hlt:r<w.heap.size:=by
  rcases Nat.lt_or_ge r w.heap.size with h'|h'
  ·exact h'
  ·rw[Array.getElem?_eq_none h'] at hr;cases hr
 have e0:(setBlock w1 r (.mapIter m' s' sn' c')).heap=w.heap.setIfInBounds r (.mapIter m' s' sn' c'):=by
  show w1.heap.setIfInBounds r _=_
  rw[hh]
 have e1:(setBlock w1 r (.mapIter m' s' sn' c')).heap[r]? = some (.mapIter m' s' sn' c'):=by rw[e0];simp[Array.getElem?_setIfInBounds_self_of_lt hlt]
 have e2:∀b,b≠r→(setBlock w1 r (.mapIter m' s' sn' c')).heap[b]? = w.heap[b]? := fun b hb=>by rw[e0];simp[Array.getElem?_setIfInBounds_ne (Ne.symm hb)]
 have e3:(setBlock w1 r (.mapIter m' s' sn' c')).heap.size=w.heap.size:=by rw[e0];simp
 refine⟨⟨fun a=>?_,fun b=>?_,fun b c t z h=>?_,fun b es cl h=>?_,by rw[e3];exact Nat.le_refl _⟩,e1,e2,hos,htp,hou,e3⟩
 ·by_cases e:a.block=r
  ·subst e
   simp only[World.cell?,hr,e1]
  ·exact World.cell?_of_block (w:=w) (e2 _ e)
 ·by_cases e:b=r
  ·subst e;unfold qcf;rw[hr,e1]
  ·exact qeu (e2 b e)
 ·by_cases e:b=r
  ·subst e;rw[hr] at h;cases h
  ·rw[e2 b e];exact h
 ·by_cases e:b=r
  ·subst e;rw[hr] at h;cases h
  ·rw[e2 b e];exact h
structure Qn5 (w:World) (I:Im) (r mb:Nat) (g:List UInt8→Option D) (since:Nat) (seen:Array Nat) (es:Array MapEntry) (clock:Nat):Prop where
 it:∃c0,w.heap[r]? = some (.mapIter (some mb) since seen c0)∧since≤c0
 mp:w.heap[mb]? = some (.map es clock)
 fr1:I.fr r
 fr2:I.fr mb
 st:MapKept.Stamped es clock
 old:∀x∈es.toList,x.born<since
 sc:since≤clock
 all:∀e∈es.toList,∃l x,e.key=.string ⟨l.toArray⟩∧g l=some x∧qdk w I e.val x
 has:∀l x,g l=some x→∃e∈es.toList,e.key=.string ⟨l.toArray⟩
theorem qin:∀{l:List MapEntry},l.Pairwise (fun x y=>x.key≠y.key)→∀{x y:MapEntry},x∈l→y∈l→x.key=y.key→x=y
 | [],_,_,_,hx,_,_=>by simp at hx
 | a::r,hp,x,y,hx,hy,h=>by
  obtain⟨h1,h2⟩:=List.pairwise_cons.1 hp
  rcases List.mem_cons.1 hx with ex|hx'
  ·rcases List.mem_cons.1 hy with ey|hy'
   ·rw[ex,ey]
   ·exact absurd (ex▸h) (h1 y hy')
  ·rcases List.mem_cons.1 hy with ey|hy'
   ·exact absurd (ey▸h).symm (h1 x hx')
   ·exact qin h2 hx' hy' h
variable {r mb since clock:Nat} {g:List UInt8→Option D} {seen:Array Nat} {es:Array MapEntry}
theorem Qn5.keep {m:Nat} {I':Im} {μ':Pos} {σ':Sto} (h:Qn5 w I r mb g since seen es clock) (k:qcn m w I μ σ w' I' μ' σ'):Qn5 w' I' r mb g since seen es clock:=by
 obtain⟨c0,h1,h2⟩:=h.it
 exact⟨⟨c0,(k.same _ h.fr1).trans h1,h2⟩,(k.same _ h.fr2).trans h.mp,k.fr _ h.fr1,k.fr _ h.fr2,h.st,h.old,h.sc,fun e he=>by
  obtain⟨l,x,a1,a2,a3⟩:=h.all e he
  exact⟨l,x,a1,a2,a3.keep k.imm k.rsame⟩,h.has⟩
theorem Qn5.next {P:Program} (h:Qn5 w I r mb g since seen es clock) (ty:TypeId) :
  ((∀x∈es.toList,seen.contains x.born=true)∧(Instr.next (.pointer (some ⟨r,0,none⟩)) false ty).run P w=.ok (.tuple #[.bool false]) w) ∨
  ∃e∈es.toList,∃w2,(Instr.next (.pointer (some ⟨r,0,none⟩)) false ty).run P w=.ok (.tuple #[.bool true,e.key,e.val]) w2∧Qn5 w2 I r mb g since (seen.push e.born) es clock∧qwl w w2∧(∀b,b≠r→w2.heap[b]? = w.heap[b]?) ∧
   w2.os=w.os∧w2.tape=w.tape∧w2.output=w.output∧w2.heap.size=w.heap.size∧(leftOf es (seen.push e.born)).size<(leftOf es seen).size∧∀w5:World,w5.heap[r]? = w2.heap[r]? → w5.heap[mb]? = w2.heap[mb]? → (Instr.entry (.pointer (some ⟨r,0,none⟩))).run P w5=.ok (.tuple #[e.key,e.val]) w5:=by
 obtain⟨c0,h1,h2⟩:=h.it
 rcases run_next_at (P:=P) w ty r mb since c0 seen es clock h1 h.mp h.old h2 with⟨h0,hrun⟩|⟨e,he,w1,hal,hrun⟩
 ·exact .inl ⟨all_seen es seen h0,hrun⟩
 ·obtain⟨hem,hes⟩:=mem_left he
  obtain⟨s1,s2,s3,s4,s5,s6,s7⟩:=Qiy (m':=some mb) (s':=since) (sn':=seen.push e.born) (c':=clock) hal h1
  have hne:mb≠r:=fun e=>by have h3:=h.mp;rw[e,h1] at h3;cases h3
  have hmp:(setBlock w1 r (.mapIter (some mb) since (seen.push e.born) clock)).heap[mb]? = some (.map es clock):=(s3 mb hne).trans h.mp
  refine .inr ⟨e,hem,_,hrun,⟨⟨clock,s2,h.sc⟩,hmp,h.fr1,h.fr2,h.st,h.old,h.sc,fun x hx=>?_,h.has⟩,s1,s3,s4,s5,s6,s7,left_shrinks es seen e he,fun w5 g1 g2=>?_⟩
  ·obtain⟨l,x,a1,a2,a3⟩:=h.all x hx
   exact⟨l,x,a1,a2,a3.cong s1⟩
  ·exact run_entry_at _ r mb since seen es clock e (g1.trans s2) (g2.trans hmp) hem h.st.2.1
theorem q7d {P:Program} (hR:Rel w I μ σ) {j:Nat} {f:Key→Option AV} (hb:qae σ j=.map none f) (hg:∀l,f (.s l)=(g l).map AV.d) {v:Value} (hv:qbg w I μ σ v (.mapr j)) {t e:TypeId} (ht:qiu P t=some (none,e)) :
  ∃mb w' I' μ' es clock,(Instr.range t v).run P w=.ok (.pointer (some ⟨w.heap.size,0,none⟩)) w'∧Rel w' I' μ' (σ.set j .dead++[.frz 0 []])∧qcn σ.length w I μ σ w' I' μ' (σ.set j .dead++[.frz 0 []]) ∧
   μ' σ.length=some (w.heap.size,0)∧Qn5 w' I' w.heap.size mb g clock #[] es clock∧qbg w' I' μ' (σ.set j .dead++[.frz 0 []]) (.pointer (some ⟨w.heap.size,0,none⟩)) (.ptr σ.length 0):=by
 obtain⟨mb,es,clock,hj,hal,how,h1,h2,⟨h3,h4⟩,h5⟩:=hR.mapOf (id:=j) (by rw[hb];rfl)
 rw[hb] at h5
 change qwm w I μ σ none f es.toList at h5
 obtain⟨kt,d,hu,hd,hi⟩:=ql1 ht
 have ev:v=.map (some mb):=by
  cases hv with
  | mapr _ _ _ hh=>
   obtain⟨b',q1,rfl⟩:=hh
   have:=q1 hal
   rw[h1] at this
   simp only[Option.some.injEq,Prod.mk.injEq,and_true] at this
   rw[this]
 subst ev
 have hmb:mb<w.heap.size:=by
  rcases Nat.lt_or_ge mb w.heap.size with h'|h'
  ·exact h'
  ·rw[Array.getElem?_eq_none h'] at h3;cases h3
 let I':Im:=⟨fun b=>I.rd b∨b=w.heap.size,fun b=>I.fr b∨b=w.heap.size∨b=mb,fun b hb=>hb.elim (fun h=>.inl (I.sub b h)) (fun h=>.inr (.inl h))⟩
 have hold:∀id,id<σ.length→id≠j→qae (σ.set j .dead++[.frz 0 []]) id=qae σ id:=fun id hid hne=>by
  rw[qa8 (by simpa using hid),qbq (Ne.symm hne)]
 have hdead:qae (σ.set j .dead++[.frz 0 []]) j=.dead:=by
  rw[qa8 (by simpa using hj),qbl hj]
 have hnew:qae (σ.set j .dead++[.frz 0 []]) σ.length=.frz 0 []:=by
  have:=@qb5 (σ.set j .dead) (.frz 0 [])
  rwa [List.length_set] at this
 have k:qcn σ.length w I μ σ (w.alloc (.mapIter (some mb) clock #[] clock)) I' (qed μ σ.length (w.heap.size,0)) (σ.set j .dead++[.frz 0 []]):=
  ⟨rfl,rfl,rfl,by simp,fun _ h=>.inl h,fun _ h=>.inl h,fun b hb=>hb.elim .inl fun h=>.inr fun hf=>by have:=hR.imm b hf;omega,fun b hb=>RowKit.Below.heap_alloc _ _ _ (hR.imm b hb),qno w _,by simp,fun id hid ha=>by
   by_cases e:id=j
   ·subst e;unfold qcb at ha;rw[hdead] at ha;cases ha
   ·unfold qcb at ha ⊢
    rw[hold id hid e] at ha ⊢
    exact⟨ha,qc8 _ _ (by omega),rfl,rfl,Nat.le_refl _⟩⟩
 refine⟨mb,_,I',_,es,clock,run_range_map w t kt e mb es clock hu h3,⟨fun b hb=>?_,fun id hid=>?_,fun i q b b' o o' hiq hi hq hmi hmq=>?_⟩,k,qbt _ _ _,?_,?_⟩
 ·rcases hb with hb|rfl|rfl
  ·have:=hR.imm b hb;simp;omega
  ·simp
  ·simp;omega
 ·by_cases e1:id=σ.length
  ·subst e1
   rw[hnew]
   exact .inr ⟨w.heap.size,0,qbt _ _ _,{imm:=.inr rfl,size:=(fun x hx=>(by cases hx)),flat:=(fun x hx=>(by cases hx)),cell:=(fun i j x y hx=>(by simp at hx))}⟩
  ·have hid':id<σ.length:=by simp at hid;omega
   by_cases e2:id=j
   ·subst e2;rw[hdead];trivial
   ·rw[hold id hid' e2]
    refine(hR.blk id hid').keep k (qc8 _ _ e1) fun ho b o hm=>?_
    obtain⟨q1,q2⟩:=qjk hR hid' ho hm
    refine⟨RowKit.Below.heap_alloc _ _ _ q1,fun hn hf=>?_⟩
    rcases hf with hf|hf|hf
    ·exact hn hf
    ·omega
    ·exact hR.apart id j b mb o 0 e2 ho how hm h1 hf
 ·have low:∀x,(qae (σ.set j .dead++[.frz 0 []]) x).own=true→x<σ.length∧x≠j∧(qae σ x).own=true:=fun x hx=>by
   have hl:=qbc hx
   simp only[List.length_append,List.length_set,List.length_cons,List.length_nil] at hl
   by_cases e1:x=σ.length
   ·subst e1;rw[hnew] at hx;cases hx
   ·have hl':x<σ.length:=by omega
    by_cases e2:x=j
    ·subst e2;rw[hdead] at hx;cases hx
    ·rw[hold x hl' e2] at hx;exact⟨hl',e2,hx⟩
  obtain⟨i1,i2,i3⟩:=low i hi
  obtain⟨j1,j2,j3⟩:=low q hq
  rw[qc8 _ _ (by omega)] at hmi hmq
  exact hR.apart i q b b' o o' hiq i3 j3 hmi hmq
 ·refine⟨⟨clock,qfn _ _,Nat.le_refl _⟩,(RowKit.Below.heap_alloc _ _ _ hmb).trans h3,.inr (.inl rfl),.inr (.inr rfl),h4,h4.1,Nat.le_refl _,fun x hx=>?_,fun l x hx=>?_⟩
  ·obtain⟨key,q1,q2⟩:=h5.keys x hx
   cases key with
   | i n=>exact q1.elim
   | s l=>
    cases hgl:g l with
    | none=>
     exact absurd q2 (h5.miss (.s l) trivial (by rw[hg,hgl];rfl) x hx)
    | some y=>
     obtain⟨e',a1,a2,a3⟩:=h5.hit (.s l) (.d y) trivial (by rw[hg,hgl];rfl)
     have:x=e':=qin h5.nodup hx a1 (q2.trans a2.symm)
     subst this
     exact⟨l,y,q2,hgl,a3.inv_d.keep k.imm k.rsame⟩
  ·obtain⟨e',a1,a2,a3⟩:=h5.hit (.s l) (.d x) trivial (by rw[hg,hx];rfl)
   exact⟨e',a1,a2⟩
 ·exact .ptr _ _ _ (by simp) ⟨w.heap.size,0,fun _=>qbt _ _ _,rfl⟩
theorem qc1 {P:Program} {n:Nat} {Gl:qbd} {all:Array Oper} {m:Nat} {K:Env→Sto→Prop} {Q:Exit→Act→World→Prop} (l2:List Oper):∀(ops:List Oper) (env:Env) (σ:Sto),qas P Gl n all false ops env σ K→∀{w:World} {I:Im} {μ:Pos} {a:Act},
  Rel w I μ σ→qg5 Gl w I→qbz n w I μ σ env a→m≤σ.length →
  (∀env' σ' w' I' μ' a',K env' σ'→Rel w' I' μ' σ'→qg5 Gl w' I'→qbz n w' I' μ' σ' env' a'→qcn m w I μ σ w' I' μ' σ'→wpList P all Q l2 a' w')→wpList P all Q (ops++l2) a w
 | [],env,σ,h,w,I,μ,a,hR,hG,hE,hm,hq=>hq env σ w I μ a h hR hG hE (qcn.refl _ _ _ _ hm)
 | o::rest,env,σ,h,w,I,μ,a,hR,hG,hE,hm,hq=>by
  obtain⟨hd,h⟩:=h
  rw[List.cons_append]
  cases hgd:o.guard with
  | none=>
   rw[hgd] at h
   obtain⟨hg,h⟩:=h
   unfold wpList
   rw[if_pos (qhv hgd _)]
   left
   cases hc:qa9 o.op with
   | true=>
    simp only[hc,if_true,Bool.false_eq_true,if_false] at h
    refine Oper.wp_of_call (qgi hR hG hE hg h) fun v w' ⟨r,σ',I',μ',q1,q2,q3,q4⟩=>?_
    exact qc1 l2 rest _ _ q4 q1 (hG.keep q2) ((hE.keep q2).putE hd q3) (Nat.le_trans hm q2.len) fun env' σ2 w2 I2 μ2 a2 k1 k2 k3 k4 k5=>hq env' σ2 w2 I2 μ2 a2 k1 k2 k3 k4 ((q2.mono hm).trans k5)
   | false=>
    simp only[hc,Bool.false_eq_true,if_false] at h
    refine Oper.wp_of_goes (qh0 hR hG hE o hc hg h.1) fun u w' I' μ' q1 q2 q3=>?_
    exact qc1 l2 rest _ _ h.2 q1 (hG.keep q2) ((hE.keep q2).putE hd q3) (Nat.le_trans hm q2.len) fun env' σ2 w2 I2 μ2 a2 k1 k2 k3 k4 k5=>hq env' σ2 w2 I2 μ2 a2 k1 k2 k3 k4 ((q2.mono hm).trans k5)
  | some jb=>
   obtain⟨j,b⟩:=jb
   rw[hgd] at h
   simp only at h
   by_cases ha:qcy o.op=true
   ·rw[if_pos ha] at h
    obtain⟨hs,ht,hg,h1,h2⟩:=h
    have hw:=qfe hE (all:=all) hgd hs
    have hc:qa9 o.op=false:=by
     generalize o.op=op at *
     cases op<;>first|rfl|(simp[qcy] at ha;done)
    unfold wpList
    rw[hw,ht,if_pos rfl]
    left
    refine Oper.wp_of_goes (qh0 hR hG hE o hc hg h1) fun u w' I' μ' q1 q2 q3=>?_
    exact qc1 l2 rest _ _ h2 q1 (hG.keep q2) ((hE.keep q2).putE hd (.iff true _ _ (fun _=>q3) (fun h=>by cases h))) (Nat.le_trans hm q2.len) fun env' σ2 w2 I2 μ2 a2 k1 k2 k3 k4 k5=>hq env' σ2 w2 I2 μ2 a2 k1 k2 k3 k4 ((q2.mono hm).trans k5)
   rw[if_neg ha] at h
   obtain⟨hqt,hs,hg,h⟩:=h
   have hw:=qfe hE (all:=all) hgd hs
   unfold wpList
   cases ht:qaq (qbb all env j) b with
   | false=>
    rw[hw,ht,if_neg (by simp)]
    rw[ht] at h
    have:∃x,qas P Gl n all false rest (putE env o.dst (.iff false x)) σ K:=by
     cases hc:qa9 o.op with
     | true=>simp only[hc,if_true] at h;obtain⟨r0,_,h⟩:=h;exact⟨r0,h⟩
     | false=>simp only[hc,Bool.false_eq_true,if_false] at h;exact⟨_,h.2⟩
    obtain⟨x,hx⟩:=this
    exact qc1 l2 rest _ _ hx hR hG (hE.putE hd (.iff false _ x (fun h=>by cases h) (fun _=>rfl))) hm hq
   | true=>
    rw[hw,ht,if_pos rfl]
    left
    rw[ht] at h hg
    cases hc:qa9 o.op with
    | true=>
     simp only[hc,if_true] at h
     obtain⟨r0,h1,h2⟩:=h
     refine Oper.wp_of_call (qgi hR hG hE hg (h1 trivial σ (Ext.refl σ))) fun v w' ⟨r,σ',I',μ',q1,q2,q3,q4⟩=>?_
     obtain⟨rfl,rfl⟩:=q4
     exact qc1 l2 rest _ _ h2 q1 (hG.keep q2) ((hE.keep q2).putE hd (.iff true _ _ (fun _=>q3) (fun h=>by cases h))) (Nat.le_trans hm q2.len) fun env' σ2 w2 I2 μ2 a2 k1 k2 k3 k4 k5=>hq env' σ2 w2 I2 μ2 a2 k1 k2 k3 k4 ((q2.mono hm).trans k5)
    | false=>
     simp only[hc,Bool.false_eq_true,if_false] at h
     have hgo:=qh0 hR hG hE o hc hg (h.1 trivial)
     rw[qhh hqt] at hgo
     refine Oper.wp_of_goes hgo fun u w' I' μ' q1 q2 q3=>?_
     exact qc1 l2 rest _ _ h.2 q1 (hG.keep q2) ((hE.keep q2).putE hd (.iff true _ _ (fun _=>q3) (fun h=>by cases h))) (Nat.le_trans hm q2.len) fun env' σ2 w2 I2 μ2 a2 k1 k2 k3 k4 k5=>hq env' σ2 w2 I2 μ2 a2 k1 k2 k3 k4 ((q2.mono hm).trans k5)
variable {P:Program} {Gl:qbd} {n m:Nat} {env:Env}
theorem Qko {i1 i2 i3 b0 b1 tM tI tN tB tE:Nat} {all1 all2 all3:Array Oper} {l1 l2 l3:List Oper} {oR oN oE:Oper} {body:Code} {t e:TypeId} {K:qgl→Env→Sto→Prop}
  (a1:all1=(l1++[oR]).toArray) (a2:all2=(oN::l2).toArray) (a3:all3=(oE::l3).toArray)
  (r1:oR.op=.range t (.tmp tM)) (r2:oR.guard=none) (r3:oR.dst=some tI) (n1:oN.op=.next (.tmp tI) false) (n2:oN.guard=none) (n3:oN.dst=some tN) (q1:oE.op=.entry (.tmp tI)) (q2:oE.guard=none) (q3:oE.dst=some tE)
  (u1:tI<n) (u2:tN<n) (u3:tE<n) (ht:qiu P t=some (none,e))
  (h1:qas P Gl n all1 false l1 env σ (fun e1 s1=>∃e2 s2 j f,∃g:List UInt8→Option D,∃E S,∃Good:List UInt8→Prop,qgm n m e1 s1 e2 s2∧qem e2 tM=.mapr j∧qae s2 j=.map none f∧(∀l,f (.s l)=(g l).map AV.d) ∧
   qgm n (s2.length+1) (putE e2 (some tI) (.ptr s2.length 0)) (s2.set j .dead++[.frz 0 []]) E S∧qem E tI=.ptr s2.length 0∧qae S s2.length=.frz 0 [] ∧
   (∀b:Bool,qas P Gl n all2 false l2 (putE E (some tN) (if b=true then .tup [.d (.bool true),.undef,.undef] else .tup [.d (.bool false)])) S (fun e3 s3=>qem e3 tB=.d (.bool b)∧qgm n (s2.length+1) e3 s3 E S)) ∧
   (∀l x,g l=some x→qas P Gl n all3 false l3 (putE E (some tE) (.tup [.d (.str l),.d x])) S (fun e3 s3=>AWp P Gl n (s2.length+1) body e3 s3 (qfs b1 (ql2 (qfs b0 K) fun e4 s4=>Good l∧qgm n (s2.length+1) e4 s4 E S)))) ∧
   ((∀l x,g l=some x→Good l)→K .normal E S))) :
  AWp P Gl n m (.seq (.region i1 all1 false) (.block b0 (.loop (.seq (.region i2 all2 false) (.seq (.cond (.tmp tB) .skip (.exit b0)) (.block b1 (.seq (.region i3 all3 false) body))))))) env σ K:=by
 intro w I μ a hR hG hE hm
 refine wp_seq (wp_region_list ?_)
 rw[show all1.toList=l1++[oR] by rw[a1]]
 refine qc1 [oR] l1 env σ h1 hR hG hE hm fun e1 s1 w1 I1 μ1 act1 hk k2 k3 k4 k5=>?_
 obtain⟨e2,s2,j,f,g,E,S,Good,hw1,hmj,hbj,hg,hw2,hEi,hSi,hnx,hen,hend⟩:=hk
 obtain⟨I2,μ2,w1R,w1E,w1K⟩:=hw1 w1 I1 μ1 act1 k2 k4 k5.len
 have hG2:=k3.keep w1K
 have hmr:qbg w1 I2 μ2 s2 (act1.eval (.tmp tM)) (.mapr j):=by
  have:=w1E.slot tM
  rw[hmj] at this
  exact this
 obtain⟨mb,w2,I3,μ3,es,clock,hrun,R3,K3,hμ3,hIt,hv3⟩:=q7d (P:=P) (t:=t) w1R hbj hg hmr ht
 refine wpList_plain r2 fun K' hK'=>?_
 unfold Oper.wp
 simp only[execOp,r1,hrun,Sem.run_bind,Result.andThen,Sem.run_pure]
 refine hK' _ _ ?_
 rw[r3]
 show(Code.block b0 _).wp P _ _ _
 have E3:qbz n w2 I3 μ3 (s2.set j .dead++[.frz 0 []]) (putE e2 (some tI) (.ptr s2.length 0)) (act1.put (some tI) (.pointer (some ⟨w1.heap.size,0,none⟩))):=(w1E.keep K3).putE (dst:=some tI) (by simpa[qb7] using u1) hv3
 obtain⟨I4,μ4,R4,E4,K4⟩:=hw2 w2 I3 μ3 _ R3 E3 (by simp)
 have hal:qcb S s2.length:=by unfold qcb;rw[hSi];rfl
 have hμ4:μ4 s2.length=some (w1.heap.size,0):=((K4.old s2.length (by omega) hal).2.1).trans hμ3
 have hr0:∀b,I.fr b→b≠w1.heap.size:=fun b hb e=>by
  have h1:=hR.imm b hb
  have h2:=k5.size
  omega
 refine wp_block ?_
 let Inv:Act→World→Prop:=fun a' w'=>∃I' μ' seen,Rel w' I' μ' S∧qg5 Gl w' I'∧qbz n w' I' μ' S E a'∧qcn m w I μ σ w' I' μ' S∧μ' s2.length=some (w1.heap.size,0)∧Qn5 w' I' w1.heap.size mb g clock seen es clock ∧
  (leftOf es seen).size=(leftOf es (w'.iterSeen w1.heap.size)).size∧∀x∈es.toList,seen.contains x.born=true→∃l,x.key=.string ⟨l.toArray⟩∧Good l
 have seenOf:∀{w':World} {I':Im} {seen:Array Nat},Qn5 w' I' w1.heap.size mb g clock seen es clock→w'.iterSeen w1.heap.size=seen:=fun h=>by
  obtain⟨c0,h1,_⟩:=h.it
  unfold World.iterSeen;rw[h1]
 refine wp_loop Inv (fun _ w'=>(leftOf es (w'.iterSeen w1.heap.size)).size) ⟨I4,μ4,#[],R4,(hG2.keep K3).keep K4,E4,((k5.trans w1K).trans (K3.mono w1K.len)).trans (K4.mono (by have:=w1K.len;omega)),hμ4,hIt.keep K4,by rw[seenOf (hIt.keep K4)],fun x hx hc=>by simp at hc⟩ ?_
 rintro a' w' ⟨I',μ',seen,hR',hG',hE',hK',hμ',hI',hsz,hgood⟩
 have hit:a'.eval (.tmp tI)=.pointer (some ⟨w1.heap.size,0,none⟩):=by
  have hs:=hE'.slot tI
  rw[hEi] at hs
  change qbg w' I' μ' S (a'.eval (.tmp tI)) _ at hs
  revert hs
  generalize a'.eval (.tmp tI)=v
  intro hs
  cases hs with
  | ptr _ _ _ hid hh=>
   obtain⟨b,base,g1,g2⟩:=hh
   have:=g1 hal
   rw[hμ'] at this
   simp only[Option.some.injEq,Prod.mk.injEq] at this
   obtain⟨rfl,rfl⟩:=this
   exact g2
 have hlen:s2.length+1≤S.length:=by have:=K4.len;omega
 have hm2:m≤s2.length:=w1K.len
 refine wp_seq (wp_region_list ?_)
 rw[show all2.toList=oN::l2 by rw[a2]]
 refine wpList_plain n2 fun K5 hK5=>?_
 unfold Oper.wp
 simp only[execOp,n1]
 rw[hit]
 rcases hI'.next (P:=P) oN.type with⟨hall,hrun⟩|⟨x,hx,w3,hrun,hI3,hs3,hoth,o1,o2,o3,o4,hlt,hent⟩
 ·simp only[hrun,Sem.run_bind,Result.andThen,Sem.run_pure]
  refine hK5 _ _ ?_
  rw[n3]
  have E5:=qbz.putE (dst:=some tN) hE' (by simpa[qb7] using u2) (show qbg w' I' μ' S (.tuple #[.bool false]) (.tup [.d (.bool false)]) from .tup [.bool false] _ rfl fun i v u hv hu=>by
   cases i with
   | zero=>
    simp only[List.getElem?_cons_zero,Option.some.injEq] at hv hu
    subst hv;subst hu;exact .d _ _ (.bool _)
   | succ i=>simp at hv)
  have hx2:=hnx false
  rw[if_neg (by simp)] at hx2
  refine qdf (m:=s2.length+1) l2 _ _ hx2 hR' hG' E5 hlen fun e3 s3 w5 I5 μ5 a5 hk x1 x2 x3 x4=>?_
  obtain⟨hb,hw⟩:=hk
  obtain⟨I6,μ6,y1,y2,y3⟩:=hw w5 I5 μ5 a5 x1 x3 x4.len
  have hbv:a5.eval (.tmp tB)=.bool false:=by
   have h:=x3.slot tB
   rw[hb] at h
   change qbg w5 I5 μ5 s3 (a5.eval (.tmp tB)) _ at h
   exact(q2a h rfl)
  refine wp_seq (wp_cond_split hbv (fun h=>by cases h) (fun _=>wp_exit ?_))
  simp only[Exit.then,Exit.inBlock,if_true]
  refine⟨.normal,E,S,I6,μ6,trivial,y1,x2.keep y3,y2,hK'.trans ((x4.trans y3).mono (by omega)),hend fun l x hx=>?_⟩
  obtain⟨en,he1,he2⟩:=hI'.has l x hx
  obtain⟨l',e1,e2⟩:=hgood en he1 (hall en he1)
  rw[he2] at e1
  simp only[Value.string.injEq,ByteArray.mk.injEq] at e1
  have e1:l=l':=congrArg Array.toList e1
  rw[e1];exact e2
 ·simp only[hrun,Sem.run_bind,Result.andThen,Sem.run_pure]
  refine hK5 _ _ ?_
  rw[n3]
  have hR3:=hR'.cong hs3
  have hG3:=hG'.cong hs3
  have hE3:=hE'.cong hs3
  have hK3:qcn m w I μ σ w3 I' μ' S:=⟨o1.trans hK'.os,o2.trans hK'.tape,o3.trans hK'.output,by rw[o4];exact hK'.size,hK'.imm,hK'.fr,hK'.rdn,fun b hb=>(hoth b (hr0 b hb)).trans (hK'.same b hb),fun b=>by rw[hs3.bsize];exact hK'.bsize b,hK'.len,hK'.old⟩
  obtain⟨l,xv,hkey,hgl,hval⟩:=hI3.all x hx
  have E5:=qbz.putE (dst:=some tN) hE3 (by simpa[qb7] using u2) (show qbg w3 I' μ' S (.tuple #[.bool true,x.key,x.val]) (.tup [.d (.bool true),.undef,.undef]) from .tup [.bool true,x.key,x.val] _ rfl fun i v u hv hu=>by
   match i with
   | 0=>simp only[List.getElem?_cons_zero,Option.some.injEq] at hv hu;subst hv;subst hu;exact .d _ _ (.bool _)
   | 1=>simp only[List.getElem?_cons_zero,List.getElem?_cons_succ,Option.some.injEq] at hv hu;subst hv;subst hu;exact .undef _
   | 2=>simp only[List.getElem?_cons_zero,List.getElem?_cons_succ,Option.some.injEq] at hv hu;subst hv;subst hu;exact .undef _
   | i+3=>simp at hv)
  have hx2:=hnx true
  rw[if_pos rfl] at hx2
  refine qdf (m:=s2.length+1) l2 _ _ hx2 hR3 hG3 E5 hlen fun e3 s3 w5 I5 μ5 a5 hk x1 x2 x3 x4=>?_
  obtain⟨hb,hw⟩:=hk
  obtain⟨I6,μ6,y1,y2,y3⟩:=hw w5 I5 μ5 a5 x1 x3 x4.len
  have hbv:a5.eval (.tmp tB)=.bool true:=by
   have h:=x3.slot tB
   rw[hb] at h
   change qbg w5 I5 μ5 s3 (a5.eval (.tmp tB)) _ at h
   exact(q2a h rfl)
  have k6:=x4.trans y3
  have hI6:=(hI3.keep x4).keep y3
  refine wp_seq (wp_cond_split hbv (fun _=>wp_skip ?_) (fun h=>by cases h))
  simp only[Exit.then]
  refine wp_block (wp_seq (wp_region_list ?_))
  rw[show all3.toList=oE::l3 by rw[a3]]
  refine wpList_plain q2 fun K7 hK7=>?_
  unfold Oper.wp
  simp only[execOp,q1]
  have hμ6:μ6 s2.length=some (w1.heap.size,0):=((k6.old s2.length (by omega) hal).2.1).trans hμ'
  have hit6:a5.eval (.tmp tI)=.pointer (some ⟨w1.heap.size,0,none⟩):=by
   have hs:=y2.slot tI
   rw[hEi] at hs
   change qbg w5 I6 μ6 S (a5.eval (.tmp tI)) _ at hs
   revert hs
   generalize a5.eval (.tmp tI)=v
   intro hs
   cases hs with
   | ptr _ _ _ hid hh=>
    obtain⟨b,base,g1,g2⟩:=hh
    have:=g1 hal
    rw[hμ6] at this
    simp only[Option.some.injEq,Prod.mk.injEq] at this
    obtain⟨rfl,rfl⟩:=this
    exact g2
  rw[hit6]
  have hent6:(Instr.entry (.pointer (some ⟨w1.heap.size,0,none⟩))).run P w5=.ok (.tuple #[x.key,x.val]) w5:=by
   exact hent w5 (x4.same _ hI3.fr1) (x4.same _ hI3.fr2)
  simp only[hent6,Sem.run_bind,Result.andThen,Sem.run_pure]
  refine hK7 _ _ ?_
  rw[q3]
  have hval6:qdk w5 I6 x.val xv:=by
   have:=(hval.keep x4.imm x4.rsame).keep y3.imm y3.rsame
   exact this
  have E7:=qbz.putE (dst:=some tE) y2 (by simpa[qb7] using u3) (show qbg w5 I6 μ6 S (.tuple #[x.key,x.val]) (.tup [.d (.str l),.d xv]) from .tup [x.key,x.val] _ rfl fun i v u hv hu=>by
   match i with
   | 0=>simp only[List.getElem?_cons_zero,Option.some.injEq] at hv hu;subst hv;subst hu;rw[hkey];exact .d _ _ (.str _)
   | 1=>simp only[List.getElem?_cons_zero,List.getElem?_cons_succ,Option.some.injEq] at hv hu;subst hv;subst hu;exact .d _ _ hval6
   | i+2=>simp at hv)
  have hG6:=(x2.keep y3)
  refine qdf (m:=s2.length+1) l3 _ _ (hen l xv hgl) y1 hG6 E7 hlen fun e7 s7 w7 I7 μ7 a7 hk7 z1 z2 z3 z4=>?_
  refine Code.wp_mono (fun ex a8 w8 q=>?_) (hk7 w7 I7 μ7 a7 z1 z2 z3 z4.len)
  obtain⟨ae,env',σ',I8,μ8,p1,p2,p3,p4,p5,p6⟩:=q
  have kall:qcn (s2.length+1) w3 I' μ' S w8 I8 μ8 σ':=(k6.trans z4).trans p5
  have kout:qcn m w I μ σ w8 I8 μ8 σ':=hK3.trans (kall.mono (by omega))
  have again:(∃e4 s4,env'=e4∧σ'=s4∧Good l∧qgm n (s2.length+1) e4 s4 E S)→Inv a8 w8∧(leftOf es (w8.iterSeen w1.heap.size)).size<(leftOf es (w'.iterSeen w1.heap.size)).size:=by
   rintro⟨e4,s4,rfl,rfl,hgd,hw8⟩
   obtain⟨I9,μ9,v1,v2,v3⟩:=hw8 w8 I8 μ8 a8 p2 p4 p5.len
   have k9:=kall.trans v3
   have hI9:=hI3.keep k9
   refine⟨⟨I9,μ9,seen.push x.born,v1,p3.keep v3,v2,kout.trans (v3.mono (by omega)),((k9.old s2.length (by omega) hal).2.1).trans hμ',hI9,by rw[seenOf hI9],fun y hy hc=>?_⟩,by rw[seenOf hI9,seenOf hI'];exact hlt⟩
   rw[contains_push,Bool.or_eq_true] at hc
   rcases hc with hc|hc
   ·exact hgood y hy hc
   ·have:y=x:=born_inj hI3.st.2.1 hy hx (by simpa using hc)
    subst this
    exact⟨l,hkey,hgd⟩
  cases ex<;>cases ae<;>simp only[Qk0] at p1
  ·exact again ⟨_,_,rfl,rfl,p6⟩
  ·subst p1
   rename_i i0
   simp only[qfs] at p6
   by_cases e1:i0=b1
   ·rw[if_pos e1] at p6
    simp only[Exit.inBlock,Exit.then]
    rw[if_pos e1]
    exact again ⟨_,_,rfl,rfl,p6⟩
   ·rw[if_neg e1] at p6
    simp only[ql2] at p6
    simp only[Exit.inBlock,Exit.then]
    rw[if_neg e1]
    by_cases e2:i0=b0
    ·simp only[qfs,if_pos e2] at p6
     rw[if_pos e2]
     exact⟨.normal,env',σ',I8,μ8,trivial,p2,p3,p4,kout,p6⟩
    ·simp only[qfs,if_neg e2] at p6
     rw[if_neg e2]
     exact⟨.exit i0,env',σ',I8,μ8,rfl,p2,p3,p4,kout,p6⟩
  ·exact⟨.ret,env',σ',I8,μ8,trivial,p2,p3,p4,kout,p6⟩
theorem Qe2 {i1 i2 i3 b0 b1 tM tI tN tB tE:Nat} {x1 x2:Oper} {l2 l3:List Oper} {oR oN oE:Oper} {body:Code} {t e:TypeId} {K:qgl→Env→Sto→Prop}
  (r1:oR.op=.range t (.tmp tM)) (r2:oR.guard=none) (r3:oR.dst=some tI) (n1:oN.op=.next (.tmp tI) false) (n2:oN.guard=none) (n3:oN.dst=some tN) (q1:oE.op=.entry (.tmp tI)) (q2:oE.guard=none) (q3:oE.dst=some tE)
  (u1:tI<n) (u2:tN<n) (u3:tE<n) (ht:qiu P t=some (none,e))
  (h1:qas P Gl n [x1,x2,oR].toArray false [x1,x2] env σ (fun e1 s1=>∃e2 s2 j f,∃g:List UInt8→Option D,∃E S,∃Good:List UInt8→Prop,qgm n m e1 s1 e2 s2∧qem e2 tM=.mapr j∧qae s2 j=.map none f∧(∀l,f (.s l)=(g l).map AV.d) ∧
   qgm n (s2.length+1) (putE e2 (some tI) (.ptr s2.length 0)) (s2.set j .dead++[.frz 0 []]) E S∧qem E tI=.ptr s2.length 0∧qae S s2.length=.frz 0 [] ∧
   (∀b:Bool,qas P Gl n (oN::l2).toArray false l2 (putE E (some tN) (if b=true then .tup [.d (.bool true),.undef,.undef] else .tup [.d (.bool false)])) S (fun e3 s3=>qem e3 tB=.d (.bool b)∧qgm n (s2.length+1) e3 s3 E S)) ∧
   (∀l x,g l=some x→qas P Gl n (oE::l3).toArray false l3 (putE E (some tE) (.tup [.d (.str l),.d x])) S (fun e3 s3=>AWp P Gl n (s2.length+1) body e3 s3 (qfs b1 (ql2 (qfs b0 K) fun e4 s4=>Good l∧qgm n (s2.length+1) e4 s4 E S)))) ∧
   ((∀l x,g l=some x→Good l)→K .normal E S))) :
  AWp P Gl n m (.seq (.region i1 [x1,x2,oR].toArray false) (.block b0 (.loop (.seq (.region i2 (oN::l2).toArray false) (.seq (.cond (.tmp tB) .skip (.exit b0)) (.block b1 (.seq (.region i3 (oE::l3).toArray false) body))))))) env σ K:=
 Qko (l1:=[x1,x2]) rfl rfl rfl r1 r2 r3 n1 n2 n3 q1 q2 q3 u1 u2 u3 ht h1
end Go.AM


namespace Go.AM
inductive Cel where
 | bool
 | int (k:IntKind)
 | str
 | sl (cs:List Cel) (agg:Bool)
mutual
def Qwt:Cel→D→Prop
 | .bool,d=>∃b,d=.bool b
 | .int k,d=>∃i,d=.int k i∧(Lit.int k i).wf=true
 | .str,d=>∃s,d=.str s∧s.length≤maxLen
 | .sl cs g,d=>∃xs,d=.sl xs∧xs.length≤maxLen∧∀x∈xs,qf5 cs x.cells∧x.isAgg=g
def qf5:List Cel→List D→Prop
 | [],ds=>ds=[]
 | c::r,ds=>∃d r',ds=d::r'∧Qwt c d∧qf5 r r'
end
theorem qf5.append:∀{a b:List Cel} {x y:List D},qf5 a x→qf5 b y→qf5 (a++b) (x++y)
 | [],b,x,y,h1,h2=>by
  simp only[qf5] at h1
  subst h1
  simpa using h2
 | c::r,b,x,y,h1,h2=>by
  simp only[qf5] at h1
  obtain⟨d,r',rfl,h3,h4⟩:=h1
  simp only[List.cons_append,qf5]
  exact⟨d,r'++y,rfl,h3,h4.append h2⟩
def q92 (f:TypeId→Option (List Cel)):List Field→Option (List Cel)
 | []=>some []
 | x::r=>match f x.type,q92 f r with
  | some a,some b=>some (a++b)
  | _,_=>none
def qhw (P:Program):Nat→TypeId→Option (List Cel)
 | 0,_=>none
 | n+1,t=>match P.underlying t with
  | some .bool=>some [.bool]
  | some (.int k)=>some [.int k]
  | some .string=>some [.str]
  | some (.slice e)=>match qhw P n e with
   | some cs=>some [.sl cs ((qbm P e).getD false)]
   | none=>none
  | some (.struct fs)=>q92 (qhw P n) fs.toList
  | _=>none
theorem q16 {P:Program}:∀{n:Nat} {t:TypeId} {cs:List Cel} {ds:List D},qhw P n t=some cs→qfu P n t ds→qf5 cs ds
 | 0,t,cs,ds,h,_=>by cases h
 | n+1,t,cs,ds,h,ht=>by
  simp only[qfu] at ht
  unfold qhw at h
  cases hu:P.underlying t with
  | none=>rw[hu] at ht;exact ht.elim
  | some td=>
   rw[hu] at ht h
   cases td<;>simp only at ht h<;>try (exact ht.elim)
   ·obtain⟨b,rfl⟩:=ht
    cases h
    exact⟨_,[],rfl,⟨b,rfl⟩,rfl⟩
   ·obtain⟨i,rfl,hw⟩:=ht
    cases h
    exact⟨_,[],rfl,⟨i,rfl,hw⟩,rfl⟩
   ·obtain⟨s,rfl,hs⟩:=ht
    cases h
    exact⟨_,[],rfl,⟨s,rfl,hs⟩,rfl⟩
   ·obtain⟨xs,rfl,hx,hxs⟩:=ht
    rename_i e
    cases hs:qhw P n e with
    | none=>rw[hs] at h;cases h
    | some cs'=>
     rw[hs] at h
     cases h
     exact⟨_,[],rfl,⟨xs,rfl,hx,fun x hm=>⟨q16 hs (hxs x hm).1,(hxs x hm).2.2⟩⟩,rfl⟩
   ·rename_i fs
    have gen:∀(l:List Field) (cs:List Cel) (ds:List D),q92 (qhw P n) l=some cs→qoe P (qfu P n) l ds→qf5 cs ds:=by
     intro l
     induction l with
     | nil=>
      intro cs ds h1 h2
      cases h1
      simp only[qoe] at h2
      exact h2
     | cons x r ih=>
      intro cs ds h1 h2
      simp only[qoe] at h2
      obtain⟨a,b,rfl,_,h3,h4⟩:=h2
      simp only[q92] at h1
      split at h1
      ·rename_i p q hp hq
       cases h1
       exact(q16 hp h3).append (ih q b hq h4)
      ·cases h1
    exact gen _ _ _ h ht
theorem qun {α:Type} {f:α→D}:∀{xs:List D},(∀x∈xs,∃a,x=f a)→∃l:List α,xs=l.map f
 | [],_=>⟨[],rfl⟩
 | x::r,h=>by
  obtain⟨a,rfl⟩:=h x List.mem_cons_self
  obtain⟨l,rfl⟩:=qun fun y hy=>h y (List.mem_cons_of_mem _ hy)
  exact⟨a::l,rfl⟩
theorem qh4 {α:Type} {f:α→D} {p:α→Prop}:∀{xs:List D},(∀x∈xs,∃a,x=f a∧p a)→∃l:List α,xs=l.map f∧∀a∈l,p a
 | [],_=>⟨[],rfl,fun a ha=>by cases ha⟩
 | x::r,h=>by
  obtain⟨a,rfl,ha⟩:=h x List.mem_cons_self
  obtain⟨l,rfl,hl⟩:=qh4 fun y hy=>h y (List.mem_cons_of_mem _ hy)
  exact⟨a::l,rfl,fun b hb=>by
   rcases List.mem_cons.1 hb with rfl|hb
   ·exact ha
   ·exact hl b hb⟩
theorem Qpx {c:Cel} {x:D} (h:qf5 [c] x.cells) (hg:x.isAgg=false):Qwt c x:=by
 obtain⟨d,r,h1,h2,h3⟩:=h
 have hc:x.cells=[x]:=by cases x<;>first|rfl|(simp[D.isAgg] at hg)
 simp only[qf5] at h3
 subst h3
 rw[hc] at h1
 simp only[List.cons.injEq,and_true] at h1
 rw[h1];exact h2
theorem qld {x:D} {l:List D} (hg:x.isAgg=true) (h:x.cells=l):x=.agg l:=by
 cases x<;>simp_all [D.isAgg,D.cells]
theorem Qlu {P:Program} {n:Nat} {t:TypeId} {x:D} {cs:List Cel} {g:Bool} (h:qv1 P n t x) (hs:qhw P n t=some cs) (hk:(qbm P t).getD false=g):qf5 cs x.cells∧x.isAgg=g:=⟨q16 hs h.1,h.2.trans hk⟩
theorem Qg6 {P:Program} {n:Nat} {t:TypeId} {x:D} {c:Cel} (h:qv1 P n t x) (hs:qhw P n t=some [c]) (hk:(qbm P t).getD false=false):Qwt c x:=Qpx (q16 hs h.1) (h.2.trans hk)
end Go.AM
