/- A part of the proof: an abstract machine over data, and lemmas; nothing of the statement. No condition beyond those stated. -/
import Derived.Test.YtafpldmnkcegmaaGreatG1
import Derived.MapKept
import Derived.WideKeyRuns
set_option linter.all false

namespace Go.AM
variable {P:Program} {w:World} {I:Im} {μ:Pos} {σ:Sto}
def LN:List AV->Int->Int
 | [],a=>a
 | x::r,a=>LN r (if x.num<a then x.num else a)
def LM:List AV->Int->Int
 | [],a=>a
 | x::r,a=>LM r (if x.num>a then x.num else a)
def Mw:AV->IntKind
 | .d (.int k _)=>k
 | _=>.i64
def Oc:List AV->Prop
 | []=>False
 | x::r=>x.Au=true/\∀y∈r,y.Au=true
def VU:List AV->AV
 | []=>.undef
 | x::r=>.d (.int (Mw x) (LN r x.num))
def VS:List AV->AV
 | []=>.undef
 | x::r=>.d (.int (Mw x) (LM r x.num))
def KV{v:Value}{u:AV}(hv:AL w I μ σ v u)(hi:u.Au=true):v=.int (Mw u) u.num:=by
 cases u with
 | d x=>
  have:=hv.Ar;cases this<;>simp_all [AV.Au,AV.num,Mw]
 | _=>simp[AV.Au] at hi
def ff(k:IntKind):∀(vs:List Value) (us:List AV) (a:Int),vs.length=us.length->(∀u∈us,u.Au=true)->(∀(i:Nat) (v:Value) (u:AV),vs[i]? = some v->us[i]? = some u->AL w I μ σ v u) ->
  (vs.foldlM Builtin.min2 (.int k a)).run P w=.ok (.int k (LN us a)) w
 | [],us,a,hl,_,_=>by cases us<;>simp_all [LN]
 | v::vs,us,a,hl,hi,hr=>by
  cases us with
  | nil=>simp at hl
  | cons u us=>
   have e:=KV (hr 0 v u rfl rfl) (hi u DE);subst e;simp only[List.foldlM_cons,Builtin.min2,Sem.run_bind,Sem.run_pure,Result.andThen_ok,LN];exact ff k vs us _ Hb (λy hy=>hi y (Cy _ hy)) λi v u hv hu=>hr (i+1) v u hv hu
def fe(k:IntKind):∀(vs:List Value) (us:List AV) (a:Int),vs.length=us.length->(∀u∈us,u.Au=true)->(∀(i:Nat) (v:Value) (u:AV),vs[i]? = some v->us[i]? = some u->AL w I μ σ v u) ->
  (vs.foldlM Builtin.max2 (.int k a)).run P w=.ok (.int k (LM us a)) w
 | [],us,a,hl,_,_=>by cases us<;>simp_all [LM]
 | v::vs,us,a,hl,hi,hr=>by
  cases us with
  | nil=>simp at hl
  | cons u us=>
   have e:=KV (hr 0 v u rfl rfl) (hi u DE);subst e;simp only[List.foldlM_cons,Builtin.max2,Sem.run_bind,Sem.run_pure,Result.andThen_ok,LM];exact fe k vs us _ Hb (λy hy=>hi y (Cy _ hy)) λi v u hv hu=>hr (i+1) v u hv hu
def wS{ts:Array TypeId}{ty:TypeId}{vs:Array Value}{us:List AV}(hl:vs.size=us.length)(hr:∀(i:Nat) (v:Value) (u:AV),vs[i]? = some v->us[i]? = some u->AL w I μ σ v u)(ho:Oc us):
  ∃z,(Builtin.min_ ts ty vs).run P w=.ok z w/\AL w I μ σ z (VU us):=by
 obtain⟨vs⟩:=vs;cases us with
 | nil=>exact ho.elim
 | cons u us=>
  cases vs with
  | nil=>simp at hl
  | cons v vs=>
   have e:=KV (hr 0 v u rfl rfl) ho.1;subst e;exact⟨_,ff (Mw u) vs us u.num Hb ho.2 (λi v u hv hu=>hr (i+1) v u Ph hu),.d _ _ (.int _ _)⟩
def wR{ts:Array TypeId}{ty:TypeId}{vs:Array Value}{us:List AV}(hl:vs.size=us.length)(hr:∀(i:Nat) (v:Value) (u:AV),vs[i]? = some v->us[i]? = some u->AL w I μ σ v u)(ho:Oc us):
  ∃z,(Builtin.max_ ts ty vs).run P w=.ok z w/\AL w I μ σ z (VS us):=by
 obtain⟨vs⟩:=vs;cases us with
 | nil=>exact ho.elim
 | cons u us=>
  cases vs with
  | nil=>simp at hl
  | cons v vs=>
   have e:=KV (hr 0 v u rfl rfl) ho.1;subst e;exact⟨_,fe (Mw u) vs us u.num Hb ho.2 (λi v u hv hu=>hr (i+1) v u Ph hu),.d _ _ (.int _ _)⟩
def L7(P:Program)(t:TypeId):Option IntKind:=match P.underlying t with|some (.int k)=>some k|_=>none
def xz{s t:TypeId}{k:IntKind}(hk:L7 P t=some k)(hs:(P.underlying s).isSome=true){v:Value}{u:AV}(hv:AL w I μ σ v u)(hi:u.Au=true):
  ∃z,(convert s t v).run P w=.ok z w/\AL w I μ σ z (.d (.int k (k.wrap u.num))):=by
 have hu:P.underlying t=some (.int k):=by
  unfold L7 at hk;split at hk
  ·simp at hk;subst hk;assumption
  cases hk
 obtain⟨d,hd⟩:=Fa.1 hs;have e:=KV hv hi;subst e;refine⟨.int k (k.wrap u.num),?_,.d _ _ (.int _ _)⟩;simp only[convert,Sem.run_bind,run_underlying hd,run_underlying hu,Result.andThen_ok];cases d<;>simp[Conv.intToInt]
def D_(P:Program)(t:TypeId):Option D:=
 match Bj P t with
 | some z=>if(EZ z).Db [] then some ((EZ z).A5 []) else none
 | none=>none
def Sa(w:World)(I:Im)(len es:Nat)(c:Array Value)(xs:List D):Prop:=
 c.size=len*es/\xs.length=len/\(∀x∈xs,x.cells.length=es)/\(∀x∈xs,x.flat)/\∀(i j:Nat) (x y:D),xs[i]? = some x->x.cells[j]? = some y->∃u,c[i*es+j]? = some u/\BU w I u y
def zn{len es:Nat}{c:Array Value}{xs:List D}(h:Sa w I len es c xs){i:Nat}(hi:i<len){v:Value}{x:D}(hv:BU w I v x)(hx:x.cells.length=es):
  Sa w I len es (v.cells.zipIdx.foldl (λcs (x:Value×Nat)=>cs.setIfInBounds (i*es+x.2) x.1) c) (xs.set i x):=by
 obtain⟨h1,h2,h3,h4,h5⟩:=h;obtain⟨vs,c1,c2,c3⟩:=Uk hv;rw[hx] at c2;have hb:i*es+es<=len*es:=by
  have:(i+1)*es<=len*es:=EC es hi;exact Tb
 obtain⟨f1,f2⟩:=Wj (i*es) v.cells vs c1 c oo;refine⟨by rw[f1];exact h1,DN,λz hz=>?_,λz hz=>?_,λi' j z y hz hy=>?_⟩
 ·rcases MZ hz with hz|rfl
  ·exact h3 z hz
  exact hx
 ·rcases MZ hz with hz|rfl
  ·exact h4 z hz
  exact hv.flat
 have hjlt:∀z:D,z.cells.length=es->z.cells[j]? = some y->j<es:=λz hz hy=>by
  exact mR
 by_cases e:i=i'
 ·subst e;rw[Lg oo] at hz;simp only[BF] at hz;subst hz;have hj:=hjlt _ hx hy;rw[f2,AD oo];have:i*es+j-i*es=j:=oo;rw[this];have hlt:j<vs.length:=oo;refine⟨vs[j],BP hlt,?_⟩;have:=(c3 j _ (BP hlt)).1
  rwa [D.cell_of hy] at this
 rw[IX e] at hz;have hj:=hjlt z (h3 z (Dn hz)) hy;obtain⟨u,hu,hr⟩:=h5 i' j z y hz hy;refine⟨u,?_,hr⟩;rw[f2,A7,hu];intro ⟨ha,hb'⟩;rw[c2] at hb';rcases Nat.lt_or_gt_of_ne e with hlt|hgt
 ·have:(i+1)*es<=i'*es:=EC es hlt;exact Tb
 have:(i'+1)*es<=i*es:=EC es hgt;rw[E8] at this;omega
def Js(xs:List D):List (Nat×D)->List D
 | []=>xs
 | (i,x)::r=>Js (xs.set i x) r
def kb{len es:Nat}:∀{parts:List (Nat×D)} {vals:List (Nat×Value)} {c:Array Value} {xs:List D},parts.map Prod.fst=vals.map Prod.fst->(∀p∈parts,p.1<len/\p.2.cells.length=es) ->
  (∀(k:Nat) (p:Nat×D) (q:Nat×Value),parts[k]? = some p->vals[k]? = some q->BU w I q.2 p.2)->Sa w I len es c xs ->
  ∃c',Instr.fill (λi=>some (i*es,es)) c vals=some c'/\Sa w I len es c' (Js xs parts)
 | [],vals,c,xs,hf,_,_,hc=>by
  cases vals with
  | nil=>exact⟨c,rfl,hc⟩
  | cons _ _=>simp at hf
 | (i,x)::parts,vals,c,xs,hf,hp,hr,hc=>by
  cases vals with
  | nil=>simp at hf
  | cons q vals=>
   obtain⟨i',u⟩:=q;simp only[Ci,Zw] at hf;obtain⟨rfl,hf⟩:=hf;obtain⟨p1,p2⟩:=hp (i,x) DE;have hv:BU w I u x:=hr 0 (i,x) (i,u) rfl rfl;obtain⟨vs,c1,c2,_⟩:=Uk hv;have hsz:u.cells.size=es:=by rw[c1];simp only[TG];rw[c2];exact p2
   obtain⟨c',g1,g2⟩:=kb (parts:=parts) (vals:=vals) hf (λp hp'=>hp p (Cy _ hp')) (λk p q hk hq=>hr (k+1) p q hk hq) (zn hc p1 hv p2);refine⟨c',?_,g2⟩;have hb:i*es+es<=len*es:=by
    have:(i+1)*es<=len*es:=EC es p1;exact Tb
   simp only[Instr.fill,hsz];rw[A7]
   ·exact g1
   exact nh
def Xq{e:TypeId}{z:Value}{x:D}(h:D_ P e=some x)(hz:Bj P e=some z)(len es:Nat)(hes:z.cells.size=es):
  Sa w I len es ((Array.range (len*es)).map (z.cells[· % z.cells.size]!)) (List.replicate len x)/\x.cells.length=es/\BU w I z x:=by
 unfold D_ at h;rw[hz] at h;simp only at h;split at h
 ·rename_i hd;simp only[BF] at h;have hrel:Rel w ⟨λ_=>False,λ_=>False,λ_ h=>h⟩ (λ_=>none) []:=⟨λ_ h=>h.elim,λid hid=>by simp at hid,λi j b b' o o' _ hi=>by simp[A1,Blk.own] at hi⟩;have hr0:BU w ⟨λ_=>False,λ_=>False,λ_ h=>h⟩ z ((EZ z).A5 []):=UJ hrel (Um z) hd (λid hid=>by simp[A1,Blk.own]);rw[h] at hr0;have hr:BU w I z x:=hr0.AH (λ_ (h:False)=>h.elim) (λ_ _=>rfl);obtain⟨vs,c1,c2,c3⟩:=Uk hr;have hxl:x.cells.length=es:=by rw[<-c2,<-hes,c1];simp
  refine⟨⟨A6,A6,λy hy=>?_,λy hy=>?_,λi j y y' hy hy'=>?_⟩,hxl,hr⟩
  ·rw[Vp hy];exact hxl
  ·rw[Vp hy];exact hr.flat
  have hi:i<len:=by
   rcases B9 i len with h'|h'
   ·exact h'
   rw[Bt W3] at hy;cases hy
  rw[PX,AD hi] at hy;simp only[BF] at hy;subst hy;have hj:j<es:=by
   rcases B9 j x.cells.length with h'|h'
   ·omega
   rw[Bt h'] at hy';cases hy'
  have hq:i*es+j<len*es:=by
   have:(i+1)*es<=len*es:=EC es hi;exact Tb
  have hjv:j<vs.length:=oo;refine⟨vs[j],?_,?_⟩
  ·simp only[Array.getElem?_map,Array.getElem?_range,hq,By,DF];have e1:(i*es+j) % es=j:=lX;rw[hes,e1,c1];simp[hjv]
  have:=(c3 j _ (BP hjv)).1
  rwa [D.cell_of hy'] at this
 cases h
def Qe(P:Program)(σ:Sto)(t:TypeId)(len:Nat)(parts:List (Nat×AV)):Prop:=
 match B_ P t with
 | some e=>match tsz P e,D_ P e,Bj P e with
  | some es,some _,some z=>0<es/\z.cells.size=es/\0<len/\len*es<=16777216/\∀p∈parts,p.1<len/\p.2.Db σ=true/\(p.2.A5 σ).cells.length=es
  | _,_,_=>False
 | none=>False
def Qv(P:Program)(σ:Sto)(t:TypeId)(len:Nat)(parts:List (Nat×AV)):List D:=
 match B_ P t with
 | some e=>match D_ P e with
  | some x=>Js (List.replicate len x) (parts.map λp=>(p.1,p.2.A5 σ))
  | none=>[]
 | none=>[]
def PH(P:Program)(σ:Sto)(t:TypeId)(len:Nat)(parts:List (Nat×AV)):Sto:=
 freezeL σ (parts.flatMap λp=>p.2.refs)++[.arr (D2 P t) (Qv P σ t len parts)]
def ql(h:Rel w I μ σ){t:TypeId}{len:Nat}{parts:List (Nat×AV)}{vals:Array (Nat×Value)}(hf:parts.map Prod.fst=vals.toList.map Prod.fst)
  (hr:∀(k:Nat) (p:Nat×AV) (q:Nat×Value),parts[k]? = some p->vals.toList[k]? = some q->AL w I μ σ q.2 p.2) (ho:Qe P σ t len parts) :
  ∃z w' I' μ',(Instr.buildSlice t len vals).run P w=.ok z w'/\Rel w' I' μ' (PH P σ t len parts)/\Ay σ.length w I μ σ w' I' μ' (PH P σ t len parts)/\AL w' I' μ' (PH P σ t len parts) z (.A8 σ.length 0 len):=by
 unfold Qe at ho;cases hte:B_ P t with
 | none=>rw[hte] at ho;exact ho.elim
 | some e=>
 rw[hte] at ho;cases hz1:tsz P e with
 | none=>simp[hz1] at ho
 | some es=>
 cases hz2:D_ P e with
 | none=>simp[hz1,hz2] at ho
 | some x0=>
 cases hz3:Bj P e with
 | none=>simp[hz1,hz2,hz3] at ho
 | some zv=>
 simp only[hz1,hz2,hz3] at ho;obtain⟨hes,hzs,hlen,hsmall,hp⟩:=ho;have hap:D2 P t=es:=W5;have hX:Qv P σ t len parts=Js (List.replicate len x0) (parts.map λp=>(p.1,p.2.A5 σ)):=by unfold Qv;rw[hte];simp[hz2]
 unfold PH;rw[hap,hX];obtain⟨I',r1,r2,r3,r4,r5,r6,r7,r8⟩:=On h (parts.flatMap λp=>p.2.refs);generalize hF:freezeL σ (parts.flatMap λp=>p.2.refs)=σ' at *;have hrow:=(Xq (w:=w) (I:=I') hz2 hz3 len es hzs).1;obtain⟨c',g1,g2⟩:=kb (w:=w) (I:=I') (len:=len) (es:=es) (parts:=parts.map λp=>(p.1,p.2.A5 σ)) (vals:=vals.toList) (by rw[Hs];exact hf) (λq hq=>by
   obtain⟨p,hp1,rfl⟩:=C4.1 hq
   exact⟨(hp p hp1).1,(hp p hp1).2.2⟩) (λk q v hk hv=>by
   rw[DG] at hk
   cases hpk:parts[k]? with
   | none=>rw[hpk] at hk;cases hk
   | some p=>
    rw[hpk] at hk
    simp only[DF,BF] at hk
    subst hk
    have hm:=Dn hpk
    have:=UJ r1 ((hr k p v hpk hv).AH r2) (by rw[XZ (λid=>(r5 id).2)];exact(hp p hm).2.1) (λid hid=>r4 id (HZ.2 ⟨p,hm,hid⟩) (SG (hp p hm).2.1 id hid))
    rwa [Xd (λid=>(r5 id).1)] at this) hrow
 obtain⟨i,hi,i1,i3⟩:∃i,P.info? e=some i/\i.size=es/\i.zero=some zv:=by
  unfold tsz at hz1;unfold Bj at hz3;cases hi:P.info? e with
  | none=>rw[hi] at hz1;cases hz1
  | some i=>rw[hi] at hz1 hz3;simp at hz1 hz3;exact⟨i,rfl,hz1,hz3⟩
 have hpos:¬len*es=0:=Nat.ne_of_gt (Nat.mul_pos hlen hes);have hrun:=run_buildSlice (P:=P) w t e len vals c' i zv (Hj hte) hi i3 TQ (by rw[i1];exact hpos) (by rw[i1];exact g1);obtain⟨q1,q2,q3,q4,q5⟩:=g2;have hnew:=r1.Gq c' e es (Js (List.replicate len x0) (parts.map λp=>(p.1,p.2.A5 σ))) (by rw[q2,q1];exact AR _) q3 q4 q5;have hk:=Jt r1 (.cells c' e) (w.heap.size,0) (.arr es (Js (List.replicate len x0) (parts.map λp=>(p.1,p.2.A5 σ))));refine⟨_,_,I',_,hrun,hnew,?_,?_⟩
 ·rw[r3] at hk ⊢;exact r2.trans hk
 refine .A8 _ _ _ _ (by rw[Bb,r3];simp) (.inr ⟨w.heap.size,0,es,len,λ_=>?_,AR _,A6⟩);have eb:A1 (σ'++[.arr es (Js (List.replicate len x0) (parts.map λp=>(p.1,p.2.A5 σ)))]) σ.length=.arr es (Js (List.replicate len x0) (parts.map λp=>(p.1,p.2.A5 σ))):=by rw[<-r3];exact Cd
 rw[eb];refine⟨by rw[<-r3];exact Eh _ _ _,rfl,rfl,by simp[Blk.xs,q2],?_⟩;rw[Kb,q1];simp
def qu(h:Rel w I μ σ){t e:TypeId}{es:Nat}(hte:B_ P t=some e)(hz:tsz P e=some es):
  ∃z w' μ',(Instr.buildSlice t 0 #[]).run P w=.ok z w'/\Rel w' I μ' (σ++[.arr es []])/\Ay σ.length w I μ σ w' I μ' (σ++[.arr es []])/\AL w' I μ' (σ++[.arr es []]) z (.A8 σ.length 0 0):=by
 have hnew:=h.Gq #[] e es [] A6 (λx hx=>Me) (λx hx=>Me) (λi j x y hx=>Me);have hk:=Jt h (.cells #[] e) (w.heap.size,0) (.arr es []);refine⟨.slice (some ⟨w.heap.size,0,none⟩) 0 0,_,_,?_,hnew,hk,.A8 _ _ _ _ A6 (.inl ⟨rfl,_,rfl⟩)⟩;simp[Instr.buildSlice,run_underlying (Hj hte),Ju hz,Instr.fill,newRow,Array.range_zero']
def P7(P:Program)(t:TypeId)(l c:AV):Prop:=
 match B_ P t with
 | some e=>match tsz P e,E_ P e,D_ P e,Bj P e with
  | some es,some CD,some _,some z=>z.cells.size=es/\l.Au=true/\c.Au=true/\0<=l.num/\l.num<=c.num/\(CD:Int)*c.num<=281474976710656/\c.num<=9223372036854775807
  | _,_,_,_=>False
 | none=>False
def mkZ(P:Program)(e:TypeId):Option D:=
 match Bj P e with
 | some (.slice none 0 0)=>some (.raw (.slice none 0 0))
 | _=>D_ P e
def mkX(P:Program)(t:TypeId)(l:AV):List D:=
 match B_ P t with
 | some e=>match mkZ P e with
  | some x=>List.replicate l.num.toNat x
  | none=>[]
 | none=>[]
def mkS(P:Program)(σ:Sto)(t:TypeId)(l:AV):Sto:=σ++[.arr (D2 P t) (mkX P t l)]
def qf(h:Rel w I μ σ){t:TypeId}{lv cv:Value}{l c:AV}(hl:AL w I μ σ lv l)(hc:AL w I μ σ cv c)(ho:P7 P t l c):
  ∃z w' μ',(Instr.makeSlice t lv cv).run P w=.ok z w'/\Rel w' I μ' (mkS P σ t l)/\Ay σ.length w I μ σ w' I μ' (mkS P σ t l)/\AL w' I μ' (mkS P σ t l) z (.A8 σ.length 0 l.num.toNat):=by
 unfold P7 at ho;cases hte:B_ P t with
 | none=>rw[hte] at ho;exact ho.elim
 | some e=>
 rw[hte] at ho;cases hz1:tsz P e with
 | none=>simp[hz1] at ho
 | some es=>
 cases hz4:E_ P e with
 | none=>simp[hz1,hz4] at ho
 | some CD=>
 cases hz2:D_ P e with
 | none=>simp[hz1,hz4,hz2] at ho
 | some x0=>
 cases hz3:Bj P e with
 | none=>simp[hz1,hz4,hz2,hz3] at ho
 | some zv=>
 simp only[hz1,hz4,hz2,hz3] at ho;obtain⟨hzs,li,ci,l0,lc,hb,h63⟩:=ho;obtain⟨i,hi,i1,i2,i3⟩:=Yd hz1 hz4 hz3;have e1:=KV hl li;have e2:=KV hc ci;subst e1;subst e2;have hap:D2 P t=es:=W5;obtain⟨x1,hx1,hxx⟩:∃x1,mkZ P e=some x1/\(x1=x0\/(zv=.slice none 0 0/\x1=.raw (.slice none 0 0))):=by
  unfold mkZ;rw[hz3];split
  ·rename_i q;cases q;exact⟨_,rfl,.inr ⟨rfl,rfl⟩⟩
  exact⟨x0,hz2,.inl rfl⟩
 have hX:mkX P t l=List.replicate l.num.toNat x1:=by unfold mkX;rw[hte];simp[hx1]
 unfold mkS;rw[hap,hX];have hrun:=run_make (P:=P) w t e i zv (Hj hte) hi i3 (Mw l) (Mw c) l.num c.num l0 lc (by rw[i2];exact hb) h63;obtain⟨⟨q1,q2,q3,q4,q5⟩,_,_⟩:=Xq (w:=w) (I:=I) hz2 hz3 c.num.toNat es hzs;have hle:l.num.toNat<=c.num.toNat:=oo;have hmc:madeCells zv.cells (c.num.toNat*i.size)=(Array.range (c.num.toNat*es)).map (zv.cells[· % zv.cells.size]!):=by rw[i1];rfl
 rw[hmc] at hrun;generalize hC:(Array.range (c.num.toNat*es)).map (zv.cells[· % zv.cells.size]!)=C at *;obtain⟨q3,q4,q5⟩:(∀x∈List.replicate c.num.toNat x1,x.cells.length=es)/\(∀x∈List.replicate c.num.toNat x1,x.flat)/\(∀(i j:Nat) (x y:D),(List.replicate c.num.toNat x1)[i]? = some x->x.cells[j]? = some y->∃u,C[i*es+j]? = some u/\BU w I u y):=by
  rcases hxx with rfl|⟨rfl,rfl⟩
  ·exact⟨q3,q4,q5⟩
  have he1:es=1:=hzs.symm;refine⟨λx hx=>?_,λx hx=>?_,λi j x y hx hy=>?_⟩
  ·rw[(List.mem_replicate.1 hx).2,he1];rfl
  ·rw[(List.mem_replicate.1 hx).2];intro c hc;have:c=D.raw (.slice none 0 0):=by simpa[D.cells] using hc
   rw[this];rfl
  rw[PX] at hx;split at hx
  ·rename_i hi';cases hx;have hj:j=0:=by
    cases j with
    | zero=>rfl
    | succ j=>simp[D.cells] at hy
   subst hj;have hyx:y=D.raw (.slice none 0 0):=by simpa[D.cells] using hy.symm
   rw[hyx];refine⟨.slice none 0 0,?_,.raw _ rfl⟩;have hm:∀k,(Value.slice none 0 0).cells[k % (Value.slice none 0 0).cells.size]! = .slice none 0 0:=λk=>by
    have:k % (Value.slice none 0 0).cells.size=0:=Nat.mod_one k;rw[this];rfl
   rw[<-hC,he1];simp only[hm];simp[hi']
  cases hx
 have hsub:∀(i:Nat) (x:D),(List.replicate l.num.toNat x1)[i]? = some x->(List.replicate c.num.toNat x1)[i]? = some x:=λi x hx=>by
  rw[PX] at hx ⊢;split at hx
  ·rw[AD oo];exact hx
  cases hx
 have hmem:∀x∈List.replicate l.num.toNat x1,x∈List.replicate c.num.toNat x1:=λx hx=>by
  obtain⟨i,hi⟩:=GF hx;exact Dn (hsub i x hi)
 have hnew:=h.Gq C e es (List.replicate l.num.toNat x1) (by rw[q1,IY];exact EC es hle) (λx hx=>q3 x (hmem x hx)) (λx hx=>q4 x (hmem x hx))
  (λi j x y hx hy=>q5 i j x y (hsub i x hx) hy)
 have hk:=Jt h (.cells C e) (w.heap.size,0) (.arr es (List.replicate l.num.toNat x1));refine⟨_,_,_,hrun,hnew,hk,.A8 _ _ _ _ A6 (.inr ⟨w.heap.size,0,es,c.num.toNat,λ_=>?_,hle,A6⟩)⟩;rw[Cd];refine⟨Eh _ _ _,rfl,rfl,RH,?_⟩;rw[Kb,q1];simp
end Go.AM


namespace Go.AM
open Go.MapKept (IsKey run_findKey run_checkKey sameNow_of_keys)
variable {P:Program} {w:World} {I:Im} {μ:Pos} {σ:Sto}
def Sj(P:Program)(kt:TypeId):Option IntKind->Prop
 | some .u8=>Lv P 6 kt=some [0,0]/\((∃fs,P.underlying kt=some (.struct fs)/\Z9 P fs=true)\/∃el,P.underlying kt=some (.array 2 el)/\Qh P el=true)
 | some ik=>P.underlying kt=some (.int ik)
 | none=>P.underlying kt=some .string
def SB{t:TypeId}{ik:Option IntKind}{e:TypeId}(h:Co P t=some (ik,e)):∃k,P.underlying t=some (.map k e)/\Sj P k ik:=by
 unfold Co at h;split at h
 ·rename_i k e' hu;split at h
  ·rename_i q hk;split at h
   ·cases h
   rename_i hq;simp only[BF,EO] at h;obtain⟨rfl,rfl⟩:=h;refine⟨k,hu,?_⟩;cases q<;>first|exact hk|exact absurd rfl hq
  ·rename_i hk;simp only[BF,EO] at h;obtain⟨rfl,rfl⟩:=h;exact⟨k,hu,hk⟩
  ·rename_i fs hk;split at h
   ·rename_i hc;simp only[BF,EO] at h;obtain⟨rfl,rfl⟩:=h;simp only[C5,GR] at hc;exact⟨k,hu,hc.2,.inl ⟨fs,hk,hc.1⟩⟩
   cases h
  ·rename_i n el hk;split at h
   ·rename_i hc;simp only[BF,EO] at h;obtain⟨rfl,rfl⟩:=h;simp only[C5,GR,CZ] at hc;obtain⟨⟨rfl,h2⟩,h3⟩:=hc;exact⟨k,hu,h3,.inr ⟨el,hk,h2⟩⟩
   cases h
  cases h
 cases h
def YY{ik:Option IntKind}{v:Value}{u:AV}(hv:AL w I μ σ v u)(hk:Hf ik u):F3 ik (CK u)/\v=DL ik (CK u):=by
 unfold Hf at hk;split at hk
 ·obtain⟨rfl,hne⟩:=hk;rename_i k n;cases hv.Ar;refine⟨?_,rfl⟩;cases k<;>first|trivial|exact absurd rfl hne
 ·subst hk;rename_i a b;cases hv.Ar with
  | agg vs cs hl _ hh=>
   refine⟨trivial,?_⟩
   match vs,hl with
   | [x,y],_=>
    have h0:=hh 0 x _ rfl rfl;have h1:=hh 1 y _ rfl rfl;cases h0;cases h1;rfl
 ·subst hk;cases hv.Ar;exact⟨trivial,rfl⟩
 exact hk.elim
def VJ{ik:Option IntKind}{n:Int}(h:F3 ik (.i n)):∃k,ik=some k/\k≠.u8:=by
 cases ik with
 | none=>cases h
 | some k=>cases k<;>first|exact⟨_,rfl,D7⟩|exact h.elim
def VL{ik:Option IntKind}{l:List UInt8}(h:F3 ik (.s l)):ik=none:=by
 cases ik with
 | none=>rfl
 | some k=>cases k<;>cases h
def VK{ik:Option IntKind}{a b:Int}(h:F3 ik (.p a b)):ik=some .u8:=by
 cases ik with
 | none=>cases h
 | some k=>cases k<;>first|rfl|cases h
def SF{ik:Option IntKind}{k k':Aw}(h:F3 ik k)(h':F3 ik k')(e:DL ik k=DL ik k'):k=k':=by
 cases k<;>cases k'<;>simp_all [DL]
def UH{el:TypeId}(h:Qh P el=true){cs:Array Value}{o:Nat}{v:Value}(hv:cs[o]? = some v):(part el cs o).run P w=.ok v w/\(sizeOf el).run P w=.ok 1 w/\∀em n,(Instr.checkKey em (n+1) el v).run P w=.ok () w:=by
 unfold Qh at h;split at h
 ·rename_i hu;have h:=Es h;have hp:P.plainKey el=true:=by unfold Program.plainKey;rw[hu]
  refine⟨Go.run_part_plain w hp hv,Ju h,λem n=>?_⟩;unfold Instr.checkKey;simp[run_underlying hu]
 cases h
def Uw{ik:Option IntKind}{kt:TypeId}(hT:Sj P kt ik){k:Aw}(hk:F3 ik k)(em:Bool):(Instr.checkKey em 10000 kt (DL ik k)).run P w=.ok () w:=by
 cases k with
 | i n=>
  obtain⟨q,rfl,hq⟩:=VJ hk;have hd:P.underlying kt=some (.int q):=lW;exact run_checkKey hd (show IsKey (.int q) (.int q n) from rfl) em 9999
 | s l=>
  have:=VL hk;subst this;exact run_checkKey hT (show IsKey .string (.string _) from trivial) em 9999
 | p a b=>
  have:=VK hk;subst this;obtain⟨_,hp⟩:=hT;show(Instr.checkKey em (9999+1) kt (.agg #[.int .i64 a,.int .i64 b])).run P w=.ok () w;rcases hp with⟨fs,hu,hp⟩|⟨el,hu,hp⟩
  ·unfold Z9 at hp;split at hp
   ·rename_i f g hfs;simp only[C5,CZ] at hp;obtain⟨⟨⟨⟨⟨hf1,hg1⟩,hf2⟩,hg2⟩,hf3⟩,hg3⟩:=hp;have e:fs=#[f,g]:=by rw[<-Array.toArray_toList (xs:=fs),hfs]
    subst e;obtain⟨p1,p0,p2⟩:=UH (w:=w) hf3 (cs:=#[.int .i64 a,.int .i64 b]) (o:=0) (v:=.int .i64 a) rfl;obtain⟨p3,_,p4⟩:=UH (w:=w) hg3 (cs:=#[.int .i64 a,.int .i64 b]) (o:=1) (v:=.int .i64 b) rfl;have p5:=p2 em 9998;have p6:=p4 em 9998;rw[Instr.checkKey];simp[run_underlying hu,hf1,hg1,hf2,hg2,p1,p3,p5,p6]
   cases hp
  obtain⟨p1,p0,p2⟩:=UH (w:=w) hp (cs:=#[.int .i64 a,.int .i64 b]) (o:=0) (v:=.int .i64 a) rfl;obtain⟨p3,_,p4⟩:=UH (w:=w) hp (cs:=#[.int .i64 a,.int .i64 b]) (o:=1) (v:=.int .i64 b) rfl;have p5:=p2 em 9998;have p6:=p4 em 9998;rw[Instr.checkKey];simp[run_underlying hu,List.range',p0,p1,p3,p5,p6]
def Qd8(I:Im){kt:TypeId}(hT:Sj P kt (some .u8))(a b c d:Int):(Op.equal kt (.agg #[.int .i64 a,.int .i64 b]) (.agg #[.int .i64 c,.int .i64 d])).run P w=.ok (a==c&&b==d) w:=by
 obtain⟨hK,hp⟩:=hT;obtain⟨g,hk,_,hsp⟩:=Xl (P:=P) (w:=w) (I:=I) 6 kt [0,0] hK;have hg:g=true:=by
  unfold BR at hk;rcases hp with⟨fs,hu,_⟩|⟨el,hu,_⟩<;>(rw[hu] at hk;simpa using hk.symm)
 subst hg;have sg:∀x y:Int,J9 w I (.agg #[.int .i64 x,.int .i64 y]) true [.int .i64 x,.int .i64 y]:=λx y=>by
  unfold J9;rw[AD rfl];refine⟨[.int .i64 x,.int .i64 y],rfl,rfl,λi u z hu hz=>?_⟩
  match i with
  | 0=>simp at hu hz;subst hu;subst hz;exact .int _ _
  | 1=>simp at hu hz;subst hu;subst hz;exact .int _ _
  | i+2=>simp at hu
 have:=hsp (sg a b) (sg c d) rfl 10000 oo;refine this.trans ?_;simp[EX,D.HW]
def d_(I:Im){kt:TypeId}(hT:Sj P kt (some .u8))(a b:Int):∀(es:List MapEntry) (i:Nat),(∀e∈es,∃c d,e.key=.agg #[.int .i64 c,.int .i64 d]) ->
  (∃e n,es[n]? = some e/\e.key=.agg #[.int .i64 a,.int .i64 b]/\(Instr.findAsking kt (.agg #[.int .i64 a,.int .i64 b]) es i).run P w=.ok (some (i+n,e.val)) w)\/((∀e∈es,e.key≠.agg #[.int .i64 a,.int .i64 b])/\(Instr.findAsking kt (.agg #[.int .i64 a,.int .i64 b]) es i).run P w=.ok none w)
 | [],i,_=>.inr ⟨λe he=>by simp at he,by simp[Instr.findAsking]⟩
 | e::es,i,h=>by
  obtain⟨c,d,hk⟩:=h e DE;have he:=Qd8 (P:=P) (w:=w) I hT a b c d;rw[<-hk] at he;by_cases hq:a=c/\b=d
  ·obtain⟨rfl,rfl⟩:=hq;refine .inl ⟨e,0,rfl,hk,?_⟩;simp[Instr.findAsking,he]
  have hb:(a==c&&b==d)=false:=by
   rw[F_];intro hc;simp only[C5,GR] at hc;exact hq hc
  rw[hb] at he;have hf:(Instr.findAsking kt (.agg #[.int .i64 a,.int .i64 b]) (e::es) i).run P w=(Instr.findAsking kt (.agg #[.int .i64 a,.int .i64 b]) es (i+1)).run P w:=by simp[Instr.findAsking,he]
  rw[hf];rcases d_ I hT a b es (i+1) (λe' he'=>h e' (Cy _ he')) with⟨e',n,q1,q2,q3⟩|⟨q1,q2⟩
  ·exact .inl ⟨e',n+1,by simpa using q1,q2,by rw[q3];congr 3;omega⟩
  refine .inr ⟨λe' he'=>?_,q2⟩;rcases Bw.1 he' with rfl|he'
  ·rw[hk];intro hc;simp at hc;exact hq ⟨hc.1.symm,hc.2.symm⟩
  exact q1 e' he'
def Us(I:Im){ik:Option IntKind}{kt:TypeId}(hT:Sj P kt ik){k:Aw}(hk:F3 ik k):∀(es:List MapEntry),(∀e∈es,∃k',F3 ik k'/\e.key=DL ik k') ->
  (∃e n,es[n]? = some e/\e.key=DL ik k/\(Instr.findKey kt (DL ik k) es).run P w=.ok (some (n,e.val)) w)\/((∀e∈es,e.key≠DL ik k)/\(Instr.findKey kt (DL ik k) es).run P w=.ok none w):=λes h=>by
 have plain:∀d,P.underlying kt=some d->IsKey d (DL ik k)->(∀e∈es,IsKey d e.key)->(∃e n,es[n]? = some e/\e.key=DL ik k/\(Instr.findKey kt (DL ik k) es).run P w=.ok (some (n,e.val)) w)\/((∀e∈es,e.key≠DL ik k)/\(Instr.findKey kt (DL ik k) es).run P w=.ok none w):=λd hd h1 h2=>by
  rcases Go.MapKept.findNow_spec h1 es 0 h2 with⟨q1,q2⟩|⟨j,e,q1,q2,q3⟩
  ·exact .inr ⟨q2,run_findKey hd q1⟩
  rw[EU] at q1;exact .inl ⟨e,j,q2,q3,run_findKey hd q1⟩
 cases k with
 | i n=>
  obtain⟨q,rfl,hq⟩:=VJ hk;have hd:P.underlying kt=some (.int q):=lW;refine plain _ hd (show IsKey (.int q) (.int q n) from rfl) λe he=>?_;obtain⟨k',f',e'⟩:=h e he;rw[e'];cases k' with
  | i m=>exact(show IsKey (.int q) (.int q m) from rfl)
  | s l=>exact absurd (VL f') A6
  | p a b=>have:=VK f';simp at this;exact absurd this hq
 | s l=>
  have:=VL hk;subst this;refine plain _ hT (show IsKey .string (.string _) from trivial) λe he=>?_;obtain⟨k',f',e'⟩:=h e he;rw[e'];cases k' with
  | i m=>obtain⟨_,h',_⟩:=VJ f';cases h'
  | s l=>exact(show IsKey .string (.string _) from trivial)
  | p a b=>have:=VK f';cases this
 | p a b=>
  have:=VK hk;subst this;have hw:(match P.underlying kt with|some (.array _ _)|some (.struct _)=>true|_=>false)=true:=by
   rcases hT.2 with⟨fs,hu,_⟩|⟨el,hu,_⟩<;>rw[hu]
  rw[show DL (some .u8) (.p a b)=.agg #[.int .i64 a,.int .i64 b] from rfl];rw[run_findKey_eq w hw];have:=d_ (P:=P) (w:=w) I hT a b es 0 λe he=>by
   obtain⟨k',f',e'⟩:=h e he;cases k' with
   | i m=>obtain⟨_,h',h2⟩:=VJ f';simp at h';exact absurd h'.symm h2
   | s l=>cases VL f'
   | p c d=>exact⟨c,d,e'⟩
  exact Ll
def Rel.mapOf(h:Rel w I μ σ){id:Nat}(hb:(A1 σ id).CC=true):∃b es clock,id<σ.length/\Br σ id/\(A1 σ id).own=true/\μ id=some (b,0)/\¬I.fr b/\(w.heap[b]? = some (.map es clock)/\MapKept.Stamped es clock)/\KH w I μ σ (A1 σ id).mk (A1 σ id).mf es.toList:=by
 cases hB:A1 σ id with
 | map ik f=>
  have ho:(A1 σ id).own=true:=ER;have hid:=E2 ho;have:=h.D6 id hid;rw[hB] at this;obtain⟨b,es,clock,h1,h2,h3,h4⟩:=this;exact⟨b,es,clock,hid,Mg,rfl,h1,h2,h3,h4⟩
 | _=>rw[hB] at hb;simp[Blk.CC] at hb
def lkV(σ:Sto)(z m k:AV)(ok:Bool):AV:=if ok=true then .Aj [(lkF σ m (CK k)).getD z,.d (.bool (lkF σ m (CK k)).isSome)] else(lkF σ m (CK k)).getD z
def Qgf{e:TypeId}{z:Value}(hz:Bj P e=some z):AL w I μ σ z (Cp P e):=by
 unfold Cp;rw[hz];exact Um z
def wj{v1 v2:Value}{u1 u2:AV}(h1:AL w I μ σ v1 u1)(h2:AL w I μ σ v2 u2):AL w I μ σ (.tuple #[v1,v2]) (.Aj [u1,u2]):=
 .Aj [v1,v2] [u1,u2] rfl λi v u hv hu=>by
  match i with
  | 0=>simp at hv hu;subst hv;subst hu;exact h1
  | 1=>simp at hv hu;subst hv;subst hu;exact h2
  | i+2=>simp at hv
def ry(h:Rel w I μ σ){t:TypeId}{ik:Option IntKind}{e:TypeId}(ht:Co P t=some (ik,e)){mv kv:Value}{m k:AV}(hm:AL w I μ σ mv m)(hk:AL w I μ σ kv k)(hko:Hf ik k)(ho:P6 σ ik m)
  (hz:(Bj P e).isSome=true) (ok:Bool):∃z,(Instr.lookup t mv kv ok).run P w=.ok z w/\AL w I μ σ z (lkV σ (Cp P e) m k ok):=by
 obtain⟨kt,hu,hT⟩:=SB ht;obtain⟨z0,hz⟩:=Fa.1 hz;obtain⟨hf,rfl⟩:=YY hk hko;have hzr:=Qgf (P:=P) (w:=w) (I:=I) (μ:=μ) (σ:=σ) hz;have hzrun:=YH (P:=P) (w:=w) hz;have fin:∀(v:Value) (b:Bool) (u:AV),AL w I μ σ v u->AL w I μ σ (if ok=true then .tuple #[v,.bool b] else v) (if ok=true then .Aj [u,.d (.bool b)] else u):=λv b u hr=>by
  cases ok with
  | true=>exact wj hr (.d _ _ (.bool _))
  | false=>exact hr
 cases m with
 | AF id=>
  obtain⟨hb,hik⟩:=ho;obtain⟨b,es,clock,_,hal,_,h1,_,⟨h3,hst⟩,hM⟩:=h.mapOf hb;cases hm with
  | AF _ _ _ hh=>
   obtain⟨b',h4,rfl⟩:=hh;have:=h4 hal;rw[h1] at this;simp only[BF,EO,PS] at this;subst this;rw[hik] at hM;have hck:=Uw (P:=P) (w:=w) hT hf es.isEmpty;rcases Us (P:=P) (w:=w) I hT hf es.toList hM.keys with⟨en,n,q1,q2,hrun⟩|⟨q1,hrun⟩
   ·have hsome:∃u,(A1 σ id).mf (CK k)=some u/\AL w I μ σ en.val u:=by
     cases hfk:(A1 σ id).mf (CK k) with
     | none=>exact absurd q2 (hM.Gr _ hf hfk en (Dn q1))
     | some u=>
      obtain⟨e2,r1,r2,r3⟩:=hM.Iw _ u hf hfk;have:e2=en:=by
       apply PY;intro hne;have hp:=hM.nodup;rw[Hv] at hp;obtain⟨i2,hi2⟩:=GF r1;have hl2:i2<es.toList.length:=by
        rcases B9 i2 es.toList.length with h'|h'
        ·exact h'
        rw[Bt h'] at hi2;cases hi2
       have hl1:n<es.toList.length:=by
        rcases B9 n es.toList.length with h'|h'
        ·exact h'
        rw[Bt h'] at q1;cases q1
       rw[BP hl1] at q1;rw[BP hl2] at hi2;simp only[BF] at q1 hi2;rcases HA n i2 with hlt|heq|hgt
       ·exact hp n i2 hl1 hl2 hlt (by rw[q1,hi2,q2,r2])
       ·subst heq;exact hne (hi2.symm.trans q1)
       exact hp i2 n hl2 hl1 hgt (by rw[q1,hi2,q2,r2])
      subst this;exact⟨u,rfl,r3⟩
    obtain⟨u,hu1,hu2⟩:=hsome;refine⟨if ok=true then .tuple #[en.val,.bool true] else en.val,?_,?_⟩
    ·simp only[Instr.lookup,Sem.run_bind,run_underlying hu,Result.andThen_ok,MapKept.run_getObj_map h3,hck,hrun,Sem.run_pure]
    have e0:lkF σ (.AF id) (CK k)=some u:=hu1;unfold lkV;rw[e0];exact fin en.val true u hu2
   have hnone:(A1 σ id).mf (CK k)=none:=by
    cases hfk:(A1 σ id).mf (CK k) with
    | none=>rfl
    | some u=>
     obtain⟨e2,r1,r2,r3⟩:=hM.Iw _ u hf hfk;exact absurd r2 (q1 e2 r1)
   refine⟨if ok=true then .tuple #[z0,.bool false] else z0,?_,?_⟩
   ·simp only[Instr.lookup,Sem.run_bind,run_underlying hu,Result.andThen_ok,MapKept.run_getObj_map h3,hck,hrun,hzrun,Sem.run_pure]
   have e0:lkF σ (.AF id) (CK k)=none:=hnone;unfold lkV;rw[e0];exact fin z0 false _ hzr
 | d x=>
  cases x with
  | raw v=>
   cases v with
   | map p=>
    cases p with
    | none=>
     have hmv:mv=.map none:=by cases hm.Ar;rfl
     subst hmv;have hck:=Uw (P:=P) (w:=w) hT hf true;have hrun:(Instr.findKey kt (DL ik (CK k)) []).run P w=.ok none w:=by
      rcases Us (P:=P) (w:=w) I hT hf [] A6 with⟨en,n,q1,_⟩|⟨_,q⟩
      ·simp at q1
      exact q
     refine⟨if ok=true then .tuple #[z0,.bool false] else z0,?_,fin z0 false _ hzr⟩;simp only[Instr.lookup,Sem.run_bind,run_underlying hu,Result.andThen_ok,Sem.run_pure,Array.isEmpty_empty,hck,hrun,hzrun]
    | some b=>exact ho.elim
   | _=>exact ho.elim
  | _=>exact ho.elim
 | _=>exact ho.elim
def Qgl{b:Nat}{es:Array MapEntry}{clock:Nat}(hb:w.heap[b]? = some (.map es clock))(es':Array MapEntry)(clock':Nat):Io b w {w with heap:=w.heap.setIfInBounds b (.map es' clock')}:=by
 have hlt:b<w.heap.size:=by
  exact nu
 refine⟨rfl,rfl,rfl,A6,λb' hb'=>by simp[Pb (FX hb')],?_,?_⟩
 ·unfold DQ;simp[hb,O9 hlt]
 rintro⟨c,t,hc⟩;rw[hb] at hc;cases hc
def wN{b:Nat}{es:Array MapEntry}{clock:Nat}(hb:w.heap[b]? = some (.map es clock))(o:Obj):({w with heap:=w.heap.setIfInBounds b o}:World).heap[b]? = some o:=by
 have hlt:b<w.heap.size:=by
  exact nu
 simp[O9 hlt]
def Rel.Gi(h:Rel w I μ σ){id b:Nat}{es es':Array MapEntry}{clock clock':Nat}{f':Aw->Option AV}(hb:(A1 σ id).CC=true)(hμ:μ id=some (b,0))(hh:w.heap[b]? = some (.map es clock))
  (hS:MapKept.Stamped es' clock') (hM:KH w I μ σ (A1 σ id).mk f' es'.toList) :
  Rel {w with heap:=w.heap.setIfInBounds b (.map es' clock')} I μ (σ.set id (.map (A1 σ id).mk f'))/\Ay σ.length w I μ σ {w with heap:=w.heap.setIfInBounds b (.map es' clock')} I μ (σ.set id (.map (A1 σ id).mk f')):=by
 have hown:(A1 σ id).own=true:=by cases hB:A1 σ id<;>simp_all [Blk.CC,Blk.own]
 have hid:=E2 hown;have ww:=Qgl hh es' clock';have a1:(Blk.map (A1 σ id).mk f').B7=(A1 σ id).B7:=by cases hB:A1 σ id<;>simp_all [Blk.CC,Blk.B7]
 have a2:(Blk.map (A1 σ id).mk f').es=(A1 σ id).es:=by cases hB:A1 σ id<;>simp_all [Blk.CC,Blk.es]
 have a3:(A1 σ id).xs.length<=(Blk.map (A1 σ id).mk f').xs.length:=by cases hB:A1 σ id<;>simp_all [Blk.CC,Blk.xs]
 have k:=Ob h hown hμ ww (.map (A1 σ id).mk f') a1 a2 a3;refine⟨h.Ev hown hμ ww _ a1 a2 a3 ⟨b,es',clock',hμ,(Jo h hid hown hμ).2,⟨wN hh _,hS⟩,hM.imp' λv u hv=>hv.AH k⟩,k⟩
def rC(h:Rel w I μ σ){t:TypeId}{ik:Option IntKind}{e:TypeId}(ht:Co P t=some (ik,e)){mv kv vv:Value}{m k v:AV}(hm:AL w I μ σ mv m)(hk:AL w I μ σ kv k)(hv:AL w I μ σ vv v)(hko:Hf ik k)(ho:Qx σ ik m v):
  ∃w',(Instr.mapUpdate t mv kv vv).run P w=.ok () w'/\Rel w' I μ (muS σ (CK k) v m)/\Ay σ.length w I μ σ w' I μ (muS σ (CK k) v m):=by
 obtain⟨kt,hu,hT⟩:=SB ht;obtain⟨hf,rfl⟩:=YY hk hko;cases m with
 | AF id=>
  obtain⟨hb,hik,_⟩:=ho;obtain⟨b,es,clock,_,hal,_,h1,_,⟨h3,hst⟩,hM⟩:=h.mapOf hb;cases hm with
  | AF _ _ _ hh=>
   obtain⟨b',h4,rfl⟩:=hh;have:=h4 hal;rw[h1] at this;simp only[BF,EO,PS] at this;subst this;have hM':=hM;rw[hik] at hM';have hck:=Uw (P:=P) (w:=w) hT hf false;rcases Us (P:=P) (w:=w) I hT hf es.toList hM'.keys with⟨en,n,q1,q2,hrun⟩|⟨q1,hrun⟩
   ·have hn:n<es.size:=by
     exact oI
    have q1':es[n]? = some en:=by simpa using q1
    have hstay:(Instr.keyThatStays en.key (DL ik (CK k))).run P w=.ok (DL ik (CK k)) w:=by
     rw[q2];have:Instr.sameBits 10000 (DL ik (CK k)) (DL ik (CK k))=true:=by
      cases ik<;>cases CK k<;>simp[DL,Instr.sameBits,MapKept.bytes_beq]
     simp[Instr.keyThatStays,this]
    obtain⟨r1,r2⟩:=h.Gi (clock':=clock) (es':=es.modify n λe=>{e with key:=DL ik (CK k),val:=vv}) (f':=BO (A1 σ id).mf (CK k) v) hb h1 h3 (MapKept.stamped_modify hst n _ (λ_ _=>rfl) (λe0 _ h0=>by rw[q1'] at h0;cases h0;exact q2.symm)) (by
     rw[hik]
     have hget:∀j:Nat,(es.modify n λe=>{e with key:=DL ik (CK k),val:=vv}).toList[j]? = if n=j then(es.toList[j]?).map (λe=>{e with key:=DL ik (CK k),val:=vv}) else es.toList[j]? := λj=>by
      rw[Array.toList_modify,List.getElem?_modify]
      by_cases e:n=j<;>simp[e]
     have hkeys:∀e'∈(es.modify n λe=>{e with key:=DL ik (CK k),val:=vv}).toList,∃j e0,es.toList[j]? = some e0/\e'.key=e0.key/\((j=n/\e'.val=vv)\/(j≠n/\e'=e0)):=λe' he'=>by
      obtain⟨j,hj⟩:=GF he'
      rw[hget] at hj
      by_cases e:n=j
      ·subst e
       rw[AD rfl,q1] at hj
       simp only[DF,BF] at hj
       subst hj
       exact⟨n,en,q1,q2.symm,.inl ⟨rfl,rfl⟩⟩
      rw[A7 e] at hj
      exact⟨j,e',hj,rfl,.inr ⟨λh=>e h.symm,rfl⟩⟩
     refine⟨λe' he'=>?_,?_,λk' u' hk' hu'=>?_,λk' hk' hu' e' he'=>?_⟩
     ·obtain⟨j,e0,g1,g2,_⟩:=hkeys e' he'
      rw[g2];exact hM'.keys e0 (Dn g1)
     ·rw[Hv]
      intro i j hi' hj' hij
      have hp:=hM'.nodup
      rw[Hv] at hp
      have hli:i<es.toList.length:=by simpa using hi'
      have hlj:j<es.toList.length:=by simpa using hj'
      have gi:((es.modify n λe=>{e with key:=DL ik (CK k),val:=vv}).toList[i]).key=(es.toList[i]).key:=by
       have:=hget i
       rw[BP hi',BP hli] at this
       by_cases e:n=i
       ·subst e
        rw[AD rfl] at this
        simp only[DF,BF] at this
        rw[this]
        rw[BP hli] at q1
        exact mc
       exact o8
      have gj:((es.modify n λe=>{e with key:=DL ik (CK k),val:=vv}).toList[j]).key=(es.toList[j]).key:=by
       have:=hget j
       rw[BP hj',BP hlj] at this
       by_cases e:n=j
       ·subst e
        rw[AD rfl] at this
        simp only[DF,BF] at this
        rw[this]
        rw[BP hlj] at q1
        exact mc
       exact o8
      rw[gi,gj]
      exact hp i j hli hlj hij
     ·unfold BO at hu'
      by_cases e:k'=CK k
      ·subst e
       rw[AD rfl] at hu'
       simp only[BF] at hu'
       subst hu'
       refine⟨{en with key:=DL ik (CK k),val:=vv},Dn (i:=n) (by rw[hget,AD rfl,q1];rfl),rfl,hv⟩
      rw[A7 e] at hu'
      obtain⟨e0,g1,g2,g3⟩:=hM'.Iw k' u' hk' hu'
      obtain⟨j,hj⟩:=GF g1
      have hne:n≠j:=λh=>by
       subst h
       rw[q1] at hj
       simp only[BF] at hj
       subst hj
       exact e (SF hk' hf (g2.symm.trans q2))
      exact⟨e0,Dn (i:=j) (by rw[hget,A7 hne,hj]),g2,g3⟩
     unfold BO at hu'
     by_cases e:k'=CK k
     ·exact WE
     rw[A7 e] at hu'
     obtain⟨j,e0,g1,g2,_⟩:=hkeys e' he'
     rw[g2];exact hM'.Gr k' hk' hu' e0 (Dn g1))
    refine⟨_,?_,r1,r2⟩;simp only[Instr.mapUpdate,Sem.run_bind,run_underlying hu,Result.andThen_ok,MapKept.run_getObj_map h3,hck,hrun,EU,q1',DF,EA,hstay,MapKept.run_setObj_map _ h3]
   obtain⟨r1,r2⟩:=h.Gi (clock':=clock+1) (es':=es.push {key:=DL ik (CK k),val:=vv,born:=clock}) (f':=BO (A1 σ id).mf (CK k) v) hb h1 h3 (MapKept.stamped_push hst q1) (by
    rw[hik]
    refine⟨λe' he'=>?_,?_,λk' u' hk' hu'=>?_,λk' hk' hu' e' he'=>?_⟩
    ·rw[Ve] at he'
     rcases CH.1 he' with he'|he'
     ·exact hM'.keys e' he'
     simp at he';subst he';exact⟨_,hf,rfl⟩
    ·rw[Ve,JZ]
     refine⟨hM'.nodup,A6,λa ha b' hb'=>?_⟩
     simp at hb';subst hb'
     exact q1 a ha
    ·rw[Ve]
     unfold BO at hu'
     by_cases e:k'=CK k
     ·subst e
      rw[AD rfl] at hu'
      simp only[BF] at hu'
      subst hu'
      exact⟨_,TB _ DE,rfl,hv⟩
     rw[A7 e] at hu'
     obtain⟨e0,g1,g2,g3⟩:=hM'.Iw k' u' hk' hu'
     exact⟨e0,Hw _ g1,g2,g3⟩
    rw[Ve] at he'
    unfold BO at hu'
    by_cases e:k'=CK k
    ·exact WE
    rw[A7 e] at hu'
    rcases CH.1 he' with he'|he'
    ·exact hM'.Gr k' hk' hu' e' he'
    simp at he';subst he'
    exact λhc=>e (SF hk' hf hc.symm))
   refine⟨_,?_,r1,r2⟩;simp only[Instr.mapUpdate,Sem.run_bind,run_underlying hu,Result.andThen_ok,MapKept.run_getObj_map h3,hck,hrun,MapKept.run_setObj_map _ h3]
 | _=>exact ho.elim
def rQ(h:Rel w I μ σ){t ty t2:TypeId}{ik:Option IntKind}{e:TypeId}(ht:Co P t=some (ik,e)){mv kv:Value}{id:Nat}{k:AV}(hm:AL w I μ σ mv (.AF id))(hk:AL w I μ σ kv k)(hko:Hf ik k)(hb:(A1 σ id).CC=true)(hik:(A1 σ id).mk=ik):
  ∃w',(Builtin.delete_ #[t,t2] ty #[mv,kv]).run P w=.ok (.tuple #[]) w'/\Rel w' I μ (mdS σ (CK k) (.AF id))/\Ay σ.length w I μ σ w' I μ (mdS σ (CK k) (.AF id)):=by
 obtain⟨kt,hu,hT⟩:=SB ht;obtain⟨hf,rfl⟩:=YY hk hko;obtain⟨b,es,clock,_,hal,_,h1,_,⟨h3,hst⟩,hM⟩:=h.mapOf hb;cases hm with
 | AF _ _ _ hh=>
  obtain⟨b',h4,rfl⟩:=hh;have:=h4 hal;rw[h1] at this;simp only[BF,EO,PS] at this;subst this;have hM':=hM;rw[hik] at hM';have hck:=Uw (P:=P) (w:=w) hT hf es.isEmpty;rcases Us (P:=P) (w:=w) I hT hf es.toList hM'.keys with⟨en,n,q1,q2,hrun⟩|⟨q1,hrun⟩
  ·have hn:n<es.size:=by
    exact oI
   have hl:(es.eraseIdxIfInBounds n).toList=es.toList.eraseIdx n:=by
    simp[Array.eraseIdxIfInBounds,hn]
   have hmem:∀e',e'∈es.toList.eraseIdx n↔e'∈es.toList/\e'.key≠DL ik (CK k):=λe'=>by
    have hp:=hM'.nodup;rw[Hv] at hp;have hnl:n<es.toList.length:=Pj;have hen:es.toList[n]=en:=by rw[BP hnl] at q1;simpa using q1
    rw[List.mem_eraseIdx_iff_getElem?];constructor
    ·rintro⟨j,hj,hje⟩;refine⟨Dn hje,λhc=>?_⟩;have hjl:j<es.toList.length:=by
      rcases B9 j es.toList.length with h'|h'
      ·exact h'
      rw[Bt h'] at hje;cases hje
     rw[BP hjl] at hje;simp only[BF] at hje;rcases B9 j n with hlt|hge
     ·exact hp j n hjl hnl hlt (by rw[hen,hje,hc,q2])
     exact hp n j hnl hjl oo (by rw[hen,hje,hc,q2])
    rintro⟨hm',hc⟩;obtain⟨j,hj⟩:=GF hm';refine⟨j,λhjn=>?_,hj⟩;subst hjn;rw[q1] at hj;simp only[BF] at hj;subst hj;exact hc q2
   obtain⟨r1,r2⟩:=h.Gi (clock':=clock) (es':=es.eraseIdxIfInBounds n) (f':=Kl (A1 σ id).mf (CK k)) hb h1 h3 (MapKept.stamped_erase hst n) (by
    rw[hik,hl]
    refine⟨λe' he'=>hM'.keys e' ((hmem e').1 he').1,hM'.nodup.sublist (List.eraseIdx_sublist _ _),λk' u' hk' hu'=>?_,λk' hk' hu' e' he'=>?_⟩
    ·unfold Kl at hu'
     by_cases e:k'=CK k
     ·exact WE
     rw[A7 e] at hu'
     obtain⟨e0,g1,g2,g3⟩:=hM'.Iw k' u' hk' hu'
     exact⟨e0,(hmem e0).2 ⟨g1,λhc=>e (SF hk' hf (g2.symm.trans hc))⟩,g2,g3⟩
    have:=(hmem e').1 he'
    unfold Kl at hu'
    by_cases e:k'=CK k
    ·rw[e];exact this.2
    rw[A7 e] at hu';exact hM'.Gr k' hk' hu' e' this.1)
   exact oJ
  obtain⟨r1,r2⟩:=h.Gi (clock':=clock) (es':=es) (f':=Kl (A1 σ id).mf (CK k)) hb h1 h3 hst (by
   rw[hik]
   refine⟨hM'.keys,hM'.nodup,λk' u' hk' hu'=>?_,λk' hk' hu' e' he'=>?_⟩
   ·unfold Kl at hu'
    by_cases e:k'=CK k
    ·exact WE
    rw[A7 e] at hu';exact hM'.Iw k' u' hk' hu'
   unfold Kl at hu'
   by_cases e:k'=CK k
   ·rw[e];exact q1 e' he'
   rw[A7 e] at hu';exact hM'.Gr k' hk' hu' e' he')
  exact oJ
def sw(h:Rel w I μ σ)(t:TypeId)(ik:Option IntKind):
  ∃w' μ',(Instr.makeMap t none).run P w=.ok (.map (some w.heap.size)) w'/\Rel w' I μ' (σ++[.map ik λ_=>none])/\Ay σ.length w I μ σ w' I μ' (σ++[.map ik λ_=>none])/\AL w' I μ' (σ++[.map ik λ_=>none]) (.map (some w.heap.size)) (.AF σ.length):=by
 refine⟨w.alloc (.map #[] 0),F0 μ σ.length (w.heap.size,0),rfl,h.alloc _ _ ⟨w.heap.size,#[],0,Eh _ _ _,λhI=>?_,⟨Uy _ _,MapKept.stamped_empty _⟩,?_⟩,Jt h _ _ _,.AF _ _ A6 ⟨w.heap.size,λ_=>Eh _ _ _,rfl⟩⟩
 ·have:=h.Bs _ hI;omega
 exact⟨λe he=>by simp at he,A6,λk v _ hv=>RN,λk _ _ e he=>by simp at he⟩
def QZ(xs:List D)(off n:Nat)(z:D):(Il xs off n z).length=xs.length:=by simp[Il]
def Y6(xs:List D)(off n:Nat)(z:D)(i:Nat)(hi:i<xs.length):(Il xs off n z)[i]? = some (if off<=i/\i<off+n then z else xs.getD i default):=by
 simp[Il,hi]
def rO(xs:List D)(off:Nat)(z:D):Il xs off 0 z=xs:=by
 apply Gf;intro i;rcases B9 i xs.length with hi|hi
 ·rw[Y6 _ _ _ _ _ hi,A7 oo,Oh hi]
 rw[Bt hi,Bt (by rw[QZ];exact hi)]
def VP(P:Program)(σ:Sto)(t:TypeId):AV->Prop
 | .A8 id _ _=>(A1 σ id).BN=true/\(match B_ P t with|some e=>(match Bj P e,D_ P e with|some z,some _=>z.cells.size=(A1 σ id).es|_,_=>False)|none=>False)
 | _=>False
def clX(P:Program)(t:TypeId):D:=match B_ P t with|some e=>(D_ P e).getD default|none=>default
def clS(P:Program)(σ:Sto)(t:TypeId):AV->Sto
 | .A8 id off len=>σ.set id (.arr (A1 σ id).es (Il (A1 σ id).xs off len (clX P t)))
 | _=>σ
def Qfp(h:Rel w I μ σ){t ty:TypeId}{v:Value}{u:AV}(hv:AL w I μ σ v u)(ho:VP P σ t u):
  ∃w',(Builtin.clear_ #[t] ty #[v]).run P w=.ok (.tuple #[]) w'/\Rel w' I μ (clS P σ t u)/\Ay σ.length w I μ σ w' I μ (clS P σ t u):=by
 cases u with
 | A8 id off len=>
  obtain⟨hb,ho⟩:=ho;cases hte:B_ P t with
  | none=>rw[hte] at ho;exact ho.elim
  | some e=>
  cases hz:Bj P e with
  | none=>simp[hte,hz] at ho
  | some z=>
  cases hdz:D_ P e with
  | none=>simp[hte,hz,hdz] at ho
  | some x=>
  simp only[hte,hz,hdz] at ho;have hX:clX P t=x:=by unfold clX;rw[hte];simp[hdz]
  have hu:=Hj hte;cases hB:A1 σ id with
  | arr es xs=>
   rw[hB] at ho;simp only[Blk.es] at ho;have hown:(A1 σ id).own=true:=ER;have hid:=E2 hown;have hal:Br σ id:=Mg;simp only[clS,hB,Blk.es,Blk.xs,hX];clear hX;have same:len=0->Rel w I μ (σ.set id (.arr es (Il xs off len x)))/\Ay σ.length w I μ σ w I μ (σ.set id (.arr es (Il xs off len x))):=λhl=>by
    subst hl;rw[rO];exact pN
   obtain⟨_,hh⟩:=OV hv;rcases hh with⟨rfl,a,rfl⟩|⟨b,base,es',cap,h1,h2,rfl⟩
   ·obtain⟨r1,r2⟩:=same rfl;refine⟨w,?_,r1,r2⟩;cases a<;>simp[Builtin.clear_,run_underlying hu]
   by_cases hl:len=0
   ·obtain⟨r1,r2⟩:=same hl;refine⟨w,?_,r1,r2⟩;subst hl;simp[Builtin.clear_,run_underlying hu]
   obtain⟨hμ,_,p3,p4,_⟩:=h1 hal;rw[hB] at p3 p4;simp only[Blk.es,Blk.xs] at p3 p4;subst p3;have hblk:=h.D6 id hid;rw[hB] at hblk;rcases hblk with⟨hn,_⟩|⟨b',base',hμ',hnI,hpl,hsz,h5,h6,h7⟩
   ·rw[hμ] at hn;cases hn
   rw[hμ] at hμ';simp only[BF,EO] at hμ';obtain⟨rfl,rfl⟩:=hμ';obtain⟨hrow,hxl,_⟩:=Xq (P:=P) (w:=w) (I:=I) hdz hz len es ho;have hzc:Builtin.zeroCells z.cells len=(Array.range (len*es)).map (z.cells[· % z.cells.size]!):=by unfold Builtin.zeroCells;rw[ho]
   rw[<-hzc] at hrow;obtain⟨z1,z2,z3,z4,z5⟩:=hrow;have hxm:x∈List.replicate len x:=by simp[hl]
   have hxf:=z4 x hxm;have hle:(off+len)*es<=xs.length*es:=EC es p4;rw[E8] at hle;obtain⟨w',hr,ww,hw⟩:=Oe (P:=P) (w:=w) (b:=b) (o:=base+off*es) (vs:=(Builtin.zeroCells z.cells len).toList) hpl (by simp[z1];omega) (λc hc=>by
    obtain⟨q,hq⟩:=GF hc
    have hql:q<len*es:=by
     rcases B9 q (len*es) with h'|h'
     ·exact h'
     rw[Bt (by simp[z1];exact h')] at hq;cases hq
    have hes:0<es:=by
     rcases O3 es with h'|h'
     ·subst h';simp at hql
     exact h'
    have hi:q / es<len:=Nat.div_lt_of_lt_mul (by rw[T4];exact hql)
    have hj:q % es<es:=Nat.mod_lt _ hes
    obtain⟨u,hu1,hu2⟩:=z5 (q / es) (q % es) x _ RG (BP (by rw[hxl];exact hj))
    rw[TF] at hu1
    have:c=u:=by
     rw[Array.getElem?_toList,hu1] at hq
     simpa using hq.symm
    rw[this]
    exact hu2.Dv (hxf _ (FZ _)))
   have k:=Ob h hown hμ ww (.arr es (Il xs off len x)) ER ER (by rw[hB];simp[Blk.xs,QZ]);refine⟨w',?_,?_,k⟩
   ·have hlz:∃m,len=m+1:=⟨len-1,oo⟩;obtain⟨m,rfl⟩:=hlz;simp[Builtin.clear_,run_underlying hu,YH hz,hr]
   refine h.Ev hown hμ ww _ ER ER (by rw[hB];simp[Blk.xs,QZ]) (.inr ⟨b,base,hμ,hnI,ww.plain hpl,by rw[ww.bsize,QZ];exact hsz,λy hy=>?_,λy hy=>?_,λi j y c hy hc=>?_⟩)
   ·unfold Il at hy;obtain⟨i,hi,rfl⟩:=C4.1 hy;simp only[CI] at hi;split
    ·exact hxl
    exact h5 _ (Ka hi)
   ·unfold Il at hy;obtain⟨i,hi,rfl⟩:=C4.1 hy;simp only[CI] at hi;split
    ·exact hxf
    exact h6 _ (Ka hi)
   have hil:i<xs.length:=by
    rcases B9 i xs.length with h'|h'
    ·exact h'
    rw[Bt (by rw[QZ];exact h')] at hy;cases hy
   rw[Y6 _ _ _ _ _ hil] at hy;simp only[BF] at hy;rw[hw];have hvl:(Builtin.zeroCells z.cells len).toList.length=len*es:=by simpa using z1
   by_cases hin:off<=i/\i<off+len
   ·rw[AD hin] at hy;subst hy;have hjl:j<es:=by
     rw[<-hxl];rcases B9 j x.cells.length with h'|h'
     ·exact h'
     exact Te
    have e1:i*es=off*es+(i-off)*es:=by rw[<-E8];congr 1;omega
    have e2:(i-off+1)*es<=len*es:=EC es oo;rw[E8] at e2;rw[hvl,AD oo];obtain⟨u,hu1,hu2⟩:=z5 (i-off) j x c (by rw[PX,AD oo]) hc;refine⟨u,?_,hu2.AH k.Bs k.CB⟩;rw[Array.getElem?_toList,<-hu1];congr 1;omega
   rw[A7 hin] at hy;subst hy;have hjl:j<es:=by
    exact mL
   have hout:¬(base+off*es<=base+i*es+j/\base+i*es+j<base+off*es+len*es):=by
    rcases B9 i off with h'|h'
    ·exact mS
    have:(off+len)*es<=i*es:=EC es oo;exact OI
   rw[hvl,A7 hout];exact o6
  | _=>rw[hB] at hb;simp[Blk.BN] at hb
 | _=>exact ho.elim
end Go.AM


namespace Go.AM
variable {P:Program} {w:World} {I:Im} {μ:Pos} {σ:Sto}
def AV.short(n:Nat):AV->AV
 | .d (.sl xs)=>.d (.sl (xs.take n))
 | .A8 id off _=>.A8 id off n
 | v=>v
def zq(h:Rel w I μ σ){es:Nat}{a:Option Addr}{L c n:Nat}{s:AV}(hv:AL w I μ σ (.slice a L c) s)(ho:Hg σ es s)(hL:L=(s.elems σ).length)(hn:n<=L):
  AL w I μ σ (.slice a n c) (s.short n)/\(s.short n).elems σ=(s.elems σ).take n/\Hg σ es (s.short n):=by
 cases s with
 | d y=>
  cases y with
  | sl xs=>
   have hLx:L=xs.length:=hL;have he:(AV.d (.sl xs)).short n=.d (.sl (xs.take n)):=rfl;rw[he];refine⟨.d _ _ ?_,rfl,λx hx=>ho x (GS hx)⟩;have hd:=hv.Ar;have hln:(xs.take n).length=n:=Ap;cases hd with
   | nil a cap=>
    have:n=0:=oo;subst this;exact .nil _ _
   | sl b off es' cap _ vals hI hcap hes hfl hc hr=>
    have:=BU.sl (w:=w) (I:=I) b off es' c (xs.take n) vals hI oo (λx hx=>hes x (GS hx)) (λx hx=>hfl x (GS hx)) (λi j hi hj=>hc i j oo hj) (λi j x y hx hy=>by
     rw[Pa] at hx
     split at hx
     ·exact hr i j x y hx hy
     cases hx)
    rwa [hln] at this
  | _=>exact ho.elim
 | AA=>
  have hL0:L=0:=hL;have:n=0:=oo;subst this;rw[hL0] at hv;exact⟨hv,rfl,trivial⟩
 | A8 id off len=>
  obtain⟨h1,h2⟩:=ho;have hal:Br σ id:=b9;refine⟨?_,?_,h1,h2⟩
  ·cases hv with
   | A8 _ _ _ _ hid hh=>
    rcases hh with⟨rfl,a',e⟩|⟨b,base,es',cap,q1,q2,e⟩
    ·cases e;have:n=0:=oo;subst this;exact WN
    cases e;refine .A8 _ _ _ _ hid (.inr ⟨b,base,es',c,λha=>?_,oo,rfl⟩);obtain⟨r1,r2,r3,r4,r5⟩:=q1 ha;exact⟨r1,r2,r3,oo,r5⟩
  have hle:n<=len:=by
   have:L<=len:=by rw[hL];simp[AV.elems];omega
   omega
  show((A1 σ id).xs.drop off).take n=(((A1 σ id).xs.drop off).take len).take n;rw[Vl,Nat.min_eq_left hle]
 | _=>exact ho.elim
def cpX(xs:List D)(off n:Nat)(ys:List D):List D:=(List.range xs.length).map λi=>if off<=i/\i<off+n then ys.getD (i-off) default else xs.getD i default
def QW(xs:List D)(off n:Nat)(ys:List D):(cpX xs off n ys).length=xs.length:=by simp[cpX]
def Tt(xs:List D)(off n:Nat)(ys:List D)(i:Nat)(hi:i<xs.length):(cpX xs off n ys)[i]? = some (if off<=i/\i<off+n then ys.getD (i-off) default else xs.getD i default):=by
 simp[cpX,hi]
def vO(xs:List D)(off:Nat)(ys:List D):cpX xs off 0 ys=xs:=by
 apply Gf;intro i;rcases B9 i xs.length with hi|hi
 ·rw[Tt _ _ _ _ _ hi,A7 oo,Oh hi]
 rw[Bt hi,Bt (by rw[QW];exact hi)]
def cpN(σ:Sto)(d s:AV):Nat:=min (s.elems σ).length d.len
def VQ(P:Program)(σ:Sto)(t:TypeId)(d s:AV):Prop:=
 match d with
 | .A8 id off len=>(A1 σ id).BN=true/\0<(A1 σ id).es/\off+len<=(A1 σ id).xs.length/\Hg σ (A1 σ id).es s/\(match B_ P t with|some e=>tsz P e=some (A1 σ id).es|none=>False)
 | _=>False
def cpS(σ:Sto)(d s:AV):Sto:=
 match d with
 | .A8 id off len=>σ.set id (.arr (A1 σ id).es (cpX (A1 σ id).xs off (min (s.elems σ).length len) (s.elems σ)))
 | _=>σ
def y4(h:Rel w I μ σ){t t2 ty:TypeId}{dv sv:Value}{d s:AV}(hd:AL w I μ σ dv d)(hs:AL w I μ σ sv s)(ho:VQ P σ t d s):
  ∃w',(Builtin.copy_ #[t,t2] ty #[dv,sv]).run P w=.ok (.int .i64 (cpN σ d s:Nat)) w'/\Rel w' I μ (cpS σ d s)/\Ay σ.length w I μ σ w' I μ (cpS σ d s):=by
 cases d with
 | A8 id off len=>
  obtain⟨hb,hes,hxl,hsrc,ho⟩:=ho;cases hte:B_ P t with
  | none=>rw[hte] at ho;exact ho.elim
  | some e=>
  simp only[hte] at ho;have hu:=Hj hte;cases hB:A1 σ id with
  | arr es xs=>
   rw[hB] at ho hes hxl hsrc;simp only[Blk.es,Blk.xs] at ho hes hxl hsrc;have hown:(A1 σ id).own=true:=ER;have hid:=E2 hown;have hal:Br σ id:=Mg;obtain⟨a,c,news0,rfl,_⟩:=SA (P:=P) h hes hs hsrc;obtain⟨n,hn⟩:∃n,n=min (s.elems σ).length len:=⟨_,rfl⟩;have hcn:cpN σ (.A8 id off len) s=n:=by rw[hn];rfl
   rw[hcn];simp only[cpS,hB,Blk.es,Blk.xs,<-hn];obtain⟨g1,g2,g3⟩:=zq h hs hsrc rfl (oo:n<=(s.elems σ).length);obtain⟨a',c',news,e1,z1,z2,z3,z4,z5,z6,_⟩:=SA (P:=P) h hes g1 g3;have hln:((s.short n).elems σ).length=n:=by rw[g2];simp;omega
   rw[hln] at e1 z1 z2;cases e1;have hf:(Builtin.firstCells es n (.slice a (s.elems σ).length c)).run P w=.ok news.toArray w:=by
    have:=z2 w rfl;cases a<;>exact this
   rw[g2] at z3 z5 z6;have hsz:(sizeOf e).run P w=.ok es w:=by
    unfold tsz at ho;cases hi:P.info? e with
    | none=>rw[hi] at ho;cases ho
    | some i=>
     rw[hi] at ho;simp only[DF,BF] at ho;subst ho;simp[sizeOf,typeInfo,hi]
   have same:n=0->Rel w I μ (σ.set id (.arr es (cpX xs off n (s.elems σ))))/\Ay σ.length w I μ σ w I μ (σ.set id (.arr es (cpX xs off n (s.elems σ)))):=λhl=>by
    rw[hl,vO];exact pN
   have hn0:n=0->news=[]:=λhz=>by
    rw[hz] at z1;exact G3 oo
   obtain⟨_,hh⟩:=OV hd;have hmin:Nat.min (s.elems σ).length len=n:=hn.symm;rcases hh with⟨rfl,da,rfl⟩|⟨b,base,es',cap,h1,h2,rfl⟩
   ·have hz:n=0:=oo;obtain⟨r1,r2⟩:=same hz;refine⟨w,?_,r1,r2⟩;have hnn:=hn0 hz;subst hnn;have hf0:=hf;rw[hz] at hf0;cases da with
    | none=>simp[Builtin.copy_,run_underlying hu,Builtin.lenOf,hsz,hf0,goInt,hz]
    | some x=>simp[Builtin.copy_,run_underlying hu,Builtin.lenOf,hsz,hf0,goInt,storeCells,hz]
   by_cases hz:n=0
   ·obtain⟨r1,r2⟩:=same hz;refine⟨w,?_,r1,r2⟩;have hnn:=hn0 hz;subst hnn;simp[Builtin.copy_,run_underlying hu,Builtin.lenOf,hmin,hsz,hf,goInt,storeCells]
   obtain⟨hμ,_,p3,p4,_⟩:=h1 hal;rw[hB] at p3 p4;simp only[Blk.es,Blk.xs] at p3 p4;subst p3;have hblk:=h.D6 id hid;rw[hB] at hblk;rcases hblk with⟨hne,_⟩|⟨b',base',hμ',hnI,hpl,hsz',h5,h6,h7⟩
   ·rw[hμ] at hne;cases hne
   rw[hμ] at hμ';simp only[BF,EO] at hμ';obtain⟨rfl,rfl⟩:=hμ';have hle:(off+n)*es<=xs.length*es:=EC es oo;rw[E8] at hle;obtain⟨w',hr,ww,hw⟩:=Oe (P:=P) (w:=w) (b:=b) (o:=base+off*es) (vs:=news) hpl (by rw[z1];omega) (λu hu=>z4 u hu);have k:=Ob h hown hμ ww (.arr es (cpX xs off n (s.elems σ))) ER ER (by rw[hB];simp[Blk.xs,QW]);have hmem:∀i,i<n->(s.elems σ).getD i default∈(s.elems σ).take n/\((s.elems σ).take n)[i]? = some ((s.elems σ).getD i default):=λi hi=>by
    have hil:i<(s.elems σ).length:=oo;have e3:((s.elems σ).take n)[i]? = some ((s.elems σ).getD i default):=by
     rw[GH hi,BP hil,B5,BP hil];rfl
    exact⟨Dn e3,e3⟩
   refine⟨w',?_,?_,k⟩
   ·simp[Builtin.copy_,run_underlying hu,Builtin.lenOf,hmin,hsz,hf,goInt,hr]
   refine h.Ev hown hμ ww _ ER ER (by rw[hB];simp[Blk.xs,QW]) (.inr ⟨b,base,hμ,hnI,ww.plain hpl,by rw[ww.bsize,QW];exact hsz',λy hy=>?_,λy hy=>?_,λi j y c hy hc=>?_⟩)
   ·unfold cpX at hy;obtain⟨i,hi,rfl⟩:=C4.1 hy;simp only[CI] at hi;split
    ·exact z5 _ (hmem _ oo).1
    exact h5 _ (Ka hi)
   ·unfold cpX at hy;obtain⟨i,hi,rfl⟩:=C4.1 hy;simp only[CI] at hi;split
    ·exact z6 _ (hmem _ oo).1
    exact h6 _ (Ka hi)
   have hil:i<xs.length:=by
    rcases B9 i xs.length with h'|h'
    ·exact h'
    rw[Bt (by rw[QW];exact h')] at hy;cases hy
   rw[Tt _ _ _ _ _ hil] at hy;simp only[BF] at hy;rw[hw];by_cases hin:off<=i/\i<off+n
   ·rw[AD hin] at hy;obtain⟨m1,m2⟩:=hmem (i-off) oo;rw[hy] at m1 m2;have hjl:j<es:=by
     rw[<-z5 _ m1];rcases B9 j y.cells.length with h'|h'
     ·exact h'
     exact Te
    have e1:i*es=off*es+(i-off)*es:=by rw[<-E8];congr 1;omega
    have e2:(i-off+1)*es<=n*es:=EC es oo;rw[E8] at e2;rw[z1,AD oo];obtain⟨u,hu1,hu2⟩:=z3 (i-off) j y c m2 hc;refine⟨u,?_,hu2.AH k.Bs k.CB⟩;rw[<-hu1];congr 1;omega
   rw[A7 hin] at hy;subst hy;have hjl:j<es:=by
    exact mL
   have hout:¬(base+off*es<=base+i*es+j/\base+i*es+j<base+off*es+n*es):=by
    rcases B9 i off with h'|h'
    ·exact mS
    have:(off+n)*es<=i*es:=EC es oo;exact OI
   rw[z1,A7 hout];exact o6
  | _=>rw[hB] at hb;simp[Blk.BN] at hb
 | _=>exact ho.elim
def ZA(P:Program)(t:TypeId)(u h m:AV):Prop:=
 match u with
 | .A8 _ _ len=>h.Au=true/\m.Au=true/\0<=h.num/\h.num<=m.num/\m.num<=len/\(match B_ P t with|some e=>(tsz P e).isSome=true|none=>False)
 | _=>False
def sY{t:TypeId}{v:Value}{kh km:IntKind}{hn mn:Int}{h m:AV}{u:AV}(hv:AL w I μ σ v u)(e1:h.num=hn)(e2:m.num=mn)(ho:ZA P t u h m):
  ∃z,(Instr.sliceAt t v none (some (.int kh hn)) (some (.int km mn))).run P w=.ok z w/\AL w I μ σ z (slV 0 hn u):=by
 cases u with
 | A8 id off len=>
  obtain⟨_,_,h0,h1,h2,h3⟩:=ho;rw[e1] at h0 h1;rw[e2] at h1 h2;cases hte:B_ P t with
  | none=>rw[hte] at h3;exact h3.elim
  | some e=>
  rw[hte] at h3;simp only at h3;obtain⟨n,hs⟩:=Fa.1 h3;have hu:=Hj hte;obtain⟨hid,hh⟩:=OV hv;have go:∀{a:Option Addr} {len' cap:Nat},v=.slice a len' cap->mn<=cap->(Instr.sliceAt t v none (some (.int kh hn)) (some (.int km mn))).run P w=.ok (.slice (if mn.toNat=0 then a else a.map (·.add (0*n))) (hn.toNat-0) (mn.toNat-0)) w:=by
   intro a len' cap hv' hc;subst hv';have e:(Instr.sliceAt t (.slice a len' cap) none (some (.int kh hn)) (some (.int km mn))).run P w=(Instr.slice t (.slice a len' cap) none (some (.int kh hn)) (some (.int km mn))).run P w:=ay;rw[e];have hb:(Instr.sliceBounds true len' cap none (some (.int kh hn)) (some (.int km mn))).run P w=.ok (0,hn.toNat,mn.toNat) w:=by
    unfold Instr.sliceBounds;simp only[Sem.run_bind,Sem.run_pure,Result.andThen_ok,QY (P:=P) (w:=w) (x:=.int km mn) (y:=cap) rfl oo hc];rw[QY (P:=P) (w:=w) (x:=.int kh hn) (y:=mn.toNat) rfl h0 oo];simp
   simp only[Instr.slice,Sem.run_bind,run_underlying hu,Result.andThen_ok,hb,Ju hs,Sem.run_pure]
  rcases hh with⟨rfl,a,rfl⟩|⟨b,base,es,cap,q1,q2,rfl⟩
  ·have hm0:mn=0:=OF;have hh0:hn=0:=oo;subst hm0;subst hh0;refine⟨_,go rfl A6,?_⟩;exact WN
  refine⟨_,go rfl oo,?_⟩;show AL w I μ σ _ (.A8 id (off+(0:Int).toNat) (hn.toNat-(0:Int).toNat));have e0:(0:Int).toNat=0:=rfl;rw[e0,Gb,Nw,Nw];by_cases hz:mn.toNat=0
  ·have hhz:hn.toNat=0:=oo;rw[hhz,hz];exact WN
  rw[A7 hz];refine .A8 _ _ _ _ hid (.inr ⟨b,base,es,mn.toNat,λha=>?_,oo,?_⟩)
  ·obtain⟨r1,r2,r3,r4,r5⟩:=q1 ha;refine⟨r1,r2,r3,oo,?_⟩;have:(off+mn.toNat)*es<=(off+cap)*es:=EC es oo;omega
  simp[KT]
 | _=>exact ho.elim
end Go.AM


namespace Go.AM
variable {P:Program} {w:World} {I:Im} {μ:Pos} {σ:Sto}
def JO(x:D):AV:=match x with|.raw (.slice none 0 0)=>.AA|x=>.d x
def gQ{v:Value}{x:D}(h:BU w I v x)(h1:x.one=true):(JO x).one=true/\AL w I μ σ v (JO x):=by
 unfold JO;split
 ·cases h;exact⟨rfl,.AA⟩
 exact⟨h1,.d _ _ h⟩
def HL(σ:Sto):AV->Bool
 | .A8 id _ _=>(A1 σ id).isVar
 | _=>false
def AV.Bp(σ:Sto)(es:Nat):AV->List AV
 | .A8 id off len=>if(A1 σ id).isVar=true then((A1 σ id).cells.drop (off*es)).take (len*es) else((AV.A8 id off len).elems σ).flatMap λz=>z.cells.map JO
 | x=>(x.elems σ).flatMap λz=>z.cells.map JO
def AV.Dz(σ:Sto):AV->Nat
 | .A8 id off len=>if(A1 σ id).isVar=true then len else((AV.A8 id off len).elems σ).length
 | x=>(x.elems σ).length
def OU(σ:Sto)(es:Nat):AV->Prop
 | .A8 id off len=>if(A1 σ id).isVar=true then(A1 σ id).es=es/\(off+len)*es<=(A1 σ id).cells.length/\0<len else Hg σ es (.A8 id off len)/\0<((AV.A8 id off len).elems σ).length
 | .d x=>Hg σ es (.d x)/\0<((AV.d x).elems σ).length
 | _=>False
def V6(σ:Sto)(es:Nat):AV->Prop
 | .A8 id off len=>(A1 σ id).isVar=true/\(A1 σ id).es=es/\(off+len)*es<=(A1 σ id).cells.length
 | .AA=>True
 | _=>False
def Qo(P:Program)(σ:Sto)(t1 t2:TypeId)(s x:AV):Prop:=
 match B_ P t1 with
 | some e=>match tsz P e,E_ P e,Bj P e with
  | some es,some CD,some z=>0<es/\z.cells.size=es/\(B_ P t2).isSome=true/\V6 σ es s/\OU σ es x/\(s.len+x.Dz σ)*CD<=140737488355328/\s.len+x.Dz σ<=4611686018427387904
  | _,_,_=>False
 | none=>False
def PB(P:Program)(σ:Sto)(t1:TypeId)(s x:AV):Sto:=Dr σ s++[.var (D2 P t1) (s.Bp σ (D2 P t1)++x.Bp σ (D2 P t1))]
def Sv(σ:Sto)(s x:AV):AV:=.A8 σ.length 0 (s.len+x.Dz σ)
def Tw{es:Nat}{f:D->List AV}:∀{xs:List D} (q:Nat),(∀x∈xs,(f x).length=es)->0<es->(xs.flatMap f)[q]? = (xs[q / es]?).bind λx=>(f x)[q % es]?
 | [],q,_,_=>A6
 | x::r,q,h,hes=>by
  rw[IU];have hx:=h x A6;by_cases hq:q<es
  ·exact nL
  rw[G2 oo,hx,Tw (q-es) (λy hy=>h y (Cy _ hy)) hes];have e1:q / es=(q-es) / es+1:=by
   rw[Nat.div_eq_sub_div hes oo]
  exact nn
def Rt{es:Nat}{f:D->List AV}:∀{xs:List D},(∀x∈xs,(f x).length=es)->(xs.flatMap f).length=xs.length*es
 | [],_=>A6
 | x::r,h=>by
  rw[IU,Bb,h x A6,Rt λy hy=>h y (Cy _ hy),CT,E8];omega
def dw{v:Value}{c:AV}(g2:AL w I μ σ v c)(g3:c.one=true):v.oneCell'=true:=by
 cases g2<;>first|rfl|(cases g3;done)|skip
 ·rename_i hd;exact hd.Dv g3
 ·rename_i hh;obtain⟨_,_,_,rfl⟩:=hh;rfl
 ·rename_i hh;obtain⟨_,_,_,_,rfl⟩:=hh;rfl
 ·rename_i hh;rcases hh with⟨_,_,rfl⟩|⟨_,_,_,_,_,_,rfl⟩<;>rfl
 rename_i hh;obtain⟨_,_,rfl⟩:=hh;rfl
def M6(P:Program)(w:World)(I:Im)(μ:Pos)(σ:Sto)(v:Value)(n es:Nat)(cs:List AV):Prop:=
 ∃(a:Option Addr) (c:Nat) (news:List Value),v=.slice a n c/\news.length=n*es/\cs.length=n*es /\
   (∀(j:Nat) (u:Value) (x:AV),news[j]? = some u->cs[j]? = some x->x.one=true/\AL w I μ σ u x)/\(∀u∈news,u.oneCell'=true) /\
   (∀w':World,w'.heap=w.heap->(Builtin.firstCells es n v).run P w'=.ok news.toArray w')/\(∀(b o:Nat),a=some ⟨b,o,none⟩->∀(j:Nat) (u:Value),news[j]? = some u->w.cell? ⟨b,o+j,none⟩=some u)
def M6.of{P:Program}{a:Option Addr}{c n es:Nat}{cs:List AV}{news:List Value}(h1:news.length=n*es)(h2:cs.length=n*es)(h3:∀(j:Nat) (u:Value) (x:AV),news[j]? = some u->cs[j]? = some x->x.one=true/\AL w I μ σ u x)
  (h4:∀u∈news,u.oneCell'=true) (h5:n=0\/∃b o,a=some ⟨b,o,none⟩/\∀(j:Nat) (u:Value),news[j]? = some u->w.cell? ⟨b,o+j,none⟩=some u):M6 P w I μ σ (.slice a n c) n es cs:=by
 refine⟨a,c,news,rfl,h1,h2,h3,h4,λw' hw'=>?_,λb o he j u hu=>?_⟩
 ·rcases h5 with rfl|⟨b,o,rfl,h5⟩
  ·have:news=[]:=G3 (by rw[h1,MS]);subst this;cases a with
   | none=>simp[Builtin.firstCells]
   | some a=>simp[Builtin.firstCells,loadCells,loadCellsFrom]
  have:(loadCells ⟨b,o,none⟩ news.length).run P w'=.ok news.toArray w':=ep λj u hj=>by
   rw[World.cell?_of_block (w:=w) (by rw[hw'])];exact h5 j u hj
  rw[h1] at this;simpa[Builtin.firstCells] using this
 rcases h5 with rfl|⟨b',o',rfl,h5⟩
 ·have:news=[]:=G3 (by rw[h1,MS]);subst this;simp at hu
 simp only[BF,Addr.mk.injEq] at he;obtain⟨rfl,rfl,_⟩:=he;exact h5 j u hu
def cj(h:Rel w I μ σ){es:Nat}{v:Value}{id off len:Nat}(hv:AL w I μ σ v (.A8 id off len))(hb:(A1 σ id).isVar=true)(he:(A1 σ id).es=es)(hl:(off+len)*es<=(A1 σ id).cells.length):
  M6 P w I μ σ v len es (((A1 σ id).cells.drop (off*es)).take (len*es)):=by
 obtain⟨es',cs,hB⟩:=Blk.Gh hb;rw[hB] at hl he ⊢;simp only[Blk.cells,Blk.es] at hl he ⊢;subst he;obtain⟨hid,hal,_,_,hdiv,hcase⟩:=h.varOf hB;have e0:(off+len)*es'=off*es'+len*es':=E8 ..;have hcl:((cs.drop (off*es')).take (len*es')).length=len*es':=Ap;have hcat:∀j,j<len*es'->((cs.drop (off*es')).take (len*es'))[j]? = cs[off*es'+j]? := λj hj=>by
  rw[GH hj,IW]
 obtain⟨_,hh⟩:=OV hv;rcases hh with⟨rfl,a,rfl⟩|⟨b',base',es2,cap,q1,q2,rfl⟩
 ·exact M6.of (news:=[]) A6 (by rw[hcl]) (λj u x hu=>RI) (λu hu=>RI) (.inl rfl)
 obtain⟨r1,_,r3,_,_⟩:=q1 hal;rw[hB] at r3;simp only[Blk.es] at r3;subst r3;rcases hcase with⟨hn,_⟩|⟨b,base,hμ,_,_,_,h6⟩
 ·rw[hn] at r1;cases r1
 rw[hμ] at r1;simp only[BF,EO] at r1;obtain⟨rfl,rfl⟩:=r1;have hcell:∀j,j<len*es'->∃u c,cs[off*es'+j]? = some c/\w.cell? ⟨b,base+off*es'+j,none⟩=some u/\AL w I μ σ u c/\c.one=true:=λj hj=>by
  have h1:cs[off*es'+j]? = some (cs[off*es'+j]' oo):=BP _;obtain⟨g1,u,g2,g3⟩:=h6 _ _ h1;exact⟨u,_,h1,by rw[G1];exact g2,g3,g1⟩
 have hlt:∀{j:Nat} {u:Value},((List.range (len*es')).map λj=>(w.cell? ⟨b,base+off*es'+j,none⟩).getD Go.undef)[j]? = some u->j<len*es':=λ{j u} hu=>by
  rcases B9 j (len*es') with h'|h'
  ·exact h'
  rw[Bt W3] at hu;cases hu
 refine M6.of (news:=(List.range (len*es')).map λj=>(w.cell? ⟨b,base+off*es'+j,none⟩).getD Go.undef) A6 hcl (λj u x hu hx=>?_) (λu hu=>?_) (.inr ⟨b,_,rfl,λj u hu=>?_⟩)
 ·have hj:=hlt hu;obtain⟨u',c,g0,g1,g2,g3⟩:=hcell j hj;rw[hcat j hj,g0] at hx;simp only[BF] at hx;subst hx;simp[hj,g1] at hu;subst hu;exact⟨g3,g2⟩
 ·obtain⟨j,hj,rfl⟩:=C4.1 hu;obtain⟨u',c,_,g1,g2,g3⟩:=hcell j Kt;rw[g1];exact dw g2 g3
 have hj:=hlt hu;obtain⟨u',c,_,g1,_⟩:=hcell j hj;simp[hj,g1] at hu;subst hu;exact g1
def Rel.addBlk(h:Rel w I μ σ){b base:Nat}{B:Blk}(hno:∀id o,(A1 σ id).own=true->μ id≠some (b,o))
  (hB:Ft w I (F0 μ σ.length (b,base)) (σ++[B]) σ.length B):Rel w I (F0 μ σ.length (b,base)) (σ++[B])/\Ay σ.length w I μ σ w I (F0 μ σ.length (b,base)) (σ++[B]):=by
 have k:Ay σ.length w I μ σ w I (F0 μ σ.length (b,base)) (σ++[B]):=
  ⟨rfl,rfl,rfl,AR _,λ_ h=>h,λ_ h=>h,λ_ h=>.inl h,λ_ _=>rfl,λ_=>AR _,A6,λid hid ha=>by
   unfold Br at *
   rw[BB hid] at ha ⊢
   exact⟨ha,H8 _ _ oo,rfl,rfl,AR _⟩⟩
 refine⟨⟨h.Bs,λid hid=>?_,?_⟩,k⟩
 ·simp only[Bb,CT,C6] at hid;by_cases e:id=σ.length
  ·subst e;rw[Cd];exact hB
  exact oG
 intro i j bi bj oi oj hij hi hj hμi hμj;have li:=E2 hi;have lj:=E2 hj;simp only[Bb,CT,C6] at li lj;by_cases ei:i=σ.length
 ·exact ot
 have li':i<σ.length:=oo;rw[H8 _ _ ei] at hμi;rw[BB li'] at hi;by_cases ej:j=σ.length
 ·exact og
 have lj':j<σ.length:=oo;rw[H8 _ _ ej] at hμj;rw[BB lj'] at hj;exact h.apart i j bi bj oi oj hij hi hj hμi hμj
def sZ(h:Rel w I μ σ){es:Nat}(hes:0<es){v:Value}{x:AV}(hv:AL w I μ σ v x)(ho:OU σ es x):M6 P w I μ σ v (x.Dz σ) es (x.Bp σ es)/\0<x.Dz σ:=by
 have dat:Hg σ es x->x.Dz σ=(x.elems σ).length->x.Bp σ es=((x.elems σ).flatMap λz=>z.cells.map JO)->0<(x.elems σ).length->M6 P w I μ σ v (x.Dz σ) es (x.Bp σ es)/\0<x.Dz σ:=λh1 h2 h3 h4=>by
  obtain⟨a,c,news,q1,q2,q3,q4,q5,q6,q7,q8⟩:=SA (P:=P) h hes hv h1;rw[h2,h3];have hfl:∀z∈x.elems σ,(z.cells.map JO).length=es:=λz hz=>by rw[BW];exact q6 z hz
  refine⟨⟨a,c,news,q1,q2,Rt hfl,λj u y hu hy=>?_,q5,q3,q8⟩,h4⟩;rw[Tw j hfl hes] at hy;cases hz:(x.elems σ)[j / es]? with
  | none=>rw[hz] at hy;cases hy
  | some z=>
   rw[hz] at hy;simp only[Zz,DG] at hy;cases hc:z.cells[j % es]? with
   | none=>rw[hc] at hy;cases hy
   | some y0=>
    rw[hc] at hy;simp only[DF,BF] at hy;subst hy;obtain⟨u',g1,g2⟩:=q4 (j / es) (j % es) z y0 hz hc;rw[TF] at g1;rw[hu] at g1;simp only[BF] at g1;subst g1;exact gQ g2 (q7 z (Dn hz) y0 (Dn hc))
 cases x with
 | A8 id o l=>
  by_cases hb:(A1 σ id).isVar=true
  ·simp only[OU,AD hb] at ho;simp only[AV.Dz,AV.Bp,AD hb];exact⟨cj h hv hb ho.1 ho.2.1,ho.2.2⟩
  simp only[OU,A7 hb] at ho;exact dat ho.1 (by simp only[AV.Dz,A7 hb]) (by simp only[AV.Bp,A7 hb]) ho.2
 | d x=>exact dat ho.1 rfl rfl ho.2
 | _=>exact ho.elim
def qP(h:Rel w I μ σ){t1 t2 ty:TypeId}{sv xv:Value}{s x:AV}(hs:AL w I μ σ sv s)(hx:AL w I μ σ xv x)(ho:Qo P σ t1 t2 s x):
  ∃z w' μ',(Builtin.append_ #[t1,t2] ty #[sv,xv]).run P w=.ok z w'/\Rel w' I μ' (PB P σ t1 s x)/\Ay σ.length w I μ σ w' I μ' (PB P σ t1 s x)/\AL w' I μ' (PB P σ t1 s x) z (Sv σ s x):=by
 unfold Qo at ho;cases hte:B_ P t1 with
 | none=>rw[hte] at ho;exact ho.elim
 | some e=>
 rw[hte] at ho;cases hz1:tsz P e with
 | none=>simp[hz1] at ho
 | some es=>
 cases hz2:E_ P e with
 | none=>simp[hz1,hz2] at ho
 | some CD=>
 cases hz3:Bj P e with
 | none=>simp[hz1,hz2,hz3] at ho
 | some zv=>
 simp only[hz1,hz2,hz3] at ho;obtain⟨hes,hzs,ht2,hd,hsrc,hbytes,h62⟩:=ho;obtain⟨i,hi,i1,i2,i3⟩:=Yd hz1 hz2 hz3;obtain⟨e2,he2⟩:=Fa.1 ht2;have hu1:=Hj hte;have hu2:=Hj he2;have hap:D2 P t1=es:=W5;obtain⟨⟨xa,xc,news,hxv,hnl,hcl,hnr,hn1,hfx,_⟩,hxp⟩:=sZ (P:=P) h hes hx hsrc;obtain⟨hr1,hk1,hl1⟩:=fH h s;unfold PB Sv;rw[hap];generalize hM:x.Dz σ=M at *;generalize hXC:x.Bp σ es=xcs at *;have hold:M6 P w I μ σ sv s.len es (s.Bp σ es)/\((∃a,sv=.slice a s.len 0)\/∃id off b base cap,s=.A8 id off s.len/\(A1 σ id).own=true/\μ id=some (b,base)/\G_ w b/\¬I.fr b/\base+(off+cap)*es<=DQ w b/\sv=.slice (some ⟨b,base+off*es,none⟩) s.len cap):=by
  cases s with
  | AA=>cases hs;exact⟨M6.of (news:=[]) (by simp[AV.len]) (by simp[AV.Bp,AV.elems,AV.len]) (λj u x hu=>RI) (λu hu=>RI) (.inl rfl),.inl ⟨none,rfl⟩⟩
  | A8 id off len=>
   obtain⟨hb,he,hl⟩:=hd;refine⟨by simpa only[AV.Bp,AD hb,AV.len] using cj (P:=P) h hs hb he hl,?_⟩;obtain⟨es',cs,hB⟩:=Blk.Gh hb;obtain⟨hid,hal,hown,_,_,hcase⟩:=h.varOf hB;obtain⟨_,hh⟩:=OV hs;rcases hh with⟨rfl,a,rfl⟩|⟨b',base',es2,cap,q1,q2,rfl⟩
   ·exact .inl ⟨a,rfl⟩
   obtain⟨r1,_,r3,_,r5⟩:=q1 hal;rw[he] at r3;subst r3;rcases hcase with⟨hn,_⟩|⟨b,base,hμ,hnI,hpl,_,_⟩
   ·rw[hn] at r1;cases r1
   rw[hμ] at r1;simp only[BF,EO] at r1;obtain⟨rfl,rfl⟩:=r1;exact .inr ⟨id,off,b,base,cap,rfl,hown,hμ,hpl,hnI,r5,rfl⟩
  | _=>exact hd.elim
 obtain⟨⟨sa,sc,olds,hsv,hol,hocl,hor,ho1,hfs,hoc⟩,hcase⟩:=hold;generalize hSC:s.Bp σ es=ocs at *;have hN:(ocs++xcs).length=(s.len+M)*es:=by rw[Bb,hocl,hcl,E8]
 have hpos:0<(ocs++xcs).length:=by rw[hN];exact Nat.mul_pos oo hes
 have hdv:(ocs++xcs).length / es*es=(ocs++xcs).length:=by rw[hN,TH _ hes]
 have hxc:(ocs++xcs).length / es=s.len+M:=by rw[hN,TH _ hes]
 have hone:∀c∈ocs++xcs,c.one=true:=λc hc=>by
  obtain⟨j,hj⟩:=GF hc;by_cases hlt:j<ocs.length
  ·rw[Ec hlt] at hj;have:j<olds.length:=oo;exact(hor j _ c (BP this) hj).1
  rw[G2 oo] at hj;have h3:j-ocs.length<xcs.length:=by
   rcases B9 (j-ocs.length) xcs.length with h'|h'
   ·exact h'
   rw[Bt h'] at hj;cases hj
  have:j-ocs.length<news.length:=oo;exact(hnr _ _ c (BP this) hj).1
 have hboth:∀(j:Nat) (u:Value) (c:AV),(olds++news)[j]? = some u->(ocs++xcs)[j]? = some c->AL w I μ σ u c/\c.one=true:=λj u c hu hc=>by
  by_cases hlt:j<ocs.length
  ·rw[Ec oo] at hu;rw[Ec hlt] at hc;exact(hor j u _ hu hc).symm
  rw[G2 oo] at hu hc;rw[show olds.length=ocs.length by omega] at hu;exact(hnr _ u _ hu hc).symm
 have hall:∀j,j<(s.len+M)*es->∃u,(olds++news)[j]? = some u:=λj hj=>⟨_,BP (by rw[Bb,hol,hnl,<-E8];exact hj)⟩;subst hxv;by_cases hroom:s.len+M<=sc
 ·rcases hcase with⟨a,h0⟩|⟨id,off,b,base,cap,hs',hown,hμ,hpl,hnI,hbnd,hsv'⟩
  ·rw[hsv] at h0;simp only[Value.slice.injEq] at h0;omega
  have hid:=E2 hown;rw[hsv'] at hsv;simp only[Value.slice.injEq] at hsv;obtain⟨rfl,_,rfl⟩:=hsv;subst hsv';have hb0:base+off*es+s.len*es+news.length<=DQ w b:=by
   rw[hnl];have h3:(off+(s.len+M))*es<=(off+cap)*es:=EC es oo;rw[E8,E8] at h3;omega
  obtain⟨w',hr,ww,hw⟩:=Oe (P:=P) (w:=w) (b:=b) (o:=base+off*es+s.len*es) (vs:=news) hpl hb0 hn1;have hkill:Dr σ s=σ.set id .dead:=by rw[hs'];rfl
  have hno:∀j o,(A1 (Dr σ s) j).own=true->μ j≠some (b,o):=λj o hj hμj=>by
   rw[hkill] at hj;have hne:id≠j:=λe=>by
    subst e;rw[BX hid] at hj;simp[Blk.own] at hj
   rw[As hne] at hj;exact h.apart id j b b base o hne hown hj hμ hμj rfl
  obtain⟨f1,f2⟩:=Io.free hr1 hnI hno ww;have cellNew:∀q u,(olds++news)[q]? = some u->w'.cell? ⟨b,base+off*es+q,none⟩=some u:=λq u hq=>by
   exact pK
  have hbs:base+off*es+(s.len+M)*es<=DQ w' b:=by
   rw[ww.bsize,E8];rw[hnl] at hb0;omega
  have kall:=hk1.trans (by rw[hl1] at f2;exact f2);obtain⟨g1,g2⟩:=f1.addBlk (b:=b) (base:=base+off*es) (B:=.var es (ocs++xcs)) hno
   ⟨⟨hes,hdv⟩,.inr ⟨b,base+off*es,Eh _ _ _,hnI,ww.plain hpl,by rw[hN];exact hbs,λj c hc=>by
    obtain⟨u,hu⟩:=hall j (by
     rw[<-hN]
     rcases B9 j (ocs++xcs).length with h'|h'
     ·exact h'
     rw[Bt h'] at hc;cases hc)
    obtain⟨q2,q3⟩:=hboth j u c hu hc
    refine⟨q3,u,cellNew j u hu,?_⟩
    have kx:Ay σ.length w I μ σ w' I (F0 μ (Dr σ s).length (b,base+off*es)) (Dr σ s++[.var es (ocs++xcs)]):=by
     refine kall.trans ⟨rfl,rfl,rfl,AR _,λ_ h=>h,λ_ h=>h,λ_ h=>.inl h,λ_ _=>rfl,λ_=>AR _,by rw[Bb,hl1];omega,λi hi ha=>?_⟩
     have hi':i<(Dr σ s).length:=oo
     unfold Br at *
     rw[BB hi'] at ha ⊢
     exact⟨ha,H8 _ _ oo,rfl,rfl,AR _⟩
    exact q2.AH kx⟩⟩
  refine⟨_,w',_,YD (P:=P) (w:=w) (ty:=ty) hu1 hi hu2 (by rw[i1];exact hfx w rfl) hroom (by rw[i1];simp only[KT];exact hr),by rw[hl1] at g1;exact g1,?_,?_⟩
  ·rw[hl1] at g2;exact kall.trans g2
  refine .A8 _ _ _ _ TS (.inr ⟨b,base+off*es,es,cap,λ_=>?_,hroom,A6⟩);have eb:A1 (Dr σ s++[.var es (ocs++xcs)]) σ.length=.var es (ocs++xcs):=W4;rw[eb];refine⟨Eh _ _ _,rfl,rfl,by simp[Blk.xs,-List.length_append,hxc],?_⟩;rw[ww.bsize,EU];rw[E8] at hbnd;omega
 subst hsv;have hrun:=eh (P:=P) (w:=w) (ty:=ty) hu1 hi i3 hu2 (λw' hw'=>by rw[i1];exact hfx w' hw') (λw' hw'=>by rw[i1];exact hfs w' hw') (Nat.lt_of_not_le hroom) h62 (by rw[i2];exact hbytes);have sm:HN w w.drew:=HN.drew w;have hr2:=sm.rel hr1;have hk2:Ay (Dr σ s).length w I μ (Dr σ s) w.drew I μ (Dr σ s):=sm.AH;have hcap:=grownCap_ge w (s.len+M) sc e;generalize grownCap w (s.len+M) sc e=cap at *;generalize hCA:olds.toArray++news.toArray++Builtin.zeroCells zv.cells (cap-(s.len+M))=ca at *;have hcsz:ca.size=cap*es:=by
  rw[<-hCA];exact nq
 have hcat:∀(j:Nat) (u:Value),(olds++news)[j]? = some u->ca[j]? = some u:=λj u hu=>by
  have hlt:j<(olds++news).length:=by
   rcases B9 j (olds++news).length with h'|h'
   ·exact h'
   rw[Bt h'] at hu;cases hu
  rw[<-hCA,TL (by simpa using hlt)];have:(olds.toArray++news.toArray)=(olds++news).toArray:=A6;rw[this];simpa using hu
 have hk3:=Jt hr2 (.cells ca e) (w.drew.heap.size,0) (.var es (ocs++xcs));have kall:Ay σ.length w I μ σ (w.drew.alloc (.cells ca e)) I (F0 μ (Dr σ s).length (w.drew.heap.size,0)) (Dr σ s++[.var es (ocs++xcs)]):=by
  rw[hl1] at hk2 hk3 ⊢;exact hk1.trans (hk2.trans hk3)
 have hsz2:(s.len+M)*es<=ca.size:=by rw[hcsz];exact EC es hcap
 have hnew:=hr2.alloc (.cells ca e) (.var es (ocs++xcs)) ⟨⟨hes,hdv⟩,.inr ⟨w.drew.heap.size,0,Eh _ _ _,λhI=>by have:=hr2.Bs _ hI;omega,SJ _ _ _,by rw[Kb,hN];omega,λj c hc=>by
  obtain⟨u,hu⟩:=hall j (by
   rw[<-hN]
   rcases B9 j (ocs++xcs).length with h'|h'
   ·exact h'
   rw[Bt h'] at hc;cases hc)
  obtain⟨q2,q3⟩:=hboth j u c hu hc
  exact⟨q3,u,by rw[EU,World.cell?_alloc_new];exact hcat j u hu,q2.AH kall⟩⟩⟩
 refine⟨_,_,_,hrun,hnew,kall,?_⟩;refine .A8 _ _ _ _ TS (.inr ⟨w.heap.size,0,es,cap,λ_=>?_,hcap,A6⟩);have eb:A1 (Dr σ s++[.var es (ocs++xcs)]) σ.length=.var es (ocs++xcs):=W4;rw[eb];refine⟨by rw[<-hl1];exact Eh _ _ _,rfl,rfl,by simp[Blk.xs,-List.length_append,hxc],?_⟩;have:=Kb w.drew ca e;have e5:w.drew.heap.size=w.heap.size:=rfl;rw[e5] at this;rw[this,hcsz];simp
def AV.Dj:AV->Bool
 | .ptr ..=>true
 | _=>false
def NC:List (Nat×AV)->Bool
 | [(_,v)]=>v.Dj
 | _=>false
def Qu(P:Program)(t:TypeId)(len:Nat)(parts:List (Nat×AV)):Prop:=
 match B_ P t with
 | some e=>match tsz P e,Bj P e with
  | some es,some z=>es=1/\z.cells.size=1/\len=1/\∀p∈parts,p.1=0
  | _,_=>False
 | none=>False
def bpS(σ:Sto):List (Nat×AV)->Sto
 | [(_,v)]=>σ++[.var 1 [v]]
 | _=>σ
def yC(h:Rel w I μ σ){t:TypeId}{len:Nat}{parts:List (Nat×AV)}{vals:Array (Nat×Value)}(hf:parts.map Prod.fst=vals.toList.map Prod.fst)
  (hr:∀(k:Nat) (p:Nat×AV) (q:Nat×Value),parts[k]? = some p->vals.toList[k]? = some q->AL w I μ σ q.2 p.2) (hp:NC parts=true) (ho:Qu P t len parts) :
  ∃z w' μ',(Instr.buildSlice t len vals).run P w=.ok z w'/\Rel w' I μ' (bpS σ parts)/\Ay σ.length w I μ σ w' I μ' (bpS σ parts)/\AL w' I μ' (bpS σ parts) z (.A8 σ.length 0 len):=by
 match parts,hp with
 | [(k,u)],hp=>
 unfold Qu at ho;cases hte:B_ P t with
 | none=>rw[hte] at ho;exact ho.elim
 | some e=>
 rw[hte] at ho;cases hz1:tsz P e with
 | none=>simp[hz1] at ho
 | some es=>
 cases hz3:Bj P e with
 | none=>simp[hz1,hz3] at ho
 | some zv=>
 simp only[hz1,hz3] at ho;obtain⟨rfl,hzs,rfl,h0⟩:=ho;have hk0:k=0:=h0 _ DE;subst hk0;obtain⟨i,hi,i1,i3⟩:∃i,P.info? e=some i/\i.size=1/\i.zero=some zv:=by
  unfold tsz at hz1;unfold Bj at hz3;cases hi:P.info? e with
  | none=>rw[hi] at hz1;cases hz1
  | some i=>rw[hi] at hz1 hz3;simp at hz1 hz3;exact⟨i,rfl,hz1,hz3⟩
 obtain⟨l⟩:=vals
 match l,hf with
 | [(k',v)],hf=>
 simp at hf;subst hf;have hv:AL w I μ σ v u:=hr 0 (0,u) (0,v) rfl rfl;have hone:u.one=true:=by cases u<;>first|rfl|cases hp
 have hoc:=dw hv hone;have hvc:v.cells=#[v]:=by cases v<;>first|rfl|cases hoc
 have hrun:=run_buildSlice (P:=P) w t e 1 #[(0,v)] #[v] i zv (Hj hte) hi i3 TQ TQ (by
  rw[i1]
  have e0:Array.range 0=#[]:=A6
  simp[Instr.fill,hvc,Array.range_succ,e0])
 have kk:=Jt h (.cells #[v] e) (w.heap.size,0) (.var 1 [u]);have hb:=h.alloc (.cells #[v] e) (.var 1 [u]) ⟨⟨Nat.one_pos,A6⟩,.inr ⟨w.heap.size,0,Eh _ _ _,λhI=>by have:=h.Bs _ hI;omega,SJ _ _ _,by rw[Kb];simp,λj c hc=>by
  cases j with
  | succ j=>simp at hc
  | zero=>
   simp at hc;subst hc
   exact⟨hone,v,by rw[World.cell?_alloc_new];rfl,hv.AH kk⟩⟩⟩
 refine⟨_,_,_,hrun,hb,kk,?_⟩;refine .A8 _ _ _ _ (by simp[bpS]) (.inr ⟨w.heap.size,0,1,1,λ_=>?_,AR _,A6⟩);have eb:A1 (bpS σ [(0,u)]) σ.length=.var 1 [u]:=Cd;rw[eb];exact⟨Eh _ _ _,rfl,rfl,RH,by rw[Kb];simp⟩
def Zl(P:Program)(σ:Sto)(t1 t2:TypeId)(s x:AV):Prop:=if(HL σ x||HL σ s)=true then Qo P σ t1 t2 s x else Qr P σ t1 t2 s x
def Zh(σ:Sto)(s x:AV):AV:=if(HL σ x||HL σ s)=true then Sv σ s x else apV σ s x
def Se(P:Program)(σ:Sto)(t1:TypeId)(s x:AV):Sto:=if(HL σ x||HL σ s)=true then PB P σ t1 s x else apS P σ t1 s x
def sr(h:Rel w I μ σ){t1 t2 ty:TypeId}{sv xv:Value}{s x:AV}(hs:AL w I μ σ sv s)(hx:AL w I μ σ xv x)(ho:Zl P σ t1 t2 s x):
  ∃z w' μ',(Builtin.append_ #[t1,t2] ty #[sv,xv]).run P w=.ok z w'/\Rel w' I μ' (Se P σ t1 s x)/\Ay σ.length w I μ σ w' I μ' (Se P σ t1 s x)/\AL w' I μ' (Se P σ t1 s x) z (Zh σ s x):=by
 unfold Zl at ho;unfold Se Zh;by_cases hc:(HL σ x||HL σ s)=true
 ·rw[AD hc] at ho;rw[AD hc,AD hc];exact qP h hs hx ho
 rw[A7 hc] at ho;rw[A7 hc,A7 hc];exact rZ h hs hx ho
def Zu(P:Program)(σ:Sto)(t:TypeId)(len:Nat)(parts:List (Nat×AV)):Prop:=if NC parts=true then Qu P t len parts else Qe P σ t len parts
def PO(P:Program)(σ:Sto)(t:TypeId)(len:Nat)(parts:List (Nat×AV)):Sto:=if NC parts=true then bpS σ parts else PH P σ t len parts
def rG(h:Rel w I μ σ){t:TypeId}{len:Nat}{parts:List (Nat×AV)}{vals:Array (Nat×Value)}(hf:parts.map Prod.fst=vals.toList.map Prod.fst)
  (hr:∀(k:Nat) (p:Nat×AV) (q:Nat×Value),parts[k]? = some p->vals.toList[k]? = some q->AL w I μ σ q.2 p.2) (ho:Zu P σ t len parts) :
  ∃z w' I' μ',(Instr.buildSlice t len vals).run P w=.ok z w'/\Rel w' I' μ' (PO P σ t len parts)/\Ay σ.length w I μ σ w' I' μ' (PO P σ t len parts)/\AL w' I' μ' (PO P σ t len parts) z (.A8 σ.length 0 len):=by
 unfold Zu at ho;unfold PO;by_cases hc:NC parts=true
 ·rw[AD hc] at ho;rw[AD hc];obtain⟨z,w',μ',h1,h2,h3,h4⟩:=yC h hf hr hc ho;exact⟨z,w',I,μ',h1,h2,h3,h4⟩
 rw[A7 hc] at ho;rw[A7 hc];exact ql h hf hr ho
end Go.AM


namespace Go.AM
def AV.notNil:AV->Bool
 | .d (.ref _)=>true
 | .ptr ..|.B8 ..|.Al ..|.fn ..=>true
 | _=>false
def Nd(c:Bool):AV->AV->AV
 | .d (.bool p),.d (.bool q)=>.d (.bool (bif c then p else q))
 | .d x,.d y=>.d (bif c then x else y)
 | a,b=>bif c then a else b
def Xm(a b:AV):Nd true a b=a:=by
 unfold Nd;split<;>rfl
def Xx(a b:AV):Nd false a b=b:=by
 unfold Nd;split<;>rfl
def AV.strOf:AV->List UInt8
 | .d (.str s)=>s
 | _=>[]
def AV.Fz:AV->Bool
 | .d (.str _)=>true
 | _=>false
def AV.Ie:AV->Nat->AV
 | .Aj vs,i=>vs.getD i .undef
 | _,_=>.undef
def AV.Fp:AV->Nat
 | .Aj vs=>vs.length
 | _=>0
def evU(Gl:BM)(env:Env)(x:Operand):AV:=(evO Gl env x).un
def evG(Gl:BM)(env:Env)(x:Operand):Bool:=(evO Gl env x).vg
def Nt(Gl:BM)(env:Env):Option Operand->Int
 | some x=>(evU Gl env x).num
 | none=>0
def Nu(Gl:BM)(env:Env)(len:Nat):Option Operand->Int
 | some x=>(evU Gl env x).num
 | none=>len
def QG(Gl:BM)(env:Env):Option Operand->Prop
 | some x=>(evU Gl env x).Au=true
 | none=>True
def ki(P:Program)(s t:TypeId)(u:AV):Prop:=(P.underlying s).isSome=true/\(L7 P t).isSome=true/\u.Au=true
def cvV(P:Program)(t:TypeId)(u:AV):AV:=match L7 P t with|some k=>.d (.int k (k.wrap u.num))|none=>.undef
def Zr(S:Sto)(ik:Option IntKind):AV->Prop
 | .AF id=>(A1 S id).CC=true/\(A1 S id).mk=ik
 | _=>False
def Ch:Op->Bool
 | .call {callee:=.builtin _,..}=>false
 | .call _=>true
 | _=>false
def F5:Op->Bool
 | .alloc _|.box _ _|.buildSlice ..|.store ..|.makeSlice ..|.makeMap ..|.mapUpdate ..|.insert ..=>false
 | .call {callee:=.builtin .append,..}=>false
 | .call {callee:=.builtin .delete,..}=>false
 | .call {callee:=.builtin .clear,..}=>false
 | .call {callee:=.builtin .copy,..}=>false
 | _=>true
def GY(Gl:BM)(env:Env)(parts:Array (Nat×Operand)):List (Nat×AV):=parts.toList.map λp=>(p.1,evU Gl env p.2)
def Gj(P:Program)(Gl:BM)(S:Sto)(env:Env)(b:Builtin)(args:List Operand)(ts:List TypeId):Prop:=
 match b,args,ts with
 | .len,[x],[t]=>(evU Gl env x).DU P t=true
 | .append,[s,x],[t1,t2]=>Zl P S t1 t2 (evU Gl env s) (evU Gl env x)
 | .min,args,_=>Oc (args.map (evU Gl env))
 | .max,args,_=>Oc (args.map (evU Gl env))
 | .delete,[m,k],[t,_]=>match Co P t with|some (ik,_)=>Hf ik (evU Gl env k)/\Zr S ik (evU Gl env m)|none=>False
 | .clear,[s],[t]=>VP P S t (evU Gl env s)
 | .copy,[d,s],[t,_]=>VQ P S t (evU Gl env d) (evU Gl env s)
 | _,_,_=>False
def biV(Gl:BM)(S:Sto)(env:Env)(b:Builtin)(args:List Operand):AV:=
 match b,args with
 | .len,[x]=>.d (.int .i64 (evU Gl env x).len)
 | .append,[s,x]=>Zh S (evU Gl env s) (evU Gl env x)
 | .min,args=>VU (args.map (evU Gl env))
 | .max,args=>VS (args.map (evU Gl env))
 | .copy,[d,s]=>.d (.int .i64 (cpN S (evU Gl env d) (evU Gl env s)))
 | _,_=>.undef
def biS(P:Program)(Gl:BM)(S:Sto)(env:Env)(b:Builtin)(args:List Operand)(ts:List TypeId):Sto:=
 match b,args,ts with
 | .append,[s,x],[t1,_]=>Se P S t1 (evU Gl env s) (evU Gl env x)
 | .delete,[m,k],_=>mdS S (CK (evU Gl env k)) (evU Gl env m)
 | .clear,[s],[t]=>clS P S t (evU Gl env s)
 | .copy,[d,s],_=>cpS S (evU Gl env d) (evU Gl env s)
 | _,_,_=>S
def BE(P:Program)(Gl:BM)(S:Sto)(env:Env):Op->Prop
 | .move _=>True
 | .assign _=>True
 | .pick c _ _=>(evU Gl env c).DT=true
 | .alloc t=>match Bj P t with|some z=>(EZ z).storable=true|none=>False
 | .box _ x=>(evU Gl env x).storable=true
 | .build t parts=>match DR P t,DM P t with|some pl,some zc=>Mt pl zc.length (GY Gl env parts)|_,_=>False
 | .buildSlice t n parts=>match n with
  | 0=>parts=#[]/\(match B_ P t with|some e=>(tsz P e).isSome=true|none=>False)
  | n+1=>Zu P S t (n+1) (GY Gl env parts)
 | .load t x=>match BR P t,tsz P t with|some g,some n=>JM S g n (evU Gl env x)|_,_=>False
 | .store t a x=>match tsz P t with|some n=>Qz S n (evU Gl env x) (evU Gl env a)|none=>False
 | .nilCheck x=>(evU Gl env x).notNil=true
 | .binOp op t x y _=>Jk P t op (evU Gl env x) (evU Gl env y)
 | .unOp op _ x=>PA op (evU Gl env x)
 | .convert s t x=>ki P s t (evU Gl env x)
 | .makeFunc fn first _=>match fn with|.func _=>first=#[]|_=>False
 | .makeSlice t l c=>P7 P t (evU Gl env l) (evU Gl env c)
 | .slice t x lo hi mx=>match mx with
  | none=>QG Gl env lo/\QG Gl env hi/\LP P t S (Nt Gl env lo) (Nu Gl env (evU Gl env x).len hi) (evU Gl env x)
  | some m=>match lo,hi with|none,some h=>ZA P t (evU Gl env x) (evU Gl env h) (evU Gl env m)|_,_=>False
 | .fieldAddr s x f=>match Az P s f with|some (_,n,_)=>n≠0/\(evU Gl env x).Di=true|none=>False
 | .field s x f=>match Az P s f with|some (o,n,g)=>(evU Gl env x).isAgg=true/\o+n<=(evU Gl env x).AO/\(g=true\/n=1)|none=>False
 | .indexAddr t x i=>(evU Gl env i).Au=true/\(match Cn P t with
  | some (none,es)=>Na S es (evU Gl env i).num (evU Gl env x)
  | some (some k,_)=>ZF k (evU Gl env i).num (evU Gl env x)
  | none=>False)
 | .index t x i=>LX P t=true/\(evU Gl env x).Fz=true/\(evU Gl env i).Au=true/\0<=(evU Gl env i).num/\(evU Gl env i).num<(evU Gl env x).strOf.length
 | .extract t i=>i<(evU Gl env t).Fp
 | .lookup t m k _=>match Co P t with|some (ik,e)=>Hf ik (evU Gl env k)/\P6 S ik (evU Gl env m)/\(Bj P e).isSome=true|none=>False
 | .mapUpdate t m k x=>match Co P t with|some (ik,_)=>Hf ik (evU Gl env k)/\Qx S ik (evU Gl env m) (evU Gl env x)|none=>False
 | .insert t m k x=>match Co P t with|some (ik,_)=>Hf ik (evU Gl env k)/\Qx S ik (evU Gl env m) (evU Gl env x)|none=>False
 | .makeMap t r=>r=none/\(Co P t).isSome=true
 | .call c=>match c.callee with|.builtin b=>Gj P Gl S env b c.args.toList c.argTypes.toList|_=>False
 | _=>False
def opV(P:Program)(Gl:BM)(S:Sto)(env:Env):Op->AV
 | .move x=>evU Gl env x
 | .assign x=>evU Gl env x
 | .pick c a b=>Nd (evU Gl env c).DH (evU Gl env a) (evU Gl env b)
 | .alloc _=>.ptr S.length 0
 | .box _ _=>.ptr S.length 0
 | .build t parts=>match DR P t,DM P t with|some pl,some zc=>FV (J6 pl zc (GY Gl env parts))|_,_=>.undef
 | .buildSlice _ n _=>.A8 (S.length) 0 n
 | .load t x=>match BR P t,tsz P t with|some g,some n=>ldV S g n (evU Gl env x)|_,_=>.undef
 | .store ..=>.undef
 | .nilCheck x=>evU Gl env x
 | .binOp op _ x y _=>Ki op (evU Gl env x) (evU Gl env y)
 | .unOp op _ x=>unV op (evU Gl env x)
 | .convert _ t x=>cvV P t (evU Gl env x)
 | .makeFunc fn _ caps=>match fn with|.func f=>.fn f (caps.toList.map (evU Gl env))|_=>.undef
 | .makeSlice _ l _=>.A8 S.length 0 (evU Gl env l).num.toNat
 | .slice _ x lo hi _=>slV (Nt Gl env lo) (Nu Gl env (evU Gl env x).len hi) (evU Gl env x)
 | .fieldAddr s x f=>match Az P s f with|some (o,_,_)=>(evU Gl env x).shift o|none=>.undef
 | .field s x f=>match Az P s f with|some (o,n,g)=>(if g=true then(evU Gl env x).HC o n else(evU Gl env x).cellAt o)|none=>.undef
 | .indexAddr t x i=>match Cn P t with
  | some (none,es)=>Sq es (evU Gl env i).num (evU Gl env x)
  | some (some _,es)=>(evU Gl env x).shift ((evU Gl env i).num.toNat*es)
  | none=>.undef
 | .index _ x i=>.d (.int .u8 ((evU Gl env x).strOf.getD (evU Gl env i).num.toNat 0).toNat)
 | .extract t i=>(evU Gl env t).Ie i
 | .lookup t m k ok=>match Co P t with|some (_,e)=>lkV S (Cp P e) (evU Gl env m) (evU Gl env k) ok|none=>.undef
 | .makeMap _ _=>.AF S.length
 | .call c=>match c.callee with|.builtin b=>biV Gl S env b c.args.toList|_=>.undef
 | _=>.undef
def opS(P:Program)(Gl:BM)(S:Sto)(env:Env):Op->Sto
 | .alloc t=>match Bj P t with|some z=>S++[.box (EZ z).AO (EZ z)]|none=>S
 | .box _ x=>S++[.box (evU Gl env x).AO (evU Gl env x)]
 | .buildSlice t n parts=>match n with
  | 0=>S++[.arr (D2 P t) []]
  | n+1=>PO P S t (n+1) (GY Gl env parts)
 | .store t a x=>match tsz P t with|some n=>stS S n (evU Gl env x) (evU Gl env a)|none=>S
 | .makeSlice t l _=>mkS P S t (evU Gl env l)
 | .mapUpdate _ m k x=>muS S (CK (evU Gl env k)) (evU Gl env x) (evU Gl env m)
 | .insert _ m k x=>muS S (CK (evU Gl env k)) (evU Gl env x) (evU Gl env m)
 | .makeMap t _=>match Co P t with|some (ik,_)=>S++[.map ik λ_=>none]|none=>S
 | .call c=>match c.callee with|.builtin b=>biS P Gl S env b c.args.toList c.argTypes.toList|_=>S
 | _=>S
def gdL(Gl:BM)(env:Env)(g:Bool):List Operand->Prop
 | []=>True
 | x::r=>(g=true->evG Gl env x=true)/\gdL Gl env g r
def Ez(Gl:BM)(env:Env)(g:Bool):Op->Prop
 | .pick c a b=>(g=true->evG Gl env c=true)/\(g=true->(evU Gl env c).DH=true->evG Gl env a=true)/\(g=true->(evU Gl env c).DH=false->evG Gl env b=true)
 | op=>gdL Gl env g op.operands.toList
variable {w:World} {I:Im} {μ:Pos} {σ:Sto}
structure Cr(Gl:BM)(w:World)(I:Im):Prop where
 sl:∀p∈Gl,J1 w I p.1 0 p.2.cells.length [p.2]
 ex:∀p∈Gl,∃c t fz,w.heap[p.1]? = some (.cells c t fz)/\c.size=p.2.cells.length
def Cr.nil(w:World)(I:Im):Cr [] w I:=⟨λp hp=>(by cases hp),λp hp=>(by cases hp)⟩
def Cr.AH{Gl:BM}{m:Nat}{w':World}{I':Im}{μ':Pos}{σ':Sto}(h:Cr Gl w I)(k:Ay m w I μ σ w' I' μ' σ'):Cr Gl w' I':=
 ⟨λp hp=>(h.sl p hp).AH k.Bs k.CB,λp hp=>by
  obtain⟨c,t,f,h1,h2⟩:=h.ex p hp
  exact⟨c,t,f,(k.CB _ (h.sl p hp).Bs).trans h1,h2⟩⟩
def EK(r:Result Next)(w:World)(I:Im)(μ:Pos)(σ:Sto)(v:AV)(σ':Sto):Prop:=
 ∃u w' I' μ',(r=.ok (.value u) w'\/(r=.ok .skip w'/\u=Go.undef))/\Rel w' I' μ' σ'/\Ay σ.length w I μ σ w' I' μ' σ'/\AL w' I' μ' σ' u v
def EK.same{P:Program}{s:Sem Value}{u:Value}{v:AV}(h:Rel w I μ σ)(hr:s.run P w=.ok u w)(hv:AL w I μ σ u v):EK ((do pure (.value (<-s)):Sem Next).run P w) w I μ σ v σ:=
 ⟨u,w,I,μ,.inl (by simp[hr]),h,Ay.refl _ _ _ _ (AR _),hv⟩
def EK.of{P:Program}{s:Sem Value}{u:Value}{v:AV}{w':World}{I':Im}{μ':Pos}{σ':Sto}(hr:s.run P w=.ok u w')(h:Rel w' I' μ' σ')(k:Ay σ.length w I μ σ w' I' μ' σ')(hv:AL w' I' μ' σ' u v):
  EK ((do pure (.value (<-s)):Sem Next).run P w) w I μ σ v σ':=
 ⟨u,w',I',μ',.inl (by simp[hr]),h,k,hv⟩
end Go.AM


namespace Go.AM
variable {P:Program} {w:World} {I:Im} {μ:Pos} {σ:Sto} {n:Nat} {Gl:BM} {env:Env} {a:Act}
def H6(hG:Cr Gl w I)(hE:C9 n w I μ σ env a){x:Operand}(hg:evG Gl env x=true):AL w I μ σ (a.eval x) (evU Gl env x):=jA (tv hG.sl hE x) hg
def OY:∀{l:List Operand},gdL Gl env true l->∀x∈l,evG Gl env x=true
 | y::r,h,x,hx=>by
  cases hx with
  | head=>exact h.1 rfl
  | tail _ hx=>exact OY h.2 x hx
def cf{v:Value}{u:AV}(hv:AL w I μ σ v u)(hb:u.DT=true):v=.bool u.DH:=by
 cases u with
 | d x=>
  have:=hv.Ar;cases this<;>simp_all [AV.DT,AV.DH]
 | _=>simp[AV.DT] at hb
def U9(hG:Cr Gl w I)(hE:C9 n w I μ σ env a){l:List Operand}(hl:∀x∈l,evG Gl env x=true):
  ∀(i:Nat) (v:Value) (u:AV),(l.map a.eval)[i]? = some v->(l.map (evU Gl env))[i]? = some u->AL w I μ σ v u:=λi v u hv hu=>by
 rw[DG] at hv hu;cases hx:l[i]? with
 | none=>rw[hx] at hv;cases hv
 | some x=>
  rw[hx] at hv hu;simp only[DF,BF] at hv hu;subst hv;subst hu;exact H6 hG hE (hl x (Dn hx))
def iF(hG:Cr Gl w I)(hE:C9 n w I μ σ env a){parts:Array (Nat×Operand)}(hl:∀x∈parts.toList.map (·.2),evG Gl env x=true):
  (GY Gl env parts).map Prod.fst=(parts.map λ(i,x)=>(i,a.eval x)).toList.map Prod.fst /\
  ∀(k:Nat) (p:Nat×AV) (q:Nat×Value),(GY Gl env parts)[k]? = some p->(parts.map λ(i,x)=>(i,a.eval x)).toList[k]? = some q->AL w I μ σ q.2 p.2:=by
 refine⟨by simp[GY,aD],λk p q hp hq=>?_⟩;unfold GY at hp;rw[Array.toList_map,DG] at hq;rw[DG] at hp;cases hx:parts.toList[k]? with
 | none=>rw[hx] at hp;cases hp
 | some x=>
  rw[hx] at hp hq;simp only[DF,BF] at hp hq;subst hp;subst hq;exact H6 hG hE (hl _ (C4.2 ⟨x,Dn hx,rfl⟩))
def ss(hR:Rel w I μ σ)(hG:Cr Gl w I)(hE:C9 n w I μ σ env a){b:Builtin}{args:Array Operand}{ts:Array TypeId}(ty:TypeId)(cs:Array Bool)(hl:∀x∈args.toList,evG Gl env x=true)
  (ho:Gj P Gl σ env b args.toList ts.toList):EK ((builtin b ts ty cs (args.map a.eval)).run P w) w I μ σ (biV Gl σ env b args.toList) (biS P Gl σ env b args.toList ts.toList):=by
 obtain⟨args⟩:=args;obtain⟨ts⟩:=ts;simp only at hl ho ⊢;unfold Gj at ho;split at ho
 ·rename_i x t;exact EK.same hR (u:=.int .i64 (evU Gl env x).len) (by simpa using wQ (P:=P) (H6 hG hE (hl x A6)) ho) (.d _ _ (.int _ _))
 ·rename_i s x t1 t2;obtain⟨z,w',μ',h1,h2,h3,h4⟩:=sr (P:=P) (ty:=ty) hR (H6 hG hE (hl s A6)) (H6 hG hE (hl x A6)) ho;exact EK.of Cz h2 h3 h4
 ·rename_i args' _;obtain⟨z,h1,h2⟩:=wS (P:=P) (w:=w) (I:=I) (μ:=μ) (σ:=σ) (ts:=ts.toArray) (ty:=ty) (vs:=(args.map a.eval).toArray) (us:=args.map (evU Gl env)) A6 (λi v u hv hu=>U9 hG hE hl i v u Ph hu) ho;exact EK.same hR (by simpa[builtin] using h1) h2
 ·rename_i args' _;obtain⟨z,h1,h2⟩:=wR (P:=P) (w:=w) (I:=I) (μ:=μ) (σ:=σ) (ts:=ts.toArray) (ty:=ty) (vs:=(args.map a.eval).toArray) (us:=args.map (evU Gl env)) A6 (λi v u hv hu=>U9 hG hE hl i v u Ph hu) ho;exact EK.same hR (by simpa[builtin] using h1) h2
 ·rename_i m k t t2;cases ht:Co P t with
  | none=>rw[ht] at ho;exact ho.elim
  | some q=>
   obtain⟨ik,e⟩:=q;rw[ht] at ho;obtain⟨h1,h2⟩:=ho;have hm:=H6 hG hE (hl m A6);have hk:=H6 hG hE (hl k A6);simp only[biS];cases hu:evU Gl env m with
   | AF id=>
    rw[hu] at h2 hm;obtain⟨w',h3,h4,h5⟩:=rQ (P:=P) (t2:=t2) (ty:=ty) hR ht hm hk h1 h2.1 h2.2;exact EK.of Gv h4 h5 (.undef _)
   | _=>rw[hu] at h2;exact h2.elim
 ·rename_i s t;obtain⟨w',h1,h2,h3⟩:=Qfp (P:=P) (ty:=ty) hR (H6 hG hE (hl s A6)) ho;exact EK.of Cz h2 h3 (.undef _)
 ·rename_i d s t t2;obtain⟨w',h1,h2,h3⟩:=y4 (P:=P) (t2:=t2) (ty:=ty) hR (H6 hG hE (hl d A6)) (H6 hG hE (hl s A6)) ho;exact EK.of Cz h2 h3 (.d _ _ (.int _ _))
 exact ho.elim
def M7(hR:Rel w I μ σ)(hG:Cr Gl w I)(hE:C9 n w I μ σ env a)(o:Oper)(hc:Ch o.op=false)(hgd:Ez Gl env true o.op)(ho:BE P Gl σ env o.op):
  EK ((execOp a.eval o).run P w) w I μ σ (opV P Gl σ env o.op) (opS P Gl σ env o.op):=by
 obtain⟨dst,op,ty,pos,af,gd⟩:=o;simp only at hc hgd ho ⊢;have U:∀{x:Operand},x∈op.operands.toList->(∀c p q,op≠.pick c p q)->AL w I μ σ (a.eval x) (evU Gl env x):=λ{x} hx hnp=>by
  refine H6 hG hE (OY (l:=op.operands.toList) ?_ x hx);cases op<;>first|exact hgd|(exact absurd rfl (hnp _ _ _))
 cases op with
 | move x=>exact⟨_,w,I,μ,.inl rfl,hR,Ay.refl _ _ _ _ (AR _),U Dx A6⟩
 | assign x=>exact⟨_,w,I,μ,.inl rfl,hR,Ay.refl _ _ _ _ (AR _),U Dx A6⟩
 | pick c p q=>
  obtain⟨g1,g2,g3⟩:=hgd;have hb:=cf (H6 hG hE (g1 rfl)) ho;cases ht:(evU Gl env c).DH with
  | true=>
   refine⟨a.eval p,w,I,μ,.inl ?_,hR,Ay.refl _ _ _ _ (AR _),?_⟩
   ·simp[execOp,hb,asBool,ht]
   simp only[opV,ht,Xm];exact H6 hG hE (g2 rfl ht)
  | false=>
   refine⟨a.eval q,w,I,μ,.inl ?_,hR,Ay.refl _ _ _ _ (AR _),?_⟩
   ·simp[execOp,hb,asBool,ht]
   simp only[opV,ht,Xx];exact H6 hG hE (g3 rfl ht)
 | alloc t=>
  simp only[BE] at ho;cases hz:Bj P t with
  | none=>rw[hz] at ho;exact ho.elim
  | some z=>
   rw[hz] at ho;obtain⟨w',μ',h1,h2,h3,h4⟩:=Qf5 (P:=P) hR hz ho;simp only[opV,opS,hz];exact EK.of h1 h2 h3 h4
 | box t x=>
  obtain⟨w',μ',h1,h2,h3,h4⟩:=kP (P:=P) hR t (U (x:=x) Dx A6) ho;exact EK.of h1 h2 h3 h4
 | build t parts=>
  simp only[BE] at ho;split at ho
  ·rename_i pl zc h1 h2;have hl:∀x∈parts.toList.map (·.2),evG Gl env x=true:=OY ax;obtain⟨p1,p2⟩:=iF (w:=w) (I:=I) (μ:=μ) (σ:=σ) (n:=n) (a:=a) hG hE hl;obtain⟨z,h3,h4⟩:=Qfx (P:=P) h1 h2 p1 p2 ho;simp only[opV,opS,h1,h2];exact EK.same hR h3 h4
  exact ho.elim
 | buildSlice t k parts=>
  have hl:∀x∈parts.toList.map (·.2),evG Gl env x=true:=OY ax;obtain⟨p1,p2⟩:=iF (w:=w) (I:=I) (μ:=μ) (σ:=σ) (n:=n) (a:=a) hG hE hl;cases k with
  | zero=>
   simp only[BE] at ho;obtain⟨rfl,ho⟩:=ho;cases hte:B_ P t with
   | none=>rw[hte] at ho;exact ho.elim
   | some e=>
    rw[hte] at ho;obtain⟨es,hs⟩:=Fa.1 ho;obtain⟨z,w',μ',h1,h2,h3,h4⟩:=qu (P:=P) hR hte hs;have:D2 P t=es:=by unfold D2;rw[hte];simp[hs]
    simp only[opV,opS,this];exact EK.of Cz h2 h3 h4
  | succ k=>
   obtain⟨z,w',I',μ',h1,h2,h3,h4⟩:=rG (P:=P) hR p1 p2 ho;exact EK.of h1 h2 h3 h4
 | load t x=>
  simp only[BE] at ho;split at ho
  ·rename_i g k h1 h2;obtain⟨u,h3,h4⟩:=hY (P:=P) hR h1 h2 (U (x:=x) Dx A6) ho;simp only[opV,opS,h1,h2];exact EK.same hR h3 h4
  exact ho.elim
 | store t p x=>
  simp only[BE] at ho;split at ho
  ·rename_i k h1;obtain⟨w',I',h3,h4,h5⟩:=Qbl (P:=P) hR h1 (U (x:=x) Dx A6) (U (x:=p) Dx A6) ho;simp only[opV,opS,h1];exact⟨Go.undef,w',I',μ,.inr ⟨by simp[execOp,h3],rfl⟩,h4,h5,.undef _⟩
  exact ho.elim
 | nilCheck x=>
  have hx:=U (x:=x) Dx A6;simp only[BE] at ho;refine⟨a.eval x,w,I,μ,.inl ?_,hR,Ay.refl _ _ _ _ (AR _),hx⟩;generalize evU Gl env x=u at *;generalize hv:a.eval x=v at *;cases hx<;>simp only[AV.notNil,Cx] at ho
  ·rename_i x h;cases x with
   | ref x=>obtain⟨_,_,rfl,_⟩:=h.Ig;simp[execOp,hv]
   | _=>cases ho
  ·rename_i h;obtain⟨_,_,_,rfl⟩:=h;simp[execOp,hv]
  ·simp[execOp,hv]
  ·rename_i h;obtain⟨_,_,_,_,rfl⟩:=h;simp[execOp,hv]
  simp[execOp,hv]
 | lookup t m k ok=>
  simp only[BE] at ho;split at ho
  ·rename_i ik e h1;obtain⟨h2,h3,h4⟩:=ho;obtain⟨z,h5,h6⟩:=ry (P:=P) hR h1 (U (x:=m) Dx A6) (U (x:=k) Dx A6) h2 h3 h4 ok;simp only[opV,opS,h1];exact EK.same hR h5 h6
  exact ho.elim
 | mapUpdate t m k x=>
  exact pB
 | insert t m k x=>
  exact pB
 | makeMap t r=>
  obtain⟨rfl,h1⟩:=ho;obtain⟨q,h1⟩:=Fa.1 h1;obtain⟨ik,e⟩:=q;obtain⟨w',μ',h2,h3,h4,h5⟩:=sw (P:=P) hR t ik;simp only[opV,opS,h1];exact EK.of DN h3 h4 h5
 | binOp op t x y yt=>
  obtain⟨z,h1,h2⟩:=Qf0 (P:=P) (op:=op) (t:=t) (x:=x) (y:=y) (U (x:=x) Dx A6) (U (x:=y) Dx A6) ho;exact EK.same hR h1 h2
 | unOp op t x=>
  obtain⟨z,h1,h2⟩:=Qgw (P:=P) (op:=op) (U (x:=x) Dx A6) ho;exact EK.same hR h1 h2
 | convert s t x=>
  obtain⟨h1,h2,h3⟩:=ho;obtain⟨k,hk⟩:=Fa.1 h2;obtain⟨z,h4,h5⟩:=xz (P:=P) hk h1 (U (x:=x) Dx A6) h3;simp only[opV,cvV,hk,opS];exact EK.same hR h4 h5
 | makeFunc fn first caps=>
  cases fn with
  | func f=>
   simp only[BE] at ho;subst ho;have hl:∀x∈caps.toList,evG Gl env x=true:=OY ax;refine EK.same hR (u:=.func (.func f) #[] (caps.toList.map a.eval).toArray) ?_ (.fn f _ _ A6 (U9 hG hE hl));simp[Instr.makeFunc];apply VY;simp
  | _=>exact ho.elim
 | makeSlice t l c=>
  obtain⟨z,w',μ',h1,h2,h3,h4⟩:=qf (P:=P) hR (U (x:=l) Dx A6) (U (x:=c) Dx A6) ho;exact EK.of h1 h2 h3 h4
 | slice t x lo hi mx=>
  cases mx with
  | some m=>
   cases lo with
   | some _=>exact ho.elim
   | none=>
   cases hi with
   | none=>exact ho.elim
   | some h=>
   have hx:=U (x:=x) Dx A6;have hok:ZA P t (evU Gl env x) (evU Gl env h) (evU Gl env m):=ho;have hi1:(evU Gl env h).Au=true/\(evU Gl env m).Au=true:=by
    cases hu:evU Gl env x<;>rw[hu] at hok<;>first|exact⟨hok.1,hok.2.1⟩|exact hok.elim
   have e1:=KV (U (x:=h) Dx A6) hi1.1;have e2:=KV (U (x:=m) Dx A6) hi1.2;obtain⟨z,h2,h3⟩:=sY (P:=P) hx rfl rfl hok;refine EK.same hR ?_ h3;show(Instr.sliceAt t (a.eval x) none (some (a.eval h)) (some (a.eval m))).run P w=_;rw[e1,e2];exact h2
  | none=>
   obtain⟨b1,b2,h1⟩:=ho;have hx:=U (x:=x) Dx A6;have hlo:((lo.map a.eval)=none/\Nt Gl env lo=0)\/∃k,(lo.map a.eval)=some (.int k (Nt Gl env lo)):=by
    cases lo with
    | none=>exact .inl ⟨rfl,rfl⟩
    | some l=>exact .inr ⟨_,by rw[DF,KV (U (x:=l) Dx A6) b1];rfl⟩
   have hhi:((hi.map a.eval)=none/\Nu Gl env (evU Gl env x).len hi=(evU Gl env x).len)\/∃k,(hi.map a.eval)=some (.int k (Nu Gl env (evU Gl env x).len hi)):=by
    cases hi with
    | none=>exact .inl ⟨rfl,rfl⟩
    | some l=>exact .inr ⟨_,by rw[DF,KV (U (x:=l) Dx A6) b2];rfl⟩
   obtain⟨z,h2,h3⟩:=Qbq (P:=P) hx hlo hhi h1;exact EK.same hR h2 h3
 | fieldAddr s x f=>
  simp only[BE] at ho;split at ho
  ·rename_i o k g h1;obtain⟨z,h2,h3⟩:=qj (P:=P) h1 ho.1 (U (x:=x) Dx A6) ho.2;exact WL
  exact ho.elim
 | field s x f=>
  simp only[BE] at ho;split at ho
  ·rename_i o k g h1;obtain⟨z,h2,h3⟩:=Qfh (P:=P) h1 (U (x:=x) Dx A6) ho.1 rfl ho.2.1 ho.2.2;exact WL
  exact ho.elim
 | indexAddr t x i=>
  obtain⟨hi,ho⟩:=ho;have hx:=U (x:=x) Dx A6;have hiv:=U (x:=i) Dx A6;split at ho
  ·rename_i es h1;obtain⟨z,h2,h3⟩:=vh (P:=P) h1 hx hiv hi ho;exact WL
  ·rename_i k es h1;obtain⟨z,h2,h3⟩:=xq (P:=P) h1 hx hiv hi ho;exact WL
  exact ho.elim
 | index t x i=>
  obtain⟨h1,h2,h3,h4,h5⟩:=ho;have hx:=U (x:=x) Dx A6;have hiv:=U (x:=i) Dx A6;have e:evU Gl env x=.d (.str (evU Gl env x).strOf):=by
   generalize evU Gl env x=u at *;cases u with
   | d y=>cases y<;>simp_all [AV.Fz,AV.strOf]
   | _=>simp[AV.Fz] at h2
  rw[e] at hx;obtain⟨z,h6,h7⟩:=Qfa (P:=P) h1 hx hiv h3 h4 h5;exact EK.same hR h6 h7
 | extract t i=>
  have hx:=U (x:=t) Dx A6;simp only[BE] at ho;generalize hu:evU Gl env t=u at *;generalize hv:a.eval t=v at *;cases hx with
  | Aj vs cs hl hh=>
   simp only[AV.Fp] at ho;have hl':i<vs.length:=oo;refine EK.same hR (u:=vs[i]) ?_ ?_
   ·simp[Instr.extract,hv,hl']
   simp only[opV,hu,AV.Ie,B5,BP ho,EA];exact hh i _ _ (BP hl') (BP ho)
  | _=>simp[AV.Fp] at ho
 | call c=>
  obtain⟨callee,args,ats⟩:=c;cases callee with
  | builtin b=>
   have hl:∀x∈args.toList,evG Gl env x=true:=OY (by simpa[Ez,Op.operands,Call.operands] using hgd);have e:∃cs,(execOp a.eval ⟨dst,.call ⟨.builtin b,args,ats⟩,ty,pos,af,gd⟩).run P w=(builtin b ats ty cs (args.map a.eval)).run P w:=
    ⟨_,lV⟩
   obtain⟨cs,e⟩:=e;rw[e];exact ss (P:=P) hR hG hE (b:=b) (args:=args) (ts:=ats) ty cs hl ho
  | value f=>exact ho.elim
  | invoke r m=>exact ho.elim
 | _=>exact ho.elim
end Go.AM


namespace Go.AM
def Mz(P:Program)(r:Result Next)(w:World)(Q:Value->World->Prop):Prop:=
 match r with
 | .ok (.enter f args) w'=>w'=w/\Calls P f args w λe w''=>∃v,e=.returned v/\Q v w''
 | .ok (.value v) w'=>Q v w'
 | _=>False
def Zf(w:World)(I:Im)(L:Pos)(S:Sto)(R:AV->Sto->Prop)(v:Value)(w':World):Prop:=
 ∃r σ' I' μ',Rel w' I' μ' σ'/\Ay S.length w I L S w' I' μ' σ'/\AL w' I' μ' σ' v r/\R r σ'
def AW(P:Program)(Gl:BM)(f:FuncId)(args:List AV)(S:Sto)(R:AV->Sto->Prop):Prop:=
 ∀w I L (vals:List Value),Rel w I L S->Cr Gl w I->vals.length=args.length->(∀(i:Nat) (v:Value) (u:AV),vals[i]? = some v->args[i]? = some u->AL w I L S v u) ->
  Mz P ((callFunc f vals.toArray).run P w) w (Zf w I L S R)
def Mz.mono{P:Program}{r:Result Next}{w:World}{Q Q':Value->World->Prop}(h:Mz P r w Q)(hq:∀v w',Q v w'->Q' v w'):Mz P r w Q':=by
 unfold Mz at *;split at h
 ·exact⟨h.1,h.2.mono λe w'' ⟨v,hv,hr⟩=>⟨v,hv,hq _ _ hr⟩⟩
 ·exact hq _ _ h
 exact h.elim
def AW.mono{P:Program}{Gl:BM}{f:FuncId}{args:List AV}{S:Sto}{R R':AV->Sto->Prop}(h:AW P Gl f args S R)(hr:∀r σ',R r σ'->R' r σ'):AW P Gl f args S R':=
 λw I L vals h1 h2 h3 h4=>(h w I L vals h1 h2 h3 h4).mono λ_ _ ⟨r,σ',I',μ',q1,q2,q3,q4⟩=>⟨r,σ',I',μ',q1,q2,q3,hr _ _ q4⟩
def HO(P:Program)(Gl:BM)(env:Env)(S:Sto)(op:Op)(R:AV->Sto->Prop):Prop:=
 match op with
 | .call c=>match c.callee with
  | .value x=>match evU Gl env x with
   | .fn f caps=>AW P Gl f (c.args.toList.map (evU Gl env)++caps) S R
   | _=>False
  | _=>False
 | _=>False
def FH(v:AV):Bool:=match v with
 | .d (.bool _)=>true
 | .iff _ (.d (.bool _))=>true
 | _=>false
def C3(v:AV)(b:Bool):Bool:=match v with
 | .d (.bool x)=>x==b
 | .iff g (.d (.bool x))=>g&&(x==b)
 | _=>false
def BV(all:Array Oper)(env:Env)(j:Nat):AV:=match (all[j]?).bind (·.dst) with
 | some d=>Bl env d
 | none=>.undef
def C8(n:Nat):Option Tmp->Bool
 | some d=>decide (d<n)
 | none=>true
def AJ(env:Env)(dst:Option Tmp)(v:AV):Env:=match dst with
 | some d=>(d,v)::env
 | none=>env
def Ext(S s:Sto):Prop:=S.length<=s.length/\∀id,(A1 S id).AP=true\/A1 s id=A1 S id\/A1 s id=(A1 S id).frozen
def Ext.refl(S:Sto):Ext S S:=⟨AR _,λ_=>.inr (.inl rfl)⟩
def Rh(acc:List Nat)(l:List Edge)(s:Nat):Nat:=l.foldl (λs e=>if Region.binds .any e=true then s ||| 2 ^ e.on ||| acc.getD e.on 0 else s) s
def MN:List Oper->List Nat->List Nat
 | [],acc=>acc
 | o::r,acc=>MN r (acc++[Rh acc o.after.toList 0])
def Ea:Op->Bool
 | .alloc _|.box _ _|.buildSlice ..|.makeSlice ..|.makeMap ..=>true
 | _=>false
def Lw(all:Array Oper):Bool:=decide (0<all.size)&&(List.range (all.size-1)).all (λj=>((MN all.toList []).getD (all.size-1) 0).testBit j)
def Lc(all:Array Oper):Bool:=Lw all&&(List.range all.size).any λi=>(List.range i).any λj=>(match all[j]?,all[i]? with|some x,some y=>Ea x.op&&Ea y.op&&x.guard.isNone&&y.guard.isNone|_,_=>false)&&!((MN all.toList []).getD i 0).testBit j
def wM{all:Array Oper}(h:Lc all=true):Lw all=true:=by
 simp only[Lc,C5] at h;exact h.1
def Ab(P:Program)(Gl:BM)(n:Nat)(all:Array Oper)(draw:Bool):List Oper->Env->Sto->(Env->Sto->Prop)->Prop
 | [],env,S,K=>K env S
 | o::rest,env,S,K=>
  C8 n o.dst=true /\
  match o.guard with
  | none=>Ez Gl env true o.op /\
   (if Ch o.op=true then
    (if draw=true then(∃r0,(∀s,Ext S s->HO P Gl env s o.op (λr σ'=>r=r0/\σ'=s))/\Ab P Gl n all draw rest (AJ env o.dst r0) S K) \/
      (rest=[]/\Lw all=true/\HO P Gl env S o.op (λr σ'=>K (AJ env o.dst r) σ'))\/Lc all=true
     else HO P Gl env S o.op (λr σ'=>Ab P Gl n all draw rest (AJ env o.dst r) σ' K))
    else BE P Gl S env o.op/\Ab P Gl n all draw rest (AJ env o.dst (opV P Gl S env o.op)) (opS P Gl S env o.op) K)
  | some (j,b)=>if Ea o.op=true then FH (BV all env j)=true/\C3 (BV all env j) b=true/\Ez Gl env true o.op/\BE P Gl S env o.op/\Ab P Gl n all draw rest (AJ env o.dst (.iff true (opV P Gl S env o.op))) (opS P Gl S env o.op) K
   else F5 o.op=true/\FH (BV all env j)=true/\Ez Gl env (C3 (BV all env j) b) o.op /\
   (if Ch o.op=true then
    ∃r0,(C3 (BV all env j) b=true->∀s,Ext S s->HO P Gl env s o.op (λr σ'=>r=r0/\σ'=s))/\Ab P Gl n all draw rest (AJ env o.dst (.iff (C3 (BV all env j) b) r0)) S K
    else(C3 (BV all env j) b=true->BE P Gl S env o.op)/\Ab P Gl n all draw rest (AJ env o.dst (.iff (C3 (BV all env j) b) (opV P Gl S env o.op))) S K)
variable {P:Program} {w:World} {I:Im} {μ:Pos} {σ:Sto} {n:Nat} {Gl:BM} {env:Env} {a:Act}
def QN{op:Op}(h:F5 op=true):opS P Gl σ env op=σ:=by
 cases op<;>first|rfl|(simp[F5] at h;done)|skip;rename_i c;obtain⟨callee,args,ts⟩:=c;cases callee<;>first|rfl|skip;rename_i b;cases b<;>first|rfl|(simp[F5] at h;done)
def Un{all:Array Oper}{o:Oper}(h:o.guard=none)(tmps:Array Value):Region.wanted o (yielded all tmps)=true:=by simp[Region.wanted,h]
def Oq(hE:C9 n w I μ σ env a){all:Array Oper}{o:Oper}{j:Nat}{b:Bool}(h:o.guard=some (j,b))(hs:FH (BV all env j)=true):Region.wanted o (yielded all a.tmps)=C3 (BV all env j) b:=by
 unfold BV at *;cases hd:(all[j]?).bind (·.dst) with
 | none=>rw[hd] at hs;simp[FH] at hs
 | some d=>
  rw[hd] at hs;simp only at hs;have hv:=hE.slot d;have hy:yielded all a.tmps j=match a.tmps.getD d Go.undef with|.bool b=>some b|_=>none:=by
   unfold yielded;cases ho:all[j]? with
   | none=>simp[ho] at hd
   | some o'=>
    simp[ho] at hd;simp[hd];cases a.tmps[d]? with
    | none=>rfl
    | some q=>cases q<;>rfl
  simp only[Region.wanted,h,hy];generalize a.tmps.getD d Go.undef=v at *;generalize Bl env d=u at *;cases u with
  | d x=>
   have:=hv.Ar;cases this<;>simp_all [FH,C3]
  | iff g x=>
   cases x with
   | d y=>
    cases y with
    | bool c=>
     cases hv with
     | iff _ _ _ h1 h2=>
      cases g with
      | true=>
       have:=(h1 rfl).Ar;cases this;simp[C3]
      | false=>
       have:=h2 rfl;subst this;simp[C3,Go.undef]
    | _=>simp[FH] at hs
   | _=>simp[FH] at hs
  | _=>simp[FH] at hs
def C9.AJ(hE:C9 n w I μ σ env a){dst:Option Tmp}(hd:C8 n dst=true){v:Value}{u:AV}(hv:AL w I μ σ v u):C9 n w I μ σ (AM.AJ env dst u) (a.put dst v):=by
 cases dst with
 | none=>exact hE
 | some d=>exact hE.put (by simpa[C8] using hd) hv
def NI(hR:Rel w I μ σ)(hG:Cr Gl w I)(hE:C9 n w I μ σ env a){o:Oper}(hgd:Ez Gl env true o.op){R:AV->Sto->Prop}(h:HO P Gl env σ o.op R):
  Mz P ((execOp a.eval o).run P w) w (Zf w I μ σ R):=by
 obtain⟨dst,op,ty,pos,af,gd⟩:=o;simp only at hgd h;unfold HO at h;split at h
 ·rename_i c;obtain⟨callee,args,ats⟩:=c;simp only at h hgd;split at h
  ·rename_i x;split at h
   ·rename_i f caps hu;have hgl:=OY (l:=(Op.call ⟨.value x,args,ats⟩).operands.toList) hgd;have hx:=H6 hG hE (hgl x (by simp[Op.operands,Call.operands]));rw[hu] at hx;have hl:∀y∈args.toList,evG Gl env y=true:=λy hy=>hgl y lU;generalize hav:a.eval x=fv at *;cases hx with
    | fn _ vs _ hvl hvr=>
     have:=h w I μ (args.toList.map a.eval++vs) hR hG (by simp[hvl]) (λi v u hv hu=>by
      rcases B9 i args.toList.length with hi|hi
      ·rw[Ec Lj] at hv hu
       exact U9 hG hE hl i v u hv hu
      rw[G2 Lj] at hv hu
      simp only[BW] at hv hu
      exact hvr _ v u hv hu)
     have e:(execOp a.eval ⟨dst,.call ⟨.value x,args,ats⟩,ty,pos,af,gd⟩).run P w=(callFunc f (args.toList.map a.eval++vs).toArray).run P w:=by
      simp only[execOp,resolve,hav,Deferred.ofValue,Sem.run_bind,Sem.run_pure,Result.andThen_ok,invoke];congr 2;apply VY;simp
     rw[e];exact this
   exact h.elim
  exact h.elim
 exact h.elim
def Oper.Bo{o:Oper}{next:Act->World->Prop}{Q:Exit->Act->World->Prop}{R:Value->World->Prop}(h:Mz P ((execOp a.eval o).run P w) w R)(hn:∀v w',R v w'->next (a.put o.dst v) w'):o.wp P a w next Q:=by
 unfold Oper.wp;generalize (execOp a.eval o).run P w=r at *;unfold Mz at h;split at h
 ·obtain⟨rfl,hc⟩:=h;rw[Oper.upon_enter];exact hc.mono λe w'' ⟨v,he,hr⟩=>by subst he;exact hn v w'' hr
 ·rw[Oper.upon_value];exact hn _ _ h
 exact h.elim
def Oper.Bf{o:Oper}{next:Act->World->Prop}{Q:Exit->Act->World->Prop}{v:AV}{σ':Sto}(h:EK ((execOp a.eval o).run P w) w I μ σ v σ')
  (hn:∀u w' I' μ',Rel w' I' μ' σ'->Ay σ.length w I μ σ w' I' μ' σ'->AL w' I' μ' σ' u v->next (a.put o.dst u) w'):o.wp P a w next Q:=by
 obtain⟨u,w',I',μ',h1,h2,h3,h4⟩:=h;unfold Oper.wp;rcases h1 with h1|⟨h1,rfl⟩
 ·rw[h1,Oper.upon_value];exact hn u w' I' μ' h2 h3 h4
 rw[h1,Oper.upon_skip];exact hn _ w' I' μ' h2 h3 h4
def Kd{all:Array Oper}{m:Nat}{K:Env->Sto->Prop}{Q:Exit->Act->World->Prop}:∀(ops:List Oper) (env:Env) (σ:Sto),Ab P Gl n all false ops env σ K->∀{w:World} {I:Im} {μ:Pos} {a:Act},
  Rel w I μ σ->Cr Gl w I->C9 n w I μ σ env a->m<=σ.length ->
  (∀env' σ' w' I' μ' a',K env' σ'->Rel w' I' μ' σ'->Cr Gl w' I'->C9 n w' I' μ' σ' env' a'->Ay m w I μ σ w' I' μ' σ'->Q .normal a' w')->wpList P all Q ops a w
 | [],env,σ,h,w,I,μ,a,hR,hG,hE,hm,hq=>hq env σ w I μ a h hR hG hE (Ay.refl _ _ _ _ hm)
 | o::rest,env,σ,h,w,I,μ,a,hR,hG,hE,hm,hq=>by
  obtain⟨hd,h⟩:=h;cases hgd:o.guard with
  | none=>
   rw[hgd] at h;obtain⟨hg,h⟩:=h;unfold wpList;rw[AD (Un hgd _)];left;cases hc:Ch o.op with
   | true=>
    simp only[hc,By,Cx,CF] at h;refine Oper.Bo (NI hR hG hE hg h) λv w' ⟨r,σ',I',μ',q1,q2,q3,q4⟩=>?_;exact Kd rest _ _ q4 q1 (hG.AH q2) ((hE.AH q2).AJ hd q3) (DC hm q2.len) λenv' σ2 w2 I2 μ2 a2 k1 k2 k3 k4 k5=>hq env' σ2 w2 I2 μ2 a2 k1 k2 k3 k4 ((q2.mono hm).trans k5)
   | false=>
    simp only[hc,Cx,CF] at h;refine Oper.Bf (M7 hR hG hE o hc hg h.1) λu w' I' μ' q1 q2 q3=>?_;exact Kd rest _ _ h.2 q1 (hG.AH q2) ((hE.AH q2).AJ hd q3) (DC hm q2.len) λenv' σ2 w2 I2 μ2 a2 k1 k2 k3 k4 k5=>hq env' σ2 w2 I2 μ2 a2 k1 k2 k3 k4 ((q2.mono hm).trans k5)
  | some jb=>
   obtain⟨j,b⟩:=jb;rw[hgd] at h;simp only at h;by_cases ha:Ea o.op=true
   ·rw[AD ha] at h;obtain⟨hs,ht,hg,h1,h2⟩:=h;have hw:=Oq hE (all:=all) hgd hs;have hc:Ch o.op=false:=by
     generalize o.op=op at *;cases op<;>first|rfl|(simp[Ea] at ha;done)
    unfold wpList;rw[hw,ht,AD rfl];left;refine Oper.Bf (M7 hR hG hE o hc hg h1) λu w' I' μ' q1 q2 q3=>?_;exact pF
   rw[A7 ha] at h;obtain⟨hqt,hs,hg,h⟩:=h;have hw:=Oq hE (all:=all) hgd hs;unfold wpList;cases ht:C3 (BV all env j) b with
   | false=>
    rw[hw,ht,A7 A6];rw[ht] at h;have:∃x,Ab P Gl n all false rest (AJ env o.dst (.iff false x)) σ K:=by
     cases hc:Ch o.op with
     | true=>simp only[hc,By] at h;obtain⟨r0,_,h⟩:=h;exact⟨r0,h⟩
     | false=>simp only[hc,Cx,CF] at h;exact⟨_,h.2⟩
    obtain⟨x,hx⟩:=this;exact Kd rest _ _ hx hR hG (hE.AJ hd (.iff false _ x (λh=>D8) (λ_=>rfl))) hm hq
   | true=>
    rw[hw,ht,AD rfl];left;rw[ht] at h hg;cases hc:Ch o.op with
    | true=>
     simp only[hc,By] at h;obtain⟨r0,h1,h2⟩:=h;refine Oper.Bo (NI hR hG hE hg (h1 trivial σ (Ext.refl σ))) λv w' ⟨r,σ',I',μ',q1,q2,q3,q4⟩=>?_;obtain⟨rfl,rfl⟩:=q4;exact pF
    | false=>
     simp only[hc,Cx,CF] at h;have hgo:=M7 hR hG hE o hc hg (h.1 trivial);rw[QN hqt] at hgo;refine Oper.Bf hgo λu w' I' μ' q1 q2 q3=>?_;exact Kd rest _ _ h.2 q1 (hG.AH q2) ((hE.AH q2).AJ hd (.iff true _ _ (λ_=>q3) (λh=>D8))) (DC hm q2.len) λenv' σ2 w2 I2 μ2 a2 k1 k2 k3 k4 k5=>hq env' σ2 w2 I2 μ2 a2 k1 k2 k3 k4 ((q2.mono hm).trans k5)
end Go.AM


namespace Go.AM
def j7(l:List Operand):List Tmp:=l.filterMap fun|.tmp t=>some t|_=>none
def LH(all:Array Oper)(o:Oper):List Tmp:=
 j7 o.op.operands.toList++(match o.guard with|some (j,_)=>((all[j]?).bind (·.dst)).toList|none=>[])
variable {P:Program} {Gl:BM} {env env':Env} {σ σ' s:Sto} {n:Nat} {all:Array Oper}
def OR(l:List Tmp)(env env':Env):Prop:=∀t∈l,Bl env t=Bl env' t
def L_(env env':Env)(l:List Operand):Prop:=∀x∈l,∀t,x=.tmp t->Bl env t=Bl env' t
def OZ{x:Operand}(h:∀t,x=.tmp t->Bl env t=Bl env' t):evU Gl env x=evU Gl env' x:=by
 cases x with
 | tmp t=>simp only[evU,evO,h t rfl]
 | _=>rfl
def UG{x:Operand}(h:∀t,x=.tmp t->Bl env t=Bl env' t):evG Gl env x=evG Gl env' x:=by
 cases x with
 | tmp t=>simp only[evG,evO,h t rfl]
 | _=>rfl
def fX{g:Bool}:∀{l:List Operand},L_ env env' l->gdL Gl env g l=gdL Gl env' g l
 | [],_=>rfl
 | x::l,h=>by
  simp only[gdL];rw[UG (h x A6),fX (l:=l) λy hy=>h y (by simp[hy])]
def Wp{l:List Operand}(h:L_ env env' l):l.map (evU Gl env)=l.map (evU Gl env'):=
 MX λx hx=>OZ (h x hx)
def qd{l:Array (Nat×Operand)}(h:L_ env env' (l.toList.map (·.2))):GY Gl env l=GY Gl env' l:=
 MX λp hp=>by rw[OZ (h p.2 (C4.2 ⟨p,hp,rfl⟩))]
def dR{o:Option Operand}(h:L_ env env' o.toList)(k:Nat):QG Gl env o=QG Gl env' o/\Nt Gl env o=Nt Gl env' o/\Nu Gl env k o=Nu Gl env' k o:=by
 cases o with
 | none=>exact⟨rfl,rfl,rfl⟩
 | some x=>simp only[QG,Nt,Nu,OZ (Gl:=Gl) (h x A6)];exact⟨trivial,trivial,trivial⟩
def XW{g:Bool}{op:Op}(h:L_ env env' op.operands.toList):Ez Gl env g op=Ez Gl env' g op:=by
 cases op<;>first
  | exact fX h
  | skip
 rename_i c a b;simp only[Op.operands] at h;simp only[Ez,UG (Gl:=Gl) (h c A6),OZ (Gl:=Gl) (h c A6),UG (Gl:=Gl) (h a A6),UG (Gl:=Gl) (h b A6)]
def Q05{b:Builtin}{args:List Operand}{ts:List TypeId}(h:L_ env env' args):
  Gj P Gl σ env b args ts=Gj P Gl σ env' b args ts/\biV Gl σ env b args=biV Gl σ env' b args/\biS P Gl σ env b args ts=biS P Gl σ env' b args ts:=by
 have hm:=Wp (Gl:=Gl) h;have hu:∀x∈args,evU Gl env x=evU Gl env' x:=λx hx=>OZ (h x hx);refine⟨?_,?_,?_⟩
 ·unfold Gj;split<;>first|rfl|rw[hm]|simp[hu]
 ·unfold biV;split<;>first|rfl|rw[hm]|simp[hu]
 unfold biS;split<;>first|rfl|rw[hm]|simp[hu]
def u_{op:Op}(h:L_ env env' op.operands.toList):BE P Gl σ env op=BE P Gl σ env' op/\opV P Gl σ env op=opV P Gl σ env' op/\opS P Gl σ env op=opS P Gl σ env' op:=by
 have hu:∀x∈op.operands.toList,evU Gl env x=evU Gl env' x:=λx hx=>OZ (h x hx);cases op with
 | build t ps=>
  exact oD
 | buildSlice t k ps=>
  exact oD
 | makeFunc fn first caps=>
  have:caps.toList.map (evU Gl env)=caps.toList.map (evU Gl env'):=Wp λx hx=>h x (by simp[Op.operands];exact .inr (by simpa using hx));simp only[BE,opV,opS,this];exact⟨trivial,trivial,trivial⟩
 | slice t x lo hi mx=>
  have e0:evU Gl env x=evU Gl env' x:=hu x Dx;have e1:=λk=>dR (Gl:=Gl) (o:=lo) (λy hy=>h y (by simp[Op.operands];exact .inr (.inl WB))) k;have e2:=λk=>dR (Gl:=Gl) (o:=hi) (λy hy=>h y (by simp[Op.operands];exact .inr (.inr (.inl WB)))) k;simp only[BE,opV,opS,e0,(e1 0).1,(e1 0).2.1,(e2 0).1,(e2 _).2.2];refine⟨?_,trivial,trivial⟩;cases mx with
  | none=>rfl
  | some m=>
   cases lo with
   | some _=>rfl
   | none=>
    cases hi with
    | none=>rfl
    | some hh=>
     simp only;rw[hu hh Dx,hu m Dx]
 | call c=>
  obtain⟨callee,args,ats⟩:=c;cases callee with
  | builtin b=>
   have:=Q05 (P:=P) (Gl:=Gl) (σ:=σ) (b:=b) (args:=args.toList) (ts:=ats.toList) (λx hx=>h x (by simpa[Op.operands,Call.operands] using hx));simp only[BE,opV,opS];exact this
  | _=>exact⟨rfl,rfl,rfl⟩
 | _=>
  simp only[Op.operands,Bw,En,E6,forall_eq_or_imp,forall_eq] at hu
  first
   | (simp only[BE,opV,opS];exact⟨trivial,trivial,trivial⟩)
   | (simp only[BE,opV,opS,hu];exact⟨trivial,trivial,trivial⟩)
   | exact⟨rfl,rfl,rfl⟩
def dc{op:Op}{R:AV->Sto->Prop}(h:L_ env env' op.operands.toList):HO P Gl env σ op R=HO P Gl env' σ op R:=by
 cases op with
 | call c=>
  obtain⟨callee,args,ats⟩:=c;cases callee with
  | value x=>
   have e:evU Gl env x=evU Gl env' x:=OZ (h x (by simp[Op.operands,Call.operands]));have e2:args.toList.map (evU Gl env)=args.toList.map (evU Gl env'):=Wp λy hy=>h y lU;simp only[HO,e,e2]
  | _=>rfl
 | _=>rfl
def vA{l:List Operand}(h:OR (j7 l) env env'):L_ env env' l:=by
 intro x hx t e;subst e;exact h t (aH.2 ⟨_,hx,rfl⟩)
def Ext.box(h:Ext σ s){id:Nat}(hb:(A1 σ id).EN=true):A1 s id=A1 σ id:=by
 rcases h.2 id with h1|h1|h1
 ·cases hB:A1 σ id<;>simp_all [Blk.AP,Blk.EN]
 ·exact h1
 cases hB:A1 σ id<;>simp_all [Blk.EN,Blk.frozen]
def Ext.arr(h:Ext σ s){id:Nat}(hb:(A1 σ id).B7=true):(A1 s id).B7=true/\(A1 s id).es=(A1 σ id).es/\(A1 s id).xs=(A1 σ id).xs:=by
 rcases h.2 id with h1|h1|h1
 ·cases hB:A1 σ id<;>simp_all [Blk.AP,Blk.B7]
 ·rw[h1];exact⟨hb,rfl,rfl⟩
 rw[h1];cases hB:A1 σ id<;>simp_all [Blk.B7,Blk.frozen,Blk.es,Blk.xs]
def Ext.map(h:Ext σ s){id:Nat}(hb:(A1 σ id).CC=true):A1 s id=A1 σ id:=by
 rcases h.2 id with h1|h1|h1
 ·cases hB:A1 σ id<;>simp_all [Blk.AP,Blk.CC]
 ·exact h1
 cases hB:A1 σ id<;>simp_all [Blk.CC,Blk.frozen]
def Ext.trans{s':Sto}(h:Ext σ s)(k:Ext s s'):Ext σ s':=by
 refine⟨DC h.1 k.1,λid=>?_⟩;rcases h.2 id with h1|h1|h1
 ·exact .inl h1
 ·rcases k.2 id with k1|k1|k1
  ·rw[h1] at k1;exact .inl k1
  ·exact .inr (.inl (k1.trans h1))
  rw[h1] at k1;exact .inr (.inr k1)
 rcases k.2 id with k1|k1|k1
 ·rw[h1] at k1;left;cases hB:A1 σ id<;>simp_all [Blk.AP,Blk.frozen]
 ·exact .inr (.inr (k1.trans h1))
 rw[h1] at k1;refine .inr (.inr (k1.trans ?_));cases hB:A1 σ id<;>rfl
def Ext.var(h:Ext σ s){id:Nat}(hb:(A1 σ id).isVar=true):A1 s id=A1 σ id:=by
 rcases h.2 id with h1|h1|h1
 ·cases hB:A1 σ id<;>simp_all [Blk.AP,Blk.isVar]
 ·exact h1
 rw[h1];cases hB:A1 σ id<;>simp_all [Blk.isVar,Blk.frozen]
def Ext.dat(h:Ext σ s){id:Nat}(hb:(A1 σ id).AY=true):(A1 s id).AY=true/\¬(A1 s id).isVar=true:=by
 rcases h.2 id with h1|h1|h1
 ·cases hB:A1 σ id<;>simp_all [Blk.AP,Blk.AY]
 ·rw[h1];cases hB:A1 σ id<;>simp_all [Blk.isVar,Blk.AY]
 rw[h1];cases hB:A1 σ id<;>simp_all [Blk.isVar,Blk.AY,Blk.frozen]
def Ext.append(B:Blk):Ext σ (σ++[B]):=by
 refine⟨A6,λid=>?_⟩;rcases B9 id σ.length with h|h
 ·exact .inr (.inl (BB h))
 exact mq
def Ext.freeze(id:Nat):Ext σ (freeze σ id):=by
 refine⟨by simp[AM.freeze],λj=>?_⟩;unfold AM.freeze;by_cases e:id=j
 ·subst e;rcases B9 id σ.length with h|h
  ·exact .inr (.inr (BX h))
  exact mq
 exact .inr (.inl (As e))
def Ext.freezeL:∀(l:List Nat) {σ:Sto},Ext σ (freezeL σ l)
 | [],σ=>Ext.refl σ
 | i::l,σ=>(Ext.freeze i).trans (Ext.freezeL l)
def x7(h:Ext σ s){g:Bool}{k:Nat}{v:AV}(ho:JM σ g k v):JM s g k v/\ldV s g k v=ldV σ g k v:=by
 cases v with
 | ptr id off=>simp only[JM,ldV] at ho ⊢;rw[h.box ho.1];exact⟨ho,rfl⟩
 | B8 es xs i off=>exact⟨ho,rfl⟩
 | Al id i off=>
  simp only[JM,ldV] at ho ⊢;by_cases hv:(A1 σ id).isVar=true
  ·rw[h.var hv];exact⟨ho,rfl⟩
  rw[A7 hv] at ho;obtain⟨e1,e2,e3⟩:=h.arr (Blk.arr_of_dat ho.1);obtain⟨e4,e5⟩:=h.dat ho.1;rw[A7 hv,A7 e5,A7 e5,e2,e3];exact⟨⟨e4,ho.2⟩,rfl⟩
 | d x=>cases x<;>first|exact ho.elim|exact⟨ho,rfl⟩
 | _=>exact ho.elim
def yM(h:Ext σ s){es:Nat}{i:Int}{v:AV}(ho:Na σ es i v):Na s es i v:=by
 cases v with
 | A8 id off len=>
  simp only[Na] at ho ⊢;obtain⟨e1,e2,e3⟩:=h.arr ho.2.2.1;rw[e2,e1];exact⟨ho.1,ho.2.1,rfl,ho.2.2.2⟩
 | d x=>cases x<;>exact ho
 | _=>exact ho.elim
def xO(h:Ext σ s){t:TypeId}{lo hi:Int}{v:AV}(ho:LP P t σ lo hi v):LP P t s lo hi v:=by
 cases v with
 | A8 id off len=>
  simp only[LP] at ho ⊢;obtain⟨e1,e2,e3⟩:=h.arr ho.2.2.2.2.1;rw[e2,e1];exact⟨ho.1,ho.2.1,ho.2.2.1,ho.2.2.2.1,rfl,ho.2.2.2.2.2⟩
 | d x=>cases x<;>exact ho
 | _=>exact ho
def jh(σ s:Sto)(args:List Operand)(ts:List TypeId):Gj P Gl s env .len args ts=Gj P Gl σ env .len args ts/\biV Gl s env .len args=biV Gl σ env .len args:=by
 match args,ts with
 | [],_=>exact⟨rfl,rfl⟩
 | [_],[]=>exact⟨rfl,rfl⟩
 | [_],[_]=>exact⟨rfl,rfl⟩
 | [_],_::_::_=>exact⟨rfl,rfl⟩
 | _::_::_,_=>exact⟨rfl,rfl⟩
def jH(h:Ext σ s){op:Op}(hq:F5 op=true)(ho:BE P Gl σ env op):BE P Gl s env op/\opV P Gl s env op=opV P Gl σ env op:=by
 cases op with
 | load t x=>
  simp only[BE,opV] at ho ⊢;cases h1:BR P t<;>cases h2:tsz P t<;>simp only[h1,h2] at ho ⊢;exact x7 h ho
 | indexAddr t x i=>
  simp only[BE,opV] at ho ⊢;refine⟨⟨ho.1,?_⟩,trivial⟩;have h2:=ho.2;split<;>rename_i e<;>simp only[e] at h2
  ·exact yM h h2
  exact h2
 | slice t x lo hi mx=>
  simp only[BE,opV] at ho ⊢;cases mx with
  | some _=>exact⟨ho,trivial⟩
  | none=>exact⟨⟨ho.1,ho.2.1,xO h ho.2.2⟩,trivial⟩
 | lookup t m k ok=>
  simp only[BE,opV] at ho ⊢;cases h1:Co P t with
  | none=>simp only[h1] at ho
  | some q=>
   obtain⟨ik,e⟩:=q;simp only[h1] at ho ⊢;obtain⟨h2,h3,h4⟩:=ho;generalize evU Gl env m=u at *;cases u with
   | AF id=>
    have he:=h.map h3.1;simp only[P6,lkV,lkF,he] at h3 ⊢;exact⟨⟨h2,h3,h4⟩,trivial⟩
   | d x=>
    have e:P6 s ik (.d x)=P6 σ ik (.d x):=by cases x<;>first|rfl|(rename_i v;cases v<;>first|rfl|(rename_i p;cases p<;>rfl))
    rw[e];exact⟨⟨h2,h3,h4⟩,rfl⟩
   | _=>exact h3.elim
 | call c=>
  obtain⟨callee,args,ats⟩:=c;cases callee with
  | builtin b=>
   simp only[BE,opV] at ho ⊢;cases b<;>first|exact⟨ho,rfl⟩|(simp[F5] at hq;done)|skip;obtain⟨q1,q2⟩:=jh (P:=P) (Gl:=Gl) (env:=env) σ s args.toList ats.toList;exact⟨by rw[q1];exact ho,q2⟩
  | _=>exact ho.elim
 | _=>first|exact⟨ho,rfl⟩|(simp[F5] at hq;done)
def HJ:Op->Bool
 | .load ..|.indexAddr ..|.slice ..|.lookup ..=>false
 | .call {callee:=.builtin .append,..}=>false
 | .call {callee:=.builtin .delete,..}=>false
 | .call {callee:=.builtin .clear,..}=>false
 | .call {callee:=.builtin .copy,..}=>false
 | .call {callee:=.builtin _,..}=>true
 | .call _=>false
 | op=>F5 op
def Xw{op:Op}(h:HJ op=true):F5 op=true/\Ch op=false:=by
 cases op with
 | call c=>
  obtain⟨callee,args,ats⟩:=c;cases callee with
  | builtin b=>cases b<;>simp_all [HJ,F5,Ch]
  | _=>simp[HJ] at h
 | _=>simp_all [HJ,F5,Ch]
def wi{op:Op}(h:HJ op=true)(σ s:Sto):BE P Gl s env op=BE P Gl σ env op/\opV P Gl s env op=opV P Gl σ env op:=by
 cases op with
 | call c=>
  obtain⟨callee,args,ats⟩:=c;cases callee with
  | builtin b=>cases b<;>first|exact⟨rfl,rfl⟩|(simp[HJ] at h;done)|exact jh σ s _ _
  | _=>simp[HJ] at h
 | _=>first|exact⟨rfl,rfl⟩|(simp[HJ,F5] at h;done)
def jG{op:Op}(h:Ea op=true)(ho:BE P Gl σ env op):Ext σ (opS P Gl σ env op):=by
 cases op with
 | alloc t=>
  simp only[BE,opS] at ho ⊢;exact bS
 | box t x=>exact Ext.append _
 | buildSlice t k ps=>
  cases k with
  | zero=>exact Ext.append _
  | succ k=>
   show Ext σ (PO P σ t (k+1) (GY Gl env ps));unfold PO;split
   ·unfold bpS;exact bS
   exact(Ext.freezeL _).trans (Ext.append _)
 | makeSlice t l c=>exact Ext.append _
 | makeMap t r=>
  simp only[opS];exact bS
 | _=>simp[Ea] at h
def Fi(P:Program)(Gl:BM)(n:Nat)(all:Array Oper)(o:Oper)(env:Env)(σ:Sto)(v:AV)(σ':Sto):Prop:=
 C8 n o.dst=true /\
 match o.guard with
 | none=>Ez Gl env true o.op /\
  (if Ch o.op=true then(∀s,Ext σ s->HO P Gl env s o.op (λr s'=>r=v/\s'=s))/\σ'=σ
   else BE P Gl σ env o.op/\v=opV P Gl σ env o.op/\σ'=opS P Gl σ env o.op)
 | some (j,b)=>if Ea o.op=true then FH (BV all env j)=true/\C3 (BV all env j) b=true/\Ez Gl env true o.op/\BE P Gl σ env o.op/\v=.iff true (opV P Gl σ env o.op)/\σ'=opS P Gl σ env o.op
  else F5 o.op=true/\FH (BV all env j)=true/\Ez Gl env (C3 (BV all env j) b) o.op/\σ'=σ /\
  (if Ch o.op=true then ∃r0,v=.iff (C3 (BV all env j) b) r0/\(C3 (BV all env j) b=true->∀s,Ext σ s->HO P Gl env s o.op (λr s'=>r=r0/\s'=s))
   else ∃r0,v=.iff (C3 (BV all env j) b) r0/\(C3 (BV all env j) b=true->BE P Gl σ env o.op/\r0=opV P Gl σ env o.op))
def IA(P:Program)(Gl:BM)(n:Nat)(all:Array Oper):List Oper->Env->Sto->(Env->Sto->Prop)->Prop
 | [],env,σ,K=>K env σ
 | o::rest,env,σ,K=>∃v σ',Fi P Gl n all o env σ v σ'/\IA P Gl n all rest (AJ env o.dst v) σ' K
def QE(hl:Lw all=false){K:Env->Sto->Prop}:∀(l:List Oper) (env:Env) (σ:Sto),Ab P Gl n all true l env σ K->IA P Gl n all l env σ K
 | [],_,_,h=>h
 | o::rest,env,σ,h=>by
  simp only[Ab] at h;simp only[IA,Fi];cases hg:o.guard with
  | none=>
   rw[hg] at h;simp only at h ⊢;cases hc:Ch o.op with
   | true=>
    simp only[hc,By] at h ⊢;obtain⟨h1,h2,h⟩:=h;rcases h with⟨r0,h3,h4⟩|⟨_,h3,_⟩|h3
    ·exact⟨r0,σ,⟨h1,h2,h3,rfl⟩,QE hl rest _ _ h4⟩
    ·rw[hl] at h3;cases h3
    have h3:=wM h3;rw[hl] at h3;cases h3
   | false=>
    simp only[hc,Cx,CF] at h ⊢;obtain⟨h1,h2,h3,h4⟩:=h;exact⟨_,_,⟨h1,h2,h3,rfl,rfl⟩,QE hl rest _ _ h4⟩
  | some jb=>
   obtain⟨j,b⟩:=jb;rw[hg] at h;simp only at h ⊢;by_cases ha:Ea o.op=true
   ·rw[AD ha] at h;obtain⟨h1,h2,h3,h4,h5,h6⟩:=h;exact⟨_,_,⟨h1,lS⟩,QE hl rest _ _ h6⟩
   simp only[A7 ha] at h ⊢;cases hc:Ch o.op with
   | true=>
    simp only[hc,By] at h ⊢;obtain⟨h1,h2,h3,h4,r0,h5,h6⟩:=h;exact⟨_,σ,⟨h1,h2,h3,h4,rfl,r0,rfl,h5⟩,QE hl rest _ _ h6⟩
   | false=>
    simp only[hc,Cx,CF] at h ⊢;obtain⟨h1,h2,h3,h4,h5,h6⟩:=h;exact⟨_,_,⟨h1,h2,h3,h4,rfl,_,rfl,λht=>⟨h5 ht,rfl⟩⟩,QE hl rest _ _ h6⟩
def OO(P:Program)(Gl:BM)(n:Nat)(all:Array Oper)(o:Oper)(env:Env)(σ:Sto)(K:Env->Sto->Prop):Prop:=
 (∃v σ',Fi P Gl n all o env σ v σ'/\K (AJ env o.dst v) σ')\/(C8 n o.dst=true/\o.guard=none/\Ez Gl env true o.op/\Ch o.op=true/\HO P Gl env σ o.op (λr σ'=>K (AJ env o.dst r) σ'))
def y5(hh:Lc all=false){K:Env->Sto->Prop}{o:Oper}{env:Env}{σ:Sto}(h:Ab P Gl n all true [o] env σ K):OO P Gl n all o env σ K:=by
 simp only[Ab] at h;unfold OO;cases hg:o.guard with
 | none=>
  rw[hg] at h;simp only at h;cases hc:Ch o.op with
  | true=>
   simp only[hc,By] at h;obtain⟨h1,h2,h⟩:=h;rcases h with⟨r0,h3,h4⟩|⟨_,_,h3⟩|h3
   ·exact .inl ⟨r0,σ,by simp only[Fi,hg,hc,By];exact⟨h1,h2,h3,trivial⟩,h4⟩
   ·exact .inr ⟨h1,rfl,h2,rfl,h3⟩
   rw[hh] at h3;cases h3
  | false=>
   exact pE
 | some jb=>
  exact pM
def df{K:Env->Sto->Prop}{o:Oper}{env:Env}{σ:Sto}(h:Ab P Gl n all false [o] env σ K):OO P Gl n all o env σ K:=by
 simp only[Ab] at h;unfold OO;cases hg:o.guard with
 | none=>
  rw[hg] at h;simp only at h;cases hc:Ch o.op with
  | true=>
   simp only[hc,By,Cx,CF] at h;obtain⟨h1,h2,h3⟩:=h;exact .inr ⟨h1,rfl,h2,rfl,h3⟩
  | false=>
   exact pE
 | some jb=>
  exact pM
def QU(hh:Lc all=false){K:Env->Sto->Prop}{y:Oper}:∀(l:List Oper) (env:Env) (σ:Sto),Ab P Gl n all true (l++[y]) env σ K->IA P Gl n all l env σ (λe s=>OO P Gl n all y e s K)
 | [],_,_,h=>y5 hh h
 | o::rest,env,σ,h=>by
  simp only[O7,Ab] at h;simp only[IA,Fi];cases hg:o.guard with
  | none=>
   rw[hg] at h;simp only at h ⊢;cases hc:Ch o.op with
   | true=>
    simp only[hc,By] at h ⊢;obtain⟨h1,h2,h⟩:=h;rcases h with⟨r0,h3,h4⟩|⟨h3,_⟩|h3
    ·exact⟨r0,σ,⟨h1,h2,h3,rfl⟩,QU hh rest _ _ h4⟩
    ·simp at h3
    rw[hh] at h3;cases h3
   | false=>
    simp only[hc,Cx,CF] at h ⊢;obtain⟨h1,h2,h3,h4⟩:=h;exact⟨_,_,⟨h1,h2,h3,rfl,rfl⟩,QU hh rest _ _ h4⟩
  | some jb=>
   obtain⟨j,b⟩:=jb;rw[hg] at h;simp only at h ⊢;by_cases ha:Ea o.op=true
   ·rw[AD ha] at h;obtain⟨h1,h2,h3,h4,h5,h6⟩:=h;exact⟨_,_,⟨h1,lS⟩,QU hh rest _ _ h6⟩
   simp only[A7 ha] at h ⊢;cases hc:Ch o.op with
   | true=>
    simp only[hc,By] at h ⊢;obtain⟨h1,h2,h3,h4,r0,h5,h6⟩:=h;exact⟨_,σ,⟨h1,h2,h3,h4,rfl,r0,rfl,h5⟩,QU hh rest _ _ h6⟩
   | false=>
    simp only[hc,Cx,CF] at h ⊢;obtain⟨h1,h2,h3,h4,h5,h6⟩:=h;exact⟨_,_,⟨h1,h2,h3,h4,rfl,_,rfl,λht=>⟨h5 ht,rfl⟩⟩,QU hh rest _ _ h6⟩
def dW{o:Oper}{j:Nat}{b:Bool}(hg:o.guard=some (j,b))(h:OR (LH all o) env env'):BV all env j=BV all env' j:=by
 unfold BV;cases hd:(all[j]?).bind (·.dst) with
 | none=>rfl
 | some d=>exact h d (by simp[LH,hg,hd])
def Xc{o:Oper}{v:AV}(h:OR (LH all o) env env')(hs:Fi P Gl n all o env σ v σ'):Fi P Gl n all o env' σ v σ':=by
 have hsee:L_ env env' o.op.operands.toList:=vA λt ht=>h t (by simp[LH,ht]);obtain⟨e1,e2,e3⟩:=u_ (P:=P) (Gl:=Gl) (σ:=σ) hsee;obtain⟨hd,hs⟩:=hs;refine⟨hd,?_⟩;cases hg:o.guard with
 | none=>
  rw[hg] at hs;simp only at hs ⊢;rw[XW hsee] at hs;refine⟨hs.1,?_⟩;have h2:=hs.2;cases hc:Ch o.op with
  | true=>
   simp only[hc,By] at h2 ⊢;exact⟨λs hx=>by rw[<-dc hsee];exact h2.1 s hx,h2.2⟩
  | false=>
   simp only[hc,Cx,CF] at h2 ⊢;rw[<-e1,<-e2,<-e3];exact h2
 | some jb=>
  obtain⟨j,b⟩:=jb;rw[hg] at hs;simp only at hs ⊢;by_cases ha:Ea o.op=true
  ·rw[AD ha] at hs ⊢;rw[<-dW hg h,<-XW hsee,<-e1,<-e2,<-e3];exact hs
  rw[A7 ha] at hs ⊢;rw[<-dW hg h,<-XW hsee];obtain⟨h1,h2,h3,h4,h5⟩:=hs;refine⟨h1,h2,h3,h4,?_⟩;cases hc:Ch o.op with
  | true=>
   simp only[hc,By] at h5 ⊢;obtain⟨r0,q1,q2⟩:=h5;exact⟨r0,q1,λht s hx=>by rw[<-dc hsee];exact q2 ht s hx⟩
  | false=>
   simp only[hc,Cx,CF] at h5 ⊢;rw[<-e1,<-e2];exact h5
def QK{d:Option Tmp}{v:AV}{t:Tmp}(h:d≠some t):Bl (AJ env d v) t=Bl env t:=by
 cases d with
 | none=>rfl
 | some d=>simp only[AJ,Bl];rw[A7 λe=>h Li]
def still(o:Oper):Bool:=(o.guard.isSome&&!Ea o.op)||F5 o.op
def UY{op:Op}(h:F5 op=true):Ea op=false:=by
 cases op<;>first|rfl|(simp[F5] at h;done)
def eG{o:Oper}(h:still o=true):Ea o.op=false:=by
 unfold still at h;cases ha:Ea o.op with
 | false=>rfl
 | true=>
  rw[ha] at h;simp at h;rw[UY h] at ha;cases ha
def Ui{o:Oper}{v:AV}(h:still o=true)(hs:Fi P Gl n all o env σ v σ'):σ'=σ:=by
 obtain⟨_,hs⟩:=hs;cases hg:o.guard with
 | none=>
  rw[hg] at hs;simp only[still,hg,TI,JV,Kq] at h;have h2:=hs.2;cases hc:Ch o.op with
  | true=>simp only[hc,By] at h2;exact h2.2
  | false=>simp only[hc,Cx,CF] at h2;rw[h2.2.2];exact QN h
 | some jb=>
  rw[hg] at hs;simp only at hs;rw[A7 (by rw[eG h];simp)] at hs;exact hs.2.2.2.1
def xo{o:Oper}{v:AV}{s:Sto}(h:still o=true)(hx:Ext σ s)(hs:Fi P Gl n all o env σ v σ'):Fi P Gl n all o env s v s:=by
 obtain⟨hd,hs⟩:=hs;refine⟨hd,?_⟩;cases hg:o.guard with
 | none=>
  rw[hg] at hs;simp only[still,hg,TI,JV,Kq] at h;refine⟨hs.1,?_⟩;have h2:=hs.2;cases hc:Ch o.op with
  | true=>
   simp only[hc,By] at h2 ⊢;exact⟨λs' hx'=>h2.1 s' (hx.trans hx'),trivial⟩
  | false=>
   simp only[hc,Cx,CF] at h2 ⊢;obtain⟨q1,q2⟩:=jH hx h h2.1;exact⟨q1,by rw[q2];exact h2.2.1,(QN h).symm⟩
 | some jb=>
  obtain⟨j,b⟩:=jb;rw[hg] at hs;simp only at hs ⊢;have hna:¬Ea o.op=true:=by rw[eG h];simp
  rw[A7 hna] at hs ⊢;obtain⟨h1,h2,h3,h4,h5⟩:=hs;refine⟨h1,h2,h3,trivial,?_⟩;cases hc:Ch o.op with
  | true=>
   simp only[hc,By] at h5 ⊢;obtain⟨r0,q1,q2⟩:=h5;exact⟨r0,q1,λht s' hx'=>q2 ht s' (hx.trans hx')⟩
  | false=>
   simp only[hc,Cx,CF] at h5 ⊢;obtain⟨r0,q1,q2⟩:=h5;exact⟨r0,q1,λht=>by
    obtain⟨p1,p2⟩:=q2 ht
    obtain⟨q3,q4⟩:=jH hx h1 p1
    exact⟨q3,by rw[q4];exact p2⟩⟩
def dO{o:Oper}{v:AV}(h:HJ o.op=true)(hs:Fi P Gl n all o env σ v σ'):σ'=σ/\∀s,Fi P Gl n all o env s v s:=by
 obtain⟨hq,hnc⟩:=Xw h;have hst:still o=true:=by simp[still,hq]
 refine⟨Ui hst hs,λs=>?_⟩;obtain⟨e1,e2⟩:=wi (P:=P) (Gl:=Gl) (env:=env) h σ s;obtain⟨hd,hs⟩:=hs;refine⟨hd,?_⟩;cases hg:o.guard with
 | none=>
  rw[hg] at hs;simp only[hnc,Cx,CF] at hs ⊢;rw[e1,e2,QN hq];exact⟨hs.1,hs.2.1,hs.2.2.1,rfl⟩
 | some jb=>
  obtain⟨j,b⟩:=jb;rw[hg] at hs;simp only[UY hq,hnc,Cx,CF] at hs ⊢;obtain⟨h1,h2,h3,h4,r0,q1,q2⟩:=hs;exact⟨h1,h2,h3,trivial,r0,q1,λht=>by rw[e1,e2];exact q2 ht⟩
def GJ(o:Oper):Bool:=Ea o.op
def xm{o:Oper}{v:AV}(h:GJ o=true)(hs:Fi P Gl n all o env σ v σ'):Ext σ σ':=by
 have h:Ea o.op=true:=h;obtain⟨hd,hs⟩:=hs;cases hg:o.guard with
 | none=>
  rw[hg] at hs;have hc:Ch o.op=false:=by
   generalize o.op=op at *;cases op<;>first|rfl|(simp[Ea] at h;done)
  simp only[hc,Cx,CF] at hs;rw[hs.2.2.2];exact jG h hs.2.1
 | some jb=>
  rw[hg] at hs;simp only at hs;rw[AD h] at hs;rw[hs.2.2.2.2.2];exact jG h hs.2.2.2.1
def Lu(all:Array Oper)(x y:Oper):Bool:=
 (match x.dst,y.dst with|some a,some b=>a !=b|_,_=>true) &&
 (match x.dst with|some a=>!(LH all y).contains a|none=>true) &&
 (match y.dst with|some b=>!(LH all x).contains b|none=>true) &&
 ((still x&&still y)||HJ x.op||HJ y.op||(still x&&GJ y))
def cy{x y:Oper}(h:Lu all x y=true):(∀a,x.dst=some a->y.dst≠some a)/\(∀a,x.dst=some a->a∉LH all y)/\(∀b,y.dst=some b->b∉LH all x) /\
  ((still x=true/\still y=true)\/HJ x.op=true\/HJ y.op=true\/(still x=true/\GJ y=true)):=by
 simp only[Lu,C5,Gc] at h;obtain⟨⟨⟨h1,h2⟩,h3⟩,h4⟩:=h;refine⟨λa ha hb=>?_,λa ha=>?_,λb hb=>?_,?_⟩
 ·rw[ha,hb] at h1;simp at h1
 ·rw[ha] at h2;simpa using h2
 ·rw[hb] at h3;simpa using h3
 rcases h4 with((h4|h4)|h4)|h4
 ·exact .inl h4
 ·exact .inr (.inl h4)
 ·exact .inr (.inr (.inl h4))
 exact .inr (.inr (.inr h4))
def dL{o:Oper}{d:Option Tmp}{v:AV}(h:∀a,d=some a->a∉LH all o):OR (LH all o) (AJ env d v) env:=by
 intro t ht;exact QK λe=>h t e ht
def OR.symm{l:List Tmp}(h:OR l env env'):OR l env' env:=λt ht=>(h t ht).symm
def Qg9{x y:Oper}(h:Lu all x y=true){v1 v2:AV}{σ1 σ2:Sto}(h1:Fi P Gl n all x env σ v1 σ1)(h2:Fi P Gl n all y (AJ env x.dst v1) σ1 v2 σ2):
  ∃σy,Fi P Gl n all y env σ v2 σy/\Fi P Gl n all x (AJ env y.dst v2) σy v1 σ2:=by
 obtain⟨_,q2,q3,q4⟩:=cy h;have h2':=Xc (dL (env:=env) (v:=v1) q2) h2;have BK:∀{s s':Sto},Fi P Gl n all x env s v1 s'->Fi P Gl n all x (AJ env y.dst v2) s v1 s':=λhh=>Xc (dL (env:=env) (v:=v2) q3).symm hh;rcases q4 with⟨hx,hy⟩|hx|hy|⟨hx,hy⟩
 ·have e1:=Ui hx h1;have e2:=Ui hy h2;subst e1;subst e2;exact⟨_,h2',BK h1⟩
 ·obtain⟨e1,g1⟩:=dO hx h1;subst e1;exact⟨_,h2',BK (g1 _)⟩
 ·obtain⟨e2,g2⟩:=dO hy h2';subst e2;exact⟨_,g2 _,BK h1⟩
 have e1:=Ui hx h1;subst e1;exact⟨_,h2',BK (xo hx (xm hy h2') h1)⟩
def Lt(env env':Env):Prop:=∀t,Bl env t=Bl env' t
def Lt.put(h:Lt env env')(d:Option Tmp)(v:AV):Lt (AJ env d v) (AJ env' d v):=by
 intro t;cases d with
 | none=>exact h t
 | some d=>
  simp only[AJ,Bl];split
  ·rfl
  exact h t
def Lt.swap{d e:Option Tmp}(hne:∀a,d=some a->e≠some a)(v u:AV):Lt (AJ (AJ env d v) e u) (AJ (AJ env e u) d v):=by
 intro t;by_cases h1:e=some t
 ·have h2:d≠some t:=λh=>hne t h h1;rw[QK h2,h1];simp[AJ,Bl]
 rw[QK h1];by_cases h2:d=some t
 ·rw[h2];simp[AJ,Bl]
 rw[QK h2,QK h2,QK h1]
def KX(K:Env->Sto->Prop)(env:Env)(σ:Sto):Prop:=∃env0,Lt env0 env/\K env0 σ
def KX.ext{K:Env->Sto->Prop}(h:Lt env env')(hk:KX K env σ):KX K env' σ:=by
 obtain⟨e0,h0,hk⟩:=hk;exact⟨e0,λt=>(h0 t).trans (h t),hk⟩
def cZ{K:Env->Sto->Prop}:∀(l:List Oper) {env env':Env} {σ:Sto},Lt env env'->IA P Gl n all l env σ (KX K)->IA P Gl n all l env' σ (KX K)
 | [],_,_,_,h,hk=>KX.ext h hk
 | o::rest,_,_,_,h,hk=>by
  obtain⟨v,σ',h1,h2⟩:=hk;exact⟨v,σ',Xc (λt _=>h t) h1,cZ rest (h.put _ _) h2⟩
def Y0{K:Env->Sto->Prop}{y:Oper}{post:List Oper}:∀(pre:List Oper) {env:Env} {σ:Sto},(∀x∈pre,Lu all x y=true)->IA P Gl n all (pre++y::post) env σ (KX K)->IA P Gl n all (y::(pre++post)) env σ (KX K)
 | [],_,_,_,h=>h
 | x::pre,env,σ,hi,h=>by
  obtain⟨v1,σ1,h1,h2⟩:=h;obtain⟨v2,σ2,h3,h4⟩:=Y0 pre (λz hz=>hi z (by simp[hz])) h2;have hxy:=hi x A6;obtain⟨σy,h5,h6⟩:=Qg9 hxy h1 h3;exact⟨v2,σy,h5,v1,σ2,h6,cZ _ (Lt.swap (cy hxy).1 _ _) h4⟩
end Go.AM


namespace Go.AM
variable {P:Program} {Gl:BM} {env:Env} {σ σ':Sto} {n:Nat} {all:Array Oper} {w:World} {I:Im} {μ:Pos} {a:Act} {Q:Exit->Act->World->Prop}
def Xr{o:Oper}{i:Nat}{v:AV}{Kw:Act->World->Prop}(hR:Rel w I μ σ)(hG:Cr Gl w I)(hE:C9 n w I μ σ env a)(hi:all[i]? = some o)(hs:Fi P Gl n all o env σ v σ')
  (hn:∀a' w' I' μ',Rel w' I' μ' σ'->Cr Gl w' I'->C9 n w' I' μ' σ' (AJ env o.dst v) a'->Ay σ.length w I μ σ w' I' μ' σ'->Kw a' w'):wpOp P all Q i Kw a w:=by
 unfold wpOp;rw[hi];simp only;obtain⟨hd,hs⟩:=hs;cases hgd:o.guard with
 | none=>
  rw[hgd] at hs;obtain⟨hg,h⟩:=hs;rw[AD (Un hgd _)];left;cases hc:Ch o.op with
  | true=>
   simp only[hc,By] at h;obtain⟨h1,rfl⟩:=h;refine Oper.Bo (NI hR hG hE hg (h1 σ' (Ext.refl _))) λu w' ⟨r,s',I',μ',q1,q2,q3,q4⟩=>?_;obtain⟨rfl,rfl⟩:=q4;exact hn _ _ _ _ q1 (hG.AH q2) ((hE.AH q2).AJ hd q3) q2
  | false=>
   simp only[hc,Cx,CF] at h;obtain⟨h1,rfl,rfl⟩:=h;refine Oper.Bf (M7 hR hG hE o hc hg h1) λu w' I' μ' q1 q2 q3=>?_;exact hn _ _ _ _ q1 (hG.AH q2) ((hE.AH q2).AJ hd q3) q2
 | some jb=>
  obtain⟨j,b⟩:=jb;rw[hgd] at hs;simp only at hs;by_cases ha:Ea o.op=true
  ·rw[AD ha] at hs;obtain⟨hsl,ht,hg,h1,rfl,rfl⟩:=hs;have hw:=Oq hE (all:=all) hgd hsl;have hc:Ch o.op=false:=by
    generalize o.op=op at *;cases op<;>first|rfl|(simp[Ea] at ha;done)
   rw[hw,ht,AD rfl];left;refine Oper.Bf (M7 hR hG hE o hc hg h1) λu w' I' μ' q1 q2 q3=>?_;exact bp
  rw[A7 ha] at hs;obtain⟨hqt,hsl,hg,rfl,h⟩:=hs;have hw:=Oq hE (all:=all) hgd hsl;cases ht:C3 (BV all env j) b with
  | false=>
   rw[hw,ht,A7 A6];rw[ht] at h;have:∃x,v=.iff false x:=by
    cases hc:Ch o.op with
    | true=>simp only[hc,By] at h;obtain⟨r0,h,_⟩:=h;exact⟨r0,h⟩
    | false=>simp only[hc,Cx,CF] at h;obtain⟨r0,h,_⟩:=h;exact⟨r0,h⟩
   obtain⟨x,rfl⟩:=this;exact hn _ _ _ _ hR hG (hE.AJ hd (.iff false _ x (λh=>D8) (λ_=>rfl))) (Ay.refl _ _ _ _ (AR _))
  | true=>
   rw[hw,ht,AD rfl];left;rw[ht] at h hg;cases hc:Ch o.op with
   | true=>
    simp only[hc,By] at h;obtain⟨r0,rfl,h2⟩:=h;refine Oper.Bo (NI hR hG hE hg (h2 trivial _ (Ext.refl _))) λu w' ⟨r,s',I',μ',q1,q2,q3,q4⟩=>?_;obtain⟨rfl,rfl⟩:=q4;exact bp
   | false=>
    simp only[hc,Cx,CF] at h;obtain⟨r0,rfl,h2⟩:=h;obtain⟨h3,rfl⟩:=h2 trivial;have hgo:=M7 hR hG hE o hc hg h3;rw[QN hqt] at hgo;refine Oper.Bf hgo λu w' I' μ' q1 q2 q3=>?_;exact bp
def eJ{acc:List Nat}{j:Nat}:∀(l:List Edge) (s:Nat),(Rh acc l s).testBit j=true->s.testBit j=true\/∃e∈l,Region.binds .any e=true/\(e.on=j\/(acc.getD e.on 0).testBit j=true)
 | [],s,h=>.inl h
 | e::l,s,h=>by
  rcases eJ l _ h with h1|⟨e',h1,h2⟩
  ·simp only at h1;by_cases hb:Region.binds .any e=true
   ·rw[AD hb] at h1;simp only[Nat.testBit_or,Gc,Nat.testBit_two_pow,CZ] at h1;rcases h1 with(h1|h1)|h1
    ·exact .inl h1
    ·exact .inr ⟨e,A6,hb,.inl h1⟩
    exact .inr ⟨e,A6,hb,.inr h1⟩
   rw[A7 hb] at h1;exact .inl h1
  exact .inr ⟨e',by simp[h1],h2⟩
def Ls(all:Array Oper)(D:Nat->Prop)(i:Nat):Prop:=∀o,all[i]? = some o->∀e∈o.after.toList,Region.binds .any e=true->D e.on
def XH{D:Nat->Prop}(hD:∀i,D i->Ls all D i):∀(rest:List Oper) (acc:List Nat),(∀k,rest[k]? = all[acc.length+k]?) ->
  (∀i<acc.length,∀j,(acc.getD i 0).testBit j=true->Ls all D i->D j) ->
  ∀i<(MN rest acc).length,∀j,((MN rest acc).getD i 0).testBit j=true->Ls all D i->D j
 | [],acc,_,h=>h
 | o::r,acc,hk,h=>by
  have h0:all[acc.length]? = some o:=by have:=hk 0;simpa using this.symm
  refine XH hD r _ (λk=>?_) (λi hi j hj hp=>?_)
  ·have:=hk (k+1);simp only[O5] at this;rw[this,Bb,Hx];congr 1;omega
  rcases B9 i acc.length with hlt|hge
  ·have e:(acc++[Rh acc o.after.toList 0]).getD i 0=acc.getD i 0:=by
    simp[B5,Ec hlt]
   rw[e] at hj;exact h i hlt j hj hp
  have hi':i=acc.length:=by simp only[Bb,Hx] at hi;omega
  subst hi';have e:(acc++[Rh acc o.after.toList 0]).getD acc.length 0=Rh acc o.after.toList 0:=by
   simp[B5]
  rw[e] at hj;rcases eJ _ _ hj with h1|⟨e',h1,h2,h3⟩
  ·simp at h1
  have hde:=hp o h0 e' h1 h2;rcases h3 with rfl|h3
  ·exact hde
  have hlt:e'.on<acc.length:=by
   rcases B9 e'.on acc.length with h'|h'
   ·exact h'
   rw[B5,Bt h'] at h3;simp at h3
  exact h _ hlt j h3 (hD _ hde)
def Y1:∀(rest:List Oper) (acc:List Nat),(MN rest acc).length=acc.length+rest.length
 | [],acc=>rfl
 | o::r,acc=>by rw[MN,Y1 r];simp;omega
def KS(ops:Array Oper):Bool:=
 ((List.range ops.size).all λi=>(List.range i).all λj=>((MN ops.toList []).getD i 0).testBit j||(match ops[j]?,ops[i]? with|some x,some y=>Lu ops x y|_,_=>true)) &&
 ((List.range ops.size).all λi=>match ops[i]? with|some o=>o.after.toList.all λe=>!Region.binds .any e||decide (e.on<i)|none=>true)
def rR(h:KS all=true):Lc all=false:=by
 cases hh:Lc all with
 | false=>rfl
 | true=>
  exfalso;simp only[Lc,C5,K6,CI] at hh;obtain⟨_,i,hi,j,hj,h1,h2⟩:=hh;simp only[KS,C5,EW,CI] at h;have h3:=h.1 i hi j hj;cases hx:all[j]? with
  | none=>rw[hx] at h1;simp at h1
  | some x=>
   cases hy:all[i]? with
   | none=>rw[hx,hy] at h1;simp at h1
   | some y=>
    rw[hx,hy] at h1 h3;simp only[C5] at h1;obtain⟨⟨⟨a1,a2⟩,a3⟩,a4⟩:=h1;simp only[K8] at h2;rw[h2] at h3;simp only[Kq] at h3;have gx:x.guard=none:=by cases hg:x.guard<;>simp_all
    have qx:F5 x.op=false:=by cases hq:F5 x.op with|false=>rfl|true=>rw[UY hq] at a1;cases a1
    have qy:F5 y.op=false:=by cases hq:F5 y.op with|false=>rfl|true=>rw[UY hq] at a2;cases a2
    have nx:HJ x.op=false:=by cases hq:HJ x.op with|false=>rfl|true=>rw[(Xw hq).1] at qx;cases qx
    have ny:HJ y.op=false:=by cases hq:HJ y.op with|false=>rfl|true=>rw[(Xw hq).1] at qy;cases qy
    simp[Lu,still,gx,qx,nx,ny] at h3
def eK(h:KS all=true){i j:Nat}(hij:j<i){x y:Oper}(hx:all[j]? = some x)(hy:all[i]? = some y){D:Nat->Prop}(hD:∀i,D i->Ls all D i)(hp:Ls all D i)(hj:¬D j):Lu all x y=true:=by
 simp only[KS,C5,EW,CI] at h;have hi:i<all.size:=by
  rcases B9 i all.size with h'|h'
  ·exact h'
  rw[I_ h'] at hy;cases hy
 have:=h.1 i hi j hij;rw[hx,hy] at this;rcases Gc _ _▸this with h1|h1
 ·refine absurd (XH hD all.toList [] (λk=>A6) (λi hi=>absurd hi (F9 _)) i ?_ j h1 hp) hj;rw[Y1];simpa using hi
 exact h1
def r9(h:KS all=true){i:Nat}{o:Oper}(ho:all[i]? = some o):∀e∈o.after.toList,Region.binds .any e=true->e.on<i:=by
 simp only[KS,C5,EW,CI] at h;have hi:i<all.size:=by
  exact nk
 intro e he hb;have:=h.2 i hi;exact nw
def Fh(all:Array Oper)(listed:Array Bool):List Nat:=(List.range all.size).filter λi=>!listed.getD i true
def Ee(all:Array Oper)(l:List Nat):List Oper:=l.filterMap (all[·]?)
def YC{N i:Nat}(h:i<N):List.range N=List.range i++i::(List.range (N-i-1)).map (i+1+·):=by
 have e:N=i+(1+(N-i-1)):=oo
 conv=>lhs;rw[e,List.range_add]
 congr 1;rw[T5 1,List.range_succ_eq_map];simp[aD,T5,Nat.add_left_comm]
def Ug{listed:Array Bool}(hs:listed.size=all.size){i:Nat}(hi:i<all.size)(hl:listed.getD i true=false):
  ∃pre post,Fh all listed=pre++i::post/\Fh all (listed.setIfInBounds i true)=pre++post/\∀j∈pre,j<i/\listed.getD j true=false:=by
 have hne:∀j,j≠i->(listed.setIfInBounds i true).getD j true=listed.getD j true:=λj hj=>by
  rw[Jb,Jb,Pb (λe=>hj e.symm)]
 have heq:(listed.setIfInBounds i true).getD i true=true:=by
  rw[Jb,O9 oo];rfl
 refine⟨(List.range i).filter λj=>!listed.getD j true,((List.range (all.size-i-1)).map (i+1+·)).filter λj=>!listed.getD j true,?_,?_,?_⟩
 ·unfold Fh;exact mY
 ·unfold Fh;rw[YC hi,P_,PT,A7 (by rw[heq];simp)];congr 1
  ·exact Vd λj hj=>by rw[hne j aw]
  exact Vd λj hj=>by
   obtain⟨k,_,rfl⟩:=C4.1 hj;rw[hne _ oo]
 intro j hj;have:=GP.1 hj;exact⟨CI.1 this.1,by simpa using this.2⟩
def Kc{listed:Array Bool}{i:Nat}:i∈Region.ready .any all listed↔i<all.size/\listed.getD i true=false/\∃o,all[i]? = some o/\∀e∈o.after.toList,Region.binds .any e=true->listed.getD e.on false=true:=by
 unfold Region.ready;rw[GP,CI];constructor
 ·rintro⟨h1,h2⟩;simp only[C5,K8] at h2;refine⟨h1,h2.1,?_⟩;have h3:=h2.2;rw[MY h1] at h3 ⊢;refine⟨_,rfl,λe he hb=>?_⟩;simp only[DF,EA,Array.all_eq_true'] at h3;have:=h3 e OE;simpa[hb] using this
 rintro⟨h1,h2,o,h3,h4⟩;refine⟨h1,?_⟩;simp only[C5,K8];refine⟨h2,?_⟩;rw[h3];simp only[DF,EA,Array.all_eq_true'];intro e he;cases hb:Region.binds .any e with
 | false=>rfl
 | true=>simp[h4 e OE hb]
def MC{listed:Array Bool}{i:Nat}(h:i<listed.size):listed.getD i false=listed.getD i true:=by
 simp[h]
def xr(hck:KS all=true){m:Nat}{K:Env->Sto->Prop}:∀(fuel:Nat) (listed:Array Bool) (env:Env) (σ:Sto) (w:World) (I:Im) (μ:Pos) (a:Act),
  listed.size=all.size->(∀i,listed.getD i false=true->Ls all (λj=>listed.getD j false=true) i)->(Fh all listed).length<=fuel ->
  IA P Gl n all (Ee all (Fh all listed)) env σ (KX K)->Rel w I μ σ->Cr Gl w I->C9 n w I μ σ env a->m<=σ.length ->
  (∀env' σ' w' I' μ' a',K env' σ'->Rel w' I' μ' σ'->Cr Gl w' I'->C9 n w' I' μ' σ' env' a'->Ay m w I μ σ w' I' μ' σ'->Q .normal a' w')->wpAny P .any all Q fuel listed a w:=by
 intro fuel
 induction fuel with
 | zero=>
  intro listed env σ w I μ a hsz hD hlen hst hR hG hE hm hq;have hnil:Fh all listed=[]:=G3 oo;refine⟨?_,?_⟩
  ·rw[TK];intro i hi;obtain⟨h1,h2,_⟩:=Kc.1 hi;have:i∈Fh all listed:=GP.2 ⟨CI.2 h1,by rw[h2];rfl⟩;rw[hnil] at this;cases this
  exact oq
 | succ fuel ih=>
  intro listed env σ w I μ a hsz hD hlen hst hR hG hE hm hq;refine⟨λhrd=>?_,λi hi=>?_⟩
  ·have hall:∀i,i<all.size->listed.getD i true=true:=by
    exact pO
   have hnil:Fh all listed=[]:=by
    rw[TK];intro i hi;have:=GP.1 hi;have h2:=hall i (CI.1 this.1);rw[h2] at this;simp at this
   exact oq
  obtain⟨h1,h2,o,h3,h4⟩:=Kc.1 hi;obtain⟨pre,post,e1,e2,e3⟩:=Ug hsz h1 h2;have hpre:∀x∈Ee all pre,Lu all x o=true:=λx hx=>by
   obtain⟨j,hj,hjx⟩:=aH.1 hx;obtain⟨hlt,hnl⟩:=e3 j hj;refine eK hck hlt hjx h3 (D:=λj=>listed.getD j false=true) hD (λo' ho'=>by rw[h3] at ho';cases ho';exact h4) ?_;intro hd;have hd:listed.getD j false=true:=hd;rw[MC oo,hnl] at hd;cases hd
  rw[e1] at hst;have e4:Ee all (pre++i::post)=Ee all pre++o::Ee all post:=by
   simp[Ee,h3]
  rw[e4] at hst;obtain⟨v,σ',s1,s2⟩:=Y0 _ hpre hst;have hset:∀j,(listed.setIfInBounds i true).getD j false=true↔(listed.getD j false=true\/j=i):=λj=>by
   by_cases e:j=i
   ·subst e;rw[Jb,O9 oo];simp
   rw[Jb,Pb (λh=>e h.symm),<-Jb];simp[e]
  refine Xr hR hG hE h3 s1 λa' w' I' μ' q1 q2 q3 q4=>?_;refine ih (listed.setIfInBounds i true) _ σ' w' I' μ' a' W2 (λj hj o' ho' e he hb=>?_) ?_ ?_ q1 q2 q3 (DC hm q4.len) λenv' σ2 w2 I2 μ2 a2 k1 k2 k3 k4 k5=>hq env' σ2 w2 I2 μ2 a2 k1 k2 k3 k4 ((q4.mono hm).trans k5)
  ·exact om
  ·exact WM
  exact na
def Qfl(hP:P.follows .mixedOrders=true)(hl:Lw all=false)(hck:KS all=true){m id:Nat}{K:Env->Sto->Prop}(h:Ab P Gl n all true all.toList env σ K)(hR:Rel w I μ σ)(hG:Cr Gl w I)(hE:C9 n w I μ σ env a)(hm:m<=σ.length)
  (hq:∀env' σ' w' I' μ' a',K env' σ'->Rel w' I' μ' σ'->Cr Gl w' I'->C9 n w' I' μ' σ' env' a'->Ay m w I μ σ w' I' μ' σ'->Q .normal a' w'):(Code.region id all true).wp P Q a w:=by
 refine wp_region_any hP ?_;have hs:=HN.drew w;have hk:=hs.AH (I:=I) (μ:=μ) (σ:=σ);have hfalse:∀(i:Nat) (b:Bool),i<all.size->(Array.replicate all.size false).getD i b=false:=λi b hi=>RG;have hrem:Fh all (Array.replicate all.size false)=List.range all.size:=by
  unfold Fh;rw[Vj];intro i hi;rw[hfalse i _ (CI.1 hi)];rfl
 have hops:Ee all (List.range all.size)=all.toList:=by
  apply Gf;intro k;have hall:∀N,N<=all.size->∀k,(Ee all (List.range N))[k]? = if k<N then all[k]? else none:=by
   intro N
   induction N with
   | zero=>intro _ k;simp[Ee]
   | succ N ih=>
    intro hN k;have hlen:(Ee all (List.range N)).length=N:=by
     have h1:=ih oo;rcases HA (Ee all (List.range N)).length N with hlt|he|hgt
     ·have:=h1 (Ee all (List.range N)).length;rw[AD hlt,Bt (AR _),MY oo] at this;cases this
     ·exact he
     have:=h1 N;rw[A7 (R5 _),BP hgt] at this;cases this
    have e:Ee all (List.range (N+1))=Ee all (List.range N)++[all[N]]:=by
     exact o0
    rw[e];rcases HA k N with hlt|he|hgt
    ·rw[Ec oo,ih oo,AD hlt,AD oo]
    ·subst he;rw[G2 oo,hlen,AD oo];simp[MY (oo:k<all.size)]
    rw[Bt TX,A7 oo]
  rw[hall _ (AR _)];rcases B9 k all.size with h1|h1
  ·rw[AD h1];simp
  rw[A7 oo];simp;omega
 have hmono:∀(l:List Oper) (env:Env) (σ:Sto),IA P Gl n all l env σ K->IA P Gl n all l env σ (KX K):=by
  intro l
  induction l with
  | nil=>intro env σ h;exact⟨env,λ_=>rfl,h⟩
  | cons o l ih=>intro env σ h;obtain⟨v,σ',h1,h2⟩:=h;exact⟨v,σ',h1,ih _ _ h2⟩
 refine xr (P:=P) (Gl:=Gl) (n:=n) hck all.size _ env σ _ I μ a A6 (λi hi=>?_) (by rw[hrem];simp) ?_ (hs.rel hR) (hG.AH hk) (hE.AH hk) hm λenv' σ' w' I' μ' a' k1 k2 k3 k4 k5=>hq env' σ' w' I' μ' a' k1 k2 k3 k4 ((hk.mono hm).trans k5)
 ·exfalso;rcases B9 i all.size with h1|h1
  ·rw[hfalse i _ h1] at hi;cases hi
  simp[Sw.2 h1] at hi
 rw[hrem,hops];exact hmono _ _ _ (QE hl _ _ _ h)
end Go.AM
