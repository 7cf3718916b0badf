/- A part of the proof: contracts of functions of this seat, and lemmas. No condition beyond those stated. -/
import Derived.Test.YtafpldmnkcegmaaGreatH3
import Derived.Test.YtafpldmnkcegmaaGreatG4
set_option linter.all false
set_option maxRecDepth 100000
namespace Go.Proofs
open Go.AM Tryz
namespace YtafpldmnkcegmaaGreat
variable {Gl:BM}
def Ey(cs:List AV)(th Ed lost:Int)(v:AV):List AV:=cs++[.d (.int .i64 th),.d (.int .i64 Ed),.d (.int .i64 lost),v]
def XE(cs:List AV)(th Ed lost:Int)(v:AV):(Ey cs th Ed lost v).length=cs.length+4:=by simp[Ey]
def cR(cs:List AV)(th Ed lost:Int)(v:AV){j:Nat}(h:cs.length=j*4):(Ey cs th Ed lost v).getD (j*4+3) .undef=v:=by
 rw[Ey,B5,G2 oo,h,EB];rfl
def cS(cs:List AV)(th Ed lost:Int)(v u:AV){j:Nat}(h:cs.length=j*4):(Ey cs th Ed lost v).set (j*4+3) u=Ey cs th Ed lost u:=by
 rw[Ey,Vs _ _ oo,h,EB];rfl
def tg{S:Sto}{A j:Nat}{cs:List AV}{th Ed lost:Int}(hA:A1 S A=.var 4 (Ey cs th Ed lost .AA))(hc:cs.length=j*4)(hj:j<1000000)(ev:List EvT)(he:0<ev.length/\ev.length<=1000):
  AW prog Gl 221 [.A8 A 0 (j+1),.d (.sl (ev.map EvT.A5))] S (λr s=>r=.A8 A 0 (j+1)/\∃E,S.length<=E/\A1 s A=.var 4 (Ey cs th Ed lost (.A8 E 0 ev.length))/\A1 s E=.arr 6 (ev.map EvT.A5)/\Fr S s [A]):=by
 have lA:=AG hA rfl;have hl:=XE cs th Ed lost .AA;have hdiv:(j*4+4) / 4=j+1:=oo;have hg3:=cR cs th Ed lost .AA hc;have e1:IntKind.i64.wrap ((j:Int)+1-1)=(j:Nat):=Bz;refine acS func221 ntmps221 results221 ?_;simp only[zF,seval,B6];refine CL (τ:=Bool×Sto) (λy=>[(0,.A8 A 0 (j+1)),(1,.d (.sl (if y.1=true then[] else ev.map EvT.A5)))]) (λy=>y.2) (λy=>if y.1=true then ∃E,S.length<=E/\A1 y.2 A=.var 4 (Ey cs th Ed lost (.A8 E 0 ev.length))/\A1 y.2 E=.arr 6 (ev.map EvT.A5)/\Fr S y.2 [A] else y.2=S) (λy=>if y.1=true then 0 else 1) (false,S) rfl ?_ ?_
 ·exact Dd
 rintro⟨b,s⟩ hI;cases b with
 | true=>
  exact mI
 | false=>
  simp only[Cx,CF] at hI;subst hI;have hm:min (IntKind.i64.wrap 1000) (ev.length:Int)=ev.length:=Bz;have hs3:=λu=>cS cs th Ed lost .AA u hc;simp only[zF,seval,Cx,CF,(oo:(0:Int)<ev.length),hA,lA,hl,hc,hdiv,e1,(oo:(j:Int)<(j:Int)+1),(oo:j<j+1),hg3,hm,Mq (oo:¬((ev.length:Int)=0))];refine⟨.inl Ax,?_⟩;simp only[zF,seval,hA,lA,hl,hc,hdiv,(oo:j<j+1),hg3,hs3,(oo:(ev.length:Int)<=ev.length),Dw,BW,BL];have htk:List.take ev.length (ev.map EvT.A5)=ev.map EvT.A5:=Bi A6;have hdr:List.drop ev.length (ev.map EvT.A5)=[]:=aS A6;rw[htk,hdr];refine⟨⟨λx hx=>aq,Ap,Ap⟩,(true,_),?_,A6,AU ?_⟩;rotate_left 1
  ·rfl
  simp only[By];rw[BW];refine⟨s.length,AR _,?_,?_,((Fr.refl s [A]).set _ A6).trans (Fr.app _ _) A6⟩
  ·rw[BB (by simp;exact lA),BX lA]
  rw[CE,BH,A7 oo,FA];rfl
def tj{S:Sto}{A j E0:Nat}{cs:List AV}{th Ed lost:Int}{v ev:List EvT}(hA:A1 S A=.var 4 (Ey cs th Ed lost (.A8 E0 0 v.length)))(hE0:A1 S E0=.arr 6 (v.map EvT.A5))(hc:cs.length=j*4)(hj:j<1000000)(he:0<ev.length/\v.length+ev.length<=1000):
  AW prog Gl 221 [.A8 A 0 (j+1),.d (.sl (ev.map EvT.A5))] S (λr s=>r=.A8 A 0 (j+1)/\∃E,S.length<=E/\A1 s A=.var 4 (Ey cs th Ed lost (.A8 E 0 (v.length+ev.length)))/\A1 s E=.arr 6 ((v++ev).map EvT.A5)/\Fr S s [A,E0]):=by
 have lA:=AG hA rfl;have lE:=AG hE0 rfl;have hAE:A≠E0:=AX hA hE0 A6;have hl:=XE cs th Ed lost (.A8 E0 0 v.length);have hdiv:(j*4+4) / 4=j+1:=oo;have hg3:=cR cs th Ed lost (.A8 E0 0 v.length) hc;have e1:IntKind.i64.wrap ((j:Int)+1-1)=(j:Nat):=Bz;refine acS func221 ntmps221 results221 ?_;simp only[zF,seval,B6];refine CL (τ:=Bool×Sto) (λy=>[(0,.A8 A 0 (j+1)),(1,.d (.sl (if y.1=true then[] else ev.map EvT.A5)))]) (λy=>y.2) (λy=>if y.1=true then ∃E,S.length<=E/\A1 y.2 A=.var 4 (Ey cs th Ed lost (.A8 E 0 (v.length+ev.length)))/\A1 y.2 E=.arr 6 ((v++ev).map EvT.A5)/\Fr S y.2 [A,E0] else y.2=S) (λy=>if y.1=true then 0 else 1) (false,S) rfl ?_ ?_
 ·exact Dd
 rintro⟨b,s⟩ hI;cases b with
 | true=>
  exact mI
 | false=>
  simp only[Cx,CF] at hI;subst hI;have hm:min (IntKind.i64.wrap (1000-(v.length:Int))) (ev.length:Int)=ev.length:=Bz;have hs3:=λu=>cS cs th Ed lost (.A8 E0 0 v.length) u hc;simp only[zF,seval,Cx,CF,(oo:(0:Int)<ev.length),hA,hE0,lA,lE,hl,hc,hdiv,e1,(oo:(j:Int)<(j:Int)+1),(oo:j<j+1),hg3,hm,Mq (oo:¬((ev.length:Int)=0))];refine⟨.inl Ax,?_⟩;simp only[zF,seval,hA,hE0,lA,lE,hAE,hAE.symm,hl,hc,hdiv,(oo:j<j+1),hg3,hs3,(oo:(ev.length:Int)<=ev.length),Dw,BW,BL];have htk:List.take ev.length (ev.map EvT.A5)=ev.map EvT.A5:=Bi A6;have htv:List.take v.length (v.map EvT.A5)=v.map EvT.A5:=Bi A6;have hdr:List.drop ev.length (ev.map EvT.A5)=[]:=aS A6;rw[htk,hdr,htv];refine⟨⟨λx hx=>aq,Ap,Ap⟩,(true,_),?_,A6,AU ?_⟩;rotate_left 1
  ·rfl
  simp only[By];rw[BW];refine⟨s.length,AR _,?_,?_,?_⟩
  ·rw[BB (by simp;exact lA),BX (by simp;exact lA)]
  ·rw[CE,BH,BH,A7 oo,FA,CA];rfl
  exact(((Fr.refl s [A,E0]).set _ A6).set _ A6).trans (Fr.app _ _) A6
def F4(p:Ao):List AV:=[.d (.int .i64 p.A0),.d (.int .i64 p.AB),.d (.int .i64 p.lost),.d (.sl (p.A_.map EvT.A5))]
def KL(own:List Ao)(ev:List EvT):List Ao:=own.dropLast++[{own.getLastD default with A_:=(own.getLastD default).A_++ev}]
def pfS(P:Int->List Ao)(p:Ao):Int->List Ao:=Ae P p.A0 (if 0<p.lost\/P p.A0=[] then P p.A0++[p] else KL (P p.A0) p.A_)
def pfR(l:List Ao):Int->List Ao:=l.foldl pfS (λ_=>[])
def Dq(A9:List An)(l:List Ao):List Ao:=A9.flatMap λt=>pfR l t.id
structure ML(σ:Sto)(M:Nat)(P:Int->List Ao)(f:Aw->Option AV)(ta te:Int->Nat):Prop where
 Ad:A1 σ M=.map (some .i64) f
 look:∀k,f (.i k)=if P k=[] then none else some (.A8 (ta k) 0 (P k).length)
 row:∀k,P k≠[]->A1 σ (ta k)=.var 4 (Ey ((P k).dropLast.flatMap F4) ((P k).getLastD default).A0 ((P k).getLastD default).AB ((P k).getLastD default).lost (.A8 (te k) 0 ((P k).getLastD default).A_.length))
 A_:∀k,P k≠[]->A1 σ (te k)=.arr 6 (((P k).getLastD default).A_.map EvT.A5)
 Kf:∀k k',P k≠[]->P k'≠[]->ta k=ta k'->k=k'
 MJ:∀k k',P k≠[]->P k'≠[]->te k=te k'->k=k'
def ML.ext{S s:Sto}{M:Nat}{P:Int->List Ao}{f:Aw->Option AV}{ta te:Int->Nat}(h:ML S M P f ta te)(hf:Fr S s []):ML s M P f ta te:=
 ⟨hf.at h.Ad rfl A6,h.look,λk hk=>hf.at (h.row k hk) rfl A6,λk hk=>hf.at (h.A_ k hk) rfl A6,h.Kf,h.MJ⟩
def ML.Ev{S s:Sto}{M X E:Nat}{P:Int->List Ao}{f:Aw->Option AV}{ta te:Int->Nat}{ids:List Nat}(h:ML S M P f ta te)(k:Int)(Q:List Ao)(hQ:Q≠[])(hf:Fr S s ids)
  (hids:∀j∈ids,j=M\/(P k≠[]/\(j=ta k\/j=te k))) (hX:S.length<=X\/(P k≠[]/\X=ta k)) (hE:S.length<=E)
  (bM:A1 s M=.map (some .i64) (BO f (.i k) (.A8 X 0 Q.length)))
  (bX:A1 s X=.var 4 (Ey (Q.dropLast.flatMap F4) (Q.getLastD default).A0 (Q.getLastD default).AB (Q.getLastD default).lost (.A8 E 0 (Q.getLastD default).A_.length)))
  (bE:A1 s E=.arr 6 ((Q.getLastD default).A_.map EvT.A5)):ML s M (Ae P k Q) (BO f (.i k) (.A8 X 0 Q.length)) (Ae ta k X) (Ae te k E):=by
 have hin:∀k',k'≠k->P k'≠[]->ta k'∉ids/\te k'∉ids:=λk' hk hP=>by
  refine⟨λhm=>?_,λhm=>?_⟩
  ·rcases hids _ hm with e|⟨h2,e|e⟩
   ·exact AX (h.row k' hP) h.Ad A6 e
   ·exact hk (h.Kf k' k hP h2 e)
   exact AX (h.row k' hP) (h.A_ k h2) A6 e
  rcases hids _ hm with e|⟨h2,e|e⟩
  ·exact AX (h.A_ k' hP) h.Ad A6 e
  ·exact AX (h.A_ k' hP) (h.row k h2) A6 e
  exact hk (h.MJ k' k hP h2 e)
 have hXn:∀k',k'≠k->P k'≠[]->ta k'≠X:=λk' hk hP e=>by
  rcases hX with h1|⟨h1,h2⟩
  ·have:=AG (h.row k' hP) rfl;omega
  exact hk (h.Kf k' k hP h1 (e.trans h2))
 have hEn:∀k',k'≠k->P k'≠[]->te k'≠E:=λk' hk hP e=>by
  have:=AG (h.A_ k' hP) rfl;omega
 refine⟨bM,λj=>?_,λj hj=>?_,λj hj=>?_,λa b ha hb e=>?_,λa b ha hb e=>?_⟩
 ·by_cases e:j=k
  ·subst e;simp[BO,Ae,hQ]
  have:¬Aw.i j=Aw.i k:=λh=>e TT;simp only[BO,A7 this,Ae,A7 e];exact h.look j
 ·by_cases e:j=k
  ·subst e;simp only[Ae,By];exact bX
  simp only[Ae,A7 e] at hj ⊢;exact hf.at (h.row j hj) rfl (hin j e hj).1
 ·by_cases e:j=k
  ·subst e;simp only[Ae,By];exact bE
  simp only[Ae,A7 e] at hj ⊢;exact hf.at (h.A_ j hj) rfl (hin j e hj).2
 ·simp only[Ae] at ha hb e;by_cases ea:a=k<;>by_cases eb:b=k
  ·rw[ea,eb]
  ·simp only[ea,eb,By,CF] at ha hb e;exact absurd e.symm (hXn b eb hb)
  ·simp only[ea,eb,By,CF] at ha hb e;exact absurd e (hXn a ea ha)
  simp only[ea,eb,CF] at ha hb e;exact h.Kf a b ha hb e
 simp only[Ae] at ha hb e;by_cases ea:a=k<;>by_cases eb:b=k
 ·rw[ea,eb]
 ·simp only[ea,eb,By,CF] at ha hb e;exact absurd e.symm (hEn b eb hb)
 ·simp only[ea,eb,By,CF] at ha hb e;exact absurd e (hEn a ea ha)
 simp only[ea,eb,CF] at ha hb e;exact h.MJ a b ha hb e
def Rg{P:Program}{n m:Nat}{env:Env}{S:Sto}{c:Code}{K:Ct->Env->Sto->Prop}{f:Env->Sto->Prop}(J:Env->Sto->Prop)(h:AWp P Gl n m c env S (H2 K J))(h2:∀e s,J e s->f e s):AWp P Gl n m c env S (H2 K f):=
 AWp.mono h (Og (λ_ _ _ h=>h) h2)
def Fr.mono{S s:Sto}{l l':List Nat}(h:Fr S s l)(hl:∀j∈l,j∈l'):Fr S s l':=⟨h.1,λj hj hn=>h.2 j hj λhm=>hn (hl j hm)⟩
def pfQ(p:List Ao)(x:Ao):List Ao:=if 0<x.lost\/p=[] then p++[x] else KL p x.A_
def Q4u(p:List Ao)(x:Ao):pfQ p x≠[]:=by unfold pfQ KL;split<;>simp
def YQ(a b:List Ao):evN (a++b)=evN a+evN b:=by simp[evN]
def dD{p:List Ao}(h:p≠[]):p=p.dropLast++[p.getLastD default]:=by
 rw[aU,TJ h];simp[Vr]
def kY{p:List Ao}(h:p≠[]):evN p.dropLast+(p.getLastD default).A_.length=evN p:=by
 conv=>rhs;rw[dD h,YQ]
 simp[evN]
def Q9c(p:List Ao)(x:Ao):evN (pfQ p x)=evN p+x.A_.length/\(pfQ p x).length<=p.length+1:=by
 unfold pfQ;split
 ·exact⟨by rw[YQ];simp[evN],A6⟩
 rename_i h;have hp:p≠[]:=λe=>h (.inr e);have:=kY hp;have hl:0<p.length:=RA.2 hp;refine⟨?_,by simp[KL]⟩;rw[KL,YQ];simp only[evN,Ci,E9,VV,List.sum_nil,Bb] at this ⊢;omega
def X0(l:List Ao)(k:Nat)(h:k<l.length):pfR (l.take (k+1))=Ae (pfR (l.take k)) (l.getD k default).A0 (pfQ (pfR (l.take k) (l.getD k default).A0) (l.getD k default)):=by rw[CY l k h,pfR,GD];rfl
def S_(l:List Ao):∀(k:Nat) (t:Int),k<=l.length->evN (pfR (l.take k) t)<=evN (l.take k)/\(pfR (l.take k) t).length<=k
 | 0,t,_=>⟨AR _,AR _⟩
 | k+1,t,h=>by
  have ih:=λu=>S_ l k u oo;rw[X0 l k oo,Rs l k oo];unfold Ae;split
  ·have:=Q9c (pfR (l.take k) (l.getD k default).A0) (l.getD k default);have:=ih (l.getD k default).A0;omega
  have:=ih t;omega
def Tz(p:List Ao):(p.flatMap F4).length=p.length*4:=by
 induction p with
 | nil=>rfl
 | cons a r ih=>rw[IU,Bb,ih];simp[F4];omega
def eN(p:List Ao)(x:Ao):(p++[x]).dropLast=p/\(p++[x]).getLastD default=x:=A6
def OL{A9:List An}{l:List Ao}(h:H4 A9 l=0)(k:Nat)(hk:k<l.length):Ii (l.getD k default)=0:=by
 unfold H4 at h;have h0:Bh (He A9 l) l.length=0:=by
  exact nU
 have:=MH h0 k hk;unfold He at this;by_cases e:Ii (l.getD k default)=0
 ·exact e
 rw[AD e] at this;exact this
def uV(p:List Ao)(x:Ao):(p++[x]).flatMap F4=p.flatMap F4++F4 x:=by rw[Kr];simp
def Z7(p:List Ao):∀c∈p.flatMap F4,∃d,c=.d d:=λc hc=>by
 obtain⟨y,_,hy⟩:=HZ.1 hc;simp only[F4,Bw,En,E6] at hy;rcases hy with rfl|rfl|rfl|rfl<;>exact⟨_,rfl⟩
def gN{S:Sto}{n m A E:Nat}{env:Env}{p:List Ao}(hp:p≠[])(hA:A1 S A=.var 4 (Ey (p.dropLast.flatMap F4) (p.getLastD default).A0 (p.getLastD default).AB (p.getLastD default).lost (.A8 E 0 (p.getLastD default).A_.length)))(hE:A1 S E=.arr 6 ((p.getLastD default).A_.map EvT.A5)):
  Bc n m env S env ((S.set E (.BS 6 ((p.getLastD default).A_.map EvT.A5))).set A (.var 4 (p.flatMap F4))):=by
 have hd:(AV.agg (Ey (p.dropLast.flatMap F4) (p.getLastD default).A0 (p.getLastD default).AB (p.getLastD default).lost (.A8 E 0 (p.getLastD default).A_.length))).Db S=true:=by
  show List.all _ (EH S)=true;rw[Ey,Vo,C5];refine⟨EW.2 λc hc=>?_,?_⟩
  ·obtain⟨d,rfl⟩:=Z7 _ c hc;rfl
  simp[EH,hE,Blk.AY]
 have hw:=Xg (n:=n) (m:=m) (env:=env) A hA hd;have hr:(AV.agg (Ey (p.dropLast.flatMap F4) (p.getLastD default).A0 (p.getLastD default).AB (p.getLastD default).lost (.A8 E 0 (p.getLastD default).A_.length))).refs=[E]:=by
  show List.flatMap HE _=_;rw[Ey,Kr];have:(p.dropLast.flatMap F4).flatMap HE=[]:=by
   rw[List.flatMap_eq_nil_iff];intro c hc;obtain⟨d,rfl⟩:=Z7 _ c hc;rfl
  rw[this];rfl
 rw[hr,Up hE] at hw;have hm:(Ey (p.dropLast.flatMap F4) (p.getLastD default).A0 (p.getLastD default).AB (p.getLastD default).lost (.A8 E 0 (p.getLastD default).A_.length)).map (λc=>AV.d (Cv S c))=p.flatMap F4:=by
  conv=>rhs;rw[dD hp,uV]
  rw[Ey,CA];congr 1
  ·rw[MX (g:=id) λc hc=>by obtain⟨d,rfl⟩:=Z7 _ c hc;rfl,Sx]
  have ht:List.take (p.getLastD default).A_.length ((p.getLastD default).A_.map EvT.A5)=(p.getLastD default).A_.map EvT.A5:=Bi A6;simp only[Ci,E9,Cv,hE,Blk.xs,F4,IZ,ht]
 rw[hm] at hw;exact hw
def k_{s s2:Sto}{X:Nat}{ids:List Nat}{f:Aw->Option AV}{p:List Ao}{x:Ao}(hf:Fr s s2 ids)(h2:A1 s2 2=.map (some .i64) f)(hB:A1 s2 s.length=.box 4 (.d x.A5))(hX:A1 s2 X=.var 4 (Ey (p.flatMap F4) x.A0 x.AB x.lost .AA))(hXs:s.length<=X)(hp:p.length<1000000)(he:0<x.A_.length/\x.A_.length<=1000):
  AW prog Gl 221 [.A8 X 0 (p.length+1),.d (.sl (x.A_.map EvT.A5))] s2 (λr u=>r=.A8 X 0 (p.length+1)/\∃E,s.length<=E /\
    A1 u X=.var 4 (Ey (p.flatMap F4) x.A0 x.AB x.lost (.A8 E 0 x.A_.length))/\A1 u E=.arr 6 (x.A_.map EvT.A5)/\Fr s u ids/\A1 u 2=.map (some .i64) f/\A1 u s.length=.box 4 (.d x.A5)):=by
 refine(tg hX (Tz p) hp x.A_ he).mono λr u hr=>?_;obtain⟨rfl,E,h3,h4,h5,h6⟩:=hr;have hl:=hf.1;refine⟨rfl,E,oo,h4,h5,hf.trans h6 (λj hj=>.inr (by rw[CG.1 hj];exact hXs)),h6.at h2 rfl ?_,h6.at hB rfl ?_⟩
 ·intro hm;exact AX h2 hX A6 (CG.1 hm)
 intro hm;exact AX hB hX A6 (CG.1 hm)
def Q4t(p:List Ao):p.flatMap F4=((p.map Ao.A5).flatMap D.cells).map AV.d:=by
 induction p with
 | nil=>rfl
 | cons a r ih=>rw[IU,ih,Ci,IU,CA];rfl
structure NX(σ:Sto)(N:Nat)(P:Int->List Ao)(f:Aw->Option AV)(ta te:Int->Nat):Prop where
 Ad:A1 σ 2=.map (some .i64) f
 look:∀k,f (.i k)=if P k=[] then none else some (.A8 (ta k) 0 (P k).length)
 row:∀k,P k≠[]->(A1 σ (ta k)=.var 4 (Ey ((P k).dropLast.flatMap F4) ((P k).getLastD default).A0 ((P k).getLastD default).AB ((P k).getLastD default).lost (.A8 (te k) 0 ((P k).getLastD default).A_.length))/\A1 σ (te k)=.arr 6 (((P k).getLastD default).A_.map EvT.A5))\/A1 σ (ta k)=.arr 4 ((P k).map Ao.A5)
 inj:∀k k',P k≠[]->P k'≠[]->k≠k'->ta k≠ta k'/\te k≠te k'/\ta k≠te k'/\te k≠ta k'
 low:∀k,P k≠[]->ta k<N/\te k<N/\ta k≠2/\te k≠2/\ta k≠te k/\ta k≠1/\te k≠1
def ML.two{S:Sto}{P:Int->List Ao}{f:Aw->Option AV}{ta te:Int->Nat}{v:AV}(h:ML S 2 P f ta te)(hb:A1 S 1=.box 4 v):NX S S.length P f ta te:=
 ⟨h.Ad,h.look,λk hk=>.inl ⟨h.row k hk,h.A_ k hk⟩,λk k' a b hn=>⟨λe=>hn (h.Kf k k' a b e),λe=>hn (h.MJ k k' a b e),AX (h.row k a) (h.A_ k' b) A6,AX (h.A_ k a) (h.row k' b) A6⟩,
  λk hk=>⟨AG (h.row k hk) rfl,AG (h.A_ k hk) rfl,AX (h.row k hk) h.Ad A6,AX (h.A_ k hk) h.Ad A6,AX (h.row k hk) (h.A_ k hk) A6,AX (h.row k hk) hb A6,AX (h.A_ k hk) hb A6⟩⟩
def NX.ext{S s:Sto}{N:Nat}{P:Int->List Ao}{f:Aw->Option AV}{ta te:Int->Nat}{ids:List Nat}(h:NX S N P f ta te)(hf:Fr S s ids)(hids:∀j∈ids,N<=j)(hN:2<N):NX s N P f ta te:=
 ⟨hf.at h.Ad rfl (λhm=>Pc),h.look,λk hk=>(by
  have hl:=h.low k hk
  rcases h.row k hk with⟨a,b⟩|a
  ·exact .inl ⟨hf.at a rfl (λhm=>Pc),hf.at b rfl (λhm=>Pc)⟩
  exact .inr (hf.at a rfl (λhm=>Pc))),h.inj,h.low⟩
def NX.data{S:Sto}{N n m:Nat}{env:Env}{P:Int->List Ao}{f:Aw->Option AV}{ta te:Int->Nat}(h:NX S N P f ta te)(t:Int)(ht:P t≠[]):
  ∃s,Bc n m env S env s/\NX s N P f ta te/\A1 s (ta t)=.arr 4 ((P t).map Ao.A5)/\Fr S s [ta t,te t]/\s.length=S.length:=by
 rcases h.row t ht with⟨a,b⟩|a
 ·have la:=AG a rfl;have lb:=AG b rfl;obtain⟨l1,l2,l3,l4,l5,_,_⟩:=h.low t ht;refine⟨_,(gN ht a b).trans (X8 (ta t) (BX (by simp;exact la)) (Q4t _) (λx hx=>?_) (λx hx=>?_)),?_,BX (by simp;exact la),(((Fr.refl S _).set _ A6).set _ A6).set _ A6,A6⟩
  ·obtain⟨y,_,rfl⟩:=C4.1 hx;rfl
  ·obtain⟨y,_,rfl⟩:=C4.1 hx;intro c hc;simp only[Ao.A5,D.cells,Bw,En,E6] at hc;rcases hc with rfl|rfl|rfl|rfl<;>rfl
  have hfr:Fr S (((S.set (te t) (.BS 6 (((P t).getLastD default).A_.map EvT.A5))).set (ta t) (.var 4 ((P t).flatMap F4))).set (ta t) (.arr 4 ((P t).map Ao.A5))) [ta t,te t]:=(((Fr.refl S _).set _ A6).set _ A6).set _ A6;refine⟨hfr.at h.Ad rfl Ap,h.look,λk hk=>?_,h.inj,h.low⟩;by_cases e:k=t
  ·subst e;exact .inr (BX (by simp;exact la))
  obtain⟨i1,i2,i3,i4⟩:=h.inj k t hk ht e;rcases h.row k hk with⟨c,d⟩|c
  ·exact .inl ⟨hfr.at c rfl (by simp[i1,i3]),hfr.at d rfl (by simp[i2,i4])⟩
  exact .inr (hfr.at c rfl (by simp[i1,i3]))
 exact⟨S,Bc.refl _ _ _ _,h,a,Fr.refl _ _,rfl⟩
def gV(A9:List An)(l:List Ao)(k:Nat)(h:k<A9.length):Dq (A9.take (k+1)) l=Dq (A9.take k) l++pfR l (A9.getD k default).id:=by
 rw[CY A9 k h,Dq,Kr];simp[Dq]
def We(A9:List An)(l:List Ao):∀k,k<=A9.length->(Dq (A9.take k) l).length<=k*l.length
 | 0,_=>by simp[Dq]
 | k+1,h=>by
  rw[gV A9 l k oo,Bb];have:=We A9 l k oo;have h2:=(S_ l l.length (A9.getD k default).id (AR _)).2;rw[BL] at h2;exact R_
def JN(A9:List An)(AZ:List BC)(AK:List B3)(l:List Ao):Av×Int:=
 if HH A9 AZ AK≠0 then(default,HH A9 AZ AK) else if H4 A9 l≠0 then(default,H4 A9 l) else(⟨A9,AZ,AK,Dq A9 l⟩,0)
set_option maxHeartbeats 4000000 in
def tq(A9:List An)(AZ:List BC)(AK:List B3)(l:List Ao)(h1:A9.length<1000000)(h2:AZ.length<1000000)(h3:AK.length<1000000)(hl:l.length<900000)(hf:∀p∈l,p.GC)(hev:evN l<=1000):
  AT prog Gl 206 [.d (.agg [.sl (A9.map An.A5),.sl (AZ.map BC.A5),.sl (AK.map B3.A5)]),.d (.sl (l.map Ao.A5))]
   (.Aj [.d (Av.A5 (JN A9 AZ AK l).1),.d (.int .i64 (JN A9 AZ AK l).2)]):=by
 have e1:HH A9 AZ AK≠0->JN A9 AZ AK l=(default,HH A9 AZ AK):=λh=>by rw[JN,AD h]
 have e2:HH A9 AZ AK=0->H4 A9 l≠0->JN A9 AZ AK l=(default,H4 A9 l):=λh h2=>by rw[JN,A7 Dy,AD h2]
 have e3:HH A9 AZ AK=0->H4 A9 l=0->JN A9 AZ AK l=(⟨A9,AZ,AK,Dq A9 l⟩,0):=λh h2=>by rw[JN,A7 Dy,A7 DN]
 refine AT.Fx ?_;refine Fv func206 rfl rfl (by simp[ntmps206]) ?_;simp only[ntmps206,results206,B6,C6];refine AWp.seq (Bu rfl _ _ _ _ ?_);simp only[zF,seval];refine AWp.seq (Bu rfl _ _ _ _ ?_);simp only[zF,seval];refine Ak (Q55 A9 AZ AK h1 h2 h3) ?_;simp only[zF,seval];apply ifC.mk<;>intro c1
 ·rw[e1 Ia];exact⟨_,_,(Xs Ha).trans KY,rfl,rfl⟩
 have c1:HH A9 AZ AK=0:=Ia;refine AWp.seq (Bu rfl _ _ _ _ ?_);simp only[zF,seval];refine Ak (tZ A9 AZ AK l h1 hl hf oo) ?_;simp only[zF,seval];apply ifC.mk<;>intro c2
 ·rw[e2 c1 (by simpa using c2)];exact⟨_,_,(Xs Ha).trans KY,rfl,rfl⟩
 have c2:H4 A9 l=0:=by simpa using c2
 rw[e3 c1 c2];clear e1 e2 e3;refine AWp.seq (Bu rfl _ _ _ _ ?_);simp only[zF,seval];refine AWp.seq (AWp.seq (Bu rfl _ _ _ _ ?_));simp only[zF,seval];refine AWp.block ?_;refine Fm (τ:=Nat×Sto) (λy=>[(31,(y.1:Int)),(30,(l.length:Int)),(29,.d (.sl (l.map Ao.A5))),(8,.AF 2),(4,.ptr 1 0),(2,.ptr 0 0)]) (λy=>y.2)
  (λy=>y.1<=l.length/\(∃f ta te,ML y.2 2 (pfR (l.take y.1)) f ta te)/\A1 y.2 0=.box 3 (.d (.agg [.sl (A9.map An.A5),.sl (AZ.map BC.A5),.sl (AK.map B3.A5)]))/\A1 y.2 1=.box 4 (.agg [.AA,.AA,.AA,.AA])) (λy=>l.length-y.1) (0,_) ⟨Bq _,⟨λ_=>none,λ_=>0,λ_=>0,rfl,λk=>rfl,λk h=>absurd rfl h,λk h=>absurd rfl h,λk k' h=>absurd rfl h,λk k' h=>absurd rfl h⟩,rfl,rfl⟩ (AU rfl) ?_
 rintro⟨k,s⟩ ⟨hk,⟨f,ta,te,hI⟩,hb0,hb1⟩;simp only at hk hI hb0 hb1;refine AWp.seq (Bu rfl _ _ _ _ ?_);by_cases h:k<l.length
 ·have hst:=X0 l k h;have hpb:=S_ l k (l.getD k default).A0 hk;have hpk:=P1 (OL c2 k h);have hen:=Rs l k h;have hen2:=OM l (k+1);have hx:=hf _ (Ba h);generalize hxx:l.getD k default=x at *;generalize hPP:pfR (l.take k)=P at *;have hM:=hI.Ad;have lM:=AG hM rfl;have hlk:=hI.look x.A0;simp only[zF,seval,(oo:(k:Int)<l.length)];refine Jf ?_;refine bK ?_;refine Cf ?_;simp only[zF,seval,hM,lM];refine⟨by rw[hlk];split<;>rfl,?_⟩;obtain⟨hpe1,hpe2⟩:=hpb;refine AWp.seq (Rg (λe s'=>∃s2 X ids,AW prog Gl 221 [.A8 X 0 (pfQ (P x.A0) x).length,.d (.sl (x.A_.map EvT.A5))] s2 (λr u=>r=.A8 X 0 (pfQ (P x.A0) x).length/\∃E,s.length<=E /\
    A1 u X=.var 4 (Ey ((pfQ (P x.A0) x).dropLast.flatMap F4) ((pfQ (P x.A0) x).getLastD default).A0 ((pfQ (P x.A0) x).getLastD default).AB ((pfQ (P x.A0) x).getLastD default).lost (.A8 E 0 ((pfQ (P x.A0) x).getLastD default).A_.length)) /\
    A1 u E=.arr 6 (((pfQ (P x.A0) x).getLastD default).A_.map EvT.A5)/\Fr s u ids/\A1 u 2=.map (some .i64) f/\A1 u s.length=.box 4 (.d x.A5)) /\
    A1 s2 2=.map (some .i64) f/\A1 s2 s.length=.box 4 (.d x.A5)/\(∀j∈ids,P x.A0≠[]/\(j=ta x.A0\/j=te x.A0))/\(s.length<=X\/(P x.A0≠[]/\X=ta x.A0)) /\
    Bc 84 0 e s' [(8,.AF 2),(10,.ptr s.length 0),(11,.A8 X 0 (pfQ (P x.A0) x).length),(31,(k:Int)),(30,(l.length:Int)),(29,.d (.sl (l.map Ao.A5))),(4,.ptr 1 0),(2,.ptr 0 0)] s2) ?_ ?_)
  ·by_cases hP:P x.A0=[]
   ·rw[AD hP] at hlk;simp only[zF,seval,hlk,Zx,EA,AV.un];have eQ:pfQ (P x.A0) x=[x]:=by rw[pfQ,AD (.inr hP),hP];rfl
    rw[eQ];refine Cu ?_;refine⟨Ax,?_⟩;refine AWp.Dl rfl rfl ?_;refine kJ (l1:=[_,_,_,_,_,_,_,_]) (tM:=54) (tD:=55) rfl rfl rfl rfl D7 j8 j9 kD rfl D7 D7 ?_;refine C0 ?_;refine⟨_,rfl,rfl,A6,_,s.length+1+1,[],?_,?_,?_,?_,?_,AU rfl⟩
    ·refine k_ (p:=[]) (Fr.app s _) (by rw[BB lM];exact hM) OD ?_ oo A6 ⟨hpk.2.2.1,hpk.2.2.2.1⟩;rw[CE,A7 oo,show s.length+1+1-s.length=2 by omega];rfl
    ·rw[BB lM];exact hM
    ·exact bL
    ·intro j hj;cases hj
    exact .inl oo
   rw[A7 hP] at hlk;simp only[zF,seval,hlk,Zx,EA,AV.un];have hA:=hI.row x.A0 hP;have hE:=hI.A_ x.A0 hP;have lA:=AG hA rfl;have lE:=AG hE rfl;have hlp:0<(P x.A0).length:=RA.2 hP;have hrl:=XE ((P x.A0).dropLast.flatMap F4) ((P x.A0).getLastD default).A0 ((P x.A0).getLastD default).AB ((P x.A0).getLastD default).lost (.A8 (te x.A0) 0 ((P x.A0).getLastD default).A_.length);rw[Tz,RB] at hrl;refine Cf ?_;simp only[zF,seval,hA,hE,lA,lE,Mq (oo:¬(((P x.A0).length:Int)=0))];refine⟨Ax,?_⟩;by_cases hc:0<x.lost
   ·simp only[zF,seval,hc];have eQ:pfQ (P x.A0) x=P x.A0++[x]:=by rw[pfQ,AD (.inl hc)]
    obtain⟨q1,q2⟩:=eN (P x.A0) x;rw[eQ,q1,q2];refine AWp.Dl rfl rfl (AWp.Cj (gN hP (hI.ext (Fr.app s _) |>.row x.A0 hP) (hI.ext (Fr.app s _) |>.A_ x.A0 hP)) ?_);have hAE:ta x.A0≠te x.A0:=AX hA hE A6;have lp:=Tz (P x.A0);refine kJ (l1:=[_,_,_,_,_,_,_,_]) (tM:=54) (tD:=55) rfl rfl rfl rfl D7 j8 j9 kD rfl D7 D7 ?_;simp only[zF,seval,lA,lE,hAE,hAE.symm,lp];have eT:List.take ((P x.A0).length*4) ((P x.A0).flatMap F4)=(P x.A0).flatMap F4:=Bi (by rw[lp];exact AR _);refine⟨_,rfl,rfl,⟨A6,oo,oo⟩,_,s.length+1+1,[ta x.A0,te x.A0],?_,?_,?_,?_,?_,AU rfl⟩;rotate_left 1
    ·exact nN
    ·exact mw
    ·intro j hj;simp at hj;exact⟨hP,hj⟩
    ·exact .inl oo
    refine k_ ((((Fr.refl s [ta x.A0,te x.A0]).set _ A6).set _ A6).trans (Fr.app _ _) A6) ?_ ?_ ?_ oo oo ⟨hpk.2.2.1,hpk.2.2.2.1⟩
    ·exact nN
    ·exact mw
    rw[CE,A7 Ap,BH,BH,show s.length+1+1-s.length=2 by omega,eT];rfl
   simp only[zF,seval,hc];have eQ:pfQ (P x.A0) x=KL (P x.A0) x.A_:=by rw[pfQ,A7 (by simp[hc,hP])]
   refine Pk ?_;have hL:=kY hP;obtain⟨q1,q2⟩:=eN (P x.A0).dropLast {(P x.A0).getLastD default with A_:=((P x.A0).getLastD default).A_++x.A_};have q3:(KL (P x.A0) x.A_).length=(P x.A0).length-1+1:=by simp[KL]
   rw[eQ,q3];rw[KL,q1,q2];have hI2:=hI.ext (Fr.app s [.box 4 (.d x.A5)]);have h2:=hI2.Ad;have hb:=Cd (σ:=s) (B:=.box 4 (.d x.A5));refine⟨_,ta x.A0,[ta x.A0,te x.A0],?_,h2,hb,?_,.inr ⟨hP,rfl⟩,AU ?_⟩
   ·refine(tj (hI2.row x.A0 hP) (hI2.A_ x.A0 hP) (by rw[Tz,RB]) oo ⟨hpk.2.2.1,oo⟩).mono λr u hr=>?_;obtain⟨rfl,E,h3,h4,h5,h6⟩:=hr;refine⟨rfl,E,Vy,?_,h5,(Fr.app s _).mono (λj hj=>RQ) |>.trans h6 (λj hj=>.inl hj),h6.at h2 rfl ?_,h6.at hb rfl ?_⟩
    ·rw[h4];simp
    ·intro hm;simp at hm;rcases hm with e|e
     ·exact AX hM hA A6 e
     exact AX hM hE A6 e
    intro hm;simp at hm;omega
   ·intro j hj;simp at hj;exact⟨hP,hj⟩
   rw[show(P x.A0).length-1+1=(P x.A0).length by omega];rfl
  rintro e s' ⟨s2,X,ids,hfill,h2,hB,hids,hX,hw⟩;refine AWp.Cj hw ?_;have l2:=AG h2 rfl;have lB:=AG hB rfl;have hne:(2:Nat)≠s.length:=oo;refine NM rfl (NJ (Θ:=Sto)
   (λH L=>[(57,onV (L 0) (.AF 2)),(58,onV (L 1) (.ptr s.length 0)),(59,onV (L 2) (.d (.int .i64 x.A0))),(60,onV (L 3) (.A8 X 0 (pfQ (P x.A0) x).length)),(61,onV (L 4) (.ptr s.length 3)),(62,onV (L 5) (.d (.sl (x.A_.map EvT.A5)))),(63,onV (L 6) (.A8 X 0 (pfQ (P x.A0) x).length)),
    (8,.AF 2),(10,.ptr s.length 0),(11,.A8 X 0 (pfQ (P x.A0) x).length),(31,.d (.int .i64 (k:Int))),(30,.d (.int .i64 l.length)),(29,.d (.sl (l.map Ao.A5))),(4,.ptr 1 0),(2,.ptr 0 0)])
   (λH L=>if L 7=true then H.set 2 (.map (some .i64) (BO f (.i x.A0) (.A8 X 0 (pfQ (P x.A0) x).length))) else if L 6=true then H else s2)
   (λH L=>L 6=true->∃E,s.length<=E /\
   A1 H X=.var 4 (Ey ((pfQ (P x.A0) x).dropLast.flatMap F4) ((pfQ (P x.A0) x).getLastD default).A0 ((pfQ (P x.A0) x).getLastD default).AB ((pfQ (P x.A0) x).getLastD default).lost (.A8 E 0 ((pfQ (P x.A0) x).getLastD default).A_.length)) /\
   A1 H E=.arr 6 (((pfQ (P x.A0) x).getLastD default).A_.map EvT.A5)/\Fr s H ids/\A1 H 2=.map (some .i64) f/\A1 H s.length=.box 4 (.d x.A5))
   Ax ?_ ?_ ?_)
  ·exact mg
  ·simp only[KO];refine⟨?_,?_,?_,?_,?_,?_,?_,?_,trivial⟩
   all_goals (rintro H L o1 hc hL hp;(try simp only[EM,Region.binds,frB] at hp);(try simp only[EU,Nat.reduceAdd] at hL);simp only[zF,seval,hL,hp,Ef,Er,D3,FG])
   all_goals have a7:∀j,j<7->L 7=true->L j=true:=λj hj h=>Da (hc 7 _ rfl h) j (by
    rcases(oo:j=0\/j=1\/j=2\/j=3\/j=4\/j=5\/j=6) with e|e|e|e|e|e|e<;>rw[e]<;>kernel_rfl)
   all_goals have bB:L 7=false->A1 (if L 6=true then H else s2) s.length=.box 4 (.d x.A5):=λ_=>(by
    by_cases h6:L 6=true
    ·rw[AD h6];obtain⟨_,_,_,_,_,_,h⟩:=o1 h6;exact h
    rw[A7 h6];exact hB)
   case refine_3=>
    have z7:=DO hL (a7 2 oo);exact mT
   case refine_6=>
    have z7:=DO hL (a7 5 oo);exact mT
   case refine_7=>
    have z7:=DO hL (a7 6 oo);rw[z7];refine C0 ?_;refine Be (hfill.mono λr u hr=>?_);obtain⟨rfl,hr⟩:=hr;refine C0 ?_;exact⟨u,AU rfl,hr⟩
   case refine_8=>
    obtain⟨E,h3,h4,h5,h6,h7,h8⟩:=o1 hp.2.2.1;simp only[zF,seval,h7];exact⟨H,AU rfl,E,h3,h4,h5,h6,h7,h8⟩
   all_goals exact⟨H,AU rfl,o1⟩
  rintro H ho;obtain⟨E,h3,h4,h5,h6,h7,h8⟩:=ho rfl;refine C0 ?_;refine Hc ?_;have hni:∀j,(P x.A0≠[]->j≠ta x.A0/\j≠te x.A0)->j∉ids:=λj hj hm=>by
   obtain⟨g1,g2⟩:=hids j hm;obtain⟨g3,g4⟩:=hj g1;rcases g2 with e|e
   ·exact g3 e
   exact g4 e
  have h2X:(2:Nat)≠X:=AX h7 h4 A6;have h2E:(2:Nat)≠E:=AX h7 h5 A6;refine⟨(k+1,_),⟨AQ,?_,?_,?_⟩,AQ,AU rfl⟩
  ·rw[hst];refine⟨_,_,_,hI.Ev (s:=H.set 2 (.map (some .i64) (BO f (.i x.A0) (.A8 X 0 (pfQ (P x.A0) x).length)))) (ids:=2::ids) (X:=X) (E:=E) x.A0 _ (Q4u _ _) ((h6.mono λj hj=>Cy _ hj).set _ A6) ?_ hX h3 (BX (AG h7 rfl)) (by rw[As h2X];exact h4) (by rw[As h2E];exact h5)⟩;intro j hj;rcases Bw.1 hj with e|hj
   ·exact .inl e
   exact .inr (hids j hj)
  ·simp only;rw[As D7];exact h6.at hb0 rfl (hni 0 λhP=>⟨AX hb0 (hI.row _ hP) A6,AX hb0 (hI.A_ _ hP) A6⟩)
  simp only;rw[As D7];exact h6.at hb1 rfl (hni 1 λhP=>⟨AX hb1 (hI.row _ hP) A6,AX hb1 (hI.A_ _ hP) A6⟩)
 have hk2:k=l.length:=oo;subst hk2;rw[BL] at hI;simp only[zF,seval,(oo:¬(l.length:Int)<l.length)];refine AWp.seq (Bu rfl _ _ _ _ ?_);simp only[zF,seval];have l0:=AG hb0 rfl;have l1:=AG hb1 rfl;refine AWp.seq (Bu rfl _ _ _ _ ?_);simp only[zF,seval,hb0,l0];refine AWp.seq (AWp.seq (Bu rfl _ _ _ _ ?_));simp only[zF,seval,hb0,l0];refine AWp.block ?_;have hI2:=hI.two hb1;have hM:=hI.Ad;have lM:=AG hM rfl;have hN:2<s.length:=lM;have hfr0:Fr s ((s++[Blk.box 4 (AV.agg [.d (.sl (A9.map An.A5)),.d (.sl (AZ.map BC.A5)),.d (.sl (AK.map B3.A5)),.AA])]++[Blk.arr 4 []]).set s.length (.box 4 (.agg ([.d (.sl (A9.map An.A5)),.d (.sl (AZ.map BC.A5)),.d (.sl (AK.map B3.A5)),AV.AA].set 3 (.A8 (s++[Blk.box 4 (AV.agg [.d (.sl (A9.map An.A5)),.d (.sl (AZ.map BC.A5)),.d (.sl (AK.map B3.A5)),.AA])]).length 0 0))))) [s.length]:=by
  rw[MV];exact((Fr.app s _).mono (λj hj=>RQ)).set _ A6
 generalize hNN:s.length=N at *;refine Fm (τ:=Nat×Sto) (λy=>[(70,(y.1:Int)),(69,(A9.length:Int)),(68,.d (.sl (A9.map An.A5))),(12,.ptr N 0),(8,.AF 2),(4,.ptr 1 0)]) (λy=>y.2)
  (λy=>y.1<=A9.length/\NX y.2 N (pfR l) f ta te/\A1 y.2 1=.box 4 (.agg [.AA,.AA,.AA,.AA])/\∃O,N<O/\A1 y.2 N=.box 4 (.agg [.d (.sl (A9.map An.A5)),.d (.sl (AZ.map BC.A5)),.d (.sl (AK.map B3.A5)),.A8 O 0 (Dq (A9.take y.1) l).length])/\A1 y.2 O=.arr 4 ((Dq (A9.take y.1) l).map Ao.A5)) (λy=>A9.length-y.1) (0,_)
  ⟨Bq _,hI2.ext hfr0 A6 hN,hfr0.at hb1 rfl Ap,N+1,oo,?_,?_⟩ ((QV N 4 3 (Bq _) (by rw[CE,A7 oo,hNN,FA];rfl) rfl A6 (by simp[hNN])).trans (AU rfl)) ?_
 ·rw[BX (by simp[hNN])];simp[Dq,hNN]
 ·rw[As oo,CE,A7 (by simp[hNN])];simp[hNN,Dq];rfl
 clear hI hfr0 hI2 hb1 l0 l1 hb0 hM lM hNN;rintro⟨k,s⟩ ⟨hk,hI,hb1,O,hO,hB,hOa⟩;simp only at hk hI hb1 hO hB hOa;have l1:=AG hb1 rfl;have lB:=AG hB rfl;have lO:=AG hOa rfl;have hcl:=We A9 l k hk;refine AWp.seq (Bu rfl _ _ _ _ ?_);by_cases h:k<A9.length
 ·have hsn:=gV A9 l k h;generalize hxx:A9.getD k default=x at *;simp only[zF,seval,(oo:(k:Int)<A9.length)];refine Jf ?_;simp only[zF,seval,(oo:(k:Int)<A9.length),h,Af _ _ _ (oo:k<A9.length),hxx];have hI2:=hI.ext (Fr.app s [Blk.box 3 (.d x.A5)]) A6 hN;have hb12:=(Fr.app s [Blk.box 3 (.d x.A5)]).at hb1 rfl A6;have hB2:=(Fr.app s [Blk.box 3 (.d x.A5)]).at hB rfl A6;have hOa2:=(Fr.app s [Blk.box 3 (.d x.A5)]).at hOa rfl A6;have hbx:=Cd (σ:=s) (B:=.box 3 (.d x.A5));have hcl2:=hcl;have hm1:k*l.length<=1000000*900000:=RC oo oo;have hlk:=hI2.look x.id;have hOl:O<s.length:=lO;have hON:O≠N:=oo;have hTk:List.take (Dq (A9.take k) l).length ((Dq (A9.take k) l).map Ao.A5)=(Dq (A9.take k) l).map Ao.A5:=Bi A6;by_cases hP:pfR l x.id=[]
  ·rw[AD hP] at hlk;rw[hP,FY] at hsn;have hM:=hI2.Ad;have lM:=AG hM rfl;generalize hs2:s++[Blk.box 3 (.d x.A5)]=s2 at *;have lb2:=AG hbx rfl;have lB2:=AG hB2 rfl;have lO2:=AG hOa2 rfl;refine Eu ?_;have hlen:List.length s<s2.length:=lb2;simp only[zF,seval,hM,lM,hlk,hbx,lb2,hB2,lB2,hOa2,lO2,hON,(oo:(Dq (A9.take k) l).length*48<=140737488355328),(oo:(Dq (A9.take k) l).length<=4611686018427387904),hTk];refine Hc ?_;have hfr:Fr s2 ((s2.set O .dead).set N (.box 4 (.agg [.d (.sl (A9.map An.A5)),.d (.sl (AZ.map BC.A5)),.d (.sl (AK.map B3.A5)),.A8 s2.length 0 (Dq (A9.take k) l).length]))++[.arr 4 ((Dq (A9.take k) l).map Ao.A5)]) [O,N]:=(((Fr.refl s2 [O,N]).set _ A6).set _ A6).trans (Fr.app _ _) A6;refine⟨(k+1,_),⟨AQ,hI2.ext hfr Ap hN,hfr.at hb12 rfl Ap,s2.length,oo,?_,?_⟩,AQ,AU rfl⟩
   ·simp only;rw[hsn,BB Ap,BX Ap]
   simp only;rw[hsn,CE,A7 A6];simp;rfl
  obtain⟨s2,hw,hI3,hAr,hf2,hl2⟩:=hI2.data (n:=84) (m:=0) (env:=[(14,AV.ptr (List.length s) 0),(73,AV.d x.A5),(72,AV.B8 3 (List.map An.A5 A9) k 0),
   (71,AV.d (D.bool true)),(70,AV.d (D.int IntKind.i64 ↑k)),(69,AV.d (D.int IntKind.i64 ↑A9.length)),
   (68,AV.d (D.sl (List.map An.A5 A9))),(12,AV.ptr N 0),(8,AV.AF 2),(4,AV.ptr 1 0)]) x.id hP
  rw[A7 hP] at hlk;obtain⟨w1,w2,w3,w4,w5,w6,w7⟩:=hI3.low x.id hP;have hM:=hI3.Ad;have lM:=AG hM rfl;refine AWp.Cj hw ?_;have hAr0:=AG hAr rfl;have hbx:=hf2.at hbx rfl Ap;have hb12:=hf2.at hb12 rfl Ap;have hB2:=hf2.at hB2 rfl Ap;have hOa2:=hf2.at hOa2 rfl Ap;have lb2:=AG hbx rfl;have lB2:=AG hB2 rfl;have lO2:=AG hOa2 rfl;refine Eu ?_;have hpl:=(S_ l l.length x.id (AR _)).2;rw[BL] at hpl;have hTr:List.take (pfR l x.id).length ((pfR l x.id).map Ao.A5)=(pfR l x.id).map Ao.A5:=Bi A6;have hOta:O≠ta x.id:=oo;have hAm:(((Dq (A9.take k) l).length+(pfR l x.id).length)*48<=140737488355328/\(Dq (A9.take k) l).length+(pfR l x.id).length<=4611686018427387904)=True:=eq_true oo;simp only[zF,seval,hM,lM,hlk,hbx,lb2,hB2,lB2,hOa2,lO2,hAr,hAr0,hON,hTk,hTr,BW,hAm];refine Hc ?_;have hfr:Fr s2 ((s2.set O .dead).set N (.box 4 (.agg [.d (.sl (A9.map An.A5)),.d (.sl (AZ.map BC.A5)),.d (.sl (AK.map B3.A5)),.A8 s2.length 0 ((Dq (A9.take k) l).length+(pfR l x.id).length)]))++[.arr 4 ((Dq (A9.take k) l).map Ao.A5++(pfR l x.id).map Ao.A5)]) [O,N]:=(((Fr.refl s2 [O,N]).set _ A6).set _ A6).trans (Fr.app _ _) A6;refine⟨(k+1,_),⟨AQ,hI3.ext hfr Ap hN,hfr.at hb12 rfl Ap,s2.length,oo,?_,?_⟩,AQ,AU rfl⟩
  ·exact nG
  simp only;rw[hsn,CE,A7 A6,CA];simp;rfl
 have hk2:k=A9.length:=oo;subst hk2;rw[BL] at *;simp only[zF,seval,(oo:¬(A9.length:Int)<A9.length)];refine AWp.seq (Bu rfl _ _ _ _ ?_);simp only[zF,seval,hB,lB,l1];refine Bu rfl _ _ _ _ ?_;simp only[zF,seval,hB,lB,l1,hb1];have hT:List.take (Dq A9 l).length ((Dq A9 l).map Ao.A5)=(Dq A9 l).map Ao.A5:=Bi A6;have hO1:O≠1:=oo;refine⟨_,_,Ot ?_ ?_,rfl,rfl⟩
 ·simp[AV.Db,EH,As hO1.symm,hOa,Blk.AY]
 simp[AV.A5,Cv,As hO1.symm,hOa,Blk.xs,hT,Av.A5]

structure Av.BZ(l:Av):Prop where
 A9:l.A9.length<=10
 AZ:l.AZ.length<=10
 AK:l.AK.length<=12
 parts:l.parts.length<=40
 A_:evN l.parts<=24
 IS:∀p∈l.parts,∀e∈p.A_,e.stack.length<2000000
def jW{l:List Ao}{p:Ao}(h:p∈l):p.A_.length<=evN l:=by
 induction l with
 | nil=>cases h
 | cons a r ih=>
  simp only[evN,Ci,VV] at ih ⊢;rcases Bw.1 h with rfl|h
  ·omega
  have:=ih h;omega
def Av.BZ.pk{l:Av}(h:l.BZ):∀p∈l.parts,p.GC:=λp hp=>⟨by have:=jW hp;have:=h.A_;omega,h.IS p hp⟩
def Av.BZ.toFew{l:Av}(h:l.BZ):l.GC:=⟨by have:=h.A9;omega,by have:=h.AZ;omega,by have:=h.AK;omega,by have:=h.parts;omega,h.pk⟩
def uU{p:List Ao}{x y:Ao}(h:y∈pfQ p x){e:EvT}(he:e∈y.A_):e∈x.A_\/∃q∈p,e∈q.A_:=by
 unfold pfQ at h;split at h
 ·rcases CH.1 h with h|h
  ·exact .inr ⟨y,h,he⟩
  rw[CG.1 h] at he;exact .inl he
 rename_i hn;have hp:p≠[]:=λe=>hn (.inr e);unfold KL at h;rcases CH.1 h with h|h
 ·exact .inr ⟨y,T9 p h,he⟩
 rw[CG.1 h] at he;rcases CH.1 he with he|he
 ·refine .inr ⟨_,?_,he⟩;have:=List.getLast_mem hp
  rwa [aU,TJ hp]
 exact .inl he
def Yf(l:List Ao):∀(k:Nat) (t:Int),k<=l.length->∀y∈pfR (l.take k) t,∀e∈y.A_,∃p∈l,e∈p.A_
 | 0,t,_,y,hy=>OC
 | k+1,t,h,y,hy=>by
  rw[X0 l k oo] at hy;intro e he;unfold Ae at hy;split at hy
  ·rcases uU hy he with he|⟨q,hq,he⟩
   ·exact⟨_,Ba oo,he⟩
   exact Yf l k _ oo q hq e he
  exact Yf l k t oo y hy e he
def Q0v{A9:List An}{l:List Ao}{y:Ao}(hy:y∈Dq A9 l):y.A_.length<=evN l/\∀e∈y.A_,∃p∈l,e∈p.A_:=by
 obtain⟨t,_,hy⟩:=HZ.1 hy;have h1:=(S_ l l.length t.id (AR _)).1;have h2:=Yf l l.length t.id (AR _);rw[BL] at h1 h2;exact⟨DC (jW hy) h1,h2 y hy⟩
def Fu(l:Av):Int:=if(JN l.A9 l.AZ l.AK l.parts).2=0/\Gz LO (Dq l.A9 l.parts) l.parts=false then 10 else(JN l.A9 l.AZ l.AK l.parts).2
def h_{A9:List An}{AZ:List BC}{AK:List B3}{l:List Ao}(h:(JN A9 AZ AK l).2=0):HH A9 AZ AK=0/\H4 A9 l=0/\(JN A9 AZ AK l).1=⟨A9,AZ,AK,Dq A9 l⟩:=by
 unfold JN at h ⊢;split at h
 ·exact Tc
 rename_i h1;rw[A7 h1];split at h
 ·rename_i h2;exact absurd h h2
 rename_i h2;rw[A7 h2];exact⟨Cz,DN,rfl⟩
def dC(l:Av)(h:l.BZ):AT prog Gl 179 [.d l.A5] (.d (.int .i64 (Fu l))):=by
 have hfew:=h.toFew;refine CN ?_;refine acS func179 ntmps179 results179 ?_;refine FC ?_;refine Ak (tq l.A9 l.AZ l.AK l.parts hfew.1 hfew.2.1 hfew.2.2.1 hfew.2.2.2.1 hfew.2.2.2.2 (by have:=h.A_;omega)) ?_;refine C0 ?_;refine DS (v:=.d (.bool (Gz LO (Dq l.A9 l.parts) l.parts))) (λhg=>?_) ?_
 ·obtain⟨e1,e2,e3⟩:=h_ (by simpa using hg);rw[e3];refine yz ⟨l.A9,l.AZ,l.AK,Dq l.A9 l.parts⟩ l ⟨hfew.1,hfew.2.1,hfew.2.2.1,?_,λp hp=>?_⟩ hfew rfl rfl rfl
  ·have h1:=We l.A9 l.parts l.A9.length (AR _);rw[BL] at h1;have:=RC h.A9 h.parts;exact Ky
  obtain⟨g1,g2⟩:=Q0v hp;refine⟨by have:=h.A_;omega,λe he=>?_⟩;obtain⟨q,hq,he⟩:=g2 e he;exact h.IS q hq e he
 refine C0 ?_;apply ifC.mk<;>intro hc
 ·simp only[C5,GR,K8] at hc;rw[Fu,AD hc];exact D0
 rw[Fu,A7 Dc];exact D0
def idD(p:Int×Int):D:=.agg [.int .i64 p.1,.int .i64 p.2]
def Qj(p:Ao):List (Int×Int):=(List.range p.A_.length).map λ(i:Nat)=>(p.A0,p.AB+i)
def Ah(l:List Ao):List (Int×Int):=l.flatMap Qj
def NS{l:Av}(h:Fu l=0):HH l.A9 l.AZ l.AK=0/\H4 l.A9 l.parts=0/\Gz LO (Dq l.A9 l.parts) l.parts=true:=by
 unfold Fu at h;split at h
 ·cases h
 rename_i hn;obtain⟨a,b,_⟩:=h_ h;refine⟨a,b,?_⟩;cases e:Gz LO (Dq l.A9 l.parts) l.parts with
 | true=>rfl
 | false=>exact absurd ⟨h,e⟩ hn
def XX(l:List Ao)(k:Nat)(h:k<l.length):Ah (l.take (k+1))=Ah (l.take k)++Qj (l.getD k default):=by
 rw[CY l k h,Ah,Kr];simp[Ah]
def QX(l:List Ao):(Ah l).length=evN l:=by
 induction l with
 | nil=>rfl
 | cons a r ih=>rw[Ah,IU,Bb];simp only[Ah] at ih;rw[ih];simp[evN,Qj]
def JC(p:Ao)(j:Nat):List (Int×Int):=(List.range j).map λ(i:Nat)=>(p.A0,p.AB+i)
def sD(p:Ao)(j:Nat):JC p (j+1)=JC p j++[(p.A0,p.AB+j)]:=by simp[JC,Ny]
def ko(l:Av)(h:l.BZ):AT prog Gl 147 [.d l.A5] (.d (.sl ((if Fu l≠0 then[] else Ah l.parts).map idD))):=by
 refine CN ?_;refine acS func147 ntmps147 results147 ?_;refine FC ?_;refine Ak (dC l h) ?_;refine C0 ?_;apply ifC.mk<;>intro c1
 ·rw[AD Ia];refine⟨_,_,Hi rfl rfl,rfl,rfl⟩
 have c1:Fu l=0:=Ia;rw[A7 Ia];have hpk:=λk hk=>P1 (OL (NS c1).2.1 k hk);have hev:=h.A_;have hlp:=h.parts;generalize l.parts=P at *;refine Bm P.length (λk=>[(3,.A8 0 0 (Ah (P.take k)).length),(11,.d (.sl (P.map Ao.A5))),(12,(P.length:Int)),(13,(k:Int))]) (λk=>[.arr 2 ((Ah (P.take k)).map idD)]) (λ_=>True) trivial ?_ ?_
 ·refine(Eb 3 2 rfl).trans (BA [] [1] rfl A6 rfl rfl)
 intro k _ hk;by_cases hh:k<P.length
 ·have hsn:=XX P k hh;have hln:=QX (P.take k);have hel:=OM P k;have hp:=hpk k hh;have hen:=Rs P k hh;have hel2:=OM P (k+1);rw[hsn];generalize Ah (P.take k)=out at *;generalize hxx:P.getD k default=x at *;simp only[zF,seval,(oo:(k:Int)<P.length),hh,Af _ _ _ (oo:k<P.length),hxx];refine Ag ?_;refine Bm x.A_.length (λj=>[(3,.A8 0 0 (out++JC x j).length),(5,.ptr 1 0),(11,.d (.sl (P.map Ao.A5))),(12,(P.length:Int)),(13,(k:Int)),(19,(x.A_.length:Int)),(20,(j:Int))]) (λj=>[.arr 2 ((out++JC x j).map idD),.box 4 (.d x.A5)]) (λ_=>True) trivial ?_ ?_
  ·refine BA [] [0,1] rfl A6 ?_ ?_
   ·simp[JC];rfl
   simp[JC];rfl
  intro j _ hj;have hjl:(JC x j).length=j:=by simp[JC]
  by_cases h2:j<x.A_.length
  ·have hst:(out++JC x (j+1))=(out++JC x j)++[(x.A0,x.AB+j)]:=by rw[sD,MV]
   have hol:(out++JC x j).length<=48:=by rw[Bb];omega
   rw[hst];generalize out++JC x j=o2 at *;simp only[zF,seval,(oo:(j:Int)<x.A_.length),h2,a_w (x.AB+(j:Int)),BW,(oo:o2.length+1<=4611686018427387904),(oo:(o2.length+1)*16<=140737488355328),a_w ((j:Int)+1)];refine Ag ?_;refine BA [] [3,1] rfl A6 ?_ ?_
   ·rfl
   rw[CA,show List.take o2.length (o2.map idD)=o2.map idD from Bi A6];rfl
  have hj2:j=x.A_.length:=oo;subst hj2;simp only[zF,seval,(oo:¬(x.A_.length:Int)<x.A_.length),a_w ((k:Int)+1)];exact Kz
 have hk2:k=P.length:=oo;subst hk2;simp only[zF,seval,(oo:¬(P.length:Int)<P.length)];rw[BL];refine Pp ?_;simp only[zF,seval,HQ]
 done

def AI(l:List Ao):List EvT:=l.flatMap λp=>p.A_
def yA(l:List Ao)(k:Nat)(h:k<l.length):AI (l.take (k+1))=AI (l.take k)++(l.getD k default).A_:=by
 rw[CY l k h,AI,Kr];simp[AI]
def NU(l:List Ao):(AI l).length=evN l:=by
 induction l with
 | nil=>rfl
 | cons a r ih=>rw[AI,IU,Bb];simp only[AI] at ih;rw[ih];simp[evN]
def pc(l:Av):List AV:=[.d (.sl (l.A9.map An.A5)),.d (.sl (l.AZ.map BC.A5)),.d (.sl (l.AK.map B3.A5)),.d (.sl (l.parts.map Ao.A5))]
def Jz(ids:List (Int×Int)):Nat->Aw->Option AV
 | 0=>λ_=>none
 | k+1=>BO (Jz ids k) (.p (ids.getD k default).1 (ids.getD k default).2) (.d (.int .i64 (k:Nat)))
def isS(m:Int)(y:EvT):Bool:=y.kind==6&&y.n==m
def Zs(e:List EvT)(k:Nat):Bool:=(e.getD k default).kind==6&&(e.take k).any (isS (e.getD k default).n)
def Sg(e:List EvT):Bool:=(List.range e.length).any (Zs e)
def Kn(e:List EvT)(k:Nat):Aw->Option AV:=λkey=>match key with|.i m=>if(e.take k).any (isS m)=true then some (.d (.int .i64 1)) else none|_=>none
def zw(e:List EvT)(k:Nat)(h:k<e.length):Kn e (k+1)=if(e.getD k default).kind=6 then BO (Kn e k) (.i (e.getD k default).n) (.d (.int .i64 1)) else Kn e k:=by
 funext key;have hs:=λm=>K_ (isS m) e k h;generalize e.getD k default=x at *;cases key with
 | i m=>
  have hx:isS m x=(x.kind==6&&x.n==m):=rfl;have e1:Kn e (k+1) (.i m)=if((e.take k).any (isS m)||isS m x)=true then some (.d (.int .i64 1)) else none:=by rw[<-hs m];rfl
  have e0:Kn e k (.i m)=if(e.take k).any (isS m)=true then some (.d (.int .i64 1)) else none:=rfl;rw[e1,hx];by_cases h6:x.kind=6
  ·rw[AD h6,BO,e0];by_cases hm:x.n=m
   ·subst hm;rw[AD (by simp[h6]),AD rfl]
   have:(x.n==m)=false:=by rw[T6];exact hm
   rw[this,aK,Le,A7 (show ¬Aw.i m=Aw.i x.n from λhh=>hm (Aw.i.inj hh).symm)]
  rw[A7 h6,e0];have:(x.kind==6)=false:=a_;rw[this,JV,Le]
 | p _ _=>split<;>simp[Kn,BO]
 | s _=>split<;>simp[Kn,BO]
def Ip(l:Av):Int:=if Fu l≠0 then Fu l else if Sg (AI l.parts)=true then 4 else 0
def DY(l:Av)(M:Nat)(e x:AV):Blk:=.box 8 (.agg (pc l++[.d (.sl ((Ah l.parts).map idD)),.AF M,e,x]))
def FJ(l:Av)(M:Nat)(e x:AV):DY l M e x=.box 8 (.agg [.d (.sl (l.A9.map An.A5)),.d (.sl (l.AZ.map BC.A5)),.d (.sl (l.AK.map B3.A5)),.d (.sl (l.parts.map Ao.A5)),.d (.sl ((Ah l.parts).map idD)),.AF M,e,x]):=rfl
def exS(l:Av)(S:Sto)(a b:Bool):Sto:=if a=true then S++[.box 4 (.d l.A5),.map (some .u8) λ_=>none,DY l (S.length+1) .AA .AA] else if b=true then S++[.box 4 (.d l.A5),.map (some .u8) λ_=>none] else S++[.box 4 (.d l.A5)]
def iS(l:Av)(S:Sto)(a b:Bool):A1 (exS l S a b) S.length=.box 4 (.d l.A5):=by
 unfold exS;split
 ·exact bL
 split<;>rw[CE,A7 oo,FA]<;>rfl
def kg(l:Av)(S:Sto)(b:Bool):exS l S true b=S++[.box 4 (.d l.A5),.map (some .u8) λ_=>none,DY l (S.length+1) .AA .AA]:=rfl
def iT(l:Av)(S:Sto):exS l S false true=S++[.box 4 (.d l.A5),.map (some .u8) λ_=>none]:=rfl
def Q6h(l:Av)(S:Sto):exS l S false false=S++[.box 4 (.d l.A5)]:=rfl
structure EF(σ:Sto)(w M q:Nat)(l:Av)(K:Nat)(nx:Nat->List Int)(A:Nat->Nat):Prop where
 box:A1 σ w=DY l M (.d (.sl ((AI l.parts).map EvT.A5))) (.A8 q 0 (AI l.parts).length)
 Ad:A1 σ M=.map (some .u8) (Jz (Ah l.parts) (AI l.parts).length)
 row:A1 σ q=.var 1 ((List.range (AI l.parts).length).map λi=>.A8 (A i) 0 (nx i).length)
 cell:∀i,i<(AI l.parts).length->∃xs,A1 σ (A i)=.arr 1 xs/\xs.take (nx i).length=(nx i).map (.int .i64)/\(K<=i->xs.length=(nx i).length)
 inj:∀i j,i<(AI l.parts).length->j<(AI l.parts).length->A i=A j->i=j
def jj(m:Nat)(hm:m<=100000):P7 prog 98 (.d (.int .i64 (m:Int))) (.d (.int .i64 (m:Int))):=by
 refine(show _/\_/\_/\(0:Int)<=m/\(m:Int)<=m/\((24:Nat):Int)*(m:Int)<=281474976710656/\(m:Int)<=_ from⟨rfl,rfl,rfl,?_,?_,?_,?_⟩)<;>omega
def fJ(S:Sto)(m:Nat):mkS prog S 98 (.d (.int .i64 (m:Int)))=S++[.arr 1 (List.replicate m (.raw (.slice none 0 0)))]:=rfl
def gS(m:Nat):((List.replicate m (D.raw (.slice none 0 0))).flatMap D.cells).map JO=List.replicate m .AA:=by
 induction m with
 | zero=>rfl
 | succ m ih=>rw[List.replicate_succ,IU,CA,ih];rfl
def Qe1(l:Av)(h:l.BZ)(Z:Sto):AW prog Gl 151 [.d l.A5] Z (λr s=>if Ip l≠0 then r=.Aj [.d (.raw (.pointer none)),(Ip l:Int)]/\Fr Z s [] else ∃w M q A,r=.Aj [.ptr w 0,(0:Int)]/\Z.length<=w/\Z.length<=M/\Z.length<=q/\(∀i,i<(AI l.parts).length->Z.length<=A i)/\Fr Z s []/\EF s w M q l 0 (λ_=>[]) A):=by
 refine Fv func151 rfl rfl (by simp[ntmps151]) ?_;simp only[ntmps151,results151,B6,C6];refine Pl ?_;refine Ak (dC l h) ?_;refine C0 ?_;apply ifC.mk<;>intro c1
 ·have:Ip l=Fu l:=by rw[Ip,AD Ia]
  rw[this];refine Ln ?_;rw[AD Ia];exact⟨rfl,Fr.app _ _⟩
 have c1:Fu l=0:=Ia;have eI:(if Fu l≠0 then[] else Ah l.parts)=Ah l.parts:=by rw[A7 Ia]
 have hId:=ko (Gl:=Gl) l h;rw[eI] at hId;refine AWp.seq (NM rfl (NJ (Θ:=Nat)
  (λ_ L=>[(17,onV (L 0) (.d l.A5)),(18,onV (L 1) (.d l.A5)),(19,onV (L 2) (.d (.sl ((Ah l.parts).map idD)))),(20,onV (L 3) (.AF (Z.length+1))),(21,onV (L 4) (.agg [.d (.sl (l.A9.map An.A5)),.d (.sl (l.AZ.map BC.A5)),.d (.sl (l.AK.map B3.A5)),.d (.sl (l.parts.map Ao.A5)),.d (.sl ((Ah l.parts).map idD)),.AF (Z.length+1),.AA,.AA])),(22,onV (L 5) (.ptr (Z.length+2) 0)),(5,onV (L 6) (.ptr (Z.length+2) 0)),(1,.ptr Z.length 0),(2,.d (.raw (.pointer none))),(3,(0:Int))])
  (λ_ L=>exS l Z (L 5) (L 3))
  (λ_ L=>True) Ax ?_ ?_ ?_))
 ·exact Td
 ·simp only[KO];refine⟨?_,?_,?_,?_,?_,?_,?_,trivial⟩
  all_goals (rintro H L o1 hc hL hp;(try simp only[EM,Region.binds,frB] at hp);(try simp only[EU,Nat.reduceAdd] at hL);simp only[zF,seval,hL,hp,Ef,Er,D3,FG])
  all_goals have a5:L 5=true->L 3=true:=λhh=>Da (hc 4 _ rfl (Da (hc 5 _ rfl hh) 4 Ax)) 3 Ax
  case refine_1=>
   simp only[zF,seval,iS];exact FO
  case refine_2=>
   simp only[zF,seval,iS];exact FO
  case refine_3=>
   refine Ak hId ?_;refine C0 ?_;exact FO
  case refine_4=>
   rw[DO hL a5];simp only[zF,seval,Q6h,iT];exact FO
  case refine_6=>
   have y3:L 3=true:=Da (hc 4 _ rfl hp) 3 Ax;rw[y3];simp only[zF,seval,iT,kg];exact FO
  all_goals exact⟨0,AU rfl⟩
 rintro H -;simp only[zF,seval,kg];have hbw:=(show A1 (Z++[.box 4 (.d l.A5),.map (some .u8) λ_=>none,DY l (Z.length+1) .AA .AA]) (Z.length+2)=DY l (Z.length+1) .AA .AA from Mb);have hbM:=(show A1 (Z++[.box 4 (.d l.A5),.map (some .u8) λ_=>none,DY l (Z.length+1) .AA .AA]) (Z.length+1)=.map (some .u8) λ_=>none from Mb);have hb1:=(show A1 (Z++[.box 4 (.d l.A5),.map (some .u8) λ_=>none,DY l (Z.length+1) .AA .AA]) Z.length=.box 4 (.d l.A5) from OD);have hfr:Fr Z (Z++[.box 4 (.d l.A5),.map (some .u8) λ_=>none,DY l (Z.length+1) .AA .AA]) []:=Fr.app _ _;have hlen:(Z++[Blk.box 4 (.d l.A5),.map (some .u8) λ_=>none,DY l (Z.length+1) .AA .AA]).length=Z.length+3:=A6;generalize hw:Z.length+2=w at *;generalize hM:Z.length+1=M at *;generalize (Z++[.box 4 (.d l.A5),.map (some .u8) λ_=>none,DY l M .AA .AA])=s at *;have lb1:=AG hb1 rfl;have lbw:=AG hbw rfl;refine Hd ?_;simp only[zF,seval,hb1,lb1];refine Gg ?_;have hfr2:Fr s ((s++[Blk.arr 6 []]).set w (.box 8 (.agg ([.d (.sl (l.A9.map An.A5)),.d (.sl (l.AZ.map BC.A5)),.d (.sl (l.AK.map B3.A5)),.d (.sl (l.parts.map Ao.A5)),.d (.sl ((Ah l.parts).map idD)),.AF M,AV.AA,AV.AA].set 6 (.A8 s.length 0 0))))) [w]:=((Fr.app s _).mono (λj hj=>RQ)).set _ A6;refine Fm (τ:=Nat×Sto) (λy=>[(26,(y.1:Int)),(25,(l.parts.length:Int)),(24,.d (.sl (l.parts.map Ao.A5))),(5,.ptr w 0),(2,.d (.raw (.pointer none))),(3,(0:Int))]) (λy=>y.2)
  (λy=>y.1<=l.parts.length/\∃E,w<E/\A1 y.2 w=DY l M (.A8 E 0 (AI (l.parts.take y.1)).length) .AA/\A1 y.2 E=.arr 6 ((AI (l.parts.take y.1)).map EvT.A5)/\A1 y.2 M=.map (some .u8) (λ_=>none)/\Fr Z y.2 []) (λy=>l.parts.length-y.1) (0,_)
  ⟨Bq _,s.length,oo,?_,?_,?_,?_⟩ ((QV w 6 6 oo (hbw.trans (FJ _ _ _ _)) rfl A6 lbw).trans (AU rfl)) ?_
 ·simp only;rw[BX Ap];rfl
 ·simp only;rw[As oo,Cd];rfl
 ·exact hfr2.at hbM rfl Ap
 ·exact hfr.trans hfr2 Ap
 clear hfr hfr2 hbw hbM hb1 lb1 lbw hlen;rintro⟨k,s⟩ ⟨hk,E,hE,hbw,hbE,hbM,hfr⟩;simp only at hk hE hbw hbE hbM hfr;have lbw:=AG hbw rfl;have lbE:=AG hbE rfl;have hln:=NU (l.parts.take k);have hel:=OM l.parts k;have hev:=h.A_;have hlp:=h.parts;refine Cf ?_;by_cases hh:k<l.parts.length
 ·have hsn:=yA l.parts k hh;have hen:=Rs l.parts k hh;have hel2:=OM l.parts (k+1);generalize hxx:l.parts.getD k default=x at *;simp only[zF,seval,(oo:(k:Int)<l.parts.length)];refine Jf ?_;simp only[zF,seval,(oo:(k:Int)<l.parts.length),hh,Af _ _ _ (oo:k<l.parts.length),hxx];rw[FJ] at hbw;have hwE:w≠E:=oo;have hTk:List.take (AI (l.parts.take k)).length ((AI (l.parts.take k)).map EvT.A5)=(AI (l.parts.take k)).map EvT.A5:=Bi A6;refine Eu ?_;simp only[zF,seval,hbw,lbw,hbE,lbE,hwE,hwE.symm,hTk,BW];refine⟨.inl Ax,?_⟩;refine⟨oo,?_⟩;refine Hc ?_;have hf2:Fr s ((s.set E .dead).set w (DY l M (.A8 (s.length+1) 0 ((AI (l.parts.take k)).length+x.A_.length)) .AA)++[.box 4 (.d x.A5),.arr 6 ((AI (l.parts.take k)).map EvT.A5++x.A_.map EvT.A5)]) [E,w]:=(((Fr.refl s [E,w]).set _ A6).set _ A6).trans (Fr.app _ _) A6;refine⟨(k+1,_),⟨AQ,s.length+1,oo,?_,?_,hf2.at hbM rfl Ap,hfr.trans hf2 Ap⟩,AQ,AU rfl⟩
  ·exact nG
  simp only;rw[hsn,CE,A7 A6];simp;rfl
 have hk2:k=l.parts.length:=oo;subst hk2;rw[BL] at hbw hbE hln;simp only[zF,seval,(oo:¬(l.parts.length:Int)<l.parts.length)];rw[FJ] at hbw;refine Cu ?_;refine AWp.Cj (Y7 w 6 E 0 (AI l.parts).length 6 hbw lbw rfl A6 hbE) ?_;have hTk:List.take (AI l.parts).length (List.drop 0 ((AI l.parts).map EvT.A5))=(AI l.parts).map EvT.A5:=Bi A6;rw[hTk];have hbw2:A1 ((s.set E (.BS 6 ((AI l.parts).map EvT.A5))).set w (DY l M (.d (.sl ((AI l.parts).map EvT.A5))) .AA)) w=DY l M (.d (.sl ((AI l.parts).map EvT.A5))) .AA:=BX Ap;have hf2:Fr s ((s.set E (.BS 6 ((AI l.parts).map EvT.A5))).set w (DY l M (.d (.sl ((AI l.parts).map EvT.A5))) .AA)) [E,w]:=((Fr.refl s [E,w]).set _ A6).set _ A6;have hbM2:=hf2.at hbM rfl Ap;have hfr2:=hfr.trans hf2 Ap;show AWp _ _ _ _ _ _ ((s.set E (.BS 6 ((AI l.parts).map EvT.A5))).set w (DY l M (.d (.sl ((AI l.parts).map EvT.A5))) .AA)) _;have hl2:((s.set E (.BS 6 ((AI l.parts).map EvT.A5))).set w (DY l M (.d (.sl ((AI l.parts).map EvT.A5))) .AA)).length=s.length:=A6;generalize ((s.set E (.BS 6 ((AI l.parts).map EvT.A5))).set w (DY l M (.d (.sl ((AI l.parts).map EvT.A5))) .AA))=s2 at *;clear hf2 hfr hbM hbw hbE lbE hTk;have lbw2:=AG hbw2 rfl;refine Cu ?_;have hlI:(Ah l.parts).length=(AI l.parts).length:=Ma;have hbw3:A1 (s2++[.map (some .i64) λ_=>none]) w=_:=(BB lbw2).trans hbw2;have hbM3:=(Fr.app s2 [.map (some .i64) λ_=>none]).at hbM2 rfl A6;have hfr3:=hfr2.trans (Fr.app s2 [.map (some .i64) λ_=>none]) A6;have hbS:=Cd (σ:=s2) (B:=.map (some .i64) λ_=>none);have hl3:(s2++[Blk.map (some .i64) λ_=>none]).length=s2.length+1:=A6;generalize (s2++[Blk.map (some .i64) λ_=>none])=s3 at *;have hSw:w<s2.length:=lbw2;generalize s2.length=S at *;clear hbw2 hbM2 hfr2 lbw2 hl2 lbw;have lb3:=AG hbw3 rfl;have hbw4:=hbw3;rw[FJ] at hbw4;refine Hd ?_;simp only[zF,seval,hbw4,lb3];refine Gg ?_;have e0:Ip l=if Sg (AI l.parts)=true then 4 else 0:=by rw[Ip,A7 Ia]
 have hev24:(AI l.parts).length<=24:=by rw[NU];exact hev
 generalize hEE:AI l.parts=EV at *;generalize hII:Ah l.parts=IDS at *;refine Fm (τ:=Nat×Sto) (λy=>[(47,(y.1:Int)),(46,(IDS.length:Int)),(45,.d (.sl (IDS.map idD))),(8,.AF S),(5,.ptr w 0),(2,.d (.raw (.pointer none))),(3,(0:Int))]) (λy=>y.2)
  (λy=>y.1<=EV.length/\(∀j,j<y.1->Zs EV j=false)/\A1 y.2 w=DY l M (.d (.sl (EV.map EvT.A5))) .AA/\A1 y.2 S=.map (some .i64) (Kn EV y.1)/\A1 y.2 M=.map (some .u8) (Jz IDS y.1)/\Fr Z y.2 []) (λy=>EV.length-y.1) (0,_)
  ⟨Bq _,λj hj=>absurd hj (F9 _),hbw3,?_,hbM3,hfr3⟩ (AU rfl) ?_
 ·simp only;rw[hbS];congr 1;funext key;cases key<;>simp[Kn]
 clear hbw3 hbw4 hbM3 hbS hfr3 lb3 hl3;rintro⟨k,s⟩ ⟨hk,hdup,hbw,hbS,hbM,hfr⟩;simp only at hk hdup hbw hbS hbM hfr;rw[FJ] at hbw;have lbw:=AG hbw rfl;have lbS:=AG hbS rfl;have lbM:=AG hbM rfl;refine Cf ?_;by_cases hh:k<EV.length
 ·have hh2:k<IDS.length:=oo;have hst:=zw EV k hh;have hix:Jz IDS (k+1)=BO (Jz IDS k) (.p (IDS.getD k default).1 (IDS.getD k default).2) (.d (.int .i64 (k:Nat))):=rfl;have hda:Zs EV k=((EV.getD k default).kind==6&&(EV.take k).any (isS (EV.getD k default).n)):=rfl;have hsm:∀m,Kn EV k (.i m)=if(EV.take k).any (isS m)=true then some (.d (.int .i64 1)) else none:=λ_=>rfl;generalize hxx:EV.getD k default=x at *;generalize hyy:IDS.getD k default=y at *;simp only[zF,seval,(oo:(k:Int)<IDS.length)];refine Jf ?_;simp only[zF,seval,(oo:(k:Int)<IDS.length),hh2,Af _ _ _ (oo:k<IDS.length),hyy,idD];refine Cf ?_;simp only[zF,seval,hbw,lbw,hbM,lbM];refine⟨.inl Ax,?_⟩;have hwM:w≠M:=oo;have hSM:S≠M:=oo;refine Cf ?_;simp only[zF,seval,hbw,lbw,hbM,lbM,hwM,hSM,hwM.symm,hSM.symm,(oo:(k:Int)<EV.length),hh,Af _ _ _ (oo:k<EV.length),hxx];refine Cu ?_;have hf2:Fr s (s.set M (.map (some .u8) (BO (Jz IDS k) (.p y.1 y.2) (.d (.int .i64 (k:Nat)))))++[.box 2 (.d (.agg [.int .i64 y.1,.int .i64 y.2])),.box 6 (.d x.A5)]) [M]:=((Fr.refl s [M]).set _ A6).trans (Fr.app _ _) A6;by_cases h6:x.kind=6
  ·rw[h6] at hst hda;rw[AD rfl] at hst;simp only[zF,seval,h6];refine AWp.Dl rfl rfl ?_;refine Hd ?_;have hsm:=hsm x.n;cases hany:(EV.take k).any (isS x.n) with
   | true=>
    rw[hany] at hsm;simp only[zF,seval,hbS,lbS,hwM,hSM,hwM.symm,hSM.symm,hsm];refine GV ?_;have hdt:Sg EV=true:=K6.2 ⟨k,CI.2 hh,by rw[hda,hany];rfl⟩;rw[hdt,AD rfl] at e0;refine Ln ?_;rw[e0,AD D7];exact⟨rfl,hfr.trans hf2 Ap⟩
   | false=>
    rw[hany] at hsm;simp only[zF,seval,hbS,lbS,hwM,hSM,hwM.symm,hSM.symm,hsm];refine GV ?_;refine Eu ?_;simp only[zF,seval,hbS,lbS,hwM,hSM,hwM.symm,hSM.symm];refine Hc ?_;have hf3:Fr s ((s.set M (.map (some .u8) (BO (Jz IDS k) (.p y.1 y.2) (.d (.int .i64 (k:Nat)))))).set S (.map (some .i64) (BO (Kn EV k) (.i x.n) (.d (.int .i64 1))))++[.box 2 (.d (.agg [.int .i64 y.1,.int .i64 y.2])),.box 6 (.d x.A5)]) [M,S]:=(((Fr.refl s [M,S]).set _ A6).set _ A6).trans (Fr.app _ _) A6;refine⟨(k+1,_),⟨AQ,?_,hf3.at hbw rfl Ap,?_,?_,hfr.trans hf3 Ap⟩,AQ,AU rfl⟩
    ·intro j hj;by_cases e:j=k
     ·rw[e,hda,hany,aK]
     exact hdup j ab
    ·simp only;rw[hst,BB Ap,BX Ap]
    simp only;rw[hix,BB Ap,As hSM,BX oo]
  have h6b:(x.kind==6)=false:=a_;rw[A7 h6] at hst;rw[h6b] at hda ⊢;refine Pk ?_;refine Hc ?_;refine⟨(k+1,_),⟨AQ,?_,hf2.at hbw rfl Ap,?_,?_,hfr.trans hf2 Ap⟩,AQ,AU rfl⟩
  ·intro j hj;by_cases e:j=k
   ·rw[e,hda,JV]
   exact hdup j ab
  ·simp only;rw[hst];exact hf2.at hbS rfl Ap
  simp only;rw[hix,BB Ap,BX oo]
 have hk2:k=EV.length:=oo;subst hk2;simp only[zF,seval,(oo:¬(EV.length:Int)<IDS.length)];have hd0:Sg EV=false:=by
  unfold Sg;rw[R7];intro j hj;rw[hdup j (CI.1 hj)];simp
 rw[hd0,A7 A6] at e0;rw[e0];refine Cf ?_;simp only[zF,seval,hbw,lbw,hbM,lbM];have hmk:=jj EV.length oo;have hms:=λT=>fJ T EV.length;have hlI2:(Ah l.parts).length=EV.length:=by rw[hII];exact hlI
 have hsw:w≠s.length:=oo;refine Eu ?_;simp only[zF,seval,hbw,lbw,hbM,lbM,hlI2,hmk,hms];have hf2:Fr s (s.set w (DY l M (.d (.sl (EV.map EvT.A5))) (.A8 s.length 0 EV.length))++[Blk.arr 1 (List.replicate EV.length (.raw (.slice none 0 0)))]) [w]:=((Fr.refl s [w]).set _ A6).trans (Fr.app _ _) A6;have hq:A1 (s.set w (DY l M (.d (.sl (EV.map EvT.A5))) (.A8 s.length 0 EV.length))++[Blk.arr 1 (List.replicate EV.length (.raw (.slice none 0 0)))]) s.length=.arr 1 (List.replicate EV.length (.raw (.slice none 0 0))):=by rw[CE,A7 A6,BH,FA];rfl
 have hv:=λ(n:Nat) (env:Env)=>X9 (n:=n) (m:=Z.length) (env:=env) s.length hq Nat.one_pos (λx hx=>by rw[Vp hx];rfl);rw[gS] at hv;have hq2:A1 ((s.set w (DY l M (.d (.sl (EV.map EvT.A5))) (.A8 s.length 0 EV.length))++[Blk.arr 1 (List.replicate EV.length (.raw (.slice none 0 0)))]).set s.length (.var 1 (List.replicate EV.length .AA))) s.length=.var 1 (List.replicate EV.length .AA):=BX A6;have hv2:=λ(n:Nat) (env:Env)=>(hv n env).trans (eS (n:=n) (m:=Z.length) (env:=env) s.length 1 EV.length (by have:=hfr.1;simp;omega) hq2);have hl5:((s.set w (DY l M (.d (.sl (EV.map EvT.A5))) (.A8 s.length 0 EV.length))++[Blk.arr 1 (List.replicate EV.length (.raw (.slice none 0 0)))]).set s.length (.var 1 (List.replicate EV.length .AA))).length=s.length+1:=A6;have hf5:Fr s ((s.set w (DY l M (.d (.sl (EV.map EvT.A5))) (.A8 s.length 0 EV.length))++[Blk.arr 1 (List.replicate EV.length (.raw (.slice none 0 0)))]).set s.length (.var 1 (List.replicate EV.length .AA))) [w]:=hf2.trans ((Fr.refl _ [s.length]).set _ A6) A6;have hbw5:A1 ((s.set w (DY l M (.d (.sl (EV.map EvT.A5))) (.A8 s.length 0 EV.length))++[Blk.arr 1 (List.replicate EV.length (.raw (.slice none 0 0)))]).set s.length (.var 1 (List.replicate EV.length .AA))) w=DY l M (.d (.sl (EV.map EvT.A5))) (.A8 s.length 0 EV.length):=by rw[As oo,BB Ap,BX lbw]
 have hbM5:=hf5.at hbM rfl Ap;generalize ((s.set w (DY l M (.d (.sl (EV.map EvT.A5))) (.A8 s.length 0 EV.length))++[Blk.arr 1 (List.replicate EV.length (.raw (.slice none 0 0)))]).set s.length (.var 1 (List.replicate EV.length .AA)))=s5 at *;have hf6:Fr s5 ((s5++List.replicate EV.length (Blk.arr 1 [])).set s.length (.var 1 ((List.range EV.length).map λi=>.A8 (s5.length+i) 0 0))) [s.length]:=((Fr.app s5 _).mono (λj hj=>RQ)).set _ A6;have hfs:=hfr.1;refine⟨_,_,gG hv2,w,M,s.length,λi=>s5.length+i,rfl,oo,oo,oo,λi _=>by(show Z.length<=s5.length+i;omega),?_,?_,?_,?_,?_,?_⟩
 ·exact(hfr.trans hf5 Ap).trans hf6 Ap
 ·rw[hEE];exact hf6.at hbw5 rfl Ap
 ·rw[hEE,hII];exact hf6.at hbM5 rfl Ap
 ·rw[hEE];exact BX Ap
 ·intro i hi;rw[hEE] at hi;refine⟨[],?_,rfl,λ_=>rfl⟩;rw[As oo,CE,A7 oo,EB];show List.getD _ _ _=_;simp[hi]
 intro i j hi hj e;omega

def updQ{α:Type}(f:Nat->α)(i:Nat)(v:α):Nat->α:=λj=>if j=i then v else f j
def EF.Ev{S s:Sto}{w M q:Nat}{l:Av}{K:Nat}{nx:Nat->List Int}{A:Nat->Nat}(h:EF S w M q l K nx A){i:Nat}(hi:i<(AI l.parts).length)(r:List Int){X:Nat}(hf:Fr S s [q,A i])(hX:S.length<=X\/X=A i)
  (hq:A1 s q=.var 1 (((List.range (AI l.parts).length).map λi=>AV.A8 (A i) 0 (nx i).length).set i (.A8 X 0 r.length))) (hr:∃xs,A1 s X=.arr 1 xs/\xs.take r.length=r.map (.int .i64)/\(K<=i->xs.length=r.length)):EF s w M q l K (updQ nx i r) (updQ A i X):=by
 obtain⟨xs0,hAi,_⟩:=h.cell i hi;have hlt:∀j,j<(AI l.parts).length->A j<S.length:=λj hj=>by obtain⟨xs,hx,_⟩:=h.cell j hj;exact AG hx rfl
 refine⟨hf.at h.box rfl ?_,hf.at h.Ad rfl ?_,?_,λj hj=>?_,λa b ha hb e=>?_⟩
 ·simp only[Bw,En,E6,FW];exact⟨AX h.box h.row OB,AX h.box hAi OB⟩
 ·simp only[Bw,En,E6,FW];exact⟨AX h.Ad h.row A6,AX h.Ad hAi A6⟩
 ·rw[hq];congr 1;apply Gf;intro j;rcases B9 j (AI l.parts).length with hj|hj
  ·rw[H_];by_cases e:i=j
   ·subst e;simp[hj,updQ]
   have e':¬j=i:=λh=>e h.symm;rw[A7 e];simp[hj,updQ,e']
  rw[Bt (by simp;exact hj),Bt (by simp;exact hj)]
 ·by_cases e:j=i
  ·subst e;simp only[updQ,By];exact hr
  simp only[updQ,A7 e];obtain⟨xs,hx,hx2⟩:=h.cell j hj;refine⟨xs,hf.at hx rfl ?_,hx2⟩;simp only[Bw,En,E6,FW];exact⟨AX hx h.row A6,λhh=>e (h.inj j i hj hi hh)⟩
 simp only[updQ] at e;have ha':=hlt a ha;have hb':=hlt b hb;rcases hX with hX|hX
 ·split at e<;>split at e
  ·omega
  ·omega
  ·omega
  exact h.inj a b ha hb e
 subst hX;split at e<;>split at e
 ·omega
 ·rename_i h1 h2;exact absurd (h.inj i b hi hb e) (λhh=>h2 hh.symm)
 ·rename_i h1 h2;exact absurd (h.inj a i ha hi e) h1
 exact h.inj a b ha hb e
def JP(e:List EvT):Nat->Int->Option Nat
 | 0=>λ_=>none
 | k+1=>if(e.getD k default).kind=6 then Ae (JP e k) (e.getD k default).n (some k) else JP e k
def JQ(e:List EvT)(k:Nat):Aw->Option AV:=λkey=>match key with|.i m=>(JP e k m).map λi=>.d (.int .i64 (i:Nat))|_=>none
def zu(e:List EvT)(k:Nat):JQ e (k+1)=if(e.getD k default).kind=6 then BO (JQ e k) (.i (e.getD k default).n) (.d (.int .i64 (k:Nat))) else JQ e k:=by
 funext key;cases key with
 | i m=>
  simp only[JQ,JP];split
  ·simp only[Ae,BO,JQ];by_cases hm:m=(e.getD k default).n
   ·subst hm;simp
   rw[A7 hm,A7 (λhh=>hm (by cases hh;rfl))]
  rfl
 | p _ _=>split<;>simp[JQ,BO]
 | s _=>split<;>simp[JQ,BO]
def Yn(e:List EvT):∀(k:Nat) (m:Int) (j:Nat),JP e k m=some j->j<k
 | 0,m,j,h=>D8
 | k+1,m,j,h=>by
  unfold JP at h;split at h
  ·unfold Ae at h;split at h
   ·cases h;omega
   have:=Yn e k m j h;omega
  have:=Yn e k m j h;omega
def edA(ids:List (Int×Int))(i:Nat)(nx:Nat->List Int):Nat->List Int:=if 0<i/\(ids.getD (i-1) default).1=(ids.getD i default).1 then updQ nx (i-1) (nx (i-1)++[(i:Int)]) else nx
def edB(e:List EvT)(i:Nat)(nx:Nat->List Int):Nat->List Int:=match JP e e.length (e.getD i default).n with
 | some j=>if(e.getD i default).kind=7 then updQ nx j (nx j++[(i:Int)]) else nx
 | none=>nx
def edF(ids:List (Int×Int))(e:List EvT):Nat->Nat->List Int
 | 0=>λ_=>[]
 | k+1=>edB e k (edA ids k (edF ids e k))
def EF.ext{S s:Sto}{w M q:Nat}{l:Av}{K:Nat}{nx:Nat->List Int}{A:Nat->Nat}(h:EF S w M q l K nx A)(hf:Fr S s []):EF s w M q l K nx A:=
 ⟨hf.at h.box rfl A6,hf.at h.Ad rfl A6,hf.at h.row rfl A6,λi hi=>by obtain⟨xs,hx,hx2⟩:=h.cell i hi;exact⟨xs,hf.at hx rfl A6,hx2⟩,h.inj⟩
def Lo(N:Nat)(S s:Sto):Prop:=S.length<=s.length/\∀j,j<N->(A1 S j).AP=false->A1 s j=A1 S j
def Lo.refl(N:Nat)(S:Sto):Lo N S S:=⟨AR _,λ_ _ _=>rfl⟩
def Lo.trans{N:Nat}{a b c:Sto}(h:Lo N a b)(k:Lo N b c):Lo N a c:=⟨DC h.1 k.1,λj hj ha=>by
 have h1:=h.2 j hj ha
 rw[k.2 j hj (by rw[h1];exact ha),h1]⟩
def Fr.lo{N:Nat}{S s:Sto}{ids:List Nat}(h:Fr S s ids)(hi:∀j∈ids,N<=j):Lo N S s:=⟨h.1,λj hj ha=>h.2 j ha λhm=>by have:=hi j hm;omega⟩
def Lo.at{N:Nat}{S s:Sto}(h:Lo N S s){j:Nat}{B:Blk}(hj:A1 S j=B)(hd:B.AP=false)(hl:j<N):A1 s j=B:=by rw[h.2 j hl RR];exact hj
def apR(s:Sto)(q Ai i:Nat)(cells:List AV)(BD:List Int)(x:Int)(b5 b6 b8:Bool):Sto:=
 if b8=true then(s.set Ai .dead++[Blk.arr 1 [.int .i64 x],Blk.arr 1 (BD.map (.int .i64)++[.int .i64 x])]).set q (.var 1 (cells.set i (.A8 (s.length+1) 0 (BD.length+1))))
 else if b6=true then s.set Ai .dead++[.arr 1 [.int .i64 x],.arr 1 (BD.map (.int .i64)++[.int .i64 x])]
 else if b5=true then s++[.arr 1 [.int .i64 x]] else s
def Wb{s:Sto}{q Ai i:Nat}{cells:List AV}{BD:List Int}{x:Int}{b5 b6 b8:Bool}{w:Nat}{B:Blk}(h:A1 s w=B)(hd:B.AP=false)(hq:w≠q)(hA:w≠Ai):A1 (apR s q Ai i cells BD x b5 b6 b8) w=B:=by
 have hl:=AG h hd;unfold apR;split
 ·rw[As hq.symm,BB Hb,As hA.symm];exact h
 split
 ·exact WK
 split
 ·rw[BB hl];exact h
 exact h
def Mp{s:Sto}{q Ai i:Nat}{cells:List AV}{BD:List Int}{x:Int}{b5 b6:Bool}{B:Blk}(h:A1 s q=B)(hd:B.AP=false)(hA:q≠Ai):A1 (apR s q Ai i cells BD x b5 b6 false) q=B:=by
 have hl:=AG h hd;unfold apR;rw[A7 A6];split
 ·exact WK
 split
 ·rw[BB hl];exact h
 exact h
def kI(s:Sto)(q Ai i:Nat)(cells:List AV)(BD:List Int)(x:Int):apR s q Ai i cells BD x true false false=s++[.arr 1 [.int .i64 x]]:=rfl
def Q1a(s:Sto)(q Ai i:Nat)(cells:List AV)(BD:List Int)(x:Int):apR s q Ai i cells BD x false false false=s:=rfl
def OK(s:Sto)(q Ai i:Nat)(cells:List AV)(BD:List Int)(x:Int)(b:Bool):apR s q Ai i cells BD x b true false=s.set Ai .dead++[Blk.arr 1 [.int .i64 x],Blk.arr 1 (BD.map (.int .i64)++[.int .i64 x])]:=rfl
def Q_(s:Sto)(q Ai i:Nat)(cells:List AV)(BD:List Int)(x:Int)(b c:Bool):apR s q Ai i cells BD x b c true=(s.set Ai .dead++[Blk.arr 1 [.int .i64 x],Blk.arr 1 (BD.map (.int .i64)++[.int .i64 x])]).set q (.var 1 (cells.set i (.A8 (s.length+1) 0 (BD.length+1)))):=rfl
def ZH(s:Sto)(q Ai i:Nat)(cells:List AV)(BD:List Int)(x:Int)(b c d:Bool):Fr s (apR s q Ai i cells BD x b c d) [q,Ai]:=by
 unfold apR;split
 ·exact o9
 split
 ·exact mr
 split
 ·exact(Fr.app _ _).mono (λj hj=>RQ)
 exact Fr.refl _ _
def gE{nx:Nat->List Int}{i b:Nat}(h:∀j,(nx j).length<=b)(x:Int)(j:Nat):(updQ nx i (nx i++[x]) j).length<=b+1:=by
 unfold updQ;split
 ·have:=h i;simp;omega
 have:=h j;omega
def jT(ids:List (Int×Int)){nx:Nat->List Int}{b:Nat}(h:∀j,(nx j).length<=b)(i:Nat):∀j,(edA ids i nx j).length<=b+1:=λj=>by
 unfold edA;split
 ·exact gE h _ j
 have:=h j;omega
def Q0e(e:List EvT){nx:Nat->List Int}{b:Nat}(h:∀j,(nx j).length<=b)(i:Nat):∀j,(edB e i nx j).length<=b+1:=λj=>by
 unfold edB;cases JP e e.length (e.getD i default).n with
 | none=>have:=h j;simp only;omega
 | some i'=>
  simp only;split
  ·exact gE h _ j
  have:=h j;omega
def U7(ids:List (Int×Int))(e:List EvT):∀k j,(edF ids e k j).length<=2*k
 | 0,_=>by simp[edF]
 | k+1,j=>by have:=Q0e e (jT ids (U7 ids e k) k) k j;rw[edF];omega
def cpR(s:Sto)(q Ai i:Nat)(cells:List AV)(len:Nat)(ys:List Int)(b2 b4:Bool):Sto:=
 if b4=true then(s.set Ai (.arr 1 (ys.map (.int .i64)))).set q (.var 1 (cells.set i (.A8 Ai 0 len)))
 else if b2=true then s.set Ai (.arr 1 (ys.map (.int .i64))) else s
def vN{s:Sto}{q Ai i len:Nat}{cells:List AV}{ys:List Int}{b2 b4:Bool}{w:Nat}{B:Blk}(h:A1 s w=B)(hq:w≠q)(hA:w≠Ai):A1 (cpR s q Ai i cells len ys b2 b4) w=B:=by
 unfold cpR;split
 ·rw[As hq.symm,As hA.symm];exact h
 split
 ·rw[As hA.symm];exact h
 exact h
def Q91{s:Sto}{q Ai i len:Nat}{cells:List AV}{ys:List Int}{b2:Bool}{B:Blk}(h:A1 s q=B)(hA:q≠Ai):A1 (cpR s q Ai i cells len ys b2 false) q=B:=by
 unfold cpR;rw[A7 A6];split
 ·rw[As hA.symm];exact h
 exact h
def Q93(s:Sto)(q Ai i:Nat)(cells:List AV)(len:Nat)(ys:List Int):cpR s q Ai i cells len ys false false=s:=rfl
def Q92(s:Sto)(q Ai i:Nat)(cells:List AV)(len:Nat)(ys:List Int):cpR s q Ai i cells len ys true false=s.set Ai (.arr 1 (ys.map (.int .i64))):=rfl
def Zq(s:Sto)(q Ai i:Nat)(cells:List AV)(len:Nat)(ys:List Int)(b:Bool):cpR s q Ai i cells len ys b true=(s.set Ai (.arr 1 (ys.map (.int .i64)))).set q (.var 1 (cells.set i (.A8 Ai 0 len))):=rfl
def EF.mono{S:Sto}{w M q:Nat}{l:Av}{K K':Nat}{nx:Nat->List Int}{A:Nat->Nat}(h:EF S w M q l K nx A)(hK:K<=K'):EF S w M q l K' nx A:=
 ⟨h.box,h.Ad,h.row,λi hi=>by obtain⟨xs,hx,hx2,hx3⟩:=h.cell i hi;exact⟨xs,hx,hx2,λhk=>hx3 oo⟩,h.inj⟩
def cpS(r:List Int):List Int:=cpF (D9 r) (D9 r).length
def ndF(ids:List (Int×Int))(e:List EvT)(k:Nat):Nat->List Int:=λi=>if i<k then cpS (edF ids e e.length i) else edF ids e e.length i
def wV(ids:List (Int×Int))(e:List EvT)(k:Nat):ndF ids e (k+1)=updQ (ndF ids e k) k (cpS (ndF ids e k k)):=by
 funext i;simp only[ndF,updQ];by_cases h:i=k
 ·subst h;simp
 rw[A7 h];by_cases h2:i<k
 ·rw[AD oo,AD h2]
 rw[A7 oo,A7 h2]
def Qgv(A:Nat->Nat)(k:Nat):updQ A k (A k)=A:=by
 funext i;unfold updQ;split
 ·rename_i h;rw[h]
 rfl
set_option maxHeartbeats 8000000 in
def tc(l:Av)(h:l.BZ){S:Sto}{N w M q:Nat}{A:Nat->Nat}(hI:EF S w M q l 0 (λ_=>[]) A)(hq:N<=q)(hA:∀i,i<(AI l.parts).length->N<=A i)(hN:N<=S.length):AW prog Gl 152 [.ptr w 0] S (λr s=>r=.Aj []/\Lo N S s/\∃A',(∀i,i<(AI l.parts).length->N<=A' i)/\EF s w M q l (AI l.parts).length (ndF (Ah l.parts) (AI l.parts) (AI l.parts).length) A'):=by
 have hev:=h.A_;have hev24:(AI l.parts).length<=24:=by rw[NU];exact hev
 have hlI:(Ah l.parts).length=(AI l.parts).length:=Ma;have hbox:=hI.box;rw[FJ] at hbox;have lbox:=AG hbox rfl;refine Fv func152 rfl rfl (by simp[ntmps152]) ?_;simp only[ntmps152,results152,B6,C6];generalize hEE:AI l.parts=EV at *;generalize hII:Ah l.parts=IDS at *;refine Cu ?_;refine Hd ?_;simp only[zF,seval,hbox,lbox];refine Gg ?_;refine Fm (τ:=Nat×Sto) (λy=>[(16,(y.1:Int)),(15,(EV.length:Int)),(14,.d (.sl (EV.map EvT.A5))),(2,.AF S.length),(0,.ptr w 0)]) (λy=>y.2)
  (λy=>y.1<=EV.length/\Fr S y.2 []/\A1 y.2 S.length=.map (some .i64) (JQ EV y.1)) (λy=>EV.length-y.1) (0,_) ⟨Bq _,Fr.app _ _,?_⟩ (AU rfl) ?_
 ·simp only;rw[Cd];congr 1;funext key;cases key<;>rfl
 rintro⟨k,s⟩ ⟨hk,hf,hT⟩;simp only at hk hf hT;have lT:=AG hT rfl;refine Cf ?_;by_cases hh:k<EV.length
 ·have hst:=zu EV k;generalize hxx:EV.getD k default=x at *;simp only[zF,seval,(oo:(k:Int)<EV.length)];refine Jf ?_;simp only[zF,seval,(oo:(k:Int)<EV.length),hh,Af _ _ _ (oo:k<EV.length),hxx];refine Cu ?_;by_cases h6:x.kind=6
  ·rw[AD h6] at hst;simp only[zF,seval,h6];refine AWp.Dl rfl rfl ?_;refine Eu ?_;simp only[zF,seval,hT,lT];refine Hc ?_;have hf2:Fr s (s.set S.length (.map (some .i64) (BO (JQ EV k) (.i x.n) (.d (.int .i64 (k:Nat)))))++[.box 6 (.d x.A5)]) [S.length]:=((Fr.refl s [S.length]).set _ A6).trans (Fr.app _ _) A6;refine⟨(k+1,_),⟨AQ,hf.trans hf2 A6,?_⟩,AQ,AU rfl⟩;simp only;rw[hst,BB Ap,BX lT]
  have h6b:(x.kind==6)=false:=a_;rw[A7 h6] at hst;rw[h6b];refine Pk ?_;refine Hc ?_;refine⟨(k+1,_),⟨AQ,hf.trans (Fr.app _ _) A6,?_⟩,AQ,AU rfl⟩;simp only;rw[hst];exact(Fr.app s _).at hT rfl A6
 have hk2:k=EV.length:=oo;subst hk2;simp only[zF,seval,(oo:¬(EV.length:Int)<EV.length)];refine Cu ?_;have hI1:=hI.ext hf;have hlo:=Fr.lo (N:=N) hf A6;generalize S.length=T at *;have hbox:=hI1.box;rw[FJ,hII,hEE] at hbox;have lbox:=AG hbox rfl;clear hI hf;refine Hd ?_;simp only[zF,seval,hbox,lbox];refine Gg ?_;have hTN:N<=T:=hN;clear hbox lbox;refine Fm (τ:=Nat×Sto) (λy=>[(34,(y.1:Int)),(33,(EV.length:Int)),(32,.d (.sl (EV.map EvT.A5))),(2,.AF T),(0,.ptr w 0)]) (λy=>y.2)
  (λy=>y.1<=EV.length/\Lo N S y.2/\A1 y.2 T=.map (some .i64) (JQ EV EV.length)/\∃A',(∀i,i<EV.length->N<=A' i)/\EF y.2 w M q l 0 (edF IDS EV y.1) A') (λy=>EV.length-y.1) (0,_) ⟨Bq _,hlo,hT,A,hA,hI1⟩ (AU rfl) ?_
 clear hI1 hA hT hlo lT hh;rintro⟨k,s⟩ ⟨hk,hlo,hT,A,hA,hI⟩;simp only at hk hlo hT hI;have lT:=AG hT rfl;have hbox:=hI.box;rw[FJ,hII,hEE] at hbox;have lbox:=AG hbox rfl;refine Cf ?_;by_cases hh:k<EV.length
 ·have hh2:k<IDS.length:=oo;generalize hxx:EV.getD k default=x at *;simp only[zF,seval,(oo:(k:Int)<EV.length)];refine Cu ?_;refine AWp.seq (Rg (λe s'=>∃s4 A4,Lo N S s4/\A1 s4 T=.map (some .i64) (JQ EV EV.length)/\(∀i,i<EV.length->N<=A4 i)/\EF s4 w M q l 0 (edF IDS EV (k+1)) A4 /\
   Bc 140 T e s' [(34,(k:Int)),(33,(EV.length:Int)),(32,.d (.sl (EV.map EvT.A5))),(2,.AF T),(0,.ptr w 0)] s4) (AWp.block ?_) ?_)
  rotate_left 1
  ·rintro e s' ⟨s4,A4,h1,h2,h3,h4,hw⟩;refine AWp.Cj hw ?_;refine Hc ?_;exact⟨(k+1,s4),⟨AQ,h1,h2,A4,h3,h4⟩,AQ,AU rfl⟩
  refine Cf ?_;simp only[zF,seval,(oo:(k:Int)<EV.length),hh,Af _ _ _ (oo:k<EV.length),hxx];have hlo2:=hlo.trans (Fr.lo (N:=N) (Fr.app s [.box 6 (.d x.A5)]) A6);have hT2:=(Fr.app s [.box 6 (.d x.A5)]).at hT rfl A6;have hI2:=hI.ext (Fr.app s [.box 6 (.d x.A5)]);have hx2:=Cd (σ:=s) (B:=.box 6 (.d x.A5));have hlen2:(s++[Blk.box 6 (.d x.A5)]).length=s.length+1:=A6;have hbox2:=hI2.box;rw[FJ,hII,hEE] at hbox2;have lbox2:=AG hbox2 rfl;generalize (s++[Blk.box 6 (.d x.A5)])=s2 at *;have hel:=U7 IDS EV k;refine AWp.seq (Rg (λe s'=>∃s3 A3,Lo N S s3/\A1 s3 T=.map (some .i64) (JQ EV EV.length)/\A1 s3 s.length=.box 6 (.d x.A5)/\(∀i,i<EV.length->N<=A3 i)/\EF s3 w M q l 0 (edA IDS k (edF IDS EV k)) A3 /\
   Bc 140 T e s' [(5,(k:Int)),(6,.ptr s.length 0),(34,(k:Int)),(33,(EV.length:Int)),(32,.d (.sl (EV.map EvT.A5))),(2,.AF T),(0,.ptr w 0)] s3) ?_ ?_)
  ·refine Cf ?_;by_cases h0:0<k
   ·have e1:IntKind.i64.wrap ((k:Int)-1)=((k-1:Nat):Int):=Bz;have hA1:edA IDS k (edF IDS EV k)=if(IDS.getD (k-1) default).1=(IDS.getD k default).1 then updQ (edF IDS EV k) (k-1) (edF IDS EV k (k-1)++[(k:Int)]) else edF IDS EV k:=by
     rw[edA];simp only[h0,R0]
    simp only[zF,seval,hbox2,lbox2,(oo:(0:Int)<k)];refine⟨.inl Ax,?_⟩;simp only[zF,seval,hbox2,lbox2,(oo:(0:Int)<k),e1,Af _ _ _ (oo:k-1<IDS.length),hh2,Af _ _ _ (oo:k<IDS.length),(oo:((k-1:Nat):Int)<IDS.length),(oo:k-1<IDS.length),(oo:(k:Int)<IDS.length),idD];by_cases hy:(IDS.getD (k-1) default).1=(IDS.getD k default).1
    ·rw[AD hy] at hA1;rw[show((IDS.getD (k-1) default).fst==(IDS.getD k default).fst)=true by simpa using hy];refine AWp.Dl rfl rfl ?_;have hk1:k-1<EV.length:=oo;have hqr:=hI2.row;obtain⟨xs,hcl,hto,_⟩:=hI2.cell (k-1) (by rw[hEE];exact hk1);rw[hEE] at hqr;have hwq:w≠q:=AX hbox2 hqr A6;have hwA:w≠A (k-1):=AX hbox2 hcl A6;have hqA:q≠A (k-1):=AX hqr hcl A6;have hold:=hel (k-1);have hcj:((List.range EV.length).map λi=>AV.A8 (A i) 0 (edF IDS EV k i).length)[k-1]? = some (.A8 (A (k-1)) 0 (edF IDS EV k (k-1)).length):=by simp[hk1]
     have hcd:((List.range EV.length).map λi=>AV.A8 (A i) 0 (edF IDS EV k i).length).getD (k-1) .undef=.A8 (A (k-1)) 0 (edF IDS EV k (k-1)).length:=TM;have lcl:=AG hcl rfl;have hcl0:((List.range EV.length).map λi=>AV.A8 (A i) 0 (edF IDS EV k i).length).length=EV.length:=A6;generalize hoo:edF IDS EV k (k-1)=BD at *;generalize hcc:((List.range EV.length).map λi=>AV.A8 (A i) 0 (edF IDS EV k i).length)=cells at *;have hNA:=hA (k-1) hk1;generalize hAA:A (k-1)=Ai at *;have lqr:=AG hqr rfl;refine NM rfl (NJ (Θ:=Nat)
      (λ_ L=>[(61,onV (L 0) (.ptr w 0)),(62,onV (L 1) (.ptr w 0)),(63,onV (L 2) (.ptr w 7)),(64,onV (L 3) (.A8 q 0 EV.length)),(65,onV (L 4) (.d (.int .i64 (k:Int)))),(66,onV (L 5) (.d (.int .i64 ((k-1:Nat):Int)))),(67,onV (L 6) (.ptr w 0)),(68,onV (L 7) (.ptr w 0)),(69,onV (L 8) (.ptr w 7)),(70,onV (L 9) (.A8 q 0 EV.length)),(71,onV (L 10) (.d (.int .i64 (k:Int)))),(72,onV (L 11) (.d (.int .i64 ((k-1:Nat):Int)))),(73,onV (L 12) (.Al q (k-1) 0)),(74,onV (L 13) (.A8 Ai 0 BD.length)),(75,onV (L 14) (.d (.int .i64 (k:Int)))),(76,onV (L 15) (.A8 s2.length 0 1)),(77,onV (L 16) (.A8 (s2.length+1) 0 (BD.length+1))),(78,onV (L 17) (.Al q (k-1) 0)),
       (5,.d (.int .i64 (k:Int))),(6,.ptr s.length 0),(34,.d (.int .i64 (k:Int))),(33,.d (.int .i64 EV.length)),(32,.d (.sl (EV.map EvT.A5))),(2,.AF T),(0,.ptr w 0)])
      (λ_ L=>apR s2 q Ai (k-1) cells BD (k:Int) (L 15) (L 16) (L 18))
      (λ_ L=>True) Ax ?_ ?_ ?_)
     ·exact Td
     ·simp only[KO];refine⟨?_,?_,?_,?_,?_,?_,?_,?_,?_,?_,?_,?_,?_,?_,?_,?_,?_,?_,?_,trivial⟩
      all_goals (rintro H L o1 hc hL hp;(try simp only[EM,Region.binds,frB] at hp);(try simp only[EU,Nat.reduceAdd] at hL);simp only[zF,seval,hL,hp,Ef,Er,D3,FG])
      all_goals have hbA:∀b5 b6 b8,A1 (apR s2 q Ai (k-1) cells BD (k:Int) b5 b6 b8) w=_:=λb5 b6 b8=>(Wb hbox2 rfl hwq hwA)
      case refine_4=>
       exact RZ
      case refine_10=>
       exact RZ
      case refine_13=>
       have z18:L 18=false:=DO hL λhh=>Da (hc 18 _ rfl hh) 12 Ax;exact mz
      case refine_14=>
       have z18:L 18=false:=DO hL λhh=>Da (hc 18 _ rfl hh) 13 Ax;have hqA2:∀b5 b6,A1 (apR s2 q Ai (k-1) cells BD (k:Int) b5 b6 false) q=_:=λb5 b6=>Mp hqr rfl hqA;rw[z18];simp only[zF,seval,hqA2,hcl0,hcd,hk1];exact FO
      case refine_16=>
       have z18:L 18=false:=DO hL λhh=>Da (hc 18 _ rfl hh) 15 Ax;have z16:L 16=false:=DO hL λhh=>Da (hc 16 _ rfl hh) 15 Ax;rw[z18,z16];exact bC
      case refine_17=>
       have z18:L 18=false:=DO hL λhh=>Da (hc 18 _ rfl hh) 16 Ax;rw[z18];refine bg ?_;exact FO
      case refine_18=>
       have z18:L 18=false:=DO hL λhh=>Da (hc 18 _ rfl hh) 17 Ax;exact mz
      case refine_19=>
       have hq6:A1 (s2.set Ai .dead++[Blk.arr 1 [.int .i64 (k:Int)],Blk.arr 1 (BD.map (.int .i64)++[.int .i64 (k:Int)])]) q=.var 1 cells:=by rw[<-OK s2 q Ai (k-1) cells BD (k:Int) true];exact Mp hqr rfl hqA
       have lq6:=AG hq6 rfl;simp only[zF,seval,OK,Q_,hq6,lq6,hcl0,hk1,J3];exact FO
      case refine_6=>
       simp only[zF,seval,e1];exact FO
      case refine_12=>
       simp only[zF,seval,e1];exact FO
      all_goals exact⟨0,AU rfl⟩
     rintro H -;refine C0 ?_;have hfr:=ZH s2 q Ai (k-1) cells BD (k:Int) true true true;have hTq:T≠q:=AX hT2 hqr A6;have hTA:T≠Ai:=AX hT2 hcl A6;have hxq:s.length≠q:=AX hx2 hqr A6;have hxA:s.length≠Ai:=AX hx2 hcl A6;refine⟨apR s2 q Ai (k-1) cells BD (k:Int) true true true,updQ A (k-1) (s2.length+1),hlo2.trans (Fr.lo hfr Ap),hfr.at hT2 rfl Ap,hfr.at hx2 rfl Ap,?_,?_,AU rfl⟩
     ·intro i hi;unfold updQ;split
      ·omega
      exact hA i hi
     rw[hA1];refine hI2.Ev (i:=k-1) (by rw[hEE];exact hk1) _ (by rw[hAA];exact hfr) (.inl oo) ?_ ⟨_,?_,Bi A6,λ_=>A6⟩
     ·rw[hEE,hcc,Q_,BX Ap];simp
     exact nj
    rw[A7 hy] at hA1;rw[show((IDS.getD (k-1) default).fst==(IDS.getD k default).fst)=false by simpa using hy];exact mC
   have hA1:edA IDS k (edF IDS EV k)=edF IDS EV k:=by rw[edA,A7 (λh=>h0 h.1)]
   simp only[zF,seval,hbox2,lbox2,(oo:¬(0:Int)<k)];refine⟨.inl Ax,?_⟩;exact mC
  rintro e s' ⟨s3,A3,hlo3,hT3,hx3,hA3,hI3,hw3⟩;refine AWp.Cj hw3 ?_;have hel3:=jT IDS hel k;have hstep:edF IDS EV (k+1)=edB EV k (edA IDS k (edF IDS EV k)):=rfl;have hB1:edB EV k (edA IDS k (edF IDS EV k))=match JP EV EV.length x.n with
   | some j=>if x.kind=7 then updQ (edA IDS k (edF IDS EV k)) j (edA IDS k (edF IDS EV k) j++[(k:Int)]) else edA IDS k (edF IDS EV k)
   | none=>edA IDS k (edF IDS EV k):=by rw[edB,hxx]
  generalize edA IDS k (edF IDS EV k)=nx at *;clear hI2 hx2 hT2 hlo2 hbox2 lbox2 hw3 hI hbox lbox hT lT hel;have hbox3:=hI3.box;rw[FJ,hII,hEE] at hbox3;have lbox3:=AG hbox3 rfl;have lT3:=AG hT3 rfl;have lx3:=AG hx3 rfl;have hlk:JQ EV EV.length (.i x.n)=(JP EV EV.length x.n).map λi=>.d (.int .i64 (i:Nat)):=rfl;refine Cf ?_;cases hsn:JP EV EV.length x.n with
  | none=>
   rw[hsn] at hlk hB1;rw[aM] at hlk;simp only at hB1;simp only[zF,seval,hbox3,lbox3,hT3,lT3,hx3,lx3,hlk];refine Cf ?_;simp only[zF,seval,hx3,lx3];exact mD
  | some j=>
   have hj:=Yn EV EV.length x.n j hsn;rw[hsn] at hlk hB1;rw[DF] at hlk;simp only at hB1;simp only[zF,seval,hbox3,lbox3,hT3,lT3,hx3,lx3,hlk];refine Cf ?_;simp only[zF,seval,hx3,lx3];by_cases h7:x.kind=7
   ·rw[AD h7] at hB1;rw[show(x.kind==7)=true by simpa using h7];refine AWp.Dl rfl rfl ?_;have hqr:=hI3.row;obtain⟨xs,hcl,hto,_⟩:=hI3.cell j (by rw[hEE];exact hj);rw[hEE] at hqr;have hwq:w≠q:=AX hbox3 hqr A6;have hwA:w≠A3 j:=AX hbox3 hcl A6;have hqA:q≠A3 j:=AX hqr hcl A6;have hold:=hel3 j;have hcj:((List.range EV.length).map λi=>AV.A8 (A3 i) 0 (nx i).length)[j]? = some (.A8 (A3 j) 0 (nx j).length):=Ku;have hcd:((List.range EV.length).map λi=>AV.A8 (A3 i) 0 (nx i).length).getD j .undef=.A8 (A3 j) 0 (nx j).length:=TM;have lcl:=AG hcl rfl;have hcl0:((List.range EV.length).map λi=>AV.A8 (A3 i) 0 (nx i).length).length=EV.length:=A6;generalize hoo:nx j=BD at *;generalize hcc:((List.range EV.length).map λi=>AV.A8 (A3 i) 0 (nx i).length)=cells at *;have hNA:=hA3 j hj;generalize hAA:A3 j=Ai at *;have lqr:=AG hqr rfl;refine NM rfl (NJ (Θ:=Nat)
     (λ_ L=>[(92,onV (L 0) (.ptr w 0)),(93,onV (L 1) (.ptr w 0)),(94,onV (L 2) (.ptr w 7)),(95,onV (L 3) (.A8 q 0 EV.length)),(96,onV (L 4) (.d (.int .i64 (j:Nat)))),(97,onV (L 5) (.ptr w 0)),(98,onV (L 6) (.ptr w 0)),(99,onV (L 7) (.ptr w 7)),(100,onV (L 8) (.A8 q 0 EV.length)),(101,onV (L 9) (.d (.int .i64 (j:Nat)))),(102,onV (L 10) (.Al q j 0)),(103,onV (L 11) (.A8 Ai 0 BD.length)),(104,onV (L 12) (.d (.int .i64 (k:Int)))),(105,onV (L 13) (.A8 s3.length 0 1)),(106,onV (L 14) (.A8 (s3.length+1) 0 (BD.length+1))),(107,onV (L 15) (.Al q j 0)),
      (7,.d (.int .i64 (j:Nat))),(5,.d (.int .i64 (k:Int))),(6,.ptr s.length 0),(34,.d (.int .i64 (k:Int))),(33,.d (.int .i64 EV.length)),(32,.d (.sl (EV.map EvT.A5))),(2,.AF T),(0,.ptr w 0)])
     (λ_ L=>apR s3 q Ai j cells BD (k:Int) (L 13) (L 14) (L 16))
     (λ_ L=>True) Ax ?_ ?_ ?_)
    ·exact Td
    ·simp only[KO];refine⟨?_,?_,?_,?_,?_,?_,?_,?_,?_,?_,?_,?_,?_,?_,?_,?_,?_,trivial⟩
     all_goals (rintro H L o1 hc hL hp;(try simp only[EM,Region.binds,frB] at hp);(try simp only[EU,Nat.reduceAdd] at hL);simp only[zF,seval,hL,hp,Ef,Er,D3,FG])
     all_goals have hbA:∀b5 b6 b8,A1 (apR s3 q Ai j cells BD (k:Int) b5 b6 b8) w=_:=λb5 b6 b8=>(Wb hbox3 rfl hwq hwA)
     case refine_4=>
      exact RZ
     case refine_9=>
      exact RZ
     case refine_11=>
      have z18:L 16=false:=DO hL λhh=>Da (hc 16 _ rfl hh) 10 Ax;exact my
     case refine_12=>
      have z18:L 16=false:=DO hL λhh=>Da (hc 16 _ rfl hh) 11 Ax;have hqA2:∀b5 b6,A1 (apR s3 q Ai j cells BD (k:Int) b5 b6 false) q=_:=λb5 b6=>Mp hqr rfl hqA;rw[z18];simp only[zF,seval,hqA2,hcl0,hcd,hj];exact FO
     case refine_14=>
      have z18:L 16=false:=DO hL λhh=>Da (hc 16 _ rfl hh) 13 Ax;have z16:L 14=false:=DO hL λhh=>Da (hc 14 _ rfl hh) 13 Ax;rw[z18,z16];exact bC
     case refine_15=>
      have z18:L 16=false:=DO hL λhh=>Da (hc 16 _ rfl hh) 14 Ax;rw[z18];refine bg ?_;exact FO
     case refine_16=>
      have z18:L 16=false:=DO hL λhh=>Da (hc 16 _ rfl hh) 15 Ax;exact my
     case refine_17=>
      have hq6:A1 (s3.set Ai .dead++[Blk.arr 1 [.int .i64 (k:Int)],Blk.arr 1 (BD.map (.int .i64)++[.int .i64 (k:Int)])]) q=.var 1 cells:=by rw[<-OK s3 q Ai j cells BD (k:Int) true];exact Mp hqr rfl hqA
      have lq6:=AG hq6 rfl;simp only[zF,seval,OK,Q_,hq6,lq6,hcl0,hj,J3];exact FO
     all_goals exact⟨0,AU rfl⟩
    rintro H -;refine C0 ?_;have hfr:=ZH s3 q Ai j cells BD (k:Int) true true true;have hTq:T≠q:=AX hT3 hqr A6;have hTA:T≠Ai:=AX hT3 hcl A6;refine⟨apR s3 q Ai j cells BD (k:Int) true true true,updQ A3 j (s3.length+1),hlo3.trans (Fr.lo hfr Ap),hfr.at hT3 rfl Ap,?_,?_,AU rfl⟩
    ·intro i hi;unfold updQ;split
     ·have:=hlo3.1;omega
     exact hA3 i hi
    rw[hstep,hB1];refine hI3.Ev (i:=j) (by rw[hEE];exact hj) _ (by rw[hAA];exact hfr) (.inl oo) ?_ ⟨_,?_,Bi A6,λ_=>A6⟩
    ·rw[hEE,hcc,Q_,BX Ap];simp
    exact nj
   rw[A7 h7] at hB1;rw[show(x.kind==7)=false by simpa using h7];exact mD
 have hk2:k=EV.length:=oo;subst hk2;simp only[zF,seval,(oo:¬(EV.length:Int)<EV.length)];refine Cu ?_;refine Cf ?_;simp only[zF,seval,hbox,lbox];refine Gg ?_;have hel0:=U7 IDS EV EV.length;refine Fm (τ:=Nat×Sto) (λy=>[(114,(y.1:Int)),(113,(EV.length:Int)),(0,.ptr w 0)]) (λy=>y.2)
  (λy=>y.1<=EV.length/\Lo N S y.2/\EF y.2 w M q l y.1 (ndF IDS EV y.1) A) (λy=>EV.length-y.1) (0,s) ⟨Bq _,hlo,?_⟩ (AU rfl) ?_
 ·have:ndF IDS EV 0=edF IDS EV EV.length:=by funext i;unfold ndF;rw[A7 oo]
  simp only;rw[this];exact hI
 clear hI hlo hbox lbox hT lT hh hk;rintro⟨k,s⟩ ⟨hk,hlo,hI⟩;simp only at hk hlo hI;have hbox:=hI.box;rw[FJ,hII,hEE] at hbox;have lbox:=AG hbox rfl;refine Cf ?_;by_cases hh:k<EV.length
 ·have hst:=wV IDS EV k;have hkk:(ndF IDS EV k k).length<=2*EV.length:=by unfold ndF;rw[A7 oo];exact hel0 k
  generalize ndF IDS EV k=nx at *;have hqr:=hI.row;obtain⟨xs,hcl,hto,hex⟩:=hI.cell k (by rw[hEE];exact hh);have hxl:=hex (AR _);have hxs:xs=(nx k).map (.int .i64):=by rw[<-hto,<-hxl,BL]
  subst hxs;rw[hEE] at hqr;have hwq:w≠q:=AX hbox hqr A6;have hwA:w≠A k:=AX hbox hcl A6;have hqA:q≠A k:=AX hqr hcl A6;have hcj:((List.range EV.length).map λi=>AV.A8 (A i) 0 (nx i).length)[k]? = some (.A8 (A k) 0 (nx k).length):=by simp[hh]
  have hcd:((List.range EV.length).map λi=>AV.A8 (A i) 0 (nx i).length).getD k .undef=.A8 (A k) 0 (nx k).length:=TM;have lcl:=AG hcl rfl;have lqr:=AG hqr rfl;have hcl0:((List.range EV.length).map λi=>AV.A8 (A i) 0 (nx i).length).length=EV.length:=A6;generalize hcc:((List.range EV.length).map λi=>AV.A8 (A i) 0 (nx i).length)=cells at *;have hNA:=hA k hh;simp only[zF,seval,(oo:(k:Int)<EV.length)];refine Cu ?_;refine Pq ?_;refine Cu ?_;refine Cf ?_;simp only[zF,seval,hbox,lbox,hqr,lqr,hcl0,hcd,(oo:(k:Int)<EV.length),hh,Nz,J3];refine gu (A k) hcl (Xb (nx k) oo) ?_;refine C0 ?_;have hcl2:A1 (s.set (A k) (.arr 1 ((D9 (nx k)).map (.int .i64)))) (A k)=.arr 1 ((D9 (nx k)).map (.int .i64)):=BX lcl;have hqr2:A1 (s.set (A k) (.arr 1 ((D9 (nx k)).map (.int .i64)))) q=.var 1 cells:=by rw[As hqA.symm];exact hqr
  have hbox2:=(show A1 (s.set (A k) (.arr 1 ((D9 (nx k)).map (.int .i64)))) w=A1 s w from As hwA.symm).trans hbox;have hfr2:Fr s (s.set (A k) (.arr 1 ((D9 (nx k)).map (.int .i64)))) [q,A k]:=(Fr.refl s [q,A k]).set _ A6;have hl2:(s.set (A k) (.arr 1 ((D9 (nx k)).map (.int .i64)))).length=s.length:=A6;generalize s.set (A k) (.arr 1 ((D9 (nx k)).map (.int .i64)))=s2 at *;have hsl:(D9 (nx k)).length=(nx k).length:=QS _;have hcm:=gl (Gl:=Gl) (D9 (nx k)) oo;have hcp:cpS (nx k)=cpF (D9 (nx k)) (D9 (nx k)).length:=rfl;rw[<-hcp,hsl] at hcm;refine NM rfl (NJ (Θ:=List Int)
   (λ_ L=>[(125,onV (L 0) (.ptr w 0)),(126,onV (L 1) (.ptr w 0)),(127,onV (L 2) (.ptr w 7)),(128,onV (L 3) (.A8 q 0 EV.length)),(129,onV (L 4) (.d (.int .i64 (k:Int)))),(130,onV (L 5) (.ptr w 0)),(131,onV (L 6) (.ptr w 0)),(132,onV (L 7) (.ptr w 7)),(133,onV (L 8) (.A8 q 0 EV.length)),(134,onV (L 9) (.d (.int .i64 (k:Int)))),(135,onV (L 10) (.Al q k 0)),(136,onV (L 11) (.A8 (A k) 0 (nx k).length)),(137,onV (L 12) (.A8 (A k) 0 (cpS (nx k)).length)),(138,onV (L 13) (.Al q k 0)),
    (9,.d (.int .i64 (k:Int))),(114,.d (.int .i64 (k:Int))),(113,.d (.int .i64 EV.length)),(0,.ptr w 0)])
   (λH L=>cpR s2 q (A k) k cells (cpS (nx k)).length H (L 12) (L 14))
   (λH L=>L 12=true->H.take (cpS (nx k)).length=cpS (nx k)) Ax ?_ ?_ ?_)
  ·exact mg
  ·simp only[KO];refine⟨?_,?_,?_,?_,?_,?_,?_,?_,?_,?_,?_,?_,?_,?_,?_,trivial⟩
   all_goals (rintro H L o1 hc hL hp;(try simp only[EM,Region.binds,frB] at hp);(try simp only[EU,Nat.reduceAdd] at hL);simp only[zF,seval,hL,hp,Ef,Er,D3,FG])
   all_goals have hbA:∀ys b2 b4,A1 (cpR s2 q (A k) k cells (cpS (nx k)).length ys b2 b4) w=_:=λys b2 b4=>(vN hbox2 hwq hwA)
   all_goals have hqA2:∀ys b2,A1 (cpR s2 q (A k) k cells (cpS (nx k)).length ys b2 false) q=_:=λys b2=>Q91 hqr2 hqA
   case refine_4=>
    simp only[zF,seval,hbA];exact Ra
   case refine_9=>
    simp only[zF,seval,hbA];exact Ra
   case refine_11=>
    have z14:L 14=false:=DO hL λhh=>Da (hc 14 _ rfl hh) 10 Ax;rw[z14];simp only[zF,seval,hqA2,hcl0,(oo:(k:Int)<EV.length),Nz,J3];exact Ra
   case refine_12=>
    have z14:L 14=false:=DO hL λhh=>Da (hc 14 _ rfl hh) 11 Ax;rw[z14];simp only[zF,seval,hqA2,hcl0,hcd,hh];exact Ra
   case refine_13=>
    have z14:L 14=false:=DO hL λhh=>Da (hc 14 _ rfl hh) 12 Ax;rw[z14];simp only[zF,seval,Q93];refine Qfu (k':=(cpS (nx k)).length) (A k) hcl2 (Q:=λzs=>∃ys:List Int,zs=ys.map (.int .i64)/\ys.take (cpS (nx k)).length=cpS (nx k)) (hcm.mono λr s' hr=>?_) λzs hz=>?_
    ·obtain⟨rfl,ys,rfl,h3,h4⟩:=hr;exact⟨rfl,_,rfl,ys,rfl,h3⟩
    obtain⟨ys,rfl,h3⟩:=hz;refine C0 ?_;exact⟨ys,AU rfl,h3⟩
   case refine_14=>
    have z14:L 14=false:=DO hL λhh=>Da (hc 14 _ rfl hh) 13 Ax;rw[z14];simp only[zF,seval,hqA2,hcl0,(oo:(k:Int)<EV.length),Nz,J3];exact⟨H,AU rfl,o1 (by simp[hp])⟩
   case refine_15=>
    have o1:=o1 hp.2.1;have hq6:A1 (s2.set (A k) (.arr 1 (H.map (.int .i64)))) q=.var 1 cells:=by rw[As hqA.symm];exact hqr2
    have lq6:=AG hq6 rfl;simp only[zF,seval,Q92,Zq,hq6,lq6,hcl0,hh,J3];exact Ra
   all_goals exact⟨H,AU rfl,o1⟩
  rintro H o1;have o1:=o1 rfl;refine C0 ?_;refine Hc ?_;have hfr3:Fr s2 (cpR s2 q (A k) k cells (cpS (nx k)).length H true true) [q,A k]:=((Fr.refl s2 [q,A k]).set _ A6).set _ A6;have hfr4:=hfr2.trans hfr3 (λj hj=>.inl hj);refine⟨(k+1,_),⟨AQ,hlo.trans (Fr.lo hfr4 Ap),?_⟩,AQ,AU rfl⟩;simp only;rw[hst];have hup:=(hI.mono (Nat.le_succ k)).Ev (i:=k) (by rw[hEE];exact hh) (cpS (nx k)) (X:=A k) hfr4 (.inr rfl) ?_ ⟨H.map (.int .i64),?_,?_,λh=>absurd h oo⟩
  ·rw[Qgv] at hup;exact hup
  ·rw[hEE,hcc,Zq,BX Ap]
  ·rw[Zq,As hqA,BX oo]
  rw[<-JT,o1]
 have hk2:k=EV.length:=oo;subst hk2;simp only[zF,seval,(oo:¬(EV.length:Int)<EV.length)];refine GV ?_;exact⟨_,_,Bg.refl _ _ _,rfl,hlo,A,hA,hI⟩

def qS(fv:FuncId)(caps:List AV)(p:An->Bool){σ:Sto}(hp:∀x:An,∀s,Fr σ s []->AW prog Gl fv ([.d x.A5]++caps) s (λr s'=>r=.d (.bool (p x))/\Fr s s' []))(l:List An)(hl:l.length<1000000):
  AW prog Gl 209 [.d (.sl (l.map An.A5)),.fn fv caps] σ (λr s=>r=.d (.int .i64 (Ew p l))/\Fr σ s []):=by
 refine Fv func209 rfl rfl (by simp[ntmps209]) ?_;simp only[ntmps209,results209,B6,C6];refine AWp.seq (Bu rfl _ _ _ _ ?_);simp only[zF,seval];refine AWp.seq (AWp.seq (Bu rfl _ _ _ _ ?_));simp only[zF,seval];refine AWp.block ?_;refine Fm (τ:=Nat×Sto) (λy=>[(0,.d (.sl (l.map An.A5))),(1,.fn fv caps),(7,(l.length:Int)),(8,(y.1:Int))]) (λy=>y.2) (λy=>y.1<=l.length/\(l.take y.1).any p=false/\Fr σ y.2 []) (λy=>l.length-y.1) (0,σ) ⟨Bq _,rfl,Fr.refl _ _⟩ (AU rfl) ?_;rintro⟨k,s⟩ ⟨hk,hi,hf⟩;simp only at hk hi hf;refine AWp.seq (Bu rfl _ _ _ _ ?_);by_cases h:k<l.length
 ·have hs:=K_ p l k h;generalize hxx:l.getD k default=x at *;simp only[zF,seval,(oo:(k:Int)<l.length)];refine Cu ?_;refine Pq ?_;refine Cu ?_;refine Eu ?_;refine bK ?_;refine Be ((hp x s hf).mono λr s2 hr=>?_);obtain⟨rfl,hf2⟩:=hr;refine C0 ?_;apply ifC.mk<;>intro hc
  ·refine⟨_,_,Bg.refl _ _ _,?_,hf.trans hf2 A6⟩;rw[QP h hi (by rw[hxx];exact hc)]
  refine Hc ?_;exact⟨(k+1,s2),⟨AQ,by simp only;rw[hs,hi,hc];rfl,hf.trans hf2 A6⟩,AQ,AU rfl⟩
 have hk2:k=l.length:=oo;subst hk2;simp only[zF,seval,(oo:¬(l.length:Int)<l.length)];refine AWp.seq (Bu rfl _ _ _ _ ?_);simp only[zF,seval];refine Bu rfl _ _ _ _ ?_;simp only[zF,seval];rw[BL] at hi;exact⟨_,_,Bg.refl _ _ _,by rw[NL hi],hf⟩
def yY{l:Av}{M b1 b2 w:Nat}{X Y:AV}(i:Nat)(hi:i<(Ah l.parts).length)(x:An){s:Sto}(h1:A1 s b1=.box 1 (.ptr w 0))(h2:A1 s b2=.box 1 (.d (.int .i64 (i:Nat))))(hw:A1 s w=DY l M X Y):
  AW prog Gl 210 [.d x.A5,.ptr b1 0,.ptr b2 0] s (λr s'=>r=.d (.bool (x.id==((Ah l.parts).getD i default).1))/\Fr s s' []):=by
 rw[FJ] at hw;have l1:=AG h1 rfl;have l2:=AG h2 rfl;have lw:=AG hw rfl;refine Fv func210 rfl rfl (by simp[ntmps210]) ?_;simp only[ntmps210,results210,B6,C6];generalize hII:Ah l.parts=IDS at *;refine AWp.seq (Bu rfl _ _ _ _ ?_);simp only[zF,seval];refine AWp.seq (Bu rfl _ _ _ _ ?_);simp only[zF,seval,h1,h2,hw,l1,l2,lw];refine⟨.inl Ax,?_⟩;simp only[zF,seval,h1,h2,hw,l1,l2,lw,(oo:(i:Int)<IDS.length),hi,Af _ _ _ (oo:i<IDS.length),idD];refine Bu rfl _ _ _ _ ?_;simp only[zF,seval];exact⟨_,_,Bg.refl _ _ _,rfl,Fr.app _ _⟩
def Sb(A9:List An)(t:Int):Int:=(A9.getD (Ew (λx:An=>x.id==t) A9).toNat default).Gt
def wO{α:Type}[Inhabited α]{p:α->Bool}{l:List α}(h:l.any p=true):∃k:Nat,Ew p l=k/\k<l.length/\p (l.getD k default)=true:=by
 induction l with
 | nil=>cases h
 | cons a r ih=>
  unfold Ew;by_cases ha:p a=true
  ·rw[AD ha];exact⟨0,rfl,A6,ha⟩
  rw[A7 ha];obtain⟨k,h1,h2,h3⟩:=ih (by simpa[ha] using h);rw[h1,A7 oo];exact⟨k+1,oo,DN,Gv⟩
def vw{l:Av}(hs:l.BZ){M w:Nat}{X Y:AV}(i:Nat)(hi:i<(Ah l.parts).length)(ht:(l.A9.any λx=>x.id==((Ah l.parts).getD i default).1)=true){S:Sto}(hw:A1 S w=DY l M X Y):
  AW prog Gl 183 [.ptr w 0,((i:Nat):Int)] S (λr s'=>r=.d (.int .i64 (Sb l.A9 ((Ah l.parts).getD i default).1))/\Fr S s' []):=by
 obtain⟨k,hk1,hk2,_⟩:=wO ht;have hd:Sb l.A9 ((Ah l.parts).getD i default).1=(l.A9.getD k default).Gt:=by rw[Sb,hk1];rfl
 have lw0:=AG hw rfl;refine Fv func183 rfl rfl (by simp[ntmps183]) ?_;simp only[ntmps183,results183,B6,C6];refine AWp.seq (Bu rfl _ _ _ _ ?_);simp only[zF,seval];have hf1:Fr S (S++[.box 1 (.ptr w 0),.box 1 (.d (.int .i64 (i:Nat)))]) []:=Fr.app _ _;have hw1:=hf1.at hw rfl A6;have g1:A1 (S++[.box 1 (.ptr w 0),.box 1 (.d (.int .i64 (i:Nat)))]) S.length=.box 1 (.ptr w 0):=OD;have g2:A1 (S++[.box 1 (.ptr w 0),.box 1 (.d (.int .i64 (i:Nat)))]) (S.length+1)=.box 1 (.d (.int .i64 (i:Nat))):=Mb;generalize (S++[.box 1 (.ptr w 0),.box 1 (.d (.int .i64 (i:Nat)))])=s at *;have hw2:=hw1;rw[FJ] at hw2;have lw:=AG hw2 rfl;have l1:=AG g1 rfl;have l2:=AG g2 rfl;refine AWp.seq (Bu rfl _ _ _ _ ?_);simp only[zF,seval,hw2,lw,g1,g2,l1,l2];refine Be ((qS (Gl:=Gl) 210 [.ptr S.length 0,.ptr (S.length+1) 0] _ (σ:=s) (λx s' hf=>yY i hi x (hf.at g1 rfl A6) (hf.at g2 rfl A6) (hf.at hw1 rfl A6)) l.A9 (by have:=hs.A9;omega)).mono λr s2 hr=>?_);obtain⟨rfl,hf2⟩:=hr;have g12:=hf2.at g1 rfl A6;have hw3:=hf2.at hw2 rfl A6;have l12:=AG g12 rfl;have lw3:=AG hw3 rfl;rw[hk1];simp only[zF,seval];refine Bu rfl _ _ _ _ ?_;simp only[zF,seval,g12,l12,hw3,lw3,(oo:(k:Int)<l.A9.length),hk2,Af _ _ _ (oo:k<l.A9.length)];exact⟨_,_,Bg.refl _ _ _,by rw[hd],hf1.trans hf2 A6⟩
def NK{ρ:List Nat}{id:Nat}(h:id∈ρ):∃j,Bn ρ id=some j:=by
 cases hx:Bn ρ id with
 | some j=>exact⟨j,rfl⟩
 | none=>
  unfold Bn at hx;have:=aV.1 hx id h;simp at this
def Ue{G:List Nat}{id j N:Nat}(h:Bn G id=some j):Cq G N j=id:=by
 have h2:=MF h;have hj:j<G.length:=by
  rcases B9 j G.length with h'|h'
  ·exact h'
  rw[Bt h'] at h2;cases h2
 unfold Cq;rw[AD hj,B5,h2];rfl
def r_{S:Sto}{R:List Nat}{G es:Nat}{zs:List D}(hlt:∀id∈G::R,id<S.length)(hnd:(G::R).Nodup)
  (hcl:∀i∈R,Cc (Cq (G::R) S.length) (Ca (G::R) S (A1 S i))=A1 S i):Ds (G::R) S (.arr es zs::(C1 (G::R) S).tail)=S.set G (.arr es zs):=by
 have hlen:(Blk.arr es zs::(C1 (G::R) S).tail).length=(G::R).length:=by simp[C1]
 apply HY
 ·simp[Ds,C1]
 intro k h1 h2;simp only[Ds,H9,MW];have hk:k<S.length:=DN;rw[R6];cases e:Bn (G::R) k with
 | some j=>
  have e2:=MF e;simp only;cases j with
  | zero=>
   have:G=k:=by simpa using e2
   rw[AD this];rfl
  | succ j=>
   have hm:R[j]? = some k:=by simpa using e2
   have hmem:=Dn hm;have hne:¬G=k:=λhh=>by subst hh;exact(JW.1 hnd).1 hmem
   rw[A7 hne];have h3:A1 (Blk.arr es zs::(C1 (G::R) S).tail) (j+1)=Ca (G::R) S (A1 S k):=by
    have:=ME (σ:=S) e2;rw[<-this];unfold A1;simp[C1]
   rw[h3,hcl k hmem];unfold A1;simp[hk]
 | none=>
  have hne:¬G=k:=λhh=>by
   obtain⟨j,hj⟩:=NK (ρ:=G::R) (id:=k) (by rw[hh];simp);rw[e] at hj;cases hj
  rw[A7 hne];simp only[hk,By];unfold A1;simp[hk]
def rJ{n:Nat}{all:Array Oper}{rest:List Oper}{KK:Env->Sto->Prop}{env:Env}{S:Sto}{f:FuncId}{ag caps ag':List AV}{dst:Option Tmp}{es:Nat}{xs zs:List D}(G:Nat)(K:List Nat)(hlt:∀id∈G::K,id<S.length)(hnd:(G::K).Nodup)
  (hcl:∀i∈K,Cc (Cq (G::K) S.length) (Ca (G::K) S (A1 S i))=A1 S i) (hb:A1 S G=.arr es xs) (he:(ag++caps).map (BJ (G::K) S)=ag')
  (h:AW prog Gl f ag' (.arr es xs::(C1 (G::K) S).tail) (λr s=>r=.Aj []/\s=.arr es zs::(C1 (G::K) S).tail)) (h2:Ab prog Gl n all false rest (AJ env dst (.Aj [])) (S.set G (.arr es zs)) KK) :
  FT prog Gl n all false dst rest (.fn f caps) ag env S KK:=by
 have e:C1 (G::K) S=.arr es xs::(C1 (G::K) S).tail:=by
  simp[C1,hb,Ca]
 refine Be ((AW.under (G::K) hnd hlt (R:=λr s=>r=.Aj []/\s=.arr es zs::(C1 (G::K) S).tail) (by rw[he,e];exact h)).mono λr s hr=>?_);obtain⟨r0,s0,⟨rfl,rfl⟩,rfl,rfl⟩:=hr;rw[SH,r_ hlt hnd hcl];exact h2
def XB{G:List Nat}{S:Sto}{id j o:Nat}(h:Bn G id=some j):DJ G S (.ptr id o)=.ptr j o:=by simp only[DJ,h]
def UN{G:List Nat}{S:Sto}{id j o k:Nat}(h:Bn G id=some j):DJ G S (.A8 id o k)=.A8 j o k:=by simp only[DJ,h]
def zk{G:List Nat}{S:Sto}{id j:Nat}(h:Bn G id=some j):DJ G S (.AF id)=.AF j:=by simp only[DJ,h]
def Q6q{G:List Nat}{S:Sto}{id N:Nat}(h:id∈G):Cc (Cq G N) (Ca G S (.box 1 (.ptr id 0)))=.box 1 (.ptr id 0):=by
 obtain⟨j,hj⟩:=NK h;simp only[Ca,BJ,XB hj,Cc,BK,Ue hj]
def vL{ρ:List Nat}{σ:Sto}{N M q n:Nat}{l:Av}{e:List D}(hM:M∈ρ)(hq:q∈ρ):∃jM jq,Ca ρ σ (DY l M (.d (.sl e)) (.A8 q 0 n))=DY l jM (.d (.sl e)) (.A8 jq 0 n)/\Cc (Cq ρ N) (DY l jM (.d (.sl e)) (.A8 jq 0 n))=DY l M (.d (.sl e)) (.A8 q 0 n):=by
 obtain⟨jM,hjM⟩:=NK hM;obtain⟨jq,hjq⟩:=NK hq;refine⟨jM,jq,?_,?_⟩
 ·rw[FJ,FJ];have hm:[AV.d (.sl (l.A9.map An.A5)),.d (.sl (l.AZ.map BC.A5)),.d (.sl (l.AK.map B3.A5)),.d (.sl (l.parts.map Ao.A5)),.d (.sl ((Ah l.parts).map idD)),.AF M,.d (.sl e),.A8 q 0 n].map (DJ ρ σ)=[AV.d (.sl (l.A9.map An.A5)),.d (.sl (l.AZ.map BC.A5)),.d (.sl (l.AK.map B3.A5)),.d (.sl (l.parts.map Ao.A5)),.d (.sl ((Ah l.parts).map idD)),.AF jM,.d (.sl e),.A8 jq 0 n]:=by
   simp only[Ci,E9,zk hjM,UN hjq];rfl
  simp only[Ca,BJ,hm];rfl
 rw[FJ,FJ];simp only[Cc,BK,IB,Ue hjM,Ue hjq]
def Q6r{G:List Nat}{S:Sto}{b:Nat->Nat}{ik:Option IntKind}{f:Aw->Option AV}(h:∀k v,f k=some v->∃d,v=.d d):Cc b (Ca G S (.map ik f))=.map ik f:=by
 simp only[Ca,Cc];congr 1;funext k;cases hf:f k with
 | none=>rfl
 | some v=>obtain⟨d,rfl⟩:=h k v hf;rfl
def Q6p{G:List Nat}{S:Sto}{N es n:Nat}{A:Nat->Nat}{len:Nat->Nat}(h:∀i,i<n->A i∈G):Cc (Cq G N) (Ca G S (.var es ((List.range n).map λi=>.A8 (A i) 0 (len i))))=.var es ((List.range n).map λi=>.A8 (A i) 0 (len i)):=by
 have h1:∀c∈((List.range n).map λi=>AV.A8 (A i) 0 (len i)).map (DJ G S),AV.one c=true:=λc hc=>by
  obtain⟨c0,hc0,rfl⟩:=C4.1 hc;obtain⟨i,hi,rfl⟩:=C4.1 hc0;obtain⟨j,hj⟩:=NK (h i (CI.1 hi));rw[UN hj];rfl
 simp only[Ca];rw[AD (EW.2 h1)];simp only[Cc,Hs];congr 1;refine MX λi hi=>?_;obtain⟨j,hj⟩:=NK (h i (CI.1 hi));simp only[Function.comp];rw[UN hj,BK,Ue hj]
def iZ(ids:List (Int×Int)):∀(n:Nat) (k:Aw) (v:AV),Jz ids n k=some v->∃d,v=.d d
 | 0,k,v,h=>D8
 | n+1,k,v,h=>by
  unfold Jz BO at h;split at h
  ·cases h;exact⟨_,rfl⟩
  exact iZ ids n k v h

structure GI(σ:Sto)(T N:Nat)(g:Int->List Int)(f:Aw->Option AV)(ta:Int->Nat):Prop where
 Ad:A1 σ T=.map (some .i64) f
 look:∀d,f (.i d)=if g d=[] then none else some (.A8 (ta d) 0 (g d).length)
 row:∀d,g d≠[]->A1 σ (ta d)=.arr 1 ((g d).map (.int .i64))
 inj:∀d e,g d≠[]->g e≠[]->ta d=ta e->d=e
 low:∀d,g d≠[]->N<=ta d
def GI.ext{S s:Sto}{T N:Nat}{g:Int->List Int}{f:Aw->Option AV}{ta:Int->Nat}(h:GI S T N g f ta)(hf:Fr S s []):GI s T N g f ta:=
 ⟨hf.at h.Ad rfl A6,h.look,λd hd=>hf.at (h.row d hd) rfl A6,h.inj,h.low⟩
def GI.Ev{S s:Sto}{T N X:Nat}{g:Int->List Int}{f:Aw->Option AV}{ta:Int->Nat}{ids:List Nat}(h:GI S T N g f ta)(d:Int)(r:List Int)(hr:r≠[])(hf:Fr S s ids)(hids:∀j∈ids,j=T\/(g d≠[]/\j=ta d))(hX:S.length<=X)(hN:N<=S.length)
  (bT:A1 s T=.map (some .i64) (BO f (.i d) (.A8 X 0 r.length))) (bX:A1 s X=.arr 1 (r.map (.int .i64))):GI s T N (Ae g d r) (BO f (.i d) (.A8 X 0 r.length)) (Ae ta d X):=by
 have hlt:∀e,g e≠[]->ta e<S.length:=λe he=>AG (h.row e he) rfl;refine⟨bT,λe=>?_,λe he=>?_,λa b ha hb e=>?_,λe he=>?_⟩
 ·by_cases x:e=d
  ·subst x;simp[BO,Ae,hr]
  have:¬Aw.i e=Aw.i d:=λh=>x TT;simp only[BO,A7 this,Ae,A7 x];exact h.look e
 ·by_cases x:e=d
  ·subst x;simp only[Ae,By];exact bX
  simp only[Ae,A7 x] at he ⊢;refine hf.at (h.row e he) rfl λhm=>?_;rcases hids _ hm with y|⟨y1,y2⟩
  ·exact AX (h.row e he) h.Ad A6 y
  exact x (h.inj e d he y1 y2)
 ·simp only[Ae] at ha hb e;by_cases xa:a=d<;>by_cases xb:b=d
  ·rw[xa,xb]
  ·simp only[xa,xb,By,CF] at ha hb e;have:=hlt b hb;omega
  ·simp only[xa,xb,By,CF] at ha hb e;have:=hlt a ha;omega
  simp only[xa,xb,CF] at ha hb e;exact h.inj a b ha hb e
 by_cases x:e=d
 ·subst x;simp only[Ae,By];omega
 simp only[Ae,A7 x] at he ⊢;exact h.low e he
def DK(l:Av)(i:Nat):Int:=Sb l.A9 ((Ah l.parts).getD i default).1
def CR(l:Av):Nat->Int->List Int
 | 0=>λ_=>[]
 | k+1=>Ae (CR l k) (DK l k) (CR l k (DK l k)++[(k:Int)])
def QB(l:Av):∀k d,(CR l k d).length<=k
 | 0,_=>by simp[CR]
 | k+1,d=>by
  unfold CR Ae;split
  ·have:=QB l k (DK l k);simp;omega
  have:=QB l k d;omega
def atI(e:List EvT)(x:Int):Int:=(e.getD x.toNat default).at_
def Hp(e:List EvT)(g:List Int)(i:Nat):Nat:=i+((g.drop i).takeWhile λx=>atI e x==atI e (g.getD i default)).length
def GN(es r:List Int)(nx:Nat->List Int):Nat->List Int:=es.foldl (λnx x=>updQ nx x.toNat (nx x.toNat++r)) nx
def rdL(e:List EvT)(g:List Int):Nat->Nat->List Int->(Nat->List Int)->Nat->List Int
 | 0,_,_,nx=>nx
 | n+1,i,p,nx=>if i<g.length then rdL e g n (Hp e g i) ((g.take (Hp e g i)).drop i) (GN p ((g.take (Hp e g i)).drop i) nx) else nx
def G5(e:List EvT)(g:List Int):List Int:=DZ (λa b=>decide (EG (atI e a) (atI e b)<0)) g
def rdG(e:List EvT)(g:List Int)(nx:Nat->List Int):Nat->List Int:=rdL e g (g.length+1) 0 [] nx
def Q9p{l:Av}{M b1 w:Nat}{Y:AV}(x y:Int)(hx:0<=x/\x<(AI l.parts).length)(hy:0<=y/\y<(AI l.parts).length){s:Sto}(h1:A1 s b1=.box 1 (.ptr w 0))(hw:A1 s w=.box 8 (.agg [.d (.sl (l.A9.map An.A5)),.d (.sl (l.AZ.map BC.A5)),.d (.sl (l.AK.map B3.A5)),.d (.sl (l.parts.map Ao.A5)),.d (.sl ((Ah l.parts).map idD)),.AF M,.d (.sl ((AI l.parts).map EvT.A5)),Y])):
  AW prog Gl 185 [(x:Int),(y:Int),.ptr b1 0] s (λr s'=>r=.d (.int .i64 (EG (atI (AI l.parts) x) (atI (AI l.parts) y)))/\s'=s):=by
 have l1:=AG h1 rfl;have lw:=AG hw rfl;generalize AI l.parts=EV at *;obtain⟨i,rfl⟩:∃i:Nat,x=i:=⟨x.toNat,oo⟩;obtain⟨j,rfl⟩:∃j:Nat,y=j:=⟨y.toNat,oo⟩;have hi:i<EV.length:=oo;have hj:j<EV.length:=oo;refine Fv func185 rfl rfl (by simp[ntmps185]) ?_;simp only[ntmps185,results185,B6,C6];refine AWp.seq (Bu rfl _ _ _ _ ?_);simp only[zF,seval];refine AWp.seq (Bu rfl _ _ _ _ ?_);simp only[zF,seval,h1,hw,l1,lw];refine⟨.inl Ax,?_⟩;simp only[zF,seval,h1,hw,l1,lw,(oo:(i:Int)<EV.length),hi,Af _ _ _ (oo:i<EV.length),(oo:(j:Int)<EV.length),hj,Af _ _ _ (oo:j<EV.length)];refine Ak (MD _ _) ?_;simp only[zF,seval];refine Bu rfl _ _ _ _ ?_;simp only[zF,seval];exact⟨_,_,Bg.refl _ _ _,rfl,rfl⟩
def EF.hi{S s:Sto}{w M q:Nat}{l:Av}{K:Nat}{nx:Nat->List Int}{A:Nat->Nat}{ids:List Nat}{B:Nat}(h:EF S w M q l K nx A)(hf:Fr S s ids)(hids:∀j∈ids,B<=j)(hw:w<B)(hM:M<B)(hq:q<B)(hA:∀i,i<(AI l.parts).length->A i<B):EF s w M q l K nx A:=
 ⟨hf.at h.box rfl (λhm=>Pc),hf.at h.Ad rfl (λhm=>Pc),hf.at h.row rfl (λhm=>Pc),λi hi=>by
  obtain⟨xs,hx,hx2⟩:=h.cell i hi
  exact⟨xs,hf.at hx rfl (λhm=>by have:=hids _ hm;have:=hA i hi;omega),hx2⟩,h.inj⟩
def xA{α:Type}(m:α->Int):Sl λa b:α=>EG (m a) (m b):=by
 refine⟨λa=>?_,λa b d h1 h2=>?_,λa b d h1 h2=>?_⟩<;>simp only[EG] at *<;>(repeat' split at *)<;>(repeat' split)<;>omega
def wo(e:List EvT)(g:List Int)(hg:∀x∈g,0<=x/\x<e.length)(h0:g≠[])(hl:g.length<1000000)(fv:FuncId)(caps:List AV){T:Sto}
  (hcall:∀a b:Int,(0<=a/\a<e.length)->(0<=b/\b<e.length)->∀ys s,Ext (.arr 1 ys::T) s->AW prog Gl fv ([.d (.int .i64 a),.d (.int .i64 b)]++caps) s (λr s'=>r=.d (.int .i64 (EG (atI e a) (atI e b)))/\s'=s)) :
  AW prog Gl 184 [.A8 0 0 g.length,.fn fv caps] (.arr 1 (g.map (.int .i64))::T) (λr s=>r=.Aj []/\s=.arr 1 ((G5 e g).map (.int .i64))::T):=by
 have hin:∃x:Int,0<=x/\x<e.length:=by
  cases g with
  | nil=>exact absurd rfl h0
  | cons x r=>exact⟨x,hg x A6⟩
 obtain⟨x0,hx0⟩:=hin;haveI:Inhabited {x:Int // 0<=x/\x<e.length}:=⟨⟨x0,hx0⟩⟩;have hm:(g.attachWith (λx:Int=>0<=x/\x<e.length) hg).map Subtype.val=g:=A6;have hk:=Tp (Gl:=Gl) (τ:=T) u5 (α:={x:Int // 0<=x/\x<e.length}) (λa=>.int .i64 a.val) (λd=>match d with|.int _ k=>if h:0<=k/\k<(e.length:Int) then⟨k,h⟩ else default|_=>default) (λa=>by simp[a.2]) (λa=>⟨rfl,rfl⟩) (xA λa=>atI e a.val) fv caps (λa b ys s hs=>hcall a.val b.val a.2 b.2 ys s hs) (g.attachWith (λx:Int=>0<=x/\x<e.length) hg) Hb;have e1:(g.attachWith (λx:Int=>0<=x/\x<e.length) hg).map (λa:{x:Int // 0<=x/\x<e.length}=>D.int .i64 a.val)=g.map (.int .i64):=by
  conv=>rhs;rw[<-hm]
  rw[Hs];rfl
 rw[e1,List.length_attachWith] at hk;refine hk.mono λr s hr=>?_;obtain⟨rfl,rfl⟩:=hr;refine⟨rfl,?_⟩;congr 2;unfold G5
 conv=>rhs;rw[<-hm,S9]
 rw[Hs];rfl
def QC(l:Av):∀k d,∀x∈CR l k d,0<=x/\x<(k:Int)
 | 0,_,x,h=>D8
 | k+1,d,x,h=>by
  unfold CR Ae at h;split at h
  ·rcases CH.1 h with h|h
   ·have:=QC l k _ x h;omega
   have:=CG.1 h;omega
  have:=QC l k d x h;omega
def nxK(e:List EvT)(g:Int->List Int)(nx:Nat->List Int):List Aw->Nat->List Int
 | []=>nx
 | .i d::D=>rdG e (G5 e (g d)) (nxK e g nx D)
 | _::D=>nxK e g nx D
def jz(e:List EvT)(g:List Int)(i:Nat)(h:i<g.length):i<Hp e g i/\Hp e g i<=g.length:=by
 have h1:(g.drop i)=g.getD i default::g.drop (i+1):=by rw[aW h];simp[h]
 have hle:((g.drop i).takeWhile λx=>atI e x==atI e (g.getD i default)).length<=(g.drop i).length:=(aQ _).length_le;unfold Hp;rw[Ja] at hle;refine⟨?_,oo⟩;rw[h1,List.takeWhile_cons];simp
def v7(e:List EvT)(g:List Int)(i m:Nat)(h1:i<=m)(h2:m<Hp e g i):m<g.length/\atI e (g.getD m default)=atI e (g.getD i default):=by
 unfold Hp at h2;have hle:((g.drop i).takeWhile λx=>atI e x==atI e (g.getD i default)).length<=(g.drop i).length:=(aQ _).length_le;rw[Ja] at hle;have hm:m<g.length:=oo;refine⟨hm,?_⟩;have hlt:m-i<((g.drop i).takeWhile λx=>atI e x==atI e (g.getD i default)).length:=oo;have hmem:=FZ hlt;have h3:=EW.1 (List.all_takeWhile (p:=λx=>atI e x==atI e (g.getD i default)) (l:=g.drop i)) _ hmem;have h4:((g.drop i).takeWhile λx=>atI e x==atI e (g.getD i default))[m-i]=(g.drop i)[m-i]' RL:=(aQ _).getElem hlt;rw[h4] at h3;simp only[List.getElem_drop,show i+(m-i)=m by omega] at h3;have h5:g.getD m default=g[m]:=by simp[hm]
 rw[h5];exact Es h3
def zp(e:List EvT)(g:List Int)(i:Nat)(hi:i<=g.length)(h:Hp e g i<g.length):atI e (g.getD (Hp e g i) default)≠atI e (g.getD i default):=by
 have key:∀(l:List Int) (p:Int->Bool),(l.takeWhile p).length<l.length->p (l.getD (l.takeWhile p).length default)=false:=λl p=>by
  induction l with
  | nil=>intro h;simp at h
  | cons a r ih=>
   intro h;rw[List.takeWhile_cons] at h ⊢;cases hp:p a with
   | true=>
    rw[hp] at h;simp only[By,CT] at h ⊢;have:=ih oo;exact Ll
   | false=>simp only[Cx,CF,C6];simpa using hp
 unfold Hp at h ⊢;have:=key (g.drop i) (λx=>atI e x==atI e (g.getD i default)) RL;rw[show(g.drop i).getD ((g.drop i).takeWhile λx=>atI e x==atI e (g.getD i default)).length default=g.getD (i+((g.drop i).takeWhile λx=>atI e x==atI e (g.getD i default)).length) default by simp[B5,IW]] at this;intro hh;rw[hh] at this;simp at this
def Uj{r:List Int}{k:Nat}(hr:r.length<=k):∀(p:List Int) {nx:Nat->List Int} {b:Nat},(∀x,(nx x).length<=b)->∀x,(GN p r nx x).length<=b+p.length*k
 | [],nx,b,h,x=>by have:=h x;simpa[GN] using this
 | y::p,nx,b,h,x=>by
  have h2:∀z,(updQ nx y.toNat (nx y.toNat++r) z).length<=b+k:=λz=>by
   unfold updQ;split
   ·have:=h y.toNat;simp;omega
   have:=h z;omega
  have:=Uj hr p h2 x;show(GN p r (updQ nx y.toNat (nx y.toNat++r)) x).length<=_;rw[CT,E8];omega
def Yk(e:List EvT)(g:List Int)(hg:g.length<=24):∀(n i:Nat) (p:List Int) {nx:Nat->List Int} {b:Nat},p.length<=24->(∀x,(nx x).length<=b)->∀x,(rdL e g n i p nx x).length<=b+576*(g.length-i)
 | 0,i,p,nx,b,hp,h,x=>by have:=h x;rw[rdL];omega
 | n+1,i,p,nx,b,hp,h,x=>by
  unfold rdL;split
  ·rename_i hi;obtain⟨h1,h2⟩:=jz e g i hi;have hr:((g.take (Hp e g i)).drop i).length<=24:=ly;have h3:∀x,(GN p ((g.take (Hp e g i)).drop i) nx x).length<=b+576:=λx=>by
    have:=Uj hr p h x;have:p.length*24<=24*24:=EC _ hp;omega
   have:=Yk e g hg n (Hp e g i) ((g.take (Hp e g i)).drop i) hr h3 x;omega
  have:=h x;omega
def O_(e:List EvT)(g:List Int):(G5 e g).length=g.length:=MG _ _
def Wx(e:List EvT)(g:Int->List Int)(hg:∀d,(g d).length<=24){nx:Nat->List Int}{b:Nat}(h:∀x,(nx x).length<=b):∀(D:List Aw) x,(nxK e g nx D x).length<=b+13824*D.length
 | [],x=>h x
 | .i d::D,x=>by
  have:=Yk e (G5 e (g d)) (by rw[O_];exact hg d) ((G5 e (g d)).length+1) 0 [] A6 (Wx e g hg h D) x;rw[O_] at this;have:=hg d;rw[nxK,rdG,CT,O_];omega
 | .s _::D,x=>lx
 | .p _ _::D,x=>lx
def jC{α:Type}[DecidableEq α]:∀(l m:List α),l.Nodup->(∀x∈l,x∈m)->l.length<=m.length
 | [],m,_,_=>Bq _
 | a::l,m,hn,hs=>by
  obtain⟨h1,h2⟩:=JW.1 hn;have ha:=hs a A6;have h3:=jC l (m.erase a) h2 λx hx=>(List.mem_erase_of_ne (λe=>h1 (by rw[<-e];exact hx))).2 (hs x (Cy _ hx));rw[lC ha] at h3;have:=List.length_pos_of_mem ha;rw[CT];omega
def f_(l:Av):∀k d,CR l k d≠[]->∃i,i<k/\DK l i=d
 | 0,d,h=>absurd rfl h
 | k+1,d,h=>by
  by_cases e:d=DK l k
  ·exact⟨k,oo,e.symm⟩
  unfold CR Ae at h;rw[A7 e] at h;obtain⟨i,h1,h2⟩:=f_ l k d h;exact⟨i,oo,h2⟩
def x5(l:Av)(n:Nat){D:List Aw}(hn:D.Nodup)(hk:∀k∈D,∃d,k=.i d/\CR l n d≠[]):D.length<=n:=by
 have:=jC D ((List.range n).map λi=>Aw.i (DK l i)) hn λk hkm=>by
  obtain⟨d,rfl,hd⟩:=hk k hkm;obtain⟨i,hi,rfl⟩:=f_ l n d hd;exact C4.2 ⟨i,CI.2 hi,rfl⟩
 exact Ll
def EF.AH{σ s:Sto}{w M q:Nat}{l:Av}{K:Nat}{nx:Nat->List Int}{A:Nat->Nat}{ids:List Nat}(h:EF σ w M q l K nx A)(hf:Fr σ s ids)(hw:w∉ids)(hM:M∉ids)(hq:q∉ids)(hA:∀i,i<(AI l.parts).length->A i∉ids):EF s w M q l K nx A:=
 ⟨hf.at h.box rfl hw,hf.at h.Ad rfl hM,hf.at h.row rfl hq,λi hi=>by
  obtain⟨xs,hx,hx2⟩:=h.cell i hi
  exact⟨xs,hf.at hx rfl (hA i hi),hx2⟩,h.inj⟩
structure pR(l:Av)(b1 N w M q:Nat)(nx:Nat->List Int)(g:Int->List Int)(ta:Int->Nat)(σ:Sto)(Z:Nat)(D:List Aw)(S:Sto):Prop where
 lo:Lo N σ S
 bx:A1 S b1=.box 1 (.ptr w 0)
 nd:D.Nodup
 key:∀k∈D,∃d,k=.i d/\g d≠[]
 row:∀d,g d≠[]->.i d∉D->A1 S (ta d)=.arr 1 ((g d).map (.int .i64))
 Pr:∃A,(∀i,i<(AI l.parts).length->N<=A i/\(A i<b1\/Z<=A i))/\EF S w M q l (AI l.parts).length (nxK (AI l.parts) g nx D) A
structure BI(l:Av)(b1 N w M q Z G:Nat)(g:Int->List Int)(ta:Int->Nat)(σ:Sto)(D:List Aw)(gs:List Int)(nx:Nat->List Int)(S:Sto):Prop where
 lo:Lo N σ S
 bx:A1 S b1=.box 1 (.ptr w 0)
 BS:A1 S Z=.BS 0 []
 cur:A1 S G=.arr 1 (gs.map (.int .i64))
 row:∀d,g d≠[]->.i d∉D->A1 S (ta d)=.arr 1 ((g d).map (.int .i64))
 Pr:∃A,(∀i,i<(AI l.parts).length->N<=A i/\(A i<b1\/Z<=A i))/\EF S w M q l (AI l.parts).length nx A
def BI.step{l:Av}{b1 N w M q Z G:Nat}{g:Int->List Int}{ta:Int->Nat}{K S S':Sto}{D:List Aw}{gs:List Int}{nx nx':Nat->List Int}(h:BI l b1 N w M q Z G g ta K D gs nx S)(hG:b1<=G/\G<Z)(hta:∀d,g d≠[]->b1<=ta d/\ta d<Z)(hq:N<=q)
  {A A':Nat->Nat} (hAb:∀i,i<(AI l.parts).length->N<=A i/\(A i<b1\/Z<=A i)) (hI:EF S w M q l (AI l.parts).length nx A) {i:Nat} (hi:i<(AI l.parts).length) (hf:Fr S S' [q,A i])
  (hAb':∀i,i<(AI l.parts).length->N<=A' i/\(A' i<b1\/Z<=A' i)) (hI':EF S' w M q l (AI l.parts).length nx' A'):BI l b1 N w M q Z G g ta K D gs nx' S':=by
 obtain⟨xs,hx,_⟩:=hI.cell i hi;have hAi:=hAb i hi;refine⟨h.lo.trans (Fr.lo hf Ap),hf.at h.bx rfl ?_,hf.at h.BS rfl ?_,hf.at h.cur rfl ?_,λd hd hD=>hf.at (h.row d hd hD) rfl ?_,A',hAb',hI'⟩
 ·simp only[Bw,En,E6,FW];exact⟨AX h.bx hI.row A6,AX h.bx hx A6⟩
 ·simp only[Bw,En,E6,FW];exact⟨AX h.BS hI.row A6,AX h.BS hx A6⟩
 ·simp only[Bw,En,E6,FW];exact⟨AX h.cur hI.row A6,oo⟩
 have:=hta d hd;simp only[Bw,En,E6,FW];exact⟨AX (h.row d hd hD) hI.row A6,oo⟩
def PV(G:Nat)(gs:List Int)(pv:AV)(p:List Int):Prop:=(pv=.AA/\p=[])\/∃a b,a<=b/\b<=gs.length/\pv=.A8 G a (b-a)/\p=(gs.take b).drop a
def apQ(s:Sto)(q Ai i:Nat)(cells:List AV)(len:Nat)(xs:List D)(b6 b8:Bool):Sto:=
 if b8=true then(s.set Ai .dead++[Blk.arr 1 xs]).set q (.var 1 (cells.set i (.A8 s.length 0 len)))
 else if b6=true then s.set Ai .dead++[Blk.arr 1 xs] else s
def Wa{s:Sto}{q Ai i len:Nat}{cells:List AV}{xs:List D}{b6 b8:Bool}{w:Nat}{B:Blk}(h:A1 s w=B)(hd:B.AP=false)(hq:w≠q)(hA:w≠Ai):A1 (apQ s q Ai i cells len xs b6 b8) w=B:=by
 have hl:=AG h hd;unfold apQ;split
 ·rw[As hq.symm,BB Hb,As hA.symm];exact h
 split
 ·exact WK
 exact h
def kd{s:Sto}{q Ai i len:Nat}{cells:List AV}{xs:List D}{b6:Bool}{B:Blk}(h:A1 s q=B)(hd:B.AP=false)(hA:q≠Ai):A1 (apQ s q Ai i cells len xs b6 false) q=B:=by
 have hl:=AG h hd;unfold apQ;rw[A7 A6];split
 ·exact WK
 exact h
def Q96(s:Sto)(q Ai i:Nat)(cells:List AV)(len:Nat)(xs:List D):apQ s q Ai i cells len xs false false=s:=rfl
def Zm(s:Sto)(q Ai i:Nat)(cells:List AV)(len:Nat)(xs:List D):apQ s q Ai i cells len xs true false=s.set Ai .dead++[Blk.arr 1 xs]:=rfl
def Zn(s:Sto)(q Ai i:Nat)(cells:List AV)(len:Nat)(xs:List D)(b:Bool):apQ s q Ai i cells len xs b true=(s.set Ai .dead++[Blk.arr 1 xs]).set q (.var 1 (cells.set i (.A8 s.length 0 len))):=rfl
def Q6z(s:Sto)(q Ai i:Nat)(cells:List AV)(len:Nat)(xs:List D)(b c:Bool):Fr s (apQ s q Ai i cells len xs b c) [q,Ai]:=by
 unfold apQ;split
 ·exact o9
 split
 ·exact mr
 exact Fr.refl _ _
def rY(p r:List Int)(nx:Nat->List Int)(m:Nat)(h:m<p.length):GN (p.take (m+1)) r nx=updQ (GN (p.take m) r nx) (p.getD m default).toNat (GN (p.take m) r nx (p.getD m default).toNat++r):=by
 rw[CY p m h,GN,GD];rfl
set_option maxHeartbeats 8000000 in
def Qes(l:Av)(h:l.BZ)(hth:∀i,i<(Ah l.parts).length->(l.A9.any λx=>x.id==((Ah l.parts).getD i default).1)=true){Z:Sto}{N w M q:Nat}{A:Nat->Nat}{nx:Nat->List Int}(hI:EF Z w M q l (AI l.parts).length nx A)(hq:N<=q)(hA:∀i,i<(AI l.parts).length->N<=A i)(hN:N<=Z.length)(hnx:∀x,(nx x).length<=48):
  AW prog Gl 153 [.ptr w 0] Z (λr s=>r=.Aj []/\Lo N Z s/\∃D,D.Nodup/\(∀k∈D,∃d,k=.i d/\CR l (AI l.parts).length d≠[])/\(∀d,CR l (AI l.parts).length d≠[]->.i d∈D)/\∃A',(∀i,i<(AI l.parts).length->N<=A' i)/\EF s w M q l (AI l.parts).length (nxK (AI l.parts) (CR l (AI l.parts).length) nx D) A'):=by
 have hev:=h.A_;have hev24:(AI l.parts).length<=24:=by rw[NU];exact hev
 have hlI:(Ah l.parts).length=(AI l.parts).length:=Ma;refine Fv func153 rfl rfl (by simp[ntmps153]) ?_;simp only[ntmps153,results153,B6,C6];refine AWp.seq (Bu rfl _ _ _ _ ?_);simp only[zF,seval];refine AWp.seq (Bu rfl _ _ _ _ ?_);simp only[zF,seval];have hf0:Fr Z (Z++[.box 1 (.ptr w 0),.map (some .i64) λ_=>none]) []:=Fr.app _ _;have hI0:=hI.ext hf0;have hb0:A1 (Z++[.box 1 (.ptr w 0),.map (some .i64) λ_=>none]) Z.length=.box 1 (.ptr w 0):=OD;have hT0:A1 (Z++[.box 1 (.ptr w 0),.map (some .i64) λ_=>none]) (Z.length+1)=.map (some .i64) λ_=>none:=Mb;have hlo0:=Fr.lo (N:=N) hf0 A6;have hl0:(Z++[Blk.box 1 (.ptr w 0),.map (some .i64) λ_=>none]).length=Z.length+2:=A6;have lw0:=AG hI.box rfl;have lM0:=AG hI.Ad rfl;have lq0:=AG hI.row rfl;have hAlt:∀i,i<(AI l.parts).length->A i<Z.length:=λi hi=>by obtain⟨xs,hx,_⟩:=hI.cell i hi;exact AG hx rfl
 generalize (Z++[Blk.box 1 (.ptr w 0),.map (some .i64) λ_=>none])=s0 at *;clear hI hf0;have hbox:=hI0.box;rw[FJ] at hbox;have lbox:=AG hbox rfl;have lb0:=AG hb0 rfl;refine AWp.seq (AWp.seq (Bu rfl _ _ _ _ ?_));simp only[zF,seval,hbox,lbox,hb0,lb0];refine AWp.block ?_;refine Fm (τ:=Nat×Sto) (λy=>[(18,(y.1:Int)),(17,.d (.int .i64 (Ah l.parts).length)),(16,.d (.sl ((Ah l.parts).map idD))),(2,.AF (Z.length+1)),(1,.ptr Z.length 0)]) (λy=>y.2)
  (λy=>y.1<=(Ah l.parts).length/\Lo N Z y.2/\A1 y.2 Z.length=.box 1 (.ptr w 0)/\EF y.2 w M q l (AI l.parts).length nx A/\∃f ta,GI y.2 (Z.length+1) (Z.length+2) (CR l y.1) f ta) (λy=>(Ah l.parts).length-y.1) (0,s0) ⟨Bq _,hlo0,hb0,hI0,λ_=>none,λ_=>0,hT0,λd=>rfl,λd hd=>absurd rfl hd,λd e hd=>absurd rfl hd,λd hd=>absurd rfl hd⟩ (AU rfl) ?_
 clear hI0 hb0 hT0 hlo0 hbox lbox lb0 hl0;rintro⟨k,s⟩ ⟨hk,hlo,hb1,hI,f,ta,hG⟩;simp only at hk hlo hb1 hI hG;refine AWp.seq (Bu rfl _ _ _ _ ?_);by_cases hh:k<(Ah l.parts).length
 ·have hgl:=QB l k (DK l k);have hgs:CR l (k+1)=Ae (CR l k) (DK l k) (CR l k (DK l k)++[(k:Int)]):=rfl;simp only[zF,seval,(oo:(k:Int)<(Ah l.parts).length)];refine Cu ?_;refine Pq ?_;refine Cu ?_;have lb1:=AG hb1 rfl;refine Cf ?_;simp only[zF,seval,hb1,lb1];refine Be ((vw h k hh (hth k hh) hI.box).mono λr s2 hr=>?_);obtain⟨rfl,hf⟩:=hr;have hI2:=hI.ext hf;have hG2:=hG.ext hf;have hb2:=hf.at hb1 rfl A6;have hlo2:=hlo.trans (Fr.lo (N:=N) hf A6);rw[show Sb l.A9 ((Ah l.parts).getD k default).1=DK l k from rfl];refine C0 ?_;have hT:=hG2.Ad;have lT:=AG hT rfl;have hlk:=hG2.look (DK l k);have hls:=hf.1;refine Eu ?_;by_cases hg:CR l k (DK l k)=[]
  ·rw[AD hg] at hlk;simp only[zF,seval,hT,lT,hlk];refine Hc ?_;have hf2:Fr s2 (s2.set (Z.length+1) (.map (some .i64) (BO f (.i (DK l k)) (.A8 (s2.length+1) 0 1)))++[.arr 1 [.int .i64 (k:Int)],.arr 1 [.int .i64 (k:Int)]]) [Z.length+1]:=((Fr.refl s2 [Z.length+1]).set _ A6).trans (Fr.app _ _) A6;refine⟨(k+1,_),⟨AQ,hlo2.trans (Fr.lo hf2 Ap),hf2.at hb2 rfl A6,hI2.hi (B:=Z.length) hf2 A6 lw0 lM0 lq0 hAlt,BO f (.i (DK l k)) (.A8 (s2.length+1) 0 1),Ae ta (DK l k) (s2.length+1),?_⟩,AQ,AU rfl⟩;simp only;rw[hgs,hg,Vm];refine hG2.Ev (X:=s2.length+1) (DK l k) [(k:Int)] A6 hf2 (λj hj=>.inl Kt) oo oo ?_ ?_
   ·rw[BB Ap,BX lT];rfl
   rw[CE,A7 A6,BH,EB];rfl
  rw[A7 hg] at hlk;have hr:=hG2.row _ hg;have lr:=AG hr rfl;have hto:List.take (CR l k (DK l k)).length ((CR l k (DK l k)).map (D.int .i64))=(CR l k (DK l k)).map (D.int .i64):=Bi A6;have htT:ta (DK l k)≠Z.length+1:=AX hr hT A6;have htN:=hG2.low _ hg;simp only[zF,seval,hT,lT,hlk,hr,lr,hto,htT];refine⟨⟨oo,oo⟩,?_⟩;refine Hc ?_;have hf2:Fr s2 ((s2.set (ta (DK l k)) .dead).set (Z.length+1) (.map (some .i64) (BO f (.i (DK l k)) (.A8 (s2.length+1) 0 ((CR l k (DK l k)).length+1))))++[.arr 1 [.int .i64 (k:Int)],.arr 1 ((CR l k (DK l k)).map (.int .i64)++[.int .i64 (k:Int)])]) [ta (DK l k),Z.length+1]:=(((Fr.refl s2 [ta (DK l k),Z.length+1]).set _ A6).set _ A6).trans (Fr.app _ _) A6;refine⟨(k+1,_),⟨AQ,hlo2.trans (Fr.lo hf2 Ap),hf2.at hb2 rfl Ap,hI2.hi (B:=Z.length) hf2 Ap lw0 lM0 lq0 hAlt,BO f (.i (DK l k)) (.A8 (s2.length+1) 0 (CR l k (DK l k)++[(k:Int)]).length),Ae ta (DK l k) (s2.length+1),?_⟩,AQ,AU rfl⟩;simp only;rw[hgs];refine hG2.Ev (X:=s2.length+1) (DK l k) (CR l k (DK l k)++[(k:Int)]) A6 hf2 (λj hj=>?_) oo oo ?_ ?_
  ·simp only[Bw,En,E6] at hj;rcases hj with e|e
   ·exact .inr ⟨hg,e⟩
   exact .inl e
  ·rw[BB Ap,BX Ap,Bb];rfl
  rw[CE,A7 A6,BH,BH,EB,CA];rfl
 have hk2:k=(Ah l.parts).length:=oo;subst hk2;simp only[zF,seval,(oo:¬((Ah l.parts).length:Int)<(Ah l.parts).length)];refine AWp.seq (Bu rfl _ _ _ _ ?_);simp only[zF,seval];rw[hlI] at hG;have cT:=hG.Ad;have lT:=AG cT rfl;generalize hTT:Z.length+1=T at *;refine Qf2 (ik:=some .i64) (tM:=33) (tI:=34) (tN:=35) (tB:=36) (tE:=37) (t:=279) (e:=48) ?_ ?_ ?_ ?_ ?_ ?_ ?_ ?_ ?_ (D7:34<108) (D7:35<108) (D7:37<108) Ax ?_;rotate_left 9
 ·refine IK (K1:=λe1 s1=>Bc 108 Z.length e1 s1 [(1,.ptr Z.length 0),(33,.AF T)] s) (λe1 s1 hw=>⟨_,_,T,f,λD E S=>E=[(1,.ptr Z.length 0),(34,.ptr s.length 0)]/\A1 S s.length=.BS 0 []/\pR l Z.length N w M q nx (CR l (AI l.parts).length) ta Z s.length D S,hw,rfl,cT,?low,⟨_,_,AU ?wk,rfl,?BS,?ini⟩,?slot,?nx,?bd,?en⟩) _ _ _ ?op
  case low=>
   intro k v hk hv;cases k with
   | i d=>
    rw[hG.look d] at hv;split at hv
    ·cases hv
    rename_i hd;simp only[BF] at hv;subst hv;exact AG (hG.row d hd) rfl
   | _=>exact hk.elim
  case wk=>rfl
  case BS=>rw[CE,BH,A7 (R5 _),FA];rfl
  case ini=>
   have hfT:Fr s (s.set T .dead++[.BS 0 []]) [T]:=((Fr.refl s [T]).set _ A6).trans (Fr.app _ _) A6;refine⟨hlo.trans (Fr.lo hfT Ap),hfT.at hb1 rfl Ap,Ht,λk hk=>absurd hk A6,λd hd _=>hfT.at (hG.row d hd) rfl (by simpa using AX (hG.row d hd) cT A6),A,λi hi=>⟨hA i hi,.inl (hAlt i hi)⟩,hI.AH hfT Ap Ap Ap λi hi=>by have:=hAlt i hi;simp;omega⟩
  case slot=>intro D E S h;obtain⟨rfl,h,_⟩:=h;exact⟨rfl,h⟩
  case nx=>
   intro D E S h b;obtain⟨rfl,_,_⟩:=h;refine IK (K1:=λe1 s1=>e1=AJ (AJ [(1,.ptr Z.length 0),(34,.ptr s.length 0)] (some 35) (if b=true then .Aj [true,.undef,.undef] else .Aj [false])) (some 36) (.d (.bool b))/\s1=S) (λe1 s1 hw=>?_) _ _ _ ?_
   ·obtain⟨rfl,rfl⟩:=hw;refine⟨rfl,AU ?_⟩;cases b<;>rfl
   cases b
   ·simp only[zF,seval]
   simp only[zF,seval]
  case bd=>
   intro D E S k v hJ hkD hfit hfk;obtain⟨rfl,hfrz,hR⟩:=hJ;cases k with
   | s l=>exact hfit.elim
   | p a b=>exact hfit.elim
   | i d=>
    rw[hG.look d] at hfk;split at hfk
    ·cases hfk
    rename_i hd;simp only[BF] at hfk;subst hfk;refine IK (K1:=λe1 s1=>Bc 108 (s.length+1) e1 s1 [(1,.ptr Z.length 0),(6,.A8 (ta d) 0 (CR l (AI l.parts).length d).length),(34,.ptr s.length 0)] S) (λe1 s1 hw=>?_) _ _ _ ?_
    ·refine AWp.Cj hw ?_;obtain⟨A,hAb,hI⟩:=hR.Pr;have hrow:=hR.row d hd hkD;have hgm:=QC l (AI l.parts).length d;have hgl:=QB l (AI l.parts).length d;have hbx:=hR.bx;have hrow0:=hG.row d hd;have ltd:=AG hrow0 rfl;have htdN:=hG.low d hd;generalize hgg:CR l (AI l.parts).length d=g0 at *;refine Cu ?_;have hAn:∀i,i<(AI l.parts).length->A i≠ta d:=λi hi e=>by have:=(hAb i hi).2;omega
     have hbxw:Z.length≠w:=oo;have hAb1:∀i,i<(AI l.parts).length->A i≠Z.length/\A i≠w/\A i≠M/\A i≠q:=λi hi=>by
      obtain⟨xs,hx,_⟩:=hI.cell i hi;exact⟨AX hx hbx A6,AX hx hI.box OB,AX hx hI.Ad A6,AX hx hI.row A6⟩
     have hlt:∀id∈ta d::Z.length::w::M::q::(List.range (AI l.parts).length).map A,id<S.length:=λid hid=>by
      simp only[Bw,C4,CI] at hid;rcases hid with rfl|rfl|rfl|rfl|rfl|⟨j,hj,rfl⟩
      ·exact AG hrow rfl
      ·exact AG hbx rfl
      ·exact AG hI.box rfl
      ·exact AG hI.Ad rfl
      ·exact AG hI.row rfl
      obtain⟨xs,hx,_⟩:=hI.cell j hj;exact AG hx rfl
     have hndp:(ta d::Z.length::w::M::q::(List.range (AI l.parts).length).map A).Nodup:=by
      have hmr:∀x,(∀i,i<(AI l.parts).length->A i≠x)->x∉(List.range (AI l.parts).length).map A:=λx hx hm=>by
       obtain⟨i,hi,e⟩:=C4.1 hm;exact hx i (CI.1 hi) e
      have hwM:w≠M:=AX hI.box hI.Ad OB;have hwq:w≠q:=AX hI.box hI.row OB;have hMq:M≠q:=AX hI.Ad hI.row A6;refine JW.2 ⟨?_,JW.2 ⟨?_,JW.2 ⟨?_,JW.2 ⟨?_,JW.2 ⟨hmr q λi hi=>(hAb1 i hi).2.2.2,?_⟩⟩⟩⟩⟩
      ·simp only[Bw,FW];exact⟨oo,oo,oo,oo,hmr _ hAn⟩
      ·simp only[Bw,FW];exact⟨oo,oo,oo,hmr _ λi hi=>(hAb1 i hi).1⟩
      ·simp only[Bw,FW];exact⟨hwM,hwq,hmr _ λi hi=>(hAb1 i hi).2.1⟩
      ·simp only[Bw,FW];exact⟨hMq,hmr _ λi hi=>(hAb1 i hi).2.2.1⟩
      rw[List.Nodup,O8];exact List.nodup_range.imp_of_mem λ{a b} ha hb hab e=>hab (hI.inj a b (CI.1 ha) (CI.1 hb) e)
     have hmw:w∈ta d::Z.length::w::M::q::(List.range (AI l.parts).length).map A:=A6;have hmM:M∈ta d::Z.length::w::M::q::(List.range (AI l.parts).length).map A:=A6;have hmq:q∈ta d::Z.length::w::M::q::(List.range (AI l.parts).length).map A:=A6;have hmA:∀i,i<(AI l.parts).length->A i∈ta d::Z.length::w::M::q::(List.range (AI l.parts).length).map A:=λi hi=>by
      simp only[Bw];exact .inr (.inr (.inr (.inr (.inr (C4.2 ⟨i,CI.2 hi,rfl⟩)))))
     generalize hρ:Z.length::w::M::q::(List.range (AI l.parts).length).map A=G at *;obtain⟨jM,jq,hw1,hw2⟩:=vL (ρ:=ta d::G) (σ:=S) (N:=S.length) (M:=M) (q:=q) (n:=(AI l.parts).length) (l:=l) (e:=(AI l.parts).map EvT.A5) hmM hmq;have hcl:∀i∈G,Cc (Cq (ta d::G) S.length) (Ca (ta d::G) S (A1 S i))=A1 S i:=by
      intro i hi;rw[<-hρ] at hi;simp only[Bw,C4,CI] at hi;rcases hi with rfl|rfl|rfl|rfl|⟨j,hj,rfl⟩
      ·rw[hbx];exact Q6q hmw
      ·rw[hI.box,hw1,hw2]
      ·rw[hI.Ad];exact Q6r (iZ _ _)
      ·rw[hI.row];exact Q6p hmA
      obtain⟨xs,hx,_⟩:=hI.cell j hj;rw[hx];rfl
     obtain⟨jb,hjb⟩:=NK (ρ:=ta d::G) (id:=Z.length) (by rw[<-hρ];simp);obtain⟨jw,hjw⟩:=NK hmw;refine rJ (es:=1) (xs:=g0.map (.int .i64)) (zs:=(G5 (AI l.parts) g0).map (.int .i64)) (ta d) G hlt hndp hcl hrow (ag':=[.A8 0 0 g0.length,.fn 185 [.ptr jb 0]]) ?_ ?_ ?_
     ·have hj0:Bn (ta d::G) (ta d)=some 0:=by unfold Bn;rw[PZ];simp
      simp only[FY,Ci,E9,BJ,UN hj0,XB hjb]
     ·have hpos:∀{x j:Nat},Bn (ta d::G) x=some j->ta d≠x->0<j:=λ{x j} h hne=>by
       cases j with
       | zero=>have:=MF h;simp at this;exact absurd this hne
       | succ j=>omega
      have htl:∀(ys:List AM.D) (j:Nat),0<j->A1 (Blk.arr 1 ys::(C1 (ta d::G) S).tail) j=A1 (C1 (ta d::G) S) j:=λys j hj=>by
       cases j with
       | zero=>omega
       | succ j=>unfold A1;simp[C1]
      refine wo (AI l.parts) g0 hgm hd oo _ _ λa b ha hb ys s' hs=>?_;refine Q9p (M:=jM) (w:=jw) (Y:=.A8 jq 0 (AI l.parts).length) a b ha hb ?_ ?_
      ·have hb2:A1 (Blk.arr 1 ys::(C1 (ta d::G) S).tail) jb=.box 1 (.ptr jw 0):=by
        rw[htl ys jb (hpos hjb oo),ME (MF hjb),hbx];simp only[Ca,BJ,XB hjw]
       rw[hs.box (by rw[hb2];rfl),hb2]
      have hb2:A1 (Blk.arr 1 ys::(C1 (ta d::G) S).tail) jw=DY l jM (.d (.sl ((AI l.parts).map EvT.A5))) (.A8 jq 0 (AI l.parts).length):=by
       rw[htl ys jw (hpos hjw oo),ME (MF hjw),hI.box,hw1]
      rw[hs.box (by rw[hb2];rfl),hb2];rfl
     refine C0 ?_;have hgs:(G5 (AI l.parts) g0).length=g0.length:=O_ _ _;have hgsm:∀x∈G5 (AI l.parts) g0,0<=x/\x<((AI l.parts).length:Int):=λx hx=>hgm x ((LL _ _).mem_iff.1 hx);have hta:∀d',CR l (AI l.parts).length d'≠[]->Z.length<=ta d'/\ta d'<s.length:=λd' hd'=>⟨by have:=hG.low d' hd';omega,AG (hG.row d' hd') rfl⟩;have hfS:Fr S (S.set (ta d) (.arr 1 ((G5 (AI l.parts) g0).map (.int .i64)))) [ta d]:=(Fr.refl S [ta d]).set _ A6;have hDl:=x5 l (AI l.parts).length hR.nd hR.key;have hnl:=Wx (AI l.parts) (CR l (AI l.parts).length) (λd=>by have:=QB l (AI l.parts).length d;omega) hnx D;have hrd:rdL (AI l.parts) (G5 (AI l.parts) g0) ((G5 (AI l.parts) g0).length+1) 0 [] (nxK (AI l.parts) (CR l (AI l.parts).length) nx D)=nxK (AI l.parts) (CR l (AI l.parts).length) nx (.i d::D):=by rw[nxK,hgg,rdG]
     have hBI:BI l Z.length N w M q s.length (ta d) (CR l (AI l.parts).length) ta Z (.i d::D) (G5 (AI l.parts) g0) (nxK (AI l.parts) (CR l (AI l.parts).length) nx D) (S.set (ta d) (.arr 1 ((G5 (AI l.parts) g0).map (.int .i64)))):=by
      refine⟨hR.lo.trans (Fr.lo hfS Ap),hfS.at hR.bx rfl Ap,hfS.at hfrz rfl Ap,BX (AG hrow rfl),λd' hd' hD'=>hfS.at (hR.row d' hd' λh=>hD' (Cy _ h)) rfl ?_,A,hAb,hI.AH hfS Ap Ap Ap (λi hi=>by simpa using hAn i hi)⟩;simp only[CG];intro e;have:d'=d:=hG.inj d' d hd' (by rw[hgg];exact hd) e;exact hD' (by rw[this];simp)
     generalize hSS:S.set (ta d) (.arr 1 ((G5 (AI l.parts) g0).map (.int .i64)))=S1 at *;generalize G5 (AI l.parts) g0=gs at *;refine Pl ?_;refine Gg ?_;refine Fm (τ:=Nat×AV×Sto) (λy=>[(8,(y.1:Int)),(7,y.2.1),(6,.A8 (ta d) 0 gs.length),(1,.ptr Z.length 0),(34,.ptr s.length 0)]) (λy=>y.2.2)
      (λy=>y.1<=gs.length/\∃p nc fu,PV (ta d) gs y.2.1 p/\p.length<=24/\(∀x∈p,0<=x/\x<((AI l.parts).length:Int))/\(∀x,(nc x).length<=48+13824*D.length+576*y.1)/\gs.length-y.1<fu/\rdL (AI l.parts) gs fu y.1 p nc=nxK (AI l.parts) (CR l (AI l.parts).length) nx (.i d::D)/\BI l Z.length N w M q s.length (ta d) (CR l (AI l.parts).length) ta Z (.i d::D) gs nc y.2.2)
      (λy=>gs.length-y.1) (0,.AA,S1) ⟨Bq _,[],_,_,.inl ⟨rfl,rfl⟩,A6,λx hx=>absurd hx A6,by simpa using hnl,(by simp:gs.length-0<gs.length+1),hrd,hBI⟩ (AU (by rw[hgs];rfl)) ?_
     clear hBI hrd hSS hfS hI hrow hw1 hw2 hcl hlt hndp hmw hmM hmq hmA hjb hjw hρ hAn hAb1 hAb hbx;rintro⟨i,pv,S2⟩ ⟨hi,p,nc,fu,hpv,hp24,hpm,hnc,hfu,hrd,hB⟩;simp only at hi hpv hnc hfu hrd hB;have hcur:=hB.cur;have lcur:=AG hcur rfl;refine Hd ?_;by_cases hii:i<gs.length
     ·simp only[zF,seval,(oo:(i:Int)<gs.length)];refine GV ?_;obtain⟨hr1,hr2⟩:=jz (AI l.parts) gs i hii;have hrin:=v7 (AI l.parts) gs i;have hrst:=zp (AI l.parts) gs i hi;generalize hJJ:Hp (AI l.parts) gs i=J at *;refine Gg ?_;refine Cu ?_;refine AWp.seq (Rg (λe s'=>Bc 108 (s.length+1) e s' [(9,(J:Int)),(8,(i:Int)),(7,pv),(6,.A8 (ta d) 0 gs.length),(1,.ptr Z.length 0),(34,.ptr s.length 0)] S2) (AWp.block ?_) ?_);rotate_left 1
      ·intro e s' hw;refine AWp.Cj hw ?_;obtain⟨n,rfl⟩:∃n,fu=n+1:=⟨fu-1,oo⟩;rw[rdL,AD hii,hJJ] at hrd;have hrl:((gs.take J).drop i).length=J-i:=ly;have hg24:gs.length<=24:=oo;refine AWp.seq (Rg (λe s'=>∃S3,BI l Z.length N w M q s.length (ta d) (CR l (AI l.parts).length) ta Z (.i d::D) gs (GN p ((gs.take J).drop i) nc) S3/\Bc 108 (s.length+1) e s' [(9,(J:Int)),(8,(i:Int)),(6,.A8 (ta d) 0 gs.length),(1,.ptr Z.length 0),(34,.ptr s.length 0)] S3) ?_ ?_)
       ·rcases hpv with⟨rfl,rfl⟩|⟨a,b,hab,hbl,rfl,hpe⟩
        ·refine Cu ?_;refine Gg ?_;refine Fm (τ:=Nat) (λ_=>[(80,(0:Int)),(79,(0:Int)),(9,(J:Int)),(8,(i:Int)),(6,.A8 (ta d) 0 gs.length),(1,.ptr Z.length 0),(34,.ptr s.length 0)]) (λ_=>S2) (λ_=>True) (λ_=>0) 0 trivial (AU rfl) ?_;intro _ _;refine Pl ?_;exact⟨S2,hB,AU rfl⟩
        have hpl:p.length=b-a:=by rw[hpe,Ja,GU];omega
        have hpg:∀m,m<p.length->gs.getD (a+m) default=p.getD m default:=λm hm=>by
         rw[hpe];simp only[B5,IW];rw[GH oo]
        refine Cf ?_;simp only[zF,seval,hcur,lcur];refine Gg ?_;refine Fm (τ:=Nat×Sto) (λy=>[(80,(y.1:Int)),(79,((b-a:Nat):Int)),(78,.A8 (ta d) a (b-a)),(9,(J:Int)),(8,(i:Int)),(6,.A8 (ta d) 0 gs.length),(1,.ptr Z.length 0),(34,.ptr s.length 0)]) (λy=>y.2)
         (λy=>y.1<=p.length/\BI l Z.length N w M q s.length (ta d) (CR l (AI l.parts).length) ta Z (.i d::D) gs (GN (p.take y.1) ((gs.take J).drop i) nc) y.2) (λy=>p.length-y.1) (0,S2) ⟨Bq _,hB⟩ (AU rfl) ?_
        rintro⟨m,S4⟩ ⟨hm,hB4⟩;simp only at hm hB4;have hcur4:=hB4.cur;have lcur4:=AG hcur4 rfl;refine Cf ?_;by_cases hml:m<p.length
        ·have hms:m<b-a:=oo;have hgm2:=hpg m hml;obtain⟨mx,hmx,hmxl⟩:∃k:Nat,p.getD m default=(k:Int)/\k<(AI l.parts).length:=by
          have:=hpm _ (Ba hml);exact⟨(p.getD m default).toNat,oo,oo⟩
         have hsnoc:=rY p ((gs.take J).drop i) nc m hml;rw[hmx,Dw] at hsnoc;have hncm:∀x,(GN (p.take m) ((gs.take J).drop i) nc x).length<=1000000:=λx=>by
          have h1:=Uj (k:=24) (oo:((gs.take J).drop i).length<=24) (p.take m) hnc x;have h2:(p.take m).length*24<=24*24:=EC _ Pf;omega
         rw[hmx] at hgm2;simp only[zF,seval,(oo:(m:Int)<((b-a:Nat):Int))];refine Jf ?_;simp only[zF,seval,hcur4,lcur4,(oo:(m:Int)<((b-a:Nat):Int)),(oo:a+m<gs.length),Af _ _ _ (oo:a+m<gs.length),hgm2];obtain⟨A,hAb,hI⟩:=hB4.Pr;have hstp:=λ(S':Sto) (nx':Nat->List Int) (A':Nat->Nat) (hf:Fr S4 S' [q,A mx]) (h1:∀i,i<(AI l.parts).length->N<=A' i/\(A' i<Z.length\/s.length<=A' i)) (h2:EF S' w M q l (AI l.parts).length nx' A')=>hB4.step (S':=S') (nx':=nx') (A':=A') ⟨oo,oo⟩ hta hq hAb hI hmxl hf h1 h2;have hold:=hncm mx;have hrl3:(gs.take J).drop i=(gs.take J).drop i:=rfl;generalize hrr:(gs.take J).drop i=r at *;generalize haa:GN (p.take m) r nc=nz at *;have hbox:=hI.box;rw[FJ] at hbox;have lbox:=AG hbox rfl;have hbx:=hB4.bx;have lbx:=AG hbx rfl;have hqr:=hI.row;obtain⟨xs,hcl,hto,_⟩:=hI.cell mx hmxl;have hwq:w≠q:=AX hbox hqr A6;have hwA:w≠A mx:=AX hbox hcl A6;have hqA:q≠A mx:=AX hqr hcl A6;have hbq:Z.length≠q:=AX hbx hqr A6;have hbA:Z.length≠A mx:=AX hbx hcl A6;have hGq:ta d≠q:=AX hcur4 hqr A6;have hNA:=hAb mx hmxl;have hGA:ta d≠A mx:=oo;have hcj:((List.range (AI l.parts).length).map λi=>AV.A8 (A i) 0 (nz i).length)[mx]? = some (.A8 (A mx) 0 (nz mx).length):=by simp[hmxl]
         have hcd:((List.range (AI l.parts).length).map λi=>AV.A8 (A i) 0 (nz i).length).getD mx .undef=.A8 (A mx) 0 (nz mx).length:=TM;have lcl:=AG hcl rfl;have hcl0:((List.range (AI l.parts).length).map λi=>AV.A8 (A i) 0 (nz i).length).length=(AI l.parts).length:=A6;have hupd:=λ(S':Sto) (hf:Fr S4 S' [q,A mx]) h1 h2=>hI.Ev (s:=S') (i:=mx) hmxl (nz mx++r) (X:=S4.length) hf (.inl (AR _)) h1 h2;generalize hoo:nz mx=BD at *;generalize hcc:((List.range (AI l.parts).length).map λi=>AV.A8 (A i) 0 (nz i).length)=cells at *;have lqr:=AG hqr rfl;have hsl:List.take (J-i) (List.drop i (gs.map (AM.D.int .i64)))=r.map (AM.D.int .i64):=by
          rw[<-hrr,<-Zv,<-JT,List.drop_take]
         generalize hAA:A mx=Ai at *;refine NM rfl (NJ (Θ:=Nat)
          (λ_ L=>[(84,onV (L 0) (.ptr w 0)),(85,onV (L 1) (.ptr w 0)),(86,onV (L 2) (.ptr w 7)),(87,onV (L 3) (.A8 q 0 (AI l.parts).length)),(88,onV (L 4) (.d (.int .i64 (mx:Nat)))),(89,onV (L 5) (.ptr w 0)),(90,onV (L 6) (.ptr w 0)),(91,onV (L 7) (.ptr w 7)),(92,onV (L 8) (.A8 q 0 (AI l.parts).length)),(93,onV (L 9) (.d (.int .i64 (mx:Nat)))),(94,onV (L 10) (.Al q mx 0)),(95,onV (L 11) (.A8 Ai 0 BD.length)),(96,onV (L 12) (.A8 (ta d) 0 gs.length)),(97,onV (L 13) (.d (.int .i64 (i:Int)))),(98,onV (L 14) (.d (.int .i64 (J:Int)))),(99,onV (L 15) (.A8 (ta d) i (J-i))),(100,onV (L 16) (.A8 S4.length 0 (BD.length+r.length))),(101,onV (L 17) (.Al q mx 0)),
           (11,.d (.int .i64 (mx:Nat))),(80,.d (.int .i64 (m:Int))),(79,.d (.int .i64 ((b-a:Nat):Int))),(78,.A8 (ta d) a (b-a)),(9,.d (.int .i64 (J:Int))),(8,.d (.int .i64 (i:Int))),(6,.A8 (ta d) 0 gs.length),(1,.ptr Z.length 0),(34,.ptr s.length 0)])
          (λ_ L=>apQ S4 q Ai mx cells (BD.length+r.length) (BD.map (.int .i64)++r.map (.int .i64)) (L 16) (L 18))
          (λ_ L=>True) Ax ?_ ?_ ?_)
         ·exact Td
         ·simp only[KO];refine⟨?_,?_,?_,?_,?_,?_,?_,?_,?_,?_,?_,?_,?_,?_,?_,?_,?_,?_,?_,trivial⟩
          all_goals (rintro H L o1 hc hL hp;(try simp only[EM,Region.binds,frB] at hp);(try simp only[EU,Nat.reduceAdd] at hL);simp only[zF,seval,hL,hp,Ef,Er,D3,FG])
          all_goals have hbA1:∀b6 b8,A1 (apQ S4 q Ai mx cells (BD.length+r.length) (BD.map (.int .i64)++r.map (.int .i64)) b6 b8) w=_:=λb6 b8=>(Wa hbox rfl hwq hwA)
          all_goals have hbA2:∀b6 b8,A1 (apQ S4 q Ai mx cells (BD.length+r.length) (BD.map (.int .i64)++r.map (.int .i64)) b6 b8) Z.length=_:=λb6 b8=>(Wa hbx rfl hbq hbA)
          all_goals have hbA3:∀b6 b8,A1 (apQ S4 q Ai mx cells (BD.length+r.length) (BD.map (.int .i64)++r.map (.int .i64)) b6 b8) (ta d)=_:=λb6 b8=>(Wa hcur4 rfl hGq hGA)
          all_goals have hqA2:∀b6,A1 (apQ S4 q Ai mx cells (BD.length+r.length) (BD.map (.int .i64)++r.map (.int .i64)) b6 false) q=_:=λb6=>(kd hqr rfl hqA)
          case refine_11=>
           have z18:L 18=false:=DO hL λhh=>Da (hc 18 _ rfl hh) 10 Ax;refine m_ ?_;exact FO
          case refine_12=>
           have z18:L 18=false:=DO hL λhh=>Da (hc 18 _ rfl hh) 11 Ax;rw[z18];simp only[zF,seval,hqA2,hcl0,hcd,hmxl];exact FO
          case refine_16=>
           simp only[zF,seval,hbA3,(oo:(i:Int)<=J),(oo:(J:Int)<=gs.length)];exact FO
          case refine_17=>
           have z18:L 18=false:=DO hL λhh=>Da (hc 18 _ rfl hh) 16 Ax;rw[z18];simp only[zF,seval,Q96,Zm,hcl,lcl,hto,hcur4,lcur4,hsl,BW];exact⟨⟨oo,oo⟩,0,AU rfl⟩
          case refine_18=>
           have z18:L 18=false:=DO hL λhh=>Da (hc 18 _ rfl hh) 17 Ax;refine m_ ?_;exact FO
          case refine_19=>
           have hq6:A1 (S4.set Ai .dead++[Blk.arr 1 (BD.map (.int .i64)++r.map (.int .i64))]) q=.var 1 cells:=by rw[<-Zm S4 q Ai mx cells (BD.length+r.length)];exact kd hqr rfl hqA
           have lq6:=AG hq6 rfl;simp only[zF,seval,Zm,Zn,hq6,lq6,hcl0,hmxl,J3];exact FO
          all_goals (first|exact⟨0,AU rfl⟩|(simp only[zF,seval,hbA1,hbA2,hbA3];exact⟨0,AU rfl⟩))
         rintro H -;refine C0 ?_;refine Ta ?_;have hfr:=Q6z S4 q Ai mx cells (BD.length+r.length) (BD.map (.int .i64)++r.map (.int .i64)) true true;refine⟨(m+1,apQ S4 q Ai mx cells (BD.length+r.length) (BD.map (.int .i64)++r.map (.int .i64)) true true),⟨AQ,?_⟩,AQ,AU rfl⟩;simp only;rw[hsnoc];refine hstp _ _ (updQ A mx S4.length) hfr (λj hj=>?_) (hupd _ hfr ?_ ⟨_,?_,Bi A6,λ_=>A6⟩)
         ·unfold updQ;split
          ·have:=hB4.lo.1;have:=AG hB4.BS rfl;omega
          exact hAb j hj
         ·rw[Zn,BX Ap,Bb]
         rw[Zn,As oo,CE,A7 A6,BH,FA,CA];rfl
        have hme:m=p.length:=oo;subst hme;rw[BL] at hB4;simp only[zF,seval,(oo:¬((p.length:Nat):Int)<((b-a:Nat):Int))];refine Cu ?_;exact⟨S4,hB4,AU rfl⟩
       rintro e s' ⟨S3,hB3,hw3⟩;refine AWp.Cj hw3 ?_;have hcur3:=hB3.cur;have lcur3:=AG hcur3 rfl;refine Cf ?_;simp only[zF,seval,hcur3,lcur3,(oo:(i:Int)<=J),(oo:(J:Int)<=gs.length)];refine GV ?_;refine⟨(J,.A8 (ta d) i (J-i),S3),⟨hr2,(gs.take J).drop i,GN p ((gs.take J).drop i) nc,n,.inr ⟨i,J,oo,hr2,rfl,rfl⟩,oo,λx hx=>hgsm x (GS (K7 hx)),λx=>?_,AQ,hrd,hB3⟩,AQ,AU rfl⟩;have h1:=Uj (k:=24) (oo:((gs.take J).drop i).length<=24) p hnc x;have h2:p.length*24<=24*24:=EC _ hp24;simp only;omega
      obtain⟨A,hAb,hI⟩:=hB.Pr;have hbox:=hI.box;rw[FJ] at hbox;have lbox:=AG hbox rfl;have hbx:=hB.bx;have lbx:=AG hbx rfl;refine Fm (τ:=Nat) (λj=>[(9,(j:Int)),(8,(i:Int)),(7,pv),(6,.A8 (ta d) 0 gs.length),(1,.ptr Z.length 0),(34,.ptr s.length 0)]) (λ_=>S2) (λj=>i<=j/\j<=J) (λj=>J-j) i ⟨AR _,oo⟩ (AU rfl) ?_;rintro j ⟨hj1,hj2⟩;refine Hd ?_;by_cases hjl:j<gs.length
      ·obtain⟨mj,hmj,hmjl⟩:∃m:Nat,gs.getD j default=(m:Int)/\m<(AI l.parts).length:=by
        have:=hgsm _ (Ba hjl);exact⟨(gs.getD j default).toNat,oo,oo⟩
       obtain⟨mi,hmi,hmil⟩:∃m:Nat,gs.getD i default=(m:Int)/\m<(AI l.parts).length:=by
        have:=hgsm _ (Ba hii);exact⟨(gs.getD i default).toNat,oo,oo⟩
       simp only[zF,seval,(oo:(j:Int)<gs.length),hbx,lbx,hbox,lbox,hcur,lcur,hjl,Af _ _ _ (oo:j<gs.length),(oo:(i:Int)<gs.length),hii,Af _ _ _ (oo:i<gs.length),hmj,hmi,(oo:(mj:Int)<(AI l.parts).length),hmjl,Af _ _ _ (oo:mj<(AI l.parts).length),(oo:(mi:Int)<(AI l.parts).length),hmil,Af _ _ _ (oo:mi<(AI l.parts).length)];refine⟨.inl Ax,?_⟩;have eat:∀m:Nat,atI (AI l.parts) (m:Int)=((AI l.parts).getD m default).at_:=λm=>rfl;by_cases hat:((AI l.parts).getD mj default).at_=((AI l.parts).getD mi default).at_
       ·rw[show(((AI l.parts).getD mj default).at_==((AI l.parts).getD mi default).at_)=true by simpa using hat];have hjJ:j<J:=by
         rcases B9 j J with h'|h'
         ·exact h'
         exfalso;have:j=J:=oo;subst this;exact hrst hjl (by rw[hmj,hmi,eat,eat];exact hat)
        refine AWp.Dl rfl rfl ?_;refine GV ?_;refine Gg ?_;refine Eu ?_;simp only[zF,seval,a_w ((j:Int)+1)];exact⟨j+1,⟨oo,oo⟩,oo,AU rfl⟩
       rw[show(((AI l.parts).getD mj default).at_==((AI l.parts).getD mi default).at_)=false by simpa using hat];have hjJ:j=J:=by
        rcases B9 j J with h'|h'
        ·exfalso;have:=(hrin j hj1 h').2;rw[hmj,hmi,eat,eat] at this;exact hat this
        omega
       subst hjJ;refine Pk ?_;exact Dd
      have hjJ:j=J:=oo;subst hjJ;simp only[zF,seval,(oo:¬(j:Int)<gs.length),hbx,lbx,hbox,lbox,hcur,lcur];refine⟨.inl Ax,?_⟩;refine Pk ?_;exact Dd
     simp only[zF,seval,(oo:¬(i:Int)<gs.length)];refine GV ?_;obtain⟨n,rfl⟩:∃n,fu=n+1:=⟨fu-1,oo⟩;rw[rdL,A7 hii] at hrd;refine⟨_,S2,AU rfl,rfl,hB.BS,hB.lo,hB.bx,JW.2 ⟨hkD,hR.nd⟩,λk hk=>?_,hB.row,?_⟩
     ·rcases Bw.1 hk with rfl|hk
      ·exact⟨d,rfl,by rw[hgg];exact hd⟩
      exact hR.key k hk
     rw[<-hrd];exact hB.Pr
    refine C0 ?_;exact Dd
  case en=>
   rintro D E S ⟨rfl,hfrz,hR⟩ hall;refine C0 ?_;obtain⟨A2,hA2,hI2⟩:=hR.Pr;exact⟨_,_,Bg.refl _ _ _,rfl,hR.lo,D,hR.nd,hR.key,λd hd=>hall _ _ trivial (by rw[hG.look d,A7 hd]),A2,λi hi=>(hA2 i hi).1,hI2⟩
  case op=>
   refine C0 ?_;exact Dd
 all_goals rfl

structure Sm(σ:Sto)(w M:Nat)(l:Av)(nx:Nat->List Int):Prop where
 box:A1 σ w=DY l M (.d (.sl ((AI l.parts).map EvT.A5))) (.d (.sl ((List.range (AI l.parts).length).map λi=>.sl ((nx i).map (.int .i64)))))
 Ad:A1 σ M=.map (some .u8) (Jz (Ah l.parts) (AI l.parts).length)
def M9:∀(l:List Nat) (S:Sto),(freezeL S l).length=S.length
 | [],S=>rfl
 | a::l,S=>by
  show(freezeL (AM.freeze S a) l).length=_;rw[M9 l];simp[AM.freeze]
def Px:∀(l:List Nat) (S:Sto) (j:Nat),j∉l->A1 (freezeL S l) j=A1 S j
 | [],S,j,_=>rfl
 | a::l,S,j,h=>by
  show A1 (freezeL (AM.freeze S a) l) j=_;rw[Px l _ j (λhm=>h (Cy _ hm))];exact As (λe=>h (by rw[e];simp))
def VG{α β:Type}(f:α->β):∀l:List α,l.flatMap (λi=>[f i])=l.map f
 | []=>rfl
 | a::l=>by rw[IU,VG f l];rfl
def EF.data{n m:Nat}{env:Env}{S:Sto}{w M q:Nat}{l:Av}{K:Nat}{nx:Nat->List Int}{A:Nat->Nat}(h:EF S w M q l K nx A){N:Nat}(hq:N<=q)(hA:∀i,i<(AI l.parts).length->N<=A i)(hw:N<=w):
  ∃s,Bc n m env S env s/\Sm s w M l nx/\Lo N S s:=by
 have hwq:w≠q:=AX h.box h.row OB;have hMq:M≠q:=AX h.Ad h.row A6;have hwA:∀i,i<(AI l.parts).length->A i≠w/\A i≠M/\A i≠q:=λi hi=>by
  obtain⟨xs,hx,_⟩:=h.cell i hi;exact⟨AX hx h.box OB,AX hx h.Ad A6,AX hx h.row A6⟩
 have hwM:w≠M:=AX h.box h.Ad OB;have hrow:=h.row;have hbox:=h.box;rw[FJ] at hbox;have hcell:=h.cell;have hmap:=h.Ad;have lw:=AG hbox rfl;have lq:=AG hrow rfl;have hd:(AV.agg ((List.range (AI l.parts).length).map λi=>.A8 (A i) 0 (nx i).length)).Db S=true:=by
  show List.all _ (EH S)=true;refine EW.2 λc hc=>?_;obtain⟨i,hi,rfl⟩:=C4.1 hc;obtain⟨xs,hx,_⟩:=hcell i (CI.1 hi);simp[EH,hx,Blk.AY]
 have w1:=Xg (n:=n) (m:=m) (env:=env) q hrow hd;have hrefs:(AV.agg ((List.range (AI l.parts).length).map λi=>.A8 (A i) 0 (nx i).length)).refs=(List.range (AI l.parts).length).map A:=by
  exact nr
 have hcs:((List.range (AI l.parts).length).map λi=>AV.A8 (A i) 0 (nx i).length).map (λc=>AV.d (Cv S c))=(((List.range (AI l.parts).length).map λi=>D.sl ((nx i).map (.int .i64))).flatMap D.cells).map AV.d:=by
  rw[VZ];show _=((List.range (AI l.parts).length).flatMap (λi=>[D.sl ((nx i).map (.int .i64))])).map AV.d;rw[VG,Hs,Hs];refine MX λi hi=>?_;obtain⟨xs,hx,hx2,_⟩:=hcell i (CI.1 hi);simp only[Function.comp,Cv,hx,Blk.xs,IZ,hx2]
 rw[hrefs,hcs] at w1;generalize hRR:((List.range (AI l.parts).length).map λi=>D.sl ((nx i).map (.int .i64)))=rows at *;have hrl:rows.length=(AI l.parts).length:=by rw[<-hRR];simp
 have hrm:∀x∈rows,∃r,x=D.sl r:=λx hx=>by
  rw[<-hRR] at hx;obtain⟨i,_,rfl⟩:=C4.1 hx;exact⟨_,rfl⟩
 have hAm:∀j,(∀i,i<(AI l.parts).length->A i≠j)->j∉(List.range (AI l.parts).length).map A:=λj hj hm=>by
  obtain⟨i,hi,e⟩:=C4.1 hm;exact hj i (CI.1 hi) e
 have w2:=X8 (n:=n) (m:=m) (env:=env) (σ:=(freezeL S ((List.range (AI l.parts).length).map A)).set q (.var 1 ((rows.flatMap D.cells).map AV.d))) q (BX (by rw[M9];exact lq)) rfl (λx hx=>by obtain⟨r,rfl⟩:=hrm x hx;rfl) (λx hx=>lu);have hb2:=(show A1 (((freezeL S ((List.range (AI l.parts).length).map A)).set q (.var 1 ((rows.flatMap D.cells).map AV.d))).set q (.arr 1 rows)) w=A1 S w from by
  rw[As hwq.symm,As hwq.symm,Px _ _ _ (hAm w λi hi=>(hwA i hi).1)]).trans hbox
 have hq2:A1 (((freezeL S ((List.range (AI l.parts).length).map A)).set q (.var 1 ((rows.flatMap D.cells).map AV.d))).set q (.arr 1 rows)) q=.arr 1 rows:=BX (by rw[BH,M9];exact lq);have w3:=Y7 (n:=n) (m:=m) (env:=env) w 7 q 0 (AI l.parts).length 1 hb2 (AG hb2 rfl) rfl A6 hq2;refine⟨_,w1.trans (w2.trans w3),⟨?_,?_⟩,?_⟩
 ·rw[BX (by simp only[BH,M9];exact lw),IZ,Bi oo,hRR];rfl
 ·rw[As hwM,As hMq.symm,As hMq.symm,As hMq.symm,Px _ _ _ (hAm M λi hi=>(hwA i hi).2.1)];exact hmap
 refine⟨by simp only[BH,M9];exact AR _,λj hj hal=>?_⟩;rw[As oo,As oo,As oo,As oo,Px _ _ _ (hAm j λi hi=>by have:=hA i hi;omega)]
def cp(r:List Int):∀(p:List Int) (nx ac:Nat->List Int),GN p r (λy=>nx y++ac y)=λy=>nx y++GN p r ac y
 | [],nx,ac=>rfl
 | a::p,nx,ac=>by
  show GN p r (updQ (λy=>nx y++ac y) a.toNat ((nx a.toNat++ac a.toNat)++r))=λy=>nx y++GN p r (updQ ac a.toNat (ac a.toNat++r)) y;rw[<-cp r p];congr 1;funext y;unfold updQ;split
  ·rename_i h;rw[h,MV]
  rfl
def ju(e:List EvT)(g:List Int):∀(n i:Nat) (p:List Int) (nx ac:Nat->List Int),rdL e g n i p (λy=>nx y++ac y)=λy=>nx y++rdL e g n i p ac y
 | 0,i,p,nx,ac=>rfl
 | n+1,i,p,nx,ac=>by
  unfold rdL;split
  ·rw[cp,ju e g n]
  rfl
def cq(r:List Int):∀(p:List Int) (ac:Nat->List Int) (x:Nat),(∀y∈p,0<=y)->(x:Int)∉p->GN p r ac x=ac x
 | [],ac,x,_,_=>rfl
 | a::p,ac,x,h0,hx=>by
  show GN p r (updQ ac a.toNat (ac a.toNat++r)) x=_;rw[cq r p _ x (λy hy=>h0 y (Cy _ hy)) (λhm=>hx (Cy _ hm))];unfold updQ;rw[A7];intro hh;have:=h0 a A6;exact hx (by rw[hh,Int.toNat_of_nonneg this];simp)
def jv(e:List EvT)(g:List Int)(hg:∀y∈g,0<=y)(x:Nat)(hx:(x:Int)∉g):∀(n i:Nat) (p:List Int) (ac:Nat->List Int),(∀y∈p,y∈g)->rdL e g n i p ac x=ac x
 | 0,i,p,ac,_=>rfl
 | n+1,i,p,ac,hp=>by
  unfold rdL;split
  ·rw[jv e g hg x hx n _ _ _ (λy hy=>GS (K7 hy)),cq _ _ _ _ (λy hy=>hg y (hp y hy)) (λhm=>hx (hp _ hm))]
  rfl
def uw(e:List EvT)(g:List Int)(nx:Nat->List Int)(x:Nat):rdG e g nx x=nx x++rdG e g (λ_=>[]) x:=by
 have:=congrFun (ju e g (g.length+1) 0 [] nx (λ_=>[])) x;simp only[FY] at this;exact this
def jt(e:List EvT)(g:List Int)(hg:∀y∈g,0<=y)(x:Nat)(hx:(x:Int)∉g):rdG e g (λ_=>[]) x=[]:=jv e g hg x hx _ _ _ _ (λy hy=>OC)
def Xk(l:Av):∀(k:Nat) (d:Int) (x:Nat),(x:Int)∈CR l k d->DK l x=d
 | 0,d,x,h=>D8
 | k+1,d,x,h=>by
  unfold CR Ae at h;split at h
  ·rename_i hd;rcases CH.1 h with h|h
   ·rw[hd];exact Xk l k _ x h
   have:=CG.1 h;have:x=k:=oo;rw[this,hd]
  exact Xk l k d x h
def Ru{e:List EvT}{g:List Int}{y:Int}:y∈G5 e g↔y∈g:=(LL _ _).mem_iff
def E1(l:Av)(x:Nat):List Int:=ndF (Ah l.parts) (AI l.parts) (AI l.parts).length x++rdG (AI l.parts) (G5 (AI l.parts) (CR l (AI l.parts).length (DK l x))) (λ_=>[]) x
def jD(l:Av)(nx:Nat->List Int)(x:Nat):∀(D:List Aw),D.Nodup->(∀k∈D,∃d,k=.i d/\CR l (AI l.parts).length d≠[]) ->
  nxK (AI l.parts) (CR l (AI l.parts).length) nx D x=nx x++(if Aw.i (DK l x)∈D then rdG (AI l.parts) (G5 (AI l.parts) (CR l (AI l.parts).length (DK l x))) (λ_=>[]) x else[])
 | [],_,_=>by simp[nxK]
 | k::D,hn,hk=>by
  obtain⟨d,rfl,hd⟩:=hk k A6;obtain⟨h1,h2⟩:=JW.1 hn;have ih:=jD l nx x D h2 λk' hk'=>hk k' (Cy _ hk');rw[nxK,uw,ih];by_cases e:d=DK l x
  ·rw[<-e,A7 h1,AD A6,FY]
  have e2:¬Aw.i (DK l x)=Aw.i d:=λh=>e TT;have ho:rdG (AI l.parts) (G5 (AI l.parts) (CR l (AI l.parts).length d)) (λ_=>[]) x=[]:=by
   refine jt _ _ (λy hy=>(QC l _ d y (Ru.1 hy)).1) x λhm=>?_;exact e (Xk l _ d x (Ru.1 hm)).symm
  rw[ho,FY];congr 1;simp only[Bw,e2,false_or]
def wb(l:Av){D:List Aw}(hn:D.Nodup)(hk:∀k∈D,∃d,k=.i d/\CR l (AI l.parts).length d≠[])(ha:∀d,CR l (AI l.parts).length d≠[]->.i d∈D)(x:Nat):
  nxK (AI l.parts) (CR l (AI l.parts).length) (ndF (Ah l.parts) (AI l.parts) (AI l.parts).length) D x=E1 l x:=by
 rw[jD l _ x D hn hk,E1];congr 1;split
 ·rfl
 rename_i h;symm;refine jt _ _ (λy hy=>(QC l _ _ y (Ru.1 hy)).1) x λhm=>?_;have hm:=Ru.1 hm;exact h (ha _ (λe=>by rw[e] at hm;cases hm))

def InR(n:Nat)(nx:Nat->List Int):Prop:=∀i,∀y∈nx i,0<=y/\y<(n:Int)
def InR.updQ{n:Nat}{nx:Nat->List Int}(h:InR n nx)(i:Nat){r:List Int}(hr:∀y∈r,0<=y/\y<(n:Int)):InR n (updQ nx i r):=λj y hy=>by
 unfold YtafpldmnkcegmaaGreat.updQ at hy;split at hy
 ·exact hr y hy
 exact h j y hy
def iQ(ids:List (Int×Int))(e:List EvT):∀k,k<=e.length->InR e.length (edF ids e k)
 | 0,_=>λi y hy=>OC
 | k+1,hk=>by
  have ih:=iQ ids e k oo;have hA:InR e.length (edA ids k (edF ids e k)):=by
   unfold edA;split
   ·refine ih.updQ _ λy hy=>?_;rcases CH.1 hy with hy|hy
    ·exact ih _ y hy
    have:=CG.1 hy;omega
   exact ih
  rw[edF];unfold edB;cases JP e e.length (e.getD k default).n with
  | none=>exact hA
  | some j=>
   simp only;split
   ·refine hA.updQ _ λy hy=>?_;rcases CH.1 hy with hy|hy
    ·exact hA _ y hy
    have:=CG.1 hy;omega
   exact hA
def YO(l:List Int):∀(k:Nat),k<=l.length->∀y∈cpF l k,y∈l
 | 0,_,y,hy=>OC
 | k+1,hk,y,hy=>by
  unfold cpF at hy;split at hy
  ·exact YO l k oo y hy
  rcases CH.1 hy with hy|hy
  ·exact YO l k oo y hy
  rw[CG.1 hy];exact Ba oo
def Q48(ids:List (Int×Int))(e:List EvT)(k:Nat):InR e.length (ndF ids e k):=λi y hy=>by
 have h:=iQ ids e e.length (AR _);unfold ndF at hy;split at hy
 ·exact h i y (QO.1 (YO _ _ (AR _) y hy))
 exact h i y hy
def gn{n:Nat}{r:List Int}(hr:∀y∈r,0<=y/\y<(n:Int)):∀(p:List Int) {nx:Nat->List Int},InR n nx->InR n (GN p r nx)
 | [],nx,h=>h
 | a::p,nx,h=>gn hr p (h.updQ _ λy hy=>by
   rcases CH.1 hy with hy|hy
   ·exact h _ y hy
   exact hr y hy)
def iw{n:Nat}(e:List EvT)(g:List Int)(hg:∀y∈g,0<=y/\y<(n:Int)):∀(m i:Nat) (p:List Int) {nx:Nat->List Int},InR n nx->InR n (rdL e g m i p nx)
 | 0,i,p,nx,h=>h
 | m+1,i,p,nx,h=>by
  unfold rdL;split
  ·exact iw e g hg m _ _ (gn (λy hy=>hg y (GS (K7 hy))) p h)
  exact h
def Ws(l:Av):InR (AI l.parts).length (E1 l):=λx y hy=>by
 unfold E1 at hy;rcases CH.1 hy with hy|hy
 ·exact Q48 _ _ _ x y hy
 exact iw (AI l.parts) _ (λz hz=>QC l _ _ z (Ru.1 hz)) _ _ _ (λi z hz=>by cases hz) x y hy
def XQ(l:Av)(hn:(AI l.parts).length<=24)(x:Nat):(E1 l x).length<=20000:=by
 have h1:(ndF (Ah l.parts) (AI l.parts) (AI l.parts).length x).length<=48:=by
  exact pA
 have hg:=QB l (AI l.parts).length (DK l x);have h2:=Yk (AI l.parts) (G5 (AI l.parts) (CR l (AI l.parts).length (DK l x))) (by rw[O_];omega) ((G5 (AI l.parts) (CR l (AI l.parts).length (DK l x))).length+1) 0 [] A6 (nx:=λ_=>[]) (b:=0) (λ_=>AR _) x;rw[O_] at h2;unfold E1 rdG;rw[Bb,O_];omega
def wtR(w:List Int)(r:List Int):List Int:=r.foldl (λw y=>w.set y.toNat (w.getD y.toNat default+1)) w
def wtF(nx:Nat->List Int)(n:Nat):Nat->List Int
 | 0=>List.replicate n 0
 | k+1=>wtR (wtF nx n k) (nx k)
def khS(s:List Int×List Int)(y:Int):List Int×List Int:=
 let w:=s.1.set y.toNat (s.1.getD y.toNat default-1)
 (w,if w.getD y.toNat default=0 then s.2++[y] else s.2)
def khL(nx:Nat->List Int):Nat->List Int->List Int->Nat->Nat
 | 0,_,_,c=>c
 | f+1,w,rd,c=>match rd with
  | []=>c
  | x::r=>let s:=(nx x.toNat).foldl khS (w,r);khL nx f s.1 s.2 (c+1)
def rd0(w:List Int):Nat->List Int
 | 0=>[]
 | k+1=>if w.getD k default=0 then rd0 w k++[(k:Int)] else rd0 w k
def khF(nx:Nat->List Int)(n:Nat):Nat:=khL nx (2*n+1) (wtF nx n n) (rd0 (wtF nx n n) n) 0
def Eg(l:Av):Int:=if Ip l≠0 then Ip l else if khF (E1 l) (AI l.parts).length<(AI l.parts).length then 13 else 0
def nuK(w rd:List Int):Nat:=(w.filter λx=>decide (0<x)).length+rd.length
def Qfg(w:List Int):∀(i:Nat) (v:Int),i<w.length->((w.set i v).filter λx=>decide (0<x)).length+(if 0<w.getD i default then 1 else 0)=(w.filter λx=>decide (0<x)).length+(if 0<v then 1 else 0):=by
 induction w with
 | nil=>intro i v h;simp at h
 | cons a r ih=>
  intro i v h;cases i with
  | zero=>
   have e:(a::r).getD 0 default=a:=rfl;rw[e,List.set_cons_zero];by_cases hv:0<v<;>by_cases ha:0<a<;>simp[hv,ha]
  | succ i=>
   have e:(a::r).getD (i+1) default=r.getD i default:=A6;have:=ih i v Dy;rw[e,aF];by_cases ha:0<a
   ·rw[J_ W9,J_ W9,CT,CT];omega
   rw[J4 W9,J4 W9];exact this
def Q5n(s:List Int×List Int)(y:Int)(h:y.toNat<s.1.length):nuK (khS s y).1 (khS s y).2<=nuK s.1 s.2:=by
 have hf:=Qfg s.1 y.toNat (s.1.getD y.toNat default-1) h;have hg:(s.1.set y.toNat (s.1.getD y.toNat default-1)).getD y.toNat default=s.1.getD y.toNat default-1:=Lh;simp only[khS,nuK,hg];generalize s.1.getD y.toNat default=v at *;split
 ·rename_i e;rw[AD oo,A7 oo] at hf;simp only[Bb,Hx];omega
 rename_i e;split at hf<;>split at hf<;>omega
def jf(s:List Int×List Int)(y:Int):(khS s y).1.length=s.1.length:=by simp[khS]
def eO:∀(r:List Int) (s:List Int×List Int),(r.foldl khS s).1.length=s.1.length
 | [],s=>rfl
 | y::r,s=>by rw[GQ,eO r,jf]
def Xv:∀(r:List Int) (s:List Int×List Int),(∀y∈r,y.toNat<s.1.length)->nuK (r.foldl khS s).1 (r.foldl khS s).2<=nuK s.1 s.2
 | [],s,_=>AR _
 | y::r,s,h=>by
  rw[GQ];exact DC (Xv r _ λz hz=>by rw[jf];exact h z (Cy _ hz)) (Q5n s y (h y A6))
def Wg{A9:List An}{l:List Ao}(h:H4 A9 l=0)(k:Nat)(hk:k<l.length):(tlR A9 (l.take k) (l.getD k default).A0).isSome=true:=by
 unfold H4 at h;have h0:Bh (He A9 l) l.length=0:=by
  exact nU
 have:=MH h0 k hk;unfold He at this;rw[A7 (by simpa using OL h k hk)] at this;cases ht:tlR A9 (l.take k) (l.getD k default).A0 with
 | none=>rw[ht] at this;cases this
 | some _=>rfl
def Z0(A9:List An)(l:List Ao)(hc:H4 A9 l=0):∀k,k<=l.length->∀t,(tlR A9 (l.take k) t).isSome=true->CV A9 t=true
 | 0,_,t,h=>by
  have:tlR A9 (l.take 0) t=tl0 A9 t:=rfl;rw[this] at h;unfold tl0 at h;split at h
  ·rename_i h2;exact h2
  cases h
 | k+1,hk,t,h=>by
  have e:tlR A9 (l.take (k+1))=tlS (tlR A9 (l.take k)) (l.getD k default):=ln;rw[e] at h;unfold tlS Ae at h;split at h
  ·rename_i ht;rw[ht];exact Z0 A9 l hc k oo _ (Wg hc k oo)
  exact Z0 A9 l hc k oo t h
def Pt{l:Av}(h:Fu l=0)(i:Nat)(hi:i<(Ah l.parts).length):(l.A9.any λx=>x.id==((Ah l.parts).getD i default).1)=true:=by
 have hc:=(NS h).2.1;have hm:=Ba hi;obtain⟨p,hp,hq⟩:=HZ.1 hm;have ht:((Ah l.parts).getD i default).1=p.A0:=by
  obtain⟨j,_,e⟩:=C4.1 hq;rw[<-e]
 rw[ht];obtain⟨k,hk,e⟩:=Gd hp;have hg:l.parts.getD k default=p:=by simp[hk,e]
 have:=Z0 l.A9 l.parts hc k oo p.A0 (by rw[<-hg];exact Wg hc k hk);exact this

def Lo.fr{S s:Sto}(h:Lo S.length S s):Fr S s []:=⟨h.1,λj hj _=>h.2 j (AG rfl hj) hj⟩
def uF(l:Av)(hn:(AI l.parts).length<=24)(x:Nat):(ndF (Ah l.parts) (AI l.parts) (AI l.parts).length x).length<=48:=by
 exact pA
def Yu:∀(r w:List Int),(wtR w r).length=w.length
 | [],w=>rfl
 | y::r,w=>by show(wtR (w.set y.toNat _) r).length=_;rw[Yu r,BH]
def xd(w r:List Int)(m:Nat)(h:m<r.length):wtR w (r.take (m+1))=(wtR w (r.take m)).set (r.getD m default).toNat ((wtR w (r.take m)).getD (r.getD m default).toNat default+1):=by
 rw[CY r m h,wtR,GD];rfl
def Yt(nx:Nat->List Int)(n:Nat):∀k,(wtF nx n k).length=n
 | 0=>by simp[wtF]
 | k+1=>by rw[wtF,Yu,Yt nx n k]
def ZC{b:Int}:∀(r w:List Int),(∀j,0<=w.getD j default/\w.getD j default<=b)->∀j,0<=(wtR w r).getD j default/\(wtR w r).getD j default<=b+r.length
 | [],w,h,j=>by have:=h j;simp only[wtR,Nx,C6];omega
 | y::r,w,h,j=>by
  have h2:∀j,0<=(w.set y.toNat (w.getD y.toNat default+1)).getD j default/\(w.set y.toNat (w.getD y.toNat default+1)).getD j default<=b+1:=λj=>by
   have h1:=h j;have h3:=h y.toNat;rw[B5,H_];split
   ·split
    ·simp only[EA];omega
    rename_i e hlt;show 0<=(0:Int)/\(0:Int)<=b+1;omega
   rw[<-B5];omega
  have:=ZC r (w.set y.toNat (w.getD y.toNat default+1)) h2 j;show 0<=(wtR (w.set y.toNat (w.getD y.toNat default+1)) r).getD j default/\_<=_;rw[CT];refine⟨this.1,?_⟩;have:=this.2;show(wtR (w.set y.toNat (w.getD y.toNat default+1)) r).getD j default<=_;omega
def ZB(nx:Nat->List Int)(n c:Nat)(hc:∀i,(nx i).length<=c):∀k j,0<=(wtF nx n k).getD j default/\(wtF nx n k).getD j default<=(k*c:Nat)
 | 0,j=>by
  rw[wtF,B5,PX];split<;>simp
 | k+1,j=>by
  have:=ZC (nx k) (wtF nx n k) (ZB nx n c hc k) j;have:=hc k;rw[wtF,E8];omega
def Yj(w:List Int):∀k,(rd0 w k).length<=k
 | 0=>by simp[rd0]
 | k+1=>by have:=Yj w k;unfold rd0;split<;>simp<;>omega
def Za(w:List Int):∀(n:Nat),∀y∈rd0 w n,0<=y/\y<(n:Int)
 | 0,y,h=>D8
 | k+1,y,h=>by
  unfold rd0 at h;split at h
  ·rcases CH.1 h with h|h
   ·have:=Za w k y h;omega
   have:=CG.1 h;omega
  have:=Za w k y h;omega
structure KI(nx:Nat->List Int)(n T:Nat)(wv rd:List Int)(c:Nat):Prop where
 len:wv.length=n
 bnd:∀j,-(20000*(c:Int))<=wv.getD j default/\wv.getD j default<=20000*(n:Int)
 rin:∀y∈rd,0<=y/\y<(n:Int)
 sum:c+nuK wv rd<=2*n
 fuel:∃fu,nuK wv rd<fu/\khL nx fu wv rd c=T
set_option maxHeartbeats 8000000 in
def jd(l:Av)(h:l.BZ)(Z:Sto):AW prog Gl 117 [.d l.A5] Z (λr s=>if Eg l≠0 then r=.Aj [.d (.raw (.pointer none)),(Eg l:Int)]/\Fr Z s [] else ∃w M,r=.Aj [.ptr w 0,(0:Int)]/\Z.length<=w/\Z.length<=M/\Sm s w M l (E1 l)/\Fr Z s []):=by
 have hev24:(AI l.parts).length<=24:=W8;have hlI:(Ah l.parts).length=(AI l.parts).length:=Ma;refine Fv func117 rfl rfl (by simp[ntmps117]) ?_;simp only[ntmps117,results117,B6,C6];refine Cu ?_;have hf0:Fr Z (Z++[.box 4 (.d l.A5)]) []:=Fr.app _ _;have hb0:=Cd (σ:=Z) (B:=.box 4 (.d l.A5));generalize (Z++[.box 4 (.d l.A5)])=s0 at *;have lb0:=AG hb0 rfl;refine Cf ?_;simp only[zF,seval,hb0,lb0];refine Be ((Qe1 l h s0).mono λr s1 hr=>?_);by_cases hx:Ip l≠0
 ·rw[AD hx] at hr;obtain⟨rfl,hf1⟩:=hr;have hce:Eg l=Ip l:=by rw[Eg,AD hx]
  refine C0 ?_;refine Cf ?_;simp only[zF,seval,show(Ip l !=0)=true by simpa using hx];refine Ln ?_;rw[hce,AD hx];exact⟨rfl,hf0.trans hf1 A6⟩
 rw[A7 hx] at hr;have hx0:Ip l=0:=by simpa using hx
 have hlg:Fu l=0:=by
  unfold Ip at hx0;split at hx0
  ·exact hx0
  rename_i h2;simpa using h2
 obtain⟨w,M,q,A,rfl,hw,hM,hq,hA,hf1,hI⟩:=hr;have hls0:=hf0.1;have hce:Eg l=if khF (E1 l) (AI l.parts).length<(AI l.parts).length then 13 else 0:=by rw[Eg,A7 hx]
 have hlo1:Lo s0.length Z s1:=(Fr.lo hf0 A6).trans (Fr.lo hf1 A6);refine C0 ?_;refine Pl ?_;refine Be ((tc l h (N:=s0.length) hI hq hA hf1.1).mono λr s2 hr=>?_);obtain⟨rfl,hlo2,A2,hA2,hI2⟩:=hr;refine C0 ?_;refine Cu ?_;refine Be ((Qes l h (Pt hlg) (N:=s0.length) hI2 oo hA2 (by have:=hf1.1;have:=hlo2.1;omega) (uF l hev24)).mono λr s3 hr=>?_);obtain⟨rfl,hlo3,D,hD1,hD2,hD3,A3,hA3,hI3⟩:=hr;refine C0 ?_;rw[show nxK (AI l.parts) (CR l (AI l.parts).length) (ndF (Ah l.parts) (AI l.parts) (AI l.parts).length) D=E1 l from funext (wb l hD1 hD2 hD3)] at hI3;refine AWp.Cj (AU (show _=[(4,.ptr w 0),(2,.d (.raw (.pointer none))),(3,.d (.int .i64 0))] from rfl)) ?_;obtain⟨s4,hw4,hW,hlo4⟩:=hI3.data (n:=119) (m:=Z.length) (env:=[(4,.ptr w 0),(2,.d (.raw (.pointer none))),(3,.d (.int .i64 0))]) (N:=s0.length) oo hA3 oo;refine AWp.Cj hw4 ?_;have hlo:Lo s0.length Z s4:=((hlo1.trans hlo2).trans hlo3).trans hlo4;have hin:=Ws l;have hnl:=XQ l hev24;clear hlo1 hlo2 hlo3 hlo4 hI hI2 hI3 hw4 hA hA2 hA3 hD1 hD2 hD3 hf1 hb0 lb0;have hbox:=hW.box;rw[FJ] at hbox;have lbox:=AG hbox rfl;generalize E1 l=nx at *;have hmk:=Tr (AI l.parts).length oo;have hms:=Wr s4 (AI l.parts).length;have hiw:(Ah l.parts).length=(AI l.parts).length:=hlI;refine Cf ?_;simp only[zF,seval,hbox,lbox,hiw,hmk,hms];generalize hnn:(AI l.parts).length=n at *;have hfW:Fr s4 (s4++[.arr 1 (List.replicate n (.int .i64 0))]) []:=Fr.app _ _;have hW5:A1 (s4++[.arr 1 (List.replicate n (.int .i64 0))]) s4.length=.arr 1 (List.replicate n (.int .i64 0)):=Cd;have hlo5:=hlo.trans (Fr.lo (N:=s0.length) hfW A6);have hb5:=hfW.at hbox rfl A6;have hM5:=hfW.at hW.Ad rfl A6;have hsw:w≠s4.length:=oo;have hM4:M≠s4.length:=by have:=AG hW.Ad rfl;omega
 have hN4:s0.length<=s4.length:=oo;generalize (s4++[.arr 1 (List.replicate n (.int .i64 0))])=s5 at *;generalize s4.length=W at *;have lb5:=AG hb5 rfl;have lW5:=AG hW5 rfl;have hrl:((List.range n).map λi=>AM.D.sl ((nx i).map (.int .i64))).length=n:=A6;have hrg:∀k,k<n->((List.range n).map λi=>AM.D.sl ((nx i).map (.int .i64))).getD k default=.sl ((nx k).map (.int .i64)):=λk hk=>by simp[hk]
 generalize hRR:((List.range n).map λi=>AM.D.sl ((nx i).map (.int .i64)))=rows at *;refine Hd ?_;simp only[zF,seval,hb5,lb5,hrl];refine Gg ?_;have hWw:W≠w:=λe=>hsw e.symm;refine Fm (τ:=Nat) (λk=>[(41,(k:Int)),(40,(n:Int)),(39,.d (.sl rows)),(6,.A8 W 0 n),(4,.ptr w 0),(2,.d (.raw (.pointer none))),(3,(0:Int))]) (λk=>s5.set W (.arr 1 ((wtF nx n k).map (.int .i64)))) (λk=>k<=n) (λk=>n-k) 0 (Bq _) (by rw[show s5.set W (.arr 1 ((wtF nx n 0).map (.int .i64)))=s5 from by rw[wtF,aG,<-hW5,j0]];exact AU rfl) ?_;intro k hk;refine Cf ?_;by_cases hh:k<n
 ·have hwl:=Yt nx n k;have hwb:=ZB nx n 20000 hnl k;have hnk:=hnl k;have hik:=hin k;have hstp:wtF nx n (k+1)=wtR (wtF nx n k) (nx k):=rfl;have hrk:=hrg k hh;generalize hw0:wtF nx n k=w0 at *;generalize hro:nx k=row at *;simp only[zF,seval,(oo:(k:Int)<n)];refine Jf ?_;simp only[zF,seval,hrl,hh,(oo:(k:Int)<n),hrk];refine Cu ?_;refine Gg ?_;refine Fm (τ:=Nat) (λm=>[(47,(m:Int)),(46,(row.length:Int)),(45,.d (.sl (row.map (.int .i64)))),(41,(k:Int)),(40,(n:Int)),(39,.d (.sl rows)),(6,.A8 W 0 n),(4,.ptr w 0),(2,.d (.raw (.pointer none))),(3,(0:Int))]) (λm=>s5.set W (.arr 1 ((wtR w0 (row.take m)).map (.int .i64)))) (λm=>m<=row.length) (λm=>row.length-m) 0 (Bq _) (AU rfl) ?_;intro m hm;refine Cf ?_;by_cases hml:m<row.length
  ·have hs2:=xd w0 row m hml;have hvl:=Yu (row.take m) w0;obtain⟨y,hy,hyn⟩:∃y:Nat,row.getD m default=(y:Int)/\y<n:=by
    have:=hik _ (Ba hml);exact⟨(row.getD m default).toNat,oo,oo⟩
   have hvb:=(ZC (row.take m) w0 hwb y);have htl:(row.take m).length=m:=Pf;rw[htl] at hvb;have hkc:((k*20000:Nat):Int)<=480000:=oo;rw[hy,Dw] at hs2;have hWv:A1 (s5.set W (.arr 1 ((wtR w0 (row.take m)).map (.int .i64)))) W=.arr 1 ((wtR w0 (row.take m)).map (.int .i64)):=BX lW5;generalize wtR w0 (row.take m)=v at *;have hyv:y<v.length:=oo;refine mP ?_;refine Eu ?_;simp only[zF,seval,lW5,(oo:(y:Int)<n),hvl,hwl,hyn,hyv,Af _ _ _ (oo:y<v.length),a_w (v.getD y default+1),BW];refine Ta ?_;refine⟨m+1,oo,oo,?_⟩;rw[hs2,JS];exact Dd
  have hme:m=row.length:=oo;subst hme;simp only[zF,seval,(oo:¬(row.length:Int)<row.length)];refine Cu ?_;refine Hc ?_;refine⟨k+1,oo,oo,?_⟩;rw[hstp,BL];exact Dd
 have hkn:n=k:=oo;subst hkn;simp only[zF,seval,(oo:¬(n:Int)<n)];refine Cu ?_;have hwl:=Yt nx n n;have hwb:=ZB nx n 20000 hnl n;have hkf:khF nx n=khL nx (2*n+1) (wtF nx n n) (rd0 (wtF nx n n) n) 0:=rfl;have hWv:A1 (s5.set W (.arr 1 ((wtF nx n n).map (.int .i64)))) W=.arr 1 ((wtF nx n n).map (.int .i64)):=BX lW5;have hb6:=(show A1 (s5.set W (.arr 1 ((wtF nx n n).map (.int .i64)))) w=A1 s5 w from As hWw).trans hb5;have hM6:=(show A1 (s5.set W (.arr 1 ((wtF nx n n).map (.int .i64)))) M=A1 s5 M from As λe=>hM4 e.symm).trans hM5;have hlo6:Lo s0.length Z (s5.set W (.arr 1 ((wtF nx n n).map (.int .i64)))):=hlo5.trans (Fr.lo (ids:=[W]) ((Fr.refl s5 [W]).set _ A6) Ap);generalize s5.set W (.arr 1 ((wtF nx n n).map (.int .i64)))=s6 at *;generalize wtF nx n n=w0 at *;clear hW5 hb5 hM5 hlo5 lb5 lW5 hk hh;have lW6:=AG hWv rfl;refine Cu ?_;refine AWp.Cj (Eb 11 1 rfl) ?_;refine Hd ?_;simp only[zF,seval,hWv,lW6];refine Gg ?_;refine Fm (τ:=Nat×Nat×Sto) (λy=>[(61,(y.1:Int)),(60,(n:Int)),(59,.A8 W 0 n),(11,.A8 y.2.1 0 (rd0 w0 y.1).length),(6,.A8 W 0 n),(4,.ptr w 0),(2,.d (.raw (.pointer none))),(3,(0:Int))]) (λy=>y.2.2)
  (λy=>y.1<=n/\Lo s0.length Z y.2.2/\A1 y.2.2 W=.arr 1 (w0.map (.int .i64))/\A1 y.2.2 w=A1 s6 w/\A1 y.2.2 M=A1 s6 M/\W<y.2.1/\A1 y.2.2 y.2.1=.arr 1 ((rd0 w0 y.1).map (.int .i64))) (λy=>n-y.1) (0,s6.length,_) ⟨Bq _,hlo6.trans (Fr.lo (Fr.app s6 _) A6),?_,?_,?_,lW6,Cd⟩ (AU rfl) ?_
 ·exact(Fr.app s6 _).at hWv rfl A6
 ·exact(BB (AG hb6 rfl))
 ·exact(BB (AG hM6 rfl))
 rintro⟨k,R,S⟩ ⟨hk,hlo,hWS,hbS,hMS,hRW,hRS⟩;simp only at hk hlo hWS hbS hMS hRW hRS;refine Cf ?_;by_cases hh:k<n
 ·have hr0:rd0 w0 (k+1)=if w0.getD k default=0 then rd0 w0 k++[(k:Int)] else rd0 w0 k:=rfl;have hrl0:(rd0 w0 k).length<=k:=Yj w0 k;generalize rd0 w0 k=rd at *;have lWS:=AG hWS rfl;have lRS:=AG hRS rfl;have hkw:k<w0.length:=oo;have hto:List.take rd.length (rd.map (AM.D.int .i64))=rd.map (AM.D.int .i64):=Bi A6;simp only[zF,seval,(oo:(k:Int)<n)];refine Jf ?_;simp only[zF,seval,hWS,lWS,(oo:(k:Int)<n),hwl,hh,hkw,Af _ _ _ (oo:k<w0.length),BW];refine Eu ?_;simp only[zF,seval,hRS,lRS,hto,(oo:(rd.length+1)*8<=140737488355328),(oo:rd.length<=4611686018427387903)];apply ifC.mk<;>intro hz
  ·rw[AD OA] at hr0;refine Hc ?_;have hf7:Fr S (S.set R .dead++[.arr 1 [.int .i64 (k:Int)],.arr 1 (rd.map (.int .i64)++[.int .i64 (k:Int)])]) [R]:=((Fr.refl S [R]).set _ A6).trans (Fr.app _ _) A6;have hwR:w≠R:=by rw[hb6] at hbS;exact AX hbS hRS A6
   have hMR:M≠R:=by rw[hM6] at hMS;exact AX hMS hRS A6
   refine⟨(k+1,S.length+1,_),⟨AQ,hlo.trans (Fr.lo hf7 Ap),hf7.at hWS rfl Ap,?_,?_,(oo:W<S.length+1),?_⟩,AQ,?_⟩;rotate_left 3
   ·rw[hr0];simp only[Bb,Hx];exact AU rfl
   ·simp only;rw[hb6] at hbS ⊢;exact hf7.at hbS rfl (by simpa using hwR)
   ·simp only;rw[hM6] at hMS ⊢;exact hf7.at hMS rfl (by simpa using hMR)
   simp only;rw[hr0,CE,A7 A6,BH,EB,CA];rfl
  rw[A7 OA] at hr0;refine Hc ?_;exact⟨(k+1,R,S),⟨AQ,hlo,hWS,hbS,hMS,hRW,by simp only;rw[hr0];exact hRS⟩,AQ,by rw[hr0];exact AU rfl⟩
 have hkn:n=k:=oo;subst hkn;simp only[zF,seval,(oo:¬(n:Int)<n)];refine Cu ?_;rw[hb6] at hbS;rw[hM6] at hMS;clear hb6 hM6 hlo6 hWv lW6 hh hk;have hrl0:(rd0 w0 n).length<=n:=Yj w0 n;refine Cu ?_;have hnu0:nuK w0 (rd0 w0 n)<=2*n:=by
  have:=Ge (λx:Int=>decide (0<x)) w0;unfold nuK;omega
 have hrm0:∀y∈rd0 w0 n,0<=y/\y<(n:Int):=Za w0 n;rw[show n*20000=20000*n from T4 _ _] at hwb;generalize rd0 w0 n=rdd at *;refine Pq ?_;refine Fm (τ:=(List Int×List Int)×Nat×List Int×Nat×Sto) (λy=>[(14,((y.2.1:Nat):Int)),(11,.A8 y.2.2.2.1 y.2.2.1.length y.1.2.length),(6,.A8 W 0 n),(4,.ptr w 0),(2,.d (.raw (.pointer none))),(3,(0:Int))]) (λy=>y.2.2.2.2)
  (λy=>KI nx n (khF nx n) y.1.1 y.1.2 y.2.1/\Lo s0.length Z y.2.2.2.2/\A1 y.2.2.2.2 W=.arr 1 (y.1.1.map (.int .i64))/\A1 y.2.2.2.2 w=A1 S w/\A1 y.2.2.2.2 M=A1 S M/\W<y.2.2.2.1/\A1 y.2.2.2.2 y.2.2.2.1=.arr 1 ((y.2.2.1++y.1.2).map (.int .i64))) (λy=>nuK y.1.1 y.1.2) ((w0,rdd),0,[],R,S) ⟨⟨hwl,λj=>by have:=hwb j;simp only;omega,hrm0,by simpa using hnu0,2*n+1,AQ,hkf.symm⟩,hlo,hWS,rfl,rfl,hRW,hRS⟩ (AU rfl) ?_
 rintro⟨⟨wv,rd⟩,c,pre,R2,S2⟩ ⟨hK,hlo2,hW2,hb2,hM2,hR2,hRS2⟩;simp only at hK hlo2 hW2 hb2 hM2 hR2 hRS2;have lW2:=AG hW2 rfl;have lR2:=AG hRS2 rfl;have hbx2:=hb2.trans hbS;have lb2:=AG hbx2 rfl;refine Hd ?_;cases rd with
 | nil=>
  simp only[zF,seval,C6];refine GV ?_;obtain⟨fu,hfu1,hfu2⟩:=hK.fuel;obtain⟨m,rfl⟩:∃m,fu=m+1:=⟨fu-1,oo⟩;have hc:khF nx n=c:=by rw[<-hfu2];rfl
  have hcb:=hK.sum;rw[hc] at hce;refine Hd ?_;simp only[zF,seval,hbx2,lb2,hiw];by_cases hcn:c<n
  ·rw[AD hcn] at hce;simp only[zF,seval,(oo:(c:Int)<n)];refine GV ?_;refine Ln ?_;rw[hce,AD D7];exact⟨rfl,Lo.fr ⟨hlo2.1,λj hj=>hlo2.2 j oo⟩⟩
  rw[A7 hcn] at hce;simp only[zF,seval,(oo:¬(c:Int)<n)];refine GV ?_;refine GV ?_;refine Ln ?_;rw[hce,A7 A6];refine⟨w,M,rfl,oo,oo,⟨?_,?_⟩,Lo.fr ⟨hlo2.1,λj hj=>hlo2.2 j oo⟩⟩
  ·rw[hbx2,FJ,hnn,hRR]
  rw[hM2,hMS]
 | cons x r=>
  simp only[zF,seval,CT,(oo:(0:Int)<(r.length:Int)+1)];refine GV ?_;obtain⟨xn,hxn,hxl⟩:∃m:Nat,x=(m:Int)/\m<n:=by
   have:=hK.rin x A6;exact⟨x.toNat,oo,oo⟩
  subst hxn;have hg1:((pre++(xn:Int)::r).map (AM.D.int .i64)).getD pre.length default=.int .i64 (xn:Nat):=A6;have hlr:(pre++(xn:Int)::r).length=pre.length+(r.length+1):=A6;have hrw:=hrg xn hxl;have hrin:=hin xn;have hrlen:=hnl xn;obtain⟨fu,hfu1,hfu2⟩:=hK.fuel;obtain⟨fm,rfl⟩:∃m,fu=m+1:=⟨fu-1,oo⟩;have hkh:khL nx fm ((nx xn).foldl khS (wv,r)).1 ((nx xn).foldl khS (wv,r)).2 (c+1)=khF nx n:=hfu2;generalize hrow:nx xn=row at *;refine Pq ?_;refine Cf ?_;simp only[zF,seval,hRS2,lR2,(oo:(0:Int)<(r.length:Int)+1),(oo:pre.length<pre.length+(r.length+1)),hg1,hlr,BW,Gb];refine Cf ?_;simp only[zF,seval,hRS2,lR2,(oo:(1:Int)<=(r.length:Int)+1),(oo:(r.length:Int)+1<=(r.length:Int)+1),hlr,BW,show((r.length:Int)+1).toNat-1=r.length by omega];refine Cf ?_;simp only[zF,seval,hbx2,lb2,hrl,hxl,(oo:(xn:Int)<n),hrw];refine Gg ?_;have hK0:=hK.sum;have hKb:=hK.bnd;have hKr:=hK.rin;have hKl:=hK.len;refine Fm (τ:=Nat×List Int×Nat×Sto) (λy=>[(91,(y.1:Int)),(90,(row.length:Int)),(89,.d (.sl (row.map (.int .i64)))),(14,((c:Nat):Int)),(11,.A8 y.2.2.1 y.2.1.length ((row.take y.1).foldl khS (wv,r)).2.length),(6,.A8 W 0 n),(4,.ptr w 0),(2,.d (.raw (.pointer none))),(3,(0:Int))]) (λy=>y.2.2.2)
   (λy=>y.1<=row.length/\Lo s0.length Z y.2.2.2/\A1 y.2.2.2 W=.arr 1 (((row.take y.1).foldl khS (wv,r)).1.map (.int .i64))/\A1 y.2.2.2 w=A1 S w/\A1 y.2.2.2 M=A1 S M/\W<y.2.2.1/\A1 y.2.2.2 y.2.2.1=.arr 1 ((y.2.1++((row.take y.1).foldl khS (wv,r)).2).map (.int .i64))/\(∀j,-(20000*(c:Int))-y.1<=(((row.take y.1).foldl khS (wv,r)).1).getD j default/\(((row.take y.1).foldl khS (wv,r)).1).getD j default<=20000*(n:Int))/\(∀z∈((row.take y.1).foldl khS (wv,r)).2,0<=z/\z<(n:Int)))
   (λy=>row.length-y.1) (0,pre++[(xn:Int)],R2,S2) ⟨Bq _,hlo2,hW2,hb2,hM2,hR2,by rw[hRS2];simp,λj=>by have:=hKb j;simp only[VW,Nx];omega,λz hz=>hKr z (by simp only[VW,Nx] at hz;simp[hz])⟩ (AU (by simp only[VW,Nx,Bb,Hx];rfl)) ?_
  rintro⟨m,pr,R3,S3⟩ ⟨hm,hlo3,hW3,hb3,hM3,hR3,hRS3,hbd3,hin3⟩;simp only at hm hlo3 hW3 hb3 hM3 hR3 hRS3 hbd3 hin3;refine Cf ?_;have hfl:=eO (row.take m) (wv,r);by_cases hml:m<row.length
  ·have hstp:(row.take (m+1)).foldl khS (wv,r)=khS ((row.take m).foldl khS (wv,r)) (row.getD m default):=by rw[CY row m hml,GD];rfl
   have hq24:((row.take m).foldl khS (wv,r)).2.length<=100000:=by
    have h1:=Xv (row.take m) (wv,r) λy hy=>by have:=hrin y (GS hy);simp only;omega
    unfold nuK at h1 hK0;simp only[CT] at h1 hK0;omega
   obtain⟨y,hy,hyn⟩:∃y:Nat,row.getD m default=(y:Int)/\y<n:=by
    have:=hrin _ (Ba hml);exact⟨(row.getD m default).toNat,oo,oo⟩
   rw[hy] at hstp;generalize hst:(row.take m).foldl khS (wv,r)=st at *;obtain⟨v,q2⟩:=st;simp only at hW3 hRS3 hbd3 hin3 hfl hq24;have hk1:khS (v,q2) (y:Int)=(v.set y (v.getD y default-1),if(v.set y (v.getD y default-1)).getD y default=0 then q2++[(y:Int)] else q2):=by simp only[khS,Dw]
   have hyv:y<v.length:=oo;have hg2:(v.set y (v.getD y default-1)).getD y default=v.getD y default-1:=by simp[hyv]
   rw[hg2] at hk1;rw[hk1] at hstp;have hby:=hbd3 y;have hcb:(c:Int)<=48:=oo;have lW3:=AG hW3 rfl;have lR3:=AG hRS3 rfl;have hbd4:∀j,-(20000*(c:Int))-((m+1:Nat):Int)<=(v.set y (v.getD y default-1)).getD j default/\(v.set y (v.getD y default-1)).getD j default<=20000*(n:Int):=λj=>by
    have h1:=hbd3 j;by_cases e:y=j
    ·subst e;rw[hg2];omega
    rw[B5,IX e,<-B5];omega
   refine mP ?_;refine Cf ?_;simp only[zF,seval,hW3,lW3,(oo:(y:Int)<n),hfl,hKl,hyn,hyv,Af _ _ _ (oo:y<v.length),a_w (v.getD y default-1),BW];rw[<-JS];have hvl:(v.set y (v.getD y default-1)).length=v.length:=A6;have hfr4:Fr S3 (S3.set W (.arr 1 ((v.set y (v.getD y default-1)).map (.int .i64)))) [W]:=(Fr.refl S3 [W]).set _ A6;have hW4:A1 (S3.set W (.arr 1 ((v.set y (v.getD y default-1)).map (.int .i64)))) W=.arr 1 ((v.set y (v.getD y default-1)).map (.int .i64)):=BX lW3;have hRS4:=hfr4.at hRS3 rfl Ap;have hb4:=(show A1 (S3.set W (.arr 1 ((v.set y (v.getD y default-1)).map (.int .i64)))) w=A1 S3 w from As hWw).trans hb3;have hM4':=(show A1 (S3.set W (.arr 1 ((v.set y (v.getD y default-1)).map (.int .i64)))) M=A1 S3 M from As λe=>hM4 e.symm).trans hM3;have hlo4:=hlo3.trans (Fr.lo (N:=s0.length) hfr4 Ap);generalize S3.set W (.arr 1 ((v.set y (v.getD y default-1)).map (.int .i64)))=S4 at *;generalize hv2:v.set y (v.getD y default-1)=v2 at *;have lW4:=AG hW4 rfl;have lR4:=AG hRS4 rfl;have hyv2:y<v2.length:=oo;refine Eu ?_;simp only[zF,seval,hW4,lW4,(oo:(y:Int)<n),hvl,hfl,hKl,hyn,hyv2,Af _ _ _ (oo:y<v2.length),BW,hg2];have hlq:List.take q2.length (List.drop pr.length ((pr++q2).map (AM.D.int .i64)))=q2.map (AM.D.int .i64):=by
    rw[CA,List.drop_left' A6,Bi A6]
   apply ifC.mk<;>intro hz
   ·have hz':v.getD y default-1=0:=OA;rw[AD hz'] at hstp;simp only[zF,seval,hRS4,lR4,hlq,(oo:(q2.length+1)*8<=140737488355328),(oo:q2.length<=4611686018427387903),BW];refine Ta ?_;have hf7:Fr S4 (S4.set R3 .dead++[.arr 1 [.int .i64 (y:Int)],.arr 1 (q2.map (.int .i64)++[.int .i64 (y:Int)])]) [R3]:=((Fr.refl S4 [R3]).set _ A6).trans (Fr.app _ _) A6;have hwR:w≠R3:=by rw[hbS] at hb4;exact AX hb4 hRS4 A6
    have hMR:M≠R3:=by rw[hMS] at hM4';exact AX hM4' hRS4 A6
    refine⟨(m+1,[],S4.length+1,_),⟨AQ,hlo4.trans (Fr.lo hf7 Ap),?_,?_,?_,(oo:W<S4.length+1),?_,?_,?_⟩,AQ,?_⟩;rotate_left 6
    ·simp only;rw[hstp];simp only[Bb,Hx];exact AU rfl
    ·simp only;rw[hstp];exact hf7.at hW4 rfl Ap
    ·simp only;rw[hbS] at hb4 ⊢;exact hf7.at hb4 rfl (by simpa using hwR)
    ·simp only;rw[hMS] at hM4' ⊢;exact hf7.at hM4' rfl (by simpa using hMR)
    ·simp only;rw[hstp,CE,A7 A6,BH,EB,Vm,CA];rfl
    ·simp only;rw[hstp];exact hbd4
    simp only;rw[hstp];intro z hz3;rcases CH.1 hz3 with hz3|hz3
    ·exact hin3 z hz3
    have:=CG.1 hz3;omega
   have hz':¬v.getD y default-1=0:=OA;rw[A7 hz'] at hstp;refine Ta ?_;refine⟨(m+1,pr,R3,S4),⟨AQ,hlo4,?_,hb4,hM4',hR3,?_,?_,?_⟩,AQ,?_⟩
   ·simp only;rw[hstp];exact hW4
   ·simp only;rw[hstp];exact hRS4
   ·simp only;rw[hstp];exact hbd4
   ·simp only;rw[hstp];exact hin3
   simp only;rw[hstp];exact AU rfl
  have hme:row.length=m:=oo;subst hme;rw[BL] at *;simp only[zF,seval,(oo:¬(row.length:Int)<row.length)];refine Cu ?_;have hnu:=Xv row (wv,r) λy hy=>by have:=hrin y hy;simp only;omega
  have hnx:nuK wv ((xn:Int)::r)=nuK wv r+1:=by unfold nuK;simp only[CT];omega
  generalize row.foldl khS (wv,r)=st at *;obtain⟨v,q2⟩:=st;simp only at hW3 hRS3 hbd3 hin3 hfl hnu hkh;refine Eu ?_;simp only[zF,seval,a_w ((c:Int)+1)];refine⟨((v,q2),c+1,pr,R3,S3),⟨⟨AQ,λj=>by have:=hbd3 j;simp only;omega,hin3,AQ,fm,AQ,hkh⟩,hlo3,hW3,hb3,hM3,hR3,hRS3⟩,AQ,AU rfl⟩

def rh(l:Av)(h:l.BZ):AT prog Gl 145 [.d l.A5] (.d (.int .i64 (Eg l))):=by
 refine CN ?_;refine Fv func145 rfl rfl (by simp[ntmps145]) ?_;simp only[ntmps145,results145,B6,C6];refine Pl ?_;refine Be ((jd l h _).mono λr s hr=>?_);by_cases hc:Eg l≠0
 ·rw[AD hc] at hr;obtain⟨rfl,_⟩:=hr;refine C0 ?_;refine GV ?_;exact D0
 rw[A7 hc] at hr;obtain⟨w,M,rfl,_⟩:=hr;have hc:Eg l=0:=Dc;rw[hc];refine C0 ?_;refine GV ?_;exact D0
end YtafpldmnkcegmaaGreat
end Go.Proofs
