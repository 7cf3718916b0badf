/- A part of the proof: contracts of functions of this seat, and lemmas. No condition beyond those stated. -/
import Derived.Test.YtafpldmnkcegmaaGreatH1
import Derived.Test.YtafpldmnkcegmaaGreatG3
import Derived.Test.YtafpldmnkcegmaaGreatG4
set_option linter.all false
set_option maxRecDepth 100000
namespace Go.Proofs
open Go.AM Tryz
namespace YtafpldmnkcegmaaGreat
variable {Gl:BM} {τ:Sto}
structure NW(Gl:BM)(τ:Sto)(es:Nat)(g:Bool)(Dm:D->Prop)(cmpF:D->D->Int)(fv:FuncId)(caps:List AV):Prop where
 el:∀x,Dm x->ElG g es x
 call:∀x y,Dm x->Dm y->∀ys s,Ext (.arr es ys::τ) s->AW prog Gl fv ([.d x,.d y]++caps) s (λr s'=>r=.d (.int .i64 (cmpF x y))/\s'=s)
 swo:Swo Dm (λx y=>decide (cmpF x y<0))
structure V9(xs:List D)(lt:D->D->Bool)(i:Nat)(ρ:Nat->Nat)(j:Nat)(κ:Nat->Nat):Prop where
 le:j<=i
 at_:κ j=ρ i
 left:∀p,p<j->κ p=ρ p
 Qb:∀p,j<p->p<=i->κ p=ρ (p-1)
 right:∀p,i<p->κ p=ρ p
 less:∀p,j<=p->p<i->Lx lt xs (ρ i) (ρ p)
def Qbp{xs:List D}{lt:D->D->Bool}{i j:Nat}{G K:Nat->Nat}(h:V9 xs lt i G j K)(hj:0<j)(hl:Lx lt xs (G i) (G (j-1))):
  V9 xs lt i G (j-1) (λp=>if p=j-1 then K j else if p=j then K (j-1) else K p):=by
 have hle:=h.le;refine⟨oo,?_,λp hp=>?_,λp h1 h2=>?_,λp hp=>?_,λp h1 h2=>?_⟩
 ·simp only[By];exact h.at_
 ·rw[A7 oo,A7 oo];exact h.left p oo
 ·rw[A7 oo];by_cases e:p=j
  ·rw[AD e,e];exact h.left _ oo
  rw[A7 e];exact h.Qb p oo h2
 ·rw[A7 oo,A7 oo];exact h.right p hp
 by_cases e:p=j-1
 ·rw[e];exact hl
 exact h.less p oo h2
def dM{Dm:D->Prop}{xs:List D}{lt:D->D->Bool}(hw:Swo Dm lt)(hx:∀y∈xs,Dm y){a i j:Nat}{W G K:Nat->Nat}(hi:i<xs.length)(hπ:∀p,p<xs.length->W p<xs.length)
  (hM:Mv a i W G) (hS:DP lt xs a i G) (h:V9 xs lt i G j K) (haj:a<=j) (hl:a<j->Lx lt xs (G (j-1)) (G i)) :
  Mv a (i+1) W K/\DP lt xs a (i+1) K:=by
 have hle:=h.le;have hρ:∀p,p<xs.length->G p<xs.length:=λp hp=>by
  by_cases hq:a<=p/\p<i
  ·obtain⟨q,q1,q2,q3⟩:=hM.Gs p hq.1 hq.2;rw[q3];exact hπ q oo
  rw[hM.out p oo];exact hπ p hp
 have hi':G i=W i:=hM.out i oo;refine⟨⟨λp hp=>?_,λp h1 h2=>?_⟩,λp q h1 h2 h3=>?_⟩
 ·rcases B9 p j with hpj|hpj
  ·rw[h.left p hpj];exact hM.out p oo
  rw[h.right p oo];exact hM.out p oo
 ·rcases HA p j with hpj|hpj|hpj
  ·rw[h.left p hpj];obtain⟨q,q1,q2,q3⟩:=hM.Gs p h1 oo;exact⟨q,q1,oo,q3⟩
  ·subst hpj;exact⟨i,oo,oo,by rw[h.at_,hi']⟩
  rw[h.Qb p hpj oo];obtain⟨q,q1,q2,q3⟩:=hM.Gs (p-1) oo oo;exact⟨q,q1,oo,q3⟩
 rcases HA q j with hq|hq|hq
 ·rw[h.left p oo,h.left q hq];exact hS p q h1 h2 oo
 ·subst hq;rw[h.left p h2,h.at_];have hlq:=hl oo;by_cases e:p=q-1
  ·rw[e];exact hlq
  exact Lx.trans hw hx (hρ p oo) (hρ (q-1) oo) (hρ i hi) (hS p (q-1) h1 oo oo) hlq
 rw[h.Qb q hq oo];rcases HA p j with hp|hp|hp
 ·rw[h.left p hp];exact hS p (q-1) h1 oo oo
 ·subst hp;rw[h.at_];exact h.less (q-1) oo oo
 rw[h.Qb p hp oo];exact hS (p-1) (q-1) oo oo oo
def ef{S E C n0 n1 n2 n3 n4 n5 es:Nat}{g:Bool}(H:Fam S E C es g n0 n1 n2 n3 n4 n5)(Dm:D->Prop)(cmpF:D->D->Int)(fv:FuncId)(caps:List AV)(hC:NW Gl τ es g Dm cmpF fv caps)(xs ys:List D)(hxs:∀y∈xs,Dm y)(n a b:Nat)(W:Nat->Nat)(hA:Arr Dm xs ys W)(hπ:∀p,p<xs.length->W p<xs.length)
  (hn:n<=xs.length) (hN:n<1000000) (hab:a<=b) (hb:b<=n) (hr:Q61 a b W) :
  AW prog Gl n2 [.A8 0 0 n,(a:Int),(b:Int),.fn fv caps] (.arr es ys::τ)
   (λr s=>r=.Aj []/\∃zs G,s=(.arr es zs::τ)/\Arr Dm xs zs G/\Mv a b W G/\DP (λx y=>decide (cmpF x y<0)) xs a b G):=by
 refine Oo H.i2 rfl (by simp[ntmps122]) (Bu rfl _ _ _ _ ?_);simp only[JJ,JI,ntmps122,results122,B6,C6];simp only[zS,seval,H.ti,H.te,H.tk,H.tz];refine CL (τ:=Nat×List D) (λx=>[(0,.A8 0 0 n),(1,(a:Int)),(2,(b:Int)),(3,.fn fv caps),(8,(x.1:Int))]) (λx=>(.arr es x.2::τ))
  (λx=>a+1<=x.1/\(x.1<=b\/x.1=a+1)/\∃G,Arr Dm xs x.2 G/\Mv a (min x.1 b) W G/\DP (λx y=>decide (cmpF x y<0)) xs a (min x.1 b) G) (λx=>b+1-x.1) (a+1,ys)
  ⟨AQ,.inr rfl,W,hA,Mv.refl _ _ _,λp q h1 h2 h3=>by simp only at h3;omega⟩ ?_ ?_
 ·refine AU ?_;have e1:IntKind.i64.wrap ((a:Int)+1)=((a+1:Nat):Int):=Bz;simp only[zS,seval,H.ti,H.te,H.tk,H.tz,e1]
 intro x hi;obtain⟨i,us⟩:=x;obtain⟨h1,h2,G,hU,hM,hS⟩:=hi;simp only at h1 h2 hU hM hS;simp only[zS,seval,H.ti,H.te,H.tk,H.tz];apply ifC.mk<;>intro h
 ·have h:i<b:=Dy;have hmin:min i b=i:=oo;rw[hmin] at hM hS;have hlU:=hU.len;refine CL (τ:=Nat×List D) (λx=>[(0,.A8 0 0 n),(1,(a:Int)),(2,(b:Int)),(3,.fn fv caps),(8,(i:Int)),(9,(x.1:Int))]) (λx=>(.arr es x.2::τ))
   (λx=>a<=x.1/\∃K,Arr Dm xs x.2 K/\V9 xs (λx y=>decide (cmpF x y<0)) i G x.1 K) (λx=>x.1) (i,us)
   ⟨AQ,G,hU,AR _,rfl,λ_ _=>rfl,λp q1 q2=>oo,λ_ _=>rfl,λp q1 q2=>oo⟩ ?_ ?_
  ·exact TZ
  intro y hi;obtain⟨j,vs⟩:=y;obtain⟨k1,K,hV,hK⟩:=hi;simp only at k1 hV hK;have hlV:=hV.len;have k2:=hK.le;have l1:=ElG.at hC.el hV.el (i:=j) oo;have c1:(j:Int)<(n:Int):=oo;have c3:j<vs.length:=oo;by_cases haj:a<j
  ·have haj':(a:Int)<(j:Int):=oo;have e1:IntKind.i64.wrap ((j:Int)-1)=((j-1:Nat):Int):=Bz;have l2:=ElG.at hC.el hV.el (i:=j-1) oo;have c2:((j-1:Nat):Int)<(n:Int):=oo;have c4:j-1<vs.length:=oo;simp only[zS,seval,H.ti,H.te,H.tk,H.tz,e1,l1,l2,c1,c2,c3,c4,haj'];refine⟨.inl Ax,S7 (v:=.d (.int .i64 (cmpF (vs.getD j default) (vs.getD (j-1) default)))) (λ_ s hs=>hC.call _ _ (hV.at oo) (hV.at oo) _ s hs) ?_⟩;have g1:vs.getD j default=xs.getD (G i) default:=by rw[hV.get j oo,hK.at_]
   have g2:vs.getD (j-1) default=xs.getD (G (j-1)) default:=by rw[hV.get (j-1) oo,hK.left (j-1) oo]
   simp only[zS,seval,H.ti,H.te,H.tk,H.tz,e1,l1,l2,c1,c2,c3,c4,haj'];apply ifC.mk<;>intro hc
   ·have e2:IntKind.i64.wrap ((j:Int)-1)=((j-1:Nat):Int):=e1;refine⟨.inl Ax,(j-1,_),⟨AQ,_,hV.swap (i:=j) (j:=j-1) oo oo,Qbp hK oo (.inl ?_)⟩,AQ,AU ?_⟩
    ·simp only;rw[<-g1,<-g2];exact hc
    simp only[zS,seval,H.ti,H.te,H.tk,H.tz,e1]
   have hc:¬cmpF (vs.getD j default) (vs.getD (j-1) default)<0:=Dc;have e3:IntKind.i64.wrap ((i:Int)+1)=((i+1:Nat):Int):=Bz;obtain⟨d1,d2⟩:=dM hC.swo hxs oo hπ hM hS hK k1 (λ_=>by
    obtain⟨q,q1,q2,q3⟩:=hM.Gs (j-1) oo oo
    refine(Lx.Lr ?_).2 (.inl ?_)
    ·rw[q3,hM.out i oo];exact hr q i q1 q2 h
    rw[<-g1,<-g2];simpa using hc)
   exact ox
  have haj':¬(a:Int)<(j:Int):=oo;simp only[zS,seval,H.ti,H.te,H.tk,H.tz,l1,c1,c3,haj'];refine⟨.inl Ax,S7 (v:=.d (.int .i64 0)) (λhg=>by cases hg) ?_⟩;have e3:IntKind.i64.wrap ((i:Int)+1)=((i+1:Nat):Int):=Bz;simp only[zS,seval,H.ti,H.te,H.tk,H.tz,l1,c1,c3,haj'];obtain⟨d1,d2⟩:=dM hC.swo hxs oo hπ hM hS hK k1 (λhh=>absurd hh haj);exact ox
 have h:¬i<b:=Dy;have hmin:min i b=b:=oo;rw[hmin] at hM hS;exact⟨_,_,Bg.refl _ _ _,rfl,us,G,rfl,hU,hM,hS⟩

def Su(x:Int):M0 .shr .u64 x 1=.int .u64 (x.fdiv 2):=by
 simp[M0,IntKind.bits]
def V5(x:Nat)(h:x<1000000000):IntKind.u64.wrap (x:Int)=x:=by
 rw[IntKind.wrap_u64];omega
def half(x:Nat)(h:x<1000000000):((x:Int).fdiv 2)=((x / 2:Nat):Int):=by
 rw[lH _ oo];omega
def Tn(x:Nat)(h:x<1000000000):IntKind.i64.wrap (x:Int)=x:=IL oo oo
def VN(τ:Sto)(es:Nat)(Dm:D->Prop)(cmpF:D->D->Int)(xs:List D)(a b:Nat)(W:Nat->Nat)(r:AV)(s:Sto):Prop:=
 r=.Aj []/\∃zs G,s=(.arr es zs::τ)/\Arr Dm xs zs G/\Mv a b W G/\DP (λx y=>decide (cmpF x y<0)) xs a b G
def Qeh{S E C n0 n1 n2 n3 n4 n5 es:Nat}{g:Bool}(H:Fam S E C es g n0 n1 n2 n3 n4 n5)(Dm:D->Prop)(cmpF:D->D->Int)(fv:FuncId)(caps:List AV)(hC:NW Gl τ es g Dm cmpF fv caps)(xs:List D)(hxs:∀y∈xs,Dm y)(n:Nat)(hn:n<=xs.length)(hN:n<1000000)
  (a m b:Nat) (ys:List D) (W:Nat->Nat) (hA:Arr Dm xs ys W) (hπ:∀p,p<xs.length->W p<xs.length) (ham:a<m) (hmb:m<b) (hbn:b<=n) (hS1:DP (λx y=>decide (cmpF x y<0)) xs a m W) (hS2:DP (λx y=>decide (cmpF x y<0)) xs m b W) (hT:Nn a m b W)
  (hbase:m=a+1\/b=m+1) :
  AW prog Gl n3 [.A8 0 0 n,(a:Int),(m:Int),(b:Int),.fn fv caps] (.arr es ys::τ) (VN τ es Dm cmpF xs a b W):=by
 refine Oo H.i3 rfl (by simp[ntmps123]) (Bu rfl _ _ _ _ ?_);simp only[JJ,JI,ntmps123,results123,B6,C6];have hlY:=hA.len;have e1:IntKind.i64.wrap ((m:Int)-a)=((m-a:Nat):Int):=Bz;have e2:IntKind.i64.wrap ((b:Int)-m)=((b-m:Nat):Int):=Bz;by_cases hc1:m=a+1
 ·have e3:(((m-a:Nat):Int)==1)=true:=Ap;simp only[zS,seval,H.ti,H.te,H.tk,H.tz,e1,e3];have ha1:(ys.getD a default)=xs.getD (W a) default:=hA.get a oo;have la:=ElG.at hC.el hA.el (i:=a) oo;refine CL (τ:=Nat×Nat) (λx=>[(0,.A8 0 0 n),(1,(a:Int)),(2,(m:Int)),(3,(b:Int)),(4,.fn fv caps),(10,(x.1:Int)),(11,(x.2:Int))]) (λx=>(.arr es ys::τ))
   (λx=>m<=x.1/\x.1<=x.2/\x.2<=b/\(∀q,m<=q->q<x.1->Lx (λx y=>decide (cmpF x y<0)) xs (W q) (W a))/\(∀q,x.2<=q->q<b->Lx (λx y=>decide (cmpF x y<0)) xs (W a) (W q))) (λx=>x.2-x.1) (m,b)
   ⟨AR _,AQ,AR _,λq q1 q2=>aj,λq q1 q2=>ai⟩ ?_ ?_
  ·exact TZ
  intro x hi;obtain⟨i,j⟩:=x;obtain⟨h1,h2,h3,h4,h5⟩:=hi;simp only at h1 h2 h3 h4 h5;refine L3 ?_;apply ifC.mk<;>intro h
  ·have h:i<j:=Dy;have g1:IntKind.i64.wrap ((i:Int)+j)=((i+j:Nat):Int):=Bz;have g2:IntKind.u64.wrap ((i+j:Nat):Int)=((i+j:Nat):Int):=V5 _ oo;have g3:((i+j:Nat):Int).fdiv 2=(((i+j) / 2:Nat):Int):=half _ oo;have g4:IntKind.i64.wrap (((i+j) / 2:Nat):Int)=(((i+j) / 2:Nat):Int):=Tn _ oo;have hh:∃h,h=(i+j) / 2/\i<=h/\h<j:=⟨_,rfl,oo,oo⟩;obtain⟨h',e5,e6,e7⟩:=hh;rw[<-e5] at g3 g4;have lh:=ElG.at hC.el hA.el (i:=h') oo;have c1:(h':Int)<(n:Int):=oo;have c2:(a:Int)<(n:Int):=oo;have c3:h'<ys.length:=oo;have c4:a<ys.length:=oo;simp only[zS,seval,H.ti,H.te,H.tk,H.tz,g1,g2,g3,g4,Su,la,lh,c1,c2,c3,c4];refine⟨.inl Ax,NH (v:=.d (.int .i64 (cmpF (ys.getD h' default) (ys.getD a default)))) (λs hs=>hC.call _ _ (hA.at oo) (hA.at oo) _ s hs) ?_⟩;have f1:ys.getD h' default=xs.getD (W h') default:=hA.get h' oo;have ht:W a<W h':=hT a h' (AR _) oo oo oo;refine L3 ?_;apply ifC.mk<;>intro hc
   ·have hL:Lx (λx y=>decide (cmpF x y<0)) xs (W h') (W a):=(Lx.tag ht).2 (by rw[<-f1,<-ha1];exact hc);have g5:IntKind.i64.wrap ((h':Int)+1)=((h'+1:Nat):Int):=Bz;simp only[zS,seval,H.ti,H.te,H.tk,H.tz,g5];refine⟨(h'+1,j),⟨AQ,AQ,h3,gz hC.swo hxs hπ oo (hπ _ oo) hS2 oo oo hL,h5⟩,AQ,AU ?_⟩;exact Ji
   have hL:Lx (λx y=>decide (cmpF x y<0)) xs (W a) (W h'):=(Lx.Lr ht).2 (.inl (by rw[<-f1,<-ha1];exact hc));refine⟨(i,h'),⟨h1,AQ,AQ,h4,jk hC.swo hxs hπ oo (hπ _ oo) hS2 oo oo hL⟩,AQ,AU ?_⟩;exact Ji
  have h:¬i<j:=Dy;have hij:i=j:=oo;subst hij;refine CL (τ:=Nat×List D) (λx=>[(0,.A8 0 0 n),(10,(i:Int)),(13,(x.1:Int))]) (λx=>(.arr es x.2::τ))
   (λx=>a<=x.1/\x.1<=i-1/\∃K,Arr Dm xs x.2 K/\(∀p,a<=p->p<x.1->K p=W (p+1))/\K x.1=W a/\(∀p,p<a\/x.1<p->K p=W p)) (λx=>i-x.1) (a,ys)
   ⟨AR _,AQ,W,hA,λp q1 q2=>aj,rfl,λp _=>rfl⟩ ?_ ?_
  ·exact TZ
  intro x hi;obtain⟨k,zs⟩:=x;obtain⟨k1,k2,K,hZ,q1,q2,q3⟩:=hi;simp only at k1 k2 hZ q1 q2 q3;have hlZ:=hZ.len;have g6:IntKind.i64.wrap ((i:Int)-1)=((i-1:Nat):Int):=Bz;simp only[zS,seval,H.ti,H.te,H.tk,H.tz,g6];apply ifC.mk<;>intro h
  ·have h:k<i-1:=Ks;have g7:IntKind.i64.wrap ((k:Int)+1)=((k+1:Nat):Int):=Bz;have l1:=ElG.at hC.el hZ.el (i:=k) oo;have l2:=ElG.at hC.el hZ.el (i:=k+1) oo;have c1:(k:Int)<(n:Int):=oo;have c2:((k+1:Nat):Int)<(n:Int):=oo;have c3:k<zs.length:=oo;have c4:k+1<zs.length:=oo;simp only[zS,seval,H.ti,H.te,H.tk,H.tz,g7,l1,l2,c1,c2,c3,c4];refine⟨.inl Ax,(k+1,_),⟨AQ,AQ,_,hZ.swap (i:=k) (j:=k+1) oo oo,λp p1 p2=>?_,?_,λp hp=>?_⟩,AQ,AU ?_⟩
   ·simp only at p2;rw[A7 oo];by_cases e:p=k
    ·rw[AD e,e];exact q3 _ oo
    rw[A7 e];exact q1 p p1 oo
   ·simp only[By];exact q2
   ·exact nJ
   simp only[zS,seval,H.ti,H.te,H.tk,H.tz,g7]
  have h:¬k<i-1:=Ks;have hk:k=i-1:=oo;subst hk;obtain⟨d1,d2⟩:=qg oo h1 h3 hS2 h4 h5 q1 q2 (λp hp=>q3 p oo);exact⟨_,_,Bg.refl _ _ _,rfl,zs,K,rfl,hZ,d1,d2⟩
 have e3:(((m-a:Nat):Int)==1)=false:=Ap;by_cases hc2:b=m+1
 ·have e4:(((b-m:Nat):Int)==1)=true:=Ap;simp only[zS,seval,H.ti,H.te,H.tk,H.tz,e1,e2,e3,e4];have hm1:(ys.getD m default)=xs.getD (W m) default:=hA.get m oo;have lm:=ElG.at hC.el hA.el (i:=m) oo;refine CL (τ:=Nat×Nat) (λx=>[(0,.A8 0 0 n),(1,(a:Int)),(2,(m:Int)),(3,(b:Int)),(4,.fn fv caps),(14,(x.1:Int)),(15,(x.2:Int))]) (λx=>(.arr es ys::τ))
   (λx=>a<=x.1/\x.1<=x.2/\x.2<=m/\(∀q,a<=q->q<x.1->Lx (λx y=>decide (cmpF x y<0)) xs (W q) (W m))/\(∀q,x.2<=q->q<m->Lx (λx y=>decide (cmpF x y<0)) xs (W m) (W q))) (λx=>x.2-x.1) (a,m)
   ⟨AR _,AQ,AR _,λq q1 q2=>aj,λq q1 q2=>ai⟩ ?_ ?_
  ·exact TZ
  intro x hi;obtain⟨i,j⟩:=x;obtain⟨h1,h2,h3,h4,h5⟩:=hi;simp only at h1 h2 h3 h4 h5;refine L3 ?_;apply ifC.mk<;>intro h
  ·have h:i<j:=Dy;have g1:IntKind.i64.wrap ((i:Int)+j)=((i+j:Nat):Int):=Bz;have g2:IntKind.u64.wrap ((i+j:Nat):Int)=((i+j:Nat):Int):=V5 _ oo;have g3:((i+j:Nat):Int).fdiv 2=(((i+j) / 2:Nat):Int):=half _ oo;have g4:IntKind.i64.wrap (((i+j) / 2:Nat):Int)=(((i+j) / 2:Nat):Int):=Tn _ oo;have hh:∃h,h=(i+j) / 2/\i<=h/\h<j:=⟨_,rfl,oo,oo⟩;obtain⟨h',e5,e6,e7⟩:=hh;rw[<-e5] at g3 g4;have lh:=ElG.at hC.el hA.el (i:=h') oo;have c1:(h':Int)<(n:Int):=oo;have c2:(m:Int)<(n:Int):=oo;have c3:h'<ys.length:=oo;have c4:m<ys.length:=oo;simp only[zS,seval,H.ti,H.te,H.tk,H.tz,g1,g2,g3,g4,Su,lm,lh,c1,c2,c3,c4];refine⟨.inl Ax,NH (v:=.d (.int .i64 (cmpF (ys.getD m default) (ys.getD h' default)))) (λs hs=>hC.call _ _ (hA.at oo) (hA.at oo) _ s hs) ?_⟩;have f1:ys.getD h' default=xs.getD (W h') default:=hA.get h' oo;have ht:W h'<W m:=hT h' m oo oo (AR _) oo;refine L3 ?_;apply ifC.mk<;>intro hc
   ·have hL:Lx (λx y=>decide (cmpF x y<0)) xs (W h') (W m):=(Lx.Lr ht).2 (.inl (by rw[<-f1,<-hm1];simpa using hc));have g5:IntKind.i64.wrap ((h':Int)+1)=((h'+1:Nat):Int):=Bz;simp only[zS,seval,H.ti,H.te,H.tk,H.tz,g5];refine⟨(h'+1,j),⟨AQ,AQ,h3,gz hC.swo hxs hπ oo (hπ _ oo) hS1 oo oo hL,h5⟩,AQ,AU ?_⟩;exact Ji
   have hL:Lx (λx y=>decide (cmpF x y<0)) xs (W m) (W h'):=(Lx.tag ht).2 (by rw[<-f1,<-hm1];simpa using hc);refine⟨(i,h'),⟨h1,AQ,AQ,h4,jk hC.swo hxs hπ oo (hπ _ oo) hS1 oo oo hL⟩,AQ,AU ?_⟩;exact Ji
  have h:¬i<j:=Dy;have hij:i=j:=oo;subst hij;refine CL (τ:=Nat×List D) (λx=>[(0,.A8 0 0 n),(14,(i:Int)),(17,(x.1:Int))]) (λx=>(.arr es x.2::τ))
   (λx=>i<=x.1/\x.1<=m/\∃K,Arr Dm xs x.2 K/\(∀p,x.1<p->p<=m->K p=W (p-1))/\K x.1=W m/\(∀p,p<x.1\/m<p->K p=W p)) (λx=>x.1) (m,ys)
   ⟨AQ,AR _,W,hA,λp q1 q2=>ai,rfl,λp _=>rfl⟩ ?_ ?_
  ·exact TZ
  intro x hi;obtain⟨k,zs⟩:=x;obtain⟨k1,k2,K,hZ,q1,q2,q3⟩:=hi;simp only at k1 k2 hZ q1 q2 q3;have hlZ:=hZ.len;refine L3 ?_;apply ifC.mk<;>intro h
  ·have h:i<k:=Ks;have g7:IntKind.i64.wrap ((k:Int)-1)=((k-1:Nat):Int):=Bz;have l1:=ElG.at hC.el hZ.el (i:=k) oo;have l2:=ElG.at hC.el hZ.el (i:=k-1) oo;have c1:(k:Int)<(n:Int):=oo;have c2:((k-1:Nat):Int)<(n:Int):=oo;have c3:k<zs.length:=oo;have c4:k-1<zs.length:=oo;simp only[zS,seval,H.ti,H.te,H.tk,H.tz,g7,l1,l2,c1,c2,c3,c4];refine⟨.inl Ax,(k-1,_),⟨AQ,AQ,_,hZ.swap (i:=k) (j:=k-1) oo oo,λp p1 p2=>?_,?_,λp hp=>?_⟩,AQ,AU ?_⟩
   ·simp only at p1;rw[A7 oo];by_cases e:p=k
    ·rw[AD e,e];exact q3 _ oo
    rw[A7 e];exact q1 p oo p2
   ·simp only[By];exact q2
   ·exact nJ
   simp only[zS,seval,H.ti,H.te,H.tk,H.tz,g7]
  have h:¬i<k:=Ks;have hk:k=i:=oo;subst hk;obtain⟨d1,d2⟩:=qp hc2 h1 h3 hS1 h4 h5 q1 q2 q3;exact⟨_,_,Bg.refl _ _ _,rfl,zs,K,rfl,hZ,d1,d2⟩
 omega

set_option maxHeartbeats 4000000 in
set_option maxRecDepth 10000 in
def yu{S E C n0 n1 n2 n3 n4 n5 es:Nat}{g:Bool}(H:Fam S E C es g n0 n1 n2 n3 n4 n5)(Dm:D->Prop)(cmpF:D->D->Int)(fv:FuncId)(caps:List AV)(hC:NW Gl τ es g Dm cmpF fv caps)(xs:List D)(hxs:∀y∈xs,Dm y)(n:Nat)(hn:n<=xs.length)(hN:n<1000000)
  (a m b:Nat) (ys:List D) (W:Nat->Nat) (hA:Arr Dm xs ys W) (hπ:∀p,p<xs.length->W p<xs.length) (ham:a<m) (hmb:m<b) (hbn:b<=n) (hS1:DP (λx y=>decide (cmpF x y<0)) xs a m W) (hS2:DP (λx y=>decide (cmpF x y<0)) xs m b W) (hT:Nn a m b W)
  (hc1:¬m=a+1) (hc2:¬b=m+1)
  (ih:∀(a' m' b':Nat) (ys:List D) (W:Nat->Nat),b'-a'<b-a->Arr Dm xs ys W->(∀p,p<xs.length->W p<xs.length)->a'<m'->m'<b'->b'<=n->DP (λx y=>decide (cmpF x y<0)) xs a' m' W->DP (λx y=>decide (cmpF x y<0)) xs m' b' W->Nn a' m' b' W ->
   AW prog Gl n3 [.A8 0 0 n,(a':Int),(m':Int),(b':Int),.fn fv caps] (.arr es ys::τ) (VN τ es Dm cmpF xs a' b' W)) :
  AW prog Gl n3 [.A8 0 0 n,(a:Int),(m:Int),(b:Int),.fn fv caps] (.arr es ys::τ) (VN τ es Dm cmpF xs a b W):=by
 refine Oo H.i3 rfl (by simp[ntmps123]) (Bu rfl _ _ _ _ ?_);simp only[JJ,JI,ntmps123,results123,B6,C6];have hlY:=hA.len;have e1:IntKind.i64.wrap ((m:Int)-a)=((m-a:Nat):Int):=Bz;have e2:IntKind.i64.wrap ((b:Int)-m)=((b-m:Nat):Int):=Bz;have e3:(((m-a:Nat):Int)==1)=false:=Ap;have e4:(((b-m:Nat):Int)==1)=false:=Ap;have g1:IntKind.i64.wrap ((a:Int)+b)=((a+b:Nat):Int):=Bz;have g2:IntKind.u64.wrap ((a+b:Nat):Int)=((a+b:Nat):Int):=V5 _ oo;have g3:((a+b:Nat):Int).fdiv 2=(((a+b) / 2:Nat):Int):=half _ oo;have g4:IntKind.i64.wrap (((a+b) / 2:Nat):Int)=(((a+b) / 2:Nat):Int):=Tn _ oo;obtain⟨d,e5,e6,e7⟩:∃d,d=(a+b) / 2/\a<d/\d<b:=⟨_,rfl,oo,oo⟩;rw[<-e5] at g3 g4;have g5:IntKind.i64.wrap ((d:Int)+m)=((d+m:Nat):Int):=Bz;have g6:IntKind.i64.wrap (((d+m:Nat):Int)-1)=((d+m-1:Nat):Int):=Bz;obtain⟨s0,r0,key⟩:∃s0 r0:Nat,(d<m/\s0=d+m-b/\r0=d)\/(m<=d/\s0=a/\r0=m):=by
  by_cases c:d<m
  ·exact⟨_,_,.inl ⟨c,rfl,rfl⟩⟩
  exact⟨_,_,.inr ⟨oo,rfl,rfl⟩⟩
 have c0:((d:Int)<m)\/¬((d:Int)<m):=oo;rcases key with⟨k1,k2,k3⟩|⟨k1,k2,k3⟩
 have c0:((d:Int)<m):=oo;have g7:IntKind.i64.wrap (((d+m:Nat):Int)-b)=((s0:Nat):Int):=Bz;simp only[zS,seval,H.ti,H.te,H.tk,H.tz,e1,e2,e3,e4,g1,g2,g3,g4,g5,g6,g7,Su,c0];rotate_left;have c0:¬((d:Int)<m):=oo;have g7:True:=trivial;simp only[zS,seval,H.ti,H.te,H.tk,H.tz,e1,e2,e3,e4,g1,g2,g3,g4,g5,g6,g7,Su,c0]
 all_goals
  refine CL (τ:=Nat×Nat) (λx=>[(0,.A8 0 0 n),(1,(a:Int)),(2,(m:Int)),(3,(b:Int)),(4,.fn fv caps),(18,(d:Int)),(19,((d+m:Nat):Int)),(20,(x.1:Int)),(21,(x.2:Int)),(22,((d+m-1:Nat):Int))]) (λx=>(.arr es ys::τ))
   (λx=>s0<=x.1/\x.1<=x.2/\x.2<=r0/\(s0<x.1->Lx (λx y=>decide (cmpF x y<0)) xs (W (x.1-1)) (W (d+m-1-(x.1-1))))/\(x.2<r0->Lx (λx y=>decide (cmpF x y<0)) xs (W (d+m-1-x.2)) (W x.2))) (λx=>x.2-x.1) (s0,r0)
   ⟨AR _,AQ,AR _,λh=>by simp only at h;omega,λh=>by simp only at h;omega⟩ ?_ ?_
  ·refine AU ?_;simp only[zS,seval,H.ti,H.te,H.tk,H.tz,k2,k3]
  intro x hi;obtain⟨s,r⟩:=x;obtain⟨h1,h2,h3,h4,h5⟩:=hi;simp only at h1 h2 h3 h4 h5;by_cases hsr:s<r
  ·have q0:((s:Int)<r):=oo;have q1:IntKind.i64.wrap ((s:Int)+r)=((s+r:Nat):Int):=Bz;have q2:IntKind.u64.wrap ((s+r:Nat):Int)=((s+r:Nat):Int):=V5 _ oo;have q3:((s+r:Nat):Int).fdiv 2=(((s+r) / 2:Nat):Int):=half _ oo;have q4:IntKind.i64.wrap (((s+r) / 2:Nat):Int)=(((s+r) / 2:Nat):Int):=Tn _ oo;obtain⟨c,e8,e9,e10⟩:∃c,c=(s+r) / 2/\s<=c/\c<r:=⟨_,rfl,oo,oo⟩;rw[<-e8] at q3 q4;have q5:IntKind.i64.wrap (((d+m-1:Nat):Int)-c)=((d+m-1-c:Nat):Int):=Bz;have lc:=ElG.at hC.el hA.el (i:=c) oo;have lp:=ElG.at hC.el hA.el (i:=d+m-1-c) oo;have c1:(c:Int)<(n:Int):=oo;have c2:((d+m-1-c:Nat):Int)<(n:Int):=oo;have c3:c<ys.length:=oo;have c4:d+m-1-c<ys.length:=oo;simp only[zS,seval,H.ti,H.te,H.tk,H.tz,q0,q1,q2,q3,q4,q5,Su,lc,lp,c1,c2,c3,c4];refine⟨.inl Ax,NH (v:=.d (.int .i64 (cmpF (ys.getD (d+m-1-c) default) (ys.getD c default)))) (λs hs=>hC.call _ _ (hA.at oo) (hA.at oo) _ s hs) ?_⟩;have f1:ys.getD c default=xs.getD (W c) default:=hA.get c oo;have f2:ys.getD (d+m-1-c) default=xs.getD (W (d+m-1-c)) default:=hA.get _ oo;have ht:W c<W (d+m-1-c):=hT _ _ oo oo oo oo;refine L3 ?_;apply ifC.mk<;>intro hc
   ·have hL:Lx (λx y=>decide (cmpF x y<0)) xs (W c) (W (d+m-1-c)):=(Lx.Lr ht).2 (.inl (by rw[<-f1,<-f2];simpa using hc));have q6:IntKind.i64.wrap ((c:Int)+1)=((c+1:Nat):Int):=Bz;simp only[zS,seval,H.ti,H.te,H.tk,H.tz,q6];refine⟨(c+1,r),⟨AQ,AQ,h3,λ_=>by simp only;exact hL,h5⟩,AQ,AU ?_⟩;exact Ji
   have hL:Lx (λx y=>decide (cmpF x y<0)) xs (W (d+m-1-c)) (W c):=(Lx.tag ht).2 (by rw[<-f1,<-f2];simpa using hc);refine⟨(s,c),⟨h1,AQ,AQ,h4,λ_=>hL⟩,AQ,AU ?_⟩;exact Ji
  have hs:s=r:=oo;subst hs;have q0:¬((s:Int)<s):=oo;have q1:IntKind.i64.wrap (((d+m:Nat):Int)-s)=((d+m-s:Nat):Int):=Bz;obtain⟨e,he⟩:∃e,e=d+m-s:=⟨_,rfl⟩;rw[<-he] at q1;obtain⟨F1,F2⟩:=sJ (p:=d+m-1) (s:=s) (s0:=s0) (r0:=r0) (e:=e) hC.swo hxs hπ oo hS1 hS2 oo h1 h3 oo oo oo oo oo oo oo h4 h5 oo oo;obtain⟨G,hρ⟩:∃G:Nat->Nat,G=λp=>W (G7 s m e p):=⟨_,rfl⟩;obtain⟨t1,t2,t3,t4,t5,t6,t7,t8⟩:=Qeg (ρ:=G) (s:=s) (e:=e) (d:=d) oo oo oo oo oo hS1 hS2 hT F1 F2 (λp _ _=>by rw[hρ]) (λp hp=>by rw[hρ];show W (G7 s m e p)=W p;congr 1;unfold G7;rw[AD oo]);by_cases hrot:s<m/\m<e;have c1:((s:Int)<m):=oo;have c2:((m:Int)<e):=oo;simp only[zS,seval,H.ti,H.te,H.tk,H.tz,q0,q1,c1,c2];refine Be ((sX H Dm hC.el ys n s m e fv caps hA.el oo hN hrot.1 hrot.2 oo).mono λr' s' h=>?_);obtain⟨rfl,zs,rfl,hB⟩:=h;have hZ:Arr Dm xs zs G:=by rw[hρ];exact hA.trans hB λp hp=>uz oo oo oo hp
  have hρπ:=t1.bound oo hπ;refine L3 ?_;rotate_left;have c1:(decide ((s:Int)<m)&&decide ((m:Int)<e))=false:=by
   exact bW
  obtain⟨zs,hzs⟩:∃zs,zs=ys:=⟨_,rfl⟩;have hZ:Arr Dm xs zs G:=by
   rw[hρ,hzs];refine hA.congr λp hp=>?_;congr 1;unfold G7
   repeat' split
   all_goals omega
  have hρπ:=t1.bound oo hπ;rw[<-hzs];simp only[zS,seval,H.ti,H.te,H.tk,H.tz,q0,q1,c1]
  all_goals
   by_cases hm1:a<s/\s<d;have c1:((a:Int)<s):=oo;have c2:((s:Int)<d):=oo;simp only[zS,seval,H.ti,H.te,H.tk,H.tz,c1,c2];refine Be ((ih a s d zs G oo hZ hρπ hm1.1 hm1.2 oo t2 t3 t6).mono λr s' h=>?_);obtain⟨rfl,ws,κ1,rfl,hW,m1,s1⟩:=h;have hκ1:=m1.bound oo hρπ;refine L3 ?_;rotate_left;have c1:(decide ((a:Int)<s)&&decide ((s:Int)<d))=false:=by
    exact bW
   have s1:DP (λx y=>decide (cmpF x y<0)) xs a d G:=λp q q1 q2 q3=>by
    by_cases he:s=a
    ·exact t3 p q oo q2 q3
    exact t2 p q q1 q2 oo
   obtain⟨ws,κ1,hW,m1,hκ1,ew,ek⟩:∃ws κ1,Arr Dm xs ws κ1/\Mv a d G κ1/\(∀p,p<xs.length->κ1 p<xs.length)/\ws=zs/\κ1=G:=⟨zs,G,hZ,Mv.refl _ _ _,hρπ,rfl,rfl⟩;rw[<-ek] at s1;simp only[zS,seval,H.ti,H.te,H.tk,H.tz,c1];rw[<-ew]
   all_goals
    by_cases hm2:d<e/\e<b
    ·have c3:((d:Int)<e):=oo;have c4:((e:Int)<b):=oo;simp only[zS,seval,H.ti,H.te,H.tk,H.tz,c3,c4];refine Be ((ih d e b ws κ1 oo hW hκ1 hm2.1 hm2.2 hbn (λp q q1 q2 q3=>by rw[m1.out p oo,m1.out q oo];exact t4 p q q1 q2 q3) (λp q q1 q2 q3=>by rw[m1.out p oo,m1.out q oo];exact t5 p q q1 q2 q3) (λp q q1 q2 q3 q4=>by rw[m1.out p oo,m1.out q oo];exact t7 p q q1 q2 q3 q4)).mono λr s' h=>?_);obtain⟨rfl,vs,κ2,rfl,hV,m2,s2⟩:=h;obtain⟨f1,f2⟩:=dE oo oo t1 m1 s1 m2 s2 t8;refine L3 ?_;exact⟨_,_,Bg.refl _ _ _,rfl,vs,κ2,rfl,hV,f1,f2⟩
    have c3:(decide ((d:Int)<e)&&decide ((e:Int)<b))=false:=by
     exact bW
    have s2:DP (λx y=>decide (cmpF x y<0)) xs d b κ1:=λp q q1 q2 q3=>by
     rw[m1.out p oo,m1.out q oo];by_cases he:e=d
     ·exact t5 p q oo q2 q3
     exact t4 p q q1 q2 oo
    obtain⟨f1,f2⟩:=dE oo oo t1 m1 s1 (Mv.refl d b κ1) s2 t8;simp only[zS,seval,H.ti,H.te,H.tk,H.tz,c3];exact⟨_,_,Bg.refl _ _ _,rfl,ws,κ1,rfl,hW,f1,f2⟩

def dF{S E C n0 n1 n2 n3 n4 n5 es:Nat}{g:Bool}(H:Fam S E C es g n0 n1 n2 n3 n4 n5)(Dm:D->Prop)(cmpF:D->D->Int)(fv:FuncId)(caps:List AV)(hC:NW Gl τ es g Dm cmpF fv caps)(xs:List D)(hxs:∀y∈xs,Dm y)(n:Nat)(hn:n<=xs.length)(hN:n<1000000):
  ∀(N a m b:Nat) (ys:List D) (W:Nat->Nat),b-a<=N->Arr Dm xs ys W->(∀p,p<xs.length->W p<xs.length)->a<m->m<b->b<=n->DP (λx y=>decide (cmpF x y<0)) xs a m W->DP (λx y=>decide (cmpF x y<0)) xs m b W->Nn a m b W ->
   AW prog Gl n3 [.A8 0 0 n,(a:Int),(m:Int),(b:Int),.fn fv caps] (.arr es ys::τ) (VN τ es Dm cmpF xs a b W):=by
 intro N
 induction N with
 | zero=>intro a m b ys W h1 _ _ h2 h3;omega
 | succ N ih=>
  intro a m b ys W h1 hA hπ ham hmb hbn hS1 hS2 hT;by_cases hb:m=a+1\/b=m+1
  ·exact Qeh H Dm cmpF fv caps hC xs hxs n hn hN a m b ys W hA hπ ham hmb hbn hS1 hS2 hT hb
  exact yu H Dm cmpF fv caps hC xs hxs n hn hN a m b ys W hA hπ ham hmb hbn hS1 hS2 hT oo oo λa' m' b' ys' π' q1=>ih a' m' b' ys' π' oo
def jL(τ:Sto)(es:Nat)(Dm:D->Prop)(cmpF:D->D->Int)(xs:List D)(n:Nat)(s:Sto):Prop:=
 ∃zs G,s=(.arr es zs::τ)/\Arr Dm xs zs G/\Blo (λx y=>decide (cmpF x y<0)) xs 0 n G/\(∀p,n<=p->G p=p)
def sj{S E C n0 n1 n2 n3 n4 n5 es:Nat}{g:Bool}(H:Fam S E C es g n0 n1 n2 n3 n4 n5)(Dm:D->Prop)(cmpF:D->D->Int)(fv:FuncId)(caps:List AV)(hC:NW Gl τ es g Dm cmpF fv caps)(xs:List D)(hxs:∀y∈xs,Dm y)(n:Nat)(hn:n<=xs.length)(hN:n<1000000):
  AW prog Gl n4 [.A8 0 0 n,(n:Int),.fn fv caps] (.arr es xs::τ) (λr s=>r=.Aj []/\jL τ es Dm cmpF xs n s):=by
 refine Oo H.i4 rfl (by simp[ntmps75]) (Bu rfl _ _ _ _ ?_);simp only[JJ,JI,ntmps75,results75,B6,C6];simp only[zS,seval,H.ti,H.te,H.tk,H.tz];refine CL (τ:=Nat×List D) (λx=>[(0,.A8 0 0 n),(1,(n:Int)),(2,.fn fv caps),(6,(20:Int)),(7,(x.1:Int)),(8,((x.1+20:Nat):Int))]) (λx=>(.arr es x.2::τ))
  (λx=>Cut 20 x.1/\x.1<=n/\∃G,Arr Dm xs x.2 G/\HT (λx y=>decide (cmpF x y<0)) xs 20 n 0 x.1 G/\(∀p,x.1<=p->G p=p)/\(∀p,p<xs.length->G p<xs.length)) (λx=>n-x.1) (0,xs)
  ⟨Cut.zero _,Bq _,λi=>i,Arr.refl hxs,λc _ h1 h2=>by simp only at h2;omega,λ_ _=>rfl,λ_ h=>h⟩ ?_ ?_
 ·refine AU ?_;simp only[zS,seval,H.ti,H.te,H.tk,H.tz]
  all_goals rfl
 intro x hi;obtain⟨a,ys⟩:=x;obtain⟨h1,h2,G,hA,hB,hid,hbd⟩:=hi;simp only at h1 h2 hA hB hid;have hl:=hA.len;by_cases h:a+20<=n
 ·have c1:((a+20:Nat):Int)<=n:=oo;simp only[zS,seval,H.ti,H.te,H.tk,H.tz,c1];refine Be ((ef H Dm cmpF fv caps hC xs ys hxs n a (a+20) G hA hbd hn hN oo h (λp q p1 p2 p3=>by rw[hid p p1,hid q oo];exact p2)).mono λr s h=>?_);obtain⟨rfl,zs,K,rfl,hZ,hM,hS⟩:=h;obtain⟨b1,b2⟩:=gr (n:=n) oo h1 (oo:a+20=min (a+20) n) hB hid hM hS;have e1:IntKind.i64.wrap (((a+20:Nat):Int)+20)=((a+20+20:Nat):Int):=Bz;simp only[zS,seval,H.ti,H.te,H.tk,H.tz,e1];refine⟨(a+20,zs),⟨h1.next,h,K,hZ,Ub h1 b1 (AR _),λp hp=>b2 p hp (by simp only at hp;omega),hM.bound oo hbd⟩,AQ,AU ?_⟩;exact Ji
 have c1:¬((a+20:Nat):Int)<=n:=oo;simp only[zS,seval,H.ti,H.te,H.tk,H.tz,c1];refine Be ((ef H Dm cmpF fv caps hC xs ys hxs n a n G hA hbd hn hN h2 (AR _) (λp q p1 p2 p3=>by rw[hid p p1,hid q oo];exact p2)).mono λr s h=>?_);obtain⟨rfl,us,K,rfl,hU,hM,hS⟩:=h;obtain⟨b1,b2⟩:=gr (n:=n) oo h1 (oo:n=min (a+20) n) hB hid hM hS;have hbd:=hM.bound oo hbd;have b3:=Ub (a':=n) h1 b1 oo;have b2:∀p,n<=p->K p=p:=λp hp=>b2 p hp oo;clear hB hid hA;simp only[zS,seval,H.ti,H.te,H.tk,H.tz];refine CL (τ:=Nat×List D) (λx=>[(0,.A8 0 0 n),(1,(n:Int)),(2,.fn fv caps),(6,(x.1:Int))]) (λx=>(.arr es x.2::τ))
  (λx=>0<x.1/\(x.1<=20\/x.1<2*n)/\∃G,Arr Dm xs x.2 G/\HT (λx y=>decide (cmpF x y<0)) xs x.1 n 0 n G/\(∀p,n<=p->G p=p)/\(∀p,p<xs.length->G p<xs.length)) (λx=>n-x.1) (20,us)
  ⟨AQ,.inl (AR _),K,hU,b3,b2,hbd⟩ ?_ ?_
 ·refine AU ?_;simp only[zS,seval,H.ti,H.te,H.tk,H.tz]
  all_goals rfl
 clear b1 b2 b3 hU hbd hM hS;intro x hi;obtain⟨s,ys⟩:=x;obtain⟨h3,h4,G,hA,hB,hid,hbd⟩:=hi;simp only at h3 h4 hA hB;have hl:=hA.len;by_cases h:s<n
 ·have c1:(s:Int)<n:=oo;have e1:IntKind.i64.wrap (2*(s:Int))=((2*s:Nat):Int):=Bz;simp only[zS,seval,H.ti,H.te,H.tk,H.tz,c1,e1];refine CL (τ:=Nat×List D) (λx=>[(0,.A8 0 0 n),(1,(n:Int)),(2,.fn fv caps),(6,(s:Int)),(7,(x.1:Int)),(8,((x.1+2*s:Nat):Int))]) (λx=>(.arr es x.2::τ))
   (λx=>Cut (2*s) x.1/\x.1<=n/\∃G,Arr Dm xs x.2 G/\HT (λx y=>decide (cmpF x y<0)) xs s n x.1 n G/\HT (λx y=>decide (cmpF x y<0)) xs (2*s) n 0 x.1 G/\(∀p,n<=p->G p=p)/\(∀p,p<xs.length->G p<xs.length)) (λx=>n-x.1) (0,ys)
   ⟨Cut.zero _,Bq _,G,hA,hB,λc _ h1 h2=>by simp only at h2;omega,hid,hbd⟩ ?_ ?_
  ·refine AU ?_;simp only[zS,seval,H.ti,H.te,H.tk,H.tz]
   all_goals rfl
  clear hA hB hid hbd hl;intro x hi;obtain⟨a,ys⟩:=x;obtain⟨h5,h6,G,hA,hB,hD,hid,hbd⟩:=hi;simp only at h5 h6 hA hB hD;have hl:=hA.len;have e2:IntKind.i64.wrap ((a:Int)+s)=((a+s:Nat):Int):=Bz;by_cases h:a+2*s<=n
  ·have c1:((a+2*s:Nat):Int)<=n:=oo;have hb:a+2*s=min (a+2*s) n:=oo;obtain⟨m1,m2,m3,m4⟩:=XP (b:=a+2*s) h5 h3 oo hb hB;simp only[zS,seval,H.ti,H.te,H.tk,H.tz,c1,e2];refine Be ((dF H Dm cmpF fv caps hC xs hxs n hn hN _ a (a+s) (a+2*s) ys G (AR _) hA hbd oo oo h m1 m2 m3).mono λr st hh=>?_);obtain⟨rfl,zs,K,rfl,hZ,hM,hS⟩:=hh;obtain⟨q1,q2⟩:=dG h5 h3 oo hb hB hD hM hS;have e3:IntKind.i64.wrap (((a+2*s:Nat):Int)+((2*s:Nat):Int))=((a+2*s+2*s:Nat):Int):=Bz;simp only[zS,seval,H.ti,H.te,H.tk,H.tz,e1,e3];refine⟨(a+2*s,zs),⟨h5.next,h,K,hZ,q1,Ub h5 q2 (AR _),λp hp=>by rw[hM.out p oo];exact hid p hp,hM.bound oo hbd⟩,AQ,AU ?_⟩;exact Ji
  have c1:¬((a+2*s:Nat):Int)<=n:=oo;by_cases hm:a+s<n
  ·have c2:((a+s:Nat):Int)<n:=oo;have hb:n=min (a+2*s) n:=oo;obtain⟨m1,m2,m3,m4⟩:=XP (b:=n) h5 h3 oo hb hB;simp only[zS,seval,H.ti,H.te,H.tk,H.tz,c1,c2,e2];refine Be ((dF H Dm cmpF fv caps hC xs hxs n hn hN _ a (a+s) n ys G (AR _) hA hbd oo oo (AR _) m1 m2 m3).mono λr st hh=>?_);obtain⟨rfl,zs,K,rfl,hZ,hM,hS⟩:=hh;obtain⟨q1,q2⟩:=dG h5 h3 oo hb hB hD hM hS;have e3:IntKind.i64.wrap ((s:Int)*2)=((2*s:Nat):Int):=Bz;simp only[zS,seval,H.ti,H.te,H.tk,H.tz,e3];refine⟨(2*s,zs),⟨AQ,.inr AQ,K,hZ,Ub h5 q2 oo,λp hp=>by rw[hM.out p oo];exact hid p hp,hM.bound oo hbd⟩,AQ,AU ?_⟩;exact Ji
  have c2:¬((a+s:Nat):Int)<n:=oo;have e3:IntKind.i64.wrap ((s:Int)*2)=((2*s:Nat):Int):=Bz;simp only[zS,seval,H.ti,H.te,H.tk,H.tz,c1,c2,e2,e3];refine⟨(2*s,ys),⟨AQ,.inr AQ,G,hA,rz h5 h3 oo hB hD,hid,hbd⟩,AQ,AU ?_⟩;exact Ji
 have c1:¬(s:Int)<n:=oo;simp only[zS,seval,H.ti,H.te,H.tk,H.tz,c1];exact⟨_,_,Bg.refl _ _ _,rfl,ys,G,rfl,hA,xw oo hB,hid⟩
def eo{S E C n0 n1 n2 n3 n4 n5 es:Nat}{g:Bool}(H:Fam S E C es g n0 n1 n2 n3 n4 n5)(Dm:D->Prop)(cmpF:D->D->Int)(fv:FuncId)(caps:List AV)(hC:NW Gl τ es g Dm cmpF fv caps)(xs:List D)(hxs:∀y∈xs,Dm y)(n:Nat)(hn:n<=xs.length)(hN:n<1000000):
  AW prog Gl n5 [.A8 0 0 n,.fn fv caps] (.arr es xs::τ) (λr s=>r=.Aj []/\jL τ es Dm cmpF xs n s):=by
 refine Oo H.i5 rfl (by simp[ntmps50]) (Bu rfl _ _ _ _ ?_);simp only[JJ,JI,ntmps50,results50,B6,C6];simp only[zS,seval,H.ti,H.te,H.tk,H.tz];refine Be ((sj H Dm cmpF fv caps hC xs hxs n hn hN).mono λr s h=>?_);obtain⟨rfl,h⟩:=h;simp only[zS,seval,H.ti,H.te,H.tk,H.tz];exact⟨_,_,Bg.refl _ _ _,rfl,h⟩
end YtafpldmnkcegmaaGreat
end Go.Proofs

set_option maxRecDepth 100000
namespace Go.Proofs
open Go.AM Tryz
namespace YtafpldmnkcegmaaGreat
variable {Gl:BM}
def yb:Fam 106 114 119 1 false 186 155 119 120 70 38:=by
 exact Tf
def vU:Fam 38 137 139 3 true 187 156 122 123 75 50:=by
 exact Tf
def ya:Fam 39 94 145 7 true 188 157 125 126 78 55:=by
 exact Tf
def u4:Fam 153 157 160 9 true 190 160 141 142 110 62:=by
 exact Tf
def u5:Fam 48 3 144 1 false 259 253 237 238 211 184:=by
 exact Tf
structure Sl{α:Type}(c:α->α->Int):Prop where
 Qc:∀a,¬c a a<0
 tr:∀a b d,c a b<0->c b d<0->c a d<0
 inc:∀a b d,¬c a b<0->¬c b d<0->¬c a d<0
def Tp{S E C es n0 n1 n2 n3 n4 n5:Nat}{g:Bool}(H:Fam S E C es g n0 n1 n2 n3 n4 n5){τ:Sto}{α:Type}[Inhabited α](enc:α->D)(dec:D->α)(hd:∀a,dec (enc a)=a)(he:∀a,ElG g es (enc a)){c:α->α->Int}(hc:Sl c)(fv:FuncId)(caps:List AV)
  (hcall:∀a b ys s,Ext (.arr es ys::τ) s->AW prog Gl fv ([.d (enc a),.d (enc b)]++caps) s (λr s'=>r=.d (.int .i64 (c a b))/\s'=s)) (l:List α) (hl:l.length<1000000) :
  AW prog Gl n5 [.A8 0 0 l.length,.fn fv caps] (.arr es (l.map enc)::τ) (λr s=>r=.Aj []/\s=.arr es ((DZ (λa b=>decide (c a b<0)) l).map enc)::τ):=by
 have hx:∀y∈l.map enc,∃a,y=enc a:=λy hy=>by
  obtain⟨x,hx,rfl⟩:=C4.1 hy;exact⟨x,rfl⟩
 have hsw:Swo (λd=>∃a,d=enc a) (λx y=>decide (c (dec x) (dec y)<0)):=
  ⟨λx _=>HX (hc.Qc _),λx y z _ _ _ h1 h2=>JU (hc.tr _ _ _ (Es h1) (Es h2)),λx y z _ _ _ h1 h2=>HX (hc.inc _ _ _ (Vg h1) (Vg h2))⟩
 have hC:NW Gl τ es g (λd=>∃a,d=enc a) (λx y=>c (dec x) (dec y)) fv caps:=by
  refine⟨λd hd=>?_,λx y hx hy ys s hs=>?_,hsw⟩
  ·obtain⟨a,rfl⟩:=hd;exact he a
  obtain⟨a,rfl⟩:=hx;obtain⟨b,rfl⟩:=hy;rw[hd,hd];exact hcall a b ys s hs
 have hsort:=eo H (Gl:=Gl) (τ:=τ) (λd=>∃a,d=enc a) (λx y=>c (dec x) (dec y)) fv caps hC (l.map enc) hx l.length A6 hl;refine hsort.mono λr s hss=>?_;obtain⟨rfl,zs,G,rfl,hA,hB,hid⟩:=hss;refine⟨rfl,?_⟩;have e:=eZ hsw hx A6 hA hB hid;rw[Bi A6,S9,aS A6,FY] at e;rw[e];simp only[hd]

def Q50(x y:B0):AT prog Gl 39 [.d (.ref x.A5),.d (.ref y.A5)] (.d (.int .i64 (HG x.s y.s))):=by
 refine FB ?_;refine acS func39 ntmps39 results39 ?_;simp only[zT,seval,B6];refine⟨.inl Ax,Ak (iH x.s y.s) ?_⟩;simp only[zT,seval];exact D0
def Ex(ps:List B0)(n:Int):Int:=
 if h:0<=n/\(ps.getD n.toNat default).s.lo=(ps.getD n.toNat default).s.hi/\(ps.getD n.toNat default).Aq<n then Ex ps (ps.getD n.toNat default).Aq else n
termination_by (n+1).toNat
decreasing_by omega
def wH(S:Sto)(b A:Nat)(v:AV)(ps:List B0)(hb:A1 S b=.box 2 (.agg [.A8 A 0 ps.length,v]))(hA:A1 S A=.BS 1 (ps.map λp=>D.ref p.A5))(hl:ps.length<1000000)
  (har:∀i,i<ps.length->-1<=(ps.getD i default).Aq/\(ps.getD i default).Aq<i) (p:B0) (hp:-1<=p.Aq/\p.Aq<ps.length) :
  AW prog Gl 41 [.ptr b 0,.d (.ref p.A5)] S (λr s=>r=.d (.int .i64 (Ex ps p.Aq))/\s=S):=by
 refine acS func41 ntmps41 results41 ?_;simp only[zT,seval,B6,hb,hA];refine CL (τ:=Int) (λn=>[(5,(n:Int)),(0,.ptr b 0)]) (λ_=>S) (λn=>(-1<=n/\n<ps.length)/\Ex ps n=Ex ps p.Aq) (λn=>(n+1).toNat) p.Aq ⟨hp,rfl⟩ ?_ ?_
 ·exact Mi
 intro n hi;obtain⟨⟨h1,h2⟩,h3⟩:=hi;by_cases h0:0<=n
 ·obtain⟨k,rfl⟩:=M_ h0;have hk:k<ps.length:=oo;have hak:=har k hk;simp only[zT,seval,hb,hA,(oo:0<=(k:Int)),(oo:(k:Int)<ps.length),hk,Af _ _ _ (oo:k<ps.length)];refine⟨.inl Ax,?_⟩;refine Ag ?_;have hn:((k:Int)).toNat=k:=rfl;apply ifC.mk<;>intro hq
  ·have hq:(ps.getD k default).s.lo=(ps.getD k default).s.hi:=by simpa using hq
   refine Ag ?_;refine⟨(ps.getD k default).Aq,⟨⟨hak.1,oo⟩,?_⟩,oo,AU ?_⟩
   ·rw[<-h3]
    conv=>rhs;rw[Ex]
    rw[JR ⟨h0,by rw[hn];exact hq,by rw[hn];exact hak.2⟩,hn]
   rfl
  have hq:¬(ps.getD k default).s.lo=(ps.getD k default).s.hi:=by simpa using hq
  refine⟨_,_,Bg.refl _ _ _,?_,rfl⟩;rw[<-h3,Ex,PQ (λh=>hq (by have:=h.2.1;rwa [hn] at this))]
 have hn:n=-1:=oo;subst hn;simp only[zT,seval,hb,hA];refine⟨.inl Ax,?_⟩;refine⟨_,_,Bg.refl _ _ _,?_,rfl⟩;rw[<-h3,Ex,PQ (λh=>oo)]
def ON{S s:Sto}(h:Ext S s){i:Nat}{B:Blk}(hB:A1 S i=B)(hd:B.AP=false)(hf:B.frozen=B):A1 s i=B:=by
 rcases h.2 i with h1|h1|h1
 ·rw[hB,hd] at h1;cases h1
 ·rw[h1,hB]
 rw[h1,hB,hf]
def GX(p:B0):D:=.ref p.A5
def GM(p:B0):Bool:=decide (p.s.lo<p.s.hi)
def IN(pf:List B0)(k:Nat):List B0:=(pf.take k).filter GM
def US(pf:List B0)(k:Nat)(h:k<pf.length):IN pf (k+1)=if GM (pf.getD k default)=true then IN pf k++[pf.getD k default] else IN pf k:=by
 unfold IN;rw[CY pf k h,P_];by_cases hp:GM (pf.getD k default)=true
 ·rw[AD hp];simp only[PT,hp,By,T0]
 rw[A7 hp,J4 hp];simp
def x6{l:List Nat}{S:Sto}{j:Nat}{B:Blk}(hj:A1 S j=B)(hl:∀i,i<l.length->∃v,A1 S (l.getD i 0)=.box 11 v)(hB:∀v,B≠.box 11 v):A1 (L4 S l) j=B:=by
 rw[Wm]
 ·exact hj
 intro hm;obtain⟨i,hi⟩:=GF hm;have hil:i<l.length:=by
  rcases B9 i l.length with h'|h'
  ·exact h'
  rw[Bt h'] at hi;cases hi
 obtain⟨v,g1⟩:=hl i hil;rw[B5,hi] at g1;simp only[EA] at g1;rw[hj] at g1;exact hB v g1
def Ud(a b:Ac):HG a b<0↔a.lo<b.lo\/a.lo=b.lo/\(b.hi<a.hi\/b.hi=a.hi/\a.A0<b.A0):=by
 simp only[HG,orL,EG];by_cases h1:a.lo<b.lo<;>by_cases h2:b.lo<a.lo<;>by_cases h3:b.hi<a.hi<;>by_cases h4:a.hi<b.hi<;>by_cases h5:a.A0<b.A0<;>by_cases h6:b.A0<a.A0<;>simp[h1,h2,h3,h4,h5,h6]<;>omega
def Wv{α:Type}(g:α->Ac):Sl λx y:α=>HG (g x) (g y):=
 ⟨λa=>by simp only[Ud];omega,λa b d=>by simp only[Ud];omega,λa b d=>by simp only[Ud];omega⟩
def pV:D->B0
 | .ref (.agg [.int _ a,.int _ b,.int _ c,.str d,.int _ e,.int _ f,.int _ g,.bool h,.int _ i,.int _ j,.bool k])=>⟨⟨a,b,c,d,e,f,g,h⟩,i,j,k⟩
 | _=>default
def kR{n:Nat}{all:Array Oper}{rest:List Oper}{KK:Env->Sto->Prop}{env:Env}{S:Sto}{f c:FuncId}{dst:Option Tmp}{es k:Nat}{xs ys:List D}(i:Nat)(hi:i<S.length)(hb:A1 S i=.arr es xs)
  (h:AW prog Gl f [.A8 0 0 k,.fn c []] [.arr es xs] (λr s=>r=.Aj []/\s=[.arr es ys])) (h2:Ab prog Gl n all false rest (AJ env dst (.Aj [])) (S.set i (.arr es ys)) KK) :
  FT prog Gl n all false dst rest (.fn f []) [.A8 i 0 k,.fn c []] env S KK:=by
 refine QH i hi hb (Q:=λr s=>r=.Aj []/\s=[.arr es ys]) ?_ λr s hr=>?_
 ·have e:([AV.A8 i 0 k,.fn c []]++[]).map (BJ [i] S)=[.A8 0 0 k,.fn c []]:=by simp[BJ,DJ,Bn]
  rw[e];exact h
 obtain⟨rfl,rfl⟩:=hr;rw[Ry hi,SH];exact h2
def HI(l:List B0):List B0:=DZ (λa b=>decide (HG a.s b.s<0)) l
def plO(q:List B0):Nat->Int->Option Int
 | 0,n=>if n=-1 then some (-1) else none
 | k+1,n=>if n=(q.getD k default).number then some k else plO q k n
def GJ(out:List Ac)(s:Ac)(par:Int):List Ac:=
 if 0<=par then out.set par.toNat {out.getD par.toNat default with self:=(out.getD par.toNat default).self-(s.hi-s.lo)}++[{s with parent:=par,self:=s.hi-s.lo,depth:=(out.getD par.toNat default).depth+1}]
 else out++[{s with parent:=par,self:=s.hi-s.lo}]
def CW(q:List Ac)(pr:Nat->Int):Nat->List Ac
 | 0=>[]
 | k+1=>GJ (CW q pr k) (q.getD k default) (pr k)
def Jr(q:List Ac)(pr:Nat->Int):∀k,(CW q pr k).length=k
 | 0=>rfl
 | k+1=>by unfold CW GJ;split<;>simp[Jr q pr k]
def prP(pf q:List B0)(i:Nat):Int:=(plO q (i+1) (Ex pf (q.getD i default).Aq)).getD 0
structure cF(pf:List B0):Prop where
 ar:∀i,i<pf.length->-1<=(pf.getD i default).Aq/\(pf.getD i default).Aq<i
 bd:∀p∈pf,p.s.depth=0/\0<=p.s.lo/\p.s.lo<=p.s.hi/\p.s.hi<=1000000000000
 pr:∀i,i<(HI (pf.filter GM)).length->∃v,plO (HI (pf.filter GM)) (i+1) (Ex pf ((HI (pf.filter GM)).getD i default).Aq)=some v/\-1<=v/\v<i
def Q1g{out:List Ac}{s:Ac}{par:Int}{k:Nat}(hk:out.length=k)(hs:s.depth=0/\0<=s.lo/\s.lo<=s.hi/\s.hi<=1000000000000)(hp:-1<=par/\par<k)
  (h:∀x∈out,0<=x.depth/\x.depth<=k/\x.self<=1000000000000/\-1000000000000*(k:Int)<=x.self):∀x∈GJ out s par,0<=x.depth/\x.depth<=((k+1:Nat):Int)/\x.self<=1000000000000/\-1000000000000*((k+1:Nat):Int)<=x.self:=by
 intro x hx;unfold GJ at hx;split at hx
 ·have hpl:par.toNat<out.length:=oo;have hm:out.getD par.toNat default∈out:=Ba hpl;have hb:=h _ hm;rcases CH.1 hx with hx|hx
  ·rcases MZ hx with hx|hx
   ·have:=h x hx;omega
   subst hx;simp only;omega
  simp only[CG] at hx;subst hx;simp only;omega
 rcases CH.1 hx with hx|hx
 ·have:=h x hx;omega
 simp only[CG] at hx;subst hx;simp only;omega
def Rn{q:List Ac}{pr:Nat->Int}(hq:∀s∈q,s.depth=0/\0<=s.lo/\s.lo<=s.hi/\s.hi<=1000000000000)(hp:∀i,i<q.length->-1<=pr i/\pr i<i):
  ∀k,k<=q.length->∀x∈CW q pr k,0<=x.depth/\x.depth<=(k:Int)/\x.self<=1000000000000/\-1000000000000*(k:Int)<=x.self
 | 0,_=>λx hx=>Jd
 | k+1,h=>Q1g (Jr q pr k) (hq _ (Ba h)) (hp k h) (Rn hq hp k oo)
def yh(o:List AN)(ho:o.length<900000)(hs:∀x∈o,0<=x.AB/\x.AB<2000000000000000)(e:Int)(hO:cF (Fe (bdF o) (min (max (Gk e o) 0) 1000000000000)))(q:List B0)(hq:q=HI ((Fe (bdF o) (min (max (Gk e o) 0) 1000000000000)).filter GM)):
  AT prog Gl 15 [.d (.sl (o.map AN.A5)),(e:Int)] (.d (.sl ((CW (q.map B0.s) (prP (Fe (bdF o) (min (max (Gk e o) 0) 1000000000000)) q) q.length).map Ac.A5))):=by
 refine AT.Jv ?_;obtain⟨PF,hPF⟩:∃PF,PF=Fe (bdF o) (min (max (Gk e o) 0) 1000000000000):=⟨_,rfl⟩;rw[<-hPF] at hO hq ⊢;refine Fv func15 rfl rfl (by simp[ntmps15]) ?_;simp only[ntmps15,results15,B6,C6];refine AWp.seq (Bu rfl _ _ _ _ ?_);simp only[zT,seval];refine AWp.seq (Bu rfl _ _ _ _ ?_);simp only[zT,seval];refine AWp.seq (Bu rfl _ _ _ _ ?_);simp only[zT,seval];refine CL (τ:=Nat×Sto) (λy=>[(23,(y.1:Int)),(22,(o.length:Int)),(21,.d (.sl (o.map AN.A5))),(5,.ptr 1 0),(1,(Gk e (o.take y.1):Int))]) (λy=>y.2)
  (λy=>y.1<=o.length/\BAt y.2 1 (bdF (o.take y.1))) (λy=>o.length-y.1) (0,[.map (some .i64) λ_=>none,.box 2 (.agg [.A8 2 0 0,.AF 0]),.var 1 []])
  ⟨Bq _,0,2,[],λ_=>none,λ_=>0,λ_=>0,⟨rfl,rfl,rfl,Ht,λi hi=>absurd hi (F9 _),λg hg=>by cases hg;rfl,λg hg k=>by cases hg;rfl,λk t h=>by simp[bdF,bd0] at h,λk k' h=>by simp[bdF,bd0] at h,λk k' h=>by simp[bdF,bd0] at h⟩⟩ ?_ ?_
 ·refine(QV (n:=147) (m:=0) 1 1 0 (Bq _) rfl rfl A6 A6).trans ((X9 (n:=147) (m:=0) (es:=1) (xs:=[]) 2 rfl Nat.one_pos (λx hx=>Jd)).trans (AU ?_));rfl
 intro y hi;obtain⟨k,s⟩:=y;obtain⟨hk,hB⟩:=hi;simp only at hk hB;by_cases h:k<o.length
 ·simp only[zT,seval,(oo:(k:Int)<o.length),h,Af _ _ _ (oo:k<o.length)];obtain⟨T,A,ids,f,tb,ob,hI⟩:=hB;have hbk:=UC o k hk;have hI2:=hI.ext (s:=s++[Blk.box 10 (.d (o.getD k default).A5)]) (λj hj=>BB (AG rfl hj));have hlt:=hbk.len;refine Be ((tf hI2 (o.getD k default) oo hbk.op (hs _ (Ba h)) hbk.ol).mono λr s' hr=>?_);obtain⟨rfl,hB',hkp⟩:=hr;have hb10:=hkp s.length _ Cd;simp only[zT,seval,hb10];refine Ak (fG _) ?_;simp only[zT,seval,a_w ((k:Int)+1)];refine⟨(k+1,s'),⟨h,?_⟩,AQ,AU ?_⟩
  ·rw[kL o k h];exact hB'
  rw[ga e o k h];simp only[zT,seval]
 have hk:k=o.length:=oo;subst hk;rw[BL] at hB;simp only[zT,seval,(oo:¬(o.length:Int)<o.length)];refine AWp.seq (Bu rfl _ _ _ _ ?_);simp only[zT,seval];obtain⟨en,hen⟩:∃en,en=min (max (Gk e o) 0) 1000000000000:=⟨_,rfl⟩;rw[BL,<-hen];obtain⟨T,A,ids,f,tb,ob,hI⟩:=hB;have hbk:=UC o o.length (AR _);rw[BL] at hbk;obtain⟨g,hg⟩:∃g,g=bdF o:=⟨_,rfl⟩;rw[<-hg] at hI hbk;have c1:=hI.Ix;have cT:=hI.Ad f rfl;have lT:=AG cT rfl;have n1:(1:Nat)≠T:=AX c1 cT A6;have hM:∀D b,Dg b 1 T (CX g en D).1 (CX g en D).2 A ids none tb ob->A1 b s.length=.BS 0 []->s.length<b.length:=λD b _ h=>AG h rfl;refine AWp.seq (Qf1 (ik:=some .i64) (tM:=41) (tI:=42) (tN:=43) (tB:=44) (tE:=45) (t:=105) (e:=110) ?_ ?_ ?_ ?_ ?_ ?_ ?_ ?_ ?_ (D7:42<147) (D7:43<147) (D7:45<147) Ax ?_);rotate_left 9
 ·refine IK (K1:=λe1 s1=>Bc 147 0 e1 s1 [(1,(en:Int)),(5,.ptr 1 0),(41,.AF T)] s) (λe1 s1 hw=>⟨_,_,T,f,λD E S=>E=[(1,.d (.int .i64 en)),(5,.ptr 1 0),(42,.ptr s.length 0)]/\Dg S 1 T (CX g en D).1 (CX g en D).2 A ids none tb ob/\A1 S s.length=.BS 0 [],hw,rfl,cT,?low,⟨_,_,AU ?wk,rfl,?ini,?BS⟩,?slot,?nx,?bd,?en⟩) _ _ _ ?op
  case low=>
   intro k v hk hv;cases k with
   | i k=>
    rw[hI.look f rfl k] at hv;cases ht:g.2 k with
    | none=>rw[ht] at hv;cases hv
    | some t=>
     rw[ht] at hv;simp only[DF,BF] at hv;subst hv;exact AG (hI.FP k t ht).1 rfl
   | _=>exact hk.elim
  case wk=>rfl
  case ini=>exact hI.drop λj hj hne=>by rw[BB ah,As (FX hne)]
  case BS=>rw[CE,BH,A7 (R5 _),FA];rfl
  case slot=>intro D E S h;obtain⟨rfl,_,h⟩:=h;exact⟨rfl,h⟩
  case nx=>
   intro D E S h b;obtain⟨rfl,_,_⟩:=h;refine IK (K1:=λe1 s1=>e1=AJ (AJ [(1,(en:Int)),(5,.ptr 1 0),(42,.ptr s.length 0)] (some 43) (if b=true then .Aj [true,.undef,.undef] else .Aj [false])) (some 44) (.d (.bool b))/\s1=S) (λe1 s1 hw=>?_) _ _ _ ?_
   ·obtain⟨rfl,rfl⟩:=hw;refine⟨rfl,AU ?_⟩;cases b<;>rfl
   cases b
   ·simp only[zT,seval]
   simp only[zT,seval]
  case bd=>
   intro D E S k v hJ hkD hfit hfk;obtain⟨rfl,hI3,hfrz⟩:=hJ;cases k with
   | s l=>exact hfit.elim
   | p a b=>exact hfit.elim
   | i k=>
    rw[hI.look f rfl k] at hfk;cases ht0:g.2 k with
    | none=>rw[ht0] at hfk;cases hfk
    | some t=>
     rw[ht0] at hfk;simp only[DF,BF] at hfk;subst hfk;have ht:(CX g en D).2 k=some t:=by rw[Ur g en k D hkD];exact ht0
     have hcons:=de ht;have hpl:=NO g en D;have hlen:=hbk.len;have hopt:∀i∈t.open_,i<(CX g en D).1.length:=by rw[hpl];exact hbk.op k t ht0
     have holt:t.open_.length<=(CX g en D).1.length:=by rw[hpl];exact hbk.ol k t ht0
     generalize (CX g en D).1=ps at *;generalize (CX g en D).2=tr at *;refine IK (K1:=λe1 s1=>Bc 147 (s.length+1) e1 s1 [(1,(en:Int)),(5,.ptr 1 0),(9,.ptr (tb k) 0),(42,.ptr s.length 0)] S) (λe1 s1 hw=>?_) _ _ _ ?_
     ·refine AWp.Cj hw (Bu rfl _ _ _ _ ?_);simp only[zT,seval];refine CL (τ:=Sto×List B0×List Nat) (λy=>[(1,(en:Int)),(5,.ptr 1 0),(9,.ptr (tb k) 0),(42,.ptr s.length 0)]) (λy=>y.1)
       (λy=>Dg y.1 1 T y.2.1 (Ae tr k (some ⟨y.2.2,t.expect,t.last⟩)) A ids none tb ob/\A1 y.1 s.length=.BS 0 []/\Du y.2.1 y.2.2 en=Du ps t.open_ en/\y.2.1.length=ps.length/\(∀i∈y.2.2,i<ps.length)/\y.2.2.length<=ps.length) (λy=>y.2.2.length)
       (S,ps,t.open_) ⟨by simp only;rw[show Ae tr k (some (⟨t.open_,t.expect,t.last⟩:CO))=tr by rw[show(some (⟨t.open_,t.expect,t.last⟩:CO))=tr k from ht.symm,Q5]];exact hI3,hfrz,rfl,rfl,hopt,holt⟩ ?_ ?_
      ·exact Mi
      intro y hi;obtain⟨s2,ps3,op3⟩:=y;obtain⟨h2,hq2,hcl,hpl3,hop2,hol2⟩:=hi;simp only at h2 hq2 hcl hpl3 hop2 hol2;obtain⟨g1,g2⟩:=h2.FP k _ (CQ _ _ _);simp only at g1;simp only[zT,seval,g1];apply ifC.mk<;>intro hlp
      ·rcases RE op3 with h0|⟨l,i,h0⟩
       ·rw[h0] at hlp;cases hlp
       rw[RD] at h0;subst h0;have hll:l.length<ps3.length:=by simp at hol2;omega
       refine Be ((ZO h2 (CQ _ _ _) rfl (by rw[hpl3];exact hop2 i A6) oo oo en true).mono λr s3 hs=>?_);obtain⟨rfl,h6,hk⟩:=hs;simp only[zT,seval];refine⟨(s3,ps3.set i ((ps3.getD i default).shut en true),l),⟨?_,hk _ _ hq2 A6 A6,?_,?_,λj hj=>?_,?_⟩,?_,AU ?_⟩
       ·rw[NP] at h6;exact h6
       ·rw[<-hcl,Du,Du,aB];rfl
       ·simp[hpl3]
       ·exact hop2 j Ku
       ·exact Ky
       ·simp
       rfl
      have h0:op3=[]:=by
       have:op3.length=0:=by simpa using hlp
       exact bG
      subst h0;refine⟨[(1,.d (.int .i64 en)),(5,.ptr 1 0),(42,.ptr s.length 0)],s2,AU ?_,rfl,?_,hq2⟩
      ·rfl
      rw[hcons];simp only;rw[<-hcl];exact h2
     simp only[zT,seval];exact Mi
  case en=>
   intro DD E S hJ hall;obtain⟨rfl,hI3,hfrz⟩:=hJ;have hpf:(CX g en DD).1=Fe g en:=by
    refine yJ (by rw[hg];exact Q6s o) en λk t hk=>?_;exact hall (.i k) (.ptr (tb k) 0) trivial (by rw[hI.look f rfl k,hk];rfl)
   have hpl:(CX g en DD).1.length<900000:=by rw[NO];have:=hbk.len;omega
   rw[hpf] at hI3 hpl;rw[<-hg,<-hen] at hPF;rw[<-hPF] at hpf hI3 hpl;generalize PF=pf at *;have c1:=hI3.Ix;have c2:=hI3.row;have hbx:∀i,i<ids.length->∃v,A1 S (ids.getD i 0)=.box 11 v:=λi hi=>⟨_,hI3.Hr i (by rw[<-hI3.len];exact hi)⟩;show AWp _ _ _ _ _ _ _ _;refine Eu ?_;simp only[zT,seval,c1];obtain⟨S1,hS1⟩:∃S1:Sto,S1=(L4 S ids).set A (.arr 1 ((pf.map B0.A5).map D.ref)):=⟨_,rfl⟩;have hS1b:A1 S1 1=.box 2 (.agg [.A8 A 0 pf.length,.AF T]):=by
    rw[hS1,As (FX (AX c1 c2 A6))];exact x6 c1 hbx A6
   have hS1A:A1 S1 A=.arr 1 (pf.map GX):=by
    rw[hS1,BX (by rw[XM];exact AG c2 rfl),Hs];rfl
   have l1:=AG hS1b rfl;have lA:=AG hS1A rfl;refine CL (τ:=Nat×Sto×Nat) (λy=>[(62,(y.1:Int)),(61,(pf.length:Int)),(60,.A8 A 0 pf.length),(10,.A8 y.2.2 0 (IN pf y.1).length),(5,.ptr 1 0)]) (λy=>y.2.1)
    (λy=>y.1<=pf.length/\A1 y.2.1 1=.box 2 (.agg [.A8 A 0 pf.length,.AF T])/\A1 y.2.1 A=.arr 1 (pf.map GX)/\A1 y.2.1 y.2.2=.arr 1 ((IN pf y.1).map GX)/\y.2.2≠A) (λy=>pf.length-y.1)
    (0,S1++[.arr 1 []],S1.length) ⟨Bq _,(BB l1).trans hS1b,(BB lA).trans hS1A,Cd,AQ⟩ ?_ ?_
   ·refine(Qgm (n:=147) (m:=0) A c2 hI3.nd (xs:=pf.map B0.A5) (by rw[BW];exact hI3.len) (λi hi=>⟨11,by
     have hi':i<pf.length:=by rw[<-hI3.len];exact hi
     rw[Af _ _ _ (oo:i<pf.length)]
     exact⟨hI3.Hr i hi',λc hc=>by
      simp only[fO,Bw,En,E6] at hc
      rcases hc with rfl|rfl|rfl|rfl|rfl|rfl|rfl|rfl|rfl|rfl|rfl<;>rfl⟩⟩)).trans ?_
    rw[<-hS1];refine(Eb 10 1 rfl).trans (AU ?_);rfl
   intro y hi;obtain⟨k,s2,kid⟩:=y;obtain⟨hkl,d1,d2,d3,d4⟩:=hi;simp only at hkl d1 d2 d3 d4;have m1:=AG d1 rfl;have m2:=AG d2 rfl;have m3:=AG d3 rfl;have p1:(1:Nat)≠kid:=AX d1 d3 A6;have p2:(1:Nat)≠A:=AX d1 d2 A6;by_cases h:k<pf.length
   ·simp only[zT,seval,d1,d2,d3,m1,m2,m3,d4,d4.symm,p1,p1.symm,p2,p2.symm,(oo:(k:Int)<pf.length),h,Af _ _ _ (oo:k<pf.length),GX,a_w ((k:Int)+1)];refine⟨.inl Ax,?_⟩;apply ifC.mk<;>intro hq
    ·refine Ag ?_;have hkl2:(IN pf k).length<=k:=DC (Ge _ _) (Vi _ _);have ht:List.take (IN pf k).length (List.map GX (IN pf k))=List.map GX (IN pf k):=Bi A6;rw[ht];refine⟨oo,(k+1,s2.set kid .dead++[.arr 1 [GX (pf.getD k default)],.arr 1 ((IN pf k).map GX++[GX (pf.getD k default)])],s2.length+1),⟨h,?_,?_,?_,AQ⟩,AQ,AU ?_⟩
     ·simp only;rw[BB (by rw[BH];exact m1),As p1.symm];exact d1
     ·simp only;rw[BB (by rw[BH];exact m2),As d4];exact d2
     ·simp only;rw[CE,BH,A7 oo,EB,US pf k h,AD (show GM _=true from hq),CA];rfl
     rw[US pf k h,AD (show GM _=true from hq),Bb];simp only[zT,seval,GX]
    refine⟨(k+1,s2,kid),⟨h,d1,d2,?_,d4⟩,AQ,AU ?_⟩
    ·simp only;rw[US pf k h,A7 (by rw[GM,hq];simp)];exact d3
    rw[US pf k h,A7 (by rw[GM,hq];simp)];simp only[zT,seval]
   have hk:k=pf.length:=oo;subst hk;simp only[zT,seval,d1,d2,d3,m1,m2,m3,d4,d4.symm,p1,p1.symm,p2,p2.symm,(oo:¬(pf.length:Int)<pf.length)];have hkl2:(IN pf pf.length).length<=pf.length:=DC (Ge _ _) (Vi _ _);refine kR kid m3 d3 (by
    have:=Tp (Gl:=Gl) (τ:=[]) yb GX pV (λa=>rfl) (λa=>⟨rfl,rfl⟩) (Wv B0.s) 39 [] (λa b ys s hs=>(Q50 a b) s) (IN pf pf.length) oo
    exact this) ?_
   rw[show IN pf pf.length=pf.filter GM by rw[IN,BL]] at *;change Ab _ _ _ _ _ _ _ (s2.set kid (.arr 1 ((HI (pf.filter GM)).map GX))) _;have hql:q.length=(pf.filter GM).length:=by rw[hq,HI,MG]
   rw[<-hql,<-hq];have e1:A1 (s2.set kid (.arr 1 (q.map GX))) 1=_:=(As p1.symm).trans d1;have e2:A1 (s2.set kid (.arr 1 (q.map GX))) A=_:=(As d4).trans d2;have e3:A1 (s2.set kid (.arr 1 (q.map GX))) kid=_:=BX m3;generalize s2.set kid (.arr 1 (q.map GX))=S3 at *;have l1:=AG e1 rfl;have l2:=AG e2 rfl;have l3:=AG e3 rfl;simp only[zT,seval,e1,e2,e3];obtain⟨S4,hS4⟩:∃S4:Sto,S4=Go.AM.freeze (S3++[.map (some .i64) (BO (λ_=>none) (.i (-1)) (.d (.int .i64 (-1))))]) A:=⟨_,rfl⟩;have hS4l:S4.length=S3.length+1:=by rw[hS4,Go.AM.freeze,BH];simp
   have hat:∀j B,A1 S3 j=B->j<S3.length->j≠A->A1 S4 j=B:=λj B h1 h2 h3=>by rw[hS4,LJ,A7 (FX h3),BB h2];exact h1
   have g1:=hat 1 _ e1 l1 p2;have g3:=hat kid _ e3 l3 d4;have g2:A1 S4 A=.BS 1 (pf.map GX):=by rw[hS4,LJ,AD rfl,BB l2,e2];rfl
   have gP:A1 S4 S3.length=.map (some .i64) (BO (λ_=>none) (.i (-1)) (.d (.int .i64 (-1)))):=by rw[hS4,LJ,A7 oo,Cd]
   have hqm:∀p∈q,p∈pf:=λp hp=>by
    rw[hq] at hp;exact(GP.1 ((LL _ _).subset hp)).1
   have hqs:∀s∈q.map B0.s,s.depth=0/\0<=s.lo/\s.lo<=s.hi/\s.hi<=1000000000000:=λs hs=>by
    obtain⟨p,hp,rfl⟩:=C4.1 hs;exact hO.bd p (hqm p hp)
   have hpr:∀i,i<q.length->∃v,plO q (i+1) (Ex pf (q.getD i default).Aq)=some v/\-1<=v/\v<i:=λi hi=>by rw[hq] at hi ⊢;exact hO.pr i hi
   have hqn:q.length<900000:=oo;refine CL (τ:=Nat×Sto×Nat) (λy=>[(90,(y.1:Int)),(89,(q.length:Int)),(88,.A8 kid 0 q.length),(14,.A8 y.2.2 0 y.1),(13,.AF S3.length),(5,.ptr 1 0)]) (λy=>y.2.1)
    (λy=>y.1<=q.length/\A1 y.2.1 1=.box 2 (.agg [.A8 A 0 pf.length,.AF T])/\A1 y.2.1 A=.BS 1 (pf.map GX)/\A1 y.2.1 kid=.arr 1 (q.map GX)/\(∃f,A1 y.2.1 S3.length=.map (some .i64) f/\∀n,f (.i n)=(plO q y.1 n).map λv=>.d (.int .i64 v))/\A1 y.2.1 y.2.2=.arr 8 ((CW (q.map B0.s) (prP pf q) y.1).map Ac.A5)) (λy=>q.length-y.1)
    (0,S4++[.arr 8 []],S4.length) ⟨Bq _,(BB oo).trans g1,(BB oo).trans g2,(BB oo).trans g3,⟨_,(BB oo).trans gP,λn=>by
     simp only[MA,plO,Aw.i.injEq]
     split<;>rfl⟩,Cd⟩ ?_ ?_
   ·refine(sd A).trans ?_;rw[<-hS4];refine(Eb 14 8 rfl).trans (AU ?_);rfl
   intro y hi;obtain⟨k,s3,oid⟩:=y;obtain⟨hkl,f1,f2,f3,⟨f,f4,hf⟩,f5⟩:=hi;simp only at hkl f1 f2 f3 f4 hf f5;have m1:=AG f1 rfl;have m2:=AG f2 rfl;have m3:=AG f3 rfl;have m4:=AG f4 rfl;have m5:=AG f5 rfl;generalize S3.length=P at *;have n1:(1:Nat)≠P:=AX f1 f4 A6;have n2:A≠P:=AX f2 f4 A6;have n3:kid≠P:=AX f3 f4 A6;have n4:oid≠P:=AX f5 f4 A6;have n5:oid≠1:=AX f5 f1 A6;have n6:oid≠A:=AX f5 f2 A6;have n7:oid≠kid:=AX f5 f3 A6;by_cases h:k<q.length
   ·simp only[zT,seval,f1,f2,f3,f4,f5,m1,m2,m3,m4,m5,n1,n2,n3,n4,n5,n6,n7,n1.symm,n2.symm,n3.symm,n4.symm,n5.symm,n6.symm,n7.symm,(oo:(k:Int)<q.length),h,Af _ _ _ (oo:k<q.length),GX,a_w ((k:Int)+1)];refine⟨.inl Ax,?_⟩;have hqk:=hqm _ (Ba h);obtain⟨i0,hi0,hpi⟩:=Gd hqk;have har:=hO.ar i0 hi0;rw[show pf.getD i0 default=q.getD k default by rw[<-hpi];simp[hi0]] at har;refine NH (λs hs=>wH s 1 A (.AF T) pf (ON hs (by rw[BB (by rw[BH];exact m1),As n1.symm];exact f1) rfl rfl) (ON hs (by rw[BB (by rw[BH];exact m2),As n2.symm];exact f2) rfl rfl) oo hO.ar (q.getD k default) ⟨har.1,oo⟩) ?_;obtain⟨v,hv,hv1,hv2⟩:=hpr k h;have hpv:prP pf q k=v:=by rw[prP,hv];rfl
    have hlk:(if Aw.i (Ex pf (q.getD k default).Aq)=Aw.i (q.getD k default).number then some (AV.d (.int .i64 k)) else f (.i (Ex pf (q.getD k default).Aq)))=some (.d (.int .i64 v)):=by
     rw[plO] at hv;by_cases e:Ex pf (q.getD k default).Aq=(q.getD k default).number
     ·rw[AD e] at hv;cases hv;rw[AD Li]
     rw[A7 e] at hv;rw[A7 J5,hf,hv];rfl
    have hob:=Rn hqs (pr:=prP pf q) (λi hi=>by
     obtain⟨v,h1,h2⟩:=hpr i Lj
     rw[prP,h1];exact h2) k (by simpa using hkl)
    have hol:=Jr (q.map B0.s) (prP pf q) k;have hstep:CW (q.map B0.s) (prP pf q) (k+1)=GJ (CW (q.map B0.s) (prP pf q) k) (q.getD k default).s v:=by
     show GJ _ _ _=_;rw[hpv,show(q.map B0.s).getD k default=(q.getD k default).s by simp[h]]
    have hf':∀n,BO f (.i (q.getD k default).number) (.d (.int .i64 k)) (.i n)=(plO q (k+1) n).map λv=>AV.d (.int .i64 v):=λn=>by
     exact oh
    have hbq:=hO.bd _ hqk;generalize CW (q.map B0.s) (prP pf q) k=out at *;simp only[zT,seval,f1,f2,f3,f4,f5,m1,m2,m3,m4,m5,n1,n2,n3,n4,n5,n6,n7,n1.symm,n2.symm,n3.symm,n4.symm,n5.symm,n6.symm,n7.symm,hlk,a_w ((q.getD k default).s.hi-(q.getD k default).s.lo),a_w ((k:Int)+1)];apply ifC.mk<;>intro hv0
    ·have hv0:0<=v:=by simpa using hv0
     obtain⟨w,rfl⟩:=M_ hv0;have hw:w<out.length:=oo;have hob1:=hob _ (Ba hw);simp only[zT,seval,f5,(oo:0<=(w:Int)),(oo:(w:Int)<out.length),hw,hol,Af _ _ _ (oo:w<out.length),a_w ((out.getD w default).depth+1),a_w ((out.getD w default).self-((q.getD k default).s.hi-(q.getD k default).s.lo))];refine⟨oo,oo,.inl Ax,?_⟩;refine Ag ?_;refine⟨(k+1,_,s3.length+2),⟨h,?_,?_,?_,⟨_,?_,hf'⟩,?_⟩,AQ,AU ?_⟩;rotate_left 5
     ·rfl
     ·exact OJ
     ·exact OJ
     ·exact OJ
     ·exact OJ
     exact pI
    refine Ag ?_;refine⟨(k+1,_,s3.length+2),⟨h,?_,?_,?_,⟨_,?_,hf'⟩,?_⟩,AQ,AU ?_⟩;rotate_left 5
    ·rfl
    ·exact OJ
    ·exact OJ
    ·exact OJ
    ·exact OJ
    exact pH
   have hk:k=q.length:=oo;subst hk;simp only[zT,seval,f1,f2,f3,f4,f5,m1,m2,m3,m4,m5,n1,n2,n3,n4,n5,n6,n7,n1.symm,n2.symm,n3.symm,n4.symm,n5.symm,n6.symm,n7.symm,(oo:¬(q.length:Int)<q.length)];have hol:((CW (q.map B0.s) (prP pf q) q.length).map Ac.A5).length=q.length:=by rw[BW,Jr]
   refine⟨_,_,Hi (x:=D.sl ((CW (q.map B0.s) (prP pf q) q.length).map Ac.A5)) ?_ ?_,rfl,rfl⟩
   ·simp only[zT,seval,f5,hol]
   simp only[zT,seval,f5,hol];exact bI
  case op=>
   simp only[zT,seval,c1];exact Mi
 all_goals rfl

structure ChT where
 at_:Int
 state:Int
 G0:Int
 Fw:Int
 CD:Int
deriving Inhabited,DecidableEq
def ChT.A5(x:ChT):D:=.agg [.int .i64 x.at_,.int .i64 x.state,.int .i64 x.G0,.int .i64 x.Fw,.int .i64 x.CD]
def Bba:(∀(x:ChT),x.A5.isAgg=true)/\(∀(x:ChT),x.A5.cells=[.int .i64 x.at_,.int .i64 x.state,.int .i64 x.G0,.int .i64 x.Fw,.int .i64 x.CD]):=Et
def zU:=aI @zT Bba
structure Ck where
 ch:List ChT
 next:Int
 last:Int
deriving Inhabited
def Fr(S s:Sto)(l:List Nat):Prop:=S.length<=s.length/\∀j,(A1 S j).AP=false->j∉l->A1 s j=A1 S j
def Fr.refl(S:Sto)(l:List Nat):Fr S S l:=⟨AR _,λ_ _ _=>rfl⟩
def Fr.at{S s:Sto}{l:List Nat}(h:Fr S s l){j:Nat}{B:Blk}(hj:A1 S j=B)(hd:B.AP=false)(hl:j∉l):A1 s j=B:=by rw[h.2 j RR hl];exact hj
def Fr.trans{S s s':Sto}{l l':List Nat}(h:Fr S s l)(h2:Fr s s' l')(hl:∀j∈l',j∈l\/S.length<=j):Fr S s' l:=
 ⟨DC h.1 h2.1,λj hj hn=>by
  have e:=h.2 j hj hn
  have hlt:=AG rfl hj
  rw[h2.2 j (by rw[e];exact hj) (λhm=>by rcases hl j hm with h'|h';exact hn h';omega),e]⟩
def Fr.set{S s:Sto}{l:List Nat}(h:Fr S s l){p:Nat}(B:Blk)(hp:p∈l):Fr S (s.set p B) l:=
 ⟨by rw[BH];exact h.1,λj hj hn=>by rw[As (λe=>hn (by rw[<-e];exact hp))];exact h.2 j hj hn⟩
structure TrA(σ:Sto)(p c:Nat)(t:Ck):Prop where
 bx:A1 σ p=.box 3 (.agg [.A8 c 0 t.ch.length,(t.next:Int),(t.last:Int)])
 ar:∃xs,A1 σ c=.arr 5 xs/\t.ch.length<=xs.length/\xs.take t.ch.length=t.ch.map ChT.A5
def TrA.ext{S s:Sto}{p c:Nat}{t:Ck}{l:List Nat}(h:TrA S p c t)(hf:Fr S s l)(h1:p∉l)(h2:c∉l):TrA s p c t:=by
 obtain⟨xs,q1,q2⟩:=h.ar;exact⟨hf.at h.bx rfl h1,xs,hf.at q1 rfl h2,q2⟩
def Fr.app(S s:Sto):Fr S (S++s) []:=⟨A6,λj hj _=>BB (AG rfl hj)⟩
def TrA.get{t:Ck}{xs:List D}(h:t.ch.length<=xs.length/\xs.take t.ch.length=t.ch.map ChT.A5){i:Nat}(hi:i<t.ch.length):xs.getD i default=(t.ch.getD i default).A5:=by
 have e:(xs.take t.ch.length).getD i default=(t.ch.map ChT.A5).getD i default:=by rw[h.2]
 rw[B5,GH hi,<-B5] at e;rw[e];exact Af _ _ _ hi
def Qe6(S:Sto)(p:Nat)(n l:Int)(hb:A1 S p=.box 3 (.agg [.AA,(n:Int),(l:Int)]))(x:ChT):
  AW prog Gl 43 [.ptr p 0,(x.at_:Int),(x.state:Int),(x.G0:Int),(x.Fw:Int),(x.CD:Int)] S (λr s=>r=.Aj []/\∃c,TrA s p c ⟨[x],n,l⟩/\Fr S s [p]/\S.length<=c):=by
 have lb:=AG hb rfl;refine acS func43 ntmps43 results43 ?_;simp only[zU,seval,B6,hb,lb];refine⟨_,_,Bg.refl _ _ _,rfl,S.length+1,⟨?_,[x.A5],?_,AR _,rfl⟩,⟨A6,λj hj hn=>?_⟩,oo⟩
 ·rw[BB (by rw[BH];exact lb),BX lb];rfl
 ·exact me
 rw[BB ah,As (λe=>hn (by simp[e]))]
def QL{S:Sto}{p c:Nat}{t:Ck}(h:TrA S p c t)(hl:t.ch.length<1000000)(x:ChT):
  AW prog Gl 43 [.ptr p 0,(x.at_:Int),(x.state:Int),(x.G0:Int),(x.Fw:Int),(x.CD:Int)] S (λr s=>r=.Aj []/\∃c',TrA s p c' ⟨t.ch++[x],t.next,t.last⟩/\Fr S s [p,c]/\(c'=c\/S.length<=c')):=by
 have hb:=h.bx;obtain⟨xs,hc,hx⟩:=h.ar;have lb:=AG hb rfl;have lc:=AG hc rfl;have hpc:p≠c:=AX hb hc A6;refine acS func43 ntmps43 results43 ?_;simp only[zU,seval,B6,hb,hc,lb,lc,hpc,hpc.symm]
 repeat((with_reducible apply aI);exact sdp)
 rw[hx.2];refine⟨_,_,Bg.refl _ _ _,rfl,S.length+1,⟨?_,(t.ch++[x]).map ChT.A5,?_,A6,Bi A6⟩,⟨A6,λj hj hn=>?_⟩,.inr oo⟩
 ·exact mo
 ·rw[CE,BH,BH,A7 oo,EB,CA];rfl
 rw[BB (by simp;exact AG rfl hj),As (λe=>hn (by simp[e])),As (λe=>hn (by simp[e]))]
def z_(n:Nat)(a b:Int)(xs:List D)(x:ChT)(hn:xs.getD n default=x.A5)(hl:n<xs.length)(hN:n<1000000)(B:Blk)(hB:B=.arr 5 xs\/B=.BS 5 xs):
  AW prog Gl 73 [.ptr 0 0] [.box 3 (.agg [.A8 1 0 (n+1),(a:Int),(b:Int)]),B] (λr s=>r=.d x.A5/\s=[.box 3 (.agg [.A8 1 0 (n+1),(a:Int),(b:Int)]),B]):=by
 have e1:IntKind.i64.wrap ((n:Int)+1-1)=(n:Nat):=Bz;rcases hB with rfl|rfl
 all_goals
  refine acS func73 ntmps73 results73 ?_;refine KA ?_;refine⟨.inl Ax,?_⟩;simp only[zU,seval,e1,hn];refine Ag ?_;refine⟨_,_,Dh [] [0,1] rfl A6 rfl rfl,rfl,rfl⟩
def kl{s:Sto}{p c n:Nat}{a b:Int}{xs:List D}{x:ChT}(hb:A1 s p=.box 3 (.agg [.A8 c 0 (n+1),(a:Int),(b:Int)])){B:Blk}(hB:B=.arr 5 xs\/B=.BS 5 xs)(hc:A1 s c=B)(hn:xs.getD n default=x.A5)(hl:n<xs.length)(hN:n<1000000):
  AW prog Gl 73 [.ptr p 0] s (λr s'=>r=.d x.A5/\s'=s):=by
 have hpc:p≠c:=λe=>by
  subst e;rw[hb] at hc;rcases hB with h|h<;>rw[h] at hc<;>cases hc
 have lp:=AG hb rfl;have lc:c<s.length:=by
  rcases hB with h|h<;>(rw[h] at hc;exact AG hc rfl)
 have i0:Bn [p,c] p=some 0:=by simp[Bn,PZ]
 have i1:Bn [p,c] c=some 1:=by simp[Bn,PZ,hpc]
 refine(AW.under_new (σ:=s) (az':=[.ptr 0 0]) (R:=λr V=>r=.d x.A5/\V=[]) [p,c] [.box 3 (.agg [.A8 1 0 (n+1),(a:Int),(b:Int)]),B] (by simp[hpc]) (by simp[lp,lc]) ?_ ?_ ?_ ((z_ n a b xs x hn hl hN B hB).mono λr s hr=>⟨[],by rw[hr.2,FY],hr.1,rfl⟩)).mono λr s' hh=>?_
 ·rcases hB with h|h<;>subst h<;>(simp only[C1,Ca,BJ,DJ,i0,i1,hb,hc,Ci,E9];rfl)
 ·simp only[BJ,DJ,i0,Ci,E9]
 ·intro j i hj
  match j,hj with
  | 0,hj=>cases hj;rw[hb];rfl
  | 1,hj=>cases hj;rw[hc];rcases hB with h|h<;>subst h<;>rfl
 obtain⟨r0,V,⟨rfl,rfl⟩,rfl,rfl⟩:=hh;refine⟨rfl,?_⟩;rw[E9,FY]
def Gy(l:Int)(ch:List ChT):List ChT:=if h:1<ch.length/\l<(ch.getD (ch.length-1) default).at_ then Gy l ch.dropLast else ch
termination_by ch.length
decreasing_by simp;omega
def fP(l:Int)(ch:List ChT):(Gy l ch).length<=ch.length:=by
 induction hn:ch.length using Nat.strongRecOn generalizing ch with
 | _ n ih=>
  rw[Gy];split
  ·have:=ih ch.dropLast.length Ap ch.dropLast rfl;simp at this;omega
  omega
def tw{S s:Sto}(h:Ext S s){i es:Nat}{xs:List D}(hB:A1 S i=.arr es xs):∃B,(B=.arr es xs\/B=.BS es xs)/\A1 s i=B:=by
 rcases h.2 i with h1|h1|h1
 ·rw[hB] at h1;cases h1
 ·exact⟨_,.inl rfl,h1.trans hB⟩
 exact⟨_,.inr rfl,by rw[h1,hB];rfl⟩
def Q9s{S:Sto}{p c:Nat}{t:Ck}(h:TrA S p c t)(h0:0<t.ch.length)(hl:t.ch.length<1000000):
  AW prog Gl 72 [.ptr p 0] S (λr s=>r=.Aj []/\∃c',TrA s p c' ⟨Gy t.last t.ch++[⟨t.last,5,-1,-1,-1⟩],t.next,t.last⟩/\Fr S s [p,c]/\(c'=c\/S.length<=c')):=by
 refine Fv func72 rfl rfl (by simp[ntmps72]) ?_;simp only[ntmps72,results72,B6,C6];refine Bu rfl _ _ _ _ ?_;simp only[zU,seval];refine CL (τ:=Sto×List ChT) (λy=>[(0,.ptr p 0)]) (λy=>y.1) (λy=>TrA y.1 p c ⟨y.2,t.next,t.last⟩/\Fr S y.1 [p,c]/\0<y.2.length/\y.2.length<=t.ch.length/\Gy t.last y.2=Gy t.last t.ch) (λy=>y.2.length) (S,t.ch) ⟨h,Fr.refl _ _,h0,AR _,rfl⟩ ?_ ?_
 ·exact Dd
 intro y hi;obtain⟨s,ch⟩:=y;obtain⟨ht,hf,hp,hle,he⟩:=hi;simp only at ht hf hp hle he;have hb:=ht.bx;obtain⟨xs,hc,hx⟩:=ht.ar;simp only at hb hx;have lb:=AG hb rfl;have lc:=AG hc rfl;have hpc:p≠c:=AX hb hc A6;obtain⟨n,hn⟩:∃n,ch.length=n+1:=⟨ch.length-1,oo⟩;have hg:=TrA.get (t:=⟨ch,t.next,t.last⟩) hx (i:=n) (by show n<ch.length;omega);simp only at hg;rw[hn] at hb;simp only[zU,seval,hb,hc,lb,lc,hpc,hpc.symm,hn];refine⟨.inl Ax,.d (ch.getD n default).A5,λ_ s' hs=>?_,?_⟩
 ·obtain⟨B,hB,hB2⟩:=tw hs hc;exact kl (ON hs hb rfl rfl) hB hB2 hg oo oo
 have hlen:((ch.length:Nat):Int)-1=n:=oo;have hch:ch.length-1=n:=oo;have fin:¬(1<ch.length/\t.last<(ch.getD (ch.length-1) default).at_)->Gy t.last t.ch=ch:=λhh=>by rw[<-he,Gy,PQ hh]
 by_cases h1:0<n
 ·have e1:IntKind.i64.wrap ((n:Int)+1-1)=(n:Nat):=Bz;simp only[zU,seval,hb,hc,lb,lc,hpc,hpc.symm,hn,(oo:(1:Int)<(n:Int)+1),e1];apply ifC.mk<;>intro h2
  ·have h2:t.last<(ch.getD n default).at_:=DN;refine Ag ?_;refine⟨(s.set p (.box 3 (.agg [.A8 c 0 n,(t.next:Int),(t.last:Int)])),ch.dropLast),⟨⟨?_,xs,?_,?_,?_⟩,hf.set _ A6,?_,?_,?_⟩,by simp[hn],AU rfl⟩
   ·simp only;rw[BX lb,RB,hch]
   ·simp only;rw[As hpc];exact hc
   ·exact bF
   ·simp only[RB,hch];rw[aR,hch,JT,<-hx.2,Vl,hn,show min n (n+1)=n by omega]
   ·exact bF
   ·exact bF
   simp only;rw[<-he]
   conv=>rhs;rw[Gy,JR ⟨oo,by rw[hch];exact h2⟩]
  have h2:¬t.last<(ch.getD n default).at_:=DN;rw[fin (λhh=>h2 (by rw[hch] at hh;exact hh.2))];refine Be ((QL ht AQ ⟨t.last,5,-1,-1,-1⟩).mono λr s' hr=>?_);obtain⟨rfl,c',h3,h4,h5⟩:=hr;simp only[zU,seval];exact⟨_,_,Bg.refl _ _ _,rfl,c',h3,hf.trans h4 (λj hj=>.inl hj),h5.imp id (λh=>DC hf.1 h)⟩
 simp only[zU,seval,hb,hc,lb,lc,hpc,hpc.symm,hn,(oo:¬(1:Int)<(n:Int)+1)];rw[fin (λhh=>oo)];refine Be ((QL ht AQ ⟨t.last,5,-1,-1,-1⟩).mono λr s' hr=>?_);obtain⟨rfl,c',h3,h4,h5⟩:=hr;simp only[zU,seval];exact⟨_,_,Bg.refl _ _ _,rfl,c',h3,hf.trans h4 (λj hj=>.inl hj),h5.imp id (λh=>DC hf.1 h)⟩
def evS(t:Ck)(x:AN):Ck:=
 let t1:List ChT:=if x.AB=t.next then t.ch else Gy t.last t.ch++[⟨t.last,5,-1,-1,-1⟩]
 ⟨if x.ev.kind=8 then t1++[⟨Am x.lo,4,x.ev.n,-1,-1⟩] else if x.ev.kind=9 then t1++[⟨Am x.lo,x.ev.n,-1,if x.ev.n=2 then x.ev.m else -1,-1⟩] else t1,x.AB+1,Am x.lo⟩
def wkS(t:Ck)(a b:Int):Ck:=
 if(t.ch.getD (t.ch.length-1) default).state=1\/(t.ch.getD (t.ch.length-1) default).state=2 then⟨t.ch++[⟨a,0,-1,-1,b⟩],t.next,t.last⟩ else t
def yp{S:Sto}{p c:Nat}{t:Ck}(h:TrA S p c t)(h0:0<t.ch.length)(hl:t.ch.length<1000000)(a b:Int):
  AW prog Gl 46 [.ptr p 0,(a:Int),(b:Int)] S (λr s=>r=.Aj []/\∃c',TrA s p c' (wkS t a b)/\Fr S s [p,c]/\(c'=c\/S.length<=c')):=by
 have hb:=h.bx;obtain⟨xs,hc,hx⟩:=h.ar;obtain⟨n,hn⟩:∃n,t.ch.length=n+1:=⟨t.ch.length-1,oo⟩;have hg:=TrA.get hx (i:=n) oo;rw[hn] at hb;refine acS func46 ntmps46 results46 ?_;simp only[zU,seval,B6];refine Be ((kl hb (.inl rfl) hc hg oo oo).mono λr s' hr=>?_);obtain⟨rfl,rfl⟩:=hr;simp only[zU,seval];rw[wkS,show t.ch.length-1=n by omega];apply ifC.mk<;>intro q
 ·rw[AD (by simpa using q)];refine Be ((QL h oo ⟨a,0,-1,-1,b⟩).mono λr s2 hr=>?_);obtain⟨rfl,hr⟩:=hr;simp only[zU,seval];exact⟨_,_,Bg.refl _ _ _,rfl,hr⟩
 rw[A7 (by simpa using q)];exact⟨_,_,Bg.refl _ _ _,rfl,c,h,Fr.refl _ _,.inl rfl⟩
def TrA.marks{s:Sto}{p c:Nat}{ch:List ChT}{a b:Int}(h:TrA s p c ⟨ch,a,b⟩)(a' b':Int):TrA (s.set p (.box 3 (.agg [.A8 c 0 ch.length,(a':Int),(b':Int)]))) p c ⟨ch,a',b'⟩:=by
 obtain⟨xs,q1,q2⟩:=h.ar;exact⟨BX (AG h.bx rfl),xs,(As (AX h.bx q1 A6)).trans q1,q2⟩
def vy{S:Sto}{p c:Nat}{t:Ck}(h:TrA S p c t)(h0:0<t.ch.length)(hl:t.ch.length<900000)(x:AN)(hx:0<=x.AB/\x.AB<2000000000000000):
  AW prog Gl 45 [.ptr p 0,.d x.A5] S (λr s=>r=.Aj []/\∃c',TrA s p c' (evS t x)/\Fr S s [p,c]/\(c'=c\/S.length<=c')):=by
 have hb:=h.bx;have lb:=AG hb rfl;have lc:c<S.length:=by obtain⟨xs,q1,_⟩:=h.ar;exact AG q1 rfl
 refine acS func45 ntmps45 results45 ?_;simp only[zU,seval,B6];refine Ak (Wl x) ?_;simp only[zU,seval,hb,lb,show p≠S.length by omega,a_w (x.AB+1)];refine⟨.inl Ax,?_⟩;have hf1:Fr S (S++[.box 10 (.d x.A5)]) [p,c]:=⟨(Fr.app _ _).1,λj hj _=>(Fr.app _ _).2 j hj A6⟩;have h1:TrA (S++[.box 10 (.d x.A5)]) p c t:=h.ext (Fr.app _ _) A6 A6;apply ifC.mk<;>intro q;have q:¬x.AB=t.next:=by simpa using q
 refine Be ((Q9s h1 h0 oo).mono λr s hr=>?_);obtain⟨rfl,c2,h2,hf2,hc2⟩:=hr;have hs:=hf2.at (Cd (σ:=S)) rfl (by
  simp only[Bw,En,E6];omega)
 have hc2:c2=c\/S.length<=c2:=hc2.imp id (λh=>Ks);have hin:∀j∈[p,c2],j∈[p,c]\/S.length<=j:=λj hj=>by
  simp only[Bw,En,E6] at hj ⊢;rcases hj with rfl|rfl
  ·exact .inl (.inl rfl)
  exact hc2.imp .inr id
 have hout:∀{c3 n:Nat},c3=c2\/n<=c3->S.length<=n->c3=c\/S.length<=c3:=λh hn=>h.elim (λe=>by rw[e];exact hc2) λh=>.inr (DC hn h);have hE:evS t x=⟨if x.ev.kind=8 then(Gy t.last t.ch++[⟨t.last,5,-1,-1,-1⟩])++[⟨Am x.lo,4,x.ev.n,-1,-1⟩] else if x.ev.kind=9 then(Gy t.last t.ch++[⟨t.last,5,-1,-1,-1⟩])++[⟨Am x.lo,x.ev.n,-1,if x.ev.n=2 then x.ev.m else -1,-1⟩] else Gy t.last t.ch++[⟨t.last,5,-1,-1,-1⟩],x.AB+1,Am x.lo⟩:=by rw[evS];simp only[A7 q]
 have hl2:(Gy t.last t.ch++[(⟨t.last,5,-1,-1,-1⟩:ChT)]).length<1000000:=by have:=fP t.last t.ch;simp;omega
 have hf3:Fr S s [p,c]:=hf1.trans hf2 (λj hj=>.inl hj);generalize Gy t.last t.ch++[(⟨t.last,5,-1,-1,-1⟩:ChT)]=t1 at *;rotate_left;have q:x.AB=t.next:=by simpa using q
 have hE:evS t x=⟨if x.ev.kind=8 then t.ch++[⟨Am x.lo,4,x.ev.n,-1,-1⟩] else if x.ev.kind=9 then t.ch++[⟨Am x.lo,x.ev.n,-1,if x.ev.n=2 then x.ev.m else -1,-1⟩] else t.ch,x.AB+1,Am x.lo⟩:=by rw[evS];simp only[AD q]
 have h2:TrA (S++[.box 10 (.d x.A5)]) p c ⟨t.ch,t.next,t.last⟩:=h1;have hs:A1 (S++[.box 10 (.d x.A5)]) S.length=.box 10 (.d x.A5):=Cd;have hf3:=hf1;have hl2:t.ch.length<1000000:=oo;have hin:∀j∈[p,c],j∈[p,c]\/S.length<=j:=λj hj=>.inl hj;obtain⟨c2,ec2⟩:∃c2,c2=c:=⟨_,rfl⟩;rw[<-ec2] at h2;have hout:∀{c3 n:Nat},c3=c2\/n<=c3->S.length<=n->c3=c\/S.length<=c3:=λh hn=>h.elim (λe=>.inl (e.trans ec2)) λh=>.inr (DC hn h);have hc2:c2=c\/S.length<=c2:=.inl ec2;have hin:∀j∈[p,c2],j∈[p,c]\/S.length<=j:=by rw[ec2];exact hin
 clear hb;rw[show List.set S p (.box 3 (.agg [.A8 c 0 t.ch.length,(x.AB+1:Int),(Am x.lo:Int)]))++[Blk.box 10 (.d x.A5)]=(S++[Blk.box 10 (.d x.A5)]).set p (.box 3 (.agg [.A8 c2 0 t.ch.length,(x.AB+1:Int),(Am x.lo:Int)])) by rw[List.set_append_left _ _ lb,ec2]];generalize S++[.box 10 (.d x.A5)]=s at *;generalize t.ch=t1 at *
 all_goals
  have b2:=h2.bx;simp only at b2;have lp2:=AG b2 rfl;have ls:=AG hs rfl;have hps:p≠S.length:=oo
  (try simp only[zU,seval,hs,b2,lp2,ls,hps,hps.symm,a_w (x.AB+1)])
  have h3:=h2.marks (x.AB+1) (Am x.lo);have hf4:=hf3.set (.box 3 (.agg [.A8 c2 0 t1.length,(x.AB+1:Int),(Am x.lo:Int)])) (p:=p) A6;rw[hE];apply ifC.mk<;>intro k8
  ·rw[AD (by simpa using k8)];refine Be ((QL h3 hl2 ⟨Am x.lo,4,x.ev.n,-1,-1⟩).mono λr s2 hr=>?_);exact bz
  rw[A7 (by simpa using k8)];apply ifC.mk<;>intro k9
  ·rw[AD (by simpa using k9)];apply ifC.mk<;>intro k2
   ·rw[AD (by simpa using k2)];refine Be ((QL h3 hl2 ⟨Am x.lo,x.ev.n,-1,x.ev.m,-1⟩).mono λr s2 hr=>?_);exact bz
   rw[A7 (by simpa using k2)];refine Be ((QL h3 hl2 ⟨Am x.lo,x.ev.n,-1,-1,-1⟩).mono λr s2 hr=>?_);exact bz
  rw[A7 (by simpa using k9)];exact⟨_,_,Bg.refl _ _ _,rfl,c2,h3,hf4,hc2⟩

def JL(out:List BQ)(x:BQ):List BQ:=
 if out.length≠0/\KN (out.getD (out.length-1) default) x=true then out.set (out.length-1) {out.getD (out.length-1) default with hi:=x.hi,CD:=x.CD} else out++[x]
def Fg(th e:Int)(ch:List ChT)(k:Nat):BQ:=
 ⟨th,(ch.getD k default).state,(ch.getD k default).at_,if k+1<ch.length then(ch.getD (k+1) default).at_ else e,(ch.getD k default).G0,(ch.getD k default).Fw,if k+1<ch.length then(ch.getD (k+1) default).CD else -1⟩
def FR(th e:Int)(ch:List ChT):Nat->List BQ
 | 0=>[]
 | k+1=>if(Fg th e ch k).hi<=(Fg th e ch k).lo then FR th e ch k else JL (FR th e ch k) (Fg th e ch k)
def vE(out:List BQ)(x:BQ):(JL out x).length<=out.length+1:=by
 unfold JL;split<;>simp
def X5(th e:Int)(ch:List ChT):∀k,(FR th e ch k).length<=k
 | 0=>AR _
 | k+1=>by
  have:=X5 th e ch k;have h2:=vE (FR th e ch k) (Fg th e ch k);unfold FR;split<;>omega
def Nr(b:Bool)(x y:Int):Int:=if b=true then x else y
def ZY(x y:Int):Nr true x y=x:=rfl
def iz(x y:Int):Nr false x y=y:=rfl
def yS(y x:BQ)(a b:Bool):BQ:={y with hi:=Nr a x.hi y.hi,CD:=Nr b x.CD y.CD}
def xf(y x:BQ)(a b:Bool):(yS y x a b).A5.cells=[.int .i64 y.A0,.int .i64 y.state,.int .i64 y.lo,.int .i64 (Nr a x.hi y.hi),.int .i64 y.G0,.int .i64 y.Fw,.int .i64 (Nr b x.CD y.CD)]:=rfl
def xg(y x:BQ)(a b:Bool):(yS y x a b).A5.isAgg=true:=rfl
def gh(l:List D)(i:Nat)(x:D)(h:i<l.length):(l.set i x).getD i default=x:=Lh
def qb(l:List D)(i:Nat):l.set i (l.getD i default)=l:=by
 apply Gf;intro k;rw[H_];split
 ·rename_i h;subst h;split
  ·rename_i h;simp[h]
  rename_i h;simp at h;simp[h]
 rfl
def rnU(G:List Nat)(S:Sto):BJ G S .undef=.undef:=rfl
set_option maxHeartbeats 4000000 in
def wq(th e a b:Int)(ch:List ChT)(xs:List D)(hx:ch.length<=xs.length/\xs.take ch.length=ch.map ChT.A5)(hl:ch.length<1000000):
  AW prog Gl 47 [.ptr 0 0,(th:Int),(e:Int)] [.box 3 (.agg [.A8 1 0 ch.length,(a:Int),(b:Int)]),.arr 5 xs]
   (λr s=>r=.d (.sl ((FR th e ch ch.length).map BQ.A5))/\s=[.box 3 (.agg [.A8 1 0 ch.length,(a:Int),(b:Int)]),.arr 5 xs]):=by
 refine acS func47 ntmps47 results47 ?_;simp only[zU,seval,B6];refine Bm ch.length (λk=>[(0,.ptr 0 0),(1,(th:Int)),(2,(e:Int)),(7,.A8 2 0 (FR th e ch k).length),(17,.A8 1 0 ch.length),(18,(ch.length:Int)),(19,(k:Int))]) (λk=>[.box 3 (.agg [.A8 1 0 ch.length,(a:Int),(b:Int)]),.arr 5 xs,.arr 7 ((FR th e ch k).map BQ.A5)]) (λ_=>True) trivial ?_ ?_
 ·refine(Eb 7 7 rfl).trans ?_;refine BA [] [0,1,2] rfl A6 ?_ rfl;rfl
 intro k _ hk;have hyl:=X5 th e ch k;by_cases h:k<ch.length
 ·have g1:=TrA.get (t:=⟨ch,a,b⟩) hx (i:=k) h;simp only at g1;have hkx:k<xs.length:=oo;have hst:FR th e ch (k+1)=if(Fg th e ch k).hi<=(Fg th e ch k).lo then FR th e ch k else JL (FR th e ch k) (Fg th e ch k):=rfl;rw[hst];generalize FR th e ch k=ys at *;by_cases h2:k+1<ch.length;have g2:=TrA.get (t:=⟨ch,a,b⟩) hx (i:=k+1) h2;simp only at g2;have hkx2:k+1<xs.length:=oo;have ea:Fg th e ch k=⟨th,(ch.getD k default).state,(ch.getD k default).at_,(ch.getD (k+1) default).at_,(ch.getD k default).G0,(ch.getD k default).Fw,(ch.getD (k+1) default).CD⟩:=by simp only[Fg,AD h2]
  simp only[zU,seval,(oo:(k:Int)<ch.length),h,g1,hkx,a_w ((k:Int)+1),(oo:(k:Int)+1<ch.length)];refine⟨.inl Ax,?_⟩
  (try simp only[zU,seval,g2,hkx2,(oo:(k:Int)+1<ch.length),a_w ((k:Int)+1),show((k:Int)+1).toNat=k+1 by omega])
  refine Ag ?_;rotate_left;have ea:Fg th e ch k=⟨th,(ch.getD k default).state,(ch.getD k default).at_,e,(ch.getD k default).G0,(ch.getD k default).Fw,-1⟩:=by simp only[Fg,A7 h2]
  simp only[zU,seval,(oo:(k:Int)<ch.length),h,g1,hkx,a_w ((k:Int)+1),(oo:¬(k:Int)+1<ch.length)]
  all_goals
   rw[ea];apply ifC.mk<;>intro h3
   ·rw[AD Gv];refine BA [] [0,1,2] rfl A6 ?_ rfl;rfl
   rw[A7 Gv];rcases RE ys with e1|⟨zs,y,e1⟩
   ·subst e1;rw[JL,A7 A6]
    (try simp only[zU,seval,C6,E9,a_w ((-1:Int))])
    refine Ag ?_;refine DS (v:=.d (.bool false)) (λhg=>by cases hg) ?_;simp only[zU,seval,a_w ((k:Int)+1)];refine Ag ?_;refine BA [] [0,1,6] rfl A6 ?_ ?_
    ·rfl
    rfl
   rw[RD] at e1;have hyl2:ys.length=zs.length+1:=by rw[e1];simp
   have hyl3:(ys.map BQ.A5).length=zs.length+1:=by rw[BW,hyl2]
   have hlt3:zs.length<(ys.map BQ.A5).length:=oo;have e0:((zs.length:Int)+1-1)=zs.length:=oo;have ey:ys.getD zs.length default=y:=by rw[e1];simp
   have egy:(ys.map BQ.A5).getD zs.length default=y.A5:=by rw[Af _ _ _ oo,ey]
   (try simp only[zU,seval,hyl2,e0,a_w ((zs.length:Int)),Dw,egy,(oo:(zs.length:Int)<(zs.length:Int)+1),(oo:zs.length<zs.length+1)])
   refine Ag ?_;refine DS (λhg=>ic y ⟨_,_,_,_,_,_,_⟩) ?_;simp only[zU,seval,hyl2,e0,a_w ((zs.length:Int)),Dw,egy,(oo:(zs.length:Int)<(zs.length:Int)+1),(oo:zs.length<zs.length+1)];apply ifC.mk<;>intro h4
   ·have hlk:ys.length≠0/\KN (ys.getD (ys.length-1) default) (Fg th e ch k)=true:=by
     refine⟨oo,?_⟩;rw[hyl2,O0,ey,ea];exact h4
    have hadd:(JL ys (Fg th e ch k)).map BQ.A5=(ys.map BQ.A5).set zs.length (yS y (Fg th e ch k) true true).A5:=by
     rw[JL,AD hlk,hyl2,O0,ey,JS];rfl
    have haddl:(JL ys (Fg th e ch k)).length=zs.length+1:=by
     rw[JL,AD hlk,BH,hyl2]
    rw[<-ea,hadd,haddl];refine⟨.inr (SE
     (λL=>[(84,onV (L 0) (.A8 2 0 (zs.length+1))),(85,onV (L 1) (.d (.int .i64 zs.length))),(86,onV (L 2) (.A8 2 0 (zs.length+1))),(87,onV (L 3) (.d (.int .i64 zs.length))),(88,onV (L 4) (.ptr 3 2)),(89,onV (L 5) (.ptr 3 3)),(90,onV (L 6) (.d (.int .i64 (Fg th e ch k).hi))),(91,onV (L 7) (.ptr 3 6)),(92,onV (L 8) (.d (.int .i64 (Fg th e ch k).CD))),
      (93,onV (L 9) (.Al 2 zs.length 0)),(94,onV (L 10) (.Al 2 zs.length 2)),(95,onV (L 11) (.Al 2 zs.length 3)),(96,onV (L 13) (.Al 2 zs.length 0)),(97,onV (L 14) (.Al 2 zs.length 6)),
      (0,.ptr 0 0),(1,.d (.int .i64 th)),(2,.d (.int .i64 e)),(7,.A8 2 0 (zs.length+1)),(12,.ptr 3 0),(13,.d (.int .i64 zs.length)),(17,.A8 1 0 ch.length),(18,.d (.int .i64 ch.length)),(19,.d (.int .i64 k))])
     (λL=>[.box 3 (.agg [.A8 1 0 ch.length,(a:Int),(b:Int)]),.arr 5 xs,.arr 7 ((ys.map BQ.A5).set zs.length (yS y (Fg th e ch k) (L 12) (L 15)).A5),.box 7 (.d (Fg th e ch k).A5)]) Ax ?_ ?_ ?_),?_⟩
    ·refine BA [] [0,1,2,4] rfl A6 ?_ ?_
     ·rfl
     have e3:(ys.map BQ.A5).set zs.length y.A5=ys.map BQ.A5:=by rw[<-egy,qb]
     show _=[_,_,Blk.arr 7 ((ys.map BQ.A5).set zs.length y.A5),_];rw[e3,ea];rfl
    ·rw[ea];simp only[Mx];refine⟨?_,?_,?_,?_,?_,?_,?_,?_,?_,?_,?_,?_,?_,?_,?_,?_,trivial⟩
     all_goals ((intro L hc hL hp;(try simp only[EM,Region.binds,frB] at hp);(try simp only[EU,Nat.reduceAdd] at hL);simp only[zU,seval,hL,hp,Ef,Er,D3,ZY,iz,xf,xg,FG,BH,hyl3,hyl2,gh _ _ _ hlt3,List.set_set,(oo:(zs.length:Int)<(zs.length:Int)+1),(oo:zs.length<zs.length+1)]);refine BA [] [0,1,2,3] rfl A6 ?_ ?_)
     all_goals first|rfl|(simp only[zU,seval,FG,rnU,Ef,Er];try rfl)
     all_goals skip
    ·simp only[zU,seval,Ef];refine BA [] [0,1,2] rfl A6 ?_ rfl;exact WU
    rw[ea]
    (try simp only[zU,seval,List.set_set,gh _ _ _ hlt3])
    refine BA [] [0,1,2] rfl A6 ?_ ?_
    ·exact WU
    rfl
   have hlk:¬(ys.length≠0/\KN (ys.getD (ys.length-1) default) (Fg th e ch k)=true):=by
    rw[hyl2,O0,ey,ea,h4];exact λhq=>by cases hq.2
   rw[<-ea,JL,A7 hlk,ea]
   (try simp only[zU,seval,hyl2,HQ])
   refine Ag ?_;refine BA [] [0,1,6] rfl A6 ?_ ?_
   ·simp only[zU,seval,a_w ((k:Int)+1),hyl2]
    try rfl
   rw[CA,show(ys.map BQ.A5).take (zs.length+1)=ys.map BQ.A5 from Bi oo];rfl
 have:k=ch.length:=oo;subst this;simp only[zU,seval,(oo:¬(ch.length:Int)<ch.length)];refine⟨_,_,(Xf rfl).trans (Dh [] [0,1] rfl A6 (show BJ _ _ _=AV.d _ from rfl) rfl),?_,rfl⟩;simp only[zU,seval,HQ]

structure J0(σ:Sto)(T:Nat)(tr:Int->Option Ck)(f:Aw->Option AV)(tb cb:Int->Nat):Prop where
 Ad:A1 σ T=.map (some .i64) f
 look:∀k,f (.i k)=(tr k).map λ_=>.ptr (tb k) 0
 FP:∀k t,tr k=some t->TrA σ (tb k) (cb k) t
 inj:∀k k',(tr k).isSome=true->(tr k').isSome=true->tb k=tb k'->k=k'
 Dk:∀k k',(tr k).isSome=true->(tr k').isSome=true->cb k=cb k'->k=k'
def TrA.lt{S:Sto}{p c:Nat}{t:Ck}(h:TrA S p c t):p<S.length/\c<S.length:=by
 obtain⟨xs,q1,_⟩:=h.ar;exact⟨AG h.bx rfl,AG q1 rfl⟩
def TrA.ne{S:Sto}{p c p' c':Nat}{t t':Ck}(h:TrA S p c t)(h':TrA S p' c' t'):p≠c':=by
 obtain⟨xs,q1,_⟩:=h'.ar;exact AX h.bx q1 A6
def TrA.SU{S:Sto}{p c T:Nat}{f:Aw->Option AV}{t:Ck}(h:TrA S p c t)(hT:A1 S T=.map (some .i64) f):p≠T/\c≠T:=by
 obtain⟨xs,q1,_⟩:=h.ar;exact⟨AX h.bx hT A6,AX q1 hT A6⟩
section
variable {σ s:Sto} {T:Nat} {tr:Int->Option Ck} {f:Aw->Option AV} {tb cb:Int->Nat}
def J0.Ev(h:J0 σ T tr f tb cb){k:Int}{t:Ck}(hk:tr k=some t){t':Ck}{c':Nat}(h1:TrA s (tb k) c' t')(h2:Fr σ s [tb k,cb k])(h3:c'=cb k\/σ.length<=c'):J0 s T (Ae tr k (some t')) f tb (Ae cb k c'):=by
 have ha:=h.FP k t hk;have hks:(tr k).isSome=true:=by rw[hk];rfl
 have hn:=ha.SU h.Ad;have sm:∀k1,(Ae tr k (some t') k1).isSome=true->(tr k1).isSome=true:=λk1 h1=>by
  exact WQ
 have lt:∀k1,(tr k1).isSome=true->cb k1<σ.length:=λk1 h1=>by
  obtain⟨t1,ht1⟩:=Fa.1 h1;exact(h.FP k1 t1 ht1).lt.2
 refine⟨h2.at h.Ad rfl (by simp[hn.1.symm,hn.2.symm]),λk'=>?_,λk' t1 h4=>?_,λk1 k2 q1 q2=>h.inj k1 k2 (sm _ q1) (sm _ q2),λk1 k2 q1 q2 q3=>?_⟩
 ·rw[h.look];unfold Ae;split
  ·rename_i e;rw[e,hk];rfl
  rfl
 ·by_cases e:k'=k
  ·subst e;rw[CQ] at h4 ⊢;cases h4;exact h1
  rw[CP _ _ e] at h4 ⊢;have hb:=h.FP k' t1 h4;have hk's:(tr k').isSome=true:=by rw[h4];rfl
  exact hb.ext h2 (by simp only[Bw,En,E6,FW];exact⟨λe2=>e (h.inj _ _ hk's hks e2),hb.ne ha⟩) (by simp only[Bw,En,E6,FW];exact⟨(ha.ne hb).symm,λe2=>e (h.Dk _ _ hk's hks e2)⟩)
 by_cases e1:k1=k<;>by_cases e2:k2=k
 ·rw[e1,e2]
 ·exfalso;rw[e1,CQ,CP _ _ e2] at q3;rcases h3 with h3|h3
  ·exact e2 (h.Dk _ _ (sm _ q2) hks (by rw[<-q3,h3]))
  have:=lt k2 (sm _ q2);omega
 ·exfalso;rw[e2,CQ,CP _ _ e1] at q3;rcases h3 with h3|h3
  ·exact e1 (h.Dk _ _ (sm _ q1) hks (by rw[q3,h3]))
  have:=lt k1 (sm _ q1);omega
 rw[CP _ _ e1,CP _ _ e2] at q3;exact h.Dk _ _ (sm _ q1) (sm _ q2) q3
def J0.ext(h:J0 σ T tr f tb cb)(h2:Fr σ s []):J0 s T tr f tb cb:=
 ⟨h2.at h.Ad rfl A6,h.look,λk t hk=>(h.FP k t hk).ext h2 A6 A6,h.inj,h.Dk⟩
def J0.ext7(h:J0 σ T tr f tb cb){i:Nat}{xs:List D}(hi:A1 σ i=.arr 7 xs)(h2:Fr σ s [i]):J0 s T tr f tb cb:=
 ⟨h2.at h.Ad rfl (by simp only[CG];exact AX h.Ad hi A6),h.look,λk t hk=>by
  have ha:=h.FP k t hk
  obtain⟨ys,q1,_⟩:=ha.ar
  exact ha.ext h2 (by simp only[CG];exact AX ha.bx hi A6) (by simp only[CG];exact AX q1 hi A6),h.inj,h.Dk⟩
def J0.new(h:J0 σ T tr f tb cb)(k:Int){p c:Nat}{t:Ck}(h1:TrA s p c t)(h2:Fr σ s [])(hp:σ.length<=p)(hc:σ.length<=c):
  J0 (s.set T (.map (some .i64) (BO f (.i k) (.ptr p 0)))) T (Ae tr k (some t)) (BO f (.i k) (.ptr p 0)) (Ae tb k p) (Ae cb k c):=by
 have he:=h.ext h2;have hT:=he.Ad;have fr:Fr s (s.set T (.map (some .i64) (BO f (.i k) (.ptr p 0)))) [T]:=(Fr.refl s [T]).set _ A6;have lt:∀k1,(tr k1).isSome=true->tb k1<σ.length/\cb k1<σ.length:=λk1 h1=>by
  obtain⟨t1,ht1⟩:=Fa.1 h1;exact(h.FP k1 t1 ht1).lt
 have sm:∀k1,k1≠k->(Ae tr k (some t) k1).isSome=true->(tr k1).isSome=true:=λk1 e h1=>ak;refine⟨BX (AG hT rfl),λk'=>?_,λk' t1 h4=>?_,λk1 k2 q1 q2 q3=>?_,λk1 k2 q1 q2 q3=>?_⟩
 ·rw[MA];by_cases e:k'=k
  ·subst e;rw[AD rfl,CQ,CQ];rfl
  rw[A7 J5,CP _ _ e,CP _ _ e];exact h.look k'
 ·by_cases e:k'=k
  ·subst e;rw[CQ] at h4;cases h4;rw[CQ,CQ];exact h1.ext fr (by simp[(h1.SU hT).1]) (by simp[(h1.SU hT).2])
  rw[CP _ _ e] at h4;rw[CP _ _ e,CP _ _ e];have:=he.FP k' t1 h4;exact this.ext fr (by simp[(this.SU hT).1]) (by simp[(this.SU hT).2])
 ·by_cases e1:k1=k<;>by_cases e2:k2=k
  ·rw[e1,e2]
  ·rw[e1,CQ,CP _ _ e2] at q3;have:=(lt k2 (sm _ e2 q2)).1;omega
  ·rw[e2,CQ,CP _ _ e1] at q3;have:=(lt k1 (sm _ e1 q1)).1;omega
  rw[CP _ _ e1,CP _ _ e2] at q3;exact h.inj _ _ (sm _ e1 q1) (sm _ e2 q2) q3
 by_cases e1:k1=k<;>by_cases e2:k2=k
 ·rw[e1,e2]
 ·rw[e1,CQ,CP _ _ e2] at q3;have:=(lt k2 (sm _ e2 q2)).2;omega
 ·rw[e2,CQ,CP _ _ e1] at q3;have:=(lt k1 (sm _ e1 q1)).2;omega
 rw[CP _ _ e1,CP _ _ e2] at q3;exact h.Dk _ _ (sm _ e1 q1) (sm _ e2 q2) q3
end
def SAt(S:Sto)(T:Nat)(tr:Int->Option Ck):Prop:=∃f tb cb,J0 S T tr f tb cb
def t0S:Ck:=⟨[⟨0,5,-1,-1,-1⟩],0,0⟩
def tr0(ids:List Int):Int->Option Ck:=λk=>if k∈ids then some t0S else none
def evR(tr:Int->Option Ck)(x:AN):Int->Option Ck:=match tr x.A0 with|some t=>Ae tr x.A0 (some (evS t x))|none=>tr
def wkR(tr:Int->Option Ck)(x:AN):Int->Option Ck:=if x.ev.kind=10 then(match tr x.ev.n with|some t=>Ae tr x.ev.n (some (wkS t (Am x.lo) x.A0))|none=>tr) else tr
def trF(ids:List Int)(o:List AN):Int->Option Ck:=o.foldl (λtr x=>wkR (evR tr x) x) (tr0 ids)
def chF(tr:Int->Option Ck)(k:Int):List ChT:=((tr k).getD t0S).ch
def P3(ids:List Int)(o:List AN)(e:Int):List BQ:=ids.flatMap λid=>FR id (max 0 (min (Gk e o) 1000000000000)) (chF (trF ids o) id) (chF (trF ids o) id).length
def Nk(tr:Int->Option Ck)(n:Nat):Prop:=∀k t,tr k=some t->0<t.ch.length/\t.ch.length<=n
def ZS{tr:Int->Option Ck}{n:Nat}(h:Nk tr n)(x:AN):Nk (evR tr x) (n+2):=by
 unfold evR;cases hk:tr x.A0 with
 | none=>exact λk t hk=>⟨(h k t hk).1,by have:=(h k t hk).2;omega⟩
 | some t=>
  intro k t1 h1;simp only at h1;by_cases e:k=x.A0
  ·subst e;rw[CQ] at h1;cases h1;have h2:=h _ _ hk;have h3:=fP t.last t.ch;unfold evS;simp only;split<;>split<;>(try split)<;>first|omega|(simp;done)|(simp;omega)
  rw[CP _ _ e] at h1;exact⟨(h k t1 h1).1,by have:=(h k t1 h1).2;omega⟩
def Q9e{tr:Int->Option Ck}{n:Nat}(h:Nk tr n)(x:AN):Nk (wkR (evR tr x) x) (n+3):=by
 have h1:=ZS h x;unfold wkR;split
 ·cases hk:evR tr x x.ev.n with
  | none=>exact λk t hk=>⟨(h1 k t hk).1,by have:=(h1 k t hk).2;omega⟩
  | some t=>
   intro k t1 h2;simp only at h2;by_cases e:k=x.ev.n
   ·subst e;rw[CQ] at h2;cases h2;have h2:=h1 _ _ hk;unfold wkS;split
    ·simp;omega
    exact⟨h2.1,oo⟩
   rw[CP _ _ e] at h2;exact⟨(h1 k t1 h2).1,by have:=(h1 k t1 h2).2;omega⟩
 exact λk t hk=>⟨(h1 k t hk).1,by have:=(h1 k t hk).2;omega⟩
def fy(ids:List Int)(o:List AN)(k:Nat)(h:k<o.length):trF ids (o.take (k+1))=wkR (evR (trF ids (o.take k)) (o.getD k default)) (o.getD k default):=by rw[CY o k h,trF,GD];rfl
def VC(ids:List Int)(o:List AN):∀k,k<=o.length->Nk (trF ids (o.take k)) (1+3*k)
 | 0,_=>λk t h=>by
  simp only[VW,trF,Nx,tr0] at h;split at h
  ·cases h;exact⟨Nat.one_pos,AR _⟩
  cases h
 | k+1,h=>by rw[fy ids o k h];exact Q9e (VC ids o k oo) _
def Iu(ids:List Int)(o:List AN)(e:Int)(k:Nat):List BQ:=(ids.take k).flatMap λid=>FR id (max 0 (min (Gk e o) 1000000000000)) (chF (trF ids o) id) (chF (trF ids o) id).length
def zO(ids:List Int)(o:List AN)(e:Int)(k:Nat)(h:k<ids.length):Iu ids o e (k+1)=Iu ids o e k++FR (ids.getD k default) (max 0 (min (Gk e o) 1000000000000)) (chF (trF ids o) (ids.getD k default)) (chF (trF ids o) (ids.getD k default)).length:=by
 rw[Iu,CY ids k h,Kr,lI];rfl
def ub(ids:List Int)(o:List AN)(e:Int)(k:Nat):(Iu ids o e k).length<=(P3 ids o e).length:=by
 have e1:P3 ids o e=Iu ids o e k++(ids.drop k).flatMap λid=>FR id (max 0 (min (Gk e o) 1000000000000)) (chF (trF ids o) id) (chF (trF ids o) id).length:=by
  rw[Iu,<-Kr,Lf];rfl
 rw[e1,Bb];omega
def gA(ids:List Int){id:Int}(h:id∈ids):∀o:List AN,(trF ids o id).isSome=true:=by
 have up:∀(tr:Int->Option Ck) (k:Int) (t:Ck),(tr id).isSome=true->(Ae tr k (some t) id).isSome=true:=λtr k t h=>by
  unfold Ae;split
  ·rfl
  exact h
 have st:∀(tr:Int->Option Ck) (x:AN),(tr id).isSome=true->(wkR (evR tr x) x id).isSome=true:=λtr x h1=>by
  have h2:(evR tr x id).isSome=true:=by
   unfold evR;cases tr x.A0 with
   | none=>exact h1
   | some t=>exact up _ _ _ h1
  unfold wkR;split
  ·cases evR tr x x.ev.n with
   | none=>exact h2
   | some t=>exact up _ _ _ h2
  exact h2
 have gen:∀(o:List AN) (tr:Int->Option Ck),(tr id).isSome=true->((o.foldl (λtr x=>wkR (evR tr x) x) tr) id).isSome=true:=by
  intro o
  induction o with
  | nil=>exact λ_ h=>h
  | cons x o ih=>exact λtr h=>ih _ (st tr x h)
 exact λo=>gen o _ (by unfold tr0;rw[AD h];rfl)
def Q8v:J0 [.map (some .i64) λ_=>none] 0 (tr0 []) (λ_=>none) (λ_=>0) (λ_=>0):=
 ⟨rfl,λk=>rfl,λk t h=>D8,λk k' h=>D8,λk k' h=>D8⟩
def yi(A9:List An)(o:List AN)(hth:A9.length<1000000)(ho:o.length<200000)(hs:∀x∈o,0<=x.AB/\x.AB<2000000000000000)(e:Int)(hlen:(P3 (D4 A9) o e).length<1000000):
  AT prog Gl 16 [.d (.sl (A9.map An.A5)),.d (.sl (o.map AN.A5)),(e:Int)] (.d (.sl ((P3 (D4 A9) o e).map BQ.A5))):=by
 refine AT.Z2 ?_;obtain⟨ids,hids⟩:∃ids,ids=D4 A9:=⟨_,rfl⟩;refine acS func16 ntmps16 results16 ?_;simp only[zU,seval,B6];refine Ak (dB A9 hth) ?_;have hil:ids.length<1000000:=by rw[hids];have:=S8 A9 A9.length;rw[BL] at this;omega
 rw[<-hids] at hlen ⊢;simp only[zU,seval];refine CL (τ:=Nat×Sto) (λy=>[(24,(y.1:Int)),(23,(ids.length:Int)),(22,.d (.sl (ids.map (D.int .i64)))),(8,.d (.sl (ids.map (D.int .i64)))),(7,.AF 0),(6,.AA),(1,.d (.sl (o.map AN.A5))),(2,(e:Int))]) (λy=>y.2)
  (λy=>y.1<=ids.length/\SAt y.2 0 (tr0 (ids.take y.1))) (λy=>ids.length-y.1) (0,[.map (some .i64) λ_=>none]) ⟨Bq _,_,λ_=>0,λ_=>0,Q8v⟩ ?_ ?_
 ·exact Dd
 intro y hi;obtain⟨k,s⟩:=y;obtain⟨hk,f,tb,cb,hI⟩:=hi;simp only at hk hI;have hT:=hI.Ad;have lT:=AG hT rfl;by_cases h:k<ids.length
 ·simp only[zU,seval,hT,lT,(oo:(k:Int)<ids.length),h,Af _ _ _ (oo:k<ids.length),a_w ((k:Int)+1)];have hb:A1 (s++[Blk.box 3 (.agg [.AA,(0:Int),(0:Int)])]) s.length=_:=Cd;refine Be ((Qe6 _ s.length 0 0 hb ⟨0,5,-1,-1,-1⟩).mono λr s2 hr=>?_);obtain⟨rfl,c,h1,h2,h3⟩:=hr;have hf:Fr s s2 []:=⟨by have:=h2.1;simp at this;omega,λj hj _=>by
   have hlt:=AG rfl hj
   rw[h2.2 j (by rw[BB hlt];exact hj) Ap,BB hlt]⟩
  have hn:=hI.new (ids.getD k default) h1 hf (AR _) Vy;have hT2:=(hI.ext hf).Ad;have lT2:=AG hT2 rfl;simp only[zU,seval,hT2,lT2];refine⟨(k+1,s2.set 0 (.map (some .i64) (BO f (.i (ids.getD k default)) (.ptr s.length 0)))),⟨h,?_⟩,AQ,AU ?_⟩;rotate_left
  ·exact Mk
  simp only;have e2:Ae (tr0 (ids.take k)) (ids.getD k default) (some ⟨[⟨0,5,-1,-1,-1⟩],0,0⟩)=tr0 (ids.take (k+1)):=by
   funext k';unfold Ae tr0;rw[CY ids k h];simp only[CH,CG];by_cases e:k'=ids.getD k default
   ·rw[AD e,AD (.inr e)];rfl
   rw[A7 e];simp only[e,E6]
  rw[<-e2];exact⟨_,_,_,hn⟩
 have hk:k=ids.length:=oo;subst hk;rw[BL] at hI;simp only[zU,seval,(oo:¬(ids.length:Int)<ids.length)];refine CL (τ:=Nat×Sto) (λy=>[(38,(y.1:Int)),(37,(o.length:Int)),(36,.d (.sl (o.map AN.A5))),(8,.d (.sl (ids.map (D.int .i64)))),(7,.AF 0),(6,.AA),(2,(Gk e (o.take y.1):Int))]) (λy=>y.2)
  (λy=>y.1<=o.length/\SAt y.2 0 (trF ids (o.take y.1))) (λy=>o.length-y.1) (0,s) ⟨Bq _,f,tb,cb,hI⟩ ?_ ?_
 ·exact Dd
 intro y hi;obtain⟨k,s⟩:=y;obtain⟨hk,f,tb,cb,hI⟩:=hi;simp only at hk hI;clear hT lT;have hT:=hI.Ad;have lT:=AG hT rfl;by_cases h:k<o.length
 ·have hnk:=VC ids o k oo;have hx:=hs _ (Ba h);have hs1:=fy ids o k h;have hs2:=ga e o k h;generalize trF ids (o.take k)=tr at *;generalize hxx:o.getD k default=x at *;simp only[zU,seval,hT,lT,(oo:(k:Int)<o.length),h,Af _ _ _ (oo:k<o.length),a_w ((k:Int)+1)];refine Ak (by rw[hxx];exact Wl x) ?_;rw[hxx];have hf0:=Fr.app s [Blk.box 10 (.d x.A5)];have hI:=hI.ext hf0;have hT:=hI.Ad;have hs0:A1 (s++[Blk.box 10 (.d x.A5)]) s.length=_:=Cd;have l0:=AG hs0 rfl;generalize s++[Blk.box 10 (.d x.A5)]=s1 at *;have lT:=AG hT rfl;have n0:s.length≠0:=AX hs0 hT A6;have hlk:=hI.look x.A0;cases ht:tr x.A0 with
  | none=>
   rw[ht] at hlk;have hE:evR tr x=tr:=by rw[evR,ht]
   have hI1:=hI;have hnk1:=ZS hnk x;rw[hE] at hnk1;have hlk2:=hI1.look x.ev.n;cases hn:tr x.ev.n with
   | none=>
    rw[hn] at hlk2;simp only[zU,seval,hT,lT,hs0,l0,n0,n0.symm,hlk,hlk2,show(none:Option Ck).map (λ_=>AV.ptr (tb x.A0) 0)=none from rfl,show(none:Option Ck).map (λ_=>AV.ptr (tb x.ev.n) 0)=none from rfl];exact mK
   | some t2=>
    rw[hn] at hlk2;simp only[zU,seval,hT,lT,hs0,l0,n0,n0.symm,hlk,hlk2,show(none:Option Ck).map (λ_=>AV.ptr (tb x.A0) 0)=none from rfl,show(some t2).map (λ_=>AV.ptr (tb x.ev.n) 0)=some (.ptr (tb x.ev.n) 0) from rfl];apply ifC.mk<;>intro hkk
    ·exact pL
    exact mJ
  | some t=>
   rw[ht] at hlk;simp only[zU,seval,hT,lT,hs0,l0,n0,n0.symm,hlk,show(some t).map (λ_=>AV.ptr (tb x.A0) 0)=some (.ptr (tb x.A0) 0) from rfl];have ha:=hI.FP _ _ ht;obtain⟨ys,ha2,_⟩:=ha.ar;refine Be ((vy ha (hnk _ _ ht).1 (by have:=(hnk _ _ ht).2;omega) x hx).mono λr s2 hr=>?_);obtain⟨rfl,c2,q1,q2,q3⟩:=hr;have hI1:=hI.Ev ht q1 q2 q3;have hs0:=q2.at hs0 rfl (by simp only[Bw,En,E6,FW];exact⟨AX hs0 ha.bx A6,AX hs0 ha2 A6⟩);have hT:=hI1.Ad;clear l0 lT;have l0:=AG hs0 rfl;have lT:=AG hT rfl;have hE:evR tr x=Ae tr x.A0 (some (evS t x)):=by rw[evR,ht]
   have hnk1:=ZS hnk x;rw[hE] at hnk1;have hlk2:=hI1.look x.ev.n;cases hn:Ae tr x.A0 (some (evS t x)) x.ev.n with
   | none=>
    rw[hn] at hlk2;simp only[zU,seval,hT,lT,hs0,l0,n0,n0.symm,hlk2,show(none:Option Ck).map (λ_=>AV.ptr (tb x.ev.n) 0)=none from rfl];exact mK
   | some t2=>
    rw[hn] at hlk2;simp only[zU,seval,hT,lT,hs0,l0,n0,n0.symm,hlk2,show(some t2).map (λ_=>AV.ptr (tb x.ev.n) 0)=some (.ptr (tb x.ev.n) 0) from rfl];apply ifC.mk<;>intro hkk
    ·exact pL
    exact mJ
 have hk:k=o.length:=oo;subst hk;rw[BL] at hI;simp only[zU,seval,(oo:¬(o.length:Int)<o.length)];rw[BL];obtain⟨en,hen⟩:∃en,en=max 0 (min (Gk e o) 1000000000000):=⟨_,rfl⟩;rw[<-hen];have hsn:=zO ids o e;have hle:=ub ids o e;have hfi:Iu ids o e ids.length=P3 ids o e:=by rw[Iu,BL];rfl
 rw[<-hen] at hsn;have hnk:=VC ids o o.length (AR _);rw[BL] at hnk;rw[<-hfi];refine CL (τ:=Nat×Sto×Nat) (λy=>[(82,(y.1:Int)),(81,(ids.length:Int)),(80,.d (.sl (ids.map (D.int .i64)))),(16,.A8 y.2.2 0 (Iu ids o e y.1).length),(7,.AF 0),(2,(en:Int))]) (λy=>y.2.1)
  (λy=>y.1<=ids.length/\SAt y.2.1 0 (trF ids o)/\A1 y.2.1 y.2.2=.arr 7 ((Iu ids o e y.1).map BQ.A5)) (λy=>ids.length-y.1) (0,s++[.arr 7 []],s.length) ⟨Bq _,⟨_,_,_,hI.ext (Fr.app _ _)⟩,Cd⟩ ?_ ?_
 ·exact(Eb 16 7 rfl).trans (AU rfl)
 intro y hi;obtain⟨k,s3,oid⟩:=y;obtain⟨hk,⟨f,tb,cb,hI⟩,ho7⟩:=hi;simp only at hk hI ho7;clear hT lT;have hT:=hI.Ad;have lT:=AG hT rfl;have lo:=AG ho7 rfl;by_cases h:k<ids.length
 ·have hidm:ids.getD k default∈ids:=Ba h;obtain⟨t,ht⟩:=Fa.1 (gA ids hidm o);have hlk:=hI.look (ids.getD k default);rw[ht] at hlk;have hsnk:=hsn k h;have hlk1:=hle (k+1);rw[hsnk,Bb] at hlk1;have hch:chF (trF ids o) (ids.getD k default)=t.ch:=by rw[chF,ht];rfl
  rw[hch] at hlk1 hsnk;have ha:=hI.FP _ _ ht;have hbx:=ha.bx;obtain⟨xs,hc,hx⟩:=ha.ar;have hnk2:=hnk _ _ ht;have lp:=ha.lt;have hpc:tb (ids.getD k default)≠cb (ids.getD k default):=AX hbx hc A6;generalize hidd:ids.getD k default=id at *;generalize Iu ids o e k=out at *;simp only[zU,seval,hT,lT,(oo:(k:Int)<ids.length),h,Af _ _ _ (oo:k<ids.length),a_w ((k:Int)+1),hidd,hlk,show(some t).map (λ_=>AV.ptr (tb id) 0)=some (.ptr (tb id) 0) from rfl];have i0:Bn [tb id,cb id] (tb id)=some 0:=by simp[Bn,PZ]
  have i1:Bn [tb id,cb id] (cb id)=some 1:=by simp[Bn,PZ,hpc]
  refine Qft (σ:=s3) [tb id,cb id] [.box 3 (.agg [.A8 1 0 t.ch.length,(t.next:Int),(t.last:Int)]),.arr 5 xs] (by simp[hpc]) (by simp[lp]) (by simp only[C1,Ca,BJ,DJ,i0,i1,hbx,hc,Ci,E9];rfl) (az':=[.ptr 0 0,.d (.int .i64 id),.d (.int .i64 en)]) (by simp only[BJ,DJ,i0,Ci,E9,FY]) (λj i hj=>by
   match j,hj with
   | 0,hj=>cases hj;rw[hbx];rfl
   | 1,hj=>cases hj;rw[hc];rfl) (wq id en t.next t.last t.ch xs hx (by have:=hnk2.2;omega)) ?_
  simp only[zU,seval,ho7,lo,a_w ((k:Int)+1)];refine Ag ?_;rw[show List.take out.length (out.map BQ.A5)=out.map BQ.A5 from Bi A6];refine⟨(k+1,_,s3.length),⟨h,?_,?_⟩,AQ,AU ?_⟩;rotate_left 2
  ·rw[hsnk,Bb];rfl
  ·refine⟨f,tb,cb,hI.ext7 ho7 ⟨A6,λj hj hn=>?_⟩⟩;rw[BB ah,As (λe=>hn (by rw[e];exact List.mem_singleton_self _))]
  simp only;rw[CE,BH,A7 (R5 _),FA,hsnk,CA];rfl
 have hk:k=ids.length:=oo;subst hk;have hol:((Iu ids o e ids.length).map BQ.A5).length=(Iu ids o e ids.length).length:=BW ..;simp only[zU,seval,(oo:¬(ids.length:Int)<ids.length)];refine⟨_,_,Hi (x:=D.sl ((Iu ids o e ids.length).map BQ.A5)) ?_ ?_,rfl,rfl⟩
 ·simp only[zU,seval,ho7,hol]
 simp only[zU,seval,ho7,hol];rw[Bi (Nv hol)]

def flS(g:(Int->Option AN)×List Cb)(x:AN):(Int->Option AN)×List Cb:=
 if x.ev.kind=6 then(Ae g.1 x.ev.n (some x),g.2)
 else if x.ev.kind=7 then(match g.1 x.ev.n with|some s=>(g.1,g.2++[⟨x.ev.n,s.A0,s.AB,x.A0,x.AB,Am s.lo,Am x.lo⟩])|none=>g)
 else g
def flF(o:List AN):(Int->Option AN)×List Cb:=o.foldl flS (λ_=>none,[])
def Wu(o:List AN)(k:Nat)(h:k<o.length):flF (o.take (k+1))=flS (flF (o.take k)) (o.getD k default):=by rw[CY o k h,flF,GD];rfl
def u7(g:(Int->Option AN)×List Cb)(x:AN):(flS g x).2.length<=g.2.length+1:=by
 unfold flS;split
 ·simp
 split
 ·split<;>simp
 simp
def YZ(o:List AN):∀k,k<=o.length->(flF (o.take k)).2.length<=k
 | 0,_=>AR _
 | k+1,h=>by
  rw[Wu o k h];have:=YZ o k oo;have:=u7 (flF (o.take k)) (o.getD k default);omega
def w9(o:List AN)(ho:o.length<900000):AT prog Gl 17 [.d (.sl (o.map AN.A5))] (.d (.sl ((flF o).2.map Cb.A5))):=by
 refine CN ?_;refine acS func17 ntmps17 results17 ?_;refine KA ?_;refine CL (τ:=Nat×Sto×Nat) (λy=>[(13,(y.1:Int)),(12,(o.length:Int)),(11,.d (.sl (o.map AN.A5))),(4,.A8 y.2.2 0 (flF (o.take y.1)).2.length),(3,.AF 0)]) (λy=>y.2.1)
  (λy=>y.1<=o.length/\(∃f,A1 y.2.1 0=.map (some .i64) f/\∀n,f (.i n)=((flF (o.take y.1)).1 n).map λt=>.d t.A5)/\A1 y.2.1 y.2.2=.arr 7 ((flF (o.take y.1)).2.map Cb.A5)) (λy=>o.length-y.1)
  (0,[.map (some .i64) λ_=>none,.arr 7 []],1) ⟨Bq _,⟨_,rfl,λn=>rfl⟩,rfl⟩ ?_ ?_
 ·exact(Eb 4 7 rfl).trans (AU rfl)
 intro y hi;obtain⟨k,s,oid⟩:=y;obtain⟨hk,⟨f,hT,hf⟩,hO⟩:=hi;simp only at hk hT hf hO;have lT:=AG hT rfl;have lO:=AG hO rfl;have n0:oid≠0:=AX hO hT A6;have hlen:=YZ o k hk;by_cases h:k<o.length
 ·have hst:=Wu o k h;generalize flF (o.take k)=g at *;generalize hxx:o.getD k default=x at *;simp only[zU,seval,(oo:(k:Int)<o.length),h,Af _ _ _ (oo:k<o.length),hxx,a_w ((k:Int)+1),hT,hO,lT,lO,n0,n0.symm];apply ifC.mk<;>intro k6
  ·have k6:x.ev.kind=6:=by simpa using k6
   have hst:flF (o.take (k+1))=(Ae g.1 x.ev.n (some x),g.2):=by rw[hst,flS,AD k6]
   refine⟨(k+1,_,oid),⟨h,⟨BO f (.i x.ev.n) (.d x.A5),?_,λn=>?_⟩,?_⟩,AQ,AU ?_⟩;rotate_left 3
   ·rw[hst];rfl
   ·simp only[zU,seval,hT,lT]
   ·rw[hst,MA];unfold Ae;simp only;by_cases e:n=x.ev.n
    ·rw[AD Li,AD e];rfl
    rw[A7 J5,A7 e];exact hf n
   rw[hst];simp only[zU,seval,hO,lO,lT,n0,n0.symm]
  have k6:¬x.ev.kind=6:=by simpa using k6
  rw[flS,A7 k6] at hst;apply ifC.mk<;>intro k7
  ·have k7:x.ev.kind=7:=by simpa using k7
   rw[AD k7] at hst;have hfx:=hf x.ev.n;cases hs:g.1 x.ev.n with
   | none=>
    rw[hs] at hfx hst;simp only[zU,seval,hfx,show(none:Option AN).map (λt=>AV.d t.A5)=none from rfl];exact pC
   | some t=>
    rw[hs] at hfx hst;simp only[zU,seval,hfx,show(some t).map (λt=>AV.d t.A5)=some (AV.d t.A5) from rfl];refine⟨.inl Ax,?_⟩;refine Ak (je t) ?_;simp only[zU,seval,(oo:s.length+1≠s.length)];refine Ak (je x) ?_;simp only[zU,seval,hT,hO,lT,lO,n0,n0.symm,a_w ((k:Int)+1)];refine Ag ?_;refine⟨(k+1,_,s.length+3),⟨h,⟨f,?_,λn=>?_⟩,?_⟩,AQ,AU ?_⟩;rotate_left 3
    ·rw[hst];simp only[Bb];rfl
    ·simp only[zU,seval,hT,lT,n0,n0.symm]
    ·rw[hst];exact hf n
    rw[hst];simp only;rw[CE,BH,A7 oo,EB,show List.take g.2.length (g.2.map Cb.A5)=g.2.map Cb.A5 from Bi A6,CA];rfl
  have k7:¬x.ev.kind=7:=by simpa using k7
  rw[A7 k7] at hst;exact pC
 have hk:k=o.length:=oo;subst hk;rw[BL] at hO ⊢;simp only[zU,seval,(oo:¬(o.length:Int)<o.length)];have hol:((flF o).2.map Cb.A5).length=(flF o).2.length:=BW ..;refine⟨_,_,Hi (x:=D.sl ((flF o).2.map Cb.A5)) ?_ ?_,rfl,rfl⟩
 ·simp only[zU,seval,hO,hol]
 simp only[zU,seval,hO,hol];exact bI
def L5(a b:Int):Int×Int:=if a<b then(a,b) else if a=1000000000000 then(a-1,a) else(a,a+1)
def zE(a b:Int)(h:0<=a/\a<=1000000000000):AT prog Gl 58 [(a:Int),(b:Int)] (.d (.agg [.int .i64 (L5 a b).1,.int .i64 (L5 a b).2])):=by
 refine FB ?_;refine acS func58 ntmps58 results58 ?_;refine KA ?_;rw[L5];apply ifC.mk<;>intro h1
 ·refine Lm ?_;exact D0
 rw[A7 Cz];apply ifC.mk<;>intro h2
 ·rw[AD DN]
  (try simp only[zU,seval,a_w (a-1)])
  exact D0
 rw[A7 DN]
 (try simp only[zU,seval,a_w (a+1)])
 exact D0
def bfS(g:Int->Option (Int×Int))(n:Int):Int×Int:=(g n).getD (0,0)
def loS(g:(Int->Option (Int×Int))×List ES)(x:AN):(Int->Option (Int×Int))×List ES:=
 (Ae g.1 x.A0 (some (x.AB+1,Am x.lo)),if(bfS g.1 x.A0).1<x.AB then g.2++[⟨x.A0,(L5 (bfS g.1 x.A0).2 (Am x.lo)).1,(L5 (bfS g.1 x.A0).2 (Am x.lo)).2,x.AB-(bfS g.1 x.A0).1⟩] else g.2)
def loF(o:List AN):(Int->Option (Int×Int))×List ES:=o.foldl loS (λ_=>none,[])
def Wo(o:List AN)(k:Nat)(h:k<o.length):loF (o.take (k+1))=loS (loF (o.take k)) (o.getD k default):=by rw[CY o k h,loF,GD];rfl
def pP(g:(Int->Option (Int×Int))×List ES)(n:Nat):Prop:=g.2.length<=n/\∀k,0<=(bfS g.1 k).1/\(bfS g.1 k).1<=2000000000000000/\0<=(bfS g.1 k).2/\(bfS g.1 k).2<=1000000000000
def V0(o:List AN)(hs:∀x∈o,0<=x.AB/\x.AB<2000000000000000):∀k,k<=o.length->pP (loF (o.take k)) k
 | 0,_=>⟨AR _,λk=>⟨EP 0,by show(0:Int)<=_;omega,EP 0,by show(0:Int)<=_;omega⟩⟩
 | k+1,h=>by
  rw[Wo o k h];have ih:=V0 o hs k oo;have hx:=hs _ (Ba h);refine⟨?_,λj=>?_⟩
  ·unfold loS;simp only;have:=ih.1;split
   ·simp;omega
   omega
  unfold loS Ae bfS;simp only;split
  ·simp only[EA];exact⟨oo,oo,Iq _,MB _⟩
  exact ih.2 j
def vp(o:List AN)(ho:o.length<900000)(hs:∀x∈o,0<=x.AB/\x.AB<2000000000000000):AT prog Gl 21 [.d (.sl (o.map AN.A5))] (.d (.sl ((loF o).2.map ES.A5))):=by
 refine CN ?_;refine acS func21 ntmps21 results21 ?_;refine KA ?_;refine CL (τ:=Nat×Sto×Nat) (λy=>[(13,(y.1:Int)),(12,(o.length:Int)),(11,.d (.sl (o.map AN.A5))),(4,.A8 y.2.2 0 (loF (o.take y.1)).2.length),(3,.AF 0)]) (λy=>y.2.1)
  (λy=>y.1<=o.length/\(∃f,A1 y.2.1 0=.map (some .i64) f/\∀n,f (.i n)=((loF (o.take y.1)).1 n).map λt=>.d (.agg [.int .i64 t.1,.int .i64 t.2]))/\A1 y.2.1 y.2.2=.arr 4 ((loF (o.take y.1)).2.map ES.A5)) (λy=>o.length-y.1)
  (0,[.map (some .i64) λ_=>none,.arr 4 []],1) ⟨Bq _,⟨_,rfl,λn=>rfl⟩,rfl⟩ ?_ ?_
 ·exact(Eb 4 4 rfl).trans (AU rfl)
 intro y hi;obtain⟨k,s,oid⟩:=y;obtain⟨hk,⟨f,hT,hf⟩,hO⟩:=hi;simp only at hk hT hf hO;have lT:=AG hT rfl;have lO:=AG hO rfl;have n0:oid≠0:=AX hO hT A6;have hok:=V0 o hs k hk;by_cases h:k<o.length
 ·have hst:=Wo o k h;have hx:=hs _ (Ba h);generalize loF (o.take k)=g at *;generalize hxx:o.getD k default=x at *;have hfx:(f (.i x.A0)).getD (AV.d (.agg [.int .i64 0,.int .i64 0]))=.d (.agg [.int .i64 (bfS g.1 x.A0).1,.int .i64 (bfS g.1 x.A0).2]):=by
   rw[hf];unfold bfS;cases g.1 x.A0<;>rfl
  have hb:=hok.2 x.A0;have hb1:=hok.1;simp only[zU,seval,(oo:(k:Int)<o.length),h,Af _ _ _ (oo:k<o.length),hxx,a_w ((k:Int)+1),hT,hO,lT,lO,n0,n0.symm,hfx];refine⟨.inl Ax,?_⟩;refine Ak (jc x) ?_;simp only[zU,seval,hT,hO,lT,lO,n0,n0.symm,a_w ((k:Int)+1),a_w (x.AB-(bfS g.1 x.A0).1),a_w (x.AB+1)];have hmap:∀n,BO f (.i x.A0) (.d (.agg [.int .i64 (x.AB+1),.int .i64 (Am x.lo)])) (.i n)=(Ae g.1 x.A0 (some (x.AB+1,Am x.lo)) n).map λt=>AV.d (.agg [.int .i64 t.1,.int .i64 t.2]):=λn=>by
   rw[MA];unfold Ae;by_cases e:n=x.A0
   ·rw[AD Li,AD e];rfl
   rw[A7 J5,A7 e];exact hf n
  unfold loS at hst;apply ifC.mk<;>intro h3
  ·rw[AD Gv] at hst;refine⟨.inl Ax,?_⟩;refine Ak (zE (bfS g.1 x.A0).2 (Am x.lo) ⟨hb.2.2.1,hb.2.2.2⟩) ?_;simp only[zU,seval,hT,hO,lT,lO,n0,n0.symm,a_w ((k:Int)+1),a_w (x.AB+1)];refine Ag ?_;refine⟨(k+1,_,s.length+3),⟨h,⟨BO f (.i x.A0) (.d (.agg [.int .i64 (x.AB+1),.int .i64 (Am x.lo)])),?_,λn=>?_⟩,?_⟩,AQ,AU ?_⟩;rotate_left 3
   ·rw[hst];simp only[Bb];rfl
   ·simp only[zU,seval,hT,lT,n0,n0.symm]
   ·rw[hst];exact hmap n
   rw[hst];simp only;rw[CE,BH,BH,A7 oo,EB,show List.take g.2.length (g.2.map ES.A5)=g.2.map ES.A5 from Bi A6,CA];rfl
  rw[A7 Gv] at hst;refine⟨(k+1,_,oid),⟨h,⟨BO f (.i x.A0) (.d (.agg [.int .i64 (x.AB+1),.int .i64 (Am x.lo)])),?_,λn=>?_⟩,?_⟩,AQ,AU ?_⟩;rotate_left 3
  ·rw[hst];rfl
  ·simp only[zU,seval,hT,lT,n0,n0.symm]
  ·rw[hst];exact hmap n
  rw[hst];simp only[zU,seval,hO,lO,lT,n0,n0.symm]
 have hk:k=o.length:=oo;subst hk;rw[BL] at hO ⊢;simp only[zU,seval,(oo:¬(o.length:Int)<o.length)];have hol:((loF o).2.map ES.A5).length=(loF o).2.length:=BW ..;refine⟨_,_,Hi (x:=D.sl ((loF o).2.map ES.A5)) ?_ ?_,rfl,rfl⟩
 ·simp only[zU,seval,hO,hol]
 simp only[zU,seval,hO,hol];exact bI

def smF(o:List AN):List Cw:=(o.filter λx=>x.ev.kind==5).map λx=>⟨x.A0,Am x.lo,x.ev.n,x.ev.stack⟩
def xi(o:List AN)(k:Nat)(h:k<o.length):smF (o.take (k+1))=if(o.getD k default).ev.kind=5 then smF (o.take k)++[⟨(o.getD k default).A0,Am (o.getD k default).lo,(o.getD k default).ev.n,(o.getD k default).ev.stack⟩] else smF (o.take k):=by
 rw[CY o k h,smF,P_,CA];by_cases e:(o.getD k default).ev.kind=5
 ·rw[AD e,J_ J5];rfl
 rw[A7 e,J4 J5,T0,E9,FY];rfl
def kA(o:List AN):(smF o).length<=o.length:=by
 rw[smF,BW];exact Ge _ _
def PD(b:Bool)(u v:AV):AV:=if b=true then u else v
def V3(u v:AV):PD true u v=u:=rfl
def Jq(u v:AV):PD false u v=v:=rfl
def NR(G:List Nat)(S:Sto)(b:Bool)(u v:AV):BJ G S (PD b u v)=PD b (BJ G S u) (BJ G S v):=by cases b<;>rfl
def Km(G:List Nat)(S:Sto):BJ G S .undef=.undef:=rfl
def Rq(S:Sto)(a b c:Int)(n:Nat):BJ [0,1,2,3,4] S (.agg [(a:Int),(b:Int),(c:Int),.A8 2 0 n])=.agg [(a:Int),(b:Int),(c:Int),.A8 2 0 n]:=rfl
def smS(out strs:List D)(x y:D)(a b c:Bool):Sto:=[if c=true then .dead else .arr 4 out,.box 10 (.d x),onB a (if b=true then .BS 1 strs else .arr 1 strs),onB b (.arr 4 [y]),onB c (.arr 4 (out++[y]))]
def kB(out strs:List D)(x y:D)(a b c:Bool):smS out strs x y a b c=[if c=true then .dead else .arr 4 out,.box 10 (.d x),onB a (if b=true then .BS 1 strs else .arr 1 strs),onB b (.arr 4 [y]),onB c (.arr 4 (out++[y]))]:=rfl
def Q8u(out strs:List D)(x y:D)(a b c:Bool):A1 (smS out strs x y a b c) 1=.box 10 (.d x):=rfl
def U2(out strs:List D)(x y:D)(a b c:Bool)(h1:b=true->a=true)(h2:c=true->b=true):C1 [0,1,2,3,4] (freezeL (smS out strs x y a b c) [])=smS out strs x y a b c:=by
 cases a<;>cases b<;>cases c<;>first|rfl|(exact absurd (h1 rfl) A6)|(exact absurd (h2 rfl) A6)
set_option maxHeartbeats 4000000 in
def Qer(o:List AN)(ho:o.length<900000)(hst:∀x∈o,x.ev.stack.length<1000000):AT prog Gl 18 [.d (.sl (o.map AN.A5))] (.d (.sl ((smF o).map Cw.A5))):=by
 refine CN ?_;refine acS func18 ntmps18 results18 ?_;refine KA ?_;refine Bm o.length (λk=>[(3,.A8 0 0 (smF (o.take k)).length),(6,.d (.sl (o.map AN.A5))),(7,(o.length:Int)),(8,(k:Int))]) (λk=>[.arr 4 ((smF (o.take k)).map Cw.A5)]) (λ_=>True) trivial ?_ ?_
 ·refine(Eb 3 4 rfl).trans ?_;exact Kz
 intro k _ hk;by_cases h:k<o.length
 ·have hsn:=xi o k h;have hln:=kA (o.take k);rw[GU] at hln;have hx:=hst _ (Ba h);rw[hsn];generalize smF (o.take k)=out at *;generalize hxx:o.getD k default=x at *;simp only[zU,seval,(oo:(k:Int)<o.length),h,Af _ _ _ (oo:k<o.length),hxx,a_w ((k:Int)+1)];apply ifC.mk<;>intro h5
  ·rw[AD Ib];have htk:List.take x.ev.stack.length (x.ev.stack.map D.str)=x.ev.stack.map D.str:=Bi A6;have hct:min (max x.lo 0) 1000000000000=Am x.lo:=rfl;refine⟨.inr (SE
    (λL=>[(16,onV (L 0) (.A8 0 0 out.length)),(17,onV (L 1) (.ptr 1 0)),(18,onV (L 2) (.ptr 1 0)),(19,onV (L 3) (.d (.int .i64 x.A0))),(20,onV (L 4) (.ptr 1 8)),(21,onV (L 5) (.ptr 1 8)),(22,onV (L 6) (.d (.int .i64 x.lo))),(23,onV (L 7) (.d (.int .i64 (max x.lo 0)))),(24,onV (L 8) (.d (.int .i64 (Am x.lo)))),
     (25,onV (L 9) (.ptr 1 2)),(26,onV (L 10) (.ptr 1 5)),(27,onV (L 11) (.d (.int .i64 x.ev.n))),(28,onV (L 12) (.ptr 1 2)),(29,onV (L 13) (.ptr 1 7)),(30,onV (L 14) (.d (.sl (x.ev.stack.map .str)))),(31,onV (L 15) (.A8 2 0 x.ev.stack.length)),
     (32,onV (L 16) (.agg [(x.A0:Int),(Am x.lo:Int),(x.ev.n:Int),.A8 2 0 x.ev.stack.length])),(33,onV (L 17) (.A8 3 0 1)),(34,onV (L 18) (.A8 4 0 (out.length+1))),(3,PD (L 19) (.A8 4 0 (out.length+1)) (.A8 0 0 out.length)),
     (5,.ptr 1 0),(6,.d (.sl (o.map AN.A5))),(7,.d (.int .i64 o.length)),(8,.d (.int .i64 k))])
    (λL=>smS (out.map Cw.A5) (x.ev.stack.map .str) x.A5 (Cw.A5 ⟨x.A0,Am x.lo,x.ev.n,x.ev.stack⟩) (L 15) (L 17) (L 18)) Ax ?_ ?_ ?_),?_⟩
   ·exact BA [] [0,1,2,3,4] rfl A6 rfl rfl
   ·simp only[Mx];refine⟨?_,?_,?_,?_,?_,?_,?_,?_,?_,?_,?_,?_,?_,?_,?_,?_,?_,?_,?_,?_,trivial⟩
    all_goals (intro L hc hL hp;(try simp only[EM,Region.binds,frB] at hp);(try simp only[EU,Nat.reduceAdd] at hL);simp only[zU,seval,hL,hp,Ef,Er,Sd,Z8,D3,FG,xG,V3,Jq,Q8u,hct])
    all_goals (have q19:L 19=true->L 18=true:=λh=>(hc 19 _ rfl h).1 rfl;have q0:L 18=true->L 0=true:=λh=>(hc 18 _ rfl h).1 rfl;have q18:L 18=true->L 17=true:=λh=>(hc 18 _ rfl h).2.1 rfl;have q17:L 17=true->L 16=true:=λh=>(hc 17 _ rfl h).1 rfl;have q16:L 16=true->L 15=true:=λh=>(hc 16 _ rfl h).2.2.2.1 rfl;have q15:L 15=true->L 14=true:=λh=>(hc 15 _ rfl h).1 rfl)
    case refine_1=>
     have h18:L 18=false:=F_.2 λh=>by rw[q0 h] at hL;cases hL
     have h19:L 19=false:=F_.2 λh=>Vt;simp only[zU,seval,h19,Jq];refine BA [] [0,1,2,3,4] rfl A6 ?_ (U2 _ _ _ _ _ _ _ (λh=>q16 (q17 h)) q18);simp only[zU,seval,FG,NR,Km,h18,h19,Jq,Rq]
    case refine_16=>
     have h16:L 16=false:=F_.2 λh=>by rw[q16 h] at hL;cases hL
     have h17:L 17=false:=F_.2 λh=>by rw[q17 h] at h16;cases h16
     have h18:L 18=false:=F_.2 λh=>by rw[q18 h] at h17;cases h17
     have h19:L 19=false:=F_.2 λh=>Vt;simp only[zU,seval,h16,h17,h18,h19,Jq,Er];refine Ag ?_;refine BA [] [0,1,5,3,4] rfl A6 ?_ rfl;simp only[zU,seval,FG,NR,Km,h18,h19,Jq]
     try rfl
    case refine_17=>
     have h17:L 17=false:=F_.2 λh=>by rw[q17 h] at hL;cases hL
     have h18:L 18=false:=F_.2 λh=>by rw[q18 h] at h17;cases h17
     have h19:L 19=false:=F_.2 λh=>Vt;simp only[zU,seval,h17,h18,h19,Jq,Er];refine BA [] [0,1,2,3,4] rfl A6 ?_ (U2 _ _ _ _ _ _ _ (λh=>rfl) (λh=>h));simp only[zU,seval,FG,NR,Km,h18,h19,Jq,Rq]
     try rfl
    case refine_18=>
     have h15:=q16 hp;have h18:L 18=false:=F_.2 λh=>by rw[q18 h] at hL;cases hL
     have h19:L 19=false:=F_.2 λh=>Vt;simp only[zU,seval,h15,h18,h19,Jq,Er,kB,Sd,Z8,htk];refine BA [] [0,1,2,5,4] rfl A6 ?_ rfl;simp only[zU,seval,FG,NR,Km,h18,h19,Jq]
     try rfl
    case refine_19=>
     have h19:L 19=false:=F_.2 λh=>by rw[q19 h] at hL;cases hL
     simp only[zU,seval,h19,Jq,Er,kB,Sd,Z8,htk];refine Ag ?_;rw[show List.take out.length (out.map Cw.A5)=out.map Cw.A5 from Bi A6];refine BA [] [0,1,2,3,5] rfl A6 ?_ rfl;simp only[zU,seval,FG,NR,Km,h19,Jq,Rq]
     try rfl
    case refine_20=>
     refine Ag ?_;refine BA [] [0,1,2,3,4] rfl A6 ?_ (U2 _ _ _ _ _ _ _ (λ_=>by simp only[hp]) (λ_=>rfl));simp only[zU,seval,FG,NR,Km,Ef,Er,Rq]
     try rfl
    all_goals repeat((with_reducible apply aI);exact sdp)
    all_goals refine BA [] [0,1,2,3,4] rfl A6 ?_ (U2 _ _ _ _ _ _ _ (λh=>q16 (q17 h)) q18)
    all_goals first|rfl|(simp only[zU,seval,FG,NR,Km,Ef,Er,Rq];try rfl)
    all_goals trace_state
   ·simp only[zU,seval,Ef,V3,a_w ((k:Int)+1)];refine BA [] [4] rfl A6 ?_ ?_
    ·rfl
    rw[CA];rfl
   rw[htk];refine Ag ?_;refine BA [] [4] rfl A6 ?_ ?_
   ·refine Po ?_;rfl
   exact oH
  rw[A7 Ib];exact Kz
 have:k=o.length:=oo;subst this;simp only[zU,seval,(oo:¬(o.length:Int)<o.length),BL];refine Pp ?_;simp only[zU,seval,HQ]

def ltB(a b:C2):Bool:=decide (HM a b<0)
def uA(a:C2):¬ltN a a:=by
 rintro(h|h)
 ·unfold ltS at h;rw[VH] at h;cases h
 omega
def yr{a b c:C2}(h1:ltN a b)(h2:ltN b c):ltN a c:=by
 rcases h1 with h1|⟨e1,h1⟩<;>rcases h2 with h2|⟨e2,h2⟩
 ·exact .inl (UB h1 h2)
 ·exact .inl (by rw[<-e2];exact h1)
 ·exact .inl (by rw[e1];exact h2)
 exact .inr ⟨e1.trans e2,oo⟩
def uB{a b c:C2}(h1:¬ltN a b)(h2:¬ltN b c):¬ltN a c:=by
 intro h;rcases Ul a.name b.name with⟨q1,_⟩|⟨_,q2,_⟩|⟨_,_,q3,_⟩
 ·exact h1 (.inl q1)
 ·rcases h with h|⟨e,h⟩
  ·rw[q2] at h;exact h2 (.inl h)
  have g1:¬a.at_<b.at_:=λg=>h1 (.inr ⟨q2,g⟩);have g2:¬b.at_<c.at_:=λg=>h2 (.inr ⟨q2.symm.trans e,g⟩);omega
 rcases h with h|⟨e,h⟩
 ·exact h2 (.inl (UB q3 h))
 exact h2 (.inl (by rw[<-e];exact q3))
def SS:Sl HM:=
 ⟨λa h=>uA a ((NQ a a).1 h),λa b d h1 h2=>(NQ _ _).2 (yr ((NQ _ _).1 h1) ((NQ _ _).1 h2)),λa b d h1 h2 h=>uB (λq=>h1 ((NQ _ _).2 q)) (λq=>h2 ((NQ _ _).2 q)) ((NQ _ _).1 h)⟩
def Q9z:D->C2
 | .agg [.str a,.int _ b,.int _ c]=>⟨a,b,c⟩
 | _=>default
def PI(o:AN):Bool:=o.ev.kind==4
def j4(o:AN):C2:=⟨o.ev.name,Am o.lo,o.ev.n⟩
def Eo(os:List AN):List C2:=(os.filter PI).map j4
def QD(out:List C2)(s:C2):Bool:=decide (0<out.length)&&(out.getD (out.length-1) default).name==s.name&&(out.getD (out.length-1) default).value==s.value
def Ro(S:List C2)(k:Nat)(out:List C2):List C2:=
 if(decide (k+1<S.length)&&HM (S.getD k default) (S.getD (k+1) default)==0)=true then out
 else if QD out (S.getD k default)=true then out else out++[S.getD k default]
def ocF(S:List C2):Nat->List C2
 | 0=>[]
 | k+1=>Ro S k (ocF S k)
def Yg(S:List C2):∀k,(ocF S k).length<=k
 | 0=>AR _
 | k+1=>by
  have:=Yg S k;unfold ocF Ro;split
  ·omega
  split
  ·omega
  exact mX
def csF(os:List AN):List C2:=ocF (DZ ltB (Eo os)) (DZ ltB (Eo os)).length
def sk{p:AN->Bool}{l:List AN}{j:Nat}(h:j<l.length):(l.take (j+1)).filter p=(l.take j).filter p++(if p (l.getD j default)=true then[l.getD j default] else[]):=by
 exact nD
set_option maxHeartbeats 2000000 in
def ri(os:List AN)(hl:os.length<1000000):AT prog Gl 19 [.d (.sl (os.map AN.A5))] (.d (.sl ((csF os).map C2.A5))):=by
 refine CN ?_;refine acS func19 ntmps19 results19 ?_;refine KA ?_;refine Bm os.length (λk=>[(3,.A8 0 0 (Eo (os.take k)).length),(4,.AA),(10,.d (.sl (os.map AN.A5))),(11,(os.length:Int)),(12,(k:Int))]) (λk=>[.arr 3 ((Eo (os.take k)).map C2.A5)]) (λ_=>True) trivial ?_ ?_
 ·refine(Eb 3 3 rfl).trans ?_;refine BA [] [0] rfl A6 ?_ ?_
  ·simp only[zU,seval,HB,Eo,T0]
  simp only[zU,seval,Eo,T0]
 intro k _ hk;by_cases h:k<os.length
 ·obtain⟨o,ho⟩:∃o,o=os.getD k default:=⟨_,rfl⟩;have hf:=sk (p:=PI) h;rw[<-ho] at hf;obtain⟨al,hal⟩:∃al,al=Eo (os.take k):=⟨_,rfl⟩;have hlen:al.length<=k:=by
   have:=Ge PI (os.take k);rw[hal,Eo,BW];have h2:(os.take k).length<=k:=Ap;omega
  rw[<-hal];simp only[zU,seval,(oo:(k:Int)<os.length),h,Af _ _ _ (oo:k<os.length),<-ho];refine Ag ?_;apply ifC.mk<;>intro hc
  ·have hst:Eo (os.take (k+1))=al++[j4 o]:=by rw[Eo,hf,AD (show PI o=true from hc),CA,hal,Eo];rfl
   rw[hst];refine⟨.inl Ax,Ak (uP _) ?_⟩;simp only[zU,seval,HQ];refine Ag ?_;refine BA [] [3] rfl A6 ?_ ?_
   ·exact Mk
   simp only[zU,seval,CA];rfl
  have hst:Eo (os.take (k+1))=al:=by rw[Eo,hf,A7 (by rw[show PI o=false from hc];simp),FY,hal,Eo]
  rw[hst];refine BA [] [0] rfl A6 ?_ ?_
  ·exact Mk
  simp only[zU,seval]
 have:k=os.length:=oo;subst this;have hlen:(Eo os).length<=os.length:=by
  have:=Ge PI os;rw[Eo,BW];omega
 simp only[zU,seval,(oo:¬(os.length:Int)<os.length),BL];refine Be ((Tp (Gl:=Gl) (τ:=[]) vU C2.A5 Q9z (λa=>rfl) (λa=>⟨rfl,rfl⟩) SS 51 [] (λa b ys s hs=>YW a b s) (Eo os) oo).mono λr s hr=>?_);rw[show(DZ (λa b=>decide (HM a b<0)) (Eo os))=DZ ltB (Eo os) from rfl] at hr;obtain⟨rfl,rfl⟩:=hr;obtain⟨S,hS⟩:∃S,S=DZ ltB (Eo os):=⟨_,rfl⟩;have hSl:(Eo os).length=S.length:=by rw[hS,MG]
 rw[csF,<-hS,hSl];simp only[zU,seval];refine Bm S.length (λk=>[(3,.A8 0 0 S.length),(4,.A8 1 0 (ocF S k).length),(35,.A8 0 0 S.length),(36,(S.length:Int)),(37,(k:Int))]) (λk=>[.arr 3 (S.map C2.A5),.arr 3 ((ocF S k).map C2.A5)]) (λ_=>True) trivial ?_ ?_
 ·refine(Eb 4 3 rfl).trans ?_;refine BA [] [0,1] rfl A6 ?_ ?_
  ·simp only[zU,seval,HB,ocF]
  simp only[zU,seval,ocF]
 intro k _ hk;by_cases h:k<S.length
 ·obtain⟨out,hout⟩:∃out,out=ocF S k:=⟨_,rfl⟩;have hol:out.length<=k:=by rw[hout];exact Yg S k
  obtain⟨b,hb⟩:∃b,b=S.getD k default:=⟨_,rfl⟩;have hst:ocF S (k+1)=Ro S k out:=by rw[hout];rfl
  rw[hst,<-hout];unfold Ro;rw[<-hb];by_cases hn:k+1<S.length;obtain⟨c,hc⟩:∃c,c=S.getD (k+1) default:=⟨_,rfl⟩;rw[JU hn,Hu,<-hc];simp only[zU,seval,(oo:(k:Int)<S.length),h,Af _ _ _ (oo:k<S.length),<-hb,a_w ((k:Int)+1),(oo:(k:Int)+1<S.length),show((k:Int)+1).toNat=k+1 from rfl,hn,Af _ _ _ (oo:k+1<S.length),<-hc];refine Ag ?_;refine DS (λ_=>YW b c) ?_;simp only[zU,seval];apply ifC.mk<;>intro h2
  ·rw[AD h2];refine BA [] [0,1] rfl A6 ?_ rfl;exact Mk
  rw[A7 Je];rotate_left;rw[HX hn,JV,A7 A6];simp only[zU,seval,(oo:(k:Int)<S.length),h,Af _ _ _ (oo:k<S.length),<-hb,a_w ((k:Int)+1),(oo:¬(k:Int)+1<S.length),show((k:Int)+1).toNat=k+1 from rfl,hn];refine Ag ?_;refine DS (v:=.d (.int .i64 0)) (λh=>D8) ?_;simp only[zU,seval]
  all_goals
   by_cases h0:0<out.length
   ·have e1:IntKind.i64.wrap ((out.length:Int)-1)=((out.length-1:Nat):Int):=Bz;obtain⟨d,hd⟩:∃d,d=out.getD (out.length-1) default:=⟨_,rfl⟩;have hls:QD out b=(d.name==b.name&&d.value==b.value):=by unfold QD;rw[JU h0,Hu,hd]
    rw[hls];simp only[zU,seval,(oo:(0:Int)<out.length),e1,(oo:((out.length-1:Nat):Int)<out.length),(oo:out.length-1<out.length),Af _ _ _ (oo:out.length-1<out.length),<-hd];refine Ag ?_;apply ifC.mk<;>intro h3
    ·rw[AD h3];refine BA [] [0,1] rfl A6 ?_ rfl;exact Mk
    rw[A7 K9]
    (try simp only[zU,seval,HQ])
    refine Ag ?_;refine BA [] [0,4] rfl A6 ?_ ?_
    ·exact Mk
    simp only[zU,seval,CA]
   have e0:out=[]:=G3 oo;have hls:QD out b=false:=by unfold QD;rw[HX h0];rfl
   rw[hls,A7 A6];rw[e0];simp only[zU,seval,HB,(oo:¬(0:Int)<0)];refine Ag ?_;refine BA [] [0,4] rfl A6 ?_ ?_
   ·exact Mk
   simp only[zU,seval,CA]
 have:k=S.length:=oo;subst this;simp only[zU,seval,(oo:¬(S.length:Int)<S.length)];refine Pp ?_;simp only[zU,seval,HQ]

def MM(os:List AN)(e:Int):Int:=if os.length=0 then max 0 (min e 1000000000000) else max 0 (min (max e (Am (os.getD (os.length-1) default).lo)) 1000000000000)
def VE:B4:=⟨0,0,0,0,0,[],false⟩
def Ni(p:B4->Bool):List B4->Int
 | []=>-1
 | b::r=>if p b=true then 0 else if Ni p r=-1 then -1 else Ni p r+1
def XY{p:B4->Bool}:∀{l:List B4},l.any p=false->Ni p l=-1
 | [],_=>rfl
 | b::r,h=>by
  rw[Kp,JY] at h;rw[Ni,A7 (by rw[h.1];simp),AD (XY h.2)]
def Ya{p:B4->Bool}:∀{l:List B4} {k:Nat},k<l.length->(l.take k).any p=false->p (l.getD k default)=true->Ni p l=k
 | [],k,h,_,_=>Mf
 | b::r,0,_,_,h=>by rw[Ni,AD Dy];rfl
 | b::r,k+1,h1,h2,h3=>by
  rw[T8,Kp,JY] at h2;have ih:=Ya (p:=p) (l:=r) (k:=k) Cz h2.2 Gv;rw[Ni,A7 (by rw[h2.1];simp),A7 (by rw[ih];omega),ih];omega
def ZE(fv:FuncId)(p:B4->Bool):Prop:=∀b:B4,∀Gl:BM,AT prog Gl fv [.d b.A5] (.d (.bool (p b)))
def qk(fv:FuncId)(p:B4->Bool)(hp:ZE fv p)(bs:List B4)(hl:bs.length<1000000):
  AW prog Gl 77 [.A8 0 0 bs.length,.fn fv []] [.arr 7 (bs.map B4.A5)] (λr s=>r=.d (.int .i64 (Ni p bs))/\s=[.arr 7 (bs.map B4.A5)]):=by
 refine acS func77 ntmps77 results77 ?_;simp only[zU,seval,DX,B6];refine Bm bs.length (λk=>[(0,.A8 0 0 bs.length),(1,.fn fv []),(7,(bs.length:Int)),(8,(k:Int))]) (λ_=>[.arr 7 (bs.map B4.A5)]) (λk=>(bs.take k).any p=false) rfl ?_ ?_
 ·refine BA [] [0] rfl A6 ?_ rfl;simp only[zU,seval,DX,HB];rfl
 intro k hi hk;by_cases h:k<bs.length
 ·have hs:=K_ p bs k h;simp only[zU,seval,DX,(oo:(k:Int)<bs.length),h,Af _ _ _ (oo:k<bs.length)];refine Ak (hp _ _) ?_;simp only[zU,seval,DX];apply ifC.mk<;>intro hc
  ·refine⟨_,_,Bg.refl _ _ _,?_,rfl⟩;rw[Ya h hi hc]
  refine⟨RT,?_⟩;refine BA [] [0] rfl A6 ?_ rfl;simp only[zU,seval,DX,a_w ((k:Int)+1)];rfl
 simp only[zU,seval,DX,(oo:¬(k:Int)<bs.length)];have:k=bs.length:=oo;subst this;rw[BL] at hi;refine⟨_,_,Bg.refl _ _ _,?_,rfl⟩;rw[XY hi]
def Qw(p:B4->Bool)(bs:List B4):List B4:=bs.filter (λb=>!p b)++List.replicate (bs.length-(bs.filter λb=>!p b).length) VE
def Qfq(ys:List B4)(i n:Nat)(hn:ys.length=n)(hi:i<=n):Il (ys.map B4.A5) i (n-i) VE.A5=(ys.take i++List.replicate (n-i) VE).map B4.A5:=by
 exact pJ
def dn{p:B4->Bool}{l:List B4}(h:l.any p=false):l.filter (λb=>!p b)=l:=by
 rw[Vj];intro a ha;have:=R7.1 h a ha;exact Ll
def dU{p:B4->Bool}:∀{l:List B4},¬l.any p=false->∃i,i<l.length/\(l.take i).any p=false/\p (l.getD i default)=true
 | [],h=>absurd rfl h
 | b::r,h=>by
  cases hb:p b with
  | true=>exact⟨0,A6,rfl,hb⟩
  | false=>
   rw[Kp,hb,Kq] at h;obtain⟨i,h1,h2,h3⟩:=dU h;exact⟨i+1,Ap,by rw[T8,Kp,hb,h2];rfl,Gv⟩
def y6{α:Type}[Inhabited α]{a b:List α}{j:Nat}(h:a.drop j=b.drop j):a.getD j default=b.getD j default:=by
 have:=congrArg (λl=>l[0]?) h;simp only[IW,Gb] at this;rw[B5,B5,this]
def g_{α:Type}{a b:List α}{j:Nat}(h:a.drop j=b.drop j):a.drop (j+1)=b.drop (j+1):=by
 have:=congrArg (List.drop 1) h;simpa only[Ld] using this
def dr{p:B4->Bool}{l:List B4}{j:Nat}(h:j<l.length):(l.take (j+1)).filter p=(l.take j).filter p++(if p (l.getD j default)=true then[l.getD j default] else[]):=by
 exact nD
def qt(fv:FuncId)(p:B4->Bool)(hp:ZE fv p)(bs:List B4)(hl:bs.length<1000000):
  AW prog Gl 53 [.A8 0 0 bs.length,.fn fv []] [.arr 7 (bs.map B4.A5)] (λr s=>r=.A8 0 0 (bs.filter λb=>!p b).length/\s=[.arr 7 ((Qw p bs).map B4.A5)]):=by
 refine acS func53 ntmps53 results53 ?_;simp only[zU,seval,DX,B6];refine Be ((qk fv p hp bs hl).mono λr s h=>?_);obtain⟨rfl,rfl⟩:=h;by_cases hn:bs.any p=false
 ·have hi:=XY hn;have hf:=dn hn;simp only[zU,seval,DX,hi];exact⟨_,_,Bg.refl _ _ _,by rw[hf],by rw[Qw,hf,FA];simp⟩
 obtain⟨i0,hi,h1,h2⟩:=dU hn;have hi2:=Ya hi h1 h2;have z5:D.agg [D.int .i64 0,D.int .i64 0,D.int .i64 0,D.int .i64 0,D.int .i64 0,D.sl [],D.bool false]=VE.A5:=rfl;simp only[zU,seval,DX,hi2,Mq (oo:¬((i0:Int)=-1))];refine CL (τ:=(Nat×Nat)×List B4) (λx=>[(0,.A8 0 0 bs.length),(1,.fn fv []),(5,(x.1.1:Int)),(6,(x.1.2:Int))]) (λx=>[.arr 7 (x.2.map B4.A5)])
  (λx=>x.1.1<x.1.2/\x.1.2<=bs.length/\x.2.length=bs.length/\x.2.take x.1.1=(bs.take x.1.2).filter (λb=>!p b)/\x.2.drop x.1.2=bs.drop x.1.2) (λx=>bs.length-x.1.2) ((i0,i0+1),bs)
  ⟨A6,AQ,rfl,by simp only;rw[dr hi,h2,dn h1];simp,rfl⟩ ?_ ?_
 ·refine BA [] [0] rfl A6 ?_ rfl;simp only[zU,seval,DX,a_w ((i0:Int)+1)];rfl
 intro x hx;obtain⟨⟨i,j⟩,ys⟩:=x;obtain⟨q1,q2,q3,q4,q5⟩:=hx;simp only at q1 q2 q3 q4 q5;by_cases h:j<bs.length
 ·have hv:=y6 q5;have h3:j<ys.length:=oo;have h4:i<ys.length:=oo;have hft:=dr (p:=λb=>!p b) h;simp only[zU,seval,DX,(oo:(j:Int)<bs.length),h3,Af _ _ _ (oo:j<ys.length),hv];refine Ak (hp _ _) ?_;simp only[zU,seval,DX];apply ifC.mk<;>intro hc
  ·(try simp only[zU,seval,DX,(oo:(i:Int)<bs.length),(oo:i<bs.length),(oo:i<ys.length),Af _ _ _ (oo:i<ys.length),a_w ((i:Int)+1),a_w ((j:Int)+1)])
   refine⟨((i+1,j+1),ys.set i (bs.getD j default)),⟨AQ,AQ,by simp[q3],?_,?_⟩,AQ,BA [] [0] rfl A6 ?_ (by simp only[JS];rfl)⟩
   ·simp only;rw[hft,<-q4,AD Dc,CY _ i Ic];congr 1
    ·rw[List.take_set_of_le (AR _)]
    simp[h4]
   ·simp only;rw[List.drop_set_of_lt oo];exact g_ q5
   simp only[zU,seval,DX,a_w ((i:Int)+1),a_w ((j:Int)+1)];rfl
  refine⟨((i,j+1),ys),⟨AQ,AQ,q3,?_,g_ q5⟩,AQ,BA [] [0] rfl A6 ?_ rfl⟩
  ·simp only;rw[hft,<-q4,A7 Dc,FY]
  simp only[zU,seval,DX,a_w ((j:Int)+1)];rfl
 have hj:j=bs.length:=oo;subst hj;rw[BL] at q4;simp only[zU,seval,DX,(oo:¬((bs.length:Nat):Int)<bs.length),z5]
 repeat((with_reducible apply aI);exact sdp)
 have hlen:(bs.filter λb=>!p b).length=i:=by rw[<-q4];simp;omega
 refine⟨_,_,Bg.refl _ _ _,by rw[hlen,Nw],?_⟩;simp only[EA];rw[Qfq ys i bs.length q3 oo,q4,Qw,hlen]
def wE:ZE 54 (λb=>decide (b.hi<=b.lo)):=λb Gl=>by
 refine CN ?_;refine acS func54 ntmps54 results54 ?_;simp only[zU,seval,DX,B6];exact D0
def wF(a b:B4):AT prog Gl 56 [.d a.A5,.d b.A5] (.d (.int .i64 (EG a.lo b.lo))):=by
 refine FB ?_;refine acS func56 ntmps56 results56 ?_;simp only[zU,seval,DX,B6];refine Ak (MD _ _) ?_;simp only[zU,seval,DX];exact D0
def M5(b:B4)(t:Int):B4:={b with hi:=t,live:=false}
abbrev IM:=List B4×(Int->Option Nat)
def JD(o:AN)(st:IM):IM:=match st.2 o.ev.n with
 | some i=>(st.1.set i (M5 (st.1.getD i default) (Am o.lo)),Aa st.2 o.ev.n none)
 | none=>st
def KR(E:Int)(o:AN)(st:IM):IM:=if o.ev.kind=11 then(st.1++[⟨o.ev.n,o.A0,o.ev.m,Am o.lo,E,o.ev.stack,true⟩],Aa st.2 o.ev.n (some st.1.length)) else st
def LF(E:Int)(o:AN)(st:IM):IM:=if o.ev.kind=11\/o.ev.kind=12 then KR E o (JD o st) else st
def G9(os:List AN)(E:Int):Nat->IM
 | 0=>([],λ_=>none)
 | k+1=>LF E (os.getD k default) (G9 os E k)
def Nl(st:IM):Prop:=∀n i,st.2 n=some i->i<st.1.length
def Qeb{o:AN}{st:IM}(h:Nl st):Nl (JD o st):=by
 unfold JD;split
 ·intro n i hi;simp only[Aa] at hi;split at hi
  ·cases hi
  simpa using h n i hi
 exact h
def zL{E:Int}{o:AN}{st:IM}(h:Nl st):Nl (KR E o st):=by
 unfold KR;split
 ·intro n i hi;simp only[Aa] at hi;split at hi
  ·simp only[BF] at hi;subst hi;simp
  have:=h n i hi;simp;omega
 exact h
def zM{E:Int}{o:AN}{st:IM}(h:Nl st):Nl (LF E o st):=by
 unfold LF;split
 ·exact zL (Qeb h)
 exact h
def fM(os:List AN)(E:Int):∀k,Nl (G9 os E k)
 | 0=>λn i h=>D8
 | k+1=>zM (fM os E k)
def sQ(o:AN)(st:IM):(JD o st).1.length=st.1.length:=by
 unfold JD;split<;>simp
def UU(os:List AN)(E:Int):∀k,(G9 os E k).1.length<=k
 | 0=>AR _
 | k+1=>by
  have h:=UU os E k;have h2:=sQ (os.getD k default) (G9 os E k);unfold G9 LF KR;split
  ·split
   ·exact mX
   omega
  omega
def loB(a b:B4):Bool:=decide (a.lo<b.lo)
def Oy(b:B4):Bool:=!decide (b.hi<=b.lo)
def mmF(os:List AN)(e:Int):List B4:=DZ loB ((G9 os (MM os e) os.length).1.filter Oy)
def Tj(a b:Int):(EG a b<0)=(a<b):=by
 unfold EG;split
 ·simp[*]
 split<;>simp[*]<;>omega
def ZW:Sl λa b:B4=>EG a.lo b.lo:=
 ⟨λa=>by simp only[Tj];omega,λa b d=>by simp only[Tj];omega,λa b d=>by simp only[Tj];omega⟩
def SX:D->B4
 | .agg [.int _ a,.int _ b,.int _ c,.int _ d,.int _ e,.sl l,.bool g]=>⟨a,b,c,d,e,l.map λx=>match x with|.str s=>s|_=>[],g⟩
 | _=>default
def XJ(b:B4):SX b.A5=b:=by
 show(⟨b.id,b.A0,b.size,b.lo,b.hi,(b.stack.map D.str).map _,b.live⟩:B4)=b;rw[Hs];have e:((λx=>match x with|.str s=>s|_=>[])∘D.str)=(id:List UInt8->List UInt8):=rfl;rw[e,Sx]
def Q33(xs:List B4)(n:Nat)(hn:n<=xs.length)(hN:n<1000000):
  AW prog Gl 55 [.A8 0 0 n,.fn 56 []] [.arr 7 (xs.map B4.A5)] (λr s=>r=.Aj []/\s=[.arr 7 ((DZ loB (xs.take n)++xs.drop n).map B4.A5)]):=by
 have hx:∀y∈xs.map B4.A5,∃b:B4,y=b.A5:=λy hy=>by
  obtain⟨b,_,rfl⟩:=C4.1 hy;exact⟨b,rfl⟩
 have hsw:Swo (λd=>∃b:B4,d=b.A5) (λx y=>decide (EG (SX x).lo (SX y).lo<0)):=
  ⟨λx _=>HX (ZW.Qc _),λx y z _ _ _ h1 h2=>JU (ZW.tr _ _ _ (Es h1) (Es h2)),λx y z _ _ _ h1 h2=>HX (ZW.inc _ _ _ (Vg h1) (Vg h2))⟩
 have hC:NW Gl [] 7 true (λd=>∃b:B4,d=b.A5) (λx y=>EG (SX x).lo (SX y).lo) 56 []:=by
  refine⟨λd hd=>?_,λx y hx hy ys s hs=>?_,hsw⟩
  ·obtain⟨a,rfl⟩:=hd;exact⟨rfl,rfl⟩
  obtain⟨a,rfl⟩:=hx;obtain⟨b,rfl⟩:=hy;rw[XJ,XJ];exact wF a b s
 refine(eo ya (Gl:=Gl) (τ:=[]) _ _ 56 [] hC (xs.map B4.A5) hx n Pj hN).mono λr s hss=>?_;obtain⟨rfl,zs,G,rfl,hA,hB,hid⟩:=hss;refine⟨rfl,?_⟩;have e:=eZ hsw hx Pj hA hB hid;rw[<-JT,S9,<-Zv] at e;simp only[XJ,Tj] at e;rw[e,CA];rfl
set_option maxHeartbeats 2000000 in
def Qez(os:List AN)(e:Int)(hl:os.length<1000000):AT prog Gl 20 [.d (.sl (os.map AN.A5)),(e:Int)] (.d (.sl ((mmF os e).map B4.A5))):=by
 refine FB ?_;by_cases hn:os.length=0;have hE:max 0 (min e 1000000000000)=MM os e:=by rw[MM,AD hn]
 refine acS func20 ntmps20 results20 ?_;simp only[zU,seval,DX,B6,(oo:¬(0:Int)<os.length),kH,hE];rotate_left;have e1:IntKind.i64.wrap ((os.length:Int)-1)=((os.length-1:Nat):Int):=Bz;refine acS func20 ntmps20 results20 ?_;simp only[zU,seval,DX,B6,(oo:(0:Int)<os.length),e1,(oo:os.length-1<os.length),(oo:((os.length-1:Nat):Int)<os.length),Af _ _ _ (oo:os.length-1<os.length)];refine Ak (YX _) ?_;have hE:max 0 (min (max e (Am (os.getD (os.length-1) default).lo)) 1000000000000)=MM os e:=by rw[MM,A7 hn]
 simp only[zU,seval,DX,kH,hE]
 all_goals
  refine Ag ?_;clear hE;generalize hE:MM os e=E;refine Bm os.length (λk=>[(1,(E:Int)),(5,.A8 1 0 (G9 os E k).1.length),(6,.AF 0),(28,.d (.sl (os.map AN.A5))),(29,(os.length:Int)),(30,(k:Int))]) (λk=>[.map (some .i64) (Ir (G9 os E k).2),.arr 7 ((G9 os E k).1.map B4.A5)]) (λ_=>True) trivial ?_ ?_
  ·refine(Eb 5 7 rfl).trans ?_;refine BA [] [0,1] rfl A6 ?_ ?_
   ·simp only[zU,seval,DX,HB,G9]
   simp only[zU,seval,DX,G9]
  intro k _ hk;by_cases h:k<os.length
  ·obtain⟨st,hst⟩:∃st,st=G9 os E k:=⟨_,rfl⟩;have hok:Nl st:=by rw[hst];exact fM os E k
   have hlen:st.1.length<=k:=by rw[hst];exact UU os E k
   have hstep:G9 os E (k+1)=LF E (os.getD k default) st:=by rw[hst];rfl
   rw[hstep,<-hst];obtain⟨o,ho⟩:∃o,o=os.getD k default:=⟨_,rfl⟩;rw[<-ho];simp only[zU,seval,DX,(oo:(k:Int)<os.length),h,Af _ _ _ (oo:k<os.length),<-ho];refine Ag ?_;apply ifC.mk<;>intro hk
   ·have hk':¬(o.ev.kind=11\/o.ev.kind=12):=by simpa using hk
    have hs:LF E o st=st:=by unfold LF;rw[A7 hk']
    rw[hs];refine BA [] [0,1] rfl A6 ?_ ?_
    ·exact bH
    simp only[zU,seval,DX]
   have hk':o.ev.kind=11\/o.ev.kind=12:=by simp at hk;omega
   have hs:LF E o st=KR E o (JD o st):=by unfold LF;rw[AD hk']
   rw[hs];rcases hg:st.2 o.ev.n with _|i
   have hc:JD o st=st:=by unfold JD;rw[hg]
   rw[hc];simp only[zU,seval,DX,hg];refine Ag ?_;have ta:True:=trivial;rotate_left;have hi:i<st.1.length:=hok _ _ hg;have hc:JD o st=(st.1.set i (M5 (st.1.getD i default) (Am o.lo)),Aa st.2 o.ev.n none):=by unfold JD;rw[hg]
   rw[hc];simp only[zU,seval,DX,hg];refine Ag ?_;refine Ak (YX _) ?_;have z:D.agg [.int .i64 (st.1.getD i default).id,.int .i64 (st.1.getD i default).A0,.int .i64 (st.1.getD i default).size,.int .i64 (st.1.getD i default).lo,.int .i64 (Am o.lo),.sl ((st.1.getD i default).stack.map .str),.bool false]=(M5 (st.1.getD i default) (Am o.lo)).A5:=rfl;simp only[zU,seval,DX,(oo:(i:Int)<st.1.length),hi,Af _ _ _ (oo:i<st.1.length),wL _ _ _ _ (show i<(st.1.map B4.A5).length by rw[BW];exact hi),List.set_set,z,<-JS];refine Ag ?_;have ta:∀x,((st.1.set i x).map B4.A5).take st.1.length=(st.1.set i x).map B4.A5:=λx=>Bi A6
   all_goals
    apply ifC.mk<;>intro hk2
    ·refine⟨.inl Ax,Ak (YX _) ?_⟩;simp only[zU,seval,DX,HQ,ta];refine Ag ?_;have ho2:∀st,KR E o st=(st.1++[⟨o.ev.n,o.A0,o.ev.m,Am o.lo,E,o.ev.stack,true⟩],Aa st.2 o.ev.n (some st.1.length)):=λst=>by unfold KR;rw[AD Vu]
     rw[ho2];refine BA [] [0,4] rfl A6 ?_ ?_
     ·exact bH
     simp only[zU,seval,DX,CA];rfl
    have ho2:∀st,KR E o st=st:=λst=>by unfold KR;rw[A7 Vu]
    rw[ho2];refine BA [] [0,1] rfl A6 ?_ ?_
    ·exact bH
    simp only[zU,seval,DX]
  have:k=os.length:=oo;subst this;have hlf:(Qw (λb=>decide (b.hi<=b.lo)) (G9 os E os.length).1).length=(G9 os E os.length).1.length:=by
   have:=Ge (λb:B4=>!decide (b.hi<=b.lo)) (G9 os E os.length).1;unfold Qw;simp only[Bb,IY];omega
  have hle:=Ge (λb:B4=>!decide (b.hi<=b.lo)) (G9 os E os.length).1;have hrl:=UU os E os.length;simp only[zU,seval,DX,(oo:¬(os.length:Int)<os.length)];refine QH 1 A6 rfl (qt 54 _ wE _ oo) λr s hr=>?_;obtain⟨rfl,rfl⟩:=hr;simp only[zU,seval,DX];refine QH 1 A6 rfl (Q33 _ _ (by rw[hlf];exact hle) oo) λr s hr=>?_;obtain⟨rfl,rfl⟩:=hr;simp only[zU,seval,DX];refine Pp ?_;have hfl:(DZ loB ((G9 os E os.length).1.filter λb=>!decide (b.hi<=b.lo))).length=((G9 os E os.length).1.filter λb=>!decide (b.hi<=b.lo)).length:=MG _ _;simp only[zU,seval,DX,Qw,aJ,List.drop_left];rw[<-JT,<-hfl,aJ,mmF,hE];rfl

def sp2(a b:Int):D:=.agg [.int .i64 a,.int .i64 b]
set_option maxHeartbeats 4000000 in
def Uf(a b c d:Int)(h:0<=a/\a<=1000000000000/\0<=b/\b<=1000000000000/\0<=c/\c<=1000000000000/\0<=d/\d<=1000000000000):
  AT prog Gl 61 [.d (sp2 a b),.d (sp2 c d)] (.Aj [.d (sp2 (max a c-c) (min b d-c)),(decide (max a c<min b d):Bool),(decide (d<b):Bool)]):=by
 refine AT.Qa (args:=[sp2 a b,sp2 c d]) (λb=>by simp[BK,IB]) ?_;simp only[Ci,E9];unfold sp2;refine acS func61 ntmps61 results61 ?_;simp only[zU,seval,B6];refine⟨.inr (SE
  (λL=>[(19,onV (L 0) (.ptr 3 0)),(20,onV (L 1) (.d (.int .i64 (max a c)))),(21,onV (L 2) (.ptr 1 0)),(22,onV (L 3) (.d (.int .i64 c))),(23,onV (L 4) (.d (.int .i64 (max a c-c)))),(24,onV (L 5) (.ptr 3 1)),(25,onV (L 6) (.d (.int .i64 (min b d)))),(26,onV (L 7) (.ptr 1 0)),(27,onV (L 8) (.d (.int .i64 c))),(28,onV (L 9) (.d (.int .i64 (min b d-c)))),
   (29,onV (L 10) (.d (.agg [.int .i64 (max a c-c),.int .i64 (min b d-c)]))),(30,onV (L 11) (.ptr 3 0)),(31,onV (L 12) (.d (.int .i64 (max a c)))),(32,onV (L 13) (.ptr 3 1)),(33,onV (L 14) (.d (.int .i64 (min b d)))),(34,onV (L 15) (.d (.bool (decide (max a c<min b d))))),(35,onV (L 16) (.ptr 0 1)),(36,onV (L 17) (.d (.int .i64 b))),(37,onV (L 18) (.ptr 1 1)),(38,onV (L 19) (.d (.int .i64 d))),(39,onV (L 20) (.d (.bool (decide (d<b))))),
   (5,PD (L 22) (.d (.bool (decide (max a c<min b d)))) (.d (.bool false))),(6,PD (L 23) (.d (.bool (decide (d<b)))) (.d (.bool false))),(7,.ptr 3 0),(4,.ptr 2 0),(3,.ptr 1 0),(2,.ptr 0 0)])
  (λL=>[.box 2 (.d (.agg [.int .i64 a,.int .i64 b])),.box 2 (.d (.agg [.int .i64 c,.int .i64 d])),.box 2 (.d (D.agg [(.int .i64 (Nr (L 21) (max a c-c) 0)),.int .i64 (Nr (L 21) (min b d-c) 0)])),.box 2 (.d (.agg [.int .i64 (max a c),.int .i64 (min b d)]))]) Ax ?_ ?_ ?_),?_⟩
 ·exact BA [] [0,1,2,3] rfl A6 rfl rfl
 ·simp only[Mx];refine⟨?_,?_,?_,?_,?_,?_,?_,?_,?_,?_,?_,?_,?_,?_,?_,?_,?_,?_,?_,?_,?_,?_,?_,?_,trivial⟩
  all_goals (intro L hc hL hp;(try simp only[EM,Region.binds,frB] at hp);(try simp only[EU,Nat.reduceAdd] at hL);simp only[zU,seval,hL,hp,Ef,Er,D3,V3,Jq,ZY,iz,FG,a_w (max a c-c),a_w (min b d-c)])
  all_goals repeat((with_reducible apply aI);exact sdp)
  all_goals refine BA [] [0,1,2,3] rfl A6 ?_ ?_
  all_goals first|rfl|(simp only[zU,seval,FG,NR,Km,Ef,Er];try rfl)
 ·simp only[zU,seval,Ef,V3,ZY];exact⟨_,_,ix,rfl,rfl⟩
 simp only[zU,seval,a_w (max a c-c),a_w (min b d-c)];exact⟨_,_,ix,rfl,rfl⟩
def Jy(p:B0):D:=.agg [.int .i64 p.s.A0,.int .i64 p.s.parent,.int .i64 p.s.depth,.str p.s.name,.int .i64 p.s.lo,.int .i64 p.s.hi,.int .i64 p.s.self,.bool p.s.open_,.int .i64 p.number]
def QA(x:B0):(Jy x).isAgg=true:=rfl
def Q9(x:B0):(Jy x).cells=[.int .i64 x.s.A0,.int .i64 x.s.parent,.int .i64 x.s.depth,.str x.s.name,.int .i64 x.s.lo,.int .i64 x.s.hi,.int .i64 x.s.self,.bool x.s.open_,.int .i64 x.number]:=rfl
def HU(c d:Int)(x:Ac):Ac:={x with lo:=max x.lo c-c,hi:=min x.hi d-c,open_:=x.open_||decide (d<x.hi)}
def Fc(c d:Int)(l:List Ac):Nat->List B0
 | 0=>[]
 | k+1=>if max (l.getD k default).lo c<min (l.getD k default).hi d then Fc c d l k++[⟨HU c d (l.getD k default),k,0,false⟩] else Fc c d l k
def Wt(c d:Int)(l:List Ac):∀k,(Fc c d l k).length<=k
 | 0=>AR _
 | k+1=>by
  have:=Wt c d l k;unfold Fc;split
  ·simp;omega
  omega
def z0S(s:Ac):Ac:={s with depth:=0}
def prC(q:List B0)(i:Nat):Int:=(plO q q.length (q.getD i default).s.parent).getD 0
def Q51(x y:B0):AT prog Gl 63 [.d (Jy x),.d (Jy y)] (.d (.int .i64 (HG x.s y.s))):=by
 refine FB ?_;refine acS func63 ntmps63 results63 ?_;simp only[zU,seval,B6,QA,Q9];refine⟨.inl Ax,Ak (MD _ _) ?_⟩;simp only[zU,seval,QA,Q9];refine Ak (MD _ _) ?_;simp only[zU,seval,QA,Q9];refine Ak (MD _ _) ?_;simp only[zU,seval,QA,Q9];refine Ag ?_;refine Uc 2 (λB hB=>Zd [EG x.s.lo y.s.lo,EG y.s.hi x.s.hi,EG x.s.A0 y.s.A0] A6 B hB) (λ_=>rfl) rfl ?_;simp only[zU,seval];exact D0
structure Qq where
 s:Ac
 BD:Int
deriving Inhabited
def Qq.A5(p:Qq):D:=.agg [.int .i64 p.s.A0,.int .i64 p.s.parent,.int .i64 p.s.depth,.str p.s.name,.int .i64 p.s.lo,.int .i64 p.s.hi,.int .i64 p.s.self,.bool p.s.open_,.int .i64 p.BD]
def toC(p:B0):Qq:=⟨p.s,p.number⟩
def pU:D->Qq
 | .agg [.int _ a,.int _ b,.int _ c,.str d,.int _ e,.int _ f,.int _ g,.bool h,.int _ i]=>⟨⟨a,b,c,d,e,f,g,h⟩,i⟩
 | _=>default
def Q8r(ps:List B0)(hl:ps.length<1000000):
  AW prog Gl 62 [.A8 0 0 ps.length,.fn 63 []] [.arr 9 (ps.map Jy)] (λr s=>r=.Aj []/\s=[.arr 9 ((HI ps).map Jy)]):=by
 have:=Tp (Gl:=Gl) (τ:=[]) u4 Qq.A5 pU (λa=>rfl) (λa=>⟨rfl,rfl⟩) (Wv Qq.s) 63 [] (λa b ys s hs=>(Q51 ⟨a.s,a.BD,0,false⟩ ⟨b.s,b.BD,0,false⟩) s) (ps.map toC) (by rw[BW];exact hl);rw[S9,Hs,Hs,BW] at this;exact this
def Bx(c d:Int)(l:List Ac):List B0:=HI (Fc c d l l.length)
def rl(l:List Ac)(c d:Int)(hl:l.length<900000)(hcd:0<=c/\c<d/\d<=1000000000000)(hb:∀x∈l,0<=x.lo/\x.lo<x.hi/\x.hi<=1000000000000)
  (hpr:∀i,i<(Bx c d l).length->∃v,plO (Bx c d l) (Bx c d l).length ((Bx c d l).getD i default).s.parent=some v/\-1<=v/\v<i) :
  AT prog Gl 24 [.d (.sl (l.map Ac.A5)),.d (sp2 c d)] (.d (.sl ((CW ((Bx c d l).map λp=>z0S p.s) (prC (Bx c d l)) (Bx c d l).length).map Ac.A5))):=by
 refine AT.Jv ?_;obtain⟨q,hq⟩:∃q,q=Bx c d l:=⟨_,rfl⟩;rw[<-hq] at hpr ⊢;unfold sp2;refine acS func24 ntmps24 results24 ?_;simp only[zU,seval,B6];refine Bm l.length (λk=>[(3,.ptr 0 0),(5,.A8 1 0 (Fc c d l k).length),(18,.d (.sl (l.map Ac.A5))),(19,(l.length:Int)),(20,(k:Int))]) (λk=>[.box 2 (.d (.agg [.int .i64 c,.int .i64 d])),.arr 9 ((Fc c d l k).map Jy)]) (λ_=>True) trivial ?_ ?_
 ·exact(Eb 5 9 rfl).trans (AU rfl)
 intro k _ hk;have hal:=Wt c d l k;by_cases h:k<l.length
 ·have hx:=hb _ (Ba h);have hst:Fc c d l (k+1)=if max (l.getD k default).lo c<min (l.getD k default).hi d then Fc c d l k++[⟨HU c d (l.getD k default),k,0,false⟩] else Fc c d l k:=rfl;rw[hst];generalize Fc c d l k=out at *;generalize hxx:l.getD k default=x at *;refine Rb ?_;refine Ak (Uf x.lo x.hi c d oo) ?_;simp only[zU,seval,sp2];apply ifC.mk<;>intro h1
  ·refine Lm ?_;refine Ag ?_;refine BA [] [0,5] rfl A6 ?_ ?_
   ·exact RY
   rw[CA,show List.take out.length (out.map Jy)=out.map Jy from Bi A6];rfl
  exact Rc
 have hk:k=l.length:=oo;subst hk;simp only[zU,seval,(oo:¬(l.length:Int)<l.length)];refine kR 1 A6 rfl (Q8r (Fc c d l l.length) oo) ?_;have hql:(Fc c d l l.length).length=q.length:=by rw[hq,Bx,HI,MG]
 rw[hql];rw[show HI (Fc c d l l.length)=q from hq.symm];simp only[zU,seval];have hqn:q.length<900000:=oo;have hqs:∀s∈q.map λp=>z0S p.s,s.depth=0/\0<=s.lo/\s.lo<=s.hi/\s.hi<=1000000000000:=by
  have hca:∀k,k<=l.length->∀p∈Fc c d l k,0<=p.s.lo/\p.s.lo<=p.s.hi/\p.s.hi<=1000000000000:=by
   intro k
   induction k with
   | zero=>intro _ p hp;cases hp
   | succ k ih=>
    intro hk p hp;unfold Fc at hp;split at hp
    ·rename_i hlt;rcases CH.1 hp with hp|hp
     ·exact ih oo p hp
     simp only[CG] at hp;have hx:=hb _ (Ba (oo:k<l.length));subst hp;simp only[HU];omega
    exact ih oo p hp
  intro s hs;obtain⟨p,hp,rfl⟩:=C4.1 hs;rw[hq,Bx] at hp;exact⟨rfl,hca _ (AR _) p ((LL _ _).subset hp)⟩
 refine CL (τ:=Nat×Sto) (λy=>[(55,(y.1:Int)),(54,(q.length:Int)),(53,.A8 1 0 q.length),(11,.AF 2),(5,.A8 1 0 q.length)]) (λy=>y.2)
  (λy=>y.1<=q.length/\A1 y.2 1=.arr 9 (q.map Jy)/\∃f,A1 y.2 2=.map (some .i64) f/\∀n,f (.i n)=(plO q y.1 n).map λv=>.d (.int .i64 v)) (λy=>q.length-y.1)
  (0,[.box 2 (.d (.agg [.int .i64 c,.int .i64 d])),.arr 9 (q.map Jy),.map (some .i64) (BO (λ_=>none) (.i (-1)) (.d (.int .i64 (-1))))]) ⟨Bq _,rfl,_,rfl,λn=>by
   simp only[MA,plO,Aw.i.injEq]
   split<;>rfl⟩ ?_ ?_
 ·exact Dd
 intro y hi;obtain⟨k,s⟩:=y;obtain⟨hk,f1,f,f2,hf⟩:=hi;simp only at hk f1 f2 hf;have m1:=AG f1 rfl;have m2:=AG f2 rfl;by_cases h:k<q.length
 ·simp only[zU,seval,(oo:(k:Int)<q.length),h,Af _ _ _ (oo:k<q.length),f1,f2,m1,m2,QA,Q9,a_w ((k:Int)+1)];have hmv:∀n,BO f (.i (q.getD k default).number) (.d (.int .i64 k)) (.i n)=(plO q (k+1) n).map λv=>AV.d (.int .i64 v):=λn=>by
   exact oh
  refine⟨(k+1,_),⟨h,?_,_,?_,hmv⟩,AQ,AU ?_⟩;rotate_left 2
  ·rfl
  ·simp only[zU,seval,f1,m1,m2]
  simp only[zU,seval,f2,m1,m2]
 have hk:k=q.length:=oo;subst hk;simp only[zU,seval,(oo:¬(q.length:Int)<q.length)];refine CL (τ:=Nat×Sto×Nat) (λy=>[(67,(y.1:Int)),(66,(q.length:Int)),(65,.A8 1 0 q.length),(14,.A8 y.2.2 0 y.1),(11,.AF 2)]) (λy=>y.2.1)
  (λy=>y.1<=q.length/\A1 y.2.1 1=.arr 9 (q.map Jy)/\A1 y.2.1 2=.map (some .i64) f/\A1 y.2.1 y.2.2=.arr 8 ((CW (q.map λp=>z0S p.s) (prC q) y.1).map Ac.A5)) (λy=>q.length-y.1)
  (0,s++[.arr 8 []],s.length) ⟨Bq _,(BB m1).trans f1,(BB m2).trans f2,Cd⟩ ?_ ?_
 ·exact(Eb 14 8 rfl).trans (AU rfl)
 intro y hi;obtain⟨k,s3,oid⟩:=y;obtain⟨hkl,g1,g2,g3⟩:=hi;simp only at hkl g1 g2 g3;have m1:=AG g1 rfl;have m2:=AG g2 rfl;have m3:=AG g3 rfl;have n1:oid≠1:=AX g3 g1 A6;have n2:oid≠2:=AX g3 g2 A6;by_cases h:k<q.length
 ·obtain⟨v,hv,hv1,hv2⟩:=hpr k h;have hpv:prC q k=v:=by rw[prC,hv];rfl
  have hlk:(f (.i (q.getD k default).s.parent))=some (.d (.int .i64 v)):=by rw[hf,hv];rfl
  have hob:=Rn hqs (pr:=prC q) (λi hi=>by
   obtain⟨v,h1,h2⟩:=hpr i Lj
   rw[prC,h1];exact h2) k (by simpa using hkl)
  have hol:=Jr (q.map λp=>z0S p.s) (prC q) k;have hgs:(q.map λp=>z0S p.s).getD k default=z0S (q.getD k default).s:=Lh;have hbq:=hqs _ (Ba (show k<(q.map λp=>z0S p.s).length by simpa using h));rw[hgs] at hbq;have hstep:CW (q.map λp=>z0S p.s) (prC q) (k+1)=GJ (CW (q.map λp=>z0S p.s) (prC q) k) (z0S (q.getD k default).s) v:=by
   show GJ _ _ _=_;rw[hpv,hgs]
  simp only[z0S] at hbq;generalize CW (q.map λp=>z0S p.s) (prC q) k=out at *;simp only[zU,seval,g1,g2,g3,m1,m2,m3,n1,n2,n1.symm,n2.symm,(oo:(k:Int)<q.length),h,Af _ _ _ (oo:k<q.length),QA,Q9,hlk,a_w ((q.getD k default).s.hi-(q.getD k default).s.lo),a_w ((k:Int)+1)];apply ifC.mk<;>intro hv0
  ·have hv0:0<=v:=by simpa using hv0
   obtain⟨w,rfl⟩:=M_ hv0;have hw:w<out.length:=oo;have hob1:=hob _ (Ba hw);simp only[zU,seval,g3,(oo:0<=(w:Int)),(oo:(w:Int)<out.length),hw,hol,Af _ _ _ (oo:w<out.length),a_w ((out.getD w default).depth+1),a_w ((out.getD w default).self-((q.getD k default).s.hi-(q.getD k default).s.lo))];refine⟨oo,oo,.inl Ax,?_⟩;refine Ag ?_;refine⟨(k+1,_,s3.length+3),⟨h,?_,?_,?_⟩,AQ,AU ?_⟩;rotate_left 3
   ·rfl
   ·simp only[zU,seval,g1,m1,m2,m3,n1,n2,n1.symm,n2.symm]
   ·simp only[zU,seval,g2,m1,m2,m3,n1,n2,n1.symm,n2.symm]
   exact pI
  refine Ag ?_;refine⟨(k+1,_,s3.length+3),⟨h,?_,?_,?_⟩,AQ,AU ?_⟩;rotate_left 3
  ·rfl
  ·simp only[zU,seval,g1,m1,m2,m3,n1,n2,n1.symm,n2.symm]
  ·simp only[zU,seval,g2,m1,m2,m3,n1,n2,n1.symm,n2.symm]
  exact pH
 have hk:k=q.length:=oo;subst hk;simp only[zU,seval,(oo:¬(q.length:Int)<q.length)];have hol:((CW (q.map λp=>z0S p.s) (prC q) q.length).map Ac.A5).length=q.length:=by rw[BW,Jr]
 refine⟨_,_,Hi (x:=D.sl ((CW (q.map λp=>z0S p.s) (prC q) q.length).map Ac.A5)) ?_ ?_,rfl,rfl⟩
 ·simp only[zU,seval,g3,hol]
 simp only[zU,seval,g3,hol];rw[Bi (Nv hol)]

def fmF{α β:Type}(p:α->Bool)(f:α->β)(l:List α):List β:=(l.filter p).map f
def N0{α β:Type}[Inhabited α](p:α->Bool)(f:α->β)(l:List α)(k:Nat)(h:k<l.length):fmF p f (l.take (k+1))=if p (l.getD k default)=true then fmF p f (l.take k)++[f (l.getD k default)] else fmF p f (l.take k):=by
 rw[CY l k h,fmF,P_,CA];by_cases e:p (l.getD k default)=true
 ·rw[AD e,J_ e];rfl
 rw[A7 e,J4 e,T0,E9,FY];rfl
def LC{α β:Type}(p:α->Bool)(f:α->β)(l:List α)(k:Nat):(fmF p f (l.take k)).length<=k:=by
 rw[fmF,BW];exact DC (Ge _ _) (Vi _ _)
def C_(c d lo hi:Int):Bool:=decide (max lo c<min hi d)
def JH(c d:Int)(x:BQ):BQ:={x with lo:=max x.lo c-c,hi:=min x.hi d-c,CD:=if d<x.hi then -1 else x.CD}
def PJ(c:Int)(x:Cb):Cb:={x with send:=x.send-c,recv:=x.recv-c}
def PK(c:Int)(x:Cw):Cw:={x with at_:=x.at_-c}
def Iz(c d:Int)(x:B4):B4:={x with lo:=max x.lo c-c,hi:=min x.hi d-c,live:=x.live||decide (d<x.hi)}
def PL(c d:Int)(x:ES):ES:={x with lo:=max x.lo c-c,hi:=min x.hi d-c}
def rm(l:List BQ)(c d:Int)(hl:l.length<900000)(hcd:0<=c/\c<d/\d<=1000000000000)(hb:∀x∈l,0<=x.lo/\x.lo<x.hi/\x.hi<=1000000000000):
  AT prog Gl 25 [.d (.sl (l.map BQ.A5)),.d (sp2 c d)] (.d (.sl ((fmF (λx=>C_ c d x.lo x.hi) (JH c d) l).map BQ.A5))):=by
 refine AT.Jv ?_;unfold sp2;refine acS func25 ntmps25 results25 ?_;simp only[zU,seval,B6];refine Bm l.length (λk=>[(3,.ptr 0 0),(5,.A8 1 0 (fmF (λx=>C_ c d x.lo x.hi) (JH c d) (l.take k)).length),(11,.d (.sl (l.map BQ.A5))),(12,(l.length:Int)),(13,(k:Int))]) (λk=>[.box 2 (.d (.agg [.int .i64 c,.int .i64 d])),.arr 7 ((fmF (λx=>C_ c d x.lo x.hi) (JH c d) (l.take k)).map BQ.A5)]) (λ_=>True) trivial ?_ ?_
 ·exact(Eb 5 7 rfl).trans (AU rfl)
 intro k _ hk;by_cases h:k<l.length
 ·have hal:=LC (λx=>C_ c d x.lo x.hi) (JH c d) l k;have hx:=hb _ (Ba h);rw[N0 (λx=>C_ c d x.lo x.hi) (JH c d) l k h];generalize fmF (λx=>C_ c d x.lo x.hi) (JH c d) (l.take k)=out at *;generalize hxx:l.getD k default=x at *;refine Rb ?_;refine Ak (Uf x.lo x.hi c d oo) ?_;simp only[zU,seval,sp2];have hp:C_ c d x.lo x.hi=decide (max x.lo c<min x.hi d):=rfl;rw[hp];apply ifC.mk<;>intro h1
  ·exact Rc
  refine Lm ?_;unfold JH;apply ifC.mk<;>intro h2
  ·rw[AD DN];exact mE
  rw[A7 DN];exact mE
 have hk:k=l.length:=oo;subst hk;simp only[zU,seval,(oo:¬(l.length:Int)<l.length),BL];refine⟨_,_,Hi rfl ?_,rfl,rfl⟩;simp only[zU,seval,HQ]
def Qe3(l:List Cb)(c d:Int)(hl:l.length<900000)(hcd:0<=c/\c<d/\d<=1000000000000)(hb:∀x∈l,0<=x.send/\x.send<=1000000000000/\0<=x.recv/\x.recv<=1000000000000):
  AT prog Gl 26 [.d (.sl (l.map Cb.A5)),.d (sp2 c d)] (.d (.sl ((fmF (λx=>ET c d x.send&&ET c d x.recv) (PJ c) l).map Cb.A5))):=by
 refine AT.Jv ?_;unfold sp2;refine acS func26 ntmps26 results26 ?_;simp only[zU,seval,B6];refine Bm l.length (λk=>[(3,.ptr 0 0),(5,.A8 1 0 (fmF (λx=>ET c d x.send&&ET c d x.recv) (PJ c) (l.take k)).length),(8,.d (.sl (l.map Cb.A5))),(9,(l.length:Int)),(10,(k:Int))]) (λk=>[.box 2 (.d (.agg [.int .i64 c,.int .i64 d])),.arr 7 ((fmF (λx=>ET c d x.send&&ET c d x.recv) (PJ c) (l.take k)).map Cb.A5)]) (λ_=>True) trivial ?_ ?_
 ·exact(Eb 5 7 rfl).trans (AU rfl)
 intro k _ hk;by_cases h:k<l.length
 ·have hal:=LC (λx=>ET c d x.send&&ET c d x.recv) (PJ c) l k;have hx:=hb _ (Ba h);rw[N0 (λx=>ET c d x.send&&ET c d x.recv) (PJ c) l k h];generalize fmF (λx=>ET c d x.send&&ET c d x.recv) (PJ c) (l.take k)=out at *;generalize hxx:l.getD k default=x at *;refine Rb ?_;refine Ak (Oa c d x.send) ?_;simp only[zU,seval];refine DS (λ_=>Oa c d x.recv) ?_;simp only[zU,seval,a_w (x.send-c),a_w (x.recv-c)];apply ifC.mk<;>intro h1
  ·refine Lm ?_;refine Ag ?_;refine BA [] [0,4] rfl A6 ?_ ?_
   ·exact RY
   rw[CA,show List.take out.length (out.map Cb.A5)=out.map Cb.A5 from Bi A6];rfl
  exact Rc
 have hk:k=l.length:=oo;subst hk;simp only[zU,seval,(oo:¬(l.length:Int)<l.length),BL];refine⟨_,_,Hi rfl ?_,rfl,rfl⟩;simp only[zU,seval,HQ]
def tC(l:List Cw)(c d:Int)(hl:l.length<900000)(hcd:0<=c/\c<d/\d<=1000000000000)(hb:∀x∈l,0<=x.at_/\x.at_<=1000000000000):
  AT prog Gl 27 [.d (.sl (l.map Cw.A5)),.d (sp2 c d)] (.d (.sl ((fmF (λx=>ET c d x.at_) (PK c) l).map Cw.A5))):=by
 refine AT.Jv ?_;unfold sp2;refine acS func27 ntmps27 results27 ?_;simp only[zU,seval,B6];refine Bm l.length (λk=>[(3,.ptr 0 0),(5,.A8 1 0 (fmF (λx=>ET c d x.at_) (PK c) (l.take k)).length),(8,.d (.sl (l.map Cw.A5))),(9,(l.length:Int)),(10,(k:Int))]) (λk=>[.box 2 (.d (.agg [.int .i64 c,.int .i64 d])),.arr 4 ((fmF (λx=>ET c d x.at_) (PK c) (l.take k)).map Cw.A5)]) (λ_=>True) trivial ?_ ?_
 ·exact(Eb 5 4 rfl).trans (AU rfl)
 intro k _ hk;by_cases h:k<l.length
 ·have hal:=LC (λx=>ET c d x.at_) (PK c) l k;have hx:=hb _ (Ba h);rw[N0 (λx=>ET c d x.at_) (PK c) l k h];generalize fmF (λx=>ET c d x.at_) (PK c) (l.take k)=out at *;generalize hxx:l.getD k default=x at *;refine Rb ?_;refine Ak (Oa c d x.at_) ?_;simp only[zU,seval,a_w (x.at_-c)];apply ifC.mk<;>intro h1
  ·refine Lm ?_;refine Ag ?_;refine BA [] [0,4] rfl A6 ?_ ?_
   ·exact RY
   exact oH
  exact Rc
 have hk:k=l.length:=oo;subst hk;simp only[zU,seval,(oo:¬(l.length:Int)<l.length),BL];refine⟨_,_,Hi rfl ?_,rfl,rfl⟩;simp only[zU,seval,HQ]
def rj(l:List B4)(c d:Int)(hl:l.length<900000)(hcd:0<=c/\c<d/\d<=1000000000000)(hb:∀x∈l,0<=x.lo/\x.lo<x.hi/\x.hi<=1000000000000):
  AT prog Gl 29 [.d (.sl (l.map B4.A5)),.d (sp2 c d)] (.d (.sl ((fmF (λx=>C_ c d x.lo x.hi) (Iz c d) l).map B4.A5))):=by
 refine AT.Jv ?_;unfold sp2;refine acS func29 ntmps29 results29 ?_;simp only[zU,seval,B6];refine Bm l.length (λk=>[(3,.ptr 0 0),(5,.A8 1 0 (fmF (λx=>C_ c d x.lo x.hi) (Iz c d) (l.take k)).length),(11,.d (.sl (l.map B4.A5))),(12,(l.length:Int)),(13,(k:Int))]) (λk=>[.box 2 (.d (.agg [.int .i64 c,.int .i64 d])),.arr 7 ((fmF (λx=>C_ c d x.lo x.hi) (Iz c d) (l.take k)).map B4.A5)]) (λ_=>True) trivial ?_ ?_
 ·exact(Eb 5 7 rfl).trans (AU rfl)
 intro k _ hk;by_cases h:k<l.length
 ·have hal:=LC (λx=>C_ c d x.lo x.hi) (Iz c d) l k;have hx:=hb _ (Ba h);rw[N0 (λx=>C_ c d x.lo x.hi) (Iz c d) l k h];generalize fmF (λx=>C_ c d x.lo x.hi) (Iz c d) (l.take k)=out at *;generalize hxx:l.getD k default=x at *;refine Rb ?_;refine Ak (Uf x.lo x.hi c d oo) ?_;simp only[zU,seval,sp2];have hp:C_ c d x.lo x.hi=decide (max x.lo c<min x.hi d):=rfl;rw[hp];apply ifC.mk<;>intro h1
  ·refine Lm ?_;refine Ag ?_;refine BA [] [0,5] rfl A6 ?_ ?_
   ·exact RY
   rw[CA,show List.take out.length (out.map B4.A5)=out.map B4.A5 from Bi A6];rfl
  exact Rc
 have hk:k=l.length:=oo;subst hk;simp only[zU,seval,(oo:¬(l.length:Int)<l.length),BL];refine⟨_,_,Hi rfl ?_,rfl,rfl⟩;simp only[zU,seval,HQ]
def rk(l:List ES)(c d:Int)(hl:l.length<900000)(hcd:0<=c/\c<d/\d<=1000000000000)(hb:∀x∈l,0<=x.lo/\x.lo<x.hi/\x.hi<=1000000000000):
  AT prog Gl 30 [.d (.sl (l.map ES.A5)),.d (sp2 c d)] (.d (.sl ((fmF (λx=>C_ c d x.lo x.hi) (PL c d) l).map ES.A5))):=by
 refine AT.Jv ?_;unfold sp2;refine acS func30 ntmps30 results30 ?_;simp only[zU,seval,B6];refine Bm l.length (λk=>[(3,.ptr 0 0),(5,.A8 1 0 (fmF (λx=>C_ c d x.lo x.hi) (PL c d) (l.take k)).length),(11,.d (.sl (l.map ES.A5))),(12,(l.length:Int)),(13,(k:Int))]) (λk=>[.box 2 (.d (.agg [.int .i64 c,.int .i64 d])),.arr 4 ((fmF (λx=>C_ c d x.lo x.hi) (PL c d) (l.take k)).map ES.A5)]) (λ_=>True) trivial ?_ ?_
 ·exact(Eb 5 4 rfl).trans (AU rfl)
 intro k _ hk;by_cases h:k<l.length
 ·have hal:=LC (λx=>C_ c d x.lo x.hi) (PL c d) l k;have hx:=hb _ (Ba h);rw[N0 (λx=>C_ c d x.lo x.hi) (PL c d) l k h];generalize fmF (λx=>C_ c d x.lo x.hi) (PL c d) (l.take k)=out at *;generalize hxx:l.getD k default=x at *;refine Rb ?_;refine Ak (Uf x.lo x.hi c d oo) ?_;simp only[zU,seval,sp2];have hp:C_ c d x.lo x.hi=decide (max x.lo c<min x.hi d):=rfl;rw[hp];apply ifC.mk<;>intro h1
  ·refine Lm ?_;refine Ag ?_;refine BA [] [0,5] rfl A6 ?_ ?_
   ·exact RY
   rw[CA,show List.take out.length (out.map ES.A5)=out.map ES.A5 from Bi A6];rfl
  exact Rc
 have hk:k=l.length:=oo;subst hk;simp only[zU,seval,(oo:¬(l.length:Int)<l.length),BL];refine⟨_,_,Hi rfl ?_,rfl,rfl⟩;simp only[zU,seval,HQ]

def stC(c d:Int)(out:List C2)(x:C2):List C2:=
 if d<=x.at_ then out
 else if out.length≠0/\(out.getD (out.length-1) default).name=x.name/\max (x.at_-c) 0=0 then out.set (out.length-1) {x with at_:=max (x.at_-c) 0} else out++[{x with at_:=max (x.at_-c) 0}]
def LU(c d:Int)(l:List C2):List C2:=l.foldl (stC c d) []
def ug(c d:Int)(out:List C2)(x:C2):(stC c d out x).length<=out.length+1:=by
 unfold stC;split
 ·omega
 split<;>simp
def cV(c d:Int)(l:List C2)(k:Nat)(h:k<l.length):LU c d (l.take (k+1))=stC c d (LU c d (l.take k)) (l.getD k default):=by rw[CY l k h,LU,GD];rfl
def fq(c d:Int)(l:List C2):∀k,k<=l.length->(LU c d (l.take k)).length<=k
 | 0,_=>AR _
 | k+1,h=>by
  rw[cV c d l k h];have:=fq c d l k oo;have:=ug c d (LU c d (l.take k)) (l.getD k default);omega
def Qe2(l:List C2)(c d:Int)(hl:l.length<900000)(hcd:0<=c/\c<d/\d<=1000000000000)(hb:∀x∈l,0<=x.at_/\x.at_<=1000000000000):
  AT prog Gl 28 [.d (.sl (l.map C2.A5)),.d (sp2 c d)] (.d (.sl ((LU c d l).map C2.A5))):=by
 refine AT.Jv ?_;unfold sp2;refine acS func28 ntmps28 results28 ?_;simp only[zU,seval,B6];refine Bm l.length (λk=>[(3,.ptr 0 0),(5,.A8 1 0 (LU c d (l.take k)).length),(9,.d (.sl (l.map C2.A5))),(10,(l.length:Int)),(11,(k:Int))]) (λk=>[.box 2 (.d (.agg [.int .i64 c,.int .i64 d])),.arr 3 ((LU c d (l.take k)).map C2.A5)]) (λ_=>True) trivial ?_ ?_
 ·exact(Eb 5 3 rfl).trans (AU rfl)
 intro k _ hk;by_cases h:k<l.length
 ·have hal:=fq c d l k hk;have hx:=hb _ (Ba h);rw[cV c d l k h,stC];generalize LU c d (l.take k)=out at *;generalize hxx:l.getD k default=x at *;simp only[zU,seval,(oo:(k:Int)<l.length),h,Af _ _ _ (oo:k<l.length),hxx,a_w ((k:Int)+1),a_w (x.at_-c)];apply ifC.mk<;>intro h1
  ·refine Lm ?_;refine BA [] [0,1] rfl A6 ?_ rfl;exact WU
  rw[A7 Cz];by_cases h0:out=[]
  ·subst h0;rw[A7 A6]
   (try simp only[zU,seval,C6,E9,a_w ((-1:Int)),a_w ((k:Int)+1)])
   exact mW
  have hp0:0<out.length:=RA.2 h0;have e1:IntKind.i64.wrap ((out.length:Int)-1)=((out.length-1:Nat):Int):=Bz
  (try simp only[zU,seval,(oo:(0:Int)<out.length),e1,(oo:((out.length-1:Nat):Int)<out.length),(oo:out.length-1<out.length),Af _ _ _ (oo:out.length-1<out.length)])
  refine Ag ?_;apply ifC.mk<;>intro h2
  ·have h2:(out.getD (out.length-1) default).name=x.name/\max (x.at_-c) 0=0:=DN;rw[AD ⟨oo,h2⟩];refine BA [] [0,1] rfl A6 ?_ ?_
   ·rw[BH];rfl
   rw[JS];rfl
  have h2:¬((out.getD (out.length-1) default).name=x.name/\max (x.at_-c) 0=0):=DN;rw[A7 (λh=>h2 h.2)];refine Ag ?_;refine BA [] [0,4] rfl A6 ?_ ?_
  ·refine Po ?_;rfl
  rw[CA,show List.take out.length (out.map C2.A5)=out.map C2.A5 from Bi A6];rfl
 have hk:k=l.length:=oo;subst hk;simp only[zU,seval,(oo:¬(l.length:Int)<l.length),BL];refine⟨_,_,Hi rfl ?_,rfl,rfl⟩;simp only[zU,seval,HQ]
def De(t:EY)(a b:Int):EY:=
 {lo:=0,hi:=b-a,threads:=t.threads,AE:=CW ((Bx a b t.AE).map λp=>z0S p.s) (prC (Bx a b t.AE)) (Bx a b t.AE).length,AS:=fmF (λx=>C_ a b x.lo x.hi) (JH a b) t.AS,
  Bk:=fmF (λx=>ET a b x.send&&ET a b x.recv) (PJ a) t.Bk,samples:=fmF (λx=>ET a b x.at_) (PK a) t.samples,steps:=LU a b t.steps,blocks:=fmF (λx=>C_ a b x.lo x.hi) (Iz a b) t.blocks,lost:=fmF (λx=>C_ a b x.lo x.hi) (PL a b) t.lost}
structure YL(t:EY)(a b:Int):Prop where
 IS:t.AE.length<900000/\t.AS.length<900000/\t.Bk.length<900000/\t.samples.length<900000/\t.steps.length<900000/\t.blocks.length<900000/\t.lost.length<900000
 sl:∀x∈t.AE,0<=x.lo/\x.lo<x.hi/\x.hi<=1000000000000
 st:∀x∈t.AS,0<=x.lo/\x.lo<x.hi/\x.hi<=1000000000000
 fl:∀x∈t.Bk,0<=x.send/\x.send<=1000000000000/\0<=x.recv/\x.recv<=1000000000000
 sm:∀x∈t.samples,0<=x.at_/\x.at_<=1000000000000
 sp:∀x∈t.steps,0<=x.at_/\x.at_<=1000000000000
 bl:∀x∈t.blocks,0<=x.lo/\x.lo<x.hi/\x.hi<=1000000000000
 lo:∀x∈t.lost,0<=x.lo/\x.lo<x.hi/\x.hi<=1000000000000
 pr:∀i,i<(Bx a b t.AE).length->∃v,plO (Bx a b t.AE) (Bx a b t.AE).length ((Bx a b t.AE).getD i default).s.parent=some v/\-1<=v/\v<i
def kn(t:EY)(ht:t.GC)(hv:My t=0)(h0:t.lo=0)(a b:Int)(hab:0<=a/\a<b/\b<=t.hi/\t.hi<=1000000000000)(hC:YL t a b):
  AT prog Gl 7 [.d t.A5,.d (sp2 a b)] (.Aj [.d (De t a b).A5,(0:Int)]):=by
 refine AT.Fx ?_;unfold sp2;refine acS func7 ntmps7 results7 ?_;simp only[zU,seval,B6];refine Ak (tL t ht) ?_;rw[hv];simp only[zU,seval];refine Ak (Q1 a b) ?_;rw[show Gp a b=true by simp only[Gp,C5,CZ];omega];have e1:max a t.lo=a:=oo;have e2:min b t.hi=b:=oo;simp only[zU,seval,e1,e2,(oo:¬b<=a),a_w (b-a)];refine Ak (rl t.AE a b hC.IS.1 oo hC.sl hC.pr) ?_;simp only[zU,seval];refine Ak (rm t.AS a b hC.IS.2.1 oo hC.st) ?_;simp only[zU,seval];refine Ak (Qe3 t.Bk a b hC.IS.2.2.1 oo hC.fl) ?_;simp only[zU,seval];refine Ak (tC t.samples a b hC.IS.2.2.2.1 oo hC.sm) ?_;simp only[zU,seval];refine Ak (Qe2 t.steps a b hC.IS.2.2.2.2.1 oo hC.sp) ?_;simp only[zU,seval];refine Ak (rj t.blocks a b hC.IS.2.2.2.2.2.1 oo hC.bl) ?_;simp only[zU,seval];refine Ak (rk t.lost a b hC.IS.2.2.2.2.2.2 oo hC.lo) ?_;simp only[zU,seval];exact⟨_,_,KY,rfl,rfl⟩

def List.reverseRecOn'{α:Type}{motive:List α->Prop}(l:List α)(nil:motive [])(snoc:∀l x,motive l->motive (l++[x])):motive l:=by
 have:∀r:List α,motive r.reverse:=λr=>by
  induction r with
  | nil=>exact nil
  | cons x r ih=>rw[Vb];exact snoc _ _ ih
 have h:=this l.reverse
 rwa [List.reverse_reverse] at h
structure SpT where
 lo:Int
 hi:Int
deriving DecidableEq,Inhabited
def cov(L:List SpT)(t:Int):Bool:=L.any λs=>decide (s.lo<=t)&&decide (t<s.hi)
def cnt(p:Int->Bool):Nat->Int
 | 0=>0
 | n+1=>cnt p n+if p n=true then 1 else 0
def QJ{p q:Int->Bool}:∀{n:Nat},(∀t:Int,0<=t->t<n->p t=q t)->cnt p n=cnt q n
 | 0,_=>rfl
 | n+1,h=>by
  rw[cnt,cnt,QJ (n:=n) λt h1 h2=>h t h1 oo,h n oo oo]
def kS{p:Int->Bool}:∀{n:Nat},(∀t:Int,0<=t->t<n->p t=false)->cnt p n=0
 | 0,_=>rfl
 | n+1,h=>by rw[cnt,kS (n:=n) λt h1 h2=>h t h1 oo,h n oo oo];rfl
def ZK{p q:Int->Bool}:∀{n:Nat},(∀t:Int,0<=t->t<n->p t=true->q t=false)->cnt (λt=>p t||q t) n=cnt p n+cnt q n
 | 0,_=>rfl
 | n+1,h=>by
  rw[cnt,cnt,cnt,ZK (n:=n) λt h1 h2=>h t h1 oo];have:=h n oo oo;cases hp:p n<;>cases hq:q n<;>simp_all<;>omega
def UE(a b:Int)(ha:0<=a):∀n:Nat,cnt (λt=>decide (a<=t)&&decide (t<b)) n=max 0 (min b n-a)
 | 0=>by simp only[cnt];omega
 | n+1=>by
  rw[cnt,UE a b ha n];by_cases h1:a<=(n:Int)<;>by_cases h2:(n:Int)<b<;>simp[h1,h2]<;>omega
def gX(p:Int->Bool)(a:Nat):∀n:Nat,cnt p (a+n)=cnt p a+cnt (λt=>p (t+a)) n
 | 0=>by simp[cnt]
 | n+1=>by
  rw[<-G1,cnt,gX p a n,cnt,Int.add_assoc];have e:((a+n:Nat):Int)=(n:Int)+a:=oo;rw[e]
def LA(out:List SpT)(s:SpT):List SpT:=
 match out with
 | []=>[s]
 | x::r=>if s.lo<=x.hi then {x with hi:=max x.hi s.hi}::r else s::x::r
def EL(L:List SpT):List SpT:=L.foldl LA []
def P8(L:List SpT):Int:=L.foldr (λs n=>s.hi-s.lo+n) 0
def Q8(L:List SpT)(s:SpT)(t:Int):cov (L++[s]) t=(cov L t||(decide (s.lo<=t)&&decide (t<s.hi))):=by simp[cov,aP]
def wZ{n:Nat}:∀{L:List SpT},(∀s∈L,0<=s.lo/\s.lo<s.hi/\s.hi<=n)->L.Pairwise (λa b=>a.lo<=b.lo) ->
  P8 (EL L)=cnt (cov L) n/\(L≠[]->∃x r,EL L=x::r/\(∀t,x.lo<=t->(cov L t=decide (t<x.hi)))/\(∀s∈L,x.lo<=s.lo\/s.hi<x.lo)/\0<=x.lo/\x.lo<x.hi/\x.hi<=n/\∃s∈L,s.lo=x.lo):=by
 intro L;obtain⟨m,hm⟩:∃m,m=L.length:=⟨_,rfl⟩
 induction m generalizing L with
 | zero=>
  intro _ _;have:L=[]:=G3 hm.symm;subst this;exact⟨(kS λt _ _=>rfl).symm,λh=>absurd rfl h⟩
 | succ m ih=>
  intro hL hp;rcases RE L with rfl|⟨v,s,rfl⟩
  ·simp at hm
  rw[RD] at hm hL hp ⊢;have hv:m=v.length:=by rw[Bb] at hm;simp at hm;exact hm
  obtain⟨i1,i2⟩:=ih hv (λx hx=>hL x (Hw _ hx)) (JZ.1 hp).1;have hs:=hL s A6;have hlow:∀x∈v,x.lo<=s.lo:=λx hx=>(JZ.1 hp).2.2 x hx s A6;have e:EL (v++[s])=LA (EL v) s:=by unfold EL;rw[GD];rfl
  rw[e];have cc:cnt (cov (v++[s])) n=cnt (λt=>cov v t||(decide (s.lo<=t)&&decide (t<s.hi))) n:=QJ λt _ _=>Q8 v s t;by_cases hv0:v=[]
  ·subst hv0;have e2:EL ([]:List SpT)=[]:=rfl;rw[e2,cc];refine⟨?_,λ_=>⟨s,[],rfl,λt ht=>?_,λx hx=>?_,oo,oo,oo,s,A6,rfl⟩⟩
   ·have:=UE s.lo s.hi hs.1 n;show s.hi-s.lo+0=_;rw[QJ (q:=λt=>decide (s.lo<=t)&&decide (t<s.hi)) λt _ _=>by simp[cov],this];omega
   ·simp[cov,ht]
   simp at hx;subst hx;exact .inl (EP _)
  obtain⟨x,r,hx,hc,hd,h0,h1,h2,w,hw,hwl⟩:=i2 hv0;rw[hx] at i1 ⊢;have hxs:x.lo<=s.lo:=by have:=hlow w hw;omega
  have hlen:P8 (x::r)=x.hi-x.lo+P8 r:=rfl;rw[hlen] at i1;by_cases hj:s.lo<=x.hi
  ·have ej:LA (x::r) s={x with hi:=max x.hi s.hi}::r:=AD hj;rw[ej,cc];have key:cnt (λt=>cov v t||(decide (s.lo<=t)&&decide (t<s.hi))) n=cnt (λt=>cov v t||(decide (x.hi<=t)&&decide (t<s.hi))) n:=QJ λt _ _=>by
    by_cases ht:x.lo<=t
    ·rw[hc t ht];by_cases h3:t<x.hi
     ·simp[h3]
     have h4:x.hi<=t:=oo;have h5:s.lo<=t:=oo;simp[h3,h4,h5]
    have h4:¬x.hi<=t:=oo;have h5:¬s.lo<=t:=oo;simp[h4,h5]
   refine⟨?_,λ_=>⟨_,r,rfl,λt ht=>?_,λy hy=>?_,h0,by show x.lo<max x.hi s.hi;omega,by show max x.hi s.hi<=n;omega,w,Hw _ hw,hwl⟩⟩
   ·rw[key,ZK λt _ _ h3=>by
     by_cases ht:x.hi<=t
     ·exact nB
     simp[ht],UE x.hi s.hi oo n,<-i1]
    show max x.hi s.hi-x.lo+P8 r=_;omega
   ·have ht:x.lo<=t:=ht;rw[Q8,hc t ht];show _=decide (t<max x.hi s.hi);by_cases h3:t<x.hi
    ·have:t<max x.hi s.hi:=oo;simp[h3,this]
    by_cases h4:t<s.hi
    ·have:t<max x.hi s.hi:=oo;have h5:s.lo<=t:=oo;simp[h4,h5,this]
    have:¬t<max x.hi s.hi:=oo;simp[h3,h4,this]
   rcases CH.1 hy with hy|hy
   ·exact hd y hy
   simp at hy;subst hy;exact .inl hxs
  have ej:LA (x::r) s=s::x::r:=A7 hj;rw[ej,cc];refine⟨?_,λ_=>⟨s,x::r,rfl,λt ht=>?_,λy hy=>?_,oo,oo,oo,s,A6,rfl⟩⟩
  ·rw[ZK λt _ _ h3=>by
    by_cases ht:s.lo<=t
    ·exact nB
    simp[ht],UE s.lo s.hi hs.1 n,<-i1]
   show s.hi-s.lo+(x.hi-x.lo+P8 r)=_;omega
  ·rw[Q8,hc t oo];have h3:¬t<x.hi:=oo;simp[h3,ht]
  rcases CH.1 hy with hy|hy
  ·right;have hle:=hlow y hy;apply PY;intro h3;have h5:=(hL y (Hw _ hy)).2.1;have hy2:cov v x.hi=true\/y.hi<=x.hi:=by
    by_cases h4:y.hi<=x.hi
    ·exact .inr h4
    left;unfold cov;rw[K6];by_cases h6:y.lo<=x.hi
    ·exact⟨y,hy,by simp[h6];omega⟩
    exfalso;have hz:cov v y.lo=true:=by
     unfold cov;rw[K6];exact⟨y,hy,Ap⟩
    rw[hc y.lo oo] at hz;have:=Es hz;omega
   rcases hy2 with h4|h4
   ·rw[hc x.hi oo] at h4;have:=Es h4;omega
   omega
  simp at hy;subst hy;exact .inl (EP _)
def Zi(c d:Int)(s:SpT):SpT:=⟨max s.lo c-c,min s.hi d-c⟩
def Si(c d:Int)(s:SpT):Bool:=decide (max s.lo c<min s.hi d)
def Lb(c d:Int)(L:List SpT):List SpT:=(L.filter (Si c d)).map (Zi c d)
def jP{c d:Int}{L:List SpT}{t:Int}(h0:0<=t)(h1:t+c<d):cov (Lb c d L) t=cov L (t+c):=by
 unfold cov Lb;rw[List.any_map,aO,K6,K6];constructor
 ·rintro⟨s,hs,h⟩;obtain⟨h2,h3⟩:=GP.1 hs;refine⟨s,h2,?_⟩;have h:(decide (max s.lo c-c<=t)&&decide (t<min s.hi d-c))=true:=h;simp only[C5,CZ] at h ⊢;omega
 rintro⟨s,hs,h⟩;simp only[C5,CZ] at h;refine⟨s,GP.2 ⟨hs,?_⟩,?_⟩
 ·unfold Si;rw[CZ];omega
 show(decide (max s.lo c-c<=t)&&decide (t<min s.hi d-c))=true;simp only[C5,CZ];omega
def Qfw{a n:Nat}(L:List SpT):cnt (cov (Lb 0 a L)) a+cnt (cov (Lb a ((a+n:Nat):Int) L)) n=cnt (cov L) (a+n):=by
 rw[gX];congr 1
 ·exact QJ λt h1 h2=>by rw[jP h1 oo,Int.add_zero]
 exact QJ λt h1 h2=>jP h1 oo
def UF{L M:List SpT}(h:L.Perm M):cov L=cov M:=by
 funext t;unfold cov;rw[aO,K6,K6];exact⟨λ⟨s,a,b⟩=>⟨s,h.mem_iff.1 a,b⟩,λ⟨s,a,b⟩=>⟨s,h.mem_iff.2 a,b⟩⟩
def UT(L:List SpT)(s:SpT):EL (L++[s])=LA (EL L) s:=by simp[EL,GD]
def fL{n:Int}:∀{L:List SpT},(∀s∈L,0<=s.lo/\s.lo<s.hi/\s.hi<=n)->∀s∈EL L,0<=s.lo/\s.lo<s.hi/\s.hi<=n:=by
 intro L
 induction L using List.reverseRecOn' with
 | nil=>intro _ s hs;cases hs
 | snoc L x ih=>
  intro h s hs;have hx:=h x A6;have ih:=ih λs hs=>h s (by simp[hs]);rw[UT] at hs;unfold LA at hs;split at hs
  ·simp at hs;subst hs;exact hx
  rename_i y r hy;have hy1:=ih y (by rw[hy];simp);split at hs
  ·rcases Bw.1 hs with rfl|hs
   ·exact Ky
   exact ih s (by rw[hy];simp[hs])
  rcases Bw.1 hs with rfl|hs
  ·exact hx
  exact ih s (by rw[hy];exact hs)
def wY:∀{L:List SpT},L.Pairwise (λa b=>a.lo<=b.lo)->(∀t,cov (EL L) t=cov L t)/\∀s∈EL L,∃x∈L,x.lo=s.lo:=by
 intro L
 induction L using List.reverseRecOn' with
 | nil=>intro _;exact⟨λt=>rfl,λs hs=>by cases hs⟩
 | snoc L x ih=>
  intro h;rw[JZ] at h;obtain⟨ih1,ih2⟩:=ih h.1;rw[UT];unfold LA;split
  ·rename_i hy;refine⟨λt=>?_,λs hs=>⟨x,A6,by simp at hs;rw[hs]⟩⟩;rw[Q8,<-ih1,hy];simp[cov]
  rename_i y r hy;obtain⟨z,hz,hzy⟩:=ih2 y (by rw[hy];simp);have hle:=h.2.2 z hz x A6;have hcov:∀t,cov L t=((decide (y.lo<=t)&&decide (t<y.hi))||cov r t):=λt=>by rw[<-ih1,hy];simp[cov]
  split
  ·rename_i hj;refine⟨λt=>?_,λs hs=>?_⟩
   ·rw[Q8,hcov];show((decide (y.lo<=t)&&decide (t<max y.hi x.hi))||cov r t)=_;cases cov r t
    ·simp only[Le];rw[aO];simp only[C5,Gc,CZ];omega
    simp
   rcases Bw.1 hs with rfl|hs
   ·exact⟨z,by simp[hz],hzy⟩
   obtain⟨u,hu,e⟩:=ih2 s (by rw[hy];simp[hs]);exact⟨u,by simp[hu],e⟩
  refine⟨λt=>?_,λs hs=>?_⟩
  ·rw[Q8,hcov];show((decide (x.lo<=t)&&decide (t<x.hi))||((decide (y.lo<=t)&&decide (t<y.hi))||cov r t))=_;rw[Bool.or_comm]
  rcases Bw.1 hs with rfl|hs
  ·exact⟨s,A6,rfl⟩
  obtain⟨u,hu,e⟩:=ih2 s (by rw[hy];exact hs);exact⟨u,by simp[hu],e⟩
end YtafpldmnkcegmaaGreat
end Go.Proofs
