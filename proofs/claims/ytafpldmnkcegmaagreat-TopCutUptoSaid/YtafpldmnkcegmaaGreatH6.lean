/- A part of the proof: contracts of functions of this seat, and lemmas. No condition beyond those stated. -/
import Derived.Test.YtafpldmnkcegmaaGreatH5
import Derived.Test.YtafpldmnkcegmaaGreatH2
import Derived.Test.YtafpldmnkcegmaaGreatG4
import Derived.Test.YtafpldmnkcegmaaGreatH3
set_option linter.all false
set_option maxRecDepth 100000
namespace Go.Proofs
open Go.AM Tryz
namespace YtafpldmnkcegmaaGreat
def uC{a b:C2}(h:HM a b≠0)(h2:¬HM b a<0):HM a b<0:=by
 rw[NQ] at h2 ⊢;rw[ne_eq,Qd9] at h;rcases Ul a.name b.name with⟨q1,_⟩|⟨_,q2,_⟩|⟨_,_,q3,_⟩
 ·exact .inl q1
 ·refine .inr ⟨q2,?_⟩;apply PY;intro h3;by_cases h4:b.at_<a.at_
  ·exact h2 (.inr ⟨q2.symm,h4⟩)
  exact h ⟨q2,oo⟩
 exact absurd (.inl q3) h2
def xp{A9:List An}{o:List AN}(h:EvO A9 o):Mn (csF o)=0/\∀x∈csF o,(0<=x.at_/\x.at_<=1000000000000)/\∃y∈o,x.at_=Am y.lo:=by
 have hp:(DZ ltB (Eo o)).Pairwise λa b=>ltB b a=false:=fi (λa b c h1 h2=>by
  simp only[ltB,GG] at *;exact SS.inc _ _ _ h1 h2) (λa b h=>by
  simp only[ltB,CZ,GG] at *
  intro h2;exact SS.Qc _ (SS.tr _ _ _ h h2))
 have hm:∀x∈DZ ltB (Eo o),FE x.name=0/\Sf x=false/\(0<=x.at_/\x.at_<=1000000000000)/\∃y∈o,x.at_=Am y.lo:=λx hx=>by
  rw[(LL _ _).mem_iff] at hx;obtain⟨y,hy,rfl⟩:=C4.1 hx;obtain⟨h1,h2⟩:=GP.1 hy;have he:=pX (h.ev y h1) (by simpa[PI] using h2);have c1:=Iq y.lo;have c2:=MB y.lo;refine⟨he.1,?_,⟨c1,c2⟩,y,h1,rfl⟩;show(decide (Am y.lo<0)||decide (1000000000000<Am y.lo)||!(decide (-1000000000000000<=y.ev.n)&&decide (y.ev.n<=1000000000000000)))=false;rw[HX (oo:¬Am y.lo<0),HX (oo:¬1000000000000<Am y.lo),JU he.2.1,JU he.2.2];rfl
 unfold csF;generalize DZ ltB (Eo o)=S at *;have inv:∀k,k<=S.length->(∀y∈ocF S k,y∈S)/\(0<(ocF S k).length->∀j,k<=j->j<S.length->HM ((ocF S k).getD ((ocF S k).length-1) default) (S.getD j default)<0)/\∀j,j+1<(ocF S k).length->Qy ((ocF S k).getD j default) ((ocF S k).getD (j+1) default)=false:=by
  intro k
  induction k with
  | zero=>intro _;exact⟨λy hy=>OC,λhh=>absurd hh (F9 _),λj hj=>absurd hj (F9 _)⟩
  | succ k ih=>
   intro hk;obtain⟨i1,i2,i3⟩:=ih oo;have hks:=Ba (oo:k<S.length);unfold ocF Ro;split
   ·exact⟨i1,λhh j hj=>i2 hh j oo,i3⟩
   rename_i hc;split
   ·exact⟨i1,λhh j hj=>i2 hh j oo,i3⟩
   rename_i hl;generalize ocF S k=out at *;have hgo:∀j,j<out.length->(out++[S.getD k default]).getD j default=out.getD j default:=λj hj=>RO;have hgn:(out++[S.getD k default]).getD out.length default=S.getD k default:=A6;have hlen:(out++[S.getD k default]).length=out.length+1:=A6;refine⟨λy hy=>?_,λ_ j hj hjl=>?_,λj hj=>?_⟩
   ·rcases CH.1 hy with hy|hy
    ·exact i1 y hy
    rw[CG.1 hy];exact hks
   ·rw[hlen,O0,hgn];have hn:HM (S.getD k default) (S.getD (k+1) default)≠0:=λe=>hc (by rw[e];simp only[C5,CZ];exact⟨oo,rfl⟩);have h1:HM (S.getD k default) (S.getD (k+1) default)<0:=uC hn (by simpa[ltB] using pwD hp (oo:k<k+1) oo);by_cases e:j=k+1
    ·rw[e];exact h1
    have h2:¬HM (S.getD j default) (S.getD (k+1) default)<0:=by
     have:=pwD hp (oo:k+1<j) hjl;simpa[ltB] using this
    exact PY λh3=>SS.inc _ _ _ h3 h2 h1
   rw[hlen] at hj;by_cases e:j+1=out.length
   ·rw[hgo j oo,e,hgn];have h4:=i2 oo k (AR _) oo;rw[show out.length-1=j by omega] at h4;unfold QD at hl;rw[show out.length-1=j by omega] at hl;unfold Qy;rw[JY];refine⟨by simp only[GG];omega,?_⟩;rw[F_];intro h5;apply hl;simp only[C5,CZ,GR] at h5 ⊢;exact⟨⟨oo,h5.1⟩,h5.2⟩
   rw[hgo j oo,hgo (j+1) oo];exact i3 j oo
 obtain⟨i1,_,i3⟩:=inv S.length (AR _);refine⟨Om λk hk=>?_,λx hx=>(hm x (i1 x hx)).2.2⟩;obtain⟨a,b,_⟩:=hm _ (i1 _ (Ba hk));unfold LS;rw[A7 (by rw[a];simp),A7 (by rw[b];simp),A7];simp only[C5,CZ];rintro⟨k0,h1⟩;have:=i3 (k-1) oo;rw[show k-1+1=k by omega] at this;rw[this] at h1;cases h1
structure MbI(A9:List An)(E T:Int)(st:IM):Prop where
 el:∀b∈st.1,(0<=b.id/\b.id<=1000000000000000)/\(0<=b.A0/\b.A0<=1000000000000000)/\CV A9 b.A0=true/\(1<=b.size/\b.size<=1000000000000)/\FI b.stack=0/\0<=b.lo/\b.lo<=T/\b.hi<=E
 mp:∀n i,st.2 n=some i->i<st.1.length/\(st.1.getD i default).id=n/\(st.1.getD i default).hi=E
 cl:∀i,i<st.1.length->st.2 (st.1.getD i default).id=some i\/(st.1.getD i default).hi<=T
 ap:∀i j,i<j->j<st.1.length->(st.1.getD i default).id=(st.1.getD j default).id->(st.1.getD i default).hi<=(st.1.getD j default).lo
def pe{l:List B4}{i j:Nat}{x:B4}(h:i<l.length):(l.set i x).getD j default=if j=i then x else l.getD j default:=by
 exact c9
def MbI.close{A9:List An}{E T:Int}{st:IM}(h:MbI A9 E T st){x:AN}(hT:T<=Am x.lo)(hE:Am x.lo<E):MbI A9 E (Am x.lo) (JD x st)/\(JD x st).2 x.ev.n=none:=by
 unfold JD;cases hs:st.2 x.ev.n with
 | none=>exact⟨show MbI A9 E (Am x.lo) st from⟨λb hb=>by(obtain⟨a,b,c,d,e,f,g,i⟩:=h.el b hb;exact⟨a,b,c,d,e,f,oo,i⟩),h.mp,λi hi=>(h.cl i hi).imp id λhh=>oo,h.ap⟩,hs⟩
 | some i=>
  obtain⟨hi,hid,hhi⟩:=h.mp _ _ hs;have hb:=h.el _ (Ba hi);have hg:∀j,(st.1.set i (M5 (st.1.getD i default) (Am x.lo))).getD j default=if j=i then M5 (st.1.getD i default) (Am x.lo) else st.1.getD j default:=λj=>pe hi;have hids:∀j,((st.1.set i (M5 (st.1.getD i default) (Am x.lo))).getD j default).id=(st.1.getD j default).id/\((st.1.set i (M5 (st.1.getD i default) (Am x.lo))).getD j default).lo=(st.1.getD j default).lo:=λj=>by
   rw[hg];split
   ·rename_i e;rw[e];exact⟨rfl,rfl⟩
   exact OH
  refine⟨⟨λb hb2=>?_,λn j hn=>?_,λj hj=>?_,λa j haj hj he=>?_⟩,by simp[Aa]⟩
  ·rcases MZ hb2 with hb2|rfl
   ·obtain⟨a,b,c,d,e,f,g,i⟩:=h.el b hb2;exact⟨a,b,c,d,e,f,oo,i⟩
   obtain⟨a,b,c,d,e,f,g,i⟩:=hb;exact⟨a,b,c,d,e,f,by show _<=_;simp only[M5];omega,by simp only[M5];omega⟩
  ·simp only[Aa] at hn;split at hn
   ·cases hn
   rename_i hne;obtain⟨m1,m2,m3⟩:=h.mp n j hn;have hji:j≠i:=λe=>hne (by rw[<-m2,e,hid]);simp only[BH];rw[hg,A7 hji];exact⟨m1,m2,m3⟩
  ·simp only[BH] at hj;simp only;by_cases hji:j=i
   ·right;rw[hg,AD hji];exact EP _
   rw[hg,A7 hji];rcases h.cl j hj with hc|hc
   ·left;simp only[Aa];rw[A7]
    ·exact hc
    intro e;rw[e,hs] at hc;cases hc;exact hji rfl
   right;omega
  simp only[BH] at hj;simp only at he ⊢;rw[(hids a).1,(hids j).1] at he;rw[(hids j).2];have hap:=h.ap a j haj hj he;rw[hg];split
  ·rename_i e;rw[e,hhi] at hap;have:=h.el _ (Ba hj);omega
  exact hap
def MbI.open_{A9:List An}{o:List AN}(hO:EvO A9 o){E:Int}{st:IM}{x:AN}(hx:x∈o)(h:MbI A9 E (Am x.lo) st)(hn:st.2 x.ev.n=none)(hE:Am x.lo<E):MbI A9 E (Am x.lo) (KR E x st):=by
 unfold KR;split
 ·rename_i k11;have he:=Q9y (hO.ev x hx) k11;have ht:=hO.tr x hx;have c0:=Iq x.lo;have hgo:∀j,j<st.1.length->(st.1++[(⟨x.ev.n,x.A0,x.ev.m,Am x.lo,E,x.ev.stack,true⟩:B4)]).getD j default=st.1.getD j default:=λj hj=>RO;have hgn:(st.1++[(⟨x.ev.n,x.A0,x.ev.m,Am x.lo,E,x.ev.stack,true⟩:B4)]).getD st.1.length default=⟨x.ev.n,x.A0,x.ev.m,Am x.lo,E,x.ev.stack,true⟩:=A6;refine⟨λb hb=>?_,λn j hj=>?_,λj hj=>?_,λa j haj hj he2=>?_⟩
  ·rcases CH.1 hb with hb|hb
   ·exact h.el b hb
   rw[CG.1 hb];exact⟨he.2.1,ht,hO.th x hx,he.2.2,he.1,c0,EP _,EP _⟩
  ·simp only[Aa] at hj;simp only[Bb,Hx];split at hj
   ·rename_i e;cases hj;rw[hgn];exact⟨oo,e.symm,rfl⟩
   obtain⟨m1,m2,m3⟩:=h.mp n j hj;rw[hgo j m1];exact⟨oo,m2,m3⟩
  ·simp only[Bb,Hx] at hj;simp only;by_cases e:j=st.1.length
   ·left;subst e;rw[hgn];simp[Aa]
   rw[hgo j oo];rcases h.cl j oo with hc|hc
   ·left;simp only[Aa];rw[A7]
    ·exact hc
    intro e2;rw[e2,hn] at hc;cases hc
   exact .inr hc
  simp only[Bb,Hx] at hj;simp only at he2 ⊢;by_cases e:j=st.1.length
  ·subst e;rw[hgn,hgo a haj] at he2;rw[hgn,hgo a haj];rcases h.cl a haj with hc|hc
   ·rw[he2,hn] at hc;cases hc
   exact hc
  rw[hgo j oo,hgo a oo] at he2 ⊢;exact h.ap a j haj oo he2
 exact h
def cw{A9:List An}{o:List AN}(h:EvO A9 o){E:Int}(hE:∀x∈o,Am x.lo<E):∀k,k<=o.length->∃T,(T=0\/∃x∈o.take k,T=Am x.lo)/\MbI A9 E T (G9 o E k)
 | 0,_=>⟨0,.inl rfl,λb hb=>(by cases hb),λn i hn=>(by cases hn),λi hi=>absurd hi (F9 _),λi j _ hj=>absurd hj (F9 _)⟩
 | k+1,hk=>by
  obtain⟨T,hT,ih⟩:=cw h hE k oo;have hm:=Ba (oo:k<o.length);have hTx:T<=Am (o.getD k default).lo:=by
   rcases hT with rfl|⟨y,hy,rfl⟩
   ·exact Iq _
   exact od
  refine⟨Am (o.getD k default).lo,.inr ⟨_,by rw[CY o k hk];simp,rfl⟩,?_⟩;unfold G9 LF;obtain⟨c1,c2⟩:=ih.close hTx (hE _ hm);split
  ·exact c1.open_ h hm c2 (hE _ hm)
  exact⟨λb hb=>by obtain⟨a,b,c,d,e,f,g,i⟩:=ih.el b hb;exact⟨a,b,c,d,e,f,oo,i⟩,ih.mp,λi hi=>(ih.cl i hi).imp id λhh=>oo,ih.ap⟩
def yB{A9:List An}{o:List AN}(h:EvO A9 o){e:Int}(he:MM o e=e)(he1:e<=1000000000000)(hE:∀x∈o,Am x.lo<e):bkF (mmF o e)=0/\∀b∈mmF o e,CV A9 b.A0=true/\(0<=b.lo/\b.lo<b.hi/\b.hi<=e)/\FI b.stack=0:=by
 obtain⟨T,_,hI⟩:=cw h hE o.length (AR _);unfold mmF;rw[he];generalize G9 o e o.length=st at *;have hm:∀b∈DZ loB (st.1.filter Oy),b∈st.1/\b.lo<b.hi:=λb hb=>by
  rw[(LL _ _).mem_iff] at hb;obtain⟨h1,h2⟩:=GP.1 hb;exact⟨h1,by unfold Oy at h2;simp at h2;omega⟩
 have hs:(DZ loB (st.1.filter Oy)).Pairwise λa b=>loB b a=false:=fi (λa b c h1 h2=>by
  simp only[loB,GG] at *;omega) (λa b h=>by
  simp only[loB,CZ,GG] at *;omega)
 have hc0:st.1.Pairwise λa b=>M4 a b=false/\M4 b a=false:=Hv.2 λi j hi hj hij=>by
  have:=hI.ap i j hij hj;simp only[B5,BP hi,BP hj,EA] at this;simp only[M4,RF,T6,ne_eq,GG];by_cases e1:st.1[i].id=st.1[j].id
  ·have:=this e1;exact⟨.inr oo,.inl (.inr oo)⟩
  exact⟨.inl (.inl e1),.inl (.inl (λe2=>e1 e2.symm))⟩
 have hc:(DZ loB (st.1.filter Oy)).Pairwise λa b=>M4 a b=false/\M4 b a=false:=(LL loB (st.1.filter Oy)).symm.pairwise (hc0.sublist aX) λh=>⟨h.2,h.1⟩;generalize DZ loB (st.1.filter Oy)=L at *;refine⟨Om λk hk=>?_,λb hb=>?_⟩
 ·obtain⟨h1,h2⟩:=hm _ (Ba hk);obtain⟨a1,a2,a3,a4,a5,a6,a7,a8⟩:=hI.el _ h1;unfold Jw;rw[A7,A7 (by rw[a5];simp),A7,A7]
  ·rw[V_,R7];intro x hx;obtain⟨i,hi,e1⟩:=Vq.1 hx;have:=(pwD hc (oo:i<k) hk).1;rw[B5,BP (oo:i<L.length)] at this;rw[<-e1];rw[EA] at this;rw[this];simp
  ·simp only[C5,CZ];rintro⟨k0,hlt⟩;have:=pwD hs (oo:k-1<k) hk;simp only[loB,GG] at this;exact this hlt
  simp only[PN,Gc,CZ,K8,RF,GG];omega
 obtain⟨h1,h2⟩:=hm b hb;obtain⟨a1,a2,a3,a4,a5,a6,a7,a8⟩:=hI.el _ h1;exact⟨a3,⟨a6,h2,a8⟩,a5⟩
end YtafpldmnkcegmaaGreat
end Go.Proofs

set_option maxRecDepth 100000
namespace Go.Proofs
open Go.AM Tryz
namespace YtafpldmnkcegmaaGreat
variable {Gl:BM}
def C7(o:List AN):Int:=o.foldl (λe x=>max e (Am x.lo+1)) 0
def y8(o:List AN)(k:Nat)(h:k<o.length):C7 (o.take (k+1))=max (C7 (o.take k)) (Am (o.getD k default).lo+1):=by rw[CY o k h,C7,GD];rfl
def vT(o:List AN):∀e,e<=o.foldl (λe x=>max e (Am x.lo+1)) e/\(∀x∈o,Am x.lo+1<=o.foldl (λe x=>max e (Am x.lo+1)) e)/\(o.foldl (λe x=>max e (Am x.lo+1)) e=e\/∃x∈o,o.foldl (λe x=>max e (Am x.lo+1)) e=Am x.lo+1):=by
 induction o with
 | nil=>intro e;exact⟨EP _,λx hx=>Jd,.inl rfl⟩
 | cons y r ih=>
  intro e;rw[GQ];obtain⟨a,b,c⟩:=ih (max e (Am y.lo+1));generalize r.foldl (λe x=>max e (Am x.lo+1)) (max e (Am y.lo+1))=z at *;refine⟨oo,λx hx=>?_,?_⟩
  ·rcases Bw.1 hx with rfl|hx
   ·omega
   exact b x hx
  rcases c with c|⟨x,hx,c⟩
  ·by_cases h:e<=Am y.lo+1
   ·exact .inr ⟨y,DE,oo⟩
   left;omega
  exact .inr ⟨x,Cy _ hx,c⟩
def Q7(o:List AN):0<=C7 o/\(∀x∈o,Am x.lo+1<=C7 o)/\(C7 o=0\/∃x∈o,C7 o=Am x.lo+1):=vT o 0
def jU(o:List AN):C7 o<=1000000000001:=by
 rcases(Q7 o).2.2 with h|⟨x,_,h⟩
 ·omega
 have:=MB x.lo;omega
def jV{e:Int}:∀{o:List AN},(∀x∈o,Am x.lo<=e)->Gk e o=e
 | [],_=>rfl
 | y::r,h=>by
  have h1:=h y DE;unfold Gk;rw[GQ,show max e (Am y.lo)=e by omega];exact jV (o:=r) λx hx=>h x (Cy _ hx)
def Q0d{e:Int}{o:List AN}(h:∀x∈o,Am x.lo<=e)(h0:0<=e)(h1:e<=1000000000000):MM o e=e:=by
 unfold MM;split
 ·omega
 rename_i hn;have:=h _ (Ba (oo:o.length-1<o.length));omega
def pfO(o:List AN):List B0:=Fe (bdF o) (C7 o)
def qO(o:List AN):List B0:=HI ((pfO o).filter GM)
def slO(o:List AN):List Ac:=CW ((qO o).map B0.s) (prP (pfO o) (qO o)) (qO o).length
def stO(A9:List An)(o:List AN):List BQ:=(D4 A9).flatMap λid=>FR id (C7 o) (chF (trF (D4 A9) o) id) (chF (trF (D4 A9) o) id).length
def LW(A9:List An)(o:List AN):EY:=⟨0,C7 o,A9,slO o,stO A9 o,(flF o).2,smF o,csF o,mmF o (C7 o),(loF o).2⟩
def VF:EY:=⟨0,0,[],[],[],[],[],[],[],[]⟩
def GZ(l:Av):EY×Int:=if(EJ l).2≠0 then(VF,(EJ l).2) else if 1000000000000<C7 (EJ l).1 then(VF,2) else(LW l.A9 (EJ l).1,0)
def p0T(A9:List An)(th:Int)(nm:List UInt8):Prop:=(0<=th/\th<=1000000000000000)/\CV A9 th=true/\FE nm=0
def Z6{A9:List An}{o:List AN}(h:EvO A9 o):Pcs (p0T A9) (C7 o) (pfO o)/\(pfO o).length<=24:=by
 obtain⟨T',h0,h1,h2⟩:=js (p0:=p0T A9) o 0 bd0 (EP _) (py _) (λx _=>Iq _) h.Gx λx hx hk=>⟨h.tr x hx,h.th x hx,pW (h.ev x hx) hk⟩;obtain⟨e0,e1,_⟩:=Q7 o;refine⟨h2.Hr ?_,?_⟩
 ·rcases h1 with rfl|⟨x,hx,rfl⟩
  ·exact e0
  have:=e1 x hx;omega
 have:=(UC o o.length (AR _)).len;rw[BL] at this;unfold pfO Fe;rw[BW];have:=h.len;omega
def Rt{α:Type}(g:Int->List α)(c:Nat)(hc:∀id,(g id).length<=c):∀ids:List Int,(ids.flatMap g).length<=ids.length*c
 | []=>A6
 | a::r=>by
  have h1:=Rt g c hc r;have h2:=hc a;rw[IU,Bb,CT,E8];omega
def kC(A9:List An)(o:List AN)(h1:A9.length<=10)(h2:o.length<=24)(E:Int):((D4 A9).flatMap λid=>FR id E (chF (trF (D4 A9) o) id) (chF (trF (D4 A9) o) id).length).length<=1000:=by
 have hd:=S8 A9 A9.length;rw[BL] at hd;have hn:=VC (D4 A9) o o.length (AR _);rw[BL] at hn;have:=Rt (λid=>FR id E (chF (trF (D4 A9) o) id) (chF (trF (D4 A9) o) id).length) 100 (λid=>by
  refine DC (X5 _ _ _ _) ?_
  unfold chF
  cases ht:trF (D4 A9) o id with
  | none=>simp[t0S]
  | some t=>have:=(hn id t ht).2;simp only[EA];omega) (D4 A9)
 omega
def gv(l:Av)(h:l.BZ):AT prog Gl 6 [.d l.A5] (.Aj [.d (GZ l).1.A5,.d (.int .i64 (GZ l).2)]):=by
 refine AT.FL ?_;have hths:=h.A9;refine acS func6 ntmps6 results6 ?_;refine FC ?_;refine Ak (zG l h) ?_;refine C0 ?_;apply ifC.mk<;>intro hc
 ·have hc:(EJ l).2≠0:=Dc;have e:GZ l=(VF,(EJ l).2):=by rw[GZ,AD hc]
  rw[e];exact Lq
 have hc:(EJ l).2=0:=Dc;have hO:=ZT h hc;have hF:GZ l=if 1000000000000<C7 (EJ l).1 then(VF,2) else(LW l.A9 (EJ l).1,0):=by rw[GZ,A7 (by rw[hc];simp)]
 rw[hF];clear hF;generalize (EJ l).1=o at *;have ho24:=hO.len;refine CL (τ:=Nat×Sto) (λy=>[(21,(y.1:Int)),(20,(o.length:Int)),(19,.d (.sl (o.map AN.A5))),(6,(C7 (o.take y.1):Int)),(4,.d (.sl (o.map AN.A5))),(2,.ptr 1 0),(1,.ptr 0 0)]) (λy=>y.2)
  (λy=>y.1<=o.length/\A1 y.2 0=.box 4 (.d l.A5)/\A1 y.2 1=.box 10 (.agg [(0:Int),(0:Int),.AA,.AA,.AA,.AA,.AA,.AA,.AA,.AA])) (λy=>o.length-y.1) (0,_) ⟨Bq _,rfl,rfl⟩ (AU rfl) ?_
 rintro⟨k,s⟩ ⟨hk,h0,h1⟩;simp only at hk h0 h1;have l0:=AG h0 rfl;have l1:=AG h1 rfl;by_cases hh:k<o.length
 ·have hst:=y8 o k hh;have hb:=Q7 (o.take k);have hb2:=jU (o.take k);generalize C7 (o.take k)=e at *;generalize hxx:o.getD k default=x at *;have c0:=Iq x.lo;have c1:=MB x.lo;simp only[zF,seval,(oo:(k:Int)<o.length),hh,Af _ _ _ (oo:k<o.length),hxx,a_w ((k:Int)+1)];refine Ak (jc x) ?_;simp only[zF,seval,a_w (Am x.lo+1),a_w ((k:Int)+1)];refine⟨(k+1,_),⟨AQ,?_,?_⟩,AQ,by rw[hst];exact AU rfl⟩
  ·simp only[zF,seval,h0,l0]
  simp only[zF,seval,h1,l1]
 have hke:k=o.length:=oo;subst hke;rw[BL];obtain⟨e0,e1,e2⟩:=Q7 o;have e3:=jU o;obtain⟨hP,hpl⟩:=Z6 hO;have hsl:=kC l.A9 o hths ho24;simp only[zF,seval,(oo:¬(o.length:Int)<o.length),h0,h1,l0,l1];apply ifC.mk<;>intro hz
 ·rw[AD OA];exact Lq
 have hz:¬1000000000000<C7 o:=OA;rw[A7 hz];have he1:C7 o<=1000000000000:=oo;have heF:Gk (C7 o) o=C7 o:=jV λx hx=>by have:=e1 x hx;omega
 have heE:min (max (C7 o) 0) 1000000000000=C7 o:=oo;have heE2:max 0 (min (C7 o) 1000000000000)=C7 o:=oo;have hsl0:=yh (Gl:=Gl) o oo (λx hx=>aZ) (C7 o) (by rw[heF,heE];exact hP.ok he1) (qO o) (by rw[heF,heE];rfl);have hst0:=yi (Gl:=Gl) l.A9 o oo oo (λx hx=>aZ) (C7 o) (by unfold P3;have:=hsl (max 0 (min (Gk (C7 o) o) 1000000000000));omega);rw[heF,heE] at hsl0;unfold P3 at hst0;rw[heF,heE2] at hst0;refine Ak hsl0 ?_;refine C0 ?_;refine Ak hst0 ?_;refine C0 ?_;refine Ak (w9 o oo) ?_;refine C0 ?_;refine Ak (Qer o oo hO.stk) ?_;refine C0 ?_;refine Ak (ri o oo) ?_;refine C0 ?_;refine Ak (Qez o (C7 o) oo) ?_;refine C0 ?_;refine Ak (vp o oo λx hx=>aZ) ?_;simp only[zF,seval,h1,l1];exact KB
end YtafpldmnkcegmaaGreat
end Go.Proofs

set_option maxRecDepth 100000
namespace Go.Proofs
open Go.AM Tryz
namespace YtafpldmnkcegmaaGreat
def Q0g(A9:List An):(D4 A9).Nodup:=by
 have gen:∀(r:List An) (a:List Int),a.Nodup->(r.foldl (λout x=>if out.any (λy=>x.id==y)=true then out else out++[x.id]) a).Nodup:=by
  intro r
  induction r with
  | nil=>intro a h;exact h
  | cons x r ih=>
   intro a h;rw[GQ];refine ih _ ?_;split
   ·exact h
   rename_i hc;refine R8.2 ⟨h,PW _ _,λb hb c hcc=>?_⟩;rw[CG.1 hcc];intro e;apply hc;rw[K6];exact⟨b,hb,by simp[e]⟩
 exact gen A9 [] .nil
def xl{A9:List An}{o:List AN}(h:EvO A9 o)(he:0<C7 o)(he1:C7 o<=1000000000000):M3 A9 (stO A9 o)=0/\∀x∈stO A9 o,0<=x.lo/\x.lo<x.hi/\x.hi<=C7 o:=by
 obtain⟨T,hT,htr⟩:=uo (o:=o) 0 (tr0 (D4 A9)) (po _) (λx _=>Iq _) h.Gx λx hx=>⟨h.ev x hx,h.tr x hx⟩;have e1:=(Q7 o).2.1;have hTE:0<=T/\T<C7 o:=by
  rcases hT with rfl|⟨x,hx,rfl⟩
  ·omega
  have:=e1 x hx;have:=Iq x.lo;omega
 have hg:∀id∈D4 A9,StC id (C7 o) (C7 o) (FR id (C7 o) (chF (trF (D4 A9) o) id) (chF (trF (D4 A9) o) id).length)/\0<(FR id (C7 o) (chF (trF (D4 A9) o) id) (chF (trF (D4 A9) o) id).length).length:=λid hid=>by
  have hs:=gA (D4 A9) hid o;obtain⟨t,ht⟩:=Fa.1 hs;have hc:=(htr id t ht).ch;have e:chF (trF (D4 A9) o) id=t.ch:=by unfold chF;rw[ht];rfl
  rw[e];exact uj hc hTE.1 hTE.2 id
 refine⟨zx he1 (Q0g A9) hg,λx hx=>?_⟩;obtain⟨id,hid,hx⟩:=HZ.1 hx;have:=(hg id hid).1.el x hx;exact⟨this.2.1,this.2.2.1,this.2.2.2.1⟩
structure VA(A9:List An)(o:List AN):Prop where
 val:My (LW A9 o)=0
 IS:(LW A9 o).GC
 sl:∀x∈slO o,0<=x.lo/\x.lo<x.hi/\x.hi<=C7 o/\p0T A9 x.A0 x.name
 st:∀x∈stO A9 o,0<=x.lo/\x.lo<x.hi/\x.hi<=C7 o
 fl:∀f∈(flF o).2,0<=f.send/\f.send<=1000000000000/\0<=f.recv/\f.recv<=1000000000000
 sm:∀x∈smF o,0<=x.at_/\x.at_<=1000000000000
 sp:∀x∈csF o,0<=x.at_/\x.at_<=1000000000000
 bl:∀x∈mmF o (C7 o),0<=x.lo/\x.lo<x.hi/\x.hi<=C7 o
 lo:∀x∈(loF o).2,0<=x.lo/\x.lo<x.hi/\x.hi<=1000000000000
 few2:(slO o).length<=24/\(stO A9 o).length<=1000/\(flF o).2.length<=24/\(smF o).length<=24/\(csF o).length<=24/\(mmF o (C7 o)).length<=24/\(loF o).2.length<=24
def xS{A9:List An}{o:List AN}(h:EvO A9 o)(hth:IJ A9=0)(h10:A9.length<=10)(he:0<C7 o)(he1:C7 o<=1000000000000):VA A9 o:=by
 obtain⟨hP,hpl⟩:=Z6 h;have hle:∀x∈o,Am x.lo<C7 o:=λx hx=>by have:=(Q7 o).2.1 x hx;omega
 obtain⟨a1,a2⟩:=zr hP he1 (λt nm hp=>⟨hp.1.1,hp.1.2,hp.2.2⟩) oo (q:=qO o) rfl;obtain⟨b1,b2⟩:=xl h he he1;obtain⟨c1,c2⟩:=vX h;obtain⟨d1,d2⟩:=Qbs h;obtain⟨f1,f2⟩:=xp h;obtain⟨g1,g2⟩:=yB h (Q0d (λx hx=>by have:=hle x hx;omega) oo he1) he1 hle;have i1:=iA h o.length (AR _);rw[BL] at i1;have a3:(slO o).length=(qO o).length:=Jr _ _ _;have a4:=hP.qs.len;have l0:=h.len;have l1:=kC A9 o h10 h.len (C7 o);have l2:=YZ o o.length (AR _);have l3:=kA o;have l4:=Yg (DZ ltB (Eo o)) (DZ ltB (Eo o)).length;have l5:(DZ ltB (Eo o)).length<=o.length:=by
  rw[MG];unfold Eo;rw[BW];exact Ge _ _
 have l6:(mmF o (C7 o)).length<=o.length:=by
  unfold mmF;rw[MG];exact DC (Ge _ _) (UU o _ o.length)
 have l7:=(V0 o (λx hx=>by have:=h.Ed x hx;omega) o.length (AR _)).1;rw[BL] at l2 l7;have few2:(slO o).length<=24/\(stO A9 o).length<=1000/\(flF o).2.length<=24/\(smF o).length<=24/\(csF o).length<=24/\(mmF o (C7 o)).length<=24/\(loF o).2.length<=24:=by
  refine⟨?_,l1,oo,oo,?_,oo,oo⟩
  ·rw[a3];unfold qO;omega
  unfold csF;omega
 refine⟨?_,⟨by show A9.length<_;omega,?_,?_,?_,?_,?_,?_,?_,λx hx=>?_,λx hx=>?_⟩,a2,b2,λf hf=>(c2 f hf).2.2.1,λx hx=>(d2 x hx).2.1,λx hx=>(f2 x hx).1,λx hx=>(g2 x hx).2.1,λx hx=>(i1 x hx).2,few2⟩
 ·unfold My;have ht:LI (LW A9 o)=0:=by
   unfold LI LW;simp only;have e1:Dt (Ik (slO o)) (CV A9) (λx=>x.A0) (slO o)=0:=by
    rw[show Ik (slO o)=0 from a1];exact Rv λx hx=>(a2 x hx).2.2.2.2.1
   have e2:Dt (Dt (Ly (flF o).2) (CV A9) (λx=>x.ft) (flF o).2) (CV A9) (λx=>x.tt) (flF o).2=0:=by
    rw[c1,Rv (g:=λx:Cb=>x.ft) λx hx=>(c2 x hx).1];exact Rv λx hx=>(c2 x hx).2.1
   have e3:Dt (M8 (smF o)) (CV A9) (λx=>x.A0) (smF o)=0:=by
    rw[d1];exact Rv λx hx=>(d2 x hx).1
   have e4:Dt (bkF (mmF o (C7 o))) (CV A9) (λx=>x.A0) (mmF o (C7 o))=0:=by
    rw[g1];exact Rv λx hx=>(g2 x hx).1
   have e5:Sc (CV A9) (loF o).2=0:=Om λk hk=>(i1 _ (Ba hk)).1;rw[A7 (by rw[hth];simp),A7 (by rw[e1];simp),A7 (by rw[b1];simp),A7 (by rw[e2];simp),A7 (by rw[e3];simp),A7 (by rw[f1];simp),A7 (by rw[e4];simp),e5]
  rw[A7 (by rw[ht];simp),A7,A7]
  ·rw[V_];unfold Wz LW NA ET;simp only[JY,R7,K8,aA,C5,CZ,Gc,FW];refine⟨⟨⟨⟨⟨λx hx=>?_,λx hx=>?_⟩,λx hx=>?_⟩,λx hx=>?_⟩,λx hx=>?_⟩,λx hx=>?_⟩
   ·have:=a2 x hx;exact⟨this.1,this.2.2.1⟩
   ·have:=b2 x hx;exact⟨this.1,this.2.2⟩
   ·have:=(g2 x hx).2.1;exact⟨this.1,this.2.2⟩
   ·obtain⟨_,_,k1,k2,y,hy,e⟩:=c2 x hx;have:=hle y hy;exact⟨⟨oo,oo⟩,oo,oo⟩
   ·obtain⟨_,k1,y,hy,e⟩:=d2 x hx;have:=hle y hy;omega
   obtain⟨k1,y,hy,e⟩:=f2 x hx;have:=hle y hy;omega
  show ¬(decide ((0:Int)<0)||decide (C7 o<0)||decide (1000000000000<C7 o))=true;simp;omega
 all_goals try (show List.length _<_;first|(show(slO o).length<_;omega)|(show(stO A9 o).length<_;omega)|(show(flF o).2.length<_;omega)|(show(smF o).length<_;omega)|(show(csF o).length<_;omega)|(show(mmF o (C7 o)).length<_;omega)|(show(loF o).2.length<_;omega))
 ·obtain⟨y,hy,rfl⟩:=C4.1 (show x∈smF o from hx);exact h.stk y (GP.1 hy).1
 have:=(g2 x hx).2.2;unfold FI at this;split at this
 ·cases this
 omega

def GO{α:Type}(g:α->Int)(x:α)(l:List α):BG g (x::l)=g x+BG g l:=by simp[BG]
def UQ{α:Type}(g:α->Int)(l m:List α):BG g (l++m)=BG g l+BG g m:=by simp[BG]
def Q4{α β:Type}(p:α->Bool)(f:α->β)(g:β->Int):∀l:List α,BG g (fmF p f l)=BG (λx=>if p x=true then g (f x) else 0) l
 | []=>rfl
 | x::l=>by
  rw[GO,<-Q4 p f g l,fmF];by_cases h:p x=true
  ·rw[J_ h,Ci,GO,AD h];rfl
  rw[J4 h,A7 h,Int.zero_add];rfl
def Rx{α:Type}{g1 g2 g:α->Int}:∀{l:List α},(∀x∈l,g1 x+g2 x=g x)->BG g1 l+BG g2 l=BG g l
 | [],_=>rfl
 | x::l,h=>by
  have:=Rx (l:=l) λy hy=>h y (Cy _ hy);have h1:=h x DE;rw[GO,GO,GO];omega
def fw{α β:Type}(f:α->β)(g:β->Int)(l:List α):BG g (l.map f)=BG (λx=>g (f x)) l:=by simp[BG,Hs,aD]
def Qg8{α:Type}(g:α->Int){l m:List α}(h:l.Perm m):BG g l=BG g m:=by
 induction h with
 | nil=>rfl
 | cons x _ ih=>rw[GO,GO,ih]
 | swap x y l=>rw[GO,GO,GO,GO];omega
 | trans _ _ h1 h2=>rw[h1,h2]
def UR{α:Type}(g:α->Int)(m:Int):∀l:List α,BG (λx=>g x % m) l % m=BG g l % m
 | []=>rfl
 | x::l=>by
  rw[GO,GO,Int.add_emod,UR g m l,Int.emod_emod_of_dvd _ (Int.dvd_refl m),<-Int.add_emod]
def fx{l:List Ac}(g:Ac->Int):∀{i:Nat} {x:Ac},i<l.length->BG g (l.set i x)=BG g l-g (l.getD i default)+g x:=by
 induction l with
 | nil=>intro i x h;simp at h
 | cons y l ih=>
  intro i x h;cases i with
  | zero=>rw[List.set_cons_zero,GO,GO];simp;omega
  | succ i=>
   rw[aF,GO,GO,ih Dy];simp;omega
def Jn(s:Ac):Int:=if 0<=s.parent then 0 else s.hi-s.lo
def P2(Q:List Ac)(pr:Nat->Int):Nat->Int
 | 0=>0
 | k+1=>P2 Q pr k+if 0<=pr k then 0 else(Q.getD k default).hi-(Q.getD k default).lo
def Xi{Q:List Ac}{pr:Nat->Int}(hp:∀i,i<Q.length->-1<=pr i/\pr i<i):∀k,k<=Q.length->BG Ac.self (CW Q pr k)=P2 Q pr k/\BG Jn (CW Q pr k)=P2 Q pr k
 | 0,_=>⟨rfl,rfl⟩
 | k+1,hk=>by
  obtain⟨i1,i2⟩:=Xi hp k oo;have hpk:=hp k oo;have hl:=Jr Q pr k;have e:CW Q pr (k+1)=GJ (CW Q pr k) (Q.getD k default) (pr k):=rfl;have er:P2 Q pr (k+1)=P2 Q pr k+if 0<=pr k then 0 else(Q.getD k default).hi-(Q.getD k default).lo:=rfl;rw[e,er];unfold GJ;split
  ·rename_i h0;rw[UQ,UQ,fx _ oo,fx _ oo,i1,i2];simp only[GO,Jn,AD h0];simp only[BG,E9,List.sum_nil];omega
  rename_i h0;rw[UQ,UQ,i1,i2];simp only[GO,Jn,A7 h0];simp only[BG,E9,List.sum_nil];omega
def cQ{Q:List Ac}{pr:Nat->Int}(h:∀i,i<Q.length->(0<=pr i↔0<=(Q.getD i default).parent)):∀k,k<=Q.length->P2 Q pr k=BG Jn (Q.take k)
 | 0,_=>rfl
 | k+1,hk=>by
  rw[P2,cQ h k oo,Of Jn Q k hk];congr 1;unfold Jn;by_cases h0:0<=pr k
  ·rw[AD h0,AD ((h k oo).1 h0)]
  rw[A7 h0,A7 (λhh=>h0 ((h k oo).2 hh))]
def jR(c d:Int)(l:List Ac):∀k,k<=l.length->(Fc c d l k).map B0.s=fmF (λx:Ac=>C_ c d x.lo x.hi) (HU c d) (l.take k)
 | 0,_=>rfl
 | k+1,hk=>by
  have e:Fc c d l (k+1)=if max (l.getD k default).lo c<min (l.getD k default).hi d then Fc c d l k++[⟨HU c d (l.getD k default),k,0,false⟩] else Fc c d l k:=rfl;rw[N0 _ _ l k hk,<-jR c d l k oo,e];unfold C_;by_cases h:max (l.getD k default).lo c<min (l.getD k default).hi d
  ·rw[AD h,AD Dy,CA];rfl
  rw[A7 h,A7 Dy]
def jQ(c d:Int)(l:List Ac):∀k,k<=l.length->(Fc c d l k).Pairwise (λa b=>a.number<b.number)/\∀x,x∈Fc c d l k↔∃n,n<k/\max (l.getD n default).lo c<min (l.getD n default).hi d/\x=⟨HU c d (l.getD n default),n,0,false⟩
 | 0,_=>⟨.nil,λx=>⟨λh=>D8,λ⟨n,h,_⟩=>absurd h (F9 _)⟩⟩
 | k+1,hk=>by
  obtain⟨i1,i2⟩:=jQ c d l k oo;unfold Fc;split
  ·rename_i h;refine⟨JZ.2 ⟨i1,PW _ _,λa ha b hb=>?_⟩,λx=>?_⟩
   ·obtain⟨n,h1,_,rfl⟩:=(i2 a).1 ha;rw[CG.1 hb];simp only;omega
   rw[CH,i2,CG];constructor
   ·rintro(⟨n,h1,h2,h3⟩|rfl)
    ·exact⟨n,oo,h2,h3⟩
    exact⟨k,oo,h,rfl⟩
   rintro⟨n,h1,h2,h3⟩;by_cases e:n=k
   ·subst e;exact .inr h3
   exact .inl ⟨n,oo,h2,h3⟩
  rename_i h;refine⟨i1,λx=>?_⟩;rw[i2];constructor
  ·rintro⟨n,h1,h2,h3⟩;exact⟨n,oo,h2,h3⟩
  rintro⟨n,h1,h2,h3⟩;by_cases e:n=k
  ·subst e;exact absurd h2 h
  exact⟨n,oo,h2,h3⟩
def LY(l:List Ac):Prop:=∀n,n<l.length->(l.getD n default).parent=-1\/∃p:Nat,p<n/\(l.getD n default).parent=p/\(l.getD p default).A0=(l.getD n default).A0/\(l.getD p default).lo<=(l.getD n default).lo/\(l.getD n default).hi<=(l.getD p default).hi
def uG{l:List Ac}(h:Ik l=0):LY l:=λn hn=>by
 unfold Ik at h;split at h
 ·exact Tc
 split at h
 ·rename_i h2;rw[C5] at h2;have h3:=EW.1 h2.1 n (CI.2 hn);unfold JB at h3;simp only at h3;split at h3
  ·cases h3
  rename_i h4;simp only[Gc,CZ,FW] at h4;split at h3
  ·rename_i h5;exact .inl h5
  rename_i h5;rw[K8] at h3;simp only[JY,bne_eq_false_iff_eq,GG] at h3;exact .inr ⟨(l.getD n default).parent.toNat,oo,oo,h3.1.1.1,oo,oo⟩
 cases h
def jS{c d:Int}{l:List Ac}(hN:LY l){i:Nat}(hi:i<(Bx c d l).length):
  ∃v,plO (Bx c d l) (Bx c d l).length ((Bx c d l).getD i default).s.parent=some v/\-1<=v/\v<i/\(0<=v↔0<=((Bx c d l).getD i default).s.parent):=by
 obtain⟨a1,a2⟩:=jQ c d l l.length (AR _);have hq:(Bx c d l).Pairwise Nf:=fj a1;have hm:∀x,x∈Bx c d l↔∃n,n<l.length/\max (l.getD n default).lo c<min (l.getD n default).hi d/\x=⟨HU c d (l.getD n default),n,0,false⟩:=λx=>((LL _ _).mem_iff).trans (a2 x);generalize Bx c d l=q at *;have hinj:∀a∈q,∀b∈q,a.number=b.number->a=b:=λa ha b hb e=>by
  obtain⟨n,_,_,rfl⟩:=(hm a).1 ha;obtain⟨m,_,_,rfl⟩:=(hm b).1 hb;simp only at e;rw[show n=m by omega]
 have hn0:∀a∈q,0<=a.number:=λa ha=>by
  obtain⟨n,_,_,rfl⟩:=(hm a).1 ha;exact Ky
 obtain⟨n,h1,h2,h3⟩:=(hm _).1 (Ba hi);have hpar:(q.getD i default).s.parent=(l.getD n default).parent:=by rw[h3];rfl
 rw[hpar];rcases hN n h1 with e|⟨p,g1,g2,g3,g4,g5⟩
 ·exact⟨-1,by rw[e];exact U0 hn0 _ (AR _),oo,oo,Li⟩
 obtain⟨v,hv,ev⟩:=Gd ((hm ⟨HU c d (l.getD p default),p,0,false⟩).2 ⟨p,oo,oo,rfl⟩);have ev2:q.getD v default=⟨HU c d (l.getD p default),p,0,false⟩:=by simp[hv,ev]
 have hpl:=ZU hq hinj hn0 q.length v (AR _) hv;rw[ev2] at hpl;have hb:Nf (q.getD v default) (q.getD i default):=by
  rw[ev2,h3,KU];show max (l.getD p default).lo c-c<max (l.getD n default).lo c-c\/_=_/\(min (l.getD n default).hi d-c<min (l.getD p default).hi d-c\/_=_/\((l.getD p default).A0<(l.getD n default).A0\/(l.getD p default).A0=(l.getD n default).A0/\(p:Int)<n));simp only[HU];omega
 have hvi:v<i:=by
  rcases HA v i with h5|h5|h5
  ·exact h5
  ·subst h5;rw[KU] at hb;omega
  have:=OS hq h5 hv;rw[KU] at hb this;omega
 exact⟨v,by rw[g2];exact hpl,oo,oo,by rw[g2];omega⟩

def csL(c d:Int)(L:List Ac):List Ac:=CW ((Bx c d L).map λp=>z0S p.s) (prC (Bx c d L)) (Bx c d L).length
def ZV{c d:Int}{L:List Ac}(hN:LY L):∀i,i<(Bx c d L).length->(-1<=prC (Bx c d L) i/\prC (Bx c d L) i<i)/\(0<=prC (Bx c d L) i↔0<=((Bx c d L).getD i default).s.parent):=λi hi=>by
 obtain⟨v,h1,h2,h3,h4⟩:=jS hN hi;have e:prC (Bx c d L) i=v:=by unfold prC;rw[h1];rfl
 rw[e];exact⟨⟨h2,h3⟩,h4⟩
def XI(c d:Int)(L:List Ac):((Bx c d L).map B0.s).Perm (fmF (λx:Ac=>C_ c d x.lo x.hi) (HU c d) L):=by
 have h:=jR c d L L.length (AR _);rw[BL] at h;rw[<-h];exact(LL _ _).map _
def kU{c d:Int}{L:List Ac}(hN:LY L):BG Ac.self (csL c d L)=BG (λx=>if C_ c d x.lo x.hi=true then Jn (HU c d x) else 0) L:=by
 have hlen:((Bx c d L).map λp=>z0S p.s).length=(Bx c d L).length:=BW ..;have hg:∀i,i<(Bx c d L).length->((Bx c d L).map λp=>z0S p.s).getD i default=z0S ((Bx c d L).getD i default).s:=λi hi=>RG;have hp:=ZV (c:=c) (d:=d) hN;unfold csL;rw[(Xi (Q:=(Bx c d L).map λp=>z0S p.s) (pr:=prC (Bx c d L)) (λi hi=>(hp i oo).1) (Bx c d L).length oo).1,
  cQ (λi hi=>by rw[hg i oo];exact(hp i oo).2) _ oo,Bi oo,<-Q4 (λx:Ac=>C_ c d x.lo x.hi) (HU c d) Jn,<-Qg8 _ (XI c d L),fw,fw]
 rfl
def Qbr{a T:Int}{L:List Ac}(hN:LY L)(ha:0<=a)(hT:a<=T)(hb:∀x∈L,0<=x.lo/\x.lo<x.hi/\x.hi<=T):BG Ac.self (csL 0 a L)+BG Ac.self (csL a T L)=BG Jn L:=by
 rw[kU hN,kU hN];refine Rx λx hx=>?_;have:=hb x hx;unfold C_ Jn HU;simp only[CZ];by_cases h0:0<=x.parent
 ·simp only[AD h0];split<;>split<;>rfl
 simp only[A7 h0];split<;>split<;>omega
def qI{a T:Int}{L:List BQ}(ha:0<=a)(hT:a<=T)(hb:∀x∈L,0<=x.lo/\x.lo<x.hi/\x.hi<=T)(k:Nat):
  GA (fmF (λx=>C_ 0 a x.lo x.hi) (JH 0 a) L) k+GA (fmF (λx=>C_ a T x.lo x.hi) (JH a T) L) k=GA L k:=by
 unfold GA;rw[Q4,Q4];refine Rx λx hx=>?_;have:=hb x hx;unfold C_ JH;simp only[CZ];by_cases h0:x.state=k
 ·simp only[AD h0];split<;>split<;>omega
 simp only[A7 h0];split<;>split<;>rfl
def rv{a T:Int}{L:List B4}(ha:0<=a)(hT:a<=T)(hb:∀x∈L,0<=x.lo/\x.lo<x.hi/\x.hi<=T):
  ((BG (λx:B4=>(x.hi-x.lo) % 1000) (fmF (λx=>C_ 0 a x.lo x.hi) (Iz 0 a) L)) % 1000+(BG (λx:B4=>(x.hi-x.lo) % 1000) (fmF (λx=>C_ a T x.lo x.hi) (Iz a T) L)) % 1000-(BG (λx:B4=>(x.hi-x.lo) % 1000) L) % 1000) % 1000=0:=by
 have hs:BG (λx:B4=>x.hi-x.lo) (fmF (λx=>C_ 0 a x.lo x.hi) (Iz 0 a) L)+BG (λx:B4=>x.hi-x.lo) (fmF (λx=>C_ a T x.lo x.hi) (Iz a T) L)=BG (λx:B4=>x.hi-x.lo) L:=by
  rw[Q4,Q4];refine Rx λx hx=>?_;have:=hb x hx;unfold C_ Iz;simp only[CZ];split<;>split<;>omega
 rw[UR,UR,UR];omega
def St(s:Ac):Int×Int×Int:=(s.A0,s.lo,s.hi)
def fk(L:List Ac)(th:Int):Dp L th=fmF (λt:Int×Int×Int=>t.1==th) (λt=>⟨t.2.1,t.2.2⟩) (L.map St):=by
 unfold Dp fmF
 induction L with
 | nil=>rfl
 | cons x l ih=>
  rw[Ci];by_cases h:(x.A0==th)=true
  ·rw[J_ (p:=λs:Ac=>s.A0==th) h,J_ (p:=λt:Int×Int×Int=>t.1==th) h,Ci,Ci,ih];rfl
  rw[J4 (p:=λs:Ac=>s.A0==th) h,J4 (p:=λt:Int×Int×Int=>t.1==th) h,ih]
def Q0m{c d:Int}{L:List Ac}(hN:LY L):(csL c d L).map St=((Bx c d L).map B0.s).map St:=by
 have hlen:((Bx c d L).map λp=>z0S p.s).length=(Bx c d L).length:=BW ..;have hol:=Jr ((Bx c d L).map λp=>z0S p.s) (prC (Bx c d L)) (Bx c d L).length;have hp:=ZV (c:=c) (d:=d) hN;have ho:=Yh (Q:=(Bx c d L).map λp=>z0S p.s) (pr:=prC (Bx c d L)) (λi hi=>(hp i oo).1) (Bx c d L).length oo;unfold csL;refine HY RP λi h1 h2=>?_;rw[BW] at h1;have hi:i<(Bx c d L).length:=oo;have:=ho i hi;rw[H9,H9,H9];have g1:(CW ((Bx c d L).map λp=>z0S p.s) (prC (Bx c d L)) (Bx c d L).length).getD i default=(CW ((Bx c d L).map λp=>z0S p.s) (prC (Bx c d L)) (Bx c d L).length)[i]:=by simp[h1]
 have g2:((Bx c d L).map λp=>z0S p.s).getD i default=z0S ((Bx c d L)[i]).s:=RG;unfold St;rw[<-g1,this.th,this.lo,this.hi,g2];rfl
def xk(c d:Int)(L:List Ac)(th:Int):Dp (fmF (λx:Ac=>C_ c d x.lo x.hi) (HU c d) L) th=Lb c d (Dp L th):=by
 unfold Dp Lb fmF
 induction L with
 | nil=>rfl
 | cons x l ih=>
  by_cases h1:C_ c d x.lo x.hi=true<;>by_cases h2:(x.A0==th)=true
  ·rw[J_ (p:=λx:Ac=>C_ c d x.lo x.hi) h1,Ci,J_ (p:=λs:Ac=>s.A0==th) (show((HU c d x).A0==th)=true from h2),Ci,ih,
    J_ (p:=λs:Ac=>s.A0==th) h2,Ci,J_ (show Si c d ⟨x.lo,x.hi⟩=true from h1),Ci];rfl
  ·rw[J_ (p:=λx:Ac=>C_ c d x.lo x.hi) h1,Ci,J4 (p:=λs:Ac=>s.A0==th) (show ¬((HU c d x).A0==th)=true from h2),ih,J4 (p:=λs:Ac=>s.A0==th) h2]
  ·rw[J4 (p:=λx:Ac=>C_ c d x.lo x.hi) h1,ih,J_ (p:=λs:Ac=>s.A0==th) h2,Ci,J4 (show ¬Si c d ⟨x.lo,x.hi⟩=true from h1)]
  rw[J4 (p:=λx:Ac=>C_ c d x.lo x.hi) h1,ih,J4 (p:=λs:Ac=>s.A0==th) h2]
def iO(p:Int->Bool)(n:Nat)(h:∀t:Int,(n:Int)<=t->p t=false):∀m,cnt p (n+m)=cnt p n
 | 0=>rfl
 | m+1=>by rw[<-G1,cnt,iO p n h m,A7 (by rw[h _ oo];simp)];omega
def Q0p{L:List SpT}{n t:Int}(h:∀s∈L,s.hi<=n)(ht:n<=t):cov L t=false:=by
 unfold cov;rw[R7];intro s hs;have:=h s hs;simp;omega
def Zp{L:List SpT}{n N:Nat}(hn:n<=N)(h:∀s∈L,s.hi<=n):cnt (cov L) N=cnt (cov L) n:=by
 obtain⟨m,rfl⟩:∃m,N=n+m:=⟨N-n,oo⟩;exact iO _ _ (λt ht=>Q0p h ht) m
def kQ{c d:Int}{L:List Ac}(hN:LY L)(h0:0<=c)(hd:d<=1000000000000)(hb:∀x∈L,0<=x.lo/\x.lo<x.hi)(th:Int){N:Nat}(hNN:N=1000000000000):Ep (csL c d L) th=cnt (cov (Lb c d (Dp L th))) N:=by
 unfold Ep;rw[<-hNN];have hpm:(Dp (csL c d L) th).Perm (Lb c d (Dp L th)):=by
  rw[<-xk,fk,fk,Q0m hN];exact((((XI c d L).map St).filter _).map _)
 have hv:∀s∈Lb c d (Dp L th),0<=s.lo/\s.lo<s.hi/\s.hi<=1000000000000:=λs hs=>by
  obtain⟨x,hx,rfl⟩:=C4.1 hs;have:=(GP.1 hx).2;unfold Si at this;rw[CZ] at this;unfold Zi;exact Ky
 rw[Yr λs hs=>hv s (hpm.mem_iff.1 hs),UF hpm]
def vI{a n:Nat}{L:List Ac}(hN:LY L){T:Int}(hT:T=((a+n:Nat):Int))(hT2:T<=1000000000000)(hb:∀x∈L,0<=x.lo/\x.lo<x.hi/\x.hi<=T)(th:Int):Ep (csL 0 a L) th+Ep (csL a T L) th=Ep L th:=by
 obtain⟨N,hNN⟩:∃N:Nat,N=1000000000000:=⟨_,rfl⟩;have hs:∀s∈Dp L th,0<=s.lo/\s.lo<s.hi/\s.hi<=T:=λs hs=>by
  obtain⟨x,hx,rfl⟩:=C4.1 hs;exact hb x (GP.1 hx).1
 have hc:∀c d:Int,0<=c->∀s∈Lb c d (Dp L th),s.hi<=d-c:=λc d h0 s hs=>by
  obtain⟨x,hx,rfl⟩:=C4.1 hs;unfold Zi;simp only;omega
 have haN:a<=N/\n<=N/\a+n<=N:=oo;rw[kQ hN (EP _) oo (λx hx=>⟨(hb x hx).1,(hb x hx).2.1⟩) th hNN,kQ hN oo hT2 (λx hx=>⟨(hb x hx).1,(hb x hx).2.1⟩) th hNN];rw[show Ep L th=cnt (cov (Dp L th)) N by
  unfold Ep
  rw[<-hNN,Yr λs h=>by have:=hs s h;omega]]
 rw[Zp (n:=a) haN.1 λs h=>by have:=hc 0 a (EP _) s h;omega,Zp (n:=n) haN.2.1 λs h=>by have:=hc a T oo s h;omega,Zp (n:=a+n) haN.2.2 λs h=>by have:=hs s h;omega,hT];exact Qfw _
end YtafpldmnkcegmaaGreat
end Go.Proofs

set_option maxRecDepth 100000
namespace Go.Proofs
open Go.AM Tryz
namespace YtafpldmnkcegmaaGreat
variable {Gl:BM}
def Qfs:Ov.BZ:=⟨D7,D7,D7,D7,D7,λp hp e he=>by
 rw[CG.1 hp] at he
 rcases Bw.1 he with rfl|he
 ·decide
 rw[CG.1 he];decide⟩
def Q0w:(GZ Ov).2=0/\(GZ Ov).1.AE.length=1/\((GZ Ov).1.AE.getD 0 default).self=4:=by decide +kernel
def YU:AT prog Gl 5 [] (.d (.bool true)):=by
 refine AT.Z3 ?_;obtain⟨c1,c2,c3⟩:=Q0w;refine acS func5 ntmps5 results5 ?_;refine FC ?_;refine Ak Q52 ?_;refine C0 ?_;refine Ak (gv Ov Qfs) ?_;rw[c1];generalize (GZ Ov).1=t at *;have c4:(0:Nat)<t.AE.length:=oo;simp only[zF,seval,c2,Af _ _ _ (oo:(0:Nat)<t.AE.length),c3];exact⟨rfl,_,_,Ei,rfl,rfl⟩
def xL{l:Av}(h:Re l 24=true)(hst:∀p∈l.parts,∀e∈p.A_,e.stack.length<2000000):l.BZ:=by
 unfold Re at h;simp only[C5,CZ] at h;obtain⟨⟨⟨⟨h1,h2⟩,h3⟩,h4⟩,h5⟩:=h;refine⟨oo,oo,oo,oo,?_,hst⟩;have e:∀L:List Ao,BG (λp:Ao=>(p.A_.length:Int)) L=(evN L:Int):=λL=>by
  induction L with
  | nil=>rfl
  | cons a r ih=>rw[GO,ih];simp[evN]
 rw[e] at h1;omega
def Qfd{A9:List An}{AZ:List BC}{AK:List B3}(h:HH A9 AZ AK=0)(h10:A9.length<=10):IJ A9=0:=by
 unfold HH at h;unfold IJ;rw[A7 oo];split at h
 ·cases h
 rw[A7 oo] at h;by_cases e:Bh (H3 A9) A9.length=0
 ·exact e
 rw[AD e] at h;exact h
def zN{l:Av}(h:(EJ l).2=0):(Fl l).2=0:=by
 unfold EJ at h;split at h
 ·exact h
 rename_i e;simpa using e
def Q3v{l:Av}(h:l.BZ)(h0:(GZ l).2=0)(he:0<(GZ l).1.hi):(GZ l).1=LW l.A9 (EJ l).1/\VA l.A9 (EJ l).1/\C7 (EJ l).1<=1000000000000:=by
 unfold GZ at h0 he ⊢;split at h0
 ·rename_i e;exact absurd h0 e
 rename_i e;rw[A7 e] at he ⊢;have e:(EJ l).2=0:=J5;split at h0
 ·cases h0
 rename_i e2;rw[A7 e2] at he ⊢;have he:0<C7 (EJ l).1:=he;exact⟨rfl,xS (ZT h e) (Qfd (NS (NG (dY (zN e)))).1 h.A9) h.A9 he oo,oo⟩
def uR{α:Type}{e:Int}{has:Int->Bool}{g:α->Int}{l:List α}(h:Dt e has g l=0):e=0:=by
 unfold Dt at h;by_cases c:e=0
 ·exact c
 rw[AD c] at h;exact h
def gB{A9:List An}{o:List AN}(h:VA A9 o):LY (slO o):=by
 refine uG ?_;have h0:=h.val;unfold My at h0;by_cases c:LI (LW A9 o)=0
 ·unfold LI at c;split at c
  ·rename_i e;exact absurd c e
  split at c
  ·rename_i e;exact absurd c e
  rename_i e;exact uR (Decidable.not_not.1 e)
 rw[AD c] at h0;exact absurd h0 c
def Q0i{A9:List An}{o:List AN}(h:VA A9 o)(hT:C7 o<=1000000000000)(a b:Int):YL (LW A9 o) a b:=by
 have f:=h.few2;refine⟨⟨by show(slO o).length<_;omega,by show(stO A9 o).length<_;omega,by show(flF o).2.length<_;omega,by show(smF o).length<_;omega,by show(csF o).length<_;omega,by show(mmF o (C7 o)).length<_;omega,by show(loF o).2.length<_;omega⟩,λx hx=>?_,λx hx=>?_,h.fl,h.sm,h.sp,λx hx=>?_,h.lo,λi hi=>?_⟩
 ·have:=h.sl x hx;omega
 ·have:=h.st x hx;omega
 ·have:=h.bl x hx;omega
 obtain⟨v,a1,a2,a3,_⟩:=jS (gB h) hi;exact⟨v,a1,a2,a3⟩
end YtafpldmnkcegmaaGreat
end Go.Proofs

set_option maxRecDepth 100000
namespace Go.Proofs
open Go.AM Tryz
namespace YtafpldmnkcegmaaGreat
structure Lk(t:EY):Prop where
 th:t.threads.length<=10
 sl:t.AE.length<=24
 st:t.AS.length<=1000
 bl:t.blocks.length<=24
 se:∀x∈t.AE,-1000000000000000<=x.self/\x.self<=1000000000000000
 sb:∀x∈t.AS,0<=x.lo/\x.lo<x.hi/\x.hi<=1000000000000
 bb:∀x∈t.blocks,0<=x.lo/\x.lo<x.hi/\x.hi<=1000000000000
structure Trc(t:EY):Prop where
 val:My t=0
 IS:t.GC
 lo:t.lo=0
 hi:0<t.hi/\t.hi<=1000000000000
 cut:∀a b,YL t a b
 nest:LY t.AE
 sl:∀x∈t.AE,0<=x.lo/\x.lo<x.hi/\x.hi<=t.hi
 st:∀x∈t.AS,0<=x.lo/\x.lo<x.hi/\x.hi<=t.hi
 bl:∀x∈t.blocks,0<=x.lo/\x.lo<x.hi/\x.hi<=t.hi
 root:BG Ac.self t.AE=BG Jn t.AE
 lk:Lk t
def jr{q:List Ac}{pr:Nat->Int}(hq:∀s∈q,s.depth=0/\0<=s.lo/\s.lo<=s.hi/\s.hi<=1000000000000)(hp:∀i,i<q.length->-1<=pr i/\pr i<i)(h:q.length<=24):∀x∈CW q pr q.length,-1000000000000000<=x.self/\x.self<=1000000000000000:=λx hx=>by
 have:=Rn hq hp q.length (AR _) x hx;omega
def ZP{α β:Type}{p:α->Bool}{f:α->β}{l:List α}{y:β}(h:y∈fmF p f l):∃x∈l,p x=true/\y=f x:=by
 obtain⟨x,hx,rfl⟩:=C4.1 h;obtain⟨a,b⟩:=GP.1 hx;exact⟨x,a,b,rfl⟩
def iP{t:EY}(h:Trc t){c d:Int}(h0:0<=c)(hd:d<=t.hi):Lk (De t c d):=by
 have k:=h.lk;have hh:=h.hi;have hq:(Bx c d t.AE).length<=t.AE.length:=by
  unfold Bx;rw[show(HI (Fc c d t.AE t.AE.length)).length=_ from(MG _ _)];exact Wt c d t.AE t.AE.length
 have f1:=LC (λx:BQ=>C_ c d x.lo x.hi) (JH c d) t.AS t.AS.length;have f2:=LC (λx:B4=>C_ c d x.lo x.hi) (Iz c d) t.blocks t.blocks.length;rw[BL] at f1 f2;have k1:=k.sl;have k2:=k.st;have k3:=k.bl;refine⟨k.th,?_,?_,?_,λx hx=>?_,λx hx=>?_,λx hx=>?_⟩
 ·show(CW _ _ _).length<=_;rw[Jr];omega
 ·show(fmF _ _ _).length<=_;omega
 ·show(fmF _ _ _).length<=_;omega
 ·have hl:((Bx c d t.AE).map λp=>z0S p.s).length=(Bx c d t.AE).length:=BW ..;have hx:x∈CW ((Bx c d t.AE).map λp=>z0S p.s) (prC (Bx c d t.AE)) ((Bx c d t.AE).map λp=>z0S p.s).length:=by rw[hl];exact hx
  refine jr (λs hs=>?_) (λi hi=>(ZV h.nest i oo).1) oo x hx;obtain⟨p,hp,rfl⟩:=C4.1 hs;obtain⟨y,hy,b,e⟩:=ZP ((XI c d t.AE).mem_iff.1 (C4.2 ⟨p,hp,rfl⟩));have hz:=h.sl y hy;unfold C_ at b;rw[CZ] at b;refine⟨rfl,?_⟩;show 0<=p.s.lo/\p.s.lo<=p.s.hi/\p.s.hi<=1000000000000;rw[e];show 0<=max y.lo c-c/\max y.lo c-c<=min y.hi d-c/\min y.hi d-c<=1000000000000;omega
 ·obtain⟨y,hy,b,rfl⟩:=ZP hx;have:=h.st y hy;unfold C_ at b;rw[CZ] at b;unfold JH;simp only;omega
 obtain⟨y,hy,b,rfl⟩:=ZP hx;have:=h.bl y hy;unfold C_ at b;rw[CZ] at b;unfold Iz;simp only;omega
def vf{t:EY}(h:Trc t){a:Int}(h0:0<a)(h1:a<t.hi):BG (λx:An=>Ep (De t 0 a).AE x.id) t.threads+BG (λx:An=>Ep (De t a t.hi).AE x.id) t.threads=BG (λx:An=>Ep t.AE x.id) t.threads:=by
 refine Rx λx _=>?_;obtain⟨m,rfl⟩:=M_ (oo:0<=a);obtain⟨n,hn⟩:=M_ (oo:0<=t.hi-m);exact vI (n:=n) h.nest oo h.hi.2 h.sl x.id
def xN{A9:List An}{o:List AN}(h:EvO A9 o)(he:C7 o<=1000000000000):(∀x∈slO o,-1000000000000000<=x.self/\x.self<=1000000000000000)/\BG Ac.self (slO o)=BG Jn (slO o):=by
 obtain⟨hP,hpl⟩:=Z6 h;have hq:Qs (pfO o) (qO o):=hP.qs;have hlq:=hq.len;have hQl:((qO o).map B0.s).length=(qO o).length:=BW ..;have hpr:∀i,i<((qO o).map B0.s).length->-1<=prP (pfO o) (qO o) i/\prP (pfO o) (qO o) i<i:=λi hi=>by
  rw[hQl] at hi;obtain⟨n,h1,h2,h3,_⟩:=hq.at hP hi;rcases hq.par hP hi h1 h3 with⟨_,e,_⟩|⟨v,m,hv,_,_,_,e,_⟩<;>rw[e]<;>omega
 have hb:∀s∈(qO o).map B0.s,s.depth=0/\0<=s.lo/\s.lo<=s.hi/\s.hi<=1000000000000:=λs hs=>by
  obtain⟨x,hx,rfl⟩:=C4.1 hs;obtain⟨n,h1,h2,rfl⟩:=(hq.mem x).1 hx;have:=hP.num n h1;unfold Hn at h2;exact⟨this.2.1,oo,oo,oo⟩
 have hr:=Xi (Q:=(qO o).map B0.s) hpr (qO o).length oo;refine⟨λx hx=>jr hb hpr oo x (by rw[hQl];exact hx),?_⟩;show BG _ (CW _ _ _)=BG _ (CW _ _ _);rw[hr.1,hr.2]
def Q3u{l:Av}(h:l.BZ)(h0:(GZ l).2=0)(he:0<(GZ l).1.hi):Trc (GZ l).1:=by
 obtain⟨e,T,b⟩:=Q3v h h0 he;have ho:(EJ l).2=0:=by
  unfold GZ at h0;by_cases c:(EJ l).2=0
  ·exact c
  rw[AD c] at h0;exact absurd h0 c
 have hE:=ZT h ho;have h10:=h.A9;rw[e] at he ⊢;generalize (EJ l).1=o at *;obtain⟨r1,r2⟩:=xN hE b;have f:=T.few2;refine⟨T.val,T.IS,rfl,⟨he,b⟩,Q0i T b,gB T,λx hx=>?_,T.st,T.bl,r2,⟨h10,f.1,f.2.1,f.2.2.2.2.2.1,r1,λx hx=>?_,λx hx=>?_⟩⟩
 ·have:=T.sl x hx;exact⟨this.1,this.2.1,this.2.2.1⟩
 ·have:=T.st x hx;omega
 have:=T.bl x hx;omega
end YtafpldmnkcegmaaGreat
end Go.Proofs

set_option maxRecDepth 100000
namespace Go.Proofs
open Go.AM Tryz
namespace YtafpldmnkcegmaaGreat
variable {Gl:BM}
def Q0y(L:List Ac){l:List An}(h:l.length<=10):0<=BG (λx:An=>Ep L x.id) l/\BG (λx:An=>Ep L x.id) l<=10000000000000:=by
 have:∀l:List An,0<=BG (λx:An=>Ep L x.id) l/\BG (λx:An=>Ep L x.id) l<=1000000000000*l.length:=λl=>by
  induction l with
  | nil=>exact⟨EP _,EP _⟩
  | cons x r ih=>
   have:=Wd L x.id;rw[GO,CT];omega
 have:=this l;omega
def X2(l:List BQ)(hb:∀x∈l,0<=x.lo/\x.lo<x.hi/\x.hi<=1000000000000)(h:l.length<=1000)(k:Nat):-1000000000000000<=GA l k/\GA l k<=1000000000000000:=by
 have:=N9 (g:=λx:BQ=>if x.state=k then x.hi-x.lo else 0) (l:=l) (m:=1000000000000) (λx hx=>lJ) l.length (AR _);rw[BL] at this;have e:BG (λx:BQ=>if x.state=k then x.hi-x.lo else 0) l=GA l k:=rfl;rw[e] at this;omega
def vB(l:List Ac)(hb:∀x∈l,-1000000000000000<=x.self/\x.self<=1000000000000000)(h:l.length<=24):-100000000000000000<=BG Ac.self l/\BG Ac.self l<=100000000000000000:=by
 have:=N9 (g:=Ac.self) (l:=l) (m:=1000000000000000) hb l.length (AR _);rw[BL] at this;omega
def Qg2{x:Int}(h:x % 1000=0):Int.tmod x 1000=0:=Int.tmod_eq_zero_of_dvd (Int.dvd_of_emod_eq_zero h)
set_option maxHeartbeats 4000000 in
def vu(l:Av)(a:Int)(hp:l.parts.length<2000000)(hb:∀p∈l.parts,p.A_.length<2000000)(hs:∀p∈l.parts,∀e∈p.A_,e.stack.length<2000000):
  AT prog Gl 3 [.d l.A5,(a:Int)] (.d (.bool true)):=by
 refine AT.Jv ?_;refine acS func3 ntmps3 results3 ?_;simp only[zF,seval,B6];refine Ak (uO l 24 hp hb) ?_;cases hsh:Re l 24
 ·refine C0 ?_;refine Ak YU ?_;exact Kx
 have h:=xL hsh hs;simp only[zF,seval];refine Ak (gv l h) ?_;obtain⟨e,he⟩:∃e,(GZ l).2=e:=⟨_,rfl⟩;have hT:=λh0=>Q3u h h0;rw[he] at hT ⊢;generalize (GZ l).1=t at *;simp only[zF,seval];apply ifC.mk<;>intro hc
 ·refine Ak YU ?_;exact Kx
 have hc:e=0/\0<a/\a<t.hi:=by
  simp only[JY,GG] at hc;obtain⟨⟨c1,c2⟩,c3⟩:=hc;exact⟨Ia,oo,oo⟩
 obtain⟨c1,c2,c3⟩:=hc;have T:=hT c1 oo;subst c1;have hz:(decide (a<=0))=false:=HX oo;have hh:=T.hi;simp only[hz,show((0:Int) !=0)=false from rfl,Le];refine Ak (kn t T.IS T.val T.lo 0 a ⟨oo,oo,oo,hh.2⟩ (T.cut 0 a)) ?_;have L1:=iP T (c:=0) (d:=a) oo oo;have L2:=iP T (c:=a) (d:=t.hi) oo oo;have B:=vf T c2 c3;have S:=Qbr T.nest (a:=a) (T:=t.hi) oo oo T.sl;have U:=qI (a:=a) (T:=t.hi) oo oo T.st;have V:=rv (a:=a) (T:=t.hi) oo oo T.bl;simp only[zF,seval];refine Ak (kn t T.IS T.val T.lo a t.hi ⟨oo,oo,oo,hh.2⟩ (T.cut a t.hi)) ?_;have N1:=L1.th;have N2:=L1.sl;have N3:=L2.th;have N4:=L2.sl;have N5:=T.lk.th;have N6:=T.lk.sl;have e1:(De t 0 a).threads=t.threads:=rfl;have e2:(De t a t.hi).threads=t.threads:=rfl;have bd:∀L:List Ac,0<=BG (λx:An=>Ep L x.id) t.threads/\BG (λx:An=>Ep L x.id) t.threads<=10000000000000:=λL=>Q0y L N5;have K1:=ZN (Gl:=Gl) (De t 0 a) oo oo;have K2:=ZN (Gl:=Gl) (De t a t.hi) oo oo;have K3:=ZN (Gl:=Gl) t oo oo;rw[e1] at K1;rw[e2] at K2;have q1:=bd (De t 0 a).AE;have q2:=bd (De t a t.hi).AE;have q3:=bd t.AE;generalize BG (λx:An=>Ep (De t 0 a).AE x.id) t.threads=b1 at *;generalize BG (λx:An=>Ep (De t a t.hi).AE x.id) t.threads=b2 at *;generalize BG (λx:An=>Ep t.AE x.id) t.threads=b3 at *;simp only[zF,seval]
 repeat((with_reducible apply aI);exact sdp)
 refine DS (λ_=>K1) ?_;simp only[zF,seval];refine DS (λ_=>K2) ?_;simp only[zF,seval];refine DS (λ_=>K3) ?_;have e3:(De t 0 a).hi+(De t a t.hi).hi=t.hi:=by
  show a-0+(t.hi-a)=t.hi;omega
 simp only[zF,seval,B,e3,a_w (b3),a_w (t.hi),PU,Bool.or_self];have st1:=L1.st;have st2:=L2.st;have st3:=T.lk.st;have bl1:=L1.bl;have bl2:=L2.bl;have bl3:=T.lk.bl
 repeat((with_reducible apply aI);exact sdp)
 refine Ak (X_ (De t 0 a) oo L1.sb) ?_;simp only[zF,seval];refine Ak (X_ (De t a t.hi) oo L2.sb) ?_;simp only[zF,seval];refine Ak (X_ t oo T.lk.sb) ?_;have u1:=X2 (De t 0 a).AS L1.sb st1;have u2:=X2 (De t a t.hi).AS L2.sb st2;have u3:=X2 t.AS T.lk.sb st3;have U:∀k,GA (De t 0 a).AS k+GA (De t a t.hi).AS k=GA t.AS k:=U;have g:∀(l:List BQ) (k:Nat),k<6->(H5 l).getD k default=.int .i64 (GA l k):=λl k h=>dN l h;simp only[zF,seval,Uh];generalize (De t 0 a).AS=S1 at *;generalize (De t a t.hi).AS=S2 at *;refine Bm 6 (λk=>[(5,.ptr 1 0),(7,.ptr 2 0),(8,.ptr 3 0),(10,.d (.sl (H5 S1))),(11,.d (.sl (H5 S2))),(12,.d (.sl (H5 t.AS))),(90,(6:Int)),(91,(k:Int))]) (λ_=>[.box 4 (.d l.A5),.box 10 (.d t.A5),.box 10 (.d (De t 0 a).A5),.box 10 (.d (De t a t.hi).A5)]) (λ_=>True) trivial ?_ ?_
 ·exact Dd
 intro k _ hk;by_cases h6:k<6
 ·have u1:=u1 k;have u2:=u2 k;have u3:=u3 k;have U:=U k;have g1:=g S1 k h6;have g2:=g S2 k h6;have g3:=g t.AS k h6;generalize GA S1 k=x1 at *;generalize GA S2 k=x2 at *;generalize GA t.AS k=x3 at *;simp only[zF,seval,(oo:(k:Int)<6),h6,Uh,g1,g2,g3,a_w (x1+x2),a_w (x3),U,a_w ((k:Int)+1)];refine Ag ?_;rw[show(x3 !=x3)=false from PU ..];refine C0 ?_;exact Dd
 have hk:k=6:=oo;subst hk;simp only[zF,seval,(oo:¬(((6:Nat):Int)<6))]
 repeat((with_reducible apply aI);exact sdp)
 refine Ak (ZQ (De t 0 a) oo L1.se oo) ?_;simp only[zF,seval];refine Ak (ZQ (De t a t.hi) oo L2.se oo) ?_;simp only[zF,seval];refine Ak (ZQ t oo T.lk.se oo) ?_;have S:BG Ac.self (De t 0 a).AE+BG Ac.self (De t a t.hi).AE=BG Ac.self t.AE:=by rw[T.root];exact S
 have sb:=vB t.AE T.lk.se N6;generalize BG Ac.self (De t 0 a).AE=y1 at *;generalize BG Ac.self (De t a t.hi).AE=y2 at *;generalize BG Ac.self t.AE=y3 at *;have K1:=YV (Gl:=Gl) (De t 0 a) oo L1.bb;have K2:=YV (Gl:=Gl) (De t a t.hi) oo L2.bb;have K3:=YV (Gl:=Gl) t oo T.lk.bb;have V:((BG (λx:B4=>(x.hi-x.lo) % 1000) (De t 0 a).blocks) % 1000+(BG (λx:B4=>(x.hi-x.lo) % 1000) (De t a t.hi).blocks) % 1000-(BG (λx:B4=>(x.hi-x.lo) % 1000) t.blocks) % 1000) % 1000=0:=V;generalize hz1:(BG (λx:B4=>(x.hi-x.lo) % 1000) (De t 0 a).blocks) % 1000=z1 at *;generalize hz2:(BG (λx:B4=>(x.hi-x.lo) % 1000) (De t a t.hi).blocks) % 1000=z2 at *;generalize hz3:(BG (λx:B4=>(x.hi-x.lo) % 1000) t.blocks) % 1000=z3 at *;have zb:(0<=z1/\z1<1000)/\(0<=z2/\z2<1000)/\0<=z3/\z3<1000:=oo;have zt:Int.tmod (z1+z2-z3) 1000=0:=Qg2 V;simp only[zF,seval,S,a_w (y3)];refine DS (λ_=>K1) ?_;simp only[zF,seval];refine DS (λ_=>K2) ?_;simp only[zF,seval];refine DS (λ_=>K3) ?_;simp only[zF,seval,a_w (z1+z2),a_w (z1+z2-z3),zt];refine DS (λ_=>YU) ?_;simp only[zF,seval];rw[show(y3==y3)=true from BEq.rfl];exact⟨_,_,Ei,rfl,rfl⟩
end YtafpldmnkcegmaaGreat
end Go.Proofs
