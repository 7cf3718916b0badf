/- A part of the proof: contracts of functions of this seat, and lemmas. No condition beyond those stated. -/
import Derived.Test.YtafpldmnkcegmaaGreatH4
import Derived.Test.YtafpldmnkcegmaaGreatG4
import Derived.Test.YtafpldmnkcegmaaGreatH3
import Derived.Test.YtafpldmnkcegmaaGreatH2
set_option linter.all false
set_option maxRecDepth 100000
namespace Go.Proofs
open Go.AM Tryz
namespace YtafpldmnkcegmaaGreat
variable {Gl:BM}
def Kh(nx:Nat->List Int):Nat->List Int->List Bool->List Bool
 | 0,_,seen=>seen
 | f+1,todo,seen=>match todo with
  | []=>seen
  | _::_=>
   let x:=(todo.getD (todo.length-1) default).toNat
   if seen.getD x default=false then Kh nx f (todo.dropLast++nx x) (seen.set x true) else Kh nx f todo.dropLast seen
def nuA(todo:List Int)(seen:List Bool):Nat:=(seen.filter λb=>!b).length*20001+todo.length
def J2(nx:Nat->List Int)(n i:Nat):List Bool:=Kh nx (n*20001+20001) (nx i) (List.replicate n false)
def dh(s:List Bool):∀(i:Nat),i<s.length->s.getD i default=false->((s.set i true).filter λb=>!b).length+1=(s.filter λb=>!b).length:=by
 induction s with
 | nil=>intro i h;simp at h
 | cons a r ih=>
  intro i h hf;cases i with
  | zero=>
   have e:a=false:=hf;subst e;simp
  | succ i=>
   have:=ih i Dy (by simpa using hf);rw[aF];cases a
   ·simp only[PT,Vk,By,CT];omega
   simp only[PT,Sz,Cx,CF];exact this
def wU(m:Nat)(hm:m<=100000):P7 prog 220 (.d (.int .i64 (m:Int))) (.d (.int .i64 (m:Int))):=by
 refine(show _/\_/\_/\(0:Int)<=m/\(m:Int)<=m/\((1:Nat):Int)*(m:Int)<=281474976710656/\(m:Int)<=_ from⟨rfl,rfl,rfl,?_,?_,?_,?_⟩)<;>omega
def yv(S:Sto)(m:Nat):mkS prog S 220 (.d (.int .i64 (m:Int)))=S++[.arr 1 (List.replicate m (.bool false))]:=rfl
set_option maxHeartbeats 8000000 in
def tW(l:Av)(h:l.BZ){Z:Sto}{w M:Nat}(hW:Sm Z w M l (E1 l))(i:Nat)(hi:i<(AI l.parts).length):
  AW prog Gl 118 [.ptr w 0,((i:Nat):Int)] Z (λr s=>r=.d (.sl ((J2 (E1 l) (AI l.parts).length i).map AM.D.bool))/\Fr Z s []):=by
 have hev24:(AI l.parts).length<=24:=W8;have hlI:(Ah l.parts).length=(AI l.parts).length:=Ma;have hin:=Ws l;have hnl:=XQ l hev24;have hbox:=hW.box;rw[FJ] at hbox;have lbox:=AG hbox rfl;refine Fv func118 rfl rfl (by simp[ntmps118]) ?_;simp only[ntmps118,results118,B6,C6];generalize E1 l=nx at *;generalize hnn:(AI l.parts).length=n at *;have hrl:((List.range n).map λi=>AM.D.sl ((nx i).map (.int .i64))).length=n:=A6;have hrg:∀k,k<n->((List.range n).map λi=>AM.D.sl ((nx i).map (.int .i64))).getD k default=.sl ((nx k).map (.int .i64)):=λk hk=>by simp[hk]
 generalize hRR:((List.range n).map λi=>AM.D.sl ((nx i).map (.int .i64)))=rows at *;have hmk:=wU n oo;have hms:=yv Z n;refine AWp.seq (Bu rfl _ _ _ _ ?_);simp only[zF,seval];refine AWp.seq (Bu rfl _ _ _ _ ?_);simp only[zF,seval,hbox,lbox,hlI,hmk,hms];have hfB:Fr Z (Z++[.arr 1 (List.replicate n (.bool false))]) []:=Fr.app _ _;have hB1:A1 (Z++[.arr 1 (List.replicate n (.bool false))]) Z.length=.arr 1 (List.replicate n (.bool false)):=Cd;have hb1:=hfB.at hbox rfl A6;have hl1:(Z++[Blk.arr 1 (List.replicate n (.bool false))]).length=Z.length+1:=A6;generalize (Z++[Blk.arr 1 (List.replicate n (.bool false))])=s1 at *;have lb1:=AG hb1 rfl;refine AWp.seq (Bu rfl _ _ _ _ ?_);simp only[zF,seval,hb1,lb1,hrl,hi,(oo:(i:Int)<n),hrg i hi];refine Be ((fb (nx i) (by have:=hnl i;omega) s1).mono λr s2 hr=>?_);obtain⟨rfl,rfl⟩:=hr;simp only[zF,seval,BW];have hf2:Fr s1 (s1++[.arr 1 ((nx i).map (.int .i64))]) []:=Fr.app _ _;have hlo2:=(Fr.lo (N:=Z.length) hfB A6).trans (Fr.lo (N:=Z.length) hf2 A6);refine AWp.seq (AWp.block ?_);refine Fm (τ:=(List Int×List Bool)×Nat×Sto) (λy=>[(6,.A8 y.2.1 0 y.1.1.length),(5,.A8 Z.length 0 n),(0,.ptr w 0)]) (λy=>y.2.2)
  (λy=>(nuA y.1.1 y.1.2<=600000/\y.1.2.length=n/\(∀z∈y.1.1,0<=z/\z<(n:Int))/\∃fu,nuA y.1.1 y.1.2<fu/\Kh nx fu y.1.1 y.1.2=J2 nx n i)/\Lo Z.length Z y.2.2/\A1 y.2.2 Z.length=.arr 1 (y.1.2.map .bool)/\A1 y.2.2 w=A1 s1 w/\Z.length<y.2.1/\∃xs,A1 y.2.2 y.2.1=.arr 1 xs/\xs.take y.1.1.length=y.1.1.map (.int .i64)/\y.1.1.length<=xs.length)
  (λy=>nuA y.1.1 y.1.2) ((nx i,List.replicate n false),s1.length,_) ⟨⟨?_,A6,hin i,n*20001+20001,?_,rfl⟩,hlo2,?_,?_,(oo:Z.length<s1.length),_,Cd,Bi A6,A6⟩ (AU rfl) ?_
 ·have h1:=hnl i;have h2:=Ge (λb:Bool=>!b) (List.replicate n false);rw[IY] at h2;simp only[nuA];omega
 ·have h1:=hnl i;have h2:=Ge (λb:Bool=>!b) (List.replicate n false);rw[IY] at h2;have h3:=EC 20001 h2;simp only[nuA];omega
 ·simp only;rw[aG];exact hf2.at hB1 rfl A6
 ·exact BB lb1
 clear hf2 hlo2 hB1;rintro⟨⟨todo,seen⟩,T,S⟩ ⟨⟨hnb,hsl,htin,fu,hfu1,hfu2⟩,hlo,hB,hbS,hT,xs,hxs,hxt,hxl⟩;simp only at hnb hsl htin hfu1 hfu2 hlo hB hbS hT hxs hxt hxl;refine AWp.seq (AWp.seq (Bu rfl _ _ _ _ ?_));obtain⟨fm,rfl⟩:∃m,fu=m+1:=⟨fu-1,oo⟩;cases todo with
 | nil=>
  simp only[zF,seval,C6];refine GV ?_;refine GV ?_;have hres:seen=J2 nx n i:=hfu2;have hd:(AV.A8 Z.length 0 n).Db S=true:=by simp[AV.Db,EH,hB,Blk.AY]
  have htk:List.take n (seen.map D.bool)=seen.map D.bool:=Bi (by simp[hsl]);refine⟨_,_,Xf hd,?_,Lo.fr (hlo.trans ⟨by rw[M9];exact AR _,λj hj _=>Px _ _ _ (by simp[AV.refs,HE];omega)⟩)⟩;rw[<-hres];show AV.d (Cv S (.A8 Z.length 0 n))=_;simp only[Cv,hB,Blk.xs,IZ,htk]
 | cons a rest=>
  simp only[zF,seval,CT,(oo:(0:Int)<(rest.length:Int)+1)];refine GV ?_;obtain⟨xn,hxn,hxnl⟩:∃m:Nat,(a::rest).getD rest.length default=(m:Int)/\m<n:=by
   have:=htin _ (Ba (l:=a::rest) (k:=rest.length) A6);exact⟨((a::rest).getD rest.length default).toNat,oo,oo⟩
  rw[CT] at hxt hxl;have hxe:xs.getD rest.length default=.int .i64 (xn:Nat):=by
   have h1:(xs.take (rest.length+1)).getD rest.length default=xs.getD rest.length default:=by
    simp only[B5];rw[GH oo]
   rw[<-h1,hxt,<-hxn,Af _ _ _ A6]
  have lxs:=AG hxs rfl;have lB:=AG hB rfl;have hbS2:=hbS.trans hb1;have lbS:=AG hbS2 rfl;have hrb:rest.length<1000000:=by unfold nuA at hnb;simp only[CT] at hnb;omega
  have hwr:IntKind.i64.wrap ((rest.length:Int)+1-1)=rest.length:=Bz;refine Gg ?_;refine Cf ?_;simp only[zF,seval,hxs,lxs,hwr,(oo:(rest.length:Int)<(rest.length:Int)+1),(oo:rest.length<xs.length),hxe];have hdl:(a::rest).dropLast.length=rest.length:=A6;have hnT:Z.length≠T:=oo;have hnw:Z.length≠w:=AX hB hbS2 A6;have hdt:xs.take rest.length=(a::rest).dropLast.map (.int .i64):=by
   have h1:xs.take rest.length=(xs.take (rest.length+1)).take rest.length:=by rw[Vl];congr 1;omega
   rw[h1,hxt,<-JT,aR];simp
  have hdin:∀z∈(a::rest).dropLast,0<=z/\z<(n:Int):=λz hz=>htin z (T9 _ hz);have hak:Kh nx (fm+1) (a::rest) seen=if seen.getD xn default=false then Kh nx fm ((a::rest).dropLast++nx xn) (seen.set xn true) else Kh nx fm (a::rest).dropLast seen:=by
   have e1:(a::rest).length-1=rest.length:=A6;show(if seen.getD ((a::rest).getD ((a::rest).length-1) default).toNat default=false then _ else _)=_;rw[e1,hxn,Dw]
  rw[hfu2] at hak;have hnum:nuA (a::rest).dropLast seen+1=nuA (a::rest) seen:=by unfold nuA;rw[hdl,CT];omega
  have hnn2:seen.getD xn default=false->nuA ((a::rest).dropLast++nx xn) (seen.set xn true)<nuA (a::rest) seen:=λhf=>by
   have h1:=dh seen xn oo hf;have h2:=hnl xn;unfold nuA;rw[Bb,hdl,CT];omega
  have hxin:=hin xn;have hrx:=hrg xn hxnl;have hxs':xn<seen.length:=oo;have hnxl:=hnl xn;generalize (a::rest).dropLast=td at *;refine Cf ?_;simp only[zF,seval,hxs,lxs,hwr,(oo:(rest.length:Int)<=(rest.length:Int)+1),(oo:(rest.length:Int)<=xs.length),(oo:rest.length<=xs.length),Dw];refine Eu ?_;simp only[zF,seval,hB,lB,(oo:(xn:Int)<n),hsl,hxnl,hxs',Af _ _ _ (oo:xn<seen.length),BW,hbS2,lbS,hnw,hnT,hrl,hrx,hxs,lxs,hdt,Nw,(oo:(rest.length+(nx xn).length)*8<=140737488355328),(oo:rest.length+(nx xn).length<=4611686018427387904)];apply ifC.mk<;>intro hc
  ·have hc':seen.getD xn default=false:=Dc;rw[AD hc'] at hak;have hn3:=hnn2 hc';have hf9:Fr S ((S.set Z.length (.arr 1 ((seen.map D.bool).set xn (.bool true)))).set T .dead++[.arr 1 (td.map (.int .i64)++(nx xn).map (.int .i64))]) [Z.length,T]:=(((Fr.refl S [Z.length,T]).set _ A6).set _ A6).trans (Fr.app _ _) A6;refine⟨((td++nx xn,seen.set xn true),S.length,_),⟨⟨AQ,by simp only[BH];exact hsl,λz hz=>?_,fm,AQ,hak.symm⟩,hlo.trans (Fr.lo hf9 Ap),?_,?_,(oo:Z.length<S.length),td.map (.int .i64)++(nx xn).map (.int .i64),?_,?_,?_⟩,hn3,?_⟩;rotate_left 6
   ·simp only[Bb,hdl];exact AU rfl
   ·rcases CH.1 hz with hz|hz
    ·exact hdin z hz
    exact hxin z hz
   ·simp only;rw[BB Ap,As hnT.symm,BX lB,JS]
   ·simp only;rw[hb1] at hbS ⊢;exact hf9.at hbS rfl Ap
   ·simp only;rw[CE,A7 A6,BH,BH,FA];rfl
   ·simp only;rw[CA];exact Bi A6
   simp
  have hc':¬seen.getD xn default=false:=Dc;rw[A7 hc'] at hak;exact⟨((td,seen),T,S),⟨⟨AQ,hsl,hdin,fm,AQ,hak.symm⟩,hlo,hB,hbS,hT,xs,hxs,by simp only;rw[hdl];exact hdt,AQ⟩,AQ,AU (by simp only[hdl];rfl)⟩

def MO(ids:List (Int×Int)):Nat->Int×Int->Option Nat
 | 0,_=>none
 | k+1,x=>if x=ids.getD k default then some k else MO ids k x
def iY(ids:List (Int×Int)):∀(k:Nat) (a b:Int),Jz ids k (.p a b)=(MO ids k (a,b)).map λi=>.d (.int .i64 (i:Nat))
 | 0,_,_=>rfl
 | k+1,a,b=>by
  unfold Jz MO BO;by_cases h:(a,b)=ids.getD k default
  ·rw[AD h,AD (by rw[<-h])];rfl
  rw[A7 h,A7 (λe=>h (by cases e;rfl))];exact iY ids k a b
def j_(ids:List (Int×Int)):∀(k:Nat) (x:Int×Int) (i:Nat),MO ids k x=some i->i<k/\ids.getD i default=x
 | 0,_,_,h=>D8
 | k+1,x,i,h=>by
  unfold MO at h;split at h
  ·rename_i e;cases h;exact⟨oo,e.symm⟩
  have:=j_ ids k x i h;exact⟨oo,this.2⟩
def Hm(l:Av)(k:Nat)(t:Int):Nat->Int
 | 0=>0
 | i+1=>if((Ah l.parts).getD i default).1=t/\(i=k\/(J2 (E1 l) (AI l.parts).length i).getD k default=true) then((Ah l.parts).getD i default).2+1 else Hm l k t i
def Df(l:Av)(k:Nat):List Int:=l.A9.map λt=>Hm l k t.id (AI l.parts).length
def MQ(l:Av)(x:Int×Int):List Int×Int:=if Eg l≠0 then([],Eg l) else match MO (Ah l.parts) (AI l.parts).length x with
 | none=>([],5)
 | some k=>(Df l k,0)
def WZ(nx:Nat->List Int):∀(f:Nat) (todo:List Int) (seen:List Bool),(Kh nx f todo seen).length=seen.length
 | 0,_,_=>rfl
 | f+1,todo,seen=>by
  unfold Kh;split
  ·rfl
  simp only;split
  ·rw[WZ nx f,BH]
  rw[WZ nx f]
def vF(nx:Nat->List Int)(n i:Nat):(J2 nx n i).length=n:=by unfold J2;rw[WZ];simp
def VB{l:Av}(h:Fu l=0){x:Int×Int}(hx:x∈Ah l.parts):0<=x.2/\x.2<1000000000000000/\0<=x.1/\x.1<=1000000000000000:=by
 obtain⟨p,hp,hq⟩:=HZ.1 hx;obtain⟨k,hk,e⟩:=Gd hp;have hg:l.parts.getD k default=p:=by simp[hk,e]
 have:=P1 (OL (NS h).2.1 k hk);rw[hg] at this;obtain⟨j,hj,e⟩:=C4.1 hq;have:=CI.1 hj;rw[<-e];simp only;omega
def NG{l:Av}(h:Eg l=0):Fu l=0:=by
 unfold Eg at h;split at h
 ·exact Tc
 rename_i h1;unfold Ip at h1;split at h1
 ·rename_i h2;exact absurd h1 DN
 rename_i h2;simpa using h2
set_option maxHeartbeats 8000000 in
def fD(l:Av)(h:l.BZ)(x:Int×Int):AT prog Gl 68 [.d l.A5,.d (idD x)] (.Aj [.d (.sl ((MQ l x).1.map (.int .i64))),.d (.int .i64 (MQ l x).2)]):=by
 refine AT.Fx ?_;have hev24:(AI l.parts).length<=24:=W8;have hlI:(Ah l.parts).length=(AI l.parts).length:=Ma;have e1:Eg l≠0->MQ l x=([],Eg l):=λhc=>by rw[MQ,AD hc]
 refine Fv func68 rfl rfl (by simp[ntmps68]) ?_;simp only[ntmps68,results68,B6,C6];refine Cf ?_;simp only[zF,seval,idD];refine Cu ?_;refine Be ((jd l h _).mono λr s hr=>?_);by_cases hc:Eg l≠0
 ·rw[AD hc] at hr;obtain⟨rfl,hf⟩:=hr;rw[e1 hc];refine C0 ?_;refine Cf ?_;simp only[zF,seval,show(Eg l !=0)=true by simpa using hc];exact Lq
 rw[A7 hc] at hr;obtain⟨w,M,rfl,hw,hM,hW,hf⟩:=hr;refine C0 ?_;refine Cu ?_;have hc0:Eg l=0:=Dc;have hb0:=hf.at (j:=0) (B:=.box 4 (.d l.A5)) rfl rfl A6;have hb1:=hf.at (j:=1) (B:=.box 2 (.d (.agg [.int .i64 x.1,.int .i64 x.2]))) rfl rfl A6;have l0:=AG hb0 rfl;have l1:=AG hb1 rfl;have hbox:=hW.box;rw[FJ] at hbox;have lbox:=AG hbox rfl;have hM:=hW.Ad;have lM:=AG hM rfl;have hlk:=iY (Ah l.parts) (AI l.parts).length x.1 x.2;refine Cf ?_;cases hp:MO (Ah l.parts) (AI l.parts).length (x.1,x.2) with
 | none=>
  have e2:MQ l x=([],5):=ll;rw[hp,aM] at hlk;simp only[zF,seval,hb1,l1,hbox,lbox,hM,lM,hlk];refine⟨.inl Ax,?_⟩;refine Cu ?_;rw[e2];exact Lq
 | some k=>
  have hkl:=(j_ _ _ _ _ hp).1;have e2:MQ l x=(Df l k,0):=ll;rw[hp,DF] at hlk;simp only[zF,seval,hb1,l1,hbox,lbox,hM,lM,hlk];refine⟨.inl Ax,?_⟩;refine Cu ?_;rw[e2];refine Cu ?_;refine AWp.Cj (Eb 10 1 rfl) ?_;have hf2:Fr s (s++[.arr 1 []]) []:=Fr.app _ _;have hlen:=hW.box;clear e1 hlk hb1 l1 hp;refine Hd ?_;have g0:=hf2.at hb0 rfl A6;have g0l:=AG g0 rfl;simp only[zF,seval,g0,g0l];refine Gg ?_;refine Fm (τ:=Nat×Nat×Sto) (λy=>[(39,(y.1:Int)),(38,(l.A9.length:Int)),(37,.d (.sl (l.A9.map An.A5))),(10,.A8 y.2.1 0 y.1),(8,((k:Nat):Int)),(6,.ptr w 0)]) (λy=>y.2.2)
   (λy=>y.1<=l.A9.length/\Sm y.2.2 w M l (E1 l)/\A1 y.2.2 y.2.1=.arr 1 (((l.A9.take y.1).map λt=>Hm l k t.id (AI l.parts).length).map (.int .i64))) (λy=>l.A9.length-y.1) (0,s.length,_) ⟨Bq _,⟨hf2.at hW.box rfl A6,hf2.at hW.Ad rfl A6⟩,Cd⟩ (AU rfl) ?_
  rintro⟨j,R,S⟩ ⟨hj,hWS,hRS⟩;simp only at hj hWS hRS;refine Cf ?_;by_cases hjl:j<l.A9.length
  ·generalize hxx:l.A9.getD j default=t at *;simp only[zF,seval,(oo:(j:Int)<l.A9.length)];refine Jf ?_;simp only[zF,seval,(oo:(j:Int)<l.A9.length),hjl,Af _ _ _ (oo:j<l.A9.length),hxx];refine Cu ?_;have hf3:Fr S (S++[.box 3 (.d t.A5)]) []:=Fr.app _ _;have hWS3:Sm (S++[.box 3 (.d t.A5)]) w M l (E1 l):=⟨hf3.at hWS.box rfl A6,hf3.at hWS.Ad rfl A6⟩;have hRS3:=hf3.at hRS rfl A6;have htS:=Cd (σ:=S) (B:=.box 3 (.d t.A5));have hlS:(S++[Blk.box 3 (.d t.A5)]).length=S.length+1:=A6;generalize (S++[.box 3 (.d t.A5)])=S3 at *;generalize S.length=tb at *;have hb3:=hWS3.box;rw[FJ] at hb3;have lb3:=AG hb3 rfl;refine Hd ?_;simp only[zF,seval,hb3,lb3,hlI];refine Gg ?_;refine Fm (τ:=Nat×Sto) (λy=>[(48,(y.1:Int)),(47,.d (.int .i64 (AI l.parts).length)),(46,.d (.sl ((Ah l.parts).map idD))),(13,(Hm l k t.id y.1:Int)),(12,.ptr tb 0),(39,(j:Int)),(38,(l.A9.length:Int)),(37,.d (.sl (l.A9.map An.A5))),(10,.A8 R 0 j),(8,((k:Nat):Int)),(6,.ptr w 0)]) (λy=>y.2)
    (λy=>y.1<=(AI l.parts).length/\Fr S3 y.2 []) (λy=>(AI l.parts).length-y.1) (0,S3) ⟨Bq _,Fr.refl _ _⟩ (AU rfl) ?_
   rintro⟨i,S4⟩ ⟨hi,hf4⟩;simp only at hi hf4;have htS4:=hf4.at htS rfl A6;have ltS4:=AG htS4 rfl;have hb4:=hf4.at hb3 rfl A6;have lb4:=AG hb4 rfl;refine Cf ?_;by_cases hil:i<(AI l.parts).length
   ·have hil2:i<(Ah l.parts).length:=oo;have hcs:Hm l k t.id (i+1)=if((Ah l.parts).getD i default).1=t.id/\(i=k\/(J2 (E1 l) (AI l.parts).length i).getD k default=true) then((Ah l.parts).getD i default).2+1 else Hm l k t.id i:=rfl;simp only[zF,seval,(oo:(i:Int)<(AI l.parts).length)];refine Jf ?_;simp only[zF,seval,(oo:(i:Int)<(Ah l.parts).length),hil2,Af _ _ _ (oo:i<(Ah l.parts).length),idD];refine Eu ?_;simp only[zF,seval,htS4,ltS4];refine S7 (v:=.d (.sl ((J2 (E1 l) (AI l.parts).length i).map D.bool))) (λ_ s' hs'=>?_) ?_
    ·refine AW.drop ((tW l h (w:=w) (M:=M) ⟨?_,?_⟩ i hil).mono λr s'' hr=>⟨hr.1,hr.2.1,λj hj=>hr.2.2 j hj A6⟩)
     ·have e:=Ext.box hs' (id:=w) (by rw[BB lb4,hb4];rfl);rw[e,BB lb4,hb4];rfl
     have hm4:=hf4.at hWS3.Ad rfl A6;have lm4:=AG hm4 rfl;have e:=Ext.map hs' (id:=M) (by rw[BB lm4,hm4];rfl);rw[e,BB lm4,hm4]
    have hal:=vF (E1 l) (AI l.parts).length i;generalize J2 (E1 l) (AI l.parts).length i=af at *;have hkaf:k<af.length:=oo;have hsb:=VB (NG hc0) (Ba hil2);have hf5:Fr S3 (S4++[.box 2 (.d (.agg [.int .i64 ((Ah l.parts).getD i default).1,.int .i64 ((Ah l.parts).getD i default).2]))]) []:=hf4.trans (Fr.app _ _) A6;simp only[zF,seval,hal,hkl,hkaf,(oo:(k:Int)<(AI l.parts).length),Af _ _ _ (oo:k<af.length),a_w (((Ah l.parts).getD i default).2+1)];apply ifC.mk<;>intro hz
    ·rw[AD (by simp only[C5,Gc,GR] at hz;exact⟨hz.1,hz.2.imp (λe=>oo) id⟩)] at hcs;refine Eu ?_;exact oO
    rw[A7 (λhh=>by rw[F_] at hz;exact hz (by simp only[C5,Gc,GR];exact⟨hh.1,hh.2.imp (λe=>oo) id⟩))] at hcs;refine Eu ?_;exact oO
   have hie:i=(AI l.parts).length:=oo;subst hie;have hR4:=hf4.at hRS3 rfl A6;have lR4:=AG hR4 rfl;have hths:=h.A9;have hrl:(((l.A9.take j).map λt=>Hm l k t.id (AI l.parts).length).map (D.int .i64)).length=j:=Ap;simp only[zF,seval,(oo:¬((AI l.parts).length:Int)<(AI l.parts).length)];refine GV ?_;refine Eu ?_;simp only[zF,seval,hR4,lR4,(oo:(j+1)*8<=140737488355328),(oo:j<=4611686018427387903)];have hf7:Fr S4 (S4.set R .dead++[.arr 1 [.int .i64 (Hm l k t.id (AI l.parts).length)],.arr 1 ((((l.A9.take j).map λt=>Hm l k t.id (AI l.parts).length).map (D.int .i64)).take j++[.int .i64 (Hm l k t.id (AI l.parts).length)])]) [R]:=((Fr.refl S4 [R]).set _ A6).trans (Fr.app _ _) A6;have hm4:=hf4.at hWS3.Ad rfl A6;have hx4:=hf4.at hWS3.box rfl A6;refine Eu ?_;simp only[zF,seval,a_w ((j:Int)+1)];refine⟨(j+1,S4.length+1,_),⟨AQ,⟨hf7.at hx4 rfl ?_,hf7.at hm4 rfl ?_⟩,?_⟩,AQ,AU rfl⟩
   ·simpa using AX hb4 hR4 A6
   ·simpa using AX hm4 hR4 A6
   simp only;rw[CE,A7 A6,BH,EB,Bi oo,CY l.A9 j hjl,hxx,CA,CA];rfl
  have hje:l.A9.length=j:=oo;subst hje;simp only[zF,seval,(oo:¬(l.A9.length:Int)<l.A9.length)];refine Cu ?_;rw[BL] at hRS;refine GV ?_;have htk:List.take l.A9.length (((l.A9.map λt=>Hm l k t.id (AI l.parts).length)).map (D.int .i64))=(Df l k).map (.int .i64):=Bi A6;refine⟨_,_,Ot (by simp[AV.Db,EH,hRS,Blk.AY]) ?_,rfl,rfl⟩;show Cv S (.A8 R 0 l.A9.length)=_;simp only[Cv,hRS,Blk.xs,IZ,htk]
end YtafpldmnkcegmaaGreat
end Go.Proofs

set_option maxRecDepth 100000
namespace Go.Proofs
open Go.AM Tryz
namespace YtafpldmnkcegmaaGreat
inductive Iy(nx:Nat->List Int):Nat->Nat->Prop
 | one {i k:Nat} (h:(k:Int)∈nx i):Iy nx i k
 | step {i j k:Nat} (h:Iy nx i j) (h2:(k:Int)∈nx j):Iy nx i k
def Iy.trans{nx:Nat->List Int}{i j k:Nat}(h:Iy nx i j)(h2:Iy nx j k):Iy nx i k:=by
 induction h2 with
 | one h3=>exact .step h h3
 | step _ h3 ih=>exact .step ih h3
structure La(nx:Nat->List Int)(i:Nat)(seen:Nat->Bool)(todo:List Int):Prop where
 s1:∀k,seen k=true->Iy nx i k
 s2:∀k:Nat,(k:Int)∈todo->Iy nx i k
 s3:∀k:Nat,(k:Int)∈nx i->seen k=true\/(k:Int)∈todo
 s4:∀j,seen j=true->∀k:Nat,(k:Int)∈nx j->seen k=true\/(k:Int)∈todo
def La.skip{nx:Nat->List Int}{i k:Nat}{seen:Nat->Bool}{todo:List Int}(h:La nx i seen (todo++[(k:Int)]))(hk:seen k=true):La nx i seen todo:=by
 have mv:∀j:Nat,seen j=true\/(j:Int)∈todo++[(k:Int)]->seen j=true\/(j:Int)∈todo:=λj hj=>by
  rcases hj with h1|h1
  ·exact .inl h1
  rcases CH.1 h1 with h1|h1
  ·exact .inr h1
  have:j=k:=by have:=CG.1 h1;omega
  subst this;exact .inl hk
 exact⟨h.s1,λj hj=>h.s2 j (Hw _ hj),λj hj=>mv j (h.s3 j hj),λa ha j hj=>mv j (h.s4 a ha j hj)⟩
def La.visit{nx:Nat->List Int}{i k:Nat}{seen s2:Nat->Bool}{todo:List Int}(h:La nx i seen (todo++[(k:Int)]))(hs:∀j,s2 j=true↔seen j=true\/j=k):La nx i s2 (todo++nx k):=by
 have hw:=h.s2 k A6;have mv:∀j:Nat,seen j=true\/(j:Int)∈todo++[(k:Int)]->s2 j=true\/(j:Int)∈todo++nx k:=λj hj=>by
  rcases hj with h1|h1
  ·exact .inl ((hs j).2 (.inl h1))
  rcases CH.1 h1 with h1|h1
  ·exact .inr (Hw _ h1)
  exact .inl ((hs j).2 (.inr (by have:=CG.1 h1;omega)))
 refine⟨λj hj=>?_,λj hj=>?_,λj hj=>mv j (h.s3 j hj),λa ha j hj=>?_⟩
 ·rcases(hs j).1 hj with h1|rfl
  ·exact h.s1 j h1
  exact hw
 ·rcases CH.1 hj with h1|h1
  ·exact h.s2 j (Hw _ h1)
  exact .step hw h1
 rcases(hs a).1 ha with h1|rfl
 ·exact mv j (h.s4 a h1 j hj)
 exact .inr (TB _ hj)
def La.done{nx:Nat->List Int}{i:Nat}{seen:Nat->Bool}(h:La nx i seen [])(k:Nat):seen k=true↔Iy nx i k:=by
 refine⟨h.s1 k,λhw=>?_⟩
 induction hw with
 | one h1=>exact(h.s3 _ h1).resolve_right A6
 | step _ h1 ih=>exact(h.s4 _ ih _ h1).resolve_right A6
def pz(u z w v f:Nat)(hv:v<=20000)(hw:w+1=z)(h:(u+1)*20001+z<f+1):u*20001+(w+v)<f:=oo
def q9(u z w f:Nat)(hw:w+1=z)(h:u*20001+z<f+1):u*20001+w<f:=oo
def qA(u n v:Nat)(hv:v<=20000)(hu:u<=n):u*20001+v<n*20001+20001:=oo
def W_{nx:Nat->List Int}{n i:Nat}(hin:InR n nx)(hln:∀x,(nx x).length<=20000):∀(f:Nat) (todo:List Int) (seen:List Bool),seen.length=n->nuA todo seen<f->(∀y∈todo,0<=y/\y<(n:Int)) ->
  La nx i (λk=>seen.getD k default) todo->∀k,(Kh nx f todo seen).getD k default=true↔Iy nx i k
 | 0,_,_,_,h,_,_,_=>absurd h (F9 _)
 | f+1,todo,seen,hs,hn,ht,hS,k=>by
  unfold Kh;split
  ·exact hS.done k
  rename_i a r;have hne:(a::r)≠[]:=A6;have hsp:(a::r)=(a::r).dropLast++[(a::r).getD ((a::r).length-1) default]:=by
   rw[B5,<-lF,TJ hne];exact(Vr hne).symm
  have hdl:(a::r).dropLast.length+1=(a::r).length:=A6;generalize (a::r)=td at *;have hx:td.getD (td.length-1) default∈td:=by rw[hsp];simp[<-hsp]
  generalize td.getD (td.length-1) default=x at *;obtain⟨y,rfl⟩:∃y:Nat,x=(y:Int):=⟨x.toNat,by have:=(ht x hx).1;omega⟩;have hy:=(ht _ hx).2;have ht2:∀y∈td.dropLast,0<=y/\y<(n:Int):=λy hy=>ht y (T9 _ hy);rw[hsp] at hS;simp only[Dw];split
  ·rename_i hf;have hfl:=dh seen y oo hf;have hS2:La nx i (λj=>(seen.set y true).getD j default) (td.dropLast++nx y):=hS.visit λj=>by
    by_cases hj:j=y
    ·subst hj;simp[H_,(oo:j<seen.length)]
    simp only[B5,H_,A7 (λe:y=j=>hj e.symm),hj,E6]
   have hm:nuA (td.dropLast++nx y) (seen.set y true)<f:=by
    unfold nuA at hn ⊢;rw[<-hfl] at hn;refine Po ?_;exact pz _ _ _ _ _ (hln y) hdl hn
   have hz:∀z∈td.dropLast++nx y,0<=z/\z<(n:Int):=λz hz=>by
    rcases CH.1 hz with h1|h1
    ·exact ht2 z h1
    exact hin y z h1
   exact W_ hin hln f _ _ ((BH ..).trans hs) hm hz hS2 k
  rename_i hf;have hf:seen.getD y default=true:=by simpa using hf
  have hm:nuA td.dropLast seen<f:=by
   unfold nuA at hn ⊢;exact q9 _ _ _ _ hdl hn
  exact W_ hin hln f _ _ hs hm ht2 (hS.skip hf) k
def vG{nx:Nat->List Int}{n i:Nat}(hin:InR n nx)(hln:∀x,(nx x).length<=20000)(k:Nat):(J2 nx n i).getD k default=true↔Iy nx i k:=by
 refine W_ hin hln _ _ _ A6 ?_ (hin i) ⟨λk h=>?_,λk h=>.one h,λk h=>.inr h,λj h=>?_⟩ k
 ·have:=hln i;have h2:=Ge (λb:Bool=>!b) (List.replicate n false);rw[IY] at h2;exact qA _ _ _ this h2
 ·exact absurd h lg
 exact absurd h lg

def II{α:Type}[Inhabited α]{l:List α}{i:Nat}(h:i<l.length):l.getD i default=l[i]:=Lh
def Bef(nx:Nat->List Int)(i k:Nat):Prop:=i=k\/Iy nx i k
def Bef.trans{nx:Nat->List Int}{i j k:Nat}(h:Bef nx i j)(h2:Bef nx j k):Bef nx i k:=by
 rcases h with rfl|h
 ·exact h2
 rcases h2 with rfl|h2
 ·exact .inr h
 exact .inr (h.trans h2)
def vR{ids:List (Int×Int)}{k i:Nat}{nx:Nat->List Int}{y:Int}(h:y∈nx i):y∈edA ids k nx i:=by
 unfold edA updQ;split
 ·simp only[];exact mm
 exact h
def vS{e:List EvT}{k i:Nat}{nx:Nat->List Int}{y:Int}(h:y∈nx i):y∈edB e k nx i:=by
 unfold edB;cases JP e e.length (e.getD k default).n with
 | none=>exact h
 | some j=>
  simp only[];split
  ·unfold updQ;exact mm
  exact h
def dT(ids:List (Int×Int))(e:List EvT)(i:Nat)(h:(ids.getD i default).1=(ids.getD (i+1) default).1):∀k,i+1<k->((i+1:Nat):Int)∈edF ids e k i
 | 0,hk=>oo
 | k+1,hk=>by
  rw[edF];refine vS ?_;by_cases hi:i+1<k
  ·exact vR (dT ids e i h k hi)
  have:k=i+1:=oo;subst this;rw[edA,AD ⟨oo,Dy⟩];simp[updQ]
def Q0n{l:List Int}{y:Int}(h:y∈l):y∈cpS l:=by
 have h2:y∈D9 l:=QO.2 h;obtain⟨j,hj,rfl⟩:=Gd h2;have:=Tm (l:=D9 l) (D9 l).length (AR _) j hj;rw[II hj] at this;exact this
def sL(l:Av){i:Nat}(hi:i+1<(AI l.parts).length)(h:((Ah l.parts).getD i default).1=((Ah l.parts).getD (i+1) default).1):((i+1:Nat):Int)∈E1 l i:=by
 refine Hw _ ?_;have:=dT (Ah l.parts) (AI l.parts) i h _ hi;unfold ndF;split
 ·exact Q0n this
 exact this
def Qfn{α:Type}(k:α->Int)(th:List Int)(L:Int->List α)(hL:∀t,∀x∈L t,k x=t)(hn:th.Nodup):∀i j (hi:i+1<(th.flatMap L).length) (hj:j<(th.flatMap L).length),i<j->k ((th.flatMap L)[i]' oo)=k ((th.flatMap L)[j]'hj)->k ((th.flatMap L)[i+1]'hi)=k ((th.flatMap L)[i]' oo):=by
 induction th with
 | nil=>intro i j hi;simp at hi
 | cons t r ih=>
  intro i j hi hj hij h;have hnr:=(JW.1 hn);simp only[IU] at hi hj h ⊢;by_cases h1:i<(L t).length
  ·rw[TC h1] at h ⊢;have e1:=hL t _ (FZ h1);by_cases h2:j<(L t).length
   ·rw[TC (oo:i+1<(L t).length),e1,hL t _ (FZ _)]
   rw[O6 oo] at h;obtain⟨u,hu,hm⟩:=HZ.1 (FZ (show j-(L t).length<(r.flatMap L).length by rw[Bb] at hj;omega));rw[e1,hL u _ hm] at h;subst h;exact absurd hu hnr.1
  rw[Bb] at hi hj;have:=ih hnr.2 (i-(L t).length) (j-(L t).length) oo oo oo;rw[O6 oo,O6 oo] at h;have e:=this h;rw[O6 oo,O6 oo];simpa[show i+1-(L t).length=i-(L t).length+1 by omega] using e
def vD{p:List Ao}(h:p≠[]){t:Int}(hp:∀x∈p,x.A0=t)(ev:List EvT):∀x∈KL p ev,x.A0=t:=λx hx=>by
 rcases CH.1 hx with h1|h1
 ·exact hp x (T9 _ h1)
 rw[CG.1 h1];have hm:p.getLastD default∈p:=by rw[aU,TJ h];exact List.getLast_mem h
 exact hp (p.getLastD default) hm
def jI:∀(l:List Ao) (P:Int->List Ao),(∀t,∀x∈P t,x.A0=t)->∀t,∀x∈l.foldl pfS P t,x.A0=t
 | [],P,h=>h
 | p::r,P,h=>by
  refine jI r _ λt x hx=>?_;unfold pfS Ae at hx;split at hx
  ·rename_i e;subst e;split at hx
   ·rcases CH.1 hx with h1|h1
    ·exact h _ x h1
    rw[CG.1 h1]
   rename_i hne;exact vD (λe=>hne (.inr e)) (h _) _ x hx
  exact h t x hx
def Qg5{l:List An}(h:Bh (H3 l) l.length=0):(l.map (·.id)).Nodup:=by
 refine Hv.2 λi j hi hj hij e=>?_;rw[BW] at hi hj;have:=MH h j hj;unfold H3 at this;split at this
 ·rename_i h1;exact h1 this
 split at this
 ·cases this
 rename_i h2;apply h2;simp only[CV,K6,GR];rw[H9,H9] at e;refine⟨l[i],Vq.2 ⟨i,oo,rfl⟩,?_⟩;simpa[BP hj] using e
def Qfc{l:Av}(h:Fu l=0){i j:Nat}(hj:j<(Ah l.parts).length)(hij:i<j)(he:((Ah l.parts).getD i default).1=((Ah l.parts).getD j default).1):
  ((Ah l.parts).getD (i+1) default).1=((Ah l.parts).getD i default).1:=by
 obtain⟨h1,h2,h3⟩:=NS h;have hp:=kc (λx y=>uW) h3;have hn:(l.A9.map (·.id)).Nodup:=Qg5 (by
  unfold HH at h1
  split at h1
  ·cases h1
  split at h1
  ·cases h1
  split at h1
  ·rename_i h4;exact absurd h1 h4
  rename_i h4;simpa using h4)
 have hid:Ah l.parts=(l.A9.map (·.id)).flatMap λt=>Ah (pfR l.parts t):=by
  conv=>lhs;rw[<-hp]
  rw[Dq,Ah,List.flatMap_assoc,VZ];rfl
 have hL:∀t,∀x∈Ah (pfR l.parts t),x.1=t:=λt x hx=>by
  obtain⟨p,hp,hq⟩:=HZ.1 hx;obtain⟨j,_,e⟩:=C4.1 hq;rw[<-e];exact jI l.parts _ (λt x hx=>Jd) t p hp
 rw[hid] at hj he ⊢;have:=Qfn (λx:Int×Int=>x.1) (l.A9.map (·.id)) (λt=>Ah (pfR l.parts t)) hL hn i j oo hj hij;rw[II hj,II (T3 hij hj)] at he;rw[II (Nat.lt_of_le_of_lt hij hj),II (T3 hij hj)];exact this he
def jX{A9:List An}{l:List Ao}(hc:H4 A9 l=0):∀k,k<=l.length->((Ah (l.take k)).Pairwise λa b=>a.1=b.1->a.2<b.2)/\(∀x∈Ah (l.take k),∃t,tlR A9 (l.take k) x.1=some t/\x.2<t.1)/\∀t v,tlR A9 (l.take k) t=some v->0<=v.1
 | 0,_=>⟨.nil,λx hx=>by(cases hx),λt v h=>by
   have e:tlR A9 (l.take 0) t=tl0 A9 t:=rfl
   rw[e] at h
   unfold tl0 at h
   split at h
   ·cases h;exact EP _
   cases h⟩
 | k+1,hk=>by
  obtain⟨i1,i2,i3⟩:=jX hc k oo;have e:tlR A9 (l.take (k+1))=tlS (tlR A9 (l.take k)) (l.getD k default):=ln;have hs:=Wg hc k oo;have hat:He A9 l k=0:=by
   unfold H4 at hc;refine MH (n:=l.length) ?_ k oo;by_cases e:Bh (He A9 l) l.length=0
   ·exact e
   rw[AD e] at hc;exact hc
  have hpk:=P1 (OL hc k oo);rw[XX l k oo,e];unfold He at hat;generalize l.getD k default=p at *;obtain⟨v,hv⟩:=Fa.1 hs;have hser:v.1<=p.AB:=by
   rw[hv] at hat;split at hat
   ·rename_i h1;exact absurd hat h1
   simp only at hat;split at hat
   ·rename_i hh;simp only[C5,GR] at hh;omega
   cases hat
  have hpi:∀x∈Qj p,x.1=p.A0/\p.AB<=x.2/\x.2<p.AB+p.A_.length:=λx hx=>by
   obtain⟨j,hj,e⟩:=C4.1 hx;have:=CI.1 hj;subst e;exact⟨rfl,show p.AB<=p.AB+(j:Int) by omega,show p.AB+(j:Int)<p.AB+p.A_.length by omega⟩
  refine⟨JZ.2 ⟨i1,?_,λa ha b hb h=>?_⟩,λx hx=>?_,λt w hw=>?_⟩
  ·rw[Qj,O8];exact List.pairwise_lt_range.imp λ{a b} h _=>by show p.AB+(a:Int)<p.AB+(b:Int);omega
  ·obtain⟨t,h1,h2⟩:=i2 a ha;have hb:=hpi b hb;rw[h,hb.1,hv] at h1;cases h1;omega
  ·unfold tlS Ae;rcases CH.1 hx with h1|h1
   ·split
    ·rename_i h2;obtain⟨t,h3,h4⟩:=i2 x h1;rw[h2,hv] at h3;cases h3;exact⟨_,rfl,AQ⟩
    exact i2 x h1
   have:=hpi x h1;rw[AD this.1];exact⟨_,rfl,AQ⟩
  unfold tlS Ae at hw;split at hw
  ·cases hw;simp only;omega
  exact i3 t w hw
def Y_{l:Av}(h:Fu l=0):∀(n a i:Nat),i=a+n->i<(AI l.parts).length->((Ah l.parts).getD a default).1=((Ah l.parts).getD i default).1->Bef (E1 l) a i
 | 0,a,i,e,_,_=>.inl oo
 | n+1,a,i,e,hi,ht=>by
  have hlI:(Ah l.parts).length=(AI l.parts).length:=Ma;have hc:=Qfc h oo (oo:a<i) ht;exact Bef.trans (.inr (.one (sL l oo hc.symm))) (Y_ h n (a+1) i oo hi (hc.trans ht))
def ZL{l:Av}(h:Fu l=0){a b:Nat}(hab:a<b)(hb:b<(Ah l.parts).length)(e:((Ah l.parts).getD a default).1=((Ah l.parts).getD b default).1):((Ah l.parts).getD a default).2<((Ah l.parts).getD b default).2:=by
 have:=(jX (NS h).2.1 l.parts.length (AR _)).1;rw[BL] at this;have:=Hv.1 this a b oo hb hab;rw[II hb,II (T3 hab hb)] at e ⊢;exact this e
def gY(l:Av)(e:Nat)(t:Int):∀N,(Hm l e t N=0/\∀i,i<N->¬(((Ah l.parts).getD i default).1=t/\(i=e\/(J2 (E1 l) (AI l.parts).length i).getD e default=true))) \/
  ∃i,i<N/\(((Ah l.parts).getD i default).1=t/\(i=e\/(J2 (E1 l) (AI l.parts).length i).getD e default=true))/\Hm l e t N=((Ah l.parts).getD i default).2+1 /\
   ∀j,i<j->j<N->¬(((Ah l.parts).getD j default).1=t/\(j=e\/(J2 (E1 l) (AI l.parts).length j).getD e default=true))
 | 0=>.inl ⟨rfl,λi hi=>absurd hi (F9 _)⟩
 | N+1=>by
  unfold Hm;split
  ·rename_i hc;exact .inr ⟨N,oo,hc,rfl,λj h1 h2=>oo⟩
  rename_i hc;rcases gY l e t N with⟨h1,h2⟩|⟨i,hi,h1,h2,h3⟩
  ·exact .inl ⟨h1,λi hi=>if hN:i=N then by rw[hN];exact hc else h2 i oo⟩
  exact .inr ⟨i,oo,h1,h2,λj h4 h5=>if hN:j=N then by rw[hN];exact hc else h3 j h4 oo⟩
def vM{l:Av}(h:l.BZ)(hl:Fu l=0){a e:Nat}(ha:a<(AI l.parts).length):Hm l e ((Ah l.parts).getD a default).1 (AI l.parts).length>((Ah l.parts).getD a default).2↔Bef (E1 l) a e:=by
 have hlI:(Ah l.parts).length=(AI l.parts).length:=Ma;have hw:∀i k,(J2 (E1 l) (AI l.parts).length i).getD k default=true↔Iy (E1 l) i k:=λi k=>vG (Ws l) (XQ l W8) k;rcases gY l e ((Ah l.parts).getD a default).1 (AI l.parts).length with⟨h1,h2⟩|⟨i,hi,h1,h2,h3⟩
 ·rw[h1];refine⟨λhg=>?_,λhb=>?_⟩
  ·have:=VB hl (Ba (oo:a<(Ah l.parts).length));omega
  exact absurd ⟨rfl,hb.imp id (hw a e).2⟩ (h2 a ha)
 rw[h2];refine⟨λhg=>?_,λhb=>?_⟩
 ·have hai:a<=i:=by
   apply Va;intro hlt;have:=ZL hl hlt oo h1.1;omega
  exact(Y_ hl (i-a) a i oo hi h1.1.symm).trans (h1.2.imp id (hw i e).1)
 have hai:a<=i:=by
  apply Va;intro hlt;exact h3 a hlt ha ⟨rfl,hb.imp id (hw a e).2⟩
 by_cases e1:a=i
 ·rw[e1];omega
 have:=ZL hl (oo:a<i) oo h1.1.symm;omega
end YtafpldmnkcegmaaGreat
end Go.Proofs

set_option maxRecDepth 100000
namespace Go.Proofs
open Go.AM Tryz
namespace YtafpldmnkcegmaaGreat
variable {Gl:BM}
def dmR(l:List An):Int->Option Int:=l.foldl (λf t=>Ae f t.id (some t.Gt)) (λ_=>none)
def dmK(g:Int->Option Int):Aw->Option AV:=λk=>match k with|.i n=>(g n).map λx=>.d (.int .i64 x)|_=>none
def vP(l:List An)(k:Nat)(h:k<l.length):dmR (l.take (k+1))=Ae (dmR (l.take k)) (l.getD k default).id (some (l.getD k default).Gt):=by rw[CY l k h,dmR,GD];rfl
def YP(g:Int->Option Int)(a x:Int):BO (dmK g) (.i a) (.d (.int .i64 x))=dmK (Ae g a (some x)):=by
 funext k;cases k with
 | i n=>
  simp only[BO,dmK,Ae];by_cases e:n=a
  ·rw[AD Li,AD e];rfl
  rw[A7 J5,A7 e]
 | _=>rfl
def Tu(g:Int->Option Int)(a:Int):(dmK g (.i a)).getD (.d (.int .i64 0))=.d (.int .i64 ((g a).getD 0)):=by
 simp only[dmK];cases g a<;>rfl
def Iv(l:Av)(p:Ao)(k:Nat):(Int×Int)×Int:=Fj l.AZ l.AK ((dmR l.A9 p.A0).getD 0) (p.A_.getD k default).at_
def Zj(l:Av)(p:Ao)(k:Nat):AN:=⟨p.A0,p.AB+k,p.A_.getD k default,(Iv l p k).1.1,(Iv l p k).1.2⟩
def JF(l:Av)(p:Ao)(k:Nat):List AN:=(List.range k).map (Zj l p)
def DI(l:Av)(j:Nat):List AN:=(l.parts.take j).flatMap λp=>JF l p p.A_.length
def PC(l:Av):Int:=Bh (λj=>Bh (λk=>(Iv l (l.parts.getD j default) k).2) (l.parts.getD j default).A_.length) l.parts.length
def Ho(l:Av):List AN×Int:=if Eg l≠0 then([],Eg l) else if PC l≠0 then([],PC l) else(DI l l.parts.length,0)
def zz(l:Av)(p:Ao)(k:Nat):JF l p (k+1)=JF l p k++[Zj l p k]:=by simp[JF,Ny]
def gH(l:Av)(p:Ao)(k:Nat):(JF l p k).length=k:=by simp[JF]
def cP(l:Av)(j:Nat)(h:j<l.parts.length):DI l (j+1)=DI l j++JF l (l.parts.getD j default) (l.parts.getD j default).A_.length:=by
 rw[DI,CY l.parts j h,Kr];simp[DI]
def xE(l:Av)(j:Nat):(DI l j).length=evN (l.parts.take j):=by
 unfold DI evN;rw[List.length_flatMap];simp[gH]
def eV{f:Nat->Int}{k:Nat}(h:Bh f k=0):Bh f (k+1)=f k:=by simp[Bh,h]
def KnI(l:Av)(f:Aw->Option AV):Prop:=∀k v,f k=some v->∃a b,k=.p a b/\v=.d (.agg [.int .i64 (Fj l.AZ l.AK a b).1.1,.int .i64 (Fj l.AZ l.AK a b).1.2])/\(Fj l.AZ l.AK a b).2=0
def KnI.set{l:Av}{f:Aw->Option AV}(h:KnI l f){a b:Int}(h0:(Fj l.AZ l.AK a b).2=0):KnI l (BO f (.p a b) (.d (.agg [.int .i64 (Fj l.AZ l.AK a b).1.1,.int .i64 (Fj l.AZ l.AK a b).1.2]))):=λk v hk=>by
 unfold BO at hk;split at hk
 ·rename_i e;cases hk;exact⟨a,b,e,rfl,h0⟩
 exact h k v hk
set_option maxHeartbeats 4000000 in
def Q9u(l:Av)(h:l.BZ):AT prog Gl 113 [.d l.A5] (.Aj [.d (.sl ((Ho l).1.map AN.A5)),.d (.int .i64 (Ho l).2)]):=by
 refine AT.FL ?_;have hths:=h.A9;have hpt:=h.parts;refine acS func113 ntmps113 results113 ?_;refine FC ?_;refine Ak (rh l h) ?_;refine C0 ?_;apply ifC.mk<;>intro hc
 ·have hc:Eg l≠0:=Dc;have e:Ho l=([],Eg l):=by rw[Ho,AD hc]
  rw[e];exact Lq
 have hc:Eg l=0:=Dc;have hr:Ho l=if PC l≠0 then([],PC l) else(DI l l.parts.length,0):=by rw[Ho,A7 Dc]
 refine CL (τ:=Nat×Sto) (λy=>[(28,(y.1:Int)),(27,(l.A9.length:Int)),(26,.d (.sl (l.A9.map An.A5))),(5,.AF 1),(1,.ptr 0 0)]) (λy=>y.2)
  (λy=>y.1<=l.A9.length/\A1 y.2 0=.box 4 (.d l.A5)/\A1 y.2 1=.map (some .i64) (dmK (dmR (l.A9.take y.1)))) (λy=>l.A9.length-y.1) (0,_) ⟨Bq _,rfl,?_⟩ (AU rfl) ?_
 ·exact bQ
 rintro⟨k,s⟩ ⟨hk,h0,h1⟩;simp only at hk h0 h1;have l0:=AG h0 rfl;have l1:=AG h1 rfl;by_cases hh:k<l.A9.length
 ·have hst:=vP l.A9 k hh;generalize dmR (l.A9.take k)=g at *;generalize hxx:l.A9.getD k default=x at *;simp only[zF,seval,(oo:(k:Int)<l.A9.length),hh,Af _ _ _ (oo:k<l.A9.length),hxx,a_w ((k:Int)+1),h0,h1,l0,l1];refine⟨(k+1,_),⟨AQ,?_,?_⟩,AQ,AU rfl⟩
  ·simp only[zF,seval,h0,l0,l1]
  simp only[zF,seval,h1,l1,hst,YP]
 have hk:k=l.A9.length:=oo;subst hk;rw[BL] at h1;simp only[zF,seval,(oo:¬(l.A9.length:Int)<l.A9.length),h0,l0];have e0:A1 (s++[.map (some .u8) λ_=>none]) 0=.box 4 (.d l.A5):=by rw[BB l0];exact h0
 have e1:A1 (s++[.map (some .u8) λ_=>none]) 1=.map (some .i64) (dmK (dmR l.A9)):=by rw[BB l1];exact h1
 have e2:A1 (s++[.map (some .u8) λ_=>none]) s.length=.map (some .u8) λ_=>none:=Cd;have m1:1<s.length:=l1;generalize s++[.map (some .u8) λ_=>none]=S at *;generalize s.length=m at *;clear h0 h1 l0 l1 hh;have hme:m≠0/\m≠1:=oo;refine CL (τ:=Nat×Sto×Nat×(Aw->Option AV)) (λy=>[(42,(y.1:Int)),(41,(l.parts.length:Int)),(40,.d (.sl (l.parts.map Ao.A5))),(9,.A8 y.2.2.1 0 (DI l y.1).length),(8,.AF m),(5,.AF 1),(1,.ptr 0 0)]) (λy=>y.2.1)
  (λy=>y.1<=l.parts.length/\A1 y.2.1 0=.box 4 (.d l.A5)/\A1 y.2.1 1=.map (some .i64) (dmK (dmR l.A9))/\A1 y.2.1 m=.map (some .u8) y.2.2.2/\KnI l y.2.2.2/\A1 y.2.1 y.2.2.1=.arr 10 ((DI l y.1).map AN.A5) /\
   Bh (λj=>Bh (λk=>(Iv l (l.parts.getD j default) k).2) (l.parts.getD j default).A_.length) y.1=0) (λy=>l.parts.length-y.1) (0,S++[.arr 10 []],S.length,λ_=>none)
  ⟨Bq _,?_,?_,?_,λk v h=>D8,Cd,rfl⟩ ((Eb 9 10 rfl).trans (AU rfl)) ?_
 ·rw[BB (AG e0 rfl)];exact e0
 ·rw[BB (AG e1 rfl)];exact e1
 ·rw[BB (AG e2 rfl)];exact e2
 clear e0 e1 e2;rintro⟨j,s,oid,f⟩ ⟨hj,h0,h1,h2,hf,hO,hfe⟩;simp only at hj h0 h1 h2 hf hO hfe;have l0:=AG h0 rfl;have l1:=AG h1 rfl;have l2:=AG h2 rfl;have lO:=AG hO rfl;by_cases hh:j<l.parts.length
 ·have hst:=cP l j hh;generalize hpp:l.parts.getD j default=p at *;simp only[zF,seval,(oo:(j:Int)<l.parts.length),hh,Af _ _ _ (oo:j<l.parts.length),hpp,h0,h1,l0,l1];have hpk:=P1 (OL (NS (NG hc)).2.1 j hh);rw[hpp] at hpk;have g0:A1 (s++[.box 4 (.d p.A5)]) 0=.box 4 (.d l.A5):=by rw[BB l0];exact h0
  have g1:A1 (s++[.box 4 (.d p.A5)]) 1=.map (some .i64) (dmK (dmR l.A9)):=by rw[BB l1];exact h1
  have g2:A1 (s++[.box 4 (.d p.A5)]) m=.map (some .u8) f:=by rw[BB l2];exact h2
  have gO:A1 (s++[.box 4 (.d p.A5)]) oid=.arr 10 ((DI l j).map AN.A5):=by rw[BB lO];exact hO
  have gp:A1 (s++[.box 4 (.d p.A5)]) s.length=.box 4 (.d p.A5):=Cd;have hn:s.length≠m:=oo;generalize s++[.box 4 (.d p.A5)]=S at *;generalize s.length=pb at *;have hfs:Bh (λj=>Bh (λk=>(Iv l (l.parts.getD j default) k).2) (l.parts.getD j default).A_.length) (j+1)=Bh (λk=>(Iv l p k).2) p.A_.length:=by rw[<-hpp];exact eV hfe
  refine CL (τ:=Nat×Sto×Nat×(Aw->Option AV)) (λy=>[(49,(y.1:Int)),(48,(p.A_.length:Int)),(47,.d (.sl (p.A_.map EvT.A5))),(42,(j:Int)),(41,(l.parts.length:Int)),(40,.d (.sl (l.parts.map Ao.A5))),(11,.ptr pb 0),(9,.A8 y.2.2.1 0 (DI l j++JF l p y.1).length),(8,.AF m),(5,.AF 1),(1,.ptr 0 0)]) (λy=>y.2.1)
   (λy=>y.1<=p.A_.length/\A1 y.2.1 0=.box 4 (.d l.A5)/\A1 y.2.1 1=.map (some .i64) (dmK (dmR l.A9))/\A1 y.2.1 m=.map (some .u8) y.2.2.2/\A1 y.2.1 pb=.box 4 (.d p.A5)/\KnI l y.2.2.2/\A1 y.2.1 y.2.2.1=.arr 10 ((DI l j++JF l p y.1).map AN.A5) /\
    Bh (λk=>(Iv l p k).2) y.1=0) (λy=>p.A_.length-y.1) (0,S,oid,f)
   ⟨Bq _,g0,g1,g2,gp,hf,by simpa[JF] using gO,rfl⟩ (by rw[show DI l j++JF l p 0=DI l j from FY _];exact AU rfl) ?_
  clear g0 g1 g2 gO gp h0 h1 h2 hO hf l0 l1 l2 lO f;rintro⟨k,s,oid,f⟩ ⟨hk,h0,h1,h2,hp,hf,hO,hke⟩;simp only at hk h0 h1 h2 hp hf hO hke;have l0:=AG h0 rfl;have l1:=AG h1 rfl;have l2:=AG h2 rfl;have lp:=AG hp rfl;have lO:=AG hO rfl;have n0:oid≠0:=AX hO h0 A6;have n1:oid≠1:=AX hO h1 A6;have nm:oid≠m:=AX hO h2 A6;have np:oid≠pb:=AX hO hp A6;by_cases hkl:k<p.A_.length
  ·have hkst:=zz l p k;have hfx:=Tu (dmR l.A9) p.A0;have hkr:Iv l p k=Fj l.AZ l.AK ((dmR l.A9 p.A0).getD 0) (p.A_.getD k default).at_:=rfl;have hkt:Zj l p k=⟨p.A0,p.AB+k,p.A_.getD k default,(Iv l p k).1.1,(Iv l p k).1.2⟩:=rfl;have hke1:Bh (λk=>(Iv l p k).2) (k+1)=(Iv l p k).2:=eV hke;generalize (dmR l.A9 p.A0).getD 0=a at *;generalize hxx:p.A_.getD k default=x at *;have hw:=a_w (p.AB+(k:Int));have hlr:=xE l j;have hlp:=gH l p k;have hle:=OM l.parts j;have hl24:=h.A_;cases hkv:f (.p a x.at_) with
   | none=>
    simp only[zF,seval,(oo:(k:Int)<p.A_.length),hkl,Af _ _ _ (oo:k<p.A_.length),hxx,a_w ((k:Int)+1),h0,h1,h2,hp,l0,l1,l2,lp,hfx,hkv,Zx,TI];refine⟨⟨rfl,oo,oo,oo⟩,⟨rfl,oo,oo,oo⟩,?_⟩;refine Ak (yX l.AZ l.AK a x.at_ h.AZ h.AK) ?_;simp only[zF,seval,h0,h1,h2,hp,hO,l0,l1,l2,lp,lO,n0,n1,nm,np,n0.symm,n1.symm,nm.symm,np.symm,hn,hn.symm,hme.1,hme.2,hme.1.symm,hme.2.symm,hw,a_w ((k:Int)+1)];apply ifC.mk<;>intro he
    ·have he:(Iv l p k).2≠0:=by rw[hkr];simpa using he
     have hi:=Ga hke he hkl;have ho:=Ga hfe (by simp only[hpp];rw[hi];exact he) hh;have hrE:PC l=(Iv l p k).2:=by rw[PC,ho];simp only[hpp];exact hi
     rw[hr,AD (by rw[hrE];exact he),hrE,hkr];exact Lq
    have he0:(Fj l.AZ l.AK a x.at_).2=0:=OE;refine Ag ?_;refine⟨(k+1,_,s.length+4,BO f (.p a x.at_) (.d (.agg [.int .i64 (Fj l.AZ l.AK a x.at_).1.1,.int .i64 (Fj l.AZ l.AK a x.at_).1.2]))),⟨AQ,?_,?_,?_,?_,hf.set he0,?_,?_⟩,AQ,AU ?_⟩;rotate_left 6
    ·exact nF
    ·simp only[zF,seval,h0,l0,l2,n0,n0.symm,hme.1,hme.1.symm]
    ·simp only[zF,seval,h1,l1,l2,n1,n1.symm,hme.2,hme.2.symm]
    ·simp only[zF,seval,h2,l2,nm,nm.symm]
    ·simp only[zF,seval,hp,lp,l2,np,np.symm,hn,hn.symm]
    ·exact p8
    rw[hke1,hkr];exact he0
   | some v=>
    obtain⟨a',b',e',rfl,he0⟩:=hf _ _ hkv;cases e';simp only[zF,seval,(oo:(k:Int)<p.A_.length),hkl,Af _ _ _ (oo:k<p.A_.length),hxx,a_w ((k:Int)+1),h0,h1,h2,hp,l0,l1,l2,lp,hfx,hkv,EA,Option.isSome_some];simp only[zF,seval,h0,h1,h2,hp,hO,l0,l1,l2,lp,lO,n0,n1,nm,np,n0.symm,n1.symm,nm.symm,np.symm,hw,a_w ((k:Int)+1)];refine Ag ?_;refine⟨(k+1,_,s.length+4,f),⟨AQ,?_,?_,?_,?_,hf,?_,?_⟩,AQ,AU ?_⟩;rotate_left 6
    ·exact nF
    ·simp only[zF,seval,h0,l0,l2,n0,n0.symm,hme.1,hme.1.symm]
    ·simp only[zF,seval,h1,l1,l2,n1,n1.symm,hme.2,hme.2.symm]
    ·simp only[zF,seval,h2,l2,nm,nm.symm]
    ·simp only[zF,seval,hp,lp,l2,np,np.symm,hn,hn.symm]
    ·exact p8
    rw[hke1,hkr];exact he0
  have hke2:k=p.A_.length:=oo;subst hke2;simp only[zF,seval,(oo:¬(p.A_.length:Int)<p.A_.length),a_w ((j:Int)+1)];exact⟨(j+1,s,oid,f),⟨AQ,h0,h1,h2,hf,by rw[hst];exact hO,by simp only;rw[hfs];exact hke⟩,AQ,by simp only[hst,Bb];exact AU rfl⟩
 have hje:j=l.parts.length:=oo;subst hje;simp only[zF,seval,(oo:¬(l.parts.length:Int)<l.parts.length)];rw[hr,A7 (by rw[PC,hfe];simp)];have hol:((DI l l.parts.length).map AN.A5).length=(DI l l.parts.length).length:=BW ..;refine⟨_,_,Ot (x:=D.sl ((DI l l.parts.length).map AN.A5)) (by simp[AV.Db,EH,hO,Blk.AY]) ?_,rfl,rfl⟩;show Cv s (.A8 oid 0 (DI l l.parts.length).length)=_;exact nC

def jZ{l:Av}(h:Fu l=0){i:Nat}:∀k,i<k->k<=(Ah l.parts).length->MO (Ah l.parts) k ((Ah l.parts).getD i default)=some i
 | 0,hi,_=>absurd hi (F9 _)
 | k+1,hi,hk=>by
  unfold MO;by_cases e:i=k
  ·subst e;rw[AD rfl]
  rw[A7 λe1=>?_,jZ h k oo oo];have:=ZL h (oo:i<k) oo (by rw[e1]);rw[e1] at this;omega
def kF{l:Av}(hc:Eg l=0){i:Nat}(hi:i<(Ah l.parts).length):MQ l ((Ah l.parts).getD i default)=(Df l i,0):=by
 rw[MQ,A7 Dc,show(AI l.parts).length=(Ah l.parts).length by rw[QX,NU],jZ (NG hc) _ hi (AR _)]
def gF(l:Av)(k:Nat):(Df l k).length=l.A9.length:=by simp[Df]
def Hq(l:Av)(k:Nat):List D:=(List.range k).map λi=>.sl ((Df l i).map (.int .i64))
def ck(l:Av)(k:Nat):Hq l (k+1)=Hq l k++[.sl ((Df l k).map (.int .i64))]:=by simp[Hq,Ny]
def UK(l:Av)(k:Nat):(Hq l k).length=k:=by simp[Hq]
def yV(l:Av)(h:l.BZ)(hc:Eg l=0):AT prog Gl 114 [.d l.A5] (.Aj [.d (.sl (Hq l (Ah l.parts).length)),(0:Int)]):=by
 refine AT.FL ?_;have hlg:=NG hc;have hn:(Ah l.parts).length<=24:=W7;refine acS func114 ntmps114 results114 ?_;refine FC ?_;refine Ak (ko l h) ?_;rw[A7 (by simpa using hlg)];refine C0 ?_;refine CL (τ:=Nat×Sto×Nat) (λy=>[(12,(y.1:Int)),(11,.d (.int .i64 (Ah l.parts).length)),(10,.d (.sl ((Ah l.parts).map idD))),(4,.A8 y.2.2 0 y.1),(1,.ptr 0 0)]) (λy=>y.2.1)
  (λy=>y.1<=(Ah l.parts).length/\A1 y.2.1 0=.box 4 (.d l.A5)/\A1 y.2.1 y.2.2=.arr 1 (Hq l y.1)) (λy=>(Ah l.parts).length-y.1) (0,_,1) ⟨Bq _,rfl,rfl⟩ ((Eb 4 1 rfl).trans (AU rfl)) ?_
 rintro⟨k,s,oid⟩ ⟨hk,h0,hO⟩;simp only at hk h0 hO;have l0:=AG h0 rfl;have lO:=AG hO rfl;have n0:oid≠0:=AX hO h0 A6;by_cases hh:k<(Ah l.parts).length
 ·have hv:=kF hc hh;have hkV:=fD (Gl:=Gl) l h ((Ah l.parts).getD k default);rw[hv,idD] at hkV;have hvl:=UK l k;generalize hxx:(Ah l.parts).getD k default=x at *;simp only[zF,seval,(oo:(k:Int)<(Ah l.parts).length),hh,Af _ _ _ (oo:k<(Ah l.parts).length),hxx,h0,l0,idD];refine Ak hkV ?_;simp only[zF,seval,hO,lO,h0,l0,n0,n0.symm,a_w ((k:Int)+1)];refine Ag ?_;refine⟨(k+1,_,s.length+2),⟨AQ,?_,?_⟩,AQ,AU rfl⟩
  ·simp only[zF,seval,h0,l0,n0,n0.symm]
  simp only;rw[CE,A7 A6,BH,EB,Bi oo,ck];rfl
 have hke:k=(Ah l.parts).length:=oo;subst hke;simp only[zF,seval,(oo:¬((Ah l.parts).length:Int)<(Ah l.parts).length)];have hol:=UK l (Ah l.parts).length;refine⟨_,_,Ot (x:=D.sl (Hq l (Ah l.parts).length)) (by simp[AV.Db,EH,hO,Blk.AY]) ?_,rfl,rfl⟩;show Cv s (.A8 oid 0 (Ah l.parts).length)=_;exact nC
def vk(l:List AN)(hl:l.length<1000000):KG prog Gl 115 [.d (.sl (l.map AN.A5))] 10 (l.map AN.A5):=by
 refine KG.of (args:=[.sl (l.map AN.A5)]) ?_;simp only[Ci,E9];cases l with
 | nil=>
  refine acS func115 ntmps115 results115 ?_;refine FC ?_;exact⟨⟨_,_,gK 10,rfl,rfl⟩,⟨_,_,Dh [] [1] rfl A6 rfl rfl,rfl,rfl⟩⟩
 | cons x r=>
  refine acS func115 ntmps115 results115 ?_;refine FC ?_;exact oV
def ivB(x:AN):Bool:=decide (x.lo<=x.hi)&&(decide (-1000000000000000<=x.lo)&&decide (x.lo<=1000000000000000))&&(decide (-1000000000000000<=x.hi)&&decide (x.hi<=1000000000000000))
def yy(a b:Int):AT prog Gl 150 [.d (.agg [.int .i64 a,.int .i64 b])] (.d (.bool (decide (a<=b)&&(decide (-1000000000000000<=a)&&decide (a<=1000000000000000))&&(decide (-1000000000000000<=b)&&decide (b<=1000000000000000))))):=by
 refine CN ?_;refine acS func150 ntmps150 results150 ?_;refine FC ?_;refine DS (λ_=>P5 a) ?_;refine C0 ?_;refine DS (λ_=>P5 b) ?_;exact Kx
def wm(x:AN):AT prog Gl 149 [.d x.A5] (.d (.bool (!ivB x))):=by
 refine CN ?_;refine acS func149 ntmps149 results149 ?_;refine FC ?_;refine Ak (yy x.lo x.hi) ?_;exact Kx
def tp(l:List AN)(hl:l.length<1000000):AW prog Gl 180 [.d (.sl (l.map AN.A5)),.fn 149 []] [] (λr s=>r=.d (.int .i64 (Ew (λx=>!ivB x) l))/\s=[]):=by
 refine acS func180 ntmps180 results180 ?_;refine FC ?_;refine Bm l.length (λk=>[(0,.d (.sl (l.map AN.A5))),(1,.fn 149 []),(7,(l.length:Int)),(8,(k:Int))]) (λ_=>[]) (λk=>(l.take k).any (λx=>!ivB x)=false) rfl ?_ ?_
 ·refine Gw ?_;simp only[zF,seval,HB];rfl
 intro k hi hk;by_cases h:k<l.length
 ·have hs:=K_ (λx:AN=>!ivB x) l k h;simp only[zF,seval,(oo:(k:Int)<l.length),h,Af _ _ _ (oo:k<l.length)];refine Ak (wm _) ?_;refine C0 ?_;apply ifC.mk<;>intro hc
  ·refine BT ?_;rw[QP h hi hc]
  refine⟨RT,?_⟩;refine Gw ?_;refine WT ?_;rfl
 simp only[zF,seval,(oo:¬(k:Int)<l.length)];have:k=l.length:=oo;subst this;rw[BL] at hi;refine BT ?_;rw[NL hi]
def t_(l:List AN)(hl:l.length<1000000):AW prog Gl 148 [.d (.sl (l.map AN.A5)),.fn 149 []] [] (λr s=>r=.d (.bool (l.any λx=>!ivB x))/\s=[]):=by
 refine acS func148 ntmps148 results148 ?_;refine FC ?_;refine Be ((tp l hl).mono λr s hr=>?_);obtain⟨rfl,rfl⟩:=hr;refine C0 ?_;refine BT ?_;rw[S6]
def tU(l:List AN)(hl:l.length<1000000):AT prog Gl 116 [.d (.sl (l.map AN.A5))] (.d (.bool (!l.any λx=>!ivB x))):=by
 refine CN ?_;refine acS func116 ntmps116 results116 ?_;refine FC ?_;refine Be ((t_ l hl).mono λr s hr=>?_);obtain⟨rfl,rfl⟩:=hr;exact Kx

def FD(l:List An):Nat->Int->Option Int
 | 0=>λ_=>none
 | k+1=>Ae (FD l k) (l.getD k default).id (some (k:Nat))
def DW(l:List An)(t:Int):Nat:=((FD l l.length t).getD 0).toNat
def jO(l:List An):∀k t v,FD l k t=some v->0<=v/\v<(k:Int)
 | 0,t,v,h=>D8
 | k+1,t,v,h=>by
  unfold FD Ae at h;split at h
  ·cases h;omega
  have:=jO l k t v h;omega
def jN(l:List An)(t:Int):(FD l l.length t).getD 0=(DW l t:Nat):=by
 unfold DW;cases h:FD l l.length t with
 | none=>rfl
 | some v=>have:=jO l _ t v h;simp only[EA];omega
def kT(l:List An)(t:Int):∀k,k<=l.length->(l.take k).any (λx=>x.id==t)=true->∃v:Nat,v<k/\FD l k t=some (v:Int)/\(l.getD v default).id=t
 | 0,_,h=>D8
 | k+1,hk,h=>by
  unfold FD Ae;rw[K_ _ l k oo] at h;split
  ·rename_i e;exact⟨k,oo,rfl,e.symm⟩
  rename_i e;have:((l.getD k default).id==t)=false:=by simpa using λe1=>e e1.symm
  rw[this,Le] at h;obtain⟨v,h1,h2,h3⟩:=kT l t k oo h;exact⟨v,oo,h2,h3⟩
def Tk{l:List An}{t:Int}(h:l.any (λx=>x.id==t)=true):DW l t<l.length/\(l.getD (DW l t) default).id=t:=by
 obtain⟨v,h1,h2,h3⟩:=kT l t l.length (AR _) (by rw[BL];exact h);have:DW l t=v:=by unfold DW;rw[h2];rfl
 rw[this];exact⟨h1,h3⟩
def tiS(V:Nat->List Int)(c:Int->Nat)(R:List AN)(i k:Nat)(O:List AN):List AN:=
 if(R.getD k default).AB<(V i).getD (c (R.getD k default).A0) default then
  let O1:=O.set i {O.getD i default with lo:=max (O.getD i default).lo (R.getD k default).lo}
  O1.set k {O1.getD k default with hi:=min (O1.getD k default).hi (R.getD i default).hi}
 else O
def tiK(V:Nat->List Int)(c:Int->Nat)(R:List AN)(i:Nat)(O:List AN):Nat->List AN
 | 0=>O
 | k+1=>tiS V c R i k (tiK V c R i O k)
def tiL(V:Nat->List Int)(c:Int->Nat)(R:List AN):Nat->List AN
 | 0=>R
 | i+1=>tiK V c R i (tiL V c R i) R.length
def um(V:Nat->List Int)(c:Int->Nat)(R:List AN)(i k:Nat)(O:List AN):(tiS V c R i k O).length=O.length:=by unfold tiS;split<;>simp
def U4(V:Nat->List Int)(c:Int->Nat)(R:List AN)(i:Nat)(O:List AN):∀k,(tiK V c R i O k).length=O.length
 | 0=>rfl
 | k+1=>by rw[tiK,um,U4 V c R i O k]
def U5(V:Nat->List Int)(c:Int->Nat)(R:List AN):∀i,(tiL V c R i).length=R.length
 | 0=>rfl
 | i+1=>by rw[tiL,U4,U5 V c R i]
def tiF(l:Av):List AN:=tiL (Df l) (DW l.A9) (DI l l.parts.length) (DI l l.parts.length).length
def Fl(l:Av):List AN×Int:=if(Ho l).2≠0 then([],(Ho l).2) else if((tiF l).any λx=>!ivB x)=true then([],13) else(tiF l,0)
def UZ{l:Av}(h:(Ho l).2=0):Eg l=0/\(Ho l).1=DI l l.parts.length:=by
 unfold Ho at h ⊢;split at h
 ·exact Tc
 rename_i h1;rw[A7 h1];split at h
 ·rename_i h2;exact absurd h h2
 rename_i h2;rw[A7 h2];exact⟨Cz,rfl⟩
def UM(l:Av):∀j,j<=l.parts.length->(DI l j).map (λx=>(x.A0,x.AB))=Ah (l.parts.take j)
 | 0,_=>rfl
 | j+1,hj=>by
  rw[cP l j hj,CA,UM l j oo,XX l.parts j hj];congr 1;unfold JF Qj;rw[Hs];rfl
def xX(l:Av){k i:Nat}(h:i<k):(Hq l k).getD i default=.sl ((Df l i).map (.int .i64)):=by simp[Hq,h]
def Yi(l:Av):(DI l l.parts.length).length=(Ah l.parts).length:=by
 have:=congrArg List.length (UM l _ (AR _))
 rwa [BW,BL] at this
def iu(l:Av){k:Nat}(hk:k<(Ah l.parts).length):((DI l l.parts.length).getD k default).A0=((Ah l.parts).getD k default).1/\((DI l l.parts.length).getD k default).AB=((Ah l.parts).getD k default).2:=by
 have h:=UM l _ (AR _);rw[BL] at h;rw[<-h];have hk2:=hk;rw[<-Yi] at hk2;simp[hk2]
set_option maxHeartbeats 4000000 in
def tV(l:Av)(h:l.BZ):AT prog Gl 67 [.d l.A5] (.Aj [.d (.sl ((Fl l).1.map AN.A5)),.d (.int .i64 (Fl l).2)]):=by
 refine AT.FL ?_;have hths:=h.A9;refine acS func67 ntmps67 results67 ?_;refine FC ?_;refine Ak (Q9u l h) ?_;refine C0 ?_;apply ifC.mk<;>intro hc
 ·have e:Fl l=([],(Ho l).2):=by rw[Fl,AD Dc]
  rw[e];exact Lq
 have hR0:(Ho l).2=0:=Dc;obtain⟨hc,hR⟩:=UZ hR0;rw[hR];refine Ak (yV l h hc) ?_;refine C0 ?_;have hn:(Ah l.parts).length<=24:=W7;have hRl:=Yi l;have hRa:=λk hk=>iu l (k:=k) hk;have hTi:tiF l=tiL (Df l) (DW l.A9) (DI l l.parts.length) (DI l l.parts.length).length:=rfl;have hid:=λk hk=>Pt (NG hc) k hk;have hF:Fl l=if((tiF l).any λx=>!ivB x)=true then([],13) else(tiF l,0):=by rw[Fl,A7 (λhh=>by rw[hR0] at hh;exact hh rfl)]
 generalize DI l l.parts.length=R at *;refine CL (τ:=Nat×Sto) (λy=>[(34,(y.1:Int)),(33,(l.A9.length:Int)),(32,.d (.sl (l.A9.map An.A5))),(7,.AF 1),(6,.d (.sl (Hq l (Ah l.parts).length))),(4,.d (.sl (R.map AN.A5)))]) (λy=>y.2)
  (λy=>y.1<=l.A9.length/\A1 y.2 1=.map (some .i64) (dmK (FD l.A9 y.1))) (λy=>l.A9.length-y.1) (0,_) ⟨Bq _,?_⟩ (AU rfl) ?_
 ·exact bQ
 rintro⟨k,s⟩ ⟨hk,h1⟩;simp only at hk h1;have l1:=AG h1 rfl;by_cases hh:k<l.A9.length
 ·have hst:FD l.A9 (k+1)=Ae (FD l.A9 k) (l.A9.getD k default).id (some (k:Nat)):=rfl;generalize FD l.A9 k=g at *;generalize hxx:l.A9.getD k default=x at *;simp only[zF,seval,(oo:(k:Int)<l.A9.length),hh,Af _ _ _ (oo:k<l.A9.length),hxx,a_w ((k:Int)+1),h1,l1];refine⟨(k+1,_),⟨AQ,?_⟩,AQ,AU rfl⟩;simp only[zF,seval,h1,l1,hst,YP]
 have hk:k=l.A9.length:=oo;subst hk;simp only[zF,seval,(oo:¬(l.A9.length:Int)<l.A9.length)];refine Be ((vk R oo s).mono λr s2 hr=>?_);obtain⟨rfl,rfl⟩:=hr;refine C0 ?_;have h1':A1 (s++[.arr 10 (R.map AN.A5)]) 1=.map (some .i64) (dmK (FD l.A9 l.A9.length)):=by rw[BB l1];exact h1
 have hO':A1 (s++[.arr 10 (R.map AN.A5)]) s.length=.arr 10 (R.map AN.A5):=Cd;have hmo:s.length≠1:=oo;generalize s++[.arr 10 (R.map AN.A5)]=S at *;generalize s.length=oid at *;clear h1 l1;refine CL (τ:=Nat×Sto) (λy=>[(48,(y.1:Int)),(47,(R.length:Int)),(10,.A8 oid 0 R.length),(7,.AF 1),(6,.d (.sl (Hq l (Ah l.parts).length))),(4,.d (.sl (R.map AN.A5)))]) (λy=>y.2)
  (λy=>y.1<=R.length/\A1 y.2 1=.map (some .i64) (dmK (FD l.A9 l.A9.length))/\A1 y.2 oid=.arr 10 ((tiL (Df l) (DW l.A9) R y.1).map AN.A5)) (λy=>R.length-y.1) (0,S) ⟨Bq _,h1',hO'⟩ (AU rfl) ?_
 clear h1' hO' S;rintro⟨i,s⟩ ⟨hi,h1,hO⟩;simp only at hi h1 hO;have l1:=AG h1 rfl;have lO:=AG hO rfl;by_cases hii:i<R.length
 ·simp only[zF,seval,(oo:(i:Int)<R.length)];have hstI:tiL (Df l) (DW l.A9) R (i+1)=tiK (Df l) (DW l.A9) R i (tiL (Df l) (DW l.A9) R i) R.length:=rfl;have hOl:=U5 (Df l) (DW l.A9) R i;generalize tiL (Df l) (DW l.A9) R i=O at *;refine CL (τ:=Nat×Sto) (λy=>[(53,(y.1:Int)),(52,(R.length:Int)),(11,(i:Int)),(48,(i:Int)),(47,(R.length:Int)),(10,.A8 oid 0 R.length),(7,.AF 1),(6,.d (.sl (Hq l (Ah l.parts).length))),(4,.d (.sl (R.map AN.A5)))]) (λy=>y.2)
   (λy=>y.1<=R.length/\A1 y.2 1=.map (some .i64) (dmK (FD l.A9 l.A9.length))/\A1 y.2 oid=.arr 10 ((tiK (Df l) (DW l.A9) R i O y.1).map AN.A5)) (λy=>R.length-y.1) (0,s) ⟨Bq _,h1,hO⟩ (AU rfl) ?_
  clear h1 hO l1 lO s;rintro⟨k,s⟩ ⟨hk,h1,hO⟩;simp only at hk h1 hO;have l1:=AG h1 rfl;have lO:=AG hO rfl;by_cases hkk:k<R.length
  ·have hstK:tiK (Df l) (DW l.A9) R i O (k+1)=tiS (Df l) (DW l.A9) R i k (tiK (Df l) (DW l.A9) R i O k):=rfl;have hOkl:=U4 (Df l) (DW l.A9) R i O k;generalize tiK (Df l) (DW l.A9) R i O k=O2 at *;generalize hxx:R.getD k default=x at *;have hxa:=hRa k oo;rw[hxx] at hxa;have hxc:=Tk (l:=l.A9) (t:=x.A0) (by rw[hxa.1];exact hid k oo);have hfx:(dmK (FD l.A9 l.A9.length) (.i x.A0)).getD (.d (.int .i64 0))=.d (.int .i64 (DW l.A9 x.A0:Nat)):=by rw[Tu,jN]
   have hvr:=xX l (k:=(Ah l.parts).length) (i:=i) oo;have hvl:=gF l i;have hrl:=UK l (Ah l.parts).length;have hcl:DW l.A9 x.A0<(Df l i).length:=oo;obtain⟨O1,hO1⟩:∃O1,O1=O2.set i {O2.getD i default with lo:=max (O2.getD i default).lo x.lo}:=⟨_,rfl⟩;have htS:tiS (Df l) (DW l.A9) R i k O2=if x.AB<(Df l i).getD (DW l.A9 x.A0) default then O1.set k {O1.getD k default with hi:=min (O1.getD k default).hi (R.getD i default).hi} else O2:=by rw[tiS,hxx,hO1]
   have hset1:(O2.map AN.A5).set i (.agg [.int .i64 (O2.getD i default).A0,.int .i64 (O2.getD i default).AB,.int .i64 (O2.getD i default).ev.at_,.int .i64 (O2.getD i default).ev.kind,.str (O2.getD i default).ev.name,.int .i64 (O2.getD i default).ev.n,.int .i64 (O2.getD i default).ev.m,.sl ((O2.getD i default).ev.stack.map .str),.int .i64 (max (O2.getD i default).lo x.lo),.int .i64 ((O2.getD i default).hi)])=O1.map AN.A5:=by rw[hO1,JS];rfl
   have hset2:(O1.map AN.A5).set k (.agg [.int .i64 (O1.getD k default).A0,.int .i64 (O1.getD k default).AB,.int .i64 (O1.getD k default).ev.at_,.int .i64 (O1.getD k default).ev.kind,.str (O1.getD k default).ev.name,.int .i64 (O1.getD k default).ev.n,.int .i64 (O1.getD k default).ev.m,.sl ((O1.getD k default).ev.stack.map .str),.int .i64 ((O1.getD k default).lo),.int .i64 (min (O1.getD k default).hi (R.getD i default).hi)])=(O1.set k {O1.getD k default with hi:=min (O1.getD k default).hi (R.getD i default).hi}).map AN.A5:=by rw[JS];rfl
   have hO1l:O1.length=O2.length:=by rw[hO1,BH]
   clear hO1;generalize DW l.A9 x.A0=c at *;generalize Df l i=v at *;simp only[zF,seval,(oo:(k:Int)<R.length),hkk,Af _ _ _ (oo:k<R.length),hxx,h1,l1,hO,lO];refine⟨.inl Ax,?_⟩;simp only[zF,seval,(oo:(k:Int)<R.length),hkk,Af _ _ _ (oo:k<R.length),hxx,h1,l1,hO,lO,hrl,(oo:(i:Int)<(Ah l.parts).length),(oo:i<(Ah l.parts).length),hvr,hfx,(oo:(c:Int)<v.length),hcl,Af _ _ _ (oo:c<v.length),BW];apply ifC.mk<;>intro hz
   ·rw[AD OA] at htS;have hi2:i<O2.length:=oo;have hk2:k<O2.length:=oo;have hOn:O2.length=R.length:=oo;refine⟨.inl Ax,?_⟩;simp only[zF,seval,(oo:(k:Int)<R.length),(oo:(i:Int)<R.length),hkk,hii,hOn,Af _ _ _ (oo:k<R.length),Af _ _ _ (oo:i<R.length),hxx,h1,l1,hO,lO,hi2,hk2,Af _ _ _ (oo:i<O2.length),BW,hset1];have h1':A1 (s.set oid (.arr 10 (O1.map AN.A5))) 1=.map (some .i64) (dmK (FD l.A9 l.A9.length)):=by rw[As hmo];exact h1
    have hO':A1 (s.set oid (.arr 10 (O1.map AN.A5))) oid=.arr 10 (O1.map AN.A5):=BX lO;generalize s.set oid (.arr 10 (O1.map AN.A5))=S at *;clear h1 hO l1 lO s;have l1:=AG h1' rfl;have lO:=AG hO' rfl;have hi2:i<O1.length:=oo;have hk2:k<O1.length:=oo;have hOn:O1.length=R.length:=oo;refine⟨.inl Ax,?_⟩;simp only[zF,seval,(oo:(k:Int)<R.length),(oo:(i:Int)<R.length),hkk,hii,hOn,Af _ _ _ (oo:i<R.length),h1',l1,hO',lO,hi2,hk2,Af _ _ _ (oo:k<O1.length),BW,hset2,a_w ((k:Int)+1)];exact⟨(k+1,_),⟨AQ,by rw[As hmo];exact h1',by rw[hstK,htS];exact BX lO⟩,AQ,AU rfl⟩
   rw[A7 OA] at htS;refine WT ?_;exact⟨(k+1,s),⟨AQ,h1,by rw[hstK,htS];exact hO⟩,AQ,AU rfl⟩
  have hke:k=R.length:=oo;subst hke;simp only[zF,seval,(oo:¬(R.length:Int)<R.length),a_w ((i:Int)+1)];exact⟨(i+1,s),⟨AQ,h1,by rw[hstI];exact hO⟩,AQ,AU rfl⟩
 have hie:i=R.length:=oo;subst hie;simp only[zF,seval,(oo:¬(R.length:Int)<R.length)];have hOl:=U5 (Df l) (DW l.A9) R R.length;rw[<-hTi] at hO hOl;generalize tiF l=O at *;have hOm:(O.map AN.A5).length=R.length:=by rw[BW];exact hOl
 have hOd:IC s (.A8 oid 0 R.length)=.d (.sl (O.map AN.A5)):=by
  rw[Uo oid 0 R.length s (by rw[hO];rfl),hO];simp only[Blk.xs,IZ,Bi (Nv hOm)]
 refine rI (tU O oo) (by simp only[FY,Ci,E9,hOd]) rfl ?_;refine C0 ?_;rw[hF];apply ifC.mk<;>intro hz
 ·rw[AD hz];exact Lq
 rw[A7 (by rw[hz];simp)];have hr:KM s (.A8 oid 0 R.length)=[oid]:=si _ _ _ _ (by rw[hO];rfl);have hq:A1 (s.set oid (.BS 10 (O.map AN.A5))) oid=.BS 10 (O.map AN.A5):=BX lO;rw[hr,Up hO];refine⟨_,_,Ot (x:=D.sl (O.map AN.A5)) (by simp[AV.Db,EH,hq,Blk.AY]) ?_,rfl,rfl⟩;show Cv _ (.A8 oid 0 R.length)=_;simp only[Cv,hq,Blk.xs,IZ,Bi (Nv hOm)]

def Fr.KE{S s:Sto}(h:Fr S s []){p:Nat}(hp:S.length<=p)(B:Blk):Fr S (s.set p B) []:=
 ⟨by rw[BH];exact h.1,λj hj _=>by
  have:=AG (s:=S) (i:=j) rfl hj
  rw[As oo];exact h.2 j hj A6⟩
def fI{α β:Type}[Inhabited α]{g:α->β}{O:List α}{i:Nat}{y:α}(h:g y=g (O.getD i default)):(O.set i y).map g=O.map g:=by
 apply Gf;intro j;rw[DG,DG,H_];by_cases e:i=j
 ·subst e;rw[AD rfl];split
  ·rename_i hl;rw[II hl] at h;simp[hl,h]
  rename_i hl;simp[Bt (Va hl)]
 rw[A7 e]
def tmI(x:AN):Int×Int×EvT:=(x.A0,x.AB,x.ev)
def uk(V:Nat->List Int)(c:Int->Nat)(R:List AN)(i k:Nat)(O:List AN):(tiS V c R i k O).map tmI=O.map tmI:=by
 unfold tiS;split
 ·have a:∀(O:List AN) i (m:Int),(O.set i {O.getD i default with lo:=m}).map tmI=O.map tmI:=λO i m=>fI rfl;have b:∀(O:List AN) i (m:Int),(O.set i {O.getD i default with hi:=m}).map tmI=O.map tmI:=λO i m=>fI rfl;exact(b _ _ _).trans (a _ _ _)
 rfl
def Yz(V:Nat->List Int)(c:Int->Nat)(R:List AN):∀i,(tiL V c R i).map tmI=R.map tmI
 | 0=>rfl
 | i+1=>by
  have gen:∀(O:List AN) k,(tiK V c R i O k).map tmI=O.map tmI:=λO k=>by
   induction k with
   | zero=>rfl
   | succ k ih=>rw[tiK,uk,ih]
  rw[tiL,gen,Yz V c R i]
def Yx(l:Av):(tiF l).map (λx=>(x.A0,x.AB))=Ah l.parts:=by
 have h:=Yz (Df l) (DW l.A9) (DI l l.parts.length) (DI l l.parts.length).length;have h2:=congrArg (List.map λt:Int×Int×EvT=>(t.1,t.2.1)) h;rw[Hs,Hs] at h2;have h3:=UM l _ (AR _);rw[BL] at h3;rw[<-h3];exact h2
def Yy(l:Av):(tiF l).length=(Ah l.parts).length:=by rw[<-Yx,BW]
def Zb(l:Av){k:Nat}(hk:k<(tiF l).length):(Ah l.parts).getD k default=(((tiF l).getD k default).A0,((tiF l).getD k default).AB):=by
 rw[<-Yx,II (by rw[BW];exact hk),H9,II hk]
def Q5u(l:Av)(h:l.BZ)(Z:Sto):AW prog Gl 33 [.d l.A5] Z (λr s=>Fr Z s []/\if(Fl l).2≠0 then r=.Aj [.agg [.d (.raw (.map none)),.AA,.AA],.d (.int .i64 (Fl l).2)] else ∃M R,r=.Aj [.agg [.AF M,.d (.sl ((tiF l).map AN.A5)),.A8 R 0 (tiF l).length],(0:Int)]/\Z.length<=M/\Z.length<=R/\A1 s M=.map (some .i64) (dmK (FD l.A9 l.A9.length))/\A1 s R=.arr 1 (Hq l (tiF l).length)):=by
 have hths:=h.A9;refine acS func33 ntmps33 results33 ?_;refine FC ?_;refine Ak (tV l h) ?_;refine C0 ?_;apply ifC.mk<;>intro hc
 ·have hc:(Fl l).2≠0:=Dc;refine⟨_,_,Bg.refl _ _ _,Fr.app _ _,?_⟩;rw[AD hc]
 have hc:(Fl l).2=0:=Dc;have hT1:(Fl l).1=tiF l:=by
  unfold Fl at hc ⊢;split at hc
  ·rename_i h1;exact absurd hc h1
  rename_i h1;rw[A7 h1];split at hc
  ·cases hc
  rename_i h2;rw[A7 h2]
 rw[hT1];have hf0:Fr Z (Z++[.box 4 (.d l.A5),.box 3 (.agg [.d (.raw (.map none)),.AA,.AA]),.map (some .i64) λ_=>none,.box 3 (.agg [.AF (Z.length+2),.d (.sl ((tiF l).map AN.A5)),.AA])]) []:=Fr.app _ _;have e0:A1 (Z++[.box 4 (.d l.A5),.box 3 (.agg [.d (.raw (.map none)),.AA,.AA]),.map (some .i64) λ_=>none,.box 3 (.agg [.AF (Z.length+2),.d (.sl ((tiF l).map AN.A5)),.AA])]) Z.length=.box 4 (.d l.A5):=OD;have e1:A1 (Z++[.box 4 (.d l.A5),.box 3 (.agg [.d (.raw (.map none)),.AA,.AA]),.map (some .i64) λ_=>none,.box 3 (.agg [.AF (Z.length+2),.d (.sl ((tiF l).map AN.A5)),.AA])]) (Z.length+1)=.box 3 (.agg [.d (.raw (.map none)),.AA,.AA]):=Mb;have e2:A1 (Z++[.box 4 (.d l.A5),.box 3 (.agg [.d (.raw (.map none)),.AA,.AA]),.map (some .i64) λ_=>none,.box 3 (.agg [.AF (Z.length+2),.d (.sl ((tiF l).map AN.A5)),.AA])]) (Z.length+2)=.map (some .i64) (dmK (FD l.A9 0)):=by
  rw[CE,A7 oo,EB];exact bQ
 have e3:A1 (Z++[.box 4 (.d l.A5),.box 3 (.agg [.d (.raw (.map none)),.AA,.AA]),.map (some .i64) λ_=>none,.box 3 (.agg [.AF (Z.length+2),.d (.sl ((tiF l).map AN.A5)),.AA])]) (Z.length+3)=.box 3 (.agg [.AF (Z.length+2),.d (.sl ((tiF l).map AN.A5)),.AA]):=Mb;generalize (Z++[.box 4 (.d l.A5),.box 3 (.agg [.d (.raw (.map none)),.AA,.AA]),.map (some .i64) λ_=>none,.box 3 (.agg [.AF (Z.length+2),.d (.sl ((tiF l).map AN.A5)),.AA])])=S at *;generalize hN:Z.length=N at *;refine CL (τ:=Nat×Sto) (λy=>[(28,(y.1:Int)),(27,(l.A9.length:Int)),(26,.d (.sl (l.A9.map An.A5))),(4,.ptr (N+3) 0),(2,.ptr (N+1) 0),(1,.ptr N 0)]) (λy=>y.2)
  (λy=>y.1<=l.A9.length/\Fr Z y.2 []/\A1 y.2 N=.box 4 (.d l.A5)/\A1 y.2 (N+1)=.box 3 (.agg [.d (.raw (.map none)),.AA,.AA])/\A1 y.2 (N+2)=.map (some .i64) (dmK (FD l.A9 y.1))/\A1 y.2 (N+3)=.box 3 (.agg [.AF (N+2),.d (.sl ((tiF l).map AN.A5)),.AA])) (λy=>l.A9.length-y.1) (0,S) ⟨Bq _,hf0,e0,e1,e2,e3⟩ (AU rfl) ?_
 clear hf0 e0 e1 e2 e3 S;rintro⟨k,s⟩ ⟨hk,hf,h0,h1,h2,h3⟩;simp only at hk hf h0 h1 h2 h3;have l0:=AG h0 rfl;have l1:=AG h1 rfl;have l2:=AG h2 rfl;have l3:=AG h3 rfl;by_cases hh:k<l.A9.length
 ·have hst:FD l.A9 (k+1)=Ae (FD l.A9 k) (l.A9.getD k default).id (some (k:Nat)):=rfl;generalize FD l.A9 k=g at *;generalize hxx:l.A9.getD k default=x at *;simp only[zF,seval,(oo:(k:Int)<l.A9.length),hh,Af _ _ _ (oo:k<l.A9.length),hxx,a_w ((k:Int)+1),h2,l2,h3,l3];refine⟨(k+1,_),⟨AQ,(hf.KE (p:=N+2) oo _).trans (Fr.app _ _) A6,?_,?_,?_,?_⟩,AQ,AU rfl⟩
  ·simp only[zF,seval,h0,l0,(oo:N+2≠N)]
  ·simp only[zF,seval,h1,l1,(oo:N+1≠N)]
  ·simp only[zF,seval,h2,l2,hst,YP]
  simp only[zF,seval,h3,l3,(oo:N≠N+1)]
 have hk:k=l.A9.length:=oo;subst hk;simp only[zF,seval,(oo:¬(l.A9.length:Int)<l.A9.length),h3,l3];have hca:Eg l=0:=by
  have h9:(Ho l).2=0:=by
   unfold Fl at hc;split at hc
   ·exact hc
   rename_i h1;simpa using h1
  exact(UZ h9).1
 have hn:=Yy l;have hn24:(Ah l.parts).length<=24:=W7;have hat:=λk hk=>Zb l (k:=k) hk;generalize tiF l=O at *;have hf2:Fr Z ((s++[Blk.arr 1 []]).set (N+3) (.box 3 (.agg ([AV.AF (N+2),.d (.sl (O.map AN.A5)),.AA].set 2 (.A8 s.length 0 0))))) []:=(hf.trans (Fr.app s [Blk.arr 1 []]) A6).KE (p:=N+3) oo _;refine CL (τ:=Nat×Sto×Nat) (λy=>[(42,(y.1:Int)),(41,(O.length:Int)),(40,.d (.sl (O.map AN.A5))),(4,.ptr (N+3) 0),(2,.ptr (N+1) 0),(1,.ptr N 0)]) (λy=>y.2.1)
  (λy=>y.1<=O.length/\Fr Z y.2.1 []/\A1 y.2.1 N=.box 4 (.d l.A5)/\A1 y.2.1 (N+1)=.box 3 (.agg [.d (.raw (.map none)),.AA,.AA])/\A1 y.2.1 (N+2)=.map (some .i64) (dmK (FD l.A9 l.A9.length))/\A1 y.2.1 (N+3)=.box 3 (.agg [.AF (N+2),.d (.sl (O.map AN.A5)),.A8 y.2.2 0 y.1])/\A1 y.2.1 y.2.2=.arr 1 (Hq l y.1)/\N<=y.2.2) (λy=>O.length-y.1) (0,_,s.length)
  ⟨Bq _,hf2,?_,?_,?_,?_,?_,show N<=s.length by omega⟩ ((QV (N+3) 1 2 oo h3 rfl A6 l3).trans (AU rfl)) ?_
 ·rw[As oo,BB l0];exact h0
 ·rw[As oo,BB l1];exact h1
 ·rw[As oo,BB l2];exact h2
 ·exact BX Ap
 ·simp only;rw[As oo];exact Cd
 clear hf2 h0 h1 h2 h3 l0 l1 l2 l3 hf;rintro⟨k,s,R⟩ ⟨hk,hf,h0,h1,h2,h3,hR,hNR⟩;simp only at hk hf h0 h1 h2 h3 hR hNR;have l0:=AG h0 rfl;have l1:=AG h1 rfl;have l2:=AG h2 rfl;have l3:=AG h3 rfl;have lR:=AG hR rfl;have r0:R≠N:=AX hR h0 A6;have r1:R≠N+1:=AX hR h1 A6;have r2:R≠N+2:=AX hR h2 A6;have r3:R≠N+3:=AX hR h3 A6;by_cases hh:k<O.length
 ·have hv:=kF hca (i:=k) oo;have hkV:=fD (Gl:=Gl) l h ((Ah l.parts).getD k default);rw[hv,hat k hh] at hkV;have hvl:=UK l k;generalize hxx:O.getD k default=x at *;simp only[zF,seval,(oo:(k:Int)<O.length),hh,Af _ _ _ (oo:k<O.length),hxx,h0,l0];refine Ak hkV ?_;simp only[zF,seval,h0,h1,h2,h3,hR,l0,l1,l2,l3,lR,r0,r1,r2,r3,r0.symm,r1.symm,r2.symm,r3.symm,a_w ((k:Int)+1)];refine⟨⟨oo,oo⟩,(k+1,_,s.length+2),⟨AQ,((hf.KE (p:=R) oo _).KE (p:=N+3) oo _).trans (Fr.app _ _) A6,?_,?_,?_,?_,?_,show N<=s.length+2 by omega⟩,AQ,AU rfl⟩
  ·simp only[zF,seval,h0,l0,l3,r0,r0.symm,(oo:N+3≠N)]
  ·simp only[zF,seval,h1,l1,l3,r1,r1.symm,(oo:N+2≠N)]
  ·simp only[zF,seval,h2,l2,l3,r2,r2.symm,(oo:N+1≠N)]
  ·simp only[zF,seval,h3,l3,r3,r3.symm]
  simp only;rw[CE,A7 A6,BH,BH,EB,Bi oo,ck];rfl
 have hk2:k=O.length:=oo;subst hk2;simp only[zF,seval,(oo:¬(O.length:Int)<O.length),h1,h3,l1,l3,r1,r3];refine⟨_,_,Bg.refl _ _ _,(hf.KE (p:=N+1) oo _),?_⟩;rw[A7 (by rw[hc];simp)];exact⟨N+2,R,rfl,oo,hNR,by rw[As oo];exact h2,by rw[As oo];exact hR⟩

structure Cg where
 O:List AN
 c:Int->Nat
 V:Nat->List Int
 n:Nat
def Cg.at_(o:Cg)(y:Int):AN:=o.O.getD y.toNat default
def hdI(r:List Int):Int:=r.getD 0 default
def Cg.stop(o:Cg)(W:Nat->List Int)(i c:Nat):Bool:=(c !=o.c (o.O.getD i default).A0)&&(decide (W c≠[])&&decide ((o.at_ (hdI (W c))).AB<(o.V i).getD c default))
def Cg.free(o:Cg)(W:Nat->List Int)(i:Nat):Bool:=(List.range o.n).all λc=>!o.stop W i c
def HD(n:Nat)(W:Nat->List Int):List D:=(List.range n).map λc=>.sl ((W c).map (.int .i64))
def gL(n:Nat)(W:Nat->List Int):(HD n W).length=n:=by simp[HD]
def UO{n c:Nat}(W:Nat->List Int)(h:c<n):(HD n W).getD c default=.sl ((W c).map (.int .i64)):=by simp[HD,h]
def H0(o:Cg):List D:=(List.range o.O.length).map λi=>.sl ((o.V i).map (.int .i64))
def gW(o:Cg):(H0 o).length=o.O.length:=by simp[H0]
def yG(o:Cg){i:Nat}(h:i<o.O.length):(H0 o).getD i default=.sl ((o.V i).map (.int .i64)):=by simp[H0,h]
structure Sk(o:Cg)(g:Int->Option Int)(σ:Sto)(b6 b4 q M:Nat)(W:Nat->List Int):Prop where
 w6:A1 σ b6=.box 1 (.A8 q 0 o.n)
 row:A1 σ q=.arr 1 (HD o.n W)
 w4:A1 σ b4=.box 3 (.agg [.AF M,.d (.sl (o.O.map AN.A5)),.d (.sl (H0 o))])
 Ad:A1 σ M=.map (some .i64) (dmK g)
structure OOk(o:Cg)(g:Int->Option Int):Prop where
 col:∀t,(g t).getD 0=(o.c t:Nat)
 cl:∀i,i<o.O.length->o.c (o.O.getD i default).A0<o.n
 vl:∀i,(o.V i).length=o.n
 sm:o.O.length<=24
 n10:o.n<=10
def Q5y(o:Cg){g:Int->Option Int}(hK:OOk o g){S:Sto}{b6 b4 q M:Nat}{W:Nat->List Int}(h6:A1 S b6=.box 1 (.A8 q 0 o.n))(hq:A1 S q=.arr 1 (HD o.n W)\/A1 S q=.BS 1 (HD o.n W))(h4:A1 S b4=.box 3 (.agg [.AF M,.d (.sl (o.O.map AN.A5)),.d (.sl (H0 o))]))(hM:A1 S M=.map (some .i64) (dmK g))(hW:∀c,∀y∈W c,0<=y/\y<o.O.length)(i:Nat)(hi:i<o.O.length):
  AW prog Gl 34 [(i:Int),.ptr b6 0,.ptr b4 0] S (λr s=>r=.d (.bool (o.free W i))/\S.length<=s.length/\∀j,(A1 S j).AP=false->A1 s j=A1 S j):=by
 have l6:=AG h6 rfl;have l4:=AG h4 rfl;have lM:=AG hM rfl;have hrl:=gL o.n W;have hn:=hK.n10;rcases hq with hq|hq
 all_goals
  have lq:=AG hq rfl;refine acS func34 ntmps34 results34 ?_;simp only[zF,seval,B6,h6,l6];refine CL (τ:=Nat) (λc=>[(9,(c:Int)),(8,(o.n:Int)),(7,.A8 q 0 o.n),(2,.ptr b4 0),(1,.ptr b6 0),(0,(i:Int))]) (λ_=>S)
   (λc=>c<=o.n/\((List.range c).all λc=>!o.stop W i c)=true) (λc=>o.n-c) 0 ⟨Bq _,rfl⟩ (AU rfl) ?_
  rintro c ⟨hc,ha⟩;by_cases hh:c<o.n
  ·have hrg:=UO W hh;have hfx:(dmK g (.i (o.O.getD i default).A0)).getD (.d (.int .i64 0))=.d (.int .i64 (o.c (o.O.getD i default).A0:Nat)):=by rw[Tu,hK.col]
   have hcg:=yG o hi;have hcl:=gW o;have hvl:=hK.vl i;have hst:o.stop W i c=((c !=o.c (o.O.getD i default).A0)&&(decide (W c≠[])&&decide ((o.at_ (hdI (W c))).AB<(o.V i).getD c default))):=rfl;have hal:((List.range (c+1)).all λc=>!o.stop W i c)=!o.stop W i c:=by rw[QQ,ha,Hu]
   have hfr:o.stop W i c=true->o.free W i=false:=λhs=>SI hh (by rw[hs];rfl);generalize hcc:o.c (o.O.getD i default).A0=cc at *;by_cases h1:c=cc
   ·have hs0:o.stop W i c=false:=by rw[hst,show(c !=cc)=false by simpa using h1];rfl
    simp only[zF,seval,(oo:(c:Int)<o.n),hq,lq,hrl,hh,hrg];refine⟨.inl Ax,?_⟩;simp only[zF,seval,h4,l4,hM,lM,hi,(oo:(i:Int)<o.O.length),Af _ _ _ (oo:i<o.O.length),hfx,(oo:(c:Int)=cc),PU,a_w ((cc:Int)+1)];refine Ag ?_;refine⟨c+1,⟨hh,by rw[hal,hs0];rfl⟩,oo,?_⟩;subst h1;exact Dd
   have hne:((c:Int) !=(cc:Int))=true:=by simpa using λe=>h1 oo
   cases hw:W c with
   | nil=>
    have hs0:o.stop W i c=false:=by rw[hst,hw];simp
    rw[hw] at hrg;simp only[zF,seval,(oo:(c:Int)<o.n),hq,lq,hrl,hh,hrg];refine⟨.inl Ax,?_⟩;simp only[zF,seval,h4,l4,hM,lM,hi,(oo:(i:Int)<o.O.length),Af _ _ _ (oo:i<o.O.length),hfx,hne,a_w ((c:Int)+1),E9,C6,Int.natCast_zero];refine Ag ?_;exact⟨c+1,⟨hh,by rw[hal,hs0];rfl⟩,oo,AU rfl⟩
   | cons y r=>
    obtain⟨x,rfl,hx⟩:∃x:Nat,y=(x:Int)/\x<o.O.length:=by
     exact nR
    have hs0:o.stop W i c=decide ((o.O.getD x default).AB<(o.V i).getD c default):=by rw[hst,hw,show(c !=cc)=true by simpa using h1];simp[Cg.at_,hdI]
    rw[hw] at hrg;have hcv:c<(o.V i).length:=oo;simp only[zF,seval,(oo:(c:Int)<o.n),hq,lq,hrl,hh,hrg];refine⟨.inl Ax,?_⟩;have hlc:((List.length (((x:Nat):Int)::r):Nat):Int)=r.length+1:=A6;simp only[zF,seval,h4,l4,hM,lM,hi,(oo:(i:Int)<o.O.length),Af _ _ _ (oo:i<o.O.length),hfx,hne,a_w ((c:Int)+1),Ci,hlc,(oo:(0:Int)<(r.length:Int)+1),Vh,hx,(oo:(x:Int)<o.O.length),Af _ _ _ (oo:x<o.O.length),hcl,hcg,hcv,(oo:(c:Int)<(o.V i).length),Af _ _ _ (oo:c<(o.V i).length),BW,Dw];refine Ag ?_;apply ifC.mk<;>intro hz
    ·refine⟨_,_,Bg.refl _ _ _,?_,AR _,λj _=>rfl⟩;rw[hfr (by rw[hs0];exact hz)]
    exact⟨c+1,⟨hh,by rw[hal,hs0,hz];rfl⟩,oo,AU rfl⟩
  have hce:c=o.n:=oo;subst hce;simp only[zF,seval,(oo:¬(o.n:Int)<o.n)];refine⟨_,_,Bg.refl _ _ _,?_,AR _,λj _=>rfl⟩;rw[show o.free W i=true from ha]

structure LZ(σ:Sto)(q n:Nat)(nx:Nat->List Int)(A:Nat->Nat):Prop where
 row:A1 σ q=.var 1 ((List.range n).map λi=>.A8 (A i) 0 (nx i).length)
 cell:∀i,i<n->A1 σ (A i)=.arr 1 ((nx i).map (.int .i64))
 inj:∀i j,i<n->j<n->A i=A j->i=j
def LZ.ext{S s:Sto}{q n:Nat}{nx:Nat->List Int}{A:Nat->Nat}(h:LZ S q n nx A)(hf:Fr S s []):LZ s q n nx A:=
 ⟨hf.at h.row rfl A6,λi hi=>hf.at (h.cell i hi) rfl A6,h.inj⟩
def LZ.data{n m N:Nat}{env:Env}{S:Sto}{q:Nat}{nx:Nat->List Int}{A:Nat->Nat}(h:LZ S q n nx A):
  ∃s,Bc N m env S env s/\s.length=S.length/\A1 s q=.arr 1 (HD n nx)/\∀j,j≠q->(∀i,i<n->A i≠j)->A1 s j=A1 S j:=by
 have hrow:=h.row;have hcell:=h.cell;have lq:=AG hrow rfl;have hd:(AV.agg ((List.range n).map λi=>.A8 (A i) 0 (nx i).length)).Db S=true:=by
  show List.all _ (EH S)=true;refine EW.2 λc hc=>?_;obtain⟨i,hi,rfl⟩:=C4.1 hc;simp[EH,hcell i (CI.1 hi),Blk.AY]
 have w1:=Xg (n:=N) (m:=m) (env:=env) q hrow hd;have hrefs:(AV.agg ((List.range n).map λi=>.A8 (A i) 0 (nx i).length)).refs=(List.range n).map A:=by
  exact nr
 have hcs:((List.range n).map λi=>AV.A8 (A i) 0 (nx i).length).map (λc=>AV.d (Cv S c))=((HD n nx).flatMap D.cells).map AV.d:=by
  rw[HD,VZ];show _=((List.range n).flatMap (λi=>[D.sl ((nx i).map (.int .i64))])).map AV.d;rw[VG,Hs,Hs];refine MX λi hi=>?_;simp only[Function.comp,Cv,hcell i (CI.1 hi),Blk.xs,IZ];rw[Bi A6]
 rw[hrefs,hcs] at w1;have hrm:∀x∈HD n nx,∃r,x=D.sl r:=λx hx=>by
  obtain⟨i,_,rfl⟩:=C4.1 hx;exact⟨_,rfl⟩
 have w2:=X8 (n:=N) (m:=m) (env:=env) (σ:=(freezeL S ((List.range n).map A)).set q (.var 1 (((HD n nx).flatMap D.cells).map AV.d))) q (BX (by rw[M9];exact lq)) rfl (λx hx=>by obtain⟨r,rfl⟩:=hrm x hx;rfl) (λx hx=>lu);refine⟨_,w1.trans w2,by rw[BH,BH,M9],BX (by rw[BH,M9];exact lq),λj hj hA=>?_⟩;rw[As hj.symm,As hj.symm,Px _ _ _ λhm=>?_];obtain⟨i,hi,e⟩:=C4.1 hm;exact hA i (CI.1 hi) e
def LZ.Ev{S s:Sto}{q n:Nat}{nx:Nat->List Int}{A:Nat->Nat}(h:LZ S q n nx A){i:Nat}(hi:i<n)(r:List Int){X:Nat}(hf:Fr S s [q,A i])(hX:S.length<=X)
  (hq:A1 s q=.var 1 (((List.range n).map λi=>AV.A8 (A i) 0 (nx i).length).set i (.A8 X 0 r.length))) (hr:A1 s X=.arr 1 (r.map (.int .i64))):LZ s q n (updQ nx i r) (updQ A i X):=by
 have hlt:∀j,j<n->A j<S.length:=λj hj=>AG (h.cell j hj) rfl;refine⟨?_,λj hj=>?_,λa b ha hb e=>?_⟩
 ·rw[hq];congr 1;apply Gf;intro j;rw[H_];by_cases e:i=j
  ·subst e;rw[AD rfl];simp[hi,updQ]
  rw[A7 e,DG,DG];cases hj:(List.range n)[j]? with
  | none=>rfl
  | some v=>
   have:v=j:=by
    rw[T7] at hj
    ·cases hj;rfl
    by_cases hh:j<n
    ·exact hh
    rw[Bt Ap] at hj;cases hj
   subst this;simp only[DF,updQ,A7 (λe1:v=i=>e e1.symm)]
 ·unfold updQ;split
  ·exact hr
  rename_i hne;refine hf.at (h.cell j hj) rfl ?_;simp only[Bw,En,E6,FW];exact⟨AX (h.cell j hj) h.row A6,λe=>hne (h.inj j i hj hi e)⟩
 unfold updQ at e;split at e<;>split at e
 ·omega
 ·have:=hlt b hb;omega
 ·have:=hlt a ha;omega
 exact h.inj a b ha hb e
def Cg.D1(o:Cg):Nat->Nat->List Int
 | 0=>λ_=>[]
 | k+1=>updQ (o.D1 k) (o.c (o.O.getD k default).A0) (o.D1 k (o.c (o.O.getD k default).A0)++[(k:Int)])
def Cg.CM(o:Cg)(W:Nat->List Int):Nat->Int
 | 0=>-1
 | c+1=>if(W c≠[]/\o.free W (hdI (W c)).toNat=true)/\(o.CM W c<0\/(o.at_ (hdI (W c))).lo<(o.at_ (hdI (W (o.CM W c).toNat))).lo) then(c:Nat) else o.CM W c
def Cg.run(o:Cg):Nat->Option ((Nat->List Int)×List Int)
 | 0=>some (o.D1 o.O.length,[])
 | m+1=>match o.run m with
  | none=>none
  | some (W,out)=>if o.CM W o.n<0 then none else some (updQ W (o.CM W o.n).toNat (W (o.CM W o.n).toNat).tail,out++[hdI (W (o.CM W o.n).toNat)])
def It(l:Av):Cg:=⟨tiF l,DW l.A9,Df l,l.A9.length⟩
def EJ(l:Av):List AN×Int:=if(Fl l).2≠0 then([],(Fl l).2) else match (It l).run (tiF l).length with
 | none=>([],13)
 | some (_,out)=>(out.map (It l).at_,0)

def XF(o:Cg):∀k c,(o.D1 k c).length<=k
 | 0,c=>AR _
 | k+1,c=>by
  have h1:=XF o k c;have h2:=XF o k (o.c (o.O.getD k default).A0);unfold Cg.D1 updQ;split
  ·rw[Bb,Hx];omega
  omega
def Ym(o:Cg):∀k c,∀y∈o.D1 k c,0<=y/\y<(k:Int)
 | 0,c,y,hy=>OC
 | k+1,c,y,hy=>by
  unfold Cg.D1 updQ at hy;split at hy
  ·rcases CH.1 hy with h1|h1
   ·have:=Ym o k _ y h1;omega
   have:=CG.1 h1;omega
  have:=Ym o k _ y hy;omega
def Ri(o:Cg)(W:Nat->List Int):∀c,o.CM W c=-1\/∃b:Nat,b<c/\o.CM W c=b/\W b≠[]/\o.free W (hdI (W b)).toNat=true
 | 0=>.inl rfl
 | c+1=>by
  unfold Cg.CM;split
  ·rename_i h;exact .inr ⟨c,oo,rfl,h.1⟩
  rcases Ri o W c with h|⟨b,h1,h2,h3⟩
  ·exact .inl h
  exact .inr ⟨b,oo,h2,h3⟩
def xK{n b:Nat}(W:Nat->List Int)(h:b<n){r:List Int}:(HD n W).set b (.sl (r.map (.int .i64)))=HD n (updQ W b r):=by
 apply Gf;intro j;rw[H_];by_cases e:b=j
 ·subst e;simp[HD,h,updQ]
 rw[A7 e];by_cases hj:j<n
 ·simp[HD,hj,updQ,A7 (λe1:j=b=>e e1.symm)]
 simp[HD,hj]
def fg{o:Cg}{m:Nat}(h:o.run m=none):∀k,m<=k->o.run k=none
 | 0,hk=>by rw[show m=0 by omega] at h;exact h
 | k+1,hk=>by
  by_cases e:m=k+1
  ·rw[<-e];exact h
  rw[Cg.run,fg h k oo]
def Sk.ext{o:Cg}{g:Int->Option Int}{S s:Sto}{b6 b4 q M:Nat}{W:Nat->List Int}(h:Sk o g S b6 b4 q M W)(hf:Fr S s []):Sk o g s b6 b4 q M W:=
 ⟨hf.at h.w6 rfl A6,hf.at h.row rfl A6,hf.at h.w4 rfl A6,hf.at h.Ad rfl A6⟩
set_option maxHeartbeats 8000000 in
def zG(l:Av)(h:l.BZ):AT prog Gl 13 [.d l.A5] (.Aj [.d (.sl ((EJ l).1.map AN.A5)),.d (.int .i64 (EJ l).2)]):=by
 refine AT.FL ?_;have hths:=h.A9;refine Fv func13 rfl rfl (by simp[ntmps13]) ?_;simp only[ntmps13,results13,B6,C6];refine Pl ?_;refine Be ((Q5u l h _).mono λr s hr=>?_);obtain⟨hf,hr⟩:=hr;by_cases hc:(Fl l).2≠0
 ·rw[AD hc] at hr;subst hr;have hF:EJ l=([],(Fl l).2):=by rw[EJ,AD hc]
  refine C0 ?_;refine Cf ?_;simp only[zF,seval,show((Fl l).2 !=0)=true by simpa using hc];rw[hF];exact Lq
 rw[A7 hc] at hr;obtain⟨M,R,rfl,hM,hR,hmM,hmR⟩:=hr;refine C0 ?_;refine Cu ?_;have hc0:(Fl l).2=0:=Dc;have hca:Eg l=0:=by
  have h9:(Ho l).2=0:=by
   unfold Fl at hc0;split at hc0
   ·exact hc0
   rename_i h1;simpa using h1
  exact(UZ h9).1
 have hOl:=Yy l;have hn24:(Ah l.parts).length<=24:=W7;have hcD:Hq l (tiF l).length=H0 (It l):=rfl;have hOO:tiF l=(It l).O:=rfl;have hnn:l.A9.length=(It l).n:=rfl;have hK:OOk (It l) (FD l.A9 l.A9.length):=⟨λt=>jN l.A9 t,λi hi=>by
  have h9:=Zb l hi
  have h8:=Tk (Pt (NG hca) i (show i<_ by rw[<-hOl];exact hi))
  rw[h9] at h8
  exact h8.1,λi=>gF l i,show(tiF l).length<=24 by omega,hths⟩
 have hF:EJ l=match (It l).run (tiF l).length with
  | none=>([],13)
  | some (_,out)=>(out.map (It l).at_,0):=by unfold EJ;rw[A7 hc]<;>rfl
 rw[hOO] at *;rw[hcD] at hmR;generalize hoo:It l=o at *;generalize FD l.A9 l.A9.length=g at *;have h0:=hf.at (j:=0) (B:=.box 4 (.d l.A5)) rfl rfl A6;have l0:=AG h0 rfl;have lM:=AG hmM rfl;have lR:=AG hmR rfl;simp only[CT,C6] at hM hR;refine AWp.Cj (AU (show _=[(4,.ptr s.length 0),(1,.ptr 0 0)] from rfl)) ?_;have hb1:A1 (s++[Blk.box 3 (.agg [.AF M,.d (.sl (o.O.map AN.A5)),.A8 R 0 o.O.length])]) s.length=.box 3 (.agg [.AF M,.d (.sl (o.O.map AN.A5)),.A8 R 0 o.O.length]):=Cd;have hR1:A1 (s++[Blk.box 3 (.agg [.AF M,.d (.sl (o.O.map AN.A5)),.A8 R 0 o.O.length])]) R=.arr 1 (H0 o):=by rw[BB lR];exact hmR
 refine AWp.Cj (Y7 s.length 2 R 0 o.O.length 1 hb1 (AG hb1 rfl) rfl A6 hR1) ?_;rw[IZ,Bi (Nv (gW o))];have e0:A1 (((s++[Blk.box 3 (.agg [.AF M,.d (.sl (o.O.map AN.A5)),.A8 R 0 o.O.length])]).set R (.BS 1 (H0 o))).set s.length (.box 3 (.agg ([AV.AF M,.d (.sl (o.O.map AN.A5)),.A8 R 0 o.O.length].set 2 (.d (.sl (H0 o))))))) 0=.box 4 (.d l.A5):=by
  rw[As oo,As oo,BB l0];exact h0
 have eM:A1 (((s++[Blk.box 3 (.agg [.AF M,.d (.sl (o.O.map AN.A5)),.A8 R 0 o.O.length])]).set R (.BS 1 (H0 o))).set s.length (.box 3 (.agg ([AV.AF M,.d (.sl (o.O.map AN.A5)),.A8 R 0 o.O.length].set 2 (.d (.sl (H0 o))))))) M=.map (some .i64) (dmK g):=by
  have:=AX hmM hmR A6;rw[As oo,As oo,BB lM];exact hmM
 have e4:A1 (((s++[Blk.box 3 (.agg [.AF M,.d (.sl (o.O.map AN.A5)),.A8 R 0 o.O.length])]).set R (.BS 1 (H0 o))).set s.length (.box 3 (.agg ([AV.AF M,.d (.sl (o.O.map AN.A5)),.A8 R 0 o.O.length].set 2 (.d (.sl (H0 o))))))) s.length=.box 3 (.agg [.AF M,.d (.sl (o.O.map AN.A5)),.d (.sl (H0 o))]):=BX A6;generalize (((s++[Blk.box 3 (.agg [.AF M,.d (.sl (o.O.map AN.A5)),.A8 R 0 o.O.length])]).set R (.BS 1 (H0 o))).set s.length (.box 3 (.agg ([AV.AF M,.d (.sl (o.O.map AN.A5)),.A8 R 0 o.O.length].set 2 (.d (.sl (H0 o)))))))=S at *;generalize s.length=b4 at *;clear hb1 hR1 hmM hmR h0 l0 lM lR hf hR s R hM hcD hOO hc hc0;have l0:=AG e0 rfl;have l4:=AG e4 rfl;have lM:=AG eM rfl;have hmk:=jj o.n (by have:=hK.n10;omega);have hms:=λT=>fJ T o.n;refine Cf ?_;simp only[zF,seval,e0,l0,hnn,hmk,hms];refine AWp.Cj (AU (show _=[(6,.ptr (S.length+1) 0),(4,.ptr b4 0),(1,.ptr 0 0)] from rfl)) ?_;have q1:A1 (S++[Blk.arr 1 (List.replicate o.n (D.raw (.slice none 0 0))),Blk.box 1 (.A8 S.length 0 o.n)]) S.length=.arr 1 (List.replicate o.n (D.raw (.slice none 0 0))):=OD;have q2:A1 (S++[Blk.arr 1 (List.replicate o.n (D.raw (.slice none 0 0))),Blk.box 1 (.A8 S.length 0 o.n)]) (S.length+1)=.box 1 (.A8 S.length 0 o.n):=Mb;have hfr:Fr S (S++[Blk.arr 1 (List.replicate o.n (D.raw (.slice none 0 0))),Blk.box 1 (.A8 S.length 0 o.n)]) []:=Fr.app _ _;have h0:=hfr.at e0 rfl A6;have h4:=hfr.at e4 rfl A6;have hM:=hfr.at eM rfl A6;have hq0:S.length≠0/\S.length≠b4/\S.length≠M/\S.length≠S.length+1:=oo;generalize (S++[Blk.arr 1 (List.replicate o.n (D.raw (.slice none 0 0))),Blk.box 1 (.A8 S.length 0 o.n)])=S2 at *;generalize S.length+1=b6 at *;generalize S.length=q at *;clear hfr e0 e4 eM l0 l4 lM S;have hv:=X9 (n:=131) (m:=0) (env:=[(6,.ptr b6 0),(4,.ptr b4 0),(1,.ptr 0 0)]) q q1 Nat.one_pos (λx hx=>by rw[Vp hx];rfl);rw[gS] at hv;have lq:=AG q1 rfl;have q3:A1 (S2.set q (.var 1 (List.replicate o.n .AA))) q=.var 1 (List.replicate o.n .AA):=BX lq;have g0:=(show A1 (S2.set q (.var 1 (List.replicate o.n .AA))) 0=_ from As hq0.1).trans h0;have g4:=(show A1 (S2.set q (.var 1 (List.replicate o.n .AA))) b4=_ from As hq0.2.1).trans h4;have gM:=(show A1 (S2.set q (.var 1 (List.replicate o.n .AA))) M=_ from As hq0.2.2.1).trans hM;have g6:=(show A1 (S2.set q (.var 1 (List.replicate o.n .AA))) b6=_ from As hq0.2.2.2).trans q2;refine AWp.Cj hv ?_;clear hv h0 h4 hM q1 q2;generalize S2.set q (.var 1 (List.replicate o.n .AA))=S3 at *;clear lq S2;have lq:=AG q3 rfl;refine AWp.Cj (eS q 1 o.n (Bq _) q3) ?_;have hI:LZ ((S3++List.replicate o.n (Blk.arr 1 [])).set q (.var 1 ((List.range o.n).map λi=>.A8 (S3.length+i) 0 0))) q o.n (o.D1 0) (λi=>S3.length+i):=by
  refine⟨BX Ap,λi hi=>?_,λi j _ _ e=>oo⟩;rw[As oo,CE,A7 oo,EB];simp[A1,hi,Cg.D1]
 have hf3:Fr S3 ((S3++List.replicate o.n (Blk.arr 1 [])).set q (.var 1 ((List.range o.n).map λi=>.A8 (S3.length+i) 0 0))) [q]:=((Fr.app S3 _).mono (λj hj=>RQ)).set _ A6;have h0:=hf3.at g0 rfl (by simpa using hq0.1.symm);have h4:=hf3.at g4 rfl (by simpa using hq0.2.1.symm);have hM:=hf3.at gM rfl (by simpa using hq0.2.2.1.symm);have h6:=hf3.at g6 rfl (by simpa using hq0.2.2.2.symm);generalize (λi=>S3.length+i)=A at *;generalize ((S3++List.replicate o.n (Blk.arr 1 [])).set q (.var 1 ((List.range o.n).map λi=>.A8 (S3.length+i) 0 0)))=S at *;clear hf3 g0 g4 gM g6 q3 lq S3;have l4:=AG h4 rfl;refine Hd ?_;simp only[zF,seval,h4,l4];refine Gg ?_;refine Fm (τ:=Nat×Sto×(Nat->Nat)) (λy=>[(31,(y.1:Int)),(30,(o.O.length:Int)),(29,.d (.sl (o.O.map AN.A5))),(6,.ptr b6 0),(4,.ptr b4 0),(1,.ptr 0 0)]) (λy=>y.2.1)
  (λy=>y.1<=o.O.length/\A1 y.2.1 b4=.box 3 (.agg [.AF M,.d (.sl (o.O.map AN.A5)),.d (.sl (H0 o))])/\A1 y.2.1 M=.map (some .i64) (dmK g)/\A1 y.2.1 b6=.box 1 (.A8 q 0 o.n)/\LZ y.2.1 q o.n (o.D1 y.1) y.2.2) (λy=>o.O.length-y.1) (0,S,A) ⟨Bq _,h4,hM,h6,hI⟩ (AU rfl) ?_
 clear h0 h4 hM h6 hI l4 S A;rintro⟨k,s,A⟩ ⟨hk,h4,hM,h6,hI⟩;simp only at hk h4 hM h6 hI;have l4:=AG h4 rfl;have lM:=AG hM rfl;have l6:=AG h6 rfl;refine Cf ?_;by_cases hh:k<o.O.length
 ·have hst:o.D1 (k+1)=updQ (o.D1 k) (o.c (o.O.getD k default).A0) (o.D1 k (o.c (o.O.getD k default).A0)++[(k:Int)]):=rfl;have hcn:=hK.cl k hh;have hfx:(dmK g (.i (o.O.getD k default).A0)).getD (.d (.int .i64 0))=.d (.int .i64 (o.c (o.O.getD k default).A0:Nat)):=by rw[Tu,hK.col]
  have hrl:=XF o k (o.c (o.O.getD k default).A0);generalize hW0:o.D1 k=W at *;generalize hxx:o.O.getD k default=x at *;generalize hcc:o.c x.A0=c at *;simp only[zF,seval,(oo:(k:Int)<o.O.length)];refine Jf ?_;simp only[zF,seval,(oo:(k:Int)<o.O.length),hh,Af _ _ _ (oo:k<o.O.length),hxx];refine Cf ?_;simp only[zF,seval,h4,l4,hM,lM,hfx];refine AWp.Cj (AU (show _=[(9,.d (.int .i64 (c:Int))),(7,.d (.int .i64 (k:Int))),(31,.d (.int .i64 (k:Int))),(30,.d (.int .i64 o.O.length)),(29,.d (.sl (o.O.map AN.A5))),(6,.ptr b6 0),(4,.ptr b4 0),(1,.ptr 0 0)] from rfl)) ?_;have hf1:Fr s (s++[Blk.box 10 (.d x.A5)]) []:=Fr.app _ _;have h4:=hf1.at h4 rfl A6;have hM:=hf1.at hM rfl A6;have h6:=hf1.at h6 rfl A6;have hI:=hI.ext hf1;generalize s++[Blk.box 10 (.d x.A5)]=s2 at *;clear hf1 l4 lM l6;have l6:=AG h6 rfl;have hqr:=hI.row;have hcl:=hI.cell c hcn;have h6q:b6≠q:=hq0.2.2.2.symm;have h6A:b6≠A c:=AX h6 hcl A6;have hqA:q≠A c:=AX hqr hcl A6;have hcj:((List.range o.n).map λi=>AV.A8 (A i) 0 (W i).length)[c]? = some (.A8 (A c) 0 (W c).length):=by simp[hcn]
  have hcd:((List.range o.n).map λi=>AV.A8 (A i) 0 (W i).length).getD c .undef=.A8 (A c) 0 (W c).length:=TM;have lcl:=AG hcl rfl;have hcl0:((List.range o.n).map λi=>AV.A8 (A i) 0 (W i).length).length=o.n:=A6;have hto:List.take (W c).length ((W c).map (D.int .i64))=(W c).map (.int .i64):=Bi A6;have hk24:=hK.sm;generalize hoo:W c=BD at *;generalize hcc:((List.range o.n).map λi=>AV.A8 (A i) 0 (W i).length)=cells at *;generalize hAA:A c=Ai at *;have lqr:=AG hqr rfl;refine NM rfl (NJ (Θ:=Nat)
   (λ_ L=>[(42,onV (L 0) (.A8 q 0 o.n)),(43,onV (L 1) (.d (.int .i64 (c:Int)))),(44,onV (L 2) (.A8 q 0 o.n)),(45,onV (L 3) (.d (.int .i64 (c:Int)))),(46,onV (L 4) (.Al q c 0)),(47,onV (L 5) (.A8 Ai 0 BD.length)),(48,onV (L 6) (.d (.int .i64 (k:Int)))),(49,onV (L 7) (.A8 s2.length 0 1)),(50,onV (L 8) (.A8 (s2.length+1) 0 (BD.length+1))),(51,onV (L 9) (.Al q c 0)),
    (9,.d (.int .i64 (c:Int))),(7,.d (.int .i64 (k:Int))),(31,.d (.int .i64 (k:Int))),(30,.d (.int .i64 o.O.length)),(29,.d (.sl (o.O.map AN.A5))),(6,.ptr b6 0),(4,.ptr b4 0),(1,.ptr 0 0)])
   (λ_ L=>apR s2 q Ai c cells BD (k:Int) (L 7) (L 8) (L 10))
   (λ_ L=>True) Ax ?_ ?_ ?_)
  ·exact Td
  ·simp only[KO];refine⟨?_,?_,?_,?_,?_,?_,?_,?_,?_,?_,?_,trivial⟩
   all_goals (rintro H L o1 hc hL hp;(try simp only[EM,Region.binds,frB] at hp);(try simp only[EU,Nat.reduceAdd] at hL);simp only[zF,seval,hL,hp,Ef,Er,D3,FG])
   all_goals have hbA:∀b5 b6' b8,A1 (apR s2 q Ai c cells BD (k:Int) b5 b6' b8) b6=_:=λb5 b6' b8=>(Wb h6 rfl h6q h6A)
   all_goals have hqA2:∀b5 b6',A1 (apR s2 q Ai c cells BD (k:Int) b5 b6' false) q=_:=λb5 b6'=>Mp hqr rfl hqA
   case refine_1=>
    exact RZ
   case refine_3=>
    exact RZ
   case refine_5=>
    have z10:L 10=false:=DO hL λhh=>Da (hc 10 _ rfl hh) 4 Ax;exact mG
   case refine_6=>
    have z10:L 10=false:=DO hL λhh=>Da (hc 10 _ rfl hh) 5 Ax;rw[z10];simp only[zF,seval,hqA2,hcl0,hcd,hcn];exact FO
   case refine_8=>
    have z10:L 10=false:=DO hL λhh=>Da (hc 10 _ rfl hh) 7 Ax;have z8:L 8=false:=DO hL λhh=>Da (hc 8 _ rfl hh) 7 Ax;rw[z10,z8];exact bC
   case refine_9=>
    have z10:L 10=false:=DO hL λhh=>Da (hc 10 _ rfl hh) 8 Ax;rw[z10];refine bg ?_;exact FO
   case refine_10=>
    have z10:L 10=false:=DO hL λhh=>Da (hc 10 _ rfl hh) 9 Ax;exact mG
   case refine_11=>
    have hq6:A1 (s2.set Ai .dead++[Blk.arr 1 [.int .i64 (k:Int)],Blk.arr 1 (BD.map (.int .i64)++[.int .i64 (k:Int)])]) q=.var 1 cells:=by rw[<-OK s2 q Ai c cells BD (k:Int) true];exact Mp hqr rfl hqA
    have lq6:=AG hq6 rfl;simp only[zF,seval,OK,Q_,hq6,lq6,hcl0,hcn,J3];exact FO
   all_goals exact⟨0,AU rfl⟩
  rintro H -;refine C0 ?_;have hfr:=ZH s2 q Ai c cells BD (k:Int) true true true;have h4A:b4≠Ai:=AX h4 hcl A6;have hMA:M≠Ai:=AX hM hcl A6;refine Hc ?_;refine⟨(k+1,_,updQ A c (s2.length+1)),⟨AQ,hfr.at h4 rfl ?_,hfr.at hM rfl ?_,hfr.at h6 rfl ?_,?_⟩,AQ,AU rfl⟩
  ·simp only[Bw,En,E6,FW];exact⟨hq0.2.1.symm,h4A⟩
  ·simp only[Bw,En,E6,FW];exact⟨hq0.2.2.1.symm,hMA⟩
  ·simp only[Bw,En,E6,FW];exact⟨h6q,h6A⟩
  rw[hst];refine hI.Ev (i:=c) hcn _ (by rw[hAA];exact hfr) oo ?_ ?_
  ·simp only;rw[hcc,BX Ap];simp
  simp only;rw[As oo,CE,A7 A6,BH,EB,CA];rfl
 have hke:k=o.O.length:=oo;subst hke;simp only[zF,seval,(oo:¬(o.O.length:Int)<o.O.length)];refine Cu ?_;obtain⟨S,hw,hSl,hSq,hSo⟩:=hI.data (n:=o.n) (m:=0) (N:=131) (env:=[(6,.ptr b6 0),(4,.ptr b4 0),(1,.ptr 0 0)]);refine AWp.Cj (AU (show _=[(6,.ptr b6 0),(4,.ptr b4 0),(1,.ptr 0 0)] from rfl)) ?_;refine AWp.Cj hw ?_;have g4:=(hSo b4 hq0.2.1.symm λi hi=>(AX h4 (hI.cell i hi) A6).symm).trans h4;have gM:=(hSo M hq0.2.2.1.symm λi hi=>(AX hM (hI.cell i hi) A6).symm).trans hM;have g6:=(hSo b6 hq0.2.2.2.symm λi hi=>(AX h6 (hI.cell i hi) A6).symm).trans h6;have hOI:Sk o g S b6 b4 q M (o.D1 o.O.length):=⟨g6,hSq,g4,gM⟩;clear hw hSl hSq hSo hI h4 hM h6 l4 lM l6 g4 gM g6 s;refine Pl ?_;have h4:=hOI.w4;have l4:=AG h4 rfl;refine Hd ?_;simp only[zF,seval,h4,l4];refine Gg ?_;have hWo:∀c,∀y∈o.D1 o.O.length c,0<=y/\y<o.O.length:=λc=>Ym o o.O.length c;refine Fm (τ:=Nat×Sto×Nat×(Nat->List Int)×List Int) (λy=>[(57,(y.1:Int)),(56,(o.O.length:Int)),(11,.A8 y.2.2.1 0 y.1),(10,.fn 34 [.ptr b6 0,.ptr b4 0]),(6,.ptr b6 0),(4,.ptr b4 0)]) (λy=>y.2.1)
  (λy=>y.1<=o.O.length/\Sk o g y.2.1 b6 b4 q M y.2.2.2.1/\o.run y.1=some (y.2.2.2.1,y.2.2.2.2)/\y.2.2.2.2.length=y.1/\A1 y.2.1 y.2.2.1=.arr 10 ((y.2.2.2.2.map o.at_).map AN.A5)/\∀c,∀z∈y.2.2.2.1 c,0<=z/\z<o.O.length) (λy=>o.O.length-y.1) (0,_,S.length,o.D1 o.O.length,[])
  ⟨Bq _,hOI.ext (Fr.app S [Blk.arr 10 []]),rfl,rfl,Cd,hWo⟩ ((Eb 11 10 rfl).trans (AU rfl)) ?_
 clear hWo h4 l4 hOI S hh hk;rintro⟨m,s,R,W,out⟩ ⟨hm,hI,hrun,hol,hR,hW⟩;simp only at hm hI hrun hol hR hW;refine Cf ?_;by_cases hml:m<o.O.length
 ·simp only[zF,seval,(oo:(m:Int)<o.O.length)];refine Cu ?_;refine Pq ?_;refine Cu ?_;have h6:=hI.w6;have l6:=AG h6 rfl;refine Hd ?_;simp only[zF,seval,h6,l6];refine Gg ?_;refine Fm (τ:=Nat) (λc=>[(61,(c:Int)),(60,(o.n:Int)),(59,.A8 q 0 o.n),(12,(o.CM W c:Int)),(57,(m:Int)),(56,(o.O.length:Int)),(11,.A8 R 0 m),(10,.fn 34 [.ptr b6 0,.ptr b4 0]),(6,.ptr b6 0),(4,.ptr b4 0)]) (λ_=>s)
   (λc=>c<=o.n) (λc=>o.n-c) 0 (Bq _) (AU rfl) ?_
  intro c hc;have hq:=hI.row;have h4:=hI.w4;have lq:=AG hq rfl;have l4:=AG h4 rfl;have hrl:=gL o.n W;have hn10:=hK.n10;refine Cf ?_;by_cases hcn:c<o.n
  ·have hrg:=UO W hcn;have hbs:o.CM W (c+1)=if(W c≠[]/\o.free W (hdI (W c)).toNat=true)/\(o.CM W c<0\/(o.at_ (hdI (W c))).lo<(o.at_ (hdI (W (o.CM W c).toNat))).lo) then(c:Int) else o.CM W c:=rfl;have hbo:=Ri o W c;simp only[zF,seval,(oo:(c:Int)<o.n)];refine Jf ?_;simp only[zF,seval,hq,lq,(oo:(c:Int)<o.n),hrl,hcn,hrg];refine Eu ?_;cases hw:W c with
   | nil=>
    rw[A7 (λhh=>hh.1.1 hw)] at hbs;simp only[zF,seval,E9,C6];refine⟨.inl Ax,?_⟩;refine S7 (v:=.d (.bool false)) (λhh=>by cases hh) ?_;refine C0 ?_;exact T_
   | cons y r=>
    obtain⟨x,rfl,hx⟩:∃x:Nat,y=(x:Int)/\x<o.O.length:=by
     exact nR
    have hlc:((List.length (((x:Nat):Int)::r):Nat):Int)=r.length+1:=A6;simp only[zF,seval,Ci,hlc,(oo:(0:Int)<(r.length:Int)+1),Vh];refine⟨.inl Ax,?_⟩;refine⟨oo,?_⟩;refine S7 (v:=.d (.bool (o.free W x))) (λ_ s' hs'=>?_) ?_
    ·have hM:=hI.Ad;refine AW.drop (Q5y o hK (g:=g) (q:=q) (M:=M) (W:=W) (by rw[hs'.box (by rw[h6];rfl)];exact h6) ?_ (by rw[hs'.box (by rw[h4];rfl)];exact h4) (by rw[hs'.map (by rw[hM];rfl)];exact hM) hW x hx);rcases hs'.2 q with e|e|e
     ·rw[hq] at e;cases e
     ·exact .inl (e.trans hq)
     rw[hq] at e;exact .inr e
    have hhd:hdI (W c)=x:=by rw[hw];rfl
    rw[hhd,Dw] at hbs;cases hfr:o.free W x with
    | false=>
     rw[A7 (λhh=>by rw[hfr] at hh;exact absurd hh.1.2 A6)] at hbs;refine C0 ?_;exact T_
    | true=>
     rcases hbo with hb|⟨b,hb1,hb2,hb3,hb4⟩
     ·rw[AD ⟨⟨by rw[hw];simp,hfr⟩,.inl (by rw[hb];decide)⟩] at hbs;simp only[zF,seval,hb];exact T_
     obtain⟨z0,r2,hwb⟩:∃z0 r2,W b=z0::r2:=by
      cases hwb:W b with
      | nil=>exact absurd hwb hb3
      | cons z0 r2=>exact⟨_,_,rfl⟩
     obtain⟨z,rfl,hz⟩:∃z:Nat,z0=(z:Int)/\z<o.O.length:=by
      exact nS
     have hbn:b<o.n:=oo;have hrb:=UO W hbn;rw[hwb] at hrb;have hlb:((List.length (((z:Nat):Int)::r2):Nat):Int)=r2.length+1:=A6;have hhb:hdI (W b)=z:=by rw[hwb];rfl
     have hbs:o.CM W (c+1)=if(o.O.getD x default).lo<(o.O.getD z default).lo then(c:Int) else b:=by
      rw[hbs,hb2];simp only[Dw,hhb,Cg.at_,hw,hfr];by_cases hlt:(o.O.getD x default).lo<(o.O.getD z default).lo
      ·rw[AD hlt,AD ⟨⟨A6,trivial⟩,.inr hlt⟩]
      rw[A7 hlt,A7 (λhh=>hlt (hh.2.resolve_left oo))]
     simp only[zF,seval,hb2,(oo:¬(b:Int)<0),h4,l4,h6,l6,hq,lq,hrl,(oo:(x:Int)<o.O.length),hx,Af _ _ _ (oo:x<o.O.length),(oo:(b:Int)<o.n),hbn,hrb,Ci,hlb,(oo:(0:Int)<(r2.length:Int)+1),(oo:(0:Int)<(r.length:Int)+1),hz,(oo:(z:Int)<o.O.length),Af _ _ _ (oo:z<o.O.length),Vh,Dw];refine⟨oo,oo,?_⟩;apply ifC.mk<;>intro hz2
     ·rw[AD (by simpa using hz2)] at hbs;exact T_
     rw[A7 (by simpa using hz2)] at hbs;exact T_
  have hce:c=o.n:=oo;subst hce;have hbo:=Ri o W o.n;have hrs:o.run (m+1)=if o.CM W o.n<0 then none else some (updQ W (o.CM W o.n).toNat (W (o.CM W o.n).toNat).tail,out++[hdI (W (o.CM W o.n).toNat)]):=by rw[Cg.run,hrun]
  simp only[zF,seval,(oo:¬(o.n:Int)<o.n)];refine Cu ?_;refine Cf ?_;rcases hbo with hb|⟨b,hbn,hb2,hb3,hb4⟩
  ·rw[hb,AD D7] at hrs;rw[hb];have hrn:o.run o.O.length=none:=fg hrs _ oo;rw[hF,hrn];refine C0 ?_;exact Lq
  rw[hb2,A7 oo,Dw] at hrs;rw[hb2];simp only[zF,seval,(oo:¬(b:Int)<0)];obtain⟨z0,r2,hwb⟩:∃z0 r2,W b=z0::r2:=by
   cases hwb:W b with
   | nil=>exact absurd hwb hb3
   | cons z0 r2=>exact⟨_,_,rfl⟩
  obtain⟨z,rfl,hz⟩:∃z:Nat,z0=(z:Int)/\z<o.O.length:=by
   exact nS
  have hrb:=UO W hbn;rw[hwb] at hrb hrs;have hlb:((List.length (((z:Nat):Int)::r2):Nat):Int)=r2.length+1:=A6;have hO24:=hK.sm;have lR:=AG hR rfl;have hM:=hI.Ad;have rq:R≠q:=AX hR hq A6;have r6:R≠b6:=AX hR h6 A6;have r4:R≠b4:=AX hR h4 A6;have rM:R≠M:=AX hR hM A6;have hol2:((out.map o.at_).map AN.A5).length=m:=RP;have hto:List.take m ((out.map o.at_).map AN.A5)=(out.map o.at_).map AN.A5:=Bi oo;have hfa:Fr s (s.set R .dead++[Blk.arr 10 [(o.O.getD z default).A5],Blk.arr 10 ((out.map o.at_).map AN.A5++[(o.O.getD z default).A5])]) [R]:=((Fr.refl s [R]).set _ A6).trans (Fr.app _ _) A6;refine Cu ?_;refine⟨.inl Ax,?_⟩;simp only[zF,seval,h4,l4,h6,l6,hq,lq,hrl,(oo:(b:Int)<o.n),hbn,hrb,Ci,hlb,(oo:(0:Int)<(r2.length:Int)+1),hz,(oo:(z:Int)<o.O.length),Af _ _ _ (oo:z<o.O.length),Vh,Dw,hR,lR,hto,(oo:(m+1)*104<=140737488355328),(oo:m<=4611686018427387903)];refine⟨oo,?_⟩;have g6:=hfa.at h6 rfl (by simpa using r6.symm);have g4:=hfa.at h4 rfl (by simpa using r4.symm);have gq:=hfa.at hq rfl (by simpa using rq.symm);have gM:=hfa.at hM rfl (by simpa using rM.symm);have gR:A1 (s.set R .dead++[Blk.arr 10 [(o.O.getD z default).A5],Blk.arr 10 ((out.map o.at_).map AN.A5++[(o.O.getD z default).A5])]) (s.length+1)=.arr 10 (((out++[(z:Int)]).map o.at_).map AN.A5):=by
   rw[CE,A7 A6,BH,EB,CA,CA];rfl
  have hRq:s.length+1≠q:=oo;generalize (s.set R .dead++[Blk.arr 10 [(o.O.getD z default).A5],Blk.arr 10 ((out.map o.at_).map AN.A5++[(o.O.getD z default).A5])])=S at *;generalize s.length+1=R2 at *;clear hfa h6 h4 hq hM hR l4 l6 lq lR rq r6 r4 rM hI;have l6:=AG g6 rfl;have lq:=AG gq rfl;refine Eu ?_;simp only[zF,seval,g6,l6];refine⟨.inl Ax,?_⟩;simp only[zF,seval,g6,l6,gq,lq,hrl,(oo:(b:Int)<o.n),hbn,hrb,Ci,List.drop_succ_cons,IZ];refine⟨⟨oo,oo⟩,?_⟩;have hdr:List.drop 1 (List.take ((r2.length:Int)+1).toNat (D.int IntKind.i64 (z:Int)::r2.map (D.int .i64)))=r2.map (D.int .i64):=by
   rw[show((r2.length:Int)+1).toNat=(r2.length+1) by omega,Bi A6];rfl
  rw[hdr,xK W hbn];rw[List.tail_cons] at hrs;refine Ta ?_;have hMq:M≠q:=hq0.2.2.1.symm;refine⟨(m+1,_,R2,updQ W b r2,out++[hdI ((z:Int)::r2)]),⟨AQ,⟨?_,BX lq,?_,?_⟩,hrs,RP,?_,λc y hy=>?_⟩,AQ,AU rfl⟩
  ·simp only;rw[As hq0.2.2.2];exact g6
  ·simp only;rw[As hq0.2.1];exact g4
  ·simp only;rw[As hq0.2.2.1];exact gM
  ·simp only;rw[As hRq.symm];exact gR
  simp only[updQ] at hy;split at hy
  ·exact hW b y (by rw[hwb];exact Cy _ hy)
  exact hW c y hy
 have hme:m=o.O.length:=oo;subst hme;simp only[zF,seval,(oo:¬(o.O.length:Int)<o.O.length)];refine Cu ?_;refine GV ?_;rw[hF,hrun];have hol2:((out.map o.at_).map AN.A5).length=o.O.length:=RP;refine⟨_,_,Ot (x:=D.sl ((out.map o.at_).map AN.A5)) (by simp[AV.Db,EH,hR,Blk.AY]) ?_,rfl,rfl⟩;show Cv s (.A8 R 0 o.O.length)=_;simp only[Cv,hR,Blk.xs,IZ,Bi (Nv hol2)]
end YtafpldmnkcegmaaGreat
end Go.Proofs

set_option maxRecDepth 100000
namespace Go.Proofs
open Go.AM Tryz
namespace YtafpldmnkcegmaaGreat
def Ms{e:EvT}(h:Fs e=0):(1<=e.kind/\e.kind<13)/\enF (FU e.kind) e=0/\((FU e.kind).n=true->(FU e.kind).least<=e.n/\e.n<=(FU e.kind).MI)/\((FU e.kind).m=true->(e.kind≠9\/e.n=2)->(FU e.kind).Fy<=e.m/\e.m<=(FU e.kind).HV):=by
 unfold Fs at h;split at h
 ·cases h
 split at h
 ·cases h
 rename_i hb;split at h
 ·exact Tc
 rename_i h1;split at h
 ·cases h
 rename_i h2;split at h
 ·cases h
 split at h
 ·cases h
 rename_i h3;unfold Qf at hb;generalize FU e.kind=f at *;simp only[Gc,CZ,FW,C5,not_and] at hb h2 h3;refine⟨oo,Cz,λhn=>by have:=h2 hn;omega,λhm hk=>?_⟩;by_cases hc:e.m<f.Fy\/f.HV<e.m
 ·have:=h3 ⟨hm,hc⟩;simp only[MU,ne_eq,GR] at this;exact absurd hk (λhk=>hk.elim this.1 this.2)
 omega
def Q9x{e:EvT}(h:Fs e=0):(FU e.kind).stack=false->e.stack.length=0:=by
 unfold Fs at h;split at h
 ·cases h
 split at h
 ·cases h
 rename_i hb;unfold Qf at hb;intro hs;rw[hs] at hb;simp only[Gc,CZ,FW,C5,not_and] at hb;have:=hb.2 rfl;omega
def Q6j{e:EvT}(h:Fs e=0):e.stack.length<=32:=by
 have h1:=Q9x h;obtain⟨hk,h2,_⟩:=Ms h;unfold enF at h2;have hf:(FU e.kind).stack=true->(FU e.kind).name=false:=by
  have:e.kind=1\/e.kind=2\/e.kind=3\/e.kind=4\/e.kind=5\/e.kind=6\/e.kind=7\/e.kind=8\/e.kind=9\/e.kind=10\/e.kind=11\/e.kind=12:=oo;rcases this with e1|e1|e1|e1|e1|e1|e1|e1|e1|e1|e1|e1<;>rw[e1]<;>decide
 cases hs:(FU e.kind).stack with
 | false=>have:=h1 hs;omega
 | true=>
  rw[hf hs,A7 A6] at h2;unfold FI at h2;split at h2
  ·cases h2
  omega
def pW{e:EvT}(h:Fs e=0)(hk:e.kind=1):FE e.name=0:=by have:=(Ms h).2.1;rw[hk] at this;exact this
def pX{e:EvT}(h:Fs e=0)(hk:e.kind=4):FE e.name=0/\-1000000000000000<=e.n/\e.n<=1000000000000000:=by
 have:=(Ms h).2;rw[hk] at this;exact⟨this.1,this.2.1 rfl⟩
def pY{e:EvT}(h:Fs e=0)(hk:e.kind=5):FI e.stack=0/\1<=e.n/\e.n<=1000000000000:=by
 have:=(Ms h).2;rw[hk] at this;exact⟨this.1,this.2.1 rfl⟩
def pZ{e:EvT}(h:Fs e=0)(hk:e.kind=8):0<=e.n/\e.n<=63:=by
 have:=(Ms h).2;rw[hk] at this;exact this.2.1 rfl
def p_{e:EvT}(h:Fs e=0)(hk:e.kind=9):(0<=e.n/\e.n<=3)/\(e.n=2->0<=e.m/\e.m<=1000000000000000):=by
 have:=(Ms h).2;rw[hk] at this;exact⟨this.2.1 rfl,λhn=>this.2.2 rfl (.inr hn)⟩
def Q9y{e:EvT}(h:Fs e=0)(hk:e.kind=11):FI e.stack=0/\(0<=e.n/\e.n<=1000000000000000)/\1<=e.m/\e.m<=1000000000000:=by
 have:=(Ms h).2;rw[hk] at this;exact⟨this.1,this.2.1 rfl,this.2.2 rfl (.inl D7)⟩
structure ChG(c:ChT):Prop where
 st:0<=c.state/\c.state<=5
 G0:(c.state=4/\0<=c.G0/\c.G0<64)\/(c.state≠4/\c.G0=-1)
 Fw:(c.state=2/\0<=c.Fw/\c.Fw<=1000000000000000)\/(c.state≠2/\c.Fw=-1)
def cH(a c:ChT):Prop:=c.CD=-1\/((a.state=1\/a.state=2)/\0<=c.CD/\c.CD<=1000000000000000)
structure JK(T:Int)(ch:List ChT):Prop where
 ne:0<ch.length
 hd:(ch.getD 0 default).at_=0
 Gx:ch.Pairwise λa b=>a.at_<=b.at_
 bd:∀c∈ch,(0<=c.at_/\c.at_<=T)/\ChG c
 CD:∀k,k+1<ch.length->cH (ch.getD k default) (ch.getD (k+1) default)
def JK.mono{T T':Int}{ch:List ChT}(h:JK T ch)(hT:T<=T'):JK T' ch:=⟨h.ne,h.hd,h.Gx,λc hc=>by have:=h.bd c hc;exact⟨oo,this.2⟩,h.CD⟩
def JK.snoc{T T':Int}{ch:List ChT}(h:JK T ch){c:ChT}(h1:T<=c.at_)(h2:c.at_<=T')(hg:ChG c)(hb:cH (ch.getD (ch.length-1) default) c):JK T' (ch++[c]):=by
 have hne:=h.ne;have h0:=(h.bd _ (Ba hne)).1;have hgo:∀k,k<ch.length->(ch++[c]).getD k default=ch.getD k default:=λk hk=>by simp[Ec hk]
 have hgn:(ch++[c]).getD ch.length default=c:=A6;refine⟨A6,by rw[hgo 0 hne];exact h.hd,JZ.2 ⟨h.Gx,PW _ _,λa ha b hb=>?_⟩,λx hx=>?_,λk hk=>?_⟩
 ·rw[CG.1 hb];have:=h.bd a ha;omega
 ·rcases CH.1 hx with hx|hx
  ·have:=h.bd x hx;exact⟨oo,this.2⟩
  rw[CG.1 hx];exact⟨oo,hg⟩
 rw[Bb,Hx] at hk;by_cases e:k+1=ch.length
 ·rw[hgo k oo,e,hgn];rw[show ch.length-1=k by omega] at hb;exact hb
 rw[hgo k oo,hgo (k+1) oo];exact h.CD k oo
def JK.take{T:Int}{ch:List ChT}(h:JK T ch){n:Nat}(hn:0<n){l:Int}(hl:n=1\/(ch.getD (n-1) default).at_<=l)(h0:0<=l)(hn2:n<=ch.length):JK l (ch.take n):=by
 have hlen:(ch.take n).length=n:=Pf;have hg:∀k,k<n->(ch.take n).getD k default=ch.getD k default:=λk hk=>by simp[Pa,hk]
 refine⟨oo,by rw[hg 0 hn];exact h.hd,h.Gx.sublist (List.take_sublist ..),λc hc=>?_,λk hk=>?_⟩
 ·have hb:=h.bd c (GS hc);refine⟨⟨hb.1.1,?_⟩,hb.2⟩;obtain⟨k,hk,e⟩:=Gd hc;have e2:ch.getD k default=c:=by rw[<-hg k oo,B5,BP hk];exact e
  have hle:c.at_<=(ch.getD (n-1) default).at_:=by
   by_cases ek:k=n-1
   ·rw[<-ek,e2];exact EP _
   have:=Hv.1 h.Gx k (n-1) oo oo oo;rw[<-e2];simpa[BP (oo:k<ch.length),BP (oo:n-1<ch.length)] using this
  rcases hl with rfl|hl
  ·have:=h.hd;rw[show(1:Nat)-1=0 from rfl,this] at hle;omega
  omega
 rw[hlen] at hk;rw[hg k oo,hg (k+1) oo];exact h.CD k oo
def zQ(l:Int)(ch:List ChT)(h0:0<ch.length):∃n,0<n/\n<=ch.length/\Gy l ch=ch.take n/\(n=1\/(ch.getD (n-1) default).at_<=l):=by
 induction hn:ch.length using Nat.strongRecOn generalizing ch with
 | _ m ih=>
  rw[Gy];split
  ·rename_i hc;obtain⟨n,h1,h2,h3,h4⟩:=ih (m-1) oo ch.dropLast Ap (by simp[hn]);have hdl:ch.dropLast=ch.take (ch.length-1):=aR;refine⟨n,h1,oo,?_,h4.imp id λh4=>?_⟩
   ·rw[h3,hdl,Vl,Nat.min_eq_left oo]
   rw[hdl] at h4;rw[B5,Pa,AD oo] at h4;exact h4
  rename_i hc;refine⟨ch.length,h0,oo,by rw[BL],?_⟩;by_cases e:ch.length=1
  ·exact .inl e
  right;apply VX.1;intro hlt;exact hc ⟨oo,hlt⟩
def kf(a b:Int){s:Int}(h:s=0\/s=5):ChG ⟨a,s,-1,-1,b⟩:=⟨AQ,.inr ⟨AQ,rfl⟩,.inr ⟨AQ,rfl⟩⟩
structure Ox(T:Int)(t:Ck):Prop where
 ch:JK T t.ch
 last:0<=t.last/\t.last<=T
def Q6k{T:Int}{t:Ck}(h:Ox T t){x:AN}(hT:T<=Am x.lo)(he:Fs x.ev=0):Ox (Am x.lo) (evS t x):=by
 have h0:=h.last;have key:∃ch,JK T ch/\(if x.AB=t.next then t.ch else Gy t.last t.ch++[⟨t.last,5,-1,-1,-1⟩])=ch:=by
  refine⟨_,?_,rfl⟩;split
  ·exact h.ch
  obtain⟨n,h1,h2,h3,h4⟩:=zQ t.last t.ch h.ch.ne;rw[h3];exact(h.ch.take h1 h4 h0.1 h2).snoc (c:=⟨t.last,5,-1,-1,-1⟩) (EP _) h0.2 (kf _ _ (.inr rfl)) (.inl rfl)
 obtain⟨ch,hc,e⟩:=key;unfold evS;simp only;rw[e];refine⟨?_,AQ⟩;simp only;split
 ·rename_i k8;have:=pZ he k8;exact hc.snoc hT (EP _) ⟨A6,.inl ⟨rfl,this.1,AQ⟩,.inr ⟨A6,rfl⟩⟩ (.inl rfl)
 split
 ·rename_i k9;have:=p_ he k9;refine hc.snoc hT (EP _) ⟨AQ,.inr ⟨AQ,rfl⟩,?_⟩ (.inl rfl);simp only;by_cases h2:x.ev.n=2
  ·rw[AD h2];exact .inl ⟨h2,this.2 h2⟩
  rw[A7 h2];exact .inr ⟨h2,rfl⟩
 exact hc.mono hT
def Q16{T:Int}{t:Ck}(h:Ox T t){a b:Int}(hT:T<=a)(hb:0<=b/\b<=1000000000000000):Ox a (wkS t a b):=by
 have h0:=h.last;unfold wkS;split
 ·rename_i hs;exact⟨h.ch.snoc hT (EP _) (kf _ _ (.inl rfl)) (.inr ⟨hs,hb⟩),AQ⟩
 exact⟨h.ch.mono hT,oo⟩
def Qg(T:Int)(tr:Int->Option Ck):Prop:=∀k t,tr k=some t->Ox T t
def xT{T:Int}{tr:Int->Option Ck}(h:Qg T tr){x:AN}(hT:T<=Am x.lo)(he:Fs x.ev=0)(hb:0<=x.A0/\x.A0<=1000000000000000):Qg (Am x.lo) (wkR (evR tr x) x):=by
 have mono:∀{T T':Int} {t:Ck},Ox T t->T<=T'->Ox T' t:=λh hT=>⟨h.ch.mono hT,by have:=h.last;omega⟩;have h1:Qg (Am x.lo) (evR tr x):=λk t hk=>by
  unfold evR at hk;cases ht:tr x.A0 with
  | none=>rw[ht] at hk;exact mono (h k t hk) hT
  | some t0=>
   rw[ht] at hk;simp only[Ae] at hk;split at hk
   ·cases hk;exact Q6k (h _ _ ht) hT he
   exact mono (h k t hk) hT
 intro k t hk;unfold wkR at hk;split at hk
 ·cases ht:evR tr x x.ev.n with
  | none=>rw[ht] at hk;exact h1 k t hk
  | some t0=>
   rw[ht] at hk;simp only[Ae] at hk;split at hk
   ·cases hk;exact Q16 (h1 _ _ ht) (EP _) hb
   exact h1 k t hk
 exact h1 k t hk
def uo{o:List AN}:∀(T:Int) (tr:Int->Option Ck),Qg T tr->(∀x∈o,T<=Am x.lo)->(o.Pairwise λa b=>Am a.lo<=Am b.lo)->(∀x∈o,Fs x.ev=0/\0<=x.A0/\x.A0<=1000000000000000)->∃T',(T'=T\/∃x∈o,T'=Am x.lo)/\Qg T' (o.foldl (λtr x=>wkR (evR tr x) x) tr):=by
 induction o with
 | nil=>intro T tr h _ _ _;exact⟨T,.inl rfl,h⟩
 | cons x r ih=>
  intro T tr h hT hp hx;have hx0:=hx x DE;obtain⟨T',a,b⟩:=ih (Am x.lo) _ (xT h (hT x DE) hx0.1 hx0.2) (IV.1 hp).1 (IV.1 hp).2 λy hy=>hx y (Cy _ hy);refine⟨T',.inr ?_,b⟩;rcases a with a|⟨y,hy,a⟩
  ·exact⟨x,DE,a⟩
  exact⟨y,Cy _ hy,a⟩
def po(ids:List Int):Qg 0 (tr0 ids):=λk t h=>by
 unfold tr0 at h;split at h
 ·cases h;refine⟨⟨D7,rfl,PW _ _,λc hc=>?_,λk hk=>?_⟩,D7⟩
  ·rw[CG.1 hc];exact⟨D7,D7,.inr ⟨D7,rfl⟩,.inr ⟨D7,rfl⟩⟩
  simp[t0S] at hk
 cases h

structure StC(th E b:Int)(R:List BQ):Prop where
 el:∀x∈R,x.A0=th/\0<=x.lo/\x.lo<x.hi/\x.hi<=E/\IH x=true
 nil_:R=[]->b=0
 hd:0<R.length->(R.getD 0 default).lo=0
 ls:0<R.length->(R.getD (R.length-1) default).hi=b
 adj:∀j,j+1<R.length->(R.getD (j+1) default).lo=(R.getD j default).hi/\KN (R.getD (j+1) default) (R.getD j default)=false
def Xh(a b:BQ):KN a b=true↔a.state=b.state/\a.G0=b.G0/\a.Fw=b.Fw:=by
 simp only[KN,C5,GR,PR]
def v8{a b:BQ}(h:¬KN a b=true):KN b a=false:=by
 rw[F_];intro h2;rw[Xh] at h h2;exact h ⟨h2.1.symm,h2.2.1.symm,h2.2.2.symm⟩
def pg{l:List BQ}{i j:Nat}{x:BQ}(h:i<l.length):(l.set i x).getD j default=if j=i then x else l.getD j default:=by
 exact c9
def Q1f{th E b:Int}{R:List BQ}(h:StC th E b R){x:BQ}(h1:x.A0=th)(h2:x.lo=b)(h0:0<=b)(h3:x.lo<x.hi)(h4:x.hi<=E)(h5:IH x=true):StC th E x.hi (JL R x)/\JL R x≠[]:=by
 unfold JL;split
 ·rename_i hc;have hn:0<R.length:=aE hc.1;have hl:=h.ls hn;have he:=h.el _ (Ba (oo:R.length-1<R.length));have hs:=(Xh _ _).1 hc.2;generalize hy:R.getD (R.length-1) default=y at *;have hlen:(R.set (R.length-1) {y with hi:=x.hi,CD:=x.CD}).length=R.length:=BH ..;have hg:∀j,(R.set (R.length-1) {y with hi:=x.hi,CD:=x.CD}).getD j default=if j=R.length-1 then {y with hi:=x.hi,CD:=x.CD} else R.getD j default:=λj=>pg oo;have hf:IH {y with hi:=x.hi,CD:=x.CD}=true:=by
   have:IH {y with hi:=x.hi,CD:=x.CD}=IH x:=by unfold IH;simp only[hs.1,hs.2.1,hs.2.2]
   rw[this];exact h5
  refine⟨⟨λz hz=>?_,λhh=>?_,λ_=>?_,λ_=>?_,λj hj=>?_⟩,λhh=>?_⟩
  ·rcases MZ hz with hz|rfl
   ·exact h.el z hz
   exact⟨he.1,he.2.1,AQ,h4,hf⟩
  ·rw[hh] at hlen;simp at hlen;omega
  ·rw[hg];split
   ·rename_i e;have:=h.hd hn;rw[e,hy] at this;exact this
   exact h.hd hn
  ·rw[hlen,hg,AD rfl]
  ·rw[hlen] at hj;have ha:=h.adj j hj;rw[hg,hg,A7 (oo:¬j=R.length-1)];split
   ·rename_i e;rw[e,hy] at ha;exact⟨ha.1,by rw[F_] at ha ⊢;rw[ne_eq,Xh] at *;exact ha.2⟩
   exact ha
  rw[hh] at hlen;simp at hlen;omega
 rename_i hc;have hgo:∀j,j<R.length->(R++[x]).getD j default=R.getD j default:=λj hj=>RO;have hgn:(R++[x]).getD R.length default=x:=A6;have hlen:(R++[x]).length=R.length+1:=A6;refine⟨⟨λz hz=>?_,λhh=>by simp at hh,λ_=>?_,λ_=>?_,λj hj=>?_⟩,A6⟩
 ·rcases CH.1 hz with hz|hz
  ·exact h.el z hz
  rw[CG.1 hz];exact⟨h1,oo,h3,h4,h5⟩
 ·by_cases hn:0<R.length
  ·rw[hgo 0 hn];exact h.hd hn
  have:R=[]:=G3 oo;rw[this];show x.lo=0;rw[h2];exact h.nil_ this
 ·rw[hlen,O0,hgn]
 rw[hlen] at hj;by_cases e:j+1=R.length
 ·have hn:0<R.length:=oo;have hl:=h.ls hn;rw[show R.length-1=j by omega] at hl hc;rw[hgo j oo,e,hgn];exact⟨by rw[h2,hl],v8 λhh=>hc ⟨oo,hh⟩⟩
 rw[hgo j oo,hgo (j+1) oo];exact h.adj j oo
def yc{c:ChT}(hg:ChG c){b:Int}(hb:b=-1\/((c.state=1\/c.state=2)/\0<=b/\b<=1000000000000000))(th lo hi:Int):IH ⟨th,c.state,lo,hi,c.G0,c.Fw,b⟩=true:=by
 obtain⟨h1,h2,h3⟩:=hg;unfold IH;simp only[C5,Gc,CZ,GR];refine⟨⟨⟨h1,?_⟩,?_⟩,?_⟩
 ·rcases h2 with h2|h2
  ·rw[AD h2.1];simp;omega
  rw[A7 h2.1];simp[h2.2]
 ·rcases h3 with h3|h3
  ·rw[AD h3.1];simp;omega
  rw[A7 h3.1];simp[h3.2]
 rcases hb with hb|hb
 ·exact .inl hb
 exact .inr ⟨⟨hb.1,hb.2.1⟩,hb.2.2⟩
def bkC(ch:List ChT)(E:Int)(k:Nat):Int:=if k<ch.length then(ch.getD k default).at_ else E
def j5{T E:Int}{ch:List ChT}(h:JK T ch)(hT:T<E)(th:Int):∀k,k<=ch.length->StC th E (bkC ch E k) (FR th E ch k)
 | 0,_=>by
  refine⟨λx hx=>Jd,λ_=>?_,λhh=>absurd hh (F9 _),λhh=>absurd hh (F9 _),λj hj=>absurd hj (F9 _)⟩;unfold bkC;rw[AD h.ne];exact h.hd
 | k+1,hk=>by
  have ih:=j5 h hT th k oo;have hb:=h.bd _ (Ba (oo:k<ch.length));have hbk:bkC ch E k=(ch.getD k default).at_:=AD oo;have hlo:(Fg th E ch k).lo=(ch.getD k default).at_:=rfl;have hhi:(Fg th E ch k).hi=bkC ch E (k+1):=rfl;have hle:(ch.getD k default).at_<=bkC ch E (k+1)/\bkC ch E (k+1)<=E:=by
   unfold bkC;split
   ·rename_i h1;have:=Hv.1 h.Gx k (k+1) oo h1 oo;have h2:=h.bd _ (Ba h1);refine⟨?_,oo⟩;simpa[BP h1,BP (oo:k<ch.length)] using this
   omega
  unfold FR;split
  ·rename_i hc;rw[hhi,hlo] at hc;rw[show bkC ch E (k+1)=bkC ch E k by omega];exact ih
  rename_i hc;have hx:IH (Fg th E ch k)=true:=by
   refine yc hb.2 ?_ _ _ _;split
   ·rename_i h1;exact h.CD k h1
   exact .inl rfl
  exact(Q1f ih (x:=Fg th E ch k) rfl (by rw[hlo,hbk]) oo oo (by rw[hhi];exact hle.2) hx).1
def uj{T E:Int}{ch:List ChT}(h:JK T ch)(h0:0<=T)(hT:T<E)(th:Int):StC th E E (FR th E ch ch.length)/\0<(FR th E ch ch.length).length:=by
 have:=j5 h hT th ch.length (AR _);rw[show bkC ch E ch.length=E from A7 oo] at this;refine⟨this,aE λhh=>?_⟩;have:=this.nil_ (G3 hh);omega
def EI(g:Int->List BQ)(ids:List Int)(m:Nat):Nat:=((ids.take m).flatMap g).length
def Wy(g:Int->List BQ)(ids:List Int)(m:Nat)(h:m<ids.length):EI g ids (m+1)=EI g ids m+(g (ids.getD m default)).length:=by
 unfold EI;rw[CY ids m h,Kr,Bb];simp
def Tw(g:Int->List BQ)(ids:List Int){m j:Nat}(hm:m<ids.length)(hj:j<(g (ids.getD m default)).length):EI g ids m+j<(ids.flatMap g).length/\(ids.flatMap g).getD (EI g ids m+j) default=(g (ids.getD m default)).getD j default:=by
 have hsp:ids.flatMap g=(ids.take m).flatMap g++(g (ids.getD m default)++(ids.drop (m+1)).flatMap g):=by
  conv=>lhs;rw[<-Lf m ids,aW hm]
  rw[Kr,IU];simp[hm]
 refine⟨?_,?_⟩
 ·rw[hsp,Bb,Bb];unfold EI;omega
 rw[hsp,B5,G2 (by unfold EI;omega),show EI g ids m+j-((ids.take m).flatMap g).length=j by unfold EI;omega,Ec hj];rfl
def fW(g:Int->List BQ)(ids:List Int):∀M,M<=ids.length->∀k,k<EI g ids M->∃m j,m<M/\j<(g (ids.getD m default)).length/\k=EI g ids m+j
 | 0,_,k,hk=>by simp[EI] at hk
 | M+1,hM,k,hk=>by
  rw[Wy g ids M oo] at hk;by_cases h:k<EI g ids M
  ·obtain⟨m,j,h1,h2,h3⟩:=fW g ids M oo k h;exact⟨m,j,oo,h2,h3⟩
  exact⟨M,k-EI g ids M,oo,oo,oo⟩
def SP{ids:List Int}(h:ids.Nodup){m:Nat}(hm:m<ids.length):Kk ids (ids.getD m default)=m:=by
 unfold Kk;refine QP hm ?_ A6;rw[R7];intro x hx;obtain⟨i,hi,e⟩:=Vq.1 hx;have:=Hv.1 h i m oo hm oo;rw[<-e,B5,BP hm,EA];simpa using λe=>this e.symm
def zx{A9:List An}{E:Int}{g:Int->List BQ}(hE:E<=1000000000000)(hnd:(D4 A9).Nodup)(hg:∀id∈D4 A9,StC id E E (g id)/\0<(g id).length):M3 A9 ((D4 A9).flatMap g)=0:=by
 unfold M3;generalize D4 A9=ids at *;have hgm:∀m,m<ids.length->StC (ids.getD m default) E E (g (ids.getD m default))/\0<(g (ids.getD m default)).length:=λm hm=>hg _ (Ba hm);have hoff:EI g ids ids.length=(ids.flatMap g).length:=by unfold EI;rw[BL]
 have hpos:∀k,k<(ids.flatMap g).length->∃m j,m<ids.length/\j<(g (ids.getD m default)).length/\k=EI g ids m+j:=λk hk=>fW g ids ids.length (AR _) k oo;have hat:=λ{m j:Nat} (hm:m<ids.length) hj=>Tw g ids (m:=m) (j:=j) hm hj;have hth:∀{m j:Nat},m<ids.length->j<(g (ids.getD m default)).length->((g (ids.getD m default)).getD j default).A0=ids.getD m default:=λhm hj=>((hgm _ hm).1.el _ (Ba hj)).1;have hlast:∀m,m+1<=ids.length->EI g ids (m+1)-1=EI g ids m+((g (ids.getD m default)).length-1):=λm hm=>by
  have:=(hgm m oo).2;rw[Wy g ids m oo];omega
 generalize hL:ids.flatMap g=L at *;have hend:0<L.length->(L.getD (L.length-1) default).hi=E/\(L.getD (L.length-1) default).A0=ids.getD (ids.length-1) default/\0<ids.length:=λh0=>by
  have hi0:0<ids.length:=aE λe=>by
   rw[e] at hoff;simp[EI] at hoff;omega
  have h1:=hgm (ids.length-1) oo;have h2:=hlast (ids.length-1) oo;rw[show ids.length-1+1=ids.length by omega,hoff] at h2;rw[h2,(hat oo oo).2];exact⟨h1.1.ls h1.2,hth oo oo,hi0⟩
 rw[show Bh (uAt ids L) L.length=0 from Om λk hk=>?_,A7 A6]
 ·split
  ·rfl
  rename_i h0;obtain⟨e1,e2,e3⟩:=hend oo;rw[A7,AD]
  ·obtain⟨n,hn⟩:∃n,L.length=n+1:=⟨L.length-1,oo⟩;rw[hn];rw[hn,O0] at e2;show Kk ids (L.getD n default).A0+1=_;rw[e2,SP hnd oo];omega
  rw[aA];refine EW.2 λk hk=>?_;obtain⟨m,j,hm,hj,rfl⟩:=hpos k (CI.1 hk);unfold NZ;rw[K8,F_];simp only[ne_eq,C5,Gc,GR,MU];rintro⟨h1,h2⟩;rw[(hat hm hj).2,e1] at h2;by_cases hj2:j+1<(g (ids.getD m default)).length
  ·have h3:=hat hm hj2;rcases h1 with h1|h1
   ·have:=h3.1;omega
   rw[show EI g ids m+j+1=EI g ids m+(j+1) by omega,h3.2,(hat hm hj).2,hth hm hj2,hth hm hj] at h1;exact h1 rfl
  apply h2;have:=(hgm m hm).1.ls (hgm m hm).2;rw[show(g (ids.getD m default)).length-1=j by omega] at this;exact this
 obtain⟨m,j,hm,hj,rfl⟩:=hpos k hk;have hL2:=(hat hm hj).2;have hx:=(hgm m hm).1.el _ (Ba hj);unfold uAt;rw[hL2,hth hm hj,SP hnd hm,A7 oo,A7,A7 (by rw[hx.2.2.2.2];simp),A7]
 ·rw[V_];unfold P9;simp only;rw[hL2,hth hm hj,SP hnd hm];by_cases hj0:0<j
  ·have ha:=(hgm m hm).1.adj (j-1) oo;rw[show j-1+1=j by omega] at ha;have h3:=hat hm (oo:j-1<_);have hk1:EI g ids m+j-1=EI g ids m+(j-1):=oo;have hatU:atU ids L (EI g ids m+j)=m:=by
    rw[show EI g ids m+j=EI g ids m+(j-1)+1 by omega];show Kk ids (L.getD (EI g ids m+(j-1)) default).A0=_;rw[h3.2,hth hm oo,SP hnd hm]
   rw[hatU,hk1,h3.2,ha.1,ha.2];simp
  have hj1:j=0:=oo;subst hj1;have hlo:=(hgm m hm).1.hd (hgm m hm).2;rw[hlo];have hatU:atU ids L (EI g ids m+0)=(m:Int)-1:=by
   cases m with
   | zero=>rfl
   | succ m=>
    have h4:=hlast m oo;have h5:=(hgm m oo).2;have h6:EI g ids (m+1)+0=(EI g ids m+((g (ids.getD m default)).length-1))+1:=by
     rw[Wy g ids m oo];omega
    rw[h6];show Kk ids (L.getD (EI g ids m+((g (ids.getD m default)).length-1)) default).A0=_;rw[(hat oo oo).2,hth oo oo,SP hnd oo];omega
  rw[hatU];have e1:((m:Int)==(m:Int)-1)=false:=Ap;have e2:((m:Int) !=(m:Int)-1+1)=false:=A6;rw[e1,e2];simp
 rw[aA];simp only[Gp,C5,CZ];omega

structure EvO(A9:List An)(o:List AN):Prop where
 Gx:o.Pairwise λa b=>Am a.lo<=Am b.lo
 len:o.length<=24
 Ed:∀x∈o,0<=x.AB/\x.AB<1000000000000000
 tr:∀x∈o,0<=x.A0/\x.A0<=1000000000000000
 th:∀x∈o,CV A9 x.A0=true
 ev:∀x∈o,Fs x.ev=0
 stk:∀x∈o,x.ev.stack.length<1000000
def pwD{α:Type}[Inhabited α]{R:α->α->Prop}{l:List α}(h:l.Pairwise R){i j:Nat}(hij:i<j)(hj:j<l.length):R (l.getD i default) (l.getD j default):=by
 exact oe
def Rv{α:Type}{has:Int->Bool}{g:α->Int}{l:List α}(h:∀x∈l,has (g x)=true):Dt 0 has g l=0:=by
 unfold Dt;rw[A7 A6,AD (EW.2 h)]
def Qbs{A9:List An}{o:List AN}(h:EvO A9 o):M8 (smF o)=0/\∀x∈smF o,CV A9 x.A0=true/\(0<=x.at_/\x.at_<=1000000000000)/\∃y∈o,x.at_=Am y.lo:=by
 have hm:∀s∈smF o,∃x∈o,x.ev.kind=5/\s=⟨x.A0,Am x.lo,x.ev.n,x.ev.stack⟩:=λs hs=>by
  obtain⟨x,hx,rfl⟩:=C4.1 hs;obtain⟨h1,h2⟩:=GP.1 hx;exact⟨x,h1,DN,rfl⟩
 have hp:(smF o).Pairwise λa b=>a.at_<=b.at_:=by
  unfold smF;rw[O8];exact(h.Gx.sublist aX)
 refine⟨Om λk hk=>?_,λs hs=>?_⟩
 ·obtain⟨x,hx,h5,e⟩:=hm _ (Ba hk);have he:=pY (h.ev x hx) h5;have ht:=h.tr x hx;have h0:=Iq x.lo;have h1:=MB x.lo;have hg:Mu ((smF o).getD k default)=true:=by
   rw[e];simp only[Mu,C5,CZ];omega
  unfold LQ;rw[A7 (by rw[hg];simp),A7 (by rw[e,he.1];simp),A7];simp only[C5,CZ];rintro⟨k0,hlt⟩;have:=pwD hp (oo:k-1<k) hk;omega
 obtain⟨x,hx,h5,rfl⟩:=hm s hs;exact⟨h.th x hx,⟨Iq _,MB _⟩,x,hx,rfl⟩
def iA{A9:List An}{o:List AN}(h:EvO A9 o):∀k,k<=o.length->∀x∈(loF (o.take k)).2,KQ (CV A9) x=0/\0<=x.lo/\x.lo<x.hi/\x.hi<=1000000000000
 | 0,_,x,hx=>Jd
 | k+1,hk,x,hx=>by
  rw[Wo o k hk] at hx;have hok:=(V0 o (λx hx=>by have:=h.Ed x hx;omega) k oo).2;have ih:=iA h k oo;have hm:=Ba (oo:k<o.length);generalize loF (o.take k)=g at *;generalize o.getD k default=y at *;simp only[loS] at hx;split at hx
  ·rename_i hlt;rcases CH.1 hx with hx|hx
   ·exact ih x hx
   rw[CG.1 hx];have hb:=hok y.A0;have hs:=h.Ed y hm;have c0:=Iq y.lo;have c1:=MB y.lo;have hmf:0<=(L5 (bfS g.1 y.A0).2 (Am y.lo)).1/\(L5 (bfS g.1 y.A0).2 (Am y.lo)).1<(L5 (bfS g.1 y.A0).2 (Am y.lo)).2/\(L5 (bfS g.1 y.A0).2 (Am y.lo)).2<=1000000000000:=by
    unfold L5;split
    ·exact Ky
    split
    ·exact Ky
    exact Ky
   refine⟨?_,hmf⟩;unfold KQ;rw[A7 (by rw[h.th y hm];simp),A7];exact oA
  exact ih x hx
structure FlI(A9:List An)(o:List AN)(k:Nat)(g:(Int->Option AN)×List Cb):Prop where
 Ad:∀n t,g.1 n=some t->t∈o.take k
 el:∀f∈g.2,Q6 f=false/\f.send<=f.recv/\CV A9 f.ft=true/\CV A9 f.tt=true/\(0<=f.send/\f.send<=1000000000000/\0<=f.recv/\f.recv<=1000000000000)/\∃x∈o.take k,f.recv=Am x.lo
 Gx:g.2.Pairwise λa b=>a.recv<=b.recv
def gf{A9:List An}{o:List AN}(h:EvO A9 o):∀k,k<=o.length->FlI A9 o k (flF (o.take k))
 | 0,_=>⟨λn t ht=>(by cases ht),λf hf=>(by cases hf),.nil⟩
 | k+1,hk=>by
  have ih:=gf h k oo;rw[Wu o k hk];have hm:=Ba (oo:k<o.length);have hle:∀y∈o.take k,Am y.lo<=Am (o.getD k default).lo:=λy hy=>by
   exact od
  have hsub:∀y∈o.take k,y∈o.take (k+1):=λy hy=>by rw[CY o k hk];exact Hw _ hy
  have hnew:o.getD k default∈o.take (k+1):=by rw[CY o k hk];simp
  generalize flF (o.take k)=g at *;generalize o.getD k default=x at *;have AH:FlI A9 o (k+1) g:=⟨λn t ht=>hsub t (ih.Ad n t ht),λf hf=>by
   obtain⟨a,b,c,d,e,y,hy,e2⟩:=ih.el f hf
   exact⟨a,b,c,d,e,y,hsub y hy,e2⟩,ih.Gx⟩
  unfold flS;split
  ·refine⟨λn t ht=>?_,AH.el,AH.Gx⟩;simp only[Ae] at ht;split at ht
   ·cases ht;exact hnew
   exact AH.Ad n t ht
  split
  ·rename_i h7;cases hs:g.1 x.ev.n with
   | none=>exact AH
   | some s=>
    have hsk:=ih.Ad _ _ hs;have hso:=GS hsk;have he:=(Ms (h.ev x hm)).2;rw[h7] at he;have hn:=he.2.1 rfl;have hn:0<=x.ev.n/\x.ev.n<=1000000000000000:=hn;have t1:=h.tr x hm;have t2:=h.tr s hso;have s1:=h.Ed x hm;have s2:=h.Ed s hso;have c1:=Iq x.lo;have c2:=MB x.lo;have c3:=Iq s.lo;have c4:=MB s.lo;have hsr:=hle s hsk;refine⟨AH.Ad,λf hf=>?_,JZ.2 ⟨ih.Gx,PW _ _,λa ha b hb=>?_⟩⟩
    ·rcases CH.1 hf with hf|hf
     ·exact AH.el f hf
     rw[CG.1 hf];refine⟨?_,hsr,h.th s hso,h.th x hm,⟨c3,c4,c1,c2⟩,x,hnew,rfl⟩;simp only[Q6,Hl,JY,GG];omega
    rw[CG.1 hb];obtain⟨_,_,_,_,_,y,hy,e2⟩:=ih.el a ha;rw[e2];exact hle y hy
  exact AH
def vX{A9:List An}{o:List AN}(h:EvO A9 o):Ly (flF o).2=0/\∀f∈(flF o).2,CV A9 f.ft=true/\CV A9 f.tt=true/\(0<=f.send/\f.send<=1000000000000/\0<=f.recv/\f.recv<=1000000000000)/\f.send<=f.recv/\∃x∈o,f.recv=Am x.lo:=by
 have hi:=gf h o.length (AR _);have hfl:flF (o.take o.length)=flF o:=by rw[BL]
 rw[hfl] at hi;refine⟨Om λk hk=>?_,λf hf=>?_⟩
 ·obtain⟨a,b,_⟩:=hi.el _ (Ba hk);unfold Ng;rw[A7 (by rw[a];simp),A7];simp only[VD,Gc,C5,CZ];rintro(h1|⟨h1,h2⟩)
  ·omega
  have:=pwD hi.Gx (oo:k-1<k) hk;omega
 obtain⟨_,b,c,d,e,x,hx,e2⟩:=hi.el f hf;rw[BL] at hx;exact⟨c,d,e,b,x,hx,e2⟩

def kG{l:Av}(h:l.BZ)(hl:Fu l=0){a e:Nat}(ha:a<(Ah l.parts).length):((Ah l.parts).getD a default).2<(Df l e).getD (DW l.A9 ((Ah l.parts).getD a default).1) default↔Bef (E1 l) a e:=by
 have hc:=Tk (Pt hl a ha);have hb:=vM h hl (a:=a) (e:=e) (by rw[NU,<-QX];exact ha);generalize (Ah l.parts).getD a default=p at *;have e1:(Df l e).getD (DW l.A9 p.1) default=Hm l e (l.A9.getD (DW l.A9 p.1) default).id (AI l.parts).length:=by
  unfold Df;rw[II (by rw[BW];exact hc.1),H9,<-II hc.1]
 rw[<-hb,e1,hc.2]
def mxL(V:Nat->List Int)(c:Int->Nat)(R:List AN)(i:Nat)(m:Int):Nat->Int
 | 0=>m
 | k+1=>if(R.getD k default).AB<(V i).getD (c (R.getD k default).A0) default then max (mxL V c R i m k) (R.getD k default).lo else mxL V c R i m k
def cK{α:Type}[Inhabited α]{l:List α}{i j:Nat}{x:α}(h:i<l.length):(l.set i x).getD j default=if j=i then x else l.getD j default:=by
 exact c9
def j6(V:Nat->List Int)(c:Int->Nat)(R:List AN){i:Nat}{O:List AN}(hi:i<O.length):∀k,k<=O.length->∀j,((tiK V c R i O k).getD j default).lo=if j=i then mxL V c R i (O.getD i default).lo k else(O.getD j default).lo
 | 0,_,j=>by
  unfold tiK mxL;split
  ·rename_i e;rw[e]
  rfl
 | k+1,hk,j=>by
  have ih:=j6 V c R hi k oo;have hl:=U4 V c R i O k;rw[tiK,mxL];unfold tiS;generalize tiK V c R i O k=Q at *;split
  ·simp only;have e1:∀j,((Q.set i {Q.getD i default with lo:=max (Q.getD i default).lo (R.getD k default).lo}).getD j default).lo=if j=i then max (Q.getD i default).lo (R.getD k default).lo else(Q.getD j default).lo:=λj=>by
    rw[cK oo];split<;>rfl
   rw[cK (by rw[BH];omega)];have e2:(if j=k then {(Q.set i {Q.getD i default with lo:=max (Q.getD i default).lo (R.getD k default).lo}).getD k default with hi:=min ((Q.set i {Q.getD i default with lo:=max (Q.getD i default).lo (R.getD k default).lo}).getD k default).hi (R.getD i default).hi} else(Q.set i {Q.getD i default with lo:=max (Q.getD i default).lo (R.getD k default).lo}).getD j default).lo=((Q.set i {Q.getD i default with lo:=max (Q.getD i default).lo (R.getD k default).lo}).getD j default).lo:=by
    split
    ·rename_i e;rw[e]
    rfl
   rw[e2,e1,ih j,ih i];by_cases e:j=i
   ·simp[e]
   simp[e]
  exact ih j
def Zc(V:Nat->List Int)(c:Int->Nat)(R:List AN):∀m,m<=R.length->∀j,((tiL V c R m).getD j default).lo=if j<m then mxL V c R j (R.getD j default).lo R.length else(R.getD j default).lo
 | 0,_,j=>by rw[A7 oo];rfl
 | m+1,hm,j=>by
  have hl:=U5 V c R m;have ih:=Zc V c R m oo;rw[tiL,j6 V c R oo _ oo,ih,ih];by_cases e:j=m
  ·subst e;simp
  rw[A7 e];by_cases h2:j<m
  ·rw[AD h2,AD oo]
  rw[A7 h2,A7 oo]
def ZR(V:Nat->List Int)(c:Int->Nat)(R:List AN)(i:Nat)(m:Int):∀k j,j<k->(R.getD j default).AB<(V i).getD (c (R.getD j default).A0) default->(R.getD j default).lo<=mxL V c R i m k
 | 0,j,h,_=>oo
 | k+1,j,h,hb=>by
  unfold mxL;by_cases e:j=k
  ·subst e;rw[AD hb];omega
  have:=ZR V c R i m k j oo hb;split<;>omega
def ij(V:Nat->List Int)(c:Int->Nat)(R:List AN)(i:Nat)(m:Int):∀k,mxL V c R i m k=m\/∃j,j<k/\(R.getD j default).AB<(V i).getD (c (R.getD j default).A0) default/\mxL V c R i m k=(R.getD j default).lo
 | 0=>.inl rfl
 | k+1=>by
  have ih:=ij V c R i m k;unfold mxL;have step:mxL V c R i m k=m\/∃j,j<k+1/\(R.getD j default).AB<(V i).getD (c (R.getD j default).A0) default/\mxL V c R i m k=(R.getD j default).lo:=ih.imp id λ⟨j,h1,h2,h3⟩=>⟨j,oo,h2,h3⟩
  split
  ·rename_i hb;by_cases h:mxL V c R i m k<=(R.getD k default).lo
   ·exact .inr ⟨k,oo,hb,oo⟩
   rw[show max (mxL V c R i m k) (R.getD k default).lo=mxL V c R i m k by omega];exact step
  exact step
def xP{l:Av}(h:l.BZ)(hl:Fu l=0){a e:Nat}(ha:a<(Ah l.parts).length)(he:e<(Ah l.parts).length)(hb:Bef (E1 l) a e):((tiF l).getD a default).lo<=((tiF l).getD e default).lo:=by
 have hR:=Yi l;have hat:=λk hk=>iu l (k:=k) hk;have hB:∀k i,k<(Ah l.parts).length->(((DI l l.parts.length).getD k default).AB<(Df l i).getD (DW l.A9 ((DI l l.parts.length).getD k default).A0) default↔Bef (E1 l) k i):=λk i hk=>by
  rw[(hat k hk).1,(hat k hk).2];exact kG h hl hk
 unfold tiF;rw[Zc _ _ _ _ (AR _),Zc _ _ _ _ (AR _),AD oo,AD oo];rcases ij (Df l) (DW l.A9) (DI l l.parts.length) a ((DI l l.parts.length).getD a default).lo (DI l l.parts.length).length with h1|⟨j,h1,h2,h3⟩
 ·rw[h1];exact ZR _ _ _ _ _ _ a oo ((hB a e ha).2 hb)
 rw[h3];exact ZR _ _ _ _ _ _ j h1 ((hB j e oo).2 (((hB j a oo).1 h2).trans hb))
structure Cau(o:Cg)(B:Nat->Nat->Prop):Prop where
 cl:∀i,i<o.O.length->o.c (o.O.getD i default).A0<o.n
 bf:∀a e,a<o.O.length->(o.O.getD a default).AB<(o.V e).getD (o.c (o.O.getD a default).A0) default->B a e
 th:∀a e,a<e->e<o.O.length->o.c (o.O.getD a default).A0=o.c (o.O.getD e default).A0->B a e
 lo:∀a e,a<o.O.length->e<o.O.length->B a e->(o.O.getD a default).lo<=(o.O.getD e default).lo
def kN(o:Cg)(W:Nat->List Int):∀c k,k<c->W k≠[]->o.free W (hdI (W k)).toNat=true->∃b:Nat,b<c/\o.CM W c=b/\W b≠[]/\(o.at_ (hdI (W b))).lo<=(o.at_ (hdI (W k))).lo
 | 0,k,h,_,_=>oo
 | c+1,k,h,hw,hf=>by
  by_cases e:k=c
  ·subst e;unfold Cg.CM;split
   ·exact⟨k,oo,rfl,hw,EP _⟩
   rename_i hn;rcases Ri o W k with hb|⟨b,h1,h2,h3,h4⟩
   ·exact absurd ⟨⟨hw,hf⟩,.inl (by rw[hb];decide)⟩ hn
   refine⟨b,oo,h2,h3,?_⟩;rw[h2,Dw] at hn;exact VX.1 λhlt=>hn ⟨⟨hw,hf⟩,.inr hlt⟩
  obtain⟨b,h1,h2,h3,h4⟩:=kN o W c k oo hw hf;unfold Cg.CM;rw[h2,Dw];split
  ·rename_i hc;refine⟨c,oo,rfl,hc.1.1,?_⟩;have:=hc.2.resolve_left oo;omega
  exact⟨b,oo,rfl,h3,h4⟩
structure VO(o:Cg)(W:Nat->List Int)(out:List Int):Prop where
 row:∀c,∀y∈W c,0<=y/\y<o.O.length/\o.c (o.at_ y).A0=c
 asc:∀c,(W c).Pairwise (·<·)
 oin:∀y∈out,0<=y/\y<o.O.length
 Gx:out.Pairwise λa b=>(o.at_ a).lo<=(o.at_ b).lo
 nxt:∀x∈out,∀c,c<o.n->W c≠[]->o.free W (hdI (W c)).toNat=true->(o.at_ x).lo<=(o.at_ (hdI (W c))).lo
def iX{r:List Int}(h:r≠[]):hdI r∈r/\r=hdI r::r.tail:=by
 cases r with
 | nil=>exact absurd rfl h
 | cons y r=>exact⟨by simp[hdI],rfl⟩
def VO.step{o:Cg}{B:Nat->Nat->Prop}(hC:Cau o B){W:Nat->List Int}{out:List Int}(h:VO o W out){b:Nat}(hb:o.CM W o.n=b):VO o (updQ W b (W b).tail) (out++[hdI (W b)]):=by
 obtain⟨hbn,hwb,hfb⟩:b<o.n/\W b≠[]/\o.free W (hdI (W b)).toNat=true:=by
  rcases Ri o W o.n with h1|⟨b',h1,h2,h3,h4⟩
  ·omega
  have:b'=b:=oo;subst this;exact⟨h1,h3,h4⟩
 obtain⟨hm,hsp⟩:=iX hwb;have hh:=h.row b _ hm;have hmono:∀y:Int,0<=y->y<o.O.length->B (hdI (W b)).toNat y.toNat->(o.at_ (hdI (W b))).lo<=(o.at_ y).lo:=λy h0 h1 hB=>hC.lo _ _ oo oo hB;have hlast:∀x∈out,(o.at_ x).lo<=(o.at_ (hdI (W b))).lo:=λx hx=>h.nxt x hx b hbn hwb hfb;have hsub:∀c,∀y∈updQ W b (W b).tail c,y∈W c:=λc y hy=>by
  unfold updQ at hy;split at hy
  ·rename_i e;rw[e];exact List.mem_of_mem_tail hy
  exact hy
 refine⟨λc y hy=>h.row c y (hsub c y hy),λc=>?_,λy hy=>?_,?_,λx hx c hcn hwc hfc=>?_⟩
 ·unfold updQ;split
  ·have:=h.asc b;rw[hsp] at this;exact(IV.1 this).2
  exact h.asc c
 ·rcases CH.1 hy with h1|h1
  ·exact h.oin y h1
  rw[CG.1 h1];exact⟨hh.1,hh.2.1⟩
 ·refine JZ.2 ⟨h.Gx,PW _ _,λa ha z hz=>?_⟩;rw[CG.1 hz];exact hlast a ha
 have key:(o.at_ (hdI (W b))).lo<=(o.at_ (hdI (updQ W b (W b).tail c))).lo:=by
  obtain⟨hm2,hsp2⟩:=iX hwc;have hr2:=h.row c _ (hsub c _ hm2);by_cases e:c=b
  ·subst e;refine hmono _ hr2.1 hr2.2.1 (hC.th _ _ ?_ oo ?_)
   ·have ha:=h.asc c;rw[hsp] at ha;have:=(IV.1 ha).1 (hdI (updQ W c (W c).tail c)) (by simpa[updQ] using hm2);omega
   exact hh.2.2.trans hr2.2.2.symm
  have ec:updQ W b (W b).tail c=W c:=A7 e;rw[ec] at hwc hfc hr2 ⊢;cases hf:o.free W (hdI (W c)).toNat with
  | true=>
   obtain⟨b',h1,h2,h3,h4⟩:=kN o W o.n c hcn hwc hf;have:b'=b:=oo;subst this;exact h4
  | false=>
   have:∃k,k<o.n/\o.stop W (hdI (W c)).toNat k=true:=by
    unfold Cg.free at hf;rw[Vc] at hf;obtain⟨k,hk,h5⟩:=hf;exact⟨k,CI.1 hk,Ib⟩
   obtain⟨k,hk,hs⟩:=this;have hns:o.stop (updQ W b (W b).tail) (hdI (W c)).toNat k=false:=by
    unfold Cg.free at hfc;have:=EW.1 hfc k (CI.2 hk);exact Ll
   have ek:k=b:=by
    apply PY;intro hne;unfold Cg.stop at hs hns;rw[show updQ W b (W b).tail k=W k from A7 hne] at hns;rw[hs] at hns;cases hns
   subst ek;unfold Cg.stop at hs;simp only[C5,CZ] at hs;refine hmono _ hr2.1 hr2.2.1 (hC.bf _ _ oo ?_);have e3:o.c (o.O.getD (hdI (W k)).toNat default).A0=k:=hh.2.2;rw[e3];exact hs.2.2
 rcases CH.1 hx with h1|h1
 ·have:=hlast x h1;omega
 rw[CG.1 h1];exact key
def jy{o:Cg}:∀k,k<=o.O.length->(∀c,∀y∈o.D1 k c,0<=y/\y<(k:Int)/\o.c (o.at_ y).A0=c)/\∀c,(o.D1 k c).Pairwise (·<·)
 | 0,_=>⟨λc y hy=>OC,λc=>.nil⟩
 | k+1,hk=>by
  obtain⟨h1,h2⟩:=jy (o:=o) k oo;refine⟨λc y hy=>?_,λc=>?_⟩
  ·unfold Cg.D1 updQ at hy;split at hy
   ·rename_i e;rcases CH.1 hy with h3|h3
    ·have:=h1 _ y h3;rw[e];exact⟨this.1,oo,this.2.2⟩
    rw[CG.1 h3];refine⟨oo,oo,?_⟩;rw[e,Cg.at_,Dw]
   have:=h1 c y hy;exact⟨this.1,oo,this.2.2⟩
  unfold Cg.D1 updQ;split
  ·refine JZ.2 ⟨h2 _,PW _ _,λa ha b hb=>?_⟩;rw[CG.1 hb];exact(h1 _ a ha).2.1
  exact h2 c
def iy{o:Cg}{B:Nat->Nat->Prop}(hC:Cau o B):∀m W out,o.run m=some (W,out)->VO o W out/\out.length=m
 | 0,W,out,h=>by
  have:=jy (o:=o) o.O.length (AR _);cases h;exact⟨⟨this.1,this.2,λy hy=>OC,.nil,λx hx=>Jd⟩,rfl⟩
 | m+1,W,out,h=>by
  rw[Cg.run] at h;cases hr:o.run m with
  | none=>rw[hr] at h;cases h
  | some p=>
   obtain⟨W0,out0⟩:=p;rw[hr] at h;simp only at h;obtain⟨i1,i2⟩:=iy hC m W0 out0 hr;split at h
   ·cases h
   rename_i hb;obtain⟨b,hbb⟩:∃b:Nat,o.CM W0 o.n=b:=⟨(o.CM W0 o.n).toNat,oo⟩;rw[hbb,Dw] at h;cases h;exact⟨i1.step hC hbb,by simp[i2]⟩
def dY{l:Av}(h:(Fl l).2=0):Eg l=0:=by
 have h9:(Ho l).2=0:=by
  unfold Fl at h;split at h
  ·exact h
  rename_i h1;simpa using h1
 exact(UZ h9).1
def Q8q(l:Av){x:AN}(hx:x∈tiF l):∃p∈l.parts,x.ev∈p.A_:=by
 have h:=Yz (Df l) (DW l.A9) (DI l l.parts.length) (DI l l.parts.length).length;have hm:tmI x∈(DI l l.parts.length).map tmI:=by rw[<-h];exact List.mem_map_of_mem hx
 obtain⟨y,hy,e⟩:=C4.1 hm;unfold DI at hy;rw[BL] at hy;obtain⟨p,hp,hq⟩:=HZ.1 hy;obtain⟨k,hk,e2⟩:=C4.1 hq;have e3:x.ev=y.ev:=(congrArg (λt:Int×Int×EvT=>t.2.2) e).symm;refine⟨p,hp,?_⟩;rw[e3,<-e2];exact Ba (CI.1 hk)
def yI{a b:Int}(h:a<=b):Am a<=Am b:=by unfold Am;omega
def ZT{l:Av}(h:l.BZ)(h0:(EJ l).2=0):EvO l.A9 (EJ l).1:=by
 obtain⟨ht,W,out,hr,ho⟩:(Fl l).2=0/\∃W out,(It l).run (tiF l).length=some (W,out)/\(EJ l).1=out.map (It l).at_:=by
  unfold EJ at h0 ⊢;split at h0
  ·rename_i h1;exact absurd h0 h1
  rename_i h1;rw[A7 h1];cases hr:(It l).run (tiF l).length with
  | none=>rw[hr] at h0;cases h0
  | some p=>obtain⟨W,out⟩:=p;exact⟨Cz,W,out,rfl,rfl⟩
 have hlg:=NG (dY ht);have hln:=Yy l;have hat:=λk hk=>Zb l (k:=k) hk;have hcp:∀i,i<(tiF l).length->DW l.A9 ((tiF l).getD i default).A0<l.A9.length/\(l.A9.getD (DW l.A9 ((tiF l).getD i default).A0) default).id=((tiF l).getD i default).A0:=λi hi=>by
  have h9:=Tk (Pt hlg i oo);rw[hat i hi] at h9;exact h9
 have hlE:(Ah l.parts).length=(AI l.parts).length:=Ma;have hC:Cau (It l) (Bef (E1 l)):=by
  refine⟨λi hi=>(hcp i hi).1,λa e ha hb=>?_,λa e hae he hc=>?_,λa e ha he hb=>xP h hlg (by rw[<-hln];exact ha) (by rw[<-hln];exact he) hb⟩
  ·have:=kG h hlg (a:=a) (e:=e) (by rw[<-hln];exact ha);rw[hat a ha] at this;exact this.1 hb
  have h1:=(hcp a (T3 hae he)).2;have h2:=(hcp e he).2;rw[show DW l.A9 ((tiF l).getD a default).A0=DW l.A9 ((tiF l).getD e default).A0 from hc,h2] at h1;have h3:=hat a (T3 hae he);have h4:=hat e he;refine Y_ hlg (e-a) a e oo (by rw[<-hlE,<-hln];exact he) ?_;rw[h3,h4];exact h1.symm
 obtain⟨hR,hol⟩:=iy hC _ W out hr;have hmem:∀x∈(EJ l).1,x∈tiF l:=λx hx=>by
  rw[ho] at hx;obtain⟨y,hy,rfl⟩:=C4.1 hx;exact Ba (by have:=hR.oin y hy;show y.toNat<_;have e:(It l).O=tiF l:=rfl;rw[e] at this;omega)
 have hid:∀x∈tiF l,(x.A0,x.AB)∈Ah l.parts:=λx hx=>by
  rw[<-Yx];exact C4.2 ⟨x,hx,rfl⟩
 have hev:∀x∈(EJ l).1,Fs x.ev=0:=λx hx=>by
  obtain⟨p,hp,hq⟩:=Q8q l (hmem x hx);obtain⟨k,hk,e⟩:=Gd hp;have hpk:=(P1 (OL (NS hlg).2.1 k hk)).2.2.2.2.2;rw[II hk,e] at hpk;obtain⟨j,hj,e2⟩:=Gd hq;have:=MH hpk j hj;unfold PM at this;split at this
  ·rename_i h1;exact absurd this h1
  rename_i h1;rw[II hj,e2] at h1;simpa using h1
 refine⟨?_,?_,λx hx=>?_,λx hx=>?_,λx hx=>?_,λx hx=>?_,λx hx=>?_⟩
 ·rw[ho,O8];exact hR.Gx.imp λh=>yI h
 ·rw[ho,BW,hol,hln,QX];exact h.A_
 ·have:=VB hlg (hid x (hmem x hx));exact⟨this.1,this.2.1⟩
 ·have:=VB hlg (hid x (hmem x hx));exact this.2.2
 ·obtain⟨i,hi,e⟩:=Gd (hid x (hmem x hx));have:=Pt hlg i hi;rw[II hi,e] at this;exact this
 ·exact hev x hx
 have:=Q6j (hev x hx);omega

inductive Anc(ar:Nat->Int):Nat->Nat->Prop
 | one {i j:Nat} (h:ar j=i):Anc ar i j
 | step {i m j:Nat} (h:ar j=m) (h2:Anc ar i m):Anc ar i j
def arP(ps:List B0)(i:Nat):Int:=(ps.getD i default).Aq
def Anc.congr{ar ar':Nat->Int}{n:Nat}(he:∀i,i<n->ar' i=ar i)(hl:∀i,i<n->ar i<i){i j:Nat}(h:Anc ar i j)(hj:j<n):Anc ar' i j:=by
 induction h with
 | one h=>exact .one ((he _ hj).trans h)
 | @step m j h h2 ih=>
  have:=hl _ hj;exact .step ((he _ hj).trans h) (ih oo)
structure Stk(ps:List B0)(k:Int)(l:List Nat):Prop where
 lt:∀j,j<l.length->l.getD j 0<ps.length
 th:∀j,j<l.length->(ps.getD (l.getD j 0) default).s.A0=k
 cl:∀j,j<l.length->(ps.getD (l.getD j 0) default).closed=false
 ar:∀j,j<l.length->(ps.getD (l.getD j 0) default).Aq=if j=0 then -1 else((l.getD (j-1) 0:Nat):Int)
structure Nst(p0:Int->List UInt8->Prop)(T:Int)(ps:List B0)(tr:Int->Option CO):Prop where
 num:∀i,i<ps.length->(ps.getD i default).number=i/\(ps.getD i default).s.depth=0/\0<=(ps.getD i default).s.lo/\p0 (ps.getD i default).s.A0 (ps.getD i default).s.name
 tk:∀i,i<ps.length->∃t,tr (ps.getD i default).s.A0=some t/\(ps.getD i default).s.lo<=t.last/\((ps.getD i default).closed=true->(ps.getD i default).s.lo<=(ps.getD i default).s.hi/\(ps.getD i default).s.hi<=t.last)/\((ps.getD i default).closed=false->i∈t.open_)
 tm:∀k t,tr k=some t->0<=t.last/\t.last<=T
 op:∀k t,tr k=some t->Stk ps k t.open_
 ar:∀i,i<ps.length->(ps.getD i default).Aq=-1\/∃a:Nat,a<i/\(ps.getD i default).Aq=a/\(ps.getD a default).s.A0=(ps.getD i default).s.A0/\(ps.getD a default).s.lo<=(ps.getD i default).s.lo/\((ps.getD a default).closed=true->(ps.getD i default).closed=true/\(ps.getD i default).s.hi<=(ps.getD a default).s.hi)
 nd:∀i j,i<j->j<ps.length->(ps.getD i default).s.A0=(ps.getD j default).s.A0->Anc (arP ps) i j\/((ps.getD i default).closed=true/\(ps.getD i default).s.hi<=(ps.getD j default).s.lo)
section
variable {p0:Int->List UInt8->Prop} {T:Int} {ps:List B0} {tr:Int->Option CO}
def Nst.lt(h:Nst p0 T ps tr):∀i,i<ps.length->arP ps i<i:=λi hi=>by
 rcases h.ar i hi with h1|⟨a,h1,h2,_⟩<;>unfold arP<;>omega
def Stk.inc{k:Int}{l:List Nat}(h:Stk ps k l)(hl:∀i,i<ps.length->arP ps i<i):∀s r,r<s->s<l.length->l.getD r 0<l.getD s 0
 | 0,r,hr,_=>oo
 | s+1,r,hr,hs=>by
  have h1:=h.ar (s+1) hs;rw[A7 oo,O0] at h1;have h2:=hl _ (h.lt (s+1) hs);unfold arP at h2;by_cases e:r=s
  ·subst e;omega
  have:=Stk.inc h hl s r oo oo;omega
def Stk.SV{k:Int}{l:List Nat}(h:Stk ps k l):∀s r,r<s->s<l.length->Anc (arP ps) (l.getD r 0) (l.getD s 0)
 | 0,r,hr,_=>oo
 | s+1,r,hr,hs=>by
  have h1:=h.ar (s+1) hs;rw[A7 oo,O0] at h1;by_cases e:r=s
  ·subst e;exact .one h1
  exact .step h1 (Stk.SV h s r oo oo)
def ZM{l:List Nat}{i:Nat}(h:i∈l):∃r,r<l.length/\l.getD r 0=i:=by
 obtain⟨r,hr,e⟩:=Gd h;exact⟨r,hr,by simp[hr,e]⟩
def Nst.top(h:Nst p0 T ps tr){k:Int}{t:CO}(hk:tr k=some t){op:List Nat}{i:Nat}(ho:t.open_=op++[i]):i<ps.length/\(ps.getD i default).s.A0=k/\(ps.getD i default).closed=false/\∀j∈op,j<i:=by
 have hs:=h.op k t hk;rw[ho] at hs;have e:(op++[i]).getD op.length 0=i:=A6;have hl:op.length<(op++[i]).length:=A6;refine⟨e▸hs.lt _ hl,e▸hs.th _ hl,e▸hs.cl _ hl,λj hj=>?_⟩;obtain⟨r,hr,rfl⟩:=ZM hj;have:=hs.inc h.lt op.length r hr hl;rw[e] at this;simpa[Ec hr] using this
def Nst.shut(h:Nst p0 T ps tr){k:Int}{t:CO}(hk:tr k=some t){op:List Nat}{i:Nat}(ho:t.open_=op++[i]){m T':Int}(b:Bool)(e:Int)(h1:t.last<=m)(h2:m<=T')(h3:T<=T'):
  Nst p0 T' (ps.set i ((ps.getD i default).shut m b)) (Ae tr k (some ⟨op,e,m⟩)):=by
 obtain⟨hi,hth,hcl,hop⟩:=h.top hk ho;have hg:∀j,(ps.set i ((ps.getD i default).shut m b)).getD j default=if j=i then(ps.getD i default).shut m b else ps.getD j default:=λj=>by
  by_cases hj:j=i
  ·subst hj;simp[hi]
  rw[A7 hj];simp only[B5,H_,A7 (λe:i=j=>hj e.symm)]
 have hs:∀j,((ps.set i ((ps.getD i default).shut m b)).getD j default).s.A0=(ps.getD j default).s.A0/\((ps.set i ((ps.getD i default).shut m b)).getD j default).s.lo=(ps.getD j default).s.lo/\((ps.set i ((ps.getD i default).shut m b)).getD j default).Aq=(ps.getD j default).Aq /\
   ((ps.set i ((ps.getD i default).shut m b)).getD j default).number=(ps.getD j default).number/\((ps.set i ((ps.getD i default).shut m b)).getD j default).s.depth=(ps.getD j default).s.depth/\((ps.set i ((ps.getD i default).shut m b)).getD j default).s.name=(ps.getD j default).s.name:=λj=>by
  rw[hg];split
  ·rename_i e;subst e;exact⟨rfl,rfl,rfl,rfl,rfl,rfl⟩
  exact⟨rfl,rfl,rfl,rfl,rfl,rfl⟩
 have hc:∀j,j≠i->((ps.set i ((ps.getD i default).shut m b)).getD j default).closed=(ps.getD j default).closed/\((ps.set i ((ps.getD i default).shut m b)).getD j default).s.hi=(ps.getD j default).s.hi:=λj hj=>by
  rw[hg,A7 hj];exact⟨rfl,rfl⟩
 have hci:((ps.set i ((ps.getD i default).shut m b)).getD i default).closed=true/\((ps.set i ((ps.getD i default).shut m b)).getD i default).s.hi=m:=by
  rw[hg,AD rfl];exact⟨rfl,rfl⟩
 have ht0:=(h.tm k t hk).1;have hsk:=h.op k t hk;have hlen:(ps.set i ((ps.getD i default).shut m b)).length=ps.length:=A6;generalize ps.set i ((ps.getD i default).shut m b)=ps' at *;have har:arP ps'=arP ps:=funext λj=>(hs j).2.2.1;refine⟨λj hj=>?_,λj hj=>?_,λk' t' hk'=>?_,λk' t' hk'=>?_,λj hj=>?_,λa j haj hj he=>?_⟩
 ·rw[(hs j).2.2.2.1,(hs j).2.2.2.2.1,(hs j).2.1,(hs j).1,(hs j).2.2.2.2.2];exact h.num j oo
 ·obtain⟨t1,a1,a2,a3,a4⟩:=h.tk j oo;rw[(hs j).1,(hs j).2.1];unfold Ae;by_cases hjk:(ps.getD j default).s.A0=k
  ·rw[AD hjk];rw[hjk,hk] at a1;cases a1;refine⟨_,rfl,AQ,λhcc=>?_,λhcc=>?_⟩
   ·by_cases e1:j=i
    ·subst e1;rw[hci.2];simp only;omega
    rw[(hc j e1).2];rw[(hc j e1).1] at hcc;have:=a3 hcc;simp only;omega
   by_cases e1:j=i
   ·subst e1;rw[hci.1] at hcc;cases hcc
   rw[(hc j e1).1] at hcc;have:=a4 hcc;rw[ho] at this;rcases CH.1 this with h5|h5
   ·exact h5
   exact absurd Ib e1
  rw[A7 hjk];have e1:j≠i:=λe1=>hjk (by rw[e1,hth]);rw[(hc j e1).1,(hc j e1).2];exact⟨t1,a1,a2,a3,a4⟩
 ·exact nZ
 ·unfold Ae at hk';split at hk'
  ·rename_i e1;cases hk';subst e1;rw[ho] at hsk;have hgo:∀j,j<op.length->(op++[i]).getD j 0=op.getD j 0:=λj hj=>RO;have hne:∀j,j<op.length->op.getD j 0≠i:=λj hj e1=>by
    have:=hop _ (by rw[B5,BP hj];exact FZ hj:op.getD j 0∈op);omega
   refine⟨λj (hj:j<op.length)=>?_,λj (hj:j<op.length)=>?_,λj (hj:j<op.length)=>?_,λj (hj:j<op.length)=>?_⟩
   ·have:=hsk.lt j Ap;rw[hgo j hj] at this;rw[hlen];exact this
   ·have:=hsk.th j Ap;rw[hgo j hj] at this;rw[(hs _).1];exact this
   ·have:=hsk.cl j Ap;rw[hgo j hj] at this;rw[(hc _ (hne j hj)).1];exact this
   have:=hsk.ar j Ap;rw[hgo j hj] at this;rw[(hs _).2.2.1,this];split
   ·rfl
   rw[hgo (j-1) oo]
  rename_i e1;have hS:=h.op k' t' hk';have hne:∀j,j<t'.open_.length->t'.open_.getD j 0≠i:=λj hj e2=>e1 (by rw[<-hS.th j hj,e2,hth]);exact⟨λj hj=>by rw[hlen];exact hS.lt j hj,λj hj=>by rw[(hs _).1];exact hS.th j hj,λj hj=>by rw[(hc _ (hne j hj)).1];exact hS.cl j hj,λj hj=>by rw[(hs _).2.2.1];exact hS.ar j hj⟩
 ·rw[(hs j).2.2.1];rcases h.ar j oo with h5|⟨a,g1,g2,g3,g4,g5⟩
  ·exact .inl h5
  refine .inr ⟨a,g1,g2,by rw[(hs a).1,(hs j).1];exact g3,by rw[(hs a).2.1,(hs j).2.1];exact g4,λhca=>?_⟩;by_cases e1:a=i
  ·subst e1;have e2:j≠a:=oo;obtain⟨t1,a1,a2,a3,a4⟩:=h.tk j oo;rw[<-g3,hth,hk] at a1;cases a1;cases hcj:(ps.getD j default).closed with
   | true=>
    rw[(hc j e2).1,(hc j e2).2,hci.2];exact⟨hcj,by have:=(a3 hcj).2;omega⟩
   | false=>
    obtain⟨r,hr,er⟩:=ZM (a4 hcj);have h6:=hsk.ar r hr;rw[er,g2] at h6;split at h6
    ·omega
    rw[ho] at hr;rw[ho] at h6 hsk;have e3:(op++[a]).getD op.length 0=a:=A6;have h7:=hsk.inc h.lt op.length (r-1);rw[Bb,Hx] at hr h7;have:=h7 oo oo;omega
  by_cases e2:j=i
  ·subst e2;rw[(hc a e1).1] at hca;have:=(g5 hca).1;rw[hcl] at this;cases this
  rw[(hc j e2).1,(hc j e2).2,(hc a e1).2];rw[(hc a e1).1] at hca;exact g5 hca
 rw[(hs a).1,(hs j).1] at he;rw[har];rcases h.nd a j haj oo he with h5|⟨h5,h6⟩
 ·exact .inl h5
 have e1:a≠i:=λe1=>by rw[e1,hcl] at h5;cases h5
 rw[(hc a e1).1,(hc a e1).2,(hs j).2.1];exact .inr ⟨h5,h6⟩
def Nst.raise(h:Nst p0 T ps tr){k:Int}{t:CO}(hk:tr k=some t){m T':Int}(e:Int)(h1:t.last<=m)(h2:m<=T')(h3:T<=T'):Nst p0 T' ps (Ae tr k (some ⟨t.open_,e,m⟩)):=by
 have ht0:=(h.tm k t hk).1;refine⟨h.num,λj hj=>?_,λk' t' hk'=>?_,λk' t' hk'=>?_,h.ar,h.nd⟩
 ·obtain⟨t1,a1,a2,a3,a4⟩:=h.tk j hj;unfold Ae;split
  ·rename_i e1;rw[e1,hk] at a1;cases a1;exact⟨_,rfl,AQ,λhc=>by have:=a3 hc;simp only;omega,a4⟩
  exact⟨t1,a1,a2,a3,a4⟩
 ·exact nZ
 unfold Ae at hk';split at hk'
 ·rename_i e1;cases hk';subst e1;exact h.op _ t hk
 exact h.op k' t' hk'
def Nst.fresh(h:Nst p0 T ps tr)(hT:0<=T){k:Int}(hk:tr k=none):Nst p0 T ps (Ae tr k (some CO.new)):=by
 refine⟨h.num,λj hj=>?_,λk' t' hk'=>?_,λk' t' hk'=>?_,h.ar,h.nd⟩
 ·obtain⟨t1,a1,a2⟩:=h.tk j hj;refine⟨t1,?_,a2⟩;unfold Ae;split
  ·rename_i e1;rw[e1,hk] at a1;cases a1
  exact a1
 ·unfold Ae at hk';split at hk'
  ·cases hk';exact⟨EP _,hT⟩
  exact h.tm k' t' hk'
 unfold Ae at hk';split at hk'
 ·cases hk';exact⟨λj hj=>absurd hj (F9 _),λj hj=>absurd hj (F9 _),λj hj=>absurd hj (F9 _),λj hj=>absurd hj (F9 _)⟩
 exact h.op k' t' hk'
def Nst.push(h:Nst p0 T ps tr){k:Int}{t:CO}(hk:tr k=some t)(x:B0)(e:Int)(h1:x.number=ps.length)(h2:x.s.depth=0)(h3:x.s.lo=t.last)(h4:p0 k x.s.name)(h5:x.s.A0=k)(h6:x.closed=false)(h7:x.Aq=Qn t.open_):
  Nst p0 T (ps++[x]) (Ae tr k (some ⟨t.open_++[ps.length],e,t.last⟩)):=by
 have ht0:=h.tm k t hk;have hsk:=h.op k t hk;have hold:∀j,j<ps.length->(ps++[x]).getD j default=ps.getD j default:=λj hj=>RO;have hnew:(ps++[x]).getD ps.length default=x:=A6;have hlen:(ps++[x]).length=ps.length+1:=A6;generalize ps++[x]=ps' at *;have hstk:Stk ps' k (t.open_++[ps.length]):=by
  have ho:∀j,j<t.open_.length->(t.open_++[ps.length]).getD j 0=t.open_.getD j 0:=λj hj=>RO;have hn:(t.open_++[ps.length]).getD t.open_.length 0=ps.length:=A6;have cs:∀j,j<(t.open_++[ps.length]).length->j<t.open_.length\/j=t.open_.length:=λj hj=>by rw[Bb,Hx] at hj;omega
  refine⟨λj hj=>?_,λj hj=>?_,λj hj=>?_,λj hj=>?_⟩
  ·rcases cs j hj with c|rfl
   ·rw[ho j c];have:=hsk.lt j c;omega
   rw[hn];omega
  ·rcases cs j hj with c|rfl
   ·rw[ho j c,hold _ (hsk.lt j c)];exact hsk.th j c
   rw[hn,hnew];exact h5
  ·rcases cs j hj with c|rfl
   ·rw[ho j c,hold _ (hsk.lt j c)];exact hsk.cl j c
   rw[hn,hnew];exact h6
  rcases cs j hj with c|rfl
  ·rw[ho j c,hold _ (hsk.lt j c),hsk.ar j c];split
   ·rfl
   rw[ho (j-1) oo]
  rw[hn,hnew,h7,Qn];by_cases e1:t.open_=[]
  ·rw[AD e1,e1];rfl
  have:0<t.open_.length:=RA.2 e1;rw[A7 e1,A7 oo,ho _ oo]
 have hac:∀{i j},Anc (arP ps) i j->j<ps.length->Anc (arP ps') i j:=λha hj=>ha.congr (λi hi=>by unfold arP;rw[hold i hi]) h.lt hj;refine⟨λj hj=>?_,λj hj=>?_,λk' t' hk'=>?_,λk' t' hk'=>?_,λj hj=>?_,λa j haj hj he=>?_⟩
 ·by_cases c:j<ps.length
  ·rw[hold j c];exact h.num j c
  have:j=ps.length:=oo;subst this;rw[hnew,h5];exact⟨h1,h2,oo,h4⟩
 ·by_cases c:j<ps.length
  ·rw[hold j c];obtain⟨t1,a1,a2,a3,a4⟩:=h.tk j c;unfold Ae;split
   ·rename_i e1;rw[e1,hk] at a1;cases a1;exact⟨_,rfl,a2,a3,λhc=>Hw _ (a4 hc)⟩
   exact⟨t1,a1,a2,a3,a4⟩
  have:j=ps.length:=oo;subst this;rw[hnew,h5];exact⟨_,AD rfl,AQ,λhc=>by(rw[h6] at hc;cases hc),λ_=>A6⟩
 ·unfold Ae at hk';split at hk'
  ·cases hk';exact ht0
  exact h.tm k' t' hk'
 ·unfold Ae at hk';split at hk'
  ·rename_i e1;cases hk';subst e1;exact hstk
  have hS:=h.op k' t' hk';exact⟨λj hj=>by have:=hS.lt j hj;omega,λj hj=>by rw[hold _ (hS.lt j hj)];exact hS.th j hj,λj hj=>by rw[hold _ (hS.lt j hj)];exact hS.cl j hj,λj hj=>by rw[hold _ (hS.lt j hj)];exact hS.ar j hj⟩
 ·by_cases c:j<ps.length
  ·rw[hold j c];rcases h.ar j c with h8|⟨a,g1,g2,g3,g4,g5⟩
   ·exact .inl h8
   rw[<-hold a oo] at g3 g4 g5;exact .inr ⟨a,g1,g2,g3,g4,g5⟩
  have:j=ps.length:=oo;subst this;rw[hnew,h7,Qn];by_cases e1:t.open_=[]
  ·rw[AD e1];exact .inl rfl
  have hp:t.open_.length-1<t.open_.length:=by have:=RA.2 e1;omega
  rw[A7 e1];have a1:=hsk.lt _ hp;have a2:=hsk.cl _ hp;have a3:=hsk.th _ hp;obtain⟨t1,b1,b2,_⟩:=h.tk _ a1;rw[a3,hk] at b1;cases b1;refine .inr ⟨_,a1,rfl,?_,?_,λhc=>?_⟩
  ·rw[hold _ a1,a3,h5]
  ·rw[hold _ a1];omega
  rw[hold _ a1,a2] at hc;cases hc
 by_cases c:j<ps.length
 ·rw[hold j c,hold a oo] at he ⊢;rcases h.nd a j haj c he with h8|h8
  ·exact .inl (hac h8 c)
  exact .inr h8
 have:j=ps.length:=oo;subst this;rw[hnew,hold a haj,h5] at he;rw[hnew,hold a haj];obtain⟨t1,b1,b2,b3,b4⟩:=h.tk a haj;rw[he,hk] at b1;cases b1;cases hca:(ps.getD a default).closed with
 | true=>exact .inr ⟨rfl,by have:=b3 hca;omega⟩
 | false=>
  obtain⟨r,hr,er⟩:=ZM (b4 hca);have:=hstk.SV t.open_.length r hr A6;rw[show(t.open_++[ps.length]).getD t.open_.length 0=ps.length by simp,show(t.open_++[ps.length]).getD r 0=t.open_.getD r 0 by simp[Ec hr],er] at this;exact .inl this
end
def gC{α:Type}(g:Int->α)(k:Int)(x y:α):Ae (Ae g k x) k y=Ae g k y:=by funext k';unfold Ae;split<;>rfl
def Nst.all{p0:Int->List UInt8->Prop}{T:Int}{k e m:Int}{tr:Int->Option CO}:∀(n:Nat) (l:List Nat) (ps:List B0),l.length=n->Nst p0 T ps (Ae tr k (some ⟨l,e,m⟩))->m<=T->Nst p0 T (Du ps l m) (Ae tr k (some ⟨[],e,m⟩))
 | 0,l,ps,hl,h,_=>by
  have:l=[]:=G3 hl;subst this;exact h
 | n+1,l,ps,hl,h,hm=>by
  have hne:l≠[]:=λe=>by rw[e] at hl;cases hl
  obtain⟨op,i,rfl⟩:∃op i,l=op++[i]:=⟨l.dropLast,l.getLast hne,(Vr hne).symm⟩;have h1:=h.shut (k:=k) (t:=⟨op++[i],e,m⟩) (CQ ..) rfl (m:=m) (T':=T) true e (EP _) hm (EP _);rw[gC] at h1;have:=Nst.all n op _ Hb h1 hm;have e2:Du ps (op++[i]) m=Du (ps.set i ((ps.getD i default).shut m true)) op m:=by simp[Du,aB]
  rw[e2];exact this
def ky{p0:Int->List UInt8->Prop}{T:Int}{ps:List B0}{tr:Int->Option CO}(h:Nst p0 T ps tr){x:AN}{t:CO}(hk:tr x.A0=some t)(hT:T<=Am x.lo)(hx:x.ev.kind=1->p0 x.A0 x.ev.name):Nst p0 (Am x.lo) (evT ps t.open_ tr x).1 (evT ps t.open_ tr x).2:=by
 have hm:=h.tm _ _ hk;have hr:=h.raise hk (m:=Am x.lo) (T':=Am x.lo) (x.AB+1) oo (EP _) hT;unfold evT;split
 ·rename_i k1;have:=hr.push (CQ ..) (Qt x ps.length t.open_) (x.AB+1) rfl rfl rfl (hx k1) rfl rfl rfl;rw[gC] at this;exact this
 split
 ·by_cases e:t.open_=[]
  ·rw[AD e];rw[e] at hr ⊢;exact hr
  rw[A7 e];have:=h.shut hk (Vr e).symm (m:=Am x.lo) (T':=Am x.lo) false (x.AB+1) oo (EP _) hT;rw[show t.open_.getD (t.open_.length-1) 0=t.open_.getLast e by rw[B5,<-lF,TJ e];rfl];exact this
 exact hr
def w_{p0:Int->List UInt8->Prop}{T:Int}{g:Bd}(h:Nst p0 T g.1 g.2)(h0:0<=T)(x:AN)(hT:T<=Am x.lo)(hx:x.ev.kind=1->p0 x.A0 x.ev.name):Nst p0 (Am x.lo) (evB g x).1 (evB g x).2:=by
 obtain⟨ps,tr⟩:=g;simp only at h;have h1:Nst p0 T ps (Ae tr x.A0 (some ((tr x.A0).getD CO.new))):=by
  cases ht:tr x.A0 with
  | none=>exact h.fresh h0 ht
  | some t=>rw[EA,<-ht,Q5];exact h
 unfold evB;simp only;generalize (tr x.A0).getD CO.new=t at *;have hk:(Ae tr x.A0 (some t)) x.A0=some t:=CQ ..;split
 ·have:=ky h1 hk hT hx;rw[Tv] at this;exact this
 have h2:=Nst.all (e:=t.expect) (m:=t.last) t.open_.length t.open_ ps rfl h1 ((h1.tm _ _ hk).2);have:=ky h2 (t:=⟨[],t.expect,t.last⟩) (CQ ..) hT hx;rw[Tv] at this;exact this
def py(p0:Int->List UInt8->Prop):Nst p0 0 bd0.1 bd0.2:=⟨λi hi=>absurd hi (F9 _),λi hi=>absurd hi (F9 _),λk t h=>Pd,λk t h=>Pd,λi hi=>absurd hi (F9 _),λi j h hj=>absurd hj (F9 _)⟩
def js{p0:Int->List UInt8->Prop}:∀(o:List AN) (T:Int) (g:Bd),0<=T->Nst p0 T g.1 g.2->(∀x∈o,T<=Am x.lo)->(o.Pairwise λa b=>Am a.lo<=Am b.lo)->(∀x∈o,x.ev.kind=1->p0 x.A0 x.ev.name)->∃T',0<=T'/\(T'=T\/∃x∈o,T'=Am x.lo)/\Nst p0 T' (o.foldl evB g).1 (o.foldl evB g).2
 | [],T,g,h0,h,_,_,_=>⟨T,h0,.inl rfl,h⟩
 | x::r,T,g,h0,h,hT,hp,hx=>by
  have h1:=w_ h h0 x (hT x DE) (hx x DE);obtain⟨T',a,b,c⟩:=js r (Am x.lo) (evB g x) (Iq _) h1 (IV.1 hp).1 (IV.1 hp).2 λy hy=>hx y (Cy _ hy);refine⟨T',a,?_,c⟩;rcases b with b|⟨y,hy,b⟩
  ·exact .inr ⟨x,DE,b⟩
  exact .inr ⟨y,Cy _ hy,b⟩

structure Pcs(p0:Int->List UInt8->Prop)(en:Int)(ps:List B0):Prop where
 num:∀i,i<ps.length->(ps.getD i default).number=i/\(ps.getD i default).s.depth=0/\0<=(ps.getD i default).s.lo/\(ps.getD i default).s.lo<=(ps.getD i default).s.hi/\(ps.getD i default).s.hi<=en/\p0 (ps.getD i default).s.A0 (ps.getD i default).s.name
 ar:∀i,i<ps.length->arP ps i=-1\/∃a:Nat,a<i/\arP ps i=a/\(ps.getD a default).s.A0=(ps.getD i default).s.A0/\(ps.getD a default).s.lo<=(ps.getD i default).s.lo/\(ps.getD i default).s.hi<=(ps.getD a default).s.hi
 nd:∀i j,i<j->j<ps.length->(ps.getD i default).s.A0=(ps.getD j default).s.A0->Anc (arP ps) i j\/(ps.getD i default).s.hi<=(ps.getD j default).s.lo
def Nst.Hr{p0:Int->List UInt8->Prop}{T en:Int}{g:Bd}(h:Nst p0 T g.1 g.2)(he:T<=en):Pcs p0 en (Fe g en):=by
 obtain⟨ps,tr⟩:=g;simp only at h;have hlen:(Fe (ps,tr) en).length=ps.length:=by simp[Fe]
 have hg:∀i,i<ps.length->(Fe (ps,tr) en).getD i default=if(ps.getD i default).closed=true then ps.getD i default else(ps.getD i default).shut en true:=λi hi=>by
  simp[Fe,hi]
 have hs:∀i,i<ps.length->((Fe (ps,tr) en).getD i default).number=(ps.getD i default).number/\((Fe (ps,tr) en).getD i default).s.depth=(ps.getD i default).s.depth/\((Fe (ps,tr) en).getD i default).s.lo=(ps.getD i default).s.lo/\((Fe (ps,tr) en).getD i default).s.A0=(ps.getD i default).s.A0/\((Fe (ps,tr) en).getD i default).s.name=(ps.getD i default).s.name/\arP (Fe (ps,tr) en) i=arP ps i:=λi hi=>by
  unfold arP;rw[hg i hi];split<;>exact⟨rfl,rfl,rfl,rfl,rfl,rfl⟩
 have hc:∀i,i<ps.length->(ps.getD i default).closed=true->((Fe (ps,tr) en).getD i default).s.hi=(ps.getD i default).s.hi:=λi hi c=>by rw[hg i hi,AD c]
 have hn:∀i,i<ps.length->(ps.getD i default).closed=false->((Fe (ps,tr) en).getD i default).s.hi=en:=λi hi c=>by rw[hg i hi,A7 (by rw[c];simp)];rfl
 generalize Fe (ps,tr) en=pf at *;have htop:∀i,i<ps.length->(ps.getD i default).s.lo<=(pf.getD i default).s.hi/\(pf.getD i default).s.hi<=en:=λi hi=>by
  obtain⟨t,a1,a2,a3,a4⟩:=h.tk i hi;have:=h.tm _ _ a1;cases c:(ps.getD i default).closed with
  | true=>have b:=a3 c;rw[hc i hi c];omega
  | false=>rw[hn i hi c];omega
 refine⟨λi hi=>?_,λi hi=>?_,λi j hij hj he=>?_⟩
 ·obtain⟨e1,e2,e3,e4,e5,e6⟩:=hs i oo;have:=htop i oo;rw[e1,e2,e3,e4,e5];obtain⟨n1,n2,n3,n4⟩:=h.num i oo;exact⟨n1,n2,n3,this.1,this.2,n4⟩
 ·obtain⟨e1,e2,e3,e4,e5,e6⟩:=hs i oo;rw[e6,e3,e4];rcases h.ar i oo with h1|⟨a,g1,g2,g3,g4,g5⟩
  ·exact .inl h1
  obtain⟨_,_,f3,f4,_⟩:=hs a oo;refine .inr ⟨a,g1,g2,by rw[f4];exact g3,by rw[f3];exact g4,?_⟩;cases c:(ps.getD a default).closed with
  | true=>rw[hc a oo c,hc i oo (g5 c).1];exact(g5 c).2
  | false=>rw[hn a oo c];exact(htop i oo).2
 obtain⟨_,_,e3,e4,_⟩:=hs j oo;obtain⟨_,_,f3,f4,_⟩:=hs i oo;rw[e4,f4] at he;rcases h.nd i j hij oo he with h1|⟨h1,h2⟩
 ·exact .inl (h1.congr (n:=ps.length) (λi hi=>(hs i hi).2.2.2.2.2) h.lt oo)
 rw[hc i oo h1,e3];exact .inr h2
def xj{α:Type}[Inhabited α]{lt:α->α->Bool}{num:α->Int}(neg:∀a b c,lt a b=false->lt b c=false->lt a c=false)(asy:∀a b,lt a b=true->lt b a=false){l:List α}(hn:l.Pairwise λa b=>num a<num b):
  (DZ lt l).Pairwise λa b=>lt b a=false/\(lt a b=false->num a<num b):=by
 have split:∀(l:List α) (b:α),(l.Pairwise λa b=>lt b a=false/\(lt a b=false->num a<num b))->∃x y,l=x++y/\(∀a∈x,lt b a=false)/\(∀a∈y,lt b a=true):=by
  intro l b h
  induction l with
  | nil=>exact⟨[],[],rfl,λa h=>D8,λa h=>D8⟩
  | cons c l ih=>
   rw[IV] at h;obtain⟨x,y,rfl,h1,h2⟩:=ih h.2;cases hc:lt b c with
   | true=>
    refine⟨[],c::(x++y),rfl,λa h=>D8,λa ha=>?_⟩;rcases Bw.1 ha with rfl|ha
    ·exact hc
    cases hba:lt b a with
    | true=>rfl
    | false=>have:=neg b a c hba (h.1 a ha).1;rw[hc] at this;cases this
   | false=>
    exact oF
 have gen:∀(r a:List α),(a.Pairwise λa b=>lt b a=false/\(lt a b=false->num a<num b))->(∀x∈a,∀y∈r,num x<num y)->(r.Pairwise λa b=>num a<num b)->(r.foldl (G6 lt) a).Pairwise λa b=>lt b a=false/\(lt a b=false->num a<num b):=by
  intro r
  induction r with
  | nil=>intro a h _ _;exact h
  | cons b r ih=>
   intro a h ha hr;have hb:∀x∈a,num x<num b:=λx hx=>ha x hx b DE;rw[GQ];refine ih _ ?_ (λx hx y hy=>?_) (IV.1 hr).2
   ·obtain⟨x,y,rfl,h1,h2⟩:=split a b h;rw[dI h1 h2];rw[JZ] at h ⊢;obtain⟨p,q,r⟩:=h;refine⟨p,IV.2 ⟨λa ha=>⟨asy _ _ (h2 a ha),λhf=>?_⟩,q⟩,λa1 ha1 c1 hc1=>?_⟩
    ·rw[h2 a ha] at hf;cases hf
    rcases Bw.1 hc1 with e1|hc1
    ·rw[e1];exact⟨h1 a1 ha1,λ_=>hb a1 (Hw _ ha1)⟩
    exact r a1 ha1 c1 hc1
   rcases fU.1 hx with h3|rfl
   ·exact ha x h3 y (Cy _ hy)
   exact(IV.1 hr).1 y hy
 exact gen l [] .nil (λx hx=>Jd) hn
def Nf(a b:B0):Prop:=HG a.s b.s<0\/(¬HG b.s a.s<0/\a.number<b.number)
def KU(a b:B0):Nf a b↔a.s.lo<b.s.lo\/a.s.lo=b.s.lo/\(b.s.hi<a.s.hi\/b.s.hi=a.s.hi/\(a.s.A0<b.s.A0\/a.s.A0=b.s.A0/\a.number<b.number)):=by
 unfold Nf;simp only[Ud];omega
def fj{l:List B0}(hn:l.Pairwise λa b=>a.number<b.number):(HI l).Pairwise Nf:=by
 have hp:=Wv (λp:B0=>p.s);have:=xj (lt:=λa b:B0=>decide (HG a.s b.s<0)) (num:=B0.number) (λa b c h1 h2=>by
  simp only[GG] at *;exact hp.inc _ _ _ h1 h2) (λa b h=>by
  simp only[CZ,GG] at *
  intro h2;exact hp.Qc _ (hp.tr _ _ _ h h2)) hn
 refine this.imp λ{a b} h=>?_;obtain⟨h1,h2⟩:=h;simp only[GG] at h1 h2;by_cases h3:HG a.s b.s<0
 ·exact .inl h3
 exact .inr ⟨h1,h2 h3⟩
def OS{α:Type}[Inhabited α]{R:α->α->Prop}{l:List α}(h:l.Pairwise R){i j:Nat}(hij:i<j)(hj:j<l.length):R (l.getD i default) (l.getD j default):=by
 exact oe
def ZU{q:List B0}(hq:q.Pairwise Nf)(hd:∀a∈q,∀b∈q,a.number=b.number->a=b)(h0:∀a∈q,0<=a.number):∀(k v:Nat),k<=q.length->v<k->plO q k (q.getD v default).number=some (v:Int)
 | 0,v,_,hv=>oo
 | k+1,v,hk,hv=>by
  unfold plO;by_cases e:v=k
  ·subst e;rw[AD rfl]
  rw[A7 λe1=>?_]
  ·exact ZU hq hd h0 k v oo oo
  have hb:=OS hq (oo:v<k) (oo:k<q.length);have:=hd _ (Ba (oo:v<q.length)) _ (Ba (oo:k<q.length)) e1;rw[this,KU] at hb;omega
def U0{q:List B0}(h0:∀a∈q,0<=a.number):∀k,k<=q.length->plO q k (-1)=some (-1)
 | 0,_=>rfl
 | k+1,hk=>by
  unfold plO;rw[A7,U0 h0 k oo];have:=h0 _ (Ba (oo:k<q.length));omega

section
variable {p0:Int->List UInt8->Prop} {en:Int} {pf:List B0}
def Pcs.lt(h:Pcs p0 en pf):∀i,i<pf.length->arP pf i<i:=λi hi=>by
 rcases h.ar i hi with h1|⟨a,h1,h2,_⟩<;>omega
def Pcs.SV(h:Pcs p0 en pf){a n:Nat}(ha:Anc (arP pf) a n)(hn:n<pf.length):a<n/\(pf.getD a default).s.A0=(pf.getD n default).s.A0/\(pf.getD a default).s.lo<=(pf.getD n default).s.lo/\(pf.getD n default).s.hi<=(pf.getD a default).s.hi:=by
 induction ha with
 | @one j h1=>
  rcases h.ar j hn with h2|⟨b,g1,g2,g3,g4,g5⟩
  ·omega
  have:b=a:=oo;subst this;exact⟨g1,g3,g4,g5⟩
 | @step m j h1 h2 ih=>
  rcases h.ar j hn with h3|⟨b,g1,g2,g3,g4,g5⟩
  ·omega
  have:b=m:=oo;subst this;obtain⟨i1,i2,i3,i4⟩:=ih oo;exact⟨oo,i2.trans g3,oo,oo⟩
def Hn(pf:List B0)(n:Nat):Prop:=(pf.getD n default).s.lo<(pf.getD n default).s.hi
def fN(pf:List B0):Ex pf (-1)=-1:=by rw[Ex,PQ oo]
def iE(h:Pcs p0 en pf):∀N n:Nat,n<=N->n<pf.length->(Ex pf n=-1/\∀a,(a=n\/Anc (arP pf) a n)->¬Hn pf a)\/∃m:Nat,Ex pf n=m/\m<pf.length/\Hn pf m/\(m=n\/Anc (arP pf) m n)/\∀a,(a=n\/Anc (arP pf) a n)->Hn pf a->a=m\/Anc (arP pf) a m
 | N,n,hN,hn=>by
  obtain⟨_,_,_,hle,_⟩:=h.num n hn;by_cases hl:Hn pf n
  ·refine .inr ⟨n,?_,hn,hl,.inl rfl,λa ha _=>ha⟩;rw[Ex,PQ];unfold Hn at hl;rw[Dw];omega
  have hstep:Ex pf n=Ex pf (arP pf n):=by
   rw[Ex,JR]
   ·rfl
   unfold Hn at hl;rw[Dw];have:=h.lt n hn;unfold arP at this;exact⟨oo,oo,this⟩
  rcases h.ar n hn with h1|⟨p,g1,g2,_⟩
  ·rw[hstep,h1,fN];refine .inl ⟨rfl,λa ha=>?_⟩;rcases ha with rfl|ha
   ·exact hl
   cases ha with
   | one h2=>omega
   | step h2 _=>omega
  have hanc:∀a,Anc (arP pf) a n->a=p\/Anc (arP pf) a p:=λa ha=>by
   cases ha with
   | one h2=>left;omega
   | @step m _ h2 h3=>
    have:m=p:=oo;subst this;exact .inr h3
  cases N with
  | zero=>omega
  | succ N=>
   rw[hstep,g2];rcases iE h N p oo oo with⟨i1,i2⟩|⟨m,i1,i2,i3,i4,i5⟩
   ·refine .inl ⟨i1,λa ha=>?_⟩;rcases ha with rfl|ha
    ·exact hl
    exact i2 a (hanc a ha)
   refine .inr ⟨m,i1,i2,i3,.inr ?_,λa ha hla=>?_⟩
   ·rcases i4 with rfl|i4
    ·exact .one g2
    exact .step g2 i4
   rcases ha with rfl|ha
   ·exact absurd hla hl
   exact i5 a (hanc a ha) hla
structure Qs(pf q:List B0):Prop where
 Qd:q.Pairwise Nf
 mem:∀x,x∈q↔∃n,n<pf.length/\Hn pf n/\x=pf.getD n default
 len:q.length<=pf.length
def Pcs.qs(h:Pcs p0 en pf):Qs pf (HI (pf.filter GM)):=by
 have hn:pf.Pairwise λa b=>a.number<b.number:=Hv.2 λi j hi hj hij=>by
  have h1:=(h.num i hi).1;have h2:=(h.num j hj).1;simp only[B5,BP hi,BP hj,EA] at h1 h2;omega
 refine⟨fj (hn.sublist aX),λx=>?_,?_⟩
 ·have:x∈HI (pf.filter GM)↔x∈pf.filter GM:=(LL _ _).mem_iff;rw[this,GP];constructor
  ·rintro⟨h1,h2⟩;obtain⟨n,hn,e⟩:=Gd h1;have e2:pf.getD n default=x:=by simp[hn,e]
   exact⟨n,hn,by unfold Hn;rw[e2];simpa[GM] using h2,e2.symm⟩
  rintro⟨n,hn,hl,rfl⟩;exact⟨Ba hn,by unfold GM;simpa[Hn] using hl⟩
 unfold HI;rw[MG];exact Ge _ _
def Qs.at(h:Pcs p0 en pf){q:List B0}(hq:Qs pf q){i:Nat}(hi:i<q.length):∃n,n<pf.length/\Hn pf n/\q.getD i default=pf.getD n default/\(q.getD i default).number=n:=by
 obtain⟨n,h1,h2,h3⟩:=(hq.mem _).1 (Ba hi);exact⟨n,h1,h2,h3,by rw[h3];exact(h.num n h1).1⟩
def Qs.inj(h:Pcs p0 en pf){q:List B0}(hq:Qs pf q):∀a∈q,∀b∈q,a.number=b.number->a=b:=λa ha b hb e=>by
 obtain⟨n,h1,h2,rfl⟩:=(hq.mem _).1 ha;obtain⟨m,g1,g2,rfl⟩:=(hq.mem _).1 hb;rw[(h.num n h1).1,(h.num m g1).1] at e;rw[show n=m by omega]
def Qs.n0(h:Pcs p0 en pf){q:List B0}(hq:Qs pf q):∀a∈q,0<=a.number:=λa ha=>by
 obtain⟨n,h1,h2,rfl⟩:=(hq.mem _).1 ha;rw[(h.num n h1).1];omega
def Qs.find{q:List B0}(hq:Qs pf q){n:Nat}(hn:n<pf.length)(hl:Hn pf n):∃v,v<q.length/\q.getD v default=pf.getD n default:=by
 obtain⟨v,hv,e⟩:=Gd ((hq.mem _).2 ⟨n,hn,hl,rfl⟩);exact⟨v,hv,by simp[hv,e]⟩
def Qs.ord(h:Pcs p0 en pf){q:List B0}(hq:Qs pf q){i v n m:Nat}(hi:i<q.length)(hv:v<q.length)(en1:q.getD i default=pf.getD n default)(em:q.getD v default=pf.getD m default)(hn:n<pf.length)(ha:Anc (arP pf) m n):v<i:=by
 obtain⟨h1,h2,h3,h4⟩:=h.SV ha hn;have hb:Nf (q.getD v default) (q.getD i default):=by
  rw[en1,em,KU,(h.num n hn).1,(h.num m oo).1];omega
 rcases HA v i with h5|h5|h5
 ·exact h5
 ·subst h5;rw[KU] at hb;omega
 have:=OS hq.Qd h5 hv;rw[KU] at hb this;omega
def Qs.par(h:Pcs p0 en pf){q:List B0}(hq:Qs pf q){i n:Nat}(hi:i<q.length)(hn:n<pf.length)(e:q.getD i default=pf.getD n default):
  (plO q (i+1) (Ex pf (q.getD i default).Aq)=some (-1)/\prP pf q i=-1/\∀a,Anc (arP pf) a n->¬Hn pf a) \/
  ∃v m:Nat,v<i/\m<pf.length/\q.getD v default=pf.getD m default/\plO q (i+1) (Ex pf (q.getD i default).Aq)=some (v:Int)/\prP pf q i=v/\Anc (arP pf) m n/\∀a,Anc (arP pf) a n->Hn pf a->a=m\/Anc (arP pf) a m:=by
 have ha:(q.getD i default).Aq=arP pf n:=by rw[e];rfl
 have hpl:∀v,plO q (i+1) (Ex pf (q.getD i default).Aq)=some v->prP pf q i=v:=λv hv=>by unfold prP;rw[hv];rfl
 rcases h.ar n hn with h1|⟨p,g1,g2,_⟩
 ·have e1:plO q (i+1) (Ex pf (q.getD i default).Aq)=some (-1):=by rw[ha,h1,fN];exact U0 (hq.n0 h) _ oo
  refine .inl ⟨e1,hpl _ e1,λa hA=>?_⟩;cases hA with
  | one h2=>omega
  | step h2 _=>omega
 have hanc:∀a,Anc (arP pf) a n->a=p\/Anc (arP pf) a p:=λa ha=>by
  cases ha with
  | one h2=>left;omega
  | @step m _ h2 h3=>
   have:m=p:=oo;subst this;exact .inr h3
 rcases iE h p p (AR _) oo with⟨i1,i2⟩|⟨m,i1,i2,i3,i4,i5⟩
 ·have e1:plO q (i+1) (Ex pf (q.getD i default).Aq)=some (-1):=by rw[ha,g2,i1];exact U0 (hq.n0 h) _ oo
  exact .inl ⟨e1,hpl _ e1,λa hA=>i2 a (hanc a hA)⟩
 have hmn:Anc (arP pf) m n:=by
  rcases i4 with rfl|i4
  ·exact .one g2
  exact .step g2 i4
 obtain⟨v,hv,ev⟩:=hq.find i2 i3;have hvi:=hq.ord h hi hv e ev hn hmn;have e1:plO q (i+1) (Ex pf (q.getD i default).Aq)=some (v:Int):=by
  have:=ZU hq.Qd (hq.inj h) (hq.n0 h) (i+1) v oo oo;rw[ev,(h.num m i2).1] at this;rw[ha,g2,i1];exact this
 exact .inr ⟨v,m,hvi,i2,ev,e1,hpl _ e1,hmn,λa hA=>i5 a (hanc a hA)⟩
def Pcs.ok(h:Pcs p0 en pf)(he:en<=1000000000000):cF pf:=by
 refine⟨λi hi=>?_,λp hp=>?_,λi hi=>?_⟩
 ·have:(pf.getD i default).Aq=arP pf i:=rfl;rw[this];rcases h.ar i hi with h1|⟨a,h1,h2,_⟩<;>omega
 ·obtain⟨n,hn,e⟩:=Gd hp;obtain⟨_,h2,h3,h4,h5,_⟩:=h.num n hn;have e2:pf.getD n default=p:=by simp[hn,e]
  rw[e2] at h2 h3 h4 h5;exact⟨h2,h3,h4,oo⟩
 obtain⟨n,h1,h2,h3,h4⟩:=h.qs.at h hi;rcases h.qs.par h hi h1 h3 with⟨e,_⟩|⟨v,m,hv,_,_,e,_⟩
 ·exact⟨_,e,oo,oo⟩
 exact⟨_,e,oo,oo⟩
end

def Nb(s:Ac):Int:=s.hi-s.lo
def K0(Q:List Ac)(pr:Nat->Int)(i:Nat):Nat->Int
 | 0=>0
 | k+1=>K0 Q pr i k+if pr k=i then Nb (Q.getD k default) else 0
def Q1h{out:List Ac}{s:Ac}{par:Int}{k:Nat}(hk:out.length=k)(hp:-1<=par/\par<k):
  (∀i,i<k->(GJ out s par).getD i default={out.getD i default with self:=(out.getD i default).self-if par=i then Nb s else 0}) /\
  (GJ out s par).getD k default={s with parent:=par,self:=Nb s,depth:=if 0<=par then(out.getD par.toNat default).depth+1 else s.depth}:=by
 unfold GJ;split
 ·rename_i h0;have hl:par.toNat<out.length:=oo;refine⟨λi hi=>?_,?_⟩
  ·rw[B5,Ec (by simpa[hk] using hi),H_];by_cases e:par.toNat=i
   ·rw[AD e,AD oo,AD oo];subst e;rfl
   rw[A7 e,A7 oo,Int.sub_zero];rfl
  rw[B5,G2 (by simp[hk])];simp[hk];rfl
 rename_i h0;refine⟨λi hi=>?_,?_⟩
 ·rw[B5,Ec oo,A7 oo,Int.sub_zero];rfl
 rw[B5,G2 oo,hk,FA];rfl
structure pQ(Q:List Ac)(pr:Nat->Int)(k:Nat)(out:List Ac)(i:Nat):Prop where
 th:(out.getD i default).A0=(Q.getD i default).A0
 nm:(out.getD i default).name=(Q.getD i default).name
 lo:(out.getD i default).lo=(Q.getD i default).lo
 hi:(out.getD i default).hi=(Q.getD i default).hi
 op:(out.getD i default).open_=(Q.getD i default).open_
 par:(out.getD i default).parent=pr i
 dp:(out.getD i default).depth=if 0<=pr i then(out.getD (pr i).toNat default).depth+1 else(Q.getD i default).depth
 sf:(out.getD i default).self=Nb (Q.getD i default)-K0 Q pr i k
def ig{Q:List Ac}{pr:Nat->Int}(hp:∀i,i<Q.length->-1<=pr i/\pr i<i){i:Nat}:∀k,k<=i+1->k<=Q.length->K0 Q pr i k=0
 | 0,_,_=>rfl
 | k+1,h,h2=>by
  have:=hp k oo;rw[K0,ig hp k oo oo,A7 oo];rfl
def Yh{Q:List Ac}{pr:Nat->Int}(hp:∀i,i<Q.length->-1<=pr i/\pr i<i):∀k,k<=Q.length->∀i,i<k->pQ Q pr k (CW Q pr k) i
 | 0,_,i,h=>oo
 | k+1,hk,i,h=>by
  have hpk:=hp k oo;have hl:=Jr Q pr k;obtain⟨a1,a2⟩:=Q1h (s:=Q.getD k default) hl hpk;have e:CW Q pr (k+1)=GJ (CW Q pr k) (Q.getD k default) (pr k):=rfl;rw[e];have hdep:∀j,j<k->((GJ (CW Q pr k) (Q.getD k default) (pr k)).getD j default).depth=((CW Q pr k).getD j default).depth:=λj hj=>by rw[a1 j hj]
  by_cases e1:i=k
  ·subst e1;refine⟨by rw[a2],by rw[a2],by rw[a2],by rw[a2],by rw[a2],by rw[a2],?_,?_⟩
   ·rw[a2];exact ng
   rw[a2,ig hp _ (AR _) hk];simp
  have hi:=Yh hp k oo i oo;have hpi:=hp i oo;have e2:=a1 i oo;refine⟨by rw[e2];exact hi.th,by rw[e2];exact hi.nm,by rw[e2];exact hi.lo,by rw[e2];exact hi.hi,by rw[e2];exact hi.op,by rw[e2];exact hi.par,?_,?_⟩
  ·rw[e2];show((CW Q pr k).getD i default).depth=_;rw[hi.dp];exact ng
  rw[e2];show((CW Q pr k).getD i default).self-_=_;rw[hi.sf,K0];omega
def jg{Q:List Ac}{pr:Nat->Int}{i:Nat}(hb:∀s∈Q,0<=s.lo/\s.lo<s.hi/\s.hi<=1000000000000):∀k,k<=Q.length->0<=K0 Q pr i k/\K0 Q pr i k<=1000000000000*(k:Int)
 | 0,_=>⟨EP _,by simp[K0]⟩
 | k+1,hk=>by
  have:=jg (pr:=pr) (i:=i) hb k oo;have:=hb _ (Ba (oo:k<Q.length));unfold K0 Nb;split<;>omega
def fh{Q L:List Ac}{pr:Nat->Int}(hb:∀s∈Q,0<=s.lo/\s.lo<s.hi/\s.hi<=1000000000000)(hn:Q.length<=1000)(hL:∀j,j<Q.length->(L.getD j default).parent=pr j/\(L.getD j default).lo=(Q.getD j default).lo/\(L.getD j default).hi=(Q.getD j default).hi){i:Nat}(hi:i<Q.length):∀k,k<=Q.length->Hz L i k=Nb (Q.getD i default)-K0 Q pr i k
 | 0,_=>by
  have:=hb _ (Ba hi);obtain⟨_,h2,h3⟩:=hL i hi;unfold Hz K0 Nb;rw[h2,h3,IL oo oo];omega
 | k+1,hk=>by
  have ih:=fh hb hn hL hi k oo;have h1:=hb _ (Ba (oo:k<Q.length));have h0:=hb _ (Ba hi);have hc:=jg (pr:=pr) (i:=i) hb k oo;obtain⟨p1,p2,p3⟩:=hL k oo;unfold Hz K0;rw[p1,p2,p3,ih];have hkk:1000000000000*(k:Int)<=1000000000000000:=oo;by_cases e:pr k=i
  ·rw[AD J5,AD e];unfold Nb at *;rw[IL (n:=(Q.getD k default).hi-(Q.getD k default).lo) oo oo,IL oo oo];omega
  rw[A7 J5,A7 e];omega
section
variable {p0:Int->List UInt8->Prop} {en:Int} {pf:List B0}
def cg(h:Pcs p0 en pf){q:List B0}(hq:Qs pf q){L:List Ac}(hL:∀j,j<q.length->(L.getD j default).parent=prP pf q j):∀i,i<q.length->∀j n m,j<q.length->n<pf.length->q.getD i default=pf.getD n default->q.getD j default=pf.getD m default->Hn pf m->Anc (arP pf) m n->IG L j i=true
 | i,hi,j,n,m,hj,hn,e1,e2,hlm,ha=>by
  have hji:=hq.ord h hi hj e1 e2 hn ha;rcases hq.par h hi hn e1 with⟨_,_,hno⟩|⟨v,m',hv,hm',ev,_,hpr,hmn,hcl⟩
  ·exact absurd hlm (hno m ha)
  rw[IG,JR oo,A7 oo];have hp:=hL i hi;rw[Dw,hp,hpr,JR oo];rcases hcl m ha hlm with rfl|hA
  ·have hnum:=(hq.at h hj);have:j=v:=by
    rcases HA j v with h5|h5|h5
    ·have:=OS hq.Qd h5 oo;rw[e2,ev,KU] at this;omega
    ·exact h5
    have:=OS hq.Qd h5 hj;rw[e2,ev,KU] at this;omega
   subst this;rw[IG,JR oo,AD rfl]
  exact cg h hq hL v oo j m' m hj hm' ev e2 hlm hA
def zr(h:Pcs p0 en pf)(he:en<=1000000000000)(hp0:∀t nm,p0 t nm->0<=t/\t<=1000000000000000/\FE nm=0)(hl:pf.length<=1000){q:List B0}(hqe:q=HI (pf.filter GM)):
  Ik (CW (q.map B0.s) (prP pf q) q.length)=0/\∀x∈CW (q.map B0.s) (prP pf q) q.length,0<=x.lo/\x.lo<x.hi/\x.hi<=en/\p0 x.A0 x.name:=by
 have hq:Qs pf q:=by rw[hqe];exact h.qs
 clear hqe;have hlq:=hq.len;have hQl:(q.map B0.s).length=q.length:=BW ..;have hQg:∀i,i<q.length->(q.map B0.s).getD i default=(q.getD i default).s:=λi hi=>RG;have hpr:∀i,i<(q.map B0.s).length->-1<=prP pf q i/\prP pf q i<i:=λi hi=>by
  rw[hQl] at hi;obtain⟨n,h1,h2,h3,_⟩:=hq.at h hi;rcases hq.par h hi h1 h3 with⟨_,e,_⟩|⟨v,m,hv,_,_,_,e,_⟩<;>rw[e]<;>omega
 have hoi:=Yh hpr q.length oo;have hol:=Jr (q.map B0.s) (prP pf q) q.length;have hQb:∀s∈q.map B0.s,0<=s.lo/\s.lo<s.hi/\s.hi<=1000000000000:=λs hs=>by
  obtain⟨x,hx,rfl⟩:=C4.1 hs;obtain⟨n,h1,h2,rfl⟩:=(hq.mem x).1 hx;have:=h.num n h1;unfold Hn at h2;omega
 have hdb:=Rn (q:=q.map B0.s) (pr:=prP pf q) (λs hs=>by
  have:=hQb s hs
  obtain⟨x,hx,rfl⟩:=C4.1 hs
  obtain⟨n,h1,h2,rfl⟩:=(hq.mem x).1 hx
  exact⟨(h.num n h1).2.1,oo,oo,oo⟩) hpr q.length oo
 have hdb2:∀i,i<q.length->0<=((CW (q.map B0.s) (prP pf q) q.length).getD i default).depth/\((CW (q.map B0.s) (prP pf q) q.length).getD i default).depth<=1000:=λi hi=>by
  have:=hdb _ (Ba (show i<_ by rw[hol];exact hi));omega
 have hz:∀i,i<q.length->0<=((CW (q.map B0.s) (prP pf q) q.length).getD i default).lo/\((CW (q.map B0.s) (prP pf q) q.length).getD i default).lo<((CW (q.map B0.s) (prP pf q) q.length).getD i default).hi/\((CW (q.map B0.s) (prP pf q) q.length).getD i default).hi<=en/\p0 ((CW (q.map B0.s) (prP pf q) q.length).getD i default).A0 ((CW (q.map B0.s) (prP pf q) q.length).getD i default).name:=λi hi=>by
  have ho:=hoi i hi;rw[ho.lo,ho.hi,ho.th,ho.nm,hQg i hi];obtain⟨n,h1,h2,h3,_⟩:=hq.at h hi;rw[h3];obtain⟨_,_,b1,b2,b3,b4⟩:=h.num n h1;exact⟨b1,h2,b3,b4⟩
 generalize hOO:CW (q.map B0.s) (prP pf q) q.length=L at *;refine⟨?_,λx hx=>?_⟩
 ·have c1:Bh (K5 L) L.length=0:=Om λk hk=>by
   rw[hol] at hk;obtain⟨z1,z2,z3,z4⟩:=hz k hk;obtain⟨w1,w2,w3⟩:=hp0 _ _ z4;unfold K5;rw[A7,A7 (by rw[w3];simp),A7]
   ·simp only[C5,CZ];rintro⟨k0,hc⟩;have hb:=OS hq.Qd (oo:k-1<k) hk;have o1:=hoi (k-1) oo;have o2:=hoi k hk;have:HG (L.getD (k-1) default) (L.getD k default)=HG (q.getD (k-1) default).s (q.getD k default).s:=by
     unfold HG;rw[o1.lo,o1.hi,o1.th,o2.lo,o2.hi,o2.th,hQg _ oo,hQg _ hk]
    rw[this] at hc;rw[KU] at hb;simp only[HG,orL,EG] at hc
    repeat' split at hc
    all_goals omega
   exact oA
  have c2:Jl L=true:=by
   unfold Jl;refine EW.2 λi hi=>?_;rw[CI,hol] at hi;have oi:=hoi i hi;obtain⟨n,h1,h2,h3,_⟩:=hq.at h hi;have hpi:=hpr i oo;unfold JB;simp only;rw[oi.par,A7 (by simp only[Gc,CZ];omega)];rcases hq.par h hi h1 h3 with⟨_,e,_⟩|⟨v,m,hv,hm,ev,_,e,ha,_⟩
   ·have hd:=oi.dp;rw[e,A7 D7,hQg i hi,h3,(h.num n h1).2.1] at hd;rw[AD e,hd];rfl
   have hd:=oi.dp;rw[e,AD oo,Dw] at hd;obtain⟨a1,a2,a3,a4⟩:=h.SV ha h1;have ov:=hoi v oo;have hdv:=hdb2 v oo;rw[e,A7 oo,Dw,hd,IL oo oo,ov.th,ov.lo,ov.hi,oi.th,oi.lo,oi.hi,hQg v oo,hQg i hi,h3,ev,a2];simp[-List.getD_eq_getElem?_getD];exact⟨a3,a4⟩
  have c3:Mr L=true:=by
   unfold Mr;refine EW.2 λi hi=>?_;rw[CI,hol] at hi;have oi:=hoi i hi;obtain⟨n,h1,h2,h3,_⟩:=hq.at h hi;unfold NB;rw[C5];refine⟨EW.2 λj hj=>?_,?_⟩
   ·rw[CI,hol] at hj;have oj:=hoi j hj;obtain⟨m,g1,g2,g3,_⟩:=hq.at h hj;rw[K8,F_];unfold Rk;simp only[C5,CZ,GR,K8,ne_eq];rintro⟨⟨⟨⟨k1,k2⟩,k3⟩,k4⟩,k5⟩;rw[oi.lo,oj.hi,hQg i hi,hQg j hj,h3,g3] at k3;rw[oj.lo,oi.hi,hQg i hi,hQg j hj,h3,g3] at k4;rw[oi.th,oj.th,hQg i hi,hQg j hj,h3,g3] at k2;have key:Anc (arP pf) m n:=by
     rcases HA m n with c|c|c
     ·rcases h.nd m n c h1 k2 with d|d
      ·exact d
      omega
     ·subst c;have:=OS hq.Qd (oo:j<i) hi;rw[h3,g3,KU] at this;omega
     rcases h.nd n m c g1 k2.symm with d|d
     ·have:=hq.ord h hj hi g3 h3 g1 d;omega
     omega
    rw[cg h hq (λj hj=>(hoi j hj).par) i hi j n m hj h1 h3 g3 g2 key] at k5;cases k5
   rw[GR,oi.sf,hol];exact(fh hQb oo (λj hj=>by
    rw[hQl] at hj
    exact⟨(hoi j hj).par,(hoi j hj).lo,(hoi j hj).hi⟩) oo q.length oo).symm
  unfold Ik;rw[A7 (by rw[c1];simp),c2,c3];rfl
 obtain⟨i,hi,e⟩:=Gd hx;rw[hol] at hi;have:=hz i hi;rw[show L.getD i default=x by simp[e,show i<L.length by omega]] at this;exact this
end
end YtafpldmnkcegmaaGreat
end Go.Proofs
