/- A part of the proof: contracts of functions of this seat, and lemmas. No condition beyond those stated. -/
import Derived.Test.YtafpldmnkcegmaaGreatH2
import Derived.Test.YtafpldmnkcegmaaGreatG4
import Derived.Test.YtafpldmnkcegmaaGreatH1
import Derived.Lib.Mul64
import Derived.Laws.Bits64b
set_option linter.all false
set_option maxRecDepth 100000
namespace Go.Proofs
open Go.AM Tryz Go.Sort
namespace YtafpldmnkcegmaaGreat
variable {Gl:BM}
def spD(s:SpT):D:=.agg [.int .i64 s.lo,.int .i64 s.hi]
def DA(s:SpT):(spD s).isAgg=true:=rfl
def D5(s:SpT):(spD s).cells=[.int .i64 s.lo,.int .i64 s.hi]:=rfl
def cO:Go.Shelf.Ren:={f:=λx=>match x with|6=>111|15=>144|14=>143|28=>169|29=>170|20=>161|21=>162|22=>163|23=>164|24=>165|25=>166|26=>167|27=>168|46=>191|47=>192|48=>193|49=>194|50=>195|57=>213|n=>n,t:=λx=>match x with|22=>89|24=>33|25=>208|3=>3|39=>245|0=>0|53=>267|55=>269|4=>4|46=>261|45=>260|50=>140|5=>5|9=>9|66=>283|70=>287|76=>317|77=>318|n=>n,g:=λx=>x}
def cN:SlLaysF0.n6 prog cO:={mixed:=rfl,f6:=⟨Tryz.f111.name,Es rfl,func111.trans rfl⟩,f14:=⟨Tryz.f143.name,Es rfl,func143.trans rfl⟩,f15:=func144.trans rfl,f20:=⟨Tryz.f161.name,Es rfl,func161.trans rfl⟩,f21:=⟨Tryz.f162.name,Es rfl,func162.trans rfl⟩,f22:=⟨Tryz.f163.name,Es rfl,func163.trans rfl⟩,f23:=⟨Tryz.f164.name,Es rfl,func164.trans rfl⟩,f24:=⟨Tryz.f165.name,Es rfl,func165.trans rfl⟩,f25:=⟨Tryz.f166.name,Es rfl,func166.trans rfl⟩,f26:=⟨Tryz.f167.name,Es rfl,func167.trans rfl⟩,f27:=⟨Tryz.f168.name,Es rfl,func168.trans rfl⟩,f28:=func169.trans rfl,f29:=func170.trans rfl,f46:=⟨Tryz.f191.name,Es rfl,func191.trans rfl⟩,f47:=func192.trans rfl,f48:=func193.trans rfl,f49:=⟨Tryz.f194.name,Es rfl,func194.trans rfl⟩,f50:=⟨Tryz.f195.name,Es rfl,func195.trans rfl⟩,f57:=⟨Tryz.f213.name,Es rfl,func213.trans rfl⟩,t0:=Tryz.underlying0,a0:=Tryz.isAgg0,z0:=Tryz.sizeOf0,v0:=Tryz.zeroValue0,t3:=Tryz.underlying3,a3:=Tryz.isAgg3,z3:=Tryz.sizeOf3,v3:=Tryz.zeroValue3,t4:=Tryz.underlying4,a4:=Tryz.isAgg4,z4:=Tryz.sizeOf4,v4:=Tryz.zeroValue4,t5:=Tryz.underlying5,a5:=Tryz.isAgg5,z5:=Tryz.sizeOf5,v5:=Tryz.zeroValue5,t9:=Tryz.underlying9,a9:=Tryz.isAgg9,z9:=Tryz.sizeOf9,v9:=Tryz.zeroValue9,t22:=Tryz.underlying89,a22:=Tryz.isAgg89,z22:=Tryz.sizeOf89,v22:=Tryz.zeroValue89,t25:=Tryz.underlying208,a25:=Tryz.isAgg208,z25:=Tryz.sizeOf208,v25:=Tryz.zeroValue208,t39:=Tryz.underlying245,a39:=Tryz.isAgg245,z39:=Tryz.sizeOf245,v39:=Tryz.zeroValue245,t45:=Tryz.underlying260,a45:=Tryz.isAgg260,z45:=Tryz.sizeOf260,v45:=Tryz.zeroValue260,t46:=Tryz.underlying261,a46:=Tryz.isAgg261,z46:=Tryz.sizeOf261,v46:=Tryz.zeroValue261,t50:=Tryz.underlying140,a50:=Tryz.isAgg140,z50:=Tryz.sizeOf140,v50:=Tryz.zeroValue140,t53:=Tryz.underlying267,a53:=Tryz.isAgg267,z53:=Tryz.sizeOf267,v53:=Tryz.zeroValue267,t55:=Tryz.underlying269,a55:=Tryz.isAgg269,z55:=Tryz.sizeOf269,v55:=Tryz.zeroValue269,t66:=Tryz.underlying283,a66:=Tryz.isAgg283,z66:=Tryz.sizeOf283,v66:=Tryz.zeroValue283,t70:=Tryz.underlying287,a70:=Tryz.isAgg287,z70:=Tryz.sizeOf287,v70:=Tryz.zeroValue287,t76:=Tryz.underlying317,a76:=Tryz.isAgg317,z76:=Tryz.sizeOf317,v76:=Tryz.zeroValue317,t77:=Tryz.underlying318,a77:=Tryz.isAgg318,z77:=Tryz.sizeOf318,v77:=Tryz.zeroValue318}
def pj:Go.Shelf.Ren:={f:=λx=>match x with|189=>181|125=>144|257=>208|128=>169|129=>170|294=>228|295=>229|296=>230|297=>231|298=>232|299=>233|216=>234|300=>235|301=>236|328=>250|329=>192|330=>193|331=>251|332=>252|215=>79|343=>258|n=>n,t:=λx=>match x with|28=>48|3=>3|46=>245|0=>0|51=>267|53=>269|4=>4|183=>261|182=>260|131=>140|5=>5|9=>9|218=>283|222=>287|228=>317|229=>318|n=>n,g:=λx=>x}
def ph:Lays.n189 prog pj:={mixed:=rfl,f125:=func144.trans rfl,f128:=func169.trans rfl,f129:=func170.trans rfl,f189:=func181.trans rfl,f215:=func79.trans rfl,f216:=func234.trans rfl,f257:=func208.trans rfl,f294:=func228.trans rfl,f295:=func229.trans rfl,f296:=func230.trans rfl,f297:=func231.trans rfl,f298:=func232.trans rfl,f299:=func233.trans rfl,f300:=func235.trans rfl,f301:=func236.trans rfl,f328:=func250.trans rfl,f329:=func192.trans rfl,f330:=func193.trans rfl,f331:=func251.trans rfl,f332:=func252.trans rfl,f343:=func258.trans rfl,t0:=Tryz.underlying0,a0:=Tryz.isAgg0,z0:=Tryz.sizeOf0,v0:=Tryz.zeroValue0,t3:=Tryz.underlying3,a3:=Tryz.isAgg3,z3:=Tryz.sizeOf3,v3:=Tryz.zeroValue3,t4:=Tryz.underlying4,a4:=Tryz.isAgg4,z4:=Tryz.sizeOf4,v4:=Tryz.zeroValue4,t5:=Tryz.underlying5,a5:=Tryz.isAgg5,z5:=Tryz.sizeOf5,v5:=Tryz.zeroValue5,t9:=Tryz.underlying9,a9:=Tryz.isAgg9,z9:=Tryz.sizeOf9,v9:=Tryz.zeroValue9,t28:=Tryz.underlying48,a28:=Tryz.isAgg48,z28:=Tryz.sizeOf48,v28:=Tryz.zeroValue48,t46:=Tryz.underlying245,a46:=Tryz.isAgg245,z46:=Tryz.sizeOf245,v46:=Tryz.zeroValue245,t51:=Tryz.underlying267,a51:=Tryz.isAgg267,z51:=Tryz.sizeOf267,v51:=Tryz.zeroValue267,t53:=Tryz.underlying269,a53:=Tryz.isAgg269,z53:=Tryz.sizeOf269,v53:=Tryz.zeroValue269,t131:=Tryz.underlying140,a131:=Tryz.isAgg140,z131:=Tryz.sizeOf140,v131:=Tryz.zeroValue140,t182:=Tryz.underlying260,a182:=Tryz.isAgg260,z182:=Tryz.sizeOf260,v182:=Tryz.zeroValue260,t183:=Tryz.underlying261,a183:=Tryz.isAgg261,z183:=Tryz.sizeOf261,v183:=Tryz.zeroValue261,t218:=Tryz.underlying283,a218:=Tryz.isAgg283,z218:=Tryz.sizeOf283,v218:=Tryz.zeroValue283,t222:=Tryz.underlying287,a222:=Tryz.isAgg287,z222:=Tryz.sizeOf287,v222:=Tryz.zeroValue287,t228:=Tryz.underlying317,a228:=Tryz.isAgg317,z228:=Tryz.sizeOf317,v228:=Tryz.zeroValue317,t229:=Tryz.underlying318,a229:=Tryz.isAgg318,z229:=Tryz.sizeOf318,v229:=Tryz.zeroValue318}
def VR(x:SpT):List Value:=[.int .i64 x.lo,.int .i64 x.hi]
def cmq(x y:SpT):Int:=Lib.compareInt x.lo y.lo
def V1(x y:SpT):ltOf cmq x y=decide (x.lo<y.lo):=by
 unfold ltOf cmq Lib.compareInt;by_cases h1:x.lo<y.lo
 ·simp[h1]
 by_cases h2:y.lo<x.lo<;>simp[h1,h2]
def pn:SWO (ltOf cmq) where
 irrefl x:=by rw[V1];simp
 trans x y z h1 h2:=by rw[V1] at *;simp at *;omega
 ntrans x y z h1 h2:=by rw[V1] at *;simp at *;omega
set_option maxHeartbeats 1000000 in
def pT(a b:Int)(W:World):Calls prog 57 #[.int .i64 a,.int .i64 b] W λe w'=>e=.returned (.int .i64 (Lib.compareInt a b))/\w'=W:=by
 go_enter func57,ntmps57
 go_wp2
 all_goals (go_ret;refine⟨?_,rfl⟩;unfold Lib.compareInt;(repeat' split)<;>first|rfl|(exfalso;omega))
set_option maxHeartbeats 1000000 in
def Q94(a b c d:Int)(W:World):Calls prog 112 #[.agg #[.int .i64 a,.int .i64 b],.agg #[.int .i64 c,.int .i64 d]] W λe w'=>e=.returned (.int .i64 (Lib.compareInt a c))/\∃q os',w'=grow (W.drewN q) os':=by
 have hcon:=λW'=>pT a c W';generalize Lib.compareInt a c=r at hcon ⊢
 go_enter func112,ntmps112
 go_wp2_with (go_at_call 57;refine(hcon _).mono ?_;rintro e w' ⟨rfl,rfl⟩)
 go_ret
 exact⟨rfl,0,_,by rw[alloc_eq_grow,alloc_eq_grow,grow_grow];rfl⟩
def iW(l:List SpT):OP 2 (l.map spD) (flatK VR 2 l.toArray):=iV VR 2 spD (λ_=>rfl) (λx j y h=>by
 match j with
 | 0=>cases h;exact⟨_,rfl,rfl⟩
 | 1=>cases h;exact⟨_,rfl,rfl⟩
 | j+2=>simp[D5] at h) l
def iU(l:List Int):OP 1 (l.map (D.int .i64)) (flatK (λx:Int=>[.int .i64 x]) 1 l.toArray):=iV _ 1 _ (λ_=>rfl) (λx j y h=>by
 match j with
 | 0=>cases h;exact⟨_,rfl,rfl⟩
 | j+1=>simp[D.cells] at h) l
def enS(args:Array Value)(w:World):(callFunc 112 args).run prog w=.ok (.enter 112 args) w:=enters_of func112 Ax rfl args w
def Q5v:AW prog Gl 161 [.A8 0 0 0,(0:Int),(0:Int),.fn 112 []] [.arr 2 []] (λr s=>r=.Aj []/\s=[.arr 2 []]):=by
 refine acS func161 ntmps161 results161 ?_;refine KA ?_;refine Bm 0 (λ_=>[(0,.A8 0 0 0),(2,(0:Int)),(3,.fn 112 []),(8,(1:Int))]) (λ_=>[.arr 2 []]) (λ_=>True) trivial ?_ ?_
 ·exact Dd
 intro k _ _;refine WJ ?_;exact Lp
def Q5q:AW prog Gl 143 [.A8 0 0 0,(0:Int),(0:Int),(0:Int),.fn 112 []] [.arr 2 []] (λr s=>r=.Aj []/\s=[.arr 2 []]):=by
 refine acS func143 ntmps143 results143 ?_;refine KA ?_;refine Bm 0 (λ_=>[(0,.A8 0 0 0),(1,(0:Int)),(2,(0:Int)),(3,(0:Int)),(4,.fn 112 [])]) (λ_=>[.arr 2 []]) (λ_=>True) trivial ?_ ?_
 ·exact Dd
 intro k _ _;refine WJ ?_;refine Be ?_;refine Q5v.mono λr s hr=>?_;obtain⟨rfl,rfl⟩:=hr;simp only[zU,seval];exact Lp
def Q5w:AW prog Gl 228 [.A8 0 0 0,(0:Int),(0:Int)] [.arr 1 []] (λr s=>r=.Aj []/\s=[.arr 1 []]):=by
 refine acS func228 ntmps228 results228 ?_;refine KA ?_;refine Bm 0 (λ_=>[(0,.A8 0 0 0),(2,(0:Int)),(6,(1:Int))]) (λ_=>[.arr 1 []]) (λ_=>True) trivial ?_ ?_
 ·exact Dd
 intro k _ _;refine WJ ?_;exact Lp
def Q5r:AW prog Gl 208 [.A8 0 0 0,(0:Int),(0:Int),(0:Int)] [.arr 1 []] (λr s=>r=.Aj []/\s=[.arr 1 []]):=by
 refine acS func208 ntmps208 results208 ?_;refine KA ?_;refine Bm 0 (λ_=>[(0,.A8 0 0 0),(1,(0:Int)),(2,(0:Int)),(3,(0:Int))]) (λ_=>[.arr 1 []]) (λ_=>True) trivial ?_ ?_
 ·exact Dd
 intro k _ _;refine WJ ?_;refine Be ?_;refine Q5w.mono λr s hr=>?_;obtain⟨rfl,rfl⟩:=hr;simp only[zU,seval];exact Lp
def cI:AT prog Gl 144 [.d (.int .u64 0)] (.d (.int .i64 0)):=
 qh func144 rfl rfl (λw I L S vals h1 h2=>zl h1 h2) (λw=>(Any.bits_Len (SlLaysF0.n15.bits (P:=prog) (ρ:=cO) {cN with}) 0 w oo oo).mono λe w' h=>h) (λ_ _ _ _=>.d _ _ (.int _ _))
def Qeq(l:List SpT)(hl:l.length<1000000):AW prog Gl 111 [.A8 0 0 l.length,.fn 112 []] [.arr 2 (l.map spD)]
  (λr s=>r=.Aj []/\∃q:List SpT,q.Perm l/\q.Pairwise (λa b=>a.lo<=b.lo)/\s=[.arr 2 (q.map spD)]):=by
 by_cases hn:l=[]
 ·subst hn;refine acS func111 ntmps111 results111 ?_;refine KA ?_;refine Ak (cI (Gl:=Gl)) ?_;simp only[zU,seval];refine Be ?_;refine Q5q.mono λr s hr=>?_;obtain⟨rfl,rfl⟩:=hr;simp only[zU,seval];exact⟨_,_,Bg.refl _ _ _,rfl,[],.nil,.nil,rfl⟩
 have h:=eC (P:=prog) (Gl:=Gl) (f:=111) func111 rfl rfl (iW l) Pj (ex:=[.fn 112 []]) (exV:=[.func (.func 112) #[] #[]])
  (λw I L S vals h1 h2=>by
   match vals,h2 with
   | [v],_=>
    have:=h1 0 v _ rfl rfl
    cases this with
    | fn f vs caps hl h=>
     have:vs=[]:=G3 hl
     rw[this])
  (R:=λQ=>∃q:List SpT,Q=q.map spD/\q.Perm l/\q.Pairwise (λa b=>a.lo<=b.lo))
  (λw b o cap hH hb=>by
   have:=AnyQ.slices_SortFunc cN 2 Tryz.isAgg33 Tryz.sizeOf33 VR (λ_=>rfl) (λx v hv=>by simp[VR] at hv;rcases hv with rfl|rfl<;>rfl) cmq pn 112 #[] b o cap l.toArray w enS (λ_ _ _ _ x y=>Q94 x.lo x.hi y.lo y.hi _) hH hb Ap
   rw[BW]
   refine Calls.mono this ?_
   rintro e w' ⟨rfl,d',n,os,⟨hs,_,hp⟩,hsr,rfl⟩
   refine⟨rfl,d'.toList.map spD,_,⟨d'.toList,rfl,?_,?_⟩,?_,iW d'.toList,n,os,rfl⟩
   ·have hs2:d'.size=l.length:=TU
    have hp2:d'.toList.Perm (l.take d'.size):=by simpa[Array.extract_size,<-hs] using hp
    rwa [hs2,BL] at hp2
   ·rw[Hv]
    intro i j hi hj hij
    have h3:=hsr i j (Bq _) hij (by rw[<-hs];simpa using hj)
    rw[V1,GG] at h3
    simp only[Array.length_toList] at hi hj
    simp only[getElem!_pos d' i hi,getElem!_pos d' j hj] at h3
    simp only[Array.getElem_toList]
    omega
   simp at hs ⊢;exact hs)
 rw[BW] at h;refine h.mono λr s hr=>?_;obtain⟨h1,Q,⟨q,rfl,h2,h3⟩,h4⟩:=hr;exact⟨h1,q,h2,h3,h4⟩
def D9(l:List Int):List Int:=l.mergeSort
def Xb(l:List Int)(hl:l.length<1000000):AW prog Gl 181 [.A8 0 0 l.length] [.arr 1 (l.map (D.int .i64))]
  (λr s=>r=.Aj []/\s=[.arr 1 ((D9 l).map (D.int .i64))]):=by
 by_cases hn:l=[]
 ·subst hn;refine acS func181 ntmps181 results181 ?_;refine KA ?_;refine Ak (cI (Gl:=Gl)) ?_;simp only[zU,seval];refine Be ?_;refine Q5r.mono λr s hr=>?_;obtain⟨rfl,rfl⟩:=hr;simp only[zU,seval];exact⟨_,_,Bg.refl _ _ _,rfl,by simp[D9]⟩
 have h:=eC (P:=prog) (Gl:=Gl) (f:=181) func181 rfl rfl (iU l) Pj (ex:=[]) (exV:=[])
  (λw I L S vals h1 h2=>G3 h2)
  (R:=λQ=>Q=(D9 l).map (D.int .i64))
  (λw b o cap hH hb=>by
   rw[fV] at hH
   have:=Any.slices_Sort_int ph b o cap l w (yL hH) hb oo
   rw[BW]
   refine Calls.mono this ?_
   rintro e w' ⟨rfl,n,os,rfl⟩
   refine⟨rfl,_,_,rfl,by simp[D9,List.length_mergeSort],iU (D9 l),n,os,?_⟩
   rw[fV,Qd4]
   rfl)
 rw[BW] at h;refine h.mono λr s hr=>?_;obtain⟨h1,Q,rfl,h4⟩:=hr;exact⟨h1,h4⟩
end YtafpldmnkcegmaaGreat
end Go.Proofs

set_option maxRecDepth 100000
namespace Go.Proofs
open Go.AM Tryz
namespace YtafpldmnkcegmaaGreat
variable {Gl:BM}
def ZZ{P:Program}{f:FuncId}{args:List D}{α:Type}{p:α->Prop}{e:α->D}(h:AW P Gl f (args.map AV.d) [] (λr s=>(∃q,p q/\r=.d (e q))/\s=[]))(S:Sto):
  AW P Gl f (args.map AV.d) S (λr s=>(∃q,p q/\r=.d (e q))/\s=S):=by
 have e1:(args.map AV.d).map (BJ [] S)=args.map AV.d:=Pg;refine(AW.under (P:=P) (Gl:=Gl) (f:=f) (args:=args.map AV.d) (σ:=S) [] Ht A6 (by rw[e1];exact h)).mono λr s h2=>?_;obtain⟨r0,s0,⟨⟨q,hq,h1⟩,h2⟩,h3,h4⟩:=h2;subst h1;subst h2;subst h3;subst h4;exact⟨⟨q,hq,by simp[BK]⟩,Ua S⟩
def FF(l:List SpT):List SpT:=l.filter λs=>Gp s.lo s.hi
def xV(l:List SpT)(k:Nat)(h:k<l.length):FF (l.take (k+1))=if Gp (l.getD k default).lo (l.getD k default).hi=true then FF (l.take k)++[l.getD k default] else FF (l.take k):=by
 have:=N0 (λs:SpT=>Gp s.lo s.hi) id l k h;unfold fmF at this
 rwa [Sx,Sx] at this
def yQ(out:List SpT)(s:SpT):(LA out s).length<=out.length+1:=by
 unfold LA;split
 ·simp
 split<;>simp
def Ty(L:List SpT):∀k,k<=L.length->(EL (L.take k)).length<=k
 | 0,_=>AR _
 | k+1,h=>by
  rw[CY L k h,UT];have:=Ty L k oo;have:=yQ (EL (L.take k)) (L.getD k default);omega
def fB(l:List SpT)(hl:l.length<900000)(S:Sto):AW prog Gl 66 [.d (.sl (l.map spD))] S
  (λr s=>(∃q,(q.Perm (FF l)/\q.Pairwise λa b=>a.lo<=b.lo)/\r=.d (.sl ((EL q).reverse.map spD)))/\s=S):=by
 refine ZZ (args:=[.sl (l.map spD)]) (p:=λq:List SpT=>q.Perm (FF l)/\q.Pairwise λa b=>a.lo<=b.lo) (e:=λq=>.sl ((EL q).reverse.map spD)) ?_ S;simp only[Ci,E9];refine acS func66 ntmps66 results66 ?_;simp only[zU,seval,DA,D5,B6];refine Bm l.length (λk=>[(3,.A8 0 0 (FF (l.take k)).length),(4,.AA),(10,.d (.sl (l.map spD))),(11,(l.length:Int)),(12,(k:Int))]) (λk=>[.arr 2 ((FF (l.take k)).map spD)]) (λ_=>True) trivial ?_ ?_
 ·exact(Eb 3 2 rfl).trans (AU rfl)
 intro k _ hk;have hvl:(FF (l.take k)).length<=k:=DC (Ge _ _) (Vi _ _);by_cases h:k<l.length
 ·rw[xV l k h];generalize FF (l.take k)=out at *;generalize hxx:l.getD k default=x at *;simp only[zU,seval,DA,D5,(oo:(k:Int)<l.length),h,Af _ _ _ (oo:k<l.length),hxx,a_w ((k:Int)+1)];refine Ak (Q1 x.lo x.hi) ?_;simp only[zU,seval,DA,D5];apply ifC.mk<;>intro h1
  ·rw[AD h1];refine Ag ?_;refine BA [] [3] rfl A6 ?_ ?_
   ·refine Po ?_;simp only[zU,seval,DA,D5,a_w ((k:Int)+1)]
    try rfl
   exact oB
  rw[A7 Pe];refine BA [] [0] rfl A6 ?_ rfl;simp only[zU,seval,DA,D5,a_w ((k:Int)+1)]
  try rfl
 have hk:k=l.length:=oo;subst hk;rw[BL] at hvl ⊢;simp only[zU,seval,DA,D5,(oo:¬(l.length:Int)<l.length)];refine QH 0 A6 rfl (Qeq (FF l) oo) λr s hr=>?_;obtain⟨rfl,q,hp,hs,rfl⟩:=hr;have hql:q.length=(FF l).length:=hp.length_eq;rw[<-hql,Ry A6,SH];have hqn:q.length<900000:=oo;simp only[zU,seval,DA,D5];refine Bm q.length (λk=>[(3,.A8 0 0 q.length),(4,.A8 1 0 (EL (q.take k)).length),(25,.A8 0 0 q.length),(26,(q.length:Int)),(27,(k:Int))]) (λk=>[.arr 2 (q.map spD),.arr 2 ((EL (q.take k)).reverse.map spD)]) (λ_=>True) trivial ?_ ?_
 ·exact(Eb 4 2 rfl).trans (AU rfl)
 intro k _ hk;by_cases h:k<q.length
 ·have hnl:=Ty q k hk;rw[CY q k h,UT];generalize EL (q.take k)=out at *;generalize hxx:q.getD k default=x at *;cases out with
  | nil=>
   simp only[zU,seval,DA,D5,(oo:(k:Int)<q.length),h,Af _ _ _ (oo:k<q.length),hxx,a_w ((k:Int)+1),a_w ((-1:Int))];refine⟨.inl Ax,?_⟩
   (try simp only[zU,seval,DA,D5,List.reverse_nil,E9,C6,a_w ((-1:Int)),a_w ((k:Int)+1)])
   exact mW
  | cons y r=>
   simp only[CT] at hnl;have e1:IntKind.i64.wrap ((r.length:Int)+1-1)=((r.length:Nat):Int):=Bz;have e2:((y::r).reverse.map spD).getD r.length default=spD y:=A6;have e3:((y::r).reverse.map spD).length=r.length+1:=A6;simp only[zU,seval,DA,D5,(oo:(k:Int)<q.length),h,Af _ _ _ (oo:k<q.length),hxx,a_w ((k:Int)+1),e1,e2,e3,(oo:(0:Int)<(r.length:Int)+1),(oo:(r.length:Int)<(r.length:Int)+1),(oo:r.length<r.length+1),CT];refine⟨.inl Ax,?_⟩;refine Ag ?_;unfold LA;apply ifC.mk<;>intro h1
   ·simp only;refine Lm ?_;refine⟨.inl Ax,?_⟩;refine Ag ?_;have hset:((y::r).reverse.map spD).set r.length (spD {lo:=y.lo,hi:=max y.hi x.hi})=(({lo:=y.lo,hi:=max y.hi x.hi}:SpT)::r).reverse.map spD:=by
     rw[Vb,CA,Vs _ _ A6,Vb,CA];simp
    refine BA [] [0,1] rfl A6 ?_ ?_
    ·rfl
    rw[<-hset];rfl
   simp only;rw[A7 Cz];refine Ag ?_;refine BA [] [0,4] rfl A6 ?_ ?_
   ·rfl
   rw[Vb (a:=x),CA,show List.take (r.length+1) ((y::r).reverse.map spD)=(y::r).reverse.map spD from Bi A6];rfl
 have hk:k=q.length:=oo;subst hk;simp only[zU,seval,DA,D5,(oo:¬(q.length:Int)<q.length),BL];refine⟨_,_,Hi rfl ?_,⟨q,⟨hp,hs⟩,rfl⟩,rfl⟩;simp only[zU,seval,DA,D5];rw[Bi A6]
def BG{α:Type}(g:α->Int)(l:List α):Int:=(l.map g).sum
def Of{α:Type}[Inhabited α](g:α->Int)(l:List α)(k:Nat)(h:k<l.length):BG g (l.take (k+1))=BG g (l.take k)+g (l.getD k default):=by
 rw[CY l k h,BG,CA,aN];simp[BG]
def N9{α:Type}{g:α->Int}{l:List α}{m:Int}(h:∀x∈l,-m<=g x/\g x<=m):∀k,k<=l.length->-(m*k)<=BG g (l.take k)/\BG g (l.take k)<=m*k:=by
 induction l with
 | nil=>intro k hk;simp[BG];simp at hk;subst hk;simp
 | cons x l ih=>
  intro k hk;cases k with
  | zero=>simp[BG]
  | succ k=>
   have ih:=ih (λx hx=>h x (Cy _ hx)) k (by simpa using hk);have hx:=h x DE;have e:BG g ((x::l).take (k+1))=g x+BG g (l.take k):=by simp[BG]
   rw[e,show((k+1:Nat):Int)=(k:Int)+1 by omega,Int.mul_add];omega
def vn(l:List SpT)(hl:l.length<900000)(Z:Sto):AW prog Gl 31 [.d (.sl (l.map spD))] Z
  (λr s=>(∃q,(q.Perm (FF l)/\q.Pairwise λa b=>a.lo<=b.lo)/\r=.d (.int .i64 (BG (λs=>s.hi-s.lo) (EL q).reverse)))/\s=Z):=by
 refine ZZ (args:=[.sl (l.map spD)]) (p:=λq:List SpT=>q.Perm (FF l)/\q.Pairwise λa b=>a.lo<=b.lo) (e:=λq=>.int .i64 (BG (λs=>s.hi-s.lo) (EL q).reverse)) ?_ Z;simp only[Ci,E9];refine acS func31 ntmps31 results31 ?_;simp only[zU,seval,DA,D5,B6];refine Be ((fB l hl _).mono λr s hr=>?_);obtain⟨⟨q,⟨hp,hs⟩,rfl⟩,rfl⟩:=hr;have hql:q.length=(FF l).length:=hp.length_eq;have hvl:(FF l).length<=l.length:=Ge _ _;have hnl:=Ty q q.length (AR _);rw[BL] at hnl;have hq:∀s∈(EL q).reverse,0<=s.lo/\s.lo<s.hi/\s.hi<=1000000000000:=λs hs=>by
  refine fL (n:=1000000000000) (λs hs=>?_) s (Zy.1 hs);have:=(GP.1 (hp.subset hs)).2;simp only[Gp,C5,CZ] at this;omega
 have hrl:(EL q).reverse.length=(EL q).length:=List.length_reverse;generalize hL:(EL q).reverse=L at *;simp only[zU,seval,DA,D5];refine Bm L.length (λk=>[(3,.d (.int .i64 (BG (λs=>s.hi-s.lo) (L.take k)))),(7,.d (.sl (L.map spD))),(8,(L.length:Int)),(9,(k:Int))]) (λ_=>[]) (λ_=>True) trivial ?_ ?_
 ·exact Dd
 intro k _ hk;by_cases h:k<L.length
 ·have hx:=hq _ (Ba h);have hbd:=N9 (g:=λs:SpT=>s.hi-s.lo) (m:=1000000000000) (λx hx=>by have:=hq x hx;show -_<=_/\_<=_;omega) k hk;rw[Of _ L k h];generalize BG (λs:SpT=>s.hi-s.lo) (L.take k)=S at *;generalize hxx:L.getD k default=x at *;simp only[zU,seval,DA,D5,(oo:(k:Int)<L.length),h,Af _ _ _ (oo:k<L.length),hxx,a_w ((k:Int)+1),a_w (x.hi-x.lo),a_w (S+(x.hi-x.lo))];refine BA [] [] rfl A6 ?_ rfl;rfl
 have hk:k=L.length:=oo;subst hk;simp only[zU,seval,DA,D5,(oo:¬(L.length:Int)<L.length),BL];exact⟨_,_,Ei,⟨q,⟨hp,hs⟩,by rw[hL]⟩,rfl⟩

def Dp(l:List Ac)(th:Int):List SpT:=fmF (λs:Ac=>s.A0==th) (λs=>⟨s.lo,s.hi⟩) l
def Q58(l:List Ac)(th:Int)(hl:l.length<900000)(S:Sto):AW prog Gl 32 [.d (.sl (l.map Ac.A5)),(th:Int)] S
  (λr s=>(∃q,(q.Perm (FF (Dp l th))/\q.Pairwise λa b=>a.lo<=b.lo)/\r=.d (.sl ((EL q).reverse.map spD)))/\s=S):=by
 refine ZZ (args:=[.sl (l.map Ac.A5),.int .i64 th]) (p:=λq:List SpT=>q.Perm (FF (Dp l th))/\q.Pairwise λa b=>a.lo<=b.lo) (e:=λq=>.sl ((EL q).reverse.map spD)) ?_ S;simp only[Ci,E9];refine acS func32 ntmps32 results32 ?_;simp only[zU,seval,DA,D5,B6];refine Bm l.length (λk=>[(1,(th:Int)),(5,.A8 0 0 (Dp (l.take k) th).length),(8,.d (.sl (l.map Ac.A5))),(9,(l.length:Int)),(10,(k:Int))]) (λk=>[.arr 2 ((Dp (l.take k) th).map spD)]) (λ_=>True) trivial ?_ ?_
 ·exact(Eb 5 2 rfl).trans (AU rfl)
 intro k _ hk;by_cases h:k<l.length
 ·have hln:(Dp (l.take k) th).length<=k:=LC _ _ l k;have hst:Dp (l.take (k+1)) th=if((l.getD k default).A0==th)=true then Dp (l.take k) th++[⟨(l.getD k default).lo,(l.getD k default).hi⟩] else Dp (l.take k) th:=N0 _ _ l k h;rw[hst];generalize Dp (l.take k) th=out at *;generalize hxx:l.getD k default=x at *;simp only[zU,seval,DA,D5,(oo:(k:Int)<l.length),h,Af _ _ _ (oo:k<l.length),hxx,a_w ((k:Int)+1)];apply ifC.mk<;>intro h1
  ·rw[AD h1];refine Ag ?_;refine BA [] [3] rfl A6 ?_ ?_
   ·refine Po ?_;rfl
   exact oB
  rw[A7 Pe];exact Kz
 have hk:k=l.length:=oo;subst hk;have hln:(Dp l th).length<=l.length:=by have:=LC (λs:Ac=>s.A0==th) (λs=>(⟨s.lo,s.hi⟩:SpT)) l l.length;rwa [BL] at this
 simp only[zU,seval,DA,D5,(oo:¬(l.length:Int)<l.length),BL];refine Y3 ?_;have e:([AV.A8 0 0 (Dp l th).length]++[]).map (IC [Blk.arr 2 ((Dp l th).map spD)])=[.d (.sl ((Dp l th).map spD))]:=by
  show[IC _ _]=_;rw[Uo _ _ _ _ rfl];show[AV.d (D.sl (List.take (Dp l th).length ((Dp l th).map spD)))]=_;rw[Bi A6]
 rw[e];refine(fB (Dp l th) oo _).mono λr s hr=>?_;obtain⟨⟨q,hq,rfl⟩,rfl⟩:=hr;simp only[zU,seval,DA,D5];exact⟨_,_,Ei,⟨q,hq,rfl⟩,rfl⟩
def Ep(l:List Ac)(th:Int):Int:=cnt (cov (FF (Dp l th))) 1000000000000
def wP(L:List SpT):BG (λs=>s.hi-s.lo) L.reverse=P8 L:=by
 unfold BG P8;rw[List.map_reverse,List.sum_reverse]
 induction L with
 | nil=>rfl
 | cons x r ih=>simp only[Ci,VV,List.foldr_cons,ih]
def uv{l:List SpT}{s:SpT}(h:s∈FF l):0<=s.lo/\s.lo<s.hi/\s.hi<=1000000000000:=by
 have:=(GP.1 h).2;simp only[Gp,C5,CZ] at this;omega
def Yr{l:List SpT}(h:∀s∈l,0<=s.lo/\s.lo<s.hi/\s.hi<=1000000000000):FF l=l:=by
 unfold FF;rw[Vj];intro s hs;have:=h s hs;simp only[Gp,C5,CZ];omega
def Q0x{l:List Ac}{th:Int}{q q2:List SpT}(h:q.Perm (FF (Dp l th))/\q.Pairwise λa b=>a.lo<=b.lo)(h2:q2.Perm (FF (EL q).reverse)/\q2.Pairwise λa b=>a.lo<=b.lo):
  BG (λs=>s.hi-s.lo) (EL q2).reverse=Ep l th:=by
 have hq:∀s∈q,0<=s.lo/\s.lo<s.hi/\s.hi<=1000000000000:=λs hs=>uv (h.1.subset hs);have hn:=fL (n:=1000000000000) hq;have hv:FF (EL q).reverse=(EL q).reverse:=Yr λs hs=>hn s (Zy.1 hs);rw[hv] at h2;have hq2:∀s∈q2,0<=s.lo/\s.lo<s.hi/\s.hi<=((1000000000000:Nat):Int):=λs hs=>hn s (Zy.1 (h2.1.subset hs));rw[wP,(wZ hq2 h2.2).1,Ep];have e:cov q2=cov (FF (Dp l th)):=by
  rw[UF h2.1,UF (List.reverse_perm _),<-UF h.1];funext t;exact(wY h.2).1 t
 rw[e]
def iN(p:Int->Bool):∀n:Nat,0<=cnt p n/\cnt p n<=n
 | 0=>⟨EP _,EP _⟩
 | n+1=>by
  have:=iN p n;unfold cnt;split<;>omega
def Wd(l:List Ac)(th:Int):0<=Ep l th/\Ep l th<=1000000000000:=iN _ _
def ZN(t:EY)(hl:t.AE.length<900000)(ht:t.threads.length<900000):AT prog Gl 8 [.d t.A5] (.d (.int .i64 (BG (λx=>Ep t.AE x.id) t.threads))):=by
 refine CN ?_;refine acS func8 ntmps8 results8 ?_;simp only[zU,seval,DA,D5,B6];refine Bm t.threads.length (λk=>[(1,.ptr 0 0),(3,.d (.int .i64 (BG (λx=>Ep t.AE x.id) (t.threads.take k)))),(7,.d (.sl (t.threads.map An.A5))),(8,(t.threads.length:Int)),(9,(k:Int))]) (λ_=>[.box 10 (.d t.A5)]) (λ_=>True) trivial ?_ ?_
 ·exact Dd
 intro k _ hk;by_cases h:k<t.threads.length
 ·have hbd:=N9 (g:=λx:An=>Ep t.AE x.id) (l:=t.threads) (m:=1000000000000) (λx _=>by have:=Wd t.AE x.id;show -_<=_/\_<=_;omega) k hk;rw[Of _ t.threads k h];generalize BG (λx:An=>Ep t.AE x.id) (t.threads.take k)=S at *;generalize hxx:t.threads.getD k default=x at *;simp only[zU,seval,DA,D5,(oo:(k:Int)<t.threads.length),h,Af _ _ _ (oo:k<t.threads.length),hxx,a_w ((k:Int)+1)];refine Be ((Q58 t.AE x.id hl _).mono λr s hr=>?_);obtain⟨⟨q,hq,rfl⟩,rfl⟩:=hr;have hnl:=Ty q q.length (AR _);rw[BL] at hnl;have h1:=hq.1.length_eq;have h2:(FF (Dp t.AE x.id)).length<=(Dp t.AE x.id).length:=Ge _ _;have h3:(Dp t.AE x.id).length<=t.AE.length:=by have:=LC (λs:Ac=>s.A0==x.id) (λs=>(⟨s.lo,s.hi⟩:SpT)) t.AE t.AE.length;rwa [BL] at this
  simp only[zU,seval,DA,D5];refine Be ((vn (EL q).reverse (by rw[List.length_reverse];omega) _).mono λr s hr=>?_);obtain⟨⟨q2,hq2,rfl⟩,rfl⟩:=hr;rw[Q0x hq hq2];have hb:=Wd t.AE x.id;simp only[zU,seval,DA,D5,a_w (S+Ep t.AE x.id),a_w ((k:Int)+1)];exact Kz
 have hk:k=t.threads.length:=oo;subst hk;simp only[zU,seval,DA,D5,(oo:¬(t.threads.length:Int)<t.threads.length),BL];exact D0
def ZQ(t:EY)(hl:t.AE.length<900000)(hb:∀x∈t.AE,-1000000000000000<=x.self/\x.self<=1000000000000000)(hl2:t.AE.length<9000):AT prog Gl 10 [.d t.A5] (.d (.int .i64 (BG Ac.self t.AE))):=by
 refine CN ?_;refine acS func10 ntmps10 results10 ?_;simp only[zU,seval,DA,D5,B6];refine Bm t.AE.length (λk=>[(3,(BG Ac.self (t.AE.take k):Int)),(7,.d (.sl (t.AE.map Ac.A5))),(8,(t.AE.length:Int)),(9,(k:Int))]) (λ_=>[]) (λ_=>True) trivial ?_ ?_
 ·exact WI
 intro k _ hk;by_cases h:k<t.AE.length
 ·have hbd:=N9 (g:=Ac.self) (l:=t.AE) (m:=1000000000000000) hb k hk;have hx:=hb _ (Ba h);rw[Of _ t.AE k h];generalize BG Ac.self (t.AE.take k)=S at *;generalize hxx:t.AE.getD k default=x at *;simp only[zU,seval,DA,D5,(oo:(k:Int)<t.AE.length),h,Af _ _ _ (oo:k<t.AE.length),hxx,a_w ((k:Int)+1),a_w (S+x.self)];exact WI
 have hk:k=t.AE.length:=oo;subst hk;simp only[zU,seval,DA,D5,(oo:¬(t.AE.length:Int)<t.AE.length),BL];exact D0
def YV(t:EY)(hl:t.blocks.length<900000)(hb:∀x∈t.blocks,0<=x.lo/\x.lo<x.hi/\x.hi<=1000000000000):AT prog Gl 11 [.d t.A5] (.d (.int .i64 ((BG (λx=>(x.hi-x.lo) % 1000) t.blocks) % 1000))):=by
 refine CN ?_;refine acS func11 ntmps11 results11 ?_;simp only[zU,seval,DA,D5,B6];refine Bm t.blocks.length (λk=>[(3,.d (.int .i64 (BG (λx:B4=>(x.hi-x.lo) % 1000) (t.blocks.take k)))),(7,.d (.sl (t.blocks.map B4.A5))),(8,(t.blocks.length:Int)),(9,(k:Int))]) (λ_=>[]) (λ_=>True) trivial ?_ ?_
 ·exact WI
 intro k _ hk;by_cases h:k<t.blocks.length
 ·have hbd:=N9 (g:=λx:B4=>(x.hi-x.lo) % 1000) (l:=t.blocks) (m:=1000) (λx hx=>by show -_<=_/\_<=_;omega) k hk;have hx:=hb _ (Ba h);rw[Of _ t.blocks k h];generalize BG (λx:B4=>(x.hi-x.lo) % 1000) (t.blocks.take k)=S at *;generalize hxx:t.blocks.getD k default=x at *;simp only[zU,seval,DA,D5,(oo:(k:Int)<t.blocks.length),h,Af _ _ _ (oo:k<t.blocks.length),hxx,a_w ((k:Int)+1),a_w (x.hi-x.lo)];rw[lG (oo:0<=x.hi-x.lo)];simp only[zU,seval,DA,D5,a_w (S+(x.hi-x.lo) % 1000)];exact WI
 have hk:k=t.blocks.length:=oo;subst hk;simp only[zU,seval,DA,D5,(oo:¬(t.blocks.length:Int)<t.blocks.length),BL];have h0:0<=BG (λx:B4=>(x.hi-x.lo) % 1000) t.blocks:=by
  unfold BG;have:∀l:List B4,0<=(l.map λx=>(x.hi-x.lo) % 1000).sum:=λl=>by
   induction l with
   | nil=>exact EP _
   | cons x l ih=>rw[Ci,VV];omega
  exact this _
 rw[lG h0];exact D0
def GA(l:List BQ)(k:Nat):Int:=BG (λx:BQ=>if x.state=k then x.hi-x.lo else 0) l
def H5(l:List BQ):List D:=(List.range 6).map λk=>.int .i64 (GA l k)
def Uh(l:List BQ):(H5 l).length=6:=by simp[H5]
def dN(l:List BQ){w:Nat}(h:w<6):(H5 l).getD w default=.int .i64 (GA l w):=by simp[H5,h]
def s_(l:List BQ)(k:Nat)(h:k<l.length):H5 (l.take (k+1))=if 0<=(l.getD k default).state/\(l.getD k default).state<6 then(H5 (l.take k)).set (l.getD k default).state.toNat (.int .i64 (GA (l.take k) (l.getD k default).state.toNat+((l.getD k default).hi-(l.getD k default).lo))) else H5 (l.take k):=by
 have e:∀j:Nat,GA (l.take (k+1)) j=GA (l.take k) j+if(l.getD k default).state=j then(l.getD k default).hi-(l.getD k default).lo else 0:=λj=>Of _ l k h;split
 ·rename_i hs;apply HY
  ·simp[H5]
  intro j h1 h2;have hj:j<6:=by simpa[H5] using h1
  rw[R6];by_cases ej:(l.getD k default).state.toNat=j
  ·rw[AD ej];simp only[H5,H9,MW,e];rw[AD oo,ej]
  rw[A7 ej];simp only[H5,H9,MW,e];rw[A7 oo,Int.add_zero]
 rename_i hs;unfold H5;refine MX λj hj=>?_;rw[e,A7 aw,Int.add_zero]
def Tr(m:Nat)(hm:m<=100000):P7 prog 48 (.d (.int .i64 (m:Int))) (.d (.int .i64 (m:Int))):=by
 refine(show _/\_/\_/\(0:Int)<=m/\(m:Int)<=m/\((8:Nat):Int)*(m:Int)<=281474976710656/\(m:Int)<=_ from⟨rfl,rfl,rfl,?_,?_,?_,?_⟩)<;>omega
def Wr(S:Sto)(m:Nat):mkS prog S 48 (.d (.int .i64 (m:Int)))=S++[.arr 1 (List.replicate m (.int .i64 0))]:=rfl
def X_(t:EY)(hl:t.AS.length<900000)(hb:∀x∈t.AS,0<=x.lo/\x.lo<x.hi/\x.hi<=1000000000000):AT prog Gl 9 [.d t.A5] (.d (.sl (H5 t.AS))):=by
 refine CN ?_;refine acS func9 ntmps9 results9 ?_;simp only[zU,seval,DA,D5,B6];refine⟨Tr 6 oo,?_⟩;rw[show mkS prog [Blk.box 10 (.d t.A5)] 48 (.d (.int .i64 6))=[.box 10 (.d t.A5),.arr 1 (List.replicate 6 (.int .i64 0))] from rfl];simp only[zU,seval,DA,D5];refine Bm t.AS.length (λk=>[(3,.A8 0 0 6),(8,.d (.sl (t.AS.map BQ.A5))),(9,(t.AS.length:Int)),(10,(k:Int))]) (λk=>[.arr 1 (H5 (t.AS.take k))]) (λ_=>True) trivial ?_ ?_
 ·exact BA [] [1] rfl A6 rfl rfl
 intro k _ hk;by_cases h:k<t.AS.length
 ·have hst:=s_ t.AS k h;have hx:=hb _ (Ba h);have hlen:=Uh (t.AS.take k);rw[hst];have hbd:∀w:Nat,-(1000000000000*(k:Int))<=GA (t.AS.take k) w/\GA (t.AS.take k) w<=1000000000000*k:=λw=>N9 (g:=λx:BQ=>if x.state=w then x.hi-x.lo else 0) (l:=t.AS) (m:=1000000000000) (λx hx=>lJ) k hk;generalize hxx:t.AS.getD k default=x at *;simp only[zU,seval,DA,D5,(oo:(k:Int)<t.AS.length),h,Af _ _ _ (oo:k<t.AS.length),hxx,a_w ((k:Int)+1),a_w (x.hi-x.lo)];refine Ag ?_;apply ifC.mk<;>intro h1
  ·have h1:0<=x.state/\x.state<6:=Cz;rw[AD h1];obtain⟨w,hw⟩:=M_ h1.1;have hw6:w<6:=oo;have hg:=dN (t.AS.take k) hw6;have hbw:=hbd w;refine⟨.inl Ax,?_⟩;rw[hw];simp only[zU,seval,DA,D5,hlen,(oo:(w:Int)<6),hw6,hg,a_w (GA (t.AS.take k) w+(x.hi-x.lo)),a_w ((k:Int)+1)];refine Ag ?_;exact Kz
  have h1:¬(0<=x.state/\x.state<6):=Cz;rw[A7 h1];exact Kz
 have hk:k=t.AS.length:=oo;subst hk;simp only[zU,seval,DA,D5,(oo:¬(t.AS.length:Int)<t.AS.length),BL];refine Pp ?_;simp only[zU,seval,DA,D5];rw[Bi (by rw[Uh];exact AR _)]
def Re(l:Av)(n:Int):Bool:=decide (BG (λp:Ao=>(p.A_.length:Int)) l.parts<=n)&&decide ((l.parts.length:Int)<=40)&&decide ((l.A9.length:Int)<=10)&&decide ((l.AZ.length:Int)<=10)&&decide ((l.AK.length:Int)<=12)
def uO(l:Av)(n:Int)(hl:l.parts.length<2000000)(hb:∀p∈l.parts,p.A_.length<2000000):AT prog Gl 4 [.d l.A5,(n:Int)] (.d (.bool (Re l n))):=by
 refine FB ?_;refine acS func4 ntmps4 results4 ?_;simp only[zU,seval,DA,D5,B6];refine Bm l.parts.length (λk=>[(1,(n:Int)),(2,.ptr 0 0),(5,.d (.int .i64 (BG (λp:Ao=>(p.A_.length:Int)) (l.parts.take k)))),(9,.d (.sl (l.parts.map Ao.A5))),(10,(l.parts.length:Int)),(11,(k:Int))]) (λ_=>[.box 4 (.d l.A5)]) (λ_=>True) trivial ?_ ?_
 ·exact Dd
 intro k _ hk;by_cases h:k<l.parts.length
 ·have hbd:=N9 (g:=λp:Ao=>(p.A_.length:Int)) (l:=l.parts) (m:=2000000) (λx hx=>by have:=hb x hx;show -_<=_/\_<=_;omega) k hk;have hx:=hb _ (Ba h);rw[Of _ l.parts k h];generalize BG (λp:Ao=>(p.A_.length:Int)) (l.parts.take k)=S at *;generalize hxx:l.parts.getD k default=x at *;simp only[zU,seval,DA,D5,(oo:(k:Int)<l.parts.length),h,Af _ _ _ (oo:k<l.parts.length),hxx,a_w ((k:Int)+1),a_w (S+(x.A_.length:Int))];exact Kz
 have hk:k=l.parts.length:=oo;subst hk;simp only[zU,seval,DA,D5,(oo:¬(l.parts.length:Int)<l.parts.length),BL];refine Ag ?_;refine BT ?_;rw[Re]
def Ov:Av:=⟨[⟨1,[97],0⟩],[⟨0,0⟩],[],[⟨1,0,0,[⟨2,1,[102],0,0,[]⟩,⟨6,2,[],0,0,[]⟩]⟩]⟩
def Q52:AT prog Gl 12 [] (.d Ov.A5):=by
 refine AT.Z3 ?_;refine acS func12 ntmps12 results12 ?_;simp only[zU,seval,DA,D5,B6];exact⟨_,_,Hi rfl rfl,rfl,rfl⟩

structure Jj where
 word:List UInt8
 name:Bool
 n:Bool
 m:Bool
 stack:Bool
 least:Int
 MI:Int
 Fy:Int
 HV:Int
deriving Inhabited
def Jj.A5(x:Jj):D:=.agg [.str x.word,.bool x.name,.bool x.n,.bool x.m,.bool x.stack,.int .i64 x.least,.int .i64 x.MI,.int .i64 x.Fy,.int .i64 x.HV]
def Bbb:(∀(x:Jj),x.A5.isAgg=true)/\(∀(x:Jj),x.A5.cells=[.str x.word,.bool x.name,.bool x.n,.bool x.m,.bool x.stack,.int .i64 x.least,.int .i64 x.MI,.int .i64 x.Fy,.int .i64 x.HV]):=Et
def zF:=aI @zU Bbb
def SO:List Jj:=[⟨[],false,false,false,false,0,0,0,0⟩,⟨[98,101,103,105,110],true,false,false,false,0,0,0,0⟩,⟨[101,110,100],false,false,false,false,0,0,0,0⟩,⟨[109,97,114,107],true,false,false,false,0,0,0,0⟩,
 ⟨[99,111,117,110,116],true,true,false,false,-1000000000000000,1000000000000000,0,0⟩,⟨[115,97,109,112,108,101],false,true,false,true,1,1000000000000,0,0⟩,⟨[115,101,110,100],false,true,false,false,0,1000000000000000,0,0⟩,⟨[114,101,99,118],false,true,false,false,0,1000000000000000,0,0⟩,
 ⟨[114,117,110],false,true,false,false,0,63,0,0⟩,⟨[115,116,111,112],false,true,true,false,0,3,0,1000000000000000⟩,⟨[119,97,107,101],false,true,false,false,0,1000000000000000,0,0⟩,⟨[97,108,108,111,99],false,true,true,true,0,1000000000000000,1,1000000000000⟩,⟨[102,114,101,101],false,true,false,false,0,1000000000000000,0,0⟩]
def tl:AT prog Gl 264 [] (.d (.sl (SO.map Jj.A5))):=by
 refine AT.Z3 ?_;refine acS func264 ntmps264 results264 ?_;refine FC ?_;exact⟨_,_,Hi rfl rfl,rfl,rfl⟩
def fm0:Jj:=⟨[],false,false,false,false,0,0,0,0⟩
def FU(k:Int):Jj:=if k<1\/13<=k then fm0 else SO.getD k.toNat default
def wA(k:Int):AT prog Gl 262 [(k:Int)] (.Aj [.d (FU k).A5,(!(decide (k<1)||decide (13<=k)):Bool)]):=by
 refine AT.FL ?_;have z0:fm0.A5=.agg [.str [],.bool false,.bool false,.bool false,.bool false,.int .i64 0,.int .i64 0,.int .i64 0,.int .i64 0]:=rfl;refine acS func262 ntmps262 results262 ?_;refine FC ?_;refine Ak tl ?_;have hl:(SO.map Jj.A5).length=13:=rfl;simp only[zF,seval,hl];refine Ag ?_;apply ifC.mk<;>intro h1
 ·have h2:k<1\/13<=k:=Cz;rw[FU,AD h2,h1];exact KB
 have h2:¬(k<1\/13<=k):=Cz;rw[FU,A7 h2,h1];obtain⟨w,hw⟩:=M_ (oo:0<=k);subst hw;have hw13:w<SO.length:=by show w<13;omega
 simp only[zF,seval,hl,(oo:(w:Int)<13),(oo:w<13),Af _ _ _ (oo:w<SO.length)];refine Ag ?_;exact KB
def enF(f:Jj)(e:EvT):Int:=if f.name=true then FE e.name else FI e.stack
def uN(f:Jj)(e:EvT)(hs:e.stack.length<2000000):AT prog Gl 263 [.d f.A5,.d e.A5] (.d (.int .i64 (enF f e))):=by
 refine FB ?_;refine acS func263 ntmps263 results263 ?_;refine FC ?_;rw[enF];apply ifC.mk<;>intro h
 ·rw[AD h];refine Ak (SQ _) ?_;exact Kx
 rw[A7 Jc];refine Ak (gm _) ?_;exact Kx
def Qf(f:Jj)(e:EvT):Bool:=decide (e.kind<1)||decide (13<=e.kind)||(!f.name&&!(e.name==[]))||(!f.n&&e.n !=0)||(!f.m&&e.m !=0)||(!f.stack&&decide (0<(e.stack.length:Int)))
def Fs(e:EvT):Int:=
 if(decide (e.at_<0)||decide (1000000000000<e.at_))=true then 2
 else if Qf (FU e.kind) e=true then 1
 else if enF (FU e.kind) e≠0 then enF (FU e.kind) e
 else if((FU e.kind).n&&(decide (e.n<(FU e.kind).least)||decide ((FU e.kind).MI<e.n)))=true then 2
 else if(e.kind==9&&e.n !=2&&e.m !=0)=true then 1
 else if((FU e.kind).m&&(decide (e.m<(FU e.kind).Fy)||decide ((FU e.kind).HV<e.m))&&(e.kind !=9||e.n==2))=true then 2 else 0
def yw(e:EvT)(hs:e.stack.length<2000000):AT prog Gl 261 [.d e.A5] (.d (.int .i64 (Fs e))):=by
 refine CN ?_;refine acS func261 ntmps261 results261 ?_;refine FC ?_;rw[Fs];apply ifC.mk<;>intro h1
 ·rw[AD h1];exact⟨_,_,Ei,rfl,rfl⟩
 rw[A7 Pe];refine Ak (wA e.kind) ?_;refine C0 ?_;refine Ag ?_;generalize FU e.kind=f;apply ifC.mk<;>intro h2
 ·rw[AD (show Qf f e=true from h2)];exact⟨_,_,Ei,rfl,rfl⟩
 rw[A7 (show ¬Qf f e=true by rw[show Qf f e=false from h2];simp)];refine Ak (uN f e hs) ?_;refine C0 ?_;apply ifC.mk<;>intro h3
 ·rw[AD Gv];exact⟨_,_,Ei,rfl,rfl⟩
 rw[A7 Gv];apply ifC.mk<;>intro h4
 ·rw[AD h4];exact⟨_,_,Ei,rfl,rfl⟩
 rw[A7 (by rw[h4];simp)];apply ifC.mk<;>intro h5
 ·rw[AD h5];exact⟨_,_,Ei,rfl,rfl⟩
 rw[A7 (by rw[h5];simp)];apply ifC.mk<;>intro h6
 ·rw[AD h6];exact⟨_,_,Ei,rfl,rfl⟩
 rw[A7 (by rw[h6];simp)];exact D0
def PM(l:List EvT)(k:Nat):Int:=if Fs (l.getD k default)≠0 then Fs (l.getD k default) else if(decide (0<k)&&decide ((l.getD k default).at_<(l.getD (k-1) default).at_))=true then 11 else 0
def Pw(l:List EvT):Int:=Bh (PM l) l.length
def Qe8(l:List EvT)(hl:l.length<1000000)(hs:∀e∈l,e.stack.length<2000000):AT prog Gl 256 [.d (.sl (l.map EvT.A5))] (.d (.int .i64 (Pw l))):=by
 refine CN ?_;refine acS func256 ntmps256 results256 ?_;refine FC ?_;refine Bm l.length (λk=>[(0,.d (.sl (l.map EvT.A5))),(6,.d (.sl (l.map EvT.A5))),(7,(l.length:Int)),(8,(k:Int))]) (λ_=>[]) (λk=>Bh (PM l) k=0) rfl ?_ ?_
 ·exact Dd
 intro k hi hk;by_cases h:k<l.length
 ·have hx:=hs _ (Ba h);simp only[zF,seval,(oo:(k:Int)<l.length),h,Af _ _ _ (oo:k<l.length)];refine Ak (yw _ hx) ?_;refine C0 ?_;apply ifC.mk<;>intro h1
  ·have h1:Fs (l.getD k default)≠0:=Cz;refine BT ?_;have hA:PM l k=Fs (l.getD k default):=by rw[PM,AD h1]
   rw[Pw,Ga hi (by rw[hA];exact h1) h,hA]
  have h1:Fs (l.getD k default)=0:=Cz;have hA:PM l k=if(decide (0<k)&&decide ((l.getD k default).at_<(l.getD (k-1) default).at_))=true then 11 else 0:=by rw[PM,A7 Pe]
  refine⟨.inl Ax,?_⟩;by_cases hk0:0<k
  ·have e1:IntKind.i64.wrap ((k:Int)-1)=((k-1:Nat):Int):=Bz;rw[JU hk0,Hu] at hA;simp only[zF,seval,(oo:(0:Int)<k),e1,(oo:((k-1:Nat):Int)<l.length),(oo:k-1<l.length),Af _ _ _ (oo:k-1<l.length),a_w ((k:Int)+1)];refine Ag ?_;apply ifC.mk<;>intro h3
   ·rw[AD h3] at hA;refine BT ?_;rw[Pw,Ga hi (by rw[hA];decide) h,hA]
   rw[A7 K9] at hA;exact⟨HR hi hA,BA [] [] rfl A6 rfl rfl⟩
  rw[HX hk0,JV,A7 A6] at hA;simp only[zF,seval,(oo:¬(0:Int)<k),a_w ((k:Int)+1)];refine Ag ?_;exact⟨HR hi hA,BA [] [] rfl A6 rfl rfl⟩
 have hk:k=l.length:=oo;subst hk;simp only[zF,seval,(oo:¬(l.length:Int)<l.length)];refine BT ?_;rw[Pw,hi]
def Ii(p:Ao):Int:=
 if p.A0<0\/1000000000000000<p.A0\/p.AB<0\/1000000000000000<p.AB\/p.lost<0\/1000000000000000<p.lost then 2
 else if p.AB<p.lost then 2
 else if 1000000000000000<p.AB+p.A_.length then 2
 else if p.A_.length=0 then 8
 else if 1000<p.A_.length then 7
 else Pw p.A_
def zI(p:Ao)(hl:p.A_.length<1000000)(hs:∀e∈p.A_,e.stack.length<2000000):AT prog Gl 245 [.d p.A5] (.d (.int .i64 (Ii p))):=by
 refine CN ?_;refine acS func245 ntmps245 results245 ?_;refine FC ?_;refine Ag ?_;obtain⟨ns,hns⟩:∃ns:List Int,ns=[p.A0,p.AB,p.lost]:=⟨_,rfl⟩;refine Bm 3 (λk=>[(1,.ptr 0 0),(11,.d (.sl (ns.map (D.int .i64)))),(12,(3:Int)),(13,(k:Int))]) (λ_=>[.box 4 (.d p.A5)]) (λk=>∀n∈ns.take k,¬(n<0\/1000000000000000<n)) (λn hn=>by cases hn) ?_ ?_
 ·refine(x_ 11 rfl).trans ?_;refine BA [] [0] rfl A6 ?_ rfl;rw[hns];rfl
 intro k hi hk;have h3:ns.length=3:=by rw[hns];rfl
 by_cases h:k<3
 ·have hk3:k<ns.length:=oo;have hb:ns.getD k default<0\/1000000000000000<ns.getD k default->Ii p=2:=λhb=>by
   have:ns.getD k default∈ns:=Ba hk3;rw[Ii,AD];rw[hns] at this hb;simp only[Bw,En,E6] at this;rcases this with e|e|e<;>rw[e] at hb<;>omega
  simp only[zF,seval,(oo:(k:Int)<3),h3,h,Af _ _ _ (oo:k<ns.length),a_w ((k:Int)+1)];apply ifC.mk<;>intro h1
  ·rw[hb Cz];exact⟨_,_,Ei,rfl,rfl⟩
  refine⟨λn hn=>?_,BA [] [0] rfl A6 rfl rfl⟩;rw[CY ns k hk3] at hn;rcases CH.1 hn with hn|hn
  ·exact hi n hn
  simp only[CG] at hn;rw[hn];simpa using h1
 have hk:k=3:=oo;subst hk;rw[show ns.take 3=ns by rw[<-h3,BL],hns] at hi;have h0:¬(p.A0<0\/1000000000000000<p.A0\/p.AB<0\/1000000000000000<p.AB\/p.lost<0\/1000000000000000<p.lost):=by
  have q1:=hi p.A0 A6;have q2:=hi p.AB A6;have q3:=hi p.lost A6;omega
 rw[Ii,A7 h0];have hw:IntKind.i64.wrap (p.AB+(p.A_.length:Int))=p.AB+p.A_.length:=by rw[IL oo oo]
 simp only[zF,seval,(oo:¬(3:Int)<3),hw];apply ifC.mk<;>intro h1
 ·apply ifC.mk<;>intro h2
  ·rw[AD Cz];exact⟨_,_,Ei,rfl,rfl⟩
  rw[h1] at h2;cases h2
 rw[A7 Cz];refine Ag ?_;apply ifC.mk<;>intro h2
 ·rw[AD DN];exact⟨_,_,Ei,rfl,rfl⟩
 rw[A7 DN];refine Ag ?_;apply ifC.mk<;>intro h3
 ·rw[AD (by have:(p.A_.length:Int)=0:=Gv;omega)];exact⟨_,_,Ei,rfl,rfl⟩
 rw[A7 (by have:¬(p.A_.length:Int)=0:=Gv;omega)];refine Ag ?_;apply ifC.mk<;>intro h4
 ·rw[AD (by have:(1000:Int)<(p.A_.length:Int):=Ic;omega)];exact⟨_,_,Ei,rfl,rfl⟩
 rw[A7 (by have:¬(1000:Int)<(p.A_.length:Int):=Ic;omega)];refine Ak (Qe8 _ hl hs) ?_;exact Kx

def sq(x y:List (List UInt8))(hx:x.length<2000000)(hy:y.length<2000000):AT prog Gl 257 [.d (.sl (x.map .str)),.d (.sl (y.map .str))] (.d (.bool (decide (x=y)))):=by
 refine FB ?_;refine acS func257 ntmps257 results257 ?_;refine FC ?_;apply ifC.mk<;>intro h1
 ·have h1:x.length≠y.length:=TN;refine BT ?_;rw[HX (λe=>h1 Li)]
 have h1:x.length=y.length:=TN;refine Bm x.length (λj=>[(0,.d (.sl (x.map .str))),(1,.d (.sl (y.map .str))),(12,(x.length:Int)),(13,(j:Int))]) (λ_=>[]) (λj=>x.take j=y.take j) rfl ?_ ?_
 ·refine Gw ?_;simp only[zF,seval,HB]
 intro j hi hjl;by_cases hj:j<x.length
 ·have hj2:j<y.length:=oo;have e1:=CY x j hj;have e2:=CY y j hj2;have g1:(x.map D.str).getD j default=.str (x.getD j default):=Ku;have g2:(y.map D.str).getD j default=.str (y.getD j default):=by simp[hj2]
  simp only[zF,seval,(oo:(j:Int)<x.length),(oo:(j:Int)<y.length),hj,hj2,g1,g2];refine Ag ?_;apply ifC.mk<;>intro h2
  ·have h2:x.getD j default≠y.getD j default:=DN;refine BT ?_;rw[HX (λe=>h2 Li)]
  have h2:x.getD j default=y.getD j default:=DN;refine⟨by rw[e1,e2,hi,h2],?_⟩;refine Gw ?_;simp only[zF,seval,a_w ((j:Int)+1)]
 have:j=x.length:=oo;subst this;simp only[zF,seval,(oo:¬(x.length:Int)<x.length)];refine BT ?_;rw[BL,h1,BL] at hi;rw[JU hi]
def EqS(Gl:BM)(F:FuncId){α:Type}(f:α->D):Prop:=∀(x:List α),x.length<1000000->AT prog Gl F [.d (.sl (x.map f)),.d (.sl (x.map f))] (.d (.bool true))
def Wk:EqS Gl 222 An.A5/\EqS Gl 223 BC.A5/\EqS Gl 224 B3.A5:=by
 and_intros
 all_goals
  intro x hx;refine AT.Jv ?_
 refine acS func222 ntmps222 results222 ?_;simp only[zF,seval,B6,PU];obtain⟨f,hf⟩:∃f,f=An.A5:=⟨_,rfl⟩;rotate_left;refine acS func223 ntmps223 results223 ?_;simp only[zF,seval,B6,PU];obtain⟨f,hf⟩:∃f,f=BC.A5:=⟨_,rfl⟩;rotate_left;refine acS func224 ntmps224 results224 ?_;simp only[zF,seval,B6,PU];obtain⟨f,hf⟩:∃f,f=B3.A5:=⟨_,rfl⟩;rotate_left
 all_goals
  refine Bm x.length (λj=>[(0,.d (.sl (x.map f))),(1,.d (.sl (x.map f))),(12,(x.length:Int)),(13,(j:Int))]) (λ_=>[]) (λ_=>True) trivial ?_ ?_
  all_goals subst hf
  ·exact Dd
  intro j hi hjl;by_cases hj:j<x.length
  ·have g1:=λf:_->D=>Af f x j hj;generalize x.getD j default=y at *;simp only[zF,seval,(oo:(j:Int)<x.length),hj,g1,a_w ((j:Int)+1)];refine Ag ?_;simp only[zF,seval,An.A5,BC.A5,B3.A5,beq_self_eq_true,PU,Bool.and_self,Sz];refine Ag ?_;exact Dd
  have:j=x.length:=oo;subst this;simp only[zF,seval,(oo:¬(x.length:Int)<x.length)];exact⟨_,_,Ei,rfl,rfl⟩
def Sh(e f:EvT):Bool:=e.at_==f.at_&&e.kind==f.kind&&e.name==f.name&&e.n==f.n&&e.m==f.m&&decide (e.stack=f.stack)
def tu{e f:EvT}(h:Sh e f=true):e=f:=by
 cases e;cases f;simp only[Sh,C5,GR,CZ] at h;simp[h]
def vx(e f:EvT)(he:e.stack.length<2000000)(hf:f.stack.length<2000000):AT prog Gl 249 [.d e.A5,.d f.A5] (.d (.bool (Sh e f))):=by
 refine FB ?_;refine acS func249 ntmps249 results249 ?_;refine FC ?_;refine DS (λ_=>sq e.stack f.stack he hf) ?_;exact Kx
def Gz{α:Type}[Inhabited α](p:α->α->Bool)(a b:List α):Bool:=decide (a.length=b.length)&&(List.range a.length).all λi=>p (a.getD i default) (b.getD i default)
def kc{α:Type}[Inhabited α]{p:α->α->Bool}(hp:∀x y,p x y=true->x=y){a b:List α}(h:Gz p a b=true):a=b:=by
 simp only[Gz,C5,CZ,EW,CI] at h;apply HY h.1;intro i h1 h2;have:=hp _ _ (h.2 i h1);simpa[h1,h2] using this
def jJ{P:Program}{f c:FuncId}{args:List D}{y:D}(h:AW P Gl f (args.map AV.d++[.fn c []]) [] (λr s=>r=.d y/\s=[])):AT P Gl f (args.map AV.d++[.fn c []]) (.d y):=λS=>by
 have e1:(args.map AV.d++[AV.fn c []]).map (BJ [] S)=args.map AV.d++[.fn c []]:=Pg;refine(AW.under (P:=P) (Gl:=Gl) (f:=f) (args:=args.map AV.d++[.fn c []]) (σ:=S) [] Ht A6 (by rw[e1];exact h)).mono λr s h2=>?_;obtain⟨r0,s0,⟨h1,h2⟩,h3,h4⟩:=h2;subst h1;subst h2;subst h3;subst h4;exact⟨by simp[BK],Ua S⟩
def qQ(fv:FuncId)(p:EvT->EvT->Bool)(a b:List EvT)(ha:a.length<1000000)(hb:b.length<1000000)(hp:∀x∈a,∀y∈b,AT prog Gl fv [.d x.A5,.d y.A5] (.d (.bool (p x y)))):
  AT prog Gl 248 [.d (.sl (a.map EvT.A5)),.d (.sl (b.map EvT.A5)),.fn fv []] (.d (.bool (Gz p a b))):=by
 refine jJ (args:=[.sl (a.map EvT.A5),.sl (b.map EvT.A5)]) ?_;simp only[Ci,E9,O7,Vm];refine acS func248 ntmps248 results248 ?_;simp only[zF,seval,B6];have hle:a.length≠b.length->Gz p a b=false:=λh=>by rw[Gz,HX h];rfl
 apply ifC.mk<;>intro h1
 ·exact mF
 have h1:a.length=b.length:=TN;have hall:Gz p a b=(List.range a.length).all λi=>p (a.getD i default) (b.getD i default):=by rw[Gz,JU h1,Hu]
 rw[hall];refine Bm a.length (λj=>[(1,.d (.sl (b.map EvT.A5))),(2,.fn fv []),(15,.d (.sl (a.map EvT.A5))),(16,(a.length:Int)),(17,(j:Int))]) (λ_=>[]) (λj=>((List.range a.length).take j).all (λi=>p (a.getD i default) (b.getD i default))=true) rfl ?_ ?_
 ·exact Dd
 intro j hi hjl;by_cases hj:j<a.length
 ·have hj2:j<b.length:=oo;have hs:=CY (List.range a.length) j Kt;have hgr:(List.range a.length).getD j default=j:=Ku;refine oW ?_;apply ifC.mk<;>intro h2
  ·exact mH
  exact oa
 have:j=a.length:=oo;subst this;rw[Bi A6] at hi;simp only[zF,seval,(oo:¬(a.length:Int)<a.length)];refine⟨_,_,Ei,?_,rfl⟩;rw[hi]
def qR(fv:FuncId)(p:Ao->Ao->Bool)(a b:List Ao)(ha:a.length<1000000)(hb:b.length<1000000)(hp:∀x∈a,∀y∈b,AT prog Gl fv [.d x.A5,.d y.A5] (.d (.bool (p x y)))):
  AT prog Gl 225 [.d (.sl (a.map Ao.A5)),.d (.sl (b.map Ao.A5)),.fn fv []] (.d (.bool (Gz p a b))):=by
 refine jJ (args:=[.sl (a.map Ao.A5),.sl (b.map Ao.A5)]) ?_;simp only[Ci,E9,O7,Vm];refine acS func225 ntmps225 results225 ?_;simp only[zF,seval,B6];have hle:a.length≠b.length->Gz p a b=false:=λh=>by rw[Gz,HX h];rfl
 apply ifC.mk<;>intro h1
 ·exact mF
 have h1:a.length=b.length:=TN;have hall:Gz p a b=(List.range a.length).all λi=>p (a.getD i default) (b.getD i default):=by rw[Gz,JU h1,Hu]
 rw[hall];refine Bm a.length (λj=>[(1,.d (.sl (b.map Ao.A5))),(2,.fn fv []),(15,.d (.sl (a.map Ao.A5))),(16,(a.length:Int)),(17,(j:Int))]) (λ_=>[]) (λj=>((List.range a.length).take j).all (λi=>p (a.getD i default) (b.getD i default))=true) rfl ?_ ?_
 ·exact Dd
 intro j hi hjl;by_cases hj:j<a.length
 ·have hj2:j<b.length:=oo;have hs:=CY (List.range a.length) j Kt;have hgr:(List.range a.length).getD j default=j:=Ku;refine oW ?_;apply ifC.mk<;>intro h2
  ·exact mH
  exact oa
 have:j=a.length:=oo;subst this;rw[Bi A6] at hi;simp only[zF,seval,(oo:¬(a.length:Int)<a.length)];refine⟨_,_,Ei,?_,rfl⟩;rw[hi]
def LO(p q:Ao):Bool:=p.A0==q.A0&&p.AB==q.AB&&p.lost==q.lost&&Gz Sh p.A_ q.A_
def uW{p q:Ao}(h:LO p q=true):p=q:=by
 cases p;cases q;simp only[LO,C5,GR] at h;have:=kc (λ_ _=>tu) h.2;simp[h,this]
def Ao.GC(p:Ao):Prop:=p.A_.length<1000000/\∀e∈p.A_,e.stack.length<2000000
def wI(p q:Ao)(hp:p.GC)(hq:q.GC):AT prog Gl 227 [.d p.A5,.d q.A5] (.d (.bool (LO p q))):=by
 refine FB ?_;refine acS func227 ntmps227 results227 ?_;refine FC ?_;refine DS (λ_=>qQ 249 Sh p.A_ q.A_ hp.1 hq.1 λx hx y hy=>vx x y (hp.2 x hx) (hq.2 y hy)) ?_;exact Kx
def Qe0(p q:Ao)(hp:p.GC)(hq:q.GC):AT prog Gl 226 [.d p.A5,.d q.A5] (.d (.bool (LO p q))):=by
 refine FB ?_;refine acS func226 ntmps226 results226 ?_;refine FC ?_;refine Ak (wI p q hp hq) ?_;exact Kx
def hdD(a:Av):D:=.agg [.sl (a.A9.map An.A5),.sl (a.AZ.map BC.A5),.sl (a.AK.map B3.A5)]
def hdB(b:Bool)(a:Av):Blk:=if b=true then .box 3 (.d (hdD a)) else .box 3 (.agg [.AA,.AA,.AA])
def iK(a:Av):hdB false a=.box 3 (.agg [.AA,.AA,.AA]):=rfl
def ZD(a:Av):hdB true a=.box 3 (.d (.agg [.sl (a.A9.map An.A5),.sl (a.AZ.map BC.A5),.sl (a.AK.map B3.A5)])):=rfl
def lgS(a b:Av)(p q r s:Bool):Sto:=[.box 4 (.d a.A5),.box 4 (.d b.A5),onB p (hdB r a),onB q (hdB s b)]
def uT(a b:Av)(p q r s:Bool):C1 [0,1,2,3] (freezeL (lgS a b p q r s) [])=lgS a b p q r s:=by
 cases p<;>cases q<;>cases r<;>cases s<;>rfl
def gU(a b:Av)(p q r s:Bool):lgS a b p q r s=[.box 4 (.d a.A5),.box 4 (.d b.A5),onB p (hdB r a),onB q (hdB s b)]:=rfl
def Q9n(a b:Av)(p q r s:Bool):A1 (lgS a b p q r s) 0=.box 4 (.d a.A5):=rfl
def Q9m(a b:Av)(p q r s:Bool):A1 (lgS a b p q r s) 1=.box 4 (.d b.A5):=rfl
def Av.GC(l:Av):Prop:=l.A9.length<1000000/\l.AZ.length<1000000/\l.AK.length<1000000/\l.parts.length<900000/\∀p∈l.parts,p.GC
set_option maxHeartbeats 4000000 in
def yz(a b:Av)(ha:a.GC)(hb:b.GC)(e1:a.A9=b.A9)(e2:a.AZ=b.AZ)(e3:a.AK=b.AK):AT prog Gl 207 [.d a.A5,.d b.A5] (.d (.bool (Gz LO a.parts b.parts))):=by
 refine FB ?_;refine acS func207 ntmps207 results207 ?_;refine FC ?_;refine⟨.inr (SE
  (λL=>[(7,onV (L 0) (.ptr 0 0)),(8,onV (L 1) (.d (hdD a))),(9,onV (L 2) (.ptr 1 0)),(10,onV (L 3) (.d (hdD b))),(5,onV (L 4) (.ptr 2 0)),(6,onV (L 5) (.ptr 3 0)),(2,.ptr 0 0),(3,.ptr 1 0)])
  (λL=>lgS a b (L 4) (L 5) (L 6) (L 7)) Ax ?_ ?_ ?_),?_⟩
 ·exact BA [] [0,1,2,3] rfl A6 rfl rfl
 ·simp only[Mx];refine⟨?_,?_,?_,?_,?_,?_,?_,?_,trivial⟩
  all_goals (intro L hc hL hp;(try simp only[EM,Region.binds,frB] at hp);(try simp only[EU,Nat.reduceAdd] at hL);simp only[zF,seval,hL,hp,Ef,Er,D3,FG,iK,ZD,Q9n,Q9m])
  all_goals have q6:L 6=true->L 4=true:=λh=>(hc 6 _ rfl h).1 rfl
  all_goals have q7:L 7=true->L 5=true:=λh=>(hc 7 _ rfl h).1 rfl
  all_goals have q76:L 7=true->L 6=true:=λh=>(hc 7 _ rfl h).2.2.1 rfl
  case refine_5=>
   have h6:L 6=false:=F_.2 λh=>by rw[q6 h] at hL;cases hL
   have h7:L 7=false:=F_.2 λh=>by rw[q76 h] at h6;cases h6
   rw[h6,h7];refine BA [] [0,1,4,3] rfl A6 ?_ ?_
   ·simp only[zF,seval,FG,Km,Ef,Er]
    try rfl
   cases L 5<;>rfl
  case refine_6=>
   have h7:L 7=false:=F_.2 λh=>by rw[q7 h] at hL;cases hL
   rw[h7];refine BA [] [0,1,2,4] rfl A6 ?_ ?_
   ·simp only[zF,seval,FG,Km,Ef,Er]
    try rfl
   cases L 4<;>cases L 6<;>rfl
  case refine_7=>
   have h7:L 7=false:=F_.2 λh=>by rw[q76 h] at hL;cases hL
   rw[h7];exact mh
  case refine_8=>
   exact mh
  all_goals repeat((with_reducible apply aI);exact sdp)
  all_goals refine BA [] [0,1,2,3] rfl A6 ?_ (uT ..)
  all_goals first|rfl|(simp only[zF,seval,FG,Km,Ef,Er];try rfl)
 simp only[zF,seval,Ef,gU,Sd,ZD];rotate_left
 all_goals
  rw[e1];refine Ak (Wk.1 b.A9 hb.1) ?_;refine C0 ?_;rw[e2];refine DS (λ_=>Wk.2.1 b.AZ hb.2.1) ?_;refine C0 ?_;rw[e3];refine DS (λ_=>Wk.2.2 b.AK hb.2.2.1) ?_;refine C0 ?_;have hA:=ha.2.2.2;have hB:=hb.2.2.2;refine DS (λ_=>qR 226 LO a.parts b.parts oo oo λx hx y hy=>Qe0 x y (hA.2 x hx) (hB.2 y hy)) ?_;refine C0 ?_;exact⟨_,_,Ei,rfl,rfl⟩

def zK:type_of% @zT:=@zT
def eg(fv:FuncId)(n:Nat)(y:D)(p:BC->Bool)(hp:∀x:BC,AW prog Gl fv [.d x.A5,.ptr 0 0] [.box n (.d y)] (λr s=>r=.d (.bool (p x))/\s=[.box n (.d y)]))(l:List BC)(hl:l.length<1000000):
  AW prog Gl 198 [.d (.sl (l.map BC.A5)),.fn fv [.ptr 0 0]] [.box n (.d y)] (λr s=>r=.d (.int .i64 (Ew p l))/\s=[.box n (.d y)]):=by
 refine acS func198 ntmps198 results198 ?_;simp only[zK,seval,B6];refine Bm l.length (λk=>[(0,.d (.sl (l.map BC.A5))),(1,.fn fv [.ptr 0 0]),(7,(l.length:Int)),(8,(k:Int))]) (λ_=>[.box n (.d y)]) (λk=>(l.take k).any p=false) rfl ?_ ?_
 ·refine BA [] [0] rfl A6 ?_ rfl;simp only[zK,seval,HB];rfl
 intro k hi hk;by_cases h:k<l.length
 ·have hs:=K_ p l k h;simp only[zK,seval,(oo:(k:Int)<l.length),h,Af _ _ _ (oo:k<l.length)];refine Be ((hp _).mono λr s hr=>?_);obtain⟨rfl,rfl⟩:=hr;refine FN ?_;apply ifC.mk<;>intro hc
  ·exact cB
  refine⟨RT,?_⟩;refine BA [] [0] rfl A6 ?_ rfl;simp only[zK,seval,a_w ((k:Int)+1)];rfl
 simp only[zK,seval,(oo:¬(k:Int)<l.length)];have:k=l.length:=oo;subst this;rw[BL] at hi;refine⟨_,_,Dh [] [0] rfl A6 (show BJ _ _ _=AV.d _ from rfl) rfl,?_,rfl⟩;rw[NL hi]
def fA(fv:FuncId)(n:Nat)(y:D)(p:BC->Bool)(hp:∀x:BC,AW prog Gl fv [.d x.A5,.ptr 0 0] [.box n (.d y)] (λr s=>r=.d (.bool (p x))/\s=[.box n (.d y)]))(l:List BC)(hl:l.length<1000000):
  AW prog Gl 172 [.d (.sl (l.map BC.A5)),.fn fv [.ptr 0 0]] [.box n (.d y)] (λr s=>r=.d (.bool (l.any p))/\s=[.box n (.d y)]):=by
 refine acS func172 ntmps172 results172 ?_;simp only[zK,seval,B6];refine Be ((eg fv n y p hp l hl).mono λr s hr=>?_);obtain⟨rfl,rfl⟩:=hr;simp only[zK,seval];refine⟨_,_,Dh [] [0] rfl A6 (show BJ _ _ _=AV.d _ from rfl) rfl,?_,rfl⟩;rw[S6]
def wB(id:Int)(x:BC):AW prog Gl 215 [.d x.A5,.ptr 0 0] [.box 1 (.d (.int .i64 id))] (λr s=>r=.d (.bool (x.id==id))/\s=[.box 1 (.d (.int .i64 id))]):=by
 refine acS func215 ntmps215 results215 ?_;refine Jg ?_;exact WR
def Ij(d:List BC)(id:Int):Int:=Ew (λx:BC=>x.id==id) d
def To(d:List BC)(id:Int)(hd:d.length<1000000):AT prog Gl 199 [.d (.sl (d.map BC.A5)),(id:Int)] (.d (.int .i64 (Ij d id))):=by
 refine FB ?_;refine acS func199 ntmps199 results199 ?_;refine Jg ?_;refine LK 0 (eg _ 1 _ _ (wB id) d hd) (λs=>rfl) Ha trivial ?_;refine FN ?_;exact D0
def Mm(n:Int):Bool:=decide (0<=n)&&decide (n<=1000000000000)
def Xa(n:Int):AT prog Gl 214 [(n:Int)] (.d (.bool (Mm n))):=by
 refine CN ?_;refine acS func214 ntmps214 results214 ?_;refine Jg ?_;exact D0
def SN(x:BC):Bool:=decide (x.id<0)||decide (8<=x.id)||decide (x.JG<0)||decide (10000<x.JG)
def Ow(d:List BC)(k:Nat):Int:=if SN (d.getD k default)=true then 2 else if 0<=Ij (d.take k) (d.getD k default).id then 4 else 0
def yZ(d:List BC)(hd:d.length<1000000):AT prog Gl 196 [.d (.sl (d.map BC.A5))] (.d (.int .i64 (Bh (Ow d) d.length))):=by
 refine CN ?_;refine acS func196 ntmps196 results196 ?_;refine Jg ?_;refine Bm d.length (λk=>[(0,.d (.sl (d.map BC.A5))),(5,.d (.sl (d.map BC.A5))),(6,(d.length:Int)),(7,(k:Int))]) (λ_=>[]) (λk=>Bh (Ow d) k=0) rfl ?_ ?_
 ·exact Dd
 intro k hi hk;by_cases h:k<d.length
 ·have e1:Ow d k=if SN (d.getD k default)=true then 2 else if 0<=Ij (d.take k) (d.getD k default).id then 4 else 0:=rfl;have hbad:SN (d.getD k default)=(decide ((d.getD k default).id<0)||decide (8<=(d.getD k default).id)||decide ((d.getD k default).JG<0)||decide (10000<(d.getD k default).JG)):=rfl;simp only[zK,seval,(oo:(k:Int)<d.length),h,Af _ _ _ (oo:k<d.length),a_w ((k:Int)+1)];rw[<-hbad];apply ifC.mk<;>intro h1
  ·rw[AD h1] at e1;refine BT ?_;rw[Ga hi (by rw[e1];decide) h,e1]
  rw[A7 Pe] at e1;simp only[zK,seval,(oo:(k:Int)<=d.length),(oo:k<=d.length),BW,Dw];refine Ag ?_;rw[<-JT];refine Ak (To (d.take k) _ Pf) ?_;simp only[zK,seval,a_w ((k:Int)+1)];apply ifC.mk<;>intro h2
  ·rw[AD DN] at e1;refine BT ?_;rw[Ga hi (by rw[e1];decide) h,e1]
  rw[A7 DN] at e1;exact⟨HR hi e1,BA [] [] rfl A6 rfl rfl⟩
 have hk:k=d.length:=oo;subst hk;simp only[zK,seval,(oo:¬(d.length:Int)<d.length)];rw[hi];exact D0
def JE(d:List BC)(x:B3):Int:=
 if Ij d x.a<0\/Ij d x.b<0 then 5 else if x.a=x.b then 1
 else if(!Mm x.F8||!Mm x.lo||!Mm x.hi||decide (x.hi<x.lo))=true then 2 else 0
def Q5p(d:List BC)(x:B3)(hd:d.length<1000000):AT prog Gl 197 [.d (.sl (d.map BC.A5)),.d x.A5] (.d (.int .i64 (JE d x))):=by
 refine FB ?_;refine acS func197 ntmps197 results197 ?_;refine Jg ?_;refine Ak (To d x.a hd) ?_;refine FN ?_;have b5:Ij d x.a<0\/Ij d x.b<0->JE d x=5:=λh=>by rw[JE,AD h]
 have b2:¬(Ij d x.a<0\/Ij d x.b<0)->x.a≠x.b->(!Mm x.F8||!Mm x.lo||!Mm x.hi||decide (x.hi<x.lo))=true->JE d x=2:=λh1 h2 h3=>by rw[JE,A7 h1,A7 h2,AD h3]
 apply ifC.mk<;>intro h1
 ·rw[b5 (.inl Cz)];simp only[zK,seval,h1];exact D0
 refine Ak (To d x.b hd) ?_;refine FN ?_;apply ifC.mk<;>intro h2
 ·rw[b5 (.inr DN)];exact D0
 have h5:¬(Ij d x.a<0\/Ij d x.b<0):=by simp at h1 h2;omega
 apply ifC.mk<;>intro h3
 ·rw[JE,A7 h5,AD Gv];exact D0
 have h3:x.a≠x.b:=Gv;refine Ak (Xa _) ?_;refine FN ?_;apply ifC.mk<;>intro h4
 ·rw[b2 h5 h3 (by rw[h4];rfl)];simp only[zK,seval,h4];exact D0
 refine Ak (Xa _) ?_;refine FN ?_;apply ifC.mk<;>intro h6
 ·rw[b2 h5 h3 (by rw[h6];simp)];simp only[zK,seval,h6];exact D0
 refine Ak (Xa _) ?_;refine FN ?_;apply ifC.mk<;>intro h7
 ·rw[b2 h5 h3 (by rw[h7];simp)];simp only[zK,seval,h7];exact D0
 apply ifC.mk<;>intro h8
 ·rw[b2 h5 h3 (by rw[h8];simp)];exact D0
 rw[JE,A7 h5,A7 h3,h4,h6,h7,h8];exact D0
def GB(d:List BC)(l:List B3):Int:=
 if d.length=0 then 8 else if 8<d.length\/200<l.length then 7 else if ¬(d.getD 0 default)=⟨0,0⟩ then 10
 else if Bh (Ow d) d.length≠0 then Bh (Ow d) d.length
 else Bh (λk=>JE d (l.getD k default)) l.length
def Y8(d:List BC)(l:List B3)(hd:d.length<1000000)(hl:l.length<1000000):AT prog Gl 171 [.d (.sl (d.map BC.A5)),.d (.sl (l.map B3.A5))] (.d (.int .i64 (GB d l))):=by
 refine FB ?_;refine acS func171 ntmps171 results171 ?_;refine Jg ?_;apply ifC.mk<;>intro h1
 ·rw[GB,AD Cz];exact D0
 have h1:¬d.length=0:=by simp at h1;simp[h1]
 refine Ag ?_;apply ifC.mk<;>intro h2
 ·rw[GB,A7 h1,AD OF];exact D0
 have h2:¬(8<d.length\/200<l.length):=OF;have g0:=Af BC.A5 d 0 oo;generalize hx0:d.getD 0 default=x0 at *;simp only[zK,seval,(oo:(0:Int)<d.length),(oo:0<d.length),g0];refine Ag ?_;simp only[zK,seval,BC.A5];have e0:(x0=⟨0,0⟩)↔(x0.id=0/\x0.JG=0):=by cases x0;simp
 apply ifC.mk<;>intro h3
 ·rw[GB,A7 h1,A7 h2,AD (by rw[hx0,e0];simp at h3;omega)];exact D0
 have h3:x0=⟨0,0⟩:=by rw[e0];simpa using h3
 refine Ak (yZ d hd) ?_;refine FN ?_;apply ifC.mk<;>intro h4
 ·rw[GB,A7 h1,A7 h2,A7 (by rw[hx0];simpa using h3),AD Ic];exact D0
 have e1:GB d l=Bh (λk=>JE d (l.getD k default)) l.length:=by
  rw[GB,A7 h1,A7 h2,A7 (by rw[hx0];simpa using h3),A7 Ic]
 refine Bm l.length (λk=>[(0,.d (.sl (d.map BC.A5))),(30,.d (.sl (l.map B3.A5))),(31,(l.length:Int)),(32,(k:Int))]) (λ_=>[]) (λk=>Bh (λk=>JE d (l.getD k default)) k=0) rfl ?_ ?_
 ·exact Dd
 intro k hi hk;by_cases h:k<l.length
 ·simp only[zK,seval,(oo:(k:Int)<l.length),h,Af _ _ _ (oo:k<l.length),a_w ((k:Int)+1)];refine Ak (Q5p d _ hd) ?_;simp only[zK,seval,a_w ((k:Int)+1)];apply ifC.mk<;>intro h5
  ·refine BT ?_;rw[e1,Ga hi Ib h]
  exact⟨HR hi Ib,BA [] [] rfl A6 rfl rfl⟩
 have hk:k=l.length:=oo;subst hk;simp only[zK,seval,(oo:¬(l.length:Int)<l.length)];rw[e1,hi];exact D0
def LR(x y:B3):Bool:=x.a==y.a&&x.F8==y.F8&&x.b==y.b&&x.lo==y.lo&&x.hi==y.hi
def J7(l:List B3):Nat->List B3
 | 0=>[]
 | k+1=>if(l.take k).any (LR (l.getD k default))=true then J7 l k else J7 l k++[l.getD k default]
def XK(l:List B3):∀k,(J7 l k).length<=k
 | 0=>AR _
 | k+1=>by have:=XK l k;unfold J7;split<;>simp<;>omega
def Q8s(x y:B3):Jk prog 291 BinOp.eql (.d x.A5) (.d y.A5):=by
 simp only[zK,seval,B3.A5]
 done
def Q8t(x y:B3):Ki BinOp.eql (.d x.A5) (.d y.A5)=.d (.bool (LR x y)):=by
 simp only[zK,seval,B3.A5,LR,Bool.and_assoc]
def rn(l:List B3)(hl:l.length<900000):AT prog Gl 200 [.d (.sl (l.map B3.A5))] (.d (.sl ((J7 l l.length).map B3.A5))):=by
 refine CN ?_;refine acS func200 ntmps200 results200 ?_;refine Jg ?_;refine Bm l.length (λk=>[(0,.d (.sl (l.map B3.A5))),(3,.A8 0 0 (J7 l k).length),(9,.d (.sl (l.map B3.A5))),(10,(l.length:Int)),(11,(k:Int))]) (λk=>[.arr 5 ((J7 l k).map B3.A5)]) (λ_=>True) trivial ?_ ?_
 ·exact(Eb 3 5 rfl).trans (AU rfl)
 intro k _ hk;by_cases h:k<l.length
 ·have hdl:=XK l k;have hst:J7 l (k+1)=if(l.take k).any (LR (l.getD k default))=true then J7 l k else J7 l k++[l.getD k default]:=rfl;rw[hst];generalize J7 l k=out at *;generalize hxx:l.getD k default=x at *;simp only[zK,seval,(oo:(k:Int)<l.length),h,Af _ _ _ (oo:k<l.length),hxx,(oo:(k:Int)<=l.length),(oo:k<=l.length),BW,Dw];refine Ag ?_;rw[<-JT];refine Bm k (λj=>[(0,.d (.sl (l.map B3.A5))),(3,.A8 0 0 out.length),(4,(k:Int)),(5,.ptr 1 0),(6,((l.take j).any (LR x):Bool)),(9,.d (.sl (l.map B3.A5))),(10,(l.length:Int)),(11,(k:Int)),(18,.d (.sl ((l.take k).map B3.A5))),(19,(k:Int)),(20,(j:Int))]) (λ_=>[.arr 5 (out.map B3.A5),.box 5 (.d x.A5)]) (λ_=>True) trivial ?_ ?_
  ·refine BA [] [0,1] rfl A6 ?_ rfl;simp only[zK,seval,BW,GU,(oo:min k l.length=k)];rfl
  intro j _ hj;by_cases h2:j<k
  ·have hg:(l.take k).getD j default=l.getD j default:=by
    rw[B5,GH h2,<-B5]
   have hjl:j<(l.take k).length:=Pf;have hs:(l.take (j+1)).any (LR x)=((l.take j).any (LR x)||LR x (l.getD j default)):=K_ _ l j oo;have hsn:∀y:B3,LR x y=(x.a==y.a&&x.F8==y.F8&&x.b==y.b&&x.lo==y.lo&&x.hi==y.hi):=λ_=>rfl;rw[hs];generalize (l.take j).any (LR x)=ag at *;generalize l.getD j default=y at *;simp only[zK,seval,(oo:(j:Int)<k),(oo:j<k),BW,GU,(oo:min k l.length=k),Af _ _ _ (oo:j<(l.take k).length),hg,a_w ((j:Int)+1)];refine Ag ?_;refine⟨λ_=>Q8s x y,?_⟩;rw[Q8t];cases ag
   ·refine⟨rfl,?_⟩;exact BA [] [0,1] rfl A6 rfl rfl
   refine⟨rfl,?_⟩;exact BA [] [0,1] rfl A6 rfl rfl
  have hjk:j=k:=oo;subst hjk;simp only[zK,seval,(oo:¬(j:Int)<j),a_w ((j:Int)+1)];apply ifC.mk<;>intro h3
  ·rw[A7 Gv];refine Ag ?_;refine BA [] [3] rfl A6 ?_ ?_
   ·refine Po ?_;rfl
   rw[CA,show List.take out.length (out.map B3.A5)=out.map B3.A5 from Bi A6];rfl
  rw[AD Gv];exact Kz
 have hk:k=l.length:=oo;subst hk;simp only[zK,seval,(oo:¬(l.length:Int)<l.length)];refine Pp ?_;simp only[zK,seval,HQ]
def mkM(F:Int->Bool):Aw->Option AV:=λk=>match k with|.i n=>if F n=true then some (.d (.bool true)) else none|_=>none
def YB(F:Int->Bool):∀k v,mkM F k=some v->∃d,v=.d d:=λk v h=>by
 cases k with
 | i n=>
  simp only[mkM] at h;split at h
  ·cases h;exact⟨_,rfl⟩
  cases h
 | s l=>simp[mkM] at h
 | p a b=>simp[mkM] at h
def Tq(F:Int->Bool)(a:Int):BO (mkM F) (.i a) (.d (.bool true))=mkM (Ae F a true):=by
 funext k;cases k with
 | i n=>
  simp only[BO,mkM,Ae];by_cases e:n=a
  ·rw[e];simp
  simp[e]
 | s l=>simp[BO,mkM]
 | p a b=>simp[BO,mkM]
def uD(F:Int->Bool)(a:Int):mkM F (.i a)=if F a=true then some (.d (.bool true)) else none:=rfl
def Wq(F:Int->Bool)(a:Int):(mkM F (.i a)).getD (.d (.bool false))=.d (.bool (F a)):=by
 rw[uD];cases F a<;>rfl
def Z5(F:Int->Bool)(x:B3):Int->Bool:=if(F x.a||F x.b)=true then Ae (Ae F x.a true) x.b true else F
def Oz(F:Int->Bool)(l:List B3):Int->Bool:=l.foldl Z5 F
def Nc(l:List B3):Nat->Int->Bool
 | 0=>λn=>n==0
 | k+1=>Oz (Nc l k) l
def Qeo(F:Int->Bool)(l:List B3)(k:Nat)(h:k<l.length):Oz F (l.take (k+1))=Z5 (Oz F (l.take k)) (l.getD k default):=by rw[CY l k h,Oz,GD];rfl
def lkW(G:Int->Bool)(a b:Int)(p q:Bool):Int->Bool:=if q=true then Ae (Ae G a true) b true else if p=true then Ae G a true else G
def lkS(G:Int->Bool)(x:B3)(p q:Bool):Sto:=[.map (some .i64) (mkM (lkW G x.a x.b p q)),.box 5 (.d x.A5)]
def u9(G:Int->Bool)(x:B3)(p q:Bool):lkS G x p q=[.map (some .i64) (mkM (lkW G x.a x.b p q)),.box 5 (.d x.A5)]:=rfl
def Q9l(G:Int->Bool)(x:B3)(p q:Bool):A1 (lkS G x p q) 0=.map (some .i64) (mkM (lkW G x.a x.b p q)):=rfl
def Q9k(G:Int->Bool)(x:B3)(p q:Bool):A1 (lkS G x p q) 1=.box 5 (.d x.A5):=rfl
def jx(G:List Nat)(S:Sto)(F:Int->Bool):Ca G S (.map (some .i64) (mkM F))=.map (some .i64) (mkM F):=by
 have e:(λk=>(mkM F k).map (BJ G S))=mkM F:=by
  funext k;cases h:mkM F k with
  | none=>rfl
  | some v=>obtain⟨d,rfl⟩:=YB F k v h;rfl
 show Blk.map _ (λk=>(mkM F k).map (BJ G S))=_;rw[e]
def ji(G:Int->Bool)(x:B3)(p q:Bool):C1 [0,1] (freezeL (lkS G x p q) [])=lkS G x p q:=by
 show[Ca _ _ (.map (some .i64) (mkM _)),_]=_;rw[jx];rfl
def Q2(d:List BC)(l:List B3)(id:Int):Bool:=if GB d l≠0\/Ij d id<0 then false else Nc (J7 l l.length) d.length id
def vo(d:List BC)(l:List B3)(id:Int)(hd:d.length<900000)(hl:l.length<900000):AT prog Gl 174 [.d (.sl (d.map BC.A5)),.d (.sl (l.map B3.A5)),(id:Int)] (.d (.bool (Q2 d l id))):=by
 refine AT.Z2 ?_;refine acS func174 ntmps174 results174 ?_;refine Jg ?_;refine Ak (Y8 d l oo oo) ?_;refine FN ?_;refine DS (λ_=>To d id oo) ?_;refine FN ?_;apply ifC.mk<;>intro h1
 ·rw[Q2,AD Cz];exact D0
 rw[Q2,A7 Cz];refine Ak (rn l hl) ?_;refine FN ?_;have hdl:=XK l l.length;generalize J7 l l.length=L0 at *;have e0:BO (λ_=>none) (Aw.i 0) (AV.d (D.bool true))=mkM (Nc L0 0):=by
  funext k;cases k with
  | i n=>by_cases e:n=0<;>simp[BO,mkM,Nc,e]
  | s l=>simp[BO,mkM]
  | p a b=>simp[BO,mkM]
 rw[e0];refine Bm d.length (λk=>[(1,.d (.sl (L0.map B3.A5))),(2,(id:Int)),(7,.AF 0),(24,.d (.sl (d.map BC.A5))),(25,(d.length:Int)),(26,(k:Int))]) (λk=>[.map (some .i64) (mkM (Nc L0 k))]) (λ_=>True) trivial ?_ ?_
 ·exact Dd
 intro k _ hk;by_cases h:k<d.length
 ·have es:Nc L0 (k+1)=Oz (Nc L0 k) L0:=rfl;rw[es];generalize Nc L0 k=F at *;simp only[zK,seval,(oo:(k:Int)<d.length)];refine Bm L0.length (λj=>[(1,.d (.sl (L0.map B3.A5))),(2,(id:Int)),(7,.AF 0),(24,.d (.sl (d.map BC.A5))),(25,(d.length:Int)),(26,(k:Int)),(28,.d (.sl (L0.map B3.A5))),(29,(L0.length:Int)),(30,(j:Int))]) (λj=>[.map (some .i64) (mkM (Oz F (L0.take j)))]) (λ_=>True) trivial ?_ ?_
  ·exact Dd
  intro j _ hj;by_cases h2:j<L0.length
  ·have es:=Qeo F L0 j h2;rw[es];generalize Oz F (L0.take j)=G at *;generalize hxx:L0.getD j default=x at *;have hG:∀a,lkF [Blk.map (some .i64) (mkM G)] (.AF 0) (.i a)=if G a=true then some (.d (.bool true)) else none:=λa=>rfl;simp only[zK,seval,(oo:(j:Int)<L0.length),h2,Af _ _ _ (oo:j<L0.length),hxx,a_w ((j:Int)+1),Wq,Tq];refine Ag ?_;have el:Z5 G x=if(G x.a||G x.b)=true then Ae (Ae G x.a true) x.b true else G:=rfl;apply ifC.mk<;>intro h3
   ·rw[el,AD h3];refine⟨.inr (SE
     (λL=>[(44,onV (L 0) (.AF 0)),(45,onV (L 1) (.ptr 1 0)),(46,onV (L 2) (.d (.int .i64 x.a))),(47,onV (L 3) (.AF 0)),(48,onV (L 4) (.ptr 1 2)),(49,onV (L 5) (.d (.int .i64 x.b))),(9,.ptr 1 0),(1,.d (.sl (L0.map B3.A5))),(2,(id:Int)),(7,.AF 0),(24,.d (.sl (d.map BC.A5))),(25,(d.length:Int)),(26,(k:Int)),(28,.d (.sl (L0.map B3.A5))),(29,(L0.length:Int)),(30,(j:Int))])
     (λL=>lkS G x (L 6) (L 7)) Ax ?_ ?_ ?_),?_⟩
    ·exact BA [] [0,1] rfl A6 rfl (ji G x false false)
    ·simp only[Mx];refine⟨?_,?_,?_,?_,?_,?_,?_,?_,trivial⟩
     all_goals (intro L hc hL hp;(try simp only[EM,Region.binds,frB] at hp);(try simp only[EU,Nat.reduceAdd] at hL);simp only[zK,seval,hL,hp,Ef,Er,D3,FG,Q9l,Q9k])
     all_goals have q7:L 7=true->L 6=true:=λh=>(hc 7 _ rfl h).2.2.1 rfl
     case refine_7=>
      have h7:L 7=false:=F_.2 λh=>by rw[q7 h] at hL;cases hL
      rw[h7];rw[show List.set (lkS G x false false) 0 (Blk.map (some IntKind.i64) (BO (mkM (lkW G x.a x.b false false)) (Aw.i x.a) (AV.d (D.bool true))))=lkS G x true false from by rw[Tq];rfl]
      first|exact Bc.refl _ _ _ _|exact⟨rfl,Bc.refl _ _ _ _⟩
     case refine_8=>
      rw[show List.set (lkS G x true false) 0 (Blk.map (some IntKind.i64) (BO (mkM (lkW G x.a x.b true false)) (Aw.i x.b) (AV.d (D.bool true))))=lkS G x true true from by rw[Tq];rfl]
      first|exact Bc.refl _ _ _ _|exact⟨rfl,Bc.refl _ _ _ _⟩
     all_goals refine BA [] [0,1] rfl A6 ?_ (ji ..)
     all_goals first|rfl|(simp only[zK,seval,FG])
    ·simp only[zK,seval,u9,a_w ((j:Int)+1)];exact bV
    exact bV
   rw[el,A7 K9];exact bV
  have:j=L0.length:=oo;subst this;simp only[zK,seval,(oo:¬(L0.length:Int)<L0.length),a_w ((k:Int)+1),BL];exact⟨h,BA [] [0] rfl A6 rfl (HS (YB _) _)⟩
 have hk:k=d.length:=oo;subst hk;simp only[zK,seval,(oo:¬(d.length:Int)<d.length),Wq];exact D0

def cpF(l:List Int):Nat->List Int
 | 0=>[]
 | k+1=>if 0<k/\l.getD k default=l.getD (k-1) default then cpF l k else cpF l k++[l.getD k default]
def Wi(l:List Int):∀k,(cpF l k).length<=k
 | 0=>AR _
 | k+1=>by have:=Wi l k;unfold cpF;split<;>simp<;>omega
def YM(l:List Int):∀k,k<=l.length->(∀j,0<j->j<k->l.getD j default≠l.getD (j-1) default)->cpF l k=l.take k
 | 0,_,_=>by simp[cpF]
 | k+1,hk,h=>by
  rw[cpF,YM l k oo λj h1 h2=>h j h1 oo];rw[A7 (λhh=>h k hh.1 oo hh.2),CY l k oo]
def Qfr(ys:List Int)(i n:Nat)(hn:ys.length=n)(hi:i<=n):Il (ys.map (D.int .i64)) i (n-i) (.int .i64 0)=(ys.take i++List.replicate (n-i) 0).map (D.int .i64):=by
 exact pJ
def gl(l:List Int)(hl:l.length<1000000):AW prog Gl 182 [.A8 0 0 l.length] [.arr 1 (l.map (D.int .i64))]
  (λr s=>r=.A8 0 0 (cpF l l.length).length/\∃ys:List Int,s=[.arr 1 (ys.map (D.int .i64))]/\ys.take (cpF l l.length).length=cpF l l.length/\ys.length=l.length):=by
 refine acS func182 ntmps182 results182 ?_;simp only[zK,seval,B6];have fin:(∀j,0<j->j<l.length->l.getD j default≠l.getD (j-1) default)->cpF l l.length=l:=λh=>by rw[YM l l.length (AR _) h,BL]
 apply ifC.mk<;>intro h1
 ·have h1:(l.length:Int)<2:=Cz;have e:=fin λj h2 h3=>oo;rw[e];exact⟨_,_,Bg.refl _ _ _,rfl,l,rfl,BL,rfl⟩
 have h1:¬(l.length:Int)<2:=Cz;refine CL (τ:=Nat) (λi=>[(0,.A8 0 0 l.length),(3,(i:Int))]) (λ_=>[.arr 1 (l.map (D.int .i64))]) (λi=>0<i/\i<=l.length/\∀j,0<j->j<i->l.getD j default≠l.getD (j-1) default) (λi=>l.length-i) 1 ⟨oo,oo,λj h2 h3=>oo⟩ ?_ ?_
 ·exact Kz
 intro i hi;obtain⟨h2,h3,h4⟩:=hi;by_cases h:i<l.length
 ·have e1:IntKind.i64.wrap ((i:Int)-1)=((i-1:Nat):Int):=Bz;simp only[zK,seval,(oo:(i:Int)<l.length)];refine⟨.inl Ax,?_⟩;simp only[zK,seval,(oo:(i:Int)<l.length),h,Af _ _ _ (oo:i<l.length),e1,(oo:((i-1:Nat):Int)<l.length),(oo:i-1<l.length),Af _ _ _ (oo:i-1<l.length),a_w ((i:Int)+1)];refine Ag ?_;apply ifC.mk<;>intro h5
  ·have h5:l.getD i default=l.getD (i-1) default:=Ib;have hfirst:cpF l (i+1)=l.take i:=by rw[cpF,AD ⟨h2,h5⟩,YM l i h3 h4]
   simp only[zK,seval,(oo:(i:Int)<=l.length),(oo:i<=l.length),Dw];refine Ag ?_;refine CL (τ:=(Nat×Nat)×List Int) (λx=>[(0,.A8 0 0 l.length),(3,(x.1.1:Int)),(4,.A8 0 i (l.length-i)),(5,(x.1.2:Int))]) (λx=>[.arr 1 (x.2.map (D.int .i64))])
    (λx=>0<x.1.2/\i+x.1.2<=l.length/\x.1.1=(cpF l (i+x.1.2)).length/\x.1.1+1<=i+x.1.2/\x.2.length=l.length/\x.2.take x.1.1=cpF l (i+x.1.2)/\∀j,i+x.1.2<=j+1->x.2.getD j default=l.getD j default) (λx=>l.length-x.1.2) ((i,1),l)
    ⟨A6,AQ,by simp only;rw[hfirst,GU];omega,AQ,rfl,hfirst.symm,λj _=>rfl⟩ ?_ ?_
   ·refine BA [] [0] rfl A6 ?_ rfl;rfl
   rintro⟨⟨m,k⟩,ys⟩ ⟨q1,q2,q3,q4,q5,q6,q7⟩;simp only at q1 q2 q3 q4 q5 q6 q7;by_cases h6:i+k<l.length
   ·have e2:IntKind.i64.wrap ((k:Int)-1)=((k-1:Nat):Int):=Bz;have g1:ys.getD (i+k) default=l.getD (i+k) default:=q7 _ oo;have g2:ys.getD (i+(k-1)) default=l.getD (i+k-1) default:=by rw[show i+(k-1)=i+k-1 by omega];exact q7 _ oo
    simp only[zK,seval,(oo:(k:Int)<((l.length-i:Nat):Int))];refine⟨.inl Ax,?_⟩;simp only[zK,seval,(oo:(k:Int)<((l.length-i:Nat):Int)),(oo:k<l.length-i),e2,(oo:((k-1:Nat):Int)<((l.length-i:Nat):Int)),(oo:k-1<l.length-i),(oo:i+k<ys.length),(oo:i+(k-1)<ys.length),Af _ _ _ (oo:i+k<ys.length),Af _ _ _ (oo:i+(k-1)<ys.length),g1,g2,a_w ((k:Int)+1)];refine Ag ?_;have hc:cpF l (i+k+1)=if 0<i+k/\l.getD (i+k) default=l.getD (i+k-1) default then cpF l (i+k) else cpF l (i+k)++[l.getD (i+k) default]:=rfl;apply ifC.mk<;>intro h8
    ·have h8:¬l.getD (i+k) default=l.getD (i+k-1) default:=by simpa using h8
     rw[A7 (λhh=>h8 hh.2)] at hc;refine Ag ?_;refine⟨((m+1,k+1),ys.set m (l.getD (i+k) default)),⟨AQ,AQ,?_,AQ,by simp[q5],?_,λj hj=>?_⟩,AQ,BA [] [0] rfl A6 ?_ (by simp only[JS];rfl)⟩
     ·simp only;rw[<-G1,hc,Bb,<-q3];rfl
     ·simp only;rw[<-G1,hc,<-q6,CY _ m Ap,List.take_set_of_le (AR _)];congr 1;simp[show m<ys.length by omega]
     ·simp only at hj ⊢;rw[B5,IX oo,<-B5];exact q7 j oo
     simp only[zK,seval,a_w ((m:Int)+1),a_w ((k:Int)+1)]
    have h8:l.getD (i+k) default=l.getD (i+k-1) default:=by simpa using h8
    rw[AD ⟨oo,h8⟩] at hc;refine⟨((m,k+1),ys),⟨AQ,AQ,?_,AQ,q5,?_,λj hj=>q7 j ab⟩,AQ,BA [] [0] rfl A6 ?_ rfl⟩
    ·simp only;rw[<-G1,hc];exact q3
    ·simp only;rw[<-G1,hc];exact q6
    simp only[zK,seval,a_w ((k:Int)+1)]
   have e:i+k=l.length:=oo;rw[e] at q3 q6;have hz:(D.int .i64 0)=(D.int .i64 0):=rfl;simp only[zK,seval,(oo:¬(k:Int)<((l.length-i:Nat):Int)),(oo:(m:Int)<=l.length),(oo:m<=l.length),Dw];refine Ag ?_;refine⟨_,_,Bg.refl _ _ _,by rw[<-q3,Nw],ys.take m++List.replicate (l.length-m) 0,?_,?_,?_⟩
   ·rw[EA,Qfr ys m l.length q5 oo]
   ·rw[<-q3,List.take_left' Ap,q6]
   simp;omega
  have h5:¬l.getD i default=l.getD (i-1) default:=Ib;refine⟨i+1,⟨oo,oo,λj h6 h7=>?_⟩,oo,BA [] [0] rfl A6 ?_ rfl⟩
  ·by_cases e:j=i
   ·rw[e];exact h5
   exact h4 j h6 oo
  simp only[zK,seval,a_w ((i:Int)+1)]
 have e:i=l.length:=oo;subst e;simp only[zK,seval,(oo:¬(l.length:Int)<l.length)];have e:=fin h4;rw[e];exact⟨_,_,Bg.refl _ _ _,rfl,l,rfl,BL,rfl⟩
def ptS(id:Int)(x:B3):List Int:=(if x.a=id then[x.F8] else[])++(if x.b=id then[x.lo,x.hi] else[])
def ptL(l:List B3)(id:Int):List Int:=l.flatMap (ptS id)
def xB(l:List B3)(id:Int)(k:Nat)(h:k<l.length):ptL (l.take (k+1)) id=ptL (l.take k) id++ptS id (l.getD k default):=by
 rw[CY l k h,ptL,Kr,lI];rfl
def Tx(id:Int):∀l:List B3,(ptL l id).length<=3*l.length
 | []=>AR _
 | x::l=>by
  have:=Tx id l;unfold ptL at this ⊢;rw[IU,Bb,CT];have:(ptS id x).length<=3:=by unfold ptS;split<;>split<;>simp
  omega
def Cs(l:List B3)(id:Int):List Int:=cpF (D9 (ptL l id)) (D9 (ptL l id)).length
def QS(l:List Int):(D9 l).length=l.length:=by unfold D9;exact List.length_mergeSort l
def vq(l:List B3)(id:Int)(hl:l.length<300000):KG prog Gl 201 [.d (.sl (l.map B3.A5)),(id:Int)] 1 ((Cs l id).map (D.int .i64)):=by
 refine KG.of (args:=[.sl (l.map B3.A5),.int .i64 id]) ?_;simp only[Ci,E9];refine acS func201 ntmps201 results201 ?_;refine Jg ?_;refine Bm l.length (λk=>[(1,(id:Int)),(5,.A8 0 0 (ptL (l.take k) id).length),(8,.d (.sl (l.map B3.A5))),(9,(l.length:Int)),(10,(k:Int))]) (λk=>[.arr 1 ((ptL (l.take k) id).map (D.int .i64))]) (λ_=>True) trivial ?_ ?_
 ·exact(Eb 5 1 rfl).trans (AU rfl)
 intro k _ hk;by_cases h:k<l.length
 ·have hal:=Tx id (l.take k);rw[GU] at hal;rw[xB l id k h];generalize ptL (l.take k) id=out at *;have hps:ptS id (l.getD k default)=(if(l.getD k default).a=id then[(l.getD k default).F8] else[])++(if(l.getD k default).b=id then[(l.getD k default).lo,(l.getD k default).hi] else[]):=rfl;generalize hxx:l.getD k default=x at *;have htk:List.take out.length (out.map (D.int .i64))=out.map (D.int .i64):=Bi A6;rw[hps];simp only[zK,seval,(oo:(k:Int)<l.length),h,Af _ _ _ (oo:k<l.length),hxx,a_w ((k:Int)+1)];apply ifC.mk<;>intro h1
  ·refine Lm ?_;refine Ag ?_;simp only[zK,seval,htk];apply ifC.mk<;>intro h2
   ·rw[AD DN];refine Ag ?_;refine BA [] [5] rfl A6 ?_ ?_
    ·rfl
    show[Blk.arr 1 _]=[Blk.arr 1 _];rw[Bi (l:=out.map (D.int .i64)++_) A6];simp
   rw[A7 DN];exact nX
  rw[A7 Cz];apply ifC.mk<;>intro h2
  ·rw[AD DN];refine Ag ?_;simp only[zK,seval,htk];exact nX
  rw[A7 DN];refine BA [] [0] rfl A6 ?_ ?_
  ·rfl
  show[Blk.arr 1 _]=[Blk.arr 1 _];simp
 have hk:k=l.length:=oo;subst hk;have hal:=Tx id l;have e1:=QS (ptL l id);have eF:Cs l id=cpF (D9 (ptL l id)) (D9 (ptL l id)).length:=rfl;simp only[zK,seval,(oo:¬(l.length:Int)<l.length),BL];refine Be ((Xb (ptL l id) oo).mono λr s hr=>?_);obtain⟨rfl,rfl⟩:=hr;refine FN ?_;rw[<-e1];refine Be ((gl (D9 (ptL l id)) oo).mono λr s hr=>?_);obtain⟨rfl,ys,rfl,h1,h2⟩:=hr;rw[<-eF] at h1 ⊢;refine FN ?_;have h3:(Cs l id).length<=ys.length:=by
  have:=congrArg List.length h1;rw[GU] at this;omega
 by_cases h0:0<ys.length
 ·refine⟨_,_,(Qgo 0 (Cs l id).length (Bq _) rfl (by rw[BW];exact h3) (by rw[BW];exact h0)).trans (Dh [] [1] rfl A6 rfl rfl),rfl,?_⟩;show[Blk.arr 1 _]=_;rw[<-JT,h1]
 have hy:ys=[]:=G3 oo;subst hy;have hp:Cs l id=[]:=by rw[<-h1];simp
 rw[hp];exact WR
end YtafpldmnkcegmaaGreat
end Go.Proofs

set_option maxRecDepth 100000
namespace Go.Proofs
open Go.AM Tryz
namespace Mul64R
def wrapN(a:Nat)(ha:a<18446744073709551616):IntKind.u64.wrap (a:Int)=(a:Int):=by rw[IntKind.wrap_u64];omega
def wrapM(a:Nat):IntKind.u64.wrap (a:Int)=((a % 18446744073709551616:Nat):Int):=by rw[IntKind.wrap_u64];omega
end Mul64R
namespace YtafpldmnkcegmaaGreat
variable {Gl:BM}
def ZG(a:Nat)(ha:a<18446744073709551616):M0 .and .u64 (a:Int) 4294967295=.int .u64 ((a % 4294967296:Nat):Int):=by
 have h:=bits_and_u64_nat a 4294967295 ha oo;have e:a &&& 4294967295=a % 4294967296:=Nat.and_two_pow_sub_one_eq_mod a 32;rw[e] at h;rw[<-h];rfl
def Q36(a:Nat):M0 .shr .u64 (a:Int) 32=.int .u64 ((a / 4294967296:Nat):Int):=by
 show D.int .u64 (Int.fdiv (a:Int) (2 ^ (min 32 64)))=_;rw[lH _ D7];rfl
def Q4x(b:Int):HP .and .u64 .u64 b=True:=eq_true rfl
def ja(x y:Nat)(hx:x<18446744073709551616)(hy:y<18446744073709551616):
  AT prog Gl 243 [.d (.int .u64 x),.d (.int .u64 y)] (.Aj [.d (.int .u64 ((x*y / 18446744073709551616:Nat):Int)),.d (.int .u64 ((x*y % 18446744073709551616:Nat):Int))]):=by
 obtain⟨bd,bt,bw,hhi⟩:=Lib.mul64_hi x y hx hy;have ba:=Lib.half_mul_le (a:=x / 4294967296) (b:=y / 4294967296) oo oo;have bb:=Lib.half_mul_le (a:=x / 4294967296) (b:=y % 4294967296) oo oo;have bc:=Lib.half_mul_le (a:=x % 4294967296) (b:=y / 4294967296) oo oo;have ba':x / 4294967296*(y / 4294967296)<18446744073709551616:=oo;have bb':x / 4294967296*(y % 4294967296)<18446744073709551616:=oo;have bc':x % 4294967296*(y / 4294967296)<18446744073709551616:=oo;have bh1:x / 4294967296*(y / 4294967296)+(x / 4294967296*(y % 4294967296)+x % 4294967296*(y % 4294967296) / 4294967296) / 4294967296<18446744073709551616:=oo;have bh:x / 4294967296*(y / 4294967296)+(x / 4294967296*(y % 4294967296)+x % 4294967296*(y % 4294967296) / 4294967296) / 4294967296+((x / 4294967296*(y % 4294967296)+x % 4294967296*(y % 4294967296) / 4294967296) % 4294967296+x % 4294967296*(y / 4294967296)) / 4294967296<18446744073709551616:=oo;refine AT.Fx ?_;refine acS func243 ntmps243 results243 ?_;simp only[Ys,ZJ,ZI,Z1,jB,Xm,Xx,implies_true,Nat.reduceLT,Nat.reduceLeDiff,Nat.reduceEqDiff,Nat.reduceAdd,Nat.reduceSub,Nat.reduceMul,Int.reduceToNat,Int.reduceLT,Int.reduceLE,Int.reduceEq,Int.reduceAdd,Int.reduceSub,Int.reduceNeg,Int.reduceBEq,Int.reduceBNe,Int.reduceMul,T1,Vn,reduceCtorEq,reduceIte,jE,B6,Q4x,R0,ZG x hx,ZG y hy,Q36,<-Int.natCast_mul,<-T1,Mul64R.wrapN _ bd,Mul64R.wrapN _ bb',Mul64R.wrapN _ bt,ZG _ bt,Mul64R.wrapN _ bc',Mul64R.wrapN _ bw,Mul64R.wrapN _ ba',Mul64R.wrapN _ bh1,Mul64R.wrapN _ bh,Mul64R.wrapM (x*y)];rw[hhi];exact⟨_,_,KY,rfl,rfl⟩
end YtafpldmnkcegmaaGreat
end Go.Proofs

set_option maxRecDepth 100000
namespace Go.Proofs
open Go.AM Tryz
namespace YtafpldmnkcegmaaGreat
variable {Gl:BM}
def pd(a b:Nat):Int.tmod (a:Int) (b:Int)=((a % b:Nat):Int):=rfl
def qB(a b:Nat):Int.tdiv (a:Int) (b:Int)=((a / b:Nat):Int):=rfl
def Q8y(a b:Int):FQ .rem (.int .u64 a) (.int .u64 b)=.int .u64 (a.tmod b):=rfl
def qC(a b:Int):FQ .quo (.int .u64 a) (.int .u64 b)=.int .u64 (IntKind.u64.wrap (a.tdiv b)):=rfl
def tR(lo y:Nat)(hl:lo<18446744073709551616)(h0:0<y)(hy:y<18446744073709551616):
  AT prog Gl 255 [.d (.int .u64 0),.d (.int .u64 lo),.d (.int .u64 y)] (.Aj [.d (.int .u64 ((lo / y:Nat):Int)),.d (.int .u64 ((lo % y:Nat):Int))]):=by
 have hq:lo / y<18446744073709551616:=Nat.lt_of_le_of_lt (Nat.div_le_self _ _) hl;refine AT.Ke ?_;refine acS func255 ntmps255 results255 ?_;simp only[zD,seval,B6,Mq (oo:¬((y:Int)=0)),(oo:¬(y:Int)<=0),qC,Q8y,pd,qB,Mul64R.wrapN _ hq];refine⟨.inl Ax,oo,oo,?_⟩;exact⟨_,_,KY,rfl,rfl⟩
def kj(n:Nat)(hn:n<9000000000000000000):AT prog Gl 254 [(n:Int)] (.Aj [.d (.int .u64 n),false]):=by
 refine AT.FL ?_;refine acS func254 ntmps254 results254 ?_;simp only[zD,seval,B6,(oo:¬(n:Int)<0),Mul64R.wrapN n oo];exact KB
def XL(n:Int)(h:-1000000000000000<=n/\n<=1000000000000000):AT prog Gl 241 [(n:Int),true] (.Aj [(n:Int),true]):=by
 refine AT.Fx ?_;refine acS func241 ntmps241 results241 ?_;simp only[zD,seval,B6];refine DS (λ_=>P5 n) ?_;simp only[zD,seval,(oo:-1000000000000000<=n),(oo:n<=1000000000000000)];exact KB
def ib(a b c:Nat)(ha:a<=1000000000000000)(hb:b<=1000000000000000)(hab:a*b<18446744073709551616)(hc:0<c)(hc2:c<=1000000000000000)(hq:a*b / c<=1000000000000000):
  AT prog Gl 240 [(a:Int),(b:Int),(c:Int)] (.Aj [.d (.int .u64 ((a*b / c:Nat):Int)),.d (.int .u64 ((a*b % c:Nat):Int)),false,true]):=by
 have e0:a*b / 18446744073709551616=0:=TE hab;have e1:a*b % 18446744073709551616=a*b:=T2 hab;refine AT.Qa (args:=[.int .i64 a,.int .i64 b,.int .i64 c]) (λb=>by simp[BK,IB]) ?_;simp only[Ci,E9];refine acS func240 ntmps240 results240 ?_;simp only[zD,seval,B6];refine Ak (P5 a) ?_;simp only[zD,seval,(oo:-1000000000000000<=(a:Int)),(oo:(a:Int)<=1000000000000000)];refine DS (λ_=>P5 b) ?_;simp only[zD,seval,(oo:-1000000000000000<=(b:Int)),(oo:(b:Int)<=1000000000000000)];refine DS (λ_=>P5 c) ?_;simp only[zD,seval,(oo:-1000000000000000<=(c:Int)),(oo:(c:Int)<=1000000000000000),(oo:¬(c:Int)<1)];refine Ak (kj a oo) ?_;simp only[zD,seval];refine Ak (kj b oo) ?_;simp only[zD,seval];refine Ak (ja a b oo oo) ?_;rw[e0,e1];simp only[zD,seval,Mul64R.wrapN c oo,(oo:¬(c:Int)<=0),(oo:(0:Int)<(c:Int))];refine Ak (tR (a*b) c hab hc oo) ?_;simp only[zD,seval,(oo:((a*b / c:Nat):Int)<=1000000000000000)];exact⟨_,_,Dh [] [] rfl A6 rfl rfl,rfl,rfl⟩
def tS(a b c:Nat)(ha:a<=1000000000000000)(hb:b<=1000000000000000)(hab:a*b<18446744073709551616)(hc:0<c)(hc2:c<=1000000000000000)(hq:a*b / c<=1000000000000000):
  AT prog Gl 216 [(a:Int),(b:Int),(c:Int)] (.Aj [((a*b / c:Nat):Int),true]):=by
 refine AT.Ke ?_;refine acS func216 ntmps216 results216 ?_;simp only[zD,seval,B6];refine Ak (ib a b c ha hb hab hc hc2 hq) ?_;generalize a*b / c=Q at *;generalize a*b % c=R at *;simp only[zD,seval];rw[show IntKind.i64.wrap (Q:Int)=(Q:Int) from IL oo oo];refine Ak (XL _ oo) ?_;simp only[zD,seval];exact⟨_,_,KY,rfl,rfl⟩
def Zo(n c:Nat):Nat:=if 0<n % c then n / c+1 else n / c
def Q57(a b c:Nat)(ha:a<=1000000000000000)(hb:b<=1000000000000000)(hab:a*b<18446744073709551616)(hc:0<c)(hc2:c<=1000000000000000)(hq:a*b / c<1000000000000000):
  AT prog Gl 217 [(a:Int),(b:Int),(c:Int)] (.Aj [((Zo (a*b) c:Nat):Int),true]):=by
 refine AT.Ke ?_;have e:Zo (a*b) c=if 0<a*b % c then a*b / c+1 else a*b / c:=rfl;refine acS func217 ntmps217 results217 ?_;simp only[zD,seval,B6];refine Ak (ib a b c ha hb hab hc hc2 oo) ?_;generalize a*b / c=Q at *;generalize a*b % c=R at *;simp only[zD,seval];rw[show IntKind.i64.wrap (Q:Int)=(Q:Int) from IL oo oo];apply ifC.mk<;>intro h
 ·rw[AD Ks] at e;simp only[zD,seval,a_w ((Q:Int)+1)];refine Ak (XL _ oo) ?_;simp only[zD,seval];rw[e];exact KB
 rw[A7 Ks] at e;refine Ak (XL _ oo) ?_;simp only[zD,seval];rw[e];exact⟨_,_,KY,rfl,rfl⟩
def Ql(d p:Nat):Int:=((d*(1000000-p) / 1000000:Nat):Int)
def Qk(d p:Nat):Int:=(Zo (d*(1000000+p)) 1000000:Nat)
def yT(d p:Nat)(hd:d<=1000000000000)(hp:p<=10000):
  AT prog Gl 203 [(d:Int),(p:Int)] (.Aj [.d (.agg [.int .i64 (Ql d p),.int .i64 (Qk d p)]),true]):=by
 refine AT.Fx ?_;have h1:d*(1000000-p)<=1000000000000*1000000:=RC hd oo;have h2:d*(1000000+p)<=1000000000000*1010000:=RC hd oo;refine acS func203 ntmps203 results203 ?_;simp only[zD,seval,B6];simp only[zD,seval,(oo:¬(d:Int) < -1000000000000),(oo:¬(1000000000000:Int)<d),(oo:¬(p:Int)<0),(oo:¬(10000:Int)<p),(oo:¬(d:Int)<0)];rw[show IntKind.i64.wrap (1000000-(p:Int))=((1000000-p:Nat):Int) from Bz];refine Ak (tS d (1000000-p) 1000000 oo oo oo oo oo oo) ?_;simp only[zD,seval];rw[show IntKind.i64.wrap (1000000+(p:Int))=((1000000+p:Nat):Int) from Bz];refine Ak (Q57 d (1000000+p) 1000000 oo oo oo oo oo oo) ?_;simp only[zD,seval];exact⟨_,_,KY,rfl,rfl⟩

structure EdT where
 a:Nat
 b:Nat
 w:Int
deriving Inhabited,DecidableEq
def EdT.A5(x:EdT):D:=.agg [.int .i64 (x.a:Nat),.int .i64 (x.b:Nat),.int .i64 x.w]
def Rr(x:EdT):x.A5.isAgg=true:=rfl
def S5(x:EdT):x.A5.cells=[.int .i64 (x.a:Nat),.int .i64 (x.b:Nat),.int .i64 x.w]:=rfl
def GW(N:List (Int×Int))(a b:Int):Option Nat:=N.findIdx? λx=>x==(a,b)
def Cm(N:List (Int×Int))(a b:Int):List (Int×Int):=if(GW N a b).isSome=true then N else N++[(a,b)]
def CJ(N:List (Int×Int))(a b:Int):Nat:=(GW N a b).getD N.length+1
def Is(N:List (Int×Int)):Aw->Option AV:=λk=>match k with|.p a b=>(GW N a b).map λi=>.d (.int .i64 ((i+1:Nat):Int))|_=>none
def UW{N:List (Int×Int)}{a b:Int}(h:GW N a b=none):(a,b)∉N:=λhm=>by
 have:=aV.1 h _ hm;simp at this
def XU{N:List (Int×Int)}{a b:Int}{i:Nat}(h:GW N a b=some i):i<N.length/\(a,b)∈N:=by
 obtain⟨h1,h2,_⟩:=aY.1 h;refine⟨h1,?_⟩;have:N[i]=(a,b):=DN;rw[<-this];exact FZ h1
def uH{N:List (Int×Int)}(h:N.Nodup)(a b:Int):(Cm N a b).Nodup:=by
 unfold Cm;split
 ·exact h
 rename_i hn;have hn:GW N a b=none:=by cases hp:GW N a b with|none=>rfl|some i=>rw[hp] at hn;simp at hn
 rw[R8];refine⟨h,A6,λx hx y hy e=>?_⟩;have:y=(a,b):=WB;rw[e,this] at hx;exact UW hn hx
def ND(N:List (Int×Int))(a b:Int):(Cm N a b).length<=N.length+1/\N.length<=(Cm N a b).length/\0<CJ N a b/\CJ N a b<=(Cm N a b).length:=by
 unfold Cm CJ;cases h:GW N a b with
 | none=>simp
 | some i=>have:=(XU h).1;simp;omega
def za{N:List (Int×Int)}{a b:Int}(h:GW N a b=none):Is (N++[(a,b)])=BO (Is N) (.p a b) (.d (.int .i64 ((N.length+1:Nat):Int))):=by
 funext k;cases k with
 | i n=>simp[Is,BO]
 | s l=>simp[Is,BO]
 | p x y=>
  simp only[Is,BO,GW,List.findIdx?_append];by_cases e:(x,y)=(a,b)
  ·cases e;unfold GW at h;rw[h];simp
  have e2:¬Aw.p x y=Aw.p a b:=λh=>e TT;rw[A7 e2];have e3:((a,b)==(x,y))=false:=mB;cases hp:N.findIdx? (λz=>z==(x,y)) with
  | none=>simp[PZ,e3]
  | some i=>simp
def XS{N:List (Int×Int)}(h:N.Nodup):VM (some .u8) (Is N) (N.map λx=>.p x.1 x.2):=by
 refine⟨?_,λk hk=>?_,λk hk hs=>?_⟩
 ·rw[List.Nodup,O8];exact h.imp λ{x y} hne e=>hne (by cases x;cases y;simp_all)
 ·obtain⟨x,hx,rfl⟩:=C4.1 hk;refine⟨trivial,?_⟩;show((GW N x.1 x.2).map _).isSome=true;rw[Option.isSome_map];cases hp:GW N x.1 x.2 with
  | none=>exact absurd hx (UW hp)
  | some i=>rfl
 cases k with
 | i n=>exact hk.elim
 | s l=>exact hk.elim
 | p a b=>
  have hs:((GW N a b).map _).isSome=true:=hs;rw[Option.isSome_map] at hs;obtain⟨i,hi⟩:=Fa.1 hs;exact C4.2 ⟨(a,b),(XU hi).2,rfl⟩
structure Fb(σ:Sto)(p T c:Nat)(N:List (Int×Int))(E:List EdT):Prop where
 bx:A1 σ p=.box 2 (.agg [.AF T,.A8 c 0 E.length])
 mp:A1 σ T=.map (some .u8) (Is N)
 ar:∃xs,A1 σ c=.arr 3 xs/\E.length<=xs.length/\xs.take E.length=E.map EdT.A5
 nd:N.Nodup
def j0(S:Sto)(i:Nat):S.set i (A1 S i)=S:=by
 apply Gf;intro j;rw[H_];split
 ·rename_i e;subst e;by_cases h:i<S.length
  ·rw[AD h];unfold A1;simp[h]
  rw[A7 h];simp;omega
 rfl
def fF{S:Sto}{p T c:Nat}{N:List (Int×Int)}{E:List EdT}(h:Fb S p T c N E)(hl:N.length<1000000)(a b:Int):
  AW prog Gl 177 [.ptr p 0,(a:Int),(b:Int)] S (λr s=>r=.d (.int .i64 (CJ N a b:Nat))/\s=S.set T (.map (some .u8) (Is (Cm N a b)))):=by
 have hb:=h.bx;have hT:=h.mp;have lb:=AG hb rfl;have lT:=AG hT rfl;have hm:Is N (.p a b)=(GW N a b).map λi=>.d (.int .i64 ((i+1:Nat):Int)):=rfl;cases hp:GW N a b with
 | some i=>
  rw[hp] at hm;refine acS func177 ntmps177 results177 ?_;simp only[zK,seval,B6,hb,hT,lb,lT,hm,DF];have e1:CJ N a b=i+1:=by rw[CJ,hp];rfl
  have e2:Cm N a b=N:=by rw[Cm,hp];rfl
  rw[e1,e2,<-hT,j0];exact Lp
 | none=>
  rw[hp] at hm;refine Fv func177 rfl rfl (by simp[ntmps177]) ?_;simp only[ntmps177,results177,B6,C6];refine Cf ?_;refine FN ?_;refine Cf ?_;simp only[zK,seval,hb,hT,lb,lT,hm,aM];refine Hd ?_;refine FN ?_;refine AWp.Dl rfl rfl (AWp.seq ?_);have hk:=XS h.nd;refine YR (l1:=[_,_,_,_]) (tM:=25) (tD:=26) rfl rfl rfl rfl D7 Yq ?_;simp only[zK,seval,hb,hT,lb,lT];refine⟨_,_,_,rfl,hT,hk,?_⟩;simp only[zK,seval,BW,a_w ((N.length:Int)+1)];refine Eu ?_;simp only[zK,seval,hb,hT,lb,lT];refine Eu ?_;have e1:CJ N a b=N.length+1:=by rw[CJ,hp];rfl
  have e2:Cm N a b=N++[(a,b)]:=by rw[Cm,hp];rfl
  have e3:=za hp;rw[e1,e2,e3];refine FN ?_;exact Lp
def Fb.num{S:Sto}{p T c:Nat}{N:List (Int×Int)}{E:List EdT}(h:Fb S p T c N E)(a b:Int):Fb (S.set T (.map (some .u8) (Is (Cm N a b)))) p T c (Cm N a b) E:=by
 obtain⟨xs,h1,h2⟩:=h.ar;have hpT:p≠T:=AX h.bx h.mp A6;have hcT:c≠T:=AX h1 h.mp A6;exact⟨by rw[As hpT.symm];exact h.bx,BX (AG h.mp rfl),⟨xs,by rw[As hcT.symm];exact h1,h2⟩,uH h.nd a b⟩
def Fb.fr{S s:Sto}{p T c:Nat}{N:List (Int×Int)}{E:List EdT}(h:Fb S p T c N E)(hf:∀j,j=p\/j=T\/j=c->A1 s j=A1 S j):Fb s p T c N E:=by
 obtain⟨xs,h1,h2⟩:=h.ar;exact⟨(hf p (.inl rfl)).trans h.bx,(hf T (.inr (.inl rfl))).trans h.mp,⟨xs,(hf c (.inr (.inr rfl))).trans h1,h2⟩,h.nd⟩
def Fb.app{S:Sto}{p T c:Nat}{N:List (Int×Int)}{E:List EdT}(h:Fb S p T c N E)(t:Sto):Fb (S++t) p T c N E:=by
 obtain⟨xs,h1,h2⟩:=h.ar;refine h.fr λj hj=>BB ?_;rcases hj with rfl|rfl|rfl
 ·exact AG h.bx rfl
 ·exact AG h.mp rfl
 exact AG h1 rfl
def kq{S:Sto}{p T c:Nat}{N:List (Int×Int)}{E:List EdT}(h:Fb S p T c N E)(hl:E.length<1000000)(a b:Nat)(lo hi:Int):
  AW prog Gl 202 [.ptr p 0,((a:Nat):Int),((b:Nat):Int),.d (.agg [.int .i64 lo,.int .i64 hi])] S (λr s=>r=.Aj []/\Fb s p T (S.length+2) N (E++[⟨a,b,hi⟩,⟨b,a,IntKind.i64.wrap (0-lo)⟩])/\S.length<=s.length/\∀j,j<S.length->j≠p->j≠c->A1 s j=A1 S j):=by
 obtain⟨xs,h1,h2,h3⟩:=h.ar;have hb:=h.bx;have lb:=AG hb rfl;have lc:=AG h1 rfl;have hpc:p≠c:=AX hb h1 A6;have hpT:p≠T:=AX hb h.mp A6;have hcT:c≠T:=AX h1 h.mp A6;have lT:=AG h.mp rfl;refine acS func202 ntmps202 results202 ?_;simp only[zK,seval,B6,hb,h1,lb,lc,hpc,hpc.symm];refine⟨.inl Ax,?_⟩;refine⟨⟨oo,oo⟩,_,_,Bg.refl _ _ _,rfl,⟨?_,?_,⟨xs.take E.length++[EdT.A5 ⟨a,b,hi⟩,EdT.A5 ⟨b,a,IntKind.i64.wrap (0-lo)⟩],?_,?_,?_⟩,h.nd⟩,?_,?_⟩
 ·exact mo
 ·rw[BB (by simp;exact lT),As hpT,As hcT];exact h.mp
 ·exact nP
 ·simp;omega
 ·rw[h3,Bi A6,CA];rfl
 ·simp
 intro j hj h4 h5;rw[BB (by simp;exact hj),As (FX h4),As (FX h5)]
def M1(BK:Bool)(st:List Int×Bool)(x:EdT):List Int×Bool:=
 let a:=if BK=true then x.b else x.a
 let b:=if BK=true then x.a else x.b
 if st.1.getD a default≠9223372036854775807/\IntKind.i64.wrap (st.1.getD a default+x.w)<st.1.getD b default then(st.1.set b (IntKind.i64.wrap (st.1.getD a default+x.w)),false) else st
def Qbv(BK:Bool)(st:List Int×Bool)(x:EdT):(M1 BK st x).1.length=st.1.length:=by unfold M1;simp only;split<;>split<;>simp
def Hy(BK:Bool)(E:List EdT)(d:List Int):List Int×Bool:=E.foldl (M1 BK) (d,true)
def Qd7(BK:Bool)(E:List EdT)(d:List Int)(k:Nat)(h:k<E.length):Hy BK (E.take (k+1)) d=M1 BK (Hy BK (E.take k) d) (E.getD k default):=by rw[CY E k h,Hy,GD];rfl
def XT(BK:Bool)(d:List Int):∀E:List EdT,(Hy BK E d).1.length=d.length:=by
 have:∀(E:List EdT) (st:List Int×Bool),(E.foldl (M1 BK) st).1.length=st.1.length:=λE=>by
  induction E with
  | nil=>exact λ_=>rfl
  | cons x E ih=>exact λst=>by rw[GQ,ih,Qbv]
 exact λE=>this E (d,true)
def IF(BK:Bool)(E:List EdT):Nat->List Int->List Int×Bool
 | 0,d=>(d,false)
 | k+1,d=>if(Hy BK E d).2=true then((Hy BK E d).1,true) else IF BK E k (Hy BK E d).1
def jn{S:Sto}{p T c q:Nat}{N:List (Int×Int)}{E:List EdT}(h:Fb S p T c N E)(hl:E.length<1000000)(dist:List Int)(hd:dist.length<1000000)(hq:A1 S q=.arr 1 (dist.map (D.int .i64)))(hE:∀x∈E,x.a<dist.length/\x.b<dist.length)(BK:Bool):
  AW prog Gl 204 [.ptr p 0,.A8 q 0 dist.length,(BK:Bool)] S (λr s=>r=.d (.bool (IF BK E (dist.length+1) dist).2)/\A1 s q=.arr 1 ((IF BK E (dist.length+1) dist).1.map (D.int .i64))/\Fr S s [q]):=by
 obtain⟨xs,h1,h2,h3⟩:=h.ar;have hb:=h.bx;have lb:=AG hb rfl;have lc:=AG h1 rfl;have hqp:q≠p:=AX hq hb A6;have hqc:q≠c:=λe=>by
  rw[e,h1] at hq;cases hq
 refine acS func204 ntmps204 results204 ?_;simp only[zK,seval,B6];simp only[zK,seval,a_w ((dist.length:Int)+1)];refine CL (τ:=Nat×Sto×List Int) (λy=>[(0,.ptr p 0),(1,.A8 q 0 dist.length),(2,(BK:Bool)),(14,((dist.length:Int)+1:Int)),(15,(y.1:Int))]) (λy=>y.2.1)
  (λy=>y.1<=dist.length+1/\A1 y.2.1 q=.arr 1 (y.2.2.map (D.int .i64))/\y.2.2.length=dist.length/\Fr S y.2.1 [q]/\IF BK E (dist.length+1-y.1) y.2.2=IF BK E (dist.length+1) dist) (λy=>dist.length+1-y.1)
  (0,S,dist) ⟨Bq _,hq,rfl,Fr.refl _ _,rfl⟩ ?_ ?_
 ·exact Dd
 rintro⟨k,s,d⟩ ⟨hk,hqs,hdl,hf,hr⟩;simp only at hk hqs hdl hf hr;by_cases hkk:k<dist.length+1
 ·have hbs:=hf.at hb rfl (by simp[hqp.symm]);have lbs:=AG hbs rfl;simp only[zK,seval,(oo:(k:Int)<(dist.length:Int)+1),hbs,lbs];refine CL (τ:=Nat×Sto) (λz=>[(0,.ptr p 0),(1,.A8 q 0 dist.length),(2,(BK:Bool)),(14,((dist.length:Int)+1:Int)),(15,(k:Int)),(7,.d (.bool (Hy BK (E.take z.1) d).2)),(20,.A8 c 0 E.length),(21,(E.length:Int)),(22,(z.1:Int))]) (λz=>z.2)
   (λz=>z.1<=E.length/\A1 z.2 q=.arr 1 ((Hy BK (E.take z.1) d).1.map (D.int .i64))/\Fr S z.2 [q]) (λz=>E.length-z.1) (0,s) ⟨Bq _,by simpa[Hy] using hqs,hf⟩ ?_ ?_
  ·exact Mi
  rintro⟨j,s2⟩ ⟨hj,hQ,hf2⟩;simp only at hj hQ hf2;have lQ:=AG hQ rfl;have hcs:=hf2.at h1 rfl (by simp[hqc.symm]);have lcs:=AG hcs rfl;have hDl:=XT BK d (E.take j);by_cases hjj:j<E.length
  ·have hsn:=Qd7 BK E d j hjj;generalize Hy BK (E.take j) d=DB at *;obtain⟨D,calm⟩:=DB;simp only at hQ hDl;have hx:=hE _ (Ba hjj);have hg:xs.getD j default=(E.getD j default).A5:=by
    have e:(xs.take E.length).getD j default=(E.map EdT.A5).getD j default:=by rw[h3]
    rw[B5,GH hjj,<-B5,Af _ _ _ hjj] at e;exact e
   generalize E.getD j default=x at *;have hDl2:D.length=dist.length:=hDl.trans hdl;simp only[zK,seval,(oo:(j:Int)<E.length),hcs,lcs,hQ,lQ,hg,Rr,S5,(oo:j<xs.length)];refine Ag ?_;apply ifC.mk<;>intro hbk
   ·have hst:M1 BK (D,calm) x=if D.getD x.b default≠9223372036854775807/\IntKind.i64.wrap (D.getD x.b default+x.w)<D.getD x.a default then(D.set x.a (IntKind.i64.wrap (D.getD x.b default+x.w)),false) else(D,calm):=by
     rw[M1];simp only[hbk,Cx,By,CF]
    refine⟨.inl Ax,?_⟩;simp only[zK,seval,hQ,lQ,(oo:(x.b:Int)<dist.length),(oo:x.b<D.length),Af _ _ _ (oo:x.b<D.length),(oo:(x.a:Int)<dist.length),(oo:x.a<D.length),Af _ _ _ (oo:x.a<D.length),Dw,S5,Rr];refine Ag ?_;apply ifC.mk<;>intro hc
    ·rw[AD Dc] at hst;refine⟨.inl Ax,?_⟩;simp only[zK,seval,hQ,lQ,(oo:(x.b:Int)<dist.length),(oo:x.b<D.length),Af _ _ _ (oo:x.b<D.length),(oo:(x.a:Int)<dist.length),(oo:x.a<D.length),Af _ _ _ (oo:x.a<D.length),Dw,S5,Rr,a_w ((j:Int)+1)];refine Ag ?_;exact oy
    exact p9
   have hst:M1 BK (D,calm) x=if D.getD x.a default≠9223372036854775807/\IntKind.i64.wrap (D.getD x.a default+x.w)<D.getD x.b default then(D.set x.b (IntKind.i64.wrap (D.getD x.a default+x.w)),false) else(D,calm):=by
    rw[M1];simp only[hbk,Cx,By,CF]
   refine⟨.inl Ax,?_⟩;simp only[zK,seval,hQ,lQ,(oo:(x.a:Int)<dist.length),(oo:x.a<D.length),Af _ _ _ (oo:x.a<D.length),(oo:(x.b:Int)<dist.length),(oo:x.b<D.length),Af _ _ _ (oo:x.b<D.length),Dw,S5,Rr];refine Ag ?_;apply ifC.mk<;>intro hc
   ·rw[AD Dc] at hst;refine⟨.inl Ax,?_⟩;simp only[zK,seval,hQ,lQ,(oo:(x.a:Int)<dist.length),(oo:x.a<D.length),Af _ _ _ (oo:x.a<D.length),(oo:(x.b:Int)<dist.length),(oo:x.b<D.length),Af _ _ _ (oo:x.b<D.length),Dw,S5,Rr,a_w ((j:Int)+1)];refine Ag ?_;exact oy
   exact p9
  have hjE:j=E.length:=oo;subst hjE;rw[BL] at hQ hDl;have hR:dist.length+1-k=(dist.length+1-(k+1))+1:=oo;have hF:IF BK E ((dist.length+1-(k+1))+1) d=if(Hy BK E d).2=true then((Hy BK E d).1,true) else IF BK E (dist.length+1-(k+1)) (Hy BK E d).1:=rfl;rw[hR,hF] at hr;simp only[zK,seval,(oo:¬(E.length:Int)<E.length),BL];apply ifC.mk<;>intro hc
  ·rw[AD hc] at hr;rw[<-hr];exact⟨_,_,Bg.refl _ _ _,rfl,hQ,hf2⟩
  rw[A7 (by rw[hc];simp)] at hr;simp only[zK,seval,a_w ((k:Int)+1)];refine⟨(k+1,s2,(Hy BK E d).1),⟨AQ,hQ,AQ,hf2,hr⟩,AQ,AU ?_⟩;rfl
 have hk2:k=dist.length+1:=oo;subst hk2;rw[FA] at hr;have hF:IF BK E 0 d=(d,false):=rfl;rw[hF] at hr;simp only[zK,seval,(oo:¬(dist.length:Int)+1<(dist.length:Int)+1)];rw[<-hr];exact⟨_,_,Bg.refl _ _ _,rfl,hqs,hf⟩

def Q9w(n:Nat)(hn:n<=100000):AT prog Gl 218 [.d (.int .u64 1),.d (.int .u64 n)] (.Aj [.d (.int .u64 0),.d (.int .u64 n)]):=by
 have e0:1*n / 18446744073709551616=0:=TE oo;have e1:1*n % 18446744073709551616=n:=by rw[T2 oo];omega
 refine AT.Fx ?_;refine acS func218 ntmps218 results218 ?_;refine Jg ?_;refine Ak (ja 1 n oo oo) ?_;rw[e0,e1];refine FN ?_;refine Ag ?_;exact KB
def fill(n j:Nat):List D:=(List.range n).map λi=>if i<j then .int .i64 9223372036854775807 else .int .i64 0
def Ux(n j:Nat):(fill n j).length=n:=by simp[fill]
def Q0{n j i:Nat}(h:i<n):(fill n j)[i]? = some (if i<j then .int .i64 9223372036854775807 else .int .i64 0):=by simp[fill,h]
def gb{n j i:Nat}(h:i<n):(fill n j).getD i default=if i<j then .int .i64 9223372036854775807 else .int .i64 0:=by
 rw[B5,Q0 h];rfl
def vV(n:Nat):fill n n=(List.replicate n (9223372036854775807:Int)).map (.int .i64):=by
 apply Gf;intro i;rcases B9 i n with h|h
 ·rw[Q0 h,AD h];simp[h]
 exact nK
def ye(n:Nat):fill n 0=List.replicate n (.int .i64 0):=by
 apply Gf;intro i;rcases B9 i n with h|h
 ·rw[Q0 h,A7 oo];simp[h]
 exact nK
def vW(n:Nat):cpX (fill n 0) 0 (min 1 n) [.int .i64 9223372036854775807]=fill n (min 1 n):=by
 apply Gf;intro i;rcases B9 i n with h|h
 ·rw[Tt _ _ _ _ _ WA,Q0 h,gb h];by_cases h0:i=0
  ·subst h0;rw[AD oo,AD oo];rfl
  rw[A7 oo,A7 oo,A7 oo]
 exact nV
def yd(n j:Nat)(hj:j<=n):cpX (fill n j) j (min j (n-j)) ((fill n j).take j)=fill n (j+min j (n-j)):=by
 apply Gf;intro i;rcases B9 i n with h|h
 ·rw[Tt _ _ _ _ _ WA,Q0 h,gb h];by_cases h0:j<=i/\i<j+min j (n-j)
  ·rw[AD h0,AD h0.2,B5,GH oo,Q0 oo,AD oo];rfl
  rw[A7 h0];by_cases h1:i<j
  ·rw[AD h1,AD oo]
  rw[A7 h1,A7 oo]
 exact nV
def vt(n:Nat)(hn:n<=100000):AW prog Gl 205 [.d (.sl [.int .i64 9223372036854775807]),(n:Int)] [] (λr s=>r=.A8 0 0 n/\s=[.arr 1 ((List.replicate n (9223372036854775807:Int)).map (.int .i64))]):=by
 have w1:IntKind.u64.wrap 1=1:=rfl;have wn:IntKind.u64.wrap (n:Int)=n:=Mul64R.wrapN n oo;refine acS func205 ntmps205 results205 ?_;simp only[zK,seval,B6,(oo:¬(n:Int)<0),w1,wn];refine Ag ?_;refine Ak (Q9w n hn) ?_;simp only[zK,seval,(oo:¬9223372036854775807<(n:Int)),a_w ((n:Int)),Tr n oo,Wr,IY,<-ye,Ux,Hx,vW];refine Ag ?_;refine CL (τ:=Nat) (λj=>[(7,.A8 0 0 n),(8,(j:Int))]) (λj=>[.arr 1 (fill n j)]) (λj=>j<=n/\(0<n->0<j)) (λj=>n-j) (min 1 n) ⟨oo,oo⟩ ?_ ?_
 ·refine BA [] [0] rfl A6 ?_ rfl;simp only[zK,seval]
 rintro j ⟨hj,h0⟩;by_cases h:j<n
 ·have h0:=h0 oo;simp only[zK,seval,(oo:(j:Int)<n),Ux,GU,IZ,Nw];refine Ag ?_;refine⟨j+min j (n-j),⟨oo,λ_=>oo⟩,oo,?_⟩;rw[show min j n=j by omega,yd n j hj];refine BA [] [0] rfl A6 ?_ rfl;have e:IntKind.i64.wrap ((j:Int)+((min j (n-j):Nat):Int))=((j+min j (n-j):Nat):Int):=Bz;simp only[zK,seval,e]
 have:j=n:=oo;subst this;simp only[zK,seval,(oo:¬(j:Int)<j)];refine⟨_,_,Bg.refl _ _ _,rfl,by rw[vV]⟩
def tA{S:Sto}{p T c:Nat}{N:List (Int×Int)}{E:List EdT}(h:Fb S p T c N E)(hl:E.length<1000000)(hN:N.length<50000)(hE:∀x∈E,x.a<=N.length/\x.b<=N.length):
  AW prog Gl 176 [.ptr p 0] S (λr s=>r=.d (.bool (IF false E (N.length+1+1) (List.replicate (N.length+1) 0)).2)/\Fr S s []):=by
 have hb:=h.bx;have hT:=h.mp;have lb:=AG hb rfl;have lT:=AG hT rfl;have hk:=XS h.nd;refine Fv func176 rfl rfl (by simp[ntmps176]) ?_;simp only[ntmps176,results176,B6,C6];refine AWp.seq (Bu rfl _ _ _ _ ?_);simp only[zK,seval];refine AWp.seq ?_;refine YR (l1:=[_,_,_,_,_]) (tM:=7) (tD:=8) rfl rfl rfl rfl D7 Yq ?_;simp only[zK,seval,hb,hT,lb,lT];refine⟨_,_,_,rfl,hT,hk,?_⟩;have em:=Tr (N.length+1) oo;have es:=Wr S (N.length+1);rw[T1,Vn] at em es;simp only[zK,seval,BW,a_w ((N.length:Int)+1),em,es]
 repeat((with_reducible apply aI);exact sdp)
 have hg:=h.app [.arr 1 (List.replicate (N.length+1) (.int .i64 0))];have hr:=jn (Gl:=Gl) hg hl (List.replicate (N.length+1) 0) Ap (q:=S.length) (by rw[Cd,aG]) (λx hx=>by have:=hE x hx;simp;omega) false;rw[IY] at hr;refine Be (hr.mono λr s hh=>?_);obtain⟨rfl,h1,h2⟩:=hh;simp only[zK,seval];refine Bu rfl _ _ _ _ ?_;simp only[zK,seval];exact⟨_,_,Bg.refl _ _ _,rfl,(Fr.app _ _).trans h2 (λj hj=>.inr mA)⟩
def GL(BK:Bool)(E:List EdT)(n:Nat):List Int:=(IF BK E (n+1) ((List.replicate n 9223372036854775807).set 0 0)).1
def dJ(BK:Bool)(E:List EdT):∀(k:Nat) (d:List Int),(IF BK E k d).1.length=d.length
 | 0,d=>rfl
 | k+1,d=>by
  unfold IF;split
  ·exact XT BK d E
  rw[dJ BK E k,XT]
def gg(BK:Bool)(E:List EdT)(n:Nat):(GL BK E n).length=n:=by rw[GL,dJ];simp
def yR(n:Nat)(hn:n<=100000):KG prog Gl 205 [.d (.sl [.int .i64 9223372036854775807]),(n:Int)] 1 ((List.replicate n (9223372036854775807:Int)).map (.int .i64)):=
 KG.of (args:=[.sl [.int .i64 9223372036854775807],.int .i64 n]) ((vt n hn).mono λr s hr=>by rw[BW,IY];exact hr)
def i_{S:Sto}{p T c:Nat}{N:List (Int×Int)}{E:List EdT}(h:Fb S p T c N E)(hl:E.length<1000000)(hN:N.length<50000)(hE:∀x∈E,x.a<=N.length/\x.b<=N.length)(BK:Bool):
  AW prog Gl 178 [.ptr p 0,(BK:Bool)] S (λr s=>∃q,r=.A8 q 0 (N.length+1)/\S.length<=q/\A1 s q=.arr 1 ((GL BK E (N.length+1)).map (D.int .i64))/\Fr S s []):=by
 have hb:=h.bx;have hT:=h.mp;have lb:=AG hb rfl;have lT:=AG hT rfl;have hk:=XS h.nd;refine Fv func178 rfl rfl (by simp[ntmps178]) ?_;simp only[ntmps178,results178,B6,C6];refine AWp.seq (Bu rfl _ _ _ _ ?_);simp only[zK,seval];refine AWp.seq ?_;refine YR (l1:=[_,_,_,_,_]) (tM:=10) (tD:=11) rfl rfl rfl rfl D7 Yq ?_;simp only[zK,seval,hb,hT,lb,lT]
 repeat((with_reducible apply aI);exact sdp)
 refine⟨_,_,_,rfl,by rw[AD lT];exact hT,hk,?_⟩;simp only[zK,seval,BW,a_w ((N.length:Int)+1)];refine Y3 ?_;have hz:freezeL (S++[Blk.arr 1 [D.int .i64 9223372036854775807]]) [S.length]=S++[Blk.BS 1 [D.int .i64 9223372036854775807]]:=by
  unfold freezeL;rw[GQ,Nx];unfold Go.AM.freeze;rw[Cd];simp[Blk.frozen]
 have e1:([AV.A8 S.length 0 1,AV.d (D.int .i64 ((N.length:Int)+1))]++[]).map (IC (S++[Blk.arr 1 [D.int .i64 9223372036854775807]]))=[.d (.sl [.int .i64 9223372036854775807]),.d (.int .i64 ((N.length:Int)+1))]:=by
  show[IC _ _,IC _ _]=_;rw[Uo _ _ _ _ (by rw[Cd];rfl),Cd];rfl
 have e2:List.flatMap (KM (S++[Blk.arr 1 [D.int .i64 9223372036854775807]])) ([AV.A8 S.length 0 1,AV.d (D.int .i64 ((N.length:Int)+1))]++[])=[S.length]:=by
  show(if(A1 _ _).AY=true then[S.length] else[])++_=_;rw[Cd];rfl
 rw[e1,e2,hz];have hR:=yR (Gl:=Gl) (N.length+1) oo (S++[Blk.BS 1 [D.int .i64 9223372036854775807]]);rw[T1,Vn] at hR;refine hR.mono λr s hh=>?_;obtain⟨rfl,rfl⟩:=hh;have hxl:((List.replicate (N.length+1) (9223372036854775807:Int)).map (D.int .i64)).length=N.length+1:=A6;rw[hxl];have hxs:((List.replicate (N.length+1) (9223372036854775807:Int)).map (D.int .i64)).set 0 (.int .i64 0)=((List.replicate (N.length+1) (9223372036854775807:Int)).set 0 0).map (D.int .i64):=by rw[JS]
 generalize hX:(List.replicate (N.length+1) (9223372036854775807:Int)).map (D.int .i64)=X at *;simp only[zK,seval];refine AWp.seq (Bu rfl _ _ _ _ ?_);simp only[zK,seval,Bb,hxl];refine⟨oo,oo,?_⟩;refine AWp.seq (Bu rfl _ _ _ _ ?_);have hg:=h.app [Blk.BS 1 [D.int .i64 9223372036854775807],Blk.arr 1 (X.set 0 (D.int .i64 0))];have hr:=jn (Gl:=Gl) hg hl ((List.replicate (N.length+1) (9223372036854775807:Int)).set 0 0) Ap (q:=S.length+1) (by rw[CE,A7 oo,EB,<-hxs];rfl) (λx hx=>by have:=hE x hx;simp;omega) BK;rw[BH,IY] at hr;simp only[zK,seval];refine Be (hr.mono λr s hh=>?_);obtain⟨rfl,h1,h2⟩:=hh;simp only[zK,seval];refine Bu rfl _ _ _ _ ?_;simp only[zK,seval];refine⟨_,_,Bg.refl _ _ _,S.length+1,rfl,oo,h1,(Fr.app _ _).trans h2 (λj hj=>.inr aa)⟩

def re(xs:List Int)(x:Int)(hl:xs.length<1000000)(B:Blk)(hB:KZ 1 (xs.map (D.int .i64)) B):AW prog Gl 71 [.A8 0 0 xs.length,(x:Int)] [B] (λr s=>r=.d (.bool (xs.any (λy=>x==y)))/\s=[B]):=dA xs x oo B hB
def fb(l:List Int)(hl:l.length<1000000):KG prog Gl 154 [.d (.sl (l.map (D.int .i64)))] 1 (l.map (D.int .i64)):=by
 refine KG.of (args:=[.sl (l.map (D.int .i64))]) ?_;simp only[Ci,E9];cases l with
 | nil=>
  refine acS func154 ntmps154 results154 ?_;refine Jg ?_;exact⟨⟨_,_,gK 1,rfl,rfl⟩,⟨_,_,Dh [] [1] rfl A6 rfl rfl,rfl,rfl⟩⟩
 | cons x r=>
  refine acS func154 ntmps154 results154 ?_;refine Jg ?_;exact oV
abbrev GrT:=List (Int×Int)×List EdT
def Nh(g:GrT)(a b:Nat)(lo hi:Int):GrT:=(g.1,g.2++[⟨a,b,hi⟩,⟨b,a,IntKind.i64.wrap (0-lo)⟩])
def stI(x:BC)(p:Int)(n:Nat)(g:GrT)(q:Int):GrT:=Nh (Cm g.1 x.id q,g.2) (CJ g.1 x.id q) n (Ql (p-q).toNat x.JG.toNat) (Qk (p-q).toNat x.JG.toNat)
def stP(x:BC)(pts:List Int)(g:GrT)(i:Nat):GrT:=
 let p:=pts.getD i default
 if x.id=0 then Nh (Cm g.1 x.id p,g.2) 0 (CJ g.1 x.id p) p p
 else(pts.take i).foldl (stI x p (CJ g.1 x.id p)) (Cm g.1 x.id p,g.2)
def Kj(l:List B3)(id at_:Int)(x:BC):List Int:=D9 (if(x.id==id&&!(Cs l x.id).any λy=>at_==y)=true then Cs l x.id++[at_] else Cs l x.id)
def stD(l:List B3)(id at_:Int)(g:GrT)(x:BC):GrT:=(List.range (Kj l id at_ x).length).foldl (stP x (Kj l id at_ x)) g
def IP(g:GrT)(s:B3):GrT:=
 let N1:=Cm g.1 s.a s.F8
 let N2:=Cm N1 s.b s.lo
 (Cm N2 s.b s.hi,g.2++[⟨CJ g.1 s.a s.F8,CJ N1 s.b s.lo,0⟩,⟨CJ N2 s.b s.hi,CJ g.1 s.a s.F8,0⟩])
def ID(d:List BC)(l:List B3)(id at_:Int):GrT:=l.foldl IP (d.foldl (stD l id at_) ([],[]))
structure GOk(g:GrT)(m:Nat):Prop where
 sz:g.1.length+g.2.length<=m
 ed:∀x∈g.2,x.a<=g.1.length/\x.b<=g.1.length
def GOk.mono{g:GrT}{m m':Nat}(h:GOk g m)(hm:m<=m'):GOk g m':=⟨DC h.sz hm,h.ed⟩
def GOk.num{g:GrT}{m:Nat}(h:GOk g m)(a b:Int):GOk (Cm g.1 a b,g.2) (m+1):=by
 have:=ND g.1 a b;have h1:=h.sz;exact⟨AQ,λx hx=>by have:=h.ed x hx;simp only;omega⟩
def GOk.add{g:GrT}{m:Nat}(h:GOk g m){a b:Nat}(ha:a<=g.1.length)(hb:b<=g.1.length)(lo hi:Int):GOk (Nh g a b lo hi) (m+2):=by
 have h1:=h.sz;refine⟨by simp[Nh];omega,λx hx=>?_⟩;simp only[Nh,CH,Bw,En,E6] at hx ⊢;rcases hx with hx|rfl|rfl
 ·exact h.ed x hx
 ·exact⟨ha,hb⟩
 exact⟨hb,ha⟩
def Q3y{g:GrT}{m n:Nat}(h:GOk g m)(hn:n<=g.1.length)(x:BC)(p q:Int):GOk (stI x p n g q) (m+3)/\n<=(stI x p n g q).1.length:=by
 have:=ND g.1 x.id q;exact⟨(h.num x.id q).add AQ AQ _ _,by simp[stI,Nh];omega⟩
def Yo(x:BC)(p:Int):∀(qs:List Int) {g:GrT} {m n:Nat},GOk g m->n<=g.1.length->GOk (qs.foldl (stI x p n) g) (m+3*qs.length)/\n<=(qs.foldl (stI x p n) g).1.length
 | [],g,m,n,h,hn=>⟨h,hn⟩
 | q::qs,g,m,n,h,hn=>by
  have h1:=Q3y h hn x p q;have h2:=Yo x p qs h1.1 h1.2;rw[GQ,CT];exact⟨h2.1.mono oo,h2.2⟩
def Q3x{g:GrT}{m:Nat}(h:GOk g m)(x:BC)(pts:List Int)(i:Nat)(hi:i<pts.length):GOk (stP x pts g i) (m+3+3*pts.length):=by
 have hn:=ND g.1 x.id (pts.getD i default);have h1:=h.num x.id (pts.getD i default);unfold stP;simp only;split
 ·exact(h1.add A6 AQ _ _).mono oo
 refine(Yo x _ _ h1 AQ).1.mono ?_;rw[GU];omega
def Yv(x:BC)(pts:List Int){g:GrT}{m:Nat}(h:GOk g m):∀k,k<=pts.length->GOk ((List.range k).foldl (stP x pts) g) (m+k*(3+3*pts.length))
 | 0,_=>Dy
 | k+1,hk=>by
  rw[Ny,GD];have:=Q3x (Yv x pts h k oo) x pts k oo;refine this.mono ?_;exact R_
def fR(l:List B3)(id:Int):(Cs l id).length<=3*l.length:=by
 unfold Cs;exact DC (Wi _ _) (by rw[QS];exact Tx id l)
def kV(l:List B3)(id at_:Int)(x:BC):(Kj l id at_ x).length<=3*l.length+1:=by
 have:=fR l x.id;unfold Kj;rw[QS];split<;>simp<;>omega
def Q3z{g:GrT}{m M:Nat}(h:GOk g m)(l:List B3)(id at_:Int)(x:BC)(hM:3*l.length+1<=M):GOk (stD l id at_ g x) (m+M*(3+3*M)):=by
 have h1:=kV l id at_ x;exact(Yv x _ h _ (AR _)).mono (Nat.add_le_add_left (RC oo oo) _)
def U3{M:Nat}(l:List B3)(id at_:Int)(hM:3*l.length+1<=M):∀(d:List BC) {g:GrT} {m:Nat},GOk g m->GOk (d.foldl (stD l id at_) g) (m+d.length*(M*(3+3*M)))
 | [],g,m,h=>Dy
 | x::d,g,m,h=>by
  rw[GQ,CT];refine(U3 l id at_ hM d (Q3z h l id at_ x hM)).mono ?_;exact R_
def uh{g:GrT}{m:Nat}(h:GOk g m)(s:B3):GOk (IP g s) (m+5):=by
 have h1:=h.sz;have e1:=ND g.1 s.a s.F8;have e2:=ND (Cm g.1 s.a s.F8) s.b s.lo;have e3:=ND (Cm (Cm g.1 s.a s.F8) s.b s.lo) s.b s.hi;refine⟨by simp[IP];omega,λx hx=>?_⟩;simp only[IP,CH,Bw,En,E6] at hx ⊢;rcases hx with hx|rfl|rfl
 ·have:=h.ed x hx;omega
 ·exact Ky
 exact Ky
def X4:∀(l:List B3) {g:GrT} {m:Nat},GOk g m->GOk (l.foldl IP g) (m+5*l.length)
 | [],g,m,h=>h
 | s::l,g,m,h=>by
  rw[GQ,CT];exact(X4 l (uh h s)).mono oo
def qH(l:List Int){i j:Nat}(hij:i<=j)(hj:j<(D9 l).length):(D9 l).getD i default<=(D9 l).getD j default:=by
 have hp:(D9 l).Pairwise (λa b=>a<=b):=by
  have:=List.pairwise_mergeSort (le:=λa b:Int=>decide (a<=b)) (λa b c h1 h2=>by simp at *;omega) (λa b=>Ap) l;exact this.imp A6
 rcases B9 i j with h|h
 ·have:=Hv.1 hp i j oo hj h;simpa[show i<(D9 l).length by omega,hj] using this
 have:i=j:=oo;subst this;exact EP _
def QO{l:List Int}{x:Int}:x∈D9 l↔x∈l:=by unfold D9;exact List.mem_mergeSort
def YN{l:List Int}{x:Int}:∀k,k<=l.length->x∈cpF l k->x∈l
 | 0,_,h=>D8
 | k+1,hk,h=>by
  unfold cpF at h;split at h
  ·exact YN k oo h
  rcases CH.1 h with h|h
  ·exact YN k oo h
  rw[CG.1 h];exact Ba oo
def Zg(l:List B3):Prop:=∀s∈l,(0<=s.F8/\s.F8<=1000000000000)/\(0<=s.lo/\s.lo<=1000000000000)/\(0<=s.hi/\s.hi<=1000000000000)
def kW{l:List B3}(hl:Zg l){id at_:Int}(ha:0<=at_/\at_<=1000000000000){x:BC}{p:Int}(hp:p∈Kj l id at_ x):0<=p/\p<=1000000000000:=by
 have key:∀q,q∈Cs l x.id->0<=q/\q<=1000000000000:=λq hq=>by
  have h1:=QO.1 (YN _ (AR _) hq);obtain⟨s,hs,h2⟩:=HZ.1 h1;obtain⟨q1,q2,q3⟩:=hl s hs;unfold ptS at h2;simp only[CH] at h2;rcases h2 with h2|h2
  ·split at h2
   ·rw[CG.1 h2];exact q1
   cases h2
  split at h2
  ·simp only[Bw,En,E6] at h2;rcases h2 with rfl|rfl
   ·exact q2
   exact q3
  cases h2
 have h1:=QO.1 hp;split at h1
 ·rcases CH.1 h1 with h1|h1
  ·exact key p h1
  rw[CG.1 h1];exact ha
 exact key p h1
def Xo{α:Type}(f:α->Nat->α)(a:α)(k:Nat):(List.range (k+1)).foldl f a=f ((List.range k).foldl f a) k:=by rw[Ny,GD];rfl
def Xj{α β:Type}[Inhabited β](f:α->β->α)(a:α)(l:List β)(k:Nat)(h:k<l.length):(l.take (k+1)).foldl f a=f ((l.take k).foldl f a) (l.getD k default):=by rw[CY l k h,GD];rfl
def UI{N:List (Int×Int)}{a b:Int}{z:Int×Int}(h:z∈N):z∈Cm N a b:=by
 unfold Cm;split
 ·exact h
 exact Hw _ h
def wa(N:List (Int×Int))(a b:Int):(a,b)∈Cm N a b:=by
 unfold Cm;cases h:GW N a b with
 | none=>simp
 | some i=>exact(XU h).2
def X1(x:BC)(p:Int)(n:Nat){z:Int×Int}:∀(qs:List Int) {g:GrT},z∈g.1->z∈(qs.foldl (stI x p n) g).1
 | [],_,h=>h
 | q::qs,g,h=>X1 x p n qs (g:=stI x p n g q) (UI h)
def Yp(x:BC)(pts:List Int)(i:Nat){g:GrT}{z:Int×Int}(h:z∈Cm g.1 x.id (pts.getD i default)):z∈(stP x pts g i).1:=by
 unfold stP;simp only;split
 ·exact h
 exact X1 x _ _ _ h
def X3(x:BC)(pts:List Int)(g:GrT):∀k j,j<k->(x.id,pts.getD j default)∈((List.range k).foldl (stP x pts) g).1
 | k+1,j,hj=>by
  rw[Xo];by_cases e:j=k
  ·rw[e];exact Yp x pts k (wa _ _ _)
  exact Yp x pts k (UI (X3 x pts g k j oo))
def ia{s:Sto}{p T:Nat}{v:AV}{N:List (Int×Int)}{a b:Int}(hb:A1 s p=.box 2 (.agg [.AF T,v]))(hT:A1 s T=.map (some .u8) (Is N))(hp:(a,b)∈N):
  AW prog Gl 177 [.ptr p 0,(a:Int),(b:Int)] s (λr s'=>r=.d (.int .i64 (CJ N a b:Nat))/\s'=s):=by
 have lb:=AG hb rfl;have lT:=AG hT rfl;have hm:Is N (.p a b)=(GW N a b).map λi=>.d (.int .i64 ((i+1:Nat):Int)):=rfl;cases hq:GW N a b with
 | none=>exact absurd hp (UW hq)
 | some i=>
  rw[hq] at hm;refine acS func177 ntmps177 results177 ?_;simp only[zK,seval,B6,hb,hT,lb,lT,hm,DF];have e1:CJ N a b=i+1:=by rw[CJ,hq];rfl
  rw[e1];exact Lp
def OW{N:List (Int×Int)}{a b:Int}(h:(a,b)∈N):Cm N a b=N:=by
 unfold Cm;cases hq:GW N a b with
 | none=>exact absurd h (UW hq)
 | some i=>rfl
def Tm{l:List Int}:∀k,k<=l.length->∀i,i<k->l.getD i default∈cpF l k
 | k+1,hk,i,hi=>by
  unfold cpF;by_cases e:i=k
  ·subst e;split
   ·rename_i h;rw[h.2];exact Tm (l:=l) i (Nat.le_of_succ_le hk) (i-1) oo
   exact TB _ (CG.2 rfl)
  have:=Tm (l:=l) k (Nat.le_of_succ_le hk) i oo;split
  ·exact this
  exact Hw _ this
def fQ{l:List B3}{id p:Int}(h:p∈ptL l id):p∈Cs l id:=by
 have h1:=QO.2 h;obtain⟨i,hi,e⟩:=Gd h1;have:=Tm (l:=D9 (ptL l id)) (D9 (ptL l id)).length (AR _) i hi;rw[show(D9 (ptL l id)).getD i default=p by simp[hi,e]] at this;exact this
def vQ{l:List B3}{id at_:Int}{x:BC}{p:Int}(h:p∈ptL l x.id):p∈Kj l id at_ x:=by
 refine QO.2 ?_;split
 ·exact Hw _ (fQ h)
 exact fQ h
def fp(x:BC)(pts:List Int){z:Int×Int}:∀k {g:GrT},z∈g.1->z∈((List.range k).foldl (stP x pts) g).1
 | 0,g,h=>h
 | k+1,g,h=>by
  rw[Xo];exact Yp x pts k (UI (fp x pts k h))
def fo(l:List B3)(id at_:Int){z:Int×Int}:∀(d:List BC) {g:GrT},z∈g.1->z∈(d.foldl (stD l id at_) g).1
 | [],g,h=>h
 | x::d,g,h=>fo l id at_ d (g:=stD l id at_ g x) (fp x _ _ h)
def UP(l:List B3)(id at_:Int){x:BC}{p:Int}(hp:p∈ptL l x.id):∀(d:List BC) {g:GrT},x∈d->(x.id,p)∈(d.foldl (stD l id at_) g).1
 | y::d,g,h=>by
  rcases Bw.1 h with rfl|h
  ·refine fo l id at_ d (g:=stD l id at_ g x) ?_;obtain⟨i,hi,e⟩:=Gd (vQ (id:=id) (at_:=at_) hp);have:=X3 x (Kj l id at_ x) g (Kj l id at_ x).length i hi;rw[show(Kj l id at_ x).getD i default=p by simp[hi,e]] at this;exact this
  exact UP l id at_ hp d h
def Q9b{l:List B3}{s:B3}(h:s∈l):s.F8∈ptL l s.a:=HZ.2 ⟨s,h,Hw _ (by rw[AD rfl];simp)⟩
def ks{l:List B3}{s:B3}(h:s∈l):s.lo∈ptL l s.b/\s.hi∈ptL l s.b:=⟨HZ.2 ⟨s,h,TB _ (by rw[AD rfl];simp)⟩,HZ.2 ⟨s,h,TB _ (by rw[AD rfl];simp)⟩⟩
def Yw{N:List (Int×Int)}:∀(l:List B3) {E:List EdT},(∀s∈l,(s.a,s.F8)∈N/\(s.b,s.lo)∈N/\(s.b,s.hi)∈N)->(l.foldl IP (N,E)).1=N
 | [],E,_=>rfl
 | s::l,E,h=>by
  obtain⟨h1,h2,h3⟩:=h s DE;have e:IP (N,E) s=(N,(IP (N,E) s).2):=by
   unfold IP;simp only;rw[OW h1,OW h2,OW h3]
  rw[GQ,e];exact Yw l λx hx=>h x (Cy _ hx)
set_option maxHeartbeats 8000000 in
def tY(d:List BC)(l:List B3)(id at_:Int)(hd:d.length<=10)(hl:l.length<=12)(hdm:∀x∈d,0<=x.JG/\x.JG<=10000)(hsn:Zg l)(hin:∀s∈l,(∃x∈d,x.id=s.a)/\∃x∈d,x.id=s.b)(ha:0<=at_/\at_<=1000000000000)(S:Sto):
  AW prog Gl 175 [.d (.sl (d.map BC.A5)),.d (.sl (l.map B3.A5)),(id:Int),(at_:Int)] S
   (λr s=>∃c,r=.ptr (S.length+1) 0/\Fb s (S.length+1) S.length c (ID d l id at_).1 (ID d l id at_).2/\Fr S s []):=by
 refine acS func175 ntmps175 results175 ?_;simp only[zK,seval,B6];refine CL (τ:=Nat×Sto×Nat) (λy=>[(1,.d (.sl (l.map B3.A5))),(2,(id:Int)),(3,(at_:Int)),(9,.ptr (S.length+1) 0),(26,.d (.sl (d.map BC.A5))),(27,(d.length:Int)),(28,(y.1:Int))]) (λy=>y.2.1)
  (λy=>y.1<=d.length/\Fb y.2.1 (S.length+1) S.length y.2.2 ((d.take y.1).foldl (stD l id at_) ([],[])).1 ((d.take y.1).foldl (stD l id at_) ([],[])).2/\Fr S y.2.1 []/\S.length<=y.2.2) (λy=>d.length-y.1)
  (0,S++[.map (some .u8) (Is []),.box 2 (.agg [.AF S.length,.A8 (S.length+2) 0 0]),.arr 3 []],S.length+2) ⟨Bq _,?_,?_,AQ⟩ ?_ ?_
 ·refine⟨?_,?_,⟨[],?_,AR _,rfl⟩,Ht⟩
  ·simp only;exact bO
  ·simp only;exact bL
  simp only;exact bO
 ·exact Fr.app _ _
 ·have e0:Is []=λ_=>none:=by funext k;cases k<;>rfl
  rw[e0];refine(QV (S.length+1) 3 1 A6 (N:=2) (cs:=[.AF S.length,.AA]) ?_ rfl A6 A6).trans ?_
  ·exact bO
  have e1:(S++[Blk.map (some .u8) λ_=>none,Blk.box 2 (.agg [.AF S.length,.AA])]++[Blk.arr 3 []]).set (S.length+1) (.box 2 (.agg ([AV.AF S.length,.AA].set 1 (.A8 (S++[Blk.map (some .u8) λ_=>none,Blk.box 2 (.agg [.AF S.length,.AA])]).length 0 0))))=S++[.map (some .u8) λ_=>none,.box 2 (.agg [.AF S.length,.A8 (S.length+2) 0 0]),.arr 3 []]:=by
   rw[MV,Vs _ _ oo,EB,Bb];rfl
  rw[e1];exact Dd
 rintro⟨k,s,c⟩ ⟨hk,hg,hf,hcσ⟩;simp only at hk hg hf hcσ;by_cases h:k<d.length
 ·have hok:=(U3 l id at_ (M:=37) oo (d.take k) (g:=([],[])) (m:=0) ⟨AR _,λx hx=>Jd⟩);rw[GU] at hok;have hok:=hok.mono (m':=42200) oo;have hst:=Xj (stD l id at_) ([],[]) d k h;generalize (d.take k).foldl (stD l id at_) ([],[])=g at *;have hx:=hdm _ (Ba h);generalize hxx:d.getD k default=x at *;simp only[zK,seval,(oo:(k:Int)<d.length),h,Af _ _ _ (oo:k<d.length),hxx];refine Be (((vq l x.id oo) _).mono λr s2 hr=>?_);obtain⟨rfl,rfl⟩:=hr;have hq1:A1 (s++[Blk.box 2 (.d x.A5),Blk.arr 1 ((Cs l x.id).map (D.int .i64))]) (s.length+1)=.arr 1 ((Cs l x.id).map (D.int .i64)):=Mb;have hpl:=fR l x.id;simp only[zK,seval,BW,Bb];refine yF (s.length+1) (λB hB=>re (Cs l x.id) at_ oo B hB) (λs=>by simp[BJ,DJ,Bn]) hq1 ?_;refine FN ?_;obtain⟨pts,hpts⟩:∃pts,pts=Kj l id at_ x:=⟨_,rfl⟩;have hpd:Kj l id at_ x=D9 (if(x.id==id&&!(Cs l x.id).any λy=>at_==y)=true then Cs l x.id++[at_] else Cs l x.id):=rfl;apply ifC.mk<;>intro hc;rw[AD hc,<-hpts] at hpd;have e1:(Cs l x.id).length=((Cs l x.id).map (D.int .i64)).length:=A6;rw[show AV.A8 (s.length+1) 0 (Cs l x.id).length=AV.A8 (s.length+1) 0 ((Cs l x.id).map (D.int .i64)).length by rw[<-e1]];refine qi (s.length+1) hq1 (fb (Cs l x.id) oo) ?_;simp only[zK,seval,BW,Bb];refine⟨⟨oo,oo⟩,?_⟩;have e2:(Cs l x.id).length+1=(Cs l x.id++[at_]).length:=A6;rw[e2];have e3:(Cs l x.id).map (D.int .i64)++[.int .i64 at_]=(Cs l x.id++[at_]).map (D.int .i64):=A6;have e4:List.take (Cs l x.id).length ((Cs l x.id).map (D.int .i64))=(Cs l x.id).map (D.int .i64):=Bi A6;rw[e4,e3];have hg3:=hg.app [Blk.box 2 (.d x.A5),Blk.BS 1 ((Cs l x.id).map (D.int .i64)),Blk.dead,Blk.arr 1 [D.int .i64 at_],Blk.arr 1 ((Cs l x.id++[at_]).map (D.int .i64))];have hf3:Fr S (s++[Blk.box 2 (.d x.A5),Blk.BS 1 ((Cs l x.id).map (D.int .i64)),Blk.dead,Blk.arr 1 [D.int .i64 at_],Blk.arr 1 ((Cs l x.id++[at_]).map (D.int .i64))]) []:=hf.trans (Fr.app _ _) A6;have hbx:A1 (s++[Blk.box 2 (.d x.A5),Blk.BS 1 ((Cs l x.id).map (D.int .i64)),Blk.dead,Blk.arr 1 [D.int .i64 at_],Blk.arr 1 ((Cs l x.id++[at_]).map (D.int .i64))]) s.length=.box 2 (.d x.A5):=OD;have hq:A1 (s++[Blk.box 2 (.d x.A5),Blk.BS 1 ((Cs l x.id).map (D.int .i64)),Blk.dead,Blk.arr 1 [D.int .i64 at_],Blk.arr 1 ((Cs l x.id++[at_]).map (D.int .i64))]) (s.length+4)=.arr 1 ((Cs l x.id++[at_]).map (D.int .i64)):=Mb;obtain⟨q,hqd⟩:∃q,q=s.length+4:=⟨_,rfl⟩;have hqc:q≠c:=lz;have hσ:=hf.1;have hql:S.length<=q:=oo;rw[<-hqd] at hq ⊢;obtain⟨P0,hP0⟩:∃P0,P0=Cs l x.id++[at_]:=⟨_,rfl⟩;rw[<-hP0] at hpd hg3 hf3 hbx hq ⊢;have hpl:P0.length<=3*l.length+1:=by rw[hP0];simp;omega
  clear e1 e2 e3 e4 hq1;generalize s++[Blk.box 2 (.d x.A5),Blk.BS 1 ((Cs l x.id).map (D.int .i64)),Blk.dead,Blk.arr 1 [D.int .i64 at_],Blk.arr 1 (P0.map (D.int .i64))]=s3 at *;rotate_left;rw[A7 (by rw[hc];simp),<-hpts] at hpd;have hg3:=hg.app [Blk.box 2 (.d x.A5),Blk.arr 1 ((Cs l x.id).map (D.int .i64))];have hf3:Fr S (s++[Blk.box 2 (.d x.A5),Blk.arr 1 ((Cs l x.id).map (D.int .i64))]) []:=hf.trans (Fr.app _ _) A6;have hbx:A1 (s++[Blk.box 2 (.d x.A5),Blk.arr 1 ((Cs l x.id).map (D.int .i64))]) s.length=.box 2 (.d x.A5):=OD;obtain⟨q,hqd⟩:∃q,q=s.length+1:=⟨_,rfl⟩;have hqc:q≠c:=lz;have hσ:=hf.1;have hql:S.length<=q:=oo;rw[<-hqd] at hq1 ⊢;have hq:=hq1;obtain⟨P0,hP0⟩:∃P0,P0=Cs l x.id:=⟨_,rfl⟩;rw[<-hP0] at hpd hg3 hf3 hbx hq hpl ⊢;generalize s++[Blk.box 2 (.d x.A5),Blk.arr 1 (P0.map (D.int .i64))]=s3 at *
  all_goals
   refine gu q hq (Xb P0 oo) ?_;rw[<-hpd];have lq:=AG hq rfl;have hqb:q≠s.length:=λe=>by rw[e,hbx] at hq;cases hq
   obtain⟨xs3,hc3,_⟩:=hg3.ar;have hqg:∀j,j=S.length+1\/j=S.length\/j=c->q≠j:=λj hj e=>by
    rcases hj with rfl|rfl|rfl
    ·rw[e,hg3.bx] at hq;cases hq
    ·rw[e,hg3.mp] at hq;cases hq
    exact hqc e
   have hg4:Fb (s3.set q (.arr 1 (pts.map (D.int .i64)))) (S.length+1) S.length c g.1 g.2:=hg3.fr λj hj=>As (hqg j hj);have hq4:A1 (s3.set q (.arr 1 (pts.map (D.int .i64)))) q=.arr 1 (pts.map (D.int .i64)):=BX lq;have hb4:A1 (s3.set q (.arr 1 (pts.map (D.int .i64)))) s.length=.box 2 (.d x.A5):=by rw[As hqb];exact hbx
   have hf4:Fr S (s3.set q (.arr 1 (pts.map (D.int .i64)))) []:=hf3.trans ((Fr.refl s3 [q]).set _ A6) (λj hj=>.inr aa);have hlen:P0.length=pts.length:=by rw[hpd,QS]
   have hpl2:pts.length<=37:=by have:=kV l id at_ x;rw[hpts];omega
   rw[hlen];generalize s3.set q (.arr 1 (pts.map (D.int .i64)))=s4 at *;refine FN ?_;refine CL (τ:=Nat×Sto×Nat) (λy=>[(1,.d (.sl (l.map B3.A5))),(2,(id:Int)),(3,(at_:Int)),(9,.ptr (S.length+1) 0),(26,.d (.sl (d.map BC.A5))),(27,(d.length:Int)),(28,(k:Int)),(11,.ptr s.length 0),(12,.A8 q 0 pts.length),(53,.A8 q 0 pts.length),(54,(pts.length:Int)),(55,(y.1:Int))]) (λy=>y.2.1)
    (λy=>y.1<=pts.length/\Fb y.2.1 (S.length+1) S.length y.2.2 ((List.range y.1).foldl (stP x pts) g).1 ((List.range y.1).foldl (stP x pts) g).2/\Fr S y.2.1 []/\A1 y.2.1 q=.arr 1 (pts.map (D.int .i64))/\A1 y.2.1 s.length=.box 2 (.d x.A5)/\S.length<=y.2.2) (λy=>pts.length-y.1)
    (0,s4,c) ⟨Bq _,hg4,hf4,hq4,hb4,hcσ⟩ ?_ ?_
   ·exact Dd
   rintro⟨i,s5,c5⟩ ⟨hi,hg5,hf5,hq5,hb5,hc5⟩;simp only at hi hg5 hf5 hq5 hb5 hc5;have lq5:=AG hq5 rfl;have lb5:=AG hb5 rfl;by_cases hip:i<pts.length
   ·have hgo:=(Yv x pts hok i hi).mono (m':=47000) (by have:i*(3+3*pts.length)<=37*(3+3*37):=RC oo oo;omega);have hsp:=Xo (stP x pts) g i;have hhas:=X3 x pts g i;generalize (List.range i).foldl (stP x pts) g=g5 at *;obtain⟨N5,E5⟩:=g5;simp only at hg5;have hsz:=hgo.sz;simp only at hsz;have hsP:stP x pts (N5,E5) i=if x.id=0 then Nh (Cm N5 x.id (pts.getD i default),E5) 0 (CJ N5 x.id (pts.getD i default)) (pts.getD i default) (pts.getD i default) else(pts.take i).foldl (stI x (pts.getD i default) (CJ N5 x.id (pts.getD i default))) (Cm N5 x.id (pts.getD i default),E5):=rfl;have hprn:=kW hsn ha (x:=x) (id:=id) (p:=pts.getD i default) (by rw[<-hpts];exact Ba hip);have hpj:∀j,j<i->pts.getD j default<=pts.getD i default:=λj hj=>by
     rw[hpd] at hip ⊢;exact qH P0 oo hip
    generalize hpe:pts.getD i default=p at *;simp only[zK,seval,(oo:(i:Int)<pts.length),hq5,hb5,lq5,lb5,hip,Af _ _ _ (oo:i<pts.length),hpe];refine Ag ?_;refine Be ((fF hg5 oo x.id p).mono λr s6 hr=>?_);obtain⟨rfl,hs6⟩:=hr;have hg6:=hg5.num x.id p;rw[<-hs6] at hg6;have hT5:=hg5.mp;have hTq:S.length≠q:=AX hT5 hq5 A6;have hTb:S.length≠s.length:=AX hT5 hb5 A6;have hq6:A1 s6 q=.arr 1 (pts.map (D.int .i64)):=by rw[hs6,As hTq];exact hq5
    have hb6:A1 s6 s.length=.box 2 (.d x.A5):=by rw[hs6,As hTb];exact hb5
    have hf6:Fr S s6 []:=by rw[hs6];exact hf5.trans ((Fr.refl s5 [S.length]).set _ A6) (λj hj=>.inr mA)
    clear hs6;have lb6:=AG hb6 rfl;have lq6:=AG hq6 rfl;have hn6:=ND N5 x.id p;simp only[zK,seval,hb6,lb6];refine Ag ?_;have hqb6:∀B,A1 s6 q=B->q≠S.length+1/\q≠c5:=λB _=>⟨AX hq6 hg6.bx A6,by obtain⟨ys,h1,_⟩:=hg6.ar;exact AX hq6 h1 A6⟩;have hbb6:s.length≠S.length+1/\s.length≠c5:=⟨AX hb6 hg6.bx A6,by obtain⟨ys,h1,_⟩:=hg6.ar;exact AX hb6 h1 A6⟩;apply ifC.mk<;>intro h0
    ·have h0:x.id=0:=by simpa using h0
     rw[AD h0] at hsP;refine Be ((kq hg6 oo 0 (CJ N5 x.id p) p p).mono λr s7 hr=>?_);obtain⟨rfl,hg7,hl7,hk7⟩:=hr;simp only[zK,seval,a_w ((i:Int)+1)];refine⟨(i+1,s7,s6.length+2),⟨AQ,?_,?_,?_,?_,by have:=hf6.1;simp only;omega⟩,AQ,AU ?_⟩
     ·rw[hsp,hsP];exact hg7
     ·exact hf6.trans ⟨hl7,λj hj hn=>by
       have:=AG rfl hj
       simp only[Bw,En,E6,FW] at hn
       exact hk7 j this hn.1 hn.2⟩ (l':=[S.length+1,c5]) (λj hj=>.inr (by
        simp only[Bw,En,E6] at hj
        rcases hj with rfl|rfl
        ·omega
        exact hc5))
     ·exact(hk7 q lq6 (hqb6 _ rfl).1 (hqb6 _ rfl).2).trans hq6
     ·exact(hk7 _ lb6 hbb6.1 hbb6.2).trans hb6
     rfl
    have h0:¬x.id=0:=by simpa using h0
    rw[A7 h0] at hsP;simp only[zK,seval,hq6,(oo:(i:Int)<=pts.length)];refine Ag ?_;refine CL (τ:=Nat×Sto×Nat) (λy=>[(1,.d (.sl (l.map B3.A5))),(2,(id:Int)),(3,(at_:Int)),(9,.ptr (S.length+1) 0),(26,.d (.sl (d.map BC.A5))),(27,(d.length:Int)),(28,(k:Int)),(11,.ptr s.length 0),(12,.A8 q 0 pts.length),(53,.A8 q 0 pts.length),(54,(pts.length:Int)),(55,(i:Int)),(14,(p:Int)),(15,((CJ N5 x.id p:Nat):Int)),(76,.A8 q 0 i),(77,(i:Int)),(78,(y.1:Int))]) (λy=>y.2.1)
     (λy=>y.1<=i/\Fb y.2.1 (S.length+1) S.length y.2.2 ((pts.take y.1).foldl (stI x p (CJ N5 x.id p)) (Cm N5 x.id p,E5)).1 ((pts.take y.1).foldl (stI x p (CJ N5 x.id p)) (Cm N5 x.id p,E5)).2/\Fr S y.2.1 []/\A1 y.2.1 q=.arr 1 (pts.map (D.int .i64))/\A1 y.2.1 s.length=.box 2 (.d x.A5)/\S.length<=y.2.2) (λy=>i-y.1)
     (0,s6,c5) ⟨Bq _,hg6,hf6,hq6,hb6,hc5⟩ ?_ ?_
    ·exact Mi
    rintro⟨j,s7,c7⟩ ⟨hj,hg7,hf7,hq7,hb7,hc7⟩;simp only at hj hg7 hf7 hq7 hb7 hc7;have lq7:=AG hq7 rfl;have lb7:=AG hb7 rfl;by_cases hji:j<i
    ·have hio:=(Yo x p (pts.take j) (n:=CJ N5 x.id p) (hgo.num x.id p) hn6.2.2.2);have hfs:=Xj (stI x p (CJ N5 x.id p)) (Cm N5 x.id p,E5) pts j oo;have hle:=hpj j hji;have hin:=X1 x p (CJ N5 x.id p) (pts.take j) (g:=(Cm N5 x.id p,E5)) (UI (a:=x.id) (b:=p) (hhas j hji));have hqr:=kW hsn ha (x:=x) (id:=id) (p:=pts.getD j default) (by rw[<-hpts];exact Ba oo);generalize (pts.take j).foldl (stI x p (CJ N5 x.id p)) (Cm N5 x.id p,E5)=g7 at *;obtain⟨N7,E7⟩:=g7;generalize hqe:pts.getD j default=qv at *;obtain⟨dd,hdd⟩:=M_ (oo:0<=p-qv);obtain⟨pm,hpm⟩:=M_ hx.1;have hwd:IntKind.i64.wrap (p-qv)=(dd:Int):=by rw[hdd,IL oo oo]
     simp only[zK,seval,(oo:(j:Int)<i),hq7,hb7,lq7,lb7,(oo:j<pts.length),Af _ _ _ (oo:j<pts.length),hqe,hwd,hpm];refine Ag ?_;refine Ak (yT dd pm oo oo) ?_;refine FN ?_;have hgb:=hg7.bx;have hgm:=hg7.mp;have lgb:=AG hgb rfl;have lgm:=AG hgm rfl;refine⟨.inl Ax,?_⟩;simp only[zK,seval,hb7,lb7];refine Ag ?_;refine NH (v:=.d (.int .i64 (CJ N7 x.id qv:Nat))) (λs' hs=>?_) ?_
     ·have e1:=ON hs ((BB lgb).trans hgb) rfl rfl;have e2:=ON hs ((BB lgm).trans hgm) rfl rfl;rw[FY];exact ia e1 e2 hin
     refine FN ?_;have hg8:=hg7.app [Blk.box 2 (.d (.agg [.int .i64 (Ql dd pm),.int .i64 (Qk dd pm)]))];refine eU Ax ((kq hg8 (by have:=hio.1.sz;simp only at this;rw[GU] at this;show E7.length<1000000;omega) (CJ N7 x.id qv) (CJ N5 x.id p) (Ql dd pm) (Qk dd pm)).mono λr s8 hr=>?_);obtain⟨rfl,hg9,hl9,hk9⟩:=hr;simp only[zK,seval,a_w ((j:Int)+1)];have hst7:stI x p (CJ N5 x.id p) (N7,E7) qv=(N7,E7++[⟨CJ N7 x.id qv,CJ N5 x.id p,Qk dd pm⟩,⟨CJ N5 x.id p,CJ N7 x.id qv,IntKind.i64.wrap (0-Ql dd pm)⟩]):=by
      unfold stI Nh;simp only;rw[OW hin,hdd,hpm];rfl
     have hlen8:s7.length+1=(s7++[Blk.box 2 (.d (.agg [.int .i64 (Ql dd pm),.int .i64 (Qk dd pm)]))]).length:=A6;have ksame:∀j',j'<s7.length->j'≠S.length+1->j'≠c7->A1 s8 j'=A1 s7 j':=λj' h1 h2 h3=>by
      rw[hk9 j' (by rw[<-hlen8];omega) h2 h3,BB h1]
     have hqg7:q≠S.length+1/\q≠c7:=⟨AX hq7 hg7.bx A6,by obtain⟨ys,h1,_⟩:=hg7.ar;exact AX hq7 h1 A6⟩;have hbg7:s.length≠S.length+1/\s.length≠c7:=⟨AX hb7 hg7.bx A6,by obtain⟨ys,h1,_⟩:=hg7.ar;exact AX hb7 h1 A6⟩;refine⟨(j+1,s8,s7.length+1+2),⟨AQ,?_,?_,?_,?_,by have:=hf7.1;simp only;omega⟩,AQ,AU ?_⟩
     ·rw[hfs,hst7,hlen8];exact hg9
     ·exact hf7.trans (l':=[S.length+1,c7]) ⟨by have h9:=hl9;rw[Bb] at h9;exact DC (Nat.le_add_right _ _) h9,λj' hj' hn=>by
       have:=AG rfl hj'
       simp only[Bw,En,E6,FW] at hn
       exact ksame j' this hn.1 hn.2⟩ (λj' hj'=>.inr (by
        simp only[Bw,En,E6] at hj'
        rcases hj' with rfl|rfl
        ·omega
        exact hc7))
     ·exact(ksame q lq7 hqg7.1 hqg7.2).trans hq7
     ·exact(ksame _ lb7 hbg7.1 hbg7.2).trans hb7
     rfl
    have hji2:j=i:=oo;subst hji2;simp only[zK,seval,(oo:¬(j:Int)<j),a_w ((j:Int)+1)];refine⟨(j+1,s7,c7),⟨AQ,?_,hf7,hq7,hb7,hc7⟩,AQ,AU ?_⟩
    ·rw[hsp,hsP];exact hg7
    rfl
   have hip2:i=pts.length:=oo;subst hip2;have hsd:stD l id at_ g x=(List.range pts.length).foldl (stP x pts) g:=by rw[hpts];rfl
   simp only[zK,seval,(oo:¬(pts.length:Int)<pts.length),a_w ((k:Int)+1)];refine⟨(k+1,s5,c5),⟨AQ,?_,hf5,hc5⟩,AQ,AU ?_⟩
   ·rw[hst,hsd];exact hg5
   rfl
 have hkd:k=d.length:=oo;subst hkd;rw[BL] at hg;have hokD:=(U3 l id at_ (M:=37) oo d (g:=([],[])) (m:=0) ⟨AR _,λx hx=>Jd⟩).mono (m':=42200) oo;have hbF:ID d l id at_=l.foldl IP (d.foldl (stD l id at_) ([],[])):=rfl;have hgN:∀s∈l,(s.a,s.F8)∈(d.foldl (stD l id at_) ([],[])).1/\(s.b,s.lo)∈(d.foldl (stD l id at_) ([],[])).1/\(s.b,s.hi)∈(d.foldl (stD l id at_) ([],[])).1:=λs hs=>by
  obtain⟨⟨x,hx,ex⟩,y,hy,ey⟩:=hin s hs;have h1:=UP l id at_ (x:=x) (p:=s.F8) (by rw[ex];exact Q9b hs) d (g:=([],[])) hx;have h2:=UP l id at_ (x:=y) (p:=s.lo) (by rw[ey];exact(ks hs).1) d (g:=([],[])) hy;have h3:=UP l id at_ (x:=y) (p:=s.hi) (by rw[ey];exact(ks hs).2) d (g:=([],[])) hy;rw[ex] at h1;rw[ey] at h2 h3;exact⟨h1,h2,h3⟩
 rw[hbF];generalize d.foldl (stD l id at_) ([],[])=gD at *;clear hbF hdm;obtain⟨N,ED⟩:=gD;simp only at hgN;simp only[zK,seval,(oo:¬(d.length:Int)<d.length)];refine CL (τ:=Nat×Sto×Nat) (λy=>[(9,.ptr (S.length+1) 0),(103,.d (.sl (l.map B3.A5))),(104,(l.length:Int)),(105,(y.1:Int))]) (λy=>y.2.1)
  (λy=>y.1<=l.length/\Fb y.2.1 (S.length+1) S.length y.2.2 N ((l.take y.1).foldl IP (N,ED)).2/\Fr S y.2.1 []/\S.length<=y.2.2) (λy=>l.length-y.1)
  (0,s,c) ⟨Bq _,hg,hf,hcσ⟩ ?_ ?_
 ·exact Mi
 clear hg hf hcσ hk h;rintro⟨k,s,c⟩ ⟨hk,hg,hf,hcσ⟩;simp only at hk hg hf hcσ;by_cases h:k<l.length
 ·have hok:=X4 (l.take k) hokD;have hN:=Yw (N:=N) (l.take k) (E:=ED) λx hx=>hgN x (GS hx);have hfs:=Xj IP (N,ED) l k h;have hx:=hgN _ (Ba h);generalize (l.take k).foldl IP (N,ED)=g at *;obtain⟨N',E⟩:=g;simp only at hN;subst hN;have hsz:=hok.sz;rw[GU] at hsz;simp only at hg hsz;generalize hxx:l.getD k default=x at *;obtain⟨hx1,hx2,hx3⟩:=hx;have hss:IP (N',E) x=(N',E++[⟨CJ N' x.a x.F8,CJ N' x.b x.lo,0⟩,⟨CJ N' x.b x.hi,CJ N' x.a x.F8,0⟩]):=by
   unfold IP;simp only;rw[OW hx1,OW hx2,OW hx3]
  rw[hss] at hfs;have hgb:=hg.bx;have hgm:=hg.mp;have lgb:=AG hgb rfl;have lgm:=AG hgm rfl;obtain⟨xs,h1,h2,h3⟩:=hg.ar;have lc:=AG h1 rfl;have hpc:S.length+1≠c:=AX hgb h1 A6;have hTc:S.length≠c:=AX hgm h1 A6;have pure:∀{a b:Int},(a,b)∈N'->∀s',Ext (s++[Blk.box 5 (.d x.A5)]) s'->AW prog Gl 177 [.ptr (S.length+1) 0,(a:Int),(b:Int)] s' (λr s2=>r=.d (.int .i64 (CJ N' a b:Nat))/\s2=s'):=λhm s' hs=>
   ia (ON hs ((BB lgb).trans hgb) rfl rfl) (ON hs ((BB lgm).trans hgm) rfl rfl) hm
  simp only[zK,seval,(oo:(k:Int)<l.length),h,Af _ _ _ (oo:k<l.length),hxx];refine NH (v:=.d (.int .i64 (CJ N' x.a x.F8:Nat))) (λs' hs=>by rw[FY];exact pure hx1 s' hs) ?_;refine FN ?_;refine⟨.inl Ax,?_⟩;simp only[zK,seval,hgb,lgb];refine NH (v:=.d (.int .i64 (CJ N' x.b x.lo:Nat))) (λs' hs=>by rw[FY];exact pure hx2 s' hs) ?_;simp only[zK,seval,hgb,lgb];refine NH (v:=.d (.int .i64 (CJ N' x.b x.hi:Nat))) (λs' hs=>by rw[FY];exact pure hx3 s' hs) ?_;simp only[zK,seval,hgb,lgb,h1,lc,hpc,hpc.symm,a_w ((k:Int)+1)];refine Ag ?_;refine⟨(k+1,_,s.length+2),⟨AQ,?_,?_,?_⟩,AQ,AU ?_⟩;rotate_left 3
  ·rfl
  ·rw[hfs];refine⟨?_,?_,⟨xs.take E.length++[EdT.A5 ⟨CJ N' x.a x.F8,CJ N' x.b x.lo,0⟩,EdT.A5 ⟨CJ N' x.b x.hi,CJ N' x.a x.F8,0⟩],?_,?_,?_⟩,hg.nd⟩
   ·simp only;rw[BB (by simp;exact lgb),BX (by simp;exact lgb),Bb];rfl
   ·simp only;rw[BB (by simp;exact lgm),As oo,As hTc.symm];exact hgm
   ·simp only;exact nP
   ·simp;omega
   rw[h3,Bi A6,CA];rfl
  ·exact(((hf.trans (l':=[c]) ((Fr.refl s [c]).set _ A6) (λj hj=>.inr (by rw[CG.1 hj];exact hcσ))).trans (l':=[S.length+1]) ((Fr.refl _ _).set _ A6) (λj hj=>.inr aa)).trans (Fr.app _ _) A6)
  have:=hf.1;simp only;omega
 have hkl:k=l.length:=oo;subst hkl;rw[BL] at hg;have hN:=Yw (N:=N) l (E:=ED) hgN;simp only[zK,seval,(oo:¬(l.length:Int)<l.length)];exact⟨_,_,Bg.refl _ _ _,c,rfl,by rw[hN];exact hg,hf⟩

def Fb.ofFr{S s:Sto}{p T c:Nat}{N:List (Int×Int)}{E:List EdT}(h:Fb S p T c N E)(hf:Fr S s []):Fb s p T c N E:=by
 obtain⟨xs,h1,h2⟩:=h.ar;exact⟨hf.at h.bx rfl A6,hf.at h.mp rfl A6,⟨xs,hf.at h1 rfl A6,h2⟩,h.nd⟩
def Qe5(id:Int)(x:BC):AW prog Gl 173 [.d x.A5,.ptr 0 0] [.box 1 (.d (.int .i64 id))] (λr s=>r=.d (.bool (x.id==id))/\s=[.box 1 (.d (.int .i64 id))]):=by
 refine acS func173 ntmps173 results173 ?_;refine Jg ?_;exact WR
def Fj(d:List BC)(l:List B3)(id at_:Int):(Int×Int)×Int:=
 if GB d l≠0 then((0,0),GB d l) else if(d.any λx=>x.id==id)=false then((0,0),5) else if(decide (at_<0)||decide (1000000000000<at_))=true then((0,0),2)
 else if Q2 d l id=false then((0,0),12)
 else
  let g:=ID d l id at_
  if(IF false g.2 (g.1.length+1+1) (List.replicate (g.1.length+1) 0)).2=false then((0,0),12)
  else((IntKind.i64.wrap (0-(GL true g.2 ((Cm g.1 id at_).length+1)).getD (CJ g.1 id at_) default),(GL false g.2 ((Cm g.1 id at_).length+1)).getD (CJ g.1 id at_) default),0)
def MH{f:Nat->Int}:∀{n:Nat},Bh f n=0->∀k,k<n->f k=0
 | n+1,h,k,hk=>by
  unfold Bh at h;by_cases e:Bh f n=0
  ·rw[AD e] at h;by_cases e2:k=n
   ·rw[e2];exact h
   exact MH e k oo
  rw[A7 e] at h;exact absurd h e
def Q6o{d:List BC}{l:List B3}(h:GB d l=0):d.length<=8/\(∀x∈d,0<=x.JG/\x.JG<=10000)/\Zg l/\∀s∈l,(∃x∈d,x.id=s.a)/\∃x∈d,x.id=s.b:=by
 unfold GB at h;split at h
 ·cases h
 split at h
 ·cases h
 rename_i h1 h2;split at h
 ·cases h
 split at h
 ·rename_i h3;exact absurd h h3
 rename_i h3 h4;have h4:Bh (Ow d) d.length=0:=Ic;have dm:∀x∈d,SN x=false:=λx hx=>by
  obtain⟨i,hi,rfl⟩:=Gd hx;have:=MH h4 i hi;unfold Ow at this;split at this
  ·cases this
  rename_i hb;rw[show d.getD i default=d[i] by simp[hi]] at hb;simpa using hb
 have sn:∀s∈l,JE d s=0:=λs hs=>by
  obtain⟨i,hi,rfl⟩:=Gd hs;have:=MH h i hi;simpa[hi] using this
 have idx:∀i,0<=Ij d i->∃x∈d,x.id=i:=λi hi=>by
  by_cases hn:d.any (λx=>x.id==i)=true
  ·obtain⟨x,hx,e⟩:=K6.1 hn;exact⟨x,hx,J5⟩
  have:=NL (p:=λx:BC=>x.id==i) (l:=d) Pj;unfold Ij at hi;omega
 refine⟨oo,λx hx=>?_,λs hs=>?_,λs hs=>?_⟩
 ·have:=dm x hx;simp only[SN,JY,GG] at this;omega
 ·have:=sn s hs;unfold JE at this;split at this
  ·cases this
  split at this
  ·cases this
  split at this
  ·cases this
  rename_i hr;simp only[Mm,Gc,K8,RF,CZ,GG,FW,not_and] at hr;refine⟨?_,?_,?_⟩<;>omega
 have:=sn s hs;unfold JE at this;split at this
 ·cases this
 rename_i hi;exact⟨idx _ oo,idx _ oo⟩
set_option maxHeartbeats 4000000 in
def yX(d:List BC)(l:List B3)(id at_:Int)(hd:d.length<=10)(hl:l.length<=12):AT prog Gl 146 [.d (.sl (d.map BC.A5)),.d (.sl (l.map B3.A5)),(id:Int),(at_:Int)]
  (.Aj [.d (.agg [.int .i64 (Fj d l id at_).1.1,.int .i64 (Fj d l id at_).1.2]),.d (.int .i64 (Fj d l id at_).2)]):=by
 refine AT.Qa (args:=[.sl (d.map BC.A5),.sl (l.map B3.A5),.int .i64 id,.int .i64 at_]) (λb=>by simp[BK,IB]) ?_;simp only[Ci,E9];have e1:GB d l≠0->Fj d l id at_=((0,0),GB d l):=λh=>by rw[Fj,AD h]
 have e2:GB d l=0->(d.any λx=>x.id==id)=false->Fj d l id at_=((0,0),5):=λh h2=>by rw[Fj,A7 Dy,AD h2]
 have e3:GB d l=0->(d.any λx=>x.id==id)=true->(decide (at_<0)||decide (1000000000000<at_))=true->Fj d l id at_=((0,0),2):=λh h2 h3=>by rw[Fj,A7 Dy,A7 Je,AD h3]
 have e4:GB d l=0->(d.any λx=>x.id==id)=true->(decide (at_<0)||decide (1000000000000<at_))=false->Q2 d l id=false->Fj d l id at_=((0,0),12):=λh h2 h3 h4=>by rw[Fj,A7 Dy,A7 Je,A7 K9,AD h4]
 refine Fv func146 rfl rfl (by simp[ntmps146]) ?_;simp only[ntmps146,results146,B6,C6];refine AWp.seq (Bu rfl _ _ _ _ ?_);simp only[zK,seval];refine AWp.seq (Bu rfl _ _ _ _ ?_);simp only[zK,seval];refine Ak (Y8 d l oo oo) ?_;simp only[zK,seval];apply ifC.mk<;>intro h1
 ·rw[e1 Cz];exact KB
 have h1:GB d l=0:=Cz;have e2:=e2 h1;have e3:=e3 h1;have e4:=e4 h1;refine AWp.seq (Bu rfl _ _ _ _ ?_);simp only[zK,seval];refine LK 0 (fA _ 1 _ _ (Qe5 id) d oo) (λs=>rfl) Ha trivial ?_;simp only[zK,seval];apply ifC.mk<;>intro h2
 ·rw[e2 DN];exact KB
 have h2:(d.any λx=>x.id==id)=true:=DN;have e3:=e3 h2;have e4:=e4 h2;apply ifC.mk<;>intro h3
 ·rw[e3 h3];exact KB
 have e4:=e4 h3;refine Ak (vo d l id oo oo) ?_;simp only[zK,seval];apply ifC.mk<;>intro h4
 ·rw[e4 Ic];exact KB
 have h4:Q2 d l id=true:=Ic;have hat:0<=at_/\at_<=1000000000000:=Vy;obtain⟨c1,c2,c3,c4⟩:=Q6o h1;have eF:Fj d l id at_=if(IF false (ID d l id at_).2 ((ID d l id at_).1.length+1+1) (List.replicate ((ID d l id at_).1.length+1) 0)).2=false then((0,0),12)
   else((IntKind.i64.wrap (0-(GL true (ID d l id at_).2 ((Cm (ID d l id at_).1 id at_).length+1)).getD (CJ (ID d l id at_).1 id at_) default),(GL false (ID d l id at_).2 ((Cm (ID d l id at_).1 id at_).length+1)).getD (CJ (ID d l id at_).1 id at_) default),0):=by
  rw[Fj,A7 Cz,A7 Je,A7 K9,A7 (by rw[h4];simp)]
 have hok:GOk (ID d l id at_) 42300:=(X4 l ((U3 l id at_ (M:=37) oo d (g:=([],[])) (m:=0) ⟨AR _,λx hx=>Jd⟩).mono (m':=42200) oo)).mono oo;have hsz:=hok.sz;have hb:=tY (Gl:=Gl) d l id at_ hd hl c2 c3 c4 hat;generalize ID d l id at_=G at *;obtain⟨N,E⟩:=G;simp only at hb eF hsz;have hed:=hok.ed;simp only at hed;refine AWp.seq (Bu rfl _ _ _ _ ?_);simp only[zK,seval];refine Be ((hb _).mono λr s hr=>?_);obtain⟨c,rfl,hg,hf⟩:=hr;have hx0:=hf.at (j:=0) (B:=.box 1 (.d (.int .i64 id))) rfl rfl A6;have hx1:=hf.at (j:=1) (B:=.box 2 (.d (.agg [.int .i64 0,.int .i64 0]))) rfl rfl A6;clear hb;simp only[zK,seval];refine AWp.seq (Bu rfl _ _ _ _ ?_);simp only[zK,seval];refine Be ((tA hg oo oo hed).mono λr s2 hr=>?_);obtain⟨rfl,hf2⟩:=hr;have hg2:=hg.ofFr hf2;have hx20:=hf2.at hx0 rfl A6;have hx21:=hf2.at hx1 rfl A6;have l0:=AG hx20 rfl;have l1:=AG hx21 rfl;simp only[zK,seval,hx20,hx21,l0,l1];apply ifC.mk<;>intro h5
 ·rw[eF,AD Ib];exact KB
 have h5:¬(IF false E (N.length+1+1) (List.replicate (N.length+1) 0)).2=false:=Ib;rw[A7 h5] at eF;have hp1:(1:Nat)≠2:=D7;refine AWp.seq (Bu rfl _ _ _ _ ?_);simp only[zK,seval,hx20,hx21,l0,l1];refine Be ((fF hg2 oo id at_).mono λr s3 hr=>?_);obtain⟨rfl,hs3⟩:=hr;have hg3:=hg2.num id at_;rw[<-hs3] at hg3;have hx31:A1 s3 1=.box 2 (.d (.agg [.int .i64 0,.int .i64 0])):=by rw[hs3];exact(As (A6:([Blk.box 1 (AV.d (D.int IntKind.i64 id)),Blk.box 2 (AV.d (D.agg [D.int IntKind.i64 0,D.int IntKind.i64 0]))]:Sto).length≠1)).trans hx21
 have l31:=AG hx31 rfl;clear hs3;have n1:=ND N id at_;have hed3:∀x∈E,x.a<=(Cm N id at_).length/\x.b<=(Cm N id at_).length:=λx hx=>by have:=hed x hx;omega
 have f1l:=gg true E ((Cm N id at_).length+1);have f2l:=gg false E ((Cm N id at_).length+1);generalize CJ N id at_=nv at *;generalize Cm N id at_=N3 at *;simp only[zK,seval];refine AWp.seq (NM rfl (NJ (Θ:=(Sto×Nat)×(Sto×Nat))
  (λH L=>[(54,onV (L 0) (.ptr 3 0)),(55,onV (L 1) (.A8 H.1.2 0 (N3.length+1))),(56,onV (L 2) (.d (.int .i64 (nv:Nat)))),(57,onV (L 3) (.Al H.1.2 nv 0)),(58,onV (L 4) (.d (.int .i64 ((GL true E (N3.length+1)).getD nv default)))),(59,onV (L 5) (.d (.int .i64 (IntKind.i64.wrap (0-(GL true E (N3.length+1)).getD nv default))))),
   (60,onV (L 6) (.ptr 3 0)),(61,onV (L 7) (.A8 H.2.2 0 (N3.length+1))),(62,onV (L 8) (.d (.int .i64 (nv:Nat)))),(63,onV (L 9) (.Al H.2.2 nv 0)),(64,onV (L 10) (.d (.int .i64 ((GL false E (N3.length+1)).getD nv default)))),(65,onV (L 11) (.d (.agg [.int .i64 (IntKind.i64.wrap (0-(GL true E (N3.length+1)).getD nv default)),.int .i64 ((GL false E (N3.length+1)).getD nv default)]))),
   (8,.ptr 1 0),(9,.d (.int .i64 0)),(11,.ptr 3 0),(12,.d (.int .i64 (nv:Nat)))])
  (λH L=>if L 12=true then H.2.1.set 1 (.box 2 (.d (.agg [.int .i64 (IntKind.i64.wrap (0-(GL true E (N3.length+1)).getD nv default)),.int .i64 ((GL false E (N3.length+1)).getD nv default)]))) else if L 7=true then H.2.1 else if L 1=true then H.1.1 else s3)
  (λH L=>(L 1=true->A1 H.1.1 H.1.2=.arr 1 ((GL true E (N3.length+1)).map (D.int .i64))/\Fr s3 H.1.1 [])/\(L 7=true->A1 H.2.1 H.2.2=.arr 1 ((GL false E (N3.length+1)).map (D.int .i64))/\Fr H.1.1 H.2.1 []))
  Ax ?_ ?_ ?_))
 ·refine⟨(([],0),([],0)),AU rfl,λh=>?_,λh=>?_⟩
  ·exact absurd (Es h) D7
  exact absurd (Es h) D7
 ·simp only[KO];refine⟨?_,?_,?_,?_,?_,?_,?_,?_,?_,?_,?_,?_,?_,?_,trivial⟩
  all_goals (rintro H L ⟨o1,o7⟩ hc hL hp;(try simp only[EM,Region.binds,frB] at hp);(try simp only[EU,Nat.reduceAdd] at hL);simp only[zK,seval,hL,hp,Ef,Er,D3,FG])
  all_goals have a12:∀j,j<12->L 12=true->L j=true:=λj hj h=>Da (hc 12 _ rfl h) j (by
   rcases(oo:j=0\/j=1\/j=2\/j=3\/j=4\/j=5\/j=6\/j=7\/j=8\/j=9\/j=10\/j=11) with e|e|e|e|e|e|e|e|e|e|e|e<;>rw[e]<;>kernel_rfl)
  all_goals have a7:L 7=true->L 1=true:=λh=>Da (hc 7 _ rfl h) 1 Ax
  all_goals have b1:L 12=false->L 1=true->A1 (if L 7=true then H.2.1 else H.1.1) H.1.2=.arr 1 ((GL true E (N3.length+1)).map (D.int .i64)):=λ_ h1=>(by
   by_cases h7:L 7=true
   ·rw[AD h7];exact(o7 h7).2.at (o1 h1).1 rfl A6
   rw[A7 h7];exact(o1 h1).1)
  case refine_2=>
   have z12:=DO hL (a12 1 oo);have z7:=DO hL a7;have z3:L 3=false:=DO hL λh=>Da (hc 3 _ rfl h) 1 Ax;rw[z12,z7,z3];refine FN ?_;refine Be ((i_ hg3 oo oo hed3 true).mono λr s' hr=>?_);obtain⟨q,rfl,_,h6,h7⟩:=hr;refine FN ?_;exact⟨((s',q),H.2),AU rfl,h6,h7⟩
  case refine_8=>
   have z12:=DO hL (a12 7 oo);obtain⟨y1,y2⟩:=o1 hp.2;have z9:L 9=false:=DO hL λh=>Da (hc 9 _ rfl h) 7 Ax;rw[z12,z9];refine FN ?_;refine Be ((i_ (hg3.ofFr y2) oo oo hed3 false).mono λr s' hr=>?_);obtain⟨q,rfl,_,h6,h7⟩:=hr;refine FN ?_;exact⟨(H.1,(s',q)),AU rfl,o1 hp.2,h6,h7⟩
  case refine_4=>
   have z12:=DO hL (a12 3 oo);have h6:=b1 z12 hp.1;rw[z12];simp only[zK,seval,h6];exact TY
  case refine_5=>
   have z12:=DO hL (a12 4 oo);have y1:L 1=true:=Da (hc 3 _ rfl hp) 1 Ax;have h6:=b1 z12 y1;rw[z12,y1];simp only[zK,seval,h6,(oo:nv<(GL true E (N3.length+1)).length),Af _ _ _ (oo:nv<(GL true E (N3.length+1)).length)];exact TY
  case refine_10=>
   have z12:=DO hL (a12 9 oo);have h6:=(o7 hp.1).1;rw[z12];simp only[zK,seval,h6];exact TY
  case refine_11=>
   have z12:=DO hL (a12 10 oo);have y7:L 7=true:=Da (hc 9 _ rfl hp) 7 Ax;have h6:=(o7 y7).1;rw[z12,y7];simp only[zK,seval,h6,(oo:nv<(GL false E (N3.length+1)).length),Af _ _ _ (oo:nv<(GL false E (N3.length+1)).length)];exact TY
  case refine_13=>
   have y7:L 7=true:=hp.2.1;have y1:=a7 y7;have hb1:=(o7 y7).2.at ((o1 y1).2.at hx31 rfl A6) rfl A6;have lb1:=AG hb1 rfl;simp only[zK,seval,hb1,lb1];exact TY
  case refine_14=>
   have y7:L 7=true:=a12 7 oo hp.1;have y1:=a7 y7;exact cD
  case refine_12=>
   exact cD
  all_goals exact⟨H,AU rfl,o1,o7⟩
 rintro H ⟨q1,q2⟩;obtain⟨q1,q3⟩:=q1 rfl;obtain⟨q2,q4⟩:=q2 rfl;have hb1:=q4.at (q3.at hx31 rfl A6) rfl A6;have l1:=AG hb1 rfl;rw[eF];simp only[zK,seval];refine Bu rfl _ _ _ _ ?_;simp only[zK,seval,Py,l1];exact⟨_,_,KY,rfl,rfl⟩

def tn(id:Int)(nm:List UInt8)(Gt:Int)(x:BC):AW prog Gl 244 [.d x.A5,.ptr 0 0] [.box 3 (.d (An.A5 ⟨id,nm,Gt⟩))] (λr s=>r=.d (.bool (x.id==Gt))/\s=[.box 3 (.d (An.A5 ⟨id,nm,Gt⟩))]):=by
 refine acS func244 ntmps244 results244 ?_;refine FC ?_;exact WR
def HH(A9:List An)(AZ:List BC)(AK:List B3):Int:=
 if A9.length=0 then 8 else if 64<A9.length then 7
 else if Bh (H3 A9) A9.length≠0 then Bh (H3 A9) A9.length
 else if GB AZ AK≠0 then GB AZ AK
 else Bh (λk=>if(AZ.any λx=>x.id==(A9.getD k default).Gt)=true then 0 else 5) A9.length
def uE(l:List An)(k:Nat)(h:k<l.length):Ae (λn=>CV (l.take k) n) (l.getD k default).id true=λn=>CV (l.take (k+1)) n:=by
 funext n;unfold Ae CV;exact ou
def Q8x(n:Nat)(x:D)(F:Int->Bool)(rest:Sto):C1 [0,1] (freezeL (.box n (.d x)::.map (some .i64) (mkM F)::rest) [])=[.box n (.d x),.map (some .i64) (mkM F)]:=by
 show[_,Ca _ _ (.map (some .i64) (mkM _))]=_;rw[jx];rfl
def Q55(A9:List An)(AZ:List BC)(AK:List B3)(h1:A9.length<1000000)(h2:AZ.length<1000000)(h3:AK.length<1000000):
  AT prog Gl 219 [.d (.agg [.sl (A9.map An.A5),.sl (AZ.map BC.A5),.sl (AK.map B3.A5)])] (.d (.int .i64 (HH A9 AZ AK))):=by
 refine AT.iJ ?_;refine acS func219 ntmps219 results219 ?_;simp only[zF,seval,B6];apply ifC.mk<;>intro c1
 ·rw[HH,AD Ia];exact⟨_,_,Ei,rfl,rfl⟩
 have c1:¬A9.length=0:=by simp at c1;simp[c1]
 repeat((with_reducible apply aI);exact sdp)
 apply ifC.mk<;>intro c2
 ·rw[HH,A7 c1,AD (by simp at c2;omega)];exact⟨_,_,Ei,rfl,rfl⟩
 have c2:¬64<A9.length:=by simp at c2;omega
 have e1:HH A9 AZ AK=if Bh (H3 A9) A9.length≠0 then Bh (H3 A9) A9.length else if GB AZ AK≠0 then GB AZ AK else Bh (λk=>if(AZ.any λx=>x.id==(A9.getD k default).Gt)=true then 0 else 5) A9.length:=by rw[HH,A7 c1,A7 c2]
 have em:(λ_=>none:Aw->Option AV)=mkM (λn=>CV (A9.take 0) n):=by funext k;cases k<;>simp[mkM,CV]
 rw[em];refine Bm A9.length (λk=>[(1,.ptr 0 0),(3,.AF 1),(22,.d (.sl (A9.map An.A5))),(23,(A9.length:Int)),(24,(k:Int))]) (λk=>[.box 3 (.d (.agg [.sl (A9.map An.A5),.sl (AZ.map BC.A5),.sl (AK.map B3.A5)])),.map (some .i64) (mkM λn=>CV (A9.take k) n)]) (λk=>Bh (H3 A9) k=0) rfl ?_ ?_
 ·exact Dd
 intro k hi hk;by_cases h:k<A9.length
 ·have hat:H3 A9 k=if KP (A9.getD k default)≠0 then KP (A9.getD k default) else if CV (A9.take k) (A9.getD k default).id=true then 4 else 0:=rfl;have hms:=uE A9 k h;generalize hxx:A9.getD k default=x at *;simp only[zF,seval,(oo:(k:Int)<A9.length),h,Af _ _ _ (oo:k<A9.length),hxx,a_w ((k:Int)+1)];refine Ak (fC _) ?_;refine C0 ?_;apply ifC.mk<;>intro c3
  ·have c3:KP x≠0:=by simpa using c3
   rw[AD c3] at hat;refine BT ?_;rw[e1,Ga hi (by rw[hat];exact c3) h,hat,AD c3]
  rw[A7 (by simpa using c3)] at hat;simp only[zF,seval,Wq,Tq,hms,a_w ((k:Int)+1)];refine Ag ?_;apply ifC.mk<;>intro c4
  ·rw[AD c4] at hat;refine BT ?_;rw[e1,Ga hi Vw h,hat,AD D7]
  rw[A7 (by rw[c4];simp)] at hat;exact⟨HR hi hat,BA [] [0,1] rfl A6 rfl (Q8x ..)⟩
 have hk:k=A9.length:=oo;subst hk;rw[hi,A7 A6] at e1;simp only[zF,seval,(oo:¬(A9.length:Int)<A9.length)];refine Ak (Y8 AZ AK h2 h3) ?_;simp only[zF,seval];apply ifC.mk<;>intro c5
 ·rw[e1,AD (by simpa using c5)];exact⟨_,_,Ei,rfl,rfl⟩
 rw[A7 (by simpa using c5)] at e1;refine Bm A9.length (λk=>[(1,.ptr 0 0),(50,.d (.sl (A9.map An.A5))),(51,(A9.length:Int)),(52,(k:Int))]) (λk=>[.box 3 (.d (.agg [.sl (A9.map An.A5),.sl (AZ.map BC.A5),.sl (AK.map B3.A5)]))]) (λk=>Bh (λk=>if(AZ.any λx=>x.id==(A9.getD k default).Gt)=true then 0 else 5) k=0) rfl ?_ ?_
 ·exact Kz
 intro k hi2 hk2;by_cases h4:k<A9.length
 ·obtain⟨x,hxx⟩:∃x,x=A9.getD k default:=⟨_,rfl⟩;have hat:(λk=>if(AZ.any λx=>x.id==(A9.getD k default).Gt)=true then(0:Int) else 5) k=if(AZ.any λy=>y.id==x.Gt)=true then 0 else 5:=by rw[hxx]
  simp only[zF,seval,(oo:(k:Int)<A9.length),h4,Af _ _ _ (oo:k<A9.length),<-hxx];refine LK 1 (fA _ 3 _ _ (tn x.id x.name x.Gt) AZ h2) (λs=>rfl) Ha trivial ?_;refine WT ?_;apply ifC.mk<;>intro c6
  ·rw[A7 (by simpa using c6)] at hat;refine BT ?_;rw[e1,Ga hi2 (by have h5:(if(AZ.any λx=>x.id==(A9.getD k default).Gt)=true then(0:Int) else 5)=5:=hat;rw[h5];decide) h4];exact congrArg (λz=>AV.d (.int .i64 z)) hat.symm
  rw[AD (by simpa using c6)] at hat;exact⟨HR hi2 hat,BA [] [0] rfl A6 rfl rfl⟩
 have hk3:k=A9.length:=oo;subst hk3;simp only[zF,seval,(oo:¬(A9.length:Int)<A9.length)];rw[e1,hi2];exact⟨_,_,Ei,rfl,rfl⟩
structure KJ(σ:Sto)(M:Nat)(tr:Int->Option (Int×Int))(f:Aw->Option AV)(tb:Int->Nat):Prop where
 Ad:A1 σ M=.map (some .i64) f
 look:∀k,f (.i k)=(tr k).map λ_=>.ptr (tb k) 0
 box:∀k t,tr k=some t->A1 σ (tb k)=.box 2 (.d (.agg [.int .i64 t.1,.int .i64 t.2]))
 inj:∀k k',(tr k).isSome=true->(tr k').isSome=true->tb k=tb k'->k=k'
def KJ.app{S:Sto}{M:Nat}{tr:Int->Option (Int×Int)}{f:Aw->Option AV}{tb:Int->Nat}(h:KJ S M tr f tb){s:Sto}(hf:Fr S s []):KJ s M tr f tb:=
 ⟨hf.at h.Ad rfl A6,h.look,λk t hk=>hf.at (h.box k t hk) rfl A6,h.inj⟩
def KJ.Ev{S s:Sto}{M:Nat}{tr:Int->Option (Int×Int)}{f:Aw->Option AV}{tb:Int->Nat}(h:KJ S M tr f tb){k:Int}{t t':Int×Int}(hk:tr k=some t)(hf:Fr S s [tb k])(hb:A1 s (tb k)=.box 2 (.d (.agg [.int .i64 t'.1,.int .i64 t'.2]))):KJ s M (Ae tr k (some t')) f tb:=by
 have hks:(tr k).isSome=true:=by rw[hk];rfl
 have hne:M≠tb k:=AX h.Ad (h.box k t hk) A6;have sm:∀k1,(Ae tr k (some t') k1).isSome=true->(tr k1).isSome=true:=λk1 h1=>by
  exact WQ
 refine⟨hf.at h.Ad rfl (by simpa using hne),λk1=>?_,λk1 t1 h1=>?_,λk1 k2 q1 q2=>h.inj k1 k2 (sm _ q1) (sm _ q2)⟩
 ·rw[h.look];unfold Ae;split
  ·rename_i e;rw[e,hk];rfl
  rfl
 by_cases e:k1=k
 ·subst e;rw[CQ] at h1;cases h1;exact hb
 rw[CP _ _ e] at h1;exact hf.at (h.box k1 t1 h1) rfl (by simp;exact λe2=>e (h.inj _ _ (by rw[h1];rfl) hks e2))
def KJ.new{S:Sto}{M:Nat}{tr:Int->Option (Int×Int)}{f:Aw->Option AV}{tb:Int->Nat}(h:KJ S M tr f tb)(k:Int)(p:Nat){s:Sto}{t:Int×Int}(hf:Fr S s [M])(hp:S.length<=p)(hb:A1 s p=.box 2 (.d (.agg [.int .i64 t.1,.int .i64 t.2])))(hm:A1 s M=.map (some .i64) (BO f (.i k) (.ptr p 0))):
  KJ s M (Ae tr k (some t)) (BO f (.i k) (.ptr p 0)) (Ae tb k p):=by
 have lt:∀k1,(tr k1).isSome=true->tb k1<S.length:=λk1 h1=>by
  obtain⟨t1,ht1⟩:=Fa.1 h1;exact AG (h.box k1 t1 ht1) rfl
 have sm:∀k1,k1≠k->(Ae tr k (some t) k1).isSome=true->(tr k1).isSome=true:=λk1 e h1=>ak;refine⟨hm,λk1=>?_,λk1 t1 h1=>?_,λk1 k2 q1 q2 q3=>?_⟩
 ·rw[MA];by_cases e:k1=k
  ·subst e;rw[AD rfl,CQ,CQ];rfl
  rw[A7 J5,CP _ _ e,CP _ _ e];exact h.look k1
 ·by_cases e:k1=k
  ·subst e;rw[CQ] at h1 ⊢;cases h1;exact hb
  rw[CP _ _ e] at h1 ⊢;have hx:=h.box k1 t1 h1;exact hf.at hx rfl (by simp;exact AX hx h.Ad A6)
 by_cases e1:k1=k<;>by_cases e2:k2=k
 ·rw[e1,e2]
 ·rw[e1,CQ,CP _ _ e2] at q3;have:=lt k2 (sm _ e2 q2);omega
 ·rw[e2,CQ,CP _ _ e1] at q3;have:=lt k1 (sm _ e1 q1);omega
 rw[CP _ _ e1,CP _ _ e2] at q3;exact h.inj _ _ (sm _ e1 q1) (sm _ e2 q2) q3
def kr(p:Ao):Int:=(p.A_.getD (p.A_.length-1) default).at_
def yx{S:Sto}{b:Nat}{t:Int×Int}(hb:A1 S b=.box 2 (.d (.agg [.int .i64 t.1,.int .i64 t.2])))(p:Ao)(hp:0<p.A_.length/\p.A_.length<1000000)(hr:0<=p.lost/\p.lost<=p.AB/\p.AB<=1000000000000000):
  AW prog Gl 246 [.ptr b 0,.d p.A5] S (λr s=>r=.d (.bool (p.AB-p.lost==t.1&&decide (t.2<=(p.A_.getD 0 default).at_)))/\Fr S s []):=by
 have lb:=AG hb rfl;refine acS func246 ntmps246 results246 ?_;simp only[zF,seval,B6,hb,lb,a_w (p.AB-p.lost)];refine⟨.inl Ax,?_⟩;simp only[zF,seval,hb,lb,a_w (p.AB-p.lost),(oo:(0:Int)<p.A_.length),(oo:0<p.A_.length),Af _ _ _ (oo:0<p.A_.length)]
 repeat((with_reducible apply aI);exact sdp)
 exact⟨_,_,Bg.refl _ _ _,rfl,Fr.app _ _⟩
def yU{S:Sto}{b:Nat}{t:Int×Int}(hb:A1 S b=.box 2 (.d (.agg [.int .i64 t.1,.int .i64 t.2])))(p:Ao)(hp:0<p.A_.length/\p.A_.length<1000000)(hr:0<=p.lost/\p.lost<=p.AB/\p.AB<=1000000000000000):
  AW prog Gl 247 [.ptr b 0,.d p.A5] S (λr s=>r=.Aj []/\A1 s b=.box 2 (.d (.agg [.int .i64 (p.AB+p.A_.length),.int .i64 (kr p)]))/\Fr S s [b]):=by
 have lb:=AG hb rfl;have e1:IntKind.i64.wrap ((p.A_.length:Int)-1)=((p.A_.length-1:Nat):Int):=Bz;refine acS func247 ntmps247 results247 ?_;simp only[zF,seval,B6,hb,lb,a_w (p.AB+p.A_.length),e1,(oo:((p.A_.length-1:Nat):Int)<p.A_.length),(oo:p.A_.length-1<p.A_.length),Af _ _ _ (oo:p.A_.length-1<p.A_.length)]
 repeat((with_reducible apply aI);exact sdp)
 refine⟨_,_,Bg.refl _ _ _,rfl,?_,((Fr.refl S [b]).set _ A6).trans (Fr.app _ _) A6⟩;rw[BB (by simp;exact lb),BX lb];rfl
def tl0(A9:List An):Int->Option (Int×Int):=λk=>if CV A9 k=true then some (0,0) else none
def tlS(tr:Int->Option (Int×Int))(p:Ao):Int->Option (Int×Int):=Ae tr p.A0 (some (p.AB+p.A_.length,kr p))
def tlR(A9:List An)(l:List Ao):Int->Option (Int×Int):=l.foldl tlS (tl0 A9)
def He(A9:List An)(l:List Ao)(k:Nat):Int:=
 if Ii (l.getD k default)≠0 then Ii (l.getD k default)
 else match tlR A9 (l.take k) (l.getD k default).A0 with
  | none=>5
  | some t=>if((l.getD k default).AB-(l.getD k default).lost==t.1&&decide (t.2<=((l.getD k default).A_.getD 0 default).at_))=true then 0 else 11
def evN(l:List Ao):Nat:=(l.map λp=>p.A_.length).sum
def H4(A9:List An)(l:List Ao):Int:=if Bh (He A9 l) l.length≠0 then Bh (He A9 l) l.length else if 20000<evN l then 7 else 0
def P1{p:Ao}(h:Ii p=0):(0<=p.A0/\p.A0<=1000000000000000)/\(0<=p.lost/\p.lost<=p.AB/\p.AB<=1000000000000000)/\0<p.A_.length/\p.A_.length<=1000/\p.AB+p.A_.length<=1000000000000000/\Pw p.A_=0:=by
 unfold Ii at h;split at h
 ·cases h
 split at h
 ·cases h
 split at h
 ·cases h
 split at h
 ·cases h
 split at h
 ·cases h
 refine⟨?_,?_,?_,?_,?_,h⟩<;>omega
def Rs(l:List Ao)(k:Nat)(h:k<l.length):evN (l.take (k+1))=evN (l.take k)+(l.getD k default).A_.length:=by
 rw[CY l k h,evN,CA,aN];simp[evN]
def OM(l:List Ao):∀k,evN (l.take k)<=evN l:=λk=>by
 conv=>rhs;rw[<-Lf k l]
 rw[evN,evN,CA,aN];exact Nat.le_add_right _ _
def xQ(l:List An)(k:Nat)(h:k<l.length):tl0 (l.take (k+1))=Ae (tl0 (l.take k)) (l.getD k default).id (some (0,0)):=by
 funext n;unfold tl0 Ae CV;exact ou
def tZ(A9:List An)(AZ:List BC)(AK:List B3)(l:List Ao)(h1:A9.length<1000000)(hl:l.length<900000)(hf:∀p∈l,p.GC)(hev:evN l<1000000):
  AT prog Gl 220 [.d (.agg [.sl (A9.map An.A5),.sl (AZ.map BC.A5),.sl (AK.map B3.A5)]),.d (.sl (l.map Ao.A5))] (.d (.int .i64 (H4 A9 l))):=by
 refine AT.Jv ?_;refine acS func220 ntmps220 results220 ?_;simp only[zF,seval,B6];refine CL (τ:=Nat×Sto) (λy=>[(5,.AF 1),(1,.d (.sl (l.map Ao.A5))),(16,.d (.sl (A9.map An.A5))),(17,(A9.length:Int)),(18,(y.1:Int))]) (λy=>y.2)
  (λy=>y.1<=A9.length/\∃f tb,KJ y.2 1 (tl0 (A9.take y.1)) f tb) (λy=>A9.length-y.1) (0,[.box 3 (.d (.agg [.sl (A9.map An.A5),.sl (AZ.map BC.A5),.sl (AK.map B3.A5)])),.map (some .i64) λ_=>none]) ⟨Bq _,λ_=>none,λ_=>0,rfl,λk=>rfl,λk t h=>by simp[tl0,CV] at h,λk k' h=>by simp[tl0,CV] at h⟩ ?_ ?_
 ·exact Dd
 rintro⟨k,s⟩ ⟨hk,f,tb,hI⟩;simp only at hk hI;by_cases h:k<A9.length
 ·have hst:=xQ A9 k h;have hM:=hI.Ad;have lM:=AG hM rfl;generalize hxx:A9.getD k default=x at *;simp only[zF,seval,(oo:(k:Int)<A9.length),h,Af _ _ _ (oo:k<A9.length),hxx,hM,lM,a_w ((k:Int)+1)];refine Ag ?_;refine⟨(k+1,_),⟨AQ,BO f (.i x.id) (.ptr (s.length+1) 0),Ae tb x.id (s.length+1),?_⟩,AQ,AU ?_⟩;rotate_left 1
  ·rfl
  rw[hst];refine hI.new x.id (s.length+1) (t:=(0,0)) ?_ oo ?_ ?_
  ·exact((Fr.refl s [1]).set _ A6).trans (Fr.app _ _) A6
  ·simp only;exact me
  simp only;rw[BB (by simp;exact lM),BX lM]
 have hk2:k=A9.length:=oo;subst hk2;rw[BL] at hI;simp only[zF,seval,(oo:¬(A9.length:Int)<A9.length)];have e0:H4 A9 l=if Bh (He A9 l) l.length≠0 then Bh (He A9 l) l.length else if 20000<evN l then 7 else 0:=rfl;refine CL (τ:=Nat×Sto) (λy=>[(5,.AF 1),(8,((evN (l.take y.1):Nat):Int)),(28,.d (.sl (l.map Ao.A5))),(29,(l.length:Int)),(30,(y.1:Int))]) (λy=>y.2)
  (λy=>y.1<=l.length/\Bh (He A9 l) y.1=0/\∃f tb,KJ y.2 1 (tlR A9 (l.take y.1)) f tb) (λy=>l.length-y.1) (0,s) ⟨Bq _,rfl,f,tb,hI⟩ ?_ ?_
 ·exact Dd
 clear hI hk h;rintro⟨k,s⟩ ⟨hk,hfe,f,tb,hI⟩;simp only at hk hfe hI;by_cases h:k<l.length
 ·have hat:He A9 l k=if Ii (l.getD k default)≠0 then Ii (l.getD k default) else match tlR A9 (l.take k) (l.getD k default).A0 with|none=>5|some t=>if((l.getD k default).AB-(l.getD k default).lost==t.1&&decide (t.2<=((l.getD k default).A_.getD 0 default).at_))=true then 0 else 11:=rfl
  have bad:He A9 l k≠0->H4 A9 l=He A9 l k:=λhb=>by rw[e0,Ga hfe hb h,AD hb]
  have htl:tlR A9 (l.take (k+1))=tlS (tlR A9 (l.take k)) (l.getD k default):=by rw[CY l k h,tlR,GD];rfl
  have hen:=Rs l k h;have hen2:=OM l (k+1);have hx:=hf _ (Ba h);generalize hxx:l.getD k default=x at *;generalize hev0:evN (l.take k)=n0 at *;have hM:=hI.Ad;have lM:=AG hM rfl;refine bK ?_;refine Ak (zI x hx.1 hx.2) ?_;refine C0 ?_;apply ifC.mk<;>intro c1
  ·have c1:Ii x≠0:=Ia;rw[AD c1] at hat;rw[bad (by rw[hat];exact c1),hat];exact D0
  have c1:Ii x=0:=Ia;obtain⟨p1,p2,p3,p4,p5,p6⟩:=P1 c1;rw[A7 Ia] at hat;have hlk:=hI.look x.A0;cases ht:tlR A9 (l.take k) x.A0 with
  | none=>
   rw[ht] at hat hlk;simp only at hat;simp only[zF,seval,hM,lM,hlk,show(none:Option (Int×Int)).map (λ_=>AV.ptr (tb x.A0) 0)=none from rfl];rw[bad Vw,hat];exact D0
  | some t=>
   rw[ht] at hat hlk;simp only at hat;simp only[zF,seval,hM,lM,hlk,show(some t).map (λ_=>AV.ptr (tb x.A0) 0)=some (AV.ptr (tb x.A0) 0) from rfl];have hI2:=hI.app (Fr.app s [Blk.box 4 (.d x.A5)]);refine Be ((yx (hI2.box _ _ ht) x ⟨p3,oo⟩ p2).mono λr s2 hr=>?_);obtain⟨rfl,hf2⟩:=hr;have hI3:=hI2.app hf2;have hx2:=hf2.at (Cd (σ:=s) (B:=.box 4 (.d x.A5))) rfl A6;have lx2:=AG hx2 rfl;refine C0 ?_;apply ifC.mk<;>intro c2
   ·rw[A7 (λhh=>by rw[hh] at c2;cases c2)] at hat;rw[bad Vw,hat];exact D0
   rw[AD (by simpa using c2)] at hat;simp only[zF,seval,hx2,lx2];refine Be ((yU (hI3.box _ _ ht) x ⟨p3,oo⟩ p2).mono λr s3 hr=>?_);obtain⟨rfl,hb3,hf3⟩:=hr;have hxt:s.length≠tb x.A0:=AX hx2 (hI3.box _ _ ht) A6;have hx3:=hf3.at hx2 rfl (by simpa using hxt);have lx3:=AG hx3 rfl;simp only[zF,seval,hx3,lx3,a_w ((n0:Int)+x.A_.length),a_w ((k:Int)+1)];refine⟨(k+1,s3),⟨AQ,HR hfe hat,f,tb,?_⟩,AQ,AU ?_⟩
   ·rw[htl,tlS];exact hI3.Ev ht hf3 hb3
   rw[hen];rfl
 have hk2:k=l.length:=oo;subst hk2;rw[hfe,A7 A6] at e0;simp only[zF,seval,(oo:¬(l.length:Int)<l.length),BL];apply ifC.mk<;>intro c1
 ·rw[e0,AD (by simp at c1;omega)];exact D0
 rw[e0,A7 (by simp at c1;omega)];exact⟨_,_,Ei,rfl,rfl⟩
end YtafpldmnkcegmaaGreat
end Go.Proofs
