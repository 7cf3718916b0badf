/- A part of the proof: an abstract machine over data, and lemmas; nothing of the statement. No condition beyond those stated. -/
import Derived.Test.YtafpldmnkcegmaaGreatG3
import Derived.Maps.RangeRun
import Derived.Shelf.SlSortCmp.WholeK
import Derived.Shelf.Sort.Plain
import Derived.Sort.Grow
import Derived.Deep.Draws
import Derived.Laws.Externs
set_option linter.all false

namespace Go.AM
section
variable {α:Type} [Inhabited α]
def putAt(lt:α->α->Bool)(l:List α)(b:α):Nat->Nat
 | 0=>0
 | k+1=>if lt b (l.getD k default)=true then putAt lt l b k else k+1
def G6(lt:α->α->Bool)(l:List α)(b:α):List α:=l.take (putAt lt l b l.length)++b::l.drop (putAt lt l b l.length)
def DZ(lt:α->α->Bool)(l:List α):List α:=l.foldl (G6 lt) []
def Ww(lt:α->α->Bool)(l:List α)(b:α):∀k,putAt lt l b k<=k
 | 0=>AR _
 | k+1=>by
  have:=Ww lt l b k;unfold putAt;split<;>omega
def fS{lt:α->α->Bool}{l:List α}{b:α}:∀{k j:Nat},putAt lt l b k<=j->j<k->lt b (l.getD j default)=true
 | 0,j,_,h=>oo
 | k+1,j,h1,h2=>by
  unfold putAt at h1;split at h1
  ·rename_i h;by_cases e:j=k
   ·subst e;exact h
   exact fS h1 oo
  omega
def fT{lt:α->α->Bool}{l:List α}{b:α}:∀{k:Nat},0<putAt lt l b k->lt b (l.getD (putAt lt l b k-1) default)=false
 | 0,h=>by simp[putAt] at h
 | k+1,h=>by
  unfold putAt at h ⊢;split at h
  ·rename_i h';rw[AD h'];exact fT h
  rename_i h';rw[A7 h'];simpa using h'
def sE(lt:α->α->Bool)(l:List α)(b:α):(G6 lt l b).length=l.length+1:=by
 have:=Ww lt l b l.length;simp[G6];omega
def fU{lt:α->α->Bool}{l:List α}{b x:α}:x∈G6 lt l b↔x∈l\/x=b:=by
 unfold G6;rw[CH,Bw];have:x∈l↔x∈l.take (putAt lt l b l.length)\/x∈l.drop (putAt lt l b l.length):=by
  rw[<-CH,Lf]
 rw[this];constructor
 ·rintro(h|h|h)<;>simp[h]
 rintro((h|h)|h)<;>simp[h]
def MG(lt:α->α->Bool)(l:List α):(DZ lt l).length=l.length:=by
 have gen:∀(l a:List α),(l.foldl (G6 lt) a).length=a.length+l.length:=by
  intro l
  induction l with
  | nil=>intro a;rfl
  | cons x l ih=>intro a;rw[GQ,ih,sE,CT];omega
 have:=gen l [];unfold DZ;exact Ll
def Qbm(lt:α->α->Bool)(l:List α)(b:α):DZ lt (l++[b])=G6 lt (DZ lt l) b:=by simp[DZ]
end
section
variable {α β:Type} [Inhabited α] [Inhabited β] {g:α->β} {lt:β->β->Bool}
def iG{l:List α}{b:α}:∀{k:Nat},k<=l.length->putAt lt (l.map g) (g b) k=putAt (λx y=>lt (g x) (g y)) l b k
 | 0,_=>rfl
 | k+1,h=>by
  have e:(l.map g).getD k default=g (l.getD k default):=by simp[show k<l.length by omega]
  unfold putAt;rw[e,iG oo]
def xC{l:List α}{b:α}:G6 lt (l.map g) (g b)=(G6 (λx y=>lt (g x) (g y)) l b).map g:=by
 unfold G6;rw[BW,iG (AR _),CA,Ci,JT,Zv]
def S9{l:List α}:DZ lt (l.map g)=(DZ (λx y=>lt (g x) (g y)) l).map g:=by
 have gen:∀(l a:List α),(l.map g).foldl (G6 lt) (a.map g)=(l.foldl (G6 λx y=>lt (g x) (g y)) a).map g:=by
  intro l
  induction l with
  | nil=>intro a;rfl
  | cons x l ih=>intro a;rw[Ci,GQ,GQ,xC,ih]
 exact gen l []
end
variable {Dm:D->Prop} {lt:D->D->Bool} {xs:List D}
def Q4q(hw:Swo Dm lt)(hx:∀y∈xs,Dm y){l:List Nat}{k:Nat}(hk:k<xs.length)(hl:l.Pairwise (Lx lt xs))(hlt:∀i∈l,i<k):
  (G6 (λi j=>lt (xs.getD i default) (xs.getD j default)) l k).Pairwise (Lx lt xs):=by
 obtain⟨ltx,hltx⟩:∃ltx,ltx=λi j:Nat=>lt (xs.getD i default) (xs.getD j default):=⟨_,rfl⟩;rw[<-hltx];unfold G6;obtain⟨p,hp⟩:∃p,p=putAt ltx l k l.length:=⟨_,rfl⟩;have hle:p<=l.length:=by rw[hp];exact Ww _ _ _ _
 rw[<-hp];have hsp:(l.take p++l.drop p).Pairwise (Lx lt xs):=by rw[Lf];exact hl
 rw[JZ] at hsp ⊢;obtain⟨h1,h2,h3⟩:=hsp;have hkd:∀j∈l.drop p,Lx lt xs k j:=λj hj=>by
  obtain⟨i,hi⟩:=GF hj;rw[IW] at hi;have hil:p+i<l.length:=by
   rcases B9 (p+i) l.length with h|h
   ·exact h
   rw[Bt h] at hi;cases hi
  have:=fS (lt:=ltx) (l:=l) (b:=k) (k:=l.length) (j:=p+i) oo hil;rw[B5,hi,hltx] at this;exact .inl this
 have htk:∀j∈l.take p,Lx lt xs j k:=λj hj=>by
  rcases O3 p with hz|hpos
  ·rw[hz] at hj;simp at hj
  have hq:p-1<l.length:=oo;have hlo:=fT (lt:=ltx) (l:=l) (b:=k) (k:=l.length) oo;rw[<-hp] at hlo;have eq:l.getD (p-1) default=l[p-1]:=by simp[hq]
  rw[eq,hltx] at hlo;have hlast:Lx lt xs l[p-1] k:=.inr ⟨hlo,hlt _ (FZ hq)⟩;obtain⟨i,hi⟩:=GF hj;have hip:i<p:=by
   rcases B9 i p with h|h
   ·exact h
   rw[Bt Ap] at hi;cases hi
  rw[GH hip,BP oo] at hi;simp only[BF] at hi;by_cases e:i=p-1
  ·subst e;rw[<-hi];exact hlast
  have hL:Lx lt xs l[i] l[p-1]:=Hv.1 hl i (p-1) oo hq oo;rw[<-hi];have b1:=hlt _ (FZ (l:=l) (n:=i) oo);have b2:=hlt _ (FZ hq);exact Lx.trans hw hx oo oo hk hL hlast
 refine⟨h1,IV.2 ⟨hkd,h2⟩,λa ha b hb=>?_⟩;rcases Bw.1 hb with rfl|hb
 ·exact htk a ha
 exact h3 a ha b hb
def cx(hw:Swo Dm lt)(hx:∀y∈xs,Dm y):∀n,n<=xs.length->(DZ (λi j=>lt (xs.getD i default) (xs.getD j default)) (List.range n)).Pairwise (Lx lt xs)/\∀i,i∈DZ (λi j=>lt (xs.getD i default) (xs.getD j default)) (List.range n)↔i<n
 | 0,_=>⟨List.Pairwise.nil,λi=>by simp[DZ]⟩
 | n+1,h=>by
  obtain⟨h1,h2⟩:=cx hw hx n oo;rw[Ny,Qbm];refine⟨Q4q hw hx oo h1 λi hi=>(h2 i).1 hi,λi=>?_⟩;rw[fU,h2];omega
def eZ(hw:Swo Dm lt)(hx:∀y∈xs,Dm y){n:Nat}(hn:n<=xs.length){zs:List D}{G:Nat->Nat}(hA:Arr Dm xs zs G)(hB:Blo lt xs 0 n G)(hid:∀p,n<=p->G p=p):
  zs=DZ lt (xs.take n)++xs.drop n:=by
 obtain⟨h1,h2⟩:=cx hw hx n hn;have hp:=q_ hw hx hB hn h1 h2;have e1:xs.take n=(List.range n).map λi=>xs.getD i default:=by
  apply HY
  ·simp;omega
  intro i h3 h4;simp only[GU] at h3;simp[show i<xs.length by omega]
 have e2:DZ lt (xs.take n)=zs.take n:=by
  rw[e1,S9,<-hp];apply HY
  ·simp[Jp,hA.len];omega
  intro i h3 h4;simp only[Jp,BW,R9] at h3;have:=hA.get i oo;simp only[Jp,H9,MW,List.getElem_take];rw[<-this];simp[show i<zs.length by have:=hA.len;omega]
 have e3:xs.drop n=zs.drop n:=by
  apply HY
  ·simp[hA.len]
  intro i h3 h4;simp only[Ja] at h3;have:=hA.get (n+i) oo;rw[hid _ oo] at this;have hl:=hA.len;simp only[List.getElem_drop];simp[show n+i<xs.length by omega,show n+i<zs.length by omega] at this;exact this.symm
 rw[e2,e3,Lf]
end Go.AM


namespace Go.AM
variable {P:Program} {Gl:BM}
def IC(S:Sto)(u:AV):AV:=if u.Db S=true then .d (u.A5 S) else u
def KM(S:Sto)(u:AV):List Nat:=if u.Db S=true then u.refs else[]
def AW.data{f:FuncId}{args:List AV}{S:Sto}{R:AV->Sto->Prop}(h:AW P Gl f (args.map (IC S)) (freezeL S (args.flatMap (KM S))) R):AW P Gl f args S R:=by
 intro w I L vals hR hG hl hv;obtain⟨I',r1,r2,r3,r4,r5,r6,r7,r8⟩:=On hR (args.flatMap (KM S));have hm:=h w I' L vals r1 (hG.AH r2) Hb λi v u h1 h2=>by
  rw[DG] at h2;cases ha:args[i]? with
  | none=>rw[ha] at h2;cases h2
  | some a=>
   rw[ha] at h2;simp only[DF,BF] at h2;subst h2;have hk:=(hv i v a h1 ha).AH r2;unfold IC;split
   ·rename_i hd;refine .d _ _ ?_;have:=UJ r1 hk (by rw[XZ (λid=>(r5 id).2)];exact hd) (λid hid=>r4 id (HZ.2 ⟨a,Dn ha,by unfold KM;rw[AD hd];exact hid⟩) (SG hd id hid))
    rwa [Xd (λid=>(r5 id).1)] at this
   exact hk
 refine hm.mono λv w' ⟨r,σ',I'',μ',q1,q2,q3,q4⟩=>⟨r,σ',I'',μ',q1,r2.trans (q2.mono (by rw[r3];exact AR _)),q3,q4⟩
section
variable {n:Nat} {all:Array Oper} {rest:List Oper} {KK:Env->Sto->Prop} {env:Env} {σ:Sto} {f:FuncId} {az caps:List AV} {v:AV} {dst:Option Tmp} {g:Bool}
def Qfv(h:AT P Gl f ((az++caps).map (IC σ)) v)(h2:Ab P Gl n all false rest (AJ env dst v) (freezeL σ ((az++caps).flatMap (KM σ))) KK):FT P Gl n all false dst rest (.fn f caps) az env σ KK:=
 Be (AW.data ((h _).mono λr s ⟨e1,e2⟩=>by rw[e1,e2];exact h2))
def Y3(h:AW P Gl f ((az++caps).map (IC σ)) (freezeL σ ((az++caps).flatMap (KM σ))) (λr σ'=>Ab P Gl n all false rest (AJ env dst r) σ' KK)):FT P Gl n all false dst rest (.fn f caps) az env σ KK:=
 Be (AW.data h)
end
def Ry{S:Sto}{i:Nat}(hi:i<S.length)(es:Nat)(xs:List D):Ds [i] S [.arr es xs]=S.set i (.arr es xs):=by
 apply HY
 ·simp[Ds]
 intro j h1 h2;simp only[Ds,CT,C6,FA,Gb,BW,R9] at h1;refine bJ ?_;by_cases e:i=j
 ·subst e;have:Bn [i] i=some 0:=by simp[Bn]
  rw[this,AD rfl];rfl
 exact bu
def QH{n:Nat}{all:Array Oper}{rest:List Oper}{KK:Env->Sto->Prop}{env:Env}{S:Sto}{f:FuncId}{az caps:List AV}{dst:Option Tmp}{Q:AV->Sto->Prop}{es:Nat}{xs:List D}(i:Nat)(hi:i<S.length)(hb:A1 S i=.arr es xs)
  (h:AW P Gl f ((az++caps).map (BJ [i] S)) [.arr es xs] Q)
  (h2:∀r s,Q r s->Ab P Gl n all false rest (AJ env dst (BK (Cq [i] S.length) r)) (Ds [i] S s) KK):FT P Gl n all false dst rest (.fn f caps) az env S KK:=by
 have e:C1 [i] S=[.arr es xs]:=by simp[C1,hb,Ca]
 refine Be ((AW.under [i] A6 Lj TP).mono λr s hr=>?_);obtain⟨r0,s0,h3,rfl,rfl⟩:=hr;exact h2 _ _ h3
def dZ(i N o k:Nat):BK (Cq [i] N) (.A8 0 o k)=.A8 i o k:=rfl
def SH(b:Nat->Nat):BK b (.Aj [])=.Aj []:=rfl
def vC(S:Sto)(t:TypeId)(len:Nat)(parts:List (Nat×AV)):Qe P S t len parts=(match B_ P t with
 | some e=>match tsz P e,D_ P e,Bj P e with
  | some es,some _,some z=>0<es/\z.cells.size=es/\0<len/\len*es<=16777216/\∀p∈parts,p.1<len/\p.2.Db S=true/\(p.2.A5 S).cells.length=es
  | _,_,_=>False
 | none=>False):=by unfold Qe;rfl
def Q11(S:Sto)(t:TypeId)(len:Nat)(parts:List (Nat×AV)):Qv P S t len parts=(match B_ P t with
 | some e=>match D_ P e with
  | some x=>Js (List.replicate len x) (parts.map λp=>(p.1,p.2.A5 S))
  | none=>[]
 | none=>[]):=by unfold Qv;rfl
def wL{α:Type}(l:List α)(i:Nat)(x d:α)(h:i<l.length):(l.set i x).getD i d=x:=Lh
def HQ{α β:Type}(f:α->β)(l:List α):(l.map f).take l.length=l.map f:=Bi A6
def rI{n:Nat}{all:Array Oper}{rest:List Oper}{KK:Env->Sto->Prop}{env:Env}{S σ':Sto}{f:FuncId}{az az' caps:List AV}{v:AV}{dst:Option Tmp}(h:AT P Gl f az' v)(e1:(az++caps).map (IC S)=az')(e2:freezeL S ((az++caps).flatMap (KM S))=σ')
  (h2:Ab P Gl n all false rest (AJ env dst v) σ' KK):FT P Gl n all false dst rest (.fn f caps) az env S KK:=Qfv (by rw[e1];exact h) (by rw[e2];exact h2)
def Uo(i o k:Nat)(S:Sto)(h:(A1 S i).AY=true):IC S (.A8 i o k)=.d (.sl (((A1 S i).xs.drop o).take k)):=by simp[IC,AV.Db,EH,h,AV.A5,Cv]
def si(i o k:Nat)(S:Sto)(h:(A1 S i).AY=true):KM S (.A8 i o k)=[i]:=by simp[KM,AV.Db,EH,h,AV.refs,HE]
def Ir(g:Int->Option Nat):Aw->Option AV
 | .i n=>(g n).map λi=>.d (.int .i64 (i:Nat))
 | _=>none
def Aa(g:Int->Option Nat)(n:Int)(v:Option Nat):Int->Option Nat:=λm=>if m=n then v else g m
def kH:(λ_=>none)=Ir λ_=>none:=by funext k;cases k<;>rfl
def Q1y(g:Int->Option Nat)(n:Int)(i:Nat):BO (Ir g) (.i n) (.d (.int .i64 i))=Ir (Aa g n (some i)):=by
 funext k;cases k with
 | i m=>
  unfold BO Aa Ir;by_cases e:m=n
  ·subst e;simp
  simp[e]
 | _=>simp[BO,Ir]
def Q1z(g:Int->Option Nat)(n:Int):Kl (Ir g) (.i n)=Ir (Aa g n none):=by
 funext k;cases k with
 | i m=>
  unfold Kl Aa Ir;by_cases e:m=n
  ·subst e;simp
  simp[e]
 | _=>simp[Kl,Ir]
def Qa7(g:Int->Option Nat)(G:List Nat)(S:Sto):(λk=>(Ir g k).map (BJ G S))=Ir g:=by
 funext k;cases k with
 | i m=>
  unfold Ir;simp only[Option.map_map];rfl
 | _=>rfl
def Bav:(∀P S t len(parts:List (Nat×AV)),PH P S t len parts=freezeL S (parts.flatMap λp=>p.2.refs)++[.arr (D2 P t) (Qv P S t len parts)])/\(∀xs,Js xs []=xs)/\(∀(xs:List D)i x r,Js xs ((i,x)::r)=Js (xs.set i x) r)/\(∀(x:D),List.replicate 0 x=[])/\(∀(n:Nat)(x:D),List.replicate (n+1) x=x::List.replicate n x)/\(∀(α:Type)(f:Nat->α),List.map f (List.range 2)=[f 0,f 1])/\(∀(α:Type)(f:Nat->α),List.map f (List.range 3)=[f 0,f 1,f 2])/\(∀(α:Type)(f:Nat->α),List.map f (List.range 4)=[f 0,f 1,f 2,f 3])/\(∀(α:Type)(f:Nat->α),List.map f (List.range 7)=[f 0,f 1,f 2,f 3,f 4,f 5,f 6])/\(∀(α:Type)(f:Nat->α),List.map f (List.range 8)=[f 0,f 1,f 2,f 3,f 4,f 5,f 6,f 7])/\(∀(α:Type)(f:Nat->α),List.map f (List.range 10)=[f 0,f 1,f 2,f 3,f 4,f 5,f 6,f 7,f 8,f 9])/\(∀(α:Type)(f:Nat->α),List.map f (List.range 11)=[f 0,f 1,f 2,f 3,f 4,f 5,f 6,f 7,f 8,f 9,f 10])/\(∀(g:Int->Option Nat)(n:Int),Ir g (.i n)=(g n).map λi=>.d (.int .i64 (i:Nat)))/\(∀(G:List Nat)(S:Sto),C1 G S=G.map λid=>Ca G S (A1 S id))/\(∀G S es xs,Ca G S (.arr es xs)=.arr es xs)/\(∀(α:Type),(none:Option α).isSome=false):=Et
def DX:=aI (aI (aI @Ry @dZ) (aI @SH @vC)) (aI (aI @Q11 Bav) (aI @Q1y (aI @Q1z @Qa7)))
end Go.AM


namespace Go.AM
variable {P:Program} {Gl:BM}
def KZ(es:Nat)(xs:List D)(B:Blk):Prop:=B=.arr es xs\/B=.BS es xs
def iL{S:Sto}{i:Nat}(hi:i<S.length){es:Nat}{xs:List D}{B:Blk}(hB:KZ es xs B):Ds [i] S [B]=S.set i B:=by
 have hb:∀b,Cc b B=B:=λb=>by rcases hB with rfl|rfl<;>rfl
 apply HY
 ·simp[Ds]
 intro j h1 h2;simp only[Ds,CT,C6,FA,Gb,BW,R9] at h1;refine bJ ?_;by_cases e:i=j
 ·subst e;have:Bn [i] i=some 0:=by simp[Bn]
  rw[this,AD rfl];exact hb _
 exact bu
def Uc{n:Nat}{all:Array Oper}{draw:Bool}{rest:List Oper}{KK:Env->Sto->Prop}{env:Env}{S:Sto}{f:FuncId}{az az' caps:List AV}{dst:Option Tmp}{es:Nat}{xs:List D}{v:D}(i:Nat)
  (h:∀B,KZ es xs B->AW P Gl f az' [B] (λr s=>r=.d v/\s=[B])) (e:∀s,(az++caps).map (BJ [i] s)=az') (hb:A1 S i=.arr es xs)
  (h2:Ab P Gl n all draw rest (AJ env dst (.d v)) S KK):FT P Gl n all draw dst rest (.fn f caps) az env S KK:=by
 have main:∀s,Ext S s->AW P Gl f (az++caps) s (λr σ'=>r=.d v/\σ'=s):=λs hs=>by
  have hB:KZ es xs (A1 s i):=by
   exact oC
  have hil:i<s.length:=by
   exact oc
  have er:C1 [i] s=[A1 s i]:=by
   exact oP
  refine(AW.under (P:=P) (Gl:=Gl) [i] A6 (by simpa using hil) (by rw[er,e];exact h _ hB)).mono λr s' hr=>?_;obtain⟨r0,s0,⟨rfl,rfl⟩,rfl,rfl⟩:=hr;refine⟨rfl,?_⟩;rw[iL hil hB];apply HY
  ·simp
  intro j h1 h2;rw[R6];split
  ·subst_vars;unfold A1;simp[hil]
  rfl
 unfold FT;cases draw with
 | true=>exact .inl ⟨.d v,main,h2⟩
 | false=>
  exact nM
end Go.AM


namespace Go.AM
variable {P:Program} {Gl:BM}
inductive Rd(σ:Sto):AV->D->Prop
 | d (x:D):Rd σ (.d x) x
 | AA:Rd σ .AA (.sl [])
 | A8 {i o k es:Nat} {xs:List D} (h:A1 σ i=.BS es xs) {x:D} (e:x=.sl ((xs.drop o).take k)):Rd σ (.A8 i o k) x
inductive RdL(σ:Sto):List AV->List D->Prop
 | nil:RdL σ [] []
 | cons {u:AV} {x:D} {r:List AV} {s:List D} (h:Rd σ u x) (t:RdL σ r s):RdL σ (u::r) (x::s)
section
variable {n:Nat} {all:Array Oper} {draw:Bool} {rest:List Oper} {KK:Env->Sto->Prop} {env:Env} {σ:Sto} {f:FuncId} {az:List AV} {xs:List D} {v:AV} {dst:Option Tmp} {g:Bool}
end
end Go.AM


namespace Go.AM
section
variable {α:Type} [Inhabited α] {lt:α->α->Bool}
def dx{x y:List α}{b:α}(hx:∀a∈x,lt b a=false)(hy:∀a∈y,lt b a=true):∀j,j<=y.length->putAt lt (x++y) b (x.length+j)=x.length
 | 0,_=>by
  rcases O3 x.length with h|h
  ·rw[h];rfl
  obtain⟨n,hn⟩:∃n,x.length=n+1:=⟨x.length-1,oo⟩;have hg:(x++y).getD n default∈x:=by
   have:(x++y).getD n default=x[n]' oo:=by
    rw[B5,Ec oo,BP oo];rfl
   rw[this];exact FZ _
  rw[Gb,hn,putAt,hx _ hg];simp
 | j+1,h=>by
  have hg:(x++y).getD (x.length+j) default∈y:=by
   have:(x++y).getD (x.length+j) default=y[j]' oo:=by
    rw[B5,G2 oo,EB,BP oo];rfl
   rw[this];exact FZ _
  rw[show x.length+(j+1)=(x.length+j)+1 by omega,putAt,AD (hy _ hg)];exact dx hx hy j oo
def dI{x y:List α}{b:α}(hx:∀a∈x,lt b a=false)(hy:∀a∈y,lt b a=true):G6 lt (x++y) b=x++b::y:=by
 have:=dx hx hy y.length (AR _);unfold G6;rw[Bb,this,aJ,List.drop_left]
def zR(lt:α->α->Bool)(l:List α)(b:α):(G6 lt l b).Perm (b::l):=by
 unfold G6;refine List.perm_middle.trans ?_;rw[Lf]
def LL(lt:α->α->Bool)(l:List α):(DZ lt l).Perm l:=by
 have gen:∀(l a:List α),(l.foldl (G6 lt) a).Perm (a++l):=by
  intro l
  induction l with
  | nil=>intro a;simp
  | cons x l ih=>
   intro a;rw[GQ];refine(ih _).trans ?_;refine((zR lt a x).append_right l).trans ?_;rw[O7];exact List.perm_middle.symm
 simpa[DZ] using gen l []
end
section
variable {α:Type} [Inhabited α]
variable {key:α->Int}
end
end Go.AM


namespace Go.AM
variable {P:Program} {Gl:BM}
def Blk.still:Blk->Prop
 | .box _ (.d _)=>True
 | .map _ f=>∀k v,f k=some v->∃d,v=.d d
 | _=>False
def eE{B:Blk}(h:B.still):B.AP=false:=by cases B<;>simp_all [Blk.still,Blk.AP]
def qJ{B:Blk}(h:B.still):B.frozen=B:=by cases B<;>simp_all [Blk.still,Blk.frozen]
def iC{g:AV->AV}(hg:∀d,g (.d d)=.d d){f:Aw->Option AV}(h:∀k v,f k=some v->∃d,v=.d d):(λk=>(f k).map g)=f:=by
 funext k;cases e:f k with
 | none=>rfl
 | some v=>obtain⟨d,rfl⟩:=h k v e;simp[hg]
def c_{B:Blk}(h:B.still)(G:List Nat)(S:Sto):Ca G S B=B:=by
 cases B with
 | box n v=>cases v<;>simp_all [Blk.still,Ca,BJ,DJ]
 | map ik f=>simp only[Ca];rw[iC (λd=>Pg) h]
 | _=>exact h.elim
def dQ{B:Blk}(h:B.still)(b:Nat->Nat):Cc b B=B:=by
 cases B with
 | box n v=>cases v<;>simp_all [Blk.still,Cc,BK]
 | map ik f=>simp only[Cc];rw[iC (λd=>by simp[BK]) h]
 | _=>exact h.elim
def ra{S:Sto}{i:Nat}(hi:i<S.length){B:Blk}(hB:B.still):Ds [i] S [B]=S.set i B:=by
 apply HY
 ·simp[Ds]
 intro j h1 h2;simp only[Ds,CT,C6,FA,Gb,BW,R9] at h1;refine bJ ?_;by_cases e:i=j
 ·subst e;have:Bn [i] i=some 0:=by simp[Bn]
  rw[this,AD rfl];exact dQ hB _
 exact bu
def kZ{S:Sto}{f:FuncId}{az az':List AV}{B:Blk}{v:D}(i:Nat)(hB:B.still)(hb:A1 S i=B)
  (h:AW P Gl f az' [B] (λr s=>r=.d v/\s=[B])) (e:∀s,az.map (BJ [i] s)=az'):∀s,Ext S s->AW P Gl f az s (λr σ'=>r=.d v/\σ'=s):=λs hs=>by
 have hB':A1 s i=B:=by
  rcases hs.2 i with h1|h1|h1
  ·rw[hb,eE hB] at h1;cases h1
  ·rw[h1,hb]
  rw[h1,hb,qJ hB]
 have hil:i<s.length:=by
  rcases B9 i s.length with h'|h'
  ·exact h'
  exfalso;have:A1 s i=.dead:=Vz;have h2:=eE hB;rw[<-hB',this] at h2;cases h2
 have er:C1 [i] s=[B]:=by simp only[C1,Ci,E9];rw[hB',c_ hB]
 refine(AW.under (P:=P) (Gl:=Gl) [i] A6 (by simpa using hil) (by rw[er,e];exact h)).mono λr s' hr=>?_;obtain⟨r0,s0,⟨rfl,rfl⟩,rfl,rfl⟩:=hr;refine⟨rfl,?_⟩;rw[ra hil hB];apply HY
 ·simp
 intro j h1 h2;rw[R6];split
 ·rename_i e2;subst e2;rw[<-hB'];unfold A1;simp[hil]
 rfl
def LK{n:Nat}{all:Array Oper}{draw:Bool}{rest:List Oper}{KK:Env->Sto->Prop}{env:Env}{S:Sto}{f:FuncId}{az az' caps:List AV}{dst:Option Tmp}{B:Blk}{v:D}(i:Nat)
  (h:AW P Gl f az' [B] (λr s=>r=.d v/\s=[B])) (e:∀s,(az++caps).map (BJ [i] s)=az') (hb:A1 S i=B) (hB:B.still)
  (h2:Ab P Gl n all draw rest (AJ env dst (.d v)) S KK):FT P Gl n all draw dst rest (.fn f caps) az env S KK:=by
 have main:=kZ (Gl:=Gl) i hB hb h e;unfold FT;cases draw with
 | true=>exact .inl ⟨.d v,main,h2⟩
 | false=>
  exact nM
def SD{n:Nat}{all:Array Oper}{draw:Bool}{rest:List Oper}{KK:Env->Sto->Prop}{env:Env}{S:Sto}{f:FuncId}{az az' caps:List AV}{dst:Option Tmp}{B:Blk}{v:D}{g:Bool}(i:Nat)
  (h:AW P Gl f az' [B] (λr s=>r=.d v/\s=[B])) (e:∀s,(az++caps).map (BJ [i] s)=az') (hb:A1 S i=B) (hB:B.still)
  (h2:Ab P Gl n all draw rest (AJ env dst (.iff g (.d v))) S KK):L9 P Gl n all draw dst rest g (.fn f caps) az env S KK:=
 ⟨.d v,λ_=>kZ (Gl:=Gl) i hB hb h e,h2⟩
def yf{f:FuncId}{args:List D}{B:Blk}{r:AV}(hB:B.still)(h:AW P Gl f (args.map AV.d) [] (λr' s=>r'=r/\s=[B]))(S:Sto):
  AW P Gl f (args.map AV.d) S (λr' s=>r'=BK (Cq [] S.length) r/\s=S++[B]):=by
 have e:(args.map AV.d).map (BJ [] S)=args.map AV.d:=Pg;have h1:=AW.under (P:=P) (Gl:=Gl) (f:=f) (args:=args.map AV.d) (σ:=S) [] Ht A6 TP;refine h1.mono λr1 s' h2=>?_;obtain⟨r0,s0,⟨h1,h2⟩,h3,h4⟩:=h2;subst h1;subst h2;subst h3;subst h4;refine⟨rfl,?_⟩;apply HY
 ·simp[Ds]
 intro i h1 h2;simp only[Ds,H9,MW];have:Bn [] i=none:=rfl;rw[this];simp only[C6,EU];by_cases hi:i<S.length
 ·exact mZ
 simp[Ds] at h1;have:i=S.length:=oo;subst this;rw[A7 oo,O6 oo];simp[A1,dQ hB]
def Qff{n:Nat}{all:Array Oper}{draw:Bool}{rest:List Oper}{KK:Env->Sto->Prop}{env:Env}{S:Sto}{dst:Option Tmp}{ty:TypeId}{pos:String}{af:Array Edge}(f:FuncId)(l:List Operand){j:Nat}{b:Bool}:Ab P Gl n all draw (⟨dst,.makeFunc (.func f) #[] l.toArray,ty,pos,af,some (j,b)⟩::rest) env S KK=(C8 n dst=true/\FH (BV all env j)=true/\gdL Gl env (C3 (BV all env j) b) l /\
  Ab P Gl n all draw rest (AJ env dst (.iff (C3 (BV all env j) b) (.fn f (l.map (evU Gl env))))) S KK):=by
 simp[Ab,Ch,Ez,Op.operands,BE,opV,F5,Ea]
def HS{ik:Option IntKind}{f:Aw->Option AV}(h:∀k v,f k=some v->∃d,v=.d d)(rest:Sto):C1 [0] (freezeL (.map ik f::rest) [])=[.map ik f]:=by
 show[Ca [0] _ (.map ik f)]=_;rw[c_ (B:=.map ik f) h]
def XG{f:Aw->Option AV}(h:∀k v,f k=some v->∃d,v=.d d)(k:Aw)(z:D):∃d,(f k).getD (.d z)=.d d:=by
 cases e:f k with
 | none=>exact⟨z,rfl⟩
 | some v=>obtain⟨d,rfl⟩:=h k v e;exact⟨d,rfl⟩
def tx{S:Sto}{f:FuncId}{az az':List AV}{es:Nat}{xs:List D}{v:D}(i:Nat)
  (h:∀B,KZ es xs B->AW P Gl f az' [B] (λr s=>r=.d v/\s=[B])) (e:∀s,az.map (BJ [i] s)=az') (hb:A1 S i=.arr es xs):∀s,Ext S s->AW P Gl f az s (λr σ'=>r=.d v/\σ'=s):=λs hs=>by
 have hB:KZ es xs (A1 s i):=by
  exact oC
 have hil:i<s.length:=by
  exact oc
 have er:C1 [i] s=[A1 s i]:=by
  exact oP
 refine(AW.under (P:=P) (Gl:=Gl) [i] A6 (by simpa using hil) (by rw[er,e];exact h _ hB)).mono λr s' hr=>?_;obtain⟨r0,s0,⟨rfl,rfl⟩,rfl,rfl⟩:=hr;refine⟨rfl,?_⟩;rw[iL hil hB];apply HY
 ·simp
 intro j h1 h2;rw[R6];split
 ·subst_vars;unfold A1;simp[hil]
 rfl
def yF{n:Nat}{all:Array Oper}{draw:Bool}{rest:List Oper}{KK:Env->Sto->Prop}{env:Env}{S:Sto}{f:FuncId}{az az' caps:List AV}{dst:Option Tmp}{es:Nat}{xs:List D}{v:D}{g:Bool}(i:Nat)
  (h:∀B,KZ es xs B->AW P Gl f az' [B] (λr s=>r=.d v/\s=[B])) (e:∀s,(az++caps).map (BJ [i] s)=az') (hb:A1 S i=.arr es xs)
  (h2:Ab P Gl n all draw rest (AJ env dst (.iff g (.d v))) S KK):L9 P Gl n all draw dst rest g (.fn f caps) az env S KK:=
 ⟨.d v,λ_=>tx (Gl:=Gl) i h e hb,h2⟩
def Xs{m:Nat}{S:Sto}{u:AV}{y:D}(hd:u.Db S=true):Bg m (.Aj [u,.d y]) S (.Aj [.d (u.A5 S),.d y]) (freezeL S u.refs):=λw I L v h1 h2 h3=>by
 cases h2 with
 | Aj vs cs hl h=>
  match vs,hl with
  | [v0,v1],_=>
   have a0:=h 0 v0 u rfl rfl;have a1:=h 1 v1 (.d y) rfl rfl;obtain⟨I',b1,b2,b3,_⟩:=U6 h1 a0 hd;refine⟨I',L,b1,.Aj [v0,v1] _ rfl ?_,b2.mono h3⟩;intro i v x hv hx
   match i with
   | 0=>simp at hv hx;subst hv;subst hx;exact .d _ _ b3
   | 1=>simp at hv hx;subst hv;subst hx;exact a1.AH b2
   | i+2=>simp at hv
def Ot{S:Sto}{u:AV}{x y:D}(hd:u.Db S=true)(hx:u.A5 S=x):Bg 0 (.Aj [u,.d y]) S (.Aj [.d x,.d y]) []:=by
 subst hx;exact(Xs hd).trans KY
end Go.AM


namespace Go.AM
def VH:∀x:List UInt8,Op.bytesLess x x=false
 | []=>rfl
 | a::x=>by rw[Op.bytesLess,VH x];simp
def UB:∀{x y z:List UInt8},Op.bytesLess x y=true->Op.bytesLess y z=true->Op.bytesLess x z=true
 | [],[],z,h,_=>RV
 | [],b::y,[],_,h=>RV
 | [],b::y,c::z,_,_=>by simp[Op.bytesLess]
 | a::x,[],z,h,_=>RV
 | a::x,b::y,[],_,h=>RV
 | a::x,b::y,c::z,h1,h2=>by
  have ih:=@UB x y z;simp only[Op.bytesLess,Gc,CZ,C5,GR] at h1 h2 ⊢;rcases h1 with h1|⟨rfl,h1⟩
  ·rcases h2 with h2|⟨rfl,h2⟩
   ·exact .inl (UInt8.lt_trans h1 h2)
   exact .inl h1
  rcases h2 with h2|⟨rfl,h2⟩
  ·exact .inl h2
  exact .inr ⟨rfl,ih h1 h2⟩
def kO:∀{x y:List UInt8},Op.bytesLess x y=false->Op.bytesLess y x=false->x=y
 | [],[],_,_=>rfl
 | [],b::y,h,_=>RV
 | a::x,[],_,h=>RV
 | a::x,b::y,h1,h2=>by
  have ih:=@kO x y;simp only[Op.bytesLess,JY,GG,RF,T6] at h1 h2;have e:a=b:=by
   have p:=h1.1;have q:=h2.1;rw[UInt8.not_lt] at p q;exact UInt8.le_antisymm q p
  subst e;have h1':Op.bytesLess x y=false:=h1.2.elim (λh=>absurd rfl h) id;have h2':Op.bytesLess y x=false:=h2.2.elim (λh=>absurd rfl h) id;rw[ih h1' h2']
def vc{x y:List UInt8}(h:Op.bytesLess x y=true):Op.bytesLess y x=false:=by
 rw[F_];intro h2;have:=UB h h2;rw[VH] at this;cases this
def ke{x y:List UInt8}(h:Op.bytesLess x y=true):x≠y:=λe=>by subst e;rw[VH] at h;cases h
def vd(x y:List UInt8):(Op.bytesLess x y=true/\x≠y/\Op.bytesLess y x=false)\/(Op.bytesLess x y=false/\x=y/\Op.bytesLess y x=false)\/(Op.bytesLess x y=false/\x≠y/\Op.bytesLess y x=true):=by
 cases h1:Op.bytesLess x y with
 | true=>exact .inl ⟨rfl,ke h1,vc h1⟩
 | false=>
  cases h2:Op.bytesLess y x with
  | true=>exact .inr (.inr ⟨rfl,λe=>ke h2 e.symm,rfl⟩)
  | false=>exact .inr (.inl ⟨rfl,kO h1 h2,rfl⟩)
end Go.AM


namespace Go.AM
variable {P:Program} {Gl:BM}
def fY(env:Env):∀(l:Env) (t:Nat),Bl (l.map λp=>(p.1,Bl env p.1)) t=Bl env t\/Bl (l.map λp=>(p.1,Bl env p.1)) t=.undef
 | [],t=>.inr rfl
 | p::r,t=>by
  simp only[Ci,Bl];by_cases e:p.1=t
  ·left;rw[AD e,e]
  rw[A7 e];exact fY env r t
def AU{n m:Nat}{env e':Env}{S:Sto}(he:(e'.map λp=>(p.1,Bl env p.1))=e'):Bc n m env S e' S:=λw I L a h1 h2 h3=>by
 refine⟨I,L,h1,⟨h2.defers,h2.size,λt=>?_⟩,Ay.refl _ _ _ _ h3⟩;rw[<-he];rcases fY env e' t with e|e
 ·rw[e];exact h2.slot t
 rw[e];exact .undef _
def NH{n:Nat}{all:Array Oper}{draw:Bool}{rest:List Oper}{KK:Env->Sto->Prop}{env:Env}{S:Sto}{f:FuncId}{az caps:List AV}{v:AV}{dst:Option Tmp}
  (h:∀s,Ext S s->AW P Gl f (az++caps) s (λr s'=>r=v/\s'=s)) (h2:Ab P Gl n all draw rest (AJ env dst v) S KK):FT P Gl n all draw dst rest (.fn f caps) az env S KK:=by
 cases draw with
 | true=>exact .inl ⟨v,h,h2⟩
 | false=>
  refine(h S (Ext.refl S)).mono λr s ⟨e1,e2⟩=>?_;subst e1;subst e2;exact h2
def S7{n:Nat}{all:Array Oper}{draw:Bool}{rest:List Oper}{KK:Env->Sto->Prop}{env:Env}{S:Sto}{f:FuncId}{az caps:List AV}{v:AV}{dst:Option Tmp}{g:Bool}
  (h:g=true->∀s,Ext S s->AW P Gl f (az++caps) s (λr s'=>r=v/\s'=s)) (h2:Ab P Gl n all draw rest (AJ env dst (.iff g v)) S KK):L9 P Gl n all draw dst rest g (.fn f caps) az env S KK:=
 ⟨v,h,h2⟩
def El0(es:Nat)(x:D):Prop:=x.isAgg=false/\x.cells.length=es
def El0.at{Dm:D->Prop}{es:Nat}(hD:∀x,Dm x->El0 es x){ys:List D}(h:∀y∈ys,Dm y){i:Nat}(hi:i<ys.length):(ys.getD i default).isAgg=false/\(ys.getD i default).cells.length=es:=by
 exact b_
end Go.AM


namespace Go.AM
variable {P:Program} {Gl:BM} {w:World} {I:Im} {μ:Pos} {σ:Sto}
def uc(σ:Sto)(id i:Nat)(B:Blk)(h1:B.B7=(A1 σ id).B7)(h2:B.es=(A1 σ id).es)(h3:B.xs=(A1 σ id).xs)(h4:B.AP=(A1 σ id).AP)(hid:id<σ.length):
  (A1 (σ.set id B) i).B7=(A1 σ i).B7/\(A1 (σ.set id B) i).es=(A1 σ i).es/\(A1 (σ.set id B) i).xs=(A1 σ i).xs/\(A1 (σ.set id B) i).AP=(A1 σ i).AP:=by
 by_cases e:id=i
 ·subst e;rw[BX hid];exact⟨h1,h2,h3,h4⟩
 rw[As e];exact⟨rfl,rfl,rfl,rfl⟩
def Rel.rebox(h:Rel w I μ σ){id n:Nat}{v v':AV}(hb:A1 σ id=.box n v)(hid:id<σ.length)(hn:v'.AO=n)
  (hc:∀j,j<n->(v'.cellAt j).one=true/\∀u,AL w I μ σ u (v.cellAt j)->AL w I μ σ u (v'.cellAt j)) :
  Rel w I μ (σ.set id (.box n v'))/\Ay σ.length w I μ σ w I μ (σ.set id (.box n v')):=by
 have hs:=λi=>uc σ id i (.box n v') RU RU RU RU hid;have k:Ay σ.length w I μ σ w I μ (σ.set id (.box n v')):=
  ⟨rfl,rfl,rfl,AR _,λ_ h=>h,λ_ h=>h,λ_ h=>.inl h,λ_ _=>rfl,λ_=>AR _,A6,λi hi ha=>by
   obtain⟨a1,a2,a3,a4⟩:=hs i
   refine⟨by unfold Br at ha ⊢;rw[<-a4];exact ha,rfl,a1,a2,by rw[a3];exact AR _⟩⟩
 refine⟨⟨h.Bs,λi hi=>?_,λi j b b' o o' hij hi hj h1 h2=>?_⟩,k⟩
 ·rw[BH] at hi;by_cases e:id=i
  ·subst e;rw[BX hid];have hB:=h.D6 id hid;rw[hb] at hB;obtain⟨b,base,q1,q2,q3,q4,q5,q6⟩:=hB;refine⟨b,base,q1,q2,q3,q4,hn,λj hj=>?_⟩;obtain⟨r1,u,r2,r3⟩:=q6 j hj;obtain⟨s1,s2⟩:=hc j hj;exact⟨s1,u,r2,(s2 u r3).AH k⟩
  exact nQ
 have ow:∀i,(A1 (σ.set id (.box n v')) i).own=true->(A1 σ i).own=true:=λi hi=>by
  by_cases e:id=i
  ·subst e;rw[hb];rfl
  rwa [As e] at hi
 exact h.apart i j b b' o o' hij (ow i hi) (ow j hj) h1 h2
def QV{n m:Nat}{env:Env}(id es k:Nat){N:Nat}{cs:List AV}(hm:m<=σ.length)(hb:A1 σ id=.box N (.agg cs))(hk:cs.getD k .undef=.AA)(hkl:k<cs.length)(hid:id<σ.length):
  Bc n m env σ env ((σ++[Blk.arr es []]).set id (.box N (.agg (cs.set k (.A8 σ.length 0 0))))):=λw I μ a h1 h2 h3=>by
 obtain⟨μ',a1,a2⟩:=h1.Em es;have hb':A1 (σ++[Blk.arr es []]) id=.box N (.agg cs):=by rw[BB hid];exact hb
 have hB:=h1.D6 id hid;rw[hb] at hB;obtain⟨b,base,q1,q2,q3,q4,q5,q6⟩:=hB;obtain⟨r1,r2⟩:=a1.rebox (v':=.agg (cs.set k (.A8 σ.length 0 0))) hb' Ap (by rw[<-q5];simp[AV.AO]) (λj hj=>by
  show((cs.set k (.A8 σ.length 0 0)).getD j .undef).one=true/\∀u,AL w I μ' _ u (cs.getD j .undef)->AL w I μ' _ u ((cs.set k (.A8 σ.length 0 0)).getD j .undef)
  by_cases e:k=j
  ·subst e
   have e1:(cs.set k (AV.A8 σ.length 0 0)).getD k .undef=.A8 σ.length 0 0:=by simp[hkl]
   rw[e1,hk]
   refine⟨rfl,λu hu=>?_⟩
   cases hu
   exact .A8 _ _ 0 0 A6 (.inl ⟨rfl,none,rfl⟩)
  have e1:(cs.set k (AV.A8 σ.length 0 0)).getD j .undef=cs.getD j .undef:=by simp[B5,IX e]
  rw[e1]
  exact⟨(q6 j hj).1,λu hu=>hu⟩)
 refine⟨I,μ',r1,?_,?_⟩
 ·have k2:=a2.trans (show Ay σ.length w I μ' (σ++[.arr es []]) w I μ' _ from⟨r2.os,r2.tape,r2.output,r2.size,r2.Bs,r2.fr,r2.KF,r2.same,r2.bsize,A6,λi hi=>r2.BD i Ap⟩);exact h2.AH k2
 have k2:=a2.trans (show Ay σ.length w I μ' (σ++[.arr es []]) w I μ' _ from⟨r2.os,r2.tape,r2.output,r2.size,r2.Bs,r2.fr,r2.KF,r2.same,r2.bsize,A6,λi hi=>r2.BD i Ap⟩);exact k2.mono h3
def sd{n m:Nat}{env:Env}(id:Nat):Bc n m env σ env (freeze σ id):=λw I μ a h1 h2 h3=>
 ⟨_,μ,h1.freeze id,h2.AH (Uq h1 id),(Uq h1 id).mono h3⟩
def AW.Cj{f:FuncId}{args:List AV}{σ':Sto}{R:AV->Sto->Prop}(h:Bc 0 σ.length [] σ [] σ')(hc:AW P Gl f args σ' R):AW P Gl f args σ R:=by
 intro w I μ vals hR hG hl hv;obtain⟨I',μ',r1,_,r3⟩:=h w I μ (⟨#[],[]⟩:Act) hR ⟨rfl,rfl,λt=>.undef _⟩ (AR _);refine(hc w I' μ' vals r1 (hG.AH r3) hl λi v u h1 h2=>(hv i v u h1 h2).AH r3).mono λv w' ⟨r,s,J,V,q1,q2,q3,q4⟩=>?_;exact⟨r,s,J,V,q1,r3.trans (q2.mono r3.len),q3,q4⟩
end Go.AM


namespace Go.AM
variable {P:Program} {Gl:BM} {w:World} {I:Im} {μ:Pos} {σ:Sto}
def Rel.relay(h:Rel w I μ σ){id:Nat}{b base:Nat}{B:Blk}(hid:id<σ.length)(hown:(A1 σ id).own=true)(hμ:μ id=some (b,base))
  (hB:Ft w I (F0 μ σ.length (b,base)) (σ.set id .dead++[B]) σ.length B):Rel w I (F0 μ σ.length (b,base)) (σ.set id .dead++[B])/\Ay σ.length w I μ σ w I (F0 μ σ.length (b,base)) (σ.set id .dead++[B]):=by
 have hl:(σ.set id .dead).length=σ.length:=BH ..;have hold:∀i,i<σ.length->i≠id->A1 (σ.set id .dead++[B]) i=A1 σ i:=λi hi hne=>by rw[BB (by rw[hl];exact hi),As (FX hne)]
 have hdead:A1 (σ.set id .dead++[B]) id=.dead:=by rw[BB (by rw[hl];exact hid),BX hid]
 have hnew:A1 (σ.set id .dead++[B]) σ.length=B:=by
  have:=Cd (σ:=σ.set id .dead) (B:=B)
  rwa [hl] at this
 have hpos:∀i,i<σ.length->F0 μ σ.length (b,base) i=μ i:=λi hi=>H8 _ _ oo;have k:Ay σ.length w I μ σ w I (F0 μ σ.length (b,base)) (σ.set id .dead++[B]):=
  ⟨rfl,rfl,rfl,AR _,λ_ h=>h,λ_ h=>h,λ_ h=>.inl h,λ_ _=>rfl,λ_=>AR _,A6,λi hi ha=>by
   by_cases e:i=id
   ·subst e
    unfold Br at ha
    rw[hdead] at ha;cases ha
   refine⟨by unfold Br at ha ⊢;rw[hold i hi e] at ha;exact ha,hpos i hi,?_,?_,?_⟩<;>rw[hold i hi e]
   exact AR _⟩
 refine⟨⟨h.Bs,λi hi=>?_,λi j b1 b2 o1 o2 hij hi hj h1 h2=>?_⟩,k⟩
 ·have hi':i<σ.length+1:=Lj;rcases B9 i σ.length with hlt|hge
  ·by_cases e:i=id
   ·subst e;rw[hdead];trivial
   rw[hold i hlt e];exact(h.D6 i hlt).AH k (hpos i hlt) λ_ _ _ _=>⟨rfl,λhn=>hn⟩
  have:i=σ.length:=oo;subst this;rw[hnew];exact hB
 have BD:∀i,(A1 (σ.set id .dead++[B]) i).own=true->i≠σ.length->i<σ.length/\i≠id/\(A1 σ i).own=true:=λi ho hne=>by
  have h3:=E2 ho;have h4:i<σ.length:=Vy;have h5:i≠id:=λe=>by subst e;rw[hdead] at ho;cases ho
  exact⟨h4,h5,by rw[hold i h4 h5] at ho;exact ho⟩
 by_cases ei:i=σ.length
 ·subst ei;have ej:j≠σ.length:=λe=>hij e.symm;obtain⟨q1,q2,q3⟩:=BD j hj ej;rw[Eh] at h1;simp only[BF,EO] at h1;rw[hpos j q1] at h2;rw[<-h1.1];exact h.apart id j b b2 base o2 (FX q2) hown q3 hμ h2
 obtain⟨q1,q2,q3⟩:=BD i hi ei;rw[hpos i q1] at h1;by_cases ej:j=σ.length
 ·subst ej;rw[Eh] at h2;simp only[BF,EO] at h2;rw[<-h2.1];exact h.apart i id b1 b o1 base q2 q3 hown h1 hμ
 obtain⟨r1,r2,r3⟩:=BD j hj ej;rw[hpos j r1] at h2;exact h.apart i j b1 b2 o1 o2 hij q3 r3 h1 h2
def Rel.Fq(h:Rel w I μ σ){id:Nat}{B:Blk}(hid:id<σ.length)(hown:(A1 σ id).own=true)(ha:B.B7=(A1 σ id).B7)(he:B.es=(A1 σ id).es)(hl:(A1 σ id).xs.length<=B.xs.length)(hd:B.AP=(A1 σ id).AP)
  (hB:∀{σ':Sto},Ay σ.length w I μ σ w I μ σ'->Ft w I μ σ' id B):Rel w I μ (σ.set id B)/\Ay σ.length w I μ σ w I μ (σ.set id B):=by
 have k:Ay σ.length w I μ σ w I μ (σ.set id B):=
  ⟨rfl,rfl,rfl,AR _,λ_ h=>h,λ_ h=>h,λ_ h=>.inl h,λ_ _=>rfl,λ_=>AR _,A6,λi hi hal=>by
   unfold Br at hal ⊢
   by_cases e:id=i
   ·subst e;rw[BX hid] at hal ⊢;exact⟨by rw[<-hd];exact hal,rfl,ha,he,hl⟩
   rw[As e] at hal ⊢;exact⟨hal,rfl,rfl,rfl,AR _⟩⟩
 refine⟨⟨h.Bs,λi hi=>?_,λi j b b' o o' hij hi hj h1 h2=>?_⟩,k⟩
 ·rw[BH] at hi;by_cases e:id=i
  ·subst e;rw[BX hid];exact hB k
  exact nQ
 have ow:∀i,(A1 (σ.set id B) i).own=true->(A1 σ i).own=true:=λi hi=>by
  by_cases e:id=i
  ·subst e;exact hown
  rwa [As e] at hi
 exact h.apart i j b b' o o' hij (ow i hi) (ow j hj) h1 h2
def Wf{es:Nat}:∀{xs:List D} (q:Nat),(∀x∈xs,x.cells.length=es)->0<es->(xs.flatMap D.cells)[q]? = (xs[q / es]?).bind λx=>x.cells[q % es]?
 | [],q,_,_=>A6
 | x::r,q,h,hes=>by
  rw[IU];have hx:=h x A6;by_cases hq:q<es
  ·exact nL
  rw[G2 oo,hx,Wf (q-es) (λy hy=>h y (Cy _ hy)) hes];have e1:q / es=(q-es) / es+1:=by rw[Nat.div_eq_sub_div hes oo]
  exact nn
def YG{es:Nat}:∀{xs:List D},(∀x∈xs,x.cells.length=es)->(xs.flatMap D.cells).length=xs.length*es
 | [],_=>A6
 | x::r,h=>by
  rw[IU,Bb,h x A6,YG λy hy=>h y (Cy _ hy),CT,E8];omega
def X9{n m:Nat}{env:Env}(id:Nat){es:Nat}{xs:List D}(hB:A1 σ id=.arr es xs)(hes:0<es)(hsz:∀x∈xs,x.cells.length=es):
  Bc n m env σ env (σ.set id (.var es ((xs.flatMap D.cells).map JO))):=λw I μ a h1 h2 h3=>by
 have hown:(A1 σ id).own=true:=ER;have hid:=E2 hown;have hlen:((xs.flatMap D.cells).map JO).length=xs.length*es:=by rw[BW,YG hsz]
 have hb:=h1.D6 id hid;rw[hB] at hb;obtain⟨r1,r2⟩:=h1.Fq (B:=.var es ((xs.flatMap D.cells).map JO)) hid hown ER ER (by
  rw[hB];simp only[Blk.xs,IY]
  rw[hlen,TH _ hes];exact AR _) ER (λ{σ'} k=>by
  refine⟨⟨hes,by rw[hlen,TH _ hes]⟩,?_⟩
  rcases hb with⟨h4,rfl⟩|⟨b,base,q1,q2,q3,q4,q5,q6,q7⟩
  ·exact .inl ⟨h4,rfl⟩
  refine .inr ⟨b,base,q1,q2,q3,by rw[hlen];exact q4,λj c hc=>?_⟩
  rw[DG,Wf j q5 hes] at hc
  cases hx:xs[j / es]? with
  | none=>rw[hx] at hc;cases hc
  | some x=>
   rw[hx] at hc
   simp only[Zz] at hc
   cases hy:x.cells[j % es]? with
   | none=>rw[hy] at hc;cases hc
   | some y=>
    rw[hy] at hc
    simp only[DF,BF] at hc
    subst hc
    obtain⟨v,hv1,hv2⟩:=q7 _ _ _ _ hx hy
    rw[G1,TF] at hv1
    obtain⟨o1,o2⟩:=gQ (μ:=μ) (σ:=σ') hv2 (q6 x (Dn hx) y (Dn hy))
    exact⟨o1,v,hv1,o2⟩)
 exact⟨I,μ,r1,h2.AH r2,r2.mono h3⟩
def Xg{n m:Nat}{env:Env}(id:Nat){es:Nat}{cs:List AV}(hB:A1 σ id=.var es cs)(hd:(AV.agg cs).Db σ=true):
  Bc n m env σ env ((freezeL σ (AV.agg cs).refs).set id (.var es (cs.map λc=>.d (Cv σ c)))):=λw I μ a h1 h2 h3=>by
 obtain⟨I',r1,r2,r3,r4,r5,r6,r7,r8⟩:=On h1 (AV.agg cs).refs;have hni:id∉(AV.agg cs).refs:=λhm=>by
  have:=SG hd id hm;rw[hB] at this;cases this
 obtain⟨hid,hal,hown,hes,hdiv,hcase⟩:=r1.varOf (id:=id) (es:=es) (cs:=cs) (by rw[r7 id hni];exact hB);obtain⟨s1,s2⟩:=r1.Fq (B:=.var es (cs.map λc=>.d (Cv σ c))) hid hown (by rw[r7 id hni,hB];rfl) (by rw[r7 id hni,hB];rfl) (by rw[r7 id hni,hB];simp[Blk.xs]) (by rw[r7 id hni,hB];rfl) (λ{σ'} k=>by
  refine⟨⟨hes,by simpa using hdiv⟩,?_⟩
  rcases hcase with⟨h4,rfl⟩|⟨b,base,q1,q2,q3,q4,q7⟩
  ·exact .inl ⟨h4,rfl⟩
  refine .inr ⟨b,base,q1,q2,q3,by simpa using q4,λj c hc=>?_⟩
  rw[DG] at hc
  cases hq:cs[j]? with
  | none=>rw[hq] at hc;cases hc
  | some c0=>
   rw[hq] at hc
   simp only[DF,BF] at hc
   subst hc
   obtain⟨t1,u,t2,t3⟩:=q7 j c0 hq
   refine⟨by show(Cv σ c0).one=true;exact X7 _ _ t1,u,t2,.d _ _ ?_⟩
   have hmem:=Dn hq
   have eD:Cv (freezeL σ (AV.agg cs).refs) c0=Cv σ c0:=by
    cases c0<;>simp[Cv,(λid=>(r5 id).1)]
   have hD1:EH σ c0=true:=EW.1 hd _ hmem
   have hD1':EH (freezeL σ (AV.agg cs).refs) c0=true:=by
    cases c0<;>simp_all [EH]
   rw[<-eD]
   refine QF r1 t3 hD1' λi hi=>?_
   have hir:i∈(AV.agg cs).refs:=HZ.2 ⟨_,hmem,hi⟩
   exact r4 i hir (SG hd i hir))
 rw[r3] at s2;exact⟨I',μ,s1,h2.AH (r2.trans s2),(r2.trans s2).mono h3⟩
def X8{n m:Nat}{env:Env}(id:Nat){es:Nat}{cs:List AV}{xs:List D}(hB:A1 σ id=.var es cs)(hc:cs=(xs.flatMap D.cells).map AV.d)(hsz:∀x∈xs,x.cells.length=es)(hfl:∀x∈xs,x.flat):
  Bc n m env σ env (σ.set id (.arr es xs)):=λw I μ a h1 h2 h3=>by
 obtain⟨hid,hal,hown,hes,hdiv,hcase⟩:=h1.varOf hB;have hlen:cs.length=xs.length*es:=by rw[hc,BW,YG hsz]
 obtain⟨r1,r2⟩:=h1.Fq (B:=.arr es xs) hid hown ER ER (by
  rw[hB];simp only[Blk.xs,IY]
  rw[hlen,TH _ hes];exact AR _) ER (λ{σ'} k=>by
  rcases hcase with⟨h4,h5⟩|⟨b,base,q1,q2,q3,q4,q7⟩
  ·refine .inl ⟨h4,?_⟩
   rw[h5] at hlen
   have h0:xs.length*es=0:=hlen.symm
   rcases Nat.mul_eq_zero.1 h0 with h|h
   ·exact G3 h
   omega
  refine .inr ⟨b,base,q1,q2,q3,by rw[<-hlen];exact q4,hsz,hfl,λi j x y hx hy=>?_⟩
  have hj:j<es:=by
   rw[<-hsz x (Dn hx)]
   exact Ti
  have e1:(i*es+j) / es=i:=by rw[T4,Nat.mul_add_div hes,TE hj,Gb]
  have e2:(i*es+j) % es=j:=lX
  have hcq:cs[i*es+j]? = some (.d y):=by
   rw[hc,DG,Wf _ hsz hes,e1,e2,hx]
   simp only[Zz,hy];rfl
  obtain⟨_,u,t2,t3⟩:=q7 _ _ hcq
  exact⟨u,by rw[G1];exact t2,t3.Ar⟩)
 exact⟨I,μ,r1,h2.AH r2,r2.mono h3⟩
end Go.AM


namespace Go.AM
variable {P:Program} {Gl:BM} {w:World} {I:Im} {μ:Pos} {σ:Sto}
def Qgo{m:Nat}(id k:Nat){es:Nat}{xs:List D}(hm:m<=σ.length)(hB:A1 σ id=.arr es xs)(hk:k<=xs.length)(hp:0<xs.length):
  Bg m (.A8 id 0 k) σ (.A8 σ.length 0 k) (σ.set id .dead++[.arr es (xs.take k)]):=λw I μ v h1 h2 h3=>by
 have hown:(A1 σ id).own=true:=ER;have hid:=E2 hown;have hal:Br σ id:=Mg;have hblk:=h1.D6 id hid;rw[hB] at hblk;rcases hblk with⟨_,e0⟩|⟨b,base,e1,e2,e3,e4,e5,e6,e7⟩
 ·rw[e0] at hp;cases hp
 have hm2:(xs.take k).length*es<=xs.length*es:=EC _ Pf;have harr:Ft w I (F0 μ σ.length (b,base)) (σ.set id .dead++[.arr es (xs.take k)]) σ.length (.arr es (xs.take k)):=by
  refine .inr ⟨b,base,Eh _ _ _,e2,e3,oo,λx hx=>e5 x (GS hx),λx hx=>e6 x (GS hx),λi j x y hx hy=>?_⟩;have hi:i<k:=by
   rcases B9 i k with h|h
   ·exact h
   rw[Bt Pf] at hx;cases hx
  rw[GH hi] at hx;exact e7 i j x y hx hy
 obtain⟨g1,g2⟩:=h1.relay hid hown e1 harr;refine⟨I,_,g1,?_,g2.mono hm⟩;have hnew:A1 (σ.set id .dead++[Blk.arr es (xs.take k)]) σ.length=.arr es (xs.take k):=by
  have:=Cd (σ:=σ.set id .dead) (B:=.arr es (xs.take k))
  rwa [BH] at this
 cases h2 with
 | A8 _ _ _ _ _ hh=>
 rcases hh with⟨h0,a,rfl⟩|⟨b',base',es',cap,q1,q2,rfl⟩
 ·exact .A8 _ _ _ _ A6 (.inl ⟨h0,a,rfl⟩)
 obtain⟨r1,r2,r3,r4,r5⟩:=q1 hal;rw[e1] at r1;simp only[BF,EO] at r1;obtain⟨rfl,rfl⟩:=r1;rw[hB] at r3 r4;refine .A8 _ _ _ _ A6 (.inr ⟨b,base,es',cap,λ_=>⟨Eh _ _ _,by rw[hnew];rfl,by rw[hnew];exact r3,?_,r5⟩,q2,rfl⟩);rw[hnew];show 0+k<=(xs.take k).length;rw[GU];omega
def xu{G:List Nat}{T V:Sto}(hlt:∀id∈G,id<σ.length)(hτ:T.length=G.length)(hk:∀j i,G[j]? = some i->Cc (Cq G σ.length) (A1 T j)=A1 σ i):
  Ds G σ (T++V)=σ++V.map (Cc (Cq G σ.length)):=by
 apply HY
 ·simp[Ds,hτ]
 intro k h1 h2;simp only[Ds,H9,MW];cases e:Bn G k with
 | some j=>
  have e2:=MF e;have hj:j<G.length:=by
   rcases B9 j G.length with h|h
   ·exact h
   rw[Bt h] at e2;cases e2
  have hks:k<σ.length:=hlt k (Dn e2);simp only;rw[BB oo,hk j k e2,TC hks];unfold A1;simp[hks]
 | none=>
  simp only;by_cases h:k<σ.length
  ·rw[AD h,TC h];unfold A1;simp[h]
  rw[A7 h,O6 oo];simp only[H9];congr 1;unfold A1;rw[B5,G2 oo];rw[show G.length+(k-σ.length)-T.length=k-σ.length by omega];rw[BP OF];rfl
def AW.under_new{f:FuncId}{args az':List AV}{R:AV->Sto->Prop}(G:List Nat)(T:Sto)(hnd:G.Nodup)(hlt:∀id∈G,id<σ.length)(hr:C1 G σ=T)(he:args.map (BJ G σ)=az')
  (hk:∀j i,G[j]? = some i->Cc (Cq G σ.length) (A1 T j)=A1 σ i)
  (h:AW P Gl f az' T (λr s=>∃V,s=T++V/\R r V)):AW P Gl f args σ (λr s=>∃r0 V,R r0 V/\r=BK (Cq G σ.length) r0/\s=σ++V.map (Cc (Cq G σ.length))):=by
 refine(AW.under (P:=P) (Gl:=Gl) G hnd hlt (by rw[hr,he];exact h)).mono λr s hh=>?_;obtain⟨r0,s0,⟨V,rfl,h1⟩,rfl,rfl⟩:=hh;exact⟨r0,V,h1,rfl,xu hlt (by rw[<-hr];simp[C1]) hk⟩
def yE{n:Nat}{all:Array Oper}{rest:List Oper}{KK:Env->Sto->Prop}{env:Env}{f:FuncId}{az caps az':List AV}{dst:Option Tmp}{R:AV->Sto->Prop}(G:List Nat)(T:Sto)(hnd:G.Nodup)(hlt:∀id∈G,id<σ.length)(hr:C1 G σ=T)(he:(az++caps).map (BJ G σ)=az')
  (hk:∀j i,G[j]? = some i->Cc (Cq G σ.length) (A1 T j)=A1 σ i)
  (h:AW P Gl f az' T (λr s=>∃V,s=T++V/\R r V))
  (h2:∀r V,R r V->Ab P Gl n all false rest (AJ env dst (BK (Cq G σ.length) r)) (σ++V.map (Cc (Cq G σ.length))) KK):FT P Gl n all false dst rest (.fn f caps) az env σ KK:=
 Be ((AW.under_new G T hnd hlt hr he hk h).mono λr s hh=>by
  obtain⟨r0,V,h1,rfl,rfl⟩:=hh
  exact h2 _ _ h1)
def hk1{T:Sto}{b:Nat->Nat}{i0:Nat}(h0:Cc b (A1 T 0)=A1 σ i0):∀j i,[i0][j]? = some i->Cc b (A1 T j)=A1 σ i:=λj i h=>by
 match j,h with
 | 0,h=>simp at h;subst h;exact h0
 | j+1,h=>simp at h
def hk2{T:Sto}{b:Nat->Nat}{i0 i1:Nat}(h0:Cc b (A1 T 0)=A1 σ i0)(h1:Cc b (A1 T 1)=A1 σ i1):∀j i,[i0,i1][j]? = some i->Cc b (A1 T j)=A1 σ i:=λj i h=>by
 match j,h with
 | 0,h=>simp at h;subst h;exact h0
 | 1,h=>simp at h;subst h;exact h1
 | j+2,h=>simp at h
def hk3{T:Sto}{b:Nat->Nat}{i0 i1 i2:Nat}(h0:Cc b (A1 T 0)=A1 σ i0)(h1:Cc b (A1 T 1)=A1 σ i1)(h2:Cc b (A1 T 2)=A1 σ i2):∀j i,[i0,i1,i2][j]? = some i->Cc b (A1 T j)=A1 σ i:=λj i h=>by
 match j,h with
 | 0,h=>simp at h;subst h;exact h0
 | 1,h=>simp at h;subst h;exact h1
 | 2,h=>simp at h;subst h;exact h2
 | j+3,h=>simp at h
end Go.AM


namespace Go.AM
variable {P:Program} {Gl:BM} {σ:Sto}
def Qft{n:Nat}{all:Array Oper}{rest:List Oper}{KK:Env->Sto->Prop}{env:Env}{f:FuncId}{az caps az':List AV}{dst:Option Tmp}{v:D}(G:List Nat)(T:Sto)(hnd:G.Nodup)(hlt:∀id∈G,id<σ.length)(hr:C1 G σ=T)(he:(az++caps).map (BJ G σ)=az')
  (hk:∀j i,G[j]? = some i->Cc (Cq G σ.length) (A1 T j)=A1 σ i)
  (h:AW P Gl f az' T (λr s=>r=.d v/\s=T)) (h2:Ab P Gl n all false rest (AJ env dst (.d v)) σ KK):FT P Gl n all false dst rest (.fn f caps) az env σ KK:=
 yE (R:=λr V=>r=.d v/\V=[]) G T hnd hlt hr he hk (h.mono λr s hr=>⟨[],by rw[hr.2,FY],hr.1,rfl⟩) λr V hr=>by
  obtain⟨rfl,rfl⟩:=hr;rw[E9,FY];exact h2
end Go.AM


namespace Go.AM
variable {P:Program} {Gl:BM} {σ:Sto}
end Go.AM


namespace Go.AM
variable {P:Program} {Gl:BM} {w:World} {I:Im} {μ:Pos} {σ:Sto}
end Go.AM


namespace Go.AM
open Go.ChangeMaps (setBlock)
structure L8(w w':World):Prop where
 cell:∀a,w'.cell? a=w.cell? a
 bsize:∀b,DQ w' b=DQ w b
 D6:∀(b:Nat) c t z,w.heap[b]? = some (.cells c t z)->w'.heap[b]? = some (.cells c t z)
 mp:∀(b:Nat) es cl,w.heap[b]? = some (.map es cl)->w'.heap[b]? = some (.map es cl)
 size:w.heap.size<=w'.heap.size
variable {w w':World} {I:Im} {μ:Pos} {σ:Sto}
def BU.CS(s:L8 w w'){v:Value}{x:D}(h:BU w I v x):BU w' I v x:=by
 induction h with
 | int k n=>exact .int k n
 | bool b=>exact .bool b
 | str l=>exact .str l
 | raw v h=>exact .raw v h
 | agg vs cs hl hone h ih=>exact .agg vs cs hl hone ih
 | nil a cap=>exact .nil a cap
 | ref b off x vals hI hfl hc hr ih=>exact .ref b off x vals hI hfl (λj hj=>(s.cell _).trans (hc j hj)) ih
 | sl b off es cap xs vals hI hcap hes hfl hc hr ih=>exact .sl b off es cap xs vals hI hcap hes hfl (λi j hi hj=>(s.cell _).trans (hc i j hi hj)) ih
def J1.CS(s:L8 w w'){b o es:Nat}{xs:List D}(h:J1 w I b o es xs):J1 w' I b o es xs:=
 ⟨h.Bs,h.size,h.flat,λi j x y hx hy=>by
  obtain⟨v,h1,h2⟩:=h.cell i j x y hx hy
  exact⟨v,(s.cell _).trans h1,h2.CS s⟩⟩
def AL.CS(s:L8 w w'){v:Value}{x:AV}(h:AL w I μ σ v x):AL w' I μ σ v x:=by
 induction h with
 | undef v=>exact .undef v
 | d v x h=>exact .d v x (h.CS s)
 | AA=>exact .AA
 | agg vs cs hl hone h ih=>exact .agg vs cs hl hone ih
 | ptr v id off hid h=>exact .ptr v id off hid h
 | B8 b o es xs i off h=>exact .B8 b o es xs i off (h.CS s)
 | Al v id i off hid h=>exact .Al v id i off hid h
 | A8 v id off len hid h=>
  refine .A8 v id off len hid ?_;rcases h with h|⟨b,base,es,cap,h1,h2,h3⟩
  ·exact .inl h
  exact .inr ⟨b,base,es,cap,λha=>by obtain⟨p1,p2,p3,p4,p5⟩:=h1 ha;exact⟨p1,p2,p3,p4,by rw[s.bsize];exact p5⟩,h2,h3⟩
 | fn f vs caps hl h ih=>exact .fn f vs caps hl ih
 | Aj vs cs hl h ih=>exact .Aj vs cs hl ih
 | iff g v x h1 h2 ih=>exact .iff g v x ih h2
 | AF v id hid h=>exact .AF v id hid h
 | BY b=>exact .BY b
def G_.CS(s:L8 w w'){b:Nat}(h:G_ w b):G_ w' b:=by
 obtain⟨c,t,h⟩:=h;exact⟨c,t,s.D6 _ _ _ _ h⟩
def Ft.CS(s:L8 w w'){id:Nat}{B:Blk}(h:Ft w I μ σ id B):Ft w' I μ σ id B:=by
 cases B with
 | dead=>trivial
 | box n v=>
  obtain⟨b,base,h1,h2,h3,h4,h5,h6⟩:=h;refine⟨b,base,h1,h2,h3.CS s,by rw[s.bsize];exact h4,h5,λj hj=>?_⟩;obtain⟨h7,u,h8,h9⟩:=h6 j hj;exact⟨h7,u,(s.cell _).trans h8,h9.CS s⟩
 | arr es xs=>
  rcases h with h|⟨b,base,h1,h2,h3,h4,h5,h6,h7⟩
  ·exact .inl h
  refine .inr ⟨b,base,h1,h2,h3.CS s,by rw[s.bsize];exact h4,h5,h6,λi j x y hx hy=>?_⟩;obtain⟨v,hv,hr⟩:=h7 i j x y hx hy;exact⟨v,(s.cell _).trans hv,hr.CS s⟩
 | BS es xs=>
  rcases h with h|⟨b,base,h1,h2⟩
  ·exact .inl h
  exact .inr ⟨b,base,h1,h2.CS s⟩
 | map ik f=>
  obtain⟨b,es,clock,h1,h2,h3,h4⟩:=h;exact⟨b,es,clock,h1,h2,⟨s.mp _ _ _ h3.1,h3.2⟩,h4.imp' λv u hv=>hv.CS s⟩
 | var es cs=>
  refine⟨h.1,?_⟩;rcases h.2 with⟨h1,h2⟩|⟨b,base,h1,h2,h3,h4,h7⟩
  ·exact .inl ⟨h1,h2⟩
  refine .inr ⟨b,base,h1,h2,h3.CS s,by rw[s.bsize];exact h4,λj c hc=>?_⟩;obtain⟨q1,u,q2,q3⟩:=h7 j c hc;exact⟨q1,u,(s.cell _).trans q2,q3.CS s⟩
def Rel.CS(s:L8 w w')(h:Rel w I μ σ):Rel w' I μ σ:=
 ⟨λb hb=>JX (h.Bs b hb) s.size,λid hid=>(h.D6 id hid).CS s,h.apart⟩
def C9.CS(s:L8 w w'){n:Nat}{env:Env}{a:Act}(h:C9 n w I μ σ env a):C9 n w' I μ σ env a:=
 ⟨h.defers,h.size,λt=>(h.slot t).CS s⟩
def Cr.CS(s:L8 w w'){Gl:BM}(h:Cr Gl w I):Cr Gl w' I:=
 ⟨λp hp=>(h.sl p hp).CS s,λp hp=>by
  obtain⟨c,t,f,h1,h2⟩:=h.ex p hp
  exact⟨c,t,f,s.D6 _ _ _ _ h1,h2⟩⟩
def yP{r:Nat}{m m':Option Nat}{s s':Nat}{sn sn':Array Nat}{c c':Nat}{w1:World}(hal:w1=w\/w1=w.drew)(hr:w.heap[r]? = some (.mapIter m s sn c)):
  L8 w (setBlock w1 r (.mapIter m' s' sn' c'))/\(setBlock w1 r (.mapIter m' s' sn' c')).heap[r]? = some (.mapIter m' s' sn' c')/\(∀b,b≠r->(setBlock w1 r (.mapIter m' s' sn' c')).heap[b]? = w.heap[b]?) /\
  (setBlock w1 r (.mapIter m' s' sn' c')).os=w.os/\(setBlock w1 r (.mapIter m' s' sn' c')).tape=w.tape/\(setBlock w1 r (.mapIter m' s' sn' c')).output=w.output/\(setBlock w1 r (.mapIter m' s' sn' c')).heap.size=w.heap.size:=by
 have hh:w1.heap=w.heap:=Vx;have hos:w1.os=w.os:=Vx;have htp:w1.tape=w.tape:=Vx;have hou:w1.output=w.output:=Vx;have hlt:r<w.heap.size:=by
  rcases B9 r w.heap.size with h'|h'
  ·exact h'
  rw[I_ h'] at hr;cases hr
 have e0:(setBlock w1 r (.mapIter m' s' sn' c')).heap=w.heap.setIfInBounds r (.mapIter m' s' sn' c'):=by
  show w1.heap.setIfInBounds r _=_;rw[hh]
 have e1:(setBlock w1 r (.mapIter m' s' sn' c')).heap[r]? = some (.mapIter m' s' sn' c'):=by rw[e0];simp[O9 hlt]
 have e2:∀b,b≠r->(setBlock w1 r (.mapIter m' s' sn' c')).heap[b]? = w.heap[b]? := λb hb=>by rw[e0];simp[Pb (FX hb)]
 have e3:(setBlock w1 r (.mapIter m' s' sn' c')).heap.size=w.heap.size:=by rw[e0];simp
 refine⟨⟨λa=>?_,λb=>?_,λb c t z h=>?_,λb es cl h=>?_,by rw[e3];exact AR _⟩,e1,e2,hos,htp,hou,e3⟩
 ·by_cases e:a.block=r
  ·subst e;simp only[World.cell?,hr,e1]
  exact World.cell?_of_block (w:=w) (e2 _ e)
 ·by_cases e:b=r
  ·subst e;unfold DQ;rw[hr,e1]
  exact Oj (e2 b e)
 ·by_cases e:b=r
  ·subst e;rw[hr] at h;cases h
  rw[e2 b e];exact h
 by_cases e:b=r
 ·subst e;rw[hr] at h;cases h
 rw[e2 b e];exact h
def Nj(m:Nat):AV->Prop
 | .d _=>True
 | .AA=>True
 | .ptr id _=>id<m
 | .A8 id _ _=>id<m
 | .AF id=>id<m
 | _=>False
def AL.keepm{m:Nat}{I':Im}{μ':Pos}{σ':Sto}(k:Ay m w I μ σ w' I' μ' σ'){v:Value}{x:AV}(hx:Nj m x)(h:AL w I μ σ v x):AL w' I' μ' σ' v x:=by
 cases h with
 | d v x h=>exact .d v x (h.AH k.Bs k.CB)
 | AA=>exact .AA
 | ptr v id off hid h=>
  have hx:id<m:=hx;obtain⟨b,base,h1,h2⟩:=h;refine .ptr v id off (JX hx k.len) ⟨b,base,λha=>?_,h2⟩;obtain⟨a1,e1,_⟩:=k.BD id hx ha;rw[e1];exact h1 a1
 | A8 v id off len hid h=>
  have hx:id<m:=hx;refine .A8 v id off len (JX hx k.len) ?_;rcases h with h|⟨b,base,es,cap,h1,h2,h3⟩
  ·exact .inl h
  refine .inr ⟨b,base,es,cap,λha=>?_,h2,h3⟩;obtain⟨a1,e1,e2,e3,e4⟩:=k.BD id hx ha;exact oK
 | AF v id hid h=>
  have hx:id<m:=hx;obtain⟨b,h1,h2⟩:=h;refine .AF v id (JX hx k.len) ⟨b,λha=>?_,h2⟩;obtain⟨a1,e1,_⟩:=k.BD id hx ha;rw[e1];exact h1 a1
 | _=>exact hx.elim
structure MK(w:World)(I:Im)(μ:Pos)(σ:Sto)(M r mb:Nat)(ik:Option IntKind)(f:Aw->Option AV)(since:Nat)(seen:Array Nat)(es:Array MapEntry)(clock:Nat):Prop where
 it:∃c0,w.heap[r]? = some (.mapIter (some mb) since seen c0)/\since<=c0
 mp:w.heap[mb]? = some (.map es clock)
 V8:I.fr r
 V7:I.fr mb
 st:MapKept.Stamped es clock
 BD:∀x∈es.toList,x.born<since
 sc:since<=clock
 all:∀e∈es.toList,∃k v,F3 ik k/\e.key=DL ik k/\f k=some v/\Nj M v/\AL w I μ σ e.val v
 has:∀k v,F3 ik k->f k=some v->∃e∈es.toList,e.key=DL ik k
def YJ:∀{l:List MapEntry},l.Pairwise (λx y=>x.key≠y.key)->∀{x y:MapEntry},x∈l->y∈l->x.key=y.key->x=y
 | [],_,_,_,hx,_,_=>Me
 | a::r,hp,x,y,hx,hy,h=>by
  obtain⟨h1,h2⟩:=IV.1 hp;rcases Bw.1 hx with ex|hx'
  ·rcases Bw.1 hy with ey|hy'
   ·rw[ex,ey]
   exact absurd (ex▸h) (h1 y hy')
  rcases Bw.1 hy with ey|hy'
  ·exact absurd (ey▸h).symm (h1 x hx')
  exact YJ h2 hx' hy' h
variable {M r mb since clock:Nat} {ik:Option IntKind} {f:Aw->Option AV} {seen:Array Nat} {es:Array MapEntry}
def MK.AH{I':Im}{μ':Pos}{σ':Sto}(h:MK w I μ σ M r mb ik f since seen es clock)(k:Ay M w I μ σ w' I' μ' σ'):MK w' I' μ' σ' M r mb ik f since seen es clock:=by
 obtain⟨c0,h1,h2⟩:=h.it;exact⟨⟨c0,(k.same _ h.V8).trans h1,h2⟩,(k.same _ h.V7).trans h.mp,k.fr _ h.V8,k.fr _ h.V7,h.st,h.BD,h.sc,λe he=>by
  obtain⟨l,x,a0,a1,a2,a3,a4⟩:=h.all e he
  exact⟨l,x,a0,a1,a2,a3,a4.keepm k a3⟩,h.has⟩
def MK.next{P:Program}(h:MK w I μ σ M r mb ik f since seen es clock)(ty:TypeId):
  ((∀x∈es.toList,seen.contains x.born=true)/\(Instr.next (.pointer (some ⟨r,0,none⟩)) false ty).run P w=.ok (.tuple #[.bool false]) w) \/
  ∃e∈es.toList,∃w2,(Instr.next (.pointer (some ⟨r,0,none⟩)) false ty).run P w=.ok (.tuple #[.bool true,e.key,e.val]) w2/\MK w2 I μ σ M r mb ik f since (seen.push e.born) es clock/\seen.contains e.born=false/\L8 w w2/\(∀b,b≠r->w2.heap[b]? = w.heap[b]?) /\
   w2.os=w.os/\w2.tape=w.tape/\w2.output=w.output/\w2.heap.size=w.heap.size/\(leftOf es (seen.push e.born)).size<(leftOf es seen).size/\∀w5:World,w5.heap[r]? = w2.heap[r]? -> w5.heap[mb]? = w2.heap[mb]? -> (Instr.entry (.pointer (some ⟨r,0,none⟩))).run P w5=.ok (.tuple #[e.key,e.val]) w5:=by
 obtain⟨c0,h1,h2⟩:=h.it;rcases run_next_at (P:=P) w ty r mb since c0 seen es clock h1 h.mp h.BD h2 with⟨h0,hrun⟩|⟨e,he,w1,hal,hrun⟩
 ·exact .inl ⟨all_seen es seen h0,hrun⟩
 obtain⟨hem,hes⟩:=mem_left he;obtain⟨s1,s2,s3,s4,s5,s6,s7⟩:=yP (m':=some mb) (s':=since) (sn':=seen.push e.born) (c':=clock) hal h1;have hne:mb≠r:=λe=>by have h3:=h.mp;rw[e,h1] at h3;cases h3
 have hmp:(setBlock w1 r (.mapIter (some mb) since (seen.push e.born) clock)).heap[mb]? = some (.map es clock):=(s3 mb hne).trans h.mp;refine .inr ⟨e,hem,_,hrun,⟨⟨clock,s2,h.sc⟩,hmp,h.V8,h.V7,h.st,h.BD,h.sc,λx hx=>?_,h.has⟩,hes,s1,s3,s4,s5,s6,s7,left_shrinks es seen e he,λw5 g1 g2=>?_⟩
 ·obtain⟨l,x,a0,a1,a2,a3,a4⟩:=h.all x hx;exact⟨l,x,a0,a1,a2,a3,a4.CS s1⟩
 exact run_entry_at _ r mb since seen es clock e (g1.trans s2) (g2.trans hmp) hem h.st.2.1
def yq{m m':Nat}(h:m<=m'){x:AV}(hx:Nj m x):Nj m' x:=by
 cases x<;>first|exact hx.elim|trivial|exact JX (show _<m from hx) h
def sV{P:Program}(hR:Rel w I μ σ){j:Nat}(hb:A1 σ j=.map ik f)(hlow:∀k v,F3 ik k->f k=some v->Nj σ.length v){v:Value}(hv:AL w I μ σ v (.AF j)){t e:TypeId}(ht:Co P t=some (ik,e)):
  ∃mb w' I' μ' es clock,(Instr.range t v).run P w=.ok (.pointer (some ⟨w.heap.size,0,none⟩)) w'/\Rel w' I' μ' (σ.set j .dead++[.BS 0 []])/\Ay σ.length w I μ σ w' I' μ' (σ.set j .dead++[.BS 0 []]) /\
   μ' σ.length=some (w.heap.size,0)/\MK w' I' μ' (σ.set j .dead++[.BS 0 []]) (σ.length+1) w.heap.size mb ik f clock #[] es clock/\AL w' I' μ' (σ.set j .dead++[.BS 0 []]) (.pointer (some ⟨w.heap.size,0,none⟩)) (.ptr σ.length 0):=by
 obtain⟨mb,es,clock,hj,hal,how,h1,h2,⟨h3,h4⟩,h5⟩:=hR.mapOf (id:=j) RU;rw[hb] at h5;change KH w I μ σ ik f es.toList at h5;obtain⟨kt,hu,_⟩:=SB ht;have ev:v=.map (some mb):=by
  cases hv with
  | AF _ _ _ hh=>
   obtain⟨b',q1,rfl⟩:=hh;have:=q1 hal;rw[h1] at this;simp only[BF,EO,PS] at this;rw[this]
 subst ev;have hmb:mb<w.heap.size:=by
  rcases B9 mb w.heap.size with h'|h'
  ·exact h'
  rw[I_ h'] at h3;cases h3
 let I':Im:=⟨λb=>I.rd b\/b=w.heap.size,λb=>I.fr b\/b=w.heap.size\/b=mb,λb hb=>hb.elim (λh=>.inl (I.sub b h)) (λh=>.inr (.inl h))⟩
 have hold:∀id,id<σ.length->id≠j->A1 (σ.set j .dead++[.BS 0 []]) id=A1 σ id:=λid hid hne=>by
  rw[BB (by simpa using hid),As (FX hne)]
 have hdead:A1 (σ.set j .dead++[.BS 0 []]) j=.dead:=by
  rw[BB Kt,BX hj]
 have hnew:A1 (σ.set j .dead++[.BS 0 []]) σ.length=.BS 0 []:=by
  have:=@Cd (σ.set j .dead) (.BS 0 [])
  rwa [BH] at this
 have k:Ay σ.length w I μ σ (w.alloc (.mapIter (some mb) clock #[] clock)) I' (F0 μ σ.length (w.heap.size,0)) (σ.set j .dead++[.BS 0 []]):=
  ⟨rfl,rfl,rfl,A6,λ_ h=>.inl h,λ_ h=>.inl h,λb hb=>hb.elim .inl λh=>.inr λhf=>by have:=hR.Bs b hf;omega,λb hb=>RowKit.Below.heap_alloc _ _ _ (hR.Bs b hb),ee w _,A6,λid hid ha=>by
   by_cases e:id=j
   ·subst e;unfold Br at ha;rw[hdead] at ha;cases ha
   unfold Br at ha ⊢
   rw[hold id hid e] at ha ⊢
   exact⟨ha,H8 _ _ oo,rfl,rfl,AR _⟩⟩
 refine⟨mb,_,I',_,es,clock,run_range_map w t kt e mb es clock hu h3,⟨λb hb=>?_,λid hid=>?_,λi q b b' o o' hiq hi hq hmi hmq=>?_⟩,k,Eh _ _ _,?_,?_⟩
 ·rcases hb with hb|rfl|rfl
  ·have:=hR.Bs b hb;simp;omega
  ·simp
  simp;omega
 ·by_cases e1:id=σ.length
  ·subst e1;rw[hnew];exact .inr ⟨w.heap.size,0,Eh _ _ _,{Bs:=.inr rfl,size:=(λx hx=>Jd),flat:=(λx hx=>Jd),cell:=(λi j x y hx=>Me)}⟩
  have hid':id<σ.length:=by simp at hid;omega
  by_cases e2:id=j
  ·subst e2;rw[hdead];trivial
  rw[hold id hid' e2];refine(hR.D6 id hid').AH k (H8 _ _ e1) λho b o hm=>?_;obtain⟨q1,q2⟩:=Jo hR hid' ho hm;refine⟨RowKit.Below.heap_alloc _ _ _ q1,λhn hf=>?_⟩;rcases hf with hf|hf|hf
  ·exact hn hf
  ·omega
  exact hR.apart id j b mb o 0 e2 ho how hm h1 hf
 ·have low:∀x,(A1 (σ.set j .dead++[.BS 0 []]) x).own=true->x<σ.length/\x≠j/\(A1 σ x).own=true:=λx hx=>by
   have hl:=E2 hx;simp only[Bb,BH,CT,C6] at hl;by_cases e1:x=σ.length
   ·subst e1;rw[hnew] at hx;cases hx
   have hl':x<σ.length:=oo;by_cases e2:x=j
   ·subst e2;rw[hdead] at hx;cases hx
   rw[hold x hl' e2] at hx;exact⟨hl',e2,hx⟩
  obtain⟨i1,i2,i3⟩:=low i hi;obtain⟨j1,j2,j3⟩:=low q hq;rw[H8 _ _ oo] at hmi hmq;exact hR.apart i q b b' o o' hiq i3 j3 hmi hmq
 ·refine⟨⟨clock,Uy _ _,AR _⟩,(RowKit.Below.heap_alloc _ _ _ hmb).trans h3,.inr (.inl rfl),.inr (.inr rfl),h4,h4.1,AR _,λx hx=>?_,λl x hx hx2=>?_⟩
  ·obtain⟨key,q1,q2⟩:=h5.keys x hx;cases hgl:f key with
   | none=>exact absurd q2 (h5.Gr key q1 hgl x hx)
   | some y=>
    obtain⟨e',a1,a2,a3⟩:=h5.Iw key y q1 hgl;have:x=e':=YJ h5.nodup hx a1 (q2.trans a2.symm);subst this;exact⟨key,y,q1,q2,hgl,yq (Nat.le_succ _) (hlow key y q1 hgl),a3.AH k⟩
  obtain⟨e',a1,a2,a3⟩:=h5.Iw l x hx hx2;exact⟨e',a1,a2⟩
 exact .ptr _ _ _ A6 ⟨w.heap.size,0,λ_=>Eh _ _ _,rfl⟩
def NV{P:Program}{n:Nat}{Gl:BM}{all:Array Oper}{m:Nat}{K:Env->Sto->Prop}{Q:Exit->Act->World->Prop}(l2:List Oper):∀(ops:List Oper) (env:Env) (σ:Sto),Ab P Gl n all false ops env σ K->∀{w:World} {I:Im} {μ:Pos} {a:Act},
  Rel w I μ σ->Cr Gl w I->C9 n w I μ σ env a->m<=σ.length ->
  (∀env' σ' w' I' μ' a',K env' σ'->Rel w' I' μ' σ'->Cr Gl w' I'->C9 n w' I' μ' σ' env' a'->Ay m w I μ σ w' I' μ' σ'->wpList P all Q l2 a' w')->wpList P all Q (ops++l2) a w
 | [],env,σ,h,w,I,μ,a,hR,hG,hE,hm,hq=>hq env σ w I μ a h hR hG hE (Ay.refl _ _ _ _ hm)
 | o::rest,env,σ,h,w,I,μ,a,hR,hG,hE,hm,hq=>by
  obtain⟨hd,h⟩:=h;rw[O7];cases hgd:o.guard with
  | none=>
   rw[hgd] at h;obtain⟨hg,h⟩:=h;unfold wpList;rw[AD (Un hgd _)];left;cases hc:Ch o.op with
   | true=>
    simp only[hc,By,Cx,CF] at h;refine Oper.Bo (NI hR hG hE hg h) λv w' ⟨r,σ',I',μ',q1,q2,q3,q4⟩=>?_;exact NV l2 rest _ _ q4 q1 (hG.AH q2) ((hE.AH q2).AJ hd q3) (DC hm q2.len) λenv' σ2 w2 I2 μ2 a2 k1 k2 k3 k4 k5=>hq env' σ2 w2 I2 μ2 a2 k1 k2 k3 k4 ((q2.mono hm).trans k5)
   | false=>
    simp only[hc,Cx,CF] at h;refine Oper.Bf (M7 hR hG hE o hc hg h.1) λu w' I' μ' q1 q2 q3=>?_;exact NV l2 rest _ _ h.2 q1 (hG.AH q2) ((hE.AH q2).AJ hd q3) (DC hm q2.len) λenv' σ2 w2 I2 μ2 a2 k1 k2 k3 k4 k5=>hq env' σ2 w2 I2 μ2 a2 k1 k2 k3 k4 ((q2.mono hm).trans k5)
  | some jb=>
   obtain⟨j,b⟩:=jb;rw[hgd] at h;simp only at h;by_cases ha:Ea o.op=true
   ·rw[AD ha] at h;obtain⟨hs,ht,hg,h1,h2⟩:=h;have hw:=Oq hE (all:=all) hgd hs;have hc:Ch o.op=false:=by
     generalize o.op=op at *;cases op<;>first|rfl|(simp[Ea] at ha;done)
    unfold wpList;rw[hw,ht,AD rfl];left;refine Oper.Bf (M7 hR hG hE o hc hg h1) λu w' I' μ' q1 q2 q3=>?_;exact pG
   rw[A7 ha] at h;obtain⟨hqt,hs,hg,h⟩:=h;have hw:=Oq hE (all:=all) hgd hs;unfold wpList;cases ht:C3 (BV all env j) b with
   | false=>
    rw[hw,ht,A7 A6];rw[ht] at h;have:∃x,Ab P Gl n all false rest (AJ env o.dst (.iff false x)) σ K:=by
     cases hc:Ch o.op with
     | true=>simp only[hc,By] at h;obtain⟨r0,_,h⟩:=h;exact⟨r0,h⟩
     | false=>simp only[hc,Cx,CF] at h;exact⟨_,h.2⟩
    obtain⟨x,hx⟩:=this;exact NV l2 rest _ _ hx hR hG (hE.AJ hd (.iff false _ x (λh=>D8) (λ_=>rfl))) hm hq
   | true=>
    rw[hw,ht,AD rfl];left;rw[ht] at h hg;cases hc:Ch o.op with
    | true=>
     simp only[hc,By] at h;obtain⟨r0,h1,h2⟩:=h;refine Oper.Bo (NI hR hG hE hg (h1 trivial σ (Ext.refl σ))) λv w' ⟨r,σ',I',μ',q1,q2,q3,q4⟩=>?_;obtain⟨rfl,rfl⟩:=q4;exact pG
    | false=>
     simp only[hc,Cx,CF] at h;have hgo:=M7 hR hG hE o hc hg (h.1 trivial);rw[QN hqt] at hgo;refine Oper.Bf hgo λu w' I' μ' q1 q2 q3=>?_;exact NV l2 rest _ _ h.2 q1 (hG.AH q2) ((hE.AH q2).AJ hd (.iff true _ _ (λ_=>q3) (λh=>D8))) (DC hm q2.len) λenv' σ2 w2 I2 μ2 a2 k1 k2 k3 k4 k5=>hq env' σ2 w2 I2 μ2 a2 k1 k2 k3 k4 ((q2.mono hm).trans k5)
variable {P:Program} {Gl:BM} {n m:Nat} {env:Env}
variable {P:Program} {Gl:BM} {n m:Nat} {env:Env}
def Sn(ik:Option IntKind):Aw->AV
 | .i n=>.d (.int (ik.getD .i64) n)
 | .s l=>.d (.str l)
 | .p a b=>.d (.agg [.int .i64 a,.int .i64 b])
def wz(k:Aw):AL w I μ σ (DL ik k) (Sn ik k):=by
 cases k with
 | i n=>exact .d _ _ (.int _ _)
 | s l=>exact .d _ _ (.str _)
 | p a b=>
  exact .d _ _ (.agg [.int .i64 a,.int .i64 b] [.int .i64 a,.int .i64 b] rfl (by simp[D.one]) λi v x hv hx=>by
   match i with
   | 0=>simp at hv hx;subst hv;subst hx;exact .int _ _
   | 1=>simp at hv hx;subst hv;subst hx;exact .int _ _
   | i+2=>simp at hv)
def cr{i1 i2 i3 b0 b1 tM tI tN tB tE:Nat}{all1 all2 all3:Array Oper}{l1 l2 l3:List Oper}{oR oN oE:Oper}{body:Code}{t e:TypeId}{K:Ct->Env->Sto->Prop}
  (a1:all1=(l1++[oR]).toArray) (a2:all2=(oN::l2).toArray) (a3:all3=(oE::l3).toArray)
  (r1:oR.op=.range t (.tmp tM)) (r2:oR.guard=none) (r3:oR.dst=some tI) (n1:oN.op=.next (.tmp tI) false) (n2:oN.guard=none) (n3:oN.dst=some tN) (q1:oE.op=.entry (.tmp tI)) (q2:oE.guard=none) (q3:oE.dst=some tE)
  (u1:tI<n) (u2:tN<n) (u3:tE<n) (ht:Co P t=some (ik,e))
  (h1:Ab P Gl n all1 false l1 env σ (λe1 s1=>∃e2 s2 j,∃f:Aw->Option AV,∃J:List Aw->Env->Sto->Prop,Bc n m e1 s1 e2 s2/\Bl e2 tM=.AF j/\A1 s2 j=.map ik f/\(∀k v,F3 ik k->f k=some v->Nj s2.length v) /\
   (∃E S,Bc n (s2.length+1) (AJ e2 (some tI) (.ptr s2.length 0)) (s2.set j .dead++[.BS 0 []]) E S/\J [] E S) /\
   (∀D E S,J D E S->Bl E tI=.ptr s2.length 0/\A1 S s2.length=.BS 0 []) /\
   (∀D E S,J D E S->∀b:Bool,Ab P Gl n all2 false l2 (AJ E (some tN) (if b=true then .Aj [true,.undef,.undef] else .Aj [false])) S (λe3 s3=>Bl e3 tB=.d (.bool b)/\Bc n (s2.length+1) e3 s3 E S)) /\
   (∀D E S k v,J D E S->k∉D->F3 ik k->f k=some v->Ab P Gl n all3 false l3 (AJ E (some tE) (.Aj [Sn ik k,v])) S (λe3 s3=>AWp P Gl n (s2.length+1) body e3 s3 (Gm b1 (H2 (Gm b0 K) λe4 s4=>∃E' S',Bc n (s2.length+1) e4 s4 E' S'/\J (k::D) E' S')))) /\
   (∀D E S,J D E S->(∀k v,F3 ik k->f k=some v->k∈D)->K .normal E S))) :
  AWp P Gl n m (.seq (.region i1 all1 false) (.block b0 (.loop (.seq (.region i2 all2 false) (.seq (.cond (.tmp tB) .skip (.exit b0)) (.block b1 (.seq (.region i3 all3 false) body))))))) env σ K:=by
 intro w I μ a hR hG hE hm;refine wp_seq (wp_region_list ?_);rw[show all1.toList=l1++[oR] by rw[a1]];refine NV [oR] l1 env σ h1 hR hG hE hm λe1 s1 w1 I1 μ1 act1 hk k2 k3 k4 k5=>?_;obtain⟨e2,s2,j,f,J,hw1,hmj,hbj,hlow,⟨E0,S0,hw2,hJ0⟩,hJi,hnx,hen,hend⟩:=hk;obtain⟨I2,μ2,w1R,w1E,w1K⟩:=hw1 w1 I1 μ1 act1 k2 k4 k5.len;have hG2:=k3.AH w1K;have hmr:AL w1 I2 μ2 s2 (act1.eval (.tmp tM)) (.AF j):=by
  have:=w1E.slot tM;rw[hmj] at this;exact this
 obtain⟨mb,w2,I3,μ3,es,clock,hrun,R3,K3,hμ3,hIt,hv3⟩:=sV (P:=P) (t:=t) w1R hbj hlow hmr ht;refine wpList_plain r2 λK' hK'=>?_;unfold Oper.wp;simp only[execOp,r1,hrun,Sem.run_bind,Result.andThen,Sem.run_pure];refine hK' _ _ ?_;rw[r3];show(Code.block b0 _).wp P _ _ _;have E3:C9 n w2 I3 μ3 (s2.set j .dead++[.BS 0 []]) (AJ e2 (some tI) (.ptr s2.length 0)) (act1.put (some tI) (.pointer (some ⟨w1.heap.size,0,none⟩))):=(w1E.AH K3).AJ (dst:=some tI) (by simpa[C8] using u1) hv3;obtain⟨I4,μ4,R4,E4,K4⟩:=hw2 w2 I3 μ3 _ R3 E3 A6;have hal:∀{D E S},J D E S->Br S s2.length:=λh=>by unfold Br;rw[(hJi _ _ _ h).2];rfl
 have hμ4:μ4 s2.length=some (w1.heap.size,0):=((K4.BD s2.length oo (hal hJ0)).2.1).trans hμ3;have hr0:∀b,I.fr b->b≠w1.heap.size:=λb hb e=>by
  have h1:=hR.Bs b hb;have h2:=k5.size;omega
 refine wp_block ?_
 let Inv:Act->World->Prop:=λa' w'=>∃I' μ' seen D E S,Rel w' I' μ' S/\Cr Gl w' I'/\C9 n w' I' μ' S E a'/\Ay m w I μ σ w' I' μ' S/\μ' s2.length=some (w1.heap.size,0)/\MK w' I' μ' S (s2.length+1) w1.heap.size mb ik f clock seen es clock/\J D E S/\s2.length+1<=S.length /\
  (leftOf es seen).size=(leftOf es (w'.iterSeen w1.heap.size)).size/\(∀x∈es.toList,seen.contains x.born=true->∃k∈D,x.key=DL ik k/\F3 ik k)/\∀k∈D,∃x∈es.toList,seen.contains x.born=true/\x.key=DL ik k
 have seenOf:∀{w':World} {I':Im} {μ':Pos} {S:Sto} {seen:Array Nat},MK w' I' μ' S (s2.length+1) w1.heap.size mb ik f clock seen es clock->w'.iterSeen w1.heap.size=seen:=λh=>by
  obtain⟨c0,h1,_⟩:=h.it;unfold World.iterSeen;rw[h1]
 refine wp_loop Inv (λ_ w'=>(leftOf es (w'.iterSeen w1.heap.size)).size) ⟨I4,μ4,#[],[],E0,S0,R4,(hG2.AH K3).AH K4,E4,((k5.trans w1K).trans (K3.mono w1K.len)).trans (K4.mono (by have:=w1K.len;omega)),hμ4,hIt.AH K4,hJ0,K4.len,by rw[seenOf (hIt.AH K4)],(λx hx hc=>by simp at hc),(λk hk=>by cases hk)⟩ ?_;rintro a' w' ⟨I',μ',seen,D,E,S,hR',hG',hE',hK',hμ',hI',hJ,hlen,hsz,hgood,hback⟩;obtain⟨hEi,hSi⟩:=hJi _ _ _ hJ;have halS:=hal hJ;have Iw:a'.eval (.tmp tI)=.pointer (some ⟨w1.heap.size,0,none⟩):=by
  have hs:=hE'.slot tI;rw[hEi] at hs;change AL w' I' μ' S (a'.eval (.tmp tI)) _ at hs
  revert hs
  generalize a'.eval (.tmp tI)=v;intro hs;cases hs with
  | ptr _ _ _ hid hh=>
   obtain⟨b,base,g1,g2⟩:=hh;have:=g1 halS;rw[hμ'] at this;exact nW
 have hm2:m<=s2.length:=w1K.len;refine wp_seq (wp_region_list ?_);rw[show all2.toList=oN::l2 by rw[a2]];refine wpList_plain n2 λK5 hK5=>?_;unfold Oper.wp;simp only[execOp,n1];rw[Iw];rcases hI'.next (P:=P) oN.type with⟨hall,hrun⟩|⟨x,hx,w3,hrun,hI3,hnew,hs3,hoth,o1,o2,o3,o4,hlt,hent⟩
 ·simp only[hrun,Sem.run_bind,Result.andThen,Sem.run_pure];refine hK5 _ _ ?_;rw[n3];have E5:=C9.AJ (dst:=some tN) hE' (by simpa[C8] using u2) (show AL w' I' μ' S (.tuple #[.bool false]) (.Aj [.d (.bool false)]) from .Aj [.bool false] _ rfl λi v u hv hu=>by
   cases i with
   | zero=>
    simp only[O4,BF] at hv hu
    subst hv;subst hu;exact .d _ _ (.bool _)
   | succ i=>simp at hv)
  have hx2:=hnx D E S hJ false;rw[A7 A6] at hx2;refine Kd (m:=s2.length+1) l2 _ _ hx2 hR' hG' E5 hlen λe3 s3 w5 I5 μ5 a5 hk x1 x2 x3 x4=>?_;obtain⟨hb,hw⟩:=hk;obtain⟨I6,μ6,y1,y2,y3⟩:=hw w5 I5 μ5 a5 x1 x3 x4.len;have hbv:a5.eval (.tmp tB)=.bool false:=by
   exact oS
  refine wp_seq (wp_cond_split hbv (λh=>D8) (λ_=>wp_exit ?_));simp only[Exit.then,Exit.inBlock,By];refine⟨.normal,E,S,I6,μ6,trivial,y1,x2.AH y3,y2,hK'.trans ((x4.trans y3).mono oo),hend D E S hJ λk v hf hk=>?_⟩;obtain⟨en,he1,he2⟩:=hI'.has k v hf hk;obtain⟨k',e0,e1,e2⟩:=hgood en he1 (hall en he1);rw[he2] at e1;rw[SF hf e2 e1];exact e0
 simp only[hrun,Sem.run_bind,Result.andThen,Sem.run_pure];refine hK5 _ _ ?_;rw[n3];have hR3:=hR'.CS hs3;have hG3:=hG'.CS hs3;have hE3:=hE'.CS hs3;have hK3:Ay m w I μ σ w3 I' μ' S:=⟨o1.trans hK'.os,o2.trans hK'.tape,o3.trans hK'.output,by rw[o4];exact hK'.size,hK'.Bs,hK'.fr,hK'.KF,λb hb=>(hoth b (hr0 b hb)).trans (hK'.same b hb),λb=>by rw[hs3.bsize];exact hK'.bsize b,hK'.len,hK'.BD⟩;obtain⟨l,xv,hfit,hkey,hgl,hlowx,hval⟩:=hI3.all x hx;have E5:=C9.AJ (dst:=some tN) hE3 (by simpa[C8] using u2) (show AL w3 I' μ' S (.tuple #[.bool true,x.key,x.val]) (.Aj [.d (.bool true),.undef,.undef]) from .Aj [.bool true,x.key,x.val] _ rfl λi v u hv hu=>by
  match i with
  | 0=>simp only[O4,BF] at hv hu;subst hv;subst hu;exact .d _ _ (.bool _)
  | 1=>simp only[O4,O5,BF] at hv hu;subst hv;subst hu;exact .undef _
  | 2=>simp only[O4,O5,BF] at hv hu;subst hv;subst hu;exact .undef _
  | i+3=>simp at hv)
 have hx2:=hnx D E S hJ true;rw[AD rfl] at hx2;refine Kd (m:=s2.length+1) l2 _ _ hx2 hR3 hG3 E5 hlen λe3 s3 w5 I5 μ5 a5 hk x1 x2 x3 x4=>?_;obtain⟨hb,hw⟩:=hk;obtain⟨I6,μ6,y1,y2,y3⟩:=hw w5 I5 μ5 a5 x1 x3 x4.len;have hbv:a5.eval (.tmp tB)=.bool true:=by
  exact oS
 have k6:=x4.trans y3;have hI6:=(hI3.AH x4).AH y3;refine wp_seq (wp_cond_split hbv (λ_=>wp_skip ?_) (λh=>D8));simp only[Exit.then];refine wp_block (wp_seq (wp_region_list ?_));rw[show all3.toList=oE::l3 by rw[a3]];refine wpList_plain q2 λK7 hK7=>?_;unfold Oper.wp;simp only[execOp,q1];have hμ6:μ6 s2.length=some (w1.heap.size,0):=((k6.BD s2.length oo halS).2.1).trans hμ';have hit6:a5.eval (.tmp tI)=.pointer (some ⟨w1.heap.size,0,none⟩):=by
  have hs:=y2.slot tI;rw[hEi] at hs;change AL w5 I6 μ6 S (a5.eval (.tmp tI)) _ at hs
  revert hs
  generalize a5.eval (.tmp tI)=v;intro hs;cases hs with
  | ptr _ _ _ hid hh=>
   obtain⟨b,base,g1,g2⟩:=hh;have:=g1 halS;rw[hμ6] at this;exact nW
 rw[hit6];have hent6:(Instr.entry (.pointer (some ⟨w1.heap.size,0,none⟩))).run P w5=.ok (.tuple #[x.key,x.val]) w5:=by
  exact hent w5 (x4.same _ hI3.V8) (x4.same _ hI3.V7)
 simp only[hent6,Sem.run_bind,Result.andThen,Sem.run_pure];refine hK7 _ _ ?_;rw[q3];have hval6:AL w5 I6 μ6 S x.val xv:=hval.keepm k6 hlowx;have hnd:l∉D:=λhl=>by
  obtain⟨y,hy1,hy2,hy3⟩:=hback l hl;have:y=x:=YJ (O8.1 hI3.st.2.2) hy1 hx (hy3.trans hkey.symm);subst this;rw[hnew] at hy2;cases hy2
 have E7:=C9.AJ (dst:=some tE) y2 (by simpa[C8] using u3) (show AL w5 I6 μ6 S (.tuple #[x.key,x.val]) (.Aj [Sn ik l,xv]) from .Aj [x.key,x.val] _ rfl λi v u hv hu=>by
  match i with
  | 0=>simp only[O4,BF] at hv hu;subst hv;subst hu;rw[hkey];exact wz l
  | 1=>simp only[O4,O5,BF] at hv hu;subst hv;subst hu;exact hval6
  | i+2=>simp at hv)
 have hG6:=(x2.AH y3);refine Kd (m:=s2.length+1) l3 _ _ (hen D E S l xv hJ hnd hfit hgl) y1 hG6 E7 hlen λe7 s7 w7 I7 μ7 a7 hk7 z1 z2 z3 z4=>?_;refine Code.wp_mono (λex a8 w8 q=>?_) (hk7 w7 I7 μ7 a7 z1 z2 z3 z4.len);obtain⟨ae,env',σ',I8,μ8,p1,p2,p3,p4,p5,p6⟩:=q;have kall:Ay (s2.length+1) w3 I' μ' S w8 I8 μ8 σ':=(k6.trans z4).trans p5;have kout:Ay m w I μ σ w8 I8 μ8 σ':=hK3.trans (kall.mono oo);have again:(∃E4 S4,Bc n (s2.length+1) env' σ' E4 S4/\J (l::D) E4 S4)->Inv a8 w8/\(leftOf es (w8.iterSeen w1.heap.size)).size<(leftOf es (w'.iterSeen w1.heap.size)).size:=by
  rintro⟨E4,S4,hw8,hJ4⟩;obtain⟨I9,μ9,v1,v2,v3⟩:=hw8 w8 I8 μ8 a8 p2 p4 p5.len;have k9:=kall.trans v3;have hI9:=hI3.AH k9;refine⟨⟨I9,μ9,seen.push x.born,l::D,E4,S4,v1,p3.AH v3,v2,kout.trans (v3.mono oo),((k9.BD s2.length oo (hal hJ4)).2.1).trans hμ',hI9,hJ4,v3.len,by rw[seenOf hI9],λy hy hc=>?_,λk hk=>?_⟩,by rw[seenOf hI9,seenOf hI'];exact hlt⟩
  ·rw[contains_push,Gc] at hc;rcases hc with hc|hc
   ·obtain⟨k,h1,h2⟩:=hgood y hy hc;exact⟨k,Cy _ h1,h2⟩
   have:y=x:=born_inj hI3.st.2.1 hy hx Dc;subst this;exact⟨l,DE,hkey,hfit⟩
  rcases Bw.1 hk with rfl|hk
  ·exact⟨x,hx,by rw[contains_push];simp,hkey⟩
  obtain⟨y,h1,h2,h3⟩:=hback k hk;exact⟨y,h1,by rw[contains_push,h2];rfl,h3⟩
 cases ex<;>cases ae<;>simp only[MR] at p1
 ·exact again p6
 ·subst p1;rename_i i0;simp only[Gm] at p6;by_cases e1:i0=b1
  ·rw[AD e1] at p6;simp only[Exit.inBlock,Exit.then];rw[AD e1];exact again p6
  rw[A7 e1] at p6;simp only[H2] at p6;simp only[Exit.inBlock,Exit.then];rw[A7 e1];by_cases e2:i0=b0
  ·simp only[Gm,AD e2] at p6;rw[AD e2];exact⟨.normal,env',σ',I8,μ8,trivial,p2,p3,p4,kout,p6⟩
  simp only[Gm,A7 e2] at p6;rw[A7 e2];exact⟨.exit i0,env',σ',I8,μ8,rfl,p2,p3,p4,kout,p6⟩
 exact⟨.ret,env',σ',I8,μ8,trivial,p2,p3,p4,kout,p6⟩
end Go.AM


namespace Go.AM
def Py(s:Sto)(i j:Nat)(B:Blk):A1 (s.set i B) j=if i=j/\i<s.length then B else A1 s j:=by
 by_cases h:i=j
 ·subst h;by_cases h2:i<s.length
  ·rw[AD ⟨rfl,h2⟩];exact BX h2
  rw[A7 (λh=>h2 h.2),lD oo]
 rw[A7 (λh'=>h h'.1)];exact As h
def CE(s t:Sto)(j:Nat):A1 (s++t) j=if j<s.length then A1 s j else A1 t (j-s.length):=by
 unfold A1;rw[B5,B5,B5];split
 ·rename_i h;rw[Ec h]
 rename_i h;rw[G2 oo]
def wh(s t:Sto)(i:Nat)(B:Blk):(s++t).set i B=if i<s.length then s.set i B++t else s++t.set (i-s.length) B:=List.set_append ..
def AG{s:Sto}{i:Nat}{B:Blk}(h:A1 s i=B)(hd:B.AP=false):i<s.length:=by
 rcases B9 i s.length with h'|h'
 ·exact h'
 unfold A1 at h;rw[B5,Bt h'] at h;subst h;cases hd
def AX{s:Sto}{i j:Nat}{B C:Blk}(h:A1 s i=B)(k:A1 s j=C)(hn:B≠C):i≠j:=λe=>hn (by rw[<-h,<-k,e])
def Q42(n:Nat):(n<n)=False:=eq_false (R5 _)
def Q41(n k:Nat):(n+k<n)=False:=eq_false oo
def uZ(n k:Nat):n+k-n=k:=oo
def jE:=aI (aI (aI @Py @CE) (aI @wh (aI @Q42 @Q41))) (aI (aI @uZ @J3) (aI @Nz (aI @List.set_set.{0} @FA)))
section
variable (P:Program) (σ:Sto)
def Q18(t:TypeId)(n:Nat)(ps:List (Nat×AV)):Qu P t n ps=(match B_ P t with|some e=>(match tsz P e,Bj P e with|some es,some z=>es=1/\z.cells.size=1/\n=1/\∀p∈ps,p.1=0|_,_=>False)|none=>False):=by unfold Qu;rfl
def Q19(t1 t2:TypeId)(s x:AV):Qo P σ t1 t2 s x=(match B_ P t1 with|some e=>(match tsz P e,E_ P e,Bj P e with|some es,some CD,some z=>0<es/\z.cells.size=es/\(B_ P t2).isSome=true/\V6 σ es s/\OU σ es x/\(s.len+x.Dz σ)*CD<=140737488355328/\s.len+x.Dz σ<=4611686018427387904|_,_,_=>False)|none=>False):=by unfold Qo;rfl
end
def Baw:(∀S k v,bpS S [(k,v)]=S++[.var 1 [v]])/\(∀P S t(s:AV)(x:AV),PB P S t s x=Dr S s++[.var (D2 P t) (s.Bp S (D2 P t)++x.Bp S (D2 P t))])/\(∀(S:Sto)(s:AV)(x:AV),Sv S s x=.A8 S.length 0 (s.len+x.Dz S))/\(∀S i o k,(AV.A8 i o k).Dz S=if(A1 S i).isVar=true then k else((AV.A8 i o k).elems S).length)/\(∀S x,(AV.d x).Dz S=((AV.d x).elems S).length)/\(∀(S:Sto)(es:Nat)(i:Nat)(o:Nat)(k:Nat),(AV.A8 i o k).Bp S es=if(A1 S i).isVar=true then((A1 S i).cells.drop (o*es)).take (k*es) else((AV.A8 i o k).elems S).flatMap λz=>z.cells.map JO)/\(∀S es,AV.AA.Bp S es=[])/\(∀(S:Sto)(es:Nat)(x:D),(AV.d x).Bp S es=((AV.d x).elems S).flatMap λz=>z.cells.map JO)/\(∀S es i o k,OU S es (.A8 i o k)=if(A1 S i).isVar=true then(A1 S i).es=es/\(o+k)*es<=(A1 S i).cells.length/\0<k else Hg S es (.A8 i o k)/\0<((AV.A8 i o k).elems S).length)/\(∀S es x,OU S es (.d x)=(Hg S es (.d x)/\0<((AV.d x).elems S).length))/\(∀S es i o k,V6 S es (.A8 i o k)=((A1 S i).isVar=true/\(A1 S i).es=es/\(o+k)*es<=(A1 S i).cells.length))/\(∀S es,V6 S es .AA=True):=Et
def xW:=aI (aI Baw @Q18) (aI @Q19 @MS)
variable {P:Program} {Gl:BM}
def gG{m:Nat}{r:AV}{S s:Sto}(h:∀(n:Nat) (env:Env),Bc n m env S env s):Bg m r S r s:=λw I L v h1 h2 h3=>by
 obtain⟨I',μ',r1,r2,r3⟩:=h 1 [(0,r)] w I L (⟨#[v],[]⟩:Act) h1 ⟨rfl,rfl,λt=>by
  simp only[Bl]
  by_cases e:0=t
  ·subst e;rw[AD rfl];exact h2
  rw[A7 e];exact .undef _⟩ h3
 refine⟨I',μ',r1,?_,r3⟩;have:=r2.slot 0;simpa[Bl] using this
def AW.post{f:FuncId}{args:List AV}{S:Sto}{R R':AV->Sto->Prop}(h:AW P Gl f args S R)(hr:∀r s,R r s->∃r' s',Bg S.length r s r' s'/\R' r' s'):AW P Gl f args S R':=by
 intro w I L vals hR hG hl hv;refine(h w I L vals hR hG hl hv).mono λv w' ⟨r,s,I',μ',q1,q2,q3,q4⟩=>?_;obtain⟨r',s',h1,h2⟩:=hr r s q4;obtain⟨I2,μ2,g1,g2,g3⟩:=h1 w' I' μ' v q1 q3 q2.len;exact⟨r',s',I2,μ2,g1,q2.trans g3,g2,h2⟩
end Go.AM


namespace Go.AM
variable {P:Program} {Gl:BM} {n m:Nat} {all:Array Oper} {env:Env} {σ:Sto}
def D3(L:Nat->Bool)(i j:Nat):Bool:=if j=i then true else L j
def EM(L:Nat->Bool):List Edge->Prop
 | []=>True
 | e::r=>(Region.binds .any e=true->L e.on=true)/\EM L r
def UX{L:Nat->Bool}:∀{l:List Edge},(∀e∈l,Region.binds .any e=true->L e.on=true)->EM L l
 | [],_=>trivial
 | e::r,h=>⟨h e DE,UX λx hx=>h x (Cy _ hx)⟩
def J8(all:Array Oper)(L:Nat->Bool):Prop:=∀j o,all[j]? = some o->L j=true->EM L o.after.toList
def XV{L M:Nat->Bool}(h:∀j,L j=true->M j=true):∀{l:List Edge},EM L l->EM M l
 | [],_=>trivial
 | e::r,hp=>⟨λhb=>h _ (hp.1 hb),XV h hp.2⟩
def J8.Ev{L:Nat->Bool}(h:J8 all L){i:Nat}{o:Oper}(ho:all[i]? = some o)(hp:EM L o.after.toList):J8 all (D3 L i):=λj o' ho' hj=>by
 have up:∀k,L k=true->D3 L i k=true:=λk hk=>by unfold D3;split<;>first|rfl|exact hk
 unfold D3 at hj;split at hj
 ·rename_i e;subst e;rw[ho] at ho';cases ho';exact XV up hp
 exact XV up (h j o' ho' hj)
def DO{a b:Bool}(hb:b=false)(h:a=true->b=true):a=false:=by
 cases a with
 | false=>rfl
 | true=>rw[h rfl] at hb;cases hb
def Da{L:Nat->Bool}:∀{l:List Edge},EM L l->∀j,(l.any λe=>(e.on==j)&&Region.binds .any e)=true->L j=true
 | [],_,j,hb=>by simp at hb
 | e::r,h,j,hb=>by
  rw[Kp,Gc] at hb;rcases hb with hb|hb
  ·simp only[C5,GR] at hb;rw[<-hb.1];exact h.1 hb.2
  exact Da h.2 j hb
def Mx(P:Program)(Gl:BM)(n m:Nat)(all:Array Oper)(E:(Nat->Bool)->Env)(S:(Nat->Bool)->Sto):Nat->List Oper->Prop
 | _,[]=>True
 | i,o::r=>(∀L:Nat->Bool,J8 all L->L i=false->EM L o.after.toList->Ab P Gl n all false [o] (E L) (S L) λe' s'=>Bc n m e' s' (E (D3 L i)) (S (D3 L i)))/\Mx P Gl n m all E S (i+1) r
def cX{E:(Nat->Bool)->Env}{S:(Nat->Bool)->Sto}:∀{l:List Oper} {k i:Nat} {o:Oper},Mx P Gl n m all E S k l->l[i]? = some o ->
  ∀L:Nat->Bool,J8 all L->L (k+i)=false->EM L o.after.toList->Ab P Gl n all false [o] (E L) (S L) λe' s'=>Bc n m e' s' (E (D3 L (k+i))) (S (D3 L (k+i)))
 | [],k,i,o,_,h=>Mf
 | x::r,k,0,o,hs,h=>by
  exact bq
 | x::r,k,i+1,o,hs,h=>by
  simp only[O5] at h;have:=cX hs.2 h
  rwa [show k+1+i=k+(i+1) by omega] at this
def Qm(all:Array Oper):Bool:=(List.range all.size).all λi=>match all[i]? with|some o=>o.after.toList.all λe=>!Region.binds .any e||decide (e.on<i)|none=>true
def Uv(h:Qm all=true){i:Nat}{o:Oper}(ho:all[i]? = some o):∀e∈o.after.toList,Region.binds .any e=true->e.on<i:=by
 simp only[Qm,EW,CI] at h;have hi:i<all.size:=by
  exact nk
 intro e he hb;have:=h i hi;exact nw
def SE(E:(Nat->Bool)->Env)(S:(Nat->Bool)->Sto){K:Env->Sto->Prop}(ht:Qm all=true)(h0:Bc n m env σ (E λi=>decide (all.size<=i)) (S λi=>decide (all.size<=i)))
  (hs:Mx P Gl n m all E S 0 all.toList) (hk:K (E λ_=>true) (S λ_=>true)):VI P Gl n m all env σ K:=by
 refine⟨λlisted e s=>e=E (λi=>listed.getD i true)/\s=S (λi=>listed.getD i true)/\J8 all (λi=>listed.getD i true),⟨_,_,h0,?_⟩,λlisted e s hJ hsz hrd=>?_,λlisted e s i hJ hsz hi o ho=>?_⟩
 ·have:(λi=>(Array.replicate all.size false).getD i true)=λi=>decide (all.size<=i):=by
   exact oM
  refine⟨congrArg E this.symm,congrArg S this.symm,?_⟩;rw[this];exact bn
 ·obtain⟨rfl,rfl,_⟩:=hJ;have hall:∀i,listed.getD i true=true:=λi=>by
   exact cC
  have:(λi=>listed.getD i true)=λ_=>true:=funext hall;rw[this];exact hk
 obtain⟨rfl,rfl,hcl⟩:=hJ;obtain⟨g1,g2,o',g3,g4⟩:=Kc.1 hi;rw[ho] at g3;cases g3;have hb:=λe he hb=>Uv ht ho e he hb;have hpr:EM (λi=>listed.getD i true) o.after.toList:=UX λe he hbb=>by
  have h1:=g4 e he hbb;have:=hb e he hbb
  rwa [MC oo] at h1
 have:=cX (i:=i) (o:=o) hs (by simpa using ho) (λi=>listed.getD i true) hcl TR hpr;have eu:(λj=>(listed.setIfInBounds i true).getD j true)=D3 (λi=>listed.getD i true) (0+i):=by
  exact bU
 refine IK (λe' s' h=>?_) _ _ _ this;refine⟨_,_,h,congrArg E eu.symm,congrArg S eu.symm,?_⟩;rw[eu];have:=hcl.Ev ho hpr
 rwa [EU]
def Z4(P:Program)(Gl:BM)(n:Nat)(all:Array Oper)(o:Oper)(env:Env)(σ:Sto)(K:Env->Sto->Prop):Prop:=
 ∃j b,o.guard=some (j,b)/\C8 n o.dst=true/\FH (BV all env j)=true/\C3 (BV all env j) b=true/\Ez Gl env true o.op/\HO P Gl env σ o.op (λr σ'=>K (AJ env o.dst (.iff true r)) σ')
def sA{w:World}{I:Im}{L:Pos}{a:Act}{Q:Exit->Act->World->Prop}{o:Oper}{i:Nat}{Kw:Act->World->Prop}{K:Env->Sto->Prop}(hR:Rel w I L σ)(hG:Cr Gl w I)(hE:C9 n w I L σ env a)(hi:all[i]? = some o)(hs:Z4 P Gl n all o env σ K)
  (hn:∀env' σ' a' w' I' μ',K env' σ'->Rel w' I' μ' σ'->Cr Gl w' I'->C9 n w' I' μ' σ' env' a'->Ay σ.length w I L σ w' I' μ' σ'->Kw a' w'):wpOp P all Q i Kw a w:=by
 obtain⟨j,b,hgd,hd,hs1,hs2,hg,h1⟩:=hs;unfold wpOp;rw[hi];simp only;have hw:=Oq hE (all:=all) hgd hs1;rw[hs2] at hw;rw[AD hw];left;refine Oper.Bo (NI hR hG hE hg h1) λu w' ⟨r,s',I',μ',q1,q2,q3,q4⟩=>?_;exact hn _ _ _ _ _ _ q4 q1 (hG.AH q2) ((hE.AH q2).AJ hd (.iff true _ _ (λ_=>q3) (λh=>D8))) q2
def Rf(P:Program)(Gl:BM)(n m:Nat)(all:Array Oper)(E:(Nat->Bool)->Env)(S:(Nat->Bool)->Sto):Nat->List Oper->Prop
 | _,[]=>True
 | i,o::r=>(∀L:Nat->Bool,J8 all L->L i=false->EM L o.after.toList ->
   (Ab P Gl n all false [o] (E L) (S L) λe' s'=>Bc n m e' s' (E (D3 L i)) (S (D3 L i)))\/Z4 P Gl n all o (E L) (S L) λe' s'=>Bc n m e' s' (E (D3 L i)) (S (D3 L i)))/\Rf P Gl n m all E S (i+1) r
def cW{E:(Nat->Bool)->Env}{S:(Nat->Bool)->Sto}:∀{l:List Oper} {k i:Nat} {o:Oper},Rf P Gl n m all E S k l->l[i]? = some o ->
  ∀L:Nat->Bool,J8 all L->L (k+i)=false->EM L o.after.toList->(Ab P Gl n all false [o] (E L) (S L) λe' s'=>Bc n m e' s' (E (D3 L (k+i))) (S (D3 L (k+i))))\/Z4 P Gl n all o (E L) (S L) λe' s'=>Bc n m e' s' (E (D3 L (k+i))) (S (D3 L (k+i)))
 | [],k,i,o,_,h=>Mf
 | x::r,k,0,o,hs,h=>by
  exact bq
 | x::r,k,i+1,o,hs,h=>by
  simp only[O5] at h;have:=cW hs.2 h
  rwa [show k+1+i=k+(i+1) by omega] at this
def ux(N i:Nat):(Array.replicate N false).getD i true=decide (N<=i):=by
 rcases B9 i N with h|h
 ·have:¬N<=i:=oo;simp[h,this]
 simp[h,Sw.2 h]
def s9(E:(Nat->Bool)->Env)(S:(Nat->Bool)->Sto){K:Env->Sto->Prop}{Q:Exit->Act->World->Prop}(ht:Qm all=true)(hs:Rf P Gl n m all E S 0 all.toList)(hk:K (E λ_=>true) (S λ_=>true)):
  ∀(fuel:Nat) (listed:Array Bool) (w:World) (I:Im) (L:Pos) (a:Act),listed.size=all.size->(Fh all listed).length<=fuel->J8 all (λi=>listed.getD i true) ->
  Rel w I L (S λi=>listed.getD i true)->Cr Gl w I->C9 n w I L (S λi=>listed.getD i true) (E λi=>listed.getD i true) a->m<=(S λi=>listed.getD i true).length ->
  (∀w' I' μ' a',Rel w' I' μ' (S λ_=>true)->Cr Gl w' I'->C9 n w' I' μ' (S λ_=>true) (E λ_=>true) a'->Ay m w I L (S λi=>listed.getD i true) w' I' μ' (S λ_=>true)->Q .normal a' w')->wpAny P .any all Q fuel listed a w:=by
 have hall:∀listed:Array Bool,listed.size=all.size->Region.ready .any all listed=[]->(λi=>listed.getD i true)=λ_=>true:=λlisted hsz hrd=>by
  funext i;exact cC
 intro fuel
 induction fuel with
 | zero=>
  intro listed w I L a hsz hlen hcl hR hG hE hm hq;have hnil:Fh all listed=[]:=G3 oo;have hrd:Region.ready .any all listed=[]:=by
   exact o_
  rw[hall listed hsz hrd] at hR hE hm hq;exact⟨hrd,hq w I L a hR hG hE (Ay.refl _ _ _ _ hm)⟩
 | succ fuel ih=>
  intro listed w I L a hsz hlen hcl hR hG hE hm hq;refine⟨λhrd=>?_,λi hi=>?_⟩
  ·rw[hall listed hsz hrd] at hR hE hm hq;exact hq w I L a hR hG hE (Ay.refl _ _ _ _ hm)
  obtain⟨g1,g2,o,g3,g4⟩:=Kc.1 hi;have hfuel:(Fh all (listed.setIfInBounds i true)).length<=fuel:=by
   obtain⟨pre,post,e1,e2,_⟩:=Ug hsz g1 g2;exact WM
  have hb:=λe he hb=>Uv ht g3 e he hb;have hpr:EM (λi=>listed.getD i true) o.after.toList:=UX λe he hbb=>by
   have h1:=g4 e he hbb;have:=hb e he hbb
   rwa [MC oo] at h1
  have eu:(λj=>(listed.setIfInBounds i true).getD j true)=D3 (λi=>listed.getD i true) (0+i):=by
   exact bU
  have hcl2:J8 all (λj=>(listed.setIfInBounds i true).getD j true):=by
   rw[eu];have:=hcl.Ev g3 hpr
   rwa [EU]
  have step:∀env' σ' a' w' I' μ',Bc n m env' σ' (E (D3 (λi=>listed.getD i true) (0+i))) (S (D3 (λi=>listed.getD i true) (0+i)))->Rel w' I' μ' σ'->Cr Gl w' I'->C9 n w' I' μ' σ' env' a'->Ay (S λi=>listed.getD i true).length w I L (S λi=>listed.getD i true) w' I' μ' σ' ->
    wpAny P .any all Q fuel (listed.setIfInBounds i true) a' w':=λenv' σ' a' w' I' μ' hw k1 k2 k3 k4=>by
   obtain⟨I2,μ2,q1,q2,q3⟩:=hw w' I' μ' a' k1 k3 (DC hm k4.len);rw[<-eu] at q1 q2 q3;exact ih _ w' I2 μ2 a' W2 hfuel hcl2 q1 (k2.AH q3) q2 q3.len λw3 I3 μ3 a3 r1 r2 r3 r4=>hq w3 I3 μ3 a3 r1 r2 r3 ((k4.mono hm).trans (q3.trans r4))
  rcases cW (i:=i) (o:=o) hs (by simpa using g3) (λi=>listed.getD i true) hcl TR hpr with h1|h1
  ·exact Y5 hR hG hE g3 (df h1) step
  exact sA hR hG hE g3 h1 step
def v_(hP:P.follows .mixedOrders=true){id:Nat}{l:List Oper}{K:Ct->Env->Sto->Prop}(E:(Nat->Bool)->Env)(S:(Nat->Bool)->Sto)(ht:Qm l.toArray=true)(h0:Bc n m env σ (E λi=>decide (l.toArray.size<=i)) (S λi=>decide (l.toArray.size<=i)))
  (hs:Rf P Gl n m l.toArray E S 0 l) (hk:K .normal (E λ_=>true) (S λ_=>true)):AWp P Gl n m (.region id l.toArray true) env σ K:=by
 intro w I L a h1 h2 h3 h4;refine wp_region_any hP ?_;have hm:=HN.drew w;have hk2:=hm.AH (I:=I) (μ:=L) (σ:=σ);have hE2:=h3.AH hk2;obtain⟨I0,μ0,a1,a2,a3⟩:=h0 _ I L a (hm.rel h1) hE2 h4;have hst:(λi=>(Array.replicate l.toArray.size false).getD i true)=λi=>decide (l.toArray.size<=i):=by
  funext i;exact ux _ _
 refine s9 (m:=m) (K:=K .normal) E S ht TU hk l.toArray.size (Array.replicate l.toArray.size false) _ I0 μ0 a A6 ?_ ?_ (by rw[hst];exact a1) ((h2.AH hk2).AH a3) (by rw[hst];exact a2) (by rw[hst];exact a3.len) λw' I' μ' a' r1 r2 r3 r4=>?_
 ·exact bY
 ·rw[hst];exact bn
 rw[hst] at r4;exact⟨.normal,_,_,I',μ',trivial,r1,r2,r3,(hk2.mono h4).trans (a3.trans r4),hk⟩
def onB(b:Bool)(B:Blk):Blk:=if b=true then B else .dead
def onV(b:Bool)(v:AV):AV:=if b=true then v else .undef
def Sd(B:Blk):onB true B=B:=rfl
def Z8(B:Blk):onB false B=.dead:=rfl
def Ef(v:AV):onV true v=v:=rfl
def Er(v:AV):onV false v=.undef:=rfl
def FG(G:List Nat)(b:Bool)(v:AV):BJ G σ (onV b v)=onV b (BJ G σ v):=by cases b<;>rfl
def xG(G:List Nat)(b:Bool)(B:Blk):Ca G σ (onB b B)=onB b (Ca G σ B):=by cases b<;>rfl
def frB:=aI (aI @Cx @false_imp_iff) (aI @true_imp_iff (aI @PS @R0))
end Go.AM


namespace Go.AM
variable {P:Program} {Gl:BM} {w:World} {I:Im} {μ:Pos} {σ:Sto}
def L4(σ:Sto)(l:List Nat):Sto:=l.foldl (λs i=>s.set i .dead) σ
def XM:∀(l:List Nat) (σ:Sto),(L4 σ l).length=σ.length
 | [],σ=>rfl
 | i::l,σ=>by unfold L4;rw[GQ];exact(XM l _).trans (BH ..)
def Wm:∀(l:List Nat) (σ:Sto) (j:Nat),j∉l->A1 (L4 σ l) j=A1 σ j
 | [],σ,j,_=>rfl
 | i::l,σ,j,h=>by
  unfold L4;rw[GQ];exact(Wm l _ j λh'=>h (Cy _ h')).trans (As λe=>h (e▸DE))
def Rel.freezeBox(h:Rel w I μ σ){id n:Nat}{x:D}(hB:A1 σ id=.box n (.d x))(hfl:x.flat):∃I',Rel w I' μ (σ.set id .dead)/\Ay σ.length w I μ σ w I' μ (σ.set id .dead)/\∀v,AL w I μ σ v (.ptr id 0)->BU w I' v (.ref x):=by
 have hown:(A1 σ id).own=true:=ER;have hid:=E2 hown;have hal:Br σ id:=Mg;have hb:=h.D6 id hid;rw[hB] at hb;obtain⟨b,base,h1,h2,h3,h4,h5,h6⟩:=hb;have hbl:=(Jo h hid hown h1).1
 let I':Im:={rd:=λq=>I.rd q\/q=b,fr:=λq=>I.fr q\/q=b,sub:=λq hq=>hq.elim (λhq=>.inl (I.sub q hq)) .inr}
 have k:Ay σ.length w I μ σ w I' μ (σ.set id .dead):=
  ⟨rfl,rfl,rfl,AR _,λ_ h=>.inl h,λ_ h=>.inl h,λq hq=>hq.elim .inl (λe=>.inr (by rw[e];exact h2)),λ_ _=>rfl,λ_=>AR _,A6,λi hi ha=>by
   by_cases e:id=i
   ·subst e;unfold Br at ha;rw[BX hid] at ha;cases ha
   unfold Br at *;rw[As e] at ha ⊢;exact⟨ha,rfl,rfl,rfl,AR _⟩⟩
 refine⟨I',⟨λq hq=>hq.elim (h.Bs q) (λe=>by rw[e];exact hbl),λi hi=>?_,λi j b1 b2 o1 o2 hij hi hj g1 g2=>?_⟩,k,λv hv=>?_⟩
 ·rw[BH] at hi;by_cases e:id=i
  ·subst e;rw[BX hid];trivial
  rw[As e];refine(h.D6 i hi).AH k rfl λho q o hq=>⟨rfl,λhn hf=>?_⟩;rcases hf with hf|hf
  ·exact hn hf
  exact h.apart id i b q base o e hown ho h1 hq hf.symm
 ·have ow:∀i,(A1 (σ.set id .dead) i).own=true->(A1 σ i).own=true:=λi hi=>by
   by_cases e:id=i
   ·subst e;rw[hB];rfl
   rwa [As e] at hi
  exact h.apart i j b1 b2 o1 o2 hij (ow i hi) (ow j hj) g1 g2
 cases hv with
 | ptr _ _ _ _ hh=>
  obtain⟨b',base',q1,rfl⟩:=hh;have e:=q1 hal;rw[h1] at e;simp only[BF,EO] at e;obtain⟨rfl,rfl⟩:=e;have hn:x.cells.length=n:=h5;refine .ref b (base+0) x (λj=>(w.cell? ⟨b,base+j,none⟩).getD Go.undef) (.inr rfl) hfl (λj hj=>?_) (λj y hy=>?_)
  ·obtain⟨_,u,g1,_⟩:=h6 j oo;rw[Gb,g1];rfl
  have hj:j<x.cells.length:=by
   exact Ti
  obtain⟨_,u,g1,g2⟩:=h6 j oo;rw[g1];have e2:(AV.d x).cellAt j=.d y:=lf;rw[e2] at g2;exact g2.Ar.AH k.Bs k.CB
def Rel.freezeBoxes:∀(ids:List Nat) (xs:List D) {I:Im} {σ:Sto},Rel w I μ σ->ids.Nodup->ids.length=xs.length->(∀i,i<ids.length->∃n,A1 σ (ids.getD i 0)=.box n (.d (xs.getD i default))/\(xs.getD i default).flat) ->
  ∃I',Rel w I' μ (L4 σ ids)/\Ay σ.length w I μ σ w I' μ (L4 σ ids)/\∀i,i<ids.length->∀v,AL w I μ σ v (.ptr (ids.getD i 0) 0)->BU w I' v (.ref (xs.getD i default))
 | [],xs,I,σ,h,_,_,_=>⟨I,h,Ay.refl _ _ _ _ (AR _),λi hi=>absurd hi (F9 _)⟩
 | a::ids,[],I,σ,h,_,hl,_=>by simp at hl
 | a::ids,x::xs,I,σ,h,hnd,hl,hb=>by
  obtain⟨n,h1,h2⟩:=hb 0 A6;obtain⟨I1,r1,r2,r3⟩:=h.freezeBox (id:=a) (n:=n) (x:=x) h1 h2;have hna:a∉ids:=(JW.1 hnd).1;obtain⟨I2,q1,q2,q3⟩:=Rel.freezeBoxes ids xs r1 (JW.1 hnd).2 Hb (λi hi=>by
   obtain⟨n',g1,g2⟩:=hb (i+1) Lj
   refine⟨n',?_,g2⟩
   rw[As (λe=>hna (by rw[e];simp[hi]))]
   exact g1)
  rw[BH] at q2;refine⟨I2,q1,r2.trans q2,λi hi v hv=>?_⟩;cases i with
  | zero=>exact(r3 v hv).AH q2.Bs q2.CB
  | succ i=>exact q3 i Lj v (hv.AH r2)
def Qgm{n m:Nat}{env:Env}(A:Nat){ids:List Nat}{xs:List D}(hA:A1 σ A=.var 1 (ids.map λi=>.ptr i 0))(hnd:ids.Nodup)(hl:ids.length=xs.length)
  (hb:∀i,i<ids.length->∃n,A1 σ (ids.getD i 0)=.box n (.d (xs.getD i default))/\(xs.getD i default).flat) :
  Bc n m env σ env ((L4 σ ids).set A (.arr 1 (xs.map D.ref))):=λw I μ a h1 h2 h3=>by
 obtain⟨I',r1,r2,r3⟩:=h1.freezeBoxes ids xs hnd hl hb;have hA':A1 (L4 σ ids) A=.var 1 (ids.map λi=>.ptr i 0):=by
  rw[Wm]
  ·exact hA
  intro hm;obtain⟨i,hi⟩:=GF hm;have hil:i<ids.length:=by
   exact nt
  obtain⟨n',g1,_⟩:=hb i hil;rw[B5,hi] at g1;simp only[EA] at g1;rw[hA] at g1;cases g1
 obtain⟨hid0,_,_,_,_,hcase0⟩:=h1.varOf hA;obtain⟨hid,hal,hown,hes,hdiv,hcase⟩:=r1.varOf hA';obtain⟨s1,s2⟩:=r1.Fq (B:=.arr 1 (xs.map D.ref)) hid hown (by rw[hA'];rfl) (by rw[hA'];rfl) (by rw[hA'];simp[Blk.xs,hl]) (by rw[hA'];rfl) (λ{σ'} k=>by
  rcases hcase with⟨h4,h5⟩|⟨b,base,q1,q2,q3,q4,q7⟩
  ·refine .inl ⟨h4,?_⟩
   have:ids=[]:=Ib
   subst this
   have:xs=[]:=G3 (by simpa using hl.symm)
   rw[this];rfl
  refine .inr ⟨b,base,q1,q2,q3,by simpa[<-hl] using q4,λx hx=>aq,λx hx=>by
   obtain⟨y,_,rfl⟩:=C4.1 hx
   intro c hc
   simp[D.cells] at hc;subst hc;rfl,λi j x y hx hy=>?_⟩
  have hil:i<xs.length:=by
   rcases B9 i xs.length with h'|h'
   ·exact h'
   rw[Bt W3] at hx;cases hx
  rw[DG,BP hil] at hx
  simp only[DF,BF] at hx
  subst hx
  have hj:j=0:=by
   cases j with
   | zero=>rfl
   | succ j=>simp[D.cells] at hy
  subst hj
  simp[D.cells] at hy
  subst hy
  rcases hcase0 with⟨h4,h5⟩|⟨b',base',g1,_,_,_,g7⟩
  ·have:ids=[]:=Ib
   subst this;simp at hl;omega
  have hμ:(b',base')=(b,base):=by rw[g1] at q1;simpa using q1
  obtain⟨rfl,rfl⟩:=Prod.mk.inj hμ
  have hidl:i<ids.length:=oo
  obtain⟨_,u,g8,g9⟩:=g7 i (.ptr (ids.getD i 0) 0) (by rw[DG,BP hidl];simp[hidl])
  refine⟨u,by rw[J3,Gb];exact g8,?_⟩
  have:=r3 i hidl u g9
  rwa [B5,BP hil] at this)
 rw[XM] at s2;exact⟨I',μ,s1,h2.AH (r2.trans s2),(r2.trans s2).mono h3⟩
section
variable {P:Program} {Gl:BM} {n m:Nat} {env:Env} {σ:Sto} {ik:Option IntKind}
def Qf1{i1 i2 i3 b0 b1 tM tI tN tB tE:Nat}{x1 x2 x3 x4:Oper}{l2 l3:List Oper}{oR oN oE:Oper}{body:Code}{t e:TypeId}{K:Ct->Env->Sto->Prop}
  (r1:oR.op=.range t (.tmp tM)) (r2:oR.guard=none) (r3:oR.dst=some tI) (n1:oN.op=.next (.tmp tI) false) (n2:oN.guard=none) (n3:oN.dst=some tN) (q1:oE.op=.entry (.tmp tI)) (q2:oE.guard=none) (q3:oE.dst=some tE)
  (u1:tI<n) (u2:tN<n) (u3:tE<n) (ht:Co P t=some (ik,e))
  (h1:Ab P Gl n [x1,x2,x3,x4,oR].toArray false [x1,x2,x3,x4] env σ (λe1 s1=>∃e2 s2 j,∃f:Aw->Option AV,∃J:List Aw->Env->Sto->Prop,Bc n m e1 s1 e2 s2/\Bl e2 tM=.AF j/\A1 s2 j=.map ik f/\(∀k v,F3 ik k->f k=some v->Nj s2.length v) /\
   (∃E S,Bc n (s2.length+1) (AJ e2 (some tI) (.ptr s2.length 0)) (s2.set j .dead++[.BS 0 []]) E S/\J [] E S) /\
   (∀D E S,J D E S->Bl E tI=.ptr s2.length 0/\A1 S s2.length=.BS 0 []) /\
   (∀D E S,J D E S->∀b:Bool,Ab P Gl n (oN::l2).toArray false l2 (AJ E (some tN) (if b=true then .Aj [true,.undef,.undef] else .Aj [false])) S (λe3 s3=>Bl e3 tB=.d (.bool b)/\Bc n (s2.length+1) e3 s3 E S)) /\
   (∀D E S k v,J D E S->k∉D->F3 ik k->f k=some v->Ab P Gl n (oE::l3).toArray false l3 (AJ E (some tE) (.Aj [Sn ik k,v])) S (λe3 s3=>AWp P Gl n (s2.length+1) body e3 s3 (Gm b1 (H2 (Gm b0 K) λe4 s4=>∃E' S',Bc n (s2.length+1) e4 s4 E' S'/\J (k::D) E' S')))) /\
   (∀D E S,J D E S->(∀k v,F3 ik k->f k=some v->k∈D)->K .normal E S))) :
  AWp P Gl n m (.seq (.region i1 [x1,x2,x3,x4,oR].toArray false) (.block b0 (.loop (.seq (.region i2 (oN::l2).toArray false) (.seq (.cond (.tmp tB) .skip (.exit b0)) (.block b1 (.seq (.region i3 (oE::l3).toArray false) body))))))) env σ K:=
 cr (l1:=[x1,x2,x3,x4]) rfl rfl rfl r1 r2 r3 n1 n2 n3 q1 q2 q3 u1 u2 u3 ht h1
def Qf2{i1 i2 i3 b0 b1 tM tI tN tB tE:Nat}{x1:Oper}{l2 l3:List Oper}{oR oN oE:Oper}{body:Code}{t e:TypeId}{K:Ct->Env->Sto->Prop}
  (r1:oR.op=.range t (.tmp tM)) (r2:oR.guard=none) (r3:oR.dst=some tI) (n1:oN.op=.next (.tmp tI) false) (n2:oN.guard=none) (n3:oN.dst=some tN) (q1:oE.op=.entry (.tmp tI)) (q2:oE.guard=none) (q3:oE.dst=some tE)
  (u1:tI<n) (u2:tN<n) (u3:tE<n) (ht:Co P t=some (ik,e))
  (h1:Ab P Gl n [x1,oR].toArray false [x1] env σ (λe1 s1=>∃e2 s2 j,∃f:Aw->Option AV,∃J:List Aw->Env->Sto->Prop,Bc n m e1 s1 e2 s2/\Bl e2 tM=.AF j/\A1 s2 j=.map ik f/\(∀k v,F3 ik k->f k=some v->Nj s2.length v) /\
   (∃E S,Bc n (s2.length+1) (AJ e2 (some tI) (.ptr s2.length 0)) (s2.set j .dead++[.BS 0 []]) E S/\J [] E S) /\
   (∀D E S,J D E S->Bl E tI=.ptr s2.length 0/\A1 S s2.length=.BS 0 []) /\
   (∀D E S,J D E S->∀b:Bool,Ab P Gl n (oN::l2).toArray false l2 (AJ E (some tN) (if b=true then .Aj [true,.undef,.undef] else .Aj [false])) S (λe3 s3=>Bl e3 tB=.d (.bool b)/\Bc n (s2.length+1) e3 s3 E S)) /\
   (∀D E S k v,J D E S->k∉D->F3 ik k->f k=some v->Ab P Gl n (oE::l3).toArray false l3 (AJ E (some tE) (.Aj [Sn ik k,v])) S (λe3 s3=>AWp P Gl n (s2.length+1) body e3 s3 (Gm b1 (H2 (Gm b0 K) λe4 s4=>∃E' S',Bc n (s2.length+1) e4 s4 E' S'/\J (k::D) E' S')))) /\
   (∀D E S,J D E S->(∀k v,F3 ik k->f k=some v->k∈D)->K .normal E S))) :
  AWp P Gl n m (.seq (.region i1 [x1,oR].toArray false) (.block b0 (.loop (.seq (.region i2 (oN::l2).toArray false) (.seq (.cond (.tmp tB) .skip (.exit b0)) (.block b1 (.seq (.region i3 (oE::l3).toArray false) body))))))) env σ K:=
 cr (l1:=[x1]) rfl rfl rfl r1 r2 r3 n1 n2 n3 q1 q2 q3 u1 u2 u3 ht h1
end
end Go.AM


namespace Go.AM
def SC(F:FuncId->FuncId):Callee->Callee
 | .value (.func f)=>.value (.func (F f))
 | c=>c
def Jm(T:TypeId->TypeId)(F:FuncId->FuncId):Op->Op
 | .load t x=>.load (T t) x
 | .store t a x=>.store (T t) a x
 | .binOp o t x y u=>.binOp o (T t) x y (T u)
 | .unOp o t x=>.unOp o (T t) x
 | .convert s t x=>.convert (T s) (T t) x
 | .indexAddr t x i=>.indexAddr (T t) x i
 | .call c=>.call ⟨SC F c.callee,c.args,(c.argTypes.toList.map T).toArray⟩
 | o=>o
def Yl(T:TypeId->TypeId)(F:FuncId->FuncId)(o:Oper):Oper:=⟨o.dst,Jm T F o.op,T o.type,o.pos,o.after,o.guard⟩
def Ff(T:TypeId->TypeId)(F:FuncId->FuncId):Code->Code
 | .region i l d=>.region i (l.toList.map (Yl T F)).toArray d
 | .seq a b=>.seq (Ff T F a) (Ff T F b)
 | .cond c a b=>.cond c (Ff T F a) (Ff T F b)
 | .block i b=>.block i (Ff T F b)
 | .loop b=>.loop (Ff T F b)
 | .scope b=>.scope (Ff T F b)
 | c=>c
def tyR(l:List (Nat×Nat))(t:TypeId):TypeId:=match l.find? (λp=>p.1==t) with|some p=>p.2|none=>t
def PG(P:Program)(T:TypeId->TypeId)(F:FuncId->FuncId)(b:Func)(n:FuncId):Prop:=
 ∃fn,P.funcs[n]? = some fn/\(fn.name == "runtime.NumGoroutine")=false/\fn.body=b.body.map (Ff T F)/\fn.ntmps=b.ntmps/\fn.results=b.results
def Oo{P:Program}{Gl:BM}{S:Sto}{T:TypeId->TypeId}{F:FuncId->FuncId}{b:Func}{n:FuncId}{c:Code}{args:List AV}{R:AV->Sto->Prop}(h:PG P T F b n)(hb:b.body=some c)(hn:args.length<=b.ntmps)
  (hw:AWp P Gl b.ntmps S.length (Ff T F c) (B6 args 0) S (Ss P S.length b.results.toList R)):AW P Gl n args S R:=by
 obtain⟨fn,h1,h2,h3,h4,h5⟩:=h;refine Fv h1 h2 (c:=Ff T F c) (by rw[h3,hb];rfl) (by rw[h4];exact hn) ?_;rw[h4,h5];exact hw
section
variable {τ:TypeId->TypeId} {φ:FuncId->FuncId}
end
def Bax:(∀(T:TypeId->TypeId)(F:FuncId->FuncId)(i:Nat)(l:List Oper)(d:Bool),Ff T F (.region i l.toArray d)=.region i (l.map (Yl T F)).toArray d)/\(∀(T:TypeId->TypeId)(F:FuncId->FuncId)a b,Ff T F (.seq a b)=.seq (Ff T F a) (Ff T F b))/\(∀(T:TypeId->TypeId)(F:FuncId->FuncId)c a b,Ff T F (.cond c a b)=.cond c (Ff T F a) (Ff T F b))/\(∀(T:TypeId->TypeId)(F:FuncId->FuncId)i b,Ff T F (.block i b)=.block i (Ff T F b))/\(∀(T:TypeId->TypeId)(F:FuncId->FuncId)b,Ff T F (.loop b)=.loop (Ff T F b))/\(∀(T:TypeId->TypeId)(F:FuncId->FuncId),Ff T F .skip=.skip)/\(∀(T:TypeId->TypeId)(F:FuncId->FuncId)i,Ff T F (.exit i)=.exit i)/\(∀(T:TypeId->TypeId)(F:FuncId->FuncId),Ff T F .ret=.ret)/\(∀(T:TypeId->TypeId)(F:FuncId->FuncId)d o t p a g,Yl T F ⟨d,o,t,p,a,g⟩=⟨d,Jm T F o,T t,p,a,g⟩)/\(∀(T:TypeId->TypeId)(F:FuncId->FuncId)t x,Jm T F (.load t x)=.load (T t) x)/\(∀(T:TypeId->TypeId)(F:FuncId->FuncId)t a x,Jm T F (.store t a x)=.store (T t) a x)/\(∀(T:TypeId->TypeId)(F:FuncId->FuncId)o t u x y,Jm T F (.binOp o t x y u)=.binOp o (T t) x y (T u))/\(∀(T:TypeId->TypeId)(F:FuncId->FuncId)o t x,Jm T F (.unOp o t x)=.unOp o (T t) x)/\(∀(T:TypeId->TypeId)(F:FuncId->FuncId)s t x,Jm T F (.convert s t x)=.convert (T s) (T t) x)/\(∀(T:TypeId->TypeId)(F:FuncId->FuncId)t x i,Jm T F (.indexAddr t x i)=.indexAddr (T t) x i)/\(∀(T:TypeId->TypeId)(F:FuncId->FuncId)(c:Callee)(az:Array Operand)(ts:List TypeId),Jm T F (.call ⟨c,az,ts.toArray⟩)=.call ⟨SC F c,az,(ts.map T).toArray⟩)/\(∀(T:TypeId->TypeId)(F:FuncId->FuncId)x,Jm T F (.move x)=.move x)/\(∀(T:TypeId->TypeId)(F:FuncId->FuncId)x,Jm T F (.assign x)=.assign x)/\(∀(T:TypeId->TypeId)(F:FuncId->FuncId)c a b,Jm T F (.pick c a b)=.pick c a b)/\(∀(F:FuncId->FuncId)f,SC F (.value (.func f))=.value (.func (F f)))/\(∀(F:FuncId->FuncId)t,SC F (.value (.tmp t))=.value (.tmp t))/\(∀(F:FuncId->FuncId)b,SC F (.builtin b)=.builtin b):=Et
def Q5j:=Bax
def uq(t:TypeId):tyR [] t=t:=rfl
def xU(a b:Nat)(l:List (Nat×Nat))(t:TypeId):tyR ((a,b)::l) t=if a=t then b else tyR l t:=by
 unfold tyR;by_cases h:a=t
 ·rw[AD h,List.find?_cons_of_pos Dy]
 rw[A7 h,List.find?_cons_of_neg Dy]
def ElG(g:Bool)(es:Nat)(x:D):Prop:=x.isAgg=g/\x.cells.length=es
def ElG.at{g:Bool}{Dm:D->Prop}{es:Nat}(hD:∀x,Dm x->ElG g es x){ys:List D}(h:∀y∈ys,Dm y){i:Nat}(hi:i<ys.length):(ys.getD i default).isAgg=g/\(ys.getD i default).cells.length=es:=by
 exact b_
end Go.AM


namespace Go.AM
variable {P:Program} {Gl:BM} {n m:Nat} {w:World} {I:Im} {μ:Pos} {σ:Sto} {env:Env}
structure VM(ik:Option IntKind)(f:Aw->Option AV)(L:List Aw):Prop where
 nd:L.Nodup
 fit:∀k∈L,F3 ik k/\(f k).isSome=true
 all:∀k,F3 ik k->(f k).isSome=true->k∈L
def ru{ik:Option IntKind}{f:Aw->Option AV}{es:List MapEntry}{L:List Aw}(h:KH w I μ σ ik f es)(hL:VM ik f L):es.length=L.length:=by
 have hp:(es.map (·.key)).Perm (L.map (DL ik)):=by
  rw[List.perm_ext_iff_of_nodup]
  ·intro v;simp only[C4];constructor
   ·rintro⟨e,he,rfl⟩;obtain⟨k,hk,hv⟩:=h.keys e he;refine⟨k,hL.all k hk ?_,hv.symm⟩;cases hf:f k with
    | none=>exact absurd hv (h.Gr k hk hf e he)
    | some v=>rfl
   rintro⟨k,hk,rfl⟩;obtain⟨hk1,hk2⟩:=hL.fit k hk;obtain⟨v,hv⟩:=Fa.1 hk2;obtain⟨e,he,hek,_⟩:=h.Iw k v hk1 hv;exact⟨e,he,hek⟩
  ·rw[List.Nodup,O8];exact h.nodup
  rw[List.Nodup,O8];exact hL.nd.imp_of_mem λ{a b} ha hb hab e=>hab (SF (hL.fit a ha).1 (hL.fit b hb).1 e)
 simpa using hp.length_eq
def Qei{ik:Option IntKind}{f:Aw->Option AV}{t e ty:TypeId}{j:Nat}{v:Value}{L:List Aw}(hR:Rel w I μ σ)(hv:AL w I μ σ v (.AF j))(hb:A1 σ j=.map ik f)(ht:Co P t=some (ik,e))(hL:VM ik f L):
  (Builtin.len_ #[t] ty #[v]).run P w=.ok (.int .i64 L.length) w:=by
 have hal:Br σ j:=by unfold Br;rw[hb];rfl
 cases hv with
 | AF _ _ hid h=>
  obtain⟨b,h1,rfl⟩:=h;have hblk:=hR.D6 j hid;rw[hb] at hblk;obtain⟨b',es,clock,q1,q2,⟨q3,q4⟩,q5⟩:=hblk;have e1:b=b':=by
   have:=(h1 hal).symm.trans q1;exact Ll
  subst e1;have hlen:=ru q5 hL;obtain⟨k,hu,_⟩:=SB ht;have hsz:es.size=L.length:=by rw[<-hlen];simp
  simp only[Builtin.len_,Sem.run_bind,List.getElem?_toArray,O4,run_underlying hu,Result.andThen_ok,MapKept.run_getObj_map q3,Sem.run_pure,goInt,hsz]
def YR{id tM tD:Nat}{all:Array Oper}{l1 l2:List Oper}{oL:Oper}{t e:TypeId}{ik:Option IntKind}{K:Ct->Env->Sto->Prop}
  (ha:all=(l1++oL::l2).toArray) (q1:oL.op=.call {callee:=.builtin .len,args:=#[.tmp tM],argTypes:=#[t]}) (q2:oL.guard=none) (q3:oL.dst=some tD) (hd:tD<n) (ht:Co P t=some (ik,e))
  (h:Ab P Gl n all false l1 env σ (λe1 s1=>∃j f L,Bl e1 tM=.AF j/\A1 s1 j=.map ik f/\VM ik f L/\Ab P Gl n all false l2 (AJ e1 (some tD) (.d (.int .i64 L.length))) s1 (K .normal))) :
  AWp P Gl n m (.region id all false) env σ K:=by
 intro w I μ a hR hG hE hm;refine wp_region_list ?_;rw[show all.toList=l1++oL::l2 by rw[ha]];refine NV (oL::l2) l1 env σ h hR hG hE hm λe1 s1 w1 I1 μ1 a1 hk k2 k3 k4 k5=>?_;obtain⟨j,f,L,h1,h2,h3,h4⟩:=hk;have hmr:AL w1 I1 μ1 s1 (a1.eval (.tmp tM)) (.AF j):=by
  have:=k4.slot tM;rw[h1] at this;exact this
 refine wpList_plain q2 λK' hK'=>?_;unfold Oper.wp;have hrun:=Qei (P:=P) (ty:=oL.type) k2 hmr h2 ht h3;obtain⟨dst,op,ty,pos,af,gd⟩:=oL;simp only at q1 q2 q3 hrun;subst q1;subst q2;subst q3;have hx:(execOp a1.eval ⟨some tD,.call {callee:=.builtin .len,args:=#[.tmp tM],argTypes:=#[t]},ty,pos,af,none⟩).run P w1=.ok (.value (.int .i64 L.length)) w1:=by
  have e:∃cs,(execOp a1.eval ⟨some tD,.call ⟨.builtin .len,#[.tmp tM],#[t]⟩,ty,pos,af,none⟩).run P w1=(builtin .len #[t] ty cs (#[Operand.tmp tM].map a1.eval)).run P w1:=
   ⟨_,lV⟩
  obtain⟨cs,e⟩:=e;rw[e];simp[builtin,hrun,Result.andThen]
 rw[hx];refine hK' _ _ ?_;exact Kd l2 _ _ h4 k2 k3 (k4.AJ (dst:=some tD) (by simpa[C8] using hd) (.d _ _ (.int _ _))) k5.len λenv' σ' w' I' μ' a' g1 g2 g3 g4 g5=>⟨.normal,env',σ',I',μ',trivial,g2,g3,g4,k5.trans g5,g1⟩
def AWp.Dl{c:Operand}{x y:Code}{K:Ct->Env->Sto->Prop}(hg:evG Gl env c=true)(hc:evU Gl env c=.d (.bool true))(h:AWp P Gl n m x env σ K):AWp P Gl n m (.cond c x y) env σ K:=by
 intro w I μ a h1 h2 h3 h4;have hr:=H6 h2 h3 hg;rw[hc] at hr;have hb:a.eval c=.bool true:=by
  generalize a.eval c=v at *;cases hr.Ar;rfl
 exact wp_cond_split hb (λ_=>h w I μ a h1 h2 h3 h4) (λe=>by cases e)
def gu{all:Array Oper}{rest:List Oper}{KK:Env->Sto->Prop}{f:FuncId}{dst:Option Tmp}{es k:Nat}{xs ys:List D}(i:Nat)(hb:A1 σ i=.arr es xs)
  (h:AW P Gl f [.A8 0 0 k] [.arr es xs] (λr s=>r=.Aj []/\s=[.arr es ys])) (h2:Ab P Gl n all false rest (AJ env dst (.Aj [])) (σ.set i (.arr es ys)) KK) :
  FT P Gl n all false dst rest (.fn f []) [.A8 i 0 k] env σ KK:=by
 have hi:i<σ.length:=by
  exact oY
 refine QH i hi hb (Q:=λr s=>r=.Aj []/\s=[.arr es ys]) ?_ λr s hr=>?_
 ·exact nf
 obtain⟨rfl,rfl⟩:=hr;rw[Ry hi,SH];exact h2
def Qfu{all:Array Oper}{rest:List Oper}{KK:Env->Sto->Prop}{f:FuncId}{dst:Option Tmp}{es k k':Nat}{xs:List D}(i:Nat)(hb:A1 σ i=.arr es xs){Q:List D->Prop}
  (h:AW P Gl f [.A8 0 0 k] [.arr es xs] (λr s=>r=.A8 0 0 k'/\∃ys,s=[.arr es ys]/\Q ys)) (h2:∀ys,Q ys->Ab P Gl n all false rest (AJ env dst (.A8 i 0 k')) (σ.set i (.arr es ys)) KK) :
  FT P Gl n all false dst rest (.fn f []) [.A8 i 0 k] env σ KK:=by
 have hi:i<σ.length:=by
  exact oY
 refine QH i hi hb (Q:=λr s=>r=.A8 0 0 k'/\∃ys,s=[.arr es ys]/\Q ys) ?_ λr s hr=>?_
 ·exact nf
 obtain⟨rfl,ys,rfl,hq⟩:=hr;rw[Ry hi,dZ];exact h2 ys hq
def Up{i es:Nat}{xs:List D}(hb:A1 σ i=.arr es xs):freezeL σ [i]=σ.set i (.BS es xs):=by
 unfold freezeL;rw[GQ,Nx];unfold Go.AM.freeze;rw[hb];rfl
def qi{all:Array Oper}{rest:List Oper}{KK:Env->Sto->Prop}{f:FuncId}{dst:Option Tmp}{es es':Nat}{xs ys:List D}(i:Nat)(hb:A1 σ i=.arr es xs)(h:KG P Gl f [.d (.sl xs)] es' ys)
  (h2:Ab P Gl n all false rest (AJ env dst (.A8 σ.length 0 ys.length)) (σ.set i (.BS es xs)++[.arr es' ys]) KK):FT P Gl n all false dst rest (.fn f []) [.A8 i 0 xs.length] env σ KK:=by
 refine Y3 ?_;have e1:([AV.A8 i 0 xs.length]++[]).map (IC σ)=[.d (.sl xs)]:=by
  show[IC _ _]=_;rw[Uo _ _ _ _ RU,hb];show[AV.d (.sl ((xs.drop 0).take xs.length))]=_;rw[IZ,BL]
 have e2:List.flatMap (KM σ) ([AV.A8 i 0 xs.length]++[])=[i]:=by
  show(if(A1 _ _).AY=true then[i] else[])++_=_;rw[hb];rfl
 rw[e1,e2,Up hb];refine(h _).mono λr s hh=>?_;obtain⟨rfl,rfl⟩:=hh;rw[BH];exact h2
def KO{Θ:Type}(P:Program)(Gl:BM)(n m:Nat)(all:Array Oper)(E:Θ->(Nat->Bool)->Env)(S:Θ->(Nat->Bool)->Sto)(Ok:Θ->(Nat->Bool)->Prop):Nat->List Oper->Prop
 | _,[]=>True
 | i,o::r=>(∀(H:Θ) (L:Nat->Bool),Ok H L->J8 all L->L i=false->EM L o.after.toList->Ab P Gl n all false [o] (E H L) (S H L) λe' s'=>∃θ',Bc n m e' s' (E θ' (D3 L i)) (S θ' (D3 L i))/\Ok θ' (D3 L i))/\KO P Gl n m all E S Ok (i+1) r
def cY{Θ:Type}{all:Array Oper}{E:Θ->(Nat->Bool)->Env}{S:Θ->(Nat->Bool)->Sto}{Ok:Θ->(Nat->Bool)->Prop}:∀{l:List Oper} {k i:Nat} {o:Oper},KO P Gl n m all E S Ok k l->l[i]? = some o ->
  ∀(H:Θ) (L:Nat->Bool),Ok H L->J8 all L->L (k+i)=false->EM L o.after.toList->Ab P Gl n all false [o] (E H L) (S H L) λe' s'=>∃θ',Bc n m e' s' (E θ' (D3 L (k+i))) (S θ' (D3 L (k+i)))/\Ok θ' (D3 L (k+i))
 | [],k,i,o,_,h=>Mf
 | x::r,k,0,o,hs,h=>by
  exact bq
 | x::r,k,i+1,o,hs,h=>by
  simp only[O5] at h;have:=cY hs.2 h
  rwa [show k+1+i=k+(i+1) by omega] at this
def NJ{Θ:Type}{all:Array Oper}(E:Θ->(Nat->Bool)->Env)(S:Θ->(Nat->Bool)->Sto)(Ok:Θ->(Nat->Bool)->Prop){K:Env->Sto->Prop}(ht:Qm all=true)
  (h0:∃H,Bc n m env σ (E H λi=>decide (all.size<=i)) (S H λi=>decide (all.size<=i))/\Ok H λi=>decide (all.size<=i))
  (hs:KO P Gl n m all E S Ok 0 all.toList) (hk:∀H,(Ok H λ_=>true)->K (E H λ_=>true) (S H λ_=>true)):VI P Gl n m all env σ K:=by
 obtain⟨θ0,hw0,hok0⟩:=h0;have h00:(λi=>(Array.replicate all.size false).getD i true)=λi=>decide (all.size<=i):=by
  exact oM
 refine⟨λlisted e s=>∃H,e=E H (λi=>listed.getD i true)/\s=S H (λi=>listed.getD i true)/\Ok H (λi=>listed.getD i true)/\J8 all (λi=>listed.getD i true),⟨_,_,hw0,θ0,?_⟩,λlisted e s hJ hsz hrd=>?_,λlisted e s i hJ hsz hi o ho=>?_⟩
 ·rw[h00];refine⟨rfl,rfl,hok0,?_⟩;exact bn
 ·obtain⟨H,rfl,rfl,hok,_⟩:=hJ;have hall:∀i,listed.getD i true=true:=λi=>by
   exact cC
  have:(λi=>listed.getD i true)=λ_=>true:=funext hall;rw[this] at hok ⊢;exact hk H hok
 obtain⟨H,rfl,rfl,hok,hcl⟩:=hJ;obtain⟨g1,g2,o',g3,g4⟩:=Kc.1 hi;rw[ho] at g3;cases g3;have hb:=λe he hb=>Uv ht ho e he hb;have hpr:EM (λi=>listed.getD i true) o.after.toList:=UX λe he hbb=>by
  have h1:=g4 e he hbb;have:=hb e he hbb
  rwa [MC oo] at h1
 have:=cY (i:=i) (o:=o) hs (by simpa using ho) H (λi=>listed.getD i true) hok hcl TR hpr;have eu:(λj=>(listed.setIfInBounds i true).getD j true)=D3 (λi=>listed.getD i true) (0+i):=by
  exact bU
 refine IK (λe' s' h=>?_) _ _ _ this;obtain⟨θ',h,hok'⟩:=h;refine⟨_,_,h,θ',congrArg (E θ') eu.symm,congrArg (S θ') eu.symm,?_,?_⟩
 ·rw[eu];exact hok'
 rw[eu];have:=hcl.Ev ho hpr
 rwa [EU]
def NM{id:Nat}{all:Array Oper}{K:Ct->Env->Sto->Prop}(hP:P.follows .mixedOrders=true)(h:VI P Gl n m all env σ (K .normal)):AWp P Gl n m (.region id all true) env σ K:=by
 intro w I μ a hR hG hE hm;obtain⟨J,⟨e0,s0,hw0,hJ⟩,h1,h2⟩:=h;refine wp_region_any hP ?_;have hs:=HN.drew w;have hk2:=hs.AH (I:=I) (μ:=μ) (σ:=σ);have hE2:=hE.AH hk2;obtain⟨I0,μ0,a1,a2,a3⟩:=hw0 _ I μ a (hs.rel hR) hE2 hm;refine dV (m:=m) h1 h2 all.size _ e0 s0 _ I0 μ0 a A6 ?_ hJ a1 ((hG.AH hk2).AH a3) a2 a3.len λenv' σ' w' I' μ' a' k1 k2 k3 k4 k5=>⟨.normal,env',σ',I',μ',trivial,k2,k3,k4,(hk2.mono hm).trans (a3.trans k5),k1⟩;exact bY
def AWp.P4{c:Operand}{x y:Code}{K:Ct->Env->Sto->Prop}(hg:evG Gl env c=true)(hc:evU Gl env c=.d (.bool false))(h:AWp P Gl n m y env σ K):AWp P Gl n m (.cond c x y) env σ K:=by
 intro w I μ a h1 h2 h3 h4;have hr:=H6 h2 h3 hg;rw[hc] at hr;have hb:a.eval c=.bool false:=by
  generalize a.eval c=v at *;cases hr.Ar;rfl
 exact wp_cond_split hb (λe=>by cases e) (λ_=>h w I μ a h1 h2 h3 h4)
end Go.AM


namespace Go.AM
variable {P:Program} {Gl:BM} {n m:Nat} {w:World} {I:Im} {μ:Pos} {σ:Sto} {env:Env}
def xY(h:Rel w I μ σ){t e:TypeId}{es:Nat}{zv v:Value}{cs:List AV}(hv:AL w I μ σ v (.agg cs))(hte:B_ P t=some e)(hz1:tsz P e=some es)(hz3:Bj P e=some zv)(hzs:zv.cells.size=es)(hcs:cs.length=es)(hes:0<es)(hsm:es<=16777216):
  ∃z w' μ',(Instr.buildSlice t 1 #[(0,v)]).run P w=.ok z w'/\Rel w' I μ' (σ++[.var es cs])/\Ay σ.length w I μ σ w' I μ' (σ++[.var es cs])/\AL w' I μ' (σ++[.var es cs]) z (.A8 σ.length 0 1):=by
 cases hv with
 | agg vs _ hl hone hr=>
 obtain⟨i,hi,i1,i3⟩:∃i,P.info? e=some i/\i.size=es/\i.zero=some zv:=by
  unfold tsz at hz1;unfold Bj at hz3;cases hi:P.info? e with
  | none=>rw[hi] at hz1;cases hz1
  | some i=>rw[hi] at hz1 hz3;simp at hz1 hz3;exact⟨i,rfl,hz1,hz3⟩
 have hvl:vs.length=es:=hl.trans hcs;have hvc:(Value.agg vs.toArray).cells=vs.toArray:=rfl;have hfill:Instr.fill (λi=>some (i*es,es)) ((Array.range (1*es)).map (zv.cells[· % zv.cells.size]!)) [(0,.agg vs.toArray)]=some vs.toArray:=by
  obtain⟨f1,f2⟩:=Wj 0 vs.toArray vs rfl ((Array.range (1*es)).map (zv.cells[· % zv.cells.size]!)) (by simp[hvl]);unfold Instr.fill;simp only[hvc,MS];rw[A7 (by simp[hvl])];unfold Instr.fill;congr 1;apply Array.ext_getElem?;intro q;rw[f2 q];by_cases hq:q<vs.length
  ·rw[AD oo];simp
  rw[A7 oo,I_ Ap,I_ Ap]
 have hrun:=run_buildSlice (P:=P) w t e 1 #[(0,.agg vs.toArray)] vs.toArray i zv (Hj hte) hi i3 TQ TQ (by rw[i1];exact hfill);have kk:=Jt h (.cells vs.toArray e) (w.heap.size,0) (.var es cs);have hdiv:cs.length / es=1:=by rw[hcs];exact Nat.div_self hes
 have hb:=h.alloc (.cells vs.toArray e) (.var es cs) ⟨⟨hes,by rw[hdiv,hcs,Nat.one_mul]⟩,.inr ⟨w.heap.size,0,Eh _ _ _,λhI=>by have:=h.Bs _ hI;omega,SJ _ _ _,by rw[Kb];simp;omega,λj c hc=>by
  have hj:j<vs.length:=by
   rcases B9 j cs.length with h'|h'
   ·omega
   exact Te
  have hvj:vs[j]? = some vs[j]:=BP hj
  refine⟨hone c (Dn hc),vs[j],?_,(hr j _ c hvj hc).AH kk⟩
  rw[World.cell?_alloc_new]
  simp[hj]⟩⟩
 refine⟨_,_,_,hrun,hb,kk,?_⟩;refine .A8 _ _ _ _ A6 (.inr ⟨w.heap.size,0,es,1,λ_=>?_,AR _,A6⟩);rw[Cd];exact⟨Eh _ _ _,rfl,rfl,by simp[Blk.xs,hdiv],by rw[Kb];simp;omega⟩
def kJ{id tM tD:Nat}{all:Array Oper}{l1 l2:List Oper}{oL:Oper}{t e:TypeId}{es:Nat}{zv:Value}{K:Ct->Env->Sto->Prop}
  (ha:all=(l1++oL::l2).toArray) (q1:oL.op=.buildSlice t 1 #[(0,.tmp tM)]) (q2:oL.guard=none) (q3:oL.dst=some tD) (hd:tD<n) (hte:B_ P t=some e) (hz1:tsz P e=some es) (hz3:Bj P e=some zv) (hzs:zv.cells.size=es) (hes:0<es) (hsm:es<=16777216)
  (h:Ab P Gl n all false l1 env σ (λe1 s1=>∃cs,Bl e1 tM=.agg cs/\cs.length=es/\Ab P Gl n all false l2 (AJ e1 (some tD) (.A8 s1.length 0 1)) (s1++[.var es cs]) (K .normal))) :
  AWp P Gl n m (.region id all false) env σ K:=by
 intro w I μ a hR hG hE hm;refine wp_region_list ?_;rw[show all.toList=l1++oL::l2 by rw[ha]];refine NV (oL::l2) l1 env σ h hR hG hE hm λe1 s1 w1 I1 μ1 a1 hk k2 k3 k4 k5=>?_;obtain⟨cs,h1,h2,h3⟩:=hk;have hmr:AL w1 I1 μ1 s1 (a1.eval (.tmp tM)) (.agg cs):=by
  have:=k4.slot tM;rw[h1] at this;exact this
 refine wpList_plain q2 λK' hK'=>?_;unfold Oper.wp;obtain⟨z,w2,μ2,hrun,R2,kk,hz⟩:=xY (P:=P) k2 hmr hte hz1 hz3 hzs h2 hes hsm;obtain⟨dst,op,ty,pos,af,gd⟩:=oL;simp only at q1 q2 q3;subst q1;subst q2;subst q3;have hx:(execOp a1.eval ⟨some tD,.buildSlice t 1 #[(0,.tmp tM)],ty,pos,af,none⟩).run P w1=.ok (.value z) w2:=by
  have e0:(#[(0,Operand.tmp tM)]:Array (Nat×Operand)).map (λx=>(x.1,a1.eval x.2))=#[(0,a1.eval (.tmp tM))]:=A6;simp only[execOp,Sem.run_bind,e0,hrun,Result.andThen_ok,Sem.run_pure]
 rw[hx];refine hK' _ _ ?_;exact Kd l2 _ _ h3 R2 (k3.AH kk) ((k4.AH kk).AJ (dst:=some tD) (by simpa[C8] using hd) hz) (by have:=k5.len;simp;omega) λenv' σ' w' I' μ' a' g1 g2 g3 g4 g5=>⟨.normal,env',σ',I',μ',trivial,g2,g3,g4,(k5.trans (kk.mono k5.len)).trans g5,g1⟩
def Fm{c:Code}{K:Ct->Env->Sto->Prop}{τ:Type}(E:τ->Env)(S:τ->Sto)(Inv:τ->Prop)(V:τ->Nat)(x0:τ)(h0:Inv x0)(hw:Bc n m env σ (E x0) (S x0))
  (hs:∀x,Inv x->AWp P Gl n m c (E x) (S x) (H2 K λe s=>∃y,Inv y/\V y<V x/\Bc n m e s (E y) (S y))) :
  AWp P Gl n m (.loop c) env σ K:=by
 refine AWp.loop ?_
 classical
 let μ:Env->Sto->Nat:=λe s=>if h:∃k,∃x,Inv x/\e=E x/\s=S x/\V x=k then Classical.choose (NT h) else 0
 have hμ:∀x,Inv x->(∃y,Inv y/\E x=E y/\S x=S y/\V y=μ (E x) (S x))/\μ (E x) (S x)<=V x:=λx hx=>by
  have h:∃k,∃y,Inv y/\E x=E y/\S x=S y/\V y=k:=⟨_,x,hx,rfl,rfl,rfl⟩;have e:μ (E x) (S x)=Classical.choose (NT h):=by simp only[μ];rw[JR h]
  exact n_
 refine⟨λe s=>∃x,Inv x/\e=E x/\s=S x,μ,⟨_,_,hw,x0,h0,rfl,rfl⟩,?_⟩;rintro e s ⟨x,hx,rfl,rfl⟩;obtain⟨⟨y,hy,e1,e2,e3⟩,_⟩:=hμ x hx;rw[e1,e2];rw[e1,e2] at e3;refine AWp.mono (hs y hy) (λa b c h=>?_)
 revert h
 refine Og (λ_ _ _ h=>h) (λe s h=>?_) a b c;obtain⟨z,hz,hlt,hw⟩:=h;refine⟨_,_,hw,⟨z,hz,rfl,rfl⟩,?_⟩;have:=(hμ z hz).2;omega
end Go.AM


namespace Go.AM
variable {P:Program} {Gl:BM} {w:World} {I:Im} {μ:Pos} {σ:Sto}
def Y7{n m:Nat}{env:Env}(id k i o len es:Nat){xs:List D}{N:Nat}{cs:List AV}(hb:A1 σ id=.box N (.agg cs))(hid:id<σ.length)(hk:cs.getD k .undef=.A8 i o len)(hkl:k<cs.length)(hi:A1 σ i=.arr es xs):
  Bc n m env σ env ((σ.set i (.BS es xs)).set id (.box N (.agg (cs.set k (.d (.sl ((xs.drop o).take len))))))):=λw I μ a h1 h2 h3=>by
 obtain⟨I',r1,r2,r3,r4,r5,r6,r7,r8⟩:=On h1 [i];have hfz:freezeL σ [i]=σ.set i (.BS es xs):=Up hi;have hni:id∉[i]:=λhm=>by
  rw[CG] at hm;rw[hm,hi] at hb;cases hb
 have hB:=h1.D6 id hid;rw[hb] at hB;obtain⟨b,base,q1,q2,q3,q4,q5,q6⟩:=hB;obtain⟨s1,s2⟩:=r1.rebox (v':=.agg (cs.set k (.d (.sl ((xs.drop o).take len))))) (by rw[r7 id hni];exact hb) (by rw[r3];exact hid) (by rw[<-q5];simp[AV.AO]) (λj hj=>by
  have hjl:j<cs.length:=by have:cs.length=N:=q5;omega
  have e2:(AV.agg cs).cellAt j=cs[j]:=by show cs.getD j .undef=_;simp[hjl]
  by_cases hjk:j=k
  ·subst hjk
   have e1:(AV.agg (cs.set j (.d (.sl ((xs.drop o).take len))))).cellAt j=.d (Cv σ cs[j]):=by
    have hc:cs[j]=.A8 i o len:=by have:=hk;simpa[hjl] using this
    rw[hc]
    show(cs.set j _).getD j .undef=_
    simp[hjl,Cv,hi,Blk.xs]
   rw[e1,e2]
   obtain⟨t1,_⟩:=q6 j hj
   rw[e2] at t1
   refine⟨by show(Cv σ cs[j]).one=true;exact X7 _ _ t1,λu hu=>.d _ _ ?_⟩
   have hc:cs[j]=.A8 i o len:=by have:=hk;simpa[hjl] using this
   have eD:Cv (freezeL σ [i]) cs[j]=Cv σ cs[j]:=by
    rw[hc];simp[Cv,(λid=>(r5 id).1)]
   have hD1':EH (freezeL σ [i]) cs[j]=true:=by
    rw[hc];show(A1 _ i).AY=true
    rw[(r5 i).2,hi];rfl
   rw[<-eD]
   refine QF r1 hu hD1' λi' hi'=>?_
   rw[hc] at hi'
   have hir:i'=i:=by simpa[HE] using hi'
   subst hir
   exact r4 i' A6 (by rw[hi];rfl)
  have e1:(AV.agg (cs.set k (.d (.sl ((xs.drop o).take len))))).cellAt j=cs[j]:=by
   show(cs.set k _).getD j .undef=_
   rw[B5,IX (λe=>hjk e.symm)]
   simp[hjl]
  rw[e1,e2]
  obtain⟨t1,_⟩:=q6 j hj
  rw[e2] at t1
  exact⟨t1,λu hu=>hu⟩)
 rw[r3] at s2;rw[hfz] at s1 s2 r2;exact⟨I',μ,s1,h2.AH (r2.trans s2),(r2.trans s2).mono h3⟩
def sh{n m:Nat}{env:Env}(id e2 k:Nat){es:Nat}{cs:List AV}(hm:m<=σ.length)(hb:A1 σ id=.var es cs)(hk:cs[k]? = some .AA):
  Bc n m env σ env ((σ++[Blk.arr e2 []]).set id (.var es (cs.set k (.A8 σ.length 0 0)))):=λw I μ a h1 h2 h3=>by
 obtain⟨μ',a1,a2⟩:=h1.Em e2;have hid0:id<σ.length:=by
  exact oZ
 have hb':A1 (σ++[Blk.arr e2 []]) id=.var es cs:=by rw[BB hid0];exact hb
 obtain⟨hid,hal,hown,hes,hdiv,hcase⟩:=a1.varOf hb';obtain⟨r1,r2⟩:=a1.Fq (id:=id) (B:=.var es (cs.set k (.A8 σ.length 0 0))) hid hown (by rw[hb'];rfl) (by rw[hb'];rfl) (by rw[hb'];simp[Blk.xs]) (by rw[hb'];rfl) (λ{σ'} kk=>by
  refine⟨⟨hes,by simpa using hdiv⟩,?_⟩
  rcases hcase with⟨h4,rfl⟩|⟨b,base,q1,q2,q3,q4,q7⟩
  ·simp at hk
  refine .inr ⟨b,base,q1,q2,q3,by simpa using q4,λj c hc=>?_⟩
  by_cases e:k=j
  ·subst e
   have hkl:k<cs.length:=by
    rcases B9 k cs.length with h'|h'
    ·exact h'
    rw[Bt h'] at hk;cases hk
   rw[Lg hkl] at hc
   cases hc
   obtain⟨t1,u,t2,t3⟩:=q7 k _ hk
   refine⟨rfl,u,t2,?_⟩
   cases t3
   exact .A8 _ _ 0 0 (by have:=kk.len;simp at this;omega) (.inl ⟨rfl,none,rfl⟩)
  rw[IX e] at hc
  obtain⟨t1,u,t2,t3⟩:=q7 j c hc
  exact⟨t1,u,t2,t3.AH kk⟩)
 refine⟨I,μ',r1,?_,?_⟩
 ·have k2:=a2.trans (show Ay σ.length w I μ' (σ++[.arr e2 []]) w I μ' _ from⟨r2.os,r2.tape,r2.output,r2.size,r2.Bs,r2.fr,r2.KF,r2.same,r2.bsize,A6,λi hi=>r2.BD i Ap⟩);exact h2.AH k2
 have k2:=a2.trans (show Ay σ.length w I μ' (σ++[.arr e2 []]) w I μ' _ from⟨r2.os,r2.tape,r2.output,r2.size,r2.Bs,r2.fr,r2.KF,r2.same,r2.bsize,A6,λi hi=>r2.BD i Ap⟩);exact k2.mono h3
def eS{n m:Nat}{env:Env}(id e2 N:Nat)(hm:m<=σ.length)(hb:A1 σ id=.var 1 (List.replicate N .AA)):
  Bc n m env σ env ((σ++List.replicate N (Blk.arr e2 [])).set id (.var 1 ((List.range N).map λi=>.A8 (σ.length+i) 0 0))):=by
 have hid0:id<σ.length:=by
  exact oZ
 have key:∀k,k<=N->Bc n m env σ env ((σ++List.replicate k (Blk.arr e2 [])).set id (.var 1 ((List.range N).map λi=>if i<k then .A8 (σ.length+i) 0 0 else .AA))):=λk=>by
  induction k with
  | zero=>
   intro _;have e1:(List.range N).map (λi=>if i<0 then AV.A8 (σ.length+i) 0 0 else .AA)=List.replicate N .AA:=by
    apply Gf;intro j;rcases B9 j N with h|h
    ·simp[h]
    exact nH
   rw[e1,<-hb];have:(σ++List.replicate 0 (Blk.arr e2 [])).set id (A1 σ id)=σ:=by
    rw[List.replicate_zero,FY];apply Gf;intro j;rw[H_];split
    ·rename_i e;subst e;unfold A1;simp[hid0]
    rfl
   rw[this];exact Bc.refl _ _ _ _
  | succ k ih=>
   intro hk;refine(ih oo).trans ?_;have hl:((σ++List.replicate k (Blk.arr e2 [])).set id (.var 1 ((List.range N).map λi=>if i<k then .A8 (σ.length+i) 0 0 else .AA))).length=σ.length+k:=A6;have hB:A1 ((σ++List.replicate k (Blk.arr e2 [])).set id (.var 1 ((List.range N).map λi=>if i<k then .A8 (σ.length+i) 0 0 else .AA))) id=.var 1 ((List.range N).map λi=>if i<k then .A8 (σ.length+i) 0 0 else .AA):=BX Ap;have hw:=sh (n:=n) (m:=m) (env:=env) id e2 k (by rw[hl];omega) hB (by simp[show k<N by omega]);rw[hl] at hw;have e1:((List.range N).map (λi=>if i<k then AV.A8 (σ.length+i) 0 0 else .AA)).set k (.A8 (σ.length+k) 0 0)=(List.range N).map (λi=>if i<k+1 then AV.A8 (σ.length+i) 0 0 else .AA):=by
    apply Gf;intro j;rcases B9 j N with h|h
    ·rw[H_];by_cases e:k=j
     ·subst e;simp[h]
     rw[A7 e];simp only[DG,T7 h,DF,BF];by_cases hj:j<k
     ·rw[AD hj,AD oo]
     rw[A7 hj,A7 oo]
    exact nH
   rw[e1] at hw;have e2':(((σ++List.replicate k (Blk.arr e2 [])).set id (.var 1 ((List.range N).map λi=>if i<k then .A8 (σ.length+i) 0 0 else .AA))++[Blk.arr e2 []]).set id (.var 1 ((List.range N).map λi=>if i<k+1 then .A8 (σ.length+i) 0 0 else .AA)))=(σ++List.replicate (k+1) (Blk.arr e2 [])).set id (.var 1 ((List.range N).map λi=>if i<k+1 then .A8 (σ.length+i) 0 0 else .AA)):=by
    rw[List.replicate_succ',<-MV];apply Gf;intro j;simp only[H_,Bb,BH,IY,Hx];split
    ·rfl
    rename_i hne;simp only[List.getElem?_append,BH,Bb,IY];split
    ·rw[IX hne,List.getElem?_append]
    rfl
   rw[e2'] at hw;exact hw
 have:=key N (AR _);have e:(List.range N).map (λi=>if i<N then AV.A8 (σ.length+i) 0 0 else .AA)=(List.range N).map λi=>.A8 (σ.length+i) 0 0:=MX λi hi=>by rw[AD (CI.1 hi)]
 rwa [e] at this
end Go.AM


namespace Go.AM
variable {P:Program} {Gl:BM}
def AL.low{w w0:World}{I I0:Im}{L μ0:Pos}{S s:Sto}(hf:∀j,(A1 S j).AP=false->A1 s j=A1 S j){v:Value}{c:AV}(h:AL w I L s v c):∀{v0:Value},AL w0 I0 μ0 S v0 c->AL w I L S v c:=by
 have hal:∀{id},Br S id->Br s id/\A1 s id=A1 S id:=λ{id} ha=>by
  have e:=hf id lP;exact⟨by unfold Br at ha ⊢;rw[e];exact ha,e⟩
 induction h with
 | undef v=>intro v0 _;exact .undef v
 | d v x h=>intro v0 _;exact .d v x h
 | AA=>intro v0 _;exact .AA
 | agg vs cs hl hone h ih=>
  intro v0 h0;cases h0 with
  | agg vs0 _ hl0 _ h0=>
   refine .agg vs cs hl hone λi v x hv hx=>?_;exact pD
 | ptr v id off hid h=>
  intro v0 h0;cases h0 with
  | ptr _ _ _ hid0 _=>
   obtain⟨b,base,h2,h3⟩:=h;exact .ptr _ _ _ hid0 ⟨b,base,λha=>h2 (hal ha).1,h3⟩
 | B8 b o es xs i off h=>intro v0 _;exact .B8 b o es xs i off h
 | Al v id i off hid h=>
  intro v0 h0;cases h0 with
  | Al _ _ _ _ hid0 _=>
   obtain⟨b,base,es,h2,h3⟩:=h;exact .Al _ _ _ _ hid0 ⟨b,base,es,λha=>lN,h3⟩
 | A8 v id off len hid h=>
  intro v0 h0;cases h0 with
  | A8 _ _ _ _ hid0 _=>
   refine .A8 _ _ _ _ hid0 ?_;rcases h with h|⟨b,base,es,cap,h2,h3,h4⟩
   ·exact .inl h
   exact .inr ⟨b,base,es,cap,λha=>lN,h3,h4⟩
 | fn f vs caps hl h ih=>
  intro v0 h0;cases h0 with
  | fn _ vs0 _ hl0 h0=>
   refine .fn f vs caps hl λi v x hv hx=>?_;have hi:i<vs0.length:=by
    rw[hl0];rcases B9 i caps.length with h'|h'
    ·exact h'
    exact bm
   exact ih i v x hv hx (h0 i vs0[i] x (BP hi) hx)
 | Aj vs cs hl h ih=>
  intro v0 h0;cases h0 with
  | Aj vs0 _ hl0 h0=>
   refine .Aj vs cs hl λi v x hv hx=>?_;exact pD
 | iff g v x h1 h2 ih=>
  intro v0 h0;cases h0 with
  | iff _ _ _ h3 _=>exact .iff g v x (λhg=>ih hg (h3 hg)) h2
 | AF v id hid h=>
  intro v0 h0;cases h0 with
  | AF _ _ hid0 _=>
   obtain⟨b,h2,h3⟩:=h;exact .AF _ _ hid0 ⟨b,λha=>h2 (hal ha).1,h3⟩
 | BY b=>intro v0 _;exact .BY b
def Rel.low{w w0:World}{I I0:Im}{L μ0:Pos}{S s:Sto}(hl:S.length<=s.length)(hf:∀j,(A1 S j).AP=false->A1 s j=A1 S j)(h:Rel w I L s)(h0:Rel w0 I0 μ0 S):Rel w I L S:=by
 have hown:∀i,(A1 S i).own=true->(A1 s i).own=true:=λi hi=>by rw[hf i (by cases hb:A1 S i<;>simp_all [Blk.own,Blk.AP])];exact hi
 refine⟨h.Bs,λid hid=>?_,λi j b b' o o' hij hi hj h1 h2=>h.apart i j b b' o o' hij (hown i hi) (hown j hj) h1 h2⟩;by_cases hd:(A1 S id).AP=true
 ·cases hb:A1 S id<;>simp_all [Blk.AP,Ft]
 have hd:(A1 S id).AP=false:=by simpa using hd
 have hb:=h.D6 id oo;have hb0:=h0.D6 id hid;rw[hf id hd] at hb;cases hB:A1 S id with
 | dead=>trivial
 | box n v=>
  rw[hB] at hb hb0;obtain⟨b,base,q1,q2,q3,q4,q5,q6⟩:=hb;obtain⟨_,_,_,_,_,_,_,p6⟩:=hb0;refine⟨b,base,q1,q2,q3,q4,q5,λj hj=>?_⟩;obtain⟨r1,u,r2,r3⟩:=q6 j hj;obtain⟨_,u0,_,r0⟩:=p6 j hj;exact⟨r1,u,r2,r3.low hf r0⟩
 | arr es xs=>rw[hB] at hb;exact hb
 | BS es xs=>rw[hB] at hb;exact hb
 | var es cs=>
  rw[hB] at hb hb0;refine⟨hb.1,?_⟩;rcases hb.2 with hb|⟨b,base,q1,q2,q3,q4,q7⟩
  ·exact .inl hb
  refine .inr ⟨b,base,q1,q2,q3,q4,λj c hc=>?_⟩;obtain⟨t1,u,t2,t3⟩:=q7 j c hc;rcases hb0.2 with⟨_,e⟩|⟨_,_,_,_,_,_,p7⟩
  ·rw[e] at hc;simp at hc
  obtain⟨_,u0,_,r0⟩:=p7 j c hc;exact⟨t1,u,t2,t3.low hf r0⟩
 | map ik f=>
  rw[hB] at hb hb0;obtain⟨b,es,clock,q1,q2,q3,q4⟩:=hb;obtain⟨_,_,_,_,_,_,p4⟩:=hb0;refine⟨b,es,clock,q1,q2,q3,q4.keys,q4.nodup,λk v hk hv=>?_,q4.Gr⟩;obtain⟨e,he,h1,h2⟩:=q4.Iw k v hk hv;obtain⟨e0,_,_,h3⟩:=p4.Iw k v hk hv;exact⟨e,he,h1,h2.low hf h3⟩
def AW.drop{f:FuncId}{args:List AV}{S:Sto}{x:D}(h:AW P Gl f args S (λr s=>r=.d x/\S.length<=s.length/\∀j,(A1 S j).AP=false->A1 s j=A1 S j)):
  AW P Gl f args S (λr s=>r=.d x/\s=S):=by
 intro w I L vals hR hG hl hv;refine(h w I L vals hR hG hl hv).mono λv w' hp=>?_;obtain⟨r,s,I',μ',h1,h2,h3,rfl,h4,h5⟩:=hp;refine⟨.d x,S,I',μ',h1.low h4 h5 hR,?_,?_,rfl,rfl⟩
 ·refine⟨h2.os,h2.tape,h2.output,h2.size,h2.Bs,h2.fr,h2.KF,h2.same,h2.bsize,AR _,λid hid ha=>?_⟩;have e:=h5 id lP;have:=h2.BD id hid (by unfold Br at ha ⊢;rw[e];exact ha);exact⟨ha,this.2.1,rfl,rfl,AR _⟩
 cases h3 with
 | d _ _ h3=>exact .d _ _ h3
end Go.AM


namespace Go.AM
open Go.Sort
variable {P:Program} {Gl:BM}
structure OP(k:Nat)(l:List D)(F:Array Value):Prop where
 size:F.size=l.length*k
 len:∀x∈l,x.cells.length=k
 at_:∀(i j:Nat) (x y:D),l[i]? = some x->x.cells[j]? = some y->∃n,y=.int .i64 n/\F[i*k+j]! = .int .i64 n
def OP.flat{k:Nat}{l:List D}{F:Array Value}(h:OP k l F):∀x∈l,x.flat:=λx hx c hc=>by
 obtain⟨i,hi,rfl⟩:=Gd hx;obtain⟨j,hj,rfl⟩:=Gd hc;obtain⟨n,hn,_⟩:=h.at_ i j _ _ (BP hi) (BP hj);rw[hn];rfl
def du{α:Type}{l:List α}{i:Nat}{x:α}(h:l[i]? = some x):x∈l:=Dn h
def so{w:World}{b:Nat}(h:G_ w b)(o:Nat):w.frozen? ⟨b,o,none⟩=false:=by
 obtain⟨c,t,h⟩:=h;unfold World.frozen?;rw[h];simp
def Xu{w:World}{b o:Nat}{F:Array Value}{n:Nat}{os:Array Obj}(x:Nat)(hx:x<w.heap.size):(grow (putRow id (Sort.ahead w n) b o F) os).heap[x]? = if b=x then(w.heap[x]?).map (onCells (Go.Sort.putCells _root_.id o F)) else w.heap[x]? := by
 rw[heap_grow_old _ _ (by rw[size_putRow];exact hx)];unfold putRow mapBlock;simp only[heap_ahead,Array.getElem?_modify]
def eY(o:Nat)(F c:Array Value):(Go.Sort.putCells _root_.id o F c).size=c.size:=by simp[Go.Sort.putCells]
def eC{f:FuncId}{fn:Func}(hf:P.funcs[f]? = some fn)(hname:(fn.name == "runtime.NumGoroutine")=false)(hb:fn.body.isSome=true){k:Nat}{l:List D}{F:Array Value}(hF:OP k l F)(hne:l≠[]){ex:List AV}{exV:List Value}
  (he:∀(w:World) I L S (vals:List Value),(∀(i:Nat) (v:Value) (u:AV),vals[i]? = some v->ex[i]? = some u->AL w I L S v u)->vals.length=ex.length->vals=exV) {R:List D->Prop}
  (H:∀(w:World) (b o cap:Nat),Holds id w b o F->b<w.heap.size->Calls P f (.slice (some ⟨b,o,none⟩) l.length cap::exV).toArray w λe w'=>e=.returned (.tuple #[])/\∃q F',R q/\q.length=l.length/\OP k q F'/\∃n os,w'=grow (putRow id (Sort.ahead w n) b o F') os) :
  AW P Gl f (.A8 0 0 l.length::ex) [.arr k l] (λr s=>r=.Aj []/\∃q,R q/\s=[.arr k q]):=by
 intro w I L vals hR hG hl hreps
 match vals,hl with
 | v0::vr,hl=>
 have h0:=hreps 0 v0 _ rfl rfl;have hr:vr=exV:=he w I L _ vr (λi v u h1 h2=>hreps (i+1) v u h1 h2) Hb;subst hr;have hlen:0<l.length:=RA.2 hne;have hB:=hR.D6 0 Nat.zero_lt_one;rcases hB with⟨_,e⟩|⟨b,base,hμ,hnf,hpl,hsz,_,_,hc⟩
 ·exact absurd e hne
 have hv:∃cap,v0=.slice (some ⟨b,base,none⟩) l.length cap:=by
  cases h0 with
  | A8 v id off len hid h=>
   rcases h with⟨h,_⟩|⟨b',base',es,cap,ha,_,hv⟩
   ·omega
   obtain⟨e1,_,e2,_⟩:=ha rfl;rw[hμ] at e1;cases e1;exact⟨cap,by rw[hv];simp⟩
 obtain⟨cap,rfl⟩:=hv;have hbs:b<w.heap.size:=by
  obtain⟨c,t,h⟩:=hpl;exact(Array.getElem?_eq_some_iff.1 h).1
 have hH:Holds id w b base F:=λt ht=>by
  rw[hF.size] at ht;have k0:0<k:=by
   rcases O3 k with h|h
   ·rw[h] at ht;omega
   exact h
  have hi:t / k<l.length:=(Nat.div_lt_iff_lt_mul k0).2 ht;have hj:t % k<k:=Nat.mod_lt _ k0;have e:=TF t k;obtain⟨x,hx⟩:∃x,l[t / k]? = some x:=⟨_,BP hi⟩;have hxl:=hF.len x (du hx);obtain⟨y,hy⟩:∃y,x.cells[t % k]? = some y:=⟨_,BP oo⟩;obtain⟨n,hn,hFn⟩:=hF.at_ _ _ x y hx hy;obtain⟨v,hv1,hv2⟩:=hc _ _ x y hx hy;rw[hn] at hv2;cases hv2;rw[e] at hFn;rw[G1,e] at hv1;exact⟨by rw[hv1,hFn];rfl,so hpl _⟩
 have hne:¬fn.name = "runtime.NumGoroutine" := by simpa using hname
 obtain⟨c,hcb⟩:=Fa.1 hb;have e:(callFunc f (Value.slice (some ⟨b,base,none⟩) l.length cap::vr).toArray).run P w=.ok (.enter f (Value.slice (some ⟨b,base,none⟩) l.length cap::vr).toArray) w:=by simp[callFunc,hf,hcb,hne]
 rw[e];refine⟨rfl,(H w b base cap hH hbs).mono λx w' hx=>?_⟩;obtain⟨hx,q,F',hq,hql,hF',n,os,rfl⟩:=hx;refine⟨_,hx,.Aj [],[.arr k q],I,L,?_,?_,?_,rfl,q,hq,rfl⟩
 ·refine⟨λb' hb'=>?_,λid hid=>?_,λi j _ _ _ _ hij h1 h2=>?_⟩
  ·have:=hR.Bs b' hb';rw[size_grow,size_putRow];show _<w.heap.size+_;omega
  ·have:id=0:=by simp at hid;omega
   subst this;obtain⟨c,t,hp⟩:=hpl;have hh:(grow (putRow _root_.id (Sort.ahead w n) b base F') os).heap[b]? = some (.cells (Go.Sort.putCells _root_.id base F' c) t (0,0)):=by
    rw[Xu b hbs,AD rfl,hp];rfl
   refine .inr ⟨b,base,hμ,hnf,⟨_,t,hh⟩,?_,hF'.len,hF'.flat,λi j x y h1 h2=>?_⟩
   ·unfold DQ at hsz ⊢;rw[hp] at hsz;rw[hh];simp only[eY,hql] at hsz ⊢;exact hsz
   obtain⟨m,hm,hFm⟩:=hF'.at_ i j x y h1 h2;have hi:i<q.length:=(TD.1 h1).1;have hj:j<k:=by rw[<-hF'.len x (du h1)];exact(TD.1 h2).1
   have hlt:i*k+j<F'.size:=by
    rw[hF'.size];have:(i+1)*k<=q.length*k:=EC k hi;exact OI
   refine⟨.int .i64 m,?_,by rw[hm];exact .int _ _⟩;rw[cell?_grow _ _ _ (by rw[size_putRow];exact hbs),G1,cell?_putRow _root_.id (Sort.ahead w n) b base F F' (holds_ahead _ _ _ _ _ _ hH) (by rw[hF.size,hF'.size,hql]) _ hlt,hFm];rfl
  exfalso
  match i,j with
  | 0,0=>exact hij rfl
  | 0,j+1=>cases h2
  | i+1,_=>cases h1
 ·refine⟨rfl,rfl,rfl,?_,λ_ h=>h,λ_ h=>h,λ_ h=>.inl h,λb' hb'=>?_,λb'=>?_,AR _,λid hid ha=>?_⟩
  ·rw[size_grow,size_putRow];show w.heap.size<=w.heap.size+_;omega
  ·rw[Xu b' (hR.Bs b' hb'),A7 (λe=>hnf (by rw[e];exact hb'))]
  ·rcases B9 b' w.heap.size with h|h
   ·unfold DQ;rw[Xu b' h];cases hq2:w.heap[b']? with
    | none=>exact Bq _
    | some o=>
     by_cases e2:b=b'
     ·rw[AD e2];cases o<;>simp[onCells,eY]
     rw[A7 e2];exact AR _
   have:DQ w b'=0:=by unfold DQ;rw[I_ h]
   omega
  have:id=0:=by simp at hid;omega
  subst this;refine⟨rfl,rfl,rfl,rfl,?_⟩;show l.length<=q.length;omega
 exact .Aj [] [] rfl λi v x h=>Mf
def iV{α:Type}[Inhabited α](enc:α->List Value)(k:Nat)(A5:α->D)(h:∀x,(A5 x).cells.length=k)(h2:∀(x:α) (j:Nat) (y:D),(A5 x).cells[j]? = some y->∃n,y=.int .i64 n/\(enc x)[j]! = .int .i64 n)(l:List α):OP k (l.map A5) (flatK enc k l.toArray):=by
 refine⟨A6,λx hx=>?_,λi j x y h1 hy=>?_⟩
 ·obtain⟨s,_,rfl⟩:=C4.1 hx;exact h s
 rw[DG] at h1;obtain⟨s,hs,rfl⟩:=aT.1 h1;obtain⟨n,hn,he⟩:=h2 s j y hy;have hi:i<l.length:=(TD.1 hs).1;have hj:j<k:=by rw[<-h s];exact(TD.1 hy).1
 have hlt:i*k+j<l.toArray.size*k:=by
  have:(i+1)*k<=l.length*k:=EC k hi;rw[E8] at this;simp only[TG];omega
 have k0:0<k:=oo;refine⟨n,hn,?_⟩;rw[get_flatK _ _ _ _ hlt,show(i*k+j) / k=i by rw[T5,Nat.add_mul_div_right _ _ k0,TE hj];omega,show(i*k+j) % k=j by rw[T5,Nat.add_mul_mod_self_right,T2 hj]];have e:l.toArray[i]! = s:=by
  rw[BP hi] at hs;simp only[List.getElem!_toArray,getElem!_pos l i hi];exact Option.some.inj hs
 rw[e,he]
def fV{α:Type}[Inhabited α](f:α->Value)(d:Array α):flatK (λx=>[f x]) 1 d=d.map f:=by
 refine ext_get! A6 λt ht=>?_;have ht:t<d.size*1:=by simpa using ht
 rw[get_flatK _ _ _ _ ht];have h1:t<d.size:=oo;simp[h1,Nat.mod_one]
def yL{α:Type}[Inhabited α]{f:α->Value}{w:World}{b o:Nat}{d:Array α}(h:Holds id w b o (d.map f)):Holds f w b o d:=λj hj=>by
 have:=h j Kt;simpa[hj] using this
def Qd4{α:Type}[Inhabited α](f:α->Value)(w:World)(b o:Nat)(d:Array α):putRow f w b o d=putRow id w b o (d.map f):=by
 unfold putRow;refine mapBlock_congr w b _ _ λc e fr _=>?_;unfold Go.Sort.putCells;refine Array.ext A6 λk h1 h2=>?_;simp only[Array.getElem_mapIdx,Array.size_map];split
 ·rename_i h;have:k-o<d.size:=oo;simp[this]
 rfl
end Go.AM


namespace Go.AM
variable {P:Program} {Gl:BM}
def gw{w:World}{I:Im}{L:Pos}{S:Sto}(h:Rel w I L S)(k:Nat)(os:Array Obj):Ay S.length w I L S (Sort.grow (w.drewN k) os) I L S:=by
 refine⟨rfl,rfl,rfl,?_,λ_ h=>h,λ_ h=>h,λ_ h=>.inl h,λb hb=>?_,λb=>?_,AR _,λ_ _ h=>⟨h,rfl,rfl,rfl,AR _⟩⟩
 ·simp[Sort.grow,World.drewN]
 ·have:=h.Bs b hb;exact ma
 rcases B9 b w.heap.size with hb|hb
 ·rw[Oj (w:=w) (w':=Sort.grow (w.drewN k) os)]
  ·exact AR _
  simp only[Sort.grow,World.drewN];rw[TL hb]
 have:DQ w b=0:=by
  unfold DQ;rw[I_ hb]
 omega
def xF{w:World}{I:Im}{L:Pos}{S:Sto}(h:Rel w I L S)(k:Nat)(os:Array Obj):Rel (Sort.grow (w.drewN k) os) I L S:=by
 refine⟨λb hb=>?_,λid hid=>?_,h.apart⟩
 ·have:=h.Bs b hb;simp[Sort.grow,World.drewN];omega
 refine(h.D6 id hid).AH (gw h k os) rfl λho b o hμ=>⟨?_,λhn=>hn⟩;have:=(Jo h hid ho hμ).1;exact ma
def qZ{f:FuncId}{fn:Func}(hf:P.funcs[f]? = some fn)(hname:(fn.name == "runtime.NumGoroutine")=false)(hb:fn.body.isSome=true){args:List AV}{vs:List Value}{v:Value}{r:AV}
  (hv:∀(w:World) I L S (vals:List Value),(∀(i:Nat) (v:Value) (u:AV),vals[i]? = some v->args[i]? = some u->AL w I L S v u)->vals.length=args.length->vals=vs)
  (h:∀(w:World) I,Cr Gl w I->Calls P f vs.toArray w λe w'=>e=.returned v/\∃k os,w'=Sort.grow (w.drewN k) os)
  (hr:∀(w:World) I L S,AL w I L S v r):AT P Gl f args r:=by
 intro S w I L vals hR hG hl hreps;obtain rfl:=hv w I L S vals hreps hl;have hne:¬fn.name = "runtime.NumGoroutine" := by simpa using hname
 obtain⟨c,hc⟩:=Fa.1 hb;have e:(callFunc f vals.toArray).run P w=.ok (.enter f vals.toArray) w:=by simp[callFunc,hf,hc,hne]
 rw[e];refine⟨rfl,(h w I hG).mono λx w' ⟨hx,k,os,hw⟩=>⟨v,hx,?_⟩⟩;subst hw;exact⟨r,S,I,L,xF hR k os,gw hR k os,hr _ _ _ _,rfl,rfl⟩
def qh{f:FuncId}{fn:Func}(hf:P.funcs[f]? = some fn)(hname:(fn.name == "runtime.NumGoroutine")=false)(hb:fn.body.isSome=true){args:List AV}{vs:List Value}{v:Value}{r:AV}
  (hv:∀(w:World) I L S (vals:List Value),(∀(i:Nat) (v:Value) (u:AV),vals[i]? = some v->args[i]? = some u->AL w I L S v u)->vals.length=args.length->vals=vs)
  (h:∀(w:World),Calls P f vs.toArray w λe w'=>e=.returned v/\w'=w)
  (hr:∀(w:World) I L S,AL w I L S v r):AT P Gl f args r:=
 qZ hf hname hb hv (λw I _=>(h w).mono λe w' ⟨h1,h2⟩=>⟨h1,0,#[],by rw[h2];simp[Sort.grow,World.drewN]⟩) hr
def zl{k:IntKind}{a:Int}{w:World}{I:Im}{L:Pos}{S:Sto}{vals:List Value}(hv:∀(i:Nat) (v:Value) (u:AV),vals[i]? = some v->[AV.d (.int k a)][i]? = some u->AL w I L S v u)(hl:vals.length=[AV.d (.int k a)].length):vals=[.int k a]:=by
 match vals,hl with
 | [x],_=>
  have h1:=(hv 0 x _ rfl rfl).Ar;cases h1;rfl
end Go.AM


namespace Go.AM
variable {α:Type} [Inhabited α] {lt:α->α->Bool}
def fi{l:List α}(neg:∀a b c,lt a b=false->lt b c=false->lt a c=false)(asy:∀a b,lt a b=true->lt b a=false):(DZ lt l).Pairwise λa b=>lt b a=false:=by
 have step:∀(l:List α) (b:α),(l.Pairwise λa b=>lt b a=false)->(G6 lt l b).Pairwise λa b=>lt b a=false:=by
  intro l b h;have hs:∃x y,l=x++y/\(∀a∈x,lt b a=false)/\(∀a∈y,lt b a=true):=by
   induction l with
   | nil=>exact⟨[],[],rfl,λa h=>D8,λa h=>D8⟩
   | cons c l ih=>
    rw[IV] at h;obtain⟨x,y,rfl,h1,h2⟩:=ih h.2;cases hc:lt b c with
    | true=>
     refine⟨[],c::(x++y),rfl,λa h=>D8,λa ha=>?_⟩;rcases Bw.1 ha with rfl|ha
     ·exact hc
     cases hba:lt b a with
     | true=>rfl
     | false=>have:=neg b a c hba (h.1 a ha);rw[hc] at this;cases this
    | false=>
     exact oF
  obtain⟨x,y,rfl,h1,h2⟩:=hs;rw[dI h1 h2];rw[JZ] at h ⊢;obtain⟨p,q,r⟩:=h;refine⟨p,IV.2 ⟨λa ha=>asy _ _ (h2 a ha),q⟩,λa ha c hc=>?_⟩;rcases Bw.1 hc with rfl|hc
  ·exact h1 a ha
  exact r a ha c hc
 have gen:∀(l a:List α),(a.Pairwise λa b=>lt b a=false)->(l.foldl (G6 lt) a).Pairwise λa b=>lt b a=false:=by
  intro l
  induction l with
  | nil=>intro a h;exact h
  | cons x l ih=>intro a h;exact ih _ (step a x h)
 exact gen l [] List.Pairwise.nil
end Go.AM
