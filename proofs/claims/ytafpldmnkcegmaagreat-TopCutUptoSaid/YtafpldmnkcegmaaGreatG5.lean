/- A part of the proof: an abstract machine over data, and lemmas; nothing of the statement. No condition beyond those stated. -/
import Derived.Test.YtafpldmnkcegmaaGreatG3
import Derived.Carry
import Derived.ProofKit
set_option linter.all false

namespace Go.AM
open Go.RowKit Go.ChangeShapes Go.WideShapes
def Mo(P:Program):List Field->Nat->Option Nat
 | [],o=>some o
 | f::r,o=>if f.offset=o then Mo P r (o+P.cellsOf f.type) else none
def LB(P:Program):Nat->TypeId->Bool
 | 0,_=>false
 | n+1,t=>match P.underlying t with
  | some .bool=>true
  | some (.int _)=>true
  | some .string=>true
  | some (.slice e)=>decide (0<P.cellsOf e)&&LB P n e
  | some (.struct fs)=>(Mo P fs.toList 0==some (P.cellsOf t))&&fs.toList.all λf=>LB P n f.type
  | _=>false
def Pz(P:Program)(T:TypeId->List D->Prop):List Field->List D->Prop
 | [],ds=>ds=[]
 | f::r,ds=>∃a b,ds=a++b/\a.length=P.cellsOf f.type/\T f.type a/\Pz P T r b
def HF:Nat:=1048576
structure SL{H:Type}(B:DataW H->Nat):Prop where
 len:∀el sp,el.length<=B (.slice el sp)
 el:∀(el sp:List (DataW H)) d,d∈el->B d<=B (.slice el sp)
 ag:∀(ps:List (DataW H)) d,d∈ps->B d<=B (.agg ps)
def HK(P:Program):Nat->TypeId->List D->Prop
 | 0,_,_=>False
 | n+1,t,ds=>match P.underlying t with
  | some .bool=>∃b,ds=[.bool b]
  | some (.int k)=>∃i,ds=[.int k i]/\(Lit.int k i).wf=true
  | some .string=>∃s,ds=[.str s]/\s.length<=maxLen
  | some (.slice e)=>∃xs,ds=[.sl xs]/\xs.length<=HF/\∀x∈xs,HK P n e x.cells/\x.cells.length=P.cellsOf e/\x.isAgg=(BR P e).getD false
  | some (.struct fs)=>Pz P (HK P n) fs.toList ds
  | _=>False
variable {H:Type} {enc:TypeId×Value->H} {P:Program} {w:World} {I:Im} {spare:Nat->Bool} {held:Bool} {base:Nat}
structure H7(w:World)(I:Im)(vs:List Value)(ds:List D):Prop where
 len:ds.length=vs.length
 rep:∀(j:Nat) (v:Value) (x:D),vs[j]? = some v->ds[j]? = some x->BU w I v x
 one:∀x∈ds,x.one=true
def H7.single{v:Value}{x:D}(h:BU w I v x)(ho:x.one=true):H7 w I [v] [x]:=
 ⟨rfl,λj v' x' hv hx=>by
  cases j with
  | zero=>simp at hv hx;subst hv;subst hx;exact h
  | succ j=>simp at hv,λy hy=>by simp at hy;subst hy;exact ho⟩
def H7.append{vs us:List Value}{ds es:List D}(h:H7 w I vs ds)(k:H7 w I us es):H7 w I (vs++us) (ds++es):=by
 refine⟨by simp[h.len,k.len],λj v x hv hx=>?_,λx hx=>?_⟩
 ·rcases B9 j vs.length with hj|hj
  ·rw[Ec hj] at hv;rw[Ec (by rw[h.len];exact hj)] at hx;exact h.rep j v x hv hx
  rw[G2 hj] at hv;rw[G2 (by rw[h.len];exact hj),h.len] at hx;exact k.rep _ v x hv hx
 rcases CH.1 hx with hx|hx
 ·exact h.one x hx
 exact k.one x hx
def XO{α β:Type}{f:α->Option β}:∀{l:List α} {r:List β},l.mapM f=some r->r.length=l.length/\∀x∈l,∃y∈r,f x=some y
 | [],r,h=>by
  cases h;exact⟨rfl,λx hx=>Me⟩
 | a::l,r,h=>by
  rw[aL] at h;cases ha:f a with
  | none=>rw[ha] at h;simp at h
  | some b=>
   rw[ha] at h;cases hl:l.mapM f with
   | none=>rw[hl] at h;simp at h
   | some r'=>
    rw[hl] at h;cases h;obtain⟨h1,h2⟩:=XO hl;refine⟨by simp[h1],λx hx=>?_⟩;rcases Bw.1 hx with rfl|hx
    ·exact⟨b,DE,ha⟩
    obtain⟨y,hy,e⟩:=h2 x hx;exact⟨y,Cy _ hy,e⟩
def dg{B:DataW H->Nat}{n fuel:Nat}{cs:List Value}(ih:∀{t:TypeId} {cs:List Value} {x:DataW H×List MemPlace},LB P n t=true->DataW.trod enc P w base spare held fuel t cs=some x->B x.1<=HF->∃ds,H7 w I cs ds/\HK P n t ds):
  ∀(fs:List Field) (o:Nat),Mo P fs o=some cs.length->o<=cs.length->(∀f∈fs,LB P n f.type=true)->(∀f∈fs,∃y,DataW.trod enc P w base spare held fuel f.type ((cs.drop f.offset).take (P.cellsOf f.type))=some y/\B y.1<=HF) ->
   ∃ds,H7 w I (cs.drop o) ds/\Pz P (HK P n) fs ds
 | [],o,ht,_,_,_=>by
  simp only[Mo,BF] at ht;subst ht;exact⟨[],⟨A6,λj v x hv=>RN,λx hx=>Me⟩,rfl⟩
 | f::r,o,ht,hle,hd,hr=>by
  simp only[Mo] at ht;split at ht
  ·rename_i ho;obtain⟨y,hy,hyB⟩:=hr f A6;obtain⟨da,h1,h2⟩:=ih (hd f A6) hy hyB;have hb:o+P.cellsOf f.type<=cs.length:=by
    have mono:∀(l:List Field) (a b:Nat),Mo P l a=some b->a<=b:=by
     intro l
     induction l with
     | nil=>intro a b h;simp only[Mo,BF] at h;omega
     | cons g l ihl=>
      intro a b h;simp only[Mo] at h;split at h
      ·have:=ihl _ _ h;omega
      cases h
    exact mono _ _ _ ht
   obtain⟨db,h3,h4⟩:=dg ih r (o+P.cellsOf f.type) ht hb (λg hg=>hd g (by simp[hg])) (λg hg=>hr g (by simp[hg]));rw[ho] at h1;have e:cs.drop o=(cs.drop o).take (P.cellsOf f.type)++cs.drop (o+P.cellsOf f.type):=by
    rw[<-Ld,Lf]
   refine⟨da++db,by rw[e];exact h1.append h3,da,db,rfl,?_,h2,h4⟩;rw[h1.len,GU,Ja];omega
  cases ht
def yH{a:Addr}{k:Nat}{vs:List Value}(h:w.cells? base a k=some vs):vs.length=k/\∀j,j<k->w.cell? (a.add j)=vs[j]? := by
 unfold World.cells? at h;split at h
 ·have gen:∀(l:List Nat) (vs:List Value),(l.mapM (λi=>w.cell? (a.add i)):Option (List Value))=some vs->vs.length=l.length/\∀(j i:Nat),l[j]? = some i->w.cell? (a.add i)=vs[j]? := by
   intro l
   induction l with
   | nil=>intro vs h;simp at h;subst h;exact⟨rfl,λj i hj=>by simp at hj⟩
   | cons x l ih=>
    intro vs h;rw[aL] at h;cases hx:w.cell? (a.add x) with
    | none=>rw[hx] at h;simp at h
    | some v=>
     rw[hx] at h;cases hl:l.mapM (λi=>w.cell? (a.add i)) with
     | none=>rw[hl] at h;simp at h
     | some r=>
      rw[hl] at h;simp at h;subst h;obtain⟨i1,i2⟩:=ih r hl;refine⟨by simp[i1],λj i hj=>?_⟩;cases j with
      | zero=>simp at hj;subst hj;simpa using hx
      | succ j=>simpa using i2 j i Kt
  obtain⟨g1,g2⟩:=gen _ _ h;exact⟨by simpa using g1,λj hj=>g2 j j Ku⟩
 cases h
def Q0t{a:Addr}{v:Value}(h:w.cell? a=some v):a.block<w.heap.size/\a.spot=none:=by
 unfold World.cell? at h;split at h
 ·rename_i c _ _ hc;split at h
  ·cases h
  rename_i hs;refine⟨?_,TU⟩;rcases B9 a.block w.heap.size with h'|h'
  ·exact h'
  rw[I_ h'] at hc;cases hc
 cases h
def eH{n:Nat}{e:TypeId}{ds:List D}(h:HK P n e ds)(hk:(BR P e).getD false=false):∃x,ds=[x]/\x.isAgg=false:=by
 cases n with
 | zero=>exact h.elim
 | succ n=>
  simp only[HK] at h;unfold BR at hk;cases hu:P.underlying e with
  | none=>rw[hu] at h;exact h.elim
  | some td=>
   rw[hu] at h hk;cases td<;>simp only at h hk
   all_goals first
    | exact h.elim
    | (obtain⟨x,rfl⟩:=h;exact⟨_,rfl,rfl⟩)
    | (obtain⟨x,rfl,_⟩:=h;exact⟨_,rfl,rfl⟩)
    | (simp at hk)
def Q1e{a:Addr}(hs:a.spot=none)(i j:Nat):(a.add i).add j=⟨a.block,a.off+i+j,none⟩:=by
 obtain⟨b,o,sp⟩:=a;simp only at hs;subst hs;unfold Addr.add;by_cases hi:i=0<;>by_cases hj:j=0<;>simp[hi,hj]
def Qbx(hI:∀b,b<w.heap.size->I.rd b){n:Nat}{e:TypeId}{a:Addr}{len cap:Nat}(he:0<P.cellsOf e)(hlc:len<=cap)(hcm:len<=HF)
  (hel:∀i,i<len->∃(vs:List Value) (ds:List D),vs.length=P.cellsOf e/\(∀j,j<P.cellsOf e->w.cell? ((a.add (i*P.cellsOf e)).add j)=vs[j]?)/\H7 w I vs ds/\HK P n e ds) :
  ∃xs,BU w I (.slice (some a) len cap) (.sl xs)/\xs.length<=HF/\∀x∈xs,HK P n e x.cells/\x.cells.length=P.cellsOf e/\x.isAgg=(BR P e).getD false:=by
 rcases O3 len with hz|hpos
 ·subst hz;exact⟨[],.nil _ _,A6,λx hx=>Me⟩
 have hel2:∀i,∃(vs:List Value) (x:D),i<len->(vs.length=P.cellsOf e/\(∀j,j<P.cellsOf e->w.cell? ((a.add (i*P.cellsOf e)).add j)=vs[j]?)/\H7 w I vs x.cells/\HK P n e x.cells/\x.isAgg=(BR P e).getD false):=λi=>by
  by_cases hi:i<len
  ·obtain⟨vs,ds,h1,h2,h3,h4⟩:=hel i hi;cases hk:(BR P e).getD false with
   | true=>exact⟨vs,.agg ds,λ_=>⟨h1,h2,h3,h4,rfl⟩⟩
   | false=>
    obtain⟨x,rfl,hx⟩:=eH h4 hk;have hc:x.cells=[x]:=by cases x<;>first|rfl|(simp[D.isAgg] at hx)
    exact⟨vs,x,λ_=>⟨h1,h2,by rw[hc];exact h3,by rw[hc];exact h4,hx⟩⟩
  exact⟨[],default,λh=>absurd h hi⟩
 let vsOf:Nat->List Value:=λi=>Classical.choose (hel2 i)
 let xOf:Nat->D:=λi=>Classical.choose (TA (hel2 i))
 have hsp:∀i,i<len->(vsOf i).length=P.cellsOf e/\(∀j,j<P.cellsOf e->w.cell? ((a.add (i*P.cellsOf e)).add j)=(vsOf i)[j]?)/\H7 w I (vsOf i) (xOf i).cells/\HK P n e (xOf i).cells/\(xOf i).isAgg=(BR P e).getD false:=
  λi hi=>TA (TA (hel2 i)) hi
 have h0:=(hsp 0 hpos).2.1 0 he;have hp0:0<(vsOf 0).length:=by rw[(hsp 0 hpos).1];exact he
 have hv0:(vsOf 0)[0]? = some ((vsOf 0)[0]'hp0):=BP hp0;rw[hv0] at h0;have ha:a.spot=none/\a.block<w.heap.size:=by
  have:=Q0t h0;simp only[MS,Addr.add,By] at this;exact⟨this.2,this.1⟩
 let xs:=(List.range len).map xOf
 have hlen:xs.length=len:=by simp[xs]
 have hget:∀(i:Nat) (x:D),xs[i]? = some x->i<len/\x=xOf i:=λi x hx=>by
  have hi:i<len:=by
   rcases B9 i len with h|h
   ·exact h
   rw[Bt oo] at hx;cases hx
  refine⟨hi,?_⟩;simp only[xs,DG,T7 hi,DF,BF] at hx;exact hx.symm
 have hmem:∀x∈xs,∃i,i<len/\x=xOf i:=λx hx=>by
  obtain⟨i,hi,rfl⟩:=C4.1 hx;exact⟨i,CI.1 hi,rfl⟩
 refine⟨xs,?_,oo,λx hx=>?_⟩
 ·have hv:(Value.slice (some a) len cap)=.slice (some ⟨a.block,a.off,none⟩) xs.length cap:=by
   rw[hlen];obtain⟨b,o,sp⟩:=a;simp only at ha;rw[ha.1]
  rw[hv];refine .sl a.block a.off (P.cellsOf e) cap xs (λi j=>(vsOf i).getD j Go.undef) (hI _ ha.2) oo (λx hx=>?_) (λx hx=>?_) (λi j hi hj=>?_) (λi j x y hx hy=>?_)
  ·obtain⟨i,hi,rfl⟩:=hmem x hx;have:=(hsp i hi).2.2.1.len;rw[this,(hsp i hi).1]
  ·obtain⟨i,hi,rfl⟩:=hmem x hx;exact(hsp i hi).2.2.1.one
  ·obtain⟨g1,g2,_⟩:=hsp i oo;have:=g2 j hj;rw[Q1e ha.1] at this;rw[this];have hj':j<(vsOf i).length:=by rw[g1];exact hj
   have:(vsOf i)[j]? = some ((vsOf i)[j]'hj'):=BP hj';rw[this,B5,this];rfl
  obtain⟨hi,rfl⟩:=hget i x hx;obtain⟨g1,g2,g3,_⟩:=hsp i hi;have hj:j<(vsOf i).length:=by
   rw[<-g3.len];rcases B9 j (xOf i).cells.length with h|h
   ·exact h
   rw[Bt h] at hy;cases hy
  have hvj:(vsOf i)[j]? = some (vsOf i)[j]:=BP hj;have:=g3.rep j _ y hvj hy;rw[B5,hvj];exact this
 obtain⟨i,hi,rfl⟩:=hmem x hx;obtain⟨g1,g2,g3,g4,g5⟩:=hsp i hi;exact⟨g4,by rw[g3.len,g1],g5⟩
def Qby{B:DataW H->Nat}(hB:SL B)(hI:∀b,b<w.heap.size->I.rd b):∀(n fuel:Nat) {t:TypeId} {cs:List Value} {x:DataW H×List MemPlace},LB P n t=true->DataW.trod enc P w base spare held fuel t cs=some x->B x.1<=HF->∃ds,H7 w I cs ds/\HK P n t ds:=by
 intro n
 induction n with
 | zero=>intro fuel t cs x hd;simp[LB] at hd
 | succ n ih=>
  intro fuel t cs x hd h hx;cases fuel with
  | zero=>simp[DataW.trod] at h
  | succ fuel=>
   simp only[LB] at hd;simp only[HK];cases hu:P.underlying t with
   | none=>rw[hu] at hd;cases hd
   | some td=>
    rw[hu] at hd;simp only[DataW.trod,hu] at h;cases td<;>simp only at hd<;>try (cases hd;done)
    · -- bool
     split at h<;>first
      | (rename_i b _;simp only[BF] at *;exact⟨[.bool b],H7.single (.bool b) rfl,b,rfl⟩)
      | (simp_all;done)
    · -- int
     rename_i k;split at h<;>first
      | (simp_all;done)
      | skip
     rename_i k1 k2 i heq;cases heq;split at h
     ·rename_i hw;obtain⟨rfl,hw⟩:=hw;exact⟨[.int _ i],H7.single (.int _ i) rfl,i,rfl,hw⟩
     cases h
    · -- string
     split at h<;>first
      | (simp_all;done)
      | skip
     rename_i s heq;split at h
     ·rename_i hs;refine⟨[.str s.data.toList],H7.single ?_ rfl,s.data.toList,rfl,TU⟩;have:s=⟨s.data.toList.toArray⟩:=by cases s;simp
      rw[this];exact .str _
     cases h
    · -- slice
     rename_i e;simp only[C5,CZ] at hd;split at h<;>first
      | (simp_all;done)
      | skip
     ·exact⟨[.sl []],H7.single (.nil none 0) rfl,[],rfl,A6,λx hx=>Me⟩
     rename_i e' a len cap heq;cases heq;split at h
     ·rename_i hb;rw[l8] at h;obtain⟨els,hels,h⟩:=h;rw[aT] at h;obtain⟨rest,_,rfl⟩:=h;obtain⟨hln,hall⟩:=XO hels;have hlb:=hB.len (els.map (·.1)) (rest.map (·.1));rw[BW,hln,R9] at hlb;have hel:∀i,i<len->∃(vs:List Value) (ds:List D),vs.length=P.cellsOf e/\(∀j,j<P.cellsOf e->w.cell? ((a.add (i*P.cellsOf e)).add j)=vs[j]?)/\H7 w I vs ds/\HK P n e ds:=λi hi=>by
       obtain⟨y,hm,hy⟩:=hall i (CI.2 hi);rw[l8] at hy;obtain⟨vs,h1,h2⟩:=hy;obtain⟨h3,h4⟩:=yH h1;obtain⟨ds,h5,h6⟩:=ih fuel hd.2 h2 (DC (hB.el _ (rest.map (·.1)) _ (C4.2 ⟨y,hm,rfl⟩)) hx);exact⟨vs,ds,h3,h4,h5,h6⟩
      obtain⟨xs,r1,r2,r3⟩:=Qbx hI hd.1 hb.2.1 (DC hlb hx) hel;exact⟨[.sl xs],H7.single r1 rfl,xs,rfl,r2,r3⟩
     cases h
    -- struct
    rename_i fs;simp only[C5,GR,EW] at hd;split at h<;>first
     | (simp_all;done)
     | skip
    rename_i fs' heq;cases heq;split at h
    ·rename_i hl;rw[aT] at h;obtain⟨xs,hxs,rfl⟩:=h;obtain⟨ds,h1,h2⟩:=dg (I:=I) (λ{t cs x} h1 h2 h3=>ih fuel h1 h2 h3) fs.toList 0 (by rw[hl];exact hd.1) (Bq _) (λf hf=>hd.2 f hf) (λf hf=>by
      obtain⟨y,hm,hy⟩:=(XO hxs).2 f hf
      exact⟨y,hy,DC (hB.ag _ _ (C4.2 ⟨y,hm,rfl⟩)) hx⟩)
     exact⟨ds,Cz,h2⟩
    cases h
def SM(P:Program)(n:Nat)(t:TypeId)(x:D):Prop:=HK P n t x.cells/\x.isAgg=(BR P t).getD false
def Qbw{B:DataW H->Nat}(hB:SL B)(hI:∀b,b<w.heap.size->I.rd b){n:Nat}{t:TypeId}{v:Value}{d:DataW H}{ps:List MemPlace}(hd:LB P n t=true)(hok:Value.okWide P w .any base t v)
  (h:DataW.Trod enc P w 0 spare held t v d ps) (hb:B d<=HF):∃x,BU w I v x/\SM P n t x:=by
 obtain⟨fuel,h⟩:=h;obtain⟨ds,h1,h2⟩:=Qby hB hI n fuel hd h hb;unfold SM;cases hk:(BR P t).getD false with
 | true=>
  have:∃cs,v=.agg cs:=by
   unfold Value.okWide at hok;unfold BR at hk;split at hok
   ·obtain⟨cs,e,_⟩:=hok;exact⟨cs,e⟩
   ·obtain⟨cs,e,_⟩:=hok;exact⟨cs,e⟩
   rename_i hns hna;cases hu:P.underlying t with
   | none=>rw[hu] at hk;simp at hk
   | some td=>
    rw[hu] at hk;cases td<;>simp at hk
    all_goals first|exact absurd hu (hns _)|exact absurd hu (hna _ _)
  obtain⟨cs,rfl⟩:=this;refine⟨.agg ds,?_,h2,rfl⟩;have e:(Value.agg cs).cells.toList=cs.toList:=rfl;rw[e] at h1;have:=BU.agg (w:=w) (I:=I) cs.toList ds h1.len.symm h1.one h1.rep;exact Ll
 | false=>
  obtain⟨x,rfl,hx⟩:=eH h2 hk;have hc:x.cells=[x]:=by cases x<;>first|rfl|(simp[D.isAgg] at hx)
  refine⟨x,?_,by rw[hc];exact h2,hx⟩;have hl:=h1.len;have:v.cells.toList=[v]:=by
   cases v<;>first|rfl|skip;rename_i cs;exfalso;unfold Value.okWide Cell.okWide Cell.ok at hok;unfold BR at hk;cases hu:P.underlying t with
   | none=>rw[hu] at hok;exact hok
   | some td=>
    rw[hu] at hk hok;cases td<;>simp at hk hok
  rw[this] at h1;exact h1.rep 0 v x rfl rfl
def U8(P:Program)(n:Nat):List TypeId->List D->Prop
 | [],xs=>xs=[]
 | t::ts,xs=>∃x r,xs=x::r/\SM P n t x/\U8 P n ts r
def gI{B:DataW H->Nat}(hB:SL B)(hI:∀b,b<w.heap.size->I.rd b){n:Nat}:∀(ts:List TypeId) (vs:List Value) (ds:List (DataW H)) (ps:List MemPlace),(∀t∈ts,LB P n t=true) ->
  (∀(j:Nat) t v,ts[j]? = some t->vs[j]? = some v->Value.okWide P w .any base t v)->DataW.TrodAll enc P w 0 spare held ts vs ds ps->(∀d∈ds,B d<=HF) ->
  ∃xs:List D,U8 P n ts xs/\vs.length=xs.length/\ds.length=ts.length/\∀(i:Nat) (v:Value) (x:D),vs[i]? = some v->xs[i]? = some x->BU w I v x
 | [],vs,ds,ps,_,_,h,_=>by
  cases vs<;>cases ds<;>simp only[DataW.TrodAll] at h;exact⟨[],rfl,rfl,rfl,λi v x hv=>RN⟩
 | t::ts,vs,ds,ps,hd,hok,h,hbs=>by
  cases vs<;>cases ds<;>simp only[DataW.TrodAll] at h;rename_i v vs d ds;obtain⟨p,q,h1,h2,_⟩:=h;obtain⟨x,r1,r2⟩:=Qbw hB hI (hd t A6) (hok 0 t v rfl rfl) h1 (hbs d DE);obtain⟨xs,r3,r4,r5,r6⟩:=gI hB hI ts vs ds q (λt ht=>hd t (by simp[ht])) (λj t v h1 h2=>hok (j+1) t v Cz DN) h2 λd hd=>hbs d (Cy _ hd);refine⟨x::xs,⟨x,xs,rfl,r2,r3⟩,by simp[r4],by simp[r5],λi u y hu hy=>?_⟩;cases i with
  | zero=>simp at hu hy;subst hu;subst hy;exact r1
  | succ i=>exact r6 i u y (by simpa using hu) WB
def e_{w':World}(hl:laidOutB P=true)(hb:Below w.heap.size w w'):∀(ts:List TypeId) (vs:List Value) (ds:List (DataW H)) (ps:List MemPlace),(∀t∈ts,P.readableRec t=true/\t<P.types.size) ->
  DataW.TrodAll enc P w 0 (λ_=>true) true ts vs ds ps->(∀x∈ps,x.block<w.heap.size)->DataW.TrodAll enc P w' 0 (λb=>decide (b<w.heap.size)) true ts vs ds ps
 | [],vs,ds,ps,_,h,_=>by
  cases vs<;>cases ds<;>simp only[DataW.TrodAll] at h ⊢;exact h
 | t::ts,vs,ds,ps,ht,h,hlt=>by
  cases vs<;>cases ds<;>simp only[DataW.TrodAll] at h ⊢;obtain⟨p,q,h1,h2,rfl⟩:=h;have h3:=ht t A6;exact⟨p,q,Below.trod hl h3.1 h3.2 h1 hb λx hx=>hlt x (CH.2 (.inl hx)),e_ hl hb ts _ _ q (λt h=>ht t Lh) h2 λx hx=>hlt x (CH.2 (.inr hx)),rfl⟩
def Ay.below{m:Nat}{w':World}{I':Im}{L μ':Pos}{S σ':Sto}(hI:∀b,b<w.heap.size->I.fr b)(k:Ay m w I L S w' I' μ' σ'):Below w.heap.size w w':=
 ⟨k.os,k.tape,k.output,k.size,λb hb=>k.same b (hI b hb)⟩
def su{fn:Func}{c:Code}{s:ChangeSpec}{f:FuncId}{n:Nat}{tb:TypeId}{apart fresh handsOn:Bool}
  (hf:P.funcs[f]? = some fn) (hname:(fn.name == "runtime.NumGoroutine")=false) (hb:fn.body=some c)
  (hty:(fn.params.toList.all λt=>LB P n t&&P.readableRec t&&decide (t<P.types.size))=true) (hlaid:laidOutB P=true)
  (hres:fn.resultTypes=#[tb]) (htb:P.underlying tb=some .bool) (hvars:s.vars=[])
  (hspec:∀(H:Type) (ds:List (DataW H)),ds.length=fn.params.size->s.fn H ds={results:=[.lit (.bool true)],args:=ds})
  (hmain:∀xs,U8 P n fn.params.toList xs->AW P [] f (xs.map AV.d) [] (λr _=>r=.d (.bool true)))
  (W:World) (base:Nat) (args:Array Value) (ds gs:List (DataW H)) (before:List MemPlace)
  (hval:∀(j:Nat) t v,fn.params[j]? = some t->args[j]? = some v->Value.okWide P W .any base t v)
  (hW:DataW.Whole enc P fn.params.toList s.vars apart W args.toList ds gs before) {B:DataW H->Nat} (hB:SL B) (hbs:∀d∈ds,B d<=HF) :
  Calls P f args W λe W'=>∃v,e=.returned v/\s.post enc P fn apart fresh handsOn false W args v W':=by
 have hlt:=hW.lt;have hW':=hW;obtain⟨p,q,hA,hV,rfl,_,_⟩:=hW;rw[hvars] at hV;obtain⟨rfl,rfl⟩:=trodVars_none hV;simp only[EW,C5,CZ] at hty
 let I:Im:={rd:=λb=>b<W.heap.size,fr:=λb=>b<W.heap.size,sub:=λ_ h=>h}
 obtain⟨xs,h1,h2,h3,h4⟩:=gI (I:=I) hB (λ_ h=>h) fn.params.toList args.toList ds p (λt ht=>(hty t ht).1.1) (λj t v ht hv=>hval j t v (by simpa using ht) Ph) hA hbs;have hm:=hmain xs h1 W I (λ_=>none) args.toList ⟨λ_ h=>h,λid hid=>absurd hid (F9 _),λi j b b' o o' _ _ _ h=>D8⟩ (Cr.nil _ _) (by simp[h2]) (λi v u hv hu=>by
  rw[DG] at hu
  cases hx:xs[i]? with
  | none=>rw[hx] at hu;cases hu
  | some x=>
   rw[hx] at hu
   simp only[DF,BF] at hu
   subst hu
   exact .d v x (h4 i v x hv hx))
 have e:(callFunc f args.toList.toArray).run P W=.ok (.enter f args) W:=by
  exact nY
 rw[e] at hm;refine hm.2.mono λx W' ⟨v,hx,r,σ',I',μ',q1,q2,q3,q4⟩=>?_;subst hx;subst q4;have hv:v=.bool true:=by
  have:=q3.Ar;cases this;rfl
 subst hv;have hbel:Below W.heap.size W W':=q2.below (λ_ h=>h);have hlen:(ds++[]).length=fn.params.size:=by simp[h3]
 refine⟨_,rfl,ds,[],p++[],[],p,[],hW',?_,?_,?_,?_,λh=>D8⟩
 ·rw[hspec _ _ hlen,hres];exact trodAll_mk1 (shut_bool htb true)
 ·rw[hspec _ _ hlen];simp only[FY];exact e_ hlaid hbel _ _ _ _ (λt ht=>⟨(hty t ht).1.2,(hty t ht).2⟩) hA (by simpa using hlt)
 ·rw[hspec _ _ hlen,hvars];exact rfl
 exact hbel.frame _
end Go.AM


namespace Go.AM
inductive Cel where
 | bool
 | int (k:IntKind)
 | str
 | sl (cs:List Cel) (agg:Bool)
mutual
def Ze:Cel->D->Prop
 | .bool,d=>∃b,d=.bool b
 | .int k,d=>∃i,d=.int k i/\(Lit.int k i).wf=true
 | .str,d=>∃s,d=.str s/\s.length<=maxLen
 | .sl cs g,d=>∃xs,d=.sl xs/\xs.length<=HF/\∀x∈xs,GK cs x.cells/\x.isAgg=g
def GK:List Cel->List D->Prop
 | [],ds=>ds=[]
 | c::r,ds=>∃d r',ds=d::r'/\Ze c d/\GK r r'
end
def GK.append:∀{a b:List Cel} {x y:List D},GK a x->GK b y->GK (a++b) (x++y)
 | [],b,x,y,h1,h2=>by
  simp only[GK] at h1;subst h1;simpa using h2
 | c::r,b,x,y,h1,h2=>by
  simp only[GK] at h1;obtain⟨d,r',rfl,h3,h4⟩:=h1;simp only[O7,GK];exact⟨d,r'++y,rfl,h3,h4.append h2⟩
def V4(f:TypeId->Option (List Cel)):List Field->Option (List Cel)
 | []=>some []
 | x::r=>match f x.type,V4 f r with
  | some a,some b=>some (a++b)
  | _,_=>none
def N8(P:Program):Nat->TypeId->Option (List Cel)
 | 0,_=>none
 | n+1,t=>match P.underlying t with
  | some .bool=>some [.bool]
  | some (.int k)=>some [.int k]
  | some .string=>some [.str]
  | some (.slice e)=>match N8 P n e with
   | some cs=>some [.sl cs ((BR P e).getD false)]
   | none=>none
  | some (.struct fs)=>V4 (N8 P n) fs.toList
  | _=>none
def Tl{P:Program}:∀{n:Nat} {t:TypeId} {cs:List Cel} {ds:List D},N8 P n t=some cs->HK P n t ds->GK cs ds
 | 0,t,cs,ds,h,_=>D8
 | n+1,t,cs,ds,h,ht=>by
  simp only[HK] at ht;unfold N8 at h;cases hu:P.underlying t with
  | none=>rw[hu] at ht;exact ht.elim
  | some td=>
   rw[hu] at ht h;cases td<;>simp only at ht h<;>try (exact ht.elim)
   ·obtain⟨b,rfl⟩:=ht;cases h;exact⟨_,[],rfl,⟨b,rfl⟩,rfl⟩
   ·obtain⟨i,rfl,hw⟩:=ht;cases h;exact⟨_,[],rfl,⟨i,rfl,hw⟩,rfl⟩
   ·obtain⟨s,rfl,hs⟩:=ht;cases h;exact⟨_,[],rfl,⟨s,rfl,hs⟩,rfl⟩
   ·obtain⟨xs,rfl,hx,hxs⟩:=ht;rename_i e;cases hs:N8 P n e with
    | none=>rw[hs] at h;cases h
    | some cs'=>
     rw[hs] at h;cases h;exact⟨_,[],rfl,⟨xs,rfl,hx,λx hm=>⟨Tl hs (hxs x hm).1,(hxs x hm).2.2⟩⟩,rfl⟩
   rename_i fs;have gen:∀(l:List Field) (cs:List Cel) (ds:List D),V4 (N8 P n) l=some cs->Pz P (HK P n) l ds->GK cs ds:=by
    intro l
    induction l with
    | nil=>
     intro cs ds h1 h2;cases h1;simp only[Pz] at h2;exact h2
    | cons x r ih=>
     intro cs ds h1 h2;simp only[Pz] at h2;obtain⟨a,b,rfl,_,h3,h4⟩:=h2;simp only[V4] at h1;split at h1
     ·rename_i p q hp hq;cases h1;exact(Tl hp h3).append (ih q b hq h4)
     cases h1
   exact gen _ _ _ h ht
def Rm{α:Type}{f:α->D}:∀{xs:List D},(∀x∈xs,∃a,x=f a)->∃l:List α,xs=l.map f
 | [],_=>⟨[],rfl⟩
 | x::r,h=>by
  obtain⟨a,rfl⟩:=h x DE;obtain⟨l,rfl⟩:=Rm λy hy=>h y (Cy _ hy);exact⟨a::l,rfl⟩
def Wn{α:Type}{f:α->D}{p:α->Prop}:∀{xs:List D},(∀x∈xs,∃a,x=f a/\p a)->∃l:List α,xs=l.map f/\∀a∈l,p a
 | [],_=>⟨[],rfl,λa ha=>by cases ha⟩
 | x::r,h=>by
  obtain⟨a,rfl,ha⟩:=h x DE;obtain⟨l,rfl,hl⟩:=Wn λy hy=>h y (Cy _ hy);exact⟨a::l,rfl,λb hb=>by
   rcases Bw.1 hb with rfl|hb
   ·exact ha
   exact hl b hb⟩
def jF{c:Cel}{x:D}(h:GK [c] x.cells)(hg:x.isAgg=false):Ze c x:=by
 obtain⟨d,r,h1,h2,h3⟩:=h;have hc:x.cells=[x]:=by cases x<;>first|rfl|(simp[D.isAgg] at hg)
 simp only[GK] at h3;subst h3;rw[hc] at h1;simp only[Zw,PS] at h1;rw[h1];exact h2
def Ps{x:D}{l:List D}(hg:x.isAgg=true)(h:x.cells=l):x=.agg l:=by
 cases x<;>simp_all [D.isAgg,D.cells]
def x9{P:Program}{n:Nat}{t:TypeId}{x:D}{cs:List Cel}{g:Bool}(h:SM P n t x)(hs:N8 P n t=some cs)(hk:(BR P t).getD false=g):GK cs x.cells/\x.isAgg=g:=⟨Tl hs h.1,h.2.trans hk⟩
def zP{P:Program}{n:Nat}{t:TypeId}{x:D}{c:Cel}(h:SM P n t x)(hs:N8 P n t=some [c])(hk:(BR P t).getD false=false):Ze c x:=jF (Tl hs h.1) (h.2.trans hk)
end Go.AM
