/- A part of the proof: an abstract machine over data, and lemmas; nothing of the statement. No condition beyond those stated. -/
import Derived.Test.YtafpldmnkcegmaaGreatG2
import Derived.Scope
import Derived.IntWalk
import Derived.Lib.Bytealg
set_option linter.all false

namespace Go.AM
variable {P:Program} {Gl:BM} {env:Env} {σ σ':Sto} {n:Nat} {all:Array Oper} {w:World} {I:Im} {μ:Pos} {a:Act} {Q:Exit->Act->World->Prop}
def MP(k:Nat)(listed:Array Bool):List Nat:=(List.range k).filter λi=>!listed.getD i true
def Od{listed:Array Bool}{i j:Nat}{b:Bool}(h:i<listed.size):(listed.setIfInBounds i true).getD j b=if j=i then true else listed.getD j b:=by
 by_cases e:j=i
 ·subst e;rw[AD rfl,Jb,O9 h];rfl
 rw[A7 e,Jb,Pb (λh=>e h.symm),<-Jb]
def Qbu{k i:Nat}{listed:Array Bool}(hs:k<=listed.size)(hi:i<k)(hl:listed.getD i true=false):
  ∃pre post,MP k listed=pre++i::post/\MP k (listed.setIfInBounds i true)=pre++post/\∀j∈pre,j<i/\listed.getD j true=false:=by
 refine⟨(List.range i).filter λj=>!listed.getD j true,((List.range (k-i-1)).map (i+1+·)).filter λj=>!listed.getD j true,?_,?_,?_⟩
 ·unfold MP;exact mY
 ·unfold MP;rw[YC hi,P_,PT,A7 (by rw[Od oo,AD rfl];simp)];congr 1
  ·exact Vd λj hj=>by rw[Od oo,A7 aw]
  exact Vd λj hj=>by
   obtain⟨k,_,rfl⟩:=C4.1 hj;rw[Od oo,A7 oo]
 intro j hj;have:=GP.1 hj;exact⟨CI.1 this.1,by simpa using this.2⟩
def dP{K K':Env->Sto->Prop}:∀{l:List Oper} {env:Env} {σ:Sto},IA P Gl n all l env σ K->(∀e s,K e s->K' e s)->IA P Gl n all l env σ K'
 | [],_,_,h,hk=>hk _ _ h
 | o::r,_,_,h,hk=>by
  obtain⟨v,σ',h1,h2⟩:=h;exact⟨v,σ',h1,dP h2 hk⟩
def Y5{o:Oper}{i:Nat}{Kw:Act->World->Prop}{K:Env->Sto->Prop}(hR:Rel w I μ σ)(hG:Cr Gl w I)(hE:C9 n w I μ σ env a)(hi:all[i]? = some o)(hs:OO P Gl n all o env σ K)
  (hn:∀env' σ' a' w' I' μ',K env' σ'->Rel w' I' μ' σ'->Cr Gl w' I'->C9 n w' I' μ' σ' env' a'->Ay σ.length w I μ σ w' I' μ' σ'->Kw a' w'):wpOp P all Q i Kw a w:=by
 rcases hs with⟨v,σ',h1,h2⟩|⟨hd,hgd,hg,hc,h1⟩
 ·exact Xr hR hG hE hi h1 λa' w' I' μ' q1 q2 q3 q4=>hn _ _ _ _ _ _ h2 q1 q2 q3 q4
 unfold wpOp;rw[hi];simp only;rw[AD (Un hgd _)];left;refine Oper.Bo (NI hR hG hE hg h1) λu w' ⟨r,s',I',μ',q1,q2,q3,q4⟩=>?_;exact hn _ _ _ _ _ _ q4 q1 (hG.AH q2) ((hE.AH q2).AJ hd q3) q2
def vY{listed:Array Bool}(hall:∀i,i<all.size->listed.getD i true=true)(h:Q .normal a w):∀fuel,wpAny P .any all Q fuel listed a w:=λfuel=>by
 have hrd:Region.ready .any all listed=[]:=by
  rw[TK];intro i hi;obtain⟨h1,h2,_⟩:=Kc.1 hi;rw[hall i h1] at h2;cases h2
 cases fuel with
 | zero=>exact⟨hrd,h⟩
 | succ f=>exact⟨λ_=>h,λi hi=>by rw[hrd] at hi;cases hi⟩
def vZ{N:Nat}(hck:KS all=true)(hN:all.size=N+1){o:Oper}(ho:all[N]? = some o)(hb:∀j,j<N->((MN all.toList []).getD N 0).testBit j=true){m:Nat}{K:Env->Sto->Prop}:∀(fuel:Nat) (listed:Array Bool) (env:Env) (σ:Sto) (w:World) (I:Im) (μ:Pos) (a:Act),
  listed.size=all.size->(∀i,listed.getD i false=true->Ls all (λj=>listed.getD j false=true) i)->(Fh all listed).length<=fuel->listed.getD N true=false ->
  IA P Gl n all (Ee all (MP N listed)) env σ (KX (λe s=>OO P Gl n all o e s K))->Rel w I μ σ->Cr Gl w I->C9 n w I μ σ env a->m<=σ.length ->
  (∀env' σ' w' I' μ' a',K env' σ'->Rel w' I' μ' σ'->Cr Gl w' I'->C9 n w' I' μ' σ' env' a'->Ay m w I μ σ w' I' μ' σ'->Q .normal a' w')->wpAny P .any all Q fuel listed a w:=by
 intro fuel
 induction fuel with
 | zero=>
  intro listed env σ w I μ a hsz hD hlen hlast;have:N∈Fh all listed:=GP.2 ⟨CI.2 oo,by rw[hlast];rfl⟩;rw[G3 (oo:(Fh all listed).length=0)] at this;cases this
 | succ fuel ih=>
  intro listed env σ w I μ a hsz hD hlen hlast hst hR hG hE hm hq;refine⟨λhrd=>?_,λi hi=>?_⟩
  ·exfalso;have hall:∀i,i<all.size->listed.getD i true=true:=by
    exact pO
   rw[hall N oo] at hlast;cases hlast
  obtain⟨h1,h2,o',h3,h4⟩:=Kc.1 hi;have hset:∀j,(listed.setIfInBounds i true).getD j false=true↔(listed.getD j false=true\/j=i):=λj=>by
   rw[Od oo];by_cases e:j=i
   ·simp[e]
   simp[e]
  have hp:Ls all (λj=>listed.getD j false=true) i:=λo2 ho2=>by rw[h3] at ho2;cases ho2;exact h4
  rcases B9 i N with hik|hik
  ·have hclos:∀j,(listed.setIfInBounds i true).getD j false=true->Ls all (λj=>(listed.setIfInBounds i true).getD j false=true) j:=λj hj o' ho' e he hb=>by
    exact om
   have hfuel:(Fh all (listed.setIfInBounds i true)).length<=fuel:=by
    obtain⟨pre,post,e1,e2,_⟩:=Ug hsz h1 h2;exact WM
   obtain⟨pre,post,e1,e2,e3⟩:=Qbu oo hik h2;have hpre:∀x∈Ee all pre,Lu all x o'=true:=λx hx=>by
    obtain⟨j,hj,hjx⟩:=aH.1 hx;obtain⟨hlt,hnl⟩:=e3 j hj;refine eK hck hlt hjx h3 (D:=λj=>listed.getD j false=true) hD hp ?_;intro hd;have hd:listed.getD j false=true:=hd;rw[MC oo,hnl] at hd;cases hd
   rw[e1] at hst;have e4:Ee all (pre++i::post)=Ee all pre++o'::Ee all post:=by simp[Ee,h3]
   rw[e4] at hst;obtain⟨v,σ',s1,s2⟩:=Y0 _ hpre hst;refine Xr hR hG hE h3 s1 λa' w' I' μ' q1 q2 q3 q4=>?_;refine ih (listed.setIfInBounds i true) _ σ' w' I' μ' a' W2 hclos hfuel (by rw[Od oo,A7 oo];exact hlast) ?_ q1 q2 q3 (DC hm q4.len) λenv' σ2 w2 I2 μ2 a2 k1 k2 k3 k4 k5=>hq env' σ2 w2 I2 μ2 a2 k1 k2 k3 k4 ((q4.mono hm).trans k5);exact na
  have hiN:i=N:=oo;subst hiN;rw[ho] at h3;cases h3;have hdone:∀j,j<i->listed.getD j false=true:=λj hj=>
   XH hD all.toList [] (λk=>A6) (λi hi=>absurd hi (F9 _)) i (by rw[Y1];simp;omega) j (hb j hj) hp
  have hnil:MP i listed=[]:=by
   rw[TK];intro j hj;have hj:=GP.1 hj;have hlt:=CI.1 hj.1;have:=hdone j hlt;rw[MC oo] at this;rw[this] at hj;simp at hj
  rw[hnil] at hst;obtain⟨e0,h0,hst⟩:=hst;refine Y5 hR hG (show C9 n w I μ σ e0 a from⟨hE.defers,hE.size,λt=>by rw[h0 t];exact hE.slot t⟩) ho hst λenv' σ' a' w' I' μ' k0 k1 k2 k3 k4=>?_;refine vY (λj hj=>?_) (hq env' σ' w' I' μ' a' k0 k1 k2 k3 (k4.mono hm)) fuel;rw[Od oo];by_cases e:j=i
  ·rw[AD e]
  rw[A7 e,<-MC oo];exact hdone j oo
def zy{k:Nat}(hk:k<=all.size):Ee all (MP k (Array.replicate all.size false))=all.toList.take k:=by
 have h1:MP k (Array.replicate all.size false)=List.range k:=by
  unfold MP;rw[Vj];intro i hi;have:=CI.1 hi;simp[show i<all.size by omega]
 rw[h1];have gen:∀N,N<=all.size->Ee all (List.range N)=all.toList.take N:=by
  intro N
  induction N with
  | zero=>intro _;rfl
  | succ N ih=>
   intro hN;have e:Ee all (List.range (N+1))=Ee all (List.range N)++[all[N]]:=by
    exact o0
   rw[e,ih oo,aC];simp[show N<all.size by omega]
 exact gen k hk
def Bc(n m:Nat)(env:Env)(σ:Sto)(env':Env)(σ':Sto):Prop:=
 ∀w I μ a,Rel w I μ σ->C9 n w I μ σ env a->m<=σ.length->∃I' μ',Rel w I' μ' σ'/\C9 n w I' μ' σ' env' a/\Ay m w I μ σ w I' μ' σ'
def Bc.refl(n m:Nat)(env:Env)(σ:Sto):Bc n m env σ env σ:=λ_ I μ _ h1 h2 h3=>⟨I,μ,h1,h2,Ay.refl _ _ _ _ h3⟩
def VI(P:Program)(Gl:BM)(n m:Nat)(all:Array Oper)(env:Env)(σ:Sto)(K:Env->Sto->Prop):Prop:=
 ∃J:Array Bool->Env->Sto->Prop,(∃e0 s0,Bc n m env σ e0 s0/\J (Array.replicate all.size false) e0 s0) /\
  (∀listed e s,J listed e s->listed.size=all.size->Region.ready .any all listed=[]->K e s) /\
  ∀(listed:Array Bool) e s i,J listed e s->listed.size=all.size->i∈Region.ready .any all listed->∀o,all[i]? = some o->Ab P Gl n all false [o] e s λe' s'=>∃e2 s2,Bc n m e' s' e2 s2/\J (listed.setIfInBounds i true) e2 s2
def dV{J:Array Bool->Env->Sto->Prop}{m:Nat}{K:Env->Sto->Prop}
  (h1:∀listed e s,J listed e s->listed.size=all.size->Region.ready .any all listed=[]->K e s)
  (h2:∀(listed:Array Bool) e s i,J listed e s->listed.size=all.size->i∈Region.ready .any all listed->∀o,all[i]? = some o->Ab P Gl n all false [o] e s λe' s'=>∃e2 s2,Bc n m e' s' e2 s2/\J (listed.setIfInBounds i true) e2 s2) :
  ∀(fuel:Nat) (listed:Array Bool) (env:Env) (σ:Sto) (w:World) (I:Im) (μ:Pos) (a:Act),listed.size=all.size->(Fh all listed).length<=fuel->J listed env σ->Rel w I μ σ->Cr Gl w I->C9 n w I μ σ env a->m<=σ.length ->
  (∀env' σ' w' I' μ' a',K env' σ'->Rel w' I' μ' σ'->Cr Gl w' I'->C9 n w' I' μ' σ' env' a'->Ay m w I μ σ w' I' μ' σ'->Q .normal a' w')->wpAny P .any all Q fuel listed a w:=by
 intro fuel
 induction fuel with
 | zero=>
  intro listed env σ w I μ a hsz hlen hJ hR hG hE hm hq;have hnil:Fh all listed=[]:=G3 oo;have hrd:Region.ready .any all listed=[]:=by
   exact o_
  exact⟨hrd,hq env σ w I μ a (h1 listed env σ hJ hsz hrd) hR hG hE (Ay.refl _ _ _ _ hm)⟩
 | succ fuel ih=>
  intro listed env σ w I μ a hsz hlen hJ hR hG hE hm hq;refine⟨λhrd=>hq env σ w I μ a (h1 listed env σ hJ hsz hrd) hR hG hE (Ay.refl _ _ _ _ hm),λi hi=>?_⟩;obtain⟨g1,g2,o,g3,g4⟩:=Kc.1 hi;have hfuel:(Fh all (listed.setIfInBounds i true)).length<=fuel:=by
   obtain⟨pre,post,e1,e2,_⟩:=Ug hsz g1 g2;exact WM
  refine Y5 hR hG hE g3 (df (h2 listed env σ i hJ hsz hi o g3)) λenv' σ' a' w' I' μ' k0 k1 k2 k3 k4=>?_;obtain⟨e2,s2,hw,hJ2⟩:=k0;obtain⟨I2,μ2,q1,q2,q3⟩:=hw w' I' μ' a' k1 k3 (DC hm k4.len);exact ih _ e2 s2 w' I2 μ2 a' W2 hfuel hJ2 q1 (k2.AH q3) q2 q3.len λenv3 σ3 w3 I3 μ3 a3 r1 r2 r3 r4 r5=>hq env3 σ3 w3 I3 μ3 a3 r1 r2 r3 r4 ((k4.mono hm).trans (q3.trans r5))
def Pv(P:Program)(Gl:BM)(n m:Nat)(all:Array Oper)(env:Env)(σ:Sto)(K:Env->Sto->Prop):Prop:=
 KS all=true\/VI P Gl n m all env σ K

def rT(hP:P.follows .mixedOrders=true){m id:Nat}{K:Env->Sto->Prop}(hck:Pv P Gl n m all env σ K)(h:Ab P Gl n all true all.toList env σ K)(hR:Rel w I μ σ)(hG:Cr Gl w I)(hE:C9 n w I μ σ env a)(hm:m<=σ.length)
  (hq:∀env' σ' w' I' μ' a',K env' σ'->Rel w' I' μ' σ'->Cr Gl w' I'->C9 n w' I' μ' σ' env' a'->Ay m w I μ σ w' I' μ' σ'->Q .normal a' w'):(Code.region id all true).wp P Q a w:=by
 rcases hck with hck|⟨J,⟨e0,s0,hw0,hJ⟩,h1,h2⟩
 ·cases hl:Lw all with
  | false=>exact Qfl hP hl hck h hR hG hE hm hq
  | true=>
   simp only[Lw,C5,CZ,EW,CI] at hl;obtain⟨N,hN⟩:∃N,all.size=N+1:=⟨all.size-1,oo⟩;refine wp_region_any hP ?_;have hs:=HN.drew w;have hk2:=hs.AH (I:=I) (μ:=μ) (σ:=σ);have ho:all[N]? = some all[N]:=MY oo;have hsplit:all.toList=all.toList.take N++[all[N]]:=by
    have h1:all.toList.take (N+1)=all.toList:=Bi Ap;have h2:all.toList.take (N+1)=all.toList.take N++[all[N]]:=by
     rw[aC];simp[show N<all.size by omega]
    exact h1.symm.trans h2
   rw[hsplit] at h;refine vZ hck hN ho (λj hj=>?_) all.size _ env σ _ I μ a A6 (λi hi=>?_) ?_ ?_ ?_ (hs.rel hR) (hG.AH hk2) (hE.AH hk2) hm λenv' σ' w' I' μ' a' k1 k2 k3 k4 k5=>hq env' σ' w' I' μ' a' k1 k2 k3 k4 ((hk2.mono hm).trans k5)
   ·have:=hl.2 j oo
    rwa [hN] at this
   ·exfalso;rcases B9 i all.size with h1|h1
    ·simp[h1] at hi
    simp[Sw.2 h1] at hi
   ·exact bY
   ·simp[show N<all.size by omega]
   rw[zy oo];exact dP (QU (rR hck) _ _ _ h) λe s h=>⟨e,λ_=>rfl,h⟩
 refine wp_region_any hP ?_;have hs:=HN.drew w;have hk2:=hs.AH (I:=I) (μ:=μ) (σ:=σ);have hE2:=hE.AH hk2;obtain⟨I0,μ0,a1,a2,a3⟩:=hw0 _ I μ a (hs.rel hR) hE2 hm;refine dV (m:=m) h1 h2 all.size _ e0 s0 _ I0 μ0 a A6 ?_ hJ a1 ((hG.AH hk2).AH a3) a2 a3.len λenv' σ' w' I' μ' a' k1 k2 k3 k4 k5=>hq env' σ' w' I' μ' a' k1 k2 k3 k4 ((hk2.mono hm).trans (a3.trans k5));unfold Fh;exact DC (Ge _ _) A6
def qq{op:Op}(h:F5 op=true):F5 op=true:=h
def dq{P:Program}{Gl:BM}{n m:Nat}{all:Array Oper}{env:Env}{σ:Sto}{K:Env->Sto->Prop}(h:KS all=true):Pv P Gl n m all env σ K:=Or.inl h
def pa:=aI (aI @List.length_take.{0} @List.length_drop.{0}) (aI @List.length_map.{0,0} (aI @List.length_append.{0} @List.length_cons.{0}))
def sdp{p:Prop}(h:p:=by first|omega|(simp only[pa];omega)|(refine qq ?_;rfl)|(refine dq ?_;kernel_rfl)|(intros;simp_all;done)|fail):p:=h
end Go.AM


namespace Go.AM
inductive Ct where
 | normal
 | exit (id:Nat)
 | ret
def MR:Exit->Ct->Prop
 | .normal,.normal=>True
 | .exit i,.exit j=>i=j
 | .ret,.ret=>True
 | _,_=>False
def Ou(n m:Nat)(w:World)(I:Im)(L:Pos)(S:Sto)(K:Ct->Env->Sto->Prop)(Gl:BM):Exit->Act->World->Prop:=λe a' w'=>
 ∃ae env' σ' I' μ',MR e ae/\Rel w' I' μ' σ'/\Cr Gl w' I'/\C9 n w' I' μ' σ' env' a'/\Ay m w I L S w' I' μ' σ'/\K ae env' σ'
def AWp(P:Program)(Gl:BM)(n m:Nat)(c:Code)(env:Env)(S:Sto)(K:Ct->Env->Sto->Prop):Prop:=
 ∀w I L a,Rel w I L S->Cr Gl w I->C9 n w I L S env a->m<=S.length->c.wp P (Ou n m w I L S K Gl) a w
def H2(K:Ct->Env->Sto->Prop)(next:Env->Sto->Prop):Ct->Env->Sto->Prop
 | .normal,env,S=>next env S
 | e,env,S=>K e env S
def Gm(id:Nat)(K:Ct->Env->Sto->Prop):Ct->Env->Sto->Prop
 | .exit i,env,S=>if i=id then K .normal env S else K (.exit i) env S
 | e,env,S=>K e env S
def iR(n m:Nat)(step:Env->Sto->(Ct->Env->Sto->Prop)->Prop)(env:Env)(S:Sto)(K:Ct->Env->Sto->Prop):Prop:=
 ∃(Inv:Env->Sto->Prop) (V:Env->Sto->Nat),(∃e s,Bc n m env S e s/\Inv e s) /\
  ∀e s,Inv e s->step e s (H2 K λe' s'=>∃e2 s2,Bc n m e' s' e2 s2/\Inv e2 s2/\V e2 s2<V e s)
def VT:AV->Bool
 | .d (.bool b)=>b
 | .BY=>true
 | _=>false
def Sp:AV->Bool
 | .d (.bool b)=>!b
 | .BY=>true
 | _=>false
def AV.Ek:AV->Bool
 | .d (.bool _)=>true
 | .BY=>true
 | _=>false
def NY(u:AV)(X Y:Prop):Prop:=u.Ek=true/\(VT u=true->X)/\(Sp u=true->Y)
def evC(P:Program)(Gl:BM)(n m:Nat):Code->Env->Sto->(Ct->Env->Sto->Prop)->Prop
 | .skip,env,S,K=>K .normal env S
 | .region _ ops draw,env,S,K=>(draw=true->Pv P Gl n m ops env S (K .normal))/\Ab P Gl n ops draw ops.toList env S (K .normal)
 | .seq x y,env,S,K=>evC P Gl n m x env S (H2 K λenv' σ'=>evC P Gl n m y env' σ' K)
 | .cond c x y,env,S,K=>evG Gl env c=true/\NY (evU Gl env c) (evC P Gl n m x env S K) (evC P Gl n m y env S K)
 | .block id c,env,S,K=>evC P Gl n m c env S (Gm id K)
 | .loop c,env,S,K=>iR n m (evC P Gl n m c) env S K
 | .exit id,env,S,K=>K (.exit id) env S
 | .ret,env,S,K=>K .ret env S
 | .scope c,env,S,K=>evC P Gl n m c env S K
 | .label _,env,S,K=>K .normal env S
 | _,_,_,_=>False
variable {P:Program} {Gl:BM} {n m:Nat} {env:Env} {σ:Sto} {K:Ct->Env->Sto->Prop}
def Ou.trans{w w1:World}{I I1:Im}{L μ1:Pos}{σ σ1:Sto}(k:Ay m w I L σ w1 I1 μ1 σ1){K':Ct->Env->Sto->Prop}(hk:∀e env s,K e env s->K' e env s){e:Exit}{a':Act}{w':World}(h:Ou n m w1 I1 μ1 σ1 K Gl e a' w'):Ou n m w I L σ K' Gl e a' w':=by
 obtain⟨ae,env',σ',I',μ',h1,h2,h3,h4,h5,h6⟩:=h;exact⟨ae,env',σ',I',μ',h1,h2,h3,h4,k.trans h5,hk _ _ _ h6⟩
def AWp.mono{c:Code}{K':Ct->Env->Sto->Prop}(h:AWp P Gl n m c env σ K)(hk:∀e env s,K e env s->K' e env s):AWp P Gl n m c env σ K':=
 λw I L a h1 h2 h3 h4=>Code.wp_mono (λ_ _ _ q=>Ou.trans (Ay.refl _ _ _ _ h4) hk q) (h w I L a h1 h2 h3 h4)
def AWp.seq{x y:Code}(h:AWp P Gl n m x env σ (H2 K λenv' σ'=>AWp P Gl n m y env' σ' K)):AWp P Gl n m (.seq x y) env σ K:=by
 intro w I L a h1 h2 h3 h4;refine wp_seq (Code.wp_mono (λe a' w' q=>?_) (h w I L a h1 h2 h3 h4));obtain⟨ae,env',σ',I',μ',q1,q2,q3,q4,q5,q6⟩:=q;cases e<;>cases ae<;>simp only[MR] at q1<;>simp only[Exit.then]
 ·exact Code.wp_mono (λ_ _ _ q=>Ou.trans q5 (λ_ _ _ h=>h) q) (q6 w' I' μ' a' q2 q3 q4 q5.len)
 ·exact nO
 exact bP
def AWp.block{id:Nat}{c:Code}(h:AWp P Gl n m c env σ (Gm id K)):AWp P Gl n m (.block id c) env σ K:=by
 intro w I L a h1 h2 h3 h4;refine wp_block (Code.wp_mono (λe a' w' q=>?_) (h w I L a h1 h2 h3 h4));obtain⟨ae,env',σ',I',μ',q1,q2,q3,q4,q5,q6⟩:=q;cases e<;>cases ae<;>simp only[MR] at q1<;>simp only[Exit.inBlock]
 ·exact⟨.normal,env',σ',I',μ',trivial,q2,q3,q4,q5,q6⟩
 ·subst q1;simp only[Gm] at q6;split
  ·rename_i he;rw[AD he] at q6;exact⟨.normal,env',σ',I',μ',trivial,q2,q3,q4,q5,q6⟩
  rename_i he;rw[A7 he] at q6;exact⟨.exit _,env',σ',I',μ',rfl,q2,q3,q4,q5,q6⟩
 exact bP
def AWp.Cj{c:Code}{env':Env}{σ':Sto}(hw:Bc n m env σ env' σ')(h:AWp P Gl n m c env' σ' K):AWp P Gl n m c env σ K:=by
 intro w I L a h1 h2 h3 h4;obtain⟨I',μ',q1,q2,q3⟩:=hw w I L a h1 h3 h4;exact Code.wp_mono (λ_ _ _ q=>Ou.trans q3 (λ_ _ _ h=>h) q) (h w I' μ' a q1 (h2.AH q3) q2 q3.len)
def NT{T:Nat->Prop}(h:∃k,T k):∃k,T k/\∀j,T j->k<=j:=by
 obtain⟨k,hk⟩:=h
 induction k using Nat.strongRecOn with
 | _ k ih=>
  by_cases hx:∃j,j<k/\T j
  ·obtain⟨j,hj,ht⟩:=hx;exact ih j hj ht
  exact⟨k,hk,λj hj=>Va λhlt=>hx ⟨j,hlt,hj⟩⟩
def AWp.loop{c:Code}(h:iR n m (λe s k=>AWp P Gl n m c e s k) env σ K):AWp P Gl n m (.loop c) env σ K:=by
 intro w I L a h1 h2 h3 h4;obtain⟨Inv,V,⟨e0,s0,hw0,hi0⟩,hstep⟩:=h
 let T:Act->World->Nat->Prop:=λa' w' k=>∃e s I' μ',V e s=k/\Inv e s/\Rel w' I' μ' s/\Cr Gl w' I'/\C9 n w' I' μ' s e a'/\Ay m w I L σ w' I' μ' s
 let least:Act->World->Nat:=λa' w'=>open Classical in if h:∃k,T a' w' k then Classical.choose (NT h) else 0
 have least_spec:∀a' w' (h:∃k,T a' w' k),T a' w' (least a' w')/\∀j,T a' w' j->least a' w'<=j:=λa' w' h=>by
  have:least a' w'=Classical.choose (NT h):=by simp only[least];rw[JR h]
  rw[this];exact TA (NT h)
 obtain⟨I0,μ0,q1,q2,q3⟩:=hw0 w I L a h1 h3 h4;refine wp_loop (λa' w'=>∃k,T a' w' k) least ⟨V e0 s0,e0,s0,I0,μ0,rfl,hi0,q1,h2.AH q3,q2,q3⟩ λa' w' hI=>?_;obtain⟨⟨e,s,I',μ',hk,hi,r1,r2,r3,r4⟩,hmin⟩:=least_spec a' w' hI;refine Code.wp_mono (λx a2 w2 q=>?_) (hstep e s hi w' I' μ' a' r1 r2 r3 r4.len);obtain⟨ae,env',σ',I2,μ2,p1,p2,p3,p4,p5,p6⟩:=q;cases x<;>cases ae<;>simp only[MR] at p1<;>simp only[Exit.then]
 ·obtain⟨e2,s2,hw2,hi2,hlt⟩:=p6;obtain⟨I3,μ3,t1,t2,t3⟩:=hw2 w2 I2 μ2 a2 p2 p4 p5.len;have hT:T a2 w2 (V e2 s2):=⟨e2,s2,I3,μ3,rfl,hi2,t1,p3.AH t3,t2,(r4.trans p5).trans t3⟩;refine⟨⟨_,hT⟩,?_⟩;have:=(least_spec a2 w2 ⟨_,hT⟩).2 _ hT;omega
 ·subst p1;exact⟨.exit _,env',σ',I2,μ2,(rfl:MR (.exit _) (.exit _)),p2,p3,p4,r4.trans p5,p6⟩
 exact⟨.ret,env',σ',I2,μ2,trivial,p2,p3,p4,r4.trans p5,p6⟩
def Og{K K':Ct->Env->Sto->Prop}{f g:Env->Sto->Prop}(hk:∀e env s,K e env s->K' e env s)(hf:∀env s,f env s->g env s):∀e env s,H2 K f e env s->H2 K' g e env s:=by
 intro e env s h;cases e<;>first|exact hf _ _ h|exact hk _ _ _ h
def Bu(hP:P.follows .mixedOrders=true):
  ∀(c:Code) (env:Env) (σ:Sto) (K:Ct->Env->Sto->Prop),evC P Gl n m c env σ K->AWp P Gl n m c env σ K:=by
 intro c
 induction c with
 | skip=>
  intro env σ K h w I L a h1 h2 h3 h4;exact wp_skip ⟨.normal,env,σ,I,L,trivial,h1,h2,h3,Ay.refl _ _ _ _ h4,h⟩
 | region id ops draw=>
  intro env σ K h;cases draw with
  | false=>
   intro w I L a h1 h2 h3 h4;refine wp_region_list (Kd ops.toList env σ h.2 h1 h2 h3 h4 λenv' σ' w' I' μ' a' k1 k2 k3 k4 k5=>?_);exact⟨.normal,env',σ',I',μ',trivial,k2,k3,k4,k5,k1⟩
  | true=>
   intro w I L a h1 h2 h3 h4;refine rT hP (h.1 rfl) h.2 h1 h2 h3 h4 λenv' σ' w' I' μ' a' k1 k2 k3 k4 k5=>?_;exact⟨.normal,env',σ',I',μ',trivial,k2,k3,k4,k5,k1⟩
 | seq x y ihx ihy=>
  intro env σ K h;exact AWp.seq (AWp.mono (ihx env σ _ h) (Og (λ_ _ _ h=>h) λenv s h=>ihy env s K h))
 | cond c x y ihx ihy=>
  intro env σ K h w I L a h1 h2 h3 h4;obtain⟨g1,g2,g3,g4⟩:=h;have hr:=H6 h2 h3 g1;have hb:∃b,a.eval c=.bool b/\(b=true->VT (evU Gl env c)=true)/\(b=false->Sp (evU Gl env c)=true):=by
   generalize evU Gl env c=u at *;generalize a.eval c=v at *;cases u with
   | d x=>
    cases x with
    | bool b=>cases hr.Ar;exact⟨b,rfl,λh=>h,λh=>by simp[Sp,h]⟩
    | _=>simp[AV.Ek] at g2
   | BY=>cases hr with|BY b=>exact⟨b,rfl,λ_=>rfl,λ_=>rfl⟩
   | _=>simp[AV.Ek] at g2
  obtain⟨b,hb,hT,hF⟩:=hb;refine wp_cond_split hb (λht=>?_) (λht=>?_)
  ·exact ihx env σ K (g3 (hT ht)) w I L a h1 h2 h3 h4
  exact ihy env σ K (g4 (hF ht)) w I L a h1 h2 h3 h4
 | block id c ih=>
  intro env σ K h;exact AWp.block (ih env σ _ h)
 | loop c ih=>
  intro env σ K h;obtain⟨Inv,V,h1,h2⟩:=h;exact AWp.loop ⟨Inv,V,h1,λe s hi=>ih e s _ (h2 e s hi)⟩
 | exit id=>
  intro env σ K h w I L a h1 h2 h3 h4;exact wp_exit ⟨.exit id,env,σ,I,L,rfl,h1,h2,h3,Ay.refl _ _ _ _ h4,h⟩
 | ret=>
  intro env σ K h w I L a h1 h2 h3 h4;exact wp_ret ⟨.ret,env,σ,I,L,trivial,h1,h2,h3,Ay.refl _ _ _ _ h4,h⟩
 | scope c ih=>
  intro env σ K h w I L a h1 h2 h3 h4;refine wp_scope_straight (Code.wp_mono (λe a' w' q=>?_) (ih env σ K h w I L a h1 h2 h3 h4));obtain⟨ae,env',σ',I',μ',q1,q2,q3,q4,q5,q6⟩:=q;cases e<;>cases ae<;>simp only[MR] at q1
  ·exact⟨.normal,env',σ',I',μ',trivial,q2,q3,q4,q5,q6⟩
  ·exact nO
  exact bP
 | label l=>
  intro env σ K h w I L a h1 h2 h3 h4;exact wp_label ⟨.normal,env,σ,I,L,trivial,h1,h2,h3,Ay.refl _ _ _ _ h4,h⟩
 | _=>intro env σ K h;exact h.elim
end Go.AM


namespace Go.AM
variable {P:Program} {Gl:BM} {w:World} {I:Im} {μ:Pos} {σ:Sto} {n m:Nat} {env:Env} {a:Act}
def B6:List AV->Nat->Env
 | [],_=>[]
 | v::r,k=>(k,v)::B6 r (k+1)
def dz:∀(args:List AV) (k t:Nat),Bl (B6 args k) t=if k<=t then args.getD (t-k) .undef else .undef
 | [],k,t=>by simp[B6,Bl]
 | v::r,k,t=>by
  simp only[B6,Bl];by_cases e:k=t
  ·subst e;simp
  rw[A7 e,dz r (k+1) t];by_cases h:k<=t
  ·rw[AD h,AD oo];have:t-k=(t-(k+1))+1:=oo;rw[this];rfl
  rw[A7 h,A7 oo]
def Pu(P:Program)(env:Env)(σ:Sto):ResultVar->Prop
 | .tmp t=>(Bl env t).vg=true
 | .cell t ty=>match BR P ty,tsz P ty with|some g,some k=>JM σ g k (Bl env t)|_,_=>False
def Lz(P:Program)(env:Env)(σ:Sto):ResultVar->AV
 | .tmp t=>(Bl env t).un
 | .cell t ty=>match BR P ty,tsz P ty with|some g,some k=>ldV σ g k (Bl env t)|_,_=>.undef
def L6(P:Program)(env:Env)(σ:Sto):List ResultVar->Prop
 | []=>True
 | r::rs=>Pu P env σ r/\L6 P env σ rs
def Nq(P:Program)(env:Env)(σ:Sto):List ResultVar->AV
 | [r]=>Lz P env σ r
 | rs=>.Aj (rs.map (Lz P env σ))
def Bg(m:Nat)(r:AV)(s:Sto)(r':AV)(s':Sto):Prop:=
 ∀w I μ v,Rel w I μ s->AL w I μ s v r->m<=s.length->∃I' μ',Rel w I' μ' s'/\AL w I' μ' s' v r'/\Ay m w I μ s w I' μ' s'
def Bg.refl(m:Nat)(r:AV)(s:Sto):Bg m r s r s:=λ_ I μ _ h1 h2 h3=>⟨I,μ,h1,h2,Ay.refl _ _ _ _ h3⟩
def Ss(P:Program)(m:Nat)(rs:List ResultVar)(R:AV->Sto->Prop):Ct->Env->Sto->Prop
 | .exit _,_,_=>False
 | _,env,σ=>L6 P env σ rs/\∃r' s',Bg m (Nq P env σ rs) σ r' s'/\R r' s'
def Sr(tmps:Array Value):ResultVar->Sem Value
 | .tmp t=>pure (tmps.getD t Go.undef)
 | .cell t ty=>do loadVar ty (<-asAddr (tmps.getD t Go.undef))
def xH(hR:Rel w I μ σ)(hE:C9 n w I μ σ env a){r:ResultVar}(ho:Pu P env σ r):
  ∃v,(Sr a.tmps r).run P w=.ok v w/\AL w I μ σ v (Lz P env σ r):=by
 cases r with
 | tmp t=>exact⟨_,rfl,jA (hE.slot t) ho⟩
 | cell t ty=>
  simp only[Pu] at ho;split at ho
  ·rename_i g k h1 h2;obtain⟨u,h3,h4⟩:=hY (P:=P) hR h1 h2 (hE.slot t) ho;refine⟨u,?_,by simp only[Lz,h1,h2];exact h4⟩;have hp:∃ad,a.tmps.getD t Go.undef=.pointer (some ad):=by
    have hv:=hE.slot t;generalize Bl env t=p at *;generalize a.tmps.getD t Go.undef=q at *;have hq:=hv;cases p with
    | d y=>
     cases y with
     | ref x=>obtain⟨_,_,e,_⟩:=hv.Ar.Ig;exact⟨_,e⟩
     | _=>exact ho.elim
    | ptr id off=>cases hv;rename_i h;obtain⟨_,_,_,e⟩:=h;exact⟨_,e⟩
    | B8 es xs i off=>cases hv;exact⟨_,rfl⟩
    | Al id i off=>cases hv;rename_i h;obtain⟨_,_,_,_,e⟩:=h;exact⟨_,e⟩
    | _=>exact ho.elim
   obtain⟨ad,e⟩:=hp;rw[e] at h3;simp only[Sr,e,asAddr,Sem.run_bind,Sem.run_pure,Result.andThen_ok];simpa[Instr.loadAt,Instr.sureAddr] using h3
  exact ho.elim
def gJ(hR:Rel w I μ σ)(hE:C9 n w I μ σ env a):∀(rs:List ResultVar),L6 P env σ rs ->
  ∃vs:List Value,(rs.mapM (Sr a.tmps)).run P w=.ok vs w/\vs.length=rs.length /\
   ∀(i:Nat) (v:Value) (u:AV),vs[i]? = some v->(rs.map (Lz P env σ))[i]? = some u->AL w I μ σ v u
 | [],_=>⟨[],rfl,rfl,λi v u hv=>RN⟩
 | r::rs,ho=>by
  obtain⟨v,h1,h2⟩:=xH (P:=P) hR hE ho.1;obtain⟨vs,h3,h4,h5⟩:=gJ hR hE rs ho.2;refine⟨v::vs,?_,by simp[h4],λi v' u hv hu=>?_⟩
  ·rw[aL];simp only[Sem.run_bind];rw[h1];simp only[Result.andThen_ok];rw[h3];simp
  cases i with
  | zero=>simp at hv hu;subst hv;subst hu;exact h2
  | succ i=>exact h5 i v' u Ph (by simpa using hu)
def sW(hR:Rel w I μ σ)(hE:C9 n w I μ σ env a){fn:Func}(ho:L6 P env σ fn.results.toList):∃v,(results fn a.tmps).run P w=.ok v w/\AL w I μ σ v (Nq P env σ fn.results.toList):=by
 obtain⟨vs,h1,h2,h3⟩:=gJ (P:=P) hR hE fn.results.toList ho;have hrun:(fn.results.mapM (Sr a.tmps)).run P w=.ok vs.toArray w:=by
  rw[Array.mapM_eq_mapM_toList];simp only[Sem.run_map,h1,Result.andThen_ok]
 have e:(results fn a.tmps).run P w=.ok (if h:vs.toArray.size=1 then vs.toArray[0] else .tuple vs.toArray) w:=by
  have e0:results fn a.tmps=(do let vs <-fn.results.mapM (Sr a.tmps);pure (if h:vs.size=1 then vs[0] else .tuple vs)):=by
   unfold results;congr 1
  rw[e0];simp only[Sem.run_bind,hrun,Result.andThen_ok,Sem.run_pure]
 refine⟨_,e,?_⟩;cases hl:fn.results.toList with
 | nil=>
  rw[hl] at h2 h3;have:vs=[]:=G3 h2;subst this;exact .Aj [] [] rfl (λi v u hv=>RN)
 | cons r rs=>
  rw[hl] at h2 h3;cases rs with
  | nil=>
   cases vs with
   | nil=>simp at h2
   | cons v vs=>
    simp at h2;subst h2;exact h3 0 v _ rfl rfl
  | cons r2 rs=>
   rw[PQ (by simp[h2])];exact .Aj vs _ (by simp[h2]) h3
def Qf3{vals:List Value}{args:List AV}(hl:vals.length=args.length)(hr:∀(i:Nat) (v:Value) (u:AV),vals[i]? = some v->args[i]? = some u->AL w I μ σ v u)(hn:args.length<=n):
  C9 n w I μ σ (B6 args 0) {tmps:=vals.toArray++Array.replicate (n-vals.toArray.size) Go.undef,defers:=[]}:=by
 refine⟨rfl,Ap,λt=>?_⟩;rw[dz];simp only[Bq,By,Nw];rcases B9 t args.length with ht|ht
 ·have h1:vals[t]? = some vals[t]:=BP oo;have h2:args[t]? = some args[t]:=BP ht;have e:(vals.toArray++Array.replicate (n-vals.toArray.size) Go.undef).getD t Go.undef=vals[t]:=by
   rw[Jb,TL Ap];simp[h1]
  rw[e,B5,h2];exact hr t _ _ h1 h2
 rw[B5,Bt ht];exact .undef _
def Fv{f:FuncId}{fn:Func}{c:Code}{args:List AV}{R:AV->Sto->Prop}(hf:P.funcs[f]? = some fn)(hname:(fn.name == "runtime.NumGoroutine")=false)(hb:fn.body=some c)(hn:args.length<=fn.ntmps)
  (h:AWp P Gl fn.ntmps σ.length c (B6 args 0) σ (Ss P σ.length fn.results.toList R)):AW P Gl f args σ R:=by
 intro w I μ vals hR hG hl hr;have e:(callFunc f vals.toArray).run P w=.ok (.enter f vals.toArray) w:=by
  exact nY
 rw[e];refine⟨rfl,calls_of_wp hf hb ?_⟩;refine Code.wp_mono (λx a' w' q=>?_) (h w I μ _ hR hG (Qf3 hl hr hn) (AR _));obtain⟨ae,env',σ',I',μ',q1,q2,q3,q4,q5,q6⟩:=q;have fin:(L6 P env' σ' fn.results.toList/\∃r' s',Bg σ.length (Nq P env' σ' fn.results.toList) σ' r' s'/\R r' s')->∃v,(results fn a'.tmps).run P w'=.ok v w'/\Zf w I μ σ R v w':=by
  rintro⟨h1,r',s',h2,h3⟩;obtain⟨v,h4,h5⟩:=sW (P:=P) q2 q4 h1;obtain⟨I2,μ2,h6,h7,h8⟩:=h2 w' I' μ' v q2 h5 q5.len;exact⟨v,h4,r',s',I2,μ2,h6,q5.trans h8,h7,h3⟩
 cases x<;>cases ae<;>simp only[MR] at q1
 ·obtain⟨v,h1,h2⟩:=fin q6;exact⟨q4.defers,v,h1,v,rfl,h2⟩
 ·exact q6.elim
 obtain⟨v,h1,h2⟩:=fin q6;exact⟨q4.defers,v,h1,v,rfl,h2⟩
def Bn(G:List Nat)(id:Nat):Option Nat:=G.findIdx? (·==id)
def DJ(G:List Nat)(σ:Sto):AV->AV
 | .d x=>.d x
 | .AA=>.AA
 | .B8 es xs i off=>.B8 es xs i off
 | .ptr id off=>match Bn G id with|some j=>.ptr j off|none=>.undef
 | .Al id i off=>match Bn G id with|some j=>.Al j i off|none=>.undef
 | .A8 id off len=>match Bn G id with
  | some j=>.A8 j off len
  | none=>if(A1 σ id).AY=true/\(A1 σ id).own=false then .d (.sl (((A1 σ id).xs.drop off).take len)) else .undef
 | .AF id=>match Bn G id with|some j=>.AF j|none=>.undef
 | .BY=>.BY
 | _=>.undef
def BJ(G:List Nat)(σ:Sto):AV->AV
 | .agg cs=>if(cs.map (DJ G σ)).all AV.one then FV (cs.map (DJ G σ)) else .undef
 | .Aj vs=>.Aj (vs.map (DJ G σ))
 | .fn f caps=>.fn f (caps.map (DJ G σ))
 | .iff _ _=>.undef
 | v=>DJ G σ v
def Ca(G:List Nat)(σ:Sto):Blk->Blk
 | .box n v=>match BJ G σ v with
  | .undef=>.dead
  | v'=>.box n v'
 | .map ik f=>.map ik λk=>(f k).map (BJ G σ)
 | .var es cs=>if(cs.map (DJ G σ)).all AV.one=true then .var es (cs.map (DJ G σ)) else .dead
 | B=>B
def C1(G:List Nat)(σ:Sto):Sto:=G.map λid=>Ca G σ (A1 σ id)
def Gn(G:List Nat)(μ:Pos):Pos:=λj=>match G[j]? with|some id=>μ id|none=>none
def MF{G:List Nat}{id j:Nat}(h:Bn G id=some j):G[j]? = some id:=by
 unfold Bn at h;have:=aY.1 h;obtain⟨hj,h1,_⟩:=this;rw[BP hj];simpa using h1
def ME{G:List Nat}{j id:Nat}(h:G[j]? = some id):A1 (C1 G σ) j=Ca G σ (A1 σ id):=by
 unfold C1
 conv=>lhs;unfold A1
 rw[B5,DG,h];rfl
def XD(G:List Nat)(σ':Sto)(B:Blk)(h:(Ca G σ' B).AP=false):(Ca G σ' B).B7=B.B7/\(Ca G σ' B).es=B.es/\(Ca G σ' B).xs=B.xs:=by
 cases B with
 | box n v=>simp only[Ca];split<;>exact⟨rfl,rfl,rfl⟩
 | var es cs=>
  simp only[Ca] at h ⊢;split at h
  ·rename_i h1;rw[AD h1];exact⟨rfl,rfl,RH⟩
  cases h
 | _=>exact⟨rfl,rfl,rfl⟩
def Xp{G:List Nat}{σ':Sto}{B:Blk}(h:(Ca G σ' B).AP=false):B.AP=false:=by
 cases B<;>simp_all [Ca,Blk.AP]
def XC(hR:Rel w I μ σ){G:List Nat}{v:Value}{u:AV}(hv:AL w I μ σ v u):AL w I (Gn G μ) (C1 G σ) v (DJ G σ u):=by
 have key:∀{id j:Nat},Bn G id=some j->j<(C1 G σ).length/\(Br (C1 G σ) j->Br σ id)/\Gn G μ j=μ id/\(Br (C1 G σ) j->(A1 (C1 G σ) j).B7=(A1 σ id).B7/\(A1 (C1 G σ) j).es=(A1 σ id).es/\(A1 (C1 G σ) j).xs=(A1 σ id).xs):=λ{id j} hj=>by
  have hs:=MF hj;have hb:=ME (σ:=σ) hs;refine⟨?_,λha=>?_,by unfold Gn;rw[hs],λha=>by unfold Br at ha;rw[hb] at ha ⊢;exact XD G σ _ ha⟩
  ·unfold C1;rw[BW];exact oQ
  unfold Br at *;rw[hb] at ha;exact Xp ha
 cases u with
 | d x=>exact .d _ _ hv.Ar
 | AA=>cases hv;exact .AA
 | B8 es xs i off=>cases hv with|B8 b o _ _ _ _ hh=>exact .B8 b o es xs i off hh
 | ptr id off=>
  simp only[DJ];cases hj:Bn G id with
  | none=>exact .undef _
  | some j=>
   obtain⟨k1,k2,k3,_⟩:=key hj;cases hv with
   | ptr _ _ _ hid hh=>
    obtain⟨b,base,h1,h2⟩:=hh;exact .ptr _ _ _ k1 ⟨b,base,λha=>by rw[k3];exact h1 (k2 ha),h2⟩
 | Al id i off=>
  simp only[DJ];cases hj:Bn G id with
  | none=>exact .undef _
  | some j=>
   obtain⟨k1,k2,k3,k4⟩:=key hj;cases hv with
   | Al _ _ _ _ hid hh=>
    obtain⟨b,base,es,h1,h2⟩:=hh;exact .Al _ _ _ _ k1 ⟨b,base,es,λha=>by rw[k3,(k4 ha).2.1];exact h1 (k2 ha),h2⟩
 | A8 id off len=>
  simp only[DJ];cases hj:Bn G id with
  | none=>
   by_cases hc:(A1 σ id).AY=true/\(A1 σ id).own=false
   ·simp only[AD hc];exact .d _ _ (hv.oslData hR hc.1 hc.2)
   simp only[A7 hc];exact .undef _
  | some j=>
   obtain⟨k1,k2,k3,k4⟩:=key hj;obtain⟨hid,hh⟩:=OV hv;refine .A8 _ _ _ _ k1 ?_;rcases hh with hh|⟨b,base,es,cap,h1,h2,h3⟩
   ·exact .inl hh
   refine .inr ⟨b,base,es,cap,λha=>?_,h2,h3⟩;rw[k3,(k4 ha).1,(k4 ha).2.1,(k4 ha).2.2];exact h1 (k2 ha)
 | AF id=>
  simp only[DJ];cases hj:Bn G id with
  | none=>exact .undef _
  | some j=>
   obtain⟨k1,k2,k3,_⟩:=key hj;cases hv with
   | AF _ _ hid hh=>
    obtain⟨b,h1,h2⟩:=hh;exact .AF _ _ k1 ⟨b,λha=>by rw[k3];exact h1 (k2 ha),h2⟩
 | BY=>cases hv;exact .BY _
 | _=>exact .undef _
def Rw(hR:Rel w I μ σ){ρ:List Nat}{v:Value}{u:AV}(hv:AL w I μ σ v u):AL w I (Gn ρ μ) (C1 ρ σ) v (BJ ρ σ u):=by
 have lst:∀{vs:List Value} {cs:List AV},(∀(i:Nat) (v:Value) (x:AV),vs[i]? = some v->cs[i]? = some x->AL w I μ σ v x)->∀(i:Nat) (v:Value) (x:AV),vs[i]? = some v->(cs.map (DJ ρ σ))[i]? = some x->AL w I (Gn ρ μ) (C1 ρ σ) v x:=λ{vs cs} h i v x hv hx=>by
  rw[DG] at hx;cases hc:cs[i]? with
  | none=>rw[hc] at hx;cases hx
  | some c=>
   rw[hc] at hx;simp only[DF,BF] at hx;subst hx;exact XC hR (h i v c hv hc)
 cases u with
 | agg cs=>
  cases hv with
  | agg vs _ hl hone hh=>
   simp only[BJ];split
   ·rename_i hall;exact QM Hb (λc hc=>EW.1 hall c hc) (lst hh)
   exact .undef _
 | Aj cs=>cases hv with|Aj vs _ hl hh=>exact .Aj vs _ Hb (lst hh)
 | fn f cs=>cases hv with|fn _ vs _ hl hh=>exact .fn f vs _ Hb (lst hh)
 | iff g x=>exact .undef _
 | _=>exact XC hR hv
def dK(G:List Nat)(σ':Sto)(v:AV)(hu:BJ G σ' v≠.undef)(j:Nat)(hj:j<v.AO):(BJ G σ' v).AO=v.AO/\(BJ G σ' v).cellAt j=BJ G σ' (v.cellAt j):=by
 cases v with
 | d x=>exact⟨rfl,rfl⟩
 | agg cs=>
  simp only[BJ] at hu ⊢;split at hu
  ·rename_i hall;rw[AD hall];simp only[AV.AO] at hj;refine⟨by rw[YA];simp[AV.AO],?_⟩;rw[Y9 _ _ Kt];have hone:(DJ G σ' cs[j]).one=true:=EW.1 hall _ (C4.2 ⟨cs[j],FZ hj,rfl⟩);simp only[AV.cellAt,B5,DG,BP hj,DF,EA];generalize cs[j]=c at *;cases c<;>first|rfl|(simp[DJ,AV.one] at hone;done)
  exact absurd rfl hu
 | undef=>exact absurd rfl hu
 | iff _ _=>exact absurd rfl hu
 | AA=>exact⟨rfl,rfl⟩
 | B8 _ _ _ _=>exact⟨rfl,rfl⟩
 | fn _ _=>exact⟨rfl,rfl⟩
 | Aj _=>exact⟨rfl,rfl⟩
 | BY=>exact⟨rfl,rfl⟩
 | AF id=>
  simp only[BJ,DJ] at hu ⊢;cases h:Bn G id with
  | none=>rw[h] at hu;exact absurd rfl hu
  | some k=>simp only[AV.cellAt,h];exact⟨rfl,trivial⟩
 | ptr id off=>
  simp only[BJ,DJ] at hu ⊢;cases h:Bn G id with
  | none=>rw[h] at hu;exact absurd rfl hu
  | some k=>simp only[AV.cellAt,h];exact⟨rfl,trivial⟩
 | Al id i off=>
  simp only[BJ,DJ] at hu ⊢;cases h:Bn G id with
  | none=>rw[h] at hu;exact absurd rfl hu
  | some k=>simp only[AV.cellAt,h];exact⟨rfl,trivial⟩
 | A8 id off len=>
  simp only[BJ,DJ] at hu ⊢;cases h:Bn G id with
  | some k=>simp only[AV.cellAt,h];exact⟨rfl,trivial⟩
  | none=>
   rw[h] at hu;by_cases hc:(A1 σ' id).AY=true/\(A1 σ' id).own=false
   ·have hj0:j=0:=by simp only[AV.AO] at hj;omega
    subst hj0;simp only[AD hc,AV.cellAt,h];exact OH
   exact mu
def Np(live:List Nat)(G:List Nat)(σ:Sto)(env:Env):Env:=live.map λt=>(t,BJ G σ (Bl env t))
def gk:∀(live:List Nat) (G:List Nat) (σ:Sto) (env:Env) (t:Nat),Bl (Np live G σ env) t=if t∈live then BJ G σ (Bl env t) else .undef
 | [],G,σ,env,t=>by simp[Np,Bl]
 | s::live,G,σ,env,t=>by
  have ih:=gk live G σ env t;unfold Np at ih ⊢;simp only[Ci,Bl];by_cases e:s=t
  ·subst e;simp
  rw[A7 e,ih];simp[FX e]
def ZX(hR:Rel w I μ σ){ρ:List Nat}(hm:ρ.take m=List.range m)(hnd:ρ.Nodup):Rel w I (Gn ρ μ) (C1 ρ σ)/\Ay m w I μ σ w I (Gn ρ μ) (C1 ρ σ):=by
 have hml:m<=ρ.length:=by
  have:=congrArg List.length hm;simp at this;omega
 have hid:∀id,id<m->ρ[id]? = some id:=λid h=>by
  have:(ρ.take m)[id]? = some id:=by rw[hm];simp[h]
  rwa [GH h] at this
 refine⟨⟨hR.Bs,λj hj=>?_,λi j b b' o o' hij hi hj hμi hμj=>?_⟩,⟨rfl,rfl,rfl,AR _,λ_ h=>h,λ_ h=>h,λ_ h=>.inl h,λ_ _=>rfl,λ_=>AR _,by simpa[C1] using hml,λid h hal=>?_⟩⟩
 ·simp only[C1,BW] at hj;have hs:ρ[j]? = some ρ[j]:=BP hj;rw[ME hs];generalize ρ[j]=id at hs;have hp:Gn ρ μ j=μ id:=by unfold Gn;rw[hs]
  rcases B9 id σ.length with hl|hl
  ·have hb:=hR.D6 id hl;cases hB:A1 σ id with
   | dead=>trivial
   | arr es xs=>rw[hB] at hb;simp only[Ca,Ft] at hb ⊢;rw[hp];exact hb
   | BS es xs=>rw[hB] at hb;simp only[Ca,Ft] at hb ⊢;rw[hp];exact hb
   | var es cs=>
    rw[hB] at hb;obtain⟨⟨g1,g2⟩,hb⟩:=hb;simp only[Ca];split
    ·rename_i hall;refine⟨⟨g1,TR⟩,?_⟩;rcases hb with⟨h1,rfl⟩|⟨b,base,h1,h2,h3,h4,h7⟩
     ·exact .inl ⟨W1,rfl⟩
     refine .inr ⟨b,base,W1,h2,h3,Ic,λq c hc=>?_⟩;refine⟨EW.1 hall c (Dn hc),?_⟩;rw[DG] at hc;cases hq:cs[q]? with
     | none=>rw[hq] at hc;cases hc
     | some c0=>
      rw[hq] at hc;simp only[DF,BF] at hc;subst hc;obtain⟨_,u,r2,r3⟩:=h7 q c0 hq;exact⟨u,r2,XC hR r3⟩
    trivial
   | map ik f=>
    rw[hB] at hb;obtain⟨b,es,clock,h1,h2,h3,h4⟩:=hb;exact⟨b,es,clock,W1,h2,h3,h4.imp λv u hv=>Rw hR hv⟩
   | box k v=>
    rw[hB] at hb;obtain⟨b,base,h1,h2,h3,h4,h5,h6⟩:=hb;by_cases hu:BJ ρ σ v=.undef
    ·simp only[Ca,hu];trivial
    have e:Ca ρ σ (.box k v)=.box k (BJ ρ σ v):=by
     simp only[Ca]
    rw[e];refine⟨b,base,W1,h2,h3,h4,?_,λq hq=>?_⟩
    ·rcases O3 v.AO with hz|hpos
     ·have:k=0:=oo;subst this;cases v with
      | d x=>exact h5
      | agg cs=>
       simp only[BJ] at hu ⊢;split at hu
       ·rename_i hall;rw[AD hall,YA];simpa[AV.AO] using h5
       exact absurd rfl hu
      | _=>simp[AV.AO] at hz
     rw[(dK ρ σ v hu 0 hpos).1];exact h5
    obtain⟨r1,u,r2,r3⟩:=h6 q hq;obtain⟨_,c2⟩:=dK ρ σ v hu q oo;have hrep:=Rw hR (ρ:=ρ) r3;rw[c2];refine⟨?_,u,r2,hrep⟩;have hne:BJ ρ σ (v.cellAt q)≠.undef\/True:=.inr trivial;rw[<-c2];cases v with
    | d x=>exact r1
    | agg cs=>
     simp only[BJ] at hu ⊢;split at hu
     ·rename_i hall;rw[AD hall,Y9 _ _ (by simp only[AV.AO] at h5;simpa[h5] using hq)];have hql:q<cs.length:=by simp only[AV.AO] at h5;omega
      simp only[B5,DG,BP hql,DF,EA];exact EW.1 hall _ (C4.2 ⟨cs[q],FZ hql,rfl⟩)
     exact absurd rfl hu
    | Aj _=>simp[AV.cellAt,AV.one] at r1
    | iff _ _=>simp[AV.cellAt,AV.one] at r1
    | undef=>simp[AV.cellAt,AV.one] at r1
    | AA=>rfl
    | B8 _ _ _ _=>rfl
    | fn _ _=>rfl
    | BY=>simp[AV.cellAt,AV.one] at r1
    | AF id'=>
     simp only[BJ,DJ] at hu ⊢;cases h:Bn ρ id' with
     | none=>rw[h] at hu;exact absurd rfl hu
     | some k'=>rfl
    | ptr id' off=>
     simp only[BJ,DJ] at hu ⊢;cases h:Bn ρ id' with
     | none=>rw[h] at hu;exact absurd rfl hu
     | some k'=>rfl
    | Al id' i off=>
     simp only[BJ,DJ] at hu ⊢;cases h:Bn ρ id' with
     | none=>rw[h] at hu;exact absurd rfl hu
     | some k'=>rfl
    | A8 id' off len=>
     simp only[BJ,DJ] at hu ⊢;cases h:Bn ρ id' with
     | some k'=>rfl
     | none=>
      rw[h] at hu;by_cases hc:(A1 σ id').AY=true/\(A1 σ id').own=false
      ·simp only[AD hc,AV.cellAt];cases q with
       | zero=>rfl
       | succ q=>rfl
      exact mu
  have:A1 σ id=.dead:=by unfold A1;rw[B5,Bt hl];rfl
  rw[this];trivial
 ·have own_:∀j,(A1 (C1 ρ σ) j).own=true->∃id,ρ[j]? = some id/\(A1 σ id).own=true:=λj hj=>by
   have hl:=E2 hj;simp only[C1,BW] at hl;have hs:ρ[j]? = some ρ[j]:=BP hl;refine⟨ρ[j],hs,?_⟩;rw[ME hs] at hj;cases hB:A1 σ ρ[j] with
   | box k v=>rfl
   | arr es xs=>rfl
   | map ik f=>rfl
   | var es cs=>rfl
   | _=>rw[hB] at hj;simp[Ca,Blk.own] at hj
  obtain⟨id1,e1,o1⟩:=own_ i hi;obtain⟨id2,e2,o2⟩:=own_ j hj;have hne:id1≠id2:=λe=>by
   subst e;have hl1:i<ρ.length:=by
    rcases B9 i ρ.length with h'|h'
    ·exact h'
    rw[Bt h'] at e1;cases e1
   exact hij ((List.getElem?_inj hl1 hnd).1 (e1.trans e2.symm))
  unfold Gn at hμi hμj;rw[e1] at hμi;rw[e2] at hμj;exact hR.apart id1 id2 b b' o o' hne o1 o2 hμi hμj
 have hs:=hid id h;have hb:=ME (σ:=σ) hs;unfold Br at *;rw[hb] at hal ⊢;obtain⟨a1,a2,a3⟩:=XD ρ σ (A1 σ id) hal;exact⟨Xp hal,by unfold Gn;rw[hs],a1,a2,by rw[a3];exact AR _⟩
def xZ(live fz G:List Nat)(hm:G.take m=List.range m)(hnd:G.Nodup)(env:Env)(σ:Sto):Bc n m env σ (Np live G (freezeL σ fz) env) (C1 G (freezeL σ fz)):=by
 intro w I μ a h1 h2 h3;obtain⟨I',r1,r2,r3,_⟩:=On h1 fz;obtain⟨q1,q2⟩:=ZX (m:=m) r1 hm hnd;refine⟨I',Gn G μ,q1,⟨h2.defers,h2.size,λt=>?_⟩,(r2.mono h3).trans q2⟩;rw[gk];split
 ·exact Rw r1 (((h2.slot t)).AH r2)
 exact .undef _
def Qgn(fz G:List Nat)(hm:G.take m=List.range m)(hnd:G.Nodup)(r:AV)(σ:Sto):Bg m r σ (BJ G (freezeL σ fz) r) (C1 G (freezeL σ fz)):=by
 intro w I μ v h1 h2 h3;obtain⟨I',r1,r2,r3,_⟩:=On h1 fz;obtain⟨q1,q2⟩:=ZX (m:=m) r1 hm hnd;exact⟨I',Gn G μ,q1,Rw r1 (h2.AH r2),(r2.mono h3).trans q2⟩
end Go.AM


namespace Go.AM
section
variable {P:Program} {Gl:BM} {n m:Nat} {env:Env} {σ:Sto} {K:Ct->Env->Sto->Prop} {all:Array Oper} {draw:Bool} {rest:List Oper} {KK:Env->Sto->Prop}
def rU{id:Nat}{l:List Oper}:evC P Gl n m (.region id l.toArray false) env σ K=Ab P Gl n l.toArray false l env σ (K .normal):=by simp[evC]
def rV{id:Nat}{l:List Oper}:evC P Gl n m (.region id l.toArray true) env σ K=(Pv P Gl n m l.toArray env σ (K .normal)/\Ab P Gl n l.toArray true l env σ (K .normal)):=by simp[evC]
def cJ(P:Program)(Gl:BM)(n m:Nat)(y:Code)(K:Ct->Env->Sto->Prop)(env:Env)(σ:Sto):Prop:=evC P Gl n m y env σ K
def ifC(b:Bool)(X Y:Prop):Prop:=(b=true->X)/\(b=false->Y)
def ifC.mk{b:Bool}{X Y:Prop}(h1:b=true->X)(h2:b=false->Y):ifC b X Y:=⟨h1,h2⟩
def vi{X Y:Prop}:ifC true X Y=X:=by simp[ifC]
def yO{X Y:Prop}:ifC false X Y=Y:=by simp[ifC]
def yN{b b':Bool}{X Y:Prop}(h:b=b'):ifC b X Y=ifC b' X Y:=by rw[h]
attribute [congr] yN
def Qfo{b:Bool}{X Y:Prop}:NY (.d (.bool b)) X Y=ifC b X Y:=by cases b<;>simp[NY,AV.Ek,VT,Sp,ifC]
def xx{X Y:Prop}:NY .BY X Y=(X/\Y):=by simp[NY,AV.Ek,VT,Sp]
def rP{u u':AV}{X Y:Prop}(h:u=u'):NY u X Y=NY u' X Y:=by rw[h]
attribute [congr] rP
def FT(P:Program)(Gl:BM)(n:Nat)(all:Array Oper)(draw:Bool)(dst:Option Tmp)(rest:List Oper)(fv:AV)(az:List AV)(env:Env)(σ:Sto)(K:Env->Sto->Prop):Prop:=
 match fv with
 | .fn f caps=>if draw=true then(∃r0,(∀s,Ext σ s->AW P Gl f (az++caps) s (λr σ'=>r=r0/\σ'=s))/\Ab P Gl n all draw rest (AJ env dst r0) σ K)\/(rest=[]/\Lw all=true/\AW P Gl f (az++caps) σ (λr σ'=>K (AJ env dst r) σ'))\/Lc all=true
  else AW P Gl f (az++caps) σ (λr σ'=>Ab P Gl n all draw rest (AJ env dst r) σ' K)
 | _=>draw=true/\Lc all=true
def L9(P:Program)(Gl:BM)(n:Nat)(all:Array Oper)(draw:Bool)(dst:Option Tmp)(rest:List Oper)(g:Bool)(fv:AV)(az:List AV)(env:Env)(σ:Sto)(K:Env->Sto->Prop):Prop:=
 ∃r0,(g=true->match fv with|.fn f caps=>∀s,Ext σ s->AW P Gl f (az++caps) s (λr σ'=>r=r0/\σ'=s)|_=>False)/\Ab P Gl n all draw rest (AJ env dst (.iff g r0)) σ K
def vJ{f:FuncId}{az caps:List AV}{v:AV}{dst:Option Tmp}(h:∀s,AW P Gl f (az++caps) s (λr s'=>r=v/\s'=s))(h2:Ab P Gl n all draw rest (AJ env dst v) σ KK):FT P Gl n all draw dst rest (.fn f caps) az env σ KK:=by
 cases draw with
 | true=>exact .inl ⟨v,λs _=>h s,h2⟩
 | false=>
  refine(h σ).mono λr s ⟨e1,e2⟩=>?_;subst e1;subst e2;exact h2
def Be{f:FuncId}{az caps:List AV}{dst:Option Tmp}(h:AW P Gl f (az++caps) σ (λr σ'=>Ab P Gl n all false rest (AJ env dst r) σ' KK)):FT P Gl n all false dst rest (.fn f caps) az env σ KK:=h
def eU{f:FuncId}{az caps:List AV}{dst:Option Tmp}(hl:Lw all=true)(h:AW P Gl f (az++caps) σ (λr σ'=>KK (AJ env dst r) σ')):FT P Gl n all true dst [] (.fn f caps) az env σ KK:=.inr (.inl ⟨rfl,hl,h⟩)
def vK{f:FuncId}{az caps:List AV}{v:AV}{dst:Option Tmp}{g:Bool}(h:g=true->∀s,AW P Gl f (az++caps) s (λr s'=>r=v/\s'=s))(h2:Ab P Gl n all draw rest (AJ env dst (.iff g v)) σ KK):L9 P Gl n all draw dst rest g (.fn f caps) az env σ KK:=
 ⟨v,λhg s _=>h hg s,h2⟩
def rW{env':Env}{σ':Sto}(h1:env=env')(h2:σ=σ'):Ab P Gl n all draw rest env σ KK=Ab P Gl n all draw rest env' σ' KK:=by rw[h1,h2]
def y9{c:Code}{env':Env}{σ':Sto}(h1:env=env')(h2:σ=σ'):evC P Gl n m c env σ K=evC P Gl n m c env' σ' K:=by rw[h1,h2]
def rH{dst:Option Tmp}{fv fv':AV}{az az':List AV}{env':Env}{σ':Sto}(h0:fv=fv')(h3:az=az')(h1:env=env')(h2:σ=σ'):FT P Gl n all draw dst rest fv az env σ KK=FT P Gl n all draw dst rest fv' az' env' σ' KK:=by rw[h0,h3,h1,h2]
def rL{dst:Option Tmp}{g g':Bool}{fv fv':AV}{az az':List AV}{env':Env}{σ':Sto}(h4:g=g')(h0:fv=fv')(h3:az=az')(h1:env=env')(h2:σ=σ'):L9 P Gl n all draw dst rest g fv az env σ KK=L9 P Gl n all draw dst rest g' fv' az' env' σ' KK:=by rw[h0,h3,h1,h2,h4]
attribute [congr] rW y9 rH rL
section
variable {dst:Option Tmp} {ty:TypeId} {pos:String} {af:Array Edge}
def Q40(x:Operand):Ab P Gl n all draw (⟨dst,.move x,ty,pos,af,none⟩::rest) env σ KK=(C8 n dst=true/\evG Gl env x=true/\BE P Gl σ env (.move x)/\Ab P Gl n all draw rest (AJ env dst (opV P Gl σ env (.move x))) (opS P Gl σ env (.move x)) KK):=by
 exact G4
def Q6d(x:Operand){j:Nat}{b:Bool}:Ab P Gl n all draw (⟨dst,.move x,ty,pos,af,some (j,b)⟩::rest) env σ KK=(C8 n dst=true/\FH (BV all env j)=true/\(C3 (BV all env j) b=true->evG Gl env x=true)/\(C3 (BV all env j) b=true->BE P Gl σ env (.move x))/\Ab P Gl n all draw rest (AJ env dst (.iff (C3 (BV all env j) b) (opV P Gl σ env (.move x)))) σ KK):=by
 exact Ml
def wc(x:Operand):Ab P Gl n all draw (⟨dst,.assign x,ty,pos,af,none⟩::rest) env σ KK=(C8 n dst=true/\evG Gl env x=true/\BE P Gl σ env (.assign x)/\Ab P Gl n all draw rest (AJ env dst (opV P Gl σ env (.assign x))) (opS P Gl σ env (.assign x)) KK):=by
 exact G4
def uI(t:TypeId):Ab P Gl n all draw (⟨dst,.alloc t,ty,pos,af,none⟩::rest) env σ KK=(C8 n dst=true/\BE P Gl σ env (.alloc t)/\Ab P Gl n all draw rest (AJ env dst (opV P Gl σ env (.alloc t))) (opS P Gl σ env (.alloc t)) KK):=by
 exact G4
def Q9d(t:TypeId)(x:Operand):Ab P Gl n all draw (⟨dst,.box t x,ty,pos,af,none⟩::rest) env σ KK=(C8 n dst=true/\evG Gl env x=true/\BE P Gl σ env (.box t x)/\Ab P Gl n all draw rest (AJ env dst (opV P Gl σ env (.box t x))) (opS P Gl σ env (.box t x)) KK):=by
 exact G4
def Q43(t:TypeId)(x:Operand):Ab P Gl n all draw (⟨dst,.load t x,ty,pos,af,none⟩::rest) env σ KK=(C8 n dst=true/\evG Gl env x=true/\BE P Gl σ env (.load t x)/\Ab P Gl n all draw rest (AJ env dst (opV P Gl σ env (.load t x))) (opS P Gl σ env (.load t x)) KK):=by
 exact G4
def Q6e(t:TypeId)(x:Operand){j:Nat}{b:Bool}:Ab P Gl n all draw (⟨dst,.load t x,ty,pos,af,some (j,b)⟩::rest) env σ KK=(C8 n dst=true/\FH (BV all env j)=true/\(C3 (BV all env j) b=true->evG Gl env x=true)/\(C3 (BV all env j) b=true->BE P Gl σ env (.load t x))/\Ab P Gl n all draw rest (AJ env dst (.iff (C3 (BV all env j) b) (opV P Gl σ env (.load t x)))) σ KK):=by
 exact Ml
def uY(t:TypeId)(x y:Operand):Ab P Gl n all draw (⟨dst,.store t x y,ty,pos,af,none⟩::rest) env σ KK=(C8 n dst=true/\evG Gl env x=true/\evG Gl env y=true/\BE P Gl σ env (.store t x y)/\Ab P Gl n all draw rest (AJ env dst (opV P Gl σ env (.store t x y))) (opS P Gl σ env (.store t x y)) KK):=by
 exact G4
def Qec(x:Operand):Ab P Gl n all draw (⟨dst,.nilCheck x,ty,pos,af,none⟩::rest) env σ KK=(C8 n dst=true/\evG Gl env x=true/\BE P Gl σ env (.nilCheck x)/\Ab P Gl n all draw rest (AJ env dst (opV P Gl σ env (.nilCheck x))) (opS P Gl σ env (.nilCheck x)) KK):=by
 exact G4
def Qfe(x:Operand){j:Nat}{b:Bool}:Ab P Gl n all draw (⟨dst,.nilCheck x,ty,pos,af,some (j,b)⟩::rest) env σ KK=(C8 n dst=true/\FH (BV all env j)=true/\(C3 (BV all env j) b=true->evG Gl env x=true)/\(C3 (BV all env j) b=true->BE P Gl σ env (.nilCheck x))/\Ab P Gl n all draw rest (AJ env dst (.iff (C3 (BV all env j) b) (opV P Gl σ env (.nilCheck x)))) σ KK):=by
 exact Ml
def uJ(o:BinOp)(t u:TypeId)(x y:Operand):Ab P Gl n all draw (⟨dst,.binOp o t x y u,ty,pos,af,none⟩::rest) env σ KK=(C8 n dst=true/\evG Gl env x=true/\evG Gl env y=true/\BE P Gl σ env (.binOp o t x y u)/\Ab P Gl n all draw rest (AJ env dst (opV P Gl σ env (.binOp o t x y u))) (opS P Gl σ env (.binOp o t x y u)) KK):=by
 exact G4
def tO(o:BinOp)(t u:TypeId)(x y:Operand){j:Nat}{b:Bool}:Ab P Gl n all draw (⟨dst,.binOp o t x y u,ty,pos,af,some (j,b)⟩::rest) env σ KK=(C8 n dst=true/\FH (BV all env j)=true/\(C3 (BV all env j) b=true->evG Gl env x=true)/\(C3 (BV all env j) b=true->evG Gl env y=true)/\(C3 (BV all env j) b=true->BE P Gl σ env (.binOp o t x y u))/\Ab P Gl n all draw rest (AJ env dst (.iff (C3 (BV all env j) b) (opV P Gl σ env (.binOp o t x y u)))) σ KK):=by
 exact Ml
def Q4y(o:UnOp)(t:TypeId)(x:Operand):Ab P Gl n all draw (⟨dst,.unOp o t x,ty,pos,af,none⟩::rest) env σ KK=(C8 n dst=true/\evG Gl env x=true/\BE P Gl σ env (.unOp o t x)/\Ab P Gl n all draw rest (AJ env dst (opV P Gl σ env (.unOp o t x))) (opS P Gl σ env (.unOp o t x)) KK):=by
 exact G4
def Q6b(o:UnOp)(t:TypeId)(x:Operand){j:Nat}{b:Bool}:Ab P Gl n all draw (⟨dst,.unOp o t x,ty,pos,af,some (j,b)⟩::rest) env σ KK=(C8 n dst=true/\FH (BV all env j)=true/\(C3 (BV all env j) b=true->evG Gl env x=true)/\(C3 (BV all env j) b=true->BE P Gl σ env (.unOp o t x))/\Ab P Gl n all draw rest (AJ env dst (.iff (C3 (BV all env j) b) (opV P Gl σ env (.unOp o t x)))) σ KK):=by
 exact Ml
def ze(s t:TypeId)(x:Operand):Ab P Gl n all draw (⟨dst,.convert s t x,ty,pos,af,none⟩::rest) env σ KK=(C8 n dst=true/\evG Gl env x=true/\BE P Gl σ env (.convert s t x)/\Ab P Gl n all draw rest (AJ env dst (opV P Gl σ env (.convert s t x))) (opS P Gl σ env (.convert s t x)) KK):=by
 exact G4
def sO(t:TypeId)(x y:Operand):Ab P Gl n all draw (⟨dst,.makeSlice t x y,ty,pos,af,none⟩::rest) env σ KK=(C8 n dst=true/\evG Gl env x=true/\evG Gl env y=true/\BE P Gl σ env (.makeSlice t x y)/\Ab P Gl n all draw rest (AJ env dst (opV P Gl σ env (.makeSlice t x y))) (opS P Gl σ env (.makeSlice t x y)) KK):=by
 exact G4
def zi(t:TypeId)(x y:Operand):Ab P Gl n all draw (⟨dst,.slice t x (some y) none none,ty,pos,af,none⟩::rest) env σ KK=(C8 n dst=true/\evG Gl env x=true/\evG Gl env y=true/\BE P Gl σ env (.slice t x (some y) none none)/\Ab P Gl n all draw rest (AJ env dst (opV P Gl σ env (.slice t x (some y) none none))) (opS P Gl σ env (.slice t x (some y) none none)) KK):=by
 exact G4
def zh(t:TypeId)(x y:Operand):Ab P Gl n all draw (⟨dst,.slice t x none (some y) none,ty,pos,af,none⟩::rest) env σ KK=(C8 n dst=true/\evG Gl env x=true/\evG Gl env y=true/\BE P Gl σ env (.slice t x none (some y) none)/\Ab P Gl n all draw rest (AJ env dst (opV P Gl σ env (.slice t x none (some y) none))) (opS P Gl σ env (.slice t x none (some y) none)) KK):=by
 exact G4
def zJ(t:TypeId)(x y z:Operand):Ab P Gl n all draw (⟨dst,.slice t x (some y) (some z) none,ty,pos,af,none⟩::rest) env σ KK=(C8 n dst=true/\evG Gl env x=true/\evG Gl env y=true/\evG Gl env z=true/\BE P Gl σ env (.slice t x (some y) (some z) none)/\Ab P Gl n all draw rest (AJ env dst (opV P Gl σ env (.slice t x (some y) (some z) none))) (opS P Gl σ env (.slice t x (some y) (some z) none)) KK):=by
 exact G4
def sM(s:TypeId)(x:Operand)(f:Nat):Ab P Gl n all draw (⟨dst,.fieldAddr s x f,ty,pos,af,none⟩::rest) env σ KK=(C8 n dst=true/\evG Gl env x=true/\BE P Gl σ env (.fieldAddr s x f)/\Ab P Gl n all draw rest (AJ env dst (opV P Gl σ env (.fieldAddr s x f))) (opS P Gl σ env (.fieldAddr s x f)) KK):=by
 exact G4
def sB(s:TypeId)(x:Operand)(f:Nat){j:Nat}{b:Bool}:Ab P Gl n all draw (⟨dst,.fieldAddr s x f,ty,pos,af,some (j,b)⟩::rest) env σ KK=(C8 n dst=true/\FH (BV all env j)=true/\(C3 (BV all env j) b=true->evG Gl env x=true)/\(C3 (BV all env j) b=true->BE P Gl σ env (.fieldAddr s x f))/\Ab P Gl n all draw rest (AJ env dst (.iff (C3 (BV all env j) b) (opV P Gl σ env (.fieldAddr s x f)))) σ KK):=by
 exact Ml
def uL(s:TypeId)(x:Operand)(f:Nat):Ab P Gl n all draw (⟨dst,.field s x f,ty,pos,af,none⟩::rest) env σ KK=(C8 n dst=true/\evG Gl env x=true/\BE P Gl σ env (.field s x f)/\Ab P Gl n all draw rest (AJ env dst (opV P Gl σ env (.field s x f))) (opS P Gl σ env (.field s x f)) KK):=by
 exact G4
def tP(s:TypeId)(x:Operand)(f:Nat){j:Nat}{b:Bool}:Ab P Gl n all draw (⟨dst,.field s x f,ty,pos,af,some (j,b)⟩::rest) env σ KK=(C8 n dst=true/\FH (BV all env j)=true/\(C3 (BV all env j) b=true->evG Gl env x=true)/\(C3 (BV all env j) b=true->BE P Gl σ env (.field s x f))/\Ab P Gl n all draw rest (AJ env dst (.iff (C3 (BV all env j) b) (opV P Gl σ env (.field s x f)))) σ KK):=by
 exact Ml
def sN(t:TypeId)(x y:Operand):Ab P Gl n all draw (⟨dst,.indexAddr t x y,ty,pos,af,none⟩::rest) env σ KK=(C8 n dst=true/\evG Gl env x=true/\evG Gl env y=true/\BE P Gl σ env (.indexAddr t x y)/\Ab P Gl n all draw rest (AJ env dst (opV P Gl σ env (.indexAddr t x y))) (opS P Gl σ env (.indexAddr t x y)) KK):=by
 exact G4
def sC(t:TypeId)(x y:Operand){j:Nat}{b:Bool}:Ab P Gl n all draw (⟨dst,.indexAddr t x y,ty,pos,af,some (j,b)⟩::rest) env σ KK=(C8 n dst=true/\FH (BV all env j)=true/\(C3 (BV all env j) b=true->evG Gl env x=true)/\(C3 (BV all env j) b=true->evG Gl env y=true)/\(C3 (BV all env j) b=true->BE P Gl σ env (.indexAddr t x y))/\Ab P Gl n all draw rest (AJ env dst (.iff (C3 (BV all env j) b) (opV P Gl σ env (.indexAddr t x y)))) σ KK):=by
 exact Ml
def uM(t:TypeId)(x y:Operand):Ab P Gl n all draw (⟨dst,.index t x y,ty,pos,af,none⟩::rest) env σ KK=(C8 n dst=true/\evG Gl env x=true/\evG Gl env y=true/\BE P Gl σ env (.index t x y)/\Ab P Gl n all draw rest (AJ env dst (opV P Gl σ env (.index t x y))) (opS P Gl σ env (.index t x y)) KK):=by
 exact G4
def zf(x:Operand)(i:Nat):Ab P Gl n all draw (⟨dst,.extract x i,ty,pos,af,none⟩::rest) env σ KK=(C8 n dst=true/\evG Gl env x=true/\BE P Gl σ env (.extract x i)/\Ab P Gl n all draw rest (AJ env dst (opV P Gl σ env (.extract x i))) (opS P Gl σ env (.extract x i)) KK):=by
 exact G4
def wg(t:TypeId)(x y:Operand)(k:Bool):Ab P Gl n all draw (⟨dst,.lookup t x y k,ty,pos,af,none⟩::rest) env σ KK=(C8 n dst=true/\evG Gl env x=true/\evG Gl env y=true/\BE P Gl σ env (.lookup t x y k)/\Ab P Gl n all draw rest (AJ env dst (opV P Gl σ env (.lookup t x y k))) (opS P Gl σ env (.lookup t x y k)) KK):=by
 exact G4
def wJ(t:TypeId)(x y:Operand)(k:Bool){j:Nat}{b:Bool}:Ab P Gl n all draw (⟨dst,.lookup t x y k,ty,pos,af,some (j,b)⟩::rest) env σ KK=(C8 n dst=true/\FH (BV all env j)=true/\(C3 (BV all env j) b=true->evG Gl env x=true)/\(C3 (BV all env j) b=true->evG Gl env y=true)/\(C3 (BV all env j) b=true->BE P Gl σ env (.lookup t x y k))/\Ab P Gl n all draw rest (AJ env dst (.iff (C3 (BV all env j) b) (opV P Gl σ env (.lookup t x y k)))) σ KK):=by
 exact Ml
def sP(t:TypeId)(x y z:Operand):Ab P Gl n all draw (⟨dst,.mapUpdate t x y z,ty,pos,af,none⟩::rest) env σ KK=(C8 n dst=true/\evG Gl env x=true/\evG Gl env y=true/\evG Gl env z=true/\BE P Gl σ env (.mapUpdate t x y z)/\Ab P Gl n all draw rest (AJ env dst (opV P Gl σ env (.mapUpdate t x y z))) (opS P Gl σ env (.mapUpdate t x y z)) KK):=by
 exact G4
def we(t:TypeId)(x y z:Operand):Ab P Gl n all draw (⟨dst,.insert t x y z,ty,pos,af,none⟩::rest) env σ KK=(C8 n dst=true/\evG Gl env x=true/\evG Gl env y=true/\evG Gl env z=true/\BE P Gl σ env (.insert t x y z)/\Ab P Gl n all draw rest (AJ env dst (opV P Gl σ env (.insert t x y z))) (opS P Gl σ env (.insert t x y z)) KK):=by
 exact G4
def zg(t:TypeId):Ab P Gl n all draw (⟨dst,.makeMap t none,ty,pos,af,none⟩::rest) env σ KK=(C8 n dst=true/\BE P Gl σ env (.makeMap t none)/\Ab P Gl n all draw rest (AJ env dst (opV P Gl σ env (.makeMap t none))) (opS P Gl σ env (.makeMap t none)) KK):=by
 exact G4
def Q4z(c x y:Operand):Ab P Gl n all draw (⟨dst,.pick c x y,ty,pos,af,none⟩::rest) env σ KK=(C8 n dst=true/\evG Gl env c=true/\((evU Gl env c).DH=true->evG Gl env x=true)/\((evU Gl env c).DH=false->evG Gl env y=true)/\(evU Gl env c).DT=true /\
  Ab P Gl n all draw rest (AJ env dst (Nd (evU Gl env c).DH (evU Gl env x) (evU Gl env y))) σ KK):=by
 simp[Ab,Ch,Ez,BE,opV,opS,PR]
def Q6c(c x y:Operand){j:Nat}{b:Bool}:Ab P Gl n all draw (⟨dst,.pick c x y,ty,pos,af,some (j,b)⟩::rest) env σ KK=(C8 n dst=true/\FH (BV all env j)=true/\(C3 (BV all env j) b=true->evG Gl env c=true) /\
  (C3 (BV all env j) b=true->(evU Gl env c).DH=true->evG Gl env x=true)/\(C3 (BV all env j) b=true->(evU Gl env c).DH=false->evG Gl env y=true)/\(C3 (BV all env j) b=true->(evU Gl env c).DT=true) /\
  Ab P Gl n all draw rest (AJ env dst (.iff (C3 (BV all env j) b) (Nd (evU Gl env c).DH (evU Gl env x) (evU Gl env y)))) σ KK):=by
 simp[Ab,Ch,Ez,BE,opV,F5,Ea,PR]
def uK(t:TypeId)(l:List (Nat×Operand)):Ab P Gl n all draw (⟨dst,.build t l.toArray,ty,pos,af,none⟩::rest) env σ KK=(C8 n dst=true/\gdL Gl env true (l.map (·.2))/\BE P Gl σ env (.build t l.toArray) /\
  Ab P Gl n all draw rest (AJ env dst (opV P Gl σ env (.build t l.toArray))) σ KK):=by
 simp[Ab,Ch,Ez,Op.operands,opS]
def sx(t:TypeId)(k:Nat)(l:List (Nat×Operand)):Ab P Gl n all draw (⟨dst,.buildSlice t k l.toArray,ty,pos,af,none⟩::rest) env σ KK=(C8 n dst=true/\gdL Gl env true (l.map (·.2))/\BE P Gl σ env (.buildSlice t k l.toArray) /\
  Ab P Gl n all draw rest (AJ env dst (opV P Gl σ env (.buildSlice t k l.toArray))) (opS P Gl σ env (.buildSlice t k l.toArray)) KK):=by
 simp[Ab,Ch,Ez,Op.operands]
def Qed(f:FuncId)(l:List Operand):Ab P Gl n all draw (⟨dst,.makeFunc (.func f) #[] l.toArray,ty,pos,af,none⟩::rest) env σ KK=(C8 n dst=true/\gdL Gl env true l /\
  Ab P Gl n all draw rest (AJ env dst (.fn f (l.map (evU Gl env)))) σ KK):=by
 simp[Ab,Ch,Ez,Op.operands,BE,opV,opS]
def zd(bi:Builtin)(l:List Operand)(ts:List TypeId):Ab P Gl n all draw (⟨dst,.call ⟨.builtin bi,l.toArray,ts.toArray⟩,ty,pos,af,none⟩::rest) env σ KK=(C8 n dst=true/\gdL Gl env true l/\Gj P Gl σ env bi l ts /\
  Ab P Gl n all draw rest (AJ env dst (biV Gl σ env bi l)) (biS P Gl σ env bi l ts) KK):=by
 simp[Ab,Ch,Ez,Op.operands,Call.operands,BE,opV,opS]
def yg(bi:Builtin)(l:List Operand)(ts:List TypeId){j:Nat}{b:Bool}:Ab P Gl n all draw (⟨dst,.call ⟨.builtin bi,l.toArray,ts.toArray⟩,ty,pos,af,some (j,b)⟩::rest) env σ KK=(C8 n dst=true/\F5 (.call ⟨.builtin bi,l.toArray,ts.toArray⟩)=true/\FH (BV all env j)=true /\
  gdL Gl env (C3 (BV all env j) b) l/\(C3 (BV all env j) b=true->Gj P Gl σ env bi l ts)/\Ab P Gl n all draw rest (AJ env dst (.iff (C3 (BV all env j) b) (biV Gl σ env bi l))) σ KK):=by
 simp[Ab,Ch,Ez,Op.operands,Call.operands,BE,opV,Ea]
def Q44(f:Operand)(l:List Operand)(ts:List TypeId):Ab P Gl n all draw (⟨dst,.call ⟨.value f,l.toArray,ts.toArray⟩,ty,pos,af,none⟩::rest) env σ KK=(C8 n dst=true/\evG Gl env f=true/\gdL Gl env true l /\
  FT P Gl n all draw dst rest (evU Gl env f) (l.map (evU Gl env)) env σ KK):=by
 have hl:(#[f]++l.toArray).toList=f::l:=A6;simp only[Ab,Ch,Ez,Op.operands,Call.operands,HO,FT,hl,gdL];have hno:(∀s,Ext σ s->False)=False:=eq_false λh=>h σ (Ext.refl σ);cases evU Gl env f<;>cases draw<;>simp[PR,hno]
def Q6f(f:Operand)(l:List Operand)(ts:List TypeId){j:Nat}{b:Bool}:Ab P Gl n all draw (⟨dst,.call ⟨.value f,l.toArray,ts.toArray⟩,ty,pos,af,some (j,b)⟩::rest) env σ KK=(C8 n dst=true/\FH (BV all env j)=true/\(C3 (BV all env j) b=true->evG Gl env f=true)/\gdL Gl env (C3 (BV all env j) b) l /\
  L9 P Gl n all draw dst rest (C3 (BV all env j) b) (evU Gl env f) (l.map (evU Gl env)) env σ KK):=by
 have hl:(#[f]++l.toArray).toList=f::l:=A6;simp only[Ab,Ch,Ez,Op.operands,Call.operands,HO,L9,F5,Ea,Cx,CF,hl,gdL];have hno:(∀s,Ext σ s->False)=False:=eq_false λh=>h σ (Ext.refl σ);cases evU Gl env f<;>simp[PR,hno]
end
end
def Bab:(∀P Gl n m env S(K:Ct->Env->Sto->Prop),evC P Gl n m .skip env S K=K .normal env S)/\(∀P Gl n m env S(K:Ct->Env->Sto->Prop)y,cJ P Gl n m y K env S=evC P Gl n m y env S K)/\(∀P Gl n m env S(K:Ct->Env->Sto->Prop)x y,evC P Gl n m (.seq x y) env S K=evC P Gl n m x env S (H2 K (cJ P Gl n m y K)))/\(∀P Gl n m env S(K:Ct->Env->Sto->Prop)c x y,evC P Gl n m (.cond c x y) env S K=(evG Gl env c=true/\NY (evU Gl env c) (evC P Gl n m x env S K) (evC P Gl n m y env S K)))/\(∀P Gl n m env S(K:Ct->Env->Sto->Prop)id c,evC P Gl n m (.block id c) env S K=evC P Gl n m c env S (Gm id K))/\(∀P Gl n m env S(K:Ct->Env->Sto->Prop)id,evC P Gl n m (.exit id) env S K=K (.exit id) env S)/\(∀P Gl n m env S(K:Ct->Env->Sto->Prop),evC P Gl n m .ret env S K=K .ret env S)/\(∀env S(K:Ct->Env->Sto->Prop)(f:Env->Sto->Prop),H2 K f .normal env S=f env S)/\(∀env S(K:Ct->Env->Sto->Prop)(f:Env->Sto->Prop)i,H2 K f (.exit i) env S=K (.exit i) env S)/\(∀env S(K:Ct->Env->Sto->Prop)(f:Env->Sto->Prop),H2 K f .ret env S=K .ret env S)/\(∀env S(K:Ct->Env->Sto->Prop)i id,Gm id K (.exit i) env S=if i=id then K .normal env S else K (.exit i) env S)/\(∀env S(K:Ct->Env->Sto->Prop)id,Gm id K .normal env S=K .normal env S)/\(∀env S(K:Ct->Env->Sto->Prop)id,Gm id K .ret env S=K .ret env S)/\(∀P Gl n env S all draw(KK:Env->Sto->Prop),Ab P Gl n all draw [] env S KK=KK env S):=Et
def Ys:=aI (aI (aI (aI (aI Bab (aI @vi @yO)) (aI @rU (aI @rV @Qfo))) (aI (aI @xx (aI @Q40 @Q6d)) (aI @wc (aI @uI @Q9d)))) (aI (aI (aI @Q43 (aI @Q6e @uY)) (aI @Qec (aI @Qfe @uJ))) (aI (aI @tO (aI @Q4y @Q6b)) (aI @ze (aI @sO @zi))))) (aI (aI (aI (aI @zh (aI @zJ @sM)) (aI @sB (aI @uL @tP))) (aI (aI @sN (aI @sC @uM)) (aI @zf (aI @wg @wJ)))) (aI (aI (aI @sP (aI @we @zg)) (aI @Q4z (aI @Q6c @uK))) (aI (aI @sx (aI @Qed @zd)) (aI @yg (aI @Q44 @Q6f)))))
end Go.AM


namespace Go.AM
section
variable {P:Program} {Gl:BM} {env:Env} {σ:Sto} {n:Nat}
def Qdc(d:Nat):(C8 n (some d)=true)=(d<n):=by simp[C8]
def Qdd:(C8 n none=true)=True:=by simp[C8]
def xy(v:Value):(IE v).vg=true/\(IE v).un=IE v:=by unfold IE;split<;>exact⟨rfl,rfl⟩
def wT(l:List AV):(FV l).vg=true/\(FV l).un=FV l:=by unfold FV;split<;>exact⟨rfl,rfl⟩
def gZ(v:Value):(EZ v).vg=true/\(EZ v).un=EZ v:=by
 unfold EZ;split
 ·split
  ·exact wT _
  exact OH
 exact xy _
def sH(v:Value):evG Gl env (.const v)=true:=(gZ v).1
def fZ(g:Nat):(N_ Gl g).vg=true/\(N_ Gl g).un=N_ Gl g:=by unfold N_;split<;>exact⟨rfl,rfl⟩
def qD(g:Nat):evG Gl env (.global g)=true:=(fZ g).1
def sI(v:Value):evU Gl env (.const v)=EZ v:=(gZ v).2
def qE(g:Nat):evU Gl env (.global g)=N_ Gl g:=(fZ g).2
def uX{dst:Option Tmp}{op:Op}{ty:TypeId}{pos:String}{af:Array Edge}{g:Option (Nat×Bool)}(l:List Oper):BV ((⟨dst,op,ty,pos,af,g⟩::l).toArray) env 0=(match dst with|some d=>Bl env d|none=>.undef):=by
 cases dst<;>simp[BV]
def qF(o:Oper)(l:List Oper)(j:Nat):BV ((o::l).toArray) env (j+1)=BV l.toArray env j:=by simp[BV]
def jK(B:Blk)(σ:Sto)(i:Nat):A1 (B::σ) (i+1)=A1 σ i:=by simp[A1]
def zj(B:Blk)(i:Nat):freeze (B::σ) (i+1)=B::freeze σ i:=by simp[freeze,jK]
def sR(ik:Option IntKind)(i:Int):Hf ik (.d (.int .i64 i))=(ik=some .i64):=by simp[Hf]
def rB(t:TypeId)(a b:Bool):JA P t .neq (.bool a) (.bool b)=(P.underlying t=some .bool):=by simp[JA]
def qw(t:TypeId)(a b:List D):JA P t .eql (.agg a) (.agg b)=(match LV P t with|some l=>G8 l a b=true|none=>False):=by unfold JA;cases LV P t<;>simp
def qz(t:TypeId)(a b:List D):JA P t .neq (.agg a) (.agg b)=(match LV P t with|some l=>G8 l a b=true|none=>False):=by unfold JA;cases LV P t<;>simp
def Qdy(l:List Operand)(ts:List TypeId):Gj P Gl σ env .min l ts=Oc (l.map (evU Gl env)):=by unfold Gj;rfl
def zY(l:List Operand):biV Gl σ env .min l=VU (l.map (evU Gl env)):=by unfold biV;rfl
def zX(l:List Operand)(ts:List TypeId):biS P Gl σ env .min l ts=σ:=by unfold biS;rfl
def Qdz(l:List Operand)(ts:List TypeId):Gj P Gl σ env .max l ts=Oc (l.map (evU Gl env)):=by unfold Gj;rfl
def zW(l:List Operand):biV Gl σ env .max l=VS (l.map (evU Gl env)):=by unfold biV;rfl
def zV(l:List Operand)(ts:List TypeId):biS P Gl σ env .max l ts=σ:=by unfold biS;rfl
def sT(x:AV)(r:List AV)(a:Int):LN (x::r) a=LN r (min a x.num):=by
 show LN r (if x.num<a then x.num else a)=_;congr 1;omega
def sS(x:AV)(r:List AV)(a:Int):LM (x::r) a=LM r (max a x.num):=by
 show LM r (if x.num>a then x.num else a)=_;congr 1;omega
def qL(t:TypeId)(x y:Operand):BE P Gl σ env (.slice t x (some y) none none)=((evU Gl env y).Au=true/\LP P t σ (evU Gl env y).num (evU Gl env x).len (evU Gl env x)):=av
def qK(t:TypeId)(x y:Operand):BE P Gl σ env (.slice t x none (some y) none)=((evU Gl env y).Au=true/\LP P t σ 0 (evU Gl env y).num (evU Gl env x)):=av
def qM(t:TypeId)(x y z:Operand):BE P Gl σ env (.slice t x (some y) (some z) none)=((evU Gl env y).Au=true/\(evU Gl env z).Au=true/\LP P t σ (evU Gl env y).num (evU Gl env z).num (evU Gl env x)):=av
def sU(t:TypeId):BE P Gl σ env (.alloc t)=((Cp P t).storable=true):=by
 have e:BE P Gl σ env (.alloc t)=(match Bj P t with|some z=>(EZ z).storable=true|none=>False):=rfl;rw[e];unfold Cp;cases Bj P t<;>simp[AV.storable]
def Qca(t:TypeId)(h:(Cp P t).storable=true):opS P Gl σ env (.alloc t)=σ++[.box (Cp P t).AO (Cp P t)]:=by
 have e:opS P Gl σ env (.alloc t)=(match Bj P t with|some z=>σ++[.box (EZ z).AO (EZ z)]|none=>σ):=rfl;rw[e];unfold Cp at h ⊢;cases hz:Bj P t with
 | none=>simp only[hz] at h;cases h
 | some z=>rfl
def qG(r:Nat)(l:List Nat)(i:Nat):Bn (r::l) i=if r=i then some 0 else(Bn l i).map (·+1):=by
 unfold Bn;rw[PZ];by_cases h:r=i<;>simp[h]
end
section
variable {P:Program} {σ:Sto}
def xD(es:Nat)(cs:List AV):(Blk.var es cs).xs.length=cs.length / es:=RH
end
def Bas:(∀ik a b,Hf ik (.d (.agg [.int .i64 a,.int .i64 b]))=(ik=some .u8))/\(∀k q a b,CK (.d (.agg [.int k a,.int q b]))=.p a b)/\(∀es xs,(Blk.arr es xs).isVar=false)/\(∀es xs,(Blk.BS es xs).isVar=false)/\(∀es cs,(Blk.var es cs).isVar=true)/\(∀es xs,(Blk.arr es xs).AY=true)/\(∀es xs,(Blk.BS es xs).AY=true)/\(∀es cs,(Blk.var es cs).B7=true)/\(∀es cs,(Blk.var es cs).es=es)/\(∀es cs,(Blk.var es cs).cells=cs)/\(∀(cs:List AV)(k:Nat)(n:Nat),Rj cs k n false=cs.getD k .undef)/\(∀(cs:List AV)k n,Rj cs k n true=FV ((cs.drop k).take n))/\(∀cs k u,putCells cs k 0 u=cs)/\(∀cs k n(u:AV),putCells cs k (n+1) u=(putCells cs k n u).set (k+n) (u.cellAt n))/\(∀S i o k,HL S (.A8 i o k)=(A1 S i).isVar)/\(∀S x,HL S (.d x)=false)/\(∀S,HL S .AA=false)/\(∀k(v:AV),NC [(k,v)]=v.Dj)/\(∀p q r,NC (p::q::r)=false)/\(∀x,(AV.d x).Dj=false)/\(∀l,(AV.agg l).Dj=false)/\(∀i o,(AV.ptr i o).Dj=true)/\(∀x,(AV.d (.ref x)).Di=true)/\(∀x,(AV.d (.ref x)).notNil=true):=Et
def Bat:(∀(x:D)n,(AV.d (.ref x)).shift n=.B8 x.cells.length [x] 0 n):=Et
def x8:=aI (aI @sR Bas) (aI @xD Bat)
def Bac:(∀s t v r,Bl ((s,v)::r) t=if s=t then v else Bl r t)/\(∀t,Bl [] t=.undef)/\(∀env d v,AJ env (some d) v=(d,v)::env)/\(∀env v,AJ env none v=env)/\(∀Gl env t,evG Gl env (.tmp t)=(Bl env t).vg)/\(∀Gl env f,evG Gl env (.func f)=true)/\(∀Gl env t,evU Gl env (.tmp t)=(Bl env t).un)/\(∀Gl env f,evU Gl env (.func f)=.fn f [])/\(∀x,(AV.d x).un=.d x)/\(AV.AA.un=.AA)/\(∀l,(AV.agg l).un=.agg l)/\(∀i o,(AV.ptr i o).un=.ptr i o)/\(∀e xs i o,(AV.B8 e xs i o).un=.B8 e xs i o)/\(∀j i o,(AV.Al j i o).un=.Al j i o)/\(∀j i o,(AV.A8 j i o).un=.A8 j i o)/\(∀f c,(AV.fn f c).un=.fn f c)/\(∀l,(AV.Aj l).un=.Aj l)/\(∀g v,(AV.iff g v).un=v)/\(∀x,(AV.d x).vg=true)/\(AV.AA.vg=true)/\(∀l,(AV.agg l).vg=true)/\(∀i o,(AV.ptr i o).vg=true)/\(∀e xs i o,(AV.B8 e xs i o).vg=true)/\(∀j i o,(AV.Al j i o).vg=true):=Et
def Bad:(∀j i o,(AV.A8 j i o).vg=true)/\(∀f c,(AV.fn f c).vg=true)/\(∀l,(AV.Aj l).vg=true)/\(∀g v,(AV.iff g v).vg=g)/\(∀k i,EZ (.int k i)=.d (.int k i))/\(∀b,EZ (.bool b)=.d (.bool b))/\(∀(s:ByteArray),EZ (.string s)=.d (.str s.data.toList))/\(EZ (.slice none 0 0)=.AA)/\(∀Gl env g,gdL Gl env g []=True)/\(∀Gl env g x r,gdL Gl env g (x::r)=((g=true->evG Gl env x=true)/\gdL Gl env g r))/\(∀b,(AV.d (.bool b)).DH=b)/\(∀b,(AV.d (.bool b)).DT=true)/\(∀k i,(AV.d (.int k i)).Au=true)/\(∀k i,(AV.d (.int k i)).num=i)/\(∀b,FH (.d (.bool b))=true)/\(∀g b,FH (.iff g (.d (.bool b)))=true)/\(∀x b,C3 (.d (.bool x)) b=(x==b))/\(∀g x b,C3 (.iff g (.d (.bool x))) b=(g&&(x==b)))/\(∀c p q,Nd c (.d (.bool p)) (.d (.bool q))=.d (.bool (bif c then p else q)))/\(∀B S,A1 (B::S) 0=B)/\(∀k v,(Blk.box k v).F7=k)/\(∀k v,(Blk.box k v).Gu=v)/\(∀k v,(Blk.box k v).EN=true)/\(∀es xs,(Blk.arr es xs).BN=true):=Et
def Bae:(∀es xs,(Blk.arr es xs).B7=true)/\(∀es xs,(Blk.BS es xs).B7=true)/\(∀es xs,(Blk.arr es xs).es=es)/\(∀es xs,(Blk.BS es xs).es=es)/\(∀es xs,(Blk.arr es xs).xs=xs)/\(∀es xs,(Blk.BS es xs).xs=xs)/\(∀es xs,(Blk.arr es xs).own=true)/\(∀S g k id off,JM S g k (.ptr id off)=((A1 S id).EN=true/\LG (A1 S id).F7 off k g (A1 S id).Gu.isAgg))/\(∀(S:Sto)(g:Bool)(k:Nat)(es:Nat)(xs:List D)(i:Nat)(off:Nat),JM S g k (.B8 es xs i off)=(i<xs.length/\LG es off k g (xs.getD i default).isAgg))/\(∀(S:Sto)(g:Bool)(k:Nat)(id:Nat)(i:Nat)(off:Nat),JM S g k (.Al id i off)=(if(A1 S id).isVar=true then i<(A1 S id).xs.length/\off+k<=(A1 S id).es/\(g=true\/k=1) else(A1 S id).AY=true/\i<(A1 S id).xs.length/\LG (A1 S id).es off k g ((A1 S id).xs.getD i default).isAgg))/\(∀S g k id off,ldV S g k (.ptr id off)=(A1 S id).Gu.FK (A1 S id).F7 off k g)/\(∀(S:Sto)(g:Bool)(k:Nat)(es:Nat)(xs:List D)(i:Nat)(off:Nat),ldV S g k (.B8 es xs i off)=.d ((xs.getD i default).Ej es off k g))/\(∀(S:Sto)(g:Bool)(k:Nat)(id:Nat)(i:Nat)(off:Nat),ldV S g k (.Al id i off)=(if(A1 S id).isVar=true then Rj (A1 S id).cells (i*(A1 S id).es+off) k g else .d (((A1 S id).xs.getD i default).Ej (A1 S id).es off k g)))/\(∀N off k g whole,LG N off k g whole=(off+k<=N/\(if off=0/\k=N then whole=g else(whole=true/\(g=true\/k=1)))))/\(∀(v:AV)N off k g,v.FK N off k g=if off=0/\k=N then v else if g=true then v.HC off k else v.cellAt off)/\(∀(x:D)N off k g,x.Ej N off k g=if off=0/\k=N then x else if g=true then x.sub off k else x.cell off)/\(∀(x:D)o k,(AV.d x).HC o k=.d (x.sub o k))/\(∀(x:D)j,(AV.d x).cellAt j=.d (x.cell j))/\(∀(l:List AV)(j:Nat),(AV.agg l).cellAt j=l.getD j .undef)/\(∀S k id off(u:AV),Qz S k u (.ptr id off)=((A1 S id).EN=true/\off+k<=(A1 S id).F7/\u.storable=true/\u.AO=k))/\(∀S k id i off(u:AV),Qz S k u (.Al id i off)=(if(A1 S id).isVar=true then i<(A1 S id).xs.length/\off+k<=(A1 S id).es/\u.storable=true/\u.AO=k else(A1 S id).BN=true/\i<(A1 S id).xs.length/\off+k<=(A1 S id).es/\u.Db S=true/\(u.A5 S).cells.length=k/\(¬id∈u.refs)))/\(∀(S:Sto)k id off u,stS S k u (.ptr id off)=S.set id (.box (A1 S id).F7 (Ns (A1 S id).Gu (A1 S id).F7 off k u)))/\(∀(S:Sto)(k:Nat)(id:Nat)(i:Nat)(off:Nat)(u:AV),stS S k u (.Al id i off)=(if(A1 S id).isVar=true then S.set id (.var (A1 S id).es (putCells (A1 S id).cells (i*(A1 S id).es+off) k u)) else(freezeL S u.refs).set id (.arr (A1 S id).es ((A1 S id).xs.set i (((A1 S id).xs.getD i default).putAt (A1 S id).es off k (u.A5 S))))))/\(∀(v:AV)(N:Nat)(off:Nat)(k:Nat)(u:AV),Ns v N off k u=if off=0/\k=N then u else FV ((List.range N).map λj=>if off<=j/\j<off+k then u.cellAt (j-off) else v.cellAt j)):=Et
def Baf:(∀(x:D),(AV.d x).isAgg=x.isAgg)/\(∀l,(AV.agg l).isAgg=true)/\(∀i o k,(AV.A8 i o k).isAgg=false)/\(∀x,(AV.d x).storable=true)/\(∀l,(AV.agg l).storable=true)/\(∀i o k,(AV.A8 i o k).storable=true)/\(AV.AA.storable=true)/\(∀(x:D),(AV.d x).AO=x.cells.length)/\(∀(l:List AV),(AV.agg l).AO=l.length)/\(∀i o k,(AV.A8 i o k).AO=1)/\(AV.AA.AO=1)/\(∀S x,(AV.d x).Db S=true)/\(∀S i o k,(AV.A8 i o k).Db S=(A1 S i).AY)/\(∀S(l:List AV),(AV.agg l).Db S=l.all (EH S))/\(∀S x,(AV.d x).A5 S=x)/\(∀S i o k,(AV.A8 i o k).A5 S=.sl (((A1 S i).xs.drop o).take k))/\(∀(S:Sto)(l:List AV),(AV.agg l).A5 S=.agg (l.map (Cv S)))/\(∀x,(AV.d x).refs=[])/\(∀i o k,(AV.A8 i o k).refs=[i])/\(∀(l:List AV),(AV.agg l).refs=l.flatMap HE)/\(∀S,freezeL S []=S)/\(∀S i l,freezeL S (i::l)=freezeL (freeze S i) l)/\(∀S(B:Blk),freeze (B::S) 0=B.frozen::S)/\(∀es xs,(Blk.arr es xs).frozen=.BS es xs):=Et
def Bag:(∀i o,(AV.ptr i o).Di=true)/\(∀e xs i o,(AV.B8 e xs i o).Di=true)/\(∀j i o,(AV.Al j i o).Di=true)/\(∀i o k,(AV.ptr i o).shift k=.ptr i (o+k))/\(∀e xs i o k,(AV.B8 e xs i o).shift k=.B8 e xs i (o+k))/\(∀j i o k,(AV.Al j i o).shift k=.Al j i (o+k))/\(∀i o,(AV.ptr i o).notNil=true)/\(∀j i o,(AV.Al j i o).notNil=true)/\(∀l,(D.agg l).cells=l)/\(∀l,(D.agg l).isAgg=true)/\(∀k i,(D.int k i).isAgg=false)/\(∀b,(D.bool b).isAgg=false)/\(∀s,(D.str s).isAgg=false)/\(∀l,(D.sl l).isAgg=false)/\(∀k i,(D.int k i).cells=[.int k i])/\(∀b,(D.bool b).cells=[.bool b])/\(∀s,(D.str s).cells=[.str s])/\(∀l,(D.sl l).cells=[.sl l])/\(∀(x:D)(N:Nat)(off:Nat)(k:Nat)(u:D),x.putAt N off k u=if off=0/\k=N then u else .agg ((List.range N).map λj=>if off<=j/\j<off+k then u.cell (j-off) else x.cell j))/\(∀o x k i,Ki o (.d x) (.d (.int k i))=.d (FQ o x (.int k i)))/\(∀o x b,Ki o (.d x) (.d (.bool b))=.d (FQ o x (.bool b)))/\(∀o x l,Ki o (.d x) (.d (.str l))=.d (FQ o x (.str l)))/\(∀o x l,Ki o (.d x) (.d (.agg l))=.d (FQ o x (.agg l)))/\(∀o u,Ki o u .AA=LD o (Fk u)):=Et
def Bah:(∀o u v,Ki o u (.d (.raw v))=LD o (Fk u))/\(∀a,LD .eql a=a)/\(∀b,LD .neq (.d (.bool b))=.d (.bool (!b)))/\(∀v,Fk (.d (.raw v))=.d (.bool true))/\(Fk (.d (.sl []))=.BY)/\(∀x l,Fk (.d (.sl (x::l)))=.d (.bool false))/\(∀i o,Fk (.ptr i o)=.d (.bool false))/\(∀P t o x k i,Jk P t o (.d x) (.d (.int k i))=JA P t o x (.int k i))/\(∀P t o x b,Jk P t o (.d x) (.d (.bool b))=JA P t o x (.bool b))/\(∀P t o x l,Jk P t o (.d x) (.d (.str l))=JA P t o x (.str l))/\(∀P t o x l,Jk P t o (.d x) (.d (.agg l))=JA P t o x (.agg l))/\(∀P t o l,Jk P t o (.d (.sl l)) .AA=((o=.eql\/o=.neq)/\(B_ P t).isSome=true))/\(∀P t o i j,Jk P t o (.ptr i j) (.d (.raw (.pointer none)))=((o=.eql\/o=.neq)/\Ko P t=true))/\(∀P t o,Jk P t o (.d (.raw (.pointer none))) (.d (.raw (.pointer none)))=((o=.eql\/o=.neq)/\Ko P t=true))/\(∀i,(AV.AF i).un=.AF i)/\(AV.BY.un=.BY)/\(∀i,(AV.AF i).vg=true)/\(AV.BY.vg=true)/\(∀i,(AV.AF i).storable=true)/\(∀i o,(AV.ptr i o).storable=true)/\(∀i,(AV.AF i).AO=1)/\(∀i o,(AV.ptr i o).AO=1)/\(∀i o,(AV.ptr i o).isAgg=false)/\(∀i j,(AV.AF i).cellAt j=.AF i):=Et
def Bai:(∀i o k j,(AV.A8 i o k).cellAt j=.A8 i o k)/\(∀i r,Hk (.AF i::r)=none)/\(∀(ik:Option IntKind)(f:Aw->Option AV),(Blk.map ik f).CC=true)/\(∀(ik:Option IntKind)(f:Aw->Option AV),(Blk.map ik f).mk=ik)/\(∀(ik:Option IntKind)(f:Aw->Option AV),(Blk.map ik f).mf=f)/\(∀k i,CK (.d (.int k i))=.i i)/\(∀S ik i,P6 S ik (.AF i)=((A1 S i).CC=true/\(A1 S i).mk=ik))/\(∀S i k,lkF S (.AF i) k=(A1 S i).mf k)/\(∀(S:Sto)(z:AV)(m:AV)(k:AV),lkV S z m k true=.Aj [(lkF S m (CK k)).getD z,.d (.bool (lkF S m (CK k)).isSome)])/\(∀(S:Sto)(z:AV)(m:AV)(k:AV),lkV S z m k false=(lkF S m (CK k)).getD z)/\(∀S ik i(v:AV),Qx S ik (.AF i) v=((A1 S i).CC=true/\(A1 S i).mk=ik/\v.storable=true))/\(∀(S:Sto)(i:Nat)(k:Aw)(v:AV),muS S k v (.AF i)=S.set i (.map (A1 S i).mk (BO (A1 S i).mf k v)))/\(∀(S:Sto)(i:Nat)(k:Aw),mdS S k (.AF i)=S.set i (.map (A1 S i).mk (Kl (A1 S i).mf k)))/\(∀P Gl env S t x y b,BE P Gl S env (.lookup t x y b)=(match Co P t with|some (ik,e)=>Hf ik (evU Gl env y)/\P6 S ik (evU Gl env x)/\(Bj P e).isSome=true|none=>False))/\(∀P Gl env S t x y b,opV P Gl S env (.lookup t x y b)=(match Co P t with|some (_,e)=>lkV S (Cp P e) (evU Gl env x) (evU Gl env y) b|none=>.undef))/\(∀P Gl env S t x y b,opS P Gl S env (.lookup t x y b)=S)/\(∀P Gl env S t x y z,BE P Gl S env (.mapUpdate t x y z)=(match Co P t with|some (ik,_)=>Hf ik (evU Gl env y)/\Qx S ik (evU Gl env x) (evU Gl env z)|none=>False))/\(∀P Gl env S t x y z,opV P Gl S env (.mapUpdate t x y z)=.undef)/\(∀P Gl env S t x y z,opS P Gl S env (.mapUpdate t x y z)=muS S (CK (evU Gl env y)) (evU Gl env z) (evU Gl env x))/\(∀P Gl env S t x y z,BE P Gl S env (.insert t x y z)=(match Co P t with|some (ik,_)=>Hf ik (evU Gl env y)/\Qx S ik (evU Gl env x) (evU Gl env z)|none=>False))/\(∀P Gl env S t x y z,opV P Gl S env (.insert t x y z)=.undef)/\(∀P Gl env S t x y z,opS P Gl S env (.insert t x y z)=muS S (CK (evU Gl env y)) (evU Gl env z) (evU Gl env x))/\(∀P Gl env S t r,BE P Gl S env (.makeMap t r)=(r=none/\(Co P t).isSome=true))/\(∀P Gl env(S:Sto)t r,opV P Gl S env (.makeMap t r)=.AF S.length):=Et
def Baj:(∀(P:Program)(Gl:BM)(env:Env)(S:Sto)(t:TypeId)(r:Option Operand),opS P Gl S env (.makeMap t r)=(match Co P t with|some (ik,_)=>S++[.map ik λ_=>none]|none=>S))/\(∀P Gl env S m k t t2,Gj P Gl S env .delete [m,k] [t,t2]=(match Co P t with|some (ik,_)=>Hf ik (evU Gl env k)/\Zr S ik (evU Gl env m)|none=>False))/\(∀Gl env S l,biV Gl S env .delete l=.undef)/\(∀P Gl env S m k ts,biS P Gl S env .delete [m,k] ts=mdS S (CK (evU Gl env k)) (evU Gl env m))/\(∀S ik i,Zr S ik (.AF i)=((A1 S i).CC=true/\(A1 S i).mk=ik))/\(∀P Gl env S x t,Gj P Gl S env .clear [x] [t]=VP P S t (evU Gl env x))/\(∀Gl env S l,biV Gl S env .clear l=.undef)/\(∀P Gl env S x t,biS P Gl S env .clear [x] [t]=clS P S t (evU Gl env x))/\(∀P S t i o k,VP P S t (.A8 i o k)=((A1 S i).BN=true/\(match B_ P t with|some e=>(match Bj P e,D_ P e with|some z,some _=>z.cells.size=(A1 S i).es|_,_=>False)|none=>False)))/\(∀(P:Program)(t:TypeId),clX P t=(match B_ P t with|some e=>(D_ P e).getD default|none=>default))/\(∀P(S:Sto)t i o k,clS P S t (.A8 i o k)=S.set i (.arr (A1 S i).es (Il (A1 S i).xs o k (clX P t))))/\(∀S G i,BJ G S (.AF i)=(match Bn G i with|some j=>.AF j|none=>.undef))/\(∀(S:Sto)(G:List Nat)(ik:Option IntKind)(f:Aw->Option AV),Ca G S (.map ik f)=.map ik λk=>(f k).map (BJ G S))/\(∀(x:AV)(y:AV),(some x).getD y=x)/\(∀(y:AV),(none:Option AV).getD y=y)/\(∀o a b,FQ o (.str a) (.str b)=OT o a b)/\(∀a b,FQ .neq (.bool a) (.bool b)=.bool (!(a==b)))/\(∀a b,FQ .eql (.agg a) (.agg b)=.bool (EX a b))/\(∀a b,FQ .neq (.agg a) (.agg b)=.bool (!(EX a b)))/\(∀P t o k k' a b,JA P t o (.int k a) (.int k' b)=HP o k k' b)/\(∀P t o a b,JA P t o (.str a) (.str b)=NF o a b)/\(∀b,unV .not (.d (.bool b))=.d (.bool (!b)))/\(∀(k:IntKind)i,unV .neg (.d (.int k i))=.d (.int k (k.wrap (0-i))))/\(∀b,PA .not (.d (.bool b))=True):=Et
def Bak:(∀k i,PA .neg (.d (.int k i))=True)/\(∀(xs:List D),(AV.d (.sl xs)).len=xs.length)/\(∀(s:List UInt8),(AV.d (.str s)).len=s.length)/\(∀i o k,(AV.A8 i o k).len=k)/\(AV.AA.len=0)/\(∀P t xs,(AV.d (.sl xs)).DU P t=(B_ P t).isSome)/\(∀P t s,(AV.d (.str s)).DU P t=LX P t)/\(∀P t i o k,(AV.A8 i o k).DU P t=(B_ P t).isSome)/\(∀P t,AV.AA.DU P t=(B_ P t).isSome)/\(∀S xs,(AV.d (.sl xs)).elems S=xs)/\(∀S i o k,(AV.A8 i o k).elems S=((A1 S i).xs.drop o).take k)/\(∀S,AV.AA.elems S=[])/\(∀(S:Sto)(es:Nat)(i:Int)(xs:List D),Na S es i (.d (.sl xs))=(0<=i/\i<xs.length/\(xs.getD i.toNat default).cells.length=es))/\(∀S es i id o k,Na S es i (.A8 id o k)=(0<=i/\i<k/\(A1 S id).B7=true/\(A1 S id).es=es))/\(∀es(i:Int)xs,Sq es i (.d (.sl xs))=.B8 es xs i.toNat 0)/\(∀es(i:Int)id o k,Sq es i (.A8 id o k)=.Al id (o+i.toNat) 0)/\(∀P Gl env S d s t t2,Gj P Gl S env .copy [d,s] [t,t2]=VQ P S t (evU Gl env d) (evU Gl env s))/\(∀Gl env S d s,biV Gl S env .copy [d,s]=.d (.int .i64 (cpN S (evU Gl env d) (evU Gl env s))))/\(∀P Gl env S d s ts,biS P Gl S env .copy [d,s] ts=cpS S (evU Gl env d) (evU Gl env s))/\(∀P S t i o k s,VQ P S t (.A8 i o k) s=((A1 S i).BN=true/\0<(A1 S i).es/\o+k<=(A1 S i).xs.length/\Hg S (A1 S i).es s/\(match B_ P t with|some e=>tsz P e=some (A1 S i).es|none=>False)))/\(∀S i o k(s:AV),cpN S (.A8 i o k) s=min (s.elems S).length k)/\(∀(S:Sto)i o k(s:AV),cpS S (.A8 i o k) s=S.set i (.arr (A1 S i).es (cpX (A1 S i).xs o (min (s.elems S).length k) (s.elems S))))/\(∀P Gl env S x t,Gj P Gl S env .len [x] [t]=((evU Gl env x).DU P t=true))/\(∀Gl env S x,biV Gl S env .len [x]=.d (.int .i64 (evU Gl env x).len)):=Et
def Bal:(∀P Gl env S x t,biS P Gl S env .len [x] [t]=S)/\(∀P Gl env S s x t1 t2,Gj P Gl S env .append [s,x] [t1,t2]=(if(HL S (evU Gl env x)||HL S (evU Gl env s))=true then Qo P S t1 t2 (evU Gl env s) (evU Gl env x) else Qr P S t1 t2 (evU Gl env s) (evU Gl env x)))/\(∀Gl env S s x,biV Gl S env .append [s,x]=(if(HL S (evU Gl env x)||HL S (evU Gl env s))=true then Sv S (evU Gl env s) (evU Gl env x) else apV S (evU Gl env s) (evU Gl env x)))/\(∀P Gl env S s x t1 t2,biS P Gl S env .append [s,x] [t1,t2]=(if(HL S (evU Gl env x)||HL S (evU Gl env s))=true then PB P S t1 (evU Gl env s) (evU Gl env x) else apS P S t1 (evU Gl env s) (evU Gl env x)))/\(∀(x:AV)r,Oc (x::r)=(x.Au=true/\∀y∈r,y.Au=true))/\(∀k i r,VU (.d (.int k i)::r)=.d (.int k (LN r i)))/\(∀k i r,VS (.d (.int k i)::r)=.d (.int k (LM r i)))/\(∀a,LN [] a=a)/\(∀a,LM [] a=a)/\(∀(l:List AV)(i:Nat),(AV.Aj l).Ie i=l.getD i .undef)/\(∀(l:List AV),(AV.Aj l).Fp=l.length)/\(∀P Gl env S x,BE P Gl S env (.move x)=True)/\(∀P Gl env S x,opV P Gl S env (.move x)=evU Gl env x)/\(∀P Gl env S x,opS P Gl S env (.move x)=S)/\(∀P Gl env S x,BE P Gl S env (.assign x)=True)/\(∀P Gl env S x,opV P Gl S env (.assign x)=evU Gl env x)/\(∀P Gl env S x,opS P Gl S env (.assign x)=S)/\(∀P Gl env(S:Sto)t,opV P Gl S env (.alloc t)=.ptr S.length 0)/\(∀P Gl env S t x,BE P Gl S env (.box t x)=((evU Gl env x).storable=true))/\(∀P Gl env(S:Sto)t x,opV P Gl S env (.box t x)=.ptr S.length 0)/\(∀P Gl env S t x,opS P Gl S env (.box t x)=S++[.box (evU Gl env x).AO (evU Gl env x)])/\(∀P Gl env S t parts,BE P Gl S env (.build t parts)=(match DR P t,DM P t with|some pl,some zc=>Mt pl zc.length (GY Gl env parts)|_,_=>False))/\(∀P Gl env S t parts,opV P Gl S env (.build t parts)=(match DR P t,DM P t with|some pl,some zc=>FV (J6 pl zc (GY Gl env parts))|_,_=>.undef))/\(∀P Gl env S t parts,BE P Gl S env (.buildSlice t 0 parts)=(parts=#[]/\(match B_ P t with|some e=>(tsz P e).isSome=true|none=>False))):=Et
def Bam:(∀P Gl env(S:Sto)t parts,opV P Gl S env (.buildSlice t 0 parts)=.A8 S.length 0 0)/\(∀P Gl env S t parts,opS P Gl S env (.buildSlice t 0 parts)=S++[.arr (D2 P t) []])/\(∀P Gl env S t k parts,BE P Gl S env (.buildSlice t (k+1) parts)=(if NC (GY Gl env parts)=true then Qu P t (k+1) (GY Gl env parts) else Qe P S t (k+1) (GY Gl env parts)))/\(∀P Gl env(S:Sto)t k parts,opV P Gl S env (.buildSlice t (k+1) parts)=.A8 S.length 0 (k+1))/\(∀P Gl env S t k parts,opS P Gl S env (.buildSlice t (k+1) parts)=(if NC (GY Gl env parts)=true then bpS S (GY Gl env parts) else PH P S t (k+1) (GY Gl env parts)))/\(∀P Gl env S t x,BE P Gl S env (.load t x)=(match BR P t,tsz P t with|some g,some n=>JM S g n (evU Gl env x)|_,_=>False))/\(∀P Gl env S t x,opV P Gl S env (.load t x)=(match BR P t,tsz P t with|some g,some n=>ldV S g n (evU Gl env x)|_,_=>.undef))/\(∀P Gl env S t x,opS P Gl S env (.load t x)=S)/\(∀P Gl env S t a x,BE P Gl S env (.store t a x)=(match tsz P t with|some n=>Qz S n (evU Gl env x) (evU Gl env a)|none=>False))/\(∀P Gl env S t a x,opV P Gl S env (.store t a x)=.undef)/\(∀P Gl env S t a x,opS P Gl S env (.store t a x)=(match tsz P t with|some n=>stS S n (evU Gl env x) (evU Gl env a)|none=>S))/\(∀P Gl env S x,BE P Gl S env (.nilCheck x)=((evU Gl env x).notNil=true))/\(∀P Gl env S x,opV P Gl S env (.nilCheck x)=evU Gl env x)/\(∀P Gl env S x,opS P Gl S env (.nilCheck x)=S)/\(∀P Gl env S o t u x y,BE P Gl S env (.binOp o t x y u)=(Jk P t o (evU Gl env x) (evU Gl env y)))/\(∀P Gl env S o t u x y,opV P Gl S env (.binOp o t x y u)=Ki o (evU Gl env x) (evU Gl env y))/\(∀P Gl env S o t u x y,opS P Gl S env (.binOp o t x y u)=S)/\(∀P Gl env S o t x,BE P Gl S env (.unOp o t x)=(PA o (evU Gl env x)))/\(∀P Gl env S o t x,opV P Gl S env (.unOp o t x)=unV o (evU Gl env x))/\(∀P Gl env S o t x,opS P Gl S env (.unOp o t x)=S)/\(∀(P:Program)Gl env S s t x,BE P Gl S env (.convert s t x)=((P.underlying s).isSome=true/\(L7 P t).isSome=true/\(evU Gl env x).Au=true))/\(∀P Gl env S s t x,opV P Gl S env (.convert s t x)=(match L7 P t with|some k=>.d (.int k (k.wrap (evU Gl env x).num))|none=>.undef))/\(∀P Gl env S s t x,opS P Gl S env (.convert s t x)=S)/\(∀P Gl env S t x y,BE P Gl S env (.makeSlice t x y)=(P7 P t (evU Gl env x) (evU Gl env y))):=Et
def Ban:(∀P Gl env(S:Sto)t x y,opV P Gl S env (.makeSlice t x y)=.A8 S.length 0 (evU Gl env x).num.toNat)/\(∀P Gl env S t x y,opS P Gl S env (.makeSlice t x y)=mkS P S t (evU Gl env x))/\(∀P Gl env S t x y,opV P Gl S env (.slice t x (some y) none none)=slV (evU Gl env y).num (evU Gl env x).len (evU Gl env x))/\(∀P Gl env S t x y,opS P Gl S env (.slice t x (some y) none none)=S)/\(∀P Gl env S t x y,opV P Gl S env (.slice t x none (some y) none)=slV 0 (evU Gl env y).num (evU Gl env x))/\(∀P Gl env S t x y,opS P Gl S env (.slice t x none (some y) none)=S)/\(∀P Gl env S t x y z,opV P Gl S env (.slice t x (some y) (some z) none)=slV (evU Gl env y).num (evU Gl env z).num (evU Gl env x))/\(∀P Gl env S t x y z,opS P Gl S env (.slice t x (some y) (some z) none)=S)/\(∀P Gl env S s x f,BE P Gl S env (.fieldAddr s x f)=(match Az P s f with|some (_,n,_)=>n≠0/\(evU Gl env x).Di=true|none=>False))/\(∀P Gl env S s x f,opV P Gl S env (.fieldAddr s x f)=(match Az P s f with|some (o,_,_)=>(evU Gl env x).shift o|none=>.undef))/\(∀P Gl env S s x f,opS P Gl S env (.fieldAddr s x f)=S)/\(∀P Gl env S s x f,BE P Gl S env (.field s x f)=(match Az P s f with|some (o,n,g)=>(evU Gl env x).isAgg=true/\o+n<=(evU Gl env x).AO/\(g=true\/n=1)|none=>False))/\(∀P Gl env S s x f,opV P Gl S env (.field s x f)=(match Az P s f with|some (o,n,g)=>(if g=true then(evU Gl env x).HC o n else(evU Gl env x).cellAt o)|none=>.undef))/\(∀P Gl env S s x f,opS P Gl S env (.field s x f)=S)/\(∀P Gl env S t x i,BE P Gl S env (.indexAddr t x i)=((evU Gl env i).Au=true/\(match Cn P t with|some (none,es)=>Na S es (evU Gl env i).num (evU Gl env x)|some (some k,_)=>ZF k (evU Gl env i).num (evU Gl env x)|none=>False)))/\(∀P Gl env S t x i,opV P Gl S env (.indexAddr t x i)=(match Cn P t with|some (none,es)=>Sq es (evU Gl env i).num (evU Gl env x)|some (some _,es)=>(evU Gl env x).shift ((evU Gl env i).num.toNat*es)|none=>.undef))/\(∀P Gl env S t x i,opS P Gl S env (.indexAddr t x i)=S)/\(∀P Gl env S t x i,BE P Gl S env (.index t x i)=(LX P t=true/\(evU Gl env x).Fz=true/\(evU Gl env i).Au=true/\0<=(evU Gl env i).num/\(evU Gl env i).num<(evU Gl env x).strOf.length))/\(∀(P:Program)(Gl:BM)(env:Env)(S:Sto)(t:TypeId)(x:Operand)(i:Operand),opV P Gl S env (.index t x i)=.d (.int .u8 ((evU Gl env x).strOf.getD (evU Gl env i).num.toNat 0).toNat))/\(∀P Gl env S t x i,opS P Gl S env (.index t x i)=S)/\(∀P Gl env S x i,BE P Gl S env (.extract x i)=(i<(evU Gl env x).Fp))/\(∀P Gl env S x i,opV P Gl S env (.extract x i)=(evU Gl env x).Ie i)/\(∀P Gl env S x i,opS P Gl S env (.extract x i)=S)/\(∀(Gl:BM)(env:Env)(l:List (Nat×Operand)),GY Gl env l.toArray=l.map λp=>(p.1,evU Gl env p.2)):=Et
def Bao:(∀pl cs,J6 pl cs []=cs)/\(∀pl cs i v r,J6 pl cs ((i,v)::r)=(match pl[i]? with|some (off,size)=>J6 pl (KW cs off v size) r|none=>J6 pl cs r))/\(∀pl N,Mt pl N []=True)/\(∀pl N i(v:AV)r,Mt pl N ((i,v)::r)=((match pl[i]? with|some (off,size)=>v.AO=size/\off+size<=N/\v.storable=true|none=>False)/\Mt pl N r))/\(∀cs off v,KW cs off v 0=cs)/\(∀cs off(v:AV)k,KW cs off v (k+1)=(KW cs off v k).set (off+k) (v.cellAt k))/\(∀l,FV l=(match Hk l with|some ds=>.d (.agg ds)|none=>.agg l))/\(Hk []=some [])/\(∀(x:D)(r:List AV),Hk (.d x::r)=(Hk r).map (x::·))/\(∀i o k r,Hk (.A8 i o k::r)=none)/\(∀r,Hk (.AA::r)=none)/\(∀(x:D)(i:Nat),x.cell i=x.cells.getD i default)/\(∀(x:D)o k,x.sub o k=.agg ((x.cells.drop o).take k))/\(∀k k' a b,FQ .eql (.int k a) (.int k' b)=.bool (a==b))/\(∀k k' a b,FQ .neq (.int k a) (.int k' b)=.bool (a !=b))/\(∀k k' a b,FQ .lss (.int k a) (.int k' b)=.bool (decide (a<b)))/\(∀k k' a b,FQ .leq (.int k a) (.int k' b)=.bool (decide (a<=b)))/\(∀k k' a b,FQ .gtr (.int k a) (.int k' b)=.bool (decide (b<a)))/\(∀k k' a b,FQ .geq (.int k a) (.int k' b)=.bool (decide (b<=a)))/\(∀(k:IntKind)k' a b,FQ .add (.int k a) (.int k' b)=.int k (k.wrap (a+b)))/\(∀(k:IntKind)k' a b,FQ .sub (.int k a) (.int k' b)=.int k (k.wrap (a-b)))/\(∀(k:IntKind)k' a b,FQ .mul (.int k a) (.int k' b)=.int k (k.wrap (a*b)))/\(∀(k:IntKind)k'(a:Int)b,FQ .quo (.int k a) (.int k' b)=.int k (k.wrap (a.tdiv b)))/\(∀k k'(a:Int)b,FQ .rem (.int k a) (.int k' b)=.int k (a.tmod b)):=Et
def Bap:(∀k k' a b,FQ .shr (.int k a) (.int k' b)=M0 .shr k a b)/\(∀k k' a b,FQ .and (.int k a) (.int k' b)=M0 .and k a b)/\(∀k k' b,HP .eql k k' b=(k=k'))/\(∀k k' b,HP .neq k k' b=(k=k'))/\(∀k k' b,HP .lss k k' b=(k=k'))/\(∀k k' b,HP .leq k k' b=(k=k'))/\(∀k k' b,HP .gtr k k' b=(k=k'))/\(∀k k' b,HP .geq k k' b=(k=k'))/\(∀k k' b,HP .add k k' b=(k=k'))/\(∀k k' b,HP .sub k k' b=(k=k'))/\(∀k k' b,HP .mul k k' b=(k=k'))/\(∀k k' b,HP .quo k k' b=(k=k'/\b≠0))/\(∀k k' b,HP .rem k k' b=(k=k'/\b≠0))/\(∀k k' b,HP .shr k k' b=(0<=b))/\(∀a b,OT .eql a b=.bool (a==b))/\(∀a b,OT .neq a b=.bool (!(a==b)))/\(∀a b,OT .lss a b=.bool (Op.bytesLess a b))/\(∀a b,OT .gtr a b=.bool (!(Op.bytesLess a b||a==b)))/\(∀a b,NF .eql a b=True)/\(∀a b,NF .neq a b=True)/\(∀a b,NF .lss a b=True)/\(∀a b,NF .gtr a b=True)/\(∀S x,EH S (.d x)=true)/\(∀S,EH S .AA=true):=Et
def Baq:(∀S i o k,EH S (.A8 i o k)=(A1 S i).AY)/\(∀S x,Cv S (.d x)=x)/\(∀S,Cv S .AA=.sl [])/\(∀S i o k,Cv S (.A8 i o k)=.sl (((A1 S i).xs.drop o).take k))/\(∀x,HE (.d x)=[])/\(HE .AA=[])/\(∀i o k,HE (.A8 i o k)=[i])/\(∀env S G,Np [] G S env=[])/\(∀env S t l G,Np (t::l) G S env=(t,BJ G S (Bl env t))::Np l G S env)/\(∀S G x,BJ G S (.d x)=.d x)/\(∀S G,BJ G S .AA=.AA)/\(∀S G i o,BJ G S (.ptr i o)=(match Bn G i with|some j=>.ptr j o|none=>.undef))/\(∀S G id i o,BJ G S (.Al id i o)=(match Bn G id with|some j=>.Al j i o|none=>.undef))/\(∀S G id o k,BJ G S (.A8 id o k)=(match Bn G id with|some j=>.A8 j o k|none=>if(A1 S id).AY=true/\(A1 S id).own=false then .d (.sl (((A1 S id).xs.drop o).take k)) else .undef))/\(∀i,Bn [] i=none)/\(∀P env S m rs(R:AV->Sto->Prop),Ss P m rs R .ret env S=(L6 P env S rs/\∃r' s',Bg m (Nq P env S rs) S r' s'/\R r' s'))/\(∀P env S m rs(R:AV->Sto->Prop),Ss P m rs R .normal env S=(L6 P env S rs/\∃r' s',Bg m (Nq P env S rs) S r' s'/\R r' s'))/\(∀P env S,L6 P env S []=True)/\(∀P env S r rs,L6 P env S (r::rs)=(Pu P env S r/\L6 P env S rs))/\(∀P env S t,Pu P env S (.tmp t)=((Bl env t).vg=true))/\(∀P env S t ty,Pu P env S (.cell t ty)=(match BR P ty,tsz P ty with|some g,some k=>JM S g k (Bl env t)|_,_=>False))/\(∀P env S t,Lz P env S (.tmp t)=(Bl env t).un)/\(∀P env S t ty,Lz P env S (.cell t ty)=(match BR P ty,tsz P ty with|some g,some k=>ldV S g k (Bl env t)|_,_=>.undef))/\(∀P env S r,Nq P env S [r]=Lz P env S r):=Et
def Bar:(∀P env S,Nq P env S []=.Aj [])/\(∀(P:Program)(env:Env)(S:Sto)(r1:ResultVar)(r2:ResultVar)(rs:List ResultVar),Nq P env S (r1::r2::rs)=.Aj ((r1::r2::rs).map (Lz P env S))):=Et
def ZJ:=aI (aI (aI (aI (aI Bac @Qdc) (aI @Qdd (aI @sH @qD))) (aI (aI @sI (aI @qE Bad)) (aI @uX (aI @qF @jK)))) (aI (aI (aI Bae Baf) (aI @zj (aI Bag Bah))) (aI (aI Bai (aI @x8 Baj)) (aI @rB (aI @qw @qz))))) (aI (aI (aI (aI Bak Bal) (aI @Qdy (aI @zY @zX))) (aI (aI @Qdz (aI @zW @zV)) (aI @sT (aI @sS Bam)))) (aI (aI (aI Ban @qL) (aI @qK (aI @qM Bao))) (aI (aI Bap (aI @sU @Qca)) (aI Baq (aI @qG Bar)))))
end Go.AM


namespace Go.AM
variable {P:Program} {Gl:BM} {n m:Nat} {env:Env} {σ:Sto} {K:Ct->Env->Sto->Prop}
def BA(fz G:List Nat){e':Env}{s':Sto}(hm:G.take m=List.range m)(hnd:G.Nodup)(he:Np (e'.map (·.1)) G (freezeL σ fz) env=e')(hs:C1 G (freezeL σ fz)=s'):Bc n m env σ e' s':=by
 have:=xZ (n:=n) (e'.map (·.1)) fz G hm hnd env σ;rw[he,hs] at this;exact this
def Dh(fz G:List Nat){r r':AV}{s':Sto}(hm:G.take m=List.range m)(hnd:G.Nodup)(he:BJ G (freezeL σ fz) r=r')(hs:C1 G (freezeL σ fz)=s'):Bg m r σ r' s':=by
 have:=Qgn (m:=m) fz G hm hnd r σ;rw[he,hs] at this;exact this
def IK{all:Array Oper}{draw:Bool}{K1 K2:Env->Sto->Prop}(hk:∀e s,K1 e s->K2 e s):∀(l:List Oper) (env:Env) (σ:Sto),Ab P Gl n all draw l env σ K1->Ab P Gl n all draw l env σ K2
 | [],_,_,h=>hk _ _ h
 | o::l,env,σ,h=>by
  simp only[Ab] at h ⊢;refine⟨h.1,?_⟩;have h2:=h.2;cases hg:o.guard with
  | none=>
   rw[hg] at h2;simp only at h2 ⊢;refine⟨h2.1,?_⟩;have h3:=h2.2;by_cases hc:Ch o.op=true
   ·rw[AD hc] at h3 ⊢;by_cases hd:draw=true
    ·rw[AD hd] at h3 ⊢;rcases h3 with⟨r0,h4,h5⟩|⟨h4,h5,h6⟩|h6
     ·exact .inl ⟨r0,h4,IK hk l _ _ h5⟩
     rotate_left
     ·exact .inr (.inr h6)
     refine .inr (.inl ⟨h4,h5,?_⟩)
     revert h6
     unfold HO;split
     ·split
      ·split
       ·exact λh=>h.mono λr s h=>hk _ _ h
       exact id
      exact id
     exact id
    rw[A7 hd] at h3 ⊢
    revert h3
    unfold HO;split
    ·split
     ·split
      ·exact λh=>h.mono λr s h=>IK hk l _ _ h
      exact id
     exact id
    exact id
   rw[A7 hc] at h3 ⊢;exact⟨h3.1,IK hk l _ _ h3.2⟩
  | some jb=>
   obtain⟨j,b⟩:=jb;rw[hg] at h2;simp only at h2 ⊢;by_cases ha:Ea o.op=true
   ·rw[AD ha] at h2 ⊢;exact⟨h2.1,h2.2.1,h2.2.2.1,h2.2.2.2.1,IK hk l _ _ h2.2.2.2.2⟩
   rw[A7 ha] at h2 ⊢;refine⟨h2.1,h2.2.1,h2.2.2.1,?_⟩;have h3:=h2.2.2.2;by_cases hc:Ch o.op=true
   ·rw[AD hc] at h3 ⊢;obtain⟨r0,h4,h5⟩:=h3;exact⟨r0,h4,IK hk l _ _ h5⟩
   rw[A7 hc] at h3 ⊢;exact⟨h3.1,IK hk l _ _ h3.2⟩
def rF{K1 K2:Ct->Env->Sto->Prop}{id:Nat}(hk:∀e env s,K1 e env s->K2 e env s):∀e env s,Gm id K1 e env s->Gm id K2 e env s:=by
 intro e env s h;cases e with
 | exit i=>
  simp only[Gm] at h ⊢;split
  ·rename_i hi;rw[AD hi] at h;exact hk _ _ _ h
  rename_i hi;rw[A7 hi] at h;exact hk _ _ _ h
 | _=>exact hk _ _ _ h
def rS{all:Array Oper}{env:Env}{σ:Sto}{K1 K2:Env->Sto->Prop}(hk:∀e s,K1 e s->K2 e s)(h:Pv P Gl n m all env σ K1):Pv P Gl n m all env σ K2:=by
 rcases h with h|⟨J,h1,h2,h3⟩
 ·exact .inl h
 exact .inr ⟨J,h1,λl e s a b c=>hk _ _ (h2 l e s a b c),h3⟩
def kX:∀(c:Code) {env:Env} {σ:Sto} {K1 K2:Ct->Env->Sto->Prop},(∀e env s,K1 e env s->K2 e env s)->evC P Gl n m c env σ K1->evC P Gl n m c env σ K2:=by
 intro c
 induction c with
 | skip=>intro env σ K1 K2 hk h;exact hk _ _ _ h
 | region id ops draw=>intro env σ K1 K2 hk h;exact⟨λhd=>rS (λe s h=>hk _ e s h) (h.1 hd),IK (λe s h=>hk _ e s h) _ _ _ h.2⟩
 | seq x y ihx ihy=>intro env σ K1 K2 hk h;exact ihx (Og hk λe s h=>ihy hk h) h
 | cond c x y ihx ihy=>intro env σ K1 K2 hk h;exact⟨h.1,h.2.1,λht=>ihx hk (h.2.2.1 ht),λht=>ihy hk (h.2.2.2 ht)⟩
 | block id c ih=>intro env σ K1 K2 hk h;exact ih (rF hk) h
 | loop c ih=>
  intro env σ K1 K2 hk h;obtain⟨Inv,V,h0,hs⟩:=h;exact⟨Inv,V,h0,λe s hi=>ih (Og hk λ_ _ h=>h) (hs e s hi)⟩
 | exit id=>intro env σ K1 K2 hk h;exact hk _ _ _ h
 | ret=>intro env σ K1 K2 hk h;exact hk _ _ _ h
 | scope c ih=>intro env σ K1 K2 hk h;exact ih hk h
 | label l=>intro env σ K1 K2 hk h;exact hk _ _ _ h
 | _=>intro env σ K1 K2 hk h;exact h.elim
def CL{c:Code}{τ:Type}(E:τ->Env)(S:τ->Sto)(Inv:τ->Prop)(V:τ->Nat)(x0:τ)(h0:Inv x0)(hw:Bc n m env σ (E x0) (S x0))
  (hs:∀x,Inv x->evC P Gl n m c (E x) (S x) (H2 K λe s=>∃y,Inv y/\V y<V x/\Bc n m e s (E y) (S y))) :
  evC P Gl n m (.loop c) env σ K:=by
 classical
 let L:Env->Sto->Nat:=λe s=>if h:∃k,∃x,Inv x/\e=E x/\s=S x/\V x=k then Classical.choose (NT h) else 0
 have hμ:∀x,Inv x->(∃y,Inv y/\E x=E y/\S x=S y/\V y=L (E x) (S x))/\L (E x) (S x)<=V x:=λx hx=>by
  have h:∃k,∃y,Inv y/\E x=E y/\S x=S y/\V y=k:=⟨_,x,hx,rfl,rfl,rfl⟩;have e:L (E x) (S x)=Classical.choose (NT h):=by simp only[L];rw[JR h]
  exact n_
 refine⟨λe s=>∃x,Inv x/\e=E x/\s=S x,L,⟨_,_,hw,x0,h0,rfl,rfl⟩,?_⟩;rintro e s ⟨x,hx,rfl,rfl⟩;obtain⟨⟨y,hy,e1,e2,e3⟩,_⟩:=hμ x hx;rw[e1,e2];rw[e1,e2] at e3;refine kX _ (λa b c h=>?_) (hs y hy)
 revert h
 refine Og (λ_ _ _ h=>h) (λe s h=>?_) a b c;obtain⟨z,hz,hlt,hw⟩:=h;refine⟨_,_,hw,⟨z,hz,rfl,rfl⟩,?_⟩;have:=(hμ z hz).2;omega
def Bm{c:Code}(N:Nat)(E:Nat->Env)(S:Nat->Sto)(Inv:Nat->Prop)(h0:Inv 0)(hw:Bc n m env σ (E 0) (S 0))
  (hs:∀k,Inv k->k<=N->evC P Gl n m c (E k) (S k) (H2 K λe s=>k<N/\Inv (k+1)/\Bc n m e s (E (k+1)) (S (k+1)))) :
  evC P Gl n m (.loop c) env σ K:=
 CL E S (λk=>Inv k/\k<=N) (λk=>N-k) 0 ⟨h0,Bq _⟩ hw λk hk=>kX _ (Og (λ_ _ _ h=>h) λ_ _ h=>⟨k+1,⟨h.2.1,oo⟩,oo,h.2.2⟩) (hs k hk.1 hk.2)
end Go.AM


namespace Go.AM
def Cq(G:List Nat)(N:Nat)(j:Nat):Nat:=if j<G.length then G.getD j 0 else N+(j-G.length)
mutual
def BK(b:Nat->Nat):AV->AV
 | .undef=>.undef
 | .d x=>.d x
 | .AA=>.AA
 | .agg cs=>.agg (IB b cs)
 | .ptr id off=>.ptr (b id) off
 | .B8 es xs i off=>.B8 es xs i off
 | .Al id i off=>.Al (b id) i off
 | .A8 id off len=>.A8 (b id) off len
 | .fn f caps=>.fn f (IB b caps)
 | .Aj vs=>.Aj (IB b vs)
 | .iff g v=>.iff g (BK b v)
 | .AF id=>.AF (b id)
 | .BY=>.BY
def IB(b:Nat->Nat):List AV->List AV
 | []=>[]
 | c::r=>BK b c::IB b r
end
def QR(b:Nat->Nat):∀l:List AV,IB b l=l.map (BK b)
 | []=>rfl
 | c::r=>by rw[IB,QR b r];rfl
def Cc(b:Nat->Nat):Blk->Blk
 | .box n v=>.box n (BK b v)
 | .map ik f=>.map ik λk=>(f k).map (BK b)
 | .var es cs=>.var es (cs.map (BK b))
 | B=>B
def Ds(G:List Nat)(S s:Sto):Sto:=(List.range (S.length+(s.length-G.length))).map λid=>
 match Bn G id with
 | some j=>Cc (Cq G S.length) (A1 s j)
 | none=>if id<S.length then A1 S id else Cc (Cq G S.length) (A1 s (G.length+(id-S.length)))
variable {P:Program} {Gl:BM} {w w':World} {I I':Im} {μ μ':Pos} {σ s s':Sto}
def Oi(b:Nat->Nat)(B:Blk):(Cc b B).AP=B.AP/\(Cc b B).B7=B.B7/\(Cc b B).es=B.es/\(Cc b B).xs=B.xs/\(Cc b B).own=B.own:=by
 cases B<;>exact⟨rfl,rfl,rfl,by simp[Cc,Blk.xs],rfl⟩
def Wc(b:Nat->Nat)(v:AV):(BK b v).one=v.one:=by
 cases v<;>rfl
def BU.im(h:∀b,I.rd b->I'.rd b){v:Value}{x:D}(hv:BU w I v x):BU w I' v x:=hv.AH h (λ_ _=>rfl)
def kK{b:Nat->Nat}(hI:∀x,I.rd x->I'.rd x)
  (hb:∀j<s.length,b j<s'.length/\(Br s' (b j)->Br s j/\μ' (b j)=μ j/\(A1 s' (b j)).B7=(A1 s j).B7/\(A1 s' (b j)).es=(A1 s j).es/\(A1 s' (b j)).xs=(A1 s j).xs))
  {v:Value} {u:AV} (hv:AL w I μ s v u):AL w I' μ' s' v (BK b u):=by
 have lst:∀{vs:List Value} {cs:List AV},(∀(i:Nat) (v:Value) (x:AV),vs[i]? = some v->cs[i]? = some x->AL w I' μ' s' v (BK b x))->∀(i:Nat) (v:Value) (x:AV),vs[i]? = some v->(IB b cs)[i]? = some x->AL w I' μ' s' v x:=λ{vs cs} h i v x hv hx=>by
  rw[QR,DG] at hx;cases hc:cs[i]? with
  | none=>rw[hc] at hx;cases hx
  | some c=>
   rw[hc] at hx;simp only[DF,BF] at hx;subst hx;exact h i v c hv hc
 induction hv with
 | undef v=>exact .undef v
 | d v x h=>exact .d v x (h.im hI)
 | AA=>exact .AA
 | agg vs cs hl hone h ih=>
  refine .agg vs _ au (λc hc=>?_) (lst ih);rw[QR] at hc;obtain⟨c',hc',rfl⟩:=C4.1 hc;rw[Wc];exact hone c' hc'
 | ptr v id off hid h=>
  obtain⟨q1,q2⟩:=hb id hid;obtain⟨b',base,h1,h2⟩:=h;exact .ptr v _ off q1 ⟨b',base,λha=>by rw[(q2 ha).2.1];exact h1 (q2 ha).1,h2⟩
 | B8 b' o es xs i off h=>exact .B8 b' o es xs i off (h.AH hI (λ_ _=>rfl))
 | Al v id i off hid h=>
  obtain⟨q1,q2⟩:=hb id hid;obtain⟨b',base,es,h1,h2⟩:=h;exact .Al v _ i off q1 ⟨b',base,es,λha=>by obtain⟨a1,a2,a3,a4,a5⟩:=q2 ha;rw[a2,a4];exact h1 a1,h2⟩
 | A8 v id off len hid h=>
  obtain⟨q1,q2⟩:=hb id hid;refine .A8 v _ off len q1 ?_;rcases h with h|⟨b',base,es,cap,h1,h2,h3⟩
  ·exact .inl h
  refine .inr ⟨b',base,es,cap,λha=>?_,h2,h3⟩;obtain⟨a1,a2,a3,a4,a5⟩:=q2 ha;rw[a2,a3,a4,a5];exact h1 a1
 | fn f vs caps hl h ih=>exact .fn f vs _ au (lst ih)
 | Aj vs cs hl h ih=>exact .Aj vs _ au (lst ih)
 | iff g v x h1 h2 ih=>exact .iff g v _ ih h2
 | AF v id hid h=>
  obtain⟨q1,q2⟩:=hb id hid;obtain⟨b',h1,h2⟩:=h;exact .AF v _ q1 ⟨b',λha=>by rw[(q2 ha).2.1];exact h1 (q2 ha).1,h2⟩
 | BY c=>exact .BY c
def ct(b:Nat->Nat)(v:AV)(j:Nat)(hj:j<v.AO):(BK b v).AO=v.AO/\(BK b v).cellAt j=BK b (v.cellAt j):=by
 cases v with
 | agg cs=>
  simp only[BK,AV.AO,QR] at hj ⊢;refine⟨A6,?_⟩;simp only[AV.cellAt,B5,DG,BP hj,DF,EA]
 | _=>exact⟨rfl,rfl⟩
def xt(G:List Nat)(σ s:Sto):(Ds G σ s).length=σ.length+(s.length-G.length):=by simp[Ds]
def Y2{G:List Nat}{σ s:Sto}{id:Nat}(h:id<σ.length+(s.length-G.length)):A1 (Ds G σ s) id=(match Bn G id with
  | some j=>Cc (Cq G σ.length) (A1 s j)
  | none=>if id<σ.length then A1 σ id else Cc (Cq G σ.length) (A1 s (G.length+(id-σ.length)))):=by
 conv=>lhs;unfold A1 Ds
 rw[B5,DG,T7 h];rfl
def fa{G:List Nat}(hnd:G.Nodup){j:Nat}(hj:j<G.length):Bn G (G.getD j 0)=some j:=by
 have e:G.getD j 0=G[j]:=Ku;rw[e];unfold Bn;rw[aY];refine⟨hj,A6,λk hk=>?_⟩;simp only[GR];intro he;have:=(List.getElem_inj hnd).1 he;omega
def Qfb{G:List Nat}{id:Nat}(h:Bn G id=none):id∉G:=by
 unfold Bn at h;rw[aV] at h;intro hm;have:=h id hm;simp at this
mutual
def OX:∀u:AV,BK (λj=>j) u=u
 | .undef|.d _|.AA|.ptr ..|.B8 ..|.Al ..|.A8 ..|.AF _|.BY=>by simp[BK]
 | .agg cs=>by rw[BK,UA cs]
 | .fn f caps=>by rw[BK,UA caps]
 | .Aj vs=>by rw[BK,UA vs]
 | .iff g v=>by rw[BK,OX v]
def UA:∀l:List AV,IB (λj=>j) l=l
 | []=>by simp[IB]
 | c::r=>by rw[IB,OX c,UA r]
end
def AL.im(h:∀b,I.rd b->I'.rd b){v:Value}{u:AV}(hv:AL w I μ s v u):AL w I' μ s v u:=by
 have:=kK (I':=I') (μ':=μ) (s':=s) (b:=λj=>j) h (λj hj=>⟨hj,λha=>⟨ha,rfl,rfl,rfl,rfl⟩⟩) hv
 rwa [OX] at this
def qa{b:Nat}(h:G_ w b):b<w.heap.size:=by
 obtain⟨c,t,hc⟩:=h;rcases B9 b w.heap.size with h'|h'
 ·exact h'
 rw[I_ h'] at hc;cases hc
def Rp(hR:Rel w I μ σ){id:Nat}(ho:(A1 σ id).own=true){b o:Nat}(hm:μ id=some (b,o)):b<w.heap.size/\¬I.fr b:=by
 have hb:=hR.D6 id (E2 ho);cases hB:A1 σ id with
 | box k v=>
  rw[hB] at hb;obtain⟨b',base,h1,h2,h3,_⟩:=hb;exact bN
 | arr es xs=>
  rw[hB] at hb;rcases hb with⟨h1,_⟩|⟨b',base,h1,h2,h3,_⟩
  ·rw[hm] at h1;cases h1
  exact bN
 | var es cs=>
  rw[hB] at hb;rcases hb.2 with⟨h1,_⟩|⟨b',base,h1,h2,h3,_⟩
  ·rw[hm] at h1;cases h1
  exact bN
 | map ik f=>
  rw[hB] at hb;obtain⟨b',es,clock,h1,h2,⟨h3,_⟩,_⟩:=hb;rw[hm] at h1;cases h1;refine⟨?_,h2⟩;rcases B9 b w.heap.size with h'|h'
  ·exact h'
  rw[I_ h'] at h3;cases h3
 | _=>rw[hB] at ho;simp[Blk.own] at ho
def Ft.im{id id':Nat}{B:Blk}{b:Nat->Nat}(hI:∀x,I.rd x->I'.rd x)(hf:B.own=true->∀x o,μ id=some (x,o)->¬I.fr x->¬I'.fr x)
  (hμ:μ' id'=μ id) (hv:∀{v:Value} {u:AV},AL w I μ s v u->AL w I' μ' s' v (BK b u)) (hb:Ft w I μ s id B):Ft w I' μ' s' id' (Cc b B):=by
 cases B with
 | dead=>trivial
 | box k v=>
  obtain⟨x,base,h1,h2,h3,h4,h5,h6⟩:=hb;refine⟨x,base,hμ.trans h1,hf rfl x base h1 h2,h3,h4,?_,λq hq=>?_⟩
  ·rcases O3 v.AO with hz|hp
   ·cases v<;>simp_all [AV.AO,BK,QR]
   rw[(ct b v 0 hp).1];exact h5
  obtain⟨a0,u,a1,a2⟩:=h6 q hq;rw[(ct b v q oo).2,Wc];exact⟨a0,u,a1,hv a2⟩
 | arr es xs=>
  rcases hb with hb|⟨x,base,h1,h2,h3,h4,h5,h6,h7⟩
  ·exact .inl ⟨hμ.trans hb.1,hb.2⟩
  exact .inr ⟨x,base,hμ.trans h1,hf rfl x base h1 h2,h3,h4,h5,h6,λi q x y hx hy=>by obtain⟨v,a1,a2⟩:=h7 i q x y hx hy;exact⟨v,a1,a2.im hI⟩⟩
 | BS es xs=>
  rcases hb with hb|⟨x,base,h1,h2⟩
  ·exact .inl ⟨hμ.trans hb.1,hb.2⟩
  exact .inr ⟨x,base,hμ.trans h1,J1.AH (w:=w) hI (λ_ _=>rfl) h2⟩
 | var es cs=>
  refine⟨by simpa[Cc] using hb.1,?_⟩;rcases hb.2 with⟨h1,rfl⟩|⟨x,base,h1,h2,h3,h4,h7⟩
  ·exact .inl ⟨hμ.trans h1,rfl⟩
  refine .inr ⟨x,base,hμ.trans h1,hf rfl x base h1 h2,h3,Ic,λq c hc=>?_⟩;rw[DG] at hc;cases hq:cs[q]? with
  | none=>rw[hq] at hc;cases hc
  | some c0=>
   rw[hq] at hc;simp only[DF,BF] at hc;subst hc;obtain⟨a0,u,a1,a2⟩:=h7 q c0 hq;rw[Wc];exact⟨a0,u,a1,hv a2⟩
 | map ik f=>
  obtain⟨x,es,clock,h1,h2,h3,h4⟩:=hb;exact⟨x,es,clock,hμ.trans h1,hf rfl x 0 h1 h2,h3,h4.imp λv u hr=>hv hr⟩
def AW.under{f:FuncId}{args:List AV}{R:AV->Sto->Prop}(G:List Nat)(hnd:G.Nodup)(hlt:∀id∈G,id<σ.length)(h:AW P Gl f (args.map (BJ G σ)) (C1 G σ) R):
  AW P Gl f args σ (λr s=>∃r0 s0,R r0 s0/\r=BK (Cq G σ.length) r0/\s=Ds G σ s0):=by
 intro w I μ vals hR hG hl hv
 let given:Nat->Prop:=λb=>∃id∈G,(A1 σ id).own=true/\∃o,μ id=some (b,o)
 let J:Im:={rd:=I.rd,fr:=λb=>b<w.heap.size/\¬given b,sub:=λb hb=>⟨hR.Bs b (I.sub b hb),λ⟨id,_,ho,o,hm⟩=>(Rp hR ho hm).2 (I.sub b hb)⟩}
 have frJ:∀b,I.fr b->J.fr b:=λb hb=>⟨hR.Bs b hb,λ⟨id,_,ho,o,hm⟩=>(Rp hR ho hm).2 hb⟩;obtain⟨r1,r2⟩:=ZX (m:=0) hR (ρ:=G) rfl hnd;have hlen0:(C1 G σ).length=G.length:=by simp[C1]
 have own0:∀j,(A1 (C1 G σ) j).own=true->∃id,G[j]? = some id/\(A1 σ id).own=true:=λj hj=>by
  have hl:=E2 hj;rw[hlen0] at hl;have hs:G[j]? = some G[j]:=BP hl;refine⟨G[j],hs,?_⟩;rw[ME hs] at hj;cases hB:A1 σ G[j] with
  | box k v=>rfl
  | arr es xs=>rfl
  | map ik f=>rfl
  | var es cs=>rfl
  | _=>rw[hB] at hj;simp[Ca,Blk.own] at hj
 have posR:∀j id,G[j]? = some id->Gn G μ j=μ id:=λj id hj=>by unfold Gn;rw[hj]
 have notJ:∀j,(A1 (C1 G σ) j).own=true->∀b o,Gn G μ j=some (b,o)->¬J.fr b:=λj hj b o hm hf=>by
  obtain⟨id,h1,h2⟩:=own0 j hj;rw[posR j id h1] at hm;exact hf.2 ⟨id,Dn h1,h2,o,hm⟩
 have backBid:∀B:Blk,Cc (λj=>j) B=B:=λB=>by
  cases B with
  | map ik f=>
   simp only[Cc];congr 1;funext k;cases f k<;>simp[OX]
  | var es cs=>
   simp only[Cc];congr 1
   conv=>rhs;rw[<-Sx cs]
   exact MX λc _=>OX c
  | _=>simp[Cc,OX]
 have hRJ:Rel w J (Gn G μ) (C1 G σ):=by
  refine⟨λb hb=>hb.1,λj hj=>?_,r1.apart⟩;have:=Ft.im (w:=w) (I:=I) (I':=J) (s:=C1 G σ) (μ':=Gn G μ) (s':=C1 G σ) (id':=j) (b:=λj=>j) (λ_ h=>h) (λho b o hm _=>notJ j ho b o hm) rfl (λ{v u} hv=>by rw[OX];exact AL.im (I:=I) (I':=J) (λ_ h=>h) hv) (r1.D6 j hj)
  rwa [backBid] at this
 have hGJ:Cr Gl w J:=⟨λp hp=>J1.AH (w:=w) (I:=I) (I':=J) (λ_ h=>h) (λ_ _=>rfl) (hG.sl p hp),hG.ex⟩;refine(h w J (Gn G μ) vals hRJ hGJ (by simp[hl]) λi v u hv' hu=>?_).mono λv w' ⟨r0,s0,I1,μ1,q1,q2,q3,q4⟩=>?_
 ·rw[DG] at hu;cases ha:args[i]? with
  | none=>rw[ha] at hu;cases hu
  | some a=>
   rw[ha] at hu;simp only[DF,BF] at hu;subst hu;exact AL.im (I:=I) (I':=J) (λ_ h=>h) (Rw hR (hv i v a hv' ha))
 have hge:G.length<=s0.length:=by have:=q2.len;omega
 let I2:Im:={rd:=I1.rd,fr:=λb=>I.fr b\/I1.rd b,sub:=λb hb=>.inr hb}
 let N:=σ.length
 let s2:=Ds G σ s0
 let μ2:Pos:=λid=>match Bn G id with|some j=>μ1 j|none=>if id<N then μ id else μ1 (G.length+(id-N))
 have s2len:s2.length=N+(s0.length-G.length):=xt G σ s0;have hρ:∀j,j<G.length->G.getD j 0∈G:=λj hj=>Ku;have hnone:∀id,N<=id->Bn G id=none:=λid hid=>by
  cases hx:Bn G id with
  | none=>rfl
  | some j=>have:=hlt id (Dn (MF hx));omega
 have factB:∀j,j<s0.length->Cq G N j<s2.length/\A1 s2 (Cq G N j)=Cc (Cq G N) (A1 s0 j)/\μ2 (Cq G N j)=μ1 j:=λj hj=>by
  by_cases hj2:j<G.length
  ·have e:Cq G N j=G.getD j 0:=by unfold Cq;rw[AD hj2]
   have hlt':G.getD j 0<N:=hlt _ (hρ j hj2);rw[e];refine⟨oo,?_,?_⟩
   ·show A1 (Ds G σ s0) _=_;rw[Y2 oo,fa hnd hj2]
   simp only[μ2];rw[fa hnd hj2]
  have e:Cq G N j=N+(j-G.length):=by unfold Cq;rw[A7 hj2]
  rw[e];refine⟨oo,?_,?_⟩
  ·show A1 (Ds G σ s0) _=_;rw[Y2 oo,hnone _ oo];simp only;rw[A7 oo];congr 2;omega
  simp only[μ2];rw[hnone _ oo];simp only;rw[A7 oo];congr 1;omega
 have factC:∀id,id<s2.length->(∃j,j<s0.length/\id=Cq G N j)\/(id<N/\id∉G/\A1 s2 id=A1 σ id/\μ2 id=μ id):=λid hid=>by
  cases hx:Bn G id with
  | some j=>
   left;have hs:=MF hx;have hj:j<G.length:=by
    exact oQ
   refine⟨j,oo,?_⟩;unfold Cq;rw[AD hj,B5,hs];rfl
  | none=>
   by_cases hn:id<N
   ·right;refine⟨hn,Qfb hx,?_,?_⟩
    ·show A1 (Ds G σ s0) _=_;rw[Y2 oo,hx];simp only;rw[AD hn]
    simp only[μ2];rw[hx];simp only;rw[AD hn]
   left;refine⟨G.length+(id-N),oo,?_⟩;unfold Cq;rw[A7 oo];omega
 have aliveB:∀j,j<s0.length->(Br s2 (Cq G N j)->Br s0 j):=λj hj ha=>by
  unfold Br at *;rw[(factB j hj).2.1,(Oi _ _).1] at ha;exact ha
 have repB:∀{v:Value} {u:AV},AL w' I1 μ1 s0 v u->AL w' I2 μ2 s2 v (BK (Cq G N) u):=λ{v u} hv=>
  kK (I:=I1) (I':=I2) (λ_ h=>h) (λj hj=>by
   obtain⟨b1,b2,b3⟩:=factB j hj
   obtain⟨_,c2,c3,c4,_⟩:=Oi (Cq G N) (A1 s0 j)
   exact⟨b1,λha=>⟨aliveB j hj ha,b3,by rw[b2,c2],by rw[b2,c3],by rw[b2,c4]⟩⟩) hv
 have kp:Ay N w I μ σ w' I2 μ2 s2:=by
  refine⟨q2.os,q2.tape,q2.output,q2.size,q2.Bs,λb hb=>.inl hb,λb hb=>?_,λb hb=>q2.same b (frJ b hb),q2.bsize,oo,λid hid ha=>?_⟩
  ·rcases q2.KF b hb with h1|h1
   ·exact .inl h1
   exact .inr λhf=>h1 (frJ b hf)
  rcases factC id oo with⟨j,hj,rfl⟩|⟨_,_,c3,c4⟩
  ·obtain⟨b1,b2,b3⟩:=factB j hj;obtain⟨_,c2,c3,c4,_⟩:=Oi (Cq G N) (A1 s0 j);have hj2:j<G.length:=by
    rcases B9 j G.length with h'|h'
    ·exact h'
    unfold Cq at hid;rw[A7 oo] at hid;omega
   have hs:G[j]? = some (Cq G N j):=by
    unfold Cq;rw[AD hj2];simp[hj2]
   obtain⟨o1,o2,o3,o4,o5⟩:=q2.BD j oo (aliveB j hj ha);have hb0:=ME (σ:=σ) hs;obtain⟨d1,d2,d3⟩:=XD G σ (A1 σ (Cq G N j)) (by unfold Br at o1;rwa [hb0] at o1);refine⟨?_,?_,?_,?_,?_⟩
   ·unfold Br at o1 ⊢;rw[hb0] at o1;exact Xp o1
   ·rw[b3,o2];exact posR j _ hs
   ·rw[b2,c2,o3,hb0,d1]
   ·rw[b2,c3,o4,hb0,d2]
   rw[b2,c4];rw[hb0,d3] at o5;exact o5
  unfold Br at ha ⊢;rw[c3] at ha;exact⟨ha,c4,by rw[c3],by rw[c3],by rw[c3];exact AR _⟩
 have ownC:∀id,id∉G->(A1 σ id).own=true->∀b o,μ id=some (b,o)->J.fr b:=λid hid ho b o hm=>
  ⟨(Rp hR ho hm).1,λ⟨id',h1,h2,o',h3⟩=>hR.apart id id' b b o o' (λe=>hid (e▸h1)) ho h2 hm h3 rfl⟩
 refine⟨BK (Cq G N) r0,s2,I2,μ2,?_,kp,repB q3,r0,s0,q4,rfl,rfl⟩;refine⟨λb hb=>?_,λid hid=>?_,λi j b b' o o' hij hi hj hμi hμj=>?_⟩
 ·rcases hb with hb|hb
  ·exact JX (hR.Bs b hb) q2.size
  exact q1.Bs b (I1.sub b hb)
 ·rcases factC id hid with⟨j,hj,rfl⟩|⟨c1,c2,c3,c4⟩
  ·obtain⟨b1,b2,b3⟩:=factB j hj;rw[b2];refine Ft.im (I:=I1) (I':=I2) (λ_ h=>h) (λho b o hm hn hf=>?_) b3 repB (q1.D6 j hj);rcases hf with hf|hf
   ·exact hn (q2.fr b (frJ b hf))
   exact hn (I1.sub b hf)
  rw[c3];refine Ft.AH kp c4 (λho b o hm=>?_) (hR.D6 id c1);have hJ:=ownC id c2 ho b o hm;refine⟨q2.same b hJ,λhn hf=>?_⟩;rcases hf with hf|hf
  ·exact hn hf
  rcases q2.KF b hf with h1|h1
  ·exact hn (I.sub b h1)
  exact h1 hJ
 rcases factC i (E2 hi) with⟨j1,hj1,rfl⟩|⟨c1,c2,c3,c4⟩<;>rcases factC j (E2 hj) with⟨j2,hj2,rfl⟩|⟨e1,e2,e3,e4⟩
 ·rw[(factB j1 hj1).2.1,(Oi _ _).2.2.2.2] at hi;rw[(factB j2 hj2).2.1,(Oi _ _).2.2.2.2] at hj;rw[(factB j1 hj1).2.2] at hμi;rw[(factB j2 hj2).2.2] at hμj;exact q1.apart j1 j2 b b' o o' (λe=>hij Li) hi hj hμi hμj
 ·rw[(factB j1 hj1).2.1,(Oi _ _).2.2.2.2] at hi;rw[(factB j1 hj1).2.2] at hμi;rw[e3] at hj;rw[e4] at hμj;intro e;subst e;exact(Rp q1 hi hμi).2 (q2.fr _ (ownC j e2 hj _ _ hμj))
 ·rw[(factB j2 hj2).2.1,(Oi _ _).2.2.2.2] at hj;rw[(factB j2 hj2).2.2] at hμj;rw[c3] at hi;rw[c4] at hμi;intro e;subst e;exact(Rp q1 hj hμj).2 (q2.fr _ (ownC i c2 hi _ _ hμi))
 rw[c3] at hi;rw[c4] at hμi;rw[e3] at hj;rw[e4] at hμj;exact hR.apart i j b b' o o' hij hi hj hμi hμj
def Ua(σ:Sto):Ds [] σ []=σ:=by
 unfold Ds;simp only[C6,Nw,Gb];apply Gf;intro i;rw[DG];rcases B9 i σ.length with h|h
 ·rw[T7 h];simp only[DF,Bn,List.findIdx?_nil,AD h];unfold A1;simp[h]
 rw[Bt Dy,Bt h];rfl
def AW.pure{f:FuncId}{args:List D}{y:D}(h:AW P Gl f (args.map AV.d) [] (λr s=>r=.d y/\s=[]))(s:Sto):AW P Gl f (args.map AV.d) s (λr s'=>r=.d y/\s'=s):=by
 have e:(args.map AV.d).map (BJ [] s)=args.map AV.d:=Pg;have h1:=AW.under (P:=P) (Gl:=Gl) (f:=f) (args:=args.map AV.d) (R:=λr s=>r=.d y/\s=[]) (σ:=s) [] Ht A6 TP;refine h1.mono λr s' h2=>?_;obtain⟨r0,s0,⟨h1,h2⟩,h3,h4⟩:=h2;subst h1;subst h2;subst h3;subst h4;exact⟨by simp[BK],Ua s⟩
end Go.AM


namespace Go.AM
def Q09:=aI (aI (aI (aI (aI (aI @List.set_cons_zero.{0} @List.set_cons_succ.{0}) (aI @List.nil_append.{0} (aI @List.cons_append.{0} @List.append_nil.{0}))) (aI (aI @List.length_cons.{0} @List.length_nil.{0}) (aI @List.length_map.{0,0} (aI @List.map_cons.{0,0} @List.map_nil.{0,0})))) (aI (aI (aI @List.getD_cons_zero.{0} @List.getD_cons_succ.{0}) (aI @List.drop_zero.{0} (aI @List.drop_succ_cons.{0} @List.drop_nil.{0}))) (aI (aI @List.take_zero.{0} (aI @List.take_succ_cons.{0} @List.take_nil.{0})) (aI @List.all_cons.{0} (aI @List.all_nil.{0} @List.flatMap_cons.{0,0}))))) (aI (aI (aI (aI @List.flatMap_nil.{0,0} @Dw) (aI @R0 (aI @PS @false_and))) (aI (aI @and_false @true_or) (aI @or_true (aI @false_or @E6)))) (aI (aI (aI @R1 @or_self) (aI @Vf (aI @not_false_eq_true @if_true.{1}))) (aI (aI @if_false.{1} (aI @true_implies @false_implies)) (aI @implies_true.{0} (aI @Option.isSome_some.{0} @Option.map_some.{0,0})))))) (aI (aI (aI (aI (aI @Option.map_none.{0,0} @MT) (aI @Hu (aI @aK @JV))) (aI (aI @Bool.or_true @Bool.true_or) (aI @Le (aI @Kq @Sz)))) (aI (aI (aI @Vk @Cx) (aI @ne_eq.{1} (aI @AR @EU))) (aI (aI @Gb (aI @decide_true @decide_false)) (aI @Bq (aI @cond_true.{1} @cond_false.{1}))))) (aI (aI (aI (aI @Int.natCast_nonneg @List.getElem?_cons_zero.{0}) (aI @List.getElem?_cons_succ.{0} (aI @eq_self.{1} @List.length_append.{0}))) (aI (aI @List.getD_nil.{0} @List.append_assoc.{0}) (aI @List.length_set.{0} (aI @beq_true @beq_false)))) (aI (aI (aI @imp_self @List.mem_cons.{0}) (aI @List.not_mem_nil.{0} (aI @forall_eq_or_imp.{1} @forall_eq.{1}))) (aI (aI @Bool.cond_false_right (aI @Bool.cond_true_right @Bool.cond_false_left)) (aI @Bool.cond_true_left (aI @Bool.cond_self.{1} @Bool.not_not))))))
def ZI:=aI @Q09 (aI @implies_true.{0} @implies_true.{1})
def wK{α:Type}[Inhabited α](f:α->D)(l:List α)(i:Nat)(h:i<l.length):(l.map f).getD i default=f (l.getD i default):=by
 simp[h]
def IL{n:Int}(h1:-9223372036854775808<=n)(h2:n<=9223372036854775807):IntKind.i64.wrap n=n:=by
 rw[IntKind.wrap_i64];omega
end Go.AM


namespace Go.AM
def il{a b:Int}(h:a=b):(a==b)=true:=Lh
def Mq{a b:Int}(h:¬a=b):(a==b)=false:=Lh
def Af{α:Type}[Inhabited α](f:α->D)(l:List α)(i:Nat)(h:i<l.length):(l.map f).getD i default=f (l.getD i default):=wK f l i h
def a_w(n:Int)(h:-9223372036854775808<=n/\n<=9223372036854775807:=by omega):IntKind.i64.wrap n=n:=IL h.1 h.2
def acS{P:Program}{Gl:BM}{f:FuncId}{fn:Func}{c:Code}{n:Nat}{rs:Array ResultVar}{args:List AV}{S:Sto}{R:AV->Sto->Prop}(hf:P.funcs[f]? = some fn)(hn:fn.ntmps=n)(hr:fn.results=rs)(h:evC P Gl n S.length c (B6 args 0) S (Ss P S.length rs.toList R))
  (hP:P.follows .mixedOrders=true:=by exact rfl) (hname:(fn.name == "runtime.NumGoroutine")=false:=by exact rfl) (hb:fn.body=some c:=by exact rfl) (hl:args.length.ble n=true:=by exact rfl):AW P Gl f args S R:=by
 subst hn;subst hr;exact Fv hf hname hb (Nat.le_of_ble_eq_true hl) (Bu hP _ _ _ _ h)
end Go.AM


namespace Go.AM
variable {P:Program} {Gl:BM}
def AT(P:Program)(Gl:BM)(f:FuncId)(args:List AV)(r:AV):Prop:=∀S,AW P Gl f args S (λr' s=>r'=r/\s=S)
def AT.of{f:FuncId}{args:List D}{y:D}(h:AW P Gl f (args.map AV.d) [] (λr s=>r=.d y/\s=[])):AT P Gl f (args.map AV.d) (.d y):=λS=>AW.pure h S
def AT.Qa{f:FuncId}{args:List D}{y:AV}(hy:∀b,BK b y=y)(h:AW P Gl f (args.map AV.d) [] (λr s=>r=y/\s=[])):AT P Gl f (args.map AV.d) y:=λs=>by
 have e:(args.map AV.d).map (BJ [] s)=args.map AV.d:=Pg;have h1:=AW.under (P:=P) (Gl:=Gl) (f:=f) (args:=args.map AV.d) (R:=λr s=>r=y/\s=[]) (σ:=s) [] Ht A6 TP;refine h1.mono λr s' h2=>?_;obtain⟨r0,s0,⟨h1,h2⟩,h3,h4⟩:=h2;subst h1;subst h2;subst h3;subst h4;exact⟨hy _,Ua s⟩
def YS(x y:D)(b:Nat->Nat):BK b (.Aj [.d x,.d y])=.Aj [.d x,.d y]:=by simp[BK,IB]
def AT.FL{f:FuncId}{a x y:D}(h:AW P Gl f [.d a] [] (λr s=>r=.Aj [.d x,.d y]/\s=[])):AT P Gl f [.d a] (.Aj [.d x,.d y]):=AT.Qa (args:=[a]) (YS x y) h
def AT.Fx{f:FuncId}{a b x y:D}(h:AW P Gl f [.d a,.d b] [] (λr s=>r=.Aj [.d x,.d y]/\s=[])):AT P Gl f [.d a,.d b] (.Aj [.d x,.d y]):=AT.Qa (args:=[a,b]) (YS x y) h
def AT.Ke{f:FuncId}{a b c x y:D}(h:AW P Gl f [.d a,.d b,.d c] [] (λr s=>r=.Aj [.d x,.d y]/\s=[])):AT P Gl f [.d a,.d b,.d c] (.Aj [.d x,.d y]):=AT.Qa (args:=[a,b,c]) (YS x y) h
def KG(P:Program)(Gl:BM)(f:FuncId)(args:List AV)(es:Nat)(xs:List D):Prop:=∀S,AW P Gl f args S (λr s=>r=.A8 S.length 0 xs.length/\s=S++[.arr es xs])
def KG.of{f:FuncId}{args:List D}{es:Nat}{xs:List D}(h:AW P Gl f (args.map AV.d) [] (λr s=>r=.A8 0 0 xs.length/\s=[.arr es xs])):KG P Gl f (args.map AV.d) es xs:=λs=>by
 have e:(args.map AV.d).map (BJ [] s)=args.map AV.d:=Pg;have h1:=AW.under (P:=P) (Gl:=Gl) (f:=f) (args:=args.map AV.d) (σ:=s) [] Ht A6 TP;refine h1.mono λr s' h2=>?_;obtain⟨r0,s0,⟨h1,h2⟩,h3,h4⟩:=h2;subst h1;subst h2;subst h3;subst h4;refine⟨by simp[BK,Cq],?_⟩;apply HY
 ·simp[Ds]
 intro i h1 h2;simp only[Ds,H9,MW];have:Bn [] i=none:=rfl;rw[this];simp only[C6,EU];by_cases hi:i<s.length
 ·exact mZ
 simp[Ds] at h1;have:i=s.length:=oo;subst this;rw[A7 oo,O6 oo];simp[A1,Cc]
def AT.Z3{f:FuncId}{y:D}(h:AW P Gl f [] [] (λr s=>r=.d y/\s=[])):AT P Gl f [] (.d y):=AT.of (args:=[]) h
def AT.iJ{f:FuncId}{a y:D}(h:AW P Gl f [.d a] [] (λr s=>r=.d y/\s=[])):AT P Gl f [.d a] (.d y):=AT.of (args:=[a]) h
def AT.Jv{f:FuncId}{a b y:D}(h:AW P Gl f [.d a,.d b] [] (λr s=>r=.d y/\s=[])):AT P Gl f [.d a,.d b] (.d y):=AT.of (args:=[a,b]) h
def AT.Z2{f:FuncId}{a b c y:D}(h:AW P Gl f [.d a,.d b,.d c] [] (λr s=>r=.d y/\s=[])):AT P Gl f [.d a,.d b,.d c] (.d y):=AT.of (args:=[a,b,c]) h
def y_{f:FuncId}{fn:Func}{e:Array Value->Sem Value}(hf:P.funcs[f]? = some fn)(hname:(fn.name == "runtime.NumGoroutine")=false)(hb:fn.body.isNone=true)(hn:Extern.findNext fn=none)(he:Extern.find fn=some e)
  {args:List AV} {r:AV} (h:∀w I L S (vals:List Value),(∀(i:Nat) (v:Value) (u:AV),vals[i]? = some v->args[i]? = some u->AL w I L S v u)->vals.length=args.length->∃v,(e vals.toArray).run P w=.ok v w/\AL w I L S v r) :
  AT P Gl f args r:=by
 intro S w I L vals hR hG hl hv;obtain⟨v,h1,h2⟩:=h w I L S vals hv hl;rw[run_callFunc_extern hf hname hb hn he vals.toArray w];simp only[Sem.run_bind,h1,Result.andThen_ok,Sem.run_pure];exact⟨r,S,I,L,hR,Ay.refl _ _ _ _ (AR _),h2,rfl,rfl⟩
def rD{f:FuncId}{fn:Func}(hf:P.funcs[f]? = some fn)(hname:(fn.name == "runtime.NumGoroutine")=false)(hb:fn.body.isNone=true)(hn:Extern.findNext fn=none)(he:Extern.find fn=some Extern.BytealgIndexByte.indexByte)(s:List UInt8)(c:Int):
  AT P Gl f [.d (.str s),.d (.int .u8 c)] (.d (.int .i64 (Lib.indexByte s c.toNat.toUInt8))):=by
 refine y_ hf hname hb hn he λw I L S vals hv hl=>?_
 match vals,hl with
 | [a,b],_=>
  have h1:=(hv 0 a _ rfl rfl).Ar;have h2:=(hv 1 b _ rfl rfl).Ar;cases h1;cases h2;exact⟨_,Lib.run_indexByteString _ _ _,.d _ _ (.int _ _)⟩
section
variable {n:Nat} {all:Array Oper} {draw:Bool} {rest:List Oper} {KK:Env->Sto->Prop} {env:Env} {σ:Sto} {f:FuncId} {az caps:List AV} {v:AV} {dst:Option Tmp} {g:Bool}
def rK(h:AT P Gl f (az++caps) v)(h2:Ab P Gl n all draw rest (AJ env dst v) σ KK):FT P Gl n all draw dst rest (.fn f caps) az env σ KK:=
 vJ (λs=>h s) h2
def rN(h:g=true->AT P Gl f (az++caps) v)(h2:Ab P Gl n all draw rest (AJ env dst (.iff g v)) σ KK):L9 P Gl n all draw dst rest g (.fn f caps) az env σ KK:=
 vK (λhg s=>h hg s) h2
def Ak(h:AT P Gl f az v)(h2:Ab P Gl n all draw rest (AJ env dst v) σ KK):FT P Gl n all draw dst rest (.fn f []) az env σ KK:=
 rK (by rwa [FY]) h2
def DS(h:g=true->AT P Gl f az v)(h2:Ab P Gl n all draw rest (AJ env dst (.iff g v)) σ KK):L9 P Gl n all draw dst rest g (.fn f []) az env σ KK:=
 rN (λhg=>by rw[FY];exact h hg) h2
end
def Ba{α:Type}[Inhabited α]{l:List α}{k:Nat}(h:k<l.length):l.getD k default∈l:=by
 have:l.getD k default=l[k]:=Lh;rw[this];exact FZ h
def CY{α:Type}[Inhabited α](l:List α)(k:Nat)(h:k<l.length):l.take (k+1)=l.take k++[l.getD k default]:=by
 rw[aC,BP h,B5,BP h];rfl
def Uu{α:Type}[Inhabited α](p:α->Bool)(l:List α)(k:Nat)(h:k<l.length):(l.take (k+1)).all p=((l.take k).all p&&p (l.getD k default)):=by
 rw[CY l k h,Vo];simp only[Sy,List.all_nil,MT]
def XA{α:Type}[Inhabited α](p:α->Bool)(l:List α)(k:Nat)(h:k<l.length)(hp:p (l.getD k default)=false):l.all p=false:=by
 rw[Vc];exact⟨l[k],FZ h,by simpa[h] using hp⟩
def K_{α:Type}[Inhabited α](p:α->Bool)(l:List α)(k:Nat)(h:k<l.length):(l.take (k+1)).any p=((l.take k).any p||p (l.getD k default)):=by
 rw[CY l k h,aP];simp only[Kp,List.any_nil,Le]
def WY(n:Nat):(n:Int).toNat=n:=rfl
def Ei{x:D}{S:Sto}:Bg 0 (.d x) S (.d x) []:=Dh [] [] rfl Ht rfl rfl
def KY{x y:D}{S:Sto}:Bg 0 (.Aj [.d x,.d y]) S (.Aj [.d x,.d y]) []:=Dh [] [] rfl Ht rfl rfl
def ix{x y z:D}{S:Sto}:Bg 0 (.Aj [.d x,.d y,.d z]) S (.Aj [.d x,.d y,.d z]) []:=Dh [] [] rfl Ht rfl rfl
def Bg.trans{m:Nat}{r1 r2 r3:AV}{s1 s2 s3:Sto}(h:Bg m r1 s1 r2 s2)(k:Bg m r2 s2 r3 s3):Bg m r1 s1 r3 s3:=λw I L v h1 h2 h3=>by
 obtain⟨I1,μ1,a1,a2,a3⟩:=h w I L v h1 h2 h3;obtain⟨I2,μ2,b1,b2,b3⟩:=k w I1 μ1 v a1 a2 a3.len;exact⟨I2,μ2,b1,b2,a3.trans b3⟩
def Bc.trans{n m:Nat}{e1 e2 e3:Env}{s1 s2 s3:Sto}(h:Bc n m e1 s1 e2 s2)(k:Bc n m e2 s2 e3 s3):Bc n m e1 s1 e3 s3:=λw I L a h1 h2 h3=>by
 obtain⟨I1,μ1,a1,a2,a3⟩:=h w I L a h1 h2 h3;obtain⟨I2,μ2,b1,b2,b3⟩:=k w I1 μ1 a a1 a2 a3.len;exact⟨I2,μ2,b1,b2,a3.trans b3⟩
def Qba{m:Nat}{S:Sto}(es:Nat)(hm:m<=S.length):Bg m .AA S (.A8 S.length 0 0) (S++[.arr es []]):=λw I L v h1 h2 h3=>by
 obtain⟨μ',a1,a2⟩:=h1.Em es;cases h2;exact⟨I,μ',a1,.A8 _ _ 0 0 A6 (.inl ⟨rfl,none,rfl⟩),a2.mono hm⟩
def gK{S:Sto}(es:Nat):Bg 0 .AA S (.A8 0 0 0) [.arr es []]:=by
 refine(Qba es (Bq _)).trans (Dh [] [S.length] rfl A6 ?_ ?_)
 ·simp[BJ,DJ,Bn,freezeL]
 simp[C1,freezeL,A1,Ca]
def Eb{n m:Nat}{S:Sto}{env:Env}(t es:Nat)(h:Bl env t=.AA):Bc n m env S ((t,.A8 S.length 0 0)::env) (S++[.arr es []]):=λw I L a h1 h2 h3=>by
 obtain⟨μ',a1,a2⟩:=h1.Em es;refine⟨I,μ',a1,⟨h2.defers,h2.size,λt'=>?_⟩,a2.mono h3⟩;have h4:=h2.slot t';simp only[Bl];by_cases e:t=t'
 ·rw[AD e];subst e;rw[h] at h4;generalize a.tmps.getD t Go.undef=v at h4;cases h4;exact .A8 _ _ 0 0 A6 (.inl ⟨rfl,none,rfl⟩)
 rw[A7 e];exact h4.AH a2
def Xf{m:Nat}{S:Sto}{u:AV}(hd:u.Db S=true):Bg m u S (.d (u.A5 S)) (freezeL S u.refs):=λw I L v h1 h2 h3=>by
 obtain⟨I',a1,a2,a3,_⟩:=U6 h1 h2 hd;exact⟨I',L,a1,.d _ _ a3,a2.mono h3⟩
def uy{S:Sto}{u:AV}(hd:u.Db S=true):Bg 0 u S (.d (u.A5 S)) []:=(Xf hd).trans Ei
def Hi{S:Sto}{u:AV}{x:D}(hd:u.Db S=true)(hx:u.A5 S=x):Bg 0 u S (.d x) []:=by subst hx;exact uy hd
def x_{n m:Nat}{S:Sto}{env:Env}(t:Nat)(hd:(Bl env t).Db S=true):Bc n m env S ((t,.d ((Bl env t).A5 S))::env) (freezeL S (Bl env t).refs):=λw I L a h1 h2 h3=>by
 obtain⟨I',a1,a2,a3,_⟩:=U6 h1 (h2.slot t) hd;refine⟨I',L,a1,⟨h2.defers,h2.size,λt'=>?_⟩,a2.mono h3⟩;simp only[Bl];by_cases e:t=t'
 ·subst e;rw[AD rfl];exact .d _ _ a3
 rw[A7 e];exact(h2.slot t').AH a2
def Q15(S:Sto)(t1 t2:TypeId)(s x:AV):Qr P S t1 t2 s x=(match B_ P t1 with
 | some e=>match tsz P e,E_ P e,Bj P e with
  | some es,some CD,some z=>0<es/\z.cells.size=es/\(B_ P t2).isSome=true/\SZ S es s/\Hg S es x/\(s.len+(x.elems S).length)*CD<=140737488355328/\s.len+(x.elems S).length<=4611686018427387904
  | _,_,_=>False
 | none=>False):=by unfold Qr;rfl
def Bh(f:Nat->Int):Nat->Int
 | 0=>0
 | k+1=>if Bh f k=0 then f k else Bh f k
def HR{f:Nat->Int}{k:Nat}(h:Bh f k=0)(he:f k=0):Bh f (k+1)=0:=by simp[Bh,h,he]
def Ga{f:Nat->Int}{k:Nat}(h:Bh f k=0)(he:f k≠0):∀{n:Nat},k<n->Bh f n=f k:=by
 intro n hn
 induction n with
 | zero=>omega
 | succ n ih=>
  by_cases e:k=n
  ·subst e;simp[Bh,h]
  rw[Bh,ih oo,A7 he]
def MH{f:Nat->Int}{n:Nat}(h:Bh f n=0):∀k,k<n->f k=0:=by
 induction n with
 | zero=>intro k hk;omega
 | succ n ih=>
  rw[Bh] at h;by_cases e:Bh f n=0
  ·rw[AD e] at h;intro k hk;by_cases e2:k=n
   ·subst e2;exact h
   exact ih e k oo
  rw[A7 e] at h;exact absurd h e
def Om{f:Nat->Int}{n:Nat}(h:∀k,k<n->f k=0):Bh f n=0:=by
 induction n with
 | zero=>rfl
 | succ n ih=>exact HR (ih λk hk=>h k oo) (h n oo)
def pq(a b:Bool):(a=true->b=true->(a&&b)=true)=True:=by cases a<;>cases b<;>simp
def pw(a:Bool):(a=false->(!a)=true)=True:=by cases a<;>simp
def px(a b:Bool):(a=true->b=false->(a&&!b)=true)=True:=by cases a<;>cases b<;>simp
def xe{α:Type}(f:α->D)(l:List α)(p:D->Prop):(∀x,x∈l.map f->p x)=∀y,y∈l->p (f y):=A6
def Bau:(∀i o k es S,SZ S es (.A8 i o k)=((A1 S i).BN=true/\(A1 S i).es=es))/\(∀es S,SZ S es .AA=True)/\(∀i o k es S,Hg S es (.A8 i o k)=((A1 S i).AY=true/\(A1 S i).es=es))/\(∀es S,Hg S es .AA=True)/\(∀xs es S,Hg S es (.d (.sl xs))=∀x∈xs,x.cells.length=es)/\(∀(s:AV)(x:AV)(S:Sto),apV S s x=.A8 S.length 0 (s.len+(x.elems S).length))/\(∀P(s:AV)(x:AV)S t,apS P S t s x=Dr S s++[.arr (D2 P t) (s.elems S++x.elems S)])/\(∀i o k(S:Sto),Dr S (.A8 i o k)=S.set i .dead)/\(∀S,Dr S .AA=S)/\(∀l,(AV.d (.str l)).strOf=l)/\(∀l,(AV.d (.str l)).Fz=true)/\(∀(a:D)b r s,EX (a::r) (b::s)=(a.HW b&&EX r s))/\(EX [] []=true)/\(∀k k' a b,(D.int k a).HW (.int k' b)=(a==b))/\(∀a b,(D.str a).HW (.str b)=(a==b))/\(∀c cs(a:D)b r s,G8 (c::cs) (a::r) (b::s)=(a.IT c b&&G8 cs r s))/\(G8 [] [] []=true)/\(∀k k' a b,(D.int k a).IT 0 (.int k' b)=decide (k=k'))/\(∀a b,(D.str a).IT 2 (.str b)=true)/\(∀(lo:Int)(hi:Int)(l:List D),slV lo hi (.d (.sl l))=.d (.sl ((l.take hi.toNat).drop lo.toNat)))/\(∀(lo:Int)(hi:Int)i o k,slV lo hi (.A8 i o k)=.A8 i (o+lo.toNat) (hi.toNat-lo.toNat))/\(∀P t S lo hi(xs:List D),LP P t S lo hi (.d (.sl xs))=(((Cn P t).isSome=true/\(B_ P t).isSome=true)/\0<=lo/\lo<=hi/\hi<=xs.length/\(match Cn P t with|some (_,es)=>∀x∈xs,x.cells.length=es|none=>False)))/\(∀P t S lo hi i o k,LP P t S lo hi (.A8 i o k)=((B_ P t).isSome=true/\0<=lo/\lo<=hi/\hi<=k/\(A1 S i).B7=true/\Cn P t=some (none,(A1 S i).es))):=Et
def jB:=aI (aI @Q15 (aI Bau @pq)) (aI @pw (aI @px @xe))
end Go.AM


namespace Go.AM
def El(es:Nat)(x:D):Prop:=x.isAgg=true/\x.cells.length=es
structure Arr(Dm:D->Prop)(xs ys:List D)(π:Nat->Nat):Prop where
 len:ys.length=xs.length
 el:∀y∈ys,Dm y
 get:∀i,i<xs.length->ys.getD i default=xs.getD (π i) default
def El.at{Dm:D->Prop}{es:Nat}(hD:∀x,Dm x->El es x){ys:List D}(h:∀y∈ys,Dm y){i:Nat}(hi:i<ys.length):(ys.getD i default).isAgg=true/\(ys.getD i default).cells.length=es:=by
 exact b_
def Arr.refl{Dm:D->Prop}{xs:List D}(h:∀y∈xs,Dm y):Arr Dm xs xs (λi=>i):=⟨rfl,h,λ_ _=>rfl⟩
def Arr.congr{Dm:D->Prop}{xs ys:List D}{W G:Nat->Nat}(h:Arr Dm xs ys W)(e:∀i,i<xs.length->W i=G i):Arr Dm xs ys G:=
 ⟨h.len,h.el,λi hi=>by rw[<-e i hi];exact h.get i hi⟩
def Arr.trans{Dm:D->Prop}{xs ys zs:List D}{W G:Nat->Nat}(h:Arr Dm xs ys W)(k:Arr Dm ys zs G)(hρ:∀i,i<xs.length->G i<xs.length):Arr Dm xs zs (λi=>W (G i)):=
 ⟨k.len.trans h.len,k.el,λi hi=>by rw[k.get i (by rw[h.len];exact hi),h.get _ (hρ i hi)]⟩
def Arr.at{Dm:D->Prop}{xs ys:List D}{W:Nat->Nat}(h:Arr Dm xs ys W){i:Nat}(hi:i<xs.length):Dm (ys.getD i default):=by
 have hl:=h.len;have:ys.getD i default=ys[i]' oo:=by simp[show i<ys.length by omega]
 rw[this];exact h.el _ (FZ _)
def Arr.swap{Dm:D->Prop}{xs ys:List D}{W:Nat->Nat}(h:Arr Dm xs ys W){i j:Nat}(hi:i<xs.length)(hj:j<xs.length):
  Arr Dm xs ((ys.set i (ys.getD j default)).set j (ys.getD i default)) (λp=>if p=j then W i else if p=i then W j else W p):=by
 have hl:=h.len;have mem:∀k,k<xs.length->ys.getD k default∈ys:=λk hk=>by
  have:ys.getD k default=ys[k]' oo:=by simp[show k<ys.length by omega]
  rw[this];exact FZ _
 refine⟨by simp[hl],λy hy=>?_,λp hp=>?_⟩
 ·rcases MZ hy with hy|rfl
  ·rcases MZ hy with hy|rfl
   ·exact h.el y hy
   exact h.el _ (mem j hj)
  exact h.el _ (mem i hi)
 rw[B5,H_];by_cases e1:j=p
 ·subst e1;rw[AD rfl,AD (by simp[hl];exact hj),AD rfl];simp only[EA];exact h.get i hi
 rw[A7 e1,A7 (λe=>e1 e.symm),H_];by_cases e2:i=p
 ·subst e2;rw[AD rfl,AD oo,AD rfl];simp only[EA];exact h.get j hj
 rw[A7 e2,A7 (λe=>e2 e.symm),<-B5];exact h.get p hp
def Hh(a b k i:Nat):Nat:=if a<=i/\i<a+k then b+(i-a) else if b<=i/\i<b+k then a+(i-b) else i
def Qbi(a b k i:Nat)(h:a+(k+1)<=b\/b+(k+1)<=a):(if i=b+k then Hh a b k (a+k) else if i=a+k then Hh a b k (b+k) else Hh a b k i)=Hh a b (k+1) i:=by
 unfold Hh
 repeat' split
 all_goals omega
def G7(a m b i:Nat):Nat:=if i<a\/b<=i then i else if i<a+(b-m) then i+(m-a) else i-(b-m)
structure Mv(a b:Nat)(π ρ:Nat->Nat):Prop where
 out:∀p,p<a\/b<=p->ρ p=π p
 Gs:∀p,a<=p->p<b->∃q,a<=q/\q<b/\ρ p=π q
def Mv.refl(a b:Nat)(W:Nat->Nat):Mv a b W W:=⟨λ_ _=>rfl,λp h1 h2=>⟨p,h1,h2,rfl⟩⟩
def Mv.trans{a b:Nat}{W G T:Nat->Nat}(h:Mv a b W G)(k:Mv a b G T):Mv a b W T:=
 ⟨λp hp=>(k.out p hp).trans (h.out p hp),λp h1 h2=>by
  obtain⟨q,q1,q2,q3⟩:=k.Gs p h1 h2
  obtain⟨r,r1,r2,r3⟩:=h.Gs q q1 q2
  exact⟨r,r1,r2,q3.trans r3⟩⟩
def Mv.mono{a b c d:Nat}{W G:Nat->Nat}(h:Mv a b W G)(h1:c<=a)(h2:b<=d):Mv c d W G:=
 ⟨λp hp=>h.out p oo,λp p1 p2=>by
  by_cases hp:a<=p/\p<b
  ·obtain⟨q,q1,q2,q3⟩:=h.Gs p hp.1 hp.2;exact⟨q,oo,oo,q3⟩
  exact⟨p,p1,p2,h.out p oo⟩⟩
def Mv.bound{a b N:Nat}{W G:Nat->Nat}(h:Mv a b W G)(hb:b<=N)(hπ:∀p,p<N->W p<N):∀p,p<N->G p<N:=λp hp=>by
 by_cases hq:a<=p/\p<b
 ·obtain⟨q,_,q2,q3⟩:=h.Gs p hq.1 hq.2;rw[q3];exact hπ q oo
 rw[h.out p oo];exact hπ p hp
structure Swo(Dm:D->Prop)(lt:D->D->Bool):Prop where
 Qc:∀x,Dm x->lt x x=false
 trans:∀x y z,Dm x->Dm y->Dm z->lt x y=true->lt y z=true->lt x z=true
 neg:∀x y z,Dm x->Dm y->Dm z->lt x y=false->lt y z=false->lt x z=false
def Lx(lt:D->D->Bool)(xs:List D)(i j:Nat):Prop:=lt (xs.getD i default) (xs.getD j default)=true\/(lt (xs.getD j default) (xs.getD i default)=false/\i<j)
section
variable {Dm:D->Prop} {lt:D->D->Bool} {xs:List D}
def SY(hx:∀y∈xs,Dm y){i:Nat}(hi:i<xs.length):Dm (xs.getD i default):=(Arr.refl hx).at hi
def Lx.asymm(h:Swo Dm lt)(hx:∀y∈xs,Dm y){i j:Nat}(hi:i<xs.length)(hj:j<xs.length)(h1:Lx lt xs i j)(h2:Lx lt xs j i):False:=by
 have di:=SY hx hi;have dj:=SY hx hj;rcases h1 with h1|⟨h1,l1⟩<;>rcases h2 with h2|⟨h2,l2⟩
 ·have:=h.trans _ _ _ di dj di h1 h2;rw[h.Qc _ di] at this;cases this
 ·rw[h1] at h2;cases h2
 ·rw[h1] at h2;cases h2
 omega
def Lx.trans(h:Swo Dm lt)(hx:∀y∈xs,Dm y){i j k:Nat}(hi:i<xs.length)(hj:j<xs.length)(hk:k<xs.length)(h1:Lx lt xs i j)(h2:Lx lt xs j k):Lx lt xs i k:=by
 have di:=SY hx hi;have dj:=SY hx hj;have dk:=SY hx hk;unfold Lx at *;cases e1:lt (xs.getD i default) (xs.getD k default) with
 | true=>exact .inl rfl
 | false=>
  right;rcases h1 with h1|⟨h1,l1⟩<;>rcases h2 with h2|⟨h2,l2⟩
  ·rw[h.trans _ _ _ di dj dk h1 h2] at e1;cases e1
  ·exfalso;have:=h.neg _ _ _ di dk dj e1 h2;rw[h1] at this;cases this
  ·exfalso;have:=h.neg _ _ _ dj di dk h1 e1;rw[h2] at this;cases this
  exact⟨h.neg _ _ _ dk dj di h2 h1,oo⟩
def Lx.tag{i j:Nat}(hij:j<i):Lx lt xs i j↔lt (xs.getD i default) (xs.getD j default)=true:=by
 unfold Lx;constructor
 ·rintro(h|⟨_,h⟩)
  ·exact h
  omega
 exact .inl
def Lx.Lr{i j:Nat}(hij:j<i):Lx lt xs j i↔lt (xs.getD i default) (xs.getD j default)=false\/lt (xs.getD j default) (xs.getD i default)=true:=by
 unfold Lx;constructor
 ·rintro(h|⟨h,_⟩)
  ·exact .inr h
  exact .inl h
 rintro(h|h)
 ·exact .inr ⟨h,hij⟩
 exact .inl h
end
end Go.AM


namespace Go.AM
variable {Dm:D->Prop} {lt:D->D->Bool} {xs:List D} {π ρ κ:Nat->Nat} {a m b:Nat}
def DP(lt:D->D->Bool)(xs:List D)(a b:Nat)(π:Nat->Nat):Prop:=∀p q,a<=p->p<q->q<b->Lx lt xs (π p) (π q)
def Q61(a b:Nat)(π:Nat->Nat):Prop:=∀p q,a<=p->p<q->q<b->π p<π q
def Nn(a m b:Nat)(π:Nat->Nat):Prop:=∀p q,a<=p->p<m->m<=q->q<b->π p<π q
def qg(hm:m=a+1){i:Nat}(h1:m<=i)(h2:i<=b)(hS:DP lt xs m b π)(hL:∀q,m<=q->q<i->Lx lt xs (π q) (π a))(hR:∀q,i<=q->q<b->Lx lt xs (π a) (π q))
  (k1:∀p,a<=p->p<i-1->κ p=π (p+1)) (k2:κ (i-1)=π a) (k3:∀p,p<a\/i<=p->κ p=π p):Mv a b π κ/\DP lt xs a b κ:=by
 refine⟨⟨λp hp=>k3 p oo,λp p1 p2=>?_⟩,λp q h3 h4 h5=>?_⟩
 ·rcases HA p (i-1) with h|h|h
  ·exact⟨p+1,oo,oo,k1 p p1 h⟩
  ·exact⟨a,oo,oo,by rw[h,k2]⟩
  exact⟨p,p1,p2,k3 p oo⟩
 rcases HA q (i-1) with h|h|h
 ·rw[k1 p h3 oo,k1 q oo h];exact hS _ _ oo oo oo
 ·rw[k1 p h3 oo,h,k2];exact hL _ oo oo
 rw[k3 q oo];rcases HA p (i-1) with h'|h'|h'
 ·rw[k1 p h3 h'];exact hS _ _ oo oo oo
 ·rw[h',k2];exact hR q oo h5
 rw[k3 p oo];exact hS _ _ oo h4 h5
def qp(hm:b=m+1){i:Nat}(h1:a<=i)(h2:i<=m)(hS:DP lt xs a m π)(hL:∀q,a<=q->q<i->Lx lt xs (π q) (π m))(hR:∀q,i<=q->q<m->Lx lt xs (π m) (π q))
  (k1:∀p,i<p->p<=m->κ p=π (p-1)) (k2:κ i=π m) (k3:∀p,p<i\/m<p->κ p=π p):Mv a b π κ/\DP lt xs a b κ:=by
 refine⟨⟨λp hp=>k3 p oo,λp p1 p2=>?_⟩,λp q h3 h4 h5=>?_⟩
 ·rcases HA p i with h|h|h
  ·exact⟨p,p1,p2,k3 p oo⟩
  ·exact⟨m,oo,oo,by rw[h,k2]⟩
  exact⟨p-1,oo,oo,k1 p h oo⟩
 rcases HA p i with h|h|h
 ·rw[k3 p (.inl h)];rcases HA q i with h'|h'|h'
  ·rw[k3 q (.inl h')];exact hS _ _ h3 h4 oo
  ·rw[h',k2];exact hL p h3 h
  rw[k1 q h' oo];exact hS _ _ h3 oo oo
 ·rw[h,k2,k1 q oo oo];exact hR _ oo oo
 rw[k1 p h oo,k1 q oo oo];exact hS _ _ oo oo oo
def Qeg{s e d:Nat}(h1:a<=s)(h2:s<=m)(h3:m<=e)(h4:e<=b)(hd:d=s+(e-m))(hS1:DP lt xs a m π)(hS2:DP lt xs m b π)(hT:Nn a m b π)
  (F1:∀x y,a<=x->x<s->e<=y->y<b->Lx lt xs (π x) (π y)) (F2:∀x y,m<=x->x<e->s<=y->y<m->Lx lt xs (π x) (π y))
  (hρ:∀p,a<=p->p<b->ρ p=π (G7 s m e p)) (ho:∀p,p<a\/b<=p->ρ p=π p) :
  Mv a b π ρ/\DP lt xs a s ρ/\DP lt xs s d ρ/\DP lt xs d e ρ/\DP lt xs e b ρ/\Nn a s d ρ/\Nn d e b ρ/\(∀p q,a<=p->p<d->d<=q->q<b->Lx lt xs (ρ p) (ρ q)):=by
 have r1:∀p,a<=p->p<s->ρ p=π p:=λp g1 g2=>by
  rw[hρ p g1 oo];congr 1;unfold G7;rw[AD oo]
 have r2:∀p,s<=p->p<d->ρ p=π (p+(m-s)):=λp g1 g2=>by
  rw[hρ p oo oo];congr 1;unfold G7;rw[A7 oo,AD oo]
 have r3:∀p,d<=p->p<e->ρ p=π (p-(e-m)):=λp g1 g2=>by
  rw[hρ p oo oo];congr 1;unfold G7;rw[A7 oo,A7 oo]
 have r4:∀p,e<=p->p<b->ρ p=π p:=λp g1 g2=>by
  rw[hρ p oo oo];congr 1;unfold G7;rw[AD oo]
 refine⟨⟨ho,λp g1 g2=>?_⟩,λp q g1 g2 g3=>?_,λp q g1 g2 g3=>?_,λp q g1 g2 g3=>?_,λp q g1 g2 g3=>?_,λp q g1 g2 g3 g4=>?_,λp q g1 g2 g3 g4=>?_,λp q g1 g2 g3 g4=>?_⟩
 ·by_cases c1:p<s
  ·exact⟨p,g1,g2,r1 p g1 c1⟩
  by_cases c2:p<d
  ·exact⟨_,oo,oo,r2 p oo c2⟩
  by_cases c3:p<e
  ·exact⟨_,oo,oo,r3 p oo c3⟩
  exact⟨p,g1,g2,r4 p oo g2⟩
 ·rw[r1 p g1 oo,r1 q oo g3];exact hS1 _ _ g1 g2 oo
 ·rw[r2 p g1 oo,r2 q oo g3];exact hS2 _ _ oo oo oo
 ·rw[r3 p g1 oo,r3 q oo g3];exact hS1 _ _ oo oo oo
 ·rw[r4 p g1 oo,r4 q oo g3];exact hS2 _ _ oo g2 g3
 ·rw[r1 p g1 g2,r2 q g3 g4];exact hT _ _ g1 oo oo oo
 ·rw[r3 p g1 g2,r4 q g3 g4];exact hT _ _ oo oo oo g4
 by_cases c1:p<s
 ·rw[r1 p g1 c1];by_cases c3:q<e
  ·rw[r3 q g3 c3];exact hS1 _ _ g1 oo oo
  rw[r4 q oo g4];exact F1 _ _ g1 c1 oo g4
 rw[r2 p oo g2];by_cases c3:q<e
 ·rw[r3 q g3 c3];exact F2 _ _ oo oo oo oo
 rw[r4 q oo g4];exact hS2 _ _ oo oo g4
def dE{d:Nat}{κ1 κ2:Nat->Nat}(h1:a<=d)(h2:d<=b)(hM:Mv a b π ρ)(m1:Mv a d ρ κ1)(s1:DP lt xs a d κ1)(m2:Mv d b κ1 κ2)(s2:DP lt xs d b κ2)
  (hX:∀p q,a<=p->p<d->d<=q->q<b->Lx lt xs (ρ p) (ρ q)):Mv a b π κ2/\DP lt xs a b κ2:=by
 refine⟨(hM.trans (m1.mono (AR _) h2)).trans (m2.mono h1 (AR _)),λp q g1 g2 g3=>?_⟩;by_cases c1:q<d
 ·rw[m2.out p oo,m2.out q oo];exact s1 p q g1 g2 c1
 by_cases c2:p<d
 ·rw[m2.out p oo];obtain⟨p',p1,p2,p3⟩:=m1.Gs p g1 c2;obtain⟨q',q1,q2,q3⟩:=m2.Gs q oo g3;rw[p3,q3,m1.out q' oo];exact hX _ _ p1 p2 q1 q2
 exact s2 p q oo g2 g3
def sJ{p s s0 r0 e:Nat}(hw:Swo Dm lt)(hx:∀y∈xs,Dm y)(hπ:∀i,i<xs.length->π i<xs.length)(hb:b<=xs.length)(hS1:DP lt xs a m π)(hS2:DP lt xs m b π)
  (h1:a<=s0) (h2:s0<=s) (h3:s<=r0) (h4:r0<=m) (he:e=p+1-s) (hem:m<=e) (heb:e<=b) (hps:r0<=p+1)
  (hlo:s0=a\/e=b\/s0<s) (hhi:r0=m\/e=m\/s<r0)
  (hA:s0<s->Lx lt xs (π (s-1)) (π (p-(s-1)))) (hB:s<r0->Lx lt xs (π (p-s)) (π s)) (hlo2:s0=s->s0=a\/e=b) (hhi2:s=r0->r0=m\/e=m) :
  (∀x y,a<=x->x<s->e<=y->y<b->Lx lt xs (π x) (π y))/\(∀x y,m<=x->x<e->s<=y->y<m->Lx lt xs (π x) (π y)):=by
 constructor
 ·intro x y g1 g2 g3 g4;rcases B9 s0 s with c|c
  ·have hh:=hA c;have e1:p-(s-1)=e:=oo;rw[e1] at hh;have t1:x=s-1\/Lx lt xs (π x) (π (s-1)):=by
    by_cases c':x=s-1
    ·exact .inl c'
    exact .inr (hS1 _ _ g1 oo oo)
   have t2:Lx lt xs (π x) (π e):=by
    rcases t1 with t1|t1
    ·rw[t1];exact hh
    exact Lx.trans hw hx (hπ _ oo) (hπ _ oo) (hπ _ oo) t1 hh
   by_cases c':y=e
   ·rw[c'];exact t2
   exact Lx.trans hw hx (hπ _ oo) (hπ _ oo) (hπ _ oo) t2 (hS2 _ _ hem oo g4)
  rcases hlo2 oo with h|h<;>omega
 intro x y g1 g2 g3 g4;rcases B9 s r0 with c|c
 ·have hh:=hB c;have e1:p-s=e-1:=oo;rw[e1] at hh;have t2:Lx lt xs (π x) (π s):=by
   by_cases c':x=e-1
   ·rw[c'];exact hh
   exact Lx.trans hw hx (hπ _ oo) (hπ _ oo) (hπ _ oo) (hS2 _ _ g1 oo oo) hh
  by_cases c':y=s
  ·rw[c'];exact t2
  exact Lx.trans hw hx (hπ _ oo) (hπ _ oo) (hπ _ oo) t2 (hS1 _ _ oo oo g4)
 rcases hhi2 oo with h|h<;>omega
def gz{c d h k:Nat}(hw:Swo Dm lt)(hx:∀y∈xs,Dm y)(hπ:∀i,i<xs.length->π i<xs.length)(hd:d<=xs.length)(hk:k<xs.length)(hS:DP lt xs c d π)(h1:c<=h)(h2:h<d)(hl:Lx lt xs (π h) k):∀q,c<=q->q<h+1->Lx lt xs (π q) k:=by
 intro q g1 g2;by_cases e:q=h
 ·rw[e];exact hl
 exact Lx.trans hw hx (hπ _ oo) (hπ _ oo) hk (hS _ _ g1 oo h2) hl
def jk{c d h k:Nat}(hw:Swo Dm lt)(hx:∀y∈xs,Dm y)(hπ:∀i,i<xs.length->π i<xs.length)(hd:d<=xs.length)(hk:k<xs.length)(hS:DP lt xs c d π)(h1:c<=h)(h2:h<d)(hl:Lx lt xs k (π h)):∀q,h<=q->q<d->Lx lt xs k (π q):=by
 intro q g1 g2;by_cases e:q=h
 ·rw[e];exact hl
 exact Lx.trans hw hx hk (hπ _ oo) (hπ _ oo) hl (hS _ _ h1 oo g2)
end Go.AM


namespace Go.AM
variable {Dm:D->Prop} {lt:D->D->Bool} {xs:List D} {π ρ κ:Nat->Nat}
def Cut(s p:Nat):Prop:=∃j,p=j*s
def Cut.zero(s:Nat):Cut s 0:=⟨0,A6⟩
def Cut.next{s p:Nat}(h:Cut s p):Cut s (p+s):=by
 obtain⟨j,rfl⟩:=h;exact⟨j+1,bA⟩
def Cut.half{s p:Nat}(h:Cut (2*s) p):Cut s p:=by
 obtain⟨j,rfl⟩:=h;exact⟨j*2,by rw[Nat.mul_assoc]⟩
def Cut.Qb{s p:Nat}(h:Cut (2*s) p):Cut s (p+s):=h.half.next
def Cut.ge{s p q:Nat}(h:Cut s p)(k:Cut s q)(hl:p<q):p+s<=q:=by
 obtain⟨i,rfl⟩:=h;obtain⟨j,rfl⟩:=k;have h1:i<j:=by
  rcases B9 i j with h|h
  ·exact h
  have:=EC s h;omega
 have h2:(i+1)*s<=j*s:=EC s h1;rw[E8] at h2;omega
structure Blo(lt:D->D->Bool)(xs:List D)(c d:Nat)(ρ:Nat->Nat):Prop where
 Gs:∀p,c<=p->p<d->c<=ρ p/\ρ p<d
 sort:DP lt xs c d ρ
def HT(lt:D->D->Bool)(xs:List D)(s n lo hi:Nat)(ρ:Nat->Nat):Prop:=∀c,Cut s c->lo<=c->c<hi->Blo lt xs c (min (c+s) n) ρ
def Blo.out{a b c d:Nat}(h:Blo lt xs c d ρ)(hM:Mv a b ρ κ)(hd:d<=a\/b<=c):Blo lt xs c d κ:=
 ⟨λp h1 h2=>by rw[hM.out p oo];exact h.Gs p h1 h2,λp q h1 h2 h3=>by rw[hM.out p oo,hM.out q oo];exact h.sort p q h1 h2 h3⟩
def Blo.mv{c d:Nat}(hi:∀p,c<=p->p<d->c<=ρ p/\ρ p<d)(hM:Mv c d ρ κ)(hS:DP lt xs c d κ):Blo lt xs c d κ:=
 ⟨λp h1 h2=>by obtain⟨q,q1,q2,q3⟩:=hM.Gs p h1 h2;rw[q3];exact hi q q1 q2,hS⟩
def gr{s n a b:Nat}(hs:0<s)(ha:Cut s a)(hb:b=min (a+s) n)(hB:HT lt xs s n 0 a ρ)(hid:∀p,a<=p->ρ p=p)(hM:Mv a b ρ κ)(hS:DP lt xs a b κ):
  HT lt xs s n 0 (a+1) κ/\(∀p,b<=p->a<=p->κ p=p):=by
 refine⟨λc hc h1 h2=>?_,λp h1 h2=>by rw[hM.out p oo];exact hid p h2⟩;by_cases e:c=a
 ·subst e;rw[<-hb];exact Blo.mv (λp h1 h2=>by rw[hid p h1];omega) hM hS
 have:=hc.ge ha oo;exact(hB c hc h1 oo).out hM oo
def Ub{s n a a':Nat}(ha:Cut s a)(h:HT lt xs s n 0 (a+1) ρ)(he:a'<=a+s):HT lt xs s n 0 a' ρ:=λc hc h1 h2=>by
 rcases HA c a with h'|h'|h'
 ·exact h c hc h1 oo
 ·exact h c hc h1 oo
 have:=ha.ge hc h';omega
def XP{s n a b:Nat}(ha:Cut (2*s) a)(hs:0<s)(hm:a+s<b)(hb:b=min (a+2*s) n)(hB:HT lt xs s n a n ρ):
  DP lt xs a (a+s) ρ/\DP lt xs (a+s) b ρ/\Nn a (a+s) b ρ/\(∀p,a<=p->p<b->a<=ρ p/\ρ p<b):=by
 have h1:=hB a ha.half (AR _) oo;have h2:=hB (a+s) ha.Qb oo oo;have e1:min (a+s) n=a+s:=oo;have e2:min (a+s+s) n=b:=oo;rw[e1] at h1;rw[e2] at h2;refine⟨h1.sort,h2.sort,λp q p1 p2 q1 q2=>?_,λp p1 p2=>?_⟩
 ·have:=h1.Gs p p1 p2;have:=h2.Gs q q1 q2;omega
 by_cases h:p<a+s
 ·have:=h1.Gs p p1 h;omega
 have:=h2.Gs p oo p2;omega
def dG{s n a b:Nat}(ha:Cut (2*s) a)(hs:0<s)(hm:a+s<b)(hb:b=min (a+2*s) n)(hB:HT lt xs s n a n ρ)(hD:HT lt xs (2*s) n 0 a ρ)(hM:Mv a b ρ κ)(hS:DP lt xs a b κ):
  HT lt xs s n (a+2*s) n κ/\HT lt xs (2*s) n 0 (a+1) κ:=by
 obtain⟨_,_,_,hin⟩:=XP ha hs hm hb hB;refine⟨λc hc h1 h2=>(hB c hc oo h2).out hM (.inr oo),λc hc h1 h2=>?_⟩;by_cases e:c=a
 ·subst e;rw[<-hb];exact Blo.mv hin hM hS
 have:=hc.ge ha oo;exact(hD c hc h1 oo).out hM oo
def rz{s n a:Nat}(ha:Cut (2*s) a)(hs:0<s)(hm:n<=a+s)(hB:HT lt xs s n a n ρ)(hD:HT lt xs (2*s) n 0 a ρ):HT lt xs (2*s) n 0 n ρ:=λc hc h1 h2=>by
 rcases HA c a with h'|h'|h'
 ·exact hD c hc h1 h'
 ·subst h';have:=hB c ha.half (AR _) h2;rw[show min (c+2*s) n=min (c+s) n by omega];exact this
 have:=ha.ge hc h';omega
def xw{s n:Nat}(hn:n<=s)(h:HT lt xs s n 0 n ρ):Blo lt xs 0 n ρ:=by
 by_cases e:n=0
 ·subst e;exact⟨λp _ h=>oo,λp q _ _ h=>oo⟩
 have:=h 0 (Cut.zero s) (AR _) oo
 rwa [show min (0+s) n=n by omega] at this
def et{α:Type}{R:α->α->Prop}:∀{l1 l2:List α},(∀x∈l1,∀y∈l1,R x y->R y x->False)->l1.Pairwise R->l2.Pairwise R->(∀a,a∈l1↔a∈l2)->l1=l2
 | [],[],_,_,_,_=>rfl
 | [],b::l2,_,_,_,h=>by have:=(h b).2 DE;cases this
 | a::l1,[],_,_,_,h=>by have:=(h a).1 DE;cases this
 | a::l1,b::l2,hA,h1,h2,h=>by
  rw[IV] at h1 h2;have hb:b∈a::l1:=(h b).2 DE;have e:a=b:=by
   apply PY;intro hne;have m1:b∈l1:=by
    rcases Bw.1 hb with e|h'
    ·exact absurd e.symm hne
    exact h'
   have m2:a∈l2:=by
    rcases Bw.1 ((h a).1 DE) with e|h'
    ·exact absurd e hne
    exact h'
   exact hA a DE b hb (h1.1 b m1) (h2.1 a m2)
  subst e;congr 1;refine et (λx hx y hy=>hA x (Cy _ hx) y (Cy _ hy)) h1.2 h2.2 λx=>⟨λhx=>?_,λhx=>?_⟩
  ·rcases Bw.1 ((h x).1 (Cy _ hx)) with e|h'
   ·subst e;exact(hA x DE x DE (h1.1 x hx) (h1.1 x hx)).elim
   exact h'
  rcases Bw.1 ((h x).2 (Cy _ hx)) with e|h'
  ·subst e;exact(hA x DE x DE (h2.1 x hx) (h2.1 x hx)).elim
  exact h'
def fK:∀(n:Nat) (l:List Nat),l.Nodup->(∀x∈l,x<n)->l.length<=n
 | 0,l,_,h=>by
  cases l with
  | nil=>exact AR _
  | cons a l=>have:=h a DE;omega
 | n+1,l,hn,h=>by
  have h1:=fK n (l.erase n) (hn.erase n) λx hx=>by
   have hm:=List.mem_of_mem_erase hx;have:=h x hm;have:x≠n:=λe=>by
    subst e;exact(List.Nodup.not_mem_erase hn) hx
   omega
  have:=List.length_erase_le (a:=n) (l:=l);by_cases hm:n∈l
  ·rw[lC hm] at h1;omega
  rw[List.erase_of_not_mem hm] at h1;omega
def zZ{n:Nat}{l:List Nat}(hn:l.Nodup)(h:∀x∈l,x<n)(hl:l.length=n):∀i,i<n->i∈l:=λi hi=>by
 apply PY;intro hm;have:=fK n (i::l) (JW.2 ⟨hm,hn⟩) λx hx=>by
  rcases Bw.1 hx with rfl|hx
  ·exact hi
  exact h x hx
 simp at this;omega
def Jp(n:Nat)(ρ:Nat->Nat):List Nat:=(List.range n).map ρ
def eX{n:Nat}(h:DP lt xs 0 n ρ):(Jp n ρ).Pairwise (Lx lt xs):=by
 unfold Jp;rw[Hv];intro i j hi hj hij;simp only[BW,R9] at hi hj;simp only[H9,MW];exact h i j (Bq _) hij hj
def sy{n:Nat}(hw:Swo Dm lt)(hx:∀y∈xs,Dm y)(hb:Blo lt xs 0 n ρ)(hn:n<=xs.length):(Jp n ρ).Nodup:=by
 refine(eX hb.sort).imp_of_mem (S:=(·≠·)) λ{a b} ha hb' hL e=>?_;subst e;unfold Jp at ha;obtain⟨i,hi,rfl⟩:=C4.1 ha;have:=hb.Gs i (Bq _) Lj;exact Lx.asymm hw hx oo oo hL hL
def Xn{n:Nat}(hw:Swo Dm lt)(hx:∀y∈xs,Dm y)(hb:Blo lt xs 0 n ρ)(hn:n<=xs.length)(i:Nat):i∈Jp n ρ↔i<n:=by
 have hlt:∀x∈Jp n ρ,x<n:=λx hx=>by
  unfold Jp at hx;obtain⟨i,hi,rfl⟩:=C4.1 hx;exact(hb.Gs i (Bq _) Lj).2
 exact⟨hlt i,zZ (sy hw hx hb hn) hlt (by simp[Jp]) i⟩
def q_{n:Nat}(hw:Swo Dm lt)(hx:∀y∈xs,Dm y)(hb:Blo lt xs 0 n ρ)(hn:n<=xs.length){l:List Nat}(h1:l.Pairwise (Lx lt xs))(h2:∀i,i∈l↔i<n):Jp n ρ=l:=
 et (λi hi j hj a b=>Lx.asymm hw hx (by have:=(Xn hw hx hb hn i).1 hi;omega) (by have:=(Xn hw hx hb hn j).1 hj;omega) a b) (eX hb.sort) h1 λa=>by rw[Xn hw hx hb hn,h2]
end Go.AM
