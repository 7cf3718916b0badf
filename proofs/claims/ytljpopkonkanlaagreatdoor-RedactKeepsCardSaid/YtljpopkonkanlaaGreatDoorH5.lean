/- A part of the proof: contracts of functions of this seat, and lemmas. No condition beyond those stated. -/
import Derived.Test.YtljpopkonkanlaaGreatDoorH4
set_option linter.unusedVariables false
set_option linter.unusedSimpArgs false
set_option linter.unusedSectionVars false
set_option linter.unnecessarySimpa false
set_option maxRecDepth 100000
namespace Go.Proofs
open Go.AM Tryz Go.ChangeShapes Go.WideShapes Go.ChangeAt Go.RowKit
namespace YtljpopkonkanlaaGreatDoor
theorem Qkt {α:Type} [Inhabited α] (f:α→α) {L:List α} {k:Nat} (h:k<L.length):(L.map f).getD k default=f (L.getD k default):=by simp[h]
def Qzi (b:Bool) (x y:D):D:=if b=true then x else y
theorem qyv (x y:D):Qzi true x y=x:=rfl
theorem q5f (x y:D):Qzi false x y=y:=rfl
def zSl:D:=(default:qae).toD
def okR (r:qao):Bool:=!(r.action==qmk)
set_option maxHeartbeats 4000000 in
theorem Qpy (l:List qao) (t:qat) (hl:l.length≤maxLen) (hm:Qyg t):qbc prog G2 8 [.d (.sl (l.map qao.toD)),.d t.toD] (.d (.bool true)):=by
 refine qbc.of2 ?_
 refine qac func8 rfl rfl (by simp[ntmps8]) (qab rfl _ _ _ _ ?_)
 simp only[ntmps8,results8,qak,List.length_nil]
 simp only[zU,seval]
 refine qaf (Qu5 l t hl) ?_
 obtain⟨F,hF⟩:∃F,F=(decide (l.length≤50)&&Qhx t):=⟨_,rfl⟩
 have hFt:F=true→l.length≤50∧Qhx t=true:=fun h=>by
  rw[hF,Bool.and_eq_true,decide_eq_true_eq] at h
  exact h
 rw[←hF]
 simp only[zU,seval]
 repeat((with_reducible apply aI);exact sdp)
 refine qav (fun hg=>q3s t (qw3 (hFt (by simpa using hg)).2)) ?_
 simp only[zU,seval]
 repeat((with_reducible apply aI);exact sdp)
 refine qav (fun hg=>Qen t (q37 (hFt (by simp at hg;exact hg.1)).2).1) ?_
 simp only[zU,seval]
 repeat((with_reducible apply aI);exact sdp)
 refine ifC.mk (fun hr=>?_) (fun hr=>?_)
 ·refine qaf qi4 ?_
  simp only[zU,seval]
  exact⟨_,_,qaq,rfl,rfl⟩
 have hr:F=true∧qc6 t=0∧qpa t≠0:=by
  simp only[Bool.or_eq_false_iff,Bool.not_eq_false',bne_eq_false_iff_eq,beq_eq_false_iff_ne] at hr
  obtain⟨⟨a,b⟩,c⟩:=hr
  refine⟨a,b,?_⟩
  unfold qpa;unfold Qco at c;omega
 obtain⟨hFF,h1,hr⟩:=hr
 obtain⟨h0,hfew⟩:=hFt hFF
 obtain⟨ht,hs,hfr⟩:=q37 hfew
 have hf:=qw3 hfew
 have hsl:t.slices.length≤1000:=ht.2.1
 obtain⟨b1,b2,b3,b4,b5,b6,b7,b8⟩:=id ht
 have hk0:=qwn [] t (by simp) hf ht hs qi6 (fun _=>by omega)
 rw[Qt7 h1 hsl hr] at hk0
 (try simp only[zU,seval])
 refine q2b hk0 ?_
 show qar _ _ _ _ _ _ _ [.box 10 (.d t.toD)] _
 simp only[zU,seval]
 repeat((with_reducible apply aI);exact sdp)
 refine qav (fun _=>Qp4 t ht hs) ?_
 simp only[zU,seval]
 repeat((with_reducible apply aI);exact sdp)
 refine qap l.length (fun k=>[(0,.d (.sl (l.map qao.toD))),(3,.ptr 0 0),(7,.d (.int .i64 k))]) (fun _=>[.box 10 (.d t.toD)]) (fun k=>(l.take k).all okR=true) rfl ?_ ?_
 ·refine qaa [] [0] rfl (by simp) ?_ rfl
  simp only[zU,seval]
  all_goals rfl
 ·intro k hi hk
  by_cases h:k<l.length
  ·have hst:=qc1 okR l k h
   have eg:(l.map qao.toD).getD k default=(l.getD k default).toD:=qdz _ h
   simp only[zU,seval,(show(k:Int)<l.length by omega),h,eg]
   repeat((with_reducible apply aI);exact sdp)
   refine ifC.mk (fun hd=>?_) (fun hd=>?_)
   ·refine qaf qi4 ?_
    simp only[zU,seval]
    exact⟨_,_,qaq,rfl,rfl⟩
   ·have hd:okR (l.getD k default)=true:=by
     unfold okR
     rw[show((l.getD k default).action==qmk)=false from hd];rfl
    refine⟨by rw[hst,hi,hd];rfl,?_⟩
    refine qaa [] [0] rfl (by simp) ?_ rfl
    simp only[zU,seval,@qag ((k:Int)+1) (by omega)]
    all_goals rfl
  ·have:k=l.length:=by omega
   subst this
   rw[List.take_length,List.all_eq_true] at hi
   have hn:qsu l:=Qpn fun r hr=>by
    have:=hi r hr
    unfold okR at this
    simpa using this
   simp only[zU,seval,(show ¬(l.length:Int)<l.length by omega)]
   refine qaf (qwn l t (by omega) hf ht hs qi6 (fun _=>by omega)) ?_
   have hkeep:=Qol hn hsl hr
   obtain⟨R,hR⟩:∃R,R=qhi l t:=⟨_,rfl⟩
   rw[←hR] at hkeep ⊢
   simp only[zU,seval]
   refine ifC.mk (fun he=>?_) (fun he=>?_)
   ·refine qaf qi4 ?_
    simp only[zU,seval]
    exact⟨_,_,qaq,rfl,rfl⟩
   have he:R.2=0:=by simpa using he
   have hkeep:=hkeep he
   obtain⟨N,hN⟩:∃N,N=R.1:=⟨_,rfl⟩
   rw[←hN] at hkeep ⊢
   have e1:N.threads=t.threads.map (nnT (qd1 l qax (t.threads.map (·.name)))):=by rw[hkeep];rfl
   have e2:N.slices=t.slices.map (nnS (qd1 l qa5 (t.slices.map (·.name)))):=by rw[hkeep];rfl
   have e3:N.states=t.states:=by rw[hkeep];rfl
   have e4:N.flows=t.flows:=by rw[hkeep];rfl
   have e5:N.samples=t.samples.map (nnA (qd1 l qa4 (frN t))):=by rw[hkeep];rfl
   have e6:N.steps.length=t.steps.length:=by rw[hkeep];show(qfd ltT _).length=_;rw[qf8,List.length_map]
   have e7:N.blocks.length=t.blocks.length:=by rw[hkeep];show(t.blocks.map _).length=_;rw[List.length_map]
   have e8:N.lo=t.lo∧N.hi=t.hi:=by rw[hkeep];exact⟨rfl,rfl⟩
   have l1:N.threads.length=t.threads.length:=by rw[e1,List.length_map]
   have l2:N.slices.length=t.slices.length:=by rw[e2,List.length_map]
   have l5:N.samples.length=t.samples.length:=by rw[e5,List.length_map]
   (try simp only[zU,seval,l1,l2,e3,e4,l5,e6,e7,e8.1,e8.2,bne_self_eq_false,beq_self_eq_true,Bool.and_self,Bool.not_true])
   repeat((with_reducible apply aI);exact sdp)
   refine qap t.threads.length (fun k=>[(3,.ptr 0 0),(8,.ptr 1 0),(10,.d (.int .i64 k))]) (fun _=>[.box 10 (.d t.toD),.box 10 (.d N.toD)]) (fun _=>True) trivial ?_ ?_
   ·refine qaa [] [0,1] rfl (by simp) ?_ rfl
    simp only[zU,seval]
    all_goals rfl
   intro k _ hk
   by_cases h:k<t.threads.length
   ·have g1:(N.threads.map qai.toD).getD k default=(nnT (qd1 l qax (t.threads.map (·.name))) (t.threads.getD k default)).toD:=by rw[qdz _ (by omega),e1,Qkt _ h]
    have g2:(t.threads.map qai.toD).getD k default=(t.threads.getD k default).toD:=qdz _ h
    obtain⟨x,hx⟩:∃x,x=t.threads.getD k default:=⟨_,rfl⟩
    obtain⟨y,hy⟩:∃y,y=nnT (qd1 l qax (t.threads.map (·.name))) x:=⟨_,rfl⟩
    have n1:y.id=x.id:=by rw[hy];rfl
    rw[←hx] at g1 g2
    rw[←hy] at g1
    simp only[zU,seval,(show(k:Int)<t.threads.length by omega),h,l1,g1,g2,n1,bne_self_eq_false]
    repeat((with_reducible apply aI);exact sdp)
    refine qaa [] [0,1] rfl (by simp) ?_ rfl
    simp only[zU,seval,@qag ((k:Int)+1) (by omega)]
    all_goals rfl
   have:k=t.threads.length:=by omega
   subst this
   simp only[zU,seval,(show ¬(t.threads.length:Int)<t.threads.length by omega)]
   refine qap t.slices.length (fun k=>[(3,.ptr 0 0),(8,.ptr 1 0),(11,.d (.int .i64 k))]) (fun _=>[.box 10 (.d t.toD),.box 10 (.d N.toD)]) (fun _=>True) trivial ?_ ?_
   ·refine qaa [] [0,1] rfl (by simp) ?_ rfl
    simp only[zU,seval]
    all_goals rfl
   intro k _ hk2
   by_cases h:k<t.slices.length
   ·have g1:(N.slices.map qae.toD).getD k default=(nnS (qd1 l qa5 (t.slices.map (·.name))) (t.slices.getD k default)).toD:=by rw[qdz _ (by omega),e2,Qkt _ h]
    have g2:(t.slices.map qae.toD).getD k default=(t.slices.getD k default).toD:=qdz _ h
    obtain⟨x,hx⟩:∃x,x=t.slices.getD k default:=⟨_,rfl⟩
    obtain⟨y,hy⟩:∃y,y=nnS (qd1 l qa5 (t.slices.map (·.name))) x:=⟨_,rfl⟩
    have m1:y.thread=x.thread:=by rw[hy];rfl
    have m2:y.parent=x.parent:=by rw[hy];rfl
    have m3:y.depth=x.depth:=by rw[hy];rfl
    have m4:y.lo=x.lo:=by rw[hy];rfl
    have m5:y.hi=x.hi:=by rw[hy];rfl
    have m6:y.self=x.self:=by rw[hy];rfl
    have m7:y.open_=x.open_:=by rw[hy];rfl
    rw[←hx] at g1 g2
    rw[←hy] at g1
    simp only[zU,seval,(show(k:Int)<t.slices.length by omega),h,l2,g1,g2]
    have hkN:k<N.slices.length:=by omega
    refine⟨.inr (q16
      (fun L=>[(152,onV (L 0) (.ptr 1 3)),(153,onV (L 1) (.d (.sl (N.slices.map qae.toD)))),(154,onV (L 2) (.d (.int .i64 k))),(155,onV (L 3) (.eptr 8 (N.slices.map qae.toD) k 0)),(156,onV (L 4) (.d y.toD)),
       (157,onV (L 5) (.ptr 0 3)),(158,onV (L 6) (.d (.sl (t.slices.map qae.toD)))),(159,onV (L 7) (.d (.int .i64 k))),(160,onV (L 8) (.eptr 8 (t.slices.map qae.toD) k 0)),(161,onV (L 9) (.d x.toD)),
       (12,onV (L 10) (.ptr 2 0)),(13,onV (L 11) (.ptr 3 0)),(3,.ptr 0 0),(8,.ptr 1 0),(11,.d (.int .i64 k))])
      (fun L=>[.box 10 (.d t.toD),.box 10 (.d N.toD),onB (L 10) (.box 8 (.d (Qzi (L 12) y.toD zSl))),onB (L 11) (.box 8 (.d (Qzi (L 13) x.toD zSl)))]) (by kernel_rfl) ?_ ?_ ?_),?_⟩
    ·refine qaa [] [0,1,4,5] rfl (by simp) ?_ ?_
     ·rfl
     ·rfl
    ·simp only[q47]
     refine⟨?_,?_,?_,?_,?_,?_,?_,?_,?_,?_,?_,?_,?_,?_,trivial⟩
     case refine_11=>
      (intro L hc hL hp;(try simp only[qg2,Region.binds,frB] at hp);(try simp only[Nat.zero_add,Nat.reduceAdd] at hL);simp only[zU,seval,hL,hp,qsa,qx1,Qgh,Qkd,q9b,qf5,qgp,hkN,l2,(show(k:Int)<t.slices.length by omega),h,g1,g2,qyv,q5f])
      have h12:L 12=false:=Bool.eq_false_iff.2 fun h12=>by
       have h3:L 10=true:=(hc 12 _ rfl h12).1 rfl
       rw[hL] at h3;cases h3
      rw[h12]
      refine qaa [] [0,1,4,3] rfl (by simp) ?_ (by show[_,_,_,qbs _ _ (onB _ _)]=_;rw[qgp];rfl)
      simp only[zU,seval,qf5,rnU,qsa,qx1]
      try rfl
     case refine_12=>
      (intro L hc hL hp;(try simp only[qg2,Region.binds,frB] at hp);(try simp only[Nat.zero_add,Nat.reduceAdd] at hL);simp only[zU,seval,hL,hp,qsa,qx1,Qgh,Qkd,q9b,qf5,qgp,hkN,l2,(show(k:Int)<t.slices.length by omega),h,g1,g2,qyv,q5f])
      have h13:L 13=false:=Bool.eq_false_iff.2 fun h13=>by
       have h3:L 11=true:=(hc 13 _ rfl h13).1 rfl
       rw[hL] at h3;cases h3
      rw[h13]
      refine qaa [] [0,1,2,4] rfl (by simp) ?_ (by show[_,_,qbs _ _ (onB _ _),_]=_;rw[qgp];rfl)
      simp only[zU,seval,qf5,rnU,qsa,qx1]
      try rfl
     case refine_13=>
      (intro L hc hL hp;(try simp only[qg2,Region.binds,frB] at hp);(try simp only[Nat.zero_add,Nat.reduceAdd] at hL);simp only[zU,seval,hL,hp,qsa,qx1,Qgh,Qkd,q9b,qf5,qgp,hkN,l2,(show(k:Int)<t.slices.length by omega),h,g1,g2,qyv,q5f])
      exact qin.refl _ _ _ _
     case refine_14=>
      (intro L hc hL hp;(try simp only[qg2,Region.binds,frB] at hp);(try simp only[Nat.zero_add,Nat.reduceAdd] at hL);simp only[zU,seval,hL,hp,qsa,qx1,Qgh,Qkd,q9b,qf5,qgp,hkN,l2,(show(k:Int)<t.slices.length by omega),h,g1,g2,qyv,q5f])
      exact qin.refl _ _ _ _
     all_goals
      (intro L hc hL hp;(try simp only[qg2,Region.binds,frB] at hp);(try simp only[Nat.zero_add,Nat.reduceAdd] at hL);simp only[zU,seval,hL,hp,qsa,qx1,Qgh,Qkd,q9b,qf5,qgp,hkN,l2,(show(k:Int)<t.slices.length by omega),h,g1,g2,qyv,q5f])
      refine qaa [] [0,1,2,3] rfl (by simp) ?_ (by show[_,_,qbs _ _ (onB _ _),qbs _ _ (onB _ _)]=_;rw[qgp,qgp];rfl)
      simp only[zU,seval,qf5,rnU,qsa,qx1]
      try rfl
    ·simp only[zU,seval,qsa,Qgh,qyv,m1,m2,m3,m4,m5,m6,m7,beq_self_eq_true,Bool.and_self,Bool.not_true]
     refine qaa [] [0,1] rfl (by simp) ?_ rfl
     simp only[zU,seval,@qag ((k:Int)+1) (by omega)]
     all_goals rfl
    ·(try simp only[zU,seval,m1,m2,m3,m4,m5,m6,m7,beq_self_eq_true,Bool.and_self,Bool.not_true])
     refine qaa [] [0,1] rfl (by simp) ?_ rfl
     simp only[zU,seval,@qag ((k:Int)+1) (by omega)]
     all_goals rfl
   have:k=t.slices.length:=by omega
   subst this
   simp only[zU,seval,(show ¬(t.slices.length:Int)<t.slices.length by omega)]
   refine qap t.states.length (fun k=>[(3,.ptr 0 0),(8,.ptr 1 0),(14,.d (.int .i64 k))]) (fun _=>[.box 10 (.d t.toD),.box 10 (.d N.toD)]) (fun _=>True) trivial ?_ ?_
   ·refine qaa [] [0,1] rfl (by simp) ?_ rfl
    simp only[zU,seval]
    all_goals rfl
   intro k _ hk3
   by_cases h:k<t.states.length
   ·have g2:(t.states.map qas.toD).getD k default=(t.states.getD k default).toD:=qdz _ h
    obtain⟨x,hx⟩:∃x,x=t.states.getD k default:=⟨_,rfl⟩
    have hx2:x.toD=.agg [.int .i64 x.thread,.int .i64 x.state,.int .i64 x.lo,.int .i64 x.hi,.int .i64 x.cpu,.int .i64 x.on_,.int .i64 x.by_]:=rfl
    rw[←hx,hx2] at g2
    simp only[zU,seval,(show(k:Int)<t.states.length by omega),h,e3,g2,beq_self_eq_true,bne_self_eq_false,Bool.and_self,Bool.not_true]
    repeat((with_reducible apply aI);exact sdp)
    refine qaa [] [0,1] rfl (by simp) ?_ rfl
    simp only[zU,seval,@qag ((k:Int)+1) (by omega)]
    all_goals rfl
   have:k=t.states.length:=by omega
   subst this
   simp only[zU,seval,(show ¬(t.states.length:Int)<t.states.length by omega)]
   refine qap t.samples.length (fun k=>[(3,.ptr 0 0),(8,.ptr 1 0),(15,.d (.int .i64 k))]) (fun _=>[.box 10 (.d t.toD),.box 10 (.d N.toD)]) (fun _=>True) trivial ?_ ?_
   ·refine qaa [] [0,1] rfl (by simp) ?_ rfl
    simp only[zU,seval]
    all_goals rfl
   intro k _ hk4
   by_cases h:k<t.samples.length
   ·have g1:(N.samples.map qam.toD).getD k default=(nnA (qd1 l qa4 (frN t)) (t.samples.getD k default)).toD:=by rw[qdz _ (by omega),e5,Qkt _ h]
    have g2:(t.samples.map qam.toD).getD k default=(t.samples.getD k default).toD:=qdz _ h
    obtain⟨x,hx⟩:∃x,x=t.samples.getD k default:=⟨_,rfl⟩
    obtain⟨y,hy⟩:∃y,y=nnA (qd1 l qa4 (frN t)) x:=⟨_,rfl⟩
    have n1:y.at_=x.at_:=by rw[hy];rfl
    have n2:y.weight=x.weight:=by rw[hy];rfl
    have n3:y.stack.length=x.stack.length:=by rw[hy];exact List.length_map _
    rw[←hx] at g1 g2
    rw[←hy] at g1
    simp only[zU,seval,(show(k:Int)<t.samples.length by omega),h,l5,g1,g2,n1,n2,n3,bne_self_eq_false]
    repeat((with_reducible apply aI);exact sdp)
    refine qaa [] [0,1] rfl (by simp) ?_ rfl
    simp only[zU,seval,@qag ((k:Int)+1) (by omega)]
    all_goals rfl
   have:k=t.samples.length:=by omega
   subst this
   simp only[zU,seval,(show ¬(t.samples.length:Int)<t.samples.length by omega)]
   refine qaf qi4 ?_
   simp only[zU,seval]
   exact⟨_,_,qaq,rfl,rfl⟩
theorem Qgs (xs:List D) (h:qll prog 5 Tryz.f8.params.toList xs):qal prog G2 8 (xs.map AV.d) [] (fun r _=>r=.d (.bool true)):=by
 rw[params8] at h
 obtain⟨x,_,rfl,h1,y,_,rfl,h2,rfl⟩:=h
 obtain⟨l,rfl,l1⟩:=q27 h1
 obtain⟨t,rfl,m⟩:=q26 h2
 exact(Qpy l t l1 m []).mono fun r s h=>h.1
end YtljpopkonkanlaaGreatDoor
end Go.Proofs
