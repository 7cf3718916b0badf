/- A part of the proof: contracts of functions of this seat, and lemmas. No condition beyond those stated. -/
import Derived.Test.YtljpopkonkanlaaGreatDoorH1
import Derived.Lib.ItoaNum
import Derived.Shelf.LaysM
import Derived.Shelf.Strconv.Itoa3
import Derived.Ground.NamesProg
import Derived.Test.YtljpopkonkanlaaGreatDoorProg
import Derived.Test.YtljpopkonkanlaaGreatDoorG4
import Derived.Lib.ItoaLen
set_option linter.unusedVariables false
set_option linter.unusedSimpArgs false
set_option linter.unusedSectionVars false
set_option linter.unnecessarySimpa false
set_option maxRecDepth 100000
namespace Go.Proofs
open Go.AM Tryz
namespace YtljpopkonkanlaaGreatDoor
variable {Gl:qbb}
def qxb (a b:qae):Int:=orL [qm3 a.lo b.lo,qm3 b.hi a.hi,qm3 a.thread b.thread]
theorem Qlq (a b:qae):qbc prog Gl 159 [.d a.toD,.d b.toD] (.d (.int .i64 (qxb a b))):=by
 refine qbc.of2 ?_
 refine qac func159 rfl rfl (by simp[ntmps159]) (qab rfl _ _ _ _ ?_)
 simp only[ntmps159,results159,qak,List.length_nil]
 simp only[zC,seval]
 repeat((with_reducible apply aI);exact sdp)
 refine qaf (qks _ _) ?_
 simp only[zC,seval]
 refine qaf (qks _ _) ?_
 simp only[zC,seval]
 refine qaf (qks _ _) ?_
 simp only[zC,seval]
 repeat((with_reducible apply aI);exact sdp)
 refine qk1 2 (fun B hB=>Qz0 [qm3 a.lo b.lo,qm3 b.hi a.hi,qm3 a.thread b.thread] (by simp) B hB) (fun _=>rfl) rfl ?_
 simp only[zC,seval]
 exact⟨_,_,qaq,rfl,rfl⟩
def qcz (l:List qae) (i k:Int):Bool:=
 if h:0≤k then(if i=k then true else if h2:(l.getD k.toNat default).parent<k then qcz l i (l.getD k.toNat default).parent else false) else false
termination_by (k+1).toNat
decreasing_by omega
def qek (l:List qae) (i:Nat):Bool:=
 let s:=l.getD i default
 if(decide (s.parent < -1)||decide ((i:Int)≤s.parent))=true then false
 else if s.parent=-1 then s.depth==0
 else !((l.getD s.parent.toNat default).thread !=s.thread||decide (s.lo<(l.getD s.parent.toNat default).lo)||decide ((l.getD s.parent.toNat default).hi<s.hi)||s.depth !=IntKind.i64.wrap ((l.getD s.parent.toNat default).depth+1))
def qg4 (l:List qae):Bool:=(List.range l.length).all (qek l)
theorem qcn (p:Nat→Bool) (k:Nat):(List.range (k+1)).all p=((List.range k).all p&&p k):=by
 rw[List.range_succ,List.all_append];simp only[List.all_cons,List.all_nil,Bool.and_true]
theorem qce {p:Nat→Bool} {n k:Nat} (h:k<n) (hp:p k=false):(List.range n).all p=false:=by
 rw[List.all_eq_false];exact⟨k,List.mem_range.2 h,by simp[hp]⟩
theorem qey {l:List qae} {i:Nat} (h:qek l i=true):-1≤(l.getD i default).parent∧(l.getD i default).parent<i:=by
 unfold qek at h
 simp only at h
 split at h
 ·cases h
 ·rename_i h1
  simp only[Bool.not_eq_true,Bool.or_eq_false_iff,decide_eq_false_iff_not] at h1
  omega
theorem q3b {l:List qae} (h:qg4 l=true) {i:Nat} (hi:i<l.length):qek l i=true:=by
 unfold qg4 at h;rw[List.all_eq_true] at h;exact h i (List.mem_range.2 hi)
theorem Qpq (l:List qae) (hl:l.length<1000000):qbc prog Gl 160 [.d (.sl (l.map qae.toD))] (.d (.bool (qg4 l))):=by
 refine qbc.of1 ?_
 refine qac func160 rfl rfl (by simp[ntmps160]) (qab rfl _ _ _ _ ?_)
 simp only[ntmps160,results160,qak,List.length_nil]
 simp only[zC,seval]
 refine qap l.length (fun k=>[(0,.d (.sl (l.map qae.toD))),(6,.d (.sl (l.map qae.toD))),(7,.d (.int .i64 l.length)),(8,.d (.int .i64 k))]) (fun _=>[]) (fun k=>(List.range k).all (qek l)=true) rfl ?_ ?_
 ·refine qaa [] [] rfl List.nodup_nil ?_ rfl
  simp only[zC,seval,Int.cast_ofNat_Int]
 ·intro k hi hk
  by_cases h:k<l.length
  ·obtain⟨b,eb⟩:∃b,b=l.getD k default:=⟨_,rfl⟩
   have hbad:qek l k=false→qg4 l=false:=fun h1=>qce h h1
   simp only[zC,seval,(show(k:Int)<l.length by omega),h,qaj _ _ _ (show k<l.length by omega),←eb]
   repeat((with_reducible apply aI);exact sdp)
   cases h1:(decide (b.parent < -1)||decide ((k:Int)≤b.parent)) with
   | true=>
    simp only[zC,seval]
    refine⟨_,_,qaq,?_,rfl⟩
    rw[hbad (by unfold qek;rw[←eb];simp only[h1,if_pos])]
   | false=>
    simp only[zC,seval]
    have hn:qek l k=if b.parent=-1 then b.depth==0 else !((l.getD b.parent.toNat default).thread !=b.thread||decide (b.lo<(l.getD b.parent.toNat default).lo)||decide ((l.getD b.parent.toNat default).hi<b.hi)||b.depth !=IntKind.i64.wrap ((l.getD b.parent.toNat default).depth+1)):=by
     unfold qek;rw[←eb];simp only[h1,Bool.false_eq_true,if_false]
    simp only[Bool.or_eq_false_iff,decide_eq_false_iff_not] at h1
    by_cases h2:b.parent=-1
    ·rw[if_pos h2] at hn
     simp only[zC,seval,Qt1 (show b.parent=-1 by omega)]
     refine ifC.mk (fun h3=>?_) (fun h3=>?_)
     ·refine⟨_,_,qaq,?_,rfl⟩
      rw[hbad (by rw[hn];simpa using h3)]
     ·have hat:qek l k=true:=by rw[hn];simpa using h3
      refine⟨by rw[qcn,hi,hat];rfl,?_⟩
      refine qaa [] [] rfl List.nodup_nil ?_ rfl
      simp only[zC,seval,@qag ((k:Int)+1) (by omega)]
    ·rw[if_neg h2] at hn
     obtain⟨q,eq⟩:∃q:Nat,b.parent=q:=⟨b.parent.toNat,by omega⟩
     rw[eq,qhr] at hn
     simp only[zC,seval,eq,qxp (show ¬((q:Int)=-1) by omega),(show(q:Int)<l.length by omega),(show q<l.length by omega),qaj _ _ _ (show q<l.length by omega)]
     repeat((with_reducible apply aI);exact sdp)
     refine ifC.mk (fun h3=>?_) (fun h3=>?_)
     ·refine⟨_,_,qaq,?_,rfl⟩
      rw[hbad (by rw[hn,h3];rfl)]
     ·have hat:qek l k=true:=by rw[hn,h3];rfl
      refine⟨by rw[qcn,hi,hat];rfl,?_⟩
      refine qaa [] [] rfl List.nodup_nil ?_ rfl
      simp only[zC,seval,@qag ((k:Int)+1) (by omega)]
  ·simp only[zC,seval,(show ¬(k:Int)<l.length by omega)]
   refine⟨_,_,qaq,?_,rfl⟩
   have:k=l.length:=by omega
   rw[qg4,←this,hi]
theorem qtd {l:List qae} {i k:Int} (h:¬0≤k):qcz l i k=false:=by rw[qcz,dif_neg h]
theorem qyk {l:List qae} {i k:Int} (h:0≤k) (h2:i=k):qcz l i k=true:=by rw[qcz,dif_pos h,if_pos h2]
theorem qo4 {l:List qae} {i k:Int} (h:0≤k) (h2:i≠k) (h3:(l.getD k.toNat default).parent<k):qcz l i k=qcz l i (l.getD k.toNat default).parent:=by rw[qcz,dif_pos h,if_neg h2,dif_pos h3]
theorem Qk4 (l:List qae) (hl:l.length<1000000) (hn:qg4 l=true) (i k:Int) (hk:k<l.length):qbc prog Gl 195 [.d (.sl (l.map qae.toD)),.d (.int .i64 i),.d (.int .i64 k)] (.d (.bool (qcz l i k))):=by
 refine qbc.of3 ?_
 refine qac func195 rfl rfl (by simp[ntmps195]) (qab rfl _ _ _ _ ?_)
 simp only[ntmps195,results195,qak,List.length_nil]
 simp only[zC,seval]
 refine qcy (τ:=Int) (fun p=>[(0,.d (.sl (l.map qae.toD))),(1,.d (.int .i64 i)),(2,.d (.int .i64 p))]) (fun _=>[]) (fun p=>p<l.length∧qcz l i p=qcz l i k) (fun p=>(p+1).toNat) k ⟨hk,rfl⟩ ?_ ?_
 ·refine qaa [] [] rfl List.nodup_nil ?_ rfl
  simp only[zC,seval]
 ·rintro p ⟨h1,h2⟩
  simp only[zC,seval]
  refine ifC.mk (fun hc=>?_) (fun hc=>?_)
  ·have hc:0≤p:=by simpa using hc
   obtain⟨q,rfl⟩:∃q:Nat,p=q:=⟨p.toNat,by omega⟩
   simp only[zC,seval]
   refine ifC.mk (fun hd=>?_) (fun hd=>?_)
   ·refine⟨_,_,qaq,?_,rfl⟩
    rw[←h2,qyk hc (by simpa using hd)]
   ·have hd:i≠q:=by simpa using hd
    have hp:=qey (q3b hn (i:=q) (by omega))
    rw[qo4 hc hd (by rw[qhr];exact hp.2),qhr] at h2
    simp only[zC,seval,(show(q:Int)<l.length by omega),(show q<l.length by omega),qaj _ _ _ (show q<l.length by omega)]
    repeat((with_reducible apply aI);exact sdp)
    refine⟨(l.getD q default).parent,⟨by omega,h2⟩,by omega,?_⟩
    refine qaa [] [] rfl List.nodup_nil ?_ rfl
    simp only[zC,seval]
  ·have hc:¬0≤p:=by simpa using hc
   refine⟨_,_,qaq,?_,rfl⟩
   rw[←h2,qtd hc]
def qfa (l:List qae) (i:Nat):Nat→Int
 | 0=>IntKind.i64.wrap ((l.getD i default).hi-(l.getD i default).lo)
 | j+1=>if((l.getD j default).parent==(i:Int))=true then IntKind.i64.wrap (qfa l i j-IntKind.i64.wrap ((l.getD j default).hi-(l.getD j default).lo)) else qfa l i j
def qii (l:List qae) (j i:Nat):Bool:=decide ((j:Int)<i)&&((l.getD j default).thread==(l.getD i default).thread)&&decide ((l.getD i default).lo<(l.getD j default).hi)&&decide ((l.getD j default).lo<(l.getD i default).hi)&&!qcz l j i
def qf0 (l:List qae) (i:Nat):Bool:=((List.range l.length).all fun j=>!qii l j i)&&((l.getD i default).self==qfa l i l.length)
def qgm (l:List qae):Bool:=(List.range l.length).all (qf0 l)
theorem Qu6 (l:List qae) (hl:l.length<1000000) (hn:qg4 l=true):qbc prog Gl 161 [.d (.sl (l.map qae.toD))] (.d (.bool (qgm l))):=by
 refine qbc.of1 ?_
 refine qac func161 rfl rfl (by simp[ntmps161]) (qab rfl _ _ _ _ ?_)
 simp only[ntmps161,results161,qak,List.length_nil]
 simp only[zC,seval]
 refine qap l.length (fun k=>[(0,.d (.sl (l.map qae.toD))),(8,.d (.sl (l.map qae.toD))),(9,.d (.int .i64 l.length)),(10,.d (.int .i64 k))]) (fun _=>[]) (fun k=>(List.range k).all (qf0 l)=true) rfl ?_ ?_
 ·refine qaa [] [] rfl List.nodup_nil ?_ rfl
  simp only[zC,seval,Int.cast_ofNat_Int]
 ·intro k hi hk
  by_cases h:k<l.length
  ·obtain⟨b,eb⟩:∃b,b=l.getD k default:=⟨_,rfl⟩
   have hbad:qf0 l k=false→qgm l=false:=fun h1=>qce h h1
   simp only[zC,seval,(show(k:Int)<l.length by omega),h,qaj _ _ _ (show k<l.length by omega),←eb]
   repeat((with_reducible apply aI);exact sdp)
   refine qap l.length (fun j=>[(0,.d (.sl (l.map qae.toD))),(3,.d (.int .i64 k)),(4,.ptr 0 0),(5,.d (.int .i64 (qfa l k j))),(8,.d (.sl (l.map qae.toD))),(9,.d (.int .i64 l.length)),(10,.d (.int .i64 k)),(22,.d (.sl (l.map qae.toD))),(23,.d (.int .i64 l.length)),(24,.d (.int .i64 j))]) (fun _=>[.box 8 (.d b.toD)]) (fun j=>((List.range j).all fun j=>!qii l j k)=true) rfl ?_ ?_
   ·refine qaa [] [0] rfl (by simp) ?_ rfl
    simp only[zC,seval,Int.cast_ofNat_Int,qfa,←eb]
    all_goals rfl
   ·intro j hj hjk
    by_cases h2:j<l.length
    ·obtain⟨a,ea⟩:∃a,a=l.getD j default:=⟨_,rfl⟩
     simp only[zC,seval,(show(j:Int)<l.length by omega),h2,qaj _ _ _ (show j<l.length by omega),←ea]
     repeat((with_reducible apply aI);exact sdp)
     cases h3:(a.parent==(k:Int)) with
     | true=>
      have hS:qfa l k (j+1)=IntKind.i64.wrap (qfa l k j-IntKind.i64.wrap (a.hi-a.lo)):=by rw[qfa,←ea,if_pos h3]
      simp only[zC,seval]
      repeat((with_reducible apply aI);exact sdp)
      refine qav (fun _=>Qk4 l hl hn j k (by omega)) ?_
      simp only[zC,seval]
      repeat((with_reducible apply aI);exact sdp)
      refine ifC.mk (fun hc=>?_) (fun hc=>?_)
      ·refine⟨_,_,qaq,?_,rfl⟩
       rw[hbad (by unfold qf0;rw[qce h2 (by simp only[qii,←eb,←ea];rw[hc];rfl)];rfl)]
      ·refine⟨by rw[qcn,hj];simp only[qii,←eb,←ea];rw[hc];rfl,?_⟩
       refine qaa [] [0] rfl (by simp) ?_ rfl
       simp only[zC,seval,@qag ((j:Int)+1) (by omega),hS]
       all_goals rfl
     | false=>
      have hS:qfa l k (j+1)=qfa l k j:=by rw[qfa,←ea,if_neg (by rw[h3];simp)]
      simp only[zC,seval]
      repeat((with_reducible apply aI);exact sdp)
      refine qav (fun _=>Qk4 l hl hn j k (by omega)) ?_
      simp only[zC,seval]
      repeat((with_reducible apply aI);exact sdp)
      refine ifC.mk (fun hc=>?_) (fun hc=>?_)
      ·refine⟨_,_,qaq,?_,rfl⟩
       rw[hbad (by unfold qf0;rw[qce h2 (by simp only[qii,←eb,←ea];rw[hc];rfl)];rfl)]
      ·refine⟨by rw[qcn,hj];simp only[qii,←eb,←ea];rw[hc];rfl,?_⟩
       refine qaa [] [0] rfl (by simp) ?_ rfl
       simp only[zC,seval,@qag ((j:Int)+1) (by omega),hS]
       all_goals rfl
    ·simp only[zC,seval,(show ¬(j:Int)<l.length by omega)]
     have hjn:j=l.length:=by omega
     subst hjn
     have hat:qf0 l k=(b.self==qfa l k l.length):=by unfold qf0;rw[hj,←eb,Bool.true_and]
     refine ifC.mk (fun hc=>?_) (fun hc=>?_)
     ·refine⟨_,_,qaq,?_,rfl⟩
      rw[hbad (by rw[hat];simpa using hc)]
     ·have hat:qf0 l k=true:=by rw[hat];simpa using hc
      refine⟨by rw[qcn,hi,hat];rfl,?_⟩
      refine qaa [] [] rfl List.nodup_nil ?_ rfl
      simp only[zC,seval,@qag ((k:Int)+1) (by omega)]
  ·simp only[zC,seval,(show ¬(k:Int)<l.length by omega)]
   refine⟨_,_,qaq,?_,rfl⟩
   have:k=l.length:=by omega
   rw[qgm,←this,hi]
def Qcg (l:List qae) (k:Nat):Int:=
 if(decide ((l.getD k default).thread<0)||decide (1000000000000000<(l.getD k default).thread)||!qfh (l.getD k default).lo (l.getD k default).hi)=true then 2
 else if qda (l.getD k default).name≠0 then qda (l.getD k default).name
 else if(decide (0<k)&&decide (0<qxb (l.getD (k-1) default) (l.getD k default)))=true then 11 else 0
def qej (l:List qae):Int:=if qa3 (Qcg l) l.length≠0 then qa3 (Qcg l) l.length else if(qg4 l&&qgm l)=true then 0 else 10
theorem Qcf {l:List qae} {k:Nat} (h:(decide ((l.getD k default).thread<0)||decide (1000000000000000<(l.getD k default).thread)||!qfh (l.getD k default).lo (l.getD k default).hi)=true):Qcg l k=2:=by rw[Qcg,if_pos h]
theorem Qsn {l:List qae} {k:Nat} (h:(decide ((l.getD k default).thread<0)||decide (1000000000000000<(l.getD k default).thread)||!qfh (l.getD k default).lo (l.getD k default).hi)=false) (h2:qda (l.getD k default).name≠0):Qcg l k=qda (l.getD k default).name:=by rw[Qcg,if_neg (by rw[h];simp),if_pos h2]
theorem Qi0 {l:List qae} {k:Nat} (h:(decide ((l.getD k default).thread<0)||decide (1000000000000000<(l.getD k default).thread)||!qfh (l.getD k default).lo (l.getD k default).hi)=false) (h2:qda (l.getD k default).name=0):Qcg l k=if(decide (0<k)&&decide (0<qxb (l.getD (k-1) default) (l.getD k default)))=true then 11 else 0:=by rw[Qcg,if_neg (by rw[h];simp),if_neg (by rw[h2];simp)]
theorem q73 (l:List qae) (hl:l.length<1000000):qbc prog Gl 100 [.d (.sl (l.map qae.toD))] (.d (.int .i64 (qej l))):=by
 refine qbc.of1 ?_
 refine qac func100 rfl rfl (by simp[ntmps100]) (qab rfl _ _ _ _ ?_)
 simp only[ntmps100,results100,qak,List.length_nil]
 simp only[zC,seval]
 refine qap l.length (fun k=>[(0,.d (.sl (l.map qae.toD))),(6,.d (.sl (l.map qae.toD))),(7,.d (.int .i64 l.length)),(8,.d (.int .i64 k))]) (fun _=>[]) (fun k=>qa3 (Qcg l) k=0) rfl ?_ ?_
 ·refine qaa [] [] rfl List.nodup_nil ?_ rfl
  simp only[zC,seval,Int.cast_ofNat_Int]
 ·intro k hi hk
  by_cases h:k<l.length
  ·have hb:∀e,Qcg l k=e→e≠0→qej l=e:=fun e h1 h2=>by
    have:=qby hi (by rw[h1];exact h2) h
    rw[qej,this,h1,if_pos h2]
   obtain⟨b,eb⟩:∃b,b=l.getD k default:=⟨_,rfl⟩
   simp only[zC,seval,(show(k:Int)<l.length by omega),h,qaj _ _ _ (show k<l.length by omega),←eb]
   repeat((with_reducible apply aI);exact sdp)
   refine qav (fun _=>q3r _ _) ?_
   simp only[zC,seval]
   repeat((with_reducible apply aI);exact sdp)
   refine ifC.mk (fun h1=>?_) (fun h1=>?_)
   ·refine⟨_,_,qaq,?_,rfl⟩
    rw[hb 2 (Qcf (by rw[←eb];exact h1)) (by omega)]
   ·refine qaf (q1t _) ?_
    simp only[zC,seval]
    refine ifC.mk (fun h2=>?_) (fun h2=>?_)
    ·have h2:qda b.name≠0:=by simpa using h2
     refine⟨_,_,qaq,?_,rfl⟩
     rw[hb _ (Qsn (by rw[←eb];exact h1) (by rw[←eb];exact h2)) (by rw[←eb];exact h2),←eb]
    ·have ho:=Qi0 (l:=l) (k:=k) (by rw[←eb];exact h1) (by rw[←eb];simpa using h2)
     rw[←eb] at ho
     by_cases hk0:0<k
     ·have e1:IntKind.i64.wrap ((k:Int)-1)=((k-1:Nat):Int):=by rw[qbd (by omega) (by omega)];omega
      obtain⟨a,ea⟩:∃a,a=l.getD (k-1) default:=⟨_,rfl⟩
      rw[decide_eq_true hk0,Bool.true_and,←ea] at ho
      simp only[zC,seval,(show(0:Int)<k by omega),e1,(show((k-1:Nat):Int)<l.length by omega),(show k-1<l.length by omega),qaj _ _ _ (show k-1<l.length by omega),←ea]
      repeat((with_reducible apply aI);exact sdp)
      refine qav (fun _=>Qlq _ _) ?_
      simp only[zC,seval]
      repeat((with_reducible apply aI);exact sdp)
      refine ifC.mk (fun h3=>?_) (fun h3=>?_)
      ·refine⟨_,_,qaq,?_,rfl⟩
       rw[if_pos h3] at ho
       rw[hb 11 ho (by omega)]
      ·rw[if_neg (by rw[h3];simp)] at ho
       refine⟨qa2 hi ho,?_⟩
       refine qaa [] [] rfl List.nodup_nil ?_ rfl
       simp only[zC,seval,@qag ((k:Int)+1) (by omega)]
     ·rw[decide_eq_false hk0,Bool.false_and,if_neg (by simp)] at ho
      have e0:(IntKind.i64.wrap ((k:Int)-1)).toNat=0:=by rw[qbd (by omega) (by omega)];omega
      simp only[zC,seval,(show ¬(0:Int)<k by omega),e0,qaj _ _ _ (show 0<l.length by omega)]
      repeat((with_reducible apply aI);exact sdp)
      refine qav (v:=.d (.int .i64 0)) (fun h=>by cases h) ?_
      simp only[zC,seval,e0,qaj _ _ _ (show 0<l.length by omega)]
      repeat((with_reducible apply aI);exact sdp)
      refine⟨qa2 hi ho,?_⟩
      refine qaa [] [] rfl List.nodup_nil ?_ rfl
      simp only[zC,seval,@qag ((k:Int)+1) (by omega)]
  ·simp only[zC,seval,(show ¬(k:Int)<l.length by omega)]
   have:k=l.length:=by omega
   subst this
   have hF:qej l=if(qg4 l&&qgm l)=true then 0 else 10:=by rw[qej,hi,if_neg (by simp)]
   refine qaf (Qpq l hl) ?_
   simp only[zC,seval]
   cases hn:qg4 l with
   | false=>
    rw[hn,Bool.false_and,if_neg (by simp)] at hF
    repeat((with_reducible apply aI);exact sdp)
    refine qav (v:=.d (.bool false)) (fun h=>by cases h) ?_
    simp only[zC,seval]
    refine⟨_,_,qaq,?_,rfl⟩
    rw[hF]
   | true=>
    rw[hn,Bool.true_and] at hF
    repeat((with_reducible apply aI);exact sdp)
    refine qav (fun _=>Qu6 l hl hn) ?_
    simp only[zC,seval]
    cases ha:qgm l with
    | false=>
     simp only[zC,seval]
     refine⟨_,_,qaq,?_,rfl⟩
     rw[hF,ha,if_neg (by simp)]
    | true=>
     simp only[zC,seval]
     refine⟨_,_,qaq,?_,rfl⟩
     rw[hF,ha,if_pos rfl]

theorem Qva (xs:List Int) (x:Int) (hl:xs.length<2000000) (B:Blk) (hB:qeg 1 (xs.map (D.int .i64)) B):qal prog Gl 163 [.osl 0 0 xs.length,.d (.int .i64 x)] [B] (fun r s=>r=.d (.int .i64 (qet (fun y=>x==y) xs))∧s=[B]):=by
 rcases hB with rfl|rfl
 ·refine qac func163 rfl rfl (by simp[ntmps163]) (qab rfl _ _ _ _ ?_)
  simp only[ntmps163,results163,qak,List.length_nil]
  simp only[zC,seval]
  refine qap xs.length (fun k=>[(0,.osl 0 0 xs.length),(1,.d (.int .i64 x)),(7,.d (.int .i64 xs.length)),(8,.d (.int .i64 k))]) (fun _=>[.arr 1 (xs.map (D.int .i64))]) (fun k=>(xs.take k).any (fun y=>x==y)=false) rfl ?_ ?_
  ·refine qaa [] [0] rfl (by simp) ?_ rfl
   simp only[zC,seval,Int.cast_ofNat_Int]
   all_goals rfl
  ·intro k hi hk
   by_cases h:k<xs.length
   ·have hs:=qcs (fun y=>x==y) xs k h
    simp only[zC,seval,(show(k:Int)<xs.length by omega),h,qaj _ _ _ (show k<xs.length by omega)]
    repeat((with_reducible apply aI);exact sdp)
    refine ifC.mk (fun hc=>?_) (fun hc=>?_)
    ·refine⟨_,_,qah [] [0] rfl (by simp) (show qbk _ _ _=AV.d _ from rfl) rfl,?_,rfl⟩
     rw[qfu h hi hc]
    ·refine⟨by rw[hs,hi,hc];rfl,?_⟩
     refine qaa [] [0] rfl (by simp) ?_ rfl
     simp only[zC,seval,@qag ((k:Int)+1) (by omega)]
     all_goals rfl
   ·simp only[zC,seval,(show ¬(k:Int)<xs.length by omega)]
    have:k=xs.length:=by omega
    subst this
    rw[List.take_length] at hi
    refine⟨_,_,qah [] [0] rfl (by simp) (show qbk _ _ _=AV.d _ from rfl) rfl,?_,rfl⟩
    rw[qdh hi]
 ·refine qac func163 rfl rfl (by simp[ntmps163]) (qab rfl _ _ _ _ ?_)
  simp only[ntmps163,results163,qak,List.length_nil]
  simp only[zC,seval]
  refine qap xs.length (fun k=>[(0,.osl 0 0 xs.length),(1,.d (.int .i64 x)),(7,.d (.int .i64 xs.length)),(8,.d (.int .i64 k))]) (fun _=>[.frz 1 (xs.map (D.int .i64))]) (fun k=>(xs.take k).any (fun y=>x==y)=false) rfl ?_ ?_
  ·refine qaa [] [0] rfl (by simp) ?_ rfl
   simp only[zC,seval,Int.cast_ofNat_Int]
   all_goals rfl
  ·intro k hi hk
   by_cases h:k<xs.length
   ·have hs:=qcs (fun y=>x==y) xs k h
    simp only[zC,seval,(show(k:Int)<xs.length by omega),h,qaj _ _ _ (show k<xs.length by omega)]
    repeat((with_reducible apply aI);exact sdp)
    refine ifC.mk (fun hc=>?_) (fun hc=>?_)
    ·refine⟨_,_,qah [] [0] rfl (by simp) (show qbk _ _ _=AV.d _ from rfl) rfl,?_,rfl⟩
     rw[qfu h hi hc]
    ·refine⟨by rw[hs,hi,hc];rfl,?_⟩
     refine qaa [] [0] rfl (by simp) ?_ rfl
     simp only[zC,seval,@qag ((k:Int)+1) (by omega)]
     all_goals rfl
   ·simp only[zC,seval,(show ¬(k:Int)<xs.length by omega)]
    have:k=xs.length:=by omega
    subst this
    rw[List.take_length] at hi
    refine⟨_,_,qah [] [0] rfl (by simp) (show qbk _ _ _=AV.d _ from rfl) rfl,?_,rfl⟩
    rw[qdh hi]
theorem Qp7 (xs:List Int) (x:Int) (hl:xs.length<1000000):qbc prog Gl 163 [.d (.sl (xs.map (D.int .i64))),.d (.int .i64 x)] (.d (.int .i64 (qet (fun y=>x==y) xs))):=by
 refine qbc.of2 ?_
 refine qac func163 rfl rfl (by simp[ntmps163]) (qab rfl _ _ _ _ ?_)
 simp only[ntmps163,results163,qak,List.length_nil]
 simp only[zC,seval]
 refine qap xs.length (fun k=>[(0,.d (.sl (xs.map (D.int .i64)))),(1,.d (.int .i64 x)),(7,.d (.int .i64 xs.length)),(8,.d (.int .i64 k))]) (fun _=>[]) (fun k=>(xs.take k).any (fun y=>x==y)=false) rfl ?_ ?_
 ·refine qaa [] [] rfl List.nodup_nil ?_ rfl
  simp only[zC,seval,Int.cast_ofNat_Int]
 ·intro k hi hk
  by_cases h:k<xs.length
  ·have hs:=qcs (fun y=>x==y) xs k h
   simp only[zC,seval,(show(k:Int)<xs.length by omega),h,qaj _ _ _ (show k<xs.length by omega)]
   repeat((with_reducible apply aI);exact sdp)
   refine ifC.mk (fun hc=>?_) (fun hc=>?_)
   ·refine⟨_,_,qaq,?_,rfl⟩
    rw[qfu h hi hc]
   ·refine⟨by rw[hs,hi,hc];rfl,?_⟩
    refine qaa [] [] rfl List.nodup_nil ?_ rfl
    simp only[zC,seval,@qag ((k:Int)+1) (by omega)]
  ·simp only[zC,seval,(show ¬(k:Int)<xs.length by omega)]
   have:k=xs.length:=by omega
   subst this
   rw[List.take_length] at hi
   refine⟨_,_,qaq,?_,rfl⟩
   rw[qdh hi]
theorem Qg8 (xs:List Int) (x:Int) (hl:xs.length<2000000) (B:Blk) (hB:qeg 1 (xs.map (D.int .i64)) B):qal prog Gl 196 [.osl 0 0 xs.length,.d (.int .i64 x)] [B] (fun r s=>r=.d (.bool (xs.any (fun y=>x==y)))∧s=[B]):=by
 have hix:=Qva (Gl:=Gl) xs x hl B hB
 rcases hB with rfl|rfl
 ·refine qac func196 rfl rfl (by simp[ntmps196]) (qab rfl _ _ _ _ ?_)
  simp only[ntmps196,results196,qak,List.length_nil]
  simp only[zC,seval]
  refine qaz (hix.mono fun r s hr=>?_)
  obtain⟨rfl,rfl⟩:=hr
  simp only[zC,seval]
  refine⟨_,_,qah [] [0] rfl (by simp) (show qbk _ _ _=AV.d _ from rfl) rfl,?_,rfl⟩
  rw[qd5]
 ·refine qac func196 rfl rfl (by simp[ntmps196]) (qab rfl _ _ _ _ ?_)
  simp only[ntmps196,results196,qak,List.length_nil]
  simp only[zC,seval]
  refine qaz (hix.mono fun r s hr=>?_)
  obtain⟨rfl,rfl⟩:=hr
  simp only[zC,seval]
  refine⟨_,_,qah [] [0] rfl (by simp) (show qbk _ _ _=AV.d _ from rfl) rfl,?_,rfl⟩
  rw[qd5]
def qc5 (l:List qai):List Int:=l.foldl (fun out x=>if out.any (fun y=>x.id==y)=true then out else out++[x.id]) []
theorem qlh (l:List qai) (k:Nat) (h:k<l.length):qc5 (l.take (k+1))=if(qc5 (l.take k)).any (fun y=>(l.getD k default).id==y)=true then qc5 (l.take k) else qc5 (l.take k)++[(l.getD k default).id]:=by
 rw[qa0 l k h];unfold qc5;rw[List.foldl_append];rfl
theorem qkx (l:List qai):∀k,(qc5 (l.take k)).length≤k
 | 0=>by simp[qc5]
 | k+1=>by
  have ih:=qkx l k
  by_cases h:k<l.length
  ·rw[qlh l k h]
   split
   ·omega
   ·rw[List.length_append];simp only[List.length_cons,List.length_nil];omega
  ·rw[List.take_of_length_le (by omega)]
   rw[List.take_of_length_le (by omega)] at ih
   omega
theorem Qg4 (l:List qai) (hl:l.length<1000000):qbc prog Gl 162 [.d (.sl (l.map qai.toD))] (.d (.sl ((qc5 l).map (D.int .i64)))):=by
 refine qbc.of1 ?_
 refine qac func162 rfl rfl (by simp[ntmps162]) (qab rfl _ _ _ _ ?_)
 simp only[ntmps162,results162,qak,List.length_nil]
 simp only[zC,seval]
 refine qap l.length (fun k=>[(3,.osl 0 0 (qc5 (l.take k)).length),(6,.d (.sl (l.map qai.toD))),(7,.d (.int .i64 l.length)),(8,.d (.int .i64 k))]) (fun k=>[.arr 1 ((qc5 (l.take k)).map (D.int .i64))]) (fun _=>True) trivial ?_ ?_
 ·refine(qep 3 1 rfl).trans ?_
  refine qaa [] [0] rfl (by simp) ?_ ?_
  ·simp only[zC,seval,Int.cast_ofNat_Int]
   all_goals rfl
  ·rfl
 ·intro k _ hk
  have hdl:=qkx l k
  by_cases h:k<l.length
  ·have hs:=qlh l k h
   obtain⟨ys,hys⟩:∃ys,ys=qc5 (l.take k):=⟨_,rfl⟩
   rw[←hys] at hs hdl ⊢
   simp only[zC,seval,(show(k:Int)<l.length by omega),h,qaj _ _ _ (show k<l.length by omega)]
   repeat((with_reducible apply aI);exact sdp)
   refine qk1 0 (fun B hB=>Qg8 ys _ (by omega) B hB) (fun _=>rfl) rfl ?_
   simp only[zC,seval]
   cases hc:ys.any (fun y=>(l.getD k default).id==y) with
   | true=>
    rw[hc,if_pos rfl] at hs
    simp only[zC,seval,hs]
    refine qaa [] [0] rfl (by simp) ?_ rfl
    simp only[zC,seval,@qag ((k:Int)+1) (by omega)]
    all_goals rfl
   | false=>
    rw[hc,if_neg (by simp)] at hs
    simp only[zC,seval,qbe]
    repeat((with_reducible apply aI);exact sdp)
    rw[hs]
    refine qaa [] [3] rfl (by simp) ?_ ?_
    ·simp only[zC,seval,@qag ((k:Int)+1) (by omega)]
     all_goals rfl
    ·simp only[zC,seval,List.map_append]
     all_goals rfl
  ·have:k=l.length:=by omega
   subst this
   simp only[zC,seval,(show ¬(l.length:Int)<l.length by omega),List.take_length]
   refine⟨_,_,qf4 rfl ?_,rfl,rfl⟩
   simp only[zC,seval,qbe]
def qc0 (s:qas):Bool:=(decide (0≤s.state)&&decide (s.state≤5))&&(if(s.state==4)=true then decide (0≤s.cpu)&&decide (s.cpu<64) else s.cpu==-1)&&(if(s.state==2)=true then decide (0≤s.on_)&&decide (s.on_≤1000000000000000) else s.on_==-1)
 && (s.by_==-1||((s.state==1||s.state==2)&&decide (0≤s.by_)&&decide (s.by_≤1000000000000000)))
theorem Qp1 (s:qas):qbc prog Gl 164 [.d s.toD] (.d (.bool (qc0 s))):=by
 refine qbc.of1 ?_
 refine qac func164 rfl rfl (by simp[ntmps164]) (qab rfl _ _ _ _ ?_)
 simp only[ntmps164,results164,qak,List.length_nil]
 simp only[zC,seval]
 refine ifC.mk (fun h1=>?_) (fun h1=>?_)
 ·refine⟨_,_,qaq,?_,rfl⟩
  refine congrArg (fun b=>AV.d (D.bool b)) ?_
  unfold qc0
  cases e4:(s.state==4)<;>cases e2:(s.state==2)<;>simp_all<;>omega
 ·refine ifC.mk (fun h2=>?_) (fun h2=>?_)
  ·simp only[zC,seval,h2]
   refine⟨_,_,qaq,?_,rfl⟩
   refine congrArg (fun b=>AV.d (D.bool b)) ?_
   unfold qc0
   cases e4:(s.state==4)<;>cases e2:(s.state==2)<;>simp_all<;>omega
  ·refine ifC.mk (fun h3=>?_) (fun h3=>?_)
   ·refine⟨_,_,qaq,?_,rfl⟩
    refine congrArg (fun b=>AV.d (D.bool b)) ?_
    unfold qc0
    cases e4:(s.state==4)<;>cases e2:(s.state==2)<;>simp_all<;>omega
   ·refine ifC.mk (fun h4=>?_) (fun h4=>?_)
    ·simp only[zC,seval,h4]
     refine⟨_,_,qaq,?_,rfl⟩
     refine congrArg (fun b=>AV.d (D.bool b)) ?_
     unfold qc0
     cases e4:(s.state==4)<;>cases e2:(s.state==2)<;>simp_all<;>omega
    ·refine ifC.mk (fun h5=>?_) (fun h5=>?_)
     ·refine⟨_,_,qaq,?_,rfl⟩
      refine congrArg (fun b=>AV.d (D.bool b)) ?_
      unfold qc0
      cases e4:(s.state==4)<;>cases e2:(s.state==2)<;>simp_all<;>omega
     ·refine⟨_,_,qaq,?_,rfl⟩
      refine congrArg (fun b=>AV.d (D.bool b)) ?_
      unfold qc0
      cases e4:(s.state==4)<;>cases e2:(s.state==2)<;>simp_all<;>omega
def q2t (a b:qas):Bool:=a.state==b.state&&a.cpu==b.cpu&&a.on_==b.on_
theorem Qyh (a b:qas):qbc prog Gl 165 [.d a.toD,.d b.toD] (.d (.bool (q2t a b))):=by
 refine qbc.of2 ?_
 refine qac func165 rfl rfl (by simp[ntmps165]) (qab rfl _ _ _ _ ?_)
 simp only[ntmps165,results165,qak,List.length_nil]
 simp only[zC,seval]
 exact⟨_,_,qaq,rfl,rfl⟩

def qez (ids:List Int) (x:Int):Int:=qet (fun y=>x==y) ids
def atU (ids:List Int) (l:List qas):Nat→Int
 | 0=>-1
 | k+1=>qez ids (l.getD k default).thread
def q1f (ids:List Int) (l:List qas) (k:Nat):Bool:=
 let s:=l.getD k default
 let i:=qez ids s.thread
 (i==atU ids l k&&(s.lo !=(l.getD (k-1) default).hi||q2t s (l.getD (k-1) default)))||(i !=atU ids l k&&(i !=atU ids l k+1||s.lo !=0))
def uAt (ids:List Int) (l:List qas) (k:Nat):Int:=
 if qez ids (l.getD k default).thread<0 then 5 else if qfh (l.getD k default).lo (l.getD k default).hi=false then 2 else if qc0 (l.getD k default)=false then 1
 else if q1f ids l k=true then 11 else 0
def qkv (l:List qas) (k:Nat):Bool:=!((((k:Int)+1==(l.length:Int))||(l.getD (k+1) default).thread !=(l.getD k default).thread)&&(l.getD k default).hi !=(l.getD (l.length-1) default).hi)
def qei (ths:List qai) (l:List qas):Int:=
 if qa3 (uAt (qc5 ths) l) l.length≠0 then qa3 (uAt (qc5 ths) l) l.length else if l.length=0 then 0 else if(List.range l.length).all (qkv l)=false then 11
 else if atU (qc5 ths) l l.length+1=((qc5 ths).length:Int) then 0 else 11
theorem q32 (ids:List Int) (x:Int):-1≤qez ids x:=qi5 _ _
theorem qmv {α:Type} (p:α→Bool):∀l:List α,qet p l<l.length
 | []=>by simp[qet]
 | b::r=>by
  have:=qmv p r
  unfold qet
  rw[List.length_cons]
  split
  ·omega
  ·split<;>omega
theorem Qft (ids:List Int) (l:List qas):∀k,-1≤atU ids l k
 | 0=>by simp[atU]
 | k+1=>q32 _ _
theorem Qfs (ids:List Int) (l:List qas):∀k,atU ids l k<ids.length
 | 0=>by simp[atU];omega
 | k+1=>qmv _ _
set_option maxHeartbeats 2000000 in
theorem q72 (ths:List qai) (hth:ths.length<1000000) (l:List qas) (hl:l.length<1000000):qbc prog Gl 102 [.d (.sl (ths.map qai.toD)),.d (.sl (l.map qas.toD))] (.d (.int .i64 (qei ths l))):=by
 refine qbc.of2 ?_
 refine qac func102 rfl rfl (by simp[ntmps102]) (qab rfl _ _ _ _ ?_)
 simp only[ntmps102,results102,qak,List.length_nil]
 simp only[zC,seval]
 refine qaf (Qg4 ths hth) ?_
 obtain⟨ids,hids⟩:∃ids,ids=qc5 ths:=⟨_,rfl⟩
 have hil:ids.length<1000000:=by
  have:=qkx ths ths.length
  rw[List.take_length] at this
  rw[hids];omega
 obtain⟨F,hF⟩:∃F,F=qei ths l:=⟨_,rfl⟩
 rw[←hF]
 rw[qei,←hids] at hF
 simp only[zC,seval]
 refine qap l.length (fun k=>[(1,.d (.sl (l.map qas.toD))),(5,.d (.sl (ids.map (D.int .i64)))),(6,.d (.int .i64 (atU ids l k))),(16,.d (.sl (l.map qas.toD))),(17,.d (.int .i64 l.length)),(18,.d (.int .i64 k))]) (fun _=>[]) (fun k=>qa3 (uAt ids l) k=0) rfl ?_ ?_
 ·refine qaa [] [] rfl List.nodup_nil ?_ rfl
  simp only[zC,seval,Int.cast_ofNat_Int,atU,←hids]
 ·intro k hi hk
  by_cases h:k<l.length
  ·have hb:∀e,uAt ids l k=e→e≠0→F=e:=fun e h1 h2=>by
    have:=qby hi (by rw[h1];exact h2) h
    rw[hF,this,h1,if_pos h2]
   obtain⟨b,eb⟩:∃b,b=l.getD k default:=⟨_,rfl⟩
   simp only[zC,seval,(show(k:Int)<l.length by omega),h,qaj _ _ _ (show k<l.length by omega),←eb]
   repeat((with_reducible apply aI);exact sdp)
   refine qaf (Qp7 ids b.thread hil) ?_
   obtain⟨i,ei⟩:∃i,i=qez ids b.thread:=⟨_,rfl⟩
   rw[show qet (fun y=>b.thread==y) ids=i from by rw[ei];rfl]
   have hi1:=q32 ids b.thread
   have hi2:qez ids b.thread<ids.length:=qmv _ _
   rw[←ei] at hi1 hi2
   have hu:uAt ids l k=if i<0 then 5 else if qfh b.lo b.hi=false then 2 else if qc0 b=false then 1 else if q1f ids l k=true then 11 else 0:=by rw[uAt,←eb,←ei]
   simp only[zC,seval]
   by_cases h1:i<0
   ·rw[if_pos h1] at hu
    simp only[zC,seval,(show i<0 by omega)]
    refine⟨_,_,qaq,?_,rfl⟩
    rw[hb 5 hu (by omega)]
   ·rw[if_neg h1] at hu
    simp only[zC,seval,(show ¬i<0 by omega)]
    refine qaf (q3r _ _) ?_
    cases h2:qfh b.lo b.hi with
    | false=>
     simp only[zC,seval,Bool.not_false]
     refine⟨_,_,qaq,?_,rfl⟩
     rw[if_pos h2] at hu
     rw[hb 2 hu (by omega)]
    | true=>
     simp only[zC,seval,Bool.not_true]
     rw[if_neg (by rw[h2];simp)] at hu
     refine qaf (Qp1 _) ?_
     cases h3:qc0 b with
     | false=>
      simp only[zC,seval,Bool.not_false]
      refine⟨_,_,qaq,?_,rfl⟩
      rw[if_pos h3] at hu
      rw[hb 1 hu (by omega)]
     | true=>
      simp only[zC,seval,Bool.not_true]
      rw[if_neg (by rw[h3];simp)] at hu
      have hge:=Qft ids l k
      have hlt:=Qfs ids l k
      by_cases h4:i=atU ids l k
      ·have hk0:0<k:=by
        rcases Nat.eq_zero_or_pos k with h0|h0
        ·subst h0;simp only[atU] at h4;omega
        ·exact h0
       have e1:IntKind.i64.wrap ((k:Int)-1)=((k-1:Nat):Int):=by rw[qbd (by omega) (by omega)];omega
       obtain⟨a,ea⟩:∃a,a=l.getD (k-1) default:=⟨_,rfl⟩
       have e5:(i==atU ids l k)=true:=by simpa using h4
       have e6:(i !=atU ids l k)=false:=by simpa using h4
       have ho:q1f ids l k=(b.lo !=a.hi||q2t b a):=by
        unfold q1f;simp only[←eb,←ea,←ei,e5,e6,Bool.true_and,Bool.false_and,Bool.or_false]
       simp only[zC,seval,e5,e1,(show((k-1:Nat):Int)<l.length by omega),(show k-1<l.length by omega),qaj _ _ _ (show k-1<l.length by omega),←ea]
       repeat((with_reducible apply aI);exact sdp)
       refine qav (fun _=>Qyh _ _) ?_
       simp only[zC,seval]
       repeat((with_reducible apply aI);exact sdp)
       refine ifC.mk (fun h5=>?_) (fun h5=>?_)
       ·refine⟨_,_,qaq,?_,rfl⟩
        rw[if_pos (by rw[ho];exact h5)] at hu
        rw[hb 11 hu (by omega)]
       ·rw[if_neg (by rw[ho,h5];simp)] at hu
        simp only[zC,seval,e6]
        repeat((with_reducible apply aI);exact sdp)
        refine⟨qa2 hi hu,?_⟩
        refine qaa [] [] rfl List.nodup_nil ?_ rfl
        simp only[zC,seval,@qag ((k:Int)+1) (by omega),atU,←eb,←ei]
      ·have e5:(i==atU ids l k)=false:=by simpa using h4
       have e6:(i !=atU ids l k)=true:=by simpa using h4
       have ho:q1f ids l k=(i !=atU ids l k+1||b.lo !=0):=by
        unfold q1f;simp only[←eb,←ei,e5,e6,Bool.true_and,Bool.false_and,Bool.false_or]
       by_cases hk0:0<k
       ·have e1:IntKind.i64.wrap ((k:Int)-1)=((k-1:Nat):Int):=by rw[qbd (by omega) (by omega)];omega
        simp only[zC,seval,e5,e1,(show((k-1:Nat):Int)<l.length by omega),(show k-1<l.length by omega),qaj _ _ _ (show k-1<l.length by omega)]
        repeat((with_reducible apply aI);exact sdp)
        refine qav (v:=.d (.bool false)) (fun h=>by cases h) ?_
        simp only[zC,seval,e6,@qag (atU ids l k+1) (by omega)]
        repeat((with_reducible apply aI);exact sdp)
        refine ifC.mk (fun h5=>?_) (fun h5=>?_)
        ·refine⟨_,_,qaq,?_,rfl⟩
         rw[if_pos (by rw[ho];exact h5)] at hu
         rw[hb 11 hu (by omega)]
        ·rw[if_neg (by rw[ho,h5];simp)] at hu
         refine⟨qa2 hi hu,?_⟩
         refine qaa [] [] rfl List.nodup_nil ?_ rfl
         simp only[zC,seval,@qag ((k:Int)+1) (by omega),atU,←eb,←ei]
       ·have e0:(IntKind.i64.wrap ((k:Int)-1)).toNat=0:=by rw[qbd (by omega) (by omega)];omega
        simp only[zC,seval,e5,e0,qaj _ _ _ (show 0<l.length by omega)]
        repeat((with_reducible apply aI);exact sdp)
        refine qav (v:=.d (.bool false)) (fun h=>by cases h) ?_
        simp only[zC,seval,e0,qaj _ _ _ (show 0<l.length by omega)]
        simp only[zC,seval,e6,@qag (atU ids l k+1) (by omega)]
        repeat((with_reducible apply aI);exact sdp)
        refine ifC.mk (fun h5=>?_) (fun h5=>?_)
        ·refine⟨_,_,qaq,?_,rfl⟩
         rw[if_pos (by rw[ho];exact h5)] at hu
         rw[hb 11 hu (by omega)]
        ·rw[if_neg (by rw[ho,h5];simp)] at hu
         refine⟨qa2 hi hu,?_⟩
         refine qaa [] [] rfl List.nodup_nil ?_ rfl
         simp only[zC,seval,@qag ((k:Int)+1) (by omega),atU,←eb,←ei]
  ·simp only[zC,seval,(show ¬(k:Int)<l.length by omega)]
   have:k=l.length:=by omega
   subst this
   rw[hi,if_neg (by simp)] at hF
   by_cases h0:l.length=0
   ·simp only[zC,seval,h0,Int.cast_ofNat_Int]
    refine⟨_,_,qaq,?_,rfl⟩
    rw[hF,if_pos h0]
   ·rw[if_neg h0] at hF
    have e1:IntKind.i64.wrap ((l.length:Int)-1)=((l.length-1:Nat):Int):=by rw[qbd (by omega) (by omega)];omega
    simp only[zC,seval,qxp (show ¬((l.length:Int)=0) by omega),e1,(show((l.length-1:Nat):Int)<l.length by omega),(show l.length-1<l.length by omega),qaj _ _ _ (show l.length-1<l.length by omega)]
    repeat((with_reducible apply aI);exact sdp)
    refine qap l.length (fun k=>[(1,.d (.sl (l.map qas.toD))),(5,.d (.sl (ids.map (D.int .i64)))),(6,.d (.int .i64 (atU ids l l.length))),(10,.d (.int .i64 (l.getD (l.length-1) default).hi)),(94,.d (.sl (l.map qas.toD))),(95,.d (.int .i64 l.length)),(96,.d (.int .i64 k))]) (fun _=>[]) (fun k=>(List.range k).all (qkv l)=true) rfl ?_ ?_
    ·refine qaa [] [] rfl List.nodup_nil ?_ rfl
     simp only[zC,seval,Int.cast_ofNat_Int]
    ·intro k hj hk
     by_cases h:k<l.length
     ·obtain⟨b,eb⟩:∃b,b=l.getD k default:=⟨_,rfl⟩
      have hbad:qkv l k=false→F=11:=fun h1=>by rw[hF,if_pos (qce h h1)]
      by_cases hL:k+1=l.length
      ·have eL:((k:Int)+1==(l.length:Int))=true:=Qt1 (show(k:Int)+1=l.length by omega)
       have hat:qkv l k=!(b.hi !=(l.getD (l.length-1) default).hi):=by unfold qkv;rw[eL,←eb];simp
       simp only[zC,seval,(show(k:Int)<l.length by omega),h,qaj _ _ _ (show k<l.length by omega),←eb,@qag ((k:Int)+1) (by omega),eL]
       repeat((with_reducible apply aI);exact sdp)
       refine ifC.mk (fun h5=>?_) (fun h5=>?_)
       ·refine⟨_,_,qaq,?_,rfl⟩
        rw[hbad (by rw[hat,h5];rfl)]
       ·refine⟨by rw[qcn,hj,hat,h5];rfl,?_⟩
        refine qaa [] [] rfl List.nodup_nil ?_ rfl
        simp only[zC,seval,@qag ((k:Int)+1) (by omega)]
      ·have eL:((k:Int)+1==(l.length:Int))=false:=qxp (show ¬((k:Int)+1=l.length) by omega)
       have hat:qkv l k=!((l.getD (k+1) default).thread !=b.thread&&b.hi !=(l.getD (l.length-1) default).hi):=by unfold qkv;rw[eL,←eb,Bool.false_or]
       have e3:((k:Int)+1).toNat=k+1:=by omega
       simp only[zC,seval,(show(k:Int)<l.length by omega),h,qaj _ _ _ (show k<l.length by omega),←eb,@qag ((k:Int)+1) (by omega),eL,e3,(show(0:Int)≤(k:Int)+1 by omega),(show(k:Int)+1<l.length by omega),(show k+1<l.length by omega),qaj _ _ _ (show k+1<l.length by omega)]
       repeat((with_reducible apply aI);exact sdp)
       refine ifC.mk (fun h5=>?_) (fun h5=>?_)
       ·refine⟨_,_,qaq,?_,rfl⟩
        rw[hbad (by rw[hat,h5];rfl)]
       ·refine⟨by rw[qcn,hj,hat,h5];rfl,?_⟩
        refine qaa [] [] rfl List.nodup_nil ?_ rfl
        simp only[zC,seval,@qag ((k:Int)+1) (by omega)]
     ·simp only[zC,seval,(show ¬(k:Int)<l.length by omega)]
      have:k=l.length:=by omega
      subst this
      rw[if_neg (by rw[hj];simp)] at hF
      have hge:=Qft ids l l.length
      have hlt:=Qfs ids l l.length
      simp only[zC,seval,@qag (atU ids l l.length+1) (by omega)]
      refine ifC.mk (fun h5=>?_) (fun h5=>?_)
      ·refine⟨_,_,qaq,?_,rfl⟩
       rw[hF,if_neg (by simpa using h5)]
      ·refine⟨_,_,qaq,?_,rfl⟩
       rw[hF,if_pos (by simpa using h5)]

def qfb (t:qat):Int:=if qbu t.threads≠0 then qbu t.threads else
 if qcr (qej t.slices) (qd0 t.threads) (fun x=>x.thread) t.slices≠0 then qcr (qej t.slices) (qd0 t.threads) (fun x=>x.thread) t.slices else
 if qei t.threads t.states≠0 then qei t.threads t.states else
 if qcr (qcr (qhy t.flows) (qd0 t.threads) (fun x=>x.ft) t.flows) (qd0 t.threads) (fun x=>x.tt) t.flows≠0 then qcr (qcr (qhy t.flows) (qd0 t.threads) (fun x=>x.ft) t.flows) (qd0 t.threads) (fun x=>x.tt) t.flows else
 if qcr (qdx t.samples) (qd0 t.threads) (fun x=>x.thread) t.samples≠0 then qcr (qdx t.samples) (qd0 t.threads) (fun x=>x.thread) t.samples else
 if qhg t.steps≠0 then qhg t.steps else
 if qcr (bkF t.blocks) (qd0 t.threads) (fun x=>x.thread) t.blocks≠0 then qcr (bkF t.blocks) (qd0 t.threads) (fun x=>x.thread) t.blocks else qsb (qd0 t.threads) t.lost
theorem q3m (t:qat) (ht:t.Few) (h:qbu t.threads≠0):qbc prog Gl 98 [.d t.toD] (.tup [.d (.raw (.map none)),.d (.int .i64 (qbu t.threads))]):=by
 refine qbc.of1t2 ((q71 t ht).mono fun r s hr=>?_)
 rw[if_neg h] at hr
 exact hr
theorem q70 (t:qat) (ht:t.Few) (h:qbu t.threads=0) (σ:Sto):qal prog Gl 98 [.d t.toD] σ (fun r s=>r=.tup [.mapr σ.length,.d (.int .i64 0)]∧s=σ++[.map (some .i64) (mapOf t.threads)]):=by
 refine(Qmo (P:=prog) (Gl:=Gl) (f:=98) (args:=[t.toD]) (B:=.map (some .i64) (mapOf t.threads)) (r:=.tup [.mapr 0,.d (.int .i64 0)]) (qhn _) ((q71 t ht).mono fun r s hr=>?_) σ).mono fun r s hr=>?_
 ·rw[if_pos h] at hr
  exact hr
 ·obtain⟨rfl,rfl⟩:=hr
  exact⟨rfl,rfl⟩
theorem Qpo (t:qat) (ht:t.Few):qbc prog Gl 53 [.d t.toD] (.d (.int .i64 (qfb t))):=by
 refine qbc.of1 ?_
 obtain⟨F,hF⟩:∃F,F=qfb t:=⟨_,rfl⟩
 rw[←hF]
 rw[qfb] at hF
 have hst:=qhn t.threads
 have hf:=qro t.threads
 refine qac func53 rfl rfl (by simp[ntmps53]) (qab rfl _ _ _ _ ?_)
 simp only[ntmps53,results53,qak,List.length_nil]
 simp only[zC,seval]
 by_cases hT:qbu t.threads=0
 ·rw[if_neg (by rw[hT];simp)] at hF
  refine qaz ((q70 t ht hT _).mono fun r s hr=>?_)
  obtain⟨rfl,rfl⟩:=hr
  simp only[zC,seval]
  repeat((with_reducible apply aI);exact sdp)
  refine qaf (q73 _ ht.slices) ?_
  simp only[zC,seval]
  refine qef 1 (q76 _ _ Qk9 _ _ _ hst hf _ ht.slices) (fun s=>rfl) (by rfl) hst ?_
  simp only[zC,seval]
  repeat((with_reducible apply aI);exact sdp)
  refine ifC.mk (fun h1=>?_) (fun h1=>?_)
  ·have h1:=bne_iff_ne.1 h1
   refine⟨_,_,qaq,?_,rfl⟩
   rw[hF,if_pos h1]
  ·have h1:qcr (qej t.slices) (qd0 t.threads) (fun x=>x.thread) t.slices=0:=by simpa using h1
   rw[if_neg (by rw[h1];simp)] at hF
   repeat((with_reducible apply aI);exact sdp)
   refine qaf (q72 _ ht.threads _ ht.states) ?_
   simp only[zC,seval]
   refine ifC.mk (fun h2=>?_) (fun h2=>?_)
   ·have h2:=bne_iff_ne.1 h2
    refine⟨_,_,qaq,?_,rfl⟩
    rw[hF,if_pos h2]
   ·have h2:qei t.threads t.states=0:=by simpa using h2
    rw[if_neg (by rw[h2];simp)] at hF
    repeat((with_reducible apply aI);exact sdp)
    refine qaf (q96 _ ht.flows) ?_
    simp only[zC,seval]
    refine qef 1 (qwm _ _ Qk8 _ _ _ hst hf _ ht.flows) (fun s=>rfl) (by rfl) hst ?_
    simp only[zC,seval]
    repeat((with_reducible apply aI);exact sdp)
    refine qef 1 (qwm _ _ Qk7 _ _ _ hst hf _ ht.flows) (fun s=>rfl) (by rfl) hst ?_
    simp only[zC,seval]
    repeat((with_reducible apply aI);exact sdp)
    refine ifC.mk (fun h3=>?_) (fun h3=>?_)
    ·have h3:=bne_iff_ne.1 h3
     refine⟨_,_,qaq,?_,rfl⟩
     rw[hF,if_pos h3]
    ·have h3:qcr (qcr (qhy t.flows) (qd0 t.threads) (fun x=>x.ft) t.flows) (qd0 t.threads) (fun x=>x.tt) t.flows=0:=by simpa using h3
     rw[if_neg (by rw[h3];simp)] at hF
     repeat((with_reducible apply aI);exact sdp)
     refine qaf (q3n _ ht.sst ht.samples) ?_
     simp only[zC,seval]
     refine qef 1 (q3o _ _ Qk6 _ _ _ hst hf _ ht.samples) (fun s=>rfl) (by rfl) hst ?_
     simp only[zC,seval]
     repeat((with_reducible apply aI);exact sdp)
     refine ifC.mk (fun h4=>?_) (fun h4=>?_)
     ·have h4:=bne_iff_ne.1 h4
      refine⟨_,_,qaq,?_,rfl⟩
      rw[hF,if_pos h4]
     ·have h4:qcr (qdx t.samples) (qd0 t.threads) (fun x=>x.thread) t.samples=0:=by simpa using h4
      rw[if_neg (by rw[h4];simp)] at hF
      repeat((with_reducible apply aI);exact sdp)
      refine qaf (q92 _ ht.steps) ?_
      simp only[zC,seval]
      refine ifC.mk (fun h5=>?_) (fun h5=>?_)
      ·have h5:=bne_iff_ne.1 h5
       refine⟨_,_,qaq,?_,rfl⟩
       rw[hF,if_pos h5]
      ·have h5:qhg t.steps=0:=by simpa using h5
       rw[if_neg (by rw[h5];simp)] at hF
       repeat((with_reducible apply aI);exact sdp)
       refine qaf (Qlu _ ht.bst ht.blocks) ?_
       simp only[zC,seval]
       refine qef 1 (q77 _ _ Qk5 _ _ _ hst hf _ ht.blocks) (fun s=>rfl) (by rfl) hst ?_
       simp only[zC,seval]
       repeat((with_reducible apply aI);exact sdp)
       refine ifC.mk (fun h6=>?_) (fun h6=>?_)
       ·have h6:=bne_iff_ne.1 h6
        refine⟨_,_,qaq,?_,rfl⟩
        rw[hF,if_pos h6]
       ·have h6:qcr (bkF t.blocks) (qd0 t.threads) (fun x=>x.thread) t.blocks=0:=by simpa using h6
        rw[if_neg (by rw[h6];simp)] at hF
        repeat((with_reducible apply aI);exact sdp)
        refine qef 1 (Qpw _ _ hst hf _ ht.lost) (fun s=>rfl) (by rfl) hst ?_
        simp only[zC,seval]
        repeat((with_reducible apply aI);exact sdp)
        refine⟨_,_,qaq,?_,rfl⟩
        rw[hF]
 ·rw[if_pos hT] at hF
  refine qaf (q3m t ht hT) ?_
  simp only[zC,seval]
  repeat((with_reducible apply aI);exact sdp)
  refine ifC.mk (fun h1=>?_) (fun h1=>?_)
  ·refine⟨_,_,qaq,?_,rfl⟩
   rw[hF]
  ·exact absurd (by simpa using h1) hT
def qc6 (t:qat):Int:=if qfb t≠0 then qfb t else if(decide (t.lo<0)||decide (t.hi<t.lo)||decide (1000000000000<t.hi))=true then 2 else if qhl t=true then 10 else 0
theorem qrq (t:qat) (ht:t.Few):qbc prog Gl 25 [.d t.toD] (.d (.int .i64 (qc6 t))):=by
 refine qbc.of1 ?_
 obtain⟨F,hF⟩:∃F,F=qc6 t:=⟨_,rfl⟩
 rw[←hF]
 rw[qc6] at hF
 refine qac func25 rfl rfl (by simp[ntmps25]) (qab rfl _ _ _ _ ?_)
 simp only[ntmps25,results25,qak,List.length_nil]
 simp only[zC,seval]
 refine qaf (Qpo t ht) ?_
 simp only[zC,seval]
 refine ifC.mk (fun h1=>?_) (fun h1=>?_)
 ·have h1:=bne_iff_ne.1 h1
  refine⟨_,_,qaq,?_,rfl⟩
  rw[hF,if_pos h1]
 ·have h1:qfb t=0:=by simpa using h1
  rw[if_neg (by rw[h1];simp)] at hF
  repeat((with_reducible apply aI);exact sdp)
  refine ifC.mk (fun h2=>?_) (fun h2=>?_)
  ·refine⟨_,_,qaq,?_,rfl⟩
   rw[hF,if_pos h2]
  ·rw[if_neg (by rw[h2];simp)] at hF
   refine qaf (Qlb t ht) ?_
   simp only[zC,seval]
   refine ifC.mk (fun h3=>?_) (fun h3=>?_)
   ·refine⟨_,_,qaq,?_,rfl⟩
    rw[hF,if_pos h3]
   ·refine⟨_,_,qaq,?_,rfl⟩
    rw[hF,if_neg (by rw[h3];simp)]

theorem zU:type_of% (aI @zC (aI @qsn @qso)):=aI @zC (aI @qsn @qso)
def eqS (x:List UInt8):List UInt8→Bool:=fun y=>y==x
def hid (l:List qao) (what x:List UInt8):Bool:=qk2 what x l==q9m
def qgg (l:List qao) (what:List UInt8) (out:List (List UInt8)) (x:List UInt8):List (List UInt8):=if(hid l what x&&!out.any (eqS x))=true then out++[x] else out
def qd1 (l:List qao) (what:List UInt8) (s:List (List UInt8)):List (List UInt8):=s.foldl (qgg l what) []
theorem Qhe {α β:Type} [Inhabited α] (f:β→α→β) (b:β) (l:List α) (k:Nat) (h:k<l.length):(l.take (k+1)).foldl f b=f ((l.take k).foldl f b) (l.getD k default):=by
 rw[qa0 l k h,List.foldl_append];rfl
theorem Qcl (l:List qao) (what:List UInt8):∀(s out:List (List UInt8)),(s.foldl (qgg l what) out).length≤out.length+s.length
 | [],out=>by simp
 | x::s,out=>by
  have:=Qcl l what s (qgg l what out x)
  have h2:(qgg l what out x).length≤out.length+1:=by
   unfold qgg;split<;>simp
  simp only[List.foldl_cons,List.length_cons];omega
theorem qtr (l:List qao) (what:List UInt8) (s:List (List UInt8)):(qd1 l what s).length≤s.length:=by
 have:=Qcl l what s []
 simpa[qd1] using this
def qed (l:List qao) (what x:List UInt8):Bool:=(qk2 what x l==qgn)&&qs1 x qdl
def qgh (l:List qao) (what:List UInt8) (s:List (List UInt8)):Bool:=!(qd1 l what s).isEmpty&&s.any (qed l what)
theorem Qvv {n:Nat} (h:n<10000000):(Lib.decDigits n).length≤7:=by
 rw[Lib.decDigits_length]
 rw[Lib.nDigits];split
 ·omega
 rw[Lib.nDigits];split
 ·omega
 rw[Lib.nDigits];split
 ·omega
 rw[Lib.nDigits];split
 ·omega
 rw[Lib.nDigits];split
 ·omega
 rw[Lib.nDigits];split
 ·omega
 rw[Lib.nDigits];split
 ·omega
 exfalso;omega
def qh7 (H:List (List UInt8)) (x:List UInt8):List UInt8:=if qet (eqS x) H<0 then x else qdl++Lib.decDigits (qet (eqS x) H+1).toNat
def qbw (l:List qao) (what x:List UInt8):Bool:=qk2 what x l==qmk
def Qzu (l:List qao) (what:List UInt8) (H s:List (List UInt8)):List (List UInt8):=(s.filter fun x=>!qbw l what x).map (qh7 H)
def Q0o (l:List qao) (what:List UInt8) (s:List (List UInt8)):List (List UInt8):=Qzu l what (qd1 l what s) s
def Qn9 (l:List qao) (what:List UInt8) (s:List (List UInt8)):Int:=
 if qi9 l≠0 then qi9 l else if Qk3 what=false then 1
 else if qa3 (fun i=>qda (s.getD i default)) s.length≠0 then qa3 (fun i=>qda (s.getD i default)) s.length
 else if qgh l what s=true then 4 else 0
def Quv (l:List qao) (what:List UInt8) (s:List (List UInt8)):List (List UInt8):=if Qn9 l what s=0 then Q0o l what s else[]
end YtljpopkonkanlaaGreatDoor
end Go.Proofs


namespace Go.Proofs
open Go.Shelf
def Tryz.laysM171_ren:Go.Shelf.Ren:=⟨fun|171=>132|243=>185|246=>208|283=>215|284=>216|285=>217|286=>218|129=>224|317=>223|318=>225|319=>226|320=>227|337=>228|338=>229|n=>n,fun|3=>3|9=>9|2=>2|4=>4|171=>203|0=>0|53=>204|37=>207|5=>5|173=>208|212=>217|51=>218|20=>20|213=>219|46=>201|232=>222|233=>223|n=>n,fun|17=>3|18=>4|19=>5|n=>n⟩
theorem Tryz.laysM171:Go.Proofs.LaysM.n171 Tryz.prog Tryz.laysM171_ren:={
 mixed:=by kernel_rfl
 f129:=Tryz.func224.trans (congrArg some (by kernel_rfl))
 f171:=Tryz.func132.trans (congrArg some (by kernel_rfl))
 f243:=Tryz.func185.trans (congrArg some (by kernel_rfl))
 f246:=Tryz.func208.trans (congrArg some (by kernel_rfl))
 f283:=Tryz.func215.trans (congrArg some (by kernel_rfl))
 f284:=Tryz.func216.trans (congrArg some (by kernel_rfl))
 f285:=Tryz.func217.trans (congrArg some (by kernel_rfl))
 f286:=Tryz.func218.trans (congrArg some (by kernel_rfl))
 f317:=Tryz.func223.trans (congrArg some (by kernel_rfl))
 f318:=Tryz.func225.trans (congrArg some (by kernel_rfl))
 f319:=Tryz.func226.trans (congrArg some (by kernel_rfl))
 f320:=Tryz.func227.trans (congrArg some (by kernel_rfl))
 f337:=Tryz.func228.trans (congrArg some (by kernel_rfl))
 f338:=Tryz.func229.trans (congrArg some (by kernel_rfl))
 t0:=Tryz.underlying0
 a0:=Tryz.isAgg0
 z0:=Tryz.sizeOf0
 v0:=Tryz.zeroValue0
 t2:=Tryz.underlying2
 a2:=Tryz.isAgg2
 z2:=Tryz.sizeOf2
 v2:=Tryz.zeroValue2
 t3:=Tryz.underlying3
 a3:=Tryz.isAgg3
 z3:=Tryz.sizeOf3
 v3:=Tryz.zeroValue3
 t4:=Tryz.underlying4
 a4:=Tryz.isAgg4
 z4:=Tryz.sizeOf4
 v4:=Tryz.zeroValue4
 t5:=Tryz.underlying5
 a5:=Tryz.isAgg5
 z5:=Tryz.sizeOf5
 v5:=Tryz.zeroValue5
 t9:=Tryz.underlying9
 a9:=Tryz.isAgg9
 z9:=Tryz.sizeOf9
 v9:=Tryz.zeroValue9
 t20:=Tryz.underlying20
 a20:=Tryz.isAgg20
 z20:=Tryz.sizeOf20
 v20:=Tryz.zeroValue20
 t37:=Tryz.underlying207
 a37:=Tryz.isAgg207
 z37:=Tryz.sizeOf207
 v37:=Tryz.zeroValue207
 t46:=Tryz.underlying201
 a46:=Tryz.isAgg201
 z46:=Tryz.sizeOf201
 v46:=Tryz.zeroValue201
 t51:=Tryz.underlying218
 a51:=Tryz.isAgg218
 z51:=Tryz.sizeOf218
 v51:=Tryz.zeroValue218
 t53:=Tryz.underlying204
 a53:=Tryz.isAgg204
 z53:=Tryz.sizeOf204
 v53:=Tryz.zeroValue204
 t171:=Tryz.underlying203
 a171:=Tryz.isAgg203
 z171:=Tryz.sizeOf203
 v171:=Tryz.zeroValue203
 t173:=Tryz.underlying208
 a173:=Tryz.isAgg208
 z173:=Tryz.sizeOf208
 v173:=Tryz.zeroValue208
 t212:=Tryz.underlying217
 a212:=Tryz.isAgg217
 z212:=Tryz.sizeOf217
 v212:=Tryz.zeroValue217
 t213:=Tryz.underlying219
 a213:=Tryz.isAgg219
 z213:=Tryz.sizeOf219
 t232:=Tryz.underlying222
 a232:=Tryz.isAgg222
 z232:=Tryz.sizeOf222
 v232:=Tryz.zeroValue222
 t233:=Tryz.underlying223
 a233:=Tryz.isAgg223
 z233:=Tryz.sizeOf223
 v233:=Tryz.zeroValue223
 g17:=by kernel_rfl
 g18:=by kernel_rfl
 g19:=by kernel_rfl
 i0:=by kernel_rfl
 i2:=by kernel_rfl
 i3:=by kernel_rfl
 i4:=by kernel_rfl
 i5:=by kernel_rfl
 i9:=by kernel_rfl
 i20:=by kernel_rfl
 i37:=by kernel_rfl
 i46:=by kernel_rfl
 i51:=by kernel_rfl
 i53:=by kernel_rfl
 i171:=by kernel_rfl
 i173:=by kernel_rfl
 i212:=by kernel_rfl
 i232:=by kernel_rfl
 i233:=by kernel_rfl
 m17:=by kernel_rfl
 m18:=by kernel_rfl
 m19:=by kernel_rfl}
open Go.RowKit Go.Sort Go.Lib in
theorem Tryz.strconv_Itoa (n:Int) (h0:-9223372036854775808≤n) (h1:n≤9223372036854775807) (w:World) (htab:Lib.TabIs Tryz.prog w "internal/strconv.uint64pow10" .u64 Lib.pow10Tab) :
  Calls Tryz.prog 132 #[.int .i64 n] w fun e w'=>e=.returned (.string ⟨(Lib.itoa n).toArray⟩)∧∃k os,w'=grow (w.drewN k) os:=Any.strconv_Itoa Tryz.laysM171 n h0 h1 w htab
end Go.Proofs

set_option maxRecDepth 100000
namespace Go.Proofs
open Go.AM Tryz
namespace YtljpopkonkanlaaGreatDoor
def Q0t (g:Nat):qbb:=[(g,.agg (Lib.pow10Tab.map fun z=>.int .u64 z))]
theorem qsq:prog.globalNamed "internal/strconv.uint64pow10" = some 3:=by kernel_rfl
abbrev G2:qbb:=Q0t 3
theorem Qyn (n:Int) (h0:-9223372036854775808≤n) (h1:n≤9223372036854775807):qbc prog G2 132 [.d (.int .i64 n)] (.d (.str (Lib.itoa n))):=
 q22 func132 (by kernel_rfl) (by kernel_rfl) (fun w I μ σ vals hv hl=>Qi9 hv hl) (fun w I hG=>Tryz.strconv_Itoa n h0 h1 w (q9i hG qsq)) (fun w I μ σ=>.d _ _ (.str _))
theorem Qym (n:Nat) (h:n<10000000):qbc prog G2 61 [.d (.int .i64 n)] (.d (.str (Lib.decDigits n))):=by
 refine qbc.of1 ?_
 refine qac func61 rfl rfl (by simp[ntmps61]) (qab rfl _ _ _ _ ?_)
 simp only[ntmps61,results61,qak,List.length_nil]
 simp only[zU,seval]
 refine qaf (Qyn n (by omega) (by omega)) ?_
 simp only[zU,seval]
 have e:Lib.itoa (n:Int)=Lib.decDigits n:=by rw[Lib.itoa,if_neg (by omega)];rfl
 rw[←e]
 exact⟨_,_,qaq,rfl,rfl⟩
def qb2 (g:List UInt8→Option (List UInt8)):Key→Option AV
 | .s n=>(g n).map fun v=>.d (.str v)
 | .i _=>none
def Qv8 (g:List UInt8→Option (List UInt8)) (n v:List UInt8):List UInt8→Option (List UInt8):=fun m=>if m=n then some v else g m
theorem Qbw (g:List UInt8→Option (List UInt8)) (n:List UInt8):qb2 g (.s n)=(g n).map fun v=>.d (.str v):=rfl
theorem Qh0 (g:List UInt8→Option (List UInt8)) (n v:List UInt8):qhm (qb2 g) (.s n) (.d (.str v))=qb2 (Qv8 g n v):=by
 funext k
 cases k with
 | i m=>simp[qhm,qb2]
 | s m=>by_cases h:m=n<;>simp[qhm,qb2,Qv8,h]
theorem qk6 (g:List UInt8→Option (List UInt8)) (ρ:List Nat) (σ:Sto):(fun k=>(qb2 g k).map (qbk ρ σ))=qb2 g:=by
 funext k
 cases k with
 | i m=>rfl
 | s m=>simp only[qb2];cases g m<;>simp[qbk,qlw]
theorem q1n (g:List UInt8→Option (List UInt8)):∀k v,qb2 g k=some v→∃d,v=.d d:=by
 intro k v h
 cases k with
 | i m=>cases h
 | s m=>simp only[qb2] at h;cases e:g m with
  | none=>rw[e] at h;cases h
  | some u=>rw[e] at h;cases h;exact⟨_,rfl⟩
def qie (l:List qao) (what x:List UInt8):Bool:=qk2 what x l==qgn
def qdj (l:List qao) (what:List UInt8) (s:List (List UInt8)):List UInt8→Option (List UInt8):=fun x=>
 if s.any (eqS x)=true∧(hid l what x||qie l what x)=true then some (qh7 (qd1 l what s) x) else none
theorem qna (l:List qao) (what x:List UInt8):∀(s out:List (List UInt8)),(s.foldl (qgg l what) out).any (eqS x)=(out.any (eqS x)||(s.any (eqS x)&&hid l what x))
 | [],out=>by simp
 | y::s,out=>by
  rw[List.foldl_cons,qna l what x s,List.any_cons]
  by_cases hy:eqS x y=true
  ·have e:y=x:=by simpa[eqS] using hy
   subst e
   rw[hy,Bool.true_or,Bool.true_and]
   unfold qgg
   cases h1:hid l what y<;>cases h2:out.any (eqS y)<;>simp[h2,List.any_append,eqS]
  ·have hy:eqS x y=false:=by simpa using hy
   rw[hy,Bool.false_or]
   congr 1
   unfold qgg
   split
   ·rw[List.any_append];simp[hy]
   ·rfl
theorem qiq (l:List qao) (what x:List UInt8) (s:List (List UInt8)):(qd1 l what s).any (eqS x)=(s.any (eqS x)&&hid l what x):=by
 rw[qd1,qna];rfl
theorem q5g (l:List qao) (what x:List UInt8) (s:List (List UInt8)):qd1 l what (s++[x])=qgg l what (qd1 l what s) x:=by
 rw[qd1,List.foldl_append];rfl
theorem qwt {α:Type} (p:α→Bool) (x:α):∀l:List α,qet p (l++[x])=if qet p l<0 then(if p x=true then(l.length:Int) else -1) else qet p l
 | []=>by
  simp only[List.nil_append,qet]
  split<;>simp
 | y::l=>by
  have ih:=qwt p x l
  have hg:=qi5 p l
  simp only[List.cons_append,qet,ih,List.length_cons]
  by_cases h:p y=true
  ·simp[h]
  ·simp only[h,if_false]
   by_cases h1:qet p l<0
   ·have e:qet p l=-1:=by omega
    simp only[e]
    by_cases hx:p x=true
    ·simp[hx]
    ·simp[hx]
   ·have e1:¬qet p l=-1:=by omega
    simp[h1,e1];omega
theorem qh6 {l:List qao} {what x:List UInt8} {s:List (List UInt8)} (h:hid l what x=true→s.any (eqS x)=true):qd1 l what (s++[x])=qd1 l what s:=by
 rw[q5g,qgg,if_neg]
 intro hc
 simp only[Bool.and_eq_true,Bool.not_eq_true'] at hc
 have:=qiq l what x s
 rw[h hc.1,hc.1,hc.2] at this
 cases this
theorem Qck {l:List qao} {what x:List UInt8} {s:List (List UInt8)} (h1:hid l what x=true) (h2:s.any (eqS x)=false):qd1 l what (s++[x])=qd1 l what s++[x]:=by
 rw[q5g,qgg,if_pos]
 rw[qiq,h2,h1];rfl
theorem Qjc {H:List (List UInt8)} {x y:List UInt8} (h:H.any (eqS y)=true∨x≠y):qh7 (H++[x]) y=qh7 H y:=by
 have h2:qet (eqS y) (H++[x])=qet (eqS y) H:=by
  rw[qwt]
  have hg:=qd5 (eqS y) H
  have hge:=qi5 (eqS y) H
  by_cases h0:qet (eqS y) H<0
  ·rw[if_pos h0]
   have ha:H.any (eqS y)=false:=by rw[←hg];simp;omega
   rcases h with h|h
   ·rw[ha] at h;cases h
   ·rw[if_neg (by simpa[eqS] using h)];omega
  ·rw[if_neg h0]
 rw[qh7,h2];rfl
theorem Qjd {H:List (List UInt8)} {x:List UInt8} (h:H.any (eqS x)=false):qh7 H x=x:=by
 have hg:=qd5 (eqS x) H
 rw[h] at hg
 rw[qh7,if_pos (by simp at hg;omega)]
theorem Qje {H:List (List UInt8)} {x:List UInt8} (h:H.any (eqS x)=false):qh7 (H++[x]) x=qdl++Lib.decDigits (H.length+1):=by
 have hg:=qd5 (eqS x) H
 rw[h] at hg
 have e:qet (eqS x) (H++[x])=H.length:=by
  rw[qwt,if_pos (by simp at hg;omega),if_pos (by simp[eqS])]
 rw[qh7,e,if_neg (by omega)]
 congr 2
theorem qrw {x y:List UInt8}:eqS x y=true↔y=x:=by simp[eqS]
theorem qoz (s:List (List UInt8)) (x y:List UInt8):(s++[x]).any (eqS y)=(s.any (eqS y)||eqS y x):=by simp[List.any_append]
theorem Ql7 {l:List qao} {what x:List UInt8} {s:List (List UInt8)} (h:s.any (eqS x)=true):qdj l what (s++[x])=qdj l what s:=by
 funext y
 rw[qdj,qdj,qh6 (fun _=>h),qoz]
 have:(s.any (eqS y)||eqS y x)=s.any (eqS y):=by
  cases e:eqS y x with
  | false=>rw[Bool.or_false]
  | true=>rw[qrw.1 e] at h;rw[h];rfl
 rw[this]
theorem Ql8 {l:List qao} {what x:List UInt8} {s:List (List UInt8)} (h1:hid l what x=false) (h2:qie l what x=false):qdj l what (s++[x])=qdj l what s:=by
 funext y
 rw[qdj,qdj,qh6 (fun h=>by rw[h1] at h;cases h),qoz]
 by_cases e:eqS y x=true
 ·have:=qrw.1 e;subst this
  rw[h1,h2];simp
 ·have e:eqS y x=false:=by simpa using e
  rw[e,Bool.or_false]
theorem Qqd {l:List qao} {what x:List UInt8} {s:List (List UInt8)} (h1:hid l what x=true) (h2:s.any (eqS x)=false):qdj l what (s++[x])=Qv8 (qdj l what s) x (qdl++Lib.decDigits ((qd1 l what s).length+1)):=by
 have h3:(qd1 l what s).any (eqS x)=false:=by rw[qiq,h2];rfl
 funext y
 rw[Qv8,qdj,qdj,Qck h1 h2,qoz]
 by_cases e:eqS y x=true
 ·have:=qrw.1 e;subst this
  rw[e,Bool.or_true,h1,if_pos ⟨rfl,rfl⟩,if_pos rfl,Qje h3]
 ·have e0:x≠y:=fun h=>e (qrw.2 h)
  have e:eqS y x=false:=by simpa using e
  rw[e,Bool.or_false,Qjc (.inr e0),if_neg (show ¬y=x from fun h=>e0 h.symm)]
theorem Ql9 {l:List qao} {what x:List UInt8} {s:List (List UInt8)} (h1:qie l what x=true) (h2:s.any (eqS x)=false) (h3:hid l what x=false):qdj l what (s++[x])=Qv8 (qdj l what s) x x:=by
 have h4:(qd1 l what s).any (eqS x)=false:=by rw[qiq,h2];rfl
 funext y
 rw[Qv8,qdj,qdj,qh6 (fun h=>by rw[h3] at h;cases h),qoz]
 by_cases e:eqS y x=true
 ·have:=qrw.1 e;subst this
  rw[e,Bool.or_true,h1,h3,if_pos ⟨rfl,rfl⟩,if_pos rfl,Qjd h4]
 ·have e0:x≠y:=fun h=>e (qrw.2 h)
  have e:eqS y x=false:=by simpa using e
  rw[e,Bool.or_false,if_neg (show ¬y=x from fun h=>e0 h.symm)]
theorem Quy {l:List qao} {what x:List UInt8} {s:List (List UInt8)} (h:s.any (eqS x)=true):(s++[x]).any (qed l what)=s.any (qed l what):=by
 rw[List.any_append,List.any_cons,List.any_nil,Bool.or_false]
 cases e:qed l what x with
 | false=>rw[Bool.or_false]
 | true=>
  obtain⟨y,hy,hxy⟩:=List.any_eq_true.1 h
  have:=qrw.1 hxy;subst this
  rw[List.any_eq_true.2 ⟨y,hy,e⟩];rfl
theorem Q0p {l:List qao} {what x:List UInt8} {s:List (List UInt8)} (h:qie l what x=false):(s++[x]).any (qed l what)=s.any (qed l what):=by
 rw[List.any_append,List.any_cons,List.any_nil,Bool.or_false,qed,show(qk2 what x l==qgn)=false from h,Bool.false_and,Bool.or_false]
theorem Q0v {l:List qao} {what x:List UInt8} {s:List (List UInt8)} (h:qie l what x=true):(s++[x]).any (qed l what)=(s.any (qed l what)||qs1 x qdl):=by
 rw[List.any_append,List.any_cons,List.any_nil,Bool.or_false,qed,show(qk2 what x l==qgn)=true from h,Bool.true_and]
theorem Qal {l:List qao} {what x:List UInt8} (h:hid l what x=true):qie l what x=false:=by
 rw[hid,beq_iff_eq] at h
 rw[qie,h];rfl
theorem qwv (a:List D) (b:List UInt8) (g:List UInt8→Option (List UInt8)):qdy [0,1] (freezeL [.box 3 (.agg [.d (.sl a),.d (.str b),.mapr 1]),.map none (qb2 g)] [])=[.box 3 (.agg [.d (.sl a),.d (.str b),.mapr 1]),.map none (qb2 g)]:=by
 show[qbs [0,1] _ (.box 3 (.agg [.d (.sl a),.d (.str b),.mapr 1])),.map none (fun k=>(qb2 g k).map (qbk [0,1] _))]=_
 rw[qk6];rfl
theorem q1r (l:List qao) (what:List UInt8) (s:List (List UInt8)) (hl:l.length<1000000) (hs:s.length<1000000):qal prog G2 36 [.d (.sl (l.map qao.toD)),.d (.str what),.d (.sl (s.map .str))] []
  (fun r σ=>r=.tup [.ptr 0 0,.d (.bool (!qgh l what s))]∧σ=[.box 3 (.agg [.d (.sl (l.map qao.toD)),.d (.str what),.mapr 1]),.map none (qb2 (qdj l what s))]):=by
 refine qac func36 rfl rfl (by simp[ntmps36]) (qab rfl _ _ _ _ ?_)
 simp only[ntmps36,results36,qak,List.length_nil]
 simp only[zU,seval]
 repeat((with_reducible apply aI);exact sdp)
 refine qap s.length (fun k=>[(0,.d (.sl (l.map qao.toD))),(1,.d (.str what)),(8,.ptr 0 0),(9,.d (.int .i64 (qd1 l what (s.take k)).length)),(10,.d (.bool ((s.take k).any (qed l what)))),(20,.d (.sl (s.map .str))),(21,.d (.int .i64 s.length)),(22,.d (.int .i64 k))])
  (fun k=>[.box 3 (.agg [.d (.sl (l.map qao.toD)),.d (.str what),.mapr 1]),.map none (qb2 (qdj l what (s.take k)))]) (fun _=>True) trivial ?_ ?_
 ·refine qaa [] [1,0] rfl (by simp) ?_ ?_
  ·simp only[zU,seval]
   all_goals rfl
  ·have e:qb2 (qdj l what (List.take 0 s))=fun _=>none:=by
    funext k;cases k<;>simp[qb2,qdj]
   rw[e];rfl
 ·intro k _ hk
  have hyl:=qtr l what (s.take k)
  rw[List.length_take] at hyl
  by_cases h:k<s.length
  ·obtain⟨x,hx⟩:∃x,x=s.getD k default:=⟨_,rfl⟩
   have ht:s.take (k+1)=s.take k++[x]:=by rw[qa0 s k h,←hx]
   have hg:(s.map D.str).getD k default=.str x:=by rw[qaj _ _ _ h,hx]
   obtain⟨p,hp⟩:∃p,p=s.take k:=⟨_,rfl⟩
   rw[←hp] at ht hyl ⊢
   rw[ht]
   by_cases hh:p.any (eqS x)=true∧(hid l what x||qie l what x)=true
   ·have e:qdj l what p x=some (qh7 (qd1 l what p) x):=by rw[qdj,if_pos hh]
    rw[qh6 (fun _=>hh.1),Ql7 hh.1]
    simp only[zU,seval,(show(k:Int)<s.length by omega),h,hg,Qbw,e,Option.map_some,Option.getD_some,Option.isSome_some]
    repeat((with_reducible apply aI);exact sdp)
    refine qaa [] [0,1] rfl (by simp) ?_ ?_
    ·simp only[zU,seval,@qag ((k:Int)+1) (by omega),Quy hh.1]
     all_goals rfl
    ·exact qwv _ _ _
   have e:qdj l what p x=none:=by rw[qdj,if_neg hh]
   simp only[zU,seval,(show(k:Int)<s.length by omega),h,hg,Qbw,e,Option.map_none,Option.getD_none,Option.isSome_none]
   repeat((with_reducible apply aI);exact sdp)
   refine qaf (qgq l what x hl) ?_
   simp only[zU,seval]
   refine ifC.mk (fun h1=>?_) (fun h1=>?_)
   ·have h1:hid l what x=true:=h1
    have h2:p.any (eqS x)=false:=by
     cases e2:p.any (eqS x) with
     | false=>rfl
     | true=>exact absurd ⟨e2,by rw[h1];rfl⟩ hh
    rw[Qck h1 h2,Qqd h1 h2,Q0p (Qal h1)]
    (try simp only[zU,seval,@qag (((qd1 l what p).length:Int)+1) (by omega)])
    repeat((with_reducible apply aI);exact sdp)
    refine qaf (Qym ((qd1 l what p).length+1) (by omega)) ?_
    have hdl:=Qvv (n:=(qd1 l what p).length+1) (by omega)
    simp only[zU,seval]
    repeat((with_reducible apply aI);exact sdp)
    refine qaa [] [0,1] rfl (by simp) ?_ ?_
    ·simp only[zU,seval,@qag ((k:Int)+1) (by omega)]
     all_goals rfl
    ·simp only[zU,seval,Qh0]
     exact qwv _ _ _
   ·have h1:hid l what x=false:=h1
    refine ifC.mk (fun h3=>?_) (fun h3=>?_)
    ·have h3:qie l what x=true:=h3
     have h2:p.any (eqS x)=false:=by
      cases e2:p.any (eqS x) with
      | false=>rfl
      | true=>exact absurd ⟨e2,by rw[h3];simp⟩ hh
     rw[qh6 (fun h=>by rw[h1] at h;cases h),Ql9 h3 h2 h1,Q0v h3]
     (try simp only[zU,seval])
     refine qav (fun _=>qwr _ _) ?_
     simp only[zU,seval]
     repeat((with_reducible apply aI);exact sdp)
     refine qaa [] [0,1] rfl (by simp) ?_ ?_
     ·simp only[zU,seval,@qag ((k:Int)+1) (by omega)]
      all_goals rfl
     ·simp only[zU,seval,Qh0]
      exact qwv _ _ _
    ·have h3:qie l what x=false:=h3
     rw[qh6 (fun h=>by rw[h1] at h;cases h),Ql8 h1 h3,Q0p h3]
     refine qaa [] [0,1] rfl (by simp) ?_ ?_
     ·simp only[zU,seval,@qag ((k:Int)+1) (by omega)]
      all_goals rfl
     ·exact qwv _ _ _
  ·have:k=s.length:=by omega
   subst this
   simp only[zU,seval,(show ¬(s.length:Int)<s.length by omega),List.take_length]
   refine⟨_,_,qah [] [0,1] rfl (by simp) (show qbk _ _ _=AV.tup [.ptr 0 0,.d _] from rfl) (qwv _ _ _),?_,rfl⟩
   rw[qgh]
   cases e:qd1 l what s with
   | nil=>rfl
   | cons a b=>
    have e2:(((a::b).length:Int)==0)=false:=by simp;omega
    rw[e2];cases s.any (qed l what)<;>rfl

def q4l (g:List UInt8→Option (List UInt8)) (s:List (List UInt8)):List (List UInt8):=s.filterMap g
theorem Qzd {g:List UInt8→Option (List UInt8)} {s:List (List UInt8)} {x v:List UInt8} (h:g x=some v):q4l g (s++[x])=q4l g s++[v]:=by
 rw[q4l,List.filterMap_append];simp[h,q4l]
theorem Qze {g:List UInt8→Option (List UInt8)} {s:List (List UInt8)} {x:List UInt8} (h:g x=none):q4l g (s++[x])=q4l g s:=by
 rw[q4l,List.filterMap_append];simp[h,q4l]
theorem Qv5 (g:List UInt8→Option (List UInt8)) (s:List (List UInt8)):(q4l g s).length≤s.length:=List.length_filterMap_le _ _
theorem Qew (a:List D) (b:List UInt8) (g:List UInt8→Option (List UInt8)) (xs:List D):qdy [0,1,2] (freezeL [.box 3 (.agg [.d (.sl a),.d (.str b),.mapr 1]),.map none (qb2 g),.arr 1 xs] [])=[.box 3 (.agg [.d (.sl a),.d (.str b),.mapr 1]),.map none (qb2 g),.arr 1 xs]:=by
 show[qbs [0,1,2] _ (.box 3 (.agg [.d (.sl a),.d (.str b),.mapr 1])),.map none (fun k=>(qb2 g k).map (qbk [0,1,2] _)),_]=_
 rw[qk6];rfl
theorem Qqb (a:List D) (b:List UInt8) (g:List UInt8→Option (List UInt8)) (σ:Sto):qdy [0,1] (freezeL (.box 3 (.agg [.d (.sl a),.d (.str b),.mapr 1])::.map none (qb2 g)::σ) [])=[.box 3 (.agg [.d (.sl a),.d (.str b),.mapr 1]),.map none (qb2 g)]:=by
 show[qbs [0,1] _ (.box 3 (.agg [.d (.sl a),.d (.str b),.mapr 1])),.map none (fun k=>(qb2 g k).map (qbk [0,1] _))]=_
 rw[qk6];rfl
theorem Qqc (a:List D) (b:List UInt8) (g:List UInt8→Option (List UInt8)) (xs:List D) (B1 B2:Blk):qdy [0,1,4] (freezeL [.box 3 (.agg [.d (.sl a),.d (.str b),.mapr 1]),.map none (qb2 g),B1,B2,.arr 1 xs] [])=[.box 3 (.agg [.d (.sl a),.d (.str b),.mapr 1]),.map none (qb2 g),.arr 1 xs]:=by
 show[qbs [0,1,4] _ (.box 3 (.agg [.d (.sl a),.d (.str b),.mapr 1])),.map none (fun k=>(qb2 g k).map (qbk [0,1,4] _)),_]=_
 rw[qk6];rfl
theorem Qu7 {Gl:qbb} (a:List D) (b:List UInt8) (g:List UInt8→Option (List UInt8)) (s:List (List UInt8)) (hs:s.length<1000000):qal prog Gl 37 [.ptr 0 0,.d (.sl (s.map .str))] [.box 3 (.agg [.d (.sl a),.d (.str b),.mapr 1]),.map none (qb2 g)]
  (fun r σ=>r=.d (.sl ((q4l g s).map .str))∧σ=[.box 3 (.agg [.d (.sl a),.d (.str b),.mapr 1]),.map none (qb2 g)]):=by
 refine qac func37 rfl rfl (by simp[ntmps37]) (qab rfl _ _ _ _ ?_)
 simp only[ntmps37,results37,qak,List.length_nil]
 simp only[zU,seval]
 refine qap s.length (fun k=>[(0,.ptr 0 0),(5,.osl 2 0 (q4l g (s.take k)).length),(10,.d (.sl (s.map .str))),(11,.d (.int .i64 s.length)),(12,.d (.int .i64 k))])
  (fun k=>[.box 3 (.agg [.d (.sl a),.d (.str b),.mapr 1]),.map none (qb2 g),.arr 1 ((q4l g (s.take k)).map .str)]) (fun _=>True) trivial ?_ ?_
 ·refine(qep 5 1 rfl).trans ?_
  refine qaa [] [0,1,2] rfl (by simp) ?_ ?_
  ·simp only[zU,seval]
   all_goals rfl
  ·exact Qew _ _ _ _
 ·intro k _ hk
  have hyl:=Qv5 g (s.take k)
  rw[List.length_take] at hyl
  by_cases h:k<s.length
  ·obtain⟨x,hx⟩:∃x,x=s.getD k default:=⟨_,rfl⟩
   have ht:s.take (k+1)=s.take k++[x]:=by rw[qa0 s k h,←hx]
   have hg:(s.map D.str).getD k default=.str x:=by rw[qaj _ _ _ h,hx]
   obtain⟨p,hp⟩:∃p,p=s.take k:=⟨_,rfl⟩
   rw[←hp] at ht hyl ⊢
   rw[ht]
   cases e:g x with
   | none=>
    rw[Qze e]
    simp only[zU,seval,(show(k:Int)<s.length by omega),h,hg,Qbw,e,Option.map_none,Option.getD_none,Option.isSome_none]
    repeat((with_reducible apply aI);exact sdp)
    refine qaa [] [0,1,2] rfl (by simp) ?_ ?_
    ·simp only[zU,seval,@qag ((k:Int)+1) (by omega)]
     all_goals rfl
    ·exact Qew _ _ _ _
   | some v=>
    rw[Qzd e]
    simp only[zU,seval,(show(k:Int)<s.length by omega),h,hg,Qbw,e,Option.map_some,Option.getD_some,Option.isSome_some]
    repeat((with_reducible apply aI);exact sdp)
    (try simp only[zU,seval,qbe])
    repeat((with_reducible apply aI);exact sdp)
    rw[List.map_append]
    refine qaa [] [0,1,4] rfl (by simp) ?_ ?_
    ·simp only[zU,seval,@qag ((k:Int)+1) (by omega)]
     all_goals rfl
    ·exact Qqc _ _ _ _ _ _
  ·have:k=s.length:=by omega
   subst this
   simp only[zU,seval,(show ¬(s.length:Int)<s.length by omega),List.take_length]
   refine⟨_,_,(qdd rfl).trans (qah [] [0,1] rfl (by simp) (show qbk _ _ _=AV.d _ from rfl) (Qqb _ _ _ _)),?_,rfl⟩
   simp only[zU,seval,qbe]
theorem Qfv (what x:List UInt8):∀l:List qao,qk2 what x l=qgn∨∃r∈l,qk2 what x l=r.action
 | []=>.inl rfl
 | r::l=>by
  rw[qk2]
  by_cases h:Qhb what x r=true
  ·rw[if_pos h];exact .inr ⟨r,List.mem_cons_self,rfl⟩
  ·rw[if_neg h]
   rcases Qfv what x l with h1|⟨q,hq,h1⟩
   ·exact .inl h1
   ·exact .inr ⟨q,List.mem_cons_of_mem _ hq,h1⟩
theorem Qan {α:Type} [Inhabited α] {l:List α} {x:α} (h:x∈l):∃k,k<l.length∧l.getD k default=x:=by
 obtain⟨k,hk,e⟩:=List.getElem_of_mem h
 exact⟨k,hk,by simp[hk,e]⟩
theorem Qq0 {l:List qao} (h:qi9 l=0) {r:qao} (hr:r∈l):Qv3 r=false∧(r.prefix_=[]∨qda r.prefix_=0):=by
 rw[qi9] at h
 split at h
 ·cases h
 ·obtain⟨k,hk,rfl⟩:=Qan hr
  have:=qca h k hk
  simp only[q5h] at this
  split at this
  ·cases this
  ·rename_i hb
   refine⟨by simpa using hb,?_⟩
   split at this
   ·rename_i hp;exact .inl hp
   ·exact .inr this
theorem Qn6 {l:List qao} (h:qi9 l=0) (what x:List UInt8):qk2 what x l=qgn∨qk2 what x l=q9m∨qk2 what x l=qmk:=by
 rcases Qfv what x l with h1|⟨r,hr,h1⟩
 ·exact .inl h1
 ·have hb:=(Qq0 h hr).1
  rw[h1]
  rw[Qv3,Bool.or_eq_false_iff] at hb
  have h2:=hb.2
  by_cases e1:r.action=qgn
  ·exact .inl e1
  by_cases e2:r.action=q9m
  ·exact .inr (.inl e2)
  by_cases e3:r.action=qmk
  ·exact .inr (.inr e3)
  exfalso
  rw[show(r.action==qgn)=false by simpa using e1,show(r.action==q9m)=false by simpa using e2,show(r.action==qmk)=false by simpa using e3] at h2
  cases h2
theorem Qzf {l:List qao} (h:qi9 l=0) (what x:List UInt8):(hid l what x||qie l what x)=!qbw l what x:=by
 rcases Qn6 h what x with e|e|e<;>rw[hid,qie,qbw,e]<;>rfl
theorem qru {α β:Type} {f:α→Option β} {p:α→Bool} {g:α→β}:∀(s:List α),(∀x∈s,f x=if p x=true then some (g x) else none)→s.filterMap f=(s.filter p).map g
 | [],_=>rfl
 | x::s,h=>by
  have ih:=qru s fun y hy=>h y (List.mem_cons_of_mem _ hy)
  have h1:=h x List.mem_cons_self
  by_cases hp:p x=true
  ·rw[if_pos hp] at h1
   rw[List.filterMap_cons,h1,List.filter_cons,if_pos hp,List.map_cons,ih]
  ·rw[if_neg hp] at h1
   rw[List.filterMap_cons,h1,List.filter_cons,if_neg hp,ih]
theorem Qra {s:List (List UInt8)} {x:List UInt8} (h:x∈s):s.any (eqS x)=true:=List.any_eq_true.2 ⟨x,h,qrw.2 rfl⟩
theorem Qvd {l:List qao} (h:qi9 l=0) (what:List UInt8) {S:List (List UInt8)} {x:List UInt8} (hx:x∈S):qdj l what S x=if(!qbw l what x)=true then some (qh7 (qd1 l what S) x) else none:=by
 rw[qdj,Qra hx,Qzf h];simp
theorem Qrd {l:List qao} (h:qi9 l=0) (what:List UInt8) {S s:List (List UInt8)} (hs:∀x∈s,x∈S):q4l (qdj l what S) s=Qzu l what (qd1 l what S) s:=by
 rw[q4l,Qzu]
 exact qru _ fun x hx=>Qvd h what (hs x hx)
theorem Qv4 {l:List qao} (h:qi9 l=0) (what:List UInt8) (s:List (List UInt8)):q4l (qdj l what s) s=Q0o l what s:=Qrd h what fun _ hx=>hx
theorem Qu8 (l:List qao) (what:List UInt8) (s:List (List UInt8)) (hl:l.length<1000000) (hs:s.length<1000000):qbc prog G2 15 [.d (.sl (l.map qao.toD)),.d (.str what),.d (.sl (s.map .str))] (.tup [.d (.sl ((Quv l what s).map .str)),.d (.int .i64 (Qn9 l what s))]):=by
 refine qbc.of3t2 ?_
 refine qac func15 rfl rfl (by simp[ntmps15]) (qab rfl _ _ _ _ ?_)
 simp only[ntmps15,results15,qak,List.length_nil]
 simp only[zU,seval]
 refine qaf (Qaj l hl) ?_
 simp only[zU,seval]
 refine ifC.mk (fun h0=>?_) (fun h0=>?_)
 ·have h0:qi9 l≠0:=by simpa using h0
  have e:Qn9 l what s=qi9 l:=by rw[Qn9,if_pos h0]
  refine⟨_,_,qd2 rfl rfl,?_,rfl⟩
  rw[Quv,e,if_neg h0];rfl
 have h0:qi9 l=0:=by simpa using h0
 (try simp only[zU,seval])
 refine qaf (Qtl what) ?_
 simp only[zU,seval]
 refine ifC.mk (fun h1=>?_) (fun h1=>?_)
 ·have h1:Qk3 what=false:=by simpa using h1
  have e:Qn9 l what s=1:=by rw[Qn9,if_neg (by rw[h0];simp),if_pos h1]
  refine⟨_,_,qd2 rfl rfl,?_,rfl⟩
  rw[Quv,e,if_neg (by decide)];rfl
 have h1:¬Qk3 what=false:=by simpa using h1
 have e1:Qn9 l what s=if qa3 (fun i=>qda (s.getD i default)) s.length≠0 then qa3 (fun i=>qda (s.getD i default)) s.length
   else if qgh l what s=true then 4 else 0:=by rw[Qn9,if_neg (by rw[h0];simp),if_neg h1]
 (try simp only[zU,seval])
 refine qap s.length (fun k=>[(0,.d (.sl (l.map qao.toD))),(1,.d (.str what)),(2,.d (.sl (s.map .str))),(22,.d (.sl (s.map .str))),(23,.d (.int .i64 s.length)),(24,.d (.int .i64 k))]) (fun _=>[]) (fun k=>qa3 (fun i=>qda (s.getD i default)) k=0) rfl ?_ ?_
 ·refine qaa [] [] rfl List.nodup_nil ?_ rfl
  simp only[zU,seval]
  all_goals rfl
 intro k hi hk
 by_cases h:k<s.length
 ·have hst:=qoq hi
  simp only[zU,seval,(show(k:Int)<s.length by omega),h,qaj _ _ _ (show k<s.length by omega)]
  repeat((with_reducible apply aI);exact sdp)
  refine qaf (q1t _) ?_
  simp only[zU,seval]
  refine ifC.mk (fun h2=>?_) (fun h2=>?_)
  ·have h2:qda (s.getD k default)≠0:=by simpa using h2
   have e2:=qby hi h2 h
   have e:Qn9 l what s=qda (s.getD k default):=by rw[e1,e2,if_pos h2]
   refine⟨_,_,qd2 rfl rfl,?_,rfl⟩
   rw[Quv,e,if_neg h2];rfl
  ·have h2:qda (s.getD k default)=0:=by simpa using h2
   refine⟨by rw[hst,h2],?_⟩
   refine qaa [] [] rfl List.nodup_nil ?_ rfl
   simp only[zU,seval,@qag ((k:Int)+1) (by omega)]
   all_goals rfl
 have:k=s.length:=by omega
 subst this
 rw[if_neg (by rw[hi];simp)] at e1
 simp only[zU,seval,(show ¬(s.length:Int)<s.length by omega)]
 refine qaz ((q1r l what s hl hs).mono fun r σ ⟨er,es⟩=>?_)
 subst er es
 simp only[zU,seval]
 refine ifC.mk (fun h2=>?_) (fun h2=>?_)
 ·have h2:qgh l what s=true:=by simpa using h2
  rw[if_pos h2] at e1
  refine⟨_,_,qd2 rfl rfl,?_,rfl⟩
  rw[Quv,e1,if_neg (by decide)];rfl
 have h2:qgh l what s=false:=by simpa using h2
 rw[if_neg (by rw[h2];simp)] at e1
 (try simp only[zU,seval])
 refine qaz ((Qu7 (l.map qao.toD) what (qdj l what s) s hs).mono fun r σ ⟨er,es⟩=>?_)
 subst er es
 simp only[zU,seval]
 refine⟨_,_,qyx,?_,rfl⟩
 rw[Quv,e1,if_pos rfl,Qv4 h0]
end YtljpopkonkanlaaGreatDoor
end Go.Proofs

set_option maxRecDepth 100000
namespace Go.Proofs
open Go.AM Tryz
namespace YtljpopkonkanlaaGreatDoor
variable {Gl:qbb}
def qxv (s:List UInt8):List D:=(List.range 256).map fun q=>.bool (s.any fun c=>c.toNat==q)
theorem Qci (s:List UInt8) {q:Nat} (h:q<256):(qxv s).getD q default=.bool (s.any fun c=>c.toNat==q):=by simp[qxv,h]
theorem q2r (s:List UInt8):(qxv s).length=256:=by simp[qxv]
theorem q1s (s:List UInt8) (c:UInt8):qal prog Gl 191 [.ptr 0 0,.d (.int .u8 (c.toNat:Int))] [.box 256 (.d (.agg (qxv s)))] (fun r σ=>r=.d (.bool (s.any fun x=>x==c))∧σ=[.box 256 (.d (.agg (qxv s)))]):=by
 refine qac func191 rfl rfl (by simp[ntmps191]) (qab rfl _ _ _ _ ?_)
 simp only[ntmps191,results191,qak,List.length_nil]
 simp only[zU,seval]
 have hc:c.toNat<256:=c.toNat_lt
 refine⟨⟨rfl,by omega,by omega,by omega⟩,by omega,_,_,qah [] [0] rfl (by simp) (show qbk _ _ _=AV.d _ from rfl) rfl,?_,rfl⟩
 rw[Nat.mul_one,Qci s hc]
 congr 2
 congr 1
 funext x
 rw[Bool.eq_iff_iff]
 simp[UInt8.toNat_inj]
theorem Qou (p:List UInt8) (x:UInt8):List.map (fun j=>if x.toNat*1≤j∧j<x.toNat*1+1 then AV.d ([D.bool true].getD (j-x.toNat*1) default) else AV.d ((qxv p).getD j default)) (List.range 256)=(qxv (p++[x])).map AV.d:=by
 refine List.ext_getElem (by simp[qxv]) fun j h1 h2=>?_
 have hj:j<256:=by simpa using h1
 simp only[List.getElem_map,List.getElem_range]
 rw[Qci p hj]
 have e:(qxv (p++[x]))[j]'(by simpa[qxv] using hj)=.bool ((p++[x]).any fun c=>c.toNat==j):=by simp[qxv]
 rw[e,List.any_append]
 by_cases h:x.toNat=j
 ·rw[if_pos (by omega),show j-x.toNat*1=0 by omega]
  simp[h]
 ·rw[if_neg (by omega)]
  simp[h]
theorem Qlc (s:List UInt8) (hs:s.length<1000) (ha:∀c∈s,c.toNat<128):qbc prog Gl 152 [.d (.str s)] (.tup [.d (.agg (qxv s)),.d (.bool true)]):=by
 refine qbc.of1t2 ?_
 refine qac func152 rfl rfl (by simp[ntmps152]) (qab rfl _ _ _ _ ?_)
 simp only[ntmps152,results152,qak,List.length_nil]
 simp only[zU,seval]
 refine qap s.length (fun k=>[(0,.d (.str s)),(2,.ptr 0 0),(4,.d (.int .i64 k))]) (fun k=>[.box 256 (.d (.agg (qxv (s.take k))))]) (fun _=>True) trivial ?_ ?_
 ·refine qaa [] [0] rfl (by simp) ?_ ?_
  ·simp only[zU,seval]
   all_goals rfl
  ·have e:qxv []=List.replicate 256 (D.bool false):=by
    refine List.ext_getElem (by rw[q2r,List.length_replicate]) fun j h1 h2=>?_
    rw[List.getElem_replicate];simp[qxv]
   rw[List.take_zero,e];rfl
 ·intro k _ hk
  by_cases h:k<s.length
  ·obtain⟨x,hx⟩:∃x,x=s.getD k default:=⟨_,rfl⟩
   have ht:s.take (k+1)=s.take k++[x]:=by rw[qa0 s k h,←hx]
   have hd:s.getD k 0=x:=by rw[hx];rfl
   have hxa:=ha x (by rw[hx];exact qbh h)
   simp only[zU,seval,(show(k:Int)<s.length by omega),hd]
   repeat((with_reducible apply aI);exact sdp)
   refine ifC.mk (fun h1=>?_) (fun h1=>?_)
   ·exfalso;simp at h1;omega
   refine⟨⟨rfl,by omega,by omega,by omega⟩,by omega,h,?_⟩
   refine qaa [] [0] rfl (by simp) ?_ ?_
   ·simp only[zU,seval,@qag ((k:Int)+1) (by omega)]
    all_goals rfl
   ·rw[ht,Qou,Qre]
    rfl
  ·have:k=s.length:=by omega
   subst this
   simp only[zU,seval,(show ¬(s.length:Int)<s.length by omega),List.take_length]
   exact⟨q2r s,_,_,qyx,rfl,rfl⟩
def inS (cs:List UInt8) (c:UInt8):Bool:=cs.any fun x=>x==c
def qr3 (cs s:List UInt8):List UInt8:=(s.reverse.dropWhile (inS cs)).reverse
def q9c (cs s:List UInt8):List UInt8:=s.dropWhile (inS cs)
theorem qyl (cs v:List UInt8) (c:UInt8):qr3 cs (v++[c])=if inS cs c=true then qr3 cs v else v++[c]:=by
 rw[qr3,List.reverse_append,List.reverse_singleton,List.singleton_append,List.dropWhile_cons]
 split
 ·rfl
 ·rw[List.reverse_cons,List.reverse_reverse]
theorem q91 (s cs:List UInt8) (hs:s.length<9223372036854775808):qal prog Gl 154 [.d (.str s),.ptr 0 0] [.box 256 (.d (.agg (qxv cs)))] (fun r σ=>r=.d (.str (qr3 cs s))∧σ=[.box 256 (.d (.agg (qxv cs)))]):=by
 refine qac func154 rfl rfl (by simp[ntmps154]) (qab rfl _ _ _ _ ?_)
 simp only[ntmps154,results154,qak,List.length_nil]
 simp only[zU,seval]
 refine qcy (τ:=List UInt8) (fun u=>[(0,.d (.str u)),(1,.ptr 0 0)]) (fun _=>[.box 256 (.d (.agg (qxv cs)))]) (fun u=>u.length≤s.length∧qr3 cs u=qr3 cs s) (fun u=>u.length) s ?_ ?_ ?_
 ·exact⟨Nat.le_refl _,rfl⟩
 ·refine qaa [] [0] rfl (by simp) ?_ rfl
  simp only[zU,seval]
  try rfl
 ·rintro u ⟨h1,h2⟩
  rcases List.eq_nil_or_concat u with rfl|⟨v,c,rfl⟩
  ·simp only[zU,seval]
   refine⟨_,_,qah [] [0] rfl (by simp) (show qbk _ _ _=AV.d _ from rfl) rfl,?_,rfl⟩
   rw[←h2];rfl
  ·rw[List.concat_eq_append] at h1 h2 ⊢
   have hl:(v++[c]).length=v.length+1:=by simp
   rw[hl] at h1
   have e1:decide (0<((v++[c]).length:Int))=true:=decide_eq_true (by omega)
   have e2:(v++[c]).getD v.length 0=c:=by simp
   have e3:(v++[c]).take v.length=v:=by simp
   have e0:(v.length:Int)+1-1=v.length:=by omega
   simp only[zU,seval,hl,(show(0:Int)<(v.length:Int)+1 by omega),@qag ((v.length:Int)) (by omega),e0,(show(v.length:Int)<(v.length:Int)+1 by omega),Int.toNat_natCast,e2]
   repeat((with_reducible apply aI);exact sdp)
   refine qaz ((q1s cs c).mono fun r σ ⟨er,es⟩=>?_)
   subst er es
   simp only[zU,seval]
   have e4:(cs.any fun x=>x==c)=inS cs c:=rfl
   rw[e4]
   rw[qyl] at h2
   refine ifC.mk (fun hc=>?_) (fun hc=>?_)
   ·have hc:inS cs c=false:=by simpa using hc
    rw[if_neg (by rw[hc];simp)] at h2
    refine⟨_,_,qah [] [0] rfl (by simp) (show qbk _ _ _=AV.d _ from rfl) rfl,?_,rfl⟩
    rw[←h2]
   ·have hc:inS cs c=true:=by simpa using hc
    rw[if_pos hc] at h2
    (try simp only[zU,seval,hl,@qag ((v.length:Int)) (by omega),e0,e3,Int.toNat_natCast])
    repeat((with_reducible apply aI);exact sdp)
    refine⟨v,⟨by omega,h2⟩,by omega,?_⟩
    refine qaa [] [0] rfl (by simp) ?_ rfl
    simp only[zU,seval]
    try rfl
theorem Qgu (s cs:List UInt8) (hs:s.length<9223372036854775808):qal prog Gl 153 [.d (.str s),.ptr 0 0] [.box 256 (.d (.agg (qxv cs)))] (fun r σ=>r=.d (.str (q9c cs s))∧σ=[.box 256 (.d (.agg (qxv cs)))]):=by
 refine qac func153 rfl rfl (by simp[ntmps153]) (qab rfl _ _ _ _ ?_)
 simp only[ntmps153,results153,qak,List.length_nil]
 simp only[zU,seval]
 refine qcy (τ:=List UInt8) (fun u=>[(0,.d (.str u)),(1,.ptr 0 0)]) (fun _=>[.box 256 (.d (.agg (qxv cs)))]) (fun u=>u.length≤s.length∧q9c cs u=q9c cs s) (fun u=>u.length) s ?_ ?_ ?_
 ·exact⟨Nat.le_refl _,rfl⟩
 ·refine qaa [] [0] rfl (by simp) ?_ rfl
  simp only[zU,seval]
  try rfl
 ·rintro u ⟨h1,h2⟩
  cases u with
  | nil=>
   simp only[zU,seval]
   refine⟨_,_,qah [] [0] rfl (by simp) (show qbk _ _ _=AV.d _ from rfl) rfl,?_,rfl⟩
   rw[←h2];rfl
  | cons c v=>
   have hl:(c::v).length=v.length+1:=by simp
   rw[hl] at h1
   simp only[zU,seval,hl,(show(0:Int)<(v.length:Int)+1 by omega)]
   repeat((with_reducible apply aI);exact sdp)
   refine qaz ((q1s cs c).mono fun r σ ⟨er,es⟩=>?_)
   subst er es
   simp only[zU,seval]
   have e4:(cs.any fun x=>x==c)=inS cs c:=rfl
   rw[e4]
   rw[q9c,List.dropWhile_cons] at h2
   refine ifC.mk (fun hc=>?_) (fun hc=>?_)
   ·have hc:inS cs c=false:=by simpa using hc
    rw[if_neg (by rw[hc];simp)] at h2
    refine⟨_,_,qah [] [0] rfl (by simp) (show qbk _ _ _=AV.d _ from rfl) rfl,?_,rfl⟩
    rw[←h2]
   ·have hc:inS cs c=true:=by simpa using hc
    rw[if_pos hc] at h2
    have e5:((v.length:Int)+1).toNat=v.length+1:=by omega
    have e6:(c::v).take (v.length+1)=c::v:=by simp
    (try simp only[zU,seval,hl,(show(1:Int)≤(v.length:Int)+1 by omega),e5,e6,List.drop_succ_cons,List.drop_zero])
    repeat((with_reducible apply aI);exact sdp)
    refine⟨v,⟨by omega,h2⟩,by omega,?_⟩
    refine qaa [] [0] rfl (by simp) ?_ rfl
    simp only[zU,seval,e5,e6,List.drop_succ_cons,List.drop_zero]
    try rfl
def Qa1:List UInt8:=[48,49,50,51,52,53,54,55,56,57]
theorem Qyl (s:List UInt8) (hs:s.length<9223372036854775808) (h0:s≠[]):qbc prog Gl 97 [.d (.str s),.d (.str Qa1)] (.d (.str (q9c Qa1 (qr3 Qa1 s)))):=by
 refine qbc.of2 ?_
 have e0:(s==[])=false:=by cases s with
  | nil=>exact absurd rfl h0
  | cons a b=>rfl
 have e1:(Qa1==[])=false:=rfl
 have e2:((Qa1.length:Int)==1)=false:=rfl
 refine qac func97 rfl rfl (by simp[ntmps97]) (qab rfl _ _ _ _ ?_)
 simp only[ntmps97,results97,qak,List.length_nil]
 simp only[zU,seval,e0,e1,e2]
 repeat((with_reducible apply aI);exact sdp)
 refine qaf (Qlc Qa1 (by decide) (by decide)) ?_
 simp only[zU,seval]
 refine⟨q2r _,?_⟩
 refine qaz ((q91 s Qa1 hs).mono fun r σ ⟨er,es⟩=>?_)
 subst er es
 simp only[zU,seval]
 have hr:(qr3 Qa1 s).length<9223372036854775808:=by
  have:(qr3 Qa1 s).length≤s.length:=by
   rw[qr3,List.length_reverse]
   exact Nat.le_trans (List.dropWhile_suffix _).length_le (by simp)
  omega
 refine qaz ((Qgu (qr3 Qa1 s) Qa1 hr).mono fun r σ ⟨er,es⟩=>?_)
 subst er es
 simp only[zU,seval]
 exact⟨_,_,qaq,rfl,rfl⟩
theorem Qy2 {p:UInt8→Bool} {c:UInt8} (h:p c=false):∀v:List UInt8,(v++[c]).dropWhile p≠[]
 | []=>by simp[List.dropWhile_cons,h]
 | a::v=>by
  rw[List.cons_append,List.dropWhile_cons]
  split
  ·exact Qy2 h v
  ·simp
theorem Qb7 (cs:List UInt8):∀(n:Nat) (t:List UInt8),t.length=n→(q9c cs (qr3 cs t)==[])=t.all (inS cs)
 | n,t,hn=>by
  rcases List.eq_nil_or_concat t with rfl|⟨v,c,rfl⟩
  ·rfl
  ·rw[List.concat_eq_append] at hn ⊢
   have hv:v.length<n:=by rw[List.length_append] at hn;simp at hn;omega
   rw[qyl,List.all_append]
   by_cases h:inS cs c=true
   ·rw[if_pos h,Qb7 cs v.length v rfl];simp[h]
   ·rw[if_neg h]
    have h:inS cs c=false:=by simpa using h
    have h2:¬q9c cs (v++[c])=[]:=Qy2 h v
    simp[h,h2]
termination_by n=>n
def q88 (c:UInt8):Bool:=decide (48≤c.toNat)&&decide (c.toNat≤57)
theorem Qvt:∀n:Nat,n<256→inS Qa1 (UInt8.ofNat n)=q88 (UInt8.ofNat n):=by decide +kernel
theorem Qy4 (c:UInt8):inS Qa1 c=q88 c:=by
 have:=Qvt c.toNat c.toNat_lt
 rwa [UInt8.ofNat_toNat] at this
def qem (s:List UInt8):Bool:=qs1 s qdl&&!((s.drop qdl.length==[])||(((s.drop qdl.length).getD 0 0).toNat:Int)==48)&&(s.drop qdl.length).all q88
theorem Qzz (s p:List UInt8):qbc prog Gl 149 [.d (.str s),.d (.str p)] (.tup [.d (.str (if qs1 s p=true then s.drop p.length else s)),.d (.bool (qs1 s p))]):=by
 refine qbc.of2t2 ?_
 refine qac func149 rfl rfl (by simp[ntmps149]) (qab rfl _ _ _ _ ?_)
 simp only[ntmps149,results149,qak,List.length_nil]
 simp only[zU,seval]
 refine qaf (Q0q s p) ?_
 simp only[zU,seval]
 refine ifC.mk (fun h=>?_) (fun h=>?_)
 ·have h:qs1 s p=false:=by simpa using h
  refine⟨_,_,qyx,?_,rfl⟩
  rw[h,if_neg (by simp)]
 ·have h:qs1 s p=true:=by simpa using h
  have hl:p.length≤s.length:=by
   rw[qs1,Bool.and_eq_true,decide_eq_true_eq] at h;exact h.1
  (try simp only[zU,seval,(show(p.length:Int)≤s.length by omega),List.take_length])
  repeat((with_reducible apply aI);exact sdp)
  refine⟨_,_,qyx,?_,rfl⟩
  rw[h,if_pos rfl]
theorem Qai (s p:List UInt8):qbc prog Gl 96 [.d (.str s),.d (.str p)] (.tup [.d (.str (if qs1 s p=true then s.drop p.length else s)),.d (.bool (qs1 s p))]):=by
 refine qbc.of2t2 ?_
 refine qac func96 rfl rfl (by simp[ntmps96]) (qab rfl _ _ _ _ ?_)
 simp only[ntmps96,results96,qak,List.length_nil]
 simp only[zU,seval]
 refine qaf (Qzz s p) ?_
 simp only[zU,seval]
 exact⟨_,_,qyx,rfl,rfl⟩
theorem Qg2 (s:List UInt8) (hs:s.length<9223372036854775808):qbc prog Gl 52 [.d (.str s)] (.d (.bool (qem s))):=by
 refine qbc.of1 ?_
 refine qac func52 rfl rfl (by simp[ntmps52]) (qab rfl _ _ _ _ ?_)
 simp only[ntmps52,results52,qak,List.length_nil]
 simp only[zU,seval]
 refine qaf (Qai s _) ?_
 have e7:[104,105,100,100,101,110,45]=qdl:=rfl
 rw[e7]
 obtain⟨b,hb⟩:∃b,b=qs1 s qdl:=⟨_,rfl⟩
 rw[←hb]
 cases b with
 | false=>
  simp only[zU,seval]
  refine⟨_,_,qaq,?_,rfl⟩
  rw[qem,←hb];rfl
 | true=>
  obtain⟨t,ht⟩:∃t,t=s.drop qdl.length:=⟨_,rfl⟩
  have e:qem s=(!((t==[])||((t.getD 0 0).toNat:Int)==48)&&t.all q88):=by rw[qem,←hb,ht,Bool.true_and]
  have hl:t.length≤s.length:=by rw[ht,List.length_drop];omega
  rw[e]
  simp only[zU,seval,←ht]
  refine⟨fun h=>?_,?_⟩
  ·cases t with
   | nil=>cases h
   | cons a b=>simp
  refine ifC.mk (fun hc=>?_) (fun hc=>?_)
  ·refine⟨_,_,qaq,?_,rfl⟩
   rw[hc];rfl
  ·have h0:t≠[]:=by rintro rfl;cases hc
   rw[show([48,49,50,51,52,53,54,55,56,57]:List UInt8)=Qa1 from rfl]
   refine qaf (Qyl t (by omega) h0) ?_
   simp only[zU,seval]
   refine⟨_,_,qaq,?_,rfl⟩
   rw[hc,Qb7 Qa1 t.length t rfl]
   congr 2
   rw[Bool.not_false,Bool.true_and]
   congr 1
   funext c
   exact Qy4 c
theorem qwx (s:List UInt8) (k n:Nat):(s.drop n).getD k 0=s.getD (n+k) 0:=by
 simp[List.getD_eq_getElem?_getD]
theorem Qn0 (p:UInt8→Bool) (s:List UInt8) (k:Nat) (h:k<s.length):(s.take (k+1)).all p=((s.take k).all p&&p (s.getD k 0)):=qc1 p s k h
theorem Qp8 (s:List UInt8) (hs:s.length<9223372036854775808):qbc prog Gl 18 [.d (.str s)] (.d (.bool (qem s))):=by
 refine qbc.of1 ?_
 refine qac func18 rfl rfl (by simp[ntmps18]) (qab rfl _ _ _ _ ?_)
 simp only[ntmps18,results18,qak,List.length_nil]
 simp only[zU,seval]
 refine qaf (Qem s _) ?_
 have e7:[104,105,100,100,101,110,45]=qdl:=rfl
 rw[e7]
 obtain⟨b,hb⟩:∃b,b=qs1 s qdl:=⟨_,rfl⟩
 rw[←hb]
 cases b with
 | false=>
  simp only[zU,seval]
  repeat((with_reducible apply aI);exact sdp)
  refine⟨_,_,qaq,?_,rfl⟩
  rw[qem,←hb];rfl
 | true=>
  have hl:7≤s.length:=by
   have:=hb.symm
   rw[qs1,Bool.and_eq_true,decide_eq_true_eq] at this
   exact this.1
  have e:qem s=(!((s.drop 7==[])||(((s.drop 7).getD 0 0).toNat:Int)==48)&&(s.drop 7).all q88):=by rw[qem,←hb,Bool.true_and];rfl
  rw[qwx] at e
  have e1:(s.drop 7==[])=((s.length:Int)==7):=by
   rw[Bool.eq_iff_iff];simp;omega
  rw[e1] at e
  simp only[zU,seval]
  refine⟨rfl,fun h=>?_,?_⟩
  ·simp at h;omega
  refine ifC.mk (fun hc=>?_) (fun hc=>?_)
  ·refine⟨_,_,qaq,?_,rfl⟩
   have hc:((s.length:Int)==7||(((s.getD (7+0) 0).toNat:Int)==48))=true:=hc
   rw[e,hc];rfl
  ·have hc:((s.length:Int)==7||(((s.getD (7+0) 0).toNat:Int)==48))=false:=hc
   rw[hc,Bool.not_false,Bool.true_and] at e
   have hdl:(s.drop 7).length=s.length-7:=by rw[List.length_drop]
   refine qap (s.length-7) (fun k=>[(0,.d (.str s)),(3,.d (.int .i64 ((7+k:Nat):Int)))]) (fun _=>[]) (fun k=>((s.drop 7).take k).all q88=true) rfl ?_ ?_
   ·refine qaa [] [] rfl List.nodup_nil ?_ rfl
    simp only[zU,seval]
    all_goals rfl
   ·intro k hi hk
    by_cases h:k<s.length-7
    ·have hst:=Qn0 q88 (s.drop 7) k (by omega)
     rw[hi,Bool.true_and,qwx] at hst
     obtain⟨c,hcd⟩:∃c,c=s.getD (7+k) 0:=⟨_,rfl⟩
     rw[←hcd] at hst
     have e5:((7:Int)+(k:Int)).toNat=7+k:=by omega
     have e6:(decide ((c.toNat:Int)<48)||decide ((57:Int)<(c.toNat:Int)))=!q88 c:=by
      unfold q88
      by_cases h1:c.toNat<48
      ·have h2:¬48≤c.toNat:=by omega
       have h3:(c.toNat:Int)<48:=by omega
       simp[h2,h3]
      ·have h2:48≤c.toNat:=by omega
       have h3:¬(c.toNat:Int)<48:=by omega
       by_cases h4:c.toNat≤57
       ·have h5:¬(57:Int)<(c.toNat:Int):=by omega
        simp[h2,h3,h4,h5]
       ·have h5:(57:Int)<(c.toNat:Int):=by omega
        simp[h2,h3,h4,h5]
     simp only[zU,seval,(show((7:Int)+(k:Int))<s.length by omega),e5,←hcd,e6]
     refine⟨by omega,fun _=>by omega,?_⟩
     refine ifC.mk (fun h3=>?_) (fun h3=>?_)
     ·have h3:q88 c=false:=by simpa using h3
      refine⟨_,_,qaq,?_,rfl⟩
      have:(s.drop 7).all q88=false:=by
       rw[Bool.eq_false_iff];intro ha
       have:=List.all_eq_true.1 ha c (by
        have h6:k<(s.drop 7).length:=by omega
        have h7:=qbh (α:=UInt8) (l:=s.drop 7) h6
        have h8:(s.drop 7).getD k default=c:=by rw[hcd,←qwx];rfl
        rwa [h8] at h7)
       rw[h3] at this;cases this
      rw[e,this]
     ·have h3:q88 c=true:=by simpa using h3
      refine⟨h,by rw[hst,h3],?_⟩
      refine qaa [] [] rfl List.nodup_nil ?_ rfl
      simp only[zU,seval,Int.add_assoc,@qag ((7:Int)+((k:Int)+1)) (by omega)]
      all_goals rfl
    ·have:k=s.length-7:=by omega
     subst this
     rw[List.take_of_length_le (by omega)] at hi
     simp only[zU,seval,(show ¬((7:Int)+((s.length-7:Nat):Int))<s.length by omega)]
     refine⟨_,_,qaq,?_,rfl⟩
     rw[e,hi]

def qbg (g:Int→Bool):Key→Option AV
 | .i n=>if g n=true then some (.d (.bool true)) else none
 | .s _=>none
theorem q1p (g:Int→Bool):∀k v,qbg g k=some v→∃d,v=.d d:=by
 intro k v h
 cases k with
 | s m=>cases h
 | i m=>
  simp only[qbg] at h
  split at h
  ·cases h;exact⟨_,rfl⟩
  ·cases h
theorem qau (g:Int→Bool) (n:Int):(qbg g (.i n)).getD (.d (.bool false))=.d (.bool (g n)):=by
 cases h:g n<;>simp[qbg,h]
theorem Qph (g:Int→Bool) (n:Int):qhm (qbg g) (.i n) (.d (.bool true))=qbg (fun m=>m==n||g m):=by
 funext k
 cases k with
 | s m=>simp[qhm,qbg]
 | i m=>by_cases h:m=n<;>simp[qhm,qbg,h]
theorem Qku:(fun _=>none)=qbg fun _=>false:=by
 funext k;cases k<;>simp[qbg]
theorem qbz (g:Int→Bool) (ρ:List Nat) (σ:Sto):qbs ρ σ (.map (some .i64) (qbg g))=.map (some .i64) (qbg g):=qh3 (B:=.map (some .i64) (qbg g)) (q1p g) ρ σ
theorem qc7 (g:Int→Bool) (b:Nat→Nat):qdo b (.map (some .i64) (qbg g))=.map (some .i64) (qbg g):=qh4 (B:=.map (some .i64) (qbg g)) (q1p g) b
theorem qmy {α:Type} {p:α→Bool} {l:List α} {k j:Nat} (hk:k<l.length) (h:(l.take (k+1)).filter p=l.take k) (hj:k<j) (hjl:j≤l.length):((l.take j).filter p).length<j:=by
 have e:l.take j=l.take (k+1)++(l.take j).drop (k+1):=by
  conv=>lhs;rw[←List.take_append_drop (k+1) (l.take j)]
  rw[List.take_take,Nat.min_eq_left (by omega)]
 have h2:=List.length_filter_le p ((l.take j).drop (k+1))
 rw[e,List.filter_append,List.length_append,h,List.length_take]
 rw[List.length_drop,List.length_take] at h2
 omega
theorem qgz {α:Type} [Inhabited α] {xs:List α} {i:Nat} (h:i<xs.length) (x:α):(xs.set i x).take (i+1)=xs.take i++[x]:=by
 rw[qa0 _ i (by rw[List.length_set];exact h)]
 congr 1
 ·apply List.ext_getElem?
  intro k
  rcases Nat.lt_or_ge k i with hk|hk
  ·rw[List.getElem?_take_of_lt hk,List.getElem?_take_of_lt hk,List.getElem?_set_ne (by omega)]
  ·rw[List.getElem?_eq_none (by rw[List.length_take];omega),List.getElem?_eq_none (by rw[List.length_take];omega)]
 ·rw[List.getD_eq_getElem?_getD,List.getElem?_set_self h];rfl
theorem qg0 {α:Type} {xs:List α} {i j:Nat} (h:i<j) (x:α):(xs.set i x).drop j=xs.drop j:=by
 apply List.ext_getElem?
 intro k
 rw[List.getElem?_drop,List.getElem?_drop,List.getElem?_set_ne (by omega)]
theorem qfy (xs:List D) (i n:Nat) (z:D):(qih xs i n z).take i=xs.take i:=by
 apply List.ext_getElem?
 intro k
 rcases Nat.lt_or_ge k i with hk|hk
 ·rw[List.getElem?_take_of_lt hk,List.getElem?_take_of_lt hk]
  rcases Nat.lt_or_ge k xs.length with h|h
  ·rw[qpt _ _ _ _ _ h,if_neg (by omega),List.getD_eq_getElem?_getD,List.getElem?_eq_getElem h];rfl
  ·rw[List.getElem?_eq_none (by rw[qbi];exact h),List.getElem?_eq_none h]
 ·rw[List.getElem?_eq_none (by rw[List.length_take];omega),List.getElem?_eq_none (by rw[List.length_take];omega)]
theorem q3q (l:List qai) (hl:l.length<1000000):qls prog Gl 138 [.d (.sl (l.map qai.toD))] 3 (l.map qai.toD):=by
 refine qls.of (args:=[.sl (l.map qai.toD)]) ?_
 have hes:∀y∈l.map qai.toD,y.cells.length=3:=fun y hy=>by
  obtain⟨r,_,rfl⟩:=List.mem_map.1 hy;rfl
 have hfl:∀y∈l.map qai.toD,y.flat:=fun y hy=>by
  obtain⟨r,_,rfl⟩:=List.mem_map.1 hy
  intro c hc
  simp[qai.toD,D.cells] at hc
  rcases hc with rfl|rfl|rfl<;>rfl
 simp only[List.map_cons,List.map_nil]
 cases l with
 | nil=>
  refine qac func138 rfl rfl (by simp[ntmps138]) (qab rfl _ _ _ _ ?_)
  simp only[ntmps138,results138,qak,List.length_nil]
  simp only[zU,seval]
  refine⟨⟨_,_,qfq 3 (Nat.le_refl 0),rfl,rfl⟩,?_⟩
  exact⟨_,_,qah [] [1] rfl (by simp) rfl rfl,rfl,rfl⟩
 | cons r rs=>
  simp only[List.map_cons,List.length_cons] at hes hl hfl ⊢
  refine qac func138 rfl rfl (by simp[ntmps138]) (qab rfl _ _ _ _ ?_)
  simp only[ntmps138,results138,qak,List.length_nil]
  simp only[zU,seval]
  refine⟨by omega,?_⟩
  exact⟨_,_,qah [] [1] rfl (by simp) rfl rfl,rfl,rfl⟩
theorem qff (g:Int→Bool) (xs:List D) (σ:Sto):qdy [0,1,2] (freezeL (.box 1 (.mapr 1)::.map (some .i64) (qbg g)::.arr 3 xs::σ) [])=.box 1 (.mapr 1)::.map (some .i64) (qbg g)::.arr 3 xs::[]:=by
 show[qbs [0,1,2] _ (.box 1 (.mapr 1)),qbs [0,1,2] _ (.map (some .i64) (qbg g)),_]=_
 rw[qbz];rfl
theorem Qf8 (g:Int→Bool) (xs:List D) (B:Blk):qdy [0,1,3] (freezeL (.box 1 (.mapr 1)::.map (some .i64) (qbg g)::B::.arr 3 xs::[]) [])=.box 1 (.mapr 1)::.map (some .i64) (qbg g)::.arr 3 xs::[]:=by
 show[qbs [0,1,3] _ (.box 1 (.mapr 1)),qbs [0,1,3] _ (.map (some .i64) (qbg g)),_]=_
 rw[qbz];rfl
theorem Qf9 (g:Int→Bool) (σ:Sto):qdy [0,1] (freezeL (.box 1 (.mapr 1)::.map (some .i64) (qbg g)::σ) [])=.box 1 (.mapr 1)::.map (some .i64) (qbg g)::[]:=by
 show[qbs [0,1] _ (.box 1 (.mapr 1)),qbs [0,1] _ (.map (some .i64) (qbg g))]=_
 rw[qbz];rfl
theorem q94 (g:Int→Bool) {fv:FuncId} (p:qai→Bool) (hp:∀x:qai,qal prog Gl fv [.d x.toD,.ptr 0 0] (.box 1 (.mapr 1)::.map (some .i64) (qbg g)::[]) (fun r s=>r=.d (.bool (p x))∧s=(.box 1 (.mapr 1)::.map (some .i64) (qbg g)::[]))) (l:List qai) (hl:l.length<1000000) :
  qal prog Gl 187 [.osl 2 0 l.length,.fn fv [.ptr 0 0]] (.box 1 (.mapr 1)::.map (some .i64) (qbg g)::.arr 3 (l.map qai.toD)::[])
  (fun r s=>(∃j:Int,r=.d (.int .i64 j)∧((j=-1∧l.filter (fun x=>!p x)=l)∨∃k:Nat,j=k∧k<l.length∧(l.take (k+1)).filter (fun x=>!p x)=l.take k))∧s=(.box 1 (.mapr 1)::.map (some .i64) (qbg g)::.arr 3 (l.map qai.toD)::[])):=by
 refine qac func187 rfl rfl (by simp[ntmps187]) (qab rfl _ _ _ _ ?_)
 simp only[ntmps187,results187,qak,List.length_nil]
 simp only[zU,seval]
 refine qap l.length (fun k=>[(0,.osl 2 0 l.length),(1,.fn fv [.ptr 0 0]),(7,.d (.int .i64 l.length)),(8,.d (.int .i64 k))]) (fun _=>(.box 1 (.mapr 1)::.map (some .i64) (qbg g)::.arr 3 (l.map qai.toD)::[])) (fun k=>(l.take k).filter (fun x=>!p x)=l.take k) rfl ?_ ?_
 ·refine qaa [] [0,1,2] rfl (by simp) ?_ (qff g _ _)
  simp only[zU,seval]
  try rfl
 ·intro k hi hk
  by_cases h:k<l.length
  ·obtain⟨x,hx⟩:∃x,x=l.getD k default:=⟨_,rfl⟩
   have eg:(l.map qai.toD).getD k default=x.toD:=by rw[qaj _ _ _ h,←hx]
   have hst:=qa0 l k h
   rw[←hx] at hst
   simp only[zU,seval,(show(k:Int)<l.length by omega),h,eg]
   repeat((with_reducible apply aI);exact sdp)
   refine qb3 (R:=fun r ν=>r=.d (.bool (p x))∧ν=[]) [0,1] (.box 1 (.mapr 1)::.map (some .i64) (qbg g)::[]) (by simp) (by simp) (show[qbs [0,1] _ (.box 1 (.mapr 1)),qbs [0,1] _ (.map (some .i64) (qbg g))]=_ by rw[qbz];rfl) rfl (hk2 rfl (qc7 g _)) ((hp x).mono fun r s hr=>⟨[],by rw[hr.2];rfl,hr.1,rfl⟩) (fun r ν hr=>?_)
   obtain⟨rfl,rfl⟩:=hr
   simp only[zU,seval,List.map_nil,List.append_nil]
   refine ifC.mk (fun hc=>?_) (fun hc=>?_)
   ·refine⟨_,_,qah [] [0,1,2] rfl (by simp) (show qbk _ _ _=AV.d _ from rfl) (qff g _ _),⟨k,rfl,.inr ⟨k,rfl,h,?_⟩⟩,rfl⟩
    rw[hst,List.filter_append,hi,List.filter_cons_of_neg (by rw[hc];simp)]
    simp
   ·refine⟨by rw[hst,List.filter_append,hi,List.filter_cons_of_pos (by rw[hc];rfl)];rfl,?_⟩
    refine qaa [] [0,1,2] rfl (by simp) ?_ (qff g _ _)
    simp only[zU,seval,@qag ((k:Int)+1) (by omega)]
    try rfl
  ·have:k=l.length:=by omega
   subst this
   rw[List.take_length] at hi
   simp only[zU,seval,(show ¬(l.length:Int)<l.length by omega)]
   exact⟨_,_,qah [] [0,1,2] rfl (by simp) (show qbk _ _ _=AV.d _ from rfl) (qff g _ _),⟨-1,rfl,.inl ⟨rfl,hi⟩⟩,rfl⟩
theorem q98 (g:Int→Bool) {fv:FuncId} (p:qai→Bool) (hp:∀x:qai,qal prog Gl fv [.d x.toD,.ptr 0 0] (.box 1 (.mapr 1)::.map (some .i64) (qbg g)::[]) (fun r s=>r=.d (.bool (p x))∧s=(.box 1 (.mapr 1)::.map (some .i64) (qbg g)::[]))) (l:List qai) (hl:l.length<1000000) :
  qal prog Gl 137 [.osl 2 0 l.length,.fn fv [.ptr 0 0]] (.box 1 (.mapr 1)::.map (some .i64) (qbg g)::.arr 3 (l.map qai.toD)::[])
  (fun r s=>(r=.osl 2 0 (l.filter (fun x=>!p x)).length∧s=(.box 1 (.mapr 1)::.map (some .i64) (qbg g)::.arr 3 ((l.filter (fun x=>!p x)).map qai.toD)::[]))∨(r=.osl 3 0 (l.filter (fun x=>!p x)).length∧s=(.box 1 (.mapr 1)::.map (some .i64) (qbg g)::.dead::.arr 3 ((l.filter (fun x=>!p x)).map qai.toD)::[]))):=by
 refine qac func137 rfl rfl (by simp[ntmps137]) (qab rfl _ _ _ _ ?_)
 simp only[ntmps137,results137,qak,List.length_nil]
 simp only[zU,seval]
 refine qaz ((q94 g p hp l hl).mono fun r s hr=>?_)
 obtain⟨⟨c,rfl,hcs⟩,rfl⟩:=hr
 rcases hcs with⟨rfl,hn⟩|⟨k,rfl,hk,hf⟩
 ·simp only[zU,seval]
  rw[hn]
  refine⟨_,_,qah [] [0,1,2] rfl (by simp) rfl (qff g _ _),.inl ⟨rfl,rfl⟩⟩
 ·have e0:((k:Int)==-1)=false:=by rw[beq_eq_false_iff_ne];omega
  simp only[zU,seval,e0,@qag ((k:Int)+1) (by omega)]
  repeat((with_reducible apply aI);exact sdp)
  refine qcy (τ:=Nat×List qai) (fun u=>[(0,.osl 2 0 l.length),(1,.fn fv [.ptr 0 0]),(5,.d (.int .i64 (((l.take u.1).filter (fun x=>!p x)).length:Nat))),(6,.d (.int .i64 u.1))]) (fun u=>(.box 1 (.mapr 1)::.map (some .i64) (qbg g)::.arr 3 (u.2.map qai.toD)::[]))
   (fun u=>k<u.1∧u.1≤l.length∧u.2.length=l.length∧u.2.take ((l.take u.1).filter (fun x=>!p x)).length=(l.take u.1).filter (fun x=>!p x)∧u.2.drop u.1=l.drop u.1) (fun u=>l.length-u.1) (k+1,l) ?_ ?_ ?_
  ·refine⟨by simp only;omega,hk,rfl,?_,rfl⟩
   simp only
   rw[hf,List.length_take,Nat.min_eq_left (by omega)]
  ·have e1:((l.take (k+1)).filter (fun x=>!p x)).length=k:=by rw[hf,List.length_take];omega
   rw[e1]
   refine qaa [] [0,1,2] rfl (by simp) ?_ (qff g _ _)
   simp only[zU,seval]
   try rfl
  ·rintro⟨j,xs⟩ ⟨hkj,hj,hxl,hpre,hdr⟩
   simp only at hkj hj hxl hpre hdr
   obtain⟨i,hi⟩:∃i,i=((l.take j).filter (fun x=>!p x)).length:=⟨_,rfl⟩
   have hij:=qmy hk hf hkj hj
   rw[←hi] at hpre hij
   rw[←hi]
   by_cases h:j<l.length
   ·obtain⟨x,hx⟩:∃x,x=l.getD j default:=⟨_,rfl⟩
    have hxx:xs.getD j default=x:=by
     have e:xs[j]? = l[j]? := by
      have:=congrArg (fun z=>z[0]?) hdr
      simpa using this
     rw[List.getD_eq_getElem?_getD,e,hx,List.getD_eq_getElem?_getD]
    have eg:(xs.map qai.toD).getD j default=x.toD:=by rw[qaj _ _ _ (by omega),hxx]
    have hst:=qa0 l j h
    rw[←hx] at hst
    simp only[zU,seval,(show(j:Int)<l.length by omega),h,eg,hxl]
    repeat((with_reducible apply aI);exact sdp)
    refine qb3 (R:=fun r ν=>r=.d (.bool (p x))∧ν=[]) [0,1] (.box 1 (.mapr 1)::.map (some .i64) (qbg g)::[]) (by simp) (by simp) (show[qbs [0,1] _ (.box 1 (.mapr 1)),qbs [0,1] _ (.map (some .i64) (qbg g))]=_ by rw[qbz];rfl) rfl (hk2 rfl (qc7 g _)) ((hp x).mono fun r s hr=>⟨[],by rw[hr.2];rfl,hr.1,rfl⟩) (fun r ν hr=>?_)
    obtain⟨rfl,rfl⟩:=hr
    simp only[zU,seval,List.map_nil,List.append_nil]
    have hdr2:xs.drop (j+1)=l.drop (j+1):=by
     have:=congrArg (List.drop 1) hdr
     rwa [List.drop_drop,List.drop_drop] at this
    refine ifC.mk (fun hc=>?_) (fun hc=>?_)
    ·have hfl:(l.take (j+1)).filter (fun x=>!p x)=(l.take j).filter (fun x=>!p x)++[x]:=by rw[hst,List.filter_append,List.filter_cons_of_pos (p:=fun x=>!p x) hc];rfl
     have hfn:((l.take (j+1)).filter (fun x=>!p x)).length=i+1:=by rw[hfl,List.length_append,←hi];rfl
     (try simp only[zU,seval,(show(i:Int)<l.length by omega),hxl])
     repeat((with_reducible apply aI);exact sdp)
     refine⟨(j+1,xs.set i x),⟨by simp only;omega,h,by simp only[List.length_set];exact hxl,?_,?_⟩,by simp only;omega,?_⟩
     ·simp only
      rw[hfn,qgz (by omega),hpre,hfl]
     ·simp only
      rw[qg0 (by omega),hdr2]
     ·simp only[hfn,List.map_set]
      refine qaa [] [0,1,2] rfl (by simp) ?_ (qff g _ _)
      simp only[zU,seval,@qag ((j:Int)+1) (by omega),@qag ((i:Int)+1) (by omega)]
      try rfl
    ·have hfl:(l.take (j+1)).filter (fun x=>!p x)=(l.take j).filter (fun x=>!p x):=by rw[hst,List.filter_append,List.filter_cons_of_neg (by rw[hc];simp)];simp
     refine⟨(j+1,xs),⟨by simp only;omega,h,hxl,?_,hdr2⟩,by simp only;omega,?_⟩
     ·simp only
      rw[hfl,←hi,hpre]
     ·simp only[hfl,←hi]
      refine qaa [] [0,1,2] rfl (by simp) ?_ (qff g _ _)
      simp only[zU,seval,@qag ((j:Int)+1) (by omega)]
      try rfl
   ·have hjl:j=l.length:=by omega
    subst hjl
    rw[List.take_length] at hpre hi
    simp only[zU,seval,(show ¬(l.length:Int)<l.length by omega),(show(i:Int)≤l.length by omega),hxl,(show i≤l.length by omega)]
    repeat((with_reducible apply aI);exact sdp)
    refine⟨_,_,qgy 2 i (by simp) rfl (by rw[qbi];simp;omega) (by rw[qbi];simp;omega),.inr ⟨by rw[hi];rfl,?_⟩⟩
    rw[qfy,←List.map_take,hpre]
    rfl
theorem qwj (g:Int→Bool) {fv:FuncId} (p:qai→Bool) (hp:∀x:qai,qal prog Gl fv [.d x.toD,.ptr 0 0] (.box 1 (.mapr 1)::.map (some .i64) (qbg g)::[]) (fun r s=>r=.d (.bool (p x))∧s=(.box 1 (.mapr 1)::.map (some .i64) (qbg g)::[]))) (l:List qai) (hl:l.length<1000000) :
  qal prog Gl 73 [.d (.sl (l.map qai.toD)),.fn fv [.ptr 0 0]] (.box 1 (.mapr 1)::.map (some .i64) (qbg g)::[])
  (fun r s=>r=.osl 2 0 (l.filter (fun x=>!p x)).length∧s=(.box 1 (.mapr 1)::.map (some .i64) (qbg g)::.arr 3 ((l.filter (fun x=>!p x)).map qai.toD)::[])):=by
 refine qac func73 rfl rfl (by simp[ntmps73]) (qab rfl _ _ _ _ ?_)
 simp only[ntmps73,results73,qak,List.length_nil]
 simp only[zU,seval]
 refine qaz ((q3q l hl (.box 1 (.mapr 1)::.map (some .i64) (qbg g)::[])).mono fun r s hr=>?_)
 obtain⟨rfl,rfl⟩:=hr
 simp only[zU,seval,List.length_map]
 refine qaz ((q98 g p hp l hl).mono fun r s hr=>?_)
 rcases hr with⟨rfl,rfl⟩|⟨rfl,rfl⟩
 ·simp only[zU,seval]
  exact⟨_,_,qah [] [0,1,2] rfl (by simp) rfl (qff g _ _),rfl,rfl⟩
 ·simp only[zU,seval]
  exact⟨_,_,qah [] [0,1,3] rfl (by simp) rfl (Qf8 g _ _),rfl,rfl⟩
theorem Qad (l:List qbj) (hl:l.length<1000000):qls prog Gl 140 [.d (.sl (l.map qbj.toD))] 7 (l.map qbj.toD):=by
 refine qls.of (args:=[.sl (l.map qbj.toD)]) ?_
 have hes:∀y∈l.map qbj.toD,y.cells.length=7:=fun y hy=>by
  obtain⟨r,_,rfl⟩:=List.mem_map.1 hy;rfl
 have hfl:∀y∈l.map qbj.toD,y.flat:=fun y hy=>by
  obtain⟨r,_,rfl⟩:=List.mem_map.1 hy
  intro c hc
  simp[qbj.toD,D.cells] at hc
  rcases hc with rfl|rfl|rfl|rfl|rfl|rfl|rfl<;>rfl
 simp only[List.map_cons,List.map_nil]
 cases l with
 | nil=>
  refine qac func140 rfl rfl (by simp[ntmps140]) (qab rfl _ _ _ _ ?_)
  simp only[ntmps140,results140,qak,List.length_nil]
  simp only[zU,seval]
  refine⟨⟨_,_,qfq 7 (Nat.le_refl 0),rfl,rfl⟩,?_⟩
  exact⟨_,_,qah [] [1] rfl (by simp) rfl rfl,rfl,rfl⟩
 | cons r rs=>
  simp only[List.map_cons,List.length_cons] at hes hl hfl ⊢
  refine qac func140 rfl rfl (by simp[ntmps140]) (qab rfl _ _ _ _ ?_)
  simp only[ntmps140,results140,qak,List.length_nil]
  simp only[zU,seval]
  refine⟨by omega,?_⟩
  exact⟨_,_,qah [] [1] rfl (by simp) rfl rfl,rfl,rfl⟩
theorem qj3 (g:Int→Bool) (xs:List D) (σ:Sto):qdy [0,1,2] (freezeL (.box 1 (.mapr 1)::.map (some .i64) (qbg g)::.arr 7 xs::σ) [])=.box 1 (.mapr 1)::.map (some .i64) (qbg g)::.arr 7 xs::[]:=by
 show[qbs [0,1,2] _ (.box 1 (.mapr 1)),qbs [0,1,2] _ (.map (some .i64) (qbg g)),_]=_
 rw[qbz];rfl
theorem Qcs (g:Int→Bool) (σ:Sto):qdy [0,1] (freezeL (.box 1 (.mapr 1)::.map (some .i64) (qbg g)::σ) [])=.box 1 (.mapr 1)::.map (some .i64) (qbg g)::[]:=by
 show[qbs [0,1] _ (.box 1 (.mapr 1)),qbs [0,1] _ (.map (some .i64) (qbg g))]=_
 rw[qbz];rfl
theorem Qli (g:Int→Bool) {fv:FuncId} (p:qbj→Bool) (hp:∀x:qbj,qal prog Gl fv [.d x.toD,.ptr 0 0] (.box 1 (.mapr 1)::.map (some .i64) (qbg g)::[]) (fun r s=>r=.d (.bool (p x))∧s=(.box 1 (.mapr 1)::.map (some .i64) (qbg g)::[]))) (l:List qbj) (hl:l.length<1000000) :
  qal prog Gl 174 [.osl 2 0 l.length,.fn fv [.ptr 0 0]] (.box 1 (.mapr 1)::.map (some .i64) (qbg g)::.arr 7 (l.map qbj.toD)::[])
  (fun r s=>(∃j:Int,r=.d (.int .i64 j)∧((j=-1∧l.filter (fun x=>!p x)=l)∨∃k:Nat,j=k∧k<l.length∧(l.take (k+1)).filter (fun x=>!p x)=l.take k))∧s=(.box 1 (.mapr 1)::.map (some .i64) (qbg g)::.arr 7 (l.map qbj.toD)::[])):=by
 refine qac func174 rfl rfl (by simp[ntmps174]) (qab rfl _ _ _ _ ?_)
 simp only[ntmps174,results174,qak,List.length_nil]
 simp only[zU,seval]
 refine qap l.length (fun k=>[(0,.osl 2 0 l.length),(1,.fn fv [.ptr 0 0]),(7,.d (.int .i64 l.length)),(8,.d (.int .i64 k))]) (fun _=>(.box 1 (.mapr 1)::.map (some .i64) (qbg g)::.arr 7 (l.map qbj.toD)::[])) (fun k=>(l.take k).filter (fun x=>!p x)=l.take k) rfl ?_ ?_
 ·refine qaa [] [0,1,2] rfl (by simp) ?_ (qj3 g _ _)
  simp only[zU,seval]
  try rfl
 ·intro k hi hk
  by_cases h:k<l.length
  ·obtain⟨x,hx⟩:∃x,x=l.getD k default:=⟨_,rfl⟩
   have eg:(l.map qbj.toD).getD k default=x.toD:=by rw[qaj _ _ _ h,←hx]
   have hst:=qa0 l k h
   rw[←hx] at hst
   simp only[zU,seval,(show(k:Int)<l.length by omega),h,eg]
   repeat((with_reducible apply aI);exact sdp)
   refine qb3 (R:=fun r ν=>r=.d (.bool (p x))∧ν=[]) [0,1] (.box 1 (.mapr 1)::.map (some .i64) (qbg g)::[]) (by simp) (by simp) (show[qbs [0,1] _ (.box 1 (.mapr 1)),qbs [0,1] _ (.map (some .i64) (qbg g))]=_ by rw[qbz];rfl) rfl (hk2 rfl (qc7 g _)) ((hp x).mono fun r s hr=>⟨[],by rw[hr.2];rfl,hr.1,rfl⟩) (fun r ν hr=>?_)
   obtain⟨rfl,rfl⟩:=hr
   simp only[zU,seval,List.map_nil,List.append_nil]
   refine ifC.mk (fun hc=>?_) (fun hc=>?_)
   ·refine⟨_,_,qah [] [0,1,2] rfl (by simp) (show qbk _ _ _=AV.d _ from rfl) (qj3 g _ _),⟨k,rfl,.inr ⟨k,rfl,h,?_⟩⟩,rfl⟩
    rw[hst,List.filter_append,hi,List.filter_cons_of_neg (by rw[hc];simp)]
    simp
   ·refine⟨by rw[hst,List.filter_append,hi,List.filter_cons_of_pos (by rw[hc];rfl)];rfl,?_⟩
    refine qaa [] [0,1,2] rfl (by simp) ?_ (qj3 g _ _)
    simp only[zU,seval,@qag ((k:Int)+1) (by omega)]
    try rfl
  ·have:k=l.length:=by omega
   subst this
   rw[List.take_length] at hi
   simp only[zU,seval,(show ¬(l.length:Int)<l.length by omega)]
   exact⟨_,_,qah [] [0,1,2] rfl (by simp) (show qbk _ _ _=AV.d _ from rfl) (qj3 g _ _),⟨-1,rfl,.inl ⟨rfl,hi⟩⟩,rfl⟩
theorem Qlp (g:Int→Bool) {fv:FuncId} (p:qbj→Bool) (hp:∀x:qbj,qal prog Gl fv [.d x.toD,.ptr 0 0] (.box 1 (.mapr 1)::.map (some .i64) (qbg g)::[]) (fun r s=>r=.d (.bool (p x))∧s=(.box 1 (.mapr 1)::.map (some .i64) (qbg g)::[]))) (l:List qbj) (hl:l.length<1000000) :
  qal prog Gl 139 [.osl 2 0 l.length,.fn fv [.ptr 0 0]] (.box 1 (.mapr 1)::.map (some .i64) (qbg g)::.arr 7 (l.map qbj.toD)::[])
  (fun r s=>(r=.osl 2 0 (l.filter (fun x=>!p x)).length∧s=(.box 1 (.mapr 1)::.map (some .i64) (qbg g)::.arr 7 ((l.filter (fun x=>!p x)).map qbj.toD)::[]))∨(r=.osl 3 0 (l.filter (fun x=>!p x)).length∧s=(.box 1 (.mapr 1)::.map (some .i64) (qbg g)::.dead::.arr 7 ((l.filter (fun x=>!p x)).map qbj.toD)::[]))):=by
 refine qac func139 rfl rfl (by simp[ntmps139]) (qab rfl _ _ _ _ ?_)
 simp only[ntmps139,results139,qak,List.length_nil]
 simp only[zU,seval]
 refine qaz ((Qli g p hp l hl).mono fun r s hr=>?_)
 obtain⟨⟨c,rfl,hcs⟩,rfl⟩:=hr
 rcases hcs with⟨rfl,hn⟩|⟨k,rfl,hk,hf⟩
 ·simp only[zU,seval]
  rw[hn]
  refine⟨_,_,qah [] [0,1,2] rfl (by simp) rfl (qj3 g _ _),.inl ⟨rfl,rfl⟩⟩
 ·have e0:((k:Int)==-1)=false:=by rw[beq_eq_false_iff_ne];omega
  simp only[zU,seval,e0,@qag ((k:Int)+1) (by omega)]
  repeat((with_reducible apply aI);exact sdp)
  refine qcy (τ:=Nat×List qbj) (fun u=>[(0,.osl 2 0 l.length),(1,.fn fv [.ptr 0 0]),(5,.d (.int .i64 (((l.take u.1).filter (fun x=>!p x)).length:Nat))),(6,.d (.int .i64 u.1))]) (fun u=>(.box 1 (.mapr 1)::.map (some .i64) (qbg g)::.arr 7 (u.2.map qbj.toD)::[]))
   (fun u=>k<u.1∧u.1≤l.length∧u.2.length=l.length∧u.2.take ((l.take u.1).filter (fun x=>!p x)).length=(l.take u.1).filter (fun x=>!p x)∧u.2.drop u.1=l.drop u.1) (fun u=>l.length-u.1) (k+1,l) ?_ ?_ ?_
  ·refine⟨by simp only;omega,hk,rfl,?_,rfl⟩
   simp only
   rw[hf,List.length_take,Nat.min_eq_left (by omega)]
  ·have e1:((l.take (k+1)).filter (fun x=>!p x)).length=k:=by rw[hf,List.length_take];omega
   rw[e1]
   refine qaa [] [0,1,2] rfl (by simp) ?_ (qj3 g _ _)
   simp only[zU,seval]
   try rfl
  ·rintro⟨j,xs⟩ ⟨hkj,hj,hxl,hpre,hdr⟩
   simp only at hkj hj hxl hpre hdr
   obtain⟨i,hi⟩:∃i,i=((l.take j).filter (fun x=>!p x)).length:=⟨_,rfl⟩
   have hij:=qmy hk hf hkj hj
   rw[←hi] at hpre hij
   rw[←hi]
   by_cases h:j<l.length
   ·obtain⟨x,hx⟩:∃x,x=l.getD j default:=⟨_,rfl⟩
    have hxx:xs.getD j default=x:=by
     have e:xs[j]? = l[j]? := by
      have:=congrArg (fun z=>z[0]?) hdr
      simpa using this
     rw[List.getD_eq_getElem?_getD,e,hx,List.getD_eq_getElem?_getD]
    have eg:(xs.map qbj.toD).getD j default=x.toD:=by rw[qaj _ _ _ (by omega),hxx]
    have hst:=qa0 l j h
    rw[←hx] at hst
    simp only[zU,seval,(show(j:Int)<l.length by omega),h,eg,hxl]
    repeat((with_reducible apply aI);exact sdp)
    refine qb3 (R:=fun r ν=>r=.d (.bool (p x))∧ν=[]) [0,1] (.box 1 (.mapr 1)::.map (some .i64) (qbg g)::[]) (by simp) (by simp) (show[qbs [0,1] _ (.box 1 (.mapr 1)),qbs [0,1] _ (.map (some .i64) (qbg g))]=_ by rw[qbz];rfl) rfl (hk2 rfl (qc7 g _)) ((hp x).mono fun r s hr=>⟨[],by rw[hr.2];rfl,hr.1,rfl⟩) (fun r ν hr=>?_)
    obtain⟨rfl,rfl⟩:=hr
    simp only[zU,seval,List.map_nil,List.append_nil]
    have hdr2:xs.drop (j+1)=l.drop (j+1):=by
     have:=congrArg (List.drop 1) hdr
     rwa [List.drop_drop,List.drop_drop] at this
    refine ifC.mk (fun hc=>?_) (fun hc=>?_)
    ·have hfl:(l.take (j+1)).filter (fun x=>!p x)=(l.take j).filter (fun x=>!p x)++[x]:=by rw[hst,List.filter_append,List.filter_cons_of_pos (p:=fun x=>!p x) hc];rfl
     have hfn:((l.take (j+1)).filter (fun x=>!p x)).length=i+1:=by rw[hfl,List.length_append,←hi];rfl
     (try simp only[zU,seval,(show(i:Int)<l.length by omega),hxl])
     repeat((with_reducible apply aI);exact sdp)
     refine⟨(j+1,xs.set i x),⟨by simp only;omega,h,by simp only[List.length_set];exact hxl,?_,?_⟩,by simp only;omega,?_⟩
     ·simp only
      rw[hfn,qgz (by omega),hpre,hfl]
     ·simp only
      rw[qg0 (by omega),hdr2]
     ·simp only[hfn,List.map_set]
      refine qaa [] [0,1,2] rfl (by simp) ?_ (qj3 g _ _)
      simp only[zU,seval,@qag ((j:Int)+1) (by omega),@qag ((i:Int)+1) (by omega)]
      try rfl
    ·have hfl:(l.take (j+1)).filter (fun x=>!p x)=(l.take j).filter (fun x=>!p x):=by rw[hst,List.filter_append,List.filter_cons_of_neg (by rw[hc];simp)];simp
     refine⟨(j+1,xs),⟨by simp only;omega,h,hxl,?_,hdr2⟩,by simp only;omega,?_⟩
     ·simp only
      rw[hfl,←hi,hpre]
     ·simp only[hfl,←hi]
      refine qaa [] [0,1,2] rfl (by simp) ?_ (qj3 g _ _)
      simp only[zU,seval,@qag ((j:Int)+1) (by omega)]
      try rfl
   ·have hjl:j=l.length:=by omega
    subst hjl
    rw[List.take_length] at hpre hi
    simp only[zU,seval,(show ¬(l.length:Int)<l.length by omega),(show(i:Int)≤l.length by omega),hxl,(show i≤l.length by omega)]
    repeat((with_reducible apply aI);exact sdp)
    refine⟨_,_,qgy 2 i (by simp) rfl (by rw[qbi];simp;omega) (by rw[qbi];simp;omega),.inr ⟨by rw[hi];rfl,?_⟩⟩
    rw[qfy,←List.map_take,hpre]
    rfl
theorem q3k (g:Int→Bool) {fv:FuncId} (p:qbj→Bool) (hp:∀x:qbj,qal prog Gl fv [.d x.toD,.ptr 0 0] (.box 1 (.mapr 1)::.map (some .i64) (qbg g)::[]) (fun r s=>r=.d (.bool (p x))∧s=(.box 1 (.mapr 1)::.map (some .i64) (qbg g)::[]))) (l:List qbj) (hl:l.length<1000000) :
  qal prog Gl 75 [.d (.sl (l.map qbj.toD)),.fn fv [.ptr 0 0]] (.box 1 (.mapr 1)::.map (some .i64) (qbg g)::[])
  (fun r s=>r=.d (.sl ((l.filter (fun x=>!p x)).map qbj.toD))∧s=(.box 1 (.mapr 1)::.map (some .i64) (qbg g)::[])):=by
 refine qac func75 rfl rfl (by simp[ntmps75]) (qab rfl _ _ _ _ ?_)
 simp only[ntmps75,results75,qak,List.length_nil]
 simp only[zU,seval]
 refine qaz ((Qad l hl (.box 1 (.mapr 1)::.map (some .i64) (qbg g)::[])).mono fun r s hr=>?_)
 obtain⟨rfl,rfl⟩:=hr
 simp only[zU,seval,List.length_map]
 refine qaz ((Qlp g p hp l hl).mono fun r s hr=>?_)
 rcases hr with⟨rfl,rfl⟩|⟨rfl,rfl⟩
 ·simp only[zU,seval]
  refine⟨_,_,(qdd rfl).trans (qah [] [0,1] rfl (by simp) (show qbk _ _ _=AV.d _ from rfl) (Qcs g _)),?_,rfl⟩
  show AV.d (D.sl (List.take _ (List.map qbj.toD _)))=_
  rw[qbe]
 ·simp only[zU,seval]
  refine⟨_,_,(qdd rfl).trans (qah [] [0,1] rfl (by simp) (show qbk _ _ _=AV.d _ from rfl) (Qcs g _)),?_,rfl⟩
  show AV.d (D.sl (List.take _ (List.map qbj.toD _)))=_
  rw[qbe]
theorem qoj (l:List qam) (hl:l.length<1000000):qls prog Gl 69 [.d (.sl (l.map qam.toD))] 4 (l.map qam.toD):=by
 refine qls.of (args:=[.sl (l.map qam.toD)]) ?_
 have hes:∀y∈l.map qam.toD,y.cells.length=4:=fun y hy=>by
  obtain⟨r,_,rfl⟩:=List.mem_map.1 hy;rfl
 have hfl:∀y∈l.map qam.toD,y.flat:=fun y hy=>by
  obtain⟨r,_,rfl⟩:=List.mem_map.1 hy
  intro c hc
  simp[qam.toD,D.cells] at hc
  rcases hc with rfl|rfl|rfl|rfl<;>rfl
 simp only[List.map_cons,List.map_nil]
 cases l with
 | nil=>
  refine qac func69 rfl rfl (by simp[ntmps69]) (qab rfl _ _ _ _ ?_)
  simp only[ntmps69,results69,qak,List.length_nil]
  simp only[zU,seval]
  refine⟨⟨_,_,qfq 4 (Nat.le_refl 0),rfl,rfl⟩,?_⟩
  exact⟨_,_,qah [] [1] rfl (by simp) rfl rfl,rfl,rfl⟩
 | cons r rs=>
  simp only[List.map_cons,List.length_cons] at hes hl hfl ⊢
  refine qac func69 rfl rfl (by simp[ntmps69]) (qab rfl _ _ _ _ ?_)
  simp only[ntmps69,results69,qak,List.length_nil]
  simp only[zU,seval]
  refine⟨by omega,?_⟩
  exact⟨_,_,qah [] [1] rfl (by simp) rfl rfl,rfl,rfl⟩
theorem qf9 (g:Int→Bool) (xs:List D) (σ:Sto):qdy [0,1,2] (freezeL (.box 1 (.mapr 1)::.map (some .i64) (qbg g)::.arr 4 xs::σ) [])=.box 1 (.mapr 1)::.map (some .i64) (qbg g)::.arr 4 xs::[]:=by
 show[qbs [0,1,2] _ (.box 1 (.mapr 1)),qbs [0,1,2] _ (.map (some .i64) (qbg g)),_]=_
 rw[qbz];rfl
theorem qy0 (g:Int→Bool) (σ:Sto):qdy [0,1] (freezeL (.box 1 (.mapr 1)::.map (some .i64) (qbg g)::σ) [])=.box 1 (.mapr 1)::.map (some .i64) (qbg g)::[]:=by
 show[qbs [0,1] _ (.box 1 (.mapr 1)),qbs [0,1] _ (.map (some .i64) (qbg g))]=_
 rw[qbz];rfl
theorem q95 (g:Int→Bool) {fv:FuncId} (p:qam→Bool) (hp:∀x:qam,qal prog Gl fv [.d x.toD,.ptr 0 0] (.box 1 (.mapr 1)::.map (some .i64) (qbg g)::[]) (fun r s=>r=.d (.bool (p x))∧s=(.box 1 (.mapr 1)::.map (some .i64) (qbg g)::[]))) (l:List qam) (hl:l.length<1000000) :
  qal prog Gl 175 [.osl 2 0 l.length,.fn fv [.ptr 0 0]] (.box 1 (.mapr 1)::.map (some .i64) (qbg g)::.arr 4 (l.map qam.toD)::[])
  (fun r s=>(∃j:Int,r=.d (.int .i64 j)∧((j=-1∧l.filter (fun x=>!p x)=l)∨∃k:Nat,j=k∧k<l.length∧(l.take (k+1)).filter (fun x=>!p x)=l.take k))∧s=(.box 1 (.mapr 1)::.map (some .i64) (qbg g)::.arr 4 (l.map qam.toD)::[])):=by
 refine qac func175 rfl rfl (by simp[ntmps175]) (qab rfl _ _ _ _ ?_)
 simp only[ntmps175,results175,qak,List.length_nil]
 simp only[zU,seval]
 refine qap l.length (fun k=>[(0,.osl 2 0 l.length),(1,.fn fv [.ptr 0 0]),(7,.d (.int .i64 l.length)),(8,.d (.int .i64 k))]) (fun _=>(.box 1 (.mapr 1)::.map (some .i64) (qbg g)::.arr 4 (l.map qam.toD)::[])) (fun k=>(l.take k).filter (fun x=>!p x)=l.take k) rfl ?_ ?_
 ·refine qaa [] [0,1,2] rfl (by simp) ?_ (qf9 g _ _)
  simp only[zU,seval]
  try rfl
 ·intro k hi hk
  by_cases h:k<l.length
  ·obtain⟨x,hx⟩:∃x,x=l.getD k default:=⟨_,rfl⟩
   have eg:(l.map qam.toD).getD k default=x.toD:=by rw[qaj _ _ _ h,←hx]
   have hst:=qa0 l k h
   rw[←hx] at hst
   simp only[zU,seval,(show(k:Int)<l.length by omega),h,eg]
   repeat((with_reducible apply aI);exact sdp)
   refine qb3 (R:=fun r ν=>r=.d (.bool (p x))∧ν=[]) [0,1] (.box 1 (.mapr 1)::.map (some .i64) (qbg g)::[]) (by simp) (by simp) (show[qbs [0,1] _ (.box 1 (.mapr 1)),qbs [0,1] _ (.map (some .i64) (qbg g))]=_ by rw[qbz];rfl) rfl (hk2 rfl (qc7 g _)) ((hp x).mono fun r s hr=>⟨[],by rw[hr.2];rfl,hr.1,rfl⟩) (fun r ν hr=>?_)
   obtain⟨rfl,rfl⟩:=hr
   simp only[zU,seval,List.map_nil,List.append_nil]
   refine ifC.mk (fun hc=>?_) (fun hc=>?_)
   ·refine⟨_,_,qah [] [0,1,2] rfl (by simp) (show qbk _ _ _=AV.d _ from rfl) (qf9 g _ _),⟨k,rfl,.inr ⟨k,rfl,h,?_⟩⟩,rfl⟩
    rw[hst,List.filter_append,hi,List.filter_cons_of_neg (by rw[hc];simp)]
    simp
   ·refine⟨by rw[hst,List.filter_append,hi,List.filter_cons_of_pos (by rw[hc];rfl)];rfl,?_⟩
    refine qaa [] [0,1,2] rfl (by simp) ?_ (qf9 g _ _)
    simp only[zU,seval,@qag ((k:Int)+1) (by omega)]
    try rfl
  ·have:k=l.length:=by omega
   subst this
   rw[List.take_length] at hi
   simp only[zU,seval,(show ¬(l.length:Int)<l.length by omega)]
   exact⟨_,_,qah [] [0,1,2] rfl (by simp) (show qbk _ _ _=AV.d _ from rfl) (qf9 g _ _),⟨-1,rfl,.inl ⟨rfl,hi⟩⟩,rfl⟩
theorem q99 (g:Int→Bool) {fv:FuncId} (p:qam→Bool) (hp:∀x:qam,qal prog Gl fv [.d x.toD,.ptr 0 0] (.box 1 (.mapr 1)::.map (some .i64) (qbg g)::[]) (fun r s=>r=.d (.bool (p x))∧s=(.box 1 (.mapr 1)::.map (some .i64) (qbg g)::[]))) (l:List qam) (hl:l.length<1000000) :
  qal prog Gl 141 [.osl 2 0 l.length,.fn fv [.ptr 0 0]] (.box 1 (.mapr 1)::.map (some .i64) (qbg g)::.arr 4 (l.map qam.toD)::[])
  (fun r s=>(r=.osl 2 0 (l.filter (fun x=>!p x)).length∧s=(.box 1 (.mapr 1)::.map (some .i64) (qbg g)::.arr 4 ((l.filter (fun x=>!p x)).map qam.toD)::[]))∨(r=.osl 3 0 (l.filter (fun x=>!p x)).length∧s=(.box 1 (.mapr 1)::.map (some .i64) (qbg g)::.dead::.arr 4 ((l.filter (fun x=>!p x)).map qam.toD)::[]))):=by
 refine qac func141 rfl rfl (by simp[ntmps141]) (qab rfl _ _ _ _ ?_)
 simp only[ntmps141,results141,qak,List.length_nil]
 simp only[zU,seval]
 refine qaz ((q95 g p hp l hl).mono fun r s hr=>?_)
 obtain⟨⟨c,rfl,hcs⟩,rfl⟩:=hr
 rcases hcs with⟨rfl,hn⟩|⟨k,rfl,hk,hf⟩
 ·simp only[zU,seval]
  rw[hn]
  refine⟨_,_,qah [] [0,1,2] rfl (by simp) rfl (qf9 g _ _),.inl ⟨rfl,rfl⟩⟩
 ·have e0:((k:Int)==-1)=false:=by rw[beq_eq_false_iff_ne];omega
  simp only[zU,seval,e0,@qag ((k:Int)+1) (by omega)]
  repeat((with_reducible apply aI);exact sdp)
  refine qcy (τ:=Nat×List qam) (fun u=>[(0,.osl 2 0 l.length),(1,.fn fv [.ptr 0 0]),(5,.d (.int .i64 (((l.take u.1).filter (fun x=>!p x)).length:Nat))),(6,.d (.int .i64 u.1))]) (fun u=>(.box 1 (.mapr 1)::.map (some .i64) (qbg g)::.arr 4 (u.2.map qam.toD)::[]))
   (fun u=>k<u.1∧u.1≤l.length∧u.2.length=l.length∧u.2.take ((l.take u.1).filter (fun x=>!p x)).length=(l.take u.1).filter (fun x=>!p x)∧u.2.drop u.1=l.drop u.1) (fun u=>l.length-u.1) (k+1,l) ?_ ?_ ?_
  ·refine⟨by simp only;omega,hk,rfl,?_,rfl⟩
   simp only
   rw[hf,List.length_take,Nat.min_eq_left (by omega)]
  ·have e1:((l.take (k+1)).filter (fun x=>!p x)).length=k:=by rw[hf,List.length_take];omega
   rw[e1]
   refine qaa [] [0,1,2] rfl (by simp) ?_ (qf9 g _ _)
   simp only[zU,seval]
   try rfl
  ·rintro⟨j,xs⟩ ⟨hkj,hj,hxl,hpre,hdr⟩
   simp only at hkj hj hxl hpre hdr
   obtain⟨i,hi⟩:∃i,i=((l.take j).filter (fun x=>!p x)).length:=⟨_,rfl⟩
   have hij:=qmy hk hf hkj hj
   rw[←hi] at hpre hij
   rw[←hi]
   by_cases h:j<l.length
   ·obtain⟨x,hx⟩:∃x,x=l.getD j default:=⟨_,rfl⟩
    have hxx:xs.getD j default=x:=by
     have e:xs[j]? = l[j]? := by
      have:=congrArg (fun z=>z[0]?) hdr
      simpa using this
     rw[List.getD_eq_getElem?_getD,e,hx,List.getD_eq_getElem?_getD]
    have eg:(xs.map qam.toD).getD j default=x.toD:=by rw[qaj _ _ _ (by omega),hxx]
    have hst:=qa0 l j h
    rw[←hx] at hst
    simp only[zU,seval,(show(j:Int)<l.length by omega),h,eg,hxl]
    repeat((with_reducible apply aI);exact sdp)
    refine qb3 (R:=fun r ν=>r=.d (.bool (p x))∧ν=[]) [0,1] (.box 1 (.mapr 1)::.map (some .i64) (qbg g)::[]) (by simp) (by simp) (show[qbs [0,1] _ (.box 1 (.mapr 1)),qbs [0,1] _ (.map (some .i64) (qbg g))]=_ by rw[qbz];rfl) rfl (hk2 rfl (qc7 g _)) ((hp x).mono fun r s hr=>⟨[],by rw[hr.2];rfl,hr.1,rfl⟩) (fun r ν hr=>?_)
    obtain⟨rfl,rfl⟩:=hr
    simp only[zU,seval,List.map_nil,List.append_nil]
    have hdr2:xs.drop (j+1)=l.drop (j+1):=by
     have:=congrArg (List.drop 1) hdr
     rwa [List.drop_drop,List.drop_drop] at this
    refine ifC.mk (fun hc=>?_) (fun hc=>?_)
    ·have hfl:(l.take (j+1)).filter (fun x=>!p x)=(l.take j).filter (fun x=>!p x)++[x]:=by rw[hst,List.filter_append,List.filter_cons_of_pos (p:=fun x=>!p x) hc];rfl
     have hfn:((l.take (j+1)).filter (fun x=>!p x)).length=i+1:=by rw[hfl,List.length_append,←hi];rfl
     (try simp only[zU,seval,(show(i:Int)<l.length by omega),hxl])
     repeat((with_reducible apply aI);exact sdp)
     refine⟨(j+1,xs.set i x),⟨by simp only;omega,h,by simp only[List.length_set];exact hxl,?_,?_⟩,by simp only;omega,?_⟩
     ·simp only
      rw[hfn,qgz (by omega),hpre,hfl]
     ·simp only
      rw[qg0 (by omega),hdr2]
     ·simp only[hfn,List.map_set]
      refine qaa [] [0,1,2] rfl (by simp) ?_ (qf9 g _ _)
      simp only[zU,seval,@qag ((j:Int)+1) (by omega),@qag ((i:Int)+1) (by omega)]
      try rfl
    ·have hfl:(l.take (j+1)).filter (fun x=>!p x)=(l.take j).filter (fun x=>!p x):=by rw[hst,List.filter_append,List.filter_cons_of_neg (by rw[hc];simp)];simp
     refine⟨(j+1,xs),⟨by simp only;omega,h,hxl,?_,hdr2⟩,by simp only;omega,?_⟩
     ·simp only
      rw[hfl,←hi,hpre]
     ·simp only[hfl,←hi]
      refine qaa [] [0,1,2] rfl (by simp) ?_ (qf9 g _ _)
      simp only[zU,seval,@qag ((j:Int)+1) (by omega)]
      try rfl
   ·have hjl:j=l.length:=by omega
    subst hjl
    rw[List.take_length] at hpre hi
    simp only[zU,seval,(show ¬(l.length:Int)<l.length by omega),(show(i:Int)≤l.length by omega),hxl,(show i≤l.length by omega)]
    repeat((with_reducible apply aI);exact sdp)
    refine⟨_,_,qgy 2 i (by simp) rfl (by rw[qbi];simp;omega) (by rw[qbi];simp;omega),.inr ⟨by rw[hi];rfl,?_⟩⟩
    rw[qfy,←List.map_take,hpre]
    rfl
theorem qwk (g:Int→Bool) {fv:FuncId} (p:qam→Bool) (hp:∀x:qam,qal prog Gl fv [.d x.toD,.ptr 0 0] (.box 1 (.mapr 1)::.map (some .i64) (qbg g)::[]) (fun r s=>r=.d (.bool (p x))∧s=(.box 1 (.mapr 1)::.map (some .i64) (qbg g)::[]))) (l:List qam) (hl:l.length<1000000) :
  qal prog Gl 77 [.d (.sl (l.map qam.toD)),.fn fv [.ptr 0 0]] (.box 1 (.mapr 1)::.map (some .i64) (qbg g)::[])
  (fun r s=>r=.d (.sl ((l.filter (fun x=>!p x)).map qam.toD))∧s=(.box 1 (.mapr 1)::.map (some .i64) (qbg g)::[])):=by
 refine qac func77 rfl rfl (by simp[ntmps77]) (qab rfl _ _ _ _ ?_)
 simp only[ntmps77,results77,qak,List.length_nil]
 simp only[zU,seval]
 refine qaz ((qoj l hl (.box 1 (.mapr 1)::.map (some .i64) (qbg g)::[])).mono fun r s hr=>?_)
 obtain⟨rfl,rfl⟩:=hr
 simp only[zU,seval,List.length_map]
 refine qaz ((q99 g p hp l hl).mono fun r s hr=>?_)
 rcases hr with⟨rfl,rfl⟩|⟨rfl,rfl⟩
 ·simp only[zU,seval]
  refine⟨_,_,(qdd rfl).trans (qah [] [0,1] rfl (by simp) (show qbk _ _ _=AV.d _ from rfl) (qy0 g _)),?_,rfl⟩
  show AV.d (D.sl (List.take _ (List.map qam.toD _)))=_
  rw[qbe]
 ·simp only[zU,seval]
  refine⟨_,_,(qdd rfl).trans (qah [] [0,1] rfl (by simp) (show qbk _ _ _=AV.d _ from rfl) (qy0 g _)),?_,rfl⟩
  show AV.d (D.sl (List.take _ (List.map qam.toD _)))=_
  rw[qbe]
theorem qrr (l:List qaw) (hl:l.length<1000000):qls prog Gl 70 [.d (.sl (l.map qaw.toD))] 7 (l.map qaw.toD):=by
 refine qls.of (args:=[.sl (l.map qaw.toD)]) ?_
 have hes:∀y∈l.map qaw.toD,y.cells.length=7:=fun y hy=>by
  obtain⟨r,_,rfl⟩:=List.mem_map.1 hy;rfl
 have hfl:∀y∈l.map qaw.toD,y.flat:=fun y hy=>by
  obtain⟨r,_,rfl⟩:=List.mem_map.1 hy
  intro c hc
  simp[qaw.toD,D.cells] at hc
  rcases hc with rfl|rfl|rfl|rfl|rfl|rfl|rfl<;>rfl
 simp only[List.map_cons,List.map_nil]
 cases l with
 | nil=>
  refine qac func70 rfl rfl (by simp[ntmps70]) (qab rfl _ _ _ _ ?_)
  simp only[ntmps70,results70,qak,List.length_nil]
  simp only[zU,seval]
  refine⟨⟨_,_,qfq 7 (Nat.le_refl 0),rfl,rfl⟩,?_⟩
  exact⟨_,_,qah [] [1] rfl (by simp) rfl rfl,rfl,rfl⟩
 | cons r rs=>
  simp only[List.map_cons,List.length_cons] at hes hl hfl ⊢
  refine qac func70 rfl rfl (by simp[ntmps70]) (qab rfl _ _ _ _ ?_)
  simp only[ntmps70,results70,qak,List.length_nil]
  simp only[zU,seval]
  refine⟨by omega,?_⟩
  exact⟨_,_,qah [] [1] rfl (by simp) rfl rfl,rfl,rfl⟩
theorem qhj (g:Int→Bool) (xs:List D) (σ:Sto):qdy [0,1,2] (freezeL (.box 1 (.mapr 1)::.map (some .i64) (qbg g)::.arr 7 xs::σ) [])=.box 1 (.mapr 1)::.map (some .i64) (qbg g)::.arr 7 xs::[]:=by
 show[qbs [0,1,2] _ (.box 1 (.mapr 1)),qbs [0,1,2] _ (.map (some .i64) (qbg g)),_]=_
 rw[qbz];rfl
theorem q5i (g:Int→Bool) (σ:Sto):qdy [0,1] (freezeL (.box 1 (.mapr 1)::.map (some .i64) (qbg g)::σ) [])=.box 1 (.mapr 1)::.map (some .i64) (qbg g)::[]:=by
 show[qbs [0,1] _ (.box 1 (.mapr 1)),qbs [0,1] _ (.map (some .i64) (qbg g))]=_
 rw[qbz];rfl
theorem Qg3 (g:Int→Bool) {fv:FuncId} (p:qaw→Bool) (hp:∀x:qaw,qal prog Gl fv [.d x.toD,.ptr 0 0] (.box 1 (.mapr 1)::.map (some .i64) (qbg g)::[]) (fun r s=>r=.d (.bool (p x))∧s=(.box 1 (.mapr 1)::.map (some .i64) (qbg g)::[]))) (l:List qaw) (hl:l.length<1000000) :
  qal prog Gl 173 [.osl 2 0 l.length,.fn fv [.ptr 0 0]] (.box 1 (.mapr 1)::.map (some .i64) (qbg g)::.arr 7 (l.map qaw.toD)::[])
  (fun r s=>(∃j:Int,r=.d (.int .i64 j)∧((j=-1∧l.filter (fun x=>!p x)=l)∨∃k:Nat,j=k∧k<l.length∧(l.take (k+1)).filter (fun x=>!p x)=l.take k))∧s=(.box 1 (.mapr 1)::.map (some .i64) (qbg g)::.arr 7 (l.map qaw.toD)::[])):=by
 refine qac func173 rfl rfl (by simp[ntmps173]) (qab rfl _ _ _ _ ?_)
 simp only[ntmps173,results173,qak,List.length_nil]
 simp only[zU,seval]
 refine qap l.length (fun k=>[(0,.osl 2 0 l.length),(1,.fn fv [.ptr 0 0]),(7,.d (.int .i64 l.length)),(8,.d (.int .i64 k))]) (fun _=>(.box 1 (.mapr 1)::.map (some .i64) (qbg g)::.arr 7 (l.map qaw.toD)::[])) (fun k=>(l.take k).filter (fun x=>!p x)=l.take k) rfl ?_ ?_
 ·refine qaa [] [0,1,2] rfl (by simp) ?_ (qhj g _ _)
  simp only[zU,seval]
  try rfl
 ·intro k hi hk
  by_cases h:k<l.length
  ·obtain⟨x,hx⟩:∃x,x=l.getD k default:=⟨_,rfl⟩
   have eg:(l.map qaw.toD).getD k default=x.toD:=by rw[qaj _ _ _ h,←hx]
   have hst:=qa0 l k h
   rw[←hx] at hst
   simp only[zU,seval,(show(k:Int)<l.length by omega),h,eg]
   repeat((with_reducible apply aI);exact sdp)
   refine qb3 (R:=fun r ν=>r=.d (.bool (p x))∧ν=[]) [0,1] (.box 1 (.mapr 1)::.map (some .i64) (qbg g)::[]) (by simp) (by simp) (show[qbs [0,1] _ (.box 1 (.mapr 1)),qbs [0,1] _ (.map (some .i64) (qbg g))]=_ by rw[qbz];rfl) rfl (hk2 rfl (qc7 g _)) ((hp x).mono fun r s hr=>⟨[],by rw[hr.2];rfl,hr.1,rfl⟩) (fun r ν hr=>?_)
   obtain⟨rfl,rfl⟩:=hr
   simp only[zU,seval,List.map_nil,List.append_nil]
   refine ifC.mk (fun hc=>?_) (fun hc=>?_)
   ·refine⟨_,_,qah [] [0,1,2] rfl (by simp) (show qbk _ _ _=AV.d _ from rfl) (qhj g _ _),⟨k,rfl,.inr ⟨k,rfl,h,?_⟩⟩,rfl⟩
    rw[hst,List.filter_append,hi,List.filter_cons_of_neg (by rw[hc];simp)]
    simp
   ·refine⟨by rw[hst,List.filter_append,hi,List.filter_cons_of_pos (by rw[hc];rfl)];rfl,?_⟩
    refine qaa [] [0,1,2] rfl (by simp) ?_ (qhj g _ _)
    simp only[zU,seval,@qag ((k:Int)+1) (by omega)]
    try rfl
  ·have:k=l.length:=by omega
   subst this
   rw[List.take_length] at hi
   simp only[zU,seval,(show ¬(l.length:Int)<l.length by omega)]
   exact⟨_,_,qah [] [0,1,2] rfl (by simp) (show qbk _ _ _=AV.d _ from rfl) (qhj g _ _),⟨-1,rfl,.inl ⟨rfl,hi⟩⟩,rfl⟩
theorem Qg5 (g:Int→Bool) {fv:FuncId} (p:qaw→Bool) (hp:∀x:qaw,qal prog Gl fv [.d x.toD,.ptr 0 0] (.box 1 (.mapr 1)::.map (some .i64) (qbg g)::[]) (fun r s=>r=.d (.bool (p x))∧s=(.box 1 (.mapr 1)::.map (some .i64) (qbg g)::[]))) (l:List qaw) (hl:l.length<1000000) :
  qal prog Gl 142 [.osl 2 0 l.length,.fn fv [.ptr 0 0]] (.box 1 (.mapr 1)::.map (some .i64) (qbg g)::.arr 7 (l.map qaw.toD)::[])
  (fun r s=>(r=.osl 2 0 (l.filter (fun x=>!p x)).length∧s=(.box 1 (.mapr 1)::.map (some .i64) (qbg g)::.arr 7 ((l.filter (fun x=>!p x)).map qaw.toD)::[]))∨(r=.osl 3 0 (l.filter (fun x=>!p x)).length∧s=(.box 1 (.mapr 1)::.map (some .i64) (qbg g)::.dead::.arr 7 ((l.filter (fun x=>!p x)).map qaw.toD)::[]))):=by
 refine qac func142 rfl rfl (by simp[ntmps142]) (qab rfl _ _ _ _ ?_)
 simp only[ntmps142,results142,qak,List.length_nil]
 simp only[zU,seval]
 refine qaz ((Qg3 g p hp l hl).mono fun r s hr=>?_)
 obtain⟨⟨c,rfl,hcs⟩,rfl⟩:=hr
 rcases hcs with⟨rfl,hn⟩|⟨k,rfl,hk,hf⟩
 ·simp only[zU,seval]
  rw[hn]
  refine⟨_,_,qah [] [0,1,2] rfl (by simp) rfl (qhj g _ _),.inl ⟨rfl,rfl⟩⟩
 ·have e0:((k:Int)==-1)=false:=by rw[beq_eq_false_iff_ne];omega
  simp only[zU,seval,e0,@qag ((k:Int)+1) (by omega)]
  repeat((with_reducible apply aI);exact sdp)
  refine qcy (τ:=Nat×List qaw) (fun u=>[(0,.osl 2 0 l.length),(1,.fn fv [.ptr 0 0]),(5,.d (.int .i64 (((l.take u.1).filter (fun x=>!p x)).length:Nat))),(6,.d (.int .i64 u.1))]) (fun u=>(.box 1 (.mapr 1)::.map (some .i64) (qbg g)::.arr 7 (u.2.map qaw.toD)::[]))
   (fun u=>k<u.1∧u.1≤l.length∧u.2.length=l.length∧u.2.take ((l.take u.1).filter (fun x=>!p x)).length=(l.take u.1).filter (fun x=>!p x)∧u.2.drop u.1=l.drop u.1) (fun u=>l.length-u.1) (k+1,l) ?_ ?_ ?_
  ·refine⟨by simp only;omega,hk,rfl,?_,rfl⟩
   simp only
   rw[hf,List.length_take,Nat.min_eq_left (by omega)]
  ·have e1:((l.take (k+1)).filter (fun x=>!p x)).length=k:=by rw[hf,List.length_take];omega
   rw[e1]
   refine qaa [] [0,1,2] rfl (by simp) ?_ (qhj g _ _)
   simp only[zU,seval]
   try rfl
  ·rintro⟨j,xs⟩ ⟨hkj,hj,hxl,hpre,hdr⟩
   simp only at hkj hj hxl hpre hdr
   obtain⟨i,hi⟩:∃i,i=((l.take j).filter (fun x=>!p x)).length:=⟨_,rfl⟩
   have hij:=qmy hk hf hkj hj
   rw[←hi] at hpre hij
   rw[←hi]
   by_cases h:j<l.length
   ·obtain⟨x,hx⟩:∃x,x=l.getD j default:=⟨_,rfl⟩
    have hxx:xs.getD j default=x:=by
     have e:xs[j]? = l[j]? := by
      have:=congrArg (fun z=>z[0]?) hdr
      simpa using this
     rw[List.getD_eq_getElem?_getD,e,hx,List.getD_eq_getElem?_getD]
    have eg:(xs.map qaw.toD).getD j default=x.toD:=by rw[qaj _ _ _ (by omega),hxx]
    have hst:=qa0 l j h
    rw[←hx] at hst
    simp only[zU,seval,(show(j:Int)<l.length by omega),h,eg,hxl]
    repeat((with_reducible apply aI);exact sdp)
    refine qb3 (R:=fun r ν=>r=.d (.bool (p x))∧ν=[]) [0,1] (.box 1 (.mapr 1)::.map (some .i64) (qbg g)::[]) (by simp) (by simp) (show[qbs [0,1] _ (.box 1 (.mapr 1)),qbs [0,1] _ (.map (some .i64) (qbg g))]=_ by rw[qbz];rfl) rfl (hk2 rfl (qc7 g _)) ((hp x).mono fun r s hr=>⟨[],by rw[hr.2];rfl,hr.1,rfl⟩) (fun r ν hr=>?_)
    obtain⟨rfl,rfl⟩:=hr
    simp only[zU,seval,List.map_nil,List.append_nil]
    have hdr2:xs.drop (j+1)=l.drop (j+1):=by
     have:=congrArg (List.drop 1) hdr
     rwa [List.drop_drop,List.drop_drop] at this
    refine ifC.mk (fun hc=>?_) (fun hc=>?_)
    ·have hfl:(l.take (j+1)).filter (fun x=>!p x)=(l.take j).filter (fun x=>!p x)++[x]:=by rw[hst,List.filter_append,List.filter_cons_of_pos (p:=fun x=>!p x) hc];rfl
     have hfn:((l.take (j+1)).filter (fun x=>!p x)).length=i+1:=by rw[hfl,List.length_append,←hi];rfl
     (try simp only[zU,seval,(show(i:Int)<l.length by omega),hxl])
     repeat((with_reducible apply aI);exact sdp)
     refine⟨(j+1,xs.set i x),⟨by simp only;omega,h,by simp only[List.length_set];exact hxl,?_,?_⟩,by simp only;omega,?_⟩
     ·simp only
      rw[hfn,qgz (by omega),hpre,hfl]
     ·simp only
      rw[qg0 (by omega),hdr2]
     ·simp only[hfn,List.map_set]
      refine qaa [] [0,1,2] rfl (by simp) ?_ (qhj g _ _)
      simp only[zU,seval,@qag ((j:Int)+1) (by omega),@qag ((i:Int)+1) (by omega)]
      try rfl
    ·have hfl:(l.take (j+1)).filter (fun x=>!p x)=(l.take j).filter (fun x=>!p x):=by rw[hst,List.filter_append,List.filter_cons_of_neg (by rw[hc];simp)];simp
     refine⟨(j+1,xs),⟨by simp only;omega,h,hxl,?_,hdr2⟩,by simp only;omega,?_⟩
     ·simp only
      rw[hfl,←hi,hpre]
     ·simp only[hfl,←hi]
      refine qaa [] [0,1,2] rfl (by simp) ?_ (qhj g _ _)
      simp only[zU,seval,@qag ((j:Int)+1) (by omega)]
      try rfl
   ·have hjl:j=l.length:=by omega
    subst hjl
    rw[List.take_length] at hpre hi
    simp only[zU,seval,(show ¬(l.length:Int)<l.length by omega),(show(i:Int)≤l.length by omega),hxl,(show i≤l.length by omega)]
    repeat((with_reducible apply aI);exact sdp)
    refine⟨_,_,qgy 2 i (by simp) rfl (by rw[qbi];simp;omega) (by rw[qbi];simp;omega),.inr ⟨by rw[hi];rfl,?_⟩⟩
    rw[qfy,←List.map_take,hpre]
    rfl
theorem qx4 (g:Int→Bool) {fv:FuncId} (p:qaw→Bool) (hp:∀x:qaw,qal prog Gl fv [.d x.toD,.ptr 0 0] (.box 1 (.mapr 1)::.map (some .i64) (qbg g)::[]) (fun r s=>r=.d (.bool (p x))∧s=(.box 1 (.mapr 1)::.map (some .i64) (qbg g)::[]))) (l:List qaw) (hl:l.length<1000000) :
  qal prog Gl 79 [.d (.sl (l.map qaw.toD)),.fn fv [.ptr 0 0]] (.box 1 (.mapr 1)::.map (some .i64) (qbg g)::[])
  (fun r s=>r=.d (.sl ((l.filter (fun x=>!p x)).map qaw.toD))∧s=(.box 1 (.mapr 1)::.map (some .i64) (qbg g)::[])):=by
 refine qac func79 rfl rfl (by simp[ntmps79]) (qab rfl _ _ _ _ ?_)
 simp only[ntmps79,results79,qak,List.length_nil]
 simp only[zU,seval]
 refine qaz ((qrr l hl (.box 1 (.mapr 1)::.map (some .i64) (qbg g)::[])).mono fun r s hr=>?_)
 obtain⟨rfl,rfl⟩:=hr
 simp only[zU,seval,List.length_map]
 refine qaz ((Qg5 g p hp l hl).mono fun r s hr=>?_)
 rcases hr with⟨rfl,rfl⟩|⟨rfl,rfl⟩
 ·simp only[zU,seval]
  refine⟨_,_,(qdd rfl).trans (qah [] [0,1] rfl (by simp) (show qbk _ _ _=AV.d _ from rfl) (q5i g _)),?_,rfl⟩
  show AV.d (D.sl (List.take _ (List.map qaw.toD _)))=_
  rw[qbe]
 ·simp only[zU,seval]
  refine⟨_,_,(qdd rfl).trans (qah [] [0,1] rfl (by simp) (show qbk _ _ _=AV.d _ from rfl) (q5i g _)),?_,rfl⟩
  show AV.d (D.sl (List.take _ (List.map qaw.toD _)))=_
  rw[qbe]
theorem Qac (l:List qb5) (hl:l.length<1000000):qls prog Gl 144 [.d (.sl (l.map qb5.toD))] 4 (l.map qb5.toD):=by
 refine qls.of (args:=[.sl (l.map qb5.toD)]) ?_
 have hes:∀y∈l.map qb5.toD,y.cells.length=4:=fun y hy=>by
  obtain⟨r,_,rfl⟩:=List.mem_map.1 hy;rfl
 have hfl:∀y∈l.map qb5.toD,y.flat:=fun y hy=>by
  obtain⟨r,_,rfl⟩:=List.mem_map.1 hy
  intro c hc
  simp[qb5.toD,D.cells] at hc
  rcases hc with rfl|rfl|rfl|rfl<;>rfl
 simp only[List.map_cons,List.map_nil]
 cases l with
 | nil=>
  refine qac func144 rfl rfl (by simp[ntmps144]) (qab rfl _ _ _ _ ?_)
  simp only[ntmps144,results144,qak,List.length_nil]
  simp only[zU,seval]
  refine⟨⟨_,_,qfq 4 (Nat.le_refl 0),rfl,rfl⟩,?_⟩
  exact⟨_,_,qah [] [1] rfl (by simp) rfl rfl,rfl,rfl⟩
 | cons r rs=>
  simp only[List.map_cons,List.length_cons] at hes hl hfl ⊢
  refine qac func144 rfl rfl (by simp[ntmps144]) (qab rfl _ _ _ _ ?_)
  simp only[ntmps144,results144,qak,List.length_nil]
  simp only[zU,seval]
  refine⟨by omega,?_⟩
  exact⟨_,_,qah [] [1] rfl (by simp) rfl rfl,rfl,rfl⟩
theorem qj2 (g:Int→Bool) (xs:List D) (σ:Sto):qdy [0,1,2] (freezeL (.box 1 (.mapr 1)::.map (some .i64) (qbg g)::.arr 4 xs::σ) [])=.box 1 (.mapr 1)::.map (some .i64) (qbg g)::.arr 4 xs::[]:=by
 show[qbs [0,1,2] _ (.box 1 (.mapr 1)),qbs [0,1,2] _ (.map (some .i64) (qbg g)),_]=_
 rw[qbz];rfl
theorem Qcr (g:Int→Bool) (σ:Sto):qdy [0,1] (freezeL (.box 1 (.mapr 1)::.map (some .i64) (qbg g)::σ) [])=.box 1 (.mapr 1)::.map (some .i64) (qbg g)::[]:=by
 show[qbs [0,1] _ (.box 1 (.mapr 1)),qbs [0,1] _ (.map (some .i64) (qbg g))]=_
 rw[qbz];rfl
theorem Qlh (g:Int→Bool) {fv:FuncId} (p:qb5→Bool) (hp:∀x:qb5,qal prog Gl fv [.d x.toD,.ptr 0 0] (.box 1 (.mapr 1)::.map (some .i64) (qbg g)::[]) (fun r s=>r=.d (.bool (p x))∧s=(.box 1 (.mapr 1)::.map (some .i64) (qbg g)::[]))) (l:List qb5) (hl:l.length<1000000) :
  qal prog Gl 188 [.osl 2 0 l.length,.fn fv [.ptr 0 0]] (.box 1 (.mapr 1)::.map (some .i64) (qbg g)::.arr 4 (l.map qb5.toD)::[])
  (fun r s=>(∃j:Int,r=.d (.int .i64 j)∧((j=-1∧l.filter (fun x=>!p x)=l)∨∃k:Nat,j=k∧k<l.length∧(l.take (k+1)).filter (fun x=>!p x)=l.take k))∧s=(.box 1 (.mapr 1)::.map (some .i64) (qbg g)::.arr 4 (l.map qb5.toD)::[])):=by
 refine qac func188 rfl rfl (by simp[ntmps188]) (qab rfl _ _ _ _ ?_)
 simp only[ntmps188,results188,qak,List.length_nil]
 simp only[zU,seval]
 refine qap l.length (fun k=>[(0,.osl 2 0 l.length),(1,.fn fv [.ptr 0 0]),(7,.d (.int .i64 l.length)),(8,.d (.int .i64 k))]) (fun _=>(.box 1 (.mapr 1)::.map (some .i64) (qbg g)::.arr 4 (l.map qb5.toD)::[])) (fun k=>(l.take k).filter (fun x=>!p x)=l.take k) rfl ?_ ?_
 ·refine qaa [] [0,1,2] rfl (by simp) ?_ (qj2 g _ _)
  simp only[zU,seval]
  try rfl
 ·intro k hi hk
  by_cases h:k<l.length
  ·obtain⟨x,hx⟩:∃x,x=l.getD k default:=⟨_,rfl⟩
   have eg:(l.map qb5.toD).getD k default=x.toD:=by rw[qaj _ _ _ h,←hx]
   have hst:=qa0 l k h
   rw[←hx] at hst
   simp only[zU,seval,(show(k:Int)<l.length by omega),h,eg]
   repeat((with_reducible apply aI);exact sdp)
   refine qb3 (R:=fun r ν=>r=.d (.bool (p x))∧ν=[]) [0,1] (.box 1 (.mapr 1)::.map (some .i64) (qbg g)::[]) (by simp) (by simp) (show[qbs [0,1] _ (.box 1 (.mapr 1)),qbs [0,1] _ (.map (some .i64) (qbg g))]=_ by rw[qbz];rfl) rfl (hk2 rfl (qc7 g _)) ((hp x).mono fun r s hr=>⟨[],by rw[hr.2];rfl,hr.1,rfl⟩) (fun r ν hr=>?_)
   obtain⟨rfl,rfl⟩:=hr
   simp only[zU,seval,List.map_nil,List.append_nil]
   refine ifC.mk (fun hc=>?_) (fun hc=>?_)
   ·refine⟨_,_,qah [] [0,1,2] rfl (by simp) (show qbk _ _ _=AV.d _ from rfl) (qj2 g _ _),⟨k,rfl,.inr ⟨k,rfl,h,?_⟩⟩,rfl⟩
    rw[hst,List.filter_append,hi,List.filter_cons_of_neg (by rw[hc];simp)]
    simp
   ·refine⟨by rw[hst,List.filter_append,hi,List.filter_cons_of_pos (by rw[hc];rfl)];rfl,?_⟩
    refine qaa [] [0,1,2] rfl (by simp) ?_ (qj2 g _ _)
    simp only[zU,seval,@qag ((k:Int)+1) (by omega)]
    try rfl
  ·have:k=l.length:=by omega
   subst this
   rw[List.take_length] at hi
   simp only[zU,seval,(show ¬(l.length:Int)<l.length by omega)]
   exact⟨_,_,qah [] [0,1,2] rfl (by simp) (show qbk _ _ _=AV.d _ from rfl) (qj2 g _ _),⟨-1,rfl,.inl ⟨rfl,hi⟩⟩,rfl⟩
theorem Qlo (g:Int→Bool) {fv:FuncId} (p:qb5→Bool) (hp:∀x:qb5,qal prog Gl fv [.d x.toD,.ptr 0 0] (.box 1 (.mapr 1)::.map (some .i64) (qbg g)::[]) (fun r s=>r=.d (.bool (p x))∧s=(.box 1 (.mapr 1)::.map (some .i64) (qbg g)::[]))) (l:List qb5) (hl:l.length<1000000) :
  qal prog Gl 143 [.osl 2 0 l.length,.fn fv [.ptr 0 0]] (.box 1 (.mapr 1)::.map (some .i64) (qbg g)::.arr 4 (l.map qb5.toD)::[])
  (fun r s=>(r=.osl 2 0 (l.filter (fun x=>!p x)).length∧s=(.box 1 (.mapr 1)::.map (some .i64) (qbg g)::.arr 4 ((l.filter (fun x=>!p x)).map qb5.toD)::[]))∨(r=.osl 3 0 (l.filter (fun x=>!p x)).length∧s=(.box 1 (.mapr 1)::.map (some .i64) (qbg g)::.dead::.arr 4 ((l.filter (fun x=>!p x)).map qb5.toD)::[]))):=by
 refine qac func143 rfl rfl (by simp[ntmps143]) (qab rfl _ _ _ _ ?_)
 simp only[ntmps143,results143,qak,List.length_nil]
 simp only[zU,seval]
 refine qaz ((Qlh g p hp l hl).mono fun r s hr=>?_)
 obtain⟨⟨c,rfl,hcs⟩,rfl⟩:=hr
 rcases hcs with⟨rfl,hn⟩|⟨k,rfl,hk,hf⟩
 ·simp only[zU,seval]
  rw[hn]
  refine⟨_,_,qah [] [0,1,2] rfl (by simp) rfl (qj2 g _ _),.inl ⟨rfl,rfl⟩⟩
 ·have e0:((k:Int)==-1)=false:=by rw[beq_eq_false_iff_ne];omega
  simp only[zU,seval,e0,@qag ((k:Int)+1) (by omega)]
  repeat((with_reducible apply aI);exact sdp)
  refine qcy (τ:=Nat×List qb5) (fun u=>[(0,.osl 2 0 l.length),(1,.fn fv [.ptr 0 0]),(5,.d (.int .i64 (((l.take u.1).filter (fun x=>!p x)).length:Nat))),(6,.d (.int .i64 u.1))]) (fun u=>(.box 1 (.mapr 1)::.map (some .i64) (qbg g)::.arr 4 (u.2.map qb5.toD)::[]))
   (fun u=>k<u.1∧u.1≤l.length∧u.2.length=l.length∧u.2.take ((l.take u.1).filter (fun x=>!p x)).length=(l.take u.1).filter (fun x=>!p x)∧u.2.drop u.1=l.drop u.1) (fun u=>l.length-u.1) (k+1,l) ?_ ?_ ?_
  ·refine⟨by simp only;omega,hk,rfl,?_,rfl⟩
   simp only
   rw[hf,List.length_take,Nat.min_eq_left (by omega)]
  ·have e1:((l.take (k+1)).filter (fun x=>!p x)).length=k:=by rw[hf,List.length_take];omega
   rw[e1]
   refine qaa [] [0,1,2] rfl (by simp) ?_ (qj2 g _ _)
   simp only[zU,seval]
   try rfl
  ·rintro⟨j,xs⟩ ⟨hkj,hj,hxl,hpre,hdr⟩
   simp only at hkj hj hxl hpre hdr
   obtain⟨i,hi⟩:∃i,i=((l.take j).filter (fun x=>!p x)).length:=⟨_,rfl⟩
   have hij:=qmy hk hf hkj hj
   rw[←hi] at hpre hij
   rw[←hi]
   by_cases h:j<l.length
   ·obtain⟨x,hx⟩:∃x,x=l.getD j default:=⟨_,rfl⟩
    have hxx:xs.getD j default=x:=by
     have e:xs[j]? = l[j]? := by
      have:=congrArg (fun z=>z[0]?) hdr
      simpa using this
     rw[List.getD_eq_getElem?_getD,e,hx,List.getD_eq_getElem?_getD]
    have eg:(xs.map qb5.toD).getD j default=x.toD:=by rw[qaj _ _ _ (by omega),hxx]
    have hst:=qa0 l j h
    rw[←hx] at hst
    simp only[zU,seval,(show(j:Int)<l.length by omega),h,eg,hxl]
    repeat((with_reducible apply aI);exact sdp)
    refine qb3 (R:=fun r ν=>r=.d (.bool (p x))∧ν=[]) [0,1] (.box 1 (.mapr 1)::.map (some .i64) (qbg g)::[]) (by simp) (by simp) (show[qbs [0,1] _ (.box 1 (.mapr 1)),qbs [0,1] _ (.map (some .i64) (qbg g))]=_ by rw[qbz];rfl) rfl (hk2 rfl (qc7 g _)) ((hp x).mono fun r s hr=>⟨[],by rw[hr.2];rfl,hr.1,rfl⟩) (fun r ν hr=>?_)
    obtain⟨rfl,rfl⟩:=hr
    simp only[zU,seval,List.map_nil,List.append_nil]
    have hdr2:xs.drop (j+1)=l.drop (j+1):=by
     have:=congrArg (List.drop 1) hdr
     rwa [List.drop_drop,List.drop_drop] at this
    refine ifC.mk (fun hc=>?_) (fun hc=>?_)
    ·have hfl:(l.take (j+1)).filter (fun x=>!p x)=(l.take j).filter (fun x=>!p x)++[x]:=by rw[hst,List.filter_append,List.filter_cons_of_pos (p:=fun x=>!p x) hc];rfl
     have hfn:((l.take (j+1)).filter (fun x=>!p x)).length=i+1:=by rw[hfl,List.length_append,←hi];rfl
     (try simp only[zU,seval,(show(i:Int)<l.length by omega),hxl])
     repeat((with_reducible apply aI);exact sdp)
     refine⟨(j+1,xs.set i x),⟨by simp only;omega,h,by simp only[List.length_set];exact hxl,?_,?_⟩,by simp only;omega,?_⟩
     ·simp only
      rw[hfn,qgz (by omega),hpre,hfl]
     ·simp only
      rw[qg0 (by omega),hdr2]
     ·simp only[hfn,List.map_set]
      refine qaa [] [0,1,2] rfl (by simp) ?_ (qj2 g _ _)
      simp only[zU,seval,@qag ((j:Int)+1) (by omega),@qag ((i:Int)+1) (by omega)]
      try rfl
    ·have hfl:(l.take (j+1)).filter (fun x=>!p x)=(l.take j).filter (fun x=>!p x):=by rw[hst,List.filter_append,List.filter_cons_of_neg (by rw[hc];simp)];simp
     refine⟨(j+1,xs),⟨by simp only;omega,h,hxl,?_,hdr2⟩,by simp only;omega,?_⟩
     ·simp only
      rw[hfl,←hi,hpre]
     ·simp only[hfl,←hi]
      refine qaa [] [0,1,2] rfl (by simp) ?_ (qj2 g _ _)
      simp only[zU,seval,@qag ((j:Int)+1) (by omega)]
      try rfl
   ·have hjl:j=l.length:=by omega
    subst hjl
    rw[List.take_length] at hpre hi
    simp only[zU,seval,(show ¬(l.length:Int)<l.length by omega),(show(i:Int)≤l.length by omega),hxl,(show i≤l.length by omega)]
    repeat((with_reducible apply aI);exact sdp)
    refine⟨_,_,qgy 2 i (by simp) rfl (by rw[qbi];simp;omega) (by rw[qbi];simp;omega),.inr ⟨by rw[hi];rfl,?_⟩⟩
    rw[qfy,←List.map_take,hpre]
    rfl
theorem q3j (g:Int→Bool) {fv:FuncId} (p:qb5→Bool) (hp:∀x:qb5,qal prog Gl fv [.d x.toD,.ptr 0 0] (.box 1 (.mapr 1)::.map (some .i64) (qbg g)::[]) (fun r s=>r=.d (.bool (p x))∧s=(.box 1 (.mapr 1)::.map (some .i64) (qbg g)::[]))) (l:List qb5) (hl:l.length<1000000) :
  qal prog Gl 81 [.d (.sl (l.map qb5.toD)),.fn fv [.ptr 0 0]] (.box 1 (.mapr 1)::.map (some .i64) (qbg g)::[])
  (fun r s=>r=.d (.sl ((l.filter (fun x=>!p x)).map qb5.toD))∧s=(.box 1 (.mapr 1)::.map (some .i64) (qbg g)::[])):=by
 refine qac func81 rfl rfl (by simp[ntmps81]) (qab rfl _ _ _ _ ?_)
 simp only[ntmps81,results81,qak,List.length_nil]
 simp only[zU,seval]
 refine qaz ((Qac l hl (.box 1 (.mapr 1)::.map (some .i64) (qbg g)::[])).mono fun r s hr=>?_)
 obtain⟨rfl,rfl⟩:=hr
 simp only[zU,seval,List.length_map]
 refine qaz ((Qlo g p hp l hl).mono fun r s hr=>?_)
 rcases hr with⟨rfl,rfl⟩|⟨rfl,rfl⟩
 ·simp only[zU,seval]
  refine⟨_,_,(qdd rfl).trans (qah [] [0,1] rfl (by simp) (show qbk _ _ _=AV.d _ from rfl) (Qcr g _)),?_,rfl⟩
  show AV.d (D.sl (List.take _ (List.map qb5.toD _)))=_
  rw[qbe]
 ·simp only[zU,seval]
  refine⟨_,_,(qdd rfl).trans (qah [] [0,1] rfl (by simp) (show qbk _ _ _=AV.d _ from rfl) (Qcr g _)),?_,rfl⟩
  show AV.d (D.sl (List.take _ (List.map qb5.toD _)))=_
  rw[qbe]
theorem Qab (l:List qa7) (hl:l.length<1000000):qls prog Gl 136 [.d (.sl (l.map qa7.toD))] 3 (l.map qa7.toD):=by
 refine qls.of (args:=[.sl (l.map qa7.toD)]) ?_
 have hes:∀y∈l.map qa7.toD,y.cells.length=3:=fun y hy=>by
  obtain⟨r,_,rfl⟩:=List.mem_map.1 hy;rfl
 have hfl:∀y∈l.map qa7.toD,y.flat:=fun y hy=>by
  obtain⟨r,_,rfl⟩:=List.mem_map.1 hy
  intro c hc
  simp[qa7.toD,D.cells] at hc
  rcases hc with rfl|rfl|rfl<;>rfl
 simp only[List.map_cons,List.map_nil]
 cases l with
 | nil=>
  refine qac func136 rfl rfl (by simp[ntmps136]) (qab rfl _ _ _ _ ?_)
  simp only[ntmps136,results136,qak,List.length_nil]
  simp only[zU,seval]
  refine⟨⟨_,_,qfq 3 (Nat.le_refl 0),rfl,rfl⟩,?_⟩
  exact⟨_,_,qah [] [1] rfl (by simp) rfl rfl,rfl,rfl⟩
 | cons r rs=>
  simp only[List.map_cons,List.length_cons] at hes hl hfl ⊢
  refine qac func136 rfl rfl (by simp[ntmps136]) (qab rfl _ _ _ _ ?_)
  simp only[ntmps136,results136,qak,List.length_nil]
  simp only[zU,seval]
  refine⟨by omega,?_⟩
  exact⟨_,_,qah [] [1] rfl (by simp) rfl rfl,rfl,rfl⟩
theorem qir (rs:D) (xs:List D) (σ:Sto):qdy [0,1] (freezeL (.box 1 (.d rs)::.arr 3 xs::σ) [])=.box 1 (.d rs)::.arr 3 xs::[]:=by
 rfl
theorem Qoz (rs:D) (xs:List D) (B:Blk):qdy [0,2] (freezeL (.box 1 (.d rs)::B::.arr 3 xs::[]) [])=.box 1 (.d rs)::.arr 3 xs::[]:=by
 rfl
theorem Qlg (rs:D) {fv:FuncId} (p:qa7→Bool) (hp:∀x:qa7,qal prog Gl fv [.d x.toD,.ptr 0 0] (.box 1 (.d rs)::[]) (fun r s=>r=.d (.bool (p x))∧s=(.box 1 (.d rs)::[]))) (l:List qa7) (hl:l.length<1000000) :
  qal prog Gl 176 [.osl 1 0 l.length,.fn fv [.ptr 0 0]] (.box 1 (.d rs)::.arr 3 (l.map qa7.toD)::[])
  (fun r s=>(∃j:Int,r=.d (.int .i64 j)∧((j=-1∧l.filter (fun x=>!p x)=l)∨∃k:Nat,j=k∧k<l.length∧(l.take (k+1)).filter (fun x=>!p x)=l.take k))∧s=(.box 1 (.d rs)::.arr 3 (l.map qa7.toD)::[])):=by
 refine qac func176 rfl rfl (by simp[ntmps176]) (qab rfl _ _ _ _ ?_)
 simp only[ntmps176,results176,qak,List.length_nil]
 simp only[zU,seval]
 refine qap l.length (fun k=>[(0,.osl 1 0 l.length),(1,.fn fv [.ptr 0 0]),(7,.d (.int .i64 l.length)),(8,.d (.int .i64 k))]) (fun _=>(.box 1 (.d rs)::.arr 3 (l.map qa7.toD)::[])) (fun k=>(l.take k).filter (fun x=>!p x)=l.take k) rfl ?_ ?_
 ·refine qaa [] [0,1] rfl (by simp) ?_ (qir rs _ _)
  simp only[zU,seval]
  try rfl
 ·intro k hi hk
  by_cases h:k<l.length
  ·obtain⟨x,hx⟩:∃x,x=l.getD k default:=⟨_,rfl⟩
   have eg:(l.map qa7.toD).getD k default=x.toD:=by rw[qaj _ _ _ h,←hx]
   have hst:=qa0 l k h
   rw[←hx] at hst
   simp only[zU,seval,(show(k:Int)<l.length by omega),h,eg]
   repeat((with_reducible apply aI);exact sdp)
   refine qb3 (R:=fun r ν=>r=.d (.bool (p x))∧ν=[]) [0] (.box 1 (.d rs)::[]) (by simp) (by simp) rfl rfl (hk1 rfl) ((hp x).mono fun r s hr=>⟨[],by rw[hr.2];rfl,hr.1,rfl⟩) (fun r ν hr=>?_)
   obtain⟨rfl,rfl⟩:=hr
   simp only[zU,seval,List.map_nil,List.append_nil]
   refine ifC.mk (fun hc=>?_) (fun hc=>?_)
   ·refine⟨_,_,qah [] [0,1] rfl (by simp) (show qbk _ _ _=AV.d _ from rfl) (qir rs _ _),⟨k,rfl,.inr ⟨k,rfl,h,?_⟩⟩,rfl⟩
    rw[hst,List.filter_append,hi,List.filter_cons_of_neg (by rw[hc];simp)]
    simp
   ·refine⟨by rw[hst,List.filter_append,hi,List.filter_cons_of_pos (by rw[hc];rfl)];rfl,?_⟩
    refine qaa [] [0,1] rfl (by simp) ?_ (qir rs _ _)
    simp only[zU,seval,@qag ((k:Int)+1) (by omega)]
    try rfl
  ·have:k=l.length:=by omega
   subst this
   rw[List.take_length] at hi
   simp only[zU,seval,(show ¬(l.length:Int)<l.length by omega)]
   exact⟨_,_,qah [] [0,1] rfl (by simp) (show qbk _ _ _=AV.d _ from rfl) (qir rs _ _),⟨-1,rfl,.inl ⟨rfl,hi⟩⟩,rfl⟩
theorem Qln (rs:D) {fv:FuncId} (p:qa7→Bool) (hp:∀x:qa7,qal prog Gl fv [.d x.toD,.ptr 0 0] (.box 1 (.d rs)::[]) (fun r s=>r=.d (.bool (p x))∧s=(.box 1 (.d rs)::[]))) (l:List qa7) (hl:l.length<1000000) :
  qal prog Gl 135 [.osl 1 0 l.length,.fn fv [.ptr 0 0]] (.box 1 (.d rs)::.arr 3 (l.map qa7.toD)::[])
  (fun r s=>(r=.osl 1 0 (l.filter (fun x=>!p x)).length∧s=(.box 1 (.d rs)::.arr 3 ((l.filter (fun x=>!p x)).map qa7.toD)::[]))∨(r=.osl 2 0 (l.filter (fun x=>!p x)).length∧s=(.box 1 (.d rs)::.dead::.arr 3 ((l.filter (fun x=>!p x)).map qa7.toD)::[]))):=by
 refine qac func135 rfl rfl (by simp[ntmps135]) (qab rfl _ _ _ _ ?_)
 simp only[ntmps135,results135,qak,List.length_nil]
 simp only[zU,seval]
 refine qaz ((Qlg rs p hp l hl).mono fun r s hr=>?_)
 obtain⟨⟨c,rfl,hcs⟩,rfl⟩:=hr
 rcases hcs with⟨rfl,hn⟩|⟨k,rfl,hk,hf⟩
 ·simp only[zU,seval]
  rw[hn]
  refine⟨_,_,qah [] [0,1] rfl (by simp) rfl (qir rs _ _),.inl ⟨rfl,rfl⟩⟩
 ·have e0:((k:Int)==-1)=false:=by rw[beq_eq_false_iff_ne];omega
  simp only[zU,seval,e0,@qag ((k:Int)+1) (by omega)]
  repeat((with_reducible apply aI);exact sdp)
  refine qcy (τ:=Nat×List qa7) (fun u=>[(0,.osl 1 0 l.length),(1,.fn fv [.ptr 0 0]),(5,.d (.int .i64 (((l.take u.1).filter (fun x=>!p x)).length:Nat))),(6,.d (.int .i64 u.1))]) (fun u=>(.box 1 (.d rs)::.arr 3 (u.2.map qa7.toD)::[]))
   (fun u=>k<u.1∧u.1≤l.length∧u.2.length=l.length∧u.2.take ((l.take u.1).filter (fun x=>!p x)).length=(l.take u.1).filter (fun x=>!p x)∧u.2.drop u.1=l.drop u.1) (fun u=>l.length-u.1) (k+1,l) ?_ ?_ ?_
  ·refine⟨by simp only;omega,hk,rfl,?_,rfl⟩
   simp only
   rw[hf,List.length_take,Nat.min_eq_left (by omega)]
  ·have e1:((l.take (k+1)).filter (fun x=>!p x)).length=k:=by rw[hf,List.length_take];omega
   rw[e1]
   refine qaa [] [0,1] rfl (by simp) ?_ (qir rs _ _)
   simp only[zU,seval]
   try rfl
  ·rintro⟨j,xs⟩ ⟨hkj,hj,hxl,hpre,hdr⟩
   simp only at hkj hj hxl hpre hdr
   obtain⟨i,hi⟩:∃i,i=((l.take j).filter (fun x=>!p x)).length:=⟨_,rfl⟩
   have hij:=qmy hk hf hkj hj
   rw[←hi] at hpre hij
   rw[←hi]
   by_cases h:j<l.length
   ·obtain⟨x,hx⟩:∃x,x=l.getD j default:=⟨_,rfl⟩
    have hxx:xs.getD j default=x:=by
     have e:xs[j]? = l[j]? := by
      have:=congrArg (fun z=>z[0]?) hdr
      simpa using this
     rw[List.getD_eq_getElem?_getD,e,hx,List.getD_eq_getElem?_getD]
    have eg:(xs.map qa7.toD).getD j default=x.toD:=by rw[qaj _ _ _ (by omega),hxx]
    have hst:=qa0 l j h
    rw[←hx] at hst
    simp only[zU,seval,(show(j:Int)<l.length by omega),h,eg,hxl]
    repeat((with_reducible apply aI);exact sdp)
    refine qb3 (R:=fun r ν=>r=.d (.bool (p x))∧ν=[]) [0] (.box 1 (.d rs)::[]) (by simp) (by simp) rfl rfl (hk1 rfl) ((hp x).mono fun r s hr=>⟨[],by rw[hr.2];rfl,hr.1,rfl⟩) (fun r ν hr=>?_)
    obtain⟨rfl,rfl⟩:=hr
    simp only[zU,seval,List.map_nil,List.append_nil]
    have hdr2:xs.drop (j+1)=l.drop (j+1):=by
     have:=congrArg (List.drop 1) hdr
     rwa [List.drop_drop,List.drop_drop] at this
    refine ifC.mk (fun hc=>?_) (fun hc=>?_)
    ·have hfl:(l.take (j+1)).filter (fun x=>!p x)=(l.take j).filter (fun x=>!p x)++[x]:=by rw[hst,List.filter_append,List.filter_cons_of_pos (p:=fun x=>!p x) hc];rfl
     have hfn:((l.take (j+1)).filter (fun x=>!p x)).length=i+1:=by rw[hfl,List.length_append,←hi];rfl
     (try simp only[zU,seval,(show(i:Int)<l.length by omega),hxl])
     repeat((with_reducible apply aI);exact sdp)
     refine⟨(j+1,xs.set i x),⟨by simp only;omega,h,by simp only[List.length_set];exact hxl,?_,?_⟩,by simp only;omega,?_⟩
     ·simp only
      rw[hfn,qgz (by omega),hpre,hfl]
     ·simp only
      rw[qg0 (by omega),hdr2]
     ·simp only[hfn,List.map_set]
      refine qaa [] [0,1] rfl (by simp) ?_ (qir rs _ _)
      simp only[zU,seval,@qag ((j:Int)+1) (by omega),@qag ((i:Int)+1) (by omega)]
      try rfl
    ·have hfl:(l.take (j+1)).filter (fun x=>!p x)=(l.take j).filter (fun x=>!p x):=by rw[hst,List.filter_append,List.filter_cons_of_neg (by rw[hc];simp)];simp
     refine⟨(j+1,xs),⟨by simp only;omega,h,hxl,?_,hdr2⟩,by simp only;omega,?_⟩
     ·simp only
      rw[hfl,←hi,hpre]
     ·simp only[hfl,←hi]
      refine qaa [] [0,1] rfl (by simp) ?_ (qir rs _ _)
      simp only[zU,seval,@qag ((j:Int)+1) (by omega)]
      try rfl
   ·have hjl:j=l.length:=by omega
    subst hjl
    rw[List.take_length] at hpre hi
    simp only[zU,seval,(show ¬(l.length:Int)<l.length by omega),(show(i:Int)≤l.length by omega),hxl,(show i≤l.length by omega)]
    repeat((with_reducible apply aI);exact sdp)
    refine⟨_,_,qgy 1 i (by simp) rfl (by rw[qbi];simp;omega) (by rw[qbi];simp;omega),.inr ⟨by rw[hi];rfl,?_⟩⟩
    rw[qfy,←List.map_take,hpre]
    rfl
theorem q3i (rs:D) {fv:FuncId} (p:qa7→Bool) (hp:∀x:qa7,qal prog Gl fv [.d x.toD,.ptr 0 0] (.box 1 (.d rs)::[]) (fun r s=>r=.d (.bool (p x))∧s=(.box 1 (.d rs)::[]))) (l:List qa7) (hl:l.length<1000000) :
  qal prog Gl 71 [.d (.sl (l.map qa7.toD)),.fn fv [.ptr 0 0]] (.box 1 (.d rs)::[])
  (fun r s=>r=.osl 1 0 (l.filter (fun x=>!p x)).length∧s=(.box 1 (.d rs)::.arr 3 ((l.filter (fun x=>!p x)).map qa7.toD)::[])):=by
 refine qac func71 rfl rfl (by simp[ntmps71]) (qab rfl _ _ _ _ ?_)
 simp only[ntmps71,results71,qak,List.length_nil]
 simp only[zU,seval]
 refine qaz ((Qab l hl (.box 1 (.d rs)::[])).mono fun r s hr=>?_)
 obtain⟨rfl,rfl⟩:=hr
 simp only[zU,seval,List.length_map]
 refine qaz ((Qln rs p hp l hl).mono fun r s hr=>?_)
 rcases hr with⟨rfl,rfl⟩|⟨rfl,rfl⟩
 ·simp only[zU,seval]
  exact⟨_,_,qah [] [0,1] rfl (by simp) rfl (qir rs _ _),rfl,rfl⟩
 ·simp only[zU,seval]
  exact⟨_,_,qah [] [0,2] rfl (by simp) rfl (Qoz rs _ _),rfl,rfl⟩
theorem Qaa (l:List (List UInt8)) (hl:l.length<1000000):qls prog Gl 134 [.d (.sl (l.map D.str))] 1 (l.map D.str):=by
 refine qls.of (args:=[.sl (l.map D.str)]) ?_
 have hes:∀y∈l.map D.str,y.cells.length=1:=fun y hy=>by
  obtain⟨r,_,rfl⟩:=List.mem_map.1 hy;rfl
 have hfl:∀y∈l.map D.str,y.flat:=fun y hy=>by
  obtain⟨r,_,rfl⟩:=List.mem_map.1 hy
  intro c hc
  simp[D.cells] at hc
  subst hc;rfl
 simp only[List.map_cons,List.map_nil]
 cases l with
 | nil=>
  refine qac func134 rfl rfl (by simp[ntmps134]) (qab rfl _ _ _ _ ?_)
  simp only[ntmps134,results134,qak,List.length_nil]
  simp only[zU,seval]
  refine⟨⟨_,_,qfq 1 (Nat.le_refl 0),rfl,rfl⟩,?_⟩
  exact⟨_,_,qah [] [1] rfl (by simp) rfl rfl,rfl,rfl⟩
 | cons r rs=>
  simp only[List.map_cons,List.length_cons] at hes hl hfl ⊢
  refine qac func134 rfl rfl (by simp[ntmps134]) (qab rfl _ _ _ _ ?_)
  simp only[ntmps134,results134,qak,List.length_nil]
  simp only[zU,seval]
  refine⟨by omega,?_⟩
  exact⟨_,_,qah [] [1] rfl (by simp) rfl rfl,rfl,rfl⟩
theorem qj1 (rs:D) (xs:List D) (σ:Sto):qdy [0,1] (freezeL (.box 1 (.d rs)::.arr 1 xs::σ) [])=.box 1 (.d rs)::.arr 1 xs::[]:=by
 rfl
theorem Qcq (rs:D) (σ:Sto):qdy [0] (freezeL (.box 1 (.d rs)::σ) [])=.box 1 (.d rs)::[]:=by
 rfl
theorem Qlf (rs:D) {fv:FuncId} (p:(List UInt8)→Bool) (hp:∀x:(List UInt8),qal prog Gl fv [.d (D.str x),.ptr 0 0] (.box 1 (.d rs)::[]) (fun r s=>r=.d (.bool (p x))∧s=(.box 1 (.d rs)::[]))) (l:List (List UInt8)) (hl:l.length<1000000) :
  qal prog Gl 186 [.osl 1 0 l.length,.fn fv [.ptr 0 0]] (.box 1 (.d rs)::.arr 1 (l.map D.str)::[])
  (fun r s=>(∃j:Int,r=.d (.int .i64 j)∧((j=-1∧l.filter (fun x=>!p x)=l)∨∃k:Nat,j=k∧k<l.length∧(l.take (k+1)).filter (fun x=>!p x)=l.take k))∧s=(.box 1 (.d rs)::.arr 1 (l.map D.str)::[])):=by
 refine qac func186 rfl rfl (by simp[ntmps186]) (qab rfl _ _ _ _ ?_)
 simp only[ntmps186,results186,qak,List.length_nil]
 simp only[zU,seval]
 refine qap l.length (fun k=>[(0,.osl 1 0 l.length),(1,.fn fv [.ptr 0 0]),(7,.d (.int .i64 l.length)),(8,.d (.int .i64 k))]) (fun _=>(.box 1 (.d rs)::.arr 1 (l.map D.str)::[])) (fun k=>(l.take k).filter (fun x=>!p x)=l.take k) rfl ?_ ?_
 ·refine qaa [] [0,1] rfl (by simp) ?_ (qj1 rs _ _)
  simp only[zU,seval]
  try rfl
 ·intro k hi hk
  by_cases h:k<l.length
  ·obtain⟨x,hx⟩:∃x,x=l.getD k default:=⟨_,rfl⟩
   have eg:(l.map D.str).getD k default=(D.str x):=by rw[qaj _ _ _ h,←hx]
   have hst:=qa0 l k h
   rw[←hx] at hst
   simp only[zU,seval,(show(k:Int)<l.length by omega),h,eg]
   repeat((with_reducible apply aI);exact sdp)
   refine qb3 (R:=fun r ν=>r=.d (.bool (p x))∧ν=[]) [0] (.box 1 (.d rs)::[]) (by simp) (by simp) rfl rfl (hk1 rfl) ((hp x).mono fun r s hr=>⟨[],by rw[hr.2];rfl,hr.1,rfl⟩) (fun r ν hr=>?_)
   obtain⟨rfl,rfl⟩:=hr
   simp only[zU,seval,List.map_nil,List.append_nil]
   refine ifC.mk (fun hc=>?_) (fun hc=>?_)
   ·refine⟨_,_,qah [] [0,1] rfl (by simp) (show qbk _ _ _=AV.d _ from rfl) (qj1 rs _ _),⟨k,rfl,.inr ⟨k,rfl,h,?_⟩⟩,rfl⟩
    rw[hst,List.filter_append,hi,List.filter_cons_of_neg (by rw[hc];simp)]
    simp
   ·refine⟨by rw[hst,List.filter_append,hi,List.filter_cons_of_pos (by rw[hc];rfl)];rfl,?_⟩
    refine qaa [] [0,1] rfl (by simp) ?_ (qj1 rs _ _)
    simp only[zU,seval,@qag ((k:Int)+1) (by omega)]
    try rfl
  ·have:k=l.length:=by omega
   subst this
   rw[List.take_length] at hi
   simp only[zU,seval,(show ¬(l.length:Int)<l.length by omega)]
   exact⟨_,_,qah [] [0,1] rfl (by simp) (show qbk _ _ _=AV.d _ from rfl) (qj1 rs _ _),⟨-1,rfl,.inl ⟨rfl,hi⟩⟩,rfl⟩
theorem Qlm (rs:D) {fv:FuncId} (p:(List UInt8)→Bool) (hp:∀x:(List UInt8),qal prog Gl fv [.d (D.str x),.ptr 0 0] (.box 1 (.d rs)::[]) (fun r s=>r=.d (.bool (p x))∧s=(.box 1 (.d rs)::[]))) (l:List (List UInt8)) (hl:l.length<1000000) :
  qal prog Gl 133 [.osl 1 0 l.length,.fn fv [.ptr 0 0]] (.box 1 (.d rs)::.arr 1 (l.map D.str)::[])
  (fun r s=>(r=.osl 1 0 (l.filter (fun x=>!p x)).length∧s=(.box 1 (.d rs)::.arr 1 ((l.filter (fun x=>!p x)).map D.str)::[]))∨(r=.osl 2 0 (l.filter (fun x=>!p x)).length∧s=(.box 1 (.d rs)::.dead::.arr 1 ((l.filter (fun x=>!p x)).map D.str)::[]))):=by
 refine qac func133 rfl rfl (by simp[ntmps133]) (qab rfl _ _ _ _ ?_)
 simp only[ntmps133,results133,qak,List.length_nil]
 simp only[zU,seval]
 refine qaz ((Qlf rs p hp l hl).mono fun r s hr=>?_)
 obtain⟨⟨c,rfl,hcs⟩,rfl⟩:=hr
 rcases hcs with⟨rfl,hn⟩|⟨k,rfl,hk,hf⟩
 ·simp only[zU,seval]
  rw[hn]
  refine⟨_,_,qah [] [0,1] rfl (by simp) rfl (qj1 rs _ _),.inl ⟨rfl,rfl⟩⟩
 ·have e0:((k:Int)==-1)=false:=by rw[beq_eq_false_iff_ne];omega
  simp only[zU,seval,e0,@qag ((k:Int)+1) (by omega)]
  repeat((with_reducible apply aI);exact sdp)
  refine qcy (τ:=Nat×List (List UInt8)) (fun u=>[(0,.osl 1 0 l.length),(1,.fn fv [.ptr 0 0]),(5,.d (.int .i64 (((l.take u.1).filter (fun x=>!p x)).length:Nat))),(6,.d (.int .i64 u.1))]) (fun u=>(.box 1 (.d rs)::.arr 1 (u.2.map D.str)::[]))
   (fun u=>k<u.1∧u.1≤l.length∧u.2.length=l.length∧u.2.take ((l.take u.1).filter (fun x=>!p x)).length=(l.take u.1).filter (fun x=>!p x)∧u.2.drop u.1=l.drop u.1) (fun u=>l.length-u.1) (k+1,l) ?_ ?_ ?_
  ·refine⟨by simp only;omega,hk,rfl,?_,rfl⟩
   simp only
   rw[hf,List.length_take,Nat.min_eq_left (by omega)]
  ·have e1:((l.take (k+1)).filter (fun x=>!p x)).length=k:=by rw[hf,List.length_take];omega
   rw[e1]
   refine qaa [] [0,1] rfl (by simp) ?_ (qj1 rs _ _)
   simp only[zU,seval]
   try rfl
  ·rintro⟨j,xs⟩ ⟨hkj,hj,hxl,hpre,hdr⟩
   simp only at hkj hj hxl hpre hdr
   obtain⟨i,hi⟩:∃i,i=((l.take j).filter (fun x=>!p x)).length:=⟨_,rfl⟩
   have hij:=qmy hk hf hkj hj
   rw[←hi] at hpre hij
   rw[←hi]
   by_cases h:j<l.length
   ·obtain⟨x,hx⟩:∃x,x=l.getD j default:=⟨_,rfl⟩
    have hxx:xs.getD j default=x:=by
     have e:xs[j]? = l[j]? := by
      have:=congrArg (fun z=>z[0]?) hdr
      simpa using this
     rw[List.getD_eq_getElem?_getD,e,hx,List.getD_eq_getElem?_getD]
    have eg:(xs.map D.str).getD j default=(D.str x):=by rw[qaj _ _ _ (by omega),hxx]
    have hst:=qa0 l j h
    rw[←hx] at hst
    simp only[zU,seval,(show(j:Int)<l.length by omega),h,eg,hxl]
    repeat((with_reducible apply aI);exact sdp)
    refine qb3 (R:=fun r ν=>r=.d (.bool (p x))∧ν=[]) [0] (.box 1 (.d rs)::[]) (by simp) (by simp) rfl rfl (hk1 rfl) ((hp x).mono fun r s hr=>⟨[],by rw[hr.2];rfl,hr.1,rfl⟩) (fun r ν hr=>?_)
    obtain⟨rfl,rfl⟩:=hr
    simp only[zU,seval,List.map_nil,List.append_nil]
    have hdr2:xs.drop (j+1)=l.drop (j+1):=by
     have:=congrArg (List.drop 1) hdr
     rwa [List.drop_drop,List.drop_drop] at this
    refine ifC.mk (fun hc=>?_) (fun hc=>?_)
    ·have hfl:(l.take (j+1)).filter (fun x=>!p x)=(l.take j).filter (fun x=>!p x)++[x]:=by rw[hst,List.filter_append,List.filter_cons_of_pos (p:=fun x=>!p x) hc];rfl
     have hfn:((l.take (j+1)).filter (fun x=>!p x)).length=i+1:=by rw[hfl,List.length_append,←hi];rfl
     (try simp only[zU,seval,(show(i:Int)<l.length by omega),hxl])
     repeat((with_reducible apply aI);exact sdp)
     refine⟨(j+1,xs.set i x),⟨by simp only;omega,h,by simp only[List.length_set];exact hxl,?_,?_⟩,by simp only;omega,?_⟩
     ·simp only
      rw[hfn,qgz (by omega),hpre,hfl]
     ·simp only
      rw[qg0 (by omega),hdr2]
     ·simp only[hfn,List.map_set]
      refine qaa [] [0,1] rfl (by simp) ?_ (qj1 rs _ _)
      simp only[zU,seval,@qag ((j:Int)+1) (by omega),@qag ((i:Int)+1) (by omega)]
      try rfl
    ·have hfl:(l.take (j+1)).filter (fun x=>!p x)=(l.take j).filter (fun x=>!p x):=by rw[hst,List.filter_append,List.filter_cons_of_neg (by rw[hc];simp)];simp
     refine⟨(j+1,xs),⟨by simp only;omega,h,hxl,?_,hdr2⟩,by simp only;omega,?_⟩
     ·simp only
      rw[hfl,←hi,hpre]
     ·simp only[hfl,←hi]
      refine qaa [] [0,1] rfl (by simp) ?_ (qj1 rs _ _)
      simp only[zU,seval,@qag ((j:Int)+1) (by omega)]
      try rfl
   ·have hjl:j=l.length:=by omega
    subst hjl
    rw[List.take_length] at hpre hi
    simp only[zU,seval,(show ¬(l.length:Int)<l.length by omega),(show(i:Int)≤l.length by omega),hxl,(show i≤l.length by omega)]
    repeat((with_reducible apply aI);exact sdp)
    refine⟨_,_,qgy 1 i (by simp) rfl (by rw[qbi];simp;omega) (by rw[qbi];simp;omega),.inr ⟨by rw[hi];rfl,?_⟩⟩
    rw[qfy,←List.map_take,hpre]
    rfl
theorem q3h (rs:D) {fv:FuncId} (p:(List UInt8)→Bool) (hp:∀x:(List UInt8),qal prog Gl fv [.d (D.str x),.ptr 0 0] (.box 1 (.d rs)::[]) (fun r s=>r=.d (.bool (p x))∧s=(.box 1 (.d rs)::[]))) (l:List (List UInt8)) (hl:l.length<1000000) :
  qal prog Gl 67 [.d (.sl (l.map D.str)),.fn fv [.ptr 0 0]] (.box 1 (.d rs)::[])
  (fun r s=>r=.d (.sl ((l.filter (fun x=>!p x)).map D.str))∧s=(.box 1 (.d rs)::[])):=by
 refine qac func67 rfl rfl (by simp[ntmps67]) (qab rfl _ _ _ _ ?_)
 simp only[ntmps67,results67,qak,List.length_nil]
 simp only[zU,seval]
 refine qaz ((Qaa l hl (.box 1 (.d rs)::[])).mono fun r s hr=>?_)
 obtain⟨rfl,rfl⟩:=hr
 simp only[zU,seval,List.length_map]
 refine qaz ((Qlm rs p hp l hl).mono fun r s hr=>?_)
 rcases hr with⟨rfl,rfl⟩|⟨rfl,rfl⟩
 ·simp only[zU,seval]
  refine⟨_,_,(qdd rfl).trans (qah [] [0] rfl (by simp) (show qbk _ _ _=AV.d _ from rfl) (Qcq rs _)),?_,rfl⟩
  show AV.d (D.sl (List.take _ (List.map D.str _)))=_
  rw[qbe]
 ·simp only[zU,seval]
  refine⟨_,_,(qdd rfl).trans (qah [] [0] rfl (by simp) (show qbk _ _ _=AV.d _ from rfl) (Qcq rs _)),?_,rfl⟩
  show AV.d (D.sl (List.take _ (List.map D.str _)))=_
  rw[qbe]

theorem Qwb (g:Int→Bool) (σ:Sto):qdy [0,1] (freezeL (.box 1 (.mapr 1)::.map (some .i64) (qbg g)::σ) [])=[.box 1 (.mapr 1),.map (some .i64) (qbg g)]:=Qf9 g σ
theorem Qlj (g:Int→Bool) (x:qai):qal prog Gl 74 [.d x.toD,.ptr 0 0] [.box 1 (.mapr 1),.map (some .i64) (qbg g)] (fun r s=>r=.d (.bool (g x.id))∧s=[.box 1 (.mapr 1),.map (some .i64) (qbg g)]):=by
 refine qac func74 rfl rfl (by simp[ntmps74]) (qab rfl _ _ _ _ ?_)
 simp only[ntmps74,results74,qak,List.length_nil]
 simp only[zU,seval,qau]
 repeat((with_reducible apply aI);exact sdp)
 exact⟨_,_,qah [] [0,1] rfl (by simp) (show qbk _ _ _=AV.d _ from rfl) (Qwb g _),rfl,rfl⟩
theorem Qu4 (g:Int→Bool) (x:qbj):qal prog Gl 76 [.d x.toD,.ptr 0 0] [.box 1 (.mapr 1),.map (some .i64) (qbg g)] (fun r s=>r=.d (.bool (g x.ft||g x.tt))∧s=[.box 1 (.mapr 1),.map (some .i64) (qbg g)]):=by
 refine qac func76 rfl rfl (by simp[ntmps76]) (qab rfl _ _ _ _ ?_)
 simp only[ntmps76,results76,qak,List.length_nil]
 simp only[zU,seval,qau]
 repeat((with_reducible apply aI);exact sdp)
 exact⟨_,_,qah [] [0,1] rfl (by simp) (show qbk _ _ _=AV.d _ from rfl) (Qwb g _),rfl,rfl⟩
theorem Qlk (g:Int→Bool) (x:qam):qal prog Gl 78 [.d x.toD,.ptr 0 0] [.box 1 (.mapr 1),.map (some .i64) (qbg g)] (fun r s=>r=.d (.bool (g x.thread))∧s=[.box 1 (.mapr 1),.map (some .i64) (qbg g)]):=by
 refine qac func78 rfl rfl (by simp[ntmps78]) (qab rfl _ _ _ _ ?_)
 simp only[ntmps78,results78,qak,List.length_nil]
 simp only[zU,seval,qau]
 repeat((with_reducible apply aI);exact sdp)
 exact⟨_,_,qah [] [0,1] rfl (by simp) (show qbk _ _ _=AV.d _ from rfl) (Qwb g _),rfl,rfl⟩
theorem Qp0 (g:Int→Bool) (x:qaw):qal prog Gl 80 [.d x.toD,.ptr 0 0] [.box 1 (.mapr 1),.map (some .i64) (qbg g)] (fun r s=>r=.d (.bool (g x.thread))∧s=[.box 1 (.mapr 1),.map (some .i64) (qbg g)]):=by
 refine qac func80 rfl rfl (by simp[ntmps80]) (qab rfl _ _ _ _ ?_)
 simp only[ntmps80,results80,qak,List.length_nil]
 simp only[zU,seval,qau]
 repeat((with_reducible apply aI);exact sdp)
 exact⟨_,_,qah [] [0,1] rfl (by simp) (show qbk _ _ _=AV.d _ from rfl) (Qwb g _),rfl,rfl⟩
theorem Qu3 (g:Int→Bool) (x:qb5):qal prog Gl 82 [.d x.toD,.ptr 0 0] [.box 1 (.mapr 1),.map (some .i64) (qbg g)] (fun r s=>r=.d (.bool (g x.thread))∧s=[.box 1 (.mapr 1),.map (some .i64) (qbg g)]):=by
 refine qac func82 rfl rfl (by simp[ntmps82]) (qab rfl _ _ _ _ ?_)
 simp only[ntmps82,results82,qak,List.length_nil]
 simp only[zU,seval,qau]
 repeat((with_reducible apply aI);exact sdp)
 exact⟨_,_,qah [] [0,1] rfl (by simp) (show qbk _ _ _=AV.d _ from rfl) (Qwb g _),rfl,rfl⟩
theorem Qpz (g:Int→Bool) (x:qae):qal prog Gl 83 [.d x.toD,.ptr 0 0] [.box 1 (.mapr 1),.map (some .i64) (qbg g)] (fun r s=>r=.d (.bool (!g x.thread))∧s=[.box 1 (.mapr 1),.map (some .i64) (qbg g)]):=by
 refine qac func83 rfl rfl (by simp[ntmps83]) (qab rfl _ _ _ _ ?_)
 simp only[ntmps83,results83,qak,List.length_nil]
 simp only[zU,seval,qau]
 repeat((with_reducible apply aI);exact sdp)
 exact⟨_,_,qah [] [0,1] rfl (by simp) (show qbk _ _ _=AV.d _ from rfl) (Qwb g _),rfl,rfl⟩
theorem Qpu (l:List qao) (hl:l.length<1000000) (x:qae):qal prog Gl 65 [.d x.toD,.ptr 0 0] [.box 1 (.d (.sl (l.map qao.toD)))] (fun r s=>r=.d (.bool (!qbw l qa5 x.name))∧s=[.box 1 (.d (.sl (l.map qao.toD)))]):=by
 refine qac func65 rfl rfl (by simp[ntmps65]) (qab rfl _ _ _ _ ?_)
 simp only[ntmps65,results65,qak,List.length_nil]
 simp only[zU,seval,qau]
 repeat((with_reducible apply aI);exact sdp)
 refine qaf (qgq l _ _ hl) ?_
 simp only[zU,seval,qau]
 exact⟨_,_,qah [] [0] rfl (by simp) (show qbk _ _ _=AV.d _ from rfl) rfl,rfl,rfl⟩
theorem Qu1 (l:List qao) (hl:l.length<1000000) (x:List UInt8):qal prog Gl 68 [.d (.str x),.ptr 0 0] [.box 1 (.d (.sl (l.map qao.toD)))] (fun r s=>r=.d (.bool (qbw l qa4 x))∧s=[.box 1 (.d (.sl (l.map qao.toD)))]):=by
 refine qac func68 rfl rfl (by simp[ntmps68]) (qab rfl _ _ _ _ ?_)
 simp only[ntmps68,results68,qak,List.length_nil]
 simp only[zU,seval,qau]
 repeat((with_reducible apply aI);exact sdp)
 refine qaf (qgq l _ _ hl) ?_
 simp only[zU,seval,qau]
 exact⟨_,_,qah [] [0] rfl (by simp) (show qbk _ _ _=AV.d _ from rfl) rfl,rfl,rfl⟩
theorem Qu2 (l:List qao) (hl:l.length<1000000) (x:qa7):qal prog Gl 72 [.d x.toD,.ptr 0 0] [.box 1 (.d (.sl (l.map qao.toD)))] (fun r s=>r=.d (.bool (qbw l qay x.name))∧s=[.box 1 (.d (.sl (l.map qao.toD)))]):=by
 refine qac func72 rfl rfl (by simp[ntmps72]) (qab rfl _ _ _ _ ?_)
 simp only[ntmps72,results72,qak,List.length_nil]
 simp only[zU,seval,qau]
 repeat((with_reducible apply aI);exact sdp)
 refine qaf (qgq l _ _ hl) ?_
 simp only[zU,seval,qau]
 exact⟨_,_,qah [] [0] rfl (by simp) (show qbk _ _ _=AV.d _ from rfl) rfl,rfl,rfl⟩

def qf7 (g:Int→Bool) (s:qas):qas:={s with by_:=if g s.by_=true then -1 else s.by_,on_:=if g s.on_=true then -1 else s.on_,state:=if g s.on_=true then 1 else s.state}
def qi1 (y x:qas):Bool:=y.thread==x.thread&&y.state==x.state&&y.cpu==x.cpu&&y.on_==x.on_
def Qn5 (out:List qas) (x:qas):List qas:=
 if out.length≠0∧qi1 (out.getD (out.length-1) default) x=true then out.set (out.length-1) {out.getD (out.length-1) default with hi:=x.hi,by_:=x.by_} else out++[x]
def stS (g:Int→Bool) (out:List qas) (s:qas):List qas:=if g s.thread=true then out else Qn5 out (qf7 g s)
def qdk (g:Int→Bool) (l:List qas):List qas:=l.foldl (stS g) []
theorem Qrg (out:List qas) (x:qas):(Qn5 out x).length≤out.length+1:=by
 unfold Qn5;split<;>simp
theorem Que (g:Int→Bool) (out:List qas) (s:qas):(stS g out s).length≤out.length+1:=by
 unfold stS;split
 ·omega
 ·exact Qrg _ _
theorem qp0 (g:Int→Bool):∀(l out:List qas),(l.foldl (stS g) out).length≤out.length+l.length
 | [],out=>by simp
 | x::l,out=>by
  have:=qp0 g l (stS g out x)
  have h2:=Que g out x
  simp only[List.foldl_cons,List.length_cons];omega
theorem qo6 (g:Int→Bool) (l:List qas):(qdk g l).length≤l.length:=by
 have:=qp0 g l [];simpa[qdk] using this
theorem Qo0 (g:Int→Bool) (xs:List D) (σ:Sto):qdy [0,1] (freezeL (.map (some .i64) (qbg g)::.arr 7 xs::σ) [])=[.map (some .i64) (qbg g),.arr 7 xs]:=by
 show[qbs [0,1] _ (.map (some .i64) (qbg g)),_]=_
 rw[qbz];rfl
theorem Qxu (g:Int→Bool) (σ:Sto):qdy [0] (freezeL (.map (some .i64) (qbg g)::σ) [])=[.map (some .i64) (qbg g)]:=by
 show[qbs [0] _ (.map (some .i64) (qbg g))]=_
 rw[qbz]
def Qwa (b:Bool) (x y:Int):Int:=if b=true then x else y
theorem Qxo (x y:Int):Qwa true x y=x:=rfl
theorem Qxp (x y:Int):Qwa false x y=y:=rfl
def yS (y x:qas) (a b:Bool):qas:={y with hi:=Qwa a x.hi y.hi,by_:=Qwa b x.by_ y.by_}
theorem Qog (y x:qas) (a b:Bool):(yS y x a b).toD.cells=[.int .i64 y.thread,.int .i64 y.state,.int .i64 y.lo,.int .i64 (Qwa a x.hi y.hi),.int .i64 y.cpu,.int .i64 y.on_,.int .i64 (Qwa b x.by_ y.by_)]:=rfl
theorem Qof (y x:qas) (a b:Bool):(yS y x a b).toD.isAgg=true:=rfl
theorem q8h (l:List D) (i:Nat) (x:D) (h:i<l.length):(l.set i x).getD i default=x:=by simp[h]
theorem q2q (l:List D) (i:Nat):l.set i (l.getD i default)=l:=by
 apply List.ext_getElem?
 intro k
 rw[List.getElem?_set]
 split
 ·rename_i h;subst h
  split
  ·rename_i h;simp[h]
  ·rename_i h;simp at h;simp[h]
 ·rfl
theorem rnU (ρ:List Nat) (σ:Sto):qbk ρ σ .undef=.undef:=rfl
theorem Qsq (g:Int→Bool) (xs:List D) (x:D) (σ:Sto):qdy [0,1,2] (freezeL (.map (some .i64) (qbg g)::.arr 7 xs::.box 7 (.d x)::σ) [])=[.map (some .i64) (qbg g),.arr 7 xs,.box 7 (.d x)]:=by
 show[qbs [0,1,2] _ (.map (some .i64) (qbg g)),_,_]=_
 rw[qbz];rfl
theorem Qxt (g:Int→Bool) (xs:List D) (B C:Blk):qdy [0,4] (freezeL [.map (some .i64) (qbg g),.dead,B,C,.arr 7 xs] [])=[.map (some .i64) (qbg g),.arr 7 xs]:=by
 show[qbs [0,4] _ (.map (some .i64) (qbg g)),_]=_
 rw[qbz];rfl
theorem Qxs (g:Int→Bool) (xs:List D) (B C E:Blk):qdy [0,5] (freezeL [.map (some .i64) (qbg g),.dead,B,C,E,.arr 7 xs] [])=[.map (some .i64) (qbg g),.arr 7 xs]:=by
 show[qbs [0,5] _ (.map (some .i64) (qbg g)),_]=_
 rw[qbz];rfl
set_option maxHeartbeats 4000000 in
theorem Qpp (g:Int→Bool) (l:List qas) (hl:l.length<1000000):qal prog Gl 84 [.d (.sl (l.map qas.toD)),.mapr 0] [.map (some .i64) (qbg g)]
  (fun r s=>r=.d (.sl ((qdk g l).map qas.toD))∧s=[.map (some .i64) (qbg g)]):=by
 refine qac func84 rfl rfl (by simp[ntmps84]) (qab rfl _ _ _ _ ?_)
 simp only[ntmps84,results84,qak,List.length_nil]
 simp only[zU,seval,qau]
 refine qap l.length (fun k=>[(1,.mapr 0),(5,.osl 1 0 (qdk g (l.take k)).length),(10,.d (.sl (l.map qas.toD))),(11,.d (.int .i64 l.length)),(12,.d (.int .i64 k))]) (fun k=>[.map (some .i64) (qbg g),.arr 7 ((qdk g (l.take k)).map qas.toD)]) (fun _=>True) trivial ?_ ?_
 ·refine(qep 5 7 rfl).trans ?_
  refine qaa [] [0,1] rfl (by simp) ?_ (Qo0 g _ _)
  simp only[zU,seval,qau]
  all_goals rfl
 intro k _ hk
 have hyl:=qo6 g (l.take k)
 rw[List.length_take] at hyl
 by_cases h:k<l.length
 ·have hst:qdk g (l.take (k+1))=stS g (qdk g (l.take k)) (l.getD k default):=Qhe _ _ _ _ h
  obtain⟨x,hx⟩:∃x,x=l.getD k default:=⟨_,rfl⟩
  have eg:(l.map qas.toD).getD k default=x.toD:=by rw[qaj _ _ _ h,←hx]
  obtain⟨ys,hys⟩:∃ys,ys=qdk g (l.take k):=⟨_,rfl⟩
  rw[←hys,←hx] at hst
  rw[←hys] at hyl ⊢
  rw[hst,stS]
  simp only[zU,seval,qau,(show(k:Int)<l.length by omega),h,eg]
  repeat((with_reducible apply aI);exact sdp)
  refine ifC.mk (fun h1=>?_) (fun h1=>?_)
  ·rw[if_pos h1]
   refine qaa [] [0,1] rfl (by simp) ?_ (Qo0 g _ _)
   simp only[zU,seval,qau,@qag ((k:Int)+1) (by omega)]
   all_goals rfl
  rw[if_neg (by rw[h1];simp)]
  (try simp only[zU,seval,qau])
  have ea:qf7 g x=⟨x.thread,if g x.on_=true then 1 else x.state,x.lo,x.hi,x.cpu,if g x.on_=true then -1 else x.on_,if g x.by_=true then -1 else x.by_⟩:=rfl
  refine ifC.mk (fun h2=>?_) (fun h2=>?_)<;>refine ifC.mk (fun h3=>?_) (fun h3=>?_)
  all_goals simp only[h2,h3,reduceIte,Bool.false_eq_true] at ea
  all_goals
   rcases List.eq_nil_or_concat ys with e|⟨zs,y,e⟩
   ·subst e
    rw[Qn5,if_neg (by simp),ea]
    (try simp only[zU,seval,qau,List.length_nil,List.map_nil,@qag ((-1:Int)) (by omega)])
    repeat((with_reducible apply aI);exact sdp)
    refine qaa [] [0,4] rfl (by simp) ?_ ?_
    ·simp only[zU,seval,qau,@qag ((k:Int)+1) (by omega)]
     all_goals rfl
    ·exact Qxt g _ _ _
   ·rw[List.concat_eq_append] at e
    have hyl2:ys.length=zs.length+1:=by rw[e];simp
    have hyl3:(ys.map qas.toD).length=zs.length+1:=by rw[List.length_map,hyl2]
    have hlt3:zs.length<(ys.map qas.toD).length:=by omega
    have e0:((zs.length:Int)+1-1)=zs.length:=by omega
    have ey:ys.getD zs.length default=y:=by rw[e];simp
    have egy:(ys.map qas.toD).getD zs.length default=y.toD:=by rw[qaj _ _ _ (by omega),ey]
    (try simp only[zU,seval,qau,hyl2,e0,@qag ((zs.length:Int)) (by omega),Int.toNat_natCast,egy,(show(zs.length:Int)<(zs.length:Int)+1 by omega),(show zs.length<zs.length+1 by omega)])
    repeat((with_reducible apply aI);exact sdp)
    refine ifC.mk (fun h4=>?_) (fun h4=>?_)
    ·have hlk:ys.length≠0∧qi1 (ys.getD (ys.length-1) default) (qf7 g x)=true:=by
      refine⟨by omega,?_⟩
      rw[hyl2,Nat.add_sub_cancel,ey,ea];exact h4
     have hadd:(Qn5 ys (qf7 g x)).map qas.toD=(ys.map qas.toD).set zs.length (yS y (qf7 g x) true true).toD:=by
      rw[Qn5,if_pos hlk,hyl2,Nat.add_sub_cancel,ey,List.map_set];rfl
     have haddl:(Qn5 ys (qf7 g x)).length=zs.length+1:=by
      rw[Qn5,if_pos hlk,List.length_set,hyl2]
     rw[hadd,haddl]
     refine⟨.inr (q16
      (fun L=>[(66,onV (L 0) (.osl 1 0 (zs.length+1))),(67,onV (L 1) (.d (.int .i64 zs.length))),(68,onV (L 2) (.osl 1 0 (zs.length+1))),(69,onV (L 3) (.d (.int .i64 zs.length))),(70,onV (L 4) (.ptr 2 2)),(71,onV (L 5) (.ptr 2 3)),(72,onV (L 6) (.d (.int .i64 (qf7 g x).hi))),(73,onV (L 7) (.ptr 2 6)),(74,onV (L 8) (.d (.int .i64 (qf7 g x).by_))),
       (75,onV (L 9) (.aptr 1 zs.length 0)),(76,onV (L 10) (.aptr 1 zs.length 2)),(77,onV (L 11) (.aptr 1 zs.length 3)),(78,onV (L 13) (.aptr 1 zs.length 0)),(79,onV (L 14) (.aptr 1 zs.length 6)),
       (1,.mapr 0),(5,.osl 1 0 (zs.length+1)),(7,.ptr 2 0),(8,.d (.int .i64 zs.length)),(10,.d (.sl (l.map qas.toD))),(11,.d (.int .i64 l.length)),(12,.d (.int .i64 k))])
      (fun L=>[.map (some .i64) (qbg g),.arr 7 ((ys.map qas.toD).set zs.length (yS y (qf7 g x) (L 12) (L 15)).toD),.box 7 (.d (qf7 g x).toD)]) (by kernel_rfl) ?_ ?_ ?_),?_⟩
     ·refine qaa [] [0,1,2] rfl (by simp) ?_ ?_
      ·rfl
      ·have e3:(ys.map qas.toD).set zs.length y.toD=ys.map qas.toD:=by rw[←egy,q2q]
       have eb:(yS y (qf7 g x) (decide (16≤12)) (decide (16≤15))).toD=y.toD:=rfl
       show _=[_,Blk.arr 7 ((ys.map qas.toD).set zs.length (yS y (qf7 g x) (decide (16≤12)) (decide (16≤15))).toD),_]
       rw[eb,e3,ea]
       exact Qsq g _ _ _
     ·simp only[q47]
      refine⟨?_,?_,?_,?_,?_,?_,?_,?_,?_,?_,?_,?_,?_,?_,?_,?_,trivial⟩
      all_goals ((intro L hc hL hp;(try simp only[qg2,Region.binds,frB] at hp);(try simp only[Nat.zero_add,Nat.reduceAdd] at hL);simp only[zU,seval,qau,hL,hp,qsa,qx1,q9b,Qxo,Qxp,Qog,Qof,qf5,List.length_set,hyl3,hyl2,q8h _ _ _ hlt3,List.set_set,(show(zs.length:Int)<(zs.length:Int)+1 by omega),(show zs.length<zs.length+1 by omega)]);refine qaa [] [0,1,2] rfl (by simp) ?_ ?_)
      all_goals first|exact Qsq g _ _ _|(simp only[zU,seval,qau,qf5,rnU,qsa,qx1];try rfl)
      all_goals skip
     ·simp only[zU,seval,qau,qsa]
      refine qaa [] [0,1] rfl (by simp) ?_ (Qo0 g _ _)
      simp only[zU,seval,qau,@qag ((k:Int)+1) (by omega)]
      try rfl
     ·(try simp only[zU,seval,qau,List.set_set,q8h _ _ _ hlt3])
      refine qaa [] [0,1] rfl (by simp) ?_ ?_
      ·simp only[zU,seval,qau,@qag ((k:Int)+1) (by omega)]
       try rfl
      ·rw[ea]
       exact Qo0 g _ _
    ·have hlk:¬(ys.length≠0∧qi1 (ys.getD (ys.length-1) default) (qf7 g x)=true):=by
      rw[hyl2,Nat.add_sub_cancel,ey]
      have hq:qi1 y (qf7 g x)=false:=by rw[ea];exact h4
      rw[hq]
      exact fun hq=>by cases hq.2
     rw[Qn5,if_neg hlk,ea]
     (try simp only[zU,seval,qau,hyl2,qbe])
     refine⟨⟨by omega,by omega⟩,?_⟩
     refine qaa [] [0,5] rfl (by simp) ?_ ?_
     ·simp only[zU,seval,qau,@qag ((k:Int)+1) (by omega),hyl2]
      try rfl
     ·rw[List.map_append,show(ys.map qas.toD).take (zs.length+1)=ys.map qas.toD from List.take_of_length_le (by omega)]
      exact Qxs g _ _ _ _
 ·have:k=l.length:=by omega
  subst this
  simp only[zU,seval,qau,(show ¬(l.length:Int)<l.length by omega),List.take_length]
  refine⟨_,_,(qdd rfl).trans (qah [] [0] rfl (by simp) (show qbk _ _ _=AV.d _ from rfl) (Qxu g _)),?_,rfl⟩
  simp only[zU,seval,qau,qbe]

def qjr (pl:List Int) (s:qae):Int:=if 0≤s.parent then pl.getD s.parent.toNat 0 else -1
def qb9 (p:qae→Bool) (u:List qae×List Int) (s:qae):List qae×List Int:=
 if p s=true then(u.1++[{s with parent:=qjr u.2 s}],u.2++[(u.1.length:Int)]) else(u.1,u.2++[qjr u.2 s])
def chF (p:qae→Bool) (l:List qae):List qae×List Int:=l.foldl (qb9 p) ([],[])
def qhw (out:List qae) (s:qae):List qae:=
 if 0≤s.parent then out.set s.parent.toNat {out.getD s.parent.toNat default with self:=(out.getD s.parent.toNat default).self-(s.hi-s.lo)} else out
def Qkn (out:List qae) (s:qae):qae:={s with depth:=if 0≤s.parent then(out.getD s.parent.toNat default).depth+1 else 0,self:=s.hi-s.lo}
def qcp (out:List qae) (s:qae):List qae:=qhw out s++[Qkn out s]
def qc4 (l:List qae):List qae:=l.foldl qcp []
theorem qg6 (out:List qae) (s:qae):(qhw out s).length=out.length:=by
 unfold qhw;split<;>simp
theorem qdm (out:List qae) (s:qae):(qcp out s).length=out.length+1:=by
 rw[qcp,List.length_append,qg6];rfl
theorem qga (l:List qae) (s:qae):qc4 (l++[s])=qcp (qc4 l) s:=by
 rw[qc4,List.foldl_append];rfl
theorem qcw (l:List qae):(qc4 l).length=l.length:=by
 suffices h:∀(l out:List qae),(l.foldl qcp out).length=out.length+l.length by simpa[qc4] using h l []
 intro l
 induction l with
 | nil=>intro out;simp
 | cons s l ih=>intro out;rw[List.foldl_cons,ih,qdm,List.length_cons];omega
def qd7 (l:List qae):Prop:=∀i,i<l.length→(0≤(l.getD i default).lo∧(l.getD i default).lo≤(l.getD i default).hi∧(l.getD i default).hi≤1000000000000000)∧-1≤(l.getD i default).parent∧(l.getD i default).parent<i
def okL (n:Nat) (out:List qae):Prop:=∀j,j<out.length→0≤(out.getD j default).depth∧(out.getD j default).depth≤n∧-((n:Int)*1000000000000000)≤(out.getD j default).self∧(out.getD j default).self≤1000000000000000
theorem qcq (l:List qae) (s:qae) (j:Nat) (h:j<l.length+1):(l++[s]).getD j default=if j<l.length then l.getD j default else s:=by
 by_cases e:j<l.length
 ·rw[if_pos e,List.getD_eq_getElem?_getD,List.getElem?_append_left e,List.getD_eq_getElem?_getD]
 ·have:j=l.length:=by omega
  subst this
  rw[if_neg e];simp
theorem q1y {l:List qae} {s:qae} (h:qd7 (l++[s])):qd7 l∧(0≤s.lo∧s.lo≤s.hi∧s.hi≤1000000000000000)∧-1≤s.parent∧s.parent<l.length:=by
 constructor
 ·intro i hi
  have:=h i (by simp;omega)
  rw[qcq _ _ _ (by omega),if_pos hi] at this
  exact this
 ·have:=h l.length (by simp)
  rw[qcq _ _ _ (by omega),if_neg (by omega)] at this
  exact this
theorem Qme {l:List qae} {s:qae} (h:qd7 l) (hs:0≤s.lo∧s.lo≤s.hi∧s.hi≤1000000000000000) (h1:-1≤s.parent) (h2:s.parent<l.length):qd7 (l++[s]):=by
 intro i hi
 rw[List.length_append] at hi
 have hi:i<l.length+1:=hi
 rw[qcq _ _ _ hi]
 split
 ·rename_i e;exact h i e
 ·exact⟨hs,h1,by omega⟩
theorem q29 {l:List qae}:qd7 l→okL l.length (qc4 l):=by
 obtain⟨n,hn⟩:∃n,n=l.length:=⟨_,rfl⟩
 induction n generalizing l with
 | zero=>
  intro _ j hj
  have:l=[]:=List.eq_nil_of_length_eq_zero hn.symm
  subst this;simp[qc4] at hj
 | succ n ih=>
  intro hg
  rcases List.eq_nil_or_concat l with rfl|⟨v,s,rfl⟩
  ·simp at hn
  rw[List.concat_eq_append] at hg hn ⊢
  obtain⟨g1,g2,g3,g4⟩:=q1y hg
  have hv:n=v.length:=by rw[List.length_append] at hn;simp at hn;exact hn
  have ok:=ih (l:=v) hv g1
  rw[←hv] at ok
  intro j hj
  rw[qga,qdm,qcw] at hj
  have hl:=qcw v
  rw[List.length_append,qga,qcp,qcq _ _ _ (by rw[qg6];omega),qg6,←hv]
  have e1:n+[s].length=n+1:=rfl
  rw[e1]
  by_cases hjn:j<(qc4 v).length
  ·rw[if_pos hjn]
   have o1:=ok j hjn
   unfold qhw
   split
   ·rename_i hp
    by_cases hjp:s.parent.toNat=j
    ·subst hjp
     have e:((qc4 v).set s.parent.toNat {(qc4 v).getD s.parent.toNat default with self:=((qc4 v).getD s.parent.toNat default).self-(s.hi-s.lo)}).getD s.parent.toNat default={(qc4 v).getD s.parent.toNat default with self:=((qc4 v).getD s.parent.toNat default).self-(s.hi-s.lo)}:=by simp[hjn]
     rw[e]
     refine⟨o1.1,by have:=o1.2.1;simp only;omega,?_,?_⟩
     ·have:=o1.2.2.1;simp only;omega
     ·have:=o1.2.2.2;simp only;omega
    ·have e:∀z,((qc4 v).set s.parent.toNat z).getD j default=(qc4 v).getD j default:=fun z=>by
      rw[List.getD_eq_getElem?_getD,List.getElem?_set_ne hjp,List.getD_eq_getElem?_getD]
     rw[e]
     exact⟨o1.1,by have:=o1.2.1;omega,by have:=o1.2.2.1;omega,o1.2.2.2⟩
   ·exact⟨o1.1,by have:=o1.2.1;omega,by have:=o1.2.2.1;omega,o1.2.2.2⟩
  ·rw[if_neg hjn]
   unfold Qkn
   refine⟨?_,?_,by simp only;omega,by simp only;omega⟩
   ·simp only
    split
    ·rename_i hp;have:=ok s.parent.toNat (by omega);omega
    ·omega
   ·simp only
    split
    ·rename_i hp;have:=ok s.parent.toNat (by omega);omega
    ·omega
theorem q4d (p:qae→Bool) (l:List qae) (s:qae):chF p (l++[s])=qb9 p (chF p l) s:=by
 rw[chF,List.foldl_append];rfl
theorem qhb (p:qae→Bool) {l:List qae}:qd7 l→(chF p l).2.length=l.length∧(chF p l).1.length≤l.length∧(∀q,q<l.length→-1≤(chF p l).2.getD q 0∧(chF p l).2.getD q 0<(chF p l).1.length)∧qd7 (chF p l).1:=by
 obtain⟨n,hn⟩:∃n,n=l.length:=⟨_,rfl⟩
 induction n generalizing l with
 | zero=>
  intro _
  have:l=[]:=List.eq_nil_of_length_eq_zero hn.symm
  subst this
  refine⟨rfl,Nat.le_refl _,fun q hq=>by simp at hq,fun i hi=>by simp[chF] at hi⟩
 | succ n ih=>
  intro hg
  rcases List.eq_nil_or_concat l with rfl|⟨v,s,rfl⟩
  ·simp at hn
  rw[List.concat_eq_append] at hg hn ⊢
  obtain⟨g1,g2,g3,g4⟩:=q1y hg
  have hv:n=v.length:=by rw[List.length_append] at hn;simp at hn;exact hn
  obtain⟨f1,f2,f3,f4⟩:=ih (l:=v) hv g1
  have hup:-1≤qjr (chF p v).2 s∧qjr (chF p v).2 s<(chF p v).1.length:=by
   unfold qjr
   split
   ·exact f3 s.parent.toNat (by omega)
   ·omega
  have gd:∀(a:List Int) (x:Int) (q:Nat),q<a.length+1→(a++[x]).getD q 0=if q<a.length then a.getD q 0 else x:=fun a x q hq=>by
   by_cases e:q<a.length
   ·rw[if_pos e,List.getD_eq_getElem?_getD,List.getElem?_append_left e,List.getD_eq_getElem?_getD]
   ·have:q=a.length:=by omega
    subst this
    rw[if_neg e];simp
  have e1:(v++[s]).length=v.length+1:=by simp
  rw[e1,q4d,qb9]
  split
  ·refine⟨by simp[f1],by simp;omega,fun q hq=>?_,Qme f4 g2 hup.1 hup.2⟩
   simp only
   rw[gd _ _ _ (by omega),List.length_append]
   split
   ·have:=f3 q (by omega);simp only[List.length_cons,List.length_nil];omega
   ·simp only[List.length_cons,List.length_nil];omega
  ·refine⟨by simp[f1],by simp only;omega,fun q hq=>?_,f4⟩
   simp only
   rw[gd _ _ _ (by omega)]
   split
   ·exact f3 q (by omega)
   ·exact hup
theorem qgw {l:List qae} (h:qd7 l) (k:Nat):qd7 (l.take k):=by
 intro i hi
 rw[List.length_take] at hi
 have e:(l.take k).getD i default=l.getD i default:=by
  rw[List.getD_eq_getElem?_getD,List.getElem?_take_of_lt (by omega),List.getD_eq_getElem?_getD]
 rw[e];exact h i (by omega)
def q87 (pl:List Int) (n:Nat):List D:=pl.map (D.int .i64)++List.replicate n (.int .i64 0)
theorem Qec (pl:List Int) (n:Nat):(q87 pl n).length=pl.length+n:=by simp[q87]
theorem Qed {pl:List Int} {n q:Nat} (h:q<pl.length):(q87 pl n).getD q default=.int .i64 (pl.getD q 0):=by
 rw[q87,List.getD_eq_getElem?_getD,List.getElem?_append_left (by simpa using h)]
 simp[h]
theorem qhk (pl:List Int) (n:Nat) (x y:Int):((q87 pl (n+1)).set pl.length (.int .i64 x)).set pl.length (.int .i64 y)=q87 (pl++[y]) n:=by
 rw[List.set_set,q87,List.replicate_succ]
 rw[List.set_append_right _ _ (by simp)]
 simp[q87]
theorem qog (pl:List Int) (n:Nat) (y:Int):(q87 pl (n+1)).set pl.length (.int .i64 y)=q87 (pl++[y]) n:=by
 rw[q87,List.replicate_succ,List.set_append_right _ _ (by simp)]
 simp[q87]
theorem qxz (g:Int→Bool) (ρ:List Nat) (σ:Sto):qdy (0::1::ρ) (freezeL (.box 1 (.mapr 1)::.map (some .i64) (qbg g)::σ) [])=.box 1 (.mapr 1)::.map (some .i64) (qbg g)::ρ.map fun id=>qbs (0::1::ρ) (.box 1 (.mapr 1)::.map (some .i64) (qbg g)::σ) (qad (.box 1 (.mapr 1)::.map (some .i64) (qbg g)::σ) id):=by
 show qbs (0::1::ρ) _ (.box 1 (.mapr 1))::qbs (0::1::ρ) _ (.map (some .i64) (qbg g))::_=_
 rw[qbz];rfl
theorem Qkq (m:Nat) (hm:m≤100000):Qye prog 160 (.d (.int .i64 (m:Int))) (.d (.int .i64 (m:Int))):=by
 refine(show _∧_∧_∧(0:Int)≤m∧(m:Int)≤m∧((8:Nat):Int)*(m:Int)≤281474976710656∧(m:Int)≤_ from⟨rfl,rfl,rfl,?_,?_,?_,?_⟩)<;>omega
theorem Qek (σ:Sto) (m:Nat):mkS prog σ 160 (.d (.int .i64 (m:Int)))=σ++[.arr 1 (List.replicate m (.int .i64 0))]:=rfl
theorem Qlt (g:Int→Bool) {fv:FuncId} (p:qae→Bool) (hp:∀x:qae,qal prog Gl fv [.d x.toD,.ptr 0 0] (.box 1 (.mapr 1)::.map (some .i64) (qbg g)::[]) (fun r s=>r=.d (.bool (p x))∧s=(.box 1 (.mapr 1)::.map (some .i64) (qbg g)::[]))) (l:List qae) (hl:l.length≤1000) (hg:qd7 l) :
  qal prog Gl 64 [.d (.sl (l.map qae.toD)),.fn fv [.ptr 0 0]] (.box 1 (.mapr 1)::.map (some .i64) (qbg g)::[]) (fun r s=>r=.d (.sl ((qc4 (chF p l).1).map qae.toD))∧s=(.box 1 (.mapr 1)::.map (some .i64) (qbg g)::[])):=by
 refine qac func64 rfl rfl (by simp[ntmps64]) (qab rfl _ _ _ _ ?_)
 simp only[ntmps64,results64,qak,List.length_nil]
 simp only[zU,seval,qau]
 refine⟨Qkq l.length (by omega),?_⟩
 rw[Qek]
 refine qap l.length (fun k=>[(1,.fn fv [.ptr 0 0]),(5,.osl 2 0 (qc4 (chF p (l.take k)).1).length),(6,.osl 3 0 l.length),(13,.d (.sl (l.map qae.toD))),(14,.d (.int .i64 l.length)),(15,.d (.int .i64 k))])
  (fun k=>(.box 1 (.mapr 1)::.map (some .i64) (qbg g)::.arr 8 ((qc4 (chF p (l.take k)).1).map qae.toD)::.arr 1 (q87 (chF p (l.take k)).2 (l.length-k))::[])) (fun _=>True) trivial ?_ ?_
 ·refine(qep 5 8 rfl).trans ?_
  refine qaa [] [0,1,3,2] rfl (by simp) ?_ ?_
  ·simp only[zU,seval,qau]
   try rfl
  ·refine(qxz g _ _).trans ?_
   rfl
 intro k _ hk
 have hgk:=qgw hg k
 obtain⟨f1,f2,f3,f4⟩:=qhb p hgk
 have hkl:(l.take k).length=k:=by rw[List.length_take];omega
 rw[hkl] at f1 f2 f3
 by_cases h:k<l.length
 ·obtain⟨x,hx⟩:∃x,x=l.getD k default:=⟨_,rfl⟩
  have eg:(l.map qae.toD).getD k default=x.toD:=by rw[qaj _ _ _ h,←hx]
  have ht:l.take (k+1)=l.take k++[x]:=by rw[qa0 l k h,←hx]
  have gx:=hg k h
  rw[←hx] at gx
  obtain⟨o,ho⟩:∃o,o=(chF p (l.take k)).1:=⟨_,rfl⟩
  obtain⟨pl,hpl⟩:∃pl,pl=(chF p (l.take k)).2:=⟨_,rfl⟩
  obtain⟨out,hout⟩:∃out,out=qc4 o:=⟨_,rfl⟩
  have hc:chF p (l.take (k+1))=qb9 p (o,pl) x:=by rw[ht,q4d,ho,hpl]
  have hol:out.length=o.length:=by rw[hout,qcw]
  have hok:okL o.length out:=by rw[hout];exact q29 (by rw[ho];exact f4)
  rw[hc]
  rw[←ho,←hpl] at f3
  rw[←ho] at f2 f4
  rw[←hpl] at f1
  rw[←ho,←hpl,←hout]
  obtain⟨m,hm⟩:∃m,l.length-k=m+1:=⟨l.length-k-1,by omega⟩
  have hm2:l.length-(k+1)=m:=by omega
  rw[hm,hm2]
  have hpll:=Qec pl (m+1)
  obtain⟨up,hup⟩:∃up,up=qjr pl x:=⟨_,rfl⟩
  have hupb:-1≤up∧up<o.length:=by
   rw[hup,qjr];split
   ·exact f3 _ (by omega)
   ·omega
  simp only[zU,seval,qau,(show(k:Int)<l.length by omega),h,eg]
  repeat((with_reducible apply aI);exact sdp)
  refine ifC.mk (fun h1=>?_) (fun h1=>?_)
  ·have h1:0≤x.parent:=of_decide_eq_true h1
   obtain⟨q,hq⟩:∃q:Nat,x.parent=q:=⟨x.parent.toNat,by omega⟩
   have hqk:q<pl.length:=by omega
   have eq:(q87 pl (m+1)).getD q default=.int .i64 up:=by rw[Qed hqk,hup,qjr,if_pos h1,hq,Int.toNat_natCast]
   (try simp only[zU,seval,qau,hq,(show(q:Int)<l.length by omega),(show q<l.length by omega),hpll,(show q<pl.length+(m+1) by omega),eq])
   refine⟨by omega,?_⟩
   refine qb3 (R:=fun r ν=>r=.d (.bool (p x))∧ν=[]) [0,1] (.box 1 (.mapr 1)::.map (some .i64) (qbg g)::[]) (by simp) (by simp) (show[qbs [0,1] _ (.box 1 (.mapr 1)),qbs [0,1] _ (.map (some .i64) (qbg g))]=_ by rw[qbz];rfl) rfl (hk2 rfl (qc7 g _)) ((hp x).mono fun r s hr=>⟨[],by rw[hr.2];rfl,hr.1,rfl⟩) (fun r ν hr=>?_)
   obtain⟨rfl,rfl⟩:=hr
   have ekl:k=pl.length:=f1.symm
   simp only[zU,seval,qau,List.map_nil,List.append_nil]
   refine ifC.mk (fun hc=>?_) (fun hc=>?_)
   ·have hc:p x=false:=by simpa using hc
    rw[qb9,if_neg (by rw[hc];simp),←hup,←hout]
    refine qaa [] [0,1,2,3] rfl (by simp) ?_ ?_
    ·simp only[zU,seval,qau,@qag ((k:Int)+1) (by omega)]
     try rfl
    ·rw[ekl,qog]
     refine(qxz g _ _).trans ?_
     rfl
   ·have hc:p x=true:=by simpa using hc
    have e1:x.hi-x.lo=IntKind.i64.wrap (x.hi-x.lo):=(@qag (x.hi-x.lo) (by omega)).symm
    rw[qb9,if_pos hc,←hup]
    have efin:qc4 (o++[{x with parent:=up}])=qcp out {x with parent:=up}:=by rw[qga,←hout]
    simp only[efin]
    (try simp only[zU,seval,qau,@qag (x.hi-x.lo) (by omega)])
    refine ifC.mk (fun h2=>?_) (fun h2=>?_)
    ·have h2:0≤up:=of_decide_eq_true h2
     obtain⟨u,hu⟩:∃u:Nat,up=u:=⟨up.toNat,by omega⟩
     have hul:u<out.length:=by omega
     obtain⟨y,hy⟩:∃y,y=out.getD u default:=⟨_,rfl⟩
     have egy:(out.map qae.toD).getD u default=y.toD:=by rw[qaj _ _ _ hul,←hy]
     have hyk:=hok u hul
     rw[←hy] at hyk
     (try simp only[zU,seval,qau,hu,(show(u:Int)<out.length by omega),hul,egy,@qag (y.depth+1) (by omega),@qag (y.self-(x.hi-x.lo)) (by omega)])
     refine⟨.inl (by kernel_rfl),?_⟩
     (try simp only[zU,seval,qau,(show(u:Int)<out.length by omega),hul,egy,(show(k:Int)<l.length by omega),hpll,(show k<pl.length+(m+1) by omega)])
     refine⟨⟨by omega,by omega⟩,?_⟩
     have ef:(qcp out {x with parent:=(u:Int)}).map qae.toD=(out.map qae.toD).set u (qae.toD {y with self:=y.self-(x.hi-x.lo)})++[qae.toD {x with parent:=(u:Int),depth:=y.depth+1,self:=x.hi-x.lo}]:=by
      simp only[qcp,qhw,Qkn,(show(0:Int)≤u by omega),Int.toNat_natCast,←hy,if_true,List.map_append,List.map_set]
      rfl
     rw[ef,qdm]
     refine qaa [] [0,1,6,3] rfl (by simp) ?_ ?_
     ·simp only[zU,seval,qau,@qag ((k:Int)+1) (by omega)]
      try rfl
     ·rw[ekl,qhk]
      rw[List.take_of_length_le (by rw[List.length_set,List.length_map];exact Nat.le_refl _),←hol]
      refine(qxz g _ _).trans ?_
      rfl
    ·have h2:¬0≤up:=of_decide_eq_false h2
     (try simp only[zU,seval,qau,(show(k:Int)<l.length by omega),hpll,(show k<pl.length+(m+1) by omega)])
     refine⟨⟨by omega,by omega⟩,?_⟩
     have ef:(qcp out {x with parent:=up}).map qae.toD=out.map qae.toD++[qae.toD {x with parent:=up,depth:=0,self:=x.hi-x.lo}]:=by
      simp only[qcp,qhw,Qkn,h2,if_false,List.map_append]
      rfl
     rw[ef,qdm]
     refine qaa [] [0,1,6,3] rfl (by simp) ?_ ?_
     ·simp only[zU,seval,qau,@qag ((k:Int)+1) (by omega)]
      try rfl
     ·rw[ekl,qhk,←hol,qbe]
      refine(qxz g _ _).trans ?_
      rfl
  ·have h1:¬0≤x.parent:=of_decide_eq_false h1
   have eu:up=-1:=by rw[hup,qjr,if_neg h1]
   (try simp only[zU,seval,qau,hpll])
   rw[←eu]
   refine⟨by omega,?_⟩
   refine qb3 (R:=fun r ν=>r=.d (.bool (p x))∧ν=[]) [0,1] (.box 1 (.mapr 1)::.map (some .i64) (qbg g)::[]) (by simp) (by simp) (show[qbs [0,1] _ (.box 1 (.mapr 1)),qbs [0,1] _ (.map (some .i64) (qbg g))]=_ by rw[qbz];rfl) rfl (hk2 rfl (qc7 g _)) ((hp x).mono fun r s hr=>⟨[],by rw[hr.2];rfl,hr.1,rfl⟩) (fun r ν hr=>?_)
   obtain⟨rfl,rfl⟩:=hr
   have ekl:k=pl.length:=f1.symm
   simp only[zU,seval,qau,List.map_nil,List.append_nil]
   refine ifC.mk (fun hc=>?_) (fun hc=>?_)
   ·have hc:p x=false:=by simpa using hc
    rw[qb9,if_neg (by rw[hc];simp),←hup,←hout]
    refine qaa [] [0,1,2,3] rfl (by simp) ?_ ?_
    ·simp only[zU,seval,qau,@qag ((k:Int)+1) (by omega)]
     try rfl
    ·rw[ekl,qog]
     refine(qxz g _ _).trans ?_
     rfl
   ·have hc:p x=true:=by simpa using hc
    have e1:x.hi-x.lo=IntKind.i64.wrap (x.hi-x.lo):=(@qag (x.hi-x.lo) (by omega)).symm
    rw[qb9,if_pos hc,←hup]
    have efin:qc4 (o++[{x with parent:=up}])=qcp out {x with parent:=up}:=by rw[qga,←hout]
    simp only[efin]
    (try simp only[zU,seval,qau,@qag (x.hi-x.lo) (by omega)])
    refine ifC.mk (fun h2=>?_) (fun h2=>?_)
    ·have h2:0≤up:=of_decide_eq_true h2
     obtain⟨u,hu⟩:∃u:Nat,up=u:=⟨up.toNat,by omega⟩
     have hul:u<out.length:=by omega
     obtain⟨y,hy⟩:∃y,y=out.getD u default:=⟨_,rfl⟩
     have egy:(out.map qae.toD).getD u default=y.toD:=by rw[qaj _ _ _ hul,←hy]
     have hyk:=hok u hul
     rw[←hy] at hyk
     (try simp only[zU,seval,qau,hu,(show(u:Int)<out.length by omega),hul,egy,@qag (y.depth+1) (by omega),@qag (y.self-(x.hi-x.lo)) (by omega)])
     refine⟨.inl (by kernel_rfl),?_⟩
     (try simp only[zU,seval,qau,(show(u:Int)<out.length by omega),hul,egy,(show(k:Int)<l.length by omega),hpll,(show k<pl.length+(m+1) by omega)])
     refine⟨⟨by omega,by omega⟩,?_⟩
     have ef:(qcp out {x with parent:=(u:Int)}).map qae.toD=(out.map qae.toD).set u (qae.toD {y with self:=y.self-(x.hi-x.lo)})++[qae.toD {x with parent:=(u:Int),depth:=y.depth+1,self:=x.hi-x.lo}]:=by
      simp only[qcp,qhw,Qkn,(show(0:Int)≤u by omega),Int.toNat_natCast,←hy,if_true,List.map_append,List.map_set]
      rfl
     rw[ef,qdm]
     refine qaa [] [0,1,6,3] rfl (by simp) ?_ ?_
     ·simp only[zU,seval,qau,@qag ((k:Int)+1) (by omega)]
      try rfl
     ·rw[ekl,qhk]
      rw[List.take_of_length_le (by rw[List.length_set,List.length_map];exact Nat.le_refl _),←hol]
      refine(qxz g _ _).trans ?_
      rfl
    ·have h2:¬0≤up:=of_decide_eq_false h2
     (try simp only[zU,seval,qau,(show(k:Int)<l.length by omega),hpll,(show k<pl.length+(m+1) by omega)])
     refine⟨⟨by omega,by omega⟩,?_⟩
     have ef:(qcp out {x with parent:=up}).map qae.toD=out.map qae.toD++[qae.toD {x with parent:=up,depth:=0,self:=x.hi-x.lo}]:=by
      simp only[qcp,qhw,Qkn,h2,if_false,List.map_append]
      rfl
     rw[ef,qdm]
     refine qaa [] [0,1,6,3] rfl (by simp) ?_ ?_
     ·simp only[zU,seval,qau,@qag ((k:Int)+1) (by omega)]
      try rfl
     ·rw[ekl,qhk,←hol,qbe]
      refine(qxz g _ _).trans ?_
      rfl
 ·have:k=l.length:=by omega
  subst this
  simp only[zU,seval,qau,(show ¬(l.length:Int)<l.length by omega),List.take_length]
  refine⟨_,_,(qdd rfl).trans (qah [] [0,1] rfl (by simp) (show qbk _ _ _=AV.d _ from rfl) (qxz g [] _)),?_,rfl⟩
  simp only[zU,seval,qau,qbe]
theorem Qls (rs:D) {fv:FuncId} (p:qae→Bool) (hp:∀x:qae,qal prog Gl fv [.d x.toD,.ptr 0 0] (.box 1 (.d rs)::[]) (fun r s=>r=.d (.bool (p x))∧s=(.box 1 (.d rs)::[]))) (l:List qae) (hl:l.length≤1000) (hg:qd7 l) :
  qal prog Gl 64 [.d (.sl (l.map qae.toD)),.fn fv [.ptr 0 0]] (.box 1 (.d rs)::[]) (fun r s=>r=.osl 1 0 (qc4 (chF p l).1).length∧s=(.box 1 (.d rs)::.arr 8 ((qc4 (chF p l).1).map qae.toD)::[])):=by
 refine qac func64 rfl rfl (by simp[ntmps64]) (qab rfl _ _ _ _ ?_)
 simp only[ntmps64,results64,qak,List.length_nil]
 simp only[zU,seval,qau]
 refine⟨Qkq l.length (by omega),?_⟩
 rw[Qek]
 refine qap l.length (fun k=>[(1,.fn fv [.ptr 0 0]),(5,.osl 1 0 (qc4 (chF p (l.take k)).1).length),(6,.osl 2 0 l.length),(13,.d (.sl (l.map qae.toD))),(14,.d (.int .i64 l.length)),(15,.d (.int .i64 k))])
  (fun k=>(.box 1 (.d rs)::.arr 8 ((qc4 (chF p (l.take k)).1).map qae.toD)::.arr 1 (q87 (chF p (l.take k)).2 (l.length-k))::[])) (fun _=>True) trivial ?_ ?_
 ·refine(qep 5 8 rfl).trans ?_
  refine qaa [] [0,2,1] rfl (by simp) ?_ ?_
  ·simp only[zU,seval,qau]
   try rfl
  ·skip
   rfl
 intro k _ hk
 have hgk:=qgw hg k
 obtain⟨f1,f2,f3,f4⟩:=qhb p hgk
 have hkl:(l.take k).length=k:=by rw[List.length_take];omega
 rw[hkl] at f1 f2 f3
 by_cases h:k<l.length
 ·obtain⟨x,hx⟩:∃x,x=l.getD k default:=⟨_,rfl⟩
  have eg:(l.map qae.toD).getD k default=x.toD:=by rw[qaj _ _ _ h,←hx]
  have ht:l.take (k+1)=l.take k++[x]:=by rw[qa0 l k h,←hx]
  have gx:=hg k h
  rw[←hx] at gx
  obtain⟨o,ho⟩:∃o,o=(chF p (l.take k)).1:=⟨_,rfl⟩
  obtain⟨pl,hpl⟩:∃pl,pl=(chF p (l.take k)).2:=⟨_,rfl⟩
  obtain⟨out,hout⟩:∃out,out=qc4 o:=⟨_,rfl⟩
  have hc:chF p (l.take (k+1))=qb9 p (o,pl) x:=by rw[ht,q4d,ho,hpl]
  have hol:out.length=o.length:=by rw[hout,qcw]
  have hok:okL o.length out:=by rw[hout];exact q29 (by rw[ho];exact f4)
  rw[hc]
  rw[←ho,←hpl] at f3
  rw[←ho] at f2 f4
  rw[←hpl] at f1
  rw[←ho,←hpl,←hout]
  obtain⟨m,hm⟩:∃m,l.length-k=m+1:=⟨l.length-k-1,by omega⟩
  have hm2:l.length-(k+1)=m:=by omega
  rw[hm,hm2]
  have hpll:=Qec pl (m+1)
  obtain⟨up,hup⟩:∃up,up=qjr pl x:=⟨_,rfl⟩
  have hupb:-1≤up∧up<o.length:=by
   rw[hup,qjr];split
   ·exact f3 _ (by omega)
   ·omega
  simp only[zU,seval,qau,(show(k:Int)<l.length by omega),h,eg]
  repeat((with_reducible apply aI);exact sdp)
  refine ifC.mk (fun h1=>?_) (fun h1=>?_)
  ·have h1:0≤x.parent:=of_decide_eq_true h1
   obtain⟨q,hq⟩:∃q:Nat,x.parent=q:=⟨x.parent.toNat,by omega⟩
   have hqk:q<pl.length:=by omega
   have eq:(q87 pl (m+1)).getD q default=.int .i64 up:=by rw[Qed hqk,hup,qjr,if_pos h1,hq,Int.toNat_natCast]
   (try simp only[zU,seval,qau,hq,(show(q:Int)<l.length by omega),(show q<l.length by omega),hpll,(show q<pl.length+(m+1) by omega),eq])
   refine⟨by omega,?_⟩
   refine qb3 (R:=fun r ν=>r=.d (.bool (p x))∧ν=[]) [0] (.box 1 (.d rs)::[]) (by simp) (by simp) rfl rfl (hk1 rfl) ((hp x).mono fun r s hr=>⟨[],by rw[hr.2];rfl,hr.1,rfl⟩) (fun r ν hr=>?_)
   obtain⟨rfl,rfl⟩:=hr
   have ekl:k=pl.length:=f1.symm
   simp only[zU,seval,qau,List.map_nil,List.append_nil]
   refine ifC.mk (fun hc=>?_) (fun hc=>?_)
   ·have hc:p x=false:=by simpa using hc
    rw[qb9,if_neg (by rw[hc];simp),←hup,←hout]
    refine qaa [] [0,1,2] rfl (by simp) ?_ ?_
    ·simp only[zU,seval,qau,@qag ((k:Int)+1) (by omega)]
     try rfl
    ·rw[ekl,qog]
     skip
     rfl
   ·have hc:p x=true:=by simpa using hc
    have e1:x.hi-x.lo=IntKind.i64.wrap (x.hi-x.lo):=(@qag (x.hi-x.lo) (by omega)).symm
    rw[qb9,if_pos hc,←hup]
    have efin:qc4 (o++[{x with parent:=up}])=qcp out {x with parent:=up}:=by rw[qga,←hout]
    simp only[efin]
    (try simp only[zU,seval,qau,@qag (x.hi-x.lo) (by omega)])
    refine ifC.mk (fun h2=>?_) (fun h2=>?_)
    ·have h2:0≤up:=of_decide_eq_true h2
     obtain⟨u,hu⟩:∃u:Nat,up=u:=⟨up.toNat,by omega⟩
     have hul:u<out.length:=by omega
     obtain⟨y,hy⟩:∃y,y=out.getD u default:=⟨_,rfl⟩
     have egy:(out.map qae.toD).getD u default=y.toD:=by rw[qaj _ _ _ hul,←hy]
     have hyk:=hok u hul
     rw[←hy] at hyk
     (try simp only[zU,seval,qau,hu,(show(u:Int)<out.length by omega),hul,egy,@qag (y.depth+1) (by omega),@qag (y.self-(x.hi-x.lo)) (by omega)])
     refine⟨.inl (by kernel_rfl),?_⟩
     (try simp only[zU,seval,qau,(show(u:Int)<out.length by omega),hul,egy,(show(k:Int)<l.length by omega),hpll,(show k<pl.length+(m+1) by omega)])
     refine⟨⟨by omega,by omega⟩,?_⟩
     have ef:(qcp out {x with parent:=(u:Int)}).map qae.toD=(out.map qae.toD).set u (qae.toD {y with self:=y.self-(x.hi-x.lo)})++[qae.toD {x with parent:=(u:Int),depth:=y.depth+1,self:=x.hi-x.lo}]:=by
      simp only[qcp,qhw,Qkn,(show(0:Int)≤u by omega),Int.toNat_natCast,←hy,if_true,List.map_append,List.map_set]
      rfl
     rw[ef,qdm]
     refine qaa [] [0,5,2] rfl (by simp) ?_ ?_
     ·simp only[zU,seval,qau,@qag ((k:Int)+1) (by omega)]
      try rfl
     ·rw[ekl,qhk]
      rw[List.take_of_length_le (by rw[List.length_set,List.length_map];exact Nat.le_refl _),←hol]
      skip
      rfl
    ·have h2:¬0≤up:=of_decide_eq_false h2
     (try simp only[zU,seval,qau,(show(k:Int)<l.length by omega),hpll,(show k<pl.length+(m+1) by omega)])
     refine⟨⟨by omega,by omega⟩,?_⟩
     have ef:(qcp out {x with parent:=up}).map qae.toD=out.map qae.toD++[qae.toD {x with parent:=up,depth:=0,self:=x.hi-x.lo}]:=by
      simp only[qcp,qhw,Qkn,h2,if_false,List.map_append]
      rfl
     rw[ef,qdm]
     refine qaa [] [0,5,2] rfl (by simp) ?_ ?_
     ·simp only[zU,seval,qau,@qag ((k:Int)+1) (by omega)]
      try rfl
     ·rw[ekl,qhk,←hol,qbe]
      skip
      rfl
  ·have h1:¬0≤x.parent:=of_decide_eq_false h1
   have eu:up=-1:=by rw[hup,qjr,if_neg h1]
   (try simp only[zU,seval,qau,hpll])
   rw[←eu]
   refine⟨by omega,?_⟩
   refine qb3 (R:=fun r ν=>r=.d (.bool (p x))∧ν=[]) [0] (.box 1 (.d rs)::[]) (by simp) (by simp) rfl rfl (hk1 rfl) ((hp x).mono fun r s hr=>⟨[],by rw[hr.2];rfl,hr.1,rfl⟩) (fun r ν hr=>?_)
   obtain⟨rfl,rfl⟩:=hr
   have ekl:k=pl.length:=f1.symm
   simp only[zU,seval,qau,List.map_nil,List.append_nil]
   refine ifC.mk (fun hc=>?_) (fun hc=>?_)
   ·have hc:p x=false:=by simpa using hc
    rw[qb9,if_neg (by rw[hc];simp),←hup,←hout]
    refine qaa [] [0,1,2] rfl (by simp) ?_ ?_
    ·simp only[zU,seval,qau,@qag ((k:Int)+1) (by omega)]
     try rfl
    ·rw[ekl,qog]
     skip
     rfl
   ·have hc:p x=true:=by simpa using hc
    have e1:x.hi-x.lo=IntKind.i64.wrap (x.hi-x.lo):=(@qag (x.hi-x.lo) (by omega)).symm
    rw[qb9,if_pos hc,←hup]
    have efin:qc4 (o++[{x with parent:=up}])=qcp out {x with parent:=up}:=by rw[qga,←hout]
    simp only[efin]
    (try simp only[zU,seval,qau,@qag (x.hi-x.lo) (by omega)])
    refine ifC.mk (fun h2=>?_) (fun h2=>?_)
    ·have h2:0≤up:=of_decide_eq_true h2
     obtain⟨u,hu⟩:∃u:Nat,up=u:=⟨up.toNat,by omega⟩
     have hul:u<out.length:=by omega
     obtain⟨y,hy⟩:∃y,y=out.getD u default:=⟨_,rfl⟩
     have egy:(out.map qae.toD).getD u default=y.toD:=by rw[qaj _ _ _ hul,←hy]
     have hyk:=hok u hul
     rw[←hy] at hyk
     (try simp only[zU,seval,qau,hu,(show(u:Int)<out.length by omega),hul,egy,@qag (y.depth+1) (by omega),@qag (y.self-(x.hi-x.lo)) (by omega)])
     refine⟨.inl (by kernel_rfl),?_⟩
     (try simp only[zU,seval,qau,(show(u:Int)<out.length by omega),hul,egy,(show(k:Int)<l.length by omega),hpll,(show k<pl.length+(m+1) by omega)])
     refine⟨⟨by omega,by omega⟩,?_⟩
     have ef:(qcp out {x with parent:=(u:Int)}).map qae.toD=(out.map qae.toD).set u (qae.toD {y with self:=y.self-(x.hi-x.lo)})++[qae.toD {x with parent:=(u:Int),depth:=y.depth+1,self:=x.hi-x.lo}]:=by
      simp only[qcp,qhw,Qkn,(show(0:Int)≤u by omega),Int.toNat_natCast,←hy,if_true,List.map_append,List.map_set]
      rfl
     rw[ef,qdm]
     refine qaa [] [0,5,2] rfl (by simp) ?_ ?_
     ·simp only[zU,seval,qau,@qag ((k:Int)+1) (by omega)]
      try rfl
     ·rw[ekl,qhk]
      rw[List.take_of_length_le (by rw[List.length_set,List.length_map];exact Nat.le_refl _),←hol]
      skip
      rfl
    ·have h2:¬0≤up:=of_decide_eq_false h2
     (try simp only[zU,seval,qau,(show(k:Int)<l.length by omega),hpll,(show k<pl.length+(m+1) by omega)])
     refine⟨⟨by omega,by omega⟩,?_⟩
     have ef:(qcp out {x with parent:=up}).map qae.toD=out.map qae.toD++[qae.toD {x with parent:=up,depth:=0,self:=x.hi-x.lo}]:=by
      simp only[qcp,qhw,Qkn,h2,if_false,List.map_append]
      rfl
     rw[ef,qdm]
     refine qaa [] [0,5,2] rfl (by simp) ?_ ?_
     ·simp only[zU,seval,qau,@qag ((k:Int)+1) (by omega)]
      try rfl
     ·rw[ekl,qhk,←hol,qbe]
      skip
      rfl
 ·have:k=l.length:=by omega
  subst this
  simp only[zU,seval,qau,(show ¬(l.length:Int)<l.length by omega),List.take_length]
  exact⟨_,_,qah [] [0,1] rfl (by simp) rfl rfl,rfl,rfl⟩

theorem q9q:(D.raw (Value.map none)).cells.length=1:=rfl
theorem Qxv (g:Int→Bool) (σ:Sto):qdy [0,1] (.box 1 (.mapr 1)::.map (some .i64) (qbg g)::σ)=[.box 1 (.mapr 1),.map (some .i64) (qbg g)]:=by
 show[qbs [0,1] _ (.box 1 (.mapr 1)),qbs [0,1] _ (.map (some .i64) (qbg g))]=_
 rw[qbz];rfl
section
variable {n:Nat} {all:Array Oper} {rest:List Oper} {KK:Env→Sto→Prop} {env:Env} {f:FuncId} {ag caps as':List AV} {dst:Option Tmp}
theorem cG {v:D} (g:Int→Bool) (σ:Sto) (h:qal prog Gl f as' [.box 1 (.mapr 1),.map (some .i64) (qbg g)] (fun r s=>r=.d v∧s=[.box 1 (.mapr 1),.map (some .i64) (qbg g)]))
  (he:(ag++caps).map (qbk [0,1] (.box 1 (.mapr 1)::.map (some .i64) (qbg g)::σ))=as')
  (h2:qar prog Gl n all false rest (putE env dst (.d v)) (.box 1 (.mapr 1)::.map (some .i64) (qbg g)::σ) KK):qhd prog Gl n all false dst rest (.fn f caps) ag env (.box 1 (.mapr 1)::.map (some .i64) (qbg g)::σ) KK:=
 q2a [0,1] [.box 1 (.mapr 1),.map (some .i64) (qbg g)] (by simp) (by simp) (Qxv g σ) he (hk2 rfl (qc7 g _)) h h2
theorem Qz3 {es m:Nat} {xs:List D} (g:Int→Bool) (σ:Sto) (h:qal prog Gl f as' [.box 1 (.mapr 1),.map (some .i64) (qbg g)] (fun r s=>r=.osl 2 0 m∧s=[.box 1 (.mapr 1),.map (some .i64) (qbg g),.arr es xs]))
  (he:(ag++caps).map (qbk [0,1] (.box 1 (.mapr 1)::.map (some .i64) (qbg g)::σ))=as')
  (h2:qar prog Gl n all false rest (putE env dst (.osl (σ.length+2) 0 m)) (.box 1 (.mapr 1)::.map (some .i64) (qbg g)::σ++[.arr es xs]) KK):qhd prog Gl n all false dst rest (.fn f caps) ag env (.box 1 (.mapr 1)::.map (some .i64) (qbg g)::σ) KK:=
 qxf [0,1] [.box 1 (.mapr 1),.map (some .i64) (qbg g)] (by simp) (by simp) (Qxv g σ) he (hk2 rfl (qc7 g _)) h h2
end
def qcc (l:List qao) (ths:List qai) (m:Int):Bool:=ths.any fun x=>x.id==m&&qbw l qax x.name
theorem Qvf {l:List qao} {ths:List qai} {x:qai} (h:qbw l qax x.name=true):(fun m=>m==x.id||qcc l ths m)=qcc l (ths++[x]):=by
 funext m
 rw[qcc,qcc,List.any_append,List.any_cons,List.any_nil,Bool.or_false,h,Bool.and_true,Bool.or_comm]
 congr 1
 rw[Bool.eq_iff_iff];simp;exact⟨fun e=>e.symm,fun e=>e.symm⟩
theorem Qvg {l:List qao} {ths:List qai} {x:qai} (h:qbw l qax x.name=false):qcc l (ths++[x])=qcc l ths:=by
 funext m
 rw[qcc,qcc,List.any_append,List.any_cons,List.any_nil,Bool.or_false,h,Bool.and_false,Bool.or_false]
def qfw (l:List qao) (t:qat):qat:=
 {t with
  threads:=t.threads.filter (fun x=>!qcc l t.threads x.id)
  flows:=t.flows.filter (fun x=>!(qcc l t.threads x.ft||qcc l t.threads x.tt))
  samples:=t.samples.filter (fun x=>!qcc l t.threads x.thread)
  blocks:=t.blocks.filter (fun x=>!qcc l t.threads x.thread)
  lost:=t.lost.filter (fun x=>!qcc l t.threads x.thread)
  slices:=qc4 (chF (fun x=>!qcc l t.threads x.thread) t.slices).1
  states:=qdk (qcc l t.threads) t.states}
def qat.lim (t:qat):Prop:=t.threads.length≤1000∧t.slices.length≤1000∧t.states.length≤1000∧t.flows.length≤1000∧t.samples.length≤1000∧t.steps.length≤1000∧t.blocks.length≤1000∧t.lost.length≤1000
def Qzp (t:qat):AV:=.agg [.d (.int .i64 t.lo),.d (.int .i64 t.hi),.osl 0 0 t.threads.length,.d (.sl (t.slices.map qae.toD)),.d (.sl (t.states.map qas.toD)),.d (.sl (t.flows.map qbj.toD)),.d (.sl (t.samples.map qam.toD)),.d (.sl (t.steps.map qa7.toD)),.d (.sl (t.blocks.map qaw.toD)),.d (.sl (t.lost.map qb5.toD))]
def zT:AV:=.agg [.d (.int .i64 0),.d (.int .i64 0),.nils,.nils,.nils,.nils,.nils,.nils,.nils,.nils]
theorem q3p (l:List qao) (t:qat) (hl:l.length<1000000) (ht:t.lim) (hg:qd7 t.slices):qal prog Gl 43 [.d (.sl (l.map qao.toD)),.d t.toD] []
  (fun r s=>r=Qzp (qfw l t)∧s=[.arr 3 ((qfw l t).threads.map qai.toD)]):=by
 obtain⟨h1,h2,h3,h4,h5,h6,h7,h8⟩:=ht
 refine qac func43 rfl rfl (by simp[ntmps43]) (qab rfl _ _ _ _ ?_)
 simp only[ntmps43,results43,qak,List.length_nil]
 simp only[zU,seval,qau,q9q]
 refine qap t.threads.length (fun k=>[(0,.d (.sl (l.map qao.toD))),(3,.ptr 2 0),(4,.ptr 3 0),(5,.ptr 0 0),(10,.d (.sl (t.threads.map qai.toD))),(11,.d (.int .i64 t.threads.length)),(12,.d (.int .i64 k))])
  (fun k=>[.box 1 (.mapr 1),.map (some .i64) (qbg (qcc l (t.threads.take k))),.box 10 (.d t.toD),.box 10 zT]) (fun _=>True) trivial ?_ ?_
 ·refine qaa [] [3,2,0,1] rfl (by simp) ?_ ?_
  ·simp only[zU,seval,qau,q9q]
   try rfl
  ·rw[Qku]
   show[_,qbs [3,2,0,1] _ (.map (some .i64) (qbg fun _=>false)),_,_]=_
   rw[qbz];rfl
 intro k _ hk
 by_cases h:k<t.threads.length
 ·obtain⟨x,hx⟩:∃x,x=t.threads.getD k default:=⟨_,rfl⟩
  have eg:(t.threads.map qai.toD).getD k default=x.toD:=by rw[qaj _ _ _ h,←hx]
  have hst:t.threads.take (k+1)=t.threads.take k++[x]:=by rw[qa0 _ k h,←hx]
  rw[hst]
  simp only[zU,seval,qau,q9q,(show(k:Int)<t.threads.length by omega),h,eg]
  repeat((with_reducible apply aI);exact sdp)
  refine qaf (qgq l _ _ hl) ?_
  simp only[zU,seval,qau,q9q]
  refine ifC.mk (fun hc=>?_) (fun hc=>?_)
  ·have hc:qbw l qax x.name=true:=hc
   (try simp only[zU,seval,qau,q9q,Qph])
   rw[←Qvf hc]
   refine qaa [] [0,1,2,3] rfl (by simp) ?_ ((qxz _ [2,3] _).trans rfl)
   simp only[zU,seval,qau,q9q,@qag ((k:Int)+1) (by omega)]
   try rfl
  ·have hc:qbw l qax x.name=false:=hc
   rw[Qvg hc]
   refine qaa [] [0,1,2,3] rfl (by simp) ?_ ((qxz _ [2,3] _).trans rfl)
   simp only[zU,seval,qau,q9q,@qag ((k:Int)+1) (by omega)]
   try rfl
 have:k=t.threads.length:=by omega
 subst this
 obtain⟨g,hgd⟩:∃g,g=qcc l t.threads:=⟨_,rfl⟩
 simp only[zU,seval,qau,q9q,(show ¬(t.threads.length:Int)<t.threads.length by omega),List.take_length]
 rw[←hgd]
 refine Qz3 g _ (qwj g (fun x=>g x.id) (Qlj g) t.threads (by omega)) rfl ?_
 simp only[zU,seval,qau,q9q]
 repeat((with_reducible apply aI);exact sdp)
 refine cG g _ (q3k g (fun x=>g x.ft||g x.tt) (Qu4 g) t.flows (by omega)) rfl ?_
 simp only[zU,seval,qau,q9q]
 repeat((with_reducible apply aI);exact sdp)
 refine cG g _ (qwk g (fun x=>g x.thread) (Qlk g) t.samples (by omega)) rfl ?_
 simp only[zU,seval,qau,q9q]
 repeat((with_reducible apply aI);exact sdp)
 refine cG g _ (qx4 g (fun x=>g x.thread) (Qp0 g) t.blocks (by omega)) rfl ?_
 simp only[zU,seval,qau,q9q]
 repeat((with_reducible apply aI);exact sdp)
 refine cG g _ (q3j g (fun x=>g x.thread) (Qu3 g) t.lost (by omega)) rfl ?_
 simp only[zU,seval,qau,q9q]
 repeat((with_reducible apply aI);exact sdp)
 refine cG g _ (Qlt g (fun x=>!g x.thread) (Qpz g) t.slices (by omega) hg) rfl ?_
 simp only[zU,seval,qau,q9q]
 repeat((with_reducible apply aI);exact sdp)
 refine q2a [1] [.map (some .i64) (qbg g)] (by simp) (by simp) (by show[qbs [1] _ (.map (some .i64) (qbg g))]=_;rw[qbz]) rfl (hk1 (qc7 g _)) (Qpp g t.states (by omega)) ?_
 simp only[zU,seval,qau,q9q]
 repeat((with_reducible apply aI);exact sdp)
 have ed:qfw l t={t with
   threads:=t.threads.filter (fun x=>!g x.id)
   flows:=t.flows.filter (fun x=>!(g x.ft||g x.tt))
   samples:=t.samples.filter (fun x=>!g x.thread)
   blocks:=t.blocks.filter (fun x=>!g x.thread)
   lost:=t.lost.filter (fun x=>!g x.thread)
   slices:=qc4 (chF (fun x=>!g x.thread) t.slices).1
   states:=qdk g t.states}:=by rw[hgd];rfl
 rw[ed]
 refine⟨_,_,qah [] [4] rfl (by simp) rfl rfl,?_,?_⟩
 ·rfl
 ·rfl
end YtljpopkonkanlaaGreatDoor
end Go.Proofs
