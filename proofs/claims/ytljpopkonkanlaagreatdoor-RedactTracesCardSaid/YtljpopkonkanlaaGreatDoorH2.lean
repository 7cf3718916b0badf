/- A part of the proof: contracts of functions of this seat, and lemmas. No condition beyond those stated. -/
import Derived.Test.YtljpopkonkanlaaGreatDoorH1
import Derived.Lib.ItoaNum
import Derived.Shelf.LaysM
import Derived.Shelf.Strconv.Itoa3
import Derived.Ground.NamesProg
import Derived.Test.YtljpopkonkanlaaGreatDoorProg
import Derived.Test.YtljpopkonkanlaaGreatDoorG4
import Derived.Lib.ItoaLen
set_option linter.unusedVariables false
set_option linter.unusedSimpArgs false
set_option linter.unusedSectionVars false
set_option linter.unnecessarySimpa false
set_option maxRecDepth 100000
namespace Go.Proofs
open Go.AM Tryz
namespace YtljpopkonkanlaaGreatDoor
variable {Gl:qbd}
def Qev (a b:qag):Int:=orL [qv7 a.lo b.lo,qv7 b.hi a.hi,qv7 a.thread b.thread]
theorem Qil (a b:qag):qba prog Gl 159 [.d a.toD,.d b.toD] (.d (.int .i64 (Qev a b))):=by
 refine qba.of2 ?_
 refine qac func159 rfl rfl (by simp[ntmps159]) (qab rfl _ _ _ _ ?_)
 simp only[ntmps159,results159,qak,List.length_nil]
 simp only[zC,seval]
 repeat((with_reducible apply aI);exact sdp)
 refine qad (qjt _ _) ?_
 simp only[zC,seval]
 refine qad (qjt _ _) ?_
 simp only[zC,seval]
 refine qad (qjt _ _) ?_
 simp only[zC,seval]
 repeat((with_reducible apply aI);exact sdp)
 refine qjz 2 (fun B hB=>Qwh [qv7 a.lo b.lo,qv7 b.hi a.hi,qv7 a.thread b.thread] (by simp) B hB) (fun _=>rfl) rfl ?_
 simp only[zC,seval]
 exact⟨_,_,qap,rfl,rfl⟩
def qex (l:List qag) (i k:Int):Bool:=
 if h:0≤k then(if i=k then true else if h2:(l.getD k.toNat default).parent<k then qex l i (l.getD k.toNat default).parent else false) else false
termination_by (k+1).toNat
decreasing_by omega
def qfb (l:List qag) (i:Nat):Bool:=
 let s:=l.getD i default
 if(decide (s.parent < -1)||decide ((i:Int)≤s.parent))=true then false
 else if s.parent=-1 then s.depth==0
 else !((l.getD s.parent.toNat default).thread !=s.thread||decide (s.lo<(l.getD s.parent.toNat default).lo)||decide ((l.getD s.parent.toNat default).hi<s.hi)||s.depth !=IntKind.i64.wrap ((l.getD s.parent.toNat default).depth+1))
def qir (l:List qag):Bool:=(List.range l.length).all (qfb l)
theorem qck (p:Nat→Bool) (k:Nat):(List.range (k+1)).all p=((List.range k).all p&&p k):=by
 rw[List.range_succ,List.all_append];simp only[List.all_cons,List.all_nil,Bool.and_true]
theorem qb8 {p:Nat→Bool} {n k:Nat} (h:k<n) (hp:p k=false):(List.range n).all p=false:=by
 rw[List.all_eq_false];exact⟨k,List.mem_range.2 h,by simp[hp]⟩
theorem qh1 {l:List qag} {i:Nat} (h:qfb l i=true):-1≤(l.getD i default).parent∧(l.getD i default).parent<i:=by
 unfold qfb at h
 simp only at h
 split at h
 ·cases h
 ·rename_i h1
  simp only[Bool.not_eq_true,Bool.or_eq_false_iff,decide_eq_false_iff_not] at h1
  omega
theorem q09 {l:List qag} (h:qir l=true) {i:Nat} (hi:i<l.length):qfb l i=true:=by
 unfold qir at h;rw[List.all_eq_true] at h;exact h i (List.mem_range.2 hi)
theorem Qmg (l:List qag) (hl:l.length<1000000):qba prog Gl 160 [.d (.sl (l.map qag.toD))] (.d (.bool (qir l))):=by
 refine qba.of1 ?_
 refine qac func160 rfl rfl (by simp[ntmps160]) (qab rfl _ _ _ _ ?_)
 simp only[ntmps160,results160,qak,List.length_nil]
 simp only[zC,seval]
 refine qan l.length (fun k=>[(0,.d (.sl (l.map qag.toD))),(6,.d (.sl (l.map qag.toD))),(7,.d (.int .i64 l.length)),(8,.d (.int .i64 k))]) (fun _=>[]) (fun k=>(List.range k).all (qfb l)=true) rfl ?_ ?_
 ·refine qaa [] [] rfl List.nodup_nil ?_ rfl
  simp only[zC,seval,Int.cast_ofNat_Int]
 ·intro k hi hk
  by_cases h:k<l.length
  ·obtain⟨b,eb⟩:∃b,b=l.getD k default:=⟨_,rfl⟩
   have hbad:qfb l k=false→qir l=false:=fun h1=>qb8 h h1
   simp only[zC,seval,(show(k:Int)<l.length by omega),h,qah _ _ _ (show k<l.length by omega),←eb]
   repeat((with_reducible apply aI);exact sdp)
   cases h1:(decide (b.parent < -1)||decide ((k:Int)≤b.parent)) with
   | true=>
    simp only[zC,seval]
    refine⟨_,_,qap,?_,rfl⟩
    rw[hbad (by unfold qfb;rw[←eb];simp only[h1,if_pos])]
   | false=>
    simp only[zC,seval]
    have hn:qfb l k=if b.parent=-1 then b.depth==0 else !((l.getD b.parent.toNat default).thread !=b.thread||decide (b.lo<(l.getD b.parent.toNat default).lo)||decide ((l.getD b.parent.toNat default).hi<b.hi)||b.depth !=IntKind.i64.wrap ((l.getD b.parent.toNat default).depth+1)):=by
     unfold qfb;rw[←eb];simp only[h1,Bool.false_eq_true,if_false]
    simp only[Bool.or_eq_false_iff,decide_eq_false_iff_not] at h1
    by_cases h2:b.parent=-1
    ·rw[if_pos h2] at hn
     simp only[zC,seval,Qqq (show b.parent=-1 by omega)]
     refine ifC.mk (fun h3=>?_) (fun h3=>?_)
     ·refine⟨_,_,qap,?_,rfl⟩
      rw[hbad (by rw[hn];simpa using h3)]
     ·have hat:qfb l k=true:=by rw[hn];simpa using h3
      refine⟨by rw[qck,hi,hat];rfl,?_⟩
      refine qaa [] [] rfl List.nodup_nil ?_ rfl
      simp only[zC,seval,@qaf ((k:Int)+1) (by omega)]
    ·rw[if_neg h2] at hn
     obtain⟨q,eq⟩:∃q:Nat,b.parent=q:=⟨b.parent.toNat,by omega⟩
     rw[eq,qgz] at hn
     simp only[zC,seval,eq,qv0 (show ¬((q:Int)=-1) by omega),(show(q:Int)<l.length by omega),(show q<l.length by omega),qah _ _ _ (show q<l.length by omega)]
     repeat((with_reducible apply aI);exact sdp)
     refine ifC.mk (fun h3=>?_) (fun h3=>?_)
     ·refine⟨_,_,qap,?_,rfl⟩
      rw[hbad (by rw[hn,h3];rfl)]
     ·have hat:qfb l k=true:=by rw[hn,h3];rfl
      refine⟨by rw[qck,hi,hat];rfl,?_⟩
      refine qaa [] [] rfl List.nodup_nil ?_ rfl
      simp only[zC,seval,@qaf ((k:Int)+1) (by omega)]
  ·simp only[zC,seval,(show ¬(k:Int)<l.length by omega)]
   refine⟨_,_,qap,?_,rfl⟩
   have:k=l.length:=by omega
   rw[qir,←this,hi]
theorem qrr {l:List qag} {i k:Int} (h:¬0≤k):qex l i k=false:=by rw[qex,dif_neg h]
theorem qwy {l:List qag} {i k:Int} (h:0≤k) (h2:i=k):qex l i k=true:=by rw[qex,dif_pos h,if_pos h2]
theorem qnu {l:List qag} {i k:Int} (h:0≤k) (h2:i≠k) (h3:(l.getD k.toNat default).parent<k):qex l i k=qex l i (l.getD k.toNat default).parent:=by rw[qex,dif_pos h,if_neg h2,dif_pos h3]
theorem Qhx (l:List qag) (hl:l.length<1000000) (hn:qir l=true) (i k:Int) (hk:k<l.length):qba prog Gl 195 [.d (.sl (l.map qag.toD)),.d (.int .i64 i),.d (.int .i64 k)] (.d (.bool (qex l i k))):=by
 refine qba.of3 ?_
 refine qac func195 rfl rfl (by simp[ntmps195]) (qab rfl _ _ _ _ ?_)
 simp only[ntmps195,results195,qak,List.length_nil]
 simp only[zC,seval]
 refine qcr (τ:=Int) (fun p=>[(0,.d (.sl (l.map qag.toD))),(1,.d (.int .i64 i)),(2,.d (.int .i64 p))]) (fun _=>[]) (fun p=>p<l.length∧qex l i p=qex l i k) (fun p=>(p+1).toNat) k ⟨hk,rfl⟩ ?_ ?_
 ·refine qaa [] [] rfl List.nodup_nil ?_ rfl
  simp only[zC,seval]
 ·rintro p ⟨h1,h2⟩
  simp only[zC,seval]
  refine ifC.mk (fun hc=>?_) (fun hc=>?_)
  ·have hc:0≤p:=by simpa using hc
   obtain⟨q,rfl⟩:∃q:Nat,p=q:=⟨p.toNat,by omega⟩
   simp only[zC,seval]
   refine ifC.mk (fun hd=>?_) (fun hd=>?_)
   ·refine⟨_,_,qap,?_,rfl⟩
    rw[←h2,qwy hc (by simpa using hd)]
   ·have hd:i≠q:=by simpa using hd
    have hp:=qh1 (q09 hn (i:=q) (by omega))
    rw[qnu hc hd (by rw[qgz];exact hp.2),qgz] at h2
    simp only[zC,seval,(show(q:Int)<l.length by omega),(show q<l.length by omega),qah _ _ _ (show q<l.length by omega)]
    repeat((with_reducible apply aI);exact sdp)
    refine⟨(l.getD q default).parent,⟨by omega,h2⟩,by omega,?_⟩
    refine qaa [] [] rfl List.nodup_nil ?_ rfl
    simp only[zC,seval]
  ·have hc:¬0≤p:=by simpa using hc
   refine⟨_,_,qap,?_,rfl⟩
   rw[←h2,qrr hc]
def qgn (l:List qag) (i:Nat):Nat→Int
 | 0=>IntKind.i64.wrap ((l.getD i default).hi-(l.getD i default).lo)
 | j+1=>if((l.getD j default).parent==(i:Int))=true then IntKind.i64.wrap (qgn l i j-IntKind.i64.wrap ((l.getD j default).hi-(l.getD j default).lo)) else qgn l i j
def qlb (l:List qag) (j i:Nat):Bool:=decide ((j:Int)<i)&&((l.getD j default).thread==(l.getD i default).thread)&&decide ((l.getD i default).lo<(l.getD j default).hi)&&decide ((l.getD j default).lo<(l.getD i default).hi)&&!qex l j i
def qid (l:List qag) (i:Nat):Bool:=((List.range l.length).all fun j=>!qlb l j i)&&((l.getD i default).self==qgn l i l.length)
def qio (l:List qag):Bool:=(List.range l.length).all (qid l)
theorem Qrs (l:List qag) (hl:l.length<1000000) (hn:qir l=true):qba prog Gl 161 [.d (.sl (l.map qag.toD))] (.d (.bool (qio l))):=by
 refine qba.of1 ?_
 refine qac func161 rfl rfl (by simp[ntmps161]) (qab rfl _ _ _ _ ?_)
 simp only[ntmps161,results161,qak,List.length_nil]
 simp only[zC,seval]
 refine qan l.length (fun k=>[(0,.d (.sl (l.map qag.toD))),(8,.d (.sl (l.map qag.toD))),(9,.d (.int .i64 l.length)),(10,.d (.int .i64 k))]) (fun _=>[]) (fun k=>(List.range k).all (qid l)=true) rfl ?_ ?_
 ·refine qaa [] [] rfl List.nodup_nil ?_ rfl
  simp only[zC,seval,Int.cast_ofNat_Int]
 ·intro k hi hk
  by_cases h:k<l.length
  ·obtain⟨b,eb⟩:∃b,b=l.getD k default:=⟨_,rfl⟩
   have hbad:qid l k=false→qio l=false:=fun h1=>qb8 h h1
   simp only[zC,seval,(show(k:Int)<l.length by omega),h,qah _ _ _ (show k<l.length by omega),←eb]
   repeat((with_reducible apply aI);exact sdp)
   refine qan l.length (fun j=>[(0,.d (.sl (l.map qag.toD))),(3,.d (.int .i64 k)),(4,.ptr 0 0),(5,.d (.int .i64 (qgn l k j))),(8,.d (.sl (l.map qag.toD))),(9,.d (.int .i64 l.length)),(10,.d (.int .i64 k)),(22,.d (.sl (l.map qag.toD))),(23,.d (.int .i64 l.length)),(24,.d (.int .i64 j))]) (fun _=>[.box 8 (.d b.toD)]) (fun j=>((List.range j).all fun j=>!qlb l j k)=true) rfl ?_ ?_
   ·refine qaa [] [0] rfl (by simp) ?_ rfl
    simp only[zC,seval,Int.cast_ofNat_Int,qgn,←eb]
    all_goals rfl
   ·intro j hj hjk
    by_cases h2:j<l.length
    ·obtain⟨a,ea⟩:∃a,a=l.getD j default:=⟨_,rfl⟩
     simp only[zC,seval,(show(j:Int)<l.length by omega),h2,qah _ _ _ (show j<l.length by omega),←ea]
     repeat((with_reducible apply aI);exact sdp)
     cases h3:(a.parent==(k:Int)) with
     | true=>
      have hS:qgn l k (j+1)=IntKind.i64.wrap (qgn l k j-IntKind.i64.wrap (a.hi-a.lo)):=by rw[qgn,←ea,if_pos h3]
      simp only[zC,seval]
      repeat((with_reducible apply aI);exact sdp)
      refine qay (fun _=>Qhx l hl hn j k (by omega)) ?_
      simp only[zC,seval]
      repeat((with_reducible apply aI);exact sdp)
      refine ifC.mk (fun hc=>?_) (fun hc=>?_)
      ·refine⟨_,_,qap,?_,rfl⟩
       rw[hbad (by unfold qid;rw[qb8 h2 (by simp only[qlb,←eb,←ea];rw[hc];rfl)];rfl)]
      ·refine⟨by rw[qck,hj];simp only[qlb,←eb,←ea];rw[hc];rfl,?_⟩
       refine qaa [] [0] rfl (by simp) ?_ rfl
       simp only[zC,seval,@qaf ((j:Int)+1) (by omega),hS]
       all_goals rfl
     | false=>
      have hS:qgn l k (j+1)=qgn l k j:=by rw[qgn,←ea,if_neg (by rw[h3];simp)]
      simp only[zC,seval]
      repeat((with_reducible apply aI);exact sdp)
      refine qay (fun _=>Qhx l hl hn j k (by omega)) ?_
      simp only[zC,seval]
      repeat((with_reducible apply aI);exact sdp)
      refine ifC.mk (fun hc=>?_) (fun hc=>?_)
      ·refine⟨_,_,qap,?_,rfl⟩
       rw[hbad (by unfold qid;rw[qb8 h2 (by simp only[qlb,←eb,←ea];rw[hc];rfl)];rfl)]
      ·refine⟨by rw[qck,hj];simp only[qlb,←eb,←ea];rw[hc];rfl,?_⟩
       refine qaa [] [0] rfl (by simp) ?_ rfl
       simp only[zC,seval,@qaf ((j:Int)+1) (by omega),hS]
       all_goals rfl
    ·simp only[zC,seval,(show ¬(j:Int)<l.length by omega)]
     have hjn:j=l.length:=by omega
     subst hjn
     have hat:qid l k=(b.self==qgn l k l.length):=by unfold qid;rw[hj,←eb,Bool.true_and]
     refine ifC.mk (fun hc=>?_) (fun hc=>?_)
     ·refine⟨_,_,qap,?_,rfl⟩
      rw[hbad (by rw[hat];simpa using hc)]
     ·have hat:qid l k=true:=by rw[hat];simpa using hc
      refine⟨by rw[qck,hi,hat];rfl,?_⟩
      refine qaa [] [] rfl List.nodup_nil ?_ rfl
      simp only[zC,seval,@qaf ((k:Int)+1) (by omega)]
  ·simp only[zC,seval,(show ¬(k:Int)<l.length by omega)]
   refine⟨_,_,qap,?_,rfl⟩
   have:k=l.length:=by omega
   rw[qio,←this,hi]
def q91 (l:List qag) (k:Nat):Int:=
 if(decide ((l.getD k default).thread<0)||decide (1000000000000000<(l.getD k default).thread)||!qgr (l.getD k default).lo (l.getD k default).hi)=true then 2
 else if qc3 (l.getD k default).name≠0 then qc3 (l.getD k default).name
 else if(decide (0<k)&&decide (0<Qev (l.getD (k-1) default) (l.getD k default)))=true then 11 else 0
def qfa (l:List qag):Int:=if qa5 (q91 l) l.length≠0 then qa5 (q91 l) l.length else if(qir l&&qio l)=true then 0 else 10
theorem q90 {l:List qag} {k:Nat} (h:(decide ((l.getD k default).thread<0)||decide (1000000000000000<(l.getD k default).thread)||!qgr (l.getD k default).lo (l.getD k default).hi)=true):q91 l k=2:=by rw[q91,if_pos h]
theorem Qpa {l:List qag} {k:Nat} (h:(decide ((l.getD k default).thread<0)||decide (1000000000000000<(l.getD k default).thread)||!qgr (l.getD k default).lo (l.getD k default).hi)=false) (h2:qc3 (l.getD k default).name≠0):q91 l k=qc3 (l.getD k default).name:=by rw[q91,if_neg (by rw[h];simp),if_pos h2]
theorem Qf1 {l:List qag} {k:Nat} (h:(decide ((l.getD k default).thread<0)||decide (1000000000000000<(l.getD k default).thread)||!qgr (l.getD k default).lo (l.getD k default).hi)=false) (h2:qc3 (l.getD k default).name=0):q91 l k=if(decide (0<k)&&decide (0<Qev (l.getD (k-1) default) (l.getD k default)))=true then 11 else 0:=by rw[q91,if_neg (by rw[h];simp),if_neg (by rw[h2];simp)]
theorem q5v (l:List qag) (hl:l.length<1000000):qba prog Gl 100 [.d (.sl (l.map qag.toD))] (.d (.int .i64 (qfa l))):=by
 refine qba.of1 ?_
 refine qac func100 rfl rfl (by simp[ntmps100]) (qab rfl _ _ _ _ ?_)
 simp only[ntmps100,results100,qak,List.length_nil]
 simp only[zC,seval]
 refine qan l.length (fun k=>[(0,.d (.sl (l.map qag.toD))),(6,.d (.sl (l.map qag.toD))),(7,.d (.int .i64 l.length)),(8,.d (.int .i64 k))]) (fun _=>[]) (fun k=>qa5 (q91 l) k=0) rfl ?_ ?_
 ·refine qaa [] [] rfl List.nodup_nil ?_ rfl
  simp only[zC,seval,Int.cast_ofNat_Int]
 ·intro k hi hk
  by_cases h:k<l.length
  ·have hb:∀e,q91 l k=e→e≠0→qfa l=e:=fun e h1 h2=>by
    have:=qbu hi (by rw[h1];exact h2) h
    rw[qfa,this,h1,if_pos h2]
   obtain⟨b,eb⟩:∃b,b=l.getD k default:=⟨_,rfl⟩
   simp only[zC,seval,(show(k:Int)<l.length by omega),h,qah _ _ _ (show k<l.length by omega),←eb]
   repeat((with_reducible apply aI);exact sdp)
   refine qay (fun _=>q1p _ _) ?_
   simp only[zC,seval]
   repeat((with_reducible apply aI);exact sdp)
   refine ifC.mk (fun h1=>?_) (fun h1=>?_)
   ·refine⟨_,_,qap,?_,rfl⟩
    rw[hb 2 (q90 (by rw[←eb];exact h1)) (by omega)]
   ·refine qad (qz7 _) ?_
    simp only[zC,seval]
    refine ifC.mk (fun h2=>?_) (fun h2=>?_)
    ·have h2:qc3 b.name≠0:=by simpa using h2
     refine⟨_,_,qap,?_,rfl⟩
     rw[hb _ (Qpa (by rw[←eb];exact h1) (by rw[←eb];exact h2)) (by rw[←eb];exact h2),←eb]
    ·have ho:=Qf1 (l:=l) (k:=k) (by rw[←eb];exact h1) (by rw[←eb];simpa using h2)
     rw[←eb] at ho
     by_cases hk0:0<k
     ·have e1:IntKind.i64.wrap ((k:Int)-1)=((k-1:Nat):Int):=by rw[qbh (by omega) (by omega)];omega
      obtain⟨a,ea⟩:∃a,a=l.getD (k-1) default:=⟨_,rfl⟩
      rw[decide_eq_true hk0,Bool.true_and,←ea] at ho
      simp only[zC,seval,(show(0:Int)<k by omega),e1,(show((k-1:Nat):Int)<l.length by omega),(show k-1<l.length by omega),qah _ _ _ (show k-1<l.length by omega),←ea]
      repeat((with_reducible apply aI);exact sdp)
      refine qay (fun _=>Qil _ _) ?_
      simp only[zC,seval]
      repeat((with_reducible apply aI);exact sdp)
      refine ifC.mk (fun h3=>?_) (fun h3=>?_)
      ·refine⟨_,_,qap,?_,rfl⟩
       rw[if_pos h3] at ho
       rw[hb 11 ho (by omega)]
      ·rw[if_neg (by rw[h3];simp)] at ho
       refine⟨qa4 hi ho,?_⟩
       refine qaa [] [] rfl List.nodup_nil ?_ rfl
       simp only[zC,seval,@qaf ((k:Int)+1) (by omega)]
     ·rw[decide_eq_false hk0,Bool.false_and,if_neg (by simp)] at ho
      have e0:(IntKind.i64.wrap ((k:Int)-1)).toNat=0:=by rw[qbh (by omega) (by omega)];omega
      simp only[zC,seval,(show ¬(0:Int)<k by omega),e0,qah _ _ _ (show 0<l.length by omega)]
      repeat((with_reducible apply aI);exact sdp)
      refine qay (v:=.d (.int .i64 0)) (fun h=>by cases h) ?_
      simp only[zC,seval,e0,qah _ _ _ (show 0<l.length by omega)]
      repeat((with_reducible apply aI);exact sdp)
      refine⟨qa4 hi ho,?_⟩
      refine qaa [] [] rfl List.nodup_nil ?_ rfl
      simp only[zC,seval,@qaf ((k:Int)+1) (by omega)]
  ·simp only[zC,seval,(show ¬(k:Int)<l.length by omega)]
   have:k=l.length:=by omega
   subst this
   have hF:qfa l=if(qir l&&qio l)=true then 0 else 10:=by rw[qfa,hi,if_neg (by simp)]
   refine qad (Qmg l hl) ?_
   simp only[zC,seval]
   cases hn:qir l with
   | false=>
    rw[hn,Bool.false_and,if_neg (by simp)] at hF
    repeat((with_reducible apply aI);exact sdp)
    refine qay (v:=.d (.bool false)) (fun h=>by cases h) ?_
    simp only[zC,seval]
    refine⟨_,_,qap,?_,rfl⟩
    rw[hF]
   | true=>
    rw[hn,Bool.true_and] at hF
    repeat((with_reducible apply aI);exact sdp)
    refine qay (fun _=>Qrs l hl hn) ?_
    simp only[zC,seval]
    cases ha:qio l with
    | false=>
     simp only[zC,seval]
     refine⟨_,_,qap,?_,rfl⟩
     rw[hF,ha,if_neg (by simp)]
    | true=>
     simp only[zC,seval]
     refine⟨_,_,qap,?_,rfl⟩
     rw[hF,ha,if_pos rfl]

theorem Qrx (xs:List Int) (x:Int) (hl:xs.length<2000000) (B:Blk) (hB:qdw 1 (xs.map (D.int .i64)) B):qal prog Gl 163 [.osl 0 0 xs.length,.d (.int .i64 x)] [B] (fun r s=>r=.d (.int .i64 (qel (fun y=>x==y) xs))∧s=[B]):=by
 rcases hB with rfl|rfl
 ·refine qac func163 rfl rfl (by simp[ntmps163]) (qab rfl _ _ _ _ ?_)
  simp only[ntmps163,results163,qak,List.length_nil]
  simp only[zC,seval]
  refine qan xs.length (fun k=>[(0,.osl 0 0 xs.length),(1,.d (.int .i64 x)),(7,.d (.int .i64 xs.length)),(8,.d (.int .i64 k))]) (fun _=>[.arr 1 (xs.map (D.int .i64))]) (fun k=>(xs.take k).any (fun y=>x==y)=false) rfl ?_ ?_
  ·refine qaa [] [0] rfl (by simp) ?_ rfl
   simp only[zC,seval,Int.cast_ofNat_Int]
   all_goals rfl
  ·intro k hi hk
   by_cases h:k<xs.length
   ·have hs:=qca (fun y=>x==y) xs k h
    simp only[zC,seval,(show(k:Int)<xs.length by omega),h,qah _ _ _ (show k<xs.length by omega)]
    repeat((with_reducible apply aI);exact sdp)
    refine ifC.mk (fun hc=>?_) (fun hc=>?_)
    ·refine⟨_,_,qai [] [0] rfl (by simp) (show qbk _ _ _=AV.d _ from rfl) rfl,?_,rfl⟩
     rw[qd8 h hi hc]
    ·refine⟨by rw[hs,hi,hc];rfl,?_⟩
     refine qaa [] [0] rfl (by simp) ?_ rfl
     simp only[zC,seval,@qaf ((k:Int)+1) (by omega)]
     all_goals rfl
   ·simp only[zC,seval,(show ¬(k:Int)<xs.length by omega)]
    have:k=xs.length:=by omega
    subst this
    rw[List.take_length] at hi
    refine⟨_,_,qai [] [0] rfl (by simp) (show qbk _ _ _=AV.d _ from rfl) rfl,?_,rfl⟩
    rw[qcx hi]
 ·refine qac func163 rfl rfl (by simp[ntmps163]) (qab rfl _ _ _ _ ?_)
  simp only[ntmps163,results163,qak,List.length_nil]
  simp only[zC,seval]
  refine qan xs.length (fun k=>[(0,.osl 0 0 xs.length),(1,.d (.int .i64 x)),(7,.d (.int .i64 xs.length)),(8,.d (.int .i64 k))]) (fun _=>[.frz 1 (xs.map (D.int .i64))]) (fun k=>(xs.take k).any (fun y=>x==y)=false) rfl ?_ ?_
  ·refine qaa [] [0] rfl (by simp) ?_ rfl
   simp only[zC,seval,Int.cast_ofNat_Int]
   all_goals rfl
  ·intro k hi hk
   by_cases h:k<xs.length
   ·have hs:=qca (fun y=>x==y) xs k h
    simp only[zC,seval,(show(k:Int)<xs.length by omega),h,qah _ _ _ (show k<xs.length by omega)]
    repeat((with_reducible apply aI);exact sdp)
    refine ifC.mk (fun hc=>?_) (fun hc=>?_)
    ·refine⟨_,_,qai [] [0] rfl (by simp) (show qbk _ _ _=AV.d _ from rfl) rfl,?_,rfl⟩
     rw[qd8 h hi hc]
    ·refine⟨by rw[hs,hi,hc];rfl,?_⟩
     refine qaa [] [0] rfl (by simp) ?_ rfl
     simp only[zC,seval,@qaf ((k:Int)+1) (by omega)]
     all_goals rfl
   ·simp only[zC,seval,(show ¬(k:Int)<xs.length by omega)]
    have:k=xs.length:=by omega
    subst this
    rw[List.take_length] at hi
    refine⟨_,_,qai [] [0] rfl (by simp) (show qbk _ _ _=AV.d _ from rfl) rfl,?_,rfl⟩
    rw[qcx hi]
theorem Qmx (xs:List Int) (x:Int) (hl:xs.length<1000000):qba prog Gl 163 [.d (.sl (xs.map (D.int .i64))),.d (.int .i64 x)] (.d (.int .i64 (qel (fun y=>x==y) xs))):=by
 refine qba.of2 ?_
 refine qac func163 rfl rfl (by simp[ntmps163]) (qab rfl _ _ _ _ ?_)
 simp only[ntmps163,results163,qak,List.length_nil]
 simp only[zC,seval]
 refine qan xs.length (fun k=>[(0,.d (.sl (xs.map (D.int .i64)))),(1,.d (.int .i64 x)),(7,.d (.int .i64 xs.length)),(8,.d (.int .i64 k))]) (fun _=>[]) (fun k=>(xs.take k).any (fun y=>x==y)=false) rfl ?_ ?_
 ·refine qaa [] [] rfl List.nodup_nil ?_ rfl
  simp only[zC,seval,Int.cast_ofNat_Int]
 ·intro k hi hk
  by_cases h:k<xs.length
  ·have hs:=qca (fun y=>x==y) xs k h
   simp only[zC,seval,(show(k:Int)<xs.length by omega),h,qah _ _ _ (show k<xs.length by omega)]
   repeat((with_reducible apply aI);exact sdp)
   refine ifC.mk (fun hc=>?_) (fun hc=>?_)
   ·refine⟨_,_,qap,?_,rfl⟩
    rw[qd8 h hi hc]
   ·refine⟨by rw[hs,hi,hc];rfl,?_⟩
    refine qaa [] [] rfl List.nodup_nil ?_ rfl
    simp only[zC,seval,@qaf ((k:Int)+1) (by omega)]
  ·simp only[zC,seval,(show ¬(k:Int)<xs.length by omega)]
   have:k=xs.length:=by omega
   subst this
   rw[List.take_length] at hi
   refine⟨_,_,qap,?_,rfl⟩
   rw[qcx hi]
theorem Qei (xs:List Int) (x:Int) (hl:xs.length<2000000) (B:Blk) (hB:qdw 1 (xs.map (D.int .i64)) B):qal prog Gl 196 [.osl 0 0 xs.length,.d (.int .i64 x)] [B] (fun r s=>r=.d (.bool (xs.any (fun y=>x==y)))∧s=[B]):=by
 have hix:=Qrx (Gl:=Gl) xs x hl B hB
 rcases hB with rfl|rfl
 ·refine qac func196 rfl rfl (by simp[ntmps196]) (qab rfl _ _ _ _ ?_)
  simp only[ntmps196,results196,qak,List.length_nil]
  simp only[zC,seval]
  refine qa1 (hix.mono fun r s hr=>?_)
  obtain⟨rfl,rfl⟩:=hr
  simp only[zC,seval]
  refine⟨_,_,qai [] [0] rfl (by simp) (show qbk _ _ _=AV.d _ from rfl) rfl,?_,rfl⟩
  rw[qdv]
 ·refine qac func196 rfl rfl (by simp[ntmps196]) (qab rfl _ _ _ _ ?_)
  simp only[ntmps196,results196,qak,List.length_nil]
  simp only[zC,seval]
  refine qa1 (hix.mono fun r s hr=>?_)
  obtain⟨rfl,rfl⟩:=hr
  simp only[zC,seval]
  refine⟨_,_,qai [] [0] rfl (by simp) (show qbk _ _ _=AV.d _ from rfl) rfl,?_,rfl⟩
  rw[qdv]
def qh9 (l:List qaj):List Int:=l.foldl (fun out x=>if out.any (fun y=>x.id==y)=true then out else out++[x.id]) []
theorem qog (l:List qaj) (k:Nat) (h:k<l.length):qh9 (l.take (k+1))=if(qh9 (l.take k)).any (fun y=>(l.getD k default).id==y)=true then qh9 (l.take k) else qh9 (l.take k)++[(l.getD k default).id]:=by
 rw[qa0 l k h];unfold qh9;rw[List.foldl_append];rfl
theorem qjx (l:List qaj):∀k,(qh9 (l.take k)).length≤k
 | 0=>by simp[qh9]
 | k+1=>by
  have ih:=qjx l k
  by_cases h:k<l.length
  ·rw[qog l k h]
   split
   ·omega
   ·rw[List.length_append];simp only[List.length_cons,List.length_nil];omega
  ·rw[List.take_of_length_le (by omega)]
   rw[List.take_of_length_le (by omega)] at ih
   omega
theorem Qec (l:List qaj) (hl:l.length<1000000):qba prog Gl 162 [.d (.sl (l.map qaj.toD))] (.d (.sl ((qh9 l).map (D.int .i64)))):=by
 refine qba.of1 ?_
 refine qac func162 rfl rfl (by simp[ntmps162]) (qab rfl _ _ _ _ ?_)
 simp only[ntmps162,results162,qak,List.length_nil]
 simp only[zC,seval]
 refine qan l.length (fun k=>[(3,.osl 0 0 (qh9 (l.take k)).length),(6,.d (.sl (l.map qaj.toD))),(7,.d (.int .i64 l.length)),(8,.d (.int .i64 k))]) (fun k=>[.arr 1 ((qh9 (l.take k)).map (D.int .i64))]) (fun _=>True) trivial ?_ ?_
 ·refine(qcw 3 1 rfl).trans ?_
  refine qaa [] [0] rfl (by simp) ?_ ?_
  ·simp only[zC,seval,Int.cast_ofNat_Int]
   all_goals rfl
  ·rfl
 ·intro k _ hk
  have hdl:=qjx l k
  by_cases h:k<l.length
  ·have hs:=qog l k h
   obtain⟨ys,hys⟩:∃ys,ys=qh9 (l.take k):=⟨_,rfl⟩
   rw[←hys] at hs hdl ⊢
   simp only[zC,seval,(show(k:Int)<l.length by omega),h,qah _ _ _ (show k<l.length by omega)]
   repeat((with_reducible apply aI);exact sdp)
   refine qjz 0 (fun B hB=>Qei ys _ (by omega) B hB) (fun _=>rfl) rfl ?_
   simp only[zC,seval]
   cases hc:ys.any (fun y=>(l.getD k default).id==y) with
   | true=>
    rw[hc,if_pos rfl] at hs
    simp only[zC,seval,hs]
    refine qaa [] [0] rfl (by simp) ?_ rfl
    simp only[zC,seval,@qaf ((k:Int)+1) (by omega)]
    all_goals rfl
   | false=>
    rw[hc,if_neg (by simp)] at hs
    simp only[zC,seval,qaz]
    repeat((with_reducible apply aI);exact sdp)
    rw[hs]
    refine qaa [] [3] rfl (by simp) ?_ ?_
    ·simp only[zC,seval,@qaf ((k:Int)+1) (by omega)]
     all_goals rfl
    ·simp only[zC,seval,List.map_append]
     all_goals rfl
  ·have:k=l.length:=by omega
   subst this
   simp only[zC,seval,(show ¬(l.length:Int)<l.length by omega),List.take_length]
   refine⟨_,_,qc7 rfl ?_,rfl,rfl⟩
   simp only[zC,seval,qaz]
def qdy (s:qax):Bool:=(decide (0≤s.state)&&decide (s.state≤5))&&(if(s.state==4)=true then decide (0≤s.cpu)&&decide (s.cpu<64) else s.cpu==-1)&&(if(s.state==2)=true then decide (0≤s.on_)&&decide (s.on_≤1000000000000000) else s.on_==-1)
 && (s.by_==-1||((s.state==1||s.state==2)&&decide (0≤s.by_)&&decide (s.by_≤1000000000000000)))
theorem Qmq (s:qax):qba prog Gl 164 [.d s.toD] (.d (.bool (qdy s))):=by
 refine qba.of1 ?_
 refine qac func164 rfl rfl (by simp[ntmps164]) (qab rfl _ _ _ _ ?_)
 simp only[ntmps164,results164,qak,List.length_nil]
 simp only[zC,seval]
 refine ifC.mk (fun h1=>?_) (fun h1=>?_)
 ·refine⟨_,_,qap,?_,rfl⟩
  refine congrArg (fun b=>AV.d (D.bool b)) ?_
  unfold qdy
  cases e4:(s.state==4)<;>cases e2:(s.state==2)<;>simp_all<;>omega
 ·refine ifC.mk (fun h2=>?_) (fun h2=>?_)
  ·simp only[zC,seval,h2]
   refine⟨_,_,qap,?_,rfl⟩
   refine congrArg (fun b=>AV.d (D.bool b)) ?_
   unfold qdy
   cases e4:(s.state==4)<;>cases e2:(s.state==2)<;>simp_all<;>omega
  ·refine ifC.mk (fun h3=>?_) (fun h3=>?_)
   ·refine⟨_,_,qap,?_,rfl⟩
    refine congrArg (fun b=>AV.d (D.bool b)) ?_
    unfold qdy
    cases e4:(s.state==4)<;>cases e2:(s.state==2)<;>simp_all<;>omega
   ·refine ifC.mk (fun h4=>?_) (fun h4=>?_)
    ·simp only[zC,seval,h4]
     refine⟨_,_,qap,?_,rfl⟩
     refine congrArg (fun b=>AV.d (D.bool b)) ?_
     unfold qdy
     cases e4:(s.state==4)<;>cases e2:(s.state==2)<;>simp_all<;>omega
    ·refine ifC.mk (fun h5=>?_) (fun h5=>?_)
     ·refine⟨_,_,qap,?_,rfl⟩
      refine congrArg (fun b=>AV.d (D.bool b)) ?_
      unfold qdy
      cases e4:(s.state==4)<;>cases e2:(s.state==2)<;>simp_all<;>omega
     ·refine⟨_,_,qap,?_,rfl⟩
      refine congrArg (fun b=>AV.d (D.bool b)) ?_
      unfold qdy
      cases e4:(s.state==4)<;>cases e2:(s.state==2)<;>simp_all<;>omega
def Qdl (a b:qax):Bool:=a.state==b.state&&a.cpu==b.cpu&&a.on_==b.on_
theorem Qu3 (a b:qax):qba prog Gl 165 [.d a.toD,.d b.toD] (.d (.bool (Qdl a b))):=by
 refine qba.of2 ?_
 refine qac func165 rfl rfl (by simp[ntmps165]) (qab rfl _ _ _ _ ?_)
 simp only[ntmps165,results165,qak,List.length_nil]
 simp only[zC,seval]
 exact⟨_,_,qap,rfl,rfl⟩

def Qcd (ids:List Int) (x:Int):Int:=qel (fun y=>x==y) ids
def atU (ids:List Int) (l:List qax):Nat→Int
 | 0=>-1
 | k+1=>Qcd ids (l.getD k default).thread
def q6y (ids:List Int) (l:List qax) (k:Nat):Bool:=
 let s:=l.getD k default
 let i:=Qcd ids s.thread
 (i==atU ids l k&&(s.lo !=(l.getD (k-1) default).hi||Qdl s (l.getD (k-1) default)))||(i !=atU ids l k&&(i !=atU ids l k+1||s.lo !=0))
def uAt (ids:List Int) (l:List qax) (k:Nat):Int:=
 if Qcd ids (l.getD k default).thread<0 then 5 else if qgr (l.getD k default).lo (l.getD k default).hi=false then 2 else if qdy (l.getD k default)=false then 1
 else if q6y ids l k=true then 11 else 0
def qni (l:List qax) (k:Nat):Bool:=!((((k:Int)+1==(l.length:Int))||(l.getD (k+1) default).thread !=(l.getD k default).thread)&&(l.getD k default).hi !=(l.getD (l.length-1) default).hi)
def qga (ths:List qaj) (l:List qax):Int:=
 if qa5 (uAt (qh9 ths) l) l.length≠0 then qa5 (uAt (qh9 ths) l) l.length else if l.length=0 then 0 else if(List.range l.length).all (qni l)=false then 11
 else if atU (qh9 ths) l l.length+1=((qh9 ths).length:Int) then 0 else 11
theorem q8b (ids:List Int) (x:Int):-1≤Qcd ids x:=qob _ _
theorem qu3 {α:Type} (p:α→Bool):∀l:List α,qel p l<l.length
 | []=>by simp[qel]
 | b::r=>by
  have:=qu3 p r
  unfold qel
  rw[List.length_cons]
  split
  ·omega
  ·split<;>omega
theorem Qc6 (ids:List Int) (l:List qax):∀k,-1≤atU ids l k
 | 0=>by simp[atU]
 | k+1=>q8b _ _
theorem Qc5 (ids:List Int) (l:List qax):∀k,atU ids l k<ids.length
 | 0=>by simp[atU];omega
 | k+1=>qu3 _ _
set_option maxHeartbeats 2000000 in
theorem q5u (ths:List qaj) (hth:ths.length<1000000) (l:List qax) (hl:l.length<1000000):qba prog Gl 102 [.d (.sl (ths.map qaj.toD)),.d (.sl (l.map qax.toD))] (.d (.int .i64 (qga ths l))):=by
 refine qba.of2 ?_
 refine qac func102 rfl rfl (by simp[ntmps102]) (qab rfl _ _ _ _ ?_)
 simp only[ntmps102,results102,qak,List.length_nil]
 simp only[zC,seval]
 refine qad (Qec ths hth) ?_
 obtain⟨ids,hids⟩:∃ids,ids=qh9 ths:=⟨_,rfl⟩
 have hil:ids.length<1000000:=by
  have:=qjx ths ths.length
  rw[List.take_length] at this
  rw[hids];omega
 obtain⟨F,hF⟩:∃F,F=qga ths l:=⟨_,rfl⟩
 rw[←hF]
 rw[qga,←hids] at hF
 simp only[zC,seval]
 refine qan l.length (fun k=>[(1,.d (.sl (l.map qax.toD))),(5,.d (.sl (ids.map (D.int .i64)))),(6,.d (.int .i64 (atU ids l k))),(16,.d (.sl (l.map qax.toD))),(17,.d (.int .i64 l.length)),(18,.d (.int .i64 k))]) (fun _=>[]) (fun k=>qa5 (uAt ids l) k=0) rfl ?_ ?_
 ·refine qaa [] [] rfl List.nodup_nil ?_ rfl
  simp only[zC,seval,Int.cast_ofNat_Int,atU,←hids]
 ·intro k hi hk
  by_cases h:k<l.length
  ·have hb:∀e,uAt ids l k=e→e≠0→F=e:=fun e h1 h2=>by
    have:=qbu hi (by rw[h1];exact h2) h
    rw[hF,this,h1,if_pos h2]
   obtain⟨b,eb⟩:∃b,b=l.getD k default:=⟨_,rfl⟩
   simp only[zC,seval,(show(k:Int)<l.length by omega),h,qah _ _ _ (show k<l.length by omega),←eb]
   repeat((with_reducible apply aI);exact sdp)
   refine qad (Qmx ids b.thread hil) ?_
   obtain⟨i,ei⟩:∃i,i=Qcd ids b.thread:=⟨_,rfl⟩
   rw[show qel (fun y=>b.thread==y) ids=i from by rw[ei];rfl]
   have hi1:=q8b ids b.thread
   have hi2:Qcd ids b.thread<ids.length:=qu3 _ _
   rw[←ei] at hi1 hi2
   have hu:uAt ids l k=if i<0 then 5 else if qgr b.lo b.hi=false then 2 else if qdy b=false then 1 else if q6y ids l k=true then 11 else 0:=by rw[uAt,←eb,←ei]
   simp only[zC,seval]
   by_cases h1:i<0
   ·rw[if_pos h1] at hu
    simp only[zC,seval,(show i<0 by omega)]
    refine⟨_,_,qap,?_,rfl⟩
    rw[hb 5 hu (by omega)]
   ·rw[if_neg h1] at hu
    simp only[zC,seval,(show ¬i<0 by omega)]
    refine qad (q1p _ _) ?_
    cases h2:qgr b.lo b.hi with
    | false=>
     simp only[zC,seval,Bool.not_false]
     refine⟨_,_,qap,?_,rfl⟩
     rw[if_pos h2] at hu
     rw[hb 2 hu (by omega)]
    | true=>
     simp only[zC,seval,Bool.not_true]
     rw[if_neg (by rw[h2];simp)] at hu
     refine qad (Qmq _) ?_
     cases h3:qdy b with
     | false=>
      simp only[zC,seval,Bool.not_false]
      refine⟨_,_,qap,?_,rfl⟩
      rw[if_pos h3] at hu
      rw[hb 1 hu (by omega)]
     | true=>
      simp only[zC,seval,Bool.not_true]
      rw[if_neg (by rw[h3];simp)] at hu
      have hge:=Qc6 ids l k
      have hlt:=Qc5 ids l k
      by_cases h4:i=atU ids l k
      ·have hk0:0<k:=by
        rcases Nat.eq_zero_or_pos k with h0|h0
        ·subst h0;simp only[atU] at h4;omega
        ·exact h0
       have e1:IntKind.i64.wrap ((k:Int)-1)=((k-1:Nat):Int):=by rw[qbh (by omega) (by omega)];omega
       obtain⟨a,ea⟩:∃a,a=l.getD (k-1) default:=⟨_,rfl⟩
       have e5:(i==atU ids l k)=true:=by simpa using h4
       have e6:(i !=atU ids l k)=false:=by simpa using h4
       have ho:q6y ids l k=(b.lo !=a.hi||Qdl b a):=by
        unfold q6y;simp only[←eb,←ea,←ei,e5,e6,Bool.true_and,Bool.false_and,Bool.or_false]
       simp only[zC,seval,e5,e1,(show((k-1:Nat):Int)<l.length by omega),(show k-1<l.length by omega),qah _ _ _ (show k-1<l.length by omega),←ea]
       repeat((with_reducible apply aI);exact sdp)
       refine qay (fun _=>Qu3 _ _) ?_
       simp only[zC,seval]
       repeat((with_reducible apply aI);exact sdp)
       refine ifC.mk (fun h5=>?_) (fun h5=>?_)
       ·refine⟨_,_,qap,?_,rfl⟩
        rw[if_pos (by rw[ho];exact h5)] at hu
        rw[hb 11 hu (by omega)]
       ·rw[if_neg (by rw[ho,h5];simp)] at hu
        simp only[zC,seval,e6]
        repeat((with_reducible apply aI);exact sdp)
        refine⟨qa4 hi hu,?_⟩
        refine qaa [] [] rfl List.nodup_nil ?_ rfl
        simp only[zC,seval,@qaf ((k:Int)+1) (by omega),atU,←eb,←ei]
      ·have e5:(i==atU ids l k)=false:=by simpa using h4
       have e6:(i !=atU ids l k)=true:=by simpa using h4
       have ho:q6y ids l k=(i !=atU ids l k+1||b.lo !=0):=by
        unfold q6y;simp only[←eb,←ei,e5,e6,Bool.true_and,Bool.false_and,Bool.false_or]
       by_cases hk0:0<k
       ·have e1:IntKind.i64.wrap ((k:Int)-1)=((k-1:Nat):Int):=by rw[qbh (by omega) (by omega)];omega
        simp only[zC,seval,e5,e1,(show((k-1:Nat):Int)<l.length by omega),(show k-1<l.length by omega),qah _ _ _ (show k-1<l.length by omega)]
        repeat((with_reducible apply aI);exact sdp)
        refine qay (v:=.d (.bool false)) (fun h=>by cases h) ?_
        simp only[zC,seval,e6,@qaf (atU ids l k+1) (by omega)]
        repeat((with_reducible apply aI);exact sdp)
        refine ifC.mk (fun h5=>?_) (fun h5=>?_)
        ·refine⟨_,_,qap,?_,rfl⟩
         rw[if_pos (by rw[ho];exact h5)] at hu
         rw[hb 11 hu (by omega)]
        ·rw[if_neg (by rw[ho,h5];simp)] at hu
         refine⟨qa4 hi hu,?_⟩
         refine qaa [] [] rfl List.nodup_nil ?_ rfl
         simp only[zC,seval,@qaf ((k:Int)+1) (by omega),atU,←eb,←ei]
       ·have e0:(IntKind.i64.wrap ((k:Int)-1)).toNat=0:=by rw[qbh (by omega) (by omega)];omega
        simp only[zC,seval,e5,e0,qah _ _ _ (show 0<l.length by omega)]
        repeat((with_reducible apply aI);exact sdp)
        refine qay (v:=.d (.bool false)) (fun h=>by cases h) ?_
        simp only[zC,seval,e0,qah _ _ _ (show 0<l.length by omega)]
        simp only[zC,seval,e6,@qaf (atU ids l k+1) (by omega)]
        repeat((with_reducible apply aI);exact sdp)
        refine ifC.mk (fun h5=>?_) (fun h5=>?_)
        ·refine⟨_,_,qap,?_,rfl⟩
         rw[if_pos (by rw[ho];exact h5)] at hu
         rw[hb 11 hu (by omega)]
        ·rw[if_neg (by rw[ho,h5];simp)] at hu
         refine⟨qa4 hi hu,?_⟩
         refine qaa [] [] rfl List.nodup_nil ?_ rfl
         simp only[zC,seval,@qaf ((k:Int)+1) (by omega),atU,←eb,←ei]
  ·simp only[zC,seval,(show ¬(k:Int)<l.length by omega)]
   have:k=l.length:=by omega
   subst this
   rw[hi,if_neg (by simp)] at hF
   by_cases h0:l.length=0
   ·simp only[zC,seval,h0,Int.cast_ofNat_Int]
    refine⟨_,_,qap,?_,rfl⟩
    rw[hF,if_pos h0]
   ·rw[if_neg h0] at hF
    have e1:IntKind.i64.wrap ((l.length:Int)-1)=((l.length-1:Nat):Int):=by rw[qbh (by omega) (by omega)];omega
    simp only[zC,seval,qv0 (show ¬((l.length:Int)=0) by omega),e1,(show((l.length-1:Nat):Int)<l.length by omega),(show l.length-1<l.length by omega),qah _ _ _ (show l.length-1<l.length by omega)]
    repeat((with_reducible apply aI);exact sdp)
    refine qan l.length (fun k=>[(1,.d (.sl (l.map qax.toD))),(5,.d (.sl (ids.map (D.int .i64)))),(6,.d (.int .i64 (atU ids l l.length))),(10,.d (.int .i64 (l.getD (l.length-1) default).hi)),(94,.d (.sl (l.map qax.toD))),(95,.d (.int .i64 l.length)),(96,.d (.int .i64 k))]) (fun _=>[]) (fun k=>(List.range k).all (qni l)=true) rfl ?_ ?_
    ·refine qaa [] [] rfl List.nodup_nil ?_ rfl
     simp only[zC,seval,Int.cast_ofNat_Int]
    ·intro k hj hk
     by_cases h:k<l.length
     ·obtain⟨b,eb⟩:∃b,b=l.getD k default:=⟨_,rfl⟩
      have hbad:qni l k=false→F=11:=fun h1=>by rw[hF,if_pos (qb8 h h1)]
      by_cases hL:k+1=l.length
      ·have eL:((k:Int)+1==(l.length:Int))=true:=Qqq (show(k:Int)+1=l.length by omega)
       have hat:qni l k=!(b.hi !=(l.getD (l.length-1) default).hi):=by unfold qni;rw[eL,←eb];simp
       simp only[zC,seval,(show(k:Int)<l.length by omega),h,qah _ _ _ (show k<l.length by omega),←eb,@qaf ((k:Int)+1) (by omega),eL]
       repeat((with_reducible apply aI);exact sdp)
       refine ifC.mk (fun h5=>?_) (fun h5=>?_)
       ·refine⟨_,_,qap,?_,rfl⟩
        rw[hbad (by rw[hat,h5];rfl)]
       ·refine⟨by rw[qck,hj,hat,h5];rfl,?_⟩
        refine qaa [] [] rfl List.nodup_nil ?_ rfl
        simp only[zC,seval,@qaf ((k:Int)+1) (by omega)]
      ·have eL:((k:Int)+1==(l.length:Int))=false:=qv0 (show ¬((k:Int)+1=l.length) by omega)
       have hat:qni l k=!((l.getD (k+1) default).thread !=b.thread&&b.hi !=(l.getD (l.length-1) default).hi):=by unfold qni;rw[eL,←eb,Bool.false_or]
       have e3:((k:Int)+1).toNat=k+1:=by omega
       simp only[zC,seval,(show(k:Int)<l.length by omega),h,qah _ _ _ (show k<l.length by omega),←eb,@qaf ((k:Int)+1) (by omega),eL,e3,(show(0:Int)≤(k:Int)+1 by omega),(show(k:Int)+1<l.length by omega),(show k+1<l.length by omega),qah _ _ _ (show k+1<l.length by omega)]
       repeat((with_reducible apply aI);exact sdp)
       refine ifC.mk (fun h5=>?_) (fun h5=>?_)
       ·refine⟨_,_,qap,?_,rfl⟩
        rw[hbad (by rw[hat,h5];rfl)]
       ·refine⟨by rw[qck,hj,hat,h5];rfl,?_⟩
        refine qaa [] [] rfl List.nodup_nil ?_ rfl
        simp only[zC,seval,@qaf ((k:Int)+1) (by omega)]
     ·simp only[zC,seval,(show ¬(k:Int)<l.length by omega)]
      have:k=l.length:=by omega
      subst this
      rw[if_neg (by rw[hj];simp)] at hF
      have hge:=Qc6 ids l l.length
      have hlt:=Qc5 ids l l.length
      simp only[zC,seval,@qaf (atU ids l l.length+1) (by omega)]
      refine ifC.mk (fun h5=>?_) (fun h5=>?_)
      ·refine⟨_,_,qap,?_,rfl⟩
       rw[hF,if_neg (by simpa using h5)]
      ·refine⟨_,_,qap,?_,rfl⟩
       rw[hF,if_pos (by simpa using h5)]

def qey (t:qaw):Int:=if qcj t.threads≠0 then qcj t.threads else
 if qcp (qfa t.slices) (qeb t.threads) (fun x=>x.thread) t.slices≠0 then qcp (qfa t.slices) (qeb t.threads) (fun x=>x.thread) t.slices else
 if qga t.threads t.states≠0 then qga t.threads t.states else
 if qcp (qcp (qjv t.flows) (qeb t.threads) (fun x=>x.ft) t.flows) (qeb t.threads) (fun x=>x.tt) t.flows≠0 then qcp (qcp (qjv t.flows) (qeb t.threads) (fun x=>x.ft) t.flows) (qeb t.threads) (fun x=>x.tt) t.flows else
 if qcp (qe2 t.samples) (qeb t.threads) (fun x=>x.thread) t.samples≠0 then qcp (qe2 t.samples) (qeb t.threads) (fun x=>x.thread) t.samples else
 if qix t.steps≠0 then qix t.steps else
 if qcp (bkF t.blocks) (qeb t.threads) (fun x=>x.thread) t.blocks≠0 then qcp (bkF t.blocks) (qeb t.threads) (fun x=>x.thread) t.blocks else q5j (qeb t.threads) t.lost
theorem q1k (t:qaw) (ht:t.Few) (h:qcj t.threads≠0):qba prog Gl 98 [.d t.toD] (.tup [.d (.raw (.map none)),.d (.int .i64 (qcj t.threads))]):=by
 refine qba.of1t2 ((q5t t ht).mono fun r s hr=>?_)
 rw[if_neg h] at hr
 exact hr
theorem q5s (t:qaw) (ht:t.Few) (h:qcj t.threads=0) (σ:Sto):qal prog Gl 98 [.d t.toD] σ (fun r s=>r=.tup [.mapr σ.length,.d (.int .i64 0)]∧s=σ++[.map (some .i64) (mapOf t.threads)]):=by
 refine(Qjh (P:=prog) (Gl:=Gl) (f:=98) (args:=[t.toD]) (B:=.map (some .i64) (mapOf t.threads)) (r:=.tup [.mapr 0,.d (.int .i64 0)]) (qgt _) ((q5t t ht).mono fun r s hr=>?_) σ).mono fun r s hr=>?_
 ·rw[if_pos h] at hr
  exact hr
 ·obtain⟨rfl,rfl⟩:=hr
  exact⟨rfl,rfl⟩
theorem Qmc (t:qaw) (ht:t.Few):qba prog Gl 53 [.d t.toD] (.d (.int .i64 (qey t))):=by
 refine qba.of1 ?_
 obtain⟨F,hF⟩:∃F,F=qey t:=⟨_,rfl⟩
 rw[←hF]
 rw[qey] at hF
 have hst:=qgt t.threads
 have hf:=qqe t.threads
 refine qac func53 rfl rfl (by simp[ntmps53]) (qab rfl _ _ _ _ ?_)
 simp only[ntmps53,results53,qak,List.length_nil]
 simp only[zC,seval]
 by_cases hT:qcj t.threads=0
 ·rw[if_neg (by rw[hT];simp)] at hF
  refine qa1 ((q5s t ht hT _).mono fun r s hr=>?_)
  obtain⟨rfl,rfl⟩:=hr
  simp only[zC,seval]
  repeat((with_reducible apply aI);exact sdp)
  refine qad (q5v _ ht.slices) ?_
  simp only[zC,seval]
  refine qd5 1 (q5y _ _ Qh3 _ _ _ hst hf _ ht.slices) (fun s=>rfl) (by rfl) hst ?_
  simp only[zC,seval]
  repeat((with_reducible apply aI);exact sdp)
  refine ifC.mk (fun h1=>?_) (fun h1=>?_)
  ·have h1:=bne_iff_ne.1 h1
   refine⟨_,_,qap,?_,rfl⟩
   rw[hF,if_pos h1]
  ·have h1:qcp (qfa t.slices) (qeb t.threads) (fun x=>x.thread) t.slices=0:=by simpa using h1
   rw[if_neg (by rw[h1];simp)] at hF
   repeat((with_reducible apply aI);exact sdp)
   refine qad (q5u _ ht.threads _ ht.states) ?_
   simp only[zC,seval]
   refine ifC.mk (fun h2=>?_) (fun h2=>?_)
   ·have h2:=bne_iff_ne.1 h2
    refine⟨_,_,qap,?_,rfl⟩
    rw[hF,if_pos h2]
   ·have h2:qga t.threads t.states=0:=by simpa using h2
    rw[if_neg (by rw[h2];simp)] at hF
    repeat((with_reducible apply aI);exact sdp)
    refine qad (q7w _ ht.flows) ?_
    simp only[zC,seval]
    refine qd5 1 (quv _ _ Qh2 _ _ _ hst hf _ ht.flows) (fun s=>rfl) (by rfl) hst ?_
    simp only[zC,seval]
    repeat((with_reducible apply aI);exact sdp)
    refine qd5 1 (quv _ _ Qh1 _ _ _ hst hf _ ht.flows) (fun s=>rfl) (by rfl) hst ?_
    simp only[zC,seval]
    repeat((with_reducible apply aI);exact sdp)
    refine ifC.mk (fun h3=>?_) (fun h3=>?_)
    ·have h3:=bne_iff_ne.1 h3
     refine⟨_,_,qap,?_,rfl⟩
     rw[hF,if_pos h3]
    ·have h3:qcp (qcp (qjv t.flows) (qeb t.threads) (fun x=>x.ft) t.flows) (qeb t.threads) (fun x=>x.tt) t.flows=0:=by simpa using h3
     rw[if_neg (by rw[h3];simp)] at hF
     repeat((with_reducible apply aI);exact sdp)
     refine qad (q1l _ ht.sst ht.samples) ?_
     simp only[zC,seval]
     refine qd5 1 (q1m _ _ Qh0 _ _ _ hst hf _ ht.samples) (fun s=>rfl) (by rfl) hst ?_
     simp only[zC,seval]
     repeat((with_reducible apply aI);exact sdp)
     refine ifC.mk (fun h4=>?_) (fun h4=>?_)
     ·have h4:=bne_iff_ne.1 h4
      refine⟨_,_,qap,?_,rfl⟩
      rw[hF,if_pos h4]
     ·have h4:qcp (qe2 t.samples) (qeb t.threads) (fun x=>x.thread) t.samples=0:=by simpa using h4
      rw[if_neg (by rw[h4];simp)] at hF
      repeat((with_reducible apply aI);exact sdp)
      refine qad (q7s _ ht.steps) ?_
      simp only[zC,seval]
      refine ifC.mk (fun h5=>?_) (fun h5=>?_)
      ·have h5:=bne_iff_ne.1 h5
       refine⟨_,_,qap,?_,rfl⟩
       rw[hF,if_pos h5]
      ·have h5:qix t.steps=0:=by simpa using h5
       rw[if_neg (by rw[h5];simp)] at hF
       repeat((with_reducible apply aI);exact sdp)
       refine qad (Qio _ ht.bst ht.blocks) ?_
       simp only[zC,seval]
       refine qd5 1 (q5z _ _ Qhz _ _ _ hst hf _ ht.blocks) (fun s=>rfl) (by rfl) hst ?_
       simp only[zC,seval]
       repeat((with_reducible apply aI);exact sdp)
       refine ifC.mk (fun h6=>?_) (fun h6=>?_)
       ·have h6:=bne_iff_ne.1 h6
        refine⟨_,_,qap,?_,rfl⟩
        rw[hF,if_pos h6]
       ·have h6:qcp (bkF t.blocks) (qeb t.threads) (fun x=>x.thread) t.blocks=0:=by simpa using h6
        rw[if_neg (by rw[h6];simp)] at hF
        repeat((with_reducible apply aI);exact sdp)
        refine qd5 1 (Qmm _ _ hst hf _ ht.lost) (fun s=>rfl) (by rfl) hst ?_
        simp only[zC,seval]
        repeat((with_reducible apply aI);exact sdp)
        refine⟨_,_,qap,?_,rfl⟩
        rw[hF]
 ·rw[if_pos hT] at hF
  refine qad (q1k t ht hT) ?_
  simp only[zC,seval]
  repeat((with_reducible apply aI);exact sdp)
  refine ifC.mk (fun h1=>?_) (fun h1=>?_)
  ·refine⟨_,_,qap,?_,rfl⟩
   rw[hF]
  ·exact absurd (by simpa using h1) hT
def qdo (t:qaw):Int:=if qey t≠0 then qey t else if(decide (t.lo<0)||decide (t.hi<t.lo)||decide (1000000000000<t.hi))=true then 2 else if qm9 t=true then 10 else 0
theorem q5r (t:qaw) (ht:t.Few):qba prog Gl 25 [.d t.toD] (.d (.int .i64 (qdo t))):=by
 refine qba.of1 ?_
 obtain⟨F,hF⟩:∃F,F=qdo t:=⟨_,rfl⟩
 rw[←hF]
 rw[qdo] at hF
 refine qac func25 rfl rfl (by simp[ntmps25]) (qab rfl _ _ _ _ ?_)
 simp only[ntmps25,results25,qak,List.length_nil]
 simp only[zC,seval]
 refine qad (Qmc t ht) ?_
 simp only[zC,seval]
 refine ifC.mk (fun h1=>?_) (fun h1=>?_)
 ·have h1:=bne_iff_ne.1 h1
  refine⟨_,_,qap,?_,rfl⟩
  rw[hF,if_pos h1]
 ·have h1:qey t=0:=by simpa using h1
  rw[if_neg (by rw[h1];simp)] at hF
  repeat((with_reducible apply aI);exact sdp)
  refine ifC.mk (fun h2=>?_) (fun h2=>?_)
  ·refine⟨_,_,qap,?_,rfl⟩
   rw[hF,if_pos h2]
  ·rw[if_neg (by rw[h2];simp)] at hF
   refine qad (Qh5 t ht) ?_
   simp only[zC,seval]
   refine ifC.mk (fun h3=>?_) (fun h3=>?_)
   ·refine⟨_,_,qap,?_,rfl⟩
    rw[hF,if_pos h3]
   ·refine⟨_,_,qap,?_,rfl⟩
    rw[hF,if_neg (by rw[h3];simp)]

theorem zU:type_of% (aI @zC (aI @qq7 @qq8)):=aI @zC (aI @qq7 @qq8)
def eqS (x:List UInt8):List UInt8→Bool:=fun y=>y==x
theorem Qrl (xs:List (List UInt8)) (x:List UInt8) (hl:xs.length<2000000) (B:Blk) (hB:qdw 1 (xs.map .str) B):qal prog Gl 62 [.osl 0 0 xs.length,.d (.str x)] [B] (fun r s=>r=.d (.int .i64 (qel (eqS x) xs))∧s=[B]):=by
 rcases hB with rfl|rfl
 ·refine qac func62 rfl rfl (by simp[ntmps62]) (qab rfl _ _ _ _ ?_)
  simp only[ntmps62,results62,qak,List.length_nil]
  simp only[zU,seval]
  refine qan xs.length (fun k=>[(0,.osl 0 0 xs.length),(1,.d (.str x)),(5,.d (.int .i64 k))]) (fun _=>[.arr 1 (xs.map .str)]) (fun k=>(xs.take k).any (eqS x)=false) rfl ?_ ?_
  ·refine qaa [] [0] rfl (by simp) ?_ rfl
   simp only[zU,seval]
   all_goals rfl
  ·intro k hi hk
   by_cases h:k<xs.length
   ·have hs:=qca (eqS x) xs k h
    simp only[zU,seval,(show(k:Int)<xs.length by omega),h,qah _ _ _ (show k<xs.length by omega)]
    repeat((with_reducible apply aI);exact sdp)
    refine ifC.mk (fun hc=>?_) (fun hc=>?_)
    ·refine⟨_,_,qai [] [0] rfl (by simp) (show qbk _ _ _=AV.d _ from rfl) rfl,?_,rfl⟩
     rw[qd8 h hi hc]
    ·refine⟨by rw[hs,hi,show eqS x (xs.getD k default)=false from hc];rfl,?_⟩
     refine qaa [] [0] rfl (by simp) ?_ rfl
     simp only[zU,seval,@qaf ((k:Int)+1) (by omega)]
     all_goals rfl
   ·simp only[zU,seval,(show ¬(k:Int)<xs.length by omega)]
    have:k=xs.length:=by omega
    subst this
    rw[List.take_length] at hi
    refine⟨_,_,qai [] [0] rfl (by simp) (show qbk _ _ _=AV.d _ from rfl) rfl,?_,rfl⟩
    rw[qcx hi]
 ·refine qac func62 rfl rfl (by simp[ntmps62]) (qab rfl _ _ _ _ ?_)
  simp only[ntmps62,results62,qak,List.length_nil]
  simp only[zU,seval]
  refine qan xs.length (fun k=>[(0,.osl 0 0 xs.length),(1,.d (.str x)),(5,.d (.int .i64 k))]) (fun _=>[.frz 1 (xs.map .str)]) (fun k=>(xs.take k).any (eqS x)=false) rfl ?_ ?_
  ·refine qaa [] [0] rfl (by simp) ?_ rfl
   simp only[zU,seval]
   all_goals rfl
  ·intro k hi hk
   by_cases h:k<xs.length
   ·have hs:=qca (eqS x) xs k h
    simp only[zU,seval,(show(k:Int)<xs.length by omega),h,qah _ _ _ (show k<xs.length by omega)]
    repeat((with_reducible apply aI);exact sdp)
    refine ifC.mk (fun hc=>?_) (fun hc=>?_)
    ·refine⟨_,_,qai [] [0] rfl (by simp) (show qbk _ _ _=AV.d _ from rfl) rfl,?_,rfl⟩
     rw[qd8 h hi hc]
    ·refine⟨by rw[hs,hi,show eqS x (xs.getD k default)=false from hc];rfl,?_⟩
     refine qaa [] [0] rfl (by simp) ?_ rfl
     simp only[zU,seval,@qaf ((k:Int)+1) (by omega)]
     all_goals rfl
   ·simp only[zU,seval,(show ¬(k:Int)<xs.length by omega)]
    have:k=xs.length:=by omega
    subst this
    rw[List.take_length] at hi
    refine⟨_,_,qai [] [0] rfl (by simp) (show qbk _ _ _=AV.d _ from rfl) rfl,?_,rfl⟩
    rw[qcx hi]
theorem Qmf (xs:List (List UInt8)) (x:List UInt8) (hl:xs.length<1000000):qba prog Gl 62 [.d (.sl (xs.map .str)),.d (.str x)] (.d (.int .i64 (qel (eqS x) xs))):=by
 refine qba.of2 ?_
 refine qac func62 rfl rfl (by simp[ntmps62]) (qab rfl _ _ _ _ ?_)
 simp only[ntmps62,results62,qak,List.length_nil]
 simp only[zU,seval]
 refine qan xs.length (fun k=>[(0,.d (.sl (xs.map .str))),(1,.d (.str x)),(5,.d (.int .i64 k))]) (fun _=>[]) (fun k=>(xs.take k).any (eqS x)=false) rfl ?_ ?_
 ·refine qaa [] [] rfl List.nodup_nil ?_ rfl
  simp only[zU,seval]
  all_goals rfl
 ·intro k hi hk
  by_cases h:k<xs.length
  ·have hs:=qca (eqS x) xs k h
   simp only[zU,seval,(show(k:Int)<xs.length by omega),h,qah _ _ _ (show k<xs.length by omega)]
   repeat((with_reducible apply aI);exact sdp)
   refine ifC.mk (fun hc=>?_) (fun hc=>?_)
   ·refine⟨_,_,qap,?_,rfl⟩
    rw[qd8 h hi hc]
   ·refine⟨by rw[hs,hi,show eqS x (xs.getD k default)=false from hc];rfl,?_⟩
    refine qaa [] [] rfl List.nodup_nil ?_ rfl
    simp only[zU,seval,@qaf ((k:Int)+1) (by omega)]
    all_goals rfl
  ·simp only[zU,seval,(show ¬(k:Int)<xs.length by omega)]
   have:k=xs.length:=by omega
   subst this
   rw[List.take_length] at hi
   refine⟨_,_,qap,?_,rfl⟩
   rw[qcx hi]
theorem Qm1 {α:Type} (p:α→Bool) (l:List α):decide (qel p l<0)=!l.any p:=by
 rw[←qdv]
 cases h:decide (0≤qel p l)<;>simp at h ⊢<;>omega
def hid (l:List qao) (what x:List UInt8):Bool:=qns what x l==q68
def qe1 (l:List qao) (what:List UInt8) (out:List (List UInt8)) (x:List UInt8):List (List UInt8):=if(hid l what x&&!out.any (eqS x))=true then out++[x] else out
def qfz (l:List qao) (what:List UInt8) (s:List (List UInt8)):List (List UInt8):=s.foldl (qe1 l what) []
theorem qoc {α β:Type} [Inhabited α] (f:β→α→β) (b:β) (l:List α) (k:Nat) (h:k<l.length):(l.take (k+1)).foldl f b=f ((l.take k).foldl f b) (l.getD k default):=by
 rw[qa0 l k h,List.foldl_append];rfl
theorem q96 (l:List qao) (what:List UInt8):∀(s out:List (List UInt8)),(s.foldl (qe1 l what) out).length≤out.length+s.length
 | [],out=>by simp
 | x::s,out=>by
  have:=q96 l what s (qe1 l what out x)
  have h2:(qe1 l what out x).length≤out.length+1:=by
   unfold qe1;split<;>simp
  simp only[List.foldl_cons,List.length_cons];omega
theorem qnx (l:List qao) (what:List UInt8) (s:List (List UInt8)):(qfz l what s).length≤s.length:=by
 have:=q96 l what s []
 simpa[qfz] using this
theorem qjr (l:List qao) (what:List UInt8) (s:List (List UInt8)) (hl:l.length<1000000) (hs:s.length<1000000):qba prog Gl 39 [.d (.sl (l.map qao.toD)),.d (.str what),.d (.sl (s.map .str))] (.d (.sl ((qfz l what s).map .str))):=by
 refine qba.of3 ?_
 refine qac func39 rfl rfl (by simp[ntmps39]) (qab rfl _ _ _ _ ?_)
 simp only[ntmps39,results39,qak,List.length_nil]
 simp only[zU,seval]
 refine qan s.length (fun k=>[(0,.d (.sl (l.map qao.toD))),(1,.d (.str what)),(2,.d (.sl (s.map .str))),(7,.osl 0 0 (qfz l what (s.take k)).length),(8,.d (.int .i64 k))]) (fun k=>[.arr 1 ((qfz l what (s.take k)).map .str)]) (fun _=>True) trivial ?_ ?_
 ·refine(qcw 7 1 rfl).trans ?_
  refine qaa [] [0] rfl (by simp) ?_ rfl
  simp only[zU,seval]
  all_goals rfl
 ·intro k _ hk
  have hyl:=qnx l what (s.take k)
  rw[List.length_take] at hyl
  by_cases h:k<s.length
  ·have hst:qfz l what (s.take (k+1))=qe1 l what (qfz l what (s.take k)) (s.getD k default):=qoc _ _ _ _ h
   obtain⟨ys,hys⟩:∃ys,ys=qfz l what (s.take k):=⟨_,rfl⟩
   obtain⟨x,hx⟩:∃x,x=s.getD k default:=⟨_,rfl⟩
   rw[←hys] at hst hyl ⊢
   rw[←hx] at hst
   simp only[zU,seval,(show(k:Int)<s.length by omega),h,qah _ _ _ (show k<s.length by omega)]
   repeat((with_reducible apply aI);exact sdp)
   refine qad (qfq l what _ hl) ?_
   simp only[zU,seval,(show(k:Int)<s.length by omega),h,qah _ _ _ (show k<s.length by omega)]
   repeat((with_reducible apply aI);exact sdp)
   refine q6r 0 (fun B hB=>Qrl ys _ (by omega) B hB) (fun _=>rfl) (by rfl) ?_
   simp only[zU,seval,Qm1]
   repeat((with_reducible apply aI);exact sdp)
   refine ifC.mk (fun hc=>?_) (fun hc=>?_)
   ·have hc:(hid l what x&&!ys.any (eqS x))=true:=by rw[hx];exact hc
    rw[qe1,if_pos hc] at hst
    simp only[zU,seval,qaz,(show(k:Int)<s.length by omega),h,qah _ _ _ (show k<s.length by omega)]
    repeat((with_reducible apply aI);exact sdp)
    rw[hst]
    refine qaa [] [2] rfl (by simp) ?_ ?_
    ·simp only[zU,seval,@qaf ((k:Int)+1) (by omega)]
     all_goals rfl
    ·rw[List.map_append,←hx];rfl
   ·have hc:(hid l what x&&!ys.any (eqS x))=false:=by rw[hx];exact hc
    rw[qe1,if_neg (by rw[hc];simp)] at hst
    rw[hst]
    refine qaa [] [0] rfl (by simp) ?_ rfl
    simp only[zU,seval,@qaf ((k:Int)+1) (by omega)]
    all_goals rfl
  ·have:k=s.length:=by omega
   subst this
   simp only[zU,seval,(show ¬(s.length:Int)<s.length by omega),List.take_length]
   refine⟨_,_,qc7 rfl ?_,rfl,rfl⟩
   simp only[zU,seval,qaz]
def qdq (l:List qao) (what x:List UInt8):Bool:=(qns what x l==qhx)&&q2e x qfx
def qfh (l:List qao) (what:List UInt8) (s:List (List UInt8)):Bool:=!(qfz l what s).isEmpty&&s.any (qdq l what)
theorem Qee (l:List qao) (what:List UInt8) (s:List (List UInt8)) (hl:l.length<1000000) (hs:s.length<1000000):qba prog Gl 38 [.d (.sl (l.map qao.toD)),.d (.str what),.d (.sl (s.map .str))] (.d (.bool (qfh l what s))):=by
 refine qba.of3 ?_
 refine qac func38 rfl rfl (by simp[ntmps38]) (qab rfl _ _ _ _ ?_)
 simp only[ntmps38,results38,qak,List.length_nil]
 simp only[zU,seval]
 refine qad (qjr l what s hl hs) ?_
 simp only[zU,seval]
 repeat((with_reducible apply aI);exact sdp)
 refine ifC.mk (fun h0=>?_) (fun h0=>?_)
 ·have h0:qfz l what s=[]:=by simpa using h0
  refine⟨_,_,qap,?_,rfl⟩
  rw[qfh,h0];rfl
 have h0:(qfz l what s).isEmpty=false:=by
  cases e:qfz l what s with
  | nil=>rw[e] at h0;simp at h0
  | cons a b=>rfl
 refine qan s.length (fun k=>[(0,.d (.sl (l.map qao.toD))),(1,.d (.str what)),(2,.d (.sl (s.map .str))),(7,.d (.int .i64 k))]) (fun _=>[]) (fun k=>(s.take k).any (qdq l what)=false) rfl ?_ ?_
 ·refine qaa [] [] rfl List.nodup_nil ?_ rfl
  simp only[zU,seval]
  all_goals rfl
 ·intro k hi hk
  by_cases h:k<s.length
  ·have hs:=qca (qdq l what) s k h
   rw[hi,Bool.false_or] at hs
   simp only[zU,seval,(show(k:Int)<s.length by omega),h,qah _ _ _ (show k<s.length by omega)]
   repeat((with_reducible apply aI);exact sdp)
   refine qad (qfq l what _ hl) ?_
   simp only[zU,seval,(show(k:Int)<s.length by omega),h,qah _ _ _ (show k<s.length by omega)]
   repeat((with_reducible apply aI);exact sdp)
   refine qay (fun _=>Qb5 _ _) ?_
   simp only[zU,seval]
   repeat((with_reducible apply aI);exact sdp)
   refine ifC.mk (fun hc=>?_) (fun hc=>?_)
   ·refine⟨_,_,qap,?_,rfl⟩
    rw[qfh,h0,Qc7 (qdq l what) s k h hc];rfl
   ·refine⟨by rw[hs];exact hc,?_⟩
    refine qaa [] [] rfl List.nodup_nil ?_ rfl
    simp only[zU,seval,@qaf ((k:Int)+1) (by omega)]
    all_goals rfl
  ·simp only[zU,seval,(show ¬(k:Int)<s.length by omega)]
   have:k=s.length:=by omega
   subst this
   rw[List.take_length] at hi
   refine⟨_,_,qap,?_,rfl⟩
   rw[qfh,hi,Bool.and_false]
theorem q15 {n:Nat} (h:n<10000000):(Lib.decDigits n).length≤7:=by
 rw[Lib.decDigits_length]
 rw[Lib.nDigits];split
 ·omega
 rw[Lib.nDigits];split
 ·omega
 rw[Lib.nDigits];split
 ·omega
 rw[Lib.nDigits];split
 ·omega
 rw[Lib.nDigits];split
 ·omega
 rw[Lib.nDigits];split
 ·omega
 rw[Lib.nDigits];split
 ·omega
 exfalso;omega
theorem Qxq {n:Nat} (h:n<10):((([48,49,50,51,52,53,54,55,56,57]:List UInt8).drop n).take 1)=Lib.decDigits n:=by
 rw[Lib.decDigits_one h];revert n;decide +kernel
theorem Qmr:∀(n:Nat),n<10000000→qba prog Gl 63 [.d (.int .i64 n)] (.d (.str (Lib.decDigits n))):=by
 intro n
 induction n using Nat.strongRecOn with
 | _ n ih=>
 intro hn
 refine qba.of1 ?_
 refine qac func63 rfl rfl (by simp[ntmps63]) (qab rfl _ _ _ _ ?_)
 simp only[ntmps63,results63,qak,List.length_nil]
 simp only[zU,seval]
 by_cases h:n<10
 ·simp only[zU,seval,(show(n:Int)<10 by omega),@qaf ((n:Int)+1) (by omega)]
  repeat((with_reducible apply aI);exact sdp)
  refine⟨_,_,qap,?_,rfl⟩
  congr 2
  rw[←Qxq h,show((n:Int)+1).toNat=n+1 by omega]
  clear ih hn
  revert n
  decide +kernel
 ·simp only[zU,seval,(show ¬(n:Int)<10 by omega)]
  have e1:((n:Int).tdiv 10)=((n / 10:Nat):Int):=rfl
  have e2:((n:Int).tmod 10)=((n % 10:Nat):Int):=rfl
  (try simp only[zU,seval,e1,e2,@qaf (((n / 10:Nat):Int)) (by omega),@qaf (((n % 10:Nat):Int)) (by omega)])
  repeat((with_reducible apply aI);exact sdp)
  refine qad (ih (n / 10) (by omega) (by omega)) ?_
  simp only[zU,seval,e1,e2,@qaf (((n / 10:Nat):Int)) (by omega),@qaf (((n % 10:Nat):Int)) (by omega)]
  repeat((with_reducible apply aI);exact sdp)
  refine qad (ih (n % 10) (by omega) (by omega)) ?_
  have:=q15 (n:=n / 10) (by omega)
  have:=q15 (n:=n % 10) (by omega)
  simp only[zU,seval]
  repeat((with_reducible apply aI);exact sdp)
  refine⟨_,_,qap,?_,rfl⟩
  have e3:Lib.decDigits n=Lib.decDigits (n / 10)++Lib.decDigits (n % 10):=by
   rw[Lib.decDigits,dif_neg h,Lib.decDigits_one (show n % 10<10 by omega)]
  rw[e3]
def qnr (H:List (List UInt8)) (x:List UInt8):List UInt8:=if qel (eqS x) H<0 then x else qfx++Lib.decDigits (qel (eqS x) H+1).toNat
theorem qnb (H:List (List UInt8)) (x:List UInt8) (hl:H.length<1000000):qba prog Gl 40 [.d (.sl (H.map .str)),.d (.str x)] (.d (.str (qnr H x))):=by
 refine qba.of2 ?_
 refine qac func40 rfl rfl (by simp[ntmps40]) (qab rfl _ _ _ _ ?_)
 simp only[ntmps40,results40,qak,List.length_nil]
 simp only[zU,seval]
 refine qad (Qmf H x hl) ?_
 simp only[zU,seval]
 have h1:=qu3 (eqS x) H
 refine ifC.mk (fun h=>?_) (fun h=>?_)
 ·refine⟨_,_,qap,?_,rfl⟩
  rw[qnr,if_pos (by simpa using h)]
 ·have h:¬qel (eqS x) H<0:=by simpa using h
  obtain⟨n,hn⟩:∃n:Nat,qel (eqS x) H=n:=⟨(qel (eqS x) H).toNat,by omega⟩
  rw[qnr,if_neg h,hn]
  have e:((n:Int)+1).toNat=n+1:=by omega
  rw[e]
  have hd:=q15 (n:=n+1) (by omega)
  (try simp only[zU,seval,@qaf ((n:Int)+1) (by omega)])
  refine qad (Qmr (n+1) (by omega)) ?_
  simp only[zU,seval]
  repeat((with_reducible apply aI);exact sdp)
  refine⟨_,_,qap,?_,rfl⟩
  rfl
def qbe (l:List qao) (what x:List UInt8):Bool:=qns what x l==qv9
def Qwb (l:List qao) (what:List UInt8) (H s:List (List UInt8)):List (List UInt8):=(s.filter fun x=>!qbe l what x).map (qnr H)
def Qw9 (l:List qao) (what:List UInt8) (s:List (List UInt8)):List (List UInt8):=Qwb l what (qfz l what s) s
def Qkw (l:List qao) (what:List UInt8) (s:List (List UInt8)):Int:=
 if qht l≠0 then qht l else if Qd0 what=false then 1
 else if qa5 (fun i=>qc3 (s.getD i default)) s.length≠0 then qa5 (fun i=>qc3 (s.getD i default)) s.length
 else if qfh l what s=true then 4 else 0
def Qrf (l:List qao) (what:List UInt8) (s:List (List UInt8)):List (List UInt8):=if Qkw l what s=0 then Qw9 l what s else[]
end YtljpopkonkanlaaGreatDoor
end Go.Proofs


namespace Go.Proofs
open Go.Shelf
def Tryz.laysM171_ren:Go.Shelf.Ren:=⟨fun|171=>132|243=>185|246=>208|283=>215|284=>216|285=>217|286=>218|129=>224|317=>223|318=>225|319=>226|320=>227|337=>228|338=>229|n=>n,fun|3=>3|9=>9|2=>2|4=>4|171=>203|0=>0|53=>204|37=>207|5=>5|173=>208|212=>217|51=>218|20=>20|213=>219|46=>201|232=>222|233=>223|n=>n,fun|17=>3|18=>4|19=>5|n=>n⟩
theorem Tryz.laysM171:Go.Proofs.LaysM.n171 Tryz.prog Tryz.laysM171_ren:={
 mixed:=by kernel_rfl
 f129:=Tryz.func224.trans (congrArg some (by kernel_rfl))
 f171:=Tryz.func132.trans (congrArg some (by kernel_rfl))
 f243:=Tryz.func185.trans (congrArg some (by kernel_rfl))
 f246:=Tryz.func208.trans (congrArg some (by kernel_rfl))
 f283:=Tryz.func215.trans (congrArg some (by kernel_rfl))
 f284:=Tryz.func216.trans (congrArg some (by kernel_rfl))
 f285:=Tryz.func217.trans (congrArg some (by kernel_rfl))
 f286:=Tryz.func218.trans (congrArg some (by kernel_rfl))
 f317:=Tryz.func223.trans (congrArg some (by kernel_rfl))
 f318:=Tryz.func225.trans (congrArg some (by kernel_rfl))
 f319:=Tryz.func226.trans (congrArg some (by kernel_rfl))
 f320:=Tryz.func227.trans (congrArg some (by kernel_rfl))
 f337:=Tryz.func228.trans (congrArg some (by kernel_rfl))
 f338:=Tryz.func229.trans (congrArg some (by kernel_rfl))
 t0:=Tryz.underlying0
 a0:=Tryz.isAgg0
 z0:=Tryz.sizeOf0
 v0:=Tryz.zeroValue0
 t2:=Tryz.underlying2
 a2:=Tryz.isAgg2
 z2:=Tryz.sizeOf2
 v2:=Tryz.zeroValue2
 t3:=Tryz.underlying3
 a3:=Tryz.isAgg3
 z3:=Tryz.sizeOf3
 v3:=Tryz.zeroValue3
 t4:=Tryz.underlying4
 a4:=Tryz.isAgg4
 z4:=Tryz.sizeOf4
 v4:=Tryz.zeroValue4
 t5:=Tryz.underlying5
 a5:=Tryz.isAgg5
 z5:=Tryz.sizeOf5
 v5:=Tryz.zeroValue5
 t9:=Tryz.underlying9
 a9:=Tryz.isAgg9
 z9:=Tryz.sizeOf9
 v9:=Tryz.zeroValue9
 t20:=Tryz.underlying20
 a20:=Tryz.isAgg20
 z20:=Tryz.sizeOf20
 v20:=Tryz.zeroValue20
 t37:=Tryz.underlying207
 a37:=Tryz.isAgg207
 z37:=Tryz.sizeOf207
 v37:=Tryz.zeroValue207
 t46:=Tryz.underlying201
 a46:=Tryz.isAgg201
 z46:=Tryz.sizeOf201
 v46:=Tryz.zeroValue201
 t51:=Tryz.underlying218
 a51:=Tryz.isAgg218
 z51:=Tryz.sizeOf218
 v51:=Tryz.zeroValue218
 t53:=Tryz.underlying204
 a53:=Tryz.isAgg204
 z53:=Tryz.sizeOf204
 v53:=Tryz.zeroValue204
 t171:=Tryz.underlying203
 a171:=Tryz.isAgg203
 z171:=Tryz.sizeOf203
 v171:=Tryz.zeroValue203
 t173:=Tryz.underlying208
 a173:=Tryz.isAgg208
 z173:=Tryz.sizeOf208
 v173:=Tryz.zeroValue208
 t212:=Tryz.underlying217
 a212:=Tryz.isAgg217
 z212:=Tryz.sizeOf217
 v212:=Tryz.zeroValue217
 t213:=Tryz.underlying219
 a213:=Tryz.isAgg219
 z213:=Tryz.sizeOf219
 t232:=Tryz.underlying222
 a232:=Tryz.isAgg222
 z232:=Tryz.sizeOf222
 v232:=Tryz.zeroValue222
 t233:=Tryz.underlying223
 a233:=Tryz.isAgg223
 z233:=Tryz.sizeOf223
 v233:=Tryz.zeroValue223
 g17:=by kernel_rfl
 g18:=by kernel_rfl
 g19:=by kernel_rfl
 i0:=by kernel_rfl
 i2:=by kernel_rfl
 i3:=by kernel_rfl
 i4:=by kernel_rfl
 i5:=by kernel_rfl
 i9:=by kernel_rfl
 i20:=by kernel_rfl
 i37:=by kernel_rfl
 i46:=by kernel_rfl
 i51:=by kernel_rfl
 i53:=by kernel_rfl
 i171:=by kernel_rfl
 i173:=by kernel_rfl
 i212:=by kernel_rfl
 i232:=by kernel_rfl
 i233:=by kernel_rfl
 m17:=by kernel_rfl
 m18:=by kernel_rfl
 m19:=by kernel_rfl}
open Go.RowKit Go.Sort Go.Lib in
theorem Tryz.strconv_Itoa (n:Int) (h0:-9223372036854775808≤n) (h1:n≤9223372036854775807) (w:World) (htab:Lib.TabIs Tryz.prog w "internal/strconv.uint64pow10" .u64 Lib.pow10Tab) :
  Calls Tryz.prog 132 #[.int .i64 n] w fun e w'=>e=.returned (.string ⟨(Lib.itoa n).toArray⟩)∧∃k os,w'=grow (w.drewN k) os:=Any.strconv_Itoa Tryz.laysM171 n h0 h1 w htab
end Go.Proofs

set_option maxRecDepth 100000
namespace Go.Proofs
open Go.AM Tryz
namespace YtljpopkonkanlaaGreatDoor
def Qxg (g:Nat):qbd:=[(g,.agg (Lib.pow10Tab.map fun z=>.int .u64 z))]
theorem qq9:prog.globalNamed "internal/strconv.uint64pow10" = some 3:=by kernel_rfl
abbrev G2:qbd:=Qxg 3
theorem Qva (n:Int) (h0:-9223372036854775808≤n) (h1:n≤9223372036854775807):qba prog G2 132 [.d (.int .i64 n)] (.d (.str (Lib.itoa n))):=
 q03 func132 (by kernel_rfl) (by kernel_rfl) (fun w I μ σ vals hv hl=>Qgb hv hl) (fun w I hG=>Tryz.strconv_Itoa n h0 h1 w (q64 hG qq9)) (fun w I μ σ=>.d _ _ (.str _))
theorem Qu8 (n:Nat) (h:n<10000000):qba prog G2 61 [.d (.int .i64 n)] (.d (.str (Lib.decDigits n))):=by
 refine qba.of1 ?_
 refine qac func61 rfl rfl (by simp[ntmps61]) (qab rfl _ _ _ _ ?_)
 simp only[ntmps61,results61,qak,List.length_nil]
 simp only[zU,seval]
 refine qad (Qva n (by omega) (by omega)) ?_
 simp only[zU,seval]
 have e:Lib.itoa (n:Int)=Lib.decDigits n:=by rw[Lib.itoa,if_neg (by omega)];rfl
 rw[←e]
 exact⟨_,_,qap,rfl,rfl⟩
def qb0 (g:List UInt8→Option (List UInt8)):Key→Option AV
 | .s n=>(g n).map fun v=>.d (.str v)
 | .i _=>none
def Qsw (g:List UInt8→Option (List UInt8)) (n v:List UInt8):List UInt8→Option (List UInt8):=fun m=>if m=n then some v else g m
theorem q9j (g:List UInt8→Option (List UInt8)) (n:List UInt8):qb0 g (.s n)=(g n).map fun v=>.d (.str v):=rfl
theorem Qe9 (g:List UInt8→Option (List UInt8)) (n v:List UInt8):qgs (qb0 g) (.s n) (.d (.str v))=qb0 (Qsw g n v):=by
 funext k
 cases k with
 | i m=>simp[qgs,qb0]
 | s m=>by_cases h:m=n<;>simp[qgs,qb0,Qsw,h]
theorem qj3 (g:List UInt8→Option (List UInt8)) (ρ:List Nat) (σ:Sto):(fun k=>(qb0 g k).map (qbk ρ σ))=qb0 g:=by
 funext k
 cases k with
 | i m=>rfl
 | s m=>simp only[qb0];cases g m<;>simp[qbk,qkp]
theorem qzz (g:List UInt8→Option (List UInt8)):∀k v,qb0 g k=some v→∃d,v=.d d:=by
 intro k v h
 cases k with
 | i m=>cases h
 | s m=>simp only[qb0] at h;cases e:g m with
  | none=>rw[e] at h;cases h
  | some u=>rw[e] at h;cases h;exact⟨_,rfl⟩
def qhj (l:List qao) (what x:List UInt8):Bool:=qns what x l==qhx
def qdd (l:List qao) (what:List UInt8) (s:List (List UInt8)):List UInt8→Option (List UInt8):=fun x=>
 if s.any (eqS x)=true∧(hid l what x||qhj l what x)=true then some (qnr (qfz l what s) x) else none
theorem ql4 (l:List qao) (what x:List UInt8):∀(s out:List (List UInt8)),(s.foldl (qe1 l what) out).any (eqS x)=(out.any (eqS x)||(s.any (eqS x)&&hid l what x))
 | [],out=>by simp
 | y::s,out=>by
  rw[List.foldl_cons,ql4 l what x s,List.any_cons]
  by_cases hy:eqS x y=true
  ·have e:y=x:=by simpa[eqS] using hy
   subst e
   rw[hy,Bool.true_or,Bool.true_and]
   unfold qe1
   cases h1:hid l what y<;>cases h2:out.any (eqS y)<;>simp[h2,List.any_append,eqS]
  ·have hy:eqS x y=false:=by simpa using hy
   rw[hy,Bool.false_or]
   congr 1
   unfold qe1
   split
   ·rw[List.any_append];simp[hy]
   ·rfl
theorem qq6 (l:List qao) (what x:List UInt8) (s:List (List UInt8)):(qfz l what s).any (eqS x)=(s.any (eqS x)&&hid l what x):=by
 rw[qfz,ql4];rfl
theorem q26 (l:List qao) (what x:List UInt8) (s:List (List UInt8)):qfz l what (s++[x])=qe1 l what (qfz l what s) x:=by
 rw[qfz,List.foldl_append];rfl
theorem qu2 {α:Type} (p:α→Bool) (x:α):∀l:List α,qel p (l++[x])=if qel p l<0 then(if p x=true then(l.length:Int) else -1) else qel p l
 | []=>by
  simp only[List.nil_append,qel]
  split<;>simp
 | y::l=>by
  have ih:=qu2 p x l
  have hg:=qob p l
  simp only[List.cons_append,qel,ih,List.length_cons]
  by_cases h:p y=true
  ·simp[h]
  ·simp only[h,if_false]
   by_cases h1:qel p l<0
   ·have e:qel p l=-1:=by omega
    simp only[e]
    by_cases hx:p x=true
    ·simp[hx]
    ·simp[hx]
   ·have e1:¬qel p l=-1:=by omega
    simp[h1,e1];omega
theorem qhb {l:List qao} {what x:List UInt8} {s:List (List UInt8)} (h:hid l what x=true→s.any (eqS x)=true):qfz l what (s++[x])=qfz l what s:=by
 rw[q26,qe1,if_neg]
 intro hc
 simp only[Bool.and_eq_true,Bool.not_eq_true'] at hc
 have:=qq6 l what x s
 rw[h hc.1,hc.1,hc.2] at this
 cases this
theorem q95 {l:List qao} {what x:List UInt8} {s:List (List UInt8)} (h1:hid l what x=true) (h2:s.any (eqS x)=false):qfz l what (s++[x])=qfz l what s++[x]:=by
 rw[q26,qe1,if_pos]
 rw[qq6,h2,h1];rfl
theorem Qgd {H:List (List UInt8)} {x y:List UInt8} (h:H.any (eqS y)=true∨x≠y):qnr (H++[x]) y=qnr H y:=by
 have h2:qel (eqS y) (H++[x])=qel (eqS y) H:=by
  rw[qu2]
  have hg:=qdv (eqS y) H
  have hge:=qob (eqS y) H
  by_cases h0:qel (eqS y) H<0
  ·rw[if_pos h0]
   have ha:H.any (eqS y)=false:=by rw[←hg];simp;omega
   rcases h with h|h
   ·rw[ha] at h;cases h
   ·rw[if_neg (by simpa[eqS] using h)];omega
  ·rw[if_neg h0]
 rw[qnr,h2];rfl
theorem Qge {H:List (List UInt8)} {x:List UInt8} (h:H.any (eqS x)=false):qnr H x=x:=by
 have hg:=qdv (eqS x) H
 rw[h] at hg
 rw[qnr,if_pos (by simp at hg;omega)]
theorem Qgf {H:List (List UInt8)} {x:List UInt8} (h:H.any (eqS x)=false):qnr (H++[x]) x=qfx++Lib.decDigits (H.length+1):=by
 have hg:=qdv (eqS x) H
 rw[h] at hg
 have e:qel (eqS x) (H++[x])=H.length:=by
  rw[qu2,if_pos (by simp at hg;omega),if_pos (by simp[eqS])]
 rw[qnr,e,if_neg (by omega)]
 congr 2
theorem qqm {x y:List UInt8}:eqS x y=true↔y=x:=by simp[eqS]
theorem qnp (s:List (List UInt8)) (x y:List UInt8):(s++[x]).any (eqS y)=(s.any (eqS y)||eqS y x):=by simp[List.any_append]
theorem Qi3 {l:List qao} {what x:List UInt8} {s:List (List UInt8)} (h:s.any (eqS x)=true):qdd l what (s++[x])=qdd l what s:=by
 funext y
 rw[qdd,qdd,qhb (fun _=>h),qnp]
 have:(s.any (eqS y)||eqS y x)=s.any (eqS y):=by
  cases e:eqS y x with
  | false=>rw[Bool.or_false]
  | true=>rw[qqm.1 e] at h;rw[h];rfl
 rw[this]
theorem Qi4 {l:List qao} {what x:List UInt8} {s:List (List UInt8)} (h1:hid l what x=false) (h2:qhj l what x=false):qdd l what (s++[x])=qdd l what s:=by
 funext y
 rw[qdd,qdd,qhb (fun h=>by rw[h1] at h;cases h),qnp]
 by_cases e:eqS y x=true
 ·have:=qqm.1 e;subst this
  rw[h1,h2];simp
 ·have e:eqS y x=false:=by simpa using e
  rw[e,Bool.or_false]
theorem Qm4 {l:List qao} {what x:List UInt8} {s:List (List UInt8)} (h1:hid l what x=true) (h2:s.any (eqS x)=false):qdd l what (s++[x])=Qsw (qdd l what s) x (qfx++Lib.decDigits ((qfz l what s).length+1)):=by
 have h3:(qfz l what s).any (eqS x)=false:=by rw[qq6,h2];rfl
 funext y
 rw[Qsw,qdd,qdd,q95 h1 h2,qnp]
 by_cases e:eqS y x=true
 ·have:=qqm.1 e;subst this
  rw[e,Bool.or_true,h1,if_pos ⟨rfl,rfl⟩,if_pos rfl,Qgf h3]
 ·have e0:x≠y:=fun h=>e (qqm.2 h)
  have e:eqS y x=false:=by simpa using e
  rw[e,Bool.or_false,Qgd (.inr e0),if_neg (show ¬y=x from fun h=>e0 h.symm)]
theorem Qi5 {l:List qao} {what x:List UInt8} {s:List (List UInt8)} (h1:qhj l what x=true) (h2:s.any (eqS x)=false) (h3:hid l what x=false):qdd l what (s++[x])=Qsw (qdd l what s) x x:=by
 have h4:(qfz l what s).any (eqS x)=false:=by rw[qq6,h2];rfl
 funext y
 rw[Qsw,qdd,qdd,qhb (fun h=>by rw[h3] at h;cases h),qnp]
 by_cases e:eqS y x=true
 ·have:=qqm.1 e;subst this
  rw[e,Bool.or_true,h1,h3,if_pos ⟨rfl,rfl⟩,if_pos rfl,Qge h4]
 ·have e0:x≠y:=fun h=>e (qqm.2 h)
  have e:eqS y x=false:=by simpa using e
  rw[e,Bool.or_false,if_neg (show ¬y=x from fun h=>e0 h.symm)]
theorem Qrj {l:List qao} {what x:List UInt8} {s:List (List UInt8)} (h:s.any (eqS x)=true):(s++[x]).any (qdq l what)=s.any (qdq l what):=by
 rw[List.any_append,List.any_cons,List.any_nil,Bool.or_false]
 cases e:qdq l what x with
 | false=>rw[Bool.or_false]
 | true=>
  obtain⟨y,hy,hxy⟩:=List.any_eq_true.1 h
  have:=qqm.1 hxy;subst this
  rw[List.any_eq_true.2 ⟨y,hy,e⟩];rfl
theorem Qxb {l:List qao} {what x:List UInt8} {s:List (List UInt8)} (h:qhj l what x=false):(s++[x]).any (qdq l what)=s.any (qdq l what):=by
 rw[List.any_append,List.any_cons,List.any_nil,Bool.or_false,qdq,show(qns what x l==qhx)=false from h,Bool.false_and,Bool.or_false]
theorem Qxj {l:List qao} {what x:List UInt8} {s:List (List UInt8)} (h:qhj l what x=true):(s++[x]).any (qdq l what)=(s.any (qdq l what)||q2e x qfx):=by
 rw[List.any_append,List.any_cons,List.any_nil,Bool.or_false,qdq,show(qns what x l==qhx)=true from h,Bool.true_and]
theorem q8c {l:List qao} {what x:List UInt8} (h:hid l what x=true):qhj l what x=false:=by
 rw[hid,beq_iff_eq] at h
 rw[qhj,h];rfl
theorem qu5 (a:List D) (b:List UInt8) (g:List UInt8→Option (List UInt8)):qdp [0,1] (freezeL [.box 3 (.agg [.d (.sl a),.d (.str b),.mapr 1]),.map none (qb0 g)] [])=[.box 3 (.agg [.d (.sl a),.d (.str b),.mapr 1]),.map none (qb0 g)]:=by
 show[qbx [0,1] _ (.box 3 (.agg [.d (.sl a),.d (.str b),.mapr 1])),.map none (fun k=>(qb0 g k).map (qbk [0,1] _))]=_
 rw[qj3];rfl
theorem qz4 (l:List qao) (what:List UInt8) (s:List (List UInt8)) (hl:l.length<1000000) (hs:s.length<1000000):qal prog G2 36 [.d (.sl (l.map qao.toD)),.d (.str what),.d (.sl (s.map .str))] []
  (fun r σ=>r=.tup [.ptr 0 0,.d (.bool (!qfh l what s))]∧σ=[.box 3 (.agg [.d (.sl (l.map qao.toD)),.d (.str what),.mapr 1]),.map none (qb0 (qdd l what s))]):=by
 refine qac func36 rfl rfl (by simp[ntmps36]) (qab rfl _ _ _ _ ?_)
 simp only[ntmps36,results36,qak,List.length_nil]
 simp only[zU,seval]
 repeat((with_reducible apply aI);exact sdp)
 refine qan s.length (fun k=>[(0,.d (.sl (l.map qao.toD))),(1,.d (.str what)),(8,.ptr 0 0),(9,.d (.int .i64 (qfz l what (s.take k)).length)),(10,.d (.bool ((s.take k).any (qdq l what)))),(20,.d (.sl (s.map .str))),(21,.d (.int .i64 s.length)),(22,.d (.int .i64 k))])
  (fun k=>[.box 3 (.agg [.d (.sl (l.map qao.toD)),.d (.str what),.mapr 1]),.map none (qb0 (qdd l what (s.take k)))]) (fun _=>True) trivial ?_ ?_
 ·refine qaa [] [1,0] rfl (by simp) ?_ ?_
  ·simp only[zU,seval]
   all_goals rfl
  ·have e:qb0 (qdd l what (List.take 0 s))=fun _=>none:=by
    funext k;cases k<;>simp[qb0,qdd]
   rw[e];rfl
 ·intro k _ hk
  have hyl:=qnx l what (s.take k)
  rw[List.length_take] at hyl
  by_cases h:k<s.length
  ·obtain⟨x,hx⟩:∃x,x=s.getD k default:=⟨_,rfl⟩
   have ht:s.take (k+1)=s.take k++[x]:=by rw[qa0 s k h,←hx]
   have hg:(s.map D.str).getD k default=.str x:=by rw[qah _ _ _ h,hx]
   obtain⟨p,hp⟩:∃p,p=s.take k:=⟨_,rfl⟩
   rw[←hp] at ht hyl ⊢
   rw[ht]
   by_cases hh:p.any (eqS x)=true∧(hid l what x||qhj l what x)=true
   ·have e:qdd l what p x=some (qnr (qfz l what p) x):=by rw[qdd,if_pos hh]
    rw[qhb (fun _=>hh.1),Qi3 hh.1]
    simp only[zU,seval,(show(k:Int)<s.length by omega),h,hg,q9j,e,Option.map_some,Option.getD_some,Option.isSome_some]
    repeat((with_reducible apply aI);exact sdp)
    refine qaa [] [0,1] rfl (by simp) ?_ ?_
    ·simp only[zU,seval,@qaf ((k:Int)+1) (by omega),Qrj hh.1]
     all_goals rfl
    ·exact qu5 _ _ _
   have e:qdd l what p x=none:=by rw[qdd,if_neg hh]
   simp only[zU,seval,(show(k:Int)<s.length by omega),h,hg,q9j,e,Option.map_none,Option.getD_none,Option.isSome_none]
   repeat((with_reducible apply aI);exact sdp)
   refine qad (qgu l what x hl) ?_
   simp only[zU,seval]
   refine ifC.mk (fun h1=>?_) (fun h1=>?_)
   ·have h1:hid l what x=true:=h1
    have h2:p.any (eqS x)=false:=by
     cases e2:p.any (eqS x) with
     | false=>rfl
     | true=>exact absurd ⟨e2,by rw[h1];rfl⟩ hh
    rw[q95 h1 h2,Qm4 h1 h2,Qxb (q8c h1)]
    (try simp only[zU,seval,@qaf (((qfz l what p).length:Int)+1) (by omega)])
    repeat((with_reducible apply aI);exact sdp)
    refine qad (Qu8 ((qfz l what p).length+1) (by omega)) ?_
    have hdl:=q15 (n:=(qfz l what p).length+1) (by omega)
    simp only[zU,seval]
    repeat((with_reducible apply aI);exact sdp)
    refine qaa [] [0,1] rfl (by simp) ?_ ?_
    ·simp only[zU,seval,@qaf ((k:Int)+1) (by omega)]
     all_goals rfl
    ·simp only[zU,seval,Qe9]
     exact qu5 _ _ _
   ·have h1:hid l what x=false:=h1
    refine ifC.mk (fun h3=>?_) (fun h3=>?_)
    ·have h3:qhj l what x=true:=h3
     have h2:p.any (eqS x)=false:=by
      cases e2:p.any (eqS x) with
      | false=>rfl
      | true=>exact absurd ⟨e2,by rw[h3];simp⟩ hh
     rw[qhb (fun h=>by rw[h1] at h;cases h),Qi5 h3 h2 h1,Qxj h3]
     (try simp only[zU,seval])
     refine qay (fun _=>qu0 _ _) ?_
     simp only[zU,seval]
     repeat((with_reducible apply aI);exact sdp)
     refine qaa [] [0,1] rfl (by simp) ?_ ?_
     ·simp only[zU,seval,@qaf ((k:Int)+1) (by omega)]
      all_goals rfl
     ·simp only[zU,seval,Qe9]
      exact qu5 _ _ _
    ·have h3:qhj l what x=false:=h3
     rw[qhb (fun h=>by rw[h1] at h;cases h),Qi4 h1 h3,Qxb h3]
     refine qaa [] [0,1] rfl (by simp) ?_ ?_
     ·simp only[zU,seval,@qaf ((k:Int)+1) (by omega)]
      all_goals rfl
     ·exact qu5 _ _ _
  ·have:k=s.length:=by omega
   subst this
   simp only[zU,seval,(show ¬(s.length:Int)<s.length by omega),List.take_length]
   refine⟨_,_,qai [] [0,1] rfl (by simp) (show qbk _ _ _=AV.tup [.ptr 0 0,.d _] from rfl) (qu5 _ _ _),?_,rfl⟩
   rw[qfh]
   cases e:qfz l what s with
   | nil=>rfl
   | cons a b=>
    have e2:(((a::b).length:Int)==0)=false:=by simp;omega
    rw[e2];cases s.any (qdq l what)<;>rfl

def q2g (g:List UInt8→Option (List UInt8)) (s:List (List UInt8)):List (List UInt8):=s.filterMap g
theorem Qvu {g:List UInt8→Option (List UInt8)} {s:List (List UInt8)} {x v:List UInt8} (h:g x=some v):q2g g (s++[x])=q2g g s++[v]:=by
 rw[q2g,List.filterMap_append];simp[h,q2g]
theorem Qvv {g:List UInt8→Option (List UInt8)} {s:List (List UInt8)} {x:List UInt8} (h:g x=none):q2g g (s++[x])=q2g g s:=by
 rw[q2g,List.filterMap_append];simp[h,q2g]
theorem Qst (g:List UInt8→Option (List UInt8)) (s:List (List UInt8)):(q2g g s).length≤s.length:=List.length_filterMap_le _ _
theorem Qce (a:List D) (b:List UInt8) (g:List UInt8→Option (List UInt8)) (xs:List D):qdp [0,1,2] (freezeL [.box 3 (.agg [.d (.sl a),.d (.str b),.mapr 1]),.map none (qb0 g),.arr 1 xs] [])=[.box 3 (.agg [.d (.sl a),.d (.str b),.mapr 1]),.map none (qb0 g),.arr 1 xs]:=by
 show[qbx [0,1,2] _ (.box 3 (.agg [.d (.sl a),.d (.str b),.mapr 1])),.map none (fun k=>(qb0 g k).map (qbk [0,1,2] _)),_]=_
 rw[qj3];rfl
theorem Qm2 (a:List D) (b:List UInt8) (g:List UInt8→Option (List UInt8)) (σ:Sto):qdp [0,1] (freezeL (.box 3 (.agg [.d (.sl a),.d (.str b),.mapr 1])::.map none (qb0 g)::σ) [])=[.box 3 (.agg [.d (.sl a),.d (.str b),.mapr 1]),.map none (qb0 g)]:=by
 show[qbx [0,1] _ (.box 3 (.agg [.d (.sl a),.d (.str b),.mapr 1])),.map none (fun k=>(qb0 g k).map (qbk [0,1] _))]=_
 rw[qj3];rfl
theorem Qm3 (a:List D) (b:List UInt8) (g:List UInt8→Option (List UInt8)) (xs:List D) (B1 B2:Blk):qdp [0,1,4] (freezeL [.box 3 (.agg [.d (.sl a),.d (.str b),.mapr 1]),.map none (qb0 g),B1,B2,.arr 1 xs] [])=[.box 3 (.agg [.d (.sl a),.d (.str b),.mapr 1]),.map none (qb0 g),.arr 1 xs]:=by
 show[qbx [0,1,4] _ (.box 3 (.agg [.d (.sl a),.d (.str b),.mapr 1])),.map none (fun k=>(qb0 g k).map (qbk [0,1,4] _)),_]=_
 rw[qj3];rfl
theorem Qrt {Gl:qbd} (a:List D) (b:List UInt8) (g:List UInt8→Option (List UInt8)) (s:List (List UInt8)) (hs:s.length<1000000):qal prog Gl 37 [.ptr 0 0,.d (.sl (s.map .str))] [.box 3 (.agg [.d (.sl a),.d (.str b),.mapr 1]),.map none (qb0 g)]
  (fun r σ=>r=.d (.sl ((q2g g s).map .str))∧σ=[.box 3 (.agg [.d (.sl a),.d (.str b),.mapr 1]),.map none (qb0 g)]):=by
 refine qac func37 rfl rfl (by simp[ntmps37]) (qab rfl _ _ _ _ ?_)
 simp only[ntmps37,results37,qak,List.length_nil]
 simp only[zU,seval]
 refine qan s.length (fun k=>[(0,.ptr 0 0),(5,.osl 2 0 (q2g g (s.take k)).length),(10,.d (.sl (s.map .str))),(11,.d (.int .i64 s.length)),(12,.d (.int .i64 k))])
  (fun k=>[.box 3 (.agg [.d (.sl a),.d (.str b),.mapr 1]),.map none (qb0 g),.arr 1 ((q2g g (s.take k)).map .str)]) (fun _=>True) trivial ?_ ?_
 ·refine(qcw 5 1 rfl).trans ?_
  refine qaa [] [0,1,2] rfl (by simp) ?_ ?_
  ·simp only[zU,seval]
   all_goals rfl
  ·exact Qce _ _ _ _
 ·intro k _ hk
  have hyl:=Qst g (s.take k)
  rw[List.length_take] at hyl
  by_cases h:k<s.length
  ·obtain⟨x,hx⟩:∃x,x=s.getD k default:=⟨_,rfl⟩
   have ht:s.take (k+1)=s.take k++[x]:=by rw[qa0 s k h,←hx]
   have hg:(s.map D.str).getD k default=.str x:=by rw[qah _ _ _ h,hx]
   obtain⟨p,hp⟩:∃p,p=s.take k:=⟨_,rfl⟩
   rw[←hp] at ht hyl ⊢
   rw[ht]
   cases e:g x with
   | none=>
    rw[Qvv e]
    simp only[zU,seval,(show(k:Int)<s.length by omega),h,hg,q9j,e,Option.map_none,Option.getD_none,Option.isSome_none]
    repeat((with_reducible apply aI);exact sdp)
    refine qaa [] [0,1,2] rfl (by simp) ?_ ?_
    ·simp only[zU,seval,@qaf ((k:Int)+1) (by omega)]
     all_goals rfl
    ·exact Qce _ _ _ _
   | some v=>
    rw[Qvu e]
    simp only[zU,seval,(show(k:Int)<s.length by omega),h,hg,q9j,e,Option.map_some,Option.getD_some,Option.isSome_some]
    repeat((with_reducible apply aI);exact sdp)
    (try simp only[zU,seval,qaz])
    repeat((with_reducible apply aI);exact sdp)
    rw[List.map_append]
    refine qaa [] [0,1,4] rfl (by simp) ?_ ?_
    ·simp only[zU,seval,@qaf ((k:Int)+1) (by omega)]
     all_goals rfl
    ·exact Qm3 _ _ _ _ _ _
  ·have:k=s.length:=by omega
   subst this
   simp only[zU,seval,(show ¬(s.length:Int)<s.length by omega),List.take_length]
   refine⟨_,_,(qc6 rfl).trans (qai [] [0,1] rfl (by simp) (show qbk _ _ _=AV.d _ from rfl) (Qm2 _ _ _ _)),?_,rfl⟩
   simp only[zU,seval,qaz]
theorem Qc8 (what x:List UInt8):∀l:List qao,qns what x l=qhx∨∃r∈l,qns what x l=r.action
 | []=>.inl rfl
 | r::l=>by
  rw[qns]
  by_cases h:Qel what x r=true
  ·rw[if_pos h];exact .inr ⟨r,List.mem_cons_self,rfl⟩
  ·rw[if_neg h]
   rcases Qc8 what x l with h1|⟨q,hq,h1⟩
   ·exact .inl h1
   ·exact .inr ⟨q,List.mem_cons_of_mem _ hq,h1⟩
theorem q8f {α:Type} [Inhabited α] {l:List α} {x:α} (h:x∈l):∃k,k<l.length∧l.getD k default=x:=by
 obtain⟨k,hk,e⟩:=List.getElem_of_mem h
 exact⟨k,hk,by simp[hk,e]⟩
theorem Qnn {l:List qao} (h:qht l=0) {r:qao} (hr:r∈l):Qnv r=false∧(r.prefix_=[]∨qc3 r.prefix_=0):=by
 rw[qht] at h
 split at h
 ·cases h
 ·obtain⟨k,hk,rfl⟩:=q8f hr
  have:=qf2 h k hk
  simp only[ql6] at this
  split at this
  ·cases this
  ·rename_i hb
   refine⟨by simpa using hb,?_⟩
   split at this
   ·rename_i hp;exact .inl hp
   ·exact .inr this
theorem Qks {l:List qao} (h:qht l=0) (what x:List UInt8):qns what x l=qhx∨qns what x l=q68∨qns what x l=qv9:=by
 rcases Qc8 what x l with h1|⟨r,hr,h1⟩
 ·exact .inl h1
 ·have hb:=(Qnn h hr).1
  rw[h1]
  rw[Qnv,Bool.or_eq_false_iff] at hb
  have h2:=hb.2
  by_cases e1:r.action=qhx
  ·exact .inl e1
  by_cases e2:r.action=q68
  ·exact .inr (.inl e2)
  by_cases e3:r.action=qv9
  ·exact .inr (.inr e3)
  exfalso
  rw[show(r.action==qhx)=false by simpa using e1,show(r.action==q68)=false by simpa using e2,show(r.action==qv9)=false by simpa using e3] at h2
  cases h2
theorem Qvw {l:List qao} (h:qht l=0) (what x:List UInt8):(hid l what x||qhj l what x)=!qbe l what x:=by
 rcases Qks h what x with e|e|e<;>rw[hid,qhj,qbe,e]<;>rfl
theorem qqk {α β:Type} {f:α→Option β} {p:α→Bool} {g:α→β}:∀(s:List α),(∀x∈s,f x=if p x=true then some (g x) else none)→s.filterMap f=(s.filter p).map g
 | [],_=>rfl
 | x::s,h=>by
  have ih:=qqk s fun y hy=>h y (List.mem_cons_of_mem _ hy)
  have h1:=h x List.mem_cons_self
  by_cases hp:p x=true
  ·rw[if_pos hp] at h1
   rw[List.filterMap_cons,h1,List.filter_cons,if_pos hp,List.map_cons,ih]
  ·rw[if_neg hp] at h1
   rw[List.filterMap_cons,h1,List.filter_cons,if_neg hp,ih]
theorem Qnx {s:List (List UInt8)} {x:List UInt8} (h:x∈s):s.any (eqS x)=true:=List.any_eq_true.2 ⟨x,h,qqm.2 rfl⟩
theorem Qr0 {l:List qao} (h:qht l=0) (what:List UInt8) {S:List (List UInt8)} {x:List UInt8} (hx:x∈S):qdd l what S x=if(!qbe l what x)=true then some (qnr (qfz l what S) x) else none:=by
 rw[qdd,Qnx hx,Qvw h];simp
theorem Qn0 {l:List qao} (h:qht l=0) (what:List UInt8) {S s:List (List UInt8)} (hs:∀x∈s,x∈S):q2g (qdd l what S) s=Qwb l what (qfz l what S) s:=by
 rw[q2g,Qwb]
 exact qqk _ fun x hx=>Qr0 h what (hs x hx)
theorem Qss {l:List qao} (h:qht l=0) (what:List UInt8) (s:List (List UInt8)):q2g (qdd l what s) s=Qw9 l what s:=Qn0 h what fun _ hx=>hx
theorem Qrv (l:List qao) (what:List UInt8) (s:List (List UInt8)) (hl:l.length<1000000) (hs:s.length<1000000):qba prog G2 15 [.d (.sl (l.map qao.toD)),.d (.str what),.d (.sl (s.map .str))] (.tup [.d (.sl ((Qrf l what s).map .str)),.d (.int .i64 (Qkw l what s))]):=by
 refine qba.of3t2 ?_
 refine qac func15 rfl rfl (by simp[ntmps15]) (qab rfl _ _ _ _ ?_)
 simp only[ntmps15,results15,qak,List.length_nil]
 simp only[zU,seval]
 refine qad (q79 l hl) ?_
 simp only[zU,seval]
 refine ifC.mk (fun h0=>?_) (fun h0=>?_)
 ·have h0:qht l≠0:=by simpa using h0
  have e:Qkw l what s=qht l:=by rw[Qkw,if_pos h0]
  refine⟨_,_,qcq rfl rfl,?_,rfl⟩
  rw[Qrf,e,if_neg h0];rfl
 have h0:qht l=0:=by simpa using h0
 (try simp only[zU,seval])
 refine qad (Qp6 what) ?_
 simp only[zU,seval]
 refine ifC.mk (fun h1=>?_) (fun h1=>?_)
 ·have h1:Qd0 what=false:=by simpa using h1
  have e:Qkw l what s=1:=by rw[Qkw,if_neg (by rw[h0];simp),if_pos h1]
  refine⟨_,_,qcq rfl rfl,?_,rfl⟩
  rw[Qrf,e,if_neg (by decide)];rfl
 have h1:¬Qd0 what=false:=by simpa using h1
 have e1:Qkw l what s=if qa5 (fun i=>qc3 (s.getD i default)) s.length≠0 then qa5 (fun i=>qc3 (s.getD i default)) s.length
   else if qfh l what s=true then 4 else 0:=by rw[Qkw,if_neg (by rw[h0];simp),if_neg h1]
 (try simp only[zU,seval])
 refine qan s.length (fun k=>[(0,.d (.sl (l.map qao.toD))),(1,.d (.str what)),(2,.d (.sl (s.map .str))),(22,.d (.sl (s.map .str))),(23,.d (.int .i64 s.length)),(24,.d (.int .i64 k))]) (fun _=>[]) (fun k=>qa5 (fun i=>qc3 (s.getD i default)) k=0) rfl ?_ ?_
 ·refine qaa [] [] rfl List.nodup_nil ?_ rfl
  simp only[zU,seval]
  all_goals rfl
 intro k hi hk
 by_cases h:k<s.length
 ·have hst:=qh7 hi
  simp only[zU,seval,(show(k:Int)<s.length by omega),h,qah _ _ _ (show k<s.length by omega)]
  repeat((with_reducible apply aI);exact sdp)
  refine qad (qz7 _) ?_
  simp only[zU,seval]
  refine ifC.mk (fun h2=>?_) (fun h2=>?_)
  ·have h2:qc3 (s.getD k default)≠0:=by simpa using h2
   have e2:=qbu hi h2 h
   have e:Qkw l what s=qc3 (s.getD k default):=by rw[e1,e2,if_pos h2]
   refine⟨_,_,qcq rfl rfl,?_,rfl⟩
   rw[Qrf,e,if_neg h2];rfl
  ·have h2:qc3 (s.getD k default)=0:=by simpa using h2
   refine⟨by rw[hst,h2],?_⟩
   refine qaa [] [] rfl List.nodup_nil ?_ rfl
   simp only[zU,seval,@qaf ((k:Int)+1) (by omega)]
   all_goals rfl
 have:k=s.length:=by omega
 subst this
 rw[if_neg (by rw[hi];simp)] at e1
 simp only[zU,seval,(show ¬(s.length:Int)<s.length by omega)]
 refine qa1 ((qz4 l what s hl hs).mono fun r σ ⟨er,es⟩=>?_)
 subst er es
 simp only[zU,seval]
 refine ifC.mk (fun h2=>?_) (fun h2=>?_)
 ·have h2:qfh l what s=true:=by simpa using h2
  rw[if_pos h2] at e1
  refine⟨_,_,qcq rfl rfl,?_,rfl⟩
  rw[Qrf,e1,if_neg (by decide)];rfl
 have h2:qfh l what s=false:=by simpa using h2
 rw[if_neg (by rw[h2];simp)] at e1
 (try simp only[zU,seval])
 refine qa1 ((Qrt (l.map qao.toD) what (qdd l what s) s hs).mono fun r σ ⟨er,es⟩=>?_)
 subst er es
 simp only[zU,seval]
 refine⟨_,_,qxa,?_,rfl⟩
 rw[Qrf,e1,if_pos rfl,Qss h0]
end YtljpopkonkanlaaGreatDoor
end Go.Proofs

set_option maxRecDepth 100000
namespace Go.Proofs
open Go.AM Tryz
namespace YtljpopkonkanlaaGreatDoor
variable {Gl:qbd}
def qv5 (s:List UInt8):List D:=(List.range 256).map fun q=>.bool (s.any fun c=>c.toNat==q)
theorem q93 (s:List UInt8) {q:Nat} (h:q<256):(qv5 s).getD q default=.bool (s.any fun c=>c.toNat==q):=by simp[qv5,h]
theorem q0x (s:List UInt8):(qv5 s).length=256:=by simp[qv5]
theorem qz5 (s:List UInt8) (c:UInt8):qal prog Gl 191 [.ptr 0 0,.d (.int .u8 (c.toNat:Int))] [.box 256 (.d (.agg (qv5 s)))] (fun r σ=>r=.d (.bool (s.any fun x=>x==c))∧σ=[.box 256 (.d (.agg (qv5 s)))]):=by
 refine qac func191 rfl rfl (by simp[ntmps191]) (qab rfl _ _ _ _ ?_)
 simp only[ntmps191,results191,qak,List.length_nil]
 simp only[zU,seval]
 have hc:c.toNat<256:=c.toNat_lt
 refine⟨⟨rfl,by omega,by omega,by omega⟩,by omega,_,_,qai [] [0] rfl (by simp) (show qbk _ _ _=AV.d _ from rfl) rfl,?_,rfl⟩
 rw[Nat.mul_one,q93 s hc]
 congr 2
 congr 1
 funext x
 rw[Bool.eq_iff_iff]
 simp[UInt8.toNat_inj]
theorem Qlh (p:List UInt8) (x:UInt8):List.map (fun j=>if x.toNat*1≤j∧j<x.toNat*1+1 then AV.d ([D.bool true].getD (j-x.toNat*1) default) else AV.d ((qv5 p).getD j default)) (List.range 256)=(qv5 (p++[x])).map AV.d:=by
 refine List.ext_getElem (by simp[qv5]) fun j h1 h2=>?_
 have hj:j<256:=by simpa using h1
 simp only[List.getElem_map,List.getElem_range]
 rw[q93 p hj]
 have e:(qv5 (p++[x]))[j]'(by simpa[qv5] using hj)=.bool ((p++[x]).any fun c=>c.toNat==j):=by simp[qv5]
 rw[e,List.any_append]
 by_cases h:x.toNat=j
 ·rw[if_pos (by omega),show j-x.toNat*1=0 by omega]
  simp[h]
 ·rw[if_neg (by omega)]
  simp[h]
theorem Qh6 (s:List UInt8) (hs:s.length<1000) (ha:∀c∈s,c.toNat<128):qba prog Gl 152 [.d (.str s)] (.tup [.d (.agg (qv5 s)),.d (.bool true)]):=by
 refine qba.of1t2 ?_
 refine qac func152 rfl rfl (by simp[ntmps152]) (qab rfl _ _ _ _ ?_)
 simp only[ntmps152,results152,qak,List.length_nil]
 simp only[zU,seval]
 refine qan s.length (fun k=>[(0,.d (.str s)),(2,.ptr 0 0),(4,.d (.int .i64 k))]) (fun k=>[.box 256 (.d (.agg (qv5 (s.take k))))]) (fun _=>True) trivial ?_ ?_
 ·refine qaa [] [0] rfl (by simp) ?_ ?_
  ·simp only[zU,seval]
   all_goals rfl
  ·have e:qv5 []=List.replicate 256 (D.bool false):=by
    refine List.ext_getElem (by rw[q0x,List.length_replicate]) fun j h1 h2=>?_
    rw[List.getElem_replicate];simp[qv5]
   rw[List.take_zero,e];rfl
 ·intro k _ hk
  by_cases h:k<s.length
  ·obtain⟨x,hx⟩:∃x,x=s.getD k default:=⟨_,rfl⟩
   have ht:s.take (k+1)=s.take k++[x]:=by rw[qa0 s k h,←hx]
   have hd:s.getD k 0=x:=by rw[hx];rfl
   have hxa:=ha x (by rw[hx];exact qcd h)
   simp only[zU,seval,(show(k:Int)<s.length by omega),hd]
   repeat((with_reducible apply aI);exact sdp)
   refine ifC.mk (fun h1=>?_) (fun h1=>?_)
   ·exfalso;simp at h1;omega
   refine⟨⟨rfl,by omega,by omega,by omega⟩,by omega,h,?_⟩
   refine qaa [] [0] rfl (by simp) ?_ ?_
   ·simp only[zU,seval,@qaf ((k:Int)+1) (by omega)]
    all_goals rfl
   ·rw[ht,Qlh,Qn1]
    rfl
  ·have:k=s.length:=by omega
   subst this
   simp only[zU,seval,(show ¬(s.length:Int)<s.length by omega),List.take_length]
   exact⟨q0x s,_,_,qxa,rfl,rfl⟩
def inS (cs:List UInt8) (c:UInt8):Bool:=cs.any fun x=>x==c
def qqt (cs s:List UInt8):List UInt8:=(s.reverse.dropWhile (inS cs)).reverse
def q61 (cs s:List UInt8):List UInt8:=s.dropWhile (inS cs)
theorem qwz (cs v:List UInt8) (c:UInt8):qqt cs (v++[c])=if inS cs c=true then qqt cs v else v++[c]:=by
 rw[qqt,List.reverse_append,List.reverse_singleton,List.singleton_append,List.dropWhile_cons]
 split
 ·rfl
 ·rw[List.reverse_cons,List.reverse_reverse]
theorem q7r (s cs:List UInt8) (hs:s.length<9223372036854775808):qal prog Gl 154 [.d (.str s),.ptr 0 0] [.box 256 (.d (.agg (qv5 cs)))] (fun r σ=>r=.d (.str (qqt cs s))∧σ=[.box 256 (.d (.agg (qv5 cs)))]):=by
 refine qac func154 rfl rfl (by simp[ntmps154]) (qab rfl _ _ _ _ ?_)
 simp only[ntmps154,results154,qak,List.length_nil]
 simp only[zU,seval]
 refine qcr (τ:=List UInt8) (fun u=>[(0,.d (.str u)),(1,.ptr 0 0)]) (fun _=>[.box 256 (.d (.agg (qv5 cs)))]) (fun u=>u.length≤s.length∧qqt cs u=qqt cs s) (fun u=>u.length) s ?_ ?_ ?_
 ·exact⟨Nat.le_refl _,rfl⟩
 ·refine qaa [] [0] rfl (by simp) ?_ rfl
  simp only[zU,seval]
  try rfl
 ·rintro u ⟨h1,h2⟩
  rcases List.eq_nil_or_concat u with rfl|⟨v,c,rfl⟩
  ·simp only[zU,seval]
   refine⟨_,_,qai [] [0] rfl (by simp) (show qbk _ _ _=AV.d _ from rfl) rfl,?_,rfl⟩
   rw[←h2];rfl
  ·rw[List.concat_eq_append] at h1 h2 ⊢
   have hl:(v++[c]).length=v.length+1:=by simp
   rw[hl] at h1
   have e1:decide (0<((v++[c]).length:Int))=true:=decide_eq_true (by omega)
   have e2:(v++[c]).getD v.length 0=c:=by simp
   have e3:(v++[c]).take v.length=v:=by simp
   have e0:(v.length:Int)+1-1=v.length:=by omega
   simp only[zU,seval,hl,(show(0:Int)<(v.length:Int)+1 by omega),@qaf ((v.length:Int)) (by omega),e0,(show(v.length:Int)<(v.length:Int)+1 by omega),Int.toNat_natCast,e2]
   repeat((with_reducible apply aI);exact sdp)
   refine qa1 ((qz5 cs c).mono fun r σ ⟨er,es⟩=>?_)
   subst er es
   simp only[zU,seval]
   have e4:(cs.any fun x=>x==c)=inS cs c:=rfl
   rw[e4]
   rw[qwz] at h2
   refine ifC.mk (fun hc=>?_) (fun hc=>?_)
   ·have hc:inS cs c=false:=by simpa using hc
    rw[if_neg (by rw[hc];simp)] at h2
    refine⟨_,_,qai [] [0] rfl (by simp) (show qbk _ _ _=AV.d _ from rfl) rfl,?_,rfl⟩
    rw[←h2]
   ·have hc:inS cs c=true:=by simpa using hc
    rw[if_pos hc] at h2
    (try simp only[zU,seval,hl,@qaf ((v.length:Int)) (by omega),e0,e3,Int.toNat_natCast])
    repeat((with_reducible apply aI);exact sdp)
    refine⟨v,⟨by omega,h2⟩,by omega,?_⟩
    refine qaa [] [0] rfl (by simp) ?_ rfl
    simp only[zU,seval]
    try rfl
theorem Qd2 (s cs:List UInt8) (hs:s.length<9223372036854775808):qal prog Gl 153 [.d (.str s),.ptr 0 0] [.box 256 (.d (.agg (qv5 cs)))] (fun r σ=>r=.d (.str (q61 cs s))∧σ=[.box 256 (.d (.agg (qv5 cs)))]):=by
 refine qac func153 rfl rfl (by simp[ntmps153]) (qab rfl _ _ _ _ ?_)
 simp only[ntmps153,results153,qak,List.length_nil]
 simp only[zU,seval]
 refine qcr (τ:=List UInt8) (fun u=>[(0,.d (.str u)),(1,.ptr 0 0)]) (fun _=>[.box 256 (.d (.agg (qv5 cs)))]) (fun u=>u.length≤s.length∧q61 cs u=q61 cs s) (fun u=>u.length) s ?_ ?_ ?_
 ·exact⟨Nat.le_refl _,rfl⟩
 ·refine qaa [] [0] rfl (by simp) ?_ rfl
  simp only[zU,seval]
  try rfl
 ·rintro u ⟨h1,h2⟩
  cases u with
  | nil=>
   simp only[zU,seval]
   refine⟨_,_,qai [] [0] rfl (by simp) (show qbk _ _ _=AV.d _ from rfl) rfl,?_,rfl⟩
   rw[←h2];rfl
  | cons c v=>
   have hl:(c::v).length=v.length+1:=by simp
   rw[hl] at h1
   simp only[zU,seval,hl,(show(0:Int)<(v.length:Int)+1 by omega)]
   repeat((with_reducible apply aI);exact sdp)
   refine qa1 ((qz5 cs c).mono fun r σ ⟨er,es⟩=>?_)
   subst er es
   simp only[zU,seval]
   have e4:(cs.any fun x=>x==c)=inS cs c:=rfl
   rw[e4]
   rw[q61,List.dropWhile_cons] at h2
   refine ifC.mk (fun hc=>?_) (fun hc=>?_)
   ·have hc:inS cs c=false:=by simpa using hc
    rw[if_neg (by rw[hc];simp)] at h2
    refine⟨_,_,qai [] [0] rfl (by simp) (show qbk _ _ _=AV.d _ from rfl) rfl,?_,rfl⟩
    rw[←h2]
   ·have hc:inS cs c=true:=by simpa using hc
    rw[if_pos hc] at h2
    have e5:((v.length:Int)+1).toNat=v.length+1:=by omega
    have e6:(c::v).take (v.length+1)=c::v:=by simp
    (try simp only[zU,seval,hl,(show(1:Int)≤(v.length:Int)+1 by omega),e5,e6,List.drop_succ_cons,List.drop_zero])
    repeat((with_reducible apply aI);exact sdp)
    refine⟨v,⟨by omega,h2⟩,by omega,?_⟩
    refine qaa [] [0] rfl (by simp) ?_ rfl
    simp only[zU,seval,e5,e6,List.drop_succ_cons,List.drop_zero]
    try rfl
def q8s:List UInt8:=[48,49,50,51,52,53,54,55,56,57]
theorem Qu7 (s:List UInt8) (hs:s.length<9223372036854775808) (h0:s≠[]):qba prog Gl 97 [.d (.str s),.d (.str q8s)] (.d (.str (q61 q8s (qqt q8s s)))):=by
 refine qba.of2 ?_
 have e0:(s==[])=false:=by cases s with
  | nil=>exact absurd rfl h0
  | cons a b=>rfl
 have e1:(q8s==[])=false:=rfl
 have e2:((q8s.length:Int)==1)=false:=rfl
 refine qac func97 rfl rfl (by simp[ntmps97]) (qab rfl _ _ _ _ ?_)
 simp only[ntmps97,results97,qak,List.length_nil]
 simp only[zU,seval,e0,e1,e2]
 repeat((with_reducible apply aI);exact sdp)
 refine qad (Qh6 q8s (by decide) (by decide)) ?_
 simp only[zU,seval]
 refine⟨q0x _,?_⟩
 refine qa1 ((q7r s q8s hs).mono fun r σ ⟨er,es⟩=>?_)
 subst er es
 simp only[zU,seval]
 have hr:(qqt q8s s).length<9223372036854775808:=by
  have:(qqt q8s s).length≤s.length:=by
   rw[qqt,List.length_reverse]
   exact Nat.le_trans (List.dropWhile_suffix _).length_le (by simp)
  omega
 refine qa1 ((Qd2 (qqt q8s s) q8s hr).mono fun r σ ⟨er,es⟩=>?_)
 subst er es
 simp only[zU,seval]
 exact⟨_,_,qap,rfl,rfl⟩
theorem Qvm {p:UInt8→Bool} {c:UInt8} (h:p c=false):∀v:List UInt8,(v++[c]).dropWhile p≠[]
 | []=>by simp[List.dropWhile_cons,h]
 | a::v=>by
  rw[List.cons_append,List.dropWhile_cons]
  split
  ·exact Qvm h v
  ·simp
theorem q9u (cs:List UInt8):∀(n:Nat) (t:List UInt8),t.length=n→(q61 cs (qqt cs t)==[])=t.all (inS cs)
 | n,t,hn=>by
  rcases List.eq_nil_or_concat t with rfl|⟨v,c,rfl⟩
  ·rfl
  ·rw[List.concat_eq_append] at hn ⊢
   have hv:v.length<n:=by rw[List.length_append] at hn;simp at hn;omega
   rw[qwz,List.all_append]
   by_cases h:inS cs c=true
   ·rw[if_pos h,q9u cs v.length v rfl];simp[h]
   ·rw[if_neg h]
    have h:inS cs c=false:=by simpa using h
    have h2:¬q61 cs (v++[c])=[]:=Qvm h v
    simp[h,h2]
termination_by n=>n
def Qv3 (c:UInt8):Bool:=decide (48≤c.toNat)&&decide (c.toNat≤57)
theorem Qsi:∀n:Nat,n<256→inS q8s (UInt8.ofNat n)=Qv3 (UInt8.ofNat n):=by decide +kernel
theorem Qvn (c:UInt8):inS q8s c=Qv3 c:=by
 have:=Qsi c.toNat c.toNat_lt
 rwa [UInt8.ofNat_toNat] at this
def qlq (s:List UInt8):Bool:=q2e s qfx&&!((s.drop qfx.length==[])||(((s.drop qfx.length).getD 0 0).toNat:Int)==48)&&(s.drop qfx.length).all Qv3
theorem Qwg (s p:List UInt8):qba prog Gl 149 [.d (.str s),.d (.str p)] (.tup [.d (.str (if q2e s p=true then s.drop p.length else s)),.d (.bool (q2e s p))]):=by
 refine qba.of2t2 ?_
 refine qac func149 rfl rfl (by simp[ntmps149]) (qab rfl _ _ _ _ ?_)
 simp only[ntmps149,results149,qak,List.length_nil]
 simp only[zU,seval]
 refine qad (Qxc s p) ?_
 simp only[zU,seval]
 refine ifC.mk (fun h=>?_) (fun h=>?_)
 ·have h:q2e s p=false:=by simpa using h
  refine⟨_,_,qxa,?_,rfl⟩
  rw[h,if_neg (by simp)]
 ·have h:q2e s p=true:=by simpa using h
  have hl:p.length≤s.length:=by
   rw[q2e,Bool.and_eq_true,decide_eq_true_eq] at h;exact h.1
  (try simp only[zU,seval,(show(p.length:Int)≤s.length by omega),List.take_length])
  repeat((with_reducible apply aI);exact sdp)
  refine⟨_,_,qxa,?_,rfl⟩
  rw[h,if_pos rfl]
theorem q78 (s p:List UInt8):qba prog Gl 96 [.d (.str s),.d (.str p)] (.tup [.d (.str (if q2e s p=true then s.drop p.length else s)),.d (.bool (q2e s p))]):=by
 refine qba.of2t2 ?_
 refine qac func96 rfl rfl (by simp[ntmps96]) (qab rfl _ _ _ _ ?_)
 simp only[ntmps96,results96,qak,List.length_nil]
 simp only[zU,seval]
 refine qad (Qwg s p) ?_
 simp only[zU,seval]
 exact⟨_,_,qxa,rfl,rfl⟩
theorem Qea (s:List UInt8) (hs:s.length<9223372036854775808):qba prog Gl 52 [.d (.str s)] (.d (.bool (qlq s))):=by
 refine qba.of1 ?_
 refine qac func52 rfl rfl (by simp[ntmps52]) (qab rfl _ _ _ _ ?_)
 simp only[ntmps52,results52,qak,List.length_nil]
 simp only[zU,seval]
 refine qad (q78 s _) ?_
 have e7:[104,105,100,100,101,110,45]=qfx:=rfl
 rw[e7]
 obtain⟨b,hb⟩:∃b,b=q2e s qfx:=⟨_,rfl⟩
 rw[←hb]
 cases b with
 | false=>
  simp only[zU,seval]
  refine⟨_,_,qap,?_,rfl⟩
  rw[qlq,←hb];rfl
 | true=>
  obtain⟨t,ht⟩:∃t,t=s.drop qfx.length:=⟨_,rfl⟩
  have e:qlq s=(!((t==[])||((t.getD 0 0).toNat:Int)==48)&&t.all Qv3):=by rw[qlq,←hb,ht,Bool.true_and]
  have hl:t.length≤s.length:=by rw[ht,List.length_drop];omega
  rw[e]
  simp only[zU,seval,←ht]
  refine⟨fun h=>?_,?_⟩
  ·cases t with
   | nil=>cases h
   | cons a b=>simp
  refine ifC.mk (fun hc=>?_) (fun hc=>?_)
  ·refine⟨_,_,qap,?_,rfl⟩
   rw[hc];rfl
  ·have h0:t≠[]:=by rintro rfl;cases hc
   rw[show([48,49,50,51,52,53,54,55,56,57]:List UInt8)=q8s from rfl]
   refine qad (Qu7 t (by omega) h0) ?_
   simp only[zU,seval]
   refine⟨_,_,qap,?_,rfl⟩
   rw[hc,q9u q8s t.length t rfl]
   congr 2
   rw[Bool.not_false,Bool.true_and]
   congr 1
   funext c
   exact Qvn c

def qbi (g:Int→Bool):Key→Option AV
 | .i n=>if g n=true then some (.d (.bool true)) else none
 | .s _=>none
theorem qz1 (g:Int→Bool):∀k v,qbi g k=some v→∃d,v=.d d:=by
 intro k v h
 cases k with
 | s m=>cases h
 | i m=>
  simp only[qbi] at h
  split at h
  ·cases h;exact⟨_,rfl⟩
  ·cases h
theorem qav (g:Int→Bool) (n:Int):(qbi g (.i n)).getD (.d (.bool false))=.d (.bool (g n)):=by
 cases h:g n<;>simp[qbi,h]
theorem Ql7 (g:Int→Bool) (n:Int):qgs (qbi g) (.i n) (.d (.bool true))=qbi (fun m=>m==n||g m):=by
 funext k
 cases k with
 | s m=>simp[qgs,qbi]
 | i m=>by_cases h:m=n<;>simp[qgs,qbi,h]
theorem Qhn:(fun _=>none)=qbi fun _=>false:=by
 funext k;cases k<;>simp[qbi]
theorem qby (g:Int→Bool) (ρ:List Nat) (σ:Sto):qbx ρ σ (.map (some .i64) (qbi g))=.map (some .i64) (qbi g):=qg9 (B:=.map (some .i64) (qbi g)) (qz1 g) ρ σ
theorem qc0 (g:Int→Bool) (b:Nat→Nat):qdg b (.map (some .i64) (qbi g))=.map (some .i64) (qbi g):=qha (B:=.map (some .i64) (qbi g)) (qz1 g) b
theorem qls {α:Type} {p:α→Bool} {l:List α} {k j:Nat} (hk:k<l.length) (h:(l.take (k+1)).filter p=l.take k) (hj:k<j) (hjl:j≤l.length):((l.take j).filter p).length<j:=by
 have e:l.take j=l.take (k+1)++(l.take j).drop (k+1):=by
  conv=>lhs;rw[←List.take_append_drop (k+1) (l.take j)]
  rw[List.take_take,Nat.min_eq_left (by omega)]
 have h2:=List.length_filter_le p ((l.take j).drop (k+1))
 rw[e,List.filter_append,List.length_append,h,List.length_take]
 rw[List.length_drop,List.length_take] at h2
 omega
theorem qgb {α:Type} [Inhabited α] {xs:List α} {i:Nat} (h:i<xs.length) (x:α):(xs.set i x).take (i+1)=xs.take i++[x]:=by
 rw[qa0 _ i (by rw[List.length_set];exact h)]
 congr 1
 ·apply List.ext_getElem?
  intro k
  rcases Nat.lt_or_ge k i with hk|hk
  ·rw[List.getElem?_take_of_lt hk,List.getElem?_take_of_lt hk,List.getElem?_set_ne (by omega)]
  ·rw[List.getElem?_eq_none (by rw[List.length_take];omega),List.getElem?_eq_none (by rw[List.length_take];omega)]
 ·rw[List.getD_eq_getElem?_getD,List.getElem?_set_self h];rfl
theorem qgc {α:Type} {xs:List α} {i j:Nat} (h:i<j) (x:α):(xs.set i x).drop j=xs.drop j:=by
 apply List.ext_getElem?
 intro k
 rw[List.getElem?_drop,List.getElem?_drop,List.getElem?_set_ne (by omega)]
theorem qfi (xs:List D) (i n:Nat) (z:D):(qho xs i n z).take i=xs.take i:=by
 apply List.ext_getElem?
 intro k
 rcases Nat.lt_or_ge k i with hk|hk
 ·rw[List.getElem?_take_of_lt hk,List.getElem?_take_of_lt hk]
  rcases Nat.lt_or_ge k xs.length with h|h
  ·rw[qoi _ _ _ _ _ h,if_neg (by omega),List.getD_eq_getElem?_getD,List.getElem?_eq_getElem h];rfl
  ·rw[List.getElem?_eq_none (by rw[qbj];exact h),List.getElem?_eq_none h]
 ·rw[List.getElem?_eq_none (by rw[List.length_take];omega),List.getElem?_eq_none (by rw[List.length_take];omega)]
theorem q1o (l:List qaj) (hl:l.length<1000000):qkl prog Gl 138 [.d (.sl (l.map qaj.toD))] 3 (l.map qaj.toD):=by
 refine qkl.of (args:=[.sl (l.map qaj.toD)]) ?_
 have hes:∀y∈l.map qaj.toD,y.cells.length=3:=fun y hy=>by
  obtain⟨r,_,rfl⟩:=List.mem_map.1 hy;rfl
 have hfl:∀y∈l.map qaj.toD,y.flat:=fun y hy=>by
  obtain⟨r,_,rfl⟩:=List.mem_map.1 hy
  intro c hc
  simp[qaj.toD,D.cells] at hc
  rcases hc with rfl|rfl|rfl<;>rfl
 simp only[List.map_cons,List.map_nil]
 cases l with
 | nil=>
  refine qac func138 rfl rfl (by simp[ntmps138]) (qab rfl _ _ _ _ ?_)
  simp only[ntmps138,results138,qak,List.length_nil]
  simp only[zU,seval]
  refine⟨⟨_,_,qfd 3 (Nat.le_refl 0),rfl,rfl⟩,?_⟩
  exact⟨_,_,qai [] [1] rfl (by simp) rfl rfl,rfl,rfl⟩
 | cons r rs=>
  simp only[List.map_cons,List.length_cons] at hes hl hfl ⊢
  refine qac func138 rfl rfl (by simp[ntmps138]) (qab rfl _ _ _ _ ?_)
  simp only[ntmps138,results138,qak,List.length_nil]
  simp only[zU,seval]
  refine⟨by omega,?_⟩
  exact⟨_,_,qai [] [1] rfl (by simp) rfl rfl,rfl,rfl⟩
theorem qe3 (g:Int→Bool) (xs:List D) (σ:Sto):qdp [0,1,2] (freezeL (.box 1 (.mapr 1)::.map (some .i64) (qbi g)::.arr 3 xs::σ) [])=.box 1 (.mapr 1)::.map (some .i64) (qbi g)::.arr 3 xs::[]:=by
 show[qbx [0,1,2] _ (.box 1 (.mapr 1)),qbx [0,1,2] _ (.map (some .i64) (qbi g)),_]=_
 rw[qby];rfl
theorem Qdm (g:Int→Bool) (xs:List D) (B:Blk):qdp [0,1,3] (freezeL (.box 1 (.mapr 1)::.map (some .i64) (qbi g)::B::.arr 3 xs::[]) [])=.box 1 (.mapr 1)::.map (some .i64) (qbi g)::.arr 3 xs::[]:=by
 show[qbx [0,1,3] _ (.box 1 (.mapr 1)),qbx [0,1,3] _ (.map (some .i64) (qbi g)),_]=_
 rw[qby];rfl
theorem Qdn (g:Int→Bool) (σ:Sto):qdp [0,1] (freezeL (.box 1 (.mapr 1)::.map (some .i64) (qbi g)::σ) [])=.box 1 (.mapr 1)::.map (some .i64) (qbi g)::[]:=by
 show[qbx [0,1] _ (.box 1 (.mapr 1)),qbx [0,1] _ (.map (some .i64) (qbi g))]=_
 rw[qby];rfl
theorem q7u (g:Int→Bool) {fv:FuncId} (p:qaj→Bool) (hp:∀x:qaj,qal prog Gl fv [.d x.toD,.ptr 0 0] (.box 1 (.mapr 1)::.map (some .i64) (qbi g)::[]) (fun r s=>r=.d (.bool (p x))∧s=(.box 1 (.mapr 1)::.map (some .i64) (qbi g)::[]))) (l:List qaj) (hl:l.length<1000000) :
  qal prog Gl 187 [.osl 2 0 l.length,.fn fv [.ptr 0 0]] (.box 1 (.mapr 1)::.map (some .i64) (qbi g)::.arr 3 (l.map qaj.toD)::[])
  (fun r s=>(∃j:Int,r=.d (.int .i64 j)∧((j=-1∧l.filter (fun x=>!p x)=l)∨∃k:Nat,j=k∧k<l.length∧(l.take (k+1)).filter (fun x=>!p x)=l.take k))∧s=(.box 1 (.mapr 1)::.map (some .i64) (qbi g)::.arr 3 (l.map qaj.toD)::[])):=by
 refine qac func187 rfl rfl (by simp[ntmps187]) (qab rfl _ _ _ _ ?_)
 simp only[ntmps187,results187,qak,List.length_nil]
 simp only[zU,seval]
 refine qan l.length (fun k=>[(0,.osl 2 0 l.length),(1,.fn fv [.ptr 0 0]),(7,.d (.int .i64 l.length)),(8,.d (.int .i64 k))]) (fun _=>(.box 1 (.mapr 1)::.map (some .i64) (qbi g)::.arr 3 (l.map qaj.toD)::[])) (fun k=>(l.take k).filter (fun x=>!p x)=l.take k) rfl ?_ ?_
 ·refine qaa [] [0,1,2] rfl (by simp) ?_ (qe3 g _ _)
  simp only[zU,seval]
  try rfl
 ·intro k hi hk
  by_cases h:k<l.length
  ·obtain⟨x,hx⟩:∃x,x=l.getD k default:=⟨_,rfl⟩
   have eg:(l.map qaj.toD).getD k default=x.toD:=by rw[qah _ _ _ h,←hx]
   have hst:=qa0 l k h
   rw[←hx] at hst
   simp only[zU,seval,(show(k:Int)<l.length by omega),h,eg]
   repeat((with_reducible apply aI);exact sdp)
   refine qb1 (R:=fun r ν=>r=.d (.bool (p x))∧ν=[]) [0,1] (.box 1 (.mapr 1)::.map (some .i64) (qbi g)::[]) (by simp) (by simp) (show[qbx [0,1] _ (.box 1 (.mapr 1)),qbx [0,1] _ (.map (some .i64) (qbi g))]=_ by rw[qby];rfl) rfl (hk2 rfl (qc0 g _)) ((hp x).mono fun r s hr=>⟨[],by rw[hr.2];rfl,hr.1,rfl⟩) (fun r ν hr=>?_)
   obtain⟨rfl,rfl⟩:=hr
   simp only[zU,seval,List.map_nil,List.append_nil]
   refine ifC.mk (fun hc=>?_) (fun hc=>?_)
   ·refine⟨_,_,qai [] [0,1,2] rfl (by simp) (show qbk _ _ _=AV.d _ from rfl) (qe3 g _ _),⟨k,rfl,.inr ⟨k,rfl,h,?_⟩⟩,rfl⟩
    rw[hst,List.filter_append,hi,List.filter_cons_of_neg (by rw[hc];simp)]
    simp
   ·refine⟨by rw[hst,List.filter_append,hi,List.filter_cons_of_pos (by rw[hc];rfl)];rfl,?_⟩
    refine qaa [] [0,1,2] rfl (by simp) ?_ (qe3 g _ _)
    simp only[zU,seval,@qaf ((k:Int)+1) (by omega)]
    try rfl
  ·have:k=l.length:=by omega
   subst this
   rw[List.take_length] at hi
   simp only[zU,seval,(show ¬(l.length:Int)<l.length by omega)]
   exact⟨_,_,qai [] [0,1,2] rfl (by simp) (show qbk _ _ _=AV.d _ from rfl) (qe3 g _ _),⟨-1,rfl,.inl ⟨rfl,hi⟩⟩,rfl⟩
theorem q7y (g:Int→Bool) {fv:FuncId} (p:qaj→Bool) (hp:∀x:qaj,qal prog Gl fv [.d x.toD,.ptr 0 0] (.box 1 (.mapr 1)::.map (some .i64) (qbi g)::[]) (fun r s=>r=.d (.bool (p x))∧s=(.box 1 (.mapr 1)::.map (some .i64) (qbi g)::[]))) (l:List qaj) (hl:l.length<1000000) :
  qal prog Gl 137 [.osl 2 0 l.length,.fn fv [.ptr 0 0]] (.box 1 (.mapr 1)::.map (some .i64) (qbi g)::.arr 3 (l.map qaj.toD)::[])
  (fun r s=>(r=.osl 2 0 (l.filter (fun x=>!p x)).length∧s=(.box 1 (.mapr 1)::.map (some .i64) (qbi g)::.arr 3 ((l.filter (fun x=>!p x)).map qaj.toD)::[]))∨(r=.osl 3 0 (l.filter (fun x=>!p x)).length∧s=(.box 1 (.mapr 1)::.map (some .i64) (qbi g)::.dead::.arr 3 ((l.filter (fun x=>!p x)).map qaj.toD)::[]))):=by
 refine qac func137 rfl rfl (by simp[ntmps137]) (qab rfl _ _ _ _ ?_)
 simp only[ntmps137,results137,qak,List.length_nil]
 simp only[zU,seval]
 refine qa1 ((q7u g p hp l hl).mono fun r s hr=>?_)
 obtain⟨⟨c,rfl,hcs⟩,rfl⟩:=hr
 rcases hcs with⟨rfl,hn⟩|⟨k,rfl,hk,hf⟩
 ·simp only[zU,seval]
  rw[hn]
  refine⟨_,_,qai [] [0,1,2] rfl (by simp) rfl (qe3 g _ _),.inl ⟨rfl,rfl⟩⟩
 ·have e0:((k:Int)==-1)=false:=by rw[beq_eq_false_iff_ne];omega
  simp only[zU,seval,e0,@qaf ((k:Int)+1) (by omega)]
  repeat((with_reducible apply aI);exact sdp)
  refine qcr (τ:=Nat×List qaj) (fun u=>[(0,.osl 2 0 l.length),(1,.fn fv [.ptr 0 0]),(5,.d (.int .i64 (((l.take u.1).filter (fun x=>!p x)).length:Nat))),(6,.d (.int .i64 u.1))]) (fun u=>(.box 1 (.mapr 1)::.map (some .i64) (qbi g)::.arr 3 (u.2.map qaj.toD)::[]))
   (fun u=>k<u.1∧u.1≤l.length∧u.2.length=l.length∧u.2.take ((l.take u.1).filter (fun x=>!p x)).length=(l.take u.1).filter (fun x=>!p x)∧u.2.drop u.1=l.drop u.1) (fun u=>l.length-u.1) (k+1,l) ?_ ?_ ?_
  ·refine⟨by simp only;omega,hk,rfl,?_,rfl⟩
   simp only
   rw[hf,List.length_take,Nat.min_eq_left (by omega)]
  ·have e1:((l.take (k+1)).filter (fun x=>!p x)).length=k:=by rw[hf,List.length_take];omega
   rw[e1]
   refine qaa [] [0,1,2] rfl (by simp) ?_ (qe3 g _ _)
   simp only[zU,seval]
   try rfl
  ·rintro⟨j,xs⟩ ⟨hkj,hj,hxl,hpre,hdr⟩
   simp only at hkj hj hxl hpre hdr
   obtain⟨i,hi⟩:∃i,i=((l.take j).filter (fun x=>!p x)).length:=⟨_,rfl⟩
   have hij:=qls hk hf hkj hj
   rw[←hi] at hpre hij
   rw[←hi]
   by_cases h:j<l.length
   ·obtain⟨x,hx⟩:∃x,x=l.getD j default:=⟨_,rfl⟩
    have hxx:xs.getD j default=x:=by
     have e:xs[j]? = l[j]? := by
      have:=congrArg (fun z=>z[0]?) hdr
      simpa using this
     rw[List.getD_eq_getElem?_getD,e,hx,List.getD_eq_getElem?_getD]
    have eg:(xs.map qaj.toD).getD j default=x.toD:=by rw[qah _ _ _ (by omega),hxx]
    have hst:=qa0 l j h
    rw[←hx] at hst
    simp only[zU,seval,(show(j:Int)<l.length by omega),h,eg,hxl]
    repeat((with_reducible apply aI);exact sdp)
    refine qb1 (R:=fun r ν=>r=.d (.bool (p x))∧ν=[]) [0,1] (.box 1 (.mapr 1)::.map (some .i64) (qbi g)::[]) (by simp) (by simp) (show[qbx [0,1] _ (.box 1 (.mapr 1)),qbx [0,1] _ (.map (some .i64) (qbi g))]=_ by rw[qby];rfl) rfl (hk2 rfl (qc0 g _)) ((hp x).mono fun r s hr=>⟨[],by rw[hr.2];rfl,hr.1,rfl⟩) (fun r ν hr=>?_)
    obtain⟨rfl,rfl⟩:=hr
    simp only[zU,seval,List.map_nil,List.append_nil]
    have hdr2:xs.drop (j+1)=l.drop (j+1):=by
     have:=congrArg (List.drop 1) hdr
     rwa [List.drop_drop,List.drop_drop] at this
    refine ifC.mk (fun hc=>?_) (fun hc=>?_)
    ·have hfl:(l.take (j+1)).filter (fun x=>!p x)=(l.take j).filter (fun x=>!p x)++[x]:=by rw[hst,List.filter_append,List.filter_cons_of_pos (p:=fun x=>!p x) hc];rfl
     have hfn:((l.take (j+1)).filter (fun x=>!p x)).length=i+1:=by rw[hfl,List.length_append,←hi];rfl
     (try simp only[zU,seval,(show(i:Int)<l.length by omega),hxl])
     repeat((with_reducible apply aI);exact sdp)
     refine⟨(j+1,xs.set i x),⟨by simp only;omega,h,by simp only[List.length_set];exact hxl,?_,?_⟩,by simp only;omega,?_⟩
     ·simp only
      rw[hfn,qgb (by omega),hpre,hfl]
     ·simp only
      rw[qgc (by omega),hdr2]
     ·simp only[hfn,List.map_set]
      refine qaa [] [0,1,2] rfl (by simp) ?_ (qe3 g _ _)
      simp only[zU,seval,@qaf ((j:Int)+1) (by omega),@qaf ((i:Int)+1) (by omega)]
      try rfl
    ·have hfl:(l.take (j+1)).filter (fun x=>!p x)=(l.take j).filter (fun x=>!p x):=by rw[hst,List.filter_append,List.filter_cons_of_neg (by rw[hc];simp)];simp
     refine⟨(j+1,xs),⟨by simp only;omega,h,hxl,?_,hdr2⟩,by simp only;omega,?_⟩
     ·simp only
      rw[hfl,←hi,hpre]
     ·simp only[hfl,←hi]
      refine qaa [] [0,1,2] rfl (by simp) ?_ (qe3 g _ _)
      simp only[zU,seval,@qaf ((j:Int)+1) (by omega)]
      try rfl
   ·have hjl:j=l.length:=by omega
    subst hjl
    rw[List.take_length] at hpre hi
    simp only[zU,seval,(show ¬(l.length:Int)<l.length by omega),(show(i:Int)≤l.length by omega),hxl,(show i≤l.length by omega)]
    repeat((with_reducible apply aI);exact sdp)
    refine⟨_,_,qf9 2 i (by simp) rfl (by rw[qbj];simp;omega) (by rw[qbj];simp;omega),.inr ⟨by rw[hi];rfl,?_⟩⟩
    rw[qfi,←List.map_take,hpre]
    rfl
theorem qus (g:Int→Bool) {fv:FuncId} (p:qaj→Bool) (hp:∀x:qaj,qal prog Gl fv [.d x.toD,.ptr 0 0] (.box 1 (.mapr 1)::.map (some .i64) (qbi g)::[]) (fun r s=>r=.d (.bool (p x))∧s=(.box 1 (.mapr 1)::.map (some .i64) (qbi g)::[]))) (l:List qaj) (hl:l.length<1000000) :
  qal prog Gl 73 [.d (.sl (l.map qaj.toD)),.fn fv [.ptr 0 0]] (.box 1 (.mapr 1)::.map (some .i64) (qbi g)::[])
  (fun r s=>r=.osl 2 0 (l.filter (fun x=>!p x)).length∧s=(.box 1 (.mapr 1)::.map (some .i64) (qbi g)::.arr 3 ((l.filter (fun x=>!p x)).map qaj.toD)::[])):=by
 refine qac func73 rfl rfl (by simp[ntmps73]) (qab rfl _ _ _ _ ?_)
 simp only[ntmps73,results73,qak,List.length_nil]
 simp only[zU,seval]
 refine qa1 ((q1o l hl (.box 1 (.mapr 1)::.map (some .i64) (qbi g)::[])).mono fun r s hr=>?_)
 obtain⟨rfl,rfl⟩:=hr
 simp only[zU,seval,List.length_map]
 refine qa1 ((q7y g p hp l hl).mono fun r s hr=>?_)
 rcases hr with⟨rfl,rfl⟩|⟨rfl,rfl⟩
 ·simp only[zU,seval]
  exact⟨_,_,qai [] [0,1,2] rfl (by simp) rfl (qe3 g _ _),rfl,rfl⟩
 ·simp only[zU,seval]
  exact⟨_,_,qai [] [0,1,3] rfl (by simp) rfl (Qdm g _ _),rfl,rfl⟩
theorem q73 (l:List qbf) (hl:l.length<1000000):qkl prog Gl 140 [.d (.sl (l.map qbf.toD))] 7 (l.map qbf.toD):=by
 refine qkl.of (args:=[.sl (l.map qbf.toD)]) ?_
 have hes:∀y∈l.map qbf.toD,y.cells.length=7:=fun y hy=>by
  obtain⟨r,_,rfl⟩:=List.mem_map.1 hy;rfl
 have hfl:∀y∈l.map qbf.toD,y.flat:=fun y hy=>by
  obtain⟨r,_,rfl⟩:=List.mem_map.1 hy
  intro c hc
  simp[qbf.toD,D.cells] at hc
  rcases hc with rfl|rfl|rfl|rfl|rfl|rfl|rfl<;>rfl
 simp only[List.map_cons,List.map_nil]
 cases l with
 | nil=>
  refine qac func140 rfl rfl (by simp[ntmps140]) (qab rfl _ _ _ _ ?_)
  simp only[ntmps140,results140,qak,List.length_nil]
  simp only[zU,seval]
  refine⟨⟨_,_,qfd 7 (Nat.le_refl 0),rfl,rfl⟩,?_⟩
  exact⟨_,_,qai [] [1] rfl (by simp) rfl rfl,rfl,rfl⟩
 | cons r rs=>
  simp only[List.map_cons,List.length_cons] at hes hl hfl ⊢
  refine qac func140 rfl rfl (by simp[ntmps140]) (qab rfl _ _ _ _ ?_)
  simp only[ntmps140,results140,qak,List.length_nil]
  simp only[zU,seval]
  refine⟨by omega,?_⟩
  exact⟨_,_,qai [] [1] rfl (by simp) rfl rfl,rfl,rfl⟩
theorem qi3 (g:Int→Bool) (xs:List D) (σ:Sto):qdp [0,1,2] (freezeL (.box 1 (.mapr 1)::.map (some .i64) (qbi g)::.arr 7 xs::σ) [])=.box 1 (.mapr 1)::.map (some .i64) (qbi g)::.arr 7 xs::[]:=by
 show[qbx [0,1,2] _ (.box 1 (.mapr 1)),qbx [0,1,2] _ (.map (some .i64) (qbi g)),_]=_
 rw[qby];rfl
theorem Qae (g:Int→Bool) (σ:Sto):qdp [0,1] (freezeL (.box 1 (.mapr 1)::.map (some .i64) (qbi g)::σ) [])=.box 1 (.mapr 1)::.map (some .i64) (qbi g)::[]:=by
 show[qbx [0,1] _ (.box 1 (.mapr 1)),qbx [0,1] _ (.map (some .i64) (qbi g))]=_
 rw[qby];rfl
theorem Qid (g:Int→Bool) {fv:FuncId} (p:qbf→Bool) (hp:∀x:qbf,qal prog Gl fv [.d x.toD,.ptr 0 0] (.box 1 (.mapr 1)::.map (some .i64) (qbi g)::[]) (fun r s=>r=.d (.bool (p x))∧s=(.box 1 (.mapr 1)::.map (some .i64) (qbi g)::[]))) (l:List qbf) (hl:l.length<1000000) :
  qal prog Gl 174 [.osl 2 0 l.length,.fn fv [.ptr 0 0]] (.box 1 (.mapr 1)::.map (some .i64) (qbi g)::.arr 7 (l.map qbf.toD)::[])
  (fun r s=>(∃j:Int,r=.d (.int .i64 j)∧((j=-1∧l.filter (fun x=>!p x)=l)∨∃k:Nat,j=k∧k<l.length∧(l.take (k+1)).filter (fun x=>!p x)=l.take k))∧s=(.box 1 (.mapr 1)::.map (some .i64) (qbi g)::.arr 7 (l.map qbf.toD)::[])):=by
 refine qac func174 rfl rfl (by simp[ntmps174]) (qab rfl _ _ _ _ ?_)
 simp only[ntmps174,results174,qak,List.length_nil]
 simp only[zU,seval]
 refine qan l.length (fun k=>[(0,.osl 2 0 l.length),(1,.fn fv [.ptr 0 0]),(7,.d (.int .i64 l.length)),(8,.d (.int .i64 k))]) (fun _=>(.box 1 (.mapr 1)::.map (some .i64) (qbi g)::.arr 7 (l.map qbf.toD)::[])) (fun k=>(l.take k).filter (fun x=>!p x)=l.take k) rfl ?_ ?_
 ·refine qaa [] [0,1,2] rfl (by simp) ?_ (qi3 g _ _)
  simp only[zU,seval]
  try rfl
 ·intro k hi hk
  by_cases h:k<l.length
  ·obtain⟨x,hx⟩:∃x,x=l.getD k default:=⟨_,rfl⟩
   have eg:(l.map qbf.toD).getD k default=x.toD:=by rw[qah _ _ _ h,←hx]
   have hst:=qa0 l k h
   rw[←hx] at hst
   simp only[zU,seval,(show(k:Int)<l.length by omega),h,eg]
   repeat((with_reducible apply aI);exact sdp)
   refine qb1 (R:=fun r ν=>r=.d (.bool (p x))∧ν=[]) [0,1] (.box 1 (.mapr 1)::.map (some .i64) (qbi g)::[]) (by simp) (by simp) (show[qbx [0,1] _ (.box 1 (.mapr 1)),qbx [0,1] _ (.map (some .i64) (qbi g))]=_ by rw[qby];rfl) rfl (hk2 rfl (qc0 g _)) ((hp x).mono fun r s hr=>⟨[],by rw[hr.2];rfl,hr.1,rfl⟩) (fun r ν hr=>?_)
   obtain⟨rfl,rfl⟩:=hr
   simp only[zU,seval,List.map_nil,List.append_nil]
   refine ifC.mk (fun hc=>?_) (fun hc=>?_)
   ·refine⟨_,_,qai [] [0,1,2] rfl (by simp) (show qbk _ _ _=AV.d _ from rfl) (qi3 g _ _),⟨k,rfl,.inr ⟨k,rfl,h,?_⟩⟩,rfl⟩
    rw[hst,List.filter_append,hi,List.filter_cons_of_neg (by rw[hc];simp)]
    simp
   ·refine⟨by rw[hst,List.filter_append,hi,List.filter_cons_of_pos (by rw[hc];rfl)];rfl,?_⟩
    refine qaa [] [0,1,2] rfl (by simp) ?_ (qi3 g _ _)
    simp only[zU,seval,@qaf ((k:Int)+1) (by omega)]
    try rfl
  ·have:k=l.length:=by omega
   subst this
   rw[List.take_length] at hi
   simp only[zU,seval,(show ¬(l.length:Int)<l.length by omega)]
   exact⟨_,_,qai [] [0,1,2] rfl (by simp) (show qbk _ _ _=AV.d _ from rfl) (qi3 g _ _),⟨-1,rfl,.inl ⟨rfl,hi⟩⟩,rfl⟩
theorem Qik (g:Int→Bool) {fv:FuncId} (p:qbf→Bool) (hp:∀x:qbf,qal prog Gl fv [.d x.toD,.ptr 0 0] (.box 1 (.mapr 1)::.map (some .i64) (qbi g)::[]) (fun r s=>r=.d (.bool (p x))∧s=(.box 1 (.mapr 1)::.map (some .i64) (qbi g)::[]))) (l:List qbf) (hl:l.length<1000000) :
  qal prog Gl 139 [.osl 2 0 l.length,.fn fv [.ptr 0 0]] (.box 1 (.mapr 1)::.map (some .i64) (qbi g)::.arr 7 (l.map qbf.toD)::[])
  (fun r s=>(r=.osl 2 0 (l.filter (fun x=>!p x)).length∧s=(.box 1 (.mapr 1)::.map (some .i64) (qbi g)::.arr 7 ((l.filter (fun x=>!p x)).map qbf.toD)::[]))∨(r=.osl 3 0 (l.filter (fun x=>!p x)).length∧s=(.box 1 (.mapr 1)::.map (some .i64) (qbi g)::.dead::.arr 7 ((l.filter (fun x=>!p x)).map qbf.toD)::[]))):=by
 refine qac func139 rfl rfl (by simp[ntmps139]) (qab rfl _ _ _ _ ?_)
 simp only[ntmps139,results139,qak,List.length_nil]
 simp only[zU,seval]
 refine qa1 ((Qid g p hp l hl).mono fun r s hr=>?_)
 obtain⟨⟨c,rfl,hcs⟩,rfl⟩:=hr
 rcases hcs with⟨rfl,hn⟩|⟨k,rfl,hk,hf⟩
 ·simp only[zU,seval]
  rw[hn]
  refine⟨_,_,qai [] [0,1,2] rfl (by simp) rfl (qi3 g _ _),.inl ⟨rfl,rfl⟩⟩
 ·have e0:((k:Int)==-1)=false:=by rw[beq_eq_false_iff_ne];omega
  simp only[zU,seval,e0,@qaf ((k:Int)+1) (by omega)]
  repeat((with_reducible apply aI);exact sdp)
  refine qcr (τ:=Nat×List qbf) (fun u=>[(0,.osl 2 0 l.length),(1,.fn fv [.ptr 0 0]),(5,.d (.int .i64 (((l.take u.1).filter (fun x=>!p x)).length:Nat))),(6,.d (.int .i64 u.1))]) (fun u=>(.box 1 (.mapr 1)::.map (some .i64) (qbi g)::.arr 7 (u.2.map qbf.toD)::[]))
   (fun u=>k<u.1∧u.1≤l.length∧u.2.length=l.length∧u.2.take ((l.take u.1).filter (fun x=>!p x)).length=(l.take u.1).filter (fun x=>!p x)∧u.2.drop u.1=l.drop u.1) (fun u=>l.length-u.1) (k+1,l) ?_ ?_ ?_
  ·refine⟨by simp only;omega,hk,rfl,?_,rfl⟩
   simp only
   rw[hf,List.length_take,Nat.min_eq_left (by omega)]
  ·have e1:((l.take (k+1)).filter (fun x=>!p x)).length=k:=by rw[hf,List.length_take];omega
   rw[e1]
   refine qaa [] [0,1,2] rfl (by simp) ?_ (qi3 g _ _)
   simp only[zU,seval]
   try rfl
  ·rintro⟨j,xs⟩ ⟨hkj,hj,hxl,hpre,hdr⟩
   simp only at hkj hj hxl hpre hdr
   obtain⟨i,hi⟩:∃i,i=((l.take j).filter (fun x=>!p x)).length:=⟨_,rfl⟩
   have hij:=qls hk hf hkj hj
   rw[←hi] at hpre hij
   rw[←hi]
   by_cases h:j<l.length
   ·obtain⟨x,hx⟩:∃x,x=l.getD j default:=⟨_,rfl⟩
    have hxx:xs.getD j default=x:=by
     have e:xs[j]? = l[j]? := by
      have:=congrArg (fun z=>z[0]?) hdr
      simpa using this
     rw[List.getD_eq_getElem?_getD,e,hx,List.getD_eq_getElem?_getD]
    have eg:(xs.map qbf.toD).getD j default=x.toD:=by rw[qah _ _ _ (by omega),hxx]
    have hst:=qa0 l j h
    rw[←hx] at hst
    simp only[zU,seval,(show(j:Int)<l.length by omega),h,eg,hxl]
    repeat((with_reducible apply aI);exact sdp)
    refine qb1 (R:=fun r ν=>r=.d (.bool (p x))∧ν=[]) [0,1] (.box 1 (.mapr 1)::.map (some .i64) (qbi g)::[]) (by simp) (by simp) (show[qbx [0,1] _ (.box 1 (.mapr 1)),qbx [0,1] _ (.map (some .i64) (qbi g))]=_ by rw[qby];rfl) rfl (hk2 rfl (qc0 g _)) ((hp x).mono fun r s hr=>⟨[],by rw[hr.2];rfl,hr.1,rfl⟩) (fun r ν hr=>?_)
    obtain⟨rfl,rfl⟩:=hr
    simp only[zU,seval,List.map_nil,List.append_nil]
    have hdr2:xs.drop (j+1)=l.drop (j+1):=by
     have:=congrArg (List.drop 1) hdr
     rwa [List.drop_drop,List.drop_drop] at this
    refine ifC.mk (fun hc=>?_) (fun hc=>?_)
    ·have hfl:(l.take (j+1)).filter (fun x=>!p x)=(l.take j).filter (fun x=>!p x)++[x]:=by rw[hst,List.filter_append,List.filter_cons_of_pos (p:=fun x=>!p x) hc];rfl
     have hfn:((l.take (j+1)).filter (fun x=>!p x)).length=i+1:=by rw[hfl,List.length_append,←hi];rfl
     (try simp only[zU,seval,(show(i:Int)<l.length by omega),hxl])
     repeat((with_reducible apply aI);exact sdp)
     refine⟨(j+1,xs.set i x),⟨by simp only;omega,h,by simp only[List.length_set];exact hxl,?_,?_⟩,by simp only;omega,?_⟩
     ·simp only
      rw[hfn,qgb (by omega),hpre,hfl]
     ·simp only
      rw[qgc (by omega),hdr2]
     ·simp only[hfn,List.map_set]
      refine qaa [] [0,1,2] rfl (by simp) ?_ (qi3 g _ _)
      simp only[zU,seval,@qaf ((j:Int)+1) (by omega),@qaf ((i:Int)+1) (by omega)]
      try rfl
    ·have hfl:(l.take (j+1)).filter (fun x=>!p x)=(l.take j).filter (fun x=>!p x):=by rw[hst,List.filter_append,List.filter_cons_of_neg (by rw[hc];simp)];simp
     refine⟨(j+1,xs),⟨by simp only;omega,h,hxl,?_,hdr2⟩,by simp only;omega,?_⟩
     ·simp only
      rw[hfl,←hi,hpre]
     ·simp only[hfl,←hi]
      refine qaa [] [0,1,2] rfl (by simp) ?_ (qi3 g _ _)
      simp only[zU,seval,@qaf ((j:Int)+1) (by omega)]
      try rfl
   ·have hjl:j=l.length:=by omega
    subst hjl
    rw[List.take_length] at hpre hi
    simp only[zU,seval,(show ¬(l.length:Int)<l.length by omega),(show(i:Int)≤l.length by omega),hxl,(show i≤l.length by omega)]
    repeat((with_reducible apply aI);exact sdp)
    refine⟨_,_,qf9 2 i (by simp) rfl (by rw[qbj];simp;omega) (by rw[qbj];simp;omega),.inr ⟨by rw[hi];rfl,?_⟩⟩
    rw[qfi,←List.map_take,hpre]
    rfl
theorem q1i (g:Int→Bool) {fv:FuncId} (p:qbf→Bool) (hp:∀x:qbf,qal prog Gl fv [.d x.toD,.ptr 0 0] (.box 1 (.mapr 1)::.map (some .i64) (qbi g)::[]) (fun r s=>r=.d (.bool (p x))∧s=(.box 1 (.mapr 1)::.map (some .i64) (qbi g)::[]))) (l:List qbf) (hl:l.length<1000000) :
  qal prog Gl 75 [.d (.sl (l.map qbf.toD)),.fn fv [.ptr 0 0]] (.box 1 (.mapr 1)::.map (some .i64) (qbi g)::[])
  (fun r s=>r=.d (.sl ((l.filter (fun x=>!p x)).map qbf.toD))∧s=(.box 1 (.mapr 1)::.map (some .i64) (qbi g)::[])):=by
 refine qac func75 rfl rfl (by simp[ntmps75]) (qab rfl _ _ _ _ ?_)
 simp only[ntmps75,results75,qak,List.length_nil]
 simp only[zU,seval]
 refine qa1 ((q73 l hl (.box 1 (.mapr 1)::.map (some .i64) (qbi g)::[])).mono fun r s hr=>?_)
 obtain⟨rfl,rfl⟩:=hr
 simp only[zU,seval,List.length_map]
 refine qa1 ((Qik g p hp l hl).mono fun r s hr=>?_)
 rcases hr with⟨rfl,rfl⟩|⟨rfl,rfl⟩
 ·simp only[zU,seval]
  refine⟨_,_,(qc6 rfl).trans (qai [] [0,1] rfl (by simp) (show qbk _ _ _=AV.d _ from rfl) (Qae g _)),?_,rfl⟩
  show AV.d (D.sl (List.take _ (List.map qbf.toD _)))=_
  rw[qaz]
 ·simp only[zU,seval]
  refine⟨_,_,(qc6 rfl).trans (qai [] [0,1] rfl (by simp) (show qbk _ _ _=AV.d _ from rfl) (Qae g _)),?_,rfl⟩
  show AV.d (D.sl (List.take _ (List.map qbf.toD _)))=_
  rw[qaz]
theorem qnc (l:List qam) (hl:l.length<1000000):qkl prog Gl 69 [.d (.sl (l.map qam.toD))] 4 (l.map qam.toD):=by
 refine qkl.of (args:=[.sl (l.map qam.toD)]) ?_
 have hes:∀y∈l.map qam.toD,y.cells.length=4:=fun y hy=>by
  obtain⟨r,_,rfl⟩:=List.mem_map.1 hy;rfl
 have hfl:∀y∈l.map qam.toD,y.flat:=fun y hy=>by
  obtain⟨r,_,rfl⟩:=List.mem_map.1 hy
  intro c hc
  simp[qam.toD,D.cells] at hc
  rcases hc with rfl|rfl|rfl|rfl<;>rfl
 simp only[List.map_cons,List.map_nil]
 cases l with
 | nil=>
  refine qac func69 rfl rfl (by simp[ntmps69]) (qab rfl _ _ _ _ ?_)
  simp only[ntmps69,results69,qak,List.length_nil]
  simp only[zU,seval]
  refine⟨⟨_,_,qfd 4 (Nat.le_refl 0),rfl,rfl⟩,?_⟩
  exact⟨_,_,qai [] [1] rfl (by simp) rfl rfl,rfl,rfl⟩
 | cons r rs=>
  simp only[List.map_cons,List.length_cons] at hes hl hfl ⊢
  refine qac func69 rfl rfl (by simp[ntmps69]) (qab rfl _ _ _ _ ?_)
  simp only[ntmps69,results69,qak,List.length_nil]
  simp only[zU,seval]
  refine⟨by omega,?_⟩
  exact⟨_,_,qai [] [1] rfl (by simp) rfl rfl,rfl,rfl⟩
theorem qfp (g:Int→Bool) (xs:List D) (σ:Sto):qdp [0,1,2] (freezeL (.box 1 (.mapr 1)::.map (some .i64) (qbi g)::.arr 4 xs::σ) [])=.box 1 (.mapr 1)::.map (some .i64) (qbi g)::.arr 4 xs::[]:=by
 show[qbx [0,1,2] _ (.box 1 (.mapr 1)),qbx [0,1,2] _ (.map (some .i64) (qbi g)),_]=_
 rw[qby];rfl
theorem qxd (g:Int→Bool) (σ:Sto):qdp [0,1] (freezeL (.box 1 (.mapr 1)::.map (some .i64) (qbi g)::σ) [])=.box 1 (.mapr 1)::.map (some .i64) (qbi g)::[]:=by
 show[qbx [0,1] _ (.box 1 (.mapr 1)),qbx [0,1] _ (.map (some .i64) (qbi g))]=_
 rw[qby];rfl
theorem q7v (g:Int→Bool) {fv:FuncId} (p:qam→Bool) (hp:∀x:qam,qal prog Gl fv [.d x.toD,.ptr 0 0] (.box 1 (.mapr 1)::.map (some .i64) (qbi g)::[]) (fun r s=>r=.d (.bool (p x))∧s=(.box 1 (.mapr 1)::.map (some .i64) (qbi g)::[]))) (l:List qam) (hl:l.length<1000000) :
  qal prog Gl 175 [.osl 2 0 l.length,.fn fv [.ptr 0 0]] (.box 1 (.mapr 1)::.map (some .i64) (qbi g)::.arr 4 (l.map qam.toD)::[])
  (fun r s=>(∃j:Int,r=.d (.int .i64 j)∧((j=-1∧l.filter (fun x=>!p x)=l)∨∃k:Nat,j=k∧k<l.length∧(l.take (k+1)).filter (fun x=>!p x)=l.take k))∧s=(.box 1 (.mapr 1)::.map (some .i64) (qbi g)::.arr 4 (l.map qam.toD)::[])):=by
 refine qac func175 rfl rfl (by simp[ntmps175]) (qab rfl _ _ _ _ ?_)
 simp only[ntmps175,results175,qak,List.length_nil]
 simp only[zU,seval]
 refine qan l.length (fun k=>[(0,.osl 2 0 l.length),(1,.fn fv [.ptr 0 0]),(7,.d (.int .i64 l.length)),(8,.d (.int .i64 k))]) (fun _=>(.box 1 (.mapr 1)::.map (some .i64) (qbi g)::.arr 4 (l.map qam.toD)::[])) (fun k=>(l.take k).filter (fun x=>!p x)=l.take k) rfl ?_ ?_
 ·refine qaa [] [0,1,2] rfl (by simp) ?_ (qfp g _ _)
  simp only[zU,seval]
  try rfl
 ·intro k hi hk
  by_cases h:k<l.length
  ·obtain⟨x,hx⟩:∃x,x=l.getD k default:=⟨_,rfl⟩
   have eg:(l.map qam.toD).getD k default=x.toD:=by rw[qah _ _ _ h,←hx]
   have hst:=qa0 l k h
   rw[←hx] at hst
   simp only[zU,seval,(show(k:Int)<l.length by omega),h,eg]
   repeat((with_reducible apply aI);exact sdp)
   refine qb1 (R:=fun r ν=>r=.d (.bool (p x))∧ν=[]) [0,1] (.box 1 (.mapr 1)::.map (some .i64) (qbi g)::[]) (by simp) (by simp) (show[qbx [0,1] _ (.box 1 (.mapr 1)),qbx [0,1] _ (.map (some .i64) (qbi g))]=_ by rw[qby];rfl) rfl (hk2 rfl (qc0 g _)) ((hp x).mono fun r s hr=>⟨[],by rw[hr.2];rfl,hr.1,rfl⟩) (fun r ν hr=>?_)
   obtain⟨rfl,rfl⟩:=hr
   simp only[zU,seval,List.map_nil,List.append_nil]
   refine ifC.mk (fun hc=>?_) (fun hc=>?_)
   ·refine⟨_,_,qai [] [0,1,2] rfl (by simp) (show qbk _ _ _=AV.d _ from rfl) (qfp g _ _),⟨k,rfl,.inr ⟨k,rfl,h,?_⟩⟩,rfl⟩
    rw[hst,List.filter_append,hi,List.filter_cons_of_neg (by rw[hc];simp)]
    simp
   ·refine⟨by rw[hst,List.filter_append,hi,List.filter_cons_of_pos (by rw[hc];rfl)];rfl,?_⟩
    refine qaa [] [0,1,2] rfl (by simp) ?_ (qfp g _ _)
    simp only[zU,seval,@qaf ((k:Int)+1) (by omega)]
    try rfl
  ·have:k=l.length:=by omega
   subst this
   rw[List.take_length] at hi
   simp only[zU,seval,(show ¬(l.length:Int)<l.length by omega)]
   exact⟨_,_,qai [] [0,1,2] rfl (by simp) (show qbk _ _ _=AV.d _ from rfl) (qfp g _ _),⟨-1,rfl,.inl ⟨rfl,hi⟩⟩,rfl⟩
theorem q7z (g:Int→Bool) {fv:FuncId} (p:qam→Bool) (hp:∀x:qam,qal prog Gl fv [.d x.toD,.ptr 0 0] (.box 1 (.mapr 1)::.map (some .i64) (qbi g)::[]) (fun r s=>r=.d (.bool (p x))∧s=(.box 1 (.mapr 1)::.map (some .i64) (qbi g)::[]))) (l:List qam) (hl:l.length<1000000) :
  qal prog Gl 141 [.osl 2 0 l.length,.fn fv [.ptr 0 0]] (.box 1 (.mapr 1)::.map (some .i64) (qbi g)::.arr 4 (l.map qam.toD)::[])
  (fun r s=>(r=.osl 2 0 (l.filter (fun x=>!p x)).length∧s=(.box 1 (.mapr 1)::.map (some .i64) (qbi g)::.arr 4 ((l.filter (fun x=>!p x)).map qam.toD)::[]))∨(r=.osl 3 0 (l.filter (fun x=>!p x)).length∧s=(.box 1 (.mapr 1)::.map (some .i64) (qbi g)::.dead::.arr 4 ((l.filter (fun x=>!p x)).map qam.toD)::[]))):=by
 refine qac func141 rfl rfl (by simp[ntmps141]) (qab rfl _ _ _ _ ?_)
 simp only[ntmps141,results141,qak,List.length_nil]
 simp only[zU,seval]
 refine qa1 ((q7v g p hp l hl).mono fun r s hr=>?_)
 obtain⟨⟨c,rfl,hcs⟩,rfl⟩:=hr
 rcases hcs with⟨rfl,hn⟩|⟨k,rfl,hk,hf⟩
 ·simp only[zU,seval]
  rw[hn]
  refine⟨_,_,qai [] [0,1,2] rfl (by simp) rfl (qfp g _ _),.inl ⟨rfl,rfl⟩⟩
 ·have e0:((k:Int)==-1)=false:=by rw[beq_eq_false_iff_ne];omega
  simp only[zU,seval,e0,@qaf ((k:Int)+1) (by omega)]
  repeat((with_reducible apply aI);exact sdp)
  refine qcr (τ:=Nat×List qam) (fun u=>[(0,.osl 2 0 l.length),(1,.fn fv [.ptr 0 0]),(5,.d (.int .i64 (((l.take u.1).filter (fun x=>!p x)).length:Nat))),(6,.d (.int .i64 u.1))]) (fun u=>(.box 1 (.mapr 1)::.map (some .i64) (qbi g)::.arr 4 (u.2.map qam.toD)::[]))
   (fun u=>k<u.1∧u.1≤l.length∧u.2.length=l.length∧u.2.take ((l.take u.1).filter (fun x=>!p x)).length=(l.take u.1).filter (fun x=>!p x)∧u.2.drop u.1=l.drop u.1) (fun u=>l.length-u.1) (k+1,l) ?_ ?_ ?_
  ·refine⟨by simp only;omega,hk,rfl,?_,rfl⟩
   simp only
   rw[hf,List.length_take,Nat.min_eq_left (by omega)]
  ·have e1:((l.take (k+1)).filter (fun x=>!p x)).length=k:=by rw[hf,List.length_take];omega
   rw[e1]
   refine qaa [] [0,1,2] rfl (by simp) ?_ (qfp g _ _)
   simp only[zU,seval]
   try rfl
  ·rintro⟨j,xs⟩ ⟨hkj,hj,hxl,hpre,hdr⟩
   simp only at hkj hj hxl hpre hdr
   obtain⟨i,hi⟩:∃i,i=((l.take j).filter (fun x=>!p x)).length:=⟨_,rfl⟩
   have hij:=qls hk hf hkj hj
   rw[←hi] at hpre hij
   rw[←hi]
   by_cases h:j<l.length
   ·obtain⟨x,hx⟩:∃x,x=l.getD j default:=⟨_,rfl⟩
    have hxx:xs.getD j default=x:=by
     have e:xs[j]? = l[j]? := by
      have:=congrArg (fun z=>z[0]?) hdr
      simpa using this
     rw[List.getD_eq_getElem?_getD,e,hx,List.getD_eq_getElem?_getD]
    have eg:(xs.map qam.toD).getD j default=x.toD:=by rw[qah _ _ _ (by omega),hxx]
    have hst:=qa0 l j h
    rw[←hx] at hst
    simp only[zU,seval,(show(j:Int)<l.length by omega),h,eg,hxl]
    repeat((with_reducible apply aI);exact sdp)
    refine qb1 (R:=fun r ν=>r=.d (.bool (p x))∧ν=[]) [0,1] (.box 1 (.mapr 1)::.map (some .i64) (qbi g)::[]) (by simp) (by simp) (show[qbx [0,1] _ (.box 1 (.mapr 1)),qbx [0,1] _ (.map (some .i64) (qbi g))]=_ by rw[qby];rfl) rfl (hk2 rfl (qc0 g _)) ((hp x).mono fun r s hr=>⟨[],by rw[hr.2];rfl,hr.1,rfl⟩) (fun r ν hr=>?_)
    obtain⟨rfl,rfl⟩:=hr
    simp only[zU,seval,List.map_nil,List.append_nil]
    have hdr2:xs.drop (j+1)=l.drop (j+1):=by
     have:=congrArg (List.drop 1) hdr
     rwa [List.drop_drop,List.drop_drop] at this
    refine ifC.mk (fun hc=>?_) (fun hc=>?_)
    ·have hfl:(l.take (j+1)).filter (fun x=>!p x)=(l.take j).filter (fun x=>!p x)++[x]:=by rw[hst,List.filter_append,List.filter_cons_of_pos (p:=fun x=>!p x) hc];rfl
     have hfn:((l.take (j+1)).filter (fun x=>!p x)).length=i+1:=by rw[hfl,List.length_append,←hi];rfl
     (try simp only[zU,seval,(show(i:Int)<l.length by omega),hxl])
     repeat((with_reducible apply aI);exact sdp)
     refine⟨(j+1,xs.set i x),⟨by simp only;omega,h,by simp only[List.length_set];exact hxl,?_,?_⟩,by simp only;omega,?_⟩
     ·simp only
      rw[hfn,qgb (by omega),hpre,hfl]
     ·simp only
      rw[qgc (by omega),hdr2]
     ·simp only[hfn,List.map_set]
      refine qaa [] [0,1,2] rfl (by simp) ?_ (qfp g _ _)
      simp only[zU,seval,@qaf ((j:Int)+1) (by omega),@qaf ((i:Int)+1) (by omega)]
      try rfl
    ·have hfl:(l.take (j+1)).filter (fun x=>!p x)=(l.take j).filter (fun x=>!p x):=by rw[hst,List.filter_append,List.filter_cons_of_neg (by rw[hc];simp)];simp
     refine⟨(j+1,xs),⟨by simp only;omega,h,hxl,?_,hdr2⟩,by simp only;omega,?_⟩
     ·simp only
      rw[hfl,←hi,hpre]
     ·simp only[hfl,←hi]
      refine qaa [] [0,1,2] rfl (by simp) ?_ (qfp g _ _)
      simp only[zU,seval,@qaf ((j:Int)+1) (by omega)]
      try rfl
   ·have hjl:j=l.length:=by omega
    subst hjl
    rw[List.take_length] at hpre hi
    simp only[zU,seval,(show ¬(l.length:Int)<l.length by omega),(show(i:Int)≤l.length by omega),hxl,(show i≤l.length by omega)]
    repeat((with_reducible apply aI);exact sdp)
    refine⟨_,_,qf9 2 i (by simp) rfl (by rw[qbj];simp;omega) (by rw[qbj];simp;omega),.inr ⟨by rw[hi];rfl,?_⟩⟩
    rw[qfi,←List.map_take,hpre]
    rfl
theorem qut (g:Int→Bool) {fv:FuncId} (p:qam→Bool) (hp:∀x:qam,qal prog Gl fv [.d x.toD,.ptr 0 0] (.box 1 (.mapr 1)::.map (some .i64) (qbi g)::[]) (fun r s=>r=.d (.bool (p x))∧s=(.box 1 (.mapr 1)::.map (some .i64) (qbi g)::[]))) (l:List qam) (hl:l.length<1000000) :
  qal prog Gl 77 [.d (.sl (l.map qam.toD)),.fn fv [.ptr 0 0]] (.box 1 (.mapr 1)::.map (some .i64) (qbi g)::[])
  (fun r s=>r=.d (.sl ((l.filter (fun x=>!p x)).map qam.toD))∧s=(.box 1 (.mapr 1)::.map (some .i64) (qbi g)::[])):=by
 refine qac func77 rfl rfl (by simp[ntmps77]) (qab rfl _ _ _ _ ?_)
 simp only[ntmps77,results77,qak,List.length_nil]
 simp only[zU,seval]
 refine qa1 ((qnc l hl (.box 1 (.mapr 1)::.map (some .i64) (qbi g)::[])).mono fun r s hr=>?_)
 obtain⟨rfl,rfl⟩:=hr
 simp only[zU,seval,List.length_map]
 refine qa1 ((q7z g p hp l hl).mono fun r s hr=>?_)
 rcases hr with⟨rfl,rfl⟩|⟨rfl,rfl⟩
 ·simp only[zU,seval]
  refine⟨_,_,(qc6 rfl).trans (qai [] [0,1] rfl (by simp) (show qbk _ _ _=AV.d _ from rfl) (qxd g _)),?_,rfl⟩
  show AV.d (D.sl (List.take _ (List.map qam.toD _)))=_
  rw[qaz]
 ·simp only[zU,seval]
  refine⟨_,_,(qc6 rfl).trans (qai [] [0,1] rfl (by simp) (show qbk _ _ _=AV.d _ from rfl) (qxd g _)),?_,rfl⟩
  show AV.d (D.sl (List.take _ (List.map qam.toD _)))=_
  rw[qaz]
theorem qqh (l:List qar) (hl:l.length<1000000):qkl prog Gl 70 [.d (.sl (l.map qar.toD))] 7 (l.map qar.toD):=by
 refine qkl.of (args:=[.sl (l.map qar.toD)]) ?_
 have hes:∀y∈l.map qar.toD,y.cells.length=7:=fun y hy=>by
  obtain⟨r,_,rfl⟩:=List.mem_map.1 hy;rfl
 have hfl:∀y∈l.map qar.toD,y.flat:=fun y hy=>by
  obtain⟨r,_,rfl⟩:=List.mem_map.1 hy
  intro c hc
  simp[qar.toD,D.cells] at hc
  rcases hc with rfl|rfl|rfl|rfl|rfl|rfl|rfl<;>rfl
 simp only[List.map_cons,List.map_nil]
 cases l with
 | nil=>
  refine qac func70 rfl rfl (by simp[ntmps70]) (qab rfl _ _ _ _ ?_)
  simp only[ntmps70,results70,qak,List.length_nil]
  simp only[zU,seval]
  refine⟨⟨_,_,qfd 7 (Nat.le_refl 0),rfl,rfl⟩,?_⟩
  exact⟨_,_,qai [] [1] rfl (by simp) rfl rfl,rfl,rfl⟩
 | cons r rs=>
  simp only[List.map_cons,List.length_cons] at hes hl hfl ⊢
  refine qac func70 rfl rfl (by simp[ntmps70]) (qab rfl _ _ _ _ ?_)
  simp only[ntmps70,results70,qak,List.length_nil]
  simp only[zU,seval]
  refine⟨by omega,?_⟩
  exact⟨_,_,qai [] [1] rfl (by simp) rfl rfl,rfl,rfl⟩
theorem qgq (g:Int→Bool) (xs:List D) (σ:Sto):qdp [0,1,2] (freezeL (.box 1 (.mapr 1)::.map (some .i64) (qbi g)::.arr 7 xs::σ) [])=.box 1 (.mapr 1)::.map (some .i64) (qbi g)::.arr 7 xs::[]:=by
 show[qbx [0,1,2] _ (.box 1 (.mapr 1)),qbx [0,1,2] _ (.map (some .i64) (qbi g)),_]=_
 rw[qby];rfl
theorem q28 (g:Int→Bool) (σ:Sto):qdp [0,1] (freezeL (.box 1 (.mapr 1)::.map (some .i64) (qbi g)::σ) [])=.box 1 (.mapr 1)::.map (some .i64) (qbi g)::[]:=by
 show[qbx [0,1] _ (.box 1 (.mapr 1)),qbx [0,1] _ (.map (some .i64) (qbi g))]=_
 rw[qby];rfl
theorem Qeb (g:Int→Bool) {fv:FuncId} (p:qar→Bool) (hp:∀x:qar,qal prog Gl fv [.d x.toD,.ptr 0 0] (.box 1 (.mapr 1)::.map (some .i64) (qbi g)::[]) (fun r s=>r=.d (.bool (p x))∧s=(.box 1 (.mapr 1)::.map (some .i64) (qbi g)::[]))) (l:List qar) (hl:l.length<1000000) :
  qal prog Gl 173 [.osl 2 0 l.length,.fn fv [.ptr 0 0]] (.box 1 (.mapr 1)::.map (some .i64) (qbi g)::.arr 7 (l.map qar.toD)::[])
  (fun r s=>(∃j:Int,r=.d (.int .i64 j)∧((j=-1∧l.filter (fun x=>!p x)=l)∨∃k:Nat,j=k∧k<l.length∧(l.take (k+1)).filter (fun x=>!p x)=l.take k))∧s=(.box 1 (.mapr 1)::.map (some .i64) (qbi g)::.arr 7 (l.map qar.toD)::[])):=by
 refine qac func173 rfl rfl (by simp[ntmps173]) (qab rfl _ _ _ _ ?_)
 simp only[ntmps173,results173,qak,List.length_nil]
 simp only[zU,seval]
 refine qan l.length (fun k=>[(0,.osl 2 0 l.length),(1,.fn fv [.ptr 0 0]),(7,.d (.int .i64 l.length)),(8,.d (.int .i64 k))]) (fun _=>(.box 1 (.mapr 1)::.map (some .i64) (qbi g)::.arr 7 (l.map qar.toD)::[])) (fun k=>(l.take k).filter (fun x=>!p x)=l.take k) rfl ?_ ?_
 ·refine qaa [] [0,1,2] rfl (by simp) ?_ (qgq g _ _)
  simp only[zU,seval]
  try rfl
 ·intro k hi hk
  by_cases h:k<l.length
  ·obtain⟨x,hx⟩:∃x,x=l.getD k default:=⟨_,rfl⟩
   have eg:(l.map qar.toD).getD k default=x.toD:=by rw[qah _ _ _ h,←hx]
   have hst:=qa0 l k h
   rw[←hx] at hst
   simp only[zU,seval,(show(k:Int)<l.length by omega),h,eg]
   repeat((with_reducible apply aI);exact sdp)
   refine qb1 (R:=fun r ν=>r=.d (.bool (p x))∧ν=[]) [0,1] (.box 1 (.mapr 1)::.map (some .i64) (qbi g)::[]) (by simp) (by simp) (show[qbx [0,1] _ (.box 1 (.mapr 1)),qbx [0,1] _ (.map (some .i64) (qbi g))]=_ by rw[qby];rfl) rfl (hk2 rfl (qc0 g _)) ((hp x).mono fun r s hr=>⟨[],by rw[hr.2];rfl,hr.1,rfl⟩) (fun r ν hr=>?_)
   obtain⟨rfl,rfl⟩:=hr
   simp only[zU,seval,List.map_nil,List.append_nil]
   refine ifC.mk (fun hc=>?_) (fun hc=>?_)
   ·refine⟨_,_,qai [] [0,1,2] rfl (by simp) (show qbk _ _ _=AV.d _ from rfl) (qgq g _ _),⟨k,rfl,.inr ⟨k,rfl,h,?_⟩⟩,rfl⟩
    rw[hst,List.filter_append,hi,List.filter_cons_of_neg (by rw[hc];simp)]
    simp
   ·refine⟨by rw[hst,List.filter_append,hi,List.filter_cons_of_pos (by rw[hc];rfl)];rfl,?_⟩
    refine qaa [] [0,1,2] rfl (by simp) ?_ (qgq g _ _)
    simp only[zU,seval,@qaf ((k:Int)+1) (by omega)]
    try rfl
  ·have:k=l.length:=by omega
   subst this
   rw[List.take_length] at hi
   simp only[zU,seval,(show ¬(l.length:Int)<l.length by omega)]
   exact⟨_,_,qai [] [0,1,2] rfl (by simp) (show qbk _ _ _=AV.d _ from rfl) (qgq g _ _),⟨-1,rfl,.inl ⟨rfl,hi⟩⟩,rfl⟩
theorem Qed (g:Int→Bool) {fv:FuncId} (p:qar→Bool) (hp:∀x:qar,qal prog Gl fv [.d x.toD,.ptr 0 0] (.box 1 (.mapr 1)::.map (some .i64) (qbi g)::[]) (fun r s=>r=.d (.bool (p x))∧s=(.box 1 (.mapr 1)::.map (some .i64) (qbi g)::[]))) (l:List qar) (hl:l.length<1000000) :
  qal prog Gl 142 [.osl 2 0 l.length,.fn fv [.ptr 0 0]] (.box 1 (.mapr 1)::.map (some .i64) (qbi g)::.arr 7 (l.map qar.toD)::[])
  (fun r s=>(r=.osl 2 0 (l.filter (fun x=>!p x)).length∧s=(.box 1 (.mapr 1)::.map (some .i64) (qbi g)::.arr 7 ((l.filter (fun x=>!p x)).map qar.toD)::[]))∨(r=.osl 3 0 (l.filter (fun x=>!p x)).length∧s=(.box 1 (.mapr 1)::.map (some .i64) (qbi g)::.dead::.arr 7 ((l.filter (fun x=>!p x)).map qar.toD)::[]))):=by
 refine qac func142 rfl rfl (by simp[ntmps142]) (qab rfl _ _ _ _ ?_)
 simp only[ntmps142,results142,qak,List.length_nil]
 simp only[zU,seval]
 refine qa1 ((Qeb g p hp l hl).mono fun r s hr=>?_)
 obtain⟨⟨c,rfl,hcs⟩,rfl⟩:=hr
 rcases hcs with⟨rfl,hn⟩|⟨k,rfl,hk,hf⟩
 ·simp only[zU,seval]
  rw[hn]
  refine⟨_,_,qai [] [0,1,2] rfl (by simp) rfl (qgq g _ _),.inl ⟨rfl,rfl⟩⟩
 ·have e0:((k:Int)==-1)=false:=by rw[beq_eq_false_iff_ne];omega
  simp only[zU,seval,e0,@qaf ((k:Int)+1) (by omega)]
  repeat((with_reducible apply aI);exact sdp)
  refine qcr (τ:=Nat×List qar) (fun u=>[(0,.osl 2 0 l.length),(1,.fn fv [.ptr 0 0]),(5,.d (.int .i64 (((l.take u.1).filter (fun x=>!p x)).length:Nat))),(6,.d (.int .i64 u.1))]) (fun u=>(.box 1 (.mapr 1)::.map (some .i64) (qbi g)::.arr 7 (u.2.map qar.toD)::[]))
   (fun u=>k<u.1∧u.1≤l.length∧u.2.length=l.length∧u.2.take ((l.take u.1).filter (fun x=>!p x)).length=(l.take u.1).filter (fun x=>!p x)∧u.2.drop u.1=l.drop u.1) (fun u=>l.length-u.1) (k+1,l) ?_ ?_ ?_
  ·refine⟨by simp only;omega,hk,rfl,?_,rfl⟩
   simp only
   rw[hf,List.length_take,Nat.min_eq_left (by omega)]
  ·have e1:((l.take (k+1)).filter (fun x=>!p x)).length=k:=by rw[hf,List.length_take];omega
   rw[e1]
   refine qaa [] [0,1,2] rfl (by simp) ?_ (qgq g _ _)
   simp only[zU,seval]
   try rfl
  ·rintro⟨j,xs⟩ ⟨hkj,hj,hxl,hpre,hdr⟩
   simp only at hkj hj hxl hpre hdr
   obtain⟨i,hi⟩:∃i,i=((l.take j).filter (fun x=>!p x)).length:=⟨_,rfl⟩
   have hij:=qls hk hf hkj hj
   rw[←hi] at hpre hij
   rw[←hi]
   by_cases h:j<l.length
   ·obtain⟨x,hx⟩:∃x,x=l.getD j default:=⟨_,rfl⟩
    have hxx:xs.getD j default=x:=by
     have e:xs[j]? = l[j]? := by
      have:=congrArg (fun z=>z[0]?) hdr
      simpa using this
     rw[List.getD_eq_getElem?_getD,e,hx,List.getD_eq_getElem?_getD]
    have eg:(xs.map qar.toD).getD j default=x.toD:=by rw[qah _ _ _ (by omega),hxx]
    have hst:=qa0 l j h
    rw[←hx] at hst
    simp only[zU,seval,(show(j:Int)<l.length by omega),h,eg,hxl]
    repeat((with_reducible apply aI);exact sdp)
    refine qb1 (R:=fun r ν=>r=.d (.bool (p x))∧ν=[]) [0,1] (.box 1 (.mapr 1)::.map (some .i64) (qbi g)::[]) (by simp) (by simp) (show[qbx [0,1] _ (.box 1 (.mapr 1)),qbx [0,1] _ (.map (some .i64) (qbi g))]=_ by rw[qby];rfl) rfl (hk2 rfl (qc0 g _)) ((hp x).mono fun r s hr=>⟨[],by rw[hr.2];rfl,hr.1,rfl⟩) (fun r ν hr=>?_)
    obtain⟨rfl,rfl⟩:=hr
    simp only[zU,seval,List.map_nil,List.append_nil]
    have hdr2:xs.drop (j+1)=l.drop (j+1):=by
     have:=congrArg (List.drop 1) hdr
     rwa [List.drop_drop,List.drop_drop] at this
    refine ifC.mk (fun hc=>?_) (fun hc=>?_)
    ·have hfl:(l.take (j+1)).filter (fun x=>!p x)=(l.take j).filter (fun x=>!p x)++[x]:=by rw[hst,List.filter_append,List.filter_cons_of_pos (p:=fun x=>!p x) hc];rfl
     have hfn:((l.take (j+1)).filter (fun x=>!p x)).length=i+1:=by rw[hfl,List.length_append,←hi];rfl
     (try simp only[zU,seval,(show(i:Int)<l.length by omega),hxl])
     repeat((with_reducible apply aI);exact sdp)
     refine⟨(j+1,xs.set i x),⟨by simp only;omega,h,by simp only[List.length_set];exact hxl,?_,?_⟩,by simp only;omega,?_⟩
     ·simp only
      rw[hfn,qgb (by omega),hpre,hfl]
     ·simp only
      rw[qgc (by omega),hdr2]
     ·simp only[hfn,List.map_set]
      refine qaa [] [0,1,2] rfl (by simp) ?_ (qgq g _ _)
      simp only[zU,seval,@qaf ((j:Int)+1) (by omega),@qaf ((i:Int)+1) (by omega)]
      try rfl
    ·have hfl:(l.take (j+1)).filter (fun x=>!p x)=(l.take j).filter (fun x=>!p x):=by rw[hst,List.filter_append,List.filter_cons_of_neg (by rw[hc];simp)];simp
     refine⟨(j+1,xs),⟨by simp only;omega,h,hxl,?_,hdr2⟩,by simp only;omega,?_⟩
     ·simp only
      rw[hfl,←hi,hpre]
     ·simp only[hfl,←hi]
      refine qaa [] [0,1,2] rfl (by simp) ?_ (qgq g _ _)
      simp only[zU,seval,@qaf ((j:Int)+1) (by omega)]
      try rfl
   ·have hjl:j=l.length:=by omega
    subst hjl
    rw[List.take_length] at hpre hi
    simp only[zU,seval,(show ¬(l.length:Int)<l.length by omega),(show(i:Int)≤l.length by omega),hxl,(show i≤l.length by omega)]
    repeat((with_reducible apply aI);exact sdp)
    refine⟨_,_,qf9 2 i (by simp) rfl (by rw[qbj];simp;omega) (by rw[qbj];simp;omega),.inr ⟨by rw[hi];rfl,?_⟩⟩
    rw[qfi,←List.map_take,hpre]
    rfl
theorem qwh (g:Int→Bool) {fv:FuncId} (p:qar→Bool) (hp:∀x:qar,qal prog Gl fv [.d x.toD,.ptr 0 0] (.box 1 (.mapr 1)::.map (some .i64) (qbi g)::[]) (fun r s=>r=.d (.bool (p x))∧s=(.box 1 (.mapr 1)::.map (some .i64) (qbi g)::[]))) (l:List qar) (hl:l.length<1000000) :
  qal prog Gl 79 [.d (.sl (l.map qar.toD)),.fn fv [.ptr 0 0]] (.box 1 (.mapr 1)::.map (some .i64) (qbi g)::[])
  (fun r s=>r=.d (.sl ((l.filter (fun x=>!p x)).map qar.toD))∧s=(.box 1 (.mapr 1)::.map (some .i64) (qbi g)::[])):=by
 refine qac func79 rfl rfl (by simp[ntmps79]) (qab rfl _ _ _ _ ?_)
 simp only[ntmps79,results79,qak,List.length_nil]
 simp only[zU,seval]
 refine qa1 ((qqh l hl (.box 1 (.mapr 1)::.map (some .i64) (qbi g)::[])).mono fun r s hr=>?_)
 obtain⟨rfl,rfl⟩:=hr
 simp only[zU,seval,List.length_map]
 refine qa1 ((Qed g p hp l hl).mono fun r s hr=>?_)
 rcases hr with⟨rfl,rfl⟩|⟨rfl,rfl⟩
 ·simp only[zU,seval]
  refine⟨_,_,(qc6 rfl).trans (qai [] [0,1] rfl (by simp) (show qbk _ _ _=AV.d _ from rfl) (q28 g _)),?_,rfl⟩
  show AV.d (D.sl (List.take _ (List.map qar.toD _)))=_
  rw[qaz]
 ·simp only[zU,seval]
  refine⟨_,_,(qc6 rfl).trans (qai [] [0,1] rfl (by simp) (show qbk _ _ _=AV.d _ from rfl) (q28 g _)),?_,rfl⟩
  show AV.d (D.sl (List.take _ (List.map qar.toD _)))=_
  rw[qaz]
theorem q72 (l:List qbr) (hl:l.length<1000000):qkl prog Gl 144 [.d (.sl (l.map qbr.toD))] 4 (l.map qbr.toD):=by
 refine qkl.of (args:=[.sl (l.map qbr.toD)]) ?_
 have hes:∀y∈l.map qbr.toD,y.cells.length=4:=fun y hy=>by
  obtain⟨r,_,rfl⟩:=List.mem_map.1 hy;rfl
 have hfl:∀y∈l.map qbr.toD,y.flat:=fun y hy=>by
  obtain⟨r,_,rfl⟩:=List.mem_map.1 hy
  intro c hc
  simp[qbr.toD,D.cells] at hc
  rcases hc with rfl|rfl|rfl|rfl<;>rfl
 simp only[List.map_cons,List.map_nil]
 cases l with
 | nil=>
  refine qac func144 rfl rfl (by simp[ntmps144]) (qab rfl _ _ _ _ ?_)
  simp only[ntmps144,results144,qak,List.length_nil]
  simp only[zU,seval]
  refine⟨⟨_,_,qfd 4 (Nat.le_refl 0),rfl,rfl⟩,?_⟩
  exact⟨_,_,qai [] [1] rfl (by simp) rfl rfl,rfl,rfl⟩
 | cons r rs=>
  simp only[List.map_cons,List.length_cons] at hes hl hfl ⊢
  refine qac func144 rfl rfl (by simp[ntmps144]) (qab rfl _ _ _ _ ?_)
  simp only[ntmps144,results144,qak,List.length_nil]
  simp only[zU,seval]
  refine⟨by omega,?_⟩
  exact⟨_,_,qai [] [1] rfl (by simp) rfl rfl,rfl,rfl⟩
theorem qi2 (g:Int→Bool) (xs:List D) (σ:Sto):qdp [0,1,2] (freezeL (.box 1 (.mapr 1)::.map (some .i64) (qbi g)::.arr 4 xs::σ) [])=.box 1 (.mapr 1)::.map (some .i64) (qbi g)::.arr 4 xs::[]:=by
 show[qbx [0,1,2] _ (.box 1 (.mapr 1)),qbx [0,1,2] _ (.map (some .i64) (qbi g)),_]=_
 rw[qby];rfl
theorem Qad (g:Int→Bool) (σ:Sto):qdp [0,1] (freezeL (.box 1 (.mapr 1)::.map (some .i64) (qbi g)::σ) [])=.box 1 (.mapr 1)::.map (some .i64) (qbi g)::[]:=by
 show[qbx [0,1] _ (.box 1 (.mapr 1)),qbx [0,1] _ (.map (some .i64) (qbi g))]=_
 rw[qby];rfl
theorem Qic (g:Int→Bool) {fv:FuncId} (p:qbr→Bool) (hp:∀x:qbr,qal prog Gl fv [.d x.toD,.ptr 0 0] (.box 1 (.mapr 1)::.map (some .i64) (qbi g)::[]) (fun r s=>r=.d (.bool (p x))∧s=(.box 1 (.mapr 1)::.map (some .i64) (qbi g)::[]))) (l:List qbr) (hl:l.length<1000000) :
  qal prog Gl 188 [.osl 2 0 l.length,.fn fv [.ptr 0 0]] (.box 1 (.mapr 1)::.map (some .i64) (qbi g)::.arr 4 (l.map qbr.toD)::[])
  (fun r s=>(∃j:Int,r=.d (.int .i64 j)∧((j=-1∧l.filter (fun x=>!p x)=l)∨∃k:Nat,j=k∧k<l.length∧(l.take (k+1)).filter (fun x=>!p x)=l.take k))∧s=(.box 1 (.mapr 1)::.map (some .i64) (qbi g)::.arr 4 (l.map qbr.toD)::[])):=by
 refine qac func188 rfl rfl (by simp[ntmps188]) (qab rfl _ _ _ _ ?_)
 simp only[ntmps188,results188,qak,List.length_nil]
 simp only[zU,seval]
 refine qan l.length (fun k=>[(0,.osl 2 0 l.length),(1,.fn fv [.ptr 0 0]),(7,.d (.int .i64 l.length)),(8,.d (.int .i64 k))]) (fun _=>(.box 1 (.mapr 1)::.map (some .i64) (qbi g)::.arr 4 (l.map qbr.toD)::[])) (fun k=>(l.take k).filter (fun x=>!p x)=l.take k) rfl ?_ ?_
 ·refine qaa [] [0,1,2] rfl (by simp) ?_ (qi2 g _ _)
  simp only[zU,seval]
  try rfl
 ·intro k hi hk
  by_cases h:k<l.length
  ·obtain⟨x,hx⟩:∃x,x=l.getD k default:=⟨_,rfl⟩
   have eg:(l.map qbr.toD).getD k default=x.toD:=by rw[qah _ _ _ h,←hx]
   have hst:=qa0 l k h
   rw[←hx] at hst
   simp only[zU,seval,(show(k:Int)<l.length by omega),h,eg]
   repeat((with_reducible apply aI);exact sdp)
   refine qb1 (R:=fun r ν=>r=.d (.bool (p x))∧ν=[]) [0,1] (.box 1 (.mapr 1)::.map (some .i64) (qbi g)::[]) (by simp) (by simp) (show[qbx [0,1] _ (.box 1 (.mapr 1)),qbx [0,1] _ (.map (some .i64) (qbi g))]=_ by rw[qby];rfl) rfl (hk2 rfl (qc0 g _)) ((hp x).mono fun r s hr=>⟨[],by rw[hr.2];rfl,hr.1,rfl⟩) (fun r ν hr=>?_)
   obtain⟨rfl,rfl⟩:=hr
   simp only[zU,seval,List.map_nil,List.append_nil]
   refine ifC.mk (fun hc=>?_) (fun hc=>?_)
   ·refine⟨_,_,qai [] [0,1,2] rfl (by simp) (show qbk _ _ _=AV.d _ from rfl) (qi2 g _ _),⟨k,rfl,.inr ⟨k,rfl,h,?_⟩⟩,rfl⟩
    rw[hst,List.filter_append,hi,List.filter_cons_of_neg (by rw[hc];simp)]
    simp
   ·refine⟨by rw[hst,List.filter_append,hi,List.filter_cons_of_pos (by rw[hc];rfl)];rfl,?_⟩
    refine qaa [] [0,1,2] rfl (by simp) ?_ (qi2 g _ _)
    simp only[zU,seval,@qaf ((k:Int)+1) (by omega)]
    try rfl
  ·have:k=l.length:=by omega
   subst this
   rw[List.take_length] at hi
   simp only[zU,seval,(show ¬(l.length:Int)<l.length by omega)]
   exact⟨_,_,qai [] [0,1,2] rfl (by simp) (show qbk _ _ _=AV.d _ from rfl) (qi2 g _ _),⟨-1,rfl,.inl ⟨rfl,hi⟩⟩,rfl⟩
theorem Qij (g:Int→Bool) {fv:FuncId} (p:qbr→Bool) (hp:∀x:qbr,qal prog Gl fv [.d x.toD,.ptr 0 0] (.box 1 (.mapr 1)::.map (some .i64) (qbi g)::[]) (fun r s=>r=.d (.bool (p x))∧s=(.box 1 (.mapr 1)::.map (some .i64) (qbi g)::[]))) (l:List qbr) (hl:l.length<1000000) :
  qal prog Gl 143 [.osl 2 0 l.length,.fn fv [.ptr 0 0]] (.box 1 (.mapr 1)::.map (some .i64) (qbi g)::.arr 4 (l.map qbr.toD)::[])
  (fun r s=>(r=.osl 2 0 (l.filter (fun x=>!p x)).length∧s=(.box 1 (.mapr 1)::.map (some .i64) (qbi g)::.arr 4 ((l.filter (fun x=>!p x)).map qbr.toD)::[]))∨(r=.osl 3 0 (l.filter (fun x=>!p x)).length∧s=(.box 1 (.mapr 1)::.map (some .i64) (qbi g)::.dead::.arr 4 ((l.filter (fun x=>!p x)).map qbr.toD)::[]))):=by
 refine qac func143 rfl rfl (by simp[ntmps143]) (qab rfl _ _ _ _ ?_)
 simp only[ntmps143,results143,qak,List.length_nil]
 simp only[zU,seval]
 refine qa1 ((Qic g p hp l hl).mono fun r s hr=>?_)
 obtain⟨⟨c,rfl,hcs⟩,rfl⟩:=hr
 rcases hcs with⟨rfl,hn⟩|⟨k,rfl,hk,hf⟩
 ·simp only[zU,seval]
  rw[hn]
  refine⟨_,_,qai [] [0,1,2] rfl (by simp) rfl (qi2 g _ _),.inl ⟨rfl,rfl⟩⟩
 ·have e0:((k:Int)==-1)=false:=by rw[beq_eq_false_iff_ne];omega
  simp only[zU,seval,e0,@qaf ((k:Int)+1) (by omega)]
  repeat((with_reducible apply aI);exact sdp)
  refine qcr (τ:=Nat×List qbr) (fun u=>[(0,.osl 2 0 l.length),(1,.fn fv [.ptr 0 0]),(5,.d (.int .i64 (((l.take u.1).filter (fun x=>!p x)).length:Nat))),(6,.d (.int .i64 u.1))]) (fun u=>(.box 1 (.mapr 1)::.map (some .i64) (qbi g)::.arr 4 (u.2.map qbr.toD)::[]))
   (fun u=>k<u.1∧u.1≤l.length∧u.2.length=l.length∧u.2.take ((l.take u.1).filter (fun x=>!p x)).length=(l.take u.1).filter (fun x=>!p x)∧u.2.drop u.1=l.drop u.1) (fun u=>l.length-u.1) (k+1,l) ?_ ?_ ?_
  ·refine⟨by simp only;omega,hk,rfl,?_,rfl⟩
   simp only
   rw[hf,List.length_take,Nat.min_eq_left (by omega)]
  ·have e1:((l.take (k+1)).filter (fun x=>!p x)).length=k:=by rw[hf,List.length_take];omega
   rw[e1]
   refine qaa [] [0,1,2] rfl (by simp) ?_ (qi2 g _ _)
   simp only[zU,seval]
   try rfl
  ·rintro⟨j,xs⟩ ⟨hkj,hj,hxl,hpre,hdr⟩
   simp only at hkj hj hxl hpre hdr
   obtain⟨i,hi⟩:∃i,i=((l.take j).filter (fun x=>!p x)).length:=⟨_,rfl⟩
   have hij:=qls hk hf hkj hj
   rw[←hi] at hpre hij
   rw[←hi]
   by_cases h:j<l.length
   ·obtain⟨x,hx⟩:∃x,x=l.getD j default:=⟨_,rfl⟩
    have hxx:xs.getD j default=x:=by
     have e:xs[j]? = l[j]? := by
      have:=congrArg (fun z=>z[0]?) hdr
      simpa using this
     rw[List.getD_eq_getElem?_getD,e,hx,List.getD_eq_getElem?_getD]
    have eg:(xs.map qbr.toD).getD j default=x.toD:=by rw[qah _ _ _ (by omega),hxx]
    have hst:=qa0 l j h
    rw[←hx] at hst
    simp only[zU,seval,(show(j:Int)<l.length by omega),h,eg,hxl]
    repeat((with_reducible apply aI);exact sdp)
    refine qb1 (R:=fun r ν=>r=.d (.bool (p x))∧ν=[]) [0,1] (.box 1 (.mapr 1)::.map (some .i64) (qbi g)::[]) (by simp) (by simp) (show[qbx [0,1] _ (.box 1 (.mapr 1)),qbx [0,1] _ (.map (some .i64) (qbi g))]=_ by rw[qby];rfl) rfl (hk2 rfl (qc0 g _)) ((hp x).mono fun r s hr=>⟨[],by rw[hr.2];rfl,hr.1,rfl⟩) (fun r ν hr=>?_)
    obtain⟨rfl,rfl⟩:=hr
    simp only[zU,seval,List.map_nil,List.append_nil]
    have hdr2:xs.drop (j+1)=l.drop (j+1):=by
     have:=congrArg (List.drop 1) hdr
     rwa [List.drop_drop,List.drop_drop] at this
    refine ifC.mk (fun hc=>?_) (fun hc=>?_)
    ·have hfl:(l.take (j+1)).filter (fun x=>!p x)=(l.take j).filter (fun x=>!p x)++[x]:=by rw[hst,List.filter_append,List.filter_cons_of_pos (p:=fun x=>!p x) hc];rfl
     have hfn:((l.take (j+1)).filter (fun x=>!p x)).length=i+1:=by rw[hfl,List.length_append,←hi];rfl
     (try simp only[zU,seval,(show(i:Int)<l.length by omega),hxl])
     repeat((with_reducible apply aI);exact sdp)
     refine⟨(j+1,xs.set i x),⟨by simp only;omega,h,by simp only[List.length_set];exact hxl,?_,?_⟩,by simp only;omega,?_⟩
     ·simp only
      rw[hfn,qgb (by omega),hpre,hfl]
     ·simp only
      rw[qgc (by omega),hdr2]
     ·simp only[hfn,List.map_set]
      refine qaa [] [0,1,2] rfl (by simp) ?_ (qi2 g _ _)
      simp only[zU,seval,@qaf ((j:Int)+1) (by omega),@qaf ((i:Int)+1) (by omega)]
      try rfl
    ·have hfl:(l.take (j+1)).filter (fun x=>!p x)=(l.take j).filter (fun x=>!p x):=by rw[hst,List.filter_append,List.filter_cons_of_neg (by rw[hc];simp)];simp
     refine⟨(j+1,xs),⟨by simp only;omega,h,hxl,?_,hdr2⟩,by simp only;omega,?_⟩
     ·simp only
      rw[hfl,←hi,hpre]
     ·simp only[hfl,←hi]
      refine qaa [] [0,1,2] rfl (by simp) ?_ (qi2 g _ _)
      simp only[zU,seval,@qaf ((j:Int)+1) (by omega)]
      try rfl
   ·have hjl:j=l.length:=by omega
    subst hjl
    rw[List.take_length] at hpre hi
    simp only[zU,seval,(show ¬(l.length:Int)<l.length by omega),(show(i:Int)≤l.length by omega),hxl,(show i≤l.length by omega)]
    repeat((with_reducible apply aI);exact sdp)
    refine⟨_,_,qf9 2 i (by simp) rfl (by rw[qbj];simp;omega) (by rw[qbj];simp;omega),.inr ⟨by rw[hi];rfl,?_⟩⟩
    rw[qfi,←List.map_take,hpre]
    rfl
theorem q1h (g:Int→Bool) {fv:FuncId} (p:qbr→Bool) (hp:∀x:qbr,qal prog Gl fv [.d x.toD,.ptr 0 0] (.box 1 (.mapr 1)::.map (some .i64) (qbi g)::[]) (fun r s=>r=.d (.bool (p x))∧s=(.box 1 (.mapr 1)::.map (some .i64) (qbi g)::[]))) (l:List qbr) (hl:l.length<1000000) :
  qal prog Gl 81 [.d (.sl (l.map qbr.toD)),.fn fv [.ptr 0 0]] (.box 1 (.mapr 1)::.map (some .i64) (qbi g)::[])
  (fun r s=>r=.d (.sl ((l.filter (fun x=>!p x)).map qbr.toD))∧s=(.box 1 (.mapr 1)::.map (some .i64) (qbi g)::[])):=by
 refine qac func81 rfl rfl (by simp[ntmps81]) (qab rfl _ _ _ _ ?_)
 simp only[ntmps81,results81,qak,List.length_nil]
 simp only[zU,seval]
 refine qa1 ((q72 l hl (.box 1 (.mapr 1)::.map (some .i64) (qbi g)::[])).mono fun r s hr=>?_)
 obtain⟨rfl,rfl⟩:=hr
 simp only[zU,seval,List.length_map]
 refine qa1 ((Qij g p hp l hl).mono fun r s hr=>?_)
 rcases hr with⟨rfl,rfl⟩|⟨rfl,rfl⟩
 ·simp only[zU,seval]
  refine⟨_,_,(qc6 rfl).trans (qai [] [0,1] rfl (by simp) (show qbk _ _ _=AV.d _ from rfl) (Qad g _)),?_,rfl⟩
  show AV.d (D.sl (List.take _ (List.map qbr.toD _)))=_
  rw[qaz]
 ·simp only[zU,seval]
  refine⟨_,_,(qc6 rfl).trans (qai [] [0,1] rfl (by simp) (show qbk _ _ _=AV.d _ from rfl) (Qad g _)),?_,rfl⟩
  show AV.d (D.sl (List.take _ (List.map qbr.toD _)))=_
  rw[qaz]
theorem q71 (l:List qa2) (hl:l.length<1000000):qkl prog Gl 136 [.d (.sl (l.map qa2.toD))] 3 (l.map qa2.toD):=by
 refine qkl.of (args:=[.sl (l.map qa2.toD)]) ?_
 have hes:∀y∈l.map qa2.toD,y.cells.length=3:=fun y hy=>by
  obtain⟨r,_,rfl⟩:=List.mem_map.1 hy;rfl
 have hfl:∀y∈l.map qa2.toD,y.flat:=fun y hy=>by
  obtain⟨r,_,rfl⟩:=List.mem_map.1 hy
  intro c hc
  simp[qa2.toD,D.cells] at hc
  rcases hc with rfl|rfl|rfl<;>rfl
 simp only[List.map_cons,List.map_nil]
 cases l with
 | nil=>
  refine qac func136 rfl rfl (by simp[ntmps136]) (qab rfl _ _ _ _ ?_)
  simp only[ntmps136,results136,qak,List.length_nil]
  simp only[zU,seval]
  refine⟨⟨_,_,qfd 3 (Nat.le_refl 0),rfl,rfl⟩,?_⟩
  exact⟨_,_,qai [] [1] rfl (by simp) rfl rfl,rfl,rfl⟩
 | cons r rs=>
  simp only[List.map_cons,List.length_cons] at hes hl hfl ⊢
  refine qac func136 rfl rfl (by simp[ntmps136]) (qab rfl _ _ _ _ ?_)
  simp only[ntmps136,results136,qak,List.length_nil]
  simp only[zU,seval]
  refine⟨by omega,?_⟩
  exact⟨_,_,qai [] [1] rfl (by simp) rfl rfl,rfl,rfl⟩
theorem qhy (rs:D) (xs:List D) (σ:Sto):qdp [0,1] (freezeL (.box 1 (.d rs)::.arr 3 xs::σ) [])=.box 1 (.d rs)::.arr 3 xs::[]:=by
 rfl
theorem Qlm (rs:D) (xs:List D) (B:Blk):qdp [0,2] (freezeL (.box 1 (.d rs)::B::.arr 3 xs::[]) [])=.box 1 (.d rs)::.arr 3 xs::[]:=by
 rfl
theorem Qib (rs:D) {fv:FuncId} (p:qa2→Bool) (hp:∀x:qa2,qal prog Gl fv [.d x.toD,.ptr 0 0] (.box 1 (.d rs)::[]) (fun r s=>r=.d (.bool (p x))∧s=(.box 1 (.d rs)::[]))) (l:List qa2) (hl:l.length<1000000) :
  qal prog Gl 176 [.osl 1 0 l.length,.fn fv [.ptr 0 0]] (.box 1 (.d rs)::.arr 3 (l.map qa2.toD)::[])
  (fun r s=>(∃j:Int,r=.d (.int .i64 j)∧((j=-1∧l.filter (fun x=>!p x)=l)∨∃k:Nat,j=k∧k<l.length∧(l.take (k+1)).filter (fun x=>!p x)=l.take k))∧s=(.box 1 (.d rs)::.arr 3 (l.map qa2.toD)::[])):=by
 refine qac func176 rfl rfl (by simp[ntmps176]) (qab rfl _ _ _ _ ?_)
 simp only[ntmps176,results176,qak,List.length_nil]
 simp only[zU,seval]
 refine qan l.length (fun k=>[(0,.osl 1 0 l.length),(1,.fn fv [.ptr 0 0]),(7,.d (.int .i64 l.length)),(8,.d (.int .i64 k))]) (fun _=>(.box 1 (.d rs)::.arr 3 (l.map qa2.toD)::[])) (fun k=>(l.take k).filter (fun x=>!p x)=l.take k) rfl ?_ ?_
 ·refine qaa [] [0,1] rfl (by simp) ?_ (qhy rs _ _)
  simp only[zU,seval]
  try rfl
 ·intro k hi hk
  by_cases h:k<l.length
  ·obtain⟨x,hx⟩:∃x,x=l.getD k default:=⟨_,rfl⟩
   have eg:(l.map qa2.toD).getD k default=x.toD:=by rw[qah _ _ _ h,←hx]
   have hst:=qa0 l k h
   rw[←hx] at hst
   simp only[zU,seval,(show(k:Int)<l.length by omega),h,eg]
   repeat((with_reducible apply aI);exact sdp)
   refine qb1 (R:=fun r ν=>r=.d (.bool (p x))∧ν=[]) [0] (.box 1 (.d rs)::[]) (by simp) (by simp) rfl rfl (hk1 rfl) ((hp x).mono fun r s hr=>⟨[],by rw[hr.2];rfl,hr.1,rfl⟩) (fun r ν hr=>?_)
   obtain⟨rfl,rfl⟩:=hr
   simp only[zU,seval,List.map_nil,List.append_nil]
   refine ifC.mk (fun hc=>?_) (fun hc=>?_)
   ·refine⟨_,_,qai [] [0,1] rfl (by simp) (show qbk _ _ _=AV.d _ from rfl) (qhy rs _ _),⟨k,rfl,.inr ⟨k,rfl,h,?_⟩⟩,rfl⟩
    rw[hst,List.filter_append,hi,List.filter_cons_of_neg (by rw[hc];simp)]
    simp
   ·refine⟨by rw[hst,List.filter_append,hi,List.filter_cons_of_pos (by rw[hc];rfl)];rfl,?_⟩
    refine qaa [] [0,1] rfl (by simp) ?_ (qhy rs _ _)
    simp only[zU,seval,@qaf ((k:Int)+1) (by omega)]
    try rfl
  ·have:k=l.length:=by omega
   subst this
   rw[List.take_length] at hi
   simp only[zU,seval,(show ¬(l.length:Int)<l.length by omega)]
   exact⟨_,_,qai [] [0,1] rfl (by simp) (show qbk _ _ _=AV.d _ from rfl) (qhy rs _ _),⟨-1,rfl,.inl ⟨rfl,hi⟩⟩,rfl⟩
theorem Qii (rs:D) {fv:FuncId} (p:qa2→Bool) (hp:∀x:qa2,qal prog Gl fv [.d x.toD,.ptr 0 0] (.box 1 (.d rs)::[]) (fun r s=>r=.d (.bool (p x))∧s=(.box 1 (.d rs)::[]))) (l:List qa2) (hl:l.length<1000000) :
  qal prog Gl 135 [.osl 1 0 l.length,.fn fv [.ptr 0 0]] (.box 1 (.d rs)::.arr 3 (l.map qa2.toD)::[])
  (fun r s=>(r=.osl 1 0 (l.filter (fun x=>!p x)).length∧s=(.box 1 (.d rs)::.arr 3 ((l.filter (fun x=>!p x)).map qa2.toD)::[]))∨(r=.osl 2 0 (l.filter (fun x=>!p x)).length∧s=(.box 1 (.d rs)::.dead::.arr 3 ((l.filter (fun x=>!p x)).map qa2.toD)::[]))):=by
 refine qac func135 rfl rfl (by simp[ntmps135]) (qab rfl _ _ _ _ ?_)
 simp only[ntmps135,results135,qak,List.length_nil]
 simp only[zU,seval]
 refine qa1 ((Qib rs p hp l hl).mono fun r s hr=>?_)
 obtain⟨⟨c,rfl,hcs⟩,rfl⟩:=hr
 rcases hcs with⟨rfl,hn⟩|⟨k,rfl,hk,hf⟩
 ·simp only[zU,seval]
  rw[hn]
  refine⟨_,_,qai [] [0,1] rfl (by simp) rfl (qhy rs _ _),.inl ⟨rfl,rfl⟩⟩
 ·have e0:((k:Int)==-1)=false:=by rw[beq_eq_false_iff_ne];omega
  simp only[zU,seval,e0,@qaf ((k:Int)+1) (by omega)]
  repeat((with_reducible apply aI);exact sdp)
  refine qcr (τ:=Nat×List qa2) (fun u=>[(0,.osl 1 0 l.length),(1,.fn fv [.ptr 0 0]),(5,.d (.int .i64 (((l.take u.1).filter (fun x=>!p x)).length:Nat))),(6,.d (.int .i64 u.1))]) (fun u=>(.box 1 (.d rs)::.arr 3 (u.2.map qa2.toD)::[]))
   (fun u=>k<u.1∧u.1≤l.length∧u.2.length=l.length∧u.2.take ((l.take u.1).filter (fun x=>!p x)).length=(l.take u.1).filter (fun x=>!p x)∧u.2.drop u.1=l.drop u.1) (fun u=>l.length-u.1) (k+1,l) ?_ ?_ ?_
  ·refine⟨by simp only;omega,hk,rfl,?_,rfl⟩
   simp only
   rw[hf,List.length_take,Nat.min_eq_left (by omega)]
  ·have e1:((l.take (k+1)).filter (fun x=>!p x)).length=k:=by rw[hf,List.length_take];omega
   rw[e1]
   refine qaa [] [0,1] rfl (by simp) ?_ (qhy rs _ _)
   simp only[zU,seval]
   try rfl
  ·rintro⟨j,xs⟩ ⟨hkj,hj,hxl,hpre,hdr⟩
   simp only at hkj hj hxl hpre hdr
   obtain⟨i,hi⟩:∃i,i=((l.take j).filter (fun x=>!p x)).length:=⟨_,rfl⟩
   have hij:=qls hk hf hkj hj
   rw[←hi] at hpre hij
   rw[←hi]
   by_cases h:j<l.length
   ·obtain⟨x,hx⟩:∃x,x=l.getD j default:=⟨_,rfl⟩
    have hxx:xs.getD j default=x:=by
     have e:xs[j]? = l[j]? := by
      have:=congrArg (fun z=>z[0]?) hdr
      simpa using this
     rw[List.getD_eq_getElem?_getD,e,hx,List.getD_eq_getElem?_getD]
    have eg:(xs.map qa2.toD).getD j default=x.toD:=by rw[qah _ _ _ (by omega),hxx]
    have hst:=qa0 l j h
    rw[←hx] at hst
    simp only[zU,seval,(show(j:Int)<l.length by omega),h,eg,hxl]
    repeat((with_reducible apply aI);exact sdp)
    refine qb1 (R:=fun r ν=>r=.d (.bool (p x))∧ν=[]) [0] (.box 1 (.d rs)::[]) (by simp) (by simp) rfl rfl (hk1 rfl) ((hp x).mono fun r s hr=>⟨[],by rw[hr.2];rfl,hr.1,rfl⟩) (fun r ν hr=>?_)
    obtain⟨rfl,rfl⟩:=hr
    simp only[zU,seval,List.map_nil,List.append_nil]
    have hdr2:xs.drop (j+1)=l.drop (j+1):=by
     have:=congrArg (List.drop 1) hdr
     rwa [List.drop_drop,List.drop_drop] at this
    refine ifC.mk (fun hc=>?_) (fun hc=>?_)
    ·have hfl:(l.take (j+1)).filter (fun x=>!p x)=(l.take j).filter (fun x=>!p x)++[x]:=by rw[hst,List.filter_append,List.filter_cons_of_pos (p:=fun x=>!p x) hc];rfl
     have hfn:((l.take (j+1)).filter (fun x=>!p x)).length=i+1:=by rw[hfl,List.length_append,←hi];rfl
     (try simp only[zU,seval,(show(i:Int)<l.length by omega),hxl])
     repeat((with_reducible apply aI);exact sdp)
     refine⟨(j+1,xs.set i x),⟨by simp only;omega,h,by simp only[List.length_set];exact hxl,?_,?_⟩,by simp only;omega,?_⟩
     ·simp only
      rw[hfn,qgb (by omega),hpre,hfl]
     ·simp only
      rw[qgc (by omega),hdr2]
     ·simp only[hfn,List.map_set]
      refine qaa [] [0,1] rfl (by simp) ?_ (qhy rs _ _)
      simp only[zU,seval,@qaf ((j:Int)+1) (by omega),@qaf ((i:Int)+1) (by omega)]
      try rfl
    ·have hfl:(l.take (j+1)).filter (fun x=>!p x)=(l.take j).filter (fun x=>!p x):=by rw[hst,List.filter_append,List.filter_cons_of_neg (by rw[hc];simp)];simp
     refine⟨(j+1,xs),⟨by simp only;omega,h,hxl,?_,hdr2⟩,by simp only;omega,?_⟩
     ·simp only
      rw[hfl,←hi,hpre]
     ·simp only[hfl,←hi]
      refine qaa [] [0,1] rfl (by simp) ?_ (qhy rs _ _)
      simp only[zU,seval,@qaf ((j:Int)+1) (by omega)]
      try rfl
   ·have hjl:j=l.length:=by omega
    subst hjl
    rw[List.take_length] at hpre hi
    simp only[zU,seval,(show ¬(l.length:Int)<l.length by omega),(show(i:Int)≤l.length by omega),hxl,(show i≤l.length by omega)]
    repeat((with_reducible apply aI);exact sdp)
    refine⟨_,_,qf9 1 i (by simp) rfl (by rw[qbj];simp;omega) (by rw[qbj];simp;omega),.inr ⟨by rw[hi];rfl,?_⟩⟩
    rw[qfi,←List.map_take,hpre]
    rfl
theorem q1g (rs:D) {fv:FuncId} (p:qa2→Bool) (hp:∀x:qa2,qal prog Gl fv [.d x.toD,.ptr 0 0] (.box 1 (.d rs)::[]) (fun r s=>r=.d (.bool (p x))∧s=(.box 1 (.d rs)::[]))) (l:List qa2) (hl:l.length<1000000) :
  qal prog Gl 71 [.d (.sl (l.map qa2.toD)),.fn fv [.ptr 0 0]] (.box 1 (.d rs)::[])
  (fun r s=>r=.osl 1 0 (l.filter (fun x=>!p x)).length∧s=(.box 1 (.d rs)::.arr 3 ((l.filter (fun x=>!p x)).map qa2.toD)::[])):=by
 refine qac func71 rfl rfl (by simp[ntmps71]) (qab rfl _ _ _ _ ?_)
 simp only[ntmps71,results71,qak,List.length_nil]
 simp only[zU,seval]
 refine qa1 ((q71 l hl (.box 1 (.d rs)::[])).mono fun r s hr=>?_)
 obtain⟨rfl,rfl⟩:=hr
 simp only[zU,seval,List.length_map]
 refine qa1 ((Qii rs p hp l hl).mono fun r s hr=>?_)
 rcases hr with⟨rfl,rfl⟩|⟨rfl,rfl⟩
 ·simp only[zU,seval]
  exact⟨_,_,qai [] [0,1] rfl (by simp) rfl (qhy rs _ _),rfl,rfl⟩
 ·simp only[zU,seval]
  exact⟨_,_,qai [] [0,2] rfl (by simp) rfl (Qlm rs _ _),rfl,rfl⟩
theorem q70 (l:List (List UInt8)) (hl:l.length<1000000):qkl prog Gl 134 [.d (.sl (l.map D.str))] 1 (l.map D.str):=by
 refine qkl.of (args:=[.sl (l.map D.str)]) ?_
 have hes:∀y∈l.map D.str,y.cells.length=1:=fun y hy=>by
  obtain⟨r,_,rfl⟩:=List.mem_map.1 hy;rfl
 have hfl:∀y∈l.map D.str,y.flat:=fun y hy=>by
  obtain⟨r,_,rfl⟩:=List.mem_map.1 hy
  intro c hc
  simp[D.cells] at hc
  subst hc;rfl
 simp only[List.map_cons,List.map_nil]
 cases l with
 | nil=>
  refine qac func134 rfl rfl (by simp[ntmps134]) (qab rfl _ _ _ _ ?_)
  simp only[ntmps134,results134,qak,List.length_nil]
  simp only[zU,seval]
  refine⟨⟨_,_,qfd 1 (Nat.le_refl 0),rfl,rfl⟩,?_⟩
  exact⟨_,_,qai [] [1] rfl (by simp) rfl rfl,rfl,rfl⟩
 | cons r rs=>
  simp only[List.map_cons,List.length_cons] at hes hl hfl ⊢
  refine qac func134 rfl rfl (by simp[ntmps134]) (qab rfl _ _ _ _ ?_)
  simp only[ntmps134,results134,qak,List.length_nil]
  simp only[zU,seval]
  refine⟨by omega,?_⟩
  exact⟨_,_,qai [] [1] rfl (by simp) rfl rfl,rfl,rfl⟩
theorem qi1 (rs:D) (xs:List D) (σ:Sto):qdp [0,1] (freezeL (.box 1 (.d rs)::.arr 1 xs::σ) [])=.box 1 (.d rs)::.arr 1 xs::[]:=by
 rfl
theorem Qac (rs:D) (σ:Sto):qdp [0] (freezeL (.box 1 (.d rs)::σ) [])=.box 1 (.d rs)::[]:=by
 rfl
theorem Qia (rs:D) {fv:FuncId} (p:(List UInt8)→Bool) (hp:∀x:(List UInt8),qal prog Gl fv [.d (D.str x),.ptr 0 0] (.box 1 (.d rs)::[]) (fun r s=>r=.d (.bool (p x))∧s=(.box 1 (.d rs)::[]))) (l:List (List UInt8)) (hl:l.length<1000000) :
  qal prog Gl 186 [.osl 1 0 l.length,.fn fv [.ptr 0 0]] (.box 1 (.d rs)::.arr 1 (l.map D.str)::[])
  (fun r s=>(∃j:Int,r=.d (.int .i64 j)∧((j=-1∧l.filter (fun x=>!p x)=l)∨∃k:Nat,j=k∧k<l.length∧(l.take (k+1)).filter (fun x=>!p x)=l.take k))∧s=(.box 1 (.d rs)::.arr 1 (l.map D.str)::[])):=by
 refine qac func186 rfl rfl (by simp[ntmps186]) (qab rfl _ _ _ _ ?_)
 simp only[ntmps186,results186,qak,List.length_nil]
 simp only[zU,seval]
 refine qan l.length (fun k=>[(0,.osl 1 0 l.length),(1,.fn fv [.ptr 0 0]),(7,.d (.int .i64 l.length)),(8,.d (.int .i64 k))]) (fun _=>(.box 1 (.d rs)::.arr 1 (l.map D.str)::[])) (fun k=>(l.take k).filter (fun x=>!p x)=l.take k) rfl ?_ ?_
 ·refine qaa [] [0,1] rfl (by simp) ?_ (qi1 rs _ _)
  simp only[zU,seval]
  try rfl
 ·intro k hi hk
  by_cases h:k<l.length
  ·obtain⟨x,hx⟩:∃x,x=l.getD k default:=⟨_,rfl⟩
   have eg:(l.map D.str).getD k default=(D.str x):=by rw[qah _ _ _ h,←hx]
   have hst:=qa0 l k h
   rw[←hx] at hst
   simp only[zU,seval,(show(k:Int)<l.length by omega),h,eg]
   repeat((with_reducible apply aI);exact sdp)
   refine qb1 (R:=fun r ν=>r=.d (.bool (p x))∧ν=[]) [0] (.box 1 (.d rs)::[]) (by simp) (by simp) rfl rfl (hk1 rfl) ((hp x).mono fun r s hr=>⟨[],by rw[hr.2];rfl,hr.1,rfl⟩) (fun r ν hr=>?_)
   obtain⟨rfl,rfl⟩:=hr
   simp only[zU,seval,List.map_nil,List.append_nil]
   refine ifC.mk (fun hc=>?_) (fun hc=>?_)
   ·refine⟨_,_,qai [] [0,1] rfl (by simp) (show qbk _ _ _=AV.d _ from rfl) (qi1 rs _ _),⟨k,rfl,.inr ⟨k,rfl,h,?_⟩⟩,rfl⟩
    rw[hst,List.filter_append,hi,List.filter_cons_of_neg (by rw[hc];simp)]
    simp
   ·refine⟨by rw[hst,List.filter_append,hi,List.filter_cons_of_pos (by rw[hc];rfl)];rfl,?_⟩
    refine qaa [] [0,1] rfl (by simp) ?_ (qi1 rs _ _)
    simp only[zU,seval,@qaf ((k:Int)+1) (by omega)]
    try rfl
  ·have:k=l.length:=by omega
   subst this
   rw[List.take_length] at hi
   simp only[zU,seval,(show ¬(l.length:Int)<l.length by omega)]
   exact⟨_,_,qai [] [0,1] rfl (by simp) (show qbk _ _ _=AV.d _ from rfl) (qi1 rs _ _),⟨-1,rfl,.inl ⟨rfl,hi⟩⟩,rfl⟩
theorem Qih (rs:D) {fv:FuncId} (p:(List UInt8)→Bool) (hp:∀x:(List UInt8),qal prog Gl fv [.d (D.str x),.ptr 0 0] (.box 1 (.d rs)::[]) (fun r s=>r=.d (.bool (p x))∧s=(.box 1 (.d rs)::[]))) (l:List (List UInt8)) (hl:l.length<1000000) :
  qal prog Gl 133 [.osl 1 0 l.length,.fn fv [.ptr 0 0]] (.box 1 (.d rs)::.arr 1 (l.map D.str)::[])
  (fun r s=>(r=.osl 1 0 (l.filter (fun x=>!p x)).length∧s=(.box 1 (.d rs)::.arr 1 ((l.filter (fun x=>!p x)).map D.str)::[]))∨(r=.osl 2 0 (l.filter (fun x=>!p x)).length∧s=(.box 1 (.d rs)::.dead::.arr 1 ((l.filter (fun x=>!p x)).map D.str)::[]))):=by
 refine qac func133 rfl rfl (by simp[ntmps133]) (qab rfl _ _ _ _ ?_)
 simp only[ntmps133,results133,qak,List.length_nil]
 simp only[zU,seval]
 refine qa1 ((Qia rs p hp l hl).mono fun r s hr=>?_)
 obtain⟨⟨c,rfl,hcs⟩,rfl⟩:=hr
 rcases hcs with⟨rfl,hn⟩|⟨k,rfl,hk,hf⟩
 ·simp only[zU,seval]
  rw[hn]
  refine⟨_,_,qai [] [0,1] rfl (by simp) rfl (qi1 rs _ _),.inl ⟨rfl,rfl⟩⟩
 ·have e0:((k:Int)==-1)=false:=by rw[beq_eq_false_iff_ne];omega
  simp only[zU,seval,e0,@qaf ((k:Int)+1) (by omega)]
  repeat((with_reducible apply aI);exact sdp)
  refine qcr (τ:=Nat×List (List UInt8)) (fun u=>[(0,.osl 1 0 l.length),(1,.fn fv [.ptr 0 0]),(5,.d (.int .i64 (((l.take u.1).filter (fun x=>!p x)).length:Nat))),(6,.d (.int .i64 u.1))]) (fun u=>(.box 1 (.d rs)::.arr 1 (u.2.map D.str)::[]))
   (fun u=>k<u.1∧u.1≤l.length∧u.2.length=l.length∧u.2.take ((l.take u.1).filter (fun x=>!p x)).length=(l.take u.1).filter (fun x=>!p x)∧u.2.drop u.1=l.drop u.1) (fun u=>l.length-u.1) (k+1,l) ?_ ?_ ?_
  ·refine⟨by simp only;omega,hk,rfl,?_,rfl⟩
   simp only
   rw[hf,List.length_take,Nat.min_eq_left (by omega)]
  ·have e1:((l.take (k+1)).filter (fun x=>!p x)).length=k:=by rw[hf,List.length_take];omega
   rw[e1]
   refine qaa [] [0,1] rfl (by simp) ?_ (qi1 rs _ _)
   simp only[zU,seval]
   try rfl
  ·rintro⟨j,xs⟩ ⟨hkj,hj,hxl,hpre,hdr⟩
   simp only at hkj hj hxl hpre hdr
   obtain⟨i,hi⟩:∃i,i=((l.take j).filter (fun x=>!p x)).length:=⟨_,rfl⟩
   have hij:=qls hk hf hkj hj
   rw[←hi] at hpre hij
   rw[←hi]
   by_cases h:j<l.length
   ·obtain⟨x,hx⟩:∃x,x=l.getD j default:=⟨_,rfl⟩
    have hxx:xs.getD j default=x:=by
     have e:xs[j]? = l[j]? := by
      have:=congrArg (fun z=>z[0]?) hdr
      simpa using this
     rw[List.getD_eq_getElem?_getD,e,hx,List.getD_eq_getElem?_getD]
    have eg:(xs.map D.str).getD j default=(D.str x):=by rw[qah _ _ _ (by omega),hxx]
    have hst:=qa0 l j h
    rw[←hx] at hst
    simp only[zU,seval,(show(j:Int)<l.length by omega),h,eg,hxl]
    repeat((with_reducible apply aI);exact sdp)
    refine qb1 (R:=fun r ν=>r=.d (.bool (p x))∧ν=[]) [0] (.box 1 (.d rs)::[]) (by simp) (by simp) rfl rfl (hk1 rfl) ((hp x).mono fun r s hr=>⟨[],by rw[hr.2];rfl,hr.1,rfl⟩) (fun r ν hr=>?_)
    obtain⟨rfl,rfl⟩:=hr
    simp only[zU,seval,List.map_nil,List.append_nil]
    have hdr2:xs.drop (j+1)=l.drop (j+1):=by
     have:=congrArg (List.drop 1) hdr
     rwa [List.drop_drop,List.drop_drop] at this
    refine ifC.mk (fun hc=>?_) (fun hc=>?_)
    ·have hfl:(l.take (j+1)).filter (fun x=>!p x)=(l.take j).filter (fun x=>!p x)++[x]:=by rw[hst,List.filter_append,List.filter_cons_of_pos (p:=fun x=>!p x) hc];rfl
     have hfn:((l.take (j+1)).filter (fun x=>!p x)).length=i+1:=by rw[hfl,List.length_append,←hi];rfl
     (try simp only[zU,seval,(show(i:Int)<l.length by omega),hxl])
     repeat((with_reducible apply aI);exact sdp)
     refine⟨(j+1,xs.set i x),⟨by simp only;omega,h,by simp only[List.length_set];exact hxl,?_,?_⟩,by simp only;omega,?_⟩
     ·simp only
      rw[hfn,qgb (by omega),hpre,hfl]
     ·simp only
      rw[qgc (by omega),hdr2]
     ·simp only[hfn,List.map_set]
      refine qaa [] [0,1] rfl (by simp) ?_ (qi1 rs _ _)
      simp only[zU,seval,@qaf ((j:Int)+1) (by omega),@qaf ((i:Int)+1) (by omega)]
      try rfl
    ·have hfl:(l.take (j+1)).filter (fun x=>!p x)=(l.take j).filter (fun x=>!p x):=by rw[hst,List.filter_append,List.filter_cons_of_neg (by rw[hc];simp)];simp
     refine⟨(j+1,xs),⟨by simp only;omega,h,hxl,?_,hdr2⟩,by simp only;omega,?_⟩
     ·simp only
      rw[hfl,←hi,hpre]
     ·simp only[hfl,←hi]
      refine qaa [] [0,1] rfl (by simp) ?_ (qi1 rs _ _)
      simp only[zU,seval,@qaf ((j:Int)+1) (by omega)]
      try rfl
   ·have hjl:j=l.length:=by omega
    subst hjl
    rw[List.take_length] at hpre hi
    simp only[zU,seval,(show ¬(l.length:Int)<l.length by omega),(show(i:Int)≤l.length by omega),hxl,(show i≤l.length by omega)]
    repeat((with_reducible apply aI);exact sdp)
    refine⟨_,_,qf9 1 i (by simp) rfl (by rw[qbj];simp;omega) (by rw[qbj];simp;omega),.inr ⟨by rw[hi];rfl,?_⟩⟩
    rw[qfi,←List.map_take,hpre]
    rfl
theorem q1f (rs:D) {fv:FuncId} (p:(List UInt8)→Bool) (hp:∀x:(List UInt8),qal prog Gl fv [.d (D.str x),.ptr 0 0] (.box 1 (.d rs)::[]) (fun r s=>r=.d (.bool (p x))∧s=(.box 1 (.d rs)::[]))) (l:List (List UInt8)) (hl:l.length<1000000) :
  qal prog Gl 67 [.d (.sl (l.map D.str)),.fn fv [.ptr 0 0]] (.box 1 (.d rs)::[])
  (fun r s=>r=.d (.sl ((l.filter (fun x=>!p x)).map D.str))∧s=(.box 1 (.d rs)::[])):=by
 refine qac func67 rfl rfl (by simp[ntmps67]) (qab rfl _ _ _ _ ?_)
 simp only[ntmps67,results67,qak,List.length_nil]
 simp only[zU,seval]
 refine qa1 ((q70 l hl (.box 1 (.d rs)::[])).mono fun r s hr=>?_)
 obtain⟨rfl,rfl⟩:=hr
 simp only[zU,seval,List.length_map]
 refine qa1 ((Qih rs p hp l hl).mono fun r s hr=>?_)
 rcases hr with⟨rfl,rfl⟩|⟨rfl,rfl⟩
 ·simp only[zU,seval]
  refine⟨_,_,(qc6 rfl).trans (qai [] [0] rfl (by simp) (show qbk _ _ _=AV.d _ from rfl) (Qac rs _)),?_,rfl⟩
  show AV.d (D.sl (List.take _ (List.map D.str _)))=_
  rw[qaz]
 ·simp only[zU,seval]
  refine⟨_,_,(qc6 rfl).trans (qai [] [0] rfl (by simp) (show qbk _ _ _=AV.d _ from rfl) (Qac rs _)),?_,rfl⟩
  show AV.d (D.sl (List.take _ (List.map D.str _)))=_
  rw[qaz]

theorem Qsz (g:Int→Bool) (σ:Sto):qdp [0,1] (freezeL (.box 1 (.mapr 1)::.map (some .i64) (qbi g)::σ) [])=[.box 1 (.mapr 1),.map (some .i64) (qbi g)]:=Qdn g σ
theorem Qie (g:Int→Bool) (x:qaj):qal prog Gl 74 [.d x.toD,.ptr 0 0] [.box 1 (.mapr 1),.map (some .i64) (qbi g)] (fun r s=>r=.d (.bool (g x.id))∧s=[.box 1 (.mapr 1),.map (some .i64) (qbi g)]):=by
 refine qac func74 rfl rfl (by simp[ntmps74]) (qab rfl _ _ _ _ ?_)
 simp only[ntmps74,results74,qak,List.length_nil]
 simp only[zU,seval,qav]
 repeat((with_reducible apply aI);exact sdp)
 exact⟨_,_,qai [] [0,1] rfl (by simp) (show qbk _ _ _=AV.d _ from rfl) (Qsz g _),rfl,rfl⟩
theorem Qrr (g:Int→Bool) (x:qbf):qal prog Gl 76 [.d x.toD,.ptr 0 0] [.box 1 (.mapr 1),.map (some .i64) (qbi g)] (fun r s=>r=.d (.bool (g x.ft||g x.tt))∧s=[.box 1 (.mapr 1),.map (some .i64) (qbi g)]):=by
 refine qac func76 rfl rfl (by simp[ntmps76]) (qab rfl _ _ _ _ ?_)
 simp only[ntmps76,results76,qak,List.length_nil]
 simp only[zU,seval,qav]
 repeat((with_reducible apply aI);exact sdp)
 exact⟨_,_,qai [] [0,1] rfl (by simp) (show qbk _ _ _=AV.d _ from rfl) (Qsz g _),rfl,rfl⟩
theorem Qif (g:Int→Bool) (x:qam):qal prog Gl 78 [.d x.toD,.ptr 0 0] [.box 1 (.mapr 1),.map (some .i64) (qbi g)] (fun r s=>r=.d (.bool (g x.thread))∧s=[.box 1 (.mapr 1),.map (some .i64) (qbi g)]):=by
 refine qac func78 rfl rfl (by simp[ntmps78]) (qab rfl _ _ _ _ ?_)
 simp only[ntmps78,results78,qak,List.length_nil]
 simp only[zU,seval,qav]
 repeat((with_reducible apply aI);exact sdp)
 exact⟨_,_,qai [] [0,1] rfl (by simp) (show qbk _ _ _=AV.d _ from rfl) (Qsz g _),rfl,rfl⟩
theorem Qmp (g:Int→Bool) (x:qar):qal prog Gl 80 [.d x.toD,.ptr 0 0] [.box 1 (.mapr 1),.map (some .i64) (qbi g)] (fun r s=>r=.d (.bool (g x.thread))∧s=[.box 1 (.mapr 1),.map (some .i64) (qbi g)]):=by
 refine qac func80 rfl rfl (by simp[ntmps80]) (qab rfl _ _ _ _ ?_)
 simp only[ntmps80,results80,qak,List.length_nil]
 simp only[zU,seval,qav]
 repeat((with_reducible apply aI);exact sdp)
 exact⟨_,_,qai [] [0,1] rfl (by simp) (show qbk _ _ _=AV.d _ from rfl) (Qsz g _),rfl,rfl⟩
theorem Qrq (g:Int→Bool) (x:qbr):qal prog Gl 82 [.d x.toD,.ptr 0 0] [.box 1 (.mapr 1),.map (some .i64) (qbi g)] (fun r s=>r=.d (.bool (g x.thread))∧s=[.box 1 (.mapr 1),.map (some .i64) (qbi g)]):=by
 refine qac func82 rfl rfl (by simp[ntmps82]) (qab rfl _ _ _ _ ?_)
 simp only[ntmps82,results82,qak,List.length_nil]
 simp only[zU,seval,qav]
 repeat((with_reducible apply aI);exact sdp)
 exact⟨_,_,qai [] [0,1] rfl (by simp) (show qbk _ _ _=AV.d _ from rfl) (Qsz g _),rfl,rfl⟩
theorem Qmo (g:Int→Bool) (x:qag):qal prog Gl 83 [.d x.toD,.ptr 0 0] [.box 1 (.mapr 1),.map (some .i64) (qbi g)] (fun r s=>r=.d (.bool (!g x.thread))∧s=[.box 1 (.mapr 1),.map (some .i64) (qbi g)]):=by
 refine qac func83 rfl rfl (by simp[ntmps83]) (qab rfl _ _ _ _ ?_)
 simp only[ntmps83,results83,qak,List.length_nil]
 simp only[zU,seval,qav]
 repeat((with_reducible apply aI);exact sdp)
 exact⟨_,_,qai [] [0,1] rfl (by simp) (show qbk _ _ _=AV.d _ from rfl) (Qsz g _),rfl,rfl⟩
theorem Qmk (l:List qao) (hl:l.length<1000000) (x:qag):qal prog Gl 65 [.d x.toD,.ptr 0 0] [.box 1 (.d (.sl (l.map qao.toD)))] (fun r s=>r=.d (.bool (!qbe l qa6 x.name))∧s=[.box 1 (.d (.sl (l.map qao.toD)))]):=by
 refine qac func65 rfl rfl (by simp[ntmps65]) (qab rfl _ _ _ _ ?_)
 simp only[ntmps65,results65,qak,List.length_nil]
 simp only[zU,seval,qav]
 repeat((with_reducible apply aI);exact sdp)
 refine qad (qgu l _ _ hl) ?_
 simp only[zU,seval,qav]
 exact⟨_,_,qai [] [0] rfl (by simp) (show qbk _ _ _=AV.d _ from rfl) rfl,rfl,rfl⟩
theorem Qro (l:List qao) (hl:l.length<1000000) (x:List UInt8):qal prog Gl 68 [.d (.str x),.ptr 0 0] [.box 1 (.d (.sl (l.map qao.toD)))] (fun r s=>r=.d (.bool (qbe l qa7 x))∧s=[.box 1 (.d (.sl (l.map qao.toD)))]):=by
 refine qac func68 rfl rfl (by simp[ntmps68]) (qab rfl _ _ _ _ ?_)
 simp only[ntmps68,results68,qak,List.length_nil]
 simp only[zU,seval,qav]
 repeat((with_reducible apply aI);exact sdp)
 refine qad (qgu l _ _ hl) ?_
 simp only[zU,seval,qav]
 exact⟨_,_,qai [] [0] rfl (by simp) (show qbk _ _ _=AV.d _ from rfl) rfl,rfl,rfl⟩
theorem Qrp (l:List qao) (hl:l.length<1000000) (x:qa2):qal prog Gl 72 [.d x.toD,.ptr 0 0] [.box 1 (.d (.sl (l.map qao.toD)))] (fun r s=>r=.d (.bool (qbe l qat x.name))∧s=[.box 1 (.d (.sl (l.map qao.toD)))]):=by
 refine qac func72 rfl rfl (by simp[ntmps72]) (qab rfl _ _ _ _ ?_)
 simp only[ntmps72,results72,qak,List.length_nil]
 simp only[zU,seval,qav]
 repeat((with_reducible apply aI);exact sdp)
 refine qad (qgu l _ _ hl) ?_
 simp only[zU,seval,qav]
 exact⟨_,_,qai [] [0] rfl (by simp) (show qbk _ _ _=AV.d _ from rfl) rfl,rfl,rfl⟩

def qwk (g:Int→Bool) (s:qax):qax:={s with by_:=if g s.by_=true then -1 else s.by_,on_:=if g s.on_=true then -1 else s.on_,state:=if g s.on_=true then 1 else s.state}
def q7n (y x:qax):Bool:=y.thread==x.thread&&y.state==x.state&&y.cpu==x.cpu&&y.on_==x.on_
def q87 (out:List qax) (x:qax):List qax:=
 if out.length≠0∧q7n (out.getD (out.length-1) default) x=true then out.set (out.length-1) {out.getD (out.length-1) default with hi:=x.hi,by_:=x.by_} else out++[x]
def stS (g:Int→Bool) (out:List qax) (s:qax):List qax:=if g s.thread=true then out else q87 out (qwk g s)
def qdu (g:Int→Bool) (l:List qax):List qax:=l.foldl (stS g) []
theorem Qn3 (out:List qax) (x:qax):(q87 out x).length≤out.length+1:=by
 unfold q87;split<;>simp
theorem Qq0 (g:Int→Bool) (out:List qax) (s:qax):(stS g out s).length≤out.length+1:=by
 unfold stS;split
 ·omega
 ·exact Qn3 _ _
theorem qoq (g:Int→Bool):∀(l out:List qax),(l.foldl (stS g) out).length≤out.length+l.length
 | [],out=>by simp
 | x::l,out=>by
  have:=qoq g l (stS g out x)
  have h2:=Qq0 g out x
  simp only[List.foldl_cons,List.length_cons];omega
theorem qj7 (g:Int→Bool) (l:List qax):(qdu g l).length≤l.length:=by
 have:=qoq g l [];simpa[qdu] using this
theorem Qln (g:Int→Bool) (xs:List D) (σ:Sto):qdp [0,1] (freezeL (.map (some .i64) (qbi g)::.arr 7 xs::σ) [])=[.map (some .i64) (qbi g),.arr 7 xs]:=by
 show[qbx [0,1] _ (.map (some .i64) (qbi g)),_]=_
 rw[qby];rfl
theorem Quh (g:Int→Bool) (σ:Sto):qdp [0] (freezeL (.map (some .i64) (qbi g)::σ) [])=[.map (some .i64) (qbi g)]:=by
 show[qbx [0] _ (.map (some .i64) (qbi g))]=_
 rw[qby]
def Qsy (b:Bool) (x y:Int):Int:=if b=true then x else y
theorem Qub (x y:Int):Qsy true x y=x:=rfl
theorem Quc (x y:Int):Qsy false x y=y:=rfl
def yS (y x:qax) (a b:Bool):qax:={y with hi:=Qsy a x.hi y.hi,by_:=Qsy b x.by_ y.by_}
theorem Qk3 (y x:qax) (a b:Bool):(yS y x a b).toD.cells=[.int .i64 y.thread,.int .i64 y.state,.int .i64 y.lo,.int .i64 (Qsy a x.hi y.hi),.int .i64 y.cpu,.int .i64 y.on_,.int .i64 (Qsy b x.by_ y.by_)]:=rfl
theorem Qk2 (y x:qax) (a b:Bool):(yS y x a b).toD.isAgg=true:=rfl
theorem qu8 (l:List D) (i:Nat) (x:D) (h:i<l.length):(l.set i x).getD i default=x:=by simp[h]
theorem q0w (l:List D) (i:Nat):l.set i (l.getD i default)=l:=by
 apply List.ext_getElem?
 intro k
 rw[List.getElem?_set]
 split
 ·rename_i h;subst h
  split
  ·rename_i h;simp[h]
  ·rename_i h;simp at h;simp[h]
 ·rfl
theorem rnU (ρ:List Nat) (σ:Sto):qbk ρ σ .undef=.undef:=rfl
theorem Qpd (g:Int→Bool) (xs:List D) (x:D) (σ:Sto):qdp [0,1,2] (freezeL (.map (some .i64) (qbi g)::.arr 7 xs::.box 7 (.d x)::σ) [])=[.map (some .i64) (qbi g),.arr 7 xs,.box 7 (.d x)]:=by
 show[qbx [0,1,2] _ (.map (some .i64) (qbi g)),_,_]=_
 rw[qby];rfl
theorem Qug (g:Int→Bool) (xs:List D) (B C:Blk):qdp [0,4] (freezeL [.map (some .i64) (qbi g),.dead,B,C,.arr 7 xs] [])=[.map (some .i64) (qbi g),.arr 7 xs]:=by
 show[qbx [0,4] _ (.map (some .i64) (qbi g)),_]=_
 rw[qby];rfl
theorem Quf (g:Int→Bool) (xs:List D) (B C E:Blk):qdp [0,5] (freezeL [.map (some .i64) (qbi g),.dead,B,C,E,.arr 7 xs] [])=[.map (some .i64) (qbi g),.arr 7 xs]:=by
 show[qbx [0,5] _ (.map (some .i64) (qbi g)),_]=_
 rw[qby];rfl
set_option maxHeartbeats 4000000 in
theorem Qmd (g:Int→Bool) (l:List qax) (hl:l.length<1000000):qal prog Gl 84 [.d (.sl (l.map qax.toD)),.mapr 0] [.map (some .i64) (qbi g)]
  (fun r s=>r=.d (.sl ((qdu g l).map qax.toD))∧s=[.map (some .i64) (qbi g)]):=by
 refine qac func84 rfl rfl (by simp[ntmps84]) (qab rfl _ _ _ _ ?_)
 simp only[ntmps84,results84,qak,List.length_nil]
 simp only[zU,seval,qav]
 refine qan l.length (fun k=>[(1,.mapr 0),(5,.osl 1 0 (qdu g (l.take k)).length),(10,.d (.sl (l.map qax.toD))),(11,.d (.int .i64 l.length)),(12,.d (.int .i64 k))]) (fun k=>[.map (some .i64) (qbi g),.arr 7 ((qdu g (l.take k)).map qax.toD)]) (fun _=>True) trivial ?_ ?_
 ·refine(qcw 5 7 rfl).trans ?_
  refine qaa [] [0,1] rfl (by simp) ?_ (Qln g _ _)
  simp only[zU,seval,qav]
  all_goals rfl
 intro k _ hk
 have hyl:=qj7 g (l.take k)
 rw[List.length_take] at hyl
 by_cases h:k<l.length
 ·have hst:qdu g (l.take (k+1))=stS g (qdu g (l.take k)) (l.getD k default):=qoc _ _ _ _ h
  obtain⟨x,hx⟩:∃x,x=l.getD k default:=⟨_,rfl⟩
  have eg:(l.map qax.toD).getD k default=x.toD:=by rw[qah _ _ _ h,←hx]
  obtain⟨ys,hys⟩:∃ys,ys=qdu g (l.take k):=⟨_,rfl⟩
  rw[←hys,←hx] at hst
  rw[←hys] at hyl ⊢
  rw[hst,stS]
  simp only[zU,seval,qav,(show(k:Int)<l.length by omega),h,eg]
  repeat((with_reducible apply aI);exact sdp)
  refine ifC.mk (fun h1=>?_) (fun h1=>?_)
  ·rw[if_pos h1]
   refine qaa [] [0,1] rfl (by simp) ?_ (Qln g _ _)
   simp only[zU,seval,qav,@qaf ((k:Int)+1) (by omega)]
   all_goals rfl
  rw[if_neg (by rw[h1];simp)]
  (try simp only[zU,seval,qav])
  have ea:qwk g x=⟨x.thread,if g x.on_=true then 1 else x.state,x.lo,x.hi,x.cpu,if g x.on_=true then -1 else x.on_,if g x.by_=true then -1 else x.by_⟩:=rfl
  refine ifC.mk (fun h2=>?_) (fun h2=>?_)<;>refine ifC.mk (fun h3=>?_) (fun h3=>?_)
  all_goals simp only[h2,h3,reduceIte,Bool.false_eq_true] at ea
  all_goals
   rcases List.eq_nil_or_concat ys with e|⟨zs,y,e⟩
   ·subst e
    rw[q87,if_neg (by simp),ea]
    (try simp only[zU,seval,qav,List.length_nil,List.map_nil,@qaf ((-1:Int)) (by omega)])
    repeat((with_reducible apply aI);exact sdp)
    refine qaa [] [0,4] rfl (by simp) ?_ ?_
    ·simp only[zU,seval,qav,@qaf ((k:Int)+1) (by omega)]
     all_goals rfl
    ·exact Qug g _ _ _
   ·rw[List.concat_eq_append] at e
    have hyl2:ys.length=zs.length+1:=by rw[e];simp
    have hyl3:(ys.map qax.toD).length=zs.length+1:=by rw[List.length_map,hyl2]
    have hlt3:zs.length<(ys.map qax.toD).length:=by omega
    have e0:((zs.length:Int)+1-1)=zs.length:=by omega
    have ey:ys.getD zs.length default=y:=by rw[e];simp
    have egy:(ys.map qax.toD).getD zs.length default=y.toD:=by rw[qah _ _ _ (by omega),ey]
    (try simp only[zU,seval,qav,hyl2,e0,@qaf ((zs.length:Int)) (by omega),Int.toNat_natCast,egy,(show(zs.length:Int)<(zs.length:Int)+1 by omega),(show zs.length<zs.length+1 by omega)])
    repeat((with_reducible apply aI);exact sdp)
    refine ifC.mk (fun h4=>?_) (fun h4=>?_)
    ·have hlk:ys.length≠0∧q7n (ys.getD (ys.length-1) default) (qwk g x)=true:=by
      refine⟨by omega,?_⟩
      rw[hyl2,Nat.add_sub_cancel,ey,ea];exact h4
     have hadd:(q87 ys (qwk g x)).map qax.toD=(ys.map qax.toD).set zs.length (yS y (qwk g x) true true).toD:=by
      rw[q87,if_pos hlk,hyl2,Nat.add_sub_cancel,ey,List.map_set];rfl
     have haddl:(q87 ys (qwk g x)).length=zs.length+1:=by
      rw[q87,if_pos hlk,List.length_set,hyl2]
     rw[hadd,haddl]
     refine⟨.inr (Qeq
      (fun L=>[(66,onV (L 0) (.osl 1 0 (zs.length+1))),(67,onV (L 1) (.d (.int .i64 zs.length))),(68,onV (L 2) (.osl 1 0 (zs.length+1))),(69,onV (L 3) (.d (.int .i64 zs.length))),(70,onV (L 4) (.ptr 2 2)),(71,onV (L 5) (.ptr 2 3)),(72,onV (L 6) (.d (.int .i64 (qwk g x).hi))),(73,onV (L 7) (.ptr 2 6)),(74,onV (L 8) (.d (.int .i64 (qwk g x).by_))),
       (75,onV (L 9) (.aptr 1 zs.length 0)),(76,onV (L 10) (.aptr 1 zs.length 2)),(77,onV (L 11) (.aptr 1 zs.length 3)),(78,onV (L 13) (.aptr 1 zs.length 0)),(79,onV (L 14) (.aptr 1 zs.length 6)),
       (1,.mapr 0),(5,.osl 1 0 (zs.length+1)),(7,.ptr 2 0),(8,.d (.int .i64 zs.length)),(10,.d (.sl (l.map qax.toD))),(11,.d (.int .i64 l.length)),(12,.d (.int .i64 k))])
      (fun L=>[.map (some .i64) (qbi g),.arr 7 ((ys.map qax.toD).set zs.length (yS y (qwk g x) (L 12) (L 15)).toD),.box 7 (.d (qwk g x).toD)]) (by kernel_rfl) ?_ ?_ ?_),?_⟩
     ·refine qaa [] [0,1,2] rfl (by simp) ?_ ?_
      ·rfl
      ·have e3:(ys.map qax.toD).set zs.length y.toD=ys.map qax.toD:=by rw[←egy,q0w]
       have eb:(yS y (qwk g x) (decide (16≤12)) (decide (16≤15))).toD=y.toD:=rfl
       show _=[_,Blk.arr 7 ((ys.map qax.toD).set zs.length (yS y (qwk g x) (decide (16≤12)) (decide (16≤15))).toD),_]
       rw[eb,e3,ea]
       exact Qpd g _ _ _
     ·simp only[q9y]
      refine⟨?_,?_,?_,?_,?_,?_,?_,?_,?_,?_,?_,?_,?_,?_,?_,?_,trivial⟩
      all_goals ((intro L hc hL hp;(try simp only[qk5,Region.binds,frB] at hp);(try simp only[Nat.zero_add,Nat.reduceAdd] at hL);simp only[zU,seval,qav,hL,hp,Qrd,Quv,Qku,Qub,Quc,Qk3,Qk2,Qab,List.length_set,hyl3,hyl2,qu8 _ _ _ hlt3,List.set_set,(show(zs.length:Int)<(zs.length:Int)+1 by omega),(show zs.length<zs.length+1 by omega)]);refine qaa [] [0,1,2] rfl (by simp) ?_ ?_)
      all_goals first|exact Qpd g _ _ _|(simp only[zU,seval,qav,Qab,rnU,Qrd,Quv];try rfl)
      all_goals skip
     ·simp only[zU,seval,qav,Qrd]
      refine qaa [] [0,1] rfl (by simp) ?_ (Qln g _ _)
      simp only[zU,seval,qav,@qaf ((k:Int)+1) (by omega)]
      try rfl
     ·(try simp only[zU,seval,qav,List.set_set,qu8 _ _ _ hlt3])
      refine qaa [] [0,1] rfl (by simp) ?_ ?_
      ·simp only[zU,seval,qav,@qaf ((k:Int)+1) (by omega)]
       try rfl
      ·rw[ea]
       exact Qln g _ _
    ·have hlk:¬(ys.length≠0∧q7n (ys.getD (ys.length-1) default) (qwk g x)=true):=by
      rw[hyl2,Nat.add_sub_cancel,ey]
      have hq:q7n y (qwk g x)=false:=by rw[ea];exact h4
      rw[hq]
      exact fun hq=>by cases hq.2
     rw[q87,if_neg hlk,ea]
     (try simp only[zU,seval,qav,hyl2,qaz])
     refine⟨⟨by omega,by omega⟩,?_⟩
     refine qaa [] [0,5] rfl (by simp) ?_ ?_
     ·simp only[zU,seval,qav,@qaf ((k:Int)+1) (by omega),hyl2]
      try rfl
     ·rw[List.map_append,show(ys.map qax.toD).take (zs.length+1)=ys.map qax.toD from List.take_of_length_le (by omega)]
      exact Quf g _ _ _ _
 ·have:k=l.length:=by omega
  subst this
  simp only[zU,seval,qav,(show ¬(l.length:Int)<l.length by omega),List.take_length]
  refine⟨_,_,(qc6 rfl).trans (qai [] [0] rfl (by simp) (show qbk _ _ _=AV.d _ from rfl) (Quh g _)),?_,rfl⟩
  simp only[zU,seval,qav,qaz]

def qj4 (pl:List Int) (s:qag):Int:=if 0≤s.parent then pl.getD s.parent.toNat 0 else -1
def qb9 (p:qag→Bool) (u:List qag×List Int) (s:qag):List qag×List Int:=
 if p s=true then(u.1++[{s with parent:=qj4 u.2 s}],u.2++[(u.1.length:Int)]) else(u.1,u.2++[qj4 u.2 s])
def chF (p:qag→Bool) (l:List qag):List qag×List Int:=l.foldl (qb9 p) ([],[])
def qis (out:List qag) (s:qag):List qag:=
 if 0≤s.parent then out.set s.parent.toNat {out.getD s.parent.toNat default with self:=(out.getD s.parent.toNat default).self-(s.hi-s.lo)} else out
def q7j (out:List qag) (s:qag):qag:={s with depth:=if 0≤s.parent then(out.getD s.parent.toNat default).depth+1 else 0,self:=s.hi-s.lo}
def qcm (out:List qag) (s:qag):List qag:=qis out s++[q7j out s]
def qds (l:List qag):List qag:=l.foldl qcm []
theorem qjq (out:List qag) (s:qag):(qis out s).length=out.length:=by
 unfold qis;split<;>simp
theorem qde (out:List qag) (s:qag):(qcm out s).length=out.length+1:=by
 rw[qcm,List.length_append,qjq];rfl
theorem qfr (l:List qag) (s:qag):qds (l++[s])=qcm (qds l) s:=by
 rw[qds,List.foldl_append];rfl
theorem qdi (l:List qag):(qds l).length=l.length:=by
 suffices h:∀(l out:List qag),(l.foldl qcm out).length=out.length+l.length by simpa[qds] using h l []
 intro l
 induction l with
 | nil=>intro out;simp
 | cons s l ih=>intro out;rw[List.foldl_cons,ih,qde,List.length_cons];omega
def qe8 (l:List qag):Prop:=∀i,i<l.length→(0≤(l.getD i default).lo∧(l.getD i default).lo≤(l.getD i default).hi∧(l.getD i default).hi≤1000000000000000)∧-1≤(l.getD i default).parent∧(l.getD i default).parent<i
def okL (n:Nat) (out:List qag):Prop:=∀j,j<out.length→0≤(out.getD j default).depth∧(out.getD j default).depth≤n∧-((n:Int)*1000000000000000)≤(out.getD j default).self∧(out.getD j default).self≤1000000000000000
theorem qff (l:List qag) (s:qag) (j:Nat) (h:j<l.length+1):(l++[s]).getD j default=if j<l.length then l.getD j default else s:=by
 by_cases e:j<l.length
 ·rw[if_pos e,List.getD_eq_getElem?_getD,List.getElem?_append_left e,List.getD_eq_getElem?_getD]
 ·have:j=l.length:=by omega
  subst this
  rw[if_neg e];simp
theorem q0c {l:List qag} {s:qag} (h:qe8 (l++[s])):qe8 l∧(0≤s.lo∧s.lo≤s.hi∧s.hi≤1000000000000000)∧-1≤s.parent∧s.parent<l.length:=by
 constructor
 ·intro i hi
  have:=h i (by simp;omega)
  rw[qff _ _ _ (by omega),if_pos hi] at this
  exact this
 ·have:=h l.length (by simp)
  rw[qff _ _ _ (by omega),if_neg (by omega)] at this
  exact this
theorem Qja {l:List qag} {s:qag} (h:qe8 l) (hs:0≤s.lo∧s.lo≤s.hi∧s.hi≤1000000000000000) (h1:-1≤s.parent) (h2:s.parent<l.length):qe8 (l++[s]):=by
 intro i hi
 rw[List.length_append] at hi
 have hi:i<l.length+1:=hi
 rw[qff _ _ _ hi]
 split
 ·rename_i e;exact h i e
 ·exact⟨hs,h1,by omega⟩
theorem q7i {l:List qag}:qe8 l→okL l.length (qds l):=by
 obtain⟨n,hn⟩:∃n,n=l.length:=⟨_,rfl⟩
 induction n generalizing l with
 | zero=>
  intro _ j hj
  have:l=[]:=List.eq_nil_of_length_eq_zero hn.symm
  subst this;simp[qds] at hj
 | succ n ih=>
  intro hg
  rcases List.eq_nil_or_concat l with rfl|⟨v,s,rfl⟩
  ·simp at hn
  rw[List.concat_eq_append] at hg hn ⊢
  obtain⟨g1,g2,g3,g4⟩:=q0c hg
  have hv:n=v.length:=by rw[List.length_append] at hn;simp at hn;exact hn
  have ok:=ih (l:=v) hv g1
  rw[←hv] at ok
  intro j hj
  rw[qfr,qde,qdi] at hj
  have hl:=qdi v
  rw[List.length_append,qfr,qcm,qff _ _ _ (by rw[qjq];omega),qjq,←hv]
  have e1:n+[s].length=n+1:=rfl
  rw[e1]
  by_cases hjn:j<(qds v).length
  ·rw[if_pos hjn]
   have o1:=ok j hjn
   unfold qis
   split
   ·rename_i hp
    by_cases hjp:s.parent.toNat=j
    ·subst hjp
     have e:((qds v).set s.parent.toNat {(qds v).getD s.parent.toNat default with self:=((qds v).getD s.parent.toNat default).self-(s.hi-s.lo)}).getD s.parent.toNat default={(qds v).getD s.parent.toNat default with self:=((qds v).getD s.parent.toNat default).self-(s.hi-s.lo)}:=by simp[hjn]
     rw[e]
     refine⟨o1.1,by have:=o1.2.1;simp only;omega,?_,?_⟩
     ·have:=o1.2.2.1;simp only;omega
     ·have:=o1.2.2.2;simp only;omega
    ·have e:∀z,((qds v).set s.parent.toNat z).getD j default=(qds v).getD j default:=fun z=>by
      rw[List.getD_eq_getElem?_getD,List.getElem?_set_ne hjp,List.getD_eq_getElem?_getD]
     rw[e]
     exact⟨o1.1,by have:=o1.2.1;omega,by have:=o1.2.2.1;omega,o1.2.2.2⟩
   ·exact⟨o1.1,by have:=o1.2.1;omega,by have:=o1.2.2.1;omega,o1.2.2.2⟩
  ·rw[if_neg hjn]
   unfold q7j
   refine⟨?_,?_,by simp only;omega,by simp only;omega⟩
   ·simp only
    split
    ·rename_i hp;have:=ok s.parent.toNat (by omega);omega
    ·omega
   ·simp only
    split
    ·rename_i hp;have:=ok s.parent.toNat (by omega);omega
    ·omega
theorem qre (p:qag→Bool) (l:List qag) (s:qag):chF p (l++[s])=qb9 p (chF p l) s:=by
 rw[chF,List.foldl_append];rfl
theorem qhp (p:qag→Bool) {l:List qag}:qe8 l→(chF p l).2.length=l.length∧(chF p l).1.length≤l.length∧(∀q,q<l.length→-1≤(chF p l).2.getD q 0∧(chF p l).2.getD q 0<(chF p l).1.length)∧qe8 (chF p l).1:=by
 obtain⟨n,hn⟩:∃n,n=l.length:=⟨_,rfl⟩
 induction n generalizing l with
 | zero=>
  intro _
  have:l=[]:=List.eq_nil_of_length_eq_zero hn.symm
  subst this
  refine⟨rfl,Nat.le_refl _,fun q hq=>by simp at hq,fun i hi=>by simp[chF] at hi⟩
 | succ n ih=>
  intro hg
  rcases List.eq_nil_or_concat l with rfl|⟨v,s,rfl⟩
  ·simp at hn
  rw[List.concat_eq_append] at hg hn ⊢
  obtain⟨g1,g2,g3,g4⟩:=q0c hg
  have hv:n=v.length:=by rw[List.length_append] at hn;simp at hn;exact hn
  obtain⟨f1,f2,f3,f4⟩:=ih (l:=v) hv g1
  have hup:-1≤qj4 (chF p v).2 s∧qj4 (chF p v).2 s<(chF p v).1.length:=by
   unfold qj4
   split
   ·exact f3 s.parent.toNat (by omega)
   ·omega
  have gd:∀(a:List Int) (x:Int) (q:Nat),q<a.length+1→(a++[x]).getD q 0=if q<a.length then a.getD q 0 else x:=fun a x q hq=>by
   by_cases e:q<a.length
   ·rw[if_pos e,List.getD_eq_getElem?_getD,List.getElem?_append_left e,List.getD_eq_getElem?_getD]
   ·have:q=a.length:=by omega
    subst this
    rw[if_neg e];simp
  have e1:(v++[s]).length=v.length+1:=by simp
  rw[e1,qre,qb9]
  split
  ·refine⟨by simp[f1],by simp;omega,fun q hq=>?_,Qja f4 g2 hup.1 hup.2⟩
   simp only
   rw[gd _ _ _ (by omega),List.length_append]
   split
   ·have:=f3 q (by omega);simp only[List.length_cons,List.length_nil];omega
   ·simp only[List.length_cons,List.length_nil];omega
  ·refine⟨by simp[f1],by simp only;omega,fun q hq=>?_,f4⟩
   simp only
   rw[gd _ _ _ (by omega)]
   split
   ·exact f3 q (by omega)
   ·exact hup
theorem qhk {l:List qag} (h:qe8 l) (k:Nat):qe8 (l.take k):=by
 intro i hi
 rw[List.length_take] at hi
 have e:(l.take k).getD i default=l.getD i default:=by
  rw[List.getD_eq_getElem?_getD,List.getElem?_take_of_lt (by omega),List.getD_eq_getElem?_getD]
 rw[e];exact h i (by omega)
def q2k (pl:List Int) (n:Nat):List D:=pl.map (D.int .i64)++List.replicate n (.int .i64 0)
theorem q06 (pl:List Int) (n:Nat):(q2k pl n).length=pl.length+n:=by simp[q2k]
theorem q07 {pl:List Int} {n q:Nat} (h:q<pl.length):(q2k pl n).getD q default=.int .i64 (pl.getD q 0):=by
 rw[q2k,List.getD_eq_getElem?_getD,List.getElem?_append_left (by simpa using h)]
 simp[h]
theorem qfm (pl:List Int) (n:Nat) (x y:Int):((q2k pl (n+1)).set pl.length (.int .i64 x)).set pl.length (.int .i64 y)=q2k (pl++[y]) n:=by
 rw[List.set_set,q2k,List.replicate_succ]
 rw[List.set_append_right _ _ (by simp)]
 simp[q2k]
theorem qhg (pl:List Int) (n:Nat) (y:Int):(q2k pl (n+1)).set pl.length (.int .i64 y)=q2k (pl++[y]) n:=by
 rw[q2k,List.replicate_succ,List.set_append_right _ _ (by simp)]
 simp[q2k]
theorem qwc (g:Int→Bool) (ρ:List Nat) (σ:Sto):qdp (0::1::ρ) (freezeL (.box 1 (.mapr 1)::.map (some .i64) (qbi g)::σ) [])=.box 1 (.mapr 1)::.map (some .i64) (qbi g)::ρ.map fun id=>qbx (0::1::ρ) (.box 1 (.mapr 1)::.map (some .i64) (qbi g)::σ) (qae (.box 1 (.mapr 1)::.map (some .i64) (qbi g)::σ) id):=by
 show qbx (0::1::ρ) _ (.box 1 (.mapr 1))::qbx (0::1::ρ) _ (.map (some .i64) (qbi g))::_=_
 rw[qby];rfl
theorem q7k (m:Nat) (hm:m≤100000):Qu1 prog 160 (.d (.int .i64 (m:Int))) (.d (.int .i64 (m:Int))):=by
 refine(show _∧_∧_∧(0:Int)≤m∧(m:Int)≤m∧((8:Nat):Int)*(m:Int)≤281474976710656∧(m:Int)≤_ from⟨rfl,rfl,rfl,?_,?_,?_,?_⟩)<;>omega
theorem q1b (σ:Sto) (m:Nat):mkS prog σ 160 (.d (.int .i64 (m:Int)))=σ++[.arr 1 (List.replicate m (.int .i64 0))]:=rfl
theorem Qin (g:Int→Bool) {fv:FuncId} (p:qag→Bool) (hp:∀x:qag,qal prog Gl fv [.d x.toD,.ptr 0 0] (.box 1 (.mapr 1)::.map (some .i64) (qbi g)::[]) (fun r s=>r=.d (.bool (p x))∧s=(.box 1 (.mapr 1)::.map (some .i64) (qbi g)::[]))) (l:List qag) (hl:l.length≤1000) (hg:qe8 l) :
  qal prog Gl 64 [.d (.sl (l.map qag.toD)),.fn fv [.ptr 0 0]] (.box 1 (.mapr 1)::.map (some .i64) (qbi g)::[]) (fun r s=>r=.d (.sl ((qds (chF p l).1).map qag.toD))∧s=(.box 1 (.mapr 1)::.map (some .i64) (qbi g)::[])):=by
 refine qac func64 rfl rfl (by simp[ntmps64]) (qab rfl _ _ _ _ ?_)
 simp only[ntmps64,results64,qak,List.length_nil]
 simp only[zU,seval,qav]
 refine⟨q7k l.length (by omega),?_⟩
 rw[q1b]
 refine qan l.length (fun k=>[(1,.fn fv [.ptr 0 0]),(5,.osl 2 0 (qds (chF p (l.take k)).1).length),(6,.osl 3 0 l.length),(13,.d (.sl (l.map qag.toD))),(14,.d (.int .i64 l.length)),(15,.d (.int .i64 k))])
  (fun k=>(.box 1 (.mapr 1)::.map (some .i64) (qbi g)::.arr 8 ((qds (chF p (l.take k)).1).map qag.toD)::.arr 1 (q2k (chF p (l.take k)).2 (l.length-k))::[])) (fun _=>True) trivial ?_ ?_
 ·refine(qcw 5 8 rfl).trans ?_
  refine qaa [] [0,1,3,2] rfl (by simp) ?_ ?_
  ·simp only[zU,seval,qav]
   try rfl
  ·refine(qwc g _ _).trans ?_
   rfl
 intro k _ hk
 have hgk:=qhk hg k
 obtain⟨f1,f2,f3,f4⟩:=qhp p hgk
 have hkl:(l.take k).length=k:=by rw[List.length_take];omega
 rw[hkl] at f1 f2 f3
 by_cases h:k<l.length
 ·obtain⟨x,hx⟩:∃x,x=l.getD k default:=⟨_,rfl⟩
  have eg:(l.map qag.toD).getD k default=x.toD:=by rw[qah _ _ _ h,←hx]
  have ht:l.take (k+1)=l.take k++[x]:=by rw[qa0 l k h,←hx]
  have gx:=hg k h
  rw[←hx] at gx
  obtain⟨o,ho⟩:∃o,o=(chF p (l.take k)).1:=⟨_,rfl⟩
  obtain⟨pl,hpl⟩:∃pl,pl=(chF p (l.take k)).2:=⟨_,rfl⟩
  obtain⟨out,hout⟩:∃out,out=qds o:=⟨_,rfl⟩
  have hc:chF p (l.take (k+1))=qb9 p (o,pl) x:=by rw[ht,qre,ho,hpl]
  have hol:out.length=o.length:=by rw[hout,qdi]
  have hok:okL o.length out:=by rw[hout];exact q7i (by rw[ho];exact f4)
  rw[hc]
  rw[←ho,←hpl] at f3
  rw[←ho] at f2 f4
  rw[←hpl] at f1
  rw[←ho,←hpl,←hout]
  obtain⟨m,hm⟩:∃m,l.length-k=m+1:=⟨l.length-k-1,by omega⟩
  have hm2:l.length-(k+1)=m:=by omega
  rw[hm,hm2]
  have hpll:=q06 pl (m+1)
  obtain⟨up,hup⟩:∃up,up=qj4 pl x:=⟨_,rfl⟩
  have hupb:-1≤up∧up<o.length:=by
   rw[hup,qj4];split
   ·exact f3 _ (by omega)
   ·omega
  simp only[zU,seval,qav,(show(k:Int)<l.length by omega),h,eg]
  repeat((with_reducible apply aI);exact sdp)
  refine ifC.mk (fun h1=>?_) (fun h1=>?_)
  ·have h1:0≤x.parent:=of_decide_eq_true h1
   obtain⟨q,hq⟩:∃q:Nat,x.parent=q:=⟨x.parent.toNat,by omega⟩
   have hqk:q<pl.length:=by omega
   have eq:(q2k pl (m+1)).getD q default=.int .i64 up:=by rw[q07 hqk,hup,qj4,if_pos h1,hq,Int.toNat_natCast]
   (try simp only[zU,seval,qav,hq,(show(q:Int)<l.length by omega),(show q<l.length by omega),hpll,(show q<pl.length+(m+1) by omega),eq])
   refine⟨by omega,?_⟩
   refine qb1 (R:=fun r ν=>r=.d (.bool (p x))∧ν=[]) [0,1] (.box 1 (.mapr 1)::.map (some .i64) (qbi g)::[]) (by simp) (by simp) (show[qbx [0,1] _ (.box 1 (.mapr 1)),qbx [0,1] _ (.map (some .i64) (qbi g))]=_ by rw[qby];rfl) rfl (hk2 rfl (qc0 g _)) ((hp x).mono fun r s hr=>⟨[],by rw[hr.2];rfl,hr.1,rfl⟩) (fun r ν hr=>?_)
   obtain⟨rfl,rfl⟩:=hr
   have ekl:k=pl.length:=f1.symm
   simp only[zU,seval,qav,List.map_nil,List.append_nil]
   refine ifC.mk (fun hc=>?_) (fun hc=>?_)
   ·have hc:p x=false:=by simpa using hc
    rw[qb9,if_neg (by rw[hc];simp),←hup,←hout]
    refine qaa [] [0,1,2,3] rfl (by simp) ?_ ?_
    ·simp only[zU,seval,qav,@qaf ((k:Int)+1) (by omega)]
     try rfl
    ·rw[ekl,qhg]
     refine(qwc g _ _).trans ?_
     rfl
   ·have hc:p x=true:=by simpa using hc
    have e1:x.hi-x.lo=IntKind.i64.wrap (x.hi-x.lo):=(@qaf (x.hi-x.lo) (by omega)).symm
    rw[qb9,if_pos hc,←hup]
    have efin:qds (o++[{x with parent:=up}])=qcm out {x with parent:=up}:=by rw[qfr,←hout]
    simp only[efin]
    (try simp only[zU,seval,qav,@qaf (x.hi-x.lo) (by omega)])
    refine ifC.mk (fun h2=>?_) (fun h2=>?_)
    ·have h2:0≤up:=of_decide_eq_true h2
     obtain⟨u,hu⟩:∃u:Nat,up=u:=⟨up.toNat,by omega⟩
     have hul:u<out.length:=by omega
     obtain⟨y,hy⟩:∃y,y=out.getD u default:=⟨_,rfl⟩
     have egy:(out.map qag.toD).getD u default=y.toD:=by rw[qah _ _ _ hul,←hy]
     have hyk:=hok u hul
     rw[←hy] at hyk
     (try simp only[zU,seval,qav,hu,(show(u:Int)<out.length by omega),hul,egy,@qaf (y.depth+1) (by omega),@qaf (y.self-(x.hi-x.lo)) (by omega)])
     refine⟨.inl (by kernel_rfl),?_⟩
     (try simp only[zU,seval,qav,(show(u:Int)<out.length by omega),hul,egy,(show(k:Int)<l.length by omega),hpll,(show k<pl.length+(m+1) by omega)])
     refine⟨⟨by omega,by omega⟩,?_⟩
     have ef:(qcm out {x with parent:=(u:Int)}).map qag.toD=(out.map qag.toD).set u (qag.toD {y with self:=y.self-(x.hi-x.lo)})++[qag.toD {x with parent:=(u:Int),depth:=y.depth+1,self:=x.hi-x.lo}]:=by
      simp only[qcm,qis,q7j,(show(0:Int)≤u by omega),Int.toNat_natCast,←hy,if_true,List.map_append,List.map_set]
      rfl
     rw[ef,qde]
     refine qaa [] [0,1,6,3] rfl (by simp) ?_ ?_
     ·simp only[zU,seval,qav,@qaf ((k:Int)+1) (by omega)]
      try rfl
     ·rw[ekl,qfm]
      rw[List.take_of_length_le (by rw[List.length_set,List.length_map];exact Nat.le_refl _),←hol]
      refine(qwc g _ _).trans ?_
      rfl
    ·have h2:¬0≤up:=of_decide_eq_false h2
     (try simp only[zU,seval,qav,(show(k:Int)<l.length by omega),hpll,(show k<pl.length+(m+1) by omega)])
     refine⟨⟨by omega,by omega⟩,?_⟩
     have ef:(qcm out {x with parent:=up}).map qag.toD=out.map qag.toD++[qag.toD {x with parent:=up,depth:=0,self:=x.hi-x.lo}]:=by
      simp only[qcm,qis,q7j,h2,if_false,List.map_append]
      rfl
     rw[ef,qde]
     refine qaa [] [0,1,6,3] rfl (by simp) ?_ ?_
     ·simp only[zU,seval,qav,@qaf ((k:Int)+1) (by omega)]
      try rfl
     ·rw[ekl,qfm,←hol,qaz]
      refine(qwc g _ _).trans ?_
      rfl
  ·have h1:¬0≤x.parent:=of_decide_eq_false h1
   have eu:up=-1:=by rw[hup,qj4,if_neg h1]
   (try simp only[zU,seval,qav,hpll])
   rw[←eu]
   refine⟨by omega,?_⟩
   refine qb1 (R:=fun r ν=>r=.d (.bool (p x))∧ν=[]) [0,1] (.box 1 (.mapr 1)::.map (some .i64) (qbi g)::[]) (by simp) (by simp) (show[qbx [0,1] _ (.box 1 (.mapr 1)),qbx [0,1] _ (.map (some .i64) (qbi g))]=_ by rw[qby];rfl) rfl (hk2 rfl (qc0 g _)) ((hp x).mono fun r s hr=>⟨[],by rw[hr.2];rfl,hr.1,rfl⟩) (fun r ν hr=>?_)
   obtain⟨rfl,rfl⟩:=hr
   have ekl:k=pl.length:=f1.symm
   simp only[zU,seval,qav,List.map_nil,List.append_nil]
   refine ifC.mk (fun hc=>?_) (fun hc=>?_)
   ·have hc:p x=false:=by simpa using hc
    rw[qb9,if_neg (by rw[hc];simp),←hup,←hout]
    refine qaa [] [0,1,2,3] rfl (by simp) ?_ ?_
    ·simp only[zU,seval,qav,@qaf ((k:Int)+1) (by omega)]
     try rfl
    ·rw[ekl,qhg]
     refine(qwc g _ _).trans ?_
     rfl
   ·have hc:p x=true:=by simpa using hc
    have e1:x.hi-x.lo=IntKind.i64.wrap (x.hi-x.lo):=(@qaf (x.hi-x.lo) (by omega)).symm
    rw[qb9,if_pos hc,←hup]
    have efin:qds (o++[{x with parent:=up}])=qcm out {x with parent:=up}:=by rw[qfr,←hout]
    simp only[efin]
    (try simp only[zU,seval,qav,@qaf (x.hi-x.lo) (by omega)])
    refine ifC.mk (fun h2=>?_) (fun h2=>?_)
    ·have h2:0≤up:=of_decide_eq_true h2
     obtain⟨u,hu⟩:∃u:Nat,up=u:=⟨up.toNat,by omega⟩
     have hul:u<out.length:=by omega
     obtain⟨y,hy⟩:∃y,y=out.getD u default:=⟨_,rfl⟩
     have egy:(out.map qag.toD).getD u default=y.toD:=by rw[qah _ _ _ hul,←hy]
     have hyk:=hok u hul
     rw[←hy] at hyk
     (try simp only[zU,seval,qav,hu,(show(u:Int)<out.length by omega),hul,egy,@qaf (y.depth+1) (by omega),@qaf (y.self-(x.hi-x.lo)) (by omega)])
     refine⟨.inl (by kernel_rfl),?_⟩
     (try simp only[zU,seval,qav,(show(u:Int)<out.length by omega),hul,egy,(show(k:Int)<l.length by omega),hpll,(show k<pl.length+(m+1) by omega)])
     refine⟨⟨by omega,by omega⟩,?_⟩
     have ef:(qcm out {x with parent:=(u:Int)}).map qag.toD=(out.map qag.toD).set u (qag.toD {y with self:=y.self-(x.hi-x.lo)})++[qag.toD {x with parent:=(u:Int),depth:=y.depth+1,self:=x.hi-x.lo}]:=by
      simp only[qcm,qis,q7j,(show(0:Int)≤u by omega),Int.toNat_natCast,←hy,if_true,List.map_append,List.map_set]
      rfl
     rw[ef,qde]
     refine qaa [] [0,1,6,3] rfl (by simp) ?_ ?_
     ·simp only[zU,seval,qav,@qaf ((k:Int)+1) (by omega)]
      try rfl
     ·rw[ekl,qfm]
      rw[List.take_of_length_le (by rw[List.length_set,List.length_map];exact Nat.le_refl _),←hol]
      refine(qwc g _ _).trans ?_
      rfl
    ·have h2:¬0≤up:=of_decide_eq_false h2
     (try simp only[zU,seval,qav,(show(k:Int)<l.length by omega),hpll,(show k<pl.length+(m+1) by omega)])
     refine⟨⟨by omega,by omega⟩,?_⟩
     have ef:(qcm out {x with parent:=up}).map qag.toD=out.map qag.toD++[qag.toD {x with parent:=up,depth:=0,self:=x.hi-x.lo}]:=by
      simp only[qcm,qis,q7j,h2,if_false,List.map_append]
      rfl
     rw[ef,qde]
     refine qaa [] [0,1,6,3] rfl (by simp) ?_ ?_
     ·simp only[zU,seval,qav,@qaf ((k:Int)+1) (by omega)]
      try rfl
     ·rw[ekl,qfm,←hol,qaz]
      refine(qwc g _ _).trans ?_
      rfl
 ·have:k=l.length:=by omega
  subst this
  simp only[zU,seval,qav,(show ¬(l.length:Int)<l.length by omega),List.take_length]
  refine⟨_,_,(qc6 rfl).trans (qai [] [0,1] rfl (by simp) (show qbk _ _ _=AV.d _ from rfl) (qwc g [] _)),?_,rfl⟩
  simp only[zU,seval,qav,qaz]
theorem Qim (rs:D) {fv:FuncId} (p:qag→Bool) (hp:∀x:qag,qal prog Gl fv [.d x.toD,.ptr 0 0] (.box 1 (.d rs)::[]) (fun r s=>r=.d (.bool (p x))∧s=(.box 1 (.d rs)::[]))) (l:List qag) (hl:l.length≤1000) (hg:qe8 l) :
  qal prog Gl 64 [.d (.sl (l.map qag.toD)),.fn fv [.ptr 0 0]] (.box 1 (.d rs)::[]) (fun r s=>r=.osl 1 0 (qds (chF p l).1).length∧s=(.box 1 (.d rs)::.arr 8 ((qds (chF p l).1).map qag.toD)::[])):=by
 refine qac func64 rfl rfl (by simp[ntmps64]) (qab rfl _ _ _ _ ?_)
 simp only[ntmps64,results64,qak,List.length_nil]
 simp only[zU,seval,qav]
 refine⟨q7k l.length (by omega),?_⟩
 rw[q1b]
 refine qan l.length (fun k=>[(1,.fn fv [.ptr 0 0]),(5,.osl 1 0 (qds (chF p (l.take k)).1).length),(6,.osl 2 0 l.length),(13,.d (.sl (l.map qag.toD))),(14,.d (.int .i64 l.length)),(15,.d (.int .i64 k))])
  (fun k=>(.box 1 (.d rs)::.arr 8 ((qds (chF p (l.take k)).1).map qag.toD)::.arr 1 (q2k (chF p (l.take k)).2 (l.length-k))::[])) (fun _=>True) trivial ?_ ?_
 ·refine(qcw 5 8 rfl).trans ?_
  refine qaa [] [0,2,1] rfl (by simp) ?_ ?_
  ·simp only[zU,seval,qav]
   try rfl
  ·skip
   rfl
 intro k _ hk
 have hgk:=qhk hg k
 obtain⟨f1,f2,f3,f4⟩:=qhp p hgk
 have hkl:(l.take k).length=k:=by rw[List.length_take];omega
 rw[hkl] at f1 f2 f3
 by_cases h:k<l.length
 ·obtain⟨x,hx⟩:∃x,x=l.getD k default:=⟨_,rfl⟩
  have eg:(l.map qag.toD).getD k default=x.toD:=by rw[qah _ _ _ h,←hx]
  have ht:l.take (k+1)=l.take k++[x]:=by rw[qa0 l k h,←hx]
  have gx:=hg k h
  rw[←hx] at gx
  obtain⟨o,ho⟩:∃o,o=(chF p (l.take k)).1:=⟨_,rfl⟩
  obtain⟨pl,hpl⟩:∃pl,pl=(chF p (l.take k)).2:=⟨_,rfl⟩
  obtain⟨out,hout⟩:∃out,out=qds o:=⟨_,rfl⟩
  have hc:chF p (l.take (k+1))=qb9 p (o,pl) x:=by rw[ht,qre,ho,hpl]
  have hol:out.length=o.length:=by rw[hout,qdi]
  have hok:okL o.length out:=by rw[hout];exact q7i (by rw[ho];exact f4)
  rw[hc]
  rw[←ho,←hpl] at f3
  rw[←ho] at f2 f4
  rw[←hpl] at f1
  rw[←ho,←hpl,←hout]
  obtain⟨m,hm⟩:∃m,l.length-k=m+1:=⟨l.length-k-1,by omega⟩
  have hm2:l.length-(k+1)=m:=by omega
  rw[hm,hm2]
  have hpll:=q06 pl (m+1)
  obtain⟨up,hup⟩:∃up,up=qj4 pl x:=⟨_,rfl⟩
  have hupb:-1≤up∧up<o.length:=by
   rw[hup,qj4];split
   ·exact f3 _ (by omega)
   ·omega
  simp only[zU,seval,qav,(show(k:Int)<l.length by omega),h,eg]
  repeat((with_reducible apply aI);exact sdp)
  refine ifC.mk (fun h1=>?_) (fun h1=>?_)
  ·have h1:0≤x.parent:=of_decide_eq_true h1
   obtain⟨q,hq⟩:∃q:Nat,x.parent=q:=⟨x.parent.toNat,by omega⟩
   have hqk:q<pl.length:=by omega
   have eq:(q2k pl (m+1)).getD q default=.int .i64 up:=by rw[q07 hqk,hup,qj4,if_pos h1,hq,Int.toNat_natCast]
   (try simp only[zU,seval,qav,hq,(show(q:Int)<l.length by omega),(show q<l.length by omega),hpll,(show q<pl.length+(m+1) by omega),eq])
   refine⟨by omega,?_⟩
   refine qb1 (R:=fun r ν=>r=.d (.bool (p x))∧ν=[]) [0] (.box 1 (.d rs)::[]) (by simp) (by simp) rfl rfl (hk1 rfl) ((hp x).mono fun r s hr=>⟨[],by rw[hr.2];rfl,hr.1,rfl⟩) (fun r ν hr=>?_)
   obtain⟨rfl,rfl⟩:=hr
   have ekl:k=pl.length:=f1.symm
   simp only[zU,seval,qav,List.map_nil,List.append_nil]
   refine ifC.mk (fun hc=>?_) (fun hc=>?_)
   ·have hc:p x=false:=by simpa using hc
    rw[qb9,if_neg (by rw[hc];simp),←hup,←hout]
    refine qaa [] [0,1,2] rfl (by simp) ?_ ?_
    ·simp only[zU,seval,qav,@qaf ((k:Int)+1) (by omega)]
     try rfl
    ·rw[ekl,qhg]
     skip
     rfl
   ·have hc:p x=true:=by simpa using hc
    have e1:x.hi-x.lo=IntKind.i64.wrap (x.hi-x.lo):=(@qaf (x.hi-x.lo) (by omega)).symm
    rw[qb9,if_pos hc,←hup]
    have efin:qds (o++[{x with parent:=up}])=qcm out {x with parent:=up}:=by rw[qfr,←hout]
    simp only[efin]
    (try simp only[zU,seval,qav,@qaf (x.hi-x.lo) (by omega)])
    refine ifC.mk (fun h2=>?_) (fun h2=>?_)
    ·have h2:0≤up:=of_decide_eq_true h2
     obtain⟨u,hu⟩:∃u:Nat,up=u:=⟨up.toNat,by omega⟩
     have hul:u<out.length:=by omega
     obtain⟨y,hy⟩:∃y,y=out.getD u default:=⟨_,rfl⟩
     have egy:(out.map qag.toD).getD u default=y.toD:=by rw[qah _ _ _ hul,←hy]
     have hyk:=hok u hul
     rw[←hy] at hyk
     (try simp only[zU,seval,qav,hu,(show(u:Int)<out.length by omega),hul,egy,@qaf (y.depth+1) (by omega),@qaf (y.self-(x.hi-x.lo)) (by omega)])
     refine⟨.inl (by kernel_rfl),?_⟩
     (try simp only[zU,seval,qav,(show(u:Int)<out.length by omega),hul,egy,(show(k:Int)<l.length by omega),hpll,(show k<pl.length+(m+1) by omega)])
     refine⟨⟨by omega,by omega⟩,?_⟩
     have ef:(qcm out {x with parent:=(u:Int)}).map qag.toD=(out.map qag.toD).set u (qag.toD {y with self:=y.self-(x.hi-x.lo)})++[qag.toD {x with parent:=(u:Int),depth:=y.depth+1,self:=x.hi-x.lo}]:=by
      simp only[qcm,qis,q7j,(show(0:Int)≤u by omega),Int.toNat_natCast,←hy,if_true,List.map_append,List.map_set]
      rfl
     rw[ef,qde]
     refine qaa [] [0,5,2] rfl (by simp) ?_ ?_
     ·simp only[zU,seval,qav,@qaf ((k:Int)+1) (by omega)]
      try rfl
     ·rw[ekl,qfm]
      rw[List.take_of_length_le (by rw[List.length_set,List.length_map];exact Nat.le_refl _),←hol]
      skip
      rfl
    ·have h2:¬0≤up:=of_decide_eq_false h2
     (try simp only[zU,seval,qav,(show(k:Int)<l.length by omega),hpll,(show k<pl.length+(m+1) by omega)])
     refine⟨⟨by omega,by omega⟩,?_⟩
     have ef:(qcm out {x with parent:=up}).map qag.toD=out.map qag.toD++[qag.toD {x with parent:=up,depth:=0,self:=x.hi-x.lo}]:=by
      simp only[qcm,qis,q7j,h2,if_false,List.map_append]
      rfl
     rw[ef,qde]
     refine qaa [] [0,5,2] rfl (by simp) ?_ ?_
     ·simp only[zU,seval,qav,@qaf ((k:Int)+1) (by omega)]
      try rfl
     ·rw[ekl,qfm,←hol,qaz]
      skip
      rfl
  ·have h1:¬0≤x.parent:=of_decide_eq_false h1
   have eu:up=-1:=by rw[hup,qj4,if_neg h1]
   (try simp only[zU,seval,qav,hpll])
   rw[←eu]
   refine⟨by omega,?_⟩
   refine qb1 (R:=fun r ν=>r=.d (.bool (p x))∧ν=[]) [0] (.box 1 (.d rs)::[]) (by simp) (by simp) rfl rfl (hk1 rfl) ((hp x).mono fun r s hr=>⟨[],by rw[hr.2];rfl,hr.1,rfl⟩) (fun r ν hr=>?_)
   obtain⟨rfl,rfl⟩:=hr
   have ekl:k=pl.length:=f1.symm
   simp only[zU,seval,qav,List.map_nil,List.append_nil]
   refine ifC.mk (fun hc=>?_) (fun hc=>?_)
   ·have hc:p x=false:=by simpa using hc
    rw[qb9,if_neg (by rw[hc];simp),←hup,←hout]
    refine qaa [] [0,1,2] rfl (by simp) ?_ ?_
    ·simp only[zU,seval,qav,@qaf ((k:Int)+1) (by omega)]
     try rfl
    ·rw[ekl,qhg]
     skip
     rfl
   ·have hc:p x=true:=by simpa using hc
    have e1:x.hi-x.lo=IntKind.i64.wrap (x.hi-x.lo):=(@qaf (x.hi-x.lo) (by omega)).symm
    rw[qb9,if_pos hc,←hup]
    have efin:qds (o++[{x with parent:=up}])=qcm out {x with parent:=up}:=by rw[qfr,←hout]
    simp only[efin]
    (try simp only[zU,seval,qav,@qaf (x.hi-x.lo) (by omega)])
    refine ifC.mk (fun h2=>?_) (fun h2=>?_)
    ·have h2:0≤up:=of_decide_eq_true h2
     obtain⟨u,hu⟩:∃u:Nat,up=u:=⟨up.toNat,by omega⟩
     have hul:u<out.length:=by omega
     obtain⟨y,hy⟩:∃y,y=out.getD u default:=⟨_,rfl⟩
     have egy:(out.map qag.toD).getD u default=y.toD:=by rw[qah _ _ _ hul,←hy]
     have hyk:=hok u hul
     rw[←hy] at hyk
     (try simp only[zU,seval,qav,hu,(show(u:Int)<out.length by omega),hul,egy,@qaf (y.depth+1) (by omega),@qaf (y.self-(x.hi-x.lo)) (by omega)])
     refine⟨.inl (by kernel_rfl),?_⟩
     (try simp only[zU,seval,qav,(show(u:Int)<out.length by omega),hul,egy,(show(k:Int)<l.length by omega),hpll,(show k<pl.length+(m+1) by omega)])
     refine⟨⟨by omega,by omega⟩,?_⟩
     have ef:(qcm out {x with parent:=(u:Int)}).map qag.toD=(out.map qag.toD).set u (qag.toD {y with self:=y.self-(x.hi-x.lo)})++[qag.toD {x with parent:=(u:Int),depth:=y.depth+1,self:=x.hi-x.lo}]:=by
      simp only[qcm,qis,q7j,(show(0:Int)≤u by omega),Int.toNat_natCast,←hy,if_true,List.map_append,List.map_set]
      rfl
     rw[ef,qde]
     refine qaa [] [0,5,2] rfl (by simp) ?_ ?_
     ·simp only[zU,seval,qav,@qaf ((k:Int)+1) (by omega)]
      try rfl
     ·rw[ekl,qfm]
      rw[List.take_of_length_le (by rw[List.length_set,List.length_map];exact Nat.le_refl _),←hol]
      skip
      rfl
    ·have h2:¬0≤up:=of_decide_eq_false h2
     (try simp only[zU,seval,qav,(show(k:Int)<l.length by omega),hpll,(show k<pl.length+(m+1) by omega)])
     refine⟨⟨by omega,by omega⟩,?_⟩
     have ef:(qcm out {x with parent:=up}).map qag.toD=out.map qag.toD++[qag.toD {x with parent:=up,depth:=0,self:=x.hi-x.lo}]:=by
      simp only[qcm,qis,q7j,h2,if_false,List.map_append]
      rfl
     rw[ef,qde]
     refine qaa [] [0,5,2] rfl (by simp) ?_ ?_
     ·simp only[zU,seval,qav,@qaf ((k:Int)+1) (by omega)]
      try rfl
     ·rw[ekl,qfm,←hol,qaz]
      skip
      rfl
 ·have:k=l.length:=by omega
  subst this
  simp only[zU,seval,qav,(show ¬(l.length:Int)<l.length by omega),List.take_length]
  exact⟨_,_,qai [] [0,1] rfl (by simp) rfl rfl,rfl,rfl⟩
end YtljpopkonkanlaaGreatDoor
end Go.Proofs
