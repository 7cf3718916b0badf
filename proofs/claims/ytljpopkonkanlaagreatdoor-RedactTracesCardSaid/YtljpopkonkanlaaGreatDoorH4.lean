/- A part of the proof: contracts of functions of this seat, and lemmas. No condition beyond those stated. -/
import Derived.Test.YtljpopkonkanlaaGreatDoorH2
import Derived.Test.YtljpopkonkanlaaGreatDoorH3
import Derived.Test.YtljpopkonkanlaaGreatDoorG4
import Derived.Test.YtljpopkonkanlaaGreatDoorRows
import Derived.Test.YtljpopkonkanlaaGreatDoorCards
import Derived.Test.YtljpopkonkanlaaGreatDoorTie
import Derived.ProofKit
import Derived.LaidMore
import Derived.OpenShut
import Derived.Stop.Joined
import Derived.Stop.LaidErr
import Derived.SevenTiedAt
import Derived.MakeChecks
import Derived.Lay
set_option linter.unusedVariables false
set_option linter.unusedSimpArgs false
set_option linter.unusedSectionVars false
set_option linter.unnecessarySimpa false
set_option maxRecDepth 100000
namespace Go.Proofs
open Go.AM Tryz
namespace YtljpopkonkanlaaGreatDoor
variable {Gl:qbd}
theorem q1t (a b:Int):qba prog Gl 183 [.d (.agg [.int .i64 a,.int .i64 b])] (.d (.bool (qgr a b))):=by
 refine qba.of1 ?_
 refine qac func183 rfl rfl (by simp[ntmps183]) (qab rfl _ _ _ _ ?_)
 simp only[ntmps183,results183,qak,List.length_nil]
 simp only[zC,seval]
 exact⟨_,_,qap,rfl,rfl⟩
theorem Qiv (x:qaj):qba prog Gl 129 [.d x.toD] (.d (.int .i64 (qgp x))):=by
 refine qba.of1 ?_
 refine qac func129 rfl rfl (by simp[ntmps129]) (qab rfl _ _ _ _ ?_)
 simp only[ntmps129,results129,qak,List.length_nil]
 simp only[zC,seval]
 refine ifC.mk (fun h=>?_) (fun h=>?_)
 ·refine⟨_,_,qap,?_,rfl⟩
  rw[qgp,if_pos h]
 ·refine qad (qux _) ?_
  simp only[zC,seval]
  refine⟨_,_,qap,?_,rfl⟩
  rw[qgp,if_neg (by rw[h];simp)]
theorem q9t {l:List qag} (hn:qir l=true) {i:Int}:∀(n:Nat) {p:Int},(p+1).toNat≤n→p<i→p<l.length→qex l i p=false
 | 0,p,h,_,_=>qrr (by omega)
 | n+1,p,h,h2,h3=>by
  by_cases h0:0≤p
  ·obtain⟨q,rfl⟩:∃q:Nat,p=q:=⟨p.toNat,by omega⟩
   have hp:=qh1 (q09 hn (i:=q) (by omega))
   rw[qnu h0 (by omega) (by rw[qgz];exact hp.2),qgz]
   exact q9t hn n (by omega) (by omega) (by omega)
  ·exact qrr h0
theorem Qb7 (l:List qag) (hl:l.length<1000000) (hn:qir l=true) (i k:Int) (hi:0≤i) (hk:k<l.length):qba prog Gl 214 [.d (.sl (l.map qag.toD)),.d (.int .i64 i),.d (.int .i64 k)] (.d (.bool (qex l i k))):=by
 refine qba.of3 ?_
 refine qac func214 rfl rfl (by simp[ntmps214]) (qab rfl _ _ _ _ ?_)
 simp only[ntmps214,results214,qak,List.length_nil]
 simp only[zC,seval]
 refine qcr (τ:=Int) (fun p=>[(0,.d (.sl (l.map qag.toD))),(1,.d (.int .i64 i)),(2,.d (.int .i64 p))]) (fun _=>[]) (fun p=>p<l.length∧qex l i p=qex l i k) (fun p=>(p+1).toNat) k ⟨hk,rfl⟩ ?_ ?_
 ·refine qaa [] [] rfl List.nodup_nil ?_ rfl
  simp only[zC,seval]
 ·rintro p ⟨h1,h2⟩
  simp only[zC,seval]
  repeat((with_reducible apply aI);exact sdp)
  by_cases hc:0≤p∧i<p
  ·obtain⟨q,rfl⟩:∃q:Nat,p=q:=⟨p.toNat,by omega⟩
   have hp:=qh1 (q09 hn (i:=q) (by omega))
   rw[qnu hc.1 (by omega) (by rw[qgz];exact hp.2),qgz] at h2
   have ec:(decide (0≤(q:Int))&&decide (i<(q:Int)))=true:=by rw[decide_eq_true hc.1,decide_eq_true hc.2];rfl
   simp only[zC,seval,ec,(show(0:Int)≤(q:Int) by omega),(show i<(q:Int) by omega),(show(q:Int)<l.length by omega),(show q<l.length by omega),qah _ _ _ (show q<l.length by omega)]
   repeat((with_reducible apply aI);exact sdp)
   refine⟨(l.getD q default).parent,⟨by omega,h2⟩,by omega,?_⟩
   refine qaa [] [] rfl List.nodup_nil ?_ rfl
   simp only[zC,seval]
  ·have ec:(decide (0≤p)&&decide (i<p))=false:=by
    rw[Bool.and_eq_false_iff,decide_eq_false_iff_not,decide_eq_false_iff_not];omega
   simp only[zC,seval,ec]
   refine⟨_,_,qap,?_,rfl⟩
   rw[←h2]
   by_cases h5:i=p
   ·subst h5;rw[qwy hi rfl];simp
   ·rw[q9t hn _ (Nat.le_refl _) (by omega) h1]
    refine congrArg (fun b=>AV.d (D.bool b)) ?_
    simpa using h5
theorem q76 (a b c d:Int):qba prog Gl 213 [.d (.agg [.int .i64 a,.int .i64 b]),.d (.agg [.int .i64 c,.int .i64 d])] (.d (.bool (decide (a≤c)&&decide (d≤b)))):=by
 refine qba.of2 ?_
 refine qac func213 rfl rfl (by simp[ntmps213]) (qab rfl _ _ _ _ ?_)
 simp only[ntmps213,results213,qak,List.length_nil]
 simp only[zC,seval]
 exact⟨_,_,qap,rfl,rfl⟩
def Qdt (a b:qag):Bool:=if(a.lo !=b.lo)=true then decide (a.lo<b.lo) else if(a.hi !=b.hi)=true then decide (b.hi<a.hi) else decide (a.thread<b.thread)
theorem Qeg (a b:qag):qba prog Gl 197 [.d a.toD,.d b.toD] (.d (.bool (Qdt a b))):=by
 refine qba.of2 ?_
 refine qac func197 rfl rfl (by simp[ntmps197]) (qab rfl _ _ _ _ ?_)
 simp only[ntmps197,results197,qak,List.length_nil]
 simp only[zC,seval]
 refine ifC.mk (fun h1=>?_) (fun h1=>?_)
 ·refine⟨_,_,qap,?_,rfl⟩
  rw[Qdt,if_pos h1]
 ·refine ifC.mk (fun h2=>?_) (fun h2=>?_)
  ·refine⟨_,_,qap,?_,rfl⟩
   rw[Qdt,if_neg (by rw[h1];simp),if_pos h2]
  ·refine⟨_,_,qap,?_,rfl⟩
   rw[Qdt,if_neg (by rw[h1];simp),if_neg (by rw[h2];simp)]
theorem Qls (a b:qag):decide (0<Qev a b)=Qdt b a:=by
 unfold Qev Qdt orL orL orL orL qv7
 rw[Bool.eq_iff_iff]
 by_cases h1:a.lo=b.lo<;>by_cases h2:a.hi=b.hi
 ·simp[h1,h2];repeat(first|omega|(split<;>try simp) )
 ·simp[h1];repeat(first|omega|(split<;>try simp))
 ·simp;repeat(first|omega|(split<;>try simp))
 ·simp;repeat(first|omega|(split<;>try simp))

def q01 (l:List qag) (i:Nat):Bool:=((List.range l.length).all fun k=>!qlb l i k)&&((l.getD i default).self==qgn l i l.length)
theorem q29 (l:List qag):(List.range l.length).all (q01 l)=qio l:=by
 unfold qio
 rw[Bool.eq_iff_iff]
 simp only[List.all_eq_true,List.mem_range,q01,qid,Bool.and_eq_true]
 constructor
 ·intro h i hi
  exact⟨fun j hj=>(h j hj).1 i hi,(h i hi).2⟩
 ·intro h i hi
  exact⟨fun j hj=>(h j hj).1 i hi,(h i hi).2⟩
set_option maxHeartbeats 4000000 in
theorem Qig (l:List qag) (hl:l.length<1000000):qba prog Gl 198 [.d (.sl (l.map qag.toD))] (.d (.bool (qir l&&qio l))):=by
 refine qba.of1 ?_
 obtain⟨F,hF⟩:∃F,F=(qir l&&qio l):=⟨_,rfl⟩
 rw[←hF]
 refine qac func198 rfl rfl (by simp[ntmps198]) (qab rfl _ _ _ _ ?_)
 simp only[ntmps198,results198,qak,List.length_nil]
 simp only[zC,seval]
 refine qan l.length (fun k=>[(0,.d (.sl (l.map qag.toD))),(3,.d (.int .i64 k))]) (fun _=>[]) (fun k=>(List.range k).all (qfb l)=true) rfl ?_ ?_
 ·refine qaa [] [] rfl List.nodup_nil ?_ rfl
  simp only[zC,seval,Int.cast_ofNat_Int]
 ·intro k hi hk
  by_cases h:k<l.length
  ·obtain⟨b,eb⟩:∃b,b=l.getD k default:=⟨_,rfl⟩
   have hbad:qfb l k=false→F=false:=fun h1=>by rw[hF,show qir l=false from qb8 h h1];rfl
   simp only[zC,seval,(show(k:Int)<l.length by omega),h,qah _ _ _ (show k<l.length by omega),←eb]
   repeat((with_reducible apply aI);exact sdp)
   cases h1:(decide (b.parent < -1)||decide ((k:Int)≤b.parent)) with
   | true=>
    simp only[zC,seval]
    refine⟨_,_,qap,?_,rfl⟩
    rw[hbad (by unfold qfb;rw[←eb];simp only[h1,if_pos])]
   | false=>
    simp only[zC,seval]
    have hn:qfb l k=if b.parent=-1 then b.depth==0 else !((l.getD b.parent.toNat default).thread !=b.thread||decide (b.lo<(l.getD b.parent.toNat default).lo)||decide ((l.getD b.parent.toNat default).hi<b.hi)||b.depth !=IntKind.i64.wrap ((l.getD b.parent.toNat default).depth+1)):=by
     unfold qfb;rw[←eb];simp only[h1,Bool.false_eq_true,if_false]
    simp only[Bool.or_eq_false_iff,decide_eq_false_iff_not] at h1
    by_cases h2:b.parent=-1
    ·rw[if_pos h2] at hn
     simp only[zC,seval,h2,(show(k:Int)<l.length by omega),h,qah _ _ _ (show k<l.length by omega),←eb]
     repeat((with_reducible apply aI);exact sdp)
     refine ifC.mk (fun h3=>?_) (fun h3=>?_)
     ·refine⟨_,_,qap,?_,rfl⟩
      rw[hbad (by rw[hn];simpa using h3)]
     ·have hat:qfb l k=true:=by rw[hn];simpa using h3
      have e1:(-1:Int).toNat=0:=rfl
      repeat((with_reducible apply aI);exact sdp)
      simp only[zC,seval,e1,qah _ _ _ (show 0<l.length by omega),(show(k:Int)<l.length by omega),h,qah _ _ _ (show k<l.length by omega),←eb]
      repeat((with_reducible apply aI);exact sdp)
      refine qay (v:=.d (.bool false)) (fun h=>by cases h) ?_
      simp only[zC,seval,e1,qah _ _ _ (show 0<l.length by omega),(show(k:Int)<l.length by omega),h,qah _ _ _ (show k<l.length by omega),←eb]
      repeat((with_reducible apply aI);exact sdp)
      refine⟨by rw[qck,hi,hat];rfl,?_⟩
      refine qaa [] [] rfl List.nodup_nil ?_ rfl
      simp only[zC,seval,@qaf ((k:Int)+1) (by omega)]
    ·rw[if_neg h2] at hn
     obtain⟨q,eq⟩:∃q:Nat,b.parent=q:=⟨b.parent.toNat,by omega⟩
     rw[eq,qgz] at hn
     obtain⟨p,ep⟩:∃p,p=l.getD q default:=⟨_,rfl⟩
     rw[←ep] at hn
     simp only[zC,seval,eq,qv0 (show ¬((q:Int)=-1) by omega),(show(0:Int)≤(q:Int) by omega),(show(q:Int)<l.length by omega),(show q<l.length by omega),qah _ _ _ (show q<l.length by omega),←ep,(show(k:Int)<l.length by omega),h,qah _ _ _ (show k<l.length by omega),←eb]
     repeat((with_reducible apply aI);exact sdp)
     refine qay (fun _=>q76 _ _ _ _) ?_
     simp only[zC,seval,(show(q:Int)<l.length by omega),(show q<l.length by omega),qah _ _ _ (show q<l.length by omega),←ep,(show(k:Int)<l.length by omega),h,qah _ _ _ (show k<l.length by omega),←eb]
     repeat((with_reducible apply aI);exact sdp)
     have e5:(!(decide (p.lo≤b.lo)&&decide (b.hi≤p.hi)))=(decide (b.lo<p.lo)||decide (p.hi<b.hi)):=by rw[Bool.eq_iff_iff];simp
     rw[Bool.or_assoc (p.thread !=b.thread),←e5] at hn
     refine ifC.mk (fun h3=>?_) (fun h3=>?_)
     ·refine⟨_,_,qap,?_,rfl⟩
      rw[hbad (by rw[hn,h3];rfl)]
     ·have hat:qfb l k=true:=by rw[hn,h3];rfl
      refine⟨by rw[qck,hi,hat];rfl,?_⟩
      refine qaa [] [] rfl List.nodup_nil ?_ rfl
      simp only[zC,seval,@qaf ((k:Int)+1) (by omega)]
  ·simp only[zC,seval,(show ¬(k:Int)<l.length by omega)]
   have:k=l.length:=by omega
   subst this
   have hn:qir l=true:=hi
   rw[hn,Bool.true_and] at hF
   refine qan l.length (fun i=>[(0,.d (.sl (l.map qag.toD))),(5,.d (.int .i64 i))]) (fun _=>[]) (fun i=>(List.range i).all (q01 l)=true) rfl ?_ ?_
   ·refine qaa [] [] rfl List.nodup_nil ?_ rfl
    simp only[zC,seval,Int.cast_ofNat_Int]
   ·intro i hi2 hk2
    by_cases h3:i<l.length
    ·obtain⟨b,eb⟩:∃b,b=l.getD i default:=⟨_,rfl⟩
     have hbad:q01 l i=false→F=false:=fun h1=>by rw[hF,←q29];exact qb8 h3 h1
     simp only[zC,seval,(show(i:Int)<l.length by omega),h3,qah _ _ _ (show i<l.length by omega),←eb]
     repeat((with_reducible apply aI);exact sdp)
     refine qan l.length (fun j=>[(0,.d (.sl (l.map qag.toD))),(5,.d (.int .i64 i)),(6,.d (.int .i64 (qgn l i j))),(7,.d (.int .i64 j))]) (fun _=>[]) (fun j=>((List.range j).all fun k=>!qlb l i k)=true) rfl ?_ ?_
     ·refine qaa [] [] rfl List.nodup_nil ?_ rfl
      simp only[zC,seval,Int.cast_ofNat_Int,qgn,←eb]
     ·intro j hj hjk
      by_cases h2:j<l.length
      ·obtain⟨a,ea⟩:∃a,a=l.getD j default:=⟨_,rfl⟩
       have hcl:qlb l i j=(decide ((i:Int)<(j:Int))&&b.thread==a.thread&&(decide (b.lo<a.hi)&&decide (a.lo<b.hi))&&!qex l i j):=by
        unfold qlb;rw[←ea,←eb]
        cases decide ((i:Int)<(j:Int))<;>cases (b.thread==a.thread)<;>cases decide (b.lo<a.hi)<;>cases decide (a.lo<b.hi)<;>rfl
       simp only[zC,seval,(show(j:Int)<l.length by omega),h2,qah _ _ _ (show j<l.length by omega),←ea,(show(i:Int)<l.length by omega),h3,qah _ _ _ (show i<l.length by omega),←eb]
       repeat((with_reducible apply aI);exact sdp)
       cases h4:(a.parent==(i:Int)) with
       | true=>
        have hS:qgn l i (j+1)=IntKind.i64.wrap (qgn l i j-IntKind.i64.wrap (a.hi-a.lo)):=by rw[qgn,←ea,if_pos h4]
        simp only[zC,seval,(show(j:Int)<l.length by omega),h2,qah _ _ _ (show j<l.length by omega),←ea,(show(i:Int)<l.length by omega),h3,qah _ _ _ (show i<l.length by omega),←eb]
        repeat((with_reducible apply aI);exact sdp)
        refine qay (fun _=>Qb7 l hl hn i j (by omega) (by omega)) ?_
        simp only[zC,seval]
        repeat((with_reducible apply aI);exact sdp)
        refine ifC.mk (fun hc=>?_) (fun hc=>?_)
        ·refine⟨_,_,qap,?_,rfl⟩
         rw[hbad (by unfold q01;rw[qb8 h2 (by rw[hcl,hc];rfl)];rfl)]
        ·refine⟨by rw[qck,hj,hcl,hc];rfl,?_⟩
         refine qaa [] [] rfl List.nodup_nil ?_ rfl
         simp only[zC,seval,@qaf ((j:Int)+1) (by omega),hS]
       | false=>
        have hS:qgn l i (j+1)=qgn l i j:=by rw[qgn,←ea,if_neg (by rw[h4];simp)]
        simp only[zC,seval,(show(j:Int)<l.length by omega),h2,qah _ _ _ (show j<l.length by omega),←ea,(show(i:Int)<l.length by omega),h3,qah _ _ _ (show i<l.length by omega),←eb]
        repeat((with_reducible apply aI);exact sdp)
        refine qay (fun _=>Qb7 l hl hn i j (by omega) (by omega)) ?_
        simp only[zC,seval]
        repeat((with_reducible apply aI);exact sdp)
        refine ifC.mk (fun hc=>?_) (fun hc=>?_)
        ·refine⟨_,_,qap,?_,rfl⟩
         rw[hbad (by unfold q01;rw[qb8 h2 (by rw[hcl,hc];rfl)];rfl)]
        ·refine⟨by rw[qck,hj,hcl,hc];rfl,?_⟩
         refine qaa [] [] rfl List.nodup_nil ?_ rfl
         simp only[zC,seval,@qaf ((j:Int)+1) (by omega),hS]
      ·simp only[zC,seval,(show ¬(j:Int)<l.length by omega),(show(i:Int)<l.length by omega),h3,qah _ _ _ (show i<l.length by omega),←eb]
       repeat((with_reducible apply aI);exact sdp)
       have hjn:j=l.length:=by omega
       subst hjn
       have hat:q01 l i=(b.self==qgn l i l.length):=by unfold q01;rw[hj,←eb,Bool.true_and]
       refine ifC.mk (fun hc=>?_) (fun hc=>?_)
       ·refine⟨_,_,qap,?_,rfl⟩
        rw[hbad (by rw[hat];simpa using hc)]
       ·have hat:q01 l i=true:=by rw[hat];simpa using hc
        refine⟨by rw[qck,hi2,hat];rfl,?_⟩
        refine qaa [] [] rfl List.nodup_nil ?_ rfl
        simp only[zC,seval,@qaf ((i:Int)+1) (by omega)]
    ·simp only[zC,seval,(show ¬(i:Int)<l.length by omega)]
     have:i=l.length:=by omega
     subst this
     refine⟨_,_,qap,?_,rfl⟩
     rw[hF,←q29,hi2]

theorem q1s (l:List qag) (hl:l.length<1000000):qba prog Gl 177 [.d (.sl (l.map qag.toD))] (.d (.int .i64 (qfa l))):=by
 refine qba.of1 ?_
 refine qac func177 rfl rfl (by simp[ntmps177]) (qab rfl _ _ _ _ ?_)
 simp only[ntmps177,results177,qak,List.length_nil]
 simp only[zC,seval]
 refine qan l.length (fun k=>[(0,.d (.sl (l.map qag.toD))),(3,.d (.int .i64 k))]) (fun _=>[]) (fun k=>qa5 (q91 l) k=0) rfl ?_ ?_
 ·refine qaa [] [] rfl List.nodup_nil ?_ rfl
  simp only[zC,seval,Int.cast_ofNat_Int]
 ·intro k hi hk
  by_cases h:k<l.length
  ·have hb:∀e,q91 l k=e→e≠0→qfa l=e:=fun e h1 h2=>by
    have:=qbu hi (by rw[h1];exact h2) h
    rw[qfa,this,h1,if_pos h2]
   obtain⟨b,eb⟩:∃b,b=l.getD k default:=⟨_,rfl⟩
   simp only[zC,seval,(show(k:Int)<l.length by omega),h,qah _ _ _ (show k<l.length by omega),←eb]
   repeat((with_reducible apply aI);exact sdp)
   refine qay (fun _=>q1t _ _) ?_
   simp only[zC,seval,(show(k:Int)<l.length by omega),h,qah _ _ _ (show k<l.length by omega),←eb]
   repeat((with_reducible apply aI);exact sdp)
   refine ifC.mk (fun h1=>?_) (fun h1=>?_)
   ·refine⟨_,_,qap,?_,rfl⟩
    rw[hb 2 (q90 (by rw[←eb];exact h1)) (by omega)]
   ·refine qad (qux _) ?_
    simp only[zC,seval,(show(k:Int)<l.length by omega),h,qah _ _ _ (show k<l.length by omega),←eb]
    refine ifC.mk (fun h2=>?_) (fun h2=>?_)
    ·have h2:qc3 b.name≠0:=by simpa using h2
     refine⟨_,_,qap,?_,rfl⟩
     rw[hb _ (Qpa (by rw[←eb];exact h1) (by rw[←eb];exact h2)) (by rw[←eb];exact h2),←eb]
    ·have ho:=Qf1 (l:=l) (k:=k) (by rw[←eb];exact h1) (by rw[←eb];simpa using h2)
     rw[←eb,Qls] at ho
     by_cases hk0:0<k
     ·have e1:IntKind.i64.wrap ((k:Int)-1)=((k-1:Nat):Int):=by rw[qbh (by omega) (by omega)];omega
      obtain⟨a,ea⟩:∃a,a=l.getD (k-1) default:=⟨_,rfl⟩
      rw[decide_eq_true hk0,Bool.true_and,←ea] at ho
      simp only[zC,seval,(show(0:Int)<k by omega),e1,(show((k-1:Nat):Int)<l.length by omega),(show k-1<l.length by omega),qah _ _ _ (show k-1<l.length by omega),←ea,(show(k:Int)<l.length by omega),h,qah _ _ _ (show k<l.length by omega),←eb]
      repeat((with_reducible apply aI);exact sdp)
      refine qay (fun _=>Qeg _ _) ?_
      simp only[zC,seval]
      repeat((with_reducible apply aI);exact sdp)
      refine ifC.mk (fun h3=>?_) (fun h3=>?_)
      ·refine⟨_,_,qap,?_,rfl⟩
       rw[if_pos h3] at ho
       rw[hb 11 ho (by omega)]
      ·rw[if_neg (by rw[h3];simp)] at ho
       refine⟨qa4 hi ho,?_⟩
       refine qaa [] [] rfl List.nodup_nil ?_ rfl
       simp only[zC,seval,@qaf ((k:Int)+1) (by omega)]
     ·rw[decide_eq_false hk0,Bool.false_and,if_neg (by simp)] at ho
      have e0:(IntKind.i64.wrap ((k:Int)-1)).toNat=0:=by rw[qbh (by omega) (by omega)];omega
      simp only[zC,seval,(show ¬(0:Int)<k by omega),e0,qah _ _ _ (show 0<l.length by omega),(show(k:Int)<l.length by omega),h,qah _ _ _ (show k<l.length by omega),←eb]
      repeat((with_reducible apply aI);exact sdp)
      refine qay (v:=.d (.bool false)) (fun h=>by cases h) ?_
      simp only[zC,seval,e0,qah _ _ _ (show 0<l.length by omega)]
      repeat((with_reducible apply aI);exact sdp)
      refine⟨qa4 hi ho,?_⟩
      refine qaa [] [] rfl List.nodup_nil ?_ rfl
      simp only[zC,seval,@qaf ((k:Int)+1) (by omega)]
  ·simp only[zC,seval,(show ¬(k:Int)<l.length by omega)]
   have:k=l.length:=by omega
   subst this
   have hF:qfa l=if(qir l&&qio l)=true then 0 else 10:=by rw[qfa,hi,if_neg (by simp)]
   refine qad (Qig l hl) ?_
   simp only[zC,seval]
   refine ifC.mk (fun hn=>?_) (fun hn=>?_)
   ·refine⟨_,_,qap,?_,rfl⟩
    rw[hF,if_neg (by intro e;rw[e] at hn;cases hn)]
   ·refine⟨_,_,qap,?_,rfl⟩
    rw[hF,if_pos (by simpa using hn)]
theorem qjs (n:Int):qba prog Gl 202 [.d (.int .i64 n)] (.d (.bool (!q2f n 1000000000000000))):=by
 refine qba.of1 ?_
 refine qac func202 rfl rfl (by simp[ntmps202]) (qab rfl _ _ _ _ ?_)
 simp only[ntmps202,results202,qak,List.length_nil]
 simp only[zC,seval]
 refine⟨_,_,qap,?_,rfl⟩
 refine congrArg (fun b=>AV.d (D.bool b)) ?_
 unfold q2f;rw[Bool.eq_iff_iff];simp
theorem q5w (n:Int):qba prog Gl 203 [.d (.int .i64 n)] (.d (.bool (!q2f n 1000000000000))):=by
 refine qba.of1 ?_
 refine qac func203 rfl rfl (by simp[ntmps203]) (qab rfl _ _ _ _ ?_)
 simp only[ntmps203,results203,qak,List.length_nil]
 simp only[zC,seval]
 refine⟨_,_,qap,?_,rfl⟩
 refine congrArg (fun b=>AV.d (D.bool b)) ?_
 unfold q2f;rw[Bool.eq_iff_iff];simp
set_option maxHeartbeats 2000000 in
theorem q53 (l:List qbf) (hl:l.length<1000000):qba prog Gl 179 [.d (.sl (l.map qbf.toD))] (.d (.int .i64 (qjv l))):=by
 refine qba.of1 ?_
 refine qac func179 rfl rfl (by simp[ntmps179]) (qab rfl _ _ _ _ ?_)
 simp only[ntmps179,results179,qak,List.length_nil]
 simp only[zC,seval]
 refine qan l.length (fun k=>[(0,.d (.sl (l.map qbf.toD))),(3,.d (.int .i64 k))]) (fun _=>[]) (fun k=>qa5 (Qna l) k=0) rfl ?_ ?_
 ·refine qaa [] [] rfl List.nodup_nil ?_ rfl
  simp only[zC,seval,Int.cast_ofNat_Int]
 ·intro k hi hk
  by_cases h:k<l.length
  ·have hb:∀e,Qna l k=e→e≠0→qjv l=e:=fun e h1 h2=>by rw[qjv,qbu hi (by rw[h1];exact h2) h,h1]
   obtain⟨b,eb⟩:∃b,b=l.getD k default:=⟨_,rfl⟩
   simp only[zC,seval,(show(k:Int)<l.length by omega),h,qah _ _ _ (show k<l.length by omega),←eb]
   repeat((with_reducible apply aI);exact sdp)
   refine qad (qjs _) ?_
   simp only[zC,seval,Bool.not_not]
   repeat((with_reducible apply aI);exact sdp)
   refine qay (fun _=>qjs _) ?_
   simp only[zC,seval,Bool.not_not]
   repeat((with_reducible apply aI);exact sdp)
   refine qay (fun _=>qjs _) ?_
   simp only[zC,seval,Bool.not_not]
   repeat((with_reducible apply aI);exact sdp)
   refine qay (fun _=>qjs _) ?_
   simp only[zC,seval,Bool.not_not]
   repeat((with_reducible apply aI);exact sdp)
   refine qay (fun _=>qjs _) ?_
   simp only[zC,seval,Bool.not_not]
   repeat((with_reducible apply aI);exact sdp)
   refine qay (fun _=>q5w _) ?_
   simp only[zC,seval,Bool.not_not]
   repeat((with_reducible apply aI);exact sdp)
   refine qay (fun _=>q5w _) ?_
   simp only[zC,seval,Bool.not_not]
   repeat((with_reducible apply aI);exact sdp)
   refine ifC.mk (fun h1=>?_) (fun h1=>?_)
   ·refine⟨_,_,qap,?_,rfl⟩
    rw[hb 2 (qgv (by rw[←eb];exact h1)) (by omega)]
   ·have ho:=Qjl (l:=l) (k:=k) (by rw[←eb];exact h1)
    rw[Qly,←eb] at ho
    by_cases hk0:0<k
    ·have e1:IntKind.i64.wrap ((k:Int)-1)=((k-1:Nat):Int):=by rw[qbh (by omega) (by omega)];omega
     obtain⟨a,ea⟩:∃a,a=l.getD (k-1) default:=⟨_,rfl⟩
     rw[decide_eq_true hk0,Bool.true_and,←ea] at ho
     simp only[zC,seval,(show(0:Int)<k by omega),e1,(show((k-1:Nat):Int)<l.length by omega),(show k-1<l.length by omega),qah _ _ _ (show k-1<l.length by omega),←ea]
     repeat((with_reducible apply aI);exact sdp)
     (try simp only[zC,seval,(show(0:Int)<k by omega),e1,(show((k-1:Nat):Int)<l.length by omega),(show k-1<l.length by omega),qah _ _ _ (show k-1<l.length by omega),←ea])
     repeat((with_reducible apply aI);exact sdp)
     refine ifC.mk (fun h3=>?_) (fun h3=>?_)
     ·refine⟨_,_,qap,?_,rfl⟩
      rw[if_pos h3] at ho
      rw[hb 11 ho (by omega)]
     ·rw[if_neg (by rw[h3];simp)] at ho
      refine⟨qa4 hi ho,?_⟩
      refine qaa [] [] rfl List.nodup_nil ?_ rfl
      simp only[zC,seval,@qaf ((k:Int)+1) (by omega)]
    ·rw[decide_eq_false hk0,Bool.false_and,Bool.or_false] at ho
     have e0:(IntKind.i64.wrap ((k:Int)-1)).toNat=0:=by rw[qbh (by omega) (by omega)];omega
     simp only[zC,seval,(show ¬(0:Int)<k by omega),e0,qah _ _ _ (show 0<l.length by omega)]
     repeat((with_reducible apply aI);exact sdp)
     (try simp only[zC,seval,(show ¬(0:Int)<k by omega),e0,qah _ _ _ (show 0<l.length by omega)])
     repeat((with_reducible apply aI);exact sdp)
     refine ifC.mk (fun h3=>?_) (fun h3=>?_)
     ·refine⟨_,_,qap,?_,rfl⟩
      rw[if_pos h3] at ho
      rw[hb 11 ho (by omega)]
     ·rw[if_neg (by rw[h3];simp)] at ho
      refine⟨qa4 hi ho,?_⟩
      refine qaa [] [] rfl List.nodup_nil ?_ rfl
      simp only[zC,seval,@qaf ((k:Int)+1) (by omega)]
  ·simp only[zC,seval,(show ¬(k:Int)<l.length by omega)]
   refine⟨_,_,qap,?_,rfl⟩
   have:k=l.length:=by omega
   rw[qjv,←this,hi]
theorem Qh9 (s:qam):qba prog Gl 204 [.d s.toD] (.d (.bool (qqi s))):=by
 refine qba.of1 ?_
 refine qac func204 rfl rfl (by simp[ntmps204]) (qab rfl _ _ _ _ ?_)
 simp only[ntmps204,results204,qak,List.length_nil]
 simp only[zC,seval]
 exact⟨_,_,qap,rfl,rfl⟩
theorem qwi (l:List qam) (hs:∀x∈l,x.stack.length<1000000) (hl:l.length<1000000):qba prog Gl 180 [.d (.sl (l.map qam.toD))] (.d (.int .i64 (qe2 l))):=by
 refine qba.of1 ?_
 refine qac func180 rfl rfl (by simp[ntmps180]) (qab rfl _ _ _ _ ?_)
 simp only[ntmps180,results180,qak,List.length_nil]
 simp only[zC,seval]
 refine qan l.length (fun k=>[(0,.d (.sl (l.map qam.toD))),(3,.d (.int .i64 k))]) (fun _=>[]) (fun k=>qa5 (Qf0 l) k=0) rfl ?_ ?_
 ·refine qaa [] [] rfl List.nodup_nil ?_ rfl
  simp only[zC,seval,Int.cast_ofNat_Int]
 ·intro k hi hk
  by_cases h:k<l.length
  ·have hb:∀e,Qf0 l k=e→e≠0→qe2 l=e:=fun e h1 h2=>by rw[qe2,qbu hi (by rw[h1];exact h2) h,h1]
   obtain⟨b,eb⟩:∃b,b=l.getD k default:=⟨_,rfl⟩
   simp only[zC,seval,(show(k:Int)<l.length by omega),h,qah _ _ _ (show k<l.length by omega),←eb]
   repeat((with_reducible apply aI);exact sdp)
   refine qad (Qh9 _) ?_
   simp only[zC,seval,(show(k:Int)<l.length by omega),h,qah _ _ _ (show k<l.length by omega),←eb]
   refine ifC.mk (fun h1=>?_) (fun h1=>?_)
   ·refine⟨_,_,qap,?_,rfl⟩
    rw[hb 2 (q9z (by rw[←eb];simpa using h1)) (by omega)]
   ·have h1:qqi (l.getD k default)=true:=by rw[←eb];simpa using h1
    repeat((with_reducible apply aI);exact sdp)
    refine qad (q55 _ (by rw[eb];exact hs _ (qcd h))) ?_
    simp only[zC,seval,(show(k:Int)<l.length by omega),h,qah _ _ _ (show k<l.length by omega),←eb]
    refine ifC.mk (fun h2=>?_) (fun h2=>?_)
    ·have h2:qcv (l.getD k default).stack≠0:=by rw[←eb];simpa using h2
     refine⟨_,_,qap,?_,rfl⟩
     rw[hb _ (Qfz h1 h2) h2,eb]
    ·have ho:=Qfy h1 (by rw[←eb];simpa using h2)
     rw[←eb] at ho
     by_cases hk0:0<k
     ·have e1:IntKind.i64.wrap ((k:Int)-1)=((k-1:Nat):Int):=by rw[qbh (by omega) (by omega)];omega
      obtain⟨a,ea⟩:∃a,a=l.getD (k-1) default:=⟨_,rfl⟩
      rw[decide_eq_true hk0,Bool.true_and,←ea] at ho
      (try simp only[zC,seval,(show(0:Int)<k by omega),e1,(show((k-1:Nat):Int)<l.length by omega),(show k-1<l.length by omega),qah _ _ _ (show k-1<l.length by omega),←ea,(show(k:Int)<l.length by omega),h,qah _ _ _ (show k<l.length by omega),←eb])
      repeat((with_reducible apply aI);exact sdp)
      refine ifC.mk (fun h9=>?_) (fun h9=>?_)
      ·refine⟨_,_,qap,?_,rfl⟩
       rw[if_pos h9] at ho
       rw[hb 11 ho (by omega)]
      ·rw[if_neg (by rw[h9];simp)] at ho
       refine⟨qa4 hi ho,?_⟩
       refine qaa [] [] rfl List.nodup_nil ?_ rfl
       simp only[zC,seval,@qaf ((k:Int)+1) (by omega)]
     ·rw[decide_eq_false hk0,Bool.false_and,if_neg (by simp)] at ho
      have e0:(IntKind.i64.wrap ((k:Int)-1)).toNat=0:=by rw[qbh (by omega) (by omega)];omega
      (try simp only[zC,seval,(show ¬(0:Int)<k by omega),e0,qah _ _ _ (show 0<l.length by omega),(show(k:Int)<l.length by omega),h,qah _ _ _ (show k<l.length by omega),←eb])
      repeat((with_reducible apply aI);exact sdp)
      refine⟨qa4 hi ho,?_⟩
      refine qaa [] [] rfl List.nodup_nil ?_ rfl
      simp only[zC,seval,@qaf ((k:Int)+1) (by omega)]
  ·simp only[zC,seval,(show ¬(k:Int)<l.length by omega)]
   refine⟨_,_,qap,?_,rfl⟩
   have:k=l.length:=by omega
   rw[qe2,←this,hi]

theorem Qmv (xs:List qaj) (x:Int) (hl:xs.length<2000000) (B:Blk) (hB:qdw 3 (xs.map qaj.toD) B):qal prog Gl 200 [.osl 0 0 xs.length,.d (.int .i64 x)] [B] (fun r s=>r=.d (.int .i64 (qel (fun y:qaj=>y.id==x) xs))∧s=[B]):=by
 rcases hB with rfl|rfl
 ·refine qac func200 rfl rfl (by simp[ntmps200]) (qab rfl _ _ _ _ ?_)
  simp only[ntmps200,results200,qak,List.length_nil]
  simp only[zC,seval]
  refine qan xs.length (fun k=>[(0,.osl 0 0 xs.length),(1,.d (.int .i64 x)),(5,.d (.int .i64 k))]) (fun _=>[.arr 3 (xs.map qaj.toD)]) (fun k=>(xs.take k).any (fun y=>y.id==x)=false) rfl ?_ ?_
  ·refine qaa [] [0] rfl (by simp) ?_ rfl
   simp only[zC,seval,Int.cast_ofNat_Int]
   all_goals rfl
  ·intro k hi hk
   by_cases h:k<xs.length
   ·have hs:=qca (fun y:qaj=>y.id==x) xs k h
    simp only[zC,seval,(show(k:Int)<xs.length by omega),h,qah _ _ _ (show k<xs.length by omega)]
    repeat((with_reducible apply aI);exact sdp)
    refine ifC.mk (fun hc=>?_) (fun hc=>?_)
    ·refine⟨_,_,qai [] [0] rfl (by simp) (show qbk _ _ _=AV.d _ from rfl) rfl,?_,rfl⟩
     rw[qd8 h hi hc]
    ·refine⟨by rw[hs,hi,hc];rfl,?_⟩
     refine qaa [] [0] rfl (by simp) ?_ rfl
     simp only[zC,seval,@qaf ((k:Int)+1) (by omega)]
     all_goals rfl
   ·simp only[zC,seval,(show ¬(k:Int)<xs.length by omega)]
    have:k=xs.length:=by omega
    subst this
    rw[List.take_length] at hi
    refine⟨_,_,qai [] [0] rfl (by simp) (show qbk _ _ _=AV.d _ from rfl) rfl,?_,rfl⟩
    rw[qcx hi]
 ·refine qac func200 rfl rfl (by simp[ntmps200]) (qab rfl _ _ _ _ ?_)
  simp only[ntmps200,results200,qak,List.length_nil]
  simp only[zC,seval]
  refine qan xs.length (fun k=>[(0,.osl 0 0 xs.length),(1,.d (.int .i64 x)),(5,.d (.int .i64 k))]) (fun _=>[.frz 3 (xs.map qaj.toD)]) (fun k=>(xs.take k).any (fun y=>y.id==x)=false) rfl ?_ ?_
  ·refine qaa [] [0] rfl (by simp) ?_ rfl
   simp only[zC,seval,Int.cast_ofNat_Int]
   all_goals rfl
  ·intro k hi hk
   by_cases h:k<xs.length
   ·have hs:=qca (fun y:qaj=>y.id==x) xs k h
    simp only[zC,seval,(show(k:Int)<xs.length by omega),h,qah _ _ _ (show k<xs.length by omega)]
    repeat((with_reducible apply aI);exact sdp)
    refine ifC.mk (fun hc=>?_) (fun hc=>?_)
    ·refine⟨_,_,qai [] [0] rfl (by simp) (show qbk _ _ _=AV.d _ from rfl) rfl,?_,rfl⟩
     rw[qd8 h hi hc]
    ·refine⟨by rw[hs,hi,hc];rfl,?_⟩
     refine qaa [] [0] rfl (by simp) ?_ rfl
     simp only[zC,seval,@qaf ((k:Int)+1) (by omega)]
     all_goals rfl
   ·simp only[zC,seval,(show ¬(k:Int)<xs.length by omega)]
    have:k=xs.length:=by omega
    subst this
    rw[List.take_length] at hi
    refine⟨_,_,qai [] [0] rfl (by simp) (show qbk _ _ _=AV.d _ from rfl) rfl,?_,rfl⟩
    rw[qcx hi]
theorem Qiu (xs:List qaj) (x:Int) (hl:xs.length<1000000):qba prog Gl 200 [.d (.sl (xs.map qaj.toD)),.d (.int .i64 x)] (.d (.int .i64 (qel (fun y:qaj=>y.id==x) xs))):=by
 refine qba.of2 ?_
 refine qac func200 rfl rfl (by simp[ntmps200]) (qab rfl _ _ _ _ ?_)
 simp only[ntmps200,results200,qak,List.length_nil]
 simp only[zC,seval]
 refine qan xs.length (fun k=>[(0,.d (.sl (xs.map qaj.toD))),(1,.d (.int .i64 x)),(5,.d (.int .i64 k))]) (fun _=>[]) (fun k=>(xs.take k).any (fun y=>y.id==x)=false) rfl ?_ ?_
 ·refine qaa [] [] rfl List.nodup_nil ?_ rfl
  simp only[zC,seval,Int.cast_ofNat_Int]
 ·intro k hi hk
  by_cases h:k<xs.length
  ·have hs:=qca (fun y:qaj=>y.id==x) xs k h
   simp only[zC,seval,(show(k:Int)<xs.length by omega),h,qah _ _ _ (show k<xs.length by omega)]
   repeat((with_reducible apply aI);exact sdp)
   refine ifC.mk (fun hc=>?_) (fun hc=>?_)
   ·refine⟨_,_,qap,?_,rfl⟩
    rw[qd8 h hi hc]
   ·refine⟨by rw[hs,hi,hc];rfl,?_⟩
    refine qaa [] [] rfl List.nodup_nil ?_ rfl
    simp only[zC,seval,@qaf ((k:Int)+1) (by omega)]
  ·simp only[zC,seval,(show ¬(k:Int)<xs.length by omega)]
   have:k=xs.length:=by omega
   subst this
   rw[List.take_length] at hi
   refine⟨_,_,qap,?_,rfl⟩
   rw[qcx hi]
def qjw (l:List qaj):List qaj:=l.foldl (fun out x=>if qel (fun y:qaj=>y.id==x.id) out<0 then out++[x] else out) []
theorem q0h (l:List qaj) (k:Nat) (h:k<l.length):qjw (l.take (k+1))=if qel (fun y:qaj=>y.id==(l.getD k default).id) (qjw (l.take k))<0 then qjw (l.take k)++[l.getD k default] else qjw (l.take k):=by
 rw[qa0 l k h];unfold qjw;rw[List.foldl_append];rfl
theorem q1y (x:Int):∀l:List qaj,qel (fun y=>x==y) (l.map fun y=>y.id)=qel (fun y:qaj=>y.id==x) l
 | []=>rfl
 | y::r=>by
  rw[List.map_cons,qel,qel,q1y x r]
  have:(x==y.id)=(y.id==x):=by rw[Bool.eq_iff_iff];simp;exact⟨fun h=>h.symm,fun h=>h.symm⟩
  rw[this]
theorem Qrz (x:Int) (l:List Int):qel (fun y=>x==y) l<0↔l.any (fun y=>x==y)=false:=by
 have h1:=qdv (fun y=>x==y) l
 rw[←h1,decide_eq_false_iff_not]
 omega
theorem qvl (l:List qaj):∀k,(qjw (l.take k)).map (fun y=>y.id)=qh9 (l.take k)
 | 0=>by simp[qjw,qh9]
 | k+1=>by
  have ih:=qvl l k
  by_cases h:k<l.length
  ·rw[q0h l k h,qog l k h,←ih]
   have e:qel (fun y:qaj=>y.id==(l.getD k default).id) (qjw (l.take k))<0↔((qjw (l.take k)).map fun y=>y.id).any (fun y=>(l.getD k default).id==y)=false:=by rw[←q1y,Qrz]
   by_cases hc:qel (fun y:qaj=>y.id==(l.getD k default).id) (qjw (l.take k))<0
   ·rw[if_pos hc,if_neg (by rw[e.1 hc];simp),List.map_append];rfl
   ·rw[if_neg hc,if_pos (by
     cases hq:((qjw (l.take k)).map fun y=>y.id).any (fun y=>(l.getD k default).id==y)
     ·exact absurd (e.2 hq) hc
     ·rfl)]
  ·rw[List.take_of_length_le (by omega)]
   rw[List.take_of_length_le (by omega)] at ih
   exact ih
theorem Qj0 (l:List qaj) (k:Nat):(qjw (l.take k)).length≤k:=by
 have:=qjx l k
 rw[←qvl,List.length_map] at this
 exact this
theorem q75 (l:List qaj) (hl:l.length<1000000):qba prog Gl 199 [.d (.sl (l.map qaj.toD))] (.d (.sl ((qjw l).map qaj.toD))):=by
 refine qba.of1 ?_
 refine qac func199 rfl rfl (by simp[ntmps199]) (qab rfl _ _ _ _ ?_)
 simp only[ntmps199,results199,qak,List.length_nil]
 simp only[zC,seval]
 refine qan l.length (fun k=>[(0,.d (.sl (l.map qaj.toD))),(3,.osl 0 0 (qjw (l.take k)).length),(4,.d (.int .i64 k))]) (fun k=>[.arr 3 ((qjw (l.take k)).map qaj.toD)]) (fun _=>True) trivial ?_ ?_
 ·refine(qcw 3 3 rfl).trans ?_
  refine qaa [] [0] rfl (by simp) ?_ ?_
  ·simp only[zC,seval,Int.cast_ofNat_Int]
   all_goals rfl
  ·rfl
 ·intro k _ hk
  have hdl:=Qj0 l k
  by_cases h:k<l.length
  ·have hs:=q0h l k h
   obtain⟨ys,hys⟩:∃ys,ys=qjw (l.take k):=⟨_,rfl⟩
   rw[←hys] at hs hdl ⊢
   simp only[zC,seval,(show(k:Int)<l.length by omega),h,qah _ _ _ (show k<l.length by omega)]
   repeat((with_reducible apply aI);exact sdp)
   refine qjz 0 (fun B hB=>Qmv ys _ (by omega) B hB) (fun _=>rfl) rfl ?_
   simp only[zC,seval]
   refine ifC.mk (fun hc=>?_) (fun hc=>?_)
   ·rw[if_pos (by simpa using hc)] at hs
    simp only[zC,seval,qaz,(show(k:Int)<l.length by omega),h,qah _ _ _ (show k<l.length by omega)]
    repeat((with_reducible apply aI);exact sdp)
    rw[hs]
    refine qaa [] [2] rfl (by simp) ?_ ?_
    ·simp only[zC,seval,@qaf ((k:Int)+1) (by omega)]
     all_goals rfl
    ·simp only[zC,seval,List.map_append]
     all_goals rfl
   ·rw[if_neg (by simpa using hc)] at hs
    simp only[zC,seval,hs]
    refine qaa [] [0] rfl (by simp) ?_ rfl
    simp only[zC,seval,@qaf ((k:Int)+1) (by omega)]
    all_goals rfl
  ·have:k=l.length:=by omega
   subst this
   simp only[zC,seval,(show ¬(l.length:Int)<l.length by omega),List.take_length]
   refine⟨_,_,qc7 rfl ?_,rfl,rfl⟩
   simp only[zC,seval,qaz]
theorem Qrk (s:qax):qba prog Gl 201 [.d s.toD] (.d (.bool (qdy s))):=by
 refine qba.of1 ?_
 refine qac func201 rfl rfl (by simp[ntmps201]) (qab rfl _ _ _ _ ?_)
 simp only[ntmps201,results201,qak,List.length_nil]
 simp only[zC,seval]
 repeat((with_reducible apply aI);exact sdp)
 refine ifC.mk (fun h1=>?_) (fun h1=>?_)
 ·refine⟨_,_,qap,?_,rfl⟩
  refine congrArg (fun b=>AV.d (D.bool b)) ?_
  unfold qdy
  cases e4:(s.state==4)<;>cases e2:(s.state==2)<;>simp_all<;>omega
 ·repeat((with_reducible apply aI);exact sdp)
  have e63:decide (63<s.cpu)=decide (64≤s.cpu):=by rw[decide_eq_decide];omega
  rw[e63]
  refine ifC.mk (fun h2=>?_) (fun h2=>?_)
  ·refine⟨_,_,qap,?_,rfl⟩
   refine congrArg (fun b=>AV.d (D.bool b)) ?_
   unfold qdy
   cases e4:(s.state==4)<;>cases e2:(s.state==2)<;>simp_all<;>omega
  ·repeat((with_reducible apply aI);exact sdp)
   refine ifC.mk (fun h3=>?_) (fun h3=>?_)
   ·refine⟨_,_,qap,?_,rfl⟩
    refine congrArg (fun b=>AV.d (D.bool b)) ?_
    unfold qdy
    cases e4:(s.state==4)<;>cases e2:(s.state==2)<;>simp_all<;>omega
   ·repeat((with_reducible apply aI);exact sdp)
    have e:(decide (0≤s.by_)&&decide (s.by_≤1000000000000000)&&(s.state==1||s.state==2))=((s.state==1||s.state==2)&&decide (0≤s.by_)&&decide (s.by_≤1000000000000000)):=by
     cases decide (0≤s.by_)<;>cases decide (s.by_≤1000000000000000)<;>cases (s.state==1||s.state==2)<;>rfl
    rw[e]
    refine⟨_,_,qap,?_,rfl⟩
    refine congrArg (fun b=>AV.d (D.bool b)) ?_
    unfold qdy
    cases e4:(s.state==4)<;>cases e2:(s.state==2)<;>simp_all<;>omega
theorem q1x {α:Type} [Inhabited α] {p:α→Bool}:∀{l:List α} {k:Nat},qel p l=k→p (l.getD k default)=true
 | [],k,h=>by simp[qel] at h
 | b::r,k,h=>by
  rw[qel] at h
  split at h
  ·rename_i hp
   have:k=0:=by omega
   subst this
   simpa using hp
  ·split at h
   ·omega
   ·have hg:=qob p r
    obtain⟨j,rfl⟩:∃j,k=j+1:=⟨k-1,by omega⟩
    have:=q1x (p:=p) (l:=r) (k:=j) (by omega)
    simpa using this
theorem Qm0 {ids:List Int} {x y:Int} (h:0≤Qcd ids x) (e:Qcd ids x=Qcd ids y):x=y:=by
 unfold Qcd at h e
 obtain⟨k,hk⟩:∃k:Nat,qel (fun z=>x==z) ids=k:=⟨(qel (fun z=>x==z) ids).toNat,by omega⟩
 have h1:=q1x hk
 have h2:=q1x (e▸hk)
 simp only[beq_iff_eq] at h1 h2
 rw[h1,h2]

theorem Qdk (a b:qax):(a.state==b.state&&a.cpu==b.cpu&&a.on_==b.on_)=Qdl b a:=by
 unfold Qdl;rw[Bool.beq_comm (a:=a.state),Bool.beq_comm (a:=a.cpu),Bool.beq_comm (a:=a.on_)]
theorem Qke (a b:Int):(a !=b)=(b !=a):=by rw[Bool.eq_iff_iff];simp;exact⟨fun h e=>h e.symm,fun h e=>h e.symm⟩
set_option maxHeartbeats 4000000 in
theorem q1r (ths:List qaj) (hth:ths.length<1000000) (l:List qax) (hl:l.length<1000000):qba prog Gl 178 [.d (.sl (ths.map qaj.toD)),.d (.sl (l.map qax.toD))] (.d (.int .i64 (qga ths l))):=by
 refine qba.of2 ?_
 refine qac func178 rfl rfl (by simp[ntmps178]) (qab rfl _ _ _ _ ?_)
 simp only[ntmps178,results178,qak,List.length_nil]
 simp only[zC,seval]
 refine qad (q75 ths hth) ?_
 obtain⟨dt,hdt⟩:∃dt,dt=qjw ths:=⟨_,rfl⟩
 obtain⟨ids,hids⟩:∃ids,ids=qh9 ths:=⟨_,rfl⟩
 have hmap:dt.map (fun y=>y.id)=ids:=by
  have:=qvl ths ths.length
  rw[List.take_length] at this
  rw[hdt,hids,this]
 have hdl:dt.length=ids.length:=by rw[←hmap,List.length_map]
 have hil:ids.length<1000000:=by
  have:=qjx ths ths.length
  rw[List.take_length] at this
  rw[hids];omega
 have hix:∀x,qel (fun y:qaj=>y.id==x) dt=Qcd ids x:=fun x=>by rw[←q1y,hmap];rfl
 obtain⟨F,hF⟩:∃F,F=qga ths l:=⟨_,rfl⟩
 rw[←hF,←hdt]
 rw[qga,←hids] at hF
 simp only[zC,seval]
 by_cases h0:l.length=0
 ·have hl0:l=[]:=List.length_eq_zero_iff.1 h0
  subst hl0
  simp only[zC,seval,Int.cast_ofNat_Int,List.length_nil]
  refine⟨_,_,qap,?_,rfl⟩
  rw[hF];rfl
 ·simp only[zC,seval,qv0 (show ¬((l.length:Int)=0) by omega)]
  refine qan l.length (fun k=>[(0,.d (.sl (dt.map qaj.toD))),(1,.d (.sl (l.map qax.toD))),(5,.d (.int .i64 (atU ids l k))),(6,.d (.int .i64 k))]) (fun _=>[]) (fun k=>qa5 (uAt ids l) k=0) rfl ?_ ?_
  ·refine qaa [] [] rfl List.nodup_nil ?_ rfl
   simp only[zC,seval,Int.cast_ofNat_Int,atU]
  ·intro k hi hk
   by_cases h:k<l.length
   ·have hb:∀e,uAt ids l k=e→e≠0→F=e:=fun e h1 h2=>by
     have:=qbu hi (by rw[h1];exact h2) h
     rw[hF,this,h1,if_pos h2]
    obtain⟨b,eb⟩:∃b,b=l.getD k default:=⟨_,rfl⟩
    simp only[zC,seval,(show(k:Int)<l.length by omega),h,qah _ _ _ (show k<l.length by omega),←eb]
    repeat((with_reducible apply aI);exact sdp)
    refine qad (Qiu dt b.thread (by omega)) ?_
    rw[hix]
    obtain⟨i,ei⟩:∃i,i=Qcd ids b.thread:=⟨_,rfl⟩
    have hi1:=q8b ids b.thread
    have hi2:Qcd ids b.thread<ids.length:=qu3 _ _
    rw[←ei] at hi1 hi2 ⊢
    have hu:uAt ids l k=if i<0 then 5 else if qgr b.lo b.hi=false then 2 else if qdy b=false then 1 else if q6y ids l k=true then 11 else 0:=by rw[uAt,←eb,←ei]
    have hat:atU ids l (k+1)=i:=by rw[atU,←eb,←ei]
    simp only[zC,seval]
    by_cases h1:i<0
    ·rw[if_pos h1] at hu
     simp only[zC,seval,(show i<0 by omega)]
     refine⟨_,_,qap,?_,rfl⟩
     rw[hb 5 hu (by omega)]
    ·rw[if_neg h1] at hu
     simp only[zC,seval,(show ¬i<0 by omega),(show(k:Int)<l.length by omega),h,qah _ _ _ (show k<l.length by omega),←eb]
     repeat((with_reducible apply aI);exact sdp)
     refine qad (q1t _ _) ?_
     cases h2:qgr b.lo b.hi with
     | false=>
      simp only[zC,seval,Bool.not_false]
      refine⟨_,_,qap,?_,rfl⟩
      rw[if_pos h2] at hu
      rw[hb 2 hu (by omega)]
     | true=>
      simp only[zC,seval,Bool.not_true,(show(k:Int)<l.length by omega),h,qah _ _ _ (show k<l.length by omega),←eb]
      repeat((with_reducible apply aI);exact sdp)
      rw[if_neg (by rw[h2];simp)] at hu
      refine qad (Qrk _) ?_
      cases h3:qdy b with
      | false=>
       simp only[zC,seval,Bool.not_false]
       refine⟨_,_,qap,?_,rfl⟩
       rw[if_pos h3] at hu
       rw[hb 1 hu (by omega)]
      | true=>
       rw[if_neg (by rw[h3];simp)] at hu
       have hge:=Qc6 ids l k
       have hlt:=Qc5 ids l k
       by_cases hk0:0<k
       ·have e1:IntKind.i64.wrap ((k:Int)-1)=((k-1:Nat):Int):=by rw[qbh (by omega) (by omega)];omega
        obtain⟨a,ea⟩:∃a,a=l.getD (k-1) default:=⟨_,rfl⟩
        have hatk:atU ids l k=Qcd ids a.thread:=by
         obtain⟨j,rfl⟩:∃j,k=j+1:=⟨k-1,by omega⟩
         rw[atU,ea];rfl
        simp only[zC,seval,Bool.not_true,(show(0:Int)<k by omega),e1,(show((k-1:Nat):Int)<l.length by omega),(show k-1<l.length by omega),qah _ _ _ (show k-1<l.length by omega),←ea,(show(k:Int)<l.length by omega),h,qah _ _ _ (show k<l.length by omega),←eb]
        repeat((with_reducible apply aI);exact sdp)
        cases h4:(a.thread==b.thread) with
        | true=>
         have hE:i=atU ids l k:=by rw[hatk,ei,beq_iff_eq.1 h4]
         have e5:(i==atU ids l k)=true:=by simpa using hE
         have e6:(i !=atU ids l k)=false:=by simpa using hE
         have ho:q6y ids l k=(b.lo !=a.hi||Qdl b a):=by
          unfold q6y;simp only[←eb,←ea,←ei,e5,e6,Bool.true_and,Bool.false_and,Bool.or_false]
         simp only[zC,seval,(show(0:Int)<k by omega),e1,(show((k-1:Nat):Int)<l.length by omega),(show k-1<l.length by omega),qah _ _ _ (show k-1<l.length by omega),←ea,(show(k:Int)<l.length by omega),h,qah _ _ _ (show k<l.length by omega),←eb]
         repeat((with_reducible apply aI);exact sdp)
         (try simp only[zC,seval,(show(0:Int)<k by omega),e1,(show((k-1:Nat):Int)<l.length by omega),(show k-1<l.length by omega),qah _ _ _ (show k-1<l.length by omega),←ea,(show(k:Int)<l.length by omega),h,qah _ _ _ (show k<l.length by omega),←eb])
         repeat((with_reducible apply aI);exact sdp)
         rw[show(a.hi !=b.lo||(a.state==b.state&&a.cpu==b.cpu&&a.on_==b.on_))=q6y ids l k from by rw[ho,Qke,Qdk]]
         refine ifC.mk (fun h5=>?_) (fun h5=>?_)
         ·refine⟨_,_,qap,?_,rfl⟩
          rw[if_pos h5] at hu
          rw[hb 11 hu (by omega)]
         ·rw[if_neg (by rw[h5];simp)] at hu
          have hat:atU ids l (k+1)=atU ids l k:=by rw[hat,hE]
          refine⟨qa4 hi hu,?_⟩
          refine qaa [] [] rfl List.nodup_nil ?_ rfl
          simp only[zC,seval,@qaf ((k:Int)+1) (by omega),hat]
        | false=>
         have h4b:a.thread≠b.thread:=by simpa using h4
         have hE:i≠atU ids l k:=fun e=>by
          rw[hatk] at e
          refine h4b ((Qm0 (ids:=ids) (x:=b.thread) (y:=a.thread) ?_ ?_).symm)
          ·rw[←ei];omega
          ·rw[←ei];exact e
         have e5:(i==atU ids l k)=false:=by simpa using hE
         have e6:(i !=atU ids l k)=true:=by simpa using hE
         have ho:q6y ids l k=(i !=atU ids l k+1||b.lo !=0):=by
          unfold q6y;simp only[←eb,←ei,e5,e6,Bool.true_and,Bool.false_and,Bool.false_or]
         simp only[zC,seval,@qaf (atU ids l k+1) (by omega),(show(k:Int)<l.length by omega),h,qah _ _ _ (show k<l.length by omega),←eb]
         repeat((with_reducible apply aI);exact sdp)
         rw[show(b.lo !=0||i !=atU ids l k+1)=q6y ids l k from by rw[ho,Bool.or_comm]]
         refine ifC.mk (fun h5=>?_) (fun h5=>?_)
         ·refine⟨_,_,qap,?_,rfl⟩
          rw[if_pos h5] at hu
          rw[hb 11 hu (by omega)]
         ·rw[if_neg (by rw[h5];simp)] at hu
          refine⟨qa4 hi hu,?_⟩
          refine qaa [] [] rfl List.nodup_nil ?_ rfl
          simp only[zC,seval,@qaf ((k:Int)+1) (by omega),hat]
       ·have hk00:k=0:=by omega
        have e0:(IntKind.i64.wrap ((k:Int)-1)).toNat=0:=by rw[qbh (by omega) (by omega)];omega
        have hatk:atU ids l k=-1:=by rw[hk00];rfl
        have e5:(i==atU ids l k)=false:=by rw[hatk];exact qv0 (show ¬(i=-1) by omega)
        have e6:(i !=atU ids l k)=true:=by rw[bne,e5];rfl
        have ho:q6y ids l k=(i !=atU ids l k+1||b.lo !=0):=by
         unfold q6y;simp only[←eb,←ei,e5,e6,Bool.true_and,Bool.false_and,Bool.false_or]
        simp only[zC,seval,Bool.not_true,(show ¬(0:Int)<k by omega),e0,qah _ _ _ (show 0<l.length by omega),(show(k:Int)<l.length by omega),h,qah _ _ _ (show k<l.length by omega),←eb]
        repeat((with_reducible apply aI);exact sdp)
        (try simp only[zC,seval,@qaf (atU ids l k+1) (by omega),(show ¬(0:Int)<k by omega),e0,qah _ _ _ (show 0<l.length by omega),(show(k:Int)<l.length by omega),h,qah _ _ _ (show k<l.length by omega),←eb])
        repeat((with_reducible apply aI);exact sdp)
        rw[show(b.lo !=0||i !=atU ids l k+1)=q6y ids l k from by rw[ho,Bool.or_comm]]
        refine ifC.mk (fun h5=>?_) (fun h5=>?_)
        ·refine⟨_,_,qap,?_,rfl⟩
         rw[if_pos h5] at hu
         rw[hb 11 hu (by omega)]
        ·rw[if_neg (by rw[h5];simp)] at hu
         refine⟨qa4 hi hu,?_⟩
         refine qaa [] [] rfl List.nodup_nil ?_ rfl
         simp only[zC,seval,@qaf ((k:Int)+1) (by omega),hat]
   ·simp only[zC,seval,(show ¬(k:Int)<l.length by omega)]
    have:k=l.length:=by omega
    subst this
    rw[hi,if_neg (by simp),if_neg h0] at hF
    have hge:=Qc6 ids l l.length
    have hlt:=Qc5 ids l l.length
    simp only[zC,seval,@qaf ((dt.length:Int)-1) (by omega)]
    refine ifC.mk (fun h5=>?_) (fun h5=>?_)
    ·refine⟨_,_,qap,?_,rfl⟩
     have h5:atU ids l l.length≠(dt.length:Int)-1:=by simpa using h5
     have hq:(if atU ids l l.length+1=(ids.length:Int) then(0:Int) else 11)=11:=if_neg (by omega)
     rw[hq] at hF
     rw[hF]
     split<;>rfl
    ·have h5:atU ids l l.length=(dt.length:Int)-1:=by simpa using h5
     have e2:IntKind.i64.wrap ((l.length:Int)-1)=((l.length-1:Nat):Int):=by rw[qbh (by omega) (by omega)];omega
     have hq:(if atU ids l l.length+1=(ids.length:Int) then(0:Int) else 11)=0:=if_pos (by omega)
     rw[hq] at hF
     refine qan (l.length-1) (fun k=>[(1,.d (.sl (l.map qax.toD))),(9,.d (.int .i64 ((k:Int)+1)))]) (fun _=>[]) (fun k=>(List.range k).all (qni l)=true) rfl ?_ ?_
     ·refine qaa [] [] rfl List.nodup_nil ?_ rfl
      simp only[zC,seval,Int.cast_ofNat_Int]
     ·intro k hj hk
      by_cases h:k<l.length-1
      ·obtain⟨b,eb⟩:∃b,b=l.getD k default:=⟨_,rfl⟩
       obtain⟨c,ec⟩:∃c,c=l.getD (k+1) default:=⟨_,rfl⟩
       have hbad:qni l k=false→F=11:=fun h1=>by rw[hF,if_pos (qb8 (by omega) h1)]
       have hat:qni l k=!(c.thread !=b.thread&&b.hi !=(l.getD (l.length-1) default).hi):=by
        unfold qni;rw[qv0 (show ¬((k:Int)+1=l.length) by omega),←eb,←ec,Bool.false_or]
       have e3:((k:Int)+1).toNat=k+1:=by omega
       have e4:IntKind.i64.wrap ((k:Int)+1-1)=(k:Int):=by rw[qbh (by omega) (by omega)];omega
       simp only[zC,seval,(show(k:Int)+1<l.length by omega),e3,e4,e2,(show(0:Int)≤(k:Int)+1 by omega),(show k+1<l.length by omega),qah _ _ _ (show k+1<l.length by omega),←ec,(show(k:Int)<l.length by omega),(show k<l.length by omega),qah _ _ _ (show k<l.length by omega),←eb,(show((l.length-1:Nat):Int)<l.length by omega),(show l.length-1<l.length by omega),qah _ _ _ (show l.length-1<l.length by omega)]
       repeat((with_reducible apply aI);exact sdp)
       (try simp only[zC,seval,(show(k:Int)+1<l.length by omega),e3,e4,e2,(show(0:Int)≤(k:Int)+1 by omega),(show k+1<l.length by omega),qah _ _ _ (show k+1<l.length by omega),←ec,(show(k:Int)<l.length by omega),(show k<l.length by omega),qah _ _ _ (show k<l.length by omega),←eb,(show((l.length-1:Nat):Int)<l.length by omega),(show l.length-1<l.length by omega),qah _ _ _ (show l.length-1<l.length by omega)])
       repeat((with_reducible apply aI);exact sdp)
       refine ifC.mk (fun h6=>?_) (fun h6=>?_)
       ·refine⟨_,_,qap,?_,rfl⟩
        rw[hbad (by rw[hat,h6];rfl)]
       ·refine⟨h,by rw[qck,hj,hat,h6];rfl,?_⟩
        refine qaa [] [] rfl List.nodup_nil ?_ rfl
        simp only[zC,seval,@qaf ((k:Int)+1+1) (by omega)]
      ·simp only[zC,seval,(show ¬(k:Int)+1<l.length by omega)]
       have hkn:k=l.length-1:=by omega
       have hlast:qni l k=true:=by
        unfold qni;rw[hkn];simp
       have hall:(List.range l.length).all (qni l)=true:=by
        rw[show l.length=k+1 by omega,qck,hj,hlast];rfl
       refine⟨_,_,qap,?_,rfl⟩
       rw[hF,if_neg (by rw[hall];simp)]

theorem qd7 (b:Bool):(b&&false)=false:=Bool.and_false b
theorem quw (a b c d:Int):qba prog Gl 56 [.d (.agg [.int .i64 a,.int .i64 b]),.d (.agg [.int .i64 c,.int .i64 d])] (.d (.bool (qdx a b c d))):=by
 refine qba.of2 ?_
 refine qac func56 rfl rfl (by simp[ntmps56]) (qab rfl _ _ _ _ ?_)
 simp only[ntmps56,results56,qak,List.length_nil]
 simp only[zC,seval]
 exact⟨_,_,qap,rfl,rfl⟩
theorem qnd (a b n:Int):qba prog Gl 57 [.d (.int .i64 n),.d (.agg [.int .i64 a,.int .i64 b])] (.d (.bool (qc4 a b n))):=by
 refine qba.of2 ?_
 refine qac func57 rfl rfl (by simp[ntmps57]) (qab rfl _ _ _ _ ?_)
 simp only[ntmps57,results57,qak,List.length_nil]
 simp only[zC,seval]
 exact⟨_,_,qap,rfl,rfl⟩
theorem qz6 (t:qaw) (ht:t.Few) (n:Int):qba prog Gl 28 [.d t.toD,.d (.int .i64 n)] (.d (.bool (qeb t.threads n))):=by
 refine qba.of2 ?_
 have hl:=ht.threads
 refine qac func28 rfl rfl (by simp[ntmps28]) (qab rfl _ _ _ _ ?_)
 simp only[ntmps28,results28,qak,List.length_nil]
 simp only[zC,seval]
 refine qan t.threads.length (fun k=>[(1,.d (.int .i64 n)),(2,.ptr 0 0),(5,.d (.int .i64 k))]) (fun _=>[.box 10 (.d t.toD)]) (fun k=>(t.threads.take k).any (fun x=>x.id==n)=false) rfl ?_ ?_
 ·refine qaa [] [0] rfl (by simp) ?_ rfl
  simp only[zC,seval,Int.cast_ofNat_Int]
  all_goals rfl
 ·intro k hi hk
  by_cases h:k<t.threads.length
  ·have hs:=qca (fun x:qaj=>x.id==n) t.threads k h
   simp only[zC,seval,(show(k:Int)<t.threads.length by omega),h,qah _ _ _ (show k<t.threads.length by omega)]
   repeat((with_reducible apply aI);exact sdp)
   refine ifC.mk (fun hc=>?_) (fun hc=>?_)
   ·refine⟨_,_,qap,?_,rfl⟩
    rw[show qeb t.threads n=true from Qc7 (fun x:qaj=>x.id==n) t.threads k h hc]
   ·refine⟨by rw[hs,hi,hc];rfl,?_⟩
    refine qaa [] [0] rfl (by simp) ?_ rfl
    simp only[zC,seval,@qaf ((k:Int)+1) (by omega)]
    all_goals rfl
  ·simp only[zC,seval,(show ¬(k:Int)<t.threads.length by omega)]
   have:k=t.threads.length:=by omega
   subst this
   rw[List.take_length] at hi
   refine⟨_,_,qap,?_,rfl⟩
   rw[show qeb t.threads n=false from hi]
def qb6 {α:Type} (e:Int) (p:α→Bool) (l:List α):Int:=if e≠0 then e else if l.all p=true then 0 else 5
theorem q1e {α:Type} {e:Int} (h:e≠0) (p:α→Bool) (l:List α):qb6 e p l=e:=by rw[qb6,if_pos h]
theorem q1d {α:Type} (p:α→Bool) (l:List α):qb6 0 p l=if l.all p=true then 0 else 5:=by rw[qb6,if_neg (by simp)]
theorem qj9 {α:Type} (e:Int) (p:α→Bool):qb6 e p []=e:=by
 unfold qb6
 by_cases h:e=0
 ·subst h;rfl
 ·rw[if_pos h]
theorem qh6 {α:Type} [Inhabited α] {e:Int} {p:α→Bool} {l:List α} {k:Nat} (h:k<l.length) (hz:qb6 e p (l.take k)=0):qb6 e p (l.take (k+1))=if(!p (l.getD k default))=true then 5 else 0:=by
 have he:e=0:=by
  by_cases h0:e=0
  ·exact h0
  ·rw[q1e h0] at hz;exact hz
 subst he
 rw[q1d] at hz ⊢
 rw[qdc p l k h]
 cases ha:(l.take k).all p
 ·rw[ha] at hz;simp at hz
 ·cases hp:p (l.getD k default)<;>simp
theorem qh5 {α:Type} [Inhabited α] {e:Int} {p:α→Bool} {l:List α} {k:Nat} (hz:qb6 e p (l.take k)≠0):qb6 e p l=qb6 e p (l.take k):=by
 by_cases h0:e=0
 ·subst h0
  rw[q1d] at hz ⊢
  rw[q1d]
  cases ha:(l.take k).all p
  ·have:l.all p=false:=by
    cases hb:l.all p
    ·rfl
    ·rw[List.all_eq_true] at hb
     have:(l.take k).all p=true:=List.all_eq_true.2 fun x hx=>hb x (List.mem_of_mem_take hx)
     rw[this] at ha;cases ha
   rw[this]
  ·rw[ha] at hz;simp at hz
 ·rw[q1e h0,q1e h0]
def Qli (t:qaw):Int:=
 let e1:=qb6 (qfa t.slices) (fun x=>qeb t.threads x.thread) t.slices
 if e1≠0 then e1 else if qga t.threads t.states≠0 then qga t.threads t.states else
 let e4:=qb6 (qjv t.flows) (fun x=>qeb t.threads x.ft&&qeb t.threads x.tt) t.flows
 if e4≠0 then e4 else
 let e6:=qb6 (qe2 t.samples) (fun x=>qeb t.threads x.thread) t.samples
 if e6≠0 then e6 else if qix t.steps≠0 then qix t.steps else
 let e9:=qb6 (bkF t.blocks) (fun x=>qeb t.threads x.thread) t.blocks
 if e9≠0 then e9 else q5j (qeb t.threads) t.lost
theorem q69 (t:qaw) (h:qcj t.threads=0):qey t=Qli t:=by
 have hf:qcp (qcp (qjv t.flows) (qeb t.threads) (fun x=>x.ft) t.flows) (qeb t.threads) (fun x=>x.tt) t.flows=qb6 (qjv t.flows) (fun x=>qeb t.threads x.ft&&qeb t.threads x.tt) t.flows:=by
  unfold qcp qb6
  by_cases h0:qjv t.flows=0
  ·rw[h0]
   have e:(t.flows.all fun x=>qeb t.threads x.ft&&qeb t.threads x.tt)=((t.flows.all fun x=>qeb t.threads x.ft)&&t.flows.all fun x=>qeb t.threads x.tt):=by
    induction t.flows with
    | nil=>rfl
    | cons x l ih=>
     simp only[List.all_cons,ih]
     cases qeb t.threads x.ft<;>cases qeb t.threads x.tt<;>simp
   rw[e]
   cases (t.flows.all fun x=>qeb t.threads x.ft)<;>cases (t.flows.all fun x=>qeb t.threads x.tt)<;>simp
  ·simp[h0]
 unfold qey
 rw[if_neg (by rw[h];simp),hf]
 rfl
theorem q12 {f:Nat→Int} {k n:Nat} (h:qa5 f k≠0) (hk:k≤n):qa5 f n=qa5 f k:=by
 induction n with
 | zero=>
  have:k=0:=by omega
  subst this;rfl
 | succ n ih=>
  by_cases e:k=n+1
  ·rw[e]
  ·rw[qa5,ih (by omega),if_neg h]
set_option maxHeartbeats 8000000 in
theorem Qu4 (t:qaw) (ht:t.Few):qba prog Gl 130 [.d t.toD] (.d (.int .i64 (Qli t))):=by
 refine qba.of1 ?_
 obtain⟨F,hF⟩:∃F,F=Qli t:=⟨_,rfl⟩
 rw[←hF]
 unfold Qli at hF
 simp only at hF
 refine qac func130 rfl rfl (by simp[ntmps130]) (qab rfl _ _ _ _ ?_)
 simp only[ntmps130,results130,qak,List.length_nil]
 simp only[zC,seval]
 refine qad (q1s _ ht.slices) ?_
 obtain⟨E0,eE0⟩:∃E0,E0=qfa t.slices:=⟨_,rfl⟩
 rw[←eE0] at hF ⊢
 simp only[zC,seval]
 repeat((with_reducible apply aI);exact sdp)
 have hlk:=ht.slices
 obtain⟨Q,hQ⟩:∃Q:qag→Bool,Q=fun x=>qeb t.threads x.thread:=⟨_,rfl⟩
 rw[←hQ] at hF
 refine qan t.slices.length (fun k=>[(1,.ptr 0 0),(3,.d (.int .i64 (qb6 E0 Q (t.slices.take k)))),(4,.d (.int .i64 k))]) (fun _=>[.box 10 (.d t.toD)]) (fun _=>True) trivial ?_ ?_
 ·refine qaa [] [0] rfl (by simp) ?_ rfl
  simp only[zC,seval,Int.cast_ofNat_Int,List.take_zero,qj9]
  all_goals rfl
 ·intro k _ hk
  by_cases hg:k<t.slices.length∧qb6 E0 Q (t.slices.take k)=0
  ·obtain⟨h,hz⟩:=hg
   have hs:=qh6 h hz
   obtain⟨b,eb⟩:∃b,b=t.slices.getD k default:=⟨_,rfl⟩
   rw[←eb] at hs
   simp only[zC,seval,hz,(show(k:Int)<t.slices.length by omega),h,qah _ _ _ (show k<t.slices.length by omega),←eb,beq_self_eq_true]
   repeat((with_reducible apply aI);exact sdp)
   refine qad (qz6 t ht _) ?_
   simp only[zC,seval]
   refine ifC.mk (fun h5=>?_) (fun h5=>?_)
   ·rw[if_pos (by rw[hQ];exact h5)] at hs
    repeat((with_reducible apply aI);exact sdp)
    refine qaa [] [0] rfl (by simp) ?_ rfl
    simp only[zC,seval,hs,@qaf ((k:Int)+1) (by omega)]
    all_goals rfl
   ·rw[if_neg (by rw[hQ,h5];simp)] at hs
    refine qaa [] [0] rfl (by simp) ?_ rfl
    simp only[zC,seval,hs,hz,@qaf ((k:Int)+1) (by omega)]
    all_goals rfl
  ·have hc:(decide ((k:Int)<t.slices.length)&&(qb6 E0 Q (t.slices.take k)==0))=false:=by
    rw[Bool.and_eq_false_iff,decide_eq_false_iff_not]
    rcases Nat.lt_or_ge k t.slices.length with h1|h1
    ·exact .inr (by simpa using fun hz=>hg ⟨h1,hz⟩)
    ·exact .inl (by omega)
   have hE:qb6 E0 Q t.slices=qb6 E0 Q (t.slices.take k):=by
    by_cases hz:qb6 E0 Q (t.slices.take k)=0
    ·rw[List.take_of_length_le]
     rcases Nat.lt_or_ge k t.slices.length with h1|h1
     ·exact absurd ⟨h1,hz⟩ hg
     ·exact h1
    ·exact qh5 hz
   obtain⟨E,eE⟩:∃E,E=qb6 E0 Q (t.slices.take k):=⟨_,rfl⟩
   rw[←eE] at hc hE ⊢
   rw[hE] at hF
   simp only[zC,seval,hc]
   repeat((with_reducible apply aI);exact sdp)
   by_cases hEz:E≠0
   ·rw[if_pos hEz] at hF
    have he:(E==0)=false:=by simpa using hEz
    obtain⟨e,ee⟩:∃e,e=E:=⟨_,rfl⟩
    rw[←ee] at he ⊢
    have hFe:F=e:=by rw[hF,ee]
    simp only[zC,seval,he]
    repeat((with_reducible apply aI);exact sdp)
    refine qan 0 (fun k=>[(1,.ptr 0 0),(3,.d (.int .i64 e)),(5,.d (.int .i64 0))]) (fun _=>[.box 10 (.d t.toD)]) (fun _=>True) trivial ?_ ?_
    ·refine qaa [] [0] rfl (by simp) ?_ rfl
     simp only[zC,seval,Int.cast_ofNat_Int]
     all_goals rfl
    ·intro k0 _ hk0
     obtain rfl:k0=0:=by omega
     simp only[zC,seval,he,Bool.and_false,qd7]
     repeat((with_reducible apply aI);exact sdp)
     refine qan 0 (fun k=>[(1,.ptr 0 0),(3,.d (.int .i64 e)),(6,.d (.int .i64 0))]) (fun _=>[.box 10 (.d t.toD)]) (fun _=>True) trivial ?_ ?_
     ·refine qaa [] [0] rfl (by simp) ?_ rfl
      simp only[zC,seval,Int.cast_ofNat_Int]
      all_goals rfl
     ·intro k0 _ hk0
      obtain rfl:k0=0:=by omega
      simp only[zC,seval,he,Bool.and_false,qd7]
      repeat((with_reducible apply aI);exact sdp)
      refine qan 0 (fun k=>[(1,.ptr 0 0),(3,.d (.int .i64 e)),(7,.d (.int .i64 0))]) (fun _=>[.box 10 (.d t.toD)]) (fun _=>True) trivial ?_ ?_
      ·refine qaa [] [0] rfl (by simp) ?_ rfl
       simp only[zC,seval,Int.cast_ofNat_Int]
       all_goals rfl
      ·intro k0 _ hk0
       obtain rfl:k0=0:=by omega
       simp only[zC,seval,he,Bool.and_false,qd7]
       repeat((with_reducible apply aI);exact sdp)
       refine qan 0 (fun k=>[(1,.ptr 0 0),(3,.d (.int .i64 e)),(8,.d (.int .i64 0))]) (fun _=>[.box 10 (.d t.toD)]) (fun _=>True) trivial ?_ ?_
       ·refine qaa [] [0] rfl (by simp) ?_ rfl
        simp only[zC,seval,Int.cast_ofNat_Int]
        all_goals rfl
       ·intro k0 _ hk0
        obtain rfl:k0=0:=by omega
        simp only[zC,seval,he,Bool.and_false,qd7]
        repeat((with_reducible apply aI);exact sdp)
        refine⟨_,_,qap,?_,rfl⟩
        rw[hFe]
   ·have hEz:E=0:=by simpa using hEz
    rw[if_neg (by rw[hEz];simp)] at hF
    subst hEz
    simp only[zC,seval,beq_self_eq_true]
    repeat((with_reducible apply aI);exact sdp)
    refine qad (q1r _ ht.threads _ ht.states) ?_
    by_cases hst1:qga t.threads t.states≠0
    ·rw[if_pos hst1] at hF
     obtain⟨e,ee⟩:∃e,e=qga t.threads t.states:=⟨_,rfl⟩
     rw[←ee] at hst1 hF ⊢
     have hFe:F=e:=hF
     have he:(e==0)=false:=by simpa using hst1
     simp only[zC,seval,he]
     repeat((with_reducible apply aI);exact sdp)
     refine qan 0 (fun k=>[(1,.ptr 0 0),(3,.d (.int .i64 e)),(5,.d (.int .i64 0))]) (fun _=>[.box 10 (.d t.toD)]) (fun _=>True) trivial ?_ ?_
     ·refine qaa [] [0] rfl (by simp) ?_ rfl
      simp only[zC,seval,Int.cast_ofNat_Int]
      all_goals rfl
     ·intro k0 _ hk0
      obtain rfl:k0=0:=by omega
      simp only[zC,seval,he,Bool.and_false,qd7]
      repeat((with_reducible apply aI);exact sdp)
      refine qan 0 (fun k=>[(1,.ptr 0 0),(3,.d (.int .i64 e)),(6,.d (.int .i64 0))]) (fun _=>[.box 10 (.d t.toD)]) (fun _=>True) trivial ?_ ?_
      ·refine qaa [] [0] rfl (by simp) ?_ rfl
       simp only[zC,seval,Int.cast_ofNat_Int]
       all_goals rfl
      ·intro k0 _ hk0
       obtain rfl:k0=0:=by omega
       simp only[zC,seval,he,Bool.and_false,qd7]
       repeat((with_reducible apply aI);exact sdp)
       refine qan 0 (fun k=>[(1,.ptr 0 0),(3,.d (.int .i64 e)),(7,.d (.int .i64 0))]) (fun _=>[.box 10 (.d t.toD)]) (fun _=>True) trivial ?_ ?_
       ·refine qaa [] [0] rfl (by simp) ?_ rfl
        simp only[zC,seval,Int.cast_ofNat_Int]
        all_goals rfl
       ·intro k0 _ hk0
        obtain rfl:k0=0:=by omega
        simp only[zC,seval,he,Bool.and_false,qd7]
        repeat((with_reducible apply aI);exact sdp)
        refine qan 0 (fun k=>[(1,.ptr 0 0),(3,.d (.int .i64 e)),(8,.d (.int .i64 0))]) (fun _=>[.box 10 (.d t.toD)]) (fun _=>True) trivial ?_ ?_
        ·refine qaa [] [0] rfl (by simp) ?_ rfl
         simp only[zC,seval,Int.cast_ofNat_Int]
         all_goals rfl
        ·intro k0 _ hk0
         obtain rfl:k0=0:=by omega
         simp only[zC,seval,he,Bool.and_false,qd7]
         repeat((with_reducible apply aI);exact sdp)
         refine⟨_,_,qap,?_,rfl⟩
         rw[hFe]
    ·rw[if_neg hst1] at hF
     have hst1:qga t.threads t.states=0:=by simpa using hst1
     rw[hst1]
     simp only[zC,seval,beq_self_eq_true]
     repeat((with_reducible apply aI);exact sdp)
     refine qad (q53 _ ht.flows) ?_
     obtain⟨E0,eE0⟩:∃E0,E0=qjv t.flows:=⟨_,rfl⟩
     rw[←eE0] at hF ⊢
     simp only[zC,seval]
     repeat((with_reducible apply aI);exact sdp)
     have hlk:=ht.flows
     obtain⟨Q,hQ⟩:∃Q:qbf→Bool,Q=fun x=>qeb t.threads x.ft&&qeb t.threads x.tt:=⟨_,rfl⟩
     rw[←hQ] at hF
     refine qan t.flows.length (fun k=>[(1,.ptr 0 0),(3,.d (.int .i64 (qb6 E0 Q (t.flows.take k)))),(5,.d (.int .i64 k))]) (fun _=>[.box 10 (.d t.toD)]) (fun _=>True) trivial ?_ ?_
     ·refine qaa [] [0] rfl (by simp) ?_ rfl
      simp only[zC,seval,Int.cast_ofNat_Int,List.take_zero,qj9]
      all_goals rfl
     ·intro k _ hk
      by_cases hg:k<t.flows.length∧qb6 E0 Q (t.flows.take k)=0
      ·obtain⟨h,hz⟩:=hg
       have hs:=qh6 h hz
       obtain⟨b,eb⟩:∃b,b=t.flows.getD k default:=⟨_,rfl⟩
       rw[←eb] at hs
       simp only[zC,seval,hz,(show(k:Int)<t.flows.length by omega),h,qah _ _ _ (show k<t.flows.length by omega),←eb,beq_self_eq_true]
       repeat((with_reducible apply aI);exact sdp)
       refine qad (qz6 t ht _) ?_
       simp only[zC,seval,(show(k:Int)<t.flows.length by omega),h,qah _ _ _ (show k<t.flows.length by omega),←eb]
       repeat((with_reducible apply aI);exact sdp)
       refine qay (fun _=>qz6 t ht _) ?_
       simp only[zC,seval]
       repeat((with_reducible apply aI);exact sdp)
       rw[←Bool.not_and]
       refine ifC.mk (fun h5=>?_) (fun h5=>?_)
       ·rw[if_pos (by rw[hQ];exact h5)] at hs
        repeat((with_reducible apply aI);exact sdp)
        refine qaa [] [0] rfl (by simp) ?_ rfl
        simp only[zC,seval,hs,@qaf ((k:Int)+1) (by omega)]
        all_goals rfl
       ·rw[if_neg (by rw[hQ,h5];simp)] at hs
        refine qaa [] [0] rfl (by simp) ?_ rfl
        simp only[zC,seval,hs,hz,@qaf ((k:Int)+1) (by omega)]
        all_goals rfl
      ·have hc:(decide ((k:Int)<t.flows.length)&&(qb6 E0 Q (t.flows.take k)==0))=false:=by
        rw[Bool.and_eq_false_iff,decide_eq_false_iff_not]
        rcases Nat.lt_or_ge k t.flows.length with h1|h1
        ·exact .inr (by simpa using fun hz=>hg ⟨h1,hz⟩)
        ·exact .inl (by omega)
       have hE:qb6 E0 Q t.flows=qb6 E0 Q (t.flows.take k):=by
        by_cases hz:qb6 E0 Q (t.flows.take k)=0
        ·rw[List.take_of_length_le]
         rcases Nat.lt_or_ge k t.flows.length with h1|h1
         ·exact absurd ⟨h1,hz⟩ hg
         ·exact h1
        ·exact qh5 hz
       obtain⟨E,eE⟩:∃E,E=qb6 E0 Q (t.flows.take k):=⟨_,rfl⟩
       rw[←eE] at hc hE ⊢
       rw[hE] at hF
       simp only[zC,seval,hc]
       repeat((with_reducible apply aI);exact sdp)
       by_cases hEz:E≠0
       ·rw[if_pos hEz] at hF
        have he:(E==0)=false:=by simpa using hEz
        obtain⟨e,ee⟩:∃e,e=E:=⟨_,rfl⟩
        rw[←ee] at he ⊢
        have hFe:F=e:=by rw[hF,ee]
        simp only[zC,seval,he]
        repeat((with_reducible apply aI);exact sdp)
        refine qan 0 (fun k=>[(1,.ptr 0 0),(3,.d (.int .i64 e)),(6,.d (.int .i64 0))]) (fun _=>[.box 10 (.d t.toD)]) (fun _=>True) trivial ?_ ?_
        ·refine qaa [] [0] rfl (by simp) ?_ rfl
         simp only[zC,seval,Int.cast_ofNat_Int]
         all_goals rfl
        ·intro k0 _ hk0
         obtain rfl:k0=0:=by omega
         simp only[zC,seval,he,Bool.and_false,qd7]
         repeat((with_reducible apply aI);exact sdp)
         refine qan 0 (fun k=>[(1,.ptr 0 0),(3,.d (.int .i64 e)),(7,.d (.int .i64 0))]) (fun _=>[.box 10 (.d t.toD)]) (fun _=>True) trivial ?_ ?_
         ·refine qaa [] [0] rfl (by simp) ?_ rfl
          simp only[zC,seval,Int.cast_ofNat_Int]
          all_goals rfl
         ·intro k0 _ hk0
          obtain rfl:k0=0:=by omega
          simp only[zC,seval,he,Bool.and_false,qd7]
          repeat((with_reducible apply aI);exact sdp)
          refine qan 0 (fun k=>[(1,.ptr 0 0),(3,.d (.int .i64 e)),(8,.d (.int .i64 0))]) (fun _=>[.box 10 (.d t.toD)]) (fun _=>True) trivial ?_ ?_
          ·refine qaa [] [0] rfl (by simp) ?_ rfl
           simp only[zC,seval,Int.cast_ofNat_Int]
           all_goals rfl
          ·intro k0 _ hk0
           obtain rfl:k0=0:=by omega
           simp only[zC,seval,he,Bool.and_false,qd7]
           repeat((with_reducible apply aI);exact sdp)
           refine⟨_,_,qap,?_,rfl⟩
           rw[hFe]
       ·have hEz:E=0:=by simpa using hEz
        rw[if_neg (by rw[hEz];simp)] at hF
        subst hEz
        simp only[zC,seval,beq_self_eq_true]
        repeat((with_reducible apply aI);exact sdp)
        refine qad (qwi _ ht.sst ht.samples) ?_
        obtain⟨E0,eE0⟩:∃E0,E0=qe2 t.samples:=⟨_,rfl⟩
        rw[←eE0] at hF ⊢
        simp only[zC,seval]
        repeat((with_reducible apply aI);exact sdp)
        have hlk:=ht.samples
        obtain⟨Q,hQ⟩:∃Q:qam→Bool,Q=fun x=>qeb t.threads x.thread:=⟨_,rfl⟩
        rw[←hQ] at hF
        refine qan t.samples.length (fun k=>[(1,.ptr 0 0),(3,.d (.int .i64 (qb6 E0 Q (t.samples.take k)))),(6,.d (.int .i64 k))]) (fun _=>[.box 10 (.d t.toD)]) (fun _=>True) trivial ?_ ?_
        ·refine qaa [] [0] rfl (by simp) ?_ rfl
         simp only[zC,seval,Int.cast_ofNat_Int,List.take_zero,qj9]
         all_goals rfl
        ·intro k _ hk
         by_cases hg:k<t.samples.length∧qb6 E0 Q (t.samples.take k)=0
         ·obtain⟨h,hz⟩:=hg
          have hs:=qh6 h hz
          obtain⟨b,eb⟩:∃b,b=t.samples.getD k default:=⟨_,rfl⟩
          rw[←eb] at hs
          simp only[zC,seval,hz,(show(k:Int)<t.samples.length by omega),h,qah _ _ _ (show k<t.samples.length by omega),←eb,beq_self_eq_true]
          repeat((with_reducible apply aI);exact sdp)
          refine qad (qz6 t ht _) ?_
          simp only[zC,seval]
          refine ifC.mk (fun h5=>?_) (fun h5=>?_)
          ·rw[if_pos (by rw[hQ];exact h5)] at hs
           repeat((with_reducible apply aI);exact sdp)
           refine qaa [] [0] rfl (by simp) ?_ rfl
           simp only[zC,seval,hs,@qaf ((k:Int)+1) (by omega)]
           all_goals rfl
          ·rw[if_neg (by rw[hQ,h5];simp)] at hs
           refine qaa [] [0] rfl (by simp) ?_ rfl
           simp only[zC,seval,hs,hz,@qaf ((k:Int)+1) (by omega)]
           all_goals rfl
         ·have hc:(decide ((k:Int)<t.samples.length)&&(qb6 E0 Q (t.samples.take k)==0))=false:=by
           rw[Bool.and_eq_false_iff,decide_eq_false_iff_not]
           rcases Nat.lt_or_ge k t.samples.length with h1|h1
           ·exact .inr (by simpa using fun hz=>hg ⟨h1,hz⟩)
           ·exact .inl (by omega)
          have hE:qb6 E0 Q t.samples=qb6 E0 Q (t.samples.take k):=by
           by_cases hz:qb6 E0 Q (t.samples.take k)=0
           ·rw[List.take_of_length_le]
            rcases Nat.lt_or_ge k t.samples.length with h1|h1
            ·exact absurd ⟨h1,hz⟩ hg
            ·exact h1
           ·exact qh5 hz
          obtain⟨E,eE⟩:∃E,E=qb6 E0 Q (t.samples.take k):=⟨_,rfl⟩
          rw[←eE] at hc hE ⊢
          rw[hE] at hF
          simp only[zC,seval,hc]
          repeat((with_reducible apply aI);exact sdp)
          by_cases hEz:E≠0
          ·rw[if_pos hEz] at hF
           have he:(E==0)=false:=by simpa using hEz
           obtain⟨e,ee⟩:∃e,e=E:=⟨_,rfl⟩
           rw[←ee] at he ⊢
           have hFe:F=e:=by rw[hF,ee]
           simp only[zC,seval,he]
           repeat((with_reducible apply aI);exact sdp)
           refine qan 0 (fun k=>[(1,.ptr 0 0),(3,.d (.int .i64 e)),(7,.d (.int .i64 0))]) (fun _=>[.box 10 (.d t.toD)]) (fun _=>True) trivial ?_ ?_
           ·refine qaa [] [0] rfl (by simp) ?_ rfl
            simp only[zC,seval,Int.cast_ofNat_Int]
            all_goals rfl
           ·intro k0 _ hk0
            obtain rfl:k0=0:=by omega
            simp only[zC,seval,he,Bool.and_false,qd7]
            repeat((with_reducible apply aI);exact sdp)
            refine qan 0 (fun k=>[(1,.ptr 0 0),(3,.d (.int .i64 e)),(8,.d (.int .i64 0))]) (fun _=>[.box 10 (.d t.toD)]) (fun _=>True) trivial ?_ ?_
            ·refine qaa [] [0] rfl (by simp) ?_ rfl
             simp only[zC,seval,Int.cast_ofNat_Int]
             all_goals rfl
            ·intro k0 _ hk0
             obtain rfl:k0=0:=by omega
             simp only[zC,seval,he,Bool.and_false,qd7]
             repeat((with_reducible apply aI);exact sdp)
             refine⟨_,_,qap,?_,rfl⟩
             rw[hFe]
          ·have hEz:E=0:=by simpa using hEz
           rw[if_neg (by rw[hEz];simp)] at hF
           subst hEz
           simp only[zC,seval,beq_self_eq_true]
           repeat((with_reducible apply aI);exact sdp)
           refine qad (q51 _ ht.steps) ?_
           by_cases hst2:qix t.steps≠0
           ·rw[if_pos hst2] at hF
            obtain⟨e,ee⟩:∃e,e=qix t.steps:=⟨_,rfl⟩
            rw[←ee] at hst2 hF ⊢
            have hFe:F=e:=hF
            have he:(e==0)=false:=by simpa using hst2
            simp only[zC,seval,he]
            repeat((with_reducible apply aI);exact sdp)
            refine qan 0 (fun k=>[(1,.ptr 0 0),(3,.d (.int .i64 e)),(7,.d (.int .i64 0))]) (fun _=>[.box 10 (.d t.toD)]) (fun _=>True) trivial ?_ ?_
            ·refine qaa [] [0] rfl (by simp) ?_ rfl
             simp only[zC,seval,Int.cast_ofNat_Int]
             all_goals rfl
            ·intro k0 _ hk0
             obtain rfl:k0=0:=by omega
             simp only[zC,seval,he,Bool.and_false,qd7]
             repeat((with_reducible apply aI);exact sdp)
             refine qan 0 (fun k=>[(1,.ptr 0 0),(3,.d (.int .i64 e)),(8,.d (.int .i64 0))]) (fun _=>[.box 10 (.d t.toD)]) (fun _=>True) trivial ?_ ?_
             ·refine qaa [] [0] rfl (by simp) ?_ rfl
              simp only[zC,seval,Int.cast_ofNat_Int]
              all_goals rfl
             ·intro k0 _ hk0
              obtain rfl:k0=0:=by omega
              simp only[zC,seval,he,Bool.and_false,qd7]
              repeat((with_reducible apply aI);exact sdp)
              refine⟨_,_,qap,?_,rfl⟩
              rw[hFe]
           ·rw[if_neg hst2] at hF
            have hst2:qix t.steps=0:=by simpa using hst2
            rw[hst2]
            simp only[zC,seval,beq_self_eq_true]
            repeat((with_reducible apply aI);exact sdp)
            refine qad (Qef _ ht.bst ht.blocks) ?_
            obtain⟨E0,eE0⟩:∃E0,E0=bkF t.blocks:=⟨_,rfl⟩
            rw[←eE0] at hF ⊢
            simp only[zC,seval]
            repeat((with_reducible apply aI);exact sdp)
            have hlk:=ht.blocks
            obtain⟨Q,hQ⟩:∃Q:qar→Bool,Q=fun x=>qeb t.threads x.thread:=⟨_,rfl⟩
            rw[←hQ] at hF
            refine qan t.blocks.length (fun k=>[(1,.ptr 0 0),(3,.d (.int .i64 (qb6 E0 Q (t.blocks.take k)))),(7,.d (.int .i64 k))]) (fun _=>[.box 10 (.d t.toD)]) (fun _=>True) trivial ?_ ?_
            ·refine qaa [] [0] rfl (by simp) ?_ rfl
             simp only[zC,seval,Int.cast_ofNat_Int,List.take_zero,qj9]
             all_goals rfl
            ·intro k _ hk
             by_cases hg:k<t.blocks.length∧qb6 E0 Q (t.blocks.take k)=0
             ·obtain⟨h,hz⟩:=hg
              have hs:=qh6 h hz
              obtain⟨b,eb⟩:∃b,b=t.blocks.getD k default:=⟨_,rfl⟩
              rw[←eb] at hs
              simp only[zC,seval,hz,(show(k:Int)<t.blocks.length by omega),h,qah _ _ _ (show k<t.blocks.length by omega),←eb,beq_self_eq_true]
              repeat((with_reducible apply aI);exact sdp)
              refine qad (qz6 t ht _) ?_
              simp only[zC,seval]
              refine ifC.mk (fun h5=>?_) (fun h5=>?_)
              ·rw[if_pos (by rw[hQ];exact h5)] at hs
               repeat((with_reducible apply aI);exact sdp)
               refine qaa [] [0] rfl (by simp) ?_ rfl
               simp only[zC,seval,hs,@qaf ((k:Int)+1) (by omega)]
               all_goals rfl
              ·rw[if_neg (by rw[hQ,h5];simp)] at hs
               refine qaa [] [0] rfl (by simp) ?_ rfl
               simp only[zC,seval,hs,hz,@qaf ((k:Int)+1) (by omega)]
               all_goals rfl
             ·have hc:(decide ((k:Int)<t.blocks.length)&&(qb6 E0 Q (t.blocks.take k)==0))=false:=by
               rw[Bool.and_eq_false_iff,decide_eq_false_iff_not]
               rcases Nat.lt_or_ge k t.blocks.length with h1|h1
               ·exact .inr (by simpa using fun hz=>hg ⟨h1,hz⟩)
               ·exact .inl (by omega)
              have hE:qb6 E0 Q t.blocks=qb6 E0 Q (t.blocks.take k):=by
               by_cases hz:qb6 E0 Q (t.blocks.take k)=0
               ·rw[List.take_of_length_le]
                rcases Nat.lt_or_ge k t.blocks.length with h1|h1
                ·exact absurd ⟨h1,hz⟩ hg
                ·exact h1
               ·exact qh5 hz
              obtain⟨E,eE⟩:∃E,E=qb6 E0 Q (t.blocks.take k):=⟨_,rfl⟩
              rw[←eE] at hc hE ⊢
              rw[hE] at hF
              simp only[zC,seval,hc]
              repeat((with_reducible apply aI);exact sdp)
              by_cases hEz:E≠0
              ·rw[if_pos hEz] at hF
               have he:(E==0)=false:=by simpa using hEz
               obtain⟨e,ee⟩:∃e,e=E:=⟨_,rfl⟩
               rw[←ee] at he ⊢
               have hFe:F=e:=by rw[hF,ee]
               simp only[zC,seval,he]
               repeat((with_reducible apply aI);exact sdp)
               refine qan 0 (fun k=>[(1,.ptr 0 0),(3,.d (.int .i64 e)),(8,.d (.int .i64 0))]) (fun _=>[.box 10 (.d t.toD)]) (fun _=>True) trivial ?_ ?_
               ·refine qaa [] [0] rfl (by simp) ?_ rfl
                simp only[zC,seval,Int.cast_ofNat_Int]
                all_goals rfl
               ·intro k0 _ hk0
                obtain rfl:k0=0:=by omega
                simp only[zC,seval,he,Bool.and_false,qd7]
                repeat((with_reducible apply aI);exact sdp)
                refine⟨_,_,qap,?_,rfl⟩
                rw[hFe]
              ·have hEz:E=0:=by simpa using hEz
               rw[if_neg (by rw[hEz];simp)] at hF
               subst hEz
               simp only[zC,seval,beq_self_eq_true]
               repeat((with_reducible apply aI);exact sdp)
               have hlk:=ht.lost
               refine qan t.lost.length (fun k=>[(1,.ptr 0 0),(3,.d (.int .i64 (qa5 (fun k=>qeq (qeb t.threads) (t.lost.getD k default)) k))),(8,.d (.int .i64 k))]) (fun _=>[.box 10 (.d t.toD)]) (fun _=>True) trivial ?_ ?_
               ·refine qaa [] [0] rfl (by simp) ?_ rfl
                simp only[zC,seval,Int.cast_ofNat_Int,qa5]
                all_goals rfl
               ·intro k _ hk
                by_cases hg:k<t.lost.length∧qa5 (fun k=>qeq (qeb t.threads) (t.lost.getD k default)) k=0
                ·obtain⟨h,hz⟩:=hg
                 have hs:qa5 (fun k=>qeq (qeb t.threads) (t.lost.getD k default)) (k+1)=qeq (qeb t.threads) (t.lost.getD k default):=by rw[qa5,hz,if_pos rfl]
                 obtain⟨b,eb⟩:∃b,b=t.lost.getD k default:=⟨_,rfl⟩
                 rw[←eb] at hs
                 simp only[zC,seval,hz,(show(k:Int)<t.lost.length by omega),h,qah _ _ _ (show k<t.lost.length by omega),←eb,beq_self_eq_true]
                 repeat((with_reducible apply aI);exact sdp)
                 refine qad (qz6 t ht _) ?_
                 simp only[zC,seval]
                 refine ifC.mk (fun h5=>?_) (fun h5=>?_)
                 ·rw[qeq,if_pos (by rw[←Bool.not_eq_true'];exact h5)] at hs
                  repeat((with_reducible apply aI);exact sdp)
                  refine qaa [] [0] rfl (by simp) ?_ rfl
                  simp only[zC,seval,hs,@qaf ((k:Int)+1) (by omega)]
                  all_goals rfl
                 ·rw[qeq,if_neg (by intro e;rw[e] at h5;cases h5)] at hs
                  refine qad (q1t _ _) ?_
                  simp only[zC,seval]
                  repeat((with_reducible apply aI);exact sdp)
                  refine ifC.mk (fun h6=>?_) (fun h6=>?_)
                  ·rw[if_pos h6] at hs
                   repeat((with_reducible apply aI);exact sdp)
                   refine qaa [] [0] rfl (by simp) ?_ rfl
                   simp only[zC,seval,hs,@qaf ((k:Int)+1) (by omega)]
                   all_goals rfl
                  ·rw[if_neg (by rw[h6];simp)] at hs
                   refine qaa [] [0] rfl (by simp) ?_ rfl
                   simp only[zC,seval,hs,hz,@qaf ((k:Int)+1) (by omega)]
                   all_goals rfl
                ·have hc:(decide ((k:Int)<t.lost.length)&&(qa5 (fun k=>qeq (qeb t.threads) (t.lost.getD k default)) k==0))=false:=by
                  rw[Bool.and_eq_false_iff,decide_eq_false_iff_not]
                  rcases Nat.lt_or_ge k t.lost.length with h1|h1
                  ·exact .inr (by simpa using fun hz=>hg ⟨h1,hz⟩)
                  ·exact .inl (by omega)
                 have hE:q5j (qeb t.threads) t.lost=qa5 (fun k=>qeq (qeb t.threads) (t.lost.getD k default)) k:=by
                  rcases Nat.lt_or_ge k t.lost.length with h1|h1
                  ·have hz:qa5 (fun k=>qeq (qeb t.threads) (t.lost.getD k default)) k≠0:=fun hz=>hg ⟨h1,hz⟩
                   exact q12 hz hk
                  ·have:k=t.lost.length:=by omega
                   rw[this];rfl
                 obtain⟨E,eE⟩:∃E,E=qa5 (fun k=>qeq (qeb t.threads) (t.lost.getD k default)) k:=⟨_,rfl⟩
                 rw[←eE] at hc hE ⊢
                 simp only[zC,seval,hc]
                 repeat((with_reducible apply aI);exact sdp)
                 refine⟨_,_,qap,?_,rfl⟩
                 rw[hF,hE]

theorem Qiq (t:qaw) (ht:t.Few):qba prog Gl 55 [.d t.toD] (.d (.int .i64 (qey t))):=by
 refine qba.of1 ?_
 have hl:=ht.threads
 obtain⟨F,hF⟩:∃F,F=qey t:=⟨_,rfl⟩
 rw[←hF]
 have hbadF:qcj t.threads≠0→F=qcj t.threads:=fun h=>by rw[hF,qey,if_pos h]
 refine qac func55 rfl rfl (by simp[ntmps55]) (qab rfl _ _ _ _ ?_)
 simp only[ntmps55,results55,qak,List.length_nil]
 simp only[zC,seval]
 repeat((with_reducible apply aI);exact sdp)
 refine ifC.mk (fun h=>?_) (fun h=>?_)
 ·have h:64<t.threads.length:=by simp at h;omega
  have e:qcj t.threads=7:=by rw[qcj,if_pos h]
  refine⟨_,_,qap,?_,rfl⟩
  rw[hbadF (by rw[e];decide),e]
 ·have h:¬64<t.threads.length:=by simp at h;omega
  have hT:qcj t.threads=qa5 (qip t.threads) t.threads.length:=by rw[qcj,if_neg h]
  refine qan t.threads.length (fun k=>[(1,.ptr 0 0),(3,.d (.int .i64 k))]) (fun _=>[.box 10 (.d t.toD)]) (fun k=>qa5 (qip t.threads) k=0) rfl ?_ ?_
  ·refine qaa [] [0] rfl (by simp) ?_ rfl
   simp only[zC,seval,Int.cast_ofNat_Int]
   all_goals rfl
  ·intro k hi hk
   by_cases h2:k<t.threads.length
   ·have hb:∀e,qip t.threads k=e→e≠0→F=e:=fun e h1 h2'=>by
     have:=qbu hi (by rw[h1];exact h2') h2
     rw[←hT,h1] at this
     rw[hbadF (by rw[this];exact h2'),this]
    obtain⟨b,eb⟩:∃b,b=t.threads.getD k default:=⟨_,rfl⟩
    simp only[zC,seval,(show(k:Int)<t.threads.length by omega),h2,qah _ _ _ (show k<t.threads.length by omega),←eb]
    repeat((with_reducible apply aI);exact sdp)
    refine qad (Qiv _) ?_
    simp only[zC,seval]
    refine ifC.mk (fun hc=>?_) (fun hc=>?_)
    ·have hc:qgp b≠0:=by simpa using hc
     refine⟨_,_,qap,?_,rfl⟩
     rw[hb _ (show qip t.threads k=qgp b from by rw[qip,←eb,if_pos hc]) hc]
    ·have hc:¬qgp b≠0:=by simpa using hc
     have hat:qip t.threads k=if qeb (t.threads.take k) b.id=true then 4 else 0:=by rw[qip,←eb,if_neg hc]
     refine qan k (fun j=>[(1,.ptr 0 0),(3,.d (.int .i64 k)),(5,.d (.int .i64 j))]) (fun _=>[.box 10 (.d t.toD)]) (fun j=>(t.threads.take j).any (fun x=>x.id==b.id)=false) rfl ?_ ?_
     ·refine qaa [] [0] rfl (by simp) ?_ rfl
      simp only[zC,seval,Int.cast_ofNat_Int]
      all_goals rfl
     ·intro j hj hjk
      by_cases h5:j<k
      ·have hs:=qca (fun x:qaj=>x.id==b.id) t.threads j (by omega)
       simp only[zC,seval,(show(j:Int)<k by omega),h5,(show(j:Int)<t.threads.length by omega),(show j<t.threads.length by omega),qah _ _ _ (show j<t.threads.length by omega),(show(k:Int)<t.threads.length by omega),h2,qah _ _ _ (show k<t.threads.length by omega),←eb]
       repeat((with_reducible apply aI);exact sdp)
       refine ifC.mk (fun h6=>?_) (fun h6=>?_)
       ·refine⟨_,_,qap,?_,rfl⟩
        rw[hb 4 (by rw[hat,if_pos];unfold qeb;rw[List.any_eq_true];exact⟨t.threads.getD j default,qh3 h5 (by omega),h6⟩) (by omega)]
       ·refine⟨by rw[hs,hj,h6];rfl,?_⟩
        refine qaa [] [0] rfl (by simp) ?_ rfl
        simp only[zC,seval,@qaf ((j:Int)+1) (by omega)]
        all_goals rfl
      ·simp only[zC,seval,(show ¬(j:Int)<k by omega)]
       repeat((with_reducible apply aI);exact sdp)
       have hjk:j=k:=by omega
       subst hjk
       refine⟨qa4 hi (by rw[hat,if_neg (by unfold qeb;rw[hj];simp)]),?_⟩
       refine qaa [] [0] rfl (by simp) ?_ rfl
       simp only[zC,seval,@qaf ((j:Int)+1) (by omega)]
       all_goals rfl
   ·simp only[zC,seval,(show ¬(k:Int)<t.threads.length by omega)]
    have:k=t.threads.length:=by omega
    subst this
    rw[hi] at hT
    refine qad (Qu4 t ht) ?_
    simp only[zC,seval]
    refine⟨_,_,qap,?_,rfl⟩
    rw[hF,q69 t hT]
set_option maxHeartbeats 8000000 in
theorem q1q (t:qaw) (ht:t.Few):qba prog Gl 26 [.d t.toD] (.d (.int .i64 (qdo t))):=by
 refine qba.of1 ?_
 obtain⟨F,hF⟩:∃F,F=qdo t:=⟨_,rfl⟩
 rw[←hF]
 rw[qdo] at hF
 refine qac func26 rfl rfl (by simp[ntmps26]) (qab rfl _ _ _ _ ?_)
 simp only[ntmps26,results26,qak,List.length_nil]
 simp only[zC,seval]
 refine qad (Qiq t ht) ?_
 simp only[zC,seval]
 refine ifC.mk (fun h1=>?_) (fun h1=>?_)
 ·have h1:=bne_iff_ne.1 h1
  refine⟨_,_,qap,?_,rfl⟩
  rw[hF,if_pos h1]
 ·have h1:qey t=0:=by simpa using h1
  rw[if_neg (by rw[h1];simp)] at hF
  repeat((with_reducible apply aI);exact sdp)
  refine ifC.mk (fun h2=>?_) (fun h2=>?_)
  ·refine⟨_,_,qap,?_,rfl⟩
   rw[hF,if_pos h2]
  ·rw[if_neg (by rw[h2];simp)] at hF
   have hlk:=ht.slices
   obtain⟨Q,hQ⟩:∃Q:qag→Bool,Q=fun x=>qdx x.lo x.hi t.lo t.hi:=⟨_,rfl⟩
   refine qan t.slices.length (fun k=>[(1,.ptr 0 0),(4,.ptr 1 0),(5,.d (.bool ((t.slices.take k).all Q))),(6,.d (.int .i64 k))]) (fun _=>[.box 10 (.d t.toD),.box 2 (.d (.agg [.int .i64 t.lo,.int .i64 t.hi]))]) (fun _=>True) trivial ?_ ?_
   ·refine qaa [] [0,1] rfl (by simp) ?_ rfl
    simp only[zC,seval,Int.cast_ofNat_Int,List.take_zero,List.all_nil,Bool.and_true]
    all_goals rfl
   ·intro k _ hk
    by_cases h:k<t.slices.length
    ·have hs:=qdc Q t.slices k h
     obtain⟨b,eb⟩:∃b,b=t.slices.getD k default:=⟨_,rfl⟩
     rw[←eb] at hs
     have hQb:Q b=(qdx b.lo b.hi t.lo t.hi):=by rw[hQ]
     simp only[zC,seval,(show(k:Int)<t.slices.length by omega),h,qah _ _ _ (show k<t.slices.length by omega),←eb]
     repeat((with_reducible apply aI);exact sdp)
     refine qay (fun _=>quw _ _ _ _) ?_
     simp only[zC,seval,(show(k:Int)<t.slices.length by omega),h,qah _ _ _ (show k<t.slices.length by omega),←eb]
     repeat((with_reducible apply aI);exact sdp)
     refine qaa [] [0,1] rfl (by simp) ?_ rfl
     simp only[zC,seval,@qaf ((k:Int)+1) (by omega),hs,hQb,Bool.and_assoc]
     all_goals rfl
    ·have hkn:k=t.slices.length:=by omega
     subst hkn
     simp only[zC,seval,(show ¬(t.slices.length:Int)<t.slices.length by omega),List.take_length]
     subst hQ
     obtain⟨ok1,hok1⟩:∃ok1,ok1=(t.slices.all fun x=>qdx x.lo x.hi t.lo t.hi):=⟨_,rfl⟩
     rw[←hok1]
     repeat((with_reducible apply aI);exact sdp)
     have hlk:=ht.states
     obtain⟨Q,hQ⟩:∃Q:qax→Bool,Q=fun x=>qdx x.lo x.hi t.lo t.hi:=⟨_,rfl⟩
     refine qan t.states.length (fun k=>[(1,.ptr 0 0),(4,.ptr 1 0),(5,.d (.bool (ok1&&(t.states.take k).all Q))),(7,.d (.int .i64 k))]) (fun _=>[.box 10 (.d t.toD),.box 2 (.d (.agg [.int .i64 t.lo,.int .i64 t.hi]))]) (fun _=>True) trivial ?_ ?_
     ·refine qaa [] [0,1] rfl (by simp) ?_ rfl
      simp only[zC,seval,Int.cast_ofNat_Int,List.take_zero,List.all_nil,Bool.and_true]
      all_goals rfl
     ·intro k _ hk
      by_cases h:k<t.states.length
      ·have hs:=qdc Q t.states k h
       obtain⟨b,eb⟩:∃b,b=t.states.getD k default:=⟨_,rfl⟩
       rw[←eb] at hs
       have hQb:Q b=(qdx b.lo b.hi t.lo t.hi):=by rw[hQ]
       simp only[zC,seval,(show(k:Int)<t.states.length by omega),h,qah _ _ _ (show k<t.states.length by omega),←eb]
       repeat((with_reducible apply aI);exact sdp)
       refine qay (fun _=>quw _ _ _ _) ?_
       simp only[zC,seval,(show(k:Int)<t.states.length by omega),h,qah _ _ _ (show k<t.states.length by omega),←eb]
       repeat((with_reducible apply aI);exact sdp)
       refine qaa [] [0,1] rfl (by simp) ?_ rfl
       simp only[zC,seval,@qaf ((k:Int)+1) (by omega),hs,hQb,Bool.and_assoc]
       all_goals rfl
      ·have hkn:k=t.states.length:=by omega
       subst hkn
       simp only[zC,seval,(show ¬(t.states.length:Int)<t.states.length by omega),List.take_length]
       subst hQ
       obtain⟨ok2,hok2⟩:∃ok2,ok2=(ok1&&t.states.all fun x=>qdx x.lo x.hi t.lo t.hi):=⟨_,rfl⟩
       rw[←hok2]
       repeat((with_reducible apply aI);exact sdp)
       have hlk:=ht.blocks
       obtain⟨Q,hQ⟩:∃Q:qar→Bool,Q=fun x=>qdx x.lo x.hi t.lo t.hi:=⟨_,rfl⟩
       refine qan t.blocks.length (fun k=>[(1,.ptr 0 0),(4,.ptr 1 0),(5,.d (.bool (ok2&&(t.blocks.take k).all Q))),(8,.d (.int .i64 k))]) (fun _=>[.box 10 (.d t.toD),.box 2 (.d (.agg [.int .i64 t.lo,.int .i64 t.hi]))]) (fun _=>True) trivial ?_ ?_
       ·refine qaa [] [0,1] rfl (by simp) ?_ rfl
        simp only[zC,seval,Int.cast_ofNat_Int,List.take_zero,List.all_nil,Bool.and_true]
        all_goals rfl
       ·intro k _ hk
        by_cases h:k<t.blocks.length
        ·have hs:=qdc Q t.blocks k h
         obtain⟨b,eb⟩:∃b,b=t.blocks.getD k default:=⟨_,rfl⟩
         rw[←eb] at hs
         have hQb:Q b=(qdx b.lo b.hi t.lo t.hi):=by rw[hQ]
         simp only[zC,seval,(show(k:Int)<t.blocks.length by omega),h,qah _ _ _ (show k<t.blocks.length by omega),←eb]
         repeat((with_reducible apply aI);exact sdp)
         refine qay (fun _=>quw _ _ _ _) ?_
         simp only[zC,seval,(show(k:Int)<t.blocks.length by omega),h,qah _ _ _ (show k<t.blocks.length by omega),←eb]
         repeat((with_reducible apply aI);exact sdp)
         refine qaa [] [0,1] rfl (by simp) ?_ rfl
         simp only[zC,seval,@qaf ((k:Int)+1) (by omega),hs,hQb,Bool.and_assoc]
         all_goals rfl
        ·have hkn:k=t.blocks.length:=by omega
         subst hkn
         simp only[zC,seval,(show ¬(t.blocks.length:Int)<t.blocks.length by omega),List.take_length]
         subst hQ
         obtain⟨ok3,hok3⟩:∃ok3,ok3=(ok2&&t.blocks.all fun x=>qdx x.lo x.hi t.lo t.hi):=⟨_,rfl⟩
         rw[←hok3]
         repeat((with_reducible apply aI);exact sdp)
         have hlk:=ht.flows
         obtain⟨Q,hQ⟩:∃Q:qbf→Bool,Q=fun x=>qc4 t.lo t.hi x.send&&qc4 t.lo t.hi x.recv:=⟨_,rfl⟩
         refine qan t.flows.length (fun k=>[(1,.ptr 0 0),(4,.ptr 1 0),(5,.d (.bool (ok3&&(t.flows.take k).all Q))),(9,.d (.int .i64 k))]) (fun _=>[.box 10 (.d t.toD),.box 2 (.d (.agg [.int .i64 t.lo,.int .i64 t.hi]))]) (fun _=>True) trivial ?_ ?_
         ·refine qaa [] [0,1] rfl (by simp) ?_ rfl
          simp only[zC,seval,Int.cast_ofNat_Int,List.take_zero,List.all_nil,Bool.and_true]
          all_goals rfl
         ·intro k _ hk
          by_cases h:k<t.flows.length
          ·have hs:=qdc Q t.flows k h
           obtain⟨b,eb⟩:∃b,b=t.flows.getD k default:=⟨_,rfl⟩
           rw[←eb] at hs
           have hQb:Q b=(qc4 t.lo t.hi b.send&&qc4 t.lo t.hi b.recv):=by rw[hQ]
           simp only[zC,seval,(show(k:Int)<t.flows.length by omega),h,qah _ _ _ (show k<t.flows.length by omega),←eb]
           repeat((with_reducible apply aI);exact sdp)
           refine qay (fun _=>qnd _ _ _) ?_
           simp only[zC,seval,(show(k:Int)<t.flows.length by omega),h,qah _ _ _ (show k<t.flows.length by omega),←eb]
           repeat((with_reducible apply aI);exact sdp)
           refine qay (fun _=>qnd _ _ _) ?_
           simp only[zC,seval,(show(k:Int)<t.flows.length by omega),h,qah _ _ _ (show k<t.flows.length by omega),←eb]
           repeat((with_reducible apply aI);exact sdp)
           refine qaa [] [0,1] rfl (by simp) ?_ rfl
           simp only[zC,seval,@qaf ((k:Int)+1) (by omega),hs,hQb,Bool.and_assoc]
           all_goals rfl
          ·have hkn:k=t.flows.length:=by omega
           subst hkn
           simp only[zC,seval,(show ¬(t.flows.length:Int)<t.flows.length by omega),List.take_length]
           subst hQ
           obtain⟨ok4,hok4⟩:∃ok4,ok4=(ok3&&t.flows.all fun x=>qc4 t.lo t.hi x.send&&qc4 t.lo t.hi x.recv):=⟨_,rfl⟩
           rw[←hok4]
           repeat((with_reducible apply aI);exact sdp)
           have hlk:=ht.samples
           obtain⟨Q,hQ⟩:∃Q:qam→Bool,Q=fun x=>qc4 t.lo t.hi x.at_:=⟨_,rfl⟩
           refine qan t.samples.length (fun k=>[(1,.ptr 0 0),(4,.ptr 1 0),(5,.d (.bool (ok4&&(t.samples.take k).all Q))),(10,.d (.int .i64 k))]) (fun _=>[.box 10 (.d t.toD),.box 2 (.d (.agg [.int .i64 t.lo,.int .i64 t.hi]))]) (fun _=>True) trivial ?_ ?_
           ·refine qaa [] [0,1] rfl (by simp) ?_ rfl
            simp only[zC,seval,Int.cast_ofNat_Int,List.take_zero,List.all_nil,Bool.and_true]
            all_goals rfl
           ·intro k _ hk
            by_cases h:k<t.samples.length
            ·have hs:=qdc Q t.samples k h
             obtain⟨b,eb⟩:∃b,b=t.samples.getD k default:=⟨_,rfl⟩
             rw[←eb] at hs
             have hQb:Q b=(qc4 t.lo t.hi b.at_):=by rw[hQ]
             simp only[zC,seval,(show(k:Int)<t.samples.length by omega),h,qah _ _ _ (show k<t.samples.length by omega),←eb]
             repeat((with_reducible apply aI);exact sdp)
             refine qay (fun _=>qnd _ _ _) ?_
             simp only[zC,seval,(show(k:Int)<t.samples.length by omega),h,qah _ _ _ (show k<t.samples.length by omega),←eb]
             repeat((with_reducible apply aI);exact sdp)
             refine qaa [] [0,1] rfl (by simp) ?_ rfl
             simp only[zC,seval,@qaf ((k:Int)+1) (by omega),hs,hQb,Bool.and_assoc]
             all_goals rfl
            ·have hkn:k=t.samples.length:=by omega
             subst hkn
             simp only[zC,seval,(show ¬(t.samples.length:Int)<t.samples.length by omega),List.take_length]
             subst hQ
             obtain⟨ok5,hok5⟩:∃ok5,ok5=(ok4&&t.samples.all fun x=>qc4 t.lo t.hi x.at_):=⟨_,rfl⟩
             rw[←hok5]
             repeat((with_reducible apply aI);exact sdp)
             have hlk:=ht.steps
             obtain⟨Q,hQ⟩:∃Q:qa2→Bool,Q=fun x=>qc4 t.lo t.hi x.at_:=⟨_,rfl⟩
             refine qan t.steps.length (fun k=>[(1,.ptr 0 0),(4,.ptr 1 0),(5,.d (.bool (ok5&&(t.steps.take k).all Q))),(11,.d (.int .i64 k))]) (fun _=>[.box 10 (.d t.toD),.box 2 (.d (.agg [.int .i64 t.lo,.int .i64 t.hi]))]) (fun _=>True) trivial ?_ ?_
             ·refine qaa [] [0,1] rfl (by simp) ?_ rfl
              simp only[zC,seval,Int.cast_ofNat_Int,List.take_zero,List.all_nil,Bool.and_true]
              all_goals rfl
             ·intro k _ hk
              by_cases h:k<t.steps.length
              ·have hs:=qdc Q t.steps k h
               obtain⟨b,eb⟩:∃b,b=t.steps.getD k default:=⟨_,rfl⟩
               rw[←eb] at hs
               have hQb:Q b=(qc4 t.lo t.hi b.at_):=by rw[hQ]
               simp only[zC,seval,(show(k:Int)<t.steps.length by omega),h,qah _ _ _ (show k<t.steps.length by omega),←eb]
               repeat((with_reducible apply aI);exact sdp)
               refine qay (fun _=>qnd _ _ _) ?_
               simp only[zC,seval,(show(k:Int)<t.steps.length by omega),h,qah _ _ _ (show k<t.steps.length by omega),←eb]
               repeat((with_reducible apply aI);exact sdp)
               refine qaa [] [0,1] rfl (by simp) ?_ rfl
               simp only[zC,seval,@qaf ((k:Int)+1) (by omega),hs,hQb,Bool.and_assoc]
               all_goals rfl
              ·have hkn:k=t.steps.length:=by omega
               subst hkn
               simp only[zC,seval,(show ¬(t.steps.length:Int)<t.steps.length by omega),List.take_length]
               subst hQ
               obtain⟨ok6,hok6⟩:∃ok6,ok6=(ok5&&t.steps.all fun x=>qc4 t.lo t.hi x.at_):=⟨_,rfl⟩
               rw[←hok6]
               repeat((with_reducible apply aI);exact sdp)
               have hout:qm9 t=!ok6:=by
                rw[hok6,hok5,hok4,hok3,hok2,hok1,qm9]
                simp only[Bool.true_and,Bool.not_and,←List.not_any_eq_all_not,List.not_all_eq_any_not,Bool.or_assoc]
               refine ifC.mk (fun h9=>?_) (fun h9=>?_)
               ·refine⟨_,_,qap,?_,rfl⟩
                rw[hF,if_pos (by rw[hout];exact h9)]
               ·refine⟨_,_,qap,?_,rfl⟩
                rw[hF,if_neg (by rw[hout,h9];simp)]

def Qr8 (t:qaw):Bool:=!(decide (70<t.threads.length)||decide (30<t.slices.length)||decide (30<t.states.length)||decide (30<t.flows.length)||decide (30<t.samples.length)||decide (30<t.steps.length)||decide (30<t.blocks.length)||decide (30<t.lost.length))
def Qcn (t:qaw) (k:Nat):Bool:=!((decide ((k:Int)<(t.samples.length:Int))&&decide ((40:Int)<((t.samples.getD k default).stack.length:Int)))||(decide ((k:Int)<(t.blocks.length:Int))&&decide ((40:Int)<((t.blocks.getD k default).stack.length:Int))))
def Qnc (t:qaw):Bool:=Qr8 t&&(List.range 30).all (Qcn t)
theorem Qjm {t:qaw} (h:Qnc t=true):t.Few:=by
 unfold Qnc at h
 rw[Bool.and_eq_true] at h
 obtain⟨h1,h2⟩:=h
 unfold Qr8 at h1
 simp only[Bool.not_eq_true',Bool.or_eq_false_iff,decide_eq_false_iff_not] at h1
 obtain⟨⟨⟨⟨⟨⟨⟨a1,a2⟩,a3⟩,a4⟩,a5⟩,a6⟩,a7⟩,a8⟩:=h1
 rw[List.all_eq_true] at h2
 refine⟨by omega,by omega,by omega,by omega,by omega,by omega,by omega,by omega,fun x hx=>?_,fun x hx=>?_⟩
 ·obtain⟨k,hk,rfl⟩:=List.getElem_of_mem hx
  have:=h2 k (List.mem_range.2 (by omega))
  unfold Qcn at this
  have e:t.samples.getD k default=t.samples[k]:=by simp[hk]
  simp only[Bool.not_eq_true',Bool.or_eq_false_iff,Bool.and_eq_false_iff,decide_eq_false_iff_not,e] at this
  omega
 ·obtain⟨k,hk,rfl⟩:=List.getElem_of_mem hx
  have:=h2 k (List.mem_range.2 (by omega))
  unfold Qcn at this
  have e:t.blocks.getD k default=t.blocks[k]:=by simp[hk]
  simp only[Bool.not_eq_true',Bool.or_eq_false_iff,Bool.and_eq_false_iff,decide_eq_false_iff_not,e] at this
  omega
theorem Qvb (t:qaw):qba prog Gl 41 [.d t.toD,.d (.int .i64 30)] (.d (.bool (Qnc t))):=by
 refine qba.of2 ?_
 obtain⟨F,hF⟩:∃F,F=Qnc t:=⟨_,rfl⟩
 rw[←hF]
 rw[Qnc] at hF
 refine qac func41 rfl rfl (by simp[ntmps41]) (qab rfl _ _ _ _ ?_)
 simp only[ntmps41,results41,qak,List.length_nil]
 simp only[zU,seval]
 repeat((with_reducible apply aI);exact sdp)
 refine ifC.mk (fun h1=>?_) (fun h1=>?_)
 ·refine⟨_,_,qap,?_,rfl⟩
  have e:Qr8 t=false:=by
   unfold Qr8;rw[Bool.not_eq_false']
   simp only[Bool.or_eq_true,decide_eq_true_eq] at h1 ⊢
   omega
  rw[hF,e];rfl
 ·have e:Qr8 t=true:=by
   unfold Qr8;rw[Bool.not_eq_true']
   simp only[Bool.or_eq_false_iff,decide_eq_false_iff_not] at h1 ⊢
   omega
  rw[e,Bool.true_and] at hF
  have hlen:t.samples.length≤30∧t.blocks.length≤30:=by
   simp only[Bool.or_eq_false_iff,decide_eq_false_iff_not] at h1
   omega
  refine qan 30 (fun k=>[(1,.d (.int .i64 30)),(2,.ptr 0 0),(5,.d (.int .i64 k))]) (fun _=>[.box 10 (.d t.toD)]) (fun k=>(List.range k).all (Qcn t)=true) rfl ?_ ?_
  ·refine qaa [] [0] rfl (by simp) ?_ rfl
   simp only[zU,seval,Int.cast_ofNat_Int]
   all_goals rfl
  ·intro k hi hk
   by_cases h:k<30
   ·simp only[zU,seval,(show(k:Int)<30 by omega)]
    rcases Nat.lt_or_ge k t.samples.length with h2|h2<;>rcases Nat.lt_or_ge k t.blocks.length with h3|h3
    ·have hat:Qcn t k=!(decide ((40:Int)<((t.samples.getD k default).stack.length:Int))||decide ((40:Int)<((t.blocks.getD k default).stack.length:Int))):=by unfold Qcn;rw[decide_eq_true (show(k:Int)<(t.samples.length:Int) by omega),decide_eq_true (show(k:Int)<(t.blocks.length:Int) by omega)];simp only[Bool.true_and,Bool.false_and,Bool.false_or,Bool.or_false]
     simp only[zU,seval,(show(k:Int)<t.samples.length by omega),h2,qah _ _ _ (show k<t.samples.length by omega),(show(k:Int)<t.blocks.length by omega),h3,qah _ _ _ (show k<t.blocks.length by omega)]
     repeat((with_reducible apply aI);exact sdp)
     refine ifC.mk (fun h4=>?_) (fun h4=>?_)
     ·refine⟨_,_,qap,?_,rfl⟩
      rw[hF,qb8 h (by rw[hat,h4];rfl)]
     ·refine⟨h,by rw[qck,hi,hat,h4];rfl,?_⟩
      refine qaa [] [0] rfl (by simp) ?_ rfl
      simp only[zU,seval,@qaf ((k:Int)+1) (by omega)]
      all_goals rfl
    ·have hat:Qcn t k=!(decide ((40:Int)<((t.samples.getD k default).stack.length:Int))):=by unfold Qcn;rw[decide_eq_true (show(k:Int)<(t.samples.length:Int) by omega),decide_eq_false (show ¬(k:Int)<(t.blocks.length:Int) by omega)];simp only[Bool.true_and,Bool.false_and,Bool.false_or,Bool.or_false]
     simp only[zU,seval,(show(k:Int)<t.samples.length by omega),h2,qah _ _ _ (show k<t.samples.length by omega),(show ¬(k:Int)<t.blocks.length by omega)]
     repeat((with_reducible apply aI);exact sdp)
     refine ifC.mk (fun h4=>?_) (fun h4=>?_)
     ·refine⟨_,_,qap,?_,rfl⟩
      rw[hF,qb8 h (by rw[hat,h4];rfl)]
     ·refine⟨h,by rw[qck,hi,hat,h4];rfl,?_⟩
      refine qaa [] [0] rfl (by simp) ?_ rfl
      simp only[zU,seval,@qaf ((k:Int)+1) (by omega)]
      all_goals rfl
    ·have hat:Qcn t k=!(decide ((40:Int)<((t.blocks.getD k default).stack.length:Int))):=by unfold Qcn;rw[decide_eq_false (show ¬(k:Int)<(t.samples.length:Int) by omega),decide_eq_true (show(k:Int)<(t.blocks.length:Int) by omega)];simp only[Bool.true_and,Bool.false_and,Bool.false_or,Bool.or_false]
     simp only[zU,seval,(show ¬(k:Int)<t.samples.length by omega),(show(k:Int)<t.blocks.length by omega),h3,qah _ _ _ (show k<t.blocks.length by omega)]
     repeat((with_reducible apply aI);exact sdp)
     refine ifC.mk (fun h4=>?_) (fun h4=>?_)
     ·refine⟨_,_,qap,?_,rfl⟩
      rw[hF,qb8 h (by rw[hat,h4];rfl)]
     ·refine⟨h,by rw[qck,hi,hat,h4];rfl,?_⟩
      refine qaa [] [0] rfl (by simp) ?_ rfl
      simp only[zU,seval,@qaf ((k:Int)+1) (by omega)]
      all_goals rfl
    ·have hat:Qcn t k=!(false):=by unfold Qcn;rw[decide_eq_false (show ¬(k:Int)<(t.samples.length:Int) by omega),decide_eq_false (show ¬(k:Int)<(t.blocks.length:Int) by omega)];simp only[Bool.true_and,Bool.false_and,Bool.false_or,Bool.or_false]
     simp only[zU,seval,(show ¬(k:Int)<t.samples.length by omega),(show ¬(k:Int)<t.blocks.length by omega)]
     repeat((with_reducible apply aI);exact sdp)
     refine⟨by rw[qck,hi,hat];rfl,?_⟩
     refine qaa [] [0] rfl (by simp) ?_ rfl
     simp only[zU,seval,@qaf ((k:Int)+1) (by omega)]
     all_goals rfl
   ·simp only[zU,seval,(show ¬(k:Int)<30 by omega)]
    have:k=30:=by omega
    subst this
    refine⟨_,_,qap,?_,rfl⟩
    rw[hF,hi]
theorem Qwf (l:List qao) (t:qaw) (hl:l.length≤9223372036854775807):qba prog Gl 19 [.d (.sl (l.map qao.toD)),.d t.toD] (.d (.bool (decide (l.length≤50)&&Qnc t))):=by
 refine qba.of2 ?_
 refine qac func19 rfl rfl (by simp[ntmps19]) (qab rfl _ _ _ _ ?_)
 simp only[ntmps19,results19,qak,List.length_nil]
 simp only[zU,seval]
 repeat((with_reducible apply aI);exact sdp)
 by_cases h:l.length≤50
 ·rw[decide_eq_true h,Bool.true_and]
  simp only[zU,seval,(show(l.length:Int)≤50 by omega)]
  refine qay (fun _=>Qvb t) ?_
  simp only[zU,seval]
  repeat((with_reducible apply aI);exact sdp)
  refine⟨_,_,qap,?_,rfl⟩
  rfl
 ·rw[decide_eq_false h,Bool.false_and]
  simp only[zU,seval,(show ¬(l.length:Int)≤50 by omega)]
  refine qay (fun _=>Qvb t) ?_
  simp only[zU,seval]
  repeat((with_reducible apply aI);exact sdp)
  refine⟨_,_,qap,?_,rfl⟩
  rfl
theorem Qr7 {t:qaw} (h:Qnc t=true):t.lim∧t.limS∧(frN t).length≤2400:=by
 have hf:=Qjm h
 unfold Qnc at h
 rw[Bool.and_eq_true] at h
 obtain⟨h1,h2⟩:=h
 unfold Qr8 at h1
 simp only[Bool.not_eq_true',Bool.or_eq_false_iff,decide_eq_false_iff_not] at h1
 obtain⟨⟨⟨⟨⟨⟨⟨a1,a2⟩,a3⟩,a4⟩,a5⟩,a6⟩,a7⟩,a8⟩:=h1
 rw[List.all_eq_true] at h2
 have hS:∀x∈t.samples,x.stack.length≤40:=fun x hx=>by
  obtain⟨k,hk,rfl⟩:=List.getElem_of_mem hx
  have:=h2 k (List.mem_range.2 (by omega))
  unfold Qcn at this
  have e:t.samples.getD k default=t.samples[k]:=by simp[hk]
  simp only[Bool.not_eq_true',Bool.or_eq_false_iff,Bool.and_eq_false_iff,decide_eq_false_iff_not,e] at this
  omega
 have hB:∀x∈t.blocks,x.stack.length≤40:=fun x hx=>by
  obtain⟨k,hk,rfl⟩:=List.getElem_of_mem hx
  have:=h2 k (List.mem_range.2 (by omega))
  unfold Qcn at this
  have e:t.blocks.getD k default=t.blocks[k]:=by simp[hk]
  simp only[Bool.not_eq_true',Bool.or_eq_false_iff,Bool.and_eq_false_iff,decide_eq_false_iff_not,e] at this
  omega
 have fS:∀l:List qam,(∀x∈l,x.stack.length≤40)→((l.map (·.stack)).flatten).length≤l.length*40:=by
  intro l
  induction l with
  | nil=>intro _;simp
  | cons x l ih=>
   intro h
   have h1:=ih fun y hy=>h y (List.mem_cons_of_mem _ hy)
   have h2:=h x List.mem_cons_self
   simp only[List.map_cons,List.flatten_cons,List.length_append,List.length_cons];omega
 have fB:∀l:List qar,(∀x∈l,x.stack.length≤40)→((l.map (·.stack)).flatten).length≤l.length*40:=by
  intro l
  induction l with
  | nil=>intro _;simp
  | cons x l ih=>
   intro h
   have h1:=ih fun y hy=>h y (List.mem_cons_of_mem _ hy)
   have h2:=h x List.mem_cons_self
   simp only[List.map_cons,List.flatten_cons,List.length_append,List.length_cons];omega
 have q1:=fS _ hS
 have q2:=fB _ hB
 refine⟨⟨by omega,by omega,by omega,by omega,by omega,by omega,by omega,by omega⟩,⟨fun x hx=>?_,fun x hx=>?_⟩,?_⟩
 ·have:=hS x hx;omega
 ·have:=hB x hx;omega
 ·rw[frN,List.length_append];omega

theorem Qg5 {P:Program} {f:FuncId} {args:List AV} {σ:Sto} {R R':AV→Sto→Prop} (h:qal P Gl f args σ R) (hw:∀r s,R r s→∃r' s',qcz σ.length r s r' s'∧R' r' s'):qal P Gl f args σ R':=
 fun w I μ vals h1 h2 h3 h4=>(h w I μ vals h1 h2 h3 h4).mono fun v w' q=>by
  obtain⟨r,s,I',μ',q1,q2,q3,q4⟩:=q
  obtain⟨r',s',g1,g2⟩:=hw r s q4
  obtain⟨I2,μ2,k1,k2,k3⟩:=g1 w' I' μ' v q1 q3 q2.len
  exact⟨r',s',I2,μ2,k1,q2.trans k3,k2,g2⟩
def Qrg (a b c d:Option D) (n:List UInt8):Option D:=if n=qau then a else if n=qa6 then b else if n=qa7 then c else if n=qat then d else none
def q7h (p:Bool) (s:List (List UInt8)):Option D:=if p=true then some (.sl (s.map .str)) else none
def gN (t:qaw):List UInt8→Option D:=Qrg (q7h (decide (0<t.threads.length)) (t.threads.map (·.name))) (q7h (decide (0<t.slices.length)) (t.slices.map (·.name))) (q7h (decide (0<t.samples.length+t.blocks.length)) (frN t)) (q7h (decide (0<t.steps.length)) (t.steps.map (·.name)))
def kN (t:qaw):Key→Option AV:=qb4 ((q7h (decide (0<t.threads.length)) (t.threads.map (·.name))).map .d) ((q7h (decide (0<t.slices.length)) (t.slices.map (·.name))).map .d) ((q7h (decide (0<t.samples.length+t.blocks.length)) (frN t)).map .d) ((q7h (decide (0<t.steps.length)) (t.steps.map (·.name))).map .d)
theorem Qxd (t:qaw) (n:List UInt8):kN t (.s n)=(gN t n).map AV.d:=by
 unfold kN gN Qrg
 simp only[qb4]
 repeat' split
 all_goals rfl
theorem Qb9 (t:qaw):∀k v,kN t k=some v→∃d,v=AV.d d:=by
 intro k v hv
 cases k with
 | i n=>cases hv
 | s n=>
  rw[Qxd] at hv
  cases hg:gN t n with
  | none=>rw[hg] at hv;cases hv
  | some d=>rw[hg] at hv;cases hv;exact⟨d,rfl⟩
theorem q9x:∀{a b:List (List UInt8)},a.map D.str=b.map D.str→a=b:=by
 intro a
 induction a with
 | nil=>intro b h;cases b with|nil=>rfl|cons _ _=>simp at h
 | cons x a ih=>intro b h;cases b with
  | nil=>simp at h
  | cons y b=>simp only[List.map_cons,List.cons.injEq,D.str.injEq] at h;rw[h.1,ih h.2]
theorem Qmi (t:qaw) (ht:t.lim) (hs:t.limS):qal prog Gl 44 [.d t.toD] [] (fun r s=>r=.mapr 0∧s=[.map none (kN t)]):=by
 refine Qg5 (Qmj t ht hs) fun r s hr=>?_
 obtain⟨rfl,rfl⟩:=hr
 refine⟨.mapr 0,[.map none (kN t)],?_,rfl,rfl⟩
 obtain⟨b1,hb1⟩:∃b,b=decide (0<t.threads.length):=⟨_,rfl⟩
 obtain⟨b2,hb2⟩:∃b,b=decide (0<t.slices.length):=⟨_,rfl⟩
 obtain⟨b3,hb3⟩:∃b,b=decide (0<t.samples.length+t.blocks.length):=⟨_,rfl⟩
 obtain⟨b4,hb4⟩:∃b,b=decide (0<t.steps.length):=⟨_,rfl⟩
 unfold kN
 rw[←hb1,←hb2,←hb3,←hb4]
 refine(Qk7 (Qfm 0 [1,2,3,4] rfl (by simp) ?_ ?_)).trans ?_
 ·intro k v hv
  cases k with
  | i n=>cases hv
  | s n=>
   simp only[qb4] at hv
   have fin:∀(p:Bool) (i n:Nat) (σ:Sto),(qae σ i).isArr=true→i∈[1,2,3,4]→val p i n=some v→v.isD σ=true∧∀j∈v.refs,j∈[1,2,3,4]:=fun p i n σ ha hi hv=>by
    cases p with
    | false=>cases hv
    | true=>
     cases hv
     refine⟨ha,fun j hj=>?_⟩
     simp only[AV.refs,q7b,List.mem_singleton] at hj
     rw[hj];exact hi
   split at hv
   ·exact fin _ _ _ _ rfl (by decide) hv
   split at hv
   ·exact fin _ _ _ _ rfl (by decide) hv
   split at hv
   ·exact fin _ _ _ _ rfl (by decide) hv
   split at hv
   ·exact fin _ _ _ _ rfl (by decide) hv
   ·cases hv
 ·intro i hi
  simp only[List.mem_cons,List.not_mem_nil,or_false] at hi
  rcases hi with rfl|rfl|rfl|rfl<;>rfl
 ·rw[qe5]
  refine qai [] [0] rfl (by simp) rfl ?_
  have e:∀(p:Bool) (i:Nat) (xs:List (List UInt8)) (n:Nat) (σ:Sto),n=xs.length→(qae σ i).xs=xs.map .str→(val p i n).map (fun v=>AV.d (v.toD σ))=(q7h p xs).map .d:=fun p i xs n σ hn hx=>by
   cases p with
   | false=>rfl
   | true=>
    show some (AV.d (.sl (((qae σ i).xs.drop 0).take n)))=some (AV.d (.sl (xs.map .str)))
    rw[hx,List.drop_zero,List.take_of_length_le (by simp[hn])]
  show[qbx _ _ (.map none (qb4 _ _ _ _))]=_
  rw[e b1 1 (t.threads.map (·.name)) _ _ (by simp) rfl,e b2 2 (t.slices.map (·.name)) _ _ (by simp) rfl,e b3 3 (frN t) _ _ rfl rfl,e b4 4 (t.steps.map (·.name)) _ _ (by simp) rfl]
  refine congrArg (fun x=>[x]) (qg9 (B:=.map none _) (fun k v hv=>?_) _ _)
  cases k with
  | i n=>cases hv
  | s n=>
   simp only[qb4] at hv
   have fin:∀(o:Option D),o.map AV.d=some v→∃d,v=.d d:=fun o ho=>by
    cases o with
    | none=>cases ho
    | some d=>cases ho;exact⟨d,rfl⟩
   split at hv
   ·exact fin _ hv
   split at hv
   ·exact fin _ hv
   split at hv
   ·exact fin _ hv
   split at hv
   ·exact fin _ hv
   ·cases hv
def okN (l:List qao) (what x:List UInt8):Bool:=qlq x||(qns what x l==qhx)
def qvm (l:List qao) (t:qaw):Bool:=(t.threads.map (·.name)).all (okN l qau)&&(t.slices.map (·.name)).all (okN l qa6)&&(frN t).all (okN l qa7)&&(t.steps.map (·.name)).all (okN l qat)
def Qvf (l:List qao) (t:qaw) (what:List UInt8):Prop:=∀xs:List (List UInt8),gN t what=some (.sl (xs.map .str))→xs.all (okN l what)=true
theorem Qjg (t:qaw) {what:List UInt8} {x:D} (h:gN t what=some x):∃xs:List (List UInt8),x=.sl (xs.map .str)∧(what=qau∧xs=t.threads.map (·.name)∨what=qa6∧xs=t.slices.map (·.name)∨what=qa7∧xs=frN t∨what=qat∧xs=t.steps.map (·.name)):=by
 have fin:∀(p:Bool) (s:List (List UInt8)),q7h p s=some x→x=.sl (s.map .str):=fun p s ho=>by
  cases p with
  | false=>cases ho
  | true=>cases ho;rfl
 unfold gN Qrg at h
 split at h
 ·rename_i e;exact⟨_,fin _ _ h,.inl ⟨e,rfl⟩⟩
 split at h
 ·rename_i e;exact⟨_,fin _ _ h,.inr (.inl ⟨e,rfl⟩)⟩
 split at h
 ·rename_i e;exact⟨_,fin _ _ h,.inr (.inr (.inl ⟨e,rfl⟩))⟩
 split at h
 ·rename_i e;exact⟨_,fin _ _ h,.inr (.inr (.inr ⟨e,rfl⟩))⟩
 ·cases h
theorem Qxp (t:qaw):gN t qau=q7h (decide (0<t.threads.length)) (t.threads.map (·.name)):=rfl
theorem Qxo (t:qaw):gN t qa6=q7h (decide (0<t.slices.length)) (t.slices.map (·.name)):=rfl
theorem Qxn (t:qaw):gN t qa7=q7h (decide (0<t.samples.length+t.blocks.length)) (frN t):=rfl
theorem Qxm (t:qaw):gN t qat=q7h (decide (0<t.steps.length)) (t.steps.map (·.name)):=rfl
theorem Qnm {l:List qao} {t:qaw} (h:∀what x,gN t what=some x→Qvf l t what):qvm l t=true:=by
 have fin:∀(what:List UInt8) (p:Bool) (s:List (List UInt8)),gN t what=q7h p s→(p=false→s=[])→s.all (okN l what)=true:=fun what p s hg hp=>by
  cases p with
  | false=>rw[hp rfl];rfl
  | true=>exact h what (.sl (s.map .str)) hg s hg
 rw[qvm,fin _ _ _ (Qxp t) (fun h=>qn9 _ h),fin _ _ _ (Qxo t) (fun h=>qn9 _ h),fin _ _ _ (Qxn t) (fun h=>Qji h),fin _ _ _ (Qxm t) (fun h=>qn9 _ h)]
 rfl
theorem Qwp {p:List UInt8→Bool} {xs:List (List UInt8)} {k:Nat} (h:k<xs.length) (hp:p (xs.getD k default)=false):xs.all p=false:=by
 rw[Bool.eq_false_iff]
 intro ha
 have:=(List.all_eq_true.1 ha) (xs.getD k default) (qcd h)
 rw[hp] at this;cases this
theorem Qsk {l:List qao} {t:qaw} {what:List UInt8} {xs:List (List UInt8)} (h:what=qau∧xs=t.threads.map (·.name)∨what=qa6∧xs=t.slices.map (·.name)∨what=qa7∧xs=frN t∨what=qat∧xs=t.steps.map (·.name)) (ha:xs.all (okN l what)=false):qvm l t=false:=by
 rcases h with⟨rfl,rfl⟩|⟨rfl,rfl⟩|⟨rfl,rfl⟩|⟨rfl,rfl⟩<;>simp[qvm,ha]
def Qxa (t:qaw):Prop:=∀(what:List UInt8) (xs:List (List UInt8)),gN t what=some (.sl (xs.map .str))→xs.length<1000000∧∀x∈xs,x.length<9223372036854775808
theorem Qix (l:List qao) (t:qaw) (hl:l.length<1000000) (ht:t.lim) (hs:t.limS) (hn:Qxa t):qba prog Gl 23 [.d (.sl (l.map qao.toD)),.d t.toD] (.d (.bool (qvm l t))):=by
 refine qba.of2 ?_
 refine qac func23 rfl rfl (by simp[ntmps23]) (AWp.seq (qab rfl _ _ _ _ ?_))
 simp only[ntmps23,results23,qak,List.length_nil]
 simp only[zU,seval]
 refine AWp.seq (Qe2 (tM:=10) (tI:=11) (tN:=12) (tB:=13) (tE:=14) (t:=77) (e:=28) ?_ ?_ ?_ ?_ ?_ ?_ ?_ ?_ ?_ (show 11<34 by decide) (show 12<34 by decide) (show 14<34 by decide) (by kernel_rfl) ?_)
 rotate_left 9
 ·obtain⟨L,hL⟩:∃L,L=D.sl (l.map qao.toD):=⟨_,rfl⟩
  refine qdn (K1:=fun e1 s1=>qgm 34 0 e1 s1 [(0,.d (.sl (l.map qao.toD))),(10,.mapr 0)] [.map none (kN t)]) (fun e1 s1 hw=>⟨_,_,0,kN t,gN t,[(0,.d (.sl (l.map qao.toD))),(11,.ptr 1 0)],[.dead,.frz 0 []],Qvf l t,hw,rfl,rfl,Qxd t,?wk,rfl,rfl,fun b=>?nx,fun what x hx=>?bd,fun hall=>?en⟩) _ _ _ ?op
  case wk=>
   refine qaa [] [0,1] rfl (by simp) ?_ rfl
   simp only[zU,seval,List.length_cons,List.length_nil]
   try rfl
  case nx=>
   refine qdn (K1:=fun e1 s1=>e1=putE (putE [(0,.d (.sl (l.map qao.toD))),(11,.ptr 1 0)] (some 12) (if b=true then .tup [.d (.bool true),.undef,.undef] else .tup [.d (.bool false)])) (some 13) (.d (.bool b))∧s1=[.dead,.frz 0 []]) (fun e1 s1 hw=>?_) _ _ _ ?_
   ·obtain⟨rfl,rfl⟩:=hw
    refine⟨rfl,?_⟩
    refine qaa [] [0,1] rfl (by simp) ?_ rfl
    cases b<;>rfl
   ·cases b
    ·simp only[zU,seval]
    ·simp only[zU,seval]
  case bd=>
   obtain⟨xs,rfl,hcase⟩:=Qjg t hx
   obtain⟨hn1,hn2⟩:=hn what xs hx
   refine qdn (K1:=fun e1 s1=>qgm 34 2 e1 s1 [(0,.d (.sl (l.map qao.toD))),(5,.d (.str what)),(6,.d (.sl (xs.map .str))),(11,.ptr 1 0)] [.dead,.frz 0 []]) (fun e1 s1 hw=>?_) _ _ _ ?_
   ·refine AWp.weak hw (qab rfl _ _ _ _ ?_)
    simp only[zU,seval]
    refine qan xs.length (fun k=>[(0,.d (.sl (l.map qao.toD))),(5,.d (.str what)),(11,.ptr 1 0),(17,.d (.sl (xs.map .str))),(18,.d (.int .i64 xs.length)),(19,.d (.int .i64 k))]) (fun _=>[.dead,.frz 0 []]) (fun k=>(xs.take k).all (okN l what)=true) rfl ?_ ?_
    ·refine qaa [] [0,1] rfl (by simp) ?_ rfl
     simp only[zU,seval]
     all_goals rfl
    ·intro k hi hk
     by_cases h:k<xs.length
     ·have hxk:=hn2 (xs.getD k default) (qcd h)
      simp only[zU,seval,(show(k:Int)<xs.length by omega),h,qah _ _ _ (show k<xs.length by omega)]
      repeat((with_reducible apply aI);exact sdp)
      refine qad (Qea _ hxk) ?_
      simp only[zU,seval]
      repeat((with_reducible apply aI);exact sdp)
      refine qay (fun _=>qgu l what _ hl) ?_
      simp only[zU,seval]
      repeat((with_reducible apply aI);exact sdp)
      have hstep:(xs.take (k+1)).all (okN l what)=okN l what (xs.getD k default):=by rw[qa0 xs k h,List.all_append,hi];simp
      refine ifC.mk (fun hc=>?_) (fun hc=>?_)
      ·have hc:okN l what (xs.getD k default)=false:=by
        unfold okN
        cases e1:qlq (xs.getD k default)<;>simp_all [qhx]
       refine⟨_,_,qap,?_,rfl⟩
       rw[Qsk hcase (Qwp h hc)]
      ·have hc:okN l what (xs.getD k default)=true:=by
        unfold okN
        cases e1:qlq (xs.getD k default)<;>simp_all [qhx]
       refine⟨by rw[hstep];exact hc,?_⟩
       refine qaa [] [0,1] rfl (by simp) ?_ rfl
       simp only[zU,seval,@qaf ((k:Int)+1) (by omega)]
       all_goals rfl
     ·have:k=xs.length:=by omega
      subst this
      rw[List.take_length] at hi
      simp only[zU,seval,(show ¬(xs.length:Int)<xs.length by omega)]
      refine⟨fun ys hy=>?_,?_⟩
      ·have e:=D.sl.inj (Option.some.inj (hx.symm.trans hy))
       rw[←q9x e];exact hi
      ·refine qaa [] [0,1] rfl (by simp) ?_ rfl
       simp only[zU,seval]
       all_goals rfl
   ·simp only[zU,seval]
    refine qaa [] [0,1] rfl (by simp) ?_ rfl
    simp only[zU,seval]
    all_goals rfl
  case en=>
   show AWp _ _ _ _ _ _ _ _
   refine qab rfl _ _ _ _ ?_
   simp only[zU,seval]
   refine⟨_,_,qap,?_,rfl⟩
   rw[Qnm hall]
  case op=>
   simp only[zU,seval]
   refine qb1 (R:=fun r ν=>r=.mapr 0∧ν=[.map none (kN t)]) [] [] (by simp) (by simp) rfl rfl (fun j i h=>by simp at h) ((Qmi t ht hs).mono fun r s hr=>⟨s,by rw[List.nil_append],hr.1,hr.2⟩) (fun r ν hr=>?_)
   obtain⟨rfl,rfl⟩:=hr
   rw[show([.map none (kN t)]:Sto).map (qdg (qb3 [] ([Blk.box 10 (.d t.toD)]:Sto).length))=[.map none (kN t)] from congrArg (fun x=>[x]) (qha (B:=.map none (kN t)) (Qb9 t) _)]
   simp only[zU,seval]
   refine qaa [] [1] rfl (by simp) ?_ ?_
   ·simp only[zU,seval]
    try rfl
   ·exact congrArg (fun x=>[x]) (qg9 (B:=.map none (kN t)) (Qb9 t) _ _)
 all_goals rfl

def qqf:List (List UInt8):=[qau,qa6,qa7,qat]
def q85 (t:qaw):Nat→List (List UInt8)
 | 0=>t.threads.map (·.name)
 | 1=>t.slices.map (·.name)
 | 2=>frN t
 | _=>t.steps.map (·.name)
theorem Qvc (t:qaw) (ht:t.lim) (hs:t.limS) (k:Nat) (hk:k<4):qba prog Gl 48 [.d t.toD,.d (.str (qqf.getD k default))] (.d (.sl ((q85 t k).map .str))):=by
 match k,hk with
 | 0,_=>exact Qp7 t ht hs
 | 1,_=>exact Qp8 t ht hs
 | 2,_=>exact Qp9 t ht hs
 | 3,_=>exact Qqa t ht hs
def Qv2 (t:qaw):Prop:=∀k,k<4→(q85 t k).length<1000000∧∀x∈q85 t k,x.length<9223372036854775808
theorem Qhr {t:qaw} (h:Qv2 t):Qxa t:=fun what xs hg=>by
 obtain⟨ys,e,hc⟩:=Qjg t hg
 have e2:xs=ys:=q9x (D.sl.inj e)
 subst e2
 rcases hc with⟨_,rfl⟩|⟨_,rfl⟩|⟨_,rfl⟩|⟨_,rfl⟩
 ·exact h 0 (by omega)
 ·exact h 1 (by omega)
 ·exact h 2 (by omega)
 ·exact h 3 (by omega)

def Qk9 (l:List qao) (t:qaw):qaw×Int:=
 if qht l≠0 then(qhu,qht l) else if qdo t≠0 then(qhu,qdo t)
 else if qnj l (q6x l t)=true then(qhu,4) else(q8l (Qkv l (q6x l t)),0)
def quq (l:List qao) (t2:qaw) (k:Nat):Bool:=!qfh l (qqf.getD k default) (q85 t2 k)
theorem Qqn (l:List qao) (t2:qaw):qnj l t2=!((List.range 4).all (quq l t2)):=by
 rw[qnj]
 show _=!([0,1,2,3].all (quq l t2))
 simp only[List.all_cons,List.all_nil,Bool.and_true,quq,Bool.not_and,Bool.not_not]
 rw[Bool.or_assoc,Bool.or_assoc]
 rfl
theorem Qmw (l:List qao) (t:qaw) (hl:l.length<1000000) (hf:t.Few) (ht:t.lim) (hs:t.limS) (hg:qdo t=0→qe8 t.slices) (h2l:(q6x l t).lim) (h2s:(q6x l t).limS) (h2f:(frN (q6x l t)).length<1000000) :
  qba prog Gl 21 [.d (.sl (l.map qao.toD)),.d t.toD] (.tup [.d (Qk9 l t).1.toD,.d (.int .i64 (Qk9 l t).2)]):=by
 refine qba.of2t2 ?_
 refine qac func21 rfl rfl (by simp[ntmps21]) (qab rfl _ _ _ _ ?_)
 simp only[ntmps21,results21,qak,List.length_nil]
 simp only[zU,seval]
 refine qad (Qu9 l hl) ?_
 simp only[zU,seval]
 refine ifC.mk (fun h0=>?_) (fun h0=>?_)
 ·have h0:qht l≠0:=by simpa using h0
  refine⟨_,_,qcq rfl (x:=qhu.toD) rfl,?_,rfl⟩
  rw[Qk9,if_pos h0]
 have h0:qht l=0:=by simpa using h0
 (try simp only[zU,seval])
 refine qad (q1q t hf) ?_
 simp only[zU,seval]
 refine ifC.mk (fun h1=>?_) (fun h1=>?_)
 ·have h1:qdo t≠0:=by simpa using h1
  refine⟨_,_,qcq rfl (x:=qhu.toD) rfl,?_,rfl⟩
  rw[Qk9,if_neg (by rw[h0];simp),if_pos h1]
 have h1:qdo t=0:=by simpa using h1
 have e0:Qk9 l t=if qnj l (q6x l t)=true then(qhu,4) else(q8l (Qkv l (q6x l t)),0):=by rw[Qk9,if_neg (by rw[h0];simp),if_neg (by rw[h1];simp)]
 rw[e0]
 (try simp only[zU,seval])
 refine qad (q7q l t hl ht hs (hg h1)) ?_
 obtain⟨t2,ht2⟩:∃t2,t2=q6x l t:=⟨_,rfl⟩
 rw[←ht2] at h2l h2s h2f ⊢
 clear ht2 e0
 simp only[zU,seval]
 refine qad Qrw ?_
 simp only[zU,seval]
 have hkl:qqf.length=4:=rfl
 refine qan 4 (fun k=>[(0,.d (.sl (l.map qao.toD))),(4,.ptr 0 0),(7,.ptr 1 0),(8,.d (.sl (qqf.map .str))),(9,.d (.int .i64 k))]) (fun _=>[.box 10 zT,.box 10 (.d t2.toD)]) (fun k=>((List.range k).all (quq l t2))=true) rfl ?_ ?_
 ·refine qaa [] [1,2] rfl (by simp) ?_ ?_
  ·simp only[zU,seval]
   try rfl
  ·simp only[zU,seval]
   try rfl
 intro k hi hk
 by_cases h:k<4
 ·have eg:(qqf.map D.str).getD k default=.str (qqf.getD k default):=qah _ _ _ (by omega)
  have hAll:=Qvc (Gl:=Gl) t2 h2l h2s k h
  have hnl:(q85 t2 k).length<1000000:=by
   obtain⟨g1,g2,g3,g4,g5,g6,g7,g8⟩:=h2l
   match k,h with
   | 0,_=>show(t2.threads.map _).length<_;rw[List.length_map];omega
   | 1,_=>show(t2.slices.map _).length<_;rw[List.length_map];omega
   | 2,_=>exact h2f
   | 3,_=>show(t2.steps.map _).length<_;rw[List.length_map];omega
  have hstep:=qck (quq l t2) k
  rw[hi,Bool.true_and] at hstep
  have hbad:=fun hb=>qb8 (p:=quq l t2) (n:=4) h hb
  have hko:quq l t2 k=!qfh l (qqf.getD k default) (q85 t2 k):=rfl
  obtain⟨K,hK⟩:∃K,K=qqf.getD k default:=⟨_,rfl⟩
  obtain⟨N,hN⟩:∃N,N=q85 t2 k:=⟨_,rfl⟩
  rw[←hK] at eg hAll hko
  rw[←hN] at hAll hnl hko
  simp only[zU,seval,(show(k:Int)<4 by omega),hkl,h,eg]
  repeat((with_reducible apply aI);exact sdp)
  refine qad hAll ?_
  simp only[zU,seval]
  refine qad (Qee l K N hl hnl) ?_
  simp only[zU,seval]
  refine ifC.mk (fun hc=>?_) (fun hc=>?_)
  ·refine⟨_,_,qcq rfl (x:=qhu.toD) rfl,?_,rfl⟩
   rw[Qqn,hbad (by rw[hko,hc];rfl)];rfl
  ·refine⟨by rw[hstep,hko,hc];rfl,?_⟩
   refine qaa [] [0,1] rfl (by simp) ?_ rfl
   simp only[zU,seval,@qaf ((k:Int)+1) (by omega)]
   all_goals rfl
 have:k=4:=by omega
 subst this
 rw[Qqn,hi]
 simp only[zU,seval,hkl]
 refine qad (Qrn l t2 hl h2l h2s h2f) ?_
 have hTl:(Qkv l t2).lim:=by
  obtain⟨g1,g2,g3,g4,g5,g6,g7,g8⟩:=h2l
  refine⟨?_,?_,g3,g4,?_,?_,?_,g8⟩
  ·show(t2.threads.map _).length≤_;rw[List.length_map];exact g1
  ·show(t2.slices.map _).length≤_;rw[List.length_map];exact g2
  ·show(t2.samples.map _).length≤_;rw[List.length_map];exact g5
  ·show(qfv _ _).length≤_;rw[qfo,List.length_map];exact g6
  ·show(t2.blocks.map _).length≤_;rw[List.length_map];exact g7
 obtain⟨T,hT⟩:∃T,T=Qkv l t2:=⟨_,rfl⟩
 rw[←hT] at hTl ⊢
 clear hT
 simp only[zU,seval]
 refine qad (Qmu T hTl) ?_
 simp only[zU,seval]
 have er:q99 T=q27 T:=rfl
 refine ifC.mk (fun h3=>?_) (fun h3=>?_)
 ·have h3:q27 T=0:=by rw[er] at h3;simpa using h3
  (try simp only[zU,seval])
  repeat((with_reducible apply aI);exact sdp)
  refine⟨_,_,qcq rfl (x:=(q8l T).toD) ?_,?_,rfl⟩
  ·rw[q8l,if_pos h3];rfl
  ·rfl
 ·have h3:¬q27 T=0:=by rw[er] at h3;simpa using h3
  (try simp only[zU,seval])
  repeat((with_reducible apply aI);exact sdp)
  refine⟨_,_,qcq rfl (x:=(q8l T).toD) ?_,?_,rfl⟩
  ·rw[q8l,if_neg h3];rfl
  ·rfl

theorem qub (a:qaj):qf4 prog 55 .neq (.d a.toD) (.d a.toD)=True:=eq_true (by
 refine(show True∧(match qlx prog 55 with|some l=>qke l _ _=true|none=>False) from⟨trivial,?_⟩)
 rw[Qtg];rfl)
theorem qwx (a:qaj):q60 .neq (.d a.toD) (.d a.toD)=.d (.bool false):=by
 show AV.d (.bool (!(qhs [.int .i64 a.id,.str a.name,.int .i64 a.dom] [.int .i64 a.id,.str a.name,.int .i64 a.dom])))=_
 simp[qhs,D.beq1]
theorem qzs (a:qag):qf4 prog 57 .neq (.d a.toD) (.d a.toD)=True:=eq_true (by
 refine(show True∧(match qlx prog 57 with|some l=>qke l _ _=true|none=>False) from⟨trivial,?_⟩)
 rw[Qol];rfl)
theorem q2v (a:qag):q60 .neq (.d a.toD) (.d a.toD)=.d (.bool false):=by
 show AV.d (.bool (!(qhs [.int .i64 a.thread,.int .i64 a.parent,.int .i64 a.depth,.str a.name,.int .i64 a.lo,.int .i64 a.hi,.int .i64 a.self,.bool a.open_] [.int .i64 a.thread,.int .i64 a.parent,.int .i64 a.depth,.str a.name,.int .i64 a.lo,.int .i64 a.hi,.int .i64 a.self,.bool a.open_])))=_
 simp[qhs,D.beq1]
theorem q47 (a:qbf):qf4 prog 87 .neq (.d a.toD) (.d a.toD)=True:=eq_true (by
 refine(show True∧(match qlx prog 87 with|some l=>qke l _ _=true|none=>False) from⟨trivial,?_⟩)
 rw[Qtd];rfl)
theorem q9s (a:qbf):q60 .neq (.d a.toD) (.d a.toD)=.d (.bool false):=by
 show AV.d (.bool (!(qhs [.int .i64 a.id,.int .i64 a.ft,.int .i64 a.fs,.int .i64 a.tt,.int .i64 a.ts,.int .i64 a.send,.int .i64 a.recv] [.int .i64 a.id,.int .i64 a.ft,.int .i64 a.fs,.int .i64 a.tt,.int .i64 a.ts,.int .i64 a.send,.int .i64 a.recv])))=_
 simp[qhs,D.beq1]
theorem q45 (a:qa2):qf4 prog 89 .neq (.d a.toD) (.d a.toD)=True:=eq_true (by
 refine(show True∧(match qlx prog 89 with|some l=>qke l _ _=true|none=>False) from⟨trivial,?_⟩)
 rw[Qtc];rfl)
theorem q9q (a:qa2):q60 .neq (.d a.toD) (.d a.toD)=.d (.bool false):=by
 show AV.d (.bool (!(qhs [.str a.name,.int .i64 a.at_,.int .i64 a.value] [.str a.name,.int .i64 a.at_,.int .i64 a.value])))=_
 simp[qhs,D.beq1]
theorem q46 (a:qbr):qf4 prog 66 .neq (.d a.toD) (.d a.toD)=True:=eq_true (by
 refine(show True∧(match qlx prog 66 with|some l=>qke l _ _=true|none=>False) from⟨trivial,?_⟩)
 rw[Qte];rfl)
theorem q9r (a:qbr):q60 .neq (.d a.toD) (.d a.toD)=.d (.bool false):=by
 show AV.d (.bool (!(qhs [.int .i64 a.thread,.int .i64 a.lo,.int .i64 a.hi,.int .i64 a.count] [.int .i64 a.thread,.int .i64 a.lo,.int .i64 a.hi,.int .i64 a.count])))=_
 simp[qhs,D.beq1]
theorem Qmt (t:qaw) (ht:t.lim) (hs:t.limS):qba prog Gl 22 [.d t.toD,.d t.toD] (.d (.bool true)):=by
 refine qba.of2 ?_
 obtain⟨h1,h2,h3,h4,h5,h6,h7,h8⟩:=id ht
 refine qac func22 rfl rfl (by simp[ntmps22]) (qab rfl _ _ _ _ ?_)
 simp only[ntmps22,results22,qak,List.length_nil]
 simp only[zU,seval]
 (try simp only[zU,seval,bne_self_eq_false,beq_self_eq_true,Bool.and_self,Bool.not_true])
 repeat((with_reducible apply aI);exact sdp)
 (try simp only[zU,seval,bne_self_eq_false,beq_self_eq_true,Bool.and_self,Bool.not_true])
 refine qay (v:=.d (.bool true)) (fun _=>by have:=Qiw (Gl:=Gl) t.states t.states (by omega) (by omega);rwa [beq_self_eq_true] at this) ?_
 simp only[zU,seval,bne_self_eq_false,beq_self_eq_true,Bool.and_self,Bool.not_true]
 repeat((with_reducible apply aI);exact sdp)
 (try simp only[zU,seval,bne_self_eq_false,beq_self_eq_true,Bool.and_self,Bool.not_true])
 refine qan t.threads.length (fun k=>[(2,.ptr 0 0),(3,.ptr 1 0),(5,.d (.int .i64 k))]) (fun _=>[.box 10 (.d t.toD),.box 10 (.d t.toD)]) (fun _=>True) trivial ?_ ?_
 ·refine qaa [] [0,1] rfl (by simp) ?_ rfl
  simp only[zU,seval]
  try rfl
 intro k _ hk
 by_cases h:k<t.threads.length
 ·obtain⟨x,hx⟩:∃x,x=t.threads.getD k default:=⟨_,rfl⟩
  have eg:(t.threads.map qaj.toD).getD k default=x.toD:=by rw[qah _ _ _ h,←hx]
  simp only[zU,seval,(show(k:Int)<t.threads.length by omega),h,eg,qub,qwx,bne_self_eq_false,beq_self_eq_true,Bool.and_self,Bool.not_true]
  repeat((with_reducible apply aI);exact sdp)
  (try simp only[zU,seval,qub,qwx,bne_self_eq_false,beq_self_eq_true,Bool.and_self,Bool.not_true])
  refine qaa [] [0,1] rfl (by simp) ?_ rfl
  simp only[zU,seval,@qaf ((k:Int)+1) (by omega)]
  try rfl
 have:k=t.threads.length:=by omega
 subst this
 simp only[zU,seval,(show ¬(t.threads.length:Int)<t.threads.length by omega)]
 refine qan t.slices.length (fun k=>[(2,.ptr 0 0),(3,.ptr 1 0),(6,.d (.int .i64 k))]) (fun _=>[.box 10 (.d t.toD),.box 10 (.d t.toD)]) (fun _=>True) trivial ?_ ?_
 ·refine qaa [] [0,1] rfl (by simp) ?_ rfl
  simp only[zU,seval]
  try rfl
 intro k _ hk
 by_cases h:k<t.slices.length
 ·obtain⟨x,hx⟩:∃x,x=t.slices.getD k default:=⟨_,rfl⟩
  have eg:(t.slices.map qag.toD).getD k default=x.toD:=by rw[qah _ _ _ h,←hx]
  simp only[zU,seval,(show(k:Int)<t.slices.length by omega),h,eg,qzs,q2v,bne_self_eq_false,beq_self_eq_true,Bool.and_self,Bool.not_true]
  repeat((with_reducible apply aI);exact sdp)
  (try simp only[zU,seval,qzs,q2v,bne_self_eq_false,beq_self_eq_true,Bool.and_self,Bool.not_true])
  refine qaa [] [0,1] rfl (by simp) ?_ rfl
  simp only[zU,seval,@qaf ((k:Int)+1) (by omega)]
  try rfl
 have:k=t.slices.length:=by omega
 subst this
 simp only[zU,seval,(show ¬(t.slices.length:Int)<t.slices.length by omega)]
 refine qan t.flows.length (fun k=>[(2,.ptr 0 0),(3,.ptr 1 0),(7,.d (.int .i64 k))]) (fun _=>[.box 10 (.d t.toD),.box 10 (.d t.toD)]) (fun _=>True) trivial ?_ ?_
 ·refine qaa [] [0,1] rfl (by simp) ?_ rfl
  simp only[zU,seval]
  try rfl
 intro k _ hk
 by_cases h:k<t.flows.length
 ·obtain⟨x,hx⟩:∃x,x=t.flows.getD k default:=⟨_,rfl⟩
  have eg:(t.flows.map qbf.toD).getD k default=x.toD:=by rw[qah _ _ _ h,←hx]
  simp only[zU,seval,(show(k:Int)<t.flows.length by omega),h,eg,q47,q9s,bne_self_eq_false,beq_self_eq_true,Bool.and_self,Bool.not_true]
  repeat((with_reducible apply aI);exact sdp)
  (try simp only[zU,seval,q47,q9s,bne_self_eq_false,beq_self_eq_true,Bool.and_self,Bool.not_true])
  refine qaa [] [0,1] rfl (by simp) ?_ rfl
  simp only[zU,seval,@qaf ((k:Int)+1) (by omega)]
  try rfl
 have:k=t.flows.length:=by omega
 subst this
 simp only[zU,seval,(show ¬(t.flows.length:Int)<t.flows.length by omega)]
 refine qan t.samples.length (fun k=>[(2,.ptr 0 0),(3,.ptr 1 0),(8,.d (.int .i64 k))]) (fun _=>[.box 10 (.d t.toD),.box 10 (.d t.toD)]) (fun _=>True) trivial ?_ ?_
 ·refine qaa [] [0,1] rfl (by simp) ?_ rfl
  simp only[zU,seval]
  try rfl
 intro k _ hk
 by_cases h:k<t.samples.length
 ·obtain⟨x,hx⟩:∃x,x=t.samples.getD k default:=⟨_,rfl⟩
  have eg:(t.samples.map qam.toD).getD k default=x.toD:=by rw[qah _ _ _ h,←hx]
  have hxs:=hs.1 x (by rw[hx];exact qcd h)
  simp only[zU,seval,(show(k:Int)<t.samples.length by omega),h,eg,bne_self_eq_false,beq_self_eq_true,Bool.and_self,Bool.not_true]
  repeat((with_reducible apply aI);exact sdp)
  (try simp only[zU,seval,bne_self_eq_false,beq_self_eq_true,Bool.and_self,Bool.not_true])
  refine qay (v:=.d (.bool true)) (fun _=>by have:=quu (Gl:=Gl) x.stack x.stack hxs hxs;rwa [beq_self_eq_true] at this) ?_
  simp only[zU,seval,bne_self_eq_false,beq_self_eq_true,Bool.and_self,Bool.not_true]
  repeat((with_reducible apply aI);exact sdp)
  (try simp only[zU,seval,bne_self_eq_false,beq_self_eq_true,Bool.and_self,Bool.not_true])
  refine qaa [] [0,1] rfl (by simp) ?_ rfl
  simp only[zU,seval,@qaf ((k:Int)+1) (by omega)]
  try rfl
 have:k=t.samples.length:=by omega
 subst this
 simp only[zU,seval,(show ¬(t.samples.length:Int)<t.samples.length by omega)]
 refine qan t.steps.length (fun k=>[(2,.ptr 0 0),(3,.ptr 1 0),(11,.d (.int .i64 k))]) (fun _=>[.box 10 (.d t.toD),.box 10 (.d t.toD)]) (fun _=>True) trivial ?_ ?_
 ·refine qaa [] [0,1] rfl (by simp) ?_ rfl
  simp only[zU,seval]
  try rfl
 intro k _ hk
 by_cases h:k<t.steps.length
 ·obtain⟨x,hx⟩:∃x,x=t.steps.getD k default:=⟨_,rfl⟩
  have eg:(t.steps.map qa2.toD).getD k default=x.toD:=by rw[qah _ _ _ h,←hx]
  simp only[zU,seval,(show(k:Int)<t.steps.length by omega),h,eg,q45,q9q,bne_self_eq_false,beq_self_eq_true,Bool.and_self,Bool.not_true]
  repeat((with_reducible apply aI);exact sdp)
  (try simp only[zU,seval,q45,q9q,bne_self_eq_false,beq_self_eq_true,Bool.and_self,Bool.not_true])
  refine qaa [] [0,1] rfl (by simp) ?_ rfl
  simp only[zU,seval,@qaf ((k:Int)+1) (by omega)]
  try rfl
 have:k=t.steps.length:=by omega
 subst this
 simp only[zU,seval,(show ¬(t.steps.length:Int)<t.steps.length by omega)]
 refine qan t.blocks.length (fun k=>[(2,.ptr 0 0),(3,.ptr 1 0),(12,.d (.int .i64 k))]) (fun _=>[.box 10 (.d t.toD),.box 10 (.d t.toD)]) (fun _=>True) trivial ?_ ?_
 ·refine qaa [] [0,1] rfl (by simp) ?_ rfl
  simp only[zU,seval]
  try rfl
 intro k _ hk
 by_cases h:k<t.blocks.length
 ·obtain⟨x,hx⟩:∃x,x=t.blocks.getD k default:=⟨_,rfl⟩
  have eg:(t.blocks.map qar.toD).getD k default=x.toD:=by rw[qah _ _ _ h,←hx]
  have hxs:=hs.2 x (by rw[hx];exact qcd h)
  simp only[zU,seval,(show(k:Int)<t.blocks.length by omega),h,eg,bne_self_eq_false,beq_self_eq_true,Bool.and_self,Bool.not_true]
  repeat((with_reducible apply aI);exact sdp)
  (try simp only[zU,seval,bne_self_eq_false,beq_self_eq_true,Bool.and_self,Bool.not_true])
  refine qay (v:=.d (.bool true)) (fun _=>by have:=quu (Gl:=Gl) x.stack x.stack hxs hxs;rwa [beq_self_eq_true] at this) ?_
  simp only[zU,seval,bne_self_eq_false,beq_self_eq_true,Bool.and_self,Bool.not_true]
  repeat((with_reducible apply aI);exact sdp)
  (try simp only[zU,seval,bne_self_eq_false,beq_self_eq_true,Bool.and_self,Bool.not_true])
  refine qaa [] [0,1] rfl (by simp) ?_ rfl
  simp only[zU,seval,@qaf ((k:Int)+1) (by omega)]
  try rfl
 have:k=t.blocks.length:=by omega
 subst this
 simp only[zU,seval,(show ¬(t.blocks.length:Int)<t.blocks.length by omega)]
 refine qan t.lost.length (fun k=>[(2,.ptr 0 0),(3,.ptr 1 0),(15,.d (.int .i64 k))]) (fun _=>[.box 10 (.d t.toD),.box 10 (.d t.toD)]) (fun _=>True) trivial ?_ ?_
 ·refine qaa [] [0,1] rfl (by simp) ?_ rfl
  simp only[zU,seval]
  try rfl
 intro k _ hk
 by_cases h:k<t.lost.length
 ·obtain⟨x,hx⟩:∃x,x=t.lost.getD k default:=⟨_,rfl⟩
  have eg:(t.lost.map qbr.toD).getD k default=x.toD:=by rw[qah _ _ _ h,←hx]
  simp only[zU,seval,(show(k:Int)<t.lost.length by omega),h,eg,q46,q9r,bne_self_eq_false,beq_self_eq_true,Bool.and_self,Bool.not_true]
  repeat((with_reducible apply aI);exact sdp)
  (try simp only[zU,seval,q46,q9r,bne_self_eq_false,beq_self_eq_true,Bool.and_self,Bool.not_true])
  refine qaa [] [0,1] rfl (by simp) ?_ rfl
  simp only[zU,seval,@qaf ((k:Int)+1) (by omega)]
  try rfl
 have:k=t.lost.length:=by omega
 subst this
 simp only[zU,seval,(show ¬(t.lost.length:Int)<t.lost.length by omega)]
 refine⟨_,_,qap,?_,rfl⟩
 rfl
end YtljpopkonkanlaaGreatDoor
end Go.Proofs

set_option maxRecDepth 100000
namespace Go.Proofs
open Go.AM Tryz
namespace YtljpopkonkanlaaGreatDoor
theorem ofNat_inj {a b:Nat} (ha:a<10) (hb:b<10) (h:UInt8.ofNat (48+a)=UInt8.ofNat (48+b)):a=b:=by
 have:=congrArg UInt8.toNat h
 rw[UInt8.toNat_ofNat_of_lt' (show 48+a<256 by omega),UInt8.toNat_ofNat_of_lt' (show 48+b<256 by omega)] at this
 omega
theorem Qxr {l:List qao} (h:qht l=0) (what x:List UInt8):qns what x l=qhx∨qns what x l=q68∨qns what x l=qv9:=by
 have hr:∀r∈l,Qnv r=false:=fun r hr=>by
  unfold qht at h
  split at h
  ·cases h
  obtain⟨i,hi,rfl⟩:=List.getElem_of_mem hr
  have:=qf2 h i hi
  have e:l.getD i default=l[i]:=by simp[hi]
  rw[e] at this
  unfold ql6 at this
  split at this
  ·cases this
  ·rename_i h1;simpa using h1
 clear h
 induction l with
 | nil=>exact .inl rfl
 | cons r l ih=>
  unfold qns
  split
  ·have:=hr r List.mem_cons_self
   unfold Qnv at this
   simp only[Bool.or_eq_false_iff,Bool.and_eq_false_iff,Bool.not_eq_false',beq_iff_eq] at this
   rcases this.2 with(h1|h1)|h1
   ·exact .inl h1
   ·exact .inr (.inl h1)
   ·exact .inr (.inr h1)
  ·exact ih fun r hr'=>hr r (List.mem_cons_of_mem _ hr')
theorem Ql0 {l:List qao} (h:qht l=0) {what x:List UInt8} (hd:qbe l what x=false):hid l what x=true∨qns what x l=qhx:=by
 rcases Qxr h what x with h1|h1|h1
 ·exact .inr h1
 ·exact .inl (by rw[hid,h1];rfl)
 ·rw[qbe,h1] at hd;cases hd
theorem Qsr {x:List UInt8} {s:List (List UInt8)} (h:x∈s):s.any (eqS x)=true:=List.any_eq_true.2 ⟨x,h,by simp[eqS]⟩

structure Qwr (t:qaw):Prop where
 th:qcj t.threads=0
 sl:qfa t.slices=0
 slT:∀x∈t.slices,qeb t.threads x.thread=true
 st:qga t.threads t.states=0
 fl:qjv t.flows=0
 flT:∀x∈t.flows,qeb t.threads x.ft=true∧qeb t.threads x.tt=true
 sm:qe2 t.samples=0
 smT:∀x∈t.samples,qeb t.threads x.thread=true
 sp:qix t.steps=0
 bk:bkF t.blocks=0
 bkT:∀x∈t.blocks,qeb t.threads x.thread=true
 lo:q5j (qeb t.threads) t.lost=0
 s0:0≤t.lo
 s1:t.lo≤t.hi
 s2:t.hi≤1000000000000
 out:qm9 t=false
theorem qz2 {α:Type} {e:Int} {has:Int→Bool} {g:α→Int} {l:List α}:qcp e has g l=0↔e=0∧∀x∈l,has (g x)=true:=by
 unfold qcp
 constructor
 ·intro h
  split at h
  ·rename_i h1;exact absurd h h1
  ·rename_i h1
   have h1:e=0:=Classical.byContradiction h1
   split at h
   ·rename_i h2;exact⟨h1,fun x hx=>List.all_eq_true.1 h2 x hx⟩
   ·cases h
 ·rintro⟨h1,h2⟩
  rw[if_neg (by rw[h1];simp),if_pos (List.all_eq_true.2 h2)]
theorem qwe {a:Int} {b:Int} (h:(if a≠0 then a else b)=0):a=0∧b=0:=by
 split at h
 ·rename_i h1;exact absurd h h1
 ·rename_i h1;exact⟨Classical.byContradiction h1,h⟩
theorem Ql2 {a b:Int} (h1:a=0) (h2:b=0):(if a≠0 then a else b)=0:=by rw[if_neg (by rw[h1];simp),h2]
theorem Qk8 {t:qaw} (h:qdo t=0):Qwr t:=by
 obtain⟨h1,h2⟩:=qwe h
 obtain⟨a1,h1⟩:=qwe h1
 obtain⟨a2,h1⟩:=qwe h1
 obtain⟨a3,h1⟩:=qwe h1
 obtain⟨a4,h1⟩:=qwe h1
 obtain⟨a5,h1⟩:=qwe h1
 obtain⟨a6,h1⟩:=qwe h1
 obtain⟨a7,a8⟩:=qwe h1
 rw[qz2] at a2 a4 a5 a7
 rw[qz2] at a4
 split at h2
 ·cases h2
 rename_i b1
 split at h2
 ·cases h2
 rename_i b2
 simp only[Bool.or_eq_true,decide_eq_true_eq,not_or] at b1
 exact⟨a1,a2.1,a2.2,a3,a4.1.1,fun x hx=>⟨a4.1.2 x hx,a4.2 x hx⟩,a5.1,a5.2,a6,a7.1,a7.2,a8,by omega,by omega,by omega,by simpa using b2⟩
structure Qxe (l:List qag) (i:Nat):Prop where
 th:0≤(l.getD i default).thread∧(l.getD i default).thread≤1000000000000000
 sp:0≤(l.getD i default).lo∧(l.getD i default).lo<(l.getD i default).hi∧(l.getD i default).hi≤1000000000000
 nm:qc3 (l.getD i default).name=0
 od:0<i→Qev (l.getD (i-1) default) (l.getD i default)≤0
theorem q24 {l:List qag} {i:Nat}:q91 l i=0↔Qxe l i:=by
 unfold q91
 constructor
 ·intro h
  split at h
  ·cases h
  rename_i h1
  obtain⟨h2,h3⟩:=qwe h
  split at h3
  ·cases h3
  rename_i h4
  simp only[Bool.or_eq_true,decide_eq_true_eq,not_or,Bool.not_eq_true',qgr,Bool.and_eq_false_iff,decide_eq_false_iff_not,Decidable.not_not,Bool.and_eq_true] at h1
  simp only[Bool.and_eq_true,decide_eq_true_eq,not_and] at h4
  refine⟨by omega,by omega,h2,fun h0=>?_⟩
  have:=h4 h0
  omega
 ·intro h
  obtain⟨⟨t1,t2⟩,⟨s1,s2,s3⟩,n,o⟩:=h
  rw[if_neg,if_neg (by rw[n];simp),if_neg]
  ·simp only[Bool.and_eq_true,decide_eq_true_eq,not_and]
   intro h0
   have:=o h0
   omega
  ·simp only[Bool.or_eq_true,decide_eq_true_eq,not_or,Bool.not_eq_true',qgr,Bool.and_eq_false_iff,decide_eq_false_iff_not,Decidable.not_not,Bool.and_eq_true]
   omega
theorem Qdh {l:List qag}:qfa l=0↔(∀i,i<l.length→Qxe l i)∧qir l=true∧qio l=true:=by
 unfold qfa
 constructor
 ·intro h
  obtain⟨h1,h2⟩:=qwe h
  split at h2
  ·rename_i h3
   rw[Bool.and_eq_true] at h3
   exact⟨fun i hi=>q24.1 (qf2 h1 i hi),h3.1,h3.2⟩
  ·cases h2
 ·rintro⟨h1,h2,h3⟩
  refine Ql2 (q6h fun k hk=>q24.2 (h1 k hk)) ?_
  rw[h2,h3];rfl
theorem q10 {t:qaw} (h:qdo t=0):qe8 t.slices:=fun i hi=>by
 obtain⟨h1,h2,h3⟩:=Qdh.1 (Qk8 h).sl
 obtain⟨s1,s2,s3⟩:=(h1 i hi).sp
 have hn:=qh1 (List.all_eq_true.1 h2 i (List.mem_range.2 hi))
 exact⟨⟨s1,by omega,by omega⟩,hn⟩

structure Shp (L M:List qag):Prop where
 len:L.length=M.length
 th:∀i:Nat,(L.getD i default).thread=(M.getD i default).thread
 pa:∀i:Nat,(L.getD i default).parent=(M.getD i default).parent
 de:∀i:Nat,(L.getD i default).depth=(M.getD i default).depth
 lo:∀i:Nat,(L.getD i default).lo=(M.getD i default).lo
 hi:∀i:Nat,(L.getD i default).hi=(M.getD i default).hi
 se:∀i:Nat,(L.getD i default).self=(M.getD i default).self
def Qwi (l:List qag) (i:Nat):Prop:=0≤(l.getD i default).parent→(l.getD (l.getD i default).parent.toNat default).thread=(l.getD i default).thread∧(l.getD (l.getD i default).parent.toNat default).lo≤(l.getD i default).lo∧(l.getD i default).hi≤(l.getD (l.getD i default).parent.toNat default).hi
structure Cho (L C:List qag) (P:List Int) (O:List Nat):Prop where
 len:P.length=L.length
 oc:O.length=C.length
 up:O.Pairwise (·<·)
 lt:∀x∈O,x<L.length
 el:∀q,q<C.length→P.getD (O.getD q 0) 0=(q:Int)∧C.getD q default={L.getD (O.getD q 0) default with parent:=(C.getD q default).parent}
 pl:∀i,i<L.length→P.getD i 0=-1∨(0≤P.getD i 0∧P.getD i 0<C.length∧(C.getD (P.getD i 0).toNat default).thread=(L.getD i default).thread∧(C.getD (P.getD i 0).toNat default).lo≤(L.getD i default).lo∧(L.getD i default).hi≤(C.getD (P.getD i 0).toNat default).hi)
 par:∀q,q<C.length→Qwi C q
 und:∀q,q<C.length→∀b:Nat,b<L.length→qex L (O.getD q 0) b=true→0≤P.getD b 0∧qex C q (P.getD b 0)=true

theorem Qnb (C:List qag) (q:Nat):((qds C).getD q default).thread=(C.getD q default).thread∧((qds C).getD q default).parent=(C.getD q default).parent∧((qds C).getD q default).name=(C.getD q default).name∧((qds C).getD q default).lo=(C.getD q default).lo∧((qds C).getD q default).hi=(C.getD q default).hi:=by
 by_cases h:q<C.length
 ·obtain⟨a,b,c,d,e,_⟩:=qve (o:=C) q h
  exact⟨a,b,c,d,e⟩
 ·have e1:C.getD q default=default:=by simp[show C.length≤q by omega]
  have e2:(qds C).getD q default=default:=by simp[show(qds C).length≤q by rw[qdi];omega]
  rw[e1,e2];exact⟨rfl,rfl,rfl,rfl,rfl⟩

theorem Qkb (p:qag→Bool) (hp:∀s x,p {s with parent:=x}=p s):∀(L:List qag) (u:List qag×List Int),(∀x∈u.1,p x=true)→∀x∈(L.foldl (qb9 p) u).1,p x=true
 | [],u,h=>h
 | s::L,u,h=>by
  rw[List.foldl_cons]
  refine Qkb p hp L _ ?_
  unfold qb9
  split
  ·rename_i h1
   intro x hx
   rcases List.mem_append.1 hx with hx|hx
   ·exact h x hx
   ·rw[List.mem_singleton] at hx
    rw[hx,hp];exact h1
  ·exact h
theorem Qr5 (p:qag→Bool) (hp:∀s t:qag,s.thread=t.thread→s.name=t.name→p s=p t) (C:List qag) (h:∀x∈C,p x=true):∀x∈qds C,p x=true:=fun x hx=>by
 obtain⟨i,hi,rfl⟩:=List.getElem_of_mem hx
 have hi2:i<C.length:=by rwa [qdi] at hi
 have fc:=Qnb C i
 have e1:(qds C).getD i default=(qds C)[i]:=by simp[hi]
 have e2:C.getD i default=C[i]:=by simp[hi2]
 rw[e1,e2] at fc
 rw[hp _ C[i] fc.1 fc.2.2.1]
 exact h _ (List.getElem_mem hi2)
theorem q1z {l:List qao} (h:qht l=0) {what x:List UInt8} {s:List (List UInt8)} (hx:x∈s) (hd:qbe l what x=false):qdd l what s x=some (qnr (qfz l what s) x):=by
 unfold qdd
 rw[if_pos]
 refine⟨Qsr hx,?_⟩
 rcases Ql0 h hd with h1|h1
 ·rw[h1];rfl
 ·rw[qhj,h1];simp
theorem q86 {l:List qao} (h:qht l=0) {s:List (List UInt8)}:∀(u:List (List UInt8)),(∀x∈u,x∈s∧qbe l qa7 x=false)→q2g (qdd l qa7 s) u=u.map (qnr (qfz l qa7 s))
 | [],_=>rfl
 | x::u,hu=>by
  obtain⟨h1,h2⟩:=hu x List.mem_cons_self
  have ih:=q86 h u fun y hy=>hu y (List.mem_cons_of_mem _ hy)
  unfold q2g at ih ⊢
  rw[List.filterMap_cons_some (q1z h h1 h2),ih];rfl
structure Qxf (l:List qao) (t:qaw):Prop where
 th:∀x∈t.threads,qbe l qau x.name=false
 sl:∀x∈t.slices,qbe l qa6 x.name=false
 fr:∀x∈frN t,qbe l qa7 x=false
 sp:∀x∈t.steps,qbe l qat x.name=false
theorem qvd {t:qaw} {x:List UInt8}:x∈frN t↔(∃y∈t.samples,x∈y.stack)∨∃y∈t.blocks,x∈y.stack:=by
 rw[frN,List.mem_append,List.mem_flatten,List.mem_flatten]
 constructor
 ·rintro(⟨s,hs,hx⟩|⟨s,hs,hx⟩)
  ·obtain⟨y,hy,rfl⟩:=List.mem_map.1 hs;exact .inl ⟨y,hy,hx⟩
  ·obtain⟨y,hy,rfl⟩:=List.mem_map.1 hs;exact .inr ⟨y,hy,hx⟩
 ·rintro(⟨y,hy,hx⟩|⟨y,hy,hx⟩)
  ·exact .inl ⟨_,List.mem_map.2 ⟨y,hy,rfl⟩,hx⟩
  ·exact .inr ⟨_,List.mem_map.2 ⟨y,hy,rfl⟩,hx⟩
theorem Qhw (l:List qao) (t:qaw) (ht:qdo t=0):Qxf l (qit l (qfg l t)):=by
 have hd:=Qfv (qkm ht)
 refine⟨fun x hx=>?_,fun x hx=>?_,fun x hx=>?_,fun x hx=>?_⟩
 ·obtain⟨h1,h2⟩:=List.mem_filter.1 (show x∈t.threads.filter (fun x=>!qco l t.threads x.id) from hx)
  rw[←qu6 hd h1]
  simpa using h2
 ·rw[qrz l t (q10 ht)] at hx
  have:=Qr5 (q19 l t) (fun a b h1 h2=>by unfold q19;rw[h1,h2]) _ (Qkb (q19 l t) (fun s x=>rfl) t.slices ([],[]) (fun x hx=>by cases hx)) x hx
  unfold q19 at this
  simp only[Bool.and_eq_true,Bool.not_eq_true'] at this
  exact this.2
 ·rcases qvd.1 hx with⟨y,hy,hxy⟩|⟨y,hy,hxy⟩
  ·obtain⟨z,_,rfl⟩:=List.mem_map.1 (show y∈(qfg l t).samples.map (frS l) from hy)
   have:=(List.mem_filter.1 (show x∈z.stack.filter _ from hxy)).2
   simpa using this
  ·obtain⟨z,_,rfl⟩:=List.mem_map.1 (show y∈(qfg l t).blocks.map (qv6 l) from hy)
   have:=(List.mem_filter.1 (show x∈z.stack.filter _ from hxy)).2
   simpa using this
 ·have:=(List.mem_filter.1 (show x∈(qfg l t).steps.filter _ from hx)).2
  simpa using this
theorem Qq5 {l:List qao} (h:qht l=0) {t:qaw} (k:Qxf l t):Que l t=Qkv l t:=by
 have e1:t.threads.map (nmT (qdd l qau (t.threads.map (·.name))))=t.threads.map (nnT (qfz l qau (t.threads.map (·.name)))):=by
  apply List.map_congr_left
  intro x hx
  unfold nmT nnT
  rw[q1z h (List.mem_map.2 ⟨x,hx,rfl⟩) (k.th x hx)];rfl
 have e2:t.slices.map (nmS (qdd l qa6 (t.slices.map (·.name))))=t.slices.map (nnS (qfz l qa6 (t.slices.map (·.name)))):=by
  apply List.map_congr_left
  intro x hx
  unfold nmS nnS
  rw[q1z h (List.mem_map.2 ⟨x,hx,rfl⟩) (k.sl x hx)];rfl
 have e3:t.samples.map (nmA (qdd l qa7 (frN t)))=t.samples.map (nnA (qfz l qa7 (frN t))):=by
  apply List.map_congr_left
  intro x hx
  unfold nmA nnA
  rw[q86 h _ fun y hy=>⟨qvd.2 (.inl ⟨x,hx,hy⟩),k.fr y (qvd.2 (.inl ⟨x,hx,hy⟩))⟩]
 have e4:t.blocks.map (nmB (qdd l qa7 (frN t)))=t.blocks.map (nnB (qfz l qa7 (frN t))):=by
  apply List.map_congr_left
  intro x hx
  unfold nmB nnB
  rw[q86 h _ fun y hy=>⟨qvd.2 (.inr ⟨x,hx,hy⟩),k.fr y (qvd.2 (.inr ⟨x,hx,hy⟩))⟩]
 have e5:t.steps.map (nmC (qdd l qat (t.steps.map (·.name))))=t.steps.map (nnC (qfz l qat (t.steps.map (·.name)))):=by
  apply List.map_congr_left
  intro x hx
  unfold nmC nnC
  rw[q1z h (List.mem_map.2 ⟨x,hx,rfl⟩) (k.sp x hx)];rfl
 unfold Que Qpc Qkv
 rw[e1,e2,e3,e4,e5]
theorem Qo5 (l:List qao) (t:qaw):Qk9 l t=qoo l t:=by
 unfold Qk9 qoo
 by_cases h0:qht l=0
 ·have n0:¬qht l≠0:=by rw[h0];simp
  rw[if_neg n0,if_neg n0]
  by_cases h1:qdo t=0
  ·have n1:¬qdo t≠0:=by rw[h1];simp
   rw[if_neg n1,if_neg n1,Qk4 l t h1 (q10 h1),Qq5 h0 (Qhw l t h1)]
  ·have n1:qdo t≠0:=h1
   rw[if_pos n1,if_pos n1]
 ·have n0:qht l≠0:=h0
  rw[if_pos n0,if_pos n0]
theorem Qfl {l:List qao} {t:qaw} (h:t.lim):(q6x l t).lim:=by
 obtain⟨h1,h2,h3,h4,h5,h6,h7,h8⟩:=h
 refine⟨Nat.le_trans (qfw _ _ _) h1,?_,Nat.le_trans (qj7 _ _) h3,Nat.le_trans (qfw _ _ _) h4,Nat.le_trans (qfw _ _ _) h5,Nat.le_trans (qfw _ _ _) h6,Nat.le_trans (qfw _ _ _) h7,Nat.le_trans (qfw _ _ _) h8⟩
 show(qds _).length≤1000
 rw[qdi];exact Nat.le_trans (Qka _ _) h2
theorem q9p {l:List qao} {t:qaw} (h:t.limS):(q6x l t).limS:=by
 refine⟨fun x hx=>?_,fun x hx=>?_⟩
 ·obtain⟨y,hy,rfl⟩:=List.mem_map.1 hx
  exact Nat.lt_of_le_of_lt (List.length_filter_le _ _) (h.1 y (List.mem_filter.1 hy).1)
 ·obtain⟨y,hy,rfl⟩:=List.mem_map.1 hx
  exact Nat.lt_of_le_of_lt (List.length_filter_le _ _) (h.2 y (List.mem_filter.1 hy).1)
theorem Qqs (l:List qao) (t:qaw):(frN (q6x l t)).length≤(frN t).length:=by
 have a1:=q8j l (t.samples.filter (fun x=>!qco l t.threads x.thread))
 have a2:=q8k l (t.blocks.filter (fun x=>!qco l t.threads x.thread))
 have a3:=q8h (fun x=>!qco l t.threads x.thread) t.samples
 have a4:=q8i (fun x=>!qco l t.threads x.thread) t.blocks
 have e1:(frN (q6x l t)).length=((((t.samples.filter (fun x=>!qco l t.threads x.thread)).map (frS l)).map (·.stack)).flatten).length+((((t.blocks.filter (fun x=>!qco l t.threads x.thread)).map (qv6 l)).map (·.stack)).flatten).length:=by rw[frN,List.length_append];rfl
 have e2:(frN t).length=((t.samples.map (·.stack)).flatten).length+((t.blocks.map (·.stack)).flatten).length:=by rw[frN,List.length_append]
 omega
theorem Qr4 {t:qaw} (h:t.lim∧t.limS):(q8l t).lim∧(q8l t).limS:=by
 unfold q8l
 split<;>exact h
theorem Qre {l:List qao} {t:qaw} (h:t.lim∧t.limS):(Qkv l t).lim∧(Qkv l t).limS:=by
 obtain⟨⟨g1,g2,g3,g4,g5,g6,g7,g8⟩,s1,s2⟩:=h
 refine⟨⟨?_,?_,g3,g4,?_,?_,?_,g8⟩,fun x hx=>?_,fun x hx=>?_⟩
 ·show(t.threads.map _).length≤_;rw[List.length_map];exact g1
 ·show(t.slices.map _).length≤_;rw[List.length_map];exact g2
 ·show(t.samples.map _).length≤_;rw[List.length_map];exact g5
 ·show(qfv _ _).length≤_;rw[qfo,List.length_map];exact g6
 ·show(t.blocks.map _).length≤_;rw[List.length_map];exact g7
 ·obtain⟨y,hy,rfl⟩:=List.mem_map.1 hx
  show(y.stack.map _).length<_;rw[List.length_map];exact s1 y hy
 ·obtain⟨y,hy,rfl⟩:=List.mem_map.1 hx
  show(y.stack.map _).length<_;rw[List.length_map];exact s2 y hy
theorem Qqw {l:List qao} {t:qaw} (h:t.lim∧t.limS):(qoo l t).1.lim∧(qoo l t).1.limS:=by
 have z:qhu.lim∧qhu.limS:=⟨by refine⟨?_,?_,?_,?_,?_,?_,?_,?_⟩<;>decide,fun x hx=>(by cases hx),fun x hx=>(by cases hx)⟩
 rw[←Qo5]
 unfold Qk9
 split
 ·exact z
 split
 ·exact z
 split
 ·exact z
 ·exact Qr4 (Qre ⟨Qfl h.1,q9p h.2⟩)
end YtljpopkonkanlaaGreatDoor
end Go.Proofs

set_option maxRecDepth 100000
namespace Go.Proofs
open Go.AM Tryz
namespace YtljpopkonkanlaaGreatDoor
variable {Gl:qbd}
def exA:qaw:=⟨0,10,[⟨1,[109,97,105,110],0⟩],[⟨1,-1,0,[97],0,10,4,false⟩,⟨1,0,1,[98],2,8,4,false⟩,⟨1,1,2,[99],3,5,2,false⟩],[⟨1,5,0,10,-1,-1,-1⟩],[],[],[],[],[]⟩
def exL:List qao:=[⟨qa7,[119],q68⟩,⟨qa6,[98],qv9⟩]
def exN:List (List UInt8):=[[119,114,105,116,101,114],[109,97,105,110],[119,111,114,107,101,114],[119,114,105,116,101,114]]
def exW:List (List UInt8):=[[104,105,100,100,101,110,45,49],[109,97,105,110],[104,105,100,100,101,110,45,50],[104,105,100,100,101,110,45,49]]
def exS:qag:=⟨1,0,1,[99],3,5,2,false⟩
theorem Qsc:exA.Few:=by constructor<;>first|decide|(intro x hx;cases hx)
theorem Qjs:exA.lim:=by refine⟨?_,?_,?_,?_,?_,?_,?_,?_⟩<;>decide
theorem Qcq:exA.limS:=⟨fun x hx=>(by cases hx),fun x hx=>(by cases hx)⟩
theorem Qni:qe8 exA.slices:=by
 intro i hi
 match i,hi with
 | 0,_=>decide
 | 1,_=>decide
 | 2,_=>decide
theorem Qjr:Qrf exL qa7 exN=exW:=by decide +kernel
theorem Qng:Qkw exL qa7 exN=0:=by decide +kernel
theorem Qsd:(qoo exL exA).2=0:=by decide +kernel
theorem Qjq:(qoo exL exA).1.slices=[⟨1,-1,0,[97],0,10,8,false⟩,exS]:=by decide +kernel
theorem Qqh:(qoo exL exA).1.threads=[⟨1,[109,97,105,110],0⟩]:=by decide +kernel
theorem Qvj:frN (qoo exL exA).1=[]:=by decide +kernel
theorem Qqj:(qoo exL exA).1.samples=[]:=by decide +kernel
theorem Qqk:(qoo exL exA).1.blocks=[]:=by decide +kernel
theorem Qqi:(qoo exL exA).1.steps=[]:=by decide +kernel
theorem Qnf:(qoo exL exA).1.states.length≤1000∧(qoo exL exA).1.flows.length≤1000∧(qoo exL exA).1.lost.length≤1000:=by decide +kernel
theorem Qsf:qvm exL (qoo exL exA).1=true:=by decide +kernel
theorem Qse:qvm exL exA=false:=by decide +kernel
theorem Qvl:qns qa6 [98,99] exL=qv9:=by decide +kernel
theorem Qvk:qns qa6 [97] exL=qhx:=by decide +kernel
theorem Qsg:qht exL=0:=by decide +kernel
theorem Qsb:(qoo exL exA).1.lim:=by
 obtain⟨h1,h2,h3⟩:=Qnf
 unfold qaw.lim
 rw[Qqh,Qjq,Qqj,Qqk,Qqi]
 exact⟨by decide,by decide,h1,h2,by decide,by decide,by decide,h3⟩
theorem Qnd:(qoo exL exA).1.limS:=by
 unfold qaw.limS
 rw[Qqj,Qqk]
 exact⟨fun x hx=>(by cases hx),fun x hx=>(by cases hx)⟩
theorem Qhs {t:qaw} {A B C E:List (List UInt8)} (h1:t.threads.map (·.name)=A) (h2:t.slices.map (·.name)=B) (h3:frN t=C) (h4:t.steps.map (·.name)=E)
  (h:(A.length<1000000∧B.length<1000000∧C.length<1000000∧E.length<1000000)∧([A,B,C,E].all fun s=>s.all fun x=>decide (x.length<9223372036854775808))=true):Qv2 t:=fun k hk=>by
 obtain⟨⟨a1,a2,a3,a4⟩,ha⟩:=h
 simp only[List.all_cons,List.all_nil,Bool.and_true,Bool.and_eq_true,List.all_eq_true,decide_eq_true_eq] at ha
 obtain⟨b1,b2,b3,b4⟩:=ha
 match k,hk with
 | 0,_=>show(t.threads.map (·.name)).length<_∧_;rw[h1];exact⟨a1,fun x hx=>b1 x (by rw[←h1];exact hx)⟩
 | 1,_=>show(t.slices.map (·.name)).length<_∧_;rw[h2];exact⟨a2,fun x hx=>b2 x (by rw[←h2];exact hx)⟩
 | 2,_=>show(frN t).length<_∧_;rw[h3];exact⟨a3,fun x hx=>b3 x (by rw[←h3];exact hx)⟩
 | 3,_=>show(t.steps.map (·.name)).length<_∧_;rw[h4];exact⟨a4,fun x hx=>b4 x (by rw[←h4];exact hx)⟩
theorem Qne:Qv2 (qoo exL exA).1:=Qhs (A:=[[109,97,105,110]]) (B:=[[97],[99]]) (C:=[]) (E:=[]) (by rw[Qqh];rfl) (by rw[Qjq];rfl) Qvj (by rw[Qqi];rfl) (by decide)
theorem Qnh:Qv2 exA:=Qhs (A:=[[109,97,105,110]]) (B:=[[97],[98],[99]]) (C:=[]) (E:=[]) rfl rfl rfl rfl (by decide)
theorem q50:qba prog Gl 29 [] (.d exA.toD):=by
 refine qba.of0 ?_
 refine qac func29 rfl rfl (by simp[ntmps29]) (qab rfl _ _ _ _ ?_)
 simp only[ntmps29,results29,qak,List.length_nil]
 simp only[zU,seval]
 repeat((with_reducible apply aI);exact sdp)
 refine⟨_,_,qc7 rfl ?_,rfl,rfl⟩
 rfl
theorem Qml (a b:List (List UInt8)) (n:Nat) (hb:b.length=n) (ha:a.length<1000000) (hn:n<1000000) (B:Blk) (hB:qdw 1 (b.map .str) B):qal prog Gl 17 [.d (.sl (a.map .str)),.osl 0 0 n] [B] (fun r s=>r=.d (.bool (a==b))∧s=[B]):=by
 rcases hB with rfl|rfl
 ·refine qac func17 rfl rfl (by simp[ntmps17]) (qab rfl _ _ _ _ ?_)
  simp only[ntmps17,results17,qak,List.length_nil]
  simp only[zU,seval]
  (try simp only[zU,seval,hb])
  repeat((with_reducible apply aI);exact sdp)
  refine ifC.mk (fun h0=>?_) (fun h0=>?_)
  ·have h0:¬a.length=b.length:=by simp at h0;omega
   refine⟨_,_,qai [] [0] rfl (by simp) (show qbk _ _ _=AV.d _ from rfl) rfl,?_,rfl⟩
   have:(a==b)=false:=by
    rw[Bool.eq_false_iff];intro h;exact h0 (congrArg List.length (by simpa using h))
   rw[this]
  ·have h0:a.length=b.length:=by simp at h0;omega
   refine qan a.length (fun k=>[(0,.d (.sl (a.map .str))),(1,.osl 0 0 n),(5,.d (.int .i64 k))]) (fun _=>[.arr 1 (b.map .str)]) (fun k=>a.take k=b.take k) rfl ?_ ?_
   ·refine qaa [] [0] rfl (by simp) ?_ rfl
    simp only[zU,seval]
    all_goals rfl
   ·intro k hi hk
    by_cases h:k<a.length
    ·have hb2:k<b.length:=by omega
     have hb3:k<n:=by omega
     simp only[zU,seval,(show(k:Int)<a.length by omega),(show(k:Int)<n by omega),h,hb2,hb3,qah _ _ _ (show k<a.length by omega),qah _ _ _ (show k<b.length by omega)]
     repeat((with_reducible apply aI);exact sdp)
     refine ifC.mk (fun hc=>?_) (fun hc=>?_)
     ·have hc:¬a.getD k default=b.getD k default:=by simpa using hc
      refine⟨_,_,qai [] [0] rfl (by simp) (show qbk _ _ _=AV.d _ from rfl) rfl,?_,rfl⟩
      have:(a==b)=false:=by
       rw[Bool.eq_false_iff];intro h;exact hc (by rw[show a=b by simpa using h])
      rw[this]
     ·have hc:a.getD k default=b.getD k default:=by simpa using hc
      refine⟨by rw[qa0 a k h,qa0 b k hb2,hi,hc],?_⟩
      refine qaa [] [0] rfl (by simp) ?_ rfl
      simp only[zU,seval,@qaf ((k:Int)+1) (by omega)]
      all_goals rfl
    ·simp only[zU,seval,(show ¬(k:Int)<a.length by omega)]
     have:k=a.length:=by omega
     subst this
     refine⟨_,_,qai [] [0] rfl (by simp) (show qbk _ _ _=AV.d _ from rfl) rfl,?_,rfl⟩
     rw[List.take_length,h0,List.take_length] at hi
     rw[hi];simp
 ·refine qac func17 rfl rfl (by simp[ntmps17]) (qab rfl _ _ _ _ ?_)
  simp only[ntmps17,results17,qak,List.length_nil]
  simp only[zU,seval]
  (try simp only[zU,seval,hb])
  repeat((with_reducible apply aI);exact sdp)
  refine ifC.mk (fun h0=>?_) (fun h0=>?_)
  ·have h0:¬a.length=b.length:=by simp at h0;omega
   refine⟨_,_,qai [] [0] rfl (by simp) (show qbk _ _ _=AV.d _ from rfl) rfl,?_,rfl⟩
   have:(a==b)=false:=by
    rw[Bool.eq_false_iff];intro h;exact h0 (congrArg List.length (by simpa using h))
   rw[this]
  ·have h0:a.length=b.length:=by simp at h0;omega
   refine qan a.length (fun k=>[(0,.d (.sl (a.map .str))),(1,.osl 0 0 n),(5,.d (.int .i64 k))]) (fun _=>[.frz 1 (b.map .str)]) (fun k=>a.take k=b.take k) rfl ?_ ?_
   ·refine qaa [] [0] rfl (by simp) ?_ rfl
    simp only[zU,seval]
    all_goals rfl
   ·intro k hi hk
    by_cases h:k<a.length
    ·have hb2:k<b.length:=by omega
     have hb3:k<n:=by omega
     simp only[zU,seval,(show(k:Int)<a.length by omega),(show(k:Int)<n by omega),h,hb2,hb3,qah _ _ _ (show k<a.length by omega),qah _ _ _ (show k<b.length by omega)]
     repeat((with_reducible apply aI);exact sdp)
     refine ifC.mk (fun hc=>?_) (fun hc=>?_)
     ·have hc:¬a.getD k default=b.getD k default:=by simpa using hc
      refine⟨_,_,qai [] [0] rfl (by simp) (show qbk _ _ _=AV.d _ from rfl) rfl,?_,rfl⟩
      have:(a==b)=false:=by
       rw[Bool.eq_false_iff];intro h;exact hc (by rw[show a=b by simpa using h])
      rw[this]
     ·have hc:a.getD k default=b.getD k default:=by simpa using hc
      refine⟨by rw[qa0 a k h,qa0 b k hb2,hi,hc],?_⟩
      refine qaa [] [0] rfl (by simp) ?_ rfl
      simp only[zU,seval,@qaf ((k:Int)+1) (by omega)]
      all_goals rfl
    ·simp only[zU,seval,(show ¬(k:Int)<a.length by omega)]
     have:k=a.length:=by omega
     subst this
     refine⟨_,_,qai [] [0] rfl (by simp) (show qbk _ _ _=AV.d _ from rfl) rfl,?_,rfl⟩
     rw[List.take_length,h0,List.take_length] at hi
     rw[hi];simp
end YtljpopkonkanlaaGreatDoor
end Go.Proofs

set_option maxRecDepth 100000
namespace Go.Proofs
open Go.AM Tryz
namespace YtljpopkonkanlaaGreatDoor
theorem Qux (a b:qag):qf4 prog 57 .eql (.d a.toD) (.d b.toD)=True:=eq_true (by
 refine(show True∧(match qlx prog 57 with|some l=>qke l _ _=true|none=>False) from⟨trivial,?_⟩)
 rw[Qol];rfl)
theorem Qh7:qba prog G2 10 [] (.d (.bool true)):=by
 refine qba.of0 ?_
 refine qac func10 rfl rfl (by simp[ntmps10]) (qab rfl _ _ _ _ ?_)
 simp only[ntmps10,results10,qak,List.length_nil]
 simp only[zU,seval]
 repeat((with_reducible apply aI);exact sdp)
 refine qia (σ':=[.frz 3 (exL.map qao.toD),.frz 1 (exN.map .str)]) (Qrv exL qa7 exN (by decide) (by decide)) rfl rfl ?_
 rw[Qjr,Qng]
 simp only[zU,seval]
 repeat((with_reducible apply aI);exact sdp)
 refine qad q50 ?_
 simp only[zU,seval]
 refine qia (σ':=[.frz 3 (exL.map qao.toD),.frz 1 (exN.map .str)]) (Qip exL exA (by decide) Qsc Qjs Qcq (fun _=>Qni) (fun _=>by decide)) rfl rfl ?_
 have hl:=Qsb
 have hls:=Qnd
 have hla:=Qne
 have hsl:=Qjq
 have hcl:=Qsf
 rw[Qsd]
 obtain⟨R,hR⟩:∃R,R=(qoo exL exA).1:=⟨_,rfl⟩
 rw[←hR] at hl hls hla hsl hcl ⊢
 clear hR
 have hsn:R.slices.length=2:=by rw[hsl];rfl
 have hs0:(R.slices.map qag.toD).getD 0 default=(⟨1,-1,0,[97],0,10,8,false⟩:qag).toD:=by rw[hsl];rfl
 have hs1:(R.slices.map qag.toD).getD 1 default=(.agg [.int .i64 1,.int .i64 0,.int .i64 1,.str [99],.int .i64 3,.int .i64 5,.int .i64 2,.bool false]):=by rw[hsl];rfl
 simp only[zU,seval,hsn,hs0,hs1]
 repeat((with_reducible apply aI);exact sdp)
 refine q6r (v:=.bool (exW==exW)) 3 (fun B hB=>Qml exW exW 4 rfl (by decide) (by decide) B hB) (fun s=>rfl) rfl ?_
 have q1:qf0 prog 57 .eql (.agg [.int .i64 1,.int .i64 0,.int .i64 1,.str [99],.int .i64 3,.int .i64 5,.int .i64 2,.bool false]) (.agg [.int .i64 1,.int .i64 0,.int .i64 1,.str [99],.int .i64 3,.int .i64 5,.int .i64 2,.bool false])=True:=Qux exS exS
 have q2:qlc .eql (.agg [.int .i64 1,.int .i64 0,.int .i64 1,.str [99],.int .i64 3,.int .i64 5,.int .i64 2,.bool false]) (.agg [.int .i64 1,.int .i64 0,.int .i64 1,.str [99],.int .i64 3,.int .i64 5,.int .i64 2,.bool false])=.bool true:=rfl
 have hww:(exW==exW)=true:=by decide
 rw[hww]
 simp only[zU,seval,hsn,hs0,hs1,q1,q2]
 repeat((with_reducible apply aI);exact sdp)
 refine qnl (v:=.d (.bool true)) (xs:=[.sl (exL.map qao.toD),R.toD]) (fun _=>by rw[←hcl];exact Qix exL R (by decide) hl hls (Qhr hla)) (.cons (.osl (es:=3) (xs:=exL.map qao.toD) rfl rfl) (.cons (.d _) .nil)) ?_
 simp only[zU,seval]
 repeat((with_reducible apply aI);exact sdp)
 refine qay (v:=.d exA.toD) (fun _=>q50) ?_
 simp only[zU,seval]
 repeat((with_reducible apply aI);exact sdp)
 refine qnl (v:=.d (.bool false)) (xs:=[.sl (exL.map qao.toD),exA.toD]) (fun _=>by rw[←Qse];exact Qix exL exA (by decide) Qjs Qcq (Qhr Qnh)) (.cons (.osl (es:=3) (xs:=exL.map qao.toD) rfl rfl) (.cons (.d _) .nil)) ?_
 simp only[zU,seval]
 repeat((with_reducible apply aI);exact sdp)
 refine qnl (v:=.d (.str qv9)) (xs:=[.sl (exL.map qao.toD),.str qa6,.str [98,99]]) (fun _=>by rw[←Qvl];exact qgu exL qa6 [98,99] (by decide)) (.cons (.osl (es:=3) (xs:=exL.map qao.toD) rfl rfl) (.cons (.d _) (.cons (.d _) .nil))) ?_
 simp only[zU,seval,qv9]
 repeat((with_reducible apply aI);exact sdp)
 refine qnl (v:=.d (.str qhx)) (xs:=[.sl (exL.map qao.toD),.str qa6,.str [97]]) (fun _=>by rw[←Qvk];exact qgu exL qa6 [97] (by decide)) (.cons (.osl (es:=3) (xs:=exL.map qao.toD) rfl rfl) (.cons (.d _) (.cons (.d _) .nil))) ?_
 simp only[zU,seval,qhx]
 repeat((with_reducible apply aI);exact sdp)
 refine qnl (v:=.d (.int .i64 0)) (xs:=[.sl (exL.map qao.toD)]) (fun _=>by rw[←Qsg];exact q79 exL (by decide)) (.cons (.osl (es:=3) (xs:=exL.map qao.toD) rfl rfl) .nil) ?_
 simp only[zU,seval]
 repeat((with_reducible apply aI);exact sdp)
 exact⟨_,_,qap,rfl,rfl⟩
end YtljpopkonkanlaaGreatDoor
end Go.Proofs

set_option maxRecDepth 100000
namespace Go.Proofs
open Go.AM Tryz Go.ChangeShapes Go.WideShapes Go.ChangeAt Go.RowKit
namespace YtljpopkonkanlaaGreatDoor
theorem own:ownKnob prog.godebug=none:=by kernel_rfl
theorem Qri:laidOutB prog=true:=by kernel_rfl
def q7o:List (String×DataW Unit):=[("math/bits.deBruijn32tab", Rows.laid_math_bits_deBruijn32tab),("math/bits.deBruijn64tab", Rows.laid_math_bits_deBruijn64tab),("internal/strconv.uint64pow10", Rows.laid_internal_strconv_uint64pow10),("unicode/utf8.acceptRanges", Rows.laid_unicode_utf8_acceptRanges),("unicode/utf8.first", Rows.laid_unicode_utf8_first)]
theorem Qma (os:Os) (args:Array Value):laidMetH prog q7o ((World.laidAll prog os q7o).forCall (fun _ _=>0) ⟨#[],args,[]⟩).memory:=by
 rw[MakeChecks.laidMetH_plain _ _ _ (by kernel_rfl)];exact laidMet_laidAll _ (by kernel_rfl) (by kernel_rfl)
theorem Qlt:(prog.globals[3]?).map (·.type)=some 217:=by kernel_rfl
theorem Qem {W:World} (h:laidMetH prog q7o W) (I:Im) (hI:∀b,b<W.heap.size→I.rd b):qg5 G2 W I:=by
 rw[MakeChecks.laidMetH_plain _ _ _ (by kernel_rfl)] at h
 have h2:=(h.tail).tail
 have ht:Lib.TabIs prog W "internal/strconv.uint64pow10" .u64 Lib.pow10Tab:=
  Lib.tabIs_of_head (n:=20) qq9 Qlt (by kernel_rfl) (e:=204) (by kernel_rfl) (by kernel_rfl) (by kernel_rfl) h2
 refine q8e ht qq9 (hI _ ?_)
 have:=ht
 unfold Lib.TabIs World.var? at this
 rw[qq9] at this
 simp only[Option.bind_some] at this
 split at this
 ·rename_i hh
  exact(Array.getElem?_eq_some_iff.1 hh).1
 ·cases this
theorem q9w {xs:List D} (h:∀x∈xs,qf5 [.str] x.cells∧x.isAgg=false):∃l:List (List UInt8),xs=l.map .str∧∀y∈l,y.length≤maxLen:=
 qh4 fun x hx=>by
  obtain⟨s,hs,hl⟩:=Qpx (h x hx).1 (h x hx).2
  exact⟨s,hs,hl⟩
def Qxh (t:qaw):Prop:=(∀x∈t.threads,x.name.length≤maxLen)∧(∀x∈t.slices,x.name.length≤maxLen)∧(∀x∈t.samples,∀y∈x.stack,y.length≤maxLen)∧(∀x∈t.steps,x.name.length≤maxLen)∧(∀x∈t.blocks,∀y∈x.stack,y.length≤maxLen)
theorem Qq3 {x:D} (h:qf5 [.str,.str,.str] x.cells) (hg:x.isAgg=true):∃b:qao,x=b.toD:=by
 obtain⟨_,_,e1,⟨a0,rfl,_⟩,_,_,rfl,⟨a1,rfl,_⟩,_,_,rfl,⟨a2,rfl,_⟩,rfl⟩:=h
 exact⟨⟨a0,a1,a2⟩,qld hg e1⟩
theorem Qlw {x:D} (h:qv1 prog 5 22 x):∃l:List qao,x=.sl (l.map qao.toD)∧l.length≤maxLen:=by
 obtain⟨xs,rfl,hl,hx⟩:=Qg6 h (c:=.sl [.str,.str,.str] true) (by kernel_rfl) (by kernel_rfl)
 obtain⟨l,rfl⟩:=qun fun y hy=>Qq3 (hx y hy).1 (hx y hy).2
 exact⟨l,rfl,by simpa using hl⟩
theorem Qfu {x:D} (h:qf5 [.int .i64,.str,.int .i64] x.cells) (hg:x.isAgg=true):∃b:qaj,x=b.toD∧b.name.length≤maxLen:=by
 obtain⟨_,_,e1,⟨a0,rfl,_⟩,_,_,rfl,⟨a1,rfl,hb⟩,_,_,rfl,⟨a2,rfl,_⟩,rfl⟩:=h
 exact⟨⟨a0,a1,a2⟩,qld hg e1,hb⟩
theorem Qlf {x:D} (h:qf5 [.int .i64,.int .i64,.int .i64,.str,.int .i64,.int .i64,.int .i64,.bool] x.cells) (hg:x.isAgg=true):∃b:qag,x=b.toD∧b.name.length≤maxLen:=by
 obtain⟨_,_,e1,⟨a0,rfl,_⟩,_,_,rfl,⟨a1,rfl,_⟩,_,_,rfl,⟨a2,rfl,_⟩,_,_,rfl,⟨a3,rfl,hb⟩,_,_,rfl,⟨a4,rfl,_⟩,_,_,rfl,⟨a5,rfl,_⟩,_,_,rfl,⟨a6,rfl,_⟩,_,_,rfl,⟨a7,rfl⟩,rfl⟩:=h
 exact⟨⟨a0,a1,a2,a3,a4,a5,a6,a7⟩,qld hg e1,hb⟩
theorem Qle {x:D} (h:qf5 [.int .i64,.int .i64,.int .i64,.int .i64,.int .i64,.int .i64,.int .i64] x.cells) (hg:x.isAgg=true):∃b:qax,x=b.toD:=by
 obtain⟨_,_,e1,⟨a0,rfl,_⟩,_,_,rfl,⟨a1,rfl,_⟩,_,_,rfl,⟨a2,rfl,_⟩,_,_,rfl,⟨a3,rfl,_⟩,_,_,rfl,⟨a4,rfl,_⟩,_,_,rfl,⟨a5,rfl,_⟩,_,_,rfl,⟨a6,rfl,_⟩,rfl⟩:=h
 exact⟨⟨a0,a1,a2,a3,a4,a5,a6⟩,qld hg e1⟩
theorem Qr3 {x:D} (h:qf5 [.int .i64,.int .i64,.int .i64,.int .i64,.int .i64,.int .i64,.int .i64] x.cells) (hg:x.isAgg=true):∃b:qbf,x=b.toD:=by
 obtain⟨_,_,e1,⟨a0,rfl,_⟩,_,_,rfl,⟨a1,rfl,_⟩,_,_,rfl,⟨a2,rfl,_⟩,_,_,rfl,⟨a3,rfl,_⟩,_,_,rfl,⟨a4,rfl,_⟩,_,_,rfl,⟨a5,rfl,_⟩,_,_,rfl,⟨a6,rfl,_⟩,rfl⟩:=h
 exact⟨⟨a0,a1,a2,a3,a4,a5,a6⟩,qld hg e1⟩
theorem Qf5 {x:D} (h:qf5 [.int .i64,.int .i64,.int .i64,.sl [.str] false] x.cells) (hg:x.isAgg=true):∃b:qam,x=b.toD∧∀y∈b.stack,y.length≤maxLen:=by
 obtain⟨_,_,e1,⟨a0,rfl,_⟩,_,_,rfl,⟨a1,rfl,_⟩,_,_,rfl,⟨a2,rfl,_⟩,_,_,rfl,⟨xs3,rfl,_,hx3⟩,rfl⟩:=h
 obtain⟨a3,rfl,hb⟩:=q9w hx3
 exact⟨⟨a0,a1,a2,a3⟩,qld hg e1,hb⟩
theorem Qqz {x:D} (h:qf5 [.str,.int .i64,.int .i64] x.cells) (hg:x.isAgg=true):∃b:qa2,x=b.toD∧b.name.length≤maxLen:=by
 obtain⟨_,_,e1,⟨a0,rfl,hb⟩,_,_,rfl,⟨a1,rfl,_⟩,_,_,rfl,⟨a2,rfl,_⟩,rfl⟩:=h
 exact⟨⟨a0,a1,a2⟩,qld hg e1,hb⟩
theorem Qnr {x:D} (h:qf5 [.int .i64,.int .i64,.int .i64,.int .i64,.int .i64,.sl [.str] false,.bool] x.cells) (hg:x.isAgg=true):∃b:qar,x=b.toD∧∀y∈b.stack,y.length≤maxLen:=by
 obtain⟨_,_,e1,⟨a0,rfl,_⟩,_,_,rfl,⟨a1,rfl,_⟩,_,_,rfl,⟨a2,rfl,_⟩,_,_,rfl,⟨a3,rfl,_⟩,_,_,rfl,⟨a4,rfl,_⟩,_,_,rfl,⟨xs5,rfl,_,hx5⟩,_,_,rfl,⟨a6,rfl⟩,rfl⟩:=h
 obtain⟨a5,rfl,hb⟩:=q9w hx5
 exact⟨⟨a0,a1,a2,a3,a4,a5,a6⟩,qld hg e1,hb⟩
theorem Qrh {x:D} (h:qf5 [.int .i64,.int .i64,.int .i64,.int .i64] x.cells) (hg:x.isAgg=true):∃b:qbr,x=b.toD:=by
 obtain⟨_,_,e1,⟨a0,rfl,_⟩,_,_,rfl,⟨a1,rfl,_⟩,_,_,rfl,⟨a2,rfl,_⟩,_,_,rfl,⟨a3,rfl,_⟩,rfl⟩:=h
 exact⟨⟨a0,a1,a2,a3⟩,qld hg e1⟩
theorem Qq1:qhw prog 5 45=some [.int .i64,.int .i64,.sl [.int .i64,.str,.int .i64] true,.sl [.int .i64,.int .i64,.int .i64,.str,.int .i64,.int .i64,.int .i64,.bool] true,.sl [.int .i64,.int .i64,.int .i64,.int .i64,.int .i64,.int .i64,.int .i64] true,.sl [.int .i64,.int .i64,.int .i64,.int .i64,.int .i64,.int .i64,.int .i64] true,.sl [.int .i64,.int .i64,.int .i64,.sl [.str] false] true,.sl [.str,.int .i64,.int .i64] true,.sl [.int .i64,.int .i64,.int .i64,.int .i64,.int .i64,.sl [.str] false,.bool] true,.sl [.int .i64,.int .i64,.int .i64,.int .i64] true]:=by kernel_rfl
theorem Qlv {x:D} (h:qv1 prog 5 45 x):∃t:qaw,x=t.toD∧Qxh t:=by
 obtain⟨h1,h2⟩:=Qlu h Qq1 (g:=true) (by kernel_rfl)
 obtain⟨_,_,e1,⟨l0,rfl,_⟩,_,_,rfl,⟨l1,rfl,_⟩,_,_,rfl,⟨xs0,rfl,_,hx0⟩,_,_,rfl,⟨xs1,rfl,_,hx1⟩,_,_,rfl,⟨xs2,rfl,_,hx2⟩,_,_,rfl,⟨xs3,rfl,_,hx3⟩,_,_,rfl,⟨xs4,rfl,_,hx4⟩,_,_,rfl,⟨xs5,rfl,_,hx5⟩,_,_,rfl,⟨xs6,rfl,_,hx6⟩,_,_,rfl,⟨xs7,rfl,_,hx7⟩,rfl⟩:=h1
 obtain⟨m0,rfl,b0⟩:=qh4 fun y hy=>Qfu (hx0 y hy).1 (hx0 y hy).2
 obtain⟨m1,rfl,b1⟩:=qh4 fun y hy=>Qlf (hx1 y hy).1 (hx1 y hy).2
 obtain⟨m2,rfl⟩:=qun fun y hy=>Qle (hx2 y hy).1 (hx2 y hy).2
 obtain⟨m3,rfl⟩:=qun fun y hy=>Qr3 (hx3 y hy).1 (hx3 y hy).2
 obtain⟨m4,rfl,b4⟩:=qh4 fun y hy=>Qf5 (hx4 y hy).1 (hx4 y hy).2
 obtain⟨m5,rfl,b5⟩:=qh4 fun y hy=>Qqz (hx5 y hy).1 (hx5 y hy).2
 obtain⟨m6,rfl,b6⟩:=qh4 fun y hy=>Qnr (hx6 y hy).1 (hx6 y hy).2
 obtain⟨m7,rfl⟩:=qun fun y hy=>Qrh (hx7 y hy).1 (hx7 y hy).2
 exact⟨⟨l0,l1,m0,m1,m2,m3,m4,m5,m6,m7⟩,qld h2 e1,b0,b1,b4,b5,b6⟩

theorem Qhy (l:List qao) (t:qaw) (hl:l.length≤maxLen):qba prog G2 6 [.d (.sl (l.map qao.toD)),.d t.toD] (.d (.bool true)):=by
 refine qba.of2 ?_
 refine qac func6 rfl rfl (by simp[ntmps6]) (qab rfl _ _ _ _ ?_)
 simp only[ntmps6,results6,qak,List.length_nil]
 simp only[zU,seval]
 refine qad (Qwf l t hl) ?_
 simp only[zU,seval]
 refine ifC.mk (fun h0=>?_) (fun h0=>?_)
 ·refine qad Qh7 ?_
  simp only[zU,seval]
  exact⟨_,_,qap,rfl,rfl⟩
 have h0:l.length≤50∧Qnc t=true:=by
  simp only[Bool.not_eq_false',Bool.and_eq_true,decide_eq_true_eq] at h0
  exact h0
 obtain⟨h0,hfew⟩:=h0
 obtain⟨ht,hs,hfr⟩:=Qr7 hfew
 have hf:=Qjm hfew
 (try simp only[zU,seval])
 refine qad (Qip l t (by omega) hf ht hs q10 (fun _=>by omega)) ?_
 simp only[zU,seval]
 repeat((with_reducible apply aI);exact sdp)
 have hw:=Qqs l t
 refine qad (Qmw l t (by omega) hf ht hs q10 (Qfl ht) (q9p hs) (by omega)) ?_
 rw[Qo5]
 obtain⟨q1,q2⟩:=Qqw (l:=l) ⟨ht,hs⟩
 obtain⟨R,hR⟩:∃R,R=qoo l t:=⟨_,rfl⟩
 rw[←hR] at q1 q2 ⊢
 simp only[zU,seval]
 repeat((with_reducible apply aI);exact sdp)
 refine qad (Qmt R.1 q1 q2) ?_
 simp only[zU,seval,beq_self_eq_true]
 repeat((with_reducible apply aI);exact sdp)
 refine qay (fun _=>Qh7) ?_
 simp only[zU,seval]
 repeat((with_reducible apply aI);exact sdp)
 exact⟨_,_,qap,rfl,rfl⟩
theorem q62 (xs:List D) (h:qri prog 5 Tryz.f6.params.toList xs):qal prog G2 6 (xs.map AV.d) [] (fun r _=>r=.d (.bool true)):=by
 rw[params6] at h
 obtain⟨x,_,rfl,h1,y,_,rfl,h2,rfl⟩:=h
 obtain⟨l,rfl,l1⟩:=Qlw h1
 obtain⟨t,rfl,_⟩:=Qlv h2
 exact(Qhy l t l1 []).mono fun r s h=>h.1
end YtljpopkonkanlaaGreatDoor
end Go.Proofs
