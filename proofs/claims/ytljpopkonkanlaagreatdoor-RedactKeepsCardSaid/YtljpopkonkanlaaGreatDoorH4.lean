/- A part of the proof: contracts of functions of this seat, and lemmas. No condition beyond those stated. -/
import Derived.Test.YtljpopkonkanlaaGreatDoorH3
import Derived.Test.YtljpopkonkanlaaGreatDoorG4
import Derived.Lib.ItoaLen
import Derived.Test.YtljpopkonkanlaaGreatDoorRows
import Derived.Test.YtljpopkonkanlaaGreatDoorCards
import Derived.Test.YtljpopkonkanlaaGreatDoorTie
import Derived.ProofKit
import Derived.LaidMore
import Derived.OpenShut
import Derived.Stop.Joined
import Derived.Stop.LaidErr
import Derived.SevenTiedAt
import Derived.MakeChecks
import Derived.Lay
set_option linter.unusedVariables false
set_option linter.unusedSimpArgs false
set_option linter.unusedSectionVars false
set_option linter.unnecessarySimpa false
set_option maxRecDepth 100000
namespace Go.Proofs
open Go.AM Tryz
namespace YtljpopkonkanlaaGreatDoor
variable {Gl:qbb}
theorem Qf7 (a b:qas):(a.state==b.state&&a.cpu==b.cpu&&a.on_==b.on_)=q2t b a:=by
 unfold q2t;rw[Bool.beq_comm (a:=a.state),Bool.beq_comm (a:=a.cpu),Bool.beq_comm (a:=a.on_)]
theorem Qno (a b:Int):(a !=b)=(b !=a):=by rw[Bool.eq_iff_iff];simp;exact⟨fun h e=>h e.symm,fun h e=>h e.symm⟩
set_option maxHeartbeats 4000000 in
theorem q3t (ths:List qai) (hth:ths.length<1000000) (l:List qas) (hl:l.length<1000000):qbc prog Gl 178 [.d (.sl (ths.map qai.toD)),.d (.sl (l.map qas.toD))] (.d (.int .i64 (qei ths l))):=by
 refine qbc.of2 ?_
 refine qac func178 rfl rfl (by simp[ntmps178]) (qab rfl _ _ _ _ ?_)
 simp only[ntmps178,results178,qak,List.length_nil]
 simp only[zC,seval]
 refine qaf (Qaf ths hth) ?_
 obtain⟨dt,hdt⟩:∃dt,dt=qkw ths:=⟨_,rfl⟩
 obtain⟨ids,hids⟩:∃ids,ids=qc5 ths:=⟨_,rfl⟩
 have hmap:dt.map (fun y=>y.id)=ids:=by
  have:=qw9 ths ths.length
  rw[List.take_length] at this
  rw[hdt,hids,this]
 have hdl:dt.length=ids.length:=by rw[←hmap,List.length_map]
 have hil:ids.length<1000000:=by
  have:=qkx ths ths.length
  rw[List.take_length] at this
  rw[hids];omega
 have hix:∀x,qet (fun y:qai=>y.id==x) dt=qez ids x:=fun x=>by rw[←q33,hmap];rfl
 obtain⟨F,hF⟩:∃F,F=qei ths l:=⟨_,rfl⟩
 rw[←hF,←hdt]
 rw[qei,←hids] at hF
 simp only[zC,seval]
 by_cases h0:l.length=0
 ·have hl0:l=[]:=List.length_eq_zero_iff.1 h0
  subst hl0
  simp only[zC,seval,Int.cast_ofNat_Int,List.length_nil]
  refine⟨_,_,qaq,?_,rfl⟩
  rw[hF];rfl
 ·simp only[zC,seval,qxp (show ¬((l.length:Int)=0) by omega)]
  refine qap l.length (fun k=>[(0,.d (.sl (dt.map qai.toD))),(1,.d (.sl (l.map qas.toD))),(5,.d (.int .i64 (atU ids l k))),(6,.d (.int .i64 k))]) (fun _=>[]) (fun k=>qa3 (uAt ids l) k=0) rfl ?_ ?_
  ·refine qaa [] [] rfl List.nodup_nil ?_ rfl
   simp only[zC,seval,Int.cast_ofNat_Int,atU]
  ·intro k hi hk
   by_cases h:k<l.length
   ·have hb:∀e,uAt ids l k=e→e≠0→F=e:=fun e h1 h2=>by
     have:=qby hi (by rw[h1];exact h2) h
     rw[hF,this,h1,if_pos h2]
    obtain⟨b,eb⟩:∃b,b=l.getD k default:=⟨_,rfl⟩
    simp only[zC,seval,(show(k:Int)<l.length by omega),h,qaj _ _ _ (show k<l.length by omega),←eb]
    repeat((with_reducible apply aI);exact sdp)
    refine qaf (Qlx dt b.thread (by omega)) ?_
    rw[hix]
    obtain⟨i,ei⟩:∃i,i=qez ids b.thread:=⟨_,rfl⟩
    have hi1:=q32 ids b.thread
    have hi2:qez ids b.thread<ids.length:=qmv _ _
    rw[←ei] at hi1 hi2 ⊢
    have hu:uAt ids l k=if i<0 then 5 else if qfh b.lo b.hi=false then 2 else if qc0 b=false then 1 else if q1f ids l k=true then 11 else 0:=by rw[uAt,←eb,←ei]
    have hat:atU ids l (k+1)=i:=by rw[atU,←eb,←ei]
    simp only[zC,seval]
    by_cases h1:i<0
    ·rw[if_pos h1] at hu
     simp only[zC,seval,(show i<0 by omega)]
     refine⟨_,_,qaq,?_,rfl⟩
     rw[hb 5 hu (by omega)]
    ·rw[if_neg h1] at hu
     simp only[zC,seval,(show ¬i<0 by omega),(show(k:Int)<l.length by omega),h,qaj _ _ _ (show k<l.length by omega),←eb]
     repeat((with_reducible apply aI);exact sdp)
     refine qaf (q3v _ _) ?_
     cases h2:qfh b.lo b.hi with
     | false=>
      simp only[zC,seval,Bool.not_false]
      refine⟨_,_,qaq,?_,rfl⟩
      rw[if_pos h2] at hu
      rw[hb 2 hu (by omega)]
     | true=>
      simp only[zC,seval,Bool.not_true,(show(k:Int)<l.length by omega),h,qaj _ _ _ (show k<l.length by omega),←eb]
      repeat((with_reducible apply aI);exact sdp)
      rw[if_neg (by rw[h2];simp)] at hu
      refine qaf (Quz _) ?_
      cases h3:qc0 b with
      | false=>
       simp only[zC,seval,Bool.not_false]
       refine⟨_,_,qaq,?_,rfl⟩
       rw[if_pos h3] at hu
       rw[hb 1 hu (by omega)]
      | true=>
       rw[if_neg (by rw[h3];simp)] at hu
       have hge:=Qft ids l k
       have hlt:=Qfs ids l k
       by_cases hk0:0<k
       ·have e1:IntKind.i64.wrap ((k:Int)-1)=((k-1:Nat):Int):=by rw[qbd (by omega) (by omega)];omega
        obtain⟨a,ea⟩:∃a,a=l.getD (k-1) default:=⟨_,rfl⟩
        have hatk:atU ids l k=qez ids a.thread:=by
         obtain⟨j,rfl⟩:∃j,k=j+1:=⟨k-1,by omega⟩
         rw[atU,ea];rfl
        simp only[zC,seval,Bool.not_true,(show(0:Int)<k by omega),e1,(show((k-1:Nat):Int)<l.length by omega),(show k-1<l.length by omega),qaj _ _ _ (show k-1<l.length by omega),←ea,(show(k:Int)<l.length by omega),h,qaj _ _ _ (show k<l.length by omega),←eb]
        repeat((with_reducible apply aI);exact sdp)
        cases h4:(a.thread==b.thread) with
        | true=>
         have hE:i=atU ids l k:=by rw[hatk,ei,beq_iff_eq.1 h4]
         have e5:(i==atU ids l k)=true:=by simpa using hE
         have e6:(i !=atU ids l k)=false:=by simpa using hE
         have ho:q1f ids l k=(b.lo !=a.hi||q2t b a):=by
          unfold q1f;simp only[←eb,←ea,←ei,e5,e6,Bool.true_and,Bool.false_and,Bool.or_false]
         simp only[zC,seval,(show(0:Int)<k by omega),e1,(show((k-1:Nat):Int)<l.length by omega),(show k-1<l.length by omega),qaj _ _ _ (show k-1<l.length by omega),←ea,(show(k:Int)<l.length by omega),h,qaj _ _ _ (show k<l.length by omega),←eb]
         repeat((with_reducible apply aI);exact sdp)
         (try simp only[zC,seval,(show(0:Int)<k by omega),e1,(show((k-1:Nat):Int)<l.length by omega),(show k-1<l.length by omega),qaj _ _ _ (show k-1<l.length by omega),←ea,(show(k:Int)<l.length by omega),h,qaj _ _ _ (show k<l.length by omega),←eb])
         repeat((with_reducible apply aI);exact sdp)
         rw[show(a.hi !=b.lo||(a.state==b.state&&a.cpu==b.cpu&&a.on_==b.on_))=q1f ids l k from by rw[ho,Qno,Qf7]]
         refine ifC.mk (fun h5=>?_) (fun h5=>?_)
         ·refine⟨_,_,qaq,?_,rfl⟩
          rw[if_pos h5] at hu
          rw[hb 11 hu (by omega)]
         ·rw[if_neg (by rw[h5];simp)] at hu
          have hat:atU ids l (k+1)=atU ids l k:=by rw[hat,hE]
          refine⟨qa2 hi hu,?_⟩
          refine qaa [] [] rfl List.nodup_nil ?_ rfl
          simp only[zC,seval,@qag ((k:Int)+1) (by omega),hat]
        | false=>
         have h4b:a.thread≠b.thread:=by simpa using h4
         have hE:i≠atU ids l k:=fun e=>by
          rw[hatk] at e
          refine h4b ((Qev (ids:=ids) (x:=b.thread) (y:=a.thread) ?_ ?_).symm)
          ·rw[←ei];omega
          ·rw[←ei];exact e
         have e5:(i==atU ids l k)=false:=by simpa using hE
         have e6:(i !=atU ids l k)=true:=by simpa using hE
         have ho:q1f ids l k=(i !=atU ids l k+1||b.lo !=0):=by
          unfold q1f;simp only[←eb,←ei,e5,e6,Bool.true_and,Bool.false_and,Bool.false_or]
         simp only[zC,seval,@qag (atU ids l k+1) (by omega),(show(k:Int)<l.length by omega),h,qaj _ _ _ (show k<l.length by omega),←eb]
         repeat((with_reducible apply aI);exact sdp)
         rw[show(b.lo !=0||i !=atU ids l k+1)=q1f ids l k from by rw[ho,Bool.or_comm]]
         refine ifC.mk (fun h5=>?_) (fun h5=>?_)
         ·refine⟨_,_,qaq,?_,rfl⟩
          rw[if_pos h5] at hu
          rw[hb 11 hu (by omega)]
         ·rw[if_neg (by rw[h5];simp)] at hu
          refine⟨qa2 hi hu,?_⟩
          refine qaa [] [] rfl List.nodup_nil ?_ rfl
          simp only[zC,seval,@qag ((k:Int)+1) (by omega),hat]
       ·have hk00:k=0:=by omega
        have e0:(IntKind.i64.wrap ((k:Int)-1)).toNat=0:=by rw[qbd (by omega) (by omega)];omega
        have hatk:atU ids l k=-1:=by rw[hk00];rfl
        have e5:(i==atU ids l k)=false:=by rw[hatk];exact qxp (show ¬(i=-1) by omega)
        have e6:(i !=atU ids l k)=true:=by rw[bne,e5];rfl
        have ho:q1f ids l k=(i !=atU ids l k+1||b.lo !=0):=by
         unfold q1f;simp only[←eb,←ei,e5,e6,Bool.true_and,Bool.false_and,Bool.false_or]
        simp only[zC,seval,Bool.not_true,(show ¬(0:Int)<k by omega),e0,qaj _ _ _ (show 0<l.length by omega),(show(k:Int)<l.length by omega),h,qaj _ _ _ (show k<l.length by omega),←eb]
        repeat((with_reducible apply aI);exact sdp)
        (try simp only[zC,seval,@qag (atU ids l k+1) (by omega),(show ¬(0:Int)<k by omega),e0,qaj _ _ _ (show 0<l.length by omega),(show(k:Int)<l.length by omega),h,qaj _ _ _ (show k<l.length by omega),←eb])
        repeat((with_reducible apply aI);exact sdp)
        rw[show(b.lo !=0||i !=atU ids l k+1)=q1f ids l k from by rw[ho,Bool.or_comm]]
        refine ifC.mk (fun h5=>?_) (fun h5=>?_)
        ·refine⟨_,_,qaq,?_,rfl⟩
         rw[if_pos h5] at hu
         rw[hb 11 hu (by omega)]
        ·rw[if_neg (by rw[h5];simp)] at hu
         refine⟨qa2 hi hu,?_⟩
         refine qaa [] [] rfl List.nodup_nil ?_ rfl
         simp only[zC,seval,@qag ((k:Int)+1) (by omega),hat]
   ·simp only[zC,seval,(show ¬(k:Int)<l.length by omega)]
    have:k=l.length:=by omega
    subst this
    rw[hi,if_neg (by simp),if_neg h0] at hF
    have hge:=Qft ids l l.length
    have hlt:=Qfs ids l l.length
    simp only[zC,seval,@qag ((dt.length:Int)-1) (by omega)]
    refine ifC.mk (fun h5=>?_) (fun h5=>?_)
    ·refine⟨_,_,qaq,?_,rfl⟩
     have h5:atU ids l l.length≠(dt.length:Int)-1:=by simpa using h5
     have hq:(if atU ids l l.length+1=(ids.length:Int) then(0:Int) else 11)=11:=if_neg (by omega)
     rw[hq] at hF
     rw[hF]
     split<;>rfl
    ·have h5:atU ids l l.length=(dt.length:Int)-1:=by simpa using h5
     have e2:IntKind.i64.wrap ((l.length:Int)-1)=((l.length-1:Nat):Int):=by rw[qbd (by omega) (by omega)];omega
     have hq:(if atU ids l l.length+1=(ids.length:Int) then(0:Int) else 11)=0:=if_pos (by omega)
     rw[hq] at hF
     refine qap (l.length-1) (fun k=>[(1,.d (.sl (l.map qas.toD))),(9,.d (.int .i64 ((k:Int)+1)))]) (fun _=>[]) (fun k=>(List.range k).all (qkv l)=true) rfl ?_ ?_
     ·refine qaa [] [] rfl List.nodup_nil ?_ rfl
      simp only[zC,seval,Int.cast_ofNat_Int]
     ·intro k hj hk
      by_cases h:k<l.length-1
      ·obtain⟨b,eb⟩:∃b,b=l.getD k default:=⟨_,rfl⟩
       obtain⟨c,ec⟩:∃c,c=l.getD (k+1) default:=⟨_,rfl⟩
       have hbad:qkv l k=false→F=11:=fun h1=>by rw[hF,if_pos (qce (by omega) h1)]
       have hat:qkv l k=!(c.thread !=b.thread&&b.hi !=(l.getD (l.length-1) default).hi):=by
        unfold qkv;rw[qxp (show ¬((k:Int)+1=l.length) by omega),←eb,←ec,Bool.false_or]
       have e3:((k:Int)+1).toNat=k+1:=by omega
       have e4:IntKind.i64.wrap ((k:Int)+1-1)=(k:Int):=by rw[qbd (by omega) (by omega)];omega
       simp only[zC,seval,(show(k:Int)+1<l.length by omega),e3,e4,e2,(show(0:Int)≤(k:Int)+1 by omega),(show k+1<l.length by omega),qaj _ _ _ (show k+1<l.length by omega),←ec,(show(k:Int)<l.length by omega),(show k<l.length by omega),qaj _ _ _ (show k<l.length by omega),←eb,(show((l.length-1:Nat):Int)<l.length by omega),(show l.length-1<l.length by omega),qaj _ _ _ (show l.length-1<l.length by omega)]
       repeat((with_reducible apply aI);exact sdp)
       (try simp only[zC,seval,(show(k:Int)+1<l.length by omega),e3,e4,e2,(show(0:Int)≤(k:Int)+1 by omega),(show k+1<l.length by omega),qaj _ _ _ (show k+1<l.length by omega),←ec,(show(k:Int)<l.length by omega),(show k<l.length by omega),qaj _ _ _ (show k<l.length by omega),←eb,(show((l.length-1:Nat):Int)<l.length by omega),(show l.length-1<l.length by omega),qaj _ _ _ (show l.length-1<l.length by omega)])
       repeat((with_reducible apply aI);exact sdp)
       refine ifC.mk (fun h6=>?_) (fun h6=>?_)
       ·refine⟨_,_,qaq,?_,rfl⟩
        rw[hbad (by rw[hat,h6];rfl)]
       ·refine⟨h,by rw[qcn,hj,hat,h6];rfl,?_⟩
        refine qaa [] [] rfl List.nodup_nil ?_ rfl
        simp only[zC,seval,@qag ((k:Int)+1+1) (by omega)]
      ·simp only[zC,seval,(show ¬(k:Int)+1<l.length by omega)]
       have hkn:k=l.length-1:=by omega
       have hlast:qkv l k=true:=by
        unfold qkv;rw[hkn];simp
       have hall:(List.range l.length).all (qkv l)=true:=by
        rw[show l.length=k+1 by omega,qcn,hj,hlast];rfl
       refine⟨_,_,qaq,?_,rfl⟩
       rw[hF,if_neg (by rw[hall];simp)]

theorem qel (b:Bool):(b&&false)=false:=Bool.and_false b
theorem qwo (a b c d:Int):qbc prog Gl 56 [.d (.agg [.int .i64 a,.int .i64 b]),.d (.agg [.int .i64 c,.int .i64 d])] (.d (.bool (qds a b c d))):=by
 refine qbc.of2 ?_
 refine qac func56 rfl rfl (by simp[ntmps56]) (qab rfl _ _ _ _ ?_)
 simp only[ntmps56,results56,qak,List.length_nil]
 simp only[zC,seval]
 exact⟨_,_,qaq,rfl,rfl⟩
theorem qok (a b n:Int):qbc prog Gl 57 [.d (.int .i64 n),.d (.agg [.int .i64 a,.int .i64 b])] (.d (.bool (qdb a b n))):=by
 refine qbc.of2 ?_
 refine qac func57 rfl rfl (by simp[ntmps57]) (qab rfl _ _ _ _ ?_)
 simp only[ntmps57,results57,qak,List.length_nil]
 simp only[zC,seval]
 exact⟨_,_,qaq,rfl,rfl⟩
theorem qkr (t:qat) (ht:t.Few) (n:Int):qbc prog Gl 28 [.d t.toD,.d (.int .i64 n)] (.d (.bool (qd0 t.threads n))):=by
 refine qbc.of2 ?_
 have hl:=ht.threads
 refine qac func28 rfl rfl (by simp[ntmps28]) (qab rfl _ _ _ _ ?_)
 simp only[ntmps28,results28,qak,List.length_nil]
 simp only[zC,seval]
 refine qap t.threads.length (fun k=>[(1,.d (.int .i64 n)),(2,.ptr 0 0),(5,.d (.int .i64 k))]) (fun _=>[.box 10 (.d t.toD)]) (fun k=>(t.threads.take k).any (fun x=>x.id==n)=false) rfl ?_ ?_
 ·refine qaa [] [0] rfl (by simp) ?_ rfl
  simp only[zC,seval,Int.cast_ofNat_Int]
  all_goals rfl
 ·intro k hi hk
  by_cases h:k<t.threads.length
  ·have hs:=qcs (fun x:qai=>x.id==n) t.threads k h
   simp only[zC,seval,(show(k:Int)<t.threads.length by omega),h,qaj _ _ _ (show k<t.threads.length by omega)]
   repeat((with_reducible apply aI);exact sdp)
   refine ifC.mk (fun hc=>?_) (fun hc=>?_)
   ·refine⟨_,_,qaq,?_,rfl⟩
    rw[show qd0 t.threads n=true from Qt0 (fun x:qai=>x.id==n) t.threads k h hc]
   ·refine⟨by rw[hs,hi,hc];rfl,?_⟩
    refine qaa [] [0] rfl (by simp) ?_ rfl
    simp only[zC,seval,@qag ((k:Int)+1) (by omega)]
    all_goals rfl
  ·simp only[zC,seval,(show ¬(k:Int)<t.threads.length by omega)]
   have:k=t.threads.length:=by omega
   subst this
   rw[List.take_length] at hi
   refine⟨_,_,qaq,?_,rfl⟩
   rw[show qd0 t.threads n=false from hi]
def qcb {α:Type} (e:Int) (p:α→Bool) (l:List α):Int:=if e≠0 then e else if l.all p=true then 0 else 5
theorem q3g {α:Type} {e:Int} (h:e≠0) (p:α→Bool) (l:List α):qcb e p l=e:=by rw[qcb,if_pos h]
theorem q3f {α:Type} (p:α→Bool) (l:List α):qcb 0 p l=if l.all p=true then 0 else 5:=by rw[qcb,if_neg (by simp)]
theorem qlc {α:Type} (e:Int) (p:α→Bool):qcb e p []=e:=by
 unfold qcb
 by_cases h:e=0
 ·subst h;rfl
 ·rw[if_pos h]
theorem qi3 {α:Type} [Inhabited α] {e:Int} {p:α→Bool} {l:List α} {k:Nat} (h:k<l.length) (hz:qcb e p (l.take k)=0):qcb e p (l.take (k+1))=if(!p (l.getD k default))=true then 5 else 0:=by
 have he:e=0:=by
  by_cases h0:e=0
  ·exact h0
  ·rw[q3g h0] at hz;exact hz
 subst he
 rw[q3f] at hz ⊢
 rw[qc1 p l k h]
 cases ha:(l.take k).all p
 ·rw[ha] at hz;simp at hz
 ·cases hp:p (l.getD k default)<;>simp
theorem qi2 {α:Type} [Inhabited α] {e:Int} {p:α→Bool} {l:List α} {k:Nat} (hz:qcb e p (l.take k)≠0):qcb e p l=qcb e p (l.take k):=by
 by_cases h0:e=0
 ·subst h0
  rw[q3f] at hz ⊢
  rw[q3f]
  cases ha:(l.take k).all p
  ·have:l.all p=false:=by
    cases hb:l.all p
    ·rfl
    ·rw[List.all_eq_true] at hb
     have:(l.take k).all p=true:=List.all_eq_true.2 fun x hx=>hb x (List.mem_of_mem_take hx)
     rw[this] at ha;cases ha
   rw[this]
  ·rw[ha] at hz;simp at hz
 ·rw[q3g h0,q3g h0]
def Qov (t:qat):Int:=
 let e1:=qcb (qej t.slices) (fun x=>qd0 t.threads x.thread) t.slices
 if e1≠0 then e1 else if qei t.threads t.states≠0 then qei t.threads t.states else
 let e4:=qcb (qhy t.flows) (fun x=>qd0 t.threads x.ft&&qd0 t.threads x.tt) t.flows
 if e4≠0 then e4 else
 let e6:=qcb (qdx t.samples) (fun x=>qd0 t.threads x.thread) t.samples
 if e6≠0 then e6 else if qhg t.steps≠0 then qhg t.steps else
 let e9:=qcb (bkF t.blocks) (fun x=>qd0 t.threads x.thread) t.blocks
 if e9≠0 then e9 else qsb (qd0 t.threads) t.lost
theorem q9n (t:qat) (h:qbu t.threads=0):qfb t=Qov t:=by
 have hf:qcr (qcr (qhy t.flows) (qd0 t.threads) (fun x=>x.ft) t.flows) (qd0 t.threads) (fun x=>x.tt) t.flows=qcb (qhy t.flows) (fun x=>qd0 t.threads x.ft&&qd0 t.threads x.tt) t.flows:=by
  unfold qcr qcb
  by_cases h0:qhy t.flows=0
  ·rw[h0]
   have e:(t.flows.all fun x=>qd0 t.threads x.ft&&qd0 t.threads x.tt)=((t.flows.all fun x=>qd0 t.threads x.ft)&&t.flows.all fun x=>qd0 t.threads x.tt):=by
    induction t.flows with
    | nil=>rfl
    | cons x l ih=>
     simp only[List.all_cons,ih]
     cases qd0 t.threads x.ft<;>cases qd0 t.threads x.tt<;>simp
   rw[e]
   cases (t.flows.all fun x=>qd0 t.threads x.ft)<;>cases (t.flows.all fun x=>qd0 t.threads x.tt)<;>simp
  ·simp[h0]
 unfold qfb
 rw[if_neg (by rw[h];simp),hf]
 rfl
theorem q36 {f:Nat→Int} {k n:Nat} (h:qa3 f k≠0) (hk:k≤n):qa3 f n=qa3 f k:=by
 induction n with
 | zero=>
  have:k=0:=by omega
  subst this;rfl
 | succ n ih=>
  by_cases e:k=n+1
  ·rw[e]
  ·rw[qa3,ih (by omega),if_neg h]
set_option maxHeartbeats 8000000 in
theorem Qyi (t:qat) (ht:t.Few):qbc prog Gl 130 [.d t.toD] (.d (.int .i64 (Qov t))):=by
 refine qbc.of1 ?_
 obtain⟨F,hF⟩:∃F,F=Qov t:=⟨_,rfl⟩
 rw[←hF]
 unfold Qov at hF
 simp only at hF
 refine qac func130 rfl rfl (by simp[ntmps130]) (qab rfl _ _ _ _ ?_)
 simp only[ntmps130,results130,qak,List.length_nil]
 simp only[zC,seval]
 refine qaf (q3u _ ht.slices) ?_
 obtain⟨E0,eE0⟩:∃E0,E0=qej t.slices:=⟨_,rfl⟩
 rw[←eE0] at hF ⊢
 simp only[zC,seval]
 repeat((with_reducible apply aI);exact sdp)
 have hlk:=ht.slices
 obtain⟨Q,hQ⟩:∃Q:qae→Bool,Q=fun x=>qd0 t.threads x.thread:=⟨_,rfl⟩
 rw[←hQ] at hF
 refine qap t.slices.length (fun k=>[(1,.ptr 0 0),(3,.d (.int .i64 (qcb E0 Q (t.slices.take k)))),(4,.d (.int .i64 k))]) (fun _=>[.box 10 (.d t.toD)]) (fun _=>True) trivial ?_ ?_
 ·refine qaa [] [0] rfl (by simp) ?_ rfl
  simp only[zC,seval,Int.cast_ofNat_Int,List.take_zero,qlc]
  all_goals rfl
 ·intro k _ hk
  by_cases hg:k<t.slices.length∧qcb E0 Q (t.slices.take k)=0
  ·obtain⟨h,hz⟩:=hg
   have hs:=qi3 h hz
   obtain⟨b,eb⟩:∃b,b=t.slices.getD k default:=⟨_,rfl⟩
   rw[←eb] at hs
   simp only[zC,seval,hz,(show(k:Int)<t.slices.length by omega),h,qaj _ _ _ (show k<t.slices.length by omega),←eb,beq_self_eq_true]
   repeat((with_reducible apply aI);exact sdp)
   refine qaf (qkr t ht _) ?_
   simp only[zC,seval]
   refine ifC.mk (fun h5=>?_) (fun h5=>?_)
   ·rw[if_pos (by rw[hQ];exact h5)] at hs
    repeat((with_reducible apply aI);exact sdp)
    refine qaa [] [0] rfl (by simp) ?_ rfl
    simp only[zC,seval,hs,@qag ((k:Int)+1) (by omega)]
    all_goals rfl
   ·rw[if_neg (by rw[hQ,h5];simp)] at hs
    refine qaa [] [0] rfl (by simp) ?_ rfl
    simp only[zC,seval,hs,hz,@qag ((k:Int)+1) (by omega)]
    all_goals rfl
  ·have hc:(decide ((k:Int)<t.slices.length)&&(qcb E0 Q (t.slices.take k)==0))=false:=by
    rw[Bool.and_eq_false_iff,decide_eq_false_iff_not]
    rcases Nat.lt_or_ge k t.slices.length with h1|h1
    ·exact .inr (by simpa using fun hz=>hg ⟨h1,hz⟩)
    ·exact .inl (by omega)
   have hE:qcb E0 Q t.slices=qcb E0 Q (t.slices.take k):=by
    by_cases hz:qcb E0 Q (t.slices.take k)=0
    ·rw[List.take_of_length_le]
     rcases Nat.lt_or_ge k t.slices.length with h1|h1
     ·exact absurd ⟨h1,hz⟩ hg
     ·exact h1
    ·exact qi2 hz
   obtain⟨E,eE⟩:∃E,E=qcb E0 Q (t.slices.take k):=⟨_,rfl⟩
   rw[←eE] at hc hE ⊢
   rw[hE] at hF
   simp only[zC,seval,hc]
   repeat((with_reducible apply aI);exact sdp)
   by_cases hEz:E≠0
   ·rw[if_pos hEz] at hF
    have he:(E==0)=false:=by simpa using hEz
    obtain⟨e,ee⟩:∃e,e=E:=⟨_,rfl⟩
    rw[←ee] at he ⊢
    have hFe:F=e:=by rw[hF,ee]
    simp only[zC,seval,he]
    repeat((with_reducible apply aI);exact sdp)
    refine qap 0 (fun k=>[(1,.ptr 0 0),(3,.d (.int .i64 e)),(5,.d (.int .i64 0))]) (fun _=>[.box 10 (.d t.toD)]) (fun _=>True) trivial ?_ ?_
    ·refine qaa [] [0] rfl (by simp) ?_ rfl
     simp only[zC,seval,Int.cast_ofNat_Int]
     all_goals rfl
    ·intro k0 _ hk0
     obtain rfl:k0=0:=by omega
     simp only[zC,seval,he,Bool.and_false,qel]
     repeat((with_reducible apply aI);exact sdp)
     refine qap 0 (fun k=>[(1,.ptr 0 0),(3,.d (.int .i64 e)),(6,.d (.int .i64 0))]) (fun _=>[.box 10 (.d t.toD)]) (fun _=>True) trivial ?_ ?_
     ·refine qaa [] [0] rfl (by simp) ?_ rfl
      simp only[zC,seval,Int.cast_ofNat_Int]
      all_goals rfl
     ·intro k0 _ hk0
      obtain rfl:k0=0:=by omega
      simp only[zC,seval,he,Bool.and_false,qel]
      repeat((with_reducible apply aI);exact sdp)
      refine qap 0 (fun k=>[(1,.ptr 0 0),(3,.d (.int .i64 e)),(7,.d (.int .i64 0))]) (fun _=>[.box 10 (.d t.toD)]) (fun _=>True) trivial ?_ ?_
      ·refine qaa [] [0] rfl (by simp) ?_ rfl
       simp only[zC,seval,Int.cast_ofNat_Int]
       all_goals rfl
      ·intro k0 _ hk0
       obtain rfl:k0=0:=by omega
       simp only[zC,seval,he,Bool.and_false,qel]
       repeat((with_reducible apply aI);exact sdp)
       refine qap 0 (fun k=>[(1,.ptr 0 0),(3,.d (.int .i64 e)),(8,.d (.int .i64 0))]) (fun _=>[.box 10 (.d t.toD)]) (fun _=>True) trivial ?_ ?_
       ·refine qaa [] [0] rfl (by simp) ?_ rfl
        simp only[zC,seval,Int.cast_ofNat_Int]
        all_goals rfl
       ·intro k0 _ hk0
        obtain rfl:k0=0:=by omega
        simp only[zC,seval,he,Bool.and_false,qel]
        repeat((with_reducible apply aI);exact sdp)
        refine⟨_,_,qaq,?_,rfl⟩
        rw[hFe]
   ·have hEz:E=0:=by simpa using hEz
    rw[if_neg (by rw[hEz];simp)] at hF
    subst hEz
    simp only[zC,seval,beq_self_eq_true]
    repeat((with_reducible apply aI);exact sdp)
    refine qaf (q3t _ ht.threads _ ht.states) ?_
    by_cases hst1:qei t.threads t.states≠0
    ·rw[if_pos hst1] at hF
     obtain⟨e,ee⟩:∃e,e=qei t.threads t.states:=⟨_,rfl⟩
     rw[←ee] at hst1 hF ⊢
     have hFe:F=e:=hF
     have he:(e==0)=false:=by simpa using hst1
     simp only[zC,seval,he]
     repeat((with_reducible apply aI);exact sdp)
     refine qap 0 (fun k=>[(1,.ptr 0 0),(3,.d (.int .i64 e)),(5,.d (.int .i64 0))]) (fun _=>[.box 10 (.d t.toD)]) (fun _=>True) trivial ?_ ?_
     ·refine qaa [] [0] rfl (by simp) ?_ rfl
      simp only[zC,seval,Int.cast_ofNat_Int]
      all_goals rfl
     ·intro k0 _ hk0
      obtain rfl:k0=0:=by omega
      simp only[zC,seval,he,Bool.and_false,qel]
      repeat((with_reducible apply aI);exact sdp)
      refine qap 0 (fun k=>[(1,.ptr 0 0),(3,.d (.int .i64 e)),(6,.d (.int .i64 0))]) (fun _=>[.box 10 (.d t.toD)]) (fun _=>True) trivial ?_ ?_
      ·refine qaa [] [0] rfl (by simp) ?_ rfl
       simp only[zC,seval,Int.cast_ofNat_Int]
       all_goals rfl
      ·intro k0 _ hk0
       obtain rfl:k0=0:=by omega
       simp only[zC,seval,he,Bool.and_false,qel]
       repeat((with_reducible apply aI);exact sdp)
       refine qap 0 (fun k=>[(1,.ptr 0 0),(3,.d (.int .i64 e)),(7,.d (.int .i64 0))]) (fun _=>[.box 10 (.d t.toD)]) (fun _=>True) trivial ?_ ?_
       ·refine qaa [] [0] rfl (by simp) ?_ rfl
        simp only[zC,seval,Int.cast_ofNat_Int]
        all_goals rfl
       ·intro k0 _ hk0
        obtain rfl:k0=0:=by omega
        simp only[zC,seval,he,Bool.and_false,qel]
        repeat((with_reducible apply aI);exact sdp)
        refine qap 0 (fun k=>[(1,.ptr 0 0),(3,.d (.int .i64 e)),(8,.d (.int .i64 0))]) (fun _=>[.box 10 (.d t.toD)]) (fun _=>True) trivial ?_ ?_
        ·refine qaa [] [0] rfl (by simp) ?_ rfl
         simp only[zC,seval,Int.cast_ofNat_Int]
         all_goals rfl
        ·intro k0 _ hk0
         obtain rfl:k0=0:=by omega
         simp only[zC,seval,he,Bool.and_false,qel]
         repeat((with_reducible apply aI);exact sdp)
         refine⟨_,_,qaq,?_,rfl⟩
         rw[hFe]
    ·rw[if_neg hst1] at hF
     have hst1:qei t.threads t.states=0:=by simpa using hst1
     rw[hst1]
     simp only[zC,seval,beq_self_eq_true]
     repeat((with_reducible apply aI);exact sdp)
     refine qaf (q8a _ ht.flows) ?_
     obtain⟨E0,eE0⟩:∃E0,E0=qhy t.flows:=⟨_,rfl⟩
     rw[←eE0] at hF ⊢
     simp only[zC,seval]
     repeat((with_reducible apply aI);exact sdp)
     have hlk:=ht.flows
     obtain⟨Q,hQ⟩:∃Q:qbj→Bool,Q=fun x=>qd0 t.threads x.ft&&qd0 t.threads x.tt:=⟨_,rfl⟩
     rw[←hQ] at hF
     refine qap t.flows.length (fun k=>[(1,.ptr 0 0),(3,.d (.int .i64 (qcb E0 Q (t.flows.take k)))),(5,.d (.int .i64 k))]) (fun _=>[.box 10 (.d t.toD)]) (fun _=>True) trivial ?_ ?_
     ·refine qaa [] [0] rfl (by simp) ?_ rfl
      simp only[zC,seval,Int.cast_ofNat_Int,List.take_zero,qlc]
      all_goals rfl
     ·intro k _ hk
      by_cases hg:k<t.flows.length∧qcb E0 Q (t.flows.take k)=0
      ·obtain⟨h,hz⟩:=hg
       have hs:=qi3 h hz
       obtain⟨b,eb⟩:∃b,b=t.flows.getD k default:=⟨_,rfl⟩
       rw[←eb] at hs
       simp only[zC,seval,hz,(show(k:Int)<t.flows.length by omega),h,qaj _ _ _ (show k<t.flows.length by omega),←eb,beq_self_eq_true]
       repeat((with_reducible apply aI);exact sdp)
       refine qaf (qkr t ht _) ?_
       simp only[zC,seval,(show(k:Int)<t.flows.length by omega),h,qaj _ _ _ (show k<t.flows.length by omega),←eb]
       repeat((with_reducible apply aI);exact sdp)
       refine qav (fun _=>qkr t ht _) ?_
       simp only[zC,seval]
       repeat((with_reducible apply aI);exact sdp)
       rw[←Bool.not_and]
       refine ifC.mk (fun h5=>?_) (fun h5=>?_)
       ·rw[if_pos (by rw[hQ];exact h5)] at hs
        repeat((with_reducible apply aI);exact sdp)
        refine qaa [] [0] rfl (by simp) ?_ rfl
        simp only[zC,seval,hs,@qag ((k:Int)+1) (by omega)]
        all_goals rfl
       ·rw[if_neg (by rw[hQ,h5];simp)] at hs
        refine qaa [] [0] rfl (by simp) ?_ rfl
        simp only[zC,seval,hs,hz,@qag ((k:Int)+1) (by omega)]
        all_goals rfl
      ·have hc:(decide ((k:Int)<t.flows.length)&&(qcb E0 Q (t.flows.take k)==0))=false:=by
        rw[Bool.and_eq_false_iff,decide_eq_false_iff_not]
        rcases Nat.lt_or_ge k t.flows.length with h1|h1
        ·exact .inr (by simpa using fun hz=>hg ⟨h1,hz⟩)
        ·exact .inl (by omega)
       have hE:qcb E0 Q t.flows=qcb E0 Q (t.flows.take k):=by
        by_cases hz:qcb E0 Q (t.flows.take k)=0
        ·rw[List.take_of_length_le]
         rcases Nat.lt_or_ge k t.flows.length with h1|h1
         ·exact absurd ⟨h1,hz⟩ hg
         ·exact h1
        ·exact qi2 hz
       obtain⟨E,eE⟩:∃E,E=qcb E0 Q (t.flows.take k):=⟨_,rfl⟩
       rw[←eE] at hc hE ⊢
       rw[hE] at hF
       simp only[zC,seval,hc]
       repeat((with_reducible apply aI);exact sdp)
       by_cases hEz:E≠0
       ·rw[if_pos hEz] at hF
        have he:(E==0)=false:=by simpa using hEz
        obtain⟨e,ee⟩:∃e,e=E:=⟨_,rfl⟩
        rw[←ee] at he ⊢
        have hFe:F=e:=by rw[hF,ee]
        simp only[zC,seval,he]
        repeat((with_reducible apply aI);exact sdp)
        refine qap 0 (fun k=>[(1,.ptr 0 0),(3,.d (.int .i64 e)),(6,.d (.int .i64 0))]) (fun _=>[.box 10 (.d t.toD)]) (fun _=>True) trivial ?_ ?_
        ·refine qaa [] [0] rfl (by simp) ?_ rfl
         simp only[zC,seval,Int.cast_ofNat_Int]
         all_goals rfl
        ·intro k0 _ hk0
         obtain rfl:k0=0:=by omega
         simp only[zC,seval,he,Bool.and_false,qel]
         repeat((with_reducible apply aI);exact sdp)
         refine qap 0 (fun k=>[(1,.ptr 0 0),(3,.d (.int .i64 e)),(7,.d (.int .i64 0))]) (fun _=>[.box 10 (.d t.toD)]) (fun _=>True) trivial ?_ ?_
         ·refine qaa [] [0] rfl (by simp) ?_ rfl
          simp only[zC,seval,Int.cast_ofNat_Int]
          all_goals rfl
         ·intro k0 _ hk0
          obtain rfl:k0=0:=by omega
          simp only[zC,seval,he,Bool.and_false,qel]
          repeat((with_reducible apply aI);exact sdp)
          refine qap 0 (fun k=>[(1,.ptr 0 0),(3,.d (.int .i64 e)),(8,.d (.int .i64 0))]) (fun _=>[.box 10 (.d t.toD)]) (fun _=>True) trivial ?_ ?_
          ·refine qaa [] [0] rfl (by simp) ?_ rfl
           simp only[zC,seval,Int.cast_ofNat_Int]
           all_goals rfl
          ·intro k0 _ hk0
           obtain rfl:k0=0:=by omega
           simp only[zC,seval,he,Bool.and_false,qel]
           repeat((with_reducible apply aI);exact sdp)
           refine⟨_,_,qaq,?_,rfl⟩
           rw[hFe]
       ·have hEz:E=0:=by simpa using hEz
        rw[if_neg (by rw[hEz];simp)] at hF
        subst hEz
        simp only[zC,seval,beq_self_eq_true]
        repeat((with_reducible apply aI);exact sdp)
        refine qaf (qx5 _ ht.sst ht.samples) ?_
        obtain⟨E0,eE0⟩:∃E0,E0=qdx t.samples:=⟨_,rfl⟩
        rw[←eE0] at hF ⊢
        simp only[zC,seval]
        repeat((with_reducible apply aI);exact sdp)
        have hlk:=ht.samples
        obtain⟨Q,hQ⟩:∃Q:qam→Bool,Q=fun x=>qd0 t.threads x.thread:=⟨_,rfl⟩
        rw[←hQ] at hF
        refine qap t.samples.length (fun k=>[(1,.ptr 0 0),(3,.d (.int .i64 (qcb E0 Q (t.samples.take k)))),(6,.d (.int .i64 k))]) (fun _=>[.box 10 (.d t.toD)]) (fun _=>True) trivial ?_ ?_
        ·refine qaa [] [0] rfl (by simp) ?_ rfl
         simp only[zC,seval,Int.cast_ofNat_Int,List.take_zero,qlc]
         all_goals rfl
        ·intro k _ hk
         by_cases hg:k<t.samples.length∧qcb E0 Q (t.samples.take k)=0
         ·obtain⟨h,hz⟩:=hg
          have hs:=qi3 h hz
          obtain⟨b,eb⟩:∃b,b=t.samples.getD k default:=⟨_,rfl⟩
          rw[←eb] at hs
          simp only[zC,seval,hz,(show(k:Int)<t.samples.length by omega),h,qaj _ _ _ (show k<t.samples.length by omega),←eb,beq_self_eq_true]
          repeat((with_reducible apply aI);exact sdp)
          refine qaf (qkr t ht _) ?_
          simp only[zC,seval]
          refine ifC.mk (fun h5=>?_) (fun h5=>?_)
          ·rw[if_pos (by rw[hQ];exact h5)] at hs
           repeat((with_reducible apply aI);exact sdp)
           refine qaa [] [0] rfl (by simp) ?_ rfl
           simp only[zC,seval,hs,@qag ((k:Int)+1) (by omega)]
           all_goals rfl
          ·rw[if_neg (by rw[hQ,h5];simp)] at hs
           refine qaa [] [0] rfl (by simp) ?_ rfl
           simp only[zC,seval,hs,hz,@qag ((k:Int)+1) (by omega)]
           all_goals rfl
         ·have hc:(decide ((k:Int)<t.samples.length)&&(qcb E0 Q (t.samples.take k)==0))=false:=by
           rw[Bool.and_eq_false_iff,decide_eq_false_iff_not]
           rcases Nat.lt_or_ge k t.samples.length with h1|h1
           ·exact .inr (by simpa using fun hz=>hg ⟨h1,hz⟩)
           ·exact .inl (by omega)
          have hE:qcb E0 Q t.samples=qcb E0 Q (t.samples.take k):=by
           by_cases hz:qcb E0 Q (t.samples.take k)=0
           ·rw[List.take_of_length_le]
            rcases Nat.lt_or_ge k t.samples.length with h1|h1
            ·exact absurd ⟨h1,hz⟩ hg
            ·exact h1
           ·exact qi2 hz
          obtain⟨E,eE⟩:∃E,E=qcb E0 Q (t.samples.take k):=⟨_,rfl⟩
          rw[←eE] at hc hE ⊢
          rw[hE] at hF
          simp only[zC,seval,hc]
          repeat((with_reducible apply aI);exact sdp)
          by_cases hEz:E≠0
          ·rw[if_pos hEz] at hF
           have he:(E==0)=false:=by simpa using hEz
           obtain⟨e,ee⟩:∃e,e=E:=⟨_,rfl⟩
           rw[←ee] at he ⊢
           have hFe:F=e:=by rw[hF,ee]
           simp only[zC,seval,he]
           repeat((with_reducible apply aI);exact sdp)
           refine qap 0 (fun k=>[(1,.ptr 0 0),(3,.d (.int .i64 e)),(7,.d (.int .i64 0))]) (fun _=>[.box 10 (.d t.toD)]) (fun _=>True) trivial ?_ ?_
           ·refine qaa [] [0] rfl (by simp) ?_ rfl
            simp only[zC,seval,Int.cast_ofNat_Int]
            all_goals rfl
           ·intro k0 _ hk0
            obtain rfl:k0=0:=by omega
            simp only[zC,seval,he,Bool.and_false,qel]
            repeat((with_reducible apply aI);exact sdp)
            refine qap 0 (fun k=>[(1,.ptr 0 0),(3,.d (.int .i64 e)),(8,.d (.int .i64 0))]) (fun _=>[.box 10 (.d t.toD)]) (fun _=>True) trivial ?_ ?_
            ·refine qaa [] [0] rfl (by simp) ?_ rfl
             simp only[zC,seval,Int.cast_ofNat_Int]
             all_goals rfl
            ·intro k0 _ hk0
             obtain rfl:k0=0:=by omega
             simp only[zC,seval,he,Bool.and_false,qel]
             repeat((with_reducible apply aI);exact sdp)
             refine⟨_,_,qaq,?_,rfl⟩
             rw[hFe]
          ·have hEz:E=0:=by simpa using hEz
           rw[if_neg (by rw[hEz];simp)] at hF
           subst hEz
           simp only[zC,seval,beq_self_eq_true]
           repeat((with_reducible apply aI);exact sdp)
           refine qaf (q79 _ ht.steps) ?_
           by_cases hst2:qhg t.steps≠0
           ·rw[if_pos hst2] at hF
            obtain⟨e,ee⟩:∃e,e=qhg t.steps:=⟨_,rfl⟩
            rw[←ee] at hst2 hF ⊢
            have hFe:F=e:=hF
            have he:(e==0)=false:=by simpa using hst2
            simp only[zC,seval,he]
            repeat((with_reducible apply aI);exact sdp)
            refine qap 0 (fun k=>[(1,.ptr 0 0),(3,.d (.int .i64 e)),(7,.d (.int .i64 0))]) (fun _=>[.box 10 (.d t.toD)]) (fun _=>True) trivial ?_ ?_
            ·refine qaa [] [0] rfl (by simp) ?_ rfl
             simp only[zC,seval,Int.cast_ofNat_Int]
             all_goals rfl
            ·intro k0 _ hk0
             obtain rfl:k0=0:=by omega
             simp only[zC,seval,he,Bool.and_false,qel]
             repeat((with_reducible apply aI);exact sdp)
             refine qap 0 (fun k=>[(1,.ptr 0 0),(3,.d (.int .i64 e)),(8,.d (.int .i64 0))]) (fun _=>[.box 10 (.d t.toD)]) (fun _=>True) trivial ?_ ?_
             ·refine qaa [] [0] rfl (by simp) ?_ rfl
              simp only[zC,seval,Int.cast_ofNat_Int]
              all_goals rfl
             ·intro k0 _ hk0
              obtain rfl:k0=0:=by omega
              simp only[zC,seval,he,Bool.and_false,qel]
              repeat((with_reducible apply aI);exact sdp)
              refine⟨_,_,qaq,?_,rfl⟩
              rw[hFe]
           ·rw[if_neg hst2] at hF
            have hst2:qhg t.steps=0:=by simpa using hst2
            rw[hst2]
            simp only[zC,seval,beq_self_eq_true]
            repeat((with_reducible apply aI);exact sdp)
            refine qaf (Qg6 _ ht.bst ht.blocks) ?_
            obtain⟨E0,eE0⟩:∃E0,E0=bkF t.blocks:=⟨_,rfl⟩
            rw[←eE0] at hF ⊢
            simp only[zC,seval]
            repeat((with_reducible apply aI);exact sdp)
            have hlk:=ht.blocks
            obtain⟨Q,hQ⟩:∃Q:qaw→Bool,Q=fun x=>qd0 t.threads x.thread:=⟨_,rfl⟩
            rw[←hQ] at hF
            refine qap t.blocks.length (fun k=>[(1,.ptr 0 0),(3,.d (.int .i64 (qcb E0 Q (t.blocks.take k)))),(7,.d (.int .i64 k))]) (fun _=>[.box 10 (.d t.toD)]) (fun _=>True) trivial ?_ ?_
            ·refine qaa [] [0] rfl (by simp) ?_ rfl
             simp only[zC,seval,Int.cast_ofNat_Int,List.take_zero,qlc]
             all_goals rfl
            ·intro k _ hk
             by_cases hg:k<t.blocks.length∧qcb E0 Q (t.blocks.take k)=0
             ·obtain⟨h,hz⟩:=hg
              have hs:=qi3 h hz
              obtain⟨b,eb⟩:∃b,b=t.blocks.getD k default:=⟨_,rfl⟩
              rw[←eb] at hs
              simp only[zC,seval,hz,(show(k:Int)<t.blocks.length by omega),h,qaj _ _ _ (show k<t.blocks.length by omega),←eb,beq_self_eq_true]
              repeat((with_reducible apply aI);exact sdp)
              refine qaf (qkr t ht _) ?_
              simp only[zC,seval]
              refine ifC.mk (fun h5=>?_) (fun h5=>?_)
              ·rw[if_pos (by rw[hQ];exact h5)] at hs
               repeat((with_reducible apply aI);exact sdp)
               refine qaa [] [0] rfl (by simp) ?_ rfl
               simp only[zC,seval,hs,@qag ((k:Int)+1) (by omega)]
               all_goals rfl
              ·rw[if_neg (by rw[hQ,h5];simp)] at hs
               refine qaa [] [0] rfl (by simp) ?_ rfl
               simp only[zC,seval,hs,hz,@qag ((k:Int)+1) (by omega)]
               all_goals rfl
             ·have hc:(decide ((k:Int)<t.blocks.length)&&(qcb E0 Q (t.blocks.take k)==0))=false:=by
               rw[Bool.and_eq_false_iff,decide_eq_false_iff_not]
               rcases Nat.lt_or_ge k t.blocks.length with h1|h1
               ·exact .inr (by simpa using fun hz=>hg ⟨h1,hz⟩)
               ·exact .inl (by omega)
              have hE:qcb E0 Q t.blocks=qcb E0 Q (t.blocks.take k):=by
               by_cases hz:qcb E0 Q (t.blocks.take k)=0
               ·rw[List.take_of_length_le]
                rcases Nat.lt_or_ge k t.blocks.length with h1|h1
                ·exact absurd ⟨h1,hz⟩ hg
                ·exact h1
               ·exact qi2 hz
              obtain⟨E,eE⟩:∃E,E=qcb E0 Q (t.blocks.take k):=⟨_,rfl⟩
              rw[←eE] at hc hE ⊢
              rw[hE] at hF
              simp only[zC,seval,hc]
              repeat((with_reducible apply aI);exact sdp)
              by_cases hEz:E≠0
              ·rw[if_pos hEz] at hF
               have he:(E==0)=false:=by simpa using hEz
               obtain⟨e,ee⟩:∃e,e=E:=⟨_,rfl⟩
               rw[←ee] at he ⊢
               have hFe:F=e:=by rw[hF,ee]
               simp only[zC,seval,he]
               repeat((with_reducible apply aI);exact sdp)
               refine qap 0 (fun k=>[(1,.ptr 0 0),(3,.d (.int .i64 e)),(8,.d (.int .i64 0))]) (fun _=>[.box 10 (.d t.toD)]) (fun _=>True) trivial ?_ ?_
               ·refine qaa [] [0] rfl (by simp) ?_ rfl
                simp only[zC,seval,Int.cast_ofNat_Int]
                all_goals rfl
               ·intro k0 _ hk0
                obtain rfl:k0=0:=by omega
                simp only[zC,seval,he,Bool.and_false,qel]
                repeat((with_reducible apply aI);exact sdp)
                refine⟨_,_,qaq,?_,rfl⟩
                rw[hFe]
              ·have hEz:E=0:=by simpa using hEz
               rw[if_neg (by rw[hEz];simp)] at hF
               subst hEz
               simp only[zC,seval,beq_self_eq_true]
               repeat((with_reducible apply aI);exact sdp)
               have hlk:=ht.lost
               refine qap t.lost.length (fun k=>[(1,.ptr 0 0),(3,.d (.int .i64 (qa3 (fun k=>qd4 (qd0 t.threads) (t.lost.getD k default)) k))),(8,.d (.int .i64 k))]) (fun _=>[.box 10 (.d t.toD)]) (fun _=>True) trivial ?_ ?_
               ·refine qaa [] [0] rfl (by simp) ?_ rfl
                simp only[zC,seval,Int.cast_ofNat_Int,qa3]
                all_goals rfl
               ·intro k _ hk
                by_cases hg:k<t.lost.length∧qa3 (fun k=>qd4 (qd0 t.threads) (t.lost.getD k default)) k=0
                ·obtain⟨h,hz⟩:=hg
                 have hs:qa3 (fun k=>qd4 (qd0 t.threads) (t.lost.getD k default)) (k+1)=qd4 (qd0 t.threads) (t.lost.getD k default):=by rw[qa3,hz,if_pos rfl]
                 obtain⟨b,eb⟩:∃b,b=t.lost.getD k default:=⟨_,rfl⟩
                 rw[←eb] at hs
                 simp only[zC,seval,hz,(show(k:Int)<t.lost.length by omega),h,qaj _ _ _ (show k<t.lost.length by omega),←eb,beq_self_eq_true]
                 repeat((with_reducible apply aI);exact sdp)
                 refine qaf (qkr t ht _) ?_
                 simp only[zC,seval]
                 refine ifC.mk (fun h5=>?_) (fun h5=>?_)
                 ·rw[qd4,if_pos (by rw[←Bool.not_eq_true'];exact h5)] at hs
                  repeat((with_reducible apply aI);exact sdp)
                  refine qaa [] [0] rfl (by simp) ?_ rfl
                  simp only[zC,seval,hs,@qag ((k:Int)+1) (by omega)]
                  all_goals rfl
                 ·rw[qd4,if_neg (by intro e;rw[e] at h5;cases h5)] at hs
                  refine qaf (q3v _ _) ?_
                  simp only[zC,seval]
                  repeat((with_reducible apply aI);exact sdp)
                  refine ifC.mk (fun h6=>?_) (fun h6=>?_)
                  ·rw[if_pos h6] at hs
                   repeat((with_reducible apply aI);exact sdp)
                   refine qaa [] [0] rfl (by simp) ?_ rfl
                   simp only[zC,seval,hs,@qag ((k:Int)+1) (by omega)]
                   all_goals rfl
                  ·rw[if_neg (by rw[h6];simp)] at hs
                   refine qaa [] [0] rfl (by simp) ?_ rfl
                   simp only[zC,seval,hs,hz,@qag ((k:Int)+1) (by omega)]
                   all_goals rfl
                ·have hc:(decide ((k:Int)<t.lost.length)&&(qa3 (fun k=>qd4 (qd0 t.threads) (t.lost.getD k default)) k==0))=false:=by
                  rw[Bool.and_eq_false_iff,decide_eq_false_iff_not]
                  rcases Nat.lt_or_ge k t.lost.length with h1|h1
                  ·exact .inr (by simpa using fun hz=>hg ⟨h1,hz⟩)
                  ·exact .inl (by omega)
                 have hE:qsb (qd0 t.threads) t.lost=qa3 (fun k=>qd4 (qd0 t.threads) (t.lost.getD k default)) k:=by
                  rcases Nat.lt_or_ge k t.lost.length with h1|h1
                  ·have hz:qa3 (fun k=>qd4 (qd0 t.threads) (t.lost.getD k default)) k≠0:=fun hz=>hg ⟨h1,hz⟩
                   exact q36 hz hk
                  ·have:k=t.lost.length:=by omega
                   rw[this];rfl
                 obtain⟨E,eE⟩:∃E,E=qa3 (fun k=>qd4 (qd0 t.threads) (t.lost.getD k default)) k:=⟨_,rfl⟩
                 rw[←eE] at hc hE ⊢
                 simp only[zC,seval,hc]
                 repeat((with_reducible apply aI);exact sdp)
                 refine⟨_,_,qaq,?_,rfl⟩
                 rw[hF,hE]

theorem Qlv (t:qat) (ht:t.Few):qbc prog Gl 55 [.d t.toD] (.d (.int .i64 (qfb t))):=by
 refine qbc.of1 ?_
 have hl:=ht.threads
 obtain⟨F,hF⟩:∃F,F=qfb t:=⟨_,rfl⟩
 rw[←hF]
 have hbadF:qbu t.threads≠0→F=qbu t.threads:=fun h=>by rw[hF,qfb,if_pos h]
 refine qac func55 rfl rfl (by simp[ntmps55]) (qab rfl _ _ _ _ ?_)
 simp only[ntmps55,results55,qak,List.length_nil]
 simp only[zC,seval]
 repeat((with_reducible apply aI);exact sdp)
 refine ifC.mk (fun h=>?_) (fun h=>?_)
 ·have h:64<t.threads.length:=by simp at h;omega
  have e:qbu t.threads=7:=by rw[qbu,if_pos h]
  refine⟨_,_,qaq,?_,rfl⟩
  rw[hbadF (by rw[e];decide),e]
 ·have h:¬64<t.threads.length:=by simp at h;omega
  have hT:qbu t.threads=qa3 (qhs t.threads) t.threads.length:=by rw[qbu,if_neg h]
  refine qap t.threads.length (fun k=>[(1,.ptr 0 0),(3,.d (.int .i64 k))]) (fun _=>[.box 10 (.d t.toD)]) (fun k=>qa3 (qhs t.threads) k=0) rfl ?_ ?_
  ·refine qaa [] [0] rfl (by simp) ?_ rfl
   simp only[zC,seval,Int.cast_ofNat_Int]
   all_goals rfl
  ·intro k hi hk
   by_cases h2:k<t.threads.length
   ·have hb:∀e,qhs t.threads k=e→e≠0→F=e:=fun e h1 h2'=>by
     have:=qby hi (by rw[h1];exact h2') h2
     rw[←hT,h1] at this
     rw[hbadF (by rw[this];exact h2'),this]
    obtain⟨b,eb⟩:∃b,b=t.threads.getD k default:=⟨_,rfl⟩
    simp only[zC,seval,(show(k:Int)<t.threads.length by omega),h2,qaj _ _ _ (show k<t.threads.length by omega),←eb]
    repeat((with_reducible apply aI);exact sdp)
    refine qaf (Qly _) ?_
    simp only[zC,seval]
    refine ifC.mk (fun hc=>?_) (fun hc=>?_)
    ·have hc:qfp b≠0:=by simpa using hc
     refine⟨_,_,qaq,?_,rfl⟩
     rw[hb _ (show qhs t.threads k=qfp b from by rw[qhs,←eb,if_pos hc]) hc]
    ·have hc:¬qfp b≠0:=by simpa using hc
     have hat:qhs t.threads k=if qd0 (t.threads.take k) b.id=true then 4 else 0:=by rw[qhs,←eb,if_neg hc]
     refine qap k (fun j=>[(1,.ptr 0 0),(3,.d (.int .i64 k)),(5,.d (.int .i64 j))]) (fun _=>[.box 10 (.d t.toD)]) (fun j=>(t.threads.take j).any (fun x=>x.id==b.id)=false) rfl ?_ ?_
     ·refine qaa [] [0] rfl (by simp) ?_ rfl
      simp only[zC,seval,Int.cast_ofNat_Int]
      all_goals rfl
     ·intro j hj hjk
      by_cases h5:j<k
      ·have hs:=qcs (fun x:qai=>x.id==b.id) t.threads j (by omega)
       simp only[zC,seval,(show(j:Int)<k by omega),h5,(show(j:Int)<t.threads.length by omega),(show j<t.threads.length by omega),qaj _ _ _ (show j<t.threads.length by omega),(show(k:Int)<t.threads.length by omega),h2,qaj _ _ _ (show k<t.threads.length by omega),←eb]
       repeat((with_reducible apply aI);exact sdp)
       refine ifC.mk (fun h6=>?_) (fun h6=>?_)
       ·refine⟨_,_,qaq,?_,rfl⟩
        rw[hb 4 (by rw[hat,if_pos];unfold qd0;rw[List.any_eq_true];exact⟨t.threads.getD j default,qiv h5 (by omega),h6⟩) (by omega)]
       ·refine⟨by rw[hs,hj,h6];rfl,?_⟩
        refine qaa [] [0] rfl (by simp) ?_ rfl
        simp only[zC,seval,@qag ((j:Int)+1) (by omega)]
        all_goals rfl
      ·simp only[zC,seval,(show ¬(j:Int)<k by omega)]
       repeat((with_reducible apply aI);exact sdp)
       have hjk:j=k:=by omega
       subst hjk
       refine⟨qa2 hi (by rw[hat,if_neg (by unfold qd0;rw[hj];simp)]),?_⟩
       refine qaa [] [0] rfl (by simp) ?_ rfl
       simp only[zC,seval,@qag ((j:Int)+1) (by omega)]
       all_goals rfl
   ·simp only[zC,seval,(show ¬(k:Int)<t.threads.length by omega)]
    have:k=t.threads.length:=by omega
    subst this
    rw[hi] at hT
    refine qaf (Qyi t ht) ?_
    simp only[zC,seval]
    refine⟨_,_,qaq,?_,rfl⟩
    rw[hF,q9n t hT]
set_option maxHeartbeats 8000000 in
theorem q3s (t:qat) (ht:t.Few):qbc prog Gl 26 [.d t.toD] (.d (.int .i64 (qc6 t))):=by
 refine qbc.of1 ?_
 obtain⟨F,hF⟩:∃F,F=qc6 t:=⟨_,rfl⟩
 rw[←hF]
 rw[qc6] at hF
 refine qac func26 rfl rfl (by simp[ntmps26]) (qab rfl _ _ _ _ ?_)
 simp only[ntmps26,results26,qak,List.length_nil]
 simp only[zC,seval]
 refine qaf (Qlv t ht) ?_
 simp only[zC,seval]
 refine ifC.mk (fun h1=>?_) (fun h1=>?_)
 ·have h1:=bne_iff_ne.1 h1
  refine⟨_,_,qaq,?_,rfl⟩
  rw[hF,if_pos h1]
 ·have h1:qfb t=0:=by simpa using h1
  rw[if_neg (by rw[h1];simp)] at hF
  repeat((with_reducible apply aI);exact sdp)
  refine ifC.mk (fun h2=>?_) (fun h2=>?_)
  ·refine⟨_,_,qaq,?_,rfl⟩
   rw[hF,if_pos h2]
  ·rw[if_neg (by rw[h2];simp)] at hF
   have hlk:=ht.slices
   obtain⟨Q,hQ⟩:∃Q:qae→Bool,Q=fun x=>qds x.lo x.hi t.lo t.hi:=⟨_,rfl⟩
   refine qap t.slices.length (fun k=>[(1,.ptr 0 0),(4,.ptr 1 0),(5,.d (.bool ((t.slices.take k).all Q))),(6,.d (.int .i64 k))]) (fun _=>[.box 10 (.d t.toD),.box 2 (.d (.agg [.int .i64 t.lo,.int .i64 t.hi]))]) (fun _=>True) trivial ?_ ?_
   ·refine qaa [] [0,1] rfl (by simp) ?_ rfl
    simp only[zC,seval,Int.cast_ofNat_Int,List.take_zero,List.all_nil,Bool.and_true]
    all_goals rfl
   ·intro k _ hk
    by_cases h:k<t.slices.length
    ·have hs:=qc1 Q t.slices k h
     obtain⟨b,eb⟩:∃b,b=t.slices.getD k default:=⟨_,rfl⟩
     rw[←eb] at hs
     have hQb:Q b=(qds b.lo b.hi t.lo t.hi):=by rw[hQ]
     simp only[zC,seval,(show(k:Int)<t.slices.length by omega),h,qaj _ _ _ (show k<t.slices.length by omega),←eb]
     repeat((with_reducible apply aI);exact sdp)
     refine qav (fun _=>qwo _ _ _ _) ?_
     simp only[zC,seval,(show(k:Int)<t.slices.length by omega),h,qaj _ _ _ (show k<t.slices.length by omega),←eb]
     repeat((with_reducible apply aI);exact sdp)
     refine qaa [] [0,1] rfl (by simp) ?_ rfl
     simp only[zC,seval,@qag ((k:Int)+1) (by omega),hs,hQb,Bool.and_assoc]
     all_goals rfl
    ·have hkn:k=t.slices.length:=by omega
     subst hkn
     simp only[zC,seval,(show ¬(t.slices.length:Int)<t.slices.length by omega),List.take_length]
     subst hQ
     obtain⟨ok1,hok1⟩:∃ok1,ok1=(t.slices.all fun x=>qds x.lo x.hi t.lo t.hi):=⟨_,rfl⟩
     rw[←hok1]
     repeat((with_reducible apply aI);exact sdp)
     have hlk:=ht.states
     obtain⟨Q,hQ⟩:∃Q:qas→Bool,Q=fun x=>qds x.lo x.hi t.lo t.hi:=⟨_,rfl⟩
     refine qap t.states.length (fun k=>[(1,.ptr 0 0),(4,.ptr 1 0),(5,.d (.bool (ok1&&(t.states.take k).all Q))),(7,.d (.int .i64 k))]) (fun _=>[.box 10 (.d t.toD),.box 2 (.d (.agg [.int .i64 t.lo,.int .i64 t.hi]))]) (fun _=>True) trivial ?_ ?_
     ·refine qaa [] [0,1] rfl (by simp) ?_ rfl
      simp only[zC,seval,Int.cast_ofNat_Int,List.take_zero,List.all_nil,Bool.and_true]
      all_goals rfl
     ·intro k _ hk
      by_cases h:k<t.states.length
      ·have hs:=qc1 Q t.states k h
       obtain⟨b,eb⟩:∃b,b=t.states.getD k default:=⟨_,rfl⟩
       rw[←eb] at hs
       have hQb:Q b=(qds b.lo b.hi t.lo t.hi):=by rw[hQ]
       simp only[zC,seval,(show(k:Int)<t.states.length by omega),h,qaj _ _ _ (show k<t.states.length by omega),←eb]
       repeat((with_reducible apply aI);exact sdp)
       refine qav (fun _=>qwo _ _ _ _) ?_
       simp only[zC,seval,(show(k:Int)<t.states.length by omega),h,qaj _ _ _ (show k<t.states.length by omega),←eb]
       repeat((with_reducible apply aI);exact sdp)
       refine qaa [] [0,1] rfl (by simp) ?_ rfl
       simp only[zC,seval,@qag ((k:Int)+1) (by omega),hs,hQb,Bool.and_assoc]
       all_goals rfl
      ·have hkn:k=t.states.length:=by omega
       subst hkn
       simp only[zC,seval,(show ¬(t.states.length:Int)<t.states.length by omega),List.take_length]
       subst hQ
       obtain⟨ok2,hok2⟩:∃ok2,ok2=(ok1&&t.states.all fun x=>qds x.lo x.hi t.lo t.hi):=⟨_,rfl⟩
       rw[←hok2]
       repeat((with_reducible apply aI);exact sdp)
       have hlk:=ht.blocks
       obtain⟨Q,hQ⟩:∃Q:qaw→Bool,Q=fun x=>qds x.lo x.hi t.lo t.hi:=⟨_,rfl⟩
       refine qap t.blocks.length (fun k=>[(1,.ptr 0 0),(4,.ptr 1 0),(5,.d (.bool (ok2&&(t.blocks.take k).all Q))),(8,.d (.int .i64 k))]) (fun _=>[.box 10 (.d t.toD),.box 2 (.d (.agg [.int .i64 t.lo,.int .i64 t.hi]))]) (fun _=>True) trivial ?_ ?_
       ·refine qaa [] [0,1] rfl (by simp) ?_ rfl
        simp only[zC,seval,Int.cast_ofNat_Int,List.take_zero,List.all_nil,Bool.and_true]
        all_goals rfl
       ·intro k _ hk
        by_cases h:k<t.blocks.length
        ·have hs:=qc1 Q t.blocks k h
         obtain⟨b,eb⟩:∃b,b=t.blocks.getD k default:=⟨_,rfl⟩
         rw[←eb] at hs
         have hQb:Q b=(qds b.lo b.hi t.lo t.hi):=by rw[hQ]
         simp only[zC,seval,(show(k:Int)<t.blocks.length by omega),h,qaj _ _ _ (show k<t.blocks.length by omega),←eb]
         repeat((with_reducible apply aI);exact sdp)
         refine qav (fun _=>qwo _ _ _ _) ?_
         simp only[zC,seval,(show(k:Int)<t.blocks.length by omega),h,qaj _ _ _ (show k<t.blocks.length by omega),←eb]
         repeat((with_reducible apply aI);exact sdp)
         refine qaa [] [0,1] rfl (by simp) ?_ rfl
         simp only[zC,seval,@qag ((k:Int)+1) (by omega),hs,hQb,Bool.and_assoc]
         all_goals rfl
        ·have hkn:k=t.blocks.length:=by omega
         subst hkn
         simp only[zC,seval,(show ¬(t.blocks.length:Int)<t.blocks.length by omega),List.take_length]
         subst hQ
         obtain⟨ok3,hok3⟩:∃ok3,ok3=(ok2&&t.blocks.all fun x=>qds x.lo x.hi t.lo t.hi):=⟨_,rfl⟩
         rw[←hok3]
         repeat((with_reducible apply aI);exact sdp)
         have hlk:=ht.flows
         obtain⟨Q,hQ⟩:∃Q:qbj→Bool,Q=fun x=>qdb t.lo t.hi x.send&&qdb t.lo t.hi x.recv:=⟨_,rfl⟩
         refine qap t.flows.length (fun k=>[(1,.ptr 0 0),(4,.ptr 1 0),(5,.d (.bool (ok3&&(t.flows.take k).all Q))),(9,.d (.int .i64 k))]) (fun _=>[.box 10 (.d t.toD),.box 2 (.d (.agg [.int .i64 t.lo,.int .i64 t.hi]))]) (fun _=>True) trivial ?_ ?_
         ·refine qaa [] [0,1] rfl (by simp) ?_ rfl
          simp only[zC,seval,Int.cast_ofNat_Int,List.take_zero,List.all_nil,Bool.and_true]
          all_goals rfl
         ·intro k _ hk
          by_cases h:k<t.flows.length
          ·have hs:=qc1 Q t.flows k h
           obtain⟨b,eb⟩:∃b,b=t.flows.getD k default:=⟨_,rfl⟩
           rw[←eb] at hs
           have hQb:Q b=(qdb t.lo t.hi b.send&&qdb t.lo t.hi b.recv):=by rw[hQ]
           simp only[zC,seval,(show(k:Int)<t.flows.length by omega),h,qaj _ _ _ (show k<t.flows.length by omega),←eb]
           repeat((with_reducible apply aI);exact sdp)
           refine qav (fun _=>qok _ _ _) ?_
           simp only[zC,seval,(show(k:Int)<t.flows.length by omega),h,qaj _ _ _ (show k<t.flows.length by omega),←eb]
           repeat((with_reducible apply aI);exact sdp)
           refine qav (fun _=>qok _ _ _) ?_
           simp only[zC,seval,(show(k:Int)<t.flows.length by omega),h,qaj _ _ _ (show k<t.flows.length by omega),←eb]
           repeat((with_reducible apply aI);exact sdp)
           refine qaa [] [0,1] rfl (by simp) ?_ rfl
           simp only[zC,seval,@qag ((k:Int)+1) (by omega),hs,hQb,Bool.and_assoc]
           all_goals rfl
          ·have hkn:k=t.flows.length:=by omega
           subst hkn
           simp only[zC,seval,(show ¬(t.flows.length:Int)<t.flows.length by omega),List.take_length]
           subst hQ
           obtain⟨ok4,hok4⟩:∃ok4,ok4=(ok3&&t.flows.all fun x=>qdb t.lo t.hi x.send&&qdb t.lo t.hi x.recv):=⟨_,rfl⟩
           rw[←hok4]
           repeat((with_reducible apply aI);exact sdp)
           have hlk:=ht.samples
           obtain⟨Q,hQ⟩:∃Q:qam→Bool,Q=fun x=>qdb t.lo t.hi x.at_:=⟨_,rfl⟩
           refine qap t.samples.length (fun k=>[(1,.ptr 0 0),(4,.ptr 1 0),(5,.d (.bool (ok4&&(t.samples.take k).all Q))),(10,.d (.int .i64 k))]) (fun _=>[.box 10 (.d t.toD),.box 2 (.d (.agg [.int .i64 t.lo,.int .i64 t.hi]))]) (fun _=>True) trivial ?_ ?_
           ·refine qaa [] [0,1] rfl (by simp) ?_ rfl
            simp only[zC,seval,Int.cast_ofNat_Int,List.take_zero,List.all_nil,Bool.and_true]
            all_goals rfl
           ·intro k _ hk
            by_cases h:k<t.samples.length
            ·have hs:=qc1 Q t.samples k h
             obtain⟨b,eb⟩:∃b,b=t.samples.getD k default:=⟨_,rfl⟩
             rw[←eb] at hs
             have hQb:Q b=(qdb t.lo t.hi b.at_):=by rw[hQ]
             simp only[zC,seval,(show(k:Int)<t.samples.length by omega),h,qaj _ _ _ (show k<t.samples.length by omega),←eb]
             repeat((with_reducible apply aI);exact sdp)
             refine qav (fun _=>qok _ _ _) ?_
             simp only[zC,seval,(show(k:Int)<t.samples.length by omega),h,qaj _ _ _ (show k<t.samples.length by omega),←eb]
             repeat((with_reducible apply aI);exact sdp)
             refine qaa [] [0,1] rfl (by simp) ?_ rfl
             simp only[zC,seval,@qag ((k:Int)+1) (by omega),hs,hQb,Bool.and_assoc]
             all_goals rfl
            ·have hkn:k=t.samples.length:=by omega
             subst hkn
             simp only[zC,seval,(show ¬(t.samples.length:Int)<t.samples.length by omega),List.take_length]
             subst hQ
             obtain⟨ok5,hok5⟩:∃ok5,ok5=(ok4&&t.samples.all fun x=>qdb t.lo t.hi x.at_):=⟨_,rfl⟩
             rw[←hok5]
             repeat((with_reducible apply aI);exact sdp)
             have hlk:=ht.steps
             obtain⟨Q,hQ⟩:∃Q:qa7→Bool,Q=fun x=>qdb t.lo t.hi x.at_:=⟨_,rfl⟩
             refine qap t.steps.length (fun k=>[(1,.ptr 0 0),(4,.ptr 1 0),(5,.d (.bool (ok5&&(t.steps.take k).all Q))),(11,.d (.int .i64 k))]) (fun _=>[.box 10 (.d t.toD),.box 2 (.d (.agg [.int .i64 t.lo,.int .i64 t.hi]))]) (fun _=>True) trivial ?_ ?_
             ·refine qaa [] [0,1] rfl (by simp) ?_ rfl
              simp only[zC,seval,Int.cast_ofNat_Int,List.take_zero,List.all_nil,Bool.and_true]
              all_goals rfl
             ·intro k _ hk
              by_cases h:k<t.steps.length
              ·have hs:=qc1 Q t.steps k h
               obtain⟨b,eb⟩:∃b,b=t.steps.getD k default:=⟨_,rfl⟩
               rw[←eb] at hs
               have hQb:Q b=(qdb t.lo t.hi b.at_):=by rw[hQ]
               simp only[zC,seval,(show(k:Int)<t.steps.length by omega),h,qaj _ _ _ (show k<t.steps.length by omega),←eb]
               repeat((with_reducible apply aI);exact sdp)
               refine qav (fun _=>qok _ _ _) ?_
               simp only[zC,seval,(show(k:Int)<t.steps.length by omega),h,qaj _ _ _ (show k<t.steps.length by omega),←eb]
               repeat((with_reducible apply aI);exact sdp)
               refine qaa [] [0,1] rfl (by simp) ?_ rfl
               simp only[zC,seval,@qag ((k:Int)+1) (by omega),hs,hQb,Bool.and_assoc]
               all_goals rfl
              ·have hkn:k=t.steps.length:=by omega
               subst hkn
               simp only[zC,seval,(show ¬(t.steps.length:Int)<t.steps.length by omega),List.take_length]
               subst hQ
               obtain⟨ok6,hok6⟩:∃ok6,ok6=(ok5&&t.steps.all fun x=>qdb t.lo t.hi x.at_):=⟨_,rfl⟩
               rw[←hok6]
               repeat((with_reducible apply aI);exact sdp)
               have hout:qhl t=!ok6:=by
                rw[hok6,hok5,hok4,hok3,hok2,hok1,qhl]
                simp only[Bool.true_and,Bool.not_and,←List.not_any_eq_all_not,List.not_all_eq_any_not,Bool.or_assoc]
               refine ifC.mk (fun h9=>?_) (fun h9=>?_)
               ·refine⟨_,_,qaq,?_,rfl⟩
                rw[hF,if_pos (by rw[hout];exact h9)]
               ·refine⟨_,_,qaq,?_,rfl⟩
                rw[hF,if_neg (by rw[hout,h9];simp)]

def Qvj (t:qat):Bool:=!(decide (70<t.threads.length)||decide (30<t.slices.length)||decide (30<t.states.length)||decide (30<t.flows.length)||decide (30<t.samples.length)||decide (30<t.steps.length)||decide (30<t.blocks.length)||decide (30<t.lost.length))
def Qe5 (t:qat) (k:Nat):Bool:=!((decide ((k:Int)<(t.samples.length:Int))&&decide ((40:Int)<((t.samples.getD k default).stack.length:Int)))||(decide ((k:Int)<(t.blocks.length:Int))&&decide ((40:Int)<((t.blocks.getD k default).stack.length:Int))))
def Qhx (t:qat):Bool:=Qvj t&&(List.range 30).all (Qe5 t)
theorem qw3 {t:qat} (h:Qhx t=true):t.Few:=by
 unfold Qhx at h
 rw[Bool.and_eq_true] at h
 obtain⟨h1,h2⟩:=h
 unfold Qvj at h1
 simp only[Bool.not_eq_true',Bool.or_eq_false_iff,decide_eq_false_iff_not] at h1
 obtain⟨⟨⟨⟨⟨⟨⟨a1,a2⟩,a3⟩,a4⟩,a5⟩,a6⟩,a7⟩,a8⟩:=h1
 rw[List.all_eq_true] at h2
 refine⟨by omega,by omega,by omega,by omega,by omega,by omega,by omega,by omega,fun x hx=>?_,fun x hx=>?_⟩
 ·obtain⟨k,hk,rfl⟩:=List.getElem_of_mem hx
  have:=h2 k (List.mem_range.2 (by omega))
  unfold Qe5 at this
  have e:t.samples.getD k default=t.samples[k]:=by simp[hk]
  simp only[Bool.not_eq_true',Bool.or_eq_false_iff,Bool.and_eq_false_iff,decide_eq_false_iff_not,e] at this
  omega
 ·obtain⟨k,hk,rfl⟩:=List.getElem_of_mem hx
  have:=h2 k (List.mem_range.2 (by omega))
  unfold Qe5 at this
  have e:t.blocks.getD k default=t.blocks[k]:=by simp[hk]
  simp only[Bool.not_eq_true',Bool.or_eq_false_iff,Bool.and_eq_false_iff,decide_eq_false_iff_not,e] at this
  omega
theorem Qyo (t:qat):qbc prog Gl 41 [.d t.toD,.d (.int .i64 30)] (.d (.bool (Qhx t))):=by
 refine qbc.of2 ?_
 obtain⟨F,hF⟩:∃F,F=Qhx t:=⟨_,rfl⟩
 rw[←hF]
 rw[Qhx] at hF
 refine qac func41 rfl rfl (by simp[ntmps41]) (qab rfl _ _ _ _ ?_)
 simp only[ntmps41,results41,qak,List.length_nil]
 simp only[zU,seval]
 repeat((with_reducible apply aI);exact sdp)
 refine ifC.mk (fun h1=>?_) (fun h1=>?_)
 ·refine⟨_,_,qaq,?_,rfl⟩
  have e:Qvj t=false:=by
   unfold Qvj;rw[Bool.not_eq_false']
   simp only[Bool.or_eq_true,decide_eq_true_eq] at h1 ⊢
   omega
  rw[hF,e];rfl
 ·have e:Qvj t=true:=by
   unfold Qvj;rw[Bool.not_eq_true']
   simp only[Bool.or_eq_false_iff,decide_eq_false_iff_not] at h1 ⊢
   omega
  rw[e,Bool.true_and] at hF
  have hlen:t.samples.length≤30∧t.blocks.length≤30:=by
   simp only[Bool.or_eq_false_iff,decide_eq_false_iff_not] at h1
   omega
  refine qap 30 (fun k=>[(1,.d (.int .i64 30)),(2,.ptr 0 0),(5,.d (.int .i64 k))]) (fun _=>[.box 10 (.d t.toD)]) (fun k=>(List.range k).all (Qe5 t)=true) rfl ?_ ?_
  ·refine qaa [] [0] rfl (by simp) ?_ rfl
   simp only[zU,seval,Int.cast_ofNat_Int]
   all_goals rfl
  ·intro k hi hk
   by_cases h:k<30
   ·simp only[zU,seval,(show(k:Int)<30 by omega)]
    rcases Nat.lt_or_ge k t.samples.length with h2|h2<;>rcases Nat.lt_or_ge k t.blocks.length with h3|h3
    ·have hat:Qe5 t k=!(decide ((40:Int)<((t.samples.getD k default).stack.length:Int))||decide ((40:Int)<((t.blocks.getD k default).stack.length:Int))):=by unfold Qe5;rw[decide_eq_true (show(k:Int)<(t.samples.length:Int) by omega),decide_eq_true (show(k:Int)<(t.blocks.length:Int) by omega)];simp only[Bool.true_and,Bool.false_and,Bool.false_or,Bool.or_false]
     simp only[zU,seval,(show(k:Int)<t.samples.length by omega),h2,qaj _ _ _ (show k<t.samples.length by omega),(show(k:Int)<t.blocks.length by omega),h3,qaj _ _ _ (show k<t.blocks.length by omega)]
     repeat((with_reducible apply aI);exact sdp)
     refine ifC.mk (fun h4=>?_) (fun h4=>?_)
     ·refine⟨_,_,qaq,?_,rfl⟩
      rw[hF,qce h (by rw[hat,h4];rfl)]
     ·refine⟨h,by rw[qcn,hi,hat,h4];rfl,?_⟩
      refine qaa [] [0] rfl (by simp) ?_ rfl
      simp only[zU,seval,@qag ((k:Int)+1) (by omega)]
      all_goals rfl
    ·have hat:Qe5 t k=!(decide ((40:Int)<((t.samples.getD k default).stack.length:Int))):=by unfold Qe5;rw[decide_eq_true (show(k:Int)<(t.samples.length:Int) by omega),decide_eq_false (show ¬(k:Int)<(t.blocks.length:Int) by omega)];simp only[Bool.true_and,Bool.false_and,Bool.false_or,Bool.or_false]
     simp only[zU,seval,(show(k:Int)<t.samples.length by omega),h2,qaj _ _ _ (show k<t.samples.length by omega),(show ¬(k:Int)<t.blocks.length by omega)]
     repeat((with_reducible apply aI);exact sdp)
     refine ifC.mk (fun h4=>?_) (fun h4=>?_)
     ·refine⟨_,_,qaq,?_,rfl⟩
      rw[hF,qce h (by rw[hat,h4];rfl)]
     ·refine⟨h,by rw[qcn,hi,hat,h4];rfl,?_⟩
      refine qaa [] [0] rfl (by simp) ?_ rfl
      simp only[zU,seval,@qag ((k:Int)+1) (by omega)]
      all_goals rfl
    ·have hat:Qe5 t k=!(decide ((40:Int)<((t.blocks.getD k default).stack.length:Int))):=by unfold Qe5;rw[decide_eq_false (show ¬(k:Int)<(t.samples.length:Int) by omega),decide_eq_true (show(k:Int)<(t.blocks.length:Int) by omega)];simp only[Bool.true_and,Bool.false_and,Bool.false_or,Bool.or_false]
     simp only[zU,seval,(show ¬(k:Int)<t.samples.length by omega),(show(k:Int)<t.blocks.length by omega),h3,qaj _ _ _ (show k<t.blocks.length by omega)]
     repeat((with_reducible apply aI);exact sdp)
     refine ifC.mk (fun h4=>?_) (fun h4=>?_)
     ·refine⟨_,_,qaq,?_,rfl⟩
      rw[hF,qce h (by rw[hat,h4];rfl)]
     ·refine⟨h,by rw[qcn,hi,hat,h4];rfl,?_⟩
      refine qaa [] [0] rfl (by simp) ?_ rfl
      simp only[zU,seval,@qag ((k:Int)+1) (by omega)]
      all_goals rfl
    ·have hat:Qe5 t k=!(false):=by unfold Qe5;rw[decide_eq_false (show ¬(k:Int)<(t.samples.length:Int) by omega),decide_eq_false (show ¬(k:Int)<(t.blocks.length:Int) by omega)];simp only[Bool.true_and,Bool.false_and,Bool.false_or,Bool.or_false]
     simp only[zU,seval,(show ¬(k:Int)<t.samples.length by omega),(show ¬(k:Int)<t.blocks.length by omega)]
     repeat((with_reducible apply aI);exact sdp)
     refine⟨by rw[qcn,hi,hat];rfl,?_⟩
     refine qaa [] [0] rfl (by simp) ?_ rfl
     simp only[zU,seval,@qag ((k:Int)+1) (by omega)]
     all_goals rfl
   ·simp only[zU,seval,(show ¬(k:Int)<30 by omega)]
    have:k=30:=by omega
    subst this
    refine⟨_,_,qaq,?_,rfl⟩
    rw[hF,hi]
theorem Qu5 (l:List qao) (t:qat) (hl:l.length≤9223372036854775807):qbc prog Gl 19 [.d (.sl (l.map qao.toD)),.d t.toD] (.d (.bool (decide (l.length≤50)&&Qhx t))):=by
 refine qbc.of2 ?_
 refine qac func19 rfl rfl (by simp[ntmps19]) (qab rfl _ _ _ _ ?_)
 simp only[ntmps19,results19,qak,List.length_nil]
 simp only[zU,seval]
 repeat((with_reducible apply aI);exact sdp)
 by_cases h:l.length≤50
 ·rw[decide_eq_true h,Bool.true_and]
  simp only[zU,seval,(show(l.length:Int)≤50 by omega)]
  refine qav (fun _=>Qyo t) ?_
  simp only[zU,seval]
  repeat((with_reducible apply aI);exact sdp)
  refine⟨_,_,qaq,?_,rfl⟩
  rfl
 ·rw[decide_eq_false h,Bool.false_and]
  simp only[zU,seval,(show ¬(l.length:Int)≤50 by omega)]
  refine qav (fun _=>Qyo t) ?_
  simp only[zU,seval]
  repeat((with_reducible apply aI);exact sdp)
  refine⟨_,_,qaq,?_,rfl⟩
  rfl
theorem q37 {t:qat} (h:Qhx t=true):t.lim∧t.limS∧(frN t).length≤2400:=by
 have hf:=qw3 h
 unfold Qhx at h
 rw[Bool.and_eq_true] at h
 obtain⟨h1,h2⟩:=h
 unfold Qvj at h1
 simp only[Bool.not_eq_true',Bool.or_eq_false_iff,decide_eq_false_iff_not] at h1
 obtain⟨⟨⟨⟨⟨⟨⟨a1,a2⟩,a3⟩,a4⟩,a5⟩,a6⟩,a7⟩,a8⟩:=h1
 rw[List.all_eq_true] at h2
 have hS:∀x∈t.samples,x.stack.length≤40:=fun x hx=>by
  obtain⟨k,hk,rfl⟩:=List.getElem_of_mem hx
  have:=h2 k (List.mem_range.2 (by omega))
  unfold Qe5 at this
  have e:t.samples.getD k default=t.samples[k]:=by simp[hk]
  simp only[Bool.not_eq_true',Bool.or_eq_false_iff,Bool.and_eq_false_iff,decide_eq_false_iff_not,e] at this
  omega
 have hB:∀x∈t.blocks,x.stack.length≤40:=fun x hx=>by
  obtain⟨k,hk,rfl⟩:=List.getElem_of_mem hx
  have:=h2 k (List.mem_range.2 (by omega))
  unfold Qe5 at this
  have e:t.blocks.getD k default=t.blocks[k]:=by simp[hk]
  simp only[Bool.not_eq_true',Bool.or_eq_false_iff,Bool.and_eq_false_iff,decide_eq_false_iff_not,e] at this
  omega
 have fS:∀l:List qam,(∀x∈l,x.stack.length≤40)→((l.map (·.stack)).flatten).length≤l.length*40:=by
  intro l
  induction l with
  | nil=>intro _;simp
  | cons x l ih=>
   intro h
   have h1:=ih fun y hy=>h y (List.mem_cons_of_mem _ hy)
   have h2:=h x List.mem_cons_self
   simp only[List.map_cons,List.flatten_cons,List.length_append,List.length_cons];omega
 have fB:∀l:List qaw,(∀x∈l,x.stack.length≤40)→((l.map (·.stack)).flatten).length≤l.length*40:=by
  intro l
  induction l with
  | nil=>intro _;simp
  | cons x l ih=>
   intro h
   have h1:=ih fun y hy=>h y (List.mem_cons_of_mem _ hy)
   have h2:=h x List.mem_cons_self
   simp only[List.map_cons,List.flatten_cons,List.length_append,List.length_cons];omega
 have q1:=fS _ hS
 have q2:=fB _ hB
 refine⟨⟨by omega,by omega,by omega,by omega,by omega,by omega,by omega,by omega⟩,⟨fun x hx=>?_,fun x hx=>?_⟩,?_⟩
 ·have:=hS x hx;omega
 ·have:=hB x hx;omega
 ·rw[frN,List.length_append];omega

theorem Qj5 {P:Program} {f:FuncId} {args:List AV} {σ:Sto} {R R':AV→Sto→Prop} (h:qal P Gl f args σ R) (hw:∀r s,R r s→∃r' s',qc3 σ.length r s r' s'∧R' r' s'):qal P Gl f args σ R':=
 fun w I μ vals h1 h2 h3 h4=>(h w I μ vals h1 h2 h3 h4).mono fun v w' q=>by
  obtain⟨r,s,I',μ',q1,q2,q3,q4⟩:=q
  obtain⟨r',s',g1,g2⟩:=hw r s q4
  obtain⟨I2,μ2,k1,k2,k3⟩:=g1 w' I' μ' v q1 q3 q2.len
  exact⟨r',s',I2,μ2,k1,q2.trans k3,k2,g2⟩
def Quw (a b c d:Option D) (n:List UInt8):Option D:=if n=qax then a else if n=qa5 then b else if n=qa4 then c else if n=qay then d else none
def q9w (p:Bool) (s:List (List UInt8)):Option D:=if p=true then some (.sl (s.map .str)) else none
def gN (t:qat):List UInt8→Option D:=Quw (q9w (decide (0<t.threads.length)) (t.threads.map (·.name))) (q9w (decide (0<t.slices.length)) (t.slices.map (·.name))) (q9w (decide (0<t.samples.length+t.blocks.length)) (frN t)) (q9w (decide (0<t.steps.length)) (t.steps.map (·.name)))
def kN (t:qat):Key→Option AV:=qb7 ((q9w (decide (0<t.threads.length)) (t.threads.map (·.name))).map .d) ((q9w (decide (0<t.slices.length)) (t.slices.map (·.name))).map .d) ((q9w (decide (0<t.samples.length+t.blocks.length)) (frN t)).map .d) ((q9w (decide (0<t.steps.length)) (t.steps.map (·.name))).map .d)
theorem Q0r (t:qat) (n:List UInt8):kN t (.s n)=(gN t n).map AV.d:=by
 unfold kN gN Quw
 simp only[qb7]
 repeat' split
 all_goals rfl
theorem Qeq (t:qat):∀k v,kN t k=some v→∃d,v=AV.d d:=by
 intro k v hv
 cases k with
 | i n=>cases hv
 | s n=>
  rw[Q0r] at hv
  cases hg:gN t n with
  | none=>rw[hg] at hv;cases hv
  | some d=>rw[hg] at hv;cases hv;exact⟨d,rfl⟩
theorem Qcb:∀{a b:List (List UInt8)},a.map D.str=b.map D.str→a=b:=by
 intro a
 induction a with
 | nil=>intro b h;cases b with|nil=>rfl|cons _ _=>simp at h
 | cons x a ih=>intro b h;cases b with
  | nil=>simp at h
  | cons y b=>simp only[List.map_cons,List.cons.injEq,D.str.injEq] at h;rw[h.1,ih h.2]
theorem Qps (t:qat) (ht:t.lim) (hs:t.limS):qal prog Gl 44 [.d t.toD] [] (fun r s=>r=.mapr 0∧s=[.map none (kN t)]):=by
 refine Qj5 (Qpt t ht hs) fun r s hr=>?_
 obtain⟨rfl,rfl⟩:=hr
 refine⟨.mapr 0,[.map none (kN t)],?_,rfl,rfl⟩
 obtain⟨b1,hb1⟩:∃b,b=decide (0<t.threads.length):=⟨_,rfl⟩
 obtain⟨b2,hb2⟩:∃b,b=decide (0<t.slices.length):=⟨_,rfl⟩
 obtain⟨b3,hb3⟩:∃b,b=decide (0<t.samples.length+t.blocks.length):=⟨_,rfl⟩
 obtain⟨b4,hb4⟩:∃b,b=decide (0<t.steps.length):=⟨_,rfl⟩
 unfold kN
 rw[←hb1,←hb2,←hb3,←hb4]
 refine(Qok (Qid 0 [1,2,3,4] rfl (by simp) ?_ ?_)).trans ?_
 ·intro k v hv
  cases k with
  | i n=>cases hv
  | s n=>
   simp only[qb7] at hv
   have fin:∀(p:Bool) (i n:Nat) (σ:Sto),(qad σ i).isArr=true→i∈[1,2,3,4]→val p i n=some v→v.isD σ=true∧∀j∈v.refs,j∈[1,2,3,4]:=fun p i n σ ha hi hv=>by
    cases p with
    | false=>cases hv
    | true=>
     cases hv
     refine⟨ha,fun j hj=>?_⟩
     simp only[AV.refs,q9p,List.mem_singleton] at hj
     rw[hj];exact hi
   split at hv
   ·exact fin _ _ _ _ rfl (by decide) hv
   split at hv
   ·exact fin _ _ _ _ rfl (by decide) hv
   split at hv
   ·exact fin _ _ _ _ rfl (by decide) hv
   split at hv
   ·exact fin _ _ _ _ rfl (by decide) hv
   ·cases hv
 ·intro i hi
  simp only[List.mem_cons,List.not_mem_nil,or_false] at hi
  rcases hi with rfl|rfl|rfl|rfl<;>rfl
 ·rw[qfj]
  refine qah [] [0] rfl (by simp) rfl ?_
  have e:∀(p:Bool) (i:Nat) (xs:List (List UInt8)) (n:Nat) (σ:Sto),n=xs.length→(qad σ i).xs=xs.map .str→(val p i n).map (fun v=>AV.d (v.toD σ))=(q9w p xs).map .d:=fun p i xs n σ hn hx=>by
   cases p with
   | false=>rfl
   | true=>
    show some (AV.d (.sl (((qad σ i).xs.drop 0).take n)))=some (AV.d (.sl (xs.map .str)))
    rw[hx,List.drop_zero,List.take_of_length_le (by simp[hn])]
  show[qbs _ _ (.map none (qb7 _ _ _ _))]=_
  rw[e b1 1 (t.threads.map (·.name)) _ _ (by simp) rfl,e b2 2 (t.slices.map (·.name)) _ _ (by simp) rfl,e b3 3 (frN t) _ _ rfl rfl,e b4 4 (t.steps.map (·.name)) _ _ (by simp) rfl]
  refine congrArg (fun x=>[x]) (qh3 (B:=.map none _) (fun k v hv=>?_) _ _)
  cases k with
  | i n=>cases hv
  | s n=>
   simp only[qb7] at hv
   have fin:∀(o:Option D),o.map AV.d=some v→∃d,v=.d d:=fun o ho=>by
    cases o with
    | none=>cases ho
    | some d=>cases ho;exact⟨d,rfl⟩
   split at hv
   ·exact fin _ hv
   split at hv
   ·exact fin _ hv
   split at hv
   ·exact fin _ hv
   split at hv
   ·exact fin _ hv
   ·cases hv
def okN (l:List qao) (what x:List UInt8):Bool:=qem x||(qk2 what x l==qgn)
def qgk (l:List qao) (t:qat):Bool:=(t.threads.map (·.name)).all (okN l qax)&&(t.slices.map (·.name)).all (okN l qa5)&&(frN t).all (okN l qa4)&&(t.steps.map (·.name)).all (okN l qay)
def Qyv (l:List qao) (t:qat) (what:List UInt8):Prop:=∀xs:List (List UInt8),gN t what=some (.sl (xs.map .str))→xs.all (okN l what)=true
theorem Qmn (t:qat) {what:List UInt8} {x:D} (h:gN t what=some x):∃xs:List (List UInt8),x=.sl (xs.map .str)∧(what=qax∧xs=t.threads.map (·.name)∨what=qa5∧xs=t.slices.map (·.name)∨what=qa4∧xs=frN t∨what=qay∧xs=t.steps.map (·.name)):=by
 have fin:∀(p:Bool) (s:List (List UInt8)),q9w p s=some x→x=.sl (s.map .str):=fun p s ho=>by
  cases p with
  | false=>cases ho
  | true=>cases ho;rfl
 unfold gN Quw at h
 split at h
 ·rename_i e;exact⟨_,fin _ _ h,.inl ⟨e,rfl⟩⟩
 split at h
 ·rename_i e;exact⟨_,fin _ _ h,.inr (.inl ⟨e,rfl⟩)⟩
 split at h
 ·rename_i e;exact⟨_,fin _ _ h,.inr (.inr (.inl ⟨e,rfl⟩))⟩
 split at h
 ·rename_i e;exact⟨_,fin _ _ h,.inr (.inr (.inr ⟨e,rfl⟩))⟩
 ·cases h
theorem Q01 (t:qat):gN t qax=q9w (decide (0<t.threads.length)) (t.threads.map (·.name)):=rfl
theorem Q00 (t:qat):gN t qa5=q9w (decide (0<t.slices.length)) (t.slices.map (·.name)):=rfl
theorem Q0z (t:qat):gN t qa4=q9w (decide (0<t.samples.length+t.blocks.length)) (frN t):=rfl
theorem Q0y (t:qat):gN t qay=q9w (decide (0<t.steps.length)) (t.steps.map (·.name)):=rfl
theorem Qqz {l:List qao} {t:qat} (h:∀what x,gN t what=some x→Qyv l t what):qgk l t=true:=by
 have fin:∀(what:List UInt8) (p:Bool) (s:List (List UInt8)),gN t what=q9w p s→(p=false→s=[])→s.all (okN l what)=true:=fun what p s hg hp=>by
  cases p with
  | false=>rw[hp rfl];rfl
  | true=>exact h what (.sl (s.map .str)) hg s hg
 rw[qgk,fin _ _ _ (Q01 t) (fun h=>qpm _ h),fin _ _ _ (Q00 t) (fun h=>qpm _ h),fin _ _ _ (Q0z t) (fun h=>Qmq h),fin _ _ _ (Q0y t) (fun h=>qpm _ h)]
 rfl
theorem Qzc {p:List UInt8→Bool} {xs:List (List UInt8)} {k:Nat} (h:k<xs.length) (hp:p (xs.getD k default)=false):xs.all p=false:=by
 rw[Bool.eq_false_iff]
 intro ha
 have:=(List.all_eq_true.1 ha) (xs.getD k default) (qbh h)
 rw[hp] at this;cases this
theorem Qvy {l:List qao} {t:qat} {what:List UInt8} {xs:List (List UInt8)} (h:what=qax∧xs=t.threads.map (·.name)∨what=qa5∧xs=t.slices.map (·.name)∨what=qa4∧xs=frN t∨what=qay∧xs=t.steps.map (·.name)) (ha:xs.all (okN l what)=false):qgk l t=false:=by
 rcases h with⟨rfl,rfl⟩|⟨rfl,rfl⟩|⟨rfl,rfl⟩|⟨rfl,rfl⟩<;>simp[qgk,ha]
def Qzw (t:qat):Prop:=∀(what:List UInt8) (xs:List (List UInt8)),gN t what=some (.sl (xs.map .str))→xs.length<1000000∧∀x∈xs,x.length<9223372036854775808
theorem q3x (l:List qao) (t:qat) (hl:l.length<1000000) (ht:t.lim) (hs:t.limS) (hn:Qzw t):qbc prog Gl 23 [.d (.sl (l.map qao.toD)),.d t.toD] (.d (.bool (qgk l t))):=by
 refine qbc.of2 ?_
 refine qac func23 rfl rfl (by simp[ntmps23]) (AWp.seq (qab rfl _ _ _ _ ?_))
 simp only[ntmps23,results23,qak,List.length_nil]
 simp only[zU,seval]
 refine AWp.seq (Qhr (tM:=10) (tI:=11) (tN:=12) (tB:=13) (tE:=14) (t:=77) (e:=28) ?_ ?_ ?_ ?_ ?_ ?_ ?_ ?_ ?_ (show 11<34 by decide) (show 12<34 by decide) (show 14<34 by decide) (by kernel_rfl) ?_)
 rotate_left 9
 ·obtain⟨L,hL⟩:∃L,L=D.sl (l.map qao.toD):=⟨_,rfl⟩
  refine qdu (K1:=fun e1 s1=>qin 34 0 e1 s1 [(0,.d (.sl (l.map qao.toD))),(10,.mapr 0)] [.map none (kN t)]) (fun e1 s1 hw=>⟨_,_,0,kN t,gN t,[(0,.d (.sl (l.map qao.toD))),(11,.ptr 1 0)],[.dead,.frz 0 []],Qyv l t,hw,rfl,rfl,Q0r t,?wk,rfl,rfl,fun b=>?nx,fun what x hx=>?bd,fun hall=>?en⟩) _ _ _ ?op
  case wk=>
   refine qaa [] [0,1] rfl (by simp) ?_ rfl
   simp only[zU,seval,List.length_cons,List.length_nil]
   try rfl
  case nx=>
   refine qdu (K1:=fun e1 s1=>e1=putE (putE [(0,.d (.sl (l.map qao.toD))),(11,.ptr 1 0)] (some 12) (if b=true then .tup [.d (.bool true),.undef,.undef] else .tup [.d (.bool false)])) (some 13) (.d (.bool b))∧s1=[.dead,.frz 0 []]) (fun e1 s1 hw=>?_) _ _ _ ?_
   ·obtain⟨rfl,rfl⟩:=hw
    refine⟨rfl,?_⟩
    refine qaa [] [0,1] rfl (by simp) ?_ rfl
    cases b<;>rfl
   ·cases b
    ·simp only[zU,seval]
    ·simp only[zU,seval]
  case bd=>
   obtain⟨xs,rfl,hcase⟩:=Qmn t hx
   obtain⟨hn1,hn2⟩:=hn what xs hx
   refine qdu (K1:=fun e1 s1=>qin 34 2 e1 s1 [(0,.d (.sl (l.map qao.toD))),(5,.d (.str what)),(6,.d (.sl (xs.map .str))),(11,.ptr 1 0)] [.dead,.frz 0 []]) (fun e1 s1 hw=>?_) _ _ _ ?_
   ·refine AWp.weak hw (qab rfl _ _ _ _ ?_)
    simp only[zU,seval]
    refine qap xs.length (fun k=>[(0,.d (.sl (l.map qao.toD))),(5,.d (.str what)),(11,.ptr 1 0),(17,.d (.sl (xs.map .str))),(18,.d (.int .i64 xs.length)),(19,.d (.int .i64 k))]) (fun _=>[.dead,.frz 0 []]) (fun k=>(xs.take k).all (okN l what)=true) rfl ?_ ?_
    ·refine qaa [] [0,1] rfl (by simp) ?_ rfl
     simp only[zU,seval]
     all_goals rfl
    ·intro k hi hk
     by_cases h:k<xs.length
     ·have hxk:=hn2 (xs.getD k default) (qbh h)
      simp only[zU,seval,(show(k:Int)<xs.length by omega),h,qaj _ _ _ (show k<xs.length by omega)]
      repeat((with_reducible apply aI);exact sdp)
      refine qaf (Qg2 _ hxk) ?_
      simp only[zU,seval]
      repeat((with_reducible apply aI);exact sdp)
      refine qav (fun _=>qgq l what _ hl) ?_
      simp only[zU,seval]
      repeat((with_reducible apply aI);exact sdp)
      have hstep:(xs.take (k+1)).all (okN l what)=okN l what (xs.getD k default):=by rw[qa0 xs k h,List.all_append,hi];simp
      refine ifC.mk (fun hc=>?_) (fun hc=>?_)
      ·have hc:okN l what (xs.getD k default)=false:=by
        unfold okN
        cases e1:qem (xs.getD k default)<;>simp_all [qgn]
       refine⟨_,_,qaq,?_,rfl⟩
       rw[Qvy hcase (Qzc h hc)]
      ·have hc:okN l what (xs.getD k default)=true:=by
        unfold okN
        cases e1:qem (xs.getD k default)<;>simp_all [qgn]
       refine⟨by rw[hstep];exact hc,?_⟩
       refine qaa [] [0,1] rfl (by simp) ?_ rfl
       simp only[zU,seval,@qag ((k:Int)+1) (by omega)]
       all_goals rfl
     ·have:k=xs.length:=by omega
      subst this
      rw[List.take_length] at hi
      simp only[zU,seval,(show ¬(xs.length:Int)<xs.length by omega)]
      refine⟨fun ys hy=>?_,?_⟩
      ·have e:=D.sl.inj (Option.some.inj (hx.symm.trans hy))
       rw[←Qcb e];exact hi
      ·refine qaa [] [0,1] rfl (by simp) ?_ rfl
       simp only[zU,seval]
       all_goals rfl
   ·simp only[zU,seval]
    refine qaa [] [0,1] rfl (by simp) ?_ rfl
    simp only[zU,seval]
    all_goals rfl
  case en=>
   show AWp _ _ _ _ _ _ _ _
   refine qab rfl _ _ _ _ ?_
   simp only[zU,seval]
   refine⟨_,_,qaq,?_,rfl⟩
   rw[Qqz hall]
  case op=>
   simp only[zU,seval]
   refine qb3 (R:=fun r ν=>r=.mapr 0∧ν=[.map none (kN t)]) [] [] (by simp) (by simp) rfl rfl (fun j i h=>by simp at h) ((Qps t ht hs).mono fun r s hr=>⟨s,by rw[List.nil_append],hr.1,hr.2⟩) (fun r ν hr=>?_)
   obtain⟨rfl,rfl⟩:=hr
   rw[show([.map none (kN t)]:Sto).map (qdo (qb6 [] ([Blk.box 10 (.d t.toD)]:Sto).length))=[.map none (kN t)] from congrArg (fun x=>[x]) (qh4 (B:=.map none (kN t)) (Qeq t) _)]
   simp only[zU,seval]
   refine qaa [] [1] rfl (by simp) ?_ ?_
   ·simp only[zU,seval]
    try rfl
   ·exact congrArg (fun x=>[x]) (qh3 (B:=.map none (kN t)) (Qeq t) _ _)
 all_goals rfl

def qjl:List (List UInt8):=[qax,qa5,qa4,qay]
def q4k (t:qat):Nat→List (List UInt8)
 | 0=>t.threads.map (·.name)
 | 1=>t.slices.map (·.name)
 | 2=>frN t
 | _=>t.steps.map (·.name)
theorem Qyr (t:qat) (ht:t.lim) (hs:t.limS) (k:Nat) (hk:k<4):qbc prog Gl 48 [.d t.toD,.d (.str (qjl.getD k default))] (.d (.sl ((q4k t k).map .str))):=by
 match k,hk with
 | 0,_=>exact Qyp t ht hs
 | 1,_=>exact Qyq t ht hs
 | 2,_=>exact Qys t ht hs
 | 3,_=>exact Qyt t ht hs
theorem Qvx (l:List qao) (t:qat):qgk l t=(List.range 4).all fun k=>(q4k t k).all (okN l (qjl.getD k default)):=by
 rw[qgk]
 show _=([0,1,2,3].all fun k=>(q4k t k).all (okN l (qjl.getD k default)))
 simp only[List.all_cons,List.all_nil,Bool.and_true]
 rw[←Bool.and_assoc,←Bool.and_assoc]
 rfl
def Qtk (t:qat):Prop:=∀k,k<4→(q4k t k).length<1000000∧∀x∈q4k t k,x.length<9223372036854775808
theorem q3d {t:qat} (h:Qtk t):Qzw t:=fun what xs hg=>by
 obtain⟨ys,e,hc⟩:=Qmn t hg
 have e2:xs=ys:=Qcb (D.sl.inj e)
 subst e2
 rcases hc with⟨_,rfl⟩|⟨_,rfl⟩|⟨_,rfl⟩|⟨_,rfl⟩
 ·exact h 0 (by omega)
 ·exact h 1 (by omega)
 ·exact h 2 (by omega)
 ·exact h 3 (by omega)
theorem Qp6 (l:List qao) (t:qat) (hl:l.length<1000000) (ht:t.lim) (hs:t.limS) (hn:Qtk t):qbc prog Gl 24 [.d (.sl (l.map qao.toD)),.d t.toD] (.d (.bool (qgk l t))):=by
 refine qbc.of2 ?_
 rw[Qvx]
 refine qac func24 rfl rfl (by simp[ntmps24]) (qab rfl _ _ _ _ ?_)
 simp only[ntmps24,results24,qak,List.length_nil]
 simp only[zU,seval]
 refine qaf Qu9 ?_
 simp only[zU,seval]
 refine qap 4 (fun k=>[(0,.d (.sl (l.map qao.toD))),(3,.ptr 0 0),(5,.d (.sl (qjl.map .str))),(6,.d (.int .i64 k))]) (fun _=>[.box 10 (.d t.toD)]) (fun k=>((List.range k).all fun k=>(q4k t k).all (okN l (qjl.getD k default)))=true) rfl ?_ ?_
 ·refine qaa [] [0] rfl (by simp) ?_ rfl
  simp only[zU,seval]
  all_goals rfl
 intro k hi hk
 have hkl:qjl.length=4:=rfl
 by_cases h:k<4
 ·have eg:(qjl.map D.str).getD k default=.str (qjl.getD k default):=qaj _ _ _ (by omega)
  obtain⟨hn1,hn2⟩:=hn k h
  have hstep:=qcn (fun k=>(q4k t k).all (okN l (qjl.getD k default))) k
  rw[hi,Bool.true_and] at hstep
  have hbad:=fun hb=>qce (p:=fun k=>(q4k t k).all (okN l (qjl.getD k default))) (n:=4) h hb
  obtain⟨K,hK⟩:∃K,K=qjl.getD k default:=⟨_,rfl⟩
  obtain⟨N,hN⟩:∃N,N=q4k t k:=⟨_,rfl⟩
  have hAll:=Qyr (Gl:=Gl) t ht hs k h
  rw[←hK] at eg hAll
  simp only[←hK,←hN] at hstep hbad hn1 hn2
  rw[←hN] at hAll
  simp only[zU,seval,(show(k:Int)<4 by omega),hkl,h,eg]
  repeat((with_reducible apply aI);exact sdp)
  refine qaf hAll ?_
  simp only[zU,seval]
  refine qap N.length (fun n=>[(0,.d (.sl (l.map qao.toD))),(3,.ptr 0 0),(5,.d (.sl (qjl.map .str))),(6,.d (.int .i64 k)),(7,.d (.sl (N.map .str))),(8,.d (.int .i64 n))]) (fun _=>[.box 10 (.d t.toD)]) (fun n=>(N.take n).all (okN l K)=true) rfl ?_ ?_
  ·refine qaa [] [0] rfl (by simp) ?_ rfl
   simp only[zU,seval]
   all_goals rfl
  intro n hi2 hn3
  by_cases h2:n<N.length
  ·have hx:=hn2 (N.getD n default) (qbh h2)
   simp only[zU,seval,(show(n:Int)<N.length by omega),h2,qaj _ _ _ (show n<N.length by omega)]
   repeat((with_reducible apply aI);exact sdp)
   refine qaf (Qp8 _ hx) ?_
   simp only[zU,seval,(show(k:Int)<4 by omega),hkl,h,eg,(show(n:Int)<N.length by omega),h2,qaj _ _ _ (show n<N.length by omega)]
   repeat((with_reducible apply aI);exact sdp)
   refine qav (fun _=>Qlz l K _ hl) ?_
   simp only[zU,seval]
   repeat((with_reducible apply aI);exact sdp)
   have hst2:(N.take (n+1)).all (okN l K)=okN l K (N.getD n default):=by rw[qa0 N n h2,List.all_append,hi2];simp
   refine ifC.mk (fun hc=>?_) (fun hc=>?_)
   ·have hc:okN l K (N.getD n default)=false:=by
     unfold okN
     cases e1:qem (N.getD n default)<;>simp_all [qgn]
    refine⟨_,_,qaq,?_,rfl⟩
    rw[hbad (Qzc h2 hc)]
   ·have hc:okN l K (N.getD n default)=true:=by
     unfold okN
     cases e1:qem (N.getD n default)<;>simp_all [qgn]
    refine⟨by rw[hst2];exact hc,?_⟩
    refine qaa [] [0] rfl (by simp) ?_ rfl
    simp only[zU,seval,@qag ((n:Int)+1) (by omega)]
    all_goals rfl
  ·have:n=N.length:=by omega
   subst this
   rw[List.take_length] at hi2
   simp only[zU,seval,(show ¬(N.length:Int)<N.length by omega)]
   refine⟨by rw[hstep];exact hi2,?_⟩
   refine qaa [] [0] rfl (by simp) ?_ rfl
   simp only[zU,seval,@qag ((k:Int)+1) (by omega)]
   all_goals rfl
 ·have:k=4:=by omega
  subst this
  simp only[zU,seval,hkl]
  refine⟨_,_,qf4 rfl ?_,rfl,rfl⟩
  rw[hi];rfl

def Qxl (l:List qao) (t:qat):qat×Int:=
 if qi9 l≠0 then(qjt,qi9 l) else if qc6 t≠0 then(qjt,qc6 t)
 else if qky l (qgj l t)=true then(qjt,4) else(q14 (q4o l (qgj l t)),0)

theorem qv3 (a:qai):qgs prog 55 .neq (.d a.toD) (.d a.toD)=True:=eq_true (by
 refine(show True∧(match qm2 prog 55 with|some l=>qlj l _ _=true|none=>False) from⟨trivial,?_⟩)
 rw[Qwr];rfl)
theorem qyj (a:qai):q9a .neq (.d a.toD) (.d a.toD)=.d (.bool false):=by
 show AV.d (.bool (!(qil [.int .i64 a.id,.str a.name,.int .i64 a.dom] [.int .i64 a.id,.str a.name,.int .i64 a.dom])))=_
 simp[qil,D.beq1]
theorem q1g (a:qae):qgs prog 57 .neq (.d a.toD) (.d a.toD)=True:=eq_true (by
 refine(show True∧(match qm2 prog 57 with|some l=>qlj l _ _=true|none=>False) from⟨trivial,?_⟩)
 rw[Qry];rfl)
theorem q4z (a:qae):q9a .neq (.d a.toD) (.d a.toD)=.d (.bool false):=by
 show AV.d (.bool (!(qil [.int .i64 a.thread,.int .i64 a.parent,.int .i64 a.depth,.str a.name,.int .i64 a.lo,.int .i64 a.hi,.int .i64 a.self,.bool a.open_] [.int .i64 a.thread,.int .i64 a.parent,.int .i64 a.depth,.str a.name,.int .i64 a.lo,.int .i64 a.hi,.int .i64 a.self,.bool a.open_])))=_
 simp[qil,D.beq1]
theorem q7h (a:qbj):qgs prog 87 .neq (.d a.toD) (.d a.toD)=True:=eq_true (by
 refine(show True∧(match qm2 prog 87 with|some l=>qlj l _ _=true|none=>False) from⟨trivial,?_⟩)
 rw[Qwo];rfl)
theorem Qb5 (a:qbj):q9a .neq (.d a.toD) (.d a.toD)=.d (.bool false):=by
 show AV.d (.bool (!(qil [.int .i64 a.id,.int .i64 a.ft,.int .i64 a.fs,.int .i64 a.tt,.int .i64 a.ts,.int .i64 a.send,.int .i64 a.recv] [.int .i64 a.id,.int .i64 a.ft,.int .i64 a.fs,.int .i64 a.tt,.int .i64 a.ts,.int .i64 a.send,.int .i64 a.recv])))=_
 simp[qil,D.beq1]
theorem q7f (a:qa7):qgs prog 89 .neq (.d a.toD) (.d a.toD)=True:=eq_true (by
 refine(show True∧(match qm2 prog 89 with|some l=>qlj l _ _=true|none=>False) from⟨trivial,?_⟩)
 rw[Qwn];rfl)
theorem Qb3 (a:qa7):q9a .neq (.d a.toD) (.d a.toD)=.d (.bool false):=by
 show AV.d (.bool (!(qil [.str a.name,.int .i64 a.at_,.int .i64 a.value] [.str a.name,.int .i64 a.at_,.int .i64 a.value])))=_
 simp[qil,D.beq1]
theorem q7g (a:qb5):qgs prog 66 .neq (.d a.toD) (.d a.toD)=True:=eq_true (by
 refine(show True∧(match qm2 prog 66 with|some l=>qlj l _ _=true|none=>False) from⟨trivial,?_⟩)
 rw[Qwp];rfl)
theorem Qb4 (a:qb5):q9a .neq (.d a.toD) (.d a.toD)=.d (.bool false):=by
 show AV.d (.bool (!(qil [.int .i64 a.thread,.int .i64 a.lo,.int .i64 a.hi,.int .i64 a.count] [.int .i64 a.thread,.int .i64 a.lo,.int .i64 a.hi,.int .i64 a.count])))=_
 simp[qil,D.beq1]
theorem Qp4 (t:qat) (ht:t.lim) (hs:t.limS):qbc prog Gl 22 [.d t.toD,.d t.toD] (.d (.bool true)):=by
 refine qbc.of2 ?_
 obtain⟨h1,h2,h3,h4,h5,h6,h7,h8⟩:=id ht
 refine qac func22 rfl rfl (by simp[ntmps22]) (qab rfl _ _ _ _ ?_)
 simp only[ntmps22,results22,qak,List.length_nil]
 simp only[zU,seval]
 (try simp only[zU,seval,bne_self_eq_false,beq_self_eq_true,Bool.and_self,Bool.not_true])
 repeat((with_reducible apply aI);exact sdp)
 (try simp only[zU,seval,bne_self_eq_false,beq_self_eq_true,Bool.and_self,Bool.not_true])
 refine qav (v:=.d (.bool true)) (fun _=>by have:=Ql0 (Gl:=Gl) t.states t.states (by omega) (by omega);rwa [beq_self_eq_true] at this) ?_
 simp only[zU,seval,bne_self_eq_false,beq_self_eq_true,Bool.and_self,Bool.not_true]
 repeat((with_reducible apply aI);exact sdp)
 (try simp only[zU,seval,bne_self_eq_false,beq_self_eq_true,Bool.and_self,Bool.not_true])
 refine qap t.threads.length (fun k=>[(2,.ptr 0 0),(3,.ptr 1 0),(5,.d (.int .i64 k))]) (fun _=>[.box 10 (.d t.toD),.box 10 (.d t.toD)]) (fun _=>True) trivial ?_ ?_
 ·refine qaa [] [0,1] rfl (by simp) ?_ rfl
  simp only[zU,seval]
  try rfl
 intro k _ hk
 by_cases h:k<t.threads.length
 ·obtain⟨x,hx⟩:∃x,x=t.threads.getD k default:=⟨_,rfl⟩
  have eg:(t.threads.map qai.toD).getD k default=x.toD:=by rw[qaj _ _ _ h,←hx]
  simp only[zU,seval,(show(k:Int)<t.threads.length by omega),h,eg,qv3,qyj,bne_self_eq_false,beq_self_eq_true,Bool.and_self,Bool.not_true]
  repeat((with_reducible apply aI);exact sdp)
  (try simp only[zU,seval,qv3,qyj,bne_self_eq_false,beq_self_eq_true,Bool.and_self,Bool.not_true])
  refine qaa [] [0,1] rfl (by simp) ?_ rfl
  simp only[zU,seval,@qag ((k:Int)+1) (by omega)]
  try rfl
 have:k=t.threads.length:=by omega
 subst this
 simp only[zU,seval,(show ¬(t.threads.length:Int)<t.threads.length by omega)]
 refine qap t.slices.length (fun k=>[(2,.ptr 0 0),(3,.ptr 1 0),(6,.d (.int .i64 k))]) (fun _=>[.box 10 (.d t.toD),.box 10 (.d t.toD)]) (fun _=>True) trivial ?_ ?_
 ·refine qaa [] [0,1] rfl (by simp) ?_ rfl
  simp only[zU,seval]
  try rfl
 intro k _ hk
 by_cases h:k<t.slices.length
 ·obtain⟨x,hx⟩:∃x,x=t.slices.getD k default:=⟨_,rfl⟩
  have eg:(t.slices.map qae.toD).getD k default=x.toD:=by rw[qaj _ _ _ h,←hx]
  simp only[zU,seval,(show(k:Int)<t.slices.length by omega),h,eg,q1g,q4z,bne_self_eq_false,beq_self_eq_true,Bool.and_self,Bool.not_true]
  repeat((with_reducible apply aI);exact sdp)
  (try simp only[zU,seval,q1g,q4z,bne_self_eq_false,beq_self_eq_true,Bool.and_self,Bool.not_true])
  refine qaa [] [0,1] rfl (by simp) ?_ rfl
  simp only[zU,seval,@qag ((k:Int)+1) (by omega)]
  try rfl
 have:k=t.slices.length:=by omega
 subst this
 simp only[zU,seval,(show ¬(t.slices.length:Int)<t.slices.length by omega)]
 refine qap t.flows.length (fun k=>[(2,.ptr 0 0),(3,.ptr 1 0),(7,.d (.int .i64 k))]) (fun _=>[.box 10 (.d t.toD),.box 10 (.d t.toD)]) (fun _=>True) trivial ?_ ?_
 ·refine qaa [] [0,1] rfl (by simp) ?_ rfl
  simp only[zU,seval]
  try rfl
 intro k _ hk
 by_cases h:k<t.flows.length
 ·obtain⟨x,hx⟩:∃x,x=t.flows.getD k default:=⟨_,rfl⟩
  have eg:(t.flows.map qbj.toD).getD k default=x.toD:=by rw[qaj _ _ _ h,←hx]
  simp only[zU,seval,(show(k:Int)<t.flows.length by omega),h,eg,q7h,Qb5,bne_self_eq_false,beq_self_eq_true,Bool.and_self,Bool.not_true]
  repeat((with_reducible apply aI);exact sdp)
  (try simp only[zU,seval,q7h,Qb5,bne_self_eq_false,beq_self_eq_true,Bool.and_self,Bool.not_true])
  refine qaa [] [0,1] rfl (by simp) ?_ rfl
  simp only[zU,seval,@qag ((k:Int)+1) (by omega)]
  try rfl
 have:k=t.flows.length:=by omega
 subst this
 simp only[zU,seval,(show ¬(t.flows.length:Int)<t.flows.length by omega)]
 refine qap t.samples.length (fun k=>[(2,.ptr 0 0),(3,.ptr 1 0),(8,.d (.int .i64 k))]) (fun _=>[.box 10 (.d t.toD),.box 10 (.d t.toD)]) (fun _=>True) trivial ?_ ?_
 ·refine qaa [] [0,1] rfl (by simp) ?_ rfl
  simp only[zU,seval]
  try rfl
 intro k _ hk
 by_cases h:k<t.samples.length
 ·obtain⟨x,hx⟩:∃x,x=t.samples.getD k default:=⟨_,rfl⟩
  have eg:(t.samples.map qam.toD).getD k default=x.toD:=by rw[qaj _ _ _ h,←hx]
  have hxs:=hs.1 x (by rw[hx];exact qbh h)
  simp only[zU,seval,(show(k:Int)<t.samples.length by omega),h,eg,bne_self_eq_false,beq_self_eq_true,Bool.and_self,Bool.not_true]
  repeat((with_reducible apply aI);exact sdp)
  (try simp only[zU,seval,bne_self_eq_false,beq_self_eq_true,Bool.and_self,Bool.not_true])
  refine qav (v:=.d (.bool true)) (fun _=>by have:=qwl (Gl:=Gl) x.stack x.stack hxs hxs;rwa [beq_self_eq_true] at this) ?_
  simp only[zU,seval,bne_self_eq_false,beq_self_eq_true,Bool.and_self,Bool.not_true]
  repeat((with_reducible apply aI);exact sdp)
  (try simp only[zU,seval,bne_self_eq_false,beq_self_eq_true,Bool.and_self,Bool.not_true])
  refine qaa [] [0,1] rfl (by simp) ?_ rfl
  simp only[zU,seval,@qag ((k:Int)+1) (by omega)]
  try rfl
 have:k=t.samples.length:=by omega
 subst this
 simp only[zU,seval,(show ¬(t.samples.length:Int)<t.samples.length by omega)]
 refine qap t.steps.length (fun k=>[(2,.ptr 0 0),(3,.ptr 1 0),(11,.d (.int .i64 k))]) (fun _=>[.box 10 (.d t.toD),.box 10 (.d t.toD)]) (fun _=>True) trivial ?_ ?_
 ·refine qaa [] [0,1] rfl (by simp) ?_ rfl
  simp only[zU,seval]
  try rfl
 intro k _ hk
 by_cases h:k<t.steps.length
 ·obtain⟨x,hx⟩:∃x,x=t.steps.getD k default:=⟨_,rfl⟩
  have eg:(t.steps.map qa7.toD).getD k default=x.toD:=by rw[qaj _ _ _ h,←hx]
  simp only[zU,seval,(show(k:Int)<t.steps.length by omega),h,eg,q7f,Qb3,bne_self_eq_false,beq_self_eq_true,Bool.and_self,Bool.not_true]
  repeat((with_reducible apply aI);exact sdp)
  (try simp only[zU,seval,q7f,Qb3,bne_self_eq_false,beq_self_eq_true,Bool.and_self,Bool.not_true])
  refine qaa [] [0,1] rfl (by simp) ?_ rfl
  simp only[zU,seval,@qag ((k:Int)+1) (by omega)]
  try rfl
 have:k=t.steps.length:=by omega
 subst this
 simp only[zU,seval,(show ¬(t.steps.length:Int)<t.steps.length by omega)]
 refine qap t.blocks.length (fun k=>[(2,.ptr 0 0),(3,.ptr 1 0),(12,.d (.int .i64 k))]) (fun _=>[.box 10 (.d t.toD),.box 10 (.d t.toD)]) (fun _=>True) trivial ?_ ?_
 ·refine qaa [] [0,1] rfl (by simp) ?_ rfl
  simp only[zU,seval]
  try rfl
 intro k _ hk
 by_cases h:k<t.blocks.length
 ·obtain⟨x,hx⟩:∃x,x=t.blocks.getD k default:=⟨_,rfl⟩
  have eg:(t.blocks.map qaw.toD).getD k default=x.toD:=by rw[qaj _ _ _ h,←hx]
  have hxs:=hs.2 x (by rw[hx];exact qbh h)
  simp only[zU,seval,(show(k:Int)<t.blocks.length by omega),h,eg,bne_self_eq_false,beq_self_eq_true,Bool.and_self,Bool.not_true]
  repeat((with_reducible apply aI);exact sdp)
  (try simp only[zU,seval,bne_self_eq_false,beq_self_eq_true,Bool.and_self,Bool.not_true])
  refine qav (v:=.d (.bool true)) (fun _=>by have:=qwl (Gl:=Gl) x.stack x.stack hxs hxs;rwa [beq_self_eq_true] at this) ?_
  simp only[zU,seval,bne_self_eq_false,beq_self_eq_true,Bool.and_self,Bool.not_true]
  repeat((with_reducible apply aI);exact sdp)
  (try simp only[zU,seval,bne_self_eq_false,beq_self_eq_true,Bool.and_self,Bool.not_true])
  refine qaa [] [0,1] rfl (by simp) ?_ rfl
  simp only[zU,seval,@qag ((k:Int)+1) (by omega)]
  try rfl
 have:k=t.blocks.length:=by omega
 subst this
 simp only[zU,seval,(show ¬(t.blocks.length:Int)<t.blocks.length by omega)]
 refine qap t.lost.length (fun k=>[(2,.ptr 0 0),(3,.ptr 1 0),(15,.d (.int .i64 k))]) (fun _=>[.box 10 (.d t.toD),.box 10 (.d t.toD)]) (fun _=>True) trivial ?_ ?_
 ·refine qaa [] [0,1] rfl (by simp) ?_ rfl
  simp only[zU,seval]
  try rfl
 intro k _ hk
 by_cases h:k<t.lost.length
 ·obtain⟨x,hx⟩:∃x,x=t.lost.getD k default:=⟨_,rfl⟩
  have eg:(t.lost.map qb5.toD).getD k default=x.toD:=by rw[qaj _ _ _ h,←hx]
  simp only[zU,seval,(show(k:Int)<t.lost.length by omega),h,eg,q7g,Qb4,bne_self_eq_false,beq_self_eq_true,Bool.and_self,Bool.not_true]
  repeat((with_reducible apply aI);exact sdp)
  (try simp only[zU,seval,q7g,Qb4,bne_self_eq_false,beq_self_eq_true,Bool.and_self,Bool.not_true])
  refine qaa [] [0,1] rfl (by simp) ?_ rfl
  simp only[zU,seval,@qag ((k:Int)+1) (by omega)]
  try rfl
 have:k=t.lost.length:=by omega
 subst this
 simp only[zU,seval,(show ¬(t.lost.length:Int)<t.lost.length by omega)]
 refine⟨_,_,qaq,?_,rfl⟩
 rfl
end YtljpopkonkanlaaGreatDoor
end Go.Proofs

set_option maxRecDepth 100000
namespace Go.Proofs
open Go.AM Tryz
namespace YtljpopkonkanlaaGreatDoor
structure Shp (L M:List qae):Prop where
 len:L.length=M.length
 th:∀i:Nat,(L.getD i default).thread=(M.getD i default).thread
 pa:∀i:Nat,(L.getD i default).parent=(M.getD i default).parent
 de:∀i:Nat,(L.getD i default).depth=(M.getD i default).depth
 lo:∀i:Nat,(L.getD i default).lo=(M.getD i default).lo
 hi:∀i:Nat,(L.getD i default).hi=(M.getD i default).hi
 se:∀i:Nat,(L.getD i default).self=(M.getD i default).self
theorem qf3 (L:List qae) (i k:Int):qcz L i k=if 0≤k then(if i=k then true else if(L.getD k.toNat default).parent<k then qcz L i (L.getD k.toNat default).parent else false) else false:=by
 conv=>lhs;rw[qcz]
 by_cases h0:0≤k
 ·rw[dif_pos h0,if_pos h0]
  by_cases h1:i=k
  ·rw[if_pos h1,if_pos h1]
  ·rw[if_neg h1,if_neg h1]
   by_cases h2:(L.getD k.toNat default).parent<k
   ·rw[dif_pos h2,if_pos h2]
   ·rw[dif_neg h2,if_neg h2]
 ·rw[dif_neg h0,if_neg h0]
theorem qte {L M:List qae} (i:Int):∀(n:Nat) (k:Int),(k+1).toNat≤n→(∀q:Nat,(q:Int)≤k→(L.getD q default).parent=(M.getD q default).parent)→qcz L i k=qcz M i k
 | 0,k,hk,h=>by
  rw[qf3 L,qf3 M,if_neg (by omega),if_neg (by omega)]
 | n+1,k,hk,h=>by
  rw[qf3 L,qf3 M]
  by_cases h0:0≤k
  ·rw[if_pos h0,if_pos h0]
   by_cases h1:i=k
   ·rw[if_pos h1,if_pos h1]
   ·rw[if_neg h1,if_neg h1]
    have e:=h k.toNat (by omega)
    rw[e]
    by_cases h2:(M.getD k.toNat default).parent<k
    ·rw[if_pos h2,if_pos h2]
     exact qte i n _ (by omega) fun q hq=>h q (by omega)
    ·rw[if_neg h2,if_neg h2]
  ·rw[if_neg h0,if_neg h0]
theorem qk7 {L M:List qae} (i k:Int) (h:∀q:Nat,(q:Int)≤k→(L.getD q default).parent=(M.getD q default).parent):qcz L i k=qcz M i k:=qte i _ k (Nat.le_refl _) h
theorem qyt {L M:List qae} (h:Shp L M) (i:Nat):∀j,qfa L i j=qfa M i j
 | 0=>by rw[qfa,qfa,h.lo,h.hi]
 | j+1=>by rw[qfa,qfa,h.pa,h.lo,h.hi,qyt h i j]
theorem qxn {p q:Nat→Bool} {n m:Nat} (hn:n=m) (h:∀i,i<n→p i=q i):(List.range n).all p=(List.range m).all q:=by
 subst hn
 rw[Bool.eq_iff_iff,List.all_eq_true,List.all_eq_true]
 constructor
 ·intro h1 x hx;rw[←h x (List.mem_range.1 hx)];exact h1 x hx
 ·intro h1 x hx;rw[h x (List.mem_range.1 hx)];exact h1 x hx
theorem Qgj {L M:List qae} (h:Shp L M):qg4 L=qg4 M:=by
 unfold qg4
 refine qxn h.len fun i hi=>?_
 unfold qek
 simp only[h.th,h.pa,h.de,h.lo,h.hi]
theorem Qbi {L M:List qae} (h:Shp L M):qgm L=qgm M:=by
 unfold qgm
 refine qxn h.len fun i hi=>?_
 unfold qf0
 rw[h.se,h.len,qyt h]
 congr 1
 refine qxn rfl fun j hj=>?_
 unfold qii
 rw[h.th,h.th,h.lo,h.hi,h.lo,h.hi,qk7 j i fun q _=>h.pa q]
theorem qst (out:List qae) (s:qae) (j:Nat):((qhw out s).getD j default).thread=(out.getD j default).thread∧((qhw out s).getD j default).parent=(out.getD j default).parent∧((qhw out s).getD j default).depth=(out.getD j default).depth∧((qhw out s).getD j default).lo=(out.getD j default).lo∧((qhw out s).getD j default).hi=(out.getD j default).hi ∧
  ((qhw out s).getD j default).self=(out.getD j default).self-(if 0≤s.parent∧s.parent.toNat=j∧j<out.length then s.hi-s.lo else 0):=by
 unfold qhw
 by_cases h0:0≤s.parent
 ·rw[if_pos h0]
  by_cases h1:s.parent.toNat=j
  ·by_cases h2:j<out.length
   ·rw[if_pos ⟨h0,h1,h2⟩]
    subst h1
    have e:∀z,(out.set s.parent.toNat z).getD s.parent.toNat default=z:=fun z=>by simp[h2]
    rw[e];exact⟨rfl,rfl,rfl,rfl,rfl,rfl⟩
   ·rw[if_neg (by intro h;exact h2 h.2.2)]
    have e:∀z,out.set s.parent.toNat z=out:=fun z=>List.set_eq_of_length_le (by omega)
    rw[e];exact⟨rfl,rfl,rfl,rfl,rfl,by omega⟩
  ·rw[if_neg (by intro h;exact h1 h.2.1)]
   have e:∀z,(out.set s.parent.toNat z).getD j default=out.getD j default:=fun z=>by
    rw[List.getD_eq_getElem?_getD,List.getElem?_set_ne h1,List.getD_eq_getElem?_getD]
   rw[e];exact⟨rfl,rfl,rfl,rfl,rfl,by omega⟩
 ·rw[if_neg h0,if_neg (by intro h;exact h0 h.1)]
  exact⟨rfl,rfl,rfl,rfl,rfl,by omega⟩
def qh5 (l:List qae) (i:Nat):Nat→Int
 | 0=>(l.getD i default).hi-(l.getD i default).lo
 | j+1=>if(l.getD j default).parent=(i:Int) then qh5 l i j-((l.getD j default).hi-(l.getD j default).lo) else qh5 l i j
theorem q5e (v:List qae) (s:qae) (i:Nat) (hi:i<v.length):∀j,j≤v.length→qh5 (v++[s]) i j=qh5 v i j
 | 0,_=>by rw[qh5,qh5,qcq _ _ _ (by omega),if_pos hi]
 | j+1,hj=>by
  have e:(v++[s]).getD j default=v.getD j default:=by rw[qcq _ _ _ (by omega),if_pos (by omega)]
  rw[qh5,qh5,e,q5e v s i hi j (by omega)]
theorem qyu (v:List qae) (i:Nat):∀j,(∀q,q<j→(v.getD q default).parent≠(i:Int))→qh5 v i j=(v.getD i default).hi-(v.getD i default).lo
 | 0,_=>rfl
 | j+1,h=>by
  rw[qh5,if_neg (h j (by omega)),qyu v i j fun q hq=>h q (by omega)]
theorem q8p {v:List qae}:qd7 v→(∀q,q<v.length→((qc4 v).getD q default).depth=if 0≤(v.getD q default).parent then((qc4 v).getD (v.getD q default).parent.toNat default).depth+1 else 0)∧∀i,i<v.length→((qc4 v).getD i default).self=qh5 v i v.length:=by
 obtain⟨n,hn⟩:∃n,n=v.length:=⟨_,rfl⟩
 induction n generalizing v with
 | zero=>intro _;exact⟨fun q hq=>by omega,fun q hq=>by omega⟩
 | succ n ih=>
  intro hg
  rcases List.eq_nil_or_concat v with rfl|⟨w,s,rfl⟩
  ·simp at hn
  rw[List.concat_eq_append] at hn hg ⊢
  have hw:n=w.length:=by rw[List.length_append] at hn;simp at hn;exact hn
  have hgw:qd7 w:=by
   have:=qgw hg w.length
   rwa [List.take_left' rfl] at this
  obtain⟨i1,i2⟩:=ih hw hgw
  have hl:=qcw w
  have hs:=hg w.length (by simp)
  rw[qcq _ _ _ (by omega),if_neg (by omega)] at hs
  have hlen:(w++[s]).length=w.length+1:=by simp
  have eN:(w++[s]).getD w.length default=s:=by rw[qcq _ _ _ (by omega),if_neg (by omega)]
  have getF:∀j,j<w.length+1→(qc4 (w++[s])).getD j default=if j<w.length then(qhw (qc4 w) s).getD j default else Qkn (qc4 w) s:=fun j hj=>by
   rw[qga,qcp,qcq _ _ _ (by rw[qg6];omega),qg6,hl]
  refine⟨fun q hq=>?_,fun i hi=>?_⟩
  ·rw[hlen] at hq
   rw[getF q hq,qcq _ _ _ hq]
   by_cases hqw:q<w.length
   ·rw[if_pos hqw,if_pos hqw,(qst _ _ _).2.2.1,i1 q hqw]
    have hp:=hgw q hqw
    by_cases h0:0≤(w.getD q default).parent
    ·rw[if_pos h0,if_pos h0,getF _ (by omega),if_pos (by omega),(qst _ _ _).2.2.1]
    ·rw[if_neg h0,if_neg h0]
   ·rw[if_neg hqw,if_neg hqw]
    show(if 0≤s.parent then((qc4 w).getD s.parent.toNat default).depth+1 else 0)=_
    by_cases h0:0≤s.parent
    ·rw[if_pos h0,if_pos h0,getF _ (by omega),if_pos (by omega),(qst _ _ _).2.2.1]
    ·rw[if_neg h0,if_neg h0]
  ·rw[hlen] at hi
   rw[getF i hi,hlen]
   by_cases hiw:i<w.length
   ·rw[if_pos hiw,(qst _ _ _).2.2.2.2.2,i2 i hiw,qh5,eN,q5e w s i hiw _ (Nat.le_refl _)]
    by_cases h1:s.parent=(i:Int)
    ·rw[if_pos h1,if_pos ⟨by omega,by omega,by omega⟩]
    ·rw[if_neg h1,if_neg (by omega)];omega
   ·rw[if_neg hiw]
    have hiw:i=w.length:=by omega
    subst hiw
    rw[qyu]
    ·rw[qcq _ _ _ (by omega),if_neg (by omega)];rfl
    ·intro q hq
     rw[qcq _ _ _ hq]
     by_cases hqw:q<w.length
     ·rw[if_pos hqw]
      have:=hgw q hqw
      omega
     ·rw[if_neg hqw];omega
theorem qsg (n:Int):IntKind.i64.wrap n=if 9223372036854775808≤n % 18446744073709551616 then n % 18446744073709551616-18446744073709551616 else n % 18446744073709551616:=by
 unfold IntKind.wrap
 show(if(true&&decide (n % (2 ^ 64:Int)≥(2 ^ 63:Int)))=true then n % (2 ^ 64:Int)-(2 ^ 64:Int) else n % (2 ^ 64:Int))=_
 simp only[Bool.true_and,decide_eq_true_eq,ge_iff_le]
 rfl
theorem Qoh (a b:Int):IntKind.i64.wrap (IntKind.i64.wrap a-IntKind.i64.wrap b)=IntKind.i64.wrap (a-b):=by
 rw[qsg,qsg,qsg,qsg]
 split<;>split<;>split<;>split<;>omega
theorem qlb (v:List qae) (i:Nat):∀j,qfa v i j=IntKind.i64.wrap (qh5 v i j)
 | 0=>rfl
 | j+1=>by
  rw[qfa,qh5]
  by_cases h:(v.getD j default).parent=(i:Int)
  ·rw[if_pos (by simpa using h),if_pos h,qlb v i j,Qoh]
  ·rw[if_neg (by simpa using h),if_neg h,qlb v i j]
theorem qd6 {v w:List qae} {i:Nat} (h:i<v.length):(v++w).getD i default=v.getD i default:=by
 rw[List.getD_eq_getElem?_getD,List.getElem?_append_left h,List.getD_eq_getElem?_getD]
theorem qd8 (v:List qae) (s:qae):(v++[s]).getD v.length default=s:=by simp
theorem qlf {v w:List Int} {i:Nat} (h:i<v.length):(v++w).getD i 0=v.getD i 0:=by
 rw[List.getD_eq_getElem?_getD,List.getElem?_append_left h,List.getD_eq_getElem?_getD]
theorem qkt (v:List Int) (s:Int):(v++[s]).getD v.length 0=s:=by simp
def q30 (l:List qae) (i:Nat):Prop:=0≤(l.getD i default).parent→(l.getD (l.getD i default).parent.toNat default).thread=(l.getD i default).thread∧(l.getD (l.getD i default).parent.toNat default).lo≤(l.getD i default).lo∧(l.getD i default).hi≤(l.getD (l.getD i default).parent.toNat default).hi
structure Cho (L C:List qae) (P:List Int) (O:List Nat):Prop where
 len:P.length=L.length
 oc:O.length=C.length
 up:O.Pairwise (·<·)
 lt:∀x∈O,x<L.length
 el:∀q,q<C.length→P.getD (O.getD q 0) 0=(q:Int)∧C.getD q default={L.getD (O.getD q 0) default with parent:=(C.getD q default).parent}
 pl:∀i,i<L.length→P.getD i 0=-1∨(0≤P.getD i 0∧P.getD i 0<C.length∧(C.getD (P.getD i 0).toNat default).thread=(L.getD i default).thread∧(C.getD (P.getD i 0).toNat default).lo≤(L.getD i default).lo∧(L.getD i default).hi≤(C.getD (P.getD i 0).toNat default).hi)
 par:∀q,q<C.length→q30 C q
 und:∀q,q<C.length→∀b:Nat,b<L.length→qcz L (O.getD q 0) b=true→0≤P.getD b 0∧qcz C q (P.getD b 0)=true
theorem cho {p:qae→Bool} {L:List qae} (hg:qd7 L) (hp:∀i,i<L.length→q30 L i):∃O,Cho L (chF p L).1 (chF p L).2 O:=by
 obtain⟨n,hn⟩:∃n,n=L.length:=⟨_,rfl⟩
 induction n generalizing L with
 | zero=>
  have:L=[]:=List.eq_nil_of_length_eq_zero hn.symm
  subst this
  exact⟨[],rfl,rfl,List.Pairwise.nil,fun x hx=>(by cases hx),fun q hq=>absurd hq (Nat.not_lt_zero _),fun q hq=>absurd hq (Nat.not_lt_zero _),fun q hq=>absurd hq (Nat.not_lt_zero _),fun q hq=>absurd hq (Nat.not_lt_zero _)⟩
 | succ n ih=>
  rcases List.eq_nil_or_concat L with rfl|⟨v,s,rfl⟩
  ·simp at hn
  rw[List.concat_eq_append] at hn hg hp ⊢
  have hv:n=v.length:=by rw[List.length_append] at hn;simp at hn;exact hn
  have hgv:qd7 v:=by
   have:=qgw hg v.length
   rwa [List.take_left' rfl] at this
  have hs:=hg v.length (by simp)
  rw[qd8] at hs
  have hpv:∀i,i<v.length→q30 v i:=fun i hi=>by
   have h1:=hp i (by simp;omega)
   have h2:=hgv i hi
   unfold q30 at h1 ⊢
   rw[qd6 hi] at h1
   intro h0
   rw[qd6 (show(v.getD i default).parent.toNat<v.length by omega)] at h1
   exact h1 h0
  have hps:0≤s.parent→(v.getD s.parent.toNat default).thread=s.thread∧(v.getD s.parent.toNat default).lo≤s.lo∧s.hi≤(v.getD s.parent.toNat default).hi:=fun h0=>by
   have h1:=hp v.length (by simp)
   unfold q30 at h1
   rw[qd8,qd6 (by omega)] at h1
   exact h1 h0
  obtain⟨O,hO⟩:=ih hgv hpv hv
  obtain⟨f1,f2,f3,f4⟩:=qhb p hgv
  obtain⟨C,hC⟩:∃C,C=(chF p v).1:=⟨_,rfl⟩
  obtain⟨P,hP⟩:∃P,P=(chF p v).2:=⟨_,rfl⟩
  rw[←hC,←hP] at hO f3
  rw[←hP] at f1
  rw[←hC] at f2 f4
  have ec:chF p v=(C,P):=by rw[hC,hP]
  rw[qkz,ec]
  clear ec hC hP
  obtain⟨c1,c2,c3,c4,c5,c6,c7,c8⟩:=hO
  obtain⟨u,hu⟩:∃u,u=qjr P s:=⟨_,rfl⟩
  have hU:u=-1∨(0≤u∧u<C.length∧(C.getD u.toNat default).thread=s.thread∧(C.getD u.toNat default).lo≤s.lo∧s.hi≤(C.getD u.toNat default).hi):=by
   rw[hu];unfold qjr
   by_cases h0:0≤s.parent
   ·rw[if_pos h0]
    obtain⟨q1,q2,q3⟩:=hps h0
    rcases c6 s.parent.toNat (by omega) with h1|⟨h1,h2,h3,h4,h5⟩
    ·exact .inl h1
    ·exact .inr ⟨h1,h2,h3.trans q1,by omega,by omega⟩
   ·rw[if_neg h0];exact .inl rfl
  have hlt:∀x∈O,x<(v++[s]).length:=fun x hx=>by have:=c4 x hx;simp;omega
  have hund:∀q,q<C.length→∀b:Nat,b<v.length→qcz (v++[s]) (O.getD q 0) b=qcz v (O.getD q 0) b:=fun q hq b hb=>qk7 _ _ fun r hr=>by rw[qd6 (by omega)]
  have hunds:∀q,q<C.length→qcz (v++[s]) (O.getD q 0) v.length=true→0≤u∧qcz C q u=true:=fun q hq h=>by
   have ho:O.getD q 0<v.length:=c4 _ (qbh (α:=Nat) (by omega))
   rw[qf3,if_pos (by omega),if_neg (by omega),Int.toNat_natCast,qd8] at h
   by_cases h0:0≤s.parent
   ·rw[if_pos (by omega)] at h
    have e:s.parent=(s.parent.toNat:Int):=by omega
    rw[e,hund q hq _ (by omega)] at h
    have:=c8 q hq s.parent.toNat (by omega) h
    rw[hu];unfold qjr
    rw[if_pos h0];exact this
   ·rw[if_pos (by omega)] at h
    rw[qf3,if_neg (by omega)] at h
    cases h
  have hundC:∀(x:qae) (q:Nat) (k:Int),k<C.length→qcz (C++[x]) q k=qcz C q k:=fun x q k hk=>qk7 _ _ fun r hr=>by rw[qd6 (by omega)]
  by_cases hps2:p s=true
  ·have e1:qb9 p (C,P) s=(C++[{s with parent:=u}],P++[(C.length:Int)]):=by unfold qb9;rw[if_pos hps2,hu]
   rw[e1]
   show ∃O,Cho _ (C++[{s with parent:=u}]) (P++[(C.length:Int)]) O
   obtain⟨s2,hs2⟩:∃s2:qae,s2={s with parent:=u}:=⟨_,rfl⟩
   rw[←hs2]
   have k1:s2.thread=s.thread∧s2.lo=s.lo∧s2.hi=s.hi∧s2.parent=u:=by rw[hs2];exact⟨rfl,rfl,rfl,rfl⟩
   have hcl:(C++[s2]).length=C.length+1:=by simp
   have oN:∀q,q<C.length→(O++[v.length]).getD q 0=O.getD q 0:=fun q hq=>by
    rw[List.getD_eq_getElem?_getD,List.getElem?_append_left (by omega),List.getD_eq_getElem?_getD]
   have oL:(O++[v.length]).getD C.length 0=v.length:=by rw[←c2];simp
   refine⟨O++[v.length],by simp[c1],by simp[c2],?_,?_,fun q hq=>?_,fun i hi=>?_,fun q hq=>?_,fun q hq b hb h=>?_⟩
   ·rw[List.pairwise_append]
    refine⟨c3,List.pairwise_singleton _ _,fun a ha b hb=>?_⟩
    rw[List.mem_singleton] at hb
    subst hb;exact c4 a ha
   ·intro x hx
    rcases List.mem_append.1 hx with hx|hx
    ·exact hlt x hx
    ·rw[List.mem_singleton] at hx;subst hx;simp
   ·rw[hcl] at hq
    by_cases h:q<C.length
    ·have ho:O.getD q 0<v.length:=c4 _ (qbh (α:=Nat) (by omega))
     rw[oN q h,qlf (by omega),qd6 ho,qd6 h]
     exact c5 q h
    ·have:q=C.length:=by omega
     subst this
     rw[oL,←c1,qkt,c1,qd8,qd8,hs2]
     exact⟨rfl,rfl⟩
   ·by_cases h:i<v.length
    ·rw[qlf (by omega),qd6 h]
     rcases c6 i h with h1|⟨h1,h2,h3⟩
     ·exact .inl h1
     ·rw[qd6 (show(P.getD i 0).toNat<C.length by omega)]
      exact .inr ⟨h1,by omega,h3⟩
    ·have:i=v.length:=by simp at hi;omega
     subst this
     rw[←c1,qkt,c1,qd8,Int.toNat_natCast,qd8,hcl]
     exact .inr ⟨by omega,by omega,k1.1,by rw[k1.2.1];exact Int.le_refl _,by rw[k1.2.2.1];exact Int.le_refl _⟩
   ·rw[hcl] at hq
    by_cases h:q<C.length
    ·have h1:=c7 q h
     have h2:=f4 q h
     unfold q30 at h1 ⊢
     rw[qd6 h]
     intro h0
     rw[qd6 (show(C.getD q default).parent.toNat<C.length by omega)]
     exact h1 h0
    ·have:q=C.length:=by omega
     subst this
     unfold q30
     rw[qd8,k1.2.2.2,k1.1,k1.2.1,k1.2.2.1]
     intro h0
     rcases hU with h1|⟨h1,h2,h3⟩
     ·omega
     ·rw[qd6 (show u.toNat<C.length by omega)];exact h3
   ·rw[hcl] at hq
    have pN:∀b,b<v.length→(P++[(C.length:Int)]).getD b 0=P.getD b 0:=fun b hb=>qlf (by omega)
    have pL:(P++[(C.length:Int)]).getD v.length 0=C.length:=by rw[←c1,qkt]
    by_cases h1:q<C.length
    ·rw[oN q h1] at h
     by_cases h2:b<v.length
     ·rw[pN b h2]
      rw[hund q h1 b h2] at h
      obtain⟨g1,g2⟩:=c8 q h1 b h2 h
      have:=f3 b h2
      exact⟨g1,by rw[hundC s2 q _ (by omega)];exact g2⟩
     ·have:b=v.length:=by simp at hb;omega
      subst this
      rw[pL]
      obtain⟨g1,g2⟩:=hunds q h1 h
      refine⟨by omega,?_⟩
      rw[qf3,if_pos (by omega),if_neg (by omega),Int.toNat_natCast,qd8,k1.2.2.2]
      have hul:u<C.length:=by
       rcases hU with h1|⟨h1,h2,h3⟩<;>omega
      rw[if_pos (by omega),hundC s2 q u hul];exact g2
    ·have:q=C.length:=by omega
     subst this
     rw[oL] at h
     by_cases h2:b<v.length
     · -- nothing in the old list lies under the new slice
      exfalso
      have low:∀(n:Nat) (k:Int),(k+1).toNat≤n→k<v.length→qcz (v++[s]) v.length k=false:=by
       intro n
       induction n with
       | zero=>intro k hk _;rw[qf3,if_neg (by omega)]
       | succ n ih=>
        intro k hk hkl
        rw[qf3]
        by_cases h0:0≤k
        ·rw[if_pos h0,if_neg (by omega)]
         split
         ·exact ih _ (by omega) (by omega)
         ·rfl
        ·rw[if_neg h0]
      rw[low _ b (Nat.le_refl _) (by omega)] at h
      cases h
     ·have:b=v.length:=by simp at hb;omega
      subst this
      rw[pL]
      refine⟨by omega,?_⟩
      rw[qf3,if_pos (by omega),if_pos rfl]
  ·have e1:qb9 p (C,P) s=(C,P++[u]):=by unfold qb9;rw[if_neg hps2,hu]
   rw[e1]
   show ∃O,Cho _ C (P++[u]) O
   refine⟨O,by simp[c1],c2,c3,hlt,fun q hq=>?_,fun i hi=>?_,c7,fun q hq b hb h=>?_⟩
   ·have ho:O.getD q 0<v.length:=c4 _ (qbh (α:=Nat) (by omega))
    rw[qlf (by omega),qd6 ho]
    exact c5 q hq
   ·by_cases h:i<v.length
    ·rw[qlf (by omega),qd6 h];exact c6 i h
    ·have:i=v.length:=by simp at hi;omega
     subst this
     rw[←c1,qkt,c1,qd8]
     exact hU
   ·by_cases h2:b<v.length
    ·rw[qlf (by omega)]
     exact c8 q hq b h2 (by rw[←hund q hq b h2];exact h)
    ·have:b=v.length:=by simp at hb;omega
     subst this
     rw[←c1,qkt]
     exact hunds q hq h

theorem Qx8:Pre qxb:=by
 have h:=(q23.comap (fun x:qae=>x.lo)).lex ((q23.flip.comap (fun x:qae=>x.hi)).lex (q23.comap (fun x:qae=>x.thread)))
 have e:qxb=fun a b=>if qm3 a.lo b.lo=0 then(if qm3 b.hi a.hi=0 then qm3 a.thread b.thread else qm3 b.hi a.hi) else qm3 a.lo b.lo:=by
  funext a b
  unfold qxb
  simp only[orL]
  by_cases h1:qm3 a.lo b.lo=0
  ·rw[if_pos h1]
   by_cases h2:qm3 b.hi a.hi=0
   ·rw[if_pos h2];simp[h1,h2];intro h3;rw[h3]
   ·rw[if_neg h2];simp[h1,h2]
  ·rw[if_neg h1];simp[h1]
 rw[e];exact h
theorem q5b {L:List qae} (h:∀i,i<L.length→Qz6 L i):∀(j i:Nat),i<j→j<L.length→qxb (L.getD i default) (L.getD j default)≤0
 | 0,i,h1,_=>by omega
 | j+1,i,h1,h2=>by
  have h3:=(h (j+1) h2).od (by omega)
  rw[Nat.add_sub_cancel] at h3
  by_cases e:i=j
  ·subst e;exact h3
  ·exact Qx8.trans _ _ _ (q5b h j i (by omega) (by omega)) h3
theorem Qer {L:List qae} (h:qg4 L=true):∀i,i<L.length→q30 L i:=fun i hi h0=>by
 have h1:=List.all_eq_true.1 h i (List.mem_range.2 hi)
 unfold qek at h1
 simp only at h1
 split at h1
 ·cases h1
 rw[if_neg (by omega)] at h1
 simp only[Bool.not_eq_true',Bool.or_eq_false_iff,bne_eq_false_iff_eq,decide_eq_false_iff_not] at h1
 obtain⟨⟨⟨a,b⟩,c⟩,d⟩:=h1
 exact⟨a,by omega,by omega⟩
theorem Qug {F:List qae} {f:qae→qae} (hf:∀x,(f x).thread=x.thread∧(f x).parent=x.parent∧(f x).depth=x.depth∧(f x).lo=x.lo∧(f x).hi=x.hi∧(f x).self=x.self):Shp (F.map f) F:=by
 have e:∀i,(F.map f).getD i default=f (F.getD i default)∨((F.map f).getD i default=default∧F.getD i default=default):=fun i=>by
  by_cases hi:i<F.length
  ·exact .inl (by simp[hi])
  ·exact .inr ⟨by simp[show F.length≤i by omega],by simp[show F.length≤i by omega]⟩
 refine⟨by simp,fun i=>?_,fun i=>?_,fun i=>?_,fun i=>?_,fun i=>?_,fun i=>?_⟩ <;>
  rcases e i with e1|⟨e1,e2⟩<;>first|(rw[e1,e2];done)|(rw[e1];obtain⟨a,b,c,d,e,f⟩:=hf (F.getD i default);assumption)
theorem qtq {L M:List qae} (i:Nat) (hp:∀q:Nat,(L.getD q default).parent=(M.getD q default).parent) (hl:∀q:Nat,(L.getD q default).lo=(M.getD q default).lo) (hh:∀q:Nat,(L.getD q default).hi=(M.getD q default).hi):∀j,qh5 L i j=qh5 M i j
 | 0=>by rw[qh5,qh5,hl,hh]
 | j+1=>by rw[qh5,qh5,hp,hl,hh,qtq i hp hl hh j]
theorem qsy (C:List qae) (q:Nat):((qc4 C).getD q default).thread=(C.getD q default).thread∧((qc4 C).getD q default).parent=(C.getD q default).parent∧((qc4 C).getD q default).name=(C.getD q default).name∧((qc4 C).getD q default).lo=(C.getD q default).lo∧((qc4 C).getD q default).hi=(C.getD q default).hi:=by
 by_cases h:q<C.length
 ·obtain⟨a,b,c,d,e,_⟩:=qor (o:=C) q h
  exact⟨a,b,c,d,e⟩
 ·have e1:C.getD q default=default:=by simp[show C.length≤q by omega]
  have e2:(qc4 C).getD q default=default:=by simp[show(qc4 C).length≤q by rw[qcw];omega]
  rw[e1,e2];exact⟨rfl,rfl,rfl,rfl,rfl⟩
theorem Qpd {L:List qae} (hv:qej L=0) (hn:L.length≤1000) (p:qae→Bool):qg4 (qc4 (chF p L).1)=true∧qgm (qc4 (chF p L).1)=true:=by
 obtain⟨h1,h2,h3⟩:=qfs.1 hv
 have hg:qd7 L:=fun i hi=>by
  obtain⟨s1,s2,s3⟩:=(h1 i hi).sp
  exact⟨⟨s1,by omega,by omega⟩,qey (List.all_eq_true.1 h2 i (List.mem_range.2 hi))⟩
 obtain⟨O,hO⟩:=cho (p:=p) hg (Qer h2)
 have hC:=(qhb p hg).2.2.2
 have hcl:=Qfh p L
 obtain⟨C,eC⟩:∃C,C=(chF p L).1:=⟨_,rfl⟩
 obtain⟨P,eP⟩:∃P,P=(chF p L).2:=⟨_,rfl⟩
 rw[←eC,←eP] at hO
 rw[←eC] at hC hcl ⊢
 clear eC eP
 obtain⟨c1,c2,c3,c4,c5,c6,c7,c8⟩:=hO
 obtain⟨d1,d2⟩:=q8p hC
 have hok:=q29 hC
 have hfl:=qcw C
 have fc:=qsy C
 refine⟨List.all_eq_true.2 fun q hq=>?_,List.all_eq_true.2 fun q hq=>?_⟩
 ·have hq:q<C.length:=by have:=List.mem_range.1 hq;omega
  have hp:=(hC q hq).2
  have hi:=c7 q hq
  unfold q30 at hi
  unfold qek
  simp only
  rw[(fc q).2.1]
  rw[if_neg (by simp only[Bool.or_eq_true,decide_eq_true_eq];omega)]
  have hd:=d1 q hq
  by_cases h0:0≤(C.getD q default).parent
  ·rw[if_neg (by omega)]
   rw[if_pos h0] at hd
   obtain⟨q1,q2,q3⟩:=hi h0
   have hb:=hok (C.getD q default).parent.toNat (by omega)
   simp only[Bool.not_eq_true',Bool.or_eq_false_iff,bne_eq_false_iff_eq,decide_eq_false_iff_not]
   rw[(fc q).1,(fc _).1,(fc q).2.2.2.1,(fc _).2.2.2.1,(fc q).2.2.2.2,(fc _).2.2.2.2]
   refine⟨⟨⟨q1,by omega⟩,by omega⟩,?_⟩
   rw[hd,qbd (by omega) (by omega)]
  ·rw[if_pos (by omega)]
   rw[if_neg h0] at hd
   rw[hd];rfl
 ·have hq:q<C.length:=by have:=List.mem_range.1 hq;omega
  unfold qf0
  rw[Bool.and_eq_true]
  refine⟨List.all_eq_true.2 fun j hj=>?_,?_⟩
  ·have hj:j<C.length:=by have:=List.mem_range.1 hj;omega
   rw[Bool.not_eq_true']
   unfold qii
   rw[(fc q).1,(fc j).1,(fc q).2.2.2.1,(fc j).2.2.2.1,(fc q).2.2.2.2,(fc j).2.2.2.2,qk7 (M:=C) j q fun r _=>(fc r).2.1]
   rw[Bool.eq_false_iff]
   intro hc
   simp only[Bool.and_eq_true,decide_eq_true_eq,beq_iff_eq,Bool.not_eq_true'] at hc
   obtain⟨⟨⟨⟨e1,e2⟩,e3⟩,e4⟩,e5⟩:=hc
   obtain⟨a1,a2⟩:=c5 q hq
   obtain⟨b1,b2⟩:=c5 j hj
   have hOq:O.getD q 0<L.length:=c4 _ (qbh (α:=Nat) (by omega))
   have hOj:O.getD j 0<L.length:=c4 _ (qbh (α:=Nat) (by omega))
   have hlt:O.getD j 0<O.getD q 0:=by
    rw[List.pairwise_iff_getElem] at c3
    have:=c3 j q (by omega) (by omega) (by omega)
    simpa[show j<O.length by omega,show q<O.length by omega] using this
   have hap:=List.all_eq_true.1 h3 (O.getD q 0) (List.mem_range.2 hOq)
   unfold qf0 at hap
   rw[Bool.and_eq_true] at hap
   have hcl2:=List.all_eq_true.1 hap.1 (O.getD j 0) (List.mem_range.2 hOj)
   rw[Bool.not_eq_true'] at hcl2
   rw[a2,b2] at e2 e3 e4
   simp only at e2 e3 e4
   unfold qii at hcl2
   rw[decide_eq_true (by omega),beq_iff_eq.2 e2,decide_eq_true e3,decide_eq_true e4] at hcl2
   simp only[Bool.true_and,Bool.not_eq_false'] at hcl2
   have:=(c8 j hj (O.getD q 0) hOq hcl2).2
   rw[a1] at this
   rw[this] at e5
   cases e5
  ·rw[beq_iff_eq,qlb,hfl,qtq q (fun r=>(fc r).2.1) (fun r=>(fc r).2.2.2.1) (fun r=>(fc r).2.2.2.2),←d2 q hq]
   obtain⟨_,_,b3,b4⟩:=hok q (by omega)
   rw[qbd (by omega) (by omega)]
theorem Qiz {L:List qae} (hv:qej L=0) (hn:L.length≤1000) (p:qae→Bool) {f:qae→qae} (hf:∀x,(f x).thread=x.thread∧(f x).parent=x.parent∧(f x).depth=x.depth∧(f x).lo=x.lo∧(f x).hi=x.hi∧(f x).self=x.self)
  (hnm:∀x∈qc4 (chF p L).1,qda (f x).name=0):qej ((qc4 (chF p L).1).map f)=0:=by
 obtain⟨n1,n2⟩:=Qpd hv hn p
 obtain⟨h1,h2,h3⟩:=qfs.1 hv
 have hg:qd7 L:=fun i hi=>by
  obtain⟨s1,s2,s3⟩:=(h1 i hi).sp
  exact⟨⟨s1,by omega,by omega⟩,qey (List.all_eq_true.1 h2 i (List.mem_range.2 hi))⟩
 have hs:=Qug (F:=qc4 (chF p L).1) hf
 refine qfs.2 ⟨fun i hi=>?_,by rw[Qgj hs];exact n1,by rw[Qbi hs];exact n2⟩
 obtain⟨O,hO⟩:=cho (p:=p) hg (Qer h2)
 rw[List.length_map,qcw] at hi
 have fc:=qsy (chF p L).1
 have hOl:∀q,q<(chF p L).1.length→O.getD q 0<L.length:=fun q hq=>hO.lt _ (qbh (α:=Nat) (by rw[hO.oc];exact hq))
 have el:=fun q hq=>(hO.el q hq).2
 have hi2:i<(qc4 (chF p L).1).length:=by rw[qcw];exact hi
 have ei:((qc4 (chF p L).1).map f).getD i default=f ((qc4 (chF p L).1).getD i default):=by simp[hi2]
 have ok:=h1 _ (hOl i hi)
 have e:=el i hi
 refine⟨?_,?_,?_,fun h0=>?_⟩
 ·rw[hs.th,(fc i).1,e];exact ok.th
 ·rw[hs.lo,hs.hi,(fc i).2.2.2.1,(fc i).2.2.2.2,e];exact ok.sp
 ·rw[ei];exact hnm _ (qbh hi2)
 ·have e':=el (i-1) (by omega)
  have hlt:O.getD (i-1) 0<O.getD i 0:=by
   have c3:=hO.up
   rw[List.pairwise_iff_getElem] at c3
   have:=c3 (i-1) i (by rw[hO.oc];omega) (by rw[hO.oc];omega) (by omega)
   simpa[show i-1<O.length by rw[hO.oc];omega,show i<O.length by rw[hO.oc];omega] using this
  have:=q5b h1 _ _ hlt (hOl i hi)
  unfold qxb at this ⊢
  rw[hs.lo,hs.lo,hs.hi,hs.hi,hs.th,hs.th,(fc i).1,(fc i).2.2.2.1,(fc i).2.2.2.2,(fc (i-1)).1,(fc (i-1)).2.2.2.1,(fc (i-1)).2.2.2.2,e,e']
  exact this

theorem Qa7 (p:qae→Bool) (hp:∀s x,p {s with parent:=x}=p s):∀(L:List qae) (u:List qae×List Int),(∀x∈u.1,p x=true)→∀x∈(L.foldl (qb9 p) u).1,p x=true
 | [],u,h=>h
 | s::L,u,h=>by
  rw[List.foldl_cons]
  refine Qa7 p hp L _ ?_
  unfold qb9
  split
  ·rename_i h1
   intro x hx
   rcases List.mem_append.1 hx with hx|hx
   ·exact h x hx
   ·rw[List.mem_singleton] at hx
    rw[hx,hp];exact h1
  ·exact h
theorem Qmw (p:qae→Bool) (hp:∀s t:qae,s.thread=t.thread→s.name=t.name→p s=p t) (C:List qae) (h:∀x∈C,p x=true):∀x∈qc4 C,p x=true:=fun x hx=>by
 obtain⟨i,hi,rfl⟩:=List.getElem_of_mem hx
 have hi2:i<C.length:=by rwa [qcw] at hi
 have fc:=qsy C i
 have e1:(qc4 C).getD i default=(qc4 C)[i]:=by simp[hi]
 have e2:C.getD i default=C[i]:=by simp[hi2]
 rw[e1,e2] at fc
 rw[hp _ C[i] fc.1 fc.2.2.1]
 exact h _ (List.getElem_mem hi2)
theorem q34 {l:List qao} (h:qi9 l=0) {what x:List UInt8} {s:List (List UInt8)} (hx:x∈s) (hd:qbw l what x=false):qdj l what s x=some (qh7 (qd1 l what s) x):=by
 unfold qdj
 rw[if_pos]
 refine⟨Qbj hx,?_⟩
 rcases q3a h hd with h1|h1
 ·rw[h1];rfl
 ·rw[qie,h1];simp
theorem Qbk {l:List qao} (h:qi9 l=0) {s:List (List UInt8)}:∀(u:List (List UInt8)),(∀x∈u,x∈s∧qbw l qa4 x=false)→q4l (qdj l qa4 s) u=u.map (qh7 (qd1 l qa4 s))
 | [],_=>rfl
 | x::u,hu=>by
  obtain⟨h1,h2⟩:=hu x List.mem_cons_self
  have ih:=Qbk h u fun y hy=>hu y (List.mem_cons_of_mem _ hy)
  unfold q4l at ih ⊢
  rw[List.filterMap_cons_some (q34 h h1 h2),ih];rfl
structure Q0s (l:List qao) (t:qat):Prop where
 th:∀x∈t.threads,qbw l qax x.name=false
 sl:∀x∈t.slices,qbw l qa5 x.name=false
 fr:∀x∈frN t,qbw l qa4 x=false
 sp:∀x∈t.steps,qbw l qay x.name=false
theorem qi7 {t:qat} {x:List UInt8}:x∈frN t↔(∃y∈t.samples,x∈y.stack)∨∃y∈t.blocks,x∈y.stack:=by
 rw[frN,List.mem_append,List.mem_flatten,List.mem_flatten]
 constructor
 ·rintro(⟨s,hs,hx⟩|⟨s,hs,hx⟩)
  ·obtain⟨y,hy,rfl⟩:=List.mem_map.1 hs;exact .inl ⟨y,hy,hx⟩
  ·obtain⟨y,hy,rfl⟩:=List.mem_map.1 hs;exact .inr ⟨y,hy,hx⟩
 ·rintro(⟨y,hy,hx⟩|⟨y,hy,hx⟩)
  ·exact .inl ⟨_,List.mem_map.2 ⟨y,hy,rfl⟩,hx⟩
  ·exact .inr ⟨_,List.mem_map.2 ⟨y,hy,rfl⟩,hx⟩
theorem qwh (l:List qao) (t:qat) (ht:qc6 t=0):Q0s l (qjq l (qfw l t)):=by
 have hd:=q9h (qlt ht)
 refine⟨fun x hx=>?_,fun x hx=>?_,fun x hx=>?_,fun x hx=>?_⟩
 ·obtain⟨h1,h2⟩:=List.mem_filter.1 (show x∈t.threads.filter (fun x=>!qcc l t.threads x.id) from hx)
  rw[←qmw hd h1]
  simpa using h2
 ·rw[qto l t (qi6 ht)] at hx
  have:=Qmw (qlr l t) (fun a b h1 h2=>by unfold qlr;rw[h1,h2]) _ (Qa7 (qlr l t) (fun s x=>rfl) t.slices ([],[]) (fun x hx=>by cases hx)) x hx
  unfold qlr at this
  simp only[Bool.and_eq_true,Bool.not_eq_true'] at this
  exact this.2
 ·rcases qi7.1 hx with⟨y,hy,hxy⟩|⟨y,hy,hxy⟩
  ·obtain⟨z,_,rfl⟩:=List.mem_map.1 (show y∈(qfw l t).samples.map (frS l) from hy)
   have:=(List.mem_filter.1 (show x∈z.stack.filter _ from hxy)).2
   simpa using this
  ·obtain⟨z,_,rfl⟩:=List.mem_map.1 (show y∈(qfw l t).blocks.map (q13 l) from hy)
   have:=(List.mem_filter.1 (show x∈z.stack.filter _ from hxy)).2
   simpa using this
 ·have:=(List.mem_filter.1 (show x∈(qfw l t).steps.filter _ from hx)).2
  simpa using this
theorem Qum {l:List qao} (h:qi9 l=0) {t:qat} (k:Q0s l t):Qxr l t=q4o l t:=by
 have e1:t.threads.map (nmT (qdj l qax (t.threads.map (·.name))))=t.threads.map (nnT (qd1 l qax (t.threads.map (·.name)))):=by
  apply List.map_congr_left
  intro x hx
  unfold nmT nnT
  rw[q34 h (List.mem_map.2 ⟨x,hx,rfl⟩) (k.th x hx)];rfl
 have e2:t.slices.map (nmS (qdj l qa5 (t.slices.map (·.name))))=t.slices.map (nnS (qd1 l qa5 (t.slices.map (·.name)))):=by
  apply List.map_congr_left
  intro x hx
  unfold nmS nnS
  rw[q34 h (List.mem_map.2 ⟨x,hx,rfl⟩) (k.sl x hx)];rfl
 have e3:t.samples.map (nmA (qdj l qa4 (frN t)))=t.samples.map (nnA (qd1 l qa4 (frN t))):=by
  apply List.map_congr_left
  intro x hx
  unfold nmA nnA
  rw[Qbk h _ fun y hy=>⟨qi7.2 (.inl ⟨x,hx,hy⟩),k.fr y (qi7.2 (.inl ⟨x,hx,hy⟩))⟩]
 have e4:t.blocks.map (nmB (qdj l qa4 (frN t)))=t.blocks.map (nnB (qd1 l qa4 (frN t))):=by
  apply List.map_congr_left
  intro x hx
  unfold nmB nnB
  rw[Qbk h _ fun y hy=>⟨qi7.2 (.inr ⟨x,hx,hy⟩),k.fr y (qi7.2 (.inr ⟨x,hx,hy⟩))⟩]
 have e5:t.steps.map (nmC (qdj l qay (t.steps.map (·.name))))=t.steps.map (nnC (qd1 l qay (t.steps.map (·.name)))):=by
  apply List.map_congr_left
  intro x hx
  unfold nmC nnC
  rw[q34 h (List.mem_map.2 ⟨x,hx,rfl⟩) (k.sp x hx)];rfl
 unfold Qxr Qsp q4o
 rw[e1,e2,e3,e4,e5]
theorem Qin (l:List qao) (t:qat):Qxl l t=qhi l t:=by
 unfold Qxl qhi
 by_cases h0:qi9 l=0
 ·have n0:¬qi9 l≠0:=by rw[h0];simp
  rw[if_neg n0,if_neg n0]
  by_cases h1:qc6 t=0
  ·have n1:¬qc6 t≠0:=by rw[h1];simp
   rw[if_neg n1,if_neg n1,q2j l t h1 (qi6 h1),Qum h0 (qwh l t h1)]
  ·have n1:qc6 t≠0:=h1
   rw[if_pos n1,if_pos n1]
 ·have n0:qi9 l≠0:=h0
  rw[if_pos n0,if_pos n0]
theorem Qic {l:List qao} {t:qat} (h:t.lim):(qgj l t).lim:=by
 obtain⟨h1,h2,h3,h4,h5,h6,h7,h8⟩:=h
 refine⟨Nat.le_trans (qo8 _ _ _) h1,?_,Nat.le_trans (qo6 _ _) h3,Nat.le_trans (qo8 _ _ _) h4,Nat.le_trans (qo8 _ _ _) h5,Nat.le_trans (qo8 _ _ _) h6,Nat.le_trans (qo8 _ _ _) h7,Nat.le_trans (qo8 _ _ _) h8⟩
 show(qc4 _).length≤1000
 rw[qcw];exact Nat.le_trans (Qfh _ _) h2
theorem Qoi {l:List qao} {t:qat} (h:t.limS):(qgj l t).limS:=by
 refine⟨fun x hx=>?_,fun x hx=>?_⟩
 ·obtain⟨y,hy,rfl⟩:=List.mem_map.1 hx
  exact Nat.lt_of_le_of_lt (List.length_filter_le _ _) (h.1 y (List.mem_filter.1 hy).1)
 ·obtain⟨y,hy,rfl⟩:=List.mem_map.1 hx
  exact Nat.lt_of_le_of_lt (List.length_filter_le _ _) (h.2 y (List.mem_filter.1 hy).1)
theorem Qt3 (l:List qao) (t:qat):(frN (qgj l t)).length≤(frN t).length:=by
 have a1:=Qas l (t.samples.filter (fun x=>!qcc l t.threads x.thread))
 have a2:=Qat l (t.blocks.filter (fun x=>!qcc l t.threads x.thread))
 have a3:=Qaq (fun x=>!qcc l t.threads x.thread) t.samples
 have a4:=Qar (fun x=>!qcc l t.threads x.thread) t.blocks
 have e1:(frN (qgj l t)).length=((((t.samples.filter (fun x=>!qcc l t.threads x.thread)).map (frS l)).map (·.stack)).flatten).length+((((t.blocks.filter (fun x=>!qcc l t.threads x.thread)).map (q13 l)).map (·.stack)).flatten).length:=by rw[frN,List.length_append];rfl
 have e2:(frN t).length=((t.samples.map (·.stack)).flatten).length+((t.blocks.map (·.stack)).flatten).length:=by rw[frN,List.length_append]
 omega
theorem Qvi {t:qat} (h:t.lim∧t.limS):(q14 t).lim∧(q14 t).limS:=by
 unfold q14
 split<;>exact h
theorem Quu {l:List qao} {t:qat} (h:t.lim∧t.limS):(q4o l t).lim∧(q4o l t).limS:=by
 obtain⟨⟨g1,g2,g3,g4,g5,g6,g7,g8⟩,s1,s2⟩:=h
 refine⟨⟨?_,?_,g3,g4,?_,?_,?_,g8⟩,fun x hx=>?_,fun x hx=>?_⟩
 ·show(t.threads.map _).length≤_;rw[List.length_map];exact g1
 ·show(t.slices.map _).length≤_;rw[List.length_map];exact g2
 ·show(t.samples.map _).length≤_;rw[List.length_map];exact g5
 ·show(qfd _ _).length≤_;rw[qf8,List.length_map];exact g6
 ·show(t.blocks.map _).length≤_;rw[List.length_map];exact g7
 ·obtain⟨y,hy,rfl⟩:=List.mem_map.1 hx
  show(y.stack.map _).length<_;rw[List.length_map];exact s1 y hy
 ·obtain⟨y,hy,rfl⟩:=List.mem_map.1 hx
  show(y.stack.map _).length<_;rw[List.length_map];exact s2 y hy
theorem q9e {l:List qao} {t:qat} (h:t.lim∧t.limS):(qhi l t).1.lim∧(qhi l t).1.limS:=by
 have z:qjt.lim∧qjt.limS:=⟨by refine⟨?_,?_,?_,?_,?_,?_,?_,?_⟩<;>decide,fun x hx=>(by cases hx),fun x hx=>(by cases hx)⟩
 rw[←Qin]
 unfold Qxl
 split
 ·exact z
 split
 ·exact z
 split
 ·exact z
 ·exact Qvi (Quu ⟨Qic h.1,Qoi h.2⟩)

theorem Qfu {α:Type} [Inhabited α] {R:α→α→Prop} (tr:∀a b c,R a b→R b c→R a c) {l:List α}:(∀i,0<i→i<l.length→R (l.getD (i-1) default) (l.getD i default))↔l.Pairwise R:=by
 constructor
 ·intro h
  have key:∀(j i:Nat),i<j→j<l.length→R (l.getD i default) (l.getD j default):=by
   intro j
   induction j with
   | zero=>intro i h1;omega
   | succ j ih=>
    intro i h1 h2
    have h3:=h (j+1) (by omega) h2
    rw[Nat.add_sub_cancel] at h3
    by_cases e:i=j
    ·subst e;exact h3
    ·exact tr _ _ _ (ih i (by omega) (by omega)) h3
  rw[List.pairwise_iff_getElem]
  intro i j hi hj hij
  have:=key j i hij hj
  simpa[hi,hj] using this
 ·intro h i h0 hi
  rw[List.pairwise_iff_getElem] at h
  have:=h (i-1) i (by omega) hi (by omega)
  simpa[hi,show i-1<l.length by omega] using this
theorem qo0 {α:Type} [Inhabited α] {P:α→Prop} {l:List α}:(∀i,i<l.length→P (l.getD i default))↔∀x∈l,P x:=by
 constructor
 ·intro h x hx
  obtain⟨i,hi,rfl⟩:=List.getElem_of_mem hx
  have:=h i hi
  simpa[hi] using this
 ·intro h i hi;exact h _ (qbh hi)
theorem Qgp {c:UInt8} (h:q88 c=true):qfk c.toNat=true:=by
 unfold q88 at h
 simp only[Bool.and_eq_true,decide_eq_true_eq] at h
 unfold qfk
 rw[decide_eq_true (show(48:Int)≤c.toNat by omega),decide_eq_true (show(c.toNat:Int)≤57 by omega)]
 simp
theorem Qgo:qdl.all (fun c=>qfk c.toNat)=true:=by kernel_rfl
theorem qe4 {s:List UInt8}:qda s=0↔qfo s=true:=by
 unfold qda
 split
 ·rename_i h;exact⟨fun _=>h,fun _=>rfl⟩
 ·rename_i h;exact⟨(fun h2=>by cases h2),fun h2=>absurd h2 h⟩
theorem qss {H:List (List UInt8)} (hH:H.length<1000000) {x:List UInt8} (h:qfo x=true):qfo (qh7 H x)=true:=by
 unfold qh7
 split
 ·exact h
 ·rename_i h1
  have h2:=qmv (eqS x) H
  obtain⟨n,hn⟩:∃n,n=(qet (eqS x) H+1).toNat:=⟨_,rfl⟩
  rw[←hn]
  have hd:=(q8v n (by omega)).1
  have hl:=Lib.decDigits_length n
  have h20:=Lib.nDigits_le20 n (by omega)
  have hlen:(qdl++Lib.decDigits n).length=7+(Lib.decDigits n).length:=by rw[List.length_append];rfl
  unfold qfo
  rw[decide_eq_true (by omega),decide_eq_true (by omega),List.all_append,Qgo]
  simp only[Bool.true_and]
  rw[List.all_eq_true] at hd ⊢
  exact fun c hc=>Qgp (hd c hc)
theorem qg8 {s:List (List UInt8)}:qbx s=0↔s.length≤32∧∀x∈s,qfo x=true:=by
 unfold qbx
 split
 ·exact⟨(fun h=>by cases h),fun h=>by omega⟩
 ·split
  ·rename_i h1 h2;exact⟨fun _=>⟨by omega,List.all_eq_true.1 h2⟩,fun _=>rfl⟩
  ·rename_i h1 h2;exact⟨(fun h=>by cases h),fun h=>absurd (List.all_eq_true.2 h.2) h2⟩
theorem q12 {H:List (List UInt8)} (hH:H.length<1000000) {s u:List (List UInt8)} (hs:s.Sublist u) (h:qbx u=0):qbx (s.map (qh7 H))=0:=by
 rw[qg8] at h ⊢
 refine⟨by rw[List.length_map];exact Nat.le_trans hs.length_le h.1,fun x hx=>?_⟩
 obtain⟨y,hy,rfl⟩:=List.mem_map.1 hx
 exact qss hH (h.2 y (hs.subset hy))
theorem qe2 {l:List qai}:qbu l=0↔l.length≤64∧(∀x∈l,qfp x=0)∧l.Pairwise (fun a b=>a.id≠b.id):=by
 constructor
 ·intro h
  refine⟨?_,?_,?_⟩
  ·unfold qbu at h
   split at h
   ·cases h
   ·omega
  ·intro x hx
   unfold qbu at h
   split at h
   ·cases h
   obtain⟨i,hi,rfl⟩:=List.getElem_of_mem hx
   have:=qca h i hi
   have e:l.getD i default=l[i]:=by simp[hi]
   unfold qhs at this
   rw[e] at this
   exact(qoh this).1
  ·rw[List.pairwise_iff_getElem]
   intro i j hi hj hij he
   unfold qbu at h
   split at h
   ·cases h
   have:=qca h j hj
   unfold qhs at this
   have:=(qoh this).2
   split at this
   ·cases this
   ·rename_i h2
    refine h2 ?_
    unfold qd0
    rw[List.any_eq_true]
    refine⟨l[i],?_,?_⟩
    ·rw[List.mem_take_iff_getElem]
     exact⟨i,by omega,rfl⟩
    ·simp[hj,he]
 ·rintro⟨h1,h2,h3⟩
  unfold qbu
  rw[if_neg (by omega)]
  refine qdw fun k hk=>?_
  unfold qhs
  refine qfi (h2 _ (qbh hk)) ?_
  rw[if_neg]
  unfold qd0
  rw[Bool.not_eq_true,List.any_eq_false]
  intro x hx he
  obtain⟨i,hi,rfl⟩:=List.mem_take_iff_getElem.1 hx
  rw[List.pairwise_iff_getElem] at h3
  refine h3 i k (by omega) hk (by omega) ?_
  have e:l.getD k default=l[k]:=by simp[hk]
  rw[beq_iff_eq,e] at he
  exact he
theorem q4a {l:List qai} (h:l.Pairwise (fun a b=>a.id≠b.id)):qc5 l=l.map (·.id):=by
 have key:∀k,k≤l.length→qc5 (l.take k)=(l.take k).map (·.id):=by
  intro k
  induction k with
  | zero=>intro _;rfl
  | succ k ih=>
   intro hk
   have ih:=ih (by omega)
   rw[qlh l k (by omega),if_neg,ih,qa0 l k (by omega),List.map_append]
   ·rfl
   ·rw[Bool.not_eq_true,List.any_eq_false,ih]
    intro y hy he
    obtain⟨x,hx,rfl⟩:=List.mem_map.1 hy
    obtain⟨i,hi,rfl⟩:=List.mem_take_iff_getElem.1 hx
    rw[List.pairwise_iff_getElem] at h
    have e:l.getD k default=l[k]:=by simp[show k<l.length by omega]
    rw[beq_iff_eq,e] at he
    exact h i k (by omega) (by omega) (by omega) he.symm
 have:=key l.length (Nat.le_refl _)
 rwa [List.take_length] at this
theorem q9g {H:List (List UInt8)} (hH:H.length<1000000) {l m:List qai} (hs:l.Sublist m) (h:qbu m=0):qbu (l.map (nnT H))=0:=by
 rw[qe2] at h ⊢
 obtain⟨h1,h2,h3⟩:=h
 refine⟨by rw[List.length_map];exact Nat.le_trans hs.length_le h1,fun x hx=>?_,?_⟩
 ·obtain⟨y,hy,rfl⟩:=List.mem_map.1 hx
  have:=h2 y (hs.subset hy)
  unfold qfp at this ⊢
  split at this
  ·cases this
  ·rename_i h4
   refine(if_neg h4).trans ?_
   rw[qe4]
   exact qss hH (qe4.1 this)
 ·rw[List.pairwise_map]
  exact h3.sublist hs
theorem Qms {l:List qbj}:qhy l=0↔(∀x∈l,qoy x=false∧x.send≤x.recv)∧l.Pairwise (fun a b=>a.recv≤b.recv):=by
 have e:qhy l=0↔∀i,i<l.length→Qhw l i=0:=⟨fun h=>qca h,fun h=>qdw h⟩
 rw[e,←qo0,←Qfu (R:=fun a b:qbj=>a.recv≤b.recv) (fun a b c h1 h2=>Int.le_trans h1 h2)]
 have at_:∀i,Qhw l i=0↔qoy (l.getD i default)=false∧(l.getD i default).send≤(l.getD i default).recv∧(0<i→(l.getD (i-1) default).recv≤(l.getD i default).recv):=fun i=>by
  unfold Qhw
  split
  ·rename_i h;rw[h];simp
  ·rename_i h
   have h:qoy (l.getD i default)=false:=by simpa using h
   rw[h]
   unfold Qka
   split
   ·rename_i h2
    simp only[Bool.or_eq_true,Bool.and_eq_true,decide_eq_true_eq] at h2
    constructor
    ·intro h;cases h
    ·rintro⟨_,a,b⟩
     rcases h2 with h2|h2
     ·omega
     ·have:=b h2.1;omega
   ·rename_i h2
    simp only[Bool.or_eq_true,Bool.and_eq_true,decide_eq_true_eq,not_or,not_and] at h2
    refine⟨fun _=>⟨rfl,by omega,fun h0=>?_⟩,fun _=>rfl⟩
    have:=h2.2 h0;omega
 simp only[at_]
 exact⟨fun h=>⟨fun i hi=>⟨(h i hi).1,(h i hi).2.1⟩,fun i h0 hi=>(h i hi).2.2 h0⟩,fun h i hi=>⟨(h.1 i hi).1,(h.1 i hi).2,fun h0=>h.2 i h0 hi⟩⟩
theorem Qqk {l m:List qbj} (hs:l.Sublist m) (h:qhy m=0):qhy l=0:=by
 rw[Qms] at h ⊢
 exact⟨fun x hx=>h.1 x (hs.subset hx),h.2.sublist hs⟩
theorem qmj {l:List qam}:qdx l=0↔(∀x∈l,qjm x=true∧qbx x.stack=0)∧l.Pairwise (fun a b=>a.at_≤b.at_):=by
 have e:qdx l=0↔∀i,i<l.length→Qce l i=0:=⟨fun h=>qca h,fun h=>qdw h⟩
 rw[e,←qo0,←Qfu (R:=fun a b:qam=>a.at_≤b.at_) (fun a b c h1 h2=>Int.le_trans h1 h2)]
 have at_:∀i,Qce l i=0↔qjm (l.getD i default)=true∧qbx (l.getD i default).stack=0∧(0<i→(l.getD (i-1) default).at_≤(l.getD i default).at_):=fun i=>by
  unfold Qce
  split
  ·rename_i h;rw[h];simp
  ·rename_i h
   have h:qjm (l.getD i default)=true:=by simpa using h
   rw[h]
   split
   ·rename_i h2;exact⟨fun h3=>absurd h3 h2,fun h3=>absurd h3.2.1 h2⟩
   ·rename_i h2
    have h2:qbx (l.getD i default).stack=0:=Classical.byContradiction h2
    split
    ·rename_i h3
     simp only[Bool.and_eq_true,decide_eq_true_eq] at h3
     constructor
     ·intro h;cases h
     ·rintro⟨_,_,b⟩
      have:=b h3.1;omega
    ·rename_i h3
     simp only[Bool.and_eq_true,decide_eq_true_eq,not_and] at h3
     refine⟨fun _=>⟨rfl,h2,fun h0=>?_⟩,fun _=>rfl⟩
     have:=h3 h0;omega
 simp only[at_]
 exact⟨fun h=>⟨fun i hi=>⟨(h i hi).1,(h i hi).2.1⟩,fun i h0 hi=>(h i hi).2.2 h0⟩,fun h i hi=>⟨(h.1 i hi).1,(h.1 i hi).2,fun h0=>h.2 i h0 hi⟩⟩
theorem Qf6 {f:qam→qam} (h1:∀x,(f x).thread=x.thread∧(f x).at_=x.at_∧(f x).weight=x.weight) (h2:∀x,qbx x.stack=0→qbx (f x).stack=0) {l m:List qam} (hs:l.Sublist m) (h:qdx m=0):qdx (l.map f)=0:=by
 rw[qmj] at h ⊢
 refine⟨fun x hx=>?_,?_⟩
 ·obtain⟨y,hy,rfl⟩:=List.mem_map.1 hx
  have:=h.1 y (hs.subset hy)
  obtain⟨a,b,c⟩:=h1 y
  refine⟨?_,h2 y this.2⟩
  have g:=this.1
  unfold qjm at g ⊢
  rw[a,b,c];exact g
 ·rw[List.pairwise_map]
  refine(h.2.sublist hs).imp fun {a b} hab=>?_
  rw[(h1 a).2.1,(h1 b).2.1];exact hab
theorem Qbd {l:List qaw}:bkF l=0↔(∀x∈l,Qhq x=false∧qbx x.stack=0)∧l.Pairwise (fun a b=>a.lo≤b.lo)∧l.Pairwise (fun a b=>qgb a b=false):=by
 have e:bkF l=0↔∀i,i<l.length→q89 l i=0:=⟨fun h=>qca h,fun h=>qdw h⟩
 rw[e,←qo0,←Qfu (R:=fun a b:qaw=>a.lo≤b.lo) (fun a b c h1 h2=>Int.le_trans h1 h2)]
 have at_:∀i,q89 l i=0↔Qhq (l.getD i default)=false∧qbx (l.getD i default).stack=0∧(0<i→(l.getD (i-1) default).lo≤(l.getD i default).lo)∧(l.take i).any (fun a=>qgb a (l.getD i default))=false:=fun i=>by
  unfold q89
  split
  ·rename_i h;rw[h];simp
  ·rename_i h
   have h:Qhq (l.getD i default)=false:=by simpa using h
   rw[h]
   split
   ·rename_i h2;exact⟨fun h3=>absurd h3 h2,fun h3=>absurd h3.2.1 h2⟩
   ·rename_i h2
    have h2:qbx (l.getD i default).stack=0:=Classical.byContradiction h2
    split
    ·rename_i h3
     simp only[Bool.and_eq_true,decide_eq_true_eq] at h3
     constructor
     ·intro h;cases h
     ·rintro⟨_,_,b,_⟩
      have:=b h3.1;omega
    ·rename_i h3
     simp only[Bool.and_eq_true,decide_eq_true_eq,not_and] at h3
     split
     ·rename_i h4;rw[h4];simp
     ·rename_i h4
      refine⟨fun _=>⟨rfl,h2,fun h0=>?_,by simpa using h4⟩,fun _=>rfl⟩
      have:=h3 h0;omega
 simp only[at_]
 constructor
 ·intro h
  refine⟨fun i hi=>⟨(h i hi).1,(h i hi).2.1⟩,fun i h0 hi=>(h i hi).2.2.1 h0,?_⟩
  rw[List.pairwise_iff_getElem]
  intro i j hi hj hij
  have:=(h j hj).2.2.2
  rw[List.any_eq_false] at this
  have:=this l[i] (List.mem_take_iff_getElem.2 ⟨i,by omega,rfl⟩)
  simpa[hj] using this
 ·rintro⟨h1,h2,h3⟩ i hi
  refine⟨(h1 i hi).1,(h1 i hi).2,fun h0=>h2 i h0 hi,?_⟩
  rw[List.any_eq_false]
  intro x hx
  obtain⟨j,hj,rfl⟩:=List.mem_take_iff_getElem.1 hx
  rw[List.pairwise_iff_getElem] at h3
  have:=h3 j i (by omega) hi (by omega)
  simpa[hi] using this
theorem Qzb {f:qaw→qaw} (e:∀x,(f x).id=x.id∧(f x).thread=x.thread∧(f x).size=x.size∧(f x).lo=x.lo∧(f x).hi=x.hi) (h2:∀x,qbx x.stack=0→qbx (f x).stack=0) {l m:List qaw} (hs:l.Sublist m) (h:bkF m=0):bkF (l.map f)=0:=by
 rw[Qbd] at h ⊢
 refine⟨fun x hx=>?_,?_,?_⟩
 ·obtain⟨y,hy,rfl⟩:=List.mem_map.1 hx
  have:=h.1 y (hs.subset hy)
  refine⟨?_,h2 y this.2⟩
  have g:=this.1
  obtain⟨a,b,c,d,e⟩:=e y
  unfold Qhq at g ⊢
  rw[a,b,c,d,e];exact g
 ·rw[List.pairwise_map]
  refine(h.2.1.sublist hs).imp fun {a b} hab=>?_
  rw[(e a).2.2.2.1,(e b).2.2.2.1];exact hab
 ·rw[List.pairwise_map]
  refine(h.2.2.sublist hs).imp fun {a b} hab=>?_
  obtain⟨a1,_,_,a2,a3⟩:=e a
  obtain⟨b1,_,_,b2,b3⟩:=e b
  unfold qgb at hab ⊢
  rw[a1,a2,a3,b1,b2,b3];exact hab
theorem qwf {has:Int→Bool} {l:List qb5}:qsb has l=0↔∀x∈l,qd4 has x=0:=by
 rw[←qo0]
 exact⟨fun h=>qca h,fun h=>qdw h⟩
theorem Qpi {has has':Int→Bool} {l m:List qb5} (hs:∀x∈l,x∈m∧has' x.thread=true) (h:qsb has m=0):qsb has' l=0:=by
 rw[qwf] at h ⊢
 intro x hx
 obtain⟨a,b⟩:=hs x hx
 have:=h x a
 unfold qd4 at this ⊢
 rw[if_neg (by rw[b];simp)]
 split at this
 ·cases this
 ·exact this

theorem Qge {α:Type} [Inhabited α] {R:α→α→Prop} {lt:α→α→Bool} (tr:∀a b c,R a b→R b c→R a c) {l:List α} {b:α} (hl:l.Pairwise R) (h1:∀x∈l,lt b x=true→R b x) (h2:∀x∈l,lt b x=false→R x b):(q7a lt l b).Pairwise R:=by
 unfold q7a
 obtain⟨p,hp⟩:∃p,p=putAt lt l b l.length:=⟨_,rfl⟩
 have hle:p≤l.length:=by rw[hp];exact qsp _ _ _ _
 rw[←hp]
 have hsp:(l.take p++l.drop p).Pairwise R:=by rw[List.take_append_drop];exact hl
 rw[List.pairwise_append] at hsp ⊢
 obtain⟨g1,g2,g3⟩:=hsp
 have hkd:∀j∈l.drop p,R b j:=fun j hj=>by
  obtain⟨i,hi,rfl⟩:=List.getElem_of_mem hj
  rw[List.getElem_drop]
  have hil:p+i<l.length:=by rw[List.length_drop] at hi;omega
  have:=q21 (lt:=lt) (l:=l) (b:=b) (k:=l.length) (j:=p+i) (by omega) hil
  have e:l.getD (p+i) default=l[p+i]:=by simp[hil]
  rw[e] at this
  exact h1 _ (List.getElem_mem hil) this
 have htk:∀j∈l.take p,R j b:=fun j hj=>by
  obtain⟨i,hi,rfl⟩:=List.mem_take_iff_getElem.1 hj
  have hq:p-1<l.length:=by omega
  have hlo:=q20 (lt:=lt) (l:=l) (b:=b) (k:=l.length) (by omega)
  rw[←hp] at hlo
  have e:l.getD (p-1) default=l[p-1]:=by simp[hq]
  rw[e] at hlo
  have hlast:=h2 _ (List.getElem_mem hq) hlo
  by_cases e:i=p-1
  ·subst e;exact hlast
  ·exact tr _ _ _ (List.pairwise_iff_getElem.1 hl i (p-1) (by omega) hq (by omega)) hlast
 refine⟨g1,List.pairwise_cons.2 ⟨hkd,g2⟩,fun a ha b hb=>?_⟩
 rcases List.mem_cons.1 hb with rfl|hb
 ·exact htk a ha
 ·exact g3 a ha b hb
theorem qtm {α:Type} [Inhabited α] {R:α→α→Prop} {lt:α→α→Bool} (tr:∀a b c,R a b→R b c→R a c) {l:List α} (hd:l.Pairwise (fun x b=>(lt b x=true→R b x)∧(lt b x=false→R x b))):(qfd lt l).Pairwise R∧∀x,x∈qfd lt l↔x∈l:=by
 obtain⟨n,hn⟩:∃n,n=l.length:=⟨_,rfl⟩
 induction n generalizing l with
 | zero=>
  have:l=[]:=List.eq_nil_of_length_eq_zero hn.symm
  subst this;exact⟨List.Pairwise.nil,fun x=>Iff.rfl⟩
 | succ n ih=>
  rcases List.eq_nil_or_concat l with rfl|⟨v,s,rfl⟩
  ·simp at hn
  rw[List.concat_eq_append] at hn hd ⊢
  rw[List.pairwise_append] at hd
  obtain⟨i1,i2⟩:=ih hd.1 (by rw[List.length_append] at hn;simp at hn;exact hn)
  rw[qo7]
  have hs:∀x∈v,(lt s x=true→R s x)∧(lt s x=false→R x s):=fun x hx=>hd.2.2 x hx s (List.mem_singleton.2 rfl)
  refine⟨Qge tr i1 (fun x hx=>(hs x ((i2 x).1 hx)).1) (fun x hx=>(hs x ((i2 x).1 hx)).2),fun x=>?_⟩
  rw[Qea,i2,List.mem_append,List.mem_singleton]
theorem Qo9 {a b:qa7} (h:a.name=b.name):qcf a b=qm3 a.at_ b.at_:=by
 unfold qcf orF
 rw[h,Qj4.self,if_pos rfl]
theorem Qo8 {a b:qa7} (h:qcf a b=0):a.name=b.name∧a.at_=b.at_:=by
 unfold qcf orF at h
 split at h
 ·rename_i h1
  refine⟨?_,?_⟩
  ·rcases qdv a.name b.name with⟨_,_,_,e⟩|⟨_,e,_⟩|⟨_,_,_,e⟩
   ·omega
   ·exact e
   ·omega
  ·rcases qfx a.at_ b.at_ with⟨_,e⟩|⟨e,_⟩|⟨_,e⟩
   ·omega
   ·exact e
   ·omega
 ·rename_i h1;exact absurd h h1
theorem qv2 {a b:qa7} (h:a.name=b.name):qcf a b<0↔a.at_<b.at_:=by
 rw[Qo9 h]
 rcases qfx a.at_ b.at_ with⟨_,_⟩|⟨_,_⟩|⟨_,_⟩<;>omega
theorem Qs8 {a b:qa7} (h:qcf a b<0):q80 a.name b.name≤0:=by
 unfold qcf orF at h
 split at h
 ·rename_i h1;rw[h1];exact Int.le_refl _
 ·omega
theorem Qur {a b c:qa7} (h:a.name=b.name) (h1:qcf a c<0) (h2:qcf c b<0):c.name=a.name:=by
 have e1:=Qs8 h1
 have e2:=Qs8 h2
 rw[←h,q8z] at e2
 rcases qdv a.name c.name with⟨_,_,_,e⟩|⟨_,e,_⟩|⟨_,_,_,e⟩
 ·omega
 ·exact e.symm
 ·omega
def Q02 (l:List qa7):Prop:=∀a∈l,∀b∈l,a.name=b.name→a.at_<b.at_→(∀c∈l,c.name=a.name→c.at_≤a.at_∨b.at_≤c.at_)→a.value≠b.value
theorem Qiv {l:List qa7} {i:Nat}:Qcc l i=0↔qda (l.getD i default).name=0∧Qq9 (l.getD i default)=false∧(0<i→qcf (l.getD (i-1) default) (l.getD i default)<0∧¬((l.getD (i-1) default).name=(l.getD i default).name∧(l.getD (i-1) default).value=(l.getD i default).value)):=by
 unfold Qcc
 split
 ·rename_i h;exact⟨fun h2=>absurd h2 h,fun h2=>absurd h2.1 h⟩
 ·rename_i h
  have h:qda (l.getD i default).name=0:=Classical.byContradiction h
  split
  ·rename_i h1;rw[h1];simp
  ·rename_i h1
   have h1:Qq9 (l.getD i default)=false:=by simpa using h1
   rw[h,h1]
   unfold Qs9
   split
   ·rename_i h2
    simp only[Bool.and_eq_true,Bool.or_eq_true,decide_eq_true_eq,beq_iff_eq] at h2
    constructor
    ·intro h;cases h
    ·rintro⟨_,_,h3⟩
     have:=h3 h2.1
     rcases h2.2 with h4|h4
     ·omega
     ·exact absurd h4 this.2
   ·rename_i h2
    simp only[Bool.and_eq_true,Bool.or_eq_true,decide_eq_true_eq,beq_iff_eq,not_and,not_or] at h2
    refine⟨fun _=>⟨rfl,rfl,fun h0=>?_⟩,fun _=>rfl⟩
    obtain⟨a,b⟩:=h2 h0
    exact⟨by omega,fun h=>b h.1 h.2⟩
theorem qtj {l:List qa7}:qhg l=0↔(∀x∈l,qda x.name=0∧Qq9 x=false)∧l.Pairwise (fun a b=>qcf a b<0)∧Q02 l:=by
 have tr:∀a b c:qa7,qcf a b<0→qcf b c<0→qcf a c<0:=fun a b c h1 h2=>qev.strict (by omega) (by omega) (.inl h1)
 have self:∀a:qa7,qcf a a=0:=qev.self
 have e:qhg l=0↔∀i,i<l.length→Qcc l i=0:=⟨fun h=>qca h,fun h=>qdw h⟩
 rw[e]
 simp only[Qiv]
 constructor
 ·intro h
  have hp:l.Pairwise (fun a b=>qcf a b<0):=(Qfu (R:=fun a b:qa7=>qcf a b<0) tr).1 fun i h0 hi=>((h i hi).2.2 h0).1
  refine⟨qo0.1 fun i hi=>⟨(h i hi).1,(h i hi).2.1⟩,hp,?_⟩
  intro a ha b hb hn hat hbt
  obtain⟨i,hi,rfl⟩:=List.getElem_of_mem ha
  obtain⟨j,hj,rfl⟩:=List.getElem_of_mem hb
  rw[List.pairwise_iff_getElem] at hp
  have hij:i<j:=by
   rcases Nat.lt_trichotomy i j with h1|h1|h1
   ·exact h1
   ·subst h1;omega
   ·have:=(qv2 hn.symm).1 (hp j i hj hi h1)
    omega
  by_cases hj1:j=i+1
  ·subst hj1
   have:=((h (i+1) hj).2.2 (by omega)).2
   rw[Nat.add_sub_cancel] at this
   have e1:l.getD i default=l[i]:=by simp[hi]
   have e2:l.getD (i+1) default=l[i+1]:=by simp[hj]
   rw[e1,e2] at this
   exact fun hv=>this ⟨hn,hv⟩
  ·exfalso
   have c1:=hp i (i+1) hi (by omega) (by omega)
   have c2:=hp (i+1) j (by omega) hj (by omega)
   have hc:=Qur hn c1 c2
   have d1:=(qv2 hc.symm).1 c1
   have d2:=(qv2 (hc.trans hn)).1 c2
   rcases hbt _ (List.getElem_mem (l:=l) (n:=i+1) (by omega)) hc with h3|h3<;>omega
 ·rintro⟨h1,h2,h3⟩ i hi
  have hx:=h1 _ (qbh hi)
  refine⟨hx.1,hx.2,fun h0=>?_⟩
  have e1:l.getD (i-1) default=l[i-1]:=by simp[show i-1<l.length by omega]
  have e2:l.getD i default=l[i]:=by simp[hi]
  rw[e1,e2]
  rw[List.pairwise_iff_getElem] at h2
  have ho:=h2 (i-1) i (by omega) hi (by omega)
  refine⟨ho,fun hh=>?_⟩
  refine h3 _ (List.getElem_mem _) _ (List.getElem_mem _) hh.1 ((qv2 hh.1).1 ho) ?_ hh.2
  intro c hc hcn
  obtain⟨k,hk,rfl⟩:=List.getElem_of_mem hc
  rcases Nat.lt_trichotomy k (i-1) with h4|h4|h4
  ·have:=(qv2 hcn).1 (h2 k (i-1) hk (by omega) h4)
   exact .inl (by omega)
  ·subst h4;exact .inl (Int.le_refl _)
  ·by_cases h5:k=i
   ·subst h5;exact .inr (Int.le_refl _)
   ·have:=(qv2 (hh.1.symm.trans hcn.symm)).1 (h2 i k hi hk (by omega))
    exact .inr (by omega)
theorem Qir {H:List (List UInt8)} (hH:H.length<1000000) {p:List UInt8→Bool} {m:List qa7} (hi:∀x∈m,∀y∈m,p x.name=true→p y.name=true→qh7 H x.name=qh7 H y.name→x.name=y.name) (h:qhg m=0):qhg (qfd ltT ((m.filter fun x=>p x.name).map (nnC H)))=0:=by
 rw[qtj] at h ⊢
 obtain⟨h1,h2,h3⟩:=h
 have tr:∀a b c:qa7,qcf a b<0→qcf b c<0→qcf a c<0:=fun a b c h1 h2=>qev.strict (by omega) (by omega) (.inl h1)
 have hd:((m.filter fun x=>p x.name).map (nnC H)).Pairwise (fun x b=>(ltT b x=true→qcf b x<0)∧(ltT b x=false→qcf x b<0)):=by
  rw[List.pairwise_map]
  have:=h2.sublist (List.filter_sublist (l:=m) (p:=fun x=>p x.name))
  refine List.Pairwise.imp_of_mem ?_ this
  intro a b ha hb hab
  obtain⟨ma,pa⟩:=List.mem_filter.1 ha
  obtain⟨mb,pb⟩:=List.mem_filter.1 hb
  have hne:qcf (nnC H a) (nnC H b)≠0:=fun he=>by
   obtain⟨e1,e2⟩:=Qo8 he
   have e3:=hi a ma b mb pa pb e1
   have:=(qv2 e3).1 hab
   have e2:a.at_=b.at_:=e2
   omega
  unfold ltT
  simp only[decide_eq_true_eq,decide_eq_false_iff_not]
  refine⟨id,fun h=>?_⟩
  rw[qev.anti] at h hne ⊢
  have h':¬qcf (nnC H b) (nnC H a)<0:=by rw[qev.anti];exact h
  omega
 obtain⟨k1,k2⟩:=qtm (lt:=ltT) tr hd
 have mem:∀x,x∈qfd ltT ((m.filter fun x=>p x.name).map (nnC H))↔∃y∈m,p y.name=true∧nnC H y=x:=fun x=>by
  rw[k2,List.mem_map]
  constructor
  ·rintro⟨y,hy,e⟩;obtain⟨a,b⟩:=List.mem_filter.1 hy;exact⟨y,a,b,e⟩
  ·rintro⟨y,a,b,e⟩;exact⟨y,List.mem_filter.2 ⟨a,b⟩,e⟩
 refine⟨fun x hx=>?_,k1,?_⟩
 ·obtain⟨y,hy,_,rfl⟩:=(mem x).1 hx
  obtain⟨a,b⟩:=h1 y hy
  exact⟨qe4.2 (qss hH (qe4.1 a)),b⟩
 ·intro x hx y hy hn hat hbt
  obtain⟨a,ma,pa,rfl⟩:=(mem x).1 hx
  obtain⟨b,mb,pb,rfl⟩:=(mem y).1 hy
  have e3:=hi a ma b mb pa pb hn
  refine h3 a ma b mb e3 hat fun c mc hc=>?_
  exact hbt (nnC H c) ((mem _).2 ⟨c,mc,by rw[hc];exact pa,rfl⟩) (show qh7 H c.name=qh7 H a.name by rw[hc])
end YtljpopkonkanlaaGreatDoor
end Go.Proofs

set_option maxRecDepth 100000
namespace Go.Proofs
open Go.AM Tryz
namespace YtljpopkonkanlaaGreatDoor
variable {Gl:qbb}
def exA:qat:=⟨0,10,[⟨1,[109,97,105,110],0⟩],[⟨1,-1,0,[97],0,10,4,false⟩,⟨1,0,1,[98],2,8,4,false⟩,⟨1,1,2,[99],3,5,2,false⟩],[⟨1,5,0,10,-1,-1,-1⟩],[],[],[],[],[]⟩
def exL:List qao:=[⟨qa4,[119],q9m⟩,⟨qa5,[98],qmk⟩]
def exN:List (List UInt8):=[[119,114,105,116,101,114],[109,97,105,110],[119,111,114,107,101,114],[119,114,105,116,101,114]]
def exW:List (List UInt8):=[[104,105,100,100,101,110,45,49],[109,97,105,110],[104,105,100,100,101,110,45,50],[104,105,100,100,101,110,45,49]]
def exS:qae:=⟨1,0,1,[99],3,5,2,false⟩
theorem Qvn:exA.Few:=by constructor<;>first|decide|(intro x hx;cases hx)
theorem Qm3:exA.lim:=by refine⟨?_,?_,?_,?_,?_,?_,?_,?_⟩<;>decide
theorem Qe8:exA.limS:=⟨fun x hx=>(by cases hx),fun x hx=>(by cases hx)⟩
theorem Qqt:qd7 exA.slices:=by
 intro i hi
 match i,hi with
 | 0,_=>decide
 | 1,_=>decide
 | 2,_=>decide
theorem Qm2:Quv exL qa4 exN=exW:=by decide +kernel
theorem Qqr:Qn9 exL qa4 exN=0:=by decide +kernel
theorem Qvo:(qhi exL exA).2=0:=by decide +kernel
theorem Qm1:(qhi exL exA).1.slices=[⟨1,-1,0,[97],0,10,8,false⟩,exS]:=by decide +kernel
theorem Qts:(qhi exL exA).1.threads=[⟨1,[109,97,105,110],0⟩]:=by decide +kernel
theorem Qyz:frN (qhi exL exA).1=[]:=by decide +kernel
theorem Qtu:(qhi exL exA).1.samples=[]:=by decide +kernel
theorem Qtv:(qhi exL exA).1.blocks=[]:=by decide +kernel
theorem Qtt:(qhi exL exA).1.steps=[]:=by decide +kernel
theorem Qqq:(qhi exL exA).1.states.length≤1000∧(qhi exL exA).1.flows.length≤1000∧(qhi exL exA).1.lost.length≤1000:=by decide +kernel
theorem Qvq:qgk exL (qhi exL exA).1=true:=by decide +kernel
theorem Qvp:qgk exL exA=false:=by decide +kernel
theorem Qy1:qk2 qa5 [98,99] exL=qmk:=by decide +kernel
theorem Qy0:qk2 qa5 [97] exL=qgn:=by decide +kernel
theorem Qvr:qi9 exL=0:=by decide +kernel
theorem Qvm:(qhi exL exA).1.lim:=by
 obtain⟨h1,h2,h3⟩:=Qqq
 unfold qat.lim
 rw[Qts,Qm1,Qtu,Qtv,Qtt]
 exact⟨by decide,by decide,h1,h2,by decide,by decide,by decide,h3⟩
theorem Qqo:(qhi exL exA).1.limS:=by
 unfold qat.limS
 rw[Qtu,Qtv]
 exact⟨fun x hx=>(by cases hx),fun x hx=>(by cases hx)⟩
theorem Qkz {t:qat} {A B C E:List (List UInt8)} (h1:t.threads.map (·.name)=A) (h2:t.slices.map (·.name)=B) (h3:frN t=C) (h4:t.steps.map (·.name)=E)
  (h:(A.length<1000000∧B.length<1000000∧C.length<1000000∧E.length<1000000)∧([A,B,C,E].all fun s=>s.all fun x=>decide (x.length<9223372036854775808))=true):Qtk t:=fun k hk=>by
 obtain⟨⟨a1,a2,a3,a4⟩,ha⟩:=h
 simp only[List.all_cons,List.all_nil,Bool.and_true,Bool.and_eq_true,List.all_eq_true,decide_eq_true_eq] at ha
 obtain⟨b1,b2,b3,b4⟩:=ha
 match k,hk with
 | 0,_=>show(t.threads.map (·.name)).length<_∧_;rw[h1];exact⟨a1,fun x hx=>b1 x (by rw[←h1];exact hx)⟩
 | 1,_=>show(t.slices.map (·.name)).length<_∧_;rw[h2];exact⟨a2,fun x hx=>b2 x (by rw[←h2];exact hx)⟩
 | 2,_=>show(frN t).length<_∧_;rw[h3];exact⟨a3,fun x hx=>b3 x (by rw[←h3];exact hx)⟩
 | 3,_=>show(t.steps.map (·.name)).length<_∧_;rw[h4];exact⟨a4,fun x hx=>b4 x (by rw[←h4];exact hx)⟩
theorem Qqp:Qtk (qhi exL exA).1:=Qkz (A:=[[109,97,105,110]]) (B:=[[97],[99]]) (C:=[]) (E:=[]) (by rw[Qts];rfl) (by rw[Qm1];rfl) Qyz (by rw[Qtt];rfl) (by decide)
theorem Qqs:Qtk exA:=Qkz (A:=[[109,97,105,110]]) (B:=[[97],[98],[99]]) (C:=[]) (E:=[]) rfl rfl rfl rfl (by decide)
theorem q78:qbc prog Gl 29 [] (.d exA.toD):=by
 refine qbc.of0 ?_
 refine qac func29 rfl rfl (by simp[ntmps29]) (qab rfl _ _ _ _ ?_)
 simp only[ntmps29,results29,qak,List.length_nil]
 simp only[zU,seval]
 repeat((with_reducible apply aI);exact sdp)
 refine⟨_,_,qf4 rfl ?_,rfl,rfl⟩
 rfl
theorem Qpv (a b:List (List UInt8)) (n:Nat) (hb:b.length=n) (ha:a.length<1000000) (hn:n<1000000) (B:Blk) (hB:qeg 1 (b.map .str) B):qal prog Gl 17 [.d (.sl (a.map .str)),.osl 0 0 n] [B] (fun r s=>r=.d (.bool (a==b))∧s=[B]):=by
 rcases hB with rfl|rfl
 ·refine qac func17 rfl rfl (by simp[ntmps17]) (qab rfl _ _ _ _ ?_)
  simp only[ntmps17,results17,qak,List.length_nil]
  simp only[zU,seval]
  (try simp only[zU,seval,hb])
  repeat((with_reducible apply aI);exact sdp)
  refine ifC.mk (fun h0=>?_) (fun h0=>?_)
  ·have h0:¬a.length=b.length:=by simp at h0;omega
   refine⟨_,_,qah [] [0] rfl (by simp) (show qbk _ _ _=AV.d _ from rfl) rfl,?_,rfl⟩
   have:(a==b)=false:=by
    rw[Bool.eq_false_iff];intro h;exact h0 (congrArg List.length (by simpa using h))
   rw[this]
  ·have h0:a.length=b.length:=by simp at h0;omega
   refine qap a.length (fun k=>[(0,.d (.sl (a.map .str))),(1,.osl 0 0 n),(5,.d (.int .i64 k))]) (fun _=>[.arr 1 (b.map .str)]) (fun k=>a.take k=b.take k) rfl ?_ ?_
   ·refine qaa [] [0] rfl (by simp) ?_ rfl
    simp only[zU,seval]
    all_goals rfl
   ·intro k hi hk
    by_cases h:k<a.length
    ·have hb2:k<b.length:=by omega
     have hb3:k<n:=by omega
     simp only[zU,seval,(show(k:Int)<a.length by omega),(show(k:Int)<n by omega),h,hb2,hb3,qaj _ _ _ (show k<a.length by omega),qaj _ _ _ (show k<b.length by omega)]
     repeat((with_reducible apply aI);exact sdp)
     refine ifC.mk (fun hc=>?_) (fun hc=>?_)
     ·have hc:¬a.getD k default=b.getD k default:=by simpa using hc
      refine⟨_,_,qah [] [0] rfl (by simp) (show qbk _ _ _=AV.d _ from rfl) rfl,?_,rfl⟩
      have:(a==b)=false:=by
       rw[Bool.eq_false_iff];intro h;exact hc (by rw[show a=b by simpa using h])
      rw[this]
     ·have hc:a.getD k default=b.getD k default:=by simpa using hc
      refine⟨by rw[qa0 a k h,qa0 b k hb2,hi,hc],?_⟩
      refine qaa [] [0] rfl (by simp) ?_ rfl
      simp only[zU,seval,@qag ((k:Int)+1) (by omega)]
      all_goals rfl
    ·simp only[zU,seval,(show ¬(k:Int)<a.length by omega)]
     have:k=a.length:=by omega
     subst this
     refine⟨_,_,qah [] [0] rfl (by simp) (show qbk _ _ _=AV.d _ from rfl) rfl,?_,rfl⟩
     rw[List.take_length,h0,List.take_length] at hi
     rw[hi];simp
 ·refine qac func17 rfl rfl (by simp[ntmps17]) (qab rfl _ _ _ _ ?_)
  simp only[ntmps17,results17,qak,List.length_nil]
  simp only[zU,seval]
  (try simp only[zU,seval,hb])
  repeat((with_reducible apply aI);exact sdp)
  refine ifC.mk (fun h0=>?_) (fun h0=>?_)
  ·have h0:¬a.length=b.length:=by simp at h0;omega
   refine⟨_,_,qah [] [0] rfl (by simp) (show qbk _ _ _=AV.d _ from rfl) rfl,?_,rfl⟩
   have:(a==b)=false:=by
    rw[Bool.eq_false_iff];intro h;exact h0 (congrArg List.length (by simpa using h))
   rw[this]
  ·have h0:a.length=b.length:=by simp at h0;omega
   refine qap a.length (fun k=>[(0,.d (.sl (a.map .str))),(1,.osl 0 0 n),(5,.d (.int .i64 k))]) (fun _=>[.frz 1 (b.map .str)]) (fun k=>a.take k=b.take k) rfl ?_ ?_
   ·refine qaa [] [0] rfl (by simp) ?_ rfl
    simp only[zU,seval]
    all_goals rfl
   ·intro k hi hk
    by_cases h:k<a.length
    ·have hb2:k<b.length:=by omega
     have hb3:k<n:=by omega
     simp only[zU,seval,(show(k:Int)<a.length by omega),(show(k:Int)<n by omega),h,hb2,hb3,qaj _ _ _ (show k<a.length by omega),qaj _ _ _ (show k<b.length by omega)]
     repeat((with_reducible apply aI);exact sdp)
     refine ifC.mk (fun hc=>?_) (fun hc=>?_)
     ·have hc:¬a.getD k default=b.getD k default:=by simpa using hc
      refine⟨_,_,qah [] [0] rfl (by simp) (show qbk _ _ _=AV.d _ from rfl) rfl,?_,rfl⟩
      have:(a==b)=false:=by
       rw[Bool.eq_false_iff];intro h;exact hc (by rw[show a=b by simpa using h])
      rw[this]
     ·have hc:a.getD k default=b.getD k default:=by simpa using hc
      refine⟨by rw[qa0 a k h,qa0 b k hb2,hi,hc],?_⟩
      refine qaa [] [0] rfl (by simp) ?_ rfl
      simp only[zU,seval,@qag ((k:Int)+1) (by omega)]
      all_goals rfl
    ·simp only[zU,seval,(show ¬(k:Int)<a.length by omega)]
     have:k=a.length:=by omega
     subst this
     refine⟨_,_,qah [] [0] rfl (by simp) (show qbk _ _ _=AV.d _ from rfl) rfl,?_,rfl⟩
     rw[List.take_length,h0,List.take_length] at hi
     rw[hi];simp
end YtljpopkonkanlaaGreatDoor
end Go.Proofs

set_option maxRecDepth 100000
namespace Go.Proofs
open Go.AM Tryz
namespace YtljpopkonkanlaaGreatDoor
theorem Qya (a b:qae):qgs prog 57 .eql (.d a.toD) (.d b.toD)=True:=eq_true (by
 refine(show True∧(match qm2 prog 57 with|some l=>qlj l _ _=true|none=>False) from⟨trivial,?_⟩)
 rw[Qry];rfl)
theorem qi4:qbc prog G2 10 [] (.d (.bool true)):=by
 refine qbc.of0 ?_
 refine qac func10 rfl rfl (by simp[ntmps10]) (qab rfl _ _ _ _ ?_)
 simp only[ntmps10,results10,qak,List.length_nil]
 simp only[zU,seval]
 repeat((with_reducible apply aI);exact sdp)
 refine qxg (σ':=[.frz 3 (exL.map qao.toD),.frz 1 (exN.map .str)]) (Qu8 exL qa4 exN (by decide) (by decide)) rfl rfl ?_
 rw[Qm2,Qqr]
 simp only[zU,seval]
 repeat((with_reducible apply aI);exact sdp)
 refine qaf q78 ?_
 simp only[zU,seval]
 refine qxg (σ':=[.frz 3 (exL.map qao.toD),.frz 1 (exN.map .str)]) (qwn exL exA (by decide) Qvn Qm3 Qe8 (fun _=>Qqt) (fun _=>by decide)) rfl rfl ?_
 have hl:=Qvm
 have hls:=Qqo
 have hla:=Qqp
 have hsl:=Qm1
 have hcl:=Qvq
 rw[Qvo]
 obtain⟨R,hR⟩:∃R,R=(qhi exL exA).1:=⟨_,rfl⟩
 rw[←hR] at hl hls hla hsl hcl ⊢
 clear hR
 have hsn:R.slices.length=2:=by rw[hsl];rfl
 have hs0:(R.slices.map qae.toD).getD 0 default=(⟨1,-1,0,[97],0,10,8,false⟩:qae).toD:=by rw[hsl];rfl
 have hs1:(R.slices.map qae.toD).getD 1 default=(.agg [.int .i64 1,.int .i64 0,.int .i64 1,.str [99],.int .i64 3,.int .i64 5,.int .i64 2,.bool false]):=by rw[hsl];rfl
 simp only[zU,seval,hsn,hs0,hs1]
 repeat((with_reducible apply aI);exact sdp)
 refine Qnl (v:=.bool (exW==exW)) 3 (fun B hB=>Qpv exW exW 4 rfl (by decide) (by decide) B hB) (fun s=>rfl) rfl ?_
 have q1:qgl prog 57 .eql (.agg [.int .i64 1,.int .i64 0,.int .i64 1,.str [99],.int .i64 3,.int .i64 5,.int .i64 2,.bool false]) (.agg [.int .i64 1,.int .i64 0,.int .i64 1,.str [99],.int .i64 3,.int .i64 5,.int .i64 2,.bool false])=True:=Qya exS exS
 have q2:qo2 .eql (.agg [.int .i64 1,.int .i64 0,.int .i64 1,.str [99],.int .i64 3,.int .i64 5,.int .i64 2,.bool false]) (.agg [.int .i64 1,.int .i64 0,.int .i64 1,.str [99],.int .i64 3,.int .i64 5,.int .i64 2,.bool false])=.bool true:=rfl
 have hww:(exW==exW)=true:=by decide
 rw[hww]
 simp only[zU,seval,hsn,hs0,hs1,q1,q2]
 repeat((with_reducible apply aI);exact sdp)
 refine qou (v:=.d (.bool true)) (xs:=[.sl (exL.map qao.toD),R.toD]) (fun _=>by rw[←hcl];exact q3x exL R (by decide) hl hls (q3d hla)) (.cons (.osl (es:=3) (xs:=exL.map qao.toD) rfl rfl) (.cons (.d _) .nil)) ?_
 simp only[zU,seval]
 repeat((with_reducible apply aI);exact sdp)
 refine qav (v:=.d exA.toD) (fun _=>q78) ?_
 simp only[zU,seval]
 repeat((with_reducible apply aI);exact sdp)
 refine qou (v:=.d (.bool false)) (xs:=[.sl (exL.map qao.toD),exA.toD]) (fun _=>by rw[←Qvp];exact q3x exL exA (by decide) Qm3 Qe8 (q3d Qqs)) (.cons (.osl (es:=3) (xs:=exL.map qao.toD) rfl rfl) (.cons (.d _) .nil)) ?_
 simp only[zU,seval]
 repeat((with_reducible apply aI);exact sdp)
 refine qou (v:=.d (.str qmk)) (xs:=[.sl (exL.map qao.toD),.str qa5,.str [98,99]]) (fun _=>by rw[←Qy1];exact qgq exL qa5 [98,99] (by decide)) (.cons (.osl (es:=3) (xs:=exL.map qao.toD) rfl rfl) (.cons (.d _) (.cons (.d _) .nil))) ?_
 simp only[zU,seval,qmk]
 repeat((with_reducible apply aI);exact sdp)
 refine qou (v:=.d (.str qgn)) (xs:=[.sl (exL.map qao.toD),.str qa5,.str [97]]) (fun _=>by rw[←Qy0];exact qgq exL qa5 [97] (by decide)) (.cons (.osl (es:=3) (xs:=exL.map qao.toD) rfl rfl) (.cons (.d _) (.cons (.d _) .nil))) ?_
 simp only[zU,seval,qgn]
 repeat((with_reducible apply aI);exact sdp)
 refine qou (v:=.d (.int .i64 0)) (xs:=[.sl (exL.map qao.toD)]) (fun _=>by rw[←Qvr];exact Qaj exL (by decide)) (.cons (.osl (es:=3) (xs:=exL.map qao.toD) rfl rfl) .nil) ?_
 simp only[zU,seval]
 repeat((with_reducible apply aI);exact sdp)
 exact⟨_,_,qaq,rfl,rfl⟩
end YtljpopkonkanlaaGreatDoor
end Go.Proofs

set_option maxRecDepth 100000
namespace Go.Proofs
open Go.AM Tryz Go.ChangeShapes Go.WideShapes Go.ChangeAt Go.RowKit
namespace YtljpopkonkanlaaGreatDoor
theorem own:ownKnob prog.godebug=none:=by kernel_rfl
theorem q9z:laidOutB prog=true:=by kernel_rfl
def qmr:List (String×DataW Unit):=[("math/bits.deBruijn32tab", Rows.laid_math_bits_deBruijn32tab),("math/bits.deBruijn64tab", Rows.laid_math_bits_deBruijn64tab),("internal/strconv.uint64pow10", Rows.laid_internal_strconv_uint64pow10),("unicode/utf8.acceptRanges", Rows.laid_unicode_utf8_acceptRanges),("unicode/utf8.first", Rows.laid_unicode_utf8_first)]
theorem q3e (os:Os) (args:Array Value):laidMetH prog qmr ((World.laidAll prog os qmr).forCall (fun _ _=>0) ⟨#[],args,[]⟩).memory:=by
 rw[MakeChecks.laidMetH_plain _ _ _ (by kernel_rfl)];exact laidMet_laidAll _ (by kernel_rfl) (by kernel_rfl)
theorem Qo5:(prog.globals[3]?).map (·.type)=some 217:=by kernel_rfl
theorem qpo {W:World} (h:laidMetH prog qmr W) (I:Im) (hI:∀b,b<W.heap.size→I.rd b):qhz G2 W I:=by
 rw[MakeChecks.laidMetH_plain _ _ _ (by kernel_rfl)] at h
 have h2:=(h.tail).tail
 have ht:Lib.TabIs prog W "internal/strconv.uint64pow10" .u64 Lib.pow10Tab:=
  Lib.tabIs_of_head (n:=20) qsq Qo5 (by kernel_rfl) (e:=204) (by kernel_rfl) (by kernel_rfl) (by kernel_rfl) h2
 refine Qam ht qsq (hI _ ?_)
 have:=ht
 unfold Lib.TabIs World.var? at this
 rw[qsq] at this
 simp only[Option.bind_some] at this
 split at this
 ·rename_i hh
  exact(Array.getElem?_eq_some_iff.1 hh).1
 ·cases this
theorem Qca {xs:List D} (h:∀x∈xs,qgt [.str] x.cells∧x.isAgg=false):∃l:List (List UInt8),xs=l.map .str∧∀y∈l,y.length≤maxLen:=
 qi0 fun x hx=>by
  obtain⟨s,hs,hl⟩:=Qtc (h x hx).1 (h x hx).2
  exact⟨s,hs,hl⟩
def Qyg (t:qat):Prop:=(∀x∈t.threads,x.name.length≤maxLen)∧(∀x∈t.slices,x.name.length≤maxLen)∧(∀x∈t.samples,∀y∈x.stack,y.length≤maxLen)∧(∀x∈t.steps,x.name.length≤maxLen)∧(∀x∈t.blocks,∀y∈x.stack,y.length≤maxLen)
theorem Quk {x:D} (h:qgt [.str,.str,.str] x.cells) (hg:x.isAgg=true):∃b:qao,x=b.toD:=by
 obtain⟨_,_,e1,⟨a0,rfl,_⟩,_,_,rfl,⟨a1,rfl,_⟩,_,_,rfl,⟨a2,rfl,_⟩,rfl⟩:=h
 exact⟨⟨a0,a1,a2⟩,qmg hg e1⟩
theorem q27 {x:D} (h:qxr prog 5 22 x):∃l:List qao,x=.sl (l.map qao.toD)∧l.length≤maxLen:=by
 obtain⟨xs,rfl,hl,hx⟩:=Qj6 h (c:=.sl [.str,.str,.str] true) (by kernel_rfl) (by kernel_rfl)
 obtain⟨l,rfl⟩:=qwg fun y hy=>Quk (hx y hy).1 (hx y hy).2
 exact⟨l,rfl,by simpa using hl⟩
theorem Qiq {x:D} (h:qgt [.int .i64,.str,.int .i64] x.cells) (hg:x.isAgg=true):∃b:qai,x=b.toD∧b.name.length≤maxLen:=by
 obtain⟨_,_,e1,⟨a0,rfl,_⟩,_,_,rfl,⟨a1,rfl,hb⟩,_,_,rfl,⟨a2,rfl,_⟩,rfl⟩:=h
 exact⟨⟨a0,a1,a2⟩,qmg hg e1,hb⟩
theorem Qos {x:D} (h:qgt [.int .i64,.int .i64,.int .i64,.str,.int .i64,.int .i64,.int .i64,.bool] x.cells) (hg:x.isAgg=true):∃b:qae,x=b.toD∧b.name.length≤maxLen:=by
 obtain⟨_,_,e1,⟨a0,rfl,_⟩,_,_,rfl,⟨a1,rfl,_⟩,_,_,rfl,⟨a2,rfl,_⟩,_,_,rfl,⟨a3,rfl,hb⟩,_,_,rfl,⟨a4,rfl,_⟩,_,_,rfl,⟨a5,rfl,_⟩,_,_,rfl,⟨a6,rfl,_⟩,_,_,rfl,⟨a7,rfl⟩,rfl⟩:=h
 exact⟨⟨a0,a1,a2,a3,a4,a5,a6,a7⟩,qmg hg e1,hb⟩
theorem Qoq {x:D} (h:qgt [.int .i64,.int .i64,.int .i64,.int .i64,.int .i64,.int .i64,.int .i64] x.cells) (hg:x.isAgg=true):∃b:qas,x=b.toD:=by
 obtain⟨_,_,e1,⟨a0,rfl,_⟩,_,_,rfl,⟨a1,rfl,_⟩,_,_,rfl,⟨a2,rfl,_⟩,_,_,rfl,⟨a3,rfl,_⟩,_,_,rfl,⟨a4,rfl,_⟩,_,_,rfl,⟨a5,rfl,_⟩,_,_,rfl,⟨a6,rfl,_⟩,rfl⟩:=h
 exact⟨⟨a0,a1,a2,a3,a4,a5,a6⟩,qmg hg e1⟩
theorem Qvh {x:D} (h:qgt [.int .i64,.int .i64,.int .i64,.int .i64,.int .i64,.int .i64,.int .i64] x.cells) (hg:x.isAgg=true):∃b:qbj,x=b.toD:=by
 obtain⟨_,_,e1,⟨a0,rfl,_⟩,_,_,rfl,⟨a1,rfl,_⟩,_,_,rfl,⟨a2,rfl,_⟩,_,_,rfl,⟨a3,rfl,_⟩,_,_,rfl,⟨a4,rfl,_⟩,_,_,rfl,⟨a5,rfl,_⟩,_,_,rfl,⟨a6,rfl,_⟩,rfl⟩:=h
 exact⟨⟨a0,a1,a2,a3,a4,a5,a6⟩,qmg hg e1⟩
theorem Qi3 {x:D} (h:qgt [.int .i64,.int .i64,.int .i64,.sl [.str] false] x.cells) (hg:x.isAgg=true):∃b:qam,x=b.toD∧∀y∈b.stack,y.length≤maxLen:=by
 obtain⟨_,_,e1,⟨a0,rfl,_⟩,_,_,rfl,⟨a1,rfl,_⟩,_,_,rfl,⟨a2,rfl,_⟩,_,_,rfl,⟨xs3,rfl,_,hx3⟩,rfl⟩:=h
 obtain⟨a3,rfl,hb⟩:=Qca hx3
 exact⟨⟨a0,a1,a2,a3⟩,qmg hg e1,hb⟩
theorem Qub {x:D} (h:qgt [.str,.int .i64,.int .i64] x.cells) (hg:x.isAgg=true):∃b:qa7,x=b.toD∧b.name.length≤maxLen:=by
 obtain⟨_,_,e1,⟨a0,rfl,hb⟩,_,_,rfl,⟨a1,rfl,_⟩,_,_,rfl,⟨a2,rfl,_⟩,rfl⟩:=h
 exact⟨⟨a0,a1,a2⟩,qmg hg e1,hb⟩
theorem Qq5 {x:D} (h:qgt [.int .i64,.int .i64,.int .i64,.int .i64,.int .i64,.sl [.str] false,.bool] x.cells) (hg:x.isAgg=true):∃b:qaw,x=b.toD∧∀y∈b.stack,y.length≤maxLen:=by
 obtain⟨_,_,e1,⟨a0,rfl,_⟩,_,_,rfl,⟨a1,rfl,_⟩,_,_,rfl,⟨a2,rfl,_⟩,_,_,rfl,⟨a3,rfl,_⟩,_,_,rfl,⟨a4,rfl,_⟩,_,_,rfl,⟨xs5,rfl,_,hx5⟩,_,_,rfl,⟨a6,rfl⟩,rfl⟩:=h
 obtain⟨a5,rfl,hb⟩:=Qca hx5
 exact⟨⟨a0,a1,a2,a3,a4,a5,a6⟩,qmg hg e1,hb⟩
theorem Qux {x:D} (h:qgt [.int .i64,.int .i64,.int .i64,.int .i64] x.cells) (hg:x.isAgg=true):∃b:qb5,x=b.toD:=by
 obtain⟨_,_,e1,⟨a0,rfl,_⟩,_,_,rfl,⟨a1,rfl,_⟩,_,_,rfl,⟨a2,rfl,_⟩,_,_,rfl,⟨a3,rfl,_⟩,rfl⟩:=h
 exact⟨⟨a0,a1,a2,a3⟩,qmg hg e1⟩
theorem Quh:qip prog 5 45=some [.int .i64,.int .i64,.sl [.int .i64,.str,.int .i64] true,.sl [.int .i64,.int .i64,.int .i64,.str,.int .i64,.int .i64,.int .i64,.bool] true,.sl [.int .i64,.int .i64,.int .i64,.int .i64,.int .i64,.int .i64,.int .i64] true,.sl [.int .i64,.int .i64,.int .i64,.int .i64,.int .i64,.int .i64,.int .i64] true,.sl [.int .i64,.int .i64,.int .i64,.sl [.str] false] true,.sl [.str,.int .i64,.int .i64] true,.sl [.int .i64,.int .i64,.int .i64,.int .i64,.int .i64,.sl [.str] false,.bool] true,.sl [.int .i64,.int .i64,.int .i64,.int .i64] true]:=by kernel_rfl
theorem q26 {x:D} (h:qxr prog 5 45 x):∃t:qat,x=t.toD∧Qyg t:=by
 obtain⟨h1,h2⟩:=Qo6 h Quh (g:=true) (by kernel_rfl)
 obtain⟨_,_,e1,⟨l0,rfl,_⟩,_,_,rfl,⟨l1,rfl,_⟩,_,_,rfl,⟨xs0,rfl,_,hx0⟩,_,_,rfl,⟨xs1,rfl,_,hx1⟩,_,_,rfl,⟨xs2,rfl,_,hx2⟩,_,_,rfl,⟨xs3,rfl,_,hx3⟩,_,_,rfl,⟨xs4,rfl,_,hx4⟩,_,_,rfl,⟨xs5,rfl,_,hx5⟩,_,_,rfl,⟨xs6,rfl,_,hx6⟩,_,_,rfl,⟨xs7,rfl,_,hx7⟩,rfl⟩:=h1
 obtain⟨m0,rfl,b0⟩:=qi0 fun y hy=>Qiq (hx0 y hy).1 (hx0 y hy).2
 obtain⟨m1,rfl,b1⟩:=qi0 fun y hy=>Qos (hx1 y hy).1 (hx1 y hy).2
 obtain⟨m2,rfl⟩:=qwg fun y hy=>Qoq (hx2 y hy).1 (hx2 y hy).2
 obtain⟨m3,rfl⟩:=qwg fun y hy=>Qvh (hx3 y hy).1 (hx3 y hy).2
 obtain⟨m4,rfl,b4⟩:=qi0 fun y hy=>Qi3 (hx4 y hy).1 (hx4 y hy).2
 obtain⟨m5,rfl,b5⟩:=qi0 fun y hy=>Qub (hx5 y hy).1 (hx5 y hy).2
 obtain⟨m6,rfl,b6⟩:=qi0 fun y hy=>Qq5 (hx6 y hy).1 (hx6 y hy).2
 obtain⟨m7,rfl⟩:=qwg fun y hy=>Qux (hx7 y hy).1 (hx7 y hy).2
 exact⟨⟨l0,l1,m0,m1,m2,m3,m4,m5,m6,m7⟩,qmg h2 e1,b0,b1,b4,b5,b6⟩
theorem Qky {t:qat} (h:Qyg t) (ht:t.lim) (hf:(frN t).length<1000000):Qtk t:=by
 obtain⟨b0,b1,b4,b5,b6⟩:=h
 obtain⟨h1,h2,h3,h4,h5,h6,h7,h8⟩:=ht
 have hM:∀{n:Nat},n≤maxLen→n<9223372036854775808:=fun h=>Nat.lt_succ_of_le h
 intro k hk
 match k,hk with
 | 0,_=>
  refine⟨by show(t.threads.map _).length<_;rw[List.length_map];omega,fun x hx=>?_⟩
  obtain⟨y,hy,rfl⟩:=List.mem_map.1 hx
  exact hM (b0 y hy)
 | 1,_=>
  refine⟨by show(t.slices.map _).length<_;rw[List.length_map];omega,fun x hx=>?_⟩
  obtain⟨y,hy,rfl⟩:=List.mem_map.1 hx
  exact hM (b1 y hy)
 | 2,_=>
  refine⟨hf,fun x hx=>?_⟩
  have hx:x∈frN t:=hx
  rw[frN,List.mem_append] at hx
  rcases hx with hx|hx
  ·obtain⟨s,hs,hxs⟩:=List.mem_flatten.1 hx
   obtain⟨y,hy,rfl⟩:=List.mem_map.1 hs
   exact hM (b4 y hy x hxs)
  ·obtain⟨s,hs,hxs⟩:=List.mem_flatten.1 hx
   obtain⟨y,hy,rfl⟩:=List.mem_map.1 hs
   exact hM (b6 y hy x hxs)
 | 3,_=>
  refine⟨by show(t.steps.map _).length<_;rw[List.length_map];omega,fun x hx=>?_⟩
  obtain⟨y,hy,rfl⟩:=List.mem_map.1 hx
  exact hM (b5 y hy)
end YtljpopkonkanlaaGreatDoor
end Go.Proofs

set_option maxRecDepth 100000
namespace Go.Proofs
open Go.AM Tryz
namespace YtljpopkonkanlaaGreatDoor
theorem q49 {α:Type} [Inhabited α] {lt:α→α→Bool} {x:α}:∀{l:List α},x∈qfd lt l↔x∈l:=fun {l}=>(qtm (R:=fun _ _=>True) (fun _ _ _ _ _=>trivial) (List.pairwise_of_forall fun _ _=>⟨fun _=>trivial,fun _=>trivial⟩)).2 x
theorem Qnj (p:qae→Bool) (L0:List qae):∀(L:List qae) (u:List qae×List Int),(∀x∈L,x∈L0)→(∀x∈u.1,∃y∈L0,x.thread=y.thread∧x.name=y.name∧x.lo=y.lo∧x.hi=y.hi)→∀x∈(L.foldl (qb9 p) u).1,∃y∈L0,x.thread=y.thread∧x.name=y.name∧x.lo=y.lo∧x.hi=y.hi
 | [],u,_,h=>h
 | s::L,u,hL,h=>by
  rw[List.foldl_cons]
  refine Qnj p L0 L _ (fun x hx=>hL x (List.mem_cons_of_mem _ hx)) ?_
  unfold qb9
  split
  ·intro x hx
   rcases List.mem_append.1 hx with hx|hx
   ·exact h x hx
   ·rw[List.mem_singleton] at hx
    exact⟨s,hL s List.mem_cons_self,by rw[hx],by rw[hx],by rw[hx],by rw[hx]⟩
  ·exact h
theorem Qau {p:qae→Bool} {L:List qae} {x:qae} (hx:x∈qc4 (chF p L).1):∃y∈L,x.thread=y.thread∧x.name=y.name∧x.lo=y.lo∧x.hi=y.hi:=by
 obtain⟨i,hi,rfl⟩:=List.getElem_of_mem hx
 have hi2:i<(chF p L).1.length:=by rwa [qcw] at hi
 have fc:=qsy (chF p L).1 i
 have e1:(qc4 (chF p L).1).getD i default=(qc4 (chF p L).1)[i]:=by simp[hi]
 rw[e1] at fc
 obtain⟨y,hy,h1,h2,h3,h4⟩:=Qnj p L L ([],[]) (fun x hx=>hx) (fun x hx=>by cases hx) _ (qbh hi2)
 exact⟨y,hy,fc.1.trans h1,fc.2.2.1.trans h2,fc.2.2.2.1.trans h3,fc.2.2.2.2.trans h4⟩
theorem Qqn {l:List qao} {t:qat} {x:qae} (hx:x∈qc4 (chF (qlr l t) t.slices).1):qcc l t.threads x.thread=false∧qbw l qa5 x.name=false:=by
 have:=Qmw (qlr l t) (fun a b h1 h2=>by unfold qlr;rw[h1,h2]) _ (Qa7 (qlr l t) (fun s x=>rfl) t.slices ([],[]) (fun x hx=>by cases hx)) x hx
 unfold qlr at this
 simp only[Bool.and_eq_true,Bool.not_eq_true'] at this
 exact this
theorem qgf {α:Type} (p:α→Bool) (L:List α):qjw p id L=L.filter p:=by rw[qjw,List.map_id]
theorem Qqg (f:qai→qai) (hf:∀x,(f x).id=x.id) (l:List qai) (n:Int):qd0 (l.map f) n=qd0 l n:=by
 unfold qd0
 rw[List.any_map]
 congr 1
 funext x
 show((f x).id==n)=_
 rw[hf]
theorem Qve {l:List qao} {ths:List qai} {n:Int} (h:qd0 ths n=true) (hg:qcc l ths n=false):qd0 (ths.filter fun x=>!qbw l qax x.name) n=true:=by
 unfold qd0 at h ⊢
 rw[List.any_eq_true] at h ⊢
 obtain⟨x,hx,he⟩:=h
 refine⟨x,List.mem_filter.2 ⟨hx,?_⟩,he⟩
 unfold qcc at hg
 rw[List.any_eq_false] at hg
 have:=hg x hx
 rw[he] at this
 simpa using this
theorem Qqh {l:List qao} {ths:List qai} (h:qbu ths=0):qcc l ths (-1)=false:=by
 unfold qcc
 rw[List.any_eq_false]
 intro x hx he
 have:=(qe2.1 h).2.1 x hx
 unfold qfp at this
 split at this
 ·cases this
 ·rename_i h2
  simp only[Bool.or_eq_true,decide_eq_true_eq,not_or] at h2
  simp only[Bool.and_eq_true,beq_iff_eq] at he
  omega
theorem qsh {l:List qao} {t:qat} (ht:t.lim) (hfr:(frN t).length<1000000) (what:List UInt8):(qd1 l what ((qgj l t).threads.map (·.name))).length<1000000∧(qd1 l what ((qgj l t).slices.map (·.name))).length<1000000∧(qd1 l what (frN (qgj l t))).length<1000000∧(qd1 l what ((qgj l t).steps.map (·.name))).length<1000000:=by
 obtain⟨h1,h2,_,_,_,h6,_,_⟩:=Qic (l:=l) ht
 have a1:=qtr l what ((qgj l t).threads.map (·.name))
 have a2:=qtr l what ((qgj l t).slices.map (·.name))
 have a3:=qtr l what (frN (qgj l t))
 have a4:=qtr l what ((qgj l t).steps.map (·.name))
 have a5:=Qt3 l t
 rw[List.length_map] at a1 a2 a4
 omega
theorem Qil {l:List qao} {t:qat} (hc:qi9 l=0) (htr:qc6 t=0) (hcl:qky l (qgj l t)=false) (ht:t.lim) (hfr:(frN t).length<1000000):qxq (q4o l (qgj l t)):=by
 have v:=qsi htr
 have kp:=qwh l t htr
 rw[←q2j l t htr (qi6 htr)] at kp
 have L1:=(qsh (l:=l) ht hfr qax).1
 have L2:=(qsh (l:=l) ht hfr qa5).2.1
 have L3:=(qsh (l:=l) ht hfr qa4).2.2.1
 have L4:=(qsh (l:=l) ht hfr qay).2.2.2
 unfold qky at hcl
 simp only[Bool.or_eq_false_iff] at hcl
 obtain⟨⟨⟨c1,c2⟩,c3⟩,c4⟩:=hcl
 have eth:(qgj l t).threads=t.threads.filter fun x=>!qbw l qax x.name:=qgf _ _
 have has:∀n,qd0 t.threads n=true→qcc l t.threads n=false→qd0 (q4o l (qgj l t)).threads n=true:=fun n h1 h2=>by
  refine(Qqg (nnT (qd1 l qax ((qgj l t).threads.map (·.name)))) (fun x=>rfl) (qgj l t).threads n).trans ?_
  rw[eth]
  exact Qve h1 h2
 obtain⟨W,hW⟩:∃W,W=qgj l t:=⟨_,rfl⟩
 have th':qbu (q4o l (qgj l t)).threads=0:=by
  refine q9g L1 ?_ v.th
  rw[eth];exact List.filter_sublist
 have outs:=v.out
 unfold qhl at outs
 simp only[Bool.or_eq_false_iff,List.any_eq_false] at outs
 obtain⟨⟨⟨⟨⟨o1,o2⟩,o3⟩,o4⟩,o5⟩,o6⟩:=outs
 have hn1:t.slices.length≤1000:=ht.2.1
 refine⟨th',?_,?_,?_,?_,?_,?_,?_,?_,?_,?_,?_,v.s0,v.s1,v.s2,?_⟩
 ·refine Qiz v.sl hn1 (qlr l t) (f:=nnS _) (fun x=>⟨rfl,rfl,rfl,rfl,rfl,rfl⟩) fun x hx=>?_
  obtain⟨y,hy,_,e2,_⟩:=Qau hx
  have:qda y.name=0:=by
   obtain⟨i,hi,rfl⟩:=List.getElem_of_mem hy
   have:=((qfs.1 v.sl).1 i hi).nm
   simpa[hi] using this
  rw[qe4] at this ⊢
  show qfo (qh7 _ x.name)=true
  rw[e2];exact qss L2 this
 ·intro x hx
  obtain⟨y,hy,rfl⟩:=List.mem_map.1 hx
  have hy:y∈qc4 (chF (qlr l t) t.slices).1:=hy
  obtain⟨z,hz,e1,_⟩:=Qau hy
  refine has _ ?_ (Qqn hy).1
  show qd0 t.threads y.thread=true
  rw[e1];exact v.slT z hz
 ·refine Qit (Qqh v.th) v.st ?_
  rw[q4a (qe2.1 th').2.2,q4a (qe2.1 v.th).2.2,List.filter_map]
  show((qgj l t).threads.map _).map _=_
  rw[List.map_map,eth]
  show(t.threads.filter _).map (fun x=>x.id)=_
  congr 1
  apply List.filter_congr
  intro x hx
  show(!qbw l qax x.name)=!qcc l t.threads x.id
  rw[qmw (q9h v.th) hx]
 ·refine Qqk ?_ v.fl
  show(qjw _ id t.flows).Sublist _
  rw[qgf];exact List.filter_sublist
 ·intro x hx
  have hx:x∈qjw _ id t.flows:=hx
  rw[qgf] at hx
  obtain⟨h1,h2⟩:=List.mem_filter.1 hx
  simp only[Bool.and_eq_true,Bool.not_eq_true'] at h2
  exact⟨has _ (v.flT x h1).1 h2.1,has _ (v.flT x h1).2 h2.2⟩
 ·show qdx ((qjw (fun x=>!qcc l t.threads x.thread) (frS l) t.samples).map (nnA (qd1 l qa4 (frN (qgj l t)))))=0
  obtain⟨H,hH⟩:∃H,H=qd1 l qa4 (frN (qgj l t)):=⟨_,rfl⟩
  rw[←hH] at L3 ⊢
  rw[qjw,List.map_map]
  refine Qf6 (f:=nnA H∘frS l) (fun x=>⟨rfl,rfl,rfl⟩) (fun x hx=>?_) List.filter_sublist v.sm
  show qbx ((frD l x.stack).map (qh7 H))=0
  exact q12 L3 List.filter_sublist hx
 ·intro x hx
  obtain⟨y,hy,rfl⟩:=List.mem_map.1 hx
  obtain⟨z,hz,rfl⟩:=List.mem_map.1 (show y∈(t.samples.filter _).map (frS l) from hy)
  obtain⟨h1,h2⟩:=List.mem_filter.1 hz
  have h3:qcc l t.threads z.thread=false:=by simpa using h2
  exact has z.thread (v.smT z h1) h3
 ·have es:(qgj l t).steps=t.steps.filter fun x=>!qbw l qay x.name:=qgf _ _
  show qhg (qfd ltT ((qgj l t).steps.map (nnC (qd1 l qay ((qgj l t).steps.map (·.name))))))=0
  have m:∀z∈t.steps,(!qbw l qay z.name)=true→z.name∈(qgj l t).steps.map (·.name):=fun z hz pz=>by
   refine List.mem_map.2 ⟨z,?_,rfl⟩
   rw[es];exact List.mem_filter.2 ⟨hz,pz⟩
  obtain⟨H,hH⟩:∃H,H=qd1 l qay ((qgj l t).steps.map (·.name)):=⟨_,rfl⟩
  have inj:=fun {x y:List UInt8} hx hy dx dy=>@Qun l hc qay ((qgj l t).steps.map (·.name)) c4 x y hx hy dx dy
  rw[←hH] at L4 inj ⊢
  rw[es]
  refine Qir (p:=fun n=>!qbw l qay n) L4 ?_ v.sp
  intro x hx y hy px py he
  exact(inj (m x hx px) (m y hy py) (by simpa using px) (by simpa using py)).1 he
 ·show bkF ((qjw (fun x=>!qcc l t.threads x.thread) (q13 l) t.blocks).map (nnB (qd1 l qa4 (frN (qgj l t)))))=0
  obtain⟨H,hH⟩:∃H,H=qd1 l qa4 (frN (qgj l t)):=⟨_,rfl⟩
  rw[←hH] at L3 ⊢
  rw[qjw,List.map_map]
  refine Qzb (f:=nnB H∘q13 l) (fun x=>⟨rfl,rfl,rfl,rfl,rfl⟩) (fun x hx=>?_) List.filter_sublist v.bk
  show qbx ((frD l x.stack).map (qh7 H))=0
  exact q12 L3 List.filter_sublist hx
 ·intro x hx
  obtain⟨y,hy,rfl⟩:=List.mem_map.1 hx
  obtain⟨z,hz,rfl⟩:=List.mem_map.1 (show y∈(t.blocks.filter _).map (q13 l) from hy)
  obtain⟨h1,h2⟩:=List.mem_filter.1 hz
  have h3:qcc l t.threads z.thread=false:=by simpa using h2
  exact has z.thread (v.bkT z h1) h3
 ·refine Qpi (fun x hx=>?_) v.lo
  have hx:x∈qjw _ id t.lost:=hx
  rw[qgf] at hx
  obtain⟨h1,h2⟩:=List.mem_filter.1 hx
  refine⟨h1,has _ ?_ (by simpa using h2)⟩
  have:=qwf.1 v.lo x h1
  unfold qd4 at this
  split at this
  ·cases this
  ·rename_i h3;simpa using h3
 ·unfold qhl
  simp only[Bool.or_eq_false_iff,List.any_eq_false]
  refine⟨⟨⟨⟨⟨fun x hx=>?_,fun x hx=>?_⟩,fun x hx=>?_⟩,fun x hx=>?_⟩,fun x hx=>?_⟩,fun x hx=>?_⟩
  ·obtain⟨y,hy,rfl⟩:=List.mem_map.1 hx
   obtain⟨z,hz,_,_,e3,e4⟩:=Qau (show y∈qc4 (chF (qlr l t) t.slices).1 from hy)
   have:=o1 z hz
   rw[←e3,←e4] at this
   exact this
  ·have hx:x∈qdk (qcc l t.threads) t.states:=hx
   have:=q48 (qcc l t.threads) t.lo t.hi t.states.reverse (fun y hy=>by
    have:=o2 y (List.mem_reverse.1 hy)
    unfold qds at this
    simpa using this) x (by rw[←qla,List.reverse_reverse];exact List.mem_reverse.2 hx)
   show ¬(!qds x.lo x.hi t.lo t.hi)=true
   unfold qds
   rw[decide_eq_true this.1,decide_eq_true this.2];decide
  ·obtain⟨y,hy,rfl⟩:=List.mem_map.1 hx
   obtain⟨z,hz,rfl⟩:=List.mem_map.1 (show y∈(t.blocks.filter _).map (q13 l) from hy)
   exact o3 z (List.mem_filter.1 hz).1
  ·have hx:x∈qjw _ id t.flows:=hx
   rw[qgf] at hx
   exact o4 x (List.mem_filter.1 hx).1
  ·obtain⟨y,hy,rfl⟩:=List.mem_map.1 hx
   obtain⟨z,hz,rfl⟩:=List.mem_map.1 (show y∈(t.samples.filter _).map (frS l) from hy)
   exact o5 z (List.mem_filter.1 hz).1
  ·have hx:x∈qfd ltT ((qgj l t).steps.map (nnC _)):=hx
   rw[q49] at hx
   obtain⟨y,hy,rfl⟩:=List.mem_map.1 hx
   have hy:y∈qjw _ id t.steps:=hy
   rw[qgf] at hy
   exact o6 y (List.mem_filter.1 hy).1
theorem Qmv {t:qat} (v:qxq t):qxq (q14 t):=by
 unfold q14
 split
 ·rename_i h
  unfold qpa at h
  have z:∀{α:Type} (l:List α),l.length=0→l=[]:=fun l h=>List.eq_nil_of_length_eq_zero h
  refine⟨v.th,v.sl,v.slT,v.st,v.fl,v.flT,v.sm,v.smT,v.sp,v.bk,v.bkT,v.lo,Int.le_refl _,Int.le_refl _,(show(0:Int)≤1000000000000 by decide),?_⟩
  unfold qhl
  show(t.slices.any _||t.states.any _||t.blocks.any _||t.flows.any _||t.samples.any _||t.steps.any _)=false
  rw[z t.slices (by omega),z t.states (by omega),z t.blocks (by omega),z t.flows (by omega),z t.samples (by omega),z t.steps (by omega)];rfl
 ·exact v
theorem Qio {l:List qao} {t:qat} (hc:qi9 l=0) (htr:qc6 t=0):qgk l (q14 (q4o l (qgj l t)))=true:=by
 have kp:=qwh l t htr
 rw[←q2j l t htr (qi6 htr)] at kp
 obtain⟨W,hW⟩:∃W,W=qgj l t:=⟨_,rfl⟩
 rw[←hW] at kp ⊢
 have ok:∀(what:List UInt8) (s:List (List UInt8)) (x:List UInt8),x∈s→qbw l what x=false→okN l what (qh7 (qd1 l what s) x)=true:=fun what s x hx hd=>by
  unfold okN
  rcases Qjb hc hx hd with h|h
  ·rw[h];rfl
  ·rw[h];simp
 have e:qgk l (q14 (q4o l W))=qgk l (q4o l W):=by unfold q14;split<;>rfl
 rw[e]
 unfold qgk
 simp only[Bool.and_eq_true,List.all_eq_true]
 refine⟨⟨⟨fun x hx=>?_,fun x hx=>?_⟩,fun x hx=>?_⟩,fun x hx=>?_⟩
 ·obtain⟨y,hy,rfl⟩:=List.mem_map.1 hx
  obtain⟨z,hz,rfl⟩:=List.mem_map.1 hy
  exact ok _ _ _ (List.mem_map.2 ⟨z,hz,rfl⟩) (kp.th z hz)
 ·obtain⟨y,hy,rfl⟩:=List.mem_map.1 hx
  obtain⟨z,hz,rfl⟩:=List.mem_map.1 hy
  exact ok _ _ _ (List.mem_map.2 ⟨z,hz,rfl⟩) (kp.sl z hz)
 ·rcases qi7.1 hx with⟨y,hy,hxy⟩|⟨y,hy,hxy⟩
  ·obtain⟨z,hz,rfl⟩:=List.mem_map.1 hy
   obtain⟨w,hw,rfl⟩:=List.mem_map.1 hxy
   have m:=qi7.2 (.inl ⟨z,hz,hw⟩)
   exact ok _ _ _ m (kp.fr w m)
  ·obtain⟨z,hz,rfl⟩:=List.mem_map.1 hy
   obtain⟨w,hw,rfl⟩:=List.mem_map.1 hxy
   have m:=qi7.2 (.inr ⟨z,hz,hw⟩)
   exact ok _ _ _ m (kp.fr w m)
 ·obtain⟨y,hy,rfl⟩:=List.mem_map.1 hx
  have hy:y∈qfd ltT (W.steps.map (nnC _)):=hy
  rw[q49] at hy
  obtain⟨z,hz,rfl⟩:=List.mem_map.1 hy
  exact ok _ _ _ (List.mem_map.2 ⟨z,hz,rfl⟩) (kp.sp z hz)
theorem Qko {s:List UInt8} (h:qfo s=true):s.length≤40:=by
 unfold qfo at h
 simp only[Bool.and_eq_true,decide_eq_true_eq] at h
 exact h.1.2
theorem Qif {t:qat} (v:qxq t) (ht:t.lim) (hfr:(frN t).length<1000000):Qtk t:=by
 obtain⟨h1,h2,_,_,_,h6,_,_⟩:=ht
 have key:∀x:List UInt8,qda x=0→x.length<9223372036854775808:=fun x hx=>by have:=Qko (qe4.1 hx);omega
 intro k hk
 match k,hk with
 | 0,_=>
  refine⟨by show(t.threads.map _).length<_;rw[List.length_map];omega,fun x hx=>?_⟩
  obtain⟨y,hy,rfl⟩:=List.mem_map.1 (show x∈t.threads.map (·.name) from hx)
  have:=(qe2.1 v.th).2.1 y hy
  unfold qfp at this
  split at this
  ·cases this
  ·exact key _ this
 | 1,_=>
  refine⟨by show(t.slices.map _).length<_;rw[List.length_map];omega,fun x hx=>?_⟩
  obtain⟨y,hy,rfl⟩:=List.mem_map.1 (show x∈t.slices.map (·.name) from hx)
  obtain⟨i,hi,rfl⟩:=List.getElem_of_mem hy
  have:=((qfs.1 v.sl).1 i hi).nm
  exact key _ (by simpa[hi] using this)
 | 2,_=>
  refine⟨hfr,fun x hx=>?_⟩
  rcases qi7.1 (show x∈frN t from hx) with⟨y,hy,hxy⟩|⟨y,hy,hxy⟩
  ·exact key _ (qe4.2 ((qg8.1 ((qmj.1 v.sm).1 y hy).2).2 x hxy))
  ·exact key _ (qe4.2 ((qg8.1 ((Qbd.1 v.bk).1 y hy).2).2 x hxy))
 | 3,_=>
  refine⟨by show(t.steps.map _).length<_;rw[List.length_map];omega,fun x hx=>?_⟩
  obtain⟨y,hy,rfl⟩:=List.mem_map.1 (show x∈t.steps.map (·.name) from hx)
  exact key _ ((qtj.1 v.sp).1 y hy).1
end YtljpopkonkanlaaGreatDoor
end Go.Proofs

set_option maxRecDepth 100000
namespace Go.Proofs
open Go.AM Tryz Go.ChangeShapes Go.WideShapes Go.ChangeAt Go.RowKit
namespace YtljpopkonkanlaaGreatDoor

theorem Qim {l:List qao} {t:qat} (h:(qhi l t).2=0):qi9 l=0∧qc6 t=0∧qky l (qgj l t)=false∧(qhi l t).1=q14 (q4o l (qgj l t)):=by
 rw[←Qin] at h ⊢
 unfold Qxl at h ⊢
 by_cases h0:qi9 l=0
 ·rw[if_neg (by rw[h0];simp)] at h ⊢
  by_cases h1:qc6 t=0
  ·rw[if_neg (by rw[h1];simp)] at h ⊢
   by_cases h2:qky l (qgj l t)=true
   ·rw[if_pos h2] at h;cases h
   ·rw[if_neg h2]
    exact⟨h0,h1,by simpa using h2,rfl⟩
  ·rw[if_pos h1] at h;exact absurd h h1
 ·rw[if_pos h0] at h;exact absurd h h0
theorem Qmx {t:qat} (h:t.lim) (hs:t.limS):t.Few:=by
 obtain⟨h1,h2,h3,h4,h5,h6,h7,h8⟩:=h
 exact⟨by omega,by omega,by omega,by omega,by omega,by omega,by omega,by omega,hs.1,hs.2⟩
theorem Qmp {t:qat} (v:qxq t) (h:t.lim):(frN t).length<1000000:=by
 have fS:∀l:List qam,(∀x∈l,x.stack.length≤32)→((l.map (·.stack)).flatten).length≤l.length*32:=by
  intro l
  induction l with
  | nil=>intro _;simp
  | cons x l ih=>
   intro h
   have h1:=ih fun y hy=>h y (List.mem_cons_of_mem _ hy)
   have h2:=h x List.mem_cons_self
   simp only[List.map_cons,List.flatten_cons,List.length_append,List.length_cons];omega
 have fB:∀l:List qaw,(∀x∈l,x.stack.length≤32)→((l.map (·.stack)).flatten).length≤l.length*32:=by
  intro l
  induction l with
  | nil=>intro _;simp
  | cons x l ih=>
   intro h
   have h1:=ih fun y hy=>h y (List.mem_cons_of_mem _ hy)
   have h2:=h x List.mem_cons_self
   simp only[List.map_cons,List.flatten_cons,List.length_append,List.length_cons];omega
 have q1:=fS t.samples fun x hx=>(qg8.1 ((qmj.1 v.sm).1 x hx).2).1
 have q2:=fB t.blocks fun x hx=>(qg8.1 ((Qbd.1 v.bk).1 x hx).2).1
 obtain⟨h1,h2,h3,h4,h5,h6,h7,h8⟩:=h
 rw[frN,List.length_append];omega
theorem Qb8 {l:List qao} {t:qat} (h:(qhi l t).2=0) (ht:t.lim) (hs:t.limS) (hfr:(frN t).length<1000000):qxq (qhi l t).1∧qgk l (qhi l t).1=true∧(qhi l t).1.Few∧Qtk (qhi l t).1:=by
 obtain⟨h0,h1,h2,h3⟩:=Qim h
 obtain⟨q1,q2⟩:=q9e (l:=l) ⟨ht,hs⟩
 have v:qxq (qhi l t).1:=by rw[h3];exact Qmv (Qil h0 h1 h2 ht hfr)
 exact⟨v,by rw[h3];exact Qio h0 h1,Qmx q1 q2,Qif v q1 (Qmp v q1)⟩
theorem Qlr (l:List qao) (t:qat) (hl:l.length≤maxLen) (hm:Qyg t):qbc prog G2 7 [.d (.sl (l.map qao.toD)),.d t.toD] (.d (.bool true)):=by
 refine qbc.of2 ?_
 refine qac func7 rfl rfl (by simp[ntmps7]) (qab rfl _ _ _ _ ?_)
 simp only[ntmps7,results7,qak,List.length_nil]
 simp only[zU,seval]
 refine qaf (Qu5 l t hl) ?_
 simp only[zU,seval]
 refine ifC.mk (fun h0=>?_) (fun h0=>?_)
 ·refine qaf qi4 ?_
  simp only[zU,seval]
  exact⟨_,_,qaq,rfl,rfl⟩
 have h0:l.length≤50∧Qhx t=true:=by
  simp only[Bool.not_eq_false',Bool.and_eq_true,decide_eq_true_eq] at h0
  exact h0
 obtain⟨h0,hfew⟩:=h0
 obtain⟨ht,hs,hfr⟩:=q37 hfew
 have hf:=qw3 hfew
 have hA:=Qky hm ht (by omega)
 (try simp only[zU,seval])
 refine qaf (qwn l t (by omega) hf ht hs qi6 (fun _=>by omega)) ?_
 have hgood:=fun h=>Qb8 (l:=l) h ht hs (by omega)
 obtain⟨q1,q2⟩:=q9e (l:=l) ⟨ht,hs⟩
 obtain⟨R,hR⟩:∃R,R=qhi l t:=⟨_,rfl⟩
 rw[←hR] at q1 q2 hgood ⊢
 simp only[zU,seval]
 repeat((with_reducible apply aI);exact sdp)
 refine qaf (q3x l t (by omega) ht hs (q3d hA)) ?_
 simp only[zU,seval]
 refine qaf (Qp6 l t (by omega) ht hs hA) ?_
 simp only[zU,seval,beq_self_eq_true]
 repeat((with_reducible apply aI);exact sdp)
 refine qav (fun _=>qrq R.1 (Qmx q1 q2)) ?_
 simp only[zU,seval]
 repeat((with_reducible apply aI);exact sdp)
 have hlim:∀g:Bool,(!(R.2 !=0)&&g)=true→Qzw R.1:=fun g hg=>by
  have:R.2=0:=by simp at hg;exact hg.1
  exact q3d (hgood this).2.2.2
 refine qav (fun hg=>q3x l R.1 (by omega) q1 q2 (hlim _ hg)) ?_
 simp only[zU,seval]
 repeat((with_reducible apply aI);exact sdp)
 refine qav (fun _=>qi4) ?_
 simp only[zU,seval]
 repeat((with_reducible apply aI);exact sdp)
 have hfin:(R.2 !=0||qc6 R.1==0&&qgk l R.1)=true:=by
  by_cases he:R.2=0
  ·obtain⟨v,c,_⟩:=hgood he
   rw[he,Qee v,c];rfl
  ·simp[he]
 rw[hfin]
 exact⟨_,_,qaq,rfl,rfl⟩
theorem Qa6 (xs:List D) (h:qll prog 5 Tryz.f7.params.toList xs):qal prog G2 7 (xs.map AV.d) [] (fun r _=>r=.d (.bool true)):=by
 rw[params7] at h
 obtain⟨x,_,rfl,h1,y,_,rfl,h2,rfl⟩:=h
 obtain⟨l,rfl,l1⟩:=q27 h1
 obtain⟨t,rfl,m⟩:=q26 h2
 exact(Qlr l t l1 m []).mono fun r s h=>h.1

theorem Qt8 {l:List qao} {t:qat} (h:(qhi l t).2≠0):(qhi l t).1=qjt:=by
 unfold qhi at h ⊢
 split
 ·rfl
 split
 ·rfl
 split
 ·rfl
 ·rename_i h1 h2 h3
  rw[if_neg h1,if_neg h2,if_neg h3] at h
  exact absurd rfl h
theorem qdz {α:Type} [Inhabited α] (f:α→D) {L:List α} {k:Nat} (h:k<L.length):(L.map f).getD k default=f (L.getD k default):=by simp[h]
theorem Qmh {α:Type} [Inhabited α] (f:α→D) (L:List α) (k n:Nat) (hf:∀x,(f x).cells.length=n):decide ((k:Int)<(L.length:Int))=true→(k:Int)<(L.length:Int)∧((L.map f).getD k default).cells.length=n:=fun h=>by
 have h:=of_decide_eq_true h
 exact⟨h,by rw[qdz f (by omega)];exact hf _⟩
theorem Qmm {α:Type} [Inhabited α] (f:α→D) (L:List α) (k:Nat) (hf:∀x,(f x).isAgg=true):decide ((k:Int)<(L.length:Int))=true→k<L.length∧((L.map f).getD k default).isAgg=true:=fun h=>by
 have h:=of_decide_eq_true h
 exact⟨by omega,by rw[qdz f (by omega)];exact hf _⟩
theorem Qxm {ths:List qai} {l:List qas} (hd:qbu ths=0) (h:qei ths l=0) {s:qas} (hs:s∈l):qd0 ths s.thread=true:=by
 obtain⟨k,hk,rfl⟩:=List.getElem_of_mem hs
 have:=qca (qoh h).1 k hk
 have e:l.getD k default=l[k]:=by simp[hk]
 unfold uAt at this
 rw[e] at this
 split at this
 ·cases this
 ·rename_i h1
  obtain⟨j,hj⟩:∃j:Nat,qez (qc5 ths) l[k].thread=j:=⟨(qez (qc5 ths) l[k].thread).toNat,by omega⟩
  have h2:=qoo hj
  have hlt:qez (qc5 ths) l[k].thread<(qc5 ths).length:=qmv _ _
  have hm:(qc5 ths).getD j default∈qc5 ths:=qbh (by omega)
  have e2:l[k].thread=(qc5 ths).getD j default:=by simpa using h2
  rw[←e2,q4a (qe2.1 hd).2.2] at hm
  obtain⟨x,hx,he⟩:=List.mem_map.1 hm
  unfold qd0;rw[List.any_eq_true]
  exact⟨x,hx,by rw[he];simp⟩
theorem Qpj {has:Int→Bool} {l:List qb5} (h:qsb has l=0) {x:qb5} (hx:x∈l):has x.thread=true:=by
 have:=qwf.1 h x hx
 unfold qd4 at this
 split at this
 ·cases this
 ·rename_i h3;simpa using h3
def qjp (l:List qao) (x:qai):Bool:=!qbw l qax x.name
def Qa4 (l:List qao) (ths:List qai) (k:Nat):Nat:=((ths.take k).filter (qjp l)).length
theorem Qy6 {l:List qao} {ths:List qai} {k:Nat} (h:k<ths.length) (hk:qjp l (ths.getD k default)=true):Qa4 l ths (k+1)=Qa4 l ths k+1∧Qa4 l ths k<(ths.filter (qjp l)).length∧(ths.filter (qjp l)).getD (Qa4 l ths k) default=ths.getD k default:=by
 have e1:(ths.take (k+1)).filter (qjp l)=(ths.take k).filter (qjp l)++[ths.getD k default]:=by
  rw[qa0 ths k h,List.filter_append,List.filter_cons_of_pos hk];rfl
 have e2:ths.filter (qjp l)=(ths.take k).filter (qjp l)++ths.getD k default::(ths.drop (k+1)).filter (qjp l):=by
  have:=congrArg (List.filter (qjp l)) (List.take_append_drop (k+1) ths)
  rw[List.filter_append,e1,List.append_assoc] at this
  exact this.symm
 refine⟨?_,?_,?_⟩
 ·unfold Qa4;rw[e1,List.length_append];rfl
 ·rw[e2,List.length_append,List.length_cons];unfold Qa4;omega
 ·rw[e2];unfold Qa4;simp
theorem Qy7 {l:List qao} {ths:List qai} {k:Nat} (h:k<ths.length) (hk:qjp l (ths.getD k default)=false):Qa4 l ths (k+1)=Qa4 l ths k:=by
 unfold Qa4
 rw[qa0 ths k h,List.filter_append,List.filter_cons_of_neg (by rw[hk];simp)];simp
theorem q9d {l:List qao} {t:qat} (h:(qhi l t).2=0):(qhi l t).1.threads=(t.threads.filter (qjp l)).map (nnT (qd1 l qax ((qgj l t).threads.map (·.name)))):=by
 rw[(Qim h).2.2.2]
 have e:(q14 (q4o l (qgj l t))).threads=(q4o l (qgj l t)).threads:=by unfold q14;split<;>rfl
 rw[e]
 show(qgj l t).threads.map _=_
 rw[show(qgj l t).threads=t.threads.filter (qjp l) from qgf _ _]
theorem Qp2 (l:List qao) (t:qat) (hl:l.length≤maxLen) (hm:Qyg t):qbc prog G2 9 [.d (.sl (l.map qao.toD)),.d t.toD] (.d (.bool true)):=by
 refine qbc.of2 ?_
 refine qac func9 rfl rfl (by simp[ntmps9]) (qab rfl _ _ _ _ ?_)
 simp only[ntmps9,results9,qak,List.length_nil]
 simp only[zU,seval]
 refine qaf (Qu5 l t hl) ?_
 simp only[zU,seval]
 refine ifC.mk (fun h0=>?_) (fun h0=>?_)
 ·refine qaf qi4 ?_
  simp only[zU,seval]
  exact⟨_,_,qaq,rfl,rfl⟩
 have h0:l.length≤50∧Qhx t=true:=by
  simp only[Bool.not_eq_false',Bool.and_eq_true,decide_eq_true_eq] at h0
  exact h0
 obtain⟨h0,hfew⟩:=h0
 obtain⟨ht,hs,hfr⟩:=q37 hfew
 have hf:=qw3 hfew
 (try simp only[zU,seval])
 refine qaf (qwn l t (by omega) hf ht hs qi6 (fun _=>by omega)) ?_
 have hgood:=fun h=>Qb8 (l:=l) h ht hs (by omega)
 have hth:=@q9d l t
 have hbad:=@Qt8 l t
 obtain⟨q1,q2⟩:=q9e (l:=l) ⟨ht,hs⟩
 obtain⟨R,hR⟩:∃R,R=qhi l t:=⟨_,rfl⟩
 rw[←hR] at q1 q2 hgood hth hbad ⊢
 have hRf:=Qmx q1 q2
 simp only[zU,seval]
 refine ifC.mk (fun he=>?_) (fun he=>?_)
 ·have he:R.2≠0:=by simpa using he
  rw[hbad he] at q1 ⊢
  repeat((with_reducible apply aI);exact sdp)
  refine qav (fun _=>Qen qjt q1) ?_
  simp only[zU,seval]
  repeat((with_reducible apply aI);exact sdp)
  refine qav (fun _=>qi4) ?_
  simp only[zU,seval]
  repeat((with_reducible apply aI);exact sdp)
  exact⟨_,_,qaq,rfl,rfl⟩
 have he:R.2=0:=by simpa using he
 obtain⟨v,_,_,_⟩:=hgood he
 have hth:=hth he
 obtain⟨F,hF⟩:∃F,F=t.threads.filter (qjp l):=⟨_,rfl⟩
 obtain⟨H,hH⟩:∃H,H=qd1 l qax ((qgj l t).threads.map (·.name)):=⟨_,rfl⟩
 rw[←hF,←hH] at hth
 have hFl:R.1.threads.length=F.length:=by rw[hth,List.length_map]
 have htl:t.threads.length≤1000:=ht.1
 (try simp only[zU,seval])
 refine qap t.threads.length (fun k=>[(0,.d (.sl (l.map qao.toD))),(3,.ptr 0 0),(5,.ptr 1 0),(7,.d (.int .i64 (Qa4 l t.threads k))),(8,.d (.int .i64 k))]) (fun _=>[.box 10 (.d t.toD),.box 10 (.d R.1.toD)]) (fun _=>True) trivial ?_ ?_
 ·refine qaa [] [0,1] rfl (by simp) ?_ rfl
  simp only[zU,seval]
  all_goals rfl
 ·intro k _ hk
  by_cases h:k<t.threads.length
  ·simp only[zU,seval,(show(k:Int)<t.threads.length by omega),h,qaj _ _ _ (show k<t.threads.length by omega)]
   repeat((with_reducible apply aI);exact sdp)
   refine qaf (qgq l _ _ (by omega)) ?_
   simp only[zU,seval]
   refine ifC.mk (fun hd=>?_) (fun hd=>?_)
   ·have hd:qjp l (t.threads.getD k default)=false:=by unfold qjp qbw;rw[show(qk2 qax (t.threads.getD k default).name l==qmk)=true from hd];rfl
    refine qaa [] [0,1] rfl (by simp) ?_ rfl
    simp only[zU,seval,@qag ((k:Int)+1) (by omega),Qy7 h hd]
    all_goals rfl
   have hd:qjp l (t.threads.getD k default)=true:=by
    unfold qjp qbw
    rw[show(qk2 qax (t.threads.getD k default).name l==qmk)=false from hd];rfl
   obtain⟨c1,c2,c3⟩:=Qy6 h hd
   rw[←hF] at c2 c3
   obtain⟨c,hc⟩:∃c,c=Qa4 l t.threads k:=⟨_,rfl⟩
   have hcR:c<R.1.threads.length:=by omega
   have hcg:R.1.threads.getD c default=nnT H (t.threads.getD k default):=by
    rw[hth,List.getD_eq_getElem?_getD,List.getElem?_map,←c3,←hc,List.getElem?_eq_getElem (by omega)];simp[show c<F.length by omega]
   have hc1000:c≤1000:=by rw[hc];unfold Qa4;exact Nat.le_trans (List.length_filter_le _ _) (Nat.le_trans (List.length_take_le _ _) (by omega))
   rw[←hc]
   repeat((with_reducible apply aI);exact sdp)
   have n1:(nnT H (t.threads.getD k default)).id=(t.threads.getD k default).id:=rfl
   have n2:(nnT H (t.threads.getD k default)).dom=(t.threads.getD k default).dom:=rfl
   simp only[zU,seval,(show ¬(R.1.threads.length:Int)≤c by omega),(show(c:Int)<R.1.threads.length by omega),hcR,qaj _ _ _ (show c<R.1.threads.length by omega),hcg,n1,n2,(show(k:Int)<t.threads.length by omega),h,qaj _ _ _ (show k<t.threads.length by omega),bne_self_eq_false]
   repeat((with_reducible apply aI);exact sdp)
   refine qaa [] [0,1] rfl (by simp) ?_ rfl
   simp only[zU,seval,@qag ((k:Int)+1) (by omega),show IntKind.i64.wrap ((c:Int)+1)=(c:Int)+1 from qbd (by omega) (by omega),c1,←hc]
   all_goals rfl
  ·have:k=t.threads.length:=by omega
   subst this
   simp only[zU,seval,(show ¬(t.threads.length:Int)<t.threads.length by omega)]
   have ec:Qa4 l t.threads t.threads.length=F.length:=by unfold Qa4;rw[List.take_length,hF]
   rw[ec]
   refine qap 30 (fun k=>[(5,.ptr 1 0),(7,.d (.int .i64 F.length)),(9,.d (.int .i64 k))]) (fun _=>[.box 10 (.d t.toD),.box 10 (.d R.1.toD)]) (fun _=>True) trivial ?_ ?_
   ·refine qaa [] [0,1] rfl (by simp) ?_ rfl
    simp only[zU,seval]
    all_goals rfl
   ·intro k _ hk
    by_cases h:k<30
    ·simp only[zU,seval,(show(k:Int)<30 by omega)]
     repeat((with_reducible apply aI);exact sdp)
     refine⟨Qmh qae.toD R.1.slices k 8 fun x=>rfl,Qmm qae.toD R.1.slices k fun x=>rfl,qav (v:=.d (.bool true)) (fun hg=>?_) ?_⟩
     ·have hk2:k<R.1.slices.length:=by have:=of_decide_eq_true hg;omega
      have:=qkr (Gl:=G2) R.1 hRf (R.1.slices.getD k default).thread
      rw[v.slT _ (qbh hk2)] at this
      rw[qdz qae.toD hk2]
      exact this
     simp only[zU,seval]
     repeat((with_reducible apply aI);exact sdp)
     refine⟨Qmh qas.toD R.1.states k 7 fun x=>rfl,Qmm qas.toD R.1.states k fun x=>rfl,qav (v:=.d (.bool true)) (fun hg=>?_) ?_⟩
     ·have hk2:k<R.1.states.length:=by have:=of_decide_eq_true hg;omega
      have:=qkr (Gl:=G2) R.1 hRf (R.1.states.getD k default).thread
      rw[Qxm v.th v.st (qbh hk2)] at this
      rw[qdz qas.toD hk2]
      exact this
     simp only[zU,seval]
     repeat((with_reducible apply aI);exact sdp)
     refine⟨Qmh qam.toD R.1.samples k 4 fun x=>rfl,Qmm qam.toD R.1.samples k fun x=>rfl,qav (v:=.d (.bool true)) (fun hg=>?_) ?_⟩
     ·have hk2:k<R.1.samples.length:=by have:=of_decide_eq_true hg;omega
      have:=qkr (Gl:=G2) R.1 hRf (R.1.samples.getD k default).thread
      rw[v.smT _ (qbh hk2)] at this
      rw[qdz qam.toD hk2]
      exact this
     simp only[zU,seval]
     repeat((with_reducible apply aI);exact sdp)
     refine⟨Qmh qaw.toD R.1.blocks k 7 fun x=>rfl,Qmm qaw.toD R.1.blocks k fun x=>rfl,qav (v:=.d (.bool true)) (fun hg=>?_) ?_⟩
     ·have hk2:k<R.1.blocks.length:=by have:=of_decide_eq_true hg;omega
      have:=qkr (Gl:=G2) R.1 hRf (R.1.blocks.getD k default).thread
      rw[v.bkT _ (qbh hk2)] at this
      rw[qdz qaw.toD hk2]
      exact this
     simp only[zU,seval]
     repeat((with_reducible apply aI);exact sdp)
     refine⟨Qmh qb5.toD R.1.lost k 4 fun x=>rfl,Qmm qb5.toD R.1.lost k fun x=>rfl,qav (v:=.d (.bool true)) (fun hg=>?_) ?_⟩
     ·have hk2:k<R.1.lost.length:=by have:=of_decide_eq_true hg;omega
      have:=qkr (Gl:=G2) R.1 hRf (R.1.lost.getD k default).thread
      rw[Qpj v.lo (qbh hk2)] at this
      rw[qdz qb5.toD hk2]
      exact this
     simp only[zU,seval]
     repeat((with_reducible apply aI);exact sdp)
     refine qaa [] [0,1] rfl (by simp) ?_ rfl
     simp only[zU,seval,@qag ((k:Int)+1) (by omega)]
     all_goals rfl
    ·simp only[zU,seval,(show ¬(k:Int)<30 by omega)]
     have:k=30:=by omega
     subst this
     have eFR:F.length=R.1.threads.length:=by omega
     simp only[zU,seval,eFR,beq_self_eq_true]
     refine qav (fun _=>qi4) ?_
     simp only[zU,seval]
     repeat((with_reducible apply aI);exact sdp)
     exact⟨_,_,qaq,rfl,rfl⟩
theorem Qhg (xs:List D) (h:qll prog 5 Tryz.f9.params.toList xs):qal prog G2 9 (xs.map AV.d) [] (fun r _=>r=.d (.bool true)):=by
 rw[params9] at h
 obtain⟨x,_,rfl,h1,y,_,rfl,h2,rfl⟩:=h
 obtain⟨l,rfl,l1⟩:=q27 h1
 obtain⟨t,rfl,m⟩:=q26 h2
 exact(Qp2 l t l1 m []).mono fun r s h=>h.1
end YtljpopkonkanlaaGreatDoor
end Go.Proofs

set_option maxRecDepth 100000
namespace Go.Proofs
open Go.AM Tryz
namespace YtljpopkonkanlaaGreatDoor
def qsu (l:List qao):Prop:=∀what x,qbw l what x=false
theorem Qq1 {p:qae→Bool} (hp:∀s,p s=true) {l:List qae} (hg:qd7 l):chF p l=(l,(List.range l.length).map Int.ofNat):=by
 obtain⟨n,hn⟩:∃n,n=l.length:=⟨_,rfl⟩
 induction n generalizing l with
 | zero=>
  have:l=[]:=List.eq_nil_of_length_eq_zero hn.symm
  subst this;rfl
 | succ n ih=>
  rcases List.eq_nil_or_concat l with rfl|⟨v,s,rfl⟩
  ·simp at hn
  rw[List.concat_eq_append] at hn hg ⊢
  have hv:n=v.length:=by rw[List.length_append] at hn;simp at hn;exact hn
  have hgv:qd7 v:=by
   have:=qgw hg v.length
   rwa [List.take_left' rfl] at this
  have hs:=hg v.length (by simp)
  rw[qd8] at hs
  rw[qkz,ih hgv hv]
  unfold qb9
  rw[if_pos (hp s)]
  have e:qjr ((List.range v.length).map Int.ofNat) s=s.parent:=by
   unfold qjr
   by_cases h0:0≤s.parent
   ·rw[if_pos h0]
    have hlt:s.parent.toNat<v.length:=by omega
    simp[hlt];omega
   ·rw[if_neg h0];omega
  rw[e,List.length_append,List.length_singleton,List.range_succ,List.map_append];rfl
theorem Qzs {a b:qae} (h1:a.thread=b.thread) (h2:a.parent=b.parent) (h3:a.depth=b.depth) (h4:a.name=b.name) (h5:a.lo=b.lo) (h6:a.hi=b.hi) (h7:a.self=b.self) (h8:a.open_=b.open_):a=b:=by
 cases a;cases b
 simp only at h1 h2 h3 h4 h5 h6 h7 h8
 rw[h1,h2,h3,h4,h5,h6,h7,h8]
theorem Qqm {L:List qae} (hv:qej L=0) (hn:L.length≤1000):qc4 L=L:=by
 obtain⟨h1,h2,h3⟩:=qfs.1 hv
 have hg:qd7 L:=fun i hi=>by
  obtain⟨s1,s2,s3⟩:=(h1 i hi).sp
  exact⟨⟨s1,by omega,by omega⟩,qey (List.all_eq_true.1 h2 i (List.mem_range.2 hi))⟩
 obtain⟨d1,d2⟩:=q8p hg
 have hok:=q29 hg
 have hfl:=qcw L
 have dep:∀n q,q<n→q<L.length→((qc4 L).getD q default).depth=(L.getD q default).depth:=by
  intro n
  induction n with
  | zero=>intro q h;omega
  | succ n ih=>
   intro q hqn hq
   rw[d1 q hq]
   have hp:=(hg q hq).2
   have ha:=List.all_eq_true.1 h2 q (List.mem_range.2 hq)
   unfold qek at ha
   simp only at ha
   rw[if_neg (by simp only[Bool.or_eq_true,decide_eq_true_eq];omega)] at ha
   by_cases h0:0≤(L.getD q default).parent
   ·rw[if_pos h0]
    rw[if_neg (by omega)] at ha
    simp only[Bool.not_eq_true',Bool.or_eq_false_iff,bne_eq_false_iff_eq,decide_eq_false_iff_not] at ha
    have e:=ih (L.getD q default).parent.toNat (by omega) (by omega)
    have hb:=hok (L.getD q default).parent.toNat (by omega)
    rw[ha.2,←e,qbd (by omega) (by omega)]
   ·rw[if_neg h0]
    rw[if_pos (by omega),beq_iff_eq] at ha
    exact ha.symm
 apply List.ext_getElem hfl
 intro q g1 g2
 have e1:(qc4 L).getD q default=(qc4 L)[q]:=by simp[g1]
 have e2:L.getD q default=L[q]:=by simp[g2]
 obtain⟨p1,p2,p3,p4,p5,p6⟩:=qor (o:=L) q g2
 have p7:=dep (q+1) q (by omega) g2
 have p8:=d2 q g2
 have ha:=List.all_eq_true.1 h3 q (List.mem_range.2 g2)
 unfold qf0 at ha
 rw[Bool.and_eq_true,beq_iff_eq] at ha
 have hb:=hok q (by omega)
 have p9:(L.getD q default).self=((qc4 L).getD q default).self:=by
  rw[ha.2,qlb,←p8,qbd (by omega) (by omega)]
 rw[e1,e2] at p1 p2 p3 p4 p5 p6 p7 p9
 exact Qzs p1 p2 p7 p3 p4 p5 p9.symm p6
theorem Qn3 (x:qas):qf7 (fun _=>false) x=x:=by unfold qf7;simp
theorem Quc {ths:List qai} {L:List qas} (h:qei ths L=0):qdk (fun _=>false) L=L:=by
 by_cases hl:L=[]
 ·subst hl;rfl
 obtain⟨x,r,hr,h1,_⟩:=Qfg h hl
 have key:∀r:List qas,gd (qc5 ths) x.hi r→qyr (fun _=>false) r=r:=by
  intro r
  induction r with
  | nil=>intro _;rfl
  | cons y o ih=>
   intro hg
   show stR _ y (qyr _ o)=_
   rw[ih (Qmg hg)]
   cases o with
   | nil=>rw[Qiu rfl,Qn3]
   | cons z o=>
    rw[Qor rfl,Qn3]
    rw[Qn3]
    intro hlk
    unfold qi1 at hlk
    simp only[Bool.and_eq_true,beq_iff_eq] at hlk
    obtain⟨⟨⟨l1,l2⟩,l3⟩,l4⟩:=hlk
    rcases hg.2.1 with⟨_,_,c⟩|⟨a,_⟩
    ·unfold q2t at c
     rw[l2,l3,l4] at c
     simp at c
    ·rw[l1] at a;omega
 have:=qla (fun _=>false) (x::r)
 rw[key _ h1,←hr,List.reverse_reverse] at this
 rw[←List.reverse_reverse (qdk (fun _=>false) L),this,List.reverse_reverse]
theorem qew {α:Type} {f:α→α} (h:∀x,f x=x) (l:List α):l.map f=l:=by
 have:f=id:=funext h
 rw[this,List.map_id]
theorem qfv {α:Type} {p:α→Bool} (h:∀x,p x=true) (l:List α):l.filter p=l:=List.filter_eq_self.2 fun x _=>h x
theorem Qb2 {l:List qao} (hn:qsu l) {t:qat} (v:qxq t) (hl:t.slices.length≤1000):qgj l t=t:=by
 have hg:∀m,qcc l t.threads m=false:=fun m=>by
  unfold qcc
  rw[List.any_eq_false]
  intro x _
  rw[hn];simp
 have hgf:qcc l t.threads=fun _=>false:=funext hg
 have g:qd7 t.slices:=qi6 (Qee v)
 have fr:∀s,frD l s=s:=fun s=>qfv (fun x=>by rw[hn];rfl) s
 have e1:qjw (fun x:qai=>!qbw l qax x.name) id t.threads=t.threads:=by rw[qgf];exact qfv (fun x=>by rw[hn];rfl) _
 have e2:qc4 (chF (qlr l t) t.slices).1=t.slices:=by
  rw[Qq1 (fun s=>by unfold qlr;rw[hg,hn];rfl) g]
  exact Qqm v.sl hl
 have e3:qdk (qcc l t.threads) t.states=t.states:=by rw[hgf];exact Quc v.st
 have e4:qjw (fun x:qbj=>!qcc l t.threads x.ft&&!qcc l t.threads x.tt) id t.flows=t.flows:=by rw[qgf];exact qfv (fun x=>by rw[hg,hg];rfl) _
 have e5:qjw (fun x:qam=>!qcc l t.threads x.thread) (frS l) t.samples=t.samples:=by
  rw[qjw,qfv (fun x=>by rw[hg];rfl)]
  exact qew (fun x=>by unfold frS;rw[fr]) _
 have e6:qjw (fun x:qa7=>!qbw l qay x.name) id t.steps=t.steps:=by rw[qgf];exact qfv (fun x=>by rw[hn];rfl) _
 have e7:qjw (fun x:qaw=>!qcc l t.threads x.thread) (q13 l) t.blocks=t.blocks:=by
  rw[qjw,qfv (fun x=>by rw[hg];rfl)]
  exact qew (fun x=>by unfold q13;rw[fr]) _
 have e8:qjw (fun x:qb5=>!qcc l t.threads x.thread) id t.lost=t.lost:=by rw[qgf];exact qfv (fun x=>by rw[hg];rfl) _
 unfold qgj
 rw[e1,e2,e3,e4,e5,e6,e7,e8]
theorem Qn7 {what x:List UInt8}:∀{l:List qao},qk2 what x l=qgn∨∃r∈l,qk2 what x l=r.action
 | []=>.inl rfl
 | r::l=>by
  unfold qk2
  split
  ·exact .inr ⟨r,List.mem_cons_self,rfl⟩
  ·rcases Qn7 (what:=what) (x:=x) (l:=l) with h|⟨q,hq,h⟩
   ·exact .inl h
   ·exact .inr ⟨q,List.mem_cons_of_mem _ hq,h⟩
theorem Qpn {l:List qao} (h:∀r∈l,(r.action==qmk)=false):qsu l:=fun what x=>by
 unfold qbw
 rcases Qn7 (what:=what) (x:=x) (l:=l) with h1|⟨r,hr,h1⟩
 ·rw[h1];rfl
 ·rw[h1];exact h r hr
theorem qjx (what:List UInt8):∀s:List (List UInt8),qd1 [] what s=[]:=by
 have key:∀s out:List (List UInt8),s.foldl (qgg [] what) out=out:=by
  intro s
  induction s with
  | nil=>intro out;rfl
  | cons x s ih=>intro out;exact ih out
 exact fun s=>key s []
theorem q2w (x:List UInt8):qh7 [] x=x:=rfl
theorem Qiw {α:Type} [Inhabited α] {lt:α→α→Bool} {l:List α} (h:l.Pairwise (fun a b=>lt b a=false)):qfd lt l=l:=by
 obtain⟨n,hn⟩:∃n,n=l.length:=⟨_,rfl⟩
 induction n generalizing l with
 | zero=>
  have:l=[]:=List.eq_nil_of_length_eq_zero hn.symm
  subst this;rfl
 | succ n ih=>
  rcases List.eq_nil_or_concat l with rfl|⟨v,s,rfl⟩
  ·simp at hn
  rw[List.concat_eq_append] at hn h ⊢
  rw[List.pairwise_append] at h
  have hv:n=v.length:=by rw[List.length_append] at hn;simp at hn;exact hn
  rw[qo7,ih h.1 hv]
  have e:putAt lt v s v.length=v.length:=by
   cases hk:v.length with
   | zero=>rfl
   | succ k=>
    unfold putAt
    rw[if_neg]
    rw[h.2.2 _ (qbh (show k<v.length by omega)) s (List.mem_singleton.2 rfl)];simp
  unfold q7a
  rw[e,List.take_length,List.drop_length]
theorem Qut {t:qat} (v:qxq t):q4o [] t=t:=by
 have e1:t.threads.map (nnT [])=t.threads:=qew (fun x=>by unfold nnT;rw[q2w]) _
 have e2:t.slices.map (nnS [])=t.slices:=qew (fun x=>by unfold nnS;rw[q2w]) _
 have rn:∀s:List (List UInt8),s.map (qh7 [])=s:=fun s=>qew q2w s
 have e3:t.samples.map (nnA [])=t.samples:=qew (fun x=>by unfold nnA;rw[rn]) _
 have e4:t.blocks.map (nnB [])=t.blocks:=qew (fun x=>by unfold nnB;rw[rn]) _
 have e5:t.steps.map (nnC [])=t.steps:=qew (fun x=>by unfold nnC;rw[q2w]) _
 have e6:qfd ltT t.steps=t.steps:=Qiw (((qtj.1 v.sp).2.1).imp fun {a b} h=>by
  unfold ltT
  rw[decide_eq_false_iff_not,qev.anti];omega)
 unfold q4o
 rw[qjx,qjx,qjx,qjx,e1,e2,e3,e4,e5,e6]
theorem Qqx (t:qat):qky [] t=false:=by
 unfold qky qgh
 rw[qjx,qjx,qjx,qjx];rfl
theorem Qt7 {t:qat} (h:qc6 t=0) (hl:t.slices.length≤1000) (hr:qpa t≠0):qhi [] t=(t,0):=by
 have v:=qsi h
 have hw:qgj [] t=t:=Qb2 (l:=[]) (fun what x=>rfl) v hl
 rw[←Qin]
 unfold Qxl
 rw[if_neg (by decide),if_neg (by rw[h];simp),hw,Qqx,if_neg (by simp),Qut v]
 unfold q14
 rw[if_neg hr]
theorem Qol {l:List qao} (hn:qsu l) {t:qat} (hl:t.slices.length≤1000) (hr:qpa t≠0) (h:(qhi l t).2=0):(qhi l t).1=q4o l t:=by
 obtain⟨h0,h1,h2,h3⟩:=Qim h
 rw[h3,Qb2 hn (qsi h1) hl]
 have e:qpa (q4o l t)=qpa t:=by
  unfold qpa
  show(t.slices.map _).length+t.states.length+t.flows.length+(t.samples.map _).length+(qfd ltT (t.steps.map _)).length+(t.blocks.map _).length+t.lost.length=_
  rw[List.length_map,List.length_map,qf8,List.length_map,List.length_map]
 unfold q14
 rw[if_neg (by rw[e];exact hr)]
end YtljpopkonkanlaaGreatDoor
end Go.Proofs
