/- A part of the proof: contracts of functions of this seat, and lemmas. No condition beyond those stated. -/
import Derived.Test.YtljpopkonkanlaaGreatDoorH2
import Derived.Test.YtljpopkonkanlaaGreatDoorG4
import Derived.Test.YtljpopkonkanlaaGreatDoorH1
set_option linter.unusedVariables false
set_option linter.unusedSimpArgs false
set_option linter.unusedSectionVars false
set_option linter.unnecessarySimpa false
set_option maxRecDepth 100000
namespace Go.Proofs
open Go.AM Tryz
namespace YtljpopkonkanlaaGreatDoor
variable {Gl:qbd}
theorem q7c:(D.raw (Value.map none)).cells.length=1:=rfl
theorem Qui (g:Int→Bool) (σ:Sto):qdp [0,1] (.box 1 (.mapr 1)::.map (some .i64) (qbi g)::σ)=[.box 1 (.mapr 1),.map (some .i64) (qbi g)]:=by
 show[qbx [0,1] _ (.box 1 (.mapr 1)),qbx [0,1] _ (.map (some .i64) (qbi g))]=_
 rw[qby];rfl
section
variable {n:Nat} {all:Array Oper} {rest:List Oper} {KK:Env→Sto→Prop} {env:Env} {f:FuncId} {ag caps as':List AV} {dst:Option Tmp}
theorem cG {v:D} (g:Int→Bool) (σ:Sto) (h:qal prog Gl f as' [.box 1 (.mapr 1),.map (some .i64) (qbi g)] (fun r s=>r=.d v∧s=[.box 1 (.mapr 1),.map (some .i64) (qbi g)]))
  (he:(ag++caps).map (qbk [0,1] (.box 1 (.mapr 1)::.map (some .i64) (qbi g)::σ))=as')
  (h2:qas prog Gl n all false rest (putE env dst (.d v)) (.box 1 (.mapr 1)::.map (some .i64) (qbi g)::σ) KK):qgj prog Gl n all false dst rest (.fn f caps) ag env (.box 1 (.mapr 1)::.map (some .i64) (qbi g)::σ) KK:=
 q0j [0,1] [.box 1 (.mapr 1),.map (some .i64) (qbi g)] (by simp) (by simp) (Qui g σ) he (hk2 rfl (qc0 g _)) h h2
theorem Qwn {es m:Nat} {xs:List D} (g:Int→Bool) (σ:Sto) (h:qal prog Gl f as' [.box 1 (.mapr 1),.map (some .i64) (qbi g)] (fun r s=>r=.osl 2 0 m∧s=[.box 1 (.mapr 1),.map (some .i64) (qbi g),.arr es xs]))
  (he:(ag++caps).map (qbk [0,1] (.box 1 (.mapr 1)::.map (some .i64) (qbi g)::σ))=as')
  (h2:qas prog Gl n all false rest (putE env dst (.osl (σ.length+2) 0 m)) (.box 1 (.mapr 1)::.map (some .i64) (qbi g)::σ++[.arr es xs]) KK):qgj prog Gl n all false dst rest (.fn f caps) ag env (.box 1 (.mapr 1)::.map (some .i64) (qbi g)::σ) KK:=
 qvr [0,1] [.box 1 (.mapr 1),.map (some .i64) (qbi g)] (by simp) (by simp) (Qui g σ) he (hk2 rfl (qc0 g _)) h h2
end
def qco (l:List qao) (ths:List qaj) (m:Int):Bool:=ths.any fun x=>x.id==m&&qbe l qau x.name
theorem Qr1 {l:List qao} {ths:List qaj} {x:qaj} (h:qbe l qau x.name=true):(fun m=>m==x.id||qco l ths m)=qco l (ths++[x]):=by
 funext m
 rw[qco,qco,List.any_append,List.any_cons,List.any_nil,Bool.or_false,h,Bool.and_true,Bool.or_comm]
 congr 1
 rw[Bool.eq_iff_iff];simp;exact⟨fun e=>e.symm,fun e=>e.symm⟩
theorem Qr2 {l:List qao} {ths:List qaj} {x:qaj} (h:qbe l qau x.name=false):qco l (ths++[x])=qco l ths:=by
 funext m
 rw[qco,qco,List.any_append,List.any_cons,List.any_nil,Bool.or_false,h,Bool.and_false,Bool.or_false]
def qfg (l:List qao) (t:qaw):qaw:=
 {t with
  threads:=t.threads.filter (fun x=>!qco l t.threads x.id)
  flows:=t.flows.filter (fun x=>!(qco l t.threads x.ft||qco l t.threads x.tt))
  samples:=t.samples.filter (fun x=>!qco l t.threads x.thread)
  blocks:=t.blocks.filter (fun x=>!qco l t.threads x.thread)
  lost:=t.lost.filter (fun x=>!qco l t.threads x.thread)
  slices:=qds (chF (fun x=>!qco l t.threads x.thread) t.slices).1
  states:=qdu (qco l t.threads) t.states}
def qaw.lim (t:qaw):Prop:=t.threads.length≤1000∧t.slices.length≤1000∧t.states.length≤1000∧t.flows.length≤1000∧t.samples.length≤1000∧t.steps.length≤1000∧t.blocks.length≤1000∧t.lost.length≤1000
def Qv7 (t:qaw):AV:=.agg [.d (.int .i64 t.lo),.d (.int .i64 t.hi),.osl 0 0 t.threads.length,.d (.sl (t.slices.map qag.toD)),.d (.sl (t.states.map qax.toD)),.d (.sl (t.flows.map qbf.toD)),.d (.sl (t.samples.map qam.toD)),.d (.sl (t.steps.map qa2.toD)),.d (.sl (t.blocks.map qar.toD)),.d (.sl (t.lost.map qbr.toD))]
def zT:AV:=.agg [.d (.int .i64 0),.d (.int .i64 0),.nils,.nils,.nils,.nils,.nils,.nils,.nils,.nils]
theorem q1n (l:List qao) (t:qaw) (hl:l.length<1000000) (ht:t.lim) (hg:qe8 t.slices):qal prog Gl 43 [.d (.sl (l.map qao.toD)),.d t.toD] []
  (fun r s=>r=Qv7 (qfg l t)∧s=[.arr 3 ((qfg l t).threads.map qaj.toD)]):=by
 obtain⟨h1,h2,h3,h4,h5,h6,h7,h8⟩:=ht
 refine qac func43 rfl rfl (by simp[ntmps43]) (qab rfl _ _ _ _ ?_)
 simp only[ntmps43,results43,qak,List.length_nil]
 simp only[zU,seval,qav,q7c]
 refine qan t.threads.length (fun k=>[(0,.d (.sl (l.map qao.toD))),(3,.ptr 2 0),(4,.ptr 3 0),(5,.ptr 0 0),(10,.d (.sl (t.threads.map qaj.toD))),(11,.d (.int .i64 t.threads.length)),(12,.d (.int .i64 k))])
  (fun k=>[.box 1 (.mapr 1),.map (some .i64) (qbi (qco l (t.threads.take k))),.box 10 (.d t.toD),.box 10 zT]) (fun _=>True) trivial ?_ ?_
 ·refine qaa [] [3,2,0,1] rfl (by simp) ?_ ?_
  ·simp only[zU,seval,qav,q7c]
   try rfl
  ·rw[Qhn]
   show[_,qbx [3,2,0,1] _ (.map (some .i64) (qbi fun _=>false)),_,_]=_
   rw[qby];rfl
 intro k _ hk
 by_cases h:k<t.threads.length
 ·obtain⟨x,hx⟩:∃x,x=t.threads.getD k default:=⟨_,rfl⟩
  have eg:(t.threads.map qaj.toD).getD k default=x.toD:=by rw[qah _ _ _ h,←hx]
  have hst:t.threads.take (k+1)=t.threads.take k++[x]:=by rw[qa0 _ k h,←hx]
  rw[hst]
  simp only[zU,seval,qav,q7c,(show(k:Int)<t.threads.length by omega),h,eg]
  repeat((with_reducible apply aI);exact sdp)
  refine qad (qgu l _ _ hl) ?_
  simp only[zU,seval,qav,q7c]
  refine ifC.mk (fun hc=>?_) (fun hc=>?_)
  ·have hc:qbe l qau x.name=true:=hc
   (try simp only[zU,seval,qav,q7c,Ql7])
   rw[←Qr1 hc]
   refine qaa [] [0,1,2,3] rfl (by simp) ?_ ((qwc _ [2,3] _).trans rfl)
   simp only[zU,seval,qav,q7c,@qaf ((k:Int)+1) (by omega)]
   try rfl
  ·have hc:qbe l qau x.name=false:=hc
   rw[Qr2 hc]
   refine qaa [] [0,1,2,3] rfl (by simp) ?_ ((qwc _ [2,3] _).trans rfl)
   simp only[zU,seval,qav,q7c,@qaf ((k:Int)+1) (by omega)]
   try rfl
 have:k=t.threads.length:=by omega
 subst this
 obtain⟨g,hgd⟩:∃g,g=qco l t.threads:=⟨_,rfl⟩
 simp only[zU,seval,qav,q7c,(show ¬(t.threads.length:Int)<t.threads.length by omega),List.take_length]
 rw[←hgd]
 refine Qwn g _ (qus g (fun x=>g x.id) (Qie g) t.threads (by omega)) rfl ?_
 simp only[zU,seval,qav,q7c]
 repeat((with_reducible apply aI);exact sdp)
 refine cG g _ (q1i g (fun x=>g x.ft||g x.tt) (Qrr g) t.flows (by omega)) rfl ?_
 simp only[zU,seval,qav,q7c]
 repeat((with_reducible apply aI);exact sdp)
 refine cG g _ (qut g (fun x=>g x.thread) (Qif g) t.samples (by omega)) rfl ?_
 simp only[zU,seval,qav,q7c]
 repeat((with_reducible apply aI);exact sdp)
 refine cG g _ (qwh g (fun x=>g x.thread) (Qmp g) t.blocks (by omega)) rfl ?_
 simp only[zU,seval,qav,q7c]
 repeat((with_reducible apply aI);exact sdp)
 refine cG g _ (q1h g (fun x=>g x.thread) (Qrq g) t.lost (by omega)) rfl ?_
 simp only[zU,seval,qav,q7c]
 repeat((with_reducible apply aI);exact sdp)
 refine cG g _ (Qin g (fun x=>!g x.thread) (Qmo g) t.slices (by omega) hg) rfl ?_
 simp only[zU,seval,qav,q7c]
 repeat((with_reducible apply aI);exact sdp)
 refine q0j [1] [.map (some .i64) (qbi g)] (by simp) (by simp) (by show[qbx [1] _ (.map (some .i64) (qbi g))]=_;rw[qby]) rfl (hk1 (qc0 g _)) (Qmd g t.states (by omega)) ?_
 simp only[zU,seval,qav,q7c]
 repeat((with_reducible apply aI);exact sdp)
 have ed:qfg l t={t with
   threads:=t.threads.filter (fun x=>!g x.id)
   flows:=t.flows.filter (fun x=>!(g x.ft||g x.tt))
   samples:=t.samples.filter (fun x=>!g x.thread)
   blocks:=t.blocks.filter (fun x=>!g x.thread)
   lost:=t.lost.filter (fun x=>!g x.thread)
   slices:=qds (chF (fun x=>!g x.thread) t.slices).1
   states:=qdu g t.states}:=by rw[hgd];rfl
 rw[ed]
 refine⟨_,_,qai [] [4] rfl (by simp) rfl rfl,?_,?_⟩
 ·rfl
 ·rfl

def qew {α:Type} (f:α→α) (l:List α) (k:Nat):List α:=(l.take k).map f++l.drop k
theorem qeh {α:Type} (f:α→α) (l:List α) (k:Nat):(qew f l k).length=l.length:=by
 simp[qew];omega
theorem qdr {α:Type} (f:α→α) (l:List α):qew f l 0=l:=by simp[qew]
theorem qej {α:Type} (f:α→α) (l:List α):qew f l l.length=l.map f:=by simp[qew]
theorem qei {α:Type} [Inhabited α] (f:α→α) {l:List α} {k:Nat} (h:k<l.length):(qew f l k).getD k default=l.getD k default:=by
 rw[qew,List.getD_eq_getElem?_getD,List.getElem?_append_right (by simp;omega)]
 simp[show min k l.length=k by omega]
theorem qeg {α:Type} [Inhabited α] (f:α→α) {l:List α} {k:Nat} (h:k<l.length):(qew f l k).set k (f (l.getD k default))=qew f l (k+1):=by
 rw[qew,qew,qa0 l k h,List.map_append,List.set_append_right _ _ (by simp;omega)]
 simp only[List.length_map,List.length_take,show min k l.length=k by omega,Nat.sub_self]
 rw[List.drop_eq_getElem_cons h,List.set_cons_zero]
 simp[h]
def frD (l:List qao) (s:List (List UInt8)):List (List UInt8):=s.filter (fun x=>!qbe l qa7 x)
theorem Qu6 (l:List qao) (hl:l.length<1000000) (s:List (List UInt8)) (hs:s.length<1000000):qal prog Gl 66 [.d (.sl (s.map .str)),.ptr 0 0] [.box 1 (.d (.sl (l.map qao.toD)))] (fun r σ=>r=.d (.sl ((frD l s).map .str))∧σ=[.box 1 (.d (.sl (l.map qao.toD)))]):=by
 refine qac func66 rfl rfl (by simp[ntmps66]) (qab rfl _ _ _ _ ?_)
 simp only[ntmps66,results66,qak,List.length_nil]
 simp only[zU,seval]
 refine qa1 ((q1f _ (fun x=>qbe l qa7 x) (Qro l hl) s hs).mono fun r σ hr=>?_)
 obtain⟨rfl,rfl⟩:=hr
 simp only[zU,seval]
 exact⟨_,_,qai [] [0] rfl (by simp) (show qbk _ _ _=AV.d _ from rfl) rfl,rfl,rfl⟩
def frS (l:List qao) (x:qam):qam:={x with stack:=frD l x.stack}
def qv6 (l:List qao) (x:qar):qar:={x with stack:=frD l x.stack}
def qit (l:List qao) (t:qaw):qaw:=
 {t with
  slices:=qds (chF (fun x=>!qbe l qa6 x.name) t.slices).1
  samples:=t.samples.map (frS l)
  blocks:=t.blocks.map (qv6 l)
  steps:=t.steps.filter (fun x=>!qbe l qat x.name)}
def qfy (t:qaw):AV:=.agg [.d (.int .i64 t.lo),.d (.int .i64 t.hi),.osl 0 0 t.threads.length,.osl 1 0 t.slices.length,.d (.sl (t.states.map qax.toD)),.d (.sl (t.flows.map qbf.toD)),.osl 2 0 t.samples.length,.osl 3 0 t.steps.length,.osl 4 0 t.blocks.length,.d (.sl (t.lost.map qbr.toD))]
def Qlb (t:qaw):Sto:=[.arr 3 (t.threads.map qaj.toD),.arr 8 (t.slices.map qag.toD),.arr 4 (t.samples.map qam.toD),.arr 3 (t.steps.map qa2.toD),.arr 7 (t.blocks.map qar.toD)]
def qaw.limS (t:qaw):Prop:=(∀x∈t.samples,x.stack.length<1000000)∧∀x∈t.blocks,x.stack.length<1000000
theorem q7x (l:List qao) (t:qaw) (hl:l.length<1000000) (ht:t.lim) (hs:t.limS) (hg:qe8 t.slices):qal prog Gl 42 [.d (.sl (l.map qao.toD)),Qv7 t] [.arr 3 (t.threads.map qaj.toD)]
  (fun r s=>r=qfy (qit l t)∧s=Qlb (qit l t)):=by
 obtain⟨h1,h2,h3,h4,h5,h6,h7,h8⟩:=ht
 obtain⟨rs,hrs⟩:∃rs,rs=D.sl (l.map qao.toD):=⟨_,rfl⟩
 refine qac func42 rfl rfl (by simp[ntmps42]) (qab rfl _ _ _ _ ?_)
 simp only[ntmps42,results42,qak,List.length_nil]
 simp only[zU,seval,Qv7]
 refine qvr [1] [.box 1 (.d (.sl (l.map qao.toD)))] (by simp) (by simp) rfl rfl (hk1 rfl) (Qim _ (fun x=>!qbe l qa6 x.name) (Qmk l hl) t.slices (by omega) hg) ?_
 simp only[zU,seval]
 repeat((with_reducible apply aI);exact sdp)
 refine qa1 ((qnc t.samples (by omega) _).mono fun r s hr=>?_)
 obtain⟨rfl,rfl⟩:=hr
 simp only[zU,seval]
 repeat((with_reducible apply aI);exact sdp)
 obtain⟨sl,hsl⟩:∃sl,sl=qds (chF (fun x=>!qbe l qa6 x.name) t.slices).1:=⟨_,rfl⟩
 rw[←hsl]
 obtain⟨R,hR⟩:∃R,R=D.sl (l.map qao.toD):=⟨_,rfl⟩
 rw[←hR]
 refine qan t.samples.length (fun k=>[(2,.ptr 1 0),(3,.ptr 2 0),(4,.ptr 3 0),(5,.fn 66 [.ptr 1 0]),(21,.osl 5 0 t.samples.length),(22,.d (.int .i64 t.samples.length)),(23,.d (.int .i64 k))])
  (fun k=>[.arr 3 (t.threads.map qaj.toD),.box 1 (.d R),.box 10 (.agg [.d (.int .i64 t.lo),.d (.int .i64 t.hi),.osl 0 0 t.threads.length,.osl 4 0 sl.length,.d (.sl (t.states.map qax.toD)),.d (.sl (t.flows.map qbf.toD)),.osl 5 0 t.samples.length,.d (.sl (t.steps.map qa2.toD)),.d (.sl (t.blocks.map qar.toD)),.d (.sl (t.lost.map qbr.toD))]),.box 10 zT,.arr 8 (sl.map qag.toD),.arr 4 ((qew (frS l) t.samples k).map qam.toD)]) (fun _=>True) trivial ?_ ?_
 ·refine qaa [] [0,1,2,3,4,5] rfl (by simp) ?_ ?_
  ·simp only[zU,seval]
   try rfl
  ·rw[qdr];rfl
 intro k _ hk
 by_cases h:k<t.samples.length
 ·obtain⟨x,hx⟩:∃x,x=t.samples.getD k default:=⟨_,rfl⟩
  have hml:=qeh (frS l) t.samples k
  have eg:((qew (frS l) t.samples k).map qam.toD).getD k default=x.toD:=by rw[qah _ _ _ (by omega),qei _ h,←hx]
  have est:(qew (frS l) t.samples k).set k (frS l x)=qew (frS l) t.samples (k+1):=by rw[hx,qeg _ h]
  have hxs:=hs.1 x (by rw[hx];exact qcd h)
  simp only[zU,seval,(show(k:Int)<t.samples.length by omega),h,eg,hml]
  repeat((with_reducible apply aI);exact sdp)
  refine qd5 1 (Qu6 l hl x.stack hxs) (fun s=>rfl) (by rw[hR];rfl) trivial ?_
  simp only[zU,seval,(show(k:Int)<t.samples.length by omega),h,eg,hml]
  refine qaa [] [0,1,2,3,4,5] rfl (by simp) ?_ ?_
  ·simp only[zU,seval,@qaf ((k:Int)+1) (by omega)]
   try rfl
  ·rw[←est,List.map_set];rfl
 have:k=t.samples.length:=by omega
 subst this
 obtain⟨sa,hsa⟩:∃sa,sa=t.samples.map (frS l):=⟨_,rfl⟩
 have hsal:t.samples.length=sa.length:=by rw[hsa,List.length_map]
 rw[qej,←hsa]
 simp only[zU,seval,(show ¬(t.samples.length:Int)<t.samples.length by omega)]
 rw[hsal]
 refine qa1 ((qqh t.blocks (by omega) _).mono fun r s hr=>?_)
 obtain⟨rfl,rfl⟩:=hr
 simp only[zU,seval]
 repeat((with_reducible apply aI);exact sdp)
 refine qan t.blocks.length (fun k=>[(2,.ptr 1 0),(3,.ptr 2 0),(4,.ptr 3 0),(5,.fn 66 [.ptr 1 0]),(43,.osl 6 0 t.blocks.length),(44,.d (.int .i64 t.blocks.length)),(45,.d (.int .i64 k))])
  (fun k=>[.arr 3 (t.threads.map qaj.toD),.box 1 (.d R),.box 10 (.agg [.d (.int .i64 t.lo),.d (.int .i64 t.hi),.osl 0 0 t.threads.length,.osl 4 0 sl.length,.d (.sl (t.states.map qax.toD)),.d (.sl (t.flows.map qbf.toD)),.osl 5 0 sa.length,.d (.sl (t.steps.map qa2.toD)),.osl 6 0 t.blocks.length,.d (.sl (t.lost.map qbr.toD))]),.box 10 zT,.arr 8 (sl.map qag.toD),.arr 4 (sa.map qam.toD),.arr 7 ((qew (qv6 l) t.blocks k).map qar.toD)]) (fun _=>True) trivial ?_ ?_
 ·refine qaa [] [0,1,2,3,4,5,6] rfl (by simp) ?_ ?_
  ·simp only[zU,seval]
   try rfl
  ·rw[qdr];rfl
 intro k _ hk
 by_cases h:k<t.blocks.length
 ·obtain⟨x,hx⟩:∃x,x=t.blocks.getD k default:=⟨_,rfl⟩
  have hml:=qeh (qv6 l) t.blocks k
  have eg:((qew (qv6 l) t.blocks k).map qar.toD).getD k default=x.toD:=by rw[qah _ _ _ (by omega),qei _ h,←hx]
  have est:(qew (qv6 l) t.blocks k).set k (qv6 l x)=qew (qv6 l) t.blocks (k+1):=by rw[hx,qeg _ h]
  have hxs:=hs.2 x (by rw[hx];exact qcd h)
  simp only[zU,seval,(show(k:Int)<t.blocks.length by omega),h,eg,hml]
  repeat((with_reducible apply aI);exact sdp)
  refine qd5 1 (Qu6 l hl x.stack hxs) (fun s=>rfl) (by rw[hR];rfl) trivial ?_
  simp only[zU,seval,(show(k:Int)<t.blocks.length by omega),h,eg,hml]
  refine qaa [] [0,1,2,3,4,5,6] rfl (by simp) ?_ ?_
  ·simp only[zU,seval,@qaf ((k:Int)+1) (by omega)]
   try rfl
  ·rw[←est,List.map_set];rfl
 have:k=t.blocks.length:=by omega
 subst this
 obtain⟨bl,hbl⟩:∃bl,bl=t.blocks.map (qv6 l):=⟨_,rfl⟩
 have hbll:t.blocks.length=bl.length:=by rw[hbl,List.length_map]
 rw[qej,←hbl]
 simp only[zU,seval,(show ¬(t.blocks.length:Int)<t.blocks.length by omega)]
 rw[hbll,hR]
 refine qvr [1] [.box 1 (.d (.sl (l.map qao.toD)))] (by simp) (by simp) rfl rfl (hk1 rfl) (q1g _ (fun x=>qbe l qat x.name) (Qrp l hl) t.steps (by omega)) ?_
 simp only[zU,seval]
 repeat((with_reducible apply aI);exact sdp)
 have ed:qit l t={t with slices:=sl,samples:=sa,blocks:=bl,steps:=t.steps.filter (fun x=>!qbe l qat x.name)}:=by rw[hsl,hsa,hbl];rfl
 rw[ed]
 refine⟨_,_,qai [] [0,4,5,7,6] rfl (by simp) rfl rfl,?_,?_⟩
 ·rfl
 ·rfl

def val (p:Bool) (i n:Nat):Option AV:=if p=true then some (.osl i 0 n) else none
def qb4 (a b c d:Option AV):Key→Option AV
 | .s n=>if n=qau then a else if n=qa6 then b else if n=qa7 then c else if n=qat then d else none
 | .i _=>none
theorem qum:(fun _=>none)=qb4 none none none none:=by
 funext k;cases k<;>simp[qb4]
theorem qeo:(D.raw (Value.slice none 0 0)).cells.length=1:=rfl
theorem L1 (a b c d:Option AV):qb4 a b c d (.s [116,104,114,101,97,100])=a:=by simp[qb4,qau]
theorem L2 (a b c d:Option AV):qb4 a b c d (.s [115,108,105,99,101])=b:=by simp[qb4,qau,qa6]
theorem L3 (a b c d:Option AV):qb4 a b c d (.s [102,114,97,109,101])=c:=by simp[qb4,qau,qa6,qa7]
theorem L4 (a b c d:Option AV):qb4 a b c d (.s [99,111,117,110,116,101,114])=d:=by simp[qb4,qau,qa6,qa7,qat]
theorem M1 (a b c d:Option AV) (v:AV):qgs (qb4 a b c d) (.s [116,104,114,101,97,100]) v=qb4 (some v) b c d:=by
 funext k;cases k with
 | i n=>simp[qgs,qb4]
 | s n=>by_cases h:n=qau<;>simp[qgs,qb4,h,qau]<;>simp_all [qau]
theorem M2 (a b c d:Option AV) (v:AV):qgs (qb4 a b c d) (.s [115,108,105,99,101]) v=qb4 a (some v) c d:=by
 funext k;cases k with
 | i n=>simp[qgs,qb4]
 | s n=>by_cases h:n=qa6<;>simp[qgs,qb4,h,qau,qa6]<;>simp_all [qa6]
theorem M3 (a b c d:Option AV) (v:AV):qgs (qb4 a b c d) (.s [102,114,97,109,101]) v=qb4 a b (some v) d:=by
 funext k;cases k with
 | i n=>simp[qgs,qb4]
 | s n=>by_cases h:n=qa7<;>simp[qgs,qb4,h,qau,qa6,qa7]<;>simp_all [qa7]
theorem M4 (a b c d:Option AV) (v:AV):qgs (qb4 a b c d) (.s [99,111,117,110,116,101,114]) v=qb4 a b c (some v):=by
 funext k;cases k with
 | i n=>simp[qgs,qb4]
 | s n=>by_cases h:n=qat<;>simp[qgs,qb4,h,qau,qa6,qa7,qat]<;>simp_all [qat]
theorem qe5 (f:AV→AV) (a b c d:Option AV):(fun k=>(qb4 a b c d k).map f)=qb4 (a.map f) (b.map f) (c.map f) (d.map f):=by
 funext k;cases k with
 | i n=>rfl
 | s n=>
  simp only[qb4]
  split
  ·rfl
  split
  ·rfl
  split
  ·rfl
  split
  ·rfl
  ·rfl
theorem q0s {ρ:List Nat} {σ:Sto} (p:Bool) {i j:Nat} (n:Nat) (h:qch ρ i=some j):(val p i n).map (qbk ρ σ)=val p j n:=by
 cases p with
 | false=>rfl
 | true=>show some (qbk ρ σ (.osl i 0 n))=_;simp[qbk,qkp,h,val]
theorem qiq {ρ:List Nat} {σ:Sto} (p1 p2 p3 p4:Bool) (n1 n2 n3 n4:Nat) {i1 i2 i3 i4 j1 j2 j3 j4:Nat} (h1:qch ρ i1=some j1) (h2:qch ρ i2=some j2) (h3:qch ρ i3=some j3) (h4:qch ρ i4=some j4) :
  qbx ρ σ (.map none (qb4 (val p1 i1 n1) (val p2 i2 n2) (val p3 i3 n3) (val p4 i4 n4)))=.map none (qb4 (val p1 j1 n1) (val p2 j2 n2) (val p3 j3 n3) (val p4 j4 n4)):=by
 show Blk.map none _=_
 rw[qe5,q0s _ _ h1,q0s _ _ h2,q0s _ _ h3,q0s _ _ h4]
theorem qen {n m:Nat} {env:Env} {σ:Sto} (es:Nat) (hm:m≤σ.length):qgm n m env σ env (σ++[.arr es []]):=fun w I μ a h1 h2 h3=>by
 obtain⟨μ',a1,a2⟩:=h1.addNone es
 exact⟨I,μ',a1,h2.keep a2,a2.mono hm⟩
theorem Qm9 {l:List qam} (h:∀x∈l,x.stack.length<1000000):((l.map (·.stack)).flatten).length≤l.length*1000000:=by
 induction l with
 | nil=>simp
 | cons x l ih=>
  have h1:=ih fun y hy=>h y (List.mem_cons_of_mem _ hy)
  have h2:=h x List.mem_cons_self
  simp only[List.map_cons,List.flatten_cons,List.length_append,List.length_cons];omega
theorem Qwl {l:List qar} (h:∀x∈l,x.stack.length<1000000):((l.map (·.stack)).flatten).length≤l.length*1000000:=by
 induction l with
 | nil=>simp
 | cons x l ih=>
  have h1:=ih fun y hy=>h y (List.mem_cons_of_mem _ hy)
  have h2:=h x List.mem_cons_self
  simp only[List.map_cons,List.flatten_cons,List.length_append,List.length_cons];omega
theorem Qjk (x:qam):(List.map (fun y:qam=>y.stack) [x]).flatten=x.stack:=by simp
theorem Qvh (x:qar):(List.map (fun y:qar=>y.stack) [x]).flatten=x.stack:=by simp
theorem Qqg (l:List qam):(List.map (fun y:qam=>y.stack) (l.take 0)).flatten=[]:=by simp
theorem Qvi (l:List qar):(List.map (fun y:qar=>y.stack) (l.take 0)).flatten=[]:=by simp
theorem qg7 (i n:Nat):val false i n=none:=rfl
theorem qg6 (i n:Nat):val true i n=some (.osl i 0 n):=rfl
def frN (t:qaw):List (List UInt8):=(t.samples.map (·.stack)).flatten++(t.blocks.map (·.stack)).flatten
def frK (t:qaw) (k:Nat):List (List UInt8):=(t.samples.map (·.stack)).flatten++((t.blocks.take k).map (·.stack)).flatten
theorem qkc (t:qaw):frK t 0=(t.samples.map (·.stack)).flatten:=by rw[frK,Qvi,List.append_nil]
theorem q11 {t:qaw} {k:Nat} {x:qar} (h:t.blocks.take (k+1)=t.blocks.take k++[x]):frK t (k+1)=frK t k++x.stack:=by
 rw[frK,h,List.map_append,List.flatten_append,Qvh,←List.append_assoc];rfl
theorem q8g (t:qaw):frK t t.blocks.length=frN t:=by rw[frK,List.take_length];rfl
theorem Qjj {t:qaw} (hs:t.limS) (k:Nat):(frK t k).length≤t.samples.length*1000000+t.blocks.length*1000000:=by
 have h1:=Qm9 (l:=t.samples) hs.1
 have h2:=Qwl (l:=t.blocks.take k) fun y hy=>hs.2 y (List.mem_of_mem_take hy)
 rw[List.length_take] at h2
 rw[frK,List.length_append]
 have:min k t.blocks.length≤t.blocks.length:=Nat.min_le_right _ _
 have:=Nat.mul_le_mul_right 1000000 this
 omega
theorem Qmh (t:qaw) (ht:t.lim) (hs:t.limS):qal prog Gl 44 [qfy t] [.arr 3 (t.threads.map qaj.toD),.arr 8 (t.slices.map qag.toD),.arr 4 (t.samples.map qam.toD),.arr 3 (t.steps.map qa2.toD),.arr 7 (t.blocks.map qar.toD)]
  (fun r s=>r=.mapr 5∧s=[.arr 3 (t.threads.map qaj.toD),.arr 8 (t.slices.map qag.toD),.arr 4 (t.samples.map qam.toD),.arr 3 (t.steps.map qa2.toD),.arr 7 (t.blocks.map qar.toD),.map none (qb4 (val (decide (0<t.threads.length)) 6 t.threads.length) (val (decide (0<t.slices.length)) 7 t.slices.length) (val (decide (0<t.samples.length+t.blocks.length)) 8 (frN t).length) (val (decide (0<t.steps.length)) 9 t.steps.length)),
   .arr 1 ((t.threads.map (·.name)).map .str),.arr 1 ((t.slices.map (·.name)).map .str),.arr 1 ((frN t).map .str),.arr 1 ((t.steps.map (·.name)).map .str)]):=by
 obtain⟨h1,h2,h3,h4,h5,h6,h7,h8⟩:=ht
 refine qac func44 rfl rfl (by simp[ntmps44]) (qab rfl _ _ _ _ ?_)
 simp only[ntmps44,results44,qak,List.length_nil]
 simp only[zU,seval,L1,L2,L3,L4,M1,M2,M3,M4,qeo,qfy]
 refine qan t.threads.length (fun k=>[(1,.ptr 5 0),(3,.mapr 6),(16,.osl 0 0 t.threads.length),(17,.d (.int .i64 t.threads.length)),(18,.d (.int .i64 k))])
  (fun k=>[.arr 3 (t.threads.map qaj.toD),.arr 8 (t.slices.map qag.toD),.arr 4 (t.samples.map qam.toD),.arr 3 (t.steps.map qa2.toD),.arr 7 (t.blocks.map qar.toD),.box 10 (qfy t),.map none (qb4 (val (decide (0<k)) 7 k) (val false 8 0) (val false 9 0) (val false 10 0)),.arr 1 (((t.threads.take k).map (·.name)).map .str),.arr 1 (([]:List (List UInt8)).map .str),.arr 1 (([]:List (List UInt8)).map .str),.arr 1 (([]:List (List UInt8)).map .str)]) (fun _=>True) trivial ?_ ?_
 ·refine(qen 1 (by simp)).trans ((qen 1 (by simp)).trans ((qen 1 (by simp)).trans ((qen 1 (by simp)).trans ?_)))
  refine qaa [] [0,1,2,3,4,5,6,7,8,9,10] rfl (by simp) ?_ ?_
  ·simp only[zU,seval,L1,L2,L3,L4,M1,M2,M3,M4,qeo]
   try rfl
  ·rw[qum]
   show[_,_,_,_,_,_,qbx _ _ (.map none (qb4 (val false 7 0) (val false 8 0) (val false 9 0) (val false 10 0))),_,_,_,_]=_
   rw[qiq _ _ _ _ _ _ _ _ rfl rfl rfl rfl];rfl
 intro k _ hk
 by_cases h:k<t.threads.length
 ·obtain⟨x,hx⟩:∃x,x=t.threads.getD k default:=⟨_,rfl⟩
  have eg:(t.threads.map qaj.toD).getD k default=x.toD:=by rw[qah _ _ _ h,←hx]
  have ht:t.threads.take (k+1)=t.threads.take k++[x]:=by rw[qa0 _ k h,←hx]
  obtain⟨p,hp⟩:∃p,p=(decide (0<k)):=⟨_,rfl⟩
  rw[←hp]
  rw[ht,show(decide (0<k+1))=true from decide_eq_true (by omega),List.map_append,List.map_append]
  skip
  cases p with
  | false=>
   have hk0:k=0:=by simpa using hp
   subst hk0
   simp only[zU,seval,L1,L2,L3,L4,M1,M2,M3,M4,qeo,(show(0:Int)<t.threads.length by omega),h,eg,qg6,qg7,Option.getD_some,Option.getD_none]
   repeat((with_reducible apply aI);exact sdp)
   refine qaa [] [0,1,2,3,4,5,6,13,8,9,10] rfl (by simp) ?_ ?_
   ·simp only[zU,seval,L1,L2,L3,L4,M1,M2,M3,M4,qeo,@qaf ((1:Int)) (by omega)]
    try rfl
   ·show[_,_,_,_,_,_,qbx _ _ (.map none (qb4 (val true 13 1) (val false 8 0) (val false 9 0) (val false 10 0))),_,_,_,_]=_
    rw[qiq _ _ _ _ _ _ _ _ rfl rfl rfl rfl];rfl
  | true=>
   simp only[zU,seval,L1,L2,L3,L4,M1,M2,M3,M4,qeo,(show(k:Int)<t.threads.length by omega),h,eg,qg6,qg7,Option.getD_some,Option.getD_none,qaz]
   repeat((with_reducible apply aI);exact sdp)
   rw[show List.take k (((t.threads.take k).map (·.name)).map D.str)=((t.threads.take k).map (·.name)).map D.str from List.take_of_length_le (by simp only[List.length_map,List.length_take];omega)]
   refine qaa [] [0,1,2,3,4,5,6,13,8,9,10] rfl (by simp) ?_ ?_
   ·simp only[zU,seval,L1,L2,L3,L4,M1,M2,M3,M4,qeo,@qaf ((k:Int)+1) (by omega)]
    try rfl
   ·show[_,_,_,_,_,_,qbx _ _ (.map none (qb4 (val true 13 (k+1)) (val false 8 0) (val false 9 0) (val false 10 0))),_,_,_,_]=_
    rw[qiq _ _ _ _ _ _ _ _ rfl rfl rfl rfl];rfl
 have:k=t.threads.length:=by omega
 subst this
 simp only[zU,seval,L1,L2,L3,L4,M1,M2,M3,M4,qeo,qfy,(show ¬(t.threads.length:Int)<t.threads.length by omega),List.take_length]
 refine qan t.slices.length (fun k=>[(1,.ptr 5 0),(3,.mapr 6),(31,.osl 1 0 t.slices.length),(32,.d (.int .i64 t.slices.length)),(33,.d (.int .i64 k))])
  (fun k=>[.arr 3 (t.threads.map qaj.toD),.arr 8 (t.slices.map qag.toD),.arr 4 (t.samples.map qam.toD),.arr 3 (t.steps.map qa2.toD),.arr 7 (t.blocks.map qar.toD),.box 10 (qfy t),.map none (qb4 (val (decide (0<t.threads.length)) 7 t.threads.length) (val (decide (0<k)) 8 k) (val false 9 0) (val false 10 0)),.arr 1 ((t.threads.map (·.name)).map .str),.arr 1 (((t.slices.take k).map (·.name)).map .str),.arr 1 (([]:List (List UInt8)).map .str),.arr 1 (([]:List (List UInt8)).map .str)]) (fun _=>True) trivial ?_ ?_
 ·refine qaa [] [0,1,2,3,4,5,6,7,8,9,10] rfl (by simp) ?_ ?_
  ·simp only[zU,seval,L1,L2,L3,L4,M1,M2,M3,M4,qeo]
   try rfl
  ·show[_,_,_,_,_,_,qbx _ _ (.map none (qb4 (val (decide (0<t.threads.length)) 7 t.threads.length) (val (decide (0<0)) 8 0) (val false 9 0) (val false 10 0))),_,_,_,_]=_
   rw[qiq _ _ _ _ _ _ _ _ rfl rfl rfl rfl];rfl
 intro k _ hk
 by_cases h:k<t.slices.length
 ·obtain⟨x,hx⟩:∃x,x=t.slices.getD k default:=⟨_,rfl⟩
  have eg:(t.slices.map qag.toD).getD k default=x.toD:=by rw[qah _ _ _ h,←hx]
  have ht:t.slices.take (k+1)=t.slices.take k++[x]:=by rw[qa0 _ k h,←hx]
  obtain⟨p,hp⟩:∃p,p=(decide (0<k)):=⟨_,rfl⟩
  rw[←hp]
  rw[ht,show(decide (0<k+1))=true from decide_eq_true (by omega),List.map_append,List.map_append]
  skip
  cases p with
  | false=>
   have hk0:k=0:=by simpa using hp
   subst hk0
   simp only[zU,seval,L1,L2,L3,L4,M1,M2,M3,M4,qeo,(show(0:Int)<t.slices.length by omega),h,eg,qg6,qg7,Option.getD_some,Option.getD_none]
   repeat((with_reducible apply aI);exact sdp)
   refine qaa [] [0,1,2,3,4,5,6,7,13,9,10] rfl (by simp) ?_ ?_
   ·simp only[zU,seval,L1,L2,L3,L4,M1,M2,M3,M4,qeo,@qaf ((1:Int)) (by omega)]
    try rfl
   ·show[_,_,_,_,_,_,qbx _ _ (.map none (qb4 (val (decide (0<t.threads.length)) 7 t.threads.length) (val true 13 1) (val false 9 0) (val false 10 0))),_,_,_,_]=_
    rw[qiq _ _ _ _ _ _ _ _ rfl rfl rfl rfl];rfl
  | true=>
   simp only[zU,seval,L1,L2,L3,L4,M1,M2,M3,M4,qeo,(show(k:Int)<t.slices.length by omega),h,eg,qg6,qg7,Option.getD_some,Option.getD_none,qaz]
   repeat((with_reducible apply aI);exact sdp)
   rw[show List.take k (((t.slices.take k).map (·.name)).map D.str)=((t.slices.take k).map (·.name)).map D.str from List.take_of_length_le (by simp only[List.length_map,List.length_take];omega)]
   refine qaa [] [0,1,2,3,4,5,6,7,13,9,10] rfl (by simp) ?_ ?_
   ·simp only[zU,seval,L1,L2,L3,L4,M1,M2,M3,M4,qeo,@qaf ((k:Int)+1) (by omega)]
    try rfl
   ·show[_,_,_,_,_,_,qbx _ _ (.map none (qb4 (val (decide (0<t.threads.length)) 7 t.threads.length) (val true 13 (k+1)) (val false 9 0) (val false 10 0))),_,_,_,_]=_
    rw[qiq _ _ _ _ _ _ _ _ rfl rfl rfl rfl];rfl
 have:k=t.slices.length:=by omega
 subst this
 simp only[zU,seval,L1,L2,L3,L4,M1,M2,M3,M4,qeo,qfy,(show ¬(t.slices.length:Int)<t.slices.length by omega),List.take_length]
 refine qan t.samples.length (fun k=>[(1,.ptr 5 0),(3,.mapr 6),(46,.osl 2 0 t.samples.length),(47,.d (.int .i64 t.samples.length)),(48,.d (.int .i64 k))])
  (fun k=>[.arr 3 (t.threads.map qaj.toD),.arr 8 (t.slices.map qag.toD),.arr 4 (t.samples.map qam.toD),.arr 3 (t.steps.map qa2.toD),.arr 7 (t.blocks.map qar.toD),.box 10 (qfy t),.map none (qb4 (val (decide (0<t.threads.length)) 7 t.threads.length) (val (decide (0<t.slices.length)) 8 t.slices.length) (val (decide (0<k)) 9 (((t.samples.take k).map (·.stack)).flatten).length) (val false 10 0)),.arr 1 ((t.threads.map (·.name)).map .str),.arr 1 ((t.slices.map (·.name)).map .str),.arr 1 (((t.samples.take k).map (·.stack)).flatten.map .str),.arr 1 (([]:List (List UInt8)).map .str)]) (fun _=>True) trivial ?_ ?_
 ·refine qaa [] [0,1,2,3,4,5,6,7,8,9,10] rfl (by simp) ?_ ?_
  ·simp only[zU,seval,L1,L2,L3,L4,M1,M2,M3,M4,qeo]
   try rfl
  ·show[_,_,_,_,_,_,qbx _ _ (.map none (qb4 (val (decide (0<t.threads.length)) 7 t.threads.length) (val (decide (0<t.slices.length)) 8 t.slices.length) (val (decide (0<0)) 9 0) (val false 10 0))),_,_,_,_]=_
   rw[qiq _ _ _ _ _ _ _ _ rfl rfl rfl rfl];rfl
 intro k _ hk
 by_cases h:k<t.samples.length
 ·obtain⟨x,hx⟩:∃x,x=t.samples.getD k default:=⟨_,rfl⟩
  have eg:(t.samples.map qam.toD).getD k default=x.toD:=by rw[qah _ _ _ h,←hx]
  have ht:t.samples.take (k+1)=t.samples.take k++[x]:=by rw[qa0 _ k h,←hx]
  obtain⟨p,hp⟩:∃p,p=(decide (0<k)):=⟨_,rfl⟩
  rw[←hp]
  rw[ht,show(decide (0<k+1))=true from decide_eq_true (by omega),List.map_append,List.flatten_append,Qjk,List.map_append]
  have hsx:=hs.1 x (by rw[hx];exact qcd h)
  have hA:=Qm9 (l:=t.samples.take k) fun y hy=>hs.1 y (List.mem_of_mem_take hy)
  rw[List.length_take] at hA
  cases p with
  | false=>
   have hk0:k=0:=by simpa using hp
   subst hk0
   rw[Qqg,List.map_nil,List.nil_append]
   simp only[zU,seval,L1,L2,L3,L4,M1,M2,M3,M4,qeo,(show(0:Int)<t.samples.length by omega),h,eg,qg6,qg7,Option.getD_some,Option.getD_none]
   repeat((with_reducible apply aI);exact sdp)
   refine qaa [] [0,1,2,3,4,5,6,7,8,12,10] rfl (by simp) ?_ ?_
   ·simp only[zU,seval,L1,L2,L3,L4,M1,M2,M3,M4,qeo,@qaf ((1:Int)) (by omega)]
    try rfl
   ·show[_,_,_,_,_,_,qbx _ _ (.map none (qb4 (val (decide (0<t.threads.length)) 7 t.threads.length) (val (decide (0<t.slices.length)) 8 t.slices.length) (val true 12 _) (val false 10 0))),_,_,_,_]=_
    rw[qiq _ _ _ _ _ _ _ _ rfl rfl rfl rfl];rfl
  | true=>
   simp only[zU,seval,L1,L2,L3,L4,M1,M2,M3,M4,qeo,(show(k:Int)<t.samples.length by omega),h,eg,qg6,qg7,Option.getD_some,Option.getD_none,qaz]
   repeat((with_reducible apply aI);exact sdp)
   refine qaa [] [0,1,2,3,4,5,6,7,8,12,10] rfl (by simp) ?_ ?_
   ·simp only[zU,seval,L1,L2,L3,L4,M1,M2,M3,M4,qeo,@qaf ((k:Int)+1) (by omega)]
    try rfl
   ·show[_,_,_,_,_,_,qbx _ _ (.map none (qb4 (val (decide (0<t.threads.length)) 7 t.threads.length) (val (decide (0<t.slices.length)) 8 t.slices.length) (val true 12 _) (val false 10 0))),_,_,_,_]=_
    rw[qiq _ _ _ _ _ _ _ _ rfl rfl rfl rfl];rfl
 have:k=t.samples.length:=by omega
 subst this
 simp only[zU,seval,L1,L2,L3,L4,M1,M2,M3,M4,qeo,qfy,(show ¬(t.samples.length:Int)<t.samples.length by omega),List.take_length]
 refine qan t.blocks.length (fun k=>[(1,.ptr 5 0),(3,.mapr 6),(60,.osl 4 0 t.blocks.length),(61,.d (.int .i64 t.blocks.length)),(62,.d (.int .i64 k))])
  (fun k=>[.arr 3 (t.threads.map qaj.toD),.arr 8 (t.slices.map qag.toD),.arr 4 (t.samples.map qam.toD),.arr 3 (t.steps.map qa2.toD),.arr 7 (t.blocks.map qar.toD),.box 10 (qfy t),.map none (qb4 (val (decide (0<t.threads.length)) 7 t.threads.length) (val (decide (0<t.slices.length)) 8 t.slices.length) (val (decide (0<t.samples.length+k)) 9 (frK t k).length) (val false 10 0)),.arr 1 ((t.threads.map (·.name)).map .str),.arr 1 ((t.slices.map (·.name)).map .str),.arr 1 ((frK t k).map .str),.arr 1 (([]:List (List UInt8)).map .str)]) (fun _=>True) trivial ?_ ?_
 ·refine qaa [] [0,1,2,3,4,5,6,7,8,9,10] rfl (by simp) ?_ ?_
  ·simp only[zU,seval,L1,L2,L3,L4,M1,M2,M3,M4,qeo]
   try rfl
  ·rw[qkc]
   show[_,_,_,_,_,_,qbx _ _ (.map none (qb4 (val (decide (0<t.threads.length)) 7 t.threads.length) (val (decide (0<t.slices.length)) 8 t.slices.length) (val (decide (0<t.samples.length+0)) 9 ((t.samples.map (·.stack)).flatten).length) (val false 10 0))),_,_,_,_]=_
   rw[qiq _ _ _ _ _ _ _ _ rfl rfl rfl rfl];rfl
 intro k _ hk
 by_cases h:k<t.blocks.length
 ·obtain⟨x,hx⟩:∃x,x=t.blocks.getD k default:=⟨_,rfl⟩
  have eg:(t.blocks.map qar.toD).getD k default=x.toD:=by rw[qah _ _ _ h,←hx]
  have ht:t.blocks.take (k+1)=t.blocks.take k++[x]:=by rw[qa0 _ k h,←hx]
  obtain⟨p,hp⟩:∃p,p=(decide (0<t.samples.length+k)):=⟨_,rfl⟩
  rw[←hp]
  rw[show(decide (0<t.samples.length+(k+1)))=true from decide_eq_true (by omega),q11 ht,List.map_append]
  have hsx:=hs.2 x (by rw[hx];exact qcd h)
  have hA:=Qjj hs k
  cases p with
  | false=>
   have hp2:¬0<t.samples.length+k:=by intro hq;rw[decide_eq_true hq] at hp;cases hp
   have hk0:t.samples.length=0∧k=0:=by omega
   obtain⟨hk1,rfl⟩:=hk0
   have e0:frK t 0=[]:=by rw[qkc,List.eq_nil_of_length_eq_zero hk1];simp
   rw[e0,List.map_nil,List.nil_append]
   simp only[zU,seval,L1,L2,L3,L4,M1,M2,M3,M4,qeo,(show(0:Int)<t.blocks.length by omega),h,eg,qg6,qg7,Option.getD_some,Option.getD_none]
   repeat((with_reducible apply aI);exact sdp)
   refine qaa [] [0,1,2,3,4,5,6,7,8,12,10] rfl (by simp) ?_ ?_
   ·simp only[zU,seval,L1,L2,L3,L4,M1,M2,M3,M4,qeo,@qaf ((1:Int)) (by omega)]
    try rfl
   ·show[_,_,_,_,_,_,qbx _ _ (.map none (qb4 (val (decide (0<t.threads.length)) 7 t.threads.length) (val (decide (0<t.slices.length)) 8 t.slices.length) (val true 12 _) (val false 10 0))),_,_,_,_]=_
    rw[qiq _ _ _ _ _ _ _ _ rfl rfl rfl rfl];rfl
  | true=>
   simp only[zU,seval,L1,L2,L3,L4,M1,M2,M3,M4,qeo,(show(k:Int)<t.blocks.length by omega),h,eg,qg6,qg7,Option.getD_some,Option.getD_none,qaz]
   repeat((with_reducible apply aI);exact sdp)
   refine qaa [] [0,1,2,3,4,5,6,7,8,12,10] rfl (by simp) ?_ ?_
   ·simp only[zU,seval,L1,L2,L3,L4,M1,M2,M3,M4,qeo,@qaf ((k:Int)+1) (by omega)]
    try rfl
   ·show[_,_,_,_,_,_,qbx _ _ (.map none (qb4 (val (decide (0<t.threads.length)) 7 t.threads.length) (val (decide (0<t.slices.length)) 8 t.slices.length) (val true 12 _) (val false 10 0))),_,_,_,_]=_
    rw[qiq _ _ _ _ _ _ _ _ rfl rfl rfl rfl];rfl
 have:k=t.blocks.length:=by omega
 subst this
 rw[q8g]
 simp only[zU,seval,L1,L2,L3,L4,M1,M2,M3,M4,qeo,qfy,(show ¬(t.blocks.length:Int)<t.blocks.length by omega),List.take_length]
 refine qan t.steps.length (fun k=>[(1,.ptr 5 0),(3,.mapr 6),(74,.osl 3 0 t.steps.length),(75,.d (.int .i64 t.steps.length)),(76,.d (.int .i64 k))])
  (fun k=>[.arr 3 (t.threads.map qaj.toD),.arr 8 (t.slices.map qag.toD),.arr 4 (t.samples.map qam.toD),.arr 3 (t.steps.map qa2.toD),.arr 7 (t.blocks.map qar.toD),.box 10 (qfy t),.map none (qb4 (val (decide (0<t.threads.length)) 7 t.threads.length) (val (decide (0<t.slices.length)) 8 t.slices.length) (val (decide (0<t.samples.length+t.blocks.length)) 9 (frN t).length) (val (decide (0<k)) 10 k)),.arr 1 ((t.threads.map (·.name)).map .str),.arr 1 ((t.slices.map (·.name)).map .str),.arr 1 ((frN t).map .str),.arr 1 (((t.steps.take k).map (·.name)).map .str)]) (fun _=>True) trivial ?_ ?_
 ·refine qaa [] [0,1,2,3,4,5,6,7,8,9,10] rfl (by simp) ?_ ?_
  ·simp only[zU,seval,L1,L2,L3,L4,M1,M2,M3,M4,qeo]
   try rfl
  ·show[_,_,_,_,_,_,qbx _ _ (.map none (qb4 (val (decide (0<t.threads.length)) 7 t.threads.length) (val (decide (0<t.slices.length)) 8 t.slices.length) (val (decide (0<t.samples.length+t.blocks.length)) 9 (frN t).length) (val (decide (0<0)) 10 0))),_,_,_,_]=_
   rw[qiq _ _ _ _ _ _ _ _ rfl rfl rfl rfl];rfl
 intro k _ hk
 by_cases h:k<t.steps.length
 ·obtain⟨x,hx⟩:∃x,x=t.steps.getD k default:=⟨_,rfl⟩
  have eg:(t.steps.map qa2.toD).getD k default=x.toD:=by rw[qah _ _ _ h,←hx]
  have ht:t.steps.take (k+1)=t.steps.take k++[x]:=by rw[qa0 _ k h,←hx]
  obtain⟨p,hp⟩:∃p,p=(decide (0<k)):=⟨_,rfl⟩
  rw[←hp]
  rw[ht,show(decide (0<k+1))=true from decide_eq_true (by omega),List.map_append,List.map_append]
  skip
  cases p with
  | false=>
   have hk0:k=0:=by simpa using hp
   subst hk0
   simp only[zU,seval,L1,L2,L3,L4,M1,M2,M3,M4,qeo,(show(0:Int)<t.steps.length by omega),h,eg,qg6,qg7,Option.getD_some,Option.getD_none]
   repeat((with_reducible apply aI);exact sdp)
   refine qaa [] [0,1,2,3,4,5,6,7,8,9,13] rfl (by simp) ?_ ?_
   ·simp only[zU,seval,L1,L2,L3,L4,M1,M2,M3,M4,qeo,@qaf ((1:Int)) (by omega)]
    try rfl
   ·show[_,_,_,_,_,_,qbx _ _ (.map none (qb4 (val (decide (0<t.threads.length)) 7 t.threads.length) (val (decide (0<t.slices.length)) 8 t.slices.length) (val (decide (0<t.samples.length+t.blocks.length)) 9 (frN t).length) (val true 13 1))),_,_,_,_]=_
    rw[qiq _ _ _ _ _ _ _ _ rfl rfl rfl rfl];rfl
  | true=>
   simp only[zU,seval,L1,L2,L3,L4,M1,M2,M3,M4,qeo,(show(k:Int)<t.steps.length by omega),h,eg,qg6,qg7,Option.getD_some,Option.getD_none,qaz]
   repeat((with_reducible apply aI);exact sdp)
   rw[show List.take k (((t.steps.take k).map (·.name)).map D.str)=((t.steps.take k).map (·.name)).map D.str from List.take_of_length_le (by simp only[List.length_map,List.length_take];omega)]
   refine qaa [] [0,1,2,3,4,5,6,7,8,9,13] rfl (by simp) ?_ ?_
   ·simp only[zU,seval,L1,L2,L3,L4,M1,M2,M3,M4,qeo,@qaf ((k:Int)+1) (by omega)]
    try rfl
   ·show[_,_,_,_,_,_,qbx _ _ (.map none (qb4 (val (decide (0<t.threads.length)) 7 t.threads.length) (val (decide (0<t.slices.length)) 8 t.slices.length) (val (decide (0<t.samples.length+t.blocks.length)) 9 (frN t).length) (val true 13 (k+1)))),_,_,_,_]=_
    rw[qiq _ _ _ _ _ _ _ _ rfl rfl rfl rfl];rfl
 have:k=t.steps.length:=by omega
 subst this
 simp only[zU,seval,L1,L2,L3,L4,M1,M2,M3,M4,qeo,qfy,(show ¬(t.steps.length:Int)<t.steps.length by omega),List.take_length]
 refine⟨_,_,qai [] [0,1,2,3,4,6,7,8,9,10] rfl (by simp) rfl (?_:qdp _ _=[.arr 3 (t.threads.map qaj.toD),.arr 8 (t.slices.map qag.toD),.arr 4 (t.samples.map qam.toD),.arr 3 (t.steps.map qa2.toD),.arr 7 (t.blocks.map qar.toD),.map none (qb4 (val (decide (0<t.threads.length)) 6 t.threads.length) (val (decide (0<t.slices.length)) 7 t.slices.length) (val (decide (0<t.samples.length+t.blocks.length)) 8 (frN t).length) (val (decide (0<t.steps.length)) 9 t.steps.length)),.arr 1 ((t.threads.map (·.name)).map .str),.arr 1 ((t.slices.map (·.name)).map .str),.arr 1 ((frN t).map .str),.arr 1 ((t.steps.map (·.name)).map .str)]),rfl,rfl⟩
 show[_,_,_,_,_,qbx _ _ (.map none (qb4 (val (decide (0<t.threads.length)) 7 t.threads.length) (val (decide (0<t.slices.length)) 8 t.slices.length) (val (decide (0<t.samples.length+t.blocks.length)) 9 (frN t).length) (val (decide (0<t.steps.length)) 10 t.steps.length))),_,_,_,_]=_
 rw[qiq _ _ _ _ _ _ _ _ rfl rfl rfl rfl];rfl
theorem Qmj (t:qaw) (ht:t.lim) (hs:t.limS):qal prog Gl 44 [.d t.toD] []
  (fun r s=>r=.mapr 0∧s=[.map none (qb4 (val (decide (0<t.threads.length)) 1 t.threads.length) (val (decide (0<t.slices.length)) 2 t.slices.length) (val (decide (0<t.samples.length+t.blocks.length)) 3 (frN t).length) (val (decide (0<t.steps.length)) 4 t.steps.length)),
   .arr 1 ((t.threads.map (·.name)).map .str),.arr 1 ((t.slices.map (·.name)).map .str),.arr 1 ((frN t).map .str),.arr 1 ((t.steps.map (·.name)).map .str)]):=by
 obtain⟨h1,h2,h3,h4,h5,h6,h7,h8⟩:=ht
 refine qac func44 rfl rfl (by simp[ntmps44]) (qab rfl _ _ _ _ ?_)
 simp only[ntmps44,results44,qak,List.length_nil]
 simp only[zU,seval,L1,L2,L3,L4,M1,M2,M3,M4,qeo,qfy]
 refine qan t.threads.length (fun k=>[(1,.ptr 0 0),(3,.mapr 1),(16,.d (.sl (t.threads.map qaj.toD))),(17,.d (.int .i64 t.threads.length)),(18,.d (.int .i64 k))])
  (fun k=>[.box 10 (.d t.toD),.map none (qb4 (val (decide (0<k)) 2 k) (val false 3 0) (val false 4 0) (val false 5 0)),.arr 1 (((t.threads.take k).map (·.name)).map .str),.arr 1 (([]:List (List UInt8)).map .str),.arr 1 (([]:List (List UInt8)).map .str),.arr 1 (([]:List (List UInt8)).map .str)]) (fun _=>True) trivial ?_ ?_
 ·refine(qen 1 (by simp)).trans ((qen 1 (by simp)).trans ((qen 1 (by simp)).trans ((qen 1 (by simp)).trans ?_)))
  refine qaa [] [0,1,2,3,4,5] rfl (by simp) ?_ ?_
  ·simp only[zU,seval,L1,L2,L3,L4,M1,M2,M3,M4,qeo]
   try rfl
  ·rw[qum]
   show[_,qbx _ _ (.map none (qb4 (val false 2 0) (val false 3 0) (val false 4 0) (val false 5 0))),_,_,_,_]=_
   rw[qiq _ _ _ _ _ _ _ _ rfl rfl rfl rfl];rfl
 intro k _ hk
 by_cases h:k<t.threads.length
 ·obtain⟨x,hx⟩:∃x,x=t.threads.getD k default:=⟨_,rfl⟩
  have eg:(t.threads.map qaj.toD).getD k default=x.toD:=by rw[qah _ _ _ h,←hx]
  have ht:t.threads.take (k+1)=t.threads.take k++[x]:=by rw[qa0 _ k h,←hx]
  obtain⟨p,hp⟩:∃p,p=(decide (0<k)):=⟨_,rfl⟩
  rw[←hp]
  rw[ht,show(decide (0<k+1))=true from decide_eq_true (by omega),List.map_append,List.map_append]
  skip
  cases p with
  | false=>
   have hk0:k=0:=by simpa using hp
   subst hk0
   simp only[zU,seval,L1,L2,L3,L4,M1,M2,M3,M4,qeo,(show(0:Int)<t.threads.length by omega),h,eg,qg6,qg7,Option.getD_some,Option.getD_none]
   repeat((with_reducible apply aI);exact sdp)
   refine qaa [] [0,1,8,3,4,5] rfl (by simp) ?_ ?_
   ·simp only[zU,seval,L1,L2,L3,L4,M1,M2,M3,M4,qeo,@qaf ((1:Int)) (by omega)]
    try rfl
   ·show[_,qbx _ _ (.map none (qb4 (val true 8 1) (val false 3 0) (val false 4 0) (val false 5 0))),_,_,_,_]=_
    rw[qiq _ _ _ _ _ _ _ _ rfl rfl rfl rfl];rfl
  | true=>
   simp only[zU,seval,L1,L2,L3,L4,M1,M2,M3,M4,qeo,(show(k:Int)<t.threads.length by omega),h,eg,qg6,qg7,Option.getD_some,Option.getD_none,qaz]
   repeat((with_reducible apply aI);exact sdp)
   rw[show List.take k (((t.threads.take k).map (·.name)).map D.str)=((t.threads.take k).map (·.name)).map D.str from List.take_of_length_le (by simp only[List.length_map,List.length_take];omega)]
   refine qaa [] [0,1,8,3,4,5] rfl (by simp) ?_ ?_
   ·simp only[zU,seval,L1,L2,L3,L4,M1,M2,M3,M4,qeo,@qaf ((k:Int)+1) (by omega)]
    try rfl
   ·show[_,qbx _ _ (.map none (qb4 (val true 8 (k+1)) (val false 3 0) (val false 4 0) (val false 5 0))),_,_,_,_]=_
    rw[qiq _ _ _ _ _ _ _ _ rfl rfl rfl rfl];rfl
 have:k=t.threads.length:=by omega
 subst this
 simp only[zU,seval,L1,L2,L3,L4,M1,M2,M3,M4,qeo,qfy,(show ¬(t.threads.length:Int)<t.threads.length by omega),List.take_length]
 refine qan t.slices.length (fun k=>[(1,.ptr 0 0),(3,.mapr 1),(31,.d (.sl (t.slices.map qag.toD))),(32,.d (.int .i64 t.slices.length)),(33,.d (.int .i64 k))])
  (fun k=>[.box 10 (.d t.toD),.map none (qb4 (val (decide (0<t.threads.length)) 2 t.threads.length) (val (decide (0<k)) 3 k) (val false 4 0) (val false 5 0)),.arr 1 ((t.threads.map (·.name)).map .str),.arr 1 (((t.slices.take k).map (·.name)).map .str),.arr 1 (([]:List (List UInt8)).map .str),.arr 1 (([]:List (List UInt8)).map .str)]) (fun _=>True) trivial ?_ ?_
 ·refine qaa [] [0,1,2,3,4,5] rfl (by simp) ?_ ?_
  ·simp only[zU,seval,L1,L2,L3,L4,M1,M2,M3,M4,qeo]
   try rfl
  ·show[_,qbx _ _ (.map none (qb4 (val (decide (0<t.threads.length)) 2 t.threads.length) (val (decide (0<0)) 3 0) (val false 4 0) (val false 5 0))),_,_,_,_]=_
   rw[qiq _ _ _ _ _ _ _ _ rfl rfl rfl rfl];rfl
 intro k _ hk
 by_cases h:k<t.slices.length
 ·obtain⟨x,hx⟩:∃x,x=t.slices.getD k default:=⟨_,rfl⟩
  have eg:(t.slices.map qag.toD).getD k default=x.toD:=by rw[qah _ _ _ h,←hx]
  have ht:t.slices.take (k+1)=t.slices.take k++[x]:=by rw[qa0 _ k h,←hx]
  obtain⟨p,hp⟩:∃p,p=(decide (0<k)):=⟨_,rfl⟩
  rw[←hp]
  rw[ht,show(decide (0<k+1))=true from decide_eq_true (by omega),List.map_append,List.map_append]
  skip
  cases p with
  | false=>
   have hk0:k=0:=by simpa using hp
   subst hk0
   simp only[zU,seval,L1,L2,L3,L4,M1,M2,M3,M4,qeo,(show(0:Int)<t.slices.length by omega),h,eg,qg6,qg7,Option.getD_some,Option.getD_none]
   repeat((with_reducible apply aI);exact sdp)
   refine qaa [] [0,1,2,8,4,5] rfl (by simp) ?_ ?_
   ·simp only[zU,seval,L1,L2,L3,L4,M1,M2,M3,M4,qeo,@qaf ((1:Int)) (by omega)]
    try rfl
   ·show[_,qbx _ _ (.map none (qb4 (val (decide (0<t.threads.length)) 2 t.threads.length) (val true 8 1) (val false 4 0) (val false 5 0))),_,_,_,_]=_
    rw[qiq _ _ _ _ _ _ _ _ rfl rfl rfl rfl];rfl
  | true=>
   simp only[zU,seval,L1,L2,L3,L4,M1,M2,M3,M4,qeo,(show(k:Int)<t.slices.length by omega),h,eg,qg6,qg7,Option.getD_some,Option.getD_none,qaz]
   repeat((with_reducible apply aI);exact sdp)
   rw[show List.take k (((t.slices.take k).map (·.name)).map D.str)=((t.slices.take k).map (·.name)).map D.str from List.take_of_length_le (by simp only[List.length_map,List.length_take];omega)]
   refine qaa [] [0,1,2,8,4,5] rfl (by simp) ?_ ?_
   ·simp only[zU,seval,L1,L2,L3,L4,M1,M2,M3,M4,qeo,@qaf ((k:Int)+1) (by omega)]
    try rfl
   ·show[_,qbx _ _ (.map none (qb4 (val (decide (0<t.threads.length)) 2 t.threads.length) (val true 8 (k+1)) (val false 4 0) (val false 5 0))),_,_,_,_]=_
    rw[qiq _ _ _ _ _ _ _ _ rfl rfl rfl rfl];rfl
 have:k=t.slices.length:=by omega
 subst this
 simp only[zU,seval,L1,L2,L3,L4,M1,M2,M3,M4,qeo,qfy,(show ¬(t.slices.length:Int)<t.slices.length by omega),List.take_length]
 refine qan t.samples.length (fun k=>[(1,.ptr 0 0),(3,.mapr 1),(46,.d (.sl (t.samples.map qam.toD))),(47,.d (.int .i64 t.samples.length)),(48,.d (.int .i64 k))])
  (fun k=>[.box 10 (.d t.toD),.map none (qb4 (val (decide (0<t.threads.length)) 2 t.threads.length) (val (decide (0<t.slices.length)) 3 t.slices.length) (val (decide (0<k)) 4 (((t.samples.take k).map (·.stack)).flatten).length) (val false 5 0)),.arr 1 ((t.threads.map (·.name)).map .str),.arr 1 ((t.slices.map (·.name)).map .str),.arr 1 (((t.samples.take k).map (·.stack)).flatten.map .str),.arr 1 (([]:List (List UInt8)).map .str)]) (fun _=>True) trivial ?_ ?_
 ·refine qaa [] [0,1,2,3,4,5] rfl (by simp) ?_ ?_
  ·simp only[zU,seval,L1,L2,L3,L4,M1,M2,M3,M4,qeo]
   try rfl
  ·show[_,qbx _ _ (.map none (qb4 (val (decide (0<t.threads.length)) 2 t.threads.length) (val (decide (0<t.slices.length)) 3 t.slices.length) (val (decide (0<0)) 4 0) (val false 5 0))),_,_,_,_]=_
   rw[qiq _ _ _ _ _ _ _ _ rfl rfl rfl rfl];rfl
 intro k _ hk
 by_cases h:k<t.samples.length
 ·obtain⟨x,hx⟩:∃x,x=t.samples.getD k default:=⟨_,rfl⟩
  have eg:(t.samples.map qam.toD).getD k default=x.toD:=by rw[qah _ _ _ h,←hx]
  have ht:t.samples.take (k+1)=t.samples.take k++[x]:=by rw[qa0 _ k h,←hx]
  obtain⟨p,hp⟩:∃p,p=(decide (0<k)):=⟨_,rfl⟩
  rw[←hp]
  rw[ht,show(decide (0<k+1))=true from decide_eq_true (by omega),List.map_append,List.flatten_append,Qjk,List.map_append]
  have hsx:=hs.1 x (by rw[hx];exact qcd h)
  have hA:=Qm9 (l:=t.samples.take k) fun y hy=>hs.1 y (List.mem_of_mem_take hy)
  rw[List.length_take] at hA
  cases p with
  | false=>
   have hk0:k=0:=by simpa using hp
   subst hk0
   rw[Qqg,List.map_nil,List.nil_append]
   simp only[zU,seval,L1,L2,L3,L4,M1,M2,M3,M4,qeo,(show(0:Int)<t.samples.length by omega),h,eg,qg6,qg7,Option.getD_some,Option.getD_none]
   repeat((with_reducible apply aI);exact sdp)
   refine qaa [] [0,1,2,3,7,5] rfl (by simp) ?_ ?_
   ·simp only[zU,seval,L1,L2,L3,L4,M1,M2,M3,M4,qeo,@qaf ((1:Int)) (by omega)]
    try rfl
   ·show[_,qbx _ _ (.map none (qb4 (val (decide (0<t.threads.length)) 2 t.threads.length) (val (decide (0<t.slices.length)) 3 t.slices.length) (val true 7 _) (val false 5 0))),_,_,_,_]=_
    rw[qiq _ _ _ _ _ _ _ _ rfl rfl rfl rfl];rfl
  | true=>
   simp only[zU,seval,L1,L2,L3,L4,M1,M2,M3,M4,qeo,(show(k:Int)<t.samples.length by omega),h,eg,qg6,qg7,Option.getD_some,Option.getD_none,qaz]
   repeat((with_reducible apply aI);exact sdp)
   refine qaa [] [0,1,2,3,7,5] rfl (by simp) ?_ ?_
   ·simp only[zU,seval,L1,L2,L3,L4,M1,M2,M3,M4,qeo,@qaf ((k:Int)+1) (by omega)]
    try rfl
   ·show[_,qbx _ _ (.map none (qb4 (val (decide (0<t.threads.length)) 2 t.threads.length) (val (decide (0<t.slices.length)) 3 t.slices.length) (val true 7 _) (val false 5 0))),_,_,_,_]=_
    rw[qiq _ _ _ _ _ _ _ _ rfl rfl rfl rfl];rfl
 have:k=t.samples.length:=by omega
 subst this
 simp only[zU,seval,L1,L2,L3,L4,M1,M2,M3,M4,qeo,qfy,(show ¬(t.samples.length:Int)<t.samples.length by omega),List.take_length]
 refine qan t.blocks.length (fun k=>[(1,.ptr 0 0),(3,.mapr 1),(60,.d (.sl (t.blocks.map qar.toD))),(61,.d (.int .i64 t.blocks.length)),(62,.d (.int .i64 k))])
  (fun k=>[.box 10 (.d t.toD),.map none (qb4 (val (decide (0<t.threads.length)) 2 t.threads.length) (val (decide (0<t.slices.length)) 3 t.slices.length) (val (decide (0<t.samples.length+k)) 4 (frK t k).length) (val false 5 0)),.arr 1 ((t.threads.map (·.name)).map .str),.arr 1 ((t.slices.map (·.name)).map .str),.arr 1 ((frK t k).map .str),.arr 1 (([]:List (List UInt8)).map .str)]) (fun _=>True) trivial ?_ ?_
 ·refine qaa [] [0,1,2,3,4,5] rfl (by simp) ?_ ?_
  ·simp only[zU,seval,L1,L2,L3,L4,M1,M2,M3,M4,qeo]
   try rfl
  ·rw[qkc]
   show[_,qbx _ _ (.map none (qb4 (val (decide (0<t.threads.length)) 2 t.threads.length) (val (decide (0<t.slices.length)) 3 t.slices.length) (val (decide (0<t.samples.length+0)) 4 ((t.samples.map (·.stack)).flatten).length) (val false 5 0))),_,_,_,_]=_
   rw[qiq _ _ _ _ _ _ _ _ rfl rfl rfl rfl];rfl
 intro k _ hk
 by_cases h:k<t.blocks.length
 ·obtain⟨x,hx⟩:∃x,x=t.blocks.getD k default:=⟨_,rfl⟩
  have eg:(t.blocks.map qar.toD).getD k default=x.toD:=by rw[qah _ _ _ h,←hx]
  have ht:t.blocks.take (k+1)=t.blocks.take k++[x]:=by rw[qa0 _ k h,←hx]
  obtain⟨p,hp⟩:∃p,p=(decide (0<t.samples.length+k)):=⟨_,rfl⟩
  rw[←hp]
  rw[show(decide (0<t.samples.length+(k+1)))=true from decide_eq_true (by omega),q11 ht,List.map_append]
  have hsx:=hs.2 x (by rw[hx];exact qcd h)
  have hA:=Qjj hs k
  cases p with
  | false=>
   have hp2:¬0<t.samples.length+k:=by intro hq;rw[decide_eq_true hq] at hp;cases hp
   have hk0:t.samples.length=0∧k=0:=by omega
   obtain⟨hk1,rfl⟩:=hk0
   have e0:frK t 0=[]:=by rw[qkc,List.eq_nil_of_length_eq_zero hk1];simp
   rw[e0,List.map_nil,List.nil_append]
   simp only[zU,seval,L1,L2,L3,L4,M1,M2,M3,M4,qeo,(show(0:Int)<t.blocks.length by omega),h,eg,qg6,qg7,Option.getD_some,Option.getD_none]
   repeat((with_reducible apply aI);exact sdp)
   refine qaa [] [0,1,2,3,7,5] rfl (by simp) ?_ ?_
   ·simp only[zU,seval,L1,L2,L3,L4,M1,M2,M3,M4,qeo,@qaf ((1:Int)) (by omega)]
    try rfl
   ·show[_,qbx _ _ (.map none (qb4 (val (decide (0<t.threads.length)) 2 t.threads.length) (val (decide (0<t.slices.length)) 3 t.slices.length) (val true 7 _) (val false 5 0))),_,_,_,_]=_
    rw[qiq _ _ _ _ _ _ _ _ rfl rfl rfl rfl];rfl
  | true=>
   simp only[zU,seval,L1,L2,L3,L4,M1,M2,M3,M4,qeo,(show(k:Int)<t.blocks.length by omega),h,eg,qg6,qg7,Option.getD_some,Option.getD_none,qaz]
   repeat((with_reducible apply aI);exact sdp)
   refine qaa [] [0,1,2,3,7,5] rfl (by simp) ?_ ?_
   ·simp only[zU,seval,L1,L2,L3,L4,M1,M2,M3,M4,qeo,@qaf ((k:Int)+1) (by omega)]
    try rfl
   ·show[_,qbx _ _ (.map none (qb4 (val (decide (0<t.threads.length)) 2 t.threads.length) (val (decide (0<t.slices.length)) 3 t.slices.length) (val true 7 _) (val false 5 0))),_,_,_,_]=_
    rw[qiq _ _ _ _ _ _ _ _ rfl rfl rfl rfl];rfl
 have:k=t.blocks.length:=by omega
 subst this
 rw[q8g]
 simp only[zU,seval,L1,L2,L3,L4,M1,M2,M3,M4,qeo,qfy,(show ¬(t.blocks.length:Int)<t.blocks.length by omega),List.take_length]
 refine qan t.steps.length (fun k=>[(1,.ptr 0 0),(3,.mapr 1),(74,.d (.sl (t.steps.map qa2.toD))),(75,.d (.int .i64 t.steps.length)),(76,.d (.int .i64 k))])
  (fun k=>[.box 10 (.d t.toD),.map none (qb4 (val (decide (0<t.threads.length)) 2 t.threads.length) (val (decide (0<t.slices.length)) 3 t.slices.length) (val (decide (0<t.samples.length+t.blocks.length)) 4 (frN t).length) (val (decide (0<k)) 5 k)),.arr 1 ((t.threads.map (·.name)).map .str),.arr 1 ((t.slices.map (·.name)).map .str),.arr 1 ((frN t).map .str),.arr 1 (((t.steps.take k).map (·.name)).map .str)]) (fun _=>True) trivial ?_ ?_
 ·refine qaa [] [0,1,2,3,4,5] rfl (by simp) ?_ ?_
  ·simp only[zU,seval,L1,L2,L3,L4,M1,M2,M3,M4,qeo]
   try rfl
  ·show[_,qbx _ _ (.map none (qb4 (val (decide (0<t.threads.length)) 2 t.threads.length) (val (decide (0<t.slices.length)) 3 t.slices.length) (val (decide (0<t.samples.length+t.blocks.length)) 4 (frN t).length) (val (decide (0<0)) 5 0))),_,_,_,_]=_
   rw[qiq _ _ _ _ _ _ _ _ rfl rfl rfl rfl];rfl
 intro k _ hk
 by_cases h:k<t.steps.length
 ·obtain⟨x,hx⟩:∃x,x=t.steps.getD k default:=⟨_,rfl⟩
  have eg:(t.steps.map qa2.toD).getD k default=x.toD:=by rw[qah _ _ _ h,←hx]
  have ht:t.steps.take (k+1)=t.steps.take k++[x]:=by rw[qa0 _ k h,←hx]
  obtain⟨p,hp⟩:∃p,p=(decide (0<k)):=⟨_,rfl⟩
  rw[←hp]
  rw[ht,show(decide (0<k+1))=true from decide_eq_true (by omega),List.map_append,List.map_append]
  skip
  cases p with
  | false=>
   have hk0:k=0:=by simpa using hp
   subst hk0
   simp only[zU,seval,L1,L2,L3,L4,M1,M2,M3,M4,qeo,(show(0:Int)<t.steps.length by omega),h,eg,qg6,qg7,Option.getD_some,Option.getD_none]
   repeat((with_reducible apply aI);exact sdp)
   refine qaa [] [0,1,2,3,4,8] rfl (by simp) ?_ ?_
   ·simp only[zU,seval,L1,L2,L3,L4,M1,M2,M3,M4,qeo,@qaf ((1:Int)) (by omega)]
    try rfl
   ·show[_,qbx _ _ (.map none (qb4 (val (decide (0<t.threads.length)) 2 t.threads.length) (val (decide (0<t.slices.length)) 3 t.slices.length) (val (decide (0<t.samples.length+t.blocks.length)) 4 (frN t).length) (val true 8 1))),_,_,_,_]=_
    rw[qiq _ _ _ _ _ _ _ _ rfl rfl rfl rfl];rfl
  | true=>
   simp only[zU,seval,L1,L2,L3,L4,M1,M2,M3,M4,qeo,(show(k:Int)<t.steps.length by omega),h,eg,qg6,qg7,Option.getD_some,Option.getD_none,qaz]
   repeat((with_reducible apply aI);exact sdp)
   rw[show List.take k (((t.steps.take k).map (·.name)).map D.str)=((t.steps.take k).map (·.name)).map D.str from List.take_of_length_le (by simp only[List.length_map,List.length_take];omega)]
   refine qaa [] [0,1,2,3,4,8] rfl (by simp) ?_ ?_
   ·simp only[zU,seval,L1,L2,L3,L4,M1,M2,M3,M4,qeo,@qaf ((k:Int)+1) (by omega)]
    try rfl
   ·show[_,qbx _ _ (.map none (qb4 (val (decide (0<t.threads.length)) 2 t.threads.length) (val (decide (0<t.slices.length)) 3 t.slices.length) (val (decide (0<t.samples.length+t.blocks.length)) 4 (frN t).length) (val true 8 (k+1)))),_,_,_,_]=_
    rw[qiq _ _ _ _ _ _ _ _ rfl rfl rfl rfl];rfl
 have:k=t.steps.length:=by omega
 subst this
 simp only[zU,seval,L1,L2,L3,L4,M1,M2,M3,M4,qeo,qfy,(show ¬(t.steps.length:Int)<t.steps.length by omega),List.take_length]
 refine⟨_,_,qai [] [1,2,3,4,5] rfl (by simp) rfl (?_:qdp _ _=[.map none (qb4 (val (decide (0<t.threads.length)) 1 t.threads.length) (val (decide (0<t.slices.length)) 2 t.slices.length) (val (decide (0<t.samples.length+t.blocks.length)) 3 (frN t).length) (val (decide (0<t.steps.length)) 4 t.steps.length)),.arr 1 ((t.threads.map (·.name)).map .str),.arr 1 ((t.slices.map (·.name)).map .str),.arr 1 ((frN t).map .str),.arr 1 ((t.steps.map (·.name)).map .str)]),rfl,rfl⟩
 show[qbx _ _ (.map none (qb4 (val (decide (0<t.threads.length)) 2 t.threads.length) (val (decide (0<t.slices.length)) 3 t.slices.length) (val (decide (0<t.samples.length+t.blocks.length)) 4 (frN t).length) (val (decide (0<t.steps.length)) 5 t.steps.length))),_,_,_,_]=_
 rw[qiq _ _ _ _ _ _ _ _ rfl rfl rfl rfl];rfl

theorem Qj7 (a b:Int):qv7 b a=-qv7 a b:=by
 rcases qhn a b with h|h|h<;>rcases qhn b a with g|g|g<;>omega
theorem Qj6 (a b:List UInt8):q6z b a=-q6z a b:=by
 rcases qd4 a b with⟨h1,h2,h3,h4⟩|⟨h1,h2,h3,h4⟩|⟨h1,h2,h3,h4⟩
 ·rcases qd4 b a with⟨g1,_,_,_⟩|⟨_,g2,_,_⟩|⟨_,_,_,g4⟩
  ·rw[h3] at g1;cases g1
  ·exact absurd g2.symm h2
  ·omega
 ·subst h2;omega
 ·rcases qd4 b a with⟨_,_,_,g4⟩|⟨_,g2,_,_⟩|⟨g1,_,_,_⟩
  ·omega
  ·exact absurd g2.symm h2
  ·rw[h3] at g1;cases g1
theorem Qnl {a b:Int}:qv7 a b≤0↔a≤b:=by
 rcases qhn a b with h|h|h<;>omega
structure Pre {α:Type} (c:α→α→Int):Prop where
 self:∀a,c a a=0
 anti:∀a b,c b a=-c a b
 trans:∀a b d,c a b≤0→c b d≤0→c a d≤0
theorem Pre.strict {α:Type} {c:α→α→Int} (h:Pre c) {a b d:α} (h1:c a b≤0) (h2:c b d≤0) (h3:c a b<0∨c b d<0):c a d<0:=by
 have h4:=h.trans a b d h1 h2
 rcases Int.lt_or_le (c a d) 0 with h5|h5
 ·exact h5
 exfalso
 have h6:c d a≤0:=by rw[h.anti a d];omega
 rcases h3 with h3|h3
 ·have:=h.trans b d a h2 h6
  rw[h.anti a b] at this;omega
 ·have:=h.trans d a b h6 h1
  rw[h.anti b d] at this;omega
theorem Pre.lex {α:Type} {f c:α→α→Int} (hf:Pre f) (hc:Pre c):Pre (fun a b=>if f a b=0 then c a b else f a b):=by
 refine⟨fun a=>?_,fun a b=>?_,fun a b d h1 h2=>?_⟩
 ·simp only[hf.self,hc.self,if_true]
 ·rw[hf.anti a b,hc.anti a b]
  by_cases e:f a b=0
  ·rw[if_pos (by omega),if_pos e]
  ·rw[if_neg (by omega),if_neg e]
 ·by_cases e1:f a b=0
  ·rw[if_pos e1] at h1
   by_cases e2:f b d=0
   ·rw[if_pos e2] at h2
    have q1:=hf.trans a b d (by omega) (by omega)
    have q2:=hf.trans d b a (by rw[hf.anti b d];omega) (by rw[hf.anti a b];omega)
    rw[hf.anti a d] at q2
    rw[if_pos (by omega)]
    exact hc.trans a b d h1 h2
   ·rw[if_neg e2] at h2
    have:=hf.strict (a:=a) (b:=b) (d:=d) (by omega) h2 (.inr (by omega))
    rw[if_neg (by omega)];omega
  ·rw[if_neg e1] at h1
   have h3:f b d≤0:=by
    by_cases e2:f b d=0
    ·omega
    ·rw[if_neg e2] at h2;exact h2
   have:=hf.strict (a:=a) (b:=b) (d:=d) h1 h3 (.inl (by omega))
   rw[if_neg (by omega)];omega
theorem Pre.zero {α:Type}:Pre (fun _ _:α=>(0:Int)):=⟨fun _=>rfl,fun _ _=>rfl,fun _ _ _ _ _=>Int.le_refl 0⟩
theorem Pre.comap {α β:Type} {c:α→α→Int} (h:Pre c) (g:β→α):Pre (fun a b=>c (g a) (g b)):=⟨fun a=>h.self _,fun a b=>h.anti _ _,fun a b d=>h.trans _ _ _⟩
theorem Qq9:Pre qv7:=⟨fun a=>by rcases qhn a a with⟨h,_⟩|⟨_,h⟩|⟨h,_⟩<;>omega,Qj7,fun a b d h1 h2=>by rw[Qnl] at *;omega⟩
theorem Qq8:Pre q6z:=by
 refine⟨fun a=>?_,Qj6,fun a b d h1 h2=>?_⟩
 ·rcases qd4 a a with⟨_,h,_⟩|⟨_,_,_,h⟩|⟨_,h,_⟩
  ·exact absurd rfl h
  ·exact h
  ·exact absurd rfl h
 ·rcases qd4 a b with⟨a1,a2,a3,a4⟩|⟨a1,a2,a3,a4⟩|⟨a1,a2,a3,a4⟩
  ·rcases qd4 b d with⟨b1,b2,b3,b4⟩|⟨b1,b2,b3,b4⟩|⟨b1,b2,b3,b4⟩
   ·have:=q2b a1 b1
    rcases qd4 a d with⟨c1,c2,c3,c4⟩|⟨c1,c2,c3,c4⟩|⟨c1,c2,c3,c4⟩
    ·omega
    ·omega
    ·rw[show ltS a d=true from this] at c1;cases c1
   ·subst b2;exact h1
   ·omega
  ·subst a2;exact h2
  ·omega
theorem qj8:Pre qep:=by
 have h:=(Qq8.comap (fun x:qa2=>x.name)).lex (Qq9.comap (fun x:qa2=>x.at_))
 exact h
def unT (d:D):qa2:=match d with|.agg [.str n,.int _ a,.int _ v]=>⟨n,a,v⟩|_=>default
def DmT (d:D):Prop:=∃x:qa2,d=x.toD
def Qv5 (a b:D):Int:=qep (unT a) (unT b)
theorem Qw3:Swo DmT (fun x y=>decide (Qv5 x y<0)):=by
 refine⟨fun x _=>?_,fun x y z _ _ _ h1 h2=>?_,fun x y z _ _ _ h1 h2=>?_⟩
 ·rw[Qv5,qj8.self];rfl
 ·have h1:qep (unT x) (unT y)<0:=of_decide_eq_true h1
  have h2:qep (unT y) (unT z)<0:=of_decide_eq_true h2
  exact decide_eq_true (show qep (unT x) (unT z)<0 from qj8.strict (by omega) (by omega) (.inl h1))
 ·have h1:¬qep (unT x) (unT y)<0:=of_decide_eq_false h1
  have h2:¬qep (unT y) (unT z)<0:=of_decide_eq_false h2
  refine decide_eq_false (show ¬qep (unT x) (unT z)<0 from ?_)
  have a1:=qj8.anti (unT x) (unT y)
  have a2:=qj8.anti (unT y) (unT z)
  have a3:=qj8.anti (unT x) (unT z)
  have:=qj8.trans (unT z) (unT y) (unT x) (by omega) (by omega)
  omega
theorem Qh4 (a b:qa2):qba prog Gl 86 [.d a.toD,.d b.toD] (.d (.int .i64 (qep a b))):=by
 refine qba.of2 ?_
 refine qac func86 rfl rfl (by simp[ntmps86]) (qab rfl _ _ _ _ ?_)
 simp only[ntmps86,results86,qak,List.length_nil]
 simp only[zU,seval]
 refine⟨.inl (by kernel_rfl),qad (qz8 _ _) ?_⟩
 simp only[zU,seval]
 refine qad (qjt _ _) ?_
 simp only[zU,seval]
 repeat((with_reducible apply aI);exact sdp)
 refine qjz 2 (fun B hB=>Qwh [q6z a.name b.name,qv7 a.at_ b.at_] (by simp) B hB) (fun _=>rfl) rfl ?_
 rw[Qg9]
 simp only[zU,seval]
 exact⟨_,_,qap,rfl,rfl⟩
theorem Qvp:q89 Gl [] DmT Qv5 86 []:=by
 refine⟨fun d hd=>?_,fun a b ha hb ys s hs=>?_,Qw3⟩
 ·obtain⟨x,rfl⟩:=hd
  exact⟨rfl,rfl⟩
 ·obtain⟨x,rfl⟩:=ha
  obtain⟨y,rfl⟩:=hb
  exact Qh4 x y s
def ltT (a b:qa2):Bool:=decide (qep a b<0)
theorem q7t (l:List qa2) (hl:l.length<1000000):qal prog Gl 85 [.osl 0 0 l.length,.fn 86 []] [.arr 3 (l.map qa2.toD)]
  (fun r s=>r=.tup []∧s=[.arr 3 ((qfv ltT l).map qa2.toD)]):=by
 have hx:∀y∈l.map qa2.toD,DmT y:=fun y hy=>by
  obtain⟨x,hx,rfl⟩:=List.mem_map.1 hy
  exact⟨x,rfl⟩
 have hsort:=qry (Gl:=Gl) (τ:=[]) DmT Qv5 86 [] Qvp (l.map qa2.toD) hx l.length (by simp) (by omega)
 refine hsort.mono fun r s hss=>?_
 obtain⟨rfl,zs,ρ,rfl,hA,hB,hid⟩:=hss
 refine⟨rfl,?_⟩
 have e:=q0v Qw3 hx (by simp) hA hB hid
 rw[qaz,q23,List.drop_of_length_le (by simp),List.append_nil] at e
 rw[e];rfl

theorem qci (g:List UInt8→Option (List UInt8)) (n:List UInt8):(qb0 g (.s n)).getD (.d (.str []))=.d (.str ((g n).getD [])):=by
 simp only[qb0];cases g n<;>rfl
def nmT (g:List UInt8→Option (List UInt8)) (x:qaj):qaj:={x with name:=(g x.name).getD []}
def nmS (g:List UInt8→Option (List UInt8)) (x:qag):qag:={x with name:=(g x.name).getD []}
def nmA (g:List UInt8→Option (List UInt8)) (x:qam):qam:={x with stack:=q2g g x.stack}
def nmB (g:List UInt8→Option (List UInt8)) (x:qar):qar:={x with stack:=q2g g x.stack}
def nmC (g:List UInt8→Option (List UInt8)) (x:qa2):qa2:={x with name:=(g x.name).getD []}
def Qpc (g1 g2 g3 g4:List UInt8→Option (List UInt8)) (t:qaw):qaw:=
 {t with threads:=t.threads.map (nmT g1),slices:=t.slices.map (nmS g2),samples:=t.samples.map (nmA g3),blocks:=t.blocks.map (nmB g3),steps:=qfv ltT (t.steps.map (nmC g4))}
theorem qf1 (g:List UInt8→Option (List UInt8)) (ρ:List Nat) (σ:Sto):qbx ρ σ (.map none (qb0 g))=.map none (qb0 g):=qg9 (B:=.map none (qb0 g)) (qzz g) ρ σ
theorem Qkk (g:List UInt8→Option (List UInt8)) (b:Nat→Nat):qdg b (.map none (qb0 g))=.map none (qb0 g):=qha (B:=.map none (qb0 g)) (qzz g) b
theorem qko (R:List D) (g1 g2 g3 g4:List UInt8→Option (List UInt8)) (x0 x1 x2 x3 x4:List D) (v w:AV) (σ:Sto) (hv:qbx [0,1,2,3,4,5,6,7,8,9,10,11,12,13,14,15] (.arr 3 x0::.arr 8 x1::.arr 4 x2::.arr 3 x3::.arr 7 x4::.map none (qb4 (some (.ptr 6 0)) (some (.ptr 8 0)) (some (.ptr 10 0)) (some (.ptr 12 0)))::.box 3 (.agg [.d (.sl R),.d (.str qau),.mapr 7])::.map none (qb0 g1)::.box 3 (.agg [.d (.sl R),.d (.str qa6),.mapr 9])::.map none (qb0 g2)::.box 3 (.agg [.d (.sl R),.d (.str qa7),.mapr 11])::.map none (qb0 g3)::.box 3 (.agg [.d (.sl R),.d (.str qat),.mapr 13])::.map none (qb0 g4)::.box 10 v::.box 10 w::σ) (.box 10 v)=.box 10 v)
  (hw:qbx [0,1,2,3,4,5,6,7,8,9,10,11,12,13,14,15] (.arr 3 x0::.arr 8 x1::.arr 4 x2::.arr 3 x3::.arr 7 x4::.map none (qb4 (some (.ptr 6 0)) (some (.ptr 8 0)) (some (.ptr 10 0)) (some (.ptr 12 0)))::.box 3 (.agg [.d (.sl R),.d (.str qau),.mapr 7])::.map none (qb0 g1)::.box 3 (.agg [.d (.sl R),.d (.str qa6),.mapr 9])::.map none (qb0 g2)::.box 3 (.agg [.d (.sl R),.d (.str qa7),.mapr 11])::.map none (qb0 g3)::.box 3 (.agg [.d (.sl R),.d (.str qat),.mapr 13])::.map none (qb0 g4)::.box 10 v::.box 10 w::σ) (.box 10 w)=.box 10 w) :
  qdp [0,1,2,3,4,5,6,7,8,9,10,11,12,13,14,15] (freezeL (.arr 3 x0::.arr 8 x1::.arr 4 x2::.arr 3 x3::.arr 7 x4::.map none (qb4 (some (.ptr 6 0)) (some (.ptr 8 0)) (some (.ptr 10 0)) (some (.ptr 12 0)))::.box 3 (.agg [.d (.sl R),.d (.str qau),.mapr 7])::.map none (qb0 g1)::.box 3 (.agg [.d (.sl R),.d (.str qa6),.mapr 9])::.map none (qb0 g2)::.box 3 (.agg [.d (.sl R),.d (.str qa7),.mapr 11])::.map none (qb0 g3)::.box 3 (.agg [.d (.sl R),.d (.str qat),.mapr 13])::.map none (qb0 g4)::.box 10 v::.box 10 w::σ) [])=[.arr 3 x0,.arr 8 x1,.arr 4 x2,.arr 3 x3,.arr 7 x4,.map none (qb4 (some (.ptr 6 0)) (some (.ptr 8 0)) (some (.ptr 10 0)) (some (.ptr 12 0))),.box 3 (.agg [.d (.sl R),.d (.str qau),.mapr 7]),.map none (qb0 g1),.box 3 (.agg [.d (.sl R),.d (.str qa6),.mapr 9]),.map none (qb0 g2),.box 3 (.agg [.d (.sl R),.d (.str qa7),.mapr 11]),.map none (qb0 g3),.box 3 (.agg [.d (.sl R),.d (.str qat),.mapr 13]),.map none (qb0 g4),.box 10 v,.box 10 w]:=by
 show[_,_,_,_,_,.map none (fun k=>(qb4 (some (.ptr 6 0)) (some (.ptr 8 0)) (some (.ptr 10 0)) (some (.ptr 12 0)) k).map (qbk _ _)),_,qbx _ _ (.map none (qb0 g1)),_,qbx _ _ (.map none (qb0 g2)),_,qbx _ _ (.map none (qb0 g3)),_,qbx _ _ (.map none (qb0 g4)),qbx _ _ (.box 10 v),qbx _ _ (.box 10 w)]=_
 rw[qe5,qf1,qf1,qf1,qf1]
 show[_,_,_,_,_,_,_,_,_,_,_,_,_,_,qbx [0,1,2,3,4,5,6,7,8,9,10,11,12,13,14,15] (.arr 3 x0::.arr 8 x1::.arr 4 x2::.arr 3 x3::.arr 7 x4::.map none (qb4 (some (.ptr 6 0)) (some (.ptr 8 0)) (some (.ptr 10 0)) (some (.ptr 12 0)))::.box 3 (.agg [.d (.sl R),.d (.str qau),.mapr 7])::.map none (qb0 g1)::.box 3 (.agg [.d (.sl R),.d (.str qa6),.mapr 9])::.map none (qb0 g2)::.box 3 (.agg [.d (.sl R),.d (.str qa7),.mapr 11])::.map none (qb0 g3)::.box 3 (.agg [.d (.sl R),.d (.str qat),.mapr 13])::.map none (qb0 g4)::.box 10 v::.box 10 w::σ) (.box 10 v),qbx [0,1,2,3,4,5,6,7,8,9,10,11,12,13,14,15] (.arr 3 x0::.arr 8 x1::.arr 4 x2::.arr 3 x3::.arr 7 x4::.map none (qb4 (some (.ptr 6 0)) (some (.ptr 8 0)) (some (.ptr 10 0)) (some (.ptr 12 0)))::.box 3 (.agg [.d (.sl R),.d (.str qau),.mapr 7])::.map none (qb0 g1)::.box 3 (.agg [.d (.sl R),.d (.str qa6),.mapr 9])::.map none (qb0 g2)::.box 3 (.agg [.d (.sl R),.d (.str qa7),.mapr 11])::.map none (qb0 g3)::.box 3 (.agg [.d (.sl R),.d (.str qat),.mapr 13])::.map none (qb0 g4)::.box 10 v::.box 10 w::σ) (.box 10 w)]=_
 rw[hv,hw];rfl
theorem Qq6 (R:List D) (g1 g2 g3 g4:List UInt8→Option (List UInt8)) (x0 x1 x2 x3 x4:List D) (σ:Sto) :
  qdp [0,1,2,3,4,5,6,7,8,9,10,11,12,13] (freezeL (.arr 3 x0::.arr 8 x1::.arr 4 x2::.arr 3 x3::.arr 7 x4::.map none (qb4 (some (.ptr 6 0)) (some (.ptr 8 0)) (some (.ptr 10 0)) (some (.ptr 12 0)))::.box 3 (.agg [.d (.sl R),.d (.str qau),.mapr 7])::.map none (qb0 g1)::.box 3 (.agg [.d (.sl R),.d (.str qa6),.mapr 9])::.map none (qb0 g2)::.box 3 (.agg [.d (.sl R),.d (.str qa7),.mapr 11])::.map none (qb0 g3)::.box 3 (.agg [.d (.sl R),.d (.str qat),.mapr 13])::.map none (qb0 g4)::σ) [])=[.arr 3 x0,.arr 8 x1,.arr 4 x2,.arr 3 x3,.arr 7 x4,.map none (qb4 (some (.ptr 6 0)) (some (.ptr 8 0)) (some (.ptr 10 0)) (some (.ptr 12 0))),.box 3 (.agg [.d (.sl R),.d (.str qau),.mapr 7]),.map none (qb0 g1),.box 3 (.agg [.d (.sl R),.d (.str qa6),.mapr 9]),.map none (qb0 g2),.box 3 (.agg [.d (.sl R),.d (.str qa7),.mapr 11]),.map none (qb0 g3),.box 3 (.agg [.d (.sl R),.d (.str qat),.mapr 13]),.map none (qb0 g4)]:=by
 show[_,_,_,_,_,.map none (fun k=>(qb4 (some (.ptr 6 0)) (some (.ptr 8 0)) (some (.ptr 10 0)) (some (.ptr 12 0)) k).map (qbk _ _)),_,qbx _ _ (.map none (qb0 g1)),_,qbx _ _ (.map none (qb0 g2)),_,qbx _ _ (.map none (qb0 g3)),_,qbx _ _ (.map none (qb0 g4))]=_
 rw[qe5,qf1,qf1,qf1,qf1]
 rfl
theorem Qd3 (R:List D) (g1 g2 g3 g4:List UInt8→Option (List UInt8)) (t:qaw) (ht:t.lim) (hs:t.limS):qal prog Gl 45 [qfy t,.mapr 5] (Qlb t++[.map none (qb4 (some (.ptr 6 0)) (some (.ptr 8 0)) (some (.ptr 10 0)) (some (.ptr 12 0))),.box 3 (.agg [.d (.sl R),.d (.str qau),.mapr 7]),.map none (qb0 g1),.box 3 (.agg [.d (.sl R),.d (.str qa6),.mapr 9]),.map none (qb0 g2),.box 3 (.agg [.d (.sl R),.d (.str qa7),.mapr 11]),.map none (qb0 g3),.box 3 (.agg [.d (.sl R),.d (.str qat),.mapr 13]),.map none (qb0 g4)])
  (fun r s=>r=qfy (Qpc g1 g2 g3 g4 t)∧s=Qlb (Qpc g1 g2 g3 g4 t)++[.map none (qb4 (some (.ptr 6 0)) (some (.ptr 8 0)) (some (.ptr 10 0)) (some (.ptr 12 0))),.box 3 (.agg [.d (.sl R),.d (.str qau),.mapr 7]),.map none (qb0 g1),.box 3 (.agg [.d (.sl R),.d (.str qa6),.mapr 9]),.map none (qb0 g2),.box 3 (.agg [.d (.sl R),.d (.str qa7),.mapr 11]),.map none (qb0 g3),.box 3 (.agg [.d (.sl R),.d (.str qat),.mapr 13]),.map none (qb0 g4)]):=by
 obtain⟨h1,h2,h3,h4,h5,h6,h7,h8⟩:=ht
 refine qac func45 rfl rfl (by simp[ntmps45]) (qab rfl _ _ _ _ ?_)
 simp only[ntmps45,results45,qak,List.length_nil]
 simp only[zU,seval,L1,L2,L3,L4,qci,Qlb,qfy]
 refine qan t.threads.length (fun k=>[(1,.mapr 5),(2,.ptr 14 0),(4,.ptr 15 0),(16,.osl 0 0 t.threads.length),(17,.d (.int .i64 t.threads.length)),(18,.d (.int .i64 k))])
  (fun k=>[.arr 3 ((qew (nmT g1) t.threads k).map qaj.toD),.arr 8 (t.slices.map qag.toD),.arr 4 (t.samples.map qam.toD),.arr 3 (t.steps.map qa2.toD),.arr 7 (t.blocks.map qar.toD),.map none (qb4 (some (.ptr 6 0)) (some (.ptr 8 0)) (some (.ptr 10 0)) (some (.ptr 12 0))),.box 3 (.agg [.d (.sl R),.d (.str qau),.mapr 7]),.map none (qb0 g1),.box 3 (.agg [.d (.sl R),.d (.str qa6),.mapr 9]),.map none (qb0 g2),.box 3 (.agg [.d (.sl R),.d (.str qa7),.mapr 11]),.map none (qb0 g3),.box 3 (.agg [.d (.sl R),.d (.str qat),.mapr 13]),.map none (qb0 g4),.box 10 (qfy t),.box 10 zT]) (fun _=>True) trivial ?_ ?_
 ·refine qaa [] [0,1,2,3,4,5,6,7,8,9,10,11,12,13,14,15] rfl (by simp) ?_ ?_
  ·simp only[zU,seval,L1,L2,L3,L4,qci]
   try rfl
  ·rw[qdr]
   exact qko R g1 g2 g3 g4 _ _ _ _ _ (qfy t) zT _ rfl rfl
 intro k _ hk
 by_cases h:k<t.threads.length
 ·obtain⟨x,hx⟩:∃x,x=t.threads.getD k default:=⟨_,rfl⟩
  have hml:=qeh (nmT g1) t.threads k
  have eg:((qew (nmT g1) t.threads k).map qaj.toD).getD k default=x.toD:=by rw[qah _ _ _ (by omega),qei _ h,←hx]
  have est:(qew (nmT g1) t.threads k).set k (nmT g1 x)=qew (nmT g1) t.threads (k+1):=by rw[hx,qeg _ h]
  simp only[zU,seval,L1,L2,L3,L4,qci,qfy,(show(k:Int)<t.threads.length by omega),h,eg,hml]
  repeat((with_reducible apply aI);exact sdp)
  refine qaa [] [0,1,2,3,4,5,6,7,8,9,10,11,12,13,14,15] rfl (by simp) ?_ ?_
  ·simp only[zU,seval,L1,L2,L3,L4,qci,@qaf ((k:Int)+1) (by omega)]
   try rfl
  ·rw[←est,List.map_set]
   exact qko R g1 g2 g3 g4 _ _ _ _ _ (qfy t) zT _ rfl rfl
 have:k=t.threads.length:=by omega
 subst this
 rw[qej]
 simp only[zU,seval,L1,L2,L3,L4,qci,qfy,(show ¬(t.threads.length:Int)<t.threads.length by omega)]
 refine qan t.slices.length (fun k=>[(1,.mapr 5),(2,.ptr 14 0),(4,.ptr 15 0),(38,.osl 1 0 t.slices.length),(39,.d (.int .i64 t.slices.length)),(40,.d (.int .i64 k))])
  (fun k=>[.arr 3 ((t.threads.map (nmT g1)).map qaj.toD),.arr 8 ((qew (nmS g2) t.slices k).map qag.toD),.arr 4 (t.samples.map qam.toD),.arr 3 (t.steps.map qa2.toD),.arr 7 (t.blocks.map qar.toD),.map none (qb4 (some (.ptr 6 0)) (some (.ptr 8 0)) (some (.ptr 10 0)) (some (.ptr 12 0))),.box 3 (.agg [.d (.sl R),.d (.str qau),.mapr 7]),.map none (qb0 g1),.box 3 (.agg [.d (.sl R),.d (.str qa6),.mapr 9]),.map none (qb0 g2),.box 3 (.agg [.d (.sl R),.d (.str qa7),.mapr 11]),.map none (qb0 g3),.box 3 (.agg [.d (.sl R),.d (.str qat),.mapr 13]),.map none (qb0 g4),.box 10 (qfy t),.box 10 zT]) (fun _=>True) trivial ?_ ?_
 ·refine qaa [] [0,1,2,3,4,5,6,7,8,9,10,11,12,13,14,15] rfl (by simp) ?_ ?_
  ·simp only[zU,seval,L1,L2,L3,L4,qci]
   try rfl
  ·rw[qdr]
   exact qko R g1 g2 g3 g4 _ _ _ _ _ (qfy t) zT _ rfl rfl
 intro k _ hk
 by_cases h:k<t.slices.length
 ·obtain⟨x,hx⟩:∃x,x=t.slices.getD k default:=⟨_,rfl⟩
  have hml:=qeh (nmS g2) t.slices k
  have eg:((qew (nmS g2) t.slices k).map qag.toD).getD k default=x.toD:=by rw[qah _ _ _ (by omega),qei _ h,←hx]
  have est:(qew (nmS g2) t.slices k).set k (nmS g2 x)=qew (nmS g2) t.slices (k+1):=by rw[hx,qeg _ h]
  simp only[zU,seval,L1,L2,L3,L4,qci,qfy,(show(k:Int)<t.slices.length by omega),h,eg,hml]
  repeat((with_reducible apply aI);exact sdp)
  refine qaa [] [0,1,2,3,4,5,6,7,8,9,10,11,12,13,14,15] rfl (by simp) ?_ ?_
  ·simp only[zU,seval,L1,L2,L3,L4,qci,@qaf ((k:Int)+1) (by omega)]
   try rfl
  ·rw[←est,List.map_set]
   exact qko R g1 g2 g3 g4 _ _ _ _ _ (qfy t) zT _ rfl rfl
 have:k=t.slices.length:=by omega
 subst this
 rw[qej]
 simp only[zU,seval,L1,L2,L3,L4,qci,qfy,(show ¬(t.slices.length:Int)<t.slices.length by omega)]
 refine qan t.samples.length (fun k=>[(1,.mapr 5),(2,.ptr 14 0),(4,.ptr 15 0),(60,.osl 2 0 t.samples.length),(61,.d (.int .i64 t.samples.length)),(62,.d (.int .i64 k))])
  (fun k=>[.arr 3 ((t.threads.map (nmT g1)).map qaj.toD),.arr 8 ((t.slices.map (nmS g2)).map qag.toD),.arr 4 ((qew (nmA g3) t.samples k).map qam.toD),.arr 3 (t.steps.map qa2.toD),.arr 7 (t.blocks.map qar.toD),.map none (qb4 (some (.ptr 6 0)) (some (.ptr 8 0)) (some (.ptr 10 0)) (some (.ptr 12 0))),.box 3 (.agg [.d (.sl R),.d (.str qau),.mapr 7]),.map none (qb0 g1),.box 3 (.agg [.d (.sl R),.d (.str qa6),.mapr 9]),.map none (qb0 g2),.box 3 (.agg [.d (.sl R),.d (.str qa7),.mapr 11]),.map none (qb0 g3),.box 3 (.agg [.d (.sl R),.d (.str qat),.mapr 13]),.map none (qb0 g4),.box 10 (qfy t),.box 10 zT]) (fun _=>True) trivial ?_ ?_
 ·refine qaa [] [0,1,2,3,4,5,6,7,8,9,10,11,12,13,14,15] rfl (by simp) ?_ ?_
  ·simp only[zU,seval,L1,L2,L3,L4,qci]
   try rfl
  ·rw[qdr]
   exact qko R g1 g2 g3 g4 _ _ _ _ _ (qfy t) zT _ rfl rfl
 intro k _ hk
 by_cases h:k<t.samples.length
 ·obtain⟨x,hx⟩:∃x,x=t.samples.getD k default:=⟨_,rfl⟩
  have hml:=qeh (nmA g3) t.samples k
  have eg:((qew (nmA g3) t.samples k).map qam.toD).getD k default=x.toD:=by rw[qah _ _ _ (by omega),qei _ h,←hx]
  have est:(qew (nmA g3) t.samples k).set k (nmA g3 x)=qew (nmA g3) t.samples (k+1):=by rw[hx,qeg _ h]
  simp only[zU,seval,L1,L2,L3,L4,qci,qfy,(show(k:Int)<t.samples.length by omega),h,eg,hml]
  repeat((with_reducible apply aI);exact sdp)
  have hxs:=hs.1 x (by rw[hx];exact qcd h)
  refine qhr (Qco [10,11] [.box 3 (.agg [.d (.sl R),.d (.str qa7),.mapr 1]),.map none (qb0 g3)] (by simp) (by simp[qae,Blk.frozen,Blk.isDead]) (Qrt R qa7 g3 x.stack hxs) (fun s=>rfl) (fun s hb=>?_) (fun N=>hk2 rfl (Qkk g3 _))) ?_
  ·show[qbx [10,11] s (qae s 10),qbx [10,11] s (qae s 11)]=_
   rw[hb 10 (by simp),hb 11 (by simp)]
   show[_,qbx [10,11] s (.map none (qb0 g3))]=_
   rw[qf1];rfl
  simp only[zU,seval,L1,L2,L3,L4,qci,qfy,(show(k:Int)<t.samples.length by omega),h,eg,hml]
  repeat((with_reducible apply aI);exact sdp)
  refine qaa [] [0,1,2,3,4,5,6,7,8,9,10,11,12,13,14,15] rfl (by simp) ?_ ?_
  ·simp only[zU,seval,L1,L2,L3,L4,qci,@qaf ((k:Int)+1) (by omega)]
   try rfl
  ·rw[←est,List.map_set]
   exact qko R g1 g2 g3 g4 _ _ _ _ _ (qfy t) zT _ rfl rfl
 have:k=t.samples.length:=by omega
 subst this
 rw[qej]
 simp only[zU,seval,L1,L2,L3,L4,qci,qfy,(show ¬(t.samples.length:Int)<t.samples.length by omega)]
 refine qan t.blocks.length (fun k=>[(1,.mapr 5),(2,.ptr 14 0),(4,.ptr 15 0),(79,.osl 4 0 t.blocks.length),(80,.d (.int .i64 t.blocks.length)),(81,.d (.int .i64 k))])
  (fun k=>[.arr 3 ((t.threads.map (nmT g1)).map qaj.toD),.arr 8 ((t.slices.map (nmS g2)).map qag.toD),.arr 4 ((t.samples.map (nmA g3)).map qam.toD),.arr 3 (t.steps.map qa2.toD),.arr 7 ((qew (nmB g3) t.blocks k).map qar.toD),.map none (qb4 (some (.ptr 6 0)) (some (.ptr 8 0)) (some (.ptr 10 0)) (some (.ptr 12 0))),.box 3 (.agg [.d (.sl R),.d (.str qau),.mapr 7]),.map none (qb0 g1),.box 3 (.agg [.d (.sl R),.d (.str qa6),.mapr 9]),.map none (qb0 g2),.box 3 (.agg [.d (.sl R),.d (.str qa7),.mapr 11]),.map none (qb0 g3),.box 3 (.agg [.d (.sl R),.d (.str qat),.mapr 13]),.map none (qb0 g4),.box 10 (qfy t),.box 10 zT]) (fun _=>True) trivial ?_ ?_
 ·refine qaa [] [0,1,2,3,4,5,6,7,8,9,10,11,12,13,14,15] rfl (by simp) ?_ ?_
  ·simp only[zU,seval,L1,L2,L3,L4,qci]
   try rfl
  ·rw[qdr]
   exact qko R g1 g2 g3 g4 _ _ _ _ _ (qfy t) zT _ rfl rfl
 intro k _ hk
 by_cases h:k<t.blocks.length
 ·obtain⟨x,hx⟩:∃x,x=t.blocks.getD k default:=⟨_,rfl⟩
  have hml:=qeh (nmB g3) t.blocks k
  have eg:((qew (nmB g3) t.blocks k).map qar.toD).getD k default=x.toD:=by rw[qah _ _ _ (by omega),qei _ h,←hx]
  have est:(qew (nmB g3) t.blocks k).set k (nmB g3 x)=qew (nmB g3) t.blocks (k+1):=by rw[hx,qeg _ h]
  simp only[zU,seval,L1,L2,L3,L4,qci,qfy,(show(k:Int)<t.blocks.length by omega),h,eg,hml]
  repeat((with_reducible apply aI);exact sdp)
  have hxs:=hs.2 x (by rw[hx];exact qcd h)
  refine qhr (Qco [10,11] [.box 3 (.agg [.d (.sl R),.d (.str qa7),.mapr 1]),.map none (qb0 g3)] (by simp) (by simp[qae,Blk.frozen,Blk.isDead]) (Qrt R qa7 g3 x.stack hxs) (fun s=>rfl) (fun s hb=>?_) (fun N=>hk2 rfl (Qkk g3 _))) ?_
  ·show[qbx [10,11] s (qae s 10),qbx [10,11] s (qae s 11)]=_
   rw[hb 10 (by simp),hb 11 (by simp)]
   show[_,qbx [10,11] s (.map none (qb0 g3))]=_
   rw[qf1];rfl
  simp only[zU,seval,L1,L2,L3,L4,qci,qfy,(show(k:Int)<t.blocks.length by omega),h,eg,hml]
  repeat((with_reducible apply aI);exact sdp)
  refine qaa [] [0,1,2,3,4,5,6,7,8,9,10,11,12,13,14,15] rfl (by simp) ?_ ?_
  ·simp only[zU,seval,L1,L2,L3,L4,qci,@qaf ((k:Int)+1) (by omega)]
   try rfl
  ·rw[←est,List.map_set]
   exact qko R g1 g2 g3 g4 _ _ _ _ _ (qfy t) zT _ rfl rfl
 have:k=t.blocks.length:=by omega
 subst this
 rw[qej]
 simp only[zU,seval,L1,L2,L3,L4,qci,qfy,(show ¬(t.blocks.length:Int)<t.blocks.length by omega)]
 refine qan t.steps.length (fun k=>[(1,.mapr 5),(2,.ptr 14 0),(4,.ptr 15 0),(98,.osl 3 0 t.steps.length),(99,.d (.int .i64 t.steps.length)),(100,.d (.int .i64 k))])
  (fun k=>[.arr 3 ((t.threads.map (nmT g1)).map qaj.toD),.arr 8 ((t.slices.map (nmS g2)).map qag.toD),.arr 4 ((t.samples.map (nmA g3)).map qam.toD),.arr 3 ((qew (nmC g4) t.steps k).map qa2.toD),.arr 7 ((t.blocks.map (nmB g3)).map qar.toD),.map none (qb4 (some (.ptr 6 0)) (some (.ptr 8 0)) (some (.ptr 10 0)) (some (.ptr 12 0))),.box 3 (.agg [.d (.sl R),.d (.str qau),.mapr 7]),.map none (qb0 g1),.box 3 (.agg [.d (.sl R),.d (.str qa6),.mapr 9]),.map none (qb0 g2),.box 3 (.agg [.d (.sl R),.d (.str qa7),.mapr 11]),.map none (qb0 g3),.box 3 (.agg [.d (.sl R),.d (.str qat),.mapr 13]),.map none (qb0 g4),.box 10 (qfy t),.box 10 zT]) (fun _=>True) trivial ?_ ?_
 ·refine qaa [] [0,1,2,3,4,5,6,7,8,9,10,11,12,13,14,15] rfl (by simp) ?_ ?_
  ·simp only[zU,seval,L1,L2,L3,L4,qci]
   try rfl
  ·rw[qdr]
   exact qko R g1 g2 g3 g4 _ _ _ _ _ (qfy t) zT _ rfl rfl
 intro k _ hk
 by_cases h:k<t.steps.length
 ·obtain⟨x,hx⟩:∃x,x=t.steps.getD k default:=⟨_,rfl⟩
  have hml:=qeh (nmC g4) t.steps k
  have eg:((qew (nmC g4) t.steps k).map qa2.toD).getD k default=x.toD:=by rw[qah _ _ _ (by omega),qei _ h,←hx]
  have est:(qew (nmC g4) t.steps k).set k (nmC g4 x)=qew (nmC g4) t.steps (k+1):=by rw[hx,qeg _ h]
  simp only[zU,seval,L1,L2,L3,L4,qci,qfy,(show(k:Int)<t.steps.length by omega),h,eg,hml]
  repeat((with_reducible apply aI);exact sdp)
  refine qaa [] [0,1,2,3,4,5,6,7,8,9,10,11,12,13,14,15] rfl (by simp) ?_ ?_
  ·simp only[zU,seval,L1,L2,L3,L4,qci,@qaf ((k:Int)+1) (by omega)]
   try rfl
  ·rw[←est,List.map_set]
   exact qko R g1 g2 g3 g4 _ _ _ _ _ (qfy t) zT _ rfl rfl
 have:k=t.steps.length:=by omega
 subst this
 rw[qej]
 simp only[zU,seval,L1,L2,L3,L4,qci,qfy,(show ¬(t.steps.length:Int)<t.steps.length by omega)]
 obtain⟨L,hL⟩:∃L,L=t.steps.map (nmC g4):=⟨_,rfl⟩
 have hLl:t.steps.length=L.length:=by rw[hL,List.length_map]
 have hrl:(Qpc g1 g2 g3 g4 t).steps.length=t.steps.length:=by rw[Qpc,qfo,List.length_map]
 rw[←hL,hLl]
 refine Qkc 3 (by simp) rfl (q7t L (by omega)) (fun r s hr=>?_)
 obtain⟨rfl,rfl⟩:=hr
 rw[q0q (by simp)]
 simp only[zU,seval,L1,L2,L3,L4,qci]
 repeat((with_reducible apply aI);exact sdp)
 rw[hrl,hLl]
 refine⟨_,_,qai [] [0,1,2,3,4,5,6,7,8,9,10,11,12,13] rfl (by simp) rfl (Qq6 R g1 g2 g3 g4 _ _ _ _ _ _),?_,?_⟩
 ·simp only[Qpc,List.length_map];rfl
 ·simp only[Qpc,hL]

theorem L1s (a b c d:Option AV):qb4 a b c d (.s qau)=a:=L1 a b c d
theorem L2s (a b c d:Option AV):qb4 a b c d (.s qa6)=b:=L2 a b c d
theorem L3s (a b c d:Option AV):qb4 a b c d (.s qa7)=c:=L3 a b c d
theorem L4s (a b c d:Option AV):qb4 a b c d (.s qat)=d:=L4 a b c d
theorem M1s (a b c d:Option AV) (v:AV):qgs (qb4 a b c d) (.s qau) v=qb4 (some v) b c d:=M1 a b c d v
theorem M2s (a b c d:Option AV) (v:AV):qgs (qb4 a b c d) (.s qa6) v=qb4 a (some v) c d:=M2 a b c d v
theorem M3s (a b c d:Option AV) (v:AV):qgs (qb4 a b c d) (.s qa7) v=qb4 a b (some v) d:=M3 a b c d v
theorem M4s (a b c d:Option AV) (v:AV):qgs (qb4 a b c d) (.s qat) v=qb4 a b c (some v):=M4 a b c d v
theorem qq4 (p:Bool) (i n:Nat):((val p i n).getD .nils).vg=true:=by cases p<;>rfl
theorem qq3 (p:Bool) (i n:Nat):((val p i n).getD .nils).un=(val p i n).getD .nils:=by cases p<;>rfl
theorem Qj9 (p:qag→Bool):∀(l:List qag) (u:List qag×List Int),(l.foldl (qb9 p) u).1.length≤u.1.length+l.length
 | [],u=>by simp
 | s::l,u=>by
  have ih:=Qj9 p l (qb9 p u s)
  have h:(qb9 p u s).1.length≤u.1.length+1:=by
   unfold qb9;split<;>simp
  simp only[List.foldl_cons,List.length_cons];omega
theorem Qka (p:qag→Bool) (l:List qag):(chF p l).1.length≤l.length:=by
 have:=Qj9 p l ([],[]);simpa[chF] using this
theorem qve {o:List qag}:∀j,j<o.length→((qds o).getD j default).thread=(o.getD j default).thread∧((qds o).getD j default).parent=(o.getD j default).parent∧((qds o).getD j default).name=(o.getD j default).name∧((qds o).getD j default).lo=(o.getD j default).lo∧((qds o).getD j default).hi=(o.getD j default).hi∧((qds o).getD j default).open_=(o.getD j default).open_:=by
 obtain⟨n,hn⟩:∃n,n=o.length:=⟨_,rfl⟩
 induction n generalizing o with
 | zero=>intro j hj;omega
 | succ n ih=>
  rcases List.eq_nil_or_concat o with rfl|⟨v,s,rfl⟩
  ·simp at hn
  rw[List.concat_eq_append] at hn ⊢
  have hv:n=v.length:=by rw[List.length_append] at hn;simp at hn;exact hn
  intro j hj
  have hj:j<v.length+1:=by simpa using hj
  have hl:=qdi v
  rw[qfr,qcm,qff _ _ _ (by rw[qjq];omega),qjq,qff _ _ _ hj,hl]
  by_cases hjn:j<v.length
  ·rw[if_pos hjn,if_pos hjn]
   have h0:=ih hv j hjn
   unfold qis
   split
   ·by_cases hjp:s.parent.toNat=j
    ·subst hjp
     have hjf:s.parent.toNat<(qds v).length:=by omega
     have e:∀z,((qds v).set s.parent.toNat z).getD s.parent.toNat default=z:=fun z=>by simp[hjf]
     rw[e];exact h0
    ·have e:∀z,((qds v).set s.parent.toNat z).getD j default=(qds v).getD j default:=fun z=>by
      rw[List.getD_eq_getElem?_getD,List.getElem?_set_ne hjp,List.getD_eq_getElem?_getD]
     rw[e];exact h0
   ·exact h0
  ·rw[if_neg hjn,if_neg hjn]
   exact⟨rfl,rfl,rfl,rfl,rfl,rfl⟩
theorem Qi9 {o:List qag} (h:qe8 o):qe8 (qds o):=by
 intro i hi
 rw[qdi] at hi
 obtain⟨_,e2,_,e4,e5,_⟩:=qve (o:=o) i hi
 rw[e2,e4,e5];exact h i hi
theorem Qjx {l:List qao} {t:qaw} (h:t.lim):(qfg l t).lim:=by
 obtain⟨h1,h2,h3,h4,h5,h6,h7,h8⟩:=h
 refine⟨Nat.le_trans (List.length_filter_le _ _) h1,?_,Nat.le_trans (qj7 _ _) h3,Nat.le_trans (List.length_filter_le _ _) h4,Nat.le_trans (List.length_filter_le _ _) h5,h6,Nat.le_trans (List.length_filter_le _ _) h7,Nat.le_trans (List.length_filter_le _ _) h8⟩
 show(qds _).length≤1000
 rw[qdi];exact Nat.le_trans (Qka _ _) h2
theorem Qer {l:List qao} {t:qaw} (h:t.limS):(qfg l t).limS:=
 ⟨fun x hx=>h.1 x (List.mem_filter.1 hx).1,fun x hx=>h.2 x (List.mem_filter.1 hx).1⟩
theorem Qes {l:List qao} {t:qaw} (h:qe8 t.slices):qe8 (qfg l t).slices:=Qi9 (qhp _ h).2.2.2
theorem Qjy {l:List qao} {t:qaw} (h:t.lim):(qit l t).lim:=by
 obtain⟨h1,h2,h3,h4,h5,h6,h7,h8⟩:=h
 refine⟨h1,?_,h3,h4,?_,Nat.le_trans (List.length_filter_le _ _) h6,?_,h8⟩
 ·show(qds _).length≤1000
  rw[qdi];exact Nat.le_trans (Qka _ _) h2
 ·show(t.samples.map _).length≤1000
  rw[List.length_map];exact h5
 ·show(t.blocks.map _).length≤1000
  rw[List.length_map];exact h7
theorem Qet {l:List qao} {t:qaw} (h:t.limS):(qit l t).limS:=by
 refine⟨fun x hx=>?_,fun x hx=>?_⟩
 ·obtain⟨y,hy,rfl⟩:=List.mem_map.1 hx
  exact Nat.lt_of_le_of_lt (List.length_filter_le _ _) (h.1 y hy)
 ·obtain⟨y,hy,rfl⟩:=List.mem_map.1 hx
  exact Nat.lt_of_le_of_lt (List.length_filter_le _ _) (h.2 y hy)
def qhu:qaw:=⟨0,0,[],[],[],[],[],[],[],[]⟩
def q27 (t:qaw):Nat:=t.slices.length+t.states.length+t.flows.length+t.samples.length+t.steps.length+t.blocks.length+t.lost.length
def q8l (t:qaw):qaw:=if q27 t=0 then {t with lo:=0,hi:=0} else t
def qnj (l:List qao) (t:qaw):Bool:=qfh l qau (t.threads.map (·.name))||qfh l qa6 (t.slices.map (·.name))||qfh l qa7 (frN t)||qfh l qat (t.steps.map (·.name))
def Que (l:List qao) (t:qaw):qaw:=Qpc (qdd l qau (t.threads.map (·.name))) (qdd l qa6 (t.slices.map (·.name))) (qdd l qa7 (frN t)) (qdd l qat (t.steps.map (·.name))) t
def qoo (l:List qao) (t:qaw):qaw×Int:=
 if qht l≠0 then(qhu,qht l) else if qdo t≠0 then(qhu,qdo t)
 else if qnj l (qit l (qfg l t))=true then(qhu,4) else(q8l (Que l (qit l (qfg l t))),0)
theorem qq2 (b:Nat→Nat) (p:Bool) (i n:Nat):(val p i n).map (qgy b)=val p (b i) n:=by cases p<;>rfl
theorem q5x (l:List qao) (what:List UInt8) (s:List (List UInt8)) (hl:l.length<1000000) (hs:s.length<1000000) (σ:Sto):qal prog G2 36 [.d (.sl (l.map qao.toD)),.d (.str what),.d (.sl (s.map .str))] σ
  (fun r s'=>r=.tup [.ptr σ.length 0,.d (.bool (!qfh l what s))]∧s'=σ++[.box 3 (.agg [.d (.sl (l.map qao.toD)),.d (.str what),.mapr (σ.length+1)]),.map none (qb0 (qdd l what s))]):=by
 refine(qal.under_new (R:=fun r ν=>r=.tup [.ptr 0 0,.d (.bool (!qfh l what s))]∧ν=[.box 3 (.agg [.d (.sl (l.map qao.toD)),.d (.str what),.mapr 1]),.map none (qb0 (qdd l what s))]) [] [] (by simp) (by simp) rfl rfl (fun j i h=>by simp at h) ((qz4 l what s hl hs).mono fun r s' hr=>⟨_,by rw[List.nil_append],hr.1,hr.2⟩)).mono fun r s' hr=>?_
 obtain⟨r0,ν,⟨rfl,rfl⟩,rfl,rfl⟩:=hr
 refine⟨?_,?_⟩
 ·show AV.tup [.ptr (qb3 [] σ.length 0) 0,_]=_
  rfl
 ·show σ++[.box 3 (.agg [.d _,.d _,.mapr (qb3 [] σ.length 1)]),qdg _ (.map none (qb0 _))]=_
  rw[Qkk];rfl
theorem qrc {n m:Nat} {all:Array Oper} {rest:List Oper} {KK:Env→Sto→Prop} {env:Env} {dst:Option Tmp} (l:List qao) (what:List UInt8) (hl:l.length<1000000) (p:Bool) (i:Nat) (N:List (List UInt8)) (hN:N.length<1000000) (hn:N.length=m) (hp:p=false→N=[]) (σ:Sto) (hb:qae σ i=.frz 1 (N.map .str))
  (h2:qas prog G2 n all false rest (putE env dst (.tup [.ptr σ.length 0,.d (.bool (!qfh l what N))])) (σ++[.box 3 (.agg [.d (.sl (l.map qao.toD)),.d (.str what),.mapr (σ.length+1)]),.map none (qb0 (qdd l what N))]) KK) :
  qgj prog G2 n all false dst rest (.fn 36 []) [.d (.sl (l.map qao.toD)),.d (.str what),(val p i m).getD .nils] env σ KK:=by
 have hc:=(q5x l what N hl hN σ).mono (R':=fun r σ'=>qas prog G2 n all false rest (putE env dst r) σ' KK) fun r s hr=>by obtain⟨rfl,rfl⟩:=hr;exact h2
 cases p with
 | false=>
  have:=hp rfl
  subst this
  exact qvs hc
 | true=>
  subst hn
  refine qvs ?_
  have hil:i<σ.length:=by
   rcases Nat.lt_or_ge i σ.length with h|h
   ·exact h
   ·exfalso
    have:qae σ i=.dead:=by unfold qae;rw[List.getD_eq_getElem?_getD,List.getElem?_eq_none h];rfl
    rw[this] at hb;cases hb
  have e1:qlt σ (.osl i 0 N.length)=.d (.sl (N.map .str)):=by
   rw[qle _ _ _ _ (by rw[hb];rfl),hb]
   show AV.d (.sl (((N.map D.str).drop 0).take N.length))=_
   rw[List.drop_zero,List.take_of_length_le (by simp)]
  have e2:qi4 σ (.osl i 0 N.length)=[i]:=qrk _ _ _ _ (by rw[hb];rfl)
  have e3:freezeL σ [i]=σ:=by
   show σ.set i (qae σ i).frozen=σ
   rw[hb]
   apply List.ext_getElem?
   intro j
   rw[List.getElem?_set]
   split
   ·rename_i h;subst h
    have:σ[i]? = some (qae σ i):=by unfold qae;simp[hil]
    rw[this,hb];rfl
   ·rfl
  have e4:([.d (.sl (l.map qao.toD)),.d (.str what),(val true i N.length).getD .nils]++([]:List AV)).map (qlt σ)=[.d (.sl (l.map qao.toD)),.d (.str what),.d (.sl (N.map .str))]:=by
   show[_,_,qlt σ (.osl i 0 N.length)]=_
   rw[e1];rfl
  have e5:([.d (.sl (l.map qao.toD)),.d (.str what),(val true i N.length).getD .nils]++([]:List AV)).flatMap (qi4 σ)=[i]:=by
   show([]++([]++(qi4 σ (.osl i 0 N.length)++[])))=_
   rw[e2];rfl
  rw[e4,e5,e3]
  exact hc
theorem qn9 {α β:Type} {L:List α} (f:α→β) (h:decide (0<L.length)=false):L.map f=[]:=by
 have h1:¬0<L.length:=of_decide_eq_false h
 rw[List.eq_nil_of_length_eq_zero (show L.length=0 by omega)];rfl
theorem Qji {t:qaw} (h:decide (0<t.samples.length+t.blocks.length)=false):frN t=[]:=by
 have h1:¬0<t.samples.length+t.blocks.length:=of_decide_eq_false h
 rw[frN,List.eq_nil_of_length_eq_zero (show t.samples.length=0 by omega),List.eq_nil_of_length_eq_zero (show t.blocks.length=0 by omega)];rfl
theorem q8h (p:qam→Bool):∀l:List qam,(((l.filter p).map (·.stack)).flatten).length≤((l.map (·.stack)).flatten).length
 | []=>Nat.le_refl _
 | x::l=>by
  have ih:=q8h p l
  rw[List.filter_cons]
  split
  ·simp only[List.map_cons,List.flatten_cons,List.length_append];omega
  ·simp only[List.map_cons,List.flatten_cons,List.length_append];omega
theorem q8i (p:qar→Bool):∀l:List qar,(((l.filter p).map (·.stack)).flatten).length≤((l.map (·.stack)).flatten).length
 | []=>Nat.le_refl _
 | x::l=>by
  have ih:=q8i p l
  rw[List.filter_cons]
  split
  ·simp only[List.map_cons,List.flatten_cons,List.length_append];omega
  ·simp only[List.map_cons,List.flatten_cons,List.length_append];omega
theorem q8j (r:List qao):∀l:List qam,(((l.map (frS r)).map (·.stack)).flatten).length≤((l.map (·.stack)).flatten).length
 | []=>Nat.le_refl _
 | x::l=>by
  have ih:=q8j r l
  have h:(frS r x).stack.length≤x.stack.length:=List.length_filter_le _ _
  simp only[List.map_cons,List.flatten_cons,List.length_append];omega
theorem q8k (r:List qao):∀l:List qar,(((l.map (qv6 r)).map (·.stack)).flatten).length≤((l.map (·.stack)).flatten).length
 | []=>Nat.le_refl _
 | x::l=>by
  have ih:=q8k r l
  have h:(qv6 r x).stack.length≤x.stack.length:=List.length_filter_le _ _
  simp only[List.map_cons,List.flatten_cons,List.length_append];omega
theorem Qm8 (l:List qao) (t:qaw):(frN (qit l (qfg l t))).length≤(frN t).length:=by
 have a1:=q8j l (qfg l t).samples
 have a2:=q8k l (qfg l t).blocks
 have a3:=q8h (fun x=>!qco l t.threads x.thread) t.samples
 have a4:=q8i (fun x=>!qco l t.threads x.thread) t.blocks
 have e1:(frN (qit l (qfg l t))).length=((((qfg l t).samples.map (frS l)).map (·.stack)).flatten).length+((((qfg l t).blocks.map (qv6 l)).map (·.stack)).flatten).length:=by rw[frN,List.length_append];rfl
 have e2:(frN t).length=((t.samples.map (·.stack)).flatten).length+((t.blocks.map (·.stack)).flatten).length:=by rw[frN,List.length_append]
 have b1:((qfg l t).samples.map (·.stack))=((t.samples.filter (fun x=>!qco l t.threads x.thread)).map (·.stack)):=rfl
 have b2:((qfg l t).blocks.map (·.stack))=((t.blocks.filter (fun x=>!qco l t.threads x.thread)).map (·.stack)):=rfl
 rw[b1] at a1
 rw[b2] at a2
 omega
def okK (l:List qao) (t2:qaw) (k:Nat):Prop:=(0<k→qfh l qau (t2.threads.map (·.name))=false)∧(1<k→qfh l qa6 (t2.slices.map (·.name))=false)∧(2<k→qfh l qa7 (frN t2)=false)∧(3<k→qfh l qat (t2.steps.map (·.name))=false)
def hmK (k:Nat):Key→Option AV:=qb4 (if 0<k then some (.ptr 14 0) else none) (if 1<k then some (.ptr 16 0) else none) (if 2<k then some (.ptr 18 0) else none) (if 3<k then some (.ptr 20 0) else none)
def Qxl (l:List qao) (t2:qaw):Sto:=[.box 3 (.agg [.d (.sl (l.map qao.toD)),.d (.str qau),.mapr 15]),.map none (qb0 (qdd l qau (t2.threads.map (·.name)))),.box 3 (.agg [.d (.sl (l.map qao.toD)),.d (.str qa6),.mapr 17]),.map none (qb0 (qdd l qa6 (t2.slices.map (·.name)))),.box 3 (.agg [.d (.sl (l.map qao.toD)),.d (.str qa7),.mapr 19]),.map none (qb0 (qdd l qa7 (frN t2))),.box 3 (.agg [.d (.sl (l.map qao.toD)),.d (.str qat),.mapr 21]),.map none (qb0 (qdd l qat (t2.steps.map (·.name))))]
theorem Qip (l:List qao) (t:qaw) (hl:l.length<1000000) (hf:t.Few) (ht:t.lim) (hs:t.limS) (hg:qdo t=0→qe8 t.slices) (hfn:qdo t=0→(frN t).length<1000000):qba prog G2 20 [.d (.sl (l.map qao.toD)),.d t.toD] (.tup [.d (qoo l t).1.toD,.d (.int .i64 (qoo l t).2)]):=by
 refine qba.of2t2 ?_
 refine qac func20 rfl rfl (by simp[ntmps20]) (qab rfl _ _ _ _ ?_)
 simp only[ntmps20,results20,qak,List.length_nil]
 simp only[zU,seval,L1,L2,L3,L4,M1,M2,M3,M4,L1s,L2s,L3s,L4s,M1s,M2s,M3s,M4s,qq4,qq3]
 refine qad (q79 l hl) ?_
 simp only[zU,seval,L1,L2,L3,L4,M1,M2,M3,M4,L1s,L2s,L3s,L4s,M1s,M2s,M3s,M4s,qq4,qq3]
 refine ifC.mk (fun h0=>?_) (fun h0=>?_)
 ·have h0:qht l≠0:=by simpa using h0
  refine⟨_,_,qcq rfl (x:=qhu.toD) rfl,?_,rfl⟩
  rw[qoo,if_pos h0]
 have h0:qht l=0:=by simpa using h0
 (try simp only[zU,seval,L1,L2,L3,L4,M1,M2,M3,M4,L1s,L2s,L3s,L4s,M1s,M2s,M3s,M4s,qq4,qq3])
 refine qad (q5r t hf) ?_
 simp only[zU,seval,L1,L2,L3,L4,M1,M2,M3,M4,L1s,L2s,L3s,L4s,M1s,M2s,M3s,M4s,qq4,qq3]
 refine ifC.mk (fun h1=>?_) (fun h1=>?_)
 ·have h1:qdo t≠0:=by simpa using h1
  refine⟨_,_,qcq rfl (x:=qhu.toD) rfl,?_,rfl⟩
  rw[qoo,if_neg (by rw[h0];simp),if_pos h1]
 have h1:qdo t=0:=by simpa using h1
 have e0:qoo l t=if qnj l (qit l (qfg l t))=true then(qhu,4) else(q8l (Que l (qit l (qfg l t))),0):=by
  rw[qoo,if_neg (by rw[h0];simp),if_neg (by rw[h1];simp)]
 have g1:=hg h1
 have f1:=hfn h1
 (try simp only[zU,seval,L1,L2,L3,L4,M1,M2,M3,M4,L1s,L2s,L3s,L4s,M1s,M2s,M3s,M4s,qq4,qq3])
 refine qb1 (R:=fun r ν=>r=Qv7 (qfg l t)∧ν=[.arr 3 ((qfg l t).threads.map qaj.toD)]) [] [] (by simp) (by simp) rfl rfl (fun j i h=>by simp at h) ((q1n l t hl ht g1).mono fun r s hr=>⟨_,by rw[List.nil_append],hr.1,hr.2⟩) (fun r ν hr=>?_)
 obtain⟨rfl,rfl⟩:=hr
 obtain⟨t1,ht1⟩:∃t1,t1=qfg l t:=⟨_,rfl⟩
 have l1:t1.lim:=by rw[ht1];exact Qjx ht
 have s1:t1.limS:=by rw[ht1];exact Qer hs
 have g2:qe8 t1.slices:=by rw[ht1];exact Qes g1
 rw[←ht1] at e0 ⊢
 show qas _ _ _ _ _ _ (putE _ _ (.agg [.d (.int .i64 t1.lo),.d (.int .i64 t1.hi),.osl 2 0 t1.threads.length,.d (.sl (t1.slices.map qag.toD)),.d (.sl (t1.states.map qax.toD)),.d (.sl (t1.flows.map qbf.toD)),.d (.sl (t1.samples.map qam.toD)),.d (.sl (t1.steps.map qa2.toD)),.d (.sl (t1.blocks.map qar.toD)),.d (.sl (t1.lost.map qbr.toD))])) [.box 10 (.d t.toD),.box 10 zT,.arr 3 (t1.threads.map qaj.toD)] _
 simp only[zU,seval,L1,L2,L3,L4,M1,M2,M3,M4,L1s,L2s,L3s,L4s,M1s,M2s,M3s,M4s,qq4,qq3]
 refine qb1 (R:=fun r ν=>r=qfy (qit l t1)∧ν=(Qlb (qit l t1)).tail) [2] [.arr 3 (t1.threads.map qaj.toD)] (by simp) (by simp) rfl rfl (hk1 rfl) ((q7x l t1 hl l1 s1 g2).mono fun r s hr=>⟨(Qlb (qit l t1)).tail,by rw[hr.2];rfl,hr.1,rfl⟩) (fun r ν hr=>?_)
 obtain⟨rfl,rfl⟩:=hr
 obtain⟨t2,ht2⟩:∃t2,t2=qit l t1:=⟨_,rfl⟩
 have l2:t2.lim:=by rw[ht2];exact Qjy l1
 have s2:t2.limS:=by rw[ht2];exact Qet s1
 have et:t1.threads=t2.threads:=by rw[ht2];rfl
 rw[et,←ht2]
 rw[←ht2] at e0
 have hfr:(frN t2).length<1000000:=by rw[ht2,ht1];exact Nat.lt_of_le_of_lt (Qm8 l t) f1
 obtain⟨h1,h2,h3,h4,h5,h6,h7,h8⟩:=l2
 show qas _ _ _ _ _ _ (putE _ _ (.agg [.d (.int .i64 t2.lo),.d (.int .i64 t2.hi),.osl 2 0 t2.threads.length,.osl 3 0 t2.slices.length,.d (.sl (t2.states.map qax.toD)),.d (.sl (t2.flows.map qbf.toD)),.osl 4 0 t2.samples.length,.osl 5 0 t2.steps.length,.osl 6 0 t2.blocks.length,.d (.sl (t2.lost.map qbr.toD))])) [.box 10 (.d t.toD),.box 10 zT,.arr 3 (t2.threads.map qaj.toD),.arr 8 (t2.slices.map qag.toD),.arr 4 (t2.samples.map qam.toD),.arr 3 (t2.steps.map qa2.toD),.arr 7 (t2.blocks.map qar.toD)] _
 simp only[zU,seval,L1,L2,L3,L4,M1,M2,M3,M4,L1s,L2s,L3s,L4s,M1s,M2s,M3s,M4s,qq4,qq3]
 repeat((with_reducible apply aI);exact sdp)
 refine qb1 (R:=fun r ν=>r=.mapr 5∧ν=[.map none (qb4 (val (decide (0<t2.threads.length)) 6 t2.threads.length) (val (decide (0<t2.slices.length)) 7 t2.slices.length) (val (decide (0<t2.samples.length+t2.blocks.length)) 8 (frN t2).length) (val (decide (0<t2.steps.length)) 9 t2.steps.length)),
   .arr 1 ((t2.threads.map (·.name)).map .str),.arr 1 ((t2.slices.map (·.name)).map .str),.arr 1 ((frN t2).map .str),.arr 1 ((t2.steps.map (·.name)).map .str)]) [2,3,4,5,6] (Qlb t2) (by simp) (by simp) rfl rfl (fun j i h=>by rcases j with _|_|_|_|_|j<;>simp at h<;>subst h<;>rfl) ((Qmh t2 ⟨h1,h2,h3,h4,h5,h6,h7,h8⟩ s2).mono fun r s hr=>⟨_,by rw[hr.2];rfl,hr.1,rfl⟩) (fun r ν hr=>?_)
 obtain⟨rfl,rfl⟩:=hr
 have em:qdg (qb3 [2,3,4,5,6] 7) (.map none (qb4 (val (decide (0<t2.threads.length)) 6 t2.threads.length) (val (decide (0<t2.slices.length)) 7 t2.slices.length) (val (decide (0<t2.samples.length+t2.blocks.length)) 8 (frN t2).length) (val (decide (0<t2.steps.length)) 9 t2.steps.length)))=.map none (qb4 (val (decide (0<t2.threads.length)) 8 t2.threads.length) (val (decide (0<t2.slices.length)) 9 t2.slices.length) (val (decide (0<t2.samples.length+t2.blocks.length)) 10 (frN t2).length) (val (decide (0<t2.steps.length)) 11 t2.steps.length)):=by
  show Blk.map none _=_
  rw[qe5,qq2,qq2,qq2,qq2];rfl
 show qas _ _ _ _ _ _ (putE _ _ (.mapr 7)) [.box 10 (.agg [.d (.int .i64 t2.lo),.d (.int .i64 t2.hi),.osl 2 0 t2.threads.length,.osl 3 0 t2.slices.length,.d (.sl (t2.states.map qax.toD)),.d (.sl (t2.flows.map qbf.toD)),.osl 4 0 t2.samples.length,.osl 5 0 t2.steps.length,.osl 6 0 t2.blocks.length,.d (.sl (t2.lost.map qbr.toD))]),.box 10 zT,.arr 3 (t2.threads.map qaj.toD),.arr 8 (t2.slices.map qag.toD),.arr 4 (t2.samples.map qam.toD),.arr 3 (t2.steps.map qa2.toD),.arr 7 (t2.blocks.map qar.toD),qdg (qb3 [2,3,4,5,6] 7) (.map none (qb4 (val (decide (0<t2.threads.length)) 6 t2.threads.length) (val (decide (0<t2.slices.length)) 7 t2.slices.length) (val (decide (0<t2.samples.length+t2.blocks.length)) 8 (frN t2).length) (val (decide (0<t2.steps.length)) 9 t2.steps.length))),.arr 1 ((t2.threads.map (·.name)).map .str),.arr 1 ((t2.slices.map (·.name)).map .str),.arr 1 ((frN t2).map .str),.arr 1 ((t2.steps.map (·.name)).map .str)] _
 rw[em]
 simp only[zU,seval,L1,L2,L3,L4,M1,M2,M3,M4,L1s,L2s,L3s,L4s,M1s,M2s,M3s,M4s,qq4,qq3]
 repeat((with_reducible apply aI);exact sdp)
 refine qan 4 (fun k=>[(0,.d (.sl (l.map qao.toD))),(3,.ptr 0 0),(4,.ptr 1 0),(8,.mapr 7),(9,.mapr 12),(34,.osl 13 0 4),(35,.d (.int .i64 4)),(36,.d (.int .i64 k))]) (fun k=>[.box 10 (.agg [.d (.int .i64 t2.lo),.d (.int .i64 t2.hi),.osl 2 0 t2.threads.length,.osl 3 0 t2.slices.length,.d (.sl (t2.states.map qax.toD)),.d (.sl (t2.flows.map qbf.toD)),.osl 4 0 t2.samples.length,.osl 5 0 t2.steps.length,.osl 6 0 t2.blocks.length,.d (.sl (t2.lost.map qbr.toD))]),.box 10 zT,.arr 3 (t2.threads.map qaj.toD),.arr 8 (t2.slices.map qag.toD),.arr 4 (t2.samples.map qam.toD),.arr 3 (t2.steps.map qa2.toD),.arr 7 (t2.blocks.map qar.toD),.map none (qb4 (val (decide (0<t2.threads.length)) 8 t2.threads.length) (val (decide (0<t2.slices.length)) 9 t2.slices.length) (val (decide (0<t2.samples.length+t2.blocks.length)) 10 (frN t2).length) (val (decide (0<t2.steps.length)) 11 t2.steps.length)),.frz 1 ((t2.threads.map (·.name)).map .str),.frz 1 ((t2.slices.map (·.name)).map .str),.frz 1 ((frN t2).map .str),.frz 1 ((t2.steps.map (·.name)).map .str),.map none (hmK k),.arr 1 [.str qau,.str qa6,.str qa7,.str qat]]++(Qxl l t2).take (2*k)) (okK l t2) ⟨fun h=>absurd h (by omega),fun h=>absurd h (by omega),fun h=>absurd h (by omega),fun h=>absurd h (by omega)⟩ ?_ ?_
 ·refine qaa [8,9,10,11] [0,1,2,3,4,5,6,7,8,9,10,11,12,13] rfl (by simp) ?_ ?_
  ·simp only[zU,seval,L1,L2,L3,L4,M1,M2,M3,M4,L1s,L2s,L3s,L4s,M1s,M2s,M3s,M4s,qq4,qq3]
   try rfl
  ·rw[qum]
   show[_,_,_,_,_,_,_,qbx _ _ (.map none (qb4 (val (decide (0<t2.threads.length)) 8 t2.threads.length) (val (decide (0<t2.slices.length)) 9 t2.slices.length) (val (decide (0<t2.samples.length+t2.blocks.length)) 10 (frN t2).length) (val (decide (0<t2.steps.length)) 11 t2.steps.length))),_,_,_,_,.map none (fun k=>(qb4 none none none none k).map (qbk _ _)),_]=_
   rw[qiq _ _ _ _ _ _ _ _ rfl rfl rfl rfl,qe5];rfl
 intro k hok hk4
 have hk5:k=0∨k=1∨k=2∨k=3∨k=4:=by omega
 have hcol:∀b1 b2 b3 b4,qfh l qau (t2.threads.map (·.name))=b1→qfh l qa6 (t2.slices.map (·.name))=b2→qfh l qa7 (frN t2)=b3→qfh l qat (t2.steps.map (·.name))=b4→qnj l t2=(b1||b2||b3||b4):=fun b1 b2 b3 b4 q1 q2 q3 q4=>by rw[qnj,q1,q2,q3,q4]
 rcases hk5 with rfl|rfl|rfl|rfl|rfl
 ·show evC _ _ _ _ _ [(0,.d (.sl (l.map qao.toD))),(3,.ptr 0 0),(4,.ptr 1 0),(8,.mapr 7),(9,.mapr 12),(34,.osl 13 0 4),(35,.d (.int .i64 4)),(36,.d (.int .i64 0))] [.box 10 (.agg [.d (.int .i64 t2.lo),.d (.int .i64 t2.hi),.osl 2 0 t2.threads.length,.osl 3 0 t2.slices.length,.d (.sl (t2.states.map qax.toD)),.d (.sl (t2.flows.map qbf.toD)),.osl 4 0 t2.samples.length,.osl 5 0 t2.steps.length,.osl 6 0 t2.blocks.length,.d (.sl (t2.lost.map qbr.toD))]),.box 10 zT,.arr 3 (t2.threads.map qaj.toD),.arr 8 (t2.slices.map qag.toD),.arr 4 (t2.samples.map qam.toD),.arr 3 (t2.steps.map qa2.toD),.arr 7 (t2.blocks.map qar.toD),.map none (qb4 (val (decide (0<t2.threads.length)) 8 t2.threads.length) (val (decide (0<t2.slices.length)) 9 t2.slices.length) (val (decide (0<t2.samples.length+t2.blocks.length)) 10 (frN t2).length) (val (decide (0<t2.steps.length)) 11 t2.steps.length)),.frz 1 ((t2.threads.map (·.name)).map .str),.frz 1 ((t2.slices.map (·.name)).map .str),.frz 1 ((frN t2).map .str),.frz 1 ((t2.steps.map (·.name)).map .str),.map none (qb4 none none none none),.arr 1 [.str qau,.str qa6,.str qa7,.str qat]] _
  simp only[zU,seval,L1,L2,L3,L4,M1,M2,M3,M4,L1s,L2s,L3s,L4s,M1s,M2s,M3s,M4s,qq4,qq3]
  refine qrc l qau hl (decide (0<t2.threads.length)) 8 (t2.threads.map (·.name)) (by first|(simp only[List.length_map];omega)|omega) (by first|rfl|simp only[List.length_map]) (fun hp=>qn9 _ hp) _ rfl ?_
  simp only[zU,seval,L1,L2,L3,L4,M1,M2,M3,M4,L1s,L2s,L3s,L4s,M1s,M2s,M3s,M4s,qq4,qq3]
  refine ifC.mk (fun hc=>?_) (fun hc=>?_)
  ·refine⟨_,_,qcq rfl (x:=qhu.toD) rfl,?_,rfl⟩
   rw[e0,if_pos (by rw[qnj,hc];simp)]
  ·refine⟨⟨fun _=>hc,fun h=>absurd h (by omega),fun h=>absurd h (by omega),fun h=>absurd h (by omega)⟩,?_⟩
   refine qaa [] [0,1,2,3,4,5,6,7,8,9,10,11,12,13,14,15] rfl (by simp) ?_ ?_
   ·simp only[zU,seval,L1,L2,L3,L4,M1,M2,M3,M4,L1s,L2s,L3s,L4s,M1s,M2s,M3s,M4s,qq4,qq3,Int.reduceAdd]
    try rfl
   ·show[_,_,_,_,_,_,_,qbx _ _ (.map none (qb4 (val (decide (0<t2.threads.length)) 8 t2.threads.length) (val (decide (0<t2.slices.length)) 9 t2.slices.length) (val (decide (0<t2.samples.length+t2.blocks.length)) 10 (frN t2).length) (val (decide (0<t2.steps.length)) 11 t2.steps.length))),_,_,_,_,.map none (fun k=>(qb4 (some (.ptr 14 0)) none none none k).map (qbk _ _)),_,_,qbx _ _ (.map none (qb0 (qdd l qau (t2.threads.map (·.name)))))]=_
    rw[qiq _ _ _ _ _ _ _ _ rfl rfl rfl rfl,qe5,qf1];rfl
 ·show evC _ _ _ _ _ [(0,.d (.sl (l.map qao.toD))),(3,.ptr 0 0),(4,.ptr 1 0),(8,.mapr 7),(9,.mapr 12),(34,.osl 13 0 4),(35,.d (.int .i64 4)),(36,.d (.int .i64 1))] [.box 10 (.agg [.d (.int .i64 t2.lo),.d (.int .i64 t2.hi),.osl 2 0 t2.threads.length,.osl 3 0 t2.slices.length,.d (.sl (t2.states.map qax.toD)),.d (.sl (t2.flows.map qbf.toD)),.osl 4 0 t2.samples.length,.osl 5 0 t2.steps.length,.osl 6 0 t2.blocks.length,.d (.sl (t2.lost.map qbr.toD))]),.box 10 zT,.arr 3 (t2.threads.map qaj.toD),.arr 8 (t2.slices.map qag.toD),.arr 4 (t2.samples.map qam.toD),.arr 3 (t2.steps.map qa2.toD),.arr 7 (t2.blocks.map qar.toD),.map none (qb4 (val (decide (0<t2.threads.length)) 8 t2.threads.length) (val (decide (0<t2.slices.length)) 9 t2.slices.length) (val (decide (0<t2.samples.length+t2.blocks.length)) 10 (frN t2).length) (val (decide (0<t2.steps.length)) 11 t2.steps.length)),.frz 1 ((t2.threads.map (·.name)).map .str),.frz 1 ((t2.slices.map (·.name)).map .str),.frz 1 ((frN t2).map .str),.frz 1 ((t2.steps.map (·.name)).map .str),.map none (qb4 (some (.ptr 14 0)) none none none),.arr 1 [.str qau,.str qa6,.str qa7,.str qat],.box 3 (.agg [.d (.sl (l.map qao.toD)),.d (.str qau),.mapr 15]),.map none (qb0 (qdd l qau (t2.threads.map (·.name))))] _
  simp only[zU,seval,L1,L2,L3,L4,M1,M2,M3,M4,L1s,L2s,L3s,L4s,M1s,M2s,M3s,M4s,qq4,qq3]
  refine qrc l qa6 hl (decide (0<t2.slices.length)) 9 (t2.slices.map (·.name)) (by first|(simp only[List.length_map];omega)|omega) (by first|rfl|simp only[List.length_map]) (fun hp=>qn9 _ hp) _ rfl ?_
  simp only[zU,seval,L1,L2,L3,L4,M1,M2,M3,M4,L1s,L2s,L3s,L4s,M1s,M2s,M3s,M4s,qq4,qq3]
  refine ifC.mk (fun hc=>?_) (fun hc=>?_)
  ·refine⟨_,_,qcq rfl (x:=qhu.toD) rfl,?_,rfl⟩
   rw[e0,if_pos (by rw[qnj,hc];simp)]
  ·refine⟨⟨fun _=>hok.1 (by omega),fun _=>hc,fun h=>absurd h (by omega),fun h=>absurd h (by omega)⟩,?_⟩
   refine qaa [] [0,1,2,3,4,5,6,7,8,9,10,11,12,13,14,15,16,17] rfl (by simp) ?_ ?_
   ·simp only[zU,seval,L1,L2,L3,L4,M1,M2,M3,M4,L1s,L2s,L3s,L4s,M1s,M2s,M3s,M4s,qq4,qq3,Int.reduceAdd]
    try rfl
   ·show[_,_,_,_,_,_,_,qbx _ _ (.map none (qb4 (val (decide (0<t2.threads.length)) 8 t2.threads.length) (val (decide (0<t2.slices.length)) 9 t2.slices.length) (val (decide (0<t2.samples.length+t2.blocks.length)) 10 (frN t2).length) (val (decide (0<t2.steps.length)) 11 t2.steps.length))),_,_,_,_,.map none (fun k=>(qb4 (some (.ptr 14 0)) (some (.ptr 16 0)) none none k).map (qbk _ _)),_,_,qbx _ _ (.map none (qb0 (qdd l qau (t2.threads.map (·.name))))),_,qbx _ _ (.map none (qb0 (qdd l qa6 (t2.slices.map (·.name)))))]=_
    rw[qiq _ _ _ _ _ _ _ _ rfl rfl rfl rfl,qe5,qf1,qf1];rfl
 ·show evC _ _ _ _ _ [(0,.d (.sl (l.map qao.toD))),(3,.ptr 0 0),(4,.ptr 1 0),(8,.mapr 7),(9,.mapr 12),(34,.osl 13 0 4),(35,.d (.int .i64 4)),(36,.d (.int .i64 2))] [.box 10 (.agg [.d (.int .i64 t2.lo),.d (.int .i64 t2.hi),.osl 2 0 t2.threads.length,.osl 3 0 t2.slices.length,.d (.sl (t2.states.map qax.toD)),.d (.sl (t2.flows.map qbf.toD)),.osl 4 0 t2.samples.length,.osl 5 0 t2.steps.length,.osl 6 0 t2.blocks.length,.d (.sl (t2.lost.map qbr.toD))]),.box 10 zT,.arr 3 (t2.threads.map qaj.toD),.arr 8 (t2.slices.map qag.toD),.arr 4 (t2.samples.map qam.toD),.arr 3 (t2.steps.map qa2.toD),.arr 7 (t2.blocks.map qar.toD),.map none (qb4 (val (decide (0<t2.threads.length)) 8 t2.threads.length) (val (decide (0<t2.slices.length)) 9 t2.slices.length) (val (decide (0<t2.samples.length+t2.blocks.length)) 10 (frN t2).length) (val (decide (0<t2.steps.length)) 11 t2.steps.length)),.frz 1 ((t2.threads.map (·.name)).map .str),.frz 1 ((t2.slices.map (·.name)).map .str),.frz 1 ((frN t2).map .str),.frz 1 ((t2.steps.map (·.name)).map .str),.map none (qb4 (some (.ptr 14 0)) (some (.ptr 16 0)) none none),.arr 1 [.str qau,.str qa6,.str qa7,.str qat],.box 3 (.agg [.d (.sl (l.map qao.toD)),.d (.str qau),.mapr 15]),.map none (qb0 (qdd l qau (t2.threads.map (·.name)))),.box 3 (.agg [.d (.sl (l.map qao.toD)),.d (.str qa6),.mapr 17]),.map none (qb0 (qdd l qa6 (t2.slices.map (·.name))))] _
  simp only[zU,seval,L1,L2,L3,L4,M1,M2,M3,M4,L1s,L2s,L3s,L4s,M1s,M2s,M3s,M4s,qq4,qq3]
  refine qrc l qa7 hl (decide (0<t2.samples.length+t2.blocks.length)) 10 (frN t2) (by first|(simp only[List.length_map];omega)|omega) (by first|rfl|simp only[List.length_map]) (fun hp=>Qji hp) _ rfl ?_
  simp only[zU,seval,L1,L2,L3,L4,M1,M2,M3,M4,L1s,L2s,L3s,L4s,M1s,M2s,M3s,M4s,qq4,qq3]
  refine ifC.mk (fun hc=>?_) (fun hc=>?_)
  ·refine⟨_,_,qcq rfl (x:=qhu.toD) rfl,?_,rfl⟩
   rw[e0,if_pos (by rw[qnj,hc];simp)]
  ·refine⟨⟨fun _=>hok.1 (by omega),fun _=>hok.2.1 (by omega),fun _=>hc,fun h=>absurd h (by omega)⟩,?_⟩
   refine qaa [] [0,1,2,3,4,5,6,7,8,9,10,11,12,13,14,15,16,17,18,19] rfl (by simp) ?_ ?_
   ·simp only[zU,seval,L1,L2,L3,L4,M1,M2,M3,M4,L1s,L2s,L3s,L4s,M1s,M2s,M3s,M4s,qq4,qq3,Int.reduceAdd]
    try rfl
   ·show[_,_,_,_,_,_,_,qbx _ _ (.map none (qb4 (val (decide (0<t2.threads.length)) 8 t2.threads.length) (val (decide (0<t2.slices.length)) 9 t2.slices.length) (val (decide (0<t2.samples.length+t2.blocks.length)) 10 (frN t2).length) (val (decide (0<t2.steps.length)) 11 t2.steps.length))),_,_,_,_,.map none (fun k=>(qb4 (some (.ptr 14 0)) (some (.ptr 16 0)) (some (.ptr 18 0)) none k).map (qbk _ _)),_,_,qbx _ _ (.map none (qb0 (qdd l qau (t2.threads.map (·.name))))),_,qbx _ _ (.map none (qb0 (qdd l qa6 (t2.slices.map (·.name))))),_,qbx _ _ (.map none (qb0 (qdd l qa7 (frN t2))))]=_
    rw[qiq _ _ _ _ _ _ _ _ rfl rfl rfl rfl,qe5,qf1,qf1,qf1];rfl
 ·show evC _ _ _ _ _ [(0,.d (.sl (l.map qao.toD))),(3,.ptr 0 0),(4,.ptr 1 0),(8,.mapr 7),(9,.mapr 12),(34,.osl 13 0 4),(35,.d (.int .i64 4)),(36,.d (.int .i64 3))] [.box 10 (.agg [.d (.int .i64 t2.lo),.d (.int .i64 t2.hi),.osl 2 0 t2.threads.length,.osl 3 0 t2.slices.length,.d (.sl (t2.states.map qax.toD)),.d (.sl (t2.flows.map qbf.toD)),.osl 4 0 t2.samples.length,.osl 5 0 t2.steps.length,.osl 6 0 t2.blocks.length,.d (.sl (t2.lost.map qbr.toD))]),.box 10 zT,.arr 3 (t2.threads.map qaj.toD),.arr 8 (t2.slices.map qag.toD),.arr 4 (t2.samples.map qam.toD),.arr 3 (t2.steps.map qa2.toD),.arr 7 (t2.blocks.map qar.toD),.map none (qb4 (val (decide (0<t2.threads.length)) 8 t2.threads.length) (val (decide (0<t2.slices.length)) 9 t2.slices.length) (val (decide (0<t2.samples.length+t2.blocks.length)) 10 (frN t2).length) (val (decide (0<t2.steps.length)) 11 t2.steps.length)),.frz 1 ((t2.threads.map (·.name)).map .str),.frz 1 ((t2.slices.map (·.name)).map .str),.frz 1 ((frN t2).map .str),.frz 1 ((t2.steps.map (·.name)).map .str),.map none (qb4 (some (.ptr 14 0)) (some (.ptr 16 0)) (some (.ptr 18 0)) none),.arr 1 [.str qau,.str qa6,.str qa7,.str qat],.box 3 (.agg [.d (.sl (l.map qao.toD)),.d (.str qau),.mapr 15]),.map none (qb0 (qdd l qau (t2.threads.map (·.name)))),.box 3 (.agg [.d (.sl (l.map qao.toD)),.d (.str qa6),.mapr 17]),.map none (qb0 (qdd l qa6 (t2.slices.map (·.name)))),.box 3 (.agg [.d (.sl (l.map qao.toD)),.d (.str qa7),.mapr 19]),.map none (qb0 (qdd l qa7 (frN t2)))] _
  simp only[zU,seval,L1,L2,L3,L4,M1,M2,M3,M4,L1s,L2s,L3s,L4s,M1s,M2s,M3s,M4s,qq4,qq3]
  refine qrc l qat hl (decide (0<t2.steps.length)) 11 (t2.steps.map (·.name)) (by first|(simp only[List.length_map];omega)|omega) (by first|rfl|simp only[List.length_map]) (fun hp=>qn9 _ hp) _ rfl ?_
  simp only[zU,seval,L1,L2,L3,L4,M1,M2,M3,M4,L1s,L2s,L3s,L4s,M1s,M2s,M3s,M4s,qq4,qq3]
  refine ifC.mk (fun hc=>?_) (fun hc=>?_)
  ·refine⟨_,_,qcq rfl (x:=qhu.toD) rfl,?_,rfl⟩
   rw[e0,if_pos (by rw[qnj,hc];simp)]
  ·refine⟨⟨fun _=>hok.1 (by omega),fun _=>hok.2.1 (by omega),fun _=>hok.2.2.1 (by omega),fun _=>hc⟩,?_⟩
   refine qaa [] [0,1,2,3,4,5,6,7,8,9,10,11,12,13,14,15,16,17,18,19,20,21] rfl (by simp) ?_ ?_
   ·simp only[zU,seval,L1,L2,L3,L4,M1,M2,M3,M4,L1s,L2s,L3s,L4s,M1s,M2s,M3s,M4s,qq4,qq3,Int.reduceAdd]
    try rfl
   ·show[_,_,_,_,_,_,_,qbx _ _ (.map none (qb4 (val (decide (0<t2.threads.length)) 8 t2.threads.length) (val (decide (0<t2.slices.length)) 9 t2.slices.length) (val (decide (0<t2.samples.length+t2.blocks.length)) 10 (frN t2).length) (val (decide (0<t2.steps.length)) 11 t2.steps.length))),_,_,_,_,.map none (fun k=>(qb4 (some (.ptr 14 0)) (some (.ptr 16 0)) (some (.ptr 18 0)) (some (.ptr 20 0)) k).map (qbk _ _)),_,_,qbx _ _ (.map none (qb0 (qdd l qau (t2.threads.map (·.name))))),_,qbx _ _ (.map none (qb0 (qdd l qa6 (t2.slices.map (·.name))))),_,qbx _ _ (.map none (qb0 (qdd l qa7 (frN t2)))),_,qbx _ _ (.map none (qb0 (qdd l qat (t2.steps.map (·.name)))))]=_
    rw[qiq _ _ _ _ _ _ _ _ rfl rfl rfl rfl,qe5,qf1,qf1,qf1,qf1];rfl
 ·obtain⟨q1,q2,q3,q4⟩:=hok
  have ec:qnj l t2=false:=by rw[qnj,q1 (by omega),q2 (by omega),q3 (by omega),q4 (by omega)];rfl
  rw[if_neg (by rw[ec];simp)] at e0
  show evC _ _ _ _ _ [(0,.d (.sl (l.map qao.toD))),(3,.ptr 0 0),(4,.ptr 1 0),(8,.mapr 7),(9,.mapr 12),(34,.osl 13 0 4),(35,.d (.int .i64 4)),(36,.d (.int .i64 4))] [.box 10 (.agg [.d (.int .i64 t2.lo),.d (.int .i64 t2.hi),.osl 2 0 t2.threads.length,.osl 3 0 t2.slices.length,.d (.sl (t2.states.map qax.toD)),.d (.sl (t2.flows.map qbf.toD)),.osl 4 0 t2.samples.length,.osl 5 0 t2.steps.length,.osl 6 0 t2.blocks.length,.d (.sl (t2.lost.map qbr.toD))]),.box 10 zT,.arr 3 (t2.threads.map qaj.toD),.arr 8 (t2.slices.map qag.toD),.arr 4 (t2.samples.map qam.toD),.arr 3 (t2.steps.map qa2.toD),.arr 7 (t2.blocks.map qar.toD),.map none (qb4 (val (decide (0<t2.threads.length)) 8 t2.threads.length) (val (decide (0<t2.slices.length)) 9 t2.slices.length) (val (decide (0<t2.samples.length+t2.blocks.length)) 10 (frN t2).length) (val (decide (0<t2.steps.length)) 11 t2.steps.length)),.frz 1 ((t2.threads.map (·.name)).map .str),.frz 1 ((t2.slices.map (·.name)).map .str),.frz 1 ((frN t2).map .str),.frz 1 ((t2.steps.map (·.name)).map .str),.map none (qb4 (some (.ptr 14 0)) (some (.ptr 16 0)) (some (.ptr 18 0)) (some (.ptr 20 0))),.arr 1 [.str qau,.str qa6,.str qa7,.str qat],.box 3 (.agg [.d (.sl (l.map qao.toD)),.d (.str qau),.mapr 15]),.map none (qb0 (qdd l qau (t2.threads.map (·.name)))),.box 3 (.agg [.d (.sl (l.map qao.toD)),.d (.str qa6),.mapr 17]),.map none (qb0 (qdd l qa6 (t2.slices.map (·.name)))),.box 3 (.agg [.d (.sl (l.map qao.toD)),.d (.str qa7),.mapr 19]),.map none (qb0 (qdd l qa7 (frN t2))),.box 3 (.agg [.d (.sl (l.map qao.toD)),.d (.str qat),.mapr 21]),.map none (qb0 (qdd l qat (t2.steps.map (·.name))))] _
  simp only[zU,seval,L1,L2,L3,L4,M1,M2,M3,M4,L1s,L2s,L3s,L4s,M1s,M2s,M3s,M4s,qq4,qq3]
  repeat((with_reducible apply aI);exact sdp)
  obtain⟨t3,ht3⟩:∃t3,t3=Que l t2:=⟨_,rfl⟩
  have hrep:=Qd3 (Gl:=G2) (l.map qao.toD) (qdd l qau (t2.threads.map (·.name))) (qdd l qa6 (t2.slices.map (·.name))) (qdd l qa7 (frN t2)) (qdd l qat (t2.steps.map (·.name))) t2 ⟨h1,h2,h3,h4,h5,h6,h7,h8⟩ s2
  refine qa1 ((qal.under [2,3,4,5,6,12,14,15,16,17,18,19,20,21] (by decide) (by simp) (R:=fun r s=>r=qfy t3∧s=Qlb t3++[.map none (qb4 (some (.ptr 6 0)) (some (.ptr 8 0)) (some (.ptr 10 0)) (some (.ptr 12 0))),.box 3 (.agg [.d (.sl (l.map qao.toD)),.d (.str qau),.mapr 7]),.map none (qb0 (qdd l qau (t2.threads.map (·.name)))),.box 3 (.agg [.d (.sl (l.map qao.toD)),.d (.str qa6),.mapr 9]),.map none (qb0 (qdd l qa6 (t2.slices.map (·.name)))),.box 3 (.agg [.d (.sl (l.map qao.toD)),.d (.str qa7),.mapr 11]),.map none (qb0 (qdd l qa7 (frN t2))),.box 3 (.agg [.d (.sl (l.map qao.toD)),.d (.str qat),.mapr 13]),.map none (qb0 (qdd l qat (t2.steps.map (·.name))))]) ?_).mono fun r s hss=>?_)
  ·have er:qdp [2,3,4,5,6,12,14,15,16,17,18,19,20,21] [.box 10 (.agg [.d (.int .i64 t2.lo),.d (.int .i64 t2.hi),.osl 2 0 t2.threads.length,.osl 3 0 t2.slices.length,.d (.sl (t2.states.map qax.toD)),.d (.sl (t2.flows.map qbf.toD)),.osl 4 0 t2.samples.length,.osl 5 0 t2.steps.length,.osl 6 0 t2.blocks.length,.d (.sl (t2.lost.map qbr.toD))]),.box 10 zT,.arr 3 (t2.threads.map qaj.toD),.arr 8 (t2.slices.map qag.toD),.arr 4 (t2.samples.map qam.toD),.arr 3 (t2.steps.map qa2.toD),.arr 7 (t2.blocks.map qar.toD),.map none (qb4 (val (decide (0<t2.threads.length)) 8 t2.threads.length) (val (decide (0<t2.slices.length)) 9 t2.slices.length) (val (decide (0<t2.samples.length+t2.blocks.length)) 10 (frN t2).length) (val (decide (0<t2.steps.length)) 11 t2.steps.length)),.frz 1 ((t2.threads.map (·.name)).map .str),.frz 1 ((t2.slices.map (·.name)).map .str),.frz 1 ((frN t2).map .str),.frz 1 ((t2.steps.map (·.name)).map .str),.map none (qb4 (some (.ptr 14 0)) (some (.ptr 16 0)) (some (.ptr 18 0)) (some (.ptr 20 0))),.arr 1 [.str qau,.str qa6,.str qa7,.str qat],.box 3 (.agg [.d (.sl (l.map qao.toD)),.d (.str qau),.mapr 15]),.map none (qb0 (qdd l qau (t2.threads.map (·.name)))),.box 3 (.agg [.d (.sl (l.map qao.toD)),.d (.str qa6),.mapr 17]),.map none (qb0 (qdd l qa6 (t2.slices.map (·.name)))),.box 3 (.agg [.d (.sl (l.map qao.toD)),.d (.str qa7),.mapr 19]),.map none (qb0 (qdd l qa7 (frN t2))),.box 3 (.agg [.d (.sl (l.map qao.toD)),.d (.str qat),.mapr 21]),.map none (qb0 (qdd l qat (t2.steps.map (·.name))))]=Qlb t2++[.map none (qb4 (some (.ptr 6 0)) (some (.ptr 8 0)) (some (.ptr 10 0)) (some (.ptr 12 0))),.box 3 (.agg [.d (.sl (l.map qao.toD)),.d (.str qau),.mapr 7]),.map none (qb0 (qdd l qau (t2.threads.map (·.name)))),.box 3 (.agg [.d (.sl (l.map qao.toD)),.d (.str qa6),.mapr 9]),.map none (qb0 (qdd l qa6 (t2.slices.map (·.name)))),.box 3 (.agg [.d (.sl (l.map qao.toD)),.d (.str qa7),.mapr 11]),.map none (qb0 (qdd l qa7 (frN t2))),.box 3 (.agg [.d (.sl (l.map qao.toD)),.d (.str qat),.mapr 13]),.map none (qb0 (qdd l qat (t2.steps.map (·.name))))]:=by
    show[_,_,_,_,_,.map none (fun k=>((qb4 (some (.ptr 14 0)) (some (.ptr 16 0)) (some (.ptr 18 0)) (some (.ptr 20 0))) k).map (qbk _ _)),_,qbx _ _ (.map none (qb0 (qdd l qau (t2.threads.map (·.name))))),_,qbx _ _ (.map none (qb0 (qdd l qa6 (t2.slices.map (·.name))))),_,qbx _ _ (.map none (qb0 (qdd l qa7 (frN t2)))),_,qbx _ _ (.map none (qb0 (qdd l qat (t2.steps.map (·.name)))))]=_
    rw[qe5,qf1,qf1,qf1,qf1];rfl
   rw[er]
   rw[ht3]
   exact hrep
  obtain⟨r0,s0,⟨rfl,rfl⟩,rfl,rfl⟩:=hss
  have m2:t3.slices.length≤1000:=by rw[ht3];show(t2.slices.map _).length≤1000;rw[List.length_map];exact h2
  have m3:t3.states.length≤1000:=by rw[ht3];exact h3
  have m4:t3.flows.length≤1000:=by rw[ht3];exact h4
  have m5:t3.samples.length≤1000:=by rw[ht3];show(t2.samples.map _).length≤1000;rw[List.length_map];exact h5
  have m6:t3.steps.length≤1000:=by rw[ht3];show(qfv _ _).length≤1000;rw[qfo,List.length_map];exact h6
  have m7:t3.blocks.length≤1000:=by rw[ht3];show(t2.blocks.map _).length≤1000;rw[List.length_map];exact h7
  have m8:t3.lost.length≤1000:=by rw[ht3];exact h8
  rw[←ht3] at e0
  show qas _ _ _ _ _ _ (putE _ _ (.agg [.d (.int .i64 t3.lo),.d (.int .i64 t3.hi),.osl 2 0 t3.threads.length,.osl 3 0 t3.slices.length,.d (.sl (t3.states.map qax.toD)),.d (.sl (t3.flows.map qbf.toD)),.osl 4 0 t3.samples.length,.osl 5 0 t3.steps.length,.osl 6 0 t3.blocks.length,.d (.sl (t3.lost.map qbr.toD))])) [.box 10 (.agg [.d (.int .i64 t2.lo),.d (.int .i64 t2.hi),.osl 2 0 t2.threads.length,.osl 3 0 t2.slices.length,.d (.sl (t2.states.map qax.toD)),.d (.sl (t2.flows.map qbf.toD)),.osl 4 0 t2.samples.length,.osl 5 0 t2.steps.length,.osl 6 0 t2.blocks.length,.d (.sl (t2.lost.map qbr.toD))]),.box 10 zT,.arr 3 (t3.threads.map qaj.toD),.arr 8 (t3.slices.map qag.toD),.arr 4 (t3.samples.map qam.toD),.arr 3 (t3.steps.map qa2.toD),.arr 7 (t3.blocks.map qar.toD),_,_,_,_,_,_,_,_,_,_,_,_,_,_,_] _
  simp only[zU,seval,L1,L2,L3,L4,M1,M2,M3,M4,L1s,L2s,L3s,L4s,M1s,M2s,M3s,M4s,qq4,qq3]
  repeat((with_reducible apply aI);exact sdp)
  (try simp only[zU,seval,L1,L2,L3,L4,M1,M2,M3,M4,L1s,L2s,L3s,L4s,M1s,M2s,M3s,M4s,qq4,qq3,@qaf ((t3.slices.length:Int)+t3.states.length) (by omega),@qaf ((t3.slices.length:Int)+t3.states.length+t3.flows.length) (by omega),@qaf ((t3.slices.length:Int)+t3.states.length+t3.flows.length+t3.samples.length) (by omega),@qaf ((t3.slices.length:Int)+t3.states.length+t3.flows.length+t3.samples.length+t3.steps.length) (by omega),@qaf ((t3.slices.length:Int)+t3.states.length+t3.flows.length+t3.samples.length+t3.steps.length+t3.blocks.length) (by omega),@qaf ((t3.slices.length:Int)+t3.states.length+t3.flows.length+t3.samples.length+t3.steps.length+t3.blocks.length+t3.lost.length) (by omega)])
  refine ifC.mk (fun hc=>?_) (fun hc=>?_)
  ·have hr:q27 t3=0:=by simp only[beq_iff_eq] at hc;unfold q27;omega
   refine⟨_,_,qcq rfl (x:=(q8l t3).toD) ?_,?_,rfl⟩
   ·rw[q8l,if_pos hr]
    show D.agg [.int .i64 0,.int .i64 0,.sl (((t3.threads.map qaj.toD).drop 0).take t3.threads.length),.sl (((t3.slices.map qag.toD).drop 0).take t3.slices.length),.sl (t3.states.map qax.toD),.sl (t3.flows.map qbf.toD),.sl (((t3.samples.map qam.toD).drop 0).take t3.samples.length),.sl (((t3.steps.map qa2.toD).drop 0).take t3.steps.length),.sl (((t3.blocks.map qar.toD).drop 0).take t3.blocks.length),.sl (t3.lost.map qbr.toD)]=_
    rw[List.drop_zero,qaz,List.drop_zero,qaz,List.drop_zero,qaz,List.drop_zero,qaz,List.drop_zero,qaz];rfl
   ·rw[e0]
  ·have hr:¬q27 t3=0:=by simp only[beq_eq_false_iff_ne,ne_eq] at hc;unfold q27;omega
   refine⟨_,_,qcq rfl (x:=(q8l t3).toD) ?_,?_,rfl⟩
   ·rw[q8l,if_neg hr]
    show D.agg [.int .i64 t3.lo,.int .i64 t3.hi,.sl (((t3.threads.map qaj.toD).drop 0).take t3.threads.length),.sl (((t3.slices.map qag.toD).drop 0).take t3.slices.length),.sl (t3.states.map qax.toD),.sl (t3.flows.map qbf.toD),.sl (((t3.samples.map qam.toD).drop 0).take t3.samples.length),.sl (((t3.steps.map qa2.toD).drop 0).take t3.steps.length),.sl (((t3.blocks.map qar.toD).drop 0).take t3.blocks.length),.sl (t3.lost.map qbr.toD)]=_
    rw[List.drop_zero,qaz,List.drop_zero,qaz,List.drop_zero,qaz,List.drop_zero,qaz,List.drop_zero,qaz];rfl
   ·rw[e0]

def q8d (l:List qao) (m:Int) (x:qaj):Bool:=x.id==m&&qbe l qau x.name
theorem qk7 (l:List qao) (t:qaw) (m:Int) (hl:l.length<1000000) (ht:t.lim):qba prog Gl 92 [.d (.sl (l.map qao.toD)),.d t.toD,.d (.int .i64 m)] (.d (.bool (qco l t.threads m))):=by
 refine qba.of3 ?_
 have h1:=ht.1
 refine qac func92 rfl rfl (by simp[ntmps92]) (qab rfl _ _ _ _ ?_)
 simp only[ntmps92,results92,qak,List.length_nil]
 simp only[zU,seval]
 refine qan t.threads.length (fun k=>[(0,.d (.sl (l.map qao.toD))),(2,.d (.int .i64 m)),(4,.ptr 0 0),(7,.d (.int .i64 k))]) (fun _=>[.box 10 (.d t.toD)]) (fun k=>(t.threads.take k).any (q8d l m)=false) rfl ?_ ?_
 ·refine qaa [] [0] rfl (by simp) ?_ rfl
  simp only[zU,seval]
  all_goals rfl
 ·intro k hi hk
  by_cases h:k<t.threads.length
  ·have hs:=qca (q8d l m) t.threads k h
   obtain⟨x,hx⟩:∃x,x=t.threads.getD k default:=⟨_,rfl⟩
   have eg:(t.threads.map qaj.toD).getD k default=x.toD:=by rw[qah _ _ _ h,←hx]
   rw[hi,Bool.false_or,←hx] at hs
   simp only[zU,seval,(show(k:Int)<t.threads.length by omega),h,eg]
   repeat((with_reducible apply aI);exact sdp)
   refine qay (fun _=>qfq l _ _ hl) ?_
   simp only[zU,seval]
   repeat((with_reducible apply aI);exact sdp)
   refine ifC.mk (fun hc=>?_) (fun hc=>?_)
   ·have hc:q8d l m x=true:=hc
    refine⟨_,_,qap,?_,rfl⟩
    show _=AV.d (.bool (t.threads.any (q8d l m)))
    rw[Qc7 (q8d l m) t.threads k h (by rw[←hx];exact hc)]
   ·have hc:q8d l m x=false:=hc
    refine⟨by rw[hs,hc],?_⟩
    refine qaa [] [0] rfl (by simp) ?_ rfl
    simp only[zU,seval,@qaf ((k:Int)+1) (by omega)]
    all_goals rfl
  ·simp only[zU,seval,(show ¬(k:Int)<t.threads.length by omega)]
   have:k=t.threads.length:=by omega
   subst this
   rw[List.take_length] at hi
   refine⟨_,_,qap,?_,rfl⟩
   show _=AV.d (.bool (t.threads.any (q8d l m)))
   rw[hi]
theorem Qwj {l:List qao} {s:List (List UInt8)} {x:List UInt8} (h:qbe l qa7 x=false):frD l (s++[x])=frD l s++[x]:=by
 rw[frD,List.filter_append,List.filter_cons_of_pos (by rw[h];rfl)];rfl
theorem Qwk {l:List qao} {s:List (List UInt8)} {x:List UInt8} (h:qbe l qa7 x=true):frD l (s++[x])=frD l s:=by
 rw[frD,List.filter_append,List.filter_cons_of_neg (by rw[h];simp)];simp[frD]
theorem Qvg (l:List qao) (s:List (List UInt8)):(frD l s).length≤s.length:=List.length_filter_le _ _
theorem Qb6 (l:List qao) (s:List (List UInt8)) (hl:l.length<1000000) (hs:s.length<1000000):qba prog Gl 93 [.d (.sl (l.map qao.toD)),.d (.sl (s.map .str))] (.d (.sl ((frD l s).map .str))):=by
 refine qba.of2 ?_
 refine qac func93 rfl rfl (by simp[ntmps93]) (qab rfl _ _ _ _ ?_)
 simp only[ntmps93,results93,qak,List.length_nil]
 simp only[zU,seval]
 refine qan s.length (fun k=>[(0,.d (.sl (l.map qao.toD))),(1,.d (.sl (s.map .str))),(5,.osl 0 0 (frD l (s.take k)).length),(6,.d (.int .i64 k))]) (fun k=>[.arr 1 ((frD l (s.take k)).map .str)]) (fun _=>True) trivial ?_ ?_
 ·refine(qcw 5 1 rfl).trans ?_
  refine qaa [] [0] rfl (by simp) ?_ rfl
  simp only[zU,seval]
  all_goals rfl
 ·intro k _ hk
  have hyl:=Qvg l (s.take k)
  rw[List.length_take] at hyl
  by_cases h:k<s.length
  ·obtain⟨x,hx⟩:∃x,x=s.getD k default:=⟨_,rfl⟩
   have ht:s.take (k+1)=s.take k++[x]:=by rw[qa0 s k h,←hx]
   have hg:(s.map D.str).getD k default=.str x:=by rw[qah _ _ _ h,hx]
   obtain⟨p,hp⟩:∃p,p=s.take k:=⟨_,rfl⟩
   rw[←hp] at ht hyl ⊢
   rw[ht]
   simp only[zU,seval,(show(k:Int)<s.length by omega),h,hg]
   repeat((with_reducible apply aI);exact sdp)
   refine qad (qfq l _ _ hl) ?_
   simp only[zU,seval]
   refine ifC.mk (fun hc=>?_) (fun hc=>?_)
   ·have hc:(!qbe l qa7 x)=true:=hc
    have hc:qbe l qa7 x=false:=by simpa using hc
    rw[Qwj hc]
    simp only[zU,seval,qaz,(show(k:Int)<s.length by omega),h,hg]
    repeat((with_reducible apply aI);exact sdp)
    refine qaa [] [2] rfl (by simp) ?_ ?_
    ·simp only[zU,seval,@qaf ((k:Int)+1) (by omega)]
     all_goals rfl
    ·rw[List.map_append];rfl
   ·have hc:(!qbe l qa7 x)=false:=hc
    have hc:qbe l qa7 x=true:=by simpa using hc
    rw[Qwk hc]
    refine qaa [] [0] rfl (by simp) ?_ rfl
    simp only[zU,seval,@qaf ((k:Int)+1) (by omega)]
    all_goals rfl
  ·have:k=s.length:=by omega
   subst this
   simp only[zU,seval,(show ¬(s.length:Int)<s.length by omega),List.take_length]
   refine⟨_,_,qc7 rfl ?_,rfl,rfl⟩
   simp only[zU,seval,qaz]
theorem q52 (H s:List (List UInt8)) (hH:H.length<1000000) (hs:s.length<1000000):qba prog Gl 94 [.d (.sl (H.map .str)),.d (.sl (s.map .str))] (.d (.sl ((s.map (qnr H)).map .str))):=by
 refine qba.of2 ?_
 refine qac func94 rfl rfl (by simp[ntmps94]) (qab rfl _ _ _ _ ?_)
 simp only[ntmps94,results94,qak,List.length_nil]
 simp only[zU,seval]
 refine qan s.length (fun k=>[(0,.d (.sl (H.map .str))),(1,.d (.sl (s.map .str))),(5,.osl 0 0 k),(6,.d (.int .i64 k))]) (fun k=>[.arr 1 (((s.take k).map (qnr H)).map .str)]) (fun _=>True) trivial ?_ ?_
 ·refine(qcw 5 1 rfl).trans ?_
  refine qaa [] [0] rfl (by simp) ?_ rfl
  simp only[zU,seval]
  all_goals rfl
 ·intro k _ hk
  by_cases h:k<s.length
  ·obtain⟨x,hx⟩:∃x,x=s.getD k default:=⟨_,rfl⟩
   have ht:s.take (k+1)=s.take k++[x]:=by rw[qa0 s k h,←hx]
   have hg:(s.map D.str).getD k default=.str x:=by rw[qah _ _ _ h,hx]
   have hkl:(((s.take k).map (qnr H)).map D.str).length=k:=by simp only[List.length_map,List.length_take];omega
   obtain⟨q,hq⟩:∃q,q=((s.take k).map (qnr H)).map D.str:=⟨_,rfl⟩
   have hq2:((s.take (k+1)).map (qnr H)).map D.str=q++[.str (qnr H x)]:=by rw[ht,List.map_append,List.map_append,hq];rfl
   have hql:q.length=k:=by rw[hq,hkl]
   have htk:q.take k=q:=List.take_of_length_le (by omega)
   rw[hq2,←hq]
   simp only[zU,seval,(show(k:Int)<s.length by omega),h,hg]
   repeat((with_reducible apply aI);exact sdp)
   refine qad (qnb H _ hH) ?_
   simp only[zU,seval,hql,htk]
   repeat((with_reducible apply aI);exact sdp)
   refine qaa [] [2] rfl (by simp) ?_ ?_
   ·simp only[zU,seval,@qaf ((k:Int)+1) (by omega)]
    all_goals rfl
   ·rfl
  ·have:k=s.length:=by omega
   subst this
   simp only[zU,seval,(show ¬(s.length:Int)<s.length by omega),List.take_length]
   refine⟨_,_,qc7 rfl ?_,rfl,rfl⟩
   show D.sl ((((s.map (qnr H)).map D.str).drop 0).take s.length)=_
   rw[List.drop_zero,List.take_of_length_le (by simp)]

set_option maxHeartbeats 4000000 in
theorem Qir (l:List qao) (t:qaw) (hl:l.length<1000000) (ht:t.lim):qba prog Gl 90 [.d (.sl (l.map qao.toD)),.d t.toD] (.d (.sl ((qdu (qco l t.threads) t.states).map qax.toD))):=by
 refine qba.of2 ?_
 have h3:=ht.2.2.1
 obtain⟨g,hg⟩:∃g,g=qco l t.threads:=⟨_,rfl⟩
 rw[←hg]
 refine qac func90 rfl rfl (by simp[ntmps90]) (qab rfl _ _ _ _ ?_)
 simp only[ntmps90,results90,qak,List.length_nil]
 simp only[zU,seval]
 refine qan t.states.length (fun k=>[(0,.d (.sl (l.map qao.toD))),(3,.ptr 0 0),(5,.osl 1 0 (qdu g (t.states.take k)).length),(6,.d (.int .i64 k))]) (fun k=>[.box 10 (.d t.toD),.arr 7 ((qdu g (t.states.take k)).map qax.toD)]) (fun _=>True) trivial ?_ ?_
 ·refine(qcw 5 7 rfl).trans ?_
  refine qaa [] [0,1] rfl (by simp) ?_ rfl
  simp only[zU,seval]
  all_goals rfl
 intro k _ hk
 have hyl:=qj7 g (t.states.take k)
 rw[List.length_take] at hyl
 by_cases h:k<t.states.length
 ·have hst:qdu g (t.states.take (k+1))=stS g (qdu g (t.states.take k)) (t.states.getD k default):=qoc _ _ _ _ h
  obtain⟨x,hx⟩:∃x,x=t.states.getD k default:=⟨_,rfl⟩
  have eg:(t.states.map qax.toD).getD k default=x.toD:=by rw[qah _ _ _ h,←hx]
  obtain⟨ys,hys⟩:∃ys,ys=qdu g (t.states.take k):=⟨_,rfl⟩
  rw[←hys,←hx] at hst
  rw[←hys] at hyl ⊢
  rw[hst,stS]
  simp only[zU,seval,(show(k:Int)<t.states.length by omega),h,eg]
  repeat((with_reducible apply aI);exact sdp)
  refine qad (qk7 l t _ hl ht) ?_
  rw[←hg]
  simp only[zU,seval]
  refine ifC.mk (fun h1=>?_) (fun h1=>?_)
  ·rw[if_pos h1]
   refine qaa [] [0,1] rfl (by simp) ?_ rfl
   simp only[zU,seval,@qaf ((k:Int)+1) (by omega)]
   all_goals rfl
  rw[if_neg (by rw[h1];simp)]
  (try simp only[zU,seval])
  have ea:qwk g x=⟨x.thread,if g x.on_=true then 1 else x.state,x.lo,x.hi,x.cpu,if g x.on_=true then -1 else x.on_,if g x.by_=true then -1 else x.by_⟩:=rfl
  refine qad (qk7 l t _ hl ht) ?_
  rw[←hg]
  simp only[zU,seval]
  refine ifC.mk (fun h2=>?_) (fun h2=>?_)
  all_goals (try simp only[zU,seval])
  all_goals refine qad (qk7 l t _ hl ht) ?_
  all_goals rw[←hg]
  all_goals simp only[zU,seval]
  all_goals refine ifC.mk (fun h3=>?_) (fun h3=>?_)
  all_goals simp only[h2,h3,reduceIte,Bool.false_eq_true] at ea
  all_goals
   rcases List.eq_nil_or_concat ys with e|⟨zs,y,e⟩
   ·subst e
    rw[q87,if_neg (by simp),ea]
    (try simp only[zU,seval,List.length_nil,List.map_nil,@qaf ((-1:Int)) (by omega)])
    refine⟨.inl (by kernel_rfl),?_⟩
    (try simp only[zU,seval,List.length_nil,List.map_nil,@qaf ((-1:Int)) (by omega)])
    refine qaa [] [0,4] rfl (by simp) ?_ rfl
    simp only[zU,seval,@qaf ((k:Int)+1) (by omega)]
    all_goals rfl
   ·rw[List.concat_eq_append] at e
    have hyl2:ys.length=zs.length+1:=by rw[e];simp
    have hyl3:(ys.map qax.toD).length=zs.length+1:=by rw[List.length_map,hyl2]
    have hlt3:zs.length<(ys.map qax.toD).length:=by omega
    have e0:((zs.length:Int)+1-1)=zs.length:=by omega
    have ey:ys.getD zs.length default=y:=by rw[e];simp
    have egy:(ys.map qax.toD).getD zs.length default=y.toD:=by rw[qah _ _ _ (by omega),ey]
    (try simp only[zU,seval,hyl2,e0,@qaf ((zs.length:Int)) (by omega),Int.toNat_natCast,egy,(show(zs.length:Int)<(zs.length:Int)+1 by omega),(show zs.length<zs.length+1 by omega),(show(0:Int)<(zs.length:Int)+1 by omega)])
    refine⟨.inl (by kernel_rfl),?_⟩
    (try simp only[zU,seval,hyl2,e0,@qaf ((zs.length:Int)) (by omega),Int.toNat_natCast,egy,(show(zs.length:Int)<(zs.length:Int)+1 by omega),(show zs.length<zs.length+1 by omega),(show(0:Int)<(zs.length:Int)+1 by omega)])
    repeat((with_reducible apply aI);exact sdp)
    refine ifC.mk (fun h4=>?_) (fun h4=>?_)
    ·have hlk:ys.length≠0∧q7n (ys.getD (ys.length-1) default) (qwk g x)=true:=by
      refine⟨by omega,?_⟩
      rw[hyl2,Nat.add_sub_cancel,ey,ea];exact h4
     have hadd:(q87 ys (qwk g x)).map qax.toD=(ys.map qax.toD).set zs.length (yS y (qwk g x) true true).toD:=by
      rw[q87,if_pos hlk,hyl2,Nat.add_sub_cancel,ey,List.map_set];rfl
     have haddl:(q87 ys (qwk g x)).length=zs.length+1:=by
      rw[q87,if_pos hlk,List.length_set,hyl2]
     rw[hadd,haddl]
     (try simp only[zU,seval,hyl2,e0,@qaf ((zs.length:Int)) (by omega),Int.toNat_natCast,egy,(show(zs.length:Int)<(zs.length:Int)+1 by omega),(show zs.length<zs.length+1 by omega),List.length_set,List.set_set,qu8 _ _ _ hlt3])
     repeat((with_reducible apply aI);exact sdp)
     refine qaa [] [0,1] rfl (by simp) ?_ ?_
     ·simp only[zU,seval,@qaf ((k:Int)+1) (by omega)]
      try rfl
     ·rw[ea]
      rfl
    ·have hq:q7n y (qwk g x)=false:=by rw[ea];exact h4
     have hlk:¬(ys.length≠0∧q7n (ys.getD (ys.length-1) default) (qwk g x)=true):=by
      rw[hyl2,Nat.add_sub_cancel,ey,hq]
      exact fun hq=>by cases hq.2
     rw[q87,if_neg hlk,ea]
     (try simp only[zU,seval,hyl2,qaz])
     repeat((with_reducible apply aI);exact sdp)
     refine qaa [] [0,4] rfl (by simp) ?_ ?_
     ·simp only[zU,seval,@qaf ((k:Int)+1) (by omega),hyl2]
      try rfl
     ·rw[List.map_append,show(ys.map qax.toD).take (zs.length+1)=ys.map qax.toD from List.take_of_length_le (by omega)]
      rfl
 ·have:k=t.states.length:=by omega
  subst this
  simp only[zU,seval,(show ¬(t.states.length:Int)<t.states.length by omega),List.take_length]
  refine⟨_,_,qc7 rfl ?_,rfl,rfl⟩
  simp only[zU,seval,qaz]

theorem Qvs {α:Type} (F R:List α) (x y:α) (i:Nat) (h:F.length=i):(F++x::R).set i y=F++y::R:=by
 subst h;rw[List.set_append_right _ _ (Nat.le_refl _),Nat.sub_self];rfl
theorem Qvt {α:Type} [Inhabited α] (F R:List α) (x:α) (i:Nat) (h:F.length=i):(F++x::R).getD i default=x:=by
 subst h;simp
theorem Qsp {α:Type} (F R:List α) (x y:α) (i:Nat) (h:i<F.length):(F++x::R).set i y=F.set i y++x::R:=by
 rw[List.set_append_left _ _ h]
theorem Qsq {α:Type} [Inhabited α] (F R:List α) (x:α) (i:Nat) (h:i<F.length):(F++x::R).getD i default=F.getD i default:=by
 rw[List.getD_eq_getElem?_getD,List.getElem?_append_left h,List.getD_eq_getElem?_getD]
def Qr6 (l:List qag) (k:Nat):List qag:=qds (l.take k)++l.drop k
theorem Qeh (l:List qag) (hl:l.length≤1000) (hg:qe8 l):qba prog Gl 148 [.d (.sl (l.map qag.toD))] (.d (.sl ((qds l).map qag.toD))):=by
 refine qba.of1 ?_
 have hes:∀y∈l.map qag.toD,y.cells.length=8:=fun y hy=>by
  obtain⟨r,_,rfl⟩:=List.mem_map.1 hy;rfl
 have hfl:∀y∈l.map qag.toD,y.flat:=fun y hy=>by
  obtain⟨r,_,rfl⟩:=List.mem_map.1 hy
  intro c hc
  simp[qag.toD,D.cells] at hc
  rcases hc with rfl|rfl|rfl|rfl|rfl|rfl|rfl|rfl<;>rfl
 refine qac func148 rfl rfl (by simp[ntmps148]) (qab rfl _ _ _ _ ?_)
 simp only[ntmps148,results148,qak,List.length_nil]
 simp only[zU,seval]
 refine⟨⟨by omega,by omega⟩,?_⟩
 refine qan l.length (fun k=>[(3,.osl 0 0 l.length),(4,.d (.int .i64 k))]) (fun k=>[.arr 8 ((Qr6 l k).map qag.toD)]) (fun _=>True) trivial ?_ ?_
 ·refine qaa [] [1] rfl (by simp) ?_ rfl
  simp only[zU,seval]
  all_goals rfl
 intro k _ hk
 by_cases h:k<l.length
 ·obtain⟨x,hx⟩:∃x,x=l.getD k default:=⟨_,rfl⟩
  have ht:l.take (k+1)=l.take k++[x]:=by rw[qa0 _ k h,←hx]
  have gx:=hg k h
  rw[←hx] at gx
  obtain⟨F,hF⟩:∃F,F=qds (l.take k):=⟨_,rfl⟩
  obtain⟨R,hR⟩:∃R,R=l.drop (k+1):=⟨_,rfl⟩
  have hFl:F.length=k:=by rw[hF,qdi,List.length_take];omega
  have hRl:R.length=l.length-(k+1):=by rw[hR,List.length_drop]
  have hok:okL k F:=by
   have:=q7i (qhk hg k)
   rw[List.length_take,show min k l.length=k by omega,←hF] at this;exact this
  have e1:(Qr6 l k).map qag.toD=F.map qag.toD++x.toD::R.map qag.toD:=by
   rw[Qr6,←hF,List.drop_eq_getElem_cons h,List.map_append,List.map_cons,←hR]
   congr 2
   rw[hx];simp[h]
  have e2:(Qr6 l (k+1)).map qag.toD=(qis F x).map qag.toD++(q7j F x).toD::R.map qag.toD:=by
   rw[Qr6,ht,qfr,←hF,qcm,List.map_append,List.map_append,←hR,List.append_assoc];rfl
  obtain⟨Fm,hFm⟩:∃Fm,Fm=F.map qag.toD:=⟨_,rfl⟩
  obtain⟨Rm,hRm⟩:∃Rm,Rm=R.map qag.toD:=⟨_,rfl⟩
  have hFml:Fm.length=k:=by rw[hFm,List.length_map,hFl]
  have eL:∀y:D,(Fm++y::Rm).length=l.length:=fun y=>by rw[List.length_append,List.length_cons,hFml,hRm,List.length_map,hRl];omega
  have eG:∀y:D,(Fm++y::Rm).getD k default=y:=fun y=>Qvt Fm Rm y k hFml
  have eS:∀y z:D,(Fm++y::Rm).set k z=Fm++z::Rm:=fun y z=>Qvs Fm Rm y z k hFml
  rw[e1,e2,←hFm,←hRm]
  have hw:-1000000000000000≤x.hi-x.lo∧x.hi-x.lo≤1000000000000000:=by omega
  simp only[zU,seval,(show(k:Int)<l.length by omega),h,eL,eG,eS]
  repeat((with_reducible apply aI);exact sdp)
  (try simp only[zU,seval,(show(k:Int)<l.length by omega),h,eL,eG,eS,@qaf (x.hi-x.lo) (by omega)])
  repeat((with_reducible apply aI);exact sdp)
  refine ifC.mk (fun hc=>?_) (fun hc=>?_)
  ·have hc:0≤x.parent:=of_decide_eq_true hc
   obtain⟨p,hp⟩:∃p:Nat,x.parent=p:=⟨x.parent.toNat,by omega⟩
   have hpk:p<k:=by omega
   obtain⟨y,hy⟩:∃y,y=F.getD p default:=⟨_,rfl⟩
   have hyk:=hok p (by omega)
   rw[←hy] at hyk
   have eP:∀z:D,(Fm++z::Rm).getD p default=y.toD:=fun z=>by rw[Qsq Fm Rm z p (by omega),hFm,qah _ _ _ (by omega),←hy]
   have eQ:∀z w:D,(Fm++z::Rm).set p w=Fm.set p w++z::Rm:=fun z w=>Qsp Fm Rm z w p (by omega)
   (try simp only[zU,seval,hp,(show(k:Int)<l.length by omega),(show(p:Int)<l.length by omega),(show p<l.length by omega),h,eL,eG,eS,eP,eQ,@qaf (y.depth+1) (by omega),@qaf (y.self-(x.hi-x.lo)) (by omega)])
   refine⟨.inl (by kernel_rfl),?_⟩
   (try simp only[zU,seval,(show(k:Int)<l.length by omega),(show(p:Int)<l.length by omega),(show p<l.length by omega),h,eL,eG,eS,eP,eQ,@qaf (y.self-(x.hi-x.lo)) (by omega)])
   have ef:(qis F x).map qag.toD=Fm.set p (qag.toD {y with self:=y.self-(x.hi-x.lo)}):=by
    rw[qis,if_pos hc,hp,Int.toNat_natCast,←hy,List.map_set,hFm]
   have en:q7j F x={x with depth:=y.depth+1,self:=x.hi-x.lo}:=by rw[q7j,if_pos hc,hp,Int.toNat_natCast,←hy]
   rw[ef,en]
   refine qaa [] [0] rfl (by simp) ?_ ?_
   ·simp only[zU,seval,@qaf ((k:Int)+1) (by omega)]
    try rfl
   ·rw[hp];rfl
  ·have hc:¬0≤x.parent:=of_decide_eq_false hc
   have ef:qis F x=F:=by rw[qis,if_neg hc]
   have en:q7j F x={x with depth:=0,self:=x.hi-x.lo}:=by rw[q7j,if_neg hc]
   rw[ef,en]
   refine qaa [] [0] rfl (by simp) ?_ ?_
   ·simp only[zU,seval,@qaf ((k:Int)+1) (by omega)]
    try rfl
   ·rw[hFm];rfl
 ·have:k=l.length:=by omega
  subst this
  have e1:Qr6 l l.length=qds l:=by rw[Qr6,List.take_length,List.drop_length,List.append_nil]
  have hll:=qdi l
  rw[e1]
  simp only[zU,seval,(show ¬(l.length:Int)<l.length by omega)]
  refine⟨_,_,qc7 rfl ?_,rfl,rfl⟩
  show D.sl ((((qds l).map qag.toD).drop 0).take l.length)=_
  rw[List.drop_zero,List.take_of_length_le (by rw[List.length_map];omega)]

def q19 (l:List qao) (t:qaw) (x:qag):Bool:=!qco l t.threads x.thread&&!qbe l qa6 x.name
theorem Qis (l:List qao) (t:qaw) (hl:l.length<1000000) (ht:t.lim) (hg:qe8 t.slices):qba prog Gl 91 [.d (.sl (l.map qao.toD)),.d t.toD] (.d (.sl ((qds (chF (q19 l t) t.slices).1).map qag.toD))):=by
 refine qba.of2 ?_
 have h2:=ht.2.1
 refine qac func91 rfl rfl (by simp[ntmps91]) (qab rfl _ _ _ _ ?_)
 simp only[ntmps91,results91,qak,List.length_nil]
 simp only[zU,seval]
 refine⟨q7k t.slices.length (by omega),?_⟩
 rw[q1b]
 obtain⟨P,hP⟩:∃P,P=q19 l t:=⟨_,rfl⟩
 rw[←hP]
 refine qan t.slices.length (fun k=>[(0,.d (.sl (l.map qao.toD))),(3,.ptr 0 0),(5,.osl 1 0 t.slices.length),(6,.osl 2 0 (chF P (t.slices.take k)).1.length),(7,.d (.int .i64 k))])
  (fun k=>[.box 10 (.d t.toD),.arr 1 (q2k (chF P (t.slices.take k)).2 (t.slices.length-k)),.arr 8 ((chF P (t.slices.take k)).1.map qag.toD)]) (fun _=>True) trivial ?_ ?_
 ·refine(qcw 6 8 rfl).trans ?_
  refine qaa [] [0,1,2] rfl (by simp) ?_ rfl
  simp only[zU,seval]
  try rfl
 intro k _ hk
 have hgk:=qhk hg k
 obtain⟨f1,f2,f3,f4⟩:=qhp P hgk
 have hkl:(t.slices.take k).length=k:=by rw[List.length_take];omega
 rw[hkl] at f1 f2 f3
 by_cases h:k<t.slices.length
 ·obtain⟨x,hx⟩:∃x,x=t.slices.getD k default:=⟨_,rfl⟩
  have eg:(t.slices.map qag.toD).getD k default=x.toD:=by rw[qah _ _ _ h,←hx]
  have htk:t.slices.take (k+1)=t.slices.take k++[x]:=by rw[qa0 _ k h,←hx]
  have gx:=hg k h
  rw[←hx] at gx
  obtain⟨o,ho⟩:∃o,o=(chF P (t.slices.take k)).1:=⟨_,rfl⟩
  obtain⟨pl,hpl⟩:∃pl,pl=(chF P (t.slices.take k)).2:=⟨_,rfl⟩
  have hc:chF P (t.slices.take (k+1))=qb9 P (o,pl) x:=by rw[htk,qre,ho,hpl]
  rw[hc]
  rw[←ho,←hpl] at f3
  rw[←ho] at f2 f4
  rw[←hpl] at f1
  rw[←ho,←hpl]
  obtain⟨m,hm⟩:∃m,t.slices.length-k=m+1:=⟨t.slices.length-k-1,by omega⟩
  have hm2:t.slices.length-(k+1)=m:=by omega
  rw[hm,hm2]
  have hpll:=q06 pl (m+1)
  have ekl:k=pl.length:=f1.symm
  obtain⟨up,hup⟩:∃up,up=qj4 pl x:=⟨_,rfl⟩
  have hPx:P x=(!qco l t.threads x.thread&&!qbe l qa6 x.name):=by rw[hP];rfl
  simp only[zU,seval,(show(k:Int)<t.slices.length by omega),h,eg]
  repeat((with_reducible apply aI);exact sdp)
  refine ifC.mk (fun h1=>?_) (fun h1=>?_)
  ·have h1:0≤x.parent:=of_decide_eq_true h1
   obtain⟨q,hq⟩:∃q:Nat,x.parent=q:=⟨x.parent.toNat,by omega⟩
   have hqk:q<pl.length:=by omega
   have eq:(q2k pl (m+1)).getD q default=.int .i64 up:=by rw[q07 hqk,hup,qj4,if_pos h1,hq,Int.toNat_natCast]
   (try simp only[zU,seval,hq,(show(q:Int)<t.slices.length by omega),(show q<t.slices.length by omega),hpll,(show q<pl.length+(m+1) by omega),eq,(show(k:Int)<t.slices.length by omega)])
   refine⟨by omega,?_⟩
   refine qad (qk7 l t _ hl ht) ?_
   simp only[zU,seval]
   repeat((with_reducible apply aI);exact sdp)
   refine qay (fun _=>qfq l _ _ hl) ?_
   simp only[zU,seval]
   repeat((with_reducible apply aI);exact sdp)
   refine ifC.mk (fun hc=>?_) (fun hc=>?_)
   ·have hc:(!qco l t.threads x.thread&&!qbe l qa6 x.name)=true:=hc
    rw[←hPx] at hc
    rw[qb9,if_pos hc,←hup]
    (try simp only[zU,seval,(show(k:Int)<t.slices.length by omega),hpll,(show k<pl.length+(m+1) by omega)])
    repeat((with_reducible apply aI);exact sdp)
    (try simp only[zU,seval,qaz])
    refine qaa [] [0,1,5] rfl (by simp) ?_ ?_
    ·simp only[zU,seval,@qaf ((k:Int)+1) (by omega)]
     try rfl
    ·rw[ekl,qfm,List.map_append]
     rfl
   ·have hc:(!qco l t.threads x.thread&&!qbe l qa6 x.name)=false:=hc
    rw[←hPx] at hc
    rw[qb9,if_neg (by rw[hc];simp),←hup]
    refine qaa [] [0,1,2] rfl (by simp) ?_ ?_
    ·simp only[zU,seval,@qaf ((k:Int)+1) (by omega)]
     try rfl
    ·rw[ekl,qhg]
     rfl
  ·have h1:¬0≤x.parent:=of_decide_eq_false h1
   have eu:up=-1:=by rw[hup,qj4,if_neg h1]
   (try simp only[zU,seval,hpll,(show(k:Int)<t.slices.length by omega)])
   rw[←eu]
   refine⟨by omega,?_⟩
   refine qad (qk7 l t _ hl ht) ?_
   simp only[zU,seval]
   repeat((with_reducible apply aI);exact sdp)
   refine qay (fun _=>qfq l _ _ hl) ?_
   simp only[zU,seval]
   repeat((with_reducible apply aI);exact sdp)
   refine ifC.mk (fun hc=>?_) (fun hc=>?_)
   ·have hc:(!qco l t.threads x.thread&&!qbe l qa6 x.name)=true:=hc
    rw[←hPx] at hc
    rw[qb9,if_pos hc,←hup]
    (try simp only[zU,seval,(show(k:Int)<t.slices.length by omega),hpll,(show k<pl.length+(m+1) by omega)])
    repeat((with_reducible apply aI);exact sdp)
    (try simp only[zU,seval,qaz])
    refine qaa [] [0,1,5] rfl (by simp) ?_ ?_
    ·simp only[zU,seval,@qaf ((k:Int)+1) (by omega)]
     try rfl
    ·rw[ekl,qfm,List.map_append]
     rfl
   ·have hc:(!qco l t.threads x.thread&&!qbe l qa6 x.name)=false:=hc
    rw[←hPx] at hc
    rw[qb9,if_neg (by rw[hc];simp),←hup]
    refine qaa [] [0,1,2] rfl (by simp) ?_ ?_
    ·simp only[zU,seval,@qaf ((k:Int)+1) (by omega)]
     try rfl
    ·rw[ekl,qhg]
     rfl
 ·have:k=t.slices.length:=by omega
  subst this
  simp only[zU,seval,(show ¬(t.slices.length:Int)<t.slices.length by omega),List.take_length]
  obtain⟨o,ho⟩:∃o,o=(chF P t.slices).1:=⟨_,rfl⟩
  rw[List.take_length] at f2 f4
  rw[←ho] at f2 f4 ⊢
  refine qia (as':=[.d (.sl (o.map qag.toD))]) (σ':=_) (Qeh o (by omega) f4) ?_ rfl ?_
  ·show[AV.d (D.sl (List.take o.length ((o.map qag.toD).drop 0)))]=_
   rw[List.drop_zero,qaz]
  simp only[zU,seval]
  exact⟨_,_,qap,rfl,rfl⟩

def qdm {α:Type} (p:α→Bool) (f:α→α) (L:List α):List α:=(L.filter p).map f
theorem qw7 {α:Type} {p:α→Bool} {f:α→α} {L:List α} {x:α} (h:p x=true):qdm p f (L++[x])=qdm p f L++[f x]:=by
 rw[qdm,List.filter_append,List.filter_cons_of_pos h,List.map_append];rfl
theorem qw8 {α:Type} {p:α→Bool} {f:α→α} {L:List α} {x:α} (h:p x=false):qdm p f (L++[x])=qdm p f L:=by
 rw[qdm,List.filter_append,List.filter_cons_of_neg (by rw[h];simp),List.map_append];simp[qdm]
theorem qfw {α:Type} (p:α→Bool) (f:α→α) (L:List α):(qdm p f L).length≤L.length:=by
 rw[qdm,List.length_map];exact List.length_filter_le _ _
theorem Qk5 {n:Nat} {env:Env} (b0 b1:Blk) (a b s u:D):qgm n 0 env [b0,b1,.box 10 (.agg [.d a,.d b,.nils,.d s,.d u,.nils,.nils,.nils,.nils,.nils])] env [b0,b1,.box 10 (.agg [.d a,.d b,.osl 3 0 0,.d s,.d u,.osl 4 0 0,.osl 5 0 0,.osl 6 0 0,.osl 7 0 0,.osl 8 0 0]),.arr 3 [],.arr 7 [],.arr 4 [],.arr 3 [],.arr 7 [],.arr 4 []]:=by
 have w1:qgm n 0 env [b0,b1,.box 10 (.agg [.d a,.d b,.nils,.d s,.d u,.nils,.nils,.nils,.nils,.nils])] env [b0,b1,.box 10 (.agg [.d a,.d b,.osl 3 0 0,.d s,.d u,.nils,.nils,.nils,.nils,.nils]),.arr 3 []]:=qfc (σ:=[b0,b1,.box 10 (.agg [.d a,.d b,.nils,.d s,.d u,.nils,.nils,.nils,.nils,.nils])]) 2 3 2 (Nat.zero_le _) rfl rfl (by simp) (by simp)
 have w2:qgm n 0 env [b0,b1,.box 10 (.agg [.d a,.d b,.osl 3 0 0,.d s,.d u,.nils,.nils,.nils,.nils,.nils]),.arr 3 []] env [b0,b1,.box 10 (.agg [.d a,.d b,.osl 3 0 0,.d s,.d u,.osl 4 0 0,.nils,.nils,.nils,.nils]),.arr 3 [],.arr 7 []]:=qfc (σ:=[b0,b1,.box 10 (.agg [.d a,.d b,.osl 3 0 0,.d s,.d u,.nils,.nils,.nils,.nils,.nils]),.arr 3 []]) 2 7 5 (Nat.zero_le _) rfl rfl (by simp) (by simp)
 have w3:qgm n 0 env [b0,b1,.box 10 (.agg [.d a,.d b,.osl 3 0 0,.d s,.d u,.osl 4 0 0,.nils,.nils,.nils,.nils]),.arr 3 [],.arr 7 []] env [b0,b1,.box 10 (.agg [.d a,.d b,.osl 3 0 0,.d s,.d u,.osl 4 0 0,.osl 5 0 0,.nils,.nils,.nils]),.arr 3 [],.arr 7 [],.arr 4 []]:=qfc (σ:=[b0,b1,.box 10 (.agg [.d a,.d b,.osl 3 0 0,.d s,.d u,.osl 4 0 0,.nils,.nils,.nils,.nils]),.arr 3 [],.arr 7 []]) 2 4 6 (Nat.zero_le _) rfl rfl (by simp) (by simp)
 have w4:qgm n 0 env [b0,b1,.box 10 (.agg [.d a,.d b,.osl 3 0 0,.d s,.d u,.osl 4 0 0,.osl 5 0 0,.nils,.nils,.nils]),.arr 3 [],.arr 7 [],.arr 4 []] env [b0,b1,.box 10 (.agg [.d a,.d b,.osl 3 0 0,.d s,.d u,.osl 4 0 0,.osl 5 0 0,.osl 6 0 0,.nils,.nils]),.arr 3 [],.arr 7 [],.arr 4 [],.arr 3 []]:=qfc (σ:=[b0,b1,.box 10 (.agg [.d a,.d b,.osl 3 0 0,.d s,.d u,.osl 4 0 0,.osl 5 0 0,.nils,.nils,.nils]),.arr 3 [],.arr 7 [],.arr 4 []]) 2 3 7 (Nat.zero_le _) rfl rfl (by simp) (by simp)
 have w5:qgm n 0 env [b0,b1,.box 10 (.agg [.d a,.d b,.osl 3 0 0,.d s,.d u,.osl 4 0 0,.osl 5 0 0,.osl 6 0 0,.nils,.nils]),.arr 3 [],.arr 7 [],.arr 4 [],.arr 3 []] env [b0,b1,.box 10 (.agg [.d a,.d b,.osl 3 0 0,.d s,.d u,.osl 4 0 0,.osl 5 0 0,.osl 6 0 0,.osl 7 0 0,.nils]),.arr 3 [],.arr 7 [],.arr 4 [],.arr 3 [],.arr 7 []]:=qfc (σ:=[b0,b1,.box 10 (.agg [.d a,.d b,.osl 3 0 0,.d s,.d u,.osl 4 0 0,.osl 5 0 0,.osl 6 0 0,.nils,.nils]),.arr 3 [],.arr 7 [],.arr 4 [],.arr 3 []]) 2 7 8 (Nat.zero_le _) rfl rfl (by simp) (by simp)
 have w6:qgm n 0 env [b0,b1,.box 10 (.agg [.d a,.d b,.osl 3 0 0,.d s,.d u,.osl 4 0 0,.osl 5 0 0,.osl 6 0 0,.osl 7 0 0,.nils]),.arr 3 [],.arr 7 [],.arr 4 [],.arr 3 [],.arr 7 []] env [b0,b1,.box 10 (.agg [.d a,.d b,.osl 3 0 0,.d s,.d u,.osl 4 0 0,.osl 5 0 0,.osl 6 0 0,.osl 7 0 0,.osl 8 0 0]),.arr 3 [],.arr 7 [],.arr 4 [],.arr 3 [],.arr 7 [],.arr 4 []]:=qfc (σ:=[b0,b1,.box 10 (.agg [.d a,.d b,.osl 3 0 0,.d s,.d u,.osl 4 0 0,.osl 5 0 0,.osl 6 0 0,.osl 7 0 0,.nils]),.arr 3 [],.arr 7 [],.arr 4 [],.arr 3 [],.arr 7 []]) 2 4 9 (Nat.zero_le _) rfl rfl (by simp) (by simp)
 exact w1.trans (w2.trans (w3.trans (w4.trans (w5.trans w6))))
def q6x (l:List qao) (t:qaw):qaw:=
 {t with
  threads:=qdm (fun x=>!qbe l qau x.name) id t.threads
  slices:=qds (chF (q19 l t) t.slices).1
  states:=qdu (qco l t.threads) t.states
  flows:=qdm (fun x=>!qco l t.threads x.ft&&!qco l t.threads x.tt) id t.flows
  samples:=qdm (fun x=>!qco l t.threads x.thread) (frS l) t.samples
  steps:=qdm (fun x=>!qbe l qat x.name) id t.steps
  blocks:=qdm (fun x=>!qco l t.threads x.thread) (qv6 l) t.blocks
  lost:=qdm (fun x=>!qco l t.threads x.thread) id t.lost}
theorem q7q (l:List qao) (t:qaw) (hl:l.length<1000000) (ht:t.lim) (hs:t.limS) (hg:qe8 t.slices):qba prog Gl 46 [.d (.sl (l.map qao.toD)),.d t.toD] (.d (q6x l t).toD):=by
 refine qba.of2 ?_
 obtain⟨g,hgd⟩:∃g,g=qco l t.threads:=⟨_,rfl⟩
 obtain⟨SL,hSL⟩:∃SL,SL=qds (chF (q19 l t) t.slices).1:=⟨_,rfl⟩
 obtain⟨ST,hST⟩:∃ST,ST=qdu g t.states:=⟨_,rfl⟩
 have ew:q6x l t={t with
  threads:=qdm (fun x=>!qbe l qau x.name) id t.threads
  slices:=SL
  states:=ST
  flows:=qdm (fun x=>!g x.ft&&!g x.tt) id t.flows
  samples:=qdm (fun x=>!g x.thread) (frS l) t.samples
  steps:=qdm (fun x=>!qbe l qat x.name) id t.steps
  blocks:=qdm (fun x=>!g x.thread) (qv6 l) t.blocks
  lost:=qdm (fun x=>!g x.thread) id t.lost}:=by rw[hSL,hST,hgd];rfl
 rw[ew]
 refine qac func46 rfl rfl (by simp[ntmps46]) (qab rfl _ _ _ _ ?_)
 simp only[ntmps46,results46,qak,List.length_nil]
 simp only[zU,seval]
 refine⟨.inl (by kernel_rfl),?_⟩
 refine qad (Qir l t hl ht) ?_
 rw[←hgd,←hST]
 simp only[zU,seval]
 refine qad (Qis l t hl ht hg) ?_
 rw[←hSL]
 simp only[zU,seval]
 repeat((with_reducible apply aI);exact sdp)
 obtain⟨h1,h2,h3,h4,h5,h6,h7,h8⟩:=id ht
 refine qan t.threads.length (fun k=>[(0,.d (.sl (l.map qao.toD))),(3,.ptr 0 0),(4,.ptr 1 0),(5,.ptr 2 0),(6,.d (.int .i64 k))]) (fun k=>[.box 10 (.d t.toD),.box 10 zT,.box 10 (.agg [.d (.int .i64 t.lo),.d (.int .i64 t.hi),.osl 3 0 (qdm (fun x=>!qbe l qau x.name) id (t.threads.take k)).length,.d (.sl (SL.map qag.toD)),.d (.sl (ST.map qax.toD)),.osl 4 0 0,.osl 5 0 0,.osl 6 0 0,.osl 7 0 0,.osl 8 0 0]),.arr 3 ((qdm (fun x=>!qbe l qau x.name) id (t.threads.take k)).map qaj.toD),.arr 7 (([]:List qbf).map qbf.toD),.arr 4 (([]:List qam).map qam.toD),.arr 3 (([]:List qa2).map qa2.toD),.arr 7 (([]:List qar).map qar.toD),.arr 4 (([]:List qbr).map qbr.toD)]) (fun _=>True) trivial ?_ ?_
 ·refine(Qk5 _ _ _ _ _ _).trans ?_
  refine qaa [] [0,1,2,3,4,5,6,7,8] rfl (by simp) ?_ rfl
  simp only[zU,seval]
  try rfl
 intro k _ hk
 by_cases h:k<t.threads.length
 ·obtain⟨x,hx⟩:∃x,x=t.threads.getD k default:=⟨_,rfl⟩
  have eg:(t.threads.map qaj.toD).getD k default=x.toD:=by rw[qah _ _ _ h,←hx]
  have htk:t.threads.take (k+1)=t.threads.take k++[x]:=by rw[qa0 _ k h,←hx]
  have hle:=qfw (fun x=>!qbe l qau x.name) id (t.threads.take k)
  rw[List.length_take] at hle
  obtain⟨ys,hys⟩:∃ys,ys=qdm (fun x=>!qbe l qau x.name) id (t.threads.take k):=⟨_,rfl⟩
  rw[htk]
  rw[←hys] at hle
  simp only[zU,seval,(show(k:Int)<t.threads.length by omega),h,eg]
  repeat((with_reducible apply aI);exact sdp)
  refine qad (qfq l _ _ hl) ?_
  simp only[zU,seval]
  refine ifC.mk (fun hc=>?_) (fun hc=>?_)
  ·have hc:(!qbe l qau x.name)=true:=hc
   rw[qw7 (p:=(fun x:qaj=>!qbe l qau x.name)) hc,←hys]
   (try simp only[zU,seval,(show(k:Int)<t.threads.length by omega),h,eg,qaz])
   repeat((with_reducible apply aI);exact sdp)
   (try simp only[zU,seval,(show(k:Int)<t.threads.length by omega),h,eg,qaz])
   repeat((with_reducible apply aI);exact sdp)
   refine qaa [] [0,1,2,10,4,5,6,7,8] rfl (by simp) ?_ ?_
   ·simp only[zU,seval,@qaf ((k:Int)+1) (by omega)]
    try rfl
   ·rw[List.map_append];rfl
  ·have hc:(!qbe l qau x.name)=false:=hc
   rw[qw8 (p:=(fun x:qaj=>!qbe l qau x.name)) hc,←hys]
   refine qaa [] [0,1,2,3,4,5,6,7,8] rfl (by simp) ?_ rfl
   simp only[zU,seval,@qaf ((k:Int)+1) (by omega)]
   try rfl
 have:k=t.threads.length:=by omega
 subst this
 simp only[zU,seval,(show ¬(t.threads.length:Int)<t.threads.length by omega),List.take_length]
 refine qan t.flows.length (fun k=>[(0,.d (.sl (l.map qao.toD))),(3,.ptr 0 0),(4,.ptr 1 0),(5,.ptr 2 0),(7,.d (.int .i64 k))]) (fun k=>[.box 10 (.d t.toD),.box 10 zT,.box 10 (.agg [.d (.int .i64 t.lo),.d (.int .i64 t.hi),.osl 3 0 (qdm (fun x=>!qbe l qau x.name) id t.threads).length,.d (.sl (SL.map qag.toD)),.d (.sl (ST.map qax.toD)),.osl 4 0 (qdm (fun x=>!g x.ft&&!g x.tt) id (t.flows.take k)).length,.osl 5 0 0,.osl 6 0 0,.osl 7 0 0,.osl 8 0 0]),.arr 3 ((qdm (fun x=>!qbe l qau x.name) id t.threads).map qaj.toD),.arr 7 ((qdm (fun x=>!g x.ft&&!g x.tt) id (t.flows.take k)).map qbf.toD),.arr 4 (([]:List qam).map qam.toD),.arr 3 (([]:List qa2).map qa2.toD),.arr 7 (([]:List qar).map qar.toD),.arr 4 (([]:List qbr).map qbr.toD)]) (fun _=>True) trivial ?_ ?_
 ·refine qaa [] [0,1,2,3,4,5,6,7,8] rfl (by simp) ?_ rfl
  simp only[zU,seval]
  try rfl
 intro k _ hk
 by_cases h:k<t.flows.length
 ·obtain⟨x,hx⟩:∃x,x=t.flows.getD k default:=⟨_,rfl⟩
  have eg:(t.flows.map qbf.toD).getD k default=x.toD:=by rw[qah _ _ _ h,←hx]
  have htk:t.flows.take (k+1)=t.flows.take k++[x]:=by rw[qa0 _ k h,←hx]
  have hle:=qfw (fun x=>!g x.ft&&!g x.tt) id (t.flows.take k)
  rw[List.length_take] at hle
  obtain⟨ys,hys⟩:∃ys,ys=qdm (fun x=>!g x.ft&&!g x.tt) id (t.flows.take k):=⟨_,rfl⟩
  rw[htk]
  rw[←hys] at hle
  simp only[zU,seval,(show(k:Int)<t.flows.length by omega),h,eg]
  repeat((with_reducible apply aI);exact sdp)
  refine qad (qk7 l t _ hl ht) ?_
  rw[←hgd]
  simp only[zU,seval,(show(k:Int)<t.flows.length by omega),h,eg]
  repeat((with_reducible apply aI);exact sdp)
  refine qay (fun _=>qk7 l t _ hl ht) ?_
  rw[←hgd]
  simp only[zU,seval]
  repeat((with_reducible apply aI);exact sdp)
  refine ifC.mk (fun hc=>?_) (fun hc=>?_)
  ·have hc:(!g x.ft&&!g x.tt)=true:=hc
   rw[qw7 (p:=(fun x:qbf=>!g x.ft&&!g x.tt)) hc,←hys]
   (try simp only[zU,seval,(show(k:Int)<t.flows.length by omega),h,eg,qaz])
   repeat((with_reducible apply aI);exact sdp)
   (try simp only[zU,seval,(show(k:Int)<t.flows.length by omega),h,eg,qaz])
   repeat((with_reducible apply aI);exact sdp)
   refine qaa [] [0,1,2,3,10,5,6,7,8] rfl (by simp) ?_ ?_
   ·simp only[zU,seval,@qaf ((k:Int)+1) (by omega)]
    try rfl
   ·rw[List.map_append];rfl
  ·have hc:(!g x.ft&&!g x.tt)=false:=hc
   rw[qw8 (p:=(fun x:qbf=>!g x.ft&&!g x.tt)) hc,←hys]
   refine qaa [] [0,1,2,3,4,5,6,7,8] rfl (by simp) ?_ rfl
   simp only[zU,seval,@qaf ((k:Int)+1) (by omega)]
   try rfl
 have:k=t.flows.length:=by omega
 subst this
 simp only[zU,seval,(show ¬(t.flows.length:Int)<t.flows.length by omega),List.take_length]
 refine qan t.samples.length (fun k=>[(0,.d (.sl (l.map qao.toD))),(3,.ptr 0 0),(4,.ptr 1 0),(5,.ptr 2 0),(8,.d (.int .i64 k))]) (fun k=>[.box 10 (.d t.toD),.box 10 zT,.box 10 (.agg [.d (.int .i64 t.lo),.d (.int .i64 t.hi),.osl 3 0 (qdm (fun x=>!qbe l qau x.name) id t.threads).length,.d (.sl (SL.map qag.toD)),.d (.sl (ST.map qax.toD)),.osl 4 0 (qdm (fun x=>!g x.ft&&!g x.tt) id t.flows).length,.osl 5 0 (qdm (fun x=>!g x.thread) (frS l) (t.samples.take k)).length,.osl 6 0 0,.osl 7 0 0,.osl 8 0 0]),.arr 3 ((qdm (fun x=>!qbe l qau x.name) id t.threads).map qaj.toD),.arr 7 ((qdm (fun x=>!g x.ft&&!g x.tt) id t.flows).map qbf.toD),.arr 4 ((qdm (fun x=>!g x.thread) (frS l) (t.samples.take k)).map qam.toD),.arr 3 (([]:List qa2).map qa2.toD),.arr 7 (([]:List qar).map qar.toD),.arr 4 (([]:List qbr).map qbr.toD)]) (fun _=>True) trivial ?_ ?_
 ·refine qaa [] [0,1,2,3,4,5,6,7,8] rfl (by simp) ?_ rfl
  simp only[zU,seval]
  try rfl
 intro k _ hk
 by_cases h:k<t.samples.length
 ·obtain⟨x,hx⟩:∃x,x=t.samples.getD k default:=⟨_,rfl⟩
  have eg:(t.samples.map qam.toD).getD k default=x.toD:=by rw[qah _ _ _ h,←hx]
  have htk:t.samples.take (k+1)=t.samples.take k++[x]:=by rw[qa0 _ k h,←hx]
  have hle:=qfw (fun x=>!g x.thread) (frS l) (t.samples.take k)
  rw[List.length_take] at hle
  obtain⟨ys,hys⟩:∃ys,ys=qdm (fun x=>!g x.thread) (frS l) (t.samples.take k):=⟨_,rfl⟩
  rw[htk]
  rw[←hys] at hle
  simp only[zU,seval,(show(k:Int)<t.samples.length by omega),h,eg]
  repeat((with_reducible apply aI);exact sdp)
  have hxs:=hs.1 x (by rw[hx];exact qcd h)
  refine qad (Qb6 l _ hl hxs) ?_
  simp only[zU,seval]
  refine qad (qk7 l t _ hl ht) ?_
  rw[←hgd]
  simp only[zU,seval]
  refine ifC.mk (fun hc=>?_) (fun hc=>?_)
  ·have hc:(!g x.thread)=true:=hc
   rw[qw7 (p:=(fun x:qam=>!g x.thread)) hc,←hys]
   (try simp only[zU,seval,(show(k:Int)<t.samples.length by omega),h,eg,qaz])
   repeat((with_reducible apply aI);exact sdp)
   (try simp only[zU,seval,(show(k:Int)<t.samples.length by omega),h,eg,qaz])
   repeat((with_reducible apply aI);exact sdp)
   refine qaa [] [0,1,2,3,4,11,6,7,8] rfl (by simp) ?_ ?_
   ·simp only[zU,seval,@qaf ((k:Int)+1) (by omega)]
    try rfl
   ·rw[List.map_append];rfl
  ·have hc:(!g x.thread)=false:=hc
   rw[qw8 (p:=(fun x:qam=>!g x.thread)) hc,←hys]
   refine qaa [] [0,1,2,3,4,5,6,7,8] rfl (by simp) ?_ rfl
   simp only[zU,seval,@qaf ((k:Int)+1) (by omega)]
   try rfl
 have:k=t.samples.length:=by omega
 subst this
 simp only[zU,seval,(show ¬(t.samples.length:Int)<t.samples.length by omega),List.take_length]
 refine qan t.steps.length (fun k=>[(0,.d (.sl (l.map qao.toD))),(3,.ptr 0 0),(4,.ptr 1 0),(5,.ptr 2 0),(10,.d (.int .i64 k))]) (fun k=>[.box 10 (.d t.toD),.box 10 zT,.box 10 (.agg [.d (.int .i64 t.lo),.d (.int .i64 t.hi),.osl 3 0 (qdm (fun x=>!qbe l qau x.name) id t.threads).length,.d (.sl (SL.map qag.toD)),.d (.sl (ST.map qax.toD)),.osl 4 0 (qdm (fun x=>!g x.ft&&!g x.tt) id t.flows).length,.osl 5 0 (qdm (fun x=>!g x.thread) (frS l) t.samples).length,.osl 6 0 (qdm (fun x=>!qbe l qat x.name) id (t.steps.take k)).length,.osl 7 0 0,.osl 8 0 0]),.arr 3 ((qdm (fun x=>!qbe l qau x.name) id t.threads).map qaj.toD),.arr 7 ((qdm (fun x=>!g x.ft&&!g x.tt) id t.flows).map qbf.toD),.arr 4 ((qdm (fun x=>!g x.thread) (frS l) t.samples).map qam.toD),.arr 3 ((qdm (fun x=>!qbe l qat x.name) id (t.steps.take k)).map qa2.toD),.arr 7 (([]:List qar).map qar.toD),.arr 4 (([]:List qbr).map qbr.toD)]) (fun _=>True) trivial ?_ ?_
 ·refine qaa [] [0,1,2,3,4,5,6,7,8] rfl (by simp) ?_ rfl
  simp only[zU,seval]
  try rfl
 intro k _ hk
 by_cases h:k<t.steps.length
 ·obtain⟨x,hx⟩:∃x,x=t.steps.getD k default:=⟨_,rfl⟩
  have eg:(t.steps.map qa2.toD).getD k default=x.toD:=by rw[qah _ _ _ h,←hx]
  have htk:t.steps.take (k+1)=t.steps.take k++[x]:=by rw[qa0 _ k h,←hx]
  have hle:=qfw (fun x=>!qbe l qat x.name) id (t.steps.take k)
  rw[List.length_take] at hle
  obtain⟨ys,hys⟩:∃ys,ys=qdm (fun x=>!qbe l qat x.name) id (t.steps.take k):=⟨_,rfl⟩
  rw[htk]
  rw[←hys] at hle
  simp only[zU,seval,(show(k:Int)<t.steps.length by omega),h,eg]
  repeat((with_reducible apply aI);exact sdp)
  refine qad (qfq l _ _ hl) ?_
  simp only[zU,seval]
  refine ifC.mk (fun hc=>?_) (fun hc=>?_)
  ·have hc:(!qbe l qat x.name)=true:=hc
   rw[qw7 (p:=(fun x:qa2=>!qbe l qat x.name)) hc,←hys]
   (try simp only[zU,seval,(show(k:Int)<t.steps.length by omega),h,eg,qaz])
   repeat((with_reducible apply aI);exact sdp)
   (try simp only[zU,seval,(show(k:Int)<t.steps.length by omega),h,eg,qaz])
   repeat((with_reducible apply aI);exact sdp)
   refine qaa [] [0,1,2,3,4,5,10,7,8] rfl (by simp) ?_ ?_
   ·simp only[zU,seval,@qaf ((k:Int)+1) (by omega)]
    try rfl
   ·rw[List.map_append];rfl
  ·have hc:(!qbe l qat x.name)=false:=hc
   rw[qw8 (p:=(fun x:qa2=>!qbe l qat x.name)) hc,←hys]
   refine qaa [] [0,1,2,3,4,5,6,7,8] rfl (by simp) ?_ rfl
   simp only[zU,seval,@qaf ((k:Int)+1) (by omega)]
   try rfl
 have:k=t.steps.length:=by omega
 subst this
 simp only[zU,seval,(show ¬(t.steps.length:Int)<t.steps.length by omega),List.take_length]
 refine qan t.blocks.length (fun k=>[(0,.d (.sl (l.map qao.toD))),(3,.ptr 0 0),(4,.ptr 1 0),(5,.ptr 2 0),(11,.d (.int .i64 k))]) (fun k=>[.box 10 (.d t.toD),.box 10 zT,.box 10 (.agg [.d (.int .i64 t.lo),.d (.int .i64 t.hi),.osl 3 0 (qdm (fun x=>!qbe l qau x.name) id t.threads).length,.d (.sl (SL.map qag.toD)),.d (.sl (ST.map qax.toD)),.osl 4 0 (qdm (fun x=>!g x.ft&&!g x.tt) id t.flows).length,.osl 5 0 (qdm (fun x=>!g x.thread) (frS l) t.samples).length,.osl 6 0 (qdm (fun x=>!qbe l qat x.name) id t.steps).length,.osl 7 0 (qdm (fun x=>!g x.thread) (qv6 l) (t.blocks.take k)).length,.osl 8 0 0]),.arr 3 ((qdm (fun x=>!qbe l qau x.name) id t.threads).map qaj.toD),.arr 7 ((qdm (fun x=>!g x.ft&&!g x.tt) id t.flows).map qbf.toD),.arr 4 ((qdm (fun x=>!g x.thread) (frS l) t.samples).map qam.toD),.arr 3 ((qdm (fun x=>!qbe l qat x.name) id t.steps).map qa2.toD),.arr 7 ((qdm (fun x=>!g x.thread) (qv6 l) (t.blocks.take k)).map qar.toD),.arr 4 (([]:List qbr).map qbr.toD)]) (fun _=>True) trivial ?_ ?_
 ·refine qaa [] [0,1,2,3,4,5,6,7,8] rfl (by simp) ?_ rfl
  simp only[zU,seval]
  try rfl
 intro k _ hk
 by_cases h:k<t.blocks.length
 ·obtain⟨x,hx⟩:∃x,x=t.blocks.getD k default:=⟨_,rfl⟩
  have eg:(t.blocks.map qar.toD).getD k default=x.toD:=by rw[qah _ _ _ h,←hx]
  have htk:t.blocks.take (k+1)=t.blocks.take k++[x]:=by rw[qa0 _ k h,←hx]
  have hle:=qfw (fun x=>!g x.thread) (qv6 l) (t.blocks.take k)
  rw[List.length_take] at hle
  obtain⟨ys,hys⟩:∃ys,ys=qdm (fun x=>!g x.thread) (qv6 l) (t.blocks.take k):=⟨_,rfl⟩
  rw[htk]
  rw[←hys] at hle
  simp only[zU,seval,(show(k:Int)<t.blocks.length by omega),h,eg]
  repeat((with_reducible apply aI);exact sdp)
  have hxs:=hs.2 x (by rw[hx];exact qcd h)
  refine qad (Qb6 l _ hl hxs) ?_
  simp only[zU,seval]
  refine qad (qk7 l t _ hl ht) ?_
  rw[←hgd]
  simp only[zU,seval]
  refine ifC.mk (fun hc=>?_) (fun hc=>?_)
  ·have hc:(!g x.thread)=true:=hc
   rw[qw7 (p:=(fun x:qar=>!g x.thread)) hc,←hys]
   (try simp only[zU,seval,(show(k:Int)<t.blocks.length by omega),h,eg,qaz])
   repeat((with_reducible apply aI);exact sdp)
   (try simp only[zU,seval,(show(k:Int)<t.blocks.length by omega),h,eg,qaz])
   repeat((with_reducible apply aI);exact sdp)
   refine qaa [] [0,1,2,3,4,5,6,11,8] rfl (by simp) ?_ ?_
   ·simp only[zU,seval,@qaf ((k:Int)+1) (by omega)]
    try rfl
   ·rw[List.map_append];rfl
  ·have hc:(!g x.thread)=false:=hc
   rw[qw8 (p:=(fun x:qar=>!g x.thread)) hc,←hys]
   refine qaa [] [0,1,2,3,4,5,6,7,8] rfl (by simp) ?_ rfl
   simp only[zU,seval,@qaf ((k:Int)+1) (by omega)]
   try rfl
 have:k=t.blocks.length:=by omega
 subst this
 simp only[zU,seval,(show ¬(t.blocks.length:Int)<t.blocks.length by omega),List.take_length]
 refine qan t.lost.length (fun k=>[(0,.d (.sl (l.map qao.toD))),(3,.ptr 0 0),(4,.ptr 1 0),(5,.ptr 2 0),(13,.d (.int .i64 k))]) (fun k=>[.box 10 (.d t.toD),.box 10 zT,.box 10 (.agg [.d (.int .i64 t.lo),.d (.int .i64 t.hi),.osl 3 0 (qdm (fun x=>!qbe l qau x.name) id t.threads).length,.d (.sl (SL.map qag.toD)),.d (.sl (ST.map qax.toD)),.osl 4 0 (qdm (fun x=>!g x.ft&&!g x.tt) id t.flows).length,.osl 5 0 (qdm (fun x=>!g x.thread) (frS l) t.samples).length,.osl 6 0 (qdm (fun x=>!qbe l qat x.name) id t.steps).length,.osl 7 0 (qdm (fun x=>!g x.thread) (qv6 l) t.blocks).length,.osl 8 0 (qdm (fun x=>!g x.thread) id (t.lost.take k)).length]),.arr 3 ((qdm (fun x=>!qbe l qau x.name) id t.threads).map qaj.toD),.arr 7 ((qdm (fun x=>!g x.ft&&!g x.tt) id t.flows).map qbf.toD),.arr 4 ((qdm (fun x=>!g x.thread) (frS l) t.samples).map qam.toD),.arr 3 ((qdm (fun x=>!qbe l qat x.name) id t.steps).map qa2.toD),.arr 7 ((qdm (fun x=>!g x.thread) (qv6 l) t.blocks).map qar.toD),.arr 4 ((qdm (fun x=>!g x.thread) id (t.lost.take k)).map qbr.toD)]) (fun _=>True) trivial ?_ ?_
 ·refine qaa [] [0,1,2,3,4,5,6,7,8] rfl (by simp) ?_ rfl
  simp only[zU,seval]
  try rfl
 intro k _ hk
 by_cases h:k<t.lost.length
 ·obtain⟨x,hx⟩:∃x,x=t.lost.getD k default:=⟨_,rfl⟩
  have eg:(t.lost.map qbr.toD).getD k default=x.toD:=by rw[qah _ _ _ h,←hx]
  have htk:t.lost.take (k+1)=t.lost.take k++[x]:=by rw[qa0 _ k h,←hx]
  have hle:=qfw (fun x=>!g x.thread) id (t.lost.take k)
  rw[List.length_take] at hle
  obtain⟨ys,hys⟩:∃ys,ys=qdm (fun x=>!g x.thread) id (t.lost.take k):=⟨_,rfl⟩
  rw[htk]
  rw[←hys] at hle
  simp only[zU,seval,(show(k:Int)<t.lost.length by omega),h,eg]
  repeat((with_reducible apply aI);exact sdp)
  refine qad (qk7 l t _ hl ht) ?_
  rw[←hgd]
  simp only[zU,seval,(show(k:Int)<t.lost.length by omega),h,eg]
  repeat((with_reducible apply aI);exact sdp)
  refine ifC.mk (fun hc=>?_) (fun hc=>?_)
  ·have hc:(!g x.thread)=true:=hc
   rw[qw7 (p:=(fun x:qbr=>!g x.thread)) hc,←hys]
   (try simp only[zU,seval,(show(k:Int)<t.lost.length by omega),h,eg,qaz])
   repeat((with_reducible apply aI);exact sdp)
   (try simp only[zU,seval,(show(k:Int)<t.lost.length by omega),h,eg,qaz])
   repeat((with_reducible apply aI);exact sdp)
   refine qaa [] [0,1,2,3,4,5,6,7,10] rfl (by simp) ?_ ?_
   ·simp only[zU,seval,@qaf ((k:Int)+1) (by omega)]
    try rfl
   ·rw[List.map_append];rfl
  ·have hc:(!g x.thread)=false:=hc
   rw[qw8 (p:=(fun x:qbr=>!g x.thread)) hc,←hys]
   refine qaa [] [0,1,2,3,4,5,6,7,8] rfl (by simp) ?_ rfl
   simp only[zU,seval,@qaf ((k:Int)+1) (by omega)]
   try rfl
 have:k=t.lost.length:=by omega
 subst this
 simp only[zU,seval,(show ¬(t.lost.length:Int)<t.lost.length by omega),List.take_length]
 generalize (qdm (fun x:qaj=>!qbe l qau x.name) id t.threads)=L0
 generalize (qdm (fun x:qbf=>!g x.ft&&!g x.tt) id t.flows)=L1
 generalize (qdm (fun x:qam=>!g x.thread) (frS l) t.samples)=L2
 generalize (qdm (fun x:qa2=>!qbe l qat x.name) id t.steps)=L3
 generalize (qdm (fun x:qar=>!g x.thread) (qv6 l) t.blocks)=L4
 generalize (qdm (fun x:qbr=>!g x.thread) id t.lost)=L5
 refine⟨_,_,qc7 rfl ?_,rfl,rfl⟩
 show D.agg [.int .i64 t.lo,.int .i64 t.hi,.sl (((L0.map qaj.toD).drop 0).take L0.length),.sl (SL.map qag.toD),.sl (ST.map qax.toD),.sl (((L1.map qbf.toD).drop 0).take L1.length),.sl (((L2.map qam.toD).drop 0).take L2.length),.sl (((L3.map qa2.toD).drop 0).take L3.length),.sl (((L4.map qar.toD).drop 0).take L4.length),.sl (((L5.map qbr.toD).drop 0).take L5.length)]=_
 rw[List.drop_zero,qaz,List.drop_zero,qaz,List.drop_zero,qaz,List.drop_zero,qaz,List.drop_zero,qaz,List.drop_zero,qaz];rfl

theorem qn3:(qau==[116,104,114,101,97,100])=true:=by decide
theorem qqv:(qau==[115,108,105,99,101])=false:=by decide
theorem qil:(qau==[102,114,97,109,101])=false:=by decide
theorem qm5:(qau==[99,111,117,110,116,101,114])=false:=by decide
theorem qqw:(qa6==[116,104,114,101,97,100])=false:=by decide
theorem qt6:(qa6==[115,108,105,99,101])=true:=by decide
theorem qjh:(qa6==[102,114,97,109,101])=false:=by decide
theorem qn4:(qa6==[99,111,117,110,116,101,114])=false:=by decide
theorem qqx:(qa7==[116,104,114,101,97,100])=false:=by decide
theorem qt7:(qa7==[115,108,105,99,101])=false:=by decide
theorem qji:(qa7==[102,114,97,109,101])=true:=by decide
theorem qn5:(qa7==[99,111,117,110,116,101,114])=false:=by decide
theorem qm6:(qat==[116,104,114,101,97,100])=false:=by decide
theorem qn6:(qat==[115,108,105,99,101])=false:=by decide
theorem qhf:(qat==[102,114,97,109,101])=false:=by decide
theorem qli:(qat==[99,111,117,110,116,101,114])=true:=by decide
theorem Qp7 (t:qaw) (ht:t.lim) (hs:t.limS):qba prog Gl 48 [.d t.toD,.d (.str qau)] (.d (.sl ((t.threads.map (·.name)).map .str))):=by
 refine qba.of2 ?_
 obtain⟨h1,h2,h3,h4,h5,h6,h7,h8⟩:=id ht
 refine qac func48 rfl rfl (by simp[ntmps48]) (qab rfl _ _ _ _ ?_)
 simp only[ntmps48,results48,qak,List.length_nil]
 simp only[zU,seval]
 refine qan t.threads.length (fun k=>[(1,.d (.str qau)),(2,.ptr 0 0),(5,.osl 1 0 ((t.threads.take k).map (·.name)).length),(6,.d (.int .i64 k))]) (fun k=>[.box 10 (.d t.toD),.arr 1 (((t.threads.take k).map (·.name)).map .str)]) (fun _=>True) trivial ?_ ?_
 ·refine(qcw 5 1 rfl).trans ?_
  refine qaa [] [0,1] rfl (by simp) ?_ rfl
  simp only[zU,seval]
  try rfl
 intro k _ hk
 by_cases h:k<t.threads.length
 ·obtain⟨x,hx⟩:∃x,x=t.threads.getD k default:=⟨_,rfl⟩
  have eg:(t.threads.map qaj.toD).getD k default=x.toD:=by rw[qah _ _ _ h,←hx]
  have htk:t.threads.take (k+1)=t.threads.take k++[x]:=by rw[qa0 _ k h,←hx]
  simp only[zU,seval,(show(k:Int)<t.threads.length by omega),h,eg,qn3]
  repeat((with_reducible apply aI);exact sdp)
  rw[htk]
  refine qaa [] [0,3] rfl (by simp) ?_ ?_
  ·simp only[zU,seval,@qaf ((k:Int)+1) (by omega)]
   try rfl
  ·have e1:List.take (List.take k t.threads).length (List.map D.str (List.map (fun x:qaj=>x.name) (List.take k t.threads)))=List.map D.str (List.map (fun x:qaj=>x.name) (List.take k t.threads)):=List.take_of_length_le (by simp)
   rw[e1,List.map_append,List.map_append];rfl
 have:k=t.threads.length:=by omega
 subst this
 simp only[zU,seval,(show ¬(t.threads.length:Int)<t.threads.length by omega),List.take_length]
 refine qan 0 (fun k=>[(1,.d (.str qau)),(2,.ptr 0 0),(5,.osl 1 0 (t.threads.map (·.name)).length),(7,.d (.int .i64 k))]) (fun k=>[.box 10 (.d t.toD),.arr 1 ((t.threads.map (·.name)).map .str)]) (fun _=>True) trivial ?_ ?_
 ·refine qaa [] [0,1] rfl (by simp) ?_ ?_
  ·simp only[zU,seval]
   try rfl
  ·rfl
 intro k _ hk
 have:k=0:=by omega
 subst this
 simp only[zU,seval,qqv]
 refine qan 0 (fun k=>[(1,.d (.str qau)),(2,.ptr 0 0),(5,.osl 1 0 (t.threads.map (·.name)).length),(8,.d (.int .i64 k))]) (fun k=>[.box 10 (.d t.toD),.arr 1 ((t.threads.map (·.name)).map .str)]) (fun _=>True) trivial ?_ ?_
 ·refine qaa [] [0,1] rfl (by simp) ?_ ?_
  ·simp only[zU,seval]
   try rfl
  ·rfl
 intro k _ hk
 have:k=0:=by omega
 subst this
 simp only[zU,seval,qil]
 refine qan 0 (fun k=>[(1,.d (.str qau)),(2,.ptr 0 0),(5,.osl 1 0 (t.threads.map (·.name)).length),(9,.d (.int .i64 k))]) (fun k=>[.box 10 (.d t.toD),.arr 1 ((t.threads.map (·.name)).map .str)]) (fun _=>True) trivial ?_ ?_
 ·refine qaa [] [0,1] rfl (by simp) ?_ ?_
  ·simp only[zU,seval]
   try rfl
  ·rfl
 intro k _ hk
 have:k=0:=by omega
 subst this
 simp only[zU,seval,qil]
 refine qan 0 (fun k=>[(1,.d (.str qau)),(2,.ptr 0 0),(5,.osl 1 0 (t.threads.map (·.name)).length),(10,.d (.int .i64 k))]) (fun k=>[.box 10 (.d t.toD),.arr 1 ((t.threads.map (·.name)).map .str)]) (fun _=>True) trivial ?_ ?_
 ·refine qaa [] [0,1] rfl (by simp) ?_ ?_
  ·simp only[zU,seval]
   try rfl
  ·rfl
 intro k _ hk
 have:k=0:=by omega
 subst this
 simp only[zU,seval,qm5]
 refine⟨_,_,qc7 rfl ?_,rfl,rfl⟩
 show D.sl ((((t.threads.map (·.name)).map D.str).drop 0).take t.threads.length)=_
 rw[List.drop_zero,List.take_of_length_le (by simp)]
theorem Qp8 (t:qaw) (ht:t.lim) (hs:t.limS):qba prog Gl 48 [.d t.toD,.d (.str qa6)] (.d (.sl ((t.slices.map (·.name)).map .str))):=by
 refine qba.of2 ?_
 obtain⟨h1,h2,h3,h4,h5,h6,h7,h8⟩:=id ht
 refine qac func48 rfl rfl (by simp[ntmps48]) (qab rfl _ _ _ _ ?_)
 simp only[ntmps48,results48,qak,List.length_nil]
 simp only[zU,seval]
 refine qan 0 (fun k=>[(1,.d (.str qa6)),(2,.ptr 0 0),(5,.osl 1 0 (([]:List (List UInt8))).length),(6,.d (.int .i64 k))]) (fun k=>[.box 10 (.d t.toD),.arr 1 ((([]:List (List UInt8))).map .str)]) (fun _=>True) trivial ?_ ?_
 ·refine(qcw 5 1 rfl).trans ?_
  refine qaa [] [0,1] rfl (by simp) ?_ rfl
  simp only[zU,seval]
  try rfl
 intro k _ hk
 have:k=0:=by omega
 subst this
 simp only[zU,seval,qqw]
 refine qan t.slices.length (fun k=>[(1,.d (.str qa6)),(2,.ptr 0 0),(5,.osl 1 0 ((t.slices.take k).map (·.name)).length),(7,.d (.int .i64 k))]) (fun k=>[.box 10 (.d t.toD),.arr 1 (((t.slices.take k).map (·.name)).map .str)]) (fun _=>True) trivial ?_ ?_
 ·refine qaa [] [0,1] rfl (by simp) ?_ ?_
  ·simp only[zU,seval]
   try rfl
  ·rfl
 intro k _ hk
 by_cases h:k<t.slices.length
 ·obtain⟨x,hx⟩:∃x,x=t.slices.getD k default:=⟨_,rfl⟩
  have eg:(t.slices.map qag.toD).getD k default=x.toD:=by rw[qah _ _ _ h,←hx]
  have htk:t.slices.take (k+1)=t.slices.take k++[x]:=by rw[qa0 _ k h,←hx]
  simp only[zU,seval,(show(k:Int)<t.slices.length by omega),h,eg,qt6]
  repeat((with_reducible apply aI);exact sdp)
  rw[htk]
  refine qaa [] [0,3] rfl (by simp) ?_ ?_
  ·simp only[zU,seval,@qaf ((k:Int)+1) (by omega)]
   try rfl
  ·have e1:List.take (List.take k t.slices).length (List.map D.str (List.map (fun x:qag=>x.name) (List.take k t.slices)))=List.map D.str (List.map (fun x:qag=>x.name) (List.take k t.slices)):=List.take_of_length_le (by simp)
   rw[e1,List.map_append,List.map_append];rfl
 have:k=t.slices.length:=by omega
 subst this
 simp only[zU,seval,(show ¬(t.slices.length:Int)<t.slices.length by omega),List.take_length]
 refine qan 0 (fun k=>[(1,.d (.str qa6)),(2,.ptr 0 0),(5,.osl 1 0 (t.slices.map (·.name)).length),(8,.d (.int .i64 k))]) (fun k=>[.box 10 (.d t.toD),.arr 1 ((t.slices.map (·.name)).map .str)]) (fun _=>True) trivial ?_ ?_
 ·refine qaa [] [0,1] rfl (by simp) ?_ ?_
  ·simp only[zU,seval]
   try rfl
  ·rfl
 intro k _ hk
 have:k=0:=by omega
 subst this
 simp only[zU,seval,qjh]
 refine qan 0 (fun k=>[(1,.d (.str qa6)),(2,.ptr 0 0),(5,.osl 1 0 (t.slices.map (·.name)).length),(9,.d (.int .i64 k))]) (fun k=>[.box 10 (.d t.toD),.arr 1 ((t.slices.map (·.name)).map .str)]) (fun _=>True) trivial ?_ ?_
 ·refine qaa [] [0,1] rfl (by simp) ?_ ?_
  ·simp only[zU,seval]
   try rfl
  ·rfl
 intro k _ hk
 have:k=0:=by omega
 subst this
 simp only[zU,seval,qjh]
 refine qan 0 (fun k=>[(1,.d (.str qa6)),(2,.ptr 0 0),(5,.osl 1 0 (t.slices.map (·.name)).length),(10,.d (.int .i64 k))]) (fun k=>[.box 10 (.d t.toD),.arr 1 ((t.slices.map (·.name)).map .str)]) (fun _=>True) trivial ?_ ?_
 ·refine qaa [] [0,1] rfl (by simp) ?_ ?_
  ·simp only[zU,seval]
   try rfl
  ·rfl
 intro k _ hk
 have:k=0:=by omega
 subst this
 simp only[zU,seval,qn4]
 refine⟨_,_,qc7 rfl ?_,rfl,rfl⟩
 show D.sl ((((t.slices.map (·.name)).map D.str).drop 0).take t.slices.length)=_
 rw[List.drop_zero,List.take_of_length_le (by simp)]
theorem Qqa (t:qaw) (ht:t.lim) (hs:t.limS):qba prog Gl 48 [.d t.toD,.d (.str qat)] (.d (.sl ((t.steps.map (·.name)).map .str))):=by
 refine qba.of2 ?_
 obtain⟨h1,h2,h3,h4,h5,h6,h7,h8⟩:=id ht
 refine qac func48 rfl rfl (by simp[ntmps48]) (qab rfl _ _ _ _ ?_)
 simp only[ntmps48,results48,qak,List.length_nil]
 simp only[zU,seval]
 refine qan 0 (fun k=>[(1,.d (.str qat)),(2,.ptr 0 0),(5,.osl 1 0 (([]:List (List UInt8))).length),(6,.d (.int .i64 k))]) (fun k=>[.box 10 (.d t.toD),.arr 1 ((([]:List (List UInt8))).map .str)]) (fun _=>True) trivial ?_ ?_
 ·refine(qcw 5 1 rfl).trans ?_
  refine qaa [] [0,1] rfl (by simp) ?_ rfl
  simp only[zU,seval]
  try rfl
 intro k _ hk
 have:k=0:=by omega
 subst this
 simp only[zU,seval,qm6]
 refine qan 0 (fun k=>[(1,.d (.str qat)),(2,.ptr 0 0),(5,.osl 1 0 (([]:List (List UInt8))).length),(7,.d (.int .i64 k))]) (fun k=>[.box 10 (.d t.toD),.arr 1 ((([]:List (List UInt8))).map .str)]) (fun _=>True) trivial ?_ ?_
 ·refine qaa [] [0,1] rfl (by simp) ?_ ?_
  ·simp only[zU,seval]
   try rfl
  ·rfl
 intro k _ hk
 have:k=0:=by omega
 subst this
 simp only[zU,seval,qn6]
 refine qan 0 (fun k=>[(1,.d (.str qat)),(2,.ptr 0 0),(5,.osl 1 0 (([]:List (List UInt8))).length),(8,.d (.int .i64 k))]) (fun k=>[.box 10 (.d t.toD),.arr 1 ((([]:List (List UInt8))).map .str)]) (fun _=>True) trivial ?_ ?_
 ·refine qaa [] [0,1] rfl (by simp) ?_ ?_
  ·simp only[zU,seval]
   try rfl
  ·rfl
 intro k _ hk
 have:k=0:=by omega
 subst this
 simp only[zU,seval,qhf]
 refine qan 0 (fun k=>[(1,.d (.str qat)),(2,.ptr 0 0),(5,.osl 1 0 (([]:List (List UInt8))).length),(9,.d (.int .i64 k))]) (fun k=>[.box 10 (.d t.toD),.arr 1 ((([]:List (List UInt8))).map .str)]) (fun _=>True) trivial ?_ ?_
 ·refine qaa [] [0,1] rfl (by simp) ?_ ?_
  ·simp only[zU,seval]
   try rfl
  ·rfl
 intro k _ hk
 have:k=0:=by omega
 subst this
 simp only[zU,seval,qhf]
 refine qan t.steps.length (fun k=>[(1,.d (.str qat)),(2,.ptr 0 0),(5,.osl 1 0 ((t.steps.take k).map (·.name)).length),(10,.d (.int .i64 k))]) (fun k=>[.box 10 (.d t.toD),.arr 1 (((t.steps.take k).map (·.name)).map .str)]) (fun _=>True) trivial ?_ ?_
 ·refine qaa [] [0,1] rfl (by simp) ?_ ?_
  ·simp only[zU,seval]
   try rfl
  ·rfl
 intro k _ hk
 by_cases h:k<t.steps.length
 ·obtain⟨x,hx⟩:∃x,x=t.steps.getD k default:=⟨_,rfl⟩
  have eg:(t.steps.map qa2.toD).getD k default=x.toD:=by rw[qah _ _ _ h,←hx]
  have htk:t.steps.take (k+1)=t.steps.take k++[x]:=by rw[qa0 _ k h,←hx]
  simp only[zU,seval,(show(k:Int)<t.steps.length by omega),h,eg,qli]
  repeat((with_reducible apply aI);exact sdp)
  rw[htk]
  refine qaa [] [0,3] rfl (by simp) ?_ ?_
  ·simp only[zU,seval,@qaf ((k:Int)+1) (by omega)]
   try rfl
  ·have e1:List.take (List.take k t.steps).length (List.map D.str (List.map (fun x:qa2=>x.name) (List.take k t.steps)))=List.map D.str (List.map (fun x:qa2=>x.name) (List.take k t.steps)):=List.take_of_length_le (by simp)
   rw[e1,List.map_append,List.map_append];rfl
 have:k=t.steps.length:=by omega
 subst this
 simp only[zU,seval,(show ¬(t.steps.length:Int)<t.steps.length by omega),List.take_length]
 refine⟨_,_,qc7 rfl ?_,rfl,rfl⟩
 show D.sl ((((t.steps.map (·.name)).map D.str).drop 0).take t.steps.length)=_
 rw[List.drop_zero,List.take_of_length_le (by simp)]
theorem Qp9 (t:qaw) (ht:t.lim) (hs:t.limS):qba prog Gl 48 [.d t.toD,.d (.str qa7)] (.d (.sl ((frN t).map .str))):=by
 refine qba.of2 ?_
 obtain⟨h1,h2,h3,h4,h5,h6,h7,h8⟩:=id ht
 refine qac func48 rfl rfl (by simp[ntmps48]) (qab rfl _ _ _ _ ?_)
 simp only[ntmps48,results48,qak,List.length_nil]
 simp only[zU,seval]
 refine qan 0 (fun k=>[(1,.d (.str qa7)),(2,.ptr 0 0),(5,.osl 1 0 (([]:List (List UInt8))).length),(6,.d (.int .i64 k))]) (fun k=>[.box 10 (.d t.toD),.arr 1 ((([]:List (List UInt8))).map .str)]) (fun _=>True) trivial ?_ ?_
 ·refine(qcw 5 1 rfl).trans ?_
  refine qaa [] [0,1] rfl (by simp) ?_ rfl
  simp only[zU,seval]
  try rfl
 intro k _ hk
 have:k=0:=by omega
 subst this
 simp only[zU,seval,qqx]
 refine qan 0 (fun k=>[(1,.d (.str qa7)),(2,.ptr 0 0),(5,.osl 1 0 (([]:List (List UInt8))).length),(7,.d (.int .i64 k))]) (fun k=>[.box 10 (.d t.toD),.arr 1 ((([]:List (List UInt8))).map .str)]) (fun _=>True) trivial ?_ ?_
 ·refine qaa [] [0,1] rfl (by simp) ?_ ?_
  ·simp only[zU,seval]
   try rfl
  ·rfl
 intro k _ hk
 have:k=0:=by omega
 subst this
 simp only[zU,seval,qt7]
 refine qan t.samples.length (fun k=>[(1,.d (.str qa7)),(2,.ptr 0 0),(5,.osl 1 0 (((t.samples.take k).map (·.stack)).flatten).length),(8,.d (.int .i64 k))]) (fun k=>[.box 10 (.d t.toD),.arr 1 ((((t.samples.take k).map (·.stack)).flatten).map .str)]) (fun _=>True) trivial ?_ ?_
 ·refine qaa [] [0,1] rfl (by simp) ?_ ?_
  ·simp only[zU,seval]
   try rfl
  ·rfl
 intro k _ hk
 by_cases h:k<t.samples.length
 ·obtain⟨x,hx⟩:∃x,x=t.samples.getD k default:=⟨_,rfl⟩
  have eg:(t.samples.map qam.toD).getD k default=x.toD:=by rw[qah _ _ _ h,←hx]
  have htk:t.samples.take (k+1)=t.samples.take k++[x]:=by rw[qa0 _ k h,←hx]
  have hxs:=hs.1 x (by rw[hx];exact qcd h)
  have hle:=Qm9 (l:=t.samples.take k) fun y hy=>hs.1 y (List.mem_of_mem_take hy)
  rw[List.length_take] at hle
  have es:((t.samples.take (k+1)).map (·.stack)).flatten=((t.samples.take k).map (·.stack)).flatten++x.stack:=by rw[htk,List.map_append,List.flatten_append,Qjk]
  rw[es]
  obtain⟨ys,hys⟩:∃ys,ys=((t.samples.take k).map (·.stack)).flatten:=⟨_,rfl⟩
  rw[←hys]
  rw[←hys] at hle
  simp only[zU,seval,(show(k:Int)<t.samples.length by omega),h,eg,qji]
  repeat((with_reducible apply aI);exact sdp)
  refine qaa [] [0,2] rfl (by simp) ?_ ?_
  ·simp only[zU,seval,@qaf ((k:Int)+1) (by omega)]
   try rfl
  ·have e1:List.take ys.length (ys.map D.str)=ys.map D.str:=List.take_of_length_le (by simp)
   rw[e1,List.map_append];rfl
 have:k=t.samples.length:=by omega
 subst this
 simp only[zU,seval,(show ¬(t.samples.length:Int)<t.samples.length by omega),List.take_length]
 refine qan t.blocks.length (fun k=>[(1,.d (.str qa7)),(2,.ptr 0 0),(5,.osl 1 0 (frK t k).length),(9,.d (.int .i64 k))]) (fun k=>[.box 10 (.d t.toD),.arr 1 ((frK t k).map .str)]) (fun _=>True) trivial ?_ ?_
 ·refine qaa [] [0,1] rfl (by simp) ?_ ?_
  ·simp only[zU,seval,qkc]
   try rfl
  ·rw[qkc];rfl
 intro k _ hk
 by_cases h:k<t.blocks.length
 ·obtain⟨x,hx⟩:∃x,x=t.blocks.getD k default:=⟨_,rfl⟩
  have eg:(t.blocks.map qar.toD).getD k default=x.toD:=by rw[qah _ _ _ h,←hx]
  have htk:t.blocks.take (k+1)=t.blocks.take k++[x]:=by rw[qa0 _ k h,←hx]
  have hxs:=hs.2 x (by rw[hx];exact qcd h)
  have hle:=Qjj hs k
  have es:frK t (k+1)=frK t k++x.stack:=by rw[q11 htk]
  rw[es]
  obtain⟨ys,hys⟩:∃ys,ys=frK t k:=⟨_,rfl⟩
  rw[←hys]
  rw[←hys] at hle
  simp only[zU,seval,(show(k:Int)<t.blocks.length by omega),h,eg,qji]
  repeat((with_reducible apply aI);exact sdp)
  refine qaa [] [0,2] rfl (by simp) ?_ ?_
  ·simp only[zU,seval,@qaf ((k:Int)+1) (by omega)]
   try rfl
  ·have e1:List.take ys.length (ys.map D.str)=ys.map D.str:=List.take_of_length_le (by simp)
   rw[e1,List.map_append];rfl
 have:k=t.blocks.length:=by omega
 subst this
 simp only[zU,seval,(show ¬(t.blocks.length:Int)<t.blocks.length by omega),q8g]
 refine qan 0 (fun k=>[(1,.d (.str qa7)),(2,.ptr 0 0),(5,.osl 1 0 (frN t).length),(10,.d (.int .i64 k))]) (fun k=>[.box 10 (.d t.toD),.arr 1 ((frN t).map .str)]) (fun _=>True) trivial ?_ ?_
 ·refine qaa [] [0,1] rfl (by simp) ?_ ?_
  ·simp only[zU,seval]
   try rfl
  ·rfl
 intro k _ hk
 have:k=0:=by omega
 subst this
 simp only[zU,seval,qn5]
 refine⟨_,_,qc7 rfl ?_,rfl,rfl⟩
 show D.sl ((((frN t).map D.str).drop 0).take (frN t).length)=_
 rw[List.drop_zero,List.take_of_length_le (by simp)]
theorem Qrw:qba prog Gl 47 [] (.d (.sl ([qau,qa6,qa7,qat].map .str))):=by
 refine qba.of (args:=[]) ?_
 refine qac func47 rfl rfl (by simp[ntmps47]) (qab rfl _ _ _ _ ?_)
 simp only[ntmps47,results47,qak,List.length_nil]
 simp only[zU,seval]
 refine⟨_,_,qc7 rfl rfl,rfl,rfl⟩

def q99 (t:qaw):Nat:=t.slices.length+t.states.length+t.flows.length+t.samples.length+t.steps.length+t.blocks.length+t.lost.length
theorem Qmu (t:qaw) (ht:t.lim):qba prog Gl 27 [.d t.toD] (.d (.int .i64 (q99 t))):=by
 refine qba.of1 ?_
 obtain⟨h1,h2,h3,h4,h5,h6,h7,h8⟩:=id ht
 obtain⟨n,hn⟩:∃n,n=q99 t:=⟨_,rfl⟩
 have hn':=hn
 unfold q99 at hn'
 rw[←hn]
 refine qac func27 rfl rfl (by simp[ntmps27]) (qab rfl _ _ _ _ ?_)
 simp only[ntmps27,results27,qak,List.length_nil]
 simp only[zU,seval]
 simp only[zU,seval,@qaf ((t.slices.length:Int)+t.states.length) (by omega),@qaf ((t.slices.length:Int)+t.states.length+t.flows.length) (by omega),@qaf ((t.slices.length:Int)+t.states.length+t.flows.length+t.samples.length) (by omega),@qaf ((t.slices.length:Int)+t.states.length+t.flows.length+t.samples.length+t.steps.length) (by omega),@qaf ((t.slices.length:Int)+t.states.length+t.flows.length+t.samples.length+t.steps.length+t.blocks.length) (by omega),@qaf ((t.slices.length:Int)+t.states.length+t.flows.length+t.samples.length+t.steps.length+t.blocks.length+t.lost.length) (by omega)]
 refine⟨_,_,qc7 rfl ?_,rfl,rfl⟩
 show D.int .i64 _=D.int .i64 _
 congr 1
 omega

theorem quu (a b:List (List UInt8)) (ha:a.length<1000000) (hb:b.length<1000000):qba prog Gl 51 [.d (.sl (a.map .str)),.d (.sl (b.map .str))] (.d (.bool (a==b))):=by
 refine qba.of2 ?_
 refine qac func51 rfl rfl (by simp[ntmps51]) (qab rfl _ _ _ _ ?_)
 simp only[ntmps51,results51,qak,List.length_nil]
 simp only[zU,seval]
 repeat((with_reducible apply aI);exact sdp)
 refine ifC.mk (fun h0=>?_) (fun h0=>?_)
 ·have h0:¬a.length=b.length:=by simp at h0;omega
  refine⟨_,_,qap,?_,rfl⟩
  have:(a==b)=false:=by
   rw[Bool.eq_false_iff];intro h;exact h0 (congrArg List.length (by simpa using h))
  rw[this]
 ·have h0:a.length=b.length:=by simp at h0;omega
  refine qan a.length (fun k=>[(0,.d (.sl (a.map .str))),(1,.d (.sl (b.map .str))),(5,.d (.int .i64 k))]) (fun _=>[]) (fun k=>a.take k=b.take k) rfl ?_ ?_
  ·refine qaa [] [] rfl List.nodup_nil ?_ rfl
   simp only[zU,seval]
   all_goals rfl
  ·intro k hi hk
   by_cases h:k<a.length
   ·have hb2:k<b.length:=by omega
    simp only[zU,seval,(show(k:Int)<a.length by omega),(show(k:Int)<b.length by omega),h,hb2,qah _ _ _ (show k<a.length by omega),qah _ _ _ (show k<b.length by omega)]
    repeat((with_reducible apply aI);exact sdp)
    refine ifC.mk (fun hc=>?_) (fun hc=>?_)
    ·have hc:¬a.getD k default=b.getD k default:=by simpa using hc
     refine⟨_,_,qap,?_,rfl⟩
     have:(a==b)=false:=by
      rw[Bool.eq_false_iff];intro h;exact hc (by rw[show a=b by simpa using h])
     rw[this]
    ·have hc:a.getD k default=b.getD k default:=by simpa using hc
     refine⟨by rw[qa0 a k h,qa0 b k hb2,hi,hc],?_⟩
     refine qaa [] [] rfl List.nodup_nil ?_ rfl
     simp only[zU,seval,@qaf ((k:Int)+1) (by omega)]
     all_goals rfl
   ·simp only[zU,seval,(show ¬(k:Int)<a.length by omega)]
    have:k=a.length:=by omega
    subst this
    refine⟨_,_,qap,?_,rfl⟩
    rw[List.take_length,h0,List.take_length] at hi
    rw[hi];simp

theorem Quw (a b:qax):qf4 prog 59 .neq (.d a.toD) (.d b.toD)=True:=eq_true (by
 refine(show True∧(match qlx prog 59 with|some l=>qke l _ _=true|none=>False) from⟨trivial,?_⟩)
 rw[Qtf];rfl)
theorem Qwo (a b:qax):qhs [.int .i64 a.thread,.int .i64 a.state,.int .i64 a.lo,.int .i64 a.hi,.int .i64 a.cpu,.int .i64 a.on_,.int .i64 a.by_] [.int .i64 b.thread,.int .i64 b.state,.int .i64 b.lo,.int .i64 b.hi,.int .i64 b.cpu,.int .i64 b.on_,.int .i64 b.by_]=decide (a=b):=by
 rw[Bool.eq_iff_iff]
 simp only[qhs,D.beq1,Bool.and_eq_true,beq_iff_eq,decide_eq_true_eq,Bool.and_true]
 cases a;cases b;simp
theorem Qv9 (a b:qax):q60 .neq (.d a.toD) (.d b.toD)=.d (.bool (!(decide (a=b)))):=by
 rw[←Qwo];rfl
theorem Qiw (a b:List qax) (ha:a.length<1000000) (hb:b.length<1000000):qba prog Gl 50 [.d (.sl (a.map qax.toD)),.d (.sl (b.map qax.toD))] (.d (.bool (a==b))):=by
 refine qba.of2 ?_
 refine qac func50 rfl rfl (by simp[ntmps50]) (qab rfl _ _ _ _ ?_)
 simp only[ntmps50,results50,qak,List.length_nil]
 simp only[zU,seval]
 repeat((with_reducible apply aI);exact sdp)
 refine ifC.mk (fun h0=>?_) (fun h0=>?_)
 ·have h0:¬a.length=b.length:=by simp at h0;omega
  refine⟨_,_,qap,?_,rfl⟩
  have:(a==b)=false:=by
   rw[Bool.eq_false_iff];intro h;exact h0 (congrArg List.length (by simpa using h))
  rw[this]
 ·have h0:a.length=b.length:=by simp at h0;omega
  refine qan a.length (fun k=>[(0,.d (.sl (a.map qax.toD))),(1,.d (.sl (b.map qax.toD))),(5,.d (.int .i64 k))]) (fun _=>[]) (fun k=>a.take k=b.take k) rfl ?_ ?_
  ·refine qaa [] [] rfl List.nodup_nil ?_ rfl
   simp only[zU,seval]
   all_goals rfl
  ·intro k hi hk
   by_cases h:k<a.length
   ·have hb2:k<b.length:=by omega
    obtain⟨x,hx⟩:∃x,x=a.getD k default:=⟨_,rfl⟩
    obtain⟨y,hy⟩:∃y,y=b.getD k default:=⟨_,rfl⟩
    have ex:(a.map qax.toD).getD k default=x.toD:=by rw[qah _ _ _ h,←hx]
    have ey:(b.map qax.toD).getD k default=y.toD:=by rw[qah _ _ _ hb2,←hy]
    simp only[zU,seval,(show(k:Int)<a.length by omega),(show(k:Int)<b.length by omega),h,hb2,ex,ey]
    repeat((with_reducible apply aI);exact sdp)
    refine⟨(Quw x y).mpr trivial,?_⟩
    rw[Qv9]
    simp only[zU,seval]
    refine ifC.mk (fun hc=>?_) (fun hc=>?_)
    ·have hc:¬a.getD k default=b.getD k default:=by rw[←hx,←hy];simpa using hc
     refine⟨_,_,qap,?_,rfl⟩
     have:(a==b)=false:=by
      rw[Bool.eq_false_iff];intro h;exact hc (by rw[show a=b by simpa using h])
     rw[this]
    ·have hc:a.getD k default=b.getD k default:=by rw[←hx,←hy];simpa using hc
     refine⟨by rw[qa0 a k h,qa0 b k hb2,hi,hc],?_⟩
     refine qaa [] [] rfl List.nodup_nil ?_ rfl
     simp only[zU,seval,@qaf ((k:Int)+1) (by omega)]
     all_goals rfl
   ·simp only[zU,seval,(show ¬(k:Int)<a.length by omega)]
    have:k=a.length:=by omega
    subst this
    refine⟨_,_,qap,?_,rfl⟩
    rw[List.take_length,h0,List.take_length] at hi
    rw[hi];simp

theorem Qp4 (x y:qa2):ltT x y=(ltS x.name y.name||((x.name==y.name)&&decide (x.at_<y.at_))):=by
 rw[Bool.eq_iff_iff,ltT,decide_eq_true_eq,q44]
 simp[ltN]
theorem Qdd (ys:List qa2) (x:qa2) (n:Nat) (hn:n≤ys.length):(q2j ltT ys x).map qa2.toD=(ys.map qa2.toD).take (putAt ltT ys x ys.length)++x.toD::(ys.map qa2.toD).drop (putAt ltT ys x ys.length):=by
 rw[q2j,List.map_append,List.map_take,List.map_cons,List.map_drop]
theorem Qvd {L:List D} {x:D} {m N:Nat} (h:m≤L.length) (hN:N=L.length):(L.take m++[x]).take ((L.take m).length+1)++(L.drop m).take (N-m)=L.take m++x::L.drop m:=by
 subst hN
 have e1:(L.take m++[x]).take ((L.take m).length+1)=L.take m++[x]:=List.take_of_length_le (by simp)
 have e2:(L.drop m).take (L.length-m)=L.drop m:=List.take_of_length_le (by simp)
 rw[e1,e2,List.append_assoc];rfl
theorem Qme (l:List qa2) (hl:l.length<1000000):qba prog Gl 95 [.d (.sl (l.map qa2.toD))] (.d (.sl ((qfv ltT l).map qa2.toD))):=by
 refine qba.of1 ?_
 refine qac func95 rfl rfl (by simp[ntmps95]) (qab rfl _ _ _ _ ?_)
 simp only[ntmps95,results95,qak,List.length_nil]
 simp only[zU,seval]
 refine qan l.length (fun k=>[(0,.d (.sl (l.map qa2.toD))),(3,.osl 0 0 (qfv ltT (l.take k)).length),(4,.d (.int .i64 k))]) (fun k=>[.arr 3 ((qfv ltT (l.take k)).map qa2.toD)]) (fun _=>True) trivial ?_ ?_
 ·refine(qcw 3 3 rfl).trans ?_
  refine qaa [] [0] rfl (by simp) ?_ rfl
  simp only[zU,seval]
  all_goals rfl
 intro k _ hk
 have hyl:(qfv ltT (l.take k)).length=(l.take k).length:=qfo _ _
 rw[List.length_take] at hyl
 by_cases h:k<l.length
 ·obtain⟨x,hx⟩:∃x,x=l.getD k default:=⟨_,rfl⟩
  have eg:(l.map qa2.toD).getD k default=x.toD:=by rw[qah _ _ _ h,←hx]
  obtain⟨ys,hys⟩:∃ys,ys=qfv ltT (l.take k):=⟨_,rfl⟩
  have hst:qfv ltT (l.take (k+1))=q2j ltT ys x:=by rw[qa0 _ k h,qw5,←hys,←hx]
  rw[←hys] at hyl ⊢
  rw[hst,qt8]
  simp only[zU,seval,(show(k:Int)<l.length by omega),h,eg]
  repeat((with_reducible apply aI);exact sdp)
  refine qcr (τ:=Nat) (fun n=>[(0,.d (.sl (l.map qa2.toD))),(3,.osl 0 0 ys.length),(4,.d (.int .i64 k)),(5,.d (.int .i64 n))]) (fun n=>[.arr 3 (ys.map qa2.toD)]) (fun n=>n≤ys.length∧putAt ltT ys x ys.length=putAt ltT ys x n) (fun n=>n) ys.length ⟨Nat.le_refl _,rfl⟩ ?_ ?_
  ·refine qaa [] [0] rfl (by simp) ?_ rfl
   simp only[zU,seval]
   all_goals rfl
  intro n ⟨hn,hp⟩
  have fin:∀n,n≤ys.length→putAt ltT ys x ys.length=n→(q2j ltT ys x).map qa2.toD=(ys.map qa2.toD).take n++x.toD::(ys.map qa2.toD).drop n:=fun n hn hp=>by rw[Qdd _ _ n hn,hp]
  cases n with
  | zero=>
   have hf:=fin 0 (Nat.zero_le _) hp
   rw[hf]
   have e9:(ys.map qa2.toD).getD 0 default=.bool false∨∃y0:qa2,(ys.map qa2.toD).getD 0 default=y0.toD:=by
    cases ys with
    | nil=>exact .inl rfl
    | cons y0 r=>exact .inr ⟨y0,rfl⟩
   have em:(-1:Int).toNat=0:=rfl
   have z1:∀(s:List UInt8) (b:Bool),qlc .lss (.str s) (.bool b)=.bool false:=fun _ _=>rfl
   have z2:∀(s:List UInt8) (b:Bool),qlc .eql (.str s) (.bool b)=.bool false:=fun _ _=>rfl
   have z3:∀(k:IntKind) (s:Int) (b:Bool),qlc .lss (.int k s) (.bool b)=.bool false:=fun _ _ _=>rfl
   have z4:∀(k:IntKind) (s:Int),qlc .lss (.int k s) default=.bool false:=fun _ _=>rfl
   obtain e9|⟨y0,e9⟩:=e9
   all_goals simp only[zU,seval,@qaf ((-1:Int)) (by omega),em,e9,z1,z2,z3,z4,(show(k:Int)<l.length by omega),h,eg]
   all_goals refine⟨.inl (by kernel_rfl),?_⟩
   all_goals (try simp only[zU,seval,@qaf ((-1:Int)) (by omega),em,e9,z1,z2,z3,z4,(show(k:Int)<l.length by omega),h,eg])
   all_goals repeat((with_reducible apply aI);exact sdp)
   all_goals (try simp only[zU,seval,(show(k:Int)<l.length by omega),h,eg])
   all_goals repeat((with_reducible apply aI);exact sdp)
   all_goals (try simp only[zU,seval,(show(k:Int)<l.length by omega),h,eg])
   all_goals repeat((with_reducible apply aI);exact sdp)
   all_goals refine qaa [] [5] rfl (by simp) ?_ ?_
   ·simp only[zU,seval,@qaf ((k:Int)+1) (by omega),Nat.sub_zero,qaz,List.length_map,Nat.add_comm]
    try rfl
   ·simp only[zU,seval,Nat.sub_zero,qaz]
    try rfl
   ·simp only[zU,seval,@qaf ((k:Int)+1) (by omega),Nat.sub_zero,qaz,List.length_map,Nat.add_comm]
    try rfl
   ·simp only[zU,seval,Nat.sub_zero,qaz]
    try rfl
  | succ n=>
   obtain⟨y,hy⟩:∃y,y=ys.getD n default:=⟨_,rfl⟩
   have ey:(ys.map qa2.toD).getD n default=y.toD:=by rw[qah _ _ _ (by omega),←hy]
   have hpu:putAt ltT ys x (n+1)=if ltT x y=true then putAt ltT ys x n else n+1:=by rw[hy];rfl
   have e0:((n:Int)+1-1)=n:=by omega
   simp only[zU,seval,(show(0:Int)<(n:Int)+1 by omega),e0,@qaf ((n:Int)) (by omega),(show(n:Int)<ys.length by omega),(show n<ys.length by omega),ey,eg,h,(show(k:Int)<l.length by omega),Int.toNat_natCast]
   repeat((with_reducible apply aI);exact sdp)
   (try simp only[zU,seval,e0,@qaf ((n:Int)) (by omega),(show(n:Int)<ys.length by omega),(show n<ys.length by omega),ey,eg,h,(show(k:Int)<l.length by omega),Int.toNat_natCast])
   refine ifC.mk (fun hc=>?_) (fun hc=>?_)
   ·have hc:ltT x y=true:=by rw[Qp4];exact hc
    rw[if_pos hc] at hpu
    refine⟨n,⟨by omega,by rw[hp,hpu]⟩,by omega,?_⟩
    refine qaa [] [0] rfl (by simp) ?_ rfl
    simp only[zU,seval,e0,@qaf ((n:Int)) (by omega)]
    try rfl
   ·have hc:ltT x y=false:=by rw[Qp4];exact hc
    rw[if_neg (by rw[hc];simp)] at hpu
    have hf:=fin (n+1) hn (by rw[hp,hpu])
    rw[hf]
    (try simp only[zU,seval,(show(k:Int)<l.length by omega),h,eg])
    repeat((with_reducible apply aI);exact sdp)
    (try simp only[zU,seval,(show(k:Int)<l.length by omega),h,eg])
    repeat((with_reducible apply aI);exact sdp)
    have e1:((n:Int)+1).toNat=n+1:=by omega
    refine qaa [] [5] rfl (by simp) ?_ ?_
    ·simp only[zU,seval,@qaf ((k:Int)+1) (by omega),e1,Nat.sub_zero]
     have e2:((ys.map qa2.toD).take (n+1)).length+1+(((ys.map qa2.toD).drop (n+1)).take (ys.length-(n+1))).length=ys.length+1:=by
      rw[List.length_take,List.length_take,List.length_drop,List.length_map];omega
     rw[e2]
    ·have e3:((ys.map qa2.toD).take (n+1)).take ((ys.map qa2.toD).take (n+1)).length=(ys.map qa2.toD).take (n+1):=List.take_length
     simp only[zU,seval,e1,Nat.sub_zero,e3]
     rw[Qvd (by rw[List.length_map];omega) (by rw[List.length_map])]
 ·have:k=l.length:=by omega
  subst this
  simp only[zU,seval,(show ¬(l.length:Int)<l.length by omega),List.take_length]
  refine⟨_,_,qc7 rfl ?_,rfl,rfl⟩
  simp only[zU,seval,qaz]
end YtljpopkonkanlaaGreatDoor
end Go.Proofs

set_option maxRecDepth 100000
namespace Go.Proofs
open Go.AM Tryz
namespace YtljpopkonkanlaaGreatDoor
def Qe7 (s:qag):qag:={s with depth:=0,self:=0}
theorem q6i (L:List qag):qds (L.map Qe7)=qds L:=by
 rw[qds,List.foldl_map];rfl
theorem Qnk (o:List qag):(qds o).map Qe7=o.map Qe7:=by
 apply List.ext_getElem
 ·simp[qdi]
 ·intro j h1 h2
  rw[List.length_map,qdi] at h1
  obtain⟨e1,e2,e3,e4,e5,e6⟩:=qve (o:=o) j h1
  have h3:j<(qds o).length:=by rw[qdi];exact h1
  have g1:(qds o).getD j default=(qds o)[j]:=by simp[h3]
  have g2:o.getD j default=o[j]:=by simp[h1]
  rw[g1,g2] at e1 e2 e3 e4 e5 e6
  simp only[List.getElem_map,Qe7]
  rw[e1,e2,e3,e4,e5,e6]
theorem qvn (p:qag→Bool) (hp:∀s,p (Qe7 s)=p s):∀(L:List qag) (u v:List qag×List Int),v.1=u.1.map Qe7→v.2=u.2→(L.map Qe7).foldl (qb9 p) v=(((L.foldl (qb9 p) u).1.map Qe7),(L.foldl (qb9 p) u).2)
 | [],u,v,h1,h2=>by
  obtain⟨a,b⟩:=v
  subst h1 h2;rfl
 | s::L,u,v,h1,h2=>by
  rw[List.map_cons,List.foldl_cons,List.foldl_cons]
  refine qvn p hp L _ _ ?_ ?_
  ·unfold qb9
   rw[hp,h1,h2]
   split
   ·rw[List.map_append];rfl
   ·rfl
  ·unfold qb9
   rw[hp,h1,h2]
   split
   ·rw[List.length_map]
   ·rfl
theorem Qj8 (p:qag→Bool) (hp:∀s,p (Qe7 s)=p s) (L:List qag):(chF p (L.map Qe7)).1=(chF p L).1.map Qe7:=by
 rw[chF,qvn p hp L ([],[]) ([],[]) rfl rfl];rfl
theorem Qvq (p:qag→Bool) (hp:∀s,p (Qe7 s)=p s) (X:List qag):qds (chF p (qds X)).1=qds (chF p X).1:=by
 rw[←q6i,←Qj8 p hp,Qnk,Qj8 p hp,q6i]
theorem qvo (p:qag→Bool) (l:List qag) (s:qag):chF p (l++[s])=qb9 p (chF p l) s:=by
 rw[chF,List.foldl_append];rfl
def qv4 (pl:List Int) (i:Int):Int:=if 0≤i then pl.getD i.toNat 0 else -1
theorem Qwm (p q:qag→Bool) (hq:∀s x,q {s with parent:=x}=q s) {l:List qag} (hg:qe8 l) :
  (chF q (chF p l).1).1=(chF (fun s=>p s&&q s) l).1∧(chF (fun s=>p s&&q s) l).2=(chF p l).2.map (qv4 (chF q (chF p l).1).2):=by
 obtain⟨n,hn⟩:∃n,n=l.length:=⟨_,rfl⟩
 induction n generalizing l with
 | zero=>
  have:l=[]:=List.eq_nil_of_length_eq_zero hn.symm
  subst this;exact⟨rfl,rfl⟩
 | succ n ih=>
  rcases List.eq_nil_or_concat l with rfl|⟨v,s,rfl⟩
  ·simp at hn
  rw[List.concat_eq_append] at hn hg ⊢
  have hv:n=v.length:=by rw[List.length_append] at hn;simp at hn;exact hn
  have hgv:qe8 v:=by
   have:=qhk hg v.length
   rwa [List.take_left' rfl] at this
  obtain⟨i1,i2⟩:=ih hgv hv
  obtain⟨f1,f2,f3,f4⟩:=qhp p hgv
  obtain⟨g1,g2,g3,g4⟩:=qhp q f4
  have hs:=hg v.length (by simp)
  rw[qff _ _ _ (by omega),if_neg (by omega)] at hs
  obtain⟨O1,hO1⟩:∃O,O=(chF p v).1:=⟨_,rfl⟩
  obtain⟨P1,hP1⟩:∃O,O=(chF p v).2:=⟨_,rfl⟩
  rw[←hO1,←hP1] at f3
  rw[←hO1] at g1 g2 g3 g4 i1 i2 f2 f4
  rw[←hP1] at f1 i2
  obtain⟨O2,hO2⟩:∃O,O=(chF q O1).1:=⟨_,rfl⟩
  obtain⟨P2,hP2⟩:∃O,O=(chF q O1).2:=⟨_,rfl⟩
  rw[←hO2,←hP2] at g3
  rw[←hO2] at g2 i1
  rw[←hP2] at g1 i2
  have ep:chF p v=(O1,P1):=by rw[hO1,hP1]
  have eq:chF q O1=(O2,P2):=by rw[hO2,hP2]
  have epq:chF (fun s=>p s&&q s) v=(O2,P1.map (qv4 P2)):=by rw[←i2,i1]
  have key:qj4 (P1.map (qv4 P2)) s=qv4 P2 (qj4 P1 s):=by
   unfold qj4
   by_cases h0:0≤s.parent
   ·have hlt:s.parent.toNat<P1.length:=by rw[f1];omega
    rw[if_pos h0,if_pos h0]
    simp[hlt]
   ·rw[if_neg h0,if_neg h0];rfl
  have ext1:∀x,P1.map (qv4 (P2++[x]))=P1.map (qv4 P2):=fun x=>by
   apply List.map_congr_left
   intro i hi
   obtain⟨j,hj,rfl⟩:=List.getElem_of_mem hi
   have:=f3 j (by omega)
   have e:P1.getD j 0=P1[j]:=by simp[hj]
   rw[e] at this
   unfold qv4
   by_cases h0:0≤P1[j]
   ·rw[if_pos h0,if_pos h0]
    have hlt:P1[j].toNat<P2.length:=by omega
    rw[List.getD_eq_getElem?_getD,List.getElem?_append_left hlt,List.getD_eq_getElem?_getD]
   ·rw[if_neg h0,if_neg h0]
  have last:∀x,qv4 (P2++[x]) (O1.length:Int)=x:=fun x=>by
   unfold qv4
   rw[if_pos (by omega),Int.toNat_natCast,←g1]
   simp
  rw[qvo,qvo,ep,epq]
  by_cases h1:p s=true
  ·have e1:qb9 p (O1,P1) s=(O1++[{s with parent:=qj4 P1 s}],P1++[(O1.length:Int)]):=by unfold qb9;rw[if_pos h1]
   rw[e1]
   show(chF q (O1++[{s with parent:=qj4 P1 s}])).1=_∧_
   rw[qvo,eq]
   have hqs:q {s with parent:=qj4 P1 s}=q s:=hq s _
   have eup:qj4 P2 {s with parent:=qj4 P1 s}=qj4 (P1.map (qv4 P2)) s:=by rw[key];rfl
   by_cases h2:q s=true
   ·have e2:qb9 q (O2,P2) {s with parent:=qj4 P1 s}=(O2++[{s with parent:=qj4 (P1.map (qv4 P2)) s}],P2++[(O2.length:Int)]):=by unfold qb9;rw[if_pos (by rw[hqs];exact h2),eup]
    have e3:qb9 (fun s=>p s&&q s) (O2,P1.map (qv4 P2)) s=(O2++[{s with parent:=qj4 (P1.map (qv4 P2)) s}],P1.map (qv4 P2)++[(O2.length:Int)]):=by unfold qb9;rw[if_pos (by simp[h1,h2])]
    rw[e2,e3]
    refine⟨rfl,?_⟩
    show _=(P1++[(O1.length:Int)]).map _
    rw[List.map_append,ext1,List.map_cons,last];rfl
   ·have h2:q s=false:=by simpa using h2
    have e2:qb9 q (O2,P2) {s with parent:=qj4 P1 s}=(O2,P2++[qj4 (P1.map (qv4 P2)) s]):=by unfold qb9;rw[if_neg (by rw[hqs,h2];simp),eup]
    have e3:qb9 (fun s=>p s&&q s) (O2,P1.map (qv4 P2)) s=(O2,P1.map (qv4 P2)++[qj4 (P1.map (qv4 P2)) s]):=by unfold qb9;rw[if_neg (by simp[h2])]
    rw[e2,e3]
    refine⟨rfl,?_⟩
    show _=(P1++[(O1.length:Int)]).map _
    rw[List.map_append,ext1,List.map_cons,last];rfl
  ·have h1:p s=false:=by simpa using h1
   have e1:qb9 p (O1,P1) s=(O1,P1++[qj4 P1 s]):=by unfold qb9;rw[if_neg (by rw[h1];simp)]
   have e3:qb9 (fun s=>p s&&q s) (O2,P1.map (qv4 P2)) s=(O2,P1.map (qv4 P2)++[qj4 (P1.map (qv4 P2)) s]):=by unfold qb9;rw[if_neg (by simp[h1])]
   rw[e1,e3]
   show(chF q O1).1=_∧_=(P1++[qj4 P1 s]).map (qv4 (chF q O1).2)
   rw[eq,List.map_append,List.map_cons,←key]
   exact⟨rfl,rfl⟩
theorem qrz (l:List qao) (t:qaw) (hg:qe8 t.slices):(qit l (qfg l t)).slices=qds (chF (q19 l t) t.slices).1:=by
 show qds (chF (fun x=>!qbe l qa6 x.name) (qds (chF (fun x=>!qco l t.threads x.thread) t.slices).1)).1=_
 rw[Qvq _ (fun s=>rfl),(Qwm _ _ (fun s x=>rfl) hg).1]
 rfl
theorem qu6 {l:List qao} {ths:List qaj} (hd:∀x∈ths,∀y∈ths,x.id=y.id→x=y) {x:qaj} (hx:x∈ths):qco l ths x.id=qbe l qau x.name:=by
 rw[Bool.eq_iff_iff]
 unfold qco
 rw[List.any_eq_true]
 constructor
 ·rintro⟨y,hy,h⟩
  simp only[Bool.and_eq_true,beq_iff_eq] at h
  rw[←hd y hy x hx h.1];exact h.2
 ·intro h
  exact⟨x,hx,by simp[h]⟩
theorem Qfv {ths:List qaj} (h:qcj ths=0):∀x∈ths,∀y∈ths,x.id=y.id→x=y:=by
 unfold qcj at h
 split at h
 ·cases h
 have hat:∀k,k<ths.length→qip ths k=0:=fun k hk=>qf2 h k hk
 have lt:∀i j (hi:i<ths.length) (hj:j<ths.length),i<j→ths[i].id≠ths[j].id:=fun i j hi hj hij he=>by
  have:=hat j hj
  unfold qip at this
  split at this
  ·rename_i h1;exact h1 this
  ·split at this
   ·cases this
   ·rename_i h2
    refine h2 ?_
    unfold qeb
    rw[List.any_eq_true]
    refine⟨ths[i],?_,?_⟩
    ·rw[List.mem_take_iff_getElem]
     exact⟨i,by omega,rfl⟩
    ·simp[hj,he]
 intro x hx y hy he
 obtain⟨i,hi,rfl⟩:=List.getElem_of_mem hx
 obtain⟨j,hj,rfl⟩:=List.getElem_of_mem hy
 rcases Nat.lt_trichotomy i j with hij|rfl|hij
 ·exact absurd he (lt i j hi hj hij)
 ·rfl
 ·exact absurd he.symm (lt j i hj hi hij)
theorem qkm {t:qaw} (h:qdo t=0):qcj t.threads=0:=by
 unfold qdo at h
 split at h
 ·rename_i h1;exact absurd h h1
 ·rename_i h1
  have h1:qey t=0:=Classical.byContradiction h1
  unfold qey at h1
  split at h1
  ·rename_i h2;exact absurd h1 h2
  ·rename_i h2;exact Classical.byContradiction h2
theorem Qk4 (l:List qao) (t:qaw) (ht:qdo t=0) (hg:qe8 t.slices):q6x l t=qit l (qfg l t):=by
 have hd:=Qfv (qkm ht)
 have e1:qdm (fun x=>!qbe l qau x.name) id t.threads=t.threads.filter (fun x=>!qco l t.threads x.id):=by
  rw[qdm,List.map_id]
  apply List.filter_congr
  intro x hx
  rw[qu6 hd hx]
 have e2:qdm (fun x=>!qco l t.threads x.ft&&!qco l t.threads x.tt) id t.flows=t.flows.filter (fun x=>!(qco l t.threads x.ft||qco l t.threads x.tt)):=by
  rw[qdm,List.map_id]
  apply List.filter_congr
  intro x hx
  rw[Bool.not_or]
 have e3:qdm (fun x=>!qbe l qat x.name) id t.steps=t.steps.filter (fun x=>!qbe l qat x.name):=by rw[qdm,List.map_id]
 have e4:qdm (fun x=>!qco l t.threads x.thread) id t.lost=t.lost.filter (fun x=>!qco l t.threads x.thread):=by rw[qdm,List.map_id]
 unfold q6x
 rw[e1,e2,e3,e4,←qrz l t hg]
 rfl
end YtljpopkonkanlaaGreatDoor
end Go.Proofs

set_option maxRecDepth 100000
namespace Go.Proofs
open Go.AM Tryz
namespace YtljpopkonkanlaaGreatDoor
variable {Gl:qbd}
def nnT (H:List (List UInt8)) (x:qaj):qaj:={x with name:=qnr H x.name}
def nnS (H:List (List UInt8)) (x:qag):qag:={x with name:=qnr H x.name}
def nnA (H:List (List UInt8)) (x:qam):qam:={x with stack:=x.stack.map (qnr H)}
def nnB (H:List (List UInt8)) (x:qar):qar:={x with stack:=x.stack.map (qnr H)}
def nnC (H:List (List UInt8)) (x:qa2):qa2:={x with name:=qnr H x.name}
def Qkv (l:List qao) (t:qaw):qaw:=
 {t with threads:=t.threads.map (nnT (qfz l qau (t.threads.map (·.name)))),slices:=t.slices.map (nnS (qfz l qa6 (t.slices.map (·.name)))),samples:=t.samples.map (nnA (qfz l qa7 (frN t))),blocks:=t.blocks.map (nnB (qfz l qa7 (frN t))),steps:=qfv ltT (t.steps.map (nnC (qfz l qat (t.steps.map (·.name)))))}
theorem Qrn (l:List qao) (t:qaw) (hl:l.length<1000000) (ht:t.lim) (hs:t.limS) (hfr:(frN t).length<1000000):qba prog Gl 49 [.d (.sl (l.map qao.toD)),.d t.toD] (.d (Qkv l t).toD):=by
 refine qba.of2 ?_
 have aT:=Qp7 (Gl:=Gl) t ht hs
 have aS:=Qp8 (Gl:=Gl) t ht hs
 have aF:=Qp9 (Gl:=Gl) t ht hs
 have aC:=Qqa (Gl:=Gl) t ht hs
 obtain⟨h1,h2,h3,h4,h5,h6,h7,h8⟩:=id ht
 refine qac func49 rfl rfl (by simp[ntmps49]) (qab rfl _ _ _ _ ?_)
 simp only[ntmps49,results49,qak,List.length_nil]
 simp only[zU,seval]
 repeat((with_reducible apply aI);exact sdp)
 refine qad aT ?_
 simp only[zU,seval]
 refine qad (qjr l qau (t.threads.map (·.name)) hl (by rw[List.length_map];omega)) ?_
 simp only[zU,seval]
 refine qad aS ?_
 simp only[zU,seval]
 refine qad (qjr l qa6 (t.slices.map (·.name)) hl (by rw[List.length_map];omega)) ?_
 simp only[zU,seval]
 refine qad aF ?_
 simp only[zU,seval]
 refine qad (qjr l qa7 (frN t) hl hfr) ?_
 simp only[zU,seval]
 refine qad aC ?_
 simp only[zU,seval]
 refine qad (qjr l qat (t.steps.map (·.name)) hl (by rw[List.length_map];omega)) ?_
 have q1:=qnx l qau (t.threads.map (·.name))
 have q2:=qnx l qa6 (t.slices.map (·.name))
 have q3:=qnx l qa7 (frN t)
 have q4:=qnx l qat (t.steps.map (·.name))
 rw[List.length_map] at q1 q2 q4
 rw[Qkv]
 obtain⟨H1,hH1⟩:∃H,H=qfz l qau (t.threads.map (·.name)):=⟨_,rfl⟩
 obtain⟨H2,hH2⟩:∃H,H=qfz l qa6 (t.slices.map (·.name)):=⟨_,rfl⟩
 obtain⟨H3,hH3⟩:∃H,H=qfz l qa7 (frN t):=⟨_,rfl⟩
 obtain⟨H4,hH4⟩:∃H,H=qfz l qat (t.steps.map (·.name)):=⟨_,rfl⟩
 rw[←hH1] at q1
 rw[←hH2] at q2
 rw[←hH3] at q3
 rw[←hH4] at q4
 rw[←hH1,←hH2,←hH3,←hH4]
 clear hH1 hH2 hH3 hH4 aT aS aF aC
 simp only[zU,seval]
 repeat((with_reducible apply aI);exact sdp)
 refine qan t.threads.length (fun k=>[(3,.ptr 0 0),(4,.ptr 1 0),(5,.ptr 2 0),(6,.d (.sl (H1.map .str))),(7,.d (.sl (H2.map .str))),(8,.d (.sl (H3.map .str))),(9,.d (.sl (H4.map .str))),(10,.d (.int .i64 k))]) (fun k=>[.box 10 (.d t.toD),.box 10 zT,.box 10 (.agg [.d (.int .i64 t.lo),.d (.int .i64 t.hi),.osl 3 0 t.threads.length,.d (.sl (t.slices.map qag.toD)),.d (.sl (t.states.map qax.toD)),.d (.sl (t.flows.map qbf.toD)),.d (.sl (t.samples.map qam.toD)),.d (.sl (t.steps.map qa2.toD)),.d (.sl (t.blocks.map qar.toD)),.d (.sl (t.lost.map qbr.toD))]),.arr 3 ((qew (nnT H1) t.threads k).map qaj.toD)]) (fun _=>True) trivial ?_ ?_
 ·refine qaa [] [0,1,2,4] rfl (by simp) ?_ ?_
  ·simp only[zU,seval]
   try rfl
  ·rw[qdr]
   simp only[zU,seval]
   try rfl
 intro k _ hk
 by_cases h:k<t.threads.length
 ·obtain⟨x,hx⟩:∃x,x=t.threads.getD k default:=⟨_,rfl⟩
  have hml:=qeh (nnT H1) t.threads k
  have eg:((qew (nnT H1) t.threads k).map qaj.toD).getD k default=x.toD:=by rw[qah _ _ _ (by omega),qei _ h,←hx]
  have est:(qew (nnT H1) t.threads k).set k (nnT H1 x)=qew (nnT H1) t.threads (k+1):=by rw[hx,qeg _ h]
  simp only[zU,seval,(show(k:Int)<t.threads.length by omega),h,eg,hml]
  repeat((with_reducible apply aI);exact sdp)
  refine qad (qnb H1 x.name (by omega)) ?_
  simp only[zU,seval,(show(k:Int)<t.threads.length by omega),h,eg,hml]
  repeat((with_reducible apply aI);exact sdp)
  refine qaa [] [0,1,2,3] rfl (by simp) ?_ ?_
  ·simp only[zU,seval,@qaf ((k:Int)+1) (by omega)]
   try rfl
  ·rw[←est,List.map_set]
   simp only[zU,seval]
   try rfl
 have:k=t.threads.length:=by omega
 subst this
 rw[qej]
 simp only[zU,seval,(show ¬(t.threads.length:Int)<t.threads.length by omega)]
 repeat((with_reducible apply aI);exact sdp)
 refine qan t.slices.length (fun k=>[(3,.ptr 0 0),(4,.ptr 1 0),(5,.ptr 2 0),(7,.d (.sl (H2.map .str))),(8,.d (.sl (H3.map .str))),(9,.d (.sl (H4.map .str))),(11,.d (.int .i64 k))]) (fun k=>[.box 10 (.d t.toD),.box 10 zT,.box 10 (.agg [.d (.int .i64 t.lo),.d (.int .i64 t.hi),.osl 3 0 t.threads.length,.osl 4 0 t.slices.length,.d (.sl (t.states.map qax.toD)),.d (.sl (t.flows.map qbf.toD)),.d (.sl (t.samples.map qam.toD)),.d (.sl (t.steps.map qa2.toD)),.d (.sl (t.blocks.map qar.toD)),.d (.sl (t.lost.map qbr.toD))]),.arr 3 ((t.threads.map (nnT H1)).map qaj.toD),.arr 8 ((qew (nnS H2) t.slices k).map qag.toD)]) (fun _=>True) trivial ?_ ?_
 ·refine qaa [] [0,1,2,3,5] rfl (by simp) ?_ ?_
  ·simp only[zU,seval]
   try rfl
  ·rw[qdr]
   simp only[zU,seval]
   try rfl
 intro k _ hk
 by_cases h:k<t.slices.length
 ·obtain⟨x,hx⟩:∃x,x=t.slices.getD k default:=⟨_,rfl⟩
  have hml:=qeh (nnS H2) t.slices k
  have eg:((qew (nnS H2) t.slices k).map qag.toD).getD k default=x.toD:=by rw[qah _ _ _ (by omega),qei _ h,←hx]
  have est:(qew (nnS H2) t.slices k).set k (nnS H2 x)=qew (nnS H2) t.slices (k+1):=by rw[hx,qeg _ h]
  simp only[zU,seval,(show(k:Int)<t.slices.length by omega),h,eg,hml]
  repeat((with_reducible apply aI);exact sdp)
  refine qad (qnb H2 x.name (by omega)) ?_
  simp only[zU,seval,(show(k:Int)<t.slices.length by omega),h,eg,hml]
  repeat((with_reducible apply aI);exact sdp)
  refine qaa [] [0,1,2,3,4] rfl (by simp) ?_ ?_
  ·simp only[zU,seval,@qaf ((k:Int)+1) (by omega)]
   try rfl
  ·rw[←est,List.map_set]
   simp only[zU,seval]
   try rfl
 have:k=t.slices.length:=by omega
 subst this
 rw[qej]
 simp only[zU,seval,(show ¬(t.slices.length:Int)<t.slices.length by omega)]
 repeat((with_reducible apply aI);exact sdp)
 refine qan t.samples.length (fun k=>[(3,.ptr 0 0),(4,.ptr 1 0),(5,.ptr 2 0),(8,.d (.sl (H3.map .str))),(9,.d (.sl (H4.map .str))),(12,.d (.int .i64 k))]) (fun k=>[.box 10 (.d t.toD),.box 10 zT,.box 10 (.agg [.d (.int .i64 t.lo),.d (.int .i64 t.hi),.osl 3 0 t.threads.length,.osl 4 0 t.slices.length,.d (.sl (t.states.map qax.toD)),.d (.sl (t.flows.map qbf.toD)),.osl 5 0 t.samples.length,.d (.sl (t.steps.map qa2.toD)),.d (.sl (t.blocks.map qar.toD)),.d (.sl (t.lost.map qbr.toD))]),.arr 3 ((t.threads.map (nnT H1)).map qaj.toD),.arr 8 ((t.slices.map (nnS H2)).map qag.toD),.arr 4 ((qew (nnA H3) t.samples k).map qam.toD)]) (fun _=>True) trivial ?_ ?_
 ·refine qaa [] [0,1,2,3,4,6] rfl (by simp) ?_ ?_
  ·simp only[zU,seval]
   try rfl
  ·rw[qdr]
   simp only[zU,seval]
   try rfl
 intro k _ hk
 by_cases h:k<t.samples.length
 ·obtain⟨x,hx⟩:∃x,x=t.samples.getD k default:=⟨_,rfl⟩
  have hml:=qeh (nnA H3) t.samples k
  have eg:((qew (nnA H3) t.samples k).map qam.toD).getD k default=x.toD:=by rw[qah _ _ _ (by omega),qei _ h,←hx]
  have est:(qew (nnA H3) t.samples k).set k (nnA H3 x)=qew (nnA H3) t.samples (k+1):=by rw[hx,qeg _ h]
  simp only[zU,seval,(show(k:Int)<t.samples.length by omega),h,eg,hml]
  repeat((with_reducible apply aI);exact sdp)
  refine qad (q52 H3 x.stack (by omega) (hs.1 x (by rw[hx];exact qcd h))) ?_
  simp only[zU,seval,(show(k:Int)<t.samples.length by omega),h,eg,hml]
  repeat((with_reducible apply aI);exact sdp)
  refine qaa [] [0,1,2,3,4,5] rfl (by simp) ?_ ?_
  ·simp only[zU,seval,@qaf ((k:Int)+1) (by omega)]
   try rfl
  ·rw[←est,List.map_set]
   simp only[zU,seval]
   try rfl
 have:k=t.samples.length:=by omega
 subst this
 rw[qej]
 simp only[zU,seval,(show ¬(t.samples.length:Int)<t.samples.length by omega)]
 repeat((with_reducible apply aI);exact sdp)
 refine qan t.blocks.length (fun k=>[(3,.ptr 0 0),(4,.ptr 1 0),(5,.ptr 2 0),(8,.d (.sl (H3.map .str))),(9,.d (.sl (H4.map .str))),(13,.d (.int .i64 k))]) (fun k=>[.box 10 (.d t.toD),.box 10 zT,.box 10 (.agg [.d (.int .i64 t.lo),.d (.int .i64 t.hi),.osl 3 0 t.threads.length,.osl 4 0 t.slices.length,.d (.sl (t.states.map qax.toD)),.d (.sl (t.flows.map qbf.toD)),.osl 5 0 t.samples.length,.d (.sl (t.steps.map qa2.toD)),.osl 6 0 t.blocks.length,.d (.sl (t.lost.map qbr.toD))]),.arr 3 ((t.threads.map (nnT H1)).map qaj.toD),.arr 8 ((t.slices.map (nnS H2)).map qag.toD),.arr 4 ((t.samples.map (nnA H3)).map qam.toD),.arr 7 ((qew (nnB H3) t.blocks k).map qar.toD)]) (fun _=>True) trivial ?_ ?_
 ·refine qaa [] [0,1,2,3,4,5,7] rfl (by simp) ?_ ?_
  ·simp only[zU,seval]
   try rfl
  ·rw[qdr]
   simp only[zU,seval]
   try rfl
 intro k _ hk
 by_cases h:k<t.blocks.length
 ·obtain⟨x,hx⟩:∃x,x=t.blocks.getD k default:=⟨_,rfl⟩
  have hml:=qeh (nnB H3) t.blocks k
  have eg:((qew (nnB H3) t.blocks k).map qar.toD).getD k default=x.toD:=by rw[qah _ _ _ (by omega),qei _ h,←hx]
  have est:(qew (nnB H3) t.blocks k).set k (nnB H3 x)=qew (nnB H3) t.blocks (k+1):=by rw[hx,qeg _ h]
  simp only[zU,seval,(show(k:Int)<t.blocks.length by omega),h,eg,hml]
  repeat((with_reducible apply aI);exact sdp)
  refine qad (q52 H3 x.stack (by omega) (hs.2 x (by rw[hx];exact qcd h))) ?_
  simp only[zU,seval,(show(k:Int)<t.blocks.length by omega),h,eg,hml]
  repeat((with_reducible apply aI);exact sdp)
  refine qaa [] [0,1,2,3,4,5,6] rfl (by simp) ?_ ?_
  ·simp only[zU,seval,@qaf ((k:Int)+1) (by omega)]
   try rfl
  ·rw[←est,List.map_set]
   simp only[zU,seval]
   try rfl
 have:k=t.blocks.length:=by omega
 subst this
 rw[qej]
 simp only[zU,seval,(show ¬(t.blocks.length:Int)<t.blocks.length by omega)]
 repeat((with_reducible apply aI);exact sdp)
 refine qan t.steps.length (fun k=>[(3,.ptr 0 0),(4,.ptr 1 0),(5,.ptr 2 0),(9,.d (.sl (H4.map .str))),(14,.d (.int .i64 k))]) (fun k=>[.box 10 (.d t.toD),.box 10 zT,.box 10 (.agg [.d (.int .i64 t.lo),.d (.int .i64 t.hi),.osl 3 0 t.threads.length,.osl 4 0 t.slices.length,.d (.sl (t.states.map qax.toD)),.d (.sl (t.flows.map qbf.toD)),.osl 5 0 t.samples.length,.osl 7 0 t.steps.length,.osl 6 0 t.blocks.length,.d (.sl (t.lost.map qbr.toD))]),.arr 3 ((t.threads.map (nnT H1)).map qaj.toD),.arr 8 ((t.slices.map (nnS H2)).map qag.toD),.arr 4 ((t.samples.map (nnA H3)).map qam.toD),.arr 7 ((t.blocks.map (nnB H3)).map qar.toD),.arr 3 ((qew (nnC H4) t.steps k).map qa2.toD)]) (fun _=>True) trivial ?_ ?_
 ·refine qaa [] [0,1,2,3,4,5,6,8] rfl (by simp) ?_ ?_
  ·simp only[zU,seval]
   try rfl
  ·rw[qdr]
   simp only[zU,seval]
   try rfl
 intro k _ hk
 by_cases h:k<t.steps.length
 ·obtain⟨x,hx⟩:∃x,x=t.steps.getD k default:=⟨_,rfl⟩
  have hml:=qeh (nnC H4) t.steps k
  have eg:((qew (nnC H4) t.steps k).map qa2.toD).getD k default=x.toD:=by rw[qah _ _ _ (by omega),qei _ h,←hx]
  have est:(qew (nnC H4) t.steps k).set k (nnC H4 x)=qew (nnC H4) t.steps (k+1):=by rw[hx,qeg _ h]
  simp only[zU,seval,(show(k:Int)<t.steps.length by omega),h,eg,hml]
  repeat((with_reducible apply aI);exact sdp)
  refine qad (qnb H4 x.name (by omega)) ?_
  simp only[zU,seval,(show(k:Int)<t.steps.length by omega),h,eg,hml]
  repeat((with_reducible apply aI);exact sdp)
  refine qaa [] [0,1,2,3,4,5,6,7] rfl (by simp) ?_ ?_
  ·simp only[zU,seval,@qaf ((k:Int)+1) (by omega)]
   try rfl
  ·rw[←est,List.map_set]
   simp only[zU,seval]
   try rfl
 have:k=t.steps.length:=by omega
 subst this
 rw[qej]
 simp only[zU,seval,(show ¬(t.steps.length:Int)<t.steps.length by omega)]
 repeat((with_reducible apply aI);exact sdp)
 refine qia (as':=[.d (.sl ((t.steps.map (nnC H4)).map qa2.toD))]) (σ':=[.box 10 (.d t.toD),.box 10 zT,.box 10 (.agg [.d (.int .i64 t.lo),.d (.int .i64 t.hi),.osl 3 0 t.threads.length,.osl 4 0 t.slices.length,.d (.sl (t.states.map qax.toD)),.d (.sl (t.flows.map qbf.toD)),.osl 5 0 t.samples.length,.osl 7 0 t.steps.length,.osl 6 0 t.blocks.length,.d (.sl (t.lost.map qbr.toD))]),.arr 3 ((t.threads.map (nnT H1)).map qaj.toD),.arr 8 ((t.slices.map (nnS H2)).map qag.toD),.arr 4 ((t.samples.map (nnA H3)).map qam.toD),.arr 7 ((t.blocks.map (nnB H3)).map qar.toD),.frz 3 ((t.steps.map (nnC H4)).map qa2.toD)]) (Qme (t.steps.map (nnC H4)) (by rw[List.length_map];omega)) ?_ rfl ?_
 ·have e:((((t.steps.map (nnC H4)).map qa2.toD).drop 0).take t.steps.length)=(t.steps.map (nnC H4)).map qa2.toD:=by rw[List.drop_zero,List.take_of_length_le (by simp)]
  show[qlt _ (.osl 7 0 t.steps.length)]=_
  rw[qle _ _ _ _ rfl]
  show[AV.d (.sl ((((t.steps.map (nnC H4)).map qa2.toD).drop 0).take t.steps.length))]=_
  rw[e]
 simp only[zU,seval]
 repeat((with_reducible apply aI);exact sdp)
 refine⟨_,_,qc7 rfl ?_,rfl,rfl⟩
 show D.agg [.int .i64 t.lo,.int .i64 t.hi,.sl ((((t.threads.map (nnT H1)).map qaj.toD).drop 0).take t.threads.length),.sl ((((t.slices.map (nnS H2)).map qag.toD).drop 0).take t.slices.length),.sl (t.states.map qax.toD),.sl (t.flows.map qbf.toD),.sl ((((t.samples.map (nnA H3)).map qam.toD).drop 0).take t.samples.length),.sl ((qfv ltT (t.steps.map (nnC H4))).map qa2.toD),.sl ((((t.blocks.map (nnB H3)).map qar.toD).drop 0).take t.blocks.length),.sl (t.lost.map qbr.toD)]=_
 have tk:∀(X:List D) (n:Nat),X.length=n→(X.drop 0).take n=X:=fun X n h=>by rw[List.drop_zero,List.take_of_length_le (by omega)]
 rw[tk _ _ (by simp),tk _ _ (by simp),tk _ _ (by simp),tk _ _ (by simp)]
 rfl
end YtljpopkonkanlaaGreatDoor
end Go.Proofs
