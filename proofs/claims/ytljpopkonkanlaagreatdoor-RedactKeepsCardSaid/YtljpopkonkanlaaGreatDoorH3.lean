/- A part of the proof: contracts of functions of this seat, and lemmas. No condition beyond those stated. -/
import Derived.Test.YtljpopkonkanlaaGreatDoorH2
import Derived.Test.YtljpopkonkanlaaGreatDoorH1
import Derived.Test.YtljpopkonkanlaaGreatDoorG4
set_option linter.unusedVariables false
set_option linter.unusedSimpArgs false
set_option linter.unusedSectionVars false
set_option linter.unnecessarySimpa false
set_option maxRecDepth 100000
namespace Go.Proofs
open Go.AM Tryz
namespace YtljpopkonkanlaaGreatDoor
variable {Gl:qbb}
def qim {α:Type} (f:α→α) (l:List α) (k:Nat):List α:=(l.take k).map f++l.drop k
theorem qix {α:Type} (f:α→α) (l:List α) (k:Nat):(qim f l k).length=l.length:=by
 simp[qim];omega
theorem qg5 {α:Type} (f:α→α) (l:List α):qim f l 0=l:=by simp[qim]
theorem qiz {α:Type} (f:α→α) (l:List α):qim f l l.length=l.map f:=by simp[qim]
theorem qiy {α:Type} [Inhabited α] (f:α→α) {l:List α} {k:Nat} (h:k<l.length):(qim f l k).getD k default=l.getD k default:=by
 rw[qim,List.getD_eq_getElem?_getD,List.getElem?_append_right (by simp;omega)]
 simp[show min k l.length=k by omega]
theorem qiw {α:Type} [Inhabited α] (f:α→α) {l:List α} {k:Nat} (h:k<l.length):(qim f l k).set k (f (l.getD k default))=qim f l (k+1):=by
 rw[qim,qim,qa0 l k h,List.map_append,List.set_append_right _ _ (by simp;omega)]
 simp only[List.length_map,List.length_take,show min k l.length=k by omega,Nat.sub_self]
 rw[List.drop_eq_getElem_cons h,List.set_cons_zero]
 simp[h]
def frD (l:List qao) (s:List (List UInt8)):List (List UInt8):=s.filter (fun x=>!qbw l qa4 x)
theorem Qyk (l:List qao) (hl:l.length<1000000) (s:List (List UInt8)) (hs:s.length<1000000):qal prog Gl 66 [.d (.sl (s.map .str)),.ptr 0 0] [.box 1 (.d (.sl (l.map qao.toD)))] (fun r σ=>r=.d (.sl ((frD l s).map .str))∧σ=[.box 1 (.d (.sl (l.map qao.toD)))]):=by
 refine qac func66 rfl rfl (by simp[ntmps66]) (qab rfl _ _ _ _ ?_)
 simp only[ntmps66,results66,qak,List.length_nil]
 simp only[zU,seval]
 refine qaz ((q3h _ (fun x=>qbw l qa4 x) (Qu1 l hl) s hs).mono fun r σ hr=>?_)
 obtain⟨rfl,rfl⟩:=hr
 simp only[zU,seval]
 exact⟨_,_,qah [] [0] rfl (by simp) (show qbk _ _ _=AV.d _ from rfl) rfl,rfl,rfl⟩
def frS (l:List qao) (x:qam):qam:={x with stack:=frD l x.stack}
def q13 (l:List qao) (x:qaw):qaw:={x with stack:=frD l x.stack}
def qjq (l:List qao) (t:qat):qat:=
 {t with
  slices:=qc4 (chF (fun x=>!qbw l qa5 x.name) t.slices).1
  samples:=t.samples.map (frS l)
  blocks:=t.blocks.map (q13 l)
  steps:=t.steps.filter (fun x=>!qbw l qay x.name)}
def qgi (t:qat):AV:=.agg [.d (.int .i64 t.lo),.d (.int .i64 t.hi),.osl 0 0 t.threads.length,.osl 1 0 t.slices.length,.d (.sl (t.states.map qas.toD)),.d (.sl (t.flows.map qbj.toD)),.osl 2 0 t.samples.length,.osl 3 0 t.steps.length,.osl 4 0 t.blocks.length,.d (.sl (t.lost.map qb5.toD))]
def Qon (t:qat):Sto:=[.arr 3 (t.threads.map qai.toD),.arr 8 (t.slices.map qae.toD),.arr 4 (t.samples.map qam.toD),.arr 3 (t.steps.map qa7.toD),.arr 7 (t.blocks.map qaw.toD)]
def qat.limS (t:qat):Prop:=(∀x∈t.samples,x.stack.length<1000000)∧∀x∈t.blocks,x.stack.length<1000000
theorem q97 (l:List qao) (t:qat) (hl:l.length<1000000) (ht:t.lim) (hs:t.limS) (hg:qd7 t.slices):qal prog Gl 42 [.d (.sl (l.map qao.toD)),Qzp t] [.arr 3 (t.threads.map qai.toD)]
  (fun r s=>r=qgi (qjq l t)∧s=Qon (qjq l t)):=by
 obtain⟨h1,h2,h3,h4,h5,h6,h7,h8⟩:=ht
 obtain⟨rs,hrs⟩:∃rs,rs=D.sl (l.map qao.toD):=⟨_,rfl⟩
 refine qac func42 rfl rfl (by simp[ntmps42]) (qab rfl _ _ _ _ ?_)
 simp only[ntmps42,results42,qak,List.length_nil]
 simp only[zU,seval,Qzp]
 refine qxf [1] [.box 1 (.d (.sl (l.map qao.toD)))] (by simp) (by simp) rfl rfl (hk1 rfl) (Qls _ (fun x=>!qbw l qa5 x.name) (Qpu l hl) t.slices (by omega) hg) ?_
 simp only[zU,seval]
 repeat((with_reducible apply aI);exact sdp)
 refine qaz ((qoj t.samples (by omega) _).mono fun r s hr=>?_)
 obtain⟨rfl,rfl⟩:=hr
 simp only[zU,seval]
 repeat((with_reducible apply aI);exact sdp)
 obtain⟨sl,hsl⟩:∃sl,sl=qc4 (chF (fun x=>!qbw l qa5 x.name) t.slices).1:=⟨_,rfl⟩
 rw[←hsl]
 obtain⟨R,hR⟩:∃R,R=D.sl (l.map qao.toD):=⟨_,rfl⟩
 rw[←hR]
 refine qap t.samples.length (fun k=>[(2,.ptr 1 0),(3,.ptr 2 0),(4,.ptr 3 0),(5,.fn 66 [.ptr 1 0]),(21,.osl 5 0 t.samples.length),(22,.d (.int .i64 t.samples.length)),(23,.d (.int .i64 k))])
  (fun k=>[.arr 3 (t.threads.map qai.toD),.box 1 (.d R),.box 10 (.agg [.d (.int .i64 t.lo),.d (.int .i64 t.hi),.osl 0 0 t.threads.length,.osl 4 0 sl.length,.d (.sl (t.states.map qas.toD)),.d (.sl (t.flows.map qbj.toD)),.osl 5 0 t.samples.length,.d (.sl (t.steps.map qa7.toD)),.d (.sl (t.blocks.map qaw.toD)),.d (.sl (t.lost.map qb5.toD))]),.box 10 zT,.arr 8 (sl.map qae.toD),.arr 4 ((qim (frS l) t.samples k).map qam.toD)]) (fun _=>True) trivial ?_ ?_
 ·refine qaa [] [0,1,2,3,4,5] rfl (by simp) ?_ ?_
  ·simp only[zU,seval]
   try rfl
  ·rw[qg5];rfl
 intro k _ hk
 by_cases h:k<t.samples.length
 ·obtain⟨x,hx⟩:∃x,x=t.samples.getD k default:=⟨_,rfl⟩
  have hml:=qix (frS l) t.samples k
  have eg:((qim (frS l) t.samples k).map qam.toD).getD k default=x.toD:=by rw[qaj _ _ _ (by omega),qiy _ h,←hx]
  have est:(qim (frS l) t.samples k).set k (frS l x)=qim (frS l) t.samples (k+1):=by rw[hx,qiw _ h]
  have hxs:=hs.1 x (by rw[hx];exact qbh h)
  simp only[zU,seval,(show(k:Int)<t.samples.length by omega),h,eg,hml]
  repeat((with_reducible apply aI);exact sdp)
  refine qef 1 (Qyk l hl x.stack hxs) (fun s=>rfl) (by rw[hR];rfl) trivial ?_
  simp only[zU,seval,(show(k:Int)<t.samples.length by omega),h,eg,hml]
  refine qaa [] [0,1,2,3,4,5] rfl (by simp) ?_ ?_
  ·simp only[zU,seval,@qag ((k:Int)+1) (by omega)]
   try rfl
  ·rw[←est,List.map_set];rfl
 have:k=t.samples.length:=by omega
 subst this
 obtain⟨sa,hsa⟩:∃sa,sa=t.samples.map (frS l):=⟨_,rfl⟩
 have hsal:t.samples.length=sa.length:=by rw[hsa,List.length_map]
 rw[qiz,←hsa]
 simp only[zU,seval,(show ¬(t.samples.length:Int)<t.samples.length by omega)]
 rw[hsal]
 refine qaz ((qrr t.blocks (by omega) _).mono fun r s hr=>?_)
 obtain⟨rfl,rfl⟩:=hr
 simp only[zU,seval]
 repeat((with_reducible apply aI);exact sdp)
 refine qap t.blocks.length (fun k=>[(2,.ptr 1 0),(3,.ptr 2 0),(4,.ptr 3 0),(5,.fn 66 [.ptr 1 0]),(43,.osl 6 0 t.blocks.length),(44,.d (.int .i64 t.blocks.length)),(45,.d (.int .i64 k))])
  (fun k=>[.arr 3 (t.threads.map qai.toD),.box 1 (.d R),.box 10 (.agg [.d (.int .i64 t.lo),.d (.int .i64 t.hi),.osl 0 0 t.threads.length,.osl 4 0 sl.length,.d (.sl (t.states.map qas.toD)),.d (.sl (t.flows.map qbj.toD)),.osl 5 0 sa.length,.d (.sl (t.steps.map qa7.toD)),.osl 6 0 t.blocks.length,.d (.sl (t.lost.map qb5.toD))]),.box 10 zT,.arr 8 (sl.map qae.toD),.arr 4 (sa.map qam.toD),.arr 7 ((qim (q13 l) t.blocks k).map qaw.toD)]) (fun _=>True) trivial ?_ ?_
 ·refine qaa [] [0,1,2,3,4,5,6] rfl (by simp) ?_ ?_
  ·simp only[zU,seval]
   try rfl
  ·rw[qg5];rfl
 intro k _ hk
 by_cases h:k<t.blocks.length
 ·obtain⟨x,hx⟩:∃x,x=t.blocks.getD k default:=⟨_,rfl⟩
  have hml:=qix (q13 l) t.blocks k
  have eg:((qim (q13 l) t.blocks k).map qaw.toD).getD k default=x.toD:=by rw[qaj _ _ _ (by omega),qiy _ h,←hx]
  have est:(qim (q13 l) t.blocks k).set k (q13 l x)=qim (q13 l) t.blocks (k+1):=by rw[hx,qiw _ h]
  have hxs:=hs.2 x (by rw[hx];exact qbh h)
  simp only[zU,seval,(show(k:Int)<t.blocks.length by omega),h,eg,hml]
  repeat((with_reducible apply aI);exact sdp)
  refine qef 1 (Qyk l hl x.stack hxs) (fun s=>rfl) (by rw[hR];rfl) trivial ?_
  simp only[zU,seval,(show(k:Int)<t.blocks.length by omega),h,eg,hml]
  refine qaa [] [0,1,2,3,4,5,6] rfl (by simp) ?_ ?_
  ·simp only[zU,seval,@qag ((k:Int)+1) (by omega)]
   try rfl
  ·rw[←est,List.map_set];rfl
 have:k=t.blocks.length:=by omega
 subst this
 obtain⟨bl,hbl⟩:∃bl,bl=t.blocks.map (q13 l):=⟨_,rfl⟩
 have hbll:t.blocks.length=bl.length:=by rw[hbl,List.length_map]
 rw[qiz,←hbl]
 simp only[zU,seval,(show ¬(t.blocks.length:Int)<t.blocks.length by omega)]
 rw[hbll,hR]
 refine qxf [1] [.box 1 (.d (.sl (l.map qao.toD)))] (by simp) (by simp) rfl rfl (hk1 rfl) (q3i _ (fun x=>qbw l qay x.name) (Qu2 l hl) t.steps (by omega)) ?_
 simp only[zU,seval]
 repeat((with_reducible apply aI);exact sdp)
 have ed:qjq l t={t with slices:=sl,samples:=sa,blocks:=bl,steps:=t.steps.filter (fun x=>!qbw l qay x.name)}:=by rw[hsl,hsa,hbl];rfl
 rw[ed]
 refine⟨_,_,qah [] [0,4,5,7,6] rfl (by simp) rfl rfl,?_,?_⟩
 ·rfl
 ·rfl

def val (p:Bool) (i n:Nat):Option AV:=if p=true then some (.osl i 0 n) else none
def qb7 (a b c d:Option AV):Key→Option AV
 | .s n=>if n=qax then a else if n=qa5 then b else if n=qa4 then c else if n=qay then d else none
 | .i _=>none
theorem qwe:(fun _=>none)=qb7 none none none none:=by
 funext k;cases k<;>simp[qb7]
theorem qe3:(D.raw (Value.slice none 0 0)).cells.length=1:=rfl
theorem L1 (a b c d:Option AV):qb7 a b c d (.s [116,104,114,101,97,100])=a:=by simp[qb7,qax]
theorem L2 (a b c d:Option AV):qb7 a b c d (.s [115,108,105,99,101])=b:=by simp[qb7,qax,qa5]
theorem L3 (a b c d:Option AV):qb7 a b c d (.s [102,114,97,109,101])=c:=by simp[qb7,qax,qa5,qa4]
theorem L4 (a b c d:Option AV):qb7 a b c d (.s [99,111,117,110,116,101,114])=d:=by simp[qb7,qax,qa5,qa4,qay]
theorem M1 (a b c d:Option AV) (v:AV):qhm (qb7 a b c d) (.s [116,104,114,101,97,100]) v=qb7 (some v) b c d:=by
 funext k;cases k with
 | i n=>simp[qhm,qb7]
 | s n=>by_cases h:n=qax<;>simp[qhm,qb7,h,qax]<;>simp_all [qax]
theorem M2 (a b c d:Option AV) (v:AV):qhm (qb7 a b c d) (.s [115,108,105,99,101]) v=qb7 a (some v) c d:=by
 funext k;cases k with
 | i n=>simp[qhm,qb7]
 | s n=>by_cases h:n=qa5<;>simp[qhm,qb7,h,qax,qa5]<;>simp_all [qa5]
theorem M3 (a b c d:Option AV) (v:AV):qhm (qb7 a b c d) (.s [102,114,97,109,101]) v=qb7 a b (some v) d:=by
 funext k;cases k with
 | i n=>simp[qhm,qb7]
 | s n=>by_cases h:n=qa4<;>simp[qhm,qb7,h,qax,qa5,qa4]<;>simp_all [qa4]
theorem M4 (a b c d:Option AV) (v:AV):qhm (qb7 a b c d) (.s [99,111,117,110,116,101,114]) v=qb7 a b c (some v):=by
 funext k;cases k with
 | i n=>simp[qhm,qb7]
 | s n=>by_cases h:n=qay<;>simp[qhm,qb7,h,qax,qa5,qa4,qay]<;>simp_all [qay]
theorem qfj (f:AV→AV) (a b c d:Option AV):(fun k=>(qb7 a b c d k).map f)=qb7 (a.map f) (b.map f) (c.map f) (d.map f):=by
 funext k;cases k with
 | i n=>rfl
 | s n=>
  simp only[qb7]
  split
  ·rfl
  split
  ·rfl
  split
  ·rfl
  split
  ·rfl
  ·rfl
theorem q2l {ρ:List Nat} {σ:Sto} (p:Bool) {i j:Nat} (n:Nat) (h:qcl ρ i=some j):(val p i n).map (qbk ρ σ)=val p j n:=by
 cases p with
 | false=>rfl
 | true=>show some (qbk ρ σ (.osl i 0 n))=_;simp[qbk,qlw,h,val]
theorem qjo {ρ:List Nat} {σ:Sto} (p1 p2 p3 p4:Bool) (n1 n2 n3 n4:Nat) {i1 i2 i3 i4 j1 j2 j3 j4:Nat} (h1:qcl ρ i1=some j1) (h2:qcl ρ i2=some j2) (h3:qcl ρ i3=some j3) (h4:qcl ρ i4=some j4) :
  qbs ρ σ (.map none (qb7 (val p1 i1 n1) (val p2 i2 n2) (val p3 i3 n3) (val p4 i4 n4)))=.map none (qb7 (val p1 j1 n1) (val p2 j2 n2) (val p3 j3 n3) (val p4 j4 n4)):=by
 show Blk.map none _=_
 rw[qfj,q2l _ _ h1,q2l _ _ h2,q2l _ _ h3,q2l _ _ h4]
theorem qe1 {n m:Nat} {env:Env} {σ:Sto} (es:Nat) (hm:m≤σ.length):qin n m env σ env (σ++[.arr es []]):=fun w I μ a h1 h2 h3=>by
 obtain⟨μ',a1,a2⟩:=h1.addNone es
 exact⟨I,μ',a1,h2.keep a2,a2.mono hm⟩
theorem Qql {l:List qam} (h:∀x∈l,x.stack.length<1000000):((l.map (·.stack)).flatten).length≤l.length*1000000:=by
 induction l with
 | nil=>simp
 | cons x l ih=>
  have h1:=ih fun y hy=>h y (List.mem_cons_of_mem _ hy)
  have h2:=h x List.mem_cons_self
  simp only[List.map_cons,List.flatten_cons,List.length_append,List.length_cons];omega
theorem Qz1 {l:List qaw} (h:∀x∈l,x.stack.length<1000000):((l.map (·.stack)).flatten).length≤l.length*1000000:=by
 induction l with
 | nil=>simp
 | cons x l ih=>
  have h1:=ih fun y hy=>h y (List.mem_cons_of_mem _ hy)
  have h2:=h x List.mem_cons_self
  simp only[List.map_cons,List.flatten_cons,List.length_append,List.length_cons];omega
theorem Qmt (x:qam):(List.map (fun y:qam=>y.stack) [x]).flatten=x.stack:=by simp
theorem Qyx (x:qaw):(List.map (fun y:qaw=>y.stack) [x]).flatten=x.stack:=by simp
theorem Qtr (l:List qam):(List.map (fun y:qam=>y.stack) (l.take 0)).flatten=[]:=by simp
theorem Qyy (l:List qaw):(List.map (fun y:qaw=>y.stack) (l.take 0)).flatten=[]:=by simp
theorem qh1 (i n:Nat):val false i n=none:=rfl
theorem qh0 (i n:Nat):val true i n=some (.osl i 0 n):=rfl
def frN (t:qat):List (List UInt8):=(t.samples.map (·.stack)).flatten++(t.blocks.map (·.stack)).flatten
def frK (t:qat) (k:Nat):List (List UInt8):=(t.samples.map (·.stack)).flatten++((t.blocks.take k).map (·.stack)).flatten
theorem qlg (t:qat):frK t 0=(t.samples.map (·.stack)).flatten:=by rw[frK,Qyy,List.append_nil]
theorem q35 {t:qat} {k:Nat} {x:qaw} (h:t.blocks.take (k+1)=t.blocks.take k++[x]):frK t (k+1)=frK t k++x.stack:=by
 rw[frK,h,List.map_append,List.flatten_append,Qyx,←List.append_assoc];rfl
theorem Qap (t:qat):frK t t.blocks.length=frN t:=by rw[frK,List.take_length];rfl
theorem Qmr {t:qat} (hs:t.limS) (k:Nat):(frK t k).length≤t.samples.length*1000000+t.blocks.length*1000000:=by
 have h1:=Qql (l:=t.samples) hs.1
 have h2:=Qz1 (l:=t.blocks.take k) fun y hy=>hs.2 y (List.mem_of_mem_take hy)
 rw[List.length_take] at h2
 rw[frK,List.length_append]
 have:min k t.blocks.length≤t.blocks.length:=Nat.min_le_right _ _
 have:=Nat.mul_le_mul_right 1000000 this
 omega
theorem Qpr (t:qat) (ht:t.lim) (hs:t.limS):qal prog Gl 44 [qgi t] [.arr 3 (t.threads.map qai.toD),.arr 8 (t.slices.map qae.toD),.arr 4 (t.samples.map qam.toD),.arr 3 (t.steps.map qa7.toD),.arr 7 (t.blocks.map qaw.toD)]
  (fun r s=>r=.mapr 5∧s=[.arr 3 (t.threads.map qai.toD),.arr 8 (t.slices.map qae.toD),.arr 4 (t.samples.map qam.toD),.arr 3 (t.steps.map qa7.toD),.arr 7 (t.blocks.map qaw.toD),.map none (qb7 (val (decide (0<t.threads.length)) 6 t.threads.length) (val (decide (0<t.slices.length)) 7 t.slices.length) (val (decide (0<t.samples.length+t.blocks.length)) 8 (frN t).length) (val (decide (0<t.steps.length)) 9 t.steps.length)),
   .arr 1 ((t.threads.map (·.name)).map .str),.arr 1 ((t.slices.map (·.name)).map .str),.arr 1 ((frN t).map .str),.arr 1 ((t.steps.map (·.name)).map .str)]):=by
 obtain⟨h1,h2,h3,h4,h5,h6,h7,h8⟩:=ht
 refine qac func44 rfl rfl (by simp[ntmps44]) (qab rfl _ _ _ _ ?_)
 simp only[ntmps44,results44,qak,List.length_nil]
 simp only[zU,seval,L1,L2,L3,L4,M1,M2,M3,M4,qe3,qgi]
 refine qap t.threads.length (fun k=>[(1,.ptr 5 0),(3,.mapr 6),(16,.osl 0 0 t.threads.length),(17,.d (.int .i64 t.threads.length)),(18,.d (.int .i64 k))])
  (fun k=>[.arr 3 (t.threads.map qai.toD),.arr 8 (t.slices.map qae.toD),.arr 4 (t.samples.map qam.toD),.arr 3 (t.steps.map qa7.toD),.arr 7 (t.blocks.map qaw.toD),.box 10 (qgi t),.map none (qb7 (val (decide (0<k)) 7 k) (val false 8 0) (val false 9 0) (val false 10 0)),.arr 1 (((t.threads.take k).map (·.name)).map .str),.arr 1 (([]:List (List UInt8)).map .str),.arr 1 (([]:List (List UInt8)).map .str),.arr 1 (([]:List (List UInt8)).map .str)]) (fun _=>True) trivial ?_ ?_
 ·refine(qe1 1 (by simp)).trans ((qe1 1 (by simp)).trans ((qe1 1 (by simp)).trans ((qe1 1 (by simp)).trans ?_)))
  refine qaa [] [0,1,2,3,4,5,6,7,8,9,10] rfl (by simp) ?_ ?_
  ·simp only[zU,seval,L1,L2,L3,L4,M1,M2,M3,M4,qe3]
   try rfl
  ·rw[qwe]
   show[_,_,_,_,_,_,qbs _ _ (.map none (qb7 (val false 7 0) (val false 8 0) (val false 9 0) (val false 10 0))),_,_,_,_]=_
   rw[qjo _ _ _ _ _ _ _ _ rfl rfl rfl rfl];rfl
 intro k _ hk
 by_cases h:k<t.threads.length
 ·obtain⟨x,hx⟩:∃x,x=t.threads.getD k default:=⟨_,rfl⟩
  have eg:(t.threads.map qai.toD).getD k default=x.toD:=by rw[qaj _ _ _ h,←hx]
  have ht:t.threads.take (k+1)=t.threads.take k++[x]:=by rw[qa0 _ k h,←hx]
  obtain⟨p,hp⟩:∃p,p=(decide (0<k)):=⟨_,rfl⟩
  rw[←hp]
  rw[ht,show(decide (0<k+1))=true from decide_eq_true (by omega),List.map_append,List.map_append]
  skip
  cases p with
  | false=>
   have hk0:k=0:=by simpa using hp
   subst hk0
   simp only[zU,seval,L1,L2,L3,L4,M1,M2,M3,M4,qe3,(show(0:Int)<t.threads.length by omega),h,eg,qh0,qh1,Option.getD_some,Option.getD_none]
   repeat((with_reducible apply aI);exact sdp)
   refine qaa [] [0,1,2,3,4,5,6,13,8,9,10] rfl (by simp) ?_ ?_
   ·simp only[zU,seval,L1,L2,L3,L4,M1,M2,M3,M4,qe3,@qag ((1:Int)) (by omega)]
    try rfl
   ·show[_,_,_,_,_,_,qbs _ _ (.map none (qb7 (val true 13 1) (val false 8 0) (val false 9 0) (val false 10 0))),_,_,_,_]=_
    rw[qjo _ _ _ _ _ _ _ _ rfl rfl rfl rfl];rfl
  | true=>
   simp only[zU,seval,L1,L2,L3,L4,M1,M2,M3,M4,qe3,(show(k:Int)<t.threads.length by omega),h,eg,qh0,qh1,Option.getD_some,Option.getD_none,qbe]
   repeat((with_reducible apply aI);exact sdp)
   rw[show List.take k (((t.threads.take k).map (·.name)).map D.str)=((t.threads.take k).map (·.name)).map D.str from List.take_of_length_le (by simp only[List.length_map,List.length_take];omega)]
   refine qaa [] [0,1,2,3,4,5,6,13,8,9,10] rfl (by simp) ?_ ?_
   ·simp only[zU,seval,L1,L2,L3,L4,M1,M2,M3,M4,qe3,@qag ((k:Int)+1) (by omega)]
    try rfl
   ·show[_,_,_,_,_,_,qbs _ _ (.map none (qb7 (val true 13 (k+1)) (val false 8 0) (val false 9 0) (val false 10 0))),_,_,_,_]=_
    rw[qjo _ _ _ _ _ _ _ _ rfl rfl rfl rfl];rfl
 have:k=t.threads.length:=by omega
 subst this
 simp only[zU,seval,L1,L2,L3,L4,M1,M2,M3,M4,qe3,qgi,(show ¬(t.threads.length:Int)<t.threads.length by omega),List.take_length]
 refine qap t.slices.length (fun k=>[(1,.ptr 5 0),(3,.mapr 6),(31,.osl 1 0 t.slices.length),(32,.d (.int .i64 t.slices.length)),(33,.d (.int .i64 k))])
  (fun k=>[.arr 3 (t.threads.map qai.toD),.arr 8 (t.slices.map qae.toD),.arr 4 (t.samples.map qam.toD),.arr 3 (t.steps.map qa7.toD),.arr 7 (t.blocks.map qaw.toD),.box 10 (qgi t),.map none (qb7 (val (decide (0<t.threads.length)) 7 t.threads.length) (val (decide (0<k)) 8 k) (val false 9 0) (val false 10 0)),.arr 1 ((t.threads.map (·.name)).map .str),.arr 1 (((t.slices.take k).map (·.name)).map .str),.arr 1 (([]:List (List UInt8)).map .str),.arr 1 (([]:List (List UInt8)).map .str)]) (fun _=>True) trivial ?_ ?_
 ·refine qaa [] [0,1,2,3,4,5,6,7,8,9,10] rfl (by simp) ?_ ?_
  ·simp only[zU,seval,L1,L2,L3,L4,M1,M2,M3,M4,qe3]
   try rfl
  ·show[_,_,_,_,_,_,qbs _ _ (.map none (qb7 (val (decide (0<t.threads.length)) 7 t.threads.length) (val (decide (0<0)) 8 0) (val false 9 0) (val false 10 0))),_,_,_,_]=_
   rw[qjo _ _ _ _ _ _ _ _ rfl rfl rfl rfl];rfl
 intro k _ hk
 by_cases h:k<t.slices.length
 ·obtain⟨x,hx⟩:∃x,x=t.slices.getD k default:=⟨_,rfl⟩
  have eg:(t.slices.map qae.toD).getD k default=x.toD:=by rw[qaj _ _ _ h,←hx]
  have ht:t.slices.take (k+1)=t.slices.take k++[x]:=by rw[qa0 _ k h,←hx]
  obtain⟨p,hp⟩:∃p,p=(decide (0<k)):=⟨_,rfl⟩
  rw[←hp]
  rw[ht,show(decide (0<k+1))=true from decide_eq_true (by omega),List.map_append,List.map_append]
  skip
  cases p with
  | false=>
   have hk0:k=0:=by simpa using hp
   subst hk0
   simp only[zU,seval,L1,L2,L3,L4,M1,M2,M3,M4,qe3,(show(0:Int)<t.slices.length by omega),h,eg,qh0,qh1,Option.getD_some,Option.getD_none]
   repeat((with_reducible apply aI);exact sdp)
   refine qaa [] [0,1,2,3,4,5,6,7,13,9,10] rfl (by simp) ?_ ?_
   ·simp only[zU,seval,L1,L2,L3,L4,M1,M2,M3,M4,qe3,@qag ((1:Int)) (by omega)]
    try rfl
   ·show[_,_,_,_,_,_,qbs _ _ (.map none (qb7 (val (decide (0<t.threads.length)) 7 t.threads.length) (val true 13 1) (val false 9 0) (val false 10 0))),_,_,_,_]=_
    rw[qjo _ _ _ _ _ _ _ _ rfl rfl rfl rfl];rfl
  | true=>
   simp only[zU,seval,L1,L2,L3,L4,M1,M2,M3,M4,qe3,(show(k:Int)<t.slices.length by omega),h,eg,qh0,qh1,Option.getD_some,Option.getD_none,qbe]
   repeat((with_reducible apply aI);exact sdp)
   rw[show List.take k (((t.slices.take k).map (·.name)).map D.str)=((t.slices.take k).map (·.name)).map D.str from List.take_of_length_le (by simp only[List.length_map,List.length_take];omega)]
   refine qaa [] [0,1,2,3,4,5,6,7,13,9,10] rfl (by simp) ?_ ?_
   ·simp only[zU,seval,L1,L2,L3,L4,M1,M2,M3,M4,qe3,@qag ((k:Int)+1) (by omega)]
    try rfl
   ·show[_,_,_,_,_,_,qbs _ _ (.map none (qb7 (val (decide (0<t.threads.length)) 7 t.threads.length) (val true 13 (k+1)) (val false 9 0) (val false 10 0))),_,_,_,_]=_
    rw[qjo _ _ _ _ _ _ _ _ rfl rfl rfl rfl];rfl
 have:k=t.slices.length:=by omega
 subst this
 simp only[zU,seval,L1,L2,L3,L4,M1,M2,M3,M4,qe3,qgi,(show ¬(t.slices.length:Int)<t.slices.length by omega),List.take_length]
 refine qap t.samples.length (fun k=>[(1,.ptr 5 0),(3,.mapr 6),(46,.osl 2 0 t.samples.length),(47,.d (.int .i64 t.samples.length)),(48,.d (.int .i64 k))])
  (fun k=>[.arr 3 (t.threads.map qai.toD),.arr 8 (t.slices.map qae.toD),.arr 4 (t.samples.map qam.toD),.arr 3 (t.steps.map qa7.toD),.arr 7 (t.blocks.map qaw.toD),.box 10 (qgi t),.map none (qb7 (val (decide (0<t.threads.length)) 7 t.threads.length) (val (decide (0<t.slices.length)) 8 t.slices.length) (val (decide (0<k)) 9 (((t.samples.take k).map (·.stack)).flatten).length) (val false 10 0)),.arr 1 ((t.threads.map (·.name)).map .str),.arr 1 ((t.slices.map (·.name)).map .str),.arr 1 (((t.samples.take k).map (·.stack)).flatten.map .str),.arr 1 (([]:List (List UInt8)).map .str)]) (fun _=>True) trivial ?_ ?_
 ·refine qaa [] [0,1,2,3,4,5,6,7,8,9,10] rfl (by simp) ?_ ?_
  ·simp only[zU,seval,L1,L2,L3,L4,M1,M2,M3,M4,qe3]
   try rfl
  ·show[_,_,_,_,_,_,qbs _ _ (.map none (qb7 (val (decide (0<t.threads.length)) 7 t.threads.length) (val (decide (0<t.slices.length)) 8 t.slices.length) (val (decide (0<0)) 9 0) (val false 10 0))),_,_,_,_]=_
   rw[qjo _ _ _ _ _ _ _ _ rfl rfl rfl rfl];rfl
 intro k _ hk
 by_cases h:k<t.samples.length
 ·obtain⟨x,hx⟩:∃x,x=t.samples.getD k default:=⟨_,rfl⟩
  have eg:(t.samples.map qam.toD).getD k default=x.toD:=by rw[qaj _ _ _ h,←hx]
  have ht:t.samples.take (k+1)=t.samples.take k++[x]:=by rw[qa0 _ k h,←hx]
  obtain⟨p,hp⟩:∃p,p=(decide (0<k)):=⟨_,rfl⟩
  rw[←hp]
  rw[ht,show(decide (0<k+1))=true from decide_eq_true (by omega),List.map_append,List.flatten_append,Qmt,List.map_append]
  have hsx:=hs.1 x (by rw[hx];exact qbh h)
  have hA:=Qql (l:=t.samples.take k) fun y hy=>hs.1 y (List.mem_of_mem_take hy)
  rw[List.length_take] at hA
  cases p with
  | false=>
   have hk0:k=0:=by simpa using hp
   subst hk0
   rw[Qtr,List.map_nil,List.nil_append]
   simp only[zU,seval,L1,L2,L3,L4,M1,M2,M3,M4,qe3,(show(0:Int)<t.samples.length by omega),h,eg,qh0,qh1,Option.getD_some,Option.getD_none]
   repeat((with_reducible apply aI);exact sdp)
   refine qaa [] [0,1,2,3,4,5,6,7,8,12,10] rfl (by simp) ?_ ?_
   ·simp only[zU,seval,L1,L2,L3,L4,M1,M2,M3,M4,qe3,@qag ((1:Int)) (by omega)]
    try rfl
   ·show[_,_,_,_,_,_,qbs _ _ (.map none (qb7 (val (decide (0<t.threads.length)) 7 t.threads.length) (val (decide (0<t.slices.length)) 8 t.slices.length) (val true 12 _) (val false 10 0))),_,_,_,_]=_
    rw[qjo _ _ _ _ _ _ _ _ rfl rfl rfl rfl];rfl
  | true=>
   simp only[zU,seval,L1,L2,L3,L4,M1,M2,M3,M4,qe3,(show(k:Int)<t.samples.length by omega),h,eg,qh0,qh1,Option.getD_some,Option.getD_none,qbe]
   repeat((with_reducible apply aI);exact sdp)
   refine qaa [] [0,1,2,3,4,5,6,7,8,12,10] rfl (by simp) ?_ ?_
   ·simp only[zU,seval,L1,L2,L3,L4,M1,M2,M3,M4,qe3,@qag ((k:Int)+1) (by omega)]
    try rfl
   ·show[_,_,_,_,_,_,qbs _ _ (.map none (qb7 (val (decide (0<t.threads.length)) 7 t.threads.length) (val (decide (0<t.slices.length)) 8 t.slices.length) (val true 12 _) (val false 10 0))),_,_,_,_]=_
    rw[qjo _ _ _ _ _ _ _ _ rfl rfl rfl rfl];rfl
 have:k=t.samples.length:=by omega
 subst this
 simp only[zU,seval,L1,L2,L3,L4,M1,M2,M3,M4,qe3,qgi,(show ¬(t.samples.length:Int)<t.samples.length by omega),List.take_length]
 refine qap t.blocks.length (fun k=>[(1,.ptr 5 0),(3,.mapr 6),(60,.osl 4 0 t.blocks.length),(61,.d (.int .i64 t.blocks.length)),(62,.d (.int .i64 k))])
  (fun k=>[.arr 3 (t.threads.map qai.toD),.arr 8 (t.slices.map qae.toD),.arr 4 (t.samples.map qam.toD),.arr 3 (t.steps.map qa7.toD),.arr 7 (t.blocks.map qaw.toD),.box 10 (qgi t),.map none (qb7 (val (decide (0<t.threads.length)) 7 t.threads.length) (val (decide (0<t.slices.length)) 8 t.slices.length) (val (decide (0<t.samples.length+k)) 9 (frK t k).length) (val false 10 0)),.arr 1 ((t.threads.map (·.name)).map .str),.arr 1 ((t.slices.map (·.name)).map .str),.arr 1 ((frK t k).map .str),.arr 1 (([]:List (List UInt8)).map .str)]) (fun _=>True) trivial ?_ ?_
 ·refine qaa [] [0,1,2,3,4,5,6,7,8,9,10] rfl (by simp) ?_ ?_
  ·simp only[zU,seval,L1,L2,L3,L4,M1,M2,M3,M4,qe3]
   try rfl
  ·rw[qlg]
   show[_,_,_,_,_,_,qbs _ _ (.map none (qb7 (val (decide (0<t.threads.length)) 7 t.threads.length) (val (decide (0<t.slices.length)) 8 t.slices.length) (val (decide (0<t.samples.length+0)) 9 ((t.samples.map (·.stack)).flatten).length) (val false 10 0))),_,_,_,_]=_
   rw[qjo _ _ _ _ _ _ _ _ rfl rfl rfl rfl];rfl
 intro k _ hk
 by_cases h:k<t.blocks.length
 ·obtain⟨x,hx⟩:∃x,x=t.blocks.getD k default:=⟨_,rfl⟩
  have eg:(t.blocks.map qaw.toD).getD k default=x.toD:=by rw[qaj _ _ _ h,←hx]
  have ht:t.blocks.take (k+1)=t.blocks.take k++[x]:=by rw[qa0 _ k h,←hx]
  obtain⟨p,hp⟩:∃p,p=(decide (0<t.samples.length+k)):=⟨_,rfl⟩
  rw[←hp]
  rw[show(decide (0<t.samples.length+(k+1)))=true from decide_eq_true (by omega),q35 ht,List.map_append]
  have hsx:=hs.2 x (by rw[hx];exact qbh h)
  have hA:=Qmr hs k
  cases p with
  | false=>
   have hp2:¬0<t.samples.length+k:=by intro hq;rw[decide_eq_true hq] at hp;cases hp
   have hk0:t.samples.length=0∧k=0:=by omega
   obtain⟨hk1,rfl⟩:=hk0
   have e0:frK t 0=[]:=by rw[qlg,List.eq_nil_of_length_eq_zero hk1];simp
   rw[e0,List.map_nil,List.nil_append]
   simp only[zU,seval,L1,L2,L3,L4,M1,M2,M3,M4,qe3,(show(0:Int)<t.blocks.length by omega),h,eg,qh0,qh1,Option.getD_some,Option.getD_none]
   repeat((with_reducible apply aI);exact sdp)
   refine qaa [] [0,1,2,3,4,5,6,7,8,12,10] rfl (by simp) ?_ ?_
   ·simp only[zU,seval,L1,L2,L3,L4,M1,M2,M3,M4,qe3,@qag ((1:Int)) (by omega)]
    try rfl
   ·show[_,_,_,_,_,_,qbs _ _ (.map none (qb7 (val (decide (0<t.threads.length)) 7 t.threads.length) (val (decide (0<t.slices.length)) 8 t.slices.length) (val true 12 _) (val false 10 0))),_,_,_,_]=_
    rw[qjo _ _ _ _ _ _ _ _ rfl rfl rfl rfl];rfl
  | true=>
   simp only[zU,seval,L1,L2,L3,L4,M1,M2,M3,M4,qe3,(show(k:Int)<t.blocks.length by omega),h,eg,qh0,qh1,Option.getD_some,Option.getD_none,qbe]
   repeat((with_reducible apply aI);exact sdp)
   refine qaa [] [0,1,2,3,4,5,6,7,8,12,10] rfl (by simp) ?_ ?_
   ·simp only[zU,seval,L1,L2,L3,L4,M1,M2,M3,M4,qe3,@qag ((k:Int)+1) (by omega)]
    try rfl
   ·show[_,_,_,_,_,_,qbs _ _ (.map none (qb7 (val (decide (0<t.threads.length)) 7 t.threads.length) (val (decide (0<t.slices.length)) 8 t.slices.length) (val true 12 _) (val false 10 0))),_,_,_,_]=_
    rw[qjo _ _ _ _ _ _ _ _ rfl rfl rfl rfl];rfl
 have:k=t.blocks.length:=by omega
 subst this
 rw[Qap]
 simp only[zU,seval,L1,L2,L3,L4,M1,M2,M3,M4,qe3,qgi,(show ¬(t.blocks.length:Int)<t.blocks.length by omega),List.take_length]
 refine qap t.steps.length (fun k=>[(1,.ptr 5 0),(3,.mapr 6),(74,.osl 3 0 t.steps.length),(75,.d (.int .i64 t.steps.length)),(76,.d (.int .i64 k))])
  (fun k=>[.arr 3 (t.threads.map qai.toD),.arr 8 (t.slices.map qae.toD),.arr 4 (t.samples.map qam.toD),.arr 3 (t.steps.map qa7.toD),.arr 7 (t.blocks.map qaw.toD),.box 10 (qgi t),.map none (qb7 (val (decide (0<t.threads.length)) 7 t.threads.length) (val (decide (0<t.slices.length)) 8 t.slices.length) (val (decide (0<t.samples.length+t.blocks.length)) 9 (frN t).length) (val (decide (0<k)) 10 k)),.arr 1 ((t.threads.map (·.name)).map .str),.arr 1 ((t.slices.map (·.name)).map .str),.arr 1 ((frN t).map .str),.arr 1 (((t.steps.take k).map (·.name)).map .str)]) (fun _=>True) trivial ?_ ?_
 ·refine qaa [] [0,1,2,3,4,5,6,7,8,9,10] rfl (by simp) ?_ ?_
  ·simp only[zU,seval,L1,L2,L3,L4,M1,M2,M3,M4,qe3]
   try rfl
  ·show[_,_,_,_,_,_,qbs _ _ (.map none (qb7 (val (decide (0<t.threads.length)) 7 t.threads.length) (val (decide (0<t.slices.length)) 8 t.slices.length) (val (decide (0<t.samples.length+t.blocks.length)) 9 (frN t).length) (val (decide (0<0)) 10 0))),_,_,_,_]=_
   rw[qjo _ _ _ _ _ _ _ _ rfl rfl rfl rfl];rfl
 intro k _ hk
 by_cases h:k<t.steps.length
 ·obtain⟨x,hx⟩:∃x,x=t.steps.getD k default:=⟨_,rfl⟩
  have eg:(t.steps.map qa7.toD).getD k default=x.toD:=by rw[qaj _ _ _ h,←hx]
  have ht:t.steps.take (k+1)=t.steps.take k++[x]:=by rw[qa0 _ k h,←hx]
  obtain⟨p,hp⟩:∃p,p=(decide (0<k)):=⟨_,rfl⟩
  rw[←hp]
  rw[ht,show(decide (0<k+1))=true from decide_eq_true (by omega),List.map_append,List.map_append]
  skip
  cases p with
  | false=>
   have hk0:k=0:=by simpa using hp
   subst hk0
   simp only[zU,seval,L1,L2,L3,L4,M1,M2,M3,M4,qe3,(show(0:Int)<t.steps.length by omega),h,eg,qh0,qh1,Option.getD_some,Option.getD_none]
   repeat((with_reducible apply aI);exact sdp)
   refine qaa [] [0,1,2,3,4,5,6,7,8,9,13] rfl (by simp) ?_ ?_
   ·simp only[zU,seval,L1,L2,L3,L4,M1,M2,M3,M4,qe3,@qag ((1:Int)) (by omega)]
    try rfl
   ·show[_,_,_,_,_,_,qbs _ _ (.map none (qb7 (val (decide (0<t.threads.length)) 7 t.threads.length) (val (decide (0<t.slices.length)) 8 t.slices.length) (val (decide (0<t.samples.length+t.blocks.length)) 9 (frN t).length) (val true 13 1))),_,_,_,_]=_
    rw[qjo _ _ _ _ _ _ _ _ rfl rfl rfl rfl];rfl
  | true=>
   simp only[zU,seval,L1,L2,L3,L4,M1,M2,M3,M4,qe3,(show(k:Int)<t.steps.length by omega),h,eg,qh0,qh1,Option.getD_some,Option.getD_none,qbe]
   repeat((with_reducible apply aI);exact sdp)
   rw[show List.take k (((t.steps.take k).map (·.name)).map D.str)=((t.steps.take k).map (·.name)).map D.str from List.take_of_length_le (by simp only[List.length_map,List.length_take];omega)]
   refine qaa [] [0,1,2,3,4,5,6,7,8,9,13] rfl (by simp) ?_ ?_
   ·simp only[zU,seval,L1,L2,L3,L4,M1,M2,M3,M4,qe3,@qag ((k:Int)+1) (by omega)]
    try rfl
   ·show[_,_,_,_,_,_,qbs _ _ (.map none (qb7 (val (decide (0<t.threads.length)) 7 t.threads.length) (val (decide (0<t.slices.length)) 8 t.slices.length) (val (decide (0<t.samples.length+t.blocks.length)) 9 (frN t).length) (val true 13 (k+1)))),_,_,_,_]=_
    rw[qjo _ _ _ _ _ _ _ _ rfl rfl rfl rfl];rfl
 have:k=t.steps.length:=by omega
 subst this
 simp only[zU,seval,L1,L2,L3,L4,M1,M2,M3,M4,qe3,qgi,(show ¬(t.steps.length:Int)<t.steps.length by omega),List.take_length]
 refine⟨_,_,qah [] [0,1,2,3,4,6,7,8,9,10] rfl (by simp) rfl (?_:qdy _ _=[.arr 3 (t.threads.map qai.toD),.arr 8 (t.slices.map qae.toD),.arr 4 (t.samples.map qam.toD),.arr 3 (t.steps.map qa7.toD),.arr 7 (t.blocks.map qaw.toD),.map none (qb7 (val (decide (0<t.threads.length)) 6 t.threads.length) (val (decide (0<t.slices.length)) 7 t.slices.length) (val (decide (0<t.samples.length+t.blocks.length)) 8 (frN t).length) (val (decide (0<t.steps.length)) 9 t.steps.length)),.arr 1 ((t.threads.map (·.name)).map .str),.arr 1 ((t.slices.map (·.name)).map .str),.arr 1 ((frN t).map .str),.arr 1 ((t.steps.map (·.name)).map .str)]),rfl,rfl⟩
 show[_,_,_,_,_,qbs _ _ (.map none (qb7 (val (decide (0<t.threads.length)) 7 t.threads.length) (val (decide (0<t.slices.length)) 8 t.slices.length) (val (decide (0<t.samples.length+t.blocks.length)) 9 (frN t).length) (val (decide (0<t.steps.length)) 10 t.steps.length))),_,_,_,_]=_
 rw[qjo _ _ _ _ _ _ _ _ rfl rfl rfl rfl];rfl
theorem Qpt (t:qat) (ht:t.lim) (hs:t.limS):qal prog Gl 44 [.d t.toD] []
  (fun r s=>r=.mapr 0∧s=[.map none (qb7 (val (decide (0<t.threads.length)) 1 t.threads.length) (val (decide (0<t.slices.length)) 2 t.slices.length) (val (decide (0<t.samples.length+t.blocks.length)) 3 (frN t).length) (val (decide (0<t.steps.length)) 4 t.steps.length)),
   .arr 1 ((t.threads.map (·.name)).map .str),.arr 1 ((t.slices.map (·.name)).map .str),.arr 1 ((frN t).map .str),.arr 1 ((t.steps.map (·.name)).map .str)]):=by
 obtain⟨h1,h2,h3,h4,h5,h6,h7,h8⟩:=ht
 refine qac func44 rfl rfl (by simp[ntmps44]) (qab rfl _ _ _ _ ?_)
 simp only[ntmps44,results44,qak,List.length_nil]
 simp only[zU,seval,L1,L2,L3,L4,M1,M2,M3,M4,qe3,qgi]
 refine qap t.threads.length (fun k=>[(1,.ptr 0 0),(3,.mapr 1),(16,.d (.sl (t.threads.map qai.toD))),(17,.d (.int .i64 t.threads.length)),(18,.d (.int .i64 k))])
  (fun k=>[.box 10 (.d t.toD),.map none (qb7 (val (decide (0<k)) 2 k) (val false 3 0) (val false 4 0) (val false 5 0)),.arr 1 (((t.threads.take k).map (·.name)).map .str),.arr 1 (([]:List (List UInt8)).map .str),.arr 1 (([]:List (List UInt8)).map .str),.arr 1 (([]:List (List UInt8)).map .str)]) (fun _=>True) trivial ?_ ?_
 ·refine(qe1 1 (by simp)).trans ((qe1 1 (by simp)).trans ((qe1 1 (by simp)).trans ((qe1 1 (by simp)).trans ?_)))
  refine qaa [] [0,1,2,3,4,5] rfl (by simp) ?_ ?_
  ·simp only[zU,seval,L1,L2,L3,L4,M1,M2,M3,M4,qe3]
   try rfl
  ·rw[qwe]
   show[_,qbs _ _ (.map none (qb7 (val false 2 0) (val false 3 0) (val false 4 0) (val false 5 0))),_,_,_,_]=_
   rw[qjo _ _ _ _ _ _ _ _ rfl rfl rfl rfl];rfl
 intro k _ hk
 by_cases h:k<t.threads.length
 ·obtain⟨x,hx⟩:∃x,x=t.threads.getD k default:=⟨_,rfl⟩
  have eg:(t.threads.map qai.toD).getD k default=x.toD:=by rw[qaj _ _ _ h,←hx]
  have ht:t.threads.take (k+1)=t.threads.take k++[x]:=by rw[qa0 _ k h,←hx]
  obtain⟨p,hp⟩:∃p,p=(decide (0<k)):=⟨_,rfl⟩
  rw[←hp]
  rw[ht,show(decide (0<k+1))=true from decide_eq_true (by omega),List.map_append,List.map_append]
  skip
  cases p with
  | false=>
   have hk0:k=0:=by simpa using hp
   subst hk0
   simp only[zU,seval,L1,L2,L3,L4,M1,M2,M3,M4,qe3,(show(0:Int)<t.threads.length by omega),h,eg,qh0,qh1,Option.getD_some,Option.getD_none]
   repeat((with_reducible apply aI);exact sdp)
   refine qaa [] [0,1,8,3,4,5] rfl (by simp) ?_ ?_
   ·simp only[zU,seval,L1,L2,L3,L4,M1,M2,M3,M4,qe3,@qag ((1:Int)) (by omega)]
    try rfl
   ·show[_,qbs _ _ (.map none (qb7 (val true 8 1) (val false 3 0) (val false 4 0) (val false 5 0))),_,_,_,_]=_
    rw[qjo _ _ _ _ _ _ _ _ rfl rfl rfl rfl];rfl
  | true=>
   simp only[zU,seval,L1,L2,L3,L4,M1,M2,M3,M4,qe3,(show(k:Int)<t.threads.length by omega),h,eg,qh0,qh1,Option.getD_some,Option.getD_none,qbe]
   repeat((with_reducible apply aI);exact sdp)
   rw[show List.take k (((t.threads.take k).map (·.name)).map D.str)=((t.threads.take k).map (·.name)).map D.str from List.take_of_length_le (by simp only[List.length_map,List.length_take];omega)]
   refine qaa [] [0,1,8,3,4,5] rfl (by simp) ?_ ?_
   ·simp only[zU,seval,L1,L2,L3,L4,M1,M2,M3,M4,qe3,@qag ((k:Int)+1) (by omega)]
    try rfl
   ·show[_,qbs _ _ (.map none (qb7 (val true 8 (k+1)) (val false 3 0) (val false 4 0) (val false 5 0))),_,_,_,_]=_
    rw[qjo _ _ _ _ _ _ _ _ rfl rfl rfl rfl];rfl
 have:k=t.threads.length:=by omega
 subst this
 simp only[zU,seval,L1,L2,L3,L4,M1,M2,M3,M4,qe3,qgi,(show ¬(t.threads.length:Int)<t.threads.length by omega),List.take_length]
 refine qap t.slices.length (fun k=>[(1,.ptr 0 0),(3,.mapr 1),(31,.d (.sl (t.slices.map qae.toD))),(32,.d (.int .i64 t.slices.length)),(33,.d (.int .i64 k))])
  (fun k=>[.box 10 (.d t.toD),.map none (qb7 (val (decide (0<t.threads.length)) 2 t.threads.length) (val (decide (0<k)) 3 k) (val false 4 0) (val false 5 0)),.arr 1 ((t.threads.map (·.name)).map .str),.arr 1 (((t.slices.take k).map (·.name)).map .str),.arr 1 (([]:List (List UInt8)).map .str),.arr 1 (([]:List (List UInt8)).map .str)]) (fun _=>True) trivial ?_ ?_
 ·refine qaa [] [0,1,2,3,4,5] rfl (by simp) ?_ ?_
  ·simp only[zU,seval,L1,L2,L3,L4,M1,M2,M3,M4,qe3]
   try rfl
  ·show[_,qbs _ _ (.map none (qb7 (val (decide (0<t.threads.length)) 2 t.threads.length) (val (decide (0<0)) 3 0) (val false 4 0) (val false 5 0))),_,_,_,_]=_
   rw[qjo _ _ _ _ _ _ _ _ rfl rfl rfl rfl];rfl
 intro k _ hk
 by_cases h:k<t.slices.length
 ·obtain⟨x,hx⟩:∃x,x=t.slices.getD k default:=⟨_,rfl⟩
  have eg:(t.slices.map qae.toD).getD k default=x.toD:=by rw[qaj _ _ _ h,←hx]
  have ht:t.slices.take (k+1)=t.slices.take k++[x]:=by rw[qa0 _ k h,←hx]
  obtain⟨p,hp⟩:∃p,p=(decide (0<k)):=⟨_,rfl⟩
  rw[←hp]
  rw[ht,show(decide (0<k+1))=true from decide_eq_true (by omega),List.map_append,List.map_append]
  skip
  cases p with
  | false=>
   have hk0:k=0:=by simpa using hp
   subst hk0
   simp only[zU,seval,L1,L2,L3,L4,M1,M2,M3,M4,qe3,(show(0:Int)<t.slices.length by omega),h,eg,qh0,qh1,Option.getD_some,Option.getD_none]
   repeat((with_reducible apply aI);exact sdp)
   refine qaa [] [0,1,2,8,4,5] rfl (by simp) ?_ ?_
   ·simp only[zU,seval,L1,L2,L3,L4,M1,M2,M3,M4,qe3,@qag ((1:Int)) (by omega)]
    try rfl
   ·show[_,qbs _ _ (.map none (qb7 (val (decide (0<t.threads.length)) 2 t.threads.length) (val true 8 1) (val false 4 0) (val false 5 0))),_,_,_,_]=_
    rw[qjo _ _ _ _ _ _ _ _ rfl rfl rfl rfl];rfl
  | true=>
   simp only[zU,seval,L1,L2,L3,L4,M1,M2,M3,M4,qe3,(show(k:Int)<t.slices.length by omega),h,eg,qh0,qh1,Option.getD_some,Option.getD_none,qbe]
   repeat((with_reducible apply aI);exact sdp)
   rw[show List.take k (((t.slices.take k).map (·.name)).map D.str)=((t.slices.take k).map (·.name)).map D.str from List.take_of_length_le (by simp only[List.length_map,List.length_take];omega)]
   refine qaa [] [0,1,2,8,4,5] rfl (by simp) ?_ ?_
   ·simp only[zU,seval,L1,L2,L3,L4,M1,M2,M3,M4,qe3,@qag ((k:Int)+1) (by omega)]
    try rfl
   ·show[_,qbs _ _ (.map none (qb7 (val (decide (0<t.threads.length)) 2 t.threads.length) (val true 8 (k+1)) (val false 4 0) (val false 5 0))),_,_,_,_]=_
    rw[qjo _ _ _ _ _ _ _ _ rfl rfl rfl rfl];rfl
 have:k=t.slices.length:=by omega
 subst this
 simp only[zU,seval,L1,L2,L3,L4,M1,M2,M3,M4,qe3,qgi,(show ¬(t.slices.length:Int)<t.slices.length by omega),List.take_length]
 refine qap t.samples.length (fun k=>[(1,.ptr 0 0),(3,.mapr 1),(46,.d (.sl (t.samples.map qam.toD))),(47,.d (.int .i64 t.samples.length)),(48,.d (.int .i64 k))])
  (fun k=>[.box 10 (.d t.toD),.map none (qb7 (val (decide (0<t.threads.length)) 2 t.threads.length) (val (decide (0<t.slices.length)) 3 t.slices.length) (val (decide (0<k)) 4 (((t.samples.take k).map (·.stack)).flatten).length) (val false 5 0)),.arr 1 ((t.threads.map (·.name)).map .str),.arr 1 ((t.slices.map (·.name)).map .str),.arr 1 (((t.samples.take k).map (·.stack)).flatten.map .str),.arr 1 (([]:List (List UInt8)).map .str)]) (fun _=>True) trivial ?_ ?_
 ·refine qaa [] [0,1,2,3,4,5] rfl (by simp) ?_ ?_
  ·simp only[zU,seval,L1,L2,L3,L4,M1,M2,M3,M4,qe3]
   try rfl
  ·show[_,qbs _ _ (.map none (qb7 (val (decide (0<t.threads.length)) 2 t.threads.length) (val (decide (0<t.slices.length)) 3 t.slices.length) (val (decide (0<0)) 4 0) (val false 5 0))),_,_,_,_]=_
   rw[qjo _ _ _ _ _ _ _ _ rfl rfl rfl rfl];rfl
 intro k _ hk
 by_cases h:k<t.samples.length
 ·obtain⟨x,hx⟩:∃x,x=t.samples.getD k default:=⟨_,rfl⟩
  have eg:(t.samples.map qam.toD).getD k default=x.toD:=by rw[qaj _ _ _ h,←hx]
  have ht:t.samples.take (k+1)=t.samples.take k++[x]:=by rw[qa0 _ k h,←hx]
  obtain⟨p,hp⟩:∃p,p=(decide (0<k)):=⟨_,rfl⟩
  rw[←hp]
  rw[ht,show(decide (0<k+1))=true from decide_eq_true (by omega),List.map_append,List.flatten_append,Qmt,List.map_append]
  have hsx:=hs.1 x (by rw[hx];exact qbh h)
  have hA:=Qql (l:=t.samples.take k) fun y hy=>hs.1 y (List.mem_of_mem_take hy)
  rw[List.length_take] at hA
  cases p with
  | false=>
   have hk0:k=0:=by simpa using hp
   subst hk0
   rw[Qtr,List.map_nil,List.nil_append]
   simp only[zU,seval,L1,L2,L3,L4,M1,M2,M3,M4,qe3,(show(0:Int)<t.samples.length by omega),h,eg,qh0,qh1,Option.getD_some,Option.getD_none]
   repeat((with_reducible apply aI);exact sdp)
   refine qaa [] [0,1,2,3,7,5] rfl (by simp) ?_ ?_
   ·simp only[zU,seval,L1,L2,L3,L4,M1,M2,M3,M4,qe3,@qag ((1:Int)) (by omega)]
    try rfl
   ·show[_,qbs _ _ (.map none (qb7 (val (decide (0<t.threads.length)) 2 t.threads.length) (val (decide (0<t.slices.length)) 3 t.slices.length) (val true 7 _) (val false 5 0))),_,_,_,_]=_
    rw[qjo _ _ _ _ _ _ _ _ rfl rfl rfl rfl];rfl
  | true=>
   simp only[zU,seval,L1,L2,L3,L4,M1,M2,M3,M4,qe3,(show(k:Int)<t.samples.length by omega),h,eg,qh0,qh1,Option.getD_some,Option.getD_none,qbe]
   repeat((with_reducible apply aI);exact sdp)
   refine qaa [] [0,1,2,3,7,5] rfl (by simp) ?_ ?_
   ·simp only[zU,seval,L1,L2,L3,L4,M1,M2,M3,M4,qe3,@qag ((k:Int)+1) (by omega)]
    try rfl
   ·show[_,qbs _ _ (.map none (qb7 (val (decide (0<t.threads.length)) 2 t.threads.length) (val (decide (0<t.slices.length)) 3 t.slices.length) (val true 7 _) (val false 5 0))),_,_,_,_]=_
    rw[qjo _ _ _ _ _ _ _ _ rfl rfl rfl rfl];rfl
 have:k=t.samples.length:=by omega
 subst this
 simp only[zU,seval,L1,L2,L3,L4,M1,M2,M3,M4,qe3,qgi,(show ¬(t.samples.length:Int)<t.samples.length by omega),List.take_length]
 refine qap t.blocks.length (fun k=>[(1,.ptr 0 0),(3,.mapr 1),(60,.d (.sl (t.blocks.map qaw.toD))),(61,.d (.int .i64 t.blocks.length)),(62,.d (.int .i64 k))])
  (fun k=>[.box 10 (.d t.toD),.map none (qb7 (val (decide (0<t.threads.length)) 2 t.threads.length) (val (decide (0<t.slices.length)) 3 t.slices.length) (val (decide (0<t.samples.length+k)) 4 (frK t k).length) (val false 5 0)),.arr 1 ((t.threads.map (·.name)).map .str),.arr 1 ((t.slices.map (·.name)).map .str),.arr 1 ((frK t k).map .str),.arr 1 (([]:List (List UInt8)).map .str)]) (fun _=>True) trivial ?_ ?_
 ·refine qaa [] [0,1,2,3,4,5] rfl (by simp) ?_ ?_
  ·simp only[zU,seval,L1,L2,L3,L4,M1,M2,M3,M4,qe3]
   try rfl
  ·rw[qlg]
   show[_,qbs _ _ (.map none (qb7 (val (decide (0<t.threads.length)) 2 t.threads.length) (val (decide (0<t.slices.length)) 3 t.slices.length) (val (decide (0<t.samples.length+0)) 4 ((t.samples.map (·.stack)).flatten).length) (val false 5 0))),_,_,_,_]=_
   rw[qjo _ _ _ _ _ _ _ _ rfl rfl rfl rfl];rfl
 intro k _ hk
 by_cases h:k<t.blocks.length
 ·obtain⟨x,hx⟩:∃x,x=t.blocks.getD k default:=⟨_,rfl⟩
  have eg:(t.blocks.map qaw.toD).getD k default=x.toD:=by rw[qaj _ _ _ h,←hx]
  have ht:t.blocks.take (k+1)=t.blocks.take k++[x]:=by rw[qa0 _ k h,←hx]
  obtain⟨p,hp⟩:∃p,p=(decide (0<t.samples.length+k)):=⟨_,rfl⟩
  rw[←hp]
  rw[show(decide (0<t.samples.length+(k+1)))=true from decide_eq_true (by omega),q35 ht,List.map_append]
  have hsx:=hs.2 x (by rw[hx];exact qbh h)
  have hA:=Qmr hs k
  cases p with
  | false=>
   have hp2:¬0<t.samples.length+k:=by intro hq;rw[decide_eq_true hq] at hp;cases hp
   have hk0:t.samples.length=0∧k=0:=by omega
   obtain⟨hk1,rfl⟩:=hk0
   have e0:frK t 0=[]:=by rw[qlg,List.eq_nil_of_length_eq_zero hk1];simp
   rw[e0,List.map_nil,List.nil_append]
   simp only[zU,seval,L1,L2,L3,L4,M1,M2,M3,M4,qe3,(show(0:Int)<t.blocks.length by omega),h,eg,qh0,qh1,Option.getD_some,Option.getD_none]
   repeat((with_reducible apply aI);exact sdp)
   refine qaa [] [0,1,2,3,7,5] rfl (by simp) ?_ ?_
   ·simp only[zU,seval,L1,L2,L3,L4,M1,M2,M3,M4,qe3,@qag ((1:Int)) (by omega)]
    try rfl
   ·show[_,qbs _ _ (.map none (qb7 (val (decide (0<t.threads.length)) 2 t.threads.length) (val (decide (0<t.slices.length)) 3 t.slices.length) (val true 7 _) (val false 5 0))),_,_,_,_]=_
    rw[qjo _ _ _ _ _ _ _ _ rfl rfl rfl rfl];rfl
  | true=>
   simp only[zU,seval,L1,L2,L3,L4,M1,M2,M3,M4,qe3,(show(k:Int)<t.blocks.length by omega),h,eg,qh0,qh1,Option.getD_some,Option.getD_none,qbe]
   repeat((with_reducible apply aI);exact sdp)
   refine qaa [] [0,1,2,3,7,5] rfl (by simp) ?_ ?_
   ·simp only[zU,seval,L1,L2,L3,L4,M1,M2,M3,M4,qe3,@qag ((k:Int)+1) (by omega)]
    try rfl
   ·show[_,qbs _ _ (.map none (qb7 (val (decide (0<t.threads.length)) 2 t.threads.length) (val (decide (0<t.slices.length)) 3 t.slices.length) (val true 7 _) (val false 5 0))),_,_,_,_]=_
    rw[qjo _ _ _ _ _ _ _ _ rfl rfl rfl rfl];rfl
 have:k=t.blocks.length:=by omega
 subst this
 rw[Qap]
 simp only[zU,seval,L1,L2,L3,L4,M1,M2,M3,M4,qe3,qgi,(show ¬(t.blocks.length:Int)<t.blocks.length by omega),List.take_length]
 refine qap t.steps.length (fun k=>[(1,.ptr 0 0),(3,.mapr 1),(74,.d (.sl (t.steps.map qa7.toD))),(75,.d (.int .i64 t.steps.length)),(76,.d (.int .i64 k))])
  (fun k=>[.box 10 (.d t.toD),.map none (qb7 (val (decide (0<t.threads.length)) 2 t.threads.length) (val (decide (0<t.slices.length)) 3 t.slices.length) (val (decide (0<t.samples.length+t.blocks.length)) 4 (frN t).length) (val (decide (0<k)) 5 k)),.arr 1 ((t.threads.map (·.name)).map .str),.arr 1 ((t.slices.map (·.name)).map .str),.arr 1 ((frN t).map .str),.arr 1 (((t.steps.take k).map (·.name)).map .str)]) (fun _=>True) trivial ?_ ?_
 ·refine qaa [] [0,1,2,3,4,5] rfl (by simp) ?_ ?_
  ·simp only[zU,seval,L1,L2,L3,L4,M1,M2,M3,M4,qe3]
   try rfl
  ·show[_,qbs _ _ (.map none (qb7 (val (decide (0<t.threads.length)) 2 t.threads.length) (val (decide (0<t.slices.length)) 3 t.slices.length) (val (decide (0<t.samples.length+t.blocks.length)) 4 (frN t).length) (val (decide (0<0)) 5 0))),_,_,_,_]=_
   rw[qjo _ _ _ _ _ _ _ _ rfl rfl rfl rfl];rfl
 intro k _ hk
 by_cases h:k<t.steps.length
 ·obtain⟨x,hx⟩:∃x,x=t.steps.getD k default:=⟨_,rfl⟩
  have eg:(t.steps.map qa7.toD).getD k default=x.toD:=by rw[qaj _ _ _ h,←hx]
  have ht:t.steps.take (k+1)=t.steps.take k++[x]:=by rw[qa0 _ k h,←hx]
  obtain⟨p,hp⟩:∃p,p=(decide (0<k)):=⟨_,rfl⟩
  rw[←hp]
  rw[ht,show(decide (0<k+1))=true from decide_eq_true (by omega),List.map_append,List.map_append]
  skip
  cases p with
  | false=>
   have hk0:k=0:=by simpa using hp
   subst hk0
   simp only[zU,seval,L1,L2,L3,L4,M1,M2,M3,M4,qe3,(show(0:Int)<t.steps.length by omega),h,eg,qh0,qh1,Option.getD_some,Option.getD_none]
   repeat((with_reducible apply aI);exact sdp)
   refine qaa [] [0,1,2,3,4,8] rfl (by simp) ?_ ?_
   ·simp only[zU,seval,L1,L2,L3,L4,M1,M2,M3,M4,qe3,@qag ((1:Int)) (by omega)]
    try rfl
   ·show[_,qbs _ _ (.map none (qb7 (val (decide (0<t.threads.length)) 2 t.threads.length) (val (decide (0<t.slices.length)) 3 t.slices.length) (val (decide (0<t.samples.length+t.blocks.length)) 4 (frN t).length) (val true 8 1))),_,_,_,_]=_
    rw[qjo _ _ _ _ _ _ _ _ rfl rfl rfl rfl];rfl
  | true=>
   simp only[zU,seval,L1,L2,L3,L4,M1,M2,M3,M4,qe3,(show(k:Int)<t.steps.length by omega),h,eg,qh0,qh1,Option.getD_some,Option.getD_none,qbe]
   repeat((with_reducible apply aI);exact sdp)
   rw[show List.take k (((t.steps.take k).map (·.name)).map D.str)=((t.steps.take k).map (·.name)).map D.str from List.take_of_length_le (by simp only[List.length_map,List.length_take];omega)]
   refine qaa [] [0,1,2,3,4,8] rfl (by simp) ?_ ?_
   ·simp only[zU,seval,L1,L2,L3,L4,M1,M2,M3,M4,qe3,@qag ((k:Int)+1) (by omega)]
    try rfl
   ·show[_,qbs _ _ (.map none (qb7 (val (decide (0<t.threads.length)) 2 t.threads.length) (val (decide (0<t.slices.length)) 3 t.slices.length) (val (decide (0<t.samples.length+t.blocks.length)) 4 (frN t).length) (val true 8 (k+1)))),_,_,_,_]=_
    rw[qjo _ _ _ _ _ _ _ _ rfl rfl rfl rfl];rfl
 have:k=t.steps.length:=by omega
 subst this
 simp only[zU,seval,L1,L2,L3,L4,M1,M2,M3,M4,qe3,qgi,(show ¬(t.steps.length:Int)<t.steps.length by omega),List.take_length]
 refine⟨_,_,qah [] [1,2,3,4,5] rfl (by simp) rfl (?_:qdy _ _=[.map none (qb7 (val (decide (0<t.threads.length)) 1 t.threads.length) (val (decide (0<t.slices.length)) 2 t.slices.length) (val (decide (0<t.samples.length+t.blocks.length)) 3 (frN t).length) (val (decide (0<t.steps.length)) 4 t.steps.length)),.arr 1 ((t.threads.map (·.name)).map .str),.arr 1 ((t.slices.map (·.name)).map .str),.arr 1 ((frN t).map .str),.arr 1 ((t.steps.map (·.name)).map .str)]),rfl,rfl⟩
 show[qbs _ _ (.map none (qb7 (val (decide (0<t.threads.length)) 2 t.threads.length) (val (decide (0<t.slices.length)) 3 t.slices.length) (val (decide (0<t.samples.length+t.blocks.length)) 4 (frN t).length) (val (decide (0<t.steps.length)) 5 t.steps.length))),_,_,_,_]=_
 rw[qjo _ _ _ _ _ _ _ _ rfl rfl rfl rfl];rfl

theorem Qnh (a b:Int):qm3 b a=-qm3 a b:=by
 rcases qfx a b with h|h|h<;>rcases qfx b a with g|g|g<;>omega
theorem q8z (a b:List UInt8):q80 b a=-q80 a b:=by
 rcases qdv a b with⟨h1,h2,h3,h4⟩|⟨h1,h2,h3,h4⟩|⟨h1,h2,h3,h4⟩
 ·rcases qdv b a with⟨g1,_,_,_⟩|⟨_,g2,_,_⟩|⟨_,_,_,g4⟩
  ·rw[h3] at g1;cases g1
  ·exact absurd g2.symm h2
  ·omega
 ·subst h2;omega
 ·rcases qdv b a with⟨_,_,_,g4⟩|⟨_,g2,_,_⟩|⟨g1,_,_,_⟩
  ·omega
  ·exact absurd g2.symm h2
  ·rw[h3] at g1;cases g1
theorem Qqy {a b:Int}:qm3 a b≤0↔a≤b:=by
 rcases qfx a b with h|h|h<;>omega
structure Pre {α:Type} (c:α→α→Int):Prop where
 self:∀a,c a a=0
 anti:∀a b,c b a=-c a b
 trans:∀a b d,c a b≤0→c b d≤0→c a d≤0
theorem Pre.strict {α:Type} {c:α→α→Int} (h:Pre c) {a b d:α} (h1:c a b≤0) (h2:c b d≤0) (h3:c a b<0∨c b d<0):c a d<0:=by
 have h4:=h.trans a b d h1 h2
 rcases Int.lt_or_le (c a d) 0 with h5|h5
 ·exact h5
 exfalso
 have h6:c d a≤0:=by rw[h.anti a d];omega
 rcases h3 with h3|h3
 ·have:=h.trans b d a h2 h6
  rw[h.anti a b] at this;omega
 ·have:=h.trans d a b h6 h1
  rw[h.anti b d] at this;omega
theorem Pre.lex {α:Type} {f c:α→α→Int} (hf:Pre f) (hc:Pre c):Pre (fun a b=>if f a b=0 then c a b else f a b):=by
 refine⟨fun a=>?_,fun a b=>?_,fun a b d h1 h2=>?_⟩
 ·simp only[hf.self,hc.self,if_true]
 ·rw[hf.anti a b,hc.anti a b]
  by_cases e:f a b=0
  ·rw[if_pos (by omega),if_pos e]
  ·rw[if_neg (by omega),if_neg e]
 ·by_cases e1:f a b=0
  ·rw[if_pos e1] at h1
   by_cases e2:f b d=0
   ·rw[if_pos e2] at h2
    have q1:=hf.trans a b d (by omega) (by omega)
    have q2:=hf.trans d b a (by rw[hf.anti b d];omega) (by rw[hf.anti a b];omega)
    rw[hf.anti a d] at q2
    rw[if_pos (by omega)]
    exact hc.trans a b d h1 h2
   ·rw[if_neg e2] at h2
    have:=hf.strict (a:=a) (b:=b) (d:=d) (by omega) h2 (.inr (by omega))
    rw[if_neg (by omega)];omega
  ·rw[if_neg e1] at h1
   have h3:f b d≤0:=by
    by_cases e2:f b d=0
    ·omega
    ·rw[if_neg e2] at h2;exact h2
   have:=hf.strict (a:=a) (b:=b) (d:=d) h1 h3 (.inl (by omega))
   rw[if_neg (by omega)];omega
theorem Pre.zero {α:Type}:Pre (fun _ _:α=>(0:Int)):=⟨fun _=>rfl,fun _ _=>rfl,fun _ _ _ _ _=>Int.le_refl 0⟩
theorem Pre.comap {α β:Type} {c:α→α→Int} (h:Pre c) (g:β→α):Pre (fun a b=>c (g a) (g b)):=⟨fun a=>h.self _,fun a b=>h.anti _ _,fun a b d=>h.trans _ _ _⟩
theorem Pre.flip {α:Type} {c:α→α→Int} (h:Pre c):Pre (fun a b=>c b a):=⟨fun a=>h.self _,fun a b=>h.anti _ _,fun a b d h1 h2=>h.trans _ _ _ h2 h1⟩
theorem q23:Pre qm3:=⟨fun a=>by rcases qfx a a with⟨h,_⟩|⟨_,h⟩|⟨h,_⟩<;>omega,Qnh,fun a b d h1 h2=>by rw[Qqy] at *;omega⟩
theorem Qj4:Pre q80:=by
 refine⟨fun a=>?_,q8z,fun a b d h1 h2=>?_⟩
 ·rcases qdv a a with⟨_,h,_⟩|⟨_,_,_,h⟩|⟨_,h,_⟩
  ·exact absurd rfl h
  ·exact h
  ·exact absurd rfl h
 ·rcases qdv a b with⟨a1,a2,a3,a4⟩|⟨a1,a2,a3,a4⟩|⟨a1,a2,a3,a4⟩
  ·rcases qdv b d with⟨b1,b2,b3,b4⟩|⟨b1,b2,b3,b4⟩|⟨b1,b2,b3,b4⟩
   ·have:=q4g a1 b1
    rcases qdv a d with⟨c1,c2,c3,c4⟩|⟨c1,c2,c3,c4⟩|⟨c1,c2,c3,c4⟩
    ·omega
    ·omega
    ·rw[show ltS a d=true from this] at c1;cases c1
   ·subst b2;exact h1
   ·omega
  ·subst a2;exact h2
  ·omega
theorem qev:Pre qcf:=by
 have h:=(Qj4.comap (fun x:qa7=>x.name)).lex (q23.comap (fun x:qa7=>x.at_))
 exact h
def unT (d:D):qa7:=match d with|.agg [.str n,.int _ a,.int _ v]=>⟨n,a,v⟩|_=>default
def DmT (d:D):Prop:=∃x:qa7,d=x.toD
def Qzn (a b:D):Int:=qcf (unT a) (unT b)
theorem Q0i:Swo DmT (fun x y=>decide (Qzn x y<0)):=by
 refine⟨fun x _=>?_,fun x y z _ _ _ h1 h2=>?_,fun x y z _ _ _ h1 h2=>?_⟩
 ·rw[Qzn,qev.self];rfl
 ·have h1:qcf (unT x) (unT y)<0:=of_decide_eq_true h1
  have h2:qcf (unT y) (unT z)<0:=of_decide_eq_true h2
  exact decide_eq_true (show qcf (unT x) (unT z)<0 from qev.strict (by omega) (by omega) (.inl h1))
 ·have h1:¬qcf (unT x) (unT y)<0:=of_decide_eq_false h1
  have h2:¬qcf (unT y) (unT z)<0:=of_decide_eq_false h2
  refine decide_eq_false (show ¬qcf (unT x) (unT z)<0 from ?_)
  have a1:=qev.anti (unT x) (unT y)
  have a2:=qev.anti (unT y) (unT z)
  have a3:=qev.anti (unT x) (unT z)
  have:=qev.trans (unT z) (unT y) (unT x) (by omega) (by omega)
  omega
theorem Qla (a b:qa7):qbc prog Gl 86 [.d a.toD,.d b.toD] (.d (.int .i64 (qcf a b))):=by
 refine qbc.of2 ?_
 refine qac func86 rfl rfl (by simp[ntmps86]) (qab rfl _ _ _ _ ?_)
 simp only[ntmps86,results86,qak,List.length_nil]
 simp only[zU,seval]
 refine⟨.inl (by kernel_rfl),qaf (q1u _ _) ?_⟩
 simp only[zU,seval]
 refine qaf (qks _ _) ?_
 simp only[zU,seval]
 repeat((with_reducible apply aI);exact sdp)
 refine qk1 2 (fun B hB=>Qz0 [q80 a.name b.name,qm3 a.at_ b.at_] (by simp) B hB) (fun _=>rfl) rfl ?_
 rw[Qkb]
 simp only[zU,seval]
 exact⟨_,_,qaq,rfl,rfl⟩
theorem Qy8:Qbm Gl [] DmT Qzn 86 []:=by
 refine⟨fun d hd=>?_,fun a b ha hb ys s hs=>?_,Q0i⟩
 ·obtain⟨x,rfl⟩:=hd
  exact⟨rfl,rfl⟩
 ·obtain⟨x,rfl⟩:=ha
  obtain⟨y,rfl⟩:=hb
  exact Qla x y s
def ltT (a b:qa7):Bool:=decide (qcf a b<0)
theorem q93 (l:List qa7) (hl:l.length<1000000):qal prog Gl 85 [.osl 0 0 l.length,.fn 86 []] [.arr 3 (l.map qa7.toD)]
  (fun r s=>r=.tup []∧s=[.arr 3 ((qfd ltT l).map qa7.toD)]):=by
 have hx:∀y∈l.map qa7.toD,DmT y:=fun y hy=>by
  obtain⟨x,hx,rfl⟩:=List.mem_map.1 hy
  exact⟨x,rfl⟩
 have hsort:=qtn (Gl:=Gl) (τ:=[]) DmT Qzn 86 [] Qy8 (l.map qa7.toD) hx l.length (by simp) (by omega)
 refine hsort.mono fun r s hss=>?_
 obtain⟨rfl,zs,ρ,rfl,hA,hB,hid⟩:=hss
 refine⟨rfl,?_⟩
 have e:=q2p Q0i hx (by simp) hA hB hid
 rw[qbe,q5a,List.drop_of_length_le (by simp),List.append_nil] at e
 rw[e];rfl

theorem qcm (g:List UInt8→Option (List UInt8)) (n:List UInt8):(qb2 g (.s n)).getD (.d (.str []))=.d (.str ((g n).getD [])):=by
 simp only[qb2];cases g n<;>rfl
def nmT (g:List UInt8→Option (List UInt8)) (x:qai):qai:={x with name:=(g x.name).getD []}
def nmS (g:List UInt8→Option (List UInt8)) (x:qae):qae:={x with name:=(g x.name).getD []}
def nmA (g:List UInt8→Option (List UInt8)) (x:qam):qam:={x with stack:=q4l g x.stack}
def nmB (g:List UInt8→Option (List UInt8)) (x:qaw):qaw:={x with stack:=q4l g x.stack}
def nmC (g:List UInt8→Option (List UInt8)) (x:qa7):qa7:={x with name:=(g x.name).getD []}
def Qsp (g1 g2 g3 g4:List UInt8→Option (List UInt8)) (t:qat):qat:=
 {t with threads:=t.threads.map (nmT g1),slices:=t.slices.map (nmS g2),samples:=t.samples.map (nmA g3),blocks:=t.blocks.map (nmB g3),steps:=qfd ltT (t.steps.map (nmC g4))}
theorem qgo (g:List UInt8→Option (List UInt8)) (ρ:List Nat) (σ:Sto):qbs ρ σ (.map none (qb2 g))=.map none (qb2 g):=qh3 (B:=.map none (qb2 g)) (q1n g) ρ σ
theorem Qnu (g:List UInt8→Option (List UInt8)) (b:Nat→Nat):qdo b (.map none (qb2 g))=.map none (qb2 g):=qh4 (B:=.map none (qb2 g)) (q1n g) b
theorem qlv (R:List D) (g1 g2 g3 g4:List UInt8→Option (List UInt8)) (x0 x1 x2 x3 x4:List D) (v w:AV) (σ:Sto) (hv:qbs [0,1,2,3,4,5,6,7,8,9,10,11,12,13,14,15] (.arr 3 x0::.arr 8 x1::.arr 4 x2::.arr 3 x3::.arr 7 x4::.map none (qb7 (some (.ptr 6 0)) (some (.ptr 8 0)) (some (.ptr 10 0)) (some (.ptr 12 0)))::.box 3 (.agg [.d (.sl R),.d (.str qax),.mapr 7])::.map none (qb2 g1)::.box 3 (.agg [.d (.sl R),.d (.str qa5),.mapr 9])::.map none (qb2 g2)::.box 3 (.agg [.d (.sl R),.d (.str qa4),.mapr 11])::.map none (qb2 g3)::.box 3 (.agg [.d (.sl R),.d (.str qay),.mapr 13])::.map none (qb2 g4)::.box 10 v::.box 10 w::σ) (.box 10 v)=.box 10 v)
  (hw:qbs [0,1,2,3,4,5,6,7,8,9,10,11,12,13,14,15] (.arr 3 x0::.arr 8 x1::.arr 4 x2::.arr 3 x3::.arr 7 x4::.map none (qb7 (some (.ptr 6 0)) (some (.ptr 8 0)) (some (.ptr 10 0)) (some (.ptr 12 0)))::.box 3 (.agg [.d (.sl R),.d (.str qax),.mapr 7])::.map none (qb2 g1)::.box 3 (.agg [.d (.sl R),.d (.str qa5),.mapr 9])::.map none (qb2 g2)::.box 3 (.agg [.d (.sl R),.d (.str qa4),.mapr 11])::.map none (qb2 g3)::.box 3 (.agg [.d (.sl R),.d (.str qay),.mapr 13])::.map none (qb2 g4)::.box 10 v::.box 10 w::σ) (.box 10 w)=.box 10 w) :
  qdy [0,1,2,3,4,5,6,7,8,9,10,11,12,13,14,15] (freezeL (.arr 3 x0::.arr 8 x1::.arr 4 x2::.arr 3 x3::.arr 7 x4::.map none (qb7 (some (.ptr 6 0)) (some (.ptr 8 0)) (some (.ptr 10 0)) (some (.ptr 12 0)))::.box 3 (.agg [.d (.sl R),.d (.str qax),.mapr 7])::.map none (qb2 g1)::.box 3 (.agg [.d (.sl R),.d (.str qa5),.mapr 9])::.map none (qb2 g2)::.box 3 (.agg [.d (.sl R),.d (.str qa4),.mapr 11])::.map none (qb2 g3)::.box 3 (.agg [.d (.sl R),.d (.str qay),.mapr 13])::.map none (qb2 g4)::.box 10 v::.box 10 w::σ) [])=[.arr 3 x0,.arr 8 x1,.arr 4 x2,.arr 3 x3,.arr 7 x4,.map none (qb7 (some (.ptr 6 0)) (some (.ptr 8 0)) (some (.ptr 10 0)) (some (.ptr 12 0))),.box 3 (.agg [.d (.sl R),.d (.str qax),.mapr 7]),.map none (qb2 g1),.box 3 (.agg [.d (.sl R),.d (.str qa5),.mapr 9]),.map none (qb2 g2),.box 3 (.agg [.d (.sl R),.d (.str qa4),.mapr 11]),.map none (qb2 g3),.box 3 (.agg [.d (.sl R),.d (.str qay),.mapr 13]),.map none (qb2 g4),.box 10 v,.box 10 w]:=by
 show[_,_,_,_,_,.map none (fun k=>(qb7 (some (.ptr 6 0)) (some (.ptr 8 0)) (some (.ptr 10 0)) (some (.ptr 12 0)) k).map (qbk _ _)),_,qbs _ _ (.map none (qb2 g1)),_,qbs _ _ (.map none (qb2 g2)),_,qbs _ _ (.map none (qb2 g3)),_,qbs _ _ (.map none (qb2 g4)),qbs _ _ (.box 10 v),qbs _ _ (.box 10 w)]=_
 rw[qfj,qgo,qgo,qgo,qgo]
 show[_,_,_,_,_,_,_,_,_,_,_,_,_,_,qbs [0,1,2,3,4,5,6,7,8,9,10,11,12,13,14,15] (.arr 3 x0::.arr 8 x1::.arr 4 x2::.arr 3 x3::.arr 7 x4::.map none (qb7 (some (.ptr 6 0)) (some (.ptr 8 0)) (some (.ptr 10 0)) (some (.ptr 12 0)))::.box 3 (.agg [.d (.sl R),.d (.str qax),.mapr 7])::.map none (qb2 g1)::.box 3 (.agg [.d (.sl R),.d (.str qa5),.mapr 9])::.map none (qb2 g2)::.box 3 (.agg [.d (.sl R),.d (.str qa4),.mapr 11])::.map none (qb2 g3)::.box 3 (.agg [.d (.sl R),.d (.str qay),.mapr 13])::.map none (qb2 g4)::.box 10 v::.box 10 w::σ) (.box 10 v),qbs [0,1,2,3,4,5,6,7,8,9,10,11,12,13,14,15] (.arr 3 x0::.arr 8 x1::.arr 4 x2::.arr 3 x3::.arr 7 x4::.map none (qb7 (some (.ptr 6 0)) (some (.ptr 8 0)) (some (.ptr 10 0)) (some (.ptr 12 0)))::.box 3 (.agg [.d (.sl R),.d (.str qax),.mapr 7])::.map none (qb2 g1)::.box 3 (.agg [.d (.sl R),.d (.str qa5),.mapr 9])::.map none (qb2 g2)::.box 3 (.agg [.d (.sl R),.d (.str qa4),.mapr 11])::.map none (qb2 g3)::.box 3 (.agg [.d (.sl R),.d (.str qay),.mapr 13])::.map none (qb2 g4)::.box 10 v::.box 10 w::σ) (.box 10 w)]=_
 rw[hv,hw];rfl
theorem Quo (R:List D) (g1 g2 g3 g4:List UInt8→Option (List UInt8)) (x0 x1 x2 x3 x4:List D) (σ:Sto) :
  qdy [0,1,2,3,4,5,6,7,8,9,10,11,12,13] (freezeL (.arr 3 x0::.arr 8 x1::.arr 4 x2::.arr 3 x3::.arr 7 x4::.map none (qb7 (some (.ptr 6 0)) (some (.ptr 8 0)) (some (.ptr 10 0)) (some (.ptr 12 0)))::.box 3 (.agg [.d (.sl R),.d (.str qax),.mapr 7])::.map none (qb2 g1)::.box 3 (.agg [.d (.sl R),.d (.str qa5),.mapr 9])::.map none (qb2 g2)::.box 3 (.agg [.d (.sl R),.d (.str qa4),.mapr 11])::.map none (qb2 g3)::.box 3 (.agg [.d (.sl R),.d (.str qay),.mapr 13])::.map none (qb2 g4)::σ) [])=[.arr 3 x0,.arr 8 x1,.arr 4 x2,.arr 3 x3,.arr 7 x4,.map none (qb7 (some (.ptr 6 0)) (some (.ptr 8 0)) (some (.ptr 10 0)) (some (.ptr 12 0))),.box 3 (.agg [.d (.sl R),.d (.str qax),.mapr 7]),.map none (qb2 g1),.box 3 (.agg [.d (.sl R),.d (.str qa5),.mapr 9]),.map none (qb2 g2),.box 3 (.agg [.d (.sl R),.d (.str qa4),.mapr 11]),.map none (qb2 g3),.box 3 (.agg [.d (.sl R),.d (.str qay),.mapr 13]),.map none (qb2 g4)]:=by
 show[_,_,_,_,_,.map none (fun k=>(qb7 (some (.ptr 6 0)) (some (.ptr 8 0)) (some (.ptr 10 0)) (some (.ptr 12 0)) k).map (qbk _ _)),_,qbs _ _ (.map none (qb2 g1)),_,qbs _ _ (.map none (qb2 g2)),_,qbs _ _ (.map none (qb2 g3)),_,qbs _ _ (.map none (qb2 g4))]=_
 rw[qfj,qgo,qgo,qgo,qgo]
 rfl
theorem Qgv (R:List D) (g1 g2 g3 g4:List UInt8→Option (List UInt8)) (t:qat) (ht:t.lim) (hs:t.limS):qal prog Gl 45 [qgi t,.mapr 5] (Qon t++[.map none (qb7 (some (.ptr 6 0)) (some (.ptr 8 0)) (some (.ptr 10 0)) (some (.ptr 12 0))),.box 3 (.agg [.d (.sl R),.d (.str qax),.mapr 7]),.map none (qb2 g1),.box 3 (.agg [.d (.sl R),.d (.str qa5),.mapr 9]),.map none (qb2 g2),.box 3 (.agg [.d (.sl R),.d (.str qa4),.mapr 11]),.map none (qb2 g3),.box 3 (.agg [.d (.sl R),.d (.str qay),.mapr 13]),.map none (qb2 g4)])
  (fun r s=>r=qgi (Qsp g1 g2 g3 g4 t)∧s=Qon (Qsp g1 g2 g3 g4 t)++[.map none (qb7 (some (.ptr 6 0)) (some (.ptr 8 0)) (some (.ptr 10 0)) (some (.ptr 12 0))),.box 3 (.agg [.d (.sl R),.d (.str qax),.mapr 7]),.map none (qb2 g1),.box 3 (.agg [.d (.sl R),.d (.str qa5),.mapr 9]),.map none (qb2 g2),.box 3 (.agg [.d (.sl R),.d (.str qa4),.mapr 11]),.map none (qb2 g3),.box 3 (.agg [.d (.sl R),.d (.str qay),.mapr 13]),.map none (qb2 g4)]):=by
 obtain⟨h1,h2,h3,h4,h5,h6,h7,h8⟩:=ht
 refine qac func45 rfl rfl (by simp[ntmps45]) (qab rfl _ _ _ _ ?_)
 simp only[ntmps45,results45,qak,List.length_nil]
 simp only[zU,seval,L1,L2,L3,L4,qcm,Qon,qgi]
 refine qap t.threads.length (fun k=>[(1,.mapr 5),(2,.ptr 14 0),(4,.ptr 15 0),(16,.osl 0 0 t.threads.length),(17,.d (.int .i64 t.threads.length)),(18,.d (.int .i64 k))])
  (fun k=>[.arr 3 ((qim (nmT g1) t.threads k).map qai.toD),.arr 8 (t.slices.map qae.toD),.arr 4 (t.samples.map qam.toD),.arr 3 (t.steps.map qa7.toD),.arr 7 (t.blocks.map qaw.toD),.map none (qb7 (some (.ptr 6 0)) (some (.ptr 8 0)) (some (.ptr 10 0)) (some (.ptr 12 0))),.box 3 (.agg [.d (.sl R),.d (.str qax),.mapr 7]),.map none (qb2 g1),.box 3 (.agg [.d (.sl R),.d (.str qa5),.mapr 9]),.map none (qb2 g2),.box 3 (.agg [.d (.sl R),.d (.str qa4),.mapr 11]),.map none (qb2 g3),.box 3 (.agg [.d (.sl R),.d (.str qay),.mapr 13]),.map none (qb2 g4),.box 10 (qgi t),.box 10 zT]) (fun _=>True) trivial ?_ ?_
 ·refine qaa [] [0,1,2,3,4,5,6,7,8,9,10,11,12,13,14,15] rfl (by simp) ?_ ?_
  ·simp only[zU,seval,L1,L2,L3,L4,qcm]
   try rfl
  ·rw[qg5]
   exact qlv R g1 g2 g3 g4 _ _ _ _ _ (qgi t) zT _ rfl rfl
 intro k _ hk
 by_cases h:k<t.threads.length
 ·obtain⟨x,hx⟩:∃x,x=t.threads.getD k default:=⟨_,rfl⟩
  have hml:=qix (nmT g1) t.threads k
  have eg:((qim (nmT g1) t.threads k).map qai.toD).getD k default=x.toD:=by rw[qaj _ _ _ (by omega),qiy _ h,←hx]
  have est:(qim (nmT g1) t.threads k).set k (nmT g1 x)=qim (nmT g1) t.threads (k+1):=by rw[hx,qiw _ h]
  simp only[zU,seval,L1,L2,L3,L4,qcm,qgi,(show(k:Int)<t.threads.length by omega),h,eg,hml]
  repeat((with_reducible apply aI);exact sdp)
  refine qaa [] [0,1,2,3,4,5,6,7,8,9,10,11,12,13,14,15] rfl (by simp) ?_ ?_
  ·simp only[zU,seval,L1,L2,L3,L4,qcm,@qag ((k:Int)+1) (by omega)]
   try rfl
  ·rw[←est,List.map_set]
   exact qlv R g1 g2 g3 g4 _ _ _ _ _ (qgi t) zT _ rfl rfl
 have:k=t.threads.length:=by omega
 subst this
 rw[qiz]
 simp only[zU,seval,L1,L2,L3,L4,qcm,qgi,(show ¬(t.threads.length:Int)<t.threads.length by omega)]
 refine qap t.slices.length (fun k=>[(1,.mapr 5),(2,.ptr 14 0),(4,.ptr 15 0),(38,.osl 1 0 t.slices.length),(39,.d (.int .i64 t.slices.length)),(40,.d (.int .i64 k))])
  (fun k=>[.arr 3 ((t.threads.map (nmT g1)).map qai.toD),.arr 8 ((qim (nmS g2) t.slices k).map qae.toD),.arr 4 (t.samples.map qam.toD),.arr 3 (t.steps.map qa7.toD),.arr 7 (t.blocks.map qaw.toD),.map none (qb7 (some (.ptr 6 0)) (some (.ptr 8 0)) (some (.ptr 10 0)) (some (.ptr 12 0))),.box 3 (.agg [.d (.sl R),.d (.str qax),.mapr 7]),.map none (qb2 g1),.box 3 (.agg [.d (.sl R),.d (.str qa5),.mapr 9]),.map none (qb2 g2),.box 3 (.agg [.d (.sl R),.d (.str qa4),.mapr 11]),.map none (qb2 g3),.box 3 (.agg [.d (.sl R),.d (.str qay),.mapr 13]),.map none (qb2 g4),.box 10 (qgi t),.box 10 zT]) (fun _=>True) trivial ?_ ?_
 ·refine qaa [] [0,1,2,3,4,5,6,7,8,9,10,11,12,13,14,15] rfl (by simp) ?_ ?_
  ·simp only[zU,seval,L1,L2,L3,L4,qcm]
   try rfl
  ·rw[qg5]
   exact qlv R g1 g2 g3 g4 _ _ _ _ _ (qgi t) zT _ rfl rfl
 intro k _ hk
 by_cases h:k<t.slices.length
 ·obtain⟨x,hx⟩:∃x,x=t.slices.getD k default:=⟨_,rfl⟩
  have hml:=qix (nmS g2) t.slices k
  have eg:((qim (nmS g2) t.slices k).map qae.toD).getD k default=x.toD:=by rw[qaj _ _ _ (by omega),qiy _ h,←hx]
  have est:(qim (nmS g2) t.slices k).set k (nmS g2 x)=qim (nmS g2) t.slices (k+1):=by rw[hx,qiw _ h]
  simp only[zU,seval,L1,L2,L3,L4,qcm,qgi,(show(k:Int)<t.slices.length by omega),h,eg,hml]
  repeat((with_reducible apply aI);exact sdp)
  refine qaa [] [0,1,2,3,4,5,6,7,8,9,10,11,12,13,14,15] rfl (by simp) ?_ ?_
  ·simp only[zU,seval,L1,L2,L3,L4,qcm,@qag ((k:Int)+1) (by omega)]
   try rfl
  ·rw[←est,List.map_set]
   exact qlv R g1 g2 g3 g4 _ _ _ _ _ (qgi t) zT _ rfl rfl
 have:k=t.slices.length:=by omega
 subst this
 rw[qiz]
 simp only[zU,seval,L1,L2,L3,L4,qcm,qgi,(show ¬(t.slices.length:Int)<t.slices.length by omega)]
 refine qap t.samples.length (fun k=>[(1,.mapr 5),(2,.ptr 14 0),(4,.ptr 15 0),(60,.osl 2 0 t.samples.length),(61,.d (.int .i64 t.samples.length)),(62,.d (.int .i64 k))])
  (fun k=>[.arr 3 ((t.threads.map (nmT g1)).map qai.toD),.arr 8 ((t.slices.map (nmS g2)).map qae.toD),.arr 4 ((qim (nmA g3) t.samples k).map qam.toD),.arr 3 (t.steps.map qa7.toD),.arr 7 (t.blocks.map qaw.toD),.map none (qb7 (some (.ptr 6 0)) (some (.ptr 8 0)) (some (.ptr 10 0)) (some (.ptr 12 0))),.box 3 (.agg [.d (.sl R),.d (.str qax),.mapr 7]),.map none (qb2 g1),.box 3 (.agg [.d (.sl R),.d (.str qa5),.mapr 9]),.map none (qb2 g2),.box 3 (.agg [.d (.sl R),.d (.str qa4),.mapr 11]),.map none (qb2 g3),.box 3 (.agg [.d (.sl R),.d (.str qay),.mapr 13]),.map none (qb2 g4),.box 10 (qgi t),.box 10 zT]) (fun _=>True) trivial ?_ ?_
 ·refine qaa [] [0,1,2,3,4,5,6,7,8,9,10,11,12,13,14,15] rfl (by simp) ?_ ?_
  ·simp only[zU,seval,L1,L2,L3,L4,qcm]
   try rfl
  ·rw[qg5]
   exact qlv R g1 g2 g3 g4 _ _ _ _ _ (qgi t) zT _ rfl rfl
 intro k _ hk
 by_cases h:k<t.samples.length
 ·obtain⟨x,hx⟩:∃x,x=t.samples.getD k default:=⟨_,rfl⟩
  have hml:=qix (nmA g3) t.samples k
  have eg:((qim (nmA g3) t.samples k).map qam.toD).getD k default=x.toD:=by rw[qaj _ _ _ (by omega),qiy _ h,←hx]
  have est:(qim (nmA g3) t.samples k).set k (nmA g3 x)=qim (nmA g3) t.samples (k+1):=by rw[hx,qiw _ h]
  simp only[zU,seval,L1,L2,L3,L4,qcm,qgi,(show(k:Int)<t.samples.length by omega),h,eg,hml]
  repeat((with_reducible apply aI);exact sdp)
  have hxs:=hs.1 x (by rw[hx];exact qbh h)
  refine qik (Qe6 [10,11] [.box 3 (.agg [.d (.sl R),.d (.str qa4),.mapr 1]),.map none (qb2 g3)] (by simp) (by simp[qad,Blk.frozen,Blk.isDead]) (Qu7 R qa4 g3 x.stack hxs) (fun s=>rfl) (fun s hb=>?_) (fun N=>hk2 rfl (Qnu g3 _))) ?_
  ·show[qbs [10,11] s (qad s 10),qbs [10,11] s (qad s 11)]=_
   rw[hb 10 (by simp),hb 11 (by simp)]
   show[_,qbs [10,11] s (.map none (qb2 g3))]=_
   rw[qgo];rfl
  simp only[zU,seval,L1,L2,L3,L4,qcm,qgi,(show(k:Int)<t.samples.length by omega),h,eg,hml]
  repeat((with_reducible apply aI);exact sdp)
  refine qaa [] [0,1,2,3,4,5,6,7,8,9,10,11,12,13,14,15] rfl (by simp) ?_ ?_
  ·simp only[zU,seval,L1,L2,L3,L4,qcm,@qag ((k:Int)+1) (by omega)]
   try rfl
  ·rw[←est,List.map_set]
   exact qlv R g1 g2 g3 g4 _ _ _ _ _ (qgi t) zT _ rfl rfl
 have:k=t.samples.length:=by omega
 subst this
 rw[qiz]
 simp only[zU,seval,L1,L2,L3,L4,qcm,qgi,(show ¬(t.samples.length:Int)<t.samples.length by omega)]
 refine qap t.blocks.length (fun k=>[(1,.mapr 5),(2,.ptr 14 0),(4,.ptr 15 0),(79,.osl 4 0 t.blocks.length),(80,.d (.int .i64 t.blocks.length)),(81,.d (.int .i64 k))])
  (fun k=>[.arr 3 ((t.threads.map (nmT g1)).map qai.toD),.arr 8 ((t.slices.map (nmS g2)).map qae.toD),.arr 4 ((t.samples.map (nmA g3)).map qam.toD),.arr 3 (t.steps.map qa7.toD),.arr 7 ((qim (nmB g3) t.blocks k).map qaw.toD),.map none (qb7 (some (.ptr 6 0)) (some (.ptr 8 0)) (some (.ptr 10 0)) (some (.ptr 12 0))),.box 3 (.agg [.d (.sl R),.d (.str qax),.mapr 7]),.map none (qb2 g1),.box 3 (.agg [.d (.sl R),.d (.str qa5),.mapr 9]),.map none (qb2 g2),.box 3 (.agg [.d (.sl R),.d (.str qa4),.mapr 11]),.map none (qb2 g3),.box 3 (.agg [.d (.sl R),.d (.str qay),.mapr 13]),.map none (qb2 g4),.box 10 (qgi t),.box 10 zT]) (fun _=>True) trivial ?_ ?_
 ·refine qaa [] [0,1,2,3,4,5,6,7,8,9,10,11,12,13,14,15] rfl (by simp) ?_ ?_
  ·simp only[zU,seval,L1,L2,L3,L4,qcm]
   try rfl
  ·rw[qg5]
   exact qlv R g1 g2 g3 g4 _ _ _ _ _ (qgi t) zT _ rfl rfl
 intro k _ hk
 by_cases h:k<t.blocks.length
 ·obtain⟨x,hx⟩:∃x,x=t.blocks.getD k default:=⟨_,rfl⟩
  have hml:=qix (nmB g3) t.blocks k
  have eg:((qim (nmB g3) t.blocks k).map qaw.toD).getD k default=x.toD:=by rw[qaj _ _ _ (by omega),qiy _ h,←hx]
  have est:(qim (nmB g3) t.blocks k).set k (nmB g3 x)=qim (nmB g3) t.blocks (k+1):=by rw[hx,qiw _ h]
  simp only[zU,seval,L1,L2,L3,L4,qcm,qgi,(show(k:Int)<t.blocks.length by omega),h,eg,hml]
  repeat((with_reducible apply aI);exact sdp)
  have hxs:=hs.2 x (by rw[hx];exact qbh h)
  refine qik (Qe6 [10,11] [.box 3 (.agg [.d (.sl R),.d (.str qa4),.mapr 1]),.map none (qb2 g3)] (by simp) (by simp[qad,Blk.frozen,Blk.isDead]) (Qu7 R qa4 g3 x.stack hxs) (fun s=>rfl) (fun s hb=>?_) (fun N=>hk2 rfl (Qnu g3 _))) ?_
  ·show[qbs [10,11] s (qad s 10),qbs [10,11] s (qad s 11)]=_
   rw[hb 10 (by simp),hb 11 (by simp)]
   show[_,qbs [10,11] s (.map none (qb2 g3))]=_
   rw[qgo];rfl
  simp only[zU,seval,L1,L2,L3,L4,qcm,qgi,(show(k:Int)<t.blocks.length by omega),h,eg,hml]
  repeat((with_reducible apply aI);exact sdp)
  refine qaa [] [0,1,2,3,4,5,6,7,8,9,10,11,12,13,14,15] rfl (by simp) ?_ ?_
  ·simp only[zU,seval,L1,L2,L3,L4,qcm,@qag ((k:Int)+1) (by omega)]
   try rfl
  ·rw[←est,List.map_set]
   exact qlv R g1 g2 g3 g4 _ _ _ _ _ (qgi t) zT _ rfl rfl
 have:k=t.blocks.length:=by omega
 subst this
 rw[qiz]
 simp only[zU,seval,L1,L2,L3,L4,qcm,qgi,(show ¬(t.blocks.length:Int)<t.blocks.length by omega)]
 refine qap t.steps.length (fun k=>[(1,.mapr 5),(2,.ptr 14 0),(4,.ptr 15 0),(98,.osl 3 0 t.steps.length),(99,.d (.int .i64 t.steps.length)),(100,.d (.int .i64 k))])
  (fun k=>[.arr 3 ((t.threads.map (nmT g1)).map qai.toD),.arr 8 ((t.slices.map (nmS g2)).map qae.toD),.arr 4 ((t.samples.map (nmA g3)).map qam.toD),.arr 3 ((qim (nmC g4) t.steps k).map qa7.toD),.arr 7 ((t.blocks.map (nmB g3)).map qaw.toD),.map none (qb7 (some (.ptr 6 0)) (some (.ptr 8 0)) (some (.ptr 10 0)) (some (.ptr 12 0))),.box 3 (.agg [.d (.sl R),.d (.str qax),.mapr 7]),.map none (qb2 g1),.box 3 (.agg [.d (.sl R),.d (.str qa5),.mapr 9]),.map none (qb2 g2),.box 3 (.agg [.d (.sl R),.d (.str qa4),.mapr 11]),.map none (qb2 g3),.box 3 (.agg [.d (.sl R),.d (.str qay),.mapr 13]),.map none (qb2 g4),.box 10 (qgi t),.box 10 zT]) (fun _=>True) trivial ?_ ?_
 ·refine qaa [] [0,1,2,3,4,5,6,7,8,9,10,11,12,13,14,15] rfl (by simp) ?_ ?_
  ·simp only[zU,seval,L1,L2,L3,L4,qcm]
   try rfl
  ·rw[qg5]
   exact qlv R g1 g2 g3 g4 _ _ _ _ _ (qgi t) zT _ rfl rfl
 intro k _ hk
 by_cases h:k<t.steps.length
 ·obtain⟨x,hx⟩:∃x,x=t.steps.getD k default:=⟨_,rfl⟩
  have hml:=qix (nmC g4) t.steps k
  have eg:((qim (nmC g4) t.steps k).map qa7.toD).getD k default=x.toD:=by rw[qaj _ _ _ (by omega),qiy _ h,←hx]
  have est:(qim (nmC g4) t.steps k).set k (nmC g4 x)=qim (nmC g4) t.steps (k+1):=by rw[hx,qiw _ h]
  simp only[zU,seval,L1,L2,L3,L4,qcm,qgi,(show(k:Int)<t.steps.length by omega),h,eg,hml]
  repeat((with_reducible apply aI);exact sdp)
  refine qaa [] [0,1,2,3,4,5,6,7,8,9,10,11,12,13,14,15] rfl (by simp) ?_ ?_
  ·simp only[zU,seval,L1,L2,L3,L4,qcm,@qag ((k:Int)+1) (by omega)]
   try rfl
  ·rw[←est,List.map_set]
   exact qlv R g1 g2 g3 g4 _ _ _ _ _ (qgi t) zT _ rfl rfl
 have:k=t.steps.length:=by omega
 subst this
 rw[qiz]
 simp only[zU,seval,L1,L2,L3,L4,qcm,qgi,(show ¬(t.steps.length:Int)<t.steps.length by omega)]
 obtain⟨L,hL⟩:∃L,L=t.steps.map (nmC g4):=⟨_,rfl⟩
 have hLl:t.steps.length=L.length:=by rw[hL,List.length_map]
 have hrl:(Qsp g1 g2 g3 g4 t).steps.length=t.steps.length:=by rw[Qsp,qf8,List.length_map]
 rw[←hL,hLl]
 refine Qnm 3 (by simp) rfl (q93 L (by omega)) (fun r s hr=>?_)
 obtain⟨rfl,rfl⟩:=hr
 rw[q2i (by simp)]
 simp only[zU,seval,L1,L2,L3,L4,qcm]
 repeat((with_reducible apply aI);exact sdp)
 rw[hrl,hLl]
 refine⟨_,_,qah [] [0,1,2,3,4,5,6,7,8,9,10,11,12,13] rfl (by simp) rfl (Quo R g1 g2 g3 g4 _ _ _ _ _ _),?_,?_⟩
 ·simp only[Qsp,List.length_map];rfl
 ·simp only[Qsp,hL]

theorem L1s (a b c d:Option AV):qb7 a b c d (.s qax)=a:=L1 a b c d
theorem L2s (a b c d:Option AV):qb7 a b c d (.s qa5)=b:=L2 a b c d
theorem L3s (a b c d:Option AV):qb7 a b c d (.s qa4)=c:=L3 a b c d
theorem L4s (a b c d:Option AV):qb7 a b c d (.s qay)=d:=L4 a b c d
theorem M1s (a b c d:Option AV) (v:AV):qhm (qb7 a b c d) (.s qax) v=qb7 (some v) b c d:=M1 a b c d v
theorem M2s (a b c d:Option AV) (v:AV):qhm (qb7 a b c d) (.s qa5) v=qb7 a (some v) c d:=M2 a b c d v
theorem M3s (a b c d:Option AV) (v:AV):qhm (qb7 a b c d) (.s qa4) v=qb7 a b (some v) d:=M3 a b c d v
theorem M4s (a b c d:Option AV) (v:AV):qhm (qb7 a b c d) (.s qay) v=qb7 a b c (some v):=M4 a b c d v
theorem qsl (p:Bool) (i n:Nat):((val p i n).getD .nils).vg=true:=by cases p<;>rfl
theorem qsk (p:Bool) (i n:Nat):((val p i n).getD .nils).un=(val p i n).getD .nils:=by cases p<;>rfl
theorem Qnk (p:qae→Bool):∀(l:List qae) (u:List qae×List Int),(l.foldl (qb9 p) u).1.length≤u.1.length+l.length
 | [],u=>by simp
 | s::l,u=>by
  have ih:=Qnk p l (qb9 p u s)
  have h:(qb9 p u s).1.length≤u.1.length+1:=by
   unfold qb9;split<;>simp
  simp only[List.foldl_cons,List.length_cons];omega
theorem Qfh (p:qae→Bool) (l:List qae):(chF p l).1.length≤l.length:=by
 have:=Qnk p l ([],[]);simpa[chF] using this
theorem qor {o:List qae}:∀j,j<o.length→((qc4 o).getD j default).thread=(o.getD j default).thread∧((qc4 o).getD j default).parent=(o.getD j default).parent∧((qc4 o).getD j default).name=(o.getD j default).name∧((qc4 o).getD j default).lo=(o.getD j default).lo∧((qc4 o).getD j default).hi=(o.getD j default).hi∧((qc4 o).getD j default).open_=(o.getD j default).open_:=by
 obtain⟨n,hn⟩:∃n,n=o.length:=⟨_,rfl⟩
 induction n generalizing o with
 | zero=>intro j hj;omega
 | succ n ih=>
  rcases List.eq_nil_or_concat o with rfl|⟨v,s,rfl⟩
  ·simp at hn
  rw[List.concat_eq_append] at hn ⊢
  have hv:n=v.length:=by rw[List.length_append] at hn;simp at hn;exact hn
  intro j hj
  have hj:j<v.length+1:=by simpa using hj
  have hl:=qcw v
  rw[qga,qcp,qcq _ _ _ (by rw[qg6];omega),qg6,qcq _ _ _ hj,hl]
  by_cases hjn:j<v.length
  ·rw[if_pos hjn,if_pos hjn]
   have h0:=ih hv j hjn
   unfold qhw
   split
   ·by_cases hjp:s.parent.toNat=j
    ·subst hjp
     have hjf:s.parent.toNat<(qc4 v).length:=by omega
     have e:∀z,((qc4 v).set s.parent.toNat z).getD s.parent.toNat default=z:=fun z=>by simp[hjf]
     rw[e];exact h0
    ·have e:∀z,((qc4 v).set s.parent.toNat z).getD j default=(qc4 v).getD j default:=fun z=>by
      rw[List.getD_eq_getElem?_getD,List.getElem?_set_ne hjp,List.getD_eq_getElem?_getD]
     rw[e];exact h0
   ·exact h0
  ·rw[if_neg hjn,if_neg hjn]
   exact⟨rfl,rfl,rfl,rfl,rfl,rfl⟩
theorem Qmd {o:List qae} (h:qd7 o):qd7 (qc4 o):=by
 intro i hi
 rw[qcw] at hi
 obtain⟨_,e2,_,e4,e5,_⟩:=qor (o:=o) i hi
 rw[e2,e4,e5];exact h i hi
theorem Qm8 {l:List qao} {t:qat} (h:t.lim):(qfw l t).lim:=by
 obtain⟨h1,h2,h3,h4,h5,h6,h7,h8⟩:=h
 refine⟨Nat.le_trans (List.length_filter_le _ _) h1,?_,Nat.le_trans (qo6 _ _) h3,Nat.le_trans (List.length_filter_le _ _) h4,Nat.le_trans (List.length_filter_le _ _) h5,h6,Nat.le_trans (List.length_filter_le _ _) h7,Nat.le_trans (List.length_filter_le _ _) h8⟩
 show(qc4 _).length≤1000
 rw[qcw];exact Nat.le_trans (Qfh _ _) h2
theorem Qhh {l:List qao} {t:qat} (h:t.limS):(qfw l t).limS:=
 ⟨fun x hx=>h.1 x (List.mem_filter.1 hx).1,fun x hx=>h.2 x (List.mem_filter.1 hx).1⟩
theorem Qhi {l:List qao} {t:qat} (h:qd7 t.slices):qd7 (qfw l t).slices:=Qmd (qhb _ h).2.2.2
theorem Qm9 {l:List qao} {t:qat} (h:t.lim):(qjq l t).lim:=by
 obtain⟨h1,h2,h3,h4,h5,h6,h7,h8⟩:=h
 refine⟨h1,?_,h3,h4,?_,Nat.le_trans (List.length_filter_le _ _) h6,?_,h8⟩
 ·show(qc4 _).length≤1000
  rw[qcw];exact Nat.le_trans (Qfh _ _) h2
 ·show(t.samples.map _).length≤1000
  rw[List.length_map];exact h5
 ·show(t.blocks.map _).length≤1000
  rw[List.length_map];exact h7
theorem Qhj {l:List qao} {t:qat} (h:t.limS):(qjq l t).limS:=by
 refine⟨fun x hx=>?_,fun x hx=>?_⟩
 ·obtain⟨y,hy,rfl⟩:=List.mem_map.1 hx
  exact Nat.lt_of_le_of_lt (List.length_filter_le _ _) (h.1 y hy)
 ·obtain⟨y,hy,rfl⟩:=List.mem_map.1 hx
  exact Nat.lt_of_le_of_lt (List.length_filter_le _ _) (h.2 y hy)
def qjt:qat:=⟨0,0,[],[],[],[],[],[],[],[]⟩
def qpa (t:qat):Nat:=t.slices.length+t.states.length+t.flows.length+t.samples.length+t.steps.length+t.blocks.length+t.lost.length
def q14 (t:qat):qat:=if qpa t=0 then {t with lo:=0,hi:=0} else t
def qky (l:List qao) (t:qat):Bool:=qgh l qax (t.threads.map (·.name))||qgh l qa5 (t.slices.map (·.name))||qgh l qa4 (frN t)||qgh l qay (t.steps.map (·.name))
def Qxr (l:List qao) (t:qat):qat:=Qsp (qdj l qax (t.threads.map (·.name))) (qdj l qa5 (t.slices.map (·.name))) (qdj l qa4 (frN t)) (qdj l qay (t.steps.map (·.name))) t
def qhi (l:List qao) (t:qat):qat×Int:=
 if qi9 l≠0 then(qjt,qi9 l) else if qc6 t≠0 then(qjt,qc6 t)
 else if qky l (qjq l (qfw l t))=true then(qjt,4) else(q14 (Qxr l (qjq l (qfw l t))),0)
theorem qsj (b:Nat→Nat) (p:Bool) (i n:Nat):(val p i n).map (qhq b)=val p (b i) n:=by cases p<;>rfl
theorem q75 (l:List qao) (what:List UInt8) (s:List (List UInt8)) (hl:l.length<1000000) (hs:s.length<1000000) (σ:Sto):qal prog G2 36 [.d (.sl (l.map qao.toD)),.d (.str what),.d (.sl (s.map .str))] σ
  (fun r s'=>r=.tup [.ptr σ.length 0,.d (.bool (!qgh l what s))]∧s'=σ++[.box 3 (.agg [.d (.sl (l.map qao.toD)),.d (.str what),.mapr (σ.length+1)]),.map none (qb2 (qdj l what s))]):=by
 refine(qal.under_new (R:=fun r ν=>r=.tup [.ptr 0 0,.d (.bool (!qgh l what s))]∧ν=[.box 3 (.agg [.d (.sl (l.map qao.toD)),.d (.str what),.mapr 1]),.map none (qb2 (qdj l what s))]) [] [] (by simp) (by simp) rfl rfl (fun j i h=>by simp at h) ((q1r l what s hl hs).mono fun r s' hr=>⟨_,by rw[List.nil_append],hr.1,hr.2⟩)).mono fun r s' hr=>?_
 obtain⟨r0,ν,⟨rfl,rfl⟩,rfl,rfl⟩:=hr
 refine⟨?_,?_⟩
 ·show AV.tup [.ptr (qb6 [] σ.length 0) 0,_]=_
  rfl
 ·show σ++[.box 3 (.agg [.d _,.d _,.mapr (qb6 [] σ.length 1)]),qdo _ (.map none (qb2 _))]=_
  rw[Qnu];rfl
theorem qsx {n m:Nat} {all:Array Oper} {rest:List Oper} {KK:Env→Sto→Prop} {env:Env} {dst:Option Tmp} (l:List qao) (what:List UInt8) (hl:l.length<1000000) (p:Bool) (i:Nat) (N:List (List UInt8)) (hN:N.length<1000000) (hn:N.length=m) (hp:p=false→N=[]) (σ:Sto) (hb:qad σ i=.frz 1 (N.map .str))
  (h2:qar prog G2 n all false rest (putE env dst (.tup [.ptr σ.length 0,.d (.bool (!qgh l what N))])) (σ++[.box 3 (.agg [.d (.sl (l.map qao.toD)),.d (.str what),.mapr (σ.length+1)]),.map none (qb2 (qdj l what N))]) KK) :
  qhd prog G2 n all false dst rest (.fn 36 []) [.d (.sl (l.map qao.toD)),.d (.str what),(val p i m).getD .nils] env σ KK:=by
 have hc:=(q75 l what N hl hN σ).mono (R':=fun r σ'=>qar prog G2 n all false rest (putE env dst r) σ' KK) fun r s hr=>by obtain⟨rfl,rfl⟩:=hr;exact h2
 cases p with
 | false=>
  have:=hp rfl
  subst this
  exact qxh hc
 | true=>
  subst hn
  refine qxh ?_
  have hil:i<σ.length:=by
   rcases Nat.lt_or_ge i σ.length with h|h
   ·exact h
   ·exfalso
    have:qad σ i=.dead:=by unfold qad;rw[List.getD_eq_getElem?_getD,List.getElem?_eq_none h];rfl
    rw[this] at hb;cases hb
  have e1:qos σ (.osl i 0 N.length)=.d (.sl (N.map .str)):=by
   rw[qs6 _ _ _ _ (by rw[hb];rfl),hb]
   show AV.d (.sl (((N.map D.str).drop 0).take N.length))=_
   rw[List.drop_zero,List.take_of_length_le (by simp)]
  have e2:qj4 σ (.osl i 0 N.length)=[i]:=qs5 _ _ _ _ (by rw[hb];rfl)
  have e3:freezeL σ [i]=σ:=by
   show σ.set i (qad σ i).frozen=σ
   rw[hb]
   apply List.ext_getElem?
   intro j
   rw[List.getElem?_set]
   split
   ·rename_i h;subst h
    have:σ[i]? = some (qad σ i):=by unfold qad;simp[hil]
    rw[this,hb];rfl
   ·rfl
  have e4:([.d (.sl (l.map qao.toD)),.d (.str what),(val true i N.length).getD .nils]++([]:List AV)).map (qos σ)=[.d (.sl (l.map qao.toD)),.d (.str what),.d (.sl (N.map .str))]:=by
   show[_,_,qos σ (.osl i 0 N.length)]=_
   rw[e1];rfl
  have e5:([.d (.sl (l.map qao.toD)),.d (.str what),(val true i N.length).getD .nils]++([]:List AV)).flatMap (qj4 σ)=[i]:=by
   show([]++([]++(qj4 σ (.osl i 0 N.length)++[])))=_
   rw[e2];rfl
  rw[e4,e5,e3]
  exact hc
theorem qpm {α β:Type} {L:List α} (f:α→β) (h:decide (0<L.length)=false):L.map f=[]:=by
 have h1:¬0<L.length:=of_decide_eq_false h
 rw[List.eq_nil_of_length_eq_zero (show L.length=0 by omega)];rfl
theorem Qmq {t:qat} (h:decide (0<t.samples.length+t.blocks.length)=false):frN t=[]:=by
 have h1:¬0<t.samples.length+t.blocks.length:=of_decide_eq_false h
 rw[frN,List.eq_nil_of_length_eq_zero (show t.samples.length=0 by omega),List.eq_nil_of_length_eq_zero (show t.blocks.length=0 by omega)];rfl
theorem Qaq (p:qam→Bool):∀l:List qam,(((l.filter p).map (·.stack)).flatten).length≤((l.map (·.stack)).flatten).length
 | []=>Nat.le_refl _
 | x::l=>by
  have ih:=Qaq p l
  rw[List.filter_cons]
  split
  ·simp only[List.map_cons,List.flatten_cons,List.length_append];omega
  ·simp only[List.map_cons,List.flatten_cons,List.length_append];omega
theorem Qar (p:qaw→Bool):∀l:List qaw,(((l.filter p).map (·.stack)).flatten).length≤((l.map (·.stack)).flatten).length
 | []=>Nat.le_refl _
 | x::l=>by
  have ih:=Qar p l
  rw[List.filter_cons]
  split
  ·simp only[List.map_cons,List.flatten_cons,List.length_append];omega
  ·simp only[List.map_cons,List.flatten_cons,List.length_append];omega
theorem Qas (r:List qao):∀l:List qam,(((l.map (frS r)).map (·.stack)).flatten).length≤((l.map (·.stack)).flatten).length
 | []=>Nat.le_refl _
 | x::l=>by
  have ih:=Qas r l
  have h:(frS r x).stack.length≤x.stack.length:=List.length_filter_le _ _
  simp only[List.map_cons,List.flatten_cons,List.length_append];omega
theorem Qat (r:List qao):∀l:List qaw,(((l.map (q13 r)).map (·.stack)).flatten).length≤((l.map (·.stack)).flatten).length
 | []=>Nat.le_refl _
 | x::l=>by
  have ih:=Qat r l
  have h:(q13 r x).stack.length≤x.stack.length:=List.length_filter_le _ _
  simp only[List.map_cons,List.flatten_cons,List.length_append];omega
theorem Qqj (l:List qao) (t:qat):(frN (qjq l (qfw l t))).length≤(frN t).length:=by
 have a1:=Qas l (qfw l t).samples
 have a2:=Qat l (qfw l t).blocks
 have a3:=Qaq (fun x=>!qcc l t.threads x.thread) t.samples
 have a4:=Qar (fun x=>!qcc l t.threads x.thread) t.blocks
 have e1:(frN (qjq l (qfw l t))).length=((((qfw l t).samples.map (frS l)).map (·.stack)).flatten).length+((((qfw l t).blocks.map (q13 l)).map (·.stack)).flatten).length:=by rw[frN,List.length_append];rfl
 have e2:(frN t).length=((t.samples.map (·.stack)).flatten).length+((t.blocks.map (·.stack)).flatten).length:=by rw[frN,List.length_append]
 have b1:((qfw l t).samples.map (·.stack))=((t.samples.filter (fun x=>!qcc l t.threads x.thread)).map (·.stack)):=rfl
 have b2:((qfw l t).blocks.map (·.stack))=((t.blocks.filter (fun x=>!qcc l t.threads x.thread)).map (·.stack)):=rfl
 rw[b1] at a1
 rw[b2] at a2
 omega
def okK (l:List qao) (t2:qat) (k:Nat):Prop:=(0<k→qgh l qax (t2.threads.map (·.name))=false)∧(1<k→qgh l qa5 (t2.slices.map (·.name))=false)∧(2<k→qgh l qa4 (frN t2)=false)∧(3<k→qgh l qay (t2.steps.map (·.name))=false)
def hmK (k:Nat):Key→Option AV:=qb7 (if 0<k then some (.ptr 14 0) else none) (if 1<k then some (.ptr 16 0) else none) (if 2<k then some (.ptr 18 0) else none) (if 3<k then some (.ptr 20 0) else none)
def Q0x (l:List qao) (t2:qat):Sto:=[.box 3 (.agg [.d (.sl (l.map qao.toD)),.d (.str qax),.mapr 15]),.map none (qb2 (qdj l qax (t2.threads.map (·.name)))),.box 3 (.agg [.d (.sl (l.map qao.toD)),.d (.str qa5),.mapr 17]),.map none (qb2 (qdj l qa5 (t2.slices.map (·.name)))),.box 3 (.agg [.d (.sl (l.map qao.toD)),.d (.str qa4),.mapr 19]),.map none (qb2 (qdj l qa4 (frN t2))),.box 3 (.agg [.d (.sl (l.map qao.toD)),.d (.str qay),.mapr 21]),.map none (qb2 (qdj l qay (t2.steps.map (·.name))))]
theorem qwn (l:List qao) (t:qat) (hl:l.length<1000000) (hf:t.Few) (ht:t.lim) (hs:t.limS) (hg:qc6 t=0→qd7 t.slices) (hfn:qc6 t=0→(frN t).length<1000000):qbc prog G2 20 [.d (.sl (l.map qao.toD)),.d t.toD] (.tup [.d (qhi l t).1.toD,.d (.int .i64 (qhi l t).2)]):=by
 refine qbc.of2t2 ?_
 refine qac func20 rfl rfl (by simp[ntmps20]) (qab rfl _ _ _ _ ?_)
 simp only[ntmps20,results20,qak,List.length_nil]
 simp only[zU,seval,L1,L2,L3,L4,M1,M2,M3,M4,L1s,L2s,L3s,L4s,M1s,M2s,M3s,M4s,qsl,qsk]
 refine qaf (Qaj l hl) ?_
 simp only[zU,seval,L1,L2,L3,L4,M1,M2,M3,M4,L1s,L2s,L3s,L4s,M1s,M2s,M3s,M4s,qsl,qsk]
 refine ifC.mk (fun h0=>?_) (fun h0=>?_)
 ·have h0:qi9 l≠0:=by simpa using h0
  refine⟨_,_,qd2 rfl (x:=qjt.toD) rfl,?_,rfl⟩
  rw[qhi,if_pos h0]
 have h0:qi9 l=0:=by simpa using h0
 (try simp only[zU,seval,L1,L2,L3,L4,M1,M2,M3,M4,L1s,L2s,L3s,L4s,M1s,M2s,M3s,M4s,qsl,qsk])
 refine qaf (qrq t hf) ?_
 simp only[zU,seval,L1,L2,L3,L4,M1,M2,M3,M4,L1s,L2s,L3s,L4s,M1s,M2s,M3s,M4s,qsl,qsk]
 refine ifC.mk (fun h1=>?_) (fun h1=>?_)
 ·have h1:qc6 t≠0:=by simpa using h1
  refine⟨_,_,qd2 rfl (x:=qjt.toD) rfl,?_,rfl⟩
  rw[qhi,if_neg (by rw[h0];simp),if_pos h1]
 have h1:qc6 t=0:=by simpa using h1
 have e0:qhi l t=if qky l (qjq l (qfw l t))=true then(qjt,4) else(q14 (Qxr l (qjq l (qfw l t))),0):=by
  rw[qhi,if_neg (by rw[h0];simp),if_neg (by rw[h1];simp)]
 have g1:=hg h1
 have f1:=hfn h1
 (try simp only[zU,seval,L1,L2,L3,L4,M1,M2,M3,M4,L1s,L2s,L3s,L4s,M1s,M2s,M3s,M4s,qsl,qsk])
 refine qb3 (R:=fun r ν=>r=Qzp (qfw l t)∧ν=[.arr 3 ((qfw l t).threads.map qai.toD)]) [] [] (by simp) (by simp) rfl rfl (fun j i h=>by simp at h) ((q3p l t hl ht g1).mono fun r s hr=>⟨_,by rw[List.nil_append],hr.1,hr.2⟩) (fun r ν hr=>?_)
 obtain⟨rfl,rfl⟩:=hr
 obtain⟨t1,ht1⟩:∃t1,t1=qfw l t:=⟨_,rfl⟩
 have l1:t1.lim:=by rw[ht1];exact Qm8 ht
 have s1:t1.limS:=by rw[ht1];exact Qhh hs
 have g2:qd7 t1.slices:=by rw[ht1];exact Qhi g1
 rw[←ht1] at e0 ⊢
 show qar _ _ _ _ _ _ (putE _ _ (.agg [.d (.int .i64 t1.lo),.d (.int .i64 t1.hi),.osl 2 0 t1.threads.length,.d (.sl (t1.slices.map qae.toD)),.d (.sl (t1.states.map qas.toD)),.d (.sl (t1.flows.map qbj.toD)),.d (.sl (t1.samples.map qam.toD)),.d (.sl (t1.steps.map qa7.toD)),.d (.sl (t1.blocks.map qaw.toD)),.d (.sl (t1.lost.map qb5.toD))])) [.box 10 (.d t.toD),.box 10 zT,.arr 3 (t1.threads.map qai.toD)] _
 simp only[zU,seval,L1,L2,L3,L4,M1,M2,M3,M4,L1s,L2s,L3s,L4s,M1s,M2s,M3s,M4s,qsl,qsk]
 refine qb3 (R:=fun r ν=>r=qgi (qjq l t1)∧ν=(Qon (qjq l t1)).tail) [2] [.arr 3 (t1.threads.map qai.toD)] (by simp) (by simp) rfl rfl (hk1 rfl) ((q97 l t1 hl l1 s1 g2).mono fun r s hr=>⟨(Qon (qjq l t1)).tail,by rw[hr.2];rfl,hr.1,rfl⟩) (fun r ν hr=>?_)
 obtain⟨rfl,rfl⟩:=hr
 obtain⟨t2,ht2⟩:∃t2,t2=qjq l t1:=⟨_,rfl⟩
 have l2:t2.lim:=by rw[ht2];exact Qm9 l1
 have s2:t2.limS:=by rw[ht2];exact Qhj s1
 have et:t1.threads=t2.threads:=by rw[ht2];rfl
 rw[et,←ht2]
 rw[←ht2] at e0
 have hfr:(frN t2).length<1000000:=by rw[ht2,ht1];exact Nat.lt_of_le_of_lt (Qqj l t) f1
 obtain⟨h1,h2,h3,h4,h5,h6,h7,h8⟩:=l2
 show qar _ _ _ _ _ _ (putE _ _ (.agg [.d (.int .i64 t2.lo),.d (.int .i64 t2.hi),.osl 2 0 t2.threads.length,.osl 3 0 t2.slices.length,.d (.sl (t2.states.map qas.toD)),.d (.sl (t2.flows.map qbj.toD)),.osl 4 0 t2.samples.length,.osl 5 0 t2.steps.length,.osl 6 0 t2.blocks.length,.d (.sl (t2.lost.map qb5.toD))])) [.box 10 (.d t.toD),.box 10 zT,.arr 3 (t2.threads.map qai.toD),.arr 8 (t2.slices.map qae.toD),.arr 4 (t2.samples.map qam.toD),.arr 3 (t2.steps.map qa7.toD),.arr 7 (t2.blocks.map qaw.toD)] _
 simp only[zU,seval,L1,L2,L3,L4,M1,M2,M3,M4,L1s,L2s,L3s,L4s,M1s,M2s,M3s,M4s,qsl,qsk]
 repeat((with_reducible apply aI);exact sdp)
 refine qb3 (R:=fun r ν=>r=.mapr 5∧ν=[.map none (qb7 (val (decide (0<t2.threads.length)) 6 t2.threads.length) (val (decide (0<t2.slices.length)) 7 t2.slices.length) (val (decide (0<t2.samples.length+t2.blocks.length)) 8 (frN t2).length) (val (decide (0<t2.steps.length)) 9 t2.steps.length)),
   .arr 1 ((t2.threads.map (·.name)).map .str),.arr 1 ((t2.slices.map (·.name)).map .str),.arr 1 ((frN t2).map .str),.arr 1 ((t2.steps.map (·.name)).map .str)]) [2,3,4,5,6] (Qon t2) (by simp) (by simp) rfl rfl (fun j i h=>by rcases j with _|_|_|_|_|j<;>simp at h<;>subst h<;>rfl) ((Qpr t2 ⟨h1,h2,h3,h4,h5,h6,h7,h8⟩ s2).mono fun r s hr=>⟨_,by rw[hr.2];rfl,hr.1,rfl⟩) (fun r ν hr=>?_)
 obtain⟨rfl,rfl⟩:=hr
 have em:qdo (qb6 [2,3,4,5,6] 7) (.map none (qb7 (val (decide (0<t2.threads.length)) 6 t2.threads.length) (val (decide (0<t2.slices.length)) 7 t2.slices.length) (val (decide (0<t2.samples.length+t2.blocks.length)) 8 (frN t2).length) (val (decide (0<t2.steps.length)) 9 t2.steps.length)))=.map none (qb7 (val (decide (0<t2.threads.length)) 8 t2.threads.length) (val (decide (0<t2.slices.length)) 9 t2.slices.length) (val (decide (0<t2.samples.length+t2.blocks.length)) 10 (frN t2).length) (val (decide (0<t2.steps.length)) 11 t2.steps.length)):=by
  show Blk.map none _=_
  rw[qfj,qsj,qsj,qsj,qsj];rfl
 show qar _ _ _ _ _ _ (putE _ _ (.mapr 7)) [.box 10 (.agg [.d (.int .i64 t2.lo),.d (.int .i64 t2.hi),.osl 2 0 t2.threads.length,.osl 3 0 t2.slices.length,.d (.sl (t2.states.map qas.toD)),.d (.sl (t2.flows.map qbj.toD)),.osl 4 0 t2.samples.length,.osl 5 0 t2.steps.length,.osl 6 0 t2.blocks.length,.d (.sl (t2.lost.map qb5.toD))]),.box 10 zT,.arr 3 (t2.threads.map qai.toD),.arr 8 (t2.slices.map qae.toD),.arr 4 (t2.samples.map qam.toD),.arr 3 (t2.steps.map qa7.toD),.arr 7 (t2.blocks.map qaw.toD),qdo (qb6 [2,3,4,5,6] 7) (.map none (qb7 (val (decide (0<t2.threads.length)) 6 t2.threads.length) (val (decide (0<t2.slices.length)) 7 t2.slices.length) (val (decide (0<t2.samples.length+t2.blocks.length)) 8 (frN t2).length) (val (decide (0<t2.steps.length)) 9 t2.steps.length))),.arr 1 ((t2.threads.map (·.name)).map .str),.arr 1 ((t2.slices.map (·.name)).map .str),.arr 1 ((frN t2).map .str),.arr 1 ((t2.steps.map (·.name)).map .str)] _
 rw[em]
 simp only[zU,seval,L1,L2,L3,L4,M1,M2,M3,M4,L1s,L2s,L3s,L4s,M1s,M2s,M3s,M4s,qsl,qsk]
 repeat((with_reducible apply aI);exact sdp)
 refine qap 4 (fun k=>[(0,.d (.sl (l.map qao.toD))),(3,.ptr 0 0),(4,.ptr 1 0),(8,.mapr 7),(9,.mapr 12),(34,.osl 13 0 4),(35,.d (.int .i64 4)),(36,.d (.int .i64 k))]) (fun k=>[.box 10 (.agg [.d (.int .i64 t2.lo),.d (.int .i64 t2.hi),.osl 2 0 t2.threads.length,.osl 3 0 t2.slices.length,.d (.sl (t2.states.map qas.toD)),.d (.sl (t2.flows.map qbj.toD)),.osl 4 0 t2.samples.length,.osl 5 0 t2.steps.length,.osl 6 0 t2.blocks.length,.d (.sl (t2.lost.map qb5.toD))]),.box 10 zT,.arr 3 (t2.threads.map qai.toD),.arr 8 (t2.slices.map qae.toD),.arr 4 (t2.samples.map qam.toD),.arr 3 (t2.steps.map qa7.toD),.arr 7 (t2.blocks.map qaw.toD),.map none (qb7 (val (decide (0<t2.threads.length)) 8 t2.threads.length) (val (decide (0<t2.slices.length)) 9 t2.slices.length) (val (decide (0<t2.samples.length+t2.blocks.length)) 10 (frN t2).length) (val (decide (0<t2.steps.length)) 11 t2.steps.length)),.frz 1 ((t2.threads.map (·.name)).map .str),.frz 1 ((t2.slices.map (·.name)).map .str),.frz 1 ((frN t2).map .str),.frz 1 ((t2.steps.map (·.name)).map .str),.map none (hmK k),.arr 1 [.str qax,.str qa5,.str qa4,.str qay]]++(Q0x l t2).take (2*k)) (okK l t2) ⟨fun h=>absurd h (by omega),fun h=>absurd h (by omega),fun h=>absurd h (by omega),fun h=>absurd h (by omega)⟩ ?_ ?_
 ·refine qaa [8,9,10,11] [0,1,2,3,4,5,6,7,8,9,10,11,12,13] rfl (by simp) ?_ ?_
  ·simp only[zU,seval,L1,L2,L3,L4,M1,M2,M3,M4,L1s,L2s,L3s,L4s,M1s,M2s,M3s,M4s,qsl,qsk]
   try rfl
  ·rw[qwe]
   show[_,_,_,_,_,_,_,qbs _ _ (.map none (qb7 (val (decide (0<t2.threads.length)) 8 t2.threads.length) (val (decide (0<t2.slices.length)) 9 t2.slices.length) (val (decide (0<t2.samples.length+t2.blocks.length)) 10 (frN t2).length) (val (decide (0<t2.steps.length)) 11 t2.steps.length))),_,_,_,_,.map none (fun k=>(qb7 none none none none k).map (qbk _ _)),_]=_
   rw[qjo _ _ _ _ _ _ _ _ rfl rfl rfl rfl,qfj];rfl
 intro k hok hk4
 have hk5:k=0∨k=1∨k=2∨k=3∨k=4:=by omega
 have hcol:∀b1 b2 b3 b4,qgh l qax (t2.threads.map (·.name))=b1→qgh l qa5 (t2.slices.map (·.name))=b2→qgh l qa4 (frN t2)=b3→qgh l qay (t2.steps.map (·.name))=b4→qky l t2=(b1||b2||b3||b4):=fun b1 b2 b3 b4 q1 q2 q3 q4=>by rw[qky,q1,q2,q3,q4]
 rcases hk5 with rfl|rfl|rfl|rfl|rfl
 ·show evC _ _ _ _ _ [(0,.d (.sl (l.map qao.toD))),(3,.ptr 0 0),(4,.ptr 1 0),(8,.mapr 7),(9,.mapr 12),(34,.osl 13 0 4),(35,.d (.int .i64 4)),(36,.d (.int .i64 0))] [.box 10 (.agg [.d (.int .i64 t2.lo),.d (.int .i64 t2.hi),.osl 2 0 t2.threads.length,.osl 3 0 t2.slices.length,.d (.sl (t2.states.map qas.toD)),.d (.sl (t2.flows.map qbj.toD)),.osl 4 0 t2.samples.length,.osl 5 0 t2.steps.length,.osl 6 0 t2.blocks.length,.d (.sl (t2.lost.map qb5.toD))]),.box 10 zT,.arr 3 (t2.threads.map qai.toD),.arr 8 (t2.slices.map qae.toD),.arr 4 (t2.samples.map qam.toD),.arr 3 (t2.steps.map qa7.toD),.arr 7 (t2.blocks.map qaw.toD),.map none (qb7 (val (decide (0<t2.threads.length)) 8 t2.threads.length) (val (decide (0<t2.slices.length)) 9 t2.slices.length) (val (decide (0<t2.samples.length+t2.blocks.length)) 10 (frN t2).length) (val (decide (0<t2.steps.length)) 11 t2.steps.length)),.frz 1 ((t2.threads.map (·.name)).map .str),.frz 1 ((t2.slices.map (·.name)).map .str),.frz 1 ((frN t2).map .str),.frz 1 ((t2.steps.map (·.name)).map .str),.map none (qb7 none none none none),.arr 1 [.str qax,.str qa5,.str qa4,.str qay]] _
  simp only[zU,seval,L1,L2,L3,L4,M1,M2,M3,M4,L1s,L2s,L3s,L4s,M1s,M2s,M3s,M4s,qsl,qsk]
  refine qsx l qax hl (decide (0<t2.threads.length)) 8 (t2.threads.map (·.name)) (by first|(simp only[List.length_map];omega)|omega) (by first|rfl|simp only[List.length_map]) (fun hp=>qpm _ hp) _ rfl ?_
  simp only[zU,seval,L1,L2,L3,L4,M1,M2,M3,M4,L1s,L2s,L3s,L4s,M1s,M2s,M3s,M4s,qsl,qsk]
  refine ifC.mk (fun hc=>?_) (fun hc=>?_)
  ·refine⟨_,_,qd2 rfl (x:=qjt.toD) rfl,?_,rfl⟩
   rw[e0,if_pos (by rw[qky,hc];simp)]
  ·refine⟨⟨fun _=>hc,fun h=>absurd h (by omega),fun h=>absurd h (by omega),fun h=>absurd h (by omega)⟩,?_⟩
   refine qaa [] [0,1,2,3,4,5,6,7,8,9,10,11,12,13,14,15] rfl (by simp) ?_ ?_
   ·simp only[zU,seval,L1,L2,L3,L4,M1,M2,M3,M4,L1s,L2s,L3s,L4s,M1s,M2s,M3s,M4s,qsl,qsk,Int.reduceAdd]
    try rfl
   ·show[_,_,_,_,_,_,_,qbs _ _ (.map none (qb7 (val (decide (0<t2.threads.length)) 8 t2.threads.length) (val (decide (0<t2.slices.length)) 9 t2.slices.length) (val (decide (0<t2.samples.length+t2.blocks.length)) 10 (frN t2).length) (val (decide (0<t2.steps.length)) 11 t2.steps.length))),_,_,_,_,.map none (fun k=>(qb7 (some (.ptr 14 0)) none none none k).map (qbk _ _)),_,_,qbs _ _ (.map none (qb2 (qdj l qax (t2.threads.map (·.name)))))]=_
    rw[qjo _ _ _ _ _ _ _ _ rfl rfl rfl rfl,qfj,qgo];rfl
 ·show evC _ _ _ _ _ [(0,.d (.sl (l.map qao.toD))),(3,.ptr 0 0),(4,.ptr 1 0),(8,.mapr 7),(9,.mapr 12),(34,.osl 13 0 4),(35,.d (.int .i64 4)),(36,.d (.int .i64 1))] [.box 10 (.agg [.d (.int .i64 t2.lo),.d (.int .i64 t2.hi),.osl 2 0 t2.threads.length,.osl 3 0 t2.slices.length,.d (.sl (t2.states.map qas.toD)),.d (.sl (t2.flows.map qbj.toD)),.osl 4 0 t2.samples.length,.osl 5 0 t2.steps.length,.osl 6 0 t2.blocks.length,.d (.sl (t2.lost.map qb5.toD))]),.box 10 zT,.arr 3 (t2.threads.map qai.toD),.arr 8 (t2.slices.map qae.toD),.arr 4 (t2.samples.map qam.toD),.arr 3 (t2.steps.map qa7.toD),.arr 7 (t2.blocks.map qaw.toD),.map none (qb7 (val (decide (0<t2.threads.length)) 8 t2.threads.length) (val (decide (0<t2.slices.length)) 9 t2.slices.length) (val (decide (0<t2.samples.length+t2.blocks.length)) 10 (frN t2).length) (val (decide (0<t2.steps.length)) 11 t2.steps.length)),.frz 1 ((t2.threads.map (·.name)).map .str),.frz 1 ((t2.slices.map (·.name)).map .str),.frz 1 ((frN t2).map .str),.frz 1 ((t2.steps.map (·.name)).map .str),.map none (qb7 (some (.ptr 14 0)) none none none),.arr 1 [.str qax,.str qa5,.str qa4,.str qay],.box 3 (.agg [.d (.sl (l.map qao.toD)),.d (.str qax),.mapr 15]),.map none (qb2 (qdj l qax (t2.threads.map (·.name))))] _
  simp only[zU,seval,L1,L2,L3,L4,M1,M2,M3,M4,L1s,L2s,L3s,L4s,M1s,M2s,M3s,M4s,qsl,qsk]
  refine qsx l qa5 hl (decide (0<t2.slices.length)) 9 (t2.slices.map (·.name)) (by first|(simp only[List.length_map];omega)|omega) (by first|rfl|simp only[List.length_map]) (fun hp=>qpm _ hp) _ rfl ?_
  simp only[zU,seval,L1,L2,L3,L4,M1,M2,M3,M4,L1s,L2s,L3s,L4s,M1s,M2s,M3s,M4s,qsl,qsk]
  refine ifC.mk (fun hc=>?_) (fun hc=>?_)
  ·refine⟨_,_,qd2 rfl (x:=qjt.toD) rfl,?_,rfl⟩
   rw[e0,if_pos (by rw[qky,hc];simp)]
  ·refine⟨⟨fun _=>hok.1 (by omega),fun _=>hc,fun h=>absurd h (by omega),fun h=>absurd h (by omega)⟩,?_⟩
   refine qaa [] [0,1,2,3,4,5,6,7,8,9,10,11,12,13,14,15,16,17] rfl (by simp) ?_ ?_
   ·simp only[zU,seval,L1,L2,L3,L4,M1,M2,M3,M4,L1s,L2s,L3s,L4s,M1s,M2s,M3s,M4s,qsl,qsk,Int.reduceAdd]
    try rfl
   ·show[_,_,_,_,_,_,_,qbs _ _ (.map none (qb7 (val (decide (0<t2.threads.length)) 8 t2.threads.length) (val (decide (0<t2.slices.length)) 9 t2.slices.length) (val (decide (0<t2.samples.length+t2.blocks.length)) 10 (frN t2).length) (val (decide (0<t2.steps.length)) 11 t2.steps.length))),_,_,_,_,.map none (fun k=>(qb7 (some (.ptr 14 0)) (some (.ptr 16 0)) none none k).map (qbk _ _)),_,_,qbs _ _ (.map none (qb2 (qdj l qax (t2.threads.map (·.name))))),_,qbs _ _ (.map none (qb2 (qdj l qa5 (t2.slices.map (·.name)))))]=_
    rw[qjo _ _ _ _ _ _ _ _ rfl rfl rfl rfl,qfj,qgo,qgo];rfl
 ·show evC _ _ _ _ _ [(0,.d (.sl (l.map qao.toD))),(3,.ptr 0 0),(4,.ptr 1 0),(8,.mapr 7),(9,.mapr 12),(34,.osl 13 0 4),(35,.d (.int .i64 4)),(36,.d (.int .i64 2))] [.box 10 (.agg [.d (.int .i64 t2.lo),.d (.int .i64 t2.hi),.osl 2 0 t2.threads.length,.osl 3 0 t2.slices.length,.d (.sl (t2.states.map qas.toD)),.d (.sl (t2.flows.map qbj.toD)),.osl 4 0 t2.samples.length,.osl 5 0 t2.steps.length,.osl 6 0 t2.blocks.length,.d (.sl (t2.lost.map qb5.toD))]),.box 10 zT,.arr 3 (t2.threads.map qai.toD),.arr 8 (t2.slices.map qae.toD),.arr 4 (t2.samples.map qam.toD),.arr 3 (t2.steps.map qa7.toD),.arr 7 (t2.blocks.map qaw.toD),.map none (qb7 (val (decide (0<t2.threads.length)) 8 t2.threads.length) (val (decide (0<t2.slices.length)) 9 t2.slices.length) (val (decide (0<t2.samples.length+t2.blocks.length)) 10 (frN t2).length) (val (decide (0<t2.steps.length)) 11 t2.steps.length)),.frz 1 ((t2.threads.map (·.name)).map .str),.frz 1 ((t2.slices.map (·.name)).map .str),.frz 1 ((frN t2).map .str),.frz 1 ((t2.steps.map (·.name)).map .str),.map none (qb7 (some (.ptr 14 0)) (some (.ptr 16 0)) none none),.arr 1 [.str qax,.str qa5,.str qa4,.str qay],.box 3 (.agg [.d (.sl (l.map qao.toD)),.d (.str qax),.mapr 15]),.map none (qb2 (qdj l qax (t2.threads.map (·.name)))),.box 3 (.agg [.d (.sl (l.map qao.toD)),.d (.str qa5),.mapr 17]),.map none (qb2 (qdj l qa5 (t2.slices.map (·.name))))] _
  simp only[zU,seval,L1,L2,L3,L4,M1,M2,M3,M4,L1s,L2s,L3s,L4s,M1s,M2s,M3s,M4s,qsl,qsk]
  refine qsx l qa4 hl (decide (0<t2.samples.length+t2.blocks.length)) 10 (frN t2) (by first|(simp only[List.length_map];omega)|omega) (by first|rfl|simp only[List.length_map]) (fun hp=>Qmq hp) _ rfl ?_
  simp only[zU,seval,L1,L2,L3,L4,M1,M2,M3,M4,L1s,L2s,L3s,L4s,M1s,M2s,M3s,M4s,qsl,qsk]
  refine ifC.mk (fun hc=>?_) (fun hc=>?_)
  ·refine⟨_,_,qd2 rfl (x:=qjt.toD) rfl,?_,rfl⟩
   rw[e0,if_pos (by rw[qky,hc];simp)]
  ·refine⟨⟨fun _=>hok.1 (by omega),fun _=>hok.2.1 (by omega),fun _=>hc,fun h=>absurd h (by omega)⟩,?_⟩
   refine qaa [] [0,1,2,3,4,5,6,7,8,9,10,11,12,13,14,15,16,17,18,19] rfl (by simp) ?_ ?_
   ·simp only[zU,seval,L1,L2,L3,L4,M1,M2,M3,M4,L1s,L2s,L3s,L4s,M1s,M2s,M3s,M4s,qsl,qsk,Int.reduceAdd]
    try rfl
   ·show[_,_,_,_,_,_,_,qbs _ _ (.map none (qb7 (val (decide (0<t2.threads.length)) 8 t2.threads.length) (val (decide (0<t2.slices.length)) 9 t2.slices.length) (val (decide (0<t2.samples.length+t2.blocks.length)) 10 (frN t2).length) (val (decide (0<t2.steps.length)) 11 t2.steps.length))),_,_,_,_,.map none (fun k=>(qb7 (some (.ptr 14 0)) (some (.ptr 16 0)) (some (.ptr 18 0)) none k).map (qbk _ _)),_,_,qbs _ _ (.map none (qb2 (qdj l qax (t2.threads.map (·.name))))),_,qbs _ _ (.map none (qb2 (qdj l qa5 (t2.slices.map (·.name))))),_,qbs _ _ (.map none (qb2 (qdj l qa4 (frN t2))))]=_
    rw[qjo _ _ _ _ _ _ _ _ rfl rfl rfl rfl,qfj,qgo,qgo,qgo];rfl
 ·show evC _ _ _ _ _ [(0,.d (.sl (l.map qao.toD))),(3,.ptr 0 0),(4,.ptr 1 0),(8,.mapr 7),(9,.mapr 12),(34,.osl 13 0 4),(35,.d (.int .i64 4)),(36,.d (.int .i64 3))] [.box 10 (.agg [.d (.int .i64 t2.lo),.d (.int .i64 t2.hi),.osl 2 0 t2.threads.length,.osl 3 0 t2.slices.length,.d (.sl (t2.states.map qas.toD)),.d (.sl (t2.flows.map qbj.toD)),.osl 4 0 t2.samples.length,.osl 5 0 t2.steps.length,.osl 6 0 t2.blocks.length,.d (.sl (t2.lost.map qb5.toD))]),.box 10 zT,.arr 3 (t2.threads.map qai.toD),.arr 8 (t2.slices.map qae.toD),.arr 4 (t2.samples.map qam.toD),.arr 3 (t2.steps.map qa7.toD),.arr 7 (t2.blocks.map qaw.toD),.map none (qb7 (val (decide (0<t2.threads.length)) 8 t2.threads.length) (val (decide (0<t2.slices.length)) 9 t2.slices.length) (val (decide (0<t2.samples.length+t2.blocks.length)) 10 (frN t2).length) (val (decide (0<t2.steps.length)) 11 t2.steps.length)),.frz 1 ((t2.threads.map (·.name)).map .str),.frz 1 ((t2.slices.map (·.name)).map .str),.frz 1 ((frN t2).map .str),.frz 1 ((t2.steps.map (·.name)).map .str),.map none (qb7 (some (.ptr 14 0)) (some (.ptr 16 0)) (some (.ptr 18 0)) none),.arr 1 [.str qax,.str qa5,.str qa4,.str qay],.box 3 (.agg [.d (.sl (l.map qao.toD)),.d (.str qax),.mapr 15]),.map none (qb2 (qdj l qax (t2.threads.map (·.name)))),.box 3 (.agg [.d (.sl (l.map qao.toD)),.d (.str qa5),.mapr 17]),.map none (qb2 (qdj l qa5 (t2.slices.map (·.name)))),.box 3 (.agg [.d (.sl (l.map qao.toD)),.d (.str qa4),.mapr 19]),.map none (qb2 (qdj l qa4 (frN t2)))] _
  simp only[zU,seval,L1,L2,L3,L4,M1,M2,M3,M4,L1s,L2s,L3s,L4s,M1s,M2s,M3s,M4s,qsl,qsk]
  refine qsx l qay hl (decide (0<t2.steps.length)) 11 (t2.steps.map (·.name)) (by first|(simp only[List.length_map];omega)|omega) (by first|rfl|simp only[List.length_map]) (fun hp=>qpm _ hp) _ rfl ?_
  simp only[zU,seval,L1,L2,L3,L4,M1,M2,M3,M4,L1s,L2s,L3s,L4s,M1s,M2s,M3s,M4s,qsl,qsk]
  refine ifC.mk (fun hc=>?_) (fun hc=>?_)
  ·refine⟨_,_,qd2 rfl (x:=qjt.toD) rfl,?_,rfl⟩
   rw[e0,if_pos (by rw[qky,hc];simp)]
  ·refine⟨⟨fun _=>hok.1 (by omega),fun _=>hok.2.1 (by omega),fun _=>hok.2.2.1 (by omega),fun _=>hc⟩,?_⟩
   refine qaa [] [0,1,2,3,4,5,6,7,8,9,10,11,12,13,14,15,16,17,18,19,20,21] rfl (by simp) ?_ ?_
   ·simp only[zU,seval,L1,L2,L3,L4,M1,M2,M3,M4,L1s,L2s,L3s,L4s,M1s,M2s,M3s,M4s,qsl,qsk,Int.reduceAdd]
    try rfl
   ·show[_,_,_,_,_,_,_,qbs _ _ (.map none (qb7 (val (decide (0<t2.threads.length)) 8 t2.threads.length) (val (decide (0<t2.slices.length)) 9 t2.slices.length) (val (decide (0<t2.samples.length+t2.blocks.length)) 10 (frN t2).length) (val (decide (0<t2.steps.length)) 11 t2.steps.length))),_,_,_,_,.map none (fun k=>(qb7 (some (.ptr 14 0)) (some (.ptr 16 0)) (some (.ptr 18 0)) (some (.ptr 20 0)) k).map (qbk _ _)),_,_,qbs _ _ (.map none (qb2 (qdj l qax (t2.threads.map (·.name))))),_,qbs _ _ (.map none (qb2 (qdj l qa5 (t2.slices.map (·.name))))),_,qbs _ _ (.map none (qb2 (qdj l qa4 (frN t2)))),_,qbs _ _ (.map none (qb2 (qdj l qay (t2.steps.map (·.name)))))]=_
    rw[qjo _ _ _ _ _ _ _ _ rfl rfl rfl rfl,qfj,qgo,qgo,qgo,qgo];rfl
 ·obtain⟨q1,q2,q3,q4⟩:=hok
  have ec:qky l t2=false:=by rw[qky,q1 (by omega),q2 (by omega),q3 (by omega),q4 (by omega)];rfl
  rw[if_neg (by rw[ec];simp)] at e0
  show evC _ _ _ _ _ [(0,.d (.sl (l.map qao.toD))),(3,.ptr 0 0),(4,.ptr 1 0),(8,.mapr 7),(9,.mapr 12),(34,.osl 13 0 4),(35,.d (.int .i64 4)),(36,.d (.int .i64 4))] [.box 10 (.agg [.d (.int .i64 t2.lo),.d (.int .i64 t2.hi),.osl 2 0 t2.threads.length,.osl 3 0 t2.slices.length,.d (.sl (t2.states.map qas.toD)),.d (.sl (t2.flows.map qbj.toD)),.osl 4 0 t2.samples.length,.osl 5 0 t2.steps.length,.osl 6 0 t2.blocks.length,.d (.sl (t2.lost.map qb5.toD))]),.box 10 zT,.arr 3 (t2.threads.map qai.toD),.arr 8 (t2.slices.map qae.toD),.arr 4 (t2.samples.map qam.toD),.arr 3 (t2.steps.map qa7.toD),.arr 7 (t2.blocks.map qaw.toD),.map none (qb7 (val (decide (0<t2.threads.length)) 8 t2.threads.length) (val (decide (0<t2.slices.length)) 9 t2.slices.length) (val (decide (0<t2.samples.length+t2.blocks.length)) 10 (frN t2).length) (val (decide (0<t2.steps.length)) 11 t2.steps.length)),.frz 1 ((t2.threads.map (·.name)).map .str),.frz 1 ((t2.slices.map (·.name)).map .str),.frz 1 ((frN t2).map .str),.frz 1 ((t2.steps.map (·.name)).map .str),.map none (qb7 (some (.ptr 14 0)) (some (.ptr 16 0)) (some (.ptr 18 0)) (some (.ptr 20 0))),.arr 1 [.str qax,.str qa5,.str qa4,.str qay],.box 3 (.agg [.d (.sl (l.map qao.toD)),.d (.str qax),.mapr 15]),.map none (qb2 (qdj l qax (t2.threads.map (·.name)))),.box 3 (.agg [.d (.sl (l.map qao.toD)),.d (.str qa5),.mapr 17]),.map none (qb2 (qdj l qa5 (t2.slices.map (·.name)))),.box 3 (.agg [.d (.sl (l.map qao.toD)),.d (.str qa4),.mapr 19]),.map none (qb2 (qdj l qa4 (frN t2))),.box 3 (.agg [.d (.sl (l.map qao.toD)),.d (.str qay),.mapr 21]),.map none (qb2 (qdj l qay (t2.steps.map (·.name))))] _
  simp only[zU,seval,L1,L2,L3,L4,M1,M2,M3,M4,L1s,L2s,L3s,L4s,M1s,M2s,M3s,M4s,qsl,qsk]
  repeat((with_reducible apply aI);exact sdp)
  obtain⟨t3,ht3⟩:∃t3,t3=Qxr l t2:=⟨_,rfl⟩
  have hrep:=Qgv (Gl:=G2) (l.map qao.toD) (qdj l qax (t2.threads.map (·.name))) (qdj l qa5 (t2.slices.map (·.name))) (qdj l qa4 (frN t2)) (qdj l qay (t2.steps.map (·.name))) t2 ⟨h1,h2,h3,h4,h5,h6,h7,h8⟩ s2
  refine qaz ((qal.under [2,3,4,5,6,12,14,15,16,17,18,19,20,21] (by decide) (by simp) (R:=fun r s=>r=qgi t3∧s=Qon t3++[.map none (qb7 (some (.ptr 6 0)) (some (.ptr 8 0)) (some (.ptr 10 0)) (some (.ptr 12 0))),.box 3 (.agg [.d (.sl (l.map qao.toD)),.d (.str qax),.mapr 7]),.map none (qb2 (qdj l qax (t2.threads.map (·.name)))),.box 3 (.agg [.d (.sl (l.map qao.toD)),.d (.str qa5),.mapr 9]),.map none (qb2 (qdj l qa5 (t2.slices.map (·.name)))),.box 3 (.agg [.d (.sl (l.map qao.toD)),.d (.str qa4),.mapr 11]),.map none (qb2 (qdj l qa4 (frN t2))),.box 3 (.agg [.d (.sl (l.map qao.toD)),.d (.str qay),.mapr 13]),.map none (qb2 (qdj l qay (t2.steps.map (·.name))))]) ?_).mono fun r s hss=>?_)
  ·have er:qdy [2,3,4,5,6,12,14,15,16,17,18,19,20,21] [.box 10 (.agg [.d (.int .i64 t2.lo),.d (.int .i64 t2.hi),.osl 2 0 t2.threads.length,.osl 3 0 t2.slices.length,.d (.sl (t2.states.map qas.toD)),.d (.sl (t2.flows.map qbj.toD)),.osl 4 0 t2.samples.length,.osl 5 0 t2.steps.length,.osl 6 0 t2.blocks.length,.d (.sl (t2.lost.map qb5.toD))]),.box 10 zT,.arr 3 (t2.threads.map qai.toD),.arr 8 (t2.slices.map qae.toD),.arr 4 (t2.samples.map qam.toD),.arr 3 (t2.steps.map qa7.toD),.arr 7 (t2.blocks.map qaw.toD),.map none (qb7 (val (decide (0<t2.threads.length)) 8 t2.threads.length) (val (decide (0<t2.slices.length)) 9 t2.slices.length) (val (decide (0<t2.samples.length+t2.blocks.length)) 10 (frN t2).length) (val (decide (0<t2.steps.length)) 11 t2.steps.length)),.frz 1 ((t2.threads.map (·.name)).map .str),.frz 1 ((t2.slices.map (·.name)).map .str),.frz 1 ((frN t2).map .str),.frz 1 ((t2.steps.map (·.name)).map .str),.map none (qb7 (some (.ptr 14 0)) (some (.ptr 16 0)) (some (.ptr 18 0)) (some (.ptr 20 0))),.arr 1 [.str qax,.str qa5,.str qa4,.str qay],.box 3 (.agg [.d (.sl (l.map qao.toD)),.d (.str qax),.mapr 15]),.map none (qb2 (qdj l qax (t2.threads.map (·.name)))),.box 3 (.agg [.d (.sl (l.map qao.toD)),.d (.str qa5),.mapr 17]),.map none (qb2 (qdj l qa5 (t2.slices.map (·.name)))),.box 3 (.agg [.d (.sl (l.map qao.toD)),.d (.str qa4),.mapr 19]),.map none (qb2 (qdj l qa4 (frN t2))),.box 3 (.agg [.d (.sl (l.map qao.toD)),.d (.str qay),.mapr 21]),.map none (qb2 (qdj l qay (t2.steps.map (·.name))))]=Qon t2++[.map none (qb7 (some (.ptr 6 0)) (some (.ptr 8 0)) (some (.ptr 10 0)) (some (.ptr 12 0))),.box 3 (.agg [.d (.sl (l.map qao.toD)),.d (.str qax),.mapr 7]),.map none (qb2 (qdj l qax (t2.threads.map (·.name)))),.box 3 (.agg [.d (.sl (l.map qao.toD)),.d (.str qa5),.mapr 9]),.map none (qb2 (qdj l qa5 (t2.slices.map (·.name)))),.box 3 (.agg [.d (.sl (l.map qao.toD)),.d (.str qa4),.mapr 11]),.map none (qb2 (qdj l qa4 (frN t2))),.box 3 (.agg [.d (.sl (l.map qao.toD)),.d (.str qay),.mapr 13]),.map none (qb2 (qdj l qay (t2.steps.map (·.name))))]:=by
    show[_,_,_,_,_,.map none (fun k=>((qb7 (some (.ptr 14 0)) (some (.ptr 16 0)) (some (.ptr 18 0)) (some (.ptr 20 0))) k).map (qbk _ _)),_,qbs _ _ (.map none (qb2 (qdj l qax (t2.threads.map (·.name))))),_,qbs _ _ (.map none (qb2 (qdj l qa5 (t2.slices.map (·.name))))),_,qbs _ _ (.map none (qb2 (qdj l qa4 (frN t2)))),_,qbs _ _ (.map none (qb2 (qdj l qay (t2.steps.map (·.name)))))]=_
    rw[qfj,qgo,qgo,qgo,qgo];rfl
   rw[er]
   rw[ht3]
   exact hrep
  obtain⟨r0,s0,⟨rfl,rfl⟩,rfl,rfl⟩:=hss
  have m2:t3.slices.length≤1000:=by rw[ht3];show(t2.slices.map _).length≤1000;rw[List.length_map];exact h2
  have m3:t3.states.length≤1000:=by rw[ht3];exact h3
  have m4:t3.flows.length≤1000:=by rw[ht3];exact h4
  have m5:t3.samples.length≤1000:=by rw[ht3];show(t2.samples.map _).length≤1000;rw[List.length_map];exact h5
  have m6:t3.steps.length≤1000:=by rw[ht3];show(qfd _ _).length≤1000;rw[qf8,List.length_map];exact h6
  have m7:t3.blocks.length≤1000:=by rw[ht3];show(t2.blocks.map _).length≤1000;rw[List.length_map];exact h7
  have m8:t3.lost.length≤1000:=by rw[ht3];exact h8
  rw[←ht3] at e0
  show qar _ _ _ _ _ _ (putE _ _ (.agg [.d (.int .i64 t3.lo),.d (.int .i64 t3.hi),.osl 2 0 t3.threads.length,.osl 3 0 t3.slices.length,.d (.sl (t3.states.map qas.toD)),.d (.sl (t3.flows.map qbj.toD)),.osl 4 0 t3.samples.length,.osl 5 0 t3.steps.length,.osl 6 0 t3.blocks.length,.d (.sl (t3.lost.map qb5.toD))])) [.box 10 (.agg [.d (.int .i64 t2.lo),.d (.int .i64 t2.hi),.osl 2 0 t2.threads.length,.osl 3 0 t2.slices.length,.d (.sl (t2.states.map qas.toD)),.d (.sl (t2.flows.map qbj.toD)),.osl 4 0 t2.samples.length,.osl 5 0 t2.steps.length,.osl 6 0 t2.blocks.length,.d (.sl (t2.lost.map qb5.toD))]),.box 10 zT,.arr 3 (t3.threads.map qai.toD),.arr 8 (t3.slices.map qae.toD),.arr 4 (t3.samples.map qam.toD),.arr 3 (t3.steps.map qa7.toD),.arr 7 (t3.blocks.map qaw.toD),_,_,_,_,_,_,_,_,_,_,_,_,_,_,_] _
  simp only[zU,seval,L1,L2,L3,L4,M1,M2,M3,M4,L1s,L2s,L3s,L4s,M1s,M2s,M3s,M4s,qsl,qsk]
  repeat((with_reducible apply aI);exact sdp)
  (try simp only[zU,seval,L1,L2,L3,L4,M1,M2,M3,M4,L1s,L2s,L3s,L4s,M1s,M2s,M3s,M4s,qsl,qsk,@qag ((t3.slices.length:Int)+t3.states.length) (by omega),@qag ((t3.slices.length:Int)+t3.states.length+t3.flows.length) (by omega),@qag ((t3.slices.length:Int)+t3.states.length+t3.flows.length+t3.samples.length) (by omega),@qag ((t3.slices.length:Int)+t3.states.length+t3.flows.length+t3.samples.length+t3.steps.length) (by omega),@qag ((t3.slices.length:Int)+t3.states.length+t3.flows.length+t3.samples.length+t3.steps.length+t3.blocks.length) (by omega),@qag ((t3.slices.length:Int)+t3.states.length+t3.flows.length+t3.samples.length+t3.steps.length+t3.blocks.length+t3.lost.length) (by omega)])
  refine ifC.mk (fun hc=>?_) (fun hc=>?_)
  ·have hr:qpa t3=0:=by simp only[beq_iff_eq] at hc;unfold qpa;omega
   refine⟨_,_,qd2 rfl (x:=(q14 t3).toD) ?_,?_,rfl⟩
   ·rw[q14,if_pos hr]
    show D.agg [.int .i64 0,.int .i64 0,.sl (((t3.threads.map qai.toD).drop 0).take t3.threads.length),.sl (((t3.slices.map qae.toD).drop 0).take t3.slices.length),.sl (t3.states.map qas.toD),.sl (t3.flows.map qbj.toD),.sl (((t3.samples.map qam.toD).drop 0).take t3.samples.length),.sl (((t3.steps.map qa7.toD).drop 0).take t3.steps.length),.sl (((t3.blocks.map qaw.toD).drop 0).take t3.blocks.length),.sl (t3.lost.map qb5.toD)]=_
    rw[List.drop_zero,qbe,List.drop_zero,qbe,List.drop_zero,qbe,List.drop_zero,qbe,List.drop_zero,qbe];rfl
   ·rw[e0]
  ·have hr:¬qpa t3=0:=by simp only[beq_eq_false_iff_ne,ne_eq] at hc;unfold qpa;omega
   refine⟨_,_,qd2 rfl (x:=(q14 t3).toD) ?_,?_,rfl⟩
   ·rw[q14,if_neg hr]
    show D.agg [.int .i64 t3.lo,.int .i64 t3.hi,.sl (((t3.threads.map qai.toD).drop 0).take t3.threads.length),.sl (((t3.slices.map qae.toD).drop 0).take t3.slices.length),.sl (t3.states.map qas.toD),.sl (t3.flows.map qbj.toD),.sl (((t3.samples.map qam.toD).drop 0).take t3.samples.length),.sl (((t3.steps.map qa7.toD).drop 0).take t3.steps.length),.sl (((t3.blocks.map qaw.toD).drop 0).take t3.blocks.length),.sl (t3.lost.map qb5.toD)]=_
    rw[List.drop_zero,qbe,List.drop_zero,qbe,List.drop_zero,qbe,List.drop_zero,qbe,List.drop_zero,qbe];rfl
   ·rw[e0]




def qlr (l:List qao) (t:qat) (x:qae):Bool:=!qcc l t.threads x.thread&&!qbw l qa5 x.name

def qjw {α:Type} (p:α→Bool) (f:α→α) (L:List α):List α:=(L.filter p).map f
theorem qo8 {α:Type} (p:α→Bool) (f:α→α) (L:List α):(qjw p f L).length≤L.length:=by
 rw[qjw,List.length_map];exact List.length_filter_le _ _
def qgj (l:List qao) (t:qat):qat:=
 {t with
  threads:=qjw (fun x=>!qbw l qax x.name) id t.threads
  slices:=qc4 (chF (qlr l t) t.slices).1
  states:=qdk (qcc l t.threads) t.states
  flows:=qjw (fun x=>!qcc l t.threads x.ft&&!qcc l t.threads x.tt) id t.flows
  samples:=qjw (fun x=>!qcc l t.threads x.thread) (frS l) t.samples
  steps:=qjw (fun x=>!qbw l qay x.name) id t.steps
  blocks:=qjw (fun x=>!qcc l t.threads x.thread) (q13 l) t.blocks
  lost:=qjw (fun x=>!qcc l t.threads x.thread) id t.lost}

theorem qpg:(qax==[116,104,114,101,97,100])=true:=by decide
theorem qr7:(qax==[115,108,105,99,101])=false:=by decide
theorem qjj:(qax==[102,114,97,109,101])=false:=by decide
theorem qoc:(qax==[99,111,117,110,116,101,114])=false:=by decide
theorem qr8:(qa5==[116,104,114,101,97,100])=false:=by decide
theorem qvy:(qa5==[115,108,105,99,101])=true:=by decide
theorem qkh:(qa5==[102,114,97,109,101])=false:=by decide
theorem qph:(qa5==[99,111,117,110,116,101,114])=false:=by decide
theorem qr9:(qa4==[116,104,114,101,97,100])=false:=by decide
theorem qvz:(qa4==[115,108,105,99,101])=false:=by decide
theorem qki:(qa4==[102,114,97,109,101])=true:=by decide
theorem qpi:(qa4==[99,111,117,110,116,101,114])=false:=by decide
theorem qod:(qay==[116,104,114,101,97,100])=false:=by decide
theorem qpj:(qay==[115,108,105,99,101])=false:=by decide
theorem qib:(qay==[102,114,97,109,101])=false:=by decide
theorem qmm:(qay==[99,111,117,110,116,101,114])=true:=by decide
theorem Qyp (t:qat) (ht:t.lim) (hs:t.limS):qbc prog Gl 48 [.d t.toD,.d (.str qax)] (.d (.sl ((t.threads.map (·.name)).map .str))):=by
 refine qbc.of2 ?_
 obtain⟨h1,h2,h3,h4,h5,h6,h7,h8⟩:=id ht
 refine qac func48 rfl rfl (by simp[ntmps48]) (qab rfl _ _ _ _ ?_)
 simp only[ntmps48,results48,qak,List.length_nil]
 simp only[zU,seval]
 refine qap t.threads.length (fun k=>[(1,.d (.str qax)),(2,.ptr 0 0),(5,.osl 1 0 ((t.threads.take k).map (·.name)).length),(6,.d (.int .i64 k))]) (fun k=>[.box 10 (.d t.toD),.arr 1 (((t.threads.take k).map (·.name)).map .str)]) (fun _=>True) trivial ?_ ?_
 ·refine(qep 5 1 rfl).trans ?_
  refine qaa [] [0,1] rfl (by simp) ?_ rfl
  simp only[zU,seval]
  try rfl
 intro k _ hk
 by_cases h:k<t.threads.length
 ·obtain⟨x,hx⟩:∃x,x=t.threads.getD k default:=⟨_,rfl⟩
  have eg:(t.threads.map qai.toD).getD k default=x.toD:=by rw[qaj _ _ _ h,←hx]
  have htk:t.threads.take (k+1)=t.threads.take k++[x]:=by rw[qa0 _ k h,←hx]
  simp only[zU,seval,(show(k:Int)<t.threads.length by omega),h,eg,qpg]
  repeat((with_reducible apply aI);exact sdp)
  rw[htk]
  refine qaa [] [0,3] rfl (by simp) ?_ ?_
  ·simp only[zU,seval,@qag ((k:Int)+1) (by omega)]
   try rfl
  ·have e1:List.take (List.take k t.threads).length (List.map D.str (List.map (fun x:qai=>x.name) (List.take k t.threads)))=List.map D.str (List.map (fun x:qai=>x.name) (List.take k t.threads)):=List.take_of_length_le (by simp)
   rw[e1,List.map_append,List.map_append];rfl
 have:k=t.threads.length:=by omega
 subst this
 simp only[zU,seval,(show ¬(t.threads.length:Int)<t.threads.length by omega),List.take_length]
 refine qap 0 (fun k=>[(1,.d (.str qax)),(2,.ptr 0 0),(5,.osl 1 0 (t.threads.map (·.name)).length),(7,.d (.int .i64 k))]) (fun k=>[.box 10 (.d t.toD),.arr 1 ((t.threads.map (·.name)).map .str)]) (fun _=>True) trivial ?_ ?_
 ·refine qaa [] [0,1] rfl (by simp) ?_ ?_
  ·simp only[zU,seval]
   try rfl
  ·rfl
 intro k _ hk
 have:k=0:=by omega
 subst this
 simp only[zU,seval,qr7]
 refine qap 0 (fun k=>[(1,.d (.str qax)),(2,.ptr 0 0),(5,.osl 1 0 (t.threads.map (·.name)).length),(8,.d (.int .i64 k))]) (fun k=>[.box 10 (.d t.toD),.arr 1 ((t.threads.map (·.name)).map .str)]) (fun _=>True) trivial ?_ ?_
 ·refine qaa [] [0,1] rfl (by simp) ?_ ?_
  ·simp only[zU,seval]
   try rfl
  ·rfl
 intro k _ hk
 have:k=0:=by omega
 subst this
 simp only[zU,seval,qjj]
 refine qap 0 (fun k=>[(1,.d (.str qax)),(2,.ptr 0 0),(5,.osl 1 0 (t.threads.map (·.name)).length),(9,.d (.int .i64 k))]) (fun k=>[.box 10 (.d t.toD),.arr 1 ((t.threads.map (·.name)).map .str)]) (fun _=>True) trivial ?_ ?_
 ·refine qaa [] [0,1] rfl (by simp) ?_ ?_
  ·simp only[zU,seval]
   try rfl
  ·rfl
 intro k _ hk
 have:k=0:=by omega
 subst this
 simp only[zU,seval,qjj]
 refine qap 0 (fun k=>[(1,.d (.str qax)),(2,.ptr 0 0),(5,.osl 1 0 (t.threads.map (·.name)).length),(10,.d (.int .i64 k))]) (fun k=>[.box 10 (.d t.toD),.arr 1 ((t.threads.map (·.name)).map .str)]) (fun _=>True) trivial ?_ ?_
 ·refine qaa [] [0,1] rfl (by simp) ?_ ?_
  ·simp only[zU,seval]
   try rfl
  ·rfl
 intro k _ hk
 have:k=0:=by omega
 subst this
 simp only[zU,seval,qoc]
 refine⟨_,_,qf4 rfl ?_,rfl,rfl⟩
 show D.sl ((((t.threads.map (·.name)).map D.str).drop 0).take t.threads.length)=_
 rw[List.drop_zero,List.take_of_length_le (by simp)]
theorem Qyq (t:qat) (ht:t.lim) (hs:t.limS):qbc prog Gl 48 [.d t.toD,.d (.str qa5)] (.d (.sl ((t.slices.map (·.name)).map .str))):=by
 refine qbc.of2 ?_
 obtain⟨h1,h2,h3,h4,h5,h6,h7,h8⟩:=id ht
 refine qac func48 rfl rfl (by simp[ntmps48]) (qab rfl _ _ _ _ ?_)
 simp only[ntmps48,results48,qak,List.length_nil]
 simp only[zU,seval]
 refine qap 0 (fun k=>[(1,.d (.str qa5)),(2,.ptr 0 0),(5,.osl 1 0 (([]:List (List UInt8))).length),(6,.d (.int .i64 k))]) (fun k=>[.box 10 (.d t.toD),.arr 1 ((([]:List (List UInt8))).map .str)]) (fun _=>True) trivial ?_ ?_
 ·refine(qep 5 1 rfl).trans ?_
  refine qaa [] [0,1] rfl (by simp) ?_ rfl
  simp only[zU,seval]
  try rfl
 intro k _ hk
 have:k=0:=by omega
 subst this
 simp only[zU,seval,qr8]
 refine qap t.slices.length (fun k=>[(1,.d (.str qa5)),(2,.ptr 0 0),(5,.osl 1 0 ((t.slices.take k).map (·.name)).length),(7,.d (.int .i64 k))]) (fun k=>[.box 10 (.d t.toD),.arr 1 (((t.slices.take k).map (·.name)).map .str)]) (fun _=>True) trivial ?_ ?_
 ·refine qaa [] [0,1] rfl (by simp) ?_ ?_
  ·simp only[zU,seval]
   try rfl
  ·rfl
 intro k _ hk
 by_cases h:k<t.slices.length
 ·obtain⟨x,hx⟩:∃x,x=t.slices.getD k default:=⟨_,rfl⟩
  have eg:(t.slices.map qae.toD).getD k default=x.toD:=by rw[qaj _ _ _ h,←hx]
  have htk:t.slices.take (k+1)=t.slices.take k++[x]:=by rw[qa0 _ k h,←hx]
  simp only[zU,seval,(show(k:Int)<t.slices.length by omega),h,eg,qvy]
  repeat((with_reducible apply aI);exact sdp)
  rw[htk]
  refine qaa [] [0,3] rfl (by simp) ?_ ?_
  ·simp only[zU,seval,@qag ((k:Int)+1) (by omega)]
   try rfl
  ·have e1:List.take (List.take k t.slices).length (List.map D.str (List.map (fun x:qae=>x.name) (List.take k t.slices)))=List.map D.str (List.map (fun x:qae=>x.name) (List.take k t.slices)):=List.take_of_length_le (by simp)
   rw[e1,List.map_append,List.map_append];rfl
 have:k=t.slices.length:=by omega
 subst this
 simp only[zU,seval,(show ¬(t.slices.length:Int)<t.slices.length by omega),List.take_length]
 refine qap 0 (fun k=>[(1,.d (.str qa5)),(2,.ptr 0 0),(5,.osl 1 0 (t.slices.map (·.name)).length),(8,.d (.int .i64 k))]) (fun k=>[.box 10 (.d t.toD),.arr 1 ((t.slices.map (·.name)).map .str)]) (fun _=>True) trivial ?_ ?_
 ·refine qaa [] [0,1] rfl (by simp) ?_ ?_
  ·simp only[zU,seval]
   try rfl
  ·rfl
 intro k _ hk
 have:k=0:=by omega
 subst this
 simp only[zU,seval,qkh]
 refine qap 0 (fun k=>[(1,.d (.str qa5)),(2,.ptr 0 0),(5,.osl 1 0 (t.slices.map (·.name)).length),(9,.d (.int .i64 k))]) (fun k=>[.box 10 (.d t.toD),.arr 1 ((t.slices.map (·.name)).map .str)]) (fun _=>True) trivial ?_ ?_
 ·refine qaa [] [0,1] rfl (by simp) ?_ ?_
  ·simp only[zU,seval]
   try rfl
  ·rfl
 intro k _ hk
 have:k=0:=by omega
 subst this
 simp only[zU,seval,qkh]
 refine qap 0 (fun k=>[(1,.d (.str qa5)),(2,.ptr 0 0),(5,.osl 1 0 (t.slices.map (·.name)).length),(10,.d (.int .i64 k))]) (fun k=>[.box 10 (.d t.toD),.arr 1 ((t.slices.map (·.name)).map .str)]) (fun _=>True) trivial ?_ ?_
 ·refine qaa [] [0,1] rfl (by simp) ?_ ?_
  ·simp only[zU,seval]
   try rfl
  ·rfl
 intro k _ hk
 have:k=0:=by omega
 subst this
 simp only[zU,seval,qph]
 refine⟨_,_,qf4 rfl ?_,rfl,rfl⟩
 show D.sl ((((t.slices.map (·.name)).map D.str).drop 0).take t.slices.length)=_
 rw[List.drop_zero,List.take_of_length_le (by simp)]
theorem Qyt (t:qat) (ht:t.lim) (hs:t.limS):qbc prog Gl 48 [.d t.toD,.d (.str qay)] (.d (.sl ((t.steps.map (·.name)).map .str))):=by
 refine qbc.of2 ?_
 obtain⟨h1,h2,h3,h4,h5,h6,h7,h8⟩:=id ht
 refine qac func48 rfl rfl (by simp[ntmps48]) (qab rfl _ _ _ _ ?_)
 simp only[ntmps48,results48,qak,List.length_nil]
 simp only[zU,seval]
 refine qap 0 (fun k=>[(1,.d (.str qay)),(2,.ptr 0 0),(5,.osl 1 0 (([]:List (List UInt8))).length),(6,.d (.int .i64 k))]) (fun k=>[.box 10 (.d t.toD),.arr 1 ((([]:List (List UInt8))).map .str)]) (fun _=>True) trivial ?_ ?_
 ·refine(qep 5 1 rfl).trans ?_
  refine qaa [] [0,1] rfl (by simp) ?_ rfl
  simp only[zU,seval]
  try rfl
 intro k _ hk
 have:k=0:=by omega
 subst this
 simp only[zU,seval,qod]
 refine qap 0 (fun k=>[(1,.d (.str qay)),(2,.ptr 0 0),(5,.osl 1 0 (([]:List (List UInt8))).length),(7,.d (.int .i64 k))]) (fun k=>[.box 10 (.d t.toD),.arr 1 ((([]:List (List UInt8))).map .str)]) (fun _=>True) trivial ?_ ?_
 ·refine qaa [] [0,1] rfl (by simp) ?_ ?_
  ·simp only[zU,seval]
   try rfl
  ·rfl
 intro k _ hk
 have:k=0:=by omega
 subst this
 simp only[zU,seval,qpj]
 refine qap 0 (fun k=>[(1,.d (.str qay)),(2,.ptr 0 0),(5,.osl 1 0 (([]:List (List UInt8))).length),(8,.d (.int .i64 k))]) (fun k=>[.box 10 (.d t.toD),.arr 1 ((([]:List (List UInt8))).map .str)]) (fun _=>True) trivial ?_ ?_
 ·refine qaa [] [0,1] rfl (by simp) ?_ ?_
  ·simp only[zU,seval]
   try rfl
  ·rfl
 intro k _ hk
 have:k=0:=by omega
 subst this
 simp only[zU,seval,qib]
 refine qap 0 (fun k=>[(1,.d (.str qay)),(2,.ptr 0 0),(5,.osl 1 0 (([]:List (List UInt8))).length),(9,.d (.int .i64 k))]) (fun k=>[.box 10 (.d t.toD),.arr 1 ((([]:List (List UInt8))).map .str)]) (fun _=>True) trivial ?_ ?_
 ·refine qaa [] [0,1] rfl (by simp) ?_ ?_
  ·simp only[zU,seval]
   try rfl
  ·rfl
 intro k _ hk
 have:k=0:=by omega
 subst this
 simp only[zU,seval,qib]
 refine qap t.steps.length (fun k=>[(1,.d (.str qay)),(2,.ptr 0 0),(5,.osl 1 0 ((t.steps.take k).map (·.name)).length),(10,.d (.int .i64 k))]) (fun k=>[.box 10 (.d t.toD),.arr 1 (((t.steps.take k).map (·.name)).map .str)]) (fun _=>True) trivial ?_ ?_
 ·refine qaa [] [0,1] rfl (by simp) ?_ ?_
  ·simp only[zU,seval]
   try rfl
  ·rfl
 intro k _ hk
 by_cases h:k<t.steps.length
 ·obtain⟨x,hx⟩:∃x,x=t.steps.getD k default:=⟨_,rfl⟩
  have eg:(t.steps.map qa7.toD).getD k default=x.toD:=by rw[qaj _ _ _ h,←hx]
  have htk:t.steps.take (k+1)=t.steps.take k++[x]:=by rw[qa0 _ k h,←hx]
  simp only[zU,seval,(show(k:Int)<t.steps.length by omega),h,eg,qmm]
  repeat((with_reducible apply aI);exact sdp)
  rw[htk]
  refine qaa [] [0,3] rfl (by simp) ?_ ?_
  ·simp only[zU,seval,@qag ((k:Int)+1) (by omega)]
   try rfl
  ·have e1:List.take (List.take k t.steps).length (List.map D.str (List.map (fun x:qa7=>x.name) (List.take k t.steps)))=List.map D.str (List.map (fun x:qa7=>x.name) (List.take k t.steps)):=List.take_of_length_le (by simp)
   rw[e1,List.map_append,List.map_append];rfl
 have:k=t.steps.length:=by omega
 subst this
 simp only[zU,seval,(show ¬(t.steps.length:Int)<t.steps.length by omega),List.take_length]
 refine⟨_,_,qf4 rfl ?_,rfl,rfl⟩
 show D.sl ((((t.steps.map (·.name)).map D.str).drop 0).take t.steps.length)=_
 rw[List.drop_zero,List.take_of_length_le (by simp)]
theorem Qys (t:qat) (ht:t.lim) (hs:t.limS):qbc prog Gl 48 [.d t.toD,.d (.str qa4)] (.d (.sl ((frN t).map .str))):=by
 refine qbc.of2 ?_
 obtain⟨h1,h2,h3,h4,h5,h6,h7,h8⟩:=id ht
 refine qac func48 rfl rfl (by simp[ntmps48]) (qab rfl _ _ _ _ ?_)
 simp only[ntmps48,results48,qak,List.length_nil]
 simp only[zU,seval]
 refine qap 0 (fun k=>[(1,.d (.str qa4)),(2,.ptr 0 0),(5,.osl 1 0 (([]:List (List UInt8))).length),(6,.d (.int .i64 k))]) (fun k=>[.box 10 (.d t.toD),.arr 1 ((([]:List (List UInt8))).map .str)]) (fun _=>True) trivial ?_ ?_
 ·refine(qep 5 1 rfl).trans ?_
  refine qaa [] [0,1] rfl (by simp) ?_ rfl
  simp only[zU,seval]
  try rfl
 intro k _ hk
 have:k=0:=by omega
 subst this
 simp only[zU,seval,qr9]
 refine qap 0 (fun k=>[(1,.d (.str qa4)),(2,.ptr 0 0),(5,.osl 1 0 (([]:List (List UInt8))).length),(7,.d (.int .i64 k))]) (fun k=>[.box 10 (.d t.toD),.arr 1 ((([]:List (List UInt8))).map .str)]) (fun _=>True) trivial ?_ ?_
 ·refine qaa [] [0,1] rfl (by simp) ?_ ?_
  ·simp only[zU,seval]
   try rfl
  ·rfl
 intro k _ hk
 have:k=0:=by omega
 subst this
 simp only[zU,seval,qvz]
 refine qap t.samples.length (fun k=>[(1,.d (.str qa4)),(2,.ptr 0 0),(5,.osl 1 0 (((t.samples.take k).map (·.stack)).flatten).length),(8,.d (.int .i64 k))]) (fun k=>[.box 10 (.d t.toD),.arr 1 ((((t.samples.take k).map (·.stack)).flatten).map .str)]) (fun _=>True) trivial ?_ ?_
 ·refine qaa [] [0,1] rfl (by simp) ?_ ?_
  ·simp only[zU,seval]
   try rfl
  ·rfl
 intro k _ hk
 by_cases h:k<t.samples.length
 ·obtain⟨x,hx⟩:∃x,x=t.samples.getD k default:=⟨_,rfl⟩
  have eg:(t.samples.map qam.toD).getD k default=x.toD:=by rw[qaj _ _ _ h,←hx]
  have htk:t.samples.take (k+1)=t.samples.take k++[x]:=by rw[qa0 _ k h,←hx]
  have hxs:=hs.1 x (by rw[hx];exact qbh h)
  have hle:=Qql (l:=t.samples.take k) fun y hy=>hs.1 y (List.mem_of_mem_take hy)
  rw[List.length_take] at hle
  have es:((t.samples.take (k+1)).map (·.stack)).flatten=((t.samples.take k).map (·.stack)).flatten++x.stack:=by rw[htk,List.map_append,List.flatten_append,Qmt]
  rw[es]
  obtain⟨ys,hys⟩:∃ys,ys=((t.samples.take k).map (·.stack)).flatten:=⟨_,rfl⟩
  rw[←hys]
  rw[←hys] at hle
  simp only[zU,seval,(show(k:Int)<t.samples.length by omega),h,eg,qki]
  repeat((with_reducible apply aI);exact sdp)
  refine qaa [] [0,2] rfl (by simp) ?_ ?_
  ·simp only[zU,seval,@qag ((k:Int)+1) (by omega)]
   try rfl
  ·have e1:List.take ys.length (ys.map D.str)=ys.map D.str:=List.take_of_length_le (by simp)
   rw[e1,List.map_append];rfl
 have:k=t.samples.length:=by omega
 subst this
 simp only[zU,seval,(show ¬(t.samples.length:Int)<t.samples.length by omega),List.take_length]
 refine qap t.blocks.length (fun k=>[(1,.d (.str qa4)),(2,.ptr 0 0),(5,.osl 1 0 (frK t k).length),(9,.d (.int .i64 k))]) (fun k=>[.box 10 (.d t.toD),.arr 1 ((frK t k).map .str)]) (fun _=>True) trivial ?_ ?_
 ·refine qaa [] [0,1] rfl (by simp) ?_ ?_
  ·simp only[zU,seval,qlg]
   try rfl
  ·rw[qlg];rfl
 intro k _ hk
 by_cases h:k<t.blocks.length
 ·obtain⟨x,hx⟩:∃x,x=t.blocks.getD k default:=⟨_,rfl⟩
  have eg:(t.blocks.map qaw.toD).getD k default=x.toD:=by rw[qaj _ _ _ h,←hx]
  have htk:t.blocks.take (k+1)=t.blocks.take k++[x]:=by rw[qa0 _ k h,←hx]
  have hxs:=hs.2 x (by rw[hx];exact qbh h)
  have hle:=Qmr hs k
  have es:frK t (k+1)=frK t k++x.stack:=by rw[q35 htk]
  rw[es]
  obtain⟨ys,hys⟩:∃ys,ys=frK t k:=⟨_,rfl⟩
  rw[←hys]
  rw[←hys] at hle
  simp only[zU,seval,(show(k:Int)<t.blocks.length by omega),h,eg,qki]
  repeat((with_reducible apply aI);exact sdp)
  refine qaa [] [0,2] rfl (by simp) ?_ ?_
  ·simp only[zU,seval,@qag ((k:Int)+1) (by omega)]
   try rfl
  ·have e1:List.take ys.length (ys.map D.str)=ys.map D.str:=List.take_of_length_le (by simp)
   rw[e1,List.map_append];rfl
 have:k=t.blocks.length:=by omega
 subst this
 simp only[zU,seval,(show ¬(t.blocks.length:Int)<t.blocks.length by omega),Qap]
 refine qap 0 (fun k=>[(1,.d (.str qa4)),(2,.ptr 0 0),(5,.osl 1 0 (frN t).length),(10,.d (.int .i64 k))]) (fun k=>[.box 10 (.d t.toD),.arr 1 ((frN t).map .str)]) (fun _=>True) trivial ?_ ?_
 ·refine qaa [] [0,1] rfl (by simp) ?_ ?_
  ·simp only[zU,seval]
   try rfl
  ·rfl
 intro k _ hk
 have:k=0:=by omega
 subst this
 simp only[zU,seval,qpi]
 refine⟨_,_,qf4 rfl ?_,rfl,rfl⟩
 show D.sl ((((frN t).map D.str).drop 0).take (frN t).length)=_
 rw[List.drop_zero,List.take_of_length_le (by simp)]
theorem Qu9:qbc prog Gl 47 [] (.d (.sl ([qax,qa5,qa4,qay].map .str))):=by
 refine qbc.of (args:=[]) ?_
 refine qac func47 rfl rfl (by simp[ntmps47]) (qab rfl _ _ _ _ ?_)
 simp only[ntmps47,results47,qak,List.length_nil]
 simp only[zU,seval]
 refine⟨_,_,qf4 rfl rfl,rfl,rfl⟩

def Qco (t:qat):Nat:=t.slices.length+t.states.length+t.flows.length+t.samples.length+t.steps.length+t.blocks.length+t.lost.length
theorem Qen (t:qat) (ht:t.lim):qbc prog Gl 27 [.d t.toD] (.d (.int .i64 (Qco t))):=by
 refine qbc.of1 ?_
 obtain⟨h1,h2,h3,h4,h5,h6,h7,h8⟩:=id ht
 obtain⟨n,hn⟩:∃n,n=Qco t:=⟨_,rfl⟩
 have hn':=hn
 unfold Qco at hn'
 rw[←hn]
 refine qac func27 rfl rfl (by simp[ntmps27]) (qab rfl _ _ _ _ ?_)
 simp only[ntmps27,results27,qak,List.length_nil]
 simp only[zU,seval]
 simp only[zU,seval,@qag ((t.slices.length:Int)+t.states.length) (by omega),@qag ((t.slices.length:Int)+t.states.length+t.flows.length) (by omega),@qag ((t.slices.length:Int)+t.states.length+t.flows.length+t.samples.length) (by omega),@qag ((t.slices.length:Int)+t.states.length+t.flows.length+t.samples.length+t.steps.length) (by omega),@qag ((t.slices.length:Int)+t.states.length+t.flows.length+t.samples.length+t.steps.length+t.blocks.length) (by omega),@qag ((t.slices.length:Int)+t.states.length+t.flows.length+t.samples.length+t.steps.length+t.blocks.length+t.lost.length) (by omega)]
 refine⟨_,_,qf4 rfl ?_,rfl,rfl⟩
 show D.int .i64 _=D.int .i64 _
 congr 1
 omega

theorem qwl (a b:List (List UInt8)) (ha:a.length<1000000) (hb:b.length<1000000):qbc prog Gl 51 [.d (.sl (a.map .str)),.d (.sl (b.map .str))] (.d (.bool (a==b))):=by
 refine qbc.of2 ?_
 refine qac func51 rfl rfl (by simp[ntmps51]) (qab rfl _ _ _ _ ?_)
 simp only[ntmps51,results51,qak,List.length_nil]
 simp only[zU,seval]
 repeat((with_reducible apply aI);exact sdp)
 refine ifC.mk (fun h0=>?_) (fun h0=>?_)
 ·have h0:¬a.length=b.length:=by simp at h0;omega
  refine⟨_,_,qaq,?_,rfl⟩
  have:(a==b)=false:=by
   rw[Bool.eq_false_iff];intro h;exact h0 (congrArg List.length (by simpa using h))
  rw[this]
 ·have h0:a.length=b.length:=by simp at h0;omega
  refine qap a.length (fun k=>[(0,.d (.sl (a.map .str))),(1,.d (.sl (b.map .str))),(5,.d (.int .i64 k))]) (fun _=>[]) (fun k=>a.take k=b.take k) rfl ?_ ?_
  ·refine qaa [] [] rfl List.nodup_nil ?_ rfl
   simp only[zU,seval]
   all_goals rfl
  ·intro k hi hk
   by_cases h:k<a.length
   ·have hb2:k<b.length:=by omega
    simp only[zU,seval,(show(k:Int)<a.length by omega),(show(k:Int)<b.length by omega),h,hb2,qaj _ _ _ (show k<a.length by omega),qaj _ _ _ (show k<b.length by omega)]
    repeat((with_reducible apply aI);exact sdp)
    refine ifC.mk (fun hc=>?_) (fun hc=>?_)
    ·have hc:¬a.getD k default=b.getD k default:=by simpa using hc
     refine⟨_,_,qaq,?_,rfl⟩
     have:(a==b)=false:=by
      rw[Bool.eq_false_iff];intro h;exact hc (by rw[show a=b by simpa using h])
     rw[this]
    ·have hc:a.getD k default=b.getD k default:=by simpa using hc
     refine⟨by rw[qa0 a k h,qa0 b k hb2,hi,hc],?_⟩
     refine qaa [] [] rfl List.nodup_nil ?_ rfl
     simp only[zU,seval,@qag ((k:Int)+1) (by omega)]
     all_goals rfl
   ·simp only[zU,seval,(show ¬(k:Int)<a.length by omega)]
    have:k=a.length:=by omega
    subst this
    refine⟨_,_,qaq,?_,rfl⟩
    rw[List.take_length,h0,List.take_length] at hi
    rw[hi];simp

theorem Qx9 (a b:qas):qgs prog 59 .neq (.d a.toD) (.d b.toD)=True:=eq_true (by
 refine(show True∧(match qm2 prog 59 with|some l=>qlj l _ _=true|none=>False) from⟨trivial,?_⟩)
 rw[Qwq];rfl)
theorem Qz4 (a b:qas):qil [.int .i64 a.thread,.int .i64 a.state,.int .i64 a.lo,.int .i64 a.hi,.int .i64 a.cpu,.int .i64 a.on_,.int .i64 a.by_] [.int .i64 b.thread,.int .i64 b.state,.int .i64 b.lo,.int .i64 b.hi,.int .i64 b.cpu,.int .i64 b.on_,.int .i64 b.by_]=decide (a=b):=by
 rw[Bool.eq_iff_iff]
 simp only[qil,D.beq1,Bool.and_eq_true,beq_iff_eq,decide_eq_true_eq,Bool.and_true]
 cases a;cases b;simp
theorem Qzr (a b:qas):q9a .neq (.d a.toD) (.d b.toD)=.d (.bool (!(decide (a=b)))):=by
 rw[←Qz4];rfl
theorem Ql0 (a b:List qas) (ha:a.length<1000000) (hb:b.length<1000000):qbc prog Gl 50 [.d (.sl (a.map qas.toD)),.d (.sl (b.map qas.toD))] (.d (.bool (a==b))):=by
 refine qbc.of2 ?_
 refine qac func50 rfl rfl (by simp[ntmps50]) (qab rfl _ _ _ _ ?_)
 simp only[ntmps50,results50,qak,List.length_nil]
 simp only[zU,seval]
 repeat((with_reducible apply aI);exact sdp)
 refine ifC.mk (fun h0=>?_) (fun h0=>?_)
 ·have h0:¬a.length=b.length:=by simp at h0;omega
  refine⟨_,_,qaq,?_,rfl⟩
  have:(a==b)=false:=by
   rw[Bool.eq_false_iff];intro h;exact h0 (congrArg List.length (by simpa using h))
  rw[this]
 ·have h0:a.length=b.length:=by simp at h0;omega
  refine qap a.length (fun k=>[(0,.d (.sl (a.map qas.toD))),(1,.d (.sl (b.map qas.toD))),(5,.d (.int .i64 k))]) (fun _=>[]) (fun k=>a.take k=b.take k) rfl ?_ ?_
  ·refine qaa [] [] rfl List.nodup_nil ?_ rfl
   simp only[zU,seval]
   all_goals rfl
  ·intro k hi hk
   by_cases h:k<a.length
   ·have hb2:k<b.length:=by omega
    obtain⟨x,hx⟩:∃x,x=a.getD k default:=⟨_,rfl⟩
    obtain⟨y,hy⟩:∃y,y=b.getD k default:=⟨_,rfl⟩
    have ex:(a.map qas.toD).getD k default=x.toD:=by rw[qaj _ _ _ h,←hx]
    have ey:(b.map qas.toD).getD k default=y.toD:=by rw[qaj _ _ _ hb2,←hy]
    simp only[zU,seval,(show(k:Int)<a.length by omega),(show(k:Int)<b.length by omega),h,hb2,ex,ey]
    repeat((with_reducible apply aI);exact sdp)
    refine⟨(Qx9 x y).mpr trivial,?_⟩
    rw[Qzr]
    simp only[zU,seval]
    refine ifC.mk (fun hc=>?_) (fun hc=>?_)
    ·have hc:¬a.getD k default=b.getD k default:=by rw[←hx,←hy];simpa using hc
     refine⟨_,_,qaq,?_,rfl⟩
     have:(a==b)=false:=by
      rw[Bool.eq_false_iff];intro h;exact hc (by rw[show a=b by simpa using h])
     rw[this]
    ·have hc:a.getD k default=b.getD k default:=by rw[←hx,←hy];simpa using hc
     refine⟨by rw[qa0 a k h,qa0 b k hb2,hi,hc],?_⟩
     refine qaa [] [] rfl List.nodup_nil ?_ rfl
     simp only[zU,seval,@qag ((k:Int)+1) (by omega)]
     all_goals rfl
   ·simp only[zU,seval,(show ¬(k:Int)<a.length by omega)]
    have:k=a.length:=by omega
    subst this
    refine⟨_,_,qaq,?_,rfl⟩
    rw[List.take_length,h0,List.take_length] at hi
    rw[hi];simp
end YtljpopkonkanlaaGreatDoor
end Go.Proofs

set_option maxRecDepth 100000
namespace Go.Proofs
open Go.AM Tryz
namespace YtljpopkonkanlaaGreatDoor
def Qhy (s:qae):qae:={s with depth:=0,self:=0}
theorem q8q (L:List qae):qc4 (L.map Qhy)=qc4 L:=by
 rw[qc4,List.foldl_map];rfl
theorem Qqv (o:List qae):(qc4 o).map Qhy=o.map Qhy:=by
 apply List.ext_getElem
 ·simp[qcw]
 ·intro j h1 h2
  rw[List.length_map,qcw] at h1
  obtain⟨e1,e2,e3,e4,e5,e6⟩:=qor (o:=o) j h1
  have h3:j<(qc4 o).length:=by rw[qcw];exact h1
  have g1:(qc4 o).getD j default=(qc4 o)[j]:=by simp[h3]
  have g2:o.getD j default=o[j]:=by simp[h1]
  rw[g1,g2] at e1 e2 e3 e4 e5 e6
  simp only[List.getElem_map,Qhy]
  rw[e1,e2,e3,e4,e5,e6]
theorem qxc (p:qae→Bool) (hp:∀s,p (Qhy s)=p s):∀(L:List qae) (u v:List qae×List Int),v.1=u.1.map Qhy→v.2=u.2→(L.map Qhy).foldl (qb9 p) v=(((L.foldl (qb9 p) u).1.map Qhy),(L.foldl (qb9 p) u).2)
 | [],u,v,h1,h2=>by
  obtain⟨a,b⟩:=v
  subst h1 h2;rfl
 | s::L,u,v,h1,h2=>by
  rw[List.map_cons,List.foldl_cons,List.foldl_cons]
  refine qxc p hp L _ _ ?_ ?_
  ·unfold qb9
   rw[hp,h1,h2]
   split
   ·rw[List.map_append];rfl
   ·rfl
  ·unfold qb9
   rw[hp,h1,h2]
   split
   ·rw[List.length_map]
   ·rfl
theorem Qni (p:qae→Bool) (hp:∀s,p (Qhy s)=p s) (L:List qae):(chF p (L.map Qhy)).1=(chF p L).1.map Qhy:=by
 rw[chF,qxc p hp L ([],[]) ([],[]) rfl rfl];rfl
theorem Qy9 (p:qae→Bool) (hp:∀s,p (Qhy s)=p s) (X:List qae):qc4 (chF p (qc4 X)).1=qc4 (chF p X).1:=by
 rw[←q8q,←Qni p hp,Qqv,Qni p hp,q8q]
theorem qkz (p:qae→Bool) (l:List qae) (s:qae):chF p (l++[s])=qb9 p (chF p l) s:=by
 rw[chF,List.foldl_append];rfl
def qxu (pl:List Int) (i:Int):Int:=if 0≤i then pl.getD i.toNat 0 else -1
theorem Qz2 (p q:qae→Bool) (hq:∀s x,q {s with parent:=x}=q s) {l:List qae} (hg:qd7 l) :
  (chF q (chF p l).1).1=(chF (fun s=>p s&&q s) l).1∧(chF (fun s=>p s&&q s) l).2=(chF p l).2.map (qxu (chF q (chF p l).1).2):=by
 obtain⟨n,hn⟩:∃n,n=l.length:=⟨_,rfl⟩
 induction n generalizing l with
 | zero=>
  have:l=[]:=List.eq_nil_of_length_eq_zero hn.symm
  subst this;exact⟨rfl,rfl⟩
 | succ n ih=>
  rcases List.eq_nil_or_concat l with rfl|⟨v,s,rfl⟩
  ·simp at hn
  rw[List.concat_eq_append] at hn hg ⊢
  have hv:n=v.length:=by rw[List.length_append] at hn;simp at hn;exact hn
  have hgv:qd7 v:=by
   have:=qgw hg v.length
   rwa [List.take_left' rfl] at this
  obtain⟨i1,i2⟩:=ih hgv hv
  obtain⟨f1,f2,f3,f4⟩:=qhb p hgv
  obtain⟨g1,g2,g3,g4⟩:=qhb q f4
  have hs:=hg v.length (by simp)
  rw[qcq _ _ _ (by omega),if_neg (by omega)] at hs
  obtain⟨O1,hO1⟩:∃O,O=(chF p v).1:=⟨_,rfl⟩
  obtain⟨P1,hP1⟩:∃O,O=(chF p v).2:=⟨_,rfl⟩
  rw[←hO1,←hP1] at f3
  rw[←hO1] at g1 g2 g3 g4 i1 i2 f2 f4
  rw[←hP1] at f1 i2
  obtain⟨O2,hO2⟩:∃O,O=(chF q O1).1:=⟨_,rfl⟩
  obtain⟨P2,hP2⟩:∃O,O=(chF q O1).2:=⟨_,rfl⟩
  rw[←hO2,←hP2] at g3
  rw[←hO2] at g2 i1
  rw[←hP2] at g1 i2
  have ep:chF p v=(O1,P1):=by rw[hO1,hP1]
  have eq:chF q O1=(O2,P2):=by rw[hO2,hP2]
  have epq:chF (fun s=>p s&&q s) v=(O2,P1.map (qxu P2)):=by rw[←i2,i1]
  have key:qjr (P1.map (qxu P2)) s=qxu P2 (qjr P1 s):=by
   unfold qjr
   by_cases h0:0≤s.parent
   ·have hlt:s.parent.toNat<P1.length:=by rw[f1];omega
    rw[if_pos h0,if_pos h0]
    simp[hlt]
   ·rw[if_neg h0,if_neg h0];rfl
  have ext1:∀x,P1.map (qxu (P2++[x]))=P1.map (qxu P2):=fun x=>by
   apply List.map_congr_left
   intro i hi
   obtain⟨j,hj,rfl⟩:=List.getElem_of_mem hi
   have:=f3 j (by omega)
   have e:P1.getD j 0=P1[j]:=by simp[hj]
   rw[e] at this
   unfold qxu
   by_cases h0:0≤P1[j]
   ·rw[if_pos h0,if_pos h0]
    have hlt:P1[j].toNat<P2.length:=by omega
    rw[List.getD_eq_getElem?_getD,List.getElem?_append_left hlt,List.getD_eq_getElem?_getD]
   ·rw[if_neg h0,if_neg h0]
  have last:∀x,qxu (P2++[x]) (O1.length:Int)=x:=fun x=>by
   unfold qxu
   rw[if_pos (by omega),Int.toNat_natCast,←g1]
   simp
  rw[qkz,qkz,ep,epq]
  by_cases h1:p s=true
  ·have e1:qb9 p (O1,P1) s=(O1++[{s with parent:=qjr P1 s}],P1++[(O1.length:Int)]):=by unfold qb9;rw[if_pos h1]
   rw[e1]
   show(chF q (O1++[{s with parent:=qjr P1 s}])).1=_∧_
   rw[qkz,eq]
   have hqs:q {s with parent:=qjr P1 s}=q s:=hq s _
   have eup:qjr P2 {s with parent:=qjr P1 s}=qjr (P1.map (qxu P2)) s:=by rw[key];rfl
   by_cases h2:q s=true
   ·have e2:qb9 q (O2,P2) {s with parent:=qjr P1 s}=(O2++[{s with parent:=qjr (P1.map (qxu P2)) s}],P2++[(O2.length:Int)]):=by unfold qb9;rw[if_pos (by rw[hqs];exact h2),eup]
    have e3:qb9 (fun s=>p s&&q s) (O2,P1.map (qxu P2)) s=(O2++[{s with parent:=qjr (P1.map (qxu P2)) s}],P1.map (qxu P2)++[(O2.length:Int)]):=by unfold qb9;rw[if_pos (by simp[h1,h2])]
    rw[e2,e3]
    refine⟨rfl,?_⟩
    show _=(P1++[(O1.length:Int)]).map _
    rw[List.map_append,ext1,List.map_cons,last];rfl
   ·have h2:q s=false:=by simpa using h2
    have e2:qb9 q (O2,P2) {s with parent:=qjr P1 s}=(O2,P2++[qjr (P1.map (qxu P2)) s]):=by unfold qb9;rw[if_neg (by rw[hqs,h2];simp),eup]
    have e3:qb9 (fun s=>p s&&q s) (O2,P1.map (qxu P2)) s=(O2,P1.map (qxu P2)++[qjr (P1.map (qxu P2)) s]):=by unfold qb9;rw[if_neg (by simp[h2])]
    rw[e2,e3]
    refine⟨rfl,?_⟩
    show _=(P1++[(O1.length:Int)]).map _
    rw[List.map_append,ext1,List.map_cons,last];rfl
  ·have h1:p s=false:=by simpa using h1
   have e1:qb9 p (O1,P1) s=(O1,P1++[qjr P1 s]):=by unfold qb9;rw[if_neg (by rw[h1];simp)]
   have e3:qb9 (fun s=>p s&&q s) (O2,P1.map (qxu P2)) s=(O2,P1.map (qxu P2)++[qjr (P1.map (qxu P2)) s]):=by unfold qb9;rw[if_neg (by simp[h1])]
   rw[e1,e3]
   show(chF q O1).1=_∧_=(P1++[qjr P1 s]).map (qxu (chF q O1).2)
   rw[eq,List.map_append,List.map_cons,←key]
   exact⟨rfl,rfl⟩
theorem qto (l:List qao) (t:qat) (hg:qd7 t.slices):(qjq l (qfw l t)).slices=qc4 (chF (qlr l t) t.slices).1:=by
 show qc4 (chF (fun x=>!qbw l qa5 x.name) (qc4 (chF (fun x=>!qcc l t.threads x.thread) t.slices).1)).1=_
 rw[Qy9 _ (fun s=>rfl),(Qz2 _ _ (fun s x=>rfl) hg).1]
 rfl
theorem qmw {l:List qao} {ths:List qai} (hd:∀x∈ths,∀y∈ths,x.id=y.id→x=y) {x:qai} (hx:x∈ths):qcc l ths x.id=qbw l qax x.name:=by
 rw[Bool.eq_iff_iff]
 unfold qcc
 rw[List.any_eq_true]
 constructor
 ·rintro⟨y,hy,h⟩
  simp only[Bool.and_eq_true,beq_iff_eq] at h
  rw[←hd y hy x hx h.1];exact h.2
 ·intro h
  exact⟨x,hx,by simp[h]⟩
theorem q9h {ths:List qai} (h:qbu ths=0):∀x∈ths,∀y∈ths,x.id=y.id→x=y:=by
 unfold qbu at h
 split at h
 ·cases h
 have hat:∀k,k<ths.length→qhs ths k=0:=fun k hk=>qca h k hk
 have lt:∀i j (hi:i<ths.length) (hj:j<ths.length),i<j→ths[i].id≠ths[j].id:=fun i j hi hj hij he=>by
  have:=hat j hj
  unfold qhs at this
  split at this
  ·rename_i h1;exact h1 this
  ·split at this
   ·cases this
   ·rename_i h2
    refine h2 ?_
    unfold qd0
    rw[List.any_eq_true]
    refine⟨ths[i],?_,?_⟩
    ·rw[List.mem_take_iff_getElem]
     exact⟨i,by omega,rfl⟩
    ·simp[hj,he]
 intro x hx y hy he
 obtain⟨i,hi,rfl⟩:=List.getElem_of_mem hx
 obtain⟨j,hj,rfl⟩:=List.getElem_of_mem hy
 rcases Nat.lt_trichotomy i j with hij|rfl|hij
 ·exact absurd he (lt i j hi hj hij)
 ·rfl
 ·exact absurd he.symm (lt j i hj hi hij)
theorem qlt {t:qat} (h:qc6 t=0):qbu t.threads=0:=by
 unfold qc6 at h
 split at h
 ·rename_i h1;exact absurd h h1
 ·rename_i h1
  have h1:qfb t=0:=Classical.byContradiction h1
  unfold qfb at h1
  split at h1
  ·rename_i h2;exact absurd h1 h2
  ·rename_i h2;exact Classical.byContradiction h2
theorem q2j (l:List qao) (t:qat) (ht:qc6 t=0) (hg:qd7 t.slices):qgj l t=qjq l (qfw l t):=by
 have hd:=q9h (qlt ht)
 have e1:qjw (fun x=>!qbw l qax x.name) id t.threads=t.threads.filter (fun x=>!qcc l t.threads x.id):=by
  rw[qjw,List.map_id]
  apply List.filter_congr
  intro x hx
  rw[qmw hd hx]
 have e2:qjw (fun x=>!qcc l t.threads x.ft&&!qcc l t.threads x.tt) id t.flows=t.flows.filter (fun x=>!(qcc l t.threads x.ft||qcc l t.threads x.tt)):=by
  rw[qjw,List.map_id]
  apply List.filter_congr
  intro x hx
  rw[Bool.not_or]
 have e3:qjw (fun x=>!qbw l qay x.name) id t.steps=t.steps.filter (fun x=>!qbw l qay x.name):=by rw[qjw,List.map_id]
 have e4:qjw (fun x=>!qcc l t.threads x.thread) id t.lost=t.lost.filter (fun x=>!qcc l t.threads x.thread):=by rw[qjw,List.map_id]
 unfold qgj
 rw[e1,e2,e3,e4,←qto l t hg]
 rfl

theorem ofNat_inj {a b:Nat} (ha:a<10) (hb:b<10) (h:UInt8.ofNat (48+a)=UInt8.ofNat (48+b)):a=b:=by
 have:=congrArg UInt8.toNat h
 rw[UInt8.toNat_ofNat_of_lt' (show 48+a<256 by omega),UInt8.toNat_ofNat_of_lt' (show 48+b<256 by omega)] at this
 omega
theorem qxa (n:Nat) (h:¬n<10):Lib.decDigits n=Lib.decDigits (n / 10)++[UInt8.ofNat (48+n % 10)]:=by
 rw[Lib.decDigits,dif_neg h]
theorem Qfd (n:Nat):Lib.decDigits n≠[]:=by
 intro h
 have:=Lib.decDigits_length n
 have h2:=Lib.nDigits_pos n
 rw[h] at this
 simp at this;omega
theorem Qvw:∀(n m:Nat),Lib.decDigits n=Lib.decDigits m→n=m:=by
 intro n
 induction n using Nat.strongRecOn with
 | _ n ih=>
 intro m h
 by_cases hn:n<10
 ·by_cases hm:m<10
  ·rw[Lib.decDigits_one hn,Lib.decDigits_one hm] at h
   simp only[List.cons.injEq,and_true] at h
   exact ofNat_inj hn hm h
  ·rw[Lib.decDigits_one hn,qxa m hm] at h
   exfalso
   have h3:=congrArg List.length h
   have h4:0<(Lib.decDigits (m / 10)).length:=List.length_pos_iff.2 (Qfd _)
   rw[List.length_append] at h3
   simp only[List.length_cons,List.length_nil] at h3;omega
 ·by_cases hm:m<10
  ·rw[Lib.decDigits_one hm,qxa n hn] at h
   exfalso
   have h3:=congrArg List.length h
   have h4:0<(Lib.decDigits (n / 10)).length:=List.length_pos_iff.2 (Qfd _)
   rw[List.length_append] at h3
   simp only[List.length_cons,List.length_nil] at h3;omega
  ·rw[qxa n hn,qxa m hm] at h
   obtain⟨h1,h2⟩:=List.append_inj' h rfl
   have e1:=ih (n / 10) (by omega) (m / 10) h1
   simp only[List.cons.injEq,and_true] at h2
   have e2:=ofNat_inj (Nat.mod_lt _ (by decide)) (Nat.mod_lt _ (by decide)) h2
   omega
theorem Qy3 {i:Nat} (h:i<10):q88 (UInt8.ofNat (48+i))=true:=by
 match i,h with
 | 0,_=>rfl
 | 1,_=>rfl
 | 2,_=>rfl
 | 3,_=>rfl
 | 4,_=>rfl
 | 5,_=>rfl
 | 6,_=>rfl
 | 7,_=>rfl
 | 8,_=>rfl
 | 9,_=>rfl
theorem q8v:∀n:Nat,0<n→(Lib.decDigits n).all q88=true∧((Lib.decDigits n).getD 0 0).toNat≠48:=by
 intro n
 induction n using Nat.strongRecOn with
 | _ n ih=>
 intro hp
 by_cases hn:n<10
 ·rw[Lib.decDigits_one hn]
  refine⟨by simp only[List.all_cons,List.all_nil,Bool.and_true];exact Qy3 hn,?_⟩
  show(UInt8.ofNat (48+n)).toNat≠48
  rw[UInt8.toNat_ofNat_of_lt' (show 48+n<256 by omega)];omega
 ·obtain⟨h1,h2⟩:=ih (n / 10) (by omega) (by omega)
  rw[qxa n hn]
  refine⟨by rw[List.all_append,h1];simp only[List.all_cons,List.all_nil,Bool.and_true,Bool.true_and];exact Qy3 (Nat.mod_lt _ (by decide)),?_⟩
  have h4:0<(Lib.decDigits (n / 10)).length:=List.length_pos_iff.2 (Qfd _)
  rw[List.getD_eq_getElem?_getD,List.getElem?_append_left h4,←List.getD_eq_getElem?_getD]
  exact h2
theorem Qfn (d:List UInt8):qs1 (qdl++d) qdl=true:=by
 unfold qs1
 rw[List.take_left' rfl,decide_eq_true (by simp)]
 simp
theorem Ql6 (n:Nat) (hn:0<n):qem (qdl++Lib.decDigits n)=true:=by
 obtain⟨h1,h2⟩:=q8v n hn
 unfold qem
 rw[Qfn,List.drop_left' rfl]
 have e1:(Lib.decDigits n==[])=false:=by
  cases e:Lib.decDigits n with
  | nil=>exact absurd e (Qfd n)
  | cons a b=>rfl
 have e2:((((Lib.decDigits n).getD 0 0).toNat:Int)==48)=false:=by
  rw[Bool.eq_false_iff];intro h
  rw[beq_iff_eq] at h
  omega
 rw[e1,e2,h1];rfl
theorem qrs {x y:List UInt8}:∀{H:List (List UInt8)},0≤qet (eqS x) H→qet (eqS x) H=qet (eqS y) H→x=y
 | [],h,_=>by simp[qet] at h
 | a::H,h,he=>by
  unfold qet at h he
  by_cases h1:eqS x a=true
  ·rw[if_pos h1] at he
   by_cases h2:eqS y a=true
   ·have e1:a=x:=by simpa[eqS] using h1
    have e2:a=y:=by simpa[eqS] using h2
    rw[←e1,e2]
   ·rw[if_neg h2] at he
    split at he<;>have:=qi5 (eqS y) H<;>omega
  ·rw[if_neg h1] at h he
   by_cases h2:eqS y a=true
   ·rw[if_pos h2] at he
    split at he<;>have:=qi5 (eqS x) H<;>omega
   ·rw[if_neg h2] at he
    split at h
    ·omega
    ·rename_i h3
     rw[if_neg h3] at he
     split at he
     ·omega
     ·have g1:=qi5 (eqS x) H
      exact qrs (H:=H) (by omega) (by omega)
theorem Q03 {l:List qao} (h:qi9 l=0) (what x:List UInt8):qk2 what x l=qgn∨qk2 what x l=q9m∨qk2 what x l=qmk:=by
 have hr:∀r∈l,Qv3 r=false:=fun r hr=>by
  unfold qi9 at h
  split at h
  ·cases h
  obtain⟨i,hi,rfl⟩:=List.getElem_of_mem hr
  have:=qca h i hi
  have e:l.getD i default=l[i]:=by simp[hi]
  rw[e] at this
  unfold q5h at this
  split at this
  ·cases this
  ·rename_i h1;simpa using h1
 clear h
 induction l with
 | nil=>exact .inl rfl
 | cons r l ih=>
  unfold qk2
  split
  ·have:=hr r List.mem_cons_self
   unfold Qv3 at this
   simp only[Bool.or_eq_false_iff,Bool.and_eq_false_iff,Bool.not_eq_false',beq_iff_eq] at this
   rcases this.2 with(h1|h1)|h1
   ·exact .inl h1
   ·exact .inr (.inl h1)
   ·exact .inr (.inr h1)
  ·exact ih fun r hr'=>hr r (List.mem_cons_of_mem _ hr')
theorem q3a {l:List qao} (h:qi9 l=0) {what x:List UInt8} (hd:qbw l what x=false):hid l what x=true∨qk2 what x l=qgn:=by
 rcases Q03 h what x with h1|h1|h1
 ·exact .inr h1
 ·exact .inl (by rw[hid,h1];rfl)
 ·rw[qbw,h1] at hd;cases hd
theorem Qbj {x:List UInt8} {s:List (List UInt8)} (h:x∈s):s.any (eqS x)=true:=List.any_eq_true.2 ⟨x,h,by simp[eqS]⟩
theorem q2x {l:List qao} {what x:List UInt8} {s:List (List UInt8)} (hx:x∈s) (hh:hid l what x=true):0≤qet (eqS x) (qd1 l what s)∧qh7 (qd1 l what s) x=qdl++Lib.decDigits (qet (eqS x) (qd1 l what s)+1).toNat:=by
 have h1:(qd1 l what s).any (eqS x)=true:=by rw[qiq,Qbj hx,hh];rfl
 have h2:=qd5 (eqS x) (qd1 l what s)
 rw[h1,decide_eq_true_eq] at h2
 exact⟨h2,by rw[qh7,if_neg (by omega)]⟩
theorem q2v {l:List qao} {what x:List UInt8} {s:List (List UInt8)} (hh:hid l what x=false):qh7 (qd1 l what s) x=x:=by
 have h1:(qd1 l what s).any (eqS x)=false:=by rw[qiq,hh,Bool.and_false]
 rw[qh7,if_pos (by rw[qdh h1];decide)]
theorem Qqw {l:List qao} {what:List UInt8} {s:List (List UInt8)} (hc:qgh l what s=false) {x y:List UInt8} (hx:x∈s) (hh:hid l what x=true) (hy:y∈s) (hk:qk2 what y l=qgn):qs1 y qdl=false:=by
 have h1:(qd1 l what s).any (eqS x)=true:=by rw[qiq,Qbj hx,hh];rfl
 have h2:(qd1 l what s).isEmpty=false:=by
  cases e:qd1 l what s with
  | nil=>rw[e] at h1;cases h1
  | cons a b=>rfl
 rw[qgh,h2,Bool.not_false,Bool.true_and,List.any_eq_false] at hc
 have:=hc y hy
 unfold qed at this
 rw[hk] at this
 simpa using this
theorem Qun {l:List qao} (h:qi9 l=0) {what:List UInt8} {s:List (List UInt8)} (hc:qgh l what s=false) {x y:List UInt8} (hx:x∈s) (hy:y∈s) (dx:qbw l what x=false) (dy:qbw l what y=false) :
  qh7 (qd1 l what s) x=qh7 (qd1 l what s) y↔x=y:=by
 refine⟨fun he=>?_,fun he=>by rw[he]⟩
 have mix:∀{x y:List UInt8},x∈s→y∈s→hid l what x=true→hid l what y=false→qbw l what y=false→qh7 (qd1 l what s) x=qh7 (qd1 l what s) y→False:=fun {x y} hx hy h1 h2 h3 he=>by
  rcases q3a h h3 with h4|h4
  ·rw[h2] at h4;cases h4
  ·have h5:=Qqw hc hx h1 hy h4
   rw[(q2x hx h1).2,q2v h2] at he
   rw[←he,Qfn] at h5
   cases h5
 cases h1:hid l what x with
 | true=>
  cases h2:hid l what y with
  | true=>
   obtain⟨a1,a2⟩:=q2x hx h1
   obtain⟨b1,b2⟩:=q2x hy h2
   rw[a2,b2] at he
   have:=Qvw _ _ (List.append_cancel_left he)
   exact qrs a1 (by omega)
  | false=>exact(mix hx hy h1 h2 dy he).elim
 | false=>
  cases h2:hid l what y with
  | true=>exact(mix hy hx h2 h1 dx he.symm).elim
  | false=>rwa [q2v h1,q2v h2] at he
theorem Qjb {l:List qao} (h:qi9 l=0) {what:List UInt8} {s:List (List UInt8)} {x:List UInt8} (hx:x∈s) (dx:qbw l what x=false):qem (qh7 (qd1 l what s) x)=true∨qk2 what (qh7 (qd1 l what s) x) l=qgn:=by
 rcases q3a h dx with h1|h1
 ·obtain⟨a1,a2⟩:=q2x hx h1
  rw[a2]
  exact .inl (Ql6 _ (by omega))
 ·have h2:hid l what x=false:=by rw[hid,h1];rfl
  rw[q2v h2]
  exact .inr h1

structure qxq (t:qat):Prop where
 th:qbu t.threads=0
 sl:qej t.slices=0
 slT:∀x∈t.slices,qd0 t.threads x.thread=true
 st:qei t.threads t.states=0
 fl:qhy t.flows=0
 flT:∀x∈t.flows,qd0 t.threads x.ft=true∧qd0 t.threads x.tt=true
 sm:qdx t.samples=0
 smT:∀x∈t.samples,qd0 t.threads x.thread=true
 sp:qhg t.steps=0
 bk:bkF t.blocks=0
 bkT:∀x∈t.blocks,qd0 t.threads x.thread=true
 lo:qsb (qd0 t.threads) t.lost=0
 s0:0≤t.lo
 s1:t.lo≤t.hi
 s2:t.hi≤1000000000000
 out:qhl t=false
theorem qft {α:Type} {e:Int} {has:Int→Bool} {g:α→Int} {l:List α}:qcr e has g l=0↔e=0∧∀x∈l,has (g x)=true:=by
 unfold qcr
 constructor
 ·intro h
  split at h
  ·rename_i h1;exact absurd h h1
  ·rename_i h1
   have h1:e=0:=Classical.byContradiction h1
   split at h
   ·rename_i h2;exact⟨h1,fun x hx=>List.all_eq_true.1 h2 x hx⟩
   ·cases h
 ·rintro⟨h1,h2⟩
  rw[if_neg (by rw[h1];simp),if_pos (List.all_eq_true.2 h2)]
theorem qoh {a:Int} {b:Int} (h:(if a≠0 then a else b)=0):a=0∧b=0:=by
 split at h
 ·rename_i h1;exact absurd h h1
 ·rename_i h1;exact⟨Classical.byContradiction h1,h⟩
theorem qfi {a b:Int} (h1:a=0) (h2:b=0):(if a≠0 then a else b)=0:=by rw[if_neg (by rw[h1];simp),h2]
theorem qsi {t:qat} (h:qc6 t=0):qxq t:=by
 obtain⟨h1,h2⟩:=qoh h
 obtain⟨a1,h1⟩:=qoh h1
 obtain⟨a2,h1⟩:=qoh h1
 obtain⟨a3,h1⟩:=qoh h1
 obtain⟨a4,h1⟩:=qoh h1
 obtain⟨a5,h1⟩:=qoh h1
 obtain⟨a6,h1⟩:=qoh h1
 obtain⟨a7,a8⟩:=qoh h1
 rw[qft] at a2 a4 a5 a7
 rw[qft] at a4
 split at h2
 ·cases h2
 rename_i b1
 split at h2
 ·cases h2
 rename_i b2
 simp only[Bool.or_eq_true,decide_eq_true_eq,not_or] at b1
 exact⟨a1,a2.1,a2.2,a3,a4.1.1,fun x hx=>⟨a4.1.2 x hx,a4.2 x hx⟩,a5.1,a5.2,a6,a7.1,a7.2,a8,by omega,by omega,by omega,by simpa using b2⟩
theorem Qee {t:qat} (h:qxq t):qc6 t=0:=by
 refine qfi ?_ ?_
 ·refine qfi h.th (qfi (qft.2 ⟨h.sl,h.slT⟩) (qfi h.st (qfi (qft.2 ⟨qft.2 ⟨h.fl,fun x hx=>(h.flT x hx).1⟩,fun x hx=>(h.flT x hx).2⟩) (qfi (qft.2 ⟨h.sm,h.smT⟩) (qfi h.sp (qfi (qft.2 ⟨h.bk,h.bkT⟩) h.lo))))))
 ·rw[if_neg,if_neg]
  ·rw[h.out];simp
  ·have:=h.s0
   have:=h.s1
   have:=h.s2
   simp only[Bool.or_eq_true,decide_eq_true_eq,not_or]
   omega
structure Qz6 (l:List qae) (i:Nat):Prop where
 th:0≤(l.getD i default).thread∧(l.getD i default).thread≤1000000000000000
 sp:0≤(l.getD i default).lo∧(l.getD i default).lo<(l.getD i default).hi∧(l.getD i default).hi≤1000000000000
 nm:qda (l.getD i default).name=0
 od:0<i→qxb (l.getD (i-1) default) (l.getD i default)≤0
theorem q5c {l:List qae} {i:Nat}:Qcg l i=0↔Qz6 l i:=by
 unfold Qcg
 constructor
 ·intro h
  split at h
  ·cases h
  rename_i h1
  obtain⟨h2,h3⟩:=qoh h
  split at h3
  ·cases h3
  rename_i h4
  simp only[Bool.or_eq_true,decide_eq_true_eq,not_or,Bool.not_eq_true',qfh,Bool.and_eq_false_iff,decide_eq_false_iff_not,Decidable.not_not,Bool.and_eq_true] at h1
  simp only[Bool.and_eq_true,decide_eq_true_eq,not_and] at h4
  refine⟨by omega,by omega,h2,fun h0=>?_⟩
  have:=h4 h0
  omega
 ·intro h
  obtain⟨⟨t1,t2⟩,⟨s1,s2,s3⟩,n,o⟩:=h
  rw[if_neg,if_neg (by rw[n];simp),if_neg]
  ·simp only[Bool.and_eq_true,decide_eq_true_eq,not_and]
   intro h0
   have:=o h0
   omega
  ·simp only[Bool.or_eq_true,decide_eq_true_eq,not_or,Bool.not_eq_true',qfh,Bool.and_eq_false_iff,decide_eq_false_iff_not,Decidable.not_not,Bool.and_eq_true]
   omega
theorem qfs {l:List qae}:qej l=0↔(∀i,i<l.length→Qz6 l i)∧qg4 l=true∧qgm l=true:=by
 unfold qej
 constructor
 ·intro h
  obtain⟨h1,h2⟩:=qoh h
  split at h2
  ·rename_i h3
   rw[Bool.and_eq_true] at h3
   exact⟨fun i hi=>q5c.1 (qca h1 i hi),h3.1,h3.2⟩
  ·cases h2
 ·rintro⟨h1,h2,h3⟩
  refine qfi (qdw fun k hk=>q5c.2 (h1 k hk)) ?_
  rw[h2,h3];rfl
theorem qi6 {t:qat} (h:qc6 t=0):qd7 t.slices:=fun i hi=>by
 obtain⟨h1,h2,h3⟩:=qfs.1 (qsi h).sl
 obtain⟨s1,s2,s3⟩:=(h1 i hi).sp
 have hn:=qey (List.all_eq_true.1 h2 i (List.mem_range.2 hi))
 exact⟨⟨s1,by omega,by omega⟩,hn⟩
end YtljpopkonkanlaaGreatDoor
end Go.Proofs

set_option maxRecDepth 100000
namespace Go.Proofs
open Go.AM Tryz
namespace YtljpopkonkanlaaGreatDoor
variable {Gl:qbb}
theorem q3v (a b:Int):qbc prog Gl 183 [.d (.agg [.int .i64 a,.int .i64 b])] (.d (.bool (qfh a b))):=by
 refine qbc.of1 ?_
 refine qac func183 rfl rfl (by simp[ntmps183]) (qab rfl _ _ _ _ ?_)
 simp only[ntmps183,results183,qak,List.length_nil]
 simp only[zC,seval]
 exact⟨_,_,qaq,rfl,rfl⟩
theorem Qly (x:qai):qbc prog Gl 129 [.d x.toD] (.d (.int .i64 (qfp x))):=by
 refine qbc.of1 ?_
 refine qac func129 rfl rfl (by simp[ntmps129]) (qab rfl _ _ _ _ ?_)
 simp only[ntmps129,results129,qak,List.length_nil]
 simp only[zC,seval]
 refine ifC.mk (fun h=>?_) (fun h=>?_)
 ·refine⟨_,_,qaq,?_,rfl⟩
  rw[qfp,if_pos h]
 ·refine qaf (q3w _) ?_
  simp only[zC,seval]
  refine⟨_,_,qaq,?_,rfl⟩
  rw[qfp,if_neg (by rw[h];simp)]
theorem Qb6 {l:List qae} (hn:qg4 l=true) {i:Int}:∀(n:Nat) {p:Int},(p+1).toNat≤n→p<i→p<l.length→qcz l i p=false
 | 0,p,h,_,_=>qtd (by omega)
 | n+1,p,h,h2,h3=>by
  by_cases h0:0≤p
  ·obtain⟨q,rfl⟩:∃q:Nat,p=q:=⟨p.toNat,by omega⟩
   have hp:=qey (q3b hn (i:=q) (by omega))
   rw[qo4 h0 (by omega) (by rw[qhr];exact hp.2),qhr]
   exact Qb6 hn n (by omega) (by omega) (by omega)
  ·exact qtd h0
theorem Qeo (l:List qae) (hl:l.length<1000000) (hn:qg4 l=true) (i k:Int) (hi:0≤i) (hk:k<l.length):qbc prog Gl 214 [.d (.sl (l.map qae.toD)),.d (.int .i64 i),.d (.int .i64 k)] (.d (.bool (qcz l i k))):=by
 refine qbc.of3 ?_
 refine qac func214 rfl rfl (by simp[ntmps214]) (qab rfl _ _ _ _ ?_)
 simp only[ntmps214,results214,qak,List.length_nil]
 simp only[zC,seval]
 refine qcy (τ:=Int) (fun p=>[(0,.d (.sl (l.map qae.toD))),(1,.d (.int .i64 i)),(2,.d (.int .i64 p))]) (fun _=>[]) (fun p=>p<l.length∧qcz l i p=qcz l i k) (fun p=>(p+1).toNat) k ⟨hk,rfl⟩ ?_ ?_
 ·refine qaa [] [] rfl List.nodup_nil ?_ rfl
  simp only[zC,seval]
 ·rintro p ⟨h1,h2⟩
  simp only[zC,seval]
  repeat((with_reducible apply aI);exact sdp)
  by_cases hc:0≤p∧i<p
  ·obtain⟨q,rfl⟩:∃q:Nat,p=q:=⟨p.toNat,by omega⟩
   have hp:=qey (q3b hn (i:=q) (by omega))
   rw[qo4 hc.1 (by omega) (by rw[qhr];exact hp.2),qhr] at h2
   have ec:(decide (0≤(q:Int))&&decide (i<(q:Int)))=true:=by rw[decide_eq_true hc.1,decide_eq_true hc.2];rfl
   simp only[zC,seval,ec,(show(0:Int)≤(q:Int) by omega),(show i<(q:Int) by omega),(show(q:Int)<l.length by omega),(show q<l.length by omega),qaj _ _ _ (show q<l.length by omega)]
   repeat((with_reducible apply aI);exact sdp)
   refine⟨(l.getD q default).parent,⟨by omega,h2⟩,by omega,?_⟩
   refine qaa [] [] rfl List.nodup_nil ?_ rfl
   simp only[zC,seval]
  ·have ec:(decide (0≤p)&&decide (i<p))=false:=by
    rw[Bool.and_eq_false_iff,decide_eq_false_iff_not,decide_eq_false_iff_not];omega
   simp only[zC,seval,ec]
   refine⟨_,_,qaq,?_,rfl⟩
   rw[←h2]
   by_cases h5:i=p
   ·subst h5;rw[qyk hi rfl];simp
   ·rw[Qb6 hn _ (Nat.le_refl _) (by omega) h1]
    refine congrArg (fun b=>AV.d (D.bool b)) ?_
    simpa using h5
theorem Qag (a b c d:Int):qbc prog Gl 213 [.d (.agg [.int .i64 a,.int .i64 b]),.d (.agg [.int .i64 c,.int .i64 d])] (.d (.bool (decide (a≤c)&&decide (d≤b)))):=by
 refine qbc.of2 ?_
 refine qac func213 rfl rfl (by simp[ntmps213]) (qab rfl _ _ _ _ ?_)
 simp only[ntmps213,results213,qak,List.length_nil]
 simp only[zC,seval]
 exact⟨_,_,qaq,rfl,rfl⟩
def Qgg (a b:qae):Bool:=if(a.lo !=b.lo)=true then decide (a.lo<b.lo) else if(a.hi !=b.hi)=true then decide (b.hi<a.hi) else decide (a.thread<b.thread)
theorem Qg7 (a b:qae):qbc prog Gl 197 [.d a.toD,.d b.toD] (.d (.bool (Qgg a b))):=by
 refine qbc.of2 ?_
 refine qac func197 rfl rfl (by simp[ntmps197]) (qab rfl _ _ _ _ ?_)
 simp only[ntmps197,results197,qak,List.length_nil]
 simp only[zC,seval]
 refine ifC.mk (fun h1=>?_) (fun h1=>?_)
 ·refine⟨_,_,qaq,?_,rfl⟩
  rw[Qgg,if_pos h1]
 ·refine ifC.mk (fun h2=>?_) (fun h2=>?_)
  ·refine⟨_,_,qaq,?_,rfl⟩
   rw[Qgg,if_neg (by rw[h1];simp),if_pos h2]
  ·refine⟨_,_,qaq,?_,rfl⟩
   rw[Qgg,if_neg (by rw[h1];simp),if_neg (by rw[h2];simp)]
theorem Qo4 (a b:qae):decide (0<qxb a b)=Qgg b a:=by
 unfold qxb Qgg orL orL orL orL qm3
 rw[Bool.eq_iff_iff]
 by_cases h1:a.lo=b.lo<;>by_cases h2:a.hi=b.hi
 ·simp[h1,h2];repeat(first|omega|(split<;>try simp) )
 ·simp[h1];repeat(first|omega|(split<;>try simp))
 ·simp;repeat(first|omega|(split<;>try simp))
 ·simp;repeat(first|omega|(split<;>try simp))

def q2z (l:List qae) (i:Nat):Bool:=((List.range l.length).all fun k=>!qii l i k)&&((l.getD i default).self==qfa l i l.length)
theorem q5j (l:List qae):(List.range l.length).all (q2z l)=qgm l:=by
 unfold qgm
 rw[Bool.eq_iff_iff]
 simp only[List.all_eq_true,List.mem_range,q2z,qf0,Bool.and_eq_true]
 constructor
 ·intro h i hi
  exact⟨fun j hj=>(h j hj).1 i hi,(h i hi).2⟩
 ·intro h i hi
  exact⟨fun j hj=>(h j hj).1 i hi,(h i hi).2⟩
set_option maxHeartbeats 4000000 in
theorem Qll (l:List qae) (hl:l.length<1000000):qbc prog Gl 198 [.d (.sl (l.map qae.toD))] (.d (.bool (qg4 l&&qgm l))):=by
 refine qbc.of1 ?_
 obtain⟨F,hF⟩:∃F,F=(qg4 l&&qgm l):=⟨_,rfl⟩
 rw[←hF]
 refine qac func198 rfl rfl (by simp[ntmps198]) (qab rfl _ _ _ _ ?_)
 simp only[ntmps198,results198,qak,List.length_nil]
 simp only[zC,seval]
 refine qap l.length (fun k=>[(0,.d (.sl (l.map qae.toD))),(3,.d (.int .i64 k))]) (fun _=>[]) (fun k=>(List.range k).all (qek l)=true) rfl ?_ ?_
 ·refine qaa [] [] rfl List.nodup_nil ?_ rfl
  simp only[zC,seval,Int.cast_ofNat_Int]
 ·intro k hi hk
  by_cases h:k<l.length
  ·obtain⟨b,eb⟩:∃b,b=l.getD k default:=⟨_,rfl⟩
   have hbad:qek l k=false→F=false:=fun h1=>by rw[hF,show qg4 l=false from qce h h1];rfl
   simp only[zC,seval,(show(k:Int)<l.length by omega),h,qaj _ _ _ (show k<l.length by omega),←eb]
   repeat((with_reducible apply aI);exact sdp)
   cases h1:(decide (b.parent < -1)||decide ((k:Int)≤b.parent)) with
   | true=>
    simp only[zC,seval]
    refine⟨_,_,qaq,?_,rfl⟩
    rw[hbad (by unfold qek;rw[←eb];simp only[h1,if_pos])]
   | false=>
    simp only[zC,seval]
    have hn:qek l k=if b.parent=-1 then b.depth==0 else !((l.getD b.parent.toNat default).thread !=b.thread||decide (b.lo<(l.getD b.parent.toNat default).lo)||decide ((l.getD b.parent.toNat default).hi<b.hi)||b.depth !=IntKind.i64.wrap ((l.getD b.parent.toNat default).depth+1)):=by
     unfold qek;rw[←eb];simp only[h1,Bool.false_eq_true,if_false]
    simp only[Bool.or_eq_false_iff,decide_eq_false_iff_not] at h1
    by_cases h2:b.parent=-1
    ·rw[if_pos h2] at hn
     simp only[zC,seval,h2,(show(k:Int)<l.length by omega),h,qaj _ _ _ (show k<l.length by omega),←eb]
     repeat((with_reducible apply aI);exact sdp)
     refine ifC.mk (fun h3=>?_) (fun h3=>?_)
     ·refine⟨_,_,qaq,?_,rfl⟩
      rw[hbad (by rw[hn];simpa using h3)]
     ·have hat:qek l k=true:=by rw[hn];simpa using h3
      have e1:(-1:Int).toNat=0:=rfl
      repeat((with_reducible apply aI);exact sdp)
      simp only[zC,seval,e1,qaj _ _ _ (show 0<l.length by omega),(show(k:Int)<l.length by omega),h,qaj _ _ _ (show k<l.length by omega),←eb]
      repeat((with_reducible apply aI);exact sdp)
      refine qav (v:=.d (.bool false)) (fun h=>by cases h) ?_
      simp only[zC,seval,e1,qaj _ _ _ (show 0<l.length by omega),(show(k:Int)<l.length by omega),h,qaj _ _ _ (show k<l.length by omega),←eb]
      repeat((with_reducible apply aI);exact sdp)
      refine⟨by rw[qcn,hi,hat];rfl,?_⟩
      refine qaa [] [] rfl List.nodup_nil ?_ rfl
      simp only[zC,seval,@qag ((k:Int)+1) (by omega)]
    ·rw[if_neg h2] at hn
     obtain⟨q,eq⟩:∃q:Nat,b.parent=q:=⟨b.parent.toNat,by omega⟩
     rw[eq,qhr] at hn
     obtain⟨p,ep⟩:∃p,p=l.getD q default:=⟨_,rfl⟩
     rw[←ep] at hn
     simp only[zC,seval,eq,qxp (show ¬((q:Int)=-1) by omega),(show(0:Int)≤(q:Int) by omega),(show(q:Int)<l.length by omega),(show q<l.length by omega),qaj _ _ _ (show q<l.length by omega),←ep,(show(k:Int)<l.length by omega),h,qaj _ _ _ (show k<l.length by omega),←eb]
     repeat((with_reducible apply aI);exact sdp)
     refine qav (fun _=>Qag _ _ _ _) ?_
     simp only[zC,seval,(show(q:Int)<l.length by omega),(show q<l.length by omega),qaj _ _ _ (show q<l.length by omega),←ep,(show(k:Int)<l.length by omega),h,qaj _ _ _ (show k<l.length by omega),←eb]
     repeat((with_reducible apply aI);exact sdp)
     have e5:(!(decide (p.lo≤b.lo)&&decide (b.hi≤p.hi)))=(decide (b.lo<p.lo)||decide (p.hi<b.hi)):=by rw[Bool.eq_iff_iff];simp
     rw[Bool.or_assoc (p.thread !=b.thread),←e5] at hn
     refine ifC.mk (fun h3=>?_) (fun h3=>?_)
     ·refine⟨_,_,qaq,?_,rfl⟩
      rw[hbad (by rw[hn,h3];rfl)]
     ·have hat:qek l k=true:=by rw[hn,h3];rfl
      refine⟨by rw[qcn,hi,hat];rfl,?_⟩
      refine qaa [] [] rfl List.nodup_nil ?_ rfl
      simp only[zC,seval,@qag ((k:Int)+1) (by omega)]
  ·simp only[zC,seval,(show ¬(k:Int)<l.length by omega)]
   have:k=l.length:=by omega
   subst this
   have hn:qg4 l=true:=hi
   rw[hn,Bool.true_and] at hF
   refine qap l.length (fun i=>[(0,.d (.sl (l.map qae.toD))),(5,.d (.int .i64 i))]) (fun _=>[]) (fun i=>(List.range i).all (q2z l)=true) rfl ?_ ?_
   ·refine qaa [] [] rfl List.nodup_nil ?_ rfl
    simp only[zC,seval,Int.cast_ofNat_Int]
   ·intro i hi2 hk2
    by_cases h3:i<l.length
    ·obtain⟨b,eb⟩:∃b,b=l.getD i default:=⟨_,rfl⟩
     have hbad:q2z l i=false→F=false:=fun h1=>by rw[hF,←q5j];exact qce h3 h1
     simp only[zC,seval,(show(i:Int)<l.length by omega),h3,qaj _ _ _ (show i<l.length by omega),←eb]
     repeat((with_reducible apply aI);exact sdp)
     refine qap l.length (fun j=>[(0,.d (.sl (l.map qae.toD))),(5,.d (.int .i64 i)),(6,.d (.int .i64 (qfa l i j))),(7,.d (.int .i64 j))]) (fun _=>[]) (fun j=>((List.range j).all fun k=>!qii l i k)=true) rfl ?_ ?_
     ·refine qaa [] [] rfl List.nodup_nil ?_ rfl
      simp only[zC,seval,Int.cast_ofNat_Int,qfa,←eb]
     ·intro j hj hjk
      by_cases h2:j<l.length
      ·obtain⟨a,ea⟩:∃a,a=l.getD j default:=⟨_,rfl⟩
       have hcl:qii l i j=(decide ((i:Int)<(j:Int))&&b.thread==a.thread&&(decide (b.lo<a.hi)&&decide (a.lo<b.hi))&&!qcz l i j):=by
        unfold qii;rw[←ea,←eb]
        cases decide ((i:Int)<(j:Int))<;>cases (b.thread==a.thread)<;>cases decide (b.lo<a.hi)<;>cases decide (a.lo<b.hi)<;>rfl
       simp only[zC,seval,(show(j:Int)<l.length by omega),h2,qaj _ _ _ (show j<l.length by omega),←ea,(show(i:Int)<l.length by omega),h3,qaj _ _ _ (show i<l.length by omega),←eb]
       repeat((with_reducible apply aI);exact sdp)
       cases h4:(a.parent==(i:Int)) with
       | true=>
        have hS:qfa l i (j+1)=IntKind.i64.wrap (qfa l i j-IntKind.i64.wrap (a.hi-a.lo)):=by rw[qfa,←ea,if_pos h4]
        simp only[zC,seval,(show(j:Int)<l.length by omega),h2,qaj _ _ _ (show j<l.length by omega),←ea,(show(i:Int)<l.length by omega),h3,qaj _ _ _ (show i<l.length by omega),←eb]
        repeat((with_reducible apply aI);exact sdp)
        refine qav (fun _=>Qeo l hl hn i j (by omega) (by omega)) ?_
        simp only[zC,seval]
        repeat((with_reducible apply aI);exact sdp)
        refine ifC.mk (fun hc=>?_) (fun hc=>?_)
        ·refine⟨_,_,qaq,?_,rfl⟩
         rw[hbad (by unfold q2z;rw[qce h2 (by rw[hcl,hc];rfl)];rfl)]
        ·refine⟨by rw[qcn,hj,hcl,hc];rfl,?_⟩
         refine qaa [] [] rfl List.nodup_nil ?_ rfl
         simp only[zC,seval,@qag ((j:Int)+1) (by omega),hS]
       | false=>
        have hS:qfa l i (j+1)=qfa l i j:=by rw[qfa,←ea,if_neg (by rw[h4];simp)]
        simp only[zC,seval,(show(j:Int)<l.length by omega),h2,qaj _ _ _ (show j<l.length by omega),←ea,(show(i:Int)<l.length by omega),h3,qaj _ _ _ (show i<l.length by omega),←eb]
        repeat((with_reducible apply aI);exact sdp)
        refine qav (fun _=>Qeo l hl hn i j (by omega) (by omega)) ?_
        simp only[zC,seval]
        repeat((with_reducible apply aI);exact sdp)
        refine ifC.mk (fun hc=>?_) (fun hc=>?_)
        ·refine⟨_,_,qaq,?_,rfl⟩
         rw[hbad (by unfold q2z;rw[qce h2 (by rw[hcl,hc];rfl)];rfl)]
        ·refine⟨by rw[qcn,hj,hcl,hc];rfl,?_⟩
         refine qaa [] [] rfl List.nodup_nil ?_ rfl
         simp only[zC,seval,@qag ((j:Int)+1) (by omega),hS]
      ·simp only[zC,seval,(show ¬(j:Int)<l.length by omega),(show(i:Int)<l.length by omega),h3,qaj _ _ _ (show i<l.length by omega),←eb]
       repeat((with_reducible apply aI);exact sdp)
       have hjn:j=l.length:=by omega
       subst hjn
       have hat:q2z l i=(b.self==qfa l i l.length):=by unfold q2z;rw[hj,←eb,Bool.true_and]
       refine ifC.mk (fun hc=>?_) (fun hc=>?_)
       ·refine⟨_,_,qaq,?_,rfl⟩
        rw[hbad (by rw[hat];simpa using hc)]
       ·have hat:q2z l i=true:=by rw[hat];simpa using hc
        refine⟨by rw[qcn,hi2,hat];rfl,?_⟩
        refine qaa [] [] rfl List.nodup_nil ?_ rfl
        simp only[zC,seval,@qag ((i:Int)+1) (by omega)]
    ·simp only[zC,seval,(show ¬(i:Int)<l.length by omega)]
     have:i=l.length:=by omega
     subst this
     refine⟨_,_,qaq,?_,rfl⟩
     rw[hF,←q5j,hi2]

theorem q3u (l:List qae) (hl:l.length<1000000):qbc prog Gl 177 [.d (.sl (l.map qae.toD))] (.d (.int .i64 (qej l))):=by
 refine qbc.of1 ?_
 refine qac func177 rfl rfl (by simp[ntmps177]) (qab rfl _ _ _ _ ?_)
 simp only[ntmps177,results177,qak,List.length_nil]
 simp only[zC,seval]
 refine qap l.length (fun k=>[(0,.d (.sl (l.map qae.toD))),(3,.d (.int .i64 k))]) (fun _=>[]) (fun k=>qa3 (Qcg l) k=0) rfl ?_ ?_
 ·refine qaa [] [] rfl List.nodup_nil ?_ rfl
  simp only[zC,seval,Int.cast_ofNat_Int]
 ·intro k hi hk
  by_cases h:k<l.length
  ·have hb:∀e,Qcg l k=e→e≠0→qej l=e:=fun e h1 h2=>by
    have:=qby hi (by rw[h1];exact h2) h
    rw[qej,this,h1,if_pos h2]
   obtain⟨b,eb⟩:∃b,b=l.getD k default:=⟨_,rfl⟩
   simp only[zC,seval,(show(k:Int)<l.length by omega),h,qaj _ _ _ (show k<l.length by omega),←eb]
   repeat((with_reducible apply aI);exact sdp)
   refine qav (fun _=>q3v _ _) ?_
   simp only[zC,seval,(show(k:Int)<l.length by omega),h,qaj _ _ _ (show k<l.length by omega),←eb]
   repeat((with_reducible apply aI);exact sdp)
   refine ifC.mk (fun h1=>?_) (fun h1=>?_)
   ·refine⟨_,_,qaq,?_,rfl⟩
    rw[hb 2 (Qcf (by rw[←eb];exact h1)) (by omega)]
   ·refine qaf (q3w _) ?_
    simp only[zC,seval,(show(k:Int)<l.length by omega),h,qaj _ _ _ (show k<l.length by omega),←eb]
    refine ifC.mk (fun h2=>?_) (fun h2=>?_)
    ·have h2:qda b.name≠0:=by simpa using h2
     refine⟨_,_,qaq,?_,rfl⟩
     rw[hb _ (Qsn (by rw[←eb];exact h1) (by rw[←eb];exact h2)) (by rw[←eb];exact h2),←eb]
    ·have ho:=Qi0 (l:=l) (k:=k) (by rw[←eb];exact h1) (by rw[←eb];simpa using h2)
     rw[←eb,Qo4] at ho
     by_cases hk0:0<k
     ·have e1:IntKind.i64.wrap ((k:Int)-1)=((k-1:Nat):Int):=by rw[qbd (by omega) (by omega)];omega
      obtain⟨a,ea⟩:∃a,a=l.getD (k-1) default:=⟨_,rfl⟩
      rw[decide_eq_true hk0,Bool.true_and,←ea] at ho
      simp only[zC,seval,(show(0:Int)<k by omega),e1,(show((k-1:Nat):Int)<l.length by omega),(show k-1<l.length by omega),qaj _ _ _ (show k-1<l.length by omega),←ea,(show(k:Int)<l.length by omega),h,qaj _ _ _ (show k<l.length by omega),←eb]
      repeat((with_reducible apply aI);exact sdp)
      refine qav (fun _=>Qg7 _ _) ?_
      simp only[zC,seval]
      repeat((with_reducible apply aI);exact sdp)
      refine ifC.mk (fun h3=>?_) (fun h3=>?_)
      ·refine⟨_,_,qaq,?_,rfl⟩
       rw[if_pos h3] at ho
       rw[hb 11 ho (by omega)]
      ·rw[if_neg (by rw[h3];simp)] at ho
       refine⟨qa2 hi ho,?_⟩
       refine qaa [] [] rfl List.nodup_nil ?_ rfl
       simp only[zC,seval,@qag ((k:Int)+1) (by omega)]
     ·rw[decide_eq_false hk0,Bool.false_and,if_neg (by simp)] at ho
      have e0:(IntKind.i64.wrap ((k:Int)-1)).toNat=0:=by rw[qbd (by omega) (by omega)];omega
      simp only[zC,seval,(show ¬(0:Int)<k by omega),e0,qaj _ _ _ (show 0<l.length by omega),(show(k:Int)<l.length by omega),h,qaj _ _ _ (show k<l.length by omega),←eb]
      repeat((with_reducible apply aI);exact sdp)
      refine qav (v:=.d (.bool false)) (fun h=>by cases h) ?_
      simp only[zC,seval,e0,qaj _ _ _ (show 0<l.length by omega)]
      repeat((with_reducible apply aI);exact sdp)
      refine⟨qa2 hi ho,?_⟩
      refine qaa [] [] rfl List.nodup_nil ?_ rfl
      simp only[zC,seval,@qag ((k:Int)+1) (by omega)]
  ·simp only[zC,seval,(show ¬(k:Int)<l.length by omega)]
   have:k=l.length:=by omega
   subst this
   have hF:qej l=if(qg4 l&&qgm l)=true then 0 else 10:=by rw[qej,hi,if_neg (by simp)]
   refine qaf (Qll l hl) ?_
   simp only[zC,seval]
   refine ifC.mk (fun hn=>?_) (fun hn=>?_)
   ·refine⟨_,_,qaq,?_,rfl⟩
    rw[hF,if_neg (by intro e;rw[e] at hn;cases hn)]
   ·refine⟨_,_,qaq,?_,rfl⟩
    rw[hF,if_pos (by simpa using hn)]
theorem qkq (n:Int):qbc prog Gl 202 [.d (.int .i64 n)] (.d (.bool (!q4j n 1000000000000000))):=by
 refine qbc.of1 ?_
 refine qac func202 rfl rfl (by simp[ntmps202]) (qab rfl _ _ _ _ ?_)
 simp only[ntmps202,results202,qak,List.length_nil]
 simp only[zC,seval]
 refine⟨_,_,qaq,?_,rfl⟩
 refine congrArg (fun b=>AV.d (D.bool b)) ?_
 unfold q4j;rw[Bool.eq_iff_iff];simp
theorem q74 (n:Int):qbc prog Gl 203 [.d (.int .i64 n)] (.d (.bool (!q4j n 1000000000000))):=by
 refine qbc.of1 ?_
 refine qac func203 rfl rfl (by simp[ntmps203]) (qab rfl _ _ _ _ ?_)
 simp only[ntmps203,results203,qak,List.length_nil]
 simp only[zC,seval]
 refine⟨_,_,qaq,?_,rfl⟩
 refine congrArg (fun b=>AV.d (D.bool b)) ?_
 unfold q4j;rw[Bool.eq_iff_iff];simp
set_option maxHeartbeats 2000000 in
theorem q8a (l:List qbj) (hl:l.length<1000000):qbc prog Gl 179 [.d (.sl (l.map qbj.toD))] (.d (.int .i64 (qhy l))):=by
 refine qbc.of1 ?_
 refine qac func179 rfl rfl (by simp[ntmps179]) (qab rfl _ _ _ _ ?_)
 simp only[ntmps179,results179,qak,List.length_nil]
 simp only[zC,seval]
 refine qap l.length (fun k=>[(0,.d (.sl (l.map qbj.toD))),(3,.d (.int .i64 k))]) (fun _=>[]) (fun k=>qa3 (Qhw l) k=0) rfl ?_ ?_
 ·refine qaa [] [] rfl List.nodup_nil ?_ rfl
  simp only[zC,seval,Int.cast_ofNat_Int]
 ·intro k hi hk
  by_cases h:k<l.length
  ·have hb:∀e,Qhw l k=e→e≠0→qhy l=e:=fun e h1 h2=>by rw[qhy,qby hi (by rw[h1];exact h2) h,h1]
   obtain⟨b,eb⟩:∃b,b=l.getD k default:=⟨_,rfl⟩
   simp only[zC,seval,(show(k:Int)<l.length by omega),h,qaj _ _ _ (show k<l.length by omega),←eb]
   repeat((with_reducible apply aI);exact sdp)
   refine qaf (qkq _) ?_
   simp only[zC,seval,Bool.not_not]
   repeat((with_reducible apply aI);exact sdp)
   refine qav (fun _=>qkq _) ?_
   simp only[zC,seval,Bool.not_not]
   repeat((with_reducible apply aI);exact sdp)
   refine qav (fun _=>qkq _) ?_
   simp only[zC,seval,Bool.not_not]
   repeat((with_reducible apply aI);exact sdp)
   refine qav (fun _=>qkq _) ?_
   simp only[zC,seval,Bool.not_not]
   repeat((with_reducible apply aI);exact sdp)
   refine qav (fun _=>qkq _) ?_
   simp only[zC,seval,Bool.not_not]
   repeat((with_reducible apply aI);exact sdp)
   refine qav (fun _=>q74 _) ?_
   simp only[zC,seval,Bool.not_not]
   repeat((with_reducible apply aI);exact sdp)
   refine qav (fun _=>q74 _) ?_
   simp only[zC,seval,Bool.not_not]
   repeat((with_reducible apply aI);exact sdp)
   refine ifC.mk (fun h1=>?_) (fun h1=>?_)
   ·refine⟨_,_,qaq,?_,rfl⟩
    rw[hb 2 (qho (by rw[←eb];exact h1)) (by omega)]
   ·have ho:=Qmu (l:=l) (k:=k) (by rw[←eb];exact h1)
    rw[Qka,←eb] at ho
    by_cases hk0:0<k
    ·have e1:IntKind.i64.wrap ((k:Int)-1)=((k-1:Nat):Int):=by rw[qbd (by omega) (by omega)];omega
     obtain⟨a,ea⟩:∃a,a=l.getD (k-1) default:=⟨_,rfl⟩
     rw[decide_eq_true hk0,Bool.true_and,←ea] at ho
     simp only[zC,seval,(show(0:Int)<k by omega),e1,(show((k-1:Nat):Int)<l.length by omega),(show k-1<l.length by omega),qaj _ _ _ (show k-1<l.length by omega),←ea]
     repeat((with_reducible apply aI);exact sdp)
     (try simp only[zC,seval,(show(0:Int)<k by omega),e1,(show((k-1:Nat):Int)<l.length by omega),(show k-1<l.length by omega),qaj _ _ _ (show k-1<l.length by omega),←ea])
     repeat((with_reducible apply aI);exact sdp)
     refine ifC.mk (fun h3=>?_) (fun h3=>?_)
     ·refine⟨_,_,qaq,?_,rfl⟩
      rw[if_pos h3] at ho
      rw[hb 11 ho (by omega)]
     ·rw[if_neg (by rw[h3];simp)] at ho
      refine⟨qa2 hi ho,?_⟩
      refine qaa [] [] rfl List.nodup_nil ?_ rfl
      simp only[zC,seval,@qag ((k:Int)+1) (by omega)]
    ·rw[decide_eq_false hk0,Bool.false_and,Bool.or_false] at ho
     have e0:(IntKind.i64.wrap ((k:Int)-1)).toNat=0:=by rw[qbd (by omega) (by omega)];omega
     simp only[zC,seval,(show ¬(0:Int)<k by omega),e0,qaj _ _ _ (show 0<l.length by omega)]
     repeat((with_reducible apply aI);exact sdp)
     (try simp only[zC,seval,(show ¬(0:Int)<k by omega),e0,qaj _ _ _ (show 0<l.length by omega)])
     repeat((with_reducible apply aI);exact sdp)
     refine ifC.mk (fun h3=>?_) (fun h3=>?_)
     ·refine⟨_,_,qaq,?_,rfl⟩
      rw[if_pos h3] at ho
      rw[hb 11 ho (by omega)]
     ·rw[if_neg (by rw[h3];simp)] at ho
      refine⟨qa2 hi ho,?_⟩
      refine qaa [] [] rfl List.nodup_nil ?_ rfl
      simp only[zC,seval,@qag ((k:Int)+1) (by omega)]
  ·simp only[zC,seval,(show ¬(k:Int)<l.length by omega)]
   refine⟨_,_,qaq,?_,rfl⟩
   have:k=l.length:=by omega
   rw[qhy,←this,hi]
theorem Qle (s:qam):qbc prog Gl 204 [.d s.toD] (.d (.bool (qjm s))):=by
 refine qbc.of1 ?_
 refine qac func204 rfl rfl (by simp[ntmps204]) (qab rfl _ _ _ _ ?_)
 simp only[ntmps204,results204,qak,List.length_nil]
 simp only[zC,seval]
 exact⟨_,_,qaq,rfl,rfl⟩
theorem qx5 (l:List qam) (hs:∀x∈l,x.stack.length<1000000) (hl:l.length<1000000):qbc prog Gl 180 [.d (.sl (l.map qam.toD))] (.d (.int .i64 (qdx l))):=by
 refine qbc.of1 ?_
 refine qac func180 rfl rfl (by simp[ntmps180]) (qab rfl _ _ _ _ ?_)
 simp only[ntmps180,results180,qak,List.length_nil]
 simp only[zC,seval]
 refine qap l.length (fun k=>[(0,.d (.sl (l.map qam.toD))),(3,.d (.int .i64 k))]) (fun _=>[]) (fun k=>qa3 (Qce l) k=0) rfl ?_ ?_
 ·refine qaa [] [] rfl List.nodup_nil ?_ rfl
  simp only[zC,seval,Int.cast_ofNat_Int]
 ·intro k hi hk
  by_cases h:k<l.length
  ·have hb:∀e,Qce l k=e→e≠0→qdx l=e:=fun e h1 h2=>by rw[qdx,qby hi (by rw[h1];exact h2) h,h1]
   obtain⟨b,eb⟩:∃b,b=l.getD k default:=⟨_,rfl⟩
   simp only[zC,seval,(show(k:Int)<l.length by omega),h,qaj _ _ _ (show k<l.length by omega),←eb]
   repeat((with_reducible apply aI);exact sdp)
   refine qaf (Qle _) ?_
   simp only[zC,seval,(show(k:Int)<l.length by omega),h,qaj _ _ _ (show k<l.length by omega),←eb]
   refine ifC.mk (fun h1=>?_) (fun h1=>?_)
   ·refine⟨_,_,qaq,?_,rfl⟩
    rw[hb 2 (Qcd (by rw[←eb];simpa using h1)) (by omega)]
   ·have h1:qjm (l.getD k default)=true:=by rw[←eb];simpa using h1
    repeat((with_reducible apply aI);exact sdp)
    refine qaf (q8c _ (by rw[eb];exact hs _ (qbh h))) ?_
    simp only[zC,seval,(show(k:Int)<l.length by omega),h,qaj _ _ _ (show k<l.length by omega),←eb]
    refine ifC.mk (fun h2=>?_) (fun h2=>?_)
    ·have h2:qbx (l.getD k default).stack≠0:=by rw[←eb];simpa using h2
     refine⟨_,_,qaq,?_,rfl⟩
     rw[hb _ (Qiy h1 h2) h2,eb]
    ·have ho:=Qix h1 (by rw[←eb];simpa using h2)
     rw[←eb] at ho
     by_cases hk0:0<k
     ·have e1:IntKind.i64.wrap ((k:Int)-1)=((k-1:Nat):Int):=by rw[qbd (by omega) (by omega)];omega
      obtain⟨a,ea⟩:∃a,a=l.getD (k-1) default:=⟨_,rfl⟩
      rw[decide_eq_true hk0,Bool.true_and,←ea] at ho
      (try simp only[zC,seval,(show(0:Int)<k by omega),e1,(show((k-1:Nat):Int)<l.length by omega),(show k-1<l.length by omega),qaj _ _ _ (show k-1<l.length by omega),←ea,(show(k:Int)<l.length by omega),h,qaj _ _ _ (show k<l.length by omega),←eb])
      repeat((with_reducible apply aI);exact sdp)
      refine ifC.mk (fun h9=>?_) (fun h9=>?_)
      ·refine⟨_,_,qaq,?_,rfl⟩
       rw[if_pos h9] at ho
       rw[hb 11 ho (by omega)]
      ·rw[if_neg (by rw[h9];simp)] at ho
       refine⟨qa2 hi ho,?_⟩
       refine qaa [] [] rfl List.nodup_nil ?_ rfl
       simp only[zC,seval,@qag ((k:Int)+1) (by omega)]
     ·rw[decide_eq_false hk0,Bool.false_and,if_neg (by simp)] at ho
      have e0:(IntKind.i64.wrap ((k:Int)-1)).toNat=0:=by rw[qbd (by omega) (by omega)];omega
      (try simp only[zC,seval,(show ¬(0:Int)<k by omega),e0,qaj _ _ _ (show 0<l.length by omega),(show(k:Int)<l.length by omega),h,qaj _ _ _ (show k<l.length by omega),←eb])
      repeat((with_reducible apply aI);exact sdp)
      refine⟨qa2 hi ho,?_⟩
      refine qaa [] [] rfl List.nodup_nil ?_ rfl
      simp only[zC,seval,@qag ((k:Int)+1) (by omega)]
  ·simp only[zC,seval,(show ¬(k:Int)<l.length by omega)]
   refine⟨_,_,qaq,?_,rfl⟩
   have:k=l.length:=by omega
   rw[qdx,←this,hi]

theorem Qp5 (xs:List qai) (x:Int) (hl:xs.length<2000000) (B:Blk) (hB:qeg 3 (xs.map qai.toD) B):qal prog Gl 200 [.osl 0 0 xs.length,.d (.int .i64 x)] [B] (fun r s=>r=.d (.int .i64 (qet (fun y:qai=>y.id==x) xs))∧s=[B]):=by
 rcases hB with rfl|rfl
 ·refine qac func200 rfl rfl (by simp[ntmps200]) (qab rfl _ _ _ _ ?_)
  simp only[ntmps200,results200,qak,List.length_nil]
  simp only[zC,seval]
  refine qap xs.length (fun k=>[(0,.osl 0 0 xs.length),(1,.d (.int .i64 x)),(5,.d (.int .i64 k))]) (fun _=>[.arr 3 (xs.map qai.toD)]) (fun k=>(xs.take k).any (fun y=>y.id==x)=false) rfl ?_ ?_
  ·refine qaa [] [0] rfl (by simp) ?_ rfl
   simp only[zC,seval,Int.cast_ofNat_Int]
   all_goals rfl
  ·intro k hi hk
   by_cases h:k<xs.length
   ·have hs:=qcs (fun y:qai=>y.id==x) xs k h
    simp only[zC,seval,(show(k:Int)<xs.length by omega),h,qaj _ _ _ (show k<xs.length by omega)]
    repeat((with_reducible apply aI);exact sdp)
    refine ifC.mk (fun hc=>?_) (fun hc=>?_)
    ·refine⟨_,_,qah [] [0] rfl (by simp) (show qbk _ _ _=AV.d _ from rfl) rfl,?_,rfl⟩
     rw[qfu h hi hc]
    ·refine⟨by rw[hs,hi,hc];rfl,?_⟩
     refine qaa [] [0] rfl (by simp) ?_ rfl
     simp only[zC,seval,@qag ((k:Int)+1) (by omega)]
     all_goals rfl
   ·simp only[zC,seval,(show ¬(k:Int)<xs.length by omega)]
    have:k=xs.length:=by omega
    subst this
    rw[List.take_length] at hi
    refine⟨_,_,qah [] [0] rfl (by simp) (show qbk _ _ _=AV.d _ from rfl) rfl,?_,rfl⟩
    rw[qdh hi]
 ·refine qac func200 rfl rfl (by simp[ntmps200]) (qab rfl _ _ _ _ ?_)
  simp only[ntmps200,results200,qak,List.length_nil]
  simp only[zC,seval]
  refine qap xs.length (fun k=>[(0,.osl 0 0 xs.length),(1,.d (.int .i64 x)),(5,.d (.int .i64 k))]) (fun _=>[.frz 3 (xs.map qai.toD)]) (fun k=>(xs.take k).any (fun y=>y.id==x)=false) rfl ?_ ?_
  ·refine qaa [] [0] rfl (by simp) ?_ rfl
   simp only[zC,seval,Int.cast_ofNat_Int]
   all_goals rfl
  ·intro k hi hk
   by_cases h:k<xs.length
   ·have hs:=qcs (fun y:qai=>y.id==x) xs k h
    simp only[zC,seval,(show(k:Int)<xs.length by omega),h,qaj _ _ _ (show k<xs.length by omega)]
    repeat((with_reducible apply aI);exact sdp)
    refine ifC.mk (fun hc=>?_) (fun hc=>?_)
    ·refine⟨_,_,qah [] [0] rfl (by simp) (show qbk _ _ _=AV.d _ from rfl) rfl,?_,rfl⟩
     rw[qfu h hi hc]
    ·refine⟨by rw[hs,hi,hc];rfl,?_⟩
     refine qaa [] [0] rfl (by simp) ?_ rfl
     simp only[zC,seval,@qag ((k:Int)+1) (by omega)]
     all_goals rfl
   ·simp only[zC,seval,(show ¬(k:Int)<xs.length by omega)]
    have:k=xs.length:=by omega
    subst this
    rw[List.take_length] at hi
    refine⟨_,_,qah [] [0] rfl (by simp) (show qbk _ _ _=AV.d _ from rfl) rfl,?_,rfl⟩
    rw[qdh hi]
theorem Qlx (xs:List qai) (x:Int) (hl:xs.length<1000000):qbc prog Gl 200 [.d (.sl (xs.map qai.toD)),.d (.int .i64 x)] (.d (.int .i64 (qet (fun y:qai=>y.id==x) xs))):=by
 refine qbc.of2 ?_
 refine qac func200 rfl rfl (by simp[ntmps200]) (qab rfl _ _ _ _ ?_)
 simp only[ntmps200,results200,qak,List.length_nil]
 simp only[zC,seval]
 refine qap xs.length (fun k=>[(0,.d (.sl (xs.map qai.toD))),(1,.d (.int .i64 x)),(5,.d (.int .i64 k))]) (fun _=>[]) (fun k=>(xs.take k).any (fun y=>y.id==x)=false) rfl ?_ ?_
 ·refine qaa [] [] rfl List.nodup_nil ?_ rfl
  simp only[zC,seval,Int.cast_ofNat_Int]
 ·intro k hi hk
  by_cases h:k<xs.length
  ·have hs:=qcs (fun y:qai=>y.id==x) xs k h
   simp only[zC,seval,(show(k:Int)<xs.length by omega),h,qaj _ _ _ (show k<xs.length by omega)]
   repeat((with_reducible apply aI);exact sdp)
   refine ifC.mk (fun hc=>?_) (fun hc=>?_)
   ·refine⟨_,_,qaq,?_,rfl⟩
    rw[qfu h hi hc]
   ·refine⟨by rw[hs,hi,hc];rfl,?_⟩
    refine qaa [] [] rfl List.nodup_nil ?_ rfl
    simp only[zC,seval,@qag ((k:Int)+1) (by omega)]
  ·simp only[zC,seval,(show ¬(k:Int)<xs.length by omega)]
   have:k=xs.length:=by omega
   subst this
   rw[List.take_length] at hi
   refine⟨_,_,qaq,?_,rfl⟩
   rw[qdh hi]
def qkw (l:List qai):List qai:=l.foldl (fun out x=>if qet (fun y:qai=>y.id==x.id) out<0 then out++[x] else out) []
theorem q18 (l:List qai) (k:Nat) (h:k<l.length):qkw (l.take (k+1))=if qet (fun y:qai=>y.id==(l.getD k default).id) (qkw (l.take k))<0 then qkw (l.take k)++[l.getD k default] else qkw (l.take k):=by
 rw[qa0 l k h];unfold qkw;rw[List.foldl_append];rfl
theorem q33 (x:Int):∀l:List qai,qet (fun y=>x==y) (l.map fun y=>y.id)=qet (fun y:qai=>y.id==x) l
 | []=>rfl
 | y::r=>by
  rw[List.map_cons,qet,qet,q33 x r]
  have:(x==y.id)=(y.id==x):=by rw[Bool.eq_iff_iff];simp;exact⟨fun h=>h.symm,fun h=>h.symm⟩
  rw[this]
theorem Qvc (x:Int) (l:List Int):qet (fun y=>x==y) l<0↔l.any (fun y=>x==y)=false:=by
 have h1:=qd5 (fun y=>x==y) l
 rw[←h1,decide_eq_false_iff_not]
 omega
theorem qw9 (l:List qai):∀k,(qkw (l.take k)).map (fun y=>y.id)=qc5 (l.take k)
 | 0=>by simp[qkw,qc5]
 | k+1=>by
  have ih:=qw9 l k
  by_cases h:k<l.length
  ·rw[q18 l k h,qlh l k h,←ih]
   have e:qet (fun y:qai=>y.id==(l.getD k default).id) (qkw (l.take k))<0↔((qkw (l.take k)).map fun y=>y.id).any (fun y=>(l.getD k default).id==y)=false:=by rw[←q33,Qvc]
   by_cases hc:qet (fun y:qai=>y.id==(l.getD k default).id) (qkw (l.take k))<0
   ·rw[if_pos hc,if_neg (by rw[e.1 hc];simp),List.map_append];rfl
   ·rw[if_neg hc,if_pos (by
     cases hq:((qkw (l.take k)).map fun y=>y.id).any (fun y=>(l.getD k default).id==y)
     ·exact absurd (e.2 hq) hc
     ·rfl)]
  ·rw[List.take_of_length_le (by omega)]
   rw[List.take_of_length_le (by omega)] at ih
   exact ih
theorem Qnb (l:List qai) (k:Nat):(qkw (l.take k)).length≤k:=by
 have:=qkx l k
 rw[←qw9,List.length_map] at this
 exact this
theorem Qaf (l:List qai) (hl:l.length<1000000):qbc prog Gl 199 [.d (.sl (l.map qai.toD))] (.d (.sl ((qkw l).map qai.toD))):=by
 refine qbc.of1 ?_
 refine qac func199 rfl rfl (by simp[ntmps199]) (qab rfl _ _ _ _ ?_)
 simp only[ntmps199,results199,qak,List.length_nil]
 simp only[zC,seval]
 refine qap l.length (fun k=>[(0,.d (.sl (l.map qai.toD))),(3,.osl 0 0 (qkw (l.take k)).length),(4,.d (.int .i64 k))]) (fun k=>[.arr 3 ((qkw (l.take k)).map qai.toD)]) (fun _=>True) trivial ?_ ?_
 ·refine(qep 3 3 rfl).trans ?_
  refine qaa [] [0] rfl (by simp) ?_ ?_
  ·simp only[zC,seval,Int.cast_ofNat_Int]
   all_goals rfl
  ·rfl
 ·intro k _ hk
  have hdl:=Qnb l k
  by_cases h:k<l.length
  ·have hs:=q18 l k h
   obtain⟨ys,hys⟩:∃ys,ys=qkw (l.take k):=⟨_,rfl⟩
   rw[←hys] at hs hdl ⊢
   simp only[zC,seval,(show(k:Int)<l.length by omega),h,qaj _ _ _ (show k<l.length by omega)]
   repeat((with_reducible apply aI);exact sdp)
   refine qk1 0 (fun B hB=>Qp5 ys _ (by omega) B hB) (fun _=>rfl) rfl ?_
   simp only[zC,seval]
   refine ifC.mk (fun hc=>?_) (fun hc=>?_)
   ·rw[if_pos (by simpa using hc)] at hs
    simp only[zC,seval,qbe,(show(k:Int)<l.length by omega),h,qaj _ _ _ (show k<l.length by omega)]
    repeat((with_reducible apply aI);exact sdp)
    rw[hs]
    refine qaa [] [2] rfl (by simp) ?_ ?_
    ·simp only[zC,seval,@qag ((k:Int)+1) (by omega)]
     all_goals rfl
    ·simp only[zC,seval,List.map_append]
     all_goals rfl
   ·rw[if_neg (by simpa using hc)] at hs
    simp only[zC,seval,hs]
    refine qaa [] [0] rfl (by simp) ?_ rfl
    simp only[zC,seval,@qag ((k:Int)+1) (by omega)]
    all_goals rfl
  ·have:k=l.length:=by omega
   subst this
   simp only[zC,seval,(show ¬(l.length:Int)<l.length by omega),List.take_length]
   refine⟨_,_,qf4 rfl ?_,rfl,rfl⟩
   simp only[zC,seval,qbe]
theorem Quz (s:qas):qbc prog Gl 201 [.d s.toD] (.d (.bool (qc0 s))):=by
 refine qbc.of1 ?_
 refine qac func201 rfl rfl (by simp[ntmps201]) (qab rfl _ _ _ _ ?_)
 simp only[ntmps201,results201,qak,List.length_nil]
 simp only[zC,seval]
 repeat((with_reducible apply aI);exact sdp)
 refine ifC.mk (fun h1=>?_) (fun h1=>?_)
 ·refine⟨_,_,qaq,?_,rfl⟩
  refine congrArg (fun b=>AV.d (D.bool b)) ?_
  unfold qc0
  cases e4:(s.state==4)<;>cases e2:(s.state==2)<;>simp_all<;>omega
 ·repeat((with_reducible apply aI);exact sdp)
  have e63:decide (63<s.cpu)=decide (64≤s.cpu):=by rw[decide_eq_decide];omega
  rw[e63]
  refine ifC.mk (fun h2=>?_) (fun h2=>?_)
  ·refine⟨_,_,qaq,?_,rfl⟩
   refine congrArg (fun b=>AV.d (D.bool b)) ?_
   unfold qc0
   cases e4:(s.state==4)<;>cases e2:(s.state==2)<;>simp_all<;>omega
  ·repeat((with_reducible apply aI);exact sdp)
   refine ifC.mk (fun h3=>?_) (fun h3=>?_)
   ·refine⟨_,_,qaq,?_,rfl⟩
    refine congrArg (fun b=>AV.d (D.bool b)) ?_
    unfold qc0
    cases e4:(s.state==4)<;>cases e2:(s.state==2)<;>simp_all<;>omega
   ·repeat((with_reducible apply aI);exact sdp)
    have e:(decide (0≤s.by_)&&decide (s.by_≤1000000000000000)&&(s.state==1||s.state==2))=((s.state==1||s.state==2)&&decide (0≤s.by_)&&decide (s.by_≤1000000000000000)):=by
     cases decide (0≤s.by_)<;>cases decide (s.by_≤1000000000000000)<;>cases (s.state==1||s.state==2)<;>rfl
    rw[e]
    refine⟨_,_,qaq,?_,rfl⟩
    refine congrArg (fun b=>AV.d (D.bool b)) ?_
    unfold qc0
    cases e4:(s.state==4)<;>cases e2:(s.state==2)<;>simp_all<;>omega
theorem qoo {α:Type} [Inhabited α] {p:α→Bool}:∀{l:List α} {k:Nat},qet p l=k→p (l.getD k default)=true
 | [],k,h=>by simp[qet] at h
 | b::r,k,h=>by
  rw[qet] at h
  split at h
  ·rename_i hp
   have:k=0:=by omega
   subst this
   simpa using hp
  ·split at h
   ·omega
   ·have hg:=qi5 p r
    obtain⟨j,rfl⟩:∃j,k=j+1:=⟨k-1,by omega⟩
    have:=qoo (p:=p) (l:=r) (k:=j) (by omega)
    simpa using this
theorem Qev {ids:List Int} {x y:Int} (h:0≤qez ids x) (e:qez ids x=qez ids y):x=y:=by
 unfold qez at h e
 obtain⟨k,hk⟩:∃k:Nat,qet (fun z=>x==z) ids=k:=⟨(qet (fun z=>x==z) ids).toNat,by omega⟩
 have h1:=qoo hk
 have h2:=qoo (e▸hk)
 simp only[beq_iff_eq] at h1 h2
 rw[h1,h2]
end YtljpopkonkanlaaGreatDoor
end Go.Proofs

set_option maxRecDepth 100000
namespace Go.Proofs
open Go.AM Tryz
namespace YtljpopkonkanlaaGreatDoor
theorem Qsm {a b:Int} (h:qfh a b=true):0≤a∧a<b∧b≤1000000000000:=by
 unfold qfh at h;simp only[Bool.and_eq_true,decide_eq_true_eq] at h;omega
structure StB (K:List Int) (x:qas):Prop where
 ix:0≤qez K x.thread
 sp:qfh x.lo x.hi=true
 fd:qc0 x=true
def gd (K:List Int) (E:Int):List qas→Prop
 | []=>True
 | [x]=>StB K x∧qez K x.thread=0∧x.lo=0
 | x::y::o=>StB K x∧((x.thread=y.thread∧x.lo=y.hi∧q2t x y=false)∨(qez K x.thread=qez K y.thread+1∧x.lo=0∧y.hi=E))∧gd K E (y::o)
theorem Qmg {K:List Int} {E:Int} {x:qas} {o:List qas} (h:gd K E (x::o)):gd K E o:=by
 cases o with
 | nil=>trivial
 | cons y o=>exact h.2.2
theorem Qao {K:List Int} {E:Int} {x:qas} {o:List qas} (h:gd K E (x::o)):StB K x:=by
 cases o with
 | nil=>exact h.1
 | cons y o=>exact h.1
theorem q2n {l:List qas} {k:Nat} (h:k<l.length):(l.take (k+1)).reverse=l.getD k default::(l.take k).reverse:=by
 rw[qa0 l k h,List.reverse_append];rfl
theorem Qfg {ths:List qai} {l:List qas} (h:qei ths l=0) (hl:l≠[]):∃x r,l.reverse=x::r∧gd (qc5 ths) x.hi (x::r)∧qez (qc5 ths) x.thread+1=(qc5 ths).length:=by
 have hpos:0<l.length:=List.length_pos_iff.2 hl
 obtain⟨h0,h⟩:=qoh h
 rw[if_neg (by omega)] at h
 split at h
 ·cases h
 rename_i h1
 split at h
 ·rename_i h2
  have h1:(List.range l.length).all (qkv l)=true:=by simpa using h1
  obtain⟨E,hE⟩:∃E,E=(l.getD (l.length-1) default).hi:=⟨_,rfl⟩
  have hend:∀i,i+1<l.length→(l.getD (i+1) default).thread≠(l.getD i default).thread→(l.getD i default).hi=E:=fun i hi hne=>by
   have:=List.all_eq_true.1 h1 i (List.mem_range.2 (by omega))
   unfold qkv at this
   rw[←hE] at this
   simp only[Bool.not_eq_true',Bool.and_eq_false_iff,Bool.or_eq_false_iff,bne_eq_false_iff_eq] at this
   rcases this with h3|h3
   ·exact absurd h3.2 hne
   ·exact h3
  have key:∀k,k≤l.length→gd (qc5 ths) E (l.take k).reverse:=by
   intro k
   induction k with
   | zero=>intro _;trivial
   | succ k ih=>
    intro hk
    have ih:=ih (by omega)
    have hu:=qca h0 k (by omega)
    unfold uAt at hu
    split at hu
    ·cases hu
    rename_i u1
    split at hu
    ·cases hu
    rename_i u2
    split at hu
    ·cases hu
    rename_i u3
    split at hu
    ·cases hu
    rename_i u4
    have hb:StB (qc5 ths) (l.getD k default):=⟨by omega,by simpa using u2,by simpa using u3⟩
    have u4:q1f (qc5 ths) l k=false:=by simpa using u4
    unfold q1f at u4
    simp only[Bool.or_eq_false_iff,Bool.and_eq_false_iff,beq_eq_false_iff_ne,bne_eq_false_iff_eq] at u4
    obtain⟨u5,u6⟩:=u4
    rw[q2n (by omega)]
    cases k with
    | zero=>
     rw[List.take_zero]
     show StB _ _∧_∧_
     have e:atU (qc5 ths) l 0=-1:=rfl
     rw[e] at u6
     rcases u6 with u6|u6
     ·have:=hb.ix;omega
     ·exact⟨hb,by omega,u6.2⟩
    | succ k=>
     rw[q2n (by omega)] at ih ⊢
     have e:atU (qc5 ths) l (k+1)=qez (qc5 ths) (l.getD k default).thread:=rfl
     rw[e] at u5 u6
     rw[Nat.add_sub_cancel] at u5
     refine⟨hb,?_,ih⟩
     by_cases hs:qez (qc5 ths) (l.getD (k+1) default).thread=qez (qc5 ths) (l.getD k default).thread
     ·rcases u5 with u5|u5
      ·exact absurd hs u5
      ·exact .inl ⟨Qev hb.ix hs,u5.1,u5.2⟩
     ·rcases u6 with u6|u6
      ·exact absurd u6 hs
      ·exact .inr ⟨u6.1,u6.2,hend k (by omega) fun he=>hs (by rw[he])⟩
  have hk:=key l.length (Nat.le_refl _)
  obtain⟨n,hn⟩:∃n,l.length=n+1:=⟨l.length-1,by omega⟩
  have hr:=q2n (l:=l) (k:=n) (by omega)
  rw[←hn,List.take_length] at hr
  rw[List.take_length] at hk
  have eE:E=(l.getD n default).hi:=by rw[hE,hn];rfl
  refine⟨l.getD n default,(l.take n).reverse,hr,by rw[←eE,←hr];exact hk,?_⟩
  rw[hn] at h2
  exact h2
 ·cases h
theorem Qyw {K:List Int} {E:Int}:∀{r:List qas},gd K E r→(∀i,i<r.length→uAt K r.reverse i=0)∧∀i,i+1<r.length→(r.reverse.getD (i+1) default).thread≠(r.reverse.getD i default).thread→(r.reverse.getD i default).hi=E
 | [],_=>⟨fun i hi=>absurd hi (Nat.not_lt_zero _),fun i hi=>absurd hi (Nat.not_lt_zero _)⟩
 | x::o,h=>by
  obtain⟨i1,i2⟩:=Qyw (Qmg h)
  have hb:=Qao h
  have gA:∀i,i<o.length→(x::o).reverse.getD i default=o.reverse.getD i default:=fun i hi=>by
   rw[List.reverse_cons,List.getD_eq_getElem?_getD,List.getElem?_append_left (by simpa using hi),List.getD_eq_getElem?_getD]
  have gL:(x::o).reverse.getD o.length default=x:=by
   rw[List.reverse_cons,List.getD_eq_getElem?_getD,List.getElem?_append_right (by simp)];simp
  have aA:∀i,i≤o.length→atU K (x::o).reverse i=atU K o.reverse i:=fun i hi=>by
   cases i with
   | zero=>rfl
   | succ i=>rw[atU,atU,gA i (by omega)]
  refine⟨fun i hi=>?_,fun i hi hne=>?_⟩
  ·by_cases hio:i<o.length
   ·have e:uAt K (x::o).reverse i=uAt K o.reverse i:=by
     unfold uAt q1f
     simp only
     rw[gA i hio,gA (i-1) (by omega),aA i (by omega)]
    rw[e];exact i1 i hio
   ·have:i=o.length:=by simp at hi;omega
    subst this
    unfold uAt
    rw[gL,if_neg (by have:=hb.ix;omega),if_neg (by rw[hb.sp];simp),if_neg (by rw[hb.fd];simp),if_neg]
    unfold q1f
    simp only
    rw[gL,aA _ (Nat.le_refl _)]
    cases o with
    | nil=>
     obtain⟨_,h2,h3⟩:=h
     rw[h2,h3,show atU K ([]:List qas).reverse ([]:List qas).length=-1 from rfl];simp
    | cons y o=>
     obtain⟨_,h2,_⟩:=h
     have e1:atU K (y::o).reverse (y::o).length=qez K y.thread:=by
      show qez K ((y::o).reverse.getD o.length default).thread=_
      rw[List.reverse_cons,List.getD_eq_getElem?_getD,List.getElem?_append_right (by simp)];simp
     have e2:(x::y::o).reverse.getD ((y::o).length-1) default=y:=by
      rw[gA _ (by simp)]
      show(y::o).reverse.getD o.length default=y
      rw[List.reverse_cons,List.getD_eq_getElem?_getD,List.getElem?_append_right (by simp)];simp
     rw[e1,e2]
     rcases h2 with⟨a,b,c⟩|⟨a,b,c⟩
     ·rw[a,b,c];simp
     ·rw[a,b];simp;omega
  ·by_cases hio:i+1<o.length
   ·rw[gA _ hio,gA _ (by omega)] at hne
    rw[gA _ (by omega)]
    exact i2 i hio hne
   ·have e:i+1=o.length:=by simp at hi;omega
    cases o with
    | nil=>simp at e
    | cons y o=>
     have e':i=o.length:=by simpa using e
     subst e'
     have e2:(x::y::o).reverse.getD o.length default=y:=by
      rw[gA _ (by simp),List.reverse_cons,List.getD_eq_getElem?_getD,List.getElem?_append_right (by simp)];simp
     rw[e,gL,e2] at hne
     rw[e2]
     rcases h.2.1 with⟨a,_⟩|⟨_,_,c⟩
     ·exact absurd a hne
     ·exact c
theorem Qpb {ths:List qai} {x:qas} {r:List qas} (h:gd (qc5 ths) x.hi (x::r)) (he:qez (qc5 ths) x.thread+1=(qc5 ths).length):qei ths (x::r).reverse=0:=by
 obtain⟨h1,h2⟩:=Qyw h
 obtain⟨l,hl⟩:∃l,l=(x::r).reverse:=⟨_,rfl⟩
 have hlen:l.length=r.length+1:=by rw[hl];simp
 have gL:l.getD r.length default=x:=by
  rw[hl,List.reverse_cons,List.getD_eq_getElem?_getD,List.getElem?_append_right (by simp)];simp
 rw[←hl] at h1 h2 ⊢
 refine qfi (qdw fun k hk=>h1 k (by simp;omega)) ?_
 rw[if_neg (by omega),if_neg,if_pos]
 ·rw[hlen]
  show qez _ (l.getD r.length default).thread+1=_
  rw[gL,he]
 ·rw[Bool.not_eq_false,List.all_eq_true]
  intro i hi
  have hi:i<l.length:=List.mem_range.1 hi
  unfold qkv
  rw[hlen,Nat.add_sub_cancel,gL]
  simp only[Bool.not_eq_true',Bool.and_eq_false_iff,Bool.or_eq_false_iff,bne_eq_false_iff_eq]
  by_cases hl2:i+1<l.length
  ·by_cases ht:(l.getD (i+1) default).thread=(l.getD i default).thread
   ·exact .inl ⟨by rw[beq_eq_false_iff_ne];omega,ht⟩
   ·exact .inr (h2 i (by simp;omega) ht)
  ·have:i=r.length:=by omega
   subst this
   rw[gL];exact .inr rfl
def stR (g:Int→Bool) (x:qas):List qas→List qas
 | []=>if g x.thread=true then[] else[qf7 g x]
 | y::o=>if g x.thread=true then y::o else if qi1 y (qf7 g x)=true then {y with hi:=(qf7 g x).hi,by_:=(qf7 g x).by_}::o else qf7 g x::y::o
theorem Qf2 {g:Int→Bool} {x:qas} (h:g x.thread=true) (R:List qas):stR g x R=R:=by cases R<;>simp[stR,h]
theorem Qiu {g:Int→Bool} {x:qas} (h:g x.thread=false):stR g x []=[qf7 g x]:=by simp[stR,h]
theorem Quf {g:Int→Bool} {x y:qas} {o:List qas} (h:g x.thread=false) (hl:qi1 y (qf7 g x)=true):stR g x (y::o)={y with hi:=(qf7 g x).hi,by_:=(qf7 g x).by_}::o:=by simp[stR,h,hl]
theorem Qor {g:Int→Bool} {x y:qas} {o:List qas} (h:g x.thread=false) (hl:¬qi1 y (qf7 g x)=true):stR g x (y::o)=qf7 g x::y::o:=by simp[stR,h,hl]
def qyr (g:Int→Bool):List qas→List qas
 | []=>[]
 | x::r=>stR g x (qyr g r)
theorem Qud (g:Int→Bool) (x:qas) (out:List qas):(stS g out.reverse x).reverse=stR g x out:=by
 unfold stS
 cases out with
 | nil=>
  cases hx:g x.thread with
  | true=>rw[Qf2 hx,if_pos rfl];rfl
  | false=>
   rw[Qiu hx,if_neg (by simp)]
   unfold Qn5
   rw[if_neg (by simp)];rfl
 | cons y o=>
  have e:(y::o).reverse.getD ((y::o).reverse.length-1) default=y:=by
   rw[List.reverse_cons,List.getD_eq_getElem?_getD,List.getElem?_append_right (by simp)];simp
  cases hx:g x.thread with
  | true=>rw[Qf2 hx,if_pos rfl,List.reverse_reverse]
  | false=>
   rw[if_neg (by simp)]
   unfold Qn5
   rw[e]
   by_cases h:qi1 y (qf7 g x)=true
   ·rw[if_pos ⟨by simp,h⟩,Quf hx h]
    rw[List.reverse_cons,List.set_append_right _ _ (by simp)]
    simp
   ·rw[if_neg (by simp[h]),Qor hx h,List.reverse_append,List.reverse_reverse];rfl
theorem qla (g:Int→Bool):∀r:List qas,(qdk g r.reverse).reverse=qyr g r
 | []=>rfl
 | x::r=>by
  rw[List.reverse_cons,qdk,List.foldl_append,List.foldl_cons,List.foldl_nil]
  show(stS g (qdk g r.reverse) x).reverse=stR g x (qyr g r)
  rw[←qla g r,←Qud,List.reverse_reverse]
theorem q15 (s:qas):qc0 s=true↔(0≤s.state∧s.state≤5)∧(if s.state=4 then 0≤s.cpu∧s.cpu<64 else s.cpu=-1)∧(if s.state=2 then 0≤s.on_∧s.on_≤1000000000000000 else s.on_=-1)∧(s.by_=-1∨(s.state=1∨s.state=2)∧0≤s.by_∧s.by_≤1000000000000000):=by
 unfold qc0
 simp only[Bool.and_eq_true,Bool.or_eq_true,decide_eq_true_eq,beq_iff_eq]
 constructor
 ·rintro⟨⟨⟨h1,h2⟩,h3⟩,h4⟩
  refine⟨h1,?_,?_,?_⟩
  ·split at h2<;>rename_i h<;>simp_all
  ·split at h3<;>rename_i h<;>simp_all
  ·rcases h4 with h4|h4
   ·exact .inl h4
   ·exact .inr ⟨h4.1.1,h4.1.2,h4.2⟩
 ·rintro⟨h1,h2,h3,h4⟩
  refine⟨⟨⟨h1,?_⟩,?_⟩,?_⟩
  ·split at h2<;>rename_i h<;>simp_all
  ·split at h3<;>rename_i h<;>simp_all
  ·rcases h4 with h4|h4
   ·exact .inl h4
   ·exact .inr ⟨⟨h4.1,h4.2.1⟩,h4.2.2⟩
theorem Qn4 {g:Int→Bool} (hg:g (-1)=false) {x:qas} (h:qc0 x=true):qc0 (qf7 g x)=true:=by
 rw[q15] at h ⊢
 obtain⟨h1,h2,h3,h4⟩:=h
 have hby:(qf7 g x).by_=-1∨(qf7 g x).by_=x.by_:=by
  show(if g x.by_=true then -1 else x.by_)=-1∨(if g x.by_=true then -1 else x.by_)=x.by_
  split
  ·exact .inl rfl
  ·exact .inr rfl
 by_cases ho:g x.on_=true
 ·have hne:x.on_≠-1:=fun he=>by rw[he,hg] at ho;cases ho
  have hs:x.state=2:=Classical.byContradiction fun hs=>by rw[if_neg hs] at h3;exact hne h3
  have e1:(qf7 g x).state=1:=if_pos ho
  have e2:(qf7 g x).on_=-1:=if_pos ho
  have e3:(qf7 g x).cpu=x.cpu:=rfl
  rw[hs,if_neg (by decide)] at h2
  rw[e1,e2,e3]
  refine⟨by decide,by rw[if_neg (by decide)];exact h2,by rw[if_neg (by decide)],?_⟩
  rcases hby with hb|hb
  ·exact .inl hb
  ·rw[hb]
   rcases h4 with h4|h4
   ·exact .inl h4
   ·exact .inr ⟨.inl rfl,h4.2⟩
 ·have e1:(qf7 g x).state=x.state:=if_neg ho
  have e2:(qf7 g x).on_=x.on_:=if_neg ho
  have e3:(qf7 g x).cpu=x.cpu:=rfl
  rw[e1,e2,e3]
  refine⟨h1,h2,h3,?_⟩
  rcases hby with hb|hb
  ·exact .inl hb
  ·rw[hb];exact h4
theorem Qgn {y x:qas} (h:qi1 y x=true) (hx:qc0 x=true) (hi:Int):qc0 {y with hi:=hi,by_:=x.by_}=true:=by
 unfold qi1 at h
 simp only[Bool.and_eq_true,beq_iff_eq] at h
 obtain⟨⟨⟨l1,l2⟩,l3⟩,l4⟩:=h
 rw[q15] at hx ⊢
 show(0≤y.state∧y.state≤5)∧_
 rw[←l2,←l3,←l4] at hx
 exact hx
def cnt (g:Int→Bool) (K:List Int) (n:Int):Int:=(((K.take n.toNat).filter fun i=>!g i).length:Int)
theorem qsw {g:Int→Bool} {x:Int} (hx:g x=false):∀{K:List Int},0≤qez K x→qez (K.filter fun i=>!g i) x=cnt g K (qez K x)
 | [],h=>by simp[qez,qet] at h
 | a::K,h=>by
  have eI:qez (a::K) x=if(x==a)=true then 0 else if qez K x=-1 then -1 else qez K x+1:=rfl
  have eC:∀b M,qez (b::M) x=if(x==b)=true then 0 else if qez M x=-1 then -1 else qez M x+1:=fun _ _=>rfl
  rw[eI] at h ⊢
  by_cases ha:x=a
  ·subst ha
   rw[if_pos (by simp)]
   rw[List.filter_cons_of_pos (by rw[hx];rfl),eC,if_pos (by simp)];rfl
  ·rw[if_neg (by simpa using ha)] at h ⊢
   have h0:=q32 K x
   by_cases hn:qez K x=-1
   ·rw[if_pos hn] at h;omega
   ·rw[if_neg hn] at h ⊢
    have ih:=qsw hx (K:=K) (by omega)
    have et:(qez K x+1).toNat=(qez K x).toNat+1:=by omega
    have hnn:0≤cnt g K (qez K x):=Int.natCast_nonneg _
    unfold cnt
    rw[et,List.take_succ_cons]
    by_cases hga:g a=true
    ·rw[List.filter_cons_of_neg (by rw[hga];simp),List.filter_cons_of_neg (by rw[hga];simp)]
     exact ih
    ·rw[List.filter_cons_of_pos (by simpa using hga),List.filter_cons_of_pos (by simpa using hga),eC,if_neg (by simpa using ha),List.length_cons,ih,if_neg (by omega)]
     unfold cnt
     omega
theorem Qff {g:Int→Bool} {K:List Int} {x:Int} (h:0≤qez K x):cnt g K (qez K x+1)=cnt g K (qez K x)+(if g x=true then 0 else 1):=by
 obtain⟨j,hj⟩:∃j:Nat,qez K x=j:=⟨(qez K x).toNat,by omega⟩
 have hlt:qez K x<K.length:=qmv _ _
 have h1:=qoo hj
 simp only[beq_iff_eq] at h1
 have hjl:j<K.length:=by omega
 unfold cnt
 rw[hj,show((j:Int)+1).toNat=j+1 by omega,Int.toNat_natCast,qa0 K j hjl,List.filter_append,List.length_append,←h1]
 cases hgx:g x with
 | true=>rw[List.filter_cons_of_neg (by rw[hgx];simp)];simp
 | false=>rw[List.filter_cons_of_pos (by rw[hgx];rfl)];simp
theorem Qhm {g:Int→Bool} (hg:g (-1)=false) {K:List Int} {E:Int}:∀{x:qas} {r:List qas},gd K E (x::r) →
  gd (K.filter fun i=>!g i) E (qyr g (x::r)) ∧
  ((qyr g (x::r)=[]∧cnt g K (qez K x.thread+1)=0∧g x.thread=true)∨∃z o,qyr g (x::r)=z::o∧g z.thread=false∧qez (K.filter fun i=>!g i) z.thread+1=cnt g K (qez K x.thread+1)∧(g x.thread=false→qi1 z (qf7 g x)=true∧z.hi=x.hi)∧(g x.thread=true→z.hi=E)):=by
 intro x r
 obtain⟨K',hK'⟩:∃K',K'=K.filter fun i=>!g i:=⟨_,rfl⟩
 rw[←hK']
 have base:∀{x:qas},StB K x→g x.thread=false→StB K' (qf7 g x):=fun {x} hb hx=>by
  refine⟨?_,hb.sp,Qn4 hg hb.fd⟩
  rw[hK']
  show 0≤qez _ x.thread
  rw[qsw hx hb.ix];exact Int.natCast_nonneg _
 have self_like:∀x:qas,qi1 (qf7 g x) (qf7 g x)=true:=fun x=>by unfold qi1;simp
 induction r generalizing x with
 | nil=>
  intro h
  obtain⟨hb,h2,h3⟩:=h
  have hc:=Qff (g:=g) hb.ix
  have c0:cnt g K 0=0:=rfl
  show gd K' E (stR g x [])∧_
  by_cases hx:g x.thread=true
  ·have e:qyr g [x]=[]:=Qf2 hx []
   rw[if_pos hx,h2,c0] at hc
   refine⟨?_,.inl ⟨e,by rw[h2];exact hc,hx⟩⟩
   show gd K' E (qyr g [x]);rw[e];trivial
  ·have hx:g x.thread=false:=by simpa using hx
   have e:qyr g [x]=[qf7 g x]:=Qiu hx
   have hi:=qsw hx hb.ix
   rw[←hK',h2,c0] at hi
   rw[hx,if_neg (by simp),h2,c0] at hc
   refine⟨?_,.inr ⟨qf7 g x,[],e,hx,?_,(fun _=>⟨self_like x,rfl⟩),(fun h=>by rw[hx] at h;cases h)⟩⟩
   ·show gd K' E (qyr g [x]);rw[e]
    exact⟨base hb hx,hi,h3⟩
   ·show qez K' x.thread+1=_
    rw[hi,h2];exact hc.symm
 | cons y r ih=>
  intro h
  obtain⟨hb,hor,ht⟩:=h
  obtain⟨i1,i2⟩:=ih ht
  have hby:=Qao ht
  have hc:=Qff (g:=g) hb.ix
  have e0:qyr g (x::y::r)=stR g x (qyr g (y::r)):=rfl
  rw[e0]
  obtain⟨R,hR⟩:∃R,R=qyr g (y::r):=⟨_,rfl⟩
  rw[←hR] at i1 i2 ⊢
  clear hR e0
  by_cases hx:g x.thread=true
  · -- the state goes
   have e:stR g x R=R:=Qf2 hx R
   rw[e]
   refine⟨i1,?_⟩
   rw[if_pos hx] at hc
   have hcnt:cnt g K (qez K x.thread+1)=cnt g K (qez K y.thread+1):=by
    rcases hor with⟨a,_⟩|⟨a,_⟩
    ·rw[a]
    ·rw[hc,a];omega
   rw[hcnt]
   rcases i2 with⟨a,b,c⟩|⟨z,o,a,hz,b,c,d⟩
   ·exact .inl ⟨a,b,hx⟩
   ·refine .inr ⟨z,o,a,hz,b,(fun h=>by rw[hx] at h;cases h),fun _=>?_⟩
    cases hy:g y.thread with
    | true=>exact d hy
    | false=>
     rcases hor with⟨p,_⟩|⟨_,_,p⟩
     ·rw[p,hy] at hx;cases hx
     ·rw[(c hy).2];exact p
  ·have hx:g x.thread=false:=by simpa using hx
   have nx:¬g x.thread=true:=by rw[hx];simp
   have hi:=qsw hx hb.ix
   rw[←hK'] at hi
   rw[if_neg nx] at hc
   have hB:=base hb hx
   have fin:qez K' (qf7 g x).thread+1=cnt g K (qez K x.thread+1):=by
    show qez K' x.thread+1=_
    rw[hi,hc]
   rcases i2 with⟨a,b,c⟩|⟨z,o,a,hz,b,c,d⟩
   ·subst a
    have e:stR g x []=[qf7 g x]:=Qiu hx
    rw[e]
    rcases hor with⟨p,_⟩|⟨p,q,_⟩
    ·rw[p,c] at hx;cases hx
    ·refine⟨⟨hB,?_,q⟩,.inr ⟨_,_,rfl,hx,fin,(fun _=>⟨self_like x,rfl⟩),(fun h=>by rw[hx] at h;cases h)⟩⟩
     show qez K' x.thread=0
     rw[hi,p];exact b
   ·subst a
    by_cases hlk:qi1 z (qf7 g x)=true
    ·have e:stR g x (z::o)={z with hi:=(qf7 g x).hi,by_:=(qf7 g x).by_}::o:=Quf hx hlk
     rw[e]
     have hlk':=hlk
     unfold qi1 at hlk'
     simp only[Bool.and_eq_true,beq_iff_eq] at hlk'
     obtain⟨⟨⟨l1,l2⟩,l3⟩,l4⟩:=hlk'
     have l1':z.thread=x.thread:=l1
     have hy:g y.thread=false∧x.lo=y.hi∧x.thread=y.thread:=by
      rcases hor with⟨p,q,_⟩|⟨p,_,_⟩
      ·exact⟨by rw[←p];exact hx,q,p⟩
      ·exfalso
       rw[l1',hi] at b
       rw[p] at b
       omega
     obtain⟨hy,hlo,hth⟩:=hy
     have hzh:=(c hy).2
     have hbz:=Qao i1
     have s1:=Qsm hbz.sp
     have s2:=Qsm hb.sp
     have sp:qfh z.lo x.hi=true:=by
      unfold qfh
      simp only[Bool.and_eq_true,decide_eq_true_eq]
      omega
     refine⟨?_,.inr ⟨_,_,rfl,hz,?_,(fun _=>⟨?_,rfl⟩),(fun h=>by rw[hx] at h;cases h)⟩⟩
     ·have hn:StB K' {z with hi:=(qf7 g x).hi,by_:=(qf7 g x).by_}:=⟨hbz.ix,sp,Qgn hlk hB.fd _⟩
      cases o with
      | nil=>exact⟨hn,i1.2⟩
      | cons w o=>exact⟨hn,i1.2⟩
     ·show qez K' z.thread+1=_
      rw[b,hth]
     ·exact hlk
    ·have e:stR g x (z::o)=qf7 g x::z::o:=Qor hx hlk
     rw[e]
     refine⟨⟨hB,?_,i1⟩,.inr ⟨_,_,rfl,hx,fin,(fun _=>⟨self_like x,rfl⟩),(fun h=>by rw[hx] at h;cases h)⟩⟩
     rcases hor with⟨p,q,_⟩|⟨p,q,s⟩
     ·have hy:g y.thread=false:=by rw[←p];exact hx
      obtain⟨c1,c2⟩:=c hy
      unfold qi1 at c1
      simp only[Bool.and_eq_true,beq_iff_eq] at c1
      have et:z.thread=x.thread:=c1.1.1.1.trans p.symm
      refine .inl ⟨et.symm,by rw[c2];exact q,?_⟩
      rw[Bool.eq_false_iff]
      intro hs
      unfold q2t at hs
      simp only[Bool.and_eq_true,beq_iff_eq] at hs
      apply hlk
      unfold qi1
      simp only[Bool.and_eq_true,beq_iff_eq]
      exact⟨⟨⟨et,hs.1.1.symm⟩,hs.1.2.symm⟩,hs.2.symm⟩
     ·refine .inr ⟨?_,q,?_⟩
      ·show qez K' x.thread=_
       rw[hi,b,p]
      ·cases hy:g y.thread with
       | true=>exact d hy
       | false=>rw[(c hy).2];exact s
theorem Qit {ths ths':List qai} {l:List qas} {g:Int→Bool} (hg:g (-1)=false) (h:qei ths l=0) (hd:qc5 ths'=(qc5 ths).filter fun i=>!g i):qei ths' (qdk g l)=0:=by
 have nil0:qei ths' []=0:=rfl
 by_cases hl:l=[]
 ·subst hl;exact nil0
 obtain⟨x,r,hr,h1,h2⟩:=Qfg h hl
 obtain⟨k1,k2⟩:=Qhm hg h1
 have hrev:(qdk g l).reverse=qyr g (x::r):=by rw[←qla g (x::r),←hr,List.reverse_reverse]
 have e:qdk g l=(qyr g (x::r)).reverse:=by rw[←hrev,List.reverse_reverse]
 rw[e]
 have hc:cnt g (qc5 ths) (qez (qc5 ths) x.thread+1)=(qc5 ths').length:=by
  unfold cnt
  rw[h2,Int.toNat_natCast,List.take_length,hd]
 rcases k2 with⟨a,_⟩|⟨z,o,a,hz,b,c,d⟩
 ·rw[a];exact nil0
 ·rw[a] at k1 ⊢
  have hzE:z.hi=x.hi:=by
   cases hx:g x.thread with
   | true=>exact d hx
   | false=>exact(c hx).2
  rw[←hd,←hzE] at k1
  refine Qpb k1 ?_
  rw[←hd] at b
  rw[b,hc]
theorem q48 (g:Int→Bool) (lo hi:Int):∀r:List qas,(∀x∈r,lo≤x.lo∧x.hi≤hi)→∀x∈qyr g r,lo≤x.lo∧x.hi≤hi
 | [],_,x,hx=>by cases hx
 | y::r,h,x,hx=>by
  have ih:=q48 g lo hi r fun z hz=>h z (List.mem_cons_of_mem _ hz)
  have hy:=h y List.mem_cons_self
  have hx:x∈stR g y (qyr g r):=hx
  obtain⟨R,hR⟩:∃R,R=qyr g r:=⟨_,rfl⟩
  rw[←hR] at ih hx
  have ha:lo≤(qf7 g y).lo∧(qf7 g y).hi≤hi:=hy
  cases R with
  | nil=>
   cases hg:g y.thread with
   | true=>rw[Qf2 hg] at hx;cases hx
   | false=>rw[Qiu hg,List.mem_singleton] at hx;rw[hx];exact ha
  | cons z o=>
   cases hg:g y.thread with
   | true=>rw[Qf2 hg] at hx;exact ih x hx
   | false=>
   by_cases hl:qi1 z (qf7 g y)=true
   ·rw[Quf hg hl] at hx
    rcases List.mem_cons.1 hx with hx|hx
    ·rw[hx];exact⟨(ih z List.mem_cons_self).1,hy.2⟩
    ·exact ih x (List.mem_cons_of_mem _ hx)
   ·rw[Qor hg hl] at hx
    rcases List.mem_cons.1 hx with hx|hx
    ·rw[hx];exact ha
    ·exact ih x hx
end YtljpopkonkanlaaGreatDoor
end Go.Proofs

set_option maxRecDepth 100000
namespace Go.Proofs
open Go.AM Tryz
namespace YtljpopkonkanlaaGreatDoor
variable {Gl:qbb}

def nnT (H:List (List UInt8)) (x:qai):qai:={x with name:=qh7 H x.name}
def nnS (H:List (List UInt8)) (x:qae):qae:={x with name:=qh7 H x.name}
def nnA (H:List (List UInt8)) (x:qam):qam:={x with stack:=x.stack.map (qh7 H)}
def nnB (H:List (List UInt8)) (x:qaw):qaw:={x with stack:=x.stack.map (qh7 H)}
def nnC (H:List (List UInt8)) (x:qa7):qa7:={x with name:=qh7 H x.name}
def q4o (l:List qao) (t:qat):qat:=
 {t with threads:=t.threads.map (nnT (qd1 l qax (t.threads.map (·.name)))),slices:=t.slices.map (nnS (qd1 l qa5 (t.slices.map (·.name)))),samples:=t.samples.map (nnA (qd1 l qa4 (frN t))),blocks:=t.blocks.map (nnB (qd1 l qa4 (frN t))),steps:=qfd ltT (t.steps.map (nnC (qd1 l qay (t.steps.map (·.name)))))}
end YtljpopkonkanlaaGreatDoor
end Go.Proofs
